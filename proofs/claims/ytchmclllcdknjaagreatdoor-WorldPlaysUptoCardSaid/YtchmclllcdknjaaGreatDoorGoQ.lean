/-
  Equality of arrays and structs.
-/
import Derived.Test.YtchmclllcdknjaaGreatDoorGoG
import Derived.ChangeKeysEq
namespace Go.Proofs.YtchmclllcdknjaaGreatDoor
open Go.RowKit Enc
section
variable {P:Program}
def EqT (P:Program) (d:Nat) (t:TypeId) (α:Type) [Enc α] [DecidableEq α]:Prop :=
  ∀ (x y:α) (cs ds:List Value) (off:Nat) (w:World),Get cs off (enc x)→Get ds off (enc y) →
    ∃ a b,(part t cs.toArray off).run P w=.ok a w∧(part t ds.toArray off).run P w=.ok b w∧(Op.equalIn d t a b).run P w=.ok (decide (x=y)) w
theorem part1 {t:TypeId} {cs:List Value} {off:Nat} {v:Value} {w:World} (ha:∀ w,(isAgg t).run P w=.ok false w) (h:Get cs off [v]):(part t cs.toArray off).run P w=.ok v w:=by
  have:=h.at (j:=0) rfl
  simp at this
  simp [part,ha,this]
theorem partA {t:TypeId} {cs ch:List Value} {off s:Nat} {w:World} (ha:∀ w,(isAgg t).run P w=.ok true w) (hs:∀ w,(sizeOf t).run P w=.ok s w) (hl:ch.length=s) (h:Get cs off ch):(part t cs.toArray off).run P w=.ok (.agg ch.toArray) w:=by
  have:=h.extract hl
  simp [part,ha,hs]
  simpa using this
theorem EqT.int {d:Nat} {t:TypeId} (ha:∀ w,(isAgg t).run P w=.ok false w) (hu:∀ w,(underlying t).run P w=.ok (.int .i64) w):EqT P (d+1) t Int:=fun x y cs ds off w hx hy=>by
  refine ⟨_,_,part1 ha hx,part1 ha hy,?_⟩
  rw [run_equalIn_int w d t .i64 .i64 x y (und hu)]
  congr 1
theorem EqT.u8 {d:Nat} {t:TypeId} (ha:∀ w,(isAgg t).run P w=.ok false w) (hu:∀ w,(underlying t).run P w=.ok (.int .u8) w):EqT P (d+1) t (BitVec 8):=fun x y cs ds off w hx hy=>by
  refine ⟨_,_,part1 ha hx,part1 ha hy,?_⟩
  rw [run_equalIn_int w d t .u8 .u8 _ _ (und hu)]
  congr 1
  rw [Bool.eq_iff_iff]; simp [BitVec.toNat_inj,Int.natCast_inj]
theorem EqT.bool {d:Nat} {t:TypeId} (ha:∀ w,(isAgg t).run P w=.ok false w) (hu:∀ w,(underlying t).run P w=.ok .bool w):EqT P (d+1) t Bool:=fun x y cs ds off w hx hy=>by
  refine ⟨_,_,part1 ha hx,part1 ha hy,?_⟩
  rw [run_equalIn_bool w d t x y (und hu)]
  congr 1
theorem EqT.str {d:Nat} {t:TypeId} (ha:∀ w,(isAgg t).run P w=.ok false w) (hu:∀ w,(underlying t).run P w=.ok .string w):EqT P (d+1) t Str:=fun x y cs ds off w hx hy=>by
  refine ⟨_,_,part1 ha hx,part1 ha hy,?_⟩
  show (Op.equalIn (d+1) t (.string (Str.b x)) (.string (Str.b y))).run P w=_
  rw [run_equalIn_string w d t _ _ (und hu)]
  congr 1
  rw [Bool.eq_iff_iff]; simp [ByteArray.toList_eq,Str.b]
theorem run_eqItems {α:Type} [Enc α] [DecidableEq α] {d el c:Nat} (hE:EqT P d el α) {xs ys:List Value} {l m:List α} {w:World} (hc:c=sz α) (hx:xs=encs l) (hy:ys=encs m) (hlen:l.length=m.length) :
    ∀ (k i:Nat),i+k=l.length→(Op.eqItems d el c xs.toArray ys.toArray (List.range' i k)).run P w=.ok (decide (l.drop i=m.drop i)) w
  | 0,i,h=>by
    rw [List.drop_eq_nil_of_le (by omega),List.drop_eq_nil_of_le (by omega)]
    simp [Op.eqItems]
  | k+1,i,h=>by
    subst hx hy hc
    have h1:i < l.length:=by omega
    have h2:i < m.length:=by omega
    obtain ⟨a,b,p1,p2,p3⟩:=hE l[i] m[i] (encs l) (encs m) (i * sz α) w (by simpa using Get.elem (k:=0) (List.getElem?_eq_getElem h1) (Get.here _)) (by simpa using Get.elem (k:=0) (List.getElem?_eq_getElem h2) (Get.here _))
    have ih:=run_eqItems hE (w:=w) rfl rfl rfl hlen k (i+1) (by omega)
    have hdec:decide (l.drop i=m.drop i)=(decide (l[i]=m[i])&&decide (l.drop (i+1)=m.drop (i+1))):=by
      rw [List.drop_eq_getElem_cons h1,List.drop_eq_getElem_cons h2,Bool.eq_iff_iff]
      simp only [decide_eq_true_eq,List.cons.injEq,Bool.and_eq_true]
    rw [hdec]
    simp only [List.range'_succ,Op.eqItems,Sem.run_bind,p1,p2,p3,Result.andThen_ok]
    cases decide (l[i]=m[i])
    · simp
    · simpa using ih
theorem EqT.array {α:Type} [Enc α] [DecidableEq α] {d k el s:Nat} {t:TypeId} {inf:TypeInfo} (ha:∀ w,(isAgg t).run P w=.ok true w) (hs:∀ w,(sizeOf t).run P w=.ok s w) (hsz:s=k * sz α) (hu:∀ w,(underlying t).run P w=.ok (.array k el) w) (hi:P.info? el=some inf) (hc:P.cellsOf el=sz α)
    (hE:EqT P d el α):EqT P (d+1) t (Vector α k):=fun x y cs ds off w hx hy=>by
  refine ⟨_,_,partA ha hs ((Enc.len x).trans hsz.symm) hx,partA ha hs ((Enc.len y).trans hsz.symm) hy,?_⟩
  rw [run_equalIn_array w d _ _ (und hu) hi]
  have:=run_eqItems hE (w:=w) (l:=x.toList) (m:=y.toList) hc rfl rfl (by simp) k 0 (by simp)
  rw [List.range_eq_range']
  refine this.trans ?_
  congr 1
  rw [Bool.eq_iff_iff]
  simp [Vector.toList_inj]
theorem EqT.top {α:Type} [Enc α] [DecidableEq α] {d:Nat} {t:TypeId} {s:Nat} (ha:∀ w,(isAgg t).run P w=.ok true w) (hs:∀ w,(sizeOf t).run P w=.ok s w) (hsz:s=sz α) (hd:d=Op.maxDepth) (h:EqT P d t α) (x y:α) (w:World):(Op.equal t (.agg (enc x).toArray) (.agg (enc y).toArray)).run P w=.ok (decide (x=y)) w:=by
  subst hd
  obtain ⟨a,b,h1,h2,h3⟩:=h x y _ _ 0 w (Get.here _) (Get.here _)
  rw [partA ha hs ((Enc.len x).trans hsz.symm) (Get.here _)] at h1
  rw [partA ha hs ((Enc.len y).trans hsz.symm) (Get.here _)] at h2
  cases h1; cases h2
  exact h3
theorem EqT.struct {α:Type} [Enc α] [DecidableEq α] {d s:Nat} {t:TypeId} {fs:Array Field} (ha:∀ w,(isAgg t).run P w=.ok true w) (hs:∀ w,(sizeOf t).run P w=.ok s w) (hsz:s=sz α) (hu:∀ w,(underlying t).run P w=.ok (.struct fs) w) (hst:P.stoodInHeld t=false)
    (hF:∀ (x y:α) (w:World),(Op.eqFields d (enc x).toArray (enc y).toArray fs.toList).run P w=.ok (decide (x=y)) w):EqT P (d+1) t α:=fun x y cs ds off w hx hy=>by
  refine ⟨_,_,partA ha hs ((Enc.len x).trans hsz.symm) hx,partA ha hs ((Enc.len y).trans hsz.symm) hy,?_⟩
  have hfs:P.fieldsOf t=fs:=by simp [Program.fieldsOf,und hu]
  rw [run_equalIn_struct w d t _ _ (by rw [hfs]; exact und hu) hst,hfs]
  exact hF x y w
theorem eqField {β:Type} [Enc β] [DecidableEq β] {d off:Nat} {f:Field} {fs:List Field} {x y:List Value} {p q:β} {w:World} {r:Bool} (hn:(f.name== "_")=false) (hE:EqT P d f.type β) (ho:f.offset=off) (hx:Get x off (enc p)) (hy:Get y off (enc q))
    (k:(Op.eqFields d x.toArray y.toArray fs).run P w=.ok r w):(Op.eqFields d x.toArray y.toArray (f::fs)).run P w=.ok (decide (p=q)&&r) w:=by
  subst ho
  obtain ⟨a,b,h1,h2,h3⟩:=hE p q x y f.offset w hx hy
  have hn':f.name≠ "_":=by simpa using hn
  simp only [Op.eqFields,if_pos hn',Sem.run_bind,h1,h2,h3,Result.andThen_ok]
  by_cases e:p=q
  · simp [e,k]
  · simp [e]
end
end Go.Proofs.YtchmclllcdknjaaGreatDoor
