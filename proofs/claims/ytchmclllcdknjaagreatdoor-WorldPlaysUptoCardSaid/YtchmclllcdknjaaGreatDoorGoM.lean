/-
  Maps: typed as lists of pairs, in the order in which the keys came.
-/
import Derived.Test.YtchmclllcdknjaaGreatDoorGoK
namespace Go.Proofs.YtchmclllcdknjaaGreatDoor
open Go.RowKit Enc
instance:Enc (Option Nat):=⟨fun x=>[.map x],1,fun _=>rfl,fun _=>rfl⟩
section
set_option linter.unusedSectionVars false
variable {K V:Type} [DecidableEq K]
def Entry (kf:K→Value) (vf:V→Value) (e:MapEntry) (p:K×V):Prop:=e.key=kf p.1∧e.val=vf p.2
def Fits (kf:K→Value) (vf:V→Value):List MapEntry→List (K×V)→Prop
  | [],[]=>True
  | e::es,p::m=>Entry kf vf e p∧Fits kf vf es m
  | _,_=>False
theorem Fits.len {kf:K→Value} {vf:V→Value}:∀ {es:List MapEntry} {m:List (K×V)},Fits kf vf es m→es.length=m.length
  | [],[],_=>rfl
  | _::_,_::_,h=>by rw [List.length_cons,List.length_cons,h.2.len]
  | [],_::_,h=>h.elim
  | _::_,[],h=>h.elim
theorem Fits.get {kf:K→Value} {vf:V→Value}:∀ {es:List MapEntry} {m:List (K×V)},Fits kf vf es m→∀ (i:Nat),(es[i]? = none∧m[i]? = none)∨∃ e p,es[i]? = some e∧m[i]? = some p∧Entry kf vf e p
  | [],[],_,i=>.inl ⟨by simp,by simp⟩
  | e::_,p::_,h,0=>.inr ⟨e,p,rfl,rfl,h.1⟩
  | _::es,_::m,h,i+1=>by simpa using h.2.get i
  | [],_::_,h,_=>h.elim
  | _::_,[],h,_=>h.elim
theorem Fits.push {kf:K→Value} {vf:V→Value} {e:MapEntry} {p:K×V} (hp:Entry kf vf e p):∀ {es:List MapEntry} {m:List (K×V)},Fits kf vf es m→Fits kf vf (es++[e]) (m++[p])
  | [],[],_=>⟨hp,trivial⟩
  | _::_,_::_,h=>⟨h.1,h.2.push hp⟩
  | [],_::_,h=>h.elim
  | _::_,[],h=>h.elim
theorem Fits.set {kf:K→Value} {vf:V→Value} {e:MapEntry} {p:K×V} (hp:Entry kf vf e p):∀ {es:List MapEntry} {m:List (K×V)} (i:Nat),Fits kf vf es m→Fits kf vf (es.set i e) (m.set i p)
  | [],[],_,_=>trivial
  | _::_,_::_,0,h=>⟨hp,h.2⟩
  | _::_,_::_,i+1,h=>⟨h.1,h.2.set hp i⟩
  | [],_::_,_,h=>h.elim
  | _::_,[],_,h=>h.elim
structure KeyOk (P:Program) (kt:TypeId) (kf:K→Value):Prop where
  check:∀ em x w,(Instr.checkKey em 10000 kt (kf x)).run P w=.ok () w
  find:∀ (x:K) (V:Type) (vf:V→Value) (es:List MapEntry) (m:List (K×V)) w,Fits kf vf es m→(Instr.findKey kt (kf x) es).run P w=.ok ((m.findIdx? fun p=>decide (x=p.1)).bind fun i=>es[i]?.map fun e=>(i,e.val)) w
  stays:∀ x w,(Instr.keyThatStays (kf x) (kf x)).run P w=.ok (kf x) w
theorem findNow_eq {kind:TypeDesc} {kf:K→Value} {vf:V→Value} (hs:∀ x y,Instr.sameNow kind (kf x) (kf y)=some (decide (x=y))) (x:K):∀ (es:List MapEntry) (m:List (K×V)) (i:Nat),Fits kf vf es m →
    Instr.findNow kind (kf x) es i=some ((m.findIdx? fun p=>decide (x=p.1)).bind fun j=>es[j]?.map fun e=>(i+j,e.val))
  | [],[],i,_=>by simp [Instr.findNow]
  | e::es,p::m,i,h=>by
    unfold Instr.findNow
    rw [h.1.1,hs]
    by_cases hx:x=p.1
    · simp [hx,List.findIdx?_cons]
    · simp only [hx,decide_false]
      rw [findNow_eq hs x es m (i+1) h.2,List.findIdx?_cons]
      simp only [hx,decide_false,Bool.false_eq_true,if_false]
      cases m.findIdx? (fun p=>decide (x=p.1)) with
      | none=>simp
      | some j=>simp [Nat.add_assoc,Nat.add_comm 1 j]
  | [],_::_,_,h=>h.elim
  | _::_,[],_,h=>h.elim
theorem KeyOk.now {P:Program} {kt:TypeId} {kf:K→Value} {kind:TypeDesc} (hu:∀ w,(underlying kt).run P w=.ok kind w) (hs:∀ x y,Instr.sameNow kind (kf x) (kf y)=some (decide (x=y)))
    (hc:∀ em x w,(Instr.checkKey em 10000 kt (kf x)).run P w=.ok () w) (hb:∀ x,Instr.sameBits 10000 (kf x) (kf x)=true):KeyOk P kt kf:=by
  refine ⟨hc,fun x V vf es m w h=>?_,fun x w=>?_⟩
  · unfold Instr.findKey
    simp only [Sem.run_bind,hu,Result.andThen_ok,findNow_eq hs x es m 0 h]
    simp
  · unfold Instr.keyThatStays; rw [hb]; simp
theorem KeyOk.int {P:Program} {kt:TypeId} (hu:∀ w,(underlying kt).run P w=.ok (.int .i64) w):KeyOk P kt (fun x:Int=>.int .i64 x):=by
  refine KeyOk.now hu (fun x y=>by simp [Instr.sameNow]; rw [Bool.eq_iff_iff]; simp) (fun em x w=>?_) (fun x=>by simp [Instr.sameBits])
  rw [show (10000:Nat)=9999+1 from rfl]; unfold Instr.checkKey; simp [hu]
theorem KeyOk.u16 {P:Program} {kt:TypeId} (hu:∀ w,(underlying kt).run P w=.ok (.int .u16) w):KeyOk P kt (fun x:BitVec 16=>.int .u16 (x.toNat:Int)):=by
  refine KeyOk.now hu (fun x y=>by simp [Instr.sameNow]; rw [Bool.eq_iff_iff,beq_iff_eq,Int.natCast_inj,BitVec.toNat_inj]; simp) (fun em x w=>?_) (fun x=>by simp [Instr.sameBits])
  rw [show (10000:Nat)=9999+1 from rfl]; unfold Instr.checkKey; simp [hu]
theorem Str.b_beq (x y:Str):(Str.b x==Str.b y)=decide (x=y):=by
  rw [beq_toListBytes,Bool.eq_iff_iff]; simp [ByteArray.toList_eq,Str.b]
theorem KeyOk.str {P:Program} {kt:TypeId} (hu:∀ w,(underlying kt).run P w=.ok .string w):KeyOk P kt Str.v:=by
  refine KeyOk.now hu (fun x y=>by simp only [Str.v,Instr.sameNow,Str.b_beq]) (fun em x w=>?_) (fun x=>by simp [Str.v,Instr.sameBits,Str.b_beq])
  rw [show (10000:Nat)=9999+1 from rfl]; unfold Instr.checkKey; simp [hu,Str.v]
end
section
variable {K V:Type} [DecidableEq K]
def mfind (m:List (K×V)) (x:K):Option Nat:=m.findIdx? fun p=>decide (x=p.1)
def mget (m:List (K×V)) (x:K):Option V:=(mfind m x).bind fun i=>(m[i]?).map (·.2)
def mset (m:List (K×V)) (x:K) (v:V):List (K×V):=match mfind m x with
  | some i=>m.set i (x,v)
  | none=>m++[(x,v)]
def mitem (b:Nat) (kf:K→Value) (vf:V→Value) (m:List (K×V)):Item:=.gen [b] fun h=>∃ es clock,h b=some (.map es clock)∧Fits kf vf es.toList m
theorem mfind_get {m:List (K×V)} {x:K} {i:Nat} (h:mfind m x=some i):∃ v,m[i]? = some (x,v):=by
  unfold mfind at h
  rw [List.findIdx?_eq_some_iff_getElem] at h
  obtain ⟨h1,h2,_⟩:=h
  have h3:x=m[i].1:=of_decide_eq_true h2
  exact ⟨m[i].2,by rw [List.getElem?_eq_getElem h1]; simp [h3]⟩
theorem mget_nil {x:K}:mget ([]:List (K×V)) x=none:=rfl
theorem mget_cons {p:K×V} {m:List (K×V)} {x:K}:mget (p::m) x=if x=p.1 then some p.2 else mget m x:=by
  unfold mget mfind
  rw [List.findIdx?_cons]
  by_cases h:x=p.1
  · simp [h]
  · simp only [h,decide_false,Bool.false_eq_true,if_false]
    cases m.findIdx? (fun p=>decide (x=p.1)) <;> simp
theorem mset_nil {k:K} {v:V}:mset ([]:List (K×V)) k v=[(k,v)]:=rfl
theorem mset_cons {p:K×V} {m:List (K×V)} {k:K} {v:V}:mset (p::m) k v=if k=p.1 then (k,v)::m else p::mset m k v:=by
  unfold mset mfind
  rw [List.findIdx?_cons]
  by_cases h:k=p.1
  · simp [h]
  · simp only [h,decide_false,Bool.false_eq_true,if_false]
    cases m.findIdx? (fun p=>decide (k=p.1)) <;> simp
theorem mget_mset {k:K} {v:V} {x:K}:∀ m:List (K×V),mget (mset m k v) x=if x=k then some v else mget m x
  | []=>by rw [mset_nil,mget_cons]
  | p::m=>by
    rw [mset_cons,mget_cons]
    by_cases h:k=p.1
    · rw [if_pos h,mget_cons]
      by_cases h2:x=k
      · simp [h2]
      · have:x≠p.1:=fun e=>h2 (e.trans h.symm)
        simp [h2,this]
    · rw [if_neg h,mget_cons,mget_mset m]
      by_cases h2:x=p.1
      · have:x≠k:=fun e=>h (e.symm.trans h2)
        simp [h2,this]
        intro e; exact absurd e.symm h
      · simp [h2]
end
section
set_option linter.unusedSectionVars false
variable {P:Program} {n:Nat} {w0:World} {ops:Array Oper} {Q:Exit→Act→World→Prop} {l:List Oper} {e:List (Nat×Value)} {F:Frz} {L L':List Item} {d:Nat} {dst:Option Nat} {ty:TypeId} {pos:String} {aft:Array Edge} {gd:Option (Nat×Bool)}
variable {K V:Type} [DecidableEq K]
theorem St.map {w:World} {i b:Nat} {kf:K→Value} {vf:V→Value} {m:List (K×V)} (h:St w0 F L w) (hL:L[i]? = some (mitem b kf vf m)):∃ es clock,w.heap[b]? = some (.map es clock)∧Fits kf vf es.toList m:=by
  obtain ⟨es,clock,h1,h2⟩:=h.holds _ (List.mem_of_getElem? hL)
  exact ⟨es,clock,by simpa [World.hp] using h1,h2⟩
theorem Lst.makeMap {t:TypeId} (kf:K→Value) (vf:V→Value) (hg:gd=none) (hdst:dst=some d) (hn:d < n)
    (k:∀ b,Lst P n w0 ops Q l ((d,.map (some b))::e) F (mitem b kf vf ([]:List (K×V))::L)):Lst P n w0 ops Q (⟨dst,.makeMap t none,ty,pos,aft,gd⟩::l) e F L :=
  Lst.wp_plain hg fun a w h hw=>by
    subst hdst
    unfold Oper.wp
    have hr:(execOp a.eval ⟨some d,.makeMap t none,ty,pos,aft,gd⟩).run P w=.ok (.value (.map (some w.heap.size))) {w with heap:=w.heap.push (.map #[] 0)}:=by
      simp [execOp,Instr.makeMap]
    rw [hr,Oper.upon_value]
    exact k _ _ _ (h.put hn _) (hw.new _ rfl fun g hgb=>⟨#[],0,by simp [hgb],trivial⟩)
theorem map_look {w:World} {t kt el:TypeId} {kf:K→Value} {vf:V→Value} {m:List (K×V)} {es:Array MapEntry} {clock b:Nat} {c:Bool} (hK:KeyOk P kt kf) (hu:∀ w,(underlying t).run P w=.ok (.map kt el) w) {z0:V} (hz:∀ w,(zeroValue el).run P w=.ok (vf z0) w)
    (hb:w.heap[b]? = some (.map es clock)) (hF:Fits kf vf es.toList m) (x:K) :
    (Instr.lookup t (.map (some b)) (kf x) c).run P w=.ok (if c=true then .tuple #[vf ((mget m x).getD z0),.bool (mget m x).isSome] else vf ((mget m x).getD z0)) w:=by
  have hf:=hK.find x V vf es.toList m w hF
  have hck:=hK.check (es.isEmpty) x w
  have hgo:=MapKept.run_getObj_map (P:=P) hb
  unfold Instr.lookup
  simp only [Sem.run_bind,hu,Result.andThen_ok,hgo,Sem.run_pure,hck,hf]
  unfold mget
  cases hm:mfind m x with
  | none =>
    unfold mfind at hm
    rw [hm]
    simp [hz]
  | some i =>
    obtain ⟨v,hv⟩:=mfind_get hm
    unfold mfind at hm
    rcases hF.get i with ⟨_,h2⟩|⟨en,p,h1,h2,h3⟩
    · rw [hv] at h2; cases h2
    · rw [hv] at h2
      obtain rfl:=Option.some.inj h2
      have h1':es[i]? = some en:=by simpa using h1
      have h4:en.val=vf v:=h3.2
      rw [hm]
      simp [h1',hv,h4]
theorem Ev.lookup {x y:Operand} {t kt el:TypeId} {kf:K→Value} {vf:V→Value} {m:List (K×V)} {b i:Nat} {k:K} {z0:V} (hx:ev e x=some (.map (some b))) (hy:ev e y=some (kf k)) (hL:L[i]? = some (mitem b kf vf m))
    (hK:KeyOk P kt kf) (hu:∀ w,(underlying t).run P w=.ok (.map kt el) w) (hz:∀ w,(zeroValue el).run P w=.ok (vf z0) w):Ev P n w0 e F L ⟨dst,.lookup t x y false,ty,pos,aft,gd⟩ (vf ((mget m k).getD z0)):=fun a w h hw=>by
  obtain ⟨es,clock,hb,hF⟩:=St.map hw hL
  simp [execOp,h.eval hx,h.eval hy,map_look hK hu hz hb hF]
theorem Ev.lookup2 {x y:Operand} {t kt el:TypeId} {kf:K→Value} {vf:V→Value} {m:List (K×V)} {b i:Nat} {k:K} {z0:V} (hx:ev e x=some (.map (some b))) (hy:ev e y=some (kf k)) (hL:L[i]? = some (mitem b kf vf m))
    (hK:KeyOk P kt kf) (hu:∀ w,(underlying t).run P w=.ok (.map kt el) w) (hz:∀ w,(zeroValue el).run P w=.ok (vf z0) w):Ev P n w0 e F L ⟨dst,.lookup t x y true,ty,pos,aft,gd⟩ (.tuple #[vf ((mget m k).getD z0),.bool (mget m k).isSome]):=fun a w h hw=>by
  obtain ⟨es,clock,hb,hF⟩:=St.map hw hL
  simp [execOp,h.eval hx,h.eval hy,map_look hK hu hz hb hF]
theorem set_modify {α:Type} (a:Array α) (i:Nat) (o:α):a.setIfInBounds i o=a.modify i fun _=>o:=by
  apply Array.ext_getElem?
  intro j
  rw [Array.getElem?_modify,Array.getElem?_setIfInBounds]
  by_cases h:i=j
  · subst h
    by_cases hi:i < a.size <;> simp [hi]
  · simp [h]
theorem Lst.mapUpdate {x y z:Operand} {t kt el:TypeId} {kf:K→Value} {vf:V→Value} {m:List (K×V)} {b i:Nat} {k:K} {v:V} (hg:gd=none) (hdst:dst=none) (hx:ev e x=some (.map (some b))) (hy:ev e y=some (kf k)) (hz:ev e z=some (vf v)) (hL:L[i]? = some (mitem b kf vf m))
    (hK:KeyOk P kt kf) (hu:∀ w,(underlying t).run P w=.ok (.map kt el) w)
    (kk:Lst P n w0 ops Q l e F (L.set i (mitem b kf vf (mset m k v)))):Lst P n w0 ops Q (⟨dst,.mapUpdate t x y z,ty,pos,aft,gd⟩::l) e F L :=
  Lst.wp_plain hg fun a w h hw=>by
    subst hdst
    obtain ⟨es,clock,hb,hF⟩:=St.map hw hL
    have hf:=hK.find k V vf es.toList m w hF
    have hck:=hK.check false k w
    have hgo:=MapKept.run_getObj_map (P:=P) hb
    have key:∃ es' clock',(Instr.mapUpdate t (.map (some b)) (kf k) (vf v)).run P w=.ok () {w with heap:=w.heap.modify b fun _=>.map es' clock'}∧Fits kf vf es'.toList (mset m k v):=by
      unfold Instr.mapUpdate mset
      simp only [Sem.run_bind,hu,Result.andThen_ok,hgo,hck,hf]
      cases hm:mfind m k with
      | none =>
        unfold mfind at hm
        rw [hm]
        refine ⟨es.push ⟨kf k,vf v,clock⟩,clock+1,?_,?_⟩
        · simp [MapKept.run_setObj_map _ hb,set_modify]
        · rw [Array.toList_push]; exact hF.push (e:=⟨kf k,vf v,clock⟩) (p:=(k,v)) ⟨rfl,rfl⟩
      | some j =>
        obtain ⟨u,hu'⟩:=mfind_get hm
        unfold mfind at hm
        rcases hF.get j with ⟨_,h2⟩|⟨en,p,h1,h2,h3⟩
        · rw [hu'] at h2; cases h2
        · rw [hu'] at h2
          obtain rfl:=Option.some.inj h2
          have h1':es[j]? = some en:=by simpa using h1
          have hst:=hK.stays k w
          rw [hm]
          refine ⟨es.modify j fun e=>{e with key:=kf k,val:=vf v},clock,?_,?_⟩
          · have hkey:en.key=kf k:=h3.1
            simp [h1',hkey,hst,MapKept.run_setObj_map _ hb,set_modify]
          · have e2:(es.modify j fun e=>{e with key:=kf k,val:=vf v}).toList=es.toList.set j {en with key:=kf k,val:=vf v}:=by
              apply List.ext_getElem?
              intro q
              rw [Array.getElem?_toList,Array.getElem?_modify,List.getElem?_set]
              by_cases hq:j=q
              · subst hq
                have:j < es.size:=(Array.getElem?_eq_some_iff.1 h1').1
                have he:es[j]=en:=(Array.getElem?_eq_some_iff.1 h1').2
                simp [this,he]
              · simp [hq]
            rw [e2]
            exact hF.set (p:=(k,v)) ⟨rfl,rfl⟩ j
    obtain ⟨es',clock',hrun,hF'⟩:=key
    unfold Oper.wp
    have hr:(execOp a.eval ⟨none,.mapUpdate t x y z,ty,pos,aft,gd⟩).run P w=.ok .skip {w with heap:=w.heap.modify b fun _=>.map es' clock'}:=by
      simp [execOp,h.eval hx,h.eval hy,h.eval hz,hrun]
    rw [hr,Oper.upon_skip]
    refine kk _ _ h ?_
    rw [set_at hL]
    rw [split_at hL] at hw
    refine hw.change (j:=mitem b kf vf (mset m k v)) (by simp [mitem,Item.foot]) rfl _ ⟨es',clock',?_,hF'⟩
    have hlt:b < w.heap.size:=(Array.getElem?_eq_some_iff.1 hb).1
    simp only [World.hp,List.mem_singleton,if_true]
    rw [Array.getElem?_modify,if_pos rfl,hb]; rfl
end
end Go.Proofs.YtchmclllcdknjaaGreatDoor
