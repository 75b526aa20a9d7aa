/-
  Arguments opened, as GoJ does, where no more comes in than a bound; the lift of the second form.
-/
import Derived.Test.YtchmclllcdknjaaGreatDoorGoJ
import Derived.JoinedCond
import Derived.Deep.DeepHandedRow
import Derived.Lay
import Derived.MakeChecks
namespace Go.Proofs.YtchmclllcdknjaaGreatDoor
open Go.RowKit Go.ChangeShapes Go.WideShapes Go.ChangeAt Enc
structure Blk {H:Type} (μ:DataW H→Nat):Prop where
  str:∀ s,s.length≤μ (.lit (.string s))
  len:∀ es sp,es.length≤μ (.slice es sp)
  el:∀ es sp d,d∈es∨d∈sp→μ d≤μ (.slice es sp)
  part:∀ ps d,d∈ps→μ d≤μ (.agg ps)
def TB (P:Program) (H:Type) (eh:TypeId×Value→H) (W:World) (μ:DataW H→Nat) (B:Nat) (t:TypeId) (ρ:Type) [Enc ρ] (ok:ρ→Prop):Prop :=
  ∀ (fuel:Nat) (cs:List Value) (x:DataW H×List MemPlace),DataW.trod eh P W 0 (fun _=>true) true fuel t cs=some x→μ x.1≤B→∃ a:ρ,cs=enc a∧ok a
section
variable {P:Program} {H:Type} {eh:TypeId×Value→H} {W:World} {μ:DataW H→Nat} {B:Nat}
theorem TB.int {t:TypeId} (hu:P.underlying t=some (.int .i64)):TB P H eh W μ B t Int (Bnd.ok B):=fun f cs x hx _=>TD.int hu f cs x hx
theorem TB.u8 {t:TypeId} (hu:P.underlying t=some (.int .u8)):TB P H eh W μ B t (BitVec 8) (Bnd.ok B):=fun f cs x hx _=>TD.u8 hu f cs x hx
theorem TB.u16 {t:TypeId} (hu:P.underlying t=some (.int .u16)):TB P H eh W μ B t (BitVec 16) (Bnd.ok B):=fun f cs x hx _=>TD.u16 hu f cs x hx
theorem TB.bool {t:TypeId} (hu:P.underlying t=some .bool):TB P H eh W μ B t Bool (Bnd.ok B):=fun f cs x hx _=>TD.bool hu f cs x hx
theorem TB.str {t:TypeId} (hμ:Blk μ) (hu:P.underlying t=some .string):TB P H eh W μ B t Str (Bnd.ok B):=fun f cs x hx hB=>by
  obtain ⟨s,rfl,rfl,hm⟩:=DataW.trod_string hu hx
  refine ⟨s.data.toList,?_,?_⟩
  · show [Value.string s]=[Str.v s.data.toList]
    simp [Str.v,Str.b]
  · exact Nat.le_trans (hμ.str _) hB
theorem cells_manyB {e:TypeId} {ρ:Type} [Enc ρ] {ok:ρ→Prop} {m:Nat} (hE:TB P H eh W μ B e ρ ok) (hc:P.cellsOf e=sz ρ):∀ (n:Nat) (cs:List Value) (xs:List (DataW H×List MemPlace)),cs.length=n * sz ρ→xs.length=n→(∀ x∈xs,μ x.1≤B) →
    (∀ i,i < n→DataW.trod eh P W 0 (fun _=>true) true m e ((cs.drop (i * sz ρ)).take (sz ρ))=xs[i]?)→∃ l:List ρ,l.length=n∧cs=encs l∧∀ a∈l,ok a
  | 0,cs,xs,hl,_,_,_=>⟨[],rfl,by simpa [encs] using hl,by simp⟩
  | n+1,cs,xs,hl,hx,hb,h=>by
    rw [Nat.succ_mul] at hl
    cases xs with
    | nil=>simp at hx
    | cons x xs =>
      have h0:=h 0 (by omega)
      simp only [Nat.zero_mul,List.drop_zero] at h0
      obtain ⟨a,ha,oa⟩:=hE _ _ _ h0 (hb x (by simp))
      obtain ⟨l,h1,h2,h3⟩:=cells_manyB hE hc n (cs.drop (sz ρ)) xs (by simp; omega) (by simpa using hx) (fun y hy=>hb y (by simp [hy])) fun i hi=>by
        have:=h (i+1) (by omega)
        rw [Nat.succ_mul,Nat.add_comm,← List.drop_drop] at this
        simpa using this
      refine ⟨a::l,by simp [h1],by rw [encs_cons,← ha,← h2,List.take_append_drop],?_⟩
      intro b hb
      rcases List.mem_cons.1 hb with rfl | hb
      · exact oa
      · exact h3 b hb
theorem TB.vec {t e:TypeId} {n:Nat} {ρ:Type} [Enc ρ] {ok:ρ→Prop} (hμ:Blk μ) (hu:P.underlying t=some (.array n e)) (hct:P.cellsOf t=n * sz ρ) (hc:P.cellsOf e=sz ρ) (hE:TB P H eh W μ B e ρ ok):TB P H eh W μ B t (Vector ρ n) (fun v=>∀ (i:Nat) (x:ρ),v[i]? = some x→ok x):=fun f cs x hx hB=>by
  obtain ⟨xs,m,rfl,rfl,hl,hn,h⟩:=DataW.trod_array hu hx
  rw [hc] at h
  obtain ⟨l,h1,rfl,h3⟩:=cells_manyB hE hc n cs xs (hl.trans hct) hn (fun x hx=>Nat.le_trans (hμ.part _ _ (List.mem_map_of_mem hx)) hB) h
  subst h1
  refine ⟨⟨l.toArray,rfl⟩,rfl,fun i a ha=>h3 a ?_⟩
  have:l[i]? = some a:=by simpa using ha
  exact List.mem_of_getElem? this
theorem TB.slice {t e:TypeId} {ρ:Type} [Enc ρ] {ok:ρ→Prop} (hu:P.underlying t=some (.slice e)) (hc:P.cellsOf e=sz ρ) (h0:0 < sz ρ) (hμ:Blk μ) (hE:TB P H eh W μ B e ρ ok) :
    TB P H eh W μ B t (LR ρ) (fun a=>LR.rel W (Frz.of W) [] a∧a.v.length≤B∧∀ r∈a.v,ok r):=fun f cs x hx hB=>by
  rcases Go.Deep.open_slice hu hx with ⟨rfl,_⟩|⟨a,len,cap,m,n,D,Pl,rfl,_,hlc,hcm,hm,hx',hel⟩
  · exact ⟨⟨[],Sl.nil⟩,rfl,Rd.nil,by simp,by simp⟩
  · rw [if_pos rfl] at hm
    subst hm
    simp only [maxLen] at hcm
    subst hx'
    have hlB:len≤B:=by have:=hμ.len ((List.range len).map D) ((List.range (m - len)).map fun j=>D (len+j)); simp only [List.length_map,List.length_range] at this; simp only at hB; omega
    simp only at hB
    have hcells:∀ i,i < m→∃ a':ρ,W.cells? 0 (a.add (i * sz ρ)) (sz ρ)=some (enc a')∧ok a':=fun i hi=>by
      obtain ⟨cs',h1,h2⟩:=hel i hi
      have hDi:μ (D i)≤B:=by
        refine Nat.le_trans (hμ.el _ _ _ ?_) hB
        by_cases hil:i < len
        · exact .inl (List.mem_map.2 ⟨i,List.mem_range.2 hil,rfl⟩)
        · exact .inr (List.mem_map.2 ⟨i - len,List.mem_range.2 (by omega),by show D (len+(i - len))=D i; rw [show len+(i - len)=i by omega]⟩)
      obtain ⟨a',rfl,oa⟩:=hE _ _ _ h2 hDi
      rw [hc] at h1
      exact ⟨a',h1,oa⟩
    obtain ⟨rs,hrl,hrs⟩:=pick_list m hcells
    refine ⟨⟨rs.take len,⟨some a,len,m⟩⟩,rfl,?_,by simp; omega,fun r hr=>?_⟩
    · by_cases hm0:m=0
      · subst hm0
        have hl0:len=0:=by omega
        subst hl0
        intro w hw
        exact ⟨0,(0,0),by simp [encs],by simp,.inl ⟨rfl,rfl⟩⟩
      · have hfirst:∃ r0,rs[0]? = some r0:=⟨rs[0]'(by omega),by simp⟩
        obtain ⟨r0,hr0⟩:=hfirst
        have hc0:=(cells_get (hrs 0 r0 hr0).1).2 0 h0
        have hlen0:(enc r0).length=sz ρ:=Enc.len r0
        have hsome:∃ v0,W.cell? a=some v0:=by
          have e:(a.add (0 * sz ρ)).add 0=a:=by simp [Addr.add]
          rw [e] at hc0
          exact ⟨(enc r0)[0]'(by omega),by rw [hc0]; simp⟩
        obtain ⟨v0,hv0⟩:=hsome
        have hobj:∃ arr t fr,W.heap[a.block]? = some (.cells arr t fr)∧a.spot=none:=by
          unfold World.cell? at hv0
          split at hv0
          · rename_i c t fr hh
            refine ⟨c,t,fr,hh,?_⟩
            split at hv0
            · cases hv0
            · rename_i hs; simpa using hs
          · cases hv0
        obtain ⟨arr,t',fr,hh,hsp⟩:=hobj
        obtain ⟨blk,off,sp⟩:=a
        simp only at hsp hh
        subst hsp
        have hcell:∀ q,W.cell? ⟨blk,q,none⟩=arr.toList[q]?:=fun q=>by
          simp [World.cell?,hh]
        have hel2:∀ (i:Nat) (r:ρ) (j:Nat),rs[i]? = some r→j < sz ρ→arr.toList[off+i * sz ρ+j]? = (enc r)[j]?:=fun i r j hr hj=>by
          have:=(cells_get (hrs i r hr).1).2 j hj
          rw [add_none,add_none,hcell] at this
          exact this
        have hpre:∀ k,k≤m→(arr.toList.drop off).take (k * sz ρ)=encs (rs.take k):=by
          intro k
          induction k with
          | zero=>intro _; simp [encs]
          | succ k ih =>
            intro hk
            have hkl:k < rs.length:=by omega
            have hrk:rs[k]? = some rs[k]:=by simp [hkl]
            rw [List.take_add_one,hrk,Option.toList_some,encs_append,← ih (by omega),Nat.succ_mul,List.take_add]
            congr 1
            rw [List.drop_drop]
            simp only [encs_cons,encs_nil,List.append_nil]
            apply List.ext_getElem?
            intro j
            by_cases hj:j < sz ρ
            · rw [List.getElem?_take_of_lt hj,List.getElem?_drop,← hel2 k _ j hrk hj]
            · rw [List.getElem?_eq_none (by simp; omega),List.getElem?_eq_none (by rw [Enc.len]; omega)]
        have hall:(arr.toList.drop off).take (m * sz ρ)=encs rs:=by
          have:=hpre m (Nat.le_refl _)
          rwa [show rs.take m=rs from List.take_of_length_le (by omega)] at this
        intro w hw
        have hb:w.heap[blk]? = some (.cells arr t' fr):=hw.frz blk _ hh
        have hsplit:arr.toList=arr.toList.take off++(encs (rs.take len)++(encs (rs.drop len)++(arr.toList.drop off).drop (m * sz ρ))):=by
          rw [← List.append_assoc (encs _),← encs_append,List.take_append_drop,← hall,List.take_append_drop,List.take_append_drop]
        have hoff:off≤arr.toList.length:=by
          have:=(List.getElem?_eq_some_iff.1 ((hcell off).symm.trans hv0)).1
          omega
        refine ⟨t',fr,?_,by simp only; omega,.inr ⟨blk,off,arr.toList.take off,encs (rs.drop len)++(arr.toList.drop off).drop (m * sz ρ),rfl,?_,by rw [List.length_take]; exact Nat.min_eq_left hoff,hlc,?_⟩⟩
        · rw [encs_len,List.length_take,Nat.min_eq_left (by omega)]
        · show w.heap[blk]? = _
          rw [← hsplit]; exact hb
        · rw [← List.append_assoc,← encs_append,List.take_append_drop,List.length_append,encs_len,hrl]
          exact Nat.le_add_right _ _
    · obtain ⟨i,hi⟩:=List.getElem?_of_mem (List.mem_of_mem_take hr)
      exact (hrs i r hi).2
theorem arg_cellsB {t:TypeId} {v:Value} {d:DataW H} {ps:List MemPlace} {ρ:Type} [Enc ρ] {ok:ρ→Prop} (h:DataW.Trod eh P W 0 (fun _=>true) true t v d ps) (hB:μ d≤B) (hD:TB P H eh W μ B t ρ ok):∃ a:ρ,v.cells.toList=enc a∧ok a:=by
  obtain ⟨f,hf⟩:=h
  exact hD f _ _ hf hB
theorem td_fieldB {fs:Array Field} {cs:List Value} {m:Nat} {xs:List (DataW H×List MemPlace)} {ρ:Type} [Enc ρ] {ok:ρ→Prop} (hμ:Blk μ) (hB:μ (.agg (xs.map (·.1)))≤B) (hf:∀ (i:Nat) (f:Field),fs[i]? = some f→DataW.trod eh P W 0 (fun _=>true) true m f.type ((cs.drop f.offset).take (P.cellsOf f.type))=xs[i]?) (hn:xs.length=fs.size)
    (i:Nat) {t o s:Nat} {f:Field} (hi:fs[i]? = some f) (ht:f.type=t) (ho:f.offset=o) (hs:P.cellsOf t=s) (hD:TB P H eh W μ B t ρ ok):∃ a:ρ,(cs.drop o).take s=enc a∧ok a:=by
  subst ht ho hs
  have hlt:i < xs.length:=by rw [hn]; exact (Array.getElem?_eq_some_iff.1 hi).1
  have h:=hf i f hi
  rw [List.getElem?_eq_getElem hlt] at h
  exact hD _ _ _ h (Nat.le_trans (hμ.part _ _ (List.mem_map_of_mem (List.getElem_mem hlt))) hB)
end
theorem witness_laid {C:Checked} {os:Os} {f:FuncId} {fn:Func} {s:OpenSpec} {H:Type} {enc:TypeId×Value→H} {k:(H:Type)→List (DataW H)→Bool} {laid:List (String×DataW Unit)} (hk:s.cond=some k) (args:Array Value) (fuel:Nat)
    (hsh:((World.laidAll C.prog os laid).forCall (fun _ _=>0) ⟨#[],args,[]⟩).Shaped C.prog)
    (hok:Input.okWideB C.prog ((World.laidAll C.prog os laid).forCall (fun _ _=>0) ⟨#[],args,[]⟩) f ⟨#[],args,[]⟩=true)
    {x:List (DataW H)×List (DataW H)×List MemPlace} (hx:DataW.whole enc C.prog ((World.laidAll C.prog os laid).forCall (fun _ _=>0) ⟨#[],args,[]⟩).memory fn.params.toList s.vars false args.toList fuel=some x)
    (hkk:k H (x.1++x.2.1)=true)
    (hsz:s.bare.sizedB enc C.prog fn false ((World.laidAll C.prog os laid).forCall (fun _ _=>0) ⟨#[],args,[]⟩).memory args fuel=true)
    (hl:laidMetH C.prog laid ((World.laidAll C.prog os laid).forCall (fun _ _=>0) ⟨#[],args,[]⟩).memory) :
    ∃ (w:World) (tape:Tape) (i:Input),w.os=os∧(w.forCall tape i).Shaped C.prog∧i.vars=[]∧Input.okWide C.prog (w.forCall tape i) .any w.heap.size f i ∧
      s.preRow enc C.prog fn [] false laid (w.forCall tape i).memory i.args∧({}:Assume).holds C.prog (lone (Frame.enter C.prog f i.args .normal) [] (w.forCall tape i)) :=
  ⟨World.laidAll C.prog os laid,fun _ _=>0,⟨#[],args,[]⟩,World.laidAll_os _ _ _,hsh,(Input.okWide_of_okWideB (base:=0) hok).1,(Input.okWide_of_okWideB hok).2,
    ⟨⟨(OpenSpec.pre_some hk [] false _ _).2 ⟨x.1,x.2.1,x.2.2,DataW.Whole_of_whole hx,rfl,hkk⟩,hl⟩,sizedMet_of_sizedB hsz⟩,by
    simp only [Assume.holds]
    exact ⟨by simp,by simp,fun _=>Modest.zero,by simp,by simp⟩⟩
theorem law_lift_row {C:Checked} {f:FuncId} {fn:Func} {s:ChangeSpec} {S:OpenSpec} {k:(H:Type)→List (DataW H)→Bool} {tb:TypeId} {H:Type} {enc:TypeId×Value→H} {os:Os} {F:Stop.Interp} {laid:List (String×DataW Unit)}
    (hS:S={OpenSpec.ofChange s with cond:=some k})
    (own:ownKnob C.prog.godebug=none) (started:os.Started) (noInit:C.prog.inits.idxOf? f=none) (hfn:C.prog.funcs[f]? = some fn)
    (witness:∃ (w:World) (tape:Tape) (i:Input),w.os=os∧(w.forCall tape i).Shaped C.prog∧i.vars=[]∧Input.okWide C.prog (w.forCall tape i) .any w.heap.size f i ∧
      S.preRow enc C.prog fn [] false laid (w.forCall tape i).memory i.args∧({}:Assume).holds C.prog (lone (Frame.enter C.prog f i.args .normal) [] (w.forCall tape i)))
    (hl:laidOutB C.prog=true) (hrd:∀ t∈fn.params.toList,C.prog.readableRec t=true∧t < C.prog.types.size)
    (hres:fn.resultTypes=#[tb]) (hb:C.prog.underlying tb=some .bool) (hv:s.vars=[])
    (hs:∀ ds:List (DataW H),ds.length=fn.params.toList.length→s.fn H ds={results:=[.lit (.bool true)],args:=ds})
    (walk:∀ (W:World) (base:Nat) (args:Array Value) (ds:List (DataW H)) (p:List MemPlace),
      (∀ (j:Nat) t v,fn.params[j]? = some t→args[j]? = some v→Value.okWide C.prog W .any base t v) →
      DataW.TrodAll enc C.prog W 0 (fun _=>true) true fn.params.toList args.toList ds p →
      k H ds=true→laidMetH C.prog laid W →
      Calls C.prog f args W fun e W'=>e=.returned (.bool true)∧Ext W W') :
    ReturnsInHanded {} C os f .any (S.preRow enc C.prog fn [] false laid) ((S.at F).post enc C.prog fn false true false false):=by
  subst hS
  refine returnsInHanded_of_row own started noInit hfn witness ?_
  intro W base args ds gs before hval hW _ hk _ hL _ _
  have hW':=hW
  obtain ⟨p,q,hA,hV,rfl,hfz,hnd⟩:=hW
  have hv':({OpenSpec.ofChange s with cond:=some k}:OpenSpec).vars=[]:=hv
  rw [hv'] at hV
  obtain ⟨rfl,rfl⟩:=trodVars_none hV
  have hlen:ds.length=fn.params.toList.length:=trodAll_length hA
  have hk:=hk k rfl
  rw [List.append_nil] at hk
  refine (walk W base args ds p hval hA hk hL).mono fun e W' ⟨he,hx⟩=>?_
  subst he
  have hspec:(({OpenSpec.ofChange s with cond:=some k}:OpenSpec).at F).fn H ds={results:=[.lit (.bool true)],args:=ds}:=hs ds hlen
  refine ⟨_,rfl,ds,[],p++[],[],p,[],hW',?_,?_,?_,Below.frame hx _,fun h=>by cases h⟩
  · rw [List.append_nil,hspec,hres]
    exact trodAll_mk1 (shut_bool hb true)
  · rw [List.append_nil,hspec]
    exact trodAll_ext hl hx hrd hA (fun x hx'=>hW'.lt x (by simpa using hx'))
  · rw [List.append_nil,hspec]
    have hv3:(({OpenSpec.ofChange s with cond:=some k}:OpenSpec).at F).vars=[]:=hv
    rw [hv3]
    rfl
end Go.Proofs.YtchmclllcdknjaaGreatDoor
