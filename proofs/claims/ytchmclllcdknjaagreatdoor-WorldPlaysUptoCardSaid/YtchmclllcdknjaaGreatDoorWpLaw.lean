/-
  The law WorldPlays holds for every input of bulk at most 1048576, as its row says.
-/
import Derived.Test.YtchmclllcdknjaaGreatDoorRows
import Derived.Test.YtchmclllcdknjaaGreatDoorWpP5
import Derived.Test.YtchmclllcdknjaaGreatDoorGoV
import Derived.Test.YtchmclllcdknjaaGreatDoorGoN
import Derived.Test.YtchmclllcdknjaaGreatDoorWpWorldPlays
import Derived.Test.YtchmclllcdknjaaGreatDoorCards
import Derived.Test.YtchmclllcdknjaaGreatDoorTie
import Derived.SevenTiedAt
namespace Go.Proofs.YtchmclllcdknjaaGreatDoor
open Go.RowKit Go.ChangeShapes Go.WideShapes Go.ChangeAt Enc
set_option linter.unusedVariables false
set_option linter.unusedSimpArgs false
namespace lawWorldPlays
theorem own:ownKnob Tryz.prog.godebug=none:=by kernel_rfl
theorem laidOut:laidOutB Tryz.prog=true:=by kernel_rfl
theorem td_Deed {H:Type} {eh:TypeId×Value→H} {W:World} {μ:DataW H→Nat} {B:Nat} (hμ:Blk μ):TB Tryz.prog H eh W μ B 30 Deed (Bnd.ok B):=fun fuel cs x hx hB=>by
  obtain ⟨xs,m,_,rfl,hl,hn,hf⟩:=DataW.trod_struct Tryz.underlying30 hx
  have hc:Tryz.prog.cellsOf 30=4:=by kernel_rfl
  rw [hc] at hl
  obtain ⟨a0,e0,o0⟩:=td_fieldB hμ hB hf hn 0 (t:=3) (o:=0) (s:=1) rfl rfl rfl (by kernel_rfl) (TB.int Tryz.underlying3)
  obtain ⟨a1,e1,o1⟩:=td_fieldB hμ hB hf hn 1 (t:=3) (o:=1) (s:=1) rfl rfl rfl (by kernel_rfl) (TB.int Tryz.underlying3)
  obtain ⟨a2,e2,o2⟩:=td_fieldB hμ hB hf hn 2 (t:=3) (o:=2) (s:=1) rfl rfl rfl (by kernel_rfl) (TB.int Tryz.underlying3)
  obtain ⟨a3,e3,o3⟩:=td_fieldB hμ hB hf hn 3 (t:=9) (o:=3) (s:=1) rfl rfl rfl (by kernel_rfl) (TB.str hμ Tryz.underlying9)
  have hp:=pieces_eq (cs:=cs) [1,1,1,1] 0 (by simp) (by rw [hl]; rfl)
  simp only [pieces,List.drop_zero,Nat.zero_add] at hp
  simp only [List.drop_zero] at e0; rw [e0,e1,e2,e3] at hp
  exact ⟨(⟨a0,a1,a2,a3⟩:Deed),hp,⟨o0,o1,o2,o3⟩⟩
theorem blk_len {H:Type} (l:List (DataW H)):l.length≤Rows.uptoBulkAll l:=by
  induction l with
  | nil=>simp
  | cons x r ih =>
    have:1≤Rows.uptoBulk x:=by
      cases x with
      | lit l=>cases l <;> simp [Rows.uptoBulk]
      | nil=>simp [Rows.uptoBulk]
      | ptr d=>simp [Rows.uptoBulk]
      | slice elems spare=>simp [Rows.uptoBulk]
      | agg parts=>simp [Rows.uptoBulk]
      | iface t d=>simp [Rows.uptoBulk]
      | map entries=>simp [Rows.uptoBulk]
      | held h=>simp [Rows.uptoBulk]
    simp only [Rows.uptoBulkAll,List.length_cons]; omega
theorem blk_part {H:Type} {d:DataW H} {l:List (DataW H)} (h:d∈l):Rows.uptoBulk d≤Rows.uptoBulkAll l:=by
  induction l with
  | nil=>cases h
  | cons x r ih =>
    simp only [Rows.uptoBulkAll]
    rcases List.mem_cons.1 h with e | e
    · subst e; omega
    · have:=ih e; omega
theorem blk (H:Type):Blk (Rows.uptoBulk (H:=H)):=⟨fun s=>by simp [Rows.uptoBulk],fun es sp=>by have:=blk_len es; simp only [Rows.uptoBulk]; omega,fun es sp d hd=>by
  simp only [Rows.uptoBulk]
  rcases hd with h | h
  · have:=blk_part h; omega
  · have:=blk_part h; omega,fun ps d hd=>by have:=blk_part hd; simp only [Rows.uptoBulk]; omega⟩
set_option maxRecDepth 100000 in
theorem walk (H:Type) (enc:TypeId×Value→H) (W:World) (base:Nat) (args:Array Value) (ds:List (DataW H)) (p:List MemPlace)
    (hval0:∀ (j:Nat) t v,Tryz.f3.params[j]? = some t→args[j]? = some v→Value.okWide Tryz.prog W .any base t v)
    (hA:DataW.TrodAll enc Tryz.prog W 0 (fun _=>true) true Tryz.f3.params.toList args.toList ds p)
    (hk:Rows.uptoSmall H ds=true) (hL:laidMetH Tryz.prog Rows.worldPlaysUptoRow.laid W) :
    Calls Tryz.prog 3 args W fun e W'=>e=.returned (.bool true)∧Ext W W':=by
  have hval:=hval0
  clear hval0
  rw [Tryz.params3] at hval hA
  have hbk:Rows.uptoBulkAll ds≤1048576:=of_decide_eq_true hk
  have hμ:=blk H
  obtain ⟨v0,vs0,d0,ds0,p0,q0,e0,rfl,rfl,k0,r0⟩:=trodAll_cons hA
  obtain ⟨v1,vs1,d1,ds1,p1,q1,e1,rfl,rfl,k1,r1⟩:=trodAll_cons r0
  obtain ⟨z1,rfl,rfl⟩:=trodAll_nil r1
  subst z1
  subst e1
  obtain rfl:args=#[v0,v1]:=by cases args; simpa using e0
  have h0:=hval 0 3 v0 rfl rfl
  have h1:=hval 1 22 v1 rfl rfl
  clear hval hk
  simp only [Rows.uptoBulkAll] at hbk
  obtain ⟨x0,c0,g0⟩:=arg_cellsB (B:=1048576) k0 (show Rows.uptoBulk d0≤1048576 by omega) (TB.int Tryz.underlying3)
  obtain rfl:=arg_num Tryz.underlying3 h0 rfl c0
  obtain ⟨x1,c1,g1⟩:=arg_cellsB (B:=1048576) k1 (show Rows.uptoBulk d1≤1048576 by omega) (TB.slice (ρ:=Deed) Tryz.underlying22 (by kernel_rfl) (by decide) hμ (td_Deed hμ))
  obtain rfl:=arg_slice Tryz.underlying22 h1 c1
  obtain ⟨fu,hpl⟩:=plays_up x0 x1.v g0 g1.2
  have hT:Tab Tryz.prog W:=tab_of_laid (g:=1) (by kernel_rfl) (by kernel_rfl) Tryz.underlying322 Tryz.underlying107 (by kernel_rfl) (by kernel_rfl) (by kernel_rfl) (by kernel_rfl) hL
  exact (partlaw_WorldPlays_sim hpl W (Frz.of W) [] [] (List.Sublist.refl _) hT g1.1).law fun _ _ _ h=>h.1
set_option maxRecDepth 100000 in
theorem lifted (os:Os) (started:os.Started) (H:Type) (enc:TypeId×Value→H) (F:Stop.Interp) :
    ReturnsInHanded {} Tryz.checked os 3 .any ((Rows.OpenSpec.upto Rows.worldPlaysSpec).preRow enc Tryz.prog Tryz.f3 [] false Rows.worldPlaysUptoRow.laid) (((Rows.OpenSpec.upto Rows.worldPlaysSpec).at F).post enc Tryz.prog Tryz.f3 false true false false):=by
  refine law_lift_row (C:=Tryz.checked) (S:=Rows.OpenSpec.upto Rows.worldPlaysSpec) (k:=Rows.uptoSmall) (tb:=4) rfl own started (by kernel_rfl) Tryz.func3
    (witness_laid (enc:=enc) (C:=Tryz.checked) (s:=Rows.OpenSpec.upto Rows.worldPlaysSpec) (k:=Rows.uptoSmall) rfl #[.int .i64 0,.slice none 0 0] 8 (World.shaped_of_ZipB (by kernel_rfl) (by kernel_rfl)) (by kernel_rfl) (x:=([.lit (.int .i64 0),.nil],[],[])) (by kernel_rfl) (by kernel_rfl) (by kernel_rfl)
      (by rw [MakeChecks.laidMetH_plain _ _ _ (by kernel_rfl)]; exact laidMet_laidAll _ (by kernel_rfl) (by kernel_rfl)))
    laidOut ?_ rfl Tryz.underlying4 rfl ?_ (fun W base args ds p a b c e=>walk H enc W base args ds p a b c e)
  · intro t ht
    have hc:(Tryz.f3.params.toList.all fun t=>Tryz.prog.readableRec t&&decide (t < Tryz.prog.types.size))=true:=by kernel_rfl
    have:=List.all_eq_true.1 hc t ht
    rw [Bool.and_eq_true] at this
    exact ⟨this.1,of_decide_eq_true this.2⟩
  · intro ds hlen
    have hl:ds.length=2:=hlen
    rcases ds with _ | ⟨d0,_ | ⟨d1,_ | ⟨dx,dl⟩⟩⟩ <;> simp at hl
    rfl
theorem proved0:({Rows.worldPlaysUptoRow with leaving:=false}:OpenClaim).holds Tryz.pinned (Rows.OpenSpec.upto Rows.worldPlaysSpec) :=
  OpenClaim.holds_of_cond 3 Tryz.f3 rfl rfl rfl rfl rfl rfl rfl ⟨rfl,rfl,rfl,rfl,rfl⟩ rfl rfl rfl rfl rfl (by kernel_rfl) Tryz.func3 (by kernel_rfl)
    (of_decide_eq_true (by kernel_rfl)) (by unfold Func.isWrapper; first | (rw [if_pos (by decide +kernel)]; kernel_rfl) | (rw [if_neg (by decide +kernel)]; exact ⟨rfl,rfl⟩))
    (fun os started H enc _ F=>by rw [OpenClaim.pre_eq_preRow]; exact lifted os started H enc F)
theorem proved:Rows.WorldPlaysUptoSaid:=holds_leaving (by kernel_rfl) rfl rfl rfl proved0
theorem card:Rows.WorldPlaysUptoCardSaid :=
  holds_tied_goes .later [.data,.data,.data,.data,.sentinel,.sentinel,.pinned] true (true,"20f89e7b44bf84b93d44b3f57d6109a6294b6a8621141c9dee712e1fdcc831c6") true proved (by kernel_rfl) worldPlaysUpto_row_tie rfl ⟨rfl,rfl⟩ (by kernel_rfl) rfl
    (fun f fn hf hfn=>by
      obtain rfl:f=3:=Option.some.inj ((show Tryz.prog.funcNamed Rows.worldPlaysUptoRow.func=some 3 by kernel_rfl).symm.trans hf) |>.symm
      obtain rfl:fn=Tryz.f3:=(Option.some.inj (Tryz.func3.symm.trans hfn)).symm
      exact ⟨by kernel_rfl,fun j t ht=>by
        have hall:(Tryz.f3.params.toList.all fun u=>!Tryz.prog.wantsStandIn u)=true:=by kernel_rfl
        exact (show Tryz.prog.wantsStandIn t=false by simpa using List.all_eq_true.1 hall t (Array.mem_toList_iff.2 (Array.mem_of_getElem? ht)))⟩)
    (by kernel_rfl)
end lawWorldPlays
end Go.Proofs.YtchmclllcdknjaaGreatDoor
