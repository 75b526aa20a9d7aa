/-
  The functions compute their specs; printed by a program.
-/
import Derived.Test.YticifbmaapnfbaaPpP3
namespace Go.Proofs.Yticifbmaapnfbaa
open Go.RowKit Enc
set_option linter.unusedVariables false
set_option linter.unusedSimpArgs false
set_option maxHeartbeats 2000000 in
set_option maxRecDepth 20000 in
theorem match_Cover_sim {fu : Nat} {a0 : Int} {a1 : Int} {a2 : List Pair} {s_a2 : Sl} {r : (List Int) × (List Int) × Int} (H : match_Cover fu a0 a1 a2 = some r) (w0 : World) (F : Frz) (M L : List Item) (hM : M.Sublist L) (hs_a2 : Rd w0 F M s_a2 a2) : Ok Try.prog w0 36 [iv a0, iv a1, Sl.v s_a2] F (L) (fun _ L' v => ∃ (s1 : Sl) (s3 : Sl), v = .tuple #[Sl.v s1, Sl.v s3, iv r.2.2] ∧ L' = (.own s1 3 1 (encs r.1)) :: (.own s3 3 1 (encs r.2.1)) :: L) := by
 unfold match_Cover at H
 refine Ok.enter (m := 3) (n := 81) Try.func36 rfl rfl rfl (by decide) ?_
 refine Cd.env (e' := [(0, iv a0), (1, iv a1), (2, Sl.v s_a2)]) rfl ?_
 refine sr0 ?_
 refine Lst.addNil 3 1 ?_
 refine Lst.r (Ev.assign rfl) ?_
 refine Lst.addNil 3 1 ?_
 refine Lst.r (Ev.assign rfl) ?_
 refine Lst.r (Ev.assign rfl) ?_
 refine nt0 ?_
 refine Cd.seq ?_
 refine sr0 ?_
 refine mv0 rfl ?_
 refine mv0 rfl ?_
 refine mv0 rfl ?_
 obtain ⟨r3, h4, H⟩ := bind_some H
 refine Lst.call1 rfl rfl (by decide) (vs := [iv a0, iv a1, Sl.v s_a2]) ⟨rfl, rfl, rfl, trivial⟩ Try.call37 (match_Check_sim h4 w0 _ M _ (sc2 hM) (hs_a2.mono fl (.refl _))) ?_
 refine Lst.r (Ev.assign rfl) ?_
 refine nsr ?_
 refine mv0 rfl ?_
 refine Lst.r (Ev.neq rfl rfl) ?_
 refine nt0 ?_
 rcases Bool.eq_false_or_eq_true (r3 != (0 : Int)) with hb7 | hb7
 ·replace H := ite_t hb7 H
  refine Cd.condT rfl hb7 ?_
  refine sr0 ?_
  refine mv0 rfl ?_
  refine Lst.addNil 3 1 ?_
  refine Lst.r (Ev.assign rfl) ?_
  refine Lst.addNil 3 1 ?_
  refine Lst.r (Ev.assign rfl) ?_
  refine Lst.r (Ev.assign rfl) ?_
  refine nt0 ?_
  obtain rfl := some_inj H
  refine Cd.ret ?_
  refine At.then_ret ?_
  refine At.front (i := 1) rfl (L' := (.own Sl.nil 3 1 (encs ([] : List Int))) :: (.own Sl.nil 3 1 (encs ([] : List Int))) :: (.own Sl.nil 3 1 (encs ([] : List Int))) :: (.own Sl.nil 3 1 (encs ([] : List Int))) :: L) rfl ?_
  exact At.ret3 rfl (Res.tmp rfl) (Res.tmp rfl) (Res.tmp rfl) fl (sk1 (sk1 (sc1 (sc1 (.refl _))))) ⟨Sl.nil, Sl.nil, rfl, rfl⟩
 replace H := ite_f hb7 H
 refine Cd.condF rfl hb7 ?_
 refine Cd.skip ?_
 refine At.then ?_
 refine sr0 ?_
 refine mv0 rfl ?_
 refine mv0 rfl ?_
 refine mv0 rfl ?_
 obtain ⟨r10, h11, H⟩ := bind_some H
 refine Lst.call rfl rfl (by decide) (vs := [iv a0, iv a1, Sl.v s_a2]) ⟨rfl, rfl, rfl, trivial⟩ Try.call59 (match_most_sim h11 w0 _ M _ (sc2 hM) (hs_a2.mono fl (.refl _))) (fun F23 L' v hF24 hv => ?_)
 obtain ⟨b12, s13, rs14, s18, s20, rfl, rfl, fm15, f21⟩ := hv
 refine Lst.alloc (cs := [.pointer none]) rfl rfl (by decide) Try.zeroValue97 rfl (fun b25 => ?_)
 refine Lst.store (i := 0) rfl rfl rfl rfl rfl Try.sizeOf97 (vs := [pv b12 0]) rfl rfl rfl (cs' := [pv b12 0]) (Put.here (vs := [pv b12 0]) rfl) (L' := (.blk b25 [pv b12 0] 97) :: (.rows (α := Bool) 4 rs14) :: (.own s13 75 1 (encs rs14)) :: (.own s18 3 1 (encs r10.left)) :: (.blk b12 (enc (GraphR.mk r10 s13 s18 s20)) 101) :: (.own Sl.nil 3 1 (encs ([] : List Int))) :: (.own Sl.nil 3 1 (encs ([] : List Int))) :: L) rfl ?_
 refine nt0 ?_
 refine Cd.seq ?_
 refine Cd.as (e' := [(0, iv a0), (1, iv a1), (10, pv b25 0)]) (L' := (.blk b25 [pv b12 0] 97) :: (.rows (α := Bool) 4 rs14) :: (.own s13 75 1 (encs rs14)) :: (.own s18 3 1 (encs r10.left)) :: (.blk b12 (enc (GraphR.mk r10 s13 s18 s20)) 101) :: (.own Sl.nil 3 1 (encs ([] : List Int))) :: (.own Sl.nil 3 1 (encs ([] : List Int))) :: L) ⟨rfl, rfl, rfl, trivial⟩ rfl ?_
 obtain ⟨n27, h28, H⟩ := bind_some H
 obtain ⟨n32, h33, H⟩ := bind_some H
 obtain ⟨o52, h53, H⟩ := Let_some H
 refine Cd.headMeet (σ := Nat × Sl × (List Bool) × Nat × Sl × (List Bool) × Sl × (List Bool)) 7 (fun (b44, s45, l46, b47, s48, l49, s50, l51) => [(0, iv a0), (10, pv b25 0), (11, pv b47 0), (12, pv b44 0), (35, Sl.v s48)]) (fun (b44, s45, l46, b47, s48, l49, s50, l51) => (.blk b44 (enc s45) 75) :: (.own s45 4 1 (encs l46)) :: (.blk b47 (enc s50) 75) :: (.own s48 4 1 (encs l49)) :: (.own s50 4 1 (encs l51)) :: (.blk b25 [pv b12 0] 97) :: (.rows (α := Bool) 4 rs14) :: (.own s13 75 1 (encs rs14)) :: (.own s18 3 1 (encs r10.left)) :: (.blk b12 (enc (GraphR.mk r10 s13 s18 s20)) 101) :: (.own Sl.nil 3 1 (encs ([] : List Int))) :: (.own Sl.nil 3 1 (encs ([] : List Int))) :: L) (fun _ (b44, s45, l46, b47, s48, l49, s50, l51) => (l46, l49, l51) = o52) (by kernel_rfl) (by kernel_rfl) (behind_sink (by kernel_rfl) (by kernel_rfl) (by kernel_rfl)) (by kernel_rfl) (fun hsel hlt => ?_) ?_
 ·refine HdJ.keep (fun w => St w0 F23 ((.blk b25 [pv b12 0] 97) :: (.rows (α := Bool) 4 rs14) :: (.own s13 75 1 (encs rs14)) :: (.own s18 3 1 (encs r10.left)) :: (.blk b12 (enc (GraphR.mk r10 s13 s18 s20)) 101) :: (.own Sl.nil 3 1 (encs ([] : List Int))) :: (.own Sl.nil 3 1 (encs ([] : List Int))) :: L) w) (fun w h => trivial) ?_
  refine HdJ.ts hsel hlt 0 (sk1 (sk1 (sk1 (sk1 (sk1 (sk1 (sk1 (.refl _)))))))) (Ev.move rfl) ?_
  refine HdJ.ts hsel hlt 2 (sk1 (sk1 (sk1 (sk1 (sk1 (sk1 (sk1 (.refl _)))))))) (Ev.move rfl) ?_
  refine HdJ.step [1, 3, 4, 5] (by kernel_rfl) rfl ?_
  refine HdStep.c (fun inv => ?_) ?_
  ·have g54 := mkLen_some h28
   refine Lst.make (α := Bool) (z0 := false) (k := n27) rfl rfl (by decide) (congrArg some (congrArg (Value.int .i64) g54.1)) (congrArg some (congrArg (Value.int .i64) g54.1)) Try.runUnderlying75 Try.typeInfo4 rfl rfl rfl rfl rfl g54.2 rfl (fun s55 => ?_)
   refine hds inv (sc1 (sk1 (sk1 (sk1 (sk1 (sk1 (sk1 (sk1 (.refl _))))))))) ?_
   refine HdJ.step [3, 4, 5] (by kernel_rfl) rfl ?_
   refine HdStep.c (fun inv => ?_) ?_
   ·have g56 := mkLen_some h33
    refine Lst.make (α := Bool) (z0 := false) (k := n32) rfl rfl (by decide) (congrArg some (congrArg (Value.int .i64) g56.1)) (congrArg some (congrArg (Value.int .i64) g56.1)) Try.runUnderlying75 Try.typeInfo4 rfl rfl rfl rfl rfl g56.2 rfl (fun s57 => ?_)
    refine hds inv (sc1 (sc1 (sk1 (sk1 (sk1 (sk1 (sk1 (sk1 (sk1 (.refl _)))))))))) ?_
    refine HdJ.step [4, 5] (by kernel_rfl) rfl ?_
    refine HdStep.c (fun inv => ?_) ?_
    ·refine Lst.addNil 4 1 ?_
     refine Lst.alloc (cs := enc Sl.nil) rfl rfl (by decide) Try.zeroValue75 rfl (fun b58 => ?_)
     refine hds inv (sc1 (sc1 (sc1 (sc1 (sk1 (sk1 (sk1 (sk1 (sk1 (sk1 (sk1 (.refl _)))))))))))) ?_
     refine HdJ.o1 5 (fun inv => ?_)
     refine Lst.addNil 4 1 ?_
     refine Lst.alloc (cs := enc Sl.nil) rfl rfl (by decide) Try.zeroValue75 rfl (fun b59 => ?_)
     refine hds inv (sc1 (sc1 (sc1 (sc1 (sc1 (sc1 (sk1 (sk1 (sk1 (sk1 (sk1 (sk1 (sk1 (.refl _)))))))))))))) ?_
     refine HdJ.o1 6 (fun inv => ?_)
     refine Lst.store (i := 2) rfl rfl rfl rfl rfl Try.sizeOf75 (vs := [Sl.v s55]) rfl rfl rfl (cs' := enc s55) (Put.here (vs := [Sl.v s55]) rfl) (L' := (.blk b59 (enc Sl.nil) 75) :: (.own Sl.nil 4 1 (encs ([] : List Bool))) :: (.blk b58 (enc s55) 75) :: (.own Sl.nil 4 1 (encs ([] : List Bool))) :: (.own s57 4 1 (encs (List.replicate n32 false))) :: (.own s55 4 1 (encs (List.replicate n27 false))) :: (.blk b25 [pv b12 0] 97) :: (.rows (α := Bool) 4 rs14) :: (.own s13 75 1 (encs rs14)) :: (.own s18 3 1 (encs r10.left)) :: (.blk b12 (enc (GraphR.mk r10 s13 s18 s20)) 101) :: (.own Sl.nil 3 1 (encs ([] : List Int))) :: (.own Sl.nil 3 1 (encs ([] : List Int))) :: L) rfl ?_
     refine hds inv (sc1 (sc1 (sc1 (sc1 (sc1 (sc1 (sk1 (sk1 (sk1 (sk1 (sk1 (sk1 (sk1 (.refl _)))))))))))))) ?_
     refine HdJ.done (by kernel_rfl) ?_
     refine At.less (L' := (.blk b59 (enc Sl.nil) 75) :: (.own Sl.nil 4 1 (encs ([] : List Bool))) :: (.blk b58 (enc s55) 75) :: (.own s57 4 1 (encs (List.replicate n32 false))) :: (.own s55 4 1 (encs (List.replicate n27 false))) :: (.blk b25 [pv b12 0] 97) :: (.rows (α := Bool) 4 rs14) :: (.own s13 75 1 (encs rs14)) :: (.own s18 3 1 (encs r10.left)) :: (.blk b12 (enc (GraphR.mk r10 s13 s18 s20)) 101) :: (.own Sl.nil 3 1 (encs ([] : List Int))) :: (.own Sl.nil 3 1 (encs ([] : List Int))) :: L) (sk1 (sk1 (sk1 (sc1 (sk1 (sk1 (sk1 (sk1 (sk1 (sk1 (sk1 (sk1 (sk1 (.refl _)))))))))))))) ?_
     exact At.meetN (b59, Sl.nil, ([] : List Bool), b58, s57, (List.replicate n32 false), s55, (List.replicate n27 false)) fl ⟨rfl, rfl, rfl, rfl, rfl, trivial⟩ rfl h53
    refine HdStep.c (fun inv => ?_) trivial
    refine Lst.addNil 4 1 ?_
    refine Lst.alloc (cs := enc Sl.nil) rfl rfl (by decide) Try.zeroValue75 rfl (fun b60 => ?_)
    refine hds inv (sc1 (sc1 (sc1 (sc1 (sk1 (sk1 (sk1 (sk1 (sk1 (sk1 (sk1 (.refl _)))))))))))) ?_
    refine HdJ.o1 4 (fun inv => ?_)
    refine Lst.addNil 4 1 ?_
    refine Lst.alloc (cs := enc Sl.nil) rfl rfl (by decide) Try.zeroValue75 rfl (fun b61 => ?_)
    refine hds inv (sc1 (sc1 (sc1 (sc1 (sc1 (sc1 (sk1 (sk1 (sk1 (sk1 (sk1 (sk1 (sk1 (.refl _)))))))))))))) ?_
    refine HdJ.o1 6 (fun inv => ?_)
    refine Lst.store (i := 0) rfl rfl rfl rfl rfl Try.sizeOf75 (vs := [Sl.v s55]) rfl rfl rfl (cs' := enc s55) (Put.here (vs := [Sl.v s55]) rfl) (L' := (.blk b61 (enc s55) 75) :: (.own Sl.nil 4 1 (encs ([] : List Bool))) :: (.blk b60 (enc Sl.nil) 75) :: (.own Sl.nil 4 1 (encs ([] : List Bool))) :: (.own s57 4 1 (encs (List.replicate n32 false))) :: (.own s55 4 1 (encs (List.replicate n27 false))) :: (.blk b25 [pv b12 0] 97) :: (.rows (α := Bool) 4 rs14) :: (.own s13 75 1 (encs rs14)) :: (.own s18 3 1 (encs r10.left)) :: (.blk b12 (enc (GraphR.mk r10 s13 s18 s20)) 101) :: (.own Sl.nil 3 1 (encs ([] : List Int))) :: (.own Sl.nil 3 1 (encs ([] : List Int))) :: L) rfl ?_
    refine hds inv (sc1 (sc1 (sc1 (sc1 (sc1 (sc1 (sk1 (sk1 (sk1 (sk1 (sk1 (sk1 (sk1 (.refl _)))))))))))))) ?_
    refine HdJ.done (by kernel_rfl) ?_
    refine At.front (i := 3) rfl rfl ?_
    refine At.front (i := 3) rfl (L' := (.blk b60 (enc Sl.nil) 75) :: (.own Sl.nil 4 1 (encs ([] : List Bool))) :: (.blk b61 (enc s55) 75) :: (.own Sl.nil 4 1 (encs ([] : List Bool))) :: (.own s57 4 1 (encs (List.replicate n32 false))) :: (.own s55 4 1 (encs (List.replicate n27 false))) :: (.blk b25 [pv b12 0] 97) :: (.rows (α := Bool) 4 rs14) :: (.own s13 75 1 (encs rs14)) :: (.own s18 3 1 (encs r10.left)) :: (.blk b12 (enc (GraphR.mk r10 s13 s18 s20)) 101) :: (.own Sl.nil 3 1 (encs ([] : List Int))) :: (.own Sl.nil 3 1 (encs ([] : List Int))) :: L) rfl ?_
    refine At.less (L' := (.blk b60 (enc Sl.nil) 75) :: (.own Sl.nil 4 1 (encs ([] : List Bool))) :: (.blk b61 (enc s55) 75) :: (.own s57 4 1 (encs (List.replicate n32 false))) :: (.own s55 4 1 (encs (List.replicate n27 false))) :: (.blk b25 [pv b12 0] 97) :: (.rows (α := Bool) 4 rs14) :: (.own s13 75 1 (encs rs14)) :: (.own s18 3 1 (encs r10.left)) :: (.blk b12 (enc (GraphR.mk r10 s13 s18 s20)) 101) :: (.own Sl.nil 3 1 (encs ([] : List Int))) :: (.own Sl.nil 3 1 (encs ([] : List Int))) :: L) (sk1 (sk1 (sk1 (sc1 (sk1 (sk1 (sk1 (sk1 (sk1 (sk1 (sk1 (sk1 (sk1 (.refl _)))))))))))))) ?_
    exact At.meetN (b60, Sl.nil, ([] : List Bool), b61, s57, (List.replicate n32 false), s55, (List.replicate n27 false)) fl ⟨rfl, rfl, rfl, rfl, rfl, trivial⟩ rfl h53
   refine HdStep.c (fun inv => ?_) ?_
   ·refine Lst.addNil 4 1 ?_
    refine Lst.alloc (cs := enc Sl.nil) rfl rfl (by decide) Try.zeroValue75 rfl (fun b62 => ?_)
    refine hds inv (sc1 (sc1 (sc1 (sk1 (sk1 (sk1 (sk1 (sk1 (sk1 (sk1 (.refl _))))))))))) ?_
    refine HdJ.step [3, 5] (by kernel_rfl) rfl ?_
    refine HdStep.c (fun inv => ?_) ?_
    ·have g63 := mkLen_some h33
     refine Lst.make (α := Bool) (z0 := false) (k := n32) rfl rfl (by decide) (congrArg some (congrArg (Value.int .i64) g63.1)) (congrArg some (congrArg (Value.int .i64) g63.1)) Try.runUnderlying75 Try.typeInfo4 rfl rfl rfl rfl rfl g63.2 rfl (fun s64 => ?_)
     refine hds inv (sc1 (sc1 (sc1 (sc1 (sk1 (sk1 (sk1 (sk1 (sk1 (sk1 (sk1 (.refl _)))))))))))) ?_
     refine HdJ.o1 5 (fun inv => ?_)
     refine Lst.addNil 4 1 ?_
     refine Lst.alloc (cs := enc Sl.nil) rfl rfl (by decide) Try.zeroValue75 rfl (fun b65 => ?_)
     refine hds inv (sc1 (sc1 (sc1 (sc1 (sc1 (sc1 (sk1 (sk1 (sk1 (sk1 (sk1 (sk1 (sk1 (.refl _)))))))))))))) ?_
     refine HdJ.o1 6 (fun inv => ?_)
     refine Lst.store (i := 3) rfl rfl rfl rfl rfl Try.sizeOf75 (vs := [Sl.v s55]) rfl rfl rfl (cs' := enc s55) (Put.here (vs := [Sl.v s55]) rfl) (L' := (.blk b65 (enc Sl.nil) 75) :: (.own Sl.nil 4 1 (encs ([] : List Bool))) :: (.own s64 4 1 (encs (List.replicate n32 false))) :: (.blk b62 (enc s55) 75) :: (.own Sl.nil 4 1 (encs ([] : List Bool))) :: (.own s55 4 1 (encs (List.replicate n27 false))) :: (.blk b25 [pv b12 0] 97) :: (.rows (α := Bool) 4 rs14) :: (.own s13 75 1 (encs rs14)) :: (.own s18 3 1 (encs r10.left)) :: (.blk b12 (enc (GraphR.mk r10 s13 s18 s20)) 101) :: (.own Sl.nil 3 1 (encs ([] : List Int))) :: (.own Sl.nil 3 1 (encs ([] : List Int))) :: L) rfl ?_
     refine hds inv (sc1 (sc1 (sc1 (sc1 (sc1 (sc1 (sk1 (sk1 (sk1 (sk1 (sk1 (sk1 (sk1 (.refl _)))))))))))))) ?_
     refine HdJ.done (by kernel_rfl) ?_
     refine At.front (i := 3) rfl rfl ?_
     refine At.front (i := 2) rfl rfl ?_
     refine At.front (i := 2) rfl (L' := (.blk b65 (enc Sl.nil) 75) :: (.own Sl.nil 4 1 (encs ([] : List Bool))) :: (.blk b62 (enc s55) 75) :: (.own s64 4 1 (encs (List.replicate n32 false))) :: (.own Sl.nil 4 1 (encs ([] : List Bool))) :: (.own s55 4 1 (encs (List.replicate n27 false))) :: (.blk b25 [pv b12 0] 97) :: (.rows (α := Bool) 4 rs14) :: (.own s13 75 1 (encs rs14)) :: (.own s18 3 1 (encs r10.left)) :: (.blk b12 (enc (GraphR.mk r10 s13 s18 s20)) 101) :: (.own Sl.nil 3 1 (encs ([] : List Int))) :: (.own Sl.nil 3 1 (encs ([] : List Int))) :: L) rfl ?_
     refine At.less (L' := (.blk b65 (enc Sl.nil) 75) :: (.own Sl.nil 4 1 (encs ([] : List Bool))) :: (.blk b62 (enc s55) 75) :: (.own s64 4 1 (encs (List.replicate n32 false))) :: (.own s55 4 1 (encs (List.replicate n27 false))) :: (.blk b25 [pv b12 0] 97) :: (.rows (α := Bool) 4 rs14) :: (.own s13 75 1 (encs rs14)) :: (.own s18 3 1 (encs r10.left)) :: (.blk b12 (enc (GraphR.mk r10 s13 s18 s20)) 101) :: (.own Sl.nil 3 1 (encs ([] : List Int))) :: (.own Sl.nil 3 1 (encs ([] : List Int))) :: L) (sk1 (sk1 (sk1 (sk1 (sc1 (sk1 (sk1 (sk1 (sk1 (sk1 (sk1 (sk1 (sk1 (.refl _)))))))))))))) ?_
     exact At.meetN (b65, Sl.nil, ([] : List Bool), b62, s64, (List.replicate n32 false), s55, (List.replicate n27 false)) fl ⟨rfl, rfl, rfl, rfl, rfl, trivial⟩ rfl h53
    refine HdStep.c (fun inv => ?_) trivial
    refine Lst.addNil 4 1 ?_
    refine Lst.alloc (cs := enc Sl.nil) rfl rfl (by decide) Try.zeroValue75 rfl (fun b66 => ?_)
    refine hds inv (sc1 (sc1 (sc1 (sc1 (sc1 (sk1 (sk1 (sk1 (sk1 (sk1 (sk1 (sk1 (.refl _))))))))))))) ?_
    refine HdJ.step [3, 6] (by kernel_rfl) rfl ?_
    refine HdStep.c (fun inv => ?_) ?_
    ·have g67 := mkLen_some h33
     refine Lst.make (α := Bool) (z0 := false) (k := n32) rfl rfl (by decide) (congrArg some (congrArg (Value.int .i64) g67.1)) (congrArg some (congrArg (Value.int .i64) g67.1)) Try.runUnderlying75 Try.typeInfo4 rfl rfl rfl rfl rfl g67.2 rfl (fun s68 => ?_)
     refine hds inv (sc1 (sc1 (sc1 (sc1 (sc1 (sc1 (sk1 (sk1 (sk1 (sk1 (sk1 (sk1 (sk1 (.refl _)))))))))))))) ?_
     refine HdJ.o1 6 (fun inv => ?_)
     refine Lst.store (i := 3) rfl rfl rfl rfl rfl Try.sizeOf75 (vs := [Sl.v s55]) rfl rfl rfl (cs' := enc s55) (Put.here (vs := [Sl.v s55]) rfl) (L' := (.own s68 4 1 (encs (List.replicate n32 false))) :: (.blk b66 (enc Sl.nil) 75) :: (.own Sl.nil 4 1 (encs ([] : List Bool))) :: (.blk b62 (enc s55) 75) :: (.own Sl.nil 4 1 (encs ([] : List Bool))) :: (.own s55 4 1 (encs (List.replicate n27 false))) :: (.blk b25 [pv b12 0] 97) :: (.rows (α := Bool) 4 rs14) :: (.own s13 75 1 (encs rs14)) :: (.own s18 3 1 (encs r10.left)) :: (.blk b12 (enc (GraphR.mk r10 s13 s18 s20)) 101) :: (.own Sl.nil 3 1 (encs ([] : List Int))) :: (.own Sl.nil 3 1 (encs ([] : List Int))) :: L) rfl ?_
     refine hds inv (sc1 (sc1 (sc1 (sc1 (sc1 (sc1 (sk1 (sk1 (sk1 (sk1 (sk1 (sk1 (sk1 (.refl _)))))))))))))) ?_
     refine HdJ.done (by kernel_rfl) ?_
     refine At.front (i := 3) rfl rfl ?_
     refine At.front (i := 3) rfl rfl ?_
     refine At.front (i := 3) rfl (L' := (.blk b66 (enc Sl.nil) 75) :: (.own Sl.nil 4 1 (encs ([] : List Bool))) :: (.blk b62 (enc s55) 75) :: (.own s68 4 1 (encs (List.replicate n32 false))) :: (.own Sl.nil 4 1 (encs ([] : List Bool))) :: (.own s55 4 1 (encs (List.replicate n27 false))) :: (.blk b25 [pv b12 0] 97) :: (.rows (α := Bool) 4 rs14) :: (.own s13 75 1 (encs rs14)) :: (.own s18 3 1 (encs r10.left)) :: (.blk b12 (enc (GraphR.mk r10 s13 s18 s20)) 101) :: (.own Sl.nil 3 1 (encs ([] : List Int))) :: (.own Sl.nil 3 1 (encs ([] : List Int))) :: L) rfl ?_
     refine At.less (L' := (.blk b66 (enc Sl.nil) 75) :: (.own Sl.nil 4 1 (encs ([] : List Bool))) :: (.blk b62 (enc s55) 75) :: (.own s68 4 1 (encs (List.replicate n32 false))) :: (.own s55 4 1 (encs (List.replicate n27 false))) :: (.blk b25 [pv b12 0] 97) :: (.rows (α := Bool) 4 rs14) :: (.own s13 75 1 (encs rs14)) :: (.own s18 3 1 (encs r10.left)) :: (.blk b12 (enc (GraphR.mk r10 s13 s18 s20)) 101) :: (.own Sl.nil 3 1 (encs ([] : List Int))) :: (.own Sl.nil 3 1 (encs ([] : List Int))) :: L) (sk1 (sk1 (sk1 (sk1 (sc1 (sk1 (sk1 (sk1 (sk1 (sk1 (sk1 (sk1 (sk1 (.refl _)))))))))))))) ?_
     exact At.meetN (b66, Sl.nil, ([] : List Bool), b62, s68, (List.replicate n32 false), s55, (List.replicate n27 false)) fl ⟨rfl, rfl, rfl, rfl, rfl, trivial⟩ rfl h53
    refine HdStep.c (fun inv => ?_) trivial
    refine Lst.store (i := 2) rfl rfl rfl rfl rfl Try.sizeOf75 (vs := [Sl.v s55]) rfl rfl rfl (cs' := enc s55) (Put.here (vs := [Sl.v s55]) rfl) (L' := (.blk b66 (enc Sl.nil) 75) :: (.own Sl.nil 4 1 (encs ([] : List Bool))) :: (.blk b62 (enc s55) 75) :: (.own Sl.nil 4 1 (encs ([] : List Bool))) :: (.own s55 4 1 (encs (List.replicate n27 false))) :: (.blk b25 [pv b12 0] 97) :: (.rows (α := Bool) 4 rs14) :: (.own s13 75 1 (encs rs14)) :: (.own s18 3 1 (encs r10.left)) :: (.blk b12 (enc (GraphR.mk r10 s13 s18 s20)) 101) :: (.own Sl.nil 3 1 (encs ([] : List Int))) :: (.own Sl.nil 3 1 (encs ([] : List Int))) :: L) rfl ?_
    refine hds inv (sc1 (sc1 (sc1 (sc1 (sc1 (sk1 (sk1 (sk1 (sk1 (sk1 (sk1 (sk1 (.refl _))))))))))))) ?_
    refine HdJ.o1 3 (fun inv => ?_)
    have g69 := mkLen_some h33
    refine Lst.make (α := Bool) (z0 := false) (k := n32) rfl rfl (by decide) (congrArg some (congrArg (Value.int .i64) g69.1)) (congrArg some (congrArg (Value.int .i64) g69.1)) Try.runUnderlying75 Try.typeInfo4 rfl rfl rfl rfl rfl g69.2 rfl (fun s70 => ?_)
    refine hds inv (sc1 (sc1 (sc1 (sc1 (sc1 (sc1 (sk1 (sk1 (sk1 (sk1 (sk1 (sk1 (sk1 (.refl _)))))))))))))) ?_
    refine HdJ.done (by kernel_rfl) ?_
    refine At.front (i := 3) rfl rfl ?_
    refine At.front (i := 3) rfl rfl ?_
    refine At.front (i := 3) rfl (L' := (.blk b66 (enc Sl.nil) 75) :: (.own Sl.nil 4 1 (encs ([] : List Bool))) :: (.blk b62 (enc s55) 75) :: (.own s70 4 1 (encs (List.replicate n32 false))) :: (.own Sl.nil 4 1 (encs ([] : List Bool))) :: (.own s55 4 1 (encs (List.replicate n27 false))) :: (.blk b25 [pv b12 0] 97) :: (.rows (α := Bool) 4 rs14) :: (.own s13 75 1 (encs rs14)) :: (.own s18 3 1 (encs r10.left)) :: (.blk b12 (enc (GraphR.mk r10 s13 s18 s20)) 101) :: (.own Sl.nil 3 1 (encs ([] : List Int))) :: (.own Sl.nil 3 1 (encs ([] : List Int))) :: L) rfl ?_
    refine At.less (L' := (.blk b66 (enc Sl.nil) 75) :: (.own Sl.nil 4 1 (encs ([] : List Bool))) :: (.blk b62 (enc s55) 75) :: (.own s70 4 1 (encs (List.replicate n32 false))) :: (.own s55 4 1 (encs (List.replicate n27 false))) :: (.blk b25 [pv b12 0] 97) :: (.rows (α := Bool) 4 rs14) :: (.own s13 75 1 (encs rs14)) :: (.own s18 3 1 (encs r10.left)) :: (.blk b12 (enc (GraphR.mk r10 s13 s18 s20)) 101) :: (.own Sl.nil 3 1 (encs ([] : List Int))) :: (.own Sl.nil 3 1 (encs ([] : List Int))) :: L) (sk1 (sk1 (sk1 (sk1 (sc1 (sk1 (sk1 (sk1 (sk1 (sk1 (sk1 (sk1 (sk1 (.refl _)))))))))))))) ?_
    exact At.meetN (b66, Sl.nil, ([] : List Bool), b62, s70, (List.replicate n32 false), s55, (List.replicate n27 false)) fl ⟨rfl, rfl, rfl, rfl, rfl, trivial⟩ rfl h53
   refine HdStep.c (fun inv => ?_) trivial
   refine Lst.addNil 4 1 ?_
   refine Lst.alloc (cs := enc Sl.nil) rfl rfl (by decide) Try.zeroValue75 rfl (fun b71 => ?_)
   refine hds inv (sc1 (sc1 (sc1 (sk1 (sk1 (sk1 (sk1 (sk1 (sk1 (sk1 (.refl _))))))))))) ?_
   refine HdJ.step [3, 4] (by kernel_rfl) rfl ?_
   refine HdStep.c (fun inv => ?_) ?_
   ·have g72 := mkLen_some h33
    refine Lst.make (α := Bool) (z0 := false) (k := n32) rfl rfl (by decide) (congrArg some (congrArg (Value.int .i64) g72.1)) (congrArg some (congrArg (Value.int .i64) g72.1)) Try.runUnderlying75 Try.typeInfo4 rfl rfl rfl rfl rfl g72.2 rfl (fun s73 => ?_)
    refine hds inv (sc1 (sc1 (sc1 (sc1 (sk1 (sk1 (sk1 (sk1 (sk1 (sk1 (sk1 (.refl _)))))))))))) ?_
    refine HdJ.o1 4 (fun inv => ?_)
    refine Lst.addNil 4 1 ?_
    refine Lst.alloc (cs := enc Sl.nil) rfl rfl (by decide) Try.zeroValue75 rfl (fun b74 => ?_)
    refine hds inv (sc1 (sc1 (sc1 (sc1 (sc1 (sc1 (sk1 (sk1 (sk1 (sk1 (sk1 (sk1 (sk1 (.refl _)))))))))))))) ?_
    refine HdJ.o1 6 (fun inv => ?_)
    refine Lst.store (i := 0) rfl rfl rfl rfl rfl Try.sizeOf75 (vs := [Sl.v s55]) rfl rfl rfl (cs' := enc s55) (Put.here (vs := [Sl.v s55]) rfl) (L' := (.blk b74 (enc s55) 75) :: (.own Sl.nil 4 1 (encs ([] : List Bool))) :: (.own s73 4 1 (encs (List.replicate n32 false))) :: (.blk b71 (enc Sl.nil) 75) :: (.own Sl.nil 4 1 (encs ([] : List Bool))) :: (.own s55 4 1 (encs (List.replicate n27 false))) :: (.blk b25 [pv b12 0] 97) :: (.rows (α := Bool) 4 rs14) :: (.own s13 75 1 (encs rs14)) :: (.own s18 3 1 (encs r10.left)) :: (.blk b12 (enc (GraphR.mk r10 s13 s18 s20)) 101) :: (.own Sl.nil 3 1 (encs ([] : List Int))) :: (.own Sl.nil 3 1 (encs ([] : List Int))) :: L) rfl ?_
    refine hds inv (sc1 (sc1 (sc1 (sc1 (sc1 (sc1 (sk1 (sk1 (sk1 (sk1 (sk1 (sk1 (sk1 (.refl _)))))))))))))) ?_
    refine HdJ.done (by kernel_rfl) ?_
    refine At.front (i := 4) rfl rfl ?_
    refine At.front (i := 4) rfl (L' := (.blk b71 (enc Sl.nil) 75) :: (.own Sl.nil 4 1 (encs ([] : List Bool))) :: (.blk b74 (enc s55) 75) :: (.own Sl.nil 4 1 (encs ([] : List Bool))) :: (.own s73 4 1 (encs (List.replicate n32 false))) :: (.own s55 4 1 (encs (List.replicate n27 false))) :: (.blk b25 [pv b12 0] 97) :: (.rows (α := Bool) 4 rs14) :: (.own s13 75 1 (encs rs14)) :: (.own s18 3 1 (encs r10.left)) :: (.blk b12 (enc (GraphR.mk r10 s13 s18 s20)) 101) :: (.own Sl.nil 3 1 (encs ([] : List Int))) :: (.own Sl.nil 3 1 (encs ([] : List Int))) :: L) rfl ?_
    refine At.less (L' := (.blk b71 (enc Sl.nil) 75) :: (.own Sl.nil 4 1 (encs ([] : List Bool))) :: (.blk b74 (enc s55) 75) :: (.own s73 4 1 (encs (List.replicate n32 false))) :: (.own s55 4 1 (encs (List.replicate n27 false))) :: (.blk b25 [pv b12 0] 97) :: (.rows (α := Bool) 4 rs14) :: (.own s13 75 1 (encs rs14)) :: (.own s18 3 1 (encs r10.left)) :: (.blk b12 (enc (GraphR.mk r10 s13 s18 s20)) 101) :: (.own Sl.nil 3 1 (encs ([] : List Int))) :: (.own Sl.nil 3 1 (encs ([] : List Int))) :: L) (sk1 (sk1 (sk1 (sc1 (sk1 (sk1 (sk1 (sk1 (sk1 (sk1 (sk1 (sk1 (sk1 (.refl _)))))))))))))) ?_
    exact At.meetN (b71, Sl.nil, ([] : List Bool), b74, s73, (List.replicate n32 false), s55, (List.replicate n27 false)) fl ⟨rfl, rfl, rfl, rfl, rfl, trivial⟩ rfl h53
   refine HdStep.c (fun inv => ?_) trivial
   refine Lst.addNil 4 1 ?_
   refine Lst.alloc (cs := enc Sl.nil) rfl rfl (by decide) Try.zeroValue75 rfl (fun b75 => ?_)
   refine hds inv (sc1 (sc1 (sc1 (sc1 (sc1 (sk1 (sk1 (sk1 (sk1 (sk1 (sk1 (sk1 (.refl _))))))))))))) ?_
   refine HdJ.step [3, 6] (by kernel_rfl) rfl ?_
   refine HdStep.c (fun inv => ?_) ?_
   ·have g76 := mkLen_some h33
    refine Lst.make (α := Bool) (z0 := false) (k := n32) rfl rfl (by decide) (congrArg some (congrArg (Value.int .i64) g76.1)) (congrArg some (congrArg (Value.int .i64) g76.1)) Try.runUnderlying75 Try.typeInfo4 rfl rfl rfl rfl rfl g76.2 rfl (fun s77 => ?_)
    refine hds inv (sc1 (sc1 (sc1 (sc1 (sc1 (sc1 (sk1 (sk1 (sk1 (sk1 (sk1 (sk1 (sk1 (.refl _)))))))))))))) ?_
    refine HdJ.o1 6 (fun inv => ?_)
    refine Lst.store (i := 1) rfl rfl rfl rfl rfl Try.sizeOf75 (vs := [Sl.v s55]) rfl rfl rfl (cs' := enc s55) (Put.here (vs := [Sl.v s55]) rfl) (L' := (.own s77 4 1 (encs (List.replicate n32 false))) :: (.blk b75 (enc s55) 75) :: (.own Sl.nil 4 1 (encs ([] : List Bool))) :: (.blk b71 (enc Sl.nil) 75) :: (.own Sl.nil 4 1 (encs ([] : List Bool))) :: (.own s55 4 1 (encs (List.replicate n27 false))) :: (.blk b25 [pv b12 0] 97) :: (.rows (α := Bool) 4 rs14) :: (.own s13 75 1 (encs rs14)) :: (.own s18 3 1 (encs r10.left)) :: (.blk b12 (enc (GraphR.mk r10 s13 s18 s20)) 101) :: (.own Sl.nil 3 1 (encs ([] : List Int))) :: (.own Sl.nil 3 1 (encs ([] : List Int))) :: L) rfl ?_
    refine hds inv (sc1 (sc1 (sc1 (sc1 (sc1 (sc1 (sk1 (sk1 (sk1 (sk1 (sk1 (sk1 (sk1 (.refl _)))))))))))))) ?_
    refine HdJ.done (by kernel_rfl) ?_
    refine At.front (i := 1) rfl rfl ?_
    refine At.front (i := 4) rfl rfl ?_
    refine At.front (i := 4) rfl (L' := (.blk b71 (enc Sl.nil) 75) :: (.own Sl.nil 4 1 (encs ([] : List Bool))) :: (.blk b75 (enc s55) 75) :: (.own s77 4 1 (encs (List.replicate n32 false))) :: (.own Sl.nil 4 1 (encs ([] : List Bool))) :: (.own s55 4 1 (encs (List.replicate n27 false))) :: (.blk b25 [pv b12 0] 97) :: (.rows (α := Bool) 4 rs14) :: (.own s13 75 1 (encs rs14)) :: (.own s18 3 1 (encs r10.left)) :: (.blk b12 (enc (GraphR.mk r10 s13 s18 s20)) 101) :: (.own Sl.nil 3 1 (encs ([] : List Int))) :: (.own Sl.nil 3 1 (encs ([] : List Int))) :: L) rfl ?_
    refine At.less (L' := (.blk b71 (enc Sl.nil) 75) :: (.own Sl.nil 4 1 (encs ([] : List Bool))) :: (.blk b75 (enc s55) 75) :: (.own s77 4 1 (encs (List.replicate n32 false))) :: (.own s55 4 1 (encs (List.replicate n27 false))) :: (.blk b25 [pv b12 0] 97) :: (.rows (α := Bool) 4 rs14) :: (.own s13 75 1 (encs rs14)) :: (.own s18 3 1 (encs r10.left)) :: (.blk b12 (enc (GraphR.mk r10 s13 s18 s20)) 101) :: (.own Sl.nil 3 1 (encs ([] : List Int))) :: (.own Sl.nil 3 1 (encs ([] : List Int))) :: L) (sk1 (sk1 (sk1 (sk1 (sc1 (sk1 (sk1 (sk1 (sk1 (sk1 (sk1 (sk1 (sk1 (.refl _)))))))))))))) ?_
    exact At.meetN (b71, Sl.nil, ([] : List Bool), b75, s77, (List.replicate n32 false), s55, (List.replicate n27 false)) fl ⟨rfl, rfl, rfl, rfl, rfl, trivial⟩ rfl h53
   refine HdStep.c (fun inv => ?_) trivial
   refine Lst.store (i := 0) rfl rfl rfl rfl rfl Try.sizeOf75 (vs := [Sl.v s55]) rfl rfl rfl (cs' := enc s55) (Put.here (vs := [Sl.v s55]) rfl) (L' := (.blk b75 (enc s55) 75) :: (.own Sl.nil 4 1 (encs ([] : List Bool))) :: (.blk b71 (enc Sl.nil) 75) :: (.own Sl.nil 4 1 (encs ([] : List Bool))) :: (.own s55 4 1 (encs (List.replicate n27 false))) :: (.blk b25 [pv b12 0] 97) :: (.rows (α := Bool) 4 rs14) :: (.own s13 75 1 (encs rs14)) :: (.own s18 3 1 (encs r10.left)) :: (.blk b12 (enc (GraphR.mk r10 s13 s18 s20)) 101) :: (.own Sl.nil 3 1 (encs ([] : List Int))) :: (.own Sl.nil 3 1 (encs ([] : List Int))) :: L) rfl ?_
   refine hds inv (sc1 (sc1 (sc1 (sc1 (sc1 (sk1 (sk1 (sk1 (sk1 (sk1 (sk1 (sk1 (.refl _))))))))))))) ?_
   refine HdJ.o1 3 (fun inv => ?_)
   have g78 := mkLen_some h33
   refine Lst.make (α := Bool) (z0 := false) (k := n32) rfl rfl (by decide) (congrArg some (congrArg (Value.int .i64) g78.1)) (congrArg some (congrArg (Value.int .i64) g78.1)) Try.runUnderlying75 Try.typeInfo4 rfl rfl rfl rfl rfl g78.2 rfl (fun s79 => ?_)
   refine hds inv (sc1 (sc1 (sc1 (sc1 (sc1 (sc1 (sk1 (sk1 (sk1 (sk1 (sk1 (sk1 (sk1 (.refl _)))))))))))))) ?_
   refine HdJ.done (by kernel_rfl) ?_
   refine At.front (i := 1) rfl rfl ?_
   refine At.front (i := 4) rfl rfl ?_
   refine At.front (i := 4) rfl (L' := (.blk b71 (enc Sl.nil) 75) :: (.own Sl.nil 4 1 (encs ([] : List Bool))) :: (.blk b75 (enc s55) 75) :: (.own s79 4 1 (encs (List.replicate n32 false))) :: (.own Sl.nil 4 1 (encs ([] : List Bool))) :: (.own s55 4 1 (encs (List.replicate n27 false))) :: (.blk b25 [pv b12 0] 97) :: (.rows (α := Bool) 4 rs14) :: (.own s13 75 1 (encs rs14)) :: (.own s18 3 1 (encs r10.left)) :: (.blk b12 (enc (GraphR.mk r10 s13 s18 s20)) 101) :: (.own Sl.nil 3 1 (encs ([] : List Int))) :: (.own Sl.nil 3 1 (encs ([] : List Int))) :: L) rfl ?_
   refine At.less (L' := (.blk b71 (enc Sl.nil) 75) :: (.own Sl.nil 4 1 (encs ([] : List Bool))) :: (.blk b75 (enc s55) 75) :: (.own s79 4 1 (encs (List.replicate n32 false))) :: (.own s55 4 1 (encs (List.replicate n27 false))) :: (.blk b25 [pv b12 0] 97) :: (.rows (α := Bool) 4 rs14) :: (.own s13 75 1 (encs rs14)) :: (.own s18 3 1 (encs r10.left)) :: (.blk b12 (enc (GraphR.mk r10 s13 s18 s20)) 101) :: (.own Sl.nil 3 1 (encs ([] : List Int))) :: (.own Sl.nil 3 1 (encs ([] : List Int))) :: L) (sk1 (sk1 (sk1 (sk1 (sc1 (sk1 (sk1 (sk1 (sk1 (sk1 (sk1 (sk1 (sk1 (.refl _)))))))))))))) ?_
   exact At.meetN (b71, Sl.nil, ([] : List Bool), b75, s79, (List.replicate n32 false), s55, (List.replicate n27 false)) fl ⟨rfl, rfl, rfl, rfl, rfl, trivial⟩ rfl h53
  refine HdStep.c (fun inv => ?_) ?_
  ·have g80 := mkLen_some h33
   refine Lst.make (α := Bool) (z0 := false) (k := n32) rfl rfl (by decide) (congrArg some (congrArg (Value.int .i64) g80.1)) (congrArg some (congrArg (Value.int .i64) g80.1)) Try.runUnderlying75 Try.typeInfo4 rfl rfl rfl rfl rfl g80.2 rfl (fun s81 => ?_)
   refine hds inv (sc1 (sk1 (sk1 (sk1 (sk1 (sk1 (sk1 (sk1 (.refl _))))))))) ?_
   refine HdJ.step [1, 4, 5] (by kernel_rfl) rfl ?_
   refine HdStep.c (fun inv => ?_) ?_
   ·have g82 := mkLen_some h28
    refine Lst.make (α := Bool) (z0 := false) (k := n27) rfl rfl (by decide) (congrArg some (congrArg (Value.int .i64) g82.1)) (congrArg some (congrArg (Value.int .i64) g82.1)) Try.runUnderlying75 Try.typeInfo4 rfl rfl rfl rfl rfl g82.2 rfl (fun s83 => ?_)
    refine hds inv (sc1 (sc1 (sk1 (sk1 (sk1 (sk1 (sk1 (sk1 (sk1 (.refl _)))))))))) ?_
    refine HdJ.step [4, 5] (by kernel_rfl) rfl ?_
    refine HdStep.c (fun inv => ?_) ?_
    ·refine Lst.addNil 4 1 ?_
     refine Lst.alloc (cs := enc Sl.nil) rfl rfl (by decide) Try.zeroValue75 rfl (fun b84 => ?_)
     refine hds inv (sc1 (sc1 (sc1 (sc1 (sk1 (sk1 (sk1 (sk1 (sk1 (sk1 (sk1 (.refl _)))))))))))) ?_
     refine HdJ.o1 5 (fun inv => ?_)
     refine Lst.addNil 4 1 ?_
     refine Lst.alloc (cs := enc Sl.nil) rfl rfl (by decide) Try.zeroValue75 rfl (fun b85 => ?_)
     refine hds inv (sc1 (sc1 (sc1 (sc1 (sc1 (sc1 (sk1 (sk1 (sk1 (sk1 (sk1 (sk1 (sk1 (.refl _)))))))))))))) ?_
     refine HdJ.o1 6 (fun inv => ?_)
     refine Lst.store (i := 2) rfl rfl rfl rfl rfl Try.sizeOf75 (vs := [Sl.v s83]) rfl rfl rfl (cs' := enc s83) (Put.here (vs := [Sl.v s83]) rfl) (L' := (.blk b85 (enc Sl.nil) 75) :: (.own Sl.nil 4 1 (encs ([] : List Bool))) :: (.blk b84 (enc s83) 75) :: (.own Sl.nil 4 1 (encs ([] : List Bool))) :: (.own s83 4 1 (encs (List.replicate n27 false))) :: (.own s81 4 1 (encs (List.replicate n32 false))) :: (.blk b25 [pv b12 0] 97) :: (.rows (α := Bool) 4 rs14) :: (.own s13 75 1 (encs rs14)) :: (.own s18 3 1 (encs r10.left)) :: (.blk b12 (enc (GraphR.mk r10 s13 s18 s20)) 101) :: (.own Sl.nil 3 1 (encs ([] : List Int))) :: (.own Sl.nil 3 1 (encs ([] : List Int))) :: L) rfl ?_
     refine hds inv (sc1 (sc1 (sc1 (sc1 (sc1 (sc1 (sk1 (sk1 (sk1 (sk1 (sk1 (sk1 (sk1 (.refl _)))))))))))))) ?_
     refine HdJ.done (by kernel_rfl) ?_
     refine At.front (i := 5) rfl rfl ?_
     refine At.front (i := 3) rfl rfl ?_
     refine At.front (i := 3) rfl (L' := (.own Sl.nil 4 1 (encs ([] : List Bool))) :: (.blk b84 (enc s83) 75) :: (.own s81 4 1 (encs (List.replicate n32 false))) :: (.blk b85 (enc Sl.nil) 75) :: (.own Sl.nil 4 1 (encs ([] : List Bool))) :: (.own s83 4 1 (encs (List.replicate n27 false))) :: (.blk b25 [pv b12 0] 97) :: (.rows (α := Bool) 4 rs14) :: (.own s13 75 1 (encs rs14)) :: (.own s18 3 1 (encs r10.left)) :: (.blk b12 (enc (GraphR.mk r10 s13 s18 s20)) 101) :: (.own Sl.nil 3 1 (encs ([] : List Int))) :: (.own Sl.nil 3 1 (encs ([] : List Int))) :: L) rfl ?_
     refine At.front (i := 3) rfl (L' := (.blk b85 (enc Sl.nil) 75) :: (.own Sl.nil 4 1 (encs ([] : List Bool))) :: (.blk b84 (enc s83) 75) :: (.own s81 4 1 (encs (List.replicate n32 false))) :: (.own Sl.nil 4 1 (encs ([] : List Bool))) :: (.own s83 4 1 (encs (List.replicate n27 false))) :: (.blk b25 [pv b12 0] 97) :: (.rows (α := Bool) 4 rs14) :: (.own s13 75 1 (encs rs14)) :: (.own s18 3 1 (encs r10.left)) :: (.blk b12 (enc (GraphR.mk r10 s13 s18 s20)) 101) :: (.own Sl.nil 3 1 (encs ([] : List Int))) :: (.own Sl.nil 3 1 (encs ([] : List Int))) :: L) rfl ?_
     refine At.less (L' := (.blk b85 (enc Sl.nil) 75) :: (.own Sl.nil 4 1 (encs ([] : List Bool))) :: (.blk b84 (enc s83) 75) :: (.own s81 4 1 (encs (List.replicate n32 false))) :: (.own s83 4 1 (encs (List.replicate n27 false))) :: (.blk b25 [pv b12 0] 97) :: (.rows (α := Bool) 4 rs14) :: (.own s13 75 1 (encs rs14)) :: (.own s18 3 1 (encs r10.left)) :: (.blk b12 (enc (GraphR.mk r10 s13 s18 s20)) 101) :: (.own Sl.nil 3 1 (encs ([] : List Int))) :: (.own Sl.nil 3 1 (encs ([] : List Int))) :: L) (sk1 (sk1 (sk1 (sk1 (sc1 (sk1 (sk1 (sk1 (sk1 (sk1 (sk1 (sk1 (sk1 (.refl _)))))))))))))) ?_
     exact At.meetN (b85, Sl.nil, ([] : List Bool), b84, s81, (List.replicate n32 false), s83, (List.replicate n27 false)) fl ⟨rfl, rfl, rfl, rfl, rfl, trivial⟩ rfl h53
    refine HdStep.c (fun inv => ?_) trivial
    refine Lst.addNil 4 1 ?_
    refine Lst.alloc (cs := enc Sl.nil) rfl rfl (by decide) Try.zeroValue75 rfl (fun b86 => ?_)
    refine hds inv (sc1 (sc1 (sc1 (sc1 (sk1 (sk1 (sk1 (sk1 (sk1 (sk1 (sk1 (.refl _)))))))))))) ?_
    refine HdJ.o1 4 (fun inv => ?_)
    refine Lst.addNil 4 1 ?_
    refine Lst.alloc (cs := enc Sl.nil) rfl rfl (by decide) Try.zeroValue75 rfl (fun b87 => ?_)
    refine hds inv (sc1 (sc1 (sc1 (sc1 (sc1 (sc1 (sk1 (sk1 (sk1 (sk1 (sk1 (sk1 (sk1 (.refl _)))))))))))))) ?_
    refine HdJ.o1 6 (fun inv => ?_)
    refine Lst.store (i := 0) rfl rfl rfl rfl rfl Try.sizeOf75 (vs := [Sl.v s83]) rfl rfl rfl (cs' := enc s83) (Put.here (vs := [Sl.v s83]) rfl) (L' := (.blk b87 (enc s83) 75) :: (.own Sl.nil 4 1 (encs ([] : List Bool))) :: (.blk b86 (enc Sl.nil) 75) :: (.own Sl.nil 4 1 (encs ([] : List Bool))) :: (.own s83 4 1 (encs (List.replicate n27 false))) :: (.own s81 4 1 (encs (List.replicate n32 false))) :: (.blk b25 [pv b12 0] 97) :: (.rows (α := Bool) 4 rs14) :: (.own s13 75 1 (encs rs14)) :: (.own s18 3 1 (encs r10.left)) :: (.blk b12 (enc (GraphR.mk r10 s13 s18 s20)) 101) :: (.own Sl.nil 3 1 (encs ([] : List Int))) :: (.own Sl.nil 3 1 (encs ([] : List Int))) :: L) rfl ?_
    refine hds inv (sc1 (sc1 (sc1 (sc1 (sc1 (sc1 (sk1 (sk1 (sk1 (sk1 (sk1 (sk1 (sk1 (.refl _)))))))))))))) ?_
    refine HdJ.done (by kernel_rfl) ?_
    refine At.front (i := 5) rfl rfl ?_
    refine At.front (i := 1) rfl rfl ?_
    refine At.front (i := 4) rfl (L' := (.own Sl.nil 4 1 (encs ([] : List Bool))) :: (.blk b87 (enc s83) 75) :: (.own s81 4 1 (encs (List.replicate n32 false))) :: (.own Sl.nil 4 1 (encs ([] : List Bool))) :: (.blk b86 (enc Sl.nil) 75) :: (.own s83 4 1 (encs (List.replicate n27 false))) :: (.blk b25 [pv b12 0] 97) :: (.rows (α := Bool) 4 rs14) :: (.own s13 75 1 (encs rs14)) :: (.own s18 3 1 (encs r10.left)) :: (.blk b12 (enc (GraphR.mk r10 s13 s18 s20)) 101) :: (.own Sl.nil 3 1 (encs ([] : List Int))) :: (.own Sl.nil 3 1 (encs ([] : List Int))) :: L) rfl ?_
    refine At.front (i := 4) rfl (L' := (.blk b86 (enc Sl.nil) 75) :: (.own Sl.nil 4 1 (encs ([] : List Bool))) :: (.blk b87 (enc s83) 75) :: (.own s81 4 1 (encs (List.replicate n32 false))) :: (.own Sl.nil 4 1 (encs ([] : List Bool))) :: (.own s83 4 1 (encs (List.replicate n27 false))) :: (.blk b25 [pv b12 0] 97) :: (.rows (α := Bool) 4 rs14) :: (.own s13 75 1 (encs rs14)) :: (.own s18 3 1 (encs r10.left)) :: (.blk b12 (enc (GraphR.mk r10 s13 s18 s20)) 101) :: (.own Sl.nil 3 1 (encs ([] : List Int))) :: (.own Sl.nil 3 1 (encs ([] : List Int))) :: L) rfl ?_
    refine At.less (L' := (.blk b86 (enc Sl.nil) 75) :: (.own Sl.nil 4 1 (encs ([] : List Bool))) :: (.blk b87 (enc s83) 75) :: (.own s81 4 1 (encs (List.replicate n32 false))) :: (.own s83 4 1 (encs (List.replicate n27 false))) :: (.blk b25 [pv b12 0] 97) :: (.rows (α := Bool) 4 rs14) :: (.own s13 75 1 (encs rs14)) :: (.own s18 3 1 (encs r10.left)) :: (.blk b12 (enc (GraphR.mk r10 s13 s18 s20)) 101) :: (.own Sl.nil 3 1 (encs ([] : List Int))) :: (.own Sl.nil 3 1 (encs ([] : List Int))) :: L) (sk1 (sk1 (sk1 (sk1 (sc1 (sk1 (sk1 (sk1 (sk1 (sk1 (sk1 (sk1 (sk1 (.refl _)))))))))))))) ?_
    exact At.meetN (b86, Sl.nil, ([] : List Bool), b87, s81, (List.replicate n32 false), s83, (List.replicate n27 false)) fl ⟨rfl, rfl, rfl, rfl, rfl, trivial⟩ rfl h53
   refine HdStep.c (fun inv => ?_) ?_
   ·refine Lst.addNil 4 1 ?_
    refine Lst.alloc (cs := enc Sl.nil) rfl rfl (by decide) Try.zeroValue75 rfl (fun b88 => ?_)
    refine hds inv (sc1 (sc1 (sc1 (sk1 (sk1 (sk1 (sk1 (sk1 (sk1 (sk1 (.refl _))))))))))) ?_
    refine HdJ.step [1, 5] (by kernel_rfl) rfl ?_
    refine HdStep.c (fun inv => ?_) ?_
    ·have g89 := mkLen_some h28
     refine Lst.make (α := Bool) (z0 := false) (k := n27) rfl rfl (by decide) (congrArg some (congrArg (Value.int .i64) g89.1)) (congrArg some (congrArg (Value.int .i64) g89.1)) Try.runUnderlying75 Try.typeInfo4 rfl rfl rfl rfl rfl g89.2 rfl (fun s90 => ?_)
     refine hds inv (sc1 (sc1 (sc1 (sc1 (sk1 (sk1 (sk1 (sk1 (sk1 (sk1 (sk1 (.refl _)))))))))))) ?_
     refine HdJ.o1 5 (fun inv => ?_)
     refine Lst.addNil 4 1 ?_
     refine Lst.alloc (cs := enc Sl.nil) rfl rfl (by decide) Try.zeroValue75 rfl (fun b91 => ?_)
     refine hds inv (sc1 (sc1 (sc1 (sc1 (sc1 (sc1 (sk1 (sk1 (sk1 (sk1 (sk1 (sk1 (sk1 (.refl _)))))))))))))) ?_
     refine HdJ.o1 6 (fun inv => ?_)
     refine Lst.store (i := 3) rfl rfl rfl rfl rfl Try.sizeOf75 (vs := [Sl.v s90]) rfl rfl rfl (cs' := enc s90) (Put.here (vs := [Sl.v s90]) rfl) (L' := (.blk b91 (enc Sl.nil) 75) :: (.own Sl.nil 4 1 (encs ([] : List Bool))) :: (.own s90 4 1 (encs (List.replicate n27 false))) :: (.blk b88 (enc s90) 75) :: (.own Sl.nil 4 1 (encs ([] : List Bool))) :: (.own s81 4 1 (encs (List.replicate n32 false))) :: (.blk b25 [pv b12 0] 97) :: (.rows (α := Bool) 4 rs14) :: (.own s13 75 1 (encs rs14)) :: (.own s18 3 1 (encs r10.left)) :: (.blk b12 (enc (GraphR.mk r10 s13 s18 s20)) 101) :: (.own Sl.nil 3 1 (encs ([] : List Int))) :: (.own Sl.nil 3 1 (encs ([] : List Int))) :: L) rfl ?_
     refine hds inv (sc1 (sc1 (sc1 (sc1 (sc1 (sc1 (sk1 (sk1 (sk1 (sk1 (sk1 (sk1 (sk1 (.refl _)))))))))))))) ?_
     refine HdJ.done (by kernel_rfl) ?_
     refine At.front (i := 5) rfl rfl ?_
     refine At.front (i := 4) rfl rfl ?_
     refine At.front (i := 3) rfl (L' := (.own Sl.nil 4 1 (encs ([] : List Bool))) :: (.blk b88 (enc s90) 75) :: (.own s81 4 1 (encs (List.replicate n32 false))) :: (.blk b91 (enc Sl.nil) 75) :: (.own s90 4 1 (encs (List.replicate n27 false))) :: (.own Sl.nil 4 1 (encs ([] : List Bool))) :: (.blk b25 [pv b12 0] 97) :: (.rows (α := Bool) 4 rs14) :: (.own s13 75 1 (encs rs14)) :: (.own s18 3 1 (encs r10.left)) :: (.blk b12 (enc (GraphR.mk r10 s13 s18 s20)) 101) :: (.own Sl.nil 3 1 (encs ([] : List Int))) :: (.own Sl.nil 3 1 (encs ([] : List Int))) :: L) rfl ?_
     refine At.front (i := 3) rfl (L' := (.blk b91 (enc Sl.nil) 75) :: (.own Sl.nil 4 1 (encs ([] : List Bool))) :: (.blk b88 (enc s90) 75) :: (.own s81 4 1 (encs (List.replicate n32 false))) :: (.own s90 4 1 (encs (List.replicate n27 false))) :: (.own Sl.nil 4 1 (encs ([] : List Bool))) :: (.blk b25 [pv b12 0] 97) :: (.rows (α := Bool) 4 rs14) :: (.own s13 75 1 (encs rs14)) :: (.own s18 3 1 (encs r10.left)) :: (.blk b12 (enc (GraphR.mk r10 s13 s18 s20)) 101) :: (.own Sl.nil 3 1 (encs ([] : List Int))) :: (.own Sl.nil 3 1 (encs ([] : List Int))) :: L) rfl ?_
     refine At.less (L' := (.blk b91 (enc Sl.nil) 75) :: (.own Sl.nil 4 1 (encs ([] : List Bool))) :: (.blk b88 (enc s90) 75) :: (.own s81 4 1 (encs (List.replicate n32 false))) :: (.own s90 4 1 (encs (List.replicate n27 false))) :: (.blk b25 [pv b12 0] 97) :: (.rows (α := Bool) 4 rs14) :: (.own s13 75 1 (encs rs14)) :: (.own s18 3 1 (encs r10.left)) :: (.blk b12 (enc (GraphR.mk r10 s13 s18 s20)) 101) :: (.own Sl.nil 3 1 (encs ([] : List Int))) :: (.own Sl.nil 3 1 (encs ([] : List Int))) :: L) (sk1 (sk1 (sk1 (sk1 (sk1 (sc1 (sk1 (sk1 (sk1 (sk1 (sk1 (sk1 (sk1 (.refl _)))))))))))))) ?_
     exact At.meetN (b91, Sl.nil, ([] : List Bool), b88, s81, (List.replicate n32 false), s90, (List.replicate n27 false)) fl ⟨rfl, rfl, rfl, rfl, rfl, trivial⟩ rfl h53
    refine HdStep.c (fun inv => ?_) trivial
    refine Lst.addNil 4 1 ?_
    refine Lst.alloc (cs := enc Sl.nil) rfl rfl (by decide) Try.zeroValue75 rfl (fun b92 => ?_)
    refine hds inv (sc1 (sc1 (sc1 (sc1 (sc1 (sk1 (sk1 (sk1 (sk1 (sk1 (sk1 (sk1 (.refl _))))))))))))) ?_
    refine HdJ.o1 1 (fun inv => ?_)
    have g93 := mkLen_some h28
    refine Lst.make (α := Bool) (z0 := false) (k := n27) rfl rfl (by decide) (congrArg some (congrArg (Value.int .i64) g93.1)) (congrArg some (congrArg (Value.int .i64) g93.1)) Try.runUnderlying75 Try.typeInfo4 rfl rfl rfl rfl rfl g93.2 rfl (fun s94 => ?_)
    refine hds inv (sc1 (sc1 (sc1 (sc1 (sc1 (sc1 (sk1 (sk1 (sk1 (sk1 (sk1 (sk1 (sk1 (.refl _)))))))))))))) ?_
    refine HdJ.o1 6 (fun inv => ?_)
    refine Lst.store (i := 3) rfl rfl rfl rfl rfl Try.sizeOf75 (vs := [Sl.v s94]) rfl rfl rfl (cs' := enc s94) (Put.here (vs := [Sl.v s94]) rfl) (L' := (.own s94 4 1 (encs (List.replicate n27 false))) :: (.blk b92 (enc Sl.nil) 75) :: (.own Sl.nil 4 1 (encs ([] : List Bool))) :: (.blk b88 (enc s94) 75) :: (.own Sl.nil 4 1 (encs ([] : List Bool))) :: (.own s81 4 1 (encs (List.replicate n32 false))) :: (.blk b25 [pv b12 0] 97) :: (.rows (α := Bool) 4 rs14) :: (.own s13 75 1 (encs rs14)) :: (.own s18 3 1 (encs r10.left)) :: (.blk b12 (enc (GraphR.mk r10 s13 s18 s20)) 101) :: (.own Sl.nil 3 1 (encs ([] : List Int))) :: (.own Sl.nil 3 1 (encs ([] : List Int))) :: L) rfl ?_
    refine hds inv (sc1 (sc1 (sc1 (sc1 (sc1 (sc1 (sk1 (sk1 (sk1 (sk1 (sk1 (sk1 (sk1 (.refl _)))))))))))))) ?_
    refine HdJ.done (by kernel_rfl) ?_
    refine At.front (i := 5) rfl rfl ?_
    refine At.front (i := 4) rfl rfl ?_
    refine At.front (i := 4) rfl (L' := (.own Sl.nil 4 1 (encs ([] : List Bool))) :: (.blk b88 (enc s94) 75) :: (.own s81 4 1 (encs (List.replicate n32 false))) :: (.own s94 4 1 (encs (List.replicate n27 false))) :: (.blk b92 (enc Sl.nil) 75) :: (.own Sl.nil 4 1 (encs ([] : List Bool))) :: (.blk b25 [pv b12 0] 97) :: (.rows (α := Bool) 4 rs14) :: (.own s13 75 1 (encs rs14)) :: (.own s18 3 1 (encs r10.left)) :: (.blk b12 (enc (GraphR.mk r10 s13 s18 s20)) 101) :: (.own Sl.nil 3 1 (encs ([] : List Int))) :: (.own Sl.nil 3 1 (encs ([] : List Int))) :: L) rfl ?_
    refine At.front (i := 4) rfl (L' := (.blk b92 (enc Sl.nil) 75) :: (.own Sl.nil 4 1 (encs ([] : List Bool))) :: (.blk b88 (enc s94) 75) :: (.own s81 4 1 (encs (List.replicate n32 false))) :: (.own s94 4 1 (encs (List.replicate n27 false))) :: (.own Sl.nil 4 1 (encs ([] : List Bool))) :: (.blk b25 [pv b12 0] 97) :: (.rows (α := Bool) 4 rs14) :: (.own s13 75 1 (encs rs14)) :: (.own s18 3 1 (encs r10.left)) :: (.blk b12 (enc (GraphR.mk r10 s13 s18 s20)) 101) :: (.own Sl.nil 3 1 (encs ([] : List Int))) :: (.own Sl.nil 3 1 (encs ([] : List Int))) :: L) rfl ?_
    refine At.less (L' := (.blk b92 (enc Sl.nil) 75) :: (.own Sl.nil 4 1 (encs ([] : List Bool))) :: (.blk b88 (enc s94) 75) :: (.own s81 4 1 (encs (List.replicate n32 false))) :: (.own s94 4 1 (encs (List.replicate n27 false))) :: (.blk b25 [pv b12 0] 97) :: (.rows (α := Bool) 4 rs14) :: (.own s13 75 1 (encs rs14)) :: (.own s18 3 1 (encs r10.left)) :: (.blk b12 (enc (GraphR.mk r10 s13 s18 s20)) 101) :: (.own Sl.nil 3 1 (encs ([] : List Int))) :: (.own Sl.nil 3 1 (encs ([] : List Int))) :: L) (sk1 (sk1 (sk1 (sk1 (sk1 (sc1 (sk1 (sk1 (sk1 (sk1 (sk1 (sk1 (sk1 (.refl _)))))))))))))) ?_
    exact At.meetN (b92, Sl.nil, ([] : List Bool), b88, s81, (List.replicate n32 false), s94, (List.replicate n27 false)) fl ⟨rfl, rfl, rfl, rfl, rfl, trivial⟩ rfl h53
   refine HdStep.c (fun inv => ?_) trivial
   refine Lst.addNil 4 1 ?_
   refine Lst.alloc (cs := enc Sl.nil) rfl rfl (by decide) Try.zeroValue75 rfl (fun b95 => ?_)
   refine hds inv (sc1 (sc1 (sc1 (sk1 (sk1 (sk1 (sk1 (sk1 (sk1 (sk1 (.refl _))))))))))) ?_
   refine HdJ.step [1, 4] (by kernel_rfl) rfl ?_
   refine HdStep.c (fun inv => ?_) ?_
   ·have g96 := mkLen_some h28
    refine Lst.make (α := Bool) (z0 := false) (k := n27) rfl rfl (by decide) (congrArg some (congrArg (Value.int .i64) g96.1)) (congrArg some (congrArg (Value.int .i64) g96.1)) Try.runUnderlying75 Try.typeInfo4 rfl rfl rfl rfl rfl g96.2 rfl (fun s97 => ?_)
    refine hds inv (sc1 (sc1 (sc1 (sc1 (sk1 (sk1 (sk1 (sk1 (sk1 (sk1 (sk1 (.refl _)))))))))))) ?_
    refine HdJ.o1 4 (fun inv => ?_)
    refine Lst.addNil 4 1 ?_
    refine Lst.alloc (cs := enc Sl.nil) rfl rfl (by decide) Try.zeroValue75 rfl (fun b98 => ?_)
    refine hds inv (sc1 (sc1 (sc1 (sc1 (sc1 (sc1 (sk1 (sk1 (sk1 (sk1 (sk1 (sk1 (sk1 (.refl _)))))))))))))) ?_
    refine HdJ.o1 6 (fun inv => ?_)
    refine Lst.store (i := 0) rfl rfl rfl rfl rfl Try.sizeOf75 (vs := [Sl.v s97]) rfl rfl rfl (cs' := enc s97) (Put.here (vs := [Sl.v s97]) rfl) (L' := (.blk b98 (enc s97) 75) :: (.own Sl.nil 4 1 (encs ([] : List Bool))) :: (.own s97 4 1 (encs (List.replicate n27 false))) :: (.blk b95 (enc Sl.nil) 75) :: (.own Sl.nil 4 1 (encs ([] : List Bool))) :: (.own s81 4 1 (encs (List.replicate n32 false))) :: (.blk b25 [pv b12 0] 97) :: (.rows (α := Bool) 4 rs14) :: (.own s13 75 1 (encs rs14)) :: (.own s18 3 1 (encs r10.left)) :: (.blk b12 (enc (GraphR.mk r10 s13 s18 s20)) 101) :: (.own Sl.nil 3 1 (encs ([] : List Int))) :: (.own Sl.nil 3 1 (encs ([] : List Int))) :: L) rfl ?_
    refine hds inv (sc1 (sc1 (sc1 (sc1 (sc1 (sc1 (sk1 (sk1 (sk1 (sk1 (sk1 (sk1 (sk1 (.refl _)))))))))))))) ?_
    refine HdJ.done (by kernel_rfl) ?_
    refine At.front (i := 5) rfl rfl ?_
    refine At.front (i := 1) rfl rfl ?_
    refine At.front (i := 5) rfl (L' := (.own Sl.nil 4 1 (encs ([] : List Bool))) :: (.blk b98 (enc s97) 75) :: (.own s81 4 1 (encs (List.replicate n32 false))) :: (.own Sl.nil 4 1 (encs ([] : List Bool))) :: (.own s97 4 1 (encs (List.replicate n27 false))) :: (.blk b95 (enc Sl.nil) 75) :: (.blk b25 [pv b12 0] 97) :: (.rows (α := Bool) 4 rs14) :: (.own s13 75 1 (encs rs14)) :: (.own s18 3 1 (encs r10.left)) :: (.blk b12 (enc (GraphR.mk r10 s13 s18 s20)) 101) :: (.own Sl.nil 3 1 (encs ([] : List Int))) :: (.own Sl.nil 3 1 (encs ([] : List Int))) :: L) rfl ?_
    refine At.front (i := 5) rfl (L' := (.blk b95 (enc Sl.nil) 75) :: (.own Sl.nil 4 1 (encs ([] : List Bool))) :: (.blk b98 (enc s97) 75) :: (.own s81 4 1 (encs (List.replicate n32 false))) :: (.own Sl.nil 4 1 (encs ([] : List Bool))) :: (.own s97 4 1 (encs (List.replicate n27 false))) :: (.blk b25 [pv b12 0] 97) :: (.rows (α := Bool) 4 rs14) :: (.own s13 75 1 (encs rs14)) :: (.own s18 3 1 (encs r10.left)) :: (.blk b12 (enc (GraphR.mk r10 s13 s18 s20)) 101) :: (.own Sl.nil 3 1 (encs ([] : List Int))) :: (.own Sl.nil 3 1 (encs ([] : List Int))) :: L) rfl ?_
    refine At.less (L' := (.blk b95 (enc Sl.nil) 75) :: (.own Sl.nil 4 1 (encs ([] : List Bool))) :: (.blk b98 (enc s97) 75) :: (.own s81 4 1 (encs (List.replicate n32 false))) :: (.own s97 4 1 (encs (List.replicate n27 false))) :: (.blk b25 [pv b12 0] 97) :: (.rows (α := Bool) 4 rs14) :: (.own s13 75 1 (encs rs14)) :: (.own s18 3 1 (encs r10.left)) :: (.blk b12 (enc (GraphR.mk r10 s13 s18 s20)) 101) :: (.own Sl.nil 3 1 (encs ([] : List Int))) :: (.own Sl.nil 3 1 (encs ([] : List Int))) :: L) (sk1 (sk1 (sk1 (sk1 (sc1 (sk1 (sk1 (sk1 (sk1 (sk1 (sk1 (sk1 (sk1 (.refl _)))))))))))))) ?_
    exact At.meetN (b95, Sl.nil, ([] : List Bool), b98, s81, (List.replicate n32 false), s97, (List.replicate n27 false)) fl ⟨rfl, rfl, rfl, rfl, rfl, trivial⟩ rfl h53
   refine HdStep.c (fun inv => ?_) trivial
   refine Lst.addNil 4 1 ?_
   refine Lst.alloc (cs := enc Sl.nil) rfl rfl (by decide) Try.zeroValue75 rfl (fun b99 => ?_)
   refine hds inv (sc1 (sc1 (sc1 (sc1 (sc1 (sk1 (sk1 (sk1 (sk1 (sk1 (sk1 (sk1 (.refl _))))))))))))) ?_
   refine HdJ.o1 1 (fun inv => ?_)
   have g100 := mkLen_some h28
   refine Lst.make (α := Bool) (z0 := false) (k := n27) rfl rfl (by decide) (congrArg some (congrArg (Value.int .i64) g100.1)) (congrArg some (congrArg (Value.int .i64) g100.1)) Try.runUnderlying75 Try.typeInfo4 rfl rfl rfl rfl rfl g100.2 rfl (fun s101 => ?_)
   refine hds inv (sc1 (sc1 (sc1 (sc1 (sc1 (sc1 (sk1 (sk1 (sk1 (sk1 (sk1 (sk1 (sk1 (.refl _)))))))))))))) ?_
   refine HdJ.o1 6 (fun inv => ?_)
   refine Lst.store (i := 1) rfl rfl rfl rfl rfl Try.sizeOf75 (vs := [Sl.v s101]) rfl rfl rfl (cs' := enc s101) (Put.here (vs := [Sl.v s101]) rfl) (L' := (.own s101 4 1 (encs (List.replicate n27 false))) :: (.blk b99 (enc s101) 75) :: (.own Sl.nil 4 1 (encs ([] : List Bool))) :: (.blk b95 (enc Sl.nil) 75) :: (.own Sl.nil 4 1 (encs ([] : List Bool))) :: (.own s81 4 1 (encs (List.replicate n32 false))) :: (.blk b25 [pv b12 0] 97) :: (.rows (α := Bool) 4 rs14) :: (.own s13 75 1 (encs rs14)) :: (.own s18 3 1 (encs r10.left)) :: (.blk b12 (enc (GraphR.mk r10 s13 s18 s20)) 101) :: (.own Sl.nil 3 1 (encs ([] : List Int))) :: (.own Sl.nil 3 1 (encs ([] : List Int))) :: L) rfl ?_
   refine hds inv (sc1 (sc1 (sc1 (sc1 (sc1 (sc1 (sk1 (sk1 (sk1 (sk1 (sk1 (sk1 (sk1 (.refl _)))))))))))))) ?_
   refine HdJ.done (by kernel_rfl) ?_
   refine At.front (i := 5) rfl rfl ?_
   refine At.front (i := 2) rfl rfl ?_
   refine At.front (i := 5) rfl (L' := (.own Sl.nil 4 1 (encs ([] : List Bool))) :: (.blk b99 (enc s101) 75) :: (.own s81 4 1 (encs (List.replicate n32 false))) :: (.own s101 4 1 (encs (List.replicate n27 false))) :: (.own Sl.nil 4 1 (encs ([] : List Bool))) :: (.blk b95 (enc Sl.nil) 75) :: (.blk b25 [pv b12 0] 97) :: (.rows (α := Bool) 4 rs14) :: (.own s13 75 1 (encs rs14)) :: (.own s18 3 1 (encs r10.left)) :: (.blk b12 (enc (GraphR.mk r10 s13 s18 s20)) 101) :: (.own Sl.nil 3 1 (encs ([] : List Int))) :: (.own Sl.nil 3 1 (encs ([] : List Int))) :: L) rfl ?_
   refine At.front (i := 5) rfl (L' := (.blk b95 (enc Sl.nil) 75) :: (.own Sl.nil 4 1 (encs ([] : List Bool))) :: (.blk b99 (enc s101) 75) :: (.own s81 4 1 (encs (List.replicate n32 false))) :: (.own s101 4 1 (encs (List.replicate n27 false))) :: (.own Sl.nil 4 1 (encs ([] : List Bool))) :: (.blk b25 [pv b12 0] 97) :: (.rows (α := Bool) 4 rs14) :: (.own s13 75 1 (encs rs14)) :: (.own s18 3 1 (encs r10.left)) :: (.blk b12 (enc (GraphR.mk r10 s13 s18 s20)) 101) :: (.own Sl.nil 3 1 (encs ([] : List Int))) :: (.own Sl.nil 3 1 (encs ([] : List Int))) :: L) rfl ?_
   refine At.less (L' := (.blk b95 (enc Sl.nil) 75) :: (.own Sl.nil 4 1 (encs ([] : List Bool))) :: (.blk b99 (enc s101) 75) :: (.own s81 4 1 (encs (List.replicate n32 false))) :: (.own s101 4 1 (encs (List.replicate n27 false))) :: (.blk b25 [pv b12 0] 97) :: (.rows (α := Bool) 4 rs14) :: (.own s13 75 1 (encs rs14)) :: (.own s18 3 1 (encs r10.left)) :: (.blk b12 (enc (GraphR.mk r10 s13 s18 s20)) 101) :: (.own Sl.nil 3 1 (encs ([] : List Int))) :: (.own Sl.nil 3 1 (encs ([] : List Int))) :: L) (sk1 (sk1 (sk1 (sk1 (sk1 (sc1 (sk1 (sk1 (sk1 (sk1 (sk1 (sk1 (sk1 (.refl _)))))))))))))) ?_
   exact At.meetN (b95, Sl.nil, ([] : List Bool), b99, s81, (List.replicate n32 false), s101, (List.replicate n27 false)) fl ⟨rfl, rfl, rfl, rfl, rfl, trivial⟩ rfl h53
  refine HdStep.c (fun inv => ?_) ?_
  ·refine Lst.addNil 4 1 ?_
   refine Lst.alloc (cs := enc Sl.nil) rfl rfl (by decide) Try.zeroValue75 rfl (fun b102 => ?_)
   refine hds inv (sc1 (sc1 (sk1 (sk1 (sk1 (sk1 (sk1 (sk1 (sk1 (.refl _)))))))))) ?_
   refine HdJ.step [1, 3, 5] (by kernel_rfl) rfl ?_
   refine HdStep.c (fun inv => ?_) ?_
   ·have g103 := mkLen_some h28
    refine Lst.make (α := Bool) (z0 := false) (k := n27) rfl rfl (by decide) (congrArg some (congrArg (Value.int .i64) g103.1)) (congrArg some (congrArg (Value.int .i64) g103.1)) Try.runUnderlying75 Try.typeInfo4 rfl rfl rfl rfl rfl g103.2 rfl (fun s104 => ?_)
    refine hds inv (sc1 (sc1 (sc1 (sk1 (sk1 (sk1 (sk1 (sk1 (sk1 (sk1 (.refl _))))))))))) ?_
    refine HdJ.step [3, 5] (by kernel_rfl) rfl ?_
    refine HdStep.c (fun inv => ?_) ?_
    ·have g105 := mkLen_some h33
     refine Lst.make (α := Bool) (z0 := false) (k := n32) rfl rfl (by decide) (congrArg some (congrArg (Value.int .i64) g105.1)) (congrArg some (congrArg (Value.int .i64) g105.1)) Try.runUnderlying75 Try.typeInfo4 rfl rfl rfl rfl rfl g105.2 rfl (fun s106 => ?_)
     refine hds inv (sc1 (sc1 (sc1 (sc1 (sk1 (sk1 (sk1 (sk1 (sk1 (sk1 (sk1 (.refl _)))))))))))) ?_
     refine HdJ.o1 5 (fun inv => ?_)
     refine Lst.addNil 4 1 ?_
     refine Lst.alloc (cs := enc Sl.nil) rfl rfl (by decide) Try.zeroValue75 rfl (fun b107 => ?_)
     refine hds inv (sc1 (sc1 (sc1 (sc1 (sc1 (sc1 (sk1 (sk1 (sk1 (sk1 (sk1 (sk1 (sk1 (.refl _)))))))))))))) ?_
     refine HdJ.o1 6 (fun inv => ?_)
     refine Lst.store (i := 4) rfl rfl rfl rfl rfl Try.sizeOf75 (vs := [Sl.v s104]) rfl rfl rfl (cs' := enc s104) (Put.here (vs := [Sl.v s104]) rfl) (L' := (.blk b107 (enc Sl.nil) 75) :: (.own Sl.nil 4 1 (encs ([] : List Bool))) :: (.own s106 4 1 (encs (List.replicate n32 false))) :: (.own s104 4 1 (encs (List.replicate n27 false))) :: (.blk b102 (enc s104) 75) :: (.own Sl.nil 4 1 (encs ([] : List Bool))) :: (.blk b25 [pv b12 0] 97) :: (.rows (α := Bool) 4 rs14) :: (.own s13 75 1 (encs rs14)) :: (.own s18 3 1 (encs r10.left)) :: (.blk b12 (enc (GraphR.mk r10 s13 s18 s20)) 101) :: (.own Sl.nil 3 1 (encs ([] : List Int))) :: (.own Sl.nil 3 1 (encs ([] : List Int))) :: L) rfl ?_
     refine hds inv (sc1 (sc1 (sc1 (sc1 (sc1 (sc1 (sk1 (sk1 (sk1 (sk1 (sk1 (sk1 (sk1 (.refl _)))))))))))))) ?_
     refine HdJ.done (by kernel_rfl) ?_
     refine At.front (i := 4) rfl rfl ?_
     refine At.front (i := 2) rfl rfl ?_
     refine At.front (i := 2) rfl (L' := (.blk b107 (enc Sl.nil) 75) :: (.own Sl.nil 4 1 (encs ([] : List Bool))) :: (.blk b102 (enc s104) 75) :: (.own s106 4 1 (encs (List.replicate n32 false))) :: (.own s104 4 1 (encs (List.replicate n27 false))) :: (.own Sl.nil 4 1 (encs ([] : List Bool))) :: (.blk b25 [pv b12 0] 97) :: (.rows (α := Bool) 4 rs14) :: (.own s13 75 1 (encs rs14)) :: (.own s18 3 1 (encs r10.left)) :: (.blk b12 (enc (GraphR.mk r10 s13 s18 s20)) 101) :: (.own Sl.nil 3 1 (encs ([] : List Int))) :: (.own Sl.nil 3 1 (encs ([] : List Int))) :: L) rfl ?_
     refine At.less (L' := (.blk b107 (enc Sl.nil) 75) :: (.own Sl.nil 4 1 (encs ([] : List Bool))) :: (.blk b102 (enc s104) 75) :: (.own s106 4 1 (encs (List.replicate n32 false))) :: (.own s104 4 1 (encs (List.replicate n27 false))) :: (.blk b25 [pv b12 0] 97) :: (.rows (α := Bool) 4 rs14) :: (.own s13 75 1 (encs rs14)) :: (.own s18 3 1 (encs r10.left)) :: (.blk b12 (enc (GraphR.mk r10 s13 s18 s20)) 101) :: (.own Sl.nil 3 1 (encs ([] : List Int))) :: (.own Sl.nil 3 1 (encs ([] : List Int))) :: L) (sk1 (sk1 (sk1 (sk1 (sk1 (sc1 (sk1 (sk1 (sk1 (sk1 (sk1 (sk1 (sk1 (.refl _)))))))))))))) ?_
     exact At.meetN (b107, Sl.nil, ([] : List Bool), b102, s106, (List.replicate n32 false), s104, (List.replicate n27 false)) fl ⟨rfl, rfl, rfl, rfl, rfl, trivial⟩ rfl h53
    refine HdStep.c (fun inv => ?_) trivial
    refine Lst.addNil 4 1 ?_
    refine Lst.alloc (cs := enc Sl.nil) rfl rfl (by decide) Try.zeroValue75 rfl (fun b108 => ?_)
    refine hds inv (sc1 (sc1 (sc1 (sc1 (sc1 (sk1 (sk1 (sk1 (sk1 (sk1 (sk1 (sk1 (.refl _))))))))))))) ?_
    refine HdJ.step [3, 6] (by kernel_rfl) rfl ?_
    refine HdStep.c (fun inv => ?_) ?_
    ·have g109 := mkLen_some h33
     refine Lst.make (α := Bool) (z0 := false) (k := n32) rfl rfl (by decide) (congrArg some (congrArg (Value.int .i64) g109.1)) (congrArg some (congrArg (Value.int .i64) g109.1)) Try.runUnderlying75 Try.typeInfo4 rfl rfl rfl rfl rfl g109.2 rfl (fun s110 => ?_)
     refine hds inv (sc1 (sc1 (sc1 (sc1 (sc1 (sc1 (sk1 (sk1 (sk1 (sk1 (sk1 (sk1 (sk1 (.refl _)))))))))))))) ?_
     refine HdJ.o1 6 (fun inv => ?_)
     refine Lst.store (i := 4) rfl rfl rfl rfl rfl Try.sizeOf75 (vs := [Sl.v s104]) rfl rfl rfl (cs' := enc s104) (Put.here (vs := [Sl.v s104]) rfl) (L' := (.own s110 4 1 (encs (List.replicate n32 false))) :: (.blk b108 (enc Sl.nil) 75) :: (.own Sl.nil 4 1 (encs ([] : List Bool))) :: (.own s104 4 1 (encs (List.replicate n27 false))) :: (.blk b102 (enc s104) 75) :: (.own Sl.nil 4 1 (encs ([] : List Bool))) :: (.blk b25 [pv b12 0] 97) :: (.rows (α := Bool) 4 rs14) :: (.own s13 75 1 (encs rs14)) :: (.own s18 3 1 (encs r10.left)) :: (.blk b12 (enc (GraphR.mk r10 s13 s18 s20)) 101) :: (.own Sl.nil 3 1 (encs ([] : List Int))) :: (.own Sl.nil 3 1 (encs ([] : List Int))) :: L) rfl ?_
     refine hds inv (sc1 (sc1 (sc1 (sc1 (sc1 (sc1 (sk1 (sk1 (sk1 (sk1 (sk1 (sk1 (sk1 (.refl _)))))))))))))) ?_
     refine HdJ.done (by kernel_rfl) ?_
     refine At.front (i := 4) rfl rfl ?_
     refine At.front (i := 3) rfl rfl ?_
     refine At.front (i := 3) rfl (L' := (.blk b108 (enc Sl.nil) 75) :: (.own Sl.nil 4 1 (encs ([] : List Bool))) :: (.blk b102 (enc s104) 75) :: (.own s110 4 1 (encs (List.replicate n32 false))) :: (.own s104 4 1 (encs (List.replicate n27 false))) :: (.own Sl.nil 4 1 (encs ([] : List Bool))) :: (.blk b25 [pv b12 0] 97) :: (.rows (α := Bool) 4 rs14) :: (.own s13 75 1 (encs rs14)) :: (.own s18 3 1 (encs r10.left)) :: (.blk b12 (enc (GraphR.mk r10 s13 s18 s20)) 101) :: (.own Sl.nil 3 1 (encs ([] : List Int))) :: (.own Sl.nil 3 1 (encs ([] : List Int))) :: L) rfl ?_
     refine At.less (L' := (.blk b108 (enc Sl.nil) 75) :: (.own Sl.nil 4 1 (encs ([] : List Bool))) :: (.blk b102 (enc s104) 75) :: (.own s110 4 1 (encs (List.replicate n32 false))) :: (.own s104 4 1 (encs (List.replicate n27 false))) :: (.blk b25 [pv b12 0] 97) :: (.rows (α := Bool) 4 rs14) :: (.own s13 75 1 (encs rs14)) :: (.own s18 3 1 (encs r10.left)) :: (.blk b12 (enc (GraphR.mk r10 s13 s18 s20)) 101) :: (.own Sl.nil 3 1 (encs ([] : List Int))) :: (.own Sl.nil 3 1 (encs ([] : List Int))) :: L) (sk1 (sk1 (sk1 (sk1 (sk1 (sc1 (sk1 (sk1 (sk1 (sk1 (sk1 (sk1 (sk1 (.refl _)))))))))))))) ?_
     exact At.meetN (b108, Sl.nil, ([] : List Bool), b102, s110, (List.replicate n32 false), s104, (List.replicate n27 false)) fl ⟨rfl, rfl, rfl, rfl, rfl, trivial⟩ rfl h53
    refine HdStep.c (fun inv => ?_) trivial
    refine Lst.store (i := 3) rfl rfl rfl rfl rfl Try.sizeOf75 (vs := [Sl.v s104]) rfl rfl rfl (cs' := enc s104) (Put.here (vs := [Sl.v s104]) rfl) (L' := (.blk b108 (enc Sl.nil) 75) :: (.own Sl.nil 4 1 (encs ([] : List Bool))) :: (.own s104 4 1 (encs (List.replicate n27 false))) :: (.blk b102 (enc s104) 75) :: (.own Sl.nil 4 1 (encs ([] : List Bool))) :: (.blk b25 [pv b12 0] 97) :: (.rows (α := Bool) 4 rs14) :: (.own s13 75 1 (encs rs14)) :: (.own s18 3 1 (encs r10.left)) :: (.blk b12 (enc (GraphR.mk r10 s13 s18 s20)) 101) :: (.own Sl.nil 3 1 (encs ([] : List Int))) :: (.own Sl.nil 3 1 (encs ([] : List Int))) :: L) rfl ?_
    refine hds inv (sc1 (sc1 (sc1 (sc1 (sc1 (sk1 (sk1 (sk1 (sk1 (sk1 (sk1 (sk1 (.refl _))))))))))))) ?_
    refine HdJ.o1 3 (fun inv => ?_)
    have g111 := mkLen_some h33
    refine Lst.make (α := Bool) (z0 := false) (k := n32) rfl rfl (by decide) (congrArg some (congrArg (Value.int .i64) g111.1)) (congrArg some (congrArg (Value.int .i64) g111.1)) Try.runUnderlying75 Try.typeInfo4 rfl rfl rfl rfl rfl g111.2 rfl (fun s112 => ?_)
    refine hds inv (sc1 (sc1 (sc1 (sc1 (sc1 (sc1 (sk1 (sk1 (sk1 (sk1 (sk1 (sk1 (sk1 (.refl _)))))))))))))) ?_
    refine HdJ.done (by kernel_rfl) ?_
    refine At.front (i := 4) rfl rfl ?_
    refine At.front (i := 3) rfl rfl ?_
    refine At.front (i := 3) rfl (L' := (.blk b108 (enc Sl.nil) 75) :: (.own Sl.nil 4 1 (encs ([] : List Bool))) :: (.blk b102 (enc s104) 75) :: (.own s112 4 1 (encs (List.replicate n32 false))) :: (.own s104 4 1 (encs (List.replicate n27 false))) :: (.own Sl.nil 4 1 (encs ([] : List Bool))) :: (.blk b25 [pv b12 0] 97) :: (.rows (α := Bool) 4 rs14) :: (.own s13 75 1 (encs rs14)) :: (.own s18 3 1 (encs r10.left)) :: (.blk b12 (enc (GraphR.mk r10 s13 s18 s20)) 101) :: (.own Sl.nil 3 1 (encs ([] : List Int))) :: (.own Sl.nil 3 1 (encs ([] : List Int))) :: L) rfl ?_
    refine At.less (L' := (.blk b108 (enc Sl.nil) 75) :: (.own Sl.nil 4 1 (encs ([] : List Bool))) :: (.blk b102 (enc s104) 75) :: (.own s112 4 1 (encs (List.replicate n32 false))) :: (.own s104 4 1 (encs (List.replicate n27 false))) :: (.blk b25 [pv b12 0] 97) :: (.rows (α := Bool) 4 rs14) :: (.own s13 75 1 (encs rs14)) :: (.own s18 3 1 (encs r10.left)) :: (.blk b12 (enc (GraphR.mk r10 s13 s18 s20)) 101) :: (.own Sl.nil 3 1 (encs ([] : List Int))) :: (.own Sl.nil 3 1 (encs ([] : List Int))) :: L) (sk1 (sk1 (sk1 (sk1 (sk1 (sc1 (sk1 (sk1 (sk1 (sk1 (sk1 (sk1 (sk1 (.refl _)))))))))))))) ?_
    exact At.meetN (b108, Sl.nil, ([] : List Bool), b102, s112, (List.replicate n32 false), s104, (List.replicate n27 false)) fl ⟨rfl, rfl, rfl, rfl, rfl, trivial⟩ rfl h53
   refine HdStep.c (fun inv => ?_) ?_
   ·have g113 := mkLen_some h33
    refine Lst.make (α := Bool) (z0 := false) (k := n32) rfl rfl (by decide) (congrArg some (congrArg (Value.int .i64) g113.1)) (congrArg some (congrArg (Value.int .i64) g113.1)) Try.runUnderlying75 Try.typeInfo4 rfl rfl rfl rfl rfl g113.2 rfl (fun s114 => ?_)
    refine hds inv (sc1 (sc1 (sc1 (sk1 (sk1 (sk1 (sk1 (sk1 (sk1 (sk1 (.refl _))))))))))) ?_
    refine HdJ.step [1, 5] (by kernel_rfl) rfl ?_
    refine HdStep.c (fun inv => ?_) ?_
    ·have g115 := mkLen_some h28
     refine Lst.make (α := Bool) (z0 := false) (k := n27) rfl rfl (by decide) (congrArg some (congrArg (Value.int .i64) g115.1)) (congrArg some (congrArg (Value.int .i64) g115.1)) Try.runUnderlying75 Try.typeInfo4 rfl rfl rfl rfl rfl g115.2 rfl (fun s116 => ?_)
     refine hds inv (sc1 (sc1 (sc1 (sc1 (sk1 (sk1 (sk1 (sk1 (sk1 (sk1 (sk1 (.refl _)))))))))))) ?_
     refine HdJ.o1 5 (fun inv => ?_)
     refine Lst.addNil 4 1 ?_
     refine Lst.alloc (cs := enc Sl.nil) rfl rfl (by decide) Try.zeroValue75 rfl (fun b117 => ?_)
     refine hds inv (sc1 (sc1 (sc1 (sc1 (sc1 (sc1 (sk1 (sk1 (sk1 (sk1 (sk1 (sk1 (sk1 (.refl _)))))))))))))) ?_
     refine HdJ.o1 6 (fun inv => ?_)
     refine Lst.store (i := 4) rfl rfl rfl rfl rfl Try.sizeOf75 (vs := [Sl.v s116]) rfl rfl rfl (cs' := enc s116) (Put.here (vs := [Sl.v s116]) rfl) (L' := (.blk b117 (enc Sl.nil) 75) :: (.own Sl.nil 4 1 (encs ([] : List Bool))) :: (.own s116 4 1 (encs (List.replicate n27 false))) :: (.own s114 4 1 (encs (List.replicate n32 false))) :: (.blk b102 (enc s116) 75) :: (.own Sl.nil 4 1 (encs ([] : List Bool))) :: (.blk b25 [pv b12 0] 97) :: (.rows (α := Bool) 4 rs14) :: (.own s13 75 1 (encs rs14)) :: (.own s18 3 1 (encs r10.left)) :: (.blk b12 (enc (GraphR.mk r10 s13 s18 s20)) 101) :: (.own Sl.nil 3 1 (encs ([] : List Int))) :: (.own Sl.nil 3 1 (encs ([] : List Int))) :: L) rfl ?_
     refine hds inv (sc1 (sc1 (sc1 (sc1 (sc1 (sc1 (sk1 (sk1 (sk1 (sk1 (sk1 (sk1 (sk1 (.refl _)))))))))))))) ?_
     refine HdJ.done (by kernel_rfl) ?_
     refine At.front (i := 3) rfl rfl ?_
     refine At.front (i := 4) rfl rfl ?_
     refine At.front (i := 3) rfl (L' := (.own Sl.nil 4 1 (encs ([] : List Bool))) :: (.blk b102 (enc s116) 75) :: (.own s114 4 1 (encs (List.replicate n32 false))) :: (.blk b117 (enc Sl.nil) 75) :: (.own s116 4 1 (encs (List.replicate n27 false))) :: (.own Sl.nil 4 1 (encs ([] : List Bool))) :: (.blk b25 [pv b12 0] 97) :: (.rows (α := Bool) 4 rs14) :: (.own s13 75 1 (encs rs14)) :: (.own s18 3 1 (encs r10.left)) :: (.blk b12 (enc (GraphR.mk r10 s13 s18 s20)) 101) :: (.own Sl.nil 3 1 (encs ([] : List Int))) :: (.own Sl.nil 3 1 (encs ([] : List Int))) :: L) rfl ?_
     refine At.front (i := 3) rfl (L' := (.blk b117 (enc Sl.nil) 75) :: (.own Sl.nil 4 1 (encs ([] : List Bool))) :: (.blk b102 (enc s116) 75) :: (.own s114 4 1 (encs (List.replicate n32 false))) :: (.own s116 4 1 (encs (List.replicate n27 false))) :: (.own Sl.nil 4 1 (encs ([] : List Bool))) :: (.blk b25 [pv b12 0] 97) :: (.rows (α := Bool) 4 rs14) :: (.own s13 75 1 (encs rs14)) :: (.own s18 3 1 (encs r10.left)) :: (.blk b12 (enc (GraphR.mk r10 s13 s18 s20)) 101) :: (.own Sl.nil 3 1 (encs ([] : List Int))) :: (.own Sl.nil 3 1 (encs ([] : List Int))) :: L) rfl ?_
     refine At.less (L' := (.blk b117 (enc Sl.nil) 75) :: (.own Sl.nil 4 1 (encs ([] : List Bool))) :: (.blk b102 (enc s116) 75) :: (.own s114 4 1 (encs (List.replicate n32 false))) :: (.own s116 4 1 (encs (List.replicate n27 false))) :: (.blk b25 [pv b12 0] 97) :: (.rows (α := Bool) 4 rs14) :: (.own s13 75 1 (encs rs14)) :: (.own s18 3 1 (encs r10.left)) :: (.blk b12 (enc (GraphR.mk r10 s13 s18 s20)) 101) :: (.own Sl.nil 3 1 (encs ([] : List Int))) :: (.own Sl.nil 3 1 (encs ([] : List Int))) :: L) (sk1 (sk1 (sk1 (sk1 (sk1 (sc1 (sk1 (sk1 (sk1 (sk1 (sk1 (sk1 (sk1 (.refl _)))))))))))))) ?_
     exact At.meetN (b117, Sl.nil, ([] : List Bool), b102, s114, (List.replicate n32 false), s116, (List.replicate n27 false)) fl ⟨rfl, rfl, rfl, rfl, rfl, trivial⟩ rfl h53
    refine HdStep.c (fun inv => ?_) trivial
    refine Lst.addNil 4 1 ?_
    refine Lst.alloc (cs := enc Sl.nil) rfl rfl (by decide) Try.zeroValue75 rfl (fun b118 => ?_)
    refine hds inv (sc1 (sc1 (sc1 (sc1 (sc1 (sk1 (sk1 (sk1 (sk1 (sk1 (sk1 (sk1 (.refl _))))))))))))) ?_
    refine HdJ.o1 1 (fun inv => ?_)
    have g119 := mkLen_some h28
    refine Lst.make (α := Bool) (z0 := false) (k := n27) rfl rfl (by decide) (congrArg some (congrArg (Value.int .i64) g119.1)) (congrArg some (congrArg (Value.int .i64) g119.1)) Try.runUnderlying75 Try.typeInfo4 rfl rfl rfl rfl rfl g119.2 rfl (fun s120 => ?_)
    refine hds inv (sc1 (sc1 (sc1 (sc1 (sc1 (sc1 (sk1 (sk1 (sk1 (sk1 (sk1 (sk1 (sk1 (.refl _)))))))))))))) ?_
    refine HdJ.o1 6 (fun inv => ?_)
    refine Lst.store (i := 4) rfl rfl rfl rfl rfl Try.sizeOf75 (vs := [Sl.v s120]) rfl rfl rfl (cs' := enc s120) (Put.here (vs := [Sl.v s120]) rfl) (L' := (.own s120 4 1 (encs (List.replicate n27 false))) :: (.blk b118 (enc Sl.nil) 75) :: (.own Sl.nil 4 1 (encs ([] : List Bool))) :: (.own s114 4 1 (encs (List.replicate n32 false))) :: (.blk b102 (enc s120) 75) :: (.own Sl.nil 4 1 (encs ([] : List Bool))) :: (.blk b25 [pv b12 0] 97) :: (.rows (α := Bool) 4 rs14) :: (.own s13 75 1 (encs rs14)) :: (.own s18 3 1 (encs r10.left)) :: (.blk b12 (enc (GraphR.mk r10 s13 s18 s20)) 101) :: (.own Sl.nil 3 1 (encs ([] : List Int))) :: (.own Sl.nil 3 1 (encs ([] : List Int))) :: L) rfl ?_
    refine hds inv (sc1 (sc1 (sc1 (sc1 (sc1 (sc1 (sk1 (sk1 (sk1 (sk1 (sk1 (sk1 (sk1 (.refl _)))))))))))))) ?_
    refine HdJ.done (by kernel_rfl) ?_
    refine At.front (i := 3) rfl rfl ?_
    refine At.front (i := 4) rfl rfl ?_
    refine At.front (i := 4) rfl (L' := (.own Sl.nil 4 1 (encs ([] : List Bool))) :: (.blk b102 (enc s120) 75) :: (.own s114 4 1 (encs (List.replicate n32 false))) :: (.own s120 4 1 (encs (List.replicate n27 false))) :: (.blk b118 (enc Sl.nil) 75) :: (.own Sl.nil 4 1 (encs ([] : List Bool))) :: (.blk b25 [pv b12 0] 97) :: (.rows (α := Bool) 4 rs14) :: (.own s13 75 1 (encs rs14)) :: (.own s18 3 1 (encs r10.left)) :: (.blk b12 (enc (GraphR.mk r10 s13 s18 s20)) 101) :: (.own Sl.nil 3 1 (encs ([] : List Int))) :: (.own Sl.nil 3 1 (encs ([] : List Int))) :: L) rfl ?_
    refine At.front (i := 4) rfl (L' := (.blk b118 (enc Sl.nil) 75) :: (.own Sl.nil 4 1 (encs ([] : List Bool))) :: (.blk b102 (enc s120) 75) :: (.own s114 4 1 (encs (List.replicate n32 false))) :: (.own s120 4 1 (encs (List.replicate n27 false))) :: (.own Sl.nil 4 1 (encs ([] : List Bool))) :: (.blk b25 [pv b12 0] 97) :: (.rows (α := Bool) 4 rs14) :: (.own s13 75 1 (encs rs14)) :: (.own s18 3 1 (encs r10.left)) :: (.blk b12 (enc (GraphR.mk r10 s13 s18 s20)) 101) :: (.own Sl.nil 3 1 (encs ([] : List Int))) :: (.own Sl.nil 3 1 (encs ([] : List Int))) :: L) rfl ?_
    refine At.less (L' := (.blk b118 (enc Sl.nil) 75) :: (.own Sl.nil 4 1 (encs ([] : List Bool))) :: (.blk b102 (enc s120) 75) :: (.own s114 4 1 (encs (List.replicate n32 false))) :: (.own s120 4 1 (encs (List.replicate n27 false))) :: (.blk b25 [pv b12 0] 97) :: (.rows (α := Bool) 4 rs14) :: (.own s13 75 1 (encs rs14)) :: (.own s18 3 1 (encs r10.left)) :: (.blk b12 (enc (GraphR.mk r10 s13 s18 s20)) 101) :: (.own Sl.nil 3 1 (encs ([] : List Int))) :: (.own Sl.nil 3 1 (encs ([] : List Int))) :: L) (sk1 (sk1 (sk1 (sk1 (sk1 (sc1 (sk1 (sk1 (sk1 (sk1 (sk1 (sk1 (sk1 (.refl _)))))))))))))) ?_
    exact At.meetN (b118, Sl.nil, ([] : List Bool), b102, s114, (List.replicate n32 false), s120, (List.replicate n27 false)) fl ⟨rfl, rfl, rfl, rfl, rfl, trivial⟩ rfl h53
   refine HdStep.c (fun inv => ?_) trivial
   refine Lst.addNil 4 1 ?_
   refine Lst.alloc (cs := enc Sl.nil) rfl rfl (by decide) Try.zeroValue75 rfl (fun b121 => ?_)
   refine hds inv (sc1 (sc1 (sc1 (sc1 (sk1 (sk1 (sk1 (sk1 (sk1 (sk1 (sk1 (.refl _)))))))))))) ?_
   refine HdJ.step [1, 3] (by kernel_rfl) rfl ?_
   refine HdStep.c (fun inv => ?_) ?_
   ·have g122 := mkLen_some h28
    refine Lst.make (α := Bool) (z0 := false) (k := n27) rfl rfl (by decide) (congrArg some (congrArg (Value.int .i64) g122.1)) (congrArg some (congrArg (Value.int .i64) g122.1)) Try.runUnderlying75 Try.typeInfo4 rfl rfl rfl rfl rfl g122.2 rfl (fun s123 => ?_)
    refine hds inv (sc1 (sc1 (sc1 (sc1 (sc1 (sk1 (sk1 (sk1 (sk1 (sk1 (sk1 (sk1 (.refl _))))))))))))) ?_
    refine HdJ.step [3, 6] (by kernel_rfl) rfl ?_
    refine HdStep.c (fun inv => ?_) ?_
    ·have g124 := mkLen_some h33
     refine Lst.make (α := Bool) (z0 := false) (k := n32) rfl rfl (by decide) (congrArg some (congrArg (Value.int .i64) g124.1)) (congrArg some (congrArg (Value.int .i64) g124.1)) Try.runUnderlying75 Try.typeInfo4 rfl rfl rfl rfl rfl g124.2 rfl (fun s125 => ?_)
     refine hds inv (sc1 (sc1 (sc1 (sc1 (sc1 (sc1 (sk1 (sk1 (sk1 (sk1 (sk1 (sk1 (sk1 (.refl _)))))))))))))) ?_
     refine HdJ.o1 6 (fun inv => ?_)
     refine Lst.store (i := 4) rfl rfl rfl rfl rfl Try.sizeOf75 (vs := [Sl.v s123]) rfl rfl rfl (cs' := enc s123) (Put.here (vs := [Sl.v s123]) rfl) (L' := (.own s125 4 1 (encs (List.replicate n32 false))) :: (.own s123 4 1 (encs (List.replicate n27 false))) :: (.blk b121 (enc Sl.nil) 75) :: (.own Sl.nil 4 1 (encs ([] : List Bool))) :: (.blk b102 (enc s123) 75) :: (.own Sl.nil 4 1 (encs ([] : List Bool))) :: (.blk b25 [pv b12 0] 97) :: (.rows (α := Bool) 4 rs14) :: (.own s13 75 1 (encs rs14)) :: (.own s18 3 1 (encs r10.left)) :: (.blk b12 (enc (GraphR.mk r10 s13 s18 s20)) 101) :: (.own Sl.nil 3 1 (encs ([] : List Int))) :: (.own Sl.nil 3 1 (encs ([] : List Int))) :: L) rfl ?_
     refine hds inv (sc1 (sc1 (sc1 (sc1 (sc1 (sc1 (sk1 (sk1 (sk1 (sk1 (sk1 (sk1 (sk1 (.refl _)))))))))))))) ?_
     refine HdJ.done (by kernel_rfl) ?_
     refine At.front (i := 4) rfl rfl ?_
     refine At.front (i := 4) rfl rfl ?_
     refine At.front (i := 4) rfl (L' := (.blk b121 (enc Sl.nil) 75) :: (.own Sl.nil 4 1 (encs ([] : List Bool))) :: (.blk b102 (enc s123) 75) :: (.own s125 4 1 (encs (List.replicate n32 false))) :: (.own s123 4 1 (encs (List.replicate n27 false))) :: (.own Sl.nil 4 1 (encs ([] : List Bool))) :: (.blk b25 [pv b12 0] 97) :: (.rows (α := Bool) 4 rs14) :: (.own s13 75 1 (encs rs14)) :: (.own s18 3 1 (encs r10.left)) :: (.blk b12 (enc (GraphR.mk r10 s13 s18 s20)) 101) :: (.own Sl.nil 3 1 (encs ([] : List Int))) :: (.own Sl.nil 3 1 (encs ([] : List Int))) :: L) rfl ?_
     refine At.less (L' := (.blk b121 (enc Sl.nil) 75) :: (.own Sl.nil 4 1 (encs ([] : List Bool))) :: (.blk b102 (enc s123) 75) :: (.own s125 4 1 (encs (List.replicate n32 false))) :: (.own s123 4 1 (encs (List.replicate n27 false))) :: (.blk b25 [pv b12 0] 97) :: (.rows (α := Bool) 4 rs14) :: (.own s13 75 1 (encs rs14)) :: (.own s18 3 1 (encs r10.left)) :: (.blk b12 (enc (GraphR.mk r10 s13 s18 s20)) 101) :: (.own Sl.nil 3 1 (encs ([] : List Int))) :: (.own Sl.nil 3 1 (encs ([] : List Int))) :: L) (sk1 (sk1 (sk1 (sk1 (sk1 (sc1 (sk1 (sk1 (sk1 (sk1 (sk1 (sk1 (sk1 (.refl _)))))))))))))) ?_
     exact At.meetN (b121, Sl.nil, ([] : List Bool), b102, s125, (List.replicate n32 false), s123, (List.replicate n27 false)) fl ⟨rfl, rfl, rfl, rfl, rfl, trivial⟩ rfl h53
    refine HdStep.c (fun inv => ?_) trivial
    refine Lst.store (i := 3) rfl rfl rfl rfl rfl Try.sizeOf75 (vs := [Sl.v s123]) rfl rfl rfl (cs' := enc s123) (Put.here (vs := [Sl.v s123]) rfl) (L' := (.own s123 4 1 (encs (List.replicate n27 false))) :: (.blk b121 (enc Sl.nil) 75) :: (.own Sl.nil 4 1 (encs ([] : List Bool))) :: (.blk b102 (enc s123) 75) :: (.own Sl.nil 4 1 (encs ([] : List Bool))) :: (.blk b25 [pv b12 0] 97) :: (.rows (α := Bool) 4 rs14) :: (.own s13 75 1 (encs rs14)) :: (.own s18 3 1 (encs r10.left)) :: (.blk b12 (enc (GraphR.mk r10 s13 s18 s20)) 101) :: (.own Sl.nil 3 1 (encs ([] : List Int))) :: (.own Sl.nil 3 1 (encs ([] : List Int))) :: L) rfl ?_
    refine hds inv (sc1 (sc1 (sc1 (sc1 (sc1 (sk1 (sk1 (sk1 (sk1 (sk1 (sk1 (sk1 (.refl _))))))))))))) ?_
    refine HdJ.o1 3 (fun inv => ?_)
    have g126 := mkLen_some h33
    refine Lst.make (α := Bool) (z0 := false) (k := n32) rfl rfl (by decide) (congrArg some (congrArg (Value.int .i64) g126.1)) (congrArg some (congrArg (Value.int .i64) g126.1)) Try.runUnderlying75 Try.typeInfo4 rfl rfl rfl rfl rfl g126.2 rfl (fun s127 => ?_)
    refine hds inv (sc1 (sc1 (sc1 (sc1 (sc1 (sc1 (sk1 (sk1 (sk1 (sk1 (sk1 (sk1 (sk1 (.refl _)))))))))))))) ?_
    refine HdJ.done (by kernel_rfl) ?_
    refine At.front (i := 4) rfl rfl ?_
    refine At.front (i := 4) rfl rfl ?_
    refine At.front (i := 4) rfl (L' := (.blk b121 (enc Sl.nil) 75) :: (.own Sl.nil 4 1 (encs ([] : List Bool))) :: (.blk b102 (enc s123) 75) :: (.own s127 4 1 (encs (List.replicate n32 false))) :: (.own s123 4 1 (encs (List.replicate n27 false))) :: (.own Sl.nil 4 1 (encs ([] : List Bool))) :: (.blk b25 [pv b12 0] 97) :: (.rows (α := Bool) 4 rs14) :: (.own s13 75 1 (encs rs14)) :: (.own s18 3 1 (encs r10.left)) :: (.blk b12 (enc (GraphR.mk r10 s13 s18 s20)) 101) :: (.own Sl.nil 3 1 (encs ([] : List Int))) :: (.own Sl.nil 3 1 (encs ([] : List Int))) :: L) rfl ?_
    refine At.less (L' := (.blk b121 (enc Sl.nil) 75) :: (.own Sl.nil 4 1 (encs ([] : List Bool))) :: (.blk b102 (enc s123) 75) :: (.own s127 4 1 (encs (List.replicate n32 false))) :: (.own s123 4 1 (encs (List.replicate n27 false))) :: (.blk b25 [pv b12 0] 97) :: (.rows (α := Bool) 4 rs14) :: (.own s13 75 1 (encs rs14)) :: (.own s18 3 1 (encs r10.left)) :: (.blk b12 (enc (GraphR.mk r10 s13 s18 s20)) 101) :: (.own Sl.nil 3 1 (encs ([] : List Int))) :: (.own Sl.nil 3 1 (encs ([] : List Int))) :: L) (sk1 (sk1 (sk1 (sk1 (sk1 (sc1 (sk1 (sk1 (sk1 (sk1 (sk1 (sk1 (sk1 (.refl _)))))))))))))) ?_
    exact At.meetN (b121, Sl.nil, ([] : List Bool), b102, s127, (List.replicate n32 false), s123, (List.replicate n27 false)) fl ⟨rfl, rfl, rfl, rfl, rfl, trivial⟩ rfl h53
   refine HdStep.c (fun inv => ?_) trivial
   have g128 := mkLen_some h33
   refine Lst.make (α := Bool) (z0 := false) (k := n32) rfl rfl (by decide) (congrArg some (congrArg (Value.int .i64) g128.1)) (congrArg some (congrArg (Value.int .i64) g128.1)) Try.runUnderlying75 Try.typeInfo4 rfl rfl rfl rfl rfl g128.2 rfl (fun s129 => ?_)
   refine hds inv (sc1 (sc1 (sc1 (sc1 (sc1 (sk1 (sk1 (sk1 (sk1 (sk1 (sk1 (sk1 (.refl _))))))))))))) ?_
   refine HdJ.o1 1 (fun inv => ?_)
   have g130 := mkLen_some h28
   refine Lst.make (α := Bool) (z0 := false) (k := n27) rfl rfl (by decide) (congrArg some (congrArg (Value.int .i64) g130.1)) (congrArg some (congrArg (Value.int .i64) g130.1)) Try.runUnderlying75 Try.typeInfo4 rfl rfl rfl rfl rfl g130.2 rfl (fun s131 => ?_)
   refine hds inv (sc1 (sc1 (sc1 (sc1 (sc1 (sc1 (sk1 (sk1 (sk1 (sk1 (sk1 (sk1 (sk1 (.refl _)))))))))))))) ?_
   refine HdJ.o1 6 (fun inv => ?_)
   refine Lst.store (i := 4) rfl rfl rfl rfl rfl Try.sizeOf75 (vs := [Sl.v s131]) rfl rfl rfl (cs' := enc s131) (Put.here (vs := [Sl.v s131]) rfl) (L' := (.own s131 4 1 (encs (List.replicate n27 false))) :: (.own s129 4 1 (encs (List.replicate n32 false))) :: (.blk b121 (enc Sl.nil) 75) :: (.own Sl.nil 4 1 (encs ([] : List Bool))) :: (.blk b102 (enc s131) 75) :: (.own Sl.nil 4 1 (encs ([] : List Bool))) :: (.blk b25 [pv b12 0] 97) :: (.rows (α := Bool) 4 rs14) :: (.own s13 75 1 (encs rs14)) :: (.own s18 3 1 (encs r10.left)) :: (.blk b12 (enc (GraphR.mk r10 s13 s18 s20)) 101) :: (.own Sl.nil 3 1 (encs ([] : List Int))) :: (.own Sl.nil 3 1 (encs ([] : List Int))) :: L) rfl ?_
   refine hds inv (sc1 (sc1 (sc1 (sc1 (sc1 (sc1 (sk1 (sk1 (sk1 (sk1 (sk1 (sk1 (sk1 (.refl _)))))))))))))) ?_
   refine HdJ.done (by kernel_rfl) ?_
   refine At.front (i := 1) rfl rfl ?_
   refine At.front (i := 4) rfl rfl ?_
   refine At.front (i := 4) rfl (L' := (.own Sl.nil 4 1 (encs ([] : List Bool))) :: (.blk b102 (enc s131) 75) :: (.own s129 4 1 (encs (List.replicate n32 false))) :: (.own s131 4 1 (encs (List.replicate n27 false))) :: (.blk b121 (enc Sl.nil) 75) :: (.own Sl.nil 4 1 (encs ([] : List Bool))) :: (.blk b25 [pv b12 0] 97) :: (.rows (α := Bool) 4 rs14) :: (.own s13 75 1 (encs rs14)) :: (.own s18 3 1 (encs r10.left)) :: (.blk b12 (enc (GraphR.mk r10 s13 s18 s20)) 101) :: (.own Sl.nil 3 1 (encs ([] : List Int))) :: (.own Sl.nil 3 1 (encs ([] : List Int))) :: L) rfl ?_
   refine At.front (i := 4) rfl (L' := (.blk b121 (enc Sl.nil) 75) :: (.own Sl.nil 4 1 (encs ([] : List Bool))) :: (.blk b102 (enc s131) 75) :: (.own s129 4 1 (encs (List.replicate n32 false))) :: (.own s131 4 1 (encs (List.replicate n27 false))) :: (.own Sl.nil 4 1 (encs ([] : List Bool))) :: (.blk b25 [pv b12 0] 97) :: (.rows (α := Bool) 4 rs14) :: (.own s13 75 1 (encs rs14)) :: (.own s18 3 1 (encs r10.left)) :: (.blk b12 (enc (GraphR.mk r10 s13 s18 s20)) 101) :: (.own Sl.nil 3 1 (encs ([] : List Int))) :: (.own Sl.nil 3 1 (encs ([] : List Int))) :: L) rfl ?_
   refine At.less (L' := (.blk b121 (enc Sl.nil) 75) :: (.own Sl.nil 4 1 (encs ([] : List Bool))) :: (.blk b102 (enc s131) 75) :: (.own s129 4 1 (encs (List.replicate n32 false))) :: (.own s131 4 1 (encs (List.replicate n27 false))) :: (.blk b25 [pv b12 0] 97) :: (.rows (α := Bool) 4 rs14) :: (.own s13 75 1 (encs rs14)) :: (.own s18 3 1 (encs r10.left)) :: (.blk b12 (enc (GraphR.mk r10 s13 s18 s20)) 101) :: (.own Sl.nil 3 1 (encs ([] : List Int))) :: (.own Sl.nil 3 1 (encs ([] : List Int))) :: L) (sk1 (sk1 (sk1 (sk1 (sk1 (sc1 (sk1 (sk1 (sk1 (sk1 (sk1 (sk1 (sk1 (.refl _)))))))))))))) ?_
   exact At.meetN (b121, Sl.nil, ([] : List Bool), b102, s129, (List.replicate n32 false), s131, (List.replicate n27 false)) fl ⟨rfl, rfl, rfl, rfl, rfl, trivial⟩ rfl h53
  refine HdStep.c (fun inv => ?_) trivial
  refine Lst.addNil 4 1 ?_
  refine Lst.alloc (cs := enc Sl.nil) rfl rfl (by decide) Try.zeroValue75 rfl (fun b132 => ?_)
  refine hds inv (sc1 (sc1 (sk1 (sk1 (sk1 (sk1 (sk1 (sk1 (sk1 (.refl _)))))))))) ?_
  refine HdJ.step [1, 3, 4] (by kernel_rfl) rfl ?_
  refine HdStep.c (fun inv => ?_) ?_
  ·have g133 := mkLen_some h28
   refine Lst.make (α := Bool) (z0 := false) (k := n27) rfl rfl (by decide) (congrArg some (congrArg (Value.int .i64) g133.1)) (congrArg some (congrArg (Value.int .i64) g133.1)) Try.runUnderlying75 Try.typeInfo4 rfl rfl rfl rfl rfl g133.2 rfl (fun s134 => ?_)
   refine hds inv (sc1 (sc1 (sc1 (sk1 (sk1 (sk1 (sk1 (sk1 (sk1 (sk1 (.refl _))))))))))) ?_
   refine HdJ.step [3, 4] (by kernel_rfl) rfl ?_
   refine HdStep.c (fun inv => ?_) ?_
   ·have g135 := mkLen_some h33
    refine Lst.make (α := Bool) (z0 := false) (k := n32) rfl rfl (by decide) (congrArg some (congrArg (Value.int .i64) g135.1)) (congrArg some (congrArg (Value.int .i64) g135.1)) Try.runUnderlying75 Try.typeInfo4 rfl rfl rfl rfl rfl g135.2 rfl (fun s136 => ?_)
    refine hds inv (sc1 (sc1 (sc1 (sc1 (sk1 (sk1 (sk1 (sk1 (sk1 (sk1 (sk1 (.refl _)))))))))))) ?_
    refine HdJ.o1 4 (fun inv => ?_)
    refine Lst.addNil 4 1 ?_
    refine Lst.alloc (cs := enc Sl.nil) rfl rfl (by decide) Try.zeroValue75 rfl (fun b137 => ?_)
    refine hds inv (sc1 (sc1 (sc1 (sc1 (sc1 (sc1 (sk1 (sk1 (sk1 (sk1 (sk1 (sk1 (sk1 (.refl _)))))))))))))) ?_
    refine HdJ.o1 6 (fun inv => ?_)
    refine Lst.store (i := 0) rfl rfl rfl rfl rfl Try.sizeOf75 (vs := [Sl.v s134]) rfl rfl rfl (cs' := enc s134) (Put.here (vs := [Sl.v s134]) rfl) (L' := (.blk b137 (enc s134) 75) :: (.own Sl.nil 4 1 (encs ([] : List Bool))) :: (.own s136 4 1 (encs (List.replicate n32 false))) :: (.own s134 4 1 (encs (List.replicate n27 false))) :: (.blk b132 (enc Sl.nil) 75) :: (.own Sl.nil 4 1 (encs ([] : List Bool))) :: (.blk b25 [pv b12 0] 97) :: (.rows (α := Bool) 4 rs14) :: (.own s13 75 1 (encs rs14)) :: (.own s18 3 1 (encs r10.left)) :: (.blk b12 (enc (GraphR.mk r10 s13 s18 s20)) 101) :: (.own Sl.nil 3 1 (encs ([] : List Int))) :: (.own Sl.nil 3 1 (encs ([] : List Int))) :: L) rfl ?_
    refine hds inv (sc1 (sc1 (sc1 (sc1 (sc1 (sc1 (sk1 (sk1 (sk1 (sk1 (sk1 (sk1 (sk1 (.refl _)))))))))))))) ?_
    refine HdJ.done (by kernel_rfl) ?_
    refine At.front (i := 5) rfl rfl ?_
    refine At.front (i := 5) rfl (L' := (.blk b132 (enc Sl.nil) 75) :: (.own Sl.nil 4 1 (encs ([] : List Bool))) :: (.blk b137 (enc s134) 75) :: (.own Sl.nil 4 1 (encs ([] : List Bool))) :: (.own s136 4 1 (encs (List.replicate n32 false))) :: (.own s134 4 1 (encs (List.replicate n27 false))) :: (.blk b25 [pv b12 0] 97) :: (.rows (α := Bool) 4 rs14) :: (.own s13 75 1 (encs rs14)) :: (.own s18 3 1 (encs r10.left)) :: (.blk b12 (enc (GraphR.mk r10 s13 s18 s20)) 101) :: (.own Sl.nil 3 1 (encs ([] : List Int))) :: (.own Sl.nil 3 1 (encs ([] : List Int))) :: L) rfl ?_
    refine At.less (L' := (.blk b132 (enc Sl.nil) 75) :: (.own Sl.nil 4 1 (encs ([] : List Bool))) :: (.blk b137 (enc s134) 75) :: (.own s136 4 1 (encs (List.replicate n32 false))) :: (.own s134 4 1 (encs (List.replicate n27 false))) :: (.blk b25 [pv b12 0] 97) :: (.rows (α := Bool) 4 rs14) :: (.own s13 75 1 (encs rs14)) :: (.own s18 3 1 (encs r10.left)) :: (.blk b12 (enc (GraphR.mk r10 s13 s18 s20)) 101) :: (.own Sl.nil 3 1 (encs ([] : List Int))) :: (.own Sl.nil 3 1 (encs ([] : List Int))) :: L) (sk1 (sk1 (sk1 (sc1 (sk1 (sk1 (sk1 (sk1 (sk1 (sk1 (sk1 (sk1 (sk1 (.refl _)))))))))))))) ?_
    exact At.meetN (b132, Sl.nil, ([] : List Bool), b137, s136, (List.replicate n32 false), s134, (List.replicate n27 false)) fl ⟨rfl, rfl, rfl, rfl, rfl, trivial⟩ rfl h53
   refine HdStep.c (fun inv => ?_) trivial
   refine Lst.addNil 4 1 ?_
   refine Lst.alloc (cs := enc Sl.nil) rfl rfl (by decide) Try.zeroValue75 rfl (fun b138 => ?_)
   refine hds inv (sc1 (sc1 (sc1 (sc1 (sc1 (sk1 (sk1 (sk1 (sk1 (sk1 (sk1 (sk1 (.refl _))))))))))))) ?_
   refine HdJ.step [3, 6] (by kernel_rfl) rfl ?_
   refine HdStep.c (fun inv => ?_) ?_
   ·have g139 := mkLen_some h33
    refine Lst.make (α := Bool) (z0 := false) (k := n32) rfl rfl (by decide) (congrArg some (congrArg (Value.int .i64) g139.1)) (congrArg some (congrArg (Value.int .i64) g139.1)) Try.runUnderlying75 Try.typeInfo4 rfl rfl rfl rfl rfl g139.2 rfl (fun s140 => ?_)
    refine hds inv (sc1 (sc1 (sc1 (sc1 (sc1 (sc1 (sk1 (sk1 (sk1 (sk1 (sk1 (sk1 (sk1 (.refl _)))))))))))))) ?_
    refine HdJ.o1 6 (fun inv => ?_)
    refine Lst.store (i := 1) rfl rfl rfl rfl rfl Try.sizeOf75 (vs := [Sl.v s134]) rfl rfl rfl (cs' := enc s134) (Put.here (vs := [Sl.v s134]) rfl) (L' := (.own s140 4 1 (encs (List.replicate n32 false))) :: (.blk b138 (enc s134) 75) :: (.own Sl.nil 4 1 (encs ([] : List Bool))) :: (.own s134 4 1 (encs (List.replicate n27 false))) :: (.blk b132 (enc Sl.nil) 75) :: (.own Sl.nil 4 1 (encs ([] : List Bool))) :: (.blk b25 [pv b12 0] 97) :: (.rows (α := Bool) 4 rs14) :: (.own s13 75 1 (encs rs14)) :: (.own s18 3 1 (encs r10.left)) :: (.blk b12 (enc (GraphR.mk r10 s13 s18 s20)) 101) :: (.own Sl.nil 3 1 (encs ([] : List Int))) :: (.own Sl.nil 3 1 (encs ([] : List Int))) :: L) rfl ?_
    refine hds inv (sc1 (sc1 (sc1 (sc1 (sc1 (sc1 (sk1 (sk1 (sk1 (sk1 (sk1 (sk1 (sk1 (.refl _)))))))))))))) ?_
    refine HdJ.done (by kernel_rfl) ?_
    refine At.front (i := 1) rfl rfl ?_
    refine At.front (i := 5) rfl rfl ?_
    refine At.front (i := 5) rfl (L' := (.blk b132 (enc Sl.nil) 75) :: (.own Sl.nil 4 1 (encs ([] : List Bool))) :: (.blk b138 (enc s134) 75) :: (.own s140 4 1 (encs (List.replicate n32 false))) :: (.own Sl.nil 4 1 (encs ([] : List Bool))) :: (.own s134 4 1 (encs (List.replicate n27 false))) :: (.blk b25 [pv b12 0] 97) :: (.rows (α := Bool) 4 rs14) :: (.own s13 75 1 (encs rs14)) :: (.own s18 3 1 (encs r10.left)) :: (.blk b12 (enc (GraphR.mk r10 s13 s18 s20)) 101) :: (.own Sl.nil 3 1 (encs ([] : List Int))) :: (.own Sl.nil 3 1 (encs ([] : List Int))) :: L) rfl ?_
    refine At.less (L' := (.blk b132 (enc Sl.nil) 75) :: (.own Sl.nil 4 1 (encs ([] : List Bool))) :: (.blk b138 (enc s134) 75) :: (.own s140 4 1 (encs (List.replicate n32 false))) :: (.own s134 4 1 (encs (List.replicate n27 false))) :: (.blk b25 [pv b12 0] 97) :: (.rows (α := Bool) 4 rs14) :: (.own s13 75 1 (encs rs14)) :: (.own s18 3 1 (encs r10.left)) :: (.blk b12 (enc (GraphR.mk r10 s13 s18 s20)) 101) :: (.own Sl.nil 3 1 (encs ([] : List Int))) :: (.own Sl.nil 3 1 (encs ([] : List Int))) :: L) (sk1 (sk1 (sk1 (sk1 (sc1 (sk1 (sk1 (sk1 (sk1 (sk1 (sk1 (sk1 (sk1 (.refl _)))))))))))))) ?_
    exact At.meetN (b132, Sl.nil, ([] : List Bool), b138, s140, (List.replicate n32 false), s134, (List.replicate n27 false)) fl ⟨rfl, rfl, rfl, rfl, rfl, trivial⟩ rfl h53
   refine HdStep.c (fun inv => ?_) trivial
   refine Lst.store (i := 0) rfl rfl rfl rfl rfl Try.sizeOf75 (vs := [Sl.v s134]) rfl rfl rfl (cs' := enc s134) (Put.here (vs := [Sl.v s134]) rfl) (L' := (.blk b138 (enc s134) 75) :: (.own Sl.nil 4 1 (encs ([] : List Bool))) :: (.own s134 4 1 (encs (List.replicate n27 false))) :: (.blk b132 (enc Sl.nil) 75) :: (.own Sl.nil 4 1 (encs ([] : List Bool))) :: (.blk b25 [pv b12 0] 97) :: (.rows (α := Bool) 4 rs14) :: (.own s13 75 1 (encs rs14)) :: (.own s18 3 1 (encs r10.left)) :: (.blk b12 (enc (GraphR.mk r10 s13 s18 s20)) 101) :: (.own Sl.nil 3 1 (encs ([] : List Int))) :: (.own Sl.nil 3 1 (encs ([] : List Int))) :: L) rfl ?_
   refine hds inv (sc1 (sc1 (sc1 (sc1 (sc1 (sk1 (sk1 (sk1 (sk1 (sk1 (sk1 (sk1 (.refl _))))))))))))) ?_
   refine HdJ.o1 3 (fun inv => ?_)
   have g141 := mkLen_some h33
   refine Lst.make (α := Bool) (z0 := false) (k := n32) rfl rfl (by decide) (congrArg some (congrArg (Value.int .i64) g141.1)) (congrArg some (congrArg (Value.int .i64) g141.1)) Try.runUnderlying75 Try.typeInfo4 rfl rfl rfl rfl rfl g141.2 rfl (fun s142 => ?_)
   refine hds inv (sc1 (sc1 (sc1 (sc1 (sc1 (sc1 (sk1 (sk1 (sk1 (sk1 (sk1 (sk1 (sk1 (.refl _)))))))))))))) ?_
   refine HdJ.done (by kernel_rfl) ?_
   refine At.front (i := 1) rfl rfl ?_
   refine At.front (i := 5) rfl rfl ?_
   refine At.front (i := 5) rfl (L' := (.blk b132 (enc Sl.nil) 75) :: (.own Sl.nil 4 1 (encs ([] : List Bool))) :: (.blk b138 (enc s134) 75) :: (.own s142 4 1 (encs (List.replicate n32 false))) :: (.own Sl.nil 4 1 (encs ([] : List Bool))) :: (.own s134 4 1 (encs (List.replicate n27 false))) :: (.blk b25 [pv b12 0] 97) :: (.rows (α := Bool) 4 rs14) :: (.own s13 75 1 (encs rs14)) :: (.own s18 3 1 (encs r10.left)) :: (.blk b12 (enc (GraphR.mk r10 s13 s18 s20)) 101) :: (.own Sl.nil 3 1 (encs ([] : List Int))) :: (.own Sl.nil 3 1 (encs ([] : List Int))) :: L) rfl ?_
   refine At.less (L' := (.blk b132 (enc Sl.nil) 75) :: (.own Sl.nil 4 1 (encs ([] : List Bool))) :: (.blk b138 (enc s134) 75) :: (.own s142 4 1 (encs (List.replicate n32 false))) :: (.own s134 4 1 (encs (List.replicate n27 false))) :: (.blk b25 [pv b12 0] 97) :: (.rows (α := Bool) 4 rs14) :: (.own s13 75 1 (encs rs14)) :: (.own s18 3 1 (encs r10.left)) :: (.blk b12 (enc (GraphR.mk r10 s13 s18 s20)) 101) :: (.own Sl.nil 3 1 (encs ([] : List Int))) :: (.own Sl.nil 3 1 (encs ([] : List Int))) :: L) (sk1 (sk1 (sk1 (sk1 (sc1 (sk1 (sk1 (sk1 (sk1 (sk1 (sk1 (sk1 (sk1 (.refl _)))))))))))))) ?_
   exact At.meetN (b132, Sl.nil, ([] : List Bool), b138, s142, (List.replicate n32 false), s134, (List.replicate n27 false)) fl ⟨rfl, rfl, rfl, rfl, rfl, trivial⟩ rfl h53
  refine HdStep.c (fun inv => ?_) ?_
  ·have g143 := mkLen_some h33
   refine Lst.make (α := Bool) (z0 := false) (k := n32) rfl rfl (by decide) (congrArg some (congrArg (Value.int .i64) g143.1)) (congrArg some (congrArg (Value.int .i64) g143.1)) Try.runUnderlying75 Try.typeInfo4 rfl rfl rfl rfl rfl g143.2 rfl (fun s144 => ?_)
   refine hds inv (sc1 (sc1 (sc1 (sk1 (sk1 (sk1 (sk1 (sk1 (sk1 (sk1 (.refl _))))))))))) ?_
   refine HdJ.step [1, 4] (by kernel_rfl) rfl ?_
   refine HdStep.c (fun inv => ?_) ?_
   ·have g145 := mkLen_some h28
    refine Lst.make (α := Bool) (z0 := false) (k := n27) rfl rfl (by decide) (congrArg some (congrArg (Value.int .i64) g145.1)) (congrArg some (congrArg (Value.int .i64) g145.1)) Try.runUnderlying75 Try.typeInfo4 rfl rfl rfl rfl rfl g145.2 rfl (fun s146 => ?_)
    refine hds inv (sc1 (sc1 (sc1 (sc1 (sk1 (sk1 (sk1 (sk1 (sk1 (sk1 (sk1 (.refl _)))))))))))) ?_
    refine HdJ.o1 4 (fun inv => ?_)
    refine Lst.addNil 4 1 ?_
    refine Lst.alloc (cs := enc Sl.nil) rfl rfl (by decide) Try.zeroValue75 rfl (fun b147 => ?_)
    refine hds inv (sc1 (sc1 (sc1 (sc1 (sc1 (sc1 (sk1 (sk1 (sk1 (sk1 (sk1 (sk1 (sk1 (.refl _)))))))))))))) ?_
    refine HdJ.o1 6 (fun inv => ?_)
    refine Lst.store (i := 0) rfl rfl rfl rfl rfl Try.sizeOf75 (vs := [Sl.v s146]) rfl rfl rfl (cs' := enc s146) (Put.here (vs := [Sl.v s146]) rfl) (L' := (.blk b147 (enc s146) 75) :: (.own Sl.nil 4 1 (encs ([] : List Bool))) :: (.own s146 4 1 (encs (List.replicate n27 false))) :: (.own s144 4 1 (encs (List.replicate n32 false))) :: (.blk b132 (enc Sl.nil) 75) :: (.own Sl.nil 4 1 (encs ([] : List Bool))) :: (.blk b25 [pv b12 0] 97) :: (.rows (α := Bool) 4 rs14) :: (.own s13 75 1 (encs rs14)) :: (.own s18 3 1 (encs r10.left)) :: (.blk b12 (enc (GraphR.mk r10 s13 s18 s20)) 101) :: (.own Sl.nil 3 1 (encs ([] : List Int))) :: (.own Sl.nil 3 1 (encs ([] : List Int))) :: L) rfl ?_
    refine hds inv (sc1 (sc1 (sc1 (sc1 (sc1 (sc1 (sk1 (sk1 (sk1 (sk1 (sk1 (sk1 (sk1 (.refl _)))))))))))))) ?_
    refine HdJ.done (by kernel_rfl) ?_
    refine At.front (i := 3) rfl rfl ?_
    refine At.front (i := 1) rfl rfl ?_
    refine At.front (i := 5) rfl (L' := (.own Sl.nil 4 1 (encs ([] : List Bool))) :: (.blk b147 (enc s146) 75) :: (.own s144 4 1 (encs (List.replicate n32 false))) :: (.own Sl.nil 4 1 (encs ([] : List Bool))) :: (.own s146 4 1 (encs (List.replicate n27 false))) :: (.blk b132 (enc Sl.nil) 75) :: (.blk b25 [pv b12 0] 97) :: (.rows (α := Bool) 4 rs14) :: (.own s13 75 1 (encs rs14)) :: (.own s18 3 1 (encs r10.left)) :: (.blk b12 (enc (GraphR.mk r10 s13 s18 s20)) 101) :: (.own Sl.nil 3 1 (encs ([] : List Int))) :: (.own Sl.nil 3 1 (encs ([] : List Int))) :: L) rfl ?_
    refine At.front (i := 5) rfl (L' := (.blk b132 (enc Sl.nil) 75) :: (.own Sl.nil 4 1 (encs ([] : List Bool))) :: (.blk b147 (enc s146) 75) :: (.own s144 4 1 (encs (List.replicate n32 false))) :: (.own Sl.nil 4 1 (encs ([] : List Bool))) :: (.own s146 4 1 (encs (List.replicate n27 false))) :: (.blk b25 [pv b12 0] 97) :: (.rows (α := Bool) 4 rs14) :: (.own s13 75 1 (encs rs14)) :: (.own s18 3 1 (encs r10.left)) :: (.blk b12 (enc (GraphR.mk r10 s13 s18 s20)) 101) :: (.own Sl.nil 3 1 (encs ([] : List Int))) :: (.own Sl.nil 3 1 (encs ([] : List Int))) :: L) rfl ?_
    refine At.less (L' := (.blk b132 (enc Sl.nil) 75) :: (.own Sl.nil 4 1 (encs ([] : List Bool))) :: (.blk b147 (enc s146) 75) :: (.own s144 4 1 (encs (List.replicate n32 false))) :: (.own s146 4 1 (encs (List.replicate n27 false))) :: (.blk b25 [pv b12 0] 97) :: (.rows (α := Bool) 4 rs14) :: (.own s13 75 1 (encs rs14)) :: (.own s18 3 1 (encs r10.left)) :: (.blk b12 (enc (GraphR.mk r10 s13 s18 s20)) 101) :: (.own Sl.nil 3 1 (encs ([] : List Int))) :: (.own Sl.nil 3 1 (encs ([] : List Int))) :: L) (sk1 (sk1 (sk1 (sk1 (sc1 (sk1 (sk1 (sk1 (sk1 (sk1 (sk1 (sk1 (sk1 (.refl _)))))))))))))) ?_
    exact At.meetN (b132, Sl.nil, ([] : List Bool), b147, s144, (List.replicate n32 false), s146, (List.replicate n27 false)) fl ⟨rfl, rfl, rfl, rfl, rfl, trivial⟩ rfl h53
   refine HdStep.c (fun inv => ?_) trivial
   refine Lst.addNil 4 1 ?_
   refine Lst.alloc (cs := enc Sl.nil) rfl rfl (by decide) Try.zeroValue75 rfl (fun b148 => ?_)
   refine hds inv (sc1 (sc1 (sc1 (sc1 (sc1 (sk1 (sk1 (sk1 (sk1 (sk1 (sk1 (sk1 (.refl _))))))))))))) ?_
   refine HdJ.o1 1 (fun inv => ?_)
   have g149 := mkLen_some h28
   refine Lst.make (α := Bool) (z0 := false) (k := n27) rfl rfl (by decide) (congrArg some (congrArg (Value.int .i64) g149.1)) (congrArg some (congrArg (Value.int .i64) g149.1)) Try.runUnderlying75 Try.typeInfo4 rfl rfl rfl rfl rfl g149.2 rfl (fun s150 => ?_)
   refine hds inv (sc1 (sc1 (sc1 (sc1 (sc1 (sc1 (sk1 (sk1 (sk1 (sk1 (sk1 (sk1 (sk1 (.refl _)))))))))))))) ?_
   refine HdJ.o1 6 (fun inv => ?_)
   refine Lst.store (i := 1) rfl rfl rfl rfl rfl Try.sizeOf75 (vs := [Sl.v s150]) rfl rfl rfl (cs' := enc s150) (Put.here (vs := [Sl.v s150]) rfl) (L' := (.own s150 4 1 (encs (List.replicate n27 false))) :: (.blk b148 (enc s150) 75) :: (.own Sl.nil 4 1 (encs ([] : List Bool))) :: (.own s144 4 1 (encs (List.replicate n32 false))) :: (.blk b132 (enc Sl.nil) 75) :: (.own Sl.nil 4 1 (encs ([] : List Bool))) :: (.blk b25 [pv b12 0] 97) :: (.rows (α := Bool) 4 rs14) :: (.own s13 75 1 (encs rs14)) :: (.own s18 3 1 (encs r10.left)) :: (.blk b12 (enc (GraphR.mk r10 s13 s18 s20)) 101) :: (.own Sl.nil 3 1 (encs ([] : List Int))) :: (.own Sl.nil 3 1 (encs ([] : List Int))) :: L) rfl ?_
   refine hds inv (sc1 (sc1 (sc1 (sc1 (sc1 (sc1 (sk1 (sk1 (sk1 (sk1 (sk1 (sk1 (sk1 (.refl _)))))))))))))) ?_
   refine HdJ.done (by kernel_rfl) ?_
   refine At.front (i := 3) rfl rfl ?_
   refine At.front (i := 2) rfl rfl ?_
   refine At.front (i := 5) rfl (L' := (.own Sl.nil 4 1 (encs ([] : List Bool))) :: (.blk b148 (enc s150) 75) :: (.own s144 4 1 (encs (List.replicate n32 false))) :: (.own s150 4 1 (encs (List.replicate n27 false))) :: (.own Sl.nil 4 1 (encs ([] : List Bool))) :: (.blk b132 (enc Sl.nil) 75) :: (.blk b25 [pv b12 0] 97) :: (.rows (α := Bool) 4 rs14) :: (.own s13 75 1 (encs rs14)) :: (.own s18 3 1 (encs r10.left)) :: (.blk b12 (enc (GraphR.mk r10 s13 s18 s20)) 101) :: (.own Sl.nil 3 1 (encs ([] : List Int))) :: (.own Sl.nil 3 1 (encs ([] : List Int))) :: L) rfl ?_
   refine At.front (i := 5) rfl (L' := (.blk b132 (enc Sl.nil) 75) :: (.own Sl.nil 4 1 (encs ([] : List Bool))) :: (.blk b148 (enc s150) 75) :: (.own s144 4 1 (encs (List.replicate n32 false))) :: (.own s150 4 1 (encs (List.replicate n27 false))) :: (.own Sl.nil 4 1 (encs ([] : List Bool))) :: (.blk b25 [pv b12 0] 97) :: (.rows (α := Bool) 4 rs14) :: (.own s13 75 1 (encs rs14)) :: (.own s18 3 1 (encs r10.left)) :: (.blk b12 (enc (GraphR.mk r10 s13 s18 s20)) 101) :: (.own Sl.nil 3 1 (encs ([] : List Int))) :: (.own Sl.nil 3 1 (encs ([] : List Int))) :: L) rfl ?_
   refine At.less (L' := (.blk b132 (enc Sl.nil) 75) :: (.own Sl.nil 4 1 (encs ([] : List Bool))) :: (.blk b148 (enc s150) 75) :: (.own s144 4 1 (encs (List.replicate n32 false))) :: (.own s150 4 1 (encs (List.replicate n27 false))) :: (.blk b25 [pv b12 0] 97) :: (.rows (α := Bool) 4 rs14) :: (.own s13 75 1 (encs rs14)) :: (.own s18 3 1 (encs r10.left)) :: (.blk b12 (enc (GraphR.mk r10 s13 s18 s20)) 101) :: (.own Sl.nil 3 1 (encs ([] : List Int))) :: (.own Sl.nil 3 1 (encs ([] : List Int))) :: L) (sk1 (sk1 (sk1 (sk1 (sk1 (sc1 (sk1 (sk1 (sk1 (sk1 (sk1 (sk1 (sk1 (.refl _)))))))))))))) ?_
   exact At.meetN (b132, Sl.nil, ([] : List Bool), b148, s144, (List.replicate n32 false), s150, (List.replicate n27 false)) fl ⟨rfl, rfl, rfl, rfl, rfl, trivial⟩ rfl h53
  refine HdStep.c (fun inv => ?_) trivial
  refine Lst.addNil 4 1 ?_
  refine Lst.alloc (cs := enc Sl.nil) rfl rfl (by decide) Try.zeroValue75 rfl (fun b151 => ?_)
  refine hds inv (sc1 (sc1 (sc1 (sc1 (sk1 (sk1 (sk1 (sk1 (sk1 (sk1 (sk1 (.refl _)))))))))))) ?_
  refine HdJ.step [1, 3] (by kernel_rfl) rfl ?_
  refine HdStep.c (fun inv => ?_) ?_
  ·have g152 := mkLen_some h28
   refine Lst.make (α := Bool) (z0 := false) (k := n27) rfl rfl (by decide) (congrArg some (congrArg (Value.int .i64) g152.1)) (congrArg some (congrArg (Value.int .i64) g152.1)) Try.runUnderlying75 Try.typeInfo4 rfl rfl rfl rfl rfl g152.2 rfl (fun s153 => ?_)
   refine hds inv (sc1 (sc1 (sc1 (sc1 (sc1 (sk1 (sk1 (sk1 (sk1 (sk1 (sk1 (sk1 (.refl _))))))))))))) ?_
   refine HdJ.step [3, 6] (by kernel_rfl) rfl ?_
   refine HdStep.c (fun inv => ?_) ?_
   ·have g154 := mkLen_some h33
    refine Lst.make (α := Bool) (z0 := false) (k := n32) rfl rfl (by decide) (congrArg some (congrArg (Value.int .i64) g154.1)) (congrArg some (congrArg (Value.int .i64) g154.1)) Try.runUnderlying75 Try.typeInfo4 rfl rfl rfl rfl rfl g154.2 rfl (fun s155 => ?_)
    refine hds inv (sc1 (sc1 (sc1 (sc1 (sc1 (sc1 (sk1 (sk1 (sk1 (sk1 (sk1 (sk1 (sk1 (.refl _)))))))))))))) ?_
    refine HdJ.o1 6 (fun inv => ?_)
    refine Lst.store (i := 2) rfl rfl rfl rfl rfl Try.sizeOf75 (vs := [Sl.v s153]) rfl rfl rfl (cs' := enc s153) (Put.here (vs := [Sl.v s153]) rfl) (L' := (.own s155 4 1 (encs (List.replicate n32 false))) :: (.own s153 4 1 (encs (List.replicate n27 false))) :: (.blk b151 (enc s153) 75) :: (.own Sl.nil 4 1 (encs ([] : List Bool))) :: (.blk b132 (enc Sl.nil) 75) :: (.own Sl.nil 4 1 (encs ([] : List Bool))) :: (.blk b25 [pv b12 0] 97) :: (.rows (α := Bool) 4 rs14) :: (.own s13 75 1 (encs rs14)) :: (.own s18 3 1 (encs r10.left)) :: (.blk b12 (enc (GraphR.mk r10 s13 s18 s20)) 101) :: (.own Sl.nil 3 1 (encs ([] : List Int))) :: (.own Sl.nil 3 1 (encs ([] : List Int))) :: L) rfl ?_
    refine hds inv (sc1 (sc1 (sc1 (sc1 (sc1 (sc1 (sk1 (sk1 (sk1 (sk1 (sk1 (sk1 (sk1 (.refl _)))))))))))))) ?_
    refine HdJ.done (by kernel_rfl) ?_
    refine At.front (i := 2) rfl rfl ?_
    refine At.front (i := 5) rfl rfl ?_
    refine At.front (i := 5) rfl (L' := (.blk b132 (enc Sl.nil) 75) :: (.own Sl.nil 4 1 (encs ([] : List Bool))) :: (.blk b151 (enc s153) 75) :: (.own s155 4 1 (encs (List.replicate n32 false))) :: (.own s153 4 1 (encs (List.replicate n27 false))) :: (.own Sl.nil 4 1 (encs ([] : List Bool))) :: (.blk b25 [pv b12 0] 97) :: (.rows (α := Bool) 4 rs14) :: (.own s13 75 1 (encs rs14)) :: (.own s18 3 1 (encs r10.left)) :: (.blk b12 (enc (GraphR.mk r10 s13 s18 s20)) 101) :: (.own Sl.nil 3 1 (encs ([] : List Int))) :: (.own Sl.nil 3 1 (encs ([] : List Int))) :: L) rfl ?_
    refine At.less (L' := (.blk b132 (enc Sl.nil) 75) :: (.own Sl.nil 4 1 (encs ([] : List Bool))) :: (.blk b151 (enc s153) 75) :: (.own s155 4 1 (encs (List.replicate n32 false))) :: (.own s153 4 1 (encs (List.replicate n27 false))) :: (.blk b25 [pv b12 0] 97) :: (.rows (α := Bool) 4 rs14) :: (.own s13 75 1 (encs rs14)) :: (.own s18 3 1 (encs r10.left)) :: (.blk b12 (enc (GraphR.mk r10 s13 s18 s20)) 101) :: (.own Sl.nil 3 1 (encs ([] : List Int))) :: (.own Sl.nil 3 1 (encs ([] : List Int))) :: L) (sk1 (sk1 (sk1 (sk1 (sk1 (sc1 (sk1 (sk1 (sk1 (sk1 (sk1 (sk1 (sk1 (.refl _)))))))))))))) ?_
    exact At.meetN (b132, Sl.nil, ([] : List Bool), b151, s155, (List.replicate n32 false), s153, (List.replicate n27 false)) fl ⟨rfl, rfl, rfl, rfl, rfl, trivial⟩ rfl h53
   refine HdStep.c (fun inv => ?_) trivial
   refine Lst.store (i := 1) rfl rfl rfl rfl rfl Try.sizeOf75 (vs := [Sl.v s153]) rfl rfl rfl (cs' := enc s153) (Put.here (vs := [Sl.v s153]) rfl) (L' := (.own s153 4 1 (encs (List.replicate n27 false))) :: (.blk b151 (enc s153) 75) :: (.own Sl.nil 4 1 (encs ([] : List Bool))) :: (.blk b132 (enc Sl.nil) 75) :: (.own Sl.nil 4 1 (encs ([] : List Bool))) :: (.blk b25 [pv b12 0] 97) :: (.rows (α := Bool) 4 rs14) :: (.own s13 75 1 (encs rs14)) :: (.own s18 3 1 (encs r10.left)) :: (.blk b12 (enc (GraphR.mk r10 s13 s18 s20)) 101) :: (.own Sl.nil 3 1 (encs ([] : List Int))) :: (.own Sl.nil 3 1 (encs ([] : List Int))) :: L) rfl ?_
   refine hds inv (sc1 (sc1 (sc1 (sc1 (sc1 (sk1 (sk1 (sk1 (sk1 (sk1 (sk1 (sk1 (.refl _))))))))))))) ?_
   refine HdJ.o1 3 (fun inv => ?_)
   have g156 := mkLen_some h33
   refine Lst.make (α := Bool) (z0 := false) (k := n32) rfl rfl (by decide) (congrArg some (congrArg (Value.int .i64) g156.1)) (congrArg some (congrArg (Value.int .i64) g156.1)) Try.runUnderlying75 Try.typeInfo4 rfl rfl rfl rfl rfl g156.2 rfl (fun s157 => ?_)
   refine hds inv (sc1 (sc1 (sc1 (sc1 (sc1 (sc1 (sk1 (sk1 (sk1 (sk1 (sk1 (sk1 (sk1 (.refl _)))))))))))))) ?_
   refine HdJ.done (by kernel_rfl) ?_
   refine At.front (i := 2) rfl rfl ?_
   refine At.front (i := 5) rfl rfl ?_
   refine At.front (i := 5) rfl (L' := (.blk b132 (enc Sl.nil) 75) :: (.own Sl.nil 4 1 (encs ([] : List Bool))) :: (.blk b151 (enc s153) 75) :: (.own s157 4 1 (encs (List.replicate n32 false))) :: (.own s153 4 1 (encs (List.replicate n27 false))) :: (.own Sl.nil 4 1 (encs ([] : List Bool))) :: (.blk b25 [pv b12 0] 97) :: (.rows (α := Bool) 4 rs14) :: (.own s13 75 1 (encs rs14)) :: (.own s18 3 1 (encs r10.left)) :: (.blk b12 (enc (GraphR.mk r10 s13 s18 s20)) 101) :: (.own Sl.nil 3 1 (encs ([] : List Int))) :: (.own Sl.nil 3 1 (encs ([] : List Int))) :: L) rfl ?_
   refine At.less (L' := (.blk b132 (enc Sl.nil) 75) :: (.own Sl.nil 4 1 (encs ([] : List Bool))) :: (.blk b151 (enc s153) 75) :: (.own s157 4 1 (encs (List.replicate n32 false))) :: (.own s153 4 1 (encs (List.replicate n27 false))) :: (.blk b25 [pv b12 0] 97) :: (.rows (α := Bool) 4 rs14) :: (.own s13 75 1 (encs rs14)) :: (.own s18 3 1 (encs r10.left)) :: (.blk b12 (enc (GraphR.mk r10 s13 s18 s20)) 101) :: (.own Sl.nil 3 1 (encs ([] : List Int))) :: (.own Sl.nil 3 1 (encs ([] : List Int))) :: L) (sk1 (sk1 (sk1 (sk1 (sk1 (sc1 (sk1 (sk1 (sk1 (sk1 (sk1 (sk1 (sk1 (.refl _)))))))))))))) ?_
   exact At.meetN (b132, Sl.nil, ([] : List Bool), b151, s157, (List.replicate n32 false), s153, (List.replicate n27 false)) fl ⟨rfl, rfl, rfl, rfl, rfl, trivial⟩ rfl h53
  refine HdStep.c (fun inv => ?_) trivial
  have g158 := mkLen_some h33
  refine Lst.make (α := Bool) (z0 := false) (k := n32) rfl rfl (by decide) (congrArg some (congrArg (Value.int .i64) g158.1)) (congrArg some (congrArg (Value.int .i64) g158.1)) Try.runUnderlying75 Try.typeInfo4 rfl rfl rfl rfl rfl g158.2 rfl (fun s159 => ?_)
  refine hds inv (sc1 (sc1 (sc1 (sc1 (sc1 (sk1 (sk1 (sk1 (sk1 (sk1 (sk1 (sk1 (.refl _))))))))))))) ?_
  refine HdJ.o1 1 (fun inv => ?_)
  have g160 := mkLen_some h28
  refine Lst.make (α := Bool) (z0 := false) (k := n27) rfl rfl (by decide) (congrArg some (congrArg (Value.int .i64) g160.1)) (congrArg some (congrArg (Value.int .i64) g160.1)) Try.runUnderlying75 Try.typeInfo4 rfl rfl rfl rfl rfl g160.2 rfl (fun s161 => ?_)
  refine hds inv (sc1 (sc1 (sc1 (sc1 (sc1 (sc1 (sk1 (sk1 (sk1 (sk1 (sk1 (sk1 (sk1 (.refl _)))))))))))))) ?_
  refine HdJ.o1 6 (fun inv => ?_)
  refine Lst.store (i := 2) rfl rfl rfl rfl rfl Try.sizeOf75 (vs := [Sl.v s161]) rfl rfl rfl (cs' := enc s161) (Put.here (vs := [Sl.v s161]) rfl) (L' := (.own s161 4 1 (encs (List.replicate n27 false))) :: (.own s159 4 1 (encs (List.replicate n32 false))) :: (.blk b151 (enc s161) 75) :: (.own Sl.nil 4 1 (encs ([] : List Bool))) :: (.blk b132 (enc Sl.nil) 75) :: (.own Sl.nil 4 1 (encs ([] : List Bool))) :: (.blk b25 [pv b12 0] 97) :: (.rows (α := Bool) 4 rs14) :: (.own s13 75 1 (encs rs14)) :: (.own s18 3 1 (encs r10.left)) :: (.blk b12 (enc (GraphR.mk r10 s13 s18 s20)) 101) :: (.own Sl.nil 3 1 (encs ([] : List Int))) :: (.own Sl.nil 3 1 (encs ([] : List Int))) :: L) rfl ?_
  refine hds inv (sc1 (sc1 (sc1 (sc1 (sc1 (sc1 (sk1 (sk1 (sk1 (sk1 (sk1 (sk1 (sk1 (.refl _)))))))))))))) ?_
  refine HdJ.done (by kernel_rfl) ?_
  refine At.front (i := 1) rfl rfl ?_
  refine At.front (i := 2) rfl rfl ?_
  refine At.front (i := 5) rfl (L' := (.own Sl.nil 4 1 (encs ([] : List Bool))) :: (.blk b151 (enc s161) 75) :: (.own s159 4 1 (encs (List.replicate n32 false))) :: (.own s161 4 1 (encs (List.replicate n27 false))) :: (.own Sl.nil 4 1 (encs ([] : List Bool))) :: (.blk b132 (enc Sl.nil) 75) :: (.blk b25 [pv b12 0] 97) :: (.rows (α := Bool) 4 rs14) :: (.own s13 75 1 (encs rs14)) :: (.own s18 3 1 (encs r10.left)) :: (.blk b12 (enc (GraphR.mk r10 s13 s18 s20)) 101) :: (.own Sl.nil 3 1 (encs ([] : List Int))) :: (.own Sl.nil 3 1 (encs ([] : List Int))) :: L) rfl ?_
  refine At.front (i := 5) rfl (L' := (.blk b132 (enc Sl.nil) 75) :: (.own Sl.nil 4 1 (encs ([] : List Bool))) :: (.blk b151 (enc s161) 75) :: (.own s159 4 1 (encs (List.replicate n32 false))) :: (.own s161 4 1 (encs (List.replicate n27 false))) :: (.own Sl.nil 4 1 (encs ([] : List Bool))) :: (.blk b25 [pv b12 0] 97) :: (.rows (α := Bool) 4 rs14) :: (.own s13 75 1 (encs rs14)) :: (.own s18 3 1 (encs r10.left)) :: (.blk b12 (enc (GraphR.mk r10 s13 s18 s20)) 101) :: (.own Sl.nil 3 1 (encs ([] : List Int))) :: (.own Sl.nil 3 1 (encs ([] : List Int))) :: L) rfl ?_
  refine At.less (L' := (.blk b132 (enc Sl.nil) 75) :: (.own Sl.nil 4 1 (encs ([] : List Bool))) :: (.blk b151 (enc s161) 75) :: (.own s159 4 1 (encs (List.replicate n32 false))) :: (.own s161 4 1 (encs (List.replicate n27 false))) :: (.blk b25 [pv b12 0] 97) :: (.rows (α := Bool) 4 rs14) :: (.own s13 75 1 (encs rs14)) :: (.own s18 3 1 (encs r10.left)) :: (.blk b12 (enc (GraphR.mk r10 s13 s18 s20)) 101) :: (.own Sl.nil 3 1 (encs ([] : List Int))) :: (.own Sl.nil 3 1 (encs ([] : List Int))) :: L) (sk1 (sk1 (sk1 (sk1 (sk1 (sc1 (sk1 (sk1 (sk1 (sk1 (sk1 (sk1 (sk1 (.refl _)))))))))))))) ?_
  exact At.meetN (b132, Sl.nil, ([] : List Bool), b151, s159, (List.replicate n32 false), s161, (List.replicate n27 false)) fl ⟨rfl, rfl, rfl, rfl, rfl, trivial⟩ rfl h53
 rintro F162 ⟨b44, s45, l46, b47, s48, l49, s50, l51⟩ hF163 hy
 subst hy
 try dsimp only at H
 refine Lst.as (e' := [(0, iv a0), (10, pv b25 0), (11, pv b47 0), (12, pv b44 0), (35, Sl.v s48)]) (L' := (.blk b44 (enc s45) 75) :: (.own s45 4 1 (encs l46)) :: (.blk b47 (enc s50) 75) :: (.own s48 4 1 (encs l49)) :: (.own s50 4 1 (encs l51)) :: (.blk b25 [pv b12 0] 97) :: (.rows (α := Bool) 4 rs14) :: (.own s13 75 1 (encs rs14)) :: (.own s18 3 1 (encs r10.left)) :: (.blk b12 (enc (GraphR.mk r10 s13 s18 s20)) 101) :: (.own Sl.nil 3 1 (encs ([] : List Int))) :: (.own Sl.nil 3 1 (encs ([] : List Int))) :: L) ⟨rfl, rfl, rfl, rfl, rfl, trivial⟩ rfl ?_
 refine Lst.store (i := 0) rfl rfl rfl rfl rfl Try.sizeOf75 (vs := [Sl.v s48]) rfl rfl rfl (cs' := enc s48) (Put.here (vs := [Sl.v s48]) rfl) (L' := (.blk b44 (enc s48) 75) :: (.own s45 4 1 (encs l46)) :: (.blk b47 (enc s50) 75) :: (.own s48 4 1 (encs l49)) :: (.own s50 4 1 (encs l51)) :: (.blk b25 [pv b12 0] 97) :: (.rows (α := Bool) 4 rs14) :: (.own s13 75 1 (encs rs14)) :: (.own s18 3 1 (encs r10.left)) :: (.blk b12 (enc (GraphR.mk r10 s13 s18 s20)) 101) :: (.own Sl.nil 3 1 (encs ([] : List Int))) :: (.own Sl.nil 3 1 (encs ([] : List Int))) :: L) rfl ?_
 refine nsr ?_
 refine Lst.alloc (cs := [.nilFunc]) rfl rfl (by decide) Try.zeroValue102 rfl (fun b164 => ?_)
 refine nsr ?_
 refine Lst.r (Ev.makeFunc (us := []) (vs := [pv b47 0, pv b25 0, pv b44 0, pv b164 0]) trivial ⟨rfl, rfl, rfl, rfl, trivial⟩) ?_
 refine Lst.store (i := 0) rfl rfl rfl rfl rfl Try.sizeOf102 (vs := [.func (.func 61) #[] #[pv b47 0, pv b25 0, pv b44 0, pv b164 0]]) rfl rfl rfl (cs' := [.func (.func 61) #[] #[pv b47 0, pv b25 0, pv b44 0, pv b164 0]]) (Put.here (vs := [.func (.func 61) #[] #[pv b47 0, pv b25 0, pv b44 0, pv b164 0]]) rfl) (L' := (.blk b164 [.func (.func 61) #[] #[pv b47 0, pv b25 0, pv b44 0, pv b164 0]] 102) :: (.blk b44 (enc s48) 75) :: (.own s45 4 1 (encs l46)) :: (.blk b47 (enc s50) 75) :: (.own s48 4 1 (encs l49)) :: (.own s50 4 1 (encs l51)) :: (.blk b25 [pv b12 0] 97) :: (.rows (α := Bool) 4 rs14) :: (.own s13 75 1 (encs rs14)) :: (.own s18 3 1 (encs r10.left)) :: (.blk b12 (enc (GraphR.mk r10 s13 s18 s20)) 101) :: (.own Sl.nil 3 1 (encs ([] : List Int))) :: (.own Sl.nil 3 1 (encs ([] : List Int))) :: L) rfl ?_
 refine nt0 ?_
 refine Cd.seq ?_
 refine sr0 ?_
 refine mv0 rfl ?_
 refine mv0 rfl ?_
 refine nt0 ?_
 refine Cd.block ?_
 obtain ⟨nn171, hN213, H⟩ := bind_some H
 replace hN213 := upTo_some hN213
 obtain ⟨ol166, H, HKl166⟩ := bind_some H
 refine Cd.loop (σ := Nat × Nat × (List Bool) × (List Bool)) (fun (i166, k166, l167, l168) => [(10, pv b25 0), (11, pv b47 0), (12, pv b44 0), (13, pv b164 0), (37, iv a0), (38, iv (i166 : Int))]) (fun (i166, k166, l167, l168) => (.blk b164 [.func (.func 61) #[] #[pv b47 0, pv b25 0, pv b44 0, pv b164 0]] 102) :: (.blk b44 (enc s48) 75) :: (.own s45 4 1 (encs l46)) :: (.blk b47 (enc s50) 75) :: (.own s48 4 1 (encs l167)) :: (.own s50 4 1 (encs l168)) :: (.blk b25 [pv b12 0] 97) :: (.rows (α := Bool) 4 rs14) :: (.own s13 75 1 (encs rs14)) :: (.own s18 3 1 (encs r10.left)) :: (.blk b12 (enc (GraphR.mk r10 s13 s18 s20)) 101) :: (.own Sl.nil 3 1 (encs ([] : List Int))) :: (.own Sl.nil 3 1 (encs ([] : List Int))) :: L) (fun _ => (fun (i166, k166, l167, l168) => rangeF (match_Cover_B0 fu r10) k166 i166 (l167, l168) = some ol166 ∧ i166 + k166 = nn171)) (fun (i166, k166, l167, l168) => k166) (0, nn171, l49, l51) ⟨rfl, rfl, rfl, rfl, rfl, rfl, trivial⟩ rfl ⟨H, by omega⟩ ?_
 rintro F169 ⟨i166, k166, l167, l168⟩ hF170 ⟨H, hik166⟩
 refine Cd.as (e' := [(10, pv b25 0), (11, pv b47 0), (12, pv b44 0), (13, pv b164 0), (37, iv a0), (38, iv (i166 : Int))]) (L' := (.blk b164 [.func (.func 61) #[] #[pv b47 0, pv b25 0, pv b44 0, pv b164 0]] 102) :: (.blk b44 (enc s48) 75) :: (.own s45 4 1 (encs l46)) :: (.blk b47 (enc s50) 75) :: (.own s48 4 1 (encs l167)) :: (.own s50 4 1 (encs l168)) :: (.blk b25 [pv b12 0] 97) :: (.rows (α := Bool) 4 rs14) :: (.own s13 75 1 (encs rs14)) :: (.own s18 3 1 (encs r10.left)) :: (.blk b12 (enc (GraphR.mk r10 s13 s18 s20)) 101) :: (.own Sl.nil 3 1 (encs ([] : List Int))) :: (.own Sl.nil 3 1 (encs ([] : List Int))) :: L) ⟨rfl, rfl, rfl, rfl, rfl, rfl, trivial⟩ rfl ?_
 rcases k166 with _ | k166
 ·have hc166 : decide ((i166 : Int) < a0) = false := decide_eq_false (by omega)
  replace H := rangeF_end H
  refine sr0 ?_
  refine Lst.r (Ev.lss rfl rfl) ?_
  refine nt0 ?_
  refine Cd.seq ?_
  refine Cd.condF rfl hc166 ?_
  refine Cd.exit ?_
  refine At.then_exit ?_
  refine At.then_exit ?_
  refine At.in_exit ?_
  subst H
  replace H := HKl166
  try dsimp only [Sum.elim_inl] at H
  refine At.then ?_
  refine sr0 ?_
  refine Lst.addNil 3 1 ?_
  refine Lst.r (Ev.assign rfl) ?_
  refine Lst.addNil 3 1 ?_
  refine Lst.r (Ev.assign rfl) ?_
  refine nt0 ?_
  refine Cd.seq ?_
  refine sr0 ?_
  refine Lst.r (Ev.load (i := 5) rfl rfl Try.isAgg75 (v := Sl.v s50) gh0) ?_
  refine Lst.r (Ev.lenS (α := Bool) (xs := l168) (by decide) rfl rfl Try.runUnderlying75 (rdo 7 rfl rfl rfl)) ?_
  refine mv0 rfl ?_
  refine nt0 ?_
  refine Cd.block ?_
  refine Cd.bound (Rd.le (α := Bool) (xs := l168) (by decide) (rdo 7 rfl rfl rfl)) (fun hN212 => ?_)
  obtain ⟨ol183, H, HKl183⟩ := bind_some H
  refine Cd.loop (σ := Nat × Nat × Sl × (List Int)) (fun (i183, k183, s184, l185) => [(12, pv b44 0), (15, Sl.v s184), (16, Sl.v Sl.nil), (52, Sl.v s50), (53, iv (l168.length : Int)), (54, iv (i183 : Int))]) (fun (i183, k183, s184, l185) => (.own Sl.nil 3 1 (encs ([] : List Int))) :: (.own s184 3 1 (encs l185)) :: (.blk b164 [.func (.func 61) #[] #[pv b47 0, pv b25 0, pv b44 0, pv b164 0]] 102) :: (.blk b44 (enc s48) 75) :: (.own s45 4 1 (encs l46)) :: (.blk b47 (enc s50) 75) :: (.own s48 4 1 (encs l167)) :: (.own s50 4 1 (encs l168)) :: (.blk b25 [pv b12 0] 97) :: (.rows (α := Bool) 4 rs14) :: (.own s13 75 1 (encs rs14)) :: (.own s18 3 1 (encs r10.left)) :: (.blk b12 (enc (GraphR.mk r10 s13 s18 s20)) 101) :: (.own Sl.nil 3 1 (encs ([] : List Int))) :: (.own Sl.nil 3 1 (encs ([] : List Int))) :: L) (fun _ => (fun (i183, k183, s184, l185) => rangeF (match_Cover_B2 l168) k183 i183 l185 = some ol183 ∧ i183 + k183 = l168.length)) (fun (i183, k183, s184, l185) => k183) (0, l168.length, Sl.nil, ([] : List Int)) ⟨rfl, rfl, rfl, rfl, rfl, rfl, trivial⟩ rfl ⟨H, by omega⟩ ?_
  rintro F186 ⟨i183, k183, s184, l185⟩ hF187 ⟨H, hik183⟩
  refine Cd.as (e' := [(12, pv b44 0), (15, Sl.v s184), (16, Sl.v Sl.nil), (52, Sl.v s50), (53, iv (l168.length : Int)), (54, iv (i183 : Int))]) (L' := (.own Sl.nil 3 1 (encs ([] : List Int))) :: (.own s184 3 1 (encs l185)) :: (.blk b164 [.func (.func 61) #[] #[pv b47 0, pv b25 0, pv b44 0, pv b164 0]] 102) :: (.blk b44 (enc s48) 75) :: (.own s45 4 1 (encs l46)) :: (.blk b47 (enc s50) 75) :: (.own s48 4 1 (encs l167)) :: (.own s50 4 1 (encs l168)) :: (.blk b25 [pv b12 0] 97) :: (.rows (α := Bool) 4 rs14) :: (.own s13 75 1 (encs rs14)) :: (.own s18 3 1 (encs r10.left)) :: (.blk b12 (enc (GraphR.mk r10 s13 s18 s20)) 101) :: (.own Sl.nil 3 1 (encs ([] : List Int))) :: (.own Sl.nil 3 1 (encs ([] : List Int))) :: L) ⟨rfl, rfl, rfl, rfl, rfl, rfl, trivial⟩ rfl ?_
  rcases k183 with _ | k183
  ·have hc183 : decide ((i183 : Int) < (l168.length : Int)) = false := decide_eq_false (by omega)
   replace H := rangeF_end H
   refine sr0 ?_
   refine Lst.r (Ev.lss rfl rfl) ?_
   refine nt0 ?_
   refine Cd.seq ?_
   refine Cd.condF rfl hc183 ?_
   refine Cd.exit ?_
   refine At.then_exit ?_
   refine At.then_exit ?_
   refine At.in_exit ?_
   subst H
   replace H := HKl183
   refine At.then ?_
   refine Cd.seq ?_
   refine sr0 ?_
   refine Lst.r (Ev.load (i := 3) rfl rfl Try.isAgg75 (v := Sl.v s48) gh0) ?_
   refine Lst.r (Ev.lenS (α := Bool) (xs := l167) (by decide) rfl rfl Try.runUnderlying75 (rdo 6 rfl rfl rfl)) ?_
   refine mv0 rfl ?_
   refine nt0 ?_
   refine Cd.block ?_
   refine Cd.bound (Rd.le (α := Bool) (xs := l167) (by decide) (rdo 6 rfl rfl rfl)) (fun hN211 => ?_)
   obtain ⟨ol197, H, HKl197⟩ := bind_some H
   refine Cd.loop (σ := Nat × Nat × Sl × (List Int)) (fun (i197, k197, s198, l199) => [(15, Sl.v s184), (16, Sl.v s198), (66, Sl.v s48), (67, iv (l167.length : Int)), (68, iv (i197 : Int))]) (fun (i197, k197, s198, l199) => (.own s198 3 1 (encs l199)) :: (.own s184 3 1 (encs l185)) :: (.blk b164 [.func (.func 61) #[] #[pv b47 0, pv b25 0, pv b44 0, pv b164 0]] 102) :: (.blk b44 (enc s48) 75) :: (.own s45 4 1 (encs l46)) :: (.blk b47 (enc s50) 75) :: (.own s48 4 1 (encs l167)) :: (.own s50 4 1 (encs l168)) :: (.blk b25 [pv b12 0] 97) :: (.rows (α := Bool) 4 rs14) :: (.own s13 75 1 (encs rs14)) :: (.own s18 3 1 (encs r10.left)) :: (.blk b12 (enc (GraphR.mk r10 s13 s18 s20)) 101) :: (.own Sl.nil 3 1 (encs ([] : List Int))) :: (.own Sl.nil 3 1 (encs ([] : List Int))) :: L) (fun _ => (fun (i197, k197, s198, l199) => rangeF (match_Cover_B4 l167) k197 i197 l199 = some ol197 ∧ i197 + k197 = l167.length)) (fun (i197, k197, s198, l199) => k197) (0, l167.length, Sl.nil, ([] : List Int)) ⟨rfl, rfl, rfl, rfl, rfl, trivial⟩ rfl ⟨H, by omega⟩ ?_
   rintro F200 ⟨i197, k197, s198, l199⟩ hF201 ⟨H, hik197⟩
   refine Cd.as (e' := [(15, Sl.v s184), (16, Sl.v s198), (66, Sl.v s48), (67, iv (l167.length : Int)), (68, iv (i197 : Int))]) (L' := (.own s198 3 1 (encs l199)) :: (.own s184 3 1 (encs l185)) :: (.blk b164 [.func (.func 61) #[] #[pv b47 0, pv b25 0, pv b44 0, pv b164 0]] 102) :: (.blk b44 (enc s48) 75) :: (.own s45 4 1 (encs l46)) :: (.blk b47 (enc s50) 75) :: (.own s48 4 1 (encs l167)) :: (.own s50 4 1 (encs l168)) :: (.blk b25 [pv b12 0] 97) :: (.rows (α := Bool) 4 rs14) :: (.own s13 75 1 (encs rs14)) :: (.own s18 3 1 (encs r10.left)) :: (.blk b12 (enc (GraphR.mk r10 s13 s18 s20)) 101) :: (.own Sl.nil 3 1 (encs ([] : List Int))) :: (.own Sl.nil 3 1 (encs ([] : List Int))) :: L) ⟨rfl, rfl, rfl, rfl, rfl, trivial⟩ rfl ?_
   rcases k197 with _ | k197
   ·have hc197 : decide ((i197 : Int) < (l167.length : Int)) = false := decide_eq_false (by omega)
    replace H := rangeF_end H
    refine sr0 ?_
    refine Lst.r (Ev.lss rfl rfl) ?_
    refine nt0 ?_
    refine Cd.seq ?_
    refine Cd.condF rfl hc197 ?_
    refine Cd.exit ?_
    refine At.then_exit ?_
    refine At.then_exit ?_
    refine At.in_exit ?_
    subst H
    replace H := HKl197
    refine At.then ?_
    refine sr0 ?_
    refine mv0 rfl ?_
    refine mv0 rfl ?_
    refine Lst.r (Ev.assign rfl) ?_
    refine Lst.r (Ev.assign rfl) ?_
    refine Lst.r (Ev.assign rfl) ?_
    refine nt0 ?_
    obtain rfl := some_inj H
    refine Cd.ret ?_
    refine At.front (i := 1) rfl (L' := (.own s184 3 1 (encs l185)) :: (.own s198 3 1 (encs l199)) :: (.blk b164 [.func (.func 61) #[] #[pv b47 0, pv b25 0, pv b44 0, pv b164 0]] 102) :: (.blk b44 (enc s48) 75) :: (.own s45 4 1 (encs l46)) :: (.blk b47 (enc s50) 75) :: (.own s48 4 1 (encs l167)) :: (.own s50 4 1 (encs l168)) :: (.blk b25 [pv b12 0] 97) :: (.rows (α := Bool) 4 rs14) :: (.own s13 75 1 (encs rs14)) :: (.own s18 3 1 (encs r10.left)) :: (.blk b12 (enc (GraphR.mk r10 s13 s18 s20)) 101) :: (.own Sl.nil 3 1 (encs ([] : List Int))) :: (.own Sl.nil 3 1 (encs ([] : List Int))) :: L) rfl ?_
    exact At.ret3 rfl (Res.tmp rfl) (Res.tmp rfl) (Res.tmp rfl) (FLe.trans (FLe.trans (FLe.trans (FLe.trans hF24 hF163) hF170) hF187) hF201) (sk1 (sk1 (sc1 (sc1 (sc1 (sc1 (sc1 (sc1 (sc1 (sc1 (sc1 (sc1 (sc1 (sc1 (sc1 (.refl _)))))))))))))))) ⟨s184, s198, rfl, rfl⟩
   have hc197 : decide ((i197 : Int) < (l167.length : Int)) = true := decide_eq_true (by omega)
   obtain ⟨c197, H, hgo197⟩ := rangeF_go H
   unfold match_Cover_B4 at H
   try dsimp only at H
   refine sr0 ?_
   refine Lst.r (Ev.lss rfl rfl) ?_
   refine nt0 ?_
   refine Cd.seq ?_
   refine Cd.condT rfl hc197 ?_
   refine Cd.skip ?_
   refine At.then ?_
   refine Cd.seq ?_
   refine Cd.block ?_
   refine sr0 ?_
   refine mv0 rfl ?_
   obtain ⟨x202, h203, H⟩ := bind_some H
   have g204 := lat_some h203
   refine Lst.r (Ev.indexS (α := Bool) (xs := l167) rfl rfl Try.runUnderlying75 Try.sizeOf4 rfl (by decide) (rdo 6 rfl rfl rfl) g204.1 g204.2.1) ?_
   refine Lst.r (Ev.loadS (α := Bool) rfl (rdo 6 rfl rfl rfl) Try.isAgg4 (v := .bool x202) ((Get.elemN (s := 1) (x := x202) rfl g204.2.2 gh0).off (by omega))) ?_
   refine Lst.r (Ev.assign rfl) ?_
   refine Lst.r (Ev.assign rfl) ?_
   refine nsr ?_
   refine mv0 rfl ?_
   refine nt0 ?_
   rcases (Bool.eq_false_or_eq_true x202).symm with hb205 | hb205
   ·replace H := ite_f hb205 H
    refine Cd.condF rfl hb205 ?_
    refine Cd.skip ?_
    refine At.in_normal ?_
    refine At.then ?_
    refine Cd.region ?_
    refine Lst.r (Ev.incr (by omega) rfl rfl) ?_
    refine mv0 rfl ?_
    refine Lst.nil ?_
    exact At.meet (i197 + 1, k197, s198, l199) hF201 ⟨rfl, rfl, rfl, rfl, rfl, trivial⟩ rfl ⟨⟨hgo197 _ (some_inj H).symm, by omega⟩, Nat.lt_succ_self _⟩
   replace H := ite_t hb205 H
   refine Cd.condT rfl hb205 ?_
   refine Cd.region ?_
   refine mv0 rfl ?_
   refine mv0 rfl ?_
   refine Lst.buildSlice (α := Int) (xs := ([(i197 : Int)] : List Int)) (pv := [(0, iv (i197 : Int))]) rfl rfl (by decide) ⟨rfl, rfl, trivial⟩ (run_buildSlice (α := Int) (z0 := (0 : Int)) (xs := ([(i197 : Int)] : List Int)) Try.runUnderlying34 Try.sizeOf3 Try.zeroValue3 rfl rfl rfl (by decide) rfl (fill_cons (cs := encs (List.replicate 1 (0 : Int))) (cs' := encs ((List.replicate 1 (0 : Int)).set 0 (i197 : Int))) (vs := [iv (i197 : Int)]) rfl rfl rfl ((Put.elemN (s := 1) (i := 0) (x := (0 : Int)) (y := (i197 : Int)) rfl rfl (Put.here (vs := [iv (i197 : Int)]) rfl)).off rfl) fill_nil)) rfl rfl (by decide) (fun s206 _ => ?_)
   obtain ⟨u208, h209, H⟩ := bind_some H
   refine Lst.append (i := 1) (α := Int) (xs := l199) (ys := ([(i197 : Int)] : List Int)) rfl rfl (by decide) rfl rfl Try.runUnderlying34 Try.typeInfo3 rfl rfl rfl rfl rfl rfl (rdo 0 rfl rfl rfl) rfl (room_some h209) rfl (fun s210 => ?_)
   refine Lst.its (L' := (.own s206 3 1 (encs ([(i197 : Int)] : List Int))) :: (.own s210 3 1 (encs (l199 ++ ([(i197 : Int)] : List Int)))) :: (.own s184 3 1 (encs l185)) :: (.blk b164 [.func (.func 61) #[] #[pv b47 0, pv b25 0, pv b44 0, pv b164 0]] 102) :: (.blk b44 (enc s48) 75) :: (.own s45 4 1 (encs l46)) :: (.blk b47 (enc s50) 75) :: (.own s48 4 1 (encs l167)) :: (.own s50 4 1 (encs l168)) :: (.blk b25 [pv b12 0] 97) :: (.rows (α := Bool) 4 rs14) :: (.own s13 75 1 (encs rs14)) :: (.own s18 3 1 (encs r10.left)) :: (.blk b12 (enc (GraphR.mk r10 s13 s18 s20)) 101) :: (.own Sl.nil 3 1 (encs ([] : List Int))) :: (.own Sl.nil 3 1 (encs ([] : List Int))) :: L) rfl ?_
   refine Lst.r (Ev.assign rfl) ?_
   refine Lst.nil ?_
   refine At.in_normal ?_
   refine At.then ?_
   refine Cd.region ?_
   refine Lst.r (Ev.incr (by omega) rfl rfl) ?_
   refine mv0 rfl ?_
   refine Lst.nil ?_
   refine At.less (L' := (.own s210 3 1 (encs (l199 ++ ([(i197 : Int)] : List Int)))) :: (.own s184 3 1 (encs l185)) :: (.blk b164 [.func (.func 61) #[] #[pv b47 0, pv b25 0, pv b44 0, pv b164 0]] 102) :: (.blk b44 (enc s48) 75) :: (.own s45 4 1 (encs l46)) :: (.blk b47 (enc s50) 75) :: (.own s48 4 1 (encs l167)) :: (.own s50 4 1 (encs l168)) :: (.blk b25 [pv b12 0] 97) :: (.rows (α := Bool) 4 rs14) :: (.own s13 75 1 (encs rs14)) :: (.own s18 3 1 (encs r10.left)) :: (.blk b12 (enc (GraphR.mk r10 s13 s18 s20)) 101) :: (.own Sl.nil 3 1 (encs ([] : List Int))) :: (.own Sl.nil 3 1 (encs ([] : List Int))) :: L) (sc1 (sk1 (sk1 (sk1 (sk1 (sk1 (sk1 (sk1 (sk1 (sk1 (sk1 (sk1 (sk1 (sk1 (sk1 (sk1 (.refl _))))))))))))))))) ?_
   exact At.meet (i197 + 1, k197, s210, l199 ++ ([(i197 : Int)] : List Int)) hF201 ⟨rfl, rfl, rfl, rfl, rfl, trivial⟩ rfl ⟨⟨hgo197 _ (some_inj H).symm, by omega⟩, Nat.lt_succ_self _⟩
  have hc183 : decide ((i183 : Int) < (l168.length : Int)) = true := decide_eq_true (by omega)
  obtain ⟨c183, H, hgo183⟩ := rangeF_go H
  unfold match_Cover_B2 at H
  try dsimp only at H
  refine sr0 ?_
  refine Lst.r (Ev.lss rfl rfl) ?_
  refine nt0 ?_
  refine Cd.seq ?_
  refine Cd.condT rfl hc183 ?_
  refine Cd.skip ?_
  refine At.then ?_
  refine Cd.seq ?_
  refine Cd.block ?_
  refine sr0 ?_
  refine mv0 rfl ?_
  obtain ⟨x188, h189, H⟩ := bind_some H
  have g190 := lat_some h189
  refine Lst.r (Ev.indexS (α := Bool) (xs := l168) rfl rfl Try.runUnderlying75 Try.sizeOf4 rfl (by decide) (rdo 7 rfl rfl rfl) g190.1 g190.2.1) ?_
  refine Lst.r (Ev.loadS (α := Bool) rfl (rdo 7 rfl rfl rfl) Try.isAgg4 (v := .bool x188) ((Get.elemN (s := 1) (x := x188) rfl g190.2.2 gh0).off (by omega))) ?_
  refine Lst.r (Ev.assign rfl) ?_
  refine Lst.r (Ev.assign rfl) ?_
  refine nsr ?_
  refine mv0 rfl ?_
  refine Lst.r (Ev.not rfl) ?_
  refine nt0 ?_
  rcases (Bool.eq_false_or_eq_true (!x188)).symm with hb191 | hb191
  ·replace H := ite_f hb191 H
   refine Cd.condF rfl hb191 ?_
   refine Cd.skip ?_
   refine At.in_normal ?_
   refine At.then ?_
   refine Cd.region ?_
   refine Lst.r (Ev.incr (by omega) rfl rfl) ?_
   refine mv0 rfl ?_
   refine Lst.nil ?_
   exact At.meet (i183 + 1, k183, s184, l185) hF187 ⟨rfl, rfl, rfl, rfl, rfl, rfl, trivial⟩ rfl ⟨⟨hgo183 _ (some_inj H).symm, by omega⟩, Nat.lt_succ_self _⟩
  replace H := ite_t hb191 H
  refine Cd.condT rfl hb191 ?_
  refine Cd.region ?_
  refine mv0 rfl ?_
  refine mv0 rfl ?_
  refine Lst.buildSlice (α := Int) (xs := ([(i183 : Int)] : List Int)) (pv := [(0, iv (i183 : Int))]) rfl rfl (by decide) ⟨rfl, rfl, trivial⟩ (run_buildSlice (α := Int) (z0 := (0 : Int)) (xs := ([(i183 : Int)] : List Int)) Try.runUnderlying34 Try.sizeOf3 Try.zeroValue3 rfl rfl rfl (by decide) rfl (fill_cons (cs := encs (List.replicate 1 (0 : Int))) (cs' := encs ((List.replicate 1 (0 : Int)).set 0 (i183 : Int))) (vs := [iv (i183 : Int)]) rfl rfl rfl ((Put.elemN (s := 1) (i := 0) (x := (0 : Int)) (y := (i183 : Int)) rfl rfl (Put.here (vs := [iv (i183 : Int)]) rfl)).off rfl) fill_nil)) rfl rfl (by decide) (fun s192 _ => ?_)
  obtain ⟨u194, h195, H⟩ := bind_some H
  refine Lst.append (i := 2) (α := Int) (xs := l185) (ys := ([(i183 : Int)] : List Int)) rfl rfl (by decide) rfl rfl Try.runUnderlying34 Try.typeInfo3 rfl rfl rfl rfl rfl rfl (rdo 0 rfl rfl rfl) rfl (room_some h195) rfl (fun s196 => ?_)
  refine Lst.its (L' := (.own s192 3 1 (encs ([(i183 : Int)] : List Int))) :: (.own Sl.nil 3 1 (encs ([] : List Int))) :: (.own s196 3 1 (encs (l185 ++ ([(i183 : Int)] : List Int)))) :: (.blk b164 [.func (.func 61) #[] #[pv b47 0, pv b25 0, pv b44 0, pv b164 0]] 102) :: (.blk b44 (enc s48) 75) :: (.own s45 4 1 (encs l46)) :: (.blk b47 (enc s50) 75) :: (.own s48 4 1 (encs l167)) :: (.own s50 4 1 (encs l168)) :: (.blk b25 [pv b12 0] 97) :: (.rows (α := Bool) 4 rs14) :: (.own s13 75 1 (encs rs14)) :: (.own s18 3 1 (encs r10.left)) :: (.blk b12 (enc (GraphR.mk r10 s13 s18 s20)) 101) :: (.own Sl.nil 3 1 (encs ([] : List Int))) :: (.own Sl.nil 3 1 (encs ([] : List Int))) :: L) rfl ?_
  refine Lst.r (Ev.assign rfl) ?_
  refine Lst.nil ?_
  refine At.in_normal ?_
  refine At.then ?_
  refine Cd.region ?_
  refine Lst.r (Ev.incr (by omega) rfl rfl) ?_
  refine mv0 rfl ?_
  refine Lst.nil ?_
  refine At.less (L' := (.own Sl.nil 3 1 (encs ([] : List Int))) :: (.own s196 3 1 (encs (l185 ++ ([(i183 : Int)] : List Int)))) :: (.blk b164 [.func (.func 61) #[] #[pv b47 0, pv b25 0, pv b44 0, pv b164 0]] 102) :: (.blk b44 (enc s48) 75) :: (.own s45 4 1 (encs l46)) :: (.blk b47 (enc s50) 75) :: (.own s48 4 1 (encs l167)) :: (.own s50 4 1 (encs l168)) :: (.blk b25 [pv b12 0] 97) :: (.rows (α := Bool) 4 rs14) :: (.own s13 75 1 (encs rs14)) :: (.own s18 3 1 (encs r10.left)) :: (.blk b12 (enc (GraphR.mk r10 s13 s18 s20)) 101) :: (.own Sl.nil 3 1 (encs ([] : List Int))) :: (.own Sl.nil 3 1 (encs ([] : List Int))) :: L) (sc1 (sk1 (sk1 (sk1 (sk1 (sk1 (sk1 (sk1 (sk1 (sk1 (sk1 (sk1 (sk1 (sk1 (sk1 (sk1 (.refl _))))))))))))))))) ?_
  exact At.meet (i183 + 1, k183, s196, l185 ++ ([(i183 : Int)] : List Int)) hF187 ⟨rfl, rfl, rfl, rfl, rfl, rfl, trivial⟩ rfl ⟨⟨hgo183 _ (some_inj H).symm, by omega⟩, Nat.lt_succ_self _⟩
 have hc166 : decide ((i166 : Int) < a0) = true := decide_eq_true (by omega)
 obtain ⟨c166, H, hgo166⟩ := rangeF_go H
 unfold match_Cover_B0 at H
 try dsimp only at H
 refine sr0 ?_
 refine Lst.r (Ev.lss rfl rfl) ?_
 refine nt0 ?_
 refine Cd.seq ?_
 refine Cd.condT rfl hc166 ?_
 refine Cd.skip ?_
 refine At.then ?_
 refine Cd.seq ?_
 refine Cd.block ?_
 refine sr0 ?_
 refine mv0 rfl ?_
 refine Lst.r (Ev.assign rfl) ?_
 refine nsr ?_
 refine Lst.r (Ev.load (i := 6) rfl rfl Try.isAgg97 (v := pv b12 0) gh0) ?_
 refine Lst.r (Ev.nilCheck rfl) ?_
 refine Lst.r (Ev.fieldAddr (off' := 1) rfl Try.runUnderlying101 rfl Try.sizeOf34 rfl rfl) ?_
 refine Lst.r (Ev.load (i := 10) rfl rfl Try.isAgg34 (v := Sl.v s18) ((GraphR.get_left gh0).off (by rfl))) ?_
 refine mv0 rfl ?_
 obtain ⟨r172, h173, H⟩ := bind_some H
 refine Lst.call1 rfl rfl (by decide) (vs := [Sl.v s18, iv (i166 : Int)]) ⟨rfl, rfl, trivial⟩ Try.call57 (slices_Contains_int_int_sim h173 w0 _ _ _ (.refl _) (rdo 9 rfl rfl rfl)) ?_
 refine Lst.r (Ev.not rfl) ?_
 refine nt0 ?_
 rcases (Bool.eq_false_or_eq_true (!r172)).symm with hb176 | hb176
 ·replace H := ite_f hb176 H
  refine Cd.condF rfl hb176 ?_
  refine Cd.skip ?_
  refine At.in_normal ?_
  refine At.then ?_
  refine Cd.region ?_
  refine Lst.r (Ev.incr (by omega) rfl rfl) ?_
  refine mv0 rfl ?_
  refine Lst.nil ?_
  exact At.meet (i166 + 1, k166, l167, l168) hF170 ⟨rfl, rfl, rfl, rfl, rfl, rfl, trivial⟩ rfl ⟨⟨hgo166 _ (some_inj H).symm, by omega⟩, Nat.lt_succ_self _⟩
 replace H := ite_t hb176 H
 refine Cd.condT rfl hb176 ?_
 refine Cd.region ?_
 refine Lst.r (Ev.load (i := 0) rfl rfl Try.isAgg102 (v := .func (.func 61) #[] #[pv b47 0, pv b25 0, pv b44 0, pv b164 0]) gh0) ?_
 refine mv0 rfl ?_
 obtain ⟨r177, h178, H⟩ := bind_some H
 refine Lst.front (i := 1) rfl rfl ?_
 refine Lst.front (i := 4) rfl rfl ?_
 refine Lst.front (i := 6) rfl (L' := (.blk b25 [pv b12 0] 97) :: (.own s48 4 1 (encs l167)) :: (.blk b44 (enc s48) 75) :: (.blk b164 [.func (.func 61) #[] #[pv b47 0, pv b25 0, pv b44 0, pv b164 0]] 102) :: (.own s45 4 1 (encs l46)) :: (.blk b47 (enc s50) 75) :: (.own s50 4 1 (encs l168)) :: (.rows (α := Bool) 4 rs14) :: (.own s13 75 1 (encs rs14)) :: (.own s18 3 1 (encs r10.left)) :: (.blk b12 (enc (GraphR.mk r10 s13 s18 s20)) 101) :: (.own Sl.nil 3 1 (encs ([] : List Int))) :: (.own Sl.nil 3 1 (encs ([] : List Int))) :: L) rfl ?_
 refine Lst.front (i := 10) rfl rfl ?_
 refine Lst.front (i := 6) rfl rfl ?_
 refine Lst.front (i := 7) rfl (L' := (.own s50 4 1 (encs l168)) :: (.blk b47 (enc s50) 75) :: (.blk b12 (enc (GraphR.mk r10 s13 s18 s20)) 101) :: (.blk b25 [pv b12 0] 97) :: (.own s48 4 1 (encs l167)) :: (.blk b44 (enc s48) 75) :: (.blk b164 [.func (.func 61) #[] #[pv b47 0, pv b25 0, pv b44 0, pv b164 0]] 102) :: (.own s45 4 1 (encs l46)) :: (.rows (α := Bool) 4 rs14) :: (.own s13 75 1 (encs rs14)) :: (.own s18 3 1 (encs r10.left)) :: (.own Sl.nil 3 1 (encs ([] : List Int))) :: (.own Sl.nil 3 1 (encs ([] : List Int))) :: L) rfl ?_
 refine Lst.callV rfl rfl (by decide) (vs := [iv (i166 : Int)]) (cs := [pv b47 0, pv b25 0, pv b44 0, pv b164 0]) rfl ⟨rfl, trivial⟩ Try.call61 (match_Cover_1_sim h178 w0 _ _ _ (.refl _) fm15 (rdo 2 rfl rfl rfl) (All.rowsHead (j := 1) rfl) (rdo 3 rfl rfl rfl) (f21.mono (FLe.trans hF163 hF170) (sc4 (sc2 hM)))) (fun F179 L' v hF180 hv => ?_)
 obtain ⟨rfl, rfl⟩ := hv
 refine Lst.nil ?_
 refine At.in_normal ?_
 refine At.then ?_
 refine Cd.region ?_
 refine Lst.r (Ev.incr (by omega) rfl rfl) ?_
 refine mv0 rfl ?_
 refine Lst.nil ?_
 refine At.front (i := 10) rfl rfl ?_
 refine At.front (i := 10) rfl rfl ?_
 refine At.front (i := 10) rfl (L' := (.rows (α := Bool) 4 rs14) :: (.own s13 75 1 (encs rs14)) :: (.own s18 3 1 (encs r10.left)) :: (.own s50 4 1 (encs r177.1)) :: (.blk b47 (enc s50) 75) :: (.blk b12 (enc (GraphR.mk r10 s13 s18 s20)) 101) :: (.blk b25 [pv b12 0] 97) :: (.own s48 4 1 (encs r177.2)) :: (.blk b44 (enc s48) 75) :: (.blk b164 [.func (.func 61) #[] #[pv b47 0, pv b25 0, pv b44 0, pv b164 0]] 102) :: (.own s45 4 1 (encs l46)) :: (.own Sl.nil 3 1 (encs ([] : List Int))) :: (.own Sl.nil 3 1 (encs ([] : List Int))) :: L) rfl ?_
 refine At.front (i := 6) rfl rfl ?_
 refine At.front (i := 4) rfl rfl ?_
 refine At.front (i := 7) rfl (L' := (.own s48 4 1 (encs r177.2)) :: (.own s50 4 1 (encs r177.1)) :: (.blk b25 [pv b12 0] 97) :: (.rows (α := Bool) 4 rs14) :: (.own s13 75 1 (encs rs14)) :: (.own s18 3 1 (encs r10.left)) :: (.blk b47 (enc s50) 75) :: (.blk b12 (enc (GraphR.mk r10 s13 s18 s20)) 101) :: (.blk b44 (enc s48) 75) :: (.blk b164 [.func (.func 61) #[] #[pv b47 0, pv b25 0, pv b44 0, pv b164 0]] 102) :: (.own s45 4 1 (encs l46)) :: (.own Sl.nil 3 1 (encs ([] : List Int))) :: (.own Sl.nil 3 1 (encs ([] : List Int))) :: L) rfl ?_
 refine At.front (i := 6) rfl rfl ?_
 refine At.front (i := 10) rfl rfl ?_
 refine At.front (i := 9) rfl (L' := (.blk b44 (enc s48) 75) :: (.own s45 4 1 (encs l46)) :: (.blk b47 (enc s50) 75) :: (.own s48 4 1 (encs r177.2)) :: (.own s50 4 1 (encs r177.1)) :: (.blk b25 [pv b12 0] 97) :: (.rows (α := Bool) 4 rs14) :: (.own s13 75 1 (encs rs14)) :: (.own s18 3 1 (encs r10.left)) :: (.blk b12 (enc (GraphR.mk r10 s13 s18 s20)) 101) :: (.blk b164 [.func (.func 61) #[] #[pv b47 0, pv b25 0, pv b44 0, pv b164 0]] 102) :: (.own Sl.nil 3 1 (encs ([] : List Int))) :: (.own Sl.nil 3 1 (encs ([] : List Int))) :: L) rfl ?_
 refine At.front (i := 10) rfl (L' := (.blk b164 [.func (.func 61) #[] #[pv b47 0, pv b25 0, pv b44 0, pv b164 0]] 102) :: (.blk b44 (enc s48) 75) :: (.own s45 4 1 (encs l46)) :: (.blk b47 (enc s50) 75) :: (.own s48 4 1 (encs r177.2)) :: (.own s50 4 1 (encs r177.1)) :: (.blk b25 [pv b12 0] 97) :: (.rows (α := Bool) 4 rs14) :: (.own s13 75 1 (encs rs14)) :: (.own s18 3 1 (encs r10.left)) :: (.blk b12 (enc (GraphR.mk r10 s13 s18 s20)) 101) :: (.own Sl.nil 3 1 (encs ([] : List Int))) :: (.own Sl.nil 3 1 (encs ([] : List Int))) :: L) rfl ?_
 exact At.meet (i166 + 1, k166, r177.2, r177.1) (FLe.trans hF170 hF180) ⟨rfl, rfl, rfl, rfl, rfl, rfl, trivial⟩ rfl ⟨⟨hgo166 _ (some_inj H).symm, by omega⟩, Nat.lt_succ_self _⟩
set_option maxRecDepth 20000 in
theorem poset_Apart_sim {fu : Nat} {a0 : Poset} {s_a0_1 : Sl} {r : (List Int) × Int} (H : poset_Apart fu a0 = some r) (w0 : World) (F : Frz) (M L : List Item) (hM : M.Sublist L) (hs_a0_1 : Rd w0 F M s_a0_1 a0.Pairs) : Ok Try.prog w0 42 [.agg (enc (PosetR.mk a0 s_a0_1)).toArray] F (L) (fun _ L' v => ∃ (s1 : Sl), v = .tuple #[Sl.v s1, iv r.2] ∧ L' = (.own s1 3 1 (encs r.1)) :: L) := by
 unfold poset_Apart at H
 refine Ok.enter (m := 1) (n := 53) Try.func42 rfl rfl rfl (by decide) ?_
 refine Cd.env (e' := [(0, .agg (enc (PosetR.mk a0 s_a0_1)).toArray)]) rfl ?_
 refine sr0 ?_
 refine Lst.box rfl rfl (by decide) rfl (cs := enc (PosetR.mk a0 s_a0_1)) rfl (fun b1 => ?_)
 refine Lst.addNil 3 1 ?_
 refine Lst.r (Ev.assign rfl) ?_
 refine Lst.r (Ev.assign rfl) ?_
 refine nsr ?_
 refine Lst.r (Ev.loadA (i := 1) rfl rfl Try.isAgg24 Try.sizeOf24 (ch := enc (PosetR.mk a0 s_a0_1)) (Enc.len _) gh0) ?_
 obtain ⟨r4, h5, H⟩ := bind_some H
 refine Lst.call1 rfl rfl (by decide) (vs := [.agg (enc (PosetR.mk a0 s_a0_1)).toArray]) ⟨rfl, trivial⟩ Try.call53 (poset_check_sim h5 w0 _ M _ (sc2 hM) (hs_a0_1.mono fl (.refl _))) ?_
 refine mv0 rfl ?_
 refine Lst.r (Ev.extract rfl rfl) ?_
 refine Lst.r (Ev.extract rfl rfl) ?_
 refine Lst.alloc (z := .agg (enc (Vector.replicate 20 (Vector.replicate 20 false))).toArray) (cs := enc (Vector.replicate 20 (Vector.replicate 20 false))) rfl rfl (by decide) (fun _ => by kernel_rfl) rfl (fun b8 => ?_)
 refine Lst.store (i := 0) rfl rfl rfl rfl rfl Try.sizeOf89 (vs := enc r4.1) rfl (Enc.len _) (Enc.one _) (cs' := enc r4.1) (Put.here ((Enc.len _).trans (Enc.len _).symm)) (L' := (.blk b8 (enc r4.1) 89) :: (.own Sl.nil 3 1 (encs ([] : List Int))) :: (.blk b1 (enc (PosetR.mk a0 s_a0_1)) 24) :: L) rfl ?_
 refine Lst.r (Ev.assign rfl) ?_
 refine nt0 ?_
 refine Cd.seq ?_
 refine sr0 ?_
 refine mv0 rfl ?_
 refine Lst.r (Ev.neq rfl rfl) ?_
 refine nt0 ?_
 rcases Bool.eq_false_or_eq_true (r4.2 != (0 : Int)) with hb10 | hb10
 ·replace H := ite_t hb10 H
  refine Cd.condT rfl hb10 ?_
  refine sr0 ?_
  refine mv0 rfl ?_
  refine Lst.addNil 3 1 ?_
  refine Lst.r (Ev.assign rfl) ?_
  refine Lst.r (Ev.assign rfl) ?_
  refine nt0 ?_
  obtain rfl := some_inj H
  refine Cd.ret ?_
  refine At.then_ret ?_
  exact At.ret2 rfl (Res.tmp rfl) (Res.tmp rfl) fl (sk1 (sc1 (sc1 (sc1 (.refl _))))) ⟨Sl.nil, rfl, rfl⟩
 replace H := ite_f hb10 H
 refine Cd.condF rfl hb10 ?_
 refine Cd.skip ?_
 refine At.then ?_
 refine Cd.seq ?_
 obtain ⟨r12, h13, H⟩ := bind_some H
 obtain ⟨r18, h19, H⟩ := bind_some H
 obtain ⟨o31, h32, H⟩ := Let_some H
 refine Cd.headMeet (σ := Sl × (List Int) × Sl × (List Int)) 15 (fun (s27, l28, s29, l30) => [(1, pv b1 0), (6, Sl.v s27), (7, Sl.v s29), (31, iv r18.2.2)]) (fun (s27, l28, s29, l30) => (.own s27 3 1 (encs l28)) :: (.own s29 3 1 (encs l30)) :: (.blk b8 (enc r4.1) 89) :: (.own Sl.nil 3 1 (encs ([] : List Int))) :: (.blk b1 (enc (PosetR.mk a0 s_a0_1)) 24) :: L) (fun _ (s27, l28, s29, l30) => (l28, l30) = o31) (by kernel_rfl) (by kernel_rfl) (behind_sink (by kernel_rfl) (by kernel_rfl) (by kernel_rfl)) (by kernel_rfl) (fun hsel hlt => ?_) ?_
 ·refine HdJ.keep (fun w => St w0 F ((.blk b8 (enc r4.1) 89) :: (.own Sl.nil 3 1 (encs ([] : List Int))) :: (.blk b1 (enc (PosetR.mk a0 s_a0_1)) 24) :: L) w) (fun w h => trivial) ?_
  refine HdJ.ts hsel hlt 0 (sk1 (sk1 (sk1 (.refl _)))) (Ev.fieldAddr (off' := 0) rfl Try.runUnderlying24 rfl Try.sizeOf3 rfl rfl) ?_
  refine HdJ.ts hsel hlt 1 (sk1 (sk1 (sk1 (.refl _)))) (Ev.load (i := 2) rfl rfl Try.isAgg3 (v := iv a0.N) ((PosetR.get_N gh0).off (by rfl))) ?_
  refine HdJ.ts hsel hlt 2 (sk1 (sk1 (sk1 (.refl _)))) (Ev.fieldAddr (off' := 0) rfl Try.runUnderlying24 rfl Try.sizeOf3 rfl rfl) ?_
  refine HdJ.ts hsel hlt 3 (sk1 (sk1 (sk1 (.refl _)))) (Ev.load (i := 2) rfl rfl Try.isAgg3 (v := iv a0.N) ((PosetR.get_N gh0).off (by rfl))) ?_
  refine HdJ.ts hsel hlt 4 (sk1 (sk1 (sk1 (.refl _)))) (Ev.loadA (i := 0) rfl rfl Try.isAgg89 Try.sizeOf89 (ch := enc r4.1) (Enc.len _) gh0) ?_
  refine HdJ.ts hsel hlt 5 (sk1 (sk1 (sk1 (.refl _)))) (Ev.fieldAddr (off' := 0) rfl Try.runUnderlying24 rfl Try.sizeOf3 rfl rfl) ?_
  refine HdJ.ts hsel hlt 6 (sk1 (sk1 (sk1 (.refl _)))) (Ev.load (i := 2) rfl rfl Try.isAgg3 (v := iv a0.N) ((PosetR.get_N gh0).off (by rfl))) ?_
  refine HdJ.o1 7 (fun inv => ?_)
  refine Lst.call rfl rfl (by decide) (vs := [.agg (enc r4.1).toArray, iv a0.N]) ⟨rfl, rfl, trivial⟩ Try.call54 (poset_order_all_sim h13 w0 _ M _ (sc2 (sc1 hM))) (fun F34 L' v hF35 hv => ?_)
  obtain ⟨s33, rfl, rfl⟩ := hv
  refine Lst.nil ?_
  refine At.hd inv (fun w h => (h.weaken hF35).sublist (sc1 (sk1 (sk1 (sk1 (.refl _)))))) ?_
  refine HdJ.o1 8 (fun inv => ?_)
  refine Lst.call rfl rfl (by decide) (vs := [iv a0.N, iv a0.N, Sl.v s33]) ⟨rfl, rfl, rfl, trivial⟩ Try.call36 (match_Cover_sim h19 w0 _ _ _ (.refl _) (rdo 0 rfl rfl rfl)) (fun F38 L' v hF39 hv => ?_)
  obtain ⟨s36, s37, rfl, rfl⟩ := hv
  refine Lst.nil ?_
  refine At.hd inv (fun w h => (h.weaken (FLe.trans hF35 hF39)).sublist (sc1 (sc1 (sc1 (sk1 (sk1 (sk1 (.refl _)))))))) ?_
  refine HdJ.keep (fun w => St w0 F38 ((.own s36 3 1 (encs r18.1)) :: (.own s37 3 1 (encs r18.2.1)) :: (.own s33 49 2 (encs r12)) :: (.blk b8 (enc r4.1) 89) :: (.own Sl.nil 3 1 (encs ([] : List Int))) :: (.blk b1 (enc (PosetR.mk a0 s_a0_1)) 24) :: L) w) (fun w h => (h.weaken (FLe.trans hF35 hF39)).sublist (sc1 (sc1 (sc1 (sk1 (sk1 (sk1 (.refl _)))))))) ?_
  refine HdJ.ts hsel hlt 9 (sk1 (sk1 (sk1 (sk1 (sk1 (sk1 (.refl _))))))) (Ev.move rfl) ?_
  refine HdJ.ts hsel hlt 10 (sk1 (sk1 (sk1 (sk1 (sk1 (sk1 (.refl _))))))) (Ev.extract rfl rfl) ?_
  refine HdJ.ts hsel hlt 11 (sk1 (sk1 (sk1 (sk1 (sk1 (sk1 (.refl _))))))) (Ev.extract rfl rfl) ?_
  refine HdJ.ts hsel hlt 12 (sk1 (sk1 (sk1 (sk1 (sk1 (sk1 (.refl _))))))) (Ev.extract rfl rfl) ?_
  refine HdJ.ts hsel hlt 13 (sk1 (sk1 (sk1 (sk1 (sk1 (sk1 (.refl _))))))) (Ev.assign rfl) ?_
  refine HdJ.ts hsel hlt 14 (sk1 (sk1 (sk1 (sk1 (sk1 (sk1 (.refl _))))))) (Ev.assign rfl) ?_
  refine HdJ.done (by kernel_rfl) ?_
  refine At.less (L' := (.own s36 3 1 (encs r18.1)) :: (.own s37 3 1 (encs r18.2.1)) :: (.blk b8 (enc r4.1) 89) :: (.own Sl.nil 3 1 (encs ([] : List Int))) :: (.blk b1 (enc (PosetR.mk a0 s_a0_1)) 24) :: L) (sk1 (sk1 (sc1 (sk1 (sk1 (sk1 (.refl _))))))) ?_
  exact At.meetN (s36, r18.1, s37, r18.2.1) (FLe.trans hF35 hF39) ⟨rfl, rfl, rfl, rfl, trivial⟩ rfl h32
 rintro F40 ⟨s27, l28, s29, l30⟩ hF41 hy
 subst hy
 try dsimp only at H
 refine Lst.as (e' := [(1, pv b1 0), (6, Sl.v s27), (7, Sl.v s29), (31, iv r18.2.2)]) (L' := (.own s27 3 1 (encs l28)) :: (.own s29 3 1 (encs l30)) :: (.blk b8 (enc r4.1) 89) :: (.own Sl.nil 3 1 (encs ([] : List Int))) :: (.blk b1 (enc (PosetR.mk a0 s_a0_1)) 24) :: L) ⟨rfl, rfl, rfl, rfl, trivial⟩ rfl ?_
 refine Lst.r (Ev.assign rfl) ?_
 refine nsr ?_
 refine Lst.addNil 3 1 ?_
 refine Lst.r (Ev.assign rfl) ?_
 refine nt0 ?_
 refine Cd.seq ?_
 refine sr0 ?_
 refine Lst.r (Ev.fieldAddr (off' := 0) rfl Try.runUnderlying24 rfl Try.sizeOf3 rfl rfl) ?_
 refine Lst.r (Ev.load (i := 5) rfl rfl Try.isAgg3 (v := iv a0.N) ((PosetR.get_N gh0).off (by rfl))) ?_
 refine mv0 rfl ?_
 refine nt0 ?_
 refine Cd.block ?_
 obtain ⟨nn48, hN68, H⟩ := bind_some H
 replace hN68 := upTo_some hN68
 obtain ⟨ol43, H, HKl43⟩ := bind_some H
 refine Cd.loop (σ := Nat × Nat × Sl × (List Int)) (fun (i43, k43, s44, l45) => [(6, Sl.v s27), (7, Sl.v s29), (9, Sl.v s44), (33, iv a0.N), (34, iv (i43 : Int))]) (fun (i43, k43, s44, l45) => (.own s44 3 1 (encs l45)) :: (.own s27 3 1 (encs l28)) :: (.own s29 3 1 (encs l30)) :: (.blk b8 (enc r4.1) 89) :: (.own Sl.nil 3 1 (encs ([] : List Int))) :: (.blk b1 (enc (PosetR.mk a0 s_a0_1)) 24) :: L) (fun _ => (fun (i43, k43, s44, l45) => rangeF (poset_Apart_B0 l28 l30) k43 i43 l45 = some ol43 ∧ i43 + k43 = nn48)) (fun (i43, k43, s44, l45) => k43) (0, nn48, Sl.nil, ([] : List Int)) ⟨rfl, rfl, rfl, rfl, rfl, trivial⟩ rfl ⟨H, by omega⟩ ?_
 rintro F46 ⟨i43, k43, s44, l45⟩ hF47 ⟨H, hik43⟩
 refine Cd.as (e' := [(6, Sl.v s27), (7, Sl.v s29), (9, Sl.v s44), (33, iv a0.N), (34, iv (i43 : Int))]) (L' := (.own s44 3 1 (encs l45)) :: (.own s27 3 1 (encs l28)) :: (.own s29 3 1 (encs l30)) :: (.blk b8 (enc r4.1) 89) :: (.own Sl.nil 3 1 (encs ([] : List Int))) :: (.blk b1 (enc (PosetR.mk a0 s_a0_1)) 24) :: L) ⟨rfl, rfl, rfl, rfl, rfl, trivial⟩ rfl ?_
 rcases k43 with _ | k43
 ·have hc43 : decide ((i43 : Int) < a0.N) = false := decide_eq_false (by omega)
  replace H := rangeF_end H
  refine sr0 ?_
  refine Lst.r (Ev.lss rfl rfl) ?_
  refine nt0 ?_
  refine Cd.seq ?_
  refine Cd.condF rfl hc43 ?_
  refine Cd.exit ?_
  refine At.then_exit ?_
  refine At.then_exit ?_
  refine At.in_exit ?_
  subst H
  replace H := HKl43
  refine At.then ?_
  refine sr0 ?_
  refine mv0 rfl ?_
  refine Lst.r (Ev.assign rfl) ?_
  refine Lst.r (Ev.assign rfl) ?_
  refine nt0 ?_
  obtain rfl := some_inj H
  refine Cd.ret ?_
  exact At.ret2 rfl (Res.tmp rfl) (Res.tmp rfl) (FLe.trans hF41 hF47) (sk1 (sc1 (sc1 (sc1 (sc1 (sc1 (.refl _))))))) ⟨s44, rfl, rfl⟩
 have hc43 : decide ((i43 : Int) < a0.N) = true := decide_eq_true (by omega)
 obtain ⟨c43, H, hgo43⟩ := rangeF_go H
 unfold poset_Apart_B0 at H
 try dsimp only at H
 refine sr0 ?_
 refine Lst.r (Ev.lss rfl rfl) ?_
 refine nt0 ?_
 refine Cd.seq ?_
 refine Cd.condT rfl hc43 ?_
 refine Cd.skip ?_
 refine At.then ?_
 refine Cd.seq ?_
 refine Cd.block ?_
 refine sr0 ?_
 refine mv0 rfl ?_
 refine Lst.r (Ev.assign rfl) ?_
 refine nsr ?_
 refine mv0 rfl ?_
 refine mv0 rfl ?_
 obtain ⟨r49, h50, H⟩ := bind_some H
 refine Lst.call1 rfl rfl (by decide) (vs := [Sl.v s27, iv (i43 : Int)]) ⟨rfl, rfl, trivial⟩ Try.call57 (slices_Contains_int_int_sim h50 w0 _ _ _ (.refl _) (rdo 1 rfl rfl rfl)) ?_
 refine Lst.r (Ev.not rfl) ?_
 refine mv0 rfl ?_
 obtain ⟨o53, H, HKo53⟩ := bind_some H
 refine Lst.join (σ := Bool) 5 (fun y54 => [(6, Sl.v s27), (7, Sl.v s29), (9, Sl.v s44), (10, iv (i43 : Int)), (33, iv a0.N), (34, iv (i43 : Int)), (46, .bool y54)]) (fun y54 => (.own s44 3 1 (encs l45)) :: (.own s27 3 1 (encs l28)) :: (.own s29 3 1 (encs l30)) :: (.blk b8 (enc r4.1) 89) :: (.own Sl.nil 3 1 (encs ([] : List Int))) :: (.blk b1 (enc (PosetR.mk a0 s_a0_1)) 24) :: L) (fun _ y54 => y54 = o53) ?_ ?_
 ·rcases (Bool.eq_false_or_eq_true (!r49)).symm with hb55 | hb55
  ·replace H := ite_f hb55 H
   refine Lst.skip rfl rfl rfl hb55 rfl (by decide) ?_
   refine Lst.skip rfl rfl rfl hb55 rfl (by decide) ?_
   refine Lst.skip rfl rfl rfl hb55 rfl (by decide) ?_
   refine Lst.skip rfl rfl rfl hb55 rfl (by decide) ?_
   refine Lst.r (Ev.pickF rfl hb55 rfl) ?_
   refine Lst.nil ?_
   exact At.meet false fl ⟨rfl, rfl, rfl, rfl, rfl, rfl, rfl, trivial⟩ rfl (some_inj H)
  replace H := ite_t hb55 H
  refine Lst.rG hb55 (Ev.move rfl) ?_
  refine Lst.rG hb55 (Ev.move rfl) ?_
  obtain ⟨r56, h57, H⟩ := bind_some H
  refine Lst.call1G rfl rfl rfl hb55 rfl (by decide) (vs := [Sl.v s29, iv (i43 : Int)]) ⟨rfl, rfl, trivial⟩ Try.call57 (slices_Contains_int_int_sim h57 w0 _ _ _ (.refl _) (rdo 2 rfl rfl rfl)) ?_
  refine Lst.rG hb55 (Ev.not rfl) ?_
  refine Lst.r (Ev.pickT rfl hb55 rfl) ?_
  refine Lst.nil ?_
  exact At.meet (!r56) fl ⟨rfl, rfl, rfl, rfl, rfl, rfl, rfl, trivial⟩ rfl (some_inj H)
 rintro F60 y54 hF61 hy
 subst hy
 refine Lst.as (e' := [(6, Sl.v s27), (7, Sl.v s29), (9, Sl.v s44), (10, iv (i43 : Int)), (33, iv a0.N), (34, iv (i43 : Int)), (46, .bool y54)]) (L' := (.own s44 3 1 (encs l45)) :: (.own s27 3 1 (encs l28)) :: (.own s29 3 1 (encs l30)) :: (.blk b8 (enc r4.1) 89) :: (.own Sl.nil 3 1 (encs ([] : List Int))) :: (.blk b1 (enc (PosetR.mk a0 s_a0_1)) 24) :: L) ⟨rfl, rfl, rfl, rfl, rfl, rfl, rfl, trivial⟩ rfl ?_
 replace H := HKo53
 refine nt0 ?_
 rcases (Bool.eq_false_or_eq_true y54).symm with hb62 | hb62
 ·replace H := ite_f hb62 H
  refine Cd.condF rfl hb62 ?_
  refine Cd.skip ?_
  refine At.in_normal ?_
  refine At.then ?_
  refine Cd.region ?_
  refine Lst.r (Ev.incr (by omega) rfl rfl) ?_
  refine mv0 rfl ?_
  refine Lst.nil ?_
  exact At.meet (i43 + 1, k43, s44, l45) (FLe.trans hF47 hF61) ⟨rfl, rfl, rfl, rfl, rfl, trivial⟩ rfl ⟨⟨hgo43 _ (some_inj H).symm, by omega⟩, Nat.lt_succ_self _⟩
 replace H := ite_t hb62 H
 refine Cd.condT rfl hb62 ?_
 refine Cd.region ?_
 refine mv0 rfl ?_
 refine mv0 rfl ?_
 refine Lst.buildSlice (α := Int) (xs := ([(i43 : Int)] : List Int)) (pv := [(0, iv (i43 : Int))]) rfl rfl (by decide) ⟨rfl, rfl, trivial⟩ (run_buildSlice (α := Int) (z0 := (0 : Int)) (xs := ([(i43 : Int)] : List Int)) Try.runUnderlying34 Try.sizeOf3 Try.zeroValue3 rfl rfl rfl (by decide) rfl (fill_cons (cs := encs (List.replicate 1 (0 : Int))) (cs' := encs ((List.replicate 1 (0 : Int)).set 0 (i43 : Int))) (vs := [iv (i43 : Int)]) rfl rfl rfl ((Put.elemN (s := 1) (i := 0) (x := (0 : Int)) (y := (i43 : Int)) rfl rfl (Put.here (vs := [iv (i43 : Int)]) rfl)).off rfl) fill_nil)) rfl rfl (by decide) (fun s63 _ => ?_)
 obtain ⟨u65, h66, H⟩ := bind_some H
 refine Lst.append (i := 1) (α := Int) (xs := l45) (ys := ([(i43 : Int)] : List Int)) rfl rfl (by decide) rfl rfl Try.runUnderlying34 Try.typeInfo3 rfl rfl rfl rfl rfl rfl (rdo 0 rfl rfl rfl) rfl (room_some h66) rfl (fun s67 => ?_)
 refine Lst.its (L' := (.own s63 3 1 (encs ([(i43 : Int)] : List Int))) :: (.own s67 3 1 (encs (l45 ++ ([(i43 : Int)] : List Int)))) :: (.own s27 3 1 (encs l28)) :: (.own s29 3 1 (encs l30)) :: (.blk b8 (enc r4.1) 89) :: (.own Sl.nil 3 1 (encs ([] : List Int))) :: (.blk b1 (enc (PosetR.mk a0 s_a0_1)) 24) :: L) rfl ?_
 refine Lst.r (Ev.assign rfl) ?_
 refine Lst.nil ?_
 refine At.in_normal ?_
 refine At.then ?_
 refine Cd.region ?_
 refine Lst.r (Ev.incr (by omega) rfl rfl) ?_
 refine mv0 rfl ?_
 refine Lst.nil ?_
 refine At.less (L' := (.own s67 3 1 (encs (l45 ++ ([(i43 : Int)] : List Int)))) :: (.own s27 3 1 (encs l28)) :: (.own s29 3 1 (encs l30)) :: (.blk b8 (enc r4.1) 89) :: (.own Sl.nil 3 1 (encs ([] : List Int))) :: (.blk b1 (enc (PosetR.mk a0 s_a0_1)) 24) :: L) (sc1 (sk1 (sk1 (sk1 (sk1 (sk1 (sk1 (.refl _)))))))) ?_
 exact At.meet (i43 + 1, k43, s67, l45 ++ ([(i43 : Int)] : List Int)) (FLe.trans hF47 hF61) ⟨rfl, rfl, rfl, rfl, rfl, trivial⟩ rfl ⟨⟨hgo43 _ (some_inj H).symm, by omega⟩, Nat.lt_succ_self _⟩
set_option maxRecDepth 20000 in
theorem partref_AllPairs_sim {fu : Nat} {a0 : Poset} {a1 : Bool} {s_a0_1 : Sl} {r : (List Pair)} (H : partref_AllPairs fu a0 a1 = some r) (w0 : World) (F : Frz) (M L : List Item) (hM : M.Sublist L) (hs_a0_1 : Rd w0 F M s_a0_1 a0.Pairs) : Ok Try.prog w0 29 [.agg (enc (PosetR.mk a0 s_a0_1)).toArray, .bool a1] F (L) (fun _ L' v => ∃ (s1 : Sl), v = Sl.v s1 ∧ L' = (.own s1 49 2 (encs r)) :: L) := by
 unfold partref_AllPairs at H
 refine Ok.enter (m := 2) (n := 74) Try.func29 rfl rfl rfl (by decide) ?_
 refine Cd.env (e' := [(0, .agg (enc (PosetR.mk a0 s_a0_1)).toArray), (1, .bool a1)]) rfl ?_
 refine sr0 ?_
 refine Lst.box rfl rfl (by decide) rfl (cs := enc (PosetR.mk a0 s_a0_1)) rfl (fun b1 => ?_)
 refine Lst.addNil 49 2 ?_
 refine Lst.r (Ev.assign rfl) ?_
 refine nsr ?_
 refine Lst.r (Ev.fieldAddr (off' := 0) rfl Try.runUnderlying24 rfl Try.sizeOf3 rfl rfl) ?_
 refine Lst.r (Ev.load (i := 1) rfl rfl Try.isAgg3 (v := iv a0.N) ((PosetR.get_N gh0).off (by rfl))) ?_
 refine Lst.r (Ev.fieldAddr (off' := 1) rfl Try.runUnderlying24 rfl Try.sizeOf22 rfl rfl) ?_
 refine Lst.r (Ev.load (i := 1) rfl rfl Try.isAgg22 (v := Sl.v s_a0_1) ((PosetR.get_Pairs gh0).off (by rfl))) ?_
 obtain ⟨r4, h5, H⟩ := bind_some H
 refine Lst.call rfl rfl (by decide) (vs := [iv a0.N, Sl.v s_a0_1]) ⟨rfl, rfl, trivial⟩ Try.call45 (partref_Closure_sim h5 w0 _ M _ (sc2 hM) (hs_a0_1.mono fl (.refl _))) (fun F11 L' v hF12 hv => ?_)
 obtain ⟨s6, rs7, rfl, rfl, fm8⟩ := hv
 refine Lst.r (Ev.assign rfl) ?_
 refine nsr ?_
 refine Lst.addNil 49 2 ?_
 refine Lst.r (Ev.assign rfl) ?_
 refine nt0 ?_
 refine Cd.seq ?_
 refine sr0 ?_
 refine Lst.r (Ev.fieldAddr (off' := 0) rfl Try.runUnderlying24 rfl Try.sizeOf3 rfl rfl) ?_
 refine Lst.r (Ev.load (i := 4) rfl rfl Try.isAgg3 (v := iv a0.N) ((PosetR.get_N gh0).off (by rfl))) ?_
 refine mv0 rfl ?_
 refine nt0 ?_
 refine Cd.block ?_
 obtain ⟨nn19, hN75, H⟩ := bind_some H
 replace hN75 := upTo_some hN75
 obtain ⟨ol14, H, HKl14⟩ := bind_some H
 refine Cd.loop (σ := Nat × Nat × Sl × (List Pair)) (fun (i14, k14, s15, l16) => [(1, .bool a1), (2, pv b1 0), (5, Sl.v s6), (6, Sl.v s15), (17, iv a0.N), (18, iv (i14 : Int))]) (fun (i14, k14, s15, l16) => (.own s15 49 2 (encs l16)) :: (.rows (α := Bool) 4 rs7) :: (.own s6 75 1 (encs rs7)) :: (.own Sl.nil 49 2 (encs ([] : List Pair))) :: (.blk b1 (enc (PosetR.mk a0 s_a0_1)) 24) :: L) (fun _ => (fun (i14, k14, s15, l16) => rangeF (partref_AllPairs_B0 a0 a1 r4) k14 i14 l16 = some ol14 ∧ i14 + k14 = nn19)) (fun (i14, k14, s15, l16) => k14) (0, nn19, Sl.nil, ([] : List Pair)) ⟨rfl, rfl, rfl, rfl, rfl, rfl, trivial⟩ rfl ⟨H, by omega⟩ ?_
 rintro F17 ⟨i14, k14, s15, l16⟩ hF18 ⟨H, hik14⟩
 refine Cd.as (e' := [(1, .bool a1), (2, pv b1 0), (5, Sl.v s6), (6, Sl.v s15), (17, iv a0.N), (18, iv (i14 : Int))]) (L' := (.own s15 49 2 (encs l16)) :: (.rows (α := Bool) 4 rs7) :: (.own s6 75 1 (encs rs7)) :: (.own Sl.nil 49 2 (encs ([] : List Pair))) :: (.blk b1 (enc (PosetR.mk a0 s_a0_1)) 24) :: L) ⟨rfl, rfl, rfl, rfl, rfl, rfl, trivial⟩ rfl ?_
 rcases k14 with _ | k14
 ·have hc14 : decide ((i14 : Int) < a0.N) = false := decide_eq_false (by omega)
  replace H := rangeF_end H
  refine sr0 ?_
  refine Lst.r (Ev.lss rfl rfl) ?_
  refine nt0 ?_
  refine Cd.seq ?_
  refine Cd.condF rfl hc14 ?_
  refine Cd.exit ?_
  refine At.then_exit ?_
  refine At.then_exit ?_
  refine At.in_exit ?_
  subst H
  replace H := HKl14
  refine At.then ?_
  refine sr0 ?_
  refine mv0 rfl ?_
  refine Lst.r (Ev.assign rfl) ?_
  refine nt0 ?_
  obtain rfl := some_inj H
  refine Cd.ret ?_
  exact At.ret1 rfl (Res.tmp rfl) (FLe.trans hF12 hF18) (sk1 (sc1 (sc1 (sc1 (sc1 (.refl _)))))) ⟨s15, rfl, rfl⟩
 have hc14 : decide ((i14 : Int) < a0.N) = true := decide_eq_true (by omega)
 obtain ⟨c14, H, hgo14⟩ := rangeF_go H
 unfold partref_AllPairs_B0 at H
 try dsimp only at H
 refine sr0 ?_
 refine Lst.r (Ev.lss rfl rfl) ?_
 refine nt0 ?_
 refine Cd.seq ?_
 refine Cd.condT rfl hc14 ?_
 refine Cd.skip ?_
 refine At.then ?_
 refine Cd.seq ?_
 refine Cd.block ?_
 refine sr0 ?_
 refine mv0 rfl ?_
 refine Lst.r (Ev.assign rfl) ?_
 refine nsr ?_
 refine Lst.r (Ev.fieldAddr (off' := 0) rfl Try.runUnderlying24 rfl Try.sizeOf3 rfl rfl) ?_
 refine Lst.r (Ev.load (i := 4) rfl rfl Try.isAgg3 (v := iv a0.N) ((PosetR.get_N gh0).off (by rfl))) ?_
 refine mv0 rfl ?_
 refine nt0 ?_
 refine Cd.block ?_
 obtain ⟨nn25, hN74, H⟩ := bind_some H
 replace hN74 := upTo_some hN74
 obtain ⟨ol20, H, HKl20⟩ := bind_some H
 refine Cd.loop (σ := Nat × Nat × Sl × (List Pair)) (fun (i20, k20, s21, l22) => [(1, .bool a1), (2, pv b1 0), (5, Sl.v s6), (6, Sl.v s21), (7, iv (i14 : Int)), (17, iv a0.N), (18, iv (i14 : Int)), (22, iv a0.N), (23, iv (i20 : Int))]) (fun (i20, k20, s21, l22) => (.own s21 49 2 (encs l22)) :: (.rows (α := Bool) 4 rs7) :: (.own s6 75 1 (encs rs7)) :: (.own Sl.nil 49 2 (encs ([] : List Pair))) :: (.blk b1 (enc (PosetR.mk a0 s_a0_1)) 24) :: L) (fun _ => (fun (i20, k20, s21, l22) => rangeF (partref_AllPairs_B2 a0 a1 r4 i14) k20 i20 l22 = some ol20 ∧ i20 + k20 = nn25)) (fun (i20, k20, s21, l22) => k20) (0, nn25, s15, l16) ⟨rfl, rfl, rfl, rfl, rfl, rfl, rfl, rfl, rfl, trivial⟩ rfl ⟨H, by omega⟩ ?_
 rintro F23 ⟨i20, k20, s21, l22⟩ hF24 ⟨H, hik20⟩
 refine Cd.as (e' := [(1, .bool a1), (2, pv b1 0), (5, Sl.v s6), (6, Sl.v s21), (7, iv (i14 : Int)), (17, iv a0.N), (18, iv (i14 : Int)), (22, iv a0.N), (23, iv (i20 : Int))]) (L' := (.own s21 49 2 (encs l22)) :: (.rows (α := Bool) 4 rs7) :: (.own s6 75 1 (encs rs7)) :: (.own Sl.nil 49 2 (encs ([] : List Pair))) :: (.blk b1 (enc (PosetR.mk a0 s_a0_1)) 24) :: L) ⟨rfl, rfl, rfl, rfl, rfl, rfl, rfl, rfl, rfl, trivial⟩ rfl ?_
 rcases k20 with _ | k20
 ·have hc20 : decide ((i20 : Int) < a0.N) = false := decide_eq_false (by omega)
  replace H := rangeF_end H
  refine sr0 ?_
  refine Lst.r (Ev.lss rfl rfl) ?_
  refine nt0 ?_
  refine Cd.seq ?_
  refine Cd.condF rfl hc20 ?_
  refine Cd.exit ?_
  refine At.then_exit ?_
  refine At.then_exit ?_
  refine At.in_exit ?_
  subst H
  replace H := HKl20
  refine At.in_normal ?_
  refine At.then ?_
  refine Cd.region ?_
  refine Lst.r (Ev.incr (by omega) rfl rfl) ?_
  refine mv0 rfl ?_
  refine Lst.nil ?_
  exact At.meet (i14 + 1, k14, s21, l22) (FLe.trans hF18 hF24) ⟨rfl, rfl, rfl, rfl, rfl, rfl, trivial⟩ rfl ⟨⟨hgo14 _ (some_inj H).symm, by omega⟩, Nat.lt_succ_self _⟩
 have hc20 : decide ((i20 : Int) < a0.N) = true := decide_eq_true (by omega)
 obtain ⟨c20, H, hgo20⟩ := rangeF_go H
 unfold partref_AllPairs_B2 at H
 try dsimp only at H
 refine sr0 ?_
 refine Lst.r (Ev.lss rfl rfl) ?_
 refine nt0 ?_
 refine Cd.seq ?_
 refine Cd.condT rfl hc20 ?_
 refine Cd.skip ?_
 refine At.then ?_
 refine Cd.seq ?_
 refine Cd.block ?_
 refine sr0 ?_
 refine mv0 rfl ?_
 refine Lst.r (Ev.assign rfl) ?_
 refine nsr ?_
 refine Lst.r (Ev.assign rfl) ?_
 refine nt0 ?_
 refine Cd.seq ?_
 refine sr0 ?_
 refine Lst.r (Ev.fieldAddr (off' := 0) rfl Try.runUnderlying24 rfl Try.sizeOf3 rfl rfl) ?_
 refine Lst.r (Ev.load (i := 4) rfl rfl Try.isAgg3 (v := iv a0.N) ((PosetR.get_N gh0).off (by rfl))) ?_
 refine mv0 rfl ?_
 refine nt0 ?_
 refine Cd.block ?_
 obtain ⟨nn30, hN73, H⟩ := bind_some H
 replace hN73 := upTo_some hN73
 obtain ⟨ol26, H, HKl26⟩ := bind_some H
 refine Cd.loop (σ := Nat × Nat × Bool) (fun (i26, k26, y27) => [(1, .bool a1), (2, pv b1 0), (5, Sl.v s6), (6, Sl.v s21), (7, iv (i14 : Int)), (8, iv (i20 : Int)), (9, .bool y27), (17, iv a0.N), (18, iv (i14 : Int)), (22, iv a0.N), (23, iv (i20 : Int)), (27, iv a0.N), (28, iv (i26 : Int))]) (fun (i26, k26, y27) => (.own s21 49 2 (encs l22)) :: (.rows (α := Bool) 4 rs7) :: (.own s6 75 1 (encs rs7)) :: (.own Sl.nil 49 2 (encs ([] : List Pair))) :: (.blk b1 (enc (PosetR.mk a0 s_a0_1)) 24) :: L) (fun _ => (fun (i26, k26, y27) => rangeF (partref_AllPairs_B4 r4 i14 i20) k26 i26 y27 = some ol26 ∧ i26 + k26 = nn30)) (fun (i26, k26, y27) => k26) (0, nn30, false) ⟨rfl, rfl, rfl, rfl, rfl, rfl, rfl, rfl, rfl, rfl, rfl, rfl, rfl, trivial⟩ rfl ⟨H, by omega⟩ ?_
 rintro F28 ⟨i26, k26, y27⟩ hF29 ⟨H, hik26⟩
 refine Cd.as (e' := [(1, .bool a1), (2, pv b1 0), (5, Sl.v s6), (6, Sl.v s21), (7, iv (i14 : Int)), (8, iv (i20 : Int)), (9, .bool y27), (17, iv a0.N), (18, iv (i14 : Int)), (22, iv a0.N), (23, iv (i20 : Int)), (27, iv a0.N), (28, iv (i26 : Int))]) (L' := (.own s21 49 2 (encs l22)) :: (.rows (α := Bool) 4 rs7) :: (.own s6 75 1 (encs rs7)) :: (.own Sl.nil 49 2 (encs ([] : List Pair))) :: (.blk b1 (enc (PosetR.mk a0 s_a0_1)) 24) :: L) ⟨rfl, rfl, rfl, rfl, rfl, rfl, rfl, rfl, rfl, rfl, rfl, rfl, rfl, trivial⟩ rfl ?_
 rcases k26 with _ | k26
 ·have hc26 : decide ((i26 : Int) < a0.N) = false := decide_eq_false (by omega)
  replace H := rangeF_end H
  refine sr0 ?_
  refine Lst.r (Ev.lss rfl rfl) ?_
  refine nt0 ?_
  refine Cd.seq ?_
  refine Cd.condF rfl hc26 ?_
  refine Cd.exit ?_
  refine At.then_exit ?_
  refine At.then_exit ?_
  refine At.in_exit ?_
  subst H
  replace H := HKl26
  refine At.then ?_
  refine sr0 ?_
  refine mv0 rfl ?_
  refine mv0 rfl ?_
  obtain ⟨x53, h54, H⟩ := bind_some H
  have g55 := lat_some h54
  obtain ⟨⟨r56v, r56h⟩, r56g, r56e, r56m⟩ := map_get fm8 g55.2.2
  obtain rfl : x53 = r56v := r56e.symm
  have hh57 := row_h r56g
  refine Lst.r (Ev.indexS (α := LR Bool) (xs := rs7) rfl rfl Try.runUnderlying73 Try.sizeOf75 rfl (by decide) (rdo 2 rfl rfl rfl) g55.1 (by have := map_len fm8; omega)) ?_
  refine Lst.r (Ev.loadS (α := LR Bool) rfl (rdo 2 rfl rfl rfl) Try.isAgg75 (v := Sl.v r56h) ((Get.elemN (s := 1) rfl r56g gh0).off (by omega))) ?_
  refine mv0 rfl ?_
  obtain ⟨x58, h59, H⟩ := bind_some H
  have g60 := lat_some h59
  refine Lst.r (Ev.indexS (α := Bool) (xs := x53) rfl rfl Try.runUnderlying75 Try.sizeOf4 rfl (by decide) (Rd.row (j := 1) rfl r56g) g60.1 g60.2.1) ?_
  refine Lst.r (Ev.loadS (α := Bool) rfl (Rd.row (j := 1) rfl r56g) Try.isAgg4 (v := .bool x58) ((Get.elemN (s := 1) (x := x58) rfl g60.2.2 gh0).off (by omega))) ?_
  refine mv0 rfl ?_
  rcases (Bool.eq_false_or_eq_true x58).symm with hb61 | hb61
  ·replace H := ite_f hb61 H
   refine Lst.skip rfl rfl rfl hb61 rfl (by decide) ?_
   refine Lst.skip rfl rfl rfl hb61 rfl (by decide) ?_
   refine Lst.skipU rfl rfl rfl rfl (by decide) ?_
   refine Lst.skip rfl rfl rfl hb61 rfl (by decide) ?_
   refine Lst.skip rfl rfl rfl hb61 rfl (by decide) ?_
   refine Lst.r (Ev.pickF rfl hb61 rfl) ?_
   refine nt0 ?_
   refine Cd.condF rfl rfl ?_
   refine Cd.skip ?_
   refine At.in_normal ?_
   refine At.then ?_
   refine Cd.as (e' := [(1, .bool a1), (2, pv b1 0), (5, Sl.v s6), (6, Sl.v s21), (7, iv (i14 : Int)), (17, iv a0.N), (18, iv (i14 : Int)), (22, iv a0.N), (23, iv (i20 : Int))]) (L' := (.own s21 49 2 (encs l22)) :: (.rows (α := Bool) 4 rs7) :: (.own s6 75 1 (encs rs7)) :: (.own Sl.nil 49 2 (encs ([] : List Pair))) :: (.blk b1 (enc (PosetR.mk a0 s_a0_1)) 24) :: L) ⟨rfl, rfl, rfl, rfl, rfl, rfl, rfl, rfl, rfl, trivial⟩ rfl ?_
   refine Cd.region ?_
   refine Lst.r (Ev.incr (by omega) rfl rfl) ?_
   refine mv0 rfl ?_
   refine Lst.nil ?_
   exact At.meet (i20 + 1, k20, s21, l22) (FLe.trans hF24 hF29) ⟨rfl, rfl, rfl, rfl, rfl, rfl, rfl, rfl, rfl, trivial⟩ rfl ⟨⟨hgo20 _ (some_inj H).symm, by omega⟩, Nat.lt_succ_self _⟩
  replace H := ite_t hb61 H
  refine Lst.rG hb61 (Ev.move rfl) ?_
  refine Lst.rG hb61 (Ev.move rfl) ?_
  obtain ⟨o62, H, HKo62⟩ := bind_some H
  refine Lst.join (σ := Bool) 2 (fun y63 => [(1, .bool a1), (2, pv b1 0), (5, Sl.v s6), (6, Sl.v s21), (7, iv (i14 : Int)), (8, iv (i20 : Int)), (17, iv a0.N), (18, iv (i14 : Int)), (22, iv a0.N), (23, iv (i20 : Int)), (58, .bool x58), (62, .bool y63)]) (fun y63 => (.own s21 49 2 (encs l22)) :: (.rows (α := Bool) 4 rs7) :: (.own s6 75 1 (encs rs7)) :: (.own Sl.nil 49 2 (encs ([] : List Pair))) :: (.blk b1 (enc (PosetR.mk a0 s_a0_1)) 24) :: L) (fun _ y63 => y63 = o62) ?_ ?_
  ·rcases (Bool.eq_false_or_eq_true a1).symm with hb64 | hb64
   ·replace H := ite_f hb64 H
    refine Lst.skip rfl rfl rfl hb64 rfl (by decide) ?_
    refine Lst.rG hb61 (Ev.pickF rfl hb64 rfl) ?_
    refine Lst.nil ?_
    exact At.meet false fl ⟨rfl, rfl, rfl, rfl, rfl, rfl, rfl, rfl, rfl, rfl, rfl, rfl, trivial⟩ rfl (some_inj H)
   replace H := ite_t hb64 H
   refine Lst.rG hb64 (Ev.move rfl) ?_
   refine Lst.rG hb61 (Ev.pickT rfl hb64 rfl) ?_
   refine Lst.nil ?_
   exact At.meet y27 fl ⟨rfl, rfl, rfl, rfl, rfl, rfl, rfl, rfl, rfl, rfl, rfl, rfl, trivial⟩ rfl (some_inj H)
  rintro F65 y63 hF66 hy
  subst hy
  refine Lst.as (e' := [(1, .bool a1), (2, pv b1 0), (5, Sl.v s6), (6, Sl.v s21), (7, iv (i14 : Int)), (8, iv (i20 : Int)), (17, iv a0.N), (18, iv (i14 : Int)), (22, iv a0.N), (23, iv (i20 : Int)), (58, .bool x58), (62, .bool y63)]) (L' := (.own s21 49 2 (encs l22)) :: (.rows (α := Bool) 4 rs7) :: (.own s6 75 1 (encs rs7)) :: (.own Sl.nil 49 2 (encs ([] : List Pair))) :: (.blk b1 (enc (PosetR.mk a0 s_a0_1)) 24) :: L) ⟨rfl, rfl, rfl, rfl, rfl, rfl, rfl, rfl, rfl, rfl, rfl, rfl, trivial⟩ rfl ?_
  replace H := HKo62
  refine Lst.rG hb61 (Ev.not rfl) ?_
  refine Lst.r (Ev.pickT rfl hb61 rfl) ?_
  refine nt0 ?_
  rcases (Bool.eq_false_or_eq_true (!y63)).symm with hb67 | hb67
  ·replace H := ite_f hb67 H
   refine Cd.condF rfl hb67 ?_
   refine Cd.skip ?_
   refine At.in_normal ?_
   refine At.then ?_
   refine Cd.region ?_
   refine Lst.r (Ev.incr (by omega) rfl rfl) ?_
   refine mv0 rfl ?_
   refine Lst.nil ?_
   exact At.meet (i20 + 1, k20, s21, l22) (FLe.trans (FLe.trans hF24 hF29) hF66) ⟨rfl, rfl, rfl, rfl, rfl, rfl, rfl, rfl, rfl, trivial⟩ rfl ⟨⟨hgo20 _ (some_inj H).symm, by omega⟩, Nat.lt_succ_self _⟩
  replace H := ite_t hb67 H
  refine Cd.condT rfl hb67 ?_
  refine Cd.region ?_
  refine mv0 rfl ?_
  refine mv0 rfl ?_
  refine mv0 rfl ?_
  refine Lst.r (Ev.build (v := .agg (enc ({ Pair.zero with A := (i14 : Int), B := (i20 : Int) } : Pair)).toArray) (pv := [(0, iv (i14 : Int)), (1, iv (i20 : Int))]) ⟨rfl, rfl, ⟨rfl, rfl, trivial⟩⟩ (fun w => by kernel_rfl)) ?_
  refine Lst.buildSlice (α := Pair) (xs := ([({ Pair.zero with A := (i14 : Int), B := (i20 : Int) } : Pair)] : List Pair)) (pv := [(0, .agg (enc ({ Pair.zero with A := (i14 : Int), B := (i20 : Int) } : Pair)).toArray)]) rfl rfl (by decide) ⟨rfl, rfl, trivial⟩ (run_buildSlice (α := Pair) (z0 := Pair.zero) (xs := ([({ Pair.zero with A := (i14 : Int), B := (i20 : Int) } : Pair)] : List Pair)) Try.runUnderlying22 Try.sizeOf49 Try.zeroValue49 rfl rfl rfl (by decide) rfl (fill_cons (cs := encs (List.replicate 1 Pair.zero)) (cs' := encs ((List.replicate 1 Pair.zero).set 0 ({ Pair.zero with A := (i14 : Int), B := (i20 : Int) } : Pair))) (vs := enc ({ Pair.zero with A := (i14 : Int), B := (i20 : Int) } : Pair)) rfl rfl (Enc.len _) ((Put.elemN (s := 2) (i := 0) (x := Pair.zero) (y := ({ Pair.zero with A := (i14 : Int), B := (i20 : Int) } : Pair)) rfl rfl (Put.here ((Enc.len _).trans (Enc.len _).symm))).off rfl) fill_nil)) rfl rfl (by decide) (fun s68 _ => ?_)
  obtain ⟨u70, h71, H⟩ := bind_some H
  refine Lst.append (i := 1) (α := Pair) (xs := l22) (ys := ([({ Pair.zero with A := (i14 : Int), B := (i20 : Int) } : Pair)] : List Pair)) rfl rfl (by decide) rfl rfl Try.runUnderlying22 Try.typeInfo49 rfl rfl rfl rfl rfl rfl (rdo 0 rfl rfl rfl) rfl (room_some h71) rfl (fun s72 => ?_)
  refine Lst.its (L' := (.own s68 49 2 (encs ([({ Pair.zero with A := (i14 : Int), B := (i20 : Int) } : Pair)] : List Pair))) :: (.own s72 49 2 (encs (l22 ++ ([({ Pair.zero with A := (i14 : Int), B := (i20 : Int) } : Pair)] : List Pair)))) :: (.rows (α := Bool) 4 rs7) :: (.own s6 75 1 (encs rs7)) :: (.own Sl.nil 49 2 (encs ([] : List Pair))) :: (.blk b1 (enc (PosetR.mk a0 s_a0_1)) 24) :: L) rfl ?_
  refine Lst.r (Ev.assign rfl) ?_
  refine Lst.nil ?_
  refine At.in_normal ?_
  refine At.then ?_
  refine Cd.region ?_
  refine Lst.r (Ev.incr (by omega) rfl rfl) ?_
  refine mv0 rfl ?_
  refine Lst.nil ?_
  refine At.less (L' := (.own s72 49 2 (encs (l22 ++ ([({ Pair.zero with A := (i14 : Int), B := (i20 : Int) } : Pair)] : List Pair)))) :: (.rows (α := Bool) 4 rs7) :: (.own s6 75 1 (encs rs7)) :: (.own Sl.nil 49 2 (encs ([] : List Pair))) :: (.blk b1 (enc (PosetR.mk a0 s_a0_1)) 24) :: L) (sc1 (sk1 (sk1 (sk1 (sk1 (sk1 (.refl _))))))) ?_
  exact At.meet (i20 + 1, k20, s72, l22 ++ ([({ Pair.zero with A := (i14 : Int), B := (i20 : Int) } : Pair)] : List Pair)) (FLe.trans (FLe.trans hF24 hF29) hF66) ⟨rfl, rfl, rfl, rfl, rfl, rfl, rfl, rfl, rfl, trivial⟩ rfl ⟨⟨hgo20 _ (some_inj H).symm, by omega⟩, Nat.lt_succ_self _⟩
 have hc26 : decide ((i26 : Int) < a0.N) = true := decide_eq_true (by omega)
 obtain ⟨c26, H, hgo26⟩ := rangeF_go H
 unfold partref_AllPairs_B4 at H
 try dsimp only at H
 refine sr0 ?_
 refine Lst.r (Ev.lss rfl rfl) ?_
 refine nt0 ?_
 refine Cd.seq ?_
 refine Cd.condT rfl hc26 ?_
 refine Cd.skip ?_
 refine At.then ?_
 refine Cd.seq ?_
 refine Cd.block ?_
 refine sr0 ?_
 refine mv0 rfl ?_
 refine Lst.r (Ev.assign rfl) ?_
 refine nt0 ?_
 refine Cd.region ?_
 refine mv0 rfl ?_
 refine mv0 rfl ?_
 rcases Bool.eq_false_or_eq_true y27 with hb31 | hb31
 ·replace H := ite_t hb31 H
  refine Lst.skip rfl rfl rfl hb31 rfl (by decide) ?_
  refine Lst.skip rfl rfl rfl hb31 rfl (by decide) ?_
  refine Lst.skip rfl rfl rfl hb31 rfl (by decide) ?_
  refine Lst.skip rfl rfl rfl hb31 rfl (by decide) ?_
  refine Lst.skip rfl rfl rfl hb31 rfl (by decide) ?_
  refine Lst.skip rfl rfl rfl hb31 rfl (by decide) ?_
  refine Lst.skip rfl rfl rfl hb31 rfl (by decide) ?_
  refine Lst.skip rfl rfl rfl hb31 rfl (by decide) ?_
  refine Lst.skipU rfl rfl rfl rfl (by decide) ?_
  refine Lst.skipU rfl rfl rfl rfl (by decide) ?_
  refine Lst.skipU rfl rfl rfl rfl (by decide) ?_
  refine Lst.skipU rfl rfl rfl rfl (by decide) ?_
  refine Lst.skipU rfl rfl rfl rfl (by decide) ?_
  refine Lst.skipU rfl rfl rfl rfl (by decide) ?_
  refine Lst.skipU rfl rfl rfl rfl (by decide) ?_
  refine Lst.skip rfl rfl rfl hb31 rfl (by decide) ?_
  refine Lst.r (Ev.pickT rfl hb31 rfl) ?_
  refine Lst.r (Ev.assign rfl) ?_
  refine Lst.nil ?_
  refine At.in_normal ?_
  refine At.then ?_
  refine Cd.as (e' := [(1, .bool a1), (2, pv b1 0), (5, Sl.v s6), (6, Sl.v s21), (7, iv (i14 : Int)), (8, iv (i20 : Int)), (9, .bool true), (17, iv a0.N), (18, iv (i14 : Int)), (22, iv a0.N), (23, iv (i20 : Int)), (27, iv a0.N), (28, iv (i26 : Int))]) (L' := (.own s21 49 2 (encs l22)) :: (.rows (α := Bool) 4 rs7) :: (.own s6 75 1 (encs rs7)) :: (.own Sl.nil 49 2 (encs ([] : List Pair))) :: (.blk b1 (enc (PosetR.mk a0 s_a0_1)) 24) :: L) ⟨rfl, rfl, rfl, rfl, rfl, rfl, rfl, rfl, rfl, rfl, rfl, rfl, rfl, trivial⟩ rfl ?_
  refine Cd.region ?_
  refine Lst.r (Ev.incr (by omega) rfl rfl) ?_
  refine mv0 rfl ?_
  refine Lst.nil ?_
  exact At.meet (i26 + 1, k26, true) hF29 ⟨rfl, rfl, rfl, rfl, rfl, rfl, rfl, rfl, rfl, rfl, rfl, rfl, rfl, trivial⟩ rfl ⟨⟨hgo26 _ (some_inj H).symm, by omega⟩, Nat.lt_succ_self _⟩
 replace H := ite_f hb31 H
 refine Lst.rG hb31 (Ev.move rfl) ?_
 refine Lst.rG hb31 (Ev.move rfl) ?_
 obtain ⟨x32, h33, H⟩ := bind_some H
 have g34 := lat_some h33
 obtain ⟨⟨r35v, r35h⟩, r35g, r35e, r35m⟩ := map_get fm8 g34.2.2
 obtain rfl : x32 = r35v := r35e.symm
 have hh36 := row_h r35g
 refine Lst.rG hb31 (Ev.indexS (α := LR Bool) (xs := rs7) rfl rfl Try.runUnderlying73 Try.sizeOf75 rfl (by decide) (rdo 2 rfl rfl rfl) g34.1 (by have := map_len fm8; omega)) ?_
 refine Lst.rG hb31 (Ev.loadS (α := LR Bool) rfl (rdo 2 rfl rfl rfl) Try.isAgg75 (v := Sl.v r35h) ((Get.elemN (s := 1) rfl r35g gh0).off (by omega))) ?_
 refine Lst.rG hb31 (Ev.move rfl) ?_
 obtain ⟨x37, h38, H⟩ := bind_some H
 have g39 := lat_some h38
 refine Lst.rG hb31 (Ev.indexS (α := Bool) (xs := x32) rfl rfl Try.runUnderlying75 Try.sizeOf4 rfl (by decide) (Rd.row (j := 1) rfl r35g) g39.1 g39.2.1) ?_
 refine Lst.rG hb31 (Ev.loadS (α := Bool) rfl (Rd.row (j := 1) rfl r35g) Try.isAgg4 (v := .bool x37) ((Get.elemN (s := 1) (x := x37) rfl g39.2.2 gh0).off (by omega))) ?_
 refine Lst.rG hb31 (Ev.move rfl) ?_
 obtain ⟨o40, H, HKo40⟩ := bind_some H
 refine Lst.join (σ := Bool) 8 (fun y41 => [(1, .bool a1), (2, pv b1 0), (5, Sl.v s6), (6, Sl.v s21), (7, iv (i14 : Int)), (8, iv (i20 : Int)), (9, .bool y27), (17, iv a0.N), (18, iv (i14 : Int)), (22, iv a0.N), (23, iv (i20 : Int)), (27, iv a0.N), (28, iv (i26 : Int)), (32, .bool y27), (48, .bool y41)]) (fun y41 => (.own s21 49 2 (encs l22)) :: (.rows (α := Bool) 4 rs7) :: (.own s6 75 1 (encs rs7)) :: (.own Sl.nil 49 2 (encs ([] : List Pair))) :: (.blk b1 (enc (PosetR.mk a0 s_a0_1)) 24) :: L) (fun _ y41 => y41 = o40) ?_ ?_
 ·rcases (Bool.eq_false_or_eq_true x37).symm with hb42 | hb42
  ·replace H := ite_f hb42 H
   refine Lst.skip rfl rfl rfl hb42 rfl (by decide) ?_
   refine Lst.skip rfl rfl rfl hb42 rfl (by decide) ?_
   refine Lst.skip rfl rfl rfl hb42 rfl (by decide) ?_
   refine Lst.skip rfl rfl rfl hb42 rfl (by decide) ?_
   refine Lst.skip rfl rfl rfl hb42 rfl (by decide) ?_
   refine Lst.skip rfl rfl rfl hb42 rfl (by decide) ?_
   refine Lst.skip rfl rfl rfl hb42 rfl (by decide) ?_
   refine Lst.rG hb31 (Ev.pickF rfl hb42 rfl) ?_
   refine Lst.nil ?_
   exact At.meet false fl ⟨rfl, rfl, rfl, rfl, rfl, rfl, rfl, rfl, rfl, rfl, rfl, rfl, rfl, rfl, rfl, trivial⟩ rfl (some_inj H)
  replace H := ite_t hb42 H
  refine Lst.rG hb42 (Ev.move rfl) ?_
  refine Lst.rG hb42 (Ev.move rfl) ?_
  obtain ⟨x43, h44, H⟩ := bind_some H
  have g45 := lat_some h44
  obtain ⟨⟨r46v, r46h⟩, r46g, r46e, r46m⟩ := map_get fm8 g45.2.2
  obtain rfl : x43 = r46v := r46e.symm
  have hh47 := row_h r46g
  refine Lst.rG hb42 (Ev.indexS (α := LR Bool) (xs := rs7) rfl rfl Try.runUnderlying73 Try.sizeOf75 rfl (by decide) (rdo 2 rfl rfl rfl) g45.1 (by have := map_len fm8; omega)) ?_
  refine Lst.rG hb42 (Ev.loadS (α := LR Bool) rfl (rdo 2 rfl rfl rfl) Try.isAgg75 (v := Sl.v r46h) ((Get.elemN (s := 1) rfl r46g gh0).off (by omega))) ?_
  refine Lst.rG hb42 (Ev.move rfl) ?_
  obtain ⟨x48, h49, H⟩ := bind_some H
  have g50 := lat_some h49
  refine Lst.rG hb42 (Ev.indexS (α := Bool) (xs := x43) rfl rfl Try.runUnderlying75 Try.sizeOf4 rfl (by decide) (Rd.row (j := 1) rfl r46g) g50.1 g50.2.1) ?_
  refine Lst.rG hb42 (Ev.loadS (α := Bool) rfl (Rd.row (j := 1) rfl r46g) Try.isAgg4 (v := .bool x48) ((Get.elemN (s := 1) (x := x48) rfl g50.2.2 gh0).off (by omega))) ?_
  refine Lst.rG hb31 (Ev.pickT rfl hb42 rfl) ?_
  refine Lst.nil ?_
  exact At.meet x48 fl ⟨rfl, rfl, rfl, rfl, rfl, rfl, rfl, rfl, rfl, rfl, rfl, rfl, rfl, rfl, rfl, trivial⟩ rfl (some_inj H)
 rintro F51 y41 hF52 hy
 subst hy
 refine Lst.as (e' := [(1, .bool a1), (2, pv b1 0), (5, Sl.v s6), (6, Sl.v s21), (7, iv (i14 : Int)), (8, iv (i20 : Int)), (9, .bool y27), (17, iv a0.N), (18, iv (i14 : Int)), (22, iv a0.N), (23, iv (i20 : Int)), (27, iv a0.N), (28, iv (i26 : Int)), (32, .bool y27), (48, .bool y41)]) (L' := (.own s21 49 2 (encs l22)) :: (.rows (α := Bool) 4 rs7) :: (.own s6 75 1 (encs rs7)) :: (.own Sl.nil 49 2 (encs ([] : List Pair))) :: (.blk b1 (enc (PosetR.mk a0 s_a0_1)) 24) :: L) ⟨rfl, rfl, rfl, rfl, rfl, rfl, rfl, rfl, rfl, rfl, rfl, rfl, rfl, rfl, rfl, trivial⟩ rfl ?_
 replace H := HKo40
 refine Lst.r (Ev.pickF rfl hb31 rfl) ?_
 refine Lst.r (Ev.assign rfl) ?_
 refine Lst.nil ?_
 refine At.in_normal ?_
 refine At.then ?_
 refine Cd.region ?_
 refine Lst.r (Ev.incr (by omega) rfl rfl) ?_
 refine mv0 rfl ?_
 refine Lst.nil ?_
 exact At.meet (i26 + 1, k26, y41) (FLe.trans hF29 hF52) ⟨rfl, rfl, rfl, rfl, rfl, rfl, rfl, rfl, rfl, rfl, rfl, rfl, rfl, trivial⟩ rfl ⟨⟨hgo26 _ (some_inj H).symm, by omega⟩, Nat.lt_succ_self _⟩
set_option maxRecDepth 20000 in
theorem slices_Index_api_Pair_api_Pair_sim {a0 : List Pair} {a1 : Pair} {s_a0 : Sl} {r : Int} (H : slices_Index_api_Pair_api_Pair a0 a1 = some r) (w0 : World) (F : Frz) (M L : List Item) (hM : M.Sublist L) (hs_a0 : Rd w0 F M s_a0 a0) : Ok Try.prog w0 79 [Sl.v s_a0, .agg (enc a1).toArray] F (L) (Is (iv r) (L)) := by
 unfold slices_Index_api_Pair_api_Pair at H
 refine Ok.enter (m := 2) (n := 19) Try.func79 rfl rfl rfl (by decide) ?_
 refine Cd.env (e' := [(0, Sl.v s_a0), (1, .agg (enc a1).toArray)]) rfl ?_
 refine sr0 ?_
 refine Lst.box rfl rfl (by decide) rfl (cs := enc a1) rfl (fun b1 => ?_)
 refine Lst.r (Ev.assign rfl) ?_
 refine nt0 ?_
 refine Cd.seq ?_
 refine sr0 ?_
 refine mv0 rfl ?_
 refine Lst.r (Ev.lenS (α := Pair) (xs := a0) (by decide) rfl rfl Try.runUnderlying22 (hs_a0.mono fl (sc1 hM))) ?_
 refine mv0 rfl ?_
 refine nt0 ?_
 refine Cd.block ?_
 refine Cd.bound (Rd.le (α := Pair) (xs := a0) (by decide) (hs_a0.mono fl (sc1 hM))) (fun hN10 => ?_)
 obtain ⟨ol3, H, HKl3⟩ := andThen_some H
 refine Cd.loop (σ := Nat × Nat × Unit) (fun (i3, k3, _u) => [(0, Sl.v s_a0), (3, pv b1 0), (7, iv (a0.length : Int)), (8, iv (i3 : Int))]) (fun (i3, k3, _u) => (.blk b1 (enc a1) 49) :: L) (fun _ => (fun (i3, k3, _u) => rangeM (slices_Index_api_Pair_api_Pair_B0 a0 a1) k3 i3 () = some ol3 ∧ i3 + k3 = a0.length)) (fun (i3, k3, _u) => k3) (0, a0.length, ()) ⟨rfl, rfl, rfl, rfl, trivial⟩ rfl ⟨H, by omega⟩ ?_
 rintro F4 ⟨i3, k3, _u⟩ hF5 ⟨H, hik3⟩
 refine Cd.as (e' := [(0, Sl.v s_a0), (3, pv b1 0), (7, iv (a0.length : Int)), (8, iv (i3 : Int))]) (L' := (.blk b1 (enc a1) 49) :: L) ⟨rfl, rfl, rfl, rfl, trivial⟩ rfl ?_
 rcases k3 with _ | k3
 ·have hc3 : decide ((i3 : Int) < (a0.length : Int)) = false := decide_eq_false (by omega)
  replace H := rangeM_end H
  refine sr0 ?_
  refine Lst.r (Ev.lss rfl rfl) ?_
  refine nt0 ?_
  refine Cd.seq ?_
  refine Cd.condF rfl hc3 ?_
  refine Cd.exit ?_
  refine At.then_exit ?_
  refine At.then_exit ?_
  refine At.in_exit ?_
  subst H
  replace H := HKl3
  refine At.then ?_
  refine sr0 ?_
  refine Lst.r (Ev.assign rfl) ?_
  refine nt0 ?_
  obtain rfl := some_inj H
  refine Cd.ret ?_
  exact At.ret1 rfl (Res.tmp rfl) hF5 (sc1 (.refl _)) ⟨rfl, rfl⟩
 have hc3 : decide ((i3 : Int) < (a0.length : Int)) = true := decide_eq_true (by omega)
 obtain ⟨c3, H, hgo3, hbrk3, hret3⟩ := rangeM_go H
 unfold slices_Index_api_Pair_api_Pair_B0 at H
 try dsimp only at H
 refine sr0 ?_
 refine Lst.r (Ev.lss rfl rfl) ?_
 refine nt0 ?_
 refine Cd.seq ?_
 refine Cd.condT rfl hc3 ?_
 refine Cd.skip ?_
 refine At.then ?_
 refine Cd.seq ?_
 refine Cd.block ?_
 refine sr0 ?_
 refine mv0 rfl ?_
 refine Lst.r (Ev.assign rfl) ?_
 refine nt0 ?_
 refine Cd.seq ?_
 refine Cd.quiet (by kernel_rfl) (by kernel_rfl) ?_
 refine Qt.r (Ev.loadA (i := 0) rfl rfl Try.isAgg49 Try.sizeOf49 (ch := enc a1) (Enc.len _) gh0) ?_
 refine Qt.r (Ev.move rfl) ?_
 refine Qt.r (Ev.move rfl) ?_
 obtain ⟨x6, h7, H⟩ := bind_some H
 have g8 := lat_some h7
 refine Qt.r (Ev.indexS (α := Pair) (xs := a0) rfl rfl Try.runUnderlying22 Try.sizeOf49 rfl (by decide) (hs_a0.mono hF5 (sc1 hM)) g8.1 g8.2.1) ?_
 refine Qt.r (Ev.loadSA (α := Pair) rfl (hs_a0.mono hF5 (sc1 hM)) Try.isAgg49 Try.sizeOf49 (ch := enc x6) (Enc.len _) (by decide) ((Get.elemN (s := 2) (x := x6) rfl g8.2.2 gh0).off (by omega))) ?_
 refine Qt.r (Ev.eqlA rfl rfl (by kernel_rfl) (eq49 _ _)) ?_
 refine Qt.done ?_
 refine At.then ?_
 rcases Bool.eq_false_or_eq_true (decide (a1 = x6)) with hb9 | hb9
 ·replace H := ite_t hb9 H
  refine Cd.condT rfl hb9 ?_
  refine sr0 ?_
  refine mv0 rfl ?_
  refine Lst.r (Ev.assign rfl) ?_
  refine nt0 ?_
  have H := hret3 _ (some_inj H).symm
  subst H
  replace H := HKl3
  obtain rfl := some_inj H
  refine Cd.ret ?_
  refine At.in_ret ?_
  refine At.then_ret ?_
  refine At.then_ret ?_
  refine At.in_ret ?_
  refine At.then_ret ?_
  exact At.ret1 rfl (Res.tmp rfl) hF5 (sc1 (.refl _)) ⟨rfl, rfl⟩
 replace H := ite_f hb9 H
 refine Cd.condF rfl hb9 ?_
 refine Cd.skip ?_
 refine At.in_normal ?_
 refine At.then ?_
 refine Cd.region ?_
 refine Lst.r (Ev.incr (by omega) rfl rfl) ?_
 refine mv0 rfl ?_
 refine Lst.nil ?_
 exact At.meet (i3 + 1, k3, ()) hF5 ⟨rfl, rfl, rfl, rfl, trivial⟩ rfl ⟨⟨hgo3 _ (some_inj H).symm, by omega⟩, Nat.lt_succ_self _⟩
set_option maxRecDepth 20000 in
theorem slices_Contains_api_Pair_api_Pair_sim {a0 : List Pair} {a1 : Pair} {s_a0 : Sl} {r : Bool} (H : slices_Contains_api_Pair_api_Pair a0 a1 = some r) (w0 : World) (F : Frz) (M L : List Item) (hM : M.Sublist L) (hs_a0 : Rd w0 F M s_a0 a0) : Ok Try.prog w0 66 [Sl.v s_a0, .agg (enc a1).toArray] F (L) (Is (.bool r) (L)) := by
 unfold slices_Contains_api_Pair_api_Pair at H
 refine Ok.enter (m := 2) (n := 9) Try.func66 rfl rfl rfl (by decide) ?_
 refine Cd.env (e' := [(0, Sl.v s_a0), (1, .agg (enc a1).toArray)]) rfl ?_
 refine sr0 ?_
 refine Lst.box rfl rfl (by decide) rfl (cs := enc a1) rfl (fun b1 => ?_)
 refine Lst.r (Ev.assign rfl) ?_
 refine nsr ?_
 refine mv0 rfl ?_
 refine Lst.r (Ev.loadA (i := 0) rfl rfl Try.isAgg49 Try.sizeOf49 (ch := enc a1) (Enc.len _) gh0) ?_
 obtain ⟨r3, h4, H⟩ := bind_some H
 refine Lst.call1 rfl rfl (by decide) (vs := [Sl.v s_a0, .agg (enc a1).toArray]) ⟨rfl, rfl, trivial⟩ Try.call79 (slices_Index_api_Pair_api_Pair_sim h4 w0 _ M _ (sc1 hM) (hs_a0.mono fl (.refl _))) ?_
 refine Lst.r (Ev.geq rfl rfl) ?_
 refine Lst.r (Ev.assign rfl) ?_
 refine nt0 ?_
 obtain rfl := some_inj H
 refine Cd.ret ?_
 exact At.ret1 rfl (Res.tmp rfl) fl (sc1 (.refl _)) ⟨rfl, rfl⟩
set_option maxRecDepth 20000 in
theorem partref_Most_1_sim {a0 : Int} {a1 : Int} {a2 : List Pair} {b_a2 : Nat} {s_a2 : Sl} {r : Bool} (H : partref_Most_1 a0 a1 a2 = some r) (w0 : World) (F : Frz) (M L : List Item) (hM : M.Sublist L) (hs_a2 : Rd w0 F M s_a2 a2) : Ok Try.prog w0 65 [iv a0, iv a1, pv b_a2 0] F ((.blk b_a2 (enc s_a2) 22) :: L) (Is (.bool r) ((.blk b_a2 (enc s_a2) 22) :: L)) := by
 unfold partref_Most_1 at H
 refine Ok.enter (m := 3) (n := 11) Try.func65 rfl rfl rfl (by decide) ?_
 refine Cd.env (e' := [(0, iv a0), (1, iv a1), (2, pv b_a2 0)]) rfl ?_
 refine sr0 ?_
 refine Lst.r (Ev.assign rfl) ?_
 refine nsr ?_
 refine Lst.r (Ev.load (i := 0) rfl rfl Try.isAgg22 (v := Sl.v s_a2) gh0) ?_
 refine mv0 rfl ?_
 refine mv0 rfl ?_
 refine Lst.r (Ev.build (v := .agg (enc ({ Pair.zero with A := a0, B := a1 } : Pair)).toArray) (pv := [(0, iv a0), (1, iv a1)]) ⟨rfl, rfl, ⟨rfl, rfl, trivial⟩⟩ (fun w => by kernel_rfl)) ?_
 obtain ⟨r2, h3, H⟩ := bind_some H
 refine Lst.call1 rfl rfl (by decide) (vs := [Sl.v s_a2, .agg (enc ({ Pair.zero with A := a0, B := a1 } : Pair)).toArray]) ⟨rfl, rfl, trivial⟩ Try.call66 (slices_Contains_api_Pair_api_Pair_sim h3 w0 _ M _ (sc1 hM) (hs_a2.mono fl (.refl _))) ?_
 refine Lst.r (Ev.assign rfl) ?_
 refine nt0 ?_
 obtain rfl := some_inj H
 refine Cd.ret ?_
 exact At.ret1 rfl (Res.tmp rfl) fl (sk1 (.refl _)) ⟨rfl, rfl⟩
set_option maxRecDepth 20000 in
theorem partref_Most_2_simR : ∀ (fu : Nat) {a0 : Int} {a1 : List Bool} {a2 : Int} {a3_c0 : List Pair} {a4 : List Int} {s_a1 : Sl} {b_a2 : Nat} {b_a3 : Nat} {b_a3_c0 : Nat} {s_a3_c0 : Sl} {b_a4 : Nat} {s_a4 : Sl} {b_a5 : Nat} {r : (List Bool) × (List Int) × Bool} (H : partref_Most_2 fu a0 a1 a2 a3_c0 a4 = some r) (w0 : World) (F : Frz) (M L : List Item) (hM : M.Sublist L) (hs_a3_c0 : Rd w0 F M s_a3_c0 a3_c0), Ok Try.prog w0 68 [iv a0, Sl.v s_a1, pv b_a2 0, pv b_a3 0, pv b_a4 0, pv b_a5 0] F ((.own s_a1 4 1 (encs a1)) :: (.blk b_a2 (enc a2) 3) :: (.blk b_a3_c0 (enc s_a3_c0) 22) :: (.blk b_a3 [.func (.func 65) #[] #[pv b_a3_c0 0]] 94) :: (.own s_a4 3 1 (encs a4)) :: (.blk b_a4 (enc s_a4) 34) :: (.blk b_a5 [.func (.func 68) #[] #[pv b_a2 0, pv b_a3 0, pv b_a4 0, pv b_a5 0]] 108) :: L) (fun _ L' v => v = .bool r.2.2 ∧ L' = (.own s_a1 4 1 (encs r.1)) :: (.blk b_a2 (enc a2) 3) :: (.blk b_a3_c0 (enc s_a3_c0) 22) :: (.blk b_a3 [.func (.func 65) #[] #[pv b_a3_c0 0]] 94) :: (.own s_a4 3 1 (encs r.2.1)) :: (.blk b_a4 (enc s_a4) 34) :: (.blk b_a5 [.func (.func 68) #[] #[pv b_a2 0, pv b_a3 0, pv b_a4 0, pv b_a5 0]] 108) :: L) := by
 intro fu
 induction fu with
 | zero => intro a0 a1 a2 a3_c0 a4 s_a1 b_a2 b_a3 b_a3_c0 s_a3_c0 b_a4 s_a4 b_a5 r H; exact nomatch (show (none : Option ((List Bool) × (List Int) × Bool)) = some _ from H)
 | succ fu ih =>
  intro a0 a1 a2 a3_c0 a4 s_a1 b_a2 b_a3 b_a3_c0 s_a3_c0 b_a4 s_a4 b_a5 r H w0 F M L hM hs_a3_c0
  replace H : partref_Most_2_R (partref_Most_2 fu) a0 a1 a2 a3_c0 a4 = some r := H
  generalize partref_Most_2 fu = rc at H ih
  unfold partref_Most_2_R at H
  refine Ok.enter (m := 6) (n := 59) Try.func68 rfl rfl rfl (by decide) ?_
  refine Cd.env (e' := [(0, iv a0), (1, Sl.v s_a1), (2, pv b_a2 0), (3, pv b_a3 0), (4, pv b_a4 0), (5, pv b_a5 0)]) rfl ?_
  refine sr0 ?_
  refine Lst.r (Ev.assign rfl) ?_
  refine nt0 ?_
  refine Cd.seq ?_
  refine sr0 ?_
  refine Lst.r (Ev.load (i := 1) rfl rfl Try.isAgg3 (v := iv a2) gh0) ?_
  refine mv0 rfl ?_
  refine nt0 ?_
  refine Cd.block ?_
  obtain ⟨nn13, hN68, H⟩ := bind_some H
  replace hN68 := upTo_some hN68
  obtain ⟨ol8, H, HKl8⟩ := andThen_some H
  refine Cd.loop (σ := Nat × Nat × (List Bool) × (List Int)) (fun (i8, k8, l9, l10) => [(0, iv a0), (1, Sl.v s_a1), (3, pv b_a3 0), (4, pv b_a4 0), (5, pv b_a5 0), (11, iv a2), (12, iv (i8 : Int))]) (fun (i8, k8, l9, l10) => (.own s_a1 4 1 (encs l9)) :: (.blk b_a2 (enc a2) 3) :: (.blk b_a3_c0 (enc s_a3_c0) 22) :: (.blk b_a3 [.func (.func 65) #[] #[pv b_a3_c0 0]] 94) :: (.own s_a4 3 1 (encs l10)) :: (.blk b_a4 (enc s_a4) 34) :: (.blk b_a5 [.func (.func 68) #[] #[pv b_a2 0, pv b_a3 0, pv b_a4 0, pv b_a5 0]] 108) :: L) (fun _ => (fun (i8, k8, l9, l10) => rangeM (partref_Most_2_B0 a0 a2 a3_c0 rc) k8 i8 (l9, l10) = some ol8 ∧ i8 + k8 = nn13)) (fun (i8, k8, l9, l10) => k8) (0, nn13, a1, a4) ⟨rfl, rfl, rfl, rfl, rfl, rfl, rfl, trivial⟩ rfl ⟨H, by omega⟩ ?_
  rintro F11 ⟨i8, k8, l9, l10⟩ hF12 ⟨H, hik8⟩
  refine Cd.as (e' := [(0, iv a0), (1, Sl.v s_a1), (3, pv b_a3 0), (4, pv b_a4 0), (5, pv b_a5 0), (11, iv a2), (12, iv (i8 : Int))]) (L' := (.own s_a1 4 1 (encs l9)) :: (.blk b_a2 (enc a2) 3) :: (.blk b_a3_c0 (enc s_a3_c0) 22) :: (.blk b_a3 [.func (.func 65) #[] #[pv b_a3_c0 0]] 94) :: (.own s_a4 3 1 (encs l10)) :: (.blk b_a4 (enc s_a4) 34) :: (.blk b_a5 [.func (.func 68) #[] #[pv b_a2 0, pv b_a3 0, pv b_a4 0, pv b_a5 0]] 108) :: L) ⟨rfl, rfl, rfl, rfl, rfl, rfl, rfl, trivial⟩ rfl ?_
  rcases k8 with _ | k8
  ·have hc8 : decide ((i8 : Int) < a2) = false := decide_eq_false (by omega)
   replace H := rangeM_end H
   refine sr0 ?_
   refine Lst.r (Ev.lss rfl rfl) ?_
   refine nt0 ?_
   refine Cd.seq ?_
   refine Cd.condF rfl hc8 ?_
   refine Cd.exit ?_
   refine At.then_exit ?_
   refine At.then_exit ?_
   refine At.in_exit ?_
   subst H
   replace H := HKl8
   refine At.then ?_
   refine sr0 ?_
   refine Lst.r (Ev.assign rfl) ?_
   refine nt0 ?_
   obtain rfl := some_inj H
   refine Cd.ret ?_
   exact At.ret1 rfl (Res.tmp rfl) hF12 (sk1 (sk1 (sk1 (sk1 (sk1 (sk1 (sk1 (.refl _)))))))) ⟨rfl, rfl⟩
  have hc8 : decide ((i8 : Int) < a2) = true := decide_eq_true (by omega)
  obtain ⟨c8, H, hgo8, hbrk8, hret8⟩ := rangeM_go H
  unfold partref_Most_2_B0 at H
  try dsimp only at H
  refine sr0 ?_
  refine Lst.r (Ev.lss rfl rfl) ?_
  refine nt0 ?_
  refine Cd.seq ?_
  refine Cd.condT rfl hc8 ?_
  refine Cd.skip ?_
  refine At.then ?_
  refine Cd.seq ?_
  refine Cd.block ?_
  refine sr0 ?_
  refine mv0 rfl ?_
  refine Lst.r (Ev.assign rfl) ?_
  refine nt0 ?_
  refine Cd.seq ?_
  refine sr0 ?_
  refine Lst.r (Ev.load (i := 3) rfl rfl Try.isAgg94 (v := .func (.func 65) #[] #[pv b_a3_c0 0]) gh0) ?_
  refine mv0 rfl ?_
  refine mv0 rfl ?_
  obtain ⟨r14, h15, H⟩ := bind_some H
  refine Lst.front (i := 2) rfl (L' := (.blk b_a3_c0 (enc s_a3_c0) 22) :: (.own s_a1 4 1 (encs l9)) :: (.blk b_a2 (enc a2) 3) :: (.blk b_a3 [.func (.func 65) #[] #[pv b_a3_c0 0]] 94) :: (.own s_a4 3 1 (encs l10)) :: (.blk b_a4 (enc s_a4) 34) :: (.blk b_a5 [.func (.func 68) #[] #[pv b_a2 0, pv b_a3 0, pv b_a4 0, pv b_a5 0]] 108) :: L) rfl ?_
  refine Lst.callV1 rfl rfl (by decide) (vs := [iv a0, iv (i8 : Int)]) (cs := [pv b_a3_c0 0]) rfl ⟨rfl, rfl, trivial⟩ Try.call65 (partref_Most_1_sim h15 w0 _ M _ (sc4 (sc2 hM)) (hs_a3_c0.mono hF12 (.refl _))) ?_
  refine Lst.r (Ev.not rfl) ?_
  refine mv0 rfl ?_
  obtain ⟨o18, H, HKo18⟩ := bind_some H
  refine Lst.join (σ := Bool) 5 (fun y19 => [(0, iv a0), (1, Sl.v s_a1), (3, pv b_a3 0), (4, pv b_a4 0), (5, pv b_a5 0), (9, iv (i8 : Int)), (11, iv a2), (12, iv (i8 : Int)), (25, .bool y19)]) (fun y19 => (.blk b_a3_c0 (enc s_a3_c0) 22) :: (.own s_a1 4 1 (encs l9)) :: (.blk b_a2 (enc a2) 3) :: (.blk b_a3 [.func (.func 65) #[] #[pv b_a3_c0 0]] 94) :: (.own s_a4 3 1 (encs l10)) :: (.blk b_a4 (enc s_a4) 34) :: (.blk b_a5 [.func (.func 68) #[] #[pv b_a2 0, pv b_a3 0, pv b_a4 0, pv b_a5 0]] 108) :: L) (fun _ y19 => y19 = o18) ?_ ?_
  ·rcases Bool.eq_false_or_eq_true (!r14) with hb20 | hb20
   ·replace H := ite_t hb20 H
    refine Lst.skip rfl rfl rfl hb20 rfl (by decide) ?_
    refine Lst.skip rfl rfl rfl hb20 rfl (by decide) ?_
    refine Lst.skip rfl rfl rfl hb20 rfl (by decide) ?_
    refine Lst.skip rfl rfl rfl hb20 rfl (by decide) ?_
    refine Lst.r (Ev.pickT rfl hb20 rfl) ?_
    refine Lst.nil ?_
    exact At.meet true fl ⟨rfl, rfl, rfl, rfl, rfl, rfl, rfl, rfl, rfl, trivial⟩ rfl (some_inj H)
   replace H := ite_f hb20 H
   refine Lst.rG hb20 (Ev.move rfl) ?_
   refine Lst.rG hb20 (Ev.move rfl) ?_
   obtain ⟨x21, h22, H⟩ := bind_some H
   have g23 := lat_some h22
   refine Lst.rG hb20 (Ev.indexS (α := Bool) (xs := l9) rfl rfl Try.runUnderlying75 Try.sizeOf4 rfl (by decide) (rdo 1 rfl rfl rfl) g23.1 g23.2.1) ?_
   refine Lst.rG hb20 (Ev.loadS (α := Bool) rfl (rdo 1 rfl rfl rfl) Try.isAgg4 (v := .bool x21) ((Get.elemN (s := 1) (x := x21) rfl g23.2.2 gh0).off (by omega))) ?_
   refine Lst.r (Ev.pickF rfl hb20 rfl) ?_
   refine Lst.nil ?_
   exact At.meet x21 fl ⟨rfl, rfl, rfl, rfl, rfl, rfl, rfl, rfl, rfl, trivial⟩ rfl (some_inj H)
  rintro F24 y19 hF25 hy
  subst hy
  refine Lst.as (e' := [(0, iv a0), (1, Sl.v s_a1), (3, pv b_a3 0), (4, pv b_a4 0), (5, pv b_a5 0), (9, iv (i8 : Int)), (11, iv a2), (12, iv (i8 : Int)), (25, .bool y19)]) (L' := (.blk b_a3_c0 (enc s_a3_c0) 22) :: (.own s_a1 4 1 (encs l9)) :: (.blk b_a2 (enc a2) 3) :: (.blk b_a3 [.func (.func 65) #[] #[pv b_a3_c0 0]] 94) :: (.own s_a4 3 1 (encs l10)) :: (.blk b_a4 (enc s_a4) 34) :: (.blk b_a5 [.func (.func 68) #[] #[pv b_a2 0, pv b_a3 0, pv b_a4 0, pv b_a5 0]] 108) :: L) ⟨rfl, rfl, rfl, rfl, rfl, rfl, rfl, rfl, rfl, trivial⟩ rfl ?_
  replace H := HKo18
  refine nt0 ?_
  rcases Bool.eq_false_or_eq_true y19 with hb26 | hb26
  ·replace H := ite_t hb26 H
   refine Cd.condT rfl hb26 ?_
   refine Cd.exit ?_
   refine At.then_exit ?_
   refine At.in_exit ?_
   refine At.then ?_
   refine Cd.region ?_
   refine Lst.r (Ev.incr (by omega) rfl rfl) ?_
   refine mv0 rfl ?_
   refine Lst.nil ?_
   refine At.front (i := 2) rfl rfl ?_
   refine At.front (i := 2) rfl (L' := (.own s_a1 4 1 (encs l9)) :: (.blk b_a2 (enc a2) 3) :: (.blk b_a3_c0 (enc s_a3_c0) 22) :: (.blk b_a3 [.func (.func 65) #[] #[pv b_a3_c0 0]] 94) :: (.own s_a4 3 1 (encs l10)) :: (.blk b_a4 (enc s_a4) 34) :: (.blk b_a5 [.func (.func 68) #[] #[pv b_a2 0, pv b_a3 0, pv b_a4 0, pv b_a5 0]] 108) :: L) rfl ?_
   exact At.meet (i8 + 1, k8, l9, l10) (FLe.trans hF12 hF25) ⟨rfl, rfl, rfl, rfl, rfl, rfl, rfl, trivial⟩ rfl ⟨⟨hgo8 _ (some_inj H).symm, by omega⟩, Nat.lt_succ_self _⟩
  replace H := ite_f hb26 H
  refine Cd.condF rfl hb26 ?_
  refine Cd.skip ?_
  refine At.then ?_
  refine sr0 ?_
  refine mv0 rfl ?_
  refine mv0 rfl ?_
  obtain ⟨x27, h28, H⟩ := bind_some H
  have g29 := lat_some h28
  refine Lst.r (Ev.indexS (α := Bool) (xs := l9) rfl rfl Try.runUnderlying75 Try.sizeOf4 rfl (by decide) (rdo 1 rfl rfl rfl) g29.1 g29.2.1) ?_
  obtain ⟨p30, h31, H⟩ := Let_some H
  refine Lst.storeS (i := 1) rfl rfl rfl rfl rfl Try.sizeOf4 (vs := [.bool true]) rfl rfl (by decide) rfl (xs' := encs p30) (by rw [← h31]; exact (Put.elemN (s := 1) (x := x27) rfl g29.2.2 (Put.here (vs := [.bool true]) rfl)).off (by omega)) (L' := (.blk b_a3_c0 (enc s_a3_c0) 22) :: (.own s_a1 4 1 (encs p30)) :: (.blk b_a2 (enc a2) 3) :: (.blk b_a3 [.func (.func 65) #[] #[pv b_a3_c0 0]] 94) :: (.own s_a4 3 1 (encs l10)) :: (.blk b_a4 (enc s_a4) 34) :: (.blk b_a5 [.func (.func 68) #[] #[pv b_a2 0, pv b_a3 0, pv b_a4 0, pv b_a5 0]] 108) :: L) rfl ?_
  refine nsr ?_
  refine Lst.r (Ev.load (i := 5) rfl rfl Try.isAgg34 (v := Sl.v s_a4) gh0) ?_
  refine mv0 rfl ?_
  obtain ⟨r32, h33, H⟩ := bind_some H
  refine Lst.call1 rfl rfl (by decide) (vs := [Sl.v s_a4, iv (i8 : Int)]) ⟨rfl, rfl, trivial⟩ Try.call60 (slices_Index_int_int_sim h33 w0 _ _ _ (.refl _) (rdo 4 rfl rfl rfl)) ?_
  refine Lst.r (Ev.assign rfl) ?_
  refine nt0 ?_
  refine Cd.seq ?_
  refine sr0 ?_
  refine mv0 rfl ?_
  refine Lst.r (Ev.geq rfl rfl) ?_
  refine mv0 rfl ?_
  rcases (Bool.eq_false_or_eq_true (decide (r32 ≥ (0 : Int)))).symm with hb36 | hb36
  ·replace H := ite_f hb36 H
   refine Lst.skip rfl rfl rfl hb36 rfl (by decide) ?_
   refine Lst.skip rfl rfl rfl hb36 rfl (by decide) ?_
   refine Lst.skip rfl rfl rfl hb36 rfl (by decide) ?_
   refine Lst.skip rfl rfl rfl hb36 rfl (by decide) ?_
   refine Lst.skip rfl rfl rfl hb36 rfl (by decide) ?_
   refine Lst.r (Ev.pickF rfl hb36 rfl) ?_
   refine nt0 ?_
   refine Cd.condF rfl rfl ?_
   refine Cd.skip ?_
   refine At.then ?_
   obtain ⟨o37, H, HKo37⟩ := bind_some H
   refine Cd.join (σ := Unit) (fun (_ : Unit) => [(0, iv a0), (4, pv b_a4 0), (9, iv (i8 : Int))]) (fun (_ : Unit) => (.blk b_a3_c0 (enc s_a3_c0) 22) :: (.own s_a1 4 1 (encs p30)) :: (.blk b_a2 (enc a2) 3) :: (.blk b_a3 [.func (.func 65) #[] #[pv b_a3_c0 0]] 94) :: (.own s_a4 3 1 (encs l10)) :: (.blk b_a4 (enc s_a4) 34) :: (.blk b_a5 [.func (.func 68) #[] #[pv b_a2 0, pv b_a3 0, pv b_a4 0, pv b_a5 0]] 108) :: L) (fun _ (_ : Unit) => () = o37) ?_ ?_
   ·refine Cd.seq ?_
    refine Cd.as (e' := [(0, iv a0), (4, pv b_a4 0), (9, iv (i8 : Int)), (10, iv r32)]) (L' := (.blk b_a3_c0 (enc s_a3_c0) 22) :: (.own s_a1 4 1 (encs p30)) :: (.blk b_a2 (enc a2) 3) :: (.blk b_a3 [.func (.func 65) #[] #[pv b_a3_c0 0]] 94) :: (.own s_a4 3 1 (encs l10)) :: (.blk b_a4 (enc s_a4) 34) :: (.blk b_a5 [.func (.func 68) #[] #[pv b_a2 0, pv b_a3 0, pv b_a4 0, pv b_a5 0]] 108) :: L) ⟨rfl, rfl, rfl, rfl, trivial⟩ rfl ?_
    refine Cd.region ?_
    refine mv0 rfl ?_
    refine Lst.r (Ev.geq rfl rfl) ?_
    refine mv0 rfl ?_
    refine Lst.skip rfl rfl rfl hb36 rfl (by decide) ?_
    refine Lst.skip rfl rfl rfl hb36 rfl (by decide) ?_
    refine Lst.skip rfl rfl rfl hb36 rfl (by decide) ?_
    refine Lst.skip rfl rfl rfl hb36 rfl (by decide) ?_
    refine Lst.skip rfl rfl rfl hb36 rfl (by decide) ?_
    refine Lst.skip rfl rfl rfl hb36 rfl (by decide) ?_
    refine Lst.r (Ev.pickF rfl hb36 rfl) ?_
    refine nt0 ?_
    refine Cd.condF rfl rfl ?_
    refine Cd.skip ?_
    exact At.meet () fl ⟨rfl, rfl, rfl, trivial⟩ rfl (some_inj H)
   rintro F38 _u hF39 hy
   subst hy
   refine Cd.as (e' := [(0, iv a0), (4, pv b_a4 0), (9, iv (i8 : Int))]) (L' := (.blk b_a3_c0 (enc s_a3_c0) 22) :: (.own s_a1 4 1 (encs p30)) :: (.blk b_a2 (enc a2) 3) :: (.blk b_a3 [.func (.func 65) #[] #[pv b_a3_c0 0]] 94) :: (.own s_a4 3 1 (encs l10)) :: (.blk b_a4 (enc s_a4) 34) :: (.blk b_a5 [.func (.func 68) #[] #[pv b_a2 0, pv b_a3 0, pv b_a4 0, pv b_a5 0]] 108) :: L) ⟨rfl, rfl, rfl, trivial⟩ rfl ?_
   replace H := HKo37
   refine sr0 ?_
   refine Lst.r (Ev.load (i := 5) rfl rfl Try.isAgg34 (v := Sl.v s_a4) gh0) ?_
   refine mv0 rfl ?_
   refine mv0 rfl ?_
   obtain ⟨x40, h41, H⟩ := bind_some H
   have g42 := lat_some h41
   refine Lst.r (Ev.indexS (α := Int) (xs := l10) rfl rfl Try.runUnderlying34 Try.sizeOf3 rfl (by decide) (rdo 4 rfl rfl rfl) g42.1 g42.2.1) ?_
   obtain ⟨p43, h44, H⟩ := Let_some H
   refine Lst.storeS (i := 4) rfl rfl rfl rfl rfl Try.sizeOf3 (vs := [iv (i8 : Int)]) rfl rfl (by decide) rfl (xs' := encs p43) (by rw [← h44]; exact (Put.elemN (s := 1) (x := x40) rfl g42.2.2 (Put.here (vs := [iv (i8 : Int)]) rfl)).off (by omega)) (L' := (.blk b_a3_c0 (enc s_a3_c0) 22) :: (.own s_a1 4 1 (encs p30)) :: (.blk b_a2 (enc a2) 3) :: (.blk b_a3 [.func (.func 65) #[] #[pv b_a3_c0 0]] 94) :: (.own s_a4 3 1 (encs p43)) :: (.blk b_a4 (enc s_a4) 34) :: (.blk b_a5 [.func (.func 68) #[] #[pv b_a2 0, pv b_a3 0, pv b_a4 0, pv b_a5 0]] 108) :: L) rfl ?_
   refine nsr ?_
   refine Lst.r (Ev.assign rfl) ?_
   refine nt0 ?_
   have H := hret8 _ (some_inj H).symm
   subst H
   replace H := HKl8
   obtain rfl := some_inj H
   refine Cd.ret ?_
   refine At.in_ret ?_
   refine At.then_ret ?_
   refine At.then_ret ?_
   refine At.in_ret ?_
   refine At.then_ret ?_
   refine At.front (i := 2) rfl rfl ?_
   refine At.front (i := 2) rfl (L' := (.own s_a1 4 1 (encs p30)) :: (.blk b_a2 (enc a2) 3) :: (.blk b_a3_c0 (enc s_a3_c0) 22) :: (.blk b_a3 [.func (.func 65) #[] #[pv b_a3_c0 0]] 94) :: (.own s_a4 3 1 (encs p43)) :: (.blk b_a4 (enc s_a4) 34) :: (.blk b_a5 [.func (.func 68) #[] #[pv b_a2 0, pv b_a3 0, pv b_a4 0, pv b_a5 0]] 108) :: L) rfl ?_
   exact At.ret1 rfl (Res.tmp rfl) (FLe.trans (FLe.trans hF12 hF25) hF39) (sk1 (sk1 (sk1 (sk1 (sk1 (sk1 (sk1 (.refl _)))))))) ⟨rfl, rfl⟩
  replace H := ite_t hb36 H
  refine Lst.rG hb36 (Ev.load (i := 6) rfl rfl Try.isAgg108 (v := .func (.func 68) #[] #[pv b_a2 0, pv b_a3 0, pv b_a4 0, pv b_a5 0]) gh0) ?_
  refine Lst.rG hb36 (Ev.move rfl) ?_
  refine Lst.rG hb36 (Ev.move rfl) ?_
  obtain ⟨r45, h46, H⟩ := bind_some H
  refine Lst.front (i := 6) rfl rfl ?_
  refine Lst.front (i := 6) rfl rfl ?_
  refine Lst.front (i := 6) rfl (L' := (.own s_a4 3 1 (encs l10)) :: (.blk b_a4 (enc s_a4) 34) :: (.blk b_a5 [.func (.func 68) #[] #[pv b_a2 0, pv b_a3 0, pv b_a4 0, pv b_a5 0]] 108) :: (.blk b_a3_c0 (enc s_a3_c0) 22) :: (.own s_a1 4 1 (encs p30)) :: (.blk b_a2 (enc a2) 3) :: (.blk b_a3 [.func (.func 65) #[] #[pv b_a3_c0 0]] 94) :: L) rfl ?_
  refine Lst.front (i := 6) rfl rfl ?_
  refine Lst.front (i := 4) rfl rfl ?_
  refine Lst.front (i := 6) rfl (L' := (.blk b_a2 (enc a2) 3) :: (.blk b_a3_c0 (enc s_a3_c0) 22) :: (.blk b_a3 [.func (.func 65) #[] #[pv b_a3_c0 0]] 94) :: (.own s_a4 3 1 (encs l10)) :: (.blk b_a4 (enc s_a4) 34) :: (.blk b_a5 [.func (.func 68) #[] #[pv b_a2 0, pv b_a3 0, pv b_a4 0, pv b_a5 0]] 108) :: (.own s_a1 4 1 (encs p30)) :: L) rfl ?_
  refine Lst.front (i := 6) rfl (L' := (.own s_a1 4 1 (encs p30)) :: (.blk b_a2 (enc a2) 3) :: (.blk b_a3_c0 (enc s_a3_c0) 22) :: (.blk b_a3 [.func (.func 65) #[] #[pv b_a3_c0 0]] 94) :: (.own s_a4 3 1 (encs l10)) :: (.blk b_a4 (enc s_a4) 34) :: (.blk b_a5 [.func (.func 68) #[] #[pv b_a2 0, pv b_a3 0, pv b_a4 0, pv b_a5 0]] 108) :: L) rfl ?_
  refine Lst.callVG rfl rfl rfl hb36 rfl (by decide) (vs := [iv r32, Sl.v s_a1]) (cs := [pv b_a2 0, pv b_a3 0, pv b_a4 0, pv b_a5 0]) rfl ⟨rfl, rfl, trivial⟩ Try.call68 (ih h46 w0 _ M _ hM (hs_a3_c0.mono (FLe.trans hF12 hF25) (.refl _))) (fun F47 L' v hF48 hv => ?_)
  obtain ⟨rfl, rfl⟩ := hv
  refine Lst.rG hb36 (Ev.not rfl) ?_
  refine Lst.r (Ev.pickT rfl hb36 rfl) ?_
  refine nt0 ?_
  rcases Bool.eq_false_or_eq_true (!r45.2.2) with hb49 | hb49
  ·replace H := ite_t hb49 H
   refine Cd.condT rfl hb49 ?_
   refine Cd.exit ?_
   refine At.then_exit ?_
   refine At.in_exit ?_
   refine At.then ?_
   refine Cd.as (e' := [(0, iv a0), (1, Sl.v s_a1), (3, pv b_a3 0), (4, pv b_a4 0), (5, pv b_a5 0), (11, iv a2), (12, iv (i8 : Int))]) (L' := (.own s_a1 4 1 (encs r45.1)) :: (.blk b_a2 (enc a2) 3) :: (.blk b_a3_c0 (enc s_a3_c0) 22) :: (.blk b_a3 [.func (.func 65) #[] #[pv b_a3_c0 0]] 94) :: (.own s_a4 3 1 (encs r45.2.1)) :: (.blk b_a4 (enc s_a4) 34) :: (.blk b_a5 [.func (.func 68) #[] #[pv b_a2 0, pv b_a3 0, pv b_a4 0, pv b_a5 0]] 108) :: L) ⟨rfl, rfl, rfl, rfl, rfl, rfl, rfl, trivial⟩ rfl ?_
   refine Cd.region ?_
   refine Lst.r (Ev.incr (by omega) rfl rfl) ?_
   refine mv0 rfl ?_
   refine Lst.nil ?_
   exact At.meet (i8 + 1, k8, r45.1, r45.2.1) (FLe.trans (FLe.trans hF12 hF25) hF48) ⟨rfl, rfl, rfl, rfl, rfl, rfl, rfl, trivial⟩ rfl ⟨⟨hgo8 _ (some_inj H).symm, by omega⟩, Nat.lt_succ_self _⟩
  replace H := ite_f hb49 H
  refine Cd.condF rfl hb49 ?_
  refine Cd.skip ?_
  refine At.then ?_
  obtain ⟨o51, H, HKo51⟩ := bind_some H
  refine Cd.join (σ := (List Int)) (fun l50 => [(0, iv a0), (4, pv b_a4 0), (9, iv (i8 : Int))]) (fun l50 => (.own s_a1 4 1 (encs r45.1)) :: (.blk b_a2 (enc a2) 3) :: (.blk b_a3_c0 (enc s_a3_c0) 22) :: (.blk b_a3 [.func (.func 65) #[] #[pv b_a3_c0 0]] 94) :: (.own s_a4 3 1 (encs l50)) :: (.blk b_a4 (enc s_a4) 34) :: (.blk b_a5 [.func (.func 68) #[] #[pv b_a2 0, pv b_a3 0, pv b_a4 0, pv b_a5 0]] 108) :: L) (fun _ l50 => l50 = o51) ?_ ?_
  ·refine Cd.seq ?_
   refine Cd.as (e' := [(0, iv a0), (4, pv b_a4 0), (9, iv (i8 : Int)), (10, iv r32)]) (L' := (.own s_a1 4 1 (encs r45.1)) :: (.blk b_a2 (enc a2) 3) :: (.blk b_a3_c0 (enc s_a3_c0) 22) :: (.blk b_a3 [.func (.func 65) #[] #[pv b_a3_c0 0]] 94) :: (.own s_a4 3 1 (encs r45.2.1)) :: (.blk b_a4 (enc s_a4) 34) :: (.blk b_a5 [.func (.func 68) #[] #[pv b_a2 0, pv b_a3 0, pv b_a4 0, pv b_a5 0]] 108) :: L) ⟨rfl, rfl, rfl, rfl, trivial⟩ rfl ?_
   refine Cd.region ?_
   refine mv0 rfl ?_
   refine Lst.r (Ev.geq rfl rfl) ?_
   refine mv0 rfl ?_
   refine Lst.rG hb36 (Ev.load (i := 5) rfl rfl Try.isAgg34 (v := Sl.v s_a4) gh0) ?_
   refine Lst.rG hb36 (Ev.move rfl) ?_
   obtain ⟨x52, h53, H⟩ := bind_some H
   have g54 := lat_some h53
   refine Lst.rG hb36 (Ev.indexS (α := Int) (xs := r45.2.1) rfl rfl Try.runUnderlying34 Try.sizeOf3 rfl (by decide) (rdo 4 rfl rfl rfl) g54.1 g54.2.1) ?_
   refine Lst.rG hb36 (Ev.loadS (α := Int) rfl (rdo 4 rfl rfl rfl) Try.isAgg3 (v := iv x52) ((Get.elemN (s := 1) (x := x52) rfl g54.2.2 gh0).off (by omega))) ?_
   refine Lst.rG hb36 (Ev.move rfl) ?_
   refine Lst.rG hb36 (Ev.eql rfl rfl) ?_
   refine Lst.r (Ev.pickT rfl hb36 rfl) ?_
   refine nt0 ?_
   rcases (Bool.eq_false_or_eq_true (x52 == (i8 : Int))).symm with hb55 | hb55
   ·replace H := ite_f hb55 H
    refine Cd.condF rfl hb55 ?_
    refine Cd.skip ?_
    exact At.meet r45.2.1 fl ⟨rfl, rfl, rfl, trivial⟩ rfl (some_inj H)
   replace H := ite_t hb55 H
   refine Cd.condT rfl hb55 ?_
   refine Cd.region ?_
   refine Lst.r (Ev.load (i := 5) rfl rfl Try.isAgg34 (v := Sl.v s_a4) gh0) ?_
   refine mv0 rfl ?_
   obtain ⟨x56, h57, H⟩ := bind_some H
   have g58 := lat_some h57
   refine Lst.r (Ev.indexS (α := Int) (xs := r45.2.1) rfl rfl Try.runUnderlying34 Try.sizeOf3 rfl (by decide) (rdo 4 rfl rfl rfl) g58.1 g58.2.1) ?_
   obtain ⟨p59, h60, H⟩ := Let_some H
   refine Lst.storeS (i := 4) rfl rfl rfl rfl rfl Try.sizeOf3 (vs := [iv (-1 : Int)]) rfl rfl (by decide) rfl (xs' := encs p59) (by rw [← h60]; exact (Put.elemN (s := 1) (x := x56) rfl g58.2.2 (Put.here (vs := [iv (-1 : Int)]) rfl)).off (by omega)) (L' := (.own s_a1 4 1 (encs r45.1)) :: (.blk b_a2 (enc a2) 3) :: (.blk b_a3_c0 (enc s_a3_c0) 22) :: (.blk b_a3 [.func (.func 65) #[] #[pv b_a3_c0 0]] 94) :: (.own s_a4 3 1 (encs p59)) :: (.blk b_a4 (enc s_a4) 34) :: (.blk b_a5 [.func (.func 68) #[] #[pv b_a2 0, pv b_a3 0, pv b_a4 0, pv b_a5 0]] 108) :: L) rfl ?_
   refine Lst.nil ?_
   exact At.meet p59 fl ⟨rfl, rfl, rfl, trivial⟩ rfl (some_inj H)
  rintro F61 l50 hF62 hy
  subst hy
  refine Cd.as (e' := [(0, iv a0), (4, pv b_a4 0), (9, iv (i8 : Int))]) (L' := (.own s_a1 4 1 (encs r45.1)) :: (.blk b_a2 (enc a2) 3) :: (.blk b_a3_c0 (enc s_a3_c0) 22) :: (.blk b_a3 [.func (.func 65) #[] #[pv b_a3_c0 0]] 94) :: (.own s_a4 3 1 (encs l50)) :: (.blk b_a4 (enc s_a4) 34) :: (.blk b_a5 [.func (.func 68) #[] #[pv b_a2 0, pv b_a3 0, pv b_a4 0, pv b_a5 0]] 108) :: L) ⟨rfl, rfl, rfl, trivial⟩ rfl ?_
  replace H := HKo51
  refine sr0 ?_
  refine Lst.r (Ev.load (i := 5) rfl rfl Try.isAgg34 (v := Sl.v s_a4) gh0) ?_
  refine mv0 rfl ?_
  refine mv0 rfl ?_
  obtain ⟨x63, h64, H⟩ := bind_some H
  have g65 := lat_some h64
  refine Lst.r (Ev.indexS (α := Int) (xs := l50) rfl rfl Try.runUnderlying34 Try.sizeOf3 rfl (by decide) (rdo 4 rfl rfl rfl) g65.1 g65.2.1) ?_
  obtain ⟨p66, h67, H⟩ := Let_some H
  refine Lst.storeS (i := 4) rfl rfl rfl rfl rfl Try.sizeOf3 (vs := [iv (i8 : Int)]) rfl rfl (by decide) rfl (xs' := encs p66) (by rw [← h67]; exact (Put.elemN (s := 1) (x := x63) rfl g65.2.2 (Put.here (vs := [iv (i8 : Int)]) rfl)).off (by omega)) (L' := (.own s_a1 4 1 (encs r45.1)) :: (.blk b_a2 (enc a2) 3) :: (.blk b_a3_c0 (enc s_a3_c0) 22) :: (.blk b_a3 [.func (.func 65) #[] #[pv b_a3_c0 0]] 94) :: (.own s_a4 3 1 (encs p66)) :: (.blk b_a4 (enc s_a4) 34) :: (.blk b_a5 [.func (.func 68) #[] #[pv b_a2 0, pv b_a3 0, pv b_a4 0, pv b_a5 0]] 108) :: L) rfl ?_
  refine nsr ?_
  refine Lst.r (Ev.assign rfl) ?_
  refine nt0 ?_
  have H := hret8 _ (some_inj H).symm
  subst H
  replace H := HKl8
  obtain rfl := some_inj H
  refine Cd.ret ?_
  refine At.in_ret ?_
  refine At.then_ret ?_
  refine At.then_ret ?_
  refine At.in_ret ?_
  refine At.then_ret ?_
  exact At.ret1 rfl (Res.tmp rfl) (FLe.trans (FLe.trans (FLe.trans hF12 hF25) hF48) hF62) (sk1 (sk1 (sk1 (sk1 (sk1 (sk1 (sk1 (.refl _)))))))) ⟨rfl, rfl⟩
theorem partref_Most_2_sim {fu : Nat} {a0 : Int} {a1 : List Bool} {a2 : Int} {a3_c0 : List Pair} {a4 : List Int} {s_a1 : Sl} {b_a2 : Nat} {b_a3 : Nat} {b_a3_c0 : Nat} {s_a3_c0 : Sl} {b_a4 : Nat} {s_a4 : Sl} {b_a5 : Nat} {r : (List Bool) × (List Int) × Bool} (H : partref_Most_2 fu a0 a1 a2 a3_c0 a4 = some r) (w0 : World) (F : Frz) (M L : List Item) (hM : M.Sublist L) (hs_a3_c0 : Rd w0 F M s_a3_c0 a3_c0) : Ok Try.prog w0 68 [iv a0, Sl.v s_a1, pv b_a2 0, pv b_a3 0, pv b_a4 0, pv b_a5 0] F ((.own s_a1 4 1 (encs a1)) :: (.blk b_a2 (enc a2) 3) :: (.blk b_a3_c0 (enc s_a3_c0) 22) :: (.blk b_a3 [.func (.func 65) #[] #[pv b_a3_c0 0]] 94) :: (.own s_a4 3 1 (encs a4)) :: (.blk b_a4 (enc s_a4) 34) :: (.blk b_a5 [.func (.func 68) #[] #[pv b_a2 0, pv b_a3 0, pv b_a4 0, pv b_a5 0]] 108) :: L) (fun _ L' v => v = .bool r.2.2 ∧ L' = (.own s_a1 4 1 (encs r.1)) :: (.blk b_a2 (enc a2) 3) :: (.blk b_a3_c0 (enc s_a3_c0) 22) :: (.blk b_a3 [.func (.func 65) #[] #[pv b_a3_c0 0]] 94) :: (.own s_a4 3 1 (encs r.2.1)) :: (.blk b_a4 (enc s_a4) 34) :: (.blk b_a5 [.func (.func 68) #[] #[pv b_a2 0, pv b_a3 0, pv b_a4 0, pv b_a5 0]] 108) :: L) :=
  partref_Most_2_simR fu H w0 F M L hM hs_a3_c0
set_option maxRecDepth 20000 in
theorem partref_Most_sim {fu : Nat} {a0 : Int} {a1 : Int} {a2 : List Pair} {s_a2 : Sl} {r : (List Int)} (H : partref_Most fu a0 a1 a2 = some r) (w0 : World) (F : Frz) (M L : List Item) (hM : M.Sublist L) (hs_a2 : Rd w0 F M s_a2 a2) : Ok Try.prog w0 40 [iv a0, iv a1, Sl.v s_a2] F (L) (fun _ L' v => ∃ (s1 : Sl), v = Sl.v s1 ∧ L' = (.own s1 3 1 (encs r)) :: L) := by
 unfold partref_Most at H
 refine Ok.enter (m := 3) (n := 27) Try.func40 rfl rfl rfl (by decide) ?_
 refine Cd.env (e' := [(0, iv a0), (1, iv a1), (2, Sl.v s_a2)]) rfl ?_
 refine sr0 ?_
 refine Lst.box rfl rfl (by decide) rfl (cs := enc a1) rfl (fun b1 => ?_)
 refine Lst.box rfl rfl (by decide) rfl (cs := enc s_a2) rfl (fun b3 => ?_)
 refine Lst.addNil 3 1 ?_
 refine Lst.r (Ev.assign rfl) ?_
 refine nsr ?_
 refine Lst.r (Ev.makeFunc (us := []) (vs := [pv b3 0]) trivial ⟨rfl, trivial⟩) ?_
 refine Lst.alloc (cs := [.nilFunc]) rfl rfl (by decide) Try.zeroValue94 rfl (fun b6 => ?_)
 refine Lst.store (i := 0) rfl rfl rfl rfl rfl Try.sizeOf94 (vs := [.func (.func 65) #[] #[pv b3 0]]) rfl rfl rfl (cs' := [.func (.func 65) #[] #[pv b3 0]]) (Put.here (vs := [.func (.func 65) #[] #[pv b3 0]]) rfl) (L' := (.blk b6 [.func (.func 65) #[] #[pv b3 0]] 94) :: (.own Sl.nil 3 1 (encs ([] : List Int))) :: (.blk b3 (enc s_a2) 22) :: (.blk b1 (enc a1) 3) :: L) rfl ?_
 refine nsr ?_
 refine Lst.buildSlice (α := Int) (xs := ([(-1 : Int)] : List Int)) (pv := [(0, iv (-1 : Int))]) rfl rfl (by decide) ⟨rfl, rfl, trivial⟩ (run_buildSlice (α := Int) (z0 := (0 : Int)) (xs := ([(-1 : Int)] : List Int)) Try.runUnderlying34 Try.sizeOf3 Try.zeroValue3 rfl rfl rfl (by decide) rfl (fill_cons (cs := encs (List.replicate 1 (0 : Int))) (cs' := encs ((List.replicate 1 (0 : Int)).set 0 (-1 : Int))) (vs := [iv (-1 : Int)]) rfl rfl rfl ((Put.elemN (s := 1) (i := 0) (x := (0 : Int)) (y := (-1 : Int)) rfl rfl (Put.here (vs := [iv (-1 : Int)]) rfl)).off rfl) fill_nil)) rfl rfl (by decide) (fun s8 _ => ?_)
 refine mv0 rfl ?_
 obtain ⟨r10, h11, H⟩ := bind_some H
 refine Lst.call rfl rfl (by decide) (vs := [Sl.v s8, iv a0]) ⟨rfl, rfl, trivial⟩ Try.call67 (slices_Repeat_int_int_sim h11 w0 _ _ _ (.refl _) (rdo 0 rfl rfl rfl)) (fun F14 L' v hF15 hv => ?_)
 obtain ⟨s12, rfl, rfl⟩ := hv
 refine Lst.addNil 3 1 ?_
 refine Lst.alloc (cs := enc Sl.nil) rfl rfl (by decide) Try.zeroValue34 rfl (fun b17 => ?_)
 refine Lst.store (i := 0) rfl rfl rfl rfl rfl Try.sizeOf34 (vs := [Sl.v s12]) rfl rfl rfl (cs' := enc s12) (Put.here (vs := [Sl.v s12]) rfl) (L' := (.blk b17 (enc s12) 34) :: (.own Sl.nil 3 1 (encs ([] : List Int))) :: (.own s12 3 1 (encs r10)) :: (.own s8 3 1 (encs ([(-1 : Int)] : List Int))) :: (.blk b6 [.func (.func 65) #[] #[pv b3 0]] 94) :: (.own Sl.nil 3 1 (encs ([] : List Int))) :: (.blk b3 (enc s_a2) 22) :: (.blk b1 (enc a1) 3) :: L) rfl ?_
 refine nsr ?_
 refine Lst.alloc (cs := [.nilFunc]) rfl rfl (by decide) Try.zeroValue108 rfl (fun b19 => ?_)
 refine nsr ?_
 refine Lst.r (Ev.makeFunc (us := []) (vs := [pv b1 0, pv b6 0, pv b17 0, pv b19 0]) trivial ⟨rfl, rfl, rfl, rfl, trivial⟩) ?_
 refine Lst.store (i := 0) rfl rfl rfl rfl rfl Try.sizeOf108 (vs := [.func (.func 68) #[] #[pv b1 0, pv b6 0, pv b17 0, pv b19 0]]) rfl rfl rfl (cs' := [.func (.func 68) #[] #[pv b1 0, pv b6 0, pv b17 0, pv b19 0]]) (Put.here (vs := [.func (.func 68) #[] #[pv b1 0, pv b6 0, pv b17 0, pv b19 0]]) rfl) (L' := (.blk b19 [.func (.func 68) #[] #[pv b1 0, pv b6 0, pv b17 0, pv b19 0]] 108) :: (.blk b17 (enc s12) 34) :: (.own Sl.nil 3 1 (encs ([] : List Int))) :: (.own s12 3 1 (encs r10)) :: (.own s8 3 1 (encs ([(-1 : Int)] : List Int))) :: (.blk b6 [.func (.func 65) #[] #[pv b3 0]] 94) :: (.own Sl.nil 3 1 (encs ([] : List Int))) :: (.blk b3 (enc s_a2) 22) :: (.blk b1 (enc a1) 3) :: L) rfl ?_
 refine nt0 ?_
 refine Cd.seq ?_
 refine sr0 ?_
 refine mv0 rfl ?_
 refine mv0 rfl ?_
 refine nt0 ?_
 refine Cd.block ?_
 obtain ⟨nn25, hN44, H⟩ := bind_some H
 replace hN44 := upTo_some hN44
 obtain ⟨ol21, H, HKl21⟩ := bind_some H
 refine Cd.loop (σ := Nat × Nat × (List Int)) (fun (i21, k21, l22) => [(4, pv b1 0), (8, pv b17 0), (9, pv b19 0), (16, iv a0), (17, iv (i21 : Int))]) (fun (i21, k21, l22) => (.blk b19 [.func (.func 68) #[] #[pv b1 0, pv b6 0, pv b17 0, pv b19 0]] 108) :: (.blk b17 (enc s12) 34) :: (.own Sl.nil 3 1 (encs ([] : List Int))) :: (.own s12 3 1 (encs l22)) :: (.own s8 3 1 (encs ([(-1 : Int)] : List Int))) :: (.blk b6 [.func (.func 65) #[] #[pv b3 0]] 94) :: (.own Sl.nil 3 1 (encs ([] : List Int))) :: (.blk b3 (enc s_a2) 22) :: (.blk b1 (enc a1) 3) :: L) (fun _ => (fun (i21, k21, l22) => rangeF (partref_Most_B0 fu a1 a2) k21 i21 l22 = some ol21 ∧ i21 + k21 = nn25)) (fun (i21, k21, l22) => k21) (0, nn25, r10) ⟨rfl, rfl, rfl, rfl, rfl, trivial⟩ rfl ⟨H, by omega⟩ ?_
 rintro F23 ⟨i21, k21, l22⟩ hF24 ⟨H, hik21⟩
 refine Cd.as (e' := [(4, pv b1 0), (8, pv b17 0), (9, pv b19 0), (16, iv a0), (17, iv (i21 : Int))]) (L' := (.blk b19 [.func (.func 68) #[] #[pv b1 0, pv b6 0, pv b17 0, pv b19 0]] 108) :: (.blk b17 (enc s12) 34) :: (.own Sl.nil 3 1 (encs ([] : List Int))) :: (.own s12 3 1 (encs l22)) :: (.own s8 3 1 (encs ([(-1 : Int)] : List Int))) :: (.blk b6 [.func (.func 65) #[] #[pv b3 0]] 94) :: (.own Sl.nil 3 1 (encs ([] : List Int))) :: (.blk b3 (enc s_a2) 22) :: (.blk b1 (enc a1) 3) :: L) ⟨rfl, rfl, rfl, rfl, rfl, trivial⟩ rfl ?_
 rcases k21 with _ | k21
 ·have hc21 : decide ((i21 : Int) < a0) = false := decide_eq_false (by omega)
  replace H := rangeF_end H
  refine sr0 ?_
  refine Lst.r (Ev.lss rfl rfl) ?_
  refine nt0 ?_
  refine Cd.seq ?_
  refine Cd.condF rfl hc21 ?_
  refine Cd.exit ?_
  refine At.then_exit ?_
  refine At.then_exit ?_
  refine At.in_exit ?_
  subst H
  replace H := HKl21
  refine At.then ?_
  refine sr0 ?_
  refine Lst.r (Ev.load (i := 1) rfl rfl Try.isAgg34 (v := Sl.v s12) gh0) ?_
  refine Lst.r (Ev.assign rfl) ?_
  refine nt0 ?_
  obtain rfl := some_inj H
  refine Cd.ret ?_
  exact At.ret1 rfl (Res.tmp rfl) (FLe.trans hF15 hF24) (sc1 (sc1 (sc1 (sk1 (sc1 (sc1 (sc1 (sc1 (sc1 (.refl _)))))))))) ⟨s12, rfl, rfl⟩
 have hc21 : decide ((i21 : Int) < a0) = true := decide_eq_true (by omega)
 obtain ⟨c21, H, hgo21⟩ := rangeF_go H
 unfold partref_Most_B0 at H
 try dsimp only at H
 refine sr0 ?_
 refine Lst.r (Ev.lss rfl rfl) ?_
 refine nt0 ?_
 refine Cd.seq ?_
 refine Cd.condT rfl hc21 ?_
 refine Cd.skip ?_
 refine At.then ?_
 refine Cd.seq ?_
 refine Cd.block ?_
 refine sr0 ?_
 refine mv0 rfl ?_
 refine Lst.r (Ev.assign rfl) ?_
 refine nt0 ?_
 obtain ⟨n26, h27, H⟩ := bind_some H
 obtain ⟨o34, h35, H⟩ := Let_some H
 refine Cd.headMeet (σ := Sl × (List Bool)) 4 (fun (s32, l33) => [(4, pv b1 0), (8, pv b17 0), (9, pv b19 0), (16, iv a0), (17, iv (i21 : Int)), (20, .func (.func 68) #[] #[pv b1 0, pv b6 0, pv b17 0, pv b19 0]), (21, iv (i21 : Int)), (23, Sl.v s32)]) (fun (s32, l33) => (.own s32 4 1 (encs l33)) :: (.blk b19 [.func (.func 68) #[] #[pv b1 0, pv b6 0, pv b17 0, pv b19 0]] 108) :: (.blk b17 (enc s12) 34) :: (.own Sl.nil 3 1 (encs ([] : List Int))) :: (.own s12 3 1 (encs l22)) :: (.own s8 3 1 (encs ([(-1 : Int)] : List Int))) :: (.blk b6 [.func (.func 65) #[] #[pv b3 0]] 94) :: (.own Sl.nil 3 1 (encs ([] : List Int))) :: (.blk b3 (enc s_a2) 22) :: (.blk b1 (enc a1) 3) :: L) (fun _ (s32, l33) => l33 = o34) (by kernel_rfl) (by kernel_rfl) (behind_sink (by kernel_rfl) (by kernel_rfl) (by kernel_rfl)) (by kernel_rfl) (fun hsel hlt => ?_) ?_
 ·refine HdJ.keep (fun w => St w0 F23 ((.blk b19 [.func (.func 68) #[] #[pv b1 0, pv b6 0, pv b17 0, pv b19 0]] 108) :: (.blk b17 (enc s12) 34) :: (.own Sl.nil 3 1 (encs ([] : List Int))) :: (.own s12 3 1 (encs l22)) :: (.own s8 3 1 (encs ([(-1 : Int)] : List Int))) :: (.blk b6 [.func (.func 65) #[] #[pv b3 0]] 94) :: (.own Sl.nil 3 1 (encs ([] : List Int))) :: (.blk b3 (enc s_a2) 22) :: (.blk b1 (enc a1) 3) :: L) w) (fun w h => trivial) ?_
  refine HdJ.ts hsel hlt 0 (sk1 (sk1 (sk1 (sk1 (sk1 (sk1 (sk1 (sk1 (sk1 (.refl _)))))))))) (Ev.load (i := 0) rfl rfl Try.isAgg108 (v := .func (.func 68) #[] #[pv b1 0, pv b6 0, pv b17 0, pv b19 0]) gh0) ?_
  refine HdJ.ts hsel hlt 1 (sk1 (sk1 (sk1 (sk1 (sk1 (sk1 (sk1 (sk1 (sk1 (.refl _)))))))))) (Ev.move rfl) ?_
  refine HdJ.ts hsel hlt 2 (sk1 (sk1 (sk1 (sk1 (sk1 (sk1 (sk1 (sk1 (sk1 (.refl _)))))))))) (Ev.load (i := 8) rfl rfl Try.isAgg3 (v := iv a1) gh0) ?_
  refine HdJ.o1 3 (fun inv => ?_)
  have g36 := mkLen_some h27
  refine Lst.make (α := Bool) (z0 := false) (k := n26) rfl rfl (by decide) (congrArg some (congrArg (Value.int .i64) g36.1)) (congrArg some (congrArg (Value.int .i64) g36.1)) Try.runUnderlying75 Try.typeInfo4 rfl rfl rfl rfl rfl g36.2 rfl (fun s37 => ?_)
  refine hds inv (sc1 (sk1 (sk1 (sk1 (sk1 (sk1 (sk1 (sk1 (sk1 (sk1 (.refl _))))))))))) ?_
  refine HdJ.done (by kernel_rfl) ?_
  exact At.meetN (s37, (List.replicate n26 false)) fl ⟨rfl, rfl, rfl, rfl, rfl, rfl, rfl, rfl, trivial⟩ rfl h35
 rintro F38 ⟨s32, l33⟩ hF39 hy
 subst hy
 refine Lst.as (e' := [(4, pv b1 0), (8, pv b17 0), (9, pv b19 0), (16, iv a0), (17, iv (i21 : Int)), (20, .func (.func 68) #[] #[pv b1 0, pv b6 0, pv b17 0, pv b19 0]), (21, iv (i21 : Int)), (23, Sl.v s32)]) (L' := (.own s32 4 1 (encs l33)) :: (.blk b19 [.func (.func 68) #[] #[pv b1 0, pv b6 0, pv b17 0, pv b19 0]] 108) :: (.blk b17 (enc s12) 34) :: (.own Sl.nil 3 1 (encs ([] : List Int))) :: (.own s12 3 1 (encs l22)) :: (.own s8 3 1 (encs ([(-1 : Int)] : List Int))) :: (.blk b6 [.func (.func 65) #[] #[pv b3 0]] 94) :: (.own Sl.nil 3 1 (encs ([] : List Int))) :: (.blk b3 (enc s_a2) 22) :: (.blk b1 (enc a1) 3) :: L) ⟨rfl, rfl, rfl, rfl, rfl, rfl, rfl, rfl, trivial⟩ rfl ?_
 obtain ⟨r40, h41, H⟩ := bind_some H
 refine Lst.front (i := 1) rfl rfl ?_
 refine Lst.front (i := 2) rfl rfl ?_
 refine Lst.front (i := 4) rfl (L' := (.own s12 3 1 (encs l22)) :: (.blk b17 (enc s12) 34) :: (.blk b19 [.func (.func 68) #[] #[pv b1 0, pv b6 0, pv b17 0, pv b19 0]] 108) :: (.own s32 4 1 (encs l33)) :: (.own Sl.nil 3 1 (encs ([] : List Int))) :: (.own s8 3 1 (encs ([(-1 : Int)] : List Int))) :: (.blk b6 [.func (.func 65) #[] #[pv b3 0]] 94) :: (.own Sl.nil 3 1 (encs ([] : List Int))) :: (.blk b3 (enc s_a2) 22) :: (.blk b1 (enc a1) 3) :: L) rfl ?_
 refine Lst.front (i := 6) rfl rfl ?_
 refine Lst.front (i := 8) rfl rfl ?_
 refine Lst.front (i := 9) rfl (L' := (.blk b1 (enc a1) 3) :: (.blk b3 (enc s_a2) 22) :: (.blk b6 [.func (.func 65) #[] #[pv b3 0]] 94) :: (.own s12 3 1 (encs l22)) :: (.blk b17 (enc s12) 34) :: (.blk b19 [.func (.func 68) #[] #[pv b1 0, pv b6 0, pv b17 0, pv b19 0]] 108) :: (.own s32 4 1 (encs l33)) :: (.own Sl.nil 3 1 (encs ([] : List Int))) :: (.own s8 3 1 (encs ([(-1 : Int)] : List Int))) :: (.own Sl.nil 3 1 (encs ([] : List Int))) :: L) rfl ?_
 refine Lst.front (i := 6) rfl (L' := (.own s32 4 1 (encs l33)) :: (.blk b1 (enc a1) 3) :: (.blk b3 (enc s_a2) 22) :: (.blk b6 [.func (.func 65) #[] #[pv b3 0]] 94) :: (.own s12 3 1 (encs l22)) :: (.blk b17 (enc s12) 34) :: (.blk b19 [.func (.func 68) #[] #[pv b1 0, pv b6 0, pv b17 0, pv b19 0]] 108) :: (.own Sl.nil 3 1 (encs ([] : List Int))) :: (.own s8 3 1 (encs ([(-1 : Int)] : List Int))) :: (.own Sl.nil 3 1 (encs ([] : List Int))) :: L) rfl ?_
 refine Lst.callV rfl rfl (by decide) (vs := [iv (i21 : Int), Sl.v s32]) (cs := [pv b1 0, pv b6 0, pv b17 0, pv b19 0]) rfl ⟨rfl, rfl, trivial⟩ Try.call68 (partref_Most_2_sim h41 w0 _ M _ (sc2 (sc1 hM)) (hs_a2.mono (FLe.trans (FLe.trans hF15 hF24) hF39) (.refl _))) (fun F42 L' v hF43 hv => ?_)
 obtain ⟨rfl, rfl⟩ := hv
 refine Lst.nil ?_
 refine At.in_normal ?_
 refine At.then ?_
 refine Cd.region ?_
 refine Lst.r (Ev.incr (by omega) rfl rfl) ?_
 refine mv0 rfl ?_
 refine Lst.nil ?_
 refine At.front (i := 2) rfl rfl ?_
 refine At.front (i := 9) rfl rfl ?_
 refine At.front (i := 4) rfl (L' := (.blk b6 [.func (.func 65) #[] #[pv b3 0]] 94) :: (.own Sl.nil 3 1 (encs ([] : List Int))) :: (.blk b3 (enc s_a2) 22) :: (.own s32 4 1 (encs r40.1)) :: (.blk b1 (enc a1) 3) :: (.own s12 3 1 (encs r40.2.1)) :: (.blk b17 (enc s12) 34) :: (.blk b19 [.func (.func 68) #[] #[pv b1 0, pv b6 0, pv b17 0, pv b19 0]] 108) :: (.own Sl.nil 3 1 (encs ([] : List Int))) :: (.own s8 3 1 (encs ([(-1 : Int)] : List Int))) :: L) rfl ?_
 refine At.front (i := 9) rfl rfl ?_
 refine At.front (i := 6) rfl rfl ?_
 refine At.front (i := 9) rfl (L' := (.own Sl.nil 3 1 (encs ([] : List Int))) :: (.own s12 3 1 (encs r40.2.1)) :: (.own s8 3 1 (encs ([(-1 : Int)] : List Int))) :: (.blk b6 [.func (.func 65) #[] #[pv b3 0]] 94) :: (.own Sl.nil 3 1 (encs ([] : List Int))) :: (.blk b3 (enc s_a2) 22) :: (.own s32 4 1 (encs r40.1)) :: (.blk b1 (enc a1) 3) :: (.blk b17 (enc s12) 34) :: (.blk b19 [.func (.func 68) #[] #[pv b1 0, pv b6 0, pv b17 0, pv b19 0]] 108) :: L) rfl ?_
 refine At.front (i := 8) rfl rfl ?_
 refine At.front (i := 9) rfl (L' := (.blk b19 [.func (.func 68) #[] #[pv b1 0, pv b6 0, pv b17 0, pv b19 0]] 108) :: (.blk b17 (enc s12) 34) :: (.own Sl.nil 3 1 (encs ([] : List Int))) :: (.own s12 3 1 (encs r40.2.1)) :: (.own s8 3 1 (encs ([(-1 : Int)] : List Int))) :: (.blk b6 [.func (.func 65) #[] #[pv b3 0]] 94) :: (.own Sl.nil 3 1 (encs ([] : List Int))) :: (.blk b3 (enc s_a2) 22) :: (.own s32 4 1 (encs r40.1)) :: (.blk b1 (enc a1) 3) :: L) rfl ?_
 refine At.less (L' := (.blk b19 [.func (.func 68) #[] #[pv b1 0, pv b6 0, pv b17 0, pv b19 0]] 108) :: (.blk b17 (enc s12) 34) :: (.own Sl.nil 3 1 (encs ([] : List Int))) :: (.own s12 3 1 (encs r40.2.1)) :: (.own s8 3 1 (encs ([(-1 : Int)] : List Int))) :: (.blk b6 [.func (.func 65) #[] #[pv b3 0]] 94) :: (.own Sl.nil 3 1 (encs ([] : List Int))) :: (.blk b3 (enc s_a2) 22) :: (.blk b1 (enc a1) 3) :: L) (sk1 (sk1 (sk1 (sk1 (sk1 (sk1 (sk1 (sk1 (sc1 (sk1 (.refl _))))))))))) ?_
 exact At.meet (i21 + 1, k21, r40.2.1) (FLe.trans (FLe.trans hF24 hF39) hF43) ⟨rfl, rfl, rfl, rfl, rfl, trivial⟩ rfl ⟨⟨hgo21 _ (some_inj H).symm, by omega⟩, Nat.lt_succ_self _⟩
set_option maxRecDepth 20000 in
theorem partref_Chains_sim {fu : Nat} {a0 : Poset} {s_a0_1 : Sl} {r : (List (List Int))} (H : partref_Chains fu a0 = some r) (w0 : World) (F : Frz) (M L : List Item) (hM : M.Sublist L) (hs_a0_1 : Rd w0 F M s_a0_1 a0.Pairs) : Ok Try.prog w0 43 [.agg (enc (PosetR.mk a0 s_a0_1)).toArray] F (L) (fun Fx L' v => ∃ (s1 : Sl) (rs2 : List (LR Int)), v = Sl.v s1 ∧ L' = (.own s1 34 1 (encs rs2)) :: L ∧ rs2.map LR.v = r ∧ All LR.rel w0 Fx M rs2) := by
 unfold partref_Chains at H
 refine Ok.enter (m := 1) (n := 40) Try.func43 rfl rfl rfl (by decide) ?_
 refine Cd.env (e' := [(0, .agg (enc (PosetR.mk a0 s_a0_1)).toArray)]) rfl ?_
 refine sr0 ?_
 refine Lst.box rfl rfl (by decide) rfl (cs := enc (PosetR.mk a0 s_a0_1)) rfl (fun b1 => ?_)
 have ha4 : All LR.rel w0 F [] ([] : List (LR Int)) := All.nil
 have ha4m : List.map LR.v ([] : List (LR Int)) = ([] : List (List Int)) := rfl
 refine Lst.addNil 34 1 ?_
 refine Lst.r (Ev.assign rfl) ?_
 refine nt0 ?_
 refine Cd.seq ?_
 obtain ⟨r5, h6, H⟩ := bind_some H
 obtain ⟨o14, h15, H⟩ := Let_some H
 refine Cd.headMeet (σ := Sl × (List Pair)) 6 (fun (s12, l13) => [(1, pv b1 0), (9, iv a0.N), (11, iv a0.N), (13, Sl.v s12)]) (fun (s12, l13) => (.own s12 49 2 (encs l13)) :: (.own Sl.nil 34 1 (encs ([] : List (LR Int)))) :: (.blk b1 (enc (PosetR.mk a0 s_a0_1)) 24) :: L) (fun _ (s12, l13) => l13 = o14) (by kernel_rfl) (by kernel_rfl) (behind_sink (by kernel_rfl) (by kernel_rfl) (by kernel_rfl)) (by kernel_rfl) (fun hsel hlt => ?_) ?_
 ·refine HdJ.keep (fun w => St w0 F ((.own Sl.nil 34 1 (encs ([] : List (LR Int)))) :: (.blk b1 (enc (PosetR.mk a0 s_a0_1)) 24) :: L) w) (fun w h => trivial) ?_
  refine HdJ.ts hsel hlt 0 (sk1 (sk1 (.refl _))) (Ev.fieldAddr (off' := 0) rfl Try.runUnderlying24 rfl Try.sizeOf3 rfl rfl) ?_
  refine HdJ.ts hsel hlt 1 (sk1 (sk1 (.refl _))) (Ev.load (i := 1) rfl rfl Try.isAgg3 (v := iv a0.N) ((PosetR.get_N gh0).off (by rfl))) ?_
  refine HdJ.ts hsel hlt 2 (sk1 (sk1 (.refl _))) (Ev.fieldAddr (off' := 0) rfl Try.runUnderlying24 rfl Try.sizeOf3 rfl rfl) ?_
  refine HdJ.ts hsel hlt 3 (sk1 (sk1 (.refl _))) (Ev.load (i := 1) rfl rfl Try.isAgg3 (v := iv a0.N) ((PosetR.get_N gh0).off (by rfl))) ?_
  refine HdJ.ts hsel hlt 4 (sk1 (sk1 (.refl _))) (Ev.loadA (i := 1) rfl rfl Try.isAgg24 Try.sizeOf24 (ch := enc (PosetR.mk a0 s_a0_1)) (Enc.len _) gh0) ?_
  refine HdJ.o1 5 (fun inv => ?_)
  refine Lst.call rfl rfl (by decide) (vs := [.agg (enc (PosetR.mk a0 s_a0_1)).toArray, .bool false]) ⟨rfl, rfl, trivial⟩ Try.call29 (partref_AllPairs_sim h6 w0 _ M _ (sc2 hM) (hs_a0_1.mono fl (.refl _))) (fun F17 L' v hF18 hv => ?_)
  obtain ⟨s16, rfl, rfl⟩ := hv
  refine Lst.nil ?_
  refine At.hd inv (fun w h => (h.weaken hF18).sublist (sc1 (sk1 (sk1 (.refl _))))) ?_
  refine HdJ.done (by kernel_rfl) ?_
  exact At.meetN (s16, r5) hF18 ⟨rfl, rfl, rfl, rfl, trivial⟩ rfl h15
 rintro F19 ⟨s12, l13⟩ hF20 hy
 subst hy
 refine Lst.as (e' := [(1, pv b1 0), (9, iv a0.N), (11, iv a0.N), (13, Sl.v s12)]) (L' := (.own s12 49 2 (encs l13)) :: (.own Sl.nil 34 1 (encs ([] : List (LR Int)))) :: (.blk b1 (enc (PosetR.mk a0 s_a0_1)) 24) :: L) ⟨rfl, rfl, rfl, rfl, trivial⟩ rfl ?_
 obtain ⟨r21, h22, H⟩ := bind_some H
 refine Lst.call rfl rfl (by decide) (vs := [iv a0.N, iv a0.N, Sl.v s12]) ⟨rfl, rfl, rfl, trivial⟩ Try.call40 (partref_Most_sim h22 w0 _ _ _ (.refl _) (rdo 0 rfl rfl rfl)) (fun F25 L' v hF26 hv => ?_)
 obtain ⟨s23, rfl, rfl⟩ := hv
 refine Lst.r (Ev.assign rfl) ?_
 refine nsr ?_
 have ha28 : All LR.rel w0 F25 [] ([] : List (LR Int)) := All.nil
 have ha28m : List.map LR.v ([] : List (LR Int)) = ([] : List (List Int)) := rfl
 refine Lst.addNil 34 1 ?_
 refine Lst.r (Ev.assign rfl) ?_
 refine nt0 ?_
 refine Cd.seq ?_
 refine sr0 ?_
 refine Lst.r (Ev.fieldAddr (off' := 0) rfl Try.runUnderlying24 rfl Try.sizeOf3 rfl rfl) ?_
 refine Lst.r (Ev.load (i := 4) rfl rfl Try.isAgg3 (v := iv a0.N) ((PosetR.get_N gh0).off (by rfl))) ?_
 refine mv0 rfl ?_
 refine nt0 ?_
 refine Cd.block ?_
 obtain ⟨nn37, hN72, H⟩ := bind_some H
 replace hN72 := upTo_some hN72
 obtain ⟨ol29, H, HKl29⟩ := bind_some H
 refine Cd.loop (σ := Nat × Nat × Sl × (List (List Int)) × (List (LR Int))) (fun (i29, k29, s30, l31, rs32) => [(3, Sl.v s23), (4, Sl.v s30), (16, iv a0.N), (17, iv (i29 : Int))]) (fun (i29, k29, s30, l31, rs32) => (.own s30 34 1 (encs rs32)) :: (.own s23 3 1 (encs r21)) :: (.own s12 49 2 (encs l13)) :: (.own Sl.nil 34 1 (encs ([] : List (LR Int)))) :: (.blk b1 (enc (PosetR.mk a0 s_a0_1)) 24) :: L) (fun Fx => (fun (i29, k29, s30, l31, rs32) => rangeF (partref_Chains_B0 fu r21) k29 i29 l31 = some ol29 ∧ i29 + k29 = nn37 ∧ rs32.map LR.v = l31 ∧ All LR.rel w0 Fx M rs32)) (fun (i29, k29, s30, l31, rs32) => k29) (0, nn37, Sl.nil, ([] : List (List Int)), ([] : List (LR Int))) ⟨rfl, rfl, rfl, rfl, trivial⟩ rfl ⟨H, by omega, ha28m, (All.monoLR ha28 fl (List.nil_sublist _))⟩ ?_
 rintro F35 ⟨i29, k29, s30, l31, rs32⟩ hF36 ⟨H, hik29, fm33, fa34⟩
 refine Cd.as (e' := [(3, Sl.v s23), (4, Sl.v s30), (16, iv a0.N), (17, iv (i29 : Int))]) (L' := (.own s30 34 1 (encs rs32)) :: (.own s23 3 1 (encs r21)) :: (.own s12 49 2 (encs l13)) :: (.own Sl.nil 34 1 (encs ([] : List (LR Int)))) :: (.blk b1 (enc (PosetR.mk a0 s_a0_1)) 24) :: L) ⟨rfl, rfl, rfl, rfl, trivial⟩ rfl ?_
 rcases k29 with _ | k29
 ·have hc29 : decide ((i29 : Int) < a0.N) = false := decide_eq_false (by omega)
  replace H := rangeF_end H
  refine sr0 ?_
  refine Lst.r (Ev.lss rfl rfl) ?_
  refine nt0 ?_
  refine Cd.seq ?_
  refine Cd.condF rfl hc29 ?_
  refine Cd.exit ?_
  refine At.then_exit ?_
  refine At.then_exit ?_
  refine At.in_exit ?_
  subst H
  replace H := HKl29
  refine At.then ?_
  refine sr0 ?_
  refine mv0 rfl ?_
  refine Lst.r (Ev.assign rfl) ?_
  refine nt0 ?_
  obtain rfl := some_inj H
  refine Cd.ret ?_
  exact At.ret1 rfl (Res.tmp rfl) (FLe.trans (FLe.trans hF20 hF26) hF36) (sk1 (sc1 (sc1 (sc1 (sc1 (.refl _)))))) ⟨s30, rs32, rfl, rfl, fm33, (All.monoLR fa34 fl (.refl _))⟩
 have hc29 : decide ((i29 : Int) < a0.N) = true := decide_eq_true (by omega)
 obtain ⟨c29, H, hgo29⟩ := rangeF_go H
 unfold partref_Chains_B0 at H
 try dsimp only at H
 refine sr0 ?_
 refine Lst.r (Ev.lss rfl rfl) ?_
 refine nt0 ?_
 refine Cd.seq ?_
 refine Cd.condT rfl hc29 ?_
 refine Cd.skip ?_
 refine At.then ?_
 refine Cd.seq ?_
 refine Cd.block ?_
 refine sr0 ?_
 refine mv0 rfl ?_
 refine Lst.r (Ev.assign rfl) ?_
 refine nt0 ?_
 refine Cd.seq ?_
 refine sr0 ?_
 refine mv0 rfl ?_
 refine mv0 rfl ?_
 obtain ⟨r38, h39, H⟩ := bind_some H
 refine Lst.call1 rfl rfl (by decide) (vs := [Sl.v s23, iv (i29 : Int)]) ⟨rfl, rfl, trivial⟩ Try.call57 (slices_Contains_int_int_sim h39 w0 _ _ _ (.refl _) (rdo 1 rfl rfl rfl)) ?_
 refine nt0 ?_
 rcases Bool.eq_false_or_eq_true r38 with hb42 | hb42
 ·replace H := ite_t hb42 H
  refine Cd.condT rfl hb42 ?_
  refine Cd.exit ?_
  refine At.then_exit ?_
  refine At.in_exit ?_
  refine At.then ?_
  refine Cd.region ?_
  refine Lst.r (Ev.incr (by omega) rfl rfl) ?_
  refine mv0 rfl ?_
  refine Lst.nil ?_
  exact At.meet (i29 + 1, k29, s30, l31, rs32) hF36 ⟨rfl, rfl, rfl, rfl, trivial⟩ rfl ⟨⟨hgo29 _ (some_inj H).symm, by omega, fm33, (All.monoLR fa34 fl (.refl _))⟩, Nat.lt_succ_self _⟩
 replace H := ite_f hb42 H
 refine Cd.condF rfl hb42 ?_
 refine Cd.skip ?_
 refine At.then ?_
 refine sr0 ?_
 refine Lst.addNil 3 1 ?_
 refine Lst.r (Ev.assign rfl) ?_
 refine nt0 ?_
 refine Cd.seq ?_
 refine sr0 ?_
 refine mv0 rfl ?_
 refine Lst.r (Ev.assign rfl) ?_
 refine nt0 ?_
 refine Cd.block ?_
 obtain ⟨ol44, H, HKl44⟩ := andThen_some H
 refine Cd.loop (σ := Nat × Int × Sl × (List Int)) (fun (k44, y45, s46, l47) => [(3, Sl.v s23), (4, Sl.v s30), (6, Sl.v s46), (7, iv y45), (16, iv a0.N), (17, iv (i29 : Int))]) (fun (k44, y45, s46, l47) => (.own s46 3 1 (encs l47)) :: (.own s30 34 1 (encs rs32)) :: (.own s23 3 1 (encs r21)) :: (.own s12 49 2 (encs l13)) :: (.own Sl.nil 34 1 (encs ([] : List (LR Int)))) :: (.blk b1 (enc (PosetR.mk a0 s_a0_1)) 24) :: L) (fun _ => (fun (k44, y45, s46, l47) => whileM (partref_Chains_B2 r21) k44 (y45, l47) = some ol44)) (fun (k44, y45, s46, l47) => k44) (fu, (i29 : Int), Sl.nil, ([] : List Int)) ⟨rfl, rfl, rfl, rfl, rfl, rfl, trivial⟩ rfl H ?_
 rintro F48 ⟨k44, y45, s46, l47⟩ hF49 H
 refine Cd.as (e' := [(3, Sl.v s23), (4, Sl.v s30), (6, Sl.v s46), (7, iv y45), (16, iv a0.N), (17, iv (i29 : Int))]) (L' := (.own s46 3 1 (encs l47)) :: (.own s30 34 1 (encs rs32)) :: (.own s23 3 1 (encs r21)) :: (.own s12 49 2 (encs l13)) :: (.own Sl.nil 34 1 (encs ([] : List (LR Int)))) :: (.blk b1 (enc (PosetR.mk a0 s_a0_1)) 24) :: L) ⟨rfl, rfl, rfl, rfl, rfl, rfl, trivial⟩ rfl ?_
 rcases k44 with _ | k44
 ·cases H
 obtain ⟨c44, H, hgo44, hbrk44, hret44⟩ := whileM_go H
 unfold partref_Chains_B2 at H
 try dsimp only at H
 refine Cd.seq ?_
 refine sr0 ?_
 refine mv0 rfl ?_
 refine Lst.r (Ev.geq rfl rfl) ?_
 refine nt0 ?_
 rcases (Bool.eq_false_or_eq_true (decide (y45 ≥ (0 : Int)))).symm with hb50 | hb50
 ·replace H := ite_f hb50 H
  refine Cd.condF rfl hb50 ?_
  refine Cd.exit ?_
  refine At.then_exit ?_
  refine At.then_exit ?_
  refine At.in_exit ?_
  have H := hbrk44 _ (some_inj H).symm
  subst H
  replace H := HKl44
  try dsimp only [Sum.elim_inl] at H
  refine At.then ?_
  refine Cd.region ?_
  refine mv0 rfl ?_
  refine mv0 rfl ?_
  refine Lst.freeze (i := 0) rfl (fun F51 hF52 hz53 => ?_)
  have hq54 : Rd w0 F51 [] s46 l47 := Rd.frozen hz53 rfl rfl
  refine Lst.its (L' := (.own s30 34 1 (encs rs32)) :: (.own s23 3 1 (encs r21)) :: (.own s12 49 2 (encs l13)) :: (.own Sl.nil 34 1 (encs ([] : List (LR Int)))) :: (.blk b1 (enc (PosetR.mk a0 s_a0_1)) 24) :: L) rfl ?_
  have hm57 : ([(LR.mk l47 s46)] : List (LR Int)).map LR.v = ([l47] : List (List Int)) := rfl
  have ha58 : All LR.rel w0 F51 [] ([(LR.mk l47 s46)] : List (LR Int)) := All.of1 (hq54.mono fl (List.nil_sublist _))
  refine Lst.buildSlice (α := LR Int) (xs := ([(LR.mk l47 s46)] : List (LR Int))) (pv := [(0, Sl.v s46)]) rfl rfl (by decide) ⟨rfl, rfl, trivial⟩ (run_buildSlice (α := LR Int) (z0 := ((LR.mk [] Sl.nil) : LR Int)) (xs := ([(LR.mk l47 s46)] : List (LR Int))) Try.runUnderlying56 Try.sizeOf34 Try.zeroValue34 rfl rfl rfl (by decide) rfl (fill_cons (cs := encs (List.replicate 1 ((LR.mk [] Sl.nil) : LR Int))) (cs' := encs ((List.replicate 1 ((LR.mk [] Sl.nil) : LR Int)).set 0 (LR.mk l47 s46))) (vs := [Sl.v s46]) rfl rfl rfl ((Put.elemN (s := 1) (i := 0) (x := ((LR.mk [] Sl.nil) : LR Int)) (y := (LR.mk l47 s46)) rfl rfl (Put.here (vs := [Sl.v s46]) rfl)).off rfl) fill_nil)) rfl rfl (by decide) (fun s55 _ => ?_)
  obtain ⟨u59, h60, H⟩ := bind_some H
  have hm62 : (rs32 ++ ([(LR.mk l47 s46)] : List (LR Int))).map LR.v = l31 ++ ([l47] : List (List Int)) := map_app fm33 hm57
  have ha63 : All LR.rel w0 F51 M (rs32 ++ ([(LR.mk l47 s46)] : List (LR Int))) := All.app (All.monoLR fa34 (FLe.trans hF49 hF52) (.refl _)) (All.monoLR ha58 fl (List.nil_sublist _))
  refine Lst.append (i := 1) (α := LR Int) (xs := rs32) (ys := ([(LR.mk l47 s46)] : List (LR Int))) rfl rfl (by decide) rfl rfl Try.runUnderlying56 Try.typeInfo34 rfl rfl rfl rfl rfl rfl (rdo 0 rfl rfl rfl) rfl (by have := room_some h60; have := map_len fm33; have := map_len hm57; omega) rfl (fun s61 => ?_)
  refine Lst.its (L' := (.own s55 34 1 (encs ([(LR.mk l47 s46)] : List (LR Int)))) :: (.own s61 34 1 (encs (rs32 ++ ([(LR.mk l47 s46)] : List (LR Int))))) :: (.own s23 3 1 (encs r21)) :: (.own s12 49 2 (encs l13)) :: (.own Sl.nil 34 1 (encs ([] : List (LR Int)))) :: (.blk b1 (enc (PosetR.mk a0 s_a0_1)) 24) :: L) rfl ?_
  refine Lst.r (Ev.assign rfl) ?_
  refine Lst.nil ?_
  refine At.in_normal ?_
  refine At.then ?_
  refine Cd.region ?_
  refine Lst.r (Ev.incr (by omega) rfl rfl) ?_
  refine mv0 rfl ?_
  refine Lst.nil ?_
  refine At.less (L' := (.own s61 34 1 (encs (rs32 ++ ([(LR.mk l47 s46)] : List (LR Int))))) :: (.own s23 3 1 (encs r21)) :: (.own s12 49 2 (encs l13)) :: (.own Sl.nil 34 1 (encs ([] : List (LR Int)))) :: (.blk b1 (enc (PosetR.mk a0 s_a0_1)) 24) :: L) (sc1 (sk1 (sk1 (sk1 (sk1 (sk1 (.refl _))))))) ?_
  exact At.meet (i29 + 1, k29, s61, l31 ++ ([l47] : List (List Int)), (rs32 ++ ([(LR.mk l47 s46)] : List (LR Int)))) (FLe.trans (FLe.trans hF36 hF49) hF52) ⟨rfl, rfl, rfl, rfl, trivial⟩ rfl ⟨⟨hgo29 _ (some_inj H).symm, by omega, hm62, (All.monoLR ha63 fl (.refl _))⟩, Nat.lt_succ_self _⟩
 replace H := ite_t hb50 H
 refine Cd.condT rfl hb50 ?_
 refine Cd.skip ?_
 refine At.then ?_
 refine Cd.seq ?_
 refine Cd.block ?_
 refine Cd.region ?_
 refine mv0 rfl ?_
 refine mv0 rfl ?_
 refine Lst.buildSlice (α := Int) (xs := ([y45] : List Int)) (pv := [(0, iv y45)]) rfl rfl (by decide) ⟨rfl, rfl, trivial⟩ (run_buildSlice (α := Int) (z0 := (0 : Int)) (xs := ([y45] : List Int)) Try.runUnderlying34 Try.sizeOf3 Try.zeroValue3 rfl rfl rfl (by decide) rfl (fill_cons (cs := encs (List.replicate 1 (0 : Int))) (cs' := encs ((List.replicate 1 (0 : Int)).set 0 y45)) (vs := [iv y45]) rfl rfl rfl ((Put.elemN (s := 1) (i := 0) (x := (0 : Int)) (y := y45) rfl rfl (Put.here (vs := [iv y45]) rfl)).off rfl) fill_nil)) rfl rfl (by decide) (fun s64 _ => ?_)
 obtain ⟨u66, h67, H⟩ := bind_some H
 refine Lst.append (i := 1) (α := Int) (xs := l47) (ys := ([y45] : List Int)) rfl rfl (by decide) rfl rfl Try.runUnderlying34 Try.typeInfo3 rfl rfl rfl rfl rfl rfl (rdo 0 rfl rfl rfl) rfl (room_some h67) rfl (fun s68 => ?_)
 refine Lst.its (L' := (.own s64 3 1 (encs ([y45] : List Int))) :: (.own s68 3 1 (encs (l47 ++ ([y45] : List Int)))) :: (.own s30 34 1 (encs rs32)) :: (.own s23 3 1 (encs r21)) :: (.own s12 49 2 (encs l13)) :: (.own Sl.nil 34 1 (encs ([] : List (LR Int)))) :: (.blk b1 (enc (PosetR.mk a0 s_a0_1)) 24) :: L) rfl ?_
 refine Lst.r (Ev.assign rfl) ?_
 refine Lst.nil ?_
 refine At.in_normal ?_
 refine At.then ?_
 refine Cd.region ?_
 refine mv0 rfl ?_
 refine mv0 rfl ?_
 obtain ⟨x69, h70, H⟩ := bind_some H
 have g71 := lat_some h70
 refine Lst.r (Ev.indexS (α := Int) (xs := r21) rfl rfl Try.runUnderlying34 Try.sizeOf3 rfl (by decide) (rdo 3 rfl rfl rfl) g71.1 g71.2.1) ?_
 refine Lst.r (Ev.loadS (α := Int) rfl (rdo 3 rfl rfl rfl) Try.isAgg3 (v := iv x69) ((Get.elemN (s := 1) (x := x69) rfl g71.2.2 gh0).off (by omega))) ?_
 refine Lst.r (Ev.assign rfl) ?_
 refine Lst.nil ?_
 refine At.less (L' := (.own s68 3 1 (encs (l47 ++ ([y45] : List Int)))) :: (.own s30 34 1 (encs rs32)) :: (.own s23 3 1 (encs r21)) :: (.own s12 49 2 (encs l13)) :: (.own Sl.nil 34 1 (encs ([] : List (LR Int)))) :: (.blk b1 (enc (PosetR.mk a0 s_a0_1)) 24) :: L) (sc1 (sk1 (sk1 (sk1 (sk1 (sk1 (sk1 (.refl _)))))))) ?_
 exact At.meet (k44, x69, s68, l47 ++ ([y45] : List Int)) hF49 ⟨rfl, rfl, rfl, rfl, rfl, rfl, trivial⟩ rfl ⟨hgo44 _ (some_inj H).symm, Nat.lt_succ_self _⟩
set_option maxRecDepth 20000 in
theorem slices_Equal_int_int_sim {a0 : List Int} {a1 : List Int} {s_a0 : Sl} {s_a1 : Sl} {r : Bool} (H : slices_Equal_int_int a0 a1 = some r) (w0 : World) (F : Frz) (M L : List Item) (hM : M.Sublist L) (hs_a0 : Rd w0 F M s_a0 a0) (hs_a1 : Rd w0 F M s_a1 a1) : Ok Try.prog w0 30 [Sl.v s_a0, Sl.v s_a1] F (L) (Is (.bool r) (L)) := by
 unfold slices_Equal_int_int at H
 refine Ok.enter (m := 2) (n := 26) Try.func30 rfl rfl rfl (by decide) ?_
 refine Cd.env (e' := [(0, Sl.v s_a0), (1, Sl.v s_a1)]) rfl ?_
 refine sr0 ?_
 refine Lst.r (Ev.assign rfl) ?_
 refine nt0 ?_
 refine Cd.seq ?_
 refine sr0 ?_
 refine mv0 rfl ?_
 refine Lst.r (Ev.lenS (α := Int) (xs := a0) (by decide) rfl rfl Try.runUnderlying34 (hs_a0.mono fl hM)) ?_
 refine mv0 rfl ?_
 refine Lst.r (Ev.lenS (α := Int) (xs := a1) (by decide) rfl rfl Try.runUnderlying34 (hs_a1.mono fl hM)) ?_
 refine Lst.r (Ev.neq rfl rfl) ?_
 refine nt0 ?_
 rcases Bool.eq_false_or_eq_true ((a0.length : Int) != (a1.length : Int)) with hb1 | hb1
 ·replace H := ite_t hb1 H
  refine Cd.condT rfl hb1 ?_
  refine sr0 ?_
  refine Lst.r (Ev.assign rfl) ?_
  refine nt0 ?_
  obtain rfl := some_inj H
  refine Cd.ret ?_
  refine At.then_ret ?_
  exact At.ret1 rfl (Res.tmp rfl) fl (.refl _) ⟨rfl, rfl⟩
 replace H := ite_f hb1 H
 refine Cd.condF rfl hb1 ?_
 refine Cd.skip ?_
 refine At.then ?_
 refine Cd.seq ?_
 refine sr0 ?_
 refine mv0 rfl ?_
 refine Lst.r (Ev.lenS (α := Int) (xs := a0) (by decide) rfl rfl Try.runUnderlying34 (hs_a0.mono fl hM)) ?_
 refine mv0 rfl ?_
 refine nt0 ?_
 refine Cd.block ?_
 refine Cd.bound (Rd.le (α := Int) (xs := a0) (by decide) (hs_a0.mono fl hM)) (fun hN12 => ?_)
 obtain ⟨ol2, H, HKl2⟩ := andThen_some H
 refine Cd.loop (σ := Nat × Nat × Unit) (fun (i2, k2, _u) => [(0, Sl.v s_a0), (1, Sl.v s_a1), (12, iv (a0.length : Int)), (13, iv (i2 : Int))]) (fun (i2, k2, _u) => L) (fun _ => (fun (i2, k2, _u) => rangeM (slices_Equal_int_int_B0 a0 a1) k2 i2 () = some ol2 ∧ i2 + k2 = a0.length)) (fun (i2, k2, _u) => k2) (0, a0.length, ()) ⟨rfl, rfl, rfl, rfl, trivial⟩ rfl ⟨H, by omega⟩ ?_
 rintro F3 ⟨i2, k2, _u⟩ hF4 ⟨H, hik2⟩
 refine Cd.as (e' := [(0, Sl.v s_a0), (1, Sl.v s_a1), (12, iv (a0.length : Int)), (13, iv (i2 : Int))]) (L' := L) ⟨rfl, rfl, rfl, rfl, trivial⟩ rfl ?_
 rcases k2 with _ | k2
 ·have hc2 : decide ((i2 : Int) < (a0.length : Int)) = false := decide_eq_false (by omega)
  replace H := rangeM_end H
  refine sr0 ?_
  refine Lst.r (Ev.lss rfl rfl) ?_
  refine nt0 ?_
  refine Cd.seq ?_
  refine Cd.condF rfl hc2 ?_
  refine Cd.exit ?_
  refine At.then_exit ?_
  refine At.then_exit ?_
  refine At.in_exit ?_
  subst H
  replace H := HKl2
  refine At.then ?_
  refine sr0 ?_
  refine Lst.r (Ev.assign rfl) ?_
  refine nt0 ?_
  obtain rfl := some_inj H
  refine Cd.ret ?_
  exact At.ret1 rfl (Res.tmp rfl) hF4 (.refl _) ⟨rfl, rfl⟩
 have hc2 : decide ((i2 : Int) < (a0.length : Int)) = true := decide_eq_true (by omega)
 obtain ⟨c2, H, hgo2, hbrk2, hret2⟩ := rangeM_go H
 unfold slices_Equal_int_int_B0 at H
 try dsimp only at H
 refine sr0 ?_
 refine Lst.r (Ev.lss rfl rfl) ?_
 refine nt0 ?_
 refine Cd.seq ?_
 refine Cd.condT rfl hc2 ?_
 refine Cd.skip ?_
 refine At.then ?_
 refine Cd.seq ?_
 refine Cd.block ?_
 refine sr0 ?_
 refine mv0 rfl ?_
 refine Lst.r (Ev.assign rfl) ?_
 refine nt0 ?_
 refine Cd.seq ?_
 refine Cd.quiet (by kernel_rfl) (by kernel_rfl) ?_
 refine Qt.r (Ev.move rfl) ?_
 refine Qt.r (Ev.move rfl) ?_
 obtain ⟨x5, h6, H⟩ := bind_some H
 have g7 := lat_some h6
 refine Qt.r (Ev.indexS (α := Int) (xs := a0) rfl rfl Try.runUnderlying34 Try.sizeOf3 rfl (by decide) (hs_a0.mono hF4 hM) g7.1 g7.2.1) ?_
 refine Qt.r (Ev.loadS (α := Int) rfl (hs_a0.mono hF4 hM) Try.isAgg3 (v := iv x5) ((Get.elemN (s := 1) (x := x5) rfl g7.2.2 gh0).off (by omega))) ?_
 refine Qt.r (Ev.move rfl) ?_
 refine Qt.r (Ev.move rfl) ?_
 obtain ⟨x8, h9, H⟩ := bind_some H
 have g10 := lat_some h9
 refine Qt.r (Ev.indexS (α := Int) (xs := a1) rfl rfl Try.runUnderlying34 Try.sizeOf3 rfl (by decide) (hs_a1.mono hF4 hM) g10.1 g10.2.1) ?_
 refine Qt.r (Ev.loadS (α := Int) rfl (hs_a1.mono hF4 hM) Try.isAgg3 (v := iv x8) ((Get.elemN (s := 1) (x := x8) rfl g10.2.2 gh0).off (by omega))) ?_
 refine Qt.r (Ev.neq rfl rfl) ?_
 refine Qt.done ?_
 refine At.then ?_
 rcases Bool.eq_false_or_eq_true (x5 != x8) with hb11 | hb11
 ·replace H := ite_t hb11 H
  refine Cd.condT rfl hb11 ?_
  refine Cd.seq ?_
  refine Cd.as (e' := []) (L' := L) trivial rfl ?_
  refine Cd.region ?_
  refine Lst.r (Ev.assign rfl) ?_
  refine nt0 ?_
  have H := hret2 _ (some_inj H).symm
  subst H
  replace H := HKl2
  obtain rfl := some_inj H
  refine Cd.ret ?_
  refine At.in_ret ?_
  refine At.then_ret ?_
  refine At.then_ret ?_
  refine At.in_ret ?_
  refine At.then_ret ?_
  exact At.ret1 rfl (Res.tmp rfl) hF4 (.refl _) ⟨rfl, rfl⟩
 replace H := ite_f hb11 H
 refine Cd.condF rfl hb11 ?_
 refine Cd.skip ?_
 refine At.in_normal ?_
 refine At.then ?_
 refine Cd.region ?_
 refine Lst.r (Ev.incr (by omega) rfl rfl) ?_
 refine mv0 rfl ?_
 refine Lst.nil ?_
 exact At.meet (i2 + 1, k2, ()) hF4 ⟨rfl, rfl, rfl, rfl, trivial⟩ rfl ⟨⟨hgo2 _ (some_inj H).symm, by omega⟩, Nat.lt_succ_self _⟩
set_option maxRecDepth 20000 in
theorem slices_EqualFunc_int_int_int_int_int_int_sim {a0 : List (List Int)} {a1 : List (List Int)} {s_a0 : Sl} {rs_a0 : List (LR Int)} {s_a1 : Sl} {rs_a1 : List (LR Int)} {r : Bool} (H : slices_EqualFunc_int_int_int_int_int_int a0 a1 = some r) (w0 : World) (F : Frz) (M L : List Item) (hM : M.Sublist L) (hm_a0 : rs_a0.map LR.v = a0) (hs_a0 : Rd w0 F M s_a0 rs_a0) (ha_a0 : All LR.rel w0 F M rs_a0) (hm_a1 : rs_a1.map LR.v = a1) (hs_a1 : Rd w0 F M s_a1 rs_a1) (ha_a1 : All LR.rel w0 F M rs_a1) : Ok Try.prog w0 32 [Sl.v s_a0, Sl.v s_a1, .func (.func 30) #[] #[]] F (L) (Is (.bool r) (L)) := by
 unfold slices_EqualFunc_int_int_int_int_int_int at H
 refine Ok.enter (m := 3) (n := 32) Try.func32 rfl rfl rfl (by decide) ?_
 refine Cd.env (e' := [(0, Sl.v s_a0), (1, Sl.v s_a1), (2, .func (.func 30) #[] #[])]) rfl ?_
 refine sr0 ?_
 refine Lst.r (Ev.assign rfl) ?_
 refine nt0 ?_
 refine Cd.seq ?_
 refine sr0 ?_
 refine mv0 rfl ?_
 refine Lst.r (Ev.lenM (map_len hm_a0) (Ev.lenS (α := LR Int) (xs := rs_a0) (by decide) rfl rfl Try.runUnderlying56 (hs_a0.mono fl hM))) ?_
 refine mv0 rfl ?_
 refine Lst.r (Ev.lenM (map_len hm_a1) (Ev.lenS (α := LR Int) (xs := rs_a1) (by decide) rfl rfl Try.runUnderlying56 (hs_a1.mono fl hM))) ?_
 refine Lst.r (Ev.neq rfl rfl) ?_
 refine nt0 ?_
 rcases Bool.eq_false_or_eq_true ((a0.length : Int) != (a1.length : Int)) with hb3 | hb3
 ·replace H := ite_t hb3 H
  refine Cd.condT rfl hb3 ?_
  refine sr0 ?_
  refine Lst.r (Ev.assign rfl) ?_
  refine nt0 ?_
  obtain rfl := some_inj H
  refine Cd.ret ?_
  refine At.then_ret ?_
  exact At.ret1 rfl (Res.tmp rfl) fl (.refl _) ⟨rfl, rfl⟩
 replace H := ite_f hb3 H
 refine Cd.condF rfl hb3 ?_
 refine Cd.skip ?_
 refine At.then ?_
 refine Cd.seq ?_
 refine sr0 ?_
 refine mv0 rfl ?_
 refine Lst.r (Ev.lenM (map_len hm_a0) (Ev.lenS (α := LR Int) (xs := rs_a0) (by decide) rfl rfl Try.runUnderlying56 (hs_a0.mono fl hM))) ?_
 refine mv0 rfl ?_
 refine nt0 ?_
 refine Cd.block ?_
 refine Cd.bound (Rd.le (α := LR Int) (xs := rs_a0) (by decide) (hs_a0.mono fl hM)) (fun hN21 => ?_)
 rw [map_len hm_a0] at hN21
 obtain ⟨ol5, H, HKl5⟩ := andThen_some H
 refine Cd.loop (σ := Nat × Nat × Unit) (fun (i5, k5, _u) => [(1, Sl.v s_a1), (2, .func (.func 30) #[] #[]), (15, Sl.v s_a0), (16, iv (a0.length : Int)), (17, iv (i5 : Int))]) (fun (i5, k5, _u) => L) (fun _ => (fun (i5, k5, _u) => rangeM (slices_EqualFunc_int_int_int_int_int_int_B0 a0 a1) k5 i5 () = some ol5 ∧ i5 + k5 = a0.length)) (fun (i5, k5, _u) => k5) (0, a0.length, ()) ⟨rfl, rfl, rfl, rfl, rfl, trivial⟩ rfl ⟨H, by omega⟩ ?_
 rintro F6 ⟨i5, k5, _u⟩ hF7 ⟨H, hik5⟩
 refine Cd.as (e' := [(1, Sl.v s_a1), (2, .func (.func 30) #[] #[]), (15, Sl.v s_a0), (16, iv (a0.length : Int)), (17, iv (i5 : Int))]) (L' := L) ⟨rfl, rfl, rfl, rfl, rfl, trivial⟩ rfl ?_
 rcases k5 with _ | k5
 ·have hc5 : decide ((i5 : Int) < (a0.length : Int)) = false := decide_eq_false (by omega)
  replace H := rangeM_end H
  refine sr0 ?_
  refine Lst.r (Ev.lss rfl rfl) ?_
  refine nt0 ?_
  refine Cd.seq ?_
  refine Cd.condF rfl hc5 ?_
  refine Cd.exit ?_
  refine At.then_exit ?_
  refine At.then_exit ?_
  refine At.in_exit ?_
  subst H
  replace H := HKl5
  refine At.then ?_
  refine sr0 ?_
  refine Lst.r (Ev.assign rfl) ?_
  refine nt0 ?_
  obtain rfl := some_inj H
  refine Cd.ret ?_
  exact At.ret1 rfl (Res.tmp rfl) hF7 (.refl _) ⟨rfl, rfl⟩
 have hc5 : decide ((i5 : Int) < (a0.length : Int)) = true := decide_eq_true (by omega)
 obtain ⟨c5, H, hgo5, hbrk5, hret5⟩ := rangeM_go H
 unfold slices_EqualFunc_int_int_int_int_int_int_B0 at H
 try dsimp only at H
 refine sr0 ?_
 refine Lst.r (Ev.lss rfl rfl) ?_
 refine nt0 ?_
 refine Cd.seq ?_
 refine Cd.condT rfl hc5 ?_
 refine Cd.skip ?_
 refine At.then ?_
 refine Cd.seq ?_
 refine Cd.block ?_
 refine sr0 ?_
 refine mv0 rfl ?_
 obtain ⟨x8, h9, H⟩ := bind_some H
 have g10 := lat_some h9
 obtain ⟨⟨r11v, r11h⟩, r11g, r11e, r11m⟩ := map_get hm_a0 g10.2.2
 obtain rfl : x8 = r11v := r11e.symm
 have r11q : Rd w0 _ _ r11h x8 := ha_a0 _ r11m
 refine Lst.r (Ev.indexS (α := LR Int) (xs := rs_a0) rfl rfl Try.runUnderlying56 Try.sizeOf34 rfl (by decide) (hs_a0.mono hF7 hM) g10.1 (by have := map_len hm_a0; omega)) ?_
 refine Lst.r (Ev.loadS (α := LR Int) rfl (hs_a0.mono hF7 hM) Try.isAgg34 (v := Sl.v r11h) ((Get.elemN (s := 1) rfl r11g gh0).off (by omega))) ?_
 refine Lst.r (Ev.assign rfl) ?_
 refine Lst.r (Ev.assign rfl) ?_
 refine nsr ?_
 refine mv0 rfl ?_
 refine mv0 rfl ?_
 obtain ⟨x12, h13, H⟩ := bind_some H
 have g14 := lat_some h13
 obtain ⟨⟨r15v, r15h⟩, r15g, r15e, r15m⟩ := map_get hm_a1 g14.2.2
 obtain rfl : x12 = r15v := r15e.symm
 have r15q : Rd w0 _ _ r15h x12 := ha_a1 _ r15m
 refine Lst.r (Ev.indexS (α := LR Int) (xs := rs_a1) rfl rfl Try.runUnderlying56 Try.sizeOf34 rfl (by decide) (hs_a1.mono hF7 hM) g14.1 (by have := map_len hm_a1; omega)) ?_
 refine Lst.r (Ev.loadS (α := LR Int) rfl (hs_a1.mono hF7 hM) Try.isAgg34 (v := Sl.v r15h) ((Get.elemN (s := 1) rfl r15g gh0).off (by omega))) ?_
 refine Lst.r (Ev.assign rfl) ?_
 refine nsr ?_
 refine mv0 rfl ?_
 refine mv0 rfl ?_
 refine mv0 rfl ?_
 obtain ⟨r16, h17, H⟩ := bind_some H
 refine Lst.callV1 rfl rfl (by decide) (vs := [Sl.v r11h, Sl.v r15h]) (cs := []) rfl ⟨rfl, rfl, trivial⟩ Try.call30 (slices_Equal_int_int_sim h17 w0 _ M _ hM (r11q.mono hF7 (.refl _)) (r15q.mono hF7 (.refl _))) ?_
 refine Lst.r (Ev.not rfl) ?_
 refine nt0 ?_
 rcases Bool.eq_false_or_eq_true (!r16) with hb20 | hb20
 ·replace H := ite_t hb20 H
  refine Cd.condT rfl hb20 ?_
  refine Cd.seq ?_
  refine Cd.as (e' := []) (L' := L) trivial rfl ?_
  refine Cd.region ?_
  refine Lst.r (Ev.assign rfl) ?_
  refine nt0 ?_
  have H := hret5 _ (some_inj H).symm
  subst H
  replace H := HKl5
  obtain rfl := some_inj H
  refine Cd.ret ?_
  refine At.in_ret ?_
  refine At.then_ret ?_
  refine At.then_ret ?_
  refine At.in_ret ?_
  refine At.then_ret ?_
  exact At.ret1 rfl (Res.tmp rfl) hF7 (.refl _) ⟨rfl, rfl⟩
 replace H := ite_f hb20 H
 refine Cd.condF rfl hb20 ?_
 refine Cd.skip ?_
 refine At.in_normal ?_
 refine At.then ?_
 refine Cd.as (e' := [(1, Sl.v s_a1), (2, .func (.func 30) #[] #[]), (15, Sl.v s_a0), (16, iv (a0.length : Int)), (17, iv (i5 : Int))]) (L' := L) ⟨rfl, rfl, rfl, rfl, rfl, trivial⟩ rfl ?_
 refine Cd.region ?_
 refine Lst.r (Ev.incr (by omega) rfl rfl) ?_
 refine mv0 rfl ?_
 refine Lst.nil ?_
 exact At.meet (i5 + 1, k5, ()) hF7 ⟨rfl, rfl, rfl, rfl, rfl, trivial⟩ rfl ⟨⟨hgo5 _ (some_inj H).symm, by omega⟩, Nat.lt_succ_self _⟩
end Go.Proofs.Yticifbmaapnfbaa
