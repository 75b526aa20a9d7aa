/-
  The functions compute their specs; printed by a program.
-/
import Derived.Test.YticifbmaapnfbaaMaP1
namespace Go.Proofs.Yticifbmaapnfbaa
open Go.RowKit Enc
set_option linter.unusedVariables false
set_option linter.unusedSimpArgs false
set_option maxHeartbeats 2000000 in
set_option maxRecDepth 20000 in
theorem match_Cover_sim {fu : Nat} {a0 : Int} {a1 : Int} {a2 : List Pair} {s_a2 : Sl} {r : (List Int) × (List Int) × Int} (H : match_Cover fu a0 a1 a2 = some r) (w0 : World) (F : Frz) (M L : List Item) (hM : M.Sublist L) (hs_a2 : Rd w0 F M s_a2 a2) : Ok Try.prog w0 36 [iv a0, iv a1, Sl.v s_a2] F (L) (fun _ L' v => ∃ (s1 : Sl) (s3 : Sl), v = .tuple #[Sl.v s1, Sl.v s3, iv r.2.2] ∧ L' = (.own s1 3 1 (encs r.1)) :: (.own s3 3 1 (encs r.2.1)) :: L) := by
 unfold match_Cover at H
 refine Ok.enter (m := 3) (n := 81) Try.func36 rfl rfl rfl (by decide) ?_
 refine Cd.env (e' := [(0, iv a0), (1, iv a1), (2, Sl.v s_a2)]) rfl ?_
 refine Cd.seq ?_
 refine Cd.region ?_
 refine Lst.addNil 3 1 ?_
 refine Lst.r (Ev.assign rfl) ?_
 refine Lst.addNil 3 1 ?_
 refine Lst.r (Ev.assign rfl) ?_
 refine Lst.r (Ev.assign rfl) ?_
 refine Lst.nil ?_
 refine At.then ?_
 refine Cd.seq ?_
 refine Cd.seq ?_
 refine Cd.region ?_
 refine Lst.r (Ev.move rfl) ?_
 refine Lst.r (Ev.move rfl) ?_
 refine Lst.r (Ev.move rfl) ?_
 obtain ⟨r3, h4, H⟩ := bind_some H
 refine Lst.call1 rfl rfl (by decide) (vs := [iv a0, iv a1, Sl.v s_a2]) ⟨rfl, rfl, rfl, trivial⟩ Try.call37 (match_Check_sim h4 w0 _ M _ (sc2 hM) (hs_a2.mono (FLe.refl _) (.refl _))) ?_
 refine Lst.r (Ev.assign rfl) ?_
 refine Lst.nil ?_
 refine At.then ?_
 refine Cd.seq ?_
 refine Cd.region ?_
 refine Lst.r (Ev.move rfl) ?_
 refine Lst.r (Ev.neq rfl rfl) ?_
 refine Lst.nil ?_
 refine At.then ?_
 rcases Bool.eq_false_or_eq_true (r3 != (0 : Int)) with hb7 | hb7
 ·replace H := ite_t hb7 H
  refine Cd.condT rfl hb7 ?_
  refine Cd.seq ?_
  refine Cd.region ?_
  refine Lst.r (Ev.move rfl) ?_
  refine Lst.addNil 3 1 ?_
  refine Lst.r (Ev.assign rfl) ?_
  refine Lst.addNil 3 1 ?_
  refine Lst.r (Ev.assign rfl) ?_
  refine Lst.r (Ev.assign rfl) ?_
  refine Lst.nil ?_
  refine At.then ?_
  obtain rfl := some_inj H
  refine Cd.ret ?_
  refine At.then_ret ?_
  refine At.front (i := 1) rfl (L' := (.own Sl.nil 3 1 (encs ([] : List Int))) :: (.own Sl.nil 3 1 (encs ([] : List Int))) :: (.own Sl.nil 3 1 (encs ([] : List Int))) :: (.own Sl.nil 3 1 (encs ([] : List Int))) :: L) rfl ?_
  exact At.ret3 rfl (Res.tmp rfl) (Res.tmp rfl) (Res.tmp rfl) (FLe.refl _) (sk1 (sk1 (sc1 (sc1 (.refl _))))) ⟨Sl.nil, Sl.nil, rfl, rfl⟩
 replace H := ite_f hb7 H
 refine Cd.condF rfl hb7 ?_
 refine Cd.skip ?_
 refine At.then ?_
 refine Cd.seq ?_
 refine Cd.region ?_
 refine Lst.r (Ev.move rfl) ?_
 refine Lst.r (Ev.move rfl) ?_
 refine Lst.r (Ev.move rfl) ?_
 obtain ⟨r10, h11, H⟩ := bind_some H
 refine Lst.call rfl rfl (by decide) (vs := [iv a0, iv a1, Sl.v s_a2]) ⟨rfl, rfl, rfl, trivial⟩ Try.call59 (match_most_sim h11 w0 _ M _ (sc2 hM) (hs_a2.mono (FLe.refl _) (.refl _))) (fun F23 L' v hF24 hv => ?_)
 obtain ⟨b12, s13, rs14, s18, s20, rfl, rfl, fm15, f21⟩ := hv
 refine Lst.alloc (cs := [.pointer none]) rfl rfl (by decide) Try.zeroValue97 rfl (fun b25 => ?_)
 refine Lst.store (i := 0) rfl rfl rfl rfl rfl Try.sizeOf97 (vs := [pv b12 0]) rfl rfl rfl (cs' := [pv b12 0]) (Put.here (vs := [pv b12 0]) rfl) (L' := (.blk b25 [pv b12 0] 97) :: (.rows (α := Bool) 4 rs14) :: (.own s13 75 1 (encs rs14)) :: (.own s18 3 1 (encs r10.left)) :: (.blk b12 (enc (GraphR.mk r10 s13 s18 s20)) 101) :: (.own Sl.nil 3 1 (encs ([] : List Int))) :: (.own Sl.nil 3 1 (encs ([] : List Int))) :: L) rfl ?_
 refine Lst.nil ?_
 refine At.then ?_
 refine Cd.seq ?_
 refine Cd.as (e' := [(0, iv a0), (1, iv a1), (10, pv b25 0)]) (L' := (.blk b25 [pv b12 0] 97) :: (.rows (α := Bool) 4 rs14) :: (.own s13 75 1 (encs rs14)) :: (.own s18 3 1 (encs r10.left)) :: (.blk b12 (enc (GraphR.mk r10 s13 s18 s20)) 101) :: (.own Sl.nil 3 1 (encs ([] : List Int))) :: (.own Sl.nil 3 1 (encs ([] : List Int))) :: L) ⟨rfl, rfl, rfl, trivial⟩ rfl ?_
 obtain ⟨n27, h28, H⟩ := bind_some H
 obtain ⟨n32, h33, H⟩ := bind_some H
 obtain ⟨o52, h53, H⟩ := Let_some H
 refine Cd.headMeet (σ := Nat × Sl × (List Bool) × Nat × Sl × (List Bool) × Sl × (List Bool)) 7 (fun (b44, s45, l46, b47, s48, l49, s50, l51) => [(0, iv a0), (10, pv b25 0), (11, pv b47 0), (12, pv b44 0), (35, Sl.v s48)]) (fun (b44, s45, l46, b47, s48, l49, s50, l51) => (.blk b44 (enc s45) 75) :: (.own s45 4 1 (encs l46)) :: (.blk b47 (enc s50) 75) :: (.own s48 4 1 (encs l49)) :: (.own s50 4 1 (encs l51)) :: (.blk b25 [pv b12 0] 97) :: (.rows (α := Bool) 4 rs14) :: (.own s13 75 1 (encs rs14)) :: (.own s18 3 1 (encs r10.left)) :: (.blk b12 (enc (GraphR.mk r10 s13 s18 s20)) 101) :: (.own Sl.nil 3 1 (encs ([] : List Int))) :: (.own Sl.nil 3 1 (encs ([] : List Int))) :: L) (fun _ (b44, s45, l46, b47, s48, l49, s50, l51) => (l46, l49, l51) = o52) (by kernel_rfl) (by kernel_rfl) (behind_sink (by kernel_rfl) (by kernel_rfl) (by kernel_rfl)) (by kernel_rfl) (fun hsel hlt => ?_) ?_
 ·refine HdJ.keep (fun w => St w0 F23 ((.blk b25 [pv b12 0] 97) :: (.rows (α := Bool) 4 rs14) :: (.own s13 75 1 (encs rs14)) :: (.own s18 3 1 (encs r10.left)) :: (.blk b12 (enc (GraphR.mk r10 s13 s18 s20)) 101) :: (.own Sl.nil 3 1 (encs ([] : List Int))) :: (.own Sl.nil 3 1 (encs ([] : List Int))) :: L) w) (fun w h => trivial) ?_
  refine HdJ.tk hsel hlt 0 (fun w h => h.sublist (sk1 (sk1 (sk1 (sk1 (sk1 (sk1 (sk1 (.refl _))))))))) rfl (Ev.move rfl) ?_
  refine HdJ.tk hsel hlt 2 (fun w h => h.sublist (sk1 (sk1 (sk1 (sk1 (sk1 (sk1 (sk1 (.refl _))))))))) rfl (Ev.move rfl) ?_
  refine HdJ.step [1, 3, 4, 5] (by kernel_rfl) rfl ?_
  refine HdStep.c (fun inv => ?_) ?_
  ·have g54 := mkLen_some h28
   refine Lst.make (α := Bool) (z0 := false) (k := n27) rfl rfl (by decide) (congrArg some (congrArg (Value.int .i64) g54.1)) (congrArg some (congrArg (Value.int .i64) g54.1)) Try.runUnderlying75 Try.typeInfo4 rfl rfl rfl rfl rfl g54.2 rfl (fun s55 => ?_)
   refine Lst.nil ?_
   refine At.hd inv (fun w h => (h.weaken (FLe.refl _)).sublist (sc1 (sk1 (sk1 (sk1 (sk1 (sk1 (sk1 (sk1 (.refl _)))))))))) ?_
   refine HdJ.step [3, 4, 5] (by kernel_rfl) rfl ?_
   refine HdStep.c (fun inv => ?_) ?_
   ·have g56 := mkLen_some h33
    refine Lst.make (α := Bool) (z0 := false) (k := n32) rfl rfl (by decide) (congrArg some (congrArg (Value.int .i64) g56.1)) (congrArg some (congrArg (Value.int .i64) g56.1)) Try.runUnderlying75 Try.typeInfo4 rfl rfl rfl rfl rfl g56.2 rfl (fun s57 => ?_)
    refine Lst.nil ?_
    refine At.hd inv (fun w h => (h.weaken (FLe.refl _)).sublist (sc1 (sc1 (sk1 (sk1 (sk1 (sk1 (sk1 (sk1 (sk1 (.refl _))))))))))) ?_
    refine HdJ.step [4, 5] (by kernel_rfl) rfl ?_
    refine HdStep.c (fun inv => ?_) ?_
    ·refine Lst.addNil 4 1 ?_
     refine Lst.alloc (cs := enc Sl.nil) rfl rfl (by decide) Try.zeroValue75 rfl (fun b58 => ?_)
     refine Lst.nil ?_
     refine At.hd inv (fun w h => (h.weaken (FLe.refl _)).sublist (sc1 (sc1 (sc1 (sc1 (sk1 (sk1 (sk1 (sk1 (sk1 (sk1 (sk1 (.refl _))))))))))))) ?_
     refine HdJ.step [5] (by kernel_rfl) rfl ?_
     refine HdStep.c (fun inv => ?_) ?_
     ·refine Lst.addNil 4 1 ?_
      refine Lst.alloc (cs := enc Sl.nil) rfl rfl (by decide) Try.zeroValue75 rfl (fun b59 => ?_)
      refine Lst.nil ?_
      refine At.hd inv (fun w h => (h.weaken (FLe.refl _)).sublist (sc1 (sc1 (sc1 (sc1 (sc1 (sc1 (sk1 (sk1 (sk1 (sk1 (sk1 (sk1 (sk1 (.refl _))))))))))))))) ?_
      refine HdJ.step [6] (by kernel_rfl) rfl ?_
      refine HdStep.c (fun inv => ?_) ?_
      ·refine Lst.store (i := 2) rfl rfl rfl rfl rfl Try.sizeOf75 (vs := [Sl.v s55]) rfl rfl rfl (cs' := enc s55) (Put.here (vs := [Sl.v s55]) rfl) (L' := (.blk b59 (enc Sl.nil) 75) :: (.own Sl.nil 4 1 (encs ([] : List Bool))) :: (.blk b58 (enc s55) 75) :: (.own Sl.nil 4 1 (encs ([] : List Bool))) :: (.own s57 4 1 (encs (List.replicate n32 false))) :: (.own s55 4 1 (encs (List.replicate n27 false))) :: (.blk b25 [pv b12 0] 97) :: (.rows (α := Bool) 4 rs14) :: (.own s13 75 1 (encs rs14)) :: (.own s18 3 1 (encs r10.left)) :: (.blk b12 (enc (GraphR.mk r10 s13 s18 s20)) 101) :: (.own Sl.nil 3 1 (encs ([] : List Int))) :: (.own Sl.nil 3 1 (encs ([] : List Int))) :: L) rfl ?_
       refine Lst.nil ?_
       refine At.hd inv (fun w h => (h.weaken (FLe.refl _)).sublist (sc1 (sc1 (sc1 (sc1 (sc1 (sc1 (sk1 (sk1 (sk1 (sk1 (sk1 (sk1 (sk1 (.refl _))))))))))))))) ?_
       refine HdJ.done (by kernel_rfl) ?_
       refine At.less (L' := (.blk b59 (enc Sl.nil) 75) :: (.own Sl.nil 4 1 (encs ([] : List Bool))) :: (.blk b58 (enc s55) 75) :: (.own s57 4 1 (encs (List.replicate n32 false))) :: (.own s55 4 1 (encs (List.replicate n27 false))) :: (.blk b25 [pv b12 0] 97) :: (.rows (α := Bool) 4 rs14) :: (.own s13 75 1 (encs rs14)) :: (.own s18 3 1 (encs r10.left)) :: (.blk b12 (enc (GraphR.mk r10 s13 s18 s20)) 101) :: (.own Sl.nil 3 1 (encs ([] : List Int))) :: (.own Sl.nil 3 1 (encs ([] : List Int))) :: L) (sk1 (sk1 (sk1 (sc1 (sk1 (sk1 (sk1 (sk1 (sk1 (sk1 (sk1 (sk1 (sk1 (.refl _)))))))))))))) ?_
       exact At.meetN (b59, Sl.nil, ([] : List Bool), b58, s57, (List.replicate n32 false), s55, (List.replicate n27 false)) (FLe.refl _) ⟨rfl, rfl, rfl, rfl, rfl, trivial⟩ rfl h53
      exact trivial
     exact trivial
    refine HdStep.c (fun inv => ?_) ?_
    ·refine Lst.addNil 4 1 ?_
     refine Lst.alloc (cs := enc Sl.nil) rfl rfl (by decide) Try.zeroValue75 rfl (fun b60 => ?_)
     refine Lst.nil ?_
     refine At.hd inv (fun w h => (h.weaken (FLe.refl _)).sublist (sc1 (sc1 (sc1 (sc1 (sk1 (sk1 (sk1 (sk1 (sk1 (sk1 (sk1 (.refl _))))))))))))) ?_
     refine HdJ.step [4] (by kernel_rfl) rfl ?_
     refine HdStep.c (fun inv => ?_) ?_
     ·refine Lst.addNil 4 1 ?_
      refine Lst.alloc (cs := enc Sl.nil) rfl rfl (by decide) Try.zeroValue75 rfl (fun b61 => ?_)
      refine Lst.nil ?_
      refine At.hd inv (fun w h => (h.weaken (FLe.refl _)).sublist (sc1 (sc1 (sc1 (sc1 (sc1 (sc1 (sk1 (sk1 (sk1 (sk1 (sk1 (sk1 (sk1 (.refl _))))))))))))))) ?_
      refine HdJ.step [6] (by kernel_rfl) rfl ?_
      refine HdStep.c (fun inv => ?_) ?_
      ·refine Lst.store (i := 0) rfl rfl rfl rfl rfl Try.sizeOf75 (vs := [Sl.v s55]) rfl rfl rfl (cs' := enc s55) (Put.here (vs := [Sl.v s55]) rfl) (L' := (.blk b61 (enc s55) 75) :: (.own Sl.nil 4 1 (encs ([] : List Bool))) :: (.blk b60 (enc Sl.nil) 75) :: (.own Sl.nil 4 1 (encs ([] : List Bool))) :: (.own s57 4 1 (encs (List.replicate n32 false))) :: (.own s55 4 1 (encs (List.replicate n27 false))) :: (.blk b25 [pv b12 0] 97) :: (.rows (α := Bool) 4 rs14) :: (.own s13 75 1 (encs rs14)) :: (.own s18 3 1 (encs r10.left)) :: (.blk b12 (enc (GraphR.mk r10 s13 s18 s20)) 101) :: (.own Sl.nil 3 1 (encs ([] : List Int))) :: (.own Sl.nil 3 1 (encs ([] : List Int))) :: L) rfl ?_
       refine Lst.nil ?_
       refine At.hd inv (fun w h => (h.weaken (FLe.refl _)).sublist (sc1 (sc1 (sc1 (sc1 (sc1 (sc1 (sk1 (sk1 (sk1 (sk1 (sk1 (sk1 (sk1 (.refl _))))))))))))))) ?_
       refine HdJ.done (by kernel_rfl) ?_
       refine At.front (i := 3) rfl rfl ?_
       refine At.front (i := 3) rfl (L' := (.blk b60 (enc Sl.nil) 75) :: (.own Sl.nil 4 1 (encs ([] : List Bool))) :: (.blk b61 (enc s55) 75) :: (.own Sl.nil 4 1 (encs ([] : List Bool))) :: (.own s57 4 1 (encs (List.replicate n32 false))) :: (.own s55 4 1 (encs (List.replicate n27 false))) :: (.blk b25 [pv b12 0] 97) :: (.rows (α := Bool) 4 rs14) :: (.own s13 75 1 (encs rs14)) :: (.own s18 3 1 (encs r10.left)) :: (.blk b12 (enc (GraphR.mk r10 s13 s18 s20)) 101) :: (.own Sl.nil 3 1 (encs ([] : List Int))) :: (.own Sl.nil 3 1 (encs ([] : List Int))) :: L) rfl ?_
       refine At.less (L' := (.blk b60 (enc Sl.nil) 75) :: (.own Sl.nil 4 1 (encs ([] : List Bool))) :: (.blk b61 (enc s55) 75) :: (.own s57 4 1 (encs (List.replicate n32 false))) :: (.own s55 4 1 (encs (List.replicate n27 false))) :: (.blk b25 [pv b12 0] 97) :: (.rows (α := Bool) 4 rs14) :: (.own s13 75 1 (encs rs14)) :: (.own s18 3 1 (encs r10.left)) :: (.blk b12 (enc (GraphR.mk r10 s13 s18 s20)) 101) :: (.own Sl.nil 3 1 (encs ([] : List Int))) :: (.own Sl.nil 3 1 (encs ([] : List Int))) :: L) (sk1 (sk1 (sk1 (sc1 (sk1 (sk1 (sk1 (sk1 (sk1 (sk1 (sk1 (sk1 (sk1 (.refl _)))))))))))))) ?_
       exact At.meetN (b60, Sl.nil, ([] : List Bool), b61, s57, (List.replicate n32 false), s55, (List.replicate n27 false)) (FLe.refl _) ⟨rfl, rfl, rfl, rfl, rfl, trivial⟩ rfl h53
      exact trivial
     exact trivial
    exact trivial
   refine HdStep.c (fun inv => ?_) ?_
   ·refine Lst.addNil 4 1 ?_
    refine Lst.alloc (cs := enc Sl.nil) rfl rfl (by decide) Try.zeroValue75 rfl (fun b62 => ?_)
    refine Lst.nil ?_
    refine At.hd inv (fun w h => (h.weaken (FLe.refl _)).sublist (sc1 (sc1 (sc1 (sk1 (sk1 (sk1 (sk1 (sk1 (sk1 (sk1 (.refl _)))))))))))) ?_
    refine HdJ.step [3, 5] (by kernel_rfl) rfl ?_
    refine HdStep.c (fun inv => ?_) ?_
    ·have g63 := mkLen_some h33
     refine Lst.make (α := Bool) (z0 := false) (k := n32) rfl rfl (by decide) (congrArg some (congrArg (Value.int .i64) g63.1)) (congrArg some (congrArg (Value.int .i64) g63.1)) Try.runUnderlying75 Try.typeInfo4 rfl rfl rfl rfl rfl g63.2 rfl (fun s64 => ?_)
     refine Lst.nil ?_
     refine At.hd inv (fun w h => (h.weaken (FLe.refl _)).sublist (sc1 (sc1 (sc1 (sc1 (sk1 (sk1 (sk1 (sk1 (sk1 (sk1 (sk1 (.refl _))))))))))))) ?_
     refine HdJ.step [5] (by kernel_rfl) rfl ?_
     refine HdStep.c (fun inv => ?_) ?_
     ·refine Lst.addNil 4 1 ?_
      refine Lst.alloc (cs := enc Sl.nil) rfl rfl (by decide) Try.zeroValue75 rfl (fun b65 => ?_)
      refine Lst.nil ?_
      refine At.hd inv (fun w h => (h.weaken (FLe.refl _)).sublist (sc1 (sc1 (sc1 (sc1 (sc1 (sc1 (sk1 (sk1 (sk1 (sk1 (sk1 (sk1 (sk1 (.refl _))))))))))))))) ?_
      refine HdJ.step [6] (by kernel_rfl) rfl ?_
      refine HdStep.c (fun inv => ?_) ?_
      ·refine Lst.store (i := 3) rfl rfl rfl rfl rfl Try.sizeOf75 (vs := [Sl.v s55]) rfl rfl rfl (cs' := enc s55) (Put.here (vs := [Sl.v s55]) rfl) (L' := (.blk b65 (enc Sl.nil) 75) :: (.own Sl.nil 4 1 (encs ([] : List Bool))) :: (.own s64 4 1 (encs (List.replicate n32 false))) :: (.blk b62 (enc s55) 75) :: (.own Sl.nil 4 1 (encs ([] : List Bool))) :: (.own s55 4 1 (encs (List.replicate n27 false))) :: (.blk b25 [pv b12 0] 97) :: (.rows (α := Bool) 4 rs14) :: (.own s13 75 1 (encs rs14)) :: (.own s18 3 1 (encs r10.left)) :: (.blk b12 (enc (GraphR.mk r10 s13 s18 s20)) 101) :: (.own Sl.nil 3 1 (encs ([] : List Int))) :: (.own Sl.nil 3 1 (encs ([] : List Int))) :: L) rfl ?_
       refine Lst.nil ?_
       refine At.hd inv (fun w h => (h.weaken (FLe.refl _)).sublist (sc1 (sc1 (sc1 (sc1 (sc1 (sc1 (sk1 (sk1 (sk1 (sk1 (sk1 (sk1 (sk1 (.refl _))))))))))))))) ?_
       refine HdJ.done (by kernel_rfl) ?_
       refine At.front (i := 3) rfl rfl ?_
       refine At.front (i := 2) rfl rfl ?_
       refine At.front (i := 2) rfl (L' := (.blk b65 (enc Sl.nil) 75) :: (.own Sl.nil 4 1 (encs ([] : List Bool))) :: (.blk b62 (enc s55) 75) :: (.own s64 4 1 (encs (List.replicate n32 false))) :: (.own Sl.nil 4 1 (encs ([] : List Bool))) :: (.own s55 4 1 (encs (List.replicate n27 false))) :: (.blk b25 [pv b12 0] 97) :: (.rows (α := Bool) 4 rs14) :: (.own s13 75 1 (encs rs14)) :: (.own s18 3 1 (encs r10.left)) :: (.blk b12 (enc (GraphR.mk r10 s13 s18 s20)) 101) :: (.own Sl.nil 3 1 (encs ([] : List Int))) :: (.own Sl.nil 3 1 (encs ([] : List Int))) :: L) rfl ?_
       refine At.less (L' := (.blk b65 (enc Sl.nil) 75) :: (.own Sl.nil 4 1 (encs ([] : List Bool))) :: (.blk b62 (enc s55) 75) :: (.own s64 4 1 (encs (List.replicate n32 false))) :: (.own s55 4 1 (encs (List.replicate n27 false))) :: (.blk b25 [pv b12 0] 97) :: (.rows (α := Bool) 4 rs14) :: (.own s13 75 1 (encs rs14)) :: (.own s18 3 1 (encs r10.left)) :: (.blk b12 (enc (GraphR.mk r10 s13 s18 s20)) 101) :: (.own Sl.nil 3 1 (encs ([] : List Int))) :: (.own Sl.nil 3 1 (encs ([] : List Int))) :: L) (sk1 (sk1 (sk1 (sk1 (sc1 (sk1 (sk1 (sk1 (sk1 (sk1 (sk1 (sk1 (sk1 (.refl _)))))))))))))) ?_
       exact At.meetN (b65, Sl.nil, ([] : List Bool), b62, s64, (List.replicate n32 false), s55, (List.replicate n27 false)) (FLe.refl _) ⟨rfl, rfl, rfl, rfl, rfl, trivial⟩ rfl h53
      exact trivial
     exact trivial
    refine HdStep.c (fun inv => ?_) ?_
    ·refine Lst.addNil 4 1 ?_
     refine Lst.alloc (cs := enc Sl.nil) rfl rfl (by decide) Try.zeroValue75 rfl (fun b66 => ?_)
     refine Lst.nil ?_
     refine At.hd inv (fun w h => (h.weaken (FLe.refl _)).sublist (sc1 (sc1 (sc1 (sc1 (sc1 (sk1 (sk1 (sk1 (sk1 (sk1 (sk1 (sk1 (.refl _)))))))))))))) ?_
     refine HdJ.step [3, 6] (by kernel_rfl) rfl ?_
     refine HdStep.c (fun inv => ?_) ?_
     ·have g67 := mkLen_some h33
      refine Lst.make (α := Bool) (z0 := false) (k := n32) rfl rfl (by decide) (congrArg some (congrArg (Value.int .i64) g67.1)) (congrArg some (congrArg (Value.int .i64) g67.1)) Try.runUnderlying75 Try.typeInfo4 rfl rfl rfl rfl rfl g67.2 rfl (fun s68 => ?_)
      refine Lst.nil ?_
      refine At.hd inv (fun w h => (h.weaken (FLe.refl _)).sublist (sc1 (sc1 (sc1 (sc1 (sc1 (sc1 (sk1 (sk1 (sk1 (sk1 (sk1 (sk1 (sk1 (.refl _))))))))))))))) ?_
      refine HdJ.step [6] (by kernel_rfl) rfl ?_
      refine HdStep.c (fun inv => ?_) ?_
      ·refine Lst.store (i := 3) rfl rfl rfl rfl rfl Try.sizeOf75 (vs := [Sl.v s55]) rfl rfl rfl (cs' := enc s55) (Put.here (vs := [Sl.v s55]) rfl) (L' := (.own s68 4 1 (encs (List.replicate n32 false))) :: (.blk b66 (enc Sl.nil) 75) :: (.own Sl.nil 4 1 (encs ([] : List Bool))) :: (.blk b62 (enc s55) 75) :: (.own Sl.nil 4 1 (encs ([] : List Bool))) :: (.own s55 4 1 (encs (List.replicate n27 false))) :: (.blk b25 [pv b12 0] 97) :: (.rows (α := Bool) 4 rs14) :: (.own s13 75 1 (encs rs14)) :: (.own s18 3 1 (encs r10.left)) :: (.blk b12 (enc (GraphR.mk r10 s13 s18 s20)) 101) :: (.own Sl.nil 3 1 (encs ([] : List Int))) :: (.own Sl.nil 3 1 (encs ([] : List Int))) :: L) rfl ?_
       refine Lst.nil ?_
       refine At.hd inv (fun w h => (h.weaken (FLe.refl _)).sublist (sc1 (sc1 (sc1 (sc1 (sc1 (sc1 (sk1 (sk1 (sk1 (sk1 (sk1 (sk1 (sk1 (.refl _))))))))))))))) ?_
       refine HdJ.done (by kernel_rfl) ?_
       refine At.front (i := 3) rfl rfl ?_
       refine At.front (i := 3) rfl rfl ?_
       refine At.front (i := 3) rfl (L' := (.blk b66 (enc Sl.nil) 75) :: (.own Sl.nil 4 1 (encs ([] : List Bool))) :: (.blk b62 (enc s55) 75) :: (.own s68 4 1 (encs (List.replicate n32 false))) :: (.own Sl.nil 4 1 (encs ([] : List Bool))) :: (.own s55 4 1 (encs (List.replicate n27 false))) :: (.blk b25 [pv b12 0] 97) :: (.rows (α := Bool) 4 rs14) :: (.own s13 75 1 (encs rs14)) :: (.own s18 3 1 (encs r10.left)) :: (.blk b12 (enc (GraphR.mk r10 s13 s18 s20)) 101) :: (.own Sl.nil 3 1 (encs ([] : List Int))) :: (.own Sl.nil 3 1 (encs ([] : List Int))) :: L) rfl ?_
       refine At.less (L' := (.blk b66 (enc Sl.nil) 75) :: (.own Sl.nil 4 1 (encs ([] : List Bool))) :: (.blk b62 (enc s55) 75) :: (.own s68 4 1 (encs (List.replicate n32 false))) :: (.own s55 4 1 (encs (List.replicate n27 false))) :: (.blk b25 [pv b12 0] 97) :: (.rows (α := Bool) 4 rs14) :: (.own s13 75 1 (encs rs14)) :: (.own s18 3 1 (encs r10.left)) :: (.blk b12 (enc (GraphR.mk r10 s13 s18 s20)) 101) :: (.own Sl.nil 3 1 (encs ([] : List Int))) :: (.own Sl.nil 3 1 (encs ([] : List Int))) :: L) (sk1 (sk1 (sk1 (sk1 (sc1 (sk1 (sk1 (sk1 (sk1 (sk1 (sk1 (sk1 (sk1 (.refl _)))))))))))))) ?_
       exact At.meetN (b66, Sl.nil, ([] : List Bool), b62, s68, (List.replicate n32 false), s55, (List.replicate n27 false)) (FLe.refl _) ⟨rfl, rfl, rfl, rfl, rfl, trivial⟩ rfl h53
      exact trivial
     refine HdStep.c (fun inv => ?_) ?_
     ·refine Lst.store (i := 2) rfl rfl rfl rfl rfl Try.sizeOf75 (vs := [Sl.v s55]) rfl rfl rfl (cs' := enc s55) (Put.here (vs := [Sl.v s55]) rfl) (L' := (.blk b66 (enc Sl.nil) 75) :: (.own Sl.nil 4 1 (encs ([] : List Bool))) :: (.blk b62 (enc s55) 75) :: (.own Sl.nil 4 1 (encs ([] : List Bool))) :: (.own s55 4 1 (encs (List.replicate n27 false))) :: (.blk b25 [pv b12 0] 97) :: (.rows (α := Bool) 4 rs14) :: (.own s13 75 1 (encs rs14)) :: (.own s18 3 1 (encs r10.left)) :: (.blk b12 (enc (GraphR.mk r10 s13 s18 s20)) 101) :: (.own Sl.nil 3 1 (encs ([] : List Int))) :: (.own Sl.nil 3 1 (encs ([] : List Int))) :: L) rfl ?_
      refine Lst.nil ?_
      refine At.hd inv (fun w h => (h.weaken (FLe.refl _)).sublist (sc1 (sc1 (sc1 (sc1 (sc1 (sk1 (sk1 (sk1 (sk1 (sk1 (sk1 (sk1 (.refl _)))))))))))))) ?_
      refine HdJ.step [3] (by kernel_rfl) rfl ?_
      refine HdStep.c (fun inv => ?_) ?_
      ·have g69 := mkLen_some h33
       refine Lst.make (α := Bool) (z0 := false) (k := n32) rfl rfl (by decide) (congrArg some (congrArg (Value.int .i64) g69.1)) (congrArg some (congrArg (Value.int .i64) g69.1)) Try.runUnderlying75 Try.typeInfo4 rfl rfl rfl rfl rfl g69.2 rfl (fun s70 => ?_)
       refine Lst.nil ?_
       refine At.hd inv (fun w h => (h.weaken (FLe.refl _)).sublist (sc1 (sc1 (sc1 (sc1 (sc1 (sc1 (sk1 (sk1 (sk1 (sk1 (sk1 (sk1 (sk1 (.refl _))))))))))))))) ?_
       refine HdJ.done (by kernel_rfl) ?_
       refine At.front (i := 3) rfl rfl ?_
       refine At.front (i := 3) rfl rfl ?_
       refine At.front (i := 3) rfl (L' := (.blk b66 (enc Sl.nil) 75) :: (.own Sl.nil 4 1 (encs ([] : List Bool))) :: (.blk b62 (enc s55) 75) :: (.own s70 4 1 (encs (List.replicate n32 false))) :: (.own Sl.nil 4 1 (encs ([] : List Bool))) :: (.own s55 4 1 (encs (List.replicate n27 false))) :: (.blk b25 [pv b12 0] 97) :: (.rows (α := Bool) 4 rs14) :: (.own s13 75 1 (encs rs14)) :: (.own s18 3 1 (encs r10.left)) :: (.blk b12 (enc (GraphR.mk r10 s13 s18 s20)) 101) :: (.own Sl.nil 3 1 (encs ([] : List Int))) :: (.own Sl.nil 3 1 (encs ([] : List Int))) :: L) rfl ?_
       refine At.less (L' := (.blk b66 (enc Sl.nil) 75) :: (.own Sl.nil 4 1 (encs ([] : List Bool))) :: (.blk b62 (enc s55) 75) :: (.own s70 4 1 (encs (List.replicate n32 false))) :: (.own s55 4 1 (encs (List.replicate n27 false))) :: (.blk b25 [pv b12 0] 97) :: (.rows (α := Bool) 4 rs14) :: (.own s13 75 1 (encs rs14)) :: (.own s18 3 1 (encs r10.left)) :: (.blk b12 (enc (GraphR.mk r10 s13 s18 s20)) 101) :: (.own Sl.nil 3 1 (encs ([] : List Int))) :: (.own Sl.nil 3 1 (encs ([] : List Int))) :: L) (sk1 (sk1 (sk1 (sk1 (sc1 (sk1 (sk1 (sk1 (sk1 (sk1 (sk1 (sk1 (sk1 (.refl _)))))))))))))) ?_
       exact At.meetN (b66, Sl.nil, ([] : List Bool), b62, s70, (List.replicate n32 false), s55, (List.replicate n27 false)) (FLe.refl _) ⟨rfl, rfl, rfl, rfl, rfl, trivial⟩ rfl h53
      exact trivial
     exact trivial
    exact trivial
   refine HdStep.c (fun inv => ?_) ?_
   ·refine Lst.addNil 4 1 ?_
    refine Lst.alloc (cs := enc Sl.nil) rfl rfl (by decide) Try.zeroValue75 rfl (fun b71 => ?_)
    refine Lst.nil ?_
    refine At.hd inv (fun w h => (h.weaken (FLe.refl _)).sublist (sc1 (sc1 (sc1 (sk1 (sk1 (sk1 (sk1 (sk1 (sk1 (sk1 (.refl _)))))))))))) ?_
    refine HdJ.step [3, 4] (by kernel_rfl) rfl ?_
    refine HdStep.c (fun inv => ?_) ?_
    ·have g72 := mkLen_some h33
     refine Lst.make (α := Bool) (z0 := false) (k := n32) rfl rfl (by decide) (congrArg some (congrArg (Value.int .i64) g72.1)) (congrArg some (congrArg (Value.int .i64) g72.1)) Try.runUnderlying75 Try.typeInfo4 rfl rfl rfl rfl rfl g72.2 rfl (fun s73 => ?_)
     refine Lst.nil ?_
     refine At.hd inv (fun w h => (h.weaken (FLe.refl _)).sublist (sc1 (sc1 (sc1 (sc1 (sk1 (sk1 (sk1 (sk1 (sk1 (sk1 (sk1 (.refl _))))))))))))) ?_
     refine HdJ.step [4] (by kernel_rfl) rfl ?_
     refine HdStep.c (fun inv => ?_) ?_
     ·refine Lst.addNil 4 1 ?_
      refine Lst.alloc (cs := enc Sl.nil) rfl rfl (by decide) Try.zeroValue75 rfl (fun b74 => ?_)
      refine Lst.nil ?_
      refine At.hd inv (fun w h => (h.weaken (FLe.refl _)).sublist (sc1 (sc1 (sc1 (sc1 (sc1 (sc1 (sk1 (sk1 (sk1 (sk1 (sk1 (sk1 (sk1 (.refl _))))))))))))))) ?_
      refine HdJ.step [6] (by kernel_rfl) rfl ?_
      refine HdStep.c (fun inv => ?_) ?_
      ·refine Lst.store (i := 0) rfl rfl rfl rfl rfl Try.sizeOf75 (vs := [Sl.v s55]) rfl rfl rfl (cs' := enc s55) (Put.here (vs := [Sl.v s55]) rfl) (L' := (.blk b74 (enc s55) 75) :: (.own Sl.nil 4 1 (encs ([] : List Bool))) :: (.own s73 4 1 (encs (List.replicate n32 false))) :: (.blk b71 (enc Sl.nil) 75) :: (.own Sl.nil 4 1 (encs ([] : List Bool))) :: (.own s55 4 1 (encs (List.replicate n27 false))) :: (.blk b25 [pv b12 0] 97) :: (.rows (α := Bool) 4 rs14) :: (.own s13 75 1 (encs rs14)) :: (.own s18 3 1 (encs r10.left)) :: (.blk b12 (enc (GraphR.mk r10 s13 s18 s20)) 101) :: (.own Sl.nil 3 1 (encs ([] : List Int))) :: (.own Sl.nil 3 1 (encs ([] : List Int))) :: L) rfl ?_
       refine Lst.nil ?_
       refine At.hd inv (fun w h => (h.weaken (FLe.refl _)).sublist (sc1 (sc1 (sc1 (sc1 (sc1 (sc1 (sk1 (sk1 (sk1 (sk1 (sk1 (sk1 (sk1 (.refl _))))))))))))))) ?_
       refine HdJ.done (by kernel_rfl) ?_
       refine At.front (i := 4) rfl rfl ?_
       refine At.front (i := 4) rfl (L' := (.blk b71 (enc Sl.nil) 75) :: (.own Sl.nil 4 1 (encs ([] : List Bool))) :: (.blk b74 (enc s55) 75) :: (.own Sl.nil 4 1 (encs ([] : List Bool))) :: (.own s73 4 1 (encs (List.replicate n32 false))) :: (.own s55 4 1 (encs (List.replicate n27 false))) :: (.blk b25 [pv b12 0] 97) :: (.rows (α := Bool) 4 rs14) :: (.own s13 75 1 (encs rs14)) :: (.own s18 3 1 (encs r10.left)) :: (.blk b12 (enc (GraphR.mk r10 s13 s18 s20)) 101) :: (.own Sl.nil 3 1 (encs ([] : List Int))) :: (.own Sl.nil 3 1 (encs ([] : List Int))) :: L) rfl ?_
       refine At.less (L' := (.blk b71 (enc Sl.nil) 75) :: (.own Sl.nil 4 1 (encs ([] : List Bool))) :: (.blk b74 (enc s55) 75) :: (.own s73 4 1 (encs (List.replicate n32 false))) :: (.own s55 4 1 (encs (List.replicate n27 false))) :: (.blk b25 [pv b12 0] 97) :: (.rows (α := Bool) 4 rs14) :: (.own s13 75 1 (encs rs14)) :: (.own s18 3 1 (encs r10.left)) :: (.blk b12 (enc (GraphR.mk r10 s13 s18 s20)) 101) :: (.own Sl.nil 3 1 (encs ([] : List Int))) :: (.own Sl.nil 3 1 (encs ([] : List Int))) :: L) (sk1 (sk1 (sk1 (sc1 (sk1 (sk1 (sk1 (sk1 (sk1 (sk1 (sk1 (sk1 (sk1 (.refl _)))))))))))))) ?_
       exact At.meetN (b71, Sl.nil, ([] : List Bool), b74, s73, (List.replicate n32 false), s55, (List.replicate n27 false)) (FLe.refl _) ⟨rfl, rfl, rfl, rfl, rfl, trivial⟩ rfl h53
      exact trivial
     exact trivial
    refine HdStep.c (fun inv => ?_) ?_
    ·refine Lst.addNil 4 1 ?_
     refine Lst.alloc (cs := enc Sl.nil) rfl rfl (by decide) Try.zeroValue75 rfl (fun b75 => ?_)
     refine Lst.nil ?_
     refine At.hd inv (fun w h => (h.weaken (FLe.refl _)).sublist (sc1 (sc1 (sc1 (sc1 (sc1 (sk1 (sk1 (sk1 (sk1 (sk1 (sk1 (sk1 (.refl _)))))))))))))) ?_
     refine HdJ.step [3, 6] (by kernel_rfl) rfl ?_
     refine HdStep.c (fun inv => ?_) ?_
     ·have g76 := mkLen_some h33
      refine Lst.make (α := Bool) (z0 := false) (k := n32) rfl rfl (by decide) (congrArg some (congrArg (Value.int .i64) g76.1)) (congrArg some (congrArg (Value.int .i64) g76.1)) Try.runUnderlying75 Try.typeInfo4 rfl rfl rfl rfl rfl g76.2 rfl (fun s77 => ?_)
      refine Lst.nil ?_
      refine At.hd inv (fun w h => (h.weaken (FLe.refl _)).sublist (sc1 (sc1 (sc1 (sc1 (sc1 (sc1 (sk1 (sk1 (sk1 (sk1 (sk1 (sk1 (sk1 (.refl _))))))))))))))) ?_
      refine HdJ.step [6] (by kernel_rfl) rfl ?_
      refine HdStep.c (fun inv => ?_) ?_
      ·refine Lst.store (i := 1) rfl rfl rfl rfl rfl Try.sizeOf75 (vs := [Sl.v s55]) rfl rfl rfl (cs' := enc s55) (Put.here (vs := [Sl.v s55]) rfl) (L' := (.own s77 4 1 (encs (List.replicate n32 false))) :: (.blk b75 (enc s55) 75) :: (.own Sl.nil 4 1 (encs ([] : List Bool))) :: (.blk b71 (enc Sl.nil) 75) :: (.own Sl.nil 4 1 (encs ([] : List Bool))) :: (.own s55 4 1 (encs (List.replicate n27 false))) :: (.blk b25 [pv b12 0] 97) :: (.rows (α := Bool) 4 rs14) :: (.own s13 75 1 (encs rs14)) :: (.own s18 3 1 (encs r10.left)) :: (.blk b12 (enc (GraphR.mk r10 s13 s18 s20)) 101) :: (.own Sl.nil 3 1 (encs ([] : List Int))) :: (.own Sl.nil 3 1 (encs ([] : List Int))) :: L) rfl ?_
       refine Lst.nil ?_
       refine At.hd inv (fun w h => (h.weaken (FLe.refl _)).sublist (sc1 (sc1 (sc1 (sc1 (sc1 (sc1 (sk1 (sk1 (sk1 (sk1 (sk1 (sk1 (sk1 (.refl _))))))))))))))) ?_
       refine HdJ.done (by kernel_rfl) ?_
       refine At.front (i := 1) rfl rfl ?_
       refine At.front (i := 4) rfl rfl ?_
       refine At.front (i := 4) rfl (L' := (.blk b71 (enc Sl.nil) 75) :: (.own Sl.nil 4 1 (encs ([] : List Bool))) :: (.blk b75 (enc s55) 75) :: (.own s77 4 1 (encs (List.replicate n32 false))) :: (.own Sl.nil 4 1 (encs ([] : List Bool))) :: (.own s55 4 1 (encs (List.replicate n27 false))) :: (.blk b25 [pv b12 0] 97) :: (.rows (α := Bool) 4 rs14) :: (.own s13 75 1 (encs rs14)) :: (.own s18 3 1 (encs r10.left)) :: (.blk b12 (enc (GraphR.mk r10 s13 s18 s20)) 101) :: (.own Sl.nil 3 1 (encs ([] : List Int))) :: (.own Sl.nil 3 1 (encs ([] : List Int))) :: L) rfl ?_
       refine At.less (L' := (.blk b71 (enc Sl.nil) 75) :: (.own Sl.nil 4 1 (encs ([] : List Bool))) :: (.blk b75 (enc s55) 75) :: (.own s77 4 1 (encs (List.replicate n32 false))) :: (.own s55 4 1 (encs (List.replicate n27 false))) :: (.blk b25 [pv b12 0] 97) :: (.rows (α := Bool) 4 rs14) :: (.own s13 75 1 (encs rs14)) :: (.own s18 3 1 (encs r10.left)) :: (.blk b12 (enc (GraphR.mk r10 s13 s18 s20)) 101) :: (.own Sl.nil 3 1 (encs ([] : List Int))) :: (.own Sl.nil 3 1 (encs ([] : List Int))) :: L) (sk1 (sk1 (sk1 (sk1 (sc1 (sk1 (sk1 (sk1 (sk1 (sk1 (sk1 (sk1 (sk1 (.refl _)))))))))))))) ?_
       exact At.meetN (b71, Sl.nil, ([] : List Bool), b75, s77, (List.replicate n32 false), s55, (List.replicate n27 false)) (FLe.refl _) ⟨rfl, rfl, rfl, rfl, rfl, trivial⟩ rfl h53
      exact trivial
     refine HdStep.c (fun inv => ?_) ?_
     ·refine Lst.store (i := 0) rfl rfl rfl rfl rfl Try.sizeOf75 (vs := [Sl.v s55]) rfl rfl rfl (cs' := enc s55) (Put.here (vs := [Sl.v s55]) rfl) (L' := (.blk b75 (enc s55) 75) :: (.own Sl.nil 4 1 (encs ([] : List Bool))) :: (.blk b71 (enc Sl.nil) 75) :: (.own Sl.nil 4 1 (encs ([] : List Bool))) :: (.own s55 4 1 (encs (List.replicate n27 false))) :: (.blk b25 [pv b12 0] 97) :: (.rows (α := Bool) 4 rs14) :: (.own s13 75 1 (encs rs14)) :: (.own s18 3 1 (encs r10.left)) :: (.blk b12 (enc (GraphR.mk r10 s13 s18 s20)) 101) :: (.own Sl.nil 3 1 (encs ([] : List Int))) :: (.own Sl.nil 3 1 (encs ([] : List Int))) :: L) rfl ?_
      refine Lst.nil ?_
      refine At.hd inv (fun w h => (h.weaken (FLe.refl _)).sublist (sc1 (sc1 (sc1 (sc1 (sc1 (sk1 (sk1 (sk1 (sk1 (sk1 (sk1 (sk1 (.refl _)))))))))))))) ?_
      refine HdJ.step [3] (by kernel_rfl) rfl ?_
      refine HdStep.c (fun inv => ?_) ?_
      ·have g78 := mkLen_some h33
       refine Lst.make (α := Bool) (z0 := false) (k := n32) rfl rfl (by decide) (congrArg some (congrArg (Value.int .i64) g78.1)) (congrArg some (congrArg (Value.int .i64) g78.1)) Try.runUnderlying75 Try.typeInfo4 rfl rfl rfl rfl rfl g78.2 rfl (fun s79 => ?_)
       refine Lst.nil ?_
       refine At.hd inv (fun w h => (h.weaken (FLe.refl _)).sublist (sc1 (sc1 (sc1 (sc1 (sc1 (sc1 (sk1 (sk1 (sk1 (sk1 (sk1 (sk1 (sk1 (.refl _))))))))))))))) ?_
       refine HdJ.done (by kernel_rfl) ?_
       refine At.front (i := 1) rfl rfl ?_
       refine At.front (i := 4) rfl rfl ?_
       refine At.front (i := 4) rfl (L' := (.blk b71 (enc Sl.nil) 75) :: (.own Sl.nil 4 1 (encs ([] : List Bool))) :: (.blk b75 (enc s55) 75) :: (.own s79 4 1 (encs (List.replicate n32 false))) :: (.own Sl.nil 4 1 (encs ([] : List Bool))) :: (.own s55 4 1 (encs (List.replicate n27 false))) :: (.blk b25 [pv b12 0] 97) :: (.rows (α := Bool) 4 rs14) :: (.own s13 75 1 (encs rs14)) :: (.own s18 3 1 (encs r10.left)) :: (.blk b12 (enc (GraphR.mk r10 s13 s18 s20)) 101) :: (.own Sl.nil 3 1 (encs ([] : List Int))) :: (.own Sl.nil 3 1 (encs ([] : List Int))) :: L) rfl ?_
       refine At.less (L' := (.blk b71 (enc Sl.nil) 75) :: (.own Sl.nil 4 1 (encs ([] : List Bool))) :: (.blk b75 (enc s55) 75) :: (.own s79 4 1 (encs (List.replicate n32 false))) :: (.own s55 4 1 (encs (List.replicate n27 false))) :: (.blk b25 [pv b12 0] 97) :: (.rows (α := Bool) 4 rs14) :: (.own s13 75 1 (encs rs14)) :: (.own s18 3 1 (encs r10.left)) :: (.blk b12 (enc (GraphR.mk r10 s13 s18 s20)) 101) :: (.own Sl.nil 3 1 (encs ([] : List Int))) :: (.own Sl.nil 3 1 (encs ([] : List Int))) :: L) (sk1 (sk1 (sk1 (sk1 (sc1 (sk1 (sk1 (sk1 (sk1 (sk1 (sk1 (sk1 (sk1 (.refl _)))))))))))))) ?_
       exact At.meetN (b71, Sl.nil, ([] : List Bool), b75, s79, (List.replicate n32 false), s55, (List.replicate n27 false)) (FLe.refl _) ⟨rfl, rfl, rfl, rfl, rfl, trivial⟩ rfl h53
      exact trivial
     exact trivial
    exact trivial
   exact trivial
  refine HdStep.c (fun inv => ?_) ?_
  ·have g80 := mkLen_some h33
   refine Lst.make (α := Bool) (z0 := false) (k := n32) rfl rfl (by decide) (congrArg some (congrArg (Value.int .i64) g80.1)) (congrArg some (congrArg (Value.int .i64) g80.1)) Try.runUnderlying75 Try.typeInfo4 rfl rfl rfl rfl rfl g80.2 rfl (fun s81 => ?_)
   refine Lst.nil ?_
   refine At.hd inv (fun w h => (h.weaken (FLe.refl _)).sublist (sc1 (sk1 (sk1 (sk1 (sk1 (sk1 (sk1 (sk1 (.refl _)))))))))) ?_
   refine HdJ.step [1, 4, 5] (by kernel_rfl) rfl ?_
   refine HdStep.c (fun inv => ?_) ?_
   ·have g82 := mkLen_some h28
    refine Lst.make (α := Bool) (z0 := false) (k := n27) rfl rfl (by decide) (congrArg some (congrArg (Value.int .i64) g82.1)) (congrArg some (congrArg (Value.int .i64) g82.1)) Try.runUnderlying75 Try.typeInfo4 rfl rfl rfl rfl rfl g82.2 rfl (fun s83 => ?_)
    refine Lst.nil ?_
    refine At.hd inv (fun w h => (h.weaken (FLe.refl _)).sublist (sc1 (sc1 (sk1 (sk1 (sk1 (sk1 (sk1 (sk1 (sk1 (.refl _))))))))))) ?_
    refine HdJ.step [4, 5] (by kernel_rfl) rfl ?_
    refine HdStep.c (fun inv => ?_) ?_
    ·refine Lst.addNil 4 1 ?_
     refine Lst.alloc (cs := enc Sl.nil) rfl rfl (by decide) Try.zeroValue75 rfl (fun b84 => ?_)
     refine Lst.nil ?_
     refine At.hd inv (fun w h => (h.weaken (FLe.refl _)).sublist (sc1 (sc1 (sc1 (sc1 (sk1 (sk1 (sk1 (sk1 (sk1 (sk1 (sk1 (.refl _))))))))))))) ?_
     refine HdJ.step [5] (by kernel_rfl) rfl ?_
     refine HdStep.c (fun inv => ?_) ?_
     ·refine Lst.addNil 4 1 ?_
      refine Lst.alloc (cs := enc Sl.nil) rfl rfl (by decide) Try.zeroValue75 rfl (fun b85 => ?_)
      refine Lst.nil ?_
      refine At.hd inv (fun w h => (h.weaken (FLe.refl _)).sublist (sc1 (sc1 (sc1 (sc1 (sc1 (sc1 (sk1 (sk1 (sk1 (sk1 (sk1 (sk1 (sk1 (.refl _))))))))))))))) ?_
      refine HdJ.step [6] (by kernel_rfl) rfl ?_
      refine HdStep.c (fun inv => ?_) ?_
      ·refine Lst.store (i := 2) rfl rfl rfl rfl rfl Try.sizeOf75 (vs := [Sl.v s83]) rfl rfl rfl (cs' := enc s83) (Put.here (vs := [Sl.v s83]) rfl) (L' := (.blk b85 (enc Sl.nil) 75) :: (.own Sl.nil 4 1 (encs ([] : List Bool))) :: (.blk b84 (enc s83) 75) :: (.own Sl.nil 4 1 (encs ([] : List Bool))) :: (.own s83 4 1 (encs (List.replicate n27 false))) :: (.own s81 4 1 (encs (List.replicate n32 false))) :: (.blk b25 [pv b12 0] 97) :: (.rows (α := Bool) 4 rs14) :: (.own s13 75 1 (encs rs14)) :: (.own s18 3 1 (encs r10.left)) :: (.blk b12 (enc (GraphR.mk r10 s13 s18 s20)) 101) :: (.own Sl.nil 3 1 (encs ([] : List Int))) :: (.own Sl.nil 3 1 (encs ([] : List Int))) :: L) rfl ?_
       refine Lst.nil ?_
       refine At.hd inv (fun w h => (h.weaken (FLe.refl _)).sublist (sc1 (sc1 (sc1 (sc1 (sc1 (sc1 (sk1 (sk1 (sk1 (sk1 (sk1 (sk1 (sk1 (.refl _))))))))))))))) ?_
       refine HdJ.done (by kernel_rfl) ?_
       refine At.front (i := 5) rfl rfl ?_
       refine At.front (i := 3) rfl rfl ?_
       refine At.front (i := 3) rfl (L' := (.own Sl.nil 4 1 (encs ([] : List Bool))) :: (.blk b84 (enc s83) 75) :: (.own s81 4 1 (encs (List.replicate n32 false))) :: (.blk b85 (enc Sl.nil) 75) :: (.own Sl.nil 4 1 (encs ([] : List Bool))) :: (.own s83 4 1 (encs (List.replicate n27 false))) :: (.blk b25 [pv b12 0] 97) :: (.rows (α := Bool) 4 rs14) :: (.own s13 75 1 (encs rs14)) :: (.own s18 3 1 (encs r10.left)) :: (.blk b12 (enc (GraphR.mk r10 s13 s18 s20)) 101) :: (.own Sl.nil 3 1 (encs ([] : List Int))) :: (.own Sl.nil 3 1 (encs ([] : List Int))) :: L) rfl ?_
       refine At.front (i := 3) rfl (L' := (.blk b85 (enc Sl.nil) 75) :: (.own Sl.nil 4 1 (encs ([] : List Bool))) :: (.blk b84 (enc s83) 75) :: (.own s81 4 1 (encs (List.replicate n32 false))) :: (.own Sl.nil 4 1 (encs ([] : List Bool))) :: (.own s83 4 1 (encs (List.replicate n27 false))) :: (.blk b25 [pv b12 0] 97) :: (.rows (α := Bool) 4 rs14) :: (.own s13 75 1 (encs rs14)) :: (.own s18 3 1 (encs r10.left)) :: (.blk b12 (enc (GraphR.mk r10 s13 s18 s20)) 101) :: (.own Sl.nil 3 1 (encs ([] : List Int))) :: (.own Sl.nil 3 1 (encs ([] : List Int))) :: L) rfl ?_
       refine At.less (L' := (.blk b85 (enc Sl.nil) 75) :: (.own Sl.nil 4 1 (encs ([] : List Bool))) :: (.blk b84 (enc s83) 75) :: (.own s81 4 1 (encs (List.replicate n32 false))) :: (.own s83 4 1 (encs (List.replicate n27 false))) :: (.blk b25 [pv b12 0] 97) :: (.rows (α := Bool) 4 rs14) :: (.own s13 75 1 (encs rs14)) :: (.own s18 3 1 (encs r10.left)) :: (.blk b12 (enc (GraphR.mk r10 s13 s18 s20)) 101) :: (.own Sl.nil 3 1 (encs ([] : List Int))) :: (.own Sl.nil 3 1 (encs ([] : List Int))) :: L) (sk1 (sk1 (sk1 (sk1 (sc1 (sk1 (sk1 (sk1 (sk1 (sk1 (sk1 (sk1 (sk1 (.refl _)))))))))))))) ?_
       exact At.meetN (b85, Sl.nil, ([] : List Bool), b84, s81, (List.replicate n32 false), s83, (List.replicate n27 false)) (FLe.refl _) ⟨rfl, rfl, rfl, rfl, rfl, trivial⟩ rfl h53
      exact trivial
     exact trivial
    refine HdStep.c (fun inv => ?_) ?_
    ·refine Lst.addNil 4 1 ?_
     refine Lst.alloc (cs := enc Sl.nil) rfl rfl (by decide) Try.zeroValue75 rfl (fun b86 => ?_)
     refine Lst.nil ?_
     refine At.hd inv (fun w h => (h.weaken (FLe.refl _)).sublist (sc1 (sc1 (sc1 (sc1 (sk1 (sk1 (sk1 (sk1 (sk1 (sk1 (sk1 (.refl _))))))))))))) ?_
     refine HdJ.step [4] (by kernel_rfl) rfl ?_
     refine HdStep.c (fun inv => ?_) ?_
     ·refine Lst.addNil 4 1 ?_
      refine Lst.alloc (cs := enc Sl.nil) rfl rfl (by decide) Try.zeroValue75 rfl (fun b87 => ?_)
      refine Lst.nil ?_
      refine At.hd inv (fun w h => (h.weaken (FLe.refl _)).sublist (sc1 (sc1 (sc1 (sc1 (sc1 (sc1 (sk1 (sk1 (sk1 (sk1 (sk1 (sk1 (sk1 (.refl _))))))))))))))) ?_
      refine HdJ.step [6] (by kernel_rfl) rfl ?_
      refine HdStep.c (fun inv => ?_) ?_
      ·refine Lst.store (i := 0) rfl rfl rfl rfl rfl Try.sizeOf75 (vs := [Sl.v s83]) rfl rfl rfl (cs' := enc s83) (Put.here (vs := [Sl.v s83]) rfl) (L' := (.blk b87 (enc s83) 75) :: (.own Sl.nil 4 1 (encs ([] : List Bool))) :: (.blk b86 (enc Sl.nil) 75) :: (.own Sl.nil 4 1 (encs ([] : List Bool))) :: (.own s83 4 1 (encs (List.replicate n27 false))) :: (.own s81 4 1 (encs (List.replicate n32 false))) :: (.blk b25 [pv b12 0] 97) :: (.rows (α := Bool) 4 rs14) :: (.own s13 75 1 (encs rs14)) :: (.own s18 3 1 (encs r10.left)) :: (.blk b12 (enc (GraphR.mk r10 s13 s18 s20)) 101) :: (.own Sl.nil 3 1 (encs ([] : List Int))) :: (.own Sl.nil 3 1 (encs ([] : List Int))) :: L) rfl ?_
       refine Lst.nil ?_
       refine At.hd inv (fun w h => (h.weaken (FLe.refl _)).sublist (sc1 (sc1 (sc1 (sc1 (sc1 (sc1 (sk1 (sk1 (sk1 (sk1 (sk1 (sk1 (sk1 (.refl _))))))))))))))) ?_
       refine HdJ.done (by kernel_rfl) ?_
       refine At.front (i := 5) rfl rfl ?_
       refine At.front (i := 1) rfl rfl ?_
       refine At.front (i := 4) rfl (L' := (.own Sl.nil 4 1 (encs ([] : List Bool))) :: (.blk b87 (enc s83) 75) :: (.own s81 4 1 (encs (List.replicate n32 false))) :: (.own Sl.nil 4 1 (encs ([] : List Bool))) :: (.blk b86 (enc Sl.nil) 75) :: (.own s83 4 1 (encs (List.replicate n27 false))) :: (.blk b25 [pv b12 0] 97) :: (.rows (α := Bool) 4 rs14) :: (.own s13 75 1 (encs rs14)) :: (.own s18 3 1 (encs r10.left)) :: (.blk b12 (enc (GraphR.mk r10 s13 s18 s20)) 101) :: (.own Sl.nil 3 1 (encs ([] : List Int))) :: (.own Sl.nil 3 1 (encs ([] : List Int))) :: L) rfl ?_
       refine At.front (i := 4) rfl (L' := (.blk b86 (enc Sl.nil) 75) :: (.own Sl.nil 4 1 (encs ([] : List Bool))) :: (.blk b87 (enc s83) 75) :: (.own s81 4 1 (encs (List.replicate n32 false))) :: (.own Sl.nil 4 1 (encs ([] : List Bool))) :: (.own s83 4 1 (encs (List.replicate n27 false))) :: (.blk b25 [pv b12 0] 97) :: (.rows (α := Bool) 4 rs14) :: (.own s13 75 1 (encs rs14)) :: (.own s18 3 1 (encs r10.left)) :: (.blk b12 (enc (GraphR.mk r10 s13 s18 s20)) 101) :: (.own Sl.nil 3 1 (encs ([] : List Int))) :: (.own Sl.nil 3 1 (encs ([] : List Int))) :: L) rfl ?_
       refine At.less (L' := (.blk b86 (enc Sl.nil) 75) :: (.own Sl.nil 4 1 (encs ([] : List Bool))) :: (.blk b87 (enc s83) 75) :: (.own s81 4 1 (encs (List.replicate n32 false))) :: (.own s83 4 1 (encs (List.replicate n27 false))) :: (.blk b25 [pv b12 0] 97) :: (.rows (α := Bool) 4 rs14) :: (.own s13 75 1 (encs rs14)) :: (.own s18 3 1 (encs r10.left)) :: (.blk b12 (enc (GraphR.mk r10 s13 s18 s20)) 101) :: (.own Sl.nil 3 1 (encs ([] : List Int))) :: (.own Sl.nil 3 1 (encs ([] : List Int))) :: L) (sk1 (sk1 (sk1 (sk1 (sc1 (sk1 (sk1 (sk1 (sk1 (sk1 (sk1 (sk1 (sk1 (.refl _)))))))))))))) ?_
       exact At.meetN (b86, Sl.nil, ([] : List Bool), b87, s81, (List.replicate n32 false), s83, (List.replicate n27 false)) (FLe.refl _) ⟨rfl, rfl, rfl, rfl, rfl, trivial⟩ rfl h53
      exact trivial
     exact trivial
    exact trivial
   refine HdStep.c (fun inv => ?_) ?_
   ·refine Lst.addNil 4 1 ?_
    refine Lst.alloc (cs := enc Sl.nil) rfl rfl (by decide) Try.zeroValue75 rfl (fun b88 => ?_)
    refine Lst.nil ?_
    refine At.hd inv (fun w h => (h.weaken (FLe.refl _)).sublist (sc1 (sc1 (sc1 (sk1 (sk1 (sk1 (sk1 (sk1 (sk1 (sk1 (.refl _)))))))))))) ?_
    refine HdJ.step [1, 5] (by kernel_rfl) rfl ?_
    refine HdStep.c (fun inv => ?_) ?_
    ·have g89 := mkLen_some h28
     refine Lst.make (α := Bool) (z0 := false) (k := n27) rfl rfl (by decide) (congrArg some (congrArg (Value.int .i64) g89.1)) (congrArg some (congrArg (Value.int .i64) g89.1)) Try.runUnderlying75 Try.typeInfo4 rfl rfl rfl rfl rfl g89.2 rfl (fun s90 => ?_)
     refine Lst.nil ?_
     refine At.hd inv (fun w h => (h.weaken (FLe.refl _)).sublist (sc1 (sc1 (sc1 (sc1 (sk1 (sk1 (sk1 (sk1 (sk1 (sk1 (sk1 (.refl _))))))))))))) ?_
     refine HdJ.step [5] (by kernel_rfl) rfl ?_
     refine HdStep.c (fun inv => ?_) ?_
     ·refine Lst.addNil 4 1 ?_
      refine Lst.alloc (cs := enc Sl.nil) rfl rfl (by decide) Try.zeroValue75 rfl (fun b91 => ?_)
      refine Lst.nil ?_
      refine At.hd inv (fun w h => (h.weaken (FLe.refl _)).sublist (sc1 (sc1 (sc1 (sc1 (sc1 (sc1 (sk1 (sk1 (sk1 (sk1 (sk1 (sk1 (sk1 (.refl _))))))))))))))) ?_
      refine HdJ.step [6] (by kernel_rfl) rfl ?_
      refine HdStep.c (fun inv => ?_) ?_
      ·refine Lst.store (i := 3) rfl rfl rfl rfl rfl Try.sizeOf75 (vs := [Sl.v s90]) rfl rfl rfl (cs' := enc s90) (Put.here (vs := [Sl.v s90]) rfl) (L' := (.blk b91 (enc Sl.nil) 75) :: (.own Sl.nil 4 1 (encs ([] : List Bool))) :: (.own s90 4 1 (encs (List.replicate n27 false))) :: (.blk b88 (enc s90) 75) :: (.own Sl.nil 4 1 (encs ([] : List Bool))) :: (.own s81 4 1 (encs (List.replicate n32 false))) :: (.blk b25 [pv b12 0] 97) :: (.rows (α := Bool) 4 rs14) :: (.own s13 75 1 (encs rs14)) :: (.own s18 3 1 (encs r10.left)) :: (.blk b12 (enc (GraphR.mk r10 s13 s18 s20)) 101) :: (.own Sl.nil 3 1 (encs ([] : List Int))) :: (.own Sl.nil 3 1 (encs ([] : List Int))) :: L) rfl ?_
       refine Lst.nil ?_
       refine At.hd inv (fun w h => (h.weaken (FLe.refl _)).sublist (sc1 (sc1 (sc1 (sc1 (sc1 (sc1 (sk1 (sk1 (sk1 (sk1 (sk1 (sk1 (sk1 (.refl _))))))))))))))) ?_
       refine HdJ.done (by kernel_rfl) ?_
       refine At.front (i := 5) rfl rfl ?_
       refine At.front (i := 4) rfl rfl ?_
       refine At.front (i := 3) rfl (L' := (.own Sl.nil 4 1 (encs ([] : List Bool))) :: (.blk b88 (enc s90) 75) :: (.own s81 4 1 (encs (List.replicate n32 false))) :: (.blk b91 (enc Sl.nil) 75) :: (.own s90 4 1 (encs (List.replicate n27 false))) :: (.own Sl.nil 4 1 (encs ([] : List Bool))) :: (.blk b25 [pv b12 0] 97) :: (.rows (α := Bool) 4 rs14) :: (.own s13 75 1 (encs rs14)) :: (.own s18 3 1 (encs r10.left)) :: (.blk b12 (enc (GraphR.mk r10 s13 s18 s20)) 101) :: (.own Sl.nil 3 1 (encs ([] : List Int))) :: (.own Sl.nil 3 1 (encs ([] : List Int))) :: L) rfl ?_
       refine At.front (i := 3) rfl (L' := (.blk b91 (enc Sl.nil) 75) :: (.own Sl.nil 4 1 (encs ([] : List Bool))) :: (.blk b88 (enc s90) 75) :: (.own s81 4 1 (encs (List.replicate n32 false))) :: (.own s90 4 1 (encs (List.replicate n27 false))) :: (.own Sl.nil 4 1 (encs ([] : List Bool))) :: (.blk b25 [pv b12 0] 97) :: (.rows (α := Bool) 4 rs14) :: (.own s13 75 1 (encs rs14)) :: (.own s18 3 1 (encs r10.left)) :: (.blk b12 (enc (GraphR.mk r10 s13 s18 s20)) 101) :: (.own Sl.nil 3 1 (encs ([] : List Int))) :: (.own Sl.nil 3 1 (encs ([] : List Int))) :: L) rfl ?_
       refine At.less (L' := (.blk b91 (enc Sl.nil) 75) :: (.own Sl.nil 4 1 (encs ([] : List Bool))) :: (.blk b88 (enc s90) 75) :: (.own s81 4 1 (encs (List.replicate n32 false))) :: (.own s90 4 1 (encs (List.replicate n27 false))) :: (.blk b25 [pv b12 0] 97) :: (.rows (α := Bool) 4 rs14) :: (.own s13 75 1 (encs rs14)) :: (.own s18 3 1 (encs r10.left)) :: (.blk b12 (enc (GraphR.mk r10 s13 s18 s20)) 101) :: (.own Sl.nil 3 1 (encs ([] : List Int))) :: (.own Sl.nil 3 1 (encs ([] : List Int))) :: L) (sk1 (sk1 (sk1 (sk1 (sk1 (sc1 (sk1 (sk1 (sk1 (sk1 (sk1 (sk1 (sk1 (.refl _)))))))))))))) ?_
       exact At.meetN (b91, Sl.nil, ([] : List Bool), b88, s81, (List.replicate n32 false), s90, (List.replicate n27 false)) (FLe.refl _) ⟨rfl, rfl, rfl, rfl, rfl, trivial⟩ rfl h53
      exact trivial
     exact trivial
    refine HdStep.c (fun inv => ?_) ?_
    ·refine Lst.addNil 4 1 ?_
     refine Lst.alloc (cs := enc Sl.nil) rfl rfl (by decide) Try.zeroValue75 rfl (fun b92 => ?_)
     refine Lst.nil ?_
     refine At.hd inv (fun w h => (h.weaken (FLe.refl _)).sublist (sc1 (sc1 (sc1 (sc1 (sc1 (sk1 (sk1 (sk1 (sk1 (sk1 (sk1 (sk1 (.refl _)))))))))))))) ?_
     refine HdJ.step [1] (by kernel_rfl) rfl ?_
     refine HdStep.c (fun inv => ?_) ?_
     ·have g93 := mkLen_some h28
      refine Lst.make (α := Bool) (z0 := false) (k := n27) rfl rfl (by decide) (congrArg some (congrArg (Value.int .i64) g93.1)) (congrArg some (congrArg (Value.int .i64) g93.1)) Try.runUnderlying75 Try.typeInfo4 rfl rfl rfl rfl rfl g93.2 rfl (fun s94 => ?_)
      refine Lst.nil ?_
      refine At.hd inv (fun w h => (h.weaken (FLe.refl _)).sublist (sc1 (sc1 (sc1 (sc1 (sc1 (sc1 (sk1 (sk1 (sk1 (sk1 (sk1 (sk1 (sk1 (.refl _))))))))))))))) ?_
      refine HdJ.step [6] (by kernel_rfl) rfl ?_
      refine HdStep.c (fun inv => ?_) ?_
      ·refine Lst.store (i := 3) rfl rfl rfl rfl rfl Try.sizeOf75 (vs := [Sl.v s94]) rfl rfl rfl (cs' := enc s94) (Put.here (vs := [Sl.v s94]) rfl) (L' := (.own s94 4 1 (encs (List.replicate n27 false))) :: (.blk b92 (enc Sl.nil) 75) :: (.own Sl.nil 4 1 (encs ([] : List Bool))) :: (.blk b88 (enc s94) 75) :: (.own Sl.nil 4 1 (encs ([] : List Bool))) :: (.own s81 4 1 (encs (List.replicate n32 false))) :: (.blk b25 [pv b12 0] 97) :: (.rows (α := Bool) 4 rs14) :: (.own s13 75 1 (encs rs14)) :: (.own s18 3 1 (encs r10.left)) :: (.blk b12 (enc (GraphR.mk r10 s13 s18 s20)) 101) :: (.own Sl.nil 3 1 (encs ([] : List Int))) :: (.own Sl.nil 3 1 (encs ([] : List Int))) :: L) rfl ?_
       refine Lst.nil ?_
       refine At.hd inv (fun w h => (h.weaken (FLe.refl _)).sublist (sc1 (sc1 (sc1 (sc1 (sc1 (sc1 (sk1 (sk1 (sk1 (sk1 (sk1 (sk1 (sk1 (.refl _))))))))))))))) ?_
       refine HdJ.done (by kernel_rfl) ?_
       refine At.front (i := 5) rfl rfl ?_
       refine At.front (i := 4) rfl rfl ?_
       refine At.front (i := 4) rfl (L' := (.own Sl.nil 4 1 (encs ([] : List Bool))) :: (.blk b88 (enc s94) 75) :: (.own s81 4 1 (encs (List.replicate n32 false))) :: (.own s94 4 1 (encs (List.replicate n27 false))) :: (.blk b92 (enc Sl.nil) 75) :: (.own Sl.nil 4 1 (encs ([] : List Bool))) :: (.blk b25 [pv b12 0] 97) :: (.rows (α := Bool) 4 rs14) :: (.own s13 75 1 (encs rs14)) :: (.own s18 3 1 (encs r10.left)) :: (.blk b12 (enc (GraphR.mk r10 s13 s18 s20)) 101) :: (.own Sl.nil 3 1 (encs ([] : List Int))) :: (.own Sl.nil 3 1 (encs ([] : List Int))) :: L) rfl ?_
       refine At.front (i := 4) rfl (L' := (.blk b92 (enc Sl.nil) 75) :: (.own Sl.nil 4 1 (encs ([] : List Bool))) :: (.blk b88 (enc s94) 75) :: (.own s81 4 1 (encs (List.replicate n32 false))) :: (.own s94 4 1 (encs (List.replicate n27 false))) :: (.own Sl.nil 4 1 (encs ([] : List Bool))) :: (.blk b25 [pv b12 0] 97) :: (.rows (α := Bool) 4 rs14) :: (.own s13 75 1 (encs rs14)) :: (.own s18 3 1 (encs r10.left)) :: (.blk b12 (enc (GraphR.mk r10 s13 s18 s20)) 101) :: (.own Sl.nil 3 1 (encs ([] : List Int))) :: (.own Sl.nil 3 1 (encs ([] : List Int))) :: L) rfl ?_
       refine At.less (L' := (.blk b92 (enc Sl.nil) 75) :: (.own Sl.nil 4 1 (encs ([] : List Bool))) :: (.blk b88 (enc s94) 75) :: (.own s81 4 1 (encs (List.replicate n32 false))) :: (.own s94 4 1 (encs (List.replicate n27 false))) :: (.blk b25 [pv b12 0] 97) :: (.rows (α := Bool) 4 rs14) :: (.own s13 75 1 (encs rs14)) :: (.own s18 3 1 (encs r10.left)) :: (.blk b12 (enc (GraphR.mk r10 s13 s18 s20)) 101) :: (.own Sl.nil 3 1 (encs ([] : List Int))) :: (.own Sl.nil 3 1 (encs ([] : List Int))) :: L) (sk1 (sk1 (sk1 (sk1 (sk1 (sc1 (sk1 (sk1 (sk1 (sk1 (sk1 (sk1 (sk1 (.refl _)))))))))))))) ?_
       exact At.meetN (b92, Sl.nil, ([] : List Bool), b88, s81, (List.replicate n32 false), s94, (List.replicate n27 false)) (FLe.refl _) ⟨rfl, rfl, rfl, rfl, rfl, trivial⟩ rfl h53
      exact trivial
     exact trivial
    exact trivial
   refine HdStep.c (fun inv => ?_) ?_
   ·refine Lst.addNil 4 1 ?_
    refine Lst.alloc (cs := enc Sl.nil) rfl rfl (by decide) Try.zeroValue75 rfl (fun b95 => ?_)
    refine Lst.nil ?_
    refine At.hd inv (fun w h => (h.weaken (FLe.refl _)).sublist (sc1 (sc1 (sc1 (sk1 (sk1 (sk1 (sk1 (sk1 (sk1 (sk1 (.refl _)))))))))))) ?_
    refine HdJ.step [1, 4] (by kernel_rfl) rfl ?_
    refine HdStep.c (fun inv => ?_) ?_
    ·have g96 := mkLen_some h28
     refine Lst.make (α := Bool) (z0 := false) (k := n27) rfl rfl (by decide) (congrArg some (congrArg (Value.int .i64) g96.1)) (congrArg some (congrArg (Value.int .i64) g96.1)) Try.runUnderlying75 Try.typeInfo4 rfl rfl rfl rfl rfl g96.2 rfl (fun s97 => ?_)
     refine Lst.nil ?_
     refine At.hd inv (fun w h => (h.weaken (FLe.refl _)).sublist (sc1 (sc1 (sc1 (sc1 (sk1 (sk1 (sk1 (sk1 (sk1 (sk1 (sk1 (.refl _))))))))))))) ?_
     refine HdJ.step [4] (by kernel_rfl) rfl ?_
     refine HdStep.c (fun inv => ?_) ?_
     ·refine Lst.addNil 4 1 ?_
      refine Lst.alloc (cs := enc Sl.nil) rfl rfl (by decide) Try.zeroValue75 rfl (fun b98 => ?_)
      refine Lst.nil ?_
      refine At.hd inv (fun w h => (h.weaken (FLe.refl _)).sublist (sc1 (sc1 (sc1 (sc1 (sc1 (sc1 (sk1 (sk1 (sk1 (sk1 (sk1 (sk1 (sk1 (.refl _))))))))))))))) ?_
      refine HdJ.step [6] (by kernel_rfl) rfl ?_
      refine HdStep.c (fun inv => ?_) ?_
      ·refine Lst.store (i := 0) rfl rfl rfl rfl rfl Try.sizeOf75 (vs := [Sl.v s97]) rfl rfl rfl (cs' := enc s97) (Put.here (vs := [Sl.v s97]) rfl) (L' := (.blk b98 (enc s97) 75) :: (.own Sl.nil 4 1 (encs ([] : List Bool))) :: (.own s97 4 1 (encs (List.replicate n27 false))) :: (.blk b95 (enc Sl.nil) 75) :: (.own Sl.nil 4 1 (encs ([] : List Bool))) :: (.own s81 4 1 (encs (List.replicate n32 false))) :: (.blk b25 [pv b12 0] 97) :: (.rows (α := Bool) 4 rs14) :: (.own s13 75 1 (encs rs14)) :: (.own s18 3 1 (encs r10.left)) :: (.blk b12 (enc (GraphR.mk r10 s13 s18 s20)) 101) :: (.own Sl.nil 3 1 (encs ([] : List Int))) :: (.own Sl.nil 3 1 (encs ([] : List Int))) :: L) rfl ?_
       refine Lst.nil ?_
       refine At.hd inv (fun w h => (h.weaken (FLe.refl _)).sublist (sc1 (sc1 (sc1 (sc1 (sc1 (sc1 (sk1 (sk1 (sk1 (sk1 (sk1 (sk1 (sk1 (.refl _))))))))))))))) ?_
       refine HdJ.done (by kernel_rfl) ?_
       refine At.front (i := 5) rfl rfl ?_
       refine At.front (i := 1) rfl rfl ?_
       refine At.front (i := 5) rfl (L' := (.own Sl.nil 4 1 (encs ([] : List Bool))) :: (.blk b98 (enc s97) 75) :: (.own s81 4 1 (encs (List.replicate n32 false))) :: (.own Sl.nil 4 1 (encs ([] : List Bool))) :: (.own s97 4 1 (encs (List.replicate n27 false))) :: (.blk b95 (enc Sl.nil) 75) :: (.blk b25 [pv b12 0] 97) :: (.rows (α := Bool) 4 rs14) :: (.own s13 75 1 (encs rs14)) :: (.own s18 3 1 (encs r10.left)) :: (.blk b12 (enc (GraphR.mk r10 s13 s18 s20)) 101) :: (.own Sl.nil 3 1 (encs ([] : List Int))) :: (.own Sl.nil 3 1 (encs ([] : List Int))) :: L) rfl ?_
       refine At.front (i := 5) rfl (L' := (.blk b95 (enc Sl.nil) 75) :: (.own Sl.nil 4 1 (encs ([] : List Bool))) :: (.blk b98 (enc s97) 75) :: (.own s81 4 1 (encs (List.replicate n32 false))) :: (.own Sl.nil 4 1 (encs ([] : List Bool))) :: (.own s97 4 1 (encs (List.replicate n27 false))) :: (.blk b25 [pv b12 0] 97) :: (.rows (α := Bool) 4 rs14) :: (.own s13 75 1 (encs rs14)) :: (.own s18 3 1 (encs r10.left)) :: (.blk b12 (enc (GraphR.mk r10 s13 s18 s20)) 101) :: (.own Sl.nil 3 1 (encs ([] : List Int))) :: (.own Sl.nil 3 1 (encs ([] : List Int))) :: L) rfl ?_
       refine At.less (L' := (.blk b95 (enc Sl.nil) 75) :: (.own Sl.nil 4 1 (encs ([] : List Bool))) :: (.blk b98 (enc s97) 75) :: (.own s81 4 1 (encs (List.replicate n32 false))) :: (.own s97 4 1 (encs (List.replicate n27 false))) :: (.blk b25 [pv b12 0] 97) :: (.rows (α := Bool) 4 rs14) :: (.own s13 75 1 (encs rs14)) :: (.own s18 3 1 (encs r10.left)) :: (.blk b12 (enc (GraphR.mk r10 s13 s18 s20)) 101) :: (.own Sl.nil 3 1 (encs ([] : List Int))) :: (.own Sl.nil 3 1 (encs ([] : List Int))) :: L) (sk1 (sk1 (sk1 (sk1 (sc1 (sk1 (sk1 (sk1 (sk1 (sk1 (sk1 (sk1 (sk1 (.refl _)))))))))))))) ?_
       exact At.meetN (b95, Sl.nil, ([] : List Bool), b98, s81, (List.replicate n32 false), s97, (List.replicate n27 false)) (FLe.refl _) ⟨rfl, rfl, rfl, rfl, rfl, trivial⟩ rfl h53
      exact trivial
     exact trivial
    refine HdStep.c (fun inv => ?_) ?_
    ·refine Lst.addNil 4 1 ?_
     refine Lst.alloc (cs := enc Sl.nil) rfl rfl (by decide) Try.zeroValue75 rfl (fun b99 => ?_)
     refine Lst.nil ?_
     refine At.hd inv (fun w h => (h.weaken (FLe.refl _)).sublist (sc1 (sc1 (sc1 (sc1 (sc1 (sk1 (sk1 (sk1 (sk1 (sk1 (sk1 (sk1 (.refl _)))))))))))))) ?_
     refine HdJ.step [1] (by kernel_rfl) rfl ?_
     refine HdStep.c (fun inv => ?_) ?_
     ·have g100 := mkLen_some h28
      refine Lst.make (α := Bool) (z0 := false) (k := n27) rfl rfl (by decide) (congrArg some (congrArg (Value.int .i64) g100.1)) (congrArg some (congrArg (Value.int .i64) g100.1)) Try.runUnderlying75 Try.typeInfo4 rfl rfl rfl rfl rfl g100.2 rfl (fun s101 => ?_)
      refine Lst.nil ?_
      refine At.hd inv (fun w h => (h.weaken (FLe.refl _)).sublist (sc1 (sc1 (sc1 (sc1 (sc1 (sc1 (sk1 (sk1 (sk1 (sk1 (sk1 (sk1 (sk1 (.refl _))))))))))))))) ?_
      refine HdJ.step [6] (by kernel_rfl) rfl ?_
      refine HdStep.c (fun inv => ?_) ?_
      ·refine Lst.store (i := 1) rfl rfl rfl rfl rfl Try.sizeOf75 (vs := [Sl.v s101]) rfl rfl rfl (cs' := enc s101) (Put.here (vs := [Sl.v s101]) rfl) (L' := (.own s101 4 1 (encs (List.replicate n27 false))) :: (.blk b99 (enc s101) 75) :: (.own Sl.nil 4 1 (encs ([] : List Bool))) :: (.blk b95 (enc Sl.nil) 75) :: (.own Sl.nil 4 1 (encs ([] : List Bool))) :: (.own s81 4 1 (encs (List.replicate n32 false))) :: (.blk b25 [pv b12 0] 97) :: (.rows (α := Bool) 4 rs14) :: (.own s13 75 1 (encs rs14)) :: (.own s18 3 1 (encs r10.left)) :: (.blk b12 (enc (GraphR.mk r10 s13 s18 s20)) 101) :: (.own Sl.nil 3 1 (encs ([] : List Int))) :: (.own Sl.nil 3 1 (encs ([] : List Int))) :: L) rfl ?_
       refine Lst.nil ?_
       refine At.hd inv (fun w h => (h.weaken (FLe.refl _)).sublist (sc1 (sc1 (sc1 (sc1 (sc1 (sc1 (sk1 (sk1 (sk1 (sk1 (sk1 (sk1 (sk1 (.refl _))))))))))))))) ?_
       refine HdJ.done (by kernel_rfl) ?_
       refine At.front (i := 5) rfl rfl ?_
       refine At.front (i := 2) rfl rfl ?_
       refine At.front (i := 5) rfl (L' := (.own Sl.nil 4 1 (encs ([] : List Bool))) :: (.blk b99 (enc s101) 75) :: (.own s81 4 1 (encs (List.replicate n32 false))) :: (.own s101 4 1 (encs (List.replicate n27 false))) :: (.own Sl.nil 4 1 (encs ([] : List Bool))) :: (.blk b95 (enc Sl.nil) 75) :: (.blk b25 [pv b12 0] 97) :: (.rows (α := Bool) 4 rs14) :: (.own s13 75 1 (encs rs14)) :: (.own s18 3 1 (encs r10.left)) :: (.blk b12 (enc (GraphR.mk r10 s13 s18 s20)) 101) :: (.own Sl.nil 3 1 (encs ([] : List Int))) :: (.own Sl.nil 3 1 (encs ([] : List Int))) :: L) rfl ?_
       refine At.front (i := 5) rfl (L' := (.blk b95 (enc Sl.nil) 75) :: (.own Sl.nil 4 1 (encs ([] : List Bool))) :: (.blk b99 (enc s101) 75) :: (.own s81 4 1 (encs (List.replicate n32 false))) :: (.own s101 4 1 (encs (List.replicate n27 false))) :: (.own Sl.nil 4 1 (encs ([] : List Bool))) :: (.blk b25 [pv b12 0] 97) :: (.rows (α := Bool) 4 rs14) :: (.own s13 75 1 (encs rs14)) :: (.own s18 3 1 (encs r10.left)) :: (.blk b12 (enc (GraphR.mk r10 s13 s18 s20)) 101) :: (.own Sl.nil 3 1 (encs ([] : List Int))) :: (.own Sl.nil 3 1 (encs ([] : List Int))) :: L) rfl ?_
       refine At.less (L' := (.blk b95 (enc Sl.nil) 75) :: (.own Sl.nil 4 1 (encs ([] : List Bool))) :: (.blk b99 (enc s101) 75) :: (.own s81 4 1 (encs (List.replicate n32 false))) :: (.own s101 4 1 (encs (List.replicate n27 false))) :: (.blk b25 [pv b12 0] 97) :: (.rows (α := Bool) 4 rs14) :: (.own s13 75 1 (encs rs14)) :: (.own s18 3 1 (encs r10.left)) :: (.blk b12 (enc (GraphR.mk r10 s13 s18 s20)) 101) :: (.own Sl.nil 3 1 (encs ([] : List Int))) :: (.own Sl.nil 3 1 (encs ([] : List Int))) :: L) (sk1 (sk1 (sk1 (sk1 (sk1 (sc1 (sk1 (sk1 (sk1 (sk1 (sk1 (sk1 (sk1 (.refl _)))))))))))))) ?_
       exact At.meetN (b95, Sl.nil, ([] : List Bool), b99, s81, (List.replicate n32 false), s101, (List.replicate n27 false)) (FLe.refl _) ⟨rfl, rfl, rfl, rfl, rfl, trivial⟩ rfl h53
      exact trivial
     exact trivial
    exact trivial
   exact trivial
  refine HdStep.c (fun inv => ?_) ?_
  ·refine Lst.addNil 4 1 ?_
   refine Lst.alloc (cs := enc Sl.nil) rfl rfl (by decide) Try.zeroValue75 rfl (fun b102 => ?_)
   refine Lst.nil ?_
   refine At.hd inv (fun w h => (h.weaken (FLe.refl _)).sublist (sc1 (sc1 (sk1 (sk1 (sk1 (sk1 (sk1 (sk1 (sk1 (.refl _))))))))))) ?_
   refine HdJ.step [1, 3, 5] (by kernel_rfl) rfl ?_
   refine HdStep.c (fun inv => ?_) ?_
   ·have g103 := mkLen_some h28
    refine Lst.make (α := Bool) (z0 := false) (k := n27) rfl rfl (by decide) (congrArg some (congrArg (Value.int .i64) g103.1)) (congrArg some (congrArg (Value.int .i64) g103.1)) Try.runUnderlying75 Try.typeInfo4 rfl rfl rfl rfl rfl g103.2 rfl (fun s104 => ?_)
    refine Lst.nil ?_
    refine At.hd inv (fun w h => (h.weaken (FLe.refl _)).sublist (sc1 (sc1 (sc1 (sk1 (sk1 (sk1 (sk1 (sk1 (sk1 (sk1 (.refl _)))))))))))) ?_
    refine HdJ.step [3, 5] (by kernel_rfl) rfl ?_
    refine HdStep.c (fun inv => ?_) ?_
    ·have g105 := mkLen_some h33
     refine Lst.make (α := Bool) (z0 := false) (k := n32) rfl rfl (by decide) (congrArg some (congrArg (Value.int .i64) g105.1)) (congrArg some (congrArg (Value.int .i64) g105.1)) Try.runUnderlying75 Try.typeInfo4 rfl rfl rfl rfl rfl g105.2 rfl (fun s106 => ?_)
     refine Lst.nil ?_
     refine At.hd inv (fun w h => (h.weaken (FLe.refl _)).sublist (sc1 (sc1 (sc1 (sc1 (sk1 (sk1 (sk1 (sk1 (sk1 (sk1 (sk1 (.refl _))))))))))))) ?_
     refine HdJ.step [5] (by kernel_rfl) rfl ?_
     refine HdStep.c (fun inv => ?_) ?_
     ·refine Lst.addNil 4 1 ?_
      refine Lst.alloc (cs := enc Sl.nil) rfl rfl (by decide) Try.zeroValue75 rfl (fun b107 => ?_)
      refine Lst.nil ?_
      refine At.hd inv (fun w h => (h.weaken (FLe.refl _)).sublist (sc1 (sc1 (sc1 (sc1 (sc1 (sc1 (sk1 (sk1 (sk1 (sk1 (sk1 (sk1 (sk1 (.refl _))))))))))))))) ?_
      refine HdJ.step [6] (by kernel_rfl) rfl ?_
      refine HdStep.c (fun inv => ?_) ?_
      ·refine Lst.store (i := 4) rfl rfl rfl rfl rfl Try.sizeOf75 (vs := [Sl.v s104]) rfl rfl rfl (cs' := enc s104) (Put.here (vs := [Sl.v s104]) rfl) (L' := (.blk b107 (enc Sl.nil) 75) :: (.own Sl.nil 4 1 (encs ([] : List Bool))) :: (.own s106 4 1 (encs (List.replicate n32 false))) :: (.own s104 4 1 (encs (List.replicate n27 false))) :: (.blk b102 (enc s104) 75) :: (.own Sl.nil 4 1 (encs ([] : List Bool))) :: (.blk b25 [pv b12 0] 97) :: (.rows (α := Bool) 4 rs14) :: (.own s13 75 1 (encs rs14)) :: (.own s18 3 1 (encs r10.left)) :: (.blk b12 (enc (GraphR.mk r10 s13 s18 s20)) 101) :: (.own Sl.nil 3 1 (encs ([] : List Int))) :: (.own Sl.nil 3 1 (encs ([] : List Int))) :: L) rfl ?_
       refine Lst.nil ?_
       refine At.hd inv (fun w h => (h.weaken (FLe.refl _)).sublist (sc1 (sc1 (sc1 (sc1 (sc1 (sc1 (sk1 (sk1 (sk1 (sk1 (sk1 (sk1 (sk1 (.refl _))))))))))))))) ?_
       refine HdJ.done (by kernel_rfl) ?_
       refine At.front (i := 4) rfl rfl ?_
       refine At.front (i := 2) rfl rfl ?_
       refine At.front (i := 2) rfl (L' := (.blk b107 (enc Sl.nil) 75) :: (.own Sl.nil 4 1 (encs ([] : List Bool))) :: (.blk b102 (enc s104) 75) :: (.own s106 4 1 (encs (List.replicate n32 false))) :: (.own s104 4 1 (encs (List.replicate n27 false))) :: (.own Sl.nil 4 1 (encs ([] : List Bool))) :: (.blk b25 [pv b12 0] 97) :: (.rows (α := Bool) 4 rs14) :: (.own s13 75 1 (encs rs14)) :: (.own s18 3 1 (encs r10.left)) :: (.blk b12 (enc (GraphR.mk r10 s13 s18 s20)) 101) :: (.own Sl.nil 3 1 (encs ([] : List Int))) :: (.own Sl.nil 3 1 (encs ([] : List Int))) :: L) rfl ?_
       refine At.less (L' := (.blk b107 (enc Sl.nil) 75) :: (.own Sl.nil 4 1 (encs ([] : List Bool))) :: (.blk b102 (enc s104) 75) :: (.own s106 4 1 (encs (List.replicate n32 false))) :: (.own s104 4 1 (encs (List.replicate n27 false))) :: (.blk b25 [pv b12 0] 97) :: (.rows (α := Bool) 4 rs14) :: (.own s13 75 1 (encs rs14)) :: (.own s18 3 1 (encs r10.left)) :: (.blk b12 (enc (GraphR.mk r10 s13 s18 s20)) 101) :: (.own Sl.nil 3 1 (encs ([] : List Int))) :: (.own Sl.nil 3 1 (encs ([] : List Int))) :: L) (sk1 (sk1 (sk1 (sk1 (sk1 (sc1 (sk1 (sk1 (sk1 (sk1 (sk1 (sk1 (sk1 (.refl _)))))))))))))) ?_
       exact At.meetN (b107, Sl.nil, ([] : List Bool), b102, s106, (List.replicate n32 false), s104, (List.replicate n27 false)) (FLe.refl _) ⟨rfl, rfl, rfl, rfl, rfl, trivial⟩ rfl h53
      exact trivial
     exact trivial
    refine HdStep.c (fun inv => ?_) ?_
    ·refine Lst.addNil 4 1 ?_
     refine Lst.alloc (cs := enc Sl.nil) rfl rfl (by decide) Try.zeroValue75 rfl (fun b108 => ?_)
     refine Lst.nil ?_
     refine At.hd inv (fun w h => (h.weaken (FLe.refl _)).sublist (sc1 (sc1 (sc1 (sc1 (sc1 (sk1 (sk1 (sk1 (sk1 (sk1 (sk1 (sk1 (.refl _)))))))))))))) ?_
     refine HdJ.step [3, 6] (by kernel_rfl) rfl ?_
     refine HdStep.c (fun inv => ?_) ?_
     ·have g109 := mkLen_some h33
      refine Lst.make (α := Bool) (z0 := false) (k := n32) rfl rfl (by decide) (congrArg some (congrArg (Value.int .i64) g109.1)) (congrArg some (congrArg (Value.int .i64) g109.1)) Try.runUnderlying75 Try.typeInfo4 rfl rfl rfl rfl rfl g109.2 rfl (fun s110 => ?_)
      refine Lst.nil ?_
      refine At.hd inv (fun w h => (h.weaken (FLe.refl _)).sublist (sc1 (sc1 (sc1 (sc1 (sc1 (sc1 (sk1 (sk1 (sk1 (sk1 (sk1 (sk1 (sk1 (.refl _))))))))))))))) ?_
      refine HdJ.step [6] (by kernel_rfl) rfl ?_
      refine HdStep.c (fun inv => ?_) ?_
      ·refine Lst.store (i := 4) rfl rfl rfl rfl rfl Try.sizeOf75 (vs := [Sl.v s104]) rfl rfl rfl (cs' := enc s104) (Put.here (vs := [Sl.v s104]) rfl) (L' := (.own s110 4 1 (encs (List.replicate n32 false))) :: (.blk b108 (enc Sl.nil) 75) :: (.own Sl.nil 4 1 (encs ([] : List Bool))) :: (.own s104 4 1 (encs (List.replicate n27 false))) :: (.blk b102 (enc s104) 75) :: (.own Sl.nil 4 1 (encs ([] : List Bool))) :: (.blk b25 [pv b12 0] 97) :: (.rows (α := Bool) 4 rs14) :: (.own s13 75 1 (encs rs14)) :: (.own s18 3 1 (encs r10.left)) :: (.blk b12 (enc (GraphR.mk r10 s13 s18 s20)) 101) :: (.own Sl.nil 3 1 (encs ([] : List Int))) :: (.own Sl.nil 3 1 (encs ([] : List Int))) :: L) rfl ?_
       refine Lst.nil ?_
       refine At.hd inv (fun w h => (h.weaken (FLe.refl _)).sublist (sc1 (sc1 (sc1 (sc1 (sc1 (sc1 (sk1 (sk1 (sk1 (sk1 (sk1 (sk1 (sk1 (.refl _))))))))))))))) ?_
       refine HdJ.done (by kernel_rfl) ?_
       refine At.front (i := 4) rfl rfl ?_
       refine At.front (i := 3) rfl rfl ?_
       refine At.front (i := 3) rfl (L' := (.blk b108 (enc Sl.nil) 75) :: (.own Sl.nil 4 1 (encs ([] : List Bool))) :: (.blk b102 (enc s104) 75) :: (.own s110 4 1 (encs (List.replicate n32 false))) :: (.own s104 4 1 (encs (List.replicate n27 false))) :: (.own Sl.nil 4 1 (encs ([] : List Bool))) :: (.blk b25 [pv b12 0] 97) :: (.rows (α := Bool) 4 rs14) :: (.own s13 75 1 (encs rs14)) :: (.own s18 3 1 (encs r10.left)) :: (.blk b12 (enc (GraphR.mk r10 s13 s18 s20)) 101) :: (.own Sl.nil 3 1 (encs ([] : List Int))) :: (.own Sl.nil 3 1 (encs ([] : List Int))) :: L) rfl ?_
       refine At.less (L' := (.blk b108 (enc Sl.nil) 75) :: (.own Sl.nil 4 1 (encs ([] : List Bool))) :: (.blk b102 (enc s104) 75) :: (.own s110 4 1 (encs (List.replicate n32 false))) :: (.own s104 4 1 (encs (List.replicate n27 false))) :: (.blk b25 [pv b12 0] 97) :: (.rows (α := Bool) 4 rs14) :: (.own s13 75 1 (encs rs14)) :: (.own s18 3 1 (encs r10.left)) :: (.blk b12 (enc (GraphR.mk r10 s13 s18 s20)) 101) :: (.own Sl.nil 3 1 (encs ([] : List Int))) :: (.own Sl.nil 3 1 (encs ([] : List Int))) :: L) (sk1 (sk1 (sk1 (sk1 (sk1 (sc1 (sk1 (sk1 (sk1 (sk1 (sk1 (sk1 (sk1 (.refl _)))))))))))))) ?_
       exact At.meetN (b108, Sl.nil, ([] : List Bool), b102, s110, (List.replicate n32 false), s104, (List.replicate n27 false)) (FLe.refl _) ⟨rfl, rfl, rfl, rfl, rfl, trivial⟩ rfl h53
      exact trivial
     refine HdStep.c (fun inv => ?_) ?_
     ·refine Lst.store (i := 3) rfl rfl rfl rfl rfl Try.sizeOf75 (vs := [Sl.v s104]) rfl rfl rfl (cs' := enc s104) (Put.here (vs := [Sl.v s104]) rfl) (L' := (.blk b108 (enc Sl.nil) 75) :: (.own Sl.nil 4 1 (encs ([] : List Bool))) :: (.own s104 4 1 (encs (List.replicate n27 false))) :: (.blk b102 (enc s104) 75) :: (.own Sl.nil 4 1 (encs ([] : List Bool))) :: (.blk b25 [pv b12 0] 97) :: (.rows (α := Bool) 4 rs14) :: (.own s13 75 1 (encs rs14)) :: (.own s18 3 1 (encs r10.left)) :: (.blk b12 (enc (GraphR.mk r10 s13 s18 s20)) 101) :: (.own Sl.nil 3 1 (encs ([] : List Int))) :: (.own Sl.nil 3 1 (encs ([] : List Int))) :: L) rfl ?_
      refine Lst.nil ?_
      refine At.hd inv (fun w h => (h.weaken (FLe.refl _)).sublist (sc1 (sc1 (sc1 (sc1 (sc1 (sk1 (sk1 (sk1 (sk1 (sk1 (sk1 (sk1 (.refl _)))))))))))))) ?_
      refine HdJ.step [3] (by kernel_rfl) rfl ?_
      refine HdStep.c (fun inv => ?_) ?_
      ·have g111 := mkLen_some h33
       refine Lst.make (α := Bool) (z0 := false) (k := n32) rfl rfl (by decide) (congrArg some (congrArg (Value.int .i64) g111.1)) (congrArg some (congrArg (Value.int .i64) g111.1)) Try.runUnderlying75 Try.typeInfo4 rfl rfl rfl rfl rfl g111.2 rfl (fun s112 => ?_)
       refine Lst.nil ?_
       refine At.hd inv (fun w h => (h.weaken (FLe.refl _)).sublist (sc1 (sc1 (sc1 (sc1 (sc1 (sc1 (sk1 (sk1 (sk1 (sk1 (sk1 (sk1 (sk1 (.refl _))))))))))))))) ?_
       refine HdJ.done (by kernel_rfl) ?_
       refine At.front (i := 4) rfl rfl ?_
       refine At.front (i := 3) rfl rfl ?_
       refine At.front (i := 3) rfl (L' := (.blk b108 (enc Sl.nil) 75) :: (.own Sl.nil 4 1 (encs ([] : List Bool))) :: (.blk b102 (enc s104) 75) :: (.own s112 4 1 (encs (List.replicate n32 false))) :: (.own s104 4 1 (encs (List.replicate n27 false))) :: (.own Sl.nil 4 1 (encs ([] : List Bool))) :: (.blk b25 [pv b12 0] 97) :: (.rows (α := Bool) 4 rs14) :: (.own s13 75 1 (encs rs14)) :: (.own s18 3 1 (encs r10.left)) :: (.blk b12 (enc (GraphR.mk r10 s13 s18 s20)) 101) :: (.own Sl.nil 3 1 (encs ([] : List Int))) :: (.own Sl.nil 3 1 (encs ([] : List Int))) :: L) rfl ?_
       refine At.less (L' := (.blk b108 (enc Sl.nil) 75) :: (.own Sl.nil 4 1 (encs ([] : List Bool))) :: (.blk b102 (enc s104) 75) :: (.own s112 4 1 (encs (List.replicate n32 false))) :: (.own s104 4 1 (encs (List.replicate n27 false))) :: (.blk b25 [pv b12 0] 97) :: (.rows (α := Bool) 4 rs14) :: (.own s13 75 1 (encs rs14)) :: (.own s18 3 1 (encs r10.left)) :: (.blk b12 (enc (GraphR.mk r10 s13 s18 s20)) 101) :: (.own Sl.nil 3 1 (encs ([] : List Int))) :: (.own Sl.nil 3 1 (encs ([] : List Int))) :: L) (sk1 (sk1 (sk1 (sk1 (sk1 (sc1 (sk1 (sk1 (sk1 (sk1 (sk1 (sk1 (sk1 (.refl _)))))))))))))) ?_
       exact At.meetN (b108, Sl.nil, ([] : List Bool), b102, s112, (List.replicate n32 false), s104, (List.replicate n27 false)) (FLe.refl _) ⟨rfl, rfl, rfl, rfl, rfl, trivial⟩ rfl h53
      exact trivial
     exact trivial
    exact trivial
   refine HdStep.c (fun inv => ?_) ?_
   ·have g113 := mkLen_some h33
    refine Lst.make (α := Bool) (z0 := false) (k := n32) rfl rfl (by decide) (congrArg some (congrArg (Value.int .i64) g113.1)) (congrArg some (congrArg (Value.int .i64) g113.1)) Try.runUnderlying75 Try.typeInfo4 rfl rfl rfl rfl rfl g113.2 rfl (fun s114 => ?_)
    refine Lst.nil ?_
    refine At.hd inv (fun w h => (h.weaken (FLe.refl _)).sublist (sc1 (sc1 (sc1 (sk1 (sk1 (sk1 (sk1 (sk1 (sk1 (sk1 (.refl _)))))))))))) ?_
    refine HdJ.step [1, 5] (by kernel_rfl) rfl ?_
    refine HdStep.c (fun inv => ?_) ?_
    ·have g115 := mkLen_some h28
     refine Lst.make (α := Bool) (z0 := false) (k := n27) rfl rfl (by decide) (congrArg some (congrArg (Value.int .i64) g115.1)) (congrArg some (congrArg (Value.int .i64) g115.1)) Try.runUnderlying75 Try.typeInfo4 rfl rfl rfl rfl rfl g115.2 rfl (fun s116 => ?_)
     refine Lst.nil ?_
     refine At.hd inv (fun w h => (h.weaken (FLe.refl _)).sublist (sc1 (sc1 (sc1 (sc1 (sk1 (sk1 (sk1 (sk1 (sk1 (sk1 (sk1 (.refl _))))))))))))) ?_
     refine HdJ.step [5] (by kernel_rfl) rfl ?_
     refine HdStep.c (fun inv => ?_) ?_
     ·refine Lst.addNil 4 1 ?_
      refine Lst.alloc (cs := enc Sl.nil) rfl rfl (by decide) Try.zeroValue75 rfl (fun b117 => ?_)
      refine Lst.nil ?_
      refine At.hd inv (fun w h => (h.weaken (FLe.refl _)).sublist (sc1 (sc1 (sc1 (sc1 (sc1 (sc1 (sk1 (sk1 (sk1 (sk1 (sk1 (sk1 (sk1 (.refl _))))))))))))))) ?_
      refine HdJ.step [6] (by kernel_rfl) rfl ?_
      refine HdStep.c (fun inv => ?_) ?_
      ·refine Lst.store (i := 4) rfl rfl rfl rfl rfl Try.sizeOf75 (vs := [Sl.v s116]) rfl rfl rfl (cs' := enc s116) (Put.here (vs := [Sl.v s116]) rfl) (L' := (.blk b117 (enc Sl.nil) 75) :: (.own Sl.nil 4 1 (encs ([] : List Bool))) :: (.own s116 4 1 (encs (List.replicate n27 false))) :: (.own s114 4 1 (encs (List.replicate n32 false))) :: (.blk b102 (enc s116) 75) :: (.own Sl.nil 4 1 (encs ([] : List Bool))) :: (.blk b25 [pv b12 0] 97) :: (.rows (α := Bool) 4 rs14) :: (.own s13 75 1 (encs rs14)) :: (.own s18 3 1 (encs r10.left)) :: (.blk b12 (enc (GraphR.mk r10 s13 s18 s20)) 101) :: (.own Sl.nil 3 1 (encs ([] : List Int))) :: (.own Sl.nil 3 1 (encs ([] : List Int))) :: L) rfl ?_
       refine Lst.nil ?_
       refine At.hd inv (fun w h => (h.weaken (FLe.refl _)).sublist (sc1 (sc1 (sc1 (sc1 (sc1 (sc1 (sk1 (sk1 (sk1 (sk1 (sk1 (sk1 (sk1 (.refl _))))))))))))))) ?_
       refine HdJ.done (by kernel_rfl) ?_
       refine At.front (i := 3) rfl rfl ?_
       refine At.front (i := 4) rfl rfl ?_
       refine At.front (i := 3) rfl (L' := (.own Sl.nil 4 1 (encs ([] : List Bool))) :: (.blk b102 (enc s116) 75) :: (.own s114 4 1 (encs (List.replicate n32 false))) :: (.blk b117 (enc Sl.nil) 75) :: (.own s116 4 1 (encs (List.replicate n27 false))) :: (.own Sl.nil 4 1 (encs ([] : List Bool))) :: (.blk b25 [pv b12 0] 97) :: (.rows (α := Bool) 4 rs14) :: (.own s13 75 1 (encs rs14)) :: (.own s18 3 1 (encs r10.left)) :: (.blk b12 (enc (GraphR.mk r10 s13 s18 s20)) 101) :: (.own Sl.nil 3 1 (encs ([] : List Int))) :: (.own Sl.nil 3 1 (encs ([] : List Int))) :: L) rfl ?_
       refine At.front (i := 3) rfl (L' := (.blk b117 (enc Sl.nil) 75) :: (.own Sl.nil 4 1 (encs ([] : List Bool))) :: (.blk b102 (enc s116) 75) :: (.own s114 4 1 (encs (List.replicate n32 false))) :: (.own s116 4 1 (encs (List.replicate n27 false))) :: (.own Sl.nil 4 1 (encs ([] : List Bool))) :: (.blk b25 [pv b12 0] 97) :: (.rows (α := Bool) 4 rs14) :: (.own s13 75 1 (encs rs14)) :: (.own s18 3 1 (encs r10.left)) :: (.blk b12 (enc (GraphR.mk r10 s13 s18 s20)) 101) :: (.own Sl.nil 3 1 (encs ([] : List Int))) :: (.own Sl.nil 3 1 (encs ([] : List Int))) :: L) rfl ?_
       refine At.less (L' := (.blk b117 (enc Sl.nil) 75) :: (.own Sl.nil 4 1 (encs ([] : List Bool))) :: (.blk b102 (enc s116) 75) :: (.own s114 4 1 (encs (List.replicate n32 false))) :: (.own s116 4 1 (encs (List.replicate n27 false))) :: (.blk b25 [pv b12 0] 97) :: (.rows (α := Bool) 4 rs14) :: (.own s13 75 1 (encs rs14)) :: (.own s18 3 1 (encs r10.left)) :: (.blk b12 (enc (GraphR.mk r10 s13 s18 s20)) 101) :: (.own Sl.nil 3 1 (encs ([] : List Int))) :: (.own Sl.nil 3 1 (encs ([] : List Int))) :: L) (sk1 (sk1 (sk1 (sk1 (sk1 (sc1 (sk1 (sk1 (sk1 (sk1 (sk1 (sk1 (sk1 (.refl _)))))))))))))) ?_
       exact At.meetN (b117, Sl.nil, ([] : List Bool), b102, s114, (List.replicate n32 false), s116, (List.replicate n27 false)) (FLe.refl _) ⟨rfl, rfl, rfl, rfl, rfl, trivial⟩ rfl h53
      exact trivial
     exact trivial
    refine HdStep.c (fun inv => ?_) ?_
    ·refine Lst.addNil 4 1 ?_
     refine Lst.alloc (cs := enc Sl.nil) rfl rfl (by decide) Try.zeroValue75 rfl (fun b118 => ?_)
     refine Lst.nil ?_
     refine At.hd inv (fun w h => (h.weaken (FLe.refl _)).sublist (sc1 (sc1 (sc1 (sc1 (sc1 (sk1 (sk1 (sk1 (sk1 (sk1 (sk1 (sk1 (.refl _)))))))))))))) ?_
     refine HdJ.step [1] (by kernel_rfl) rfl ?_
     refine HdStep.c (fun inv => ?_) ?_
     ·have g119 := mkLen_some h28
      refine Lst.make (α := Bool) (z0 := false) (k := n27) rfl rfl (by decide) (congrArg some (congrArg (Value.int .i64) g119.1)) (congrArg some (congrArg (Value.int .i64) g119.1)) Try.runUnderlying75 Try.typeInfo4 rfl rfl rfl rfl rfl g119.2 rfl (fun s120 => ?_)
      refine Lst.nil ?_
      refine At.hd inv (fun w h => (h.weaken (FLe.refl _)).sublist (sc1 (sc1 (sc1 (sc1 (sc1 (sc1 (sk1 (sk1 (sk1 (sk1 (sk1 (sk1 (sk1 (.refl _))))))))))))))) ?_
      refine HdJ.step [6] (by kernel_rfl) rfl ?_
      refine HdStep.c (fun inv => ?_) ?_
      ·refine Lst.store (i := 4) rfl rfl rfl rfl rfl Try.sizeOf75 (vs := [Sl.v s120]) rfl rfl rfl (cs' := enc s120) (Put.here (vs := [Sl.v s120]) rfl) (L' := (.own s120 4 1 (encs (List.replicate n27 false))) :: (.blk b118 (enc Sl.nil) 75) :: (.own Sl.nil 4 1 (encs ([] : List Bool))) :: (.own s114 4 1 (encs (List.replicate n32 false))) :: (.blk b102 (enc s120) 75) :: (.own Sl.nil 4 1 (encs ([] : List Bool))) :: (.blk b25 [pv b12 0] 97) :: (.rows (α := Bool) 4 rs14) :: (.own s13 75 1 (encs rs14)) :: (.own s18 3 1 (encs r10.left)) :: (.blk b12 (enc (GraphR.mk r10 s13 s18 s20)) 101) :: (.own Sl.nil 3 1 (encs ([] : List Int))) :: (.own Sl.nil 3 1 (encs ([] : List Int))) :: L) rfl ?_
       refine Lst.nil ?_
       refine At.hd inv (fun w h => (h.weaken (FLe.refl _)).sublist (sc1 (sc1 (sc1 (sc1 (sc1 (sc1 (sk1 (sk1 (sk1 (sk1 (sk1 (sk1 (sk1 (.refl _))))))))))))))) ?_
       refine HdJ.done (by kernel_rfl) ?_
       refine At.front (i := 3) rfl rfl ?_
       refine At.front (i := 4) rfl rfl ?_
       refine At.front (i := 4) rfl (L' := (.own Sl.nil 4 1 (encs ([] : List Bool))) :: (.blk b102 (enc s120) 75) :: (.own s114 4 1 (encs (List.replicate n32 false))) :: (.own s120 4 1 (encs (List.replicate n27 false))) :: (.blk b118 (enc Sl.nil) 75) :: (.own Sl.nil 4 1 (encs ([] : List Bool))) :: (.blk b25 [pv b12 0] 97) :: (.rows (α := Bool) 4 rs14) :: (.own s13 75 1 (encs rs14)) :: (.own s18 3 1 (encs r10.left)) :: (.blk b12 (enc (GraphR.mk r10 s13 s18 s20)) 101) :: (.own Sl.nil 3 1 (encs ([] : List Int))) :: (.own Sl.nil 3 1 (encs ([] : List Int))) :: L) rfl ?_
       refine At.front (i := 4) rfl (L' := (.blk b118 (enc Sl.nil) 75) :: (.own Sl.nil 4 1 (encs ([] : List Bool))) :: (.blk b102 (enc s120) 75) :: (.own s114 4 1 (encs (List.replicate n32 false))) :: (.own s120 4 1 (encs (List.replicate n27 false))) :: (.own Sl.nil 4 1 (encs ([] : List Bool))) :: (.blk b25 [pv b12 0] 97) :: (.rows (α := Bool) 4 rs14) :: (.own s13 75 1 (encs rs14)) :: (.own s18 3 1 (encs r10.left)) :: (.blk b12 (enc (GraphR.mk r10 s13 s18 s20)) 101) :: (.own Sl.nil 3 1 (encs ([] : List Int))) :: (.own Sl.nil 3 1 (encs ([] : List Int))) :: L) rfl ?_
       refine At.less (L' := (.blk b118 (enc Sl.nil) 75) :: (.own Sl.nil 4 1 (encs ([] : List Bool))) :: (.blk b102 (enc s120) 75) :: (.own s114 4 1 (encs (List.replicate n32 false))) :: (.own s120 4 1 (encs (List.replicate n27 false))) :: (.blk b25 [pv b12 0] 97) :: (.rows (α := Bool) 4 rs14) :: (.own s13 75 1 (encs rs14)) :: (.own s18 3 1 (encs r10.left)) :: (.blk b12 (enc (GraphR.mk r10 s13 s18 s20)) 101) :: (.own Sl.nil 3 1 (encs ([] : List Int))) :: (.own Sl.nil 3 1 (encs ([] : List Int))) :: L) (sk1 (sk1 (sk1 (sk1 (sk1 (sc1 (sk1 (sk1 (sk1 (sk1 (sk1 (sk1 (sk1 (.refl _)))))))))))))) ?_
       exact At.meetN (b118, Sl.nil, ([] : List Bool), b102, s114, (List.replicate n32 false), s120, (List.replicate n27 false)) (FLe.refl _) ⟨rfl, rfl, rfl, rfl, rfl, trivial⟩ rfl h53
      exact trivial
     exact trivial
    exact trivial
   refine HdStep.c (fun inv => ?_) ?_
   ·refine Lst.addNil 4 1 ?_
    refine Lst.alloc (cs := enc Sl.nil) rfl rfl (by decide) Try.zeroValue75 rfl (fun b121 => ?_)
    refine Lst.nil ?_
    refine At.hd inv (fun w h => (h.weaken (FLe.refl _)).sublist (sc1 (sc1 (sc1 (sc1 (sk1 (sk1 (sk1 (sk1 (sk1 (sk1 (sk1 (.refl _))))))))))))) ?_
    refine HdJ.step [1, 3] (by kernel_rfl) rfl ?_
    refine HdStep.c (fun inv => ?_) ?_
    ·have g122 := mkLen_some h28
     refine Lst.make (α := Bool) (z0 := false) (k := n27) rfl rfl (by decide) (congrArg some (congrArg (Value.int .i64) g122.1)) (congrArg some (congrArg (Value.int .i64) g122.1)) Try.runUnderlying75 Try.typeInfo4 rfl rfl rfl rfl rfl g122.2 rfl (fun s123 => ?_)
     refine Lst.nil ?_
     refine At.hd inv (fun w h => (h.weaken (FLe.refl _)).sublist (sc1 (sc1 (sc1 (sc1 (sc1 (sk1 (sk1 (sk1 (sk1 (sk1 (sk1 (sk1 (.refl _)))))))))))))) ?_
     refine HdJ.step [3, 6] (by kernel_rfl) rfl ?_
     refine HdStep.c (fun inv => ?_) ?_
     ·have g124 := mkLen_some h33
      refine Lst.make (α := Bool) (z0 := false) (k := n32) rfl rfl (by decide) (congrArg some (congrArg (Value.int .i64) g124.1)) (congrArg some (congrArg (Value.int .i64) g124.1)) Try.runUnderlying75 Try.typeInfo4 rfl rfl rfl rfl rfl g124.2 rfl (fun s125 => ?_)
      refine Lst.nil ?_
      refine At.hd inv (fun w h => (h.weaken (FLe.refl _)).sublist (sc1 (sc1 (sc1 (sc1 (sc1 (sc1 (sk1 (sk1 (sk1 (sk1 (sk1 (sk1 (sk1 (.refl _))))))))))))))) ?_
      refine HdJ.step [6] (by kernel_rfl) rfl ?_
      refine HdStep.c (fun inv => ?_) ?_
      ·refine Lst.store (i := 4) rfl rfl rfl rfl rfl Try.sizeOf75 (vs := [Sl.v s123]) rfl rfl rfl (cs' := enc s123) (Put.here (vs := [Sl.v s123]) rfl) (L' := (.own s125 4 1 (encs (List.replicate n32 false))) :: (.own s123 4 1 (encs (List.replicate n27 false))) :: (.blk b121 (enc Sl.nil) 75) :: (.own Sl.nil 4 1 (encs ([] : List Bool))) :: (.blk b102 (enc s123) 75) :: (.own Sl.nil 4 1 (encs ([] : List Bool))) :: (.blk b25 [pv b12 0] 97) :: (.rows (α := Bool) 4 rs14) :: (.own s13 75 1 (encs rs14)) :: (.own s18 3 1 (encs r10.left)) :: (.blk b12 (enc (GraphR.mk r10 s13 s18 s20)) 101) :: (.own Sl.nil 3 1 (encs ([] : List Int))) :: (.own Sl.nil 3 1 (encs ([] : List Int))) :: L) rfl ?_
       refine Lst.nil ?_
       refine At.hd inv (fun w h => (h.weaken (FLe.refl _)).sublist (sc1 (sc1 (sc1 (sc1 (sc1 (sc1 (sk1 (sk1 (sk1 (sk1 (sk1 (sk1 (sk1 (.refl _))))))))))))))) ?_
       refine HdJ.done (by kernel_rfl) ?_
       refine At.front (i := 4) rfl rfl ?_
       refine At.front (i := 4) rfl rfl ?_
       refine At.front (i := 4) rfl (L' := (.blk b121 (enc Sl.nil) 75) :: (.own Sl.nil 4 1 (encs ([] : List Bool))) :: (.blk b102 (enc s123) 75) :: (.own s125 4 1 (encs (List.replicate n32 false))) :: (.own s123 4 1 (encs (List.replicate n27 false))) :: (.own Sl.nil 4 1 (encs ([] : List Bool))) :: (.blk b25 [pv b12 0] 97) :: (.rows (α := Bool) 4 rs14) :: (.own s13 75 1 (encs rs14)) :: (.own s18 3 1 (encs r10.left)) :: (.blk b12 (enc (GraphR.mk r10 s13 s18 s20)) 101) :: (.own Sl.nil 3 1 (encs ([] : List Int))) :: (.own Sl.nil 3 1 (encs ([] : List Int))) :: L) rfl ?_
       refine At.less (L' := (.blk b121 (enc Sl.nil) 75) :: (.own Sl.nil 4 1 (encs ([] : List Bool))) :: (.blk b102 (enc s123) 75) :: (.own s125 4 1 (encs (List.replicate n32 false))) :: (.own s123 4 1 (encs (List.replicate n27 false))) :: (.blk b25 [pv b12 0] 97) :: (.rows (α := Bool) 4 rs14) :: (.own s13 75 1 (encs rs14)) :: (.own s18 3 1 (encs r10.left)) :: (.blk b12 (enc (GraphR.mk r10 s13 s18 s20)) 101) :: (.own Sl.nil 3 1 (encs ([] : List Int))) :: (.own Sl.nil 3 1 (encs ([] : List Int))) :: L) (sk1 (sk1 (sk1 (sk1 (sk1 (sc1 (sk1 (sk1 (sk1 (sk1 (sk1 (sk1 (sk1 (.refl _)))))))))))))) ?_
       exact At.meetN (b121, Sl.nil, ([] : List Bool), b102, s125, (List.replicate n32 false), s123, (List.replicate n27 false)) (FLe.refl _) ⟨rfl, rfl, rfl, rfl, rfl, trivial⟩ rfl h53
      exact trivial
     refine HdStep.c (fun inv => ?_) ?_
     ·refine Lst.store (i := 3) rfl rfl rfl rfl rfl Try.sizeOf75 (vs := [Sl.v s123]) rfl rfl rfl (cs' := enc s123) (Put.here (vs := [Sl.v s123]) rfl) (L' := (.own s123 4 1 (encs (List.replicate n27 false))) :: (.blk b121 (enc Sl.nil) 75) :: (.own Sl.nil 4 1 (encs ([] : List Bool))) :: (.blk b102 (enc s123) 75) :: (.own Sl.nil 4 1 (encs ([] : List Bool))) :: (.blk b25 [pv b12 0] 97) :: (.rows (α := Bool) 4 rs14) :: (.own s13 75 1 (encs rs14)) :: (.own s18 3 1 (encs r10.left)) :: (.blk b12 (enc (GraphR.mk r10 s13 s18 s20)) 101) :: (.own Sl.nil 3 1 (encs ([] : List Int))) :: (.own Sl.nil 3 1 (encs ([] : List Int))) :: L) rfl ?_
      refine Lst.nil ?_
      refine At.hd inv (fun w h => (h.weaken (FLe.refl _)).sublist (sc1 (sc1 (sc1 (sc1 (sc1 (sk1 (sk1 (sk1 (sk1 (sk1 (sk1 (sk1 (.refl _)))))))))))))) ?_
      refine HdJ.step [3] (by kernel_rfl) rfl ?_
      refine HdStep.c (fun inv => ?_) ?_
      ·have g126 := mkLen_some h33
       refine Lst.make (α := Bool) (z0 := false) (k := n32) rfl rfl (by decide) (congrArg some (congrArg (Value.int .i64) g126.1)) (congrArg some (congrArg (Value.int .i64) g126.1)) Try.runUnderlying75 Try.typeInfo4 rfl rfl rfl rfl rfl g126.2 rfl (fun s127 => ?_)
       refine Lst.nil ?_
       refine At.hd inv (fun w h => (h.weaken (FLe.refl _)).sublist (sc1 (sc1 (sc1 (sc1 (sc1 (sc1 (sk1 (sk1 (sk1 (sk1 (sk1 (sk1 (sk1 (.refl _))))))))))))))) ?_
       refine HdJ.done (by kernel_rfl) ?_
       refine At.front (i := 4) rfl rfl ?_
       refine At.front (i := 4) rfl rfl ?_
       refine At.front (i := 4) rfl (L' := (.blk b121 (enc Sl.nil) 75) :: (.own Sl.nil 4 1 (encs ([] : List Bool))) :: (.blk b102 (enc s123) 75) :: (.own s127 4 1 (encs (List.replicate n32 false))) :: (.own s123 4 1 (encs (List.replicate n27 false))) :: (.own Sl.nil 4 1 (encs ([] : List Bool))) :: (.blk b25 [pv b12 0] 97) :: (.rows (α := Bool) 4 rs14) :: (.own s13 75 1 (encs rs14)) :: (.own s18 3 1 (encs r10.left)) :: (.blk b12 (enc (GraphR.mk r10 s13 s18 s20)) 101) :: (.own Sl.nil 3 1 (encs ([] : List Int))) :: (.own Sl.nil 3 1 (encs ([] : List Int))) :: L) rfl ?_
       refine At.less (L' := (.blk b121 (enc Sl.nil) 75) :: (.own Sl.nil 4 1 (encs ([] : List Bool))) :: (.blk b102 (enc s123) 75) :: (.own s127 4 1 (encs (List.replicate n32 false))) :: (.own s123 4 1 (encs (List.replicate n27 false))) :: (.blk b25 [pv b12 0] 97) :: (.rows (α := Bool) 4 rs14) :: (.own s13 75 1 (encs rs14)) :: (.own s18 3 1 (encs r10.left)) :: (.blk b12 (enc (GraphR.mk r10 s13 s18 s20)) 101) :: (.own Sl.nil 3 1 (encs ([] : List Int))) :: (.own Sl.nil 3 1 (encs ([] : List Int))) :: L) (sk1 (sk1 (sk1 (sk1 (sk1 (sc1 (sk1 (sk1 (sk1 (sk1 (sk1 (sk1 (sk1 (.refl _)))))))))))))) ?_
       exact At.meetN (b121, Sl.nil, ([] : List Bool), b102, s127, (List.replicate n32 false), s123, (List.replicate n27 false)) (FLe.refl _) ⟨rfl, rfl, rfl, rfl, rfl, trivial⟩ rfl h53
      exact trivial
     exact trivial
    refine HdStep.c (fun inv => ?_) ?_
    ·have g128 := mkLen_some h33
     refine Lst.make (α := Bool) (z0 := false) (k := n32) rfl rfl (by decide) (congrArg some (congrArg (Value.int .i64) g128.1)) (congrArg some (congrArg (Value.int .i64) g128.1)) Try.runUnderlying75 Try.typeInfo4 rfl rfl rfl rfl rfl g128.2 rfl (fun s129 => ?_)
     refine Lst.nil ?_
     refine At.hd inv (fun w h => (h.weaken (FLe.refl _)).sublist (sc1 (sc1 (sc1 (sc1 (sc1 (sk1 (sk1 (sk1 (sk1 (sk1 (sk1 (sk1 (.refl _)))))))))))))) ?_
     refine HdJ.step [1] (by kernel_rfl) rfl ?_
     refine HdStep.c (fun inv => ?_) ?_
     ·have g130 := mkLen_some h28
      refine Lst.make (α := Bool) (z0 := false) (k := n27) rfl rfl (by decide) (congrArg some (congrArg (Value.int .i64) g130.1)) (congrArg some (congrArg (Value.int .i64) g130.1)) Try.runUnderlying75 Try.typeInfo4 rfl rfl rfl rfl rfl g130.2 rfl (fun s131 => ?_)
      refine Lst.nil ?_
      refine At.hd inv (fun w h => (h.weaken (FLe.refl _)).sublist (sc1 (sc1 (sc1 (sc1 (sc1 (sc1 (sk1 (sk1 (sk1 (sk1 (sk1 (sk1 (sk1 (.refl _))))))))))))))) ?_
      refine HdJ.step [6] (by kernel_rfl) rfl ?_
      refine HdStep.c (fun inv => ?_) ?_
      ·refine Lst.store (i := 4) rfl rfl rfl rfl rfl Try.sizeOf75 (vs := [Sl.v s131]) rfl rfl rfl (cs' := enc s131) (Put.here (vs := [Sl.v s131]) rfl) (L' := (.own s131 4 1 (encs (List.replicate n27 false))) :: (.own s129 4 1 (encs (List.replicate n32 false))) :: (.blk b121 (enc Sl.nil) 75) :: (.own Sl.nil 4 1 (encs ([] : List Bool))) :: (.blk b102 (enc s131) 75) :: (.own Sl.nil 4 1 (encs ([] : List Bool))) :: (.blk b25 [pv b12 0] 97) :: (.rows (α := Bool) 4 rs14) :: (.own s13 75 1 (encs rs14)) :: (.own s18 3 1 (encs r10.left)) :: (.blk b12 (enc (GraphR.mk r10 s13 s18 s20)) 101) :: (.own Sl.nil 3 1 (encs ([] : List Int))) :: (.own Sl.nil 3 1 (encs ([] : List Int))) :: L) rfl ?_
       refine Lst.nil ?_
       refine At.hd inv (fun w h => (h.weaken (FLe.refl _)).sublist (sc1 (sc1 (sc1 (sc1 (sc1 (sc1 (sk1 (sk1 (sk1 (sk1 (sk1 (sk1 (sk1 (.refl _))))))))))))))) ?_
       refine HdJ.done (by kernel_rfl) ?_
       refine At.front (i := 1) rfl rfl ?_
       refine At.front (i := 4) rfl rfl ?_
       refine At.front (i := 4) rfl (L' := (.own Sl.nil 4 1 (encs ([] : List Bool))) :: (.blk b102 (enc s131) 75) :: (.own s129 4 1 (encs (List.replicate n32 false))) :: (.own s131 4 1 (encs (List.replicate n27 false))) :: (.blk b121 (enc Sl.nil) 75) :: (.own Sl.nil 4 1 (encs ([] : List Bool))) :: (.blk b25 [pv b12 0] 97) :: (.rows (α := Bool) 4 rs14) :: (.own s13 75 1 (encs rs14)) :: (.own s18 3 1 (encs r10.left)) :: (.blk b12 (enc (GraphR.mk r10 s13 s18 s20)) 101) :: (.own Sl.nil 3 1 (encs ([] : List Int))) :: (.own Sl.nil 3 1 (encs ([] : List Int))) :: L) rfl ?_
       refine At.front (i := 4) rfl (L' := (.blk b121 (enc Sl.nil) 75) :: (.own Sl.nil 4 1 (encs ([] : List Bool))) :: (.blk b102 (enc s131) 75) :: (.own s129 4 1 (encs (List.replicate n32 false))) :: (.own s131 4 1 (encs (List.replicate n27 false))) :: (.own Sl.nil 4 1 (encs ([] : List Bool))) :: (.blk b25 [pv b12 0] 97) :: (.rows (α := Bool) 4 rs14) :: (.own s13 75 1 (encs rs14)) :: (.own s18 3 1 (encs r10.left)) :: (.blk b12 (enc (GraphR.mk r10 s13 s18 s20)) 101) :: (.own Sl.nil 3 1 (encs ([] : List Int))) :: (.own Sl.nil 3 1 (encs ([] : List Int))) :: L) rfl ?_
       refine At.less (L' := (.blk b121 (enc Sl.nil) 75) :: (.own Sl.nil 4 1 (encs ([] : List Bool))) :: (.blk b102 (enc s131) 75) :: (.own s129 4 1 (encs (List.replicate n32 false))) :: (.own s131 4 1 (encs (List.replicate n27 false))) :: (.blk b25 [pv b12 0] 97) :: (.rows (α := Bool) 4 rs14) :: (.own s13 75 1 (encs rs14)) :: (.own s18 3 1 (encs r10.left)) :: (.blk b12 (enc (GraphR.mk r10 s13 s18 s20)) 101) :: (.own Sl.nil 3 1 (encs ([] : List Int))) :: (.own Sl.nil 3 1 (encs ([] : List Int))) :: L) (sk1 (sk1 (sk1 (sk1 (sk1 (sc1 (sk1 (sk1 (sk1 (sk1 (sk1 (sk1 (sk1 (.refl _)))))))))))))) ?_
       exact At.meetN (b121, Sl.nil, ([] : List Bool), b102, s129, (List.replicate n32 false), s131, (List.replicate n27 false)) (FLe.refl _) ⟨rfl, rfl, rfl, rfl, rfl, trivial⟩ rfl h53
      exact trivial
     exact trivial
    exact trivial
   exact trivial
  refine HdStep.c (fun inv => ?_) ?_
  ·refine Lst.addNil 4 1 ?_
   refine Lst.alloc (cs := enc Sl.nil) rfl rfl (by decide) Try.zeroValue75 rfl (fun b132 => ?_)
   refine Lst.nil ?_
   refine At.hd inv (fun w h => (h.weaken (FLe.refl _)).sublist (sc1 (sc1 (sk1 (sk1 (sk1 (sk1 (sk1 (sk1 (sk1 (.refl _))))))))))) ?_
   refine HdJ.step [1, 3, 4] (by kernel_rfl) rfl ?_
   refine HdStep.c (fun inv => ?_) ?_
   ·have g133 := mkLen_some h28
    refine Lst.make (α := Bool) (z0 := false) (k := n27) rfl rfl (by decide) (congrArg some (congrArg (Value.int .i64) g133.1)) (congrArg some (congrArg (Value.int .i64) g133.1)) Try.runUnderlying75 Try.typeInfo4 rfl rfl rfl rfl rfl g133.2 rfl (fun s134 => ?_)
    refine Lst.nil ?_
    refine At.hd inv (fun w h => (h.weaken (FLe.refl _)).sublist (sc1 (sc1 (sc1 (sk1 (sk1 (sk1 (sk1 (sk1 (sk1 (sk1 (.refl _)))))))))))) ?_
    refine HdJ.step [3, 4] (by kernel_rfl) rfl ?_
    refine HdStep.c (fun inv => ?_) ?_
    ·have g135 := mkLen_some h33
     refine Lst.make (α := Bool) (z0 := false) (k := n32) rfl rfl (by decide) (congrArg some (congrArg (Value.int .i64) g135.1)) (congrArg some (congrArg (Value.int .i64) g135.1)) Try.runUnderlying75 Try.typeInfo4 rfl rfl rfl rfl rfl g135.2 rfl (fun s136 => ?_)
     refine Lst.nil ?_
     refine At.hd inv (fun w h => (h.weaken (FLe.refl _)).sublist (sc1 (sc1 (sc1 (sc1 (sk1 (sk1 (sk1 (sk1 (sk1 (sk1 (sk1 (.refl _))))))))))))) ?_
     refine HdJ.step [4] (by kernel_rfl) rfl ?_
     refine HdStep.c (fun inv => ?_) ?_
     ·refine Lst.addNil 4 1 ?_
      refine Lst.alloc (cs := enc Sl.nil) rfl rfl (by decide) Try.zeroValue75 rfl (fun b137 => ?_)
      refine Lst.nil ?_
      refine At.hd inv (fun w h => (h.weaken (FLe.refl _)).sublist (sc1 (sc1 (sc1 (sc1 (sc1 (sc1 (sk1 (sk1 (sk1 (sk1 (sk1 (sk1 (sk1 (.refl _))))))))))))))) ?_
      refine HdJ.step [6] (by kernel_rfl) rfl ?_
      refine HdStep.c (fun inv => ?_) ?_
      ·refine Lst.store (i := 0) rfl rfl rfl rfl rfl Try.sizeOf75 (vs := [Sl.v s134]) rfl rfl rfl (cs' := enc s134) (Put.here (vs := [Sl.v s134]) rfl) (L' := (.blk b137 (enc s134) 75) :: (.own Sl.nil 4 1 (encs ([] : List Bool))) :: (.own s136 4 1 (encs (List.replicate n32 false))) :: (.own s134 4 1 (encs (List.replicate n27 false))) :: (.blk b132 (enc Sl.nil) 75) :: (.own Sl.nil 4 1 (encs ([] : List Bool))) :: (.blk b25 [pv b12 0] 97) :: (.rows (α := Bool) 4 rs14) :: (.own s13 75 1 (encs rs14)) :: (.own s18 3 1 (encs r10.left)) :: (.blk b12 (enc (GraphR.mk r10 s13 s18 s20)) 101) :: (.own Sl.nil 3 1 (encs ([] : List Int))) :: (.own Sl.nil 3 1 (encs ([] : List Int))) :: L) rfl ?_
       refine Lst.nil ?_
       refine At.hd inv (fun w h => (h.weaken (FLe.refl _)).sublist (sc1 (sc1 (sc1 (sc1 (sc1 (sc1 (sk1 (sk1 (sk1 (sk1 (sk1 (sk1 (sk1 (.refl _))))))))))))))) ?_
       refine HdJ.done (by kernel_rfl) ?_
       refine At.front (i := 5) rfl rfl ?_
       refine At.front (i := 5) rfl (L' := (.blk b132 (enc Sl.nil) 75) :: (.own Sl.nil 4 1 (encs ([] : List Bool))) :: (.blk b137 (enc s134) 75) :: (.own Sl.nil 4 1 (encs ([] : List Bool))) :: (.own s136 4 1 (encs (List.replicate n32 false))) :: (.own s134 4 1 (encs (List.replicate n27 false))) :: (.blk b25 [pv b12 0] 97) :: (.rows (α := Bool) 4 rs14) :: (.own s13 75 1 (encs rs14)) :: (.own s18 3 1 (encs r10.left)) :: (.blk b12 (enc (GraphR.mk r10 s13 s18 s20)) 101) :: (.own Sl.nil 3 1 (encs ([] : List Int))) :: (.own Sl.nil 3 1 (encs ([] : List Int))) :: L) rfl ?_
       refine At.less (L' := (.blk b132 (enc Sl.nil) 75) :: (.own Sl.nil 4 1 (encs ([] : List Bool))) :: (.blk b137 (enc s134) 75) :: (.own s136 4 1 (encs (List.replicate n32 false))) :: (.own s134 4 1 (encs (List.replicate n27 false))) :: (.blk b25 [pv b12 0] 97) :: (.rows (α := Bool) 4 rs14) :: (.own s13 75 1 (encs rs14)) :: (.own s18 3 1 (encs r10.left)) :: (.blk b12 (enc (GraphR.mk r10 s13 s18 s20)) 101) :: (.own Sl.nil 3 1 (encs ([] : List Int))) :: (.own Sl.nil 3 1 (encs ([] : List Int))) :: L) (sk1 (sk1 (sk1 (sc1 (sk1 (sk1 (sk1 (sk1 (sk1 (sk1 (sk1 (sk1 (sk1 (.refl _)))))))))))))) ?_
       exact At.meetN (b132, Sl.nil, ([] : List Bool), b137, s136, (List.replicate n32 false), s134, (List.replicate n27 false)) (FLe.refl _) ⟨rfl, rfl, rfl, rfl, rfl, trivial⟩ rfl h53
      exact trivial
     exact trivial
    refine HdStep.c (fun inv => ?_) ?_
    ·refine Lst.addNil 4 1 ?_
     refine Lst.alloc (cs := enc Sl.nil) rfl rfl (by decide) Try.zeroValue75 rfl (fun b138 => ?_)
     refine Lst.nil ?_
     refine At.hd inv (fun w h => (h.weaken (FLe.refl _)).sublist (sc1 (sc1 (sc1 (sc1 (sc1 (sk1 (sk1 (sk1 (sk1 (sk1 (sk1 (sk1 (.refl _)))))))))))))) ?_
     refine HdJ.step [3, 6] (by kernel_rfl) rfl ?_
     refine HdStep.c (fun inv => ?_) ?_
     ·have g139 := mkLen_some h33
      refine Lst.make (α := Bool) (z0 := false) (k := n32) rfl rfl (by decide) (congrArg some (congrArg (Value.int .i64) g139.1)) (congrArg some (congrArg (Value.int .i64) g139.1)) Try.runUnderlying75 Try.typeInfo4 rfl rfl rfl rfl rfl g139.2 rfl (fun s140 => ?_)
      refine Lst.nil ?_
      refine At.hd inv (fun w h => (h.weaken (FLe.refl _)).sublist (sc1 (sc1 (sc1 (sc1 (sc1 (sc1 (sk1 (sk1 (sk1 (sk1 (sk1 (sk1 (sk1 (.refl _))))))))))))))) ?_
      refine HdJ.step [6] (by kernel_rfl) rfl ?_
      refine HdStep.c (fun inv => ?_) ?_
      ·refine Lst.store (i := 1) rfl rfl rfl rfl rfl Try.sizeOf75 (vs := [Sl.v s134]) rfl rfl rfl (cs' := enc s134) (Put.here (vs := [Sl.v s134]) rfl) (L' := (.own s140 4 1 (encs (List.replicate n32 false))) :: (.blk b138 (enc s134) 75) :: (.own Sl.nil 4 1 (encs ([] : List Bool))) :: (.own s134 4 1 (encs (List.replicate n27 false))) :: (.blk b132 (enc Sl.nil) 75) :: (.own Sl.nil 4 1 (encs ([] : List Bool))) :: (.blk b25 [pv b12 0] 97) :: (.rows (α := Bool) 4 rs14) :: (.own s13 75 1 (encs rs14)) :: (.own s18 3 1 (encs r10.left)) :: (.blk b12 (enc (GraphR.mk r10 s13 s18 s20)) 101) :: (.own Sl.nil 3 1 (encs ([] : List Int))) :: (.own Sl.nil 3 1 (encs ([] : List Int))) :: L) rfl ?_
       refine Lst.nil ?_
       refine At.hd inv (fun w h => (h.weaken (FLe.refl _)).sublist (sc1 (sc1 (sc1 (sc1 (sc1 (sc1 (sk1 (sk1 (sk1 (sk1 (sk1 (sk1 (sk1 (.refl _))))))))))))))) ?_
       refine HdJ.done (by kernel_rfl) ?_
       refine At.front (i := 1) rfl rfl ?_
       refine At.front (i := 5) rfl rfl ?_
       refine At.front (i := 5) rfl (L' := (.blk b132 (enc Sl.nil) 75) :: (.own Sl.nil 4 1 (encs ([] : List Bool))) :: (.blk b138 (enc s134) 75) :: (.own s140 4 1 (encs (List.replicate n32 false))) :: (.own Sl.nil 4 1 (encs ([] : List Bool))) :: (.own s134 4 1 (encs (List.replicate n27 false))) :: (.blk b25 [pv b12 0] 97) :: (.rows (α := Bool) 4 rs14) :: (.own s13 75 1 (encs rs14)) :: (.own s18 3 1 (encs r10.left)) :: (.blk b12 (enc (GraphR.mk r10 s13 s18 s20)) 101) :: (.own Sl.nil 3 1 (encs ([] : List Int))) :: (.own Sl.nil 3 1 (encs ([] : List Int))) :: L) rfl ?_
       refine At.less (L' := (.blk b132 (enc Sl.nil) 75) :: (.own Sl.nil 4 1 (encs ([] : List Bool))) :: (.blk b138 (enc s134) 75) :: (.own s140 4 1 (encs (List.replicate n32 false))) :: (.own s134 4 1 (encs (List.replicate n27 false))) :: (.blk b25 [pv b12 0] 97) :: (.rows (α := Bool) 4 rs14) :: (.own s13 75 1 (encs rs14)) :: (.own s18 3 1 (encs r10.left)) :: (.blk b12 (enc (GraphR.mk r10 s13 s18 s20)) 101) :: (.own Sl.nil 3 1 (encs ([] : List Int))) :: (.own Sl.nil 3 1 (encs ([] : List Int))) :: L) (sk1 (sk1 (sk1 (sk1 (sc1 (sk1 (sk1 (sk1 (sk1 (sk1 (sk1 (sk1 (sk1 (.refl _)))))))))))))) ?_
       exact At.meetN (b132, Sl.nil, ([] : List Bool), b138, s140, (List.replicate n32 false), s134, (List.replicate n27 false)) (FLe.refl _) ⟨rfl, rfl, rfl, rfl, rfl, trivial⟩ rfl h53
      exact trivial
     refine HdStep.c (fun inv => ?_) ?_
     ·refine Lst.store (i := 0) rfl rfl rfl rfl rfl Try.sizeOf75 (vs := [Sl.v s134]) rfl rfl rfl (cs' := enc s134) (Put.here (vs := [Sl.v s134]) rfl) (L' := (.blk b138 (enc s134) 75) :: (.own Sl.nil 4 1 (encs ([] : List Bool))) :: (.own s134 4 1 (encs (List.replicate n27 false))) :: (.blk b132 (enc Sl.nil) 75) :: (.own Sl.nil 4 1 (encs ([] : List Bool))) :: (.blk b25 [pv b12 0] 97) :: (.rows (α := Bool) 4 rs14) :: (.own s13 75 1 (encs rs14)) :: (.own s18 3 1 (encs r10.left)) :: (.blk b12 (enc (GraphR.mk r10 s13 s18 s20)) 101) :: (.own Sl.nil 3 1 (encs ([] : List Int))) :: (.own Sl.nil 3 1 (encs ([] : List Int))) :: L) rfl ?_
      refine Lst.nil ?_
      refine At.hd inv (fun w h => (h.weaken (FLe.refl _)).sublist (sc1 (sc1 (sc1 (sc1 (sc1 (sk1 (sk1 (sk1 (sk1 (sk1 (sk1 (sk1 (.refl _)))))))))))))) ?_
      refine HdJ.step [3] (by kernel_rfl) rfl ?_
      refine HdStep.c (fun inv => ?_) ?_
      ·have g141 := mkLen_some h33
       refine Lst.make (α := Bool) (z0 := false) (k := n32) rfl rfl (by decide) (congrArg some (congrArg (Value.int .i64) g141.1)) (congrArg some (congrArg (Value.int .i64) g141.1)) Try.runUnderlying75 Try.typeInfo4 rfl rfl rfl rfl rfl g141.2 rfl (fun s142 => ?_)
       refine Lst.nil ?_
       refine At.hd inv (fun w h => (h.weaken (FLe.refl _)).sublist (sc1 (sc1 (sc1 (sc1 (sc1 (sc1 (sk1 (sk1 (sk1 (sk1 (sk1 (sk1 (sk1 (.refl _))))))))))))))) ?_
       refine HdJ.done (by kernel_rfl) ?_
       refine At.front (i := 1) rfl rfl ?_
       refine At.front (i := 5) rfl rfl ?_
       refine At.front (i := 5) rfl (L' := (.blk b132 (enc Sl.nil) 75) :: (.own Sl.nil 4 1 (encs ([] : List Bool))) :: (.blk b138 (enc s134) 75) :: (.own s142 4 1 (encs (List.replicate n32 false))) :: (.own Sl.nil 4 1 (encs ([] : List Bool))) :: (.own s134 4 1 (encs (List.replicate n27 false))) :: (.blk b25 [pv b12 0] 97) :: (.rows (α := Bool) 4 rs14) :: (.own s13 75 1 (encs rs14)) :: (.own s18 3 1 (encs r10.left)) :: (.blk b12 (enc (GraphR.mk r10 s13 s18 s20)) 101) :: (.own Sl.nil 3 1 (encs ([] : List Int))) :: (.own Sl.nil 3 1 (encs ([] : List Int))) :: L) rfl ?_
       refine At.less (L' := (.blk b132 (enc Sl.nil) 75) :: (.own Sl.nil 4 1 (encs ([] : List Bool))) :: (.blk b138 (enc s134) 75) :: (.own s142 4 1 (encs (List.replicate n32 false))) :: (.own s134 4 1 (encs (List.replicate n27 false))) :: (.blk b25 [pv b12 0] 97) :: (.rows (α := Bool) 4 rs14) :: (.own s13 75 1 (encs rs14)) :: (.own s18 3 1 (encs r10.left)) :: (.blk b12 (enc (GraphR.mk r10 s13 s18 s20)) 101) :: (.own Sl.nil 3 1 (encs ([] : List Int))) :: (.own Sl.nil 3 1 (encs ([] : List Int))) :: L) (sk1 (sk1 (sk1 (sk1 (sc1 (sk1 (sk1 (sk1 (sk1 (sk1 (sk1 (sk1 (sk1 (.refl _)))))))))))))) ?_
       exact At.meetN (b132, Sl.nil, ([] : List Bool), b138, s142, (List.replicate n32 false), s134, (List.replicate n27 false)) (FLe.refl _) ⟨rfl, rfl, rfl, rfl, rfl, trivial⟩ rfl h53
      exact trivial
     exact trivial
    exact trivial
   refine HdStep.c (fun inv => ?_) ?_
   ·have g143 := mkLen_some h33
    refine Lst.make (α := Bool) (z0 := false) (k := n32) rfl rfl (by decide) (congrArg some (congrArg (Value.int .i64) g143.1)) (congrArg some (congrArg (Value.int .i64) g143.1)) Try.runUnderlying75 Try.typeInfo4 rfl rfl rfl rfl rfl g143.2 rfl (fun s144 => ?_)
    refine Lst.nil ?_
    refine At.hd inv (fun w h => (h.weaken (FLe.refl _)).sublist (sc1 (sc1 (sc1 (sk1 (sk1 (sk1 (sk1 (sk1 (sk1 (sk1 (.refl _)))))))))))) ?_
    refine HdJ.step [1, 4] (by kernel_rfl) rfl ?_
    refine HdStep.c (fun inv => ?_) ?_
    ·have g145 := mkLen_some h28
     refine Lst.make (α := Bool) (z0 := false) (k := n27) rfl rfl (by decide) (congrArg some (congrArg (Value.int .i64) g145.1)) (congrArg some (congrArg (Value.int .i64) g145.1)) Try.runUnderlying75 Try.typeInfo4 rfl rfl rfl rfl rfl g145.2 rfl (fun s146 => ?_)
     refine Lst.nil ?_
     refine At.hd inv (fun w h => (h.weaken (FLe.refl _)).sublist (sc1 (sc1 (sc1 (sc1 (sk1 (sk1 (sk1 (sk1 (sk1 (sk1 (sk1 (.refl _))))))))))))) ?_
     refine HdJ.step [4] (by kernel_rfl) rfl ?_
     refine HdStep.c (fun inv => ?_) ?_
     ·refine Lst.addNil 4 1 ?_
      refine Lst.alloc (cs := enc Sl.nil) rfl rfl (by decide) Try.zeroValue75 rfl (fun b147 => ?_)
      refine Lst.nil ?_
      refine At.hd inv (fun w h => (h.weaken (FLe.refl _)).sublist (sc1 (sc1 (sc1 (sc1 (sc1 (sc1 (sk1 (sk1 (sk1 (sk1 (sk1 (sk1 (sk1 (.refl _))))))))))))))) ?_
      refine HdJ.step [6] (by kernel_rfl) rfl ?_
      refine HdStep.c (fun inv => ?_) ?_
      ·refine Lst.store (i := 0) rfl rfl rfl rfl rfl Try.sizeOf75 (vs := [Sl.v s146]) rfl rfl rfl (cs' := enc s146) (Put.here (vs := [Sl.v s146]) rfl) (L' := (.blk b147 (enc s146) 75) :: (.own Sl.nil 4 1 (encs ([] : List Bool))) :: (.own s146 4 1 (encs (List.replicate n27 false))) :: (.own s144 4 1 (encs (List.replicate n32 false))) :: (.blk b132 (enc Sl.nil) 75) :: (.own Sl.nil 4 1 (encs ([] : List Bool))) :: (.blk b25 [pv b12 0] 97) :: (.rows (α := Bool) 4 rs14) :: (.own s13 75 1 (encs rs14)) :: (.own s18 3 1 (encs r10.left)) :: (.blk b12 (enc (GraphR.mk r10 s13 s18 s20)) 101) :: (.own Sl.nil 3 1 (encs ([] : List Int))) :: (.own Sl.nil 3 1 (encs ([] : List Int))) :: L) rfl ?_
       refine Lst.nil ?_
       refine At.hd inv (fun w h => (h.weaken (FLe.refl _)).sublist (sc1 (sc1 (sc1 (sc1 (sc1 (sc1 (sk1 (sk1 (sk1 (sk1 (sk1 (sk1 (sk1 (.refl _))))))))))))))) ?_
       refine HdJ.done (by kernel_rfl) ?_
       refine At.front (i := 3) rfl rfl ?_
       refine At.front (i := 1) rfl rfl ?_
       refine At.front (i := 5) rfl (L' := (.own Sl.nil 4 1 (encs ([] : List Bool))) :: (.blk b147 (enc s146) 75) :: (.own s144 4 1 (encs (List.replicate n32 false))) :: (.own Sl.nil 4 1 (encs ([] : List Bool))) :: (.own s146 4 1 (encs (List.replicate n27 false))) :: (.blk b132 (enc Sl.nil) 75) :: (.blk b25 [pv b12 0] 97) :: (.rows (α := Bool) 4 rs14) :: (.own s13 75 1 (encs rs14)) :: (.own s18 3 1 (encs r10.left)) :: (.blk b12 (enc (GraphR.mk r10 s13 s18 s20)) 101) :: (.own Sl.nil 3 1 (encs ([] : List Int))) :: (.own Sl.nil 3 1 (encs ([] : List Int))) :: L) rfl ?_
       refine At.front (i := 5) rfl (L' := (.blk b132 (enc Sl.nil) 75) :: (.own Sl.nil 4 1 (encs ([] : List Bool))) :: (.blk b147 (enc s146) 75) :: (.own s144 4 1 (encs (List.replicate n32 false))) :: (.own Sl.nil 4 1 (encs ([] : List Bool))) :: (.own s146 4 1 (encs (List.replicate n27 false))) :: (.blk b25 [pv b12 0] 97) :: (.rows (α := Bool) 4 rs14) :: (.own s13 75 1 (encs rs14)) :: (.own s18 3 1 (encs r10.left)) :: (.blk b12 (enc (GraphR.mk r10 s13 s18 s20)) 101) :: (.own Sl.nil 3 1 (encs ([] : List Int))) :: (.own Sl.nil 3 1 (encs ([] : List Int))) :: L) rfl ?_
       refine At.less (L' := (.blk b132 (enc Sl.nil) 75) :: (.own Sl.nil 4 1 (encs ([] : List Bool))) :: (.blk b147 (enc s146) 75) :: (.own s144 4 1 (encs (List.replicate n32 false))) :: (.own s146 4 1 (encs (List.replicate n27 false))) :: (.blk b25 [pv b12 0] 97) :: (.rows (α := Bool) 4 rs14) :: (.own s13 75 1 (encs rs14)) :: (.own s18 3 1 (encs r10.left)) :: (.blk b12 (enc (GraphR.mk r10 s13 s18 s20)) 101) :: (.own Sl.nil 3 1 (encs ([] : List Int))) :: (.own Sl.nil 3 1 (encs ([] : List Int))) :: L) (sk1 (sk1 (sk1 (sk1 (sc1 (sk1 (sk1 (sk1 (sk1 (sk1 (sk1 (sk1 (sk1 (.refl _)))))))))))))) ?_
       exact At.meetN (b132, Sl.nil, ([] : List Bool), b147, s144, (List.replicate n32 false), s146, (List.replicate n27 false)) (FLe.refl _) ⟨rfl, rfl, rfl, rfl, rfl, trivial⟩ rfl h53
      exact trivial
     exact trivial
    refine HdStep.c (fun inv => ?_) ?_
    ·refine Lst.addNil 4 1 ?_
     refine Lst.alloc (cs := enc Sl.nil) rfl rfl (by decide) Try.zeroValue75 rfl (fun b148 => ?_)
     refine Lst.nil ?_
     refine At.hd inv (fun w h => (h.weaken (FLe.refl _)).sublist (sc1 (sc1 (sc1 (sc1 (sc1 (sk1 (sk1 (sk1 (sk1 (sk1 (sk1 (sk1 (.refl _)))))))))))))) ?_
     refine HdJ.step [1] (by kernel_rfl) rfl ?_
     refine HdStep.c (fun inv => ?_) ?_
     ·have g149 := mkLen_some h28
      refine Lst.make (α := Bool) (z0 := false) (k := n27) rfl rfl (by decide) (congrArg some (congrArg (Value.int .i64) g149.1)) (congrArg some (congrArg (Value.int .i64) g149.1)) Try.runUnderlying75 Try.typeInfo4 rfl rfl rfl rfl rfl g149.2 rfl (fun s150 => ?_)
      refine Lst.nil ?_
      refine At.hd inv (fun w h => (h.weaken (FLe.refl _)).sublist (sc1 (sc1 (sc1 (sc1 (sc1 (sc1 (sk1 (sk1 (sk1 (sk1 (sk1 (sk1 (sk1 (.refl _))))))))))))))) ?_
      refine HdJ.step [6] (by kernel_rfl) rfl ?_
      refine HdStep.c (fun inv => ?_) ?_
      ·refine Lst.store (i := 1) rfl rfl rfl rfl rfl Try.sizeOf75 (vs := [Sl.v s150]) rfl rfl rfl (cs' := enc s150) (Put.here (vs := [Sl.v s150]) rfl) (L' := (.own s150 4 1 (encs (List.replicate n27 false))) :: (.blk b148 (enc s150) 75) :: (.own Sl.nil 4 1 (encs ([] : List Bool))) :: (.own s144 4 1 (encs (List.replicate n32 false))) :: (.blk b132 (enc Sl.nil) 75) :: (.own Sl.nil 4 1 (encs ([] : List Bool))) :: (.blk b25 [pv b12 0] 97) :: (.rows (α := Bool) 4 rs14) :: (.own s13 75 1 (encs rs14)) :: (.own s18 3 1 (encs r10.left)) :: (.blk b12 (enc (GraphR.mk r10 s13 s18 s20)) 101) :: (.own Sl.nil 3 1 (encs ([] : List Int))) :: (.own Sl.nil 3 1 (encs ([] : List Int))) :: L) rfl ?_
       refine Lst.nil ?_
       refine At.hd inv (fun w h => (h.weaken (FLe.refl _)).sublist (sc1 (sc1 (sc1 (sc1 (sc1 (sc1 (sk1 (sk1 (sk1 (sk1 (sk1 (sk1 (sk1 (.refl _))))))))))))))) ?_
       refine HdJ.done (by kernel_rfl) ?_
       refine At.front (i := 3) rfl rfl ?_
       refine At.front (i := 2) rfl rfl ?_
       refine At.front (i := 5) rfl (L' := (.own Sl.nil 4 1 (encs ([] : List Bool))) :: (.blk b148 (enc s150) 75) :: (.own s144 4 1 (encs (List.replicate n32 false))) :: (.own s150 4 1 (encs (List.replicate n27 false))) :: (.own Sl.nil 4 1 (encs ([] : List Bool))) :: (.blk b132 (enc Sl.nil) 75) :: (.blk b25 [pv b12 0] 97) :: (.rows (α := Bool) 4 rs14) :: (.own s13 75 1 (encs rs14)) :: (.own s18 3 1 (encs r10.left)) :: (.blk b12 (enc (GraphR.mk r10 s13 s18 s20)) 101) :: (.own Sl.nil 3 1 (encs ([] : List Int))) :: (.own Sl.nil 3 1 (encs ([] : List Int))) :: L) rfl ?_
       refine At.front (i := 5) rfl (L' := (.blk b132 (enc Sl.nil) 75) :: (.own Sl.nil 4 1 (encs ([] : List Bool))) :: (.blk b148 (enc s150) 75) :: (.own s144 4 1 (encs (List.replicate n32 false))) :: (.own s150 4 1 (encs (List.replicate n27 false))) :: (.own Sl.nil 4 1 (encs ([] : List Bool))) :: (.blk b25 [pv b12 0] 97) :: (.rows (α := Bool) 4 rs14) :: (.own s13 75 1 (encs rs14)) :: (.own s18 3 1 (encs r10.left)) :: (.blk b12 (enc (GraphR.mk r10 s13 s18 s20)) 101) :: (.own Sl.nil 3 1 (encs ([] : List Int))) :: (.own Sl.nil 3 1 (encs ([] : List Int))) :: L) rfl ?_
       refine At.less (L' := (.blk b132 (enc Sl.nil) 75) :: (.own Sl.nil 4 1 (encs ([] : List Bool))) :: (.blk b148 (enc s150) 75) :: (.own s144 4 1 (encs (List.replicate n32 false))) :: (.own s150 4 1 (encs (List.replicate n27 false))) :: (.blk b25 [pv b12 0] 97) :: (.rows (α := Bool) 4 rs14) :: (.own s13 75 1 (encs rs14)) :: (.own s18 3 1 (encs r10.left)) :: (.blk b12 (enc (GraphR.mk r10 s13 s18 s20)) 101) :: (.own Sl.nil 3 1 (encs ([] : List Int))) :: (.own Sl.nil 3 1 (encs ([] : List Int))) :: L) (sk1 (sk1 (sk1 (sk1 (sk1 (sc1 (sk1 (sk1 (sk1 (sk1 (sk1 (sk1 (sk1 (.refl _)))))))))))))) ?_
       exact At.meetN (b132, Sl.nil, ([] : List Bool), b148, s144, (List.replicate n32 false), s150, (List.replicate n27 false)) (FLe.refl _) ⟨rfl, rfl, rfl, rfl, rfl, trivial⟩ rfl h53
      exact trivial
     exact trivial
    exact trivial
   refine HdStep.c (fun inv => ?_) ?_
   ·refine Lst.addNil 4 1 ?_
    refine Lst.alloc (cs := enc Sl.nil) rfl rfl (by decide) Try.zeroValue75 rfl (fun b151 => ?_)
    refine Lst.nil ?_
    refine At.hd inv (fun w h => (h.weaken (FLe.refl _)).sublist (sc1 (sc1 (sc1 (sc1 (sk1 (sk1 (sk1 (sk1 (sk1 (sk1 (sk1 (.refl _))))))))))))) ?_
    refine HdJ.step [1, 3] (by kernel_rfl) rfl ?_
    refine HdStep.c (fun inv => ?_) ?_
    ·have g152 := mkLen_some h28
     refine Lst.make (α := Bool) (z0 := false) (k := n27) rfl rfl (by decide) (congrArg some (congrArg (Value.int .i64) g152.1)) (congrArg some (congrArg (Value.int .i64) g152.1)) Try.runUnderlying75 Try.typeInfo4 rfl rfl rfl rfl rfl g152.2 rfl (fun s153 => ?_)
     refine Lst.nil ?_
     refine At.hd inv (fun w h => (h.weaken (FLe.refl _)).sublist (sc1 (sc1 (sc1 (sc1 (sc1 (sk1 (sk1 (sk1 (sk1 (sk1 (sk1 (sk1 (.refl _)))))))))))))) ?_
     refine HdJ.step [3, 6] (by kernel_rfl) rfl ?_
     refine HdStep.c (fun inv => ?_) ?_
     ·have g154 := mkLen_some h33
      refine Lst.make (α := Bool) (z0 := false) (k := n32) rfl rfl (by decide) (congrArg some (congrArg (Value.int .i64) g154.1)) (congrArg some (congrArg (Value.int .i64) g154.1)) Try.runUnderlying75 Try.typeInfo4 rfl rfl rfl rfl rfl g154.2 rfl (fun s155 => ?_)
      refine Lst.nil ?_
      refine At.hd inv (fun w h => (h.weaken (FLe.refl _)).sublist (sc1 (sc1 (sc1 (sc1 (sc1 (sc1 (sk1 (sk1 (sk1 (sk1 (sk1 (sk1 (sk1 (.refl _))))))))))))))) ?_
      refine HdJ.step [6] (by kernel_rfl) rfl ?_
      refine HdStep.c (fun inv => ?_) ?_
      ·refine Lst.store (i := 2) rfl rfl rfl rfl rfl Try.sizeOf75 (vs := [Sl.v s153]) rfl rfl rfl (cs' := enc s153) (Put.here (vs := [Sl.v s153]) rfl) (L' := (.own s155 4 1 (encs (List.replicate n32 false))) :: (.own s153 4 1 (encs (List.replicate n27 false))) :: (.blk b151 (enc s153) 75) :: (.own Sl.nil 4 1 (encs ([] : List Bool))) :: (.blk b132 (enc Sl.nil) 75) :: (.own Sl.nil 4 1 (encs ([] : List Bool))) :: (.blk b25 [pv b12 0] 97) :: (.rows (α := Bool) 4 rs14) :: (.own s13 75 1 (encs rs14)) :: (.own s18 3 1 (encs r10.left)) :: (.blk b12 (enc (GraphR.mk r10 s13 s18 s20)) 101) :: (.own Sl.nil 3 1 (encs ([] : List Int))) :: (.own Sl.nil 3 1 (encs ([] : List Int))) :: L) rfl ?_
       refine Lst.nil ?_
       refine At.hd inv (fun w h => (h.weaken (FLe.refl _)).sublist (sc1 (sc1 (sc1 (sc1 (sc1 (sc1 (sk1 (sk1 (sk1 (sk1 (sk1 (sk1 (sk1 (.refl _))))))))))))))) ?_
       refine HdJ.done (by kernel_rfl) ?_
       refine At.front (i := 2) rfl rfl ?_
       refine At.front (i := 5) rfl rfl ?_
       refine At.front (i := 5) rfl (L' := (.blk b132 (enc Sl.nil) 75) :: (.own Sl.nil 4 1 (encs ([] : List Bool))) :: (.blk b151 (enc s153) 75) :: (.own s155 4 1 (encs (List.replicate n32 false))) :: (.own s153 4 1 (encs (List.replicate n27 false))) :: (.own Sl.nil 4 1 (encs ([] : List Bool))) :: (.blk b25 [pv b12 0] 97) :: (.rows (α := Bool) 4 rs14) :: (.own s13 75 1 (encs rs14)) :: (.own s18 3 1 (encs r10.left)) :: (.blk b12 (enc (GraphR.mk r10 s13 s18 s20)) 101) :: (.own Sl.nil 3 1 (encs ([] : List Int))) :: (.own Sl.nil 3 1 (encs ([] : List Int))) :: L) rfl ?_
       refine At.less (L' := (.blk b132 (enc Sl.nil) 75) :: (.own Sl.nil 4 1 (encs ([] : List Bool))) :: (.blk b151 (enc s153) 75) :: (.own s155 4 1 (encs (List.replicate n32 false))) :: (.own s153 4 1 (encs (List.replicate n27 false))) :: (.blk b25 [pv b12 0] 97) :: (.rows (α := Bool) 4 rs14) :: (.own s13 75 1 (encs rs14)) :: (.own s18 3 1 (encs r10.left)) :: (.blk b12 (enc (GraphR.mk r10 s13 s18 s20)) 101) :: (.own Sl.nil 3 1 (encs ([] : List Int))) :: (.own Sl.nil 3 1 (encs ([] : List Int))) :: L) (sk1 (sk1 (sk1 (sk1 (sk1 (sc1 (sk1 (sk1 (sk1 (sk1 (sk1 (sk1 (sk1 (.refl _)))))))))))))) ?_
       exact At.meetN (b132, Sl.nil, ([] : List Bool), b151, s155, (List.replicate n32 false), s153, (List.replicate n27 false)) (FLe.refl _) ⟨rfl, rfl, rfl, rfl, rfl, trivial⟩ rfl h53
      exact trivial
     refine HdStep.c (fun inv => ?_) ?_
     ·refine Lst.store (i := 1) rfl rfl rfl rfl rfl Try.sizeOf75 (vs := [Sl.v s153]) rfl rfl rfl (cs' := enc s153) (Put.here (vs := [Sl.v s153]) rfl) (L' := (.own s153 4 1 (encs (List.replicate n27 false))) :: (.blk b151 (enc s153) 75) :: (.own Sl.nil 4 1 (encs ([] : List Bool))) :: (.blk b132 (enc Sl.nil) 75) :: (.own Sl.nil 4 1 (encs ([] : List Bool))) :: (.blk b25 [pv b12 0] 97) :: (.rows (α := Bool) 4 rs14) :: (.own s13 75 1 (encs rs14)) :: (.own s18 3 1 (encs r10.left)) :: (.blk b12 (enc (GraphR.mk r10 s13 s18 s20)) 101) :: (.own Sl.nil 3 1 (encs ([] : List Int))) :: (.own Sl.nil 3 1 (encs ([] : List Int))) :: L) rfl ?_
      refine Lst.nil ?_
      refine At.hd inv (fun w h => (h.weaken (FLe.refl _)).sublist (sc1 (sc1 (sc1 (sc1 (sc1 (sk1 (sk1 (sk1 (sk1 (sk1 (sk1 (sk1 (.refl _)))))))))))))) ?_
      refine HdJ.step [3] (by kernel_rfl) rfl ?_
      refine HdStep.c (fun inv => ?_) ?_
      ·have g156 := mkLen_some h33
       refine Lst.make (α := Bool) (z0 := false) (k := n32) rfl rfl (by decide) (congrArg some (congrArg (Value.int .i64) g156.1)) (congrArg some (congrArg (Value.int .i64) g156.1)) Try.runUnderlying75 Try.typeInfo4 rfl rfl rfl rfl rfl g156.2 rfl (fun s157 => ?_)
       refine Lst.nil ?_
       refine At.hd inv (fun w h => (h.weaken (FLe.refl _)).sublist (sc1 (sc1 (sc1 (sc1 (sc1 (sc1 (sk1 (sk1 (sk1 (sk1 (sk1 (sk1 (sk1 (.refl _))))))))))))))) ?_
       refine HdJ.done (by kernel_rfl) ?_
       refine At.front (i := 2) rfl rfl ?_
       refine At.front (i := 5) rfl rfl ?_
       refine At.front (i := 5) rfl (L' := (.blk b132 (enc Sl.nil) 75) :: (.own Sl.nil 4 1 (encs ([] : List Bool))) :: (.blk b151 (enc s153) 75) :: (.own s157 4 1 (encs (List.replicate n32 false))) :: (.own s153 4 1 (encs (List.replicate n27 false))) :: (.own Sl.nil 4 1 (encs ([] : List Bool))) :: (.blk b25 [pv b12 0] 97) :: (.rows (α := Bool) 4 rs14) :: (.own s13 75 1 (encs rs14)) :: (.own s18 3 1 (encs r10.left)) :: (.blk b12 (enc (GraphR.mk r10 s13 s18 s20)) 101) :: (.own Sl.nil 3 1 (encs ([] : List Int))) :: (.own Sl.nil 3 1 (encs ([] : List Int))) :: L) rfl ?_
       refine At.less (L' := (.blk b132 (enc Sl.nil) 75) :: (.own Sl.nil 4 1 (encs ([] : List Bool))) :: (.blk b151 (enc s153) 75) :: (.own s157 4 1 (encs (List.replicate n32 false))) :: (.own s153 4 1 (encs (List.replicate n27 false))) :: (.blk b25 [pv b12 0] 97) :: (.rows (α := Bool) 4 rs14) :: (.own s13 75 1 (encs rs14)) :: (.own s18 3 1 (encs r10.left)) :: (.blk b12 (enc (GraphR.mk r10 s13 s18 s20)) 101) :: (.own Sl.nil 3 1 (encs ([] : List Int))) :: (.own Sl.nil 3 1 (encs ([] : List Int))) :: L) (sk1 (sk1 (sk1 (sk1 (sk1 (sc1 (sk1 (sk1 (sk1 (sk1 (sk1 (sk1 (sk1 (.refl _)))))))))))))) ?_
       exact At.meetN (b132, Sl.nil, ([] : List Bool), b151, s157, (List.replicate n32 false), s153, (List.replicate n27 false)) (FLe.refl _) ⟨rfl, rfl, rfl, rfl, rfl, trivial⟩ rfl h53
      exact trivial
     exact trivial
    refine HdStep.c (fun inv => ?_) ?_
    ·have g158 := mkLen_some h33
     refine Lst.make (α := Bool) (z0 := false) (k := n32) rfl rfl (by decide) (congrArg some (congrArg (Value.int .i64) g158.1)) (congrArg some (congrArg (Value.int .i64) g158.1)) Try.runUnderlying75 Try.typeInfo4 rfl rfl rfl rfl rfl g158.2 rfl (fun s159 => ?_)
     refine Lst.nil ?_
     refine At.hd inv (fun w h => (h.weaken (FLe.refl _)).sublist (sc1 (sc1 (sc1 (sc1 (sc1 (sk1 (sk1 (sk1 (sk1 (sk1 (sk1 (sk1 (.refl _)))))))))))))) ?_
     refine HdJ.step [1] (by kernel_rfl) rfl ?_
     refine HdStep.c (fun inv => ?_) ?_
     ·have g160 := mkLen_some h28
      refine Lst.make (α := Bool) (z0 := false) (k := n27) rfl rfl (by decide) (congrArg some (congrArg (Value.int .i64) g160.1)) (congrArg some (congrArg (Value.int .i64) g160.1)) Try.runUnderlying75 Try.typeInfo4 rfl rfl rfl rfl rfl g160.2 rfl (fun s161 => ?_)
      refine Lst.nil ?_
      refine At.hd inv (fun w h => (h.weaken (FLe.refl _)).sublist (sc1 (sc1 (sc1 (sc1 (sc1 (sc1 (sk1 (sk1 (sk1 (sk1 (sk1 (sk1 (sk1 (.refl _))))))))))))))) ?_
      refine HdJ.step [6] (by kernel_rfl) rfl ?_
      refine HdStep.c (fun inv => ?_) ?_
      ·refine Lst.store (i := 2) rfl rfl rfl rfl rfl Try.sizeOf75 (vs := [Sl.v s161]) rfl rfl rfl (cs' := enc s161) (Put.here (vs := [Sl.v s161]) rfl) (L' := (.own s161 4 1 (encs (List.replicate n27 false))) :: (.own s159 4 1 (encs (List.replicate n32 false))) :: (.blk b151 (enc s161) 75) :: (.own Sl.nil 4 1 (encs ([] : List Bool))) :: (.blk b132 (enc Sl.nil) 75) :: (.own Sl.nil 4 1 (encs ([] : List Bool))) :: (.blk b25 [pv b12 0] 97) :: (.rows (α := Bool) 4 rs14) :: (.own s13 75 1 (encs rs14)) :: (.own s18 3 1 (encs r10.left)) :: (.blk b12 (enc (GraphR.mk r10 s13 s18 s20)) 101) :: (.own Sl.nil 3 1 (encs ([] : List Int))) :: (.own Sl.nil 3 1 (encs ([] : List Int))) :: L) rfl ?_
       refine Lst.nil ?_
       refine At.hd inv (fun w h => (h.weaken (FLe.refl _)).sublist (sc1 (sc1 (sc1 (sc1 (sc1 (sc1 (sk1 (sk1 (sk1 (sk1 (sk1 (sk1 (sk1 (.refl _))))))))))))))) ?_
       refine HdJ.done (by kernel_rfl) ?_
       refine At.front (i := 1) rfl rfl ?_
       refine At.front (i := 2) rfl rfl ?_
       refine At.front (i := 5) rfl (L' := (.own Sl.nil 4 1 (encs ([] : List Bool))) :: (.blk b151 (enc s161) 75) :: (.own s159 4 1 (encs (List.replicate n32 false))) :: (.own s161 4 1 (encs (List.replicate n27 false))) :: (.own Sl.nil 4 1 (encs ([] : List Bool))) :: (.blk b132 (enc Sl.nil) 75) :: (.blk b25 [pv b12 0] 97) :: (.rows (α := Bool) 4 rs14) :: (.own s13 75 1 (encs rs14)) :: (.own s18 3 1 (encs r10.left)) :: (.blk b12 (enc (GraphR.mk r10 s13 s18 s20)) 101) :: (.own Sl.nil 3 1 (encs ([] : List Int))) :: (.own Sl.nil 3 1 (encs ([] : List Int))) :: L) rfl ?_
       refine At.front (i := 5) rfl (L' := (.blk b132 (enc Sl.nil) 75) :: (.own Sl.nil 4 1 (encs ([] : List Bool))) :: (.blk b151 (enc s161) 75) :: (.own s159 4 1 (encs (List.replicate n32 false))) :: (.own s161 4 1 (encs (List.replicate n27 false))) :: (.own Sl.nil 4 1 (encs ([] : List Bool))) :: (.blk b25 [pv b12 0] 97) :: (.rows (α := Bool) 4 rs14) :: (.own s13 75 1 (encs rs14)) :: (.own s18 3 1 (encs r10.left)) :: (.blk b12 (enc (GraphR.mk r10 s13 s18 s20)) 101) :: (.own Sl.nil 3 1 (encs ([] : List Int))) :: (.own Sl.nil 3 1 (encs ([] : List Int))) :: L) rfl ?_
       refine At.less (L' := (.blk b132 (enc Sl.nil) 75) :: (.own Sl.nil 4 1 (encs ([] : List Bool))) :: (.blk b151 (enc s161) 75) :: (.own s159 4 1 (encs (List.replicate n32 false))) :: (.own s161 4 1 (encs (List.replicate n27 false))) :: (.blk b25 [pv b12 0] 97) :: (.rows (α := Bool) 4 rs14) :: (.own s13 75 1 (encs rs14)) :: (.own s18 3 1 (encs r10.left)) :: (.blk b12 (enc (GraphR.mk r10 s13 s18 s20)) 101) :: (.own Sl.nil 3 1 (encs ([] : List Int))) :: (.own Sl.nil 3 1 (encs ([] : List Int))) :: L) (sk1 (sk1 (sk1 (sk1 (sk1 (sc1 (sk1 (sk1 (sk1 (sk1 (sk1 (sk1 (sk1 (.refl _)))))))))))))) ?_
       exact At.meetN (b132, Sl.nil, ([] : List Bool), b151, s159, (List.replicate n32 false), s161, (List.replicate n27 false)) (FLe.refl _) ⟨rfl, rfl, rfl, rfl, rfl, trivial⟩ rfl h53
      exact trivial
     exact trivial
    exact trivial
   exact trivial
  exact trivial
 rintro F162 ⟨b44, s45, l46, b47, s48, l49, s50, l51⟩ hF163 hy
 subst hy
 refine Lst.as (e' := [(0, iv a0), (10, pv b25 0), (11, pv b47 0), (12, pv b44 0), (35, Sl.v s48)]) (L' := (.blk b44 (enc s45) 75) :: (.own s45 4 1 (encs l46)) :: (.blk b47 (enc s50) 75) :: (.own s48 4 1 (encs l49)) :: (.own s50 4 1 (encs l51)) :: (.blk b25 [pv b12 0] 97) :: (.rows (α := Bool) 4 rs14) :: (.own s13 75 1 (encs rs14)) :: (.own s18 3 1 (encs r10.left)) :: (.blk b12 (enc (GraphR.mk r10 s13 s18 s20)) 101) :: (.own Sl.nil 3 1 (encs ([] : List Int))) :: (.own Sl.nil 3 1 (encs ([] : List Int))) :: L) ⟨rfl, rfl, rfl, rfl, rfl, trivial⟩ rfl ?_
 refine Lst.store (i := 0) rfl rfl rfl rfl rfl Try.sizeOf75 (vs := [Sl.v s48]) rfl rfl rfl (cs' := enc s48) (Put.here (vs := [Sl.v s48]) rfl) (L' := (.blk b44 (enc s48) 75) :: (.own s45 4 1 (encs l46)) :: (.blk b47 (enc s50) 75) :: (.own s48 4 1 (encs l49)) :: (.own s50 4 1 (encs l51)) :: (.blk b25 [pv b12 0] 97) :: (.rows (α := Bool) 4 rs14) :: (.own s13 75 1 (encs rs14)) :: (.own s18 3 1 (encs r10.left)) :: (.blk b12 (enc (GraphR.mk r10 s13 s18 s20)) 101) :: (.own Sl.nil 3 1 (encs ([] : List Int))) :: (.own Sl.nil 3 1 (encs ([] : List Int))) :: L) rfl ?_
 refine Lst.nil ?_
 refine At.then ?_
 refine Cd.seq ?_
 refine Cd.region ?_
 refine Lst.alloc (cs := [.nilFunc]) rfl rfl (by decide) Try.zeroValue102 rfl (fun b164 => ?_)
 refine Lst.nil ?_
 refine At.then ?_
 refine Cd.seq ?_
 refine Cd.region ?_
 refine Lst.r (Ev.makeFunc (us := []) (vs := [pv b47 0, pv b25 0, pv b44 0, pv b164 0]) trivial ⟨rfl, rfl, rfl, rfl, trivial⟩) ?_
 refine Lst.store (i := 0) rfl rfl rfl rfl rfl Try.sizeOf102 (vs := [.func (.func 61) #[] #[pv b47 0, pv b25 0, pv b44 0, pv b164 0]]) rfl rfl rfl (cs' := [.func (.func 61) #[] #[pv b47 0, pv b25 0, pv b44 0, pv b164 0]]) (Put.here (vs := [.func (.func 61) #[] #[pv b47 0, pv b25 0, pv b44 0, pv b164 0]]) rfl) (L' := (.blk b164 [.func (.func 61) #[] #[pv b47 0, pv b25 0, pv b44 0, pv b164 0]] 102) :: (.blk b44 (enc s48) 75) :: (.own s45 4 1 (encs l46)) :: (.blk b47 (enc s50) 75) :: (.own s48 4 1 (encs l49)) :: (.own s50 4 1 (encs l51)) :: (.blk b25 [pv b12 0] 97) :: (.rows (α := Bool) 4 rs14) :: (.own s13 75 1 (encs rs14)) :: (.own s18 3 1 (encs r10.left)) :: (.blk b12 (enc (GraphR.mk r10 s13 s18 s20)) 101) :: (.own Sl.nil 3 1 (encs ([] : List Int))) :: (.own Sl.nil 3 1 (encs ([] : List Int))) :: L) rfl ?_
 refine Lst.nil ?_
 refine At.then ?_
 refine Cd.seq ?_
 refine Cd.seq ?_
 refine Cd.region ?_
 refine Lst.r (Ev.move rfl) ?_
 refine Lst.r (Ev.move rfl) ?_
 refine Lst.nil ?_
 refine At.then ?_
 refine Cd.block ?_
 obtain ⟨nn171, hN213, H⟩ := bind_some H
 replace hN213 := upTo_some hN213
 obtain ⟨ol166, H, HKl166⟩ := bind_some H
 refine Cd.loop (σ := Nat × Nat × (List Bool) × (List Bool)) (fun (i166, k166, l167, l168) => [(10, pv b25 0), (11, pv b47 0), (12, pv b44 0), (13, pv b164 0), (37, iv a0), (38, iv (i166 : Int))]) (fun (i166, k166, l167, l168) => (.blk b164 [.func (.func 61) #[] #[pv b47 0, pv b25 0, pv b44 0, pv b164 0]] 102) :: (.blk b44 (enc s48) 75) :: (.own s45 4 1 (encs l46)) :: (.blk b47 (enc s50) 75) :: (.own s48 4 1 (encs l167)) :: (.own s50 4 1 (encs l168)) :: (.blk b25 [pv b12 0] 97) :: (.rows (α := Bool) 4 rs14) :: (.own s13 75 1 (encs rs14)) :: (.own s18 3 1 (encs r10.left)) :: (.blk b12 (enc (GraphR.mk r10 s13 s18 s20)) 101) :: (.own Sl.nil 3 1 (encs ([] : List Int))) :: (.own Sl.nil 3 1 (encs ([] : List Int))) :: L) (fun _ => (fun (i166, k166, l167, l168) => rangeF (match_Cover_B0 fu r10) k166 i166 (l167, l168) = some ol166 ∧ i166 + k166 = nn171)) (fun (i166, k166, l167, l168) => k166) (0, nn171, l49, l51) ⟨rfl, rfl, rfl, rfl, rfl, rfl, trivial⟩ rfl ⟨H, by omega⟩ ?_
 rintro F169 ⟨i166, k166, l167, l168⟩ hF170 ⟨H, hik166⟩
 refine Cd.as (e' := [(10, pv b25 0), (11, pv b47 0), (12, pv b44 0), (13, pv b164 0), (37, iv a0), (38, iv (i166 : Int))]) (L' := (.blk b164 [.func (.func 61) #[] #[pv b47 0, pv b25 0, pv b44 0, pv b164 0]] 102) :: (.blk b44 (enc s48) 75) :: (.own s45 4 1 (encs l46)) :: (.blk b47 (enc s50) 75) :: (.own s48 4 1 (encs l167)) :: (.own s50 4 1 (encs l168)) :: (.blk b25 [pv b12 0] 97) :: (.rows (α := Bool) 4 rs14) :: (.own s13 75 1 (encs rs14)) :: (.own s18 3 1 (encs r10.left)) :: (.blk b12 (enc (GraphR.mk r10 s13 s18 s20)) 101) :: (.own Sl.nil 3 1 (encs ([] : List Int))) :: (.own Sl.nil 3 1 (encs ([] : List Int))) :: L) ⟨rfl, rfl, rfl, rfl, rfl, rfl, trivial⟩ rfl ?_
 rcases k166 with _ | k166
 ·have hc166 : decide ((i166 : Int) < a0) = false := decide_eq_false (by omega)
  replace H := rangeF_end H
  refine Cd.seq ?_
  refine Cd.region ?_
  refine Lst.r (Ev.lss rfl rfl) ?_
  refine Lst.nil ?_
  refine At.then ?_
  refine Cd.seq ?_
  refine Cd.condF rfl hc166 ?_
  refine Cd.exit ?_
  refine At.then_exit ?_
  refine At.then_exit ?_
  refine At.in_exit ?_
  subst H
  replace H := HKl166
  refine At.then ?_
  refine Cd.seq ?_
  refine Cd.region ?_
  refine Lst.addNil 3 1 ?_
  refine Lst.r (Ev.assign rfl) ?_
  refine Lst.addNil 3 1 ?_
  refine Lst.r (Ev.assign rfl) ?_
  refine Lst.nil ?_
  refine At.then ?_
  refine Cd.seq ?_
  refine Cd.seq ?_
  refine Cd.region ?_
  refine Lst.r (Ev.load (i := 5) rfl rfl Try.isAgg75 (v := Sl.v s50) (Get.here _)) ?_
  refine Lst.r (Ev.lenS (α := Bool) (xs := l168) (by decide) rfl rfl Try.runUnderlying75 (Rd.own (i := 7) rfl rfl rfl)) ?_
  refine Lst.r (Ev.move rfl) ?_
  refine Lst.nil ?_
  refine At.then ?_
  refine Cd.block ?_
  refine Cd.bound (Rd.le (α := Bool) (xs := l168) (by decide) (Rd.own (i := 7) rfl rfl rfl)) (fun hN212 => ?_)
  obtain ⟨ol183, H, HKl183⟩ := bind_some H
  refine Cd.loop (σ := Nat × Nat × Sl × (List Int)) (fun (i183, k183, s184, l185) => [(12, pv b44 0), (15, Sl.v s184), (16, Sl.v Sl.nil), (52, Sl.v s50), (53, iv (l168.length : Int)), (54, iv (i183 : Int))]) (fun (i183, k183, s184, l185) => (.own Sl.nil 3 1 (encs ([] : List Int))) :: (.own s184 3 1 (encs l185)) :: (.blk b164 [.func (.func 61) #[] #[pv b47 0, pv b25 0, pv b44 0, pv b164 0]] 102) :: (.blk b44 (enc s48) 75) :: (.own s45 4 1 (encs l46)) :: (.blk b47 (enc s50) 75) :: (.own s48 4 1 (encs l167)) :: (.own s50 4 1 (encs l168)) :: (.blk b25 [pv b12 0] 97) :: (.rows (α := Bool) 4 rs14) :: (.own s13 75 1 (encs rs14)) :: (.own s18 3 1 (encs r10.left)) :: (.blk b12 (enc (GraphR.mk r10 s13 s18 s20)) 101) :: (.own Sl.nil 3 1 (encs ([] : List Int))) :: (.own Sl.nil 3 1 (encs ([] : List Int))) :: L) (fun _ => (fun (i183, k183, s184, l185) => rangeF (match_Cover_B2 l168) k183 i183 l185 = some ol183 ∧ i183 + k183 = l168.length)) (fun (i183, k183, s184, l185) => k183) (0, l168.length, Sl.nil, ([] : List Int)) ⟨rfl, rfl, rfl, rfl, rfl, rfl, trivial⟩ rfl ⟨H, by omega⟩ ?_
  rintro F186 ⟨i183, k183, s184, l185⟩ hF187 ⟨H, hik183⟩
  refine Cd.as (e' := [(12, pv b44 0), (15, Sl.v s184), (16, Sl.v Sl.nil), (52, Sl.v s50), (53, iv (l168.length : Int)), (54, iv (i183 : Int))]) (L' := (.own Sl.nil 3 1 (encs ([] : List Int))) :: (.own s184 3 1 (encs l185)) :: (.blk b164 [.func (.func 61) #[] #[pv b47 0, pv b25 0, pv b44 0, pv b164 0]] 102) :: (.blk b44 (enc s48) 75) :: (.own s45 4 1 (encs l46)) :: (.blk b47 (enc s50) 75) :: (.own s48 4 1 (encs l167)) :: (.own s50 4 1 (encs l168)) :: (.blk b25 [pv b12 0] 97) :: (.rows (α := Bool) 4 rs14) :: (.own s13 75 1 (encs rs14)) :: (.own s18 3 1 (encs r10.left)) :: (.blk b12 (enc (GraphR.mk r10 s13 s18 s20)) 101) :: (.own Sl.nil 3 1 (encs ([] : List Int))) :: (.own Sl.nil 3 1 (encs ([] : List Int))) :: L) ⟨rfl, rfl, rfl, rfl, rfl, rfl, trivial⟩ rfl ?_
  rcases k183 with _ | k183
  ·have hc183 : decide ((i183 : Int) < (l168.length : Int)) = false := decide_eq_false (by omega)
   replace H := rangeF_end H
   refine Cd.seq ?_
   refine Cd.region ?_
   refine Lst.r (Ev.lss rfl rfl) ?_
   refine Lst.nil ?_
   refine At.then ?_
   refine Cd.seq ?_
   refine Cd.condF rfl hc183 ?_
   refine Cd.exit ?_
   refine At.then_exit ?_
   refine At.then_exit ?_
   refine At.in_exit ?_
   subst H
   replace H := HKl183
   refine At.then ?_
   refine Cd.seq ?_
   refine Cd.seq ?_
   refine Cd.region ?_
   refine Lst.r (Ev.load (i := 3) rfl rfl Try.isAgg75 (v := Sl.v s48) (Get.here _)) ?_
   refine Lst.r (Ev.lenS (α := Bool) (xs := l167) (by decide) rfl rfl Try.runUnderlying75 (Rd.own (i := 6) rfl rfl rfl)) ?_
   refine Lst.r (Ev.move rfl) ?_
   refine Lst.nil ?_
   refine At.then ?_
   refine Cd.block ?_
   refine Cd.bound (Rd.le (α := Bool) (xs := l167) (by decide) (Rd.own (i := 6) rfl rfl rfl)) (fun hN211 => ?_)
   obtain ⟨ol197, H, HKl197⟩ := bind_some H
   refine Cd.loop (σ := Nat × Nat × Sl × (List Int)) (fun (i197, k197, s198, l199) => [(15, Sl.v s184), (16, Sl.v s198), (66, Sl.v s48), (67, iv (l167.length : Int)), (68, iv (i197 : Int))]) (fun (i197, k197, s198, l199) => (.own s198 3 1 (encs l199)) :: (.own s184 3 1 (encs l185)) :: (.blk b164 [.func (.func 61) #[] #[pv b47 0, pv b25 0, pv b44 0, pv b164 0]] 102) :: (.blk b44 (enc s48) 75) :: (.own s45 4 1 (encs l46)) :: (.blk b47 (enc s50) 75) :: (.own s48 4 1 (encs l167)) :: (.own s50 4 1 (encs l168)) :: (.blk b25 [pv b12 0] 97) :: (.rows (α := Bool) 4 rs14) :: (.own s13 75 1 (encs rs14)) :: (.own s18 3 1 (encs r10.left)) :: (.blk b12 (enc (GraphR.mk r10 s13 s18 s20)) 101) :: (.own Sl.nil 3 1 (encs ([] : List Int))) :: (.own Sl.nil 3 1 (encs ([] : List Int))) :: L) (fun _ => (fun (i197, k197, s198, l199) => rangeF (match_Cover_B4 l167) k197 i197 l199 = some ol197 ∧ i197 + k197 = l167.length)) (fun (i197, k197, s198, l199) => k197) (0, l167.length, Sl.nil, ([] : List Int)) ⟨rfl, rfl, rfl, rfl, rfl, trivial⟩ rfl ⟨H, by omega⟩ ?_
   rintro F200 ⟨i197, k197, s198, l199⟩ hF201 ⟨H, hik197⟩
   refine Cd.as (e' := [(15, Sl.v s184), (16, Sl.v s198), (66, Sl.v s48), (67, iv (l167.length : Int)), (68, iv (i197 : Int))]) (L' := (.own s198 3 1 (encs l199)) :: (.own s184 3 1 (encs l185)) :: (.blk b164 [.func (.func 61) #[] #[pv b47 0, pv b25 0, pv b44 0, pv b164 0]] 102) :: (.blk b44 (enc s48) 75) :: (.own s45 4 1 (encs l46)) :: (.blk b47 (enc s50) 75) :: (.own s48 4 1 (encs l167)) :: (.own s50 4 1 (encs l168)) :: (.blk b25 [pv b12 0] 97) :: (.rows (α := Bool) 4 rs14) :: (.own s13 75 1 (encs rs14)) :: (.own s18 3 1 (encs r10.left)) :: (.blk b12 (enc (GraphR.mk r10 s13 s18 s20)) 101) :: (.own Sl.nil 3 1 (encs ([] : List Int))) :: (.own Sl.nil 3 1 (encs ([] : List Int))) :: L) ⟨rfl, rfl, rfl, rfl, rfl, trivial⟩ rfl ?_
   rcases k197 with _ | k197
   ·have hc197 : decide ((i197 : Int) < (l167.length : Int)) = false := decide_eq_false (by omega)
    replace H := rangeF_end H
    refine Cd.seq ?_
    refine Cd.region ?_
    refine Lst.r (Ev.lss rfl rfl) ?_
    refine Lst.nil ?_
    refine At.then ?_
    refine Cd.seq ?_
    refine Cd.condF rfl hc197 ?_
    refine Cd.exit ?_
    refine At.then_exit ?_
    refine At.then_exit ?_
    refine At.in_exit ?_
    subst H
    replace H := HKl197
    refine At.then ?_
    refine Cd.seq ?_
    refine Cd.region ?_
    refine Lst.r (Ev.move rfl) ?_
    refine Lst.r (Ev.move rfl) ?_
    refine Lst.r (Ev.assign rfl) ?_
    refine Lst.r (Ev.assign rfl) ?_
    refine Lst.r (Ev.assign rfl) ?_
    refine Lst.nil ?_
    refine At.then ?_
    obtain rfl := some_inj H
    refine Cd.ret ?_
    refine At.front (i := 1) rfl (L' := (.own s184 3 1 (encs l185)) :: (.own s198 3 1 (encs l199)) :: (.blk b164 [.func (.func 61) #[] #[pv b47 0, pv b25 0, pv b44 0, pv b164 0]] 102) :: (.blk b44 (enc s48) 75) :: (.own s45 4 1 (encs l46)) :: (.blk b47 (enc s50) 75) :: (.own s48 4 1 (encs l167)) :: (.own s50 4 1 (encs l168)) :: (.blk b25 [pv b12 0] 97) :: (.rows (α := Bool) 4 rs14) :: (.own s13 75 1 (encs rs14)) :: (.own s18 3 1 (encs r10.left)) :: (.blk b12 (enc (GraphR.mk r10 s13 s18 s20)) 101) :: (.own Sl.nil 3 1 (encs ([] : List Int))) :: (.own Sl.nil 3 1 (encs ([] : List Int))) :: L) rfl ?_
    exact At.ret3 rfl (Res.tmp rfl) (Res.tmp rfl) (Res.tmp rfl) (FLe.trans (FLe.trans (FLe.trans (FLe.trans hF24 hF163) hF170) hF187) hF201) (sk1 (sk1 (sc1 (sc1 (sc1 (sc1 (sc1 (sc1 (sc1 (sc1 (sc1 (sc1 (sc1 (sc1 (sc1 (.refl _)))))))))))))))) ⟨s184, s198, rfl, rfl⟩
   have hc197 : decide ((i197 : Int) < (l167.length : Int)) = true := decide_eq_true (by omega)
   obtain ⟨c197, H, hgo197⟩ := rangeF_go H
   unfold match_Cover_B4 at H
   try dsimp only at H
   refine Cd.seq ?_
   refine Cd.region ?_
   refine Lst.r (Ev.lss rfl rfl) ?_
   refine Lst.nil ?_
   refine At.then ?_
   refine Cd.seq ?_
   refine Cd.condT rfl hc197 ?_
   refine Cd.skip ?_
   refine At.then ?_
   refine Cd.seq ?_
   refine Cd.block ?_
   refine Cd.seq ?_
   refine Cd.region ?_
   refine Lst.r (Ev.move rfl) ?_
   obtain ⟨x202, h203, H⟩ := bind_some H
   have g204 := lat_some h203
   refine Lst.r (Ev.indexS (α := Bool) (xs := l167) rfl rfl Try.runUnderlying75 Try.sizeOf4 rfl (by decide) (Rd.own (i := 6) rfl rfl rfl) g204.1 g204.2.1) ?_
   refine Lst.r (Ev.loadS (α := Bool) rfl (Rd.own (i := 6) rfl rfl rfl) Try.isAgg4 (v := .bool x202) ((Get.elemN (s := 1) (x := x202) rfl g204.2.2 (Get.here _)).off (by omega))) ?_
   refine Lst.r (Ev.assign rfl) ?_
   refine Lst.r (Ev.assign rfl) ?_
   refine Lst.nil ?_
   refine At.then ?_
   refine Cd.seq ?_
   refine Cd.region ?_
   refine Lst.r (Ev.move rfl) ?_
   refine Lst.nil ?_
   refine At.then ?_
   rcases (Bool.eq_false_or_eq_true x202).symm with hb205 | hb205
   ·replace H := ite_f hb205 H
    refine Cd.condF rfl hb205 ?_
    refine Cd.skip ?_
    refine At.in_normal ?_
    refine At.then ?_
    refine Cd.region ?_
    refine Lst.r (Ev.incr (by omega) rfl rfl) ?_
    refine Lst.r (Ev.move rfl) ?_
    refine Lst.nil ?_
    exact At.meet (i197 + 1, k197, s198, l199) hF201 ⟨rfl, rfl, rfl, rfl, rfl, trivial⟩ rfl ⟨⟨hgo197 _ (some_inj H).symm, by omega⟩, Nat.lt_succ_self _⟩
   replace H := ite_t hb205 H
   refine Cd.condT rfl hb205 ?_
   refine Cd.region ?_
   refine Lst.r (Ev.move rfl) ?_
   refine Lst.r (Ev.move rfl) ?_
   refine Lst.buildSlice (α := Int) (xs := ([(i197 : Int)] : List Int)) (pv := [(0, iv (i197 : Int))]) rfl rfl (by decide) ⟨rfl, rfl, trivial⟩ (run_buildSlice (α := Int) (z0 := (0 : Int)) (xs := ([(i197 : Int)] : List Int)) Try.runUnderlying34 Try.sizeOf3 Try.zeroValue3 rfl rfl rfl (by decide) rfl (fill_cons (cs := encs (List.replicate 1 (0 : Int))) (cs' := encs ((List.replicate 1 (0 : Int)).set 0 (i197 : Int))) (vs := [iv (i197 : Int)]) rfl rfl rfl ((Put.elemN (s := 1) (i := 0) (x := (0 : Int)) (y := (i197 : Int)) rfl rfl (Put.here (vs := [iv (i197 : Int)]) rfl)).off rfl) fill_nil)) rfl rfl (by decide) (fun s206 _ => ?_)
   obtain ⟨u208, h209, H⟩ := bind_some H
   refine Lst.append (i := 1) (α := Int) (xs := l199) (ys := ([(i197 : Int)] : List Int)) rfl rfl (by decide) rfl rfl Try.runUnderlying34 Try.typeInfo3 rfl rfl rfl rfl rfl rfl (Rd.own (i := 0) rfl rfl rfl) rfl (room_some h209) rfl (fun s210 => ?_)
   refine Lst.its (L' := (.own s206 3 1 (encs ([(i197 : Int)] : List Int))) :: (.own s210 3 1 (encs (l199 ++ ([(i197 : Int)] : List Int)))) :: (.own s184 3 1 (encs l185)) :: (.blk b164 [.func (.func 61) #[] #[pv b47 0, pv b25 0, pv b44 0, pv b164 0]] 102) :: (.blk b44 (enc s48) 75) :: (.own s45 4 1 (encs l46)) :: (.blk b47 (enc s50) 75) :: (.own s48 4 1 (encs l167)) :: (.own s50 4 1 (encs l168)) :: (.blk b25 [pv b12 0] 97) :: (.rows (α := Bool) 4 rs14) :: (.own s13 75 1 (encs rs14)) :: (.own s18 3 1 (encs r10.left)) :: (.blk b12 (enc (GraphR.mk r10 s13 s18 s20)) 101) :: (.own Sl.nil 3 1 (encs ([] : List Int))) :: (.own Sl.nil 3 1 (encs ([] : List Int))) :: L) rfl ?_
   refine Lst.r (Ev.assign rfl) ?_
   refine Lst.nil ?_
   refine At.in_normal ?_
   refine At.then ?_
   refine Cd.region ?_
   refine Lst.r (Ev.incr (by omega) rfl rfl) ?_
   refine Lst.r (Ev.move rfl) ?_
   refine Lst.nil ?_
   refine At.less (L' := (.own s210 3 1 (encs (l199 ++ ([(i197 : Int)] : List Int)))) :: (.own s184 3 1 (encs l185)) :: (.blk b164 [.func (.func 61) #[] #[pv b47 0, pv b25 0, pv b44 0, pv b164 0]] 102) :: (.blk b44 (enc s48) 75) :: (.own s45 4 1 (encs l46)) :: (.blk b47 (enc s50) 75) :: (.own s48 4 1 (encs l167)) :: (.own s50 4 1 (encs l168)) :: (.blk b25 [pv b12 0] 97) :: (.rows (α := Bool) 4 rs14) :: (.own s13 75 1 (encs rs14)) :: (.own s18 3 1 (encs r10.left)) :: (.blk b12 (enc (GraphR.mk r10 s13 s18 s20)) 101) :: (.own Sl.nil 3 1 (encs ([] : List Int))) :: (.own Sl.nil 3 1 (encs ([] : List Int))) :: L) (sc1 (sk1 (sk1 (sk1 (sk1 (sk1 (sk1 (sk1 (sk1 (sk1 (sk1 (sk1 (sk1 (sk1 (sk1 (sk1 (.refl _))))))))))))))))) ?_
   exact At.meet (i197 + 1, k197, s210, l199 ++ ([(i197 : Int)] : List Int)) hF201 ⟨rfl, rfl, rfl, rfl, rfl, trivial⟩ rfl ⟨⟨hgo197 _ (some_inj H).symm, by omega⟩, Nat.lt_succ_self _⟩
  have hc183 : decide ((i183 : Int) < (l168.length : Int)) = true := decide_eq_true (by omega)
  obtain ⟨c183, H, hgo183⟩ := rangeF_go H
  unfold match_Cover_B2 at H
  try dsimp only at H
  refine Cd.seq ?_
  refine Cd.region ?_
  refine Lst.r (Ev.lss rfl rfl) ?_
  refine Lst.nil ?_
  refine At.then ?_
  refine Cd.seq ?_
  refine Cd.condT rfl hc183 ?_
  refine Cd.skip ?_
  refine At.then ?_
  refine Cd.seq ?_
  refine Cd.block ?_
  refine Cd.seq ?_
  refine Cd.region ?_
  refine Lst.r (Ev.move rfl) ?_
  obtain ⟨x188, h189, H⟩ := bind_some H
  have g190 := lat_some h189
  refine Lst.r (Ev.indexS (α := Bool) (xs := l168) rfl rfl Try.runUnderlying75 Try.sizeOf4 rfl (by decide) (Rd.own (i := 7) rfl rfl rfl) g190.1 g190.2.1) ?_
  refine Lst.r (Ev.loadS (α := Bool) rfl (Rd.own (i := 7) rfl rfl rfl) Try.isAgg4 (v := .bool x188) ((Get.elemN (s := 1) (x := x188) rfl g190.2.2 (Get.here _)).off (by omega))) ?_
  refine Lst.r (Ev.assign rfl) ?_
  refine Lst.r (Ev.assign rfl) ?_
  refine Lst.nil ?_
  refine At.then ?_
  refine Cd.seq ?_
  refine Cd.region ?_
  refine Lst.r (Ev.move rfl) ?_
  refine Lst.r (Ev.not rfl) ?_
  refine Lst.nil ?_
  refine At.then ?_
  rcases (Bool.eq_false_or_eq_true (!x188)).symm with hb191 | hb191
  ·replace H := ite_f hb191 H
   refine Cd.condF rfl hb191 ?_
   refine Cd.skip ?_
   refine At.in_normal ?_
   refine At.then ?_
   refine Cd.region ?_
   refine Lst.r (Ev.incr (by omega) rfl rfl) ?_
   refine Lst.r (Ev.move rfl) ?_
   refine Lst.nil ?_
   exact At.meet (i183 + 1, k183, s184, l185) hF187 ⟨rfl, rfl, rfl, rfl, rfl, rfl, trivial⟩ rfl ⟨⟨hgo183 _ (some_inj H).symm, by omega⟩, Nat.lt_succ_self _⟩
  replace H := ite_t hb191 H
  refine Cd.condT rfl hb191 ?_
  refine Cd.region ?_
  refine Lst.r (Ev.move rfl) ?_
  refine Lst.r (Ev.move rfl) ?_
  refine Lst.buildSlice (α := Int) (xs := ([(i183 : Int)] : List Int)) (pv := [(0, iv (i183 : Int))]) rfl rfl (by decide) ⟨rfl, rfl, trivial⟩ (run_buildSlice (α := Int) (z0 := (0 : Int)) (xs := ([(i183 : Int)] : List Int)) Try.runUnderlying34 Try.sizeOf3 Try.zeroValue3 rfl rfl rfl (by decide) rfl (fill_cons (cs := encs (List.replicate 1 (0 : Int))) (cs' := encs ((List.replicate 1 (0 : Int)).set 0 (i183 : Int))) (vs := [iv (i183 : Int)]) rfl rfl rfl ((Put.elemN (s := 1) (i := 0) (x := (0 : Int)) (y := (i183 : Int)) rfl rfl (Put.here (vs := [iv (i183 : Int)]) rfl)).off rfl) fill_nil)) rfl rfl (by decide) (fun s192 _ => ?_)
  obtain ⟨u194, h195, H⟩ := bind_some H
  refine Lst.append (i := 2) (α := Int) (xs := l185) (ys := ([(i183 : Int)] : List Int)) rfl rfl (by decide) rfl rfl Try.runUnderlying34 Try.typeInfo3 rfl rfl rfl rfl rfl rfl (Rd.own (i := 0) rfl rfl rfl) rfl (room_some h195) rfl (fun s196 => ?_)
  refine Lst.its (L' := (.own s192 3 1 (encs ([(i183 : Int)] : List Int))) :: (.own Sl.nil 3 1 (encs ([] : List Int))) :: (.own s196 3 1 (encs (l185 ++ ([(i183 : Int)] : List Int)))) :: (.blk b164 [.func (.func 61) #[] #[pv b47 0, pv b25 0, pv b44 0, pv b164 0]] 102) :: (.blk b44 (enc s48) 75) :: (.own s45 4 1 (encs l46)) :: (.blk b47 (enc s50) 75) :: (.own s48 4 1 (encs l167)) :: (.own s50 4 1 (encs l168)) :: (.blk b25 [pv b12 0] 97) :: (.rows (α := Bool) 4 rs14) :: (.own s13 75 1 (encs rs14)) :: (.own s18 3 1 (encs r10.left)) :: (.blk b12 (enc (GraphR.mk r10 s13 s18 s20)) 101) :: (.own Sl.nil 3 1 (encs ([] : List Int))) :: (.own Sl.nil 3 1 (encs ([] : List Int))) :: L) rfl ?_
  refine Lst.r (Ev.assign rfl) ?_
  refine Lst.nil ?_
  refine At.in_normal ?_
  refine At.then ?_
  refine Cd.region ?_
  refine Lst.r (Ev.incr (by omega) rfl rfl) ?_
  refine Lst.r (Ev.move rfl) ?_
  refine Lst.nil ?_
  refine At.less (L' := (.own Sl.nil 3 1 (encs ([] : List Int))) :: (.own s196 3 1 (encs (l185 ++ ([(i183 : Int)] : List Int)))) :: (.blk b164 [.func (.func 61) #[] #[pv b47 0, pv b25 0, pv b44 0, pv b164 0]] 102) :: (.blk b44 (enc s48) 75) :: (.own s45 4 1 (encs l46)) :: (.blk b47 (enc s50) 75) :: (.own s48 4 1 (encs l167)) :: (.own s50 4 1 (encs l168)) :: (.blk b25 [pv b12 0] 97) :: (.rows (α := Bool) 4 rs14) :: (.own s13 75 1 (encs rs14)) :: (.own s18 3 1 (encs r10.left)) :: (.blk b12 (enc (GraphR.mk r10 s13 s18 s20)) 101) :: (.own Sl.nil 3 1 (encs ([] : List Int))) :: (.own Sl.nil 3 1 (encs ([] : List Int))) :: L) (sc1 (sk1 (sk1 (sk1 (sk1 (sk1 (sk1 (sk1 (sk1 (sk1 (sk1 (sk1 (sk1 (sk1 (sk1 (sk1 (.refl _))))))))))))))))) ?_
  exact At.meet (i183 + 1, k183, s196, l185 ++ ([(i183 : Int)] : List Int)) hF187 ⟨rfl, rfl, rfl, rfl, rfl, rfl, trivial⟩ rfl ⟨⟨hgo183 _ (some_inj H).symm, by omega⟩, Nat.lt_succ_self _⟩
 have hc166 : decide ((i166 : Int) < a0) = true := decide_eq_true (by omega)
 obtain ⟨c166, H, hgo166⟩ := rangeF_go H
 unfold match_Cover_B0 at H
 try dsimp only at H
 refine Cd.seq ?_
 refine Cd.region ?_
 refine Lst.r (Ev.lss rfl rfl) ?_
 refine Lst.nil ?_
 refine At.then ?_
 refine Cd.seq ?_
 refine Cd.condT rfl hc166 ?_
 refine Cd.skip ?_
 refine At.then ?_
 refine Cd.seq ?_
 refine Cd.block ?_
 refine Cd.seq ?_
 refine Cd.region ?_
 refine Lst.r (Ev.move rfl) ?_
 refine Lst.r (Ev.assign rfl) ?_
 refine Lst.nil ?_
 refine At.then ?_
 refine Cd.seq ?_
 refine Cd.region ?_
 refine Lst.r (Ev.load (i := 6) rfl rfl Try.isAgg97 (v := pv b12 0) (Get.here _)) ?_
 refine Lst.r (Ev.nilCheck rfl) ?_
 refine Lst.r (Ev.fieldAddr (off' := 1) rfl Try.runUnderlying101 rfl Try.sizeOf34 rfl rfl) ?_
 refine Lst.r (Ev.load (i := 10) rfl rfl Try.isAgg34 (v := Sl.v s18) ((GraphR.get_left (Get.here _)).off (by rfl))) ?_
 refine Lst.r (Ev.move rfl) ?_
 obtain ⟨r172, h173, H⟩ := bind_some H
 refine Lst.call1 rfl rfl (by decide) (vs := [Sl.v s18, iv (i166 : Int)]) ⟨rfl, rfl, trivial⟩ Try.call57 (slices_Contains_int_int_sim h173 w0 _ _ _ (.refl _) (Rd.own (i := 9) rfl rfl rfl)) ?_
 refine Lst.r (Ev.not rfl) ?_
 refine Lst.nil ?_
 refine At.then ?_
 rcases (Bool.eq_false_or_eq_true (!r172)).symm with hb176 | hb176
 ·replace H := ite_f hb176 H
  refine Cd.condF rfl hb176 ?_
  refine Cd.skip ?_
  refine At.in_normal ?_
  refine At.then ?_
  refine Cd.region ?_
  refine Lst.r (Ev.incr (by omega) rfl rfl) ?_
  refine Lst.r (Ev.move rfl) ?_
  refine Lst.nil ?_
  exact At.meet (i166 + 1, k166, l167, l168) hF170 ⟨rfl, rfl, rfl, rfl, rfl, rfl, trivial⟩ rfl ⟨⟨hgo166 _ (some_inj H).symm, by omega⟩, Nat.lt_succ_self _⟩
 replace H := ite_t hb176 H
 refine Cd.condT rfl hb176 ?_
 refine Cd.region ?_
 refine Lst.r (Ev.load (i := 0) rfl rfl Try.isAgg102 (v := .func (.func 61) #[] #[pv b47 0, pv b25 0, pv b44 0, pv b164 0]) (Get.here _)) ?_
 refine Lst.r (Ev.move rfl) ?_
 obtain ⟨r177, h178, H⟩ := bind_some H
 refine Lst.front (i := 1) rfl rfl ?_
 refine Lst.front (i := 4) rfl rfl ?_
 refine Lst.front (i := 6) rfl (L' := (.blk b25 [pv b12 0] 97) :: (.own s48 4 1 (encs l167)) :: (.blk b44 (enc s48) 75) :: (.blk b164 [.func (.func 61) #[] #[pv b47 0, pv b25 0, pv b44 0, pv b164 0]] 102) :: (.own s45 4 1 (encs l46)) :: (.blk b47 (enc s50) 75) :: (.own s50 4 1 (encs l168)) :: (.rows (α := Bool) 4 rs14) :: (.own s13 75 1 (encs rs14)) :: (.own s18 3 1 (encs r10.left)) :: (.blk b12 (enc (GraphR.mk r10 s13 s18 s20)) 101) :: (.own Sl.nil 3 1 (encs ([] : List Int))) :: (.own Sl.nil 3 1 (encs ([] : List Int))) :: L) rfl ?_
 refine Lst.front (i := 10) rfl rfl ?_
 refine Lst.front (i := 6) rfl rfl ?_
 refine Lst.front (i := 7) rfl (L' := (.own s50 4 1 (encs l168)) :: (.blk b47 (enc s50) 75) :: (.blk b12 (enc (GraphR.mk r10 s13 s18 s20)) 101) :: (.blk b25 [pv b12 0] 97) :: (.own s48 4 1 (encs l167)) :: (.blk b44 (enc s48) 75) :: (.blk b164 [.func (.func 61) #[] #[pv b47 0, pv b25 0, pv b44 0, pv b164 0]] 102) :: (.own s45 4 1 (encs l46)) :: (.rows (α := Bool) 4 rs14) :: (.own s13 75 1 (encs rs14)) :: (.own s18 3 1 (encs r10.left)) :: (.own Sl.nil 3 1 (encs ([] : List Int))) :: (.own Sl.nil 3 1 (encs ([] : List Int))) :: L) rfl ?_
 refine Lst.callV rfl rfl (by decide) (vs := [iv (i166 : Int)]) (cs := [pv b47 0, pv b25 0, pv b44 0, pv b164 0]) rfl ⟨rfl, trivial⟩ Try.call61 (match_Cover_1_sim h178 w0 _ _ _ (.refl _) fm15 (Rd.own (i := 2) rfl rfl rfl) (All.rowsHead (j := 1) rfl) (Rd.own (i := 3) rfl rfl rfl) (f21.mono (FLe.trans hF163 hF170) (sc4 (sc2 hM)))) (fun F179 L' v hF180 hv => ?_)
 obtain ⟨rfl, rfl⟩ := hv
 refine Lst.nil ?_
 refine At.in_normal ?_
 refine At.then ?_
 refine Cd.region ?_
 refine Lst.r (Ev.incr (by omega) rfl rfl) ?_
 refine Lst.r (Ev.move rfl) ?_
 refine Lst.nil ?_
 refine At.front (i := 10) rfl rfl ?_
 refine At.front (i := 10) rfl rfl ?_
 refine At.front (i := 10) rfl (L' := (.rows (α := Bool) 4 rs14) :: (.own s13 75 1 (encs rs14)) :: (.own s18 3 1 (encs r10.left)) :: (.own s50 4 1 (encs r177.1)) :: (.blk b47 (enc s50) 75) :: (.blk b12 (enc (GraphR.mk r10 s13 s18 s20)) 101) :: (.blk b25 [pv b12 0] 97) :: (.own s48 4 1 (encs r177.2)) :: (.blk b44 (enc s48) 75) :: (.blk b164 [.func (.func 61) #[] #[pv b47 0, pv b25 0, pv b44 0, pv b164 0]] 102) :: (.own s45 4 1 (encs l46)) :: (.own Sl.nil 3 1 (encs ([] : List Int))) :: (.own Sl.nil 3 1 (encs ([] : List Int))) :: L) rfl ?_
 refine At.front (i := 6) rfl rfl ?_
 refine At.front (i := 4) rfl rfl ?_
 refine At.front (i := 7) rfl (L' := (.own s48 4 1 (encs r177.2)) :: (.own s50 4 1 (encs r177.1)) :: (.blk b25 [pv b12 0] 97) :: (.rows (α := Bool) 4 rs14) :: (.own s13 75 1 (encs rs14)) :: (.own s18 3 1 (encs r10.left)) :: (.blk b47 (enc s50) 75) :: (.blk b12 (enc (GraphR.mk r10 s13 s18 s20)) 101) :: (.blk b44 (enc s48) 75) :: (.blk b164 [.func (.func 61) #[] #[pv b47 0, pv b25 0, pv b44 0, pv b164 0]] 102) :: (.own s45 4 1 (encs l46)) :: (.own Sl.nil 3 1 (encs ([] : List Int))) :: (.own Sl.nil 3 1 (encs ([] : List Int))) :: L) rfl ?_
 refine At.front (i := 6) rfl rfl ?_
 refine At.front (i := 10) rfl rfl ?_
 refine At.front (i := 9) rfl (L' := (.blk b44 (enc s48) 75) :: (.own s45 4 1 (encs l46)) :: (.blk b47 (enc s50) 75) :: (.own s48 4 1 (encs r177.2)) :: (.own s50 4 1 (encs r177.1)) :: (.blk b25 [pv b12 0] 97) :: (.rows (α := Bool) 4 rs14) :: (.own s13 75 1 (encs rs14)) :: (.own s18 3 1 (encs r10.left)) :: (.blk b12 (enc (GraphR.mk r10 s13 s18 s20)) 101) :: (.blk b164 [.func (.func 61) #[] #[pv b47 0, pv b25 0, pv b44 0, pv b164 0]] 102) :: (.own Sl.nil 3 1 (encs ([] : List Int))) :: (.own Sl.nil 3 1 (encs ([] : List Int))) :: L) rfl ?_
 refine At.front (i := 10) rfl (L' := (.blk b164 [.func (.func 61) #[] #[pv b47 0, pv b25 0, pv b44 0, pv b164 0]] 102) :: (.blk b44 (enc s48) 75) :: (.own s45 4 1 (encs l46)) :: (.blk b47 (enc s50) 75) :: (.own s48 4 1 (encs r177.2)) :: (.own s50 4 1 (encs r177.1)) :: (.blk b25 [pv b12 0] 97) :: (.rows (α := Bool) 4 rs14) :: (.own s13 75 1 (encs rs14)) :: (.own s18 3 1 (encs r10.left)) :: (.blk b12 (enc (GraphR.mk r10 s13 s18 s20)) 101) :: (.own Sl.nil 3 1 (encs ([] : List Int))) :: (.own Sl.nil 3 1 (encs ([] : List Int))) :: L) rfl ?_
 exact At.meet (i166 + 1, k166, r177.2, r177.1) (FLe.trans hF170 hF180) ⟨rfl, rfl, rfl, rfl, rfl, rfl, trivial⟩ rfl ⟨⟨hgo166 _ (some_inj H).symm, by omega⟩, Nat.lt_succ_self _⟩
set_option maxRecDepth 20000 in
theorem slices_Index_api_Pair_api_Pair_sim {a0 : List Pair} {a1 : Pair} {s_a0 : Sl} {r : Int} (H : slices_Index_api_Pair_api_Pair a0 a1 = some r) (w0 : World) (F : Frz) (M L : List Item) (hM : M.Sublist L) (hs_a0 : Rd w0 F M s_a0 a0) : Ok Try.prog w0 79 [Sl.v s_a0, .agg (enc a1).toArray] F (L) (Is (iv r) (L)) := by
 unfold slices_Index_api_Pair_api_Pair at H
 refine Ok.enter (m := 2) (n := 19) Try.func79 rfl rfl rfl (by decide) ?_
 refine Cd.env (e' := [(0, Sl.v s_a0), (1, .agg (enc a1).toArray)]) rfl ?_
 refine Cd.seq ?_
 refine Cd.region ?_
 refine Lst.box rfl rfl (by decide) rfl (cs := enc a1) rfl (fun b1 => ?_)
 refine Lst.r (Ev.assign rfl) ?_
 refine Lst.nil ?_
 refine At.then ?_
 refine Cd.seq ?_
 refine Cd.seq ?_
 refine Cd.region ?_
 refine Lst.r (Ev.move rfl) ?_
 refine Lst.r (Ev.lenS (α := Pair) (xs := a0) (by decide) rfl rfl Try.runUnderlying22 (hs_a0.mono (FLe.refl _) (sc1 hM))) ?_
 refine Lst.r (Ev.move rfl) ?_
 refine Lst.nil ?_
 refine At.then ?_
 refine Cd.block ?_
 refine Cd.bound (Rd.le (α := Pair) (xs := a0) (by decide) (hs_a0.mono (FLe.refl _) (sc1 hM))) (fun hN10 => ?_)
 obtain ⟨ol3, H, HKl3⟩ := andThen_some H
 refine Cd.loop (σ := Nat × Nat × Unit) (fun (i3, k3, _u) => [(0, Sl.v s_a0), (3, pv b1 0), (7, iv (a0.length : Int)), (8, iv (i3 : Int))]) (fun (i3, k3, _u) => (.blk b1 (enc a1) 49) :: L) (fun _ => (fun (i3, k3, _u) => rangeM (slices_Index_api_Pair_api_Pair_B0 a0 a1) k3 i3 () = some ol3 ∧ i3 + k3 = a0.length)) (fun (i3, k3, _u) => k3) (0, a0.length, ()) ⟨rfl, rfl, rfl, rfl, trivial⟩ rfl ⟨H, by omega⟩ ?_
 rintro F4 ⟨i3, k3, _u⟩ hF5 ⟨H, hik3⟩
 refine Cd.as (e' := [(0, Sl.v s_a0), (3, pv b1 0), (7, iv (a0.length : Int)), (8, iv (i3 : Int))]) (L' := (.blk b1 (enc a1) 49) :: L) ⟨rfl, rfl, rfl, rfl, trivial⟩ rfl ?_
 rcases k3 with _ | k3
 ·have hc3 : decide ((i3 : Int) < (a0.length : Int)) = false := decide_eq_false (by omega)
  replace H := rangeM_end H
  refine Cd.seq ?_
  refine Cd.region ?_
  refine Lst.r (Ev.lss rfl rfl) ?_
  refine Lst.nil ?_
  refine At.then ?_
  refine Cd.seq ?_
  refine Cd.condF rfl hc3 ?_
  refine Cd.exit ?_
  refine At.then_exit ?_
  refine At.then_exit ?_
  refine At.in_exit ?_
  subst H
  replace H := HKl3
  refine At.then ?_
  refine Cd.seq ?_
  refine Cd.region ?_
  refine Lst.r (Ev.assign rfl) ?_
  refine Lst.nil ?_
  refine At.then ?_
  obtain rfl := some_inj H
  refine Cd.ret ?_
  exact At.ret1 rfl (Res.tmp rfl) hF5 (sc1 (.refl _)) ⟨rfl, rfl⟩
 have hc3 : decide ((i3 : Int) < (a0.length : Int)) = true := decide_eq_true (by omega)
 obtain ⟨c3, H, hgo3, hbrk3, hret3⟩ := rangeM_go H
 unfold slices_Index_api_Pair_api_Pair_B0 at H
 try dsimp only at H
 refine Cd.seq ?_
 refine Cd.region ?_
 refine Lst.r (Ev.lss rfl rfl) ?_
 refine Lst.nil ?_
 refine At.then ?_
 refine Cd.seq ?_
 refine Cd.condT rfl hc3 ?_
 refine Cd.skip ?_
 refine At.then ?_
 refine Cd.seq ?_
 refine Cd.block ?_
 refine Cd.seq ?_
 refine Cd.region ?_
 refine Lst.r (Ev.move rfl) ?_
 refine Lst.r (Ev.assign rfl) ?_
 refine Lst.nil ?_
 refine At.then ?_
 refine Cd.seq ?_
 refine Cd.quiet (by kernel_rfl) (by kernel_rfl) ?_
 refine Qt.r (Ev.loadA (i := 0) rfl rfl Try.isAgg49 Try.sizeOf49 (ch := enc a1) (Enc.len _) (Get.here _)) ?_
 refine Qt.r (Ev.move rfl) ?_
 refine Qt.r (Ev.move rfl) ?_
 obtain ⟨x6, h7, H⟩ := bind_some H
 have g8 := lat_some h7
 refine Qt.r (Ev.indexS (α := Pair) (xs := a0) rfl rfl Try.runUnderlying22 Try.sizeOf49 rfl (by decide) (hs_a0.mono hF5 (sc1 hM)) g8.1 g8.2.1) ?_
 refine Qt.r (Ev.loadSA (α := Pair) rfl (hs_a0.mono hF5 (sc1 hM)) Try.isAgg49 Try.sizeOf49 (ch := enc x6) (Enc.len _) (by decide) ((Get.elemN (s := 2) (x := x6) rfl g8.2.2 (Get.here _)).off (by omega))) ?_
 refine Qt.r (Ev.eqlA rfl rfl (by kernel_rfl) (eq49 _ _)) ?_
 refine Qt.done ?_
 refine At.then ?_
 rcases Bool.eq_false_or_eq_true (decide (a1 = x6)) with hb9 | hb9
 ·replace H := ite_t hb9 H
  refine Cd.condT rfl hb9 ?_
  refine Cd.seq ?_
  refine Cd.region ?_
  refine Lst.r (Ev.move rfl) ?_
  refine Lst.r (Ev.assign rfl) ?_
  refine Lst.nil ?_
  refine At.then ?_
  have H := hret3 _ (some_inj H).symm
  subst H
  replace H := HKl3
  obtain rfl := some_inj H
  refine Cd.ret ?_
  refine At.in_ret ?_
  refine At.then_ret ?_
  refine At.then_ret ?_
  refine At.in_ret ?_
  refine At.then_ret ?_
  exact At.ret1 rfl (Res.tmp rfl) hF5 (sc1 (.refl _)) ⟨rfl, rfl⟩
 replace H := ite_f hb9 H
 refine Cd.condF rfl hb9 ?_
 refine Cd.skip ?_
 refine At.in_normal ?_
 refine At.then ?_
 refine Cd.region ?_
 refine Lst.r (Ev.incr (by omega) rfl rfl) ?_
 refine Lst.r (Ev.move rfl) ?_
 refine Lst.nil ?_
 exact At.meet (i3 + 1, k3, ()) hF5 ⟨rfl, rfl, rfl, rfl, trivial⟩ rfl ⟨⟨hgo3 _ (some_inj H).symm, by omega⟩, Nat.lt_succ_self _⟩
set_option maxRecDepth 20000 in
theorem slices_Contains_api_Pair_api_Pair_sim {a0 : List Pair} {a1 : Pair} {s_a0 : Sl} {r : Bool} (H : slices_Contains_api_Pair_api_Pair a0 a1 = some r) (w0 : World) (F : Frz) (M L : List Item) (hM : M.Sublist L) (hs_a0 : Rd w0 F M s_a0 a0) : Ok Try.prog w0 66 [Sl.v s_a0, .agg (enc a1).toArray] F (L) (Is (.bool r) (L)) := by
 unfold slices_Contains_api_Pair_api_Pair at H
 refine Ok.enter (m := 2) (n := 9) Try.func66 rfl rfl rfl (by decide) ?_
 refine Cd.env (e' := [(0, Sl.v s_a0), (1, .agg (enc a1).toArray)]) rfl ?_
 refine Cd.seq ?_
 refine Cd.region ?_
 refine Lst.box rfl rfl (by decide) rfl (cs := enc a1) rfl (fun b1 => ?_)
 refine Lst.r (Ev.assign rfl) ?_
 refine Lst.nil ?_
 refine At.then ?_
 refine Cd.seq ?_
 refine Cd.region ?_
 refine Lst.r (Ev.move rfl) ?_
 refine Lst.r (Ev.loadA (i := 0) rfl rfl Try.isAgg49 Try.sizeOf49 (ch := enc a1) (Enc.len _) (Get.here _)) ?_
 obtain ⟨r3, h4, H⟩ := bind_some H
 refine Lst.call1 rfl rfl (by decide) (vs := [Sl.v s_a0, .agg (enc a1).toArray]) ⟨rfl, rfl, trivial⟩ Try.call79 (slices_Index_api_Pair_api_Pair_sim h4 w0 _ M _ (sc1 hM) (hs_a0.mono (FLe.refl _) (.refl _))) ?_
 refine Lst.r (Ev.geq rfl rfl) ?_
 refine Lst.r (Ev.assign rfl) ?_
 refine Lst.nil ?_
 refine At.then ?_
 obtain rfl := some_inj H
 refine Cd.ret ?_
 exact At.ret1 rfl (Res.tmp rfl) (FLe.refl _) (sc1 (.refl _)) ⟨rfl, rfl⟩
set_option maxRecDepth 20000 in
theorem partref_Most_1_sim {a0 : Int} {a1 : Int} {a2 : List Pair} {b_a2 : Nat} {s_a2 : Sl} {r : Bool} (H : partref_Most_1 a0 a1 a2 = some r) (w0 : World) (F : Frz) (M L : List Item) (hM : M.Sublist L) (hs_a2 : Rd w0 F M s_a2 a2) : Ok Try.prog w0 65 [iv a0, iv a1, pv b_a2 0] F ((.blk b_a2 (enc s_a2) 22) :: L) (Is (.bool r) ((.blk b_a2 (enc s_a2) 22) :: L)) := by
 unfold partref_Most_1 at H
 refine Ok.enter (m := 3) (n := 11) Try.func65 rfl rfl rfl (by decide) ?_
 refine Cd.env (e' := [(0, iv a0), (1, iv a1), (2, pv b_a2 0)]) rfl ?_
 refine Cd.seq ?_
 refine Cd.region ?_
 refine Lst.r (Ev.assign rfl) ?_
 refine Lst.nil ?_
 refine At.then ?_
 refine Cd.seq ?_
 refine Cd.region ?_
 refine Lst.r (Ev.load (i := 0) rfl rfl Try.isAgg22 (v := Sl.v s_a2) (Get.here _)) ?_
 refine Lst.r (Ev.move rfl) ?_
 refine Lst.r (Ev.move rfl) ?_
 refine Lst.r (Ev.build (v := .agg (enc ({ Pair.zero with A := a0, B := a1 } : Pair)).toArray) (pv := [(0, iv a0), (1, iv a1)]) ⟨rfl, rfl, ⟨rfl, rfl, trivial⟩⟩ (fun w => by kernel_rfl)) ?_
 obtain ⟨r2, h3, H⟩ := bind_some H
 refine Lst.call1 rfl rfl (by decide) (vs := [Sl.v s_a2, .agg (enc ({ Pair.zero with A := a0, B := a1 } : Pair)).toArray]) ⟨rfl, rfl, trivial⟩ Try.call66 (slices_Contains_api_Pair_api_Pair_sim h3 w0 _ M _ (sc1 hM) (hs_a2.mono (FLe.refl _) (.refl _))) ?_
 refine Lst.r (Ev.assign rfl) ?_
 refine Lst.nil ?_
 refine At.then ?_
 obtain rfl := some_inj H
 refine Cd.ret ?_
 exact At.ret1 rfl (Res.tmp rfl) (FLe.refl _) (sk1 (.refl _)) ⟨rfl, rfl⟩
set_option maxRecDepth 20000 in
theorem partref_Most_2_simR : ∀ (fu : Nat) {a0 : Int} {a1 : List Bool} {a2 : Int} {a3_c0 : List Pair} {a4 : List Int} {s_a1 : Sl} {b_a2 : Nat} {b_a3 : Nat} {b_a3_c0 : Nat} {s_a3_c0 : Sl} {b_a4 : Nat} {s_a4 : Sl} {b_a5 : Nat} {r : (List Bool) × (List Int) × Bool} (H : partref_Most_2 fu a0 a1 a2 a3_c0 a4 = some r) (w0 : World) (F : Frz) (M L : List Item) (hM : M.Sublist L) (hs_a3_c0 : Rd w0 F M s_a3_c0 a3_c0), Ok Try.prog w0 68 [iv a0, Sl.v s_a1, pv b_a2 0, pv b_a3 0, pv b_a4 0, pv b_a5 0] F ((.own s_a1 4 1 (encs a1)) :: (.blk b_a2 (enc a2) 3) :: (.blk b_a3_c0 (enc s_a3_c0) 22) :: (.blk b_a3 [.func (.func 65) #[] #[pv b_a3_c0 0]] 94) :: (.own s_a4 3 1 (encs a4)) :: (.blk b_a4 (enc s_a4) 34) :: (.blk b_a5 [.func (.func 68) #[] #[pv b_a2 0, pv b_a3 0, pv b_a4 0, pv b_a5 0]] 108) :: L) (fun _ L' v => v = .bool r.2.2 ∧ L' = (.own s_a1 4 1 (encs r.1)) :: (.blk b_a2 (enc a2) 3) :: (.blk b_a3_c0 (enc s_a3_c0) 22) :: (.blk b_a3 [.func (.func 65) #[] #[pv b_a3_c0 0]] 94) :: (.own s_a4 3 1 (encs r.2.1)) :: (.blk b_a4 (enc s_a4) 34) :: (.blk b_a5 [.func (.func 68) #[] #[pv b_a2 0, pv b_a3 0, pv b_a4 0, pv b_a5 0]] 108) :: L) := by
 intro fu
 induction fu with
 | zero => intro a0 a1 a2 a3_c0 a4 s_a1 b_a2 b_a3 b_a3_c0 s_a3_c0 b_a4 s_a4 b_a5 r H; exact nomatch (show (none : Option ((List Bool) × (List Int) × Bool)) = some _ from H)
 | succ fu ih =>
  intro a0 a1 a2 a3_c0 a4 s_a1 b_a2 b_a3 b_a3_c0 s_a3_c0 b_a4 s_a4 b_a5 r H w0 F M L hM hs_a3_c0
  replace H : partref_Most_2_R (partref_Most_2 fu) a0 a1 a2 a3_c0 a4 = some r := H
  generalize partref_Most_2 fu = rc at H ih
  unfold partref_Most_2_R at H
  refine Ok.enter (m := 6) (n := 59) Try.func68 rfl rfl rfl (by decide) ?_
  refine Cd.env (e' := [(0, iv a0), (1, Sl.v s_a1), (2, pv b_a2 0), (3, pv b_a3 0), (4, pv b_a4 0), (5, pv b_a5 0)]) rfl ?_
  refine Cd.seq ?_
  refine Cd.region ?_
  refine Lst.r (Ev.assign rfl) ?_
  refine Lst.nil ?_
  refine At.then ?_
  refine Cd.seq ?_
  refine Cd.seq ?_
  refine Cd.region ?_
  refine Lst.r (Ev.load (i := 1) rfl rfl Try.isAgg3 (v := iv a2) (Get.here _)) ?_
  refine Lst.r (Ev.move rfl) ?_
  refine Lst.nil ?_
  refine At.then ?_
  refine Cd.block ?_
  obtain ⟨nn13, hN68, H⟩ := bind_some H
  replace hN68 := upTo_some hN68
  obtain ⟨ol8, H, HKl8⟩ := andThen_some H
  refine Cd.loop (σ := Nat × Nat × (List Bool) × (List Int)) (fun (i8, k8, l9, l10) => [(0, iv a0), (1, Sl.v s_a1), (3, pv b_a3 0), (4, pv b_a4 0), (5, pv b_a5 0), (11, iv a2), (12, iv (i8 : Int))]) (fun (i8, k8, l9, l10) => (.own s_a1 4 1 (encs l9)) :: (.blk b_a2 (enc a2) 3) :: (.blk b_a3_c0 (enc s_a3_c0) 22) :: (.blk b_a3 [.func (.func 65) #[] #[pv b_a3_c0 0]] 94) :: (.own s_a4 3 1 (encs l10)) :: (.blk b_a4 (enc s_a4) 34) :: (.blk b_a5 [.func (.func 68) #[] #[pv b_a2 0, pv b_a3 0, pv b_a4 0, pv b_a5 0]] 108) :: L) (fun _ => (fun (i8, k8, l9, l10) => rangeM (partref_Most_2_B0 a0 a2 a3_c0 rc) k8 i8 (l9, l10) = some ol8 ∧ i8 + k8 = nn13)) (fun (i8, k8, l9, l10) => k8) (0, nn13, a1, a4) ⟨rfl, rfl, rfl, rfl, rfl, rfl, rfl, trivial⟩ rfl ⟨H, by omega⟩ ?_
  rintro F11 ⟨i8, k8, l9, l10⟩ hF12 ⟨H, hik8⟩
  refine Cd.as (e' := [(0, iv a0), (1, Sl.v s_a1), (3, pv b_a3 0), (4, pv b_a4 0), (5, pv b_a5 0), (11, iv a2), (12, iv (i8 : Int))]) (L' := (.own s_a1 4 1 (encs l9)) :: (.blk b_a2 (enc a2) 3) :: (.blk b_a3_c0 (enc s_a3_c0) 22) :: (.blk b_a3 [.func (.func 65) #[] #[pv b_a3_c0 0]] 94) :: (.own s_a4 3 1 (encs l10)) :: (.blk b_a4 (enc s_a4) 34) :: (.blk b_a5 [.func (.func 68) #[] #[pv b_a2 0, pv b_a3 0, pv b_a4 0, pv b_a5 0]] 108) :: L) ⟨rfl, rfl, rfl, rfl, rfl, rfl, rfl, trivial⟩ rfl ?_
  rcases k8 with _ | k8
  ·have hc8 : decide ((i8 : Int) < a2) = false := decide_eq_false (by omega)
   replace H := rangeM_end H
   refine Cd.seq ?_
   refine Cd.region ?_
   refine Lst.r (Ev.lss rfl rfl) ?_
   refine Lst.nil ?_
   refine At.then ?_
   refine Cd.seq ?_
   refine Cd.condF rfl hc8 ?_
   refine Cd.exit ?_
   refine At.then_exit ?_
   refine At.then_exit ?_
   refine At.in_exit ?_
   subst H
   replace H := HKl8
   refine At.then ?_
   refine Cd.seq ?_
   refine Cd.region ?_
   refine Lst.r (Ev.assign rfl) ?_
   refine Lst.nil ?_
   refine At.then ?_
   obtain rfl := some_inj H
   refine Cd.ret ?_
   exact At.ret1 rfl (Res.tmp rfl) hF12 (sk1 (sk1 (sk1 (sk1 (sk1 (sk1 (sk1 (.refl _)))))))) ⟨rfl, rfl⟩
  have hc8 : decide ((i8 : Int) < a2) = true := decide_eq_true (by omega)
  obtain ⟨c8, H, hgo8, hbrk8, hret8⟩ := rangeM_go H
  unfold partref_Most_2_B0 at H
  try dsimp only at H
  refine Cd.seq ?_
  refine Cd.region ?_
  refine Lst.r (Ev.lss rfl rfl) ?_
  refine Lst.nil ?_
  refine At.then ?_
  refine Cd.seq ?_
  refine Cd.condT rfl hc8 ?_
  refine Cd.skip ?_
  refine At.then ?_
  refine Cd.seq ?_
  refine Cd.block ?_
  refine Cd.seq ?_
  refine Cd.region ?_
  refine Lst.r (Ev.move rfl) ?_
  refine Lst.r (Ev.assign rfl) ?_
  refine Lst.nil ?_
  refine At.then ?_
  refine Cd.seq ?_
  refine Cd.seq ?_
  refine Cd.region ?_
  refine Lst.r (Ev.load (i := 3) rfl rfl Try.isAgg94 (v := .func (.func 65) #[] #[pv b_a3_c0 0]) (Get.here _)) ?_
  refine Lst.r (Ev.move rfl) ?_
  refine Lst.r (Ev.move rfl) ?_
  obtain ⟨r14, h15, H⟩ := bind_some H
  refine Lst.front (i := 2) rfl (L' := (.blk b_a3_c0 (enc s_a3_c0) 22) :: (.own s_a1 4 1 (encs l9)) :: (.blk b_a2 (enc a2) 3) :: (.blk b_a3 [.func (.func 65) #[] #[pv b_a3_c0 0]] 94) :: (.own s_a4 3 1 (encs l10)) :: (.blk b_a4 (enc s_a4) 34) :: (.blk b_a5 [.func (.func 68) #[] #[pv b_a2 0, pv b_a3 0, pv b_a4 0, pv b_a5 0]] 108) :: L) rfl ?_
  refine Lst.callV1 rfl rfl (by decide) (vs := [iv a0, iv (i8 : Int)]) (cs := [pv b_a3_c0 0]) rfl ⟨rfl, rfl, trivial⟩ Try.call65 (partref_Most_1_sim h15 w0 _ M _ (sc4 (sc2 hM)) (hs_a3_c0.mono hF12 (.refl _))) ?_
  refine Lst.r (Ev.not rfl) ?_
  refine Lst.r (Ev.move rfl) ?_
  obtain ⟨o18, H, HKo18⟩ := bind_some H
  refine Lst.join (σ := Bool) 5 (fun y19 => [(0, iv a0), (1, Sl.v s_a1), (3, pv b_a3 0), (4, pv b_a4 0), (5, pv b_a5 0), (9, iv (i8 : Int)), (11, iv a2), (12, iv (i8 : Int)), (25, .bool y19)]) (fun y19 => (.blk b_a3_c0 (enc s_a3_c0) 22) :: (.own s_a1 4 1 (encs l9)) :: (.blk b_a2 (enc a2) 3) :: (.blk b_a3 [.func (.func 65) #[] #[pv b_a3_c0 0]] 94) :: (.own s_a4 3 1 (encs l10)) :: (.blk b_a4 (enc s_a4) 34) :: (.blk b_a5 [.func (.func 68) #[] #[pv b_a2 0, pv b_a3 0, pv b_a4 0, pv b_a5 0]] 108) :: L) (fun _ y19 => y19 = o18) ?_ ?_
  ·rcases Bool.eq_false_or_eq_true (!r14) with hb20 | hb20
   ·replace H := ite_t hb20 H
    refine Lst.skip rfl rfl rfl hb20 rfl (by decide) ?_
    refine Lst.skip rfl rfl rfl hb20 rfl (by decide) ?_
    refine Lst.skip rfl rfl rfl hb20 rfl (by decide) ?_
    refine Lst.skip rfl rfl rfl hb20 rfl (by decide) ?_
    refine Lst.r (Ev.pickT rfl hb20 rfl) ?_
    refine Lst.nil ?_
    exact At.meet true (FLe.refl _) ⟨rfl, rfl, rfl, rfl, rfl, rfl, rfl, rfl, rfl, trivial⟩ rfl (some_inj H)
   replace H := ite_f hb20 H
   refine Lst.rG hb20 (Ev.move rfl) ?_
   refine Lst.rG hb20 (Ev.move rfl) ?_
   obtain ⟨x21, h22, H⟩ := bind_some H
   have g23 := lat_some h22
   refine Lst.rG hb20 (Ev.indexS (α := Bool) (xs := l9) rfl rfl Try.runUnderlying75 Try.sizeOf4 rfl (by decide) (Rd.own (i := 1) rfl rfl rfl) g23.1 g23.2.1) ?_
   refine Lst.rG hb20 (Ev.loadS (α := Bool) rfl (Rd.own (i := 1) rfl rfl rfl) Try.isAgg4 (v := .bool x21) ((Get.elemN (s := 1) (x := x21) rfl g23.2.2 (Get.here _)).off (by omega))) ?_
   refine Lst.r (Ev.pickF rfl hb20 rfl) ?_
   refine Lst.nil ?_
   exact At.meet x21 (FLe.refl _) ⟨rfl, rfl, rfl, rfl, rfl, rfl, rfl, rfl, rfl, trivial⟩ rfl (some_inj H)
  rintro F24 y19 hF25 hy
  subst hy
  refine Lst.as (e' := [(0, iv a0), (1, Sl.v s_a1), (3, pv b_a3 0), (4, pv b_a4 0), (5, pv b_a5 0), (9, iv (i8 : Int)), (11, iv a2), (12, iv (i8 : Int)), (25, .bool y19)]) (L' := (.blk b_a3_c0 (enc s_a3_c0) 22) :: (.own s_a1 4 1 (encs l9)) :: (.blk b_a2 (enc a2) 3) :: (.blk b_a3 [.func (.func 65) #[] #[pv b_a3_c0 0]] 94) :: (.own s_a4 3 1 (encs l10)) :: (.blk b_a4 (enc s_a4) 34) :: (.blk b_a5 [.func (.func 68) #[] #[pv b_a2 0, pv b_a3 0, pv b_a4 0, pv b_a5 0]] 108) :: L) ⟨rfl, rfl, rfl, rfl, rfl, rfl, rfl, rfl, rfl, trivial⟩ rfl ?_
  replace H := HKo18
  refine Lst.nil ?_
  refine At.then ?_
  rcases Bool.eq_false_or_eq_true y19 with hb26 | hb26
  ·replace H := ite_t hb26 H
   refine Cd.condT rfl hb26 ?_
   refine Cd.exit ?_
   refine At.then_exit ?_
   refine At.in_exit ?_
   refine At.then ?_
   refine Cd.region ?_
   refine Lst.r (Ev.incr (by omega) rfl rfl) ?_
   refine Lst.r (Ev.move rfl) ?_
   refine Lst.nil ?_
   refine At.front (i := 2) rfl rfl ?_
   refine At.front (i := 2) rfl (L' := (.own s_a1 4 1 (encs l9)) :: (.blk b_a2 (enc a2) 3) :: (.blk b_a3_c0 (enc s_a3_c0) 22) :: (.blk b_a3 [.func (.func 65) #[] #[pv b_a3_c0 0]] 94) :: (.own s_a4 3 1 (encs l10)) :: (.blk b_a4 (enc s_a4) 34) :: (.blk b_a5 [.func (.func 68) #[] #[pv b_a2 0, pv b_a3 0, pv b_a4 0, pv b_a5 0]] 108) :: L) rfl ?_
   exact At.meet (i8 + 1, k8, l9, l10) (FLe.trans hF12 hF25) ⟨rfl, rfl, rfl, rfl, rfl, rfl, rfl, trivial⟩ rfl ⟨⟨hgo8 _ (some_inj H).symm, by omega⟩, Nat.lt_succ_self _⟩
  replace H := ite_f hb26 H
  refine Cd.condF rfl hb26 ?_
  refine Cd.skip ?_
  refine At.then ?_
  refine Cd.seq ?_
  refine Cd.region ?_
  refine Lst.r (Ev.move rfl) ?_
  refine Lst.r (Ev.move rfl) ?_
  obtain ⟨x27, h28, H⟩ := bind_some H
  have g29 := lat_some h28
  refine Lst.r (Ev.indexS (α := Bool) (xs := l9) rfl rfl Try.runUnderlying75 Try.sizeOf4 rfl (by decide) (Rd.own (i := 1) rfl rfl rfl) g29.1 g29.2.1) ?_
  obtain ⟨p30, h31, H⟩ := Let_some H
  refine Lst.storeS (i := 1) rfl rfl rfl rfl rfl Try.sizeOf4 (vs := [.bool true]) rfl rfl (by decide) rfl (xs' := encs p30) (by rw [← h31]; exact (Put.elemN (s := 1) (x := x27) rfl g29.2.2 (Put.here (vs := [.bool true]) rfl)).off (by omega)) (L' := (.blk b_a3_c0 (enc s_a3_c0) 22) :: (.own s_a1 4 1 (encs p30)) :: (.blk b_a2 (enc a2) 3) :: (.blk b_a3 [.func (.func 65) #[] #[pv b_a3_c0 0]] 94) :: (.own s_a4 3 1 (encs l10)) :: (.blk b_a4 (enc s_a4) 34) :: (.blk b_a5 [.func (.func 68) #[] #[pv b_a2 0, pv b_a3 0, pv b_a4 0, pv b_a5 0]] 108) :: L) rfl ?_
  refine Lst.nil ?_
  refine At.then ?_
  refine Cd.seq ?_
  refine Cd.region ?_
  refine Lst.r (Ev.load (i := 5) rfl rfl Try.isAgg34 (v := Sl.v s_a4) (Get.here _)) ?_
  refine Lst.r (Ev.move rfl) ?_
  obtain ⟨r32, h33, H⟩ := bind_some H
  refine Lst.call1 rfl rfl (by decide) (vs := [Sl.v s_a4, iv (i8 : Int)]) ⟨rfl, rfl, trivial⟩ Try.call60 (slices_Index_int_int_sim h33 w0 _ _ _ (.refl _) (Rd.own (i := 4) rfl rfl rfl)) ?_
  refine Lst.r (Ev.assign rfl) ?_
  refine Lst.nil ?_
  refine At.then ?_
  refine Cd.seq ?_
  refine Cd.seq ?_
  refine Cd.region ?_
  refine Lst.r (Ev.move rfl) ?_
  refine Lst.r (Ev.geq rfl rfl) ?_
  refine Lst.r (Ev.move rfl) ?_
  rcases (Bool.eq_false_or_eq_true (decide (r32 ≥ (0 : Int)))).symm with hb36 | hb36
  ·replace H := ite_f hb36 H
   refine Lst.skip rfl rfl rfl hb36 rfl (by decide) ?_
   refine Lst.skip rfl rfl rfl hb36 rfl (by decide) ?_
   refine Lst.skip rfl rfl rfl hb36 rfl (by decide) ?_
   refine Lst.skip rfl rfl rfl hb36 rfl (by decide) ?_
   refine Lst.skip rfl rfl rfl hb36 rfl (by decide) ?_
   refine Lst.r (Ev.pickF rfl hb36 rfl) ?_
   refine Lst.nil ?_
   refine At.then ?_
   refine Cd.condF rfl rfl ?_
   refine Cd.skip ?_
   refine At.then ?_
   obtain ⟨o37, H, HKo37⟩ := bind_some H
   refine Cd.join (σ := Unit) (fun (_ : Unit) => [(0, iv a0), (4, pv b_a4 0), (9, iv (i8 : Int))]) (fun (_ : Unit) => (.blk b_a3_c0 (enc s_a3_c0) 22) :: (.own s_a1 4 1 (encs p30)) :: (.blk b_a2 (enc a2) 3) :: (.blk b_a3 [.func (.func 65) #[] #[pv b_a3_c0 0]] 94) :: (.own s_a4 3 1 (encs l10)) :: (.blk b_a4 (enc s_a4) 34) :: (.blk b_a5 [.func (.func 68) #[] #[pv b_a2 0, pv b_a3 0, pv b_a4 0, pv b_a5 0]] 108) :: L) (fun _ (_ : Unit) => () = o37) ?_ ?_
   ·refine Cd.seq ?_
    refine Cd.as (e' := [(0, iv a0), (4, pv b_a4 0), (9, iv (i8 : Int)), (10, iv r32)]) (L' := (.blk b_a3_c0 (enc s_a3_c0) 22) :: (.own s_a1 4 1 (encs p30)) :: (.blk b_a2 (enc a2) 3) :: (.blk b_a3 [.func (.func 65) #[] #[pv b_a3_c0 0]] 94) :: (.own s_a4 3 1 (encs l10)) :: (.blk b_a4 (enc s_a4) 34) :: (.blk b_a5 [.func (.func 68) #[] #[pv b_a2 0, pv b_a3 0, pv b_a4 0, pv b_a5 0]] 108) :: L) ⟨rfl, rfl, rfl, rfl, trivial⟩ rfl ?_
    refine Cd.region ?_
    refine Lst.r (Ev.move rfl) ?_
    refine Lst.r (Ev.geq rfl rfl) ?_
    refine Lst.r (Ev.move rfl) ?_
    refine Lst.skip rfl rfl rfl hb36 rfl (by decide) ?_
    refine Lst.skip rfl rfl rfl hb36 rfl (by decide) ?_
    refine Lst.skip rfl rfl rfl hb36 rfl (by decide) ?_
    refine Lst.skip rfl rfl rfl hb36 rfl (by decide) ?_
    refine Lst.skip rfl rfl rfl hb36 rfl (by decide) ?_
    refine Lst.skip rfl rfl rfl hb36 rfl (by decide) ?_
    refine Lst.r (Ev.pickF rfl hb36 rfl) ?_
    refine Lst.nil ?_
    refine At.then ?_
    refine Cd.condF rfl rfl ?_
    refine Cd.skip ?_
    exact At.meet () (FLe.refl _) ⟨rfl, rfl, rfl, trivial⟩ rfl (some_inj H)
   rintro F38 _u hF39 hy
   subst hy
   refine Cd.as (e' := [(0, iv a0), (4, pv b_a4 0), (9, iv (i8 : Int))]) (L' := (.blk b_a3_c0 (enc s_a3_c0) 22) :: (.own s_a1 4 1 (encs p30)) :: (.blk b_a2 (enc a2) 3) :: (.blk b_a3 [.func (.func 65) #[] #[pv b_a3_c0 0]] 94) :: (.own s_a4 3 1 (encs l10)) :: (.blk b_a4 (enc s_a4) 34) :: (.blk b_a5 [.func (.func 68) #[] #[pv b_a2 0, pv b_a3 0, pv b_a4 0, pv b_a5 0]] 108) :: L) ⟨rfl, rfl, rfl, trivial⟩ rfl ?_
   replace H := HKo37
   refine Cd.seq ?_
   refine Cd.region ?_
   refine Lst.r (Ev.load (i := 5) rfl rfl Try.isAgg34 (v := Sl.v s_a4) (Get.here _)) ?_
   refine Lst.r (Ev.move rfl) ?_
   refine Lst.r (Ev.move rfl) ?_
   obtain ⟨x40, h41, H⟩ := bind_some H
   have g42 := lat_some h41
   refine Lst.r (Ev.indexS (α := Int) (xs := l10) rfl rfl Try.runUnderlying34 Try.sizeOf3 rfl (by decide) (Rd.own (i := 4) rfl rfl rfl) g42.1 g42.2.1) ?_
   obtain ⟨p43, h44, H⟩ := Let_some H
   refine Lst.storeS (i := 4) rfl rfl rfl rfl rfl Try.sizeOf3 (vs := [iv (i8 : Int)]) rfl rfl (by decide) rfl (xs' := encs p43) (by rw [← h44]; exact (Put.elemN (s := 1) (x := x40) rfl g42.2.2 (Put.here (vs := [iv (i8 : Int)]) rfl)).off (by omega)) (L' := (.blk b_a3_c0 (enc s_a3_c0) 22) :: (.own s_a1 4 1 (encs p30)) :: (.blk b_a2 (enc a2) 3) :: (.blk b_a3 [.func (.func 65) #[] #[pv b_a3_c0 0]] 94) :: (.own s_a4 3 1 (encs p43)) :: (.blk b_a4 (enc s_a4) 34) :: (.blk b_a5 [.func (.func 68) #[] #[pv b_a2 0, pv b_a3 0, pv b_a4 0, pv b_a5 0]] 108) :: L) rfl ?_
   refine Lst.nil ?_
   refine At.then ?_
   refine Cd.seq ?_
   refine Cd.region ?_
   refine Lst.r (Ev.assign rfl) ?_
   refine Lst.nil ?_
   refine At.then ?_
   have H := hret8 _ (some_inj H).symm
   subst H
   replace H := HKl8
   obtain rfl := some_inj H
   refine Cd.ret ?_
   refine At.in_ret ?_
   refine At.then_ret ?_
   refine At.then_ret ?_
   refine At.in_ret ?_
   refine At.then_ret ?_
   refine At.front (i := 2) rfl rfl ?_
   refine At.front (i := 2) rfl (L' := (.own s_a1 4 1 (encs p30)) :: (.blk b_a2 (enc a2) 3) :: (.blk b_a3_c0 (enc s_a3_c0) 22) :: (.blk b_a3 [.func (.func 65) #[] #[pv b_a3_c0 0]] 94) :: (.own s_a4 3 1 (encs p43)) :: (.blk b_a4 (enc s_a4) 34) :: (.blk b_a5 [.func (.func 68) #[] #[pv b_a2 0, pv b_a3 0, pv b_a4 0, pv b_a5 0]] 108) :: L) rfl ?_
   exact At.ret1 rfl (Res.tmp rfl) (FLe.trans (FLe.trans hF12 hF25) hF39) (sk1 (sk1 (sk1 (sk1 (sk1 (sk1 (sk1 (.refl _)))))))) ⟨rfl, rfl⟩
  replace H := ite_t hb36 H
  refine Lst.rG hb36 (Ev.load (i := 6) rfl rfl Try.isAgg108 (v := .func (.func 68) #[] #[pv b_a2 0, pv b_a3 0, pv b_a4 0, pv b_a5 0]) (Get.here _)) ?_
  refine Lst.rG hb36 (Ev.move rfl) ?_
  refine Lst.rG hb36 (Ev.move rfl) ?_
  obtain ⟨r45, h46, H⟩ := bind_some H
  refine Lst.front (i := 6) rfl rfl ?_
  refine Lst.front (i := 6) rfl rfl ?_
  refine Lst.front (i := 6) rfl (L' := (.own s_a4 3 1 (encs l10)) :: (.blk b_a4 (enc s_a4) 34) :: (.blk b_a5 [.func (.func 68) #[] #[pv b_a2 0, pv b_a3 0, pv b_a4 0, pv b_a5 0]] 108) :: (.blk b_a3_c0 (enc s_a3_c0) 22) :: (.own s_a1 4 1 (encs p30)) :: (.blk b_a2 (enc a2) 3) :: (.blk b_a3 [.func (.func 65) #[] #[pv b_a3_c0 0]] 94) :: L) rfl ?_
  refine Lst.front (i := 6) rfl rfl ?_
  refine Lst.front (i := 4) rfl rfl ?_
  refine Lst.front (i := 6) rfl (L' := (.blk b_a2 (enc a2) 3) :: (.blk b_a3_c0 (enc s_a3_c0) 22) :: (.blk b_a3 [.func (.func 65) #[] #[pv b_a3_c0 0]] 94) :: (.own s_a4 3 1 (encs l10)) :: (.blk b_a4 (enc s_a4) 34) :: (.blk b_a5 [.func (.func 68) #[] #[pv b_a2 0, pv b_a3 0, pv b_a4 0, pv b_a5 0]] 108) :: (.own s_a1 4 1 (encs p30)) :: L) rfl ?_
  refine Lst.front (i := 6) rfl (L' := (.own s_a1 4 1 (encs p30)) :: (.blk b_a2 (enc a2) 3) :: (.blk b_a3_c0 (enc s_a3_c0) 22) :: (.blk b_a3 [.func (.func 65) #[] #[pv b_a3_c0 0]] 94) :: (.own s_a4 3 1 (encs l10)) :: (.blk b_a4 (enc s_a4) 34) :: (.blk b_a5 [.func (.func 68) #[] #[pv b_a2 0, pv b_a3 0, pv b_a4 0, pv b_a5 0]] 108) :: L) rfl ?_
  refine Lst.callVG rfl rfl rfl hb36 rfl (by decide) (vs := [iv r32, Sl.v s_a1]) (cs := [pv b_a2 0, pv b_a3 0, pv b_a4 0, pv b_a5 0]) rfl ⟨rfl, rfl, trivial⟩ Try.call68 (ih h46 w0 _ M _ hM (hs_a3_c0.mono (FLe.trans hF12 hF25) (.refl _))) (fun F47 L' v hF48 hv => ?_)
  obtain ⟨rfl, rfl⟩ := hv
  refine Lst.rG hb36 (Ev.not rfl) ?_
  refine Lst.r (Ev.pickT rfl hb36 rfl) ?_
  refine Lst.nil ?_
  refine At.then ?_
  rcases Bool.eq_false_or_eq_true (!r45.2.2) with hb49 | hb49
  ·replace H := ite_t hb49 H
   refine Cd.condT rfl hb49 ?_
   refine Cd.exit ?_
   refine At.then_exit ?_
   refine At.in_exit ?_
   refine At.then ?_
   refine Cd.as (e' := [(0, iv a0), (1, Sl.v s_a1), (3, pv b_a3 0), (4, pv b_a4 0), (5, pv b_a5 0), (11, iv a2), (12, iv (i8 : Int))]) (L' := (.own s_a1 4 1 (encs r45.1)) :: (.blk b_a2 (enc a2) 3) :: (.blk b_a3_c0 (enc s_a3_c0) 22) :: (.blk b_a3 [.func (.func 65) #[] #[pv b_a3_c0 0]] 94) :: (.own s_a4 3 1 (encs r45.2.1)) :: (.blk b_a4 (enc s_a4) 34) :: (.blk b_a5 [.func (.func 68) #[] #[pv b_a2 0, pv b_a3 0, pv b_a4 0, pv b_a5 0]] 108) :: L) ⟨rfl, rfl, rfl, rfl, rfl, rfl, rfl, trivial⟩ rfl ?_
   refine Cd.region ?_
   refine Lst.r (Ev.incr (by omega) rfl rfl) ?_
   refine Lst.r (Ev.move rfl) ?_
   refine Lst.nil ?_
   exact At.meet (i8 + 1, k8, r45.1, r45.2.1) (FLe.trans (FLe.trans hF12 hF25) hF48) ⟨rfl, rfl, rfl, rfl, rfl, rfl, rfl, trivial⟩ rfl ⟨⟨hgo8 _ (some_inj H).symm, by omega⟩, Nat.lt_succ_self _⟩
  replace H := ite_f hb49 H
  refine Cd.condF rfl hb49 ?_
  refine Cd.skip ?_
  refine At.then ?_
  obtain ⟨o51, H, HKo51⟩ := bind_some H
  refine Cd.join (σ := (List Int)) (fun l50 => [(0, iv a0), (4, pv b_a4 0), (9, iv (i8 : Int))]) (fun l50 => (.own s_a1 4 1 (encs r45.1)) :: (.blk b_a2 (enc a2) 3) :: (.blk b_a3_c0 (enc s_a3_c0) 22) :: (.blk b_a3 [.func (.func 65) #[] #[pv b_a3_c0 0]] 94) :: (.own s_a4 3 1 (encs l50)) :: (.blk b_a4 (enc s_a4) 34) :: (.blk b_a5 [.func (.func 68) #[] #[pv b_a2 0, pv b_a3 0, pv b_a4 0, pv b_a5 0]] 108) :: L) (fun _ l50 => l50 = o51) ?_ ?_
  ·refine Cd.seq ?_
   refine Cd.as (e' := [(0, iv a0), (4, pv b_a4 0), (9, iv (i8 : Int)), (10, iv r32)]) (L' := (.own s_a1 4 1 (encs r45.1)) :: (.blk b_a2 (enc a2) 3) :: (.blk b_a3_c0 (enc s_a3_c0) 22) :: (.blk b_a3 [.func (.func 65) #[] #[pv b_a3_c0 0]] 94) :: (.own s_a4 3 1 (encs r45.2.1)) :: (.blk b_a4 (enc s_a4) 34) :: (.blk b_a5 [.func (.func 68) #[] #[pv b_a2 0, pv b_a3 0, pv b_a4 0, pv b_a5 0]] 108) :: L) ⟨rfl, rfl, rfl, rfl, trivial⟩ rfl ?_
   refine Cd.region ?_
   refine Lst.r (Ev.move rfl) ?_
   refine Lst.r (Ev.geq rfl rfl) ?_
   refine Lst.r (Ev.move rfl) ?_
   refine Lst.rG hb36 (Ev.load (i := 5) rfl rfl Try.isAgg34 (v := Sl.v s_a4) (Get.here _)) ?_
   refine Lst.rG hb36 (Ev.move rfl) ?_
   obtain ⟨x52, h53, H⟩ := bind_some H
   have g54 := lat_some h53
   refine Lst.rG hb36 (Ev.indexS (α := Int) (xs := r45.2.1) rfl rfl Try.runUnderlying34 Try.sizeOf3 rfl (by decide) (Rd.own (i := 4) rfl rfl rfl) g54.1 g54.2.1) ?_
   refine Lst.rG hb36 (Ev.loadS (α := Int) rfl (Rd.own (i := 4) rfl rfl rfl) Try.isAgg3 (v := iv x52) ((Get.elemN (s := 1) (x := x52) rfl g54.2.2 (Get.here _)).off (by omega))) ?_
   refine Lst.rG hb36 (Ev.move rfl) ?_
   refine Lst.rG hb36 (Ev.eql rfl rfl) ?_
   refine Lst.r (Ev.pickT rfl hb36 rfl) ?_
   refine Lst.nil ?_
   refine At.then ?_
   rcases (Bool.eq_false_or_eq_true (x52 == (i8 : Int))).symm with hb55 | hb55
   ·replace H := ite_f hb55 H
    refine Cd.condF rfl hb55 ?_
    refine Cd.skip ?_
    exact At.meet r45.2.1 (FLe.refl _) ⟨rfl, rfl, rfl, trivial⟩ rfl (some_inj H)
   replace H := ite_t hb55 H
   refine Cd.condT rfl hb55 ?_
   refine Cd.region ?_
   refine Lst.r (Ev.load (i := 5) rfl rfl Try.isAgg34 (v := Sl.v s_a4) (Get.here _)) ?_
   refine Lst.r (Ev.move rfl) ?_
   obtain ⟨x56, h57, H⟩ := bind_some H
   have g58 := lat_some h57
   refine Lst.r (Ev.indexS (α := Int) (xs := r45.2.1) rfl rfl Try.runUnderlying34 Try.sizeOf3 rfl (by decide) (Rd.own (i := 4) rfl rfl rfl) g58.1 g58.2.1) ?_
   obtain ⟨p59, h60, H⟩ := Let_some H
   refine Lst.storeS (i := 4) rfl rfl rfl rfl rfl Try.sizeOf3 (vs := [iv (-1 : Int)]) rfl rfl (by decide) rfl (xs' := encs p59) (by rw [← h60]; exact (Put.elemN (s := 1) (x := x56) rfl g58.2.2 (Put.here (vs := [iv (-1 : Int)]) rfl)).off (by omega)) (L' := (.own s_a1 4 1 (encs r45.1)) :: (.blk b_a2 (enc a2) 3) :: (.blk b_a3_c0 (enc s_a3_c0) 22) :: (.blk b_a3 [.func (.func 65) #[] #[pv b_a3_c0 0]] 94) :: (.own s_a4 3 1 (encs p59)) :: (.blk b_a4 (enc s_a4) 34) :: (.blk b_a5 [.func (.func 68) #[] #[pv b_a2 0, pv b_a3 0, pv b_a4 0, pv b_a5 0]] 108) :: L) rfl ?_
   refine Lst.nil ?_
   exact At.meet p59 (FLe.refl _) ⟨rfl, rfl, rfl, trivial⟩ rfl (some_inj H)
  rintro F61 l50 hF62 hy
  subst hy
  refine Cd.as (e' := [(0, iv a0), (4, pv b_a4 0), (9, iv (i8 : Int))]) (L' := (.own s_a1 4 1 (encs r45.1)) :: (.blk b_a2 (enc a2) 3) :: (.blk b_a3_c0 (enc s_a3_c0) 22) :: (.blk b_a3 [.func (.func 65) #[] #[pv b_a3_c0 0]] 94) :: (.own s_a4 3 1 (encs l50)) :: (.blk b_a4 (enc s_a4) 34) :: (.blk b_a5 [.func (.func 68) #[] #[pv b_a2 0, pv b_a3 0, pv b_a4 0, pv b_a5 0]] 108) :: L) ⟨rfl, rfl, rfl, trivial⟩ rfl ?_
  replace H := HKo51
  refine Cd.seq ?_
  refine Cd.region ?_
  refine Lst.r (Ev.load (i := 5) rfl rfl Try.isAgg34 (v := Sl.v s_a4) (Get.here _)) ?_
  refine Lst.r (Ev.move rfl) ?_
  refine Lst.r (Ev.move rfl) ?_
  obtain ⟨x63, h64, H⟩ := bind_some H
  have g65 := lat_some h64
  refine Lst.r (Ev.indexS (α := Int) (xs := l50) rfl rfl Try.runUnderlying34 Try.sizeOf3 rfl (by decide) (Rd.own (i := 4) rfl rfl rfl) g65.1 g65.2.1) ?_
  obtain ⟨p66, h67, H⟩ := Let_some H
  refine Lst.storeS (i := 4) rfl rfl rfl rfl rfl Try.sizeOf3 (vs := [iv (i8 : Int)]) rfl rfl (by decide) rfl (xs' := encs p66) (by rw [← h67]; exact (Put.elemN (s := 1) (x := x63) rfl g65.2.2 (Put.here (vs := [iv (i8 : Int)]) rfl)).off (by omega)) (L' := (.own s_a1 4 1 (encs r45.1)) :: (.blk b_a2 (enc a2) 3) :: (.blk b_a3_c0 (enc s_a3_c0) 22) :: (.blk b_a3 [.func (.func 65) #[] #[pv b_a3_c0 0]] 94) :: (.own s_a4 3 1 (encs p66)) :: (.blk b_a4 (enc s_a4) 34) :: (.blk b_a5 [.func (.func 68) #[] #[pv b_a2 0, pv b_a3 0, pv b_a4 0, pv b_a5 0]] 108) :: L) rfl ?_
  refine Lst.nil ?_
  refine At.then ?_
  refine Cd.seq ?_
  refine Cd.region ?_
  refine Lst.r (Ev.assign rfl) ?_
  refine Lst.nil ?_
  refine At.then ?_
  have H := hret8 _ (some_inj H).symm
  subst H
  replace H := HKl8
  obtain rfl := some_inj H
  refine Cd.ret ?_
  refine At.in_ret ?_
  refine At.then_ret ?_
  refine At.then_ret ?_
  refine At.in_ret ?_
  refine At.then_ret ?_
  exact At.ret1 rfl (Res.tmp rfl) (FLe.trans (FLe.trans (FLe.trans hF12 hF25) hF48) hF62) (sk1 (sk1 (sk1 (sk1 (sk1 (sk1 (sk1 (.refl _)))))))) ⟨rfl, rfl⟩
theorem partref_Most_2_sim {fu : Nat} {a0 : Int} {a1 : List Bool} {a2 : Int} {a3_c0 : List Pair} {a4 : List Int} {s_a1 : Sl} {b_a2 : Nat} {b_a3 : Nat} {b_a3_c0 : Nat} {s_a3_c0 : Sl} {b_a4 : Nat} {s_a4 : Sl} {b_a5 : Nat} {r : (List Bool) × (List Int) × Bool} (H : partref_Most_2 fu a0 a1 a2 a3_c0 a4 = some r) (w0 : World) (F : Frz) (M L : List Item) (hM : M.Sublist L) (hs_a3_c0 : Rd w0 F M s_a3_c0 a3_c0) : Ok Try.prog w0 68 [iv a0, Sl.v s_a1, pv b_a2 0, pv b_a3 0, pv b_a4 0, pv b_a5 0] F ((.own s_a1 4 1 (encs a1)) :: (.blk b_a2 (enc a2) 3) :: (.blk b_a3_c0 (enc s_a3_c0) 22) :: (.blk b_a3 [.func (.func 65) #[] #[pv b_a3_c0 0]] 94) :: (.own s_a4 3 1 (encs a4)) :: (.blk b_a4 (enc s_a4) 34) :: (.blk b_a5 [.func (.func 68) #[] #[pv b_a2 0, pv b_a3 0, pv b_a4 0, pv b_a5 0]] 108) :: L) (fun _ L' v => v = .bool r.2.2 ∧ L' = (.own s_a1 4 1 (encs r.1)) :: (.blk b_a2 (enc a2) 3) :: (.blk b_a3_c0 (enc s_a3_c0) 22) :: (.blk b_a3 [.func (.func 65) #[] #[pv b_a3_c0 0]] 94) :: (.own s_a4 3 1 (encs r.2.1)) :: (.blk b_a4 (enc s_a4) 34) :: (.blk b_a5 [.func (.func 68) #[] #[pv b_a2 0, pv b_a3 0, pv b_a4 0, pv b_a5 0]] 108) :: L) :=
  partref_Most_2_simR fu H w0 F M L hM hs_a3_c0
set_option maxRecDepth 20000 in
theorem partref_Most_sim {fu : Nat} {a0 : Int} {a1 : Int} {a2 : List Pair} {s_a2 : Sl} {r : (List Int)} (H : partref_Most fu a0 a1 a2 = some r) (w0 : World) (F : Frz) (M L : List Item) (hM : M.Sublist L) (hs_a2 : Rd w0 F M s_a2 a2) : Ok Try.prog w0 40 [iv a0, iv a1, Sl.v s_a2] F (L) (fun _ L' v => ∃ (s1 : Sl), v = Sl.v s1 ∧ L' = (.own s1 3 1 (encs r)) :: L) := by
 unfold partref_Most at H
 refine Ok.enter (m := 3) (n := 27) Try.func40 rfl rfl rfl (by decide) ?_
 refine Cd.env (e' := [(0, iv a0), (1, iv a1), (2, Sl.v s_a2)]) rfl ?_
 refine Cd.seq ?_
 refine Cd.region ?_
 refine Lst.box rfl rfl (by decide) rfl (cs := enc a1) rfl (fun b1 => ?_)
 refine Lst.box rfl rfl (by decide) rfl (cs := enc s_a2) rfl (fun b3 => ?_)
 refine Lst.addNil 3 1 ?_
 refine Lst.r (Ev.assign rfl) ?_
 refine Lst.nil ?_
 refine At.then ?_
 refine Cd.seq ?_
 refine Cd.region ?_
 refine Lst.r (Ev.makeFunc (us := []) (vs := [pv b3 0]) trivial ⟨rfl, trivial⟩) ?_
 refine Lst.alloc (cs := [.nilFunc]) rfl rfl (by decide) Try.zeroValue94 rfl (fun b6 => ?_)
 refine Lst.store (i := 0) rfl rfl rfl rfl rfl Try.sizeOf94 (vs := [.func (.func 65) #[] #[pv b3 0]]) rfl rfl rfl (cs' := [.func (.func 65) #[] #[pv b3 0]]) (Put.here (vs := [.func (.func 65) #[] #[pv b3 0]]) rfl) (L' := (.blk b6 [.func (.func 65) #[] #[pv b3 0]] 94) :: (.own Sl.nil 3 1 (encs ([] : List Int))) :: (.blk b3 (enc s_a2) 22) :: (.blk b1 (enc a1) 3) :: L) rfl ?_
 refine Lst.nil ?_
 refine At.then ?_
 refine Cd.seq ?_
 refine Cd.region ?_
 refine Lst.buildSlice (α := Int) (xs := ([(-1 : Int)] : List Int)) (pv := [(0, iv (-1 : Int))]) rfl rfl (by decide) ⟨rfl, rfl, trivial⟩ (run_buildSlice (α := Int) (z0 := (0 : Int)) (xs := ([(-1 : Int)] : List Int)) Try.runUnderlying34 Try.sizeOf3 Try.zeroValue3 rfl rfl rfl (by decide) rfl (fill_cons (cs := encs (List.replicate 1 (0 : Int))) (cs' := encs ((List.replicate 1 (0 : Int)).set 0 (-1 : Int))) (vs := [iv (-1 : Int)]) rfl rfl rfl ((Put.elemN (s := 1) (i := 0) (x := (0 : Int)) (y := (-1 : Int)) rfl rfl (Put.here (vs := [iv (-1 : Int)]) rfl)).off rfl) fill_nil)) rfl rfl (by decide) (fun s8 _ => ?_)
 refine Lst.r (Ev.move rfl) ?_
 obtain ⟨r10, h11, H⟩ := bind_some H
 refine Lst.call rfl rfl (by decide) (vs := [Sl.v s8, iv a0]) ⟨rfl, rfl, trivial⟩ Try.call67 (slices_Repeat_int_int_sim h11 w0 _ _ _ (.refl _) (Rd.own (i := 0) rfl rfl rfl)) (fun F14 L' v hF15 hv => ?_)
 obtain ⟨s12, rfl, rfl⟩ := hv
 refine Lst.addNil 3 1 ?_
 refine Lst.alloc (cs := enc Sl.nil) rfl rfl (by decide) Try.zeroValue34 rfl (fun b17 => ?_)
 refine Lst.store (i := 0) rfl rfl rfl rfl rfl Try.sizeOf34 (vs := [Sl.v s12]) rfl rfl rfl (cs' := enc s12) (Put.here (vs := [Sl.v s12]) rfl) (L' := (.blk b17 (enc s12) 34) :: (.own Sl.nil 3 1 (encs ([] : List Int))) :: (.own s12 3 1 (encs r10)) :: (.own s8 3 1 (encs ([(-1 : Int)] : List Int))) :: (.blk b6 [.func (.func 65) #[] #[pv b3 0]] 94) :: (.own Sl.nil 3 1 (encs ([] : List Int))) :: (.blk b3 (enc s_a2) 22) :: (.blk b1 (enc a1) 3) :: L) rfl ?_
 refine Lst.nil ?_
 refine At.then ?_
 refine Cd.seq ?_
 refine Cd.region ?_
 refine Lst.alloc (cs := [.nilFunc]) rfl rfl (by decide) Try.zeroValue108 rfl (fun b19 => ?_)
 refine Lst.nil ?_
 refine At.then ?_
 refine Cd.seq ?_
 refine Cd.region ?_
 refine Lst.r (Ev.makeFunc (us := []) (vs := [pv b1 0, pv b6 0, pv b17 0, pv b19 0]) trivial ⟨rfl, rfl, rfl, rfl, trivial⟩) ?_
 refine Lst.store (i := 0) rfl rfl rfl rfl rfl Try.sizeOf108 (vs := [.func (.func 68) #[] #[pv b1 0, pv b6 0, pv b17 0, pv b19 0]]) rfl rfl rfl (cs' := [.func (.func 68) #[] #[pv b1 0, pv b6 0, pv b17 0, pv b19 0]]) (Put.here (vs := [.func (.func 68) #[] #[pv b1 0, pv b6 0, pv b17 0, pv b19 0]]) rfl) (L' := (.blk b19 [.func (.func 68) #[] #[pv b1 0, pv b6 0, pv b17 0, pv b19 0]] 108) :: (.blk b17 (enc s12) 34) :: (.own Sl.nil 3 1 (encs ([] : List Int))) :: (.own s12 3 1 (encs r10)) :: (.own s8 3 1 (encs ([(-1 : Int)] : List Int))) :: (.blk b6 [.func (.func 65) #[] #[pv b3 0]] 94) :: (.own Sl.nil 3 1 (encs ([] : List Int))) :: (.blk b3 (enc s_a2) 22) :: (.blk b1 (enc a1) 3) :: L) rfl ?_
 refine Lst.nil ?_
 refine At.then ?_
 refine Cd.seq ?_
 refine Cd.seq ?_
 refine Cd.region ?_
 refine Lst.r (Ev.move rfl) ?_
 refine Lst.r (Ev.move rfl) ?_
 refine Lst.nil ?_
 refine At.then ?_
 refine Cd.block ?_
 obtain ⟨nn25, hN44, H⟩ := bind_some H
 replace hN44 := upTo_some hN44
 obtain ⟨ol21, H, HKl21⟩ := bind_some H
 refine Cd.loop (σ := Nat × Nat × (List Int)) (fun (i21, k21, l22) => [(4, pv b1 0), (8, pv b17 0), (9, pv b19 0), (16, iv a0), (17, iv (i21 : Int))]) (fun (i21, k21, l22) => (.blk b19 [.func (.func 68) #[] #[pv b1 0, pv b6 0, pv b17 0, pv b19 0]] 108) :: (.blk b17 (enc s12) 34) :: (.own Sl.nil 3 1 (encs ([] : List Int))) :: (.own s12 3 1 (encs l22)) :: (.own s8 3 1 (encs ([(-1 : Int)] : List Int))) :: (.blk b6 [.func (.func 65) #[] #[pv b3 0]] 94) :: (.own Sl.nil 3 1 (encs ([] : List Int))) :: (.blk b3 (enc s_a2) 22) :: (.blk b1 (enc a1) 3) :: L) (fun _ => (fun (i21, k21, l22) => rangeF (partref_Most_B0 fu a1 a2) k21 i21 l22 = some ol21 ∧ i21 + k21 = nn25)) (fun (i21, k21, l22) => k21) (0, nn25, r10) ⟨rfl, rfl, rfl, rfl, rfl, trivial⟩ rfl ⟨H, by omega⟩ ?_
 rintro F23 ⟨i21, k21, l22⟩ hF24 ⟨H, hik21⟩
 refine Cd.as (e' := [(4, pv b1 0), (8, pv b17 0), (9, pv b19 0), (16, iv a0), (17, iv (i21 : Int))]) (L' := (.blk b19 [.func (.func 68) #[] #[pv b1 0, pv b6 0, pv b17 0, pv b19 0]] 108) :: (.blk b17 (enc s12) 34) :: (.own Sl.nil 3 1 (encs ([] : List Int))) :: (.own s12 3 1 (encs l22)) :: (.own s8 3 1 (encs ([(-1 : Int)] : List Int))) :: (.blk b6 [.func (.func 65) #[] #[pv b3 0]] 94) :: (.own Sl.nil 3 1 (encs ([] : List Int))) :: (.blk b3 (enc s_a2) 22) :: (.blk b1 (enc a1) 3) :: L) ⟨rfl, rfl, rfl, rfl, rfl, trivial⟩ rfl ?_
 rcases k21 with _ | k21
 ·have hc21 : decide ((i21 : Int) < a0) = false := decide_eq_false (by omega)
  replace H := rangeF_end H
  refine Cd.seq ?_
  refine Cd.region ?_
  refine Lst.r (Ev.lss rfl rfl) ?_
  refine Lst.nil ?_
  refine At.then ?_
  refine Cd.seq ?_
  refine Cd.condF rfl hc21 ?_
  refine Cd.exit ?_
  refine At.then_exit ?_
  refine At.then_exit ?_
  refine At.in_exit ?_
  subst H
  replace H := HKl21
  refine At.then ?_
  refine Cd.seq ?_
  refine Cd.region ?_
  refine Lst.r (Ev.load (i := 1) rfl rfl Try.isAgg34 (v := Sl.v s12) (Get.here _)) ?_
  refine Lst.r (Ev.assign rfl) ?_
  refine Lst.nil ?_
  refine At.then ?_
  obtain rfl := some_inj H
  refine Cd.ret ?_
  exact At.ret1 rfl (Res.tmp rfl) (FLe.trans hF15 hF24) (sc1 (sc1 (sc1 (sk1 (sc1 (sc1 (sc1 (sc1 (sc1 (.refl _)))))))))) ⟨s12, rfl, rfl⟩
 have hc21 : decide ((i21 : Int) < a0) = true := decide_eq_true (by omega)
 obtain ⟨c21, H, hgo21⟩ := rangeF_go H
 unfold partref_Most_B0 at H
 try dsimp only at H
 refine Cd.seq ?_
 refine Cd.region ?_
 refine Lst.r (Ev.lss rfl rfl) ?_
 refine Lst.nil ?_
 refine At.then ?_
 refine Cd.seq ?_
 refine Cd.condT rfl hc21 ?_
 refine Cd.skip ?_
 refine At.then ?_
 refine Cd.seq ?_
 refine Cd.block ?_
 refine Cd.seq ?_
 refine Cd.region ?_
 refine Lst.r (Ev.move rfl) ?_
 refine Lst.r (Ev.assign rfl) ?_
 refine Lst.nil ?_
 refine At.then ?_
 obtain ⟨n26, h27, H⟩ := bind_some H
 obtain ⟨o34, h35, H⟩ := Let_some H
 refine Cd.headMeet (σ := Sl × (List Bool)) 4 (fun (s32, l33) => [(4, pv b1 0), (8, pv b17 0), (9, pv b19 0), (16, iv a0), (17, iv (i21 : Int)), (20, .func (.func 68) #[] #[pv b1 0, pv b6 0, pv b17 0, pv b19 0]), (21, iv (i21 : Int)), (23, Sl.v s32)]) (fun (s32, l33) => (.own s32 4 1 (encs l33)) :: (.blk b19 [.func (.func 68) #[] #[pv b1 0, pv b6 0, pv b17 0, pv b19 0]] 108) :: (.blk b17 (enc s12) 34) :: (.own Sl.nil 3 1 (encs ([] : List Int))) :: (.own s12 3 1 (encs l22)) :: (.own s8 3 1 (encs ([(-1 : Int)] : List Int))) :: (.blk b6 [.func (.func 65) #[] #[pv b3 0]] 94) :: (.own Sl.nil 3 1 (encs ([] : List Int))) :: (.blk b3 (enc s_a2) 22) :: (.blk b1 (enc a1) 3) :: L) (fun _ (s32, l33) => l33 = o34) (by kernel_rfl) (by kernel_rfl) (behind_sink (by kernel_rfl) (by kernel_rfl) (by kernel_rfl)) (by kernel_rfl) (fun hsel hlt => ?_) ?_
 ·refine HdJ.keep (fun w => St w0 F23 ((.blk b19 [.func (.func 68) #[] #[pv b1 0, pv b6 0, pv b17 0, pv b19 0]] 108) :: (.blk b17 (enc s12) 34) :: (.own Sl.nil 3 1 (encs ([] : List Int))) :: (.own s12 3 1 (encs l22)) :: (.own s8 3 1 (encs ([(-1 : Int)] : List Int))) :: (.blk b6 [.func (.func 65) #[] #[pv b3 0]] 94) :: (.own Sl.nil 3 1 (encs ([] : List Int))) :: (.blk b3 (enc s_a2) 22) :: (.blk b1 (enc a1) 3) :: L) w) (fun w h => trivial) ?_
  refine HdJ.tk hsel hlt 0 (fun w h => h.sublist (sk1 (sk1 (sk1 (sk1 (sk1 (sk1 (sk1 (sk1 (sk1 (.refl _))))))))))) rfl (Ev.load (i := 0) rfl rfl Try.isAgg108 (v := .func (.func 68) #[] #[pv b1 0, pv b6 0, pv b17 0, pv b19 0]) (Get.here _)) ?_
  refine HdJ.tk hsel hlt 1 (fun w h => h.sublist (sk1 (sk1 (sk1 (sk1 (sk1 (sk1 (sk1 (sk1 (sk1 (.refl _))))))))))) rfl (Ev.move rfl) ?_
  refine HdJ.tk hsel hlt 2 (fun w h => h.sublist (sk1 (sk1 (sk1 (sk1 (sk1 (sk1 (sk1 (sk1 (sk1 (.refl _))))))))))) rfl (Ev.load (i := 8) rfl rfl Try.isAgg3 (v := iv a1) (Get.here _)) ?_
  refine HdJ.step [3] (by kernel_rfl) rfl ?_
  refine HdStep.c (fun inv => ?_) ?_
  ·have g36 := mkLen_some h27
   refine Lst.make (α := Bool) (z0 := false) (k := n26) rfl rfl (by decide) (congrArg some (congrArg (Value.int .i64) g36.1)) (congrArg some (congrArg (Value.int .i64) g36.1)) Try.runUnderlying75 Try.typeInfo4 rfl rfl rfl rfl rfl g36.2 rfl (fun s37 => ?_)
   refine Lst.nil ?_
   refine At.hd inv (fun w h => (h.weaken (FLe.refl _)).sublist (sc1 (sk1 (sk1 (sk1 (sk1 (sk1 (sk1 (sk1 (sk1 (sk1 (.refl _)))))))))))) ?_
   refine HdJ.done (by kernel_rfl) ?_
   exact At.meetN (s37, (List.replicate n26 false)) (FLe.refl _) ⟨rfl, rfl, rfl, rfl, rfl, rfl, rfl, rfl, trivial⟩ rfl h35
  exact trivial
 rintro F38 ⟨s32, l33⟩ hF39 hy
 subst hy
 refine Lst.as (e' := [(4, pv b1 0), (8, pv b17 0), (9, pv b19 0), (16, iv a0), (17, iv (i21 : Int)), (20, .func (.func 68) #[] #[pv b1 0, pv b6 0, pv b17 0, pv b19 0]), (21, iv (i21 : Int)), (23, Sl.v s32)]) (L' := (.own s32 4 1 (encs l33)) :: (.blk b19 [.func (.func 68) #[] #[pv b1 0, pv b6 0, pv b17 0, pv b19 0]] 108) :: (.blk b17 (enc s12) 34) :: (.own Sl.nil 3 1 (encs ([] : List Int))) :: (.own s12 3 1 (encs l22)) :: (.own s8 3 1 (encs ([(-1 : Int)] : List Int))) :: (.blk b6 [.func (.func 65) #[] #[pv b3 0]] 94) :: (.own Sl.nil 3 1 (encs ([] : List Int))) :: (.blk b3 (enc s_a2) 22) :: (.blk b1 (enc a1) 3) :: L) ⟨rfl, rfl, rfl, rfl, rfl, rfl, rfl, rfl, trivial⟩ rfl ?_
 obtain ⟨r40, h41, H⟩ := bind_some H
 refine Lst.front (i := 1) rfl rfl ?_
 refine Lst.front (i := 2) rfl rfl ?_
 refine Lst.front (i := 4) rfl (L' := (.own s12 3 1 (encs l22)) :: (.blk b17 (enc s12) 34) :: (.blk b19 [.func (.func 68) #[] #[pv b1 0, pv b6 0, pv b17 0, pv b19 0]] 108) :: (.own s32 4 1 (encs l33)) :: (.own Sl.nil 3 1 (encs ([] : List Int))) :: (.own s8 3 1 (encs ([(-1 : Int)] : List Int))) :: (.blk b6 [.func (.func 65) #[] #[pv b3 0]] 94) :: (.own Sl.nil 3 1 (encs ([] : List Int))) :: (.blk b3 (enc s_a2) 22) :: (.blk b1 (enc a1) 3) :: L) rfl ?_
 refine Lst.front (i := 6) rfl rfl ?_
 refine Lst.front (i := 8) rfl rfl ?_
 refine Lst.front (i := 9) rfl (L' := (.blk b1 (enc a1) 3) :: (.blk b3 (enc s_a2) 22) :: (.blk b6 [.func (.func 65) #[] #[pv b3 0]] 94) :: (.own s12 3 1 (encs l22)) :: (.blk b17 (enc s12) 34) :: (.blk b19 [.func (.func 68) #[] #[pv b1 0, pv b6 0, pv b17 0, pv b19 0]] 108) :: (.own s32 4 1 (encs l33)) :: (.own Sl.nil 3 1 (encs ([] : List Int))) :: (.own s8 3 1 (encs ([(-1 : Int)] : List Int))) :: (.own Sl.nil 3 1 (encs ([] : List Int))) :: L) rfl ?_
 refine Lst.front (i := 6) rfl (L' := (.own s32 4 1 (encs l33)) :: (.blk b1 (enc a1) 3) :: (.blk b3 (enc s_a2) 22) :: (.blk b6 [.func (.func 65) #[] #[pv b3 0]] 94) :: (.own s12 3 1 (encs l22)) :: (.blk b17 (enc s12) 34) :: (.blk b19 [.func (.func 68) #[] #[pv b1 0, pv b6 0, pv b17 0, pv b19 0]] 108) :: (.own Sl.nil 3 1 (encs ([] : List Int))) :: (.own s8 3 1 (encs ([(-1 : Int)] : List Int))) :: (.own Sl.nil 3 1 (encs ([] : List Int))) :: L) rfl ?_
 refine Lst.callV rfl rfl (by decide) (vs := [iv (i21 : Int), Sl.v s32]) (cs := [pv b1 0, pv b6 0, pv b17 0, pv b19 0]) rfl ⟨rfl, rfl, trivial⟩ Try.call68 (partref_Most_2_sim h41 w0 _ M _ (sc2 (sc1 hM)) (hs_a2.mono (FLe.trans (FLe.trans hF15 hF24) hF39) (.refl _))) (fun F42 L' v hF43 hv => ?_)
 obtain ⟨rfl, rfl⟩ := hv
 refine Lst.nil ?_
 refine At.in_normal ?_
 refine At.then ?_
 refine Cd.region ?_
 refine Lst.r (Ev.incr (by omega) rfl rfl) ?_
 refine Lst.r (Ev.move rfl) ?_
 refine Lst.nil ?_
 refine At.front (i := 2) rfl rfl ?_
 refine At.front (i := 9) rfl rfl ?_
 refine At.front (i := 4) rfl (L' := (.blk b6 [.func (.func 65) #[] #[pv b3 0]] 94) :: (.own Sl.nil 3 1 (encs ([] : List Int))) :: (.blk b3 (enc s_a2) 22) :: (.own s32 4 1 (encs r40.1)) :: (.blk b1 (enc a1) 3) :: (.own s12 3 1 (encs r40.2.1)) :: (.blk b17 (enc s12) 34) :: (.blk b19 [.func (.func 68) #[] #[pv b1 0, pv b6 0, pv b17 0, pv b19 0]] 108) :: (.own Sl.nil 3 1 (encs ([] : List Int))) :: (.own s8 3 1 (encs ([(-1 : Int)] : List Int))) :: L) rfl ?_
 refine At.front (i := 9) rfl rfl ?_
 refine At.front (i := 6) rfl rfl ?_
 refine At.front (i := 9) rfl (L' := (.own Sl.nil 3 1 (encs ([] : List Int))) :: (.own s12 3 1 (encs r40.2.1)) :: (.own s8 3 1 (encs ([(-1 : Int)] : List Int))) :: (.blk b6 [.func (.func 65) #[] #[pv b3 0]] 94) :: (.own Sl.nil 3 1 (encs ([] : List Int))) :: (.blk b3 (enc s_a2) 22) :: (.own s32 4 1 (encs r40.1)) :: (.blk b1 (enc a1) 3) :: (.blk b17 (enc s12) 34) :: (.blk b19 [.func (.func 68) #[] #[pv b1 0, pv b6 0, pv b17 0, pv b19 0]] 108) :: L) rfl ?_
 refine At.front (i := 8) rfl rfl ?_
 refine At.front (i := 9) rfl (L' := (.blk b19 [.func (.func 68) #[] #[pv b1 0, pv b6 0, pv b17 0, pv b19 0]] 108) :: (.blk b17 (enc s12) 34) :: (.own Sl.nil 3 1 (encs ([] : List Int))) :: (.own s12 3 1 (encs r40.2.1)) :: (.own s8 3 1 (encs ([(-1 : Int)] : List Int))) :: (.blk b6 [.func (.func 65) #[] #[pv b3 0]] 94) :: (.own Sl.nil 3 1 (encs ([] : List Int))) :: (.blk b3 (enc s_a2) 22) :: (.own s32 4 1 (encs r40.1)) :: (.blk b1 (enc a1) 3) :: L) rfl ?_
 refine At.less (L' := (.blk b19 [.func (.func 68) #[] #[pv b1 0, pv b6 0, pv b17 0, pv b19 0]] 108) :: (.blk b17 (enc s12) 34) :: (.own Sl.nil 3 1 (encs ([] : List Int))) :: (.own s12 3 1 (encs r40.2.1)) :: (.own s8 3 1 (encs ([(-1 : Int)] : List Int))) :: (.blk b6 [.func (.func 65) #[] #[pv b3 0]] 94) :: (.own Sl.nil 3 1 (encs ([] : List Int))) :: (.blk b3 (enc s_a2) 22) :: (.blk b1 (enc a1) 3) :: L) (sk1 (sk1 (sk1 (sk1 (sk1 (sk1 (sk1 (sk1 (sc1 (sk1 (.refl _))))))))))) ?_
 exact At.meet (i21 + 1, k21, r40.2.1) (FLe.trans (FLe.trans hF24 hF39) hF43) ⟨rfl, rfl, rfl, rfl, rfl, trivial⟩ rfl ⟨⟨hgo21 _ (some_inj H).symm, by omega⟩, Nat.lt_succ_self _⟩
set_option maxRecDepth 20000 in
theorem partref_Cover_sim {fu : Nat} {a0 : Int} {a1 : Int} {a2 : List Pair} {s_a2 : Sl} {r : (List Int) × (List Int)} (H : partref_Cover fu a0 a1 a2 = some r) (w0 : World) (F : Frz) (M L : List Item) (hM : M.Sublist L) (hs_a2 : Rd w0 F M s_a2 a2) : Ok Try.prog w0 38 [iv a0, iv a1, Sl.v s_a2] F (L) (fun _ L' v => ∃ (s1 : Sl) (s3 : Sl), v = .tuple #[Sl.v s1, Sl.v s3] ∧ L' = (.own s1 3 1 (encs r.1)) :: (.own s3 3 1 (encs r.2)) :: L) := by
 unfold partref_Cover at H
 refine Ok.enter (m := 3) (n := 125) Try.func38 rfl rfl rfl (by decide) ?_
 refine Cd.env (e' := [(0, iv a0), (1, iv a1), (2, Sl.v s_a2)]) rfl ?_
 refine Cd.seq ?_
 refine Cd.region ?_
 refine Lst.addNil 3 1 ?_
 refine Lst.r (Ev.assign rfl) ?_
 refine Lst.addNil 3 1 ?_
 refine Lst.r (Ev.assign rfl) ?_
 refine Lst.nil ?_
 refine At.then ?_
 refine Cd.seq ?_
 refine Cd.region ?_
 refine Lst.r (Ev.move rfl) ?_
 refine Lst.r (Ev.move rfl) ?_
 refine Lst.r (Ev.move rfl) ?_
 obtain ⟨r3, h4, H⟩ := bind_some H
 refine Lst.call rfl rfl (by decide) (vs := [iv a0, iv a1, Sl.v s_a2]) ⟨rfl, rfl, rfl, trivial⟩ Try.call40 (partref_Most_sim h4 w0 _ M _ (sc2 hM) (hs_a2.mono (FLe.refl _) (.refl _))) (fun F7 L' v hF8 hv => ?_)
 obtain ⟨s5, rfl, rfl⟩ := hv
 refine Lst.r (Ev.assign rfl) ?_
 refine Lst.nil ?_
 refine At.then ?_
 refine Cd.seq ?_
 obtain ⟨n9, h10, H⟩ := bind_some H
 obtain ⟨n14, h15, H⟩ := bind_some H
 obtain ⟨o24, h25, H⟩ := Let_some H
 refine Cd.headMeet (σ := Sl × (List Bool) × Sl × (List Bool)) 5 (fun (s20, l21, s22, l23) => [(0, iv a0), (1, iv a1), (2, Sl.v s_a2), (8, Sl.v s5), (9, Sl.v s22), (27, Sl.v s20)]) (fun (s20, l21, s22, l23) => (.own s20 4 1 (encs l21)) :: (.own s22 4 1 (encs l23)) :: (.own s5 3 1 (encs r3)) :: (.own Sl.nil 3 1 (encs ([] : List Int))) :: (.own Sl.nil 3 1 (encs ([] : List Int))) :: L) (fun _ (s20, l21, s22, l23) => (l21, l23) = o24) (by kernel_rfl) (by kernel_rfl) (behind_sink (by kernel_rfl) (by kernel_rfl) (by kernel_rfl)) (by kernel_rfl) (fun hsel hlt => ?_) ?_
 ·refine HdJ.keep (fun w => St w0 F7 ((.own s5 3 1 (encs r3)) :: (.own Sl.nil 3 1 (encs ([] : List Int))) :: (.own Sl.nil 3 1 (encs ([] : List Int))) :: L) w) (fun w h => trivial) ?_
  refine HdJ.tk hsel hlt 0 (fun w h => h.sublist (sk1 (sk1 (sk1 (.refl _))))) rfl (Ev.move rfl) ?_
  refine HdJ.tk hsel hlt 2 (fun w h => h.sublist (sk1 (sk1 (sk1 (.refl _))))) rfl (Ev.move rfl) ?_
  refine HdJ.step [1, 3] (by kernel_rfl) rfl ?_
  refine HdStep.c (fun inv => ?_) ?_
  ·have g26 := mkLen_some h10
   refine Lst.make (α := Bool) (z0 := false) (k := n9) rfl rfl (by decide) (congrArg some (congrArg (Value.int .i64) g26.1)) (congrArg some (congrArg (Value.int .i64) g26.1)) Try.runUnderlying75 Try.typeInfo4 rfl rfl rfl rfl rfl g26.2 rfl (fun s27 => ?_)
   refine Lst.nil ?_
   refine At.hd inv (fun w h => (h.weaken (FLe.refl _)).sublist (sc1 (sk1 (sk1 (sk1 (.refl _)))))) ?_
   refine HdJ.keep (fun w => St w0 F7 ((.own s27 4 1 (encs (List.replicate n9 false))) :: (.own s5 3 1 (encs r3)) :: (.own Sl.nil 3 1 (encs ([] : List Int))) :: (.own Sl.nil 3 1 (encs ([] : List Int))) :: L) w) (fun w h => (h.weaken (FLe.refl _)).sublist (sc1 (sk1 (sk1 (sk1 (.refl _)))))) ?_
   refine HdJ.tk hsel hlt 4 (fun w h => h.sublist (sk1 (sk1 (sk1 (sk1 (.refl _)))))) rfl (Ev.assign rfl) ?_
   refine HdJ.step [3] (by kernel_rfl) rfl ?_
   refine HdStep.c (fun inv => ?_) ?_
   ·have g28 := mkLen_some h15
    refine Lst.make (α := Bool) (z0 := false) (k := n14) rfl rfl (by decide) (congrArg some (congrArg (Value.int .i64) g28.1)) (congrArg some (congrArg (Value.int .i64) g28.1)) Try.runUnderlying75 Try.typeInfo4 rfl rfl rfl rfl rfl g28.2 rfl (fun s29 => ?_)
    refine Lst.nil ?_
    refine At.hd inv (fun w h => (h.weaken (FLe.refl _)).sublist (sc1 (sk1 (sk1 (sk1 (sk1 (.refl _))))))) ?_
    refine HdJ.done (by kernel_rfl) ?_
    exact At.meetN (s29, (List.replicate n14 false), s27, (List.replicate n9 false)) (FLe.refl _) ⟨rfl, rfl, rfl, rfl, rfl, rfl, trivial⟩ rfl h25
   exact trivial
  refine HdStep.c (fun inv => ?_) ?_
  ·have g30 := mkLen_some h15
   refine Lst.make (α := Bool) (z0 := false) (k := n14) rfl rfl (by decide) (congrArg some (congrArg (Value.int .i64) g30.1)) (congrArg some (congrArg (Value.int .i64) g30.1)) Try.runUnderlying75 Try.typeInfo4 rfl rfl rfl rfl rfl g30.2 rfl (fun s31 => ?_)
   refine Lst.nil ?_
   refine At.hd inv (fun w h => (h.weaken (FLe.refl _)).sublist (sc1 (sk1 (sk1 (sk1 (.refl _)))))) ?_
   refine HdJ.step [1] (by kernel_rfl) rfl ?_
   refine HdStep.c (fun inv => ?_) ?_
   ·have g32 := mkLen_some h10
    refine Lst.make (α := Bool) (z0 := false) (k := n9) rfl rfl (by decide) (congrArg some (congrArg (Value.int .i64) g32.1)) (congrArg some (congrArg (Value.int .i64) g32.1)) Try.runUnderlying75 Try.typeInfo4 rfl rfl rfl rfl rfl g32.2 rfl (fun s33 => ?_)
    refine Lst.nil ?_
    refine At.hd inv (fun w h => (h.weaken (FLe.refl _)).sublist (sc1 (sc1 (sk1 (sk1 (sk1 (.refl _))))))) ?_
    refine HdJ.keep (fun w => St w0 F7 ((.own s33 4 1 (encs (List.replicate n9 false))) :: (.own s31 4 1 (encs (List.replicate n14 false))) :: (.own s5 3 1 (encs r3)) :: (.own Sl.nil 3 1 (encs ([] : List Int))) :: (.own Sl.nil 3 1 (encs ([] : List Int))) :: L) w) (fun w h => (h.weaken (FLe.refl _)).sublist (sc1 (sc1 (sk1 (sk1 (sk1 (.refl _))))))) ?_
    refine HdJ.tk hsel hlt 4 (fun w h => h.sublist (sk1 (sk1 (sk1 (sk1 (sk1 (.refl _))))))) rfl (Ev.assign rfl) ?_
    refine HdJ.done (by kernel_rfl) ?_
    refine At.front (i := 1) rfl (L' := (.own s31 4 1 (encs (List.replicate n14 false))) :: (.own s33 4 1 (encs (List.replicate n9 false))) :: (.own s5 3 1 (encs r3)) :: (.own Sl.nil 3 1 (encs ([] : List Int))) :: (.own Sl.nil 3 1 (encs ([] : List Int))) :: L) rfl ?_
    exact At.meetN (s31, (List.replicate n14 false), s33, (List.replicate n9 false)) (FLe.refl _) ⟨rfl, rfl, rfl, rfl, rfl, rfl, trivial⟩ rfl h25
   exact trivial
  exact trivial
 rintro F34 ⟨s20, l21, s22, l23⟩ hF35 hy
 subst hy
 refine Lst.as (e' := [(0, iv a0), (1, iv a1), (2, Sl.v s_a2), (8, Sl.v s5), (9, Sl.v s22), (27, Sl.v s20)]) (L' := (.own s20 4 1 (encs l21)) :: (.own s22 4 1 (encs l23)) :: (.own s5 3 1 (encs r3)) :: (.own Sl.nil 3 1 (encs ([] : List Int))) :: (.own Sl.nil 3 1 (encs ([] : List Int))) :: L) ⟨rfl, rfl, rfl, rfl, rfl, rfl, trivial⟩ rfl ?_
 refine Lst.r (Ev.assign rfl) ?_
 refine Lst.nil ?_
 refine At.then ?_
 refine Cd.seq ?_
 refine Cd.seq ?_
 refine Cd.region ?_
 refine Lst.r (Ev.move rfl) ?_
 refine Lst.r (Ev.move rfl) ?_
 refine Lst.nil ?_
 refine At.then ?_
 refine Cd.block ?_
 obtain ⟨nn40, hN144, H⟩ := bind_some H
 replace hN144 := upTo_some hN144
 obtain ⟨ol36, H, HKl36⟩ := bind_some H
 refine Cd.loop (σ := Nat × Nat × (List Bool)) (fun (i36, k36, l37) => [(0, iv a0), (1, iv a1), (2, Sl.v s_a2), (8, Sl.v s5), (9, Sl.v s22), (10, Sl.v s20), (28, iv a0), (29, iv (i36 : Int))]) (fun (i36, k36, l37) => (.own s20 4 1 (encs l21)) :: (.own s22 4 1 (encs l37)) :: (.own s5 3 1 (encs r3)) :: (.own Sl.nil 3 1 (encs ([] : List Int))) :: (.own Sl.nil 3 1 (encs ([] : List Int))) :: L) (fun _ => (fun (i36, k36, l37) => rangeF (partref_Cover_B0 r3) k36 i36 l37 = some ol36 ∧ i36 + k36 = nn40)) (fun (i36, k36, l37) => k36) (0, nn40, l23) ⟨rfl, rfl, rfl, rfl, rfl, rfl, rfl, rfl, trivial⟩ rfl ⟨H, by omega⟩ ?_
 rintro F38 ⟨i36, k36, l37⟩ hF39 ⟨H, hik36⟩
 refine Cd.as (e' := [(0, iv a0), (1, iv a1), (2, Sl.v s_a2), (8, Sl.v s5), (9, Sl.v s22), (10, Sl.v s20), (28, iv a0), (29, iv (i36 : Int))]) (L' := (.own s20 4 1 (encs l21)) :: (.own s22 4 1 (encs l37)) :: (.own s5 3 1 (encs r3)) :: (.own Sl.nil 3 1 (encs ([] : List Int))) :: (.own Sl.nil 3 1 (encs ([] : List Int))) :: L) ⟨rfl, rfl, rfl, rfl, rfl, rfl, rfl, rfl, trivial⟩ rfl ?_
 rcases k36 with _ | k36
 ·have hc36 : decide ((i36 : Int) < a0) = false := decide_eq_false (by omega)
  replace H := rangeF_end H
  refine Cd.seq ?_
  refine Cd.region ?_
  refine Lst.r (Ev.lss rfl rfl) ?_
  refine Lst.nil ?_
  refine At.then ?_
  refine Cd.seq ?_
  refine Cd.condF rfl hc36 ?_
  refine Cd.exit ?_
  refine At.then_exit ?_
  refine At.then_exit ?_
  refine At.in_exit ?_
  subst H
  replace H := HKl36
  refine At.then ?_
  refine Cd.seq ?_
  refine Cd.seq ?_
  refine Cd.region ?_
  refine Lst.r (Ev.move rfl) ?_
  refine Lst.r (Ev.move rfl) ?_
  refine Lst.r (Ev.add rfl rfl) ?_
  refine Lst.r (Ev.add rfl rfl) ?_
  refine Lst.r (Ev.move rfl) ?_
  refine Lst.nil ?_
  refine At.then ?_
  refine Cd.block ?_
  obtain ⟨nn54, hN143, H⟩ := bind_some H
  replace hN143 := upTo_some hN143
  obtain ⟨ol49, H, HKl49⟩ := bind_some H
  refine Cd.loop (σ := Nat × Nat × (List Bool) × (List Bool)) (fun (i49, k49, l50, l51) => [(0, iv a0), (1, iv a1), (2, Sl.v s_a2), (8, Sl.v s5), (9, Sl.v s22), (10, Sl.v s20), (44, iv (w64 ((w64 (a0 + a1)) + (1 : Int)))), (45, iv (i49 : Int))]) (fun (i49, k49, l50, l51) => (.own s20 4 1 (encs l50)) :: (.own s22 4 1 (encs l51)) :: (.own s5 3 1 (encs r3)) :: (.own Sl.nil 3 1 (encs ([] : List Int))) :: (.own Sl.nil 3 1 (encs ([] : List Int))) :: L) (fun _ => (fun (i49, k49, l50, l51) => rangeF (partref_Cover_B2 a2 r3) k49 i49 (l50, l51) = some ol49 ∧ i49 + k49 = nn54)) (fun (i49, k49, l50, l51) => k49) (0, nn54, l21, l37) ⟨rfl, rfl, rfl, rfl, rfl, rfl, rfl, rfl, trivial⟩ rfl ⟨H, by omega⟩ ?_
  rintro F52 ⟨i49, k49, l50, l51⟩ hF53 ⟨H, hik49⟩
  refine Cd.as (e' := [(0, iv a0), (1, iv a1), (2, Sl.v s_a2), (8, Sl.v s5), (9, Sl.v s22), (10, Sl.v s20), (44, iv (w64 ((w64 (a0 + a1)) + (1 : Int)))), (45, iv (i49 : Int))]) (L' := (.own s20 4 1 (encs l50)) :: (.own s22 4 1 (encs l51)) :: (.own s5 3 1 (encs r3)) :: (.own Sl.nil 3 1 (encs ([] : List Int))) :: (.own Sl.nil 3 1 (encs ([] : List Int))) :: L) ⟨rfl, rfl, rfl, rfl, rfl, rfl, rfl, rfl, trivial⟩ rfl ?_
  rcases k49 with _ | k49
  ·have hc49 : decide ((i49 : Int) < (w64 ((w64 (a0 + a1)) + (1 : Int)))) = false := decide_eq_false (by omega)
   replace H := rangeF_end H
   refine Cd.seq ?_
   refine Cd.region ?_
   refine Lst.r (Ev.lss rfl rfl) ?_
   refine Lst.nil ?_
   refine At.then ?_
   refine Cd.seq ?_
   refine Cd.condF rfl hc49 ?_
   refine Cd.exit ?_
   refine At.then_exit ?_
   refine At.then_exit ?_
   refine At.in_exit ?_
   subst H
   replace H := HKl49
   refine At.then ?_
   refine Cd.seq ?_
   refine Cd.region ?_
   refine Lst.addNil 3 1 ?_
   refine Lst.r (Ev.assign rfl) ?_
   refine Lst.addNil 3 1 ?_
   refine Lst.r (Ev.assign rfl) ?_
   refine Lst.nil ?_
   refine At.then ?_
   refine Cd.seq ?_
   refine Cd.seq ?_
   refine Cd.region ?_
   refine Lst.r (Ev.move rfl) ?_
   refine Lst.r (Ev.move rfl) ?_
   refine Lst.nil ?_
   refine At.then ?_
   refine Cd.block ?_
   obtain ⟨nn116, hN142, H⟩ := bind_some H
   replace hN142 := upTo_some hN142
   obtain ⟨ol111, H, HKl111⟩ := bind_some H
   refine Cd.loop (σ := Nat × Nat × Sl × (List Int)) (fun (i111, k111, s112, l113) => [(1, iv a1), (9, Sl.v s22), (10, Sl.v s20), (16, Sl.v s112), (17, Sl.v Sl.nil), (96, iv a0), (97, iv (i111 : Int))]) (fun (i111, k111, s112, l113) => (.own Sl.nil 3 1 (encs ([] : List Int))) :: (.own s112 3 1 (encs l113)) :: (.own s20 4 1 (encs l50)) :: (.own s22 4 1 (encs l51)) :: (.own s5 3 1 (encs r3)) :: (.own Sl.nil 3 1 (encs ([] : List Int))) :: (.own Sl.nil 3 1 (encs ([] : List Int))) :: L) (fun _ => (fun (i111, k111, s112, l113) => rangeF (partref_Cover_B8 l51) k111 i111 l113 = some ol111 ∧ i111 + k111 = nn116)) (fun (i111, k111, s112, l113) => k111) (0, nn116, Sl.nil, ([] : List Int)) ⟨rfl, rfl, rfl, rfl, rfl, rfl, rfl, trivial⟩ rfl ⟨H, by omega⟩ ?_
   rintro F114 ⟨i111, k111, s112, l113⟩ hF115 ⟨H, hik111⟩
   refine Cd.as (e' := [(1, iv a1), (9, Sl.v s22), (10, Sl.v s20), (16, Sl.v s112), (17, Sl.v Sl.nil), (96, iv a0), (97, iv (i111 : Int))]) (L' := (.own Sl.nil 3 1 (encs ([] : List Int))) :: (.own s112 3 1 (encs l113)) :: (.own s20 4 1 (encs l50)) :: (.own s22 4 1 (encs l51)) :: (.own s5 3 1 (encs r3)) :: (.own Sl.nil 3 1 (encs ([] : List Int))) :: (.own Sl.nil 3 1 (encs ([] : List Int))) :: L) ⟨rfl, rfl, rfl, rfl, rfl, rfl, rfl, trivial⟩ rfl ?_
   rcases k111 with _ | k111
   ·have hc111 : decide ((i111 : Int) < a0) = false := decide_eq_false (by omega)
    replace H := rangeF_end H
    refine Cd.seq ?_
    refine Cd.region ?_
    refine Lst.r (Ev.lss rfl rfl) ?_
    refine Lst.nil ?_
    refine At.then ?_
    refine Cd.seq ?_
    refine Cd.condF rfl hc111 ?_
    refine Cd.exit ?_
    refine At.then_exit ?_
    refine At.then_exit ?_
    refine At.in_exit ?_
    subst H
    replace H := HKl111
    refine At.then ?_
    refine Cd.seq ?_
    refine Cd.seq ?_
    refine Cd.region ?_
    refine Lst.r (Ev.move rfl) ?_
    refine Lst.r (Ev.move rfl) ?_
    refine Lst.nil ?_
    refine At.then ?_
    refine Cd.block ?_
    obtain ⟨nn131, hN141, H⟩ := bind_some H
    replace hN141 := upTo_some hN141
    obtain ⟨ol126, H, HKl126⟩ := bind_some H
    refine Cd.loop (σ := Nat × Nat × Sl × (List Int)) (fun (i126, k126, s127, l128) => [(10, Sl.v s20), (16, Sl.v s112), (17, Sl.v s127), (110, iv a1), (111, iv (i126 : Int))]) (fun (i126, k126, s127, l128) => (.own s127 3 1 (encs l128)) :: (.own s112 3 1 (encs l113)) :: (.own s20 4 1 (encs l50)) :: (.own s22 4 1 (encs l51)) :: (.own s5 3 1 (encs r3)) :: (.own Sl.nil 3 1 (encs ([] : List Int))) :: (.own Sl.nil 3 1 (encs ([] : List Int))) :: L) (fun _ => (fun (i126, k126, s127, l128) => rangeF (partref_Cover_B10 l50) k126 i126 l128 = some ol126 ∧ i126 + k126 = nn131)) (fun (i126, k126, s127, l128) => k126) (0, nn131, Sl.nil, ([] : List Int)) ⟨rfl, rfl, rfl, rfl, rfl, trivial⟩ rfl ⟨H, by omega⟩ ?_
    rintro F129 ⟨i126, k126, s127, l128⟩ hF130 ⟨H, hik126⟩
    refine Cd.as (e' := [(10, Sl.v s20), (16, Sl.v s112), (17, Sl.v s127), (110, iv a1), (111, iv (i126 : Int))]) (L' := (.own s127 3 1 (encs l128)) :: (.own s112 3 1 (encs l113)) :: (.own s20 4 1 (encs l50)) :: (.own s22 4 1 (encs l51)) :: (.own s5 3 1 (encs r3)) :: (.own Sl.nil 3 1 (encs ([] : List Int))) :: (.own Sl.nil 3 1 (encs ([] : List Int))) :: L) ⟨rfl, rfl, rfl, rfl, rfl, trivial⟩ rfl ?_
    rcases k126 with _ | k126
    ·have hc126 : decide ((i126 : Int) < a1) = false := decide_eq_false (by omega)
     replace H := rangeF_end H
     refine Cd.seq ?_
     refine Cd.region ?_
     refine Lst.r (Ev.lss rfl rfl) ?_
     refine Lst.nil ?_
     refine At.then ?_
     refine Cd.seq ?_
     refine Cd.condF rfl hc126 ?_
     refine Cd.exit ?_
     refine At.then_exit ?_
     refine At.then_exit ?_
     refine At.in_exit ?_
     subst H
     replace H := HKl126
     refine At.then ?_
     refine Cd.seq ?_
     refine Cd.region ?_
     refine Lst.r (Ev.move rfl) ?_
     refine Lst.r (Ev.move rfl) ?_
     refine Lst.r (Ev.assign rfl) ?_
     refine Lst.r (Ev.assign rfl) ?_
     refine Lst.nil ?_
     refine At.then ?_
     obtain rfl := some_inj H
     refine Cd.ret ?_
     refine At.front (i := 1) rfl (L' := (.own s112 3 1 (encs l113)) :: (.own s127 3 1 (encs l128)) :: (.own s20 4 1 (encs l50)) :: (.own s22 4 1 (encs l51)) :: (.own s5 3 1 (encs r3)) :: (.own Sl.nil 3 1 (encs ([] : List Int))) :: (.own Sl.nil 3 1 (encs ([] : List Int))) :: L) rfl ?_
     exact At.ret2 rfl (Res.tmp rfl) (Res.tmp rfl) (FLe.trans (FLe.trans (FLe.trans (FLe.trans (FLe.trans hF8 hF35) hF39) hF53) hF115) hF130) (sk1 (sk1 (sc1 (sc1 (sc1 (sc1 (sc1 (.refl _)))))))) ⟨s112, s127, rfl, rfl⟩
    have hc126 : decide ((i126 : Int) < a1) = true := decide_eq_true (by omega)
    obtain ⟨c126, H, hgo126⟩ := rangeF_go H
    unfold partref_Cover_B10 at H
    try dsimp only at H
    refine Cd.seq ?_
    refine Cd.region ?_
    refine Lst.r (Ev.lss rfl rfl) ?_
    refine Lst.nil ?_
    refine At.then ?_
    refine Cd.seq ?_
    refine Cd.condT rfl hc126 ?_
    refine Cd.skip ?_
    refine At.then ?_
    refine Cd.seq ?_
    refine Cd.block ?_
    refine Cd.seq ?_
    refine Cd.region ?_
    refine Lst.r (Ev.move rfl) ?_
    refine Lst.r (Ev.assign rfl) ?_
    refine Lst.nil ?_
    refine At.then ?_
    refine Cd.seq ?_
    refine Cd.region ?_
    refine Lst.r (Ev.move rfl) ?_
    refine Lst.r (Ev.move rfl) ?_
    obtain ⟨x132, h133, H⟩ := bind_some H
    have g134 := lat_some h133
    refine Lst.r (Ev.indexS (α := Bool) (xs := l50) rfl rfl Try.runUnderlying75 Try.sizeOf4 rfl (by decide) (Rd.own (i := 2) rfl rfl rfl) g134.1 g134.2.1) ?_
    refine Lst.r (Ev.loadS (α := Bool) rfl (Rd.own (i := 2) rfl rfl rfl) Try.isAgg4 (v := .bool x132) ((Get.elemN (s := 1) (x := x132) rfl g134.2.2 (Get.here _)).off (by omega))) ?_
    refine Lst.nil ?_
    refine At.then ?_
    rcases (Bool.eq_false_or_eq_true x132).symm with hb135 | hb135
    ·replace H := ite_f hb135 H
     refine Cd.condF rfl hb135 ?_
     refine Cd.skip ?_
     refine At.in_normal ?_
     refine At.then ?_
     refine Cd.region ?_
     refine Lst.r (Ev.incr (by omega) rfl rfl) ?_
     refine Lst.r (Ev.move rfl) ?_
     refine Lst.nil ?_
     exact At.meet (i126 + 1, k126, s127, l128) hF130 ⟨rfl, rfl, rfl, rfl, rfl, trivial⟩ rfl ⟨⟨hgo126 _ (some_inj H).symm, by omega⟩, Nat.lt_succ_self _⟩
    replace H := ite_t hb135 H
    refine Cd.condT rfl hb135 ?_
    refine Cd.region ?_
    refine Lst.r (Ev.move rfl) ?_
    refine Lst.r (Ev.move rfl) ?_
    refine Lst.buildSlice (α := Int) (xs := ([(i126 : Int)] : List Int)) (pv := [(0, iv (i126 : Int))]) rfl rfl (by decide) ⟨rfl, rfl, trivial⟩ (run_buildSlice (α := Int) (z0 := (0 : Int)) (xs := ([(i126 : Int)] : List Int)) Try.runUnderlying34 Try.sizeOf3 Try.zeroValue3 rfl rfl rfl (by decide) rfl (fill_cons (cs := encs (List.replicate 1 (0 : Int))) (cs' := encs ((List.replicate 1 (0 : Int)).set 0 (i126 : Int))) (vs := [iv (i126 : Int)]) rfl rfl rfl ((Put.elemN (s := 1) (i := 0) (x := (0 : Int)) (y := (i126 : Int)) rfl rfl (Put.here (vs := [iv (i126 : Int)]) rfl)).off rfl) fill_nil)) rfl rfl (by decide) (fun s136 _ => ?_)
    obtain ⟨u138, h139, H⟩ := bind_some H
    refine Lst.append (i := 1) (α := Int) (xs := l128) (ys := ([(i126 : Int)] : List Int)) rfl rfl (by decide) rfl rfl Try.runUnderlying34 Try.typeInfo3 rfl rfl rfl rfl rfl rfl (Rd.own (i := 0) rfl rfl rfl) rfl (room_some h139) rfl (fun s140 => ?_)
    refine Lst.its (L' := (.own s136 3 1 (encs ([(i126 : Int)] : List Int))) :: (.own s140 3 1 (encs (l128 ++ ([(i126 : Int)] : List Int)))) :: (.own s112 3 1 (encs l113)) :: (.own s20 4 1 (encs l50)) :: (.own s22 4 1 (encs l51)) :: (.own s5 3 1 (encs r3)) :: (.own Sl.nil 3 1 (encs ([] : List Int))) :: (.own Sl.nil 3 1 (encs ([] : List Int))) :: L) rfl ?_
    refine Lst.r (Ev.assign rfl) ?_
    refine Lst.nil ?_
    refine At.in_normal ?_
    refine At.then ?_
    refine Cd.region ?_
    refine Lst.r (Ev.incr (by omega) rfl rfl) ?_
    refine Lst.r (Ev.move rfl) ?_
    refine Lst.nil ?_
    refine At.less (L' := (.own s140 3 1 (encs (l128 ++ ([(i126 : Int)] : List Int)))) :: (.own s112 3 1 (encs l113)) :: (.own s20 4 1 (encs l50)) :: (.own s22 4 1 (encs l51)) :: (.own s5 3 1 (encs r3)) :: (.own Sl.nil 3 1 (encs ([] : List Int))) :: (.own Sl.nil 3 1 (encs ([] : List Int))) :: L) (sc1 (sk1 (sk1 (sk1 (sk1 (sk1 (sk1 (sk1 (.refl _))))))))) ?_
    exact At.meet (i126 + 1, k126, s140, l128 ++ ([(i126 : Int)] : List Int)) hF130 ⟨rfl, rfl, rfl, rfl, rfl, trivial⟩ rfl ⟨⟨hgo126 _ (some_inj H).symm, by omega⟩, Nat.lt_succ_self _⟩
   have hc111 : decide ((i111 : Int) < a0) = true := decide_eq_true (by omega)
   obtain ⟨c111, H, hgo111⟩ := rangeF_go H
   unfold partref_Cover_B8 at H
   try dsimp only at H
   refine Cd.seq ?_
   refine Cd.region ?_
   refine Lst.r (Ev.lss rfl rfl) ?_
   refine Lst.nil ?_
   refine At.then ?_
   refine Cd.seq ?_
   refine Cd.condT rfl hc111 ?_
   refine Cd.skip ?_
   refine At.then ?_
   refine Cd.seq ?_
   refine Cd.block ?_
   refine Cd.seq ?_
   refine Cd.region ?_
   refine Lst.r (Ev.move rfl) ?_
   refine Lst.r (Ev.assign rfl) ?_
   refine Lst.nil ?_
   refine At.then ?_
   refine Cd.seq ?_
   refine Cd.region ?_
   refine Lst.r (Ev.move rfl) ?_
   refine Lst.r (Ev.move rfl) ?_
   obtain ⟨x117, h118, H⟩ := bind_some H
   have g119 := lat_some h118
   refine Lst.r (Ev.indexS (α := Bool) (xs := l51) rfl rfl Try.runUnderlying75 Try.sizeOf4 rfl (by decide) (Rd.own (i := 3) rfl rfl rfl) g119.1 g119.2.1) ?_
   refine Lst.r (Ev.loadS (α := Bool) rfl (Rd.own (i := 3) rfl rfl rfl) Try.isAgg4 (v := .bool x117) ((Get.elemN (s := 1) (x := x117) rfl g119.2.2 (Get.here _)).off (by omega))) ?_
   refine Lst.r (Ev.not rfl) ?_
   refine Lst.nil ?_
   refine At.then ?_
   rcases (Bool.eq_false_or_eq_true (!x117)).symm with hb120 | hb120
   ·replace H := ite_f hb120 H
    refine Cd.condF rfl hb120 ?_
    refine Cd.skip ?_
    refine At.in_normal ?_
    refine At.then ?_
    refine Cd.region ?_
    refine Lst.r (Ev.incr (by omega) rfl rfl) ?_
    refine Lst.r (Ev.move rfl) ?_
    refine Lst.nil ?_
    exact At.meet (i111 + 1, k111, s112, l113) hF115 ⟨rfl, rfl, rfl, rfl, rfl, rfl, rfl, trivial⟩ rfl ⟨⟨hgo111 _ (some_inj H).symm, by omega⟩, Nat.lt_succ_self _⟩
   replace H := ite_t hb120 H
   refine Cd.condT rfl hb120 ?_
   refine Cd.region ?_
   refine Lst.r (Ev.move rfl) ?_
   refine Lst.r (Ev.move rfl) ?_
   refine Lst.buildSlice (α := Int) (xs := ([(i111 : Int)] : List Int)) (pv := [(0, iv (i111 : Int))]) rfl rfl (by decide) ⟨rfl, rfl, trivial⟩ (run_buildSlice (α := Int) (z0 := (0 : Int)) (xs := ([(i111 : Int)] : List Int)) Try.runUnderlying34 Try.sizeOf3 Try.zeroValue3 rfl rfl rfl (by decide) rfl (fill_cons (cs := encs (List.replicate 1 (0 : Int))) (cs' := encs ((List.replicate 1 (0 : Int)).set 0 (i111 : Int))) (vs := [iv (i111 : Int)]) rfl rfl rfl ((Put.elemN (s := 1) (i := 0) (x := (0 : Int)) (y := (i111 : Int)) rfl rfl (Put.here (vs := [iv (i111 : Int)]) rfl)).off rfl) fill_nil)) rfl rfl (by decide) (fun s121 _ => ?_)
   obtain ⟨u123, h124, H⟩ := bind_some H
   refine Lst.append (i := 2) (α := Int) (xs := l113) (ys := ([(i111 : Int)] : List Int)) rfl rfl (by decide) rfl rfl Try.runUnderlying34 Try.typeInfo3 rfl rfl rfl rfl rfl rfl (Rd.own (i := 0) rfl rfl rfl) rfl (room_some h124) rfl (fun s125 => ?_)
   refine Lst.its (L' := (.own s121 3 1 (encs ([(i111 : Int)] : List Int))) :: (.own Sl.nil 3 1 (encs ([] : List Int))) :: (.own s125 3 1 (encs (l113 ++ ([(i111 : Int)] : List Int)))) :: (.own s20 4 1 (encs l50)) :: (.own s22 4 1 (encs l51)) :: (.own s5 3 1 (encs r3)) :: (.own Sl.nil 3 1 (encs ([] : List Int))) :: (.own Sl.nil 3 1 (encs ([] : List Int))) :: L) rfl ?_
   refine Lst.r (Ev.assign rfl) ?_
   refine Lst.nil ?_
   refine At.in_normal ?_
   refine At.then ?_
   refine Cd.region ?_
   refine Lst.r (Ev.incr (by omega) rfl rfl) ?_
   refine Lst.r (Ev.move rfl) ?_
   refine Lst.nil ?_
   refine At.less (L' := (.own Sl.nil 3 1 (encs ([] : List Int))) :: (.own s125 3 1 (encs (l113 ++ ([(i111 : Int)] : List Int)))) :: (.own s20 4 1 (encs l50)) :: (.own s22 4 1 (encs l51)) :: (.own s5 3 1 (encs r3)) :: (.own Sl.nil 3 1 (encs ([] : List Int))) :: (.own Sl.nil 3 1 (encs ([] : List Int))) :: L) (sc1 (sk1 (sk1 (sk1 (sk1 (sk1 (sk1 (sk1 (.refl _))))))))) ?_
   exact At.meet (i111 + 1, k111, s125, l113 ++ ([(i111 : Int)] : List Int)) hF115 ⟨rfl, rfl, rfl, rfl, rfl, rfl, rfl, trivial⟩ rfl ⟨⟨hgo111 _ (some_inj H).symm, by omega⟩, Nat.lt_succ_self _⟩
  have hc49 : decide ((i49 : Int) < (w64 ((w64 (a0 + a1)) + (1 : Int)))) = true := decide_eq_true (by omega)
  obtain ⟨c49, H, hgo49⟩ := rangeF_go H
  unfold partref_Cover_B2 at H
  try dsimp only at H
  refine Cd.seq ?_
  refine Cd.region ?_
  refine Lst.r (Ev.lss rfl rfl) ?_
  refine Lst.nil ?_
  refine At.then ?_
  refine Cd.seq ?_
  refine Cd.condT rfl hc49 ?_
  refine Cd.skip ?_
  refine At.then ?_
  refine Cd.seq ?_
  refine Cd.block ?_
  refine Cd.seq ?_
  refine Cd.seq ?_
  refine Cd.region ?_
  refine Lst.r (Ev.move rfl) ?_
  refine Lst.r (Ev.lenS (α := Pair) (xs := a2) (by decide) rfl rfl Try.runUnderlying22 (hs_a2.mono (FLe.trans (FLe.trans (FLe.trans hF8 hF35) hF39) hF53) (sc4 (sc1 hM)))) ?_
  refine Lst.r (Ev.move rfl) ?_
  refine Lst.nil ?_
  refine At.then ?_
  refine Cd.block ?_
  refine Cd.bound (Rd.le (α := Pair) (xs := a2) (by decide) (hs_a2.mono (FLe.trans (FLe.trans (FLe.trans hF8 hF35) hF39) hF53) (sc4 (sc1 hM)))) (fun hN108 => ?_)
  obtain ⟨ol55, H, HKl55⟩ := bind_some H
  refine Cd.loop (σ := Nat × Nat × (List Bool)) (fun (i55, k55, l56) => [(0, iv a0), (1, iv a1), (2, Sl.v s_a2), (8, Sl.v s5), (9, Sl.v s22), (10, Sl.v s20), (44, iv (w64 ((w64 (a0 + a1)) + (1 : Int)))), (45, iv (i49 : Int)), (47, Sl.v s_a2), (48, iv (a2.length : Int)), (49, iv (i55 : Int))]) (fun (i55, k55, l56) => (.own s20 4 1 (encs l56)) :: (.own s22 4 1 (encs l51)) :: (.own s5 3 1 (encs r3)) :: (.own Sl.nil 3 1 (encs ([] : List Int))) :: (.own Sl.nil 3 1 (encs ([] : List Int))) :: L) (fun _ => (fun (i55, k55, l56) => rangeF (partref_Cover_B4 a2 l51) k55 i55 l56 = some ol55 ∧ i55 + k55 = a2.length)) (fun (i55, k55, l56) => k55) (0, a2.length, l50) ⟨rfl, rfl, rfl, rfl, rfl, rfl, rfl, rfl, rfl, rfl, rfl, trivial⟩ rfl ⟨H, by omega⟩ ?_
  rintro F57 ⟨i55, k55, l56⟩ hF58 ⟨H, hik55⟩
  refine Cd.as (e' := [(0, iv a0), (1, iv a1), (2, Sl.v s_a2), (8, Sl.v s5), (9, Sl.v s22), (10, Sl.v s20), (44, iv (w64 ((w64 (a0 + a1)) + (1 : Int)))), (45, iv (i49 : Int)), (47, Sl.v s_a2), (48, iv (a2.length : Int)), (49, iv (i55 : Int))]) (L' := (.own s20 4 1 (encs l56)) :: (.own s22 4 1 (encs l51)) :: (.own s5 3 1 (encs r3)) :: (.own Sl.nil 3 1 (encs ([] : List Int))) :: (.own Sl.nil 3 1 (encs ([] : List Int))) :: L) ⟨rfl, rfl, rfl, rfl, rfl, rfl, rfl, rfl, rfl, rfl, rfl, trivial⟩ rfl ?_
  rcases k55 with _ | k55
  ·have hc55 : decide ((i55 : Int) < (a2.length : Int)) = false := decide_eq_false (by omega)
   replace H := rangeF_end H
   refine Cd.seq ?_
   refine Cd.region ?_
   refine Lst.r (Ev.lss rfl rfl) ?_
   refine Lst.nil ?_
   refine At.then ?_
   refine Cd.seq ?_
   refine Cd.condF rfl hc55 ?_
   refine Cd.exit ?_
   refine At.then_exit ?_
   refine At.then_exit ?_
   refine At.in_exit ?_
   subst H
   replace H := HKl55
   refine At.then ?_
   refine Cd.seq ?_
   refine Cd.region ?_
   refine Lst.r (Ev.move rfl) ?_
   refine Lst.r (Ev.lenS (α := Int) (xs := r3) (by decide) rfl rfl Try.runUnderlying34 (Rd.own (i := 2) rfl rfl rfl)) ?_
   refine Lst.r (Ev.move rfl) ?_
   refine Lst.nil ?_
   refine At.then ?_
   refine Cd.block ?_
   refine Cd.bound (Rd.le (α := Int) (xs := r3) (by decide) (Rd.own (i := 2) rfl rfl rfl)) (fun hN107 => ?_)
   obtain ⟨ol78, H, HKl78⟩ := bind_some H
   refine Cd.loop (σ := Nat × Nat × (List Bool)) (fun (i78, k78, l79) => [(0, iv a0), (1, iv a1), (2, Sl.v s_a2), (8, Sl.v s5), (9, Sl.v s22), (10, Sl.v s20), (44, iv (w64 ((w64 (a0 + a1)) + (1 : Int)))), (45, iv (i49 : Int)), (70, Sl.v s5), (71, iv (r3.length : Int)), (72, iv (i78 : Int))]) (fun (i78, k78, l79) => (.own s20 4 1 (encs l56)) :: (.own s22 4 1 (encs l79)) :: (.own s5 3 1 (encs r3)) :: (.own Sl.nil 3 1 (encs ([] : List Int))) :: (.own Sl.nil 3 1 (encs ([] : List Int))) :: L) (fun _ => (fun (i78, k78, l79) => rangeF (partref_Cover_B6 r3 l56) k78 i78 l79 = some ol78 ∧ i78 + k78 = r3.length)) (fun (i78, k78, l79) => k78) (0, r3.length, l51) ⟨rfl, rfl, rfl, rfl, rfl, rfl, rfl, rfl, rfl, rfl, rfl, trivial⟩ rfl ⟨H, by omega⟩ ?_
   rintro F80 ⟨i78, k78, l79⟩ hF81 ⟨H, hik78⟩
   refine Cd.as (e' := [(0, iv a0), (1, iv a1), (2, Sl.v s_a2), (8, Sl.v s5), (9, Sl.v s22), (10, Sl.v s20), (44, iv (w64 ((w64 (a0 + a1)) + (1 : Int)))), (45, iv (i49 : Int)), (70, Sl.v s5), (71, iv (r3.length : Int)), (72, iv (i78 : Int))]) (L' := (.own s20 4 1 (encs l56)) :: (.own s22 4 1 (encs l79)) :: (.own s5 3 1 (encs r3)) :: (.own Sl.nil 3 1 (encs ([] : List Int))) :: (.own Sl.nil 3 1 (encs ([] : List Int))) :: L) ⟨rfl, rfl, rfl, rfl, rfl, rfl, rfl, rfl, rfl, rfl, rfl, trivial⟩ rfl ?_
   rcases k78 with _ | k78
   ·have hc78 : decide ((i78 : Int) < (r3.length : Int)) = false := decide_eq_false (by omega)
    replace H := rangeF_end H
    refine Cd.seq ?_
    refine Cd.region ?_
    refine Lst.r (Ev.lss rfl rfl) ?_
    refine Lst.nil ?_
    refine At.then ?_
    refine Cd.seq ?_
    refine Cd.condF rfl hc78 ?_
    refine Cd.exit ?_
    refine At.then_exit ?_
    refine At.then_exit ?_
    refine At.in_exit ?_
    subst H
    replace H := HKl78
    refine At.in_normal ?_
    refine At.then ?_
    refine Cd.region ?_
    refine Lst.r (Ev.incr (by omega) rfl rfl) ?_
    refine Lst.r (Ev.move rfl) ?_
    refine Lst.nil ?_
    exact At.meet (i49 + 1, k49, l56, l79) (FLe.trans (FLe.trans hF53 hF58) hF81) ⟨rfl, rfl, rfl, rfl, rfl, rfl, rfl, rfl, trivial⟩ rfl ⟨⟨hgo49 _ (some_inj H).symm, by omega⟩, Nat.lt_succ_self _⟩
   have hc78 : decide ((i78 : Int) < (r3.length : Int)) = true := decide_eq_true (by omega)
   obtain ⟨c78, H, hgo78⟩ := rangeF_go H
   unfold partref_Cover_B6 at H
   try dsimp only at H
   refine Cd.seq ?_
   refine Cd.region ?_
   refine Lst.r (Ev.lss rfl rfl) ?_
   refine Lst.nil ?_
   refine At.then ?_
   refine Cd.seq ?_
   refine Cd.condT rfl hc78 ?_
   refine Cd.skip ?_
   refine At.then ?_
   refine Cd.seq ?_
   refine Cd.block ?_
   refine Cd.seq ?_
   refine Cd.region ?_
   refine Lst.r (Ev.move rfl) ?_
   obtain ⟨x82, h83, H⟩ := bind_some H
   have g84 := lat_some h83
   refine Lst.r (Ev.indexS (α := Int) (xs := r3) rfl rfl Try.runUnderlying34 Try.sizeOf3 rfl (by decide) (Rd.own (i := 2) rfl rfl rfl) g84.1 g84.2.1) ?_
   refine Lst.r (Ev.loadS (α := Int) rfl (Rd.own (i := 2) rfl rfl rfl) Try.isAgg3 (v := iv x82) ((Get.elemN (s := 1) (x := x82) rfl g84.2.2 (Get.here _)).off (by omega))) ?_
   refine Lst.r (Ev.assign rfl) ?_
   refine Lst.r (Ev.assign rfl) ?_
   refine Lst.nil ?_
   refine At.then ?_
   refine Cd.region ?_
   refine Lst.r (Ev.move rfl) ?_
   refine Lst.r (Ev.move rfl) ?_
   refine Lst.r (Ev.move rfl) ?_
   refine Lst.r (Ev.move rfl) ?_
   obtain ⟨x85, h86, H⟩ := bind_some H
   have g87 := lat_some h86
   refine Lst.r (Ev.indexS (α := Bool) (xs := l79) rfl rfl Try.runUnderlying75 Try.sizeOf4 rfl (by decide) (Rd.own (i := 1) rfl rfl rfl) g87.1 g87.2.1) ?_
   refine Lst.r (Ev.loadS (α := Bool) rfl (Rd.own (i := 1) rfl rfl rfl) Try.isAgg4 (v := .bool x85) ((Get.elemN (s := 1) (x := x85) rfl g87.2.2 (Get.here _)).off (by omega))) ?_
   refine Lst.r (Ev.move rfl) ?_
   rcases Bool.eq_false_or_eq_true x85 with hb88 | hb88
   ·replace H := ite_t hb88 H
    refine Lst.skip rfl rfl rfl hb88 rfl (by decide) ?_
    refine Lst.skip rfl rfl rfl hb88 rfl (by decide) ?_
    refine Lst.skip rfl rfl rfl hb88 rfl (by decide) ?_
    refine Lst.skipU rfl rfl rfl rfl (by decide) ?_
    refine Lst.skipU rfl rfl rfl rfl (by decide) ?_
    refine Lst.skipU rfl rfl rfl rfl (by decide) ?_
    refine Lst.skipU rfl rfl rfl rfl (by decide) ?_
    refine Lst.skip rfl rfl rfl hb88 rfl (by decide) ?_
    refine Lst.r (Ev.pickT rfl hb88 rfl) ?_
    obtain ⟨x89, h90, H⟩ := bind_some H
    have g91 := lat_some h90
    refine Lst.r (Ev.indexS (α := Bool) (xs := l79) rfl rfl Try.runUnderlying75 Try.sizeOf4 rfl (by decide) (Rd.own (i := 1) rfl rfl rfl) g91.1 g91.2.1) ?_
    obtain ⟨p92, h93, H⟩ := Let_some H
    refine Lst.storeS (i := 1) rfl rfl rfl rfl rfl Try.sizeOf4 (vs := [.bool true]) rfl rfl (by decide) rfl (xs' := encs p92) (by rw [← h93]; exact (Put.elemN (s := 1) (x := x89) rfl g91.2.2 (Put.here (vs := [.bool true]) rfl)).off (by omega)) (L' := (.own s20 4 1 (encs l56)) :: (.own s22 4 1 (encs p92)) :: (.own s5 3 1 (encs r3)) :: (.own Sl.nil 3 1 (encs ([] : List Int))) :: (.own Sl.nil 3 1 (encs ([] : List Int))) :: L) rfl ?_
    refine Lst.nil ?_
    refine At.in_normal ?_
    refine At.then ?_
    refine Cd.as (e' := [(0, iv a0), (1, iv a1), (2, Sl.v s_a2), (8, Sl.v s5), (9, Sl.v s22), (10, Sl.v s20), (44, iv (w64 ((w64 (a0 + a1)) + (1 : Int)))), (45, iv (i49 : Int)), (70, Sl.v s5), (71, iv (r3.length : Int)), (72, iv (i78 : Int))]) (L' := (.own s20 4 1 (encs l56)) :: (.own s22 4 1 (encs p92)) :: (.own s5 3 1 (encs r3)) :: (.own Sl.nil 3 1 (encs ([] : List Int))) :: (.own Sl.nil 3 1 (encs ([] : List Int))) :: L) ⟨rfl, rfl, rfl, rfl, rfl, rfl, rfl, rfl, rfl, rfl, rfl, trivial⟩ rfl ?_
    refine Cd.region ?_
    refine Lst.r (Ev.incr (by omega) rfl rfl) ?_
    refine Lst.r (Ev.move rfl) ?_
    refine Lst.nil ?_
    exact At.meet (i78 + 1, k78, p92) hF81 ⟨rfl, rfl, rfl, rfl, rfl, rfl, rfl, rfl, rfl, rfl, rfl, trivial⟩ rfl ⟨⟨hgo78 _ (some_inj H).symm, by omega⟩, Nat.lt_succ_self _⟩
   replace H := ite_f hb88 H
   refine Lst.rG hb88 (Ev.move rfl) ?_
   refine Lst.rG hb88 (Ev.geq rfl rfl) ?_
   refine Lst.rG hb88 (Ev.move rfl) ?_
   obtain ⟨o94, H, HKo94⟩ := bind_some H
   refine Lst.join (σ := Bool) 5 (fun y95 => [(0, iv a0), (1, iv a1), (2, Sl.v s_a2), (8, Sl.v s5), (9, Sl.v s22), (10, Sl.v s20), (44, iv (w64 ((w64 (a0 + a1)) + (1 : Int)))), (45, iv (i49 : Int)), (70, Sl.v s5), (71, iv (r3.length : Int)), (72, iv (i78 : Int)), (77, Sl.v s22), (78, iv (i78 : Int)), (83, .bool x85), (91, .bool y95)]) (fun y95 => (.own s20 4 1 (encs l56)) :: (.own s22 4 1 (encs l79)) :: (.own s5 3 1 (encs r3)) :: (.own Sl.nil 3 1 (encs ([] : List Int))) :: (.own Sl.nil 3 1 (encs ([] : List Int))) :: L) (fun _ y95 => y95 = o94) ?_ ?_
   ·rcases (Bool.eq_false_or_eq_true (decide (x82 ≥ (0 : Int)))).symm with hb96 | hb96
    ·replace H := ite_f hb96 H
     refine Lst.skip rfl rfl rfl hb96 rfl (by decide) ?_
     refine Lst.skip rfl rfl rfl hb96 rfl (by decide) ?_
     refine Lst.skip rfl rfl rfl hb96 rfl (by decide) ?_
     refine Lst.skip rfl rfl rfl hb96 rfl (by decide) ?_
     refine Lst.rG hb88 (Ev.pickF rfl hb96 rfl) ?_
     refine Lst.nil ?_
     exact At.meet false (FLe.refl _) ⟨rfl, rfl, rfl, rfl, rfl, rfl, rfl, rfl, rfl, rfl, rfl, rfl, rfl, rfl, rfl, trivial⟩ rfl (some_inj H)
    replace H := ite_t hb96 H
    refine Lst.rG hb96 (Ev.move rfl) ?_
    refine Lst.rG hb96 (Ev.move rfl) ?_
    obtain ⟨x97, h98, H⟩ := bind_some H
    have g99 := lat_some h98
    refine Lst.rG hb96 (Ev.indexS (α := Bool) (xs := l56) rfl rfl Try.runUnderlying75 Try.sizeOf4 rfl (by decide) (Rd.own (i := 0) rfl rfl rfl) g99.1 g99.2.1) ?_
    refine Lst.rG hb96 (Ev.loadS (α := Bool) rfl (Rd.own (i := 0) rfl rfl rfl) Try.isAgg4 (v := .bool x97) ((Get.elemN (s := 1) (x := x97) rfl g99.2.2 (Get.here _)).off (by omega))) ?_
    refine Lst.rG hb88 (Ev.pickT rfl hb96 rfl) ?_
    refine Lst.nil ?_
    exact At.meet x97 (FLe.refl _) ⟨rfl, rfl, rfl, rfl, rfl, rfl, rfl, rfl, rfl, rfl, rfl, rfl, rfl, rfl, rfl, trivial⟩ rfl (some_inj H)
   rintro F100 y95 hF101 hy
   subst hy
   refine Lst.as (e' := [(0, iv a0), (1, iv a1), (2, Sl.v s_a2), (8, Sl.v s5), (9, Sl.v s22), (10, Sl.v s20), (44, iv (w64 ((w64 (a0 + a1)) + (1 : Int)))), (45, iv (i49 : Int)), (70, Sl.v s5), (71, iv (r3.length : Int)), (72, iv (i78 : Int)), (77, Sl.v s22), (78, iv (i78 : Int)), (83, .bool x85), (91, .bool y95)]) (L' := (.own s20 4 1 (encs l56)) :: (.own s22 4 1 (encs l79)) :: (.own s5 3 1 (encs r3)) :: (.own Sl.nil 3 1 (encs ([] : List Int))) :: (.own Sl.nil 3 1 (encs ([] : List Int))) :: L) ⟨rfl, rfl, rfl, rfl, rfl, rfl, rfl, rfl, rfl, rfl, rfl, rfl, rfl, rfl, rfl, trivial⟩ rfl ?_
   replace H := HKo94
   refine Lst.r (Ev.pickF rfl hb88 rfl) ?_
   obtain ⟨x102, h103, H⟩ := bind_some H
   have g104 := lat_some h103
   refine Lst.r (Ev.indexS (α := Bool) (xs := l79) rfl rfl Try.runUnderlying75 Try.sizeOf4 rfl (by decide) (Rd.own (i := 1) rfl rfl rfl) g104.1 g104.2.1) ?_
   obtain ⟨p105, h106, H⟩ := Let_some H
   refine Lst.storeS (i := 1) rfl rfl rfl rfl rfl Try.sizeOf4 (vs := [.bool y95]) rfl rfl (by decide) rfl (xs' := encs p105) (by rw [← h106]; exact (Put.elemN (s := 1) (x := x102) rfl g104.2.2 (Put.here (vs := [.bool y95]) rfl)).off (by omega)) (L' := (.own s20 4 1 (encs l56)) :: (.own s22 4 1 (encs p105)) :: (.own s5 3 1 (encs r3)) :: (.own Sl.nil 3 1 (encs ([] : List Int))) :: (.own Sl.nil 3 1 (encs ([] : List Int))) :: L) rfl ?_
   refine Lst.nil ?_
   refine At.in_normal ?_
   refine At.then ?_
   refine Cd.region ?_
   refine Lst.r (Ev.incr (by omega) rfl rfl) ?_
   refine Lst.r (Ev.move rfl) ?_
   refine Lst.nil ?_
   exact At.meet (i78 + 1, k78, p105) (FLe.trans hF81 hF101) ⟨rfl, rfl, rfl, rfl, rfl, rfl, rfl, rfl, rfl, rfl, rfl, trivial⟩ rfl ⟨⟨hgo78 _ (some_inj H).symm, by omega⟩, Nat.lt_succ_self _⟩
  have hc55 : decide ((i55 : Int) < (a2.length : Int)) = true := decide_eq_true (by omega)
  obtain ⟨c55, H, hgo55⟩ := rangeF_go H
  unfold partref_Cover_B4 at H
  try dsimp only at H
  refine Cd.seq ?_
  refine Cd.region ?_
  refine Lst.r (Ev.lss rfl rfl) ?_
  refine Lst.nil ?_
  refine At.then ?_
  refine Cd.seq ?_
  refine Cd.condT rfl hc55 ?_
  refine Cd.skip ?_
  refine At.then ?_
  refine Cd.seq ?_
  refine Cd.block ?_
  refine Cd.seq ?_
  refine Cd.region ?_
  obtain ⟨x59, h60, H⟩ := bind_some H
  have g61 := lat_some h60
  refine Lst.r (Ev.indexS (α := Pair) (xs := a2) rfl rfl Try.runUnderlying22 Try.sizeOf49 rfl (by decide) (hs_a2.mono (FLe.trans (FLe.trans (FLe.trans (FLe.trans hF8 hF35) hF39) hF53) hF58) (sc4 (sc1 hM))) g61.1 g61.2.1) ?_
  refine Lst.r (Ev.loadSA (α := Pair) rfl (hs_a2.mono (FLe.trans (FLe.trans (FLe.trans (FLe.trans hF8 hF35) hF39) hF53) hF58) (sc4 (sc1 hM))) Try.isAgg49 Try.sizeOf49 (ch := enc x59) (Enc.len _) (by decide) ((Get.elemN (s := 2) (x := x59) rfl g61.2.2 (Get.here _)).off (by omega))) ?_
  refine Lst.alloc (cs := enc Pair.zero) rfl rfl (by decide) Try.zeroValue49 rfl (fun b62 => ?_)
  refine Lst.store (i := 0) rfl rfl rfl rfl rfl Try.sizeOf49 (vs := enc x59) rfl (Enc.len _) (Enc.one _) (cs' := enc x59) (Put.here ((Enc.len _).trans (Enc.len _).symm)) (L' := (.blk b62 (enc x59) 49) :: (.own s20 4 1 (encs l56)) :: (.own s22 4 1 (encs l51)) :: (.own s5 3 1 (encs r3)) :: (.own Sl.nil 3 1 (encs ([] : List Int))) :: (.own Sl.nil 3 1 (encs ([] : List Int))) :: L) rfl ?_
  refine Lst.nil ?_
  refine At.then ?_
  refine Cd.tail 16 (by kernel_rfl) (by kernel_rfl) ?_
  refine Qt.r (Ev.move rfl) ?_
  refine Qt.r (Ev.fieldAddr (off' := 1) rfl Try.runUnderlying49 rfl Try.sizeOf3 rfl rfl) ?_
  refine Qt.r (Ev.load (i := 0) rfl rfl Try.isAgg3 (v := iv x59.B) ((Pair.get_B (Get.here _)).off (by rfl))) ?_
  refine Qt.r (Ev.move rfl) ?_
  refine Qt.r (Ev.fieldAddr (off' := 1) rfl Try.runUnderlying49 rfl Try.sizeOf3 rfl rfl) ?_
  refine Qt.r (Ev.load (i := 0) rfl rfl Try.isAgg3 (v := iv x59.B) ((Pair.get_B (Get.here _)).off (by rfl))) ?_
  obtain ⟨x64, h65, H⟩ := bind_some H
  have g66 := lat_some h65
  refine Qt.r (Ev.indexS (α := Bool) (xs := l56) rfl rfl Try.runUnderlying75 Try.sizeOf4 rfl (by decide) (Rd.own (i := 1) rfl rfl rfl) g66.1 g66.2.1) ?_
  refine Qt.r (Ev.loadS (α := Bool) rfl (Rd.own (i := 1) rfl rfl rfl) Try.isAgg4 (v := .bool x64) ((Get.elemN (s := 1) (x := x64) rfl g66.2.2 (Get.here _)).off (by omega))) ?_
  refine Qt.r (Ev.move rfl) ?_
  obtain ⟨o67, H, HKo67⟩ := bind_some H
  refine Qt.join (σ := Bool) 6 (fun y68 => [(0, iv a0), (1, iv a1), (2, Sl.v s_a2), (8, Sl.v s5), (9, Sl.v s22), (10, Sl.v s20), (44, iv (w64 ((w64 (a0 + a1)) + (1 : Int)))), (45, iv (i49 : Int)), (47, Sl.v s_a2), (48, iv (a2.length : Int)), (49, iv (i55 : Int)), (53, Sl.v s20), (55, iv x59.B), (67, .bool y68)]) (fun y68 => y68 = o67) ?_ ?_
  ·rcases Bool.eq_false_or_eq_true x64 with hb69 | hb69
   ·replace H := ite_t hb69 H
    refine Qt.skip rfl rfl rfl hb69 rfl (by decide) ?_
    refine Qt.skip rfl rfl rfl hb69 rfl (by decide) ?_
    refine Qt.skip rfl rfl rfl hb69 rfl (by decide) ?_
    refine Qt.skip rfl rfl rfl hb69 rfl (by decide) ?_
    refine Qt.skip rfl rfl rfl hb69 rfl (by decide) ?_
    refine Qt.r (Ev.pickT rfl hb69 rfl) ?_
    exact Qt.meet true ⟨rfl, rfl, rfl, rfl, rfl, rfl, rfl, rfl, rfl, rfl, rfl, rfl, rfl, rfl, trivial⟩ (some_inj H)
   replace H := ite_f hb69 H
   refine Qt.rG hb69 (Ev.move rfl) ?_
   refine Qt.rG hb69 (Ev.fieldAddr (off' := 0) rfl Try.runUnderlying49 rfl Try.sizeOf3 rfl rfl) ?_
   refine Qt.rG hb69 (Ev.load (i := 0) rfl rfl Try.isAgg3 (v := iv x59.A) ((Pair.get_A (Get.here _)).off (by rfl))) ?_
   obtain ⟨x70, h71, H⟩ := bind_some H
   have g72 := lat_some h71
   refine Qt.rG hb69 (Ev.indexS (α := Bool) (xs := l51) rfl rfl Try.runUnderlying75 Try.sizeOf4 rfl (by decide) (Rd.own (i := 2) rfl rfl rfl) g72.1 g72.2.1) ?_
   refine Qt.rG hb69 (Ev.loadS (α := Bool) rfl (Rd.own (i := 2) rfl rfl rfl) Try.isAgg4 (v := .bool x70) ((Get.elemN (s := 1) (x := x70) rfl g72.2.2 (Get.here _)).off (by omega))) ?_
   refine Qt.r (Ev.pickF rfl hb69 rfl) ?_
   exact Qt.meet x70 ⟨rfl, rfl, rfl, rfl, rfl, rfl, rfl, rfl, rfl, rfl, rfl, rfl, rfl, rfl, trivial⟩ (some_inj H)
  rintro y68 hy
  subst hy
  refine Qt.as (e' := [(0, iv a0), (1, iv a1), (2, Sl.v s_a2), (8, Sl.v s5), (9, Sl.v s22), (10, Sl.v s20), (44, iv (w64 ((w64 (a0 + a1)) + (1 : Int)))), (45, iv (i49 : Int)), (47, Sl.v s_a2), (48, iv (a2.length : Int)), (49, iv (i55 : Int)), (53, Sl.v s20), (55, iv x59.B), (67, .bool y68)]) ⟨rfl, rfl, rfl, rfl, rfl, rfl, rfl, rfl, rfl, rfl, rfl, rfl, rfl, rfl, trivial⟩ ?_
  replace H := HKo67
  obtain ⟨x73, h74, H⟩ := bind_some H
  have g75 := lat_some h74
  refine Qt.r (Ev.indexS (α := Bool) (xs := l56) rfl rfl Try.runUnderlying75 Try.sizeOf4 rfl (by decide) (Rd.own (i := 1) rfl rfl rfl) g75.1 g75.2.1) ?_
  refine Qt.tail ?_
  obtain ⟨p76, h77, H⟩ := Let_some H
  refine Lst.storeS (i := 1) rfl rfl rfl rfl rfl Try.sizeOf4 (vs := [.bool y68]) rfl rfl (by decide) rfl (xs' := encs p76) (by rw [← h77]; exact (Put.elemN (s := 1) (x := x73) rfl g75.2.2 (Put.here (vs := [.bool y68]) rfl)).off (by omega)) (L' := (.blk b62 (enc x59) 49) :: (.own s20 4 1 (encs p76)) :: (.own s22 4 1 (encs l51)) :: (.own s5 3 1 (encs r3)) :: (.own Sl.nil 3 1 (encs ([] : List Int))) :: (.own Sl.nil 3 1 (encs ([] : List Int))) :: L) rfl ?_
  refine Lst.nil ?_
  refine At.in_normal ?_
  refine At.then ?_
  refine Cd.region ?_
  refine Lst.r (Ev.incr (by omega) rfl rfl) ?_
  refine Lst.r (Ev.move rfl) ?_
  refine Lst.nil ?_
  refine At.less (L' := (.own s20 4 1 (encs p76)) :: (.own s22 4 1 (encs l51)) :: (.own s5 3 1 (encs r3)) :: (.own Sl.nil 3 1 (encs ([] : List Int))) :: (.own Sl.nil 3 1 (encs ([] : List Int))) :: L) (sc1 (sk1 (sk1 (sk1 (sk1 (sk1 (.refl _))))))) ?_
  exact At.meet (i55 + 1, k55, p76) hF58 ⟨rfl, rfl, rfl, rfl, rfl, rfl, rfl, rfl, rfl, rfl, rfl, trivial⟩ rfl ⟨⟨hgo55 _ (some_inj H).symm, by omega⟩, Nat.lt_succ_self _⟩
 have hc36 : decide ((i36 : Int) < a0) = true := decide_eq_true (by omega)
 obtain ⟨c36, H, hgo36⟩ := rangeF_go H
 unfold partref_Cover_B0 at H
 try dsimp only at H
 refine Cd.seq ?_
 refine Cd.region ?_
 refine Lst.r (Ev.lss rfl rfl) ?_
 refine Lst.nil ?_
 refine At.then ?_
 refine Cd.seq ?_
 refine Cd.condT rfl hc36 ?_
 refine Cd.skip ?_
 refine At.then ?_
 refine Cd.seq ?_
 refine Cd.block ?_
 refine Cd.seq ?_
 refine Cd.region ?_
 refine Lst.r (Ev.move rfl) ?_
 refine Lst.r (Ev.assign rfl) ?_
 refine Lst.nil ?_
 refine At.then ?_
 refine Cd.region ?_
 refine Lst.r (Ev.move rfl) ?_
 refine Lst.r (Ev.move rfl) ?_
 refine Lst.r (Ev.move rfl) ?_
 refine Lst.r (Ev.move rfl) ?_
 obtain ⟨x41, h42, H⟩ := bind_some H
 have g43 := lat_some h42
 refine Lst.r (Ev.indexS (α := Int) (xs := r3) rfl rfl Try.runUnderlying34 Try.sizeOf3 rfl (by decide) (Rd.own (i := 2) rfl rfl rfl) g43.1 g43.2.1) ?_
 refine Lst.r (Ev.loadS (α := Int) rfl (Rd.own (i := 2) rfl rfl rfl) Try.isAgg3 (v := iv x41) ((Get.elemN (s := 1) (x := x41) rfl g43.2.2 (Get.here _)).off (by omega))) ?_
 refine Lst.r (Ev.lss rfl rfl) ?_
 obtain ⟨x44, h45, H⟩ := bind_some H
 have g46 := lat_some h45
 refine Lst.r (Ev.indexS (α := Bool) (xs := l37) rfl rfl Try.runUnderlying75 Try.sizeOf4 rfl (by decide) (Rd.own (i := 1) rfl rfl rfl) g46.1 g46.2.1) ?_
 obtain ⟨p47, h48, H⟩ := Let_some H
 refine Lst.storeS (i := 1) rfl rfl rfl rfl rfl Try.sizeOf4 (vs := [.bool (decide (x41 < (0 : Int)))]) rfl rfl (by decide) rfl (xs' := encs p47) (by rw [← h48]; exact (Put.elemN (s := 1) (x := x44) rfl g46.2.2 (Put.here (vs := [.bool (decide (x41 < (0 : Int)))]) rfl)).off (by omega)) (L' := (.own s20 4 1 (encs l21)) :: (.own s22 4 1 (encs p47)) :: (.own s5 3 1 (encs r3)) :: (.own Sl.nil 3 1 (encs ([] : List Int))) :: (.own Sl.nil 3 1 (encs ([] : List Int))) :: L) rfl ?_
 refine Lst.nil ?_
 refine At.in_normal ?_
 refine At.then ?_
 refine Cd.region ?_
 refine Lst.r (Ev.incr (by omega) rfl rfl) ?_
 refine Lst.r (Ev.move rfl) ?_
 refine Lst.nil ?_
 exact At.meet (i36 + 1, k36, p47) hF39 ⟨rfl, rfl, rfl, rfl, rfl, rfl, rfl, rfl, trivial⟩ rfl ⟨⟨hgo36 _ (some_inj H).symm, by omega⟩, Nat.lt_succ_self _⟩
set_option maxRecDepth 20000 in
theorem partref_PairsOf_sim {a0 : List Int} {s_a0 : Sl} {r : (List Pair)} (H : partref_PairsOf a0 = some r) (w0 : World) (F : Frz) (M L : List Item) (hM : M.Sublist L) (hs_a0 : Rd w0 F M s_a0 a0) : Ok Try.prog w0 39 [Sl.v s_a0] F (L) (fun _ L' v => ∃ (s1 : Sl), v = Sl.v s1 ∧ L' = (.own s1 49 2 (encs r)) :: L) := by
 unfold partref_PairsOf at H
 refine Ok.enter (m := 1) (n := 23) Try.func39 rfl rfl rfl (by decide) ?_
 refine Cd.env (e' := [(0, Sl.v s_a0)]) rfl ?_
 refine Cd.seq ?_
 refine Cd.region ?_
 refine Lst.addNil 49 2 ?_
 refine Lst.r (Ev.assign rfl) ?_
 refine Lst.nil ?_
 refine At.then ?_
 refine Cd.seq ?_
 refine Cd.region ?_
 refine Lst.addNil 49 2 ?_
 refine Lst.r (Ev.assign rfl) ?_
 refine Lst.nil ?_
 refine At.then ?_
 refine Cd.seq ?_
 refine Cd.seq ?_
 refine Cd.region ?_
 refine Lst.r (Ev.move rfl) ?_
 refine Lst.r (Ev.lenS (α := Int) (xs := a0) (by decide) rfl rfl Try.runUnderlying34 (hs_a0.mono (FLe.refl _) (sc2 hM))) ?_
 refine Lst.r (Ev.move rfl) ?_
 refine Lst.nil ?_
 refine At.then ?_
 refine Cd.block ?_
 refine Cd.bound (Rd.le (α := Int) (xs := a0) (by decide) (hs_a0.mono (FLe.refl _) (sc2 hM))) (fun hN17 => ?_)
 obtain ⟨ol3, H, HKl3⟩ := bind_some H
 refine Cd.loop (σ := Nat × Nat × Sl × (List Pair)) (fun (i3, k3, s4, l5) => [(3, Sl.v s4), (6, Sl.v s_a0), (7, iv (a0.length : Int)), (8, iv (i3 : Int))]) (fun (i3, k3, s4, l5) => (.own s4 49 2 (encs l5)) :: (.own Sl.nil 49 2 (encs ([] : List Pair))) :: L) (fun _ => (fun (i3, k3, s4, l5) => rangeF (partref_PairsOf_B0 a0) k3 i3 l5 = some ol3 ∧ i3 + k3 = a0.length)) (fun (i3, k3, s4, l5) => k3) (0, a0.length, Sl.nil, ([] : List Pair)) ⟨rfl, rfl, rfl, rfl, trivial⟩ rfl ⟨H, by omega⟩ ?_
 rintro F6 ⟨i3, k3, s4, l5⟩ hF7 ⟨H, hik3⟩
 refine Cd.as (e' := [(3, Sl.v s4), (6, Sl.v s_a0), (7, iv (a0.length : Int)), (8, iv (i3 : Int))]) (L' := (.own s4 49 2 (encs l5)) :: (.own Sl.nil 49 2 (encs ([] : List Pair))) :: L) ⟨rfl, rfl, rfl, rfl, trivial⟩ rfl ?_
 rcases k3 with _ | k3
 ·have hc3 : decide ((i3 : Int) < (a0.length : Int)) = false := decide_eq_false (by omega)
  replace H := rangeF_end H
  refine Cd.seq ?_
  refine Cd.region ?_
  refine Lst.r (Ev.lss rfl rfl) ?_
  refine Lst.nil ?_
  refine At.then ?_
  refine Cd.seq ?_
  refine Cd.condF rfl hc3 ?_
  refine Cd.exit ?_
  refine At.then_exit ?_
  refine At.then_exit ?_
  refine At.in_exit ?_
  subst H
  replace H := HKl3
  refine At.then ?_
  refine Cd.seq ?_
  refine Cd.region ?_
  refine Lst.r (Ev.move rfl) ?_
  refine Lst.r (Ev.assign rfl) ?_
  refine Lst.nil ?_
  refine At.then ?_
  obtain rfl := some_inj H
  refine Cd.ret ?_
  exact At.ret1 rfl (Res.tmp rfl) hF7 (sk1 (sc1 (.refl _))) ⟨s4, rfl, rfl⟩
 have hc3 : decide ((i3 : Int) < (a0.length : Int)) = true := decide_eq_true (by omega)
 obtain ⟨c3, H, hgo3⟩ := rangeF_go H
 unfold partref_PairsOf_B0 at H
 try dsimp only at H
 refine Cd.seq ?_
 refine Cd.region ?_
 refine Lst.r (Ev.lss rfl rfl) ?_
 refine Lst.nil ?_
 refine At.then ?_
 refine Cd.seq ?_
 refine Cd.condT rfl hc3 ?_
 refine Cd.skip ?_
 refine At.then ?_
 refine Cd.seq ?_
 refine Cd.block ?_
 refine Cd.seq ?_
 refine Cd.region ?_
 refine Lst.r (Ev.move rfl) ?_
 obtain ⟨x8, h9, H⟩ := bind_some H
 have g10 := lat_some h9
 refine Lst.r (Ev.indexS (α := Int) (xs := a0) rfl rfl Try.runUnderlying34 Try.sizeOf3 rfl (by decide) (hs_a0.mono hF7 (sc2 hM)) g10.1 g10.2.1) ?_
 refine Lst.r (Ev.loadS (α := Int) rfl (hs_a0.mono hF7 (sc2 hM)) Try.isAgg3 (v := iv x8) ((Get.elemN (s := 1) (x := x8) rfl g10.2.2 (Get.here _)).off (by omega))) ?_
 refine Lst.r (Ev.assign rfl) ?_
 refine Lst.r (Ev.assign rfl) ?_
 refine Lst.nil ?_
 refine At.then ?_
 refine Cd.seq ?_
 refine Cd.region ?_
 refine Lst.r (Ev.move rfl) ?_
 refine Lst.r (Ev.geq rfl rfl) ?_
 refine Lst.nil ?_
 refine At.then ?_
 rcases (Bool.eq_false_or_eq_true (decide (x8 ≥ (0 : Int)))).symm with hb11 | hb11
 ·replace H := ite_f hb11 H
  refine Cd.condF rfl hb11 ?_
  refine Cd.skip ?_
  refine At.in_normal ?_
  refine At.then ?_
  refine Cd.region ?_
  refine Lst.r (Ev.incr (by omega) rfl rfl) ?_
  refine Lst.r (Ev.move rfl) ?_
  refine Lst.nil ?_
  exact At.meet (i3 + 1, k3, s4, l5) hF7 ⟨rfl, rfl, rfl, rfl, trivial⟩ rfl ⟨⟨hgo3 _ (some_inj H).symm, by omega⟩, Nat.lt_succ_self _⟩
 replace H := ite_t hb11 H
 refine Cd.condT rfl hb11 ?_
 refine Cd.region ?_
 refine Lst.r (Ev.move rfl) ?_
 refine Lst.r (Ev.move rfl) ?_
 refine Lst.r (Ev.move rfl) ?_
 refine Lst.r (Ev.build (v := .agg (enc ({ Pair.zero with A := (i3 : Int), B := x8 } : Pair)).toArray) (pv := [(0, iv (i3 : Int)), (1, iv x8)]) ⟨rfl, rfl, ⟨rfl, rfl, trivial⟩⟩ (fun w => by kernel_rfl)) ?_
 refine Lst.buildSlice (α := Pair) (xs := ([({ Pair.zero with A := (i3 : Int), B := x8 } : Pair)] : List Pair)) (pv := [(0, .agg (enc ({ Pair.zero with A := (i3 : Int), B := x8 } : Pair)).toArray)]) rfl rfl (by decide) ⟨rfl, rfl, trivial⟩ (run_buildSlice (α := Pair) (z0 := Pair.zero) (xs := ([({ Pair.zero with A := (i3 : Int), B := x8 } : Pair)] : List Pair)) Try.runUnderlying22 Try.sizeOf49 Try.zeroValue49 rfl rfl rfl (by decide) rfl (fill_cons (cs := encs (List.replicate 1 Pair.zero)) (cs' := encs ((List.replicate 1 Pair.zero).set 0 ({ Pair.zero with A := (i3 : Int), B := x8 } : Pair))) (vs := enc ({ Pair.zero with A := (i3 : Int), B := x8 } : Pair)) rfl rfl (Enc.len _) ((Put.elemN (s := 2) (i := 0) (x := Pair.zero) (y := ({ Pair.zero with A := (i3 : Int), B := x8 } : Pair)) rfl rfl (Put.here ((Enc.len _).trans (Enc.len _).symm))).off rfl) fill_nil)) rfl rfl (by decide) (fun s12 _ => ?_)
 obtain ⟨u14, h15, H⟩ := bind_some H
 refine Lst.append (i := 1) (α := Pair) (xs := l5) (ys := ([({ Pair.zero with A := (i3 : Int), B := x8 } : Pair)] : List Pair)) rfl rfl (by decide) rfl rfl Try.runUnderlying22 Try.typeInfo49 rfl rfl rfl rfl rfl rfl (Rd.own (i := 0) rfl rfl rfl) rfl (room_some h15) rfl (fun s16 => ?_)
 refine Lst.its (L' := (.own s12 49 2 (encs ([({ Pair.zero with A := (i3 : Int), B := x8 } : Pair)] : List Pair))) :: (.own s16 49 2 (encs (l5 ++ ([({ Pair.zero with A := (i3 : Int), B := x8 } : Pair)] : List Pair)))) :: (.own Sl.nil 49 2 (encs ([] : List Pair))) :: L) rfl ?_
 refine Lst.r (Ev.assign rfl) ?_
 refine Lst.nil ?_
 refine At.in_normal ?_
 refine At.then ?_
 refine Cd.as (e' := [(6, Sl.v s_a0), (7, iv (a0.length : Int)), (8, iv (i3 : Int)), (3, Sl.v s16)]) (L' := (.own s12 49 2 (encs ([({ Pair.zero with A := (i3 : Int), B := x8 } : Pair)] : List Pair))) :: (.own s16 49 2 (encs (l5 ++ ([({ Pair.zero with A := (i3 : Int), B := x8 } : Pair)] : List Pair)))) :: (.own Sl.nil 49 2 (encs ([] : List Pair))) :: L) ⟨rfl, rfl, rfl, rfl, trivial⟩ rfl ?_
 refine Cd.region ?_
 refine Lst.r (Ev.incr (by omega) rfl rfl) ?_
 refine Lst.r (Ev.move rfl) ?_
 refine Lst.nil ?_
 refine At.less (L' := (.own s16 49 2 (encs (l5 ++ ([({ Pair.zero with A := (i3 : Int), B := x8 } : Pair)] : List Pair)))) :: (.own Sl.nil 49 2 (encs ([] : List Pair))) :: L) (sc1 (sk1 (sk1 (.refl _)))) ?_
 exact At.meet (i3 + 1, k3, s16, l5 ++ ([({ Pair.zero with A := (i3 : Int), B := x8 } : Pair)] : List Pair)) hF7 ⟨rfl, rfl, rfl, rfl, trivial⟩ rfl ⟨⟨hgo3 _ (some_inj H).symm, by omega⟩, Nat.lt_succ_self _⟩
set_option maxRecDepth 20000 in
theorem slices_Equal_api_Pair_api_Pair_sim {a0 : List Pair} {a1 : List Pair} {s_a0 : Sl} {s_a1 : Sl} {r : Bool} (H : slices_Equal_api_Pair_api_Pair a0 a1 = some r) (w0 : World) (F : Frz) (M L : List Item) (hM : M.Sublist L) (hs_a0 : Rd w0 F M s_a0 a0) (hs_a1 : Rd w0 F M s_a1 a1) : Ok Try.prog w0 23 [Sl.v s_a0, Sl.v s_a1] F (L) (Is (.bool r) (L)) := by
 unfold slices_Equal_api_Pair_api_Pair at H
 refine Ok.enter (m := 2) (n := 26) Try.func23 rfl rfl rfl (by decide) ?_
 refine Cd.env (e' := [(0, Sl.v s_a0), (1, Sl.v s_a1)]) rfl ?_
 refine Cd.seq ?_
 refine Cd.region ?_
 refine Lst.r (Ev.assign rfl) ?_
 refine Lst.nil ?_
 refine At.then ?_
 refine Cd.seq ?_
 refine Cd.seq ?_
 refine Cd.region ?_
 refine Lst.r (Ev.move rfl) ?_
 refine Lst.r (Ev.lenS (α := Pair) (xs := a0) (by decide) rfl rfl Try.runUnderlying22 (hs_a0.mono (FLe.refl _) hM)) ?_
 refine Lst.r (Ev.move rfl) ?_
 refine Lst.r (Ev.lenS (α := Pair) (xs := a1) (by decide) rfl rfl Try.runUnderlying22 (hs_a1.mono (FLe.refl _) hM)) ?_
 refine Lst.r (Ev.neq rfl rfl) ?_
 refine Lst.nil ?_
 refine At.then ?_
 rcases Bool.eq_false_or_eq_true ((a0.length : Int) != (a1.length : Int)) with hb1 | hb1
 ·replace H := ite_t hb1 H
  refine Cd.condT rfl hb1 ?_
  refine Cd.seq ?_
  refine Cd.region ?_
  refine Lst.r (Ev.assign rfl) ?_
  refine Lst.nil ?_
  refine At.then ?_
  obtain rfl := some_inj H
  refine Cd.ret ?_
  refine At.then_ret ?_
  exact At.ret1 rfl (Res.tmp rfl) (FLe.refl _) (.refl _) ⟨rfl, rfl⟩
 replace H := ite_f hb1 H
 refine Cd.condF rfl hb1 ?_
 refine Cd.skip ?_
 refine At.then ?_
 refine Cd.seq ?_
 refine Cd.seq ?_
 refine Cd.region ?_
 refine Lst.r (Ev.move rfl) ?_
 refine Lst.r (Ev.lenS (α := Pair) (xs := a0) (by decide) rfl rfl Try.runUnderlying22 (hs_a0.mono (FLe.refl _) hM)) ?_
 refine Lst.r (Ev.move rfl) ?_
 refine Lst.nil ?_
 refine At.then ?_
 refine Cd.block ?_
 refine Cd.bound (Rd.le (α := Pair) (xs := a0) (by decide) (hs_a0.mono (FLe.refl _) hM)) (fun hN12 => ?_)
 obtain ⟨ol2, H, HKl2⟩ := andThen_some H
 refine Cd.loop (σ := Nat × Nat × Unit) (fun (i2, k2, _u) => [(0, Sl.v s_a0), (1, Sl.v s_a1), (12, iv (a0.length : Int)), (13, iv (i2 : Int))]) (fun (i2, k2, _u) => L) (fun _ => (fun (i2, k2, _u) => rangeM (slices_Equal_api_Pair_api_Pair_B0 a0 a1) k2 i2 () = some ol2 ∧ i2 + k2 = a0.length)) (fun (i2, k2, _u) => k2) (0, a0.length, ()) ⟨rfl, rfl, rfl, rfl, trivial⟩ rfl ⟨H, by omega⟩ ?_
 rintro F3 ⟨i2, k2, _u⟩ hF4 ⟨H, hik2⟩
 refine Cd.as (e' := [(0, Sl.v s_a0), (1, Sl.v s_a1), (12, iv (a0.length : Int)), (13, iv (i2 : Int))]) (L' := L) ⟨rfl, rfl, rfl, rfl, trivial⟩ rfl ?_
 rcases k2 with _ | k2
 ·have hc2 : decide ((i2 : Int) < (a0.length : Int)) = false := decide_eq_false (by omega)
  replace H := rangeM_end H
  refine Cd.seq ?_
  refine Cd.region ?_
  refine Lst.r (Ev.lss rfl rfl) ?_
  refine Lst.nil ?_
  refine At.then ?_
  refine Cd.seq ?_
  refine Cd.condF rfl hc2 ?_
  refine Cd.exit ?_
  refine At.then_exit ?_
  refine At.then_exit ?_
  refine At.in_exit ?_
  subst H
  replace H := HKl2
  refine At.then ?_
  refine Cd.seq ?_
  refine Cd.region ?_
  refine Lst.r (Ev.assign rfl) ?_
  refine Lst.nil ?_
  refine At.then ?_
  obtain rfl := some_inj H
  refine Cd.ret ?_
  exact At.ret1 rfl (Res.tmp rfl) hF4 (.refl _) ⟨rfl, rfl⟩
 have hc2 : decide ((i2 : Int) < (a0.length : Int)) = true := decide_eq_true (by omega)
 obtain ⟨c2, H, hgo2, hbrk2, hret2⟩ := rangeM_go H
 unfold slices_Equal_api_Pair_api_Pair_B0 at H
 try dsimp only at H
 refine Cd.seq ?_
 refine Cd.region ?_
 refine Lst.r (Ev.lss rfl rfl) ?_
 refine Lst.nil ?_
 refine At.then ?_
 refine Cd.seq ?_
 refine Cd.condT rfl hc2 ?_
 refine Cd.skip ?_
 refine At.then ?_
 refine Cd.seq ?_
 refine Cd.block ?_
 refine Cd.seq ?_
 refine Cd.region ?_
 refine Lst.r (Ev.move rfl) ?_
 refine Lst.r (Ev.assign rfl) ?_
 refine Lst.nil ?_
 refine At.then ?_
 refine Cd.seq ?_
 refine Cd.quiet (by kernel_rfl) (by kernel_rfl) ?_
 refine Qt.r (Ev.move rfl) ?_
 refine Qt.r (Ev.move rfl) ?_
 obtain ⟨x5, h6, H⟩ := bind_some H
 have g7 := lat_some h6
 refine Qt.r (Ev.indexS (α := Pair) (xs := a0) rfl rfl Try.runUnderlying22 Try.sizeOf49 rfl (by decide) (hs_a0.mono hF4 hM) g7.1 g7.2.1) ?_
 refine Qt.r (Ev.loadSA (α := Pair) rfl (hs_a0.mono hF4 hM) Try.isAgg49 Try.sizeOf49 (ch := enc x5) (Enc.len _) (by decide) ((Get.elemN (s := 2) (x := x5) rfl g7.2.2 (Get.here _)).off (by omega))) ?_
 refine Qt.r (Ev.move rfl) ?_
 refine Qt.r (Ev.move rfl) ?_
 obtain ⟨x8, h9, H⟩ := bind_some H
 have g10 := lat_some h9
 refine Qt.r (Ev.indexS (α := Pair) (xs := a1) rfl rfl Try.runUnderlying22 Try.sizeOf49 rfl (by decide) (hs_a1.mono hF4 hM) g10.1 g10.2.1) ?_
 refine Qt.r (Ev.loadSA (α := Pair) rfl (hs_a1.mono hF4 hM) Try.isAgg49 Try.sizeOf49 (ch := enc x8) (Enc.len _) (by decide) ((Get.elemN (s := 2) (x := x8) rfl g10.2.2 (Get.here _)).off (by omega))) ?_
 refine Qt.r (Ev.neqA rfl rfl (by kernel_rfl) (eq49 _ _)) ?_
 refine Qt.done ?_
 refine At.then ?_
 rcases Bool.eq_false_or_eq_true (!(decide (x5 = x8))) with hb11 | hb11
 ·replace H := ite_t hb11 H
  refine Cd.condT rfl hb11 ?_
  refine Cd.seq ?_
  refine Cd.as (e' := []) (L' := L) trivial rfl ?_
  refine Cd.region ?_
  refine Lst.r (Ev.assign rfl) ?_
  refine Lst.nil ?_
  refine At.then ?_
  have H := hret2 _ (some_inj H).symm
  subst H
  replace H := HKl2
  obtain rfl := some_inj H
  refine Cd.ret ?_
  refine At.in_ret ?_
  refine At.then_ret ?_
  refine At.then_ret ?_
  refine At.in_ret ?_
  refine At.then_ret ?_
  exact At.ret1 rfl (Res.tmp rfl) hF4 (.refl _) ⟨rfl, rfl⟩
 replace H := ite_f hb11 H
 refine Cd.condF rfl hb11 ?_
 refine Cd.skip ?_
 refine At.in_normal ?_
 refine At.then ?_
 refine Cd.region ?_
 refine Lst.r (Ev.incr (by omega) rfl rfl) ?_
 refine Lst.r (Ev.move rfl) ?_
 refine Lst.nil ?_
 exact At.meet (i2 + 1, k2, ()) hF4 ⟨rfl, rfl, rfl, rfl, trivial⟩ rfl ⟨⟨hgo2 _ (some_inj H).symm, by omega⟩, Nat.lt_succ_self _⟩
set_option maxRecDepth 20000 in
theorem slices_Equal_int_int_sim {a0 : List Int} {a1 : List Int} {s_a0 : Sl} {s_a1 : Sl} {r : Bool} (H : slices_Equal_int_int a0 a1 = some r) (w0 : World) (F : Frz) (M L : List Item) (hM : M.Sublist L) (hs_a0 : Rd w0 F M s_a0 a0) (hs_a1 : Rd w0 F M s_a1 a1) : Ok Try.prog w0 30 [Sl.v s_a0, Sl.v s_a1] F (L) (Is (.bool r) (L)) := by
 unfold slices_Equal_int_int at H
 refine Ok.enter (m := 2) (n := 26) Try.func30 rfl rfl rfl (by decide) ?_
 refine Cd.env (e' := [(0, Sl.v s_a0), (1, Sl.v s_a1)]) rfl ?_
 refine Cd.seq ?_
 refine Cd.region ?_
 refine Lst.r (Ev.assign rfl) ?_
 refine Lst.nil ?_
 refine At.then ?_
 refine Cd.seq ?_
 refine Cd.seq ?_
 refine Cd.region ?_
 refine Lst.r (Ev.move rfl) ?_
 refine Lst.r (Ev.lenS (α := Int) (xs := a0) (by decide) rfl rfl Try.runUnderlying34 (hs_a0.mono (FLe.refl _) hM)) ?_
 refine Lst.r (Ev.move rfl) ?_
 refine Lst.r (Ev.lenS (α := Int) (xs := a1) (by decide) rfl rfl Try.runUnderlying34 (hs_a1.mono (FLe.refl _) hM)) ?_
 refine Lst.r (Ev.neq rfl rfl) ?_
 refine Lst.nil ?_
 refine At.then ?_
 rcases Bool.eq_false_or_eq_true ((a0.length : Int) != (a1.length : Int)) with hb1 | hb1
 ·replace H := ite_t hb1 H
  refine Cd.condT rfl hb1 ?_
  refine Cd.seq ?_
  refine Cd.region ?_
  refine Lst.r (Ev.assign rfl) ?_
  refine Lst.nil ?_
  refine At.then ?_
  obtain rfl := some_inj H
  refine Cd.ret ?_
  refine At.then_ret ?_
  exact At.ret1 rfl (Res.tmp rfl) (FLe.refl _) (.refl _) ⟨rfl, rfl⟩
 replace H := ite_f hb1 H
 refine Cd.condF rfl hb1 ?_
 refine Cd.skip ?_
 refine At.then ?_
 refine Cd.seq ?_
 refine Cd.seq ?_
 refine Cd.region ?_
 refine Lst.r (Ev.move rfl) ?_
 refine Lst.r (Ev.lenS (α := Int) (xs := a0) (by decide) rfl rfl Try.runUnderlying34 (hs_a0.mono (FLe.refl _) hM)) ?_
 refine Lst.r (Ev.move rfl) ?_
 refine Lst.nil ?_
 refine At.then ?_
 refine Cd.block ?_
 refine Cd.bound (Rd.le (α := Int) (xs := a0) (by decide) (hs_a0.mono (FLe.refl _) hM)) (fun hN12 => ?_)
 obtain ⟨ol2, H, HKl2⟩ := andThen_some H
 refine Cd.loop (σ := Nat × Nat × Unit) (fun (i2, k2, _u) => [(0, Sl.v s_a0), (1, Sl.v s_a1), (12, iv (a0.length : Int)), (13, iv (i2 : Int))]) (fun (i2, k2, _u) => L) (fun _ => (fun (i2, k2, _u) => rangeM (slices_Equal_int_int_B0 a0 a1) k2 i2 () = some ol2 ∧ i2 + k2 = a0.length)) (fun (i2, k2, _u) => k2) (0, a0.length, ()) ⟨rfl, rfl, rfl, rfl, trivial⟩ rfl ⟨H, by omega⟩ ?_
 rintro F3 ⟨i2, k2, _u⟩ hF4 ⟨H, hik2⟩
 refine Cd.as (e' := [(0, Sl.v s_a0), (1, Sl.v s_a1), (12, iv (a0.length : Int)), (13, iv (i2 : Int))]) (L' := L) ⟨rfl, rfl, rfl, rfl, trivial⟩ rfl ?_
 rcases k2 with _ | k2
 ·have hc2 : decide ((i2 : Int) < (a0.length : Int)) = false := decide_eq_false (by omega)
  replace H := rangeM_end H
  refine Cd.seq ?_
  refine Cd.region ?_
  refine Lst.r (Ev.lss rfl rfl) ?_
  refine Lst.nil ?_
  refine At.then ?_
  refine Cd.seq ?_
  refine Cd.condF rfl hc2 ?_
  refine Cd.exit ?_
  refine At.then_exit ?_
  refine At.then_exit ?_
  refine At.in_exit ?_
  subst H
  replace H := HKl2
  refine At.then ?_
  refine Cd.seq ?_
  refine Cd.region ?_
  refine Lst.r (Ev.assign rfl) ?_
  refine Lst.nil ?_
  refine At.then ?_
  obtain rfl := some_inj H
  refine Cd.ret ?_
  exact At.ret1 rfl (Res.tmp rfl) hF4 (.refl _) ⟨rfl, rfl⟩
 have hc2 : decide ((i2 : Int) < (a0.length : Int)) = true := decide_eq_true (by omega)
 obtain ⟨c2, H, hgo2, hbrk2, hret2⟩ := rangeM_go H
 unfold slices_Equal_int_int_B0 at H
 try dsimp only at H
 refine Cd.seq ?_
 refine Cd.region ?_
 refine Lst.r (Ev.lss rfl rfl) ?_
 refine Lst.nil ?_
 refine At.then ?_
 refine Cd.seq ?_
 refine Cd.condT rfl hc2 ?_
 refine Cd.skip ?_
 refine At.then ?_
 refine Cd.seq ?_
 refine Cd.block ?_
 refine Cd.seq ?_
 refine Cd.region ?_
 refine Lst.r (Ev.move rfl) ?_
 refine Lst.r (Ev.assign rfl) ?_
 refine Lst.nil ?_
 refine At.then ?_
 refine Cd.seq ?_
 refine Cd.quiet (by kernel_rfl) (by kernel_rfl) ?_
 refine Qt.r (Ev.move rfl) ?_
 refine Qt.r (Ev.move rfl) ?_
 obtain ⟨x5, h6, H⟩ := bind_some H
 have g7 := lat_some h6
 refine Qt.r (Ev.indexS (α := Int) (xs := a0) rfl rfl Try.runUnderlying34 Try.sizeOf3 rfl (by decide) (hs_a0.mono hF4 hM) g7.1 g7.2.1) ?_
 refine Qt.r (Ev.loadS (α := Int) rfl (hs_a0.mono hF4 hM) Try.isAgg3 (v := iv x5) ((Get.elemN (s := 1) (x := x5) rfl g7.2.2 (Get.here _)).off (by omega))) ?_
 refine Qt.r (Ev.move rfl) ?_
 refine Qt.r (Ev.move rfl) ?_
 obtain ⟨x8, h9, H⟩ := bind_some H
 have g10 := lat_some h9
 refine Qt.r (Ev.indexS (α := Int) (xs := a1) rfl rfl Try.runUnderlying34 Try.sizeOf3 rfl (by decide) (hs_a1.mono hF4 hM) g10.1 g10.2.1) ?_
 refine Qt.r (Ev.loadS (α := Int) rfl (hs_a1.mono hF4 hM) Try.isAgg3 (v := iv x8) ((Get.elemN (s := 1) (x := x8) rfl g10.2.2 (Get.here _)).off (by omega))) ?_
 refine Qt.r (Ev.neq rfl rfl) ?_
 refine Qt.done ?_
 refine At.then ?_
 rcases Bool.eq_false_or_eq_true (x5 != x8) with hb11 | hb11
 ·replace H := ite_t hb11 H
  refine Cd.condT rfl hb11 ?_
  refine Cd.seq ?_
  refine Cd.as (e' := []) (L' := L) trivial rfl ?_
  refine Cd.region ?_
  refine Lst.r (Ev.assign rfl) ?_
  refine Lst.nil ?_
  refine At.then ?_
  have H := hret2 _ (some_inj H).symm
  subst H
  replace H := HKl2
  obtain rfl := some_inj H
  refine Cd.ret ?_
  refine At.in_ret ?_
  refine At.then_ret ?_
  refine At.then_ret ?_
  refine At.in_ret ?_
  refine At.then_ret ?_
  exact At.ret1 rfl (Res.tmp rfl) hF4 (.refl _) ⟨rfl, rfl⟩
 replace H := ite_f hb11 H
 refine Cd.condF rfl hb11 ?_
 refine Cd.skip ?_
 refine At.in_normal ?_
 refine At.then ?_
 refine Cd.region ?_
 refine Lst.r (Ev.incr (by omega) rfl rfl) ?_
 refine Lst.r (Ev.move rfl) ?_
 refine Lst.nil ?_
 exact At.meet (i2 + 1, k2, ()) hF4 ⟨rfl, rfl, rfl, rfl, trivial⟩ rfl ⟨⟨hgo2 _ (some_inj H).symm, by omega⟩, Nat.lt_succ_self _⟩
end Go.Proofs.Yticifbmaapnfbaa
