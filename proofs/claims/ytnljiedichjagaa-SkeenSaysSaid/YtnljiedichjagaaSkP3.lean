/-
  The functions compute their specs; printed by a program.
-/
import Derived.Test.YtnljiedichjagaaSkP2
namespace Go.Proofs.Ytnljiedichjagaa
open Go.RowKit Enc
set_option linter.unusedVariables false
set_option linter.unusedSimpArgs false
set_option maxHeartbeats 2000000 in
set_option maxRecDepth 20000 in
theorem slices_partitionCmpFunc_api_Wait_Fix_3_sim {fu : Nat} {a0 : List Wait} {a1 : Int} {a2 : Int} {a3 : Int} {s_a0 : Sl} {r : (List Wait) × Int × Bool} (H : slices_partitionCmpFunc_api_Wait_Fix_3 fu a0 a1 a2 a3 = some r) (w0 : World) (F : Frz) (M L : List Item) (hM : M.Sublist L) : Ok Try.prog w0 133 [Sl.v s_a0, iv a1, iv a2, iv a3, .func (.func 85) #[] #[]] F ((.own s_a0 77 4 (encs a0)) :: L) (fun _ L' v => v = .tuple #[iv r.2.1, .bool r.2.2] ∧ L' = (.own s_a0 77 4 (encs r.1)) :: L) := by
 unfold slices_partitionCmpFunc_api_Wait_Fix_3 at H
 refine Ok.enter (m := 5) (n := 178) Try.func133 rfl rfl rfl (by decide) ?_
 refine Cd.env (e' := [(0, Sl.v s_a0), (1, iv a1), (2, iv a2), (3, iv a3), (4, .func (.func 85) #[] #[])]) rfl ?_
 refine Cd.seq ?_
 refine Cd.region ?_
 refine Lst.r (Ev.assign rfl) ?_
 refine Lst.r (Ev.assign rfl) ?_
 refine Lst.nil ?_
 refine At.then ?_
 refine Cd.seq ?_
 obtain ⟨x2, h3, H⟩ := bind_some H
 obtain ⟨x5, h6, H⟩ := bind_some H
 obtain ⟨x8, h9, H⟩ := bind_some H
 obtain ⟨p11, h12, H⟩ := Let_some H
 obtain ⟨o15, h16, H⟩ := Let_some H
 refine Cd.headMeet (σ := (List Wait)) 14 (fun l14 => [(0, Sl.v s_a0), (1, iv a1), (2, iv a2), (4, .func (.func 85) #[] #[]), (16, Sl.v s_a0), (17, iv a3), (25, .agg (enc x5).toArray)]) (fun l14 => (.own s_a0 77 4 (encs l14)) :: L) (fun _ l14 => l14 = o15) (by kernel_rfl) (by kernel_rfl) (behind_sink (by kernel_rfl) (by kernel_rfl) (by kernel_rfl)) (by kernel_rfl) (fun hsel hlt => ?_) ?_
 ·refine HdJ.keep (fun w => St w0 F (L) w) (fun w h => trivial) ?_
  refine HdJ.tk hsel hlt 0 (fun w h => h.sublist (sc1 (.refl _))) rfl (Ev.move rfl) ?_
  refine HdJ.tk hsel hlt 1 (fun w h => h.sublist (sc1 (.refl _))) rfl (Ev.move rfl) ?_
  refine HdJ.tk hsel hlt 2 (fun w h => h.sublist (sc1 (.refl _))) rfl (Ev.move rfl) ?_
  refine HdJ.tk hsel hlt 3 (fun w h => h.sublist (sc1 (.refl _))) rfl (Ev.move rfl) ?_
  refine HdJ.tk hsel hlt 4 (fun w h => h.sublist (sc1 (.refl _))) rfl (Ev.move rfl) ?_
  refine HdJ.tk hsel hlt 5 (fun w h => h.sublist (sc1 (.refl _))) rfl (Ev.move rfl) ?_
  refine HdJ.tk hsel hlt 8 (fun w h => h.sublist (sc1 (.refl _))) rfl (Ev.move rfl) ?_
  refine HdJ.tk hsel hlt 9 (fun w h => h.sublist (sc1 (.refl _))) rfl (Ev.move rfl) ?_
  refine HdJ.step [6, 10] (by kernel_rfl) rfl ?_
  refine HdStep.c (fun inv => ?_) ?_
  ·have g17 := lat_some h3
   refine Lst.r (Ev.indexS (α := Wait) (xs := a0) rfl rfl Try.runUnderlying57 Try.sizeOf77 rfl (by decide) (Rd.own (i := 0) rfl rfl rfl) g17.1 g17.2.1) ?_
   refine Lst.nil ?_
   refine At.hd inv (fun w h => (h.weaken (FLe.refl _)).sublist (sc1 (.refl _))) ?_
   refine HdJ.step [7, 10] (by kernel_rfl) rfl ?_
   refine HdStep.c (fun inv => ?_) ?_
   ·refine Lst.r (Ev.loadSA (α := Wait) rfl (Rd.own (i := 0) rfl rfl rfl) Try.isAgg77 Try.sizeOf77 (ch := enc x2) (Enc.len _) (by decide) ((Get.elemN (s := 4) (x := x2) rfl g17.2.2 (Get.here _)).off (by omega))) ?_
    refine Lst.nil ?_
    refine At.hd inv (fun w h => (h.weaken (FLe.refl _)).sublist (sc1 (.refl _))) ?_
    refine HdJ.step [10] (by kernel_rfl) rfl ?_
    refine HdStep.c (fun inv => ?_) ?_
    ·have g18 := lat_some h6
     refine Lst.r (Ev.indexS (α := Wait) (xs := a0) rfl rfl Try.runUnderlying57 Try.sizeOf77 rfl (by decide) (Rd.own (i := 0) rfl rfl rfl) g18.1 g18.2.1) ?_
     refine Lst.nil ?_
     refine At.hd inv (fun w h => (h.weaken (FLe.refl _)).sublist (sc1 (.refl _))) ?_
     refine HdJ.step [11] (by kernel_rfl) rfl ?_
     refine HdStep.c (fun inv => ?_) ?_
     ·refine Lst.r (Ev.loadSA (α := Wait) rfl (Rd.own (i := 0) rfl rfl rfl) Try.isAgg77 Try.sizeOf77 (ch := enc x5) (Enc.len _) (by decide) ((Get.elemN (s := 4) (x := x5) rfl g18.2.2 (Get.here _)).off (by omega))) ?_
      refine Lst.nil ?_
      refine At.hd inv (fun w h => (h.weaken (FLe.refl _)).sublist (sc1 (.refl _))) ?_
      refine HdJ.step [12] (by kernel_rfl) rfl ?_
      refine HdStep.c (fun inv => ?_) ?_
      ·have g19 := lat_some h9
       refine Lst.r (Ev.indexS (α := Wait) (xs := a0) rfl rfl Try.runUnderlying57 Try.sizeOf77 rfl (by decide) (Rd.own (i := 0) rfl rfl rfl) g19.1 g19.2.1) ?_
       refine Lst.nil ?_
       refine At.hd inv (fun w h => (h.weaken (FLe.refl _)).sublist (sc1 (.refl _))) ?_
       refine HdJ.step [13] (by kernel_rfl) rfl ?_
       refine HdStep.c (fun inv => ?_) ?_
       ·refine Lst.storeS (i := 0) rfl rfl rfl rfl rfl Try.sizeOf77 (vs := enc x2) rfl (Enc.len _) (by decide) (Enc.one _) (xs' := encs p11) (by rw [← h12]; exact (Put.elemN (s := 4) (x := x8) rfl g19.2.2 (Put.here ((Enc.len _).trans (Enc.len _).symm))).off (by omega)) (L' := (.own s_a0 77 4 (encs p11)) :: L) rfl ?_
        refine Lst.nil ?_
        refine At.hd inv (fun w h => (h.weaken (FLe.refl _)).sublist (sc1 (.refl _))) ?_
        refine HdJ.done (by kernel_rfl) ?_
        exact At.meetN p11 (FLe.refl _) ⟨rfl, rfl, rfl, rfl, rfl, rfl, rfl, trivial⟩ rfl h16
       exact trivial
      exact trivial
     exact trivial
    exact trivial
   refine HdStep.c (fun inv => ?_) ?_
   ·have g20 := lat_some h6
    refine Lst.r (Ev.indexS (α := Wait) (xs := a0) rfl rfl Try.runUnderlying57 Try.sizeOf77 rfl (by decide) (Rd.own (i := 0) rfl rfl rfl) g20.1 g20.2.1) ?_
    refine Lst.nil ?_
    refine At.hd inv (fun w h => (h.weaken (FLe.refl _)).sublist (sc1 (.refl _))) ?_
    refine HdJ.step [7, 11] (by kernel_rfl) rfl ?_
    refine HdStep.c (fun inv => ?_) ?_
    ·refine Lst.r (Ev.loadSA (α := Wait) rfl (Rd.own (i := 0) rfl rfl rfl) Try.isAgg77 Try.sizeOf77 (ch := enc x2) (Enc.len _) (by decide) ((Get.elemN (s := 4) (x := x2) rfl g17.2.2 (Get.here _)).off (by omega))) ?_
     refine Lst.nil ?_
     refine At.hd inv (fun w h => (h.weaken (FLe.refl _)).sublist (sc1 (.refl _))) ?_
     refine HdJ.step [11] (by kernel_rfl) rfl ?_
     refine HdStep.c (fun inv => ?_) ?_
     ·refine Lst.r (Ev.loadSA (α := Wait) rfl (Rd.own (i := 0) rfl rfl rfl) Try.isAgg77 Try.sizeOf77 (ch := enc x5) (Enc.len _) (by decide) ((Get.elemN (s := 4) (x := x5) rfl g20.2.2 (Get.here _)).off (by omega))) ?_
      refine Lst.nil ?_
      refine At.hd inv (fun w h => (h.weaken (FLe.refl _)).sublist (sc1 (.refl _))) ?_
      refine HdJ.step [12] (by kernel_rfl) rfl ?_
      refine HdStep.c (fun inv => ?_) ?_
      ·have g21 := lat_some h9
       refine Lst.r (Ev.indexS (α := Wait) (xs := a0) rfl rfl Try.runUnderlying57 Try.sizeOf77 rfl (by decide) (Rd.own (i := 0) rfl rfl rfl) g21.1 g21.2.1) ?_
       refine Lst.nil ?_
       refine At.hd inv (fun w h => (h.weaken (FLe.refl _)).sublist (sc1 (.refl _))) ?_
       refine HdJ.step [13] (by kernel_rfl) rfl ?_
       refine HdStep.c (fun inv => ?_) ?_
       ·refine Lst.storeS (i := 0) rfl rfl rfl rfl rfl Try.sizeOf77 (vs := enc x2) rfl (Enc.len _) (by decide) (Enc.one _) (xs' := encs p11) (by rw [← h12]; exact (Put.elemN (s := 4) (x := x8) rfl g21.2.2 (Put.here ((Enc.len _).trans (Enc.len _).symm))).off (by omega)) (L' := (.own s_a0 77 4 (encs p11)) :: L) rfl ?_
        refine Lst.nil ?_
        refine At.hd inv (fun w h => (h.weaken (FLe.refl _)).sublist (sc1 (.refl _))) ?_
        refine HdJ.done (by kernel_rfl) ?_
        exact At.meetN p11 (FLe.refl _) ⟨rfl, rfl, rfl, rfl, rfl, rfl, rfl, trivial⟩ rfl h16
       exact trivial
      exact trivial
     exact trivial
    refine HdStep.c (fun inv => ?_) ?_
    ·refine Lst.r (Ev.loadSA (α := Wait) rfl (Rd.own (i := 0) rfl rfl rfl) Try.isAgg77 Try.sizeOf77 (ch := enc x5) (Enc.len _) (by decide) ((Get.elemN (s := 4) (x := x5) rfl g20.2.2 (Get.here _)).off (by omega))) ?_
     refine Lst.nil ?_
     refine At.hd inv (fun w h => (h.weaken (FLe.refl _)).sublist (sc1 (.refl _))) ?_
     refine HdJ.step [7] (by kernel_rfl) rfl ?_
     refine HdStep.c (fun inv => ?_) ?_
     ·refine Lst.r (Ev.loadSA (α := Wait) rfl (Rd.own (i := 0) rfl rfl rfl) Try.isAgg77 Try.sizeOf77 (ch := enc x2) (Enc.len _) (by decide) ((Get.elemN (s := 4) (x := x2) rfl g17.2.2 (Get.here _)).off (by omega))) ?_
      refine Lst.nil ?_
      refine At.hd inv (fun w h => (h.weaken (FLe.refl _)).sublist (sc1 (.refl _))) ?_
      refine HdJ.step [12] (by kernel_rfl) rfl ?_
      refine HdStep.c (fun inv => ?_) ?_
      ·have g22 := lat_some h9
       refine Lst.r (Ev.indexS (α := Wait) (xs := a0) rfl rfl Try.runUnderlying57 Try.sizeOf77 rfl (by decide) (Rd.own (i := 0) rfl rfl rfl) g22.1 g22.2.1) ?_
       refine Lst.nil ?_
       refine At.hd inv (fun w h => (h.weaken (FLe.refl _)).sublist (sc1 (.refl _))) ?_
       refine HdJ.step [13] (by kernel_rfl) rfl ?_
       refine HdStep.c (fun inv => ?_) ?_
       ·refine Lst.storeS (i := 0) rfl rfl rfl rfl rfl Try.sizeOf77 (vs := enc x2) rfl (Enc.len _) (by decide) (Enc.one _) (xs' := encs p11) (by rw [← h12]; exact (Put.elemN (s := 4) (x := x8) rfl g22.2.2 (Put.here ((Enc.len _).trans (Enc.len _).symm))).off (by omega)) (L' := (.own s_a0 77 4 (encs p11)) :: L) rfl ?_
        refine Lst.nil ?_
        refine At.hd inv (fun w h => (h.weaken (FLe.refl _)).sublist (sc1 (.refl _))) ?_
        refine HdJ.done (by kernel_rfl) ?_
        exact At.meetN p11 (FLe.refl _) ⟨rfl, rfl, rfl, rfl, rfl, rfl, rfl, trivial⟩ rfl h16
       exact trivial
      exact trivial
     exact trivial
    exact trivial
   exact trivial
  refine HdStep.c (fun inv => ?_) ?_
  ·have g23 := lat_some h6
   refine Lst.r (Ev.indexS (α := Wait) (xs := a0) rfl rfl Try.runUnderlying57 Try.sizeOf77 rfl (by decide) (Rd.own (i := 0) rfl rfl rfl) g23.1 g23.2.1) ?_
   refine Lst.nil ?_
   refine At.hd inv (fun w h => (h.weaken (FLe.refl _)).sublist (sc1 (.refl _))) ?_
   refine HdJ.step [6, 11] (by kernel_rfl) rfl ?_
   refine HdStep.c (fun inv => ?_) ?_
   ·have g24 := lat_some h3
    refine Lst.r (Ev.indexS (α := Wait) (xs := a0) rfl rfl Try.runUnderlying57 Try.sizeOf77 rfl (by decide) (Rd.own (i := 0) rfl rfl rfl) g24.1 g24.2.1) ?_
    refine Lst.nil ?_
    refine At.hd inv (fun w h => (h.weaken (FLe.refl _)).sublist (sc1 (.refl _))) ?_
    refine HdJ.step [7, 11] (by kernel_rfl) rfl ?_
    refine HdStep.c (fun inv => ?_) ?_
    ·refine Lst.r (Ev.loadSA (α := Wait) rfl (Rd.own (i := 0) rfl rfl rfl) Try.isAgg77 Try.sizeOf77 (ch := enc x2) (Enc.len _) (by decide) ((Get.elemN (s := 4) (x := x2) rfl g24.2.2 (Get.here _)).off (by omega))) ?_
     refine Lst.nil ?_
     refine At.hd inv (fun w h => (h.weaken (FLe.refl _)).sublist (sc1 (.refl _))) ?_
     refine HdJ.step [11] (by kernel_rfl) rfl ?_
     refine HdStep.c (fun inv => ?_) ?_
     ·refine Lst.r (Ev.loadSA (α := Wait) rfl (Rd.own (i := 0) rfl rfl rfl) Try.isAgg77 Try.sizeOf77 (ch := enc x5) (Enc.len _) (by decide) ((Get.elemN (s := 4) (x := x5) rfl g23.2.2 (Get.here _)).off (by omega))) ?_
      refine Lst.nil ?_
      refine At.hd inv (fun w h => (h.weaken (FLe.refl _)).sublist (sc1 (.refl _))) ?_
      refine HdJ.step [12] (by kernel_rfl) rfl ?_
      refine HdStep.c (fun inv => ?_) ?_
      ·have g25 := lat_some h9
       refine Lst.r (Ev.indexS (α := Wait) (xs := a0) rfl rfl Try.runUnderlying57 Try.sizeOf77 rfl (by decide) (Rd.own (i := 0) rfl rfl rfl) g25.1 g25.2.1) ?_
       refine Lst.nil ?_
       refine At.hd inv (fun w h => (h.weaken (FLe.refl _)).sublist (sc1 (.refl _))) ?_
       refine HdJ.step [13] (by kernel_rfl) rfl ?_
       refine HdStep.c (fun inv => ?_) ?_
       ·refine Lst.storeS (i := 0) rfl rfl rfl rfl rfl Try.sizeOf77 (vs := enc x2) rfl (Enc.len _) (by decide) (Enc.one _) (xs' := encs p11) (by rw [← h12]; exact (Put.elemN (s := 4) (x := x8) rfl g25.2.2 (Put.here ((Enc.len _).trans (Enc.len _).symm))).off (by omega)) (L' := (.own s_a0 77 4 (encs p11)) :: L) rfl ?_
        refine Lst.nil ?_
        refine At.hd inv (fun w h => (h.weaken (FLe.refl _)).sublist (sc1 (.refl _))) ?_
        refine HdJ.done (by kernel_rfl) ?_
        exact At.meetN p11 (FLe.refl _) ⟨rfl, rfl, rfl, rfl, rfl, rfl, rfl, trivial⟩ rfl h16
       exact trivial
      exact trivial
     exact trivial
    refine HdStep.c (fun inv => ?_) ?_
    ·refine Lst.r (Ev.loadSA (α := Wait) rfl (Rd.own (i := 0) rfl rfl rfl) Try.isAgg77 Try.sizeOf77 (ch := enc x5) (Enc.len _) (by decide) ((Get.elemN (s := 4) (x := x5) rfl g23.2.2 (Get.here _)).off (by omega))) ?_
     refine Lst.nil ?_
     refine At.hd inv (fun w h => (h.weaken (FLe.refl _)).sublist (sc1 (.refl _))) ?_
     refine HdJ.step [7] (by kernel_rfl) rfl ?_
     refine HdStep.c (fun inv => ?_) ?_
     ·refine Lst.r (Ev.loadSA (α := Wait) rfl (Rd.own (i := 0) rfl rfl rfl) Try.isAgg77 Try.sizeOf77 (ch := enc x2) (Enc.len _) (by decide) ((Get.elemN (s := 4) (x := x2) rfl g24.2.2 (Get.here _)).off (by omega))) ?_
      refine Lst.nil ?_
      refine At.hd inv (fun w h => (h.weaken (FLe.refl _)).sublist (sc1 (.refl _))) ?_
      refine HdJ.step [12] (by kernel_rfl) rfl ?_
      refine HdStep.c (fun inv => ?_) ?_
      ·have g26 := lat_some h9
       refine Lst.r (Ev.indexS (α := Wait) (xs := a0) rfl rfl Try.runUnderlying57 Try.sizeOf77 rfl (by decide) (Rd.own (i := 0) rfl rfl rfl) g26.1 g26.2.1) ?_
       refine Lst.nil ?_
       refine At.hd inv (fun w h => (h.weaken (FLe.refl _)).sublist (sc1 (.refl _))) ?_
       refine HdJ.step [13] (by kernel_rfl) rfl ?_
       refine HdStep.c (fun inv => ?_) ?_
       ·refine Lst.storeS (i := 0) rfl rfl rfl rfl rfl Try.sizeOf77 (vs := enc x2) rfl (Enc.len _) (by decide) (Enc.one _) (xs' := encs p11) (by rw [← h12]; exact (Put.elemN (s := 4) (x := x8) rfl g26.2.2 (Put.here ((Enc.len _).trans (Enc.len _).symm))).off (by omega)) (L' := (.own s_a0 77 4 (encs p11)) :: L) rfl ?_
        refine Lst.nil ?_
        refine At.hd inv (fun w h => (h.weaken (FLe.refl _)).sublist (sc1 (.refl _))) ?_
        refine HdJ.done (by kernel_rfl) ?_
        exact At.meetN p11 (FLe.refl _) ⟨rfl, rfl, rfl, rfl, rfl, rfl, rfl, trivial⟩ rfl h16
       exact trivial
      exact trivial
     exact trivial
    exact trivial
   refine HdStep.c (fun inv => ?_) ?_
   ·refine Lst.r (Ev.loadSA (α := Wait) rfl (Rd.own (i := 0) rfl rfl rfl) Try.isAgg77 Try.sizeOf77 (ch := enc x5) (Enc.len _) (by decide) ((Get.elemN (s := 4) (x := x5) rfl g23.2.2 (Get.here _)).off (by omega))) ?_
    refine Lst.nil ?_
    refine At.hd inv (fun w h => (h.weaken (FLe.refl _)).sublist (sc1 (.refl _))) ?_
    refine HdJ.step [6] (by kernel_rfl) rfl ?_
    refine HdStep.c (fun inv => ?_) ?_
    ·have g27 := lat_some h3
     refine Lst.r (Ev.indexS (α := Wait) (xs := a0) rfl rfl Try.runUnderlying57 Try.sizeOf77 rfl (by decide) (Rd.own (i := 0) rfl rfl rfl) g27.1 g27.2.1) ?_
     refine Lst.nil ?_
     refine At.hd inv (fun w h => (h.weaken (FLe.refl _)).sublist (sc1 (.refl _))) ?_
     refine HdJ.step [7] (by kernel_rfl) rfl ?_
     refine HdStep.c (fun inv => ?_) ?_
     ·refine Lst.r (Ev.loadSA (α := Wait) rfl (Rd.own (i := 0) rfl rfl rfl) Try.isAgg77 Try.sizeOf77 (ch := enc x2) (Enc.len _) (by decide) ((Get.elemN (s := 4) (x := x2) rfl g27.2.2 (Get.here _)).off (by omega))) ?_
      refine Lst.nil ?_
      refine At.hd inv (fun w h => (h.weaken (FLe.refl _)).sublist (sc1 (.refl _))) ?_
      refine HdJ.step [12] (by kernel_rfl) rfl ?_
      refine HdStep.c (fun inv => ?_) ?_
      ·have g28 := lat_some h9
       refine Lst.r (Ev.indexS (α := Wait) (xs := a0) rfl rfl Try.runUnderlying57 Try.sizeOf77 rfl (by decide) (Rd.own (i := 0) rfl rfl rfl) g28.1 g28.2.1) ?_
       refine Lst.nil ?_
       refine At.hd inv (fun w h => (h.weaken (FLe.refl _)).sublist (sc1 (.refl _))) ?_
       refine HdJ.step [13] (by kernel_rfl) rfl ?_
       refine HdStep.c (fun inv => ?_) ?_
       ·refine Lst.storeS (i := 0) rfl rfl rfl rfl rfl Try.sizeOf77 (vs := enc x2) rfl (Enc.len _) (by decide) (Enc.one _) (xs' := encs p11) (by rw [← h12]; exact (Put.elemN (s := 4) (x := x8) rfl g28.2.2 (Put.here ((Enc.len _).trans (Enc.len _).symm))).off (by omega)) (L' := (.own s_a0 77 4 (encs p11)) :: L) rfl ?_
        refine Lst.nil ?_
        refine At.hd inv (fun w h => (h.weaken (FLe.refl _)).sublist (sc1 (.refl _))) ?_
        refine HdJ.done (by kernel_rfl) ?_
        exact At.meetN p11 (FLe.refl _) ⟨rfl, rfl, rfl, rfl, rfl, rfl, rfl, trivial⟩ rfl h16
       exact trivial
      exact trivial
     exact trivial
    exact trivial
   exact trivial
  exact trivial
 rintro F29 l14 hF30 hy
 subst hy
 refine Lst.as (e' := [(0, Sl.v s_a0), (1, iv a1), (2, iv a2), (4, .func (.func 85) #[] #[]), (16, Sl.v s_a0), (17, iv a3), (25, .agg (enc x5).toArray)]) (L' := (.own s_a0 77 4 (encs l14)) :: L) ⟨rfl, rfl, rfl, rfl, rfl, rfl, rfl, trivial⟩ rfl ?_
 obtain ⟨x31, h32, H⟩ := bind_some H
 have g33 := lat_some h32
 refine Lst.r (Ev.indexS (α := Wait) (xs := l14) rfl rfl Try.runUnderlying57 Try.sizeOf77 rfl (by decide) (Rd.own (i := 0) rfl rfl rfl) g33.1 g33.2.1) ?_
 obtain ⟨p34, h35, H⟩ := Let_some H
 refine Lst.storeS (i := 0) rfl rfl rfl rfl rfl Try.sizeOf77 (vs := enc x5) rfl (Enc.len _) (by decide) (Enc.one _) (xs' := encs p34) (by rw [← h35]; exact (Put.elemN (s := 4) (x := x31) rfl g33.2.2 (Put.here ((Enc.len _).trans (Enc.len _).symm))).off (by omega)) (L' := (.own s_a0 77 4 (encs p34)) :: L) rfl ?_
 refine Lst.nil ?_
 refine At.then ?_
 refine Cd.seq ?_
 refine Cd.region ?_
 refine Lst.r (Ev.move rfl) ?_
 refine Lst.r (Ev.add rfl rfl) ?_
 refine Lst.r (Ev.move rfl) ?_
 refine Lst.r (Ev.sub rfl rfl) ?_
 refine Lst.r (Ev.assign rfl) ?_
 refine Lst.r (Ev.assign rfl) ?_
 refine Lst.nil ?_
 refine At.then ?_
 refine Cd.seq ?_
 refine Cd.block ?_
 obtain ⟨ol36, H, HKl36⟩ := andThen_some H
 refine Cd.loop (σ := Nat × Int) (fun (k36, y37) => [(0, Sl.v s_a0), (1, iv a1), (4, .func (.func 85) #[] #[]), (12, iv y37), (13, iv (w64 (a2 - (1 : Int))))]) (fun (k36, y37) => (.own s_a0 77 4 (encs p34)) :: L) (fun _ => (fun (k36, y37) => whileM (slices_partitionCmpFunc_api_Wait_Fix_3_B0 a1 a2 p34) k36 y37 = some ol36)) (fun (k36, y37) => k36) (fu, w64 (a1 + (1 : Int))) ⟨rfl, rfl, rfl, rfl, rfl, trivial⟩ rfl H ?_
 rintro F38 ⟨k36, y37⟩ hF39 H
 refine Cd.as (e' := [(0, Sl.v s_a0), (1, iv a1), (4, .func (.func 85) #[] #[]), (12, iv y37), (13, iv (w64 (a2 - (1 : Int))))]) (L' := (.own s_a0 77 4 (encs p34)) :: L) ⟨rfl, rfl, rfl, rfl, rfl, trivial⟩ rfl ?_
 rcases k36 with _ | k36
 ·cases H
 obtain ⟨c36, H, hgo36, hbrk36, hret36⟩ := whileM_go H
 unfold slices_partitionCmpFunc_api_Wait_Fix_3_B0 at H
 try dsimp only at H
 refine Cd.seq ?_
 refine Cd.seq ?_
 refine Cd.quiet (by kernel_rfl) (by kernel_rfl) ?_
 refine Qt.r (Ev.move rfl) ?_
 refine Qt.r (Ev.move rfl) ?_
 refine Qt.r (Ev.leq rfl rfl) ?_
 refine Qt.r (Ev.move rfl) ?_
 obtain ⟨o40, H, HKo40⟩ := bind_some H
 refine Qt.join (σ := Bool) 12 (fun y41 => [(0, Sl.v s_a0), (1, iv a1), (4, .func (.func 85) #[] #[]), (12, iv y37), (13, iv (w64 (a2 - (1 : Int)))), (47, .bool y41)]) (fun y41 => y41 = o40) ?_ ?_
 ·rcases (Bool.eq_false_or_eq_true (decide (y37 ≤ (w64 (a2 - (1 : Int)))))).symm with hb42 | hb42
  ·replace H := ite_f hb42 H
   refine Qt.skip rfl rfl rfl hb42 rfl (by decide) ?_
   refine Qt.skip rfl rfl rfl hb42 rfl (by decide) ?_
   refine Qt.skip rfl rfl rfl hb42 rfl (by decide) ?_
   refine Qt.skip rfl rfl rfl hb42 rfl (by decide) ?_
   refine Qt.skip rfl rfl rfl hb42 rfl (by decide) ?_
   refine Qt.skip rfl rfl rfl hb42 rfl (by decide) ?_
   refine Qt.skip rfl rfl rfl hb42 rfl (by decide) ?_
   refine Qt.skip rfl rfl rfl hb42 rfl (by decide) ?_
   refine Qt.skip rfl rfl rfl hb42 rfl (by decide) ?_
   refine Qt.skip rfl rfl rfl hb42 rfl (by decide) ?_
   refine Qt.skip rfl rfl rfl hb42 rfl (by decide) ?_
   refine Qt.r (Ev.pickF rfl hb42 rfl) ?_
   exact Qt.meet false ⟨rfl, rfl, rfl, rfl, rfl, rfl, trivial⟩ (some_inj H)
  replace H := ite_t hb42 H
  refine Qt.rG hb42 (Ev.move rfl) ?_
  refine Qt.rG hb42 (Ev.move rfl) ?_
  refine Qt.rG hb42 (Ev.move rfl) ?_
  obtain ⟨x43, h44, H⟩ := bind_some H
  have g45 := lat_some h44
  refine Qt.rG hb42 (Ev.indexS (α := Wait) (xs := p34) rfl rfl Try.runUnderlying57 Try.sizeOf77 rfl (by decide) (Rd.own (i := 0) rfl rfl rfl) g45.1 g45.2.1) ?_
  refine Qt.rG hb42 (Ev.loadSA (α := Wait) rfl (Rd.own (i := 0) rfl rfl rfl) Try.isAgg77 Try.sizeOf77 (ch := enc x43) (Enc.len _) (by decide) ((Get.elemN (s := 4) (x := x43) rfl g45.2.2 (Get.here _)).off (by omega))) ?_
  refine Qt.rG hb42 (Ev.move rfl) ?_
  refine Qt.rG hb42 (Ev.move rfl) ?_
  obtain ⟨x46, h47, H⟩ := bind_some H
  have g48 := lat_some h47
  refine Qt.rG hb42 (Ev.indexS (α := Wait) (xs := p34) rfl rfl Try.runUnderlying57 Try.sizeOf77 rfl (by decide) (Rd.own (i := 0) rfl rfl rfl) g48.1 g48.2.1) ?_
  refine Qt.rG hb42 (Ev.loadSA (α := Wait) rfl (Rd.own (i := 0) rfl rfl rfl) Try.isAgg77 Try.sizeOf77 (ch := enc x46) (Enc.len _) (by decide) ((Get.elemN (s := 4) (x := x46) rfl g48.2.2 (Get.here _)).off (by omega))) ?_
  obtain ⟨r49, h50, H⟩ := bind_some H
  refine Qt.callVG rfl rfl rfl hb42 rfl (by decide) (vs := [.agg (enc x43).toArray, .agg (enc x46).toArray]) (cs := []) rfl ⟨rfl, rfl, trivial⟩ Try.call85 (skeen_Fix_3_sim h50 w0 _ M _ (sc1 hM)) ?_
  refine Qt.rG hb42 (Ev.lss rfl rfl) ?_
  refine Qt.r (Ev.pickT rfl hb42 rfl) ?_
  exact Qt.meet (decide (r49 < (0 : Int))) ⟨rfl, rfl, rfl, rfl, rfl, rfl, trivial⟩ (some_inj H)
 rintro y41 hy
 subst hy
 refine Qt.as (e' := [(0, Sl.v s_a0), (1, iv a1), (4, .func (.func 85) #[] #[]), (12, iv y37), (13, iv (w64 (a2 - (1 : Int)))), (47, .bool y41)]) ⟨rfl, rfl, rfl, rfl, rfl, rfl, trivial⟩ ?_
 replace H := HKo40
 refine Qt.done ?_
 refine At.then ?_
 rcases (Bool.eq_false_or_eq_true y41).symm with hb53 | hb53
 ·replace H := ite_f hb53 H
  refine Cd.condF rfl hb53 ?_
  refine Cd.exit ?_
  refine At.then_exit ?_
  refine At.then_exit ?_
  refine At.in_exit ?_
  have H := hbrk36 _ (some_inj H).symm
  subst H
  replace H := HKl36
  refine At.then ?_
  refine Cd.seq ?_
  refine Cd.block ?_
  obtain ⟨ol54, H, HKl54⟩ := andThen_some H
  refine Cd.loop (σ := Nat × Int) (fun (k54, y55) => [(0, Sl.v s_a0), (1, iv a1), (4, .func (.func 85) #[] #[]), (12, iv y37), (13, iv y55)]) (fun (k54, y55) => (.own s_a0 77 4 (encs p34)) :: L) (fun _ => (fun (k54, y55) => whileM (slices_partitionCmpFunc_api_Wait_Fix_3_B2 a1 p34 y37) k54 y55 = some ol54)) (fun (k54, y55) => k54) (fu, w64 (a2 - (1 : Int))) ⟨rfl, rfl, rfl, rfl, rfl, trivial⟩ rfl H ?_
  rintro F56 ⟨k54, y55⟩ hF57 H
  refine Cd.as (e' := [(0, Sl.v s_a0), (1, iv a1), (4, .func (.func 85) #[] #[]), (12, iv y37), (13, iv y55)]) (L' := (.own s_a0 77 4 (encs p34)) :: L) ⟨rfl, rfl, rfl, rfl, rfl, trivial⟩ rfl ?_
  rcases k54 with _ | k54
  ·cases H
  obtain ⟨c54, H, hgo54, hbrk54, hret54⟩ := whileM_go H
  unfold slices_partitionCmpFunc_api_Wait_Fix_3_B2 at H
  try dsimp only at H
  refine Cd.seq ?_
  refine Cd.seq ?_
  refine Cd.quiet (by kernel_rfl) (by kernel_rfl) ?_
  refine Qt.r (Ev.move rfl) ?_
  refine Qt.r (Ev.move rfl) ?_
  refine Qt.r (Ev.leq rfl rfl) ?_
  refine Qt.r (Ev.move rfl) ?_
  obtain ⟨o58, H, HKo58⟩ := bind_some H
  refine Qt.join (σ := Bool) 13 (fun y59 => [(0, Sl.v s_a0), (1, iv a1), (4, .func (.func 85) #[] #[]), (12, iv y37), (13, iv y55), (66, .bool y59)]) (fun y59 => y59 = o58) ?_ ?_
  ·rcases (Bool.eq_false_or_eq_true (decide (y37 ≤ y55))).symm with hb60 | hb60
   ·replace H := ite_f hb60 H
    refine Qt.skip rfl rfl rfl hb60 rfl (by decide) ?_
    refine Qt.skip rfl rfl rfl hb60 rfl (by decide) ?_
    refine Qt.skip rfl rfl rfl hb60 rfl (by decide) ?_
    refine Qt.skip rfl rfl rfl hb60 rfl (by decide) ?_
    refine Qt.skip rfl rfl rfl hb60 rfl (by decide) ?_
    refine Qt.skip rfl rfl rfl hb60 rfl (by decide) ?_
    refine Qt.skip rfl rfl rfl hb60 rfl (by decide) ?_
    refine Qt.skip rfl rfl rfl hb60 rfl (by decide) ?_
    refine Qt.skip rfl rfl rfl hb60 rfl (by decide) ?_
    refine Qt.skip rfl rfl rfl hb60 rfl (by decide) ?_
    refine Qt.skip rfl rfl rfl hb60 rfl (by decide) ?_
    refine Qt.skip rfl rfl rfl hb60 rfl (by decide) ?_
    refine Qt.r (Ev.pickF rfl hb60 rfl) ?_
    exact Qt.meet false ⟨rfl, rfl, rfl, rfl, rfl, rfl, trivial⟩ (some_inj H)
   replace H := ite_t hb60 H
   refine Qt.rG hb60 (Ev.move rfl) ?_
   refine Qt.rG hb60 (Ev.move rfl) ?_
   refine Qt.rG hb60 (Ev.move rfl) ?_
   obtain ⟨x61, h62, H⟩ := bind_some H
   have g63 := lat_some h62
   refine Qt.rG hb60 (Ev.indexS (α := Wait) (xs := p34) rfl rfl Try.runUnderlying57 Try.sizeOf77 rfl (by decide) (Rd.own (i := 0) rfl rfl rfl) g63.1 g63.2.1) ?_
   refine Qt.rG hb60 (Ev.loadSA (α := Wait) rfl (Rd.own (i := 0) rfl rfl rfl) Try.isAgg77 Try.sizeOf77 (ch := enc x61) (Enc.len _) (by decide) ((Get.elemN (s := 4) (x := x61) rfl g63.2.2 (Get.here _)).off (by omega))) ?_
   refine Qt.rG hb60 (Ev.move rfl) ?_
   refine Qt.rG hb60 (Ev.move rfl) ?_
   obtain ⟨x64, h65, H⟩ := bind_some H
   have g66 := lat_some h65
   refine Qt.rG hb60 (Ev.indexS (α := Wait) (xs := p34) rfl rfl Try.runUnderlying57 Try.sizeOf77 rfl (by decide) (Rd.own (i := 0) rfl rfl rfl) g66.1 g66.2.1) ?_
   refine Qt.rG hb60 (Ev.loadSA (α := Wait) rfl (Rd.own (i := 0) rfl rfl rfl) Try.isAgg77 Try.sizeOf77 (ch := enc x64) (Enc.len _) (by decide) ((Get.elemN (s := 4) (x := x64) rfl g66.2.2 (Get.here _)).off (by omega))) ?_
   obtain ⟨r67, h68, H⟩ := bind_some H
   refine Qt.callVG rfl rfl rfl hb60 rfl (by decide) (vs := [.agg (enc x61).toArray, .agg (enc x64).toArray]) (cs := []) rfl ⟨rfl, rfl, trivial⟩ Try.call85 (skeen_Fix_3_sim h68 w0 _ M _ (sc1 hM)) ?_
   refine Qt.rG hb60 (Ev.lss rfl rfl) ?_
   refine Qt.rG hb60 (Ev.not rfl) ?_
   refine Qt.r (Ev.pickT rfl hb60 rfl) ?_
   exact Qt.meet (!(decide (r67 < (0 : Int)))) ⟨rfl, rfl, rfl, rfl, rfl, rfl, trivial⟩ (some_inj H)
  rintro y59 hy
  subst hy
  refine Qt.as (e' := [(0, Sl.v s_a0), (1, iv a1), (4, .func (.func 85) #[] #[]), (12, iv y37), (13, iv y55), (66, .bool y59)]) ⟨rfl, rfl, rfl, rfl, rfl, rfl, trivial⟩ ?_
  replace H := HKo58
  refine Qt.done ?_
  refine At.then ?_
  rcases (Bool.eq_false_or_eq_true y59).symm with hb71 | hb71
  ·replace H := ite_f hb71 H
   refine Cd.condF rfl hb71 ?_
   refine Cd.exit ?_
   refine At.then_exit ?_
   refine At.then_exit ?_
   refine At.in_exit ?_
   have H := hbrk54 _ (some_inj H).symm
   subst H
   replace H := HKl54
   refine At.then ?_
   refine Cd.seq ?_
   refine Cd.seq ?_
   refine Cd.region ?_
   refine Lst.r (Ev.move rfl) ?_
   refine Lst.r (Ev.move rfl) ?_
   refine Lst.r (Ev.gtr rfl rfl) ?_
   refine Lst.nil ?_
   refine At.then ?_
   rcases Bool.eq_false_or_eq_true (decide (y37 > y55)) with hb72 | hb72
   ·replace H := ite_t hb72 H
    refine Cd.condT rfl hb72 ?_
    refine Cd.seq ?_
    obtain ⟨x73, h74, H⟩ := bind_some H
    obtain ⟨x76, h77, H⟩ := bind_some H
    obtain ⟨x79, h80, H⟩ := bind_some H
    obtain ⟨p82, h83, H⟩ := Let_some H
    obtain ⟨o86, h87, H⟩ := Let_some H
    refine Cd.headMeet (σ := (List Wait)) 14 (fun l85 => [(13, iv y55), (74, Sl.v s_a0), (75, iv a1), (83, .agg (enc x76).toArray)]) (fun l85 => (.own s_a0 77 4 (encs l85)) :: L) (fun _ l85 => l85 = o86) (by kernel_rfl) (by kernel_rfl) (behind_sink (by kernel_rfl) (by kernel_rfl) (by kernel_rfl)) (by kernel_rfl) (fun hsel hlt => ?_) ?_
    ·refine HdJ.keep (fun w => St w0 F56 (L) w) (fun w h => trivial) ?_
     refine HdJ.tk hsel hlt 0 (fun w h => h.sublist (sc1 (.refl _))) rfl (Ev.move rfl) ?_
     refine HdJ.tk hsel hlt 1 (fun w h => h.sublist (sc1 (.refl _))) rfl (Ev.move rfl) ?_
     refine HdJ.tk hsel hlt 2 (fun w h => h.sublist (sc1 (.refl _))) rfl (Ev.move rfl) ?_
     refine HdJ.tk hsel hlt 3 (fun w h => h.sublist (sc1 (.refl _))) rfl (Ev.move rfl) ?_
     refine HdJ.tk hsel hlt 4 (fun w h => h.sublist (sc1 (.refl _))) rfl (Ev.move rfl) ?_
     refine HdJ.tk hsel hlt 5 (fun w h => h.sublist (sc1 (.refl _))) rfl (Ev.move rfl) ?_
     refine HdJ.tk hsel hlt 8 (fun w h => h.sublist (sc1 (.refl _))) rfl (Ev.move rfl) ?_
     refine HdJ.tk hsel hlt 9 (fun w h => h.sublist (sc1 (.refl _))) rfl (Ev.move rfl) ?_
     refine HdJ.step [6, 10] (by kernel_rfl) rfl ?_
     refine HdStep.c (fun inv => ?_) ?_
     ·have g88 := lat_some h74
      refine Lst.r (Ev.indexS (α := Wait) (xs := p34) rfl rfl Try.runUnderlying57 Try.sizeOf77 rfl (by decide) (Rd.own (i := 0) rfl rfl rfl) g88.1 g88.2.1) ?_
      refine Lst.nil ?_
      refine At.hd inv (fun w h => (h.weaken (FLe.refl _)).sublist (sc1 (.refl _))) ?_
      refine HdJ.step [7, 10] (by kernel_rfl) rfl ?_
      refine HdStep.c (fun inv => ?_) ?_
      ·refine Lst.r (Ev.loadSA (α := Wait) rfl (Rd.own (i := 0) rfl rfl rfl) Try.isAgg77 Try.sizeOf77 (ch := enc x73) (Enc.len _) (by decide) ((Get.elemN (s := 4) (x := x73) rfl g88.2.2 (Get.here _)).off (by omega))) ?_
       refine Lst.nil ?_
       refine At.hd inv (fun w h => (h.weaken (FLe.refl _)).sublist (sc1 (.refl _))) ?_
       refine HdJ.step [10] (by kernel_rfl) rfl ?_
       refine HdStep.c (fun inv => ?_) ?_
       ·have g89 := lat_some h77
        refine Lst.r (Ev.indexS (α := Wait) (xs := p34) rfl rfl Try.runUnderlying57 Try.sizeOf77 rfl (by decide) (Rd.own (i := 0) rfl rfl rfl) g89.1 g89.2.1) ?_
        refine Lst.nil ?_
        refine At.hd inv (fun w h => (h.weaken (FLe.refl _)).sublist (sc1 (.refl _))) ?_
        refine HdJ.step [11] (by kernel_rfl) rfl ?_
        refine HdStep.c (fun inv => ?_) ?_
        ·refine Lst.r (Ev.loadSA (α := Wait) rfl (Rd.own (i := 0) rfl rfl rfl) Try.isAgg77 Try.sizeOf77 (ch := enc x76) (Enc.len _) (by decide) ((Get.elemN (s := 4) (x := x76) rfl g89.2.2 (Get.here _)).off (by omega))) ?_
         refine Lst.nil ?_
         refine At.hd inv (fun w h => (h.weaken (FLe.refl _)).sublist (sc1 (.refl _))) ?_
         refine HdJ.step [12] (by kernel_rfl) rfl ?_
         refine HdStep.c (fun inv => ?_) ?_
         ·have g90 := lat_some h80
          refine Lst.r (Ev.indexS (α := Wait) (xs := p34) rfl rfl Try.runUnderlying57 Try.sizeOf77 rfl (by decide) (Rd.own (i := 0) rfl rfl rfl) g90.1 g90.2.1) ?_
          refine Lst.nil ?_
          refine At.hd inv (fun w h => (h.weaken (FLe.refl _)).sublist (sc1 (.refl _))) ?_
          refine HdJ.step [13] (by kernel_rfl) rfl ?_
          refine HdStep.c (fun inv => ?_) ?_
          ·refine Lst.storeS (i := 0) rfl rfl rfl rfl rfl Try.sizeOf77 (vs := enc x73) rfl (Enc.len _) (by decide) (Enc.one _) (xs' := encs p82) (by rw [← h83]; exact (Put.elemN (s := 4) (x := x79) rfl g90.2.2 (Put.here ((Enc.len _).trans (Enc.len _).symm))).off (by omega)) (L' := (.own s_a0 77 4 (encs p82)) :: L) rfl ?_
           refine Lst.nil ?_
           refine At.hd inv (fun w h => (h.weaken (FLe.refl _)).sublist (sc1 (.refl _))) ?_
           refine HdJ.done (by kernel_rfl) ?_
           exact At.meetN p82 (FLe.refl _) ⟨rfl, rfl, rfl, rfl, trivial⟩ rfl h87
          exact trivial
         exact trivial
        exact trivial
       exact trivial
      refine HdStep.c (fun inv => ?_) ?_
      ·have g91 := lat_some h77
       refine Lst.r (Ev.indexS (α := Wait) (xs := p34) rfl rfl Try.runUnderlying57 Try.sizeOf77 rfl (by decide) (Rd.own (i := 0) rfl rfl rfl) g91.1 g91.2.1) ?_
       refine Lst.nil ?_
       refine At.hd inv (fun w h => (h.weaken (FLe.refl _)).sublist (sc1 (.refl _))) ?_
       refine HdJ.step [7, 11] (by kernel_rfl) rfl ?_
       refine HdStep.c (fun inv => ?_) ?_
       ·refine Lst.r (Ev.loadSA (α := Wait) rfl (Rd.own (i := 0) rfl rfl rfl) Try.isAgg77 Try.sizeOf77 (ch := enc x73) (Enc.len _) (by decide) ((Get.elemN (s := 4) (x := x73) rfl g88.2.2 (Get.here _)).off (by omega))) ?_
        refine Lst.nil ?_
        refine At.hd inv (fun w h => (h.weaken (FLe.refl _)).sublist (sc1 (.refl _))) ?_
        refine HdJ.step [11] (by kernel_rfl) rfl ?_
        refine HdStep.c (fun inv => ?_) ?_
        ·refine Lst.r (Ev.loadSA (α := Wait) rfl (Rd.own (i := 0) rfl rfl rfl) Try.isAgg77 Try.sizeOf77 (ch := enc x76) (Enc.len _) (by decide) ((Get.elemN (s := 4) (x := x76) rfl g91.2.2 (Get.here _)).off (by omega))) ?_
         refine Lst.nil ?_
         refine At.hd inv (fun w h => (h.weaken (FLe.refl _)).sublist (sc1 (.refl _))) ?_
         refine HdJ.step [12] (by kernel_rfl) rfl ?_
         refine HdStep.c (fun inv => ?_) ?_
         ·have g92 := lat_some h80
          refine Lst.r (Ev.indexS (α := Wait) (xs := p34) rfl rfl Try.runUnderlying57 Try.sizeOf77 rfl (by decide) (Rd.own (i := 0) rfl rfl rfl) g92.1 g92.2.1) ?_
          refine Lst.nil ?_
          refine At.hd inv (fun w h => (h.weaken (FLe.refl _)).sublist (sc1 (.refl _))) ?_
          refine HdJ.step [13] (by kernel_rfl) rfl ?_
          refine HdStep.c (fun inv => ?_) ?_
          ·refine Lst.storeS (i := 0) rfl rfl rfl rfl rfl Try.sizeOf77 (vs := enc x73) rfl (Enc.len _) (by decide) (Enc.one _) (xs' := encs p82) (by rw [← h83]; exact (Put.elemN (s := 4) (x := x79) rfl g92.2.2 (Put.here ((Enc.len _).trans (Enc.len _).symm))).off (by omega)) (L' := (.own s_a0 77 4 (encs p82)) :: L) rfl ?_
           refine Lst.nil ?_
           refine At.hd inv (fun w h => (h.weaken (FLe.refl _)).sublist (sc1 (.refl _))) ?_
           refine HdJ.done (by kernel_rfl) ?_
           exact At.meetN p82 (FLe.refl _) ⟨rfl, rfl, rfl, rfl, trivial⟩ rfl h87
          exact trivial
         exact trivial
        exact trivial
       refine HdStep.c (fun inv => ?_) ?_
       ·refine Lst.r (Ev.loadSA (α := Wait) rfl (Rd.own (i := 0) rfl rfl rfl) Try.isAgg77 Try.sizeOf77 (ch := enc x76) (Enc.len _) (by decide) ((Get.elemN (s := 4) (x := x76) rfl g91.2.2 (Get.here _)).off (by omega))) ?_
        refine Lst.nil ?_
        refine At.hd inv (fun w h => (h.weaken (FLe.refl _)).sublist (sc1 (.refl _))) ?_
        refine HdJ.step [7] (by kernel_rfl) rfl ?_
        refine HdStep.c (fun inv => ?_) ?_
        ·refine Lst.r (Ev.loadSA (α := Wait) rfl (Rd.own (i := 0) rfl rfl rfl) Try.isAgg77 Try.sizeOf77 (ch := enc x73) (Enc.len _) (by decide) ((Get.elemN (s := 4) (x := x73) rfl g88.2.2 (Get.here _)).off (by omega))) ?_
         refine Lst.nil ?_
         refine At.hd inv (fun w h => (h.weaken (FLe.refl _)).sublist (sc1 (.refl _))) ?_
         refine HdJ.step [12] (by kernel_rfl) rfl ?_
         refine HdStep.c (fun inv => ?_) ?_
         ·have g93 := lat_some h80
          refine Lst.r (Ev.indexS (α := Wait) (xs := p34) rfl rfl Try.runUnderlying57 Try.sizeOf77 rfl (by decide) (Rd.own (i := 0) rfl rfl rfl) g93.1 g93.2.1) ?_
          refine Lst.nil ?_
          refine At.hd inv (fun w h => (h.weaken (FLe.refl _)).sublist (sc1 (.refl _))) ?_
          refine HdJ.step [13] (by kernel_rfl) rfl ?_
          refine HdStep.c (fun inv => ?_) ?_
          ·refine Lst.storeS (i := 0) rfl rfl rfl rfl rfl Try.sizeOf77 (vs := enc x73) rfl (Enc.len _) (by decide) (Enc.one _) (xs' := encs p82) (by rw [← h83]; exact (Put.elemN (s := 4) (x := x79) rfl g93.2.2 (Put.here ((Enc.len _).trans (Enc.len _).symm))).off (by omega)) (L' := (.own s_a0 77 4 (encs p82)) :: L) rfl ?_
           refine Lst.nil ?_
           refine At.hd inv (fun w h => (h.weaken (FLe.refl _)).sublist (sc1 (.refl _))) ?_
           refine HdJ.done (by kernel_rfl) ?_
           exact At.meetN p82 (FLe.refl _) ⟨rfl, rfl, rfl, rfl, trivial⟩ rfl h87
          exact trivial
         exact trivial
        exact trivial
       exact trivial
      exact trivial
     refine HdStep.c (fun inv => ?_) ?_
     ·have g94 := lat_some h77
      refine Lst.r (Ev.indexS (α := Wait) (xs := p34) rfl rfl Try.runUnderlying57 Try.sizeOf77 rfl (by decide) (Rd.own (i := 0) rfl rfl rfl) g94.1 g94.2.1) ?_
      refine Lst.nil ?_
      refine At.hd inv (fun w h => (h.weaken (FLe.refl _)).sublist (sc1 (.refl _))) ?_
      refine HdJ.step [6, 11] (by kernel_rfl) rfl ?_
      refine HdStep.c (fun inv => ?_) ?_
      ·have g95 := lat_some h74
       refine Lst.r (Ev.indexS (α := Wait) (xs := p34) rfl rfl Try.runUnderlying57 Try.sizeOf77 rfl (by decide) (Rd.own (i := 0) rfl rfl rfl) g95.1 g95.2.1) ?_
       refine Lst.nil ?_
       refine At.hd inv (fun w h => (h.weaken (FLe.refl _)).sublist (sc1 (.refl _))) ?_
       refine HdJ.step [7, 11] (by kernel_rfl) rfl ?_
       refine HdStep.c (fun inv => ?_) ?_
       ·refine Lst.r (Ev.loadSA (α := Wait) rfl (Rd.own (i := 0) rfl rfl rfl) Try.isAgg77 Try.sizeOf77 (ch := enc x73) (Enc.len _) (by decide) ((Get.elemN (s := 4) (x := x73) rfl g95.2.2 (Get.here _)).off (by omega))) ?_
        refine Lst.nil ?_
        refine At.hd inv (fun w h => (h.weaken (FLe.refl _)).sublist (sc1 (.refl _))) ?_
        refine HdJ.step [11] (by kernel_rfl) rfl ?_
        refine HdStep.c (fun inv => ?_) ?_
        ·refine Lst.r (Ev.loadSA (α := Wait) rfl (Rd.own (i := 0) rfl rfl rfl) Try.isAgg77 Try.sizeOf77 (ch := enc x76) (Enc.len _) (by decide) ((Get.elemN (s := 4) (x := x76) rfl g94.2.2 (Get.here _)).off (by omega))) ?_
         refine Lst.nil ?_
         refine At.hd inv (fun w h => (h.weaken (FLe.refl _)).sublist (sc1 (.refl _))) ?_
         refine HdJ.step [12] (by kernel_rfl) rfl ?_
         refine HdStep.c (fun inv => ?_) ?_
         ·have g96 := lat_some h80
          refine Lst.r (Ev.indexS (α := Wait) (xs := p34) rfl rfl Try.runUnderlying57 Try.sizeOf77 rfl (by decide) (Rd.own (i := 0) rfl rfl rfl) g96.1 g96.2.1) ?_
          refine Lst.nil ?_
          refine At.hd inv (fun w h => (h.weaken (FLe.refl _)).sublist (sc1 (.refl _))) ?_
          refine HdJ.step [13] (by kernel_rfl) rfl ?_
          refine HdStep.c (fun inv => ?_) ?_
          ·refine Lst.storeS (i := 0) rfl rfl rfl rfl rfl Try.sizeOf77 (vs := enc x73) rfl (Enc.len _) (by decide) (Enc.one _) (xs' := encs p82) (by rw [← h83]; exact (Put.elemN (s := 4) (x := x79) rfl g96.2.2 (Put.here ((Enc.len _).trans (Enc.len _).symm))).off (by omega)) (L' := (.own s_a0 77 4 (encs p82)) :: L) rfl ?_
           refine Lst.nil ?_
           refine At.hd inv (fun w h => (h.weaken (FLe.refl _)).sublist (sc1 (.refl _))) ?_
           refine HdJ.done (by kernel_rfl) ?_
           exact At.meetN p82 (FLe.refl _) ⟨rfl, rfl, rfl, rfl, trivial⟩ rfl h87
          exact trivial
         exact trivial
        exact trivial
       refine HdStep.c (fun inv => ?_) ?_
       ·refine Lst.r (Ev.loadSA (α := Wait) rfl (Rd.own (i := 0) rfl rfl rfl) Try.isAgg77 Try.sizeOf77 (ch := enc x76) (Enc.len _) (by decide) ((Get.elemN (s := 4) (x := x76) rfl g94.2.2 (Get.here _)).off (by omega))) ?_
        refine Lst.nil ?_
        refine At.hd inv (fun w h => (h.weaken (FLe.refl _)).sublist (sc1 (.refl _))) ?_
        refine HdJ.step [7] (by kernel_rfl) rfl ?_
        refine HdStep.c (fun inv => ?_) ?_
        ·refine Lst.r (Ev.loadSA (α := Wait) rfl (Rd.own (i := 0) rfl rfl rfl) Try.isAgg77 Try.sizeOf77 (ch := enc x73) (Enc.len _) (by decide) ((Get.elemN (s := 4) (x := x73) rfl g95.2.2 (Get.here _)).off (by omega))) ?_
         refine Lst.nil ?_
         refine At.hd inv (fun w h => (h.weaken (FLe.refl _)).sublist (sc1 (.refl _))) ?_
         refine HdJ.step [12] (by kernel_rfl) rfl ?_
         refine HdStep.c (fun inv => ?_) ?_
         ·have g97 := lat_some h80
          refine Lst.r (Ev.indexS (α := Wait) (xs := p34) rfl rfl Try.runUnderlying57 Try.sizeOf77 rfl (by decide) (Rd.own (i := 0) rfl rfl rfl) g97.1 g97.2.1) ?_
          refine Lst.nil ?_
          refine At.hd inv (fun w h => (h.weaken (FLe.refl _)).sublist (sc1 (.refl _))) ?_
          refine HdJ.step [13] (by kernel_rfl) rfl ?_
          refine HdStep.c (fun inv => ?_) ?_
          ·refine Lst.storeS (i := 0) rfl rfl rfl rfl rfl Try.sizeOf77 (vs := enc x73) rfl (Enc.len _) (by decide) (Enc.one _) (xs' := encs p82) (by rw [← h83]; exact (Put.elemN (s := 4) (x := x79) rfl g97.2.2 (Put.here ((Enc.len _).trans (Enc.len _).symm))).off (by omega)) (L' := (.own s_a0 77 4 (encs p82)) :: L) rfl ?_
           refine Lst.nil ?_
           refine At.hd inv (fun w h => (h.weaken (FLe.refl _)).sublist (sc1 (.refl _))) ?_
           refine HdJ.done (by kernel_rfl) ?_
           exact At.meetN p82 (FLe.refl _) ⟨rfl, rfl, rfl, rfl, trivial⟩ rfl h87
          exact trivial
         exact trivial
        exact trivial
       exact trivial
      refine HdStep.c (fun inv => ?_) ?_
      ·refine Lst.r (Ev.loadSA (α := Wait) rfl (Rd.own (i := 0) rfl rfl rfl) Try.isAgg77 Try.sizeOf77 (ch := enc x76) (Enc.len _) (by decide) ((Get.elemN (s := 4) (x := x76) rfl g94.2.2 (Get.here _)).off (by omega))) ?_
       refine Lst.nil ?_
       refine At.hd inv (fun w h => (h.weaken (FLe.refl _)).sublist (sc1 (.refl _))) ?_
       refine HdJ.step [6] (by kernel_rfl) rfl ?_
       refine HdStep.c (fun inv => ?_) ?_
       ·have g98 := lat_some h74
        refine Lst.r (Ev.indexS (α := Wait) (xs := p34) rfl rfl Try.runUnderlying57 Try.sizeOf77 rfl (by decide) (Rd.own (i := 0) rfl rfl rfl) g98.1 g98.2.1) ?_
        refine Lst.nil ?_
        refine At.hd inv (fun w h => (h.weaken (FLe.refl _)).sublist (sc1 (.refl _))) ?_
        refine HdJ.step [7] (by kernel_rfl) rfl ?_
        refine HdStep.c (fun inv => ?_) ?_
        ·refine Lst.r (Ev.loadSA (α := Wait) rfl (Rd.own (i := 0) rfl rfl rfl) Try.isAgg77 Try.sizeOf77 (ch := enc x73) (Enc.len _) (by decide) ((Get.elemN (s := 4) (x := x73) rfl g98.2.2 (Get.here _)).off (by omega))) ?_
         refine Lst.nil ?_
         refine At.hd inv (fun w h => (h.weaken (FLe.refl _)).sublist (sc1 (.refl _))) ?_
         refine HdJ.step [12] (by kernel_rfl) rfl ?_
         refine HdStep.c (fun inv => ?_) ?_
         ·have g99 := lat_some h80
          refine Lst.r (Ev.indexS (α := Wait) (xs := p34) rfl rfl Try.runUnderlying57 Try.sizeOf77 rfl (by decide) (Rd.own (i := 0) rfl rfl rfl) g99.1 g99.2.1) ?_
          refine Lst.nil ?_
          refine At.hd inv (fun w h => (h.weaken (FLe.refl _)).sublist (sc1 (.refl _))) ?_
          refine HdJ.step [13] (by kernel_rfl) rfl ?_
          refine HdStep.c (fun inv => ?_) ?_
          ·refine Lst.storeS (i := 0) rfl rfl rfl rfl rfl Try.sizeOf77 (vs := enc x73) rfl (Enc.len _) (by decide) (Enc.one _) (xs' := encs p82) (by rw [← h83]; exact (Put.elemN (s := 4) (x := x79) rfl g99.2.2 (Put.here ((Enc.len _).trans (Enc.len _).symm))).off (by omega)) (L' := (.own s_a0 77 4 (encs p82)) :: L) rfl ?_
           refine Lst.nil ?_
           refine At.hd inv (fun w h => (h.weaken (FLe.refl _)).sublist (sc1 (.refl _))) ?_
           refine HdJ.done (by kernel_rfl) ?_
           exact At.meetN p82 (FLe.refl _) ⟨rfl, rfl, rfl, rfl, trivial⟩ rfl h87
          exact trivial
         exact trivial
        exact trivial
       exact trivial
      exact trivial
     exact trivial
    rintro F100 l85 hF101 hy
    subst hy
    refine Lst.as (e' := [(13, iv y55), (74, Sl.v s_a0), (75, iv a1), (83, .agg (enc x76).toArray)]) (L' := (.own s_a0 77 4 (encs l85)) :: L) ⟨rfl, rfl, rfl, rfl, trivial⟩ rfl ?_
    obtain ⟨x102, h103, H⟩ := bind_some H
    have g104 := lat_some h103
    refine Lst.r (Ev.indexS (α := Wait) (xs := l85) rfl rfl Try.runUnderlying57 Try.sizeOf77 rfl (by decide) (Rd.own (i := 0) rfl rfl rfl) g104.1 g104.2.1) ?_
    obtain ⟨p105, h106, H⟩ := Let_some H
    refine Lst.storeS (i := 0) rfl rfl rfl rfl rfl Try.sizeOf77 (vs := enc x76) rfl (Enc.len _) (by decide) (Enc.one _) (xs' := encs p105) (by rw [← h106]; exact (Put.elemN (s := 4) (x := x102) rfl g104.2.2 (Put.here ((Enc.len _).trans (Enc.len _).symm))).off (by omega)) (L' := (.own s_a0 77 4 (encs p105)) :: L) rfl ?_
    refine Lst.nil ?_
    refine At.then ?_
    refine Cd.seq ?_
    refine Cd.region ?_
    refine Lst.r (Ev.move rfl) ?_
    refine Lst.r (Ev.assign rfl) ?_
    refine Lst.r (Ev.assign rfl) ?_
    refine Lst.nil ?_
    refine At.then ?_
    obtain rfl := some_inj H
    refine Cd.ret ?_
    refine At.then_ret ?_
    exact At.ret2 rfl (Res.tmp rfl) (Res.tmp rfl) (FLe.trans (FLe.trans (FLe.trans hF30 hF39) hF57) hF101) (sk1 (.refl _)) ⟨rfl, rfl⟩
   replace H := ite_f hb72 H
   refine Cd.condF rfl hb72 ?_
   refine Cd.skip ?_
   refine At.then ?_
   refine Cd.seq ?_
   obtain ⟨x107, h108, H⟩ := bind_some H
   obtain ⟨x110, h111, H⟩ := bind_some H
   obtain ⟨x113, h114, H⟩ := bind_some H
   obtain ⟨p116, h117, H⟩ := Let_some H
   obtain ⟨o120, h121, H⟩ := Let_some H
   refine Cd.headMeet (σ := (List Wait)) 14 (fun l119 => [(0, Sl.v s_a0), (1, iv a1), (4, .func (.func 85) #[] #[]), (12, iv y37), (13, iv y55), (89, Sl.v s_a0), (90, iv y55), (98, .agg (enc x110).toArray)]) (fun l119 => (.own s_a0 77 4 (encs l119)) :: L) (fun _ l119 => l119 = o120) (by kernel_rfl) (by kernel_rfl) (behind_sink (by kernel_rfl) (by kernel_rfl) (by kernel_rfl)) (by kernel_rfl) (fun hsel hlt => ?_) ?_
   ·refine HdJ.keep (fun w => St w0 F56 (L) w) (fun w h => trivial) ?_
    refine HdJ.tk hsel hlt 0 (fun w h => h.sublist (sc1 (.refl _))) rfl (Ev.move rfl) ?_
    refine HdJ.tk hsel hlt 1 (fun w h => h.sublist (sc1 (.refl _))) rfl (Ev.move rfl) ?_
    refine HdJ.tk hsel hlt 2 (fun w h => h.sublist (sc1 (.refl _))) rfl (Ev.move rfl) ?_
    refine HdJ.tk hsel hlt 3 (fun w h => h.sublist (sc1 (.refl _))) rfl (Ev.move rfl) ?_
    refine HdJ.tk hsel hlt 4 (fun w h => h.sublist (sc1 (.refl _))) rfl (Ev.move rfl) ?_
    refine HdJ.tk hsel hlt 5 (fun w h => h.sublist (sc1 (.refl _))) rfl (Ev.move rfl) ?_
    refine HdJ.tk hsel hlt 8 (fun w h => h.sublist (sc1 (.refl _))) rfl (Ev.move rfl) ?_
    refine HdJ.tk hsel hlt 9 (fun w h => h.sublist (sc1 (.refl _))) rfl (Ev.move rfl) ?_
    refine HdJ.step [6, 10] (by kernel_rfl) rfl ?_
    refine HdStep.c (fun inv => ?_) ?_
    ·have g122 := lat_some h108
     refine Lst.r (Ev.indexS (α := Wait) (xs := p34) rfl rfl Try.runUnderlying57 Try.sizeOf77 rfl (by decide) (Rd.own (i := 0) rfl rfl rfl) g122.1 g122.2.1) ?_
     refine Lst.nil ?_
     refine At.hd inv (fun w h => (h.weaken (FLe.refl _)).sublist (sc1 (.refl _))) ?_
     refine HdJ.step [7, 10] (by kernel_rfl) rfl ?_
     refine HdStep.c (fun inv => ?_) ?_
     ·refine Lst.r (Ev.loadSA (α := Wait) rfl (Rd.own (i := 0) rfl rfl rfl) Try.isAgg77 Try.sizeOf77 (ch := enc x107) (Enc.len _) (by decide) ((Get.elemN (s := 4) (x := x107) rfl g122.2.2 (Get.here _)).off (by omega))) ?_
      refine Lst.nil ?_
      refine At.hd inv (fun w h => (h.weaken (FLe.refl _)).sublist (sc1 (.refl _))) ?_
      refine HdJ.step [10] (by kernel_rfl) rfl ?_
      refine HdStep.c (fun inv => ?_) ?_
      ·have g123 := lat_some h111
       refine Lst.r (Ev.indexS (α := Wait) (xs := p34) rfl rfl Try.runUnderlying57 Try.sizeOf77 rfl (by decide) (Rd.own (i := 0) rfl rfl rfl) g123.1 g123.2.1) ?_
       refine Lst.nil ?_
       refine At.hd inv (fun w h => (h.weaken (FLe.refl _)).sublist (sc1 (.refl _))) ?_
       refine HdJ.step [11] (by kernel_rfl) rfl ?_
       refine HdStep.c (fun inv => ?_) ?_
       ·refine Lst.r (Ev.loadSA (α := Wait) rfl (Rd.own (i := 0) rfl rfl rfl) Try.isAgg77 Try.sizeOf77 (ch := enc x110) (Enc.len _) (by decide) ((Get.elemN (s := 4) (x := x110) rfl g123.2.2 (Get.here _)).off (by omega))) ?_
        refine Lst.nil ?_
        refine At.hd inv (fun w h => (h.weaken (FLe.refl _)).sublist (sc1 (.refl _))) ?_
        refine HdJ.step [12] (by kernel_rfl) rfl ?_
        refine HdStep.c (fun inv => ?_) ?_
        ·have g124 := lat_some h114
         refine Lst.r (Ev.indexS (α := Wait) (xs := p34) rfl rfl Try.runUnderlying57 Try.sizeOf77 rfl (by decide) (Rd.own (i := 0) rfl rfl rfl) g124.1 g124.2.1) ?_
         refine Lst.nil ?_
         refine At.hd inv (fun w h => (h.weaken (FLe.refl _)).sublist (sc1 (.refl _))) ?_
         refine HdJ.step [13] (by kernel_rfl) rfl ?_
         refine HdStep.c (fun inv => ?_) ?_
         ·refine Lst.storeS (i := 0) rfl rfl rfl rfl rfl Try.sizeOf77 (vs := enc x107) rfl (Enc.len _) (by decide) (Enc.one _) (xs' := encs p116) (by rw [← h117]; exact (Put.elemN (s := 4) (x := x113) rfl g124.2.2 (Put.here ((Enc.len _).trans (Enc.len _).symm))).off (by omega)) (L' := (.own s_a0 77 4 (encs p116)) :: L) rfl ?_
          refine Lst.nil ?_
          refine At.hd inv (fun w h => (h.weaken (FLe.refl _)).sublist (sc1 (.refl _))) ?_
          refine HdJ.done (by kernel_rfl) ?_
          exact At.meetN p116 (FLe.refl _) ⟨rfl, rfl, rfl, rfl, rfl, rfl, rfl, rfl, trivial⟩ rfl h121
         exact trivial
        exact trivial
       exact trivial
      exact trivial
     refine HdStep.c (fun inv => ?_) ?_
     ·have g125 := lat_some h111
      refine Lst.r (Ev.indexS (α := Wait) (xs := p34) rfl rfl Try.runUnderlying57 Try.sizeOf77 rfl (by decide) (Rd.own (i := 0) rfl rfl rfl) g125.1 g125.2.1) ?_
      refine Lst.nil ?_
      refine At.hd inv (fun w h => (h.weaken (FLe.refl _)).sublist (sc1 (.refl _))) ?_
      refine HdJ.step [7, 11] (by kernel_rfl) rfl ?_
      refine HdStep.c (fun inv => ?_) ?_
      ·refine Lst.r (Ev.loadSA (α := Wait) rfl (Rd.own (i := 0) rfl rfl rfl) Try.isAgg77 Try.sizeOf77 (ch := enc x107) (Enc.len _) (by decide) ((Get.elemN (s := 4) (x := x107) rfl g122.2.2 (Get.here _)).off (by omega))) ?_
       refine Lst.nil ?_
       refine At.hd inv (fun w h => (h.weaken (FLe.refl _)).sublist (sc1 (.refl _))) ?_
       refine HdJ.step [11] (by kernel_rfl) rfl ?_
       refine HdStep.c (fun inv => ?_) ?_
       ·refine Lst.r (Ev.loadSA (α := Wait) rfl (Rd.own (i := 0) rfl rfl rfl) Try.isAgg77 Try.sizeOf77 (ch := enc x110) (Enc.len _) (by decide) ((Get.elemN (s := 4) (x := x110) rfl g125.2.2 (Get.here _)).off (by omega))) ?_
        refine Lst.nil ?_
        refine At.hd inv (fun w h => (h.weaken (FLe.refl _)).sublist (sc1 (.refl _))) ?_
        refine HdJ.step [12] (by kernel_rfl) rfl ?_
        refine HdStep.c (fun inv => ?_) ?_
        ·have g126 := lat_some h114
         refine Lst.r (Ev.indexS (α := Wait) (xs := p34) rfl rfl Try.runUnderlying57 Try.sizeOf77 rfl (by decide) (Rd.own (i := 0) rfl rfl rfl) g126.1 g126.2.1) ?_
         refine Lst.nil ?_
         refine At.hd inv (fun w h => (h.weaken (FLe.refl _)).sublist (sc1 (.refl _))) ?_
         refine HdJ.step [13] (by kernel_rfl) rfl ?_
         refine HdStep.c (fun inv => ?_) ?_
         ·refine Lst.storeS (i := 0) rfl rfl rfl rfl rfl Try.sizeOf77 (vs := enc x107) rfl (Enc.len _) (by decide) (Enc.one _) (xs' := encs p116) (by rw [← h117]; exact (Put.elemN (s := 4) (x := x113) rfl g126.2.2 (Put.here ((Enc.len _).trans (Enc.len _).symm))).off (by omega)) (L' := (.own s_a0 77 4 (encs p116)) :: L) rfl ?_
          refine Lst.nil ?_
          refine At.hd inv (fun w h => (h.weaken (FLe.refl _)).sublist (sc1 (.refl _))) ?_
          refine HdJ.done (by kernel_rfl) ?_
          exact At.meetN p116 (FLe.refl _) ⟨rfl, rfl, rfl, rfl, rfl, rfl, rfl, rfl, trivial⟩ rfl h121
         exact trivial
        exact trivial
       exact trivial
      refine HdStep.c (fun inv => ?_) ?_
      ·refine Lst.r (Ev.loadSA (α := Wait) rfl (Rd.own (i := 0) rfl rfl rfl) Try.isAgg77 Try.sizeOf77 (ch := enc x110) (Enc.len _) (by decide) ((Get.elemN (s := 4) (x := x110) rfl g125.2.2 (Get.here _)).off (by omega))) ?_
       refine Lst.nil ?_
       refine At.hd inv (fun w h => (h.weaken (FLe.refl _)).sublist (sc1 (.refl _))) ?_
       refine HdJ.step [7] (by kernel_rfl) rfl ?_
       refine HdStep.c (fun inv => ?_) ?_
       ·refine Lst.r (Ev.loadSA (α := Wait) rfl (Rd.own (i := 0) rfl rfl rfl) Try.isAgg77 Try.sizeOf77 (ch := enc x107) (Enc.len _) (by decide) ((Get.elemN (s := 4) (x := x107) rfl g122.2.2 (Get.here _)).off (by omega))) ?_
        refine Lst.nil ?_
        refine At.hd inv (fun w h => (h.weaken (FLe.refl _)).sublist (sc1 (.refl _))) ?_
        refine HdJ.step [12] (by kernel_rfl) rfl ?_
        refine HdStep.c (fun inv => ?_) ?_
        ·have g127 := lat_some h114
         refine Lst.r (Ev.indexS (α := Wait) (xs := p34) rfl rfl Try.runUnderlying57 Try.sizeOf77 rfl (by decide) (Rd.own (i := 0) rfl rfl rfl) g127.1 g127.2.1) ?_
         refine Lst.nil ?_
         refine At.hd inv (fun w h => (h.weaken (FLe.refl _)).sublist (sc1 (.refl _))) ?_
         refine HdJ.step [13] (by kernel_rfl) rfl ?_
         refine HdStep.c (fun inv => ?_) ?_
         ·refine Lst.storeS (i := 0) rfl rfl rfl rfl rfl Try.sizeOf77 (vs := enc x107) rfl (Enc.len _) (by decide) (Enc.one _) (xs' := encs p116) (by rw [← h117]; exact (Put.elemN (s := 4) (x := x113) rfl g127.2.2 (Put.here ((Enc.len _).trans (Enc.len _).symm))).off (by omega)) (L' := (.own s_a0 77 4 (encs p116)) :: L) rfl ?_
          refine Lst.nil ?_
          refine At.hd inv (fun w h => (h.weaken (FLe.refl _)).sublist (sc1 (.refl _))) ?_
          refine HdJ.done (by kernel_rfl) ?_
          exact At.meetN p116 (FLe.refl _) ⟨rfl, rfl, rfl, rfl, rfl, rfl, rfl, rfl, trivial⟩ rfl h121
         exact trivial
        exact trivial
       exact trivial
      exact trivial
     exact trivial
    refine HdStep.c (fun inv => ?_) ?_
    ·have g128 := lat_some h111
     refine Lst.r (Ev.indexS (α := Wait) (xs := p34) rfl rfl Try.runUnderlying57 Try.sizeOf77 rfl (by decide) (Rd.own (i := 0) rfl rfl rfl) g128.1 g128.2.1) ?_
     refine Lst.nil ?_
     refine At.hd inv (fun w h => (h.weaken (FLe.refl _)).sublist (sc1 (.refl _))) ?_
     refine HdJ.step [6, 11] (by kernel_rfl) rfl ?_
     refine HdStep.c (fun inv => ?_) ?_
     ·have g129 := lat_some h108
      refine Lst.r (Ev.indexS (α := Wait) (xs := p34) rfl rfl Try.runUnderlying57 Try.sizeOf77 rfl (by decide) (Rd.own (i := 0) rfl rfl rfl) g129.1 g129.2.1) ?_
      refine Lst.nil ?_
      refine At.hd inv (fun w h => (h.weaken (FLe.refl _)).sublist (sc1 (.refl _))) ?_
      refine HdJ.step [7, 11] (by kernel_rfl) rfl ?_
      refine HdStep.c (fun inv => ?_) ?_
      ·refine Lst.r (Ev.loadSA (α := Wait) rfl (Rd.own (i := 0) rfl rfl rfl) Try.isAgg77 Try.sizeOf77 (ch := enc x107) (Enc.len _) (by decide) ((Get.elemN (s := 4) (x := x107) rfl g129.2.2 (Get.here _)).off (by omega))) ?_
       refine Lst.nil ?_
       refine At.hd inv (fun w h => (h.weaken (FLe.refl _)).sublist (sc1 (.refl _))) ?_
       refine HdJ.step [11] (by kernel_rfl) rfl ?_
       refine HdStep.c (fun inv => ?_) ?_
       ·refine Lst.r (Ev.loadSA (α := Wait) rfl (Rd.own (i := 0) rfl rfl rfl) Try.isAgg77 Try.sizeOf77 (ch := enc x110) (Enc.len _) (by decide) ((Get.elemN (s := 4) (x := x110) rfl g128.2.2 (Get.here _)).off (by omega))) ?_
        refine Lst.nil ?_
        refine At.hd inv (fun w h => (h.weaken (FLe.refl _)).sublist (sc1 (.refl _))) ?_
        refine HdJ.step [12] (by kernel_rfl) rfl ?_
        refine HdStep.c (fun inv => ?_) ?_
        ·have g130 := lat_some h114
         refine Lst.r (Ev.indexS (α := Wait) (xs := p34) rfl rfl Try.runUnderlying57 Try.sizeOf77 rfl (by decide) (Rd.own (i := 0) rfl rfl rfl) g130.1 g130.2.1) ?_
         refine Lst.nil ?_
         refine At.hd inv (fun w h => (h.weaken (FLe.refl _)).sublist (sc1 (.refl _))) ?_
         refine HdJ.step [13] (by kernel_rfl) rfl ?_
         refine HdStep.c (fun inv => ?_) ?_
         ·refine Lst.storeS (i := 0) rfl rfl rfl rfl rfl Try.sizeOf77 (vs := enc x107) rfl (Enc.len _) (by decide) (Enc.one _) (xs' := encs p116) (by rw [← h117]; exact (Put.elemN (s := 4) (x := x113) rfl g130.2.2 (Put.here ((Enc.len _).trans (Enc.len _).symm))).off (by omega)) (L' := (.own s_a0 77 4 (encs p116)) :: L) rfl ?_
          refine Lst.nil ?_
          refine At.hd inv (fun w h => (h.weaken (FLe.refl _)).sublist (sc1 (.refl _))) ?_
          refine HdJ.done (by kernel_rfl) ?_
          exact At.meetN p116 (FLe.refl _) ⟨rfl, rfl, rfl, rfl, rfl, rfl, rfl, rfl, trivial⟩ rfl h121
         exact trivial
        exact trivial
       exact trivial
      refine HdStep.c (fun inv => ?_) ?_
      ·refine Lst.r (Ev.loadSA (α := Wait) rfl (Rd.own (i := 0) rfl rfl rfl) Try.isAgg77 Try.sizeOf77 (ch := enc x110) (Enc.len _) (by decide) ((Get.elemN (s := 4) (x := x110) rfl g128.2.2 (Get.here _)).off (by omega))) ?_
       refine Lst.nil ?_
       refine At.hd inv (fun w h => (h.weaken (FLe.refl _)).sublist (sc1 (.refl _))) ?_
       refine HdJ.step [7] (by kernel_rfl) rfl ?_
       refine HdStep.c (fun inv => ?_) ?_
       ·refine Lst.r (Ev.loadSA (α := Wait) rfl (Rd.own (i := 0) rfl rfl rfl) Try.isAgg77 Try.sizeOf77 (ch := enc x107) (Enc.len _) (by decide) ((Get.elemN (s := 4) (x := x107) rfl g129.2.2 (Get.here _)).off (by omega))) ?_
        refine Lst.nil ?_
        refine At.hd inv (fun w h => (h.weaken (FLe.refl _)).sublist (sc1 (.refl _))) ?_
        refine HdJ.step [12] (by kernel_rfl) rfl ?_
        refine HdStep.c (fun inv => ?_) ?_
        ·have g131 := lat_some h114
         refine Lst.r (Ev.indexS (α := Wait) (xs := p34) rfl rfl Try.runUnderlying57 Try.sizeOf77 rfl (by decide) (Rd.own (i := 0) rfl rfl rfl) g131.1 g131.2.1) ?_
         refine Lst.nil ?_
         refine At.hd inv (fun w h => (h.weaken (FLe.refl _)).sublist (sc1 (.refl _))) ?_
         refine HdJ.step [13] (by kernel_rfl) rfl ?_
         refine HdStep.c (fun inv => ?_) ?_
         ·refine Lst.storeS (i := 0) rfl rfl rfl rfl rfl Try.sizeOf77 (vs := enc x107) rfl (Enc.len _) (by decide) (Enc.one _) (xs' := encs p116) (by rw [← h117]; exact (Put.elemN (s := 4) (x := x113) rfl g131.2.2 (Put.here ((Enc.len _).trans (Enc.len _).symm))).off (by omega)) (L' := (.own s_a0 77 4 (encs p116)) :: L) rfl ?_
          refine Lst.nil ?_
          refine At.hd inv (fun w h => (h.weaken (FLe.refl _)).sublist (sc1 (.refl _))) ?_
          refine HdJ.done (by kernel_rfl) ?_
          exact At.meetN p116 (FLe.refl _) ⟨rfl, rfl, rfl, rfl, rfl, rfl, rfl, rfl, trivial⟩ rfl h121
         exact trivial
        exact trivial
       exact trivial
      exact trivial
     refine HdStep.c (fun inv => ?_) ?_
     ·refine Lst.r (Ev.loadSA (α := Wait) rfl (Rd.own (i := 0) rfl rfl rfl) Try.isAgg77 Try.sizeOf77 (ch := enc x110) (Enc.len _) (by decide) ((Get.elemN (s := 4) (x := x110) rfl g128.2.2 (Get.here _)).off (by omega))) ?_
      refine Lst.nil ?_
      refine At.hd inv (fun w h => (h.weaken (FLe.refl _)).sublist (sc1 (.refl _))) ?_
      refine HdJ.step [6] (by kernel_rfl) rfl ?_
      refine HdStep.c (fun inv => ?_) ?_
      ·have g132 := lat_some h108
       refine Lst.r (Ev.indexS (α := Wait) (xs := p34) rfl rfl Try.runUnderlying57 Try.sizeOf77 rfl (by decide) (Rd.own (i := 0) rfl rfl rfl) g132.1 g132.2.1) ?_
       refine Lst.nil ?_
       refine At.hd inv (fun w h => (h.weaken (FLe.refl _)).sublist (sc1 (.refl _))) ?_
       refine HdJ.step [7] (by kernel_rfl) rfl ?_
       refine HdStep.c (fun inv => ?_) ?_
       ·refine Lst.r (Ev.loadSA (α := Wait) rfl (Rd.own (i := 0) rfl rfl rfl) Try.isAgg77 Try.sizeOf77 (ch := enc x107) (Enc.len _) (by decide) ((Get.elemN (s := 4) (x := x107) rfl g132.2.2 (Get.here _)).off (by omega))) ?_
        refine Lst.nil ?_
        refine At.hd inv (fun w h => (h.weaken (FLe.refl _)).sublist (sc1 (.refl _))) ?_
        refine HdJ.step [12] (by kernel_rfl) rfl ?_
        refine HdStep.c (fun inv => ?_) ?_
        ·have g133 := lat_some h114
         refine Lst.r (Ev.indexS (α := Wait) (xs := p34) rfl rfl Try.runUnderlying57 Try.sizeOf77 rfl (by decide) (Rd.own (i := 0) rfl rfl rfl) g133.1 g133.2.1) ?_
         refine Lst.nil ?_
         refine At.hd inv (fun w h => (h.weaken (FLe.refl _)).sublist (sc1 (.refl _))) ?_
         refine HdJ.step [13] (by kernel_rfl) rfl ?_
         refine HdStep.c (fun inv => ?_) ?_
         ·refine Lst.storeS (i := 0) rfl rfl rfl rfl rfl Try.sizeOf77 (vs := enc x107) rfl (Enc.len _) (by decide) (Enc.one _) (xs' := encs p116) (by rw [← h117]; exact (Put.elemN (s := 4) (x := x113) rfl g133.2.2 (Put.here ((Enc.len _).trans (Enc.len _).symm))).off (by omega)) (L' := (.own s_a0 77 4 (encs p116)) :: L) rfl ?_
          refine Lst.nil ?_
          refine At.hd inv (fun w h => (h.weaken (FLe.refl _)).sublist (sc1 (.refl _))) ?_
          refine HdJ.done (by kernel_rfl) ?_
          exact At.meetN p116 (FLe.refl _) ⟨rfl, rfl, rfl, rfl, rfl, rfl, rfl, rfl, trivial⟩ rfl h121
         exact trivial
        exact trivial
       exact trivial
      exact trivial
     exact trivial
    exact trivial
   rintro F134 l119 hF135 hy
   subst hy
   refine Lst.as (e' := [(0, Sl.v s_a0), (1, iv a1), (4, .func (.func 85) #[] #[]), (12, iv y37), (13, iv y55), (89, Sl.v s_a0), (90, iv y55), (98, .agg (enc x110).toArray)]) (L' := (.own s_a0 77 4 (encs l119)) :: L) ⟨rfl, rfl, rfl, rfl, rfl, rfl, rfl, rfl, trivial⟩ rfl ?_
   obtain ⟨x136, h137, H⟩ := bind_some H
   have g138 := lat_some h137
   refine Lst.r (Ev.indexS (α := Wait) (xs := l119) rfl rfl Try.runUnderlying57 Try.sizeOf77 rfl (by decide) (Rd.own (i := 0) rfl rfl rfl) g138.1 g138.2.1) ?_
   obtain ⟨p139, h140, H⟩ := Let_some H
   refine Lst.storeS (i := 0) rfl rfl rfl rfl rfl Try.sizeOf77 (vs := enc x110) rfl (Enc.len _) (by decide) (Enc.one _) (xs' := encs p139) (by rw [← h140]; exact (Put.elemN (s := 4) (x := x136) rfl g138.2.2 (Put.here ((Enc.len _).trans (Enc.len _).symm))).off (by omega)) (L' := (.own s_a0 77 4 (encs p139)) :: L) rfl ?_
   refine Lst.nil ?_
   refine At.then ?_
   refine Cd.seq ?_
   refine Cd.region ?_
   refine Lst.r (Ev.move rfl) ?_
   refine Lst.r (Ev.add rfl rfl) ?_
   refine Lst.r (Ev.assign rfl) ?_
   refine Lst.nil ?_
   refine At.then ?_
   refine Cd.seq ?_
   refine Cd.region ?_
   refine Lst.r (Ev.move rfl) ?_
   refine Lst.r (Ev.sub rfl rfl) ?_
   refine Lst.r (Ev.assign rfl) ?_
   refine Lst.nil ?_
   refine At.then ?_
   refine Cd.seq ?_
   refine Cd.block ?_
   obtain ⟨ol141, H, HKl141⟩ := andThen_some H
   refine Cd.loop (σ := Nat × Int × Int × (List Wait)) (fun (k141, y142, y143, l144) => [(0, Sl.v s_a0), (1, iv a1), (4, .func (.func 85) #[] #[]), (12, iv y142), (13, iv y143)]) (fun (k141, y142, y143, l144) => (.own s_a0 77 4 (encs l144)) :: L) (fun _ => (fun (k141, y142, y143, l144) => whileM (slices_partitionCmpFunc_api_Wait_Fix_3_B4 fu a1) k141 (y142, y143, l144) = some ol141)) (fun (k141, y142, y143, l144) => k141) (fu, w64 (y37 + (1 : Int)), w64 (y55 - (1 : Int)), p139) ⟨rfl, rfl, rfl, rfl, rfl, trivial⟩ rfl H ?_
   rintro F145 ⟨k141, y142, y143, l144⟩ hF146 H
   refine Cd.as (e' := [(0, Sl.v s_a0), (1, iv a1), (4, .func (.func 85) #[] #[]), (12, iv y142), (13, iv y143)]) (L' := (.own s_a0 77 4 (encs l144)) :: L) ⟨rfl, rfl, rfl, rfl, rfl, trivial⟩ rfl ?_
   rcases k141 with _ | k141
   ·cases H
   obtain ⟨c141, H, hgo141, hbrk141, hret141⟩ := whileM_go H
   unfold slices_partitionCmpFunc_api_Wait_Fix_3_B4 at H
   try dsimp only at H
   refine Cd.block ?_
   refine Cd.seq ?_
   refine Cd.block ?_
   obtain ⟨ol147, H, HKl147⟩ := andThen_some H
   refine Cd.loop (σ := Nat × Int) (fun (k147, y148) => [(0, Sl.v s_a0), (1, iv a1), (4, .func (.func 85) #[] #[]), (12, iv y148), (13, iv y143)]) (fun (k147, y148) => (.own s_a0 77 4 (encs l144)) :: L) (fun _ => (fun (k147, y148) => whileM (slices_partitionCmpFunc_api_Wait_Fix_3_B6 a1 y143 l144) k147 y148 = some ol147)) (fun (k147, y148) => k147) (fu, y142) ⟨rfl, rfl, rfl, rfl, rfl, trivial⟩ rfl H ?_
   rintro F149 ⟨k147, y148⟩ hF150 H
   refine Cd.as (e' := [(0, Sl.v s_a0), (1, iv a1), (4, .func (.func 85) #[] #[]), (12, iv y148), (13, iv y143)]) (L' := (.own s_a0 77 4 (encs l144)) :: L) ⟨rfl, rfl, rfl, rfl, rfl, trivial⟩ rfl ?_
   rcases k147 with _ | k147
   ·cases H
   obtain ⟨c147, H, hgo147, hbrk147, hret147⟩ := whileM_go H
   unfold slices_partitionCmpFunc_api_Wait_Fix_3_B6 at H
   try dsimp only at H
   refine Cd.seq ?_
   refine Cd.seq ?_
   refine Cd.quiet (by kernel_rfl) (by kernel_rfl) ?_
   refine Qt.r (Ev.move rfl) ?_
   refine Qt.r (Ev.move rfl) ?_
   refine Qt.r (Ev.leq rfl rfl) ?_
   refine Qt.r (Ev.move rfl) ?_
   obtain ⟨o151, H, HKo151⟩ := bind_some H
   refine Qt.join (σ := Bool) 12 (fun y152 => [(0, Sl.v s_a0), (1, iv a1), (4, .func (.func 85) #[] #[]), (12, iv y148), (13, iv y143), (120, .bool y152)]) (fun y152 => y152 = o151) ?_ ?_
   ·rcases (Bool.eq_false_or_eq_true (decide (y148 ≤ y143))).symm with hb153 | hb153
    ·replace H := ite_f hb153 H
     refine Qt.skip rfl rfl rfl hb153 rfl (by decide) ?_
     refine Qt.skip rfl rfl rfl hb153 rfl (by decide) ?_
     refine Qt.skip rfl rfl rfl hb153 rfl (by decide) ?_
     refine Qt.skip rfl rfl rfl hb153 rfl (by decide) ?_
     refine Qt.skip rfl rfl rfl hb153 rfl (by decide) ?_
     refine Qt.skip rfl rfl rfl hb153 rfl (by decide) ?_
     refine Qt.skip rfl rfl rfl hb153 rfl (by decide) ?_
     refine Qt.skip rfl rfl rfl hb153 rfl (by decide) ?_
     refine Qt.skip rfl rfl rfl hb153 rfl (by decide) ?_
     refine Qt.skip rfl rfl rfl hb153 rfl (by decide) ?_
     refine Qt.skip rfl rfl rfl hb153 rfl (by decide) ?_
     refine Qt.r (Ev.pickF rfl hb153 rfl) ?_
     exact Qt.meet false ⟨rfl, rfl, rfl, rfl, rfl, rfl, trivial⟩ (some_inj H)
    replace H := ite_t hb153 H
    refine Qt.rG hb153 (Ev.move rfl) ?_
    refine Qt.rG hb153 (Ev.move rfl) ?_
    refine Qt.rG hb153 (Ev.move rfl) ?_
    obtain ⟨x154, h155, H⟩ := bind_some H
    have g156 := lat_some h155
    refine Qt.rG hb153 (Ev.indexS (α := Wait) (xs := l144) rfl rfl Try.runUnderlying57 Try.sizeOf77 rfl (by decide) (Rd.own (i := 0) rfl rfl rfl) g156.1 g156.2.1) ?_
    refine Qt.rG hb153 (Ev.loadSA (α := Wait) rfl (Rd.own (i := 0) rfl rfl rfl) Try.isAgg77 Try.sizeOf77 (ch := enc x154) (Enc.len _) (by decide) ((Get.elemN (s := 4) (x := x154) rfl g156.2.2 (Get.here _)).off (by omega))) ?_
    refine Qt.rG hb153 (Ev.move rfl) ?_
    refine Qt.rG hb153 (Ev.move rfl) ?_
    obtain ⟨x157, h158, H⟩ := bind_some H
    have g159 := lat_some h158
    refine Qt.rG hb153 (Ev.indexS (α := Wait) (xs := l144) rfl rfl Try.runUnderlying57 Try.sizeOf77 rfl (by decide) (Rd.own (i := 0) rfl rfl rfl) g159.1 g159.2.1) ?_
    refine Qt.rG hb153 (Ev.loadSA (α := Wait) rfl (Rd.own (i := 0) rfl rfl rfl) Try.isAgg77 Try.sizeOf77 (ch := enc x157) (Enc.len _) (by decide) ((Get.elemN (s := 4) (x := x157) rfl g159.2.2 (Get.here _)).off (by omega))) ?_
    obtain ⟨r160, h161, H⟩ := bind_some H
    refine Qt.callVG rfl rfl rfl hb153 rfl (by decide) (vs := [.agg (enc x154).toArray, .agg (enc x157).toArray]) (cs := []) rfl ⟨rfl, rfl, trivial⟩ Try.call85 (skeen_Fix_3_sim h161 w0 _ M _ (sc1 hM)) ?_
    refine Qt.rG hb153 (Ev.lss rfl rfl) ?_
    refine Qt.r (Ev.pickT rfl hb153 rfl) ?_
    exact Qt.meet (decide (r160 < (0 : Int))) ⟨rfl, rfl, rfl, rfl, rfl, rfl, trivial⟩ (some_inj H)
   rintro y152 hy
   subst hy
   refine Qt.as (e' := [(0, Sl.v s_a0), (1, iv a1), (4, .func (.func 85) #[] #[]), (12, iv y148), (13, iv y143), (120, .bool y152)]) ⟨rfl, rfl, rfl, rfl, rfl, rfl, trivial⟩ ?_
   replace H := HKo151
   refine Qt.done ?_
   refine At.then ?_
   rcases (Bool.eq_false_or_eq_true y152).symm with hb164 | hb164
   ·replace H := ite_f hb164 H
    refine Cd.condF rfl hb164 ?_
    refine Cd.exit ?_
    refine At.then_exit ?_
    refine At.then_exit ?_
    refine At.in_exit ?_
    have H := hbrk147 _ (some_inj H).symm
    subst H
    replace H := HKl147
    refine At.then ?_
    refine Cd.seq ?_
    refine Cd.block ?_
    obtain ⟨ol165, H, HKl165⟩ := andThen_some H
    refine Cd.loop (σ := Nat × Int) (fun (k165, y166) => [(0, Sl.v s_a0), (1, iv a1), (4, .func (.func 85) #[] #[]), (12, iv y148), (13, iv y166)]) (fun (k165, y166) => (.own s_a0 77 4 (encs l144)) :: L) (fun _ => (fun (k165, y166) => whileM (slices_partitionCmpFunc_api_Wait_Fix_3_B8 a1 l144 y148) k165 y166 = some ol165)) (fun (k165, y166) => k165) (fu, y143) ⟨rfl, rfl, rfl, rfl, rfl, trivial⟩ rfl H ?_
    rintro F167 ⟨k165, y166⟩ hF168 H
    refine Cd.as (e' := [(0, Sl.v s_a0), (1, iv a1), (4, .func (.func 85) #[] #[]), (12, iv y148), (13, iv y166)]) (L' := (.own s_a0 77 4 (encs l144)) :: L) ⟨rfl, rfl, rfl, rfl, rfl, trivial⟩ rfl ?_
    rcases k165 with _ | k165
    ·cases H
    obtain ⟨c165, H, hgo165, hbrk165, hret165⟩ := whileM_go H
    unfold slices_partitionCmpFunc_api_Wait_Fix_3_B8 at H
    try dsimp only at H
    refine Cd.seq ?_
    refine Cd.seq ?_
    refine Cd.quiet (by kernel_rfl) (by kernel_rfl) ?_
    refine Qt.r (Ev.move rfl) ?_
    refine Qt.r (Ev.move rfl) ?_
    refine Qt.r (Ev.leq rfl rfl) ?_
    refine Qt.r (Ev.move rfl) ?_
    obtain ⟨o169, H, HKo169⟩ := bind_some H
    refine Qt.join (σ := Bool) 13 (fun y170 => [(0, Sl.v s_a0), (1, iv a1), (4, .func (.func 85) #[] #[]), (12, iv y148), (13, iv y166), (139, .bool y170)]) (fun y170 => y170 = o169) ?_ ?_
    ·rcases (Bool.eq_false_or_eq_true (decide (y148 ≤ y166))).symm with hb171 | hb171
     ·replace H := ite_f hb171 H
      refine Qt.skip rfl rfl rfl hb171 rfl (by decide) ?_
      refine Qt.skip rfl rfl rfl hb171 rfl (by decide) ?_
      refine Qt.skip rfl rfl rfl hb171 rfl (by decide) ?_
      refine Qt.skip rfl rfl rfl hb171 rfl (by decide) ?_
      refine Qt.skip rfl rfl rfl hb171 rfl (by decide) ?_
      refine Qt.skip rfl rfl rfl hb171 rfl (by decide) ?_
      refine Qt.skip rfl rfl rfl hb171 rfl (by decide) ?_
      refine Qt.skip rfl rfl rfl hb171 rfl (by decide) ?_
      refine Qt.skip rfl rfl rfl hb171 rfl (by decide) ?_
      refine Qt.skip rfl rfl rfl hb171 rfl (by decide) ?_
      refine Qt.skip rfl rfl rfl hb171 rfl (by decide) ?_
      refine Qt.skip rfl rfl rfl hb171 rfl (by decide) ?_
      refine Qt.r (Ev.pickF rfl hb171 rfl) ?_
      exact Qt.meet false ⟨rfl, rfl, rfl, rfl, rfl, rfl, trivial⟩ (some_inj H)
     replace H := ite_t hb171 H
     refine Qt.rG hb171 (Ev.move rfl) ?_
     refine Qt.rG hb171 (Ev.move rfl) ?_
     refine Qt.rG hb171 (Ev.move rfl) ?_
     obtain ⟨x172, h173, H⟩ := bind_some H
     have g174 := lat_some h173
     refine Qt.rG hb171 (Ev.indexS (α := Wait) (xs := l144) rfl rfl Try.runUnderlying57 Try.sizeOf77 rfl (by decide) (Rd.own (i := 0) rfl rfl rfl) g174.1 g174.2.1) ?_
     refine Qt.rG hb171 (Ev.loadSA (α := Wait) rfl (Rd.own (i := 0) rfl rfl rfl) Try.isAgg77 Try.sizeOf77 (ch := enc x172) (Enc.len _) (by decide) ((Get.elemN (s := 4) (x := x172) rfl g174.2.2 (Get.here _)).off (by omega))) ?_
     refine Qt.rG hb171 (Ev.move rfl) ?_
     refine Qt.rG hb171 (Ev.move rfl) ?_
     obtain ⟨x175, h176, H⟩ := bind_some H
     have g177 := lat_some h176
     refine Qt.rG hb171 (Ev.indexS (α := Wait) (xs := l144) rfl rfl Try.runUnderlying57 Try.sizeOf77 rfl (by decide) (Rd.own (i := 0) rfl rfl rfl) g177.1 g177.2.1) ?_
     refine Qt.rG hb171 (Ev.loadSA (α := Wait) rfl (Rd.own (i := 0) rfl rfl rfl) Try.isAgg77 Try.sizeOf77 (ch := enc x175) (Enc.len _) (by decide) ((Get.elemN (s := 4) (x := x175) rfl g177.2.2 (Get.here _)).off (by omega))) ?_
     obtain ⟨r178, h179, H⟩ := bind_some H
     refine Qt.callVG rfl rfl rfl hb171 rfl (by decide) (vs := [.agg (enc x172).toArray, .agg (enc x175).toArray]) (cs := []) rfl ⟨rfl, rfl, trivial⟩ Try.call85 (skeen_Fix_3_sim h179 w0 _ M _ (sc1 hM)) ?_
     refine Qt.rG hb171 (Ev.lss rfl rfl) ?_
     refine Qt.rG hb171 (Ev.not rfl) ?_
     refine Qt.r (Ev.pickT rfl hb171 rfl) ?_
     exact Qt.meet (!(decide (r178 < (0 : Int)))) ⟨rfl, rfl, rfl, rfl, rfl, rfl, trivial⟩ (some_inj H)
    rintro y170 hy
    subst hy
    refine Qt.as (e' := [(0, Sl.v s_a0), (1, iv a1), (4, .func (.func 85) #[] #[]), (12, iv y148), (13, iv y166), (139, .bool y170)]) ⟨rfl, rfl, rfl, rfl, rfl, rfl, trivial⟩ ?_
    replace H := HKo169
    refine Qt.done ?_
    refine At.then ?_
    rcases (Bool.eq_false_or_eq_true y170).symm with hb182 | hb182
    ·replace H := ite_f hb182 H
     refine Cd.condF rfl hb182 ?_
     refine Cd.exit ?_
     refine At.then_exit ?_
     refine At.then_exit ?_
     refine At.in_exit ?_
     have H := hbrk165 _ (some_inj H).symm
     subst H
     replace H := HKl165
     refine At.then ?_
     refine Cd.seq ?_
     refine Cd.seq ?_
     refine Cd.region ?_
     refine Lst.r (Ev.move rfl) ?_
     refine Lst.r (Ev.move rfl) ?_
     refine Lst.r (Ev.gtr rfl rfl) ?_
     refine Lst.nil ?_
     refine At.then ?_
     rcases Bool.eq_false_or_eq_true (decide (y148 > y166)) with hb183 | hb183
     ·replace H := ite_t hb183 H
      refine Cd.condT rfl hb183 ?_
      refine Cd.exit ?_
      refine At.then_exit ?_
      refine At.in_other rfl ?_
      refine At.then_exit ?_
      refine At.in_exit ?_
      have H := hbrk141 _ (some_inj H).symm
      subst H
      replace H := HKl141
      refine At.then ?_
      refine Cd.seq ?_
      obtain ⟨x184, h185, H⟩ := bind_some H
      obtain ⟨x187, h188, H⟩ := bind_some H
      obtain ⟨x190, h191, H⟩ := bind_some H
      obtain ⟨p193, h194, H⟩ := Let_some H
      obtain ⟨o197, h198, H⟩ := Let_some H
      refine Cd.headMeet (σ := (List Wait)) 14 (fun l196 => [(13, iv y166), (165, Sl.v s_a0), (166, iv a1), (174, .agg (enc x187).toArray)]) (fun l196 => (.own s_a0 77 4 (encs l196)) :: L) (fun _ l196 => l196 = o197) (by kernel_rfl) (by kernel_rfl) (behind_sink (by kernel_rfl) (by kernel_rfl) (by kernel_rfl)) (by kernel_rfl) (fun hsel hlt => ?_) ?_
      ·refine HdJ.keep (fun w => St w0 F167 (L) w) (fun w h => trivial) ?_
       refine HdJ.tk hsel hlt 0 (fun w h => h.sublist (sc1 (.refl _))) rfl (Ev.move rfl) ?_
       refine HdJ.tk hsel hlt 1 (fun w h => h.sublist (sc1 (.refl _))) rfl (Ev.move rfl) ?_
       refine HdJ.tk hsel hlt 2 (fun w h => h.sublist (sc1 (.refl _))) rfl (Ev.move rfl) ?_
       refine HdJ.tk hsel hlt 3 (fun w h => h.sublist (sc1 (.refl _))) rfl (Ev.move rfl) ?_
       refine HdJ.tk hsel hlt 4 (fun w h => h.sublist (sc1 (.refl _))) rfl (Ev.move rfl) ?_
       refine HdJ.tk hsel hlt 5 (fun w h => h.sublist (sc1 (.refl _))) rfl (Ev.move rfl) ?_
       refine HdJ.tk hsel hlt 8 (fun w h => h.sublist (sc1 (.refl _))) rfl (Ev.move rfl) ?_
       refine HdJ.tk hsel hlt 9 (fun w h => h.sublist (sc1 (.refl _))) rfl (Ev.move rfl) ?_
       refine HdJ.step [6, 10] (by kernel_rfl) rfl ?_
       refine HdStep.c (fun inv => ?_) ?_
       ·have g199 := lat_some h185
        refine Lst.r (Ev.indexS (α := Wait) (xs := l144) rfl rfl Try.runUnderlying57 Try.sizeOf77 rfl (by decide) (Rd.own (i := 0) rfl rfl rfl) g199.1 g199.2.1) ?_
        refine Lst.nil ?_
        refine At.hd inv (fun w h => (h.weaken (FLe.refl _)).sublist (sc1 (.refl _))) ?_
        refine HdJ.step [7, 10] (by kernel_rfl) rfl ?_
        refine HdStep.c (fun inv => ?_) ?_
        ·refine Lst.r (Ev.loadSA (α := Wait) rfl (Rd.own (i := 0) rfl rfl rfl) Try.isAgg77 Try.sizeOf77 (ch := enc x184) (Enc.len _) (by decide) ((Get.elemN (s := 4) (x := x184) rfl g199.2.2 (Get.here _)).off (by omega))) ?_
         refine Lst.nil ?_
         refine At.hd inv (fun w h => (h.weaken (FLe.refl _)).sublist (sc1 (.refl _))) ?_
         refine HdJ.step [10] (by kernel_rfl) rfl ?_
         refine HdStep.c (fun inv => ?_) ?_
         ·have g200 := lat_some h188
          refine Lst.r (Ev.indexS (α := Wait) (xs := l144) rfl rfl Try.runUnderlying57 Try.sizeOf77 rfl (by decide) (Rd.own (i := 0) rfl rfl rfl) g200.1 g200.2.1) ?_
          refine Lst.nil ?_
          refine At.hd inv (fun w h => (h.weaken (FLe.refl _)).sublist (sc1 (.refl _))) ?_
          refine HdJ.step [11] (by kernel_rfl) rfl ?_
          refine HdStep.c (fun inv => ?_) ?_
          ·refine Lst.r (Ev.loadSA (α := Wait) rfl (Rd.own (i := 0) rfl rfl rfl) Try.isAgg77 Try.sizeOf77 (ch := enc x187) (Enc.len _) (by decide) ((Get.elemN (s := 4) (x := x187) rfl g200.2.2 (Get.here _)).off (by omega))) ?_
           refine Lst.nil ?_
           refine At.hd inv (fun w h => (h.weaken (FLe.refl _)).sublist (sc1 (.refl _))) ?_
           refine HdJ.step [12] (by kernel_rfl) rfl ?_
           refine HdStep.c (fun inv => ?_) ?_
           ·have g201 := lat_some h191
            refine Lst.r (Ev.indexS (α := Wait) (xs := l144) rfl rfl Try.runUnderlying57 Try.sizeOf77 rfl (by decide) (Rd.own (i := 0) rfl rfl rfl) g201.1 g201.2.1) ?_
            refine Lst.nil ?_
            refine At.hd inv (fun w h => (h.weaken (FLe.refl _)).sublist (sc1 (.refl _))) ?_
            refine HdJ.step [13] (by kernel_rfl) rfl ?_
            refine HdStep.c (fun inv => ?_) ?_
            ·refine Lst.storeS (i := 0) rfl rfl rfl rfl rfl Try.sizeOf77 (vs := enc x184) rfl (Enc.len _) (by decide) (Enc.one _) (xs' := encs p193) (by rw [← h194]; exact (Put.elemN (s := 4) (x := x190) rfl g201.2.2 (Put.here ((Enc.len _).trans (Enc.len _).symm))).off (by omega)) (L' := (.own s_a0 77 4 (encs p193)) :: L) rfl ?_
             refine Lst.nil ?_
             refine At.hd inv (fun w h => (h.weaken (FLe.refl _)).sublist (sc1 (.refl _))) ?_
             refine HdJ.done (by kernel_rfl) ?_
             exact At.meetN p193 (FLe.refl _) ⟨rfl, rfl, rfl, rfl, trivial⟩ rfl h198
            exact trivial
           exact trivial
          exact trivial
         exact trivial
        refine HdStep.c (fun inv => ?_) ?_
        ·have g202 := lat_some h188
         refine Lst.r (Ev.indexS (α := Wait) (xs := l144) rfl rfl Try.runUnderlying57 Try.sizeOf77 rfl (by decide) (Rd.own (i := 0) rfl rfl rfl) g202.1 g202.2.1) ?_
         refine Lst.nil ?_
         refine At.hd inv (fun w h => (h.weaken (FLe.refl _)).sublist (sc1 (.refl _))) ?_
         refine HdJ.step [7, 11] (by kernel_rfl) rfl ?_
         refine HdStep.c (fun inv => ?_) ?_
         ·refine Lst.r (Ev.loadSA (α := Wait) rfl (Rd.own (i := 0) rfl rfl rfl) Try.isAgg77 Try.sizeOf77 (ch := enc x184) (Enc.len _) (by decide) ((Get.elemN (s := 4) (x := x184) rfl g199.2.2 (Get.here _)).off (by omega))) ?_
          refine Lst.nil ?_
          refine At.hd inv (fun w h => (h.weaken (FLe.refl _)).sublist (sc1 (.refl _))) ?_
          refine HdJ.step [11] (by kernel_rfl) rfl ?_
          refine HdStep.c (fun inv => ?_) ?_
          ·refine Lst.r (Ev.loadSA (α := Wait) rfl (Rd.own (i := 0) rfl rfl rfl) Try.isAgg77 Try.sizeOf77 (ch := enc x187) (Enc.len _) (by decide) ((Get.elemN (s := 4) (x := x187) rfl g202.2.2 (Get.here _)).off (by omega))) ?_
           refine Lst.nil ?_
           refine At.hd inv (fun w h => (h.weaken (FLe.refl _)).sublist (sc1 (.refl _))) ?_
           refine HdJ.step [12] (by kernel_rfl) rfl ?_
           refine HdStep.c (fun inv => ?_) ?_
           ·have g203 := lat_some h191
            refine Lst.r (Ev.indexS (α := Wait) (xs := l144) rfl rfl Try.runUnderlying57 Try.sizeOf77 rfl (by decide) (Rd.own (i := 0) rfl rfl rfl) g203.1 g203.2.1) ?_
            refine Lst.nil ?_
            refine At.hd inv (fun w h => (h.weaken (FLe.refl _)).sublist (sc1 (.refl _))) ?_
            refine HdJ.step [13] (by kernel_rfl) rfl ?_
            refine HdStep.c (fun inv => ?_) ?_
            ·refine Lst.storeS (i := 0) rfl rfl rfl rfl rfl Try.sizeOf77 (vs := enc x184) rfl (Enc.len _) (by decide) (Enc.one _) (xs' := encs p193) (by rw [← h194]; exact (Put.elemN (s := 4) (x := x190) rfl g203.2.2 (Put.here ((Enc.len _).trans (Enc.len _).symm))).off (by omega)) (L' := (.own s_a0 77 4 (encs p193)) :: L) rfl ?_
             refine Lst.nil ?_
             refine At.hd inv (fun w h => (h.weaken (FLe.refl _)).sublist (sc1 (.refl _))) ?_
             refine HdJ.done (by kernel_rfl) ?_
             exact At.meetN p193 (FLe.refl _) ⟨rfl, rfl, rfl, rfl, trivial⟩ rfl h198
            exact trivial
           exact trivial
          exact trivial
         refine HdStep.c (fun inv => ?_) ?_
         ·refine Lst.r (Ev.loadSA (α := Wait) rfl (Rd.own (i := 0) rfl rfl rfl) Try.isAgg77 Try.sizeOf77 (ch := enc x187) (Enc.len _) (by decide) ((Get.elemN (s := 4) (x := x187) rfl g202.2.2 (Get.here _)).off (by omega))) ?_
          refine Lst.nil ?_
          refine At.hd inv (fun w h => (h.weaken (FLe.refl _)).sublist (sc1 (.refl _))) ?_
          refine HdJ.step [7] (by kernel_rfl) rfl ?_
          refine HdStep.c (fun inv => ?_) ?_
          ·refine Lst.r (Ev.loadSA (α := Wait) rfl (Rd.own (i := 0) rfl rfl rfl) Try.isAgg77 Try.sizeOf77 (ch := enc x184) (Enc.len _) (by decide) ((Get.elemN (s := 4) (x := x184) rfl g199.2.2 (Get.here _)).off (by omega))) ?_
           refine Lst.nil ?_
           refine At.hd inv (fun w h => (h.weaken (FLe.refl _)).sublist (sc1 (.refl _))) ?_
           refine HdJ.step [12] (by kernel_rfl) rfl ?_
           refine HdStep.c (fun inv => ?_) ?_
           ·have g204 := lat_some h191
            refine Lst.r (Ev.indexS (α := Wait) (xs := l144) rfl rfl Try.runUnderlying57 Try.sizeOf77 rfl (by decide) (Rd.own (i := 0) rfl rfl rfl) g204.1 g204.2.1) ?_
            refine Lst.nil ?_
            refine At.hd inv (fun w h => (h.weaken (FLe.refl _)).sublist (sc1 (.refl _))) ?_
            refine HdJ.step [13] (by kernel_rfl) rfl ?_
            refine HdStep.c (fun inv => ?_) ?_
            ·refine Lst.storeS (i := 0) rfl rfl rfl rfl rfl Try.sizeOf77 (vs := enc x184) rfl (Enc.len _) (by decide) (Enc.one _) (xs' := encs p193) (by rw [← h194]; exact (Put.elemN (s := 4) (x := x190) rfl g204.2.2 (Put.here ((Enc.len _).trans (Enc.len _).symm))).off (by omega)) (L' := (.own s_a0 77 4 (encs p193)) :: L) rfl ?_
             refine Lst.nil ?_
             refine At.hd inv (fun w h => (h.weaken (FLe.refl _)).sublist (sc1 (.refl _))) ?_
             refine HdJ.done (by kernel_rfl) ?_
             exact At.meetN p193 (FLe.refl _) ⟨rfl, rfl, rfl, rfl, trivial⟩ rfl h198
            exact trivial
           exact trivial
          exact trivial
         exact trivial
        exact trivial
       refine HdStep.c (fun inv => ?_) ?_
       ·have g205 := lat_some h188
        refine Lst.r (Ev.indexS (α := Wait) (xs := l144) rfl rfl Try.runUnderlying57 Try.sizeOf77 rfl (by decide) (Rd.own (i := 0) rfl rfl rfl) g205.1 g205.2.1) ?_
        refine Lst.nil ?_
        refine At.hd inv (fun w h => (h.weaken (FLe.refl _)).sublist (sc1 (.refl _))) ?_
        refine HdJ.step [6, 11] (by kernel_rfl) rfl ?_
        refine HdStep.c (fun inv => ?_) ?_
        ·have g206 := lat_some h185
         refine Lst.r (Ev.indexS (α := Wait) (xs := l144) rfl rfl Try.runUnderlying57 Try.sizeOf77 rfl (by decide) (Rd.own (i := 0) rfl rfl rfl) g206.1 g206.2.1) ?_
         refine Lst.nil ?_
         refine At.hd inv (fun w h => (h.weaken (FLe.refl _)).sublist (sc1 (.refl _))) ?_
         refine HdJ.step [7, 11] (by kernel_rfl) rfl ?_
         refine HdStep.c (fun inv => ?_) ?_
         ·refine Lst.r (Ev.loadSA (α := Wait) rfl (Rd.own (i := 0) rfl rfl rfl) Try.isAgg77 Try.sizeOf77 (ch := enc x184) (Enc.len _) (by decide) ((Get.elemN (s := 4) (x := x184) rfl g206.2.2 (Get.here _)).off (by omega))) ?_
          refine Lst.nil ?_
          refine At.hd inv (fun w h => (h.weaken (FLe.refl _)).sublist (sc1 (.refl _))) ?_
          refine HdJ.step [11] (by kernel_rfl) rfl ?_
          refine HdStep.c (fun inv => ?_) ?_
          ·refine Lst.r (Ev.loadSA (α := Wait) rfl (Rd.own (i := 0) rfl rfl rfl) Try.isAgg77 Try.sizeOf77 (ch := enc x187) (Enc.len _) (by decide) ((Get.elemN (s := 4) (x := x187) rfl g205.2.2 (Get.here _)).off (by omega))) ?_
           refine Lst.nil ?_
           refine At.hd inv (fun w h => (h.weaken (FLe.refl _)).sublist (sc1 (.refl _))) ?_
           refine HdJ.step [12] (by kernel_rfl) rfl ?_
           refine HdStep.c (fun inv => ?_) ?_
           ·have g207 := lat_some h191
            refine Lst.r (Ev.indexS (α := Wait) (xs := l144) rfl rfl Try.runUnderlying57 Try.sizeOf77 rfl (by decide) (Rd.own (i := 0) rfl rfl rfl) g207.1 g207.2.1) ?_
            refine Lst.nil ?_
            refine At.hd inv (fun w h => (h.weaken (FLe.refl _)).sublist (sc1 (.refl _))) ?_
            refine HdJ.step [13] (by kernel_rfl) rfl ?_
            refine HdStep.c (fun inv => ?_) ?_
            ·refine Lst.storeS (i := 0) rfl rfl rfl rfl rfl Try.sizeOf77 (vs := enc x184) rfl (Enc.len _) (by decide) (Enc.one _) (xs' := encs p193) (by rw [← h194]; exact (Put.elemN (s := 4) (x := x190) rfl g207.2.2 (Put.here ((Enc.len _).trans (Enc.len _).symm))).off (by omega)) (L' := (.own s_a0 77 4 (encs p193)) :: L) rfl ?_
             refine Lst.nil ?_
             refine At.hd inv (fun w h => (h.weaken (FLe.refl _)).sublist (sc1 (.refl _))) ?_
             refine HdJ.done (by kernel_rfl) ?_
             exact At.meetN p193 (FLe.refl _) ⟨rfl, rfl, rfl, rfl, trivial⟩ rfl h198
            exact trivial
           exact trivial
          exact trivial
         refine HdStep.c (fun inv => ?_) ?_
         ·refine Lst.r (Ev.loadSA (α := Wait) rfl (Rd.own (i := 0) rfl rfl rfl) Try.isAgg77 Try.sizeOf77 (ch := enc x187) (Enc.len _) (by decide) ((Get.elemN (s := 4) (x := x187) rfl g205.2.2 (Get.here _)).off (by omega))) ?_
          refine Lst.nil ?_
          refine At.hd inv (fun w h => (h.weaken (FLe.refl _)).sublist (sc1 (.refl _))) ?_
          refine HdJ.step [7] (by kernel_rfl) rfl ?_
          refine HdStep.c (fun inv => ?_) ?_
          ·refine Lst.r (Ev.loadSA (α := Wait) rfl (Rd.own (i := 0) rfl rfl rfl) Try.isAgg77 Try.sizeOf77 (ch := enc x184) (Enc.len _) (by decide) ((Get.elemN (s := 4) (x := x184) rfl g206.2.2 (Get.here _)).off (by omega))) ?_
           refine Lst.nil ?_
           refine At.hd inv (fun w h => (h.weaken (FLe.refl _)).sublist (sc1 (.refl _))) ?_
           refine HdJ.step [12] (by kernel_rfl) rfl ?_
           refine HdStep.c (fun inv => ?_) ?_
           ·have g208 := lat_some h191
            refine Lst.r (Ev.indexS (α := Wait) (xs := l144) rfl rfl Try.runUnderlying57 Try.sizeOf77 rfl (by decide) (Rd.own (i := 0) rfl rfl rfl) g208.1 g208.2.1) ?_
            refine Lst.nil ?_
            refine At.hd inv (fun w h => (h.weaken (FLe.refl _)).sublist (sc1 (.refl _))) ?_
            refine HdJ.step [13] (by kernel_rfl) rfl ?_
            refine HdStep.c (fun inv => ?_) ?_
            ·refine Lst.storeS (i := 0) rfl rfl rfl rfl rfl Try.sizeOf77 (vs := enc x184) rfl (Enc.len _) (by decide) (Enc.one _) (xs' := encs p193) (by rw [← h194]; exact (Put.elemN (s := 4) (x := x190) rfl g208.2.2 (Put.here ((Enc.len _).trans (Enc.len _).symm))).off (by omega)) (L' := (.own s_a0 77 4 (encs p193)) :: L) rfl ?_
             refine Lst.nil ?_
             refine At.hd inv (fun w h => (h.weaken (FLe.refl _)).sublist (sc1 (.refl _))) ?_
             refine HdJ.done (by kernel_rfl) ?_
             exact At.meetN p193 (FLe.refl _) ⟨rfl, rfl, rfl, rfl, trivial⟩ rfl h198
            exact trivial
           exact trivial
          exact trivial
         exact trivial
        refine HdStep.c (fun inv => ?_) ?_
        ·refine Lst.r (Ev.loadSA (α := Wait) rfl (Rd.own (i := 0) rfl rfl rfl) Try.isAgg77 Try.sizeOf77 (ch := enc x187) (Enc.len _) (by decide) ((Get.elemN (s := 4) (x := x187) rfl g205.2.2 (Get.here _)).off (by omega))) ?_
         refine Lst.nil ?_
         refine At.hd inv (fun w h => (h.weaken (FLe.refl _)).sublist (sc1 (.refl _))) ?_
         refine HdJ.step [6] (by kernel_rfl) rfl ?_
         refine HdStep.c (fun inv => ?_) ?_
         ·have g209 := lat_some h185
          refine Lst.r (Ev.indexS (α := Wait) (xs := l144) rfl rfl Try.runUnderlying57 Try.sizeOf77 rfl (by decide) (Rd.own (i := 0) rfl rfl rfl) g209.1 g209.2.1) ?_
          refine Lst.nil ?_
          refine At.hd inv (fun w h => (h.weaken (FLe.refl _)).sublist (sc1 (.refl _))) ?_
          refine HdJ.step [7] (by kernel_rfl) rfl ?_
          refine HdStep.c (fun inv => ?_) ?_
          ·refine Lst.r (Ev.loadSA (α := Wait) rfl (Rd.own (i := 0) rfl rfl rfl) Try.isAgg77 Try.sizeOf77 (ch := enc x184) (Enc.len _) (by decide) ((Get.elemN (s := 4) (x := x184) rfl g209.2.2 (Get.here _)).off (by omega))) ?_
           refine Lst.nil ?_
           refine At.hd inv (fun w h => (h.weaken (FLe.refl _)).sublist (sc1 (.refl _))) ?_
           refine HdJ.step [12] (by kernel_rfl) rfl ?_
           refine HdStep.c (fun inv => ?_) ?_
           ·have g210 := lat_some h191
            refine Lst.r (Ev.indexS (α := Wait) (xs := l144) rfl rfl Try.runUnderlying57 Try.sizeOf77 rfl (by decide) (Rd.own (i := 0) rfl rfl rfl) g210.1 g210.2.1) ?_
            refine Lst.nil ?_
            refine At.hd inv (fun w h => (h.weaken (FLe.refl _)).sublist (sc1 (.refl _))) ?_
            refine HdJ.step [13] (by kernel_rfl) rfl ?_
            refine HdStep.c (fun inv => ?_) ?_
            ·refine Lst.storeS (i := 0) rfl rfl rfl rfl rfl Try.sizeOf77 (vs := enc x184) rfl (Enc.len _) (by decide) (Enc.one _) (xs' := encs p193) (by rw [← h194]; exact (Put.elemN (s := 4) (x := x190) rfl g210.2.2 (Put.here ((Enc.len _).trans (Enc.len _).symm))).off (by omega)) (L' := (.own s_a0 77 4 (encs p193)) :: L) rfl ?_
             refine Lst.nil ?_
             refine At.hd inv (fun w h => (h.weaken (FLe.refl _)).sublist (sc1 (.refl _))) ?_
             refine HdJ.done (by kernel_rfl) ?_
             exact At.meetN p193 (FLe.refl _) ⟨rfl, rfl, rfl, rfl, trivial⟩ rfl h198
            exact trivial
           exact trivial
          exact trivial
         exact trivial
        exact trivial
       exact trivial
      rintro F211 l196 hF212 hy
      subst hy
      refine Lst.as (e' := [(13, iv y166), (165, Sl.v s_a0), (166, iv a1), (174, .agg (enc x187).toArray)]) (L' := (.own s_a0 77 4 (encs l196)) :: L) ⟨rfl, rfl, rfl, rfl, trivial⟩ rfl ?_
      obtain ⟨x213, h214, H⟩ := bind_some H
      have g215 := lat_some h214
      refine Lst.r (Ev.indexS (α := Wait) (xs := l196) rfl rfl Try.runUnderlying57 Try.sizeOf77 rfl (by decide) (Rd.own (i := 0) rfl rfl rfl) g215.1 g215.2.1) ?_
      obtain ⟨p216, h217, H⟩ := Let_some H
      refine Lst.storeS (i := 0) rfl rfl rfl rfl rfl Try.sizeOf77 (vs := enc x187) rfl (Enc.len _) (by decide) (Enc.one _) (xs' := encs p216) (by rw [← h217]; exact (Put.elemN (s := 4) (x := x213) rfl g215.2.2 (Put.here ((Enc.len _).trans (Enc.len _).symm))).off (by omega)) (L' := (.own s_a0 77 4 (encs p216)) :: L) rfl ?_
      refine Lst.nil ?_
      refine At.then ?_
      refine Cd.seq ?_
      refine Cd.region ?_
      refine Lst.r (Ev.move rfl) ?_
      refine Lst.r (Ev.assign rfl) ?_
      refine Lst.r (Ev.assign rfl) ?_
      refine Lst.nil ?_
      refine At.then ?_
      obtain rfl := some_inj H
      refine Cd.ret ?_
      exact At.ret2 rfl (Res.tmp rfl) (Res.tmp rfl) (FLe.trans (FLe.trans (FLe.trans (FLe.trans (FLe.trans (FLe.trans (FLe.trans hF30 hF39) hF57) hF135) hF146) hF150) hF168) hF212) (sk1 (.refl _)) ⟨rfl, rfl⟩
     replace H := ite_f hb183 H
     refine Cd.condF rfl hb183 ?_
     refine Cd.skip ?_
     refine At.then ?_
     refine Cd.seq ?_
     obtain ⟨x218, h219, H⟩ := bind_some H
     obtain ⟨x221, h222, H⟩ := bind_some H
     obtain ⟨x224, h225, H⟩ := bind_some H
     obtain ⟨p227, h228, H⟩ := Let_some H
     obtain ⟨o231, h232, H⟩ := Let_some H
     refine Cd.headMeet (σ := (List Wait)) 14 (fun l230 => [(0, Sl.v s_a0), (1, iv a1), (4, .func (.func 85) #[] #[]), (12, iv y148), (13, iv y166), (147, Sl.v s_a0), (148, iv y166), (156, .agg (enc x221).toArray)]) (fun l230 => (.own s_a0 77 4 (encs l230)) :: L) (fun _ l230 => l230 = o231) (by kernel_rfl) (by kernel_rfl) (behind_sink (by kernel_rfl) (by kernel_rfl) (by kernel_rfl)) (by kernel_rfl) (fun hsel hlt => ?_) ?_
     ·refine HdJ.keep (fun w => St w0 F167 (L) w) (fun w h => trivial) ?_
      refine HdJ.tk hsel hlt 0 (fun w h => h.sublist (sc1 (.refl _))) rfl (Ev.move rfl) ?_
      refine HdJ.tk hsel hlt 1 (fun w h => h.sublist (sc1 (.refl _))) rfl (Ev.move rfl) ?_
      refine HdJ.tk hsel hlt 2 (fun w h => h.sublist (sc1 (.refl _))) rfl (Ev.move rfl) ?_
      refine HdJ.tk hsel hlt 3 (fun w h => h.sublist (sc1 (.refl _))) rfl (Ev.move rfl) ?_
      refine HdJ.tk hsel hlt 4 (fun w h => h.sublist (sc1 (.refl _))) rfl (Ev.move rfl) ?_
      refine HdJ.tk hsel hlt 5 (fun w h => h.sublist (sc1 (.refl _))) rfl (Ev.move rfl) ?_
      refine HdJ.tk hsel hlt 8 (fun w h => h.sublist (sc1 (.refl _))) rfl (Ev.move rfl) ?_
      refine HdJ.tk hsel hlt 9 (fun w h => h.sublist (sc1 (.refl _))) rfl (Ev.move rfl) ?_
      refine HdJ.step [6, 10] (by kernel_rfl) rfl ?_
      refine HdStep.c (fun inv => ?_) ?_
      ·have g233 := lat_some h219
       refine Lst.r (Ev.indexS (α := Wait) (xs := l144) rfl rfl Try.runUnderlying57 Try.sizeOf77 rfl (by decide) (Rd.own (i := 0) rfl rfl rfl) g233.1 g233.2.1) ?_
       refine Lst.nil ?_
       refine At.hd inv (fun w h => (h.weaken (FLe.refl _)).sublist (sc1 (.refl _))) ?_
       refine HdJ.step [7, 10] (by kernel_rfl) rfl ?_
       refine HdStep.c (fun inv => ?_) ?_
       ·refine Lst.r (Ev.loadSA (α := Wait) rfl (Rd.own (i := 0) rfl rfl rfl) Try.isAgg77 Try.sizeOf77 (ch := enc x218) (Enc.len _) (by decide) ((Get.elemN (s := 4) (x := x218) rfl g233.2.2 (Get.here _)).off (by omega))) ?_
        refine Lst.nil ?_
        refine At.hd inv (fun w h => (h.weaken (FLe.refl _)).sublist (sc1 (.refl _))) ?_
        refine HdJ.step [10] (by kernel_rfl) rfl ?_
        refine HdStep.c (fun inv => ?_) ?_
        ·have g234 := lat_some h222
         refine Lst.r (Ev.indexS (α := Wait) (xs := l144) rfl rfl Try.runUnderlying57 Try.sizeOf77 rfl (by decide) (Rd.own (i := 0) rfl rfl rfl) g234.1 g234.2.1) ?_
         refine Lst.nil ?_
         refine At.hd inv (fun w h => (h.weaken (FLe.refl _)).sublist (sc1 (.refl _))) ?_
         refine HdJ.step [11] (by kernel_rfl) rfl ?_
         refine HdStep.c (fun inv => ?_) ?_
         ·refine Lst.r (Ev.loadSA (α := Wait) rfl (Rd.own (i := 0) rfl rfl rfl) Try.isAgg77 Try.sizeOf77 (ch := enc x221) (Enc.len _) (by decide) ((Get.elemN (s := 4) (x := x221) rfl g234.2.2 (Get.here _)).off (by omega))) ?_
          refine Lst.nil ?_
          refine At.hd inv (fun w h => (h.weaken (FLe.refl _)).sublist (sc1 (.refl _))) ?_
          refine HdJ.step [12] (by kernel_rfl) rfl ?_
          refine HdStep.c (fun inv => ?_) ?_
          ·have g235 := lat_some h225
           refine Lst.r (Ev.indexS (α := Wait) (xs := l144) rfl rfl Try.runUnderlying57 Try.sizeOf77 rfl (by decide) (Rd.own (i := 0) rfl rfl rfl) g235.1 g235.2.1) ?_
           refine Lst.nil ?_
           refine At.hd inv (fun w h => (h.weaken (FLe.refl _)).sublist (sc1 (.refl _))) ?_
           refine HdJ.step [13] (by kernel_rfl) rfl ?_
           refine HdStep.c (fun inv => ?_) ?_
           ·refine Lst.storeS (i := 0) rfl rfl rfl rfl rfl Try.sizeOf77 (vs := enc x218) rfl (Enc.len _) (by decide) (Enc.one _) (xs' := encs p227) (by rw [← h228]; exact (Put.elemN (s := 4) (x := x224) rfl g235.2.2 (Put.here ((Enc.len _).trans (Enc.len _).symm))).off (by omega)) (L' := (.own s_a0 77 4 (encs p227)) :: L) rfl ?_
            refine Lst.nil ?_
            refine At.hd inv (fun w h => (h.weaken (FLe.refl _)).sublist (sc1 (.refl _))) ?_
            refine HdJ.done (by kernel_rfl) ?_
            exact At.meetN p227 (FLe.refl _) ⟨rfl, rfl, rfl, rfl, rfl, rfl, rfl, rfl, trivial⟩ rfl h232
           exact trivial
          exact trivial
         exact trivial
        exact trivial
       refine HdStep.c (fun inv => ?_) ?_
       ·have g236 := lat_some h222
        refine Lst.r (Ev.indexS (α := Wait) (xs := l144) rfl rfl Try.runUnderlying57 Try.sizeOf77 rfl (by decide) (Rd.own (i := 0) rfl rfl rfl) g236.1 g236.2.1) ?_
        refine Lst.nil ?_
        refine At.hd inv (fun w h => (h.weaken (FLe.refl _)).sublist (sc1 (.refl _))) ?_
        refine HdJ.step [7, 11] (by kernel_rfl) rfl ?_
        refine HdStep.c (fun inv => ?_) ?_
        ·refine Lst.r (Ev.loadSA (α := Wait) rfl (Rd.own (i := 0) rfl rfl rfl) Try.isAgg77 Try.sizeOf77 (ch := enc x218) (Enc.len _) (by decide) ((Get.elemN (s := 4) (x := x218) rfl g233.2.2 (Get.here _)).off (by omega))) ?_
         refine Lst.nil ?_
         refine At.hd inv (fun w h => (h.weaken (FLe.refl _)).sublist (sc1 (.refl _))) ?_
         refine HdJ.step [11] (by kernel_rfl) rfl ?_
         refine HdStep.c (fun inv => ?_) ?_
         ·refine Lst.r (Ev.loadSA (α := Wait) rfl (Rd.own (i := 0) rfl rfl rfl) Try.isAgg77 Try.sizeOf77 (ch := enc x221) (Enc.len _) (by decide) ((Get.elemN (s := 4) (x := x221) rfl g236.2.2 (Get.here _)).off (by omega))) ?_
          refine Lst.nil ?_
          refine At.hd inv (fun w h => (h.weaken (FLe.refl _)).sublist (sc1 (.refl _))) ?_
          refine HdJ.step [12] (by kernel_rfl) rfl ?_
          refine HdStep.c (fun inv => ?_) ?_
          ·have g237 := lat_some h225
           refine Lst.r (Ev.indexS (α := Wait) (xs := l144) rfl rfl Try.runUnderlying57 Try.sizeOf77 rfl (by decide) (Rd.own (i := 0) rfl rfl rfl) g237.1 g237.2.1) ?_
           refine Lst.nil ?_
           refine At.hd inv (fun w h => (h.weaken (FLe.refl _)).sublist (sc1 (.refl _))) ?_
           refine HdJ.step [13] (by kernel_rfl) rfl ?_
           refine HdStep.c (fun inv => ?_) ?_
           ·refine Lst.storeS (i := 0) rfl rfl rfl rfl rfl Try.sizeOf77 (vs := enc x218) rfl (Enc.len _) (by decide) (Enc.one _) (xs' := encs p227) (by rw [← h228]; exact (Put.elemN (s := 4) (x := x224) rfl g237.2.2 (Put.here ((Enc.len _).trans (Enc.len _).symm))).off (by omega)) (L' := (.own s_a0 77 4 (encs p227)) :: L) rfl ?_
            refine Lst.nil ?_
            refine At.hd inv (fun w h => (h.weaken (FLe.refl _)).sublist (sc1 (.refl _))) ?_
            refine HdJ.done (by kernel_rfl) ?_
            exact At.meetN p227 (FLe.refl _) ⟨rfl, rfl, rfl, rfl, rfl, rfl, rfl, rfl, trivial⟩ rfl h232
           exact trivial
          exact trivial
         exact trivial
        refine HdStep.c (fun inv => ?_) ?_
        ·refine Lst.r (Ev.loadSA (α := Wait) rfl (Rd.own (i := 0) rfl rfl rfl) Try.isAgg77 Try.sizeOf77 (ch := enc x221) (Enc.len _) (by decide) ((Get.elemN (s := 4) (x := x221) rfl g236.2.2 (Get.here _)).off (by omega))) ?_
         refine Lst.nil ?_
         refine At.hd inv (fun w h => (h.weaken (FLe.refl _)).sublist (sc1 (.refl _))) ?_
         refine HdJ.step [7] (by kernel_rfl) rfl ?_
         refine HdStep.c (fun inv => ?_) ?_
         ·refine Lst.r (Ev.loadSA (α := Wait) rfl (Rd.own (i := 0) rfl rfl rfl) Try.isAgg77 Try.sizeOf77 (ch := enc x218) (Enc.len _) (by decide) ((Get.elemN (s := 4) (x := x218) rfl g233.2.2 (Get.here _)).off (by omega))) ?_
          refine Lst.nil ?_
          refine At.hd inv (fun w h => (h.weaken (FLe.refl _)).sublist (sc1 (.refl _))) ?_
          refine HdJ.step [12] (by kernel_rfl) rfl ?_
          refine HdStep.c (fun inv => ?_) ?_
          ·have g238 := lat_some h225
           refine Lst.r (Ev.indexS (α := Wait) (xs := l144) rfl rfl Try.runUnderlying57 Try.sizeOf77 rfl (by decide) (Rd.own (i := 0) rfl rfl rfl) g238.1 g238.2.1) ?_
           refine Lst.nil ?_
           refine At.hd inv (fun w h => (h.weaken (FLe.refl _)).sublist (sc1 (.refl _))) ?_
           refine HdJ.step [13] (by kernel_rfl) rfl ?_
           refine HdStep.c (fun inv => ?_) ?_
           ·refine Lst.storeS (i := 0) rfl rfl rfl rfl rfl Try.sizeOf77 (vs := enc x218) rfl (Enc.len _) (by decide) (Enc.one _) (xs' := encs p227) (by rw [← h228]; exact (Put.elemN (s := 4) (x := x224) rfl g238.2.2 (Put.here ((Enc.len _).trans (Enc.len _).symm))).off (by omega)) (L' := (.own s_a0 77 4 (encs p227)) :: L) rfl ?_
            refine Lst.nil ?_
            refine At.hd inv (fun w h => (h.weaken (FLe.refl _)).sublist (sc1 (.refl _))) ?_
            refine HdJ.done (by kernel_rfl) ?_
            exact At.meetN p227 (FLe.refl _) ⟨rfl, rfl, rfl, rfl, rfl, rfl, rfl, rfl, trivial⟩ rfl h232
           exact trivial
          exact trivial
         exact trivial
        exact trivial
       exact trivial
      refine HdStep.c (fun inv => ?_) ?_
      ·have g239 := lat_some h222
       refine Lst.r (Ev.indexS (α := Wait) (xs := l144) rfl rfl Try.runUnderlying57 Try.sizeOf77 rfl (by decide) (Rd.own (i := 0) rfl rfl rfl) g239.1 g239.2.1) ?_
       refine Lst.nil ?_
       refine At.hd inv (fun w h => (h.weaken (FLe.refl _)).sublist (sc1 (.refl _))) ?_
       refine HdJ.step [6, 11] (by kernel_rfl) rfl ?_
       refine HdStep.c (fun inv => ?_) ?_
       ·have g240 := lat_some h219
        refine Lst.r (Ev.indexS (α := Wait) (xs := l144) rfl rfl Try.runUnderlying57 Try.sizeOf77 rfl (by decide) (Rd.own (i := 0) rfl rfl rfl) g240.1 g240.2.1) ?_
        refine Lst.nil ?_
        refine At.hd inv (fun w h => (h.weaken (FLe.refl _)).sublist (sc1 (.refl _))) ?_
        refine HdJ.step [7, 11] (by kernel_rfl) rfl ?_
        refine HdStep.c (fun inv => ?_) ?_
        ·refine Lst.r (Ev.loadSA (α := Wait) rfl (Rd.own (i := 0) rfl rfl rfl) Try.isAgg77 Try.sizeOf77 (ch := enc x218) (Enc.len _) (by decide) ((Get.elemN (s := 4) (x := x218) rfl g240.2.2 (Get.here _)).off (by omega))) ?_
         refine Lst.nil ?_
         refine At.hd inv (fun w h => (h.weaken (FLe.refl _)).sublist (sc1 (.refl _))) ?_
         refine HdJ.step [11] (by kernel_rfl) rfl ?_
         refine HdStep.c (fun inv => ?_) ?_
         ·refine Lst.r (Ev.loadSA (α := Wait) rfl (Rd.own (i := 0) rfl rfl rfl) Try.isAgg77 Try.sizeOf77 (ch := enc x221) (Enc.len _) (by decide) ((Get.elemN (s := 4) (x := x221) rfl g239.2.2 (Get.here _)).off (by omega))) ?_
          refine Lst.nil ?_
          refine At.hd inv (fun w h => (h.weaken (FLe.refl _)).sublist (sc1 (.refl _))) ?_
          refine HdJ.step [12] (by kernel_rfl) rfl ?_
          refine HdStep.c (fun inv => ?_) ?_
          ·have g241 := lat_some h225
           refine Lst.r (Ev.indexS (α := Wait) (xs := l144) rfl rfl Try.runUnderlying57 Try.sizeOf77 rfl (by decide) (Rd.own (i := 0) rfl rfl rfl) g241.1 g241.2.1) ?_
           refine Lst.nil ?_
           refine At.hd inv (fun w h => (h.weaken (FLe.refl _)).sublist (sc1 (.refl _))) ?_
           refine HdJ.step [13] (by kernel_rfl) rfl ?_
           refine HdStep.c (fun inv => ?_) ?_
           ·refine Lst.storeS (i := 0) rfl rfl rfl rfl rfl Try.sizeOf77 (vs := enc x218) rfl (Enc.len _) (by decide) (Enc.one _) (xs' := encs p227) (by rw [← h228]; exact (Put.elemN (s := 4) (x := x224) rfl g241.2.2 (Put.here ((Enc.len _).trans (Enc.len _).symm))).off (by omega)) (L' := (.own s_a0 77 4 (encs p227)) :: L) rfl ?_
            refine Lst.nil ?_
            refine At.hd inv (fun w h => (h.weaken (FLe.refl _)).sublist (sc1 (.refl _))) ?_
            refine HdJ.done (by kernel_rfl) ?_
            exact At.meetN p227 (FLe.refl _) ⟨rfl, rfl, rfl, rfl, rfl, rfl, rfl, rfl, trivial⟩ rfl h232
           exact trivial
          exact trivial
         exact trivial
        refine HdStep.c (fun inv => ?_) ?_
        ·refine Lst.r (Ev.loadSA (α := Wait) rfl (Rd.own (i := 0) rfl rfl rfl) Try.isAgg77 Try.sizeOf77 (ch := enc x221) (Enc.len _) (by decide) ((Get.elemN (s := 4) (x := x221) rfl g239.2.2 (Get.here _)).off (by omega))) ?_
         refine Lst.nil ?_
         refine At.hd inv (fun w h => (h.weaken (FLe.refl _)).sublist (sc1 (.refl _))) ?_
         refine HdJ.step [7] (by kernel_rfl) rfl ?_
         refine HdStep.c (fun inv => ?_) ?_
         ·refine Lst.r (Ev.loadSA (α := Wait) rfl (Rd.own (i := 0) rfl rfl rfl) Try.isAgg77 Try.sizeOf77 (ch := enc x218) (Enc.len _) (by decide) ((Get.elemN (s := 4) (x := x218) rfl g240.2.2 (Get.here _)).off (by omega))) ?_
          refine Lst.nil ?_
          refine At.hd inv (fun w h => (h.weaken (FLe.refl _)).sublist (sc1 (.refl _))) ?_
          refine HdJ.step [12] (by kernel_rfl) rfl ?_
          refine HdStep.c (fun inv => ?_) ?_
          ·have g242 := lat_some h225
           refine Lst.r (Ev.indexS (α := Wait) (xs := l144) rfl rfl Try.runUnderlying57 Try.sizeOf77 rfl (by decide) (Rd.own (i := 0) rfl rfl rfl) g242.1 g242.2.1) ?_
           refine Lst.nil ?_
           refine At.hd inv (fun w h => (h.weaken (FLe.refl _)).sublist (sc1 (.refl _))) ?_
           refine HdJ.step [13] (by kernel_rfl) rfl ?_
           refine HdStep.c (fun inv => ?_) ?_
           ·refine Lst.storeS (i := 0) rfl rfl rfl rfl rfl Try.sizeOf77 (vs := enc x218) rfl (Enc.len _) (by decide) (Enc.one _) (xs' := encs p227) (by rw [← h228]; exact (Put.elemN (s := 4) (x := x224) rfl g242.2.2 (Put.here ((Enc.len _).trans (Enc.len _).symm))).off (by omega)) (L' := (.own s_a0 77 4 (encs p227)) :: L) rfl ?_
            refine Lst.nil ?_
            refine At.hd inv (fun w h => (h.weaken (FLe.refl _)).sublist (sc1 (.refl _))) ?_
            refine HdJ.done (by kernel_rfl) ?_
            exact At.meetN p227 (FLe.refl _) ⟨rfl, rfl, rfl, rfl, rfl, rfl, rfl, rfl, trivial⟩ rfl h232
           exact trivial
          exact trivial
         exact trivial
        exact trivial
       refine HdStep.c (fun inv => ?_) ?_
       ·refine Lst.r (Ev.loadSA (α := Wait) rfl (Rd.own (i := 0) rfl rfl rfl) Try.isAgg77 Try.sizeOf77 (ch := enc x221) (Enc.len _) (by decide) ((Get.elemN (s := 4) (x := x221) rfl g239.2.2 (Get.here _)).off (by omega))) ?_
        refine Lst.nil ?_
        refine At.hd inv (fun w h => (h.weaken (FLe.refl _)).sublist (sc1 (.refl _))) ?_
        refine HdJ.step [6] (by kernel_rfl) rfl ?_
        refine HdStep.c (fun inv => ?_) ?_
        ·have g243 := lat_some h219
         refine Lst.r (Ev.indexS (α := Wait) (xs := l144) rfl rfl Try.runUnderlying57 Try.sizeOf77 rfl (by decide) (Rd.own (i := 0) rfl rfl rfl) g243.1 g243.2.1) ?_
         refine Lst.nil ?_
         refine At.hd inv (fun w h => (h.weaken (FLe.refl _)).sublist (sc1 (.refl _))) ?_
         refine HdJ.step [7] (by kernel_rfl) rfl ?_
         refine HdStep.c (fun inv => ?_) ?_
         ·refine Lst.r (Ev.loadSA (α := Wait) rfl (Rd.own (i := 0) rfl rfl rfl) Try.isAgg77 Try.sizeOf77 (ch := enc x218) (Enc.len _) (by decide) ((Get.elemN (s := 4) (x := x218) rfl g243.2.2 (Get.here _)).off (by omega))) ?_
          refine Lst.nil ?_
          refine At.hd inv (fun w h => (h.weaken (FLe.refl _)).sublist (sc1 (.refl _))) ?_
          refine HdJ.step [12] (by kernel_rfl) rfl ?_
          refine HdStep.c (fun inv => ?_) ?_
          ·have g244 := lat_some h225
           refine Lst.r (Ev.indexS (α := Wait) (xs := l144) rfl rfl Try.runUnderlying57 Try.sizeOf77 rfl (by decide) (Rd.own (i := 0) rfl rfl rfl) g244.1 g244.2.1) ?_
           refine Lst.nil ?_
           refine At.hd inv (fun w h => (h.weaken (FLe.refl _)).sublist (sc1 (.refl _))) ?_
           refine HdJ.step [13] (by kernel_rfl) rfl ?_
           refine HdStep.c (fun inv => ?_) ?_
           ·refine Lst.storeS (i := 0) rfl rfl rfl rfl rfl Try.sizeOf77 (vs := enc x218) rfl (Enc.len _) (by decide) (Enc.one _) (xs' := encs p227) (by rw [← h228]; exact (Put.elemN (s := 4) (x := x224) rfl g244.2.2 (Put.here ((Enc.len _).trans (Enc.len _).symm))).off (by omega)) (L' := (.own s_a0 77 4 (encs p227)) :: L) rfl ?_
            refine Lst.nil ?_
            refine At.hd inv (fun w h => (h.weaken (FLe.refl _)).sublist (sc1 (.refl _))) ?_
            refine HdJ.done (by kernel_rfl) ?_
            exact At.meetN p227 (FLe.refl _) ⟨rfl, rfl, rfl, rfl, rfl, rfl, rfl, rfl, trivial⟩ rfl h232
           exact trivial
          exact trivial
         exact trivial
        exact trivial
       exact trivial
      exact trivial
     rintro F245 l230 hF246 hy
     subst hy
     refine Lst.as (e' := [(0, Sl.v s_a0), (1, iv a1), (4, .func (.func 85) #[] #[]), (12, iv y148), (13, iv y166), (147, Sl.v s_a0), (148, iv y166), (156, .agg (enc x221).toArray)]) (L' := (.own s_a0 77 4 (encs l230)) :: L) ⟨rfl, rfl, rfl, rfl, rfl, rfl, rfl, rfl, trivial⟩ rfl ?_
     obtain ⟨x247, h248, H⟩ := bind_some H
     have g249 := lat_some h248
     refine Lst.r (Ev.indexS (α := Wait) (xs := l230) rfl rfl Try.runUnderlying57 Try.sizeOf77 rfl (by decide) (Rd.own (i := 0) rfl rfl rfl) g249.1 g249.2.1) ?_
     obtain ⟨p250, h251, H⟩ := Let_some H
     refine Lst.storeS (i := 0) rfl rfl rfl rfl rfl Try.sizeOf77 (vs := enc x221) rfl (Enc.len _) (by decide) (Enc.one _) (xs' := encs p250) (by rw [← h251]; exact (Put.elemN (s := 4) (x := x247) rfl g249.2.2 (Put.here ((Enc.len _).trans (Enc.len _).symm))).off (by omega)) (L' := (.own s_a0 77 4 (encs p250)) :: L) rfl ?_
     refine Lst.nil ?_
     refine At.then ?_
     refine Cd.seq ?_
     refine Cd.region ?_
     refine Lst.r (Ev.move rfl) ?_
     refine Lst.r (Ev.add rfl rfl) ?_
     refine Lst.r (Ev.assign rfl) ?_
     refine Lst.nil ?_
     refine At.then ?_
     refine Cd.region ?_
     refine Lst.r (Ev.move rfl) ?_
     refine Lst.r (Ev.sub rfl rfl) ?_
     refine Lst.r (Ev.assign rfl) ?_
     refine Lst.nil ?_
     refine At.in_normal ?_
     exact At.meet (k141, w64 (y148 + (1 : Int)), w64 (y166 - (1 : Int)), p250) (FLe.trans (FLe.trans (FLe.trans hF146 hF150) hF168) hF246) ⟨rfl, rfl, rfl, rfl, rfl, trivial⟩ rfl ⟨hgo141 _ (some_inj H).symm, Nat.lt_succ_self _⟩
    replace H := ite_t hb182 H
    refine Cd.condT rfl hb182 ?_
    refine Cd.skip ?_
    refine At.then ?_
    refine Cd.block ?_
    refine Cd.region ?_
    refine Lst.r (Ev.move rfl) ?_
    refine Lst.r (Ev.sub rfl rfl) ?_
    refine Lst.r (Ev.assign rfl) ?_
    refine Lst.nil ?_
    refine At.in_normal ?_
    exact At.meet (k165, w64 (y166 - (1 : Int))) hF168 ⟨rfl, rfl, rfl, rfl, rfl, trivial⟩ rfl ⟨hgo165 _ (some_inj H).symm, Nat.lt_succ_self _⟩
   replace H := ite_t hb164 H
   refine Cd.condT rfl hb164 ?_
   refine Cd.skip ?_
   refine At.then ?_
   refine Cd.block ?_
   refine Cd.region ?_
   refine Lst.r (Ev.move rfl) ?_
   refine Lst.r (Ev.add rfl rfl) ?_
   refine Lst.r (Ev.assign rfl) ?_
   refine Lst.nil ?_
   refine At.in_normal ?_
   exact At.meet (k147, w64 (y148 + (1 : Int))) hF150 ⟨rfl, rfl, rfl, rfl, rfl, trivial⟩ rfl ⟨hgo147 _ (some_inj H).symm, Nat.lt_succ_self _⟩
  replace H := ite_t hb71 H
  refine Cd.condT rfl hb71 ?_
  refine Cd.skip ?_
  refine At.then ?_
  refine Cd.block ?_
  refine Cd.region ?_
  refine Lst.r (Ev.move rfl) ?_
  refine Lst.r (Ev.sub rfl rfl) ?_
  refine Lst.r (Ev.assign rfl) ?_
  refine Lst.nil ?_
  refine At.in_normal ?_
  exact At.meet (k54, w64 (y55 - (1 : Int))) hF57 ⟨rfl, rfl, rfl, rfl, rfl, trivial⟩ rfl ⟨hgo54 _ (some_inj H).symm, Nat.lt_succ_self _⟩
 replace H := ite_t hb53 H
 refine Cd.condT rfl hb53 ?_
 refine Cd.skip ?_
 refine At.then ?_
 refine Cd.block ?_
 refine Cd.region ?_
 refine Lst.r (Ev.move rfl) ?_
 refine Lst.r (Ev.add rfl rfl) ?_
 refine Lst.r (Ev.assign rfl) ?_
 refine Lst.nil ?_
 refine At.in_normal ?_
 exact At.meet (k36, w64 (y37 + (1 : Int))) hF39 ⟨rfl, rfl, rfl, rfl, rfl, trivial⟩ rfl ⟨hgo36 _ (some_inj H).symm, Nat.lt_succ_self _⟩
set_option maxRecDepth 20000 in
theorem slices_pdqsortCmpFunc_api_Wait_Fix_3_simR : ∀ (fu : Nat) {a0 : List Wait} {a1 : Int} {a2 : Int} {a3 : Int} {s_a0 : Sl} {r : (List Wait)} (H : slices_pdqsortCmpFunc_api_Wait_Fix_3 fu a0 a1 a2 a3 = some r) (w0 : World) (F : Frz) (M L : List Item) (hM : M.Sublist L), Ok Try.prog w0 110 [Sl.v s_a0, iv a1, iv a2, iv a3, .func (.func 85) #[] #[]] F ((.own s_a0 77 4 (encs a0)) :: L) (fun _ L' v => v = .tuple #[] ∧ L' = (.own s_a0 77 4 (encs r)) :: L) := by
 intro fu
 induction fu with
 | zero => intro a0 a1 a2 a3 s_a0 r H; exact nomatch (show (none : Option (List Wait)) = some _ from H)
 | succ fu ih =>
  intro a0 a1 a2 a3 s_a0 r H w0 F M L hM
  replace H : slices_pdqsortCmpFunc_api_Wait_Fix_3_R fu (slices_pdqsortCmpFunc_api_Wait_Fix_3 fu) a0 a1 a2 a3 = some r := H
  generalize slices_pdqsortCmpFunc_api_Wait_Fix_3 fu = rc at H ih
  unfold slices_pdqsortCmpFunc_api_Wait_Fix_3_R at H
  refine Ok.enter (m := 5) (n := 148) Try.func110 rfl rfl rfl (by decide) ?_
  refine Cd.env (e' := [(0, Sl.v s_a0), (1, iv a1), (2, iv a2), (3, iv a3), (4, .func (.func 85) #[] #[])]) rfl ?_
  refine Cd.seq ?_
  refine Cd.region ?_
  refine Lst.r (Ev.assign rfl) ?_
  refine Lst.nil ?_
  refine At.then ?_
  refine Cd.seq ?_
  refine Cd.region ?_
  refine Lst.r (Ev.assign rfl) ?_
  refine Lst.nil ?_
  refine At.then ?_
  refine Cd.block ?_
  obtain ⟨ol2, H, HKl2⟩ := andThen_some H
  refine Cd.loop (σ := Nat × Int × Int × Int × Bool × Bool × (List Wait)) (fun (k2, y3, y4, y5, y6, y7, l8) => [(0, Sl.v s_a0), (1, iv y3), (2, iv y4), (3, iv y5), (4, .func (.func 85) #[] #[]), (10, .bool y6), (11, .bool y7)]) (fun (k2, y3, y4, y5, y6, y7, l8) => (.own s_a0 77 4 (encs l8)) :: L) (fun _ => (fun (k2, y3, y4, y5, y6, y7, l8) => whileM (slices_pdqsortCmpFunc_api_Wait_Fix_3_B0 fu rc) k2 (y3, y4, y5, y6, y7, l8) = some ol2)) (fun (k2, y3, y4, y5, y6, y7, l8) => k2) (fu, a1, a2, a3, true, true, a0) ⟨rfl, rfl, rfl, rfl, rfl, rfl, rfl, trivial⟩ rfl H ?_
  rintro F9 ⟨k2, y3, y4, y5, y6, y7, l8⟩ hF10 H
  refine Cd.as (e' := [(0, Sl.v s_a0), (1, iv y3), (2, iv y4), (3, iv y5), (4, .func (.func 85) #[] #[]), (10, .bool y6), (11, .bool y7)]) (L' := (.own s_a0 77 4 (encs l8)) :: L) ⟨rfl, rfl, rfl, rfl, rfl, rfl, rfl, trivial⟩ rfl ?_
  rcases k2 with _ | k2
  ·cases H
  obtain ⟨c2, H, hgo2, hbrk2, hret2⟩ := whileM_go H
  unfold slices_pdqsortCmpFunc_api_Wait_Fix_3_B0 at H
  try dsimp only at H
  refine Cd.block ?_
  refine Cd.seq ?_
  refine Cd.region ?_
  refine Lst.r (Ev.move rfl) ?_
  refine Lst.r (Ev.move rfl) ?_
  refine Lst.r (Ev.sub rfl rfl) ?_
  refine Lst.r (Ev.assign rfl) ?_
  refine Lst.nil ?_
  refine At.then ?_
  refine Cd.seq ?_
  refine Cd.seq ?_
  refine Cd.region ?_
  refine Lst.r (Ev.move rfl) ?_
  refine Lst.r (Ev.leq rfl rfl) ?_
  refine Lst.nil ?_
  refine At.then ?_
  rcases Bool.eq_false_or_eq_true (decide ((w64 (y4 - y3)) ≤ (12 : Int))) with hb11 | hb11
  ·replace H := ite_t hb11 H
   refine Cd.condT rfl hb11 ?_
   refine Cd.seq ?_
   refine Cd.region ?_
   refine Lst.r (Ev.move rfl) ?_
   refine Lst.r (Ev.move rfl) ?_
   refine Lst.r (Ev.move rfl) ?_
   refine Lst.r (Ev.move rfl) ?_
   obtain ⟨r12, h13, H⟩ := bind_some H
   refine Lst.call rfl rfl (by decide) (vs := [Sl.v s_a0, iv y3, iv y4, .func (.func 85) #[] #[]]) ⟨rfl, rfl, rfl, rfl, trivial⟩ Try.call126 (slices_insertionSortCmpFunc_api_Wait_Fix_3_sim h13 w0 _ M _ hM) (fun F14 L' v hF15 hv => ?_)
   obtain ⟨rfl, rfl⟩ := hv
   refine Lst.nil ?_
   refine At.then ?_
   have H := hret2 _ (some_inj H).symm
   subst H
   replace H := HKl2
   obtain rfl := some_inj H
   refine Cd.ret ?_
   refine At.then_ret ?_
   refine At.in_ret ?_
   refine At.then_ret ?_
   refine At.in_ret ?_
   exact At.ret0 (.inl rfl) rfl (FLe.trans hF10 hF15) (sk1 (.refl _)) ⟨rfl, rfl⟩
  replace H := ite_f hb11 H
  refine Cd.condF rfl hb11 ?_
  refine Cd.skip ?_
  refine At.then ?_
  refine Cd.seq ?_
  refine Cd.seq ?_
  refine Cd.region ?_
  refine Lst.r (Ev.move rfl) ?_
  refine Lst.r (Ev.eql rfl rfl) ?_
  refine Lst.nil ?_
  refine At.then ?_
  rcases Bool.eq_false_or_eq_true (y5 == (0 : Int)) with hb16 | hb16
  ·replace H := ite_t hb16 H
   refine Cd.condT rfl hb16 ?_
   refine Cd.seq ?_
   refine Cd.region ?_
   refine Lst.r (Ev.move rfl) ?_
   refine Lst.r (Ev.move rfl) ?_
   refine Lst.r (Ev.move rfl) ?_
   refine Lst.r (Ev.move rfl) ?_
   obtain ⟨r17, h18, H⟩ := bind_some H
   refine Lst.call rfl rfl (by decide) (vs := [Sl.v s_a0, iv y3, iv y4, .func (.func 85) #[] #[]]) ⟨rfl, rfl, rfl, rfl, trivial⟩ Try.call127 (slices_heapSortCmpFunc_api_Wait_Fix_3_sim h18 w0 _ M _ hM) (fun F19 L' v hF20 hv => ?_)
   obtain ⟨rfl, rfl⟩ := hv
   refine Lst.nil ?_
   refine At.then ?_
   have H := hret2 _ (some_inj H).symm
   subst H
   replace H := HKl2
   obtain rfl := some_inj H
   refine Cd.ret ?_
   refine At.then_ret ?_
   refine At.in_ret ?_
   refine At.then_ret ?_
   refine At.in_ret ?_
   exact At.ret0 (.inl rfl) rfl (FLe.trans hF10 hF20) (sk1 (.refl _)) ⟨rfl, rfl⟩
  replace H := ite_f hb16 H
  refine Cd.condF rfl hb16 ?_
  refine Cd.skip ?_
  refine At.then ?_
  obtain ⟨o23, H, HKo23⟩ := bind_some H
  refine Cd.join (σ := Int × (List Wait)) (fun (y21, l22) => [(0, Sl.v s_a0), (1, iv y3), (2, iv y4), (3, iv y21), (4, .func (.func 85) #[] #[]), (10, .bool y6), (11, .bool y7), (12, iv (w64 (y4 - y3)))]) (fun (y21, l22) => (.own s_a0 77 4 (encs l22)) :: L) (fun _ (y21, l22) => (y21, l22) = o23) ?_ ?_
  ·refine Cd.seq ?_
   refine Cd.region ?_
   refine Lst.r (Ev.move rfl) ?_
   refine Lst.r (Ev.not rfl) ?_
   refine Lst.nil ?_
   refine At.then ?_
   rcases (Bool.eq_false_or_eq_true (!y6)).symm with hb24 | hb24
   ·replace H := ite_f hb24 H
    refine Cd.condF rfl hb24 ?_
    refine Cd.skip ?_
    exact At.meet (y5, l8) (FLe.refl _) ⟨rfl, rfl, rfl, rfl, rfl, rfl, rfl, rfl, trivial⟩ rfl (some_inj H)
   replace H := ite_t hb24 H
   refine Cd.condT rfl hb24 ?_
   refine Cd.seq ?_
   refine Cd.region ?_
   refine Lst.r (Ev.move rfl) ?_
   refine Lst.r (Ev.move rfl) ?_
   refine Lst.r (Ev.move rfl) ?_
   refine Lst.r (Ev.move rfl) ?_
   obtain ⟨r25, h26, H⟩ := bind_some H
   refine Lst.call rfl rfl (by decide) (vs := [Sl.v s_a0, iv y3, iv y4, .func (.func 85) #[] #[]]) ⟨rfl, rfl, rfl, rfl, trivial⟩ Try.call128 (slices_breakPatternsCmpFunc_api_Wait_Fix_3_sim h26 w0 _ M _ hM) (fun F27 L' v hF28 hv => ?_)
   obtain ⟨rfl, rfl⟩ := hv
   refine Lst.nil ?_
   refine At.then ?_
   refine Cd.region ?_
   refine Lst.r (Ev.move rfl) ?_
   refine Lst.r (Ev.sub rfl rfl) ?_
   refine Lst.r (Ev.assign rfl) ?_
   refine Lst.nil ?_
   exact At.meet (w64 (y5 - (1 : Int)), r25) hF28 ⟨rfl, rfl, rfl, rfl, rfl, rfl, rfl, rfl, trivial⟩ rfl (some_inj H)
  rintro F29 ⟨y21, l22⟩ hF30 hy
  subst hy
  refine Cd.as (e' := [(0, Sl.v s_a0), (1, iv y3), (2, iv y4), (3, iv y21), (4, .func (.func 85) #[] #[]), (10, .bool y6), (11, .bool y7), (12, iv (w64 (y4 - y3)))]) (L' := (.own s_a0 77 4 (encs l22)) :: L) ⟨rfl, rfl, rfl, rfl, rfl, rfl, rfl, rfl, trivial⟩ rfl ?_
  replace H := HKo23
  refine Cd.seq ?_
  refine Cd.region ?_
  refine Lst.r (Ev.move rfl) ?_
  refine Lst.r (Ev.move rfl) ?_
  refine Lst.r (Ev.move rfl) ?_
  refine Lst.r (Ev.move rfl) ?_
  obtain ⟨r31, h32, H⟩ := bind_some H
  refine Lst.call1 rfl rfl (by decide) (vs := [Sl.v s_a0, iv y3, iv y4, .func (.func 85) #[] #[]]) ⟨rfl, rfl, rfl, rfl, trivial⟩ Try.call129 (slices_choosePivotCmpFunc_api_Wait_Fix_3_sim h32 w0 _ _ _ (.refl _) (Rd.own (i := 0) rfl rfl rfl)) ?_
  refine Lst.r (Ev.move rfl) ?_
  refine Lst.r (Ev.extract rfl rfl) ?_
  refine Lst.r (Ev.extract rfl rfl) ?_
  refine Lst.r (Ev.assign rfl) ?_
  refine Lst.r (Ev.assign rfl) ?_
  refine Lst.nil ?_
  refine At.then ?_
  obtain ⟨o38, H, HKo38⟩ := bind_some H
  refine Cd.join (σ := Int × Int × (List Wait)) (fun (y35, y36, l37) => [(0, Sl.v s_a0), (1, iv y3), (2, iv y4), (3, iv y21), (4, .func (.func 85) #[] #[]), (10, .bool y6), (11, .bool y7), (12, iv (w64 (y4 - y3))), (13, iv y35), (14, iv y36)]) (fun (y35, y36, l37) => (.own s_a0 77 4 (encs l37)) :: L) (fun _ (y35, y36, l37) => (y35, y36, l37) = o38) ?_ ?_
  ·refine Cd.seq ?_
   refine Cd.region ?_
   refine Lst.r (Ev.move rfl) ?_
   refine Lst.r (Ev.eql rfl rfl) ?_
   refine Lst.nil ?_
   refine At.then ?_
   rcases (Bool.eq_false_or_eq_true (r31.2 == (2 : Int))).symm with hb39 | hb39
   ·replace H := ite_f hb39 H
    refine Cd.condF rfl hb39 ?_
    refine Cd.skip ?_
    exact At.meet (r31.1, r31.2, l22) (FLe.refl _) ⟨rfl, rfl, rfl, rfl, rfl, rfl, rfl, rfl, rfl, rfl, trivial⟩ rfl (some_inj H)
   replace H := ite_t hb39 H
   refine Cd.condT rfl hb39 ?_
   refine Cd.seq ?_
   refine Cd.region ?_
   refine Lst.r (Ev.move rfl) ?_
   refine Lst.r (Ev.move rfl) ?_
   refine Lst.r (Ev.move rfl) ?_
   refine Lst.r (Ev.move rfl) ?_
   obtain ⟨r40, h41, H⟩ := bind_some H
   refine Lst.call rfl rfl (by decide) (vs := [Sl.v s_a0, iv y3, iv y4, .func (.func 85) #[] #[]]) ⟨rfl, rfl, rfl, rfl, trivial⟩ Try.call130 (slices_reverseRangeCmpFunc_api_Wait_Fix_3_sim h41 w0 _ M _ hM) (fun F42 L' v hF43 hv => ?_)
   obtain ⟨rfl, rfl⟩ := hv
   refine Lst.nil ?_
   refine At.then ?_
   refine Cd.seq ?_
   refine Cd.as (e' := [(0, Sl.v s_a0), (1, iv y3), (2, iv y4), (3, iv y21), (4, .func (.func 85) #[] #[]), (10, .bool y6), (11, .bool y7), (12, iv (w64 (y4 - y3))), (13, iv r31.1)]) (L' := (.own s_a0 77 4 (encs r40)) :: L) ⟨rfl, rfl, rfl, rfl, rfl, rfl, rfl, rfl, rfl, trivial⟩ rfl ?_
   refine Cd.region ?_
   refine Lst.r (Ev.move rfl) ?_
   refine Lst.r (Ev.sub rfl rfl) ?_
   refine Lst.r (Ev.move rfl) ?_
   refine Lst.r (Ev.move rfl) ?_
   refine Lst.r (Ev.sub rfl rfl) ?_
   refine Lst.r (Ev.sub rfl rfl) ?_
   refine Lst.r (Ev.assign rfl) ?_
   refine Lst.nil ?_
   refine At.then ?_
   refine Cd.region ?_
   refine Lst.r (Ev.assign rfl) ?_
   refine Lst.nil ?_
   exact At.meet (w64 ((w64 (y4 - (1 : Int))) - (w64 (r31.1 - y3))), (1 : Int), r40) hF43 ⟨rfl, rfl, rfl, rfl, rfl, rfl, rfl, rfl, rfl, rfl, trivial⟩ rfl (some_inj H)
  rintro F44 ⟨y35, y36, l37⟩ hF45 hy
  subst hy
  refine Cd.as (e' := [(0, Sl.v s_a0), (1, iv y3), (2, iv y4), (3, iv y21), (4, .func (.func 85) #[] #[]), (10, .bool y6), (11, .bool y7), (12, iv (w64 (y4 - y3))), (13, iv y35), (14, iv y36)]) (L' := (.own s_a0 77 4 (encs l37)) :: L) ⟨rfl, rfl, rfl, rfl, rfl, rfl, rfl, rfl, rfl, rfl, trivial⟩ rfl ?_
  replace H := HKo38
  obtain ⟨o47, H, HKo47⟩ := andThen_some H
  refine Cd.join (σ := (List Wait)) (fun l46 => [(0, Sl.v s_a0), (1, iv y3), (2, iv y4), (3, iv y21), (4, .func (.func 85) #[] #[]), (10, .bool y6), (11, .bool y7), (12, iv (w64 (y4 - y3))), (13, iv y35)]) (fun l46 => (.own s_a0 77 4 (encs l46)) :: L) (fun _ l46 => .inl l46 = o47) ?_ ?_
  ·refine Cd.seq ?_
   refine Cd.region ?_
   refine Lst.r (Ev.move rfl) ?_
   refine Lst.r (Ev.move rfl) ?_
   obtain ⟨o48, H, HKo48⟩ := bind_some H
   refine Lst.join (σ := Bool) 2 (fun y49 => [(0, Sl.v s_a0), (1, iv y3), (2, iv y4), (3, iv y21), (4, .func (.func 85) #[] #[]), (10, .bool y6), (11, .bool y7), (12, iv (w64 (y4 - y3))), (13, iv y35), (14, iv y36), (71, .bool y49)]) (fun y49 => (.own s_a0 77 4 (encs l37)) :: L) (fun _ y49 => y49 = o48) ?_ ?_
   ·rcases (Bool.eq_false_or_eq_true y6).symm with hb50 | hb50
    ·replace H := ite_f hb50 H
     refine Lst.skip rfl rfl rfl hb50 rfl (by decide) ?_
     refine Lst.r (Ev.pickF rfl hb50 rfl) ?_
     refine Lst.nil ?_
     exact At.meet false (FLe.refl _) ⟨rfl, rfl, rfl, rfl, rfl, rfl, rfl, rfl, rfl, rfl, rfl, trivial⟩ rfl (some_inj H)
    replace H := ite_t hb50 H
    refine Lst.rG hb50 (Ev.move rfl) ?_
    refine Lst.r (Ev.pickT rfl hb50 rfl) ?_
    refine Lst.nil ?_
    exact At.meet y7 (FLe.refl _) ⟨rfl, rfl, rfl, rfl, rfl, rfl, rfl, rfl, rfl, rfl, rfl, trivial⟩ rfl (some_inj H)
   rintro F51 y49 hF52 hy
   subst hy
   refine Lst.as (e' := [(0, Sl.v s_a0), (1, iv y3), (2, iv y4), (3, iv y21), (4, .func (.func 85) #[] #[]), (10, .bool y6), (11, .bool y7), (12, iv (w64 (y4 - y3))), (13, iv y35), (14, iv y36), (71, .bool y49)]) (L' := (.own s_a0 77 4 (encs l37)) :: L) ⟨rfl, rfl, rfl, rfl, rfl, rfl, rfl, rfl, rfl, rfl, rfl, trivial⟩ rfl ?_
   replace H := HKo48
   refine Lst.r (Ev.move rfl) ?_
   obtain ⟨o53, H, HKo53⟩ := bind_some H
   refine Lst.join (σ := Bool) 3 (fun y54 => [(0, Sl.v s_a0), (1, iv y3), (2, iv y4), (3, iv y21), (4, .func (.func 85) #[] #[]), (10, .bool y6), (11, .bool y7), (12, iv (w64 (y4 - y3))), (13, iv y35), (75, .bool y54)]) (fun y54 => (.own s_a0 77 4 (encs l37)) :: L) (fun _ y54 => y54 = o53) ?_ ?_
   ·rcases (Bool.eq_false_or_eq_true y49).symm with hb55 | hb55
    ·replace H := ite_f hb55 H
     refine Lst.skip rfl rfl rfl hb55 rfl (by decide) ?_
     refine Lst.skip rfl rfl rfl hb55 rfl (by decide) ?_
     refine Lst.r (Ev.pickF rfl hb55 rfl) ?_
     refine Lst.nil ?_
     exact At.meet false (FLe.refl _) ⟨rfl, rfl, rfl, rfl, rfl, rfl, rfl, rfl, rfl, rfl, trivial⟩ rfl (some_inj H)
    replace H := ite_t hb55 H
    refine Lst.rG hb55 (Ev.move rfl) ?_
    refine Lst.rG hb55 (Ev.eql rfl rfl) ?_
    refine Lst.r (Ev.pickT rfl hb55 rfl) ?_
    refine Lst.nil ?_
    exact At.meet (y36 == (1 : Int)) (FLe.refl _) ⟨rfl, rfl, rfl, rfl, rfl, rfl, rfl, rfl, rfl, rfl, trivial⟩ rfl (some_inj H)
   rintro F56 y54 hF57 hy
   subst hy
   refine Lst.as (e' := [(0, Sl.v s_a0), (1, iv y3), (2, iv y4), (3, iv y21), (4, .func (.func 85) #[] #[]), (10, .bool y6), (11, .bool y7), (12, iv (w64 (y4 - y3))), (13, iv y35), (75, .bool y54)]) (L' := (.own s_a0 77 4 (encs l37)) :: L) ⟨rfl, rfl, rfl, rfl, rfl, rfl, rfl, rfl, rfl, rfl, trivial⟩ rfl ?_
   replace H := HKo53
   refine Lst.nil ?_
   refine At.then ?_
   rcases (Bool.eq_false_or_eq_true y54).symm with hb58 | hb58
   ·replace H := ite_f hb58 H
    refine Cd.condF rfl hb58 ?_
    refine Cd.skip ?_
    exact At.meet l37 (FLe.trans hF52 hF57) ⟨rfl, rfl, rfl, rfl, rfl, rfl, rfl, rfl, rfl, trivial⟩ rfl (some_inj H)
   replace H := ite_t hb58 H
   refine Cd.condT rfl hb58 ?_
   refine Cd.seq ?_
   refine Cd.region ?_
   refine Lst.r (Ev.move rfl) ?_
   refine Lst.r (Ev.move rfl) ?_
   refine Lst.r (Ev.move rfl) ?_
   refine Lst.r (Ev.move rfl) ?_
   obtain ⟨r59, h60, H⟩ := bind_some H
   refine Lst.call rfl rfl (by decide) (vs := [Sl.v s_a0, iv y3, iv y4, .func (.func 85) #[] #[]]) ⟨rfl, rfl, rfl, rfl, trivial⟩ Try.call131 (slices_partialInsertionSortCmpFunc_api_Wait_Fix_3_sim h60 w0 _ M _ hM) (fun F61 L' v hF62 hv => ?_)
   obtain ⟨rfl, rfl⟩ := hv
   refine Lst.nil ?_
   refine At.then ?_
   rcases Bool.eq_false_or_eq_true r59.2 with hb63 | hb63
   ·replace H := ite_t hb63 H
    refine Cd.condT rfl hb63 ?_
    obtain rfl := some_inj H
    replace H := HKo47
    have H := hret2 _ (some_inj H).symm
    subst H
    replace H := HKl2
    obtain rfl := some_inj H
    refine Cd.ret ?_
    refine At.then_ret ?_
    refine At.in_ret ?_
    refine At.then_ret ?_
    refine At.in_ret ?_
    exact At.ret0 (.inl rfl) rfl (FLe.trans (FLe.trans (FLe.trans (FLe.trans (FLe.trans hF10 hF30) hF45) hF52) hF57) hF62) (sk1 (.refl _)) ⟨rfl, rfl⟩
   replace H := ite_f hb63 H
   refine Cd.condF rfl hb63 ?_
   refine Cd.skip ?_
   exact At.meet r59.1 (FLe.trans (FLe.trans hF52 hF57) hF62) ⟨rfl, rfl, rfl, rfl, rfl, rfl, rfl, rfl, rfl, trivial⟩ rfl (some_inj H)
  rintro F64 l46 hF65 hy
  subst hy
  refine Cd.as (e' := [(0, Sl.v s_a0), (1, iv y3), (2, iv y4), (3, iv y21), (4, .func (.func 85) #[] #[]), (10, .bool y6), (11, .bool y7), (12, iv (w64 (y4 - y3))), (13, iv y35)]) (L' := (.own s_a0 77 4 (encs l46)) :: L) ⟨rfl, rfl, rfl, rfl, rfl, rfl, rfl, rfl, rfl, trivial⟩ rfl ?_
  replace H := HKo47
  refine Cd.seq ?_
  refine Cd.seq ?_
  refine Cd.quiet (by kernel_rfl) (by kernel_rfl) ?_
  refine Qt.r (Ev.move rfl) ?_
  refine Qt.r (Ev.gtr rfl rfl) ?_
  refine Qt.r (Ev.move rfl) ?_
  obtain ⟨o66, H, HKo66⟩ := bind_some H
  refine Qt.join (σ := Bool) 14 (fun y67 => [(0, Sl.v s_a0), (1, iv y3), (2, iv y4), (3, iv y21), (4, .func (.func 85) #[] #[]), (10, .bool y6), (11, .bool y7), (12, iv (w64 (y4 - y3))), (13, iv y35), (97, .bool y67)]) (fun y67 => y67 = o66) ?_ ?_
  ·rcases (Bool.eq_false_or_eq_true (decide (y3 > (0 : Int)))).symm with hb68 | hb68
   ·replace H := ite_f hb68 H
    refine Qt.skip rfl rfl rfl hb68 rfl (by decide) ?_
    refine Qt.skip rfl rfl rfl hb68 rfl (by decide) ?_
    refine Qt.skip rfl rfl rfl hb68 rfl (by decide) ?_
    refine Qt.skip rfl rfl rfl hb68 rfl (by decide) ?_
    refine Qt.skip rfl rfl rfl hb68 rfl (by decide) ?_
    refine Qt.skip rfl rfl rfl hb68 rfl (by decide) ?_
    refine Qt.skip rfl rfl rfl hb68 rfl (by decide) ?_
    refine Qt.skip rfl rfl rfl hb68 rfl (by decide) ?_
    refine Qt.skip rfl rfl rfl hb68 rfl (by decide) ?_
    refine Qt.skip rfl rfl rfl hb68 rfl (by decide) ?_
    refine Qt.skip rfl rfl rfl hb68 rfl (by decide) ?_
    refine Qt.skip rfl rfl rfl hb68 rfl (by decide) ?_
    refine Qt.skip rfl rfl rfl hb68 rfl (by decide) ?_
    refine Qt.r (Ev.pickF rfl hb68 rfl) ?_
    exact Qt.meet false ⟨rfl, rfl, rfl, rfl, rfl, rfl, rfl, rfl, rfl, rfl, trivial⟩ (some_inj H)
   replace H := ite_t hb68 H
   refine Qt.rG hb68 (Ev.move rfl) ?_
   refine Qt.rG hb68 (Ev.move rfl) ?_
   refine Qt.rG hb68 (Ev.move rfl) ?_
   refine Qt.rG hb68 (Ev.sub rfl rfl) ?_
   obtain ⟨x69, h70, H⟩ := bind_some H
   have g71 := lat_some h70
   refine Qt.rG hb68 (Ev.indexS (α := Wait) (xs := l46) rfl rfl Try.runUnderlying57 Try.sizeOf77 rfl (by decide) (Rd.own (i := 0) rfl rfl rfl) g71.1 g71.2.1) ?_
   refine Qt.rG hb68 (Ev.loadSA (α := Wait) rfl (Rd.own (i := 0) rfl rfl rfl) Try.isAgg77 Try.sizeOf77 (ch := enc x69) (Enc.len _) (by decide) ((Get.elemN (s := 4) (x := x69) rfl g71.2.2 (Get.here _)).off (by omega))) ?_
   refine Qt.rG hb68 (Ev.move rfl) ?_
   refine Qt.rG hb68 (Ev.move rfl) ?_
   obtain ⟨x72, h73, H⟩ := bind_some H
   have g74 := lat_some h73
   refine Qt.rG hb68 (Ev.indexS (α := Wait) (xs := l46) rfl rfl Try.runUnderlying57 Try.sizeOf77 rfl (by decide) (Rd.own (i := 0) rfl rfl rfl) g74.1 g74.2.1) ?_
   refine Qt.rG hb68 (Ev.loadSA (α := Wait) rfl (Rd.own (i := 0) rfl rfl rfl) Try.isAgg77 Try.sizeOf77 (ch := enc x72) (Enc.len _) (by decide) ((Get.elemN (s := 4) (x := x72) rfl g74.2.2 (Get.here _)).off (by omega))) ?_
   obtain ⟨r75, h76, H⟩ := bind_some H
   refine Qt.callVG rfl rfl rfl hb68 rfl (by decide) (vs := [.agg (enc x69).toArray, .agg (enc x72).toArray]) (cs := []) rfl ⟨rfl, rfl, trivial⟩ Try.call85 (skeen_Fix_3_sim h76 w0 _ M _ (sc1 hM)) ?_
   refine Qt.rG hb68 (Ev.lss rfl rfl) ?_
   refine Qt.rG hb68 (Ev.not rfl) ?_
   refine Qt.r (Ev.pickT rfl hb68 rfl) ?_
   exact Qt.meet (!(decide (r75 < (0 : Int)))) ⟨rfl, rfl, rfl, rfl, rfl, rfl, rfl, rfl, rfl, rfl, trivial⟩ (some_inj H)
  rintro y67 hy
  subst hy
  refine Qt.as (e' := [(0, Sl.v s_a0), (1, iv y3), (2, iv y4), (3, iv y21), (4, .func (.func 85) #[] #[]), (10, .bool y6), (11, .bool y7), (12, iv (w64 (y4 - y3))), (13, iv y35), (97, .bool y67)]) ⟨rfl, rfl, rfl, rfl, rfl, rfl, rfl, rfl, rfl, rfl, trivial⟩ ?_
  replace H := HKo66
  refine Qt.done ?_
  refine At.then ?_
  rcases Bool.eq_false_or_eq_true y67 with hb79 | hb79
  ·replace H := ite_t hb79 H
   refine Cd.condT rfl hb79 ?_
   refine Cd.seq ?_
   refine Cd.region ?_
   refine Lst.r (Ev.move rfl) ?_
   refine Lst.r (Ev.move rfl) ?_
   refine Lst.r (Ev.move rfl) ?_
   refine Lst.r (Ev.move rfl) ?_
   refine Lst.r (Ev.move rfl) ?_
   obtain ⟨r80, h81, H⟩ := bind_some H
   refine Lst.call rfl rfl (by decide) (vs := [Sl.v s_a0, iv y3, iv y4, iv y35, .func (.func 85) #[] #[]]) ⟨rfl, rfl, rfl, rfl, rfl, trivial⟩ Try.call132 (slices_partitionEqualCmpFunc_api_Wait_Fix_3_sim h81 w0 _ M _ hM) (fun F82 L' v hF83 hv => ?_)
   obtain ⟨rfl, rfl⟩ := hv
   refine Lst.r (Ev.assign rfl) ?_
   refine Lst.nil ?_
   refine At.then ?_
   refine Cd.seq ?_
   refine Cd.region ?_
   refine Lst.r (Ev.move rfl) ?_
   refine Lst.r (Ev.assign rfl) ?_
   refine Lst.nil ?_
   refine At.then ?_
   refine Cd.exit ?_
   refine At.then_exit ?_
   refine At.in_exit ?_
   exact At.meet (k2, r80.2, y4, y21, y6, y7, r80.1) (FLe.trans (FLe.trans (FLe.trans (FLe.trans hF10 hF30) hF45) hF65) hF83) ⟨rfl, rfl, rfl, rfl, rfl, rfl, rfl, trivial⟩ rfl ⟨hgo2 _ (some_inj H).symm, Nat.lt_succ_self _⟩
  replace H := ite_f hb79 H
  refine Cd.condF rfl hb79 ?_
  refine Cd.skip ?_
  refine At.then ?_
  refine Cd.seq ?_
  refine Cd.region ?_
  refine Lst.r (Ev.move rfl) ?_
  refine Lst.r (Ev.move rfl) ?_
  refine Lst.r (Ev.move rfl) ?_
  refine Lst.r (Ev.move rfl) ?_
  refine Lst.r (Ev.move rfl) ?_
  obtain ⟨r84, h85, H⟩ := bind_some H
  refine Lst.call rfl rfl (by decide) (vs := [Sl.v s_a0, iv y3, iv y4, iv y35, .func (.func 85) #[] #[]]) ⟨rfl, rfl, rfl, rfl, rfl, trivial⟩ Try.call133 (slices_partitionCmpFunc_api_Wait_Fix_3_sim h85 w0 _ M _ hM) (fun F86 L' v hF87 hv => ?_)
  obtain ⟨rfl, rfl⟩ := hv
  refine Lst.r (Ev.move rfl) ?_
  refine Lst.r (Ev.extract rfl rfl) ?_
  refine Lst.r (Ev.extract rfl rfl) ?_
  refine Lst.r (Ev.assign rfl) ?_
  refine Lst.r (Ev.assign rfl) ?_
  refine Lst.nil ?_
  refine At.then ?_
  refine Cd.seq ?_
  refine Cd.region ?_
  refine Lst.r (Ev.move rfl) ?_
  refine Lst.r (Ev.assign rfl) ?_
  refine Lst.nil ?_
  refine At.then ?_
  refine Cd.seq ?_
  refine Cd.as (e' := [(0, Sl.v s_a0), (1, iv y3), (2, iv y4), (3, iv y21), (4, .func (.func 85) #[] #[]), (11, .bool r84.2.2), (12, iv (w64 (y4 - y3))), (16, iv r84.2.1)]) (L' := (.own s_a0 77 4 (encs r84.1)) :: L) ⟨rfl, rfl, rfl, rfl, rfl, rfl, rfl, rfl, trivial⟩ rfl ?_
  refine Cd.region ?_
  refine Lst.r (Ev.move rfl) ?_
  refine Lst.r (Ev.move rfl) ?_
  refine Lst.r (Ev.sub rfl rfl) ?_
  refine Lst.r (Ev.move rfl) ?_
  refine Lst.r (Ev.move rfl) ?_
  refine Lst.r (Ev.sub rfl rfl) ?_
  refine Lst.r (Ev.assign rfl) ?_
  refine Lst.r (Ev.assign rfl) ?_
  refine Lst.nil ?_
  refine At.then ?_
  refine Cd.seq ?_
  refine Cd.region ?_
  refine Lst.r (Ev.move rfl) ?_
  refine Lst.r (Ev.quo (i := w64 (y4 - y3)) (j := (8 : Int)) rfl rfl (by decide)) ?_
  refine Lst.r (Ev.assign rfl) ?_
  refine Lst.nil ?_
  refine At.then ?_
  refine Cd.seq ?_
  refine Cd.region ?_
  refine Lst.r (Ev.move rfl) ?_
  refine Lst.r (Ev.move rfl) ?_
  refine Lst.r (Ev.lss rfl rfl) ?_
  refine Lst.nil ?_
  refine At.then ?_
  rcases (Bool.eq_false_or_eq_true (decide ((w64 (r84.2.1 - y3)) < (w64 (y4 - r84.2.1))))).symm with hb88 | hb88
  ·replace H := ite_f hb88 H
   refine Cd.condF rfl hb88 ?_
   refine Cd.seq ?_
   refine Cd.region ?_
   refine Lst.r (Ev.move rfl) ?_
   refine Lst.r (Ev.move rfl) ?_
   refine Lst.r (Ev.geq rfl rfl) ?_
   refine Lst.r (Ev.assign rfl) ?_
   refine Lst.nil ?_
   refine At.then ?_
   refine Cd.seq ?_
   refine Cd.as (e' := [(0, Sl.v s_a0), (1, iv y3), (2, iv y4), (3, iv y21), (4, .func (.func 85) #[] #[]), (11, .bool r84.2.2), (16, iv r84.2.1), (10, .bool (decide ((w64 (y4 - r84.2.1)) ≥ (w64 ((w64 (y4 - y3)).tdiv (8 : Int))))))]) (L' := (.own s_a0 77 4 (encs r84.1)) :: L) ⟨rfl, rfl, rfl, rfl, rfl, rfl, rfl, rfl, trivial⟩ rfl ?_
   refine Cd.region ?_
   refine Lst.r (Ev.move rfl) ?_
   refine Lst.r (Ev.move rfl) ?_
   refine Lst.r (Ev.add rfl rfl) ?_
   refine Lst.r (Ev.move rfl) ?_
   refine Lst.r (Ev.move rfl) ?_
   refine Lst.r (Ev.move rfl) ?_
   obtain ⟨r89, h90, H⟩ := bind_some H
   refine Lst.call rfl rfl (by decide) (vs := [Sl.v s_a0, iv (w64 (r84.2.1 + (1 : Int))), iv y4, iv y21, .func (.func 85) #[] #[]]) ⟨rfl, rfl, rfl, rfl, rfl, trivial⟩ Try.call110 (ih h90 w0 _ M _ hM) (fun F91 L' v hF92 hv => ?_)
   obtain ⟨rfl, rfl⟩ := hv
   refine Lst.nil ?_
   refine At.then ?_
   refine Cd.region ?_
   refine Lst.r (Ev.move rfl) ?_
   refine Lst.r (Ev.assign rfl) ?_
   refine Lst.nil ?_
   refine At.in_normal ?_
   exact At.meet (k2, y3, r84.2.1, y21, decide ((w64 (y4 - r84.2.1)) ≥ (w64 ((w64 (y4 - y3)).tdiv (8 : Int)))), r84.2.2, r89) (FLe.trans (FLe.trans (FLe.trans (FLe.trans (FLe.trans hF10 hF30) hF45) hF65) hF87) hF92) ⟨rfl, rfl, rfl, rfl, rfl, rfl, rfl, trivial⟩ rfl ⟨hgo2 _ (some_inj H).symm, Nat.lt_succ_self _⟩
  replace H := ite_t hb88 H
  refine Cd.condT rfl hb88 ?_
  refine Cd.seq ?_
  refine Cd.region ?_
  refine Lst.r (Ev.move rfl) ?_
  refine Lst.r (Ev.move rfl) ?_
  refine Lst.r (Ev.geq rfl rfl) ?_
  refine Lst.r (Ev.assign rfl) ?_
  refine Lst.nil ?_
  refine At.then ?_
  refine Cd.seq ?_
  refine Cd.as (e' := [(0, Sl.v s_a0), (1, iv y3), (2, iv y4), (3, iv y21), (4, .func (.func 85) #[] #[]), (11, .bool r84.2.2), (16, iv r84.2.1), (10, .bool (decide ((w64 (r84.2.1 - y3)) ≥ (w64 ((w64 (y4 - y3)).tdiv (8 : Int))))))]) (L' := (.own s_a0 77 4 (encs r84.1)) :: L) ⟨rfl, rfl, rfl, rfl, rfl, rfl, rfl, rfl, trivial⟩ rfl ?_
  refine Cd.region ?_
  refine Lst.r (Ev.move rfl) ?_
  refine Lst.r (Ev.move rfl) ?_
  refine Lst.r (Ev.move rfl) ?_
  refine Lst.r (Ev.move rfl) ?_
  refine Lst.r (Ev.move rfl) ?_
  obtain ⟨r93, h94, H⟩ := bind_some H
  refine Lst.call rfl rfl (by decide) (vs := [Sl.v s_a0, iv y3, iv r84.2.1, iv y21, .func (.func 85) #[] #[]]) ⟨rfl, rfl, rfl, rfl, rfl, trivial⟩ Try.call110 (ih h94 w0 _ M _ hM) (fun F95 L' v hF96 hv => ?_)
  obtain ⟨rfl, rfl⟩ := hv
  refine Lst.nil ?_
  refine At.then ?_
  refine Cd.region ?_
  refine Lst.r (Ev.move rfl) ?_
  refine Lst.r (Ev.add rfl rfl) ?_
  refine Lst.r (Ev.assign rfl) ?_
  refine Lst.nil ?_
  refine At.in_normal ?_
  exact At.meet (k2, w64 (r84.2.1 + (1 : Int)), y4, y21, decide ((w64 (r84.2.1 - y3)) ≥ (w64 ((w64 (y4 - y3)).tdiv (8 : Int)))), r84.2.2, r93) (FLe.trans (FLe.trans (FLe.trans (FLe.trans (FLe.trans hF10 hF30) hF45) hF65) hF87) hF96) ⟨rfl, rfl, rfl, rfl, rfl, rfl, rfl, trivial⟩ rfl ⟨hgo2 _ (some_inj H).symm, Nat.lt_succ_self _⟩
theorem slices_pdqsortCmpFunc_api_Wait_Fix_3_sim {fu : Nat} {a0 : List Wait} {a1 : Int} {a2 : Int} {a3 : Int} {s_a0 : Sl} {r : (List Wait)} (H : slices_pdqsortCmpFunc_api_Wait_Fix_3 fu a0 a1 a2 a3 = some r) (w0 : World) (F : Frz) (M L : List Item) (hM : M.Sublist L) : Ok Try.prog w0 110 [Sl.v s_a0, iv a1, iv a2, iv a3, .func (.func 85) #[] #[]] F ((.own s_a0 77 4 (encs a0)) :: L) (fun _ L' v => v = .tuple #[] ∧ L' = (.own s_a0 77 4 (encs r)) :: L) :=
  slices_pdqsortCmpFunc_api_Wait_Fix_3_simR fu H w0 F M L hM
set_option maxRecDepth 20000 in
theorem slices_SortFunc_api_Wait_api_Wait_Fix_3_sim {fu : Nat} {a0 : List Wait} {s_a0 : Sl} {r : (List Wait)} (H : slices_SortFunc_api_Wait_api_Wait_Fix_3 fu a0 = some r) (w0 : World) (F : Frz) (M L : List Item) (hM : M.Sublist L) : Ok Try.prog w0 84 [Sl.v s_a0, .func (.func 85) #[] #[]] F ((.own s_a0 77 4 (encs a0)) :: L) (fun _ L' v => v = .tuple #[] ∧ L' = (.own s_a0 77 4 (encs r)) :: L) := by
 unfold slices_SortFunc_api_Wait_api_Wait_Fix_3 at H
 refine Ok.enter (m := 2) (n := 14) Try.func84 rfl rfl rfl (by decide) ?_
 refine Cd.env (e' := [(0, Sl.v s_a0), (1, .func (.func 85) #[] #[])]) rfl ?_
 refine Cd.seq ?_
 refine Cd.region ?_
 refine Lst.r (Ev.move rfl) ?_
 refine Lst.r (Ev.lenS (α := Wait) (xs := a0) (by decide) rfl rfl Try.runUnderlying57 (Rd.own (i := 0) rfl rfl rfl)) ?_
 refine Lst.r (Ev.assign rfl) ?_
 refine Lst.nil ?_
 refine At.then ?_
 refine Cd.region ?_
 refine Lst.r (Ev.move rfl) ?_
 refine Lst.r (Ev.move rfl) ?_
 refine Lst.r (Ev.move rfl) ?_
 refine Lst.r (Ev.convTo64 rfl Try.runUnderlying3 Try.runUnderlying131) ?_
 obtain ⟨r2, h3, H⟩ := bind_some H
 refine Lst.call1 rfl rfl (by decide) (vs := [.int .u64 (BitVec.ofInt 64 (a0.length : Int)).toNat]) ⟨rfl, trivial⟩ Try.call106 (math_bits_Len_sim h3 w0 _ M _ (sc1 hM)) ?_
 refine Lst.r (Ev.move rfl) ?_
 obtain ⟨r6, h7, H⟩ := bind_some H
 refine Lst.call rfl rfl (by decide) (vs := [Sl.v s_a0, iv (0 : Int), iv (a0.length : Int), iv r2, .func (.func 85) #[] #[]]) ⟨rfl, rfl, rfl, rfl, rfl, trivial⟩ Try.call110 (slices_pdqsortCmpFunc_api_Wait_Fix_3_sim h7 w0 _ M _ hM) (fun F8 L' v hF9 hv => ?_)
 obtain ⟨rfl, rfl⟩ := hv
 refine Lst.nil ?_
 obtain rfl := some_inj H
 exact At.ret0 (.inr rfl) rfl hF9 (sk1 (.refl _)) ⟨rfl, rfl⟩
set_option maxRecDepth 20000 in
theorem skeen_Fix_sim {fu : Nat} {a0 : Skeen} {a1 : Int} {a2 : Num} {s_a0_2 : Sl} {r : Skeen × (List Int) × Int} (H : skeen_Fix fu a0 a1 a2 = some r) (w0 : World) (F : Frz) (M L : List Item) (hM : M.Sublist L) (hs_a0_2 : Rd w0 F M s_a0_2 a0.Wait) : Ok Try.prog w0 32 [.agg (enc (SkeenR.mk a0 s_a0_2)).toArray, iv a1, .agg (enc a2).toArray] F (L) (fun _ L' v => ∃ (s1 : Sl) (s3 : Sl), v = .tuple #[.agg (enc (SkeenR.mk r.1 s1)).toArray, Sl.v s3, iv r.2.2] ∧ L' = (.own s1 77 4 (encs r.1.Wait)) :: (.own s3 3 1 (encs r.2.1)) :: L) := by
 unfold skeen_Fix at H
 refine Ok.enter (m := 3) (n := 107) Try.func32 rfl rfl rfl (by decide) ?_
 refine Cd.env (e' := [(0, .agg (enc (SkeenR.mk a0 s_a0_2)).toArray), (1, iv a1), (2, .agg (enc a2).toArray)]) rfl ?_
 refine Cd.seq ?_
 refine Cd.region ?_
 refine Lst.box rfl rfl (by decide) rfl (cs := enc (SkeenR.mk a0 s_a0_2)) rfl (fun b1 => ?_)
 refine Lst.box rfl rfl (by decide) rfl (cs := enc a1) rfl (fun b3 => ?_)
 refine Lst.box rfl rfl (by decide) rfl (cs := enc a2) rfl (fun b5 => ?_)
 refine Lst.addNil 77 4 ?_
 refine Lst.alloc (cs := enc (SkeenR.mk ({ Skeen.zero with Wait := ([] : List Wait) } : Skeen) Sl.nil)) rfl rfl (by decide) Try.zeroValue59 rfl (fun b8 => ?_)
 refine Lst.addNil 3 1 ?_
 refine Lst.r (Ev.assign rfl) ?_
 refine Lst.r (Ev.assign rfl) ?_
 refine Lst.nil ?_
 refine At.then ?_
 refine Cd.seq ?_
 refine Cd.seq ?_
 refine Cd.region ?_
 refine Lst.r (Ev.loadA (i := 5) rfl rfl Try.isAgg59 Try.sizeOf59 (ch := enc (SkeenR.mk a0 s_a0_2)) (Enc.len _) (Get.here _)) ?_
 obtain ⟨r11, h12, H⟩ := bind_some H
 refine Lst.call1 rfl rfl (by decide) (vs := [.agg (enc (SkeenR.mk a0 s_a0_2)).toArray]) ⟨rfl, trivial⟩ Try.call34 (skeen_Check_sim h12 w0 _ M _ (sc4 (sc2 hM)) (hs_a0_2.mono (FLe.refl _) (.refl _))) ?_
 refine Lst.r (Ev.assign rfl) ?_
 refine Lst.nil ?_
 refine At.then ?_
 refine Cd.seq ?_
 refine Cd.region ?_
 refine Lst.r (Ev.move rfl) ?_
 refine Lst.r (Ev.neq rfl rfl) ?_
 refine Lst.nil ?_
 refine At.then ?_
 rcases Bool.eq_false_or_eq_true (r11 != (0 : Int)) with hb15 | hb15
 ·replace H := ite_t hb15 H
  refine Cd.condT rfl hb15 ?_
  refine Cd.seq ?_
  refine Cd.region ?_
  refine Lst.r (Ev.build (v := .agg (enc (SkeenR.mk Skeen.zero Sl.nil)).toArray) (pv := []) trivial (fun w => by kernel_rfl)) ?_
  refine Lst.r (Ev.move rfl) ?_
  refine Lst.store (i := 1) rfl rfl rfl rfl rfl Try.sizeOf59 (vs := enc (SkeenR.mk Skeen.zero Sl.nil)) rfl (Enc.len _) (Enc.one _) (cs' := enc (SkeenR.mk Skeen.zero Sl.nil)) (Put.here ((Enc.len _).trans (Enc.len _).symm)) (L' := (.own Sl.nil 3 1 (encs ([] : List Int))) :: (.blk b8 (enc (SkeenR.mk Skeen.zero Sl.nil)) 59) :: (.own Sl.nil 77 4 (encs ([] : List Wait))) :: (.blk b5 (enc a2) 61) :: (.blk b3 (enc a1) 3) :: (.blk b1 (enc (SkeenR.mk a0 s_a0_2)) 59) :: L) rfl ?_
  refine Lst.addNil 3 1 ?_
  refine Lst.r (Ev.assign rfl) ?_
  refine Lst.r (Ev.assign rfl) ?_
  refine Lst.nil ?_
  refine At.then ?_
  obtain rfl := some_inj H
  refine Cd.ret ?_
  refine At.then_ret ?_
  refine At.addNil 77 4 ?_
  exact At.ret3 rfl (Res.cellA (i := 3) rfl rfl Try.isAgg59 Try.sizeOf59 (Enc.len _)) (Res.tmp rfl) (Res.tmp rfl) (FLe.refl _) (sk1 (sk1 (sc1 (sc1 (sc1 (sc1 (sc1 (sc1 (.refl _))))))))) ⟨Sl.nil, Sl.nil, rfl, rfl⟩
 replace H := ite_f hb15 H
 refine Cd.condF rfl hb15 ?_
 refine Cd.skip ?_
 refine At.then ?_
 refine Cd.seq ?_
 refine Cd.seq ?_
 refine Cd.region ?_
 refine Lst.r (Ev.fieldAddr (off' := 0) rfl Try.runUnderlying61 rfl Try.sizeOf3 rfl rfl) ?_
 refine Lst.r (Ev.load (i := 3) rfl rfl Try.isAgg3 (v := iv a2.N) ((Num.get_N (Get.here _)).off (by rfl))) ?_
 obtain ⟨r18, h19, H⟩ := bind_some H
 refine Lst.call1 rfl rfl (by decide) (vs := [iv a2.N, iv (1 : Int), iv (16777215 : Int)]) ⟨rfl, rfl, rfl, trivial⟩ Try.call79 (skeen_in_sim h19 w0 _ M _ (sc4 (sc2 hM))) ?_
 refine Lst.r (Ev.not rfl) ?_
 refine Lst.r (Ev.move rfl) ?_
 obtain ⟨o22, H, HKo22⟩ := bind_some H
 refine Lst.join (σ := Bool) 5 (fun y23 => [(3, pv b1 0), (4, pv b3 0), (5, pv b5 0), (6, pv b8 0), (28, .bool y23)]) (fun y23 => (.own Sl.nil 3 1 (encs ([] : List Int))) :: (.blk b8 (enc (SkeenR.mk ({ Skeen.zero with Wait := ([] : List Wait) } : Skeen) Sl.nil)) 59) :: (.own Sl.nil 77 4 (encs ([] : List Wait))) :: (.blk b5 (enc a2) 61) :: (.blk b3 (enc a1) 3) :: (.blk b1 (enc (SkeenR.mk a0 s_a0_2)) 59) :: L) (fun _ y23 => y23 = o22) ?_ ?_
 ·rcases Bool.eq_false_or_eq_true (!r18) with hb24 | hb24
  ·replace H := ite_t hb24 H
   refine Lst.skip rfl rfl rfl hb24 rfl (by decide) ?_
   refine Lst.skip rfl rfl rfl hb24 rfl (by decide) ?_
   refine Lst.skip rfl rfl rfl hb24 rfl (by decide) ?_
   refine Lst.skip rfl rfl rfl hb24 rfl (by decide) ?_
   refine Lst.r (Ev.pickT rfl hb24 rfl) ?_
   refine Lst.nil ?_
   exact At.meet true (FLe.refl _) ⟨rfl, rfl, rfl, rfl, rfl, trivial⟩ rfl (some_inj H)
  replace H := ite_f hb24 H
  refine Lst.rG hb24 (Ev.fieldAddr (off' := 1) rfl Try.runUnderlying61 rfl Try.sizeOf3 rfl rfl) ?_
  refine Lst.rG hb24 (Ev.load (i := 3) rfl rfl Try.isAgg3 (v := iv a2.By) ((Num.get_By (Get.here _)).off (by rfl))) ?_
  obtain ⟨r25, h26, H⟩ := bind_some H
  refine Lst.call1G rfl rfl rfl hb24 rfl (by decide) (vs := [iv a2.By, iv (0 : Int), iv (5 : Int)]) ⟨rfl, rfl, rfl, trivial⟩ Try.call79 (skeen_in_sim h26 w0 _ M _ (sc4 (sc2 hM))) ?_
  refine Lst.rG hb24 (Ev.not rfl) ?_
  refine Lst.r (Ev.pickF rfl hb24 rfl) ?_
  refine Lst.nil ?_
  exact At.meet (!r25) (FLe.refl _) ⟨rfl, rfl, rfl, rfl, rfl, trivial⟩ rfl (some_inj H)
 rintro F29 y23 hF30 hy
 subst hy
 refine Lst.as (e' := [(3, pv b1 0), (4, pv b3 0), (5, pv b5 0), (6, pv b8 0), (28, .bool y23)]) (L' := (.own Sl.nil 3 1 (encs ([] : List Int))) :: (.blk b8 (enc (SkeenR.mk ({ Skeen.zero with Wait := ([] : List Wait) } : Skeen) Sl.nil)) 59) :: (.own Sl.nil 77 4 (encs ([] : List Wait))) :: (.blk b5 (enc a2) 61) :: (.blk b3 (enc a1) 3) :: (.blk b1 (enc (SkeenR.mk a0 s_a0_2)) 59) :: L) ⟨rfl, rfl, rfl, rfl, rfl, trivial⟩ rfl ?_
 replace H := HKo22
 refine Lst.nil ?_
 refine At.then ?_
 rcases Bool.eq_false_or_eq_true y23 with hb31 | hb31
 ·replace H := ite_t hb31 H
  refine Cd.condT rfl hb31 ?_
  refine Cd.seq ?_
  refine Cd.region ?_
  refine Lst.r (Ev.build (v := .agg (enc (SkeenR.mk Skeen.zero Sl.nil)).toArray) (pv := []) trivial (fun w => by kernel_rfl)) ?_
  refine Lst.store (i := 1) rfl rfl rfl rfl rfl Try.sizeOf59 (vs := enc (SkeenR.mk Skeen.zero Sl.nil)) rfl (Enc.len _) (Enc.one _) (cs' := enc (SkeenR.mk Skeen.zero Sl.nil)) (Put.here ((Enc.len _).trans (Enc.len _).symm)) (L' := (.own Sl.nil 3 1 (encs ([] : List Int))) :: (.blk b8 (enc (SkeenR.mk Skeen.zero Sl.nil)) 59) :: (.own Sl.nil 77 4 (encs ([] : List Wait))) :: (.blk b5 (enc a2) 61) :: (.blk b3 (enc a1) 3) :: (.blk b1 (enc (SkeenR.mk a0 s_a0_2)) 59) :: L) rfl ?_
  refine Lst.addNil 3 1 ?_
  refine Lst.r (Ev.assign rfl) ?_
  refine Lst.r (Ev.assign rfl) ?_
  refine Lst.nil ?_
  refine At.then ?_
  obtain rfl := some_inj H
  refine Cd.ret ?_
  refine At.then_ret ?_
  refine At.addNil 77 4 ?_
  exact At.ret3 rfl (Res.cellA (i := 3) rfl rfl Try.isAgg59 Try.sizeOf59 (Enc.len _)) (Res.tmp rfl) (Res.tmp rfl) hF30 (sk1 (sk1 (sc1 (sc1 (sc1 (sc1 (sc1 (sc1 (.refl _))))))))) ⟨Sl.nil, Sl.nil, rfl, rfl⟩
 replace H := ite_f hb31 H
 refine Cd.condF rfl hb31 ?_
 refine Cd.skip ?_
 refine At.then ?_
 refine Cd.seq ?_
 refine Cd.region ?_
 refine Lst.r (Ev.fieldAddr (off' := 2) rfl Try.runUnderlying59 rfl Try.sizeOf57 rfl rfl) ?_
 refine Lst.r (Ev.load (i := 5) rfl rfl Try.isAgg57 (v := Sl.v s_a0_2) ((SkeenR.get_Wait (Get.here _)).off (by rfl))) ?_
 refine Lst.r (Ev.makeFunc (us := []) (vs := [pv b3 0]) trivial ⟨rfl, trivial⟩) ?_
 obtain ⟨r34, h35, H⟩ := bind_some H
 refine Lst.front (i := 4) rfl (L' := (.blk b3 (enc a1) 3) :: (.own Sl.nil 3 1 (encs ([] : List Int))) :: (.blk b8 (enc (SkeenR.mk ({ Skeen.zero with Wait := ([] : List Wait) } : Skeen) Sl.nil)) 59) :: (.own Sl.nil 77 4 (encs ([] : List Wait))) :: (.blk b5 (enc a2) 61) :: (.blk b1 (enc (SkeenR.mk a0 s_a0_2)) 59) :: L) rfl ?_
 refine Lst.call1 rfl rfl (by decide) (vs := [Sl.v s_a0_2, .func (.func 81) #[] #[pv b3 0]]) ⟨rfl, rfl, trivial⟩ Try.call80 (slices_IndexFunc_api_Wait_api_Wait_Fix_1_sim h35 w0 _ M _ (sc4 (sc1 hM)) (hs_a0_2.mono hF30 (.refl _))) ?_
 refine Lst.r (Ev.assign rfl) ?_
 refine Lst.nil ?_
 refine At.then ?_
 refine Cd.seq ?_
 refine Cd.seq ?_
 refine Cd.region ?_
 refine Lst.r (Ev.move rfl) ?_
 refine Lst.r (Ev.lss rfl rfl) ?_
 refine Lst.nil ?_
 refine At.then ?_
 rcases Bool.eq_false_or_eq_true (decide (r34 < (0 : Int))) with hb38 | hb38
 ·replace H := ite_t hb38 H
  refine Cd.condT rfl hb38 ?_
  refine Cd.seq ?_
  refine Cd.region ?_
  refine Lst.r (Ev.build (v := .agg (enc (SkeenR.mk Skeen.zero Sl.nil)).toArray) (pv := []) trivial (fun w => by kernel_rfl)) ?_
  refine Lst.store (i := 2) rfl rfl rfl rfl rfl Try.sizeOf59 (vs := enc (SkeenR.mk Skeen.zero Sl.nil)) rfl (Enc.len _) (Enc.one _) (cs' := enc (SkeenR.mk Skeen.zero Sl.nil)) (Put.here ((Enc.len _).trans (Enc.len _).symm)) (L' := (.blk b3 (enc a1) 3) :: (.own Sl.nil 3 1 (encs ([] : List Int))) :: (.blk b8 (enc (SkeenR.mk Skeen.zero Sl.nil)) 59) :: (.own Sl.nil 77 4 (encs ([] : List Wait))) :: (.blk b5 (enc a2) 61) :: (.blk b1 (enc (SkeenR.mk a0 s_a0_2)) 59) :: L) rfl ?_
  refine Lst.addNil 3 1 ?_
  refine Lst.r (Ev.assign rfl) ?_
  refine Lst.r (Ev.assign rfl) ?_
  refine Lst.nil ?_
  refine At.then ?_
  obtain rfl := some_inj H
  refine Cd.ret ?_
  refine At.then_ret ?_
  refine At.addNil 77 4 ?_
  exact At.ret3 rfl (Res.cellA (i := 4) rfl rfl Try.isAgg59 Try.sizeOf59 (Enc.len _)) (Res.tmp rfl) (Res.tmp rfl) hF30 (sk1 (sk1 (sc1 (sc1 (sc1 (sc1 (sc1 (sc1 (.refl _))))))))) ⟨Sl.nil, Sl.nil, rfl, rfl⟩
 replace H := ite_f hb38 H
 refine Cd.condF rfl hb38 ?_
 refine Cd.skip ?_
 refine At.then ?_
 refine Cd.seq ?_
 refine Cd.seq ?_
 refine Cd.quiet (by kernel_rfl) (by kernel_rfl) ?_
 refine Qt.r (Ev.loadA (i := 4) rfl rfl Try.isAgg61 Try.sizeOf61 (ch := enc a2) (Enc.len _) (Get.here _)) ?_
 refine Qt.r (Ev.fieldAddr (off' := 2) rfl Try.runUnderlying59 rfl Try.sizeOf57 rfl rfl) ?_
 refine Qt.r (Ev.load (i := 5) rfl rfl Try.isAgg57 (v := Sl.v s_a0_2) ((SkeenR.get_Wait (Get.here _)).off (by rfl))) ?_
 refine Qt.r (Ev.move rfl) ?_
 obtain ⟨x41, h42, H⟩ := bind_some H
 have g43 := lat_some h42
 refine Qt.r (Ev.indexS (α := Wait) (xs := a0.Wait) rfl rfl Try.runUnderlying57 Try.sizeOf77 rfl (by decide) (hs_a0_2.mono hF30 (sc4 (sc2 hM))) g43.1 g43.2.1) ?_
 refine Qt.r (Ev.fieldS (α := Wait) (f' := r34.toNat * 4 + 1) rfl (hs_a0_2.mono hF30 (sc4 (sc2 hM))) ((Get.elemN (s := 4) (x := x41) rfl g43.2.2 (Get.here _)).off (by omega)) rfl Try.runUnderlying77 rfl Try.sizeOf61 rfl rfl rfl) ?_
 refine Qt.r (Ev.loadSA (α := Wait) rfl (hs_a0_2.mono hF30 (sc4 (sc2 hM))) Try.isAgg61 Try.sizeOf61 (ch := enc x41.Num_) (Enc.len _) (by decide) ((Get.elemN (s := 4) (x := x41) rfl g43.2.2 (Wait.get_Num_ (Get.here _))).off (by omega))) ?_
 obtain ⟨r44, h45, H⟩ := bind_some H
 refine Qt.call rfl rfl (by decide) (vs := [.agg (enc a2).toArray, .agg (enc x41.Num_).toArray]) ⟨rfl, rfl, trivial⟩ Try.call82 (skeen_compare_sim h45 w0 _ M _ (sc4 (sc2 hM))) ?_
 refine Qt.r (Ev.lss rfl rfl) ?_
 refine Qt.r (Ev.move rfl) ?_
 obtain ⟨o48, H, HKo48⟩ := bind_some H
 refine Qt.join (σ := Bool) 5 (fun y49 => [(3, pv b1 0), (5, pv b5 0), (6, pv b8 0), (10, iv r34), (51, .bool y49)]) (fun y49 => y49 = o48) ?_ ?_
 ·rcases Bool.eq_false_or_eq_true (decide (r44 < (0 : Int))) with hb50 | hb50
  ·replace H := ite_t hb50 H
   refine Qt.skip rfl rfl rfl hb50 rfl (by decide) ?_
   refine Qt.skip rfl rfl rfl hb50 rfl (by decide) ?_
   refine Qt.skip rfl rfl rfl hb50 rfl (by decide) ?_
   refine Qt.skip rfl rfl rfl hb50 rfl (by decide) ?_
   refine Qt.r (Ev.pickT rfl hb50 rfl) ?_
   exact Qt.meet true ⟨rfl, rfl, rfl, rfl, rfl, trivial⟩ (some_inj H)
  replace H := ite_f hb50 H
  refine Qt.rG hb50 (Ev.fieldAddr (off' := 2) rfl Try.runUnderlying59 rfl Try.sizeOf57 rfl rfl) ?_
  refine Qt.rG hb50 (Ev.load (i := 5) rfl rfl Try.isAgg57 (v := Sl.v s_a0_2) ((SkeenR.get_Wait (Get.here _)).off (by rfl))) ?_
  refine Qt.rG hb50 (Ev.makeFunc (us := []) (vs := [pv b3 0, pv b5 0]) trivial ⟨rfl, rfl, trivial⟩) ?_
  obtain ⟨r51, h52, H⟩ := bind_some H
  refine Qt.callG rfl rfl rfl hb50 rfl (by decide) (vs := [Sl.v s_a0_2, .func (.func 83) #[] #[pv b3 0, pv b5 0]]) ⟨rfl, rfl, trivial⟩ Try.call40 (Ok.isPerm (List.Perm.trans (front_perm (i := 4) rfl) (front_perm (i := 1) rfl)) (slices_ContainsFunc_api_Wait_api_Wait_Fix_2_sim h52 w0 _ M _ (sc4 hM) (hs_a0_2.mono hF30 (.refl _)))) ?_
  refine Qt.r (Ev.pickF rfl hb50 rfl) ?_
  exact Qt.meet r51 ⟨rfl, rfl, rfl, rfl, rfl, trivial⟩ (some_inj H)
 rintro y49 hy
 subst hy
 refine Qt.as (e' := [(3, pv b1 0), (5, pv b5 0), (6, pv b8 0), (10, iv r34), (51, .bool y49)]) ⟨rfl, rfl, rfl, rfl, rfl, trivial⟩ ?_
 replace H := HKo48
 refine Qt.done ?_
 refine At.then ?_
 rcases Bool.eq_false_or_eq_true y49 with hb55 | hb55
 ·replace H := ite_t hb55 H
  refine Cd.condT rfl hb55 ?_
  refine Cd.seq ?_
  refine Cd.region ?_
  refine Lst.r (Ev.build (v := .agg (enc (SkeenR.mk Skeen.zero Sl.nil)).toArray) (pv := []) trivial (fun w => by kernel_rfl)) ?_
  refine Lst.store (i := 2) rfl rfl rfl rfl rfl Try.sizeOf59 (vs := enc (SkeenR.mk Skeen.zero Sl.nil)) rfl (Enc.len _) (Enc.one _) (cs' := enc (SkeenR.mk Skeen.zero Sl.nil)) (Put.here ((Enc.len _).trans (Enc.len _).symm)) (L' := (.blk b3 (enc a1) 3) :: (.own Sl.nil 3 1 (encs ([] : List Int))) :: (.blk b8 (enc (SkeenR.mk Skeen.zero Sl.nil)) 59) :: (.own Sl.nil 77 4 (encs ([] : List Wait))) :: (.blk b5 (enc a2) 61) :: (.blk b1 (enc (SkeenR.mk a0 s_a0_2)) 59) :: L) rfl ?_
  refine Lst.addNil 3 1 ?_
  refine Lst.r (Ev.assign rfl) ?_
  refine Lst.r (Ev.assign rfl) ?_
  refine Lst.nil ?_
  refine At.then ?_
  obtain rfl := some_inj H
  refine Cd.ret ?_
  refine At.then_ret ?_
  refine At.addNil 77 4 ?_
  exact At.ret3 rfl (Res.cellA (i := 4) rfl rfl Try.isAgg59 Try.sizeOf59 (Enc.len _)) (Res.tmp rfl) (Res.tmp rfl) hF30 (sk1 (sk1 (sc1 (sc1 (sc1 (sc1 (sc1 (sc1 (.refl _))))))))) ⟨Sl.nil, Sl.nil, rfl, rfl⟩
 replace H := ite_f hb55 H
 refine Cd.condF rfl hb55 ?_
 refine Cd.skip ?_
 refine At.then ?_
 refine Cd.seq ?_
 obtain ⟨r58, h59, H⟩ := bind_some H
 obtain ⟨o73, h74, H⟩ := Let_some H
 refine Cd.headMeet (σ := Nat × Sl × (List Wait) × Sl × (List Wait)) 12 (fun (b68, s69, l70, s71, l72) => [(5, pv b5 0), (6, pv b8 0), (10, iv r34), (11, pv b68 0), (63, .agg (enc (SkeenR.mk ({ Skeen.zero with Me := a0.Me, Clock := max a0.Clock a2.N, Wait := l72 } : Skeen) s71)).toArray)]) (fun (b68, s69, l70, s71, l72) => (.blk b68 (enc (SkeenR.mk ({ Skeen.zero with Wait := l70 } : Skeen) s69)) 59) :: (.own s69 77 4 (encs l70)) :: (.own s71 77 4 (encs l72)) :: (.blk b3 (enc a1) 3) :: (.own Sl.nil 3 1 (encs ([] : List Int))) :: (.blk b8 (enc (SkeenR.mk ({ Skeen.zero with Wait := ([] : List Wait) } : Skeen) Sl.nil)) 59) :: (.own Sl.nil 77 4 (encs ([] : List Wait))) :: (.blk b5 (enc a2) 61) :: (.blk b1 (enc (SkeenR.mk a0 s_a0_2)) 59) :: L) (fun _ (b68, s69, l70, s71, l72) => (l70, l72) = o73) (by kernel_rfl) (by kernel_rfl) (behind_sink (by kernel_rfl) (by kernel_rfl) (by kernel_rfl)) (by kernel_rfl) (fun hsel hlt => ?_) ?_
 ·refine HdJ.keep (fun w => St w0 F29 ((.blk b3 (enc a1) 3) :: (.own Sl.nil 3 1 (encs ([] : List Int))) :: (.blk b8 (enc (SkeenR.mk ({ Skeen.zero with Wait := ([] : List Wait) } : Skeen) Sl.nil)) 59) :: (.own Sl.nil 77 4 (encs ([] : List Wait))) :: (.blk b5 (enc a2) 61) :: (.blk b1 (enc (SkeenR.mk a0 s_a0_2)) 59) :: L) w) (fun w h => trivial) ?_
  refine HdJ.tk hsel hlt 0 (fun w h => h.sublist (sk1 (sk1 (sk1 (sk1 (sk1 (sk1 (.refl _)))))))) rfl (Ev.fieldAddr (off' := 0) rfl Try.runUnderlying59 rfl Try.sizeOf3 rfl rfl) ?_
  refine HdJ.tk hsel hlt 1 (fun w h => h.sublist (sk1 (sk1 (sk1 (sk1 (sk1 (sk1 (.refl _)))))))) rfl (Ev.load (i := 5) rfl rfl Try.isAgg3 (v := iv a0.Me) ((SkeenR.get_Me (Get.here _)).off (by rfl))) ?_
  refine HdJ.tk hsel hlt 2 (fun w h => h.sublist (sk1 (sk1 (sk1 (sk1 (sk1 (sk1 (.refl _)))))))) rfl (Ev.fieldAddr (off' := 1) rfl Try.runUnderlying59 rfl Try.sizeOf3 rfl rfl) ?_
  refine HdJ.tk hsel hlt 3 (fun w h => h.sublist (sk1 (sk1 (sk1 (sk1 (sk1 (sk1 (.refl _)))))))) rfl (Ev.load (i := 5) rfl rfl Try.isAgg3 (v := iv a0.Clock) ((SkeenR.get_Clock (Get.here _)).off (by rfl))) ?_
  refine HdJ.tk hsel hlt 4 (fun w h => h.sublist (sk1 (sk1 (sk1 (sk1 (sk1 (sk1 (.refl _)))))))) rfl (Ev.fieldAddr (off' := 0) rfl Try.runUnderlying61 rfl Try.sizeOf3 rfl rfl) ?_
  refine HdJ.tk hsel hlt 5 (fun w h => h.sublist (sk1 (sk1 (sk1 (sk1 (sk1 (sk1 (.refl _)))))))) rfl (Ev.load (i := 4) rfl rfl Try.isAgg3 (v := iv a2.N) ((Num.get_N (Get.here _)).off (by rfl))) ?_
  refine HdJ.tk hsel hlt 6 (fun w h => h.sublist (sk1 (sk1 (sk1 (sk1 (sk1 (sk1 (.refl _)))))))) rfl (Ev.max2 rfl rfl) ?_
  refine HdJ.tk hsel hlt 7 (fun w h => h.sublist (sk1 (sk1 (sk1 (sk1 (sk1 (sk1 (.refl _)))))))) rfl (Ev.fieldAddr (off' := 2) rfl Try.runUnderlying59 rfl Try.sizeOf57 rfl rfl) ?_
  refine HdJ.tk hsel hlt 8 (fun w h => h.sublist (sk1 (sk1 (sk1 (sk1 (sk1 (sk1 (.refl _)))))))) rfl (Ev.load (i := 5) rfl rfl Try.isAgg57 (v := Sl.v s_a0_2) ((SkeenR.get_Wait (Get.here _)).off (by rfl))) ?_
  refine HdJ.step [9, 11] (by kernel_rfl) rfl ?_
  refine HdStep.c (fun inv => ?_) ?_
  ·refine Lst.call rfl rfl (by decide) (vs := [Sl.v s_a0_2]) ⟨rfl, trivial⟩ Try.call78 (slices_Clone_api_Wait_api_Wait_sim h59 w0 _ M _ (sc4 (sc2 hM)) (hs_a0_2.mono hF30 (.refl _))) (fun F76 L' v hF77 hv => ?_)
   obtain ⟨s75, rfl, rfl⟩ := hv
   refine Lst.nil ?_
   refine At.hd inv (fun w h => (h.weaken hF77).sublist (sc1 (sk1 (sk1 (sk1 (sk1 (sk1 (sk1 (.refl _))))))))) ?_
   refine HdJ.keep (fun w => St w0 F76 ((.own s75 77 4 (encs r58)) :: (.blk b3 (enc a1) 3) :: (.own Sl.nil 3 1 (encs ([] : List Int))) :: (.blk b8 (enc (SkeenR.mk ({ Skeen.zero with Wait := ([] : List Wait) } : Skeen) Sl.nil)) 59) :: (.own Sl.nil 77 4 (encs ([] : List Wait))) :: (.blk b5 (enc a2) 61) :: (.blk b1 (enc (SkeenR.mk a0 s_a0_2)) 59) :: L) w) (fun w h => (h.weaken hF77).sublist (sc1 (sk1 (sk1 (sk1 (sk1 (sk1 (sk1 (.refl _))))))))) ?_
   refine HdJ.tk hsel hlt 10 (fun w h => h.sublist (sk1 (sk1 (sk1 (sk1 (sk1 (sk1 (sk1 (.refl _))))))))) rfl (Ev.build (v := .agg (enc (SkeenR.mk ({ Skeen.zero with Me := a0.Me, Clock := max a0.Clock a2.N, Wait := r58 } : Skeen) s75)).toArray) (pv := [(0, iv a0.Me), (1, iv (max a0.Clock a2.N)), (2, Sl.v s75)]) ⟨rfl, rfl, ⟨rfl, rfl, ⟨rfl, rfl, trivial⟩⟩⟩ (run_buildStruct (places := #[(0, 1), (1, 1), (2, 1)]) Try.zeroValue59 (zs := enc (SkeenR.mk Skeen.zero Sl.nil)) rfl Try.runUnderlying59 (fun w => by kernel_rfl) (fill_cons (cs := enc (SkeenR.mk Skeen.zero Sl.nil)) (cs' := enc (SkeenR.mk ({ Skeen.zero with Me := a0.Me } : Skeen) Sl.nil)) (vs := [iv a0.Me]) rfl rfl rfl ((SkeenR.put_Me (p := (SkeenR.mk Skeen.zero Sl.nil)) (y := a0.Me) (Put.here (vs := [iv a0.Me]) rfl)).off rfl) (fill_cons (cs := enc (SkeenR.mk ({ Skeen.zero with Me := a0.Me } : Skeen) Sl.nil)) (cs' := enc (SkeenR.mk ({ Skeen.zero with Me := a0.Me, Clock := max a0.Clock a2.N } : Skeen) Sl.nil)) (vs := [iv (max a0.Clock a2.N)]) rfl rfl rfl ((SkeenR.put_Clock (p := (SkeenR.mk ({ Skeen.zero with Me := a0.Me } : Skeen) Sl.nil)) (y := (max a0.Clock a2.N)) (Put.here (vs := [iv (max a0.Clock a2.N)]) rfl)).off rfl) (fill_cons (cs := enc (SkeenR.mk ({ Skeen.zero with Me := a0.Me, Clock := max a0.Clock a2.N } : Skeen) Sl.nil)) (cs' := enc (SkeenR.mk ({ Skeen.zero with Me := a0.Me, Clock := max a0.Clock a2.N, Wait := r58 } : Skeen) s75)) (vs := [Sl.v s75]) rfl rfl rfl ((SkeenR.put_Wait (p := (SkeenR.mk ({ Skeen.zero with Me := a0.Me, Clock := max a0.Clock a2.N } : Skeen) Sl.nil)) (y := s75) (Put.here (vs := [Sl.v s75]) rfl)).off rfl) fill_nil))))) ?_
   refine HdJ.step [11] (by kernel_rfl) rfl ?_
   refine HdStep.c (fun inv => ?_) ?_
   ·refine Lst.addNil 77 4 ?_
    refine Lst.alloc (cs := enc (SkeenR.mk ({ Skeen.zero with Wait := ([] : List Wait) } : Skeen) Sl.nil)) rfl rfl (by decide) Try.zeroValue59 rfl (fun b78 => ?_)
    refine Lst.nil ?_
    refine At.hd inv (fun w h => (h.weaken (FLe.refl _)).sublist (sc1 (sc1 (sk1 (sk1 (sk1 (sk1 (sk1 (sk1 (sk1 (.refl _))))))))))) ?_
    refine HdJ.done (by kernel_rfl) ?_
    exact At.meetN (b78, Sl.nil, ([] : List Wait), s75, r58) hF77 ⟨rfl, rfl, rfl, rfl, rfl, trivial⟩ rfl h74
   exact trivial
  refine HdStep.c (fun inv => ?_) ?_
  ·refine Lst.addNil 77 4 ?_
   refine Lst.alloc (cs := enc (SkeenR.mk ({ Skeen.zero with Wait := ([] : List Wait) } : Skeen) Sl.nil)) rfl rfl (by decide) Try.zeroValue59 rfl (fun b79 => ?_)
   refine Lst.nil ?_
   refine At.hd inv (fun w h => (h.weaken (FLe.refl _)).sublist (sc1 (sc1 (sk1 (sk1 (sk1 (sk1 (sk1 (sk1 (.refl _)))))))))) ?_
   refine HdJ.step [9] (by kernel_rfl) rfl ?_
   refine HdStep.c (fun inv => ?_) ?_
   ·refine Lst.call rfl rfl (by decide) (vs := [Sl.v s_a0_2]) ⟨rfl, trivial⟩ Try.call78 (slices_Clone_api_Wait_api_Wait_sim h59 w0 _ M _ (sc8 hM) (hs_a0_2.mono hF30 (.refl _))) (fun F81 L' v hF82 hv => ?_)
    obtain ⟨s80, rfl, rfl⟩ := hv
    refine Lst.nil ?_
    refine At.hd inv (fun w h => (h.weaken hF82).sublist (sc1 (sc1 (sc1 (sk1 (sk1 (sk1 (sk1 (sk1 (sk1 (.refl _))))))))))) ?_
    refine HdJ.keep (fun w => St w0 F81 ((.own s80 77 4 (encs r58)) :: (.blk b79 (enc (SkeenR.mk ({ Skeen.zero with Wait := ([] : List Wait) } : Skeen) Sl.nil)) 59) :: (.own Sl.nil 77 4 (encs ([] : List Wait))) :: (.blk b3 (enc a1) 3) :: (.own Sl.nil 3 1 (encs ([] : List Int))) :: (.blk b8 (enc (SkeenR.mk ({ Skeen.zero with Wait := ([] : List Wait) } : Skeen) Sl.nil)) 59) :: (.own Sl.nil 77 4 (encs ([] : List Wait))) :: (.blk b5 (enc a2) 61) :: (.blk b1 (enc (SkeenR.mk a0 s_a0_2)) 59) :: L) w) (fun w h => (h.weaken hF82).sublist (sc1 (sc1 (sc1 (sk1 (sk1 (sk1 (sk1 (sk1 (sk1 (.refl _))))))))))) ?_
    refine HdJ.tk hsel hlt 10 (fun w h => h.sublist (sk1 (sk1 (sk1 (sk1 (sk1 (sk1 (sk1 (sk1 (sk1 (.refl _))))))))))) rfl (Ev.build (v := .agg (enc (SkeenR.mk ({ Skeen.zero with Me := a0.Me, Clock := max a0.Clock a2.N, Wait := r58 } : Skeen) s80)).toArray) (pv := [(0, iv a0.Me), (1, iv (max a0.Clock a2.N)), (2, Sl.v s80)]) ⟨rfl, rfl, ⟨rfl, rfl, ⟨rfl, rfl, trivial⟩⟩⟩ (run_buildStruct (places := #[(0, 1), (1, 1), (2, 1)]) Try.zeroValue59 (zs := enc (SkeenR.mk Skeen.zero Sl.nil)) rfl Try.runUnderlying59 (fun w => by kernel_rfl) (fill_cons (cs := enc (SkeenR.mk Skeen.zero Sl.nil)) (cs' := enc (SkeenR.mk ({ Skeen.zero with Me := a0.Me } : Skeen) Sl.nil)) (vs := [iv a0.Me]) rfl rfl rfl ((SkeenR.put_Me (p := (SkeenR.mk Skeen.zero Sl.nil)) (y := a0.Me) (Put.here (vs := [iv a0.Me]) rfl)).off rfl) (fill_cons (cs := enc (SkeenR.mk ({ Skeen.zero with Me := a0.Me } : Skeen) Sl.nil)) (cs' := enc (SkeenR.mk ({ Skeen.zero with Me := a0.Me, Clock := max a0.Clock a2.N } : Skeen) Sl.nil)) (vs := [iv (max a0.Clock a2.N)]) rfl rfl rfl ((SkeenR.put_Clock (p := (SkeenR.mk ({ Skeen.zero with Me := a0.Me } : Skeen) Sl.nil)) (y := (max a0.Clock a2.N)) (Put.here (vs := [iv (max a0.Clock a2.N)]) rfl)).off rfl) (fill_cons (cs := enc (SkeenR.mk ({ Skeen.zero with Me := a0.Me, Clock := max a0.Clock a2.N } : Skeen) Sl.nil)) (cs' := enc (SkeenR.mk ({ Skeen.zero with Me := a0.Me, Clock := max a0.Clock a2.N, Wait := r58 } : Skeen) s80)) (vs := [Sl.v s80]) rfl rfl rfl ((SkeenR.put_Wait (p := (SkeenR.mk ({ Skeen.zero with Me := a0.Me, Clock := max a0.Clock a2.N } : Skeen) Sl.nil)) (y := s80) (Put.here (vs := [Sl.v s80]) rfl)).off rfl) fill_nil))))) ?_
    refine HdJ.done (by kernel_rfl) ?_
    refine At.front (i := 2) rfl rfl ?_
    refine At.front (i := 2) rfl (L' := (.blk b79 (enc (SkeenR.mk ({ Skeen.zero with Wait := ([] : List Wait) } : Skeen) Sl.nil)) 59) :: (.own Sl.nil 77 4 (encs ([] : List Wait))) :: (.own s80 77 4 (encs r58)) :: (.blk b3 (enc a1) 3) :: (.own Sl.nil 3 1 (encs ([] : List Int))) :: (.blk b8 (enc (SkeenR.mk ({ Skeen.zero with Wait := ([] : List Wait) } : Skeen) Sl.nil)) 59) :: (.own Sl.nil 77 4 (encs ([] : List Wait))) :: (.blk b5 (enc a2) 61) :: (.blk b1 (enc (SkeenR.mk a0 s_a0_2)) 59) :: L) rfl ?_
    exact At.meetN (b79, Sl.nil, ([] : List Wait), s80, r58) hF82 ⟨rfl, rfl, rfl, rfl, rfl, trivial⟩ rfl h74
   exact trivial
  exact trivial
 rintro F83 ⟨b68, s69, l70, s71, l72⟩ hF84 hy
 subst hy
 refine Lst.as (e' := [(5, pv b5 0), (6, pv b8 0), (10, iv r34), (11, pv b68 0), (63, .agg (enc (SkeenR.mk ({ Skeen.zero with Me := a0.Me, Clock := max a0.Clock a2.N, Wait := l72 } : Skeen) s71)).toArray)]) (L' := (.blk b68 (enc (SkeenR.mk ({ Skeen.zero with Wait := l70 } : Skeen) s69)) 59) :: (.own s69 77 4 (encs l70)) :: (.own s71 77 4 (encs l72)) :: (.blk b3 (enc a1) 3) :: (.own Sl.nil 3 1 (encs ([] : List Int))) :: (.blk b8 (enc (SkeenR.mk ({ Skeen.zero with Wait := ([] : List Wait) } : Skeen) Sl.nil)) 59) :: (.own Sl.nil 77 4 (encs ([] : List Wait))) :: (.blk b5 (enc a2) 61) :: (.blk b1 (enc (SkeenR.mk a0 s_a0_2)) 59) :: L) ⟨rfl, rfl, rfl, rfl, rfl, trivial⟩ rfl ?_
 refine Lst.store (i := 0) rfl rfl rfl rfl rfl Try.sizeOf59 (vs := enc (SkeenR.mk ({ Skeen.zero with Me := a0.Me, Clock := max a0.Clock a2.N, Wait := l72 } : Skeen) s71)) rfl (Enc.len _) (Enc.one _) (cs' := enc (SkeenR.mk ({ Skeen.zero with Me := a0.Me, Clock := max a0.Clock a2.N, Wait := l72 } : Skeen) s71)) (Put.here ((Enc.len _).trans (Enc.len _).symm)) (L' := (.blk b68 (enc (SkeenR.mk ({ Skeen.zero with Me := a0.Me, Clock := max a0.Clock a2.N, Wait := l72 } : Skeen) s71)) 59) :: (.own s69 77 4 (encs l70)) :: (.own s71 77 4 (encs l72)) :: (.blk b3 (enc a1) 3) :: (.own Sl.nil 3 1 (encs ([] : List Int))) :: (.blk b8 (enc (SkeenR.mk ({ Skeen.zero with Wait := ([] : List Wait) } : Skeen) Sl.nil)) 59) :: (.own Sl.nil 77 4 (encs ([] : List Wait))) :: (.blk b5 (enc a2) 61) :: (.blk b1 (enc (SkeenR.mk a0 s_a0_2)) 59) :: L) rfl ?_
 refine Lst.nil ?_
 refine At.then ?_
 refine Cd.seq ?_
 obtain ⟨x85, h86, H⟩ := bind_some H
 obtain ⟨p88, h89, H⟩ := Let_some H
 obtain ⟨o92, h93, H⟩ := Let_some H
 refine Cd.headMeet (σ := (List Wait)) 10 (fun l91 => [(6, pv b8 0), (11, pv b68 0), (68, Sl.v s71), (69, iv r34)]) (fun l91 => (.blk b68 (enc (SkeenR.mk ({ Skeen.zero with Me := a0.Me, Clock := max a0.Clock a2.N, Wait := l91 } : Skeen) s71)) 59) :: (.own s69 77 4 (encs l70)) :: (.own s71 77 4 (encs l91)) :: (.blk b3 (enc a1) 3) :: (.own Sl.nil 3 1 (encs ([] : List Int))) :: (.blk b8 (enc (SkeenR.mk ({ Skeen.zero with Wait := ([] : List Wait) } : Skeen) Sl.nil)) 59) :: (.own Sl.nil 77 4 (encs ([] : List Wait))) :: (.blk b5 (enc a2) 61) :: (.blk b1 (enc (SkeenR.mk a0 s_a0_2)) 59) :: L) (fun _ l91 => l91 = o92) (by kernel_rfl) (by kernel_rfl) (behind_sink (by kernel_rfl) (by kernel_rfl) (by kernel_rfl)) (by kernel_rfl) (fun hsel hlt => ?_) ?_
 ·refine HdJ.keep (fun w => St w0 F83 ((.own s69 77 4 (encs l70)) :: (.blk b3 (enc a1) 3) :: (.own Sl.nil 3 1 (encs ([] : List Int))) :: (.blk b8 (enc (SkeenR.mk ({ Skeen.zero with Wait := ([] : List Wait) } : Skeen) Sl.nil)) 59) :: (.own Sl.nil 77 4 (encs ([] : List Wait))) :: (.blk b5 (enc a2) 61) :: (.blk b1 (enc (SkeenR.mk a0 s_a0_2)) 59) :: L) w) (fun w h => trivial) ?_
  refine HdJ.tk hsel hlt 0 (fun w h => h.sublist (sc1 (sk1 (sc1 (sk1 (sk1 (sk1 (sk1 (sk1 (sk1 (.refl _))))))))))) rfl (Ev.fieldAddr (off' := 2) rfl Try.runUnderlying59 rfl Try.sizeOf57 rfl rfl) ?_
  refine HdJ.tk hsel hlt 2 (fun w h => h.sublist (sc1 (sk1 (sc1 (sk1 (sk1 (sk1 (sk1 (sk1 (sk1 (.refl _))))))))))) rfl (Ev.move rfl) ?_
  refine HdJ.tk hsel hlt 3 (fun w h => h.sublist (sc1 (sk1 (sc1 (sk1 (sk1 (sk1 (sk1 (sk1 (sk1 (.refl _))))))))))) rfl (Ev.fieldAddr (off' := 2) rfl Try.runUnderlying59 rfl Try.sizeOf57 rfl rfl) ?_
  refine HdJ.tk hsel hlt 5 (fun w h => h.sublist (sc1 (sk1 (sc1 (sk1 (sk1 (sk1 (sk1 (sk1 (sk1 (.refl _))))))))))) rfl (Ev.move rfl) ?_
  refine HdJ.tk hsel hlt 6 (fun w h => h.sublist (sc1 (sk1 (sc1 (sk1 (sk1 (sk1 (sk1 (sk1 (sk1 (.refl _))))))))))) rfl (Ev.loadA (i := 5) rfl rfl Try.isAgg61 Try.sizeOf61 (ch := enc a2) (Enc.len _) (Get.here _)) ?_
  refine HdJ.step [1, 4] (by kernel_rfl) rfl ?_
  refine HdStep.c (fun inv => ?_) ?_
  ·refine Lst.r (Ev.load (i := 0) rfl rfl Try.isAgg57 (v := Sl.v s71) ((SkeenR.get_Wait (Get.here _)).off (by rfl))) ?_
   refine Lst.nil ?_
   refine At.hd inv (fun w h => (h.weaken (FLe.refl _)).sublist (sc1 (sk1 (sc1 (sk1 (sk1 (sk1 (sk1 (sk1 (sk1 (.refl _))))))))))) ?_
   refine HdJ.step [4, 7] (by kernel_rfl) rfl ?_
   refine HdStep.c (fun inv => ?_) ?_
   ·refine Lst.r (Ev.load (i := 0) rfl rfl Try.isAgg57 (v := Sl.v s71) ((SkeenR.get_Wait (Get.here _)).off (by rfl))) ?_
    refine Lst.nil ?_
    refine At.hd inv (fun w h => (h.weaken (FLe.refl _)).sublist (sc1 (sk1 (sc1 (sk1 (sk1 (sk1 (sk1 (sk1 (sk1 (.refl _))))))))))) ?_
    refine HdJ.step [7] (by kernel_rfl) rfl ?_
    refine HdStep.c (fun inv => ?_) ?_
    ·have g94 := lat_some h86
     refine Lst.r (Ev.indexS (α := Wait) (xs := l72) rfl rfl Try.runUnderlying57 Try.sizeOf77 rfl (by decide) (Rd.own (i := 2) rfl rfl rfl) g94.1 g94.2.1) ?_
     refine Lst.nil ?_
     refine At.hd inv (fun w h => (h.weaken (FLe.refl _)).sublist (sc1 (sk1 (sc1 (sk1 (sk1 (sk1 (sk1 (sk1 (sk1 (.refl _))))))))))) ?_
     refine HdJ.step [8] (by kernel_rfl) rfl ?_
     refine HdStep.c (fun inv => ?_) ?_
     ·refine Lst.r (Ev.fieldS (α := Wait) (f' := r34.toNat * 4 + 1) rfl (Rd.own (i := 2) rfl rfl rfl) ((Get.elemN (s := 4) (x := x85) rfl g94.2.2 (Get.here _)).off (by omega)) rfl Try.runUnderlying77 rfl Try.sizeOf61 rfl rfl rfl) ?_
      refine Lst.nil ?_
      refine At.hd inv (fun w h => (h.weaken (FLe.refl _)).sublist (sc1 (sk1 (sc1 (sk1 (sk1 (sk1 (sk1 (sk1 (sk1 (.refl _))))))))))) ?_
      refine HdJ.step [9] (by kernel_rfl) rfl ?_
      refine HdStep.c (fun inv => ?_) ?_
      ·refine Lst.storeS (i := 2) rfl rfl rfl rfl rfl Try.sizeOf61 (vs := enc a2) rfl (Enc.len _) (by decide) (Enc.one _) (xs' := encs p88) (by rw [← h89]; exact (Put.elemN (s := 4) (x := x85) rfl g94.2.2 (Wait.put_Num_ (Put.here ((Enc.len _).trans (Enc.len _).symm)))).off (by omega)) (L' := (.blk b68 (enc (SkeenR.mk ({ Skeen.zero with Me := a0.Me, Clock := max a0.Clock a2.N, Wait := p88 } : Skeen) s71)) 59) :: (.own s69 77 4 (encs l70)) :: (.own s71 77 4 (encs p88)) :: (.blk b3 (enc a1) 3) :: (.own Sl.nil 3 1 (encs ([] : List Int))) :: (.blk b8 (enc (SkeenR.mk ({ Skeen.zero with Wait := ([] : List Wait) } : Skeen) Sl.nil)) 59) :: (.own Sl.nil 77 4 (encs ([] : List Wait))) :: (.blk b5 (enc a2) 61) :: (.blk b1 (enc (SkeenR.mk a0 s_a0_2)) 59) :: L) rfl ?_
       refine Lst.nil ?_
       refine At.hd inv (fun w h => (h.weaken (FLe.refl _)).sublist (sc1 (sk1 (sc1 (sk1 (sk1 (sk1 (sk1 (sk1 (sk1 (.refl _))))))))))) ?_
       refine HdJ.done (by kernel_rfl) ?_
       exact At.meetN p88 (FLe.refl _) ⟨rfl, rfl, rfl, rfl, trivial⟩ rfl h93
      exact trivial
     exact trivial
    exact trivial
   refine HdStep.c (fun inv => ?_) ?_
   ·have g95 := lat_some h86
    refine Lst.r (Ev.indexS (α := Wait) (xs := l72) rfl rfl Try.runUnderlying57 Try.sizeOf77 rfl (by decide) (Rd.own (i := 2) rfl rfl rfl) g95.1 g95.2.1) ?_
    refine Lst.nil ?_
    refine At.hd inv (fun w h => (h.weaken (FLe.refl _)).sublist (sc1 (sk1 (sc1 (sk1 (sk1 (sk1 (sk1 (sk1 (sk1 (.refl _))))))))))) ?_
    refine HdJ.step [4, 8] (by kernel_rfl) rfl ?_
    refine HdStep.c (fun inv => ?_) ?_
    ·refine Lst.r (Ev.load (i := 0) rfl rfl Try.isAgg57 (v := Sl.v s71) ((SkeenR.get_Wait (Get.here _)).off (by rfl))) ?_
     refine Lst.nil ?_
     refine At.hd inv (fun w h => (h.weaken (FLe.refl _)).sublist (sc1 (sk1 (sc1 (sk1 (sk1 (sk1 (sk1 (sk1 (sk1 (.refl _))))))))))) ?_
     refine HdJ.step [8] (by kernel_rfl) rfl ?_
     refine HdStep.c (fun inv => ?_) ?_
     ·refine Lst.r (Ev.fieldS (α := Wait) (f' := r34.toNat * 4 + 1) rfl (Rd.own (i := 2) rfl rfl rfl) ((Get.elemN (s := 4) (x := x85) rfl g95.2.2 (Get.here _)).off (by omega)) rfl Try.runUnderlying77 rfl Try.sizeOf61 rfl rfl rfl) ?_
      refine Lst.nil ?_
      refine At.hd inv (fun w h => (h.weaken (FLe.refl _)).sublist (sc1 (sk1 (sc1 (sk1 (sk1 (sk1 (sk1 (sk1 (sk1 (.refl _))))))))))) ?_
      refine HdJ.step [9] (by kernel_rfl) rfl ?_
      refine HdStep.c (fun inv => ?_) ?_
      ·refine Lst.storeS (i := 2) rfl rfl rfl rfl rfl Try.sizeOf61 (vs := enc a2) rfl (Enc.len _) (by decide) (Enc.one _) (xs' := encs p88) (by rw [← h89]; exact (Put.elemN (s := 4) (x := x85) rfl g95.2.2 (Wait.put_Num_ (Put.here ((Enc.len _).trans (Enc.len _).symm)))).off (by omega)) (L' := (.blk b68 (enc (SkeenR.mk ({ Skeen.zero with Me := a0.Me, Clock := max a0.Clock a2.N, Wait := p88 } : Skeen) s71)) 59) :: (.own s69 77 4 (encs l70)) :: (.own s71 77 4 (encs p88)) :: (.blk b3 (enc a1) 3) :: (.own Sl.nil 3 1 (encs ([] : List Int))) :: (.blk b8 (enc (SkeenR.mk ({ Skeen.zero with Wait := ([] : List Wait) } : Skeen) Sl.nil)) 59) :: (.own Sl.nil 77 4 (encs ([] : List Wait))) :: (.blk b5 (enc a2) 61) :: (.blk b1 (enc (SkeenR.mk a0 s_a0_2)) 59) :: L) rfl ?_
       refine Lst.nil ?_
       refine At.hd inv (fun w h => (h.weaken (FLe.refl _)).sublist (sc1 (sk1 (sc1 (sk1 (sk1 (sk1 (sk1 (sk1 (sk1 (.refl _))))))))))) ?_
       refine HdJ.done (by kernel_rfl) ?_
       exact At.meetN p88 (FLe.refl _) ⟨rfl, rfl, rfl, rfl, trivial⟩ rfl h93
      exact trivial
     exact trivial
    refine HdStep.c (fun inv => ?_) ?_
    ·refine Lst.r (Ev.fieldS (α := Wait) (f' := r34.toNat * 4 + 1) rfl (Rd.own (i := 2) rfl rfl rfl) ((Get.elemN (s := 4) (x := x85) rfl g95.2.2 (Get.here _)).off (by omega)) rfl Try.runUnderlying77 rfl Try.sizeOf61 rfl rfl rfl) ?_
     refine Lst.nil ?_
     refine At.hd inv (fun w h => (h.weaken (FLe.refl _)).sublist (sc1 (sk1 (sc1 (sk1 (sk1 (sk1 (sk1 (sk1 (sk1 (.refl _))))))))))) ?_
     refine HdJ.step [4, 9] (by kernel_rfl) rfl ?_
     refine HdStep.c (fun inv => ?_) ?_
     ·refine Lst.r (Ev.load (i := 0) rfl rfl Try.isAgg57 (v := Sl.v s71) ((SkeenR.get_Wait (Get.here _)).off (by rfl))) ?_
      refine Lst.nil ?_
      refine At.hd inv (fun w h => (h.weaken (FLe.refl _)).sublist (sc1 (sk1 (sc1 (sk1 (sk1 (sk1 (sk1 (sk1 (sk1 (.refl _))))))))))) ?_
      refine HdJ.step [9] (by kernel_rfl) rfl ?_
      refine HdStep.c (fun inv => ?_) ?_
      ·refine Lst.storeS (i := 2) rfl rfl rfl rfl rfl Try.sizeOf61 (vs := enc a2) rfl (Enc.len _) (by decide) (Enc.one _) (xs' := encs p88) (by rw [← h89]; exact (Put.elemN (s := 4) (x := x85) rfl g95.2.2 (Wait.put_Num_ (Put.here ((Enc.len _).trans (Enc.len _).symm)))).off (by omega)) (L' := (.blk b68 (enc (SkeenR.mk ({ Skeen.zero with Me := a0.Me, Clock := max a0.Clock a2.N, Wait := p88 } : Skeen) s71)) 59) :: (.own s69 77 4 (encs l70)) :: (.own s71 77 4 (encs p88)) :: (.blk b3 (enc a1) 3) :: (.own Sl.nil 3 1 (encs ([] : List Int))) :: (.blk b8 (enc (SkeenR.mk ({ Skeen.zero with Wait := ([] : List Wait) } : Skeen) Sl.nil)) 59) :: (.own Sl.nil 77 4 (encs ([] : List Wait))) :: (.blk b5 (enc a2) 61) :: (.blk b1 (enc (SkeenR.mk a0 s_a0_2)) 59) :: L) rfl ?_
       refine Lst.nil ?_
       refine At.hd inv (fun w h => (h.weaken (FLe.refl _)).sublist (sc1 (sk1 (sc1 (sk1 (sk1 (sk1 (sk1 (sk1 (sk1 (.refl _))))))))))) ?_
       refine HdJ.done (by kernel_rfl) ?_
       exact At.meetN p88 (FLe.refl _) ⟨rfl, rfl, rfl, rfl, trivial⟩ rfl h93
      exact trivial
     refine HdStep.c (fun inv => ?_) ?_
     ·refine Lst.storeS (i := 2) rfl rfl rfl rfl rfl Try.sizeOf61 (vs := enc a2) rfl (Enc.len _) (by decide) (Enc.one _) (xs' := encs p88) (by rw [← h89]; exact (Put.elemN (s := 4) (x := x85) rfl g95.2.2 (Wait.put_Num_ (Put.here ((Enc.len _).trans (Enc.len _).symm)))).off (by omega)) (L' := (.blk b68 (enc (SkeenR.mk ({ Skeen.zero with Me := a0.Me, Clock := max a0.Clock a2.N, Wait := p88 } : Skeen) s71)) 59) :: (.own s69 77 4 (encs l70)) :: (.own s71 77 4 (encs p88)) :: (.blk b3 (enc a1) 3) :: (.own Sl.nil 3 1 (encs ([] : List Int))) :: (.blk b8 (enc (SkeenR.mk ({ Skeen.zero with Wait := ([] : List Wait) } : Skeen) Sl.nil)) 59) :: (.own Sl.nil 77 4 (encs ([] : List Wait))) :: (.blk b5 (enc a2) 61) :: (.blk b1 (enc (SkeenR.mk a0 s_a0_2)) 59) :: L) rfl ?_
      refine Lst.nil ?_
      refine At.hd inv (fun w h => (h.weaken (FLe.refl _)).sublist (sc1 (sk1 (sc1 (sk1 (sk1 (sk1 (sk1 (sk1 (sk1 (.refl _))))))))))) ?_
      refine HdJ.keep (fun w => St w0 F83 ((.blk b68 (enc (SkeenR.mk ({ Skeen.zero with Me := a0.Me, Clock := max a0.Clock a2.N, Wait := p88 } : Skeen) s71)) 59) :: (.own s69 77 4 (encs l70)) :: (.own s71 77 4 (encs p88)) :: (.blk b3 (enc a1) 3) :: (.own Sl.nil 3 1 (encs ([] : List Int))) :: (.blk b8 (enc (SkeenR.mk ({ Skeen.zero with Wait := ([] : List Wait) } : Skeen) Sl.nil)) 59) :: (.own Sl.nil 77 4 (encs ([] : List Wait))) :: (.blk b5 (enc a2) 61) :: (.blk b1 (enc (SkeenR.mk a0 s_a0_2)) 59) :: L) w) (fun w h => (h.weaken (FLe.refl _)).sublist (sc1 (sk1 (sc1 (sk1 (sk1 (sk1 (sk1 (sk1 (sk1 (.refl _))))))))))) ?_
      refine HdJ.tk hsel hlt 4 (fun w h => h.sublist (sk1 (sk1 (sk1 (sk1 (sk1 (sk1 (sk1 (sk1 (sk1 (.refl _))))))))))) rfl (Ev.load (i := 0) rfl rfl Try.isAgg57 (v := Sl.v s71) ((SkeenR.get_Wait (Get.here _)).off (by rfl))) ?_
      refine HdJ.done (by kernel_rfl) ?_
      exact At.meetN p88 (FLe.refl _) ⟨rfl, rfl, rfl, rfl, trivial⟩ rfl h93
     exact trivial
    exact trivial
   exact trivial
  refine HdStep.c (fun inv => ?_) ?_
  ·refine Lst.r (Ev.load (i := 0) rfl rfl Try.isAgg57 (v := Sl.v s71) ((SkeenR.get_Wait (Get.here _)).off (by rfl))) ?_
   refine Lst.nil ?_
   refine At.hd inv (fun w h => (h.weaken (FLe.refl _)).sublist (sc1 (sk1 (sc1 (sk1 (sk1 (sk1 (sk1 (sk1 (sk1 (.refl _))))))))))) ?_
   refine HdJ.step [1] (by kernel_rfl) rfl ?_
   refine HdStep.c (fun inv => ?_) ?_
   ·refine Lst.r (Ev.load (i := 0) rfl rfl Try.isAgg57 (v := Sl.v s71) ((SkeenR.get_Wait (Get.here _)).off (by rfl))) ?_
    refine Lst.nil ?_
    refine At.hd inv (fun w h => (h.weaken (FLe.refl _)).sublist (sc1 (sk1 (sc1 (sk1 (sk1 (sk1 (sk1 (sk1 (sk1 (.refl _))))))))))) ?_
    refine HdJ.step [7] (by kernel_rfl) rfl ?_
    refine HdStep.c (fun inv => ?_) ?_
    ·have g96 := lat_some h86
     refine Lst.r (Ev.indexS (α := Wait) (xs := l72) rfl rfl Try.runUnderlying57 Try.sizeOf77 rfl (by decide) (Rd.own (i := 2) rfl rfl rfl) g96.1 g96.2.1) ?_
     refine Lst.nil ?_
     refine At.hd inv (fun w h => (h.weaken (FLe.refl _)).sublist (sc1 (sk1 (sc1 (sk1 (sk1 (sk1 (sk1 (sk1 (sk1 (.refl _))))))))))) ?_
     refine HdJ.step [8] (by kernel_rfl) rfl ?_
     refine HdStep.c (fun inv => ?_) ?_
     ·refine Lst.r (Ev.fieldS (α := Wait) (f' := r34.toNat * 4 + 1) rfl (Rd.own (i := 2) rfl rfl rfl) ((Get.elemN (s := 4) (x := x85) rfl g96.2.2 (Get.here _)).off (by omega)) rfl Try.runUnderlying77 rfl Try.sizeOf61 rfl rfl rfl) ?_
      refine Lst.nil ?_
      refine At.hd inv (fun w h => (h.weaken (FLe.refl _)).sublist (sc1 (sk1 (sc1 (sk1 (sk1 (sk1 (sk1 (sk1 (sk1 (.refl _))))))))))) ?_
      refine HdJ.step [9] (by kernel_rfl) rfl ?_
      refine HdStep.c (fun inv => ?_) ?_
      ·refine Lst.storeS (i := 2) rfl rfl rfl rfl rfl Try.sizeOf61 (vs := enc a2) rfl (Enc.len _) (by decide) (Enc.one _) (xs' := encs p88) (by rw [← h89]; exact (Put.elemN (s := 4) (x := x85) rfl g96.2.2 (Wait.put_Num_ (Put.here ((Enc.len _).trans (Enc.len _).symm)))).off (by omega)) (L' := (.blk b68 (enc (SkeenR.mk ({ Skeen.zero with Me := a0.Me, Clock := max a0.Clock a2.N, Wait := p88 } : Skeen) s71)) 59) :: (.own s69 77 4 (encs l70)) :: (.own s71 77 4 (encs p88)) :: (.blk b3 (enc a1) 3) :: (.own Sl.nil 3 1 (encs ([] : List Int))) :: (.blk b8 (enc (SkeenR.mk ({ Skeen.zero with Wait := ([] : List Wait) } : Skeen) Sl.nil)) 59) :: (.own Sl.nil 77 4 (encs ([] : List Wait))) :: (.blk b5 (enc a2) 61) :: (.blk b1 (enc (SkeenR.mk a0 s_a0_2)) 59) :: L) rfl ?_
       refine Lst.nil ?_
       refine At.hd inv (fun w h => (h.weaken (FLe.refl _)).sublist (sc1 (sk1 (sc1 (sk1 (sk1 (sk1 (sk1 (sk1 (sk1 (.refl _))))))))))) ?_
       refine HdJ.done (by kernel_rfl) ?_
       exact At.meetN p88 (FLe.refl _) ⟨rfl, rfl, rfl, rfl, trivial⟩ rfl h93
      exact trivial
     exact trivial
    exact trivial
   exact trivial
  exact trivial
 rintro F97 l91 hF98 hy
 subst hy
 refine Lst.as (e' := [(6, pv b8 0), (11, pv b68 0), (68, Sl.v s71), (69, iv r34)]) (L' := (.blk b68 (enc (SkeenR.mk ({ Skeen.zero with Me := a0.Me, Clock := max a0.Clock a2.N, Wait := l91 } : Skeen) s71)) 59) :: (.own s69 77 4 (encs l70)) :: (.own s71 77 4 (encs l91)) :: (.blk b3 (enc a1) 3) :: (.own Sl.nil 3 1 (encs ([] : List Int))) :: (.blk b8 (enc (SkeenR.mk ({ Skeen.zero with Wait := ([] : List Wait) } : Skeen) Sl.nil)) 59) :: (.own Sl.nil 77 4 (encs ([] : List Wait))) :: (.blk b5 (enc a2) 61) :: (.blk b1 (enc (SkeenR.mk a0 s_a0_2)) 59) :: L) ⟨rfl, rfl, rfl, rfl, trivial⟩ rfl ?_
 obtain ⟨x99, h100, H⟩ := bind_some H
 have g101 := lat_some h100
 refine Lst.r (Ev.indexS (α := Wait) (xs := l91) rfl rfl Try.runUnderlying57 Try.sizeOf77 rfl (by decide) (Rd.own (i := 2) rfl rfl rfl) g101.1 g101.2.1) ?_
 refine Lst.r (Ev.fieldS (α := Wait) (f' := r34.toNat * 4 + 3) rfl (Rd.own (i := 2) rfl rfl rfl) ((Get.elemN (s := 4) (x := x99) rfl g101.2.2 (Get.here _)).off (by omega)) rfl Try.runUnderlying77 rfl Try.sizeOf4 rfl rfl rfl) ?_
 obtain ⟨p102, h103, H⟩ := Let_some H
 refine Lst.storeS (i := 2) rfl rfl rfl rfl rfl Try.sizeOf4 (vs := [.bool true]) rfl rfl (by decide) rfl (xs' := encs p102) (by rw [← h103]; exact (Put.elemN (s := 4) (x := x99) rfl g101.2.2 (Wait.put_Fixed (Put.here (vs := [.bool true]) rfl))).off (by omega)) (L' := (.blk b68 (enc (SkeenR.mk ({ Skeen.zero with Me := a0.Me, Clock := max a0.Clock a2.N, Wait := p102 } : Skeen) s71)) 59) :: (.own s69 77 4 (encs l70)) :: (.own s71 77 4 (encs p102)) :: (.blk b3 (enc a1) 3) :: (.own Sl.nil 3 1 (encs ([] : List Int))) :: (.blk b8 (enc (SkeenR.mk ({ Skeen.zero with Wait := ([] : List Wait) } : Skeen) Sl.nil)) 59) :: (.own Sl.nil 77 4 (encs ([] : List Wait))) :: (.blk b5 (enc a2) 61) :: (.blk b1 (enc (SkeenR.mk a0 s_a0_2)) 59) :: L) rfl ?_
 refine Lst.nil ?_
 refine At.then ?_
 refine Cd.seq ?_
 refine Cd.region ?_
 refine Lst.r (Ev.fieldAddr (off' := 2) rfl Try.runUnderlying59 rfl Try.sizeOf57 rfl rfl) ?_
 refine Lst.r (Ev.load (i := 0) rfl rfl Try.isAgg57 (v := Sl.v s71) ((SkeenR.get_Wait (Get.here _)).off (by rfl))) ?_
 obtain ⟨r104, h105, H⟩ := bind_some H
 refine Lst.front (i := 2) rfl (L' := (.own s71 77 4 (encs p102)) :: (.blk b68 (enc (SkeenR.mk ({ Skeen.zero with Me := a0.Me, Clock := max a0.Clock a2.N, Wait := p102 } : Skeen) s71)) 59) :: (.own s69 77 4 (encs l70)) :: (.blk b3 (enc a1) 3) :: (.own Sl.nil 3 1 (encs ([] : List Int))) :: (.blk b8 (enc (SkeenR.mk ({ Skeen.zero with Wait := ([] : List Wait) } : Skeen) Sl.nil)) 59) :: (.own Sl.nil 77 4 (encs ([] : List Wait))) :: (.blk b5 (enc a2) 61) :: (.blk b1 (enc (SkeenR.mk a0 s_a0_2)) 59) :: L) rfl ?_
 refine Lst.call rfl rfl (by decide) (vs := [Sl.v s71, .func (.func 85) #[] #[]]) ⟨rfl, rfl, trivial⟩ Try.call84 (slices_SortFunc_api_Wait_api_Wait_Fix_3_sim h105 w0 _ M _ (sc8 hM)) (fun F106 L' v hF107 hv => ?_)
 obtain ⟨rfl, rfl⟩ := hv
 refine Lst.nil ?_
 refine At.then ?_
 refine Cd.seq ?_
 refine Cd.region ?_
 refine Lst.addNil 3 1 ?_
 refine Lst.r (Ev.assign rfl) ?_
 refine Lst.nil ?_
 refine At.then ?_
 refine Cd.seq ?_
 refine Cd.block ?_
 obtain ⟨ol109, H, HKl109⟩ := andThen_some H
 refine Cd.loop (σ := Nat × Skeen × Sl × (List Int) × Sl × (List Wait)) (fun (k109, y110, s111, l112, s113, l114) => [(6, pv b8 0), (11, pv b68 0), (12, Sl.v s111)]) (fun (k109, y110, s111, l112, s113, l114) => (.own s111 3 1 (encs l112)) :: (.own s113 77 4 (encs l114)) :: (.blk b68 (enc (SkeenR.mk ({ y110 with Wait := l114 } : Skeen) s113)) 59) :: (.own s69 77 4 (encs l70)) :: (.blk b3 (enc a1) 3) :: (.own Sl.nil 3 1 (encs ([] : List Int))) :: (.blk b8 (enc (SkeenR.mk ({ Skeen.zero with Wait := ([] : List Wait) } : Skeen) Sl.nil)) 59) :: (.own Sl.nil 77 4 (encs ([] : List Wait))) :: (.blk b5 (enc a2) 61) :: (.blk b1 (enc (SkeenR.mk a0 s_a0_2)) 59) :: L) (fun _ => (fun (k109, y110, s111, l112, s113, l114) => whileM (skeen_Fix_B0) k109 (y110, l112, l114) = some ol109)) (fun (k109, y110, s111, l112, s113, l114) => k109) (fu, ({ Skeen.zero with Me := a0.Me, Clock := max a0.Clock a2.N, Wait := r104 } : Skeen), Sl.nil, ([] : List Int), s71, r104) ⟨rfl, rfl, rfl, trivial⟩ rfl H ?_
 rintro F115 ⟨k109, y110, s111, l112, s113, l114⟩ hF116 H
 refine Cd.as (e' := [(6, pv b8 0), (11, pv b68 0), (12, Sl.v s111)]) (L' := (.own s111 3 1 (encs l112)) :: (.own s113 77 4 (encs l114)) :: (.blk b68 (enc (SkeenR.mk ({ y110 with Wait := l114 } : Skeen) s113)) 59) :: (.own s69 77 4 (encs l70)) :: (.blk b3 (enc a1) 3) :: (.own Sl.nil 3 1 (encs ([] : List Int))) :: (.blk b8 (enc (SkeenR.mk ({ Skeen.zero with Wait := ([] : List Wait) } : Skeen) Sl.nil)) 59) :: (.own Sl.nil 77 4 (encs ([] : List Wait))) :: (.blk b5 (enc a2) 61) :: (.blk b1 (enc (SkeenR.mk a0 s_a0_2)) 59) :: L) ⟨rfl, rfl, rfl, trivial⟩ rfl ?_
 rcases k109 with _ | k109
 ·cases H
 obtain ⟨c109, H, hgo109, hbrk109, hret109⟩ := whileM_go H
 unfold skeen_Fix_B0 at H
 try dsimp only at H
 refine Cd.seq ?_
 refine Cd.seq ?_
 refine Cd.region ?_
 refine Lst.r (Ev.fieldAddr (off' := 2) rfl Try.runUnderlying59 rfl Try.sizeOf57 rfl rfl) ?_
 refine Lst.r (Ev.load (i := 2) rfl rfl Try.isAgg57 (v := Sl.v s113) ((SkeenR.get_Wait (Get.here _)).off (by rfl))) ?_
 refine Lst.r (Ev.lenS (α := Wait) (xs := l114) (by decide) rfl rfl Try.runUnderlying57 (Rd.own (i := 1) rfl rfl rfl)) ?_
 refine Lst.r (Ev.gtr rfl rfl) ?_
 refine Lst.r (Ev.move rfl) ?_
 obtain ⟨o117, H, HKo117⟩ := bind_some H
 refine Lst.join (σ := Bool) 6 (fun y118 => [(6, pv b8 0), (11, pv b68 0), (12, Sl.v s111), (88, .bool y118)]) (fun y118 => (.own s111 3 1 (encs l112)) :: (.own s113 77 4 (encs l114)) :: (.blk b68 (enc (SkeenR.mk ({ y110 with Wait := l114 } : Skeen) s113)) 59) :: (.own s69 77 4 (encs l70)) :: (.blk b3 (enc a1) 3) :: (.own Sl.nil 3 1 (encs ([] : List Int))) :: (.blk b8 (enc (SkeenR.mk ({ Skeen.zero with Wait := ([] : List Wait) } : Skeen) Sl.nil)) 59) :: (.own Sl.nil 77 4 (encs ([] : List Wait))) :: (.blk b5 (enc a2) 61) :: (.blk b1 (enc (SkeenR.mk a0 s_a0_2)) 59) :: L) (fun _ y118 => y118 = o117) ?_ ?_
 ·rcases (Bool.eq_false_or_eq_true (decide ((l114.length : Int) > (0 : Int)))).symm with hb119 | hb119
  ·replace H := ite_f hb119 H
   refine Lst.skip rfl rfl rfl hb119 rfl (by decide) ?_
   refine Lst.skip rfl rfl rfl hb119 rfl (by decide) ?_
   refine Lst.skip rfl rfl rfl hb119 rfl (by decide) ?_
   refine Lst.skip rfl rfl rfl hb119 rfl (by decide) ?_
   refine Lst.skip rfl rfl rfl hb119 rfl (by decide) ?_
   refine Lst.r (Ev.pickF rfl hb119 rfl) ?_
   refine Lst.nil ?_
   exact At.meet false (FLe.refl _) ⟨rfl, rfl, rfl, rfl, trivial⟩ rfl (some_inj H)
  replace H := ite_t hb119 H
  refine Lst.rG hb119 (Ev.fieldAddr (off' := 2) rfl Try.runUnderlying59 rfl Try.sizeOf57 rfl rfl) ?_
  refine Lst.rG hb119 (Ev.load (i := 2) rfl rfl Try.isAgg57 (v := Sl.v s113) ((SkeenR.get_Wait (Get.here _)).off (by rfl))) ?_
  obtain ⟨x120, h121, H⟩ := bind_some H
  have g122 := lat_some h121
  refine Lst.rG hb119 (Ev.indexS (α := Wait) (xs := l114) rfl rfl Try.runUnderlying57 Try.sizeOf77 rfl (by decide) (Rd.own (i := 1) rfl rfl rfl) g122.1 g122.2.1) ?_
  refine Lst.rG hb119 (Ev.fieldS (α := Wait) (f' := (0 : Int).toNat * 4 + 3) rfl (Rd.own (i := 1) rfl rfl rfl) ((Get.elemN (s := 4) (x := x120) rfl g122.2.2 (Get.here _)).off (by omega)) rfl Try.runUnderlying77 rfl Try.sizeOf4 rfl rfl rfl) ?_
  refine Lst.rG hb119 (Ev.loadS (α := Wait) rfl (Rd.own (i := 1) rfl rfl rfl) Try.isAgg4 (v := .bool x120.Fixed) ((Get.elemN (s := 4) (x := x120) rfl g122.2.2 (Wait.get_Fixed (Get.here _))).off (by omega))) ?_
  refine Lst.r (Ev.pickT rfl hb119 rfl) ?_
  refine Lst.nil ?_
  exact At.meet x120.Fixed (FLe.refl _) ⟨rfl, rfl, rfl, rfl, trivial⟩ rfl (some_inj H)
 rintro F123 y118 hF124 hy
 subst hy
 refine Lst.as (e' := [(6, pv b8 0), (11, pv b68 0), (12, Sl.v s111), (88, .bool y118)]) (L' := (.own s111 3 1 (encs l112)) :: (.own s113 77 4 (encs l114)) :: (.blk b68 (enc (SkeenR.mk ({ y110 with Wait := l114 } : Skeen) s113)) 59) :: (.own s69 77 4 (encs l70)) :: (.blk b3 (enc a1) 3) :: (.own Sl.nil 3 1 (encs ([] : List Int))) :: (.blk b8 (enc (SkeenR.mk ({ Skeen.zero with Wait := ([] : List Wait) } : Skeen) Sl.nil)) 59) :: (.own Sl.nil 77 4 (encs ([] : List Wait))) :: (.blk b5 (enc a2) 61) :: (.blk b1 (enc (SkeenR.mk a0 s_a0_2)) 59) :: L) ⟨rfl, rfl, rfl, rfl, trivial⟩ rfl ?_
 replace H := HKo117
 refine Lst.nil ?_
 refine At.then ?_
 rcases (Bool.eq_false_or_eq_true y118).symm with hb125 | hb125
 ·replace H := ite_f hb125 H
  refine Cd.condF rfl hb125 ?_
  refine Cd.exit ?_
  refine At.then_exit ?_
  refine At.then_exit ?_
  refine At.in_exit ?_
  have H := hbrk109 _ (some_inj H).symm
  subst H
  replace H := HKl109
  refine At.then ?_
  refine Cd.seq ?_
  refine Cd.region ?_
  refine Lst.r (Ev.fieldAddr (off' := 2) rfl Try.runUnderlying59 rfl Try.sizeOf57 rfl rfl) ?_
  refine Lst.r (Ev.load (i := 2) rfl rfl Try.isAgg57 (v := Sl.v s113) ((SkeenR.get_Wait (Get.here _)).off (by rfl))) ?_
  obtain ⟨r126, h127, H⟩ := bind_some H
  refine Lst.call rfl rfl (by decide) (vs := [Sl.v s113]) ⟨rfl, trivial⟩ Try.call78 (slices_Clone_api_Wait_api_Wait_sim h127 w0 _ _ _ (.refl _) (Rd.own (i := 1) rfl rfl rfl)) (fun F130 L' v hF131 hv => ?_)
  obtain ⟨s128, rfl, rfl⟩ := hv
  refine Lst.r (Ev.fieldAddr (off' := 2) rfl Try.runUnderlying59 rfl Try.sizeOf57 rfl rfl) ?_
  refine Lst.store (i := 3) rfl rfl rfl rfl rfl Try.sizeOf57 (vs := [Sl.v s128]) rfl rfl rfl (cs' := enc (SkeenR.mk ({ y110 with Wait := r126 } : Skeen) s128)) ((SkeenR.put_Wait (Put.here (vs := [Sl.v s128]) rfl)).off (by rfl)) (L' := (.own s128 77 4 (encs r126)) :: (.own s111 3 1 (encs l112)) :: (.own s113 77 4 (encs l114)) :: (.blk b68 (enc (SkeenR.mk ({ y110 with Wait := r126 } : Skeen) s128)) 59) :: (.own s69 77 4 (encs l70)) :: (.blk b3 (enc a1) 3) :: (.own Sl.nil 3 1 (encs ([] : List Int))) :: (.blk b8 (enc (SkeenR.mk ({ Skeen.zero with Wait := ([] : List Wait) } : Skeen) Sl.nil)) 59) :: (.own Sl.nil 77 4 (encs ([] : List Wait))) :: (.blk b5 (enc a2) 61) :: (.blk b1 (enc (SkeenR.mk a0 s_a0_2)) 59) :: L) rfl ?_
  refine Lst.nil ?_
  refine At.then ?_
  refine Cd.seq ?_
  refine Cd.region ?_
  refine Lst.r (Ev.loadA (i := 3) rfl rfl Try.isAgg59 Try.sizeOf59 (ch := enc (SkeenR.mk ({ y110 with Wait := r126 } : Skeen) s128)) (Enc.len _) (Get.here _)) ?_
  refine Lst.r (Ev.move rfl) ?_
  refine Lst.store (i := 7) rfl rfl rfl rfl rfl Try.sizeOf59 (vs := enc (SkeenR.mk ({ y110 with Wait := r126 } : Skeen) s128)) rfl (Enc.len _) (Enc.one _) (cs' := enc (SkeenR.mk ({ y110 with Wait := r126 } : Skeen) s128)) (Put.here ((Enc.len _).trans (Enc.len _).symm)) (L' := (.own s128 77 4 (encs r126)) :: (.own s111 3 1 (encs l112)) :: (.own s113 77 4 (encs l114)) :: (.blk b68 (enc (SkeenR.mk ({ y110 with Wait := r126 } : Skeen) s128)) 59) :: (.own s69 77 4 (encs l70)) :: (.blk b3 (enc a1) 3) :: (.own Sl.nil 3 1 (encs ([] : List Int))) :: (.blk b8 (enc (SkeenR.mk ({ y110 with Wait := r126 } : Skeen) s128)) 59) :: (.own Sl.nil 77 4 (encs ([] : List Wait))) :: (.blk b5 (enc a2) 61) :: (.blk b1 (enc (SkeenR.mk a0 s_a0_2)) 59) :: L) rfl ?_
  refine Lst.r (Ev.assign rfl) ?_
  refine Lst.r (Ev.assign rfl) ?_
  refine Lst.nil ?_
  refine At.then ?_
  obtain rfl := some_inj H
  refine Cd.ret ?_
  exact At.ret3 rfl (Res.cellA (i := 7) rfl rfl Try.isAgg59 Try.sizeOf59 (Enc.len _)) (Res.tmp rfl) (Res.tmp rfl) (FLe.trans (FLe.trans (FLe.trans (FLe.trans (FLe.trans (FLe.trans hF30 hF84) hF98) hF107) hF116) hF124) hF131) (sk1 (sk1 (sc1 (sc1 (sc1 (sc1 (sc1 (sc1 (sc1 (sc1 (sc1 (.refl _)))))))))))) ⟨s128, s111, rfl, rfl⟩
 replace H := ite_t hb125 H
 refine Cd.condT rfl hb125 ?_
 refine Cd.skip ?_
 refine At.then ?_
 refine Cd.block ?_
 refine Cd.seq ?_
 refine Cd.region ?_
 refine Lst.r (Ev.move rfl) ?_
 refine Lst.r (Ev.fieldAddr (off' := 2) rfl Try.runUnderlying59 rfl Try.sizeOf57 rfl rfl) ?_
 refine Lst.r (Ev.load (i := 2) rfl rfl Try.isAgg57 (v := Sl.v s113) ((SkeenR.get_Wait (Get.here _)).off (by rfl))) ?_
 obtain ⟨x132, h133, H⟩ := bind_some H
 have g134 := lat_some h133
 refine Lst.r (Ev.indexS (α := Wait) (xs := l114) rfl rfl Try.runUnderlying57 Try.sizeOf77 rfl (by decide) (Rd.own (i := 1) rfl rfl rfl) g134.1 g134.2.1) ?_
 refine Lst.r (Ev.fieldS (α := Wait) (f' := (0 : Int).toNat * 4 + 0) rfl (Rd.own (i := 1) rfl rfl rfl) ((Get.elemN (s := 4) (x := x132) rfl g134.2.2 (Get.here _)).off (by omega)) rfl Try.runUnderlying77 rfl Try.sizeOf3 rfl rfl rfl) ?_
 refine Lst.r (Ev.loadS (α := Wait) rfl (Rd.own (i := 1) rfl rfl rfl) Try.isAgg3 (v := iv x132.Id) ((Get.elemN (s := 4) (x := x132) rfl g134.2.2 (Wait.get_Id (Get.here _))).off (by omega))) ?_
 refine Lst.buildSlice (α := Int) (xs := ([x132.Id] : List Int)) (pv := [(0, iv x132.Id)]) rfl rfl (by decide) ⟨rfl, rfl, trivial⟩ (run_buildSlice (α := Int) (z0 := (0 : Int)) (xs := ([x132.Id] : List Int)) Try.runUnderlying36 Try.sizeOf3 Try.zeroValue3 rfl rfl rfl (by decide) rfl (fill_cons (cs := encs (List.replicate 1 (0 : Int))) (cs' := encs ((List.replicate 1 (0 : Int)).set 0 x132.Id)) (vs := [iv x132.Id]) rfl rfl rfl ((Put.elemN (s := 1) (i := 0) (x := (0 : Int)) (y := x132.Id) rfl rfl (Put.here (vs := [iv x132.Id]) rfl)).off rfl) fill_nil)) rfl rfl (by decide) (fun s135 _ => ?_)
 obtain ⟨u137, h138, H⟩ := bind_some H
 refine Lst.append (i := 1) (α := Int) (xs := l112) (ys := ([x132.Id] : List Int)) rfl rfl (by decide) rfl rfl Try.runUnderlying36 Try.typeInfo3 rfl rfl rfl rfl rfl rfl (Rd.own (i := 0) rfl rfl rfl) rfl (room_some h138) rfl (fun s139 => ?_)
 refine Lst.its (L' := (.own s135 3 1 (encs ([x132.Id] : List Int))) :: (.own s139 3 1 (encs (l112 ++ ([x132.Id] : List Int)))) :: (.own s113 77 4 (encs l114)) :: (.blk b68 (enc (SkeenR.mk ({ y110 with Wait := l114 } : Skeen) s113)) 59) :: (.own s69 77 4 (encs l70)) :: (.blk b3 (enc a1) 3) :: (.own Sl.nil 3 1 (encs ([] : List Int))) :: (.blk b8 (enc (SkeenR.mk ({ Skeen.zero with Wait := ([] : List Wait) } : Skeen) Sl.nil)) 59) :: (.own Sl.nil 77 4 (encs ([] : List Wait))) :: (.blk b5 (enc a2) 61) :: (.blk b1 (enc (SkeenR.mk a0 s_a0_2)) 59) :: L) rfl ?_
 refine Lst.r (Ev.assign rfl) ?_
 refine Lst.nil ?_
 refine At.then ?_
 refine Cd.region ?_
 refine Lst.r (Ev.fieldAddr (off' := 2) rfl Try.runUnderlying59 rfl Try.sizeOf57 rfl rfl) ?_
 refine Lst.r (Ev.load (i := 3) rfl rfl Try.isAgg57 (v := Sl.v s113) ((SkeenR.get_Wait (Get.here _)).off (by rfl))) ?_
 obtain ⟨m140, h141, H⟩ := bind_some H
 obtain ⟨g142, gl143⟩ := cutL_some h141
 try dsimp only at g142
 refine Lst.r (Ev.cut (α := Wait) (xs := l114) (i := (1 : Int)) (j := (l114.length : Int)) rfl rfl rfl Try.runUnderlying57 Try.sizeOf77 rfl (by decide) (Rd.own (i := 2) rfl rfl rfl) g142.1 g142.2.1 g142.2.2) ?_
 refine Lst.cutOwn (i := 2) (α := Wait) (lo := ((1 : Int) : Int).toNat) (hi := ((l114.length : Int) : Int).toNat) rfl rfl rfl (by decide) (by omega) (by omega) (L' := (.own s135 3 1 (encs ([x132.Id] : List Int))) :: (.own s139 3 1 (encs (l112 ++ ([x132.Id] : List Int)))) :: (.own (s113.cut ((1 : Int) : Int).toNat ((l114.length : Int) : Int).toNat 4) 77 4 (encs m140)) :: (.blk b68 (enc (SkeenR.mk y110 s113)) 59) :: (.own s69 77 4 (encs l70)) :: (.blk b3 (enc a1) 3) :: (.own Sl.nil 3 1 (encs ([] : List Int))) :: (.blk b8 (enc (SkeenR.mk ({ Skeen.zero with Wait := ([] : List Wait) } : Skeen) Sl.nil)) 59) :: (.own Sl.nil 77 4 (encs ([] : List Wait))) :: (.blk b5 (enc a2) 61) :: (.blk b1 (enc (SkeenR.mk a0 s_a0_2)) 59) :: L) (by subst gl143; rfl) ?_
 refine Lst.r (Ev.fieldAddr (off' := 2) rfl Try.runUnderlying59 rfl Try.sizeOf57 rfl rfl) ?_
 refine Lst.store (i := 3) rfl rfl rfl rfl rfl Try.sizeOf57 (vs := [Sl.v (s113.cut ((1 : Int) : Int).toNat ((l114.length : Int) : Int).toNat 4)]) rfl rfl rfl (cs' := enc (SkeenR.mk ({ y110 with Wait := m140 } : Skeen) (s113.cut ((1 : Int) : Int).toNat ((l114.length : Int) : Int).toNat 4))) ((SkeenR.put_Wait (Put.here (vs := [Sl.v (s113.cut ((1 : Int) : Int).toNat ((l114.length : Int) : Int).toNat 4)]) rfl)).off (by rfl)) (L' := (.own s135 3 1 (encs ([x132.Id] : List Int))) :: (.own s139 3 1 (encs (l112 ++ ([x132.Id] : List Int)))) :: (.own (s113.cut ((1 : Int) : Int).toNat ((l114.length : Int) : Int).toNat 4) 77 4 (encs m140)) :: (.blk b68 (enc (SkeenR.mk ({ y110 with Wait := m140 } : Skeen) (s113.cut ((1 : Int) : Int).toNat ((l114.length : Int) : Int).toNat 4))) 59) :: (.own s69 77 4 (encs l70)) :: (.blk b3 (enc a1) 3) :: (.own Sl.nil 3 1 (encs ([] : List Int))) :: (.blk b8 (enc (SkeenR.mk ({ Skeen.zero with Wait := ([] : List Wait) } : Skeen) Sl.nil)) 59) :: (.own Sl.nil 77 4 (encs ([] : List Wait))) :: (.blk b5 (enc a2) 61) :: (.blk b1 (enc (SkeenR.mk a0 s_a0_2)) 59) :: L) rfl ?_
 refine Lst.nil ?_
 refine At.in_normal ?_
 refine At.less (L' := (.own s139 3 1 (encs (l112 ++ ([x132.Id] : List Int)))) :: (.own (s113.cut ((1 : Int) : Int).toNat ((l114.length : Int) : Int).toNat 4) 77 4 (encs m140)) :: (.blk b68 (enc (SkeenR.mk ({ y110 with Wait := m140 } : Skeen) (s113.cut ((1 : Int) : Int).toNat ((l114.length : Int) : Int).toNat 4))) 59) :: (.own s69 77 4 (encs l70)) :: (.blk b3 (enc a1) 3) :: (.own Sl.nil 3 1 (encs ([] : List Int))) :: (.blk b8 (enc (SkeenR.mk ({ Skeen.zero with Wait := ([] : List Wait) } : Skeen) Sl.nil)) 59) :: (.own Sl.nil 77 4 (encs ([] : List Wait))) :: (.blk b5 (enc a2) 61) :: (.blk b1 (enc (SkeenR.mk a0 s_a0_2)) 59) :: L) (sc1 (sk1 (sk1 (sk1 (sk1 (sk1 (sk1 (sk1 (sk1 (sk1 (sk1 (.refl _)))))))))))) ?_
 exact At.meet (k109, ({ y110 with Wait := m140 } : Skeen), s139, l112 ++ ([x132.Id] : List Int), (s113.cut ((1 : Int) : Int).toNat ((l114.length : Int) : Int).toNat 4), m140) (FLe.trans hF116 hF124) ⟨rfl, rfl, rfl, trivial⟩ rfl ⟨hgo109 _ (some_inj H).symm, Nat.lt_succ_self _⟩
set_option maxRecDepth 20000 in
theorem slices_MaxFunc_api_Num_api_Num_skeen_compare_sim {fu : Nat} {a0 : List Num} {s_a0 : Sl} {r : Num} (H : slices_MaxFunc_api_Num_api_Num_skeen_compare fu a0 = some r) (w0 : World) (F : Frz) (M L : List Item) (hM : M.Sublist L) (hs_a0 : Rd w0 F M s_a0 a0) : Ok Try.prog w0 86 [Sl.v s_a0, .func (.func 82) #[] #[]] F (L) (Is (.agg (enc r).toArray) (L)) := by
 unfold slices_MaxFunc_api_Num_api_Num_skeen_compare at H
 refine Ok.enter (m := 2) (n := 33) Try.func86 rfl rfl rfl (by decide) ?_
 refine Cd.env (e' := [(0, Sl.v s_a0), (1, .func (.func 82) #[] #[])]) rfl ?_
 refine Cd.seq ?_
 refine Cd.region ?_
 refine Lst.alloc (cs := enc Num.zero) rfl rfl (by decide) Try.zeroValue61 rfl (fun b1 => ?_)
 refine Lst.nil ?_
 refine At.then ?_
 refine Cd.seq ?_
 refine Cd.seq ?_
 refine Cd.region ?_
 refine Lst.r (Ev.move rfl) ?_
 refine Lst.r (Ev.lenS (α := Num) (xs := a0) (by decide) rfl rfl Try.runUnderlying62 (hs_a0.mono (FLe.refl _) (sc1 hM))) ?_
 refine Lst.r (Ev.lss rfl rfl) ?_
 refine Lst.nil ?_
 refine At.then ?_
 rcases Bool.eq_false_or_eq_true (decide ((a0.length : Int) < (1 : Int))) with hb3 | hb3
 ·replace H := ite_t hb3 H
  cases H
 replace H := ite_f hb3 H
 refine Cd.condF rfl hb3 ?_
 refine Cd.skip ?_
 refine At.then ?_
 refine Cd.seq ?_
 refine Cd.region ?_
 refine Lst.r (Ev.move rfl) ?_
 obtain ⟨x4, h5, H⟩ := bind_some H
 have g6 := lat_some h5
 refine Lst.r (Ev.indexS (α := Num) (xs := a0) rfl rfl Try.runUnderlying62 Try.sizeOf61 rfl (by decide) (hs_a0.mono (FLe.refl _) (sc1 hM)) g6.1 g6.2.1) ?_
 refine Lst.r (Ev.loadSA (α := Num) rfl (hs_a0.mono (FLe.refl _) (sc1 hM)) Try.isAgg61 Try.sizeOf61 (ch := enc x4) (Enc.len _) (by decide) ((Get.elemN (s := 2) (x := x4) rfl g6.2.2 (Get.here _)).off (by omega))) ?_
 refine Lst.alloc (cs := enc Num.zero) rfl rfl (by decide) Try.zeroValue61 rfl (fun b7 => ?_)
 refine Lst.store (i := 0) rfl rfl rfl rfl rfl Try.sizeOf61 (vs := enc x4) rfl (Enc.len _) (Enc.one _) (cs' := enc x4) (Put.here ((Enc.len _).trans (Enc.len _).symm)) (L' := (.blk b7 (enc x4) 61) :: (.blk b1 (enc Num.zero) 61) :: L) rfl ?_
 refine Lst.nil ?_
 refine At.then ?_
 refine Cd.seq ?_
 refine Cd.seq ?_
 refine Cd.region ?_
 refine Lst.r (Ev.assign rfl) ?_
 refine Lst.nil ?_
 refine At.then ?_
 refine Cd.block ?_
 obtain ⟨ol9, H, HKl9⟩ := andThen_some H
 refine Cd.loop (σ := Nat × Int × Num) (fun (k9, y10, y11) => [(0, Sl.v s_a0), (1, .func (.func 82) #[] #[]), (4, pv b1 0), (5, pv b7 0), (6, iv y10)]) (fun (k9, y10, y11) => (.blk b7 (enc y11) 61) :: (.blk b1 (enc Num.zero) 61) :: L) (fun _ => (fun (k9, y10, y11) => whileM (slices_MaxFunc_api_Num_api_Num_skeen_compare_B0 a0) k9 (y10, y11) = some ol9)) (fun (k9, y10, y11) => k9) (fu, (1 : Int), x4) ⟨rfl, rfl, rfl, rfl, rfl, trivial⟩ rfl H ?_
 rintro F12 ⟨k9, y10, y11⟩ hF13 H
 refine Cd.as (e' := [(0, Sl.v s_a0), (1, .func (.func 82) #[] #[]), (4, pv b1 0), (5, pv b7 0), (6, iv y10)]) (L' := (.blk b7 (enc y11) 61) :: (.blk b1 (enc Num.zero) 61) :: L) ⟨rfl, rfl, rfl, rfl, rfl, trivial⟩ rfl ?_
 rcases k9 with _ | k9
 ·cases H
 obtain ⟨c9, H, hgo9, hbrk9, hret9⟩ := whileM_go H
 unfold slices_MaxFunc_api_Num_api_Num_skeen_compare_B0 at H
 try dsimp only at H
 refine Cd.seq ?_
 refine Cd.seq ?_
 refine Cd.region ?_
 refine Lst.r (Ev.move rfl) ?_
 refine Lst.r (Ev.move rfl) ?_
 refine Lst.r (Ev.lenS (α := Num) (xs := a0) (by decide) rfl rfl Try.runUnderlying62 (hs_a0.mono hF13 (sc2 hM))) ?_
 refine Lst.r (Ev.lss rfl rfl) ?_
 refine Lst.nil ?_
 refine At.then ?_
 rcases (Bool.eq_false_or_eq_true (decide (y10 < (a0.length : Int)))).symm with hb14 | hb14
 ·replace H := ite_f hb14 H
  refine Cd.condF rfl hb14 ?_
  refine Cd.exit ?_
  refine At.then_exit ?_
  refine At.then_exit ?_
  refine At.in_exit ?_
  have H := hbrk9 _ (some_inj H).symm
  subst H
  replace H := HKl9
  refine At.then ?_
  refine Cd.seq ?_
  refine Cd.region ?_
  refine Lst.r (Ev.loadA (i := 0) rfl rfl Try.isAgg61 Try.sizeOf61 (ch := enc y11) (Enc.len _) (Get.here _)) ?_
  refine Lst.store (i := 1) rfl rfl rfl rfl rfl Try.sizeOf61 (vs := enc y11) rfl (Enc.len _) (Enc.one _) (cs' := enc y11) (Put.here ((Enc.len _).trans (Enc.len _).symm)) (L' := (.blk b7 (enc y11) 61) :: (.blk b1 (enc y11) 61) :: L) rfl ?_
  refine Lst.nil ?_
  refine At.then ?_
  obtain rfl := some_inj H
  refine Cd.ret ?_
  exact At.ret1 rfl (Res.cellA (i := 1) rfl rfl Try.isAgg61 Try.sizeOf61 (Enc.len _)) hF13 (sc1 (sc1 (.refl _))) ⟨rfl, rfl⟩
 replace H := ite_t hb14 H
 refine Cd.condT rfl hb14 ?_
 refine Cd.skip ?_
 refine At.then ?_
 refine Cd.seq ?_
 refine Cd.block ?_
 refine Cd.seq ?_
 refine Cd.quiet (by kernel_rfl) (by kernel_rfl) ?_
 refine Qt.r (Ev.move rfl) ?_
 refine Qt.r (Ev.move rfl) ?_
 refine Qt.r (Ev.move rfl) ?_
 obtain ⟨x15, h16, H⟩ := bind_some H
 have g17 := lat_some h16
 refine Qt.r (Ev.indexS (α := Num) (xs := a0) rfl rfl Try.runUnderlying62 Try.sizeOf61 rfl (by decide) (hs_a0.mono hF13 (sc2 hM)) g17.1 g17.2.1) ?_
 refine Qt.r (Ev.loadSA (α := Num) rfl (hs_a0.mono hF13 (sc2 hM)) Try.isAgg61 Try.sizeOf61 (ch := enc x15) (Enc.len _) (by decide) ((Get.elemN (s := 2) (x := x15) rfl g17.2.2 (Get.here _)).off (by omega))) ?_
 refine Qt.r (Ev.loadA (i := 0) rfl rfl Try.isAgg61 Try.sizeOf61 (ch := enc y11) (Enc.len _) (Get.here _)) ?_
 obtain ⟨r18, h19, H⟩ := bind_some H
 refine Qt.callV rfl rfl (by decide) (vs := [.agg (enc x15).toArray, .agg (enc y11).toArray]) (cs := []) rfl ⟨rfl, rfl, trivial⟩ Try.call82 (skeen_compare_sim h19 w0 _ M _ (sc2 hM)) ?_
 refine Qt.r (Ev.gtr rfl rfl) ?_
 refine Qt.done ?_
 refine At.then ?_
 rcases (Bool.eq_false_or_eq_true (decide (r18 > (0 : Int)))).symm with hb22 | hb22
 ·replace H := ite_f hb22 H
  refine Cd.condF rfl hb22 ?_
  refine Cd.skip ?_
  refine At.in_normal ?_
  refine At.then ?_
  refine Cd.region ?_
  refine Lst.r (Ev.move rfl) ?_
  refine Lst.r (Ev.add rfl rfl) ?_
  refine Lst.r (Ev.assign rfl) ?_
  refine Lst.nil ?_
  exact At.meet (k9, w64 (y10 + (1 : Int)), y11) hF13 ⟨rfl, rfl, rfl, rfl, rfl, trivial⟩ rfl ⟨hgo9 _ (some_inj H).symm, Nat.lt_succ_self _⟩
 replace H := ite_t hb22 H
 refine Cd.condT rfl hb22 ?_
 refine Cd.region ?_
 refine Lst.r (Ev.move rfl) ?_
 refine Lst.r (Ev.move rfl) ?_
 obtain ⟨x23, h24, H⟩ := bind_some H
 have g25 := lat_some h24
 refine Lst.r (Ev.indexS (α := Num) (xs := a0) rfl rfl Try.runUnderlying62 Try.sizeOf61 rfl (by decide) (hs_a0.mono hF13 (sc2 hM)) g25.1 g25.2.1) ?_
 refine Lst.r (Ev.loadSA (α := Num) rfl (hs_a0.mono hF13 (sc2 hM)) Try.isAgg61 Try.sizeOf61 (ch := enc x23) (Enc.len _) (by decide) ((Get.elemN (s := 2) (x := x23) rfl g25.2.2 (Get.here _)).off (by omega))) ?_
 refine Lst.store (i := 0) rfl rfl rfl rfl rfl Try.sizeOf61 (vs := enc x23) rfl (Enc.len _) (Enc.one _) (cs' := enc x23) (Put.here ((Enc.len _).trans (Enc.len _).symm)) (L' := (.blk b7 (enc x23) 61) :: (.blk b1 (enc Num.zero) 61) :: L) rfl ?_
 refine Lst.nil ?_
 refine At.in_normal ?_
 refine At.then ?_
 refine Cd.as (e' := [(0, Sl.v s_a0), (1, .func (.func 82) #[] #[]), (4, pv b1 0), (5, pv b7 0), (6, iv y10)]) (L' := (.blk b7 (enc x23) 61) :: (.blk b1 (enc Num.zero) 61) :: L) ⟨rfl, rfl, rfl, rfl, rfl, trivial⟩ rfl ?_
 refine Cd.region ?_
 refine Lst.r (Ev.move rfl) ?_
 refine Lst.r (Ev.add rfl rfl) ?_
 refine Lst.r (Ev.assign rfl) ?_
 refine Lst.nil ?_
 exact At.meet (k9, w64 (y10 + (1 : Int)), x23) hF13 ⟨rfl, rfl, rfl, rfl, rfl, trivial⟩ rfl ⟨hgo9 _ (some_inj H).symm, Nat.lt_succ_self _⟩
set_option maxRecDepth 20000 in
theorem skeen_Most_sim {fu : Nat} {a0 : List Num} {s_a0 : Sl} {r : Num × Int} (H : skeen_Most fu a0 = some r) (w0 : World) (F : Frz) (M L : List Item) (hM : M.Sublist L) (hs_a0 : Rd w0 F M s_a0 a0) : Ok Try.prog w0 33 [Sl.v s_a0] F (L) (Is (.tuple #[.agg (enc r.1).toArray, iv r.2]) (L)) := by
 unfold skeen_Most at H
 refine Ok.enter (m := 1) (n := 10) Try.func33 rfl rfl rfl (by decide) ?_
 refine Cd.env (e' := [(0, Sl.v s_a0)]) rfl ?_
 refine Cd.seq ?_
 refine Cd.region ?_
 refine Lst.alloc (cs := enc Num.zero) rfl rfl (by decide) Try.zeroValue61 rfl (fun b1 => ?_)
 refine Lst.r (Ev.assign rfl) ?_
 refine Lst.nil ?_
 refine At.then ?_
 refine Cd.seq ?_
 refine Cd.seq ?_
 refine Cd.region ?_
 refine Lst.r (Ev.move rfl) ?_
 refine Lst.r (Ev.lenS (α := Num) (xs := a0) (by decide) rfl rfl Try.runUnderlying62 (hs_a0.mono (FLe.refl _) (sc1 hM))) ?_
 refine Lst.r (Ev.eql rfl rfl) ?_
 refine Lst.nil ?_
 refine At.then ?_
 rcases Bool.eq_false_or_eq_true ((a0.length : Int) == (0 : Int)) with hb3 | hb3
 ·replace H := ite_t hb3 H
  refine Cd.condT rfl hb3 ?_
  refine Cd.seq ?_
  refine Cd.region ?_
  refine Lst.r (Ev.build (v := .agg (enc Num.zero).toArray) (pv := []) trivial (fun w => by kernel_rfl)) ?_
  refine Lst.store (i := 0) rfl rfl rfl rfl rfl Try.sizeOf61 (vs := enc Num.zero) rfl (Enc.len _) (Enc.one _) (cs' := enc Num.zero) (Put.here ((Enc.len _).trans (Enc.len _).symm)) (L' := (.blk b1 (enc Num.zero) 61) :: L) rfl ?_
  refine Lst.r (Ev.assign rfl) ?_
  refine Lst.nil ?_
  refine At.then ?_
  obtain rfl := some_inj H
  refine Cd.ret ?_
  refine At.then_ret ?_
  exact At.ret2 rfl (Res.cellA (i := 0) rfl rfl Try.isAgg61 Try.sizeOf61 (Enc.len _)) (Res.tmp rfl) (FLe.refl _) (sc1 (.refl _)) ⟨rfl, rfl⟩
 replace H := ite_f hb3 H
 refine Cd.condF rfl hb3 ?_
 refine Cd.skip ?_
 refine At.then ?_
 refine Cd.seq ?_
 refine Cd.region ?_
 refine Lst.r (Ev.move rfl) ?_
 obtain ⟨r4, h5, H⟩ := bind_some H
 refine Lst.call1 rfl rfl (by decide) (vs := [Sl.v s_a0, .func (.func 82) #[] #[]]) ⟨rfl, rfl, trivial⟩ Try.call86 (slices_MaxFunc_api_Num_api_Num_skeen_compare_sim h5 w0 _ M _ (sc1 hM) (hs_a0.mono (FLe.refl _) (.refl _))) ?_
 refine Lst.store (i := 0) rfl rfl rfl rfl rfl Try.sizeOf61 (vs := enc r4) rfl (Enc.len _) (Enc.one _) (cs' := enc r4) (Put.here ((Enc.len _).trans (Enc.len _).symm)) (L' := (.blk b1 (enc r4) 61) :: L) rfl ?_
 refine Lst.r (Ev.assign rfl) ?_
 refine Lst.nil ?_
 refine At.then ?_
 obtain rfl := some_inj H
 refine Cd.ret ?_
 exact At.ret2 rfl (Res.cellA (i := 0) rfl rfl Try.isAgg61 Try.sizeOf61 (Enc.len _)) (Res.tmp rfl) (FLe.refl _) (sc1 (.refl _)) ⟨rfl, rfl⟩
set_option maxRecDepth 20000 in
theorem slices_Index_api_Num_api_Num_sim {a0 : List Num} {a1 : Num} {s_a0 : Sl} {r : Int} (H : slices_Index_api_Num_api_Num a0 a1 = some r) (w0 : World) (F : Frz) (M L : List Item) (hM : M.Sublist L) (hs_a0 : Rd w0 F M s_a0 a0) : Ok Try.prog w0 88 [Sl.v s_a0, .agg (enc a1).toArray] F (L) (Is (iv r) (L)) := by
 unfold slices_Index_api_Num_api_Num at H
 refine Ok.enter (m := 2) (n := 19) Try.func88 rfl rfl rfl (by decide) ?_
 refine Cd.env (e' := [(0, Sl.v s_a0), (1, .agg (enc a1).toArray)]) rfl ?_
 refine Cd.seq ?_
 refine Cd.region ?_
 refine Lst.box rfl rfl (by decide) rfl (cs := enc a1) rfl (fun b1 => ?_)
 refine Lst.r (Ev.assign rfl) ?_
 refine Lst.nil ?_
 refine At.then ?_
 refine Cd.seq ?_
 refine Cd.seq ?_
 refine Cd.region ?_
 refine Lst.r (Ev.move rfl) ?_
 refine Lst.r (Ev.lenS (α := Num) (xs := a0) (by decide) rfl rfl Try.runUnderlying62 (hs_a0.mono (FLe.refl _) (sc1 hM))) ?_
 refine Lst.r (Ev.move rfl) ?_
 refine Lst.nil ?_
 refine At.then ?_
 refine Cd.block ?_
 refine Cd.bound (Rd.le (α := Num) (xs := a0) (by decide) (hs_a0.mono (FLe.refl _) (sc1 hM))) (fun hN10 => ?_)
 obtain ⟨ol3, H, HKl3⟩ := andThen_some H
 refine Cd.loop (σ := Nat × Nat × Unit) (fun (i3, k3, _u) => [(0, Sl.v s_a0), (3, pv b1 0), (7, iv (a0.length : Int)), (8, iv (i3 : Int))]) (fun (i3, k3, _u) => (.blk b1 (enc a1) 61) :: L) (fun _ => (fun (i3, k3, _u) => rangeM (slices_Index_api_Num_api_Num_B0 a0 a1) k3 i3 () = some ol3 ∧ i3 + k3 = a0.length)) (fun (i3, k3, _u) => k3) (0, a0.length, ()) ⟨rfl, rfl, rfl, rfl, trivial⟩ rfl ⟨H, by omega⟩ ?_
 rintro F4 ⟨i3, k3, _u⟩ hF5 ⟨H, hik3⟩
 refine Cd.as (e' := [(0, Sl.v s_a0), (3, pv b1 0), (7, iv (a0.length : Int)), (8, iv (i3 : Int))]) (L' := (.blk b1 (enc a1) 61) :: L) ⟨rfl, rfl, rfl, rfl, trivial⟩ rfl ?_
 rcases k3 with _ | k3
 ·have hc3 : decide ((i3 : Int) < (a0.length : Int)) = false := decide_eq_false (by omega)
  replace H := rangeM_end H
  refine Cd.seq ?_
  refine Cd.region ?_
  refine Lst.r (Ev.lss rfl rfl) ?_
  refine Lst.nil ?_
  refine At.then ?_
  refine Cd.seq ?_
  refine Cd.condF rfl hc3 ?_
  refine Cd.exit ?_
  refine At.then_exit ?_
  refine At.then_exit ?_
  refine At.in_exit ?_
  subst H
  replace H := HKl3
  refine At.then ?_
  refine Cd.seq ?_
  refine Cd.region ?_
  refine Lst.r (Ev.assign rfl) ?_
  refine Lst.nil ?_
  refine At.then ?_
  obtain rfl := some_inj H
  refine Cd.ret ?_
  exact At.ret1 rfl (Res.tmp rfl) hF5 (sc1 (.refl _)) ⟨rfl, rfl⟩
 have hc3 : decide ((i3 : Int) < (a0.length : Int)) = true := decide_eq_true (by omega)
 obtain ⟨c3, H, hgo3, hbrk3, hret3⟩ := rangeM_go H
 unfold slices_Index_api_Num_api_Num_B0 at H
 try dsimp only at H
 refine Cd.seq ?_
 refine Cd.region ?_
 refine Lst.r (Ev.lss rfl rfl) ?_
 refine Lst.nil ?_
 refine At.then ?_
 refine Cd.seq ?_
 refine Cd.condT rfl hc3 ?_
 refine Cd.skip ?_
 refine At.then ?_
 refine Cd.seq ?_
 refine Cd.block ?_
 refine Cd.seq ?_
 refine Cd.region ?_
 refine Lst.r (Ev.move rfl) ?_
 refine Lst.r (Ev.assign rfl) ?_
 refine Lst.nil ?_
 refine At.then ?_
 refine Cd.seq ?_
 refine Cd.quiet (by kernel_rfl) (by kernel_rfl) ?_
 refine Qt.r (Ev.loadA (i := 0) rfl rfl Try.isAgg61 Try.sizeOf61 (ch := enc a1) (Enc.len _) (Get.here _)) ?_
 refine Qt.r (Ev.move rfl) ?_
 refine Qt.r (Ev.move rfl) ?_
 obtain ⟨x6, h7, H⟩ := bind_some H
 have g8 := lat_some h7
 refine Qt.r (Ev.indexS (α := Num) (xs := a0) rfl rfl Try.runUnderlying62 Try.sizeOf61 rfl (by decide) (hs_a0.mono hF5 (sc1 hM)) g8.1 g8.2.1) ?_
 refine Qt.r (Ev.loadSA (α := Num) rfl (hs_a0.mono hF5 (sc1 hM)) Try.isAgg61 Try.sizeOf61 (ch := enc x6) (Enc.len _) (by decide) ((Get.elemN (s := 2) (x := x6) rfl g8.2.2 (Get.here _)).off (by omega))) ?_
 refine Qt.r (Ev.eqlA rfl rfl (by kernel_rfl) (eq61 _ _)) ?_
 refine Qt.done ?_
 refine At.then ?_
 rcases Bool.eq_false_or_eq_true (decide (a1 = x6)) with hb9 | hb9
 ·replace H := ite_t hb9 H
  refine Cd.condT rfl hb9 ?_
  refine Cd.seq ?_
  refine Cd.region ?_
  refine Lst.r (Ev.move rfl) ?_
  refine Lst.r (Ev.assign rfl) ?_
  refine Lst.nil ?_
  refine At.then ?_
  have H := hret3 _ (some_inj H).symm
  subst H
  replace H := HKl3
  obtain rfl := some_inj H
  refine Cd.ret ?_
  refine At.in_ret ?_
  refine At.then_ret ?_
  refine At.then_ret ?_
  refine At.in_ret ?_
  refine At.then_ret ?_
  exact At.ret1 rfl (Res.tmp rfl) hF5 (sc1 (.refl _)) ⟨rfl, rfl⟩
 replace H := ite_f hb9 H
 refine Cd.condF rfl hb9 ?_
 refine Cd.skip ?_
 refine At.in_normal ?_
 refine At.then ?_
 refine Cd.region ?_
 refine Lst.r (Ev.incr (by omega) rfl rfl) ?_
 refine Lst.r (Ev.move rfl) ?_
 refine Lst.nil ?_
 exact At.meet (i3 + 1, k3, ()) hF5 ⟨rfl, rfl, rfl, rfl, trivial⟩ rfl ⟨⟨hgo3 _ (some_inj H).symm, by omega⟩, Nat.lt_succ_self _⟩
set_option maxRecDepth 20000 in
theorem slices_Contains_api_Num_api_Num_sim {a0 : List Num} {a1 : Num} {s_a0 : Sl} {r : Bool} (H : slices_Contains_api_Num_api_Num a0 a1 = some r) (w0 : World) (F : Frz) (M L : List Item) (hM : M.Sublist L) (hs_a0 : Rd w0 F M s_a0 a0) : Ok Try.prog w0 35 [Sl.v s_a0, .agg (enc a1).toArray] F (L) (Is (.bool r) (L)) := by
 unfold slices_Contains_api_Num_api_Num at H
 refine Ok.enter (m := 2) (n := 9) Try.func35 rfl rfl rfl (by decide) ?_
 refine Cd.env (e' := [(0, Sl.v s_a0), (1, .agg (enc a1).toArray)]) rfl ?_
 refine Cd.seq ?_
 refine Cd.region ?_
 refine Lst.box rfl rfl (by decide) rfl (cs := enc a1) rfl (fun b1 => ?_)
 refine Lst.r (Ev.assign rfl) ?_
 refine Lst.nil ?_
 refine At.then ?_
 refine Cd.seq ?_
 refine Cd.region ?_
 refine Lst.r (Ev.move rfl) ?_
 refine Lst.r (Ev.loadA (i := 0) rfl rfl Try.isAgg61 Try.sizeOf61 (ch := enc a1) (Enc.len _) (Get.here _)) ?_
 obtain ⟨r3, h4, H⟩ := bind_some H
 refine Lst.call1 rfl rfl (by decide) (vs := [Sl.v s_a0, .agg (enc a1).toArray]) ⟨rfl, rfl, trivial⟩ Try.call88 (slices_Index_api_Num_api_Num_sim h4 w0 _ M _ (sc1 hM) (hs_a0.mono (FLe.refl _) (.refl _))) ?_
 refine Lst.r (Ev.geq rfl rfl) ?_
 refine Lst.r (Ev.assign rfl) ?_
 refine Lst.nil ?_
 refine At.then ?_
 obtain rfl := some_inj H
 refine Cd.ret ?_
 exact At.ret1 rfl (Res.tmp rfl) (FLe.refl _) (sc1 (.refl _)) ⟨rfl, rfl⟩
set_option maxRecDepth 20000 in
theorem partlaw_SkeenSays_1_sim {a0 : Num} {a1 : Num} {b_a1 : Nat} {r : Bool} (H : partlaw_SkeenSays_1 a0 a1 = some r) (w0 : World) (F : Frz) (M L : List Item) (hM : M.Sublist L) : Ok Try.prog w0 37 [.agg (enc a0).toArray, pv b_a1 0] F ((.blk b_a1 (enc a1) 61) :: L) (Is (.bool r) ((.blk b_a1 (enc a1) 61) :: L)) := by
 unfold partlaw_SkeenSays_1 at H
 refine Ok.enter (m := 2) (n := 7) Try.func37 rfl rfl rfl (by decide) ?_
 refine Cd.env (e' := [(0, .agg (enc a0).toArray), (1, pv b_a1 0)]) rfl ?_
 refine Cd.seq ?_
 refine Cd.region ?_
 refine Lst.box rfl rfl (by decide) rfl (cs := enc a0) rfl (fun b2 => ?_)
 refine Lst.r (Ev.assign rfl) ?_
 refine Lst.nil ?_
 refine At.then ?_
 refine Cd.seq ?_
 refine Cd.region ?_
 refine Lst.r (Ev.loadA (i := 1) rfl rfl Try.isAgg61 Try.sizeOf61 (ch := enc a1) (Enc.len _) (Get.here _)) ?_
 refine Lst.r (Ev.loadA (i := 0) rfl rfl Try.isAgg61 Try.sizeOf61 (ch := enc a0) (Enc.len _) (Get.here _)) ?_
 obtain ⟨r4, h5, H⟩ := bind_some H
 refine Lst.call1 rfl rfl (by decide) (vs := [.agg (enc a1).toArray, .agg (enc a0).toArray]) ⟨rfl, rfl, trivial⟩ Try.call38 (partref_Less_sim h5 w0 _ M _ (sc2 hM)) ?_
 refine Lst.r (Ev.assign rfl) ?_
 refine Lst.nil ?_
 refine At.then ?_
 obtain rfl := some_inj H
 refine Cd.ret ?_
 exact At.ret1 rfl (Res.tmp rfl) (FLe.refl _) (sc1 (sk1 (.refl _))) ⟨rfl, rfl⟩
set_option maxRecDepth 20000 in
theorem slices_IndexFunc_api_Num_api_Num_SkeenSays_1_sim {a0 : List Num} {a1_c0 : Num} {s_a0 : Sl} {b_a1_c0 : Nat} {r : Int} (H : slices_IndexFunc_api_Num_api_Num_SkeenSays_1 a0 a1_c0 = some r) (w0 : World) (F : Frz) (M L : List Item) (hM : M.Sublist L) (hs_a0 : Rd w0 F M s_a0 a0) : Ok Try.prog w0 89 [Sl.v s_a0, .func (.func 37) #[] #[pv b_a1_c0 0]] F ((.blk b_a1_c0 (enc a1_c0) 61) :: L) (Is (iv r) ((.blk b_a1_c0 (enc a1_c0) 61) :: L)) := by
 unfold slices_IndexFunc_api_Num_api_Num_SkeenSays_1 at H
 refine Ok.enter (m := 2) (n := 19) Try.func89 rfl rfl rfl (by decide) ?_
 refine Cd.env (e' := [(0, Sl.v s_a0), (1, .func (.func 37) #[] #[pv b_a1_c0 0])]) rfl ?_
 refine Cd.seq ?_
 refine Cd.region ?_
 refine Lst.r (Ev.assign rfl) ?_
 refine Lst.nil ?_
 refine At.then ?_
 refine Cd.seq ?_
 refine Cd.seq ?_
 refine Cd.region ?_
 refine Lst.r (Ev.move rfl) ?_
 refine Lst.r (Ev.lenS (α := Num) (xs := a0) (by decide) rfl rfl Try.runUnderlying62 (hs_a0.mono (FLe.refl _) (sc1 hM))) ?_
 refine Lst.r (Ev.move rfl) ?_
 refine Lst.nil ?_
 refine At.then ?_
 refine Cd.block ?_
 refine Cd.bound (Rd.le (α := Num) (xs := a0) (by decide) (hs_a0.mono (FLe.refl _) (sc1 hM))) (fun hN13 => ?_)
 obtain ⟨ol2, H, HKl2⟩ := andThen_some H
 refine Cd.loop (σ := Nat × Nat × Unit) (fun (i2, k2, _u) => [(0, Sl.v s_a0), (1, .func (.func 37) #[] #[pv b_a1_c0 0]), (7, iv (a0.length : Int)), (8, iv (i2 : Int))]) (fun (i2, k2, _u) => (.blk b_a1_c0 (enc a1_c0) 61) :: L) (fun _ => (fun (i2, k2, _u) => rangeM (slices_IndexFunc_api_Num_api_Num_SkeenSays_1_B0 a0 a1_c0) k2 i2 () = some ol2 ∧ i2 + k2 = a0.length)) (fun (i2, k2, _u) => k2) (0, a0.length, ()) ⟨rfl, rfl, rfl, rfl, trivial⟩ rfl ⟨H, by omega⟩ ?_
 rintro F3 ⟨i2, k2, _u⟩ hF4 ⟨H, hik2⟩
 refine Cd.as (e' := [(0, Sl.v s_a0), (1, .func (.func 37) #[] #[pv b_a1_c0 0]), (7, iv (a0.length : Int)), (8, iv (i2 : Int))]) (L' := (.blk b_a1_c0 (enc a1_c0) 61) :: L) ⟨rfl, rfl, rfl, rfl, trivial⟩ rfl ?_
 rcases k2 with _ | k2
 ·have hc2 : decide ((i2 : Int) < (a0.length : Int)) = false := decide_eq_false (by omega)
  replace H := rangeM_end H
  refine Cd.seq ?_
  refine Cd.region ?_
  refine Lst.r (Ev.lss rfl rfl) ?_
  refine Lst.nil ?_
  refine At.then ?_
  refine Cd.seq ?_
  refine Cd.condF rfl hc2 ?_
  refine Cd.exit ?_
  refine At.then_exit ?_
  refine At.then_exit ?_
  refine At.in_exit ?_
  subst H
  replace H := HKl2
  refine At.then ?_
  refine Cd.seq ?_
  refine Cd.region ?_
  refine Lst.r (Ev.assign rfl) ?_
  refine Lst.nil ?_
  refine At.then ?_
  obtain rfl := some_inj H
  refine Cd.ret ?_
  exact At.ret1 rfl (Res.tmp rfl) hF4 (sk1 (.refl _)) ⟨rfl, rfl⟩
 have hc2 : decide ((i2 : Int) < (a0.length : Int)) = true := decide_eq_true (by omega)
 obtain ⟨c2, H, hgo2, hbrk2, hret2⟩ := rangeM_go H
 unfold slices_IndexFunc_api_Num_api_Num_SkeenSays_1_B0 at H
 try dsimp only at H
 refine Cd.seq ?_
 refine Cd.region ?_
 refine Lst.r (Ev.lss rfl rfl) ?_
 refine Lst.nil ?_
 refine At.then ?_
 refine Cd.seq ?_
 refine Cd.condT rfl hc2 ?_
 refine Cd.skip ?_
 refine At.then ?_
 refine Cd.seq ?_
 refine Cd.block ?_
 refine Cd.seq ?_
 refine Cd.region ?_
 refine Lst.r (Ev.move rfl) ?_
 refine Lst.r (Ev.assign rfl) ?_
 refine Lst.nil ?_
 refine At.then ?_
 refine Cd.seq ?_
 refine Cd.region ?_
 refine Lst.r (Ev.move rfl) ?_
 refine Lst.r (Ev.move rfl) ?_
 refine Lst.r (Ev.move rfl) ?_
 obtain ⟨x5, h6, H⟩ := bind_some H
 have g7 := lat_some h6
 refine Lst.r (Ev.indexS (α := Num) (xs := a0) rfl rfl Try.runUnderlying62 Try.sizeOf61 rfl (by decide) (hs_a0.mono hF4 (sc1 hM)) g7.1 g7.2.1) ?_
 refine Lst.r (Ev.loadSA (α := Num) rfl (hs_a0.mono hF4 (sc1 hM)) Try.isAgg61 Try.sizeOf61 (ch := enc x5) (Enc.len _) (by decide) ((Get.elemN (s := 2) (x := x5) rfl g7.2.2 (Get.here _)).off (by omega))) ?_
 obtain ⟨r8, h9, H⟩ := bind_some H
 refine Lst.callV1 rfl rfl (by decide) (vs := [.agg (enc x5).toArray]) (cs := [pv b_a1_c0 0]) rfl ⟨rfl, trivial⟩ Try.call37 (partlaw_SkeenSays_1_sim h9 w0 _ M _ hM) ?_
 refine Lst.nil ?_
 refine At.then ?_
 rcases Bool.eq_false_or_eq_true r8 with hb12 | hb12
 ·replace H := ite_t hb12 H
  refine Cd.condT rfl hb12 ?_
  refine Cd.seq ?_
  refine Cd.region ?_
  refine Lst.r (Ev.move rfl) ?_
  refine Lst.r (Ev.assign rfl) ?_
  refine Lst.nil ?_
  refine At.then ?_
  have H := hret2 _ (some_inj H).symm
  subst H
  replace H := HKl2
  obtain rfl := some_inj H
  refine Cd.ret ?_
  refine At.in_ret ?_
  refine At.then_ret ?_
  refine At.then_ret ?_
  refine At.in_ret ?_
  refine At.then_ret ?_
  exact At.ret1 rfl (Res.tmp rfl) hF4 (sk1 (.refl _)) ⟨rfl, rfl⟩
 replace H := ite_f hb12 H
 refine Cd.condF rfl hb12 ?_
 refine Cd.skip ?_
 refine At.in_normal ?_
 refine At.then ?_
 refine Cd.region ?_
 refine Lst.r (Ev.incr (by omega) rfl rfl) ?_
 refine Lst.r (Ev.move rfl) ?_
 refine Lst.nil ?_
 exact At.meet (i2 + 1, k2, ()) hF4 ⟨rfl, rfl, rfl, rfl, trivial⟩ rfl ⟨⟨hgo2 _ (some_inj H).symm, by omega⟩, Nat.lt_succ_self _⟩
set_option maxRecDepth 20000 in
theorem slices_ContainsFunc_api_Num_api_Num_SkeenSays_1_sim {a0 : List Num} {a1_c0 : Num} {s_a0 : Sl} {b_a1_c0 : Nat} {r : Bool} (H : slices_ContainsFunc_api_Num_api_Num_SkeenSays_1 a0 a1_c0 = some r) (w0 : World) (F : Frz) (M L : List Item) (hM : M.Sublist L) (hs_a0 : Rd w0 F M s_a0 a0) : Ok Try.prog w0 36 [Sl.v s_a0, .func (.func 37) #[] #[pv b_a1_c0 0]] F ((.blk b_a1_c0 (enc a1_c0) 61) :: L) (Is (.bool r) ((.blk b_a1_c0 (enc a1_c0) 61) :: L)) := by
 unfold slices_ContainsFunc_api_Num_api_Num_SkeenSays_1 at H
 refine Ok.enter (m := 2) (n := 9) Try.func36 rfl rfl rfl (by decide) ?_
 refine Cd.env (e' := [(0, Sl.v s_a0), (1, .func (.func 37) #[] #[pv b_a1_c0 0])]) rfl ?_
 refine Cd.seq ?_
 refine Cd.region ?_
 refine Lst.r (Ev.assign rfl) ?_
 refine Lst.nil ?_
 refine At.then ?_
 refine Cd.seq ?_
 refine Cd.region ?_
 refine Lst.r (Ev.move rfl) ?_
 refine Lst.r (Ev.move rfl) ?_
 obtain ⟨r2, h3, H⟩ := bind_some H
 refine Lst.call1 rfl rfl (by decide) (vs := [Sl.v s_a0, .func (.func 37) #[] #[pv b_a1_c0 0]]) ⟨rfl, rfl, trivial⟩ Try.call89 (slices_IndexFunc_api_Num_api_Num_SkeenSays_1_sim h3 w0 _ M _ hM (hs_a0.mono (FLe.refl _) (.refl _))) ?_
 refine Lst.r (Ev.geq rfl rfl) ?_
 refine Lst.r (Ev.assign rfl) ?_
 refine Lst.nil ?_
 refine At.then ?_
 obtain rfl := some_inj H
 refine Cd.ret ?_
 exact At.ret1 rfl (Res.tmp rfl) (FLe.refl _) (sk1 (.refl _)) ⟨rfl, rfl⟩
set_option maxRecDepth 20000 in
theorem slices_Equal_api_Wait_api_Wait_sim {a0 : List Wait} {a1 : List Wait} {s_a0 : Sl} {s_a1 : Sl} {r : Bool} (H : slices_Equal_api_Wait_api_Wait a0 a1 = some r) (w0 : World) (F : Frz) (M L : List Item) (hM : M.Sublist L) (hs_a0 : Rd w0 F M s_a0 a0) (hs_a1 : Rd w0 F M s_a1 a1) : Ok Try.prog w0 90 [Sl.v s_a0, Sl.v s_a1] F (L) (Is (.bool r) (L)) := by
 unfold slices_Equal_api_Wait_api_Wait at H
 refine Ok.enter (m := 2) (n := 26) Try.func90 rfl rfl rfl (by decide) ?_
 refine Cd.env (e' := [(0, Sl.v s_a0), (1, Sl.v s_a1)]) rfl ?_
 refine Cd.seq ?_
 refine Cd.region ?_
 refine Lst.r (Ev.assign rfl) ?_
 refine Lst.nil ?_
 refine At.then ?_
 refine Cd.seq ?_
 refine Cd.seq ?_
 refine Cd.region ?_
 refine Lst.r (Ev.move rfl) ?_
 refine Lst.r (Ev.lenS (α := Wait) (xs := a0) (by decide) rfl rfl Try.runUnderlying57 (hs_a0.mono (FLe.refl _) hM)) ?_
 refine Lst.r (Ev.move rfl) ?_
 refine Lst.r (Ev.lenS (α := Wait) (xs := a1) (by decide) rfl rfl Try.runUnderlying57 (hs_a1.mono (FLe.refl _) hM)) ?_
 refine Lst.r (Ev.neq rfl rfl) ?_
 refine Lst.nil ?_
 refine At.then ?_
 rcases Bool.eq_false_or_eq_true ((a0.length : Int) != (a1.length : Int)) with hb1 | hb1
 ·replace H := ite_t hb1 H
  refine Cd.condT rfl hb1 ?_
  refine Cd.seq ?_
  refine Cd.region ?_
  refine Lst.r (Ev.assign rfl) ?_
  refine Lst.nil ?_
  refine At.then ?_
  obtain rfl := some_inj H
  refine Cd.ret ?_
  refine At.then_ret ?_
  exact At.ret1 rfl (Res.tmp rfl) (FLe.refl _) (.refl _) ⟨rfl, rfl⟩
 replace H := ite_f hb1 H
 refine Cd.condF rfl hb1 ?_
 refine Cd.skip ?_
 refine At.then ?_
 refine Cd.seq ?_
 refine Cd.seq ?_
 refine Cd.region ?_
 refine Lst.r (Ev.move rfl) ?_
 refine Lst.r (Ev.lenS (α := Wait) (xs := a0) (by decide) rfl rfl Try.runUnderlying57 (hs_a0.mono (FLe.refl _) hM)) ?_
 refine Lst.r (Ev.move rfl) ?_
 refine Lst.nil ?_
 refine At.then ?_
 refine Cd.block ?_
 refine Cd.bound (Rd.le (α := Wait) (xs := a0) (by decide) (hs_a0.mono (FLe.refl _) hM)) (fun hN12 => ?_)
 obtain ⟨ol2, H, HKl2⟩ := andThen_some H
 refine Cd.loop (σ := Nat × Nat × Unit) (fun (i2, k2, _u) => [(0, Sl.v s_a0), (1, Sl.v s_a1), (12, iv (a0.length : Int)), (13, iv (i2 : Int))]) (fun (i2, k2, _u) => L) (fun _ => (fun (i2, k2, _u) => rangeM (slices_Equal_api_Wait_api_Wait_B0 a0 a1) k2 i2 () = some ol2 ∧ i2 + k2 = a0.length)) (fun (i2, k2, _u) => k2) (0, a0.length, ()) ⟨rfl, rfl, rfl, rfl, trivial⟩ rfl ⟨H, by omega⟩ ?_
 rintro F3 ⟨i2, k2, _u⟩ hF4 ⟨H, hik2⟩
 refine Cd.as (e' := [(0, Sl.v s_a0), (1, Sl.v s_a1), (12, iv (a0.length : Int)), (13, iv (i2 : Int))]) (L' := L) ⟨rfl, rfl, rfl, rfl, trivial⟩ rfl ?_
 rcases k2 with _ | k2
 ·have hc2 : decide ((i2 : Int) < (a0.length : Int)) = false := decide_eq_false (by omega)
  replace H := rangeM_end H
  refine Cd.seq ?_
  refine Cd.region ?_
  refine Lst.r (Ev.lss rfl rfl) ?_
  refine Lst.nil ?_
  refine At.then ?_
  refine Cd.seq ?_
  refine Cd.condF rfl hc2 ?_
  refine Cd.exit ?_
  refine At.then_exit ?_
  refine At.then_exit ?_
  refine At.in_exit ?_
  subst H
  replace H := HKl2
  refine At.then ?_
  refine Cd.seq ?_
  refine Cd.region ?_
  refine Lst.r (Ev.assign rfl) ?_
  refine Lst.nil ?_
  refine At.then ?_
  obtain rfl := some_inj H
  refine Cd.ret ?_
  exact At.ret1 rfl (Res.tmp rfl) hF4 (.refl _) ⟨rfl, rfl⟩
 have hc2 : decide ((i2 : Int) < (a0.length : Int)) = true := decide_eq_true (by omega)
 obtain ⟨c2, H, hgo2, hbrk2, hret2⟩ := rangeM_go H
 unfold slices_Equal_api_Wait_api_Wait_B0 at H
 try dsimp only at H
 refine Cd.seq ?_
 refine Cd.region ?_
 refine Lst.r (Ev.lss rfl rfl) ?_
 refine Lst.nil ?_
 refine At.then ?_
 refine Cd.seq ?_
 refine Cd.condT rfl hc2 ?_
 refine Cd.skip ?_
 refine At.then ?_
 refine Cd.seq ?_
 refine Cd.block ?_
 refine Cd.seq ?_
 refine Cd.region ?_
 refine Lst.r (Ev.move rfl) ?_
 refine Lst.r (Ev.assign rfl) ?_
 refine Lst.nil ?_
 refine At.then ?_
 refine Cd.seq ?_
 refine Cd.quiet (by kernel_rfl) (by kernel_rfl) ?_
 refine Qt.r (Ev.move rfl) ?_
 refine Qt.r (Ev.move rfl) ?_
 obtain ⟨x5, h6, H⟩ := bind_some H
 have g7 := lat_some h6
 refine Qt.r (Ev.indexS (α := Wait) (xs := a0) rfl rfl Try.runUnderlying57 Try.sizeOf77 rfl (by decide) (hs_a0.mono hF4 hM) g7.1 g7.2.1) ?_
 refine Qt.r (Ev.loadSA (α := Wait) rfl (hs_a0.mono hF4 hM) Try.isAgg77 Try.sizeOf77 (ch := enc x5) (Enc.len _) (by decide) ((Get.elemN (s := 4) (x := x5) rfl g7.2.2 (Get.here _)).off (by omega))) ?_
 refine Qt.r (Ev.move rfl) ?_
 refine Qt.r (Ev.move rfl) ?_
 obtain ⟨x8, h9, H⟩ := bind_some H
 have g10 := lat_some h9
 refine Qt.r (Ev.indexS (α := Wait) (xs := a1) rfl rfl Try.runUnderlying57 Try.sizeOf77 rfl (by decide) (hs_a1.mono hF4 hM) g10.1 g10.2.1) ?_
 refine Qt.r (Ev.loadSA (α := Wait) rfl (hs_a1.mono hF4 hM) Try.isAgg77 Try.sizeOf77 (ch := enc x8) (Enc.len _) (by decide) ((Get.elemN (s := 4) (x := x8) rfl g10.2.2 (Get.here _)).off (by omega))) ?_
 refine Qt.r (Ev.neqA rfl rfl (by kernel_rfl) (eq77 _ _)) ?_
 refine Qt.done ?_
 refine At.then ?_
 rcases Bool.eq_false_or_eq_true (!(decide (x5 = x8))) with hb11 | hb11
 ·replace H := ite_t hb11 H
  refine Cd.condT rfl hb11 ?_
  refine Cd.seq ?_
  refine Cd.as (e' := []) (L' := L) trivial rfl ?_
  refine Cd.region ?_
  refine Lst.r (Ev.assign rfl) ?_
  refine Lst.nil ?_
  refine At.then ?_
  have H := hret2 _ (some_inj H).symm
  subst H
  replace H := HKl2
  obtain rfl := some_inj H
  refine Cd.ret ?_
  refine At.in_ret ?_
  refine At.then_ret ?_
  refine At.then_ret ?_
  refine At.in_ret ?_
  refine At.then_ret ?_
  exact At.ret1 rfl (Res.tmp rfl) hF4 (.refl _) ⟨rfl, rfl⟩
 replace H := ite_f hb11 H
 refine Cd.condF rfl hb11 ?_
 refine Cd.skip ?_
 refine At.in_normal ?_
 refine At.then ?_
 refine Cd.region ?_
 refine Lst.r (Ev.incr (by omega) rfl rfl) ?_
 refine Lst.r (Ev.move rfl) ?_
 refine Lst.nil ?_
 exact At.meet (i2 + 1, k2, ()) hF4 ⟨rfl, rfl, rfl, rfl, trivial⟩ rfl ⟨⟨hgo2 _ (some_inj H).symm, by omega⟩, Nat.lt_succ_self _⟩
set_option maxRecDepth 20000 in
theorem partref_SameSkeen_sim {a0 : Skeen} {a1 : Skeen} {s_a0_2 : Sl} {s_a1_2 : Sl} {r : Bool} (H : partref_SameSkeen a0 a1 = some r) (w0 : World) (F : Frz) (M L : List Item) (hM : M.Sublist L) (hs_a0_2 : Rd w0 F M s_a0_2 a0.Wait) (hs_a1_2 : Rd w0 F M s_a1_2 a1.Wait) : Ok Try.prog w0 39 [.agg (enc (SkeenR.mk a0 s_a0_2)).toArray, .agg (enc (SkeenR.mk a1 s_a1_2)).toArray] F (L) (Is (.bool r) (L)) := by
 unfold partref_SameSkeen at H
 refine Ok.enter (m := 2) (n := 24) Try.func39 rfl rfl rfl (by decide) ?_
 refine Cd.env (e' := [(0, .agg (enc (SkeenR.mk a0 s_a0_2)).toArray), (1, .agg (enc (SkeenR.mk a1 s_a1_2)).toArray)]) rfl ?_
 refine Cd.seq ?_
 refine Cd.region ?_
 refine Lst.box rfl rfl (by decide) rfl (cs := enc (SkeenR.mk a0 s_a0_2)) rfl (fun b1 => ?_)
 refine Lst.box rfl rfl (by decide) rfl (cs := enc (SkeenR.mk a1 s_a1_2)) rfl (fun b3 => ?_)
 refine Lst.r (Ev.assign rfl) ?_
 refine Lst.nil ?_
 refine At.then ?_
 refine Cd.seq ?_
 refine Cd.region ?_
 refine Lst.r (Ev.fieldAddr (off' := 0) rfl Try.runUnderlying59 rfl Try.sizeOf3 rfl rfl) ?_
 refine Lst.r (Ev.load (i := 1) rfl rfl Try.isAgg3 (v := iv a0.Me) ((SkeenR.get_Me (Get.here _)).off (by rfl))) ?_
 refine Lst.r (Ev.fieldAddr (off' := 0) rfl Try.runUnderlying59 rfl Try.sizeOf3 rfl rfl) ?_
 refine Lst.r (Ev.load (i := 0) rfl rfl Try.isAgg3 (v := iv a1.Me) ((SkeenR.get_Me (Get.here _)).off (by rfl))) ?_
 refine Lst.r (Ev.eql rfl rfl) ?_
 refine Lst.r (Ev.move rfl) ?_
 obtain ⟨o5, H, HKo5⟩ := bind_some H
 refine Lst.join (σ := Bool) 6 (fun y6 => [(2, pv b1 0), (3, pv b3 0), (16, .bool y6)]) (fun y6 => (.blk b3 (enc (SkeenR.mk a1 s_a1_2)) 59) :: (.blk b1 (enc (SkeenR.mk a0 s_a0_2)) 59) :: L) (fun _ y6 => y6 = o5) ?_ ?_
 ·rcases (Bool.eq_false_or_eq_true (a0.Me == a1.Me)).symm with hb7 | hb7
  ·replace H := ite_f hb7 H
   refine Lst.skip rfl rfl rfl hb7 rfl (by decide) ?_
   refine Lst.skip rfl rfl rfl hb7 rfl (by decide) ?_
   refine Lst.skip rfl rfl rfl hb7 rfl (by decide) ?_
   refine Lst.skip rfl rfl rfl hb7 rfl (by decide) ?_
   refine Lst.skip rfl rfl rfl hb7 rfl (by decide) ?_
   refine Lst.r (Ev.pickF rfl hb7 rfl) ?_
   refine Lst.nil ?_
   exact At.meet false (FLe.refl _) ⟨rfl, rfl, rfl, trivial⟩ rfl (some_inj H)
  replace H := ite_t hb7 H
  refine Lst.rG hb7 (Ev.fieldAddr (off' := 1) rfl Try.runUnderlying59 rfl Try.sizeOf3 rfl rfl) ?_
  refine Lst.rG hb7 (Ev.load (i := 1) rfl rfl Try.isAgg3 (v := iv a0.Clock) ((SkeenR.get_Clock (Get.here _)).off (by rfl))) ?_
  refine Lst.rG hb7 (Ev.fieldAddr (off' := 1) rfl Try.runUnderlying59 rfl Try.sizeOf3 rfl rfl) ?_
  refine Lst.rG hb7 (Ev.load (i := 0) rfl rfl Try.isAgg3 (v := iv a1.Clock) ((SkeenR.get_Clock (Get.here _)).off (by rfl))) ?_
  refine Lst.rG hb7 (Ev.eql rfl rfl) ?_
  refine Lst.r (Ev.pickT rfl hb7 rfl) ?_
  refine Lst.nil ?_
  exact At.meet (a0.Clock == a1.Clock) (FLe.refl _) ⟨rfl, rfl, rfl, trivial⟩ rfl (some_inj H)
 rintro F8 y6 hF9 hy
 subst hy
 refine Lst.as (e' := [(2, pv b1 0), (3, pv b3 0), (16, .bool y6)]) (L' := (.blk b3 (enc (SkeenR.mk a1 s_a1_2)) 59) :: (.blk b1 (enc (SkeenR.mk a0 s_a0_2)) 59) :: L) ⟨rfl, rfl, rfl, trivial⟩ rfl ?_
 replace H := HKo5
 refine Lst.r (Ev.move rfl) ?_
 obtain ⟨o10, H, HKo10⟩ := bind_some H
 refine Lst.join (σ := Bool) 6 (fun y11 => [(23, .bool y11)]) (fun y11 => (.blk b3 (enc (SkeenR.mk a1 s_a1_2)) 59) :: (.blk b1 (enc (SkeenR.mk a0 s_a0_2)) 59) :: L) (fun _ y11 => y11 = o10) ?_ ?_
 ·rcases (Bool.eq_false_or_eq_true y6).symm with hb12 | hb12
  ·replace H := ite_f hb12 H
   refine Lst.skip rfl rfl rfl hb12 rfl (by decide) ?_
   refine Lst.skip rfl rfl rfl hb12 rfl (by decide) ?_
   refine Lst.skip rfl rfl rfl hb12 rfl (by decide) ?_
   refine Lst.skip rfl rfl rfl hb12 rfl (by decide) ?_
   refine Lst.skip rfl rfl rfl hb12 rfl (by decide) ?_
   refine Lst.r (Ev.pickF rfl hb12 rfl) ?_
   refine Lst.nil ?_
   exact At.meet false (FLe.refl _) ⟨rfl, trivial⟩ rfl (some_inj H)
  replace H := ite_t hb12 H
  refine Lst.rG hb12 (Ev.fieldAddr (off' := 2) rfl Try.runUnderlying59 rfl Try.sizeOf57 rfl rfl) ?_
  refine Lst.rG hb12 (Ev.load (i := 1) rfl rfl Try.isAgg57 (v := Sl.v s_a0_2) ((SkeenR.get_Wait (Get.here _)).off (by rfl))) ?_
  refine Lst.rG hb12 (Ev.fieldAddr (off' := 2) rfl Try.runUnderlying59 rfl Try.sizeOf57 rfl rfl) ?_
  refine Lst.rG hb12 (Ev.load (i := 0) rfl rfl Try.isAgg57 (v := Sl.v s_a1_2) ((SkeenR.get_Wait (Get.here _)).off (by rfl))) ?_
  obtain ⟨r13, h14, H⟩ := bind_some H
  refine Lst.call1G rfl rfl rfl hb12 rfl (by decide) (vs := [Sl.v s_a0_2, Sl.v s_a1_2]) ⟨rfl, rfl, trivial⟩ Try.call90 (slices_Equal_api_Wait_api_Wait_sim h14 w0 _ M _ (sc2 hM) (hs_a0_2.mono hF9 (.refl _)) (hs_a1_2.mono hF9 (.refl _))) ?_
  refine Lst.r (Ev.pickT rfl hb12 rfl) ?_
  refine Lst.nil ?_
  exact At.meet r13 (FLe.refl _) ⟨rfl, trivial⟩ rfl (some_inj H)
 rintro F17 y11 hF18 hy
 subst hy
 refine Lst.as (e' := [(23, .bool y11)]) (L' := (.blk b3 (enc (SkeenR.mk a1 s_a1_2)) 59) :: (.blk b1 (enc (SkeenR.mk a0 s_a0_2)) 59) :: L) ⟨rfl, trivial⟩ rfl ?_
 replace H := HKo10
 refine Lst.r (Ev.assign rfl) ?_
 refine Lst.nil ?_
 refine At.then ?_
 obtain rfl := some_inj H
 refine Cd.ret ?_
 exact At.ret1 rfl (Res.tmp rfl) (FLe.trans hF9 hF18) (sc1 (sc1 (.refl _))) ⟨rfl, rfl⟩
set_option maxRecDepth 20000 in
theorem partlaw_SkeenSays_2_sim {a0 : Wait} {a1 : Int} {b_a1 : Nat} {r : Bool} (H : partlaw_SkeenSays_2 a0 a1 = some r) (w0 : World) (F : Frz) (M L : List Item) (hM : M.Sublist L) : Ok Try.prog w0 41 [.agg (enc a0).toArray, pv b_a1 0] F ((.blk b_a1 (enc a1) 3) :: L) (Is (.bool r) ((.blk b_a1 (enc a1) 3) :: L)) := by
 unfold partlaw_SkeenSays_2 at H
 refine Ok.enter (m := 2) (n := 8) Try.func41 rfl rfl rfl (by decide) ?_
 refine Cd.env (e' := [(0, .agg (enc a0).toArray), (1, pv b_a1 0)]) rfl ?_
 refine Cd.seq ?_
 refine Cd.region ?_
 refine Lst.box rfl rfl (by decide) rfl (cs := enc a0) rfl (fun b2 => ?_)
 refine Lst.r (Ev.assign rfl) ?_
 refine Lst.nil ?_
 refine At.then ?_
 refine Cd.seq ?_
 refine Cd.region ?_
 refine Lst.r (Ev.fieldAddr (off' := 0) rfl Try.runUnderlying77 rfl Try.sizeOf3 rfl rfl) ?_
 refine Lst.r (Ev.load (i := 0) rfl rfl Try.isAgg3 (v := iv a0.Id) ((Wait.get_Id (Get.here _)).off (by rfl))) ?_
 refine Lst.r (Ev.load (i := 1) rfl rfl Try.isAgg3 (v := iv a1) (Get.here _)) ?_
 refine Lst.r (Ev.eql rfl rfl) ?_
 refine Lst.r (Ev.assign rfl) ?_
 refine Lst.nil ?_
 refine At.then ?_
 obtain rfl := some_inj H
 refine Cd.ret ?_
 exact At.ret1 rfl (Res.tmp rfl) (FLe.refl _) (sc1 (sk1 (.refl _))) ⟨rfl, rfl⟩
set_option maxRecDepth 20000 in
theorem slices_IndexFunc_api_Wait_api_Wait_SkeenSays_2_sim {a0 : List Wait} {a1_c0 : Int} {s_a0 : Sl} {b_a1_c0 : Nat} {r : Int} (H : slices_IndexFunc_api_Wait_api_Wait_SkeenSays_2 a0 a1_c0 = some r) (w0 : World) (F : Frz) (M L : List Item) (hM : M.Sublist L) (hs_a0 : Rd w0 F M s_a0 a0) : Ok Try.prog w0 80 [Sl.v s_a0, .func (.func 41) #[] #[pv b_a1_c0 0]] F ((.blk b_a1_c0 (enc a1_c0) 3) :: L) (Is (iv r) ((.blk b_a1_c0 (enc a1_c0) 3) :: L)) := by
 unfold slices_IndexFunc_api_Wait_api_Wait_SkeenSays_2 at H
 refine Ok.enter (m := 2) (n := 19) Try.func80 rfl rfl rfl (by decide) ?_
 refine Cd.env (e' := [(0, Sl.v s_a0), (1, .func (.func 41) #[] #[pv b_a1_c0 0])]) rfl ?_
 refine Cd.seq ?_
 refine Cd.region ?_
 refine Lst.r (Ev.assign rfl) ?_
 refine Lst.nil ?_
 refine At.then ?_
 refine Cd.seq ?_
 refine Cd.seq ?_
 refine Cd.region ?_
 refine Lst.r (Ev.move rfl) ?_
 refine Lst.r (Ev.lenS (α := Wait) (xs := a0) (by decide) rfl rfl Try.runUnderlying57 (hs_a0.mono (FLe.refl _) (sc1 hM))) ?_
 refine Lst.r (Ev.move rfl) ?_
 refine Lst.nil ?_
 refine At.then ?_
 refine Cd.block ?_
 refine Cd.bound (Rd.le (α := Wait) (xs := a0) (by decide) (hs_a0.mono (FLe.refl _) (sc1 hM))) (fun hN13 => ?_)
 obtain ⟨ol2, H, HKl2⟩ := andThen_some H
 refine Cd.loop (σ := Nat × Nat × Unit) (fun (i2, k2, _u) => [(0, Sl.v s_a0), (1, .func (.func 41) #[] #[pv b_a1_c0 0]), (7, iv (a0.length : Int)), (8, iv (i2 : Int))]) (fun (i2, k2, _u) => (.blk b_a1_c0 (enc a1_c0) 3) :: L) (fun _ => (fun (i2, k2, _u) => rangeM (slices_IndexFunc_api_Wait_api_Wait_SkeenSays_2_B0 a0 a1_c0) k2 i2 () = some ol2 ∧ i2 + k2 = a0.length)) (fun (i2, k2, _u) => k2) (0, a0.length, ()) ⟨rfl, rfl, rfl, rfl, trivial⟩ rfl ⟨H, by omega⟩ ?_
 rintro F3 ⟨i2, k2, _u⟩ hF4 ⟨H, hik2⟩
 refine Cd.as (e' := [(0, Sl.v s_a0), (1, .func (.func 41) #[] #[pv b_a1_c0 0]), (7, iv (a0.length : Int)), (8, iv (i2 : Int))]) (L' := (.blk b_a1_c0 (enc a1_c0) 3) :: L) ⟨rfl, rfl, rfl, rfl, trivial⟩ rfl ?_
 rcases k2 with _ | k2
 ·have hc2 : decide ((i2 : Int) < (a0.length : Int)) = false := decide_eq_false (by omega)
  replace H := rangeM_end H
  refine Cd.seq ?_
  refine Cd.region ?_
  refine Lst.r (Ev.lss rfl rfl) ?_
  refine Lst.nil ?_
  refine At.then ?_
  refine Cd.seq ?_
  refine Cd.condF rfl hc2 ?_
  refine Cd.exit ?_
  refine At.then_exit ?_
  refine At.then_exit ?_
  refine At.in_exit ?_
  subst H
  replace H := HKl2
  refine At.then ?_
  refine Cd.seq ?_
  refine Cd.region ?_
  refine Lst.r (Ev.assign rfl) ?_
  refine Lst.nil ?_
  refine At.then ?_
  obtain rfl := some_inj H
  refine Cd.ret ?_
  exact At.ret1 rfl (Res.tmp rfl) hF4 (sk1 (.refl _)) ⟨rfl, rfl⟩
 have hc2 : decide ((i2 : Int) < (a0.length : Int)) = true := decide_eq_true (by omega)
 obtain ⟨c2, H, hgo2, hbrk2, hret2⟩ := rangeM_go H
 unfold slices_IndexFunc_api_Wait_api_Wait_SkeenSays_2_B0 at H
 try dsimp only at H
 refine Cd.seq ?_
 refine Cd.region ?_
 refine Lst.r (Ev.lss rfl rfl) ?_
 refine Lst.nil ?_
 refine At.then ?_
 refine Cd.seq ?_
 refine Cd.condT rfl hc2 ?_
 refine Cd.skip ?_
 refine At.then ?_
 refine Cd.seq ?_
 refine Cd.block ?_
 refine Cd.seq ?_
 refine Cd.region ?_
 refine Lst.r (Ev.move rfl) ?_
 refine Lst.r (Ev.assign rfl) ?_
 refine Lst.nil ?_
 refine At.then ?_
 refine Cd.seq ?_
 refine Cd.region ?_
 refine Lst.r (Ev.move rfl) ?_
 refine Lst.r (Ev.move rfl) ?_
 refine Lst.r (Ev.move rfl) ?_
 obtain ⟨x5, h6, H⟩ := bind_some H
 have g7 := lat_some h6
 refine Lst.r (Ev.indexS (α := Wait) (xs := a0) rfl rfl Try.runUnderlying57 Try.sizeOf77 rfl (by decide) (hs_a0.mono hF4 (sc1 hM)) g7.1 g7.2.1) ?_
 refine Lst.r (Ev.loadSA (α := Wait) rfl (hs_a0.mono hF4 (sc1 hM)) Try.isAgg77 Try.sizeOf77 (ch := enc x5) (Enc.len _) (by decide) ((Get.elemN (s := 4) (x := x5) rfl g7.2.2 (Get.here _)).off (by omega))) ?_
 obtain ⟨r8, h9, H⟩ := bind_some H
 refine Lst.callV1 rfl rfl (by decide) (vs := [.agg (enc x5).toArray]) (cs := [pv b_a1_c0 0]) rfl ⟨rfl, trivial⟩ Try.call41 (partlaw_SkeenSays_2_sim h9 w0 _ M _ hM) ?_
 refine Lst.nil ?_
 refine At.then ?_
 rcases Bool.eq_false_or_eq_true r8 with hb12 | hb12
 ·replace H := ite_t hb12 H
  refine Cd.condT rfl hb12 ?_
  refine Cd.seq ?_
  refine Cd.region ?_
  refine Lst.r (Ev.move rfl) ?_
  refine Lst.r (Ev.assign rfl) ?_
  refine Lst.nil ?_
  refine At.then ?_
  have H := hret2 _ (some_inj H).symm
  subst H
  replace H := HKl2
  obtain rfl := some_inj H
  refine Cd.ret ?_
  refine At.in_ret ?_
  refine At.then_ret ?_
  refine At.then_ret ?_
  refine At.in_ret ?_
  refine At.then_ret ?_
  exact At.ret1 rfl (Res.tmp rfl) hF4 (sk1 (.refl _)) ⟨rfl, rfl⟩
 replace H := ite_f hb12 H
 refine Cd.condF rfl hb12 ?_
 refine Cd.skip ?_
 refine At.in_normal ?_
 refine At.then ?_
 refine Cd.region ?_
 refine Lst.r (Ev.incr (by omega) rfl rfl) ?_
 refine Lst.r (Ev.move rfl) ?_
 refine Lst.nil ?_
 exact At.meet (i2 + 1, k2, ()) hF4 ⟨rfl, rfl, rfl, rfl, trivial⟩ rfl ⟨⟨hgo2 _ (some_inj H).symm, by omega⟩, Nat.lt_succ_self _⟩
set_option maxRecDepth 20000 in
theorem slices_ContainsFunc_api_Wait_api_Wait_SkeenSays_2_sim {a0 : List Wait} {a1_c0 : Int} {s_a0 : Sl} {b_a1_c0 : Nat} {r : Bool} (H : slices_ContainsFunc_api_Wait_api_Wait_SkeenSays_2 a0 a1_c0 = some r) (w0 : World) (F : Frz) (M L : List Item) (hM : M.Sublist L) (hs_a0 : Rd w0 F M s_a0 a0) : Ok Try.prog w0 40 [Sl.v s_a0, .func (.func 41) #[] #[pv b_a1_c0 0]] F ((.blk b_a1_c0 (enc a1_c0) 3) :: L) (Is (.bool r) ((.blk b_a1_c0 (enc a1_c0) 3) :: L)) := by
 unfold slices_ContainsFunc_api_Wait_api_Wait_SkeenSays_2 at H
 refine Ok.enter (m := 2) (n := 9) Try.func40 rfl rfl rfl (by decide) ?_
 refine Cd.env (e' := [(0, Sl.v s_a0), (1, .func (.func 41) #[] #[pv b_a1_c0 0])]) rfl ?_
 refine Cd.seq ?_
 refine Cd.region ?_
 refine Lst.r (Ev.assign rfl) ?_
 refine Lst.nil ?_
 refine At.then ?_
 refine Cd.seq ?_
 refine Cd.region ?_
 refine Lst.r (Ev.move rfl) ?_
 refine Lst.r (Ev.move rfl) ?_
 obtain ⟨r2, h3, H⟩ := bind_some H
 refine Lst.call1 rfl rfl (by decide) (vs := [Sl.v s_a0, .func (.func 41) #[] #[pv b_a1_c0 0]]) ⟨rfl, rfl, trivial⟩ Try.call80 (slices_IndexFunc_api_Wait_api_Wait_SkeenSays_2_sim h3 w0 _ M _ hM (hs_a0.mono (FLe.refl _) (.refl _))) ?_
 refine Lst.r (Ev.geq rfl rfl) ?_
 refine Lst.r (Ev.assign rfl) ?_
 refine Lst.nil ?_
 refine At.then ?_
 obtain rfl := some_inj H
 refine Cd.ret ?_
 exact At.ret1 rfl (Res.tmp rfl) (FLe.refl _) (sk1 (.refl _)) ⟨rfl, rfl⟩
set_option maxRecDepth 20000 in
theorem slices_Grow_api_Wait_api_Wait_sim {a1 : Int} {r : (List Wait)} (H : slices_Grow_api_Wait_api_Wait a1 = some r) (w0 : World) (F : Frz) (M L : List Item) (hM : M.Sublist L) : Ok Try.prog w0 91 [Sl.v Sl.nil, iv a1] F (L) (fun _ L' v => ∃ (s1 : Sl), v = Sl.v s1 ∧ L' = (.own s1 77 4 (encs r)) :: L) := by
 unfold slices_Grow_api_Wait_api_Wait at H
 refine Ok.enter (m := 2) (n := 27) Try.func91 rfl rfl rfl (by decide) ?_
 refine Cd.env (e' := [(0, Sl.v Sl.nil), (1, iv a1)]) rfl ?_
 refine Cd.seq ?_
 refine Cd.region ?_
 refine Lst.addNil 77 4 ?_
 refine Lst.r (Ev.assign rfl) ?_
 refine Lst.nil ?_
 refine At.then ?_
 refine Cd.seq ?_
 refine Cd.seq ?_
 refine Cd.region ?_
 refine Lst.r (Ev.move rfl) ?_
 refine Lst.r (Ev.lss rfl rfl) ?_
 refine Lst.nil ?_
 refine At.then ?_
 rcases Bool.eq_false_or_eq_true (decide (a1 < (0 : Int))) with hb2 | hb2
 ·replace H := ite_t hb2 H
  cases H
 replace H := ite_f hb2 H
 refine Cd.condF rfl hb2 ?_
 refine Cd.skip ?_
 refine At.then ?_
 obtain ⟨o6, H, HKo6⟩ := bind_some H
 refine Cd.join (σ := Sl × (List Wait)) (fun (s3, l4) => [(0, Sl.v s3)]) (fun (s3, l4) => (.own s3 77 4 (encs l4)) :: (.own Sl.nil 77 4 (encs ([] : List Wait))) :: L) (fun _ (s3, l4) => l4 = o6) ?_ ?_
 ·refine Cd.seq ?_
  refine Cd.region ?_
  refine Lst.r (Ev.move rfl) ?_
  refine Lst.r (Ev.move rfl) ?_
  refine Lst.r (Ev.capNil rfl rfl Try.runUnderlying57) ?_
  refine Lst.r (Ev.move rfl) ?_
  refine Lst.r (Ev.lenNil rfl rfl Try.runUnderlying57) ?_
  refine Lst.r (Ev.sub rfl rfl) ?_
  refine Lst.r (Ev.sub rfl rfl) ?_
  refine Lst.r (Ev.assign rfl) ?_
  refine Lst.nil ?_
  refine At.then ?_
  refine Cd.seq ?_
  refine Cd.region ?_
  refine Lst.r (Ev.move rfl) ?_
  refine Lst.r (Ev.gtr rfl rfl) ?_
  refine Lst.nil ?_
  refine At.then ?_
  rcases (Bool.eq_false_or_eq_true (decide ((w64 (a1 - (w64 ((0 : Int) - (0 : Int))))) > (0 : Int)))).symm with hb7 | hb7
  ·replace H := ite_f hb7 H
   refine Cd.condF rfl hb7 ?_
   refine Cd.skip ?_
   refine At.addNil 77 4 ?_
   exact At.meet (Sl.nil, ([] : List Wait)) (FLe.refl _) ⟨rfl, trivial⟩ rfl (some_inj H)
  replace H := ite_t hb7 H
  refine Cd.condT rfl hb7 ?_
  refine Cd.region ?_
  refine Lst.r (Ev.move rfl) ?_
  refine Lst.r (Ev.move rfl) ?_
  refine Lst.r (Ev.capNil rfl rfl Try.runUnderlying57) ?_
  refine Lst.r (Ev.cutNil rfl rfl Try.runUnderlying57 Try.sizeOf77) ?_
  refine Lst.r (Ev.move rfl) ?_
  obtain ⟨n10, h11, H⟩ := bind_some H
  have g12 := mkLen_some h11
  refine Lst.addNil 77 4 ?_
  refine Lst.appendZeros (α := Wait) (i := 0) (k := n10) Wait.zero rfl rfl (by decide) rfl (congrArg some (congrArg (Value.int .i64) g12.1)) Try.runUnderlying57 Try.runUnderlying3 Try.typeInfo77 rfl rfl rfl rfl rfl g12.2 rfl rfl (fun s13 => ?_)
  refine Lst.its (L' := (.own s13 77 4 (encs (List.replicate n10 Wait.zero))) :: (.own Sl.nil 77 4 (encs ([] : List Wait))) :: L) rfl ?_
  refine Lst.r (Ev.move rfl) ?_
  refine Lst.r (Ev.lenNil rfl rfl Try.runUnderlying57) ?_
  obtain ⟨m14, h15, H⟩ := bind_some H
  obtain ⟨g16, gl17⟩ := cutL_some h15
  try dsimp only at g16
  refine Lst.r (Ev.cut (α := Wait) (xs := (List.replicate n10 Wait.zero)) (i := 0) (j := (0 : Int)) rfl rfl rfl Try.runUnderlying57 Try.sizeOf77 rfl (by decide) (Rd.own (i := 0) rfl rfl rfl) g16.1 g16.2.1 g16.2.2) ?_
  refine Lst.cutOwn (i := 0) (α := Wait) (lo := (0 : Int).toNat) (hi := ((0 : Int) : Int).toNat) rfl rfl rfl (by decide) (by omega) (by omega) (L' := (.own (s13.cut (0 : Int).toNat ((0 : Int) : Int).toNat 4) 77 4 (encs m14)) :: (.own Sl.nil 77 4 (encs ([] : List Wait))) :: L) (by subst gl17; rfl) ?_
  refine Lst.r (Ev.assign rfl) ?_
  refine Lst.nil ?_
  exact At.meet ((s13.cut (0 : Int).toNat ((0 : Int) : Int).toNat 4), m14) (FLe.refl _) ⟨rfl, trivial⟩ rfl (some_inj H)
 rintro F19 ⟨s3, l4⟩ hF20 hy
 subst hy
 refine Cd.as (e' := [(0, Sl.v s3)]) (L' := (.own s3 77 4 (encs l4)) :: (.own Sl.nil 77 4 (encs ([] : List Wait))) :: L) ⟨rfl, trivial⟩ rfl ?_
 replace H := HKo6
 refine Cd.seq ?_
 refine Cd.region ?_
 refine Lst.r (Ev.move rfl) ?_
 refine Lst.r (Ev.assign rfl) ?_
 refine Lst.nil ?_
 refine At.then ?_
 obtain rfl := some_inj H
 refine Cd.ret ?_
 exact At.ret1 rfl (Res.tmp rfl) hF20 (sk1 (sc1 (.refl _))) ⟨s3, rfl, rfl⟩
set_option maxRecDepth 20000 in
theorem slices_Concat_api_Wait_api_Wait_sim {a0 : List (List Wait)} {s_a0 : Sl} {rs_a0 : List (LR Wait)} {r : (List Wait)} (H : slices_Concat_api_Wait_api_Wait a0 = some r) (w0 : World) (F : Frz) (M L : List Item) (hM : M.Sublist L) (hm_a0 : rs_a0.map LR.v = a0) (hs_a0 : Rd w0 F M s_a0 rs_a0) (ha_a0 : All LR.rel w0 F M rs_a0) : Ok Try.prog w0 42 [Sl.v s_a0] F (L) (fun _ L' v => ∃ (s1 : Sl), v = Sl.v s1 ∧ L' = (.own s1 77 4 (encs r)) :: L) := by
 unfold slices_Concat_api_Wait_api_Wait at H
 refine Ok.enter (m := 1) (n := 36) Try.func42 rfl rfl rfl (by decide) ?_
 refine Cd.env (e' := [(0, Sl.v s_a0)]) rfl ?_
 refine Cd.seq ?_
 refine Cd.region ?_
 refine Lst.addNil 77 4 ?_
 refine Lst.r (Ev.assign rfl) ?_
 refine Lst.nil ?_
 refine At.then ?_
 refine Cd.seq ?_
 refine Cd.region ?_
 refine Lst.r (Ev.assign rfl) ?_
 refine Lst.nil ?_
 refine At.then ?_
 refine Cd.seq ?_
 refine Cd.seq ?_
 refine Cd.region ?_
 refine Lst.r (Ev.move rfl) ?_
 refine Lst.r (Ev.lenM (map_len hm_a0) (Ev.lenS (α := LR Wait) (xs := rs_a0) (by decide) rfl rfl Try.runUnderlying120 (hs_a0.mono (FLe.refl _) (sc1 hM)))) ?_
 refine Lst.r (Ev.move rfl) ?_
 refine Lst.nil ?_
 refine At.then ?_
 refine Cd.block ?_
 refine Cd.bound (Rd.le (α := LR Wait) (xs := rs_a0) (by decide) (hs_a0.mono (FLe.refl _) (sc1 hM))) (fun hN32 => ?_)
 rw [map_len hm_a0] at hN32
 obtain ⟨ol3, H, HKl3⟩ := bind_some H
 refine Cd.loop (σ := Nat × Nat × Int) (fun (i3, k3, y4) => [(0, Sl.v s_a0), (3, iv y4), (9, Sl.v s_a0), (10, iv (a0.length : Int)), (11, iv (i3 : Int))]) (fun (i3, k3, y4) => (.own Sl.nil 77 4 (encs ([] : List Wait))) :: L) (fun _ => (fun (i3, k3, y4) => rangeF (slices_Concat_api_Wait_api_Wait_B0 a0) k3 i3 y4 = some ol3 ∧ i3 + k3 = a0.length)) (fun (i3, k3, y4) => k3) (0, a0.length, (0 : Int)) ⟨rfl, rfl, rfl, rfl, rfl, trivial⟩ rfl ⟨H, by omega⟩ ?_
 rintro F5 ⟨i3, k3, y4⟩ hF6 ⟨H, hik3⟩
 refine Cd.as (e' := [(0, Sl.v s_a0), (3, iv y4), (9, Sl.v s_a0), (10, iv (a0.length : Int)), (11, iv (i3 : Int))]) (L' := (.own Sl.nil 77 4 (encs ([] : List Wait))) :: L) ⟨rfl, rfl, rfl, rfl, rfl, trivial⟩ rfl ?_
 rcases k3 with _ | k3
 ·have hc3 : decide ((i3 : Int) < (a0.length : Int)) = false := decide_eq_false (by omega)
  replace H := rangeF_end H
  refine Cd.seq ?_
  refine Cd.region ?_
  refine Lst.r (Ev.lss rfl rfl) ?_
  refine Lst.nil ?_
  refine At.then ?_
  refine Cd.seq ?_
  refine Cd.condF rfl hc3 ?_
  refine Cd.exit ?_
  refine At.then_exit ?_
  refine At.then_exit ?_
  refine At.in_exit ?_
  subst H
  replace H := HKl3
  refine At.then ?_
  refine Cd.seq ?_
  refine Cd.region ?_
  refine Lst.r (Ev.move rfl) ?_
  obtain ⟨r12, h13, H⟩ := bind_some H
  refine Lst.call rfl rfl (by decide) (vs := [Sl.v Sl.nil, iv y4]) ⟨rfl, rfl, trivial⟩ Try.call91 (slices_Grow_api_Wait_api_Wait_sim h13 w0 _ M _ (sc1 hM)) (fun F16 L' v hF17 hv => ?_)
  obtain ⟨s14, rfl, rfl⟩ := hv
  refine Lst.r (Ev.assign rfl) ?_
  refine Lst.nil ?_
  refine At.then ?_
  refine Cd.seq ?_
  refine Cd.seq ?_
  refine Cd.region ?_
  refine Lst.r (Ev.move rfl) ?_
  refine Lst.r (Ev.lenM (map_len hm_a0) (Ev.lenS (α := LR Wait) (xs := rs_a0) (by decide) rfl rfl Try.runUnderlying120 (hs_a0.mono (FLe.trans hF6 hF17) (sc2 hM)))) ?_
  refine Lst.r (Ev.move rfl) ?_
  refine Lst.nil ?_
  refine At.then ?_
  refine Cd.block ?_
  refine Cd.bound (Rd.le (α := LR Wait) (xs := rs_a0) (by decide) (hs_a0.mono (FLe.trans hF6 hF17) (sc2 hM))) (fun hN31 => ?_)
  rw [map_len hm_a0] at hN31
  obtain ⟨ol19, H, HKl19⟩ := bind_some H
  refine Cd.loop (σ := Nat × Nat × Sl × (List Wait)) (fun (i19, k19, s20, l21) => [(6, Sl.v s20), (25, Sl.v s_a0), (26, iv (a0.length : Int)), (27, iv (i19 : Int))]) (fun (i19, k19, s20, l21) => (.own s20 77 4 (encs l21)) :: (.own Sl.nil 77 4 (encs ([] : List Wait))) :: L) (fun _ => (fun (i19, k19, s20, l21) => rangeF (slices_Concat_api_Wait_api_Wait_B2 a0) k19 i19 l21 = some ol19 ∧ i19 + k19 = a0.length)) (fun (i19, k19, s20, l21) => k19) (0, a0.length, s14, r12) ⟨rfl, rfl, rfl, rfl, trivial⟩ rfl ⟨H, by omega⟩ ?_
  rintro F22 ⟨i19, k19, s20, l21⟩ hF23 ⟨H, hik19⟩
  refine Cd.as (e' := [(6, Sl.v s20), (25, Sl.v s_a0), (26, iv (a0.length : Int)), (27, iv (i19 : Int))]) (L' := (.own s20 77 4 (encs l21)) :: (.own Sl.nil 77 4 (encs ([] : List Wait))) :: L) ⟨rfl, rfl, rfl, rfl, trivial⟩ rfl ?_
  rcases k19 with _ | k19
  ·have hc19 : decide ((i19 : Int) < (a0.length : Int)) = false := decide_eq_false (by omega)
   replace H := rangeF_end H
   refine Cd.seq ?_
   refine Cd.region ?_
   refine Lst.r (Ev.lss rfl rfl) ?_
   refine Lst.nil ?_
   refine At.then ?_
   refine Cd.seq ?_
   refine Cd.condF rfl hc19 ?_
   refine Cd.exit ?_
   refine At.then_exit ?_
   refine At.then_exit ?_
   refine At.in_exit ?_
   subst H
   replace H := HKl19
   refine At.then ?_
   refine Cd.seq ?_
   refine Cd.region ?_
   refine Lst.r (Ev.move rfl) ?_
   refine Lst.r (Ev.assign rfl) ?_
   refine Lst.nil ?_
   refine At.then ?_
   obtain rfl := some_inj H
   refine Cd.ret ?_
   exact At.ret1 rfl (Res.tmp rfl) (FLe.trans (FLe.trans hF6 hF17) hF23) (sk1 (sc1 (.refl _))) ⟨s20, rfl, rfl⟩
  have hc19 : decide ((i19 : Int) < (a0.length : Int)) = true := decide_eq_true (by omega)
  obtain ⟨c19, H, hgo19⟩ := rangeF_go H
  unfold slices_Concat_api_Wait_api_Wait_B2 at H
  try dsimp only at H
  refine Cd.seq ?_
  refine Cd.region ?_
  refine Lst.r (Ev.lss rfl rfl) ?_
  refine Lst.nil ?_
  refine At.then ?_
  refine Cd.seq ?_
  refine Cd.condT rfl hc19 ?_
  refine Cd.skip ?_
  refine At.then ?_
  refine Cd.seq ?_
  refine Cd.block ?_
  refine Cd.seq ?_
  refine Cd.region ?_
  obtain ⟨x24, h25, H⟩ := bind_some H
  have g26 := lat_some h25
  obtain ⟨⟨r27v, r27h⟩, r27g, r27e, r27m⟩ := map_get hm_a0 g26.2.2
  obtain rfl : x24 = r27v := r27e.symm
  have r27q : Rd w0 _ _ r27h x24 := ha_a0 _ r27m
  refine Lst.r (Ev.indexS (α := LR Wait) (xs := rs_a0) rfl rfl Try.runUnderlying120 Try.sizeOf57 rfl (by decide) (hs_a0.mono (FLe.trans (FLe.trans hF6 hF17) hF23) (sc2 hM)) g26.1 (by have := map_len hm_a0; omega)) ?_
  refine Lst.r (Ev.loadS (α := LR Wait) rfl (hs_a0.mono (FLe.trans (FLe.trans hF6 hF17) hF23) (sc2 hM)) Try.isAgg57 (v := Sl.v r27h) ((Get.elemN (s := 1) rfl r27g (Get.here _)).off (by omega))) ?_
  refine Lst.r (Ev.assign rfl) ?_
  refine Lst.nil ?_
  refine At.then ?_
  refine Cd.region ?_
  refine Lst.r (Ev.move rfl) ?_
  refine Lst.r (Ev.move rfl) ?_
  obtain ⟨u28, h29, H⟩ := bind_some H
  refine Lst.append (i := 0) (α := Wait) (xs := l21) (ys := x24) rfl rfl (by decide) rfl rfl Try.runUnderlying57 Try.typeInfo77 rfl rfl rfl rfl rfl rfl (r27q.mono (FLe.trans (FLe.trans hF6 hF17) hF23) (sc2 hM)) rfl (room_some h29) rfl (fun s30 => ?_)
  refine Lst.its (L' := (.own s30 77 4 (encs (l21 ++ x24))) :: (.own Sl.nil 77 4 (encs ([] : List Wait))) :: L) rfl ?_
  refine Lst.r (Ev.assign rfl) ?_
  refine Lst.nil ?_
  refine At.in_normal ?_
  refine At.then ?_
  refine Cd.region ?_
  refine Lst.r (Ev.incr (by omega) rfl rfl) ?_
  refine Lst.r (Ev.move rfl) ?_
  refine Lst.nil ?_
  exact At.meet (i19 + 1, k19, s30, l21 ++ x24) hF23 ⟨rfl, rfl, rfl, rfl, trivial⟩ rfl ⟨⟨hgo19 _ (some_inj H).symm, by omega⟩, Nat.lt_succ_self _⟩
 have hc3 : decide ((i3 : Int) < (a0.length : Int)) = true := decide_eq_true (by omega)
 obtain ⟨c3, H, hgo3⟩ := rangeF_go H
 unfold slices_Concat_api_Wait_api_Wait_B0 at H
 try dsimp only at H
 refine Cd.seq ?_
 refine Cd.region ?_
 refine Lst.r (Ev.lss rfl rfl) ?_
 refine Lst.nil ?_
 refine At.then ?_
 refine Cd.seq ?_
 refine Cd.condT rfl hc3 ?_
 refine Cd.skip ?_
 refine At.then ?_
 refine Cd.seq ?_
 refine Cd.block ?_
 refine Cd.seq ?_
 refine Cd.region ?_
 obtain ⟨x7, h8, H⟩ := bind_some H
 have g9 := lat_some h8
 obtain ⟨⟨r10v, r10h⟩, r10g, r10e, r10m⟩ := map_get hm_a0 g9.2.2
 obtain rfl : x7 = r10v := r10e.symm
 have r10q : Rd w0 _ _ r10h x7 := ha_a0 _ r10m
 refine Lst.r (Ev.indexS (α := LR Wait) (xs := rs_a0) rfl rfl Try.runUnderlying120 Try.sizeOf57 rfl (by decide) (hs_a0.mono hF6 (sc1 hM)) g9.1 (by have := map_len hm_a0; omega)) ?_
 refine Lst.r (Ev.loadS (α := LR Wait) rfl (hs_a0.mono hF6 (sc1 hM)) Try.isAgg57 (v := Sl.v r10h) ((Get.elemN (s := 1) rfl r10g (Get.here _)).off (by omega))) ?_
 refine Lst.r (Ev.assign rfl) ?_
 refine Lst.nil ?_
 refine At.then ?_
 refine Cd.seq ?_
 refine Cd.region ?_
 refine Lst.r (Ev.move rfl) ?_
 refine Lst.r (Ev.move rfl) ?_
 refine Lst.r (Ev.lenS (α := Wait) (xs := x7) (by decide) rfl rfl Try.runUnderlying57 (r10q.mono hF6 (sc1 hM))) ?_
 refine Lst.r (Ev.add rfl rfl) ?_
 refine Lst.r (Ev.assign rfl) ?_
 refine Lst.nil ?_
 refine At.then ?_
 refine Cd.seq ?_
 refine Cd.region ?_
 refine Lst.r (Ev.move rfl) ?_
 refine Lst.r (Ev.lss rfl rfl) ?_
 refine Lst.nil ?_
 refine At.then ?_
 rcases Bool.eq_false_or_eq_true (decide ((w64 (y4 + (x7.length : Int))) < (0 : Int))) with hb11 | hb11
 ·replace H := ite_t hb11 H
  cases H
 replace H := ite_f hb11 H
 refine Cd.condF rfl hb11 ?_
 refine Cd.skip ?_
 refine At.in_normal ?_
 refine At.then ?_
 refine Cd.region ?_
 refine Lst.r (Ev.incr (by omega) rfl rfl) ?_
 refine Lst.r (Ev.move rfl) ?_
 refine Lst.nil ?_
 exact At.meet (i3 + 1, k3, w64 (y4 + (x7.length : Int))) hF6 ⟨rfl, rfl, rfl, rfl, rfl, trivial⟩ rfl ⟨⟨hgo3 _ (some_inj H).symm, by omega⟩, Nat.lt_succ_self _⟩
set_option maxRecDepth 20000 in
theorem partref_Fix_1_sim {a0 : Wait} {a1 : Int} {b_a1 : Nat} {r : Bool} (H : partref_Fix_1 a0 a1 = some r) (w0 : World) (F : Frz) (M L : List Item) (hM : M.Sublist L) : Ok Try.prog w0 92 [.agg (enc a0).toArray, pv b_a1 0] F ((.blk b_a1 (enc a1) 3) :: L) (Is (.bool r) ((.blk b_a1 (enc a1) 3) :: L)) := by
 unfold partref_Fix_1 at H
 refine Ok.enter (m := 2) (n := 8) Try.func92 rfl rfl rfl (by decide) ?_
 refine Cd.env (e' := [(0, .agg (enc a0).toArray), (1, pv b_a1 0)]) rfl ?_
 refine Cd.seq ?_
 refine Cd.region ?_
 refine Lst.box rfl rfl (by decide) rfl (cs := enc a0) rfl (fun b2 => ?_)
 refine Lst.r (Ev.assign rfl) ?_
 refine Lst.nil ?_
 refine At.then ?_
 refine Cd.seq ?_
 refine Cd.region ?_
 refine Lst.r (Ev.fieldAddr (off' := 0) rfl Try.runUnderlying77 rfl Try.sizeOf3 rfl rfl) ?_
 refine Lst.r (Ev.load (i := 0) rfl rfl Try.isAgg3 (v := iv a0.Id) ((Wait.get_Id (Get.here _)).off (by rfl))) ?_
 refine Lst.r (Ev.load (i := 1) rfl rfl Try.isAgg3 (v := iv a1) (Get.here _)) ?_
 refine Lst.r (Ev.eql rfl rfl) ?_
 refine Lst.r (Ev.assign rfl) ?_
 refine Lst.nil ?_
 refine At.then ?_
 obtain rfl := some_inj H
 refine Cd.ret ?_
 exact At.ret1 rfl (Res.tmp rfl) (FLe.refl _) (sc1 (sk1 (.refl _))) ⟨rfl, rfl⟩
set_option maxRecDepth 20000 in
theorem slices_IndexFunc_api_Wait_api_Wait_Fix_1_v2_sim {a0 : List Wait} {a1_c0 : Int} {s_a0 : Sl} {b_a1_c0 : Nat} {r : Int} (H : slices_IndexFunc_api_Wait_api_Wait_Fix_1_v2 a0 a1_c0 = some r) (w0 : World) (F : Frz) (M L : List Item) (hM : M.Sublist L) (hs_a0 : Rd w0 F M s_a0 a0) : Ok Try.prog w0 80 [Sl.v s_a0, .func (.func 92) #[] #[pv b_a1_c0 0]] F ((.blk b_a1_c0 (enc a1_c0) 3) :: L) (Is (iv r) ((.blk b_a1_c0 (enc a1_c0) 3) :: L)) := by
 unfold slices_IndexFunc_api_Wait_api_Wait_Fix_1_v2 at H
 refine Ok.enter (m := 2) (n := 19) Try.func80 rfl rfl rfl (by decide) ?_
 refine Cd.env (e' := [(0, Sl.v s_a0), (1, .func (.func 92) #[] #[pv b_a1_c0 0])]) rfl ?_
 refine Cd.seq ?_
 refine Cd.region ?_
 refine Lst.r (Ev.assign rfl) ?_
 refine Lst.nil ?_
 refine At.then ?_
 refine Cd.seq ?_
 refine Cd.seq ?_
 refine Cd.region ?_
 refine Lst.r (Ev.move rfl) ?_
 refine Lst.r (Ev.lenS (α := Wait) (xs := a0) (by decide) rfl rfl Try.runUnderlying57 (hs_a0.mono (FLe.refl _) (sc1 hM))) ?_
 refine Lst.r (Ev.move rfl) ?_
 refine Lst.nil ?_
 refine At.then ?_
 refine Cd.block ?_
 refine Cd.bound (Rd.le (α := Wait) (xs := a0) (by decide) (hs_a0.mono (FLe.refl _) (sc1 hM))) (fun hN13 => ?_)
 obtain ⟨ol2, H, HKl2⟩ := andThen_some H
 refine Cd.loop (σ := Nat × Nat × Unit) (fun (i2, k2, _u) => [(0, Sl.v s_a0), (1, .func (.func 92) #[] #[pv b_a1_c0 0]), (7, iv (a0.length : Int)), (8, iv (i2 : Int))]) (fun (i2, k2, _u) => (.blk b_a1_c0 (enc a1_c0) 3) :: L) (fun _ => (fun (i2, k2, _u) => rangeM (slices_IndexFunc_api_Wait_api_Wait_Fix_1_v2_B0 a0 a1_c0) k2 i2 () = some ol2 ∧ i2 + k2 = a0.length)) (fun (i2, k2, _u) => k2) (0, a0.length, ()) ⟨rfl, rfl, rfl, rfl, trivial⟩ rfl ⟨H, by omega⟩ ?_
 rintro F3 ⟨i2, k2, _u⟩ hF4 ⟨H, hik2⟩
 refine Cd.as (e' := [(0, Sl.v s_a0), (1, .func (.func 92) #[] #[pv b_a1_c0 0]), (7, iv (a0.length : Int)), (8, iv (i2 : Int))]) (L' := (.blk b_a1_c0 (enc a1_c0) 3) :: L) ⟨rfl, rfl, rfl, rfl, trivial⟩ rfl ?_
 rcases k2 with _ | k2
 ·have hc2 : decide ((i2 : Int) < (a0.length : Int)) = false := decide_eq_false (by omega)
  replace H := rangeM_end H
  refine Cd.seq ?_
  refine Cd.region ?_
  refine Lst.r (Ev.lss rfl rfl) ?_
  refine Lst.nil ?_
  refine At.then ?_
  refine Cd.seq ?_
  refine Cd.condF rfl hc2 ?_
  refine Cd.exit ?_
  refine At.then_exit ?_
  refine At.then_exit ?_
  refine At.in_exit ?_
  subst H
  replace H := HKl2
  refine At.then ?_
  refine Cd.seq ?_
  refine Cd.region ?_
  refine Lst.r (Ev.assign rfl) ?_
  refine Lst.nil ?_
  refine At.then ?_
  obtain rfl := some_inj H
  refine Cd.ret ?_
  exact At.ret1 rfl (Res.tmp rfl) hF4 (sk1 (.refl _)) ⟨rfl, rfl⟩
 have hc2 : decide ((i2 : Int) < (a0.length : Int)) = true := decide_eq_true (by omega)
 obtain ⟨c2, H, hgo2, hbrk2, hret2⟩ := rangeM_go H
 unfold slices_IndexFunc_api_Wait_api_Wait_Fix_1_v2_B0 at H
 try dsimp only at H
 refine Cd.seq ?_
 refine Cd.region ?_
 refine Lst.r (Ev.lss rfl rfl) ?_
 refine Lst.nil ?_
 refine At.then ?_
 refine Cd.seq ?_
 refine Cd.condT rfl hc2 ?_
 refine Cd.skip ?_
 refine At.then ?_
 refine Cd.seq ?_
 refine Cd.block ?_
 refine Cd.seq ?_
 refine Cd.region ?_
 refine Lst.r (Ev.move rfl) ?_
 refine Lst.r (Ev.assign rfl) ?_
 refine Lst.nil ?_
 refine At.then ?_
 refine Cd.seq ?_
 refine Cd.region ?_
 refine Lst.r (Ev.move rfl) ?_
 refine Lst.r (Ev.move rfl) ?_
 refine Lst.r (Ev.move rfl) ?_
 obtain ⟨x5, h6, H⟩ := bind_some H
 have g7 := lat_some h6
 refine Lst.r (Ev.indexS (α := Wait) (xs := a0) rfl rfl Try.runUnderlying57 Try.sizeOf77 rfl (by decide) (hs_a0.mono hF4 (sc1 hM)) g7.1 g7.2.1) ?_
 refine Lst.r (Ev.loadSA (α := Wait) rfl (hs_a0.mono hF4 (sc1 hM)) Try.isAgg77 Try.sizeOf77 (ch := enc x5) (Enc.len _) (by decide) ((Get.elemN (s := 4) (x := x5) rfl g7.2.2 (Get.here _)).off (by omega))) ?_
 obtain ⟨r8, h9, H⟩ := bind_some H
 refine Lst.callV1 rfl rfl (by decide) (vs := [.agg (enc x5).toArray]) (cs := [pv b_a1_c0 0]) rfl ⟨rfl, trivial⟩ Try.call92 (partref_Fix_1_sim h9 w0 _ M _ hM) ?_
 refine Lst.nil ?_
 refine At.then ?_
 rcases Bool.eq_false_or_eq_true r8 with hb12 | hb12
 ·replace H := ite_t hb12 H
  refine Cd.condT rfl hb12 ?_
  refine Cd.seq ?_
  refine Cd.region ?_
  refine Lst.r (Ev.move rfl) ?_
  refine Lst.r (Ev.assign rfl) ?_
  refine Lst.nil ?_
  refine At.then ?_
  have H := hret2 _ (some_inj H).symm
  subst H
  replace H := HKl2
  obtain rfl := some_inj H
  refine Cd.ret ?_
  refine At.in_ret ?_
  refine At.then_ret ?_
  refine At.then_ret ?_
  refine At.in_ret ?_
  refine At.then_ret ?_
  exact At.ret1 rfl (Res.tmp rfl) hF4 (sk1 (.refl _)) ⟨rfl, rfl⟩
 replace H := ite_f hb12 H
 refine Cd.condF rfl hb12 ?_
 refine Cd.skip ?_
 refine At.in_normal ?_
 refine At.then ?_
 refine Cd.region ?_
 refine Lst.r (Ev.incr (by omega) rfl rfl) ?_
 refine Lst.r (Ev.move rfl) ?_
 refine Lst.nil ?_
 exact At.meet (i2 + 1, k2, ()) hF4 ⟨rfl, rfl, rfl, rfl, trivial⟩ rfl ⟨⟨hgo2 _ (some_inj H).symm, by omega⟩, Nat.lt_succ_self _⟩
end Go.Proofs.Ytnljiedichjagaa
