/-
  The functions compute their specs; printed by a program.
-/
import Derived.Test.YtnljiedichjagaaSyP2
namespace Go.Proofs.Ytnljiedichjagaa
open Go.RowKit Enc
set_option linter.unusedVariables false
set_option linter.unusedSimpArgs false
set_option maxHeartbeats 2000000 in
set_option maxRecDepth 20000 in
theorem slices_partitionOrdered_string_sim {fu : Nat} {a0 : List Str} {a1 : Int} {a2 : Int} {a3 : Int} {s_a0 : Sl} {r : (List Str) × Int × Bool} (H : slices_partitionOrdered_string fu a0 a1 a2 a3 = some r) (w0 : World) (F : Frz) (M L : List Item) (hM : M.Sublist L) : Ok Try.prog w0 123 [Sl.v s_a0, iv a1, iv a2, iv a3] F ((.own s_a0 9 1 (encs a0)) :: L) (fun _ L' v => v = .tuple #[iv r.2.1, .bool r.2.2] ∧ L' = (.own s_a0 9 1 (encs r.1)) :: L) := by
 unfold slices_partitionOrdered_string at H
 refine Ok.enter (m := 4) (n := 168) Try.func123 rfl rfl rfl (by decide) ?_
 refine Cd.env (e' := [(0, Sl.v s_a0), (1, iv a1), (2, iv a2), (3, iv a3)]) rfl ?_
 refine Cd.seq ?_
 refine Cd.region ?_
 refine Lst.r (Ev.assign rfl) ?_
 refine Lst.r (Ev.assign rfl) ?_
 refine Lst.nil ?_
 refine At.then ?_
 refine Cd.seq ?_
 obtain ⟨x2, h3, H⟩ := bind_some H
 obtain ⟨x5, h6, H⟩ := bind_some H
 obtain ⟨x8, h9, H⟩ := bind_some H
 obtain ⟨p11, h12, H⟩ := Let_some H
 obtain ⟨o15, h16, H⟩ := Let_some H
 refine Cd.headMeet (σ := (List Str)) 14 (fun l14 => [(0, Sl.v s_a0), (1, iv a1), (2, iv a2), (14, Sl.v s_a0), (15, iv a3), (23, Str.v x5)]) (fun l14 => (.own s_a0 9 1 (encs l14)) :: L) (fun _ l14 => l14 = o15) (by kernel_rfl) (by kernel_rfl) (behind_sink (by kernel_rfl) (by kernel_rfl) (by kernel_rfl)) (by kernel_rfl) (fun hsel hlt => ?_) ?_
 ·refine HdJ.keep (fun w => St w0 F (L) w) (fun w h => trivial) ?_
  refine HdJ.tk hsel hlt 0 (fun w h => h.sublist (sc1 (.refl _))) rfl (Ev.move rfl) ?_
  refine HdJ.tk hsel hlt 1 (fun w h => h.sublist (sc1 (.refl _))) rfl (Ev.move rfl) ?_
  refine HdJ.tk hsel hlt 2 (fun w h => h.sublist (sc1 (.refl _))) rfl (Ev.move rfl) ?_
  refine HdJ.tk hsel hlt 3 (fun w h => h.sublist (sc1 (.refl _))) rfl (Ev.move rfl) ?_
  refine HdJ.tk hsel hlt 4 (fun w h => h.sublist (sc1 (.refl _))) rfl (Ev.move rfl) ?_
  refine HdJ.tk hsel hlt 5 (fun w h => h.sublist (sc1 (.refl _))) rfl (Ev.move rfl) ?_
  refine HdJ.tk hsel hlt 8 (fun w h => h.sublist (sc1 (.refl _))) rfl (Ev.move rfl) ?_
  refine HdJ.tk hsel hlt 9 (fun w h => h.sublist (sc1 (.refl _))) rfl (Ev.move rfl) ?_
  refine HdJ.step [6, 10] (by kernel_rfl) rfl ?_
  refine HdStep.c (fun inv => ?_) ?_
  ·have g17 := lat_some h3
   refine Lst.r (Ev.indexS (α := Str) (xs := a0) rfl rfl Try.runUnderlying50 Try.sizeOf9 rfl (by decide) (Rd.own (i := 0) rfl rfl rfl) g17.1 g17.2.1) ?_
   refine Lst.nil ?_
   refine At.hd inv (fun w h => (h.weaken (FLe.refl _)).sublist (sc1 (.refl _))) ?_
   refine HdJ.step [7, 10] (by kernel_rfl) rfl ?_
   refine HdStep.c (fun inv => ?_) ?_
   ·refine Lst.r (Ev.loadS (α := Str) rfl (Rd.own (i := 0) rfl rfl rfl) Try.isAgg9 (v := Str.v x2) ((Get.elemN (s := 1) (x := x2) rfl g17.2.2 (Get.here _)).off (by omega))) ?_
    refine Lst.nil ?_
    refine At.hd inv (fun w h => (h.weaken (FLe.refl _)).sublist (sc1 (.refl _))) ?_
    refine HdJ.step [10] (by kernel_rfl) rfl ?_
    refine HdStep.c (fun inv => ?_) ?_
    ·have g18 := lat_some h6
     refine Lst.r (Ev.indexS (α := Str) (xs := a0) rfl rfl Try.runUnderlying50 Try.sizeOf9 rfl (by decide) (Rd.own (i := 0) rfl rfl rfl) g18.1 g18.2.1) ?_
     refine Lst.nil ?_
     refine At.hd inv (fun w h => (h.weaken (FLe.refl _)).sublist (sc1 (.refl _))) ?_
     refine HdJ.step [11] (by kernel_rfl) rfl ?_
     refine HdStep.c (fun inv => ?_) ?_
     ·refine Lst.r (Ev.loadS (α := Str) rfl (Rd.own (i := 0) rfl rfl rfl) Try.isAgg9 (v := Str.v x5) ((Get.elemN (s := 1) (x := x5) rfl g18.2.2 (Get.here _)).off (by omega))) ?_
      refine Lst.nil ?_
      refine At.hd inv (fun w h => (h.weaken (FLe.refl _)).sublist (sc1 (.refl _))) ?_
      refine HdJ.step [12] (by kernel_rfl) rfl ?_
      refine HdStep.c (fun inv => ?_) ?_
      ·have g19 := lat_some h9
       refine Lst.r (Ev.indexS (α := Str) (xs := a0) rfl rfl Try.runUnderlying50 Try.sizeOf9 rfl (by decide) (Rd.own (i := 0) rfl rfl rfl) g19.1 g19.2.1) ?_
       refine Lst.nil ?_
       refine At.hd inv (fun w h => (h.weaken (FLe.refl _)).sublist (sc1 (.refl _))) ?_
       refine HdJ.step [13] (by kernel_rfl) rfl ?_
       refine HdStep.c (fun inv => ?_) ?_
       ·refine Lst.storeS (i := 0) rfl rfl rfl rfl rfl Try.sizeOf9 (vs := [Str.v x2]) rfl rfl (by decide) rfl (xs' := encs p11) (by rw [← h12]; exact (Put.elemN (s := 1) (x := x8) rfl g19.2.2 (Put.here (vs := [Str.v x2]) rfl)).off (by omega)) (L' := (.own s_a0 9 1 (encs p11)) :: L) rfl ?_
        refine Lst.nil ?_
        refine At.hd inv (fun w h => (h.weaken (FLe.refl _)).sublist (sc1 (.refl _))) ?_
        refine HdJ.done (by kernel_rfl) ?_
        exact At.meetN p11 (FLe.refl _) ⟨rfl, rfl, rfl, rfl, rfl, rfl, trivial⟩ rfl h16
       exact trivial
      exact trivial
     exact trivial
    exact trivial
   refine HdStep.c (fun inv => ?_) ?_
   ·have g20 := lat_some h6
    refine Lst.r (Ev.indexS (α := Str) (xs := a0) rfl rfl Try.runUnderlying50 Try.sizeOf9 rfl (by decide) (Rd.own (i := 0) rfl rfl rfl) g20.1 g20.2.1) ?_
    refine Lst.nil ?_
    refine At.hd inv (fun w h => (h.weaken (FLe.refl _)).sublist (sc1 (.refl _))) ?_
    refine HdJ.step [7, 11] (by kernel_rfl) rfl ?_
    refine HdStep.c (fun inv => ?_) ?_
    ·refine Lst.r (Ev.loadS (α := Str) rfl (Rd.own (i := 0) rfl rfl rfl) Try.isAgg9 (v := Str.v x2) ((Get.elemN (s := 1) (x := x2) rfl g17.2.2 (Get.here _)).off (by omega))) ?_
     refine Lst.nil ?_
     refine At.hd inv (fun w h => (h.weaken (FLe.refl _)).sublist (sc1 (.refl _))) ?_
     refine HdJ.step [11] (by kernel_rfl) rfl ?_
     refine HdStep.c (fun inv => ?_) ?_
     ·refine Lst.r (Ev.loadS (α := Str) rfl (Rd.own (i := 0) rfl rfl rfl) Try.isAgg9 (v := Str.v x5) ((Get.elemN (s := 1) (x := x5) rfl g20.2.2 (Get.here _)).off (by omega))) ?_
      refine Lst.nil ?_
      refine At.hd inv (fun w h => (h.weaken (FLe.refl _)).sublist (sc1 (.refl _))) ?_
      refine HdJ.step [12] (by kernel_rfl) rfl ?_
      refine HdStep.c (fun inv => ?_) ?_
      ·have g21 := lat_some h9
       refine Lst.r (Ev.indexS (α := Str) (xs := a0) rfl rfl Try.runUnderlying50 Try.sizeOf9 rfl (by decide) (Rd.own (i := 0) rfl rfl rfl) g21.1 g21.2.1) ?_
       refine Lst.nil ?_
       refine At.hd inv (fun w h => (h.weaken (FLe.refl _)).sublist (sc1 (.refl _))) ?_
       refine HdJ.step [13] (by kernel_rfl) rfl ?_
       refine HdStep.c (fun inv => ?_) ?_
       ·refine Lst.storeS (i := 0) rfl rfl rfl rfl rfl Try.sizeOf9 (vs := [Str.v x2]) rfl rfl (by decide) rfl (xs' := encs p11) (by rw [← h12]; exact (Put.elemN (s := 1) (x := x8) rfl g21.2.2 (Put.here (vs := [Str.v x2]) rfl)).off (by omega)) (L' := (.own s_a0 9 1 (encs p11)) :: L) rfl ?_
        refine Lst.nil ?_
        refine At.hd inv (fun w h => (h.weaken (FLe.refl _)).sublist (sc1 (.refl _))) ?_
        refine HdJ.done (by kernel_rfl) ?_
        exact At.meetN p11 (FLe.refl _) ⟨rfl, rfl, rfl, rfl, rfl, rfl, trivial⟩ rfl h16
       exact trivial
      exact trivial
     exact trivial
    refine HdStep.c (fun inv => ?_) ?_
    ·refine Lst.r (Ev.loadS (α := Str) rfl (Rd.own (i := 0) rfl rfl rfl) Try.isAgg9 (v := Str.v x5) ((Get.elemN (s := 1) (x := x5) rfl g20.2.2 (Get.here _)).off (by omega))) ?_
     refine Lst.nil ?_
     refine At.hd inv (fun w h => (h.weaken (FLe.refl _)).sublist (sc1 (.refl _))) ?_
     refine HdJ.step [7] (by kernel_rfl) rfl ?_
     refine HdStep.c (fun inv => ?_) ?_
     ·refine Lst.r (Ev.loadS (α := Str) rfl (Rd.own (i := 0) rfl rfl rfl) Try.isAgg9 (v := Str.v x2) ((Get.elemN (s := 1) (x := x2) rfl g17.2.2 (Get.here _)).off (by omega))) ?_
      refine Lst.nil ?_
      refine At.hd inv (fun w h => (h.weaken (FLe.refl _)).sublist (sc1 (.refl _))) ?_
      refine HdJ.step [12] (by kernel_rfl) rfl ?_
      refine HdStep.c (fun inv => ?_) ?_
      ·have g22 := lat_some h9
       refine Lst.r (Ev.indexS (α := Str) (xs := a0) rfl rfl Try.runUnderlying50 Try.sizeOf9 rfl (by decide) (Rd.own (i := 0) rfl rfl rfl) g22.1 g22.2.1) ?_
       refine Lst.nil ?_
       refine At.hd inv (fun w h => (h.weaken (FLe.refl _)).sublist (sc1 (.refl _))) ?_
       refine HdJ.step [13] (by kernel_rfl) rfl ?_
       refine HdStep.c (fun inv => ?_) ?_
       ·refine Lst.storeS (i := 0) rfl rfl rfl rfl rfl Try.sizeOf9 (vs := [Str.v x2]) rfl rfl (by decide) rfl (xs' := encs p11) (by rw [← h12]; exact (Put.elemN (s := 1) (x := x8) rfl g22.2.2 (Put.here (vs := [Str.v x2]) rfl)).off (by omega)) (L' := (.own s_a0 9 1 (encs p11)) :: L) rfl ?_
        refine Lst.nil ?_
        refine At.hd inv (fun w h => (h.weaken (FLe.refl _)).sublist (sc1 (.refl _))) ?_
        refine HdJ.done (by kernel_rfl) ?_
        exact At.meetN p11 (FLe.refl _) ⟨rfl, rfl, rfl, rfl, rfl, rfl, trivial⟩ rfl h16
       exact trivial
      exact trivial
     exact trivial
    exact trivial
   exact trivial
  refine HdStep.c (fun inv => ?_) ?_
  ·have g23 := lat_some h6
   refine Lst.r (Ev.indexS (α := Str) (xs := a0) rfl rfl Try.runUnderlying50 Try.sizeOf9 rfl (by decide) (Rd.own (i := 0) rfl rfl rfl) g23.1 g23.2.1) ?_
   refine Lst.nil ?_
   refine At.hd inv (fun w h => (h.weaken (FLe.refl _)).sublist (sc1 (.refl _))) ?_
   refine HdJ.step [6, 11] (by kernel_rfl) rfl ?_
   refine HdStep.c (fun inv => ?_) ?_
   ·have g24 := lat_some h3
    refine Lst.r (Ev.indexS (α := Str) (xs := a0) rfl rfl Try.runUnderlying50 Try.sizeOf9 rfl (by decide) (Rd.own (i := 0) rfl rfl rfl) g24.1 g24.2.1) ?_
    refine Lst.nil ?_
    refine At.hd inv (fun w h => (h.weaken (FLe.refl _)).sublist (sc1 (.refl _))) ?_
    refine HdJ.step [7, 11] (by kernel_rfl) rfl ?_
    refine HdStep.c (fun inv => ?_) ?_
    ·refine Lst.r (Ev.loadS (α := Str) rfl (Rd.own (i := 0) rfl rfl rfl) Try.isAgg9 (v := Str.v x2) ((Get.elemN (s := 1) (x := x2) rfl g24.2.2 (Get.here _)).off (by omega))) ?_
     refine Lst.nil ?_
     refine At.hd inv (fun w h => (h.weaken (FLe.refl _)).sublist (sc1 (.refl _))) ?_
     refine HdJ.step [11] (by kernel_rfl) rfl ?_
     refine HdStep.c (fun inv => ?_) ?_
     ·refine Lst.r (Ev.loadS (α := Str) rfl (Rd.own (i := 0) rfl rfl rfl) Try.isAgg9 (v := Str.v x5) ((Get.elemN (s := 1) (x := x5) rfl g23.2.2 (Get.here _)).off (by omega))) ?_
      refine Lst.nil ?_
      refine At.hd inv (fun w h => (h.weaken (FLe.refl _)).sublist (sc1 (.refl _))) ?_
      refine HdJ.step [12] (by kernel_rfl) rfl ?_
      refine HdStep.c (fun inv => ?_) ?_
      ·have g25 := lat_some h9
       refine Lst.r (Ev.indexS (α := Str) (xs := a0) rfl rfl Try.runUnderlying50 Try.sizeOf9 rfl (by decide) (Rd.own (i := 0) rfl rfl rfl) g25.1 g25.2.1) ?_
       refine Lst.nil ?_
       refine At.hd inv (fun w h => (h.weaken (FLe.refl _)).sublist (sc1 (.refl _))) ?_
       refine HdJ.step [13] (by kernel_rfl) rfl ?_
       refine HdStep.c (fun inv => ?_) ?_
       ·refine Lst.storeS (i := 0) rfl rfl rfl rfl rfl Try.sizeOf9 (vs := [Str.v x2]) rfl rfl (by decide) rfl (xs' := encs p11) (by rw [← h12]; exact (Put.elemN (s := 1) (x := x8) rfl g25.2.2 (Put.here (vs := [Str.v x2]) rfl)).off (by omega)) (L' := (.own s_a0 9 1 (encs p11)) :: L) rfl ?_
        refine Lst.nil ?_
        refine At.hd inv (fun w h => (h.weaken (FLe.refl _)).sublist (sc1 (.refl _))) ?_
        refine HdJ.done (by kernel_rfl) ?_
        exact At.meetN p11 (FLe.refl _) ⟨rfl, rfl, rfl, rfl, rfl, rfl, trivial⟩ rfl h16
       exact trivial
      exact trivial
     exact trivial
    refine HdStep.c (fun inv => ?_) ?_
    ·refine Lst.r (Ev.loadS (α := Str) rfl (Rd.own (i := 0) rfl rfl rfl) Try.isAgg9 (v := Str.v x5) ((Get.elemN (s := 1) (x := x5) rfl g23.2.2 (Get.here _)).off (by omega))) ?_
     refine Lst.nil ?_
     refine At.hd inv (fun w h => (h.weaken (FLe.refl _)).sublist (sc1 (.refl _))) ?_
     refine HdJ.step [7] (by kernel_rfl) rfl ?_
     refine HdStep.c (fun inv => ?_) ?_
     ·refine Lst.r (Ev.loadS (α := Str) rfl (Rd.own (i := 0) rfl rfl rfl) Try.isAgg9 (v := Str.v x2) ((Get.elemN (s := 1) (x := x2) rfl g24.2.2 (Get.here _)).off (by omega))) ?_
      refine Lst.nil ?_
      refine At.hd inv (fun w h => (h.weaken (FLe.refl _)).sublist (sc1 (.refl _))) ?_
      refine HdJ.step [12] (by kernel_rfl) rfl ?_
      refine HdStep.c (fun inv => ?_) ?_
      ·have g26 := lat_some h9
       refine Lst.r (Ev.indexS (α := Str) (xs := a0) rfl rfl Try.runUnderlying50 Try.sizeOf9 rfl (by decide) (Rd.own (i := 0) rfl rfl rfl) g26.1 g26.2.1) ?_
       refine Lst.nil ?_
       refine At.hd inv (fun w h => (h.weaken (FLe.refl _)).sublist (sc1 (.refl _))) ?_
       refine HdJ.step [13] (by kernel_rfl) rfl ?_
       refine HdStep.c (fun inv => ?_) ?_
       ·refine Lst.storeS (i := 0) rfl rfl rfl rfl rfl Try.sizeOf9 (vs := [Str.v x2]) rfl rfl (by decide) rfl (xs' := encs p11) (by rw [← h12]; exact (Put.elemN (s := 1) (x := x8) rfl g26.2.2 (Put.here (vs := [Str.v x2]) rfl)).off (by omega)) (L' := (.own s_a0 9 1 (encs p11)) :: L) rfl ?_
        refine Lst.nil ?_
        refine At.hd inv (fun w h => (h.weaken (FLe.refl _)).sublist (sc1 (.refl _))) ?_
        refine HdJ.done (by kernel_rfl) ?_
        exact At.meetN p11 (FLe.refl _) ⟨rfl, rfl, rfl, rfl, rfl, rfl, trivial⟩ rfl h16
       exact trivial
      exact trivial
     exact trivial
    exact trivial
   refine HdStep.c (fun inv => ?_) ?_
   ·refine Lst.r (Ev.loadS (α := Str) rfl (Rd.own (i := 0) rfl rfl rfl) Try.isAgg9 (v := Str.v x5) ((Get.elemN (s := 1) (x := x5) rfl g23.2.2 (Get.here _)).off (by omega))) ?_
    refine Lst.nil ?_
    refine At.hd inv (fun w h => (h.weaken (FLe.refl _)).sublist (sc1 (.refl _))) ?_
    refine HdJ.step [6] (by kernel_rfl) rfl ?_
    refine HdStep.c (fun inv => ?_) ?_
    ·have g27 := lat_some h3
     refine Lst.r (Ev.indexS (α := Str) (xs := a0) rfl rfl Try.runUnderlying50 Try.sizeOf9 rfl (by decide) (Rd.own (i := 0) rfl rfl rfl) g27.1 g27.2.1) ?_
     refine Lst.nil ?_
     refine At.hd inv (fun w h => (h.weaken (FLe.refl _)).sublist (sc1 (.refl _))) ?_
     refine HdJ.step [7] (by kernel_rfl) rfl ?_
     refine HdStep.c (fun inv => ?_) ?_
     ·refine Lst.r (Ev.loadS (α := Str) rfl (Rd.own (i := 0) rfl rfl rfl) Try.isAgg9 (v := Str.v x2) ((Get.elemN (s := 1) (x := x2) rfl g27.2.2 (Get.here _)).off (by omega))) ?_
      refine Lst.nil ?_
      refine At.hd inv (fun w h => (h.weaken (FLe.refl _)).sublist (sc1 (.refl _))) ?_
      refine HdJ.step [12] (by kernel_rfl) rfl ?_
      refine HdStep.c (fun inv => ?_) ?_
      ·have g28 := lat_some h9
       refine Lst.r (Ev.indexS (α := Str) (xs := a0) rfl rfl Try.runUnderlying50 Try.sizeOf9 rfl (by decide) (Rd.own (i := 0) rfl rfl rfl) g28.1 g28.2.1) ?_
       refine Lst.nil ?_
       refine At.hd inv (fun w h => (h.weaken (FLe.refl _)).sublist (sc1 (.refl _))) ?_
       refine HdJ.step [13] (by kernel_rfl) rfl ?_
       refine HdStep.c (fun inv => ?_) ?_
       ·refine Lst.storeS (i := 0) rfl rfl rfl rfl rfl Try.sizeOf9 (vs := [Str.v x2]) rfl rfl (by decide) rfl (xs' := encs p11) (by rw [← h12]; exact (Put.elemN (s := 1) (x := x8) rfl g28.2.2 (Put.here (vs := [Str.v x2]) rfl)).off (by omega)) (L' := (.own s_a0 9 1 (encs p11)) :: L) rfl ?_
        refine Lst.nil ?_
        refine At.hd inv (fun w h => (h.weaken (FLe.refl _)).sublist (sc1 (.refl _))) ?_
        refine HdJ.done (by kernel_rfl) ?_
        exact At.meetN p11 (FLe.refl _) ⟨rfl, rfl, rfl, rfl, rfl, rfl, trivial⟩ rfl h16
       exact trivial
      exact trivial
     exact trivial
    exact trivial
   exact trivial
  exact trivial
 rintro F29 l14 hF30 hy
 subst hy
 refine Lst.as (e' := [(0, Sl.v s_a0), (1, iv a1), (2, iv a2), (14, Sl.v s_a0), (15, iv a3), (23, Str.v x5)]) (L' := (.own s_a0 9 1 (encs l14)) :: L) ⟨rfl, rfl, rfl, rfl, rfl, rfl, trivial⟩ rfl ?_
 obtain ⟨x31, h32, H⟩ := bind_some H
 have g33 := lat_some h32
 refine Lst.r (Ev.indexS (α := Str) (xs := l14) rfl rfl Try.runUnderlying50 Try.sizeOf9 rfl (by decide) (Rd.own (i := 0) rfl rfl rfl) g33.1 g33.2.1) ?_
 obtain ⟨p34, h35, H⟩ := Let_some H
 refine Lst.storeS (i := 0) rfl rfl rfl rfl rfl Try.sizeOf9 (vs := [Str.v x5]) rfl rfl (by decide) rfl (xs' := encs p34) (by rw [← h35]; exact (Put.elemN (s := 1) (x := x31) rfl g33.2.2 (Put.here (vs := [Str.v x5]) rfl)).off (by omega)) (L' := (.own s_a0 9 1 (encs p34)) :: L) rfl ?_
 refine Lst.nil ?_
 refine At.then ?_
 refine Cd.seq ?_
 refine Cd.region ?_
 refine Lst.r (Ev.move rfl) ?_
 refine Lst.r (Ev.add rfl rfl) ?_
 refine Lst.r (Ev.move rfl) ?_
 refine Lst.r (Ev.sub rfl rfl) ?_
 refine Lst.r (Ev.assign rfl) ?_
 refine Lst.r (Ev.assign rfl) ?_
 refine Lst.nil ?_
 refine At.then ?_
 refine Cd.seq ?_
 refine Cd.block ?_
 obtain ⟨ol36, H, HKl36⟩ := andThen_some H
 refine Cd.loop (σ := Nat × Int) (fun (k36, y37) => [(0, Sl.v s_a0), (1, iv a1), (10, iv y37), (11, iv (w64 (a2 - (1 : Int))))]) (fun (k36, y37) => (.own s_a0 9 1 (encs p34)) :: L) (fun _ => (fun (k36, y37) => whileM (slices_partitionOrdered_string_B0 a1 a2 p34) k36 y37 = some ol36)) (fun (k36, y37) => k36) (fu, w64 (a1 + (1 : Int))) ⟨rfl, rfl, rfl, rfl, trivial⟩ rfl H ?_
 rintro F38 ⟨k36, y37⟩ hF39 H
 refine Cd.as (e' := [(0, Sl.v s_a0), (1, iv a1), (10, iv y37), (11, iv (w64 (a2 - (1 : Int))))]) (L' := (.own s_a0 9 1 (encs p34)) :: L) ⟨rfl, rfl, rfl, rfl, trivial⟩ rfl ?_
 rcases k36 with _ | k36
 ·cases H
 obtain ⟨c36, H, hgo36, hbrk36, hret36⟩ := whileM_go H
 unfold slices_partitionOrdered_string_B0 at H
 try dsimp only at H
 refine Cd.seq ?_
 refine Cd.seq ?_
 refine Cd.quiet (by kernel_rfl) (by kernel_rfl) ?_
 refine Qt.r (Ev.move rfl) ?_
 refine Qt.r (Ev.move rfl) ?_
 refine Qt.r (Ev.leq rfl rfl) ?_
 refine Qt.r (Ev.move rfl) ?_
 obtain ⟨o40, H, HKo40⟩ := bind_some H
 refine Qt.join (σ := Bool) 10 (fun y41 => [(0, Sl.v s_a0), (1, iv a1), (10, iv y37), (11, iv (w64 (a2 - (1 : Int)))), (43, .bool y41)]) (fun y41 => y41 = o40) ?_ ?_
 ·rcases (Bool.eq_false_or_eq_true (decide (y37 ≤ (w64 (a2 - (1 : Int)))))).symm with hb42 | hb42
  ·replace H := ite_f hb42 H
   refine Qt.skip rfl rfl rfl hb42 rfl (by decide) ?_
   refine Qt.skip rfl rfl rfl hb42 rfl (by decide) ?_
   refine Qt.skip rfl rfl rfl hb42 rfl (by decide) ?_
   refine Qt.skip rfl rfl rfl hb42 rfl (by decide) ?_
   refine Qt.skip rfl rfl rfl hb42 rfl (by decide) ?_
   refine Qt.skip rfl rfl rfl hb42 rfl (by decide) ?_
   refine Qt.skip rfl rfl rfl hb42 rfl (by decide) ?_
   refine Qt.skip rfl rfl rfl hb42 rfl (by decide) ?_
   refine Qt.skip rfl rfl rfl hb42 rfl (by decide) ?_
   refine Qt.r (Ev.pickF rfl hb42 rfl) ?_
   exact Qt.meet false ⟨rfl, rfl, rfl, rfl, rfl, trivial⟩ (some_inj H)
  replace H := ite_t hb42 H
  refine Qt.rG hb42 (Ev.move rfl) ?_
  refine Qt.rG hb42 (Ev.move rfl) ?_
  obtain ⟨x43, h44, H⟩ := bind_some H
  have g45 := lat_some h44
  refine Qt.rG hb42 (Ev.indexS (α := Str) (xs := p34) rfl rfl Try.runUnderlying50 Try.sizeOf9 rfl (by decide) (Rd.own (i := 0) rfl rfl rfl) g45.1 g45.2.1) ?_
  refine Qt.rG hb42 (Ev.loadS (α := Str) rfl (Rd.own (i := 0) rfl rfl rfl) Try.isAgg9 (v := Str.v x43) ((Get.elemN (s := 1) (x := x43) rfl g45.2.2 (Get.here _)).off (by omega))) ?_
  refine Qt.rG hb42 (Ev.move rfl) ?_
  refine Qt.rG hb42 (Ev.move rfl) ?_
  obtain ⟨x46, h47, H⟩ := bind_some H
  have g48 := lat_some h47
  refine Qt.rG hb42 (Ev.indexS (α := Str) (xs := p34) rfl rfl Try.runUnderlying50 Try.sizeOf9 rfl (by decide) (Rd.own (i := 0) rfl rfl rfl) g48.1 g48.2.1) ?_
  refine Qt.rG hb42 (Ev.loadS (α := Str) rfl (Rd.own (i := 0) rfl rfl rfl) Try.isAgg9 (v := Str.v x46) ((Get.elemN (s := 1) (x := x46) rfl g48.2.2 (Get.here _)).off (by omega))) ?_
  obtain ⟨r49, h50, H⟩ := bind_some H
  refine Qt.callG rfl rfl rfl hb42 rfl (by decide) (vs := [Str.v x43, Str.v x46]) ⟨rfl, rfl, trivial⟩ Try.call121 (cmp_Less_string_sim h50 w0 _ M _ (sc1 hM)) ?_
  refine Qt.r (Ev.pickT rfl hb42 rfl) ?_
  exact Qt.meet r49 ⟨rfl, rfl, rfl, rfl, rfl, trivial⟩ (some_inj H)
 rintro y41 hy
 subst hy
 refine Qt.as (e' := [(0, Sl.v s_a0), (1, iv a1), (10, iv y37), (11, iv (w64 (a2 - (1 : Int)))), (43, .bool y41)]) ⟨rfl, rfl, rfl, rfl, rfl, trivial⟩ ?_
 replace H := HKo40
 refine Qt.done ?_
 refine At.then ?_
 rcases (Bool.eq_false_or_eq_true y41).symm with hb53 | hb53
 ·replace H := ite_f hb53 H
  refine Cd.condF rfl hb53 ?_
  refine Cd.exit ?_
  refine At.then_exit ?_
  refine At.then_exit ?_
  refine At.in_exit ?_
  have H := hbrk36 _ (some_inj H).symm
  subst H
  replace H := HKl36
  refine At.then ?_
  refine Cd.seq ?_
  refine Cd.block ?_
  obtain ⟨ol54, H, HKl54⟩ := andThen_some H
  refine Cd.loop (σ := Nat × Int) (fun (k54, y55) => [(0, Sl.v s_a0), (1, iv a1), (10, iv y37), (11, iv y55)]) (fun (k54, y55) => (.own s_a0 9 1 (encs p34)) :: L) (fun _ => (fun (k54, y55) => whileM (slices_partitionOrdered_string_B2 a1 p34 y37) k54 y55 = some ol54)) (fun (k54, y55) => k54) (fu, w64 (a2 - (1 : Int))) ⟨rfl, rfl, rfl, rfl, trivial⟩ rfl H ?_
  rintro F56 ⟨k54, y55⟩ hF57 H
  refine Cd.as (e' := [(0, Sl.v s_a0), (1, iv a1), (10, iv y37), (11, iv y55)]) (L' := (.own s_a0 9 1 (encs p34)) :: L) ⟨rfl, rfl, rfl, rfl, trivial⟩ rfl ?_
  rcases k54 with _ | k54
  ·cases H
  obtain ⟨c54, H, hgo54, hbrk54, hret54⟩ := whileM_go H
  unfold slices_partitionOrdered_string_B2 at H
  try dsimp only at H
  refine Cd.seq ?_
  refine Cd.seq ?_
  refine Cd.quiet (by kernel_rfl) (by kernel_rfl) ?_
  refine Qt.r (Ev.move rfl) ?_
  refine Qt.r (Ev.move rfl) ?_
  refine Qt.r (Ev.leq rfl rfl) ?_
  refine Qt.r (Ev.move rfl) ?_
  obtain ⟨o58, H, HKo58⟩ := bind_some H
  refine Qt.join (σ := Bool) 11 (fun y59 => [(0, Sl.v s_a0), (1, iv a1), (10, iv y37), (11, iv y55), (60, .bool y59)]) (fun y59 => y59 = o58) ?_ ?_
  ·rcases (Bool.eq_false_or_eq_true (decide (y37 ≤ y55))).symm with hb60 | hb60
   ·replace H := ite_f hb60 H
    refine Qt.skip rfl rfl rfl hb60 rfl (by decide) ?_
    refine Qt.skip rfl rfl rfl hb60 rfl (by decide) ?_
    refine Qt.skip rfl rfl rfl hb60 rfl (by decide) ?_
    refine Qt.skip rfl rfl rfl hb60 rfl (by decide) ?_
    refine Qt.skip rfl rfl rfl hb60 rfl (by decide) ?_
    refine Qt.skip rfl rfl rfl hb60 rfl (by decide) ?_
    refine Qt.skip rfl rfl rfl hb60 rfl (by decide) ?_
    refine Qt.skip rfl rfl rfl hb60 rfl (by decide) ?_
    refine Qt.skip rfl rfl rfl hb60 rfl (by decide) ?_
    refine Qt.skip rfl rfl rfl hb60 rfl (by decide) ?_
    refine Qt.r (Ev.pickF rfl hb60 rfl) ?_
    exact Qt.meet false ⟨rfl, rfl, rfl, rfl, rfl, trivial⟩ (some_inj H)
   replace H := ite_t hb60 H
   refine Qt.rG hb60 (Ev.move rfl) ?_
   refine Qt.rG hb60 (Ev.move rfl) ?_
   obtain ⟨x61, h62, H⟩ := bind_some H
   have g63 := lat_some h62
   refine Qt.rG hb60 (Ev.indexS (α := Str) (xs := p34) rfl rfl Try.runUnderlying50 Try.sizeOf9 rfl (by decide) (Rd.own (i := 0) rfl rfl rfl) g63.1 g63.2.1) ?_
   refine Qt.rG hb60 (Ev.loadS (α := Str) rfl (Rd.own (i := 0) rfl rfl rfl) Try.isAgg9 (v := Str.v x61) ((Get.elemN (s := 1) (x := x61) rfl g63.2.2 (Get.here _)).off (by omega))) ?_
   refine Qt.rG hb60 (Ev.move rfl) ?_
   refine Qt.rG hb60 (Ev.move rfl) ?_
   obtain ⟨x64, h65, H⟩ := bind_some H
   have g66 := lat_some h65
   refine Qt.rG hb60 (Ev.indexS (α := Str) (xs := p34) rfl rfl Try.runUnderlying50 Try.sizeOf9 rfl (by decide) (Rd.own (i := 0) rfl rfl rfl) g66.1 g66.2.1) ?_
   refine Qt.rG hb60 (Ev.loadS (α := Str) rfl (Rd.own (i := 0) rfl rfl rfl) Try.isAgg9 (v := Str.v x64) ((Get.elemN (s := 1) (x := x64) rfl g66.2.2 (Get.here _)).off (by omega))) ?_
   obtain ⟨r67, h68, H⟩ := bind_some H
   refine Qt.callG rfl rfl rfl hb60 rfl (by decide) (vs := [Str.v x61, Str.v x64]) ⟨rfl, rfl, trivial⟩ Try.call121 (cmp_Less_string_sim h68 w0 _ M _ (sc1 hM)) ?_
   refine Qt.rG hb60 (Ev.not rfl) ?_
   refine Qt.r (Ev.pickT rfl hb60 rfl) ?_
   exact Qt.meet (!r67) ⟨rfl, rfl, rfl, rfl, rfl, trivial⟩ (some_inj H)
  rintro y59 hy
  subst hy
  refine Qt.as (e' := [(0, Sl.v s_a0), (1, iv a1), (10, iv y37), (11, iv y55), (60, .bool y59)]) ⟨rfl, rfl, rfl, rfl, rfl, trivial⟩ ?_
  replace H := HKo58
  refine Qt.done ?_
  refine At.then ?_
  rcases (Bool.eq_false_or_eq_true y59).symm with hb71 | hb71
  ·replace H := ite_f hb71 H
   refine Cd.condF rfl hb71 ?_
   refine Cd.exit ?_
   refine At.then_exit ?_
   refine At.then_exit ?_
   refine At.in_exit ?_
   have H := hbrk54 _ (some_inj H).symm
   subst H
   replace H := HKl54
   refine At.then ?_
   refine Cd.seq ?_
   refine Cd.seq ?_
   refine Cd.region ?_
   refine Lst.r (Ev.move rfl) ?_
   refine Lst.r (Ev.move rfl) ?_
   refine Lst.r (Ev.gtr rfl rfl) ?_
   refine Lst.nil ?_
   refine At.then ?_
   rcases Bool.eq_false_or_eq_true (decide (y37 > y55)) with hb72 | hb72
   ·replace H := ite_t hb72 H
    refine Cd.condT rfl hb72 ?_
    refine Cd.seq ?_
    obtain ⟨x73, h74, H⟩ := bind_some H
    obtain ⟨x76, h77, H⟩ := bind_some H
    obtain ⟨x79, h80, H⟩ := bind_some H
    obtain ⟨p82, h83, H⟩ := Let_some H
    obtain ⟨o86, h87, H⟩ := Let_some H
    refine Cd.headMeet (σ := (List Str)) 14 (fun l85 => [(11, iv y55), (68, Sl.v s_a0), (69, iv a1), (77, Str.v x76)]) (fun l85 => (.own s_a0 9 1 (encs l85)) :: L) (fun _ l85 => l85 = o86) (by kernel_rfl) (by kernel_rfl) (behind_sink (by kernel_rfl) (by kernel_rfl) (by kernel_rfl)) (by kernel_rfl) (fun hsel hlt => ?_) ?_
    ·refine HdJ.keep (fun w => St w0 F56 (L) w) (fun w h => trivial) ?_
     refine HdJ.tk hsel hlt 0 (fun w h => h.sublist (sc1 (.refl _))) rfl (Ev.move rfl) ?_
     refine HdJ.tk hsel hlt 1 (fun w h => h.sublist (sc1 (.refl _))) rfl (Ev.move rfl) ?_
     refine HdJ.tk hsel hlt 2 (fun w h => h.sublist (sc1 (.refl _))) rfl (Ev.move rfl) ?_
     refine HdJ.tk hsel hlt 3 (fun w h => h.sublist (sc1 (.refl _))) rfl (Ev.move rfl) ?_
     refine HdJ.tk hsel hlt 4 (fun w h => h.sublist (sc1 (.refl _))) rfl (Ev.move rfl) ?_
     refine HdJ.tk hsel hlt 5 (fun w h => h.sublist (sc1 (.refl _))) rfl (Ev.move rfl) ?_
     refine HdJ.tk hsel hlt 8 (fun w h => h.sublist (sc1 (.refl _))) rfl (Ev.move rfl) ?_
     refine HdJ.tk hsel hlt 9 (fun w h => h.sublist (sc1 (.refl _))) rfl (Ev.move rfl) ?_
     refine HdJ.step [6, 10] (by kernel_rfl) rfl ?_
     refine HdStep.c (fun inv => ?_) ?_
     ·have g88 := lat_some h74
      refine Lst.r (Ev.indexS (α := Str) (xs := p34) rfl rfl Try.runUnderlying50 Try.sizeOf9 rfl (by decide) (Rd.own (i := 0) rfl rfl rfl) g88.1 g88.2.1) ?_
      refine Lst.nil ?_
      refine At.hd inv (fun w h => (h.weaken (FLe.refl _)).sublist (sc1 (.refl _))) ?_
      refine HdJ.step [7, 10] (by kernel_rfl) rfl ?_
      refine HdStep.c (fun inv => ?_) ?_
      ·refine Lst.r (Ev.loadS (α := Str) rfl (Rd.own (i := 0) rfl rfl rfl) Try.isAgg9 (v := Str.v x73) ((Get.elemN (s := 1) (x := x73) rfl g88.2.2 (Get.here _)).off (by omega))) ?_
       refine Lst.nil ?_
       refine At.hd inv (fun w h => (h.weaken (FLe.refl _)).sublist (sc1 (.refl _))) ?_
       refine HdJ.step [10] (by kernel_rfl) rfl ?_
       refine HdStep.c (fun inv => ?_) ?_
       ·have g89 := lat_some h77
        refine Lst.r (Ev.indexS (α := Str) (xs := p34) rfl rfl Try.runUnderlying50 Try.sizeOf9 rfl (by decide) (Rd.own (i := 0) rfl rfl rfl) g89.1 g89.2.1) ?_
        refine Lst.nil ?_
        refine At.hd inv (fun w h => (h.weaken (FLe.refl _)).sublist (sc1 (.refl _))) ?_
        refine HdJ.step [11] (by kernel_rfl) rfl ?_
        refine HdStep.c (fun inv => ?_) ?_
        ·refine Lst.r (Ev.loadS (α := Str) rfl (Rd.own (i := 0) rfl rfl rfl) Try.isAgg9 (v := Str.v x76) ((Get.elemN (s := 1) (x := x76) rfl g89.2.2 (Get.here _)).off (by omega))) ?_
         refine Lst.nil ?_
         refine At.hd inv (fun w h => (h.weaken (FLe.refl _)).sublist (sc1 (.refl _))) ?_
         refine HdJ.step [12] (by kernel_rfl) rfl ?_
         refine HdStep.c (fun inv => ?_) ?_
         ·have g90 := lat_some h80
          refine Lst.r (Ev.indexS (α := Str) (xs := p34) rfl rfl Try.runUnderlying50 Try.sizeOf9 rfl (by decide) (Rd.own (i := 0) rfl rfl rfl) g90.1 g90.2.1) ?_
          refine Lst.nil ?_
          refine At.hd inv (fun w h => (h.weaken (FLe.refl _)).sublist (sc1 (.refl _))) ?_
          refine HdJ.step [13] (by kernel_rfl) rfl ?_
          refine HdStep.c (fun inv => ?_) ?_
          ·refine Lst.storeS (i := 0) rfl rfl rfl rfl rfl Try.sizeOf9 (vs := [Str.v x73]) rfl rfl (by decide) rfl (xs' := encs p82) (by rw [← h83]; exact (Put.elemN (s := 1) (x := x79) rfl g90.2.2 (Put.here (vs := [Str.v x73]) rfl)).off (by omega)) (L' := (.own s_a0 9 1 (encs p82)) :: L) rfl ?_
           refine Lst.nil ?_
           refine At.hd inv (fun w h => (h.weaken (FLe.refl _)).sublist (sc1 (.refl _))) ?_
           refine HdJ.done (by kernel_rfl) ?_
           exact At.meetN p82 (FLe.refl _) ⟨rfl, rfl, rfl, rfl, trivial⟩ rfl h87
          exact trivial
         exact trivial
        exact trivial
       exact trivial
      refine HdStep.c (fun inv => ?_) ?_
      ·have g91 := lat_some h77
       refine Lst.r (Ev.indexS (α := Str) (xs := p34) rfl rfl Try.runUnderlying50 Try.sizeOf9 rfl (by decide) (Rd.own (i := 0) rfl rfl rfl) g91.1 g91.2.1) ?_
       refine Lst.nil ?_
       refine At.hd inv (fun w h => (h.weaken (FLe.refl _)).sublist (sc1 (.refl _))) ?_
       refine HdJ.step [7, 11] (by kernel_rfl) rfl ?_
       refine HdStep.c (fun inv => ?_) ?_
       ·refine Lst.r (Ev.loadS (α := Str) rfl (Rd.own (i := 0) rfl rfl rfl) Try.isAgg9 (v := Str.v x73) ((Get.elemN (s := 1) (x := x73) rfl g88.2.2 (Get.here _)).off (by omega))) ?_
        refine Lst.nil ?_
        refine At.hd inv (fun w h => (h.weaken (FLe.refl _)).sublist (sc1 (.refl _))) ?_
        refine HdJ.step [11] (by kernel_rfl) rfl ?_
        refine HdStep.c (fun inv => ?_) ?_
        ·refine Lst.r (Ev.loadS (α := Str) rfl (Rd.own (i := 0) rfl rfl rfl) Try.isAgg9 (v := Str.v x76) ((Get.elemN (s := 1) (x := x76) rfl g91.2.2 (Get.here _)).off (by omega))) ?_
         refine Lst.nil ?_
         refine At.hd inv (fun w h => (h.weaken (FLe.refl _)).sublist (sc1 (.refl _))) ?_
         refine HdJ.step [12] (by kernel_rfl) rfl ?_
         refine HdStep.c (fun inv => ?_) ?_
         ·have g92 := lat_some h80
          refine Lst.r (Ev.indexS (α := Str) (xs := p34) rfl rfl Try.runUnderlying50 Try.sizeOf9 rfl (by decide) (Rd.own (i := 0) rfl rfl rfl) g92.1 g92.2.1) ?_
          refine Lst.nil ?_
          refine At.hd inv (fun w h => (h.weaken (FLe.refl _)).sublist (sc1 (.refl _))) ?_
          refine HdJ.step [13] (by kernel_rfl) rfl ?_
          refine HdStep.c (fun inv => ?_) ?_
          ·refine Lst.storeS (i := 0) rfl rfl rfl rfl rfl Try.sizeOf9 (vs := [Str.v x73]) rfl rfl (by decide) rfl (xs' := encs p82) (by rw [← h83]; exact (Put.elemN (s := 1) (x := x79) rfl g92.2.2 (Put.here (vs := [Str.v x73]) rfl)).off (by omega)) (L' := (.own s_a0 9 1 (encs p82)) :: L) rfl ?_
           refine Lst.nil ?_
           refine At.hd inv (fun w h => (h.weaken (FLe.refl _)).sublist (sc1 (.refl _))) ?_
           refine HdJ.done (by kernel_rfl) ?_
           exact At.meetN p82 (FLe.refl _) ⟨rfl, rfl, rfl, rfl, trivial⟩ rfl h87
          exact trivial
         exact trivial
        exact trivial
       refine HdStep.c (fun inv => ?_) ?_
       ·refine Lst.r (Ev.loadS (α := Str) rfl (Rd.own (i := 0) rfl rfl rfl) Try.isAgg9 (v := Str.v x76) ((Get.elemN (s := 1) (x := x76) rfl g91.2.2 (Get.here _)).off (by omega))) ?_
        refine Lst.nil ?_
        refine At.hd inv (fun w h => (h.weaken (FLe.refl _)).sublist (sc1 (.refl _))) ?_
        refine HdJ.step [7] (by kernel_rfl) rfl ?_
        refine HdStep.c (fun inv => ?_) ?_
        ·refine Lst.r (Ev.loadS (α := Str) rfl (Rd.own (i := 0) rfl rfl rfl) Try.isAgg9 (v := Str.v x73) ((Get.elemN (s := 1) (x := x73) rfl g88.2.2 (Get.here _)).off (by omega))) ?_
         refine Lst.nil ?_
         refine At.hd inv (fun w h => (h.weaken (FLe.refl _)).sublist (sc1 (.refl _))) ?_
         refine HdJ.step [12] (by kernel_rfl) rfl ?_
         refine HdStep.c (fun inv => ?_) ?_
         ·have g93 := lat_some h80
          refine Lst.r (Ev.indexS (α := Str) (xs := p34) rfl rfl Try.runUnderlying50 Try.sizeOf9 rfl (by decide) (Rd.own (i := 0) rfl rfl rfl) g93.1 g93.2.1) ?_
          refine Lst.nil ?_
          refine At.hd inv (fun w h => (h.weaken (FLe.refl _)).sublist (sc1 (.refl _))) ?_
          refine HdJ.step [13] (by kernel_rfl) rfl ?_
          refine HdStep.c (fun inv => ?_) ?_
          ·refine Lst.storeS (i := 0) rfl rfl rfl rfl rfl Try.sizeOf9 (vs := [Str.v x73]) rfl rfl (by decide) rfl (xs' := encs p82) (by rw [← h83]; exact (Put.elemN (s := 1) (x := x79) rfl g93.2.2 (Put.here (vs := [Str.v x73]) rfl)).off (by omega)) (L' := (.own s_a0 9 1 (encs p82)) :: L) rfl ?_
           refine Lst.nil ?_
           refine At.hd inv (fun w h => (h.weaken (FLe.refl _)).sublist (sc1 (.refl _))) ?_
           refine HdJ.done (by kernel_rfl) ?_
           exact At.meetN p82 (FLe.refl _) ⟨rfl, rfl, rfl, rfl, trivial⟩ rfl h87
          exact trivial
         exact trivial
        exact trivial
       exact trivial
      exact trivial
     refine HdStep.c (fun inv => ?_) ?_
     ·have g94 := lat_some h77
      refine Lst.r (Ev.indexS (α := Str) (xs := p34) rfl rfl Try.runUnderlying50 Try.sizeOf9 rfl (by decide) (Rd.own (i := 0) rfl rfl rfl) g94.1 g94.2.1) ?_
      refine Lst.nil ?_
      refine At.hd inv (fun w h => (h.weaken (FLe.refl _)).sublist (sc1 (.refl _))) ?_
      refine HdJ.step [6, 11] (by kernel_rfl) rfl ?_
      refine HdStep.c (fun inv => ?_) ?_
      ·have g95 := lat_some h74
       refine Lst.r (Ev.indexS (α := Str) (xs := p34) rfl rfl Try.runUnderlying50 Try.sizeOf9 rfl (by decide) (Rd.own (i := 0) rfl rfl rfl) g95.1 g95.2.1) ?_
       refine Lst.nil ?_
       refine At.hd inv (fun w h => (h.weaken (FLe.refl _)).sublist (sc1 (.refl _))) ?_
       refine HdJ.step [7, 11] (by kernel_rfl) rfl ?_
       refine HdStep.c (fun inv => ?_) ?_
       ·refine Lst.r (Ev.loadS (α := Str) rfl (Rd.own (i := 0) rfl rfl rfl) Try.isAgg9 (v := Str.v x73) ((Get.elemN (s := 1) (x := x73) rfl g95.2.2 (Get.here _)).off (by omega))) ?_
        refine Lst.nil ?_
        refine At.hd inv (fun w h => (h.weaken (FLe.refl _)).sublist (sc1 (.refl _))) ?_
        refine HdJ.step [11] (by kernel_rfl) rfl ?_
        refine HdStep.c (fun inv => ?_) ?_
        ·refine Lst.r (Ev.loadS (α := Str) rfl (Rd.own (i := 0) rfl rfl rfl) Try.isAgg9 (v := Str.v x76) ((Get.elemN (s := 1) (x := x76) rfl g94.2.2 (Get.here _)).off (by omega))) ?_
         refine Lst.nil ?_
         refine At.hd inv (fun w h => (h.weaken (FLe.refl _)).sublist (sc1 (.refl _))) ?_
         refine HdJ.step [12] (by kernel_rfl) rfl ?_
         refine HdStep.c (fun inv => ?_) ?_
         ·have g96 := lat_some h80
          refine Lst.r (Ev.indexS (α := Str) (xs := p34) rfl rfl Try.runUnderlying50 Try.sizeOf9 rfl (by decide) (Rd.own (i := 0) rfl rfl rfl) g96.1 g96.2.1) ?_
          refine Lst.nil ?_
          refine At.hd inv (fun w h => (h.weaken (FLe.refl _)).sublist (sc1 (.refl _))) ?_
          refine HdJ.step [13] (by kernel_rfl) rfl ?_
          refine HdStep.c (fun inv => ?_) ?_
          ·refine Lst.storeS (i := 0) rfl rfl rfl rfl rfl Try.sizeOf9 (vs := [Str.v x73]) rfl rfl (by decide) rfl (xs' := encs p82) (by rw [← h83]; exact (Put.elemN (s := 1) (x := x79) rfl g96.2.2 (Put.here (vs := [Str.v x73]) rfl)).off (by omega)) (L' := (.own s_a0 9 1 (encs p82)) :: L) rfl ?_
           refine Lst.nil ?_
           refine At.hd inv (fun w h => (h.weaken (FLe.refl _)).sublist (sc1 (.refl _))) ?_
           refine HdJ.done (by kernel_rfl) ?_
           exact At.meetN p82 (FLe.refl _) ⟨rfl, rfl, rfl, rfl, trivial⟩ rfl h87
          exact trivial
         exact trivial
        exact trivial
       refine HdStep.c (fun inv => ?_) ?_
       ·refine Lst.r (Ev.loadS (α := Str) rfl (Rd.own (i := 0) rfl rfl rfl) Try.isAgg9 (v := Str.v x76) ((Get.elemN (s := 1) (x := x76) rfl g94.2.2 (Get.here _)).off (by omega))) ?_
        refine Lst.nil ?_
        refine At.hd inv (fun w h => (h.weaken (FLe.refl _)).sublist (sc1 (.refl _))) ?_
        refine HdJ.step [7] (by kernel_rfl) rfl ?_
        refine HdStep.c (fun inv => ?_) ?_
        ·refine Lst.r (Ev.loadS (α := Str) rfl (Rd.own (i := 0) rfl rfl rfl) Try.isAgg9 (v := Str.v x73) ((Get.elemN (s := 1) (x := x73) rfl g95.2.2 (Get.here _)).off (by omega))) ?_
         refine Lst.nil ?_
         refine At.hd inv (fun w h => (h.weaken (FLe.refl _)).sublist (sc1 (.refl _))) ?_
         refine HdJ.step [12] (by kernel_rfl) rfl ?_
         refine HdStep.c (fun inv => ?_) ?_
         ·have g97 := lat_some h80
          refine Lst.r (Ev.indexS (α := Str) (xs := p34) rfl rfl Try.runUnderlying50 Try.sizeOf9 rfl (by decide) (Rd.own (i := 0) rfl rfl rfl) g97.1 g97.2.1) ?_
          refine Lst.nil ?_
          refine At.hd inv (fun w h => (h.weaken (FLe.refl _)).sublist (sc1 (.refl _))) ?_
          refine HdJ.step [13] (by kernel_rfl) rfl ?_
          refine HdStep.c (fun inv => ?_) ?_
          ·refine Lst.storeS (i := 0) rfl rfl rfl rfl rfl Try.sizeOf9 (vs := [Str.v x73]) rfl rfl (by decide) rfl (xs' := encs p82) (by rw [← h83]; exact (Put.elemN (s := 1) (x := x79) rfl g97.2.2 (Put.here (vs := [Str.v x73]) rfl)).off (by omega)) (L' := (.own s_a0 9 1 (encs p82)) :: L) rfl ?_
           refine Lst.nil ?_
           refine At.hd inv (fun w h => (h.weaken (FLe.refl _)).sublist (sc1 (.refl _))) ?_
           refine HdJ.done (by kernel_rfl) ?_
           exact At.meetN p82 (FLe.refl _) ⟨rfl, rfl, rfl, rfl, trivial⟩ rfl h87
          exact trivial
         exact trivial
        exact trivial
       exact trivial
      refine HdStep.c (fun inv => ?_) ?_
      ·refine Lst.r (Ev.loadS (α := Str) rfl (Rd.own (i := 0) rfl rfl rfl) Try.isAgg9 (v := Str.v x76) ((Get.elemN (s := 1) (x := x76) rfl g94.2.2 (Get.here _)).off (by omega))) ?_
       refine Lst.nil ?_
       refine At.hd inv (fun w h => (h.weaken (FLe.refl _)).sublist (sc1 (.refl _))) ?_
       refine HdJ.step [6] (by kernel_rfl) rfl ?_
       refine HdStep.c (fun inv => ?_) ?_
       ·have g98 := lat_some h74
        refine Lst.r (Ev.indexS (α := Str) (xs := p34) rfl rfl Try.runUnderlying50 Try.sizeOf9 rfl (by decide) (Rd.own (i := 0) rfl rfl rfl) g98.1 g98.2.1) ?_
        refine Lst.nil ?_
        refine At.hd inv (fun w h => (h.weaken (FLe.refl _)).sublist (sc1 (.refl _))) ?_
        refine HdJ.step [7] (by kernel_rfl) rfl ?_
        refine HdStep.c (fun inv => ?_) ?_
        ·refine Lst.r (Ev.loadS (α := Str) rfl (Rd.own (i := 0) rfl rfl rfl) Try.isAgg9 (v := Str.v x73) ((Get.elemN (s := 1) (x := x73) rfl g98.2.2 (Get.here _)).off (by omega))) ?_
         refine Lst.nil ?_
         refine At.hd inv (fun w h => (h.weaken (FLe.refl _)).sublist (sc1 (.refl _))) ?_
         refine HdJ.step [12] (by kernel_rfl) rfl ?_
         refine HdStep.c (fun inv => ?_) ?_
         ·have g99 := lat_some h80
          refine Lst.r (Ev.indexS (α := Str) (xs := p34) rfl rfl Try.runUnderlying50 Try.sizeOf9 rfl (by decide) (Rd.own (i := 0) rfl rfl rfl) g99.1 g99.2.1) ?_
          refine Lst.nil ?_
          refine At.hd inv (fun w h => (h.weaken (FLe.refl _)).sublist (sc1 (.refl _))) ?_
          refine HdJ.step [13] (by kernel_rfl) rfl ?_
          refine HdStep.c (fun inv => ?_) ?_
          ·refine Lst.storeS (i := 0) rfl rfl rfl rfl rfl Try.sizeOf9 (vs := [Str.v x73]) rfl rfl (by decide) rfl (xs' := encs p82) (by rw [← h83]; exact (Put.elemN (s := 1) (x := x79) rfl g99.2.2 (Put.here (vs := [Str.v x73]) rfl)).off (by omega)) (L' := (.own s_a0 9 1 (encs p82)) :: L) rfl ?_
           refine Lst.nil ?_
           refine At.hd inv (fun w h => (h.weaken (FLe.refl _)).sublist (sc1 (.refl _))) ?_
           refine HdJ.done (by kernel_rfl) ?_
           exact At.meetN p82 (FLe.refl _) ⟨rfl, rfl, rfl, rfl, trivial⟩ rfl h87
          exact trivial
         exact trivial
        exact trivial
       exact trivial
      exact trivial
     exact trivial
    rintro F100 l85 hF101 hy
    subst hy
    refine Lst.as (e' := [(11, iv y55), (68, Sl.v s_a0), (69, iv a1), (77, Str.v x76)]) (L' := (.own s_a0 9 1 (encs l85)) :: L) ⟨rfl, rfl, rfl, rfl, trivial⟩ rfl ?_
    obtain ⟨x102, h103, H⟩ := bind_some H
    have g104 := lat_some h103
    refine Lst.r (Ev.indexS (α := Str) (xs := l85) rfl rfl Try.runUnderlying50 Try.sizeOf9 rfl (by decide) (Rd.own (i := 0) rfl rfl rfl) g104.1 g104.2.1) ?_
    obtain ⟨p105, h106, H⟩ := Let_some H
    refine Lst.storeS (i := 0) rfl rfl rfl rfl rfl Try.sizeOf9 (vs := [Str.v x76]) rfl rfl (by decide) rfl (xs' := encs p105) (by rw [← h106]; exact (Put.elemN (s := 1) (x := x102) rfl g104.2.2 (Put.here (vs := [Str.v x76]) rfl)).off (by omega)) (L' := (.own s_a0 9 1 (encs p105)) :: L) rfl ?_
    refine Lst.nil ?_
    refine At.then ?_
    refine Cd.seq ?_
    refine Cd.region ?_
    refine Lst.r (Ev.move rfl) ?_
    refine Lst.r (Ev.assign rfl) ?_
    refine Lst.r (Ev.assign rfl) ?_
    refine Lst.nil ?_
    refine At.then ?_
    obtain rfl := some_inj H
    refine Cd.ret ?_
    refine At.then_ret ?_
    exact At.ret2 rfl (Res.tmp rfl) (Res.tmp rfl) (FLe.trans (FLe.trans (FLe.trans hF30 hF39) hF57) hF101) (sk1 (.refl _)) ⟨rfl, rfl⟩
   replace H := ite_f hb72 H
   refine Cd.condF rfl hb72 ?_
   refine Cd.skip ?_
   refine At.then ?_
   refine Cd.seq ?_
   obtain ⟨x107, h108, H⟩ := bind_some H
   obtain ⟨x110, h111, H⟩ := bind_some H
   obtain ⟨x113, h114, H⟩ := bind_some H
   obtain ⟨p116, h117, H⟩ := Let_some H
   obtain ⟨o120, h121, H⟩ := Let_some H
   refine Cd.headMeet (σ := (List Str)) 14 (fun l119 => [(0, Sl.v s_a0), (1, iv a1), (10, iv y37), (11, iv y55), (83, Sl.v s_a0), (84, iv y55), (92, Str.v x110)]) (fun l119 => (.own s_a0 9 1 (encs l119)) :: L) (fun _ l119 => l119 = o120) (by kernel_rfl) (by kernel_rfl) (behind_sink (by kernel_rfl) (by kernel_rfl) (by kernel_rfl)) (by kernel_rfl) (fun hsel hlt => ?_) ?_
   ·refine HdJ.keep (fun w => St w0 F56 (L) w) (fun w h => trivial) ?_
    refine HdJ.tk hsel hlt 0 (fun w h => h.sublist (sc1 (.refl _))) rfl (Ev.move rfl) ?_
    refine HdJ.tk hsel hlt 1 (fun w h => h.sublist (sc1 (.refl _))) rfl (Ev.move rfl) ?_
    refine HdJ.tk hsel hlt 2 (fun w h => h.sublist (sc1 (.refl _))) rfl (Ev.move rfl) ?_
    refine HdJ.tk hsel hlt 3 (fun w h => h.sublist (sc1 (.refl _))) rfl (Ev.move rfl) ?_
    refine HdJ.tk hsel hlt 4 (fun w h => h.sublist (sc1 (.refl _))) rfl (Ev.move rfl) ?_
    refine HdJ.tk hsel hlt 5 (fun w h => h.sublist (sc1 (.refl _))) rfl (Ev.move rfl) ?_
    refine HdJ.tk hsel hlt 8 (fun w h => h.sublist (sc1 (.refl _))) rfl (Ev.move rfl) ?_
    refine HdJ.tk hsel hlt 9 (fun w h => h.sublist (sc1 (.refl _))) rfl (Ev.move rfl) ?_
    refine HdJ.step [6, 10] (by kernel_rfl) rfl ?_
    refine HdStep.c (fun inv => ?_) ?_
    ·have g122 := lat_some h108
     refine Lst.r (Ev.indexS (α := Str) (xs := p34) rfl rfl Try.runUnderlying50 Try.sizeOf9 rfl (by decide) (Rd.own (i := 0) rfl rfl rfl) g122.1 g122.2.1) ?_
     refine Lst.nil ?_
     refine At.hd inv (fun w h => (h.weaken (FLe.refl _)).sublist (sc1 (.refl _))) ?_
     refine HdJ.step [7, 10] (by kernel_rfl) rfl ?_
     refine HdStep.c (fun inv => ?_) ?_
     ·refine Lst.r (Ev.loadS (α := Str) rfl (Rd.own (i := 0) rfl rfl rfl) Try.isAgg9 (v := Str.v x107) ((Get.elemN (s := 1) (x := x107) rfl g122.2.2 (Get.here _)).off (by omega))) ?_
      refine Lst.nil ?_
      refine At.hd inv (fun w h => (h.weaken (FLe.refl _)).sublist (sc1 (.refl _))) ?_
      refine HdJ.step [10] (by kernel_rfl) rfl ?_
      refine HdStep.c (fun inv => ?_) ?_
      ·have g123 := lat_some h111
       refine Lst.r (Ev.indexS (α := Str) (xs := p34) rfl rfl Try.runUnderlying50 Try.sizeOf9 rfl (by decide) (Rd.own (i := 0) rfl rfl rfl) g123.1 g123.2.1) ?_
       refine Lst.nil ?_
       refine At.hd inv (fun w h => (h.weaken (FLe.refl _)).sublist (sc1 (.refl _))) ?_
       refine HdJ.step [11] (by kernel_rfl) rfl ?_
       refine HdStep.c (fun inv => ?_) ?_
       ·refine Lst.r (Ev.loadS (α := Str) rfl (Rd.own (i := 0) rfl rfl rfl) Try.isAgg9 (v := Str.v x110) ((Get.elemN (s := 1) (x := x110) rfl g123.2.2 (Get.here _)).off (by omega))) ?_
        refine Lst.nil ?_
        refine At.hd inv (fun w h => (h.weaken (FLe.refl _)).sublist (sc1 (.refl _))) ?_
        refine HdJ.step [12] (by kernel_rfl) rfl ?_
        refine HdStep.c (fun inv => ?_) ?_
        ·have g124 := lat_some h114
         refine Lst.r (Ev.indexS (α := Str) (xs := p34) rfl rfl Try.runUnderlying50 Try.sizeOf9 rfl (by decide) (Rd.own (i := 0) rfl rfl rfl) g124.1 g124.2.1) ?_
         refine Lst.nil ?_
         refine At.hd inv (fun w h => (h.weaken (FLe.refl _)).sublist (sc1 (.refl _))) ?_
         refine HdJ.step [13] (by kernel_rfl) rfl ?_
         refine HdStep.c (fun inv => ?_) ?_
         ·refine Lst.storeS (i := 0) rfl rfl rfl rfl rfl Try.sizeOf9 (vs := [Str.v x107]) rfl rfl (by decide) rfl (xs' := encs p116) (by rw [← h117]; exact (Put.elemN (s := 1) (x := x113) rfl g124.2.2 (Put.here (vs := [Str.v x107]) rfl)).off (by omega)) (L' := (.own s_a0 9 1 (encs p116)) :: L) rfl ?_
          refine Lst.nil ?_
          refine At.hd inv (fun w h => (h.weaken (FLe.refl _)).sublist (sc1 (.refl _))) ?_
          refine HdJ.done (by kernel_rfl) ?_
          exact At.meetN p116 (FLe.refl _) ⟨rfl, rfl, rfl, rfl, rfl, rfl, rfl, trivial⟩ rfl h121
         exact trivial
        exact trivial
       exact trivial
      exact trivial
     refine HdStep.c (fun inv => ?_) ?_
     ·have g125 := lat_some h111
      refine Lst.r (Ev.indexS (α := Str) (xs := p34) rfl rfl Try.runUnderlying50 Try.sizeOf9 rfl (by decide) (Rd.own (i := 0) rfl rfl rfl) g125.1 g125.2.1) ?_
      refine Lst.nil ?_
      refine At.hd inv (fun w h => (h.weaken (FLe.refl _)).sublist (sc1 (.refl _))) ?_
      refine HdJ.step [7, 11] (by kernel_rfl) rfl ?_
      refine HdStep.c (fun inv => ?_) ?_
      ·refine Lst.r (Ev.loadS (α := Str) rfl (Rd.own (i := 0) rfl rfl rfl) Try.isAgg9 (v := Str.v x107) ((Get.elemN (s := 1) (x := x107) rfl g122.2.2 (Get.here _)).off (by omega))) ?_
       refine Lst.nil ?_
       refine At.hd inv (fun w h => (h.weaken (FLe.refl _)).sublist (sc1 (.refl _))) ?_
       refine HdJ.step [11] (by kernel_rfl) rfl ?_
       refine HdStep.c (fun inv => ?_) ?_
       ·refine Lst.r (Ev.loadS (α := Str) rfl (Rd.own (i := 0) rfl rfl rfl) Try.isAgg9 (v := Str.v x110) ((Get.elemN (s := 1) (x := x110) rfl g125.2.2 (Get.here _)).off (by omega))) ?_
        refine Lst.nil ?_
        refine At.hd inv (fun w h => (h.weaken (FLe.refl _)).sublist (sc1 (.refl _))) ?_
        refine HdJ.step [12] (by kernel_rfl) rfl ?_
        refine HdStep.c (fun inv => ?_) ?_
        ·have g126 := lat_some h114
         refine Lst.r (Ev.indexS (α := Str) (xs := p34) rfl rfl Try.runUnderlying50 Try.sizeOf9 rfl (by decide) (Rd.own (i := 0) rfl rfl rfl) g126.1 g126.2.1) ?_
         refine Lst.nil ?_
         refine At.hd inv (fun w h => (h.weaken (FLe.refl _)).sublist (sc1 (.refl _))) ?_
         refine HdJ.step [13] (by kernel_rfl) rfl ?_
         refine HdStep.c (fun inv => ?_) ?_
         ·refine Lst.storeS (i := 0) rfl rfl rfl rfl rfl Try.sizeOf9 (vs := [Str.v x107]) rfl rfl (by decide) rfl (xs' := encs p116) (by rw [← h117]; exact (Put.elemN (s := 1) (x := x113) rfl g126.2.2 (Put.here (vs := [Str.v x107]) rfl)).off (by omega)) (L' := (.own s_a0 9 1 (encs p116)) :: L) rfl ?_
          refine Lst.nil ?_
          refine At.hd inv (fun w h => (h.weaken (FLe.refl _)).sublist (sc1 (.refl _))) ?_
          refine HdJ.done (by kernel_rfl) ?_
          exact At.meetN p116 (FLe.refl _) ⟨rfl, rfl, rfl, rfl, rfl, rfl, rfl, trivial⟩ rfl h121
         exact trivial
        exact trivial
       exact trivial
      refine HdStep.c (fun inv => ?_) ?_
      ·refine Lst.r (Ev.loadS (α := Str) rfl (Rd.own (i := 0) rfl rfl rfl) Try.isAgg9 (v := Str.v x110) ((Get.elemN (s := 1) (x := x110) rfl g125.2.2 (Get.here _)).off (by omega))) ?_
       refine Lst.nil ?_
       refine At.hd inv (fun w h => (h.weaken (FLe.refl _)).sublist (sc1 (.refl _))) ?_
       refine HdJ.step [7] (by kernel_rfl) rfl ?_
       refine HdStep.c (fun inv => ?_) ?_
       ·refine Lst.r (Ev.loadS (α := Str) rfl (Rd.own (i := 0) rfl rfl rfl) Try.isAgg9 (v := Str.v x107) ((Get.elemN (s := 1) (x := x107) rfl g122.2.2 (Get.here _)).off (by omega))) ?_
        refine Lst.nil ?_
        refine At.hd inv (fun w h => (h.weaken (FLe.refl _)).sublist (sc1 (.refl _))) ?_
        refine HdJ.step [12] (by kernel_rfl) rfl ?_
        refine HdStep.c (fun inv => ?_) ?_
        ·have g127 := lat_some h114
         refine Lst.r (Ev.indexS (α := Str) (xs := p34) rfl rfl Try.runUnderlying50 Try.sizeOf9 rfl (by decide) (Rd.own (i := 0) rfl rfl rfl) g127.1 g127.2.1) ?_
         refine Lst.nil ?_
         refine At.hd inv (fun w h => (h.weaken (FLe.refl _)).sublist (sc1 (.refl _))) ?_
         refine HdJ.step [13] (by kernel_rfl) rfl ?_
         refine HdStep.c (fun inv => ?_) ?_
         ·refine Lst.storeS (i := 0) rfl rfl rfl rfl rfl Try.sizeOf9 (vs := [Str.v x107]) rfl rfl (by decide) rfl (xs' := encs p116) (by rw [← h117]; exact (Put.elemN (s := 1) (x := x113) rfl g127.2.2 (Put.here (vs := [Str.v x107]) rfl)).off (by omega)) (L' := (.own s_a0 9 1 (encs p116)) :: L) rfl ?_
          refine Lst.nil ?_
          refine At.hd inv (fun w h => (h.weaken (FLe.refl _)).sublist (sc1 (.refl _))) ?_
          refine HdJ.done (by kernel_rfl) ?_
          exact At.meetN p116 (FLe.refl _) ⟨rfl, rfl, rfl, rfl, rfl, rfl, rfl, trivial⟩ rfl h121
         exact trivial
        exact trivial
       exact trivial
      exact trivial
     exact trivial
    refine HdStep.c (fun inv => ?_) ?_
    ·have g128 := lat_some h111
     refine Lst.r (Ev.indexS (α := Str) (xs := p34) rfl rfl Try.runUnderlying50 Try.sizeOf9 rfl (by decide) (Rd.own (i := 0) rfl rfl rfl) g128.1 g128.2.1) ?_
     refine Lst.nil ?_
     refine At.hd inv (fun w h => (h.weaken (FLe.refl _)).sublist (sc1 (.refl _))) ?_
     refine HdJ.step [6, 11] (by kernel_rfl) rfl ?_
     refine HdStep.c (fun inv => ?_) ?_
     ·have g129 := lat_some h108
      refine Lst.r (Ev.indexS (α := Str) (xs := p34) rfl rfl Try.runUnderlying50 Try.sizeOf9 rfl (by decide) (Rd.own (i := 0) rfl rfl rfl) g129.1 g129.2.1) ?_
      refine Lst.nil ?_
      refine At.hd inv (fun w h => (h.weaken (FLe.refl _)).sublist (sc1 (.refl _))) ?_
      refine HdJ.step [7, 11] (by kernel_rfl) rfl ?_
      refine HdStep.c (fun inv => ?_) ?_
      ·refine Lst.r (Ev.loadS (α := Str) rfl (Rd.own (i := 0) rfl rfl rfl) Try.isAgg9 (v := Str.v x107) ((Get.elemN (s := 1) (x := x107) rfl g129.2.2 (Get.here _)).off (by omega))) ?_
       refine Lst.nil ?_
       refine At.hd inv (fun w h => (h.weaken (FLe.refl _)).sublist (sc1 (.refl _))) ?_
       refine HdJ.step [11] (by kernel_rfl) rfl ?_
       refine HdStep.c (fun inv => ?_) ?_
       ·refine Lst.r (Ev.loadS (α := Str) rfl (Rd.own (i := 0) rfl rfl rfl) Try.isAgg9 (v := Str.v x110) ((Get.elemN (s := 1) (x := x110) rfl g128.2.2 (Get.here _)).off (by omega))) ?_
        refine Lst.nil ?_
        refine At.hd inv (fun w h => (h.weaken (FLe.refl _)).sublist (sc1 (.refl _))) ?_
        refine HdJ.step [12] (by kernel_rfl) rfl ?_
        refine HdStep.c (fun inv => ?_) ?_
        ·have g130 := lat_some h114
         refine Lst.r (Ev.indexS (α := Str) (xs := p34) rfl rfl Try.runUnderlying50 Try.sizeOf9 rfl (by decide) (Rd.own (i := 0) rfl rfl rfl) g130.1 g130.2.1) ?_
         refine Lst.nil ?_
         refine At.hd inv (fun w h => (h.weaken (FLe.refl _)).sublist (sc1 (.refl _))) ?_
         refine HdJ.step [13] (by kernel_rfl) rfl ?_
         refine HdStep.c (fun inv => ?_) ?_
         ·refine Lst.storeS (i := 0) rfl rfl rfl rfl rfl Try.sizeOf9 (vs := [Str.v x107]) rfl rfl (by decide) rfl (xs' := encs p116) (by rw [← h117]; exact (Put.elemN (s := 1) (x := x113) rfl g130.2.2 (Put.here (vs := [Str.v x107]) rfl)).off (by omega)) (L' := (.own s_a0 9 1 (encs p116)) :: L) rfl ?_
          refine Lst.nil ?_
          refine At.hd inv (fun w h => (h.weaken (FLe.refl _)).sublist (sc1 (.refl _))) ?_
          refine HdJ.done (by kernel_rfl) ?_
          exact At.meetN p116 (FLe.refl _) ⟨rfl, rfl, rfl, rfl, rfl, rfl, rfl, trivial⟩ rfl h121
         exact trivial
        exact trivial
       exact trivial
      refine HdStep.c (fun inv => ?_) ?_
      ·refine Lst.r (Ev.loadS (α := Str) rfl (Rd.own (i := 0) rfl rfl rfl) Try.isAgg9 (v := Str.v x110) ((Get.elemN (s := 1) (x := x110) rfl g128.2.2 (Get.here _)).off (by omega))) ?_
       refine Lst.nil ?_
       refine At.hd inv (fun w h => (h.weaken (FLe.refl _)).sublist (sc1 (.refl _))) ?_
       refine HdJ.step [7] (by kernel_rfl) rfl ?_
       refine HdStep.c (fun inv => ?_) ?_
       ·refine Lst.r (Ev.loadS (α := Str) rfl (Rd.own (i := 0) rfl rfl rfl) Try.isAgg9 (v := Str.v x107) ((Get.elemN (s := 1) (x := x107) rfl g129.2.2 (Get.here _)).off (by omega))) ?_
        refine Lst.nil ?_
        refine At.hd inv (fun w h => (h.weaken (FLe.refl _)).sublist (sc1 (.refl _))) ?_
        refine HdJ.step [12] (by kernel_rfl) rfl ?_
        refine HdStep.c (fun inv => ?_) ?_
        ·have g131 := lat_some h114
         refine Lst.r (Ev.indexS (α := Str) (xs := p34) rfl rfl Try.runUnderlying50 Try.sizeOf9 rfl (by decide) (Rd.own (i := 0) rfl rfl rfl) g131.1 g131.2.1) ?_
         refine Lst.nil ?_
         refine At.hd inv (fun w h => (h.weaken (FLe.refl _)).sublist (sc1 (.refl _))) ?_
         refine HdJ.step [13] (by kernel_rfl) rfl ?_
         refine HdStep.c (fun inv => ?_) ?_
         ·refine Lst.storeS (i := 0) rfl rfl rfl rfl rfl Try.sizeOf9 (vs := [Str.v x107]) rfl rfl (by decide) rfl (xs' := encs p116) (by rw [← h117]; exact (Put.elemN (s := 1) (x := x113) rfl g131.2.2 (Put.here (vs := [Str.v x107]) rfl)).off (by omega)) (L' := (.own s_a0 9 1 (encs p116)) :: L) rfl ?_
          refine Lst.nil ?_
          refine At.hd inv (fun w h => (h.weaken (FLe.refl _)).sublist (sc1 (.refl _))) ?_
          refine HdJ.done (by kernel_rfl) ?_
          exact At.meetN p116 (FLe.refl _) ⟨rfl, rfl, rfl, rfl, rfl, rfl, rfl, trivial⟩ rfl h121
         exact trivial
        exact trivial
       exact trivial
      exact trivial
     refine HdStep.c (fun inv => ?_) ?_
     ·refine Lst.r (Ev.loadS (α := Str) rfl (Rd.own (i := 0) rfl rfl rfl) Try.isAgg9 (v := Str.v x110) ((Get.elemN (s := 1) (x := x110) rfl g128.2.2 (Get.here _)).off (by omega))) ?_
      refine Lst.nil ?_
      refine At.hd inv (fun w h => (h.weaken (FLe.refl _)).sublist (sc1 (.refl _))) ?_
      refine HdJ.step [6] (by kernel_rfl) rfl ?_
      refine HdStep.c (fun inv => ?_) ?_
      ·have g132 := lat_some h108
       refine Lst.r (Ev.indexS (α := Str) (xs := p34) rfl rfl Try.runUnderlying50 Try.sizeOf9 rfl (by decide) (Rd.own (i := 0) rfl rfl rfl) g132.1 g132.2.1) ?_
       refine Lst.nil ?_
       refine At.hd inv (fun w h => (h.weaken (FLe.refl _)).sublist (sc1 (.refl _))) ?_
       refine HdJ.step [7] (by kernel_rfl) rfl ?_
       refine HdStep.c (fun inv => ?_) ?_
       ·refine Lst.r (Ev.loadS (α := Str) rfl (Rd.own (i := 0) rfl rfl rfl) Try.isAgg9 (v := Str.v x107) ((Get.elemN (s := 1) (x := x107) rfl g132.2.2 (Get.here _)).off (by omega))) ?_
        refine Lst.nil ?_
        refine At.hd inv (fun w h => (h.weaken (FLe.refl _)).sublist (sc1 (.refl _))) ?_
        refine HdJ.step [12] (by kernel_rfl) rfl ?_
        refine HdStep.c (fun inv => ?_) ?_
        ·have g133 := lat_some h114
         refine Lst.r (Ev.indexS (α := Str) (xs := p34) rfl rfl Try.runUnderlying50 Try.sizeOf9 rfl (by decide) (Rd.own (i := 0) rfl rfl rfl) g133.1 g133.2.1) ?_
         refine Lst.nil ?_
         refine At.hd inv (fun w h => (h.weaken (FLe.refl _)).sublist (sc1 (.refl _))) ?_
         refine HdJ.step [13] (by kernel_rfl) rfl ?_
         refine HdStep.c (fun inv => ?_) ?_
         ·refine Lst.storeS (i := 0) rfl rfl rfl rfl rfl Try.sizeOf9 (vs := [Str.v x107]) rfl rfl (by decide) rfl (xs' := encs p116) (by rw [← h117]; exact (Put.elemN (s := 1) (x := x113) rfl g133.2.2 (Put.here (vs := [Str.v x107]) rfl)).off (by omega)) (L' := (.own s_a0 9 1 (encs p116)) :: L) rfl ?_
          refine Lst.nil ?_
          refine At.hd inv (fun w h => (h.weaken (FLe.refl _)).sublist (sc1 (.refl _))) ?_
          refine HdJ.done (by kernel_rfl) ?_
          exact At.meetN p116 (FLe.refl _) ⟨rfl, rfl, rfl, rfl, rfl, rfl, rfl, trivial⟩ rfl h121
         exact trivial
        exact trivial
       exact trivial
      exact trivial
     exact trivial
    exact trivial
   rintro F134 l119 hF135 hy
   subst hy
   refine Lst.as (e' := [(0, Sl.v s_a0), (1, iv a1), (10, iv y37), (11, iv y55), (83, Sl.v s_a0), (84, iv y55), (92, Str.v x110)]) (L' := (.own s_a0 9 1 (encs l119)) :: L) ⟨rfl, rfl, rfl, rfl, rfl, rfl, rfl, trivial⟩ rfl ?_
   obtain ⟨x136, h137, H⟩ := bind_some H
   have g138 := lat_some h137
   refine Lst.r (Ev.indexS (α := Str) (xs := l119) rfl rfl Try.runUnderlying50 Try.sizeOf9 rfl (by decide) (Rd.own (i := 0) rfl rfl rfl) g138.1 g138.2.1) ?_
   obtain ⟨p139, h140, H⟩ := Let_some H
   refine Lst.storeS (i := 0) rfl rfl rfl rfl rfl Try.sizeOf9 (vs := [Str.v x110]) rfl rfl (by decide) rfl (xs' := encs p139) (by rw [← h140]; exact (Put.elemN (s := 1) (x := x136) rfl g138.2.2 (Put.here (vs := [Str.v x110]) rfl)).off (by omega)) (L' := (.own s_a0 9 1 (encs p139)) :: L) rfl ?_
   refine Lst.nil ?_
   refine At.then ?_
   refine Cd.seq ?_
   refine Cd.region ?_
   refine Lst.r (Ev.move rfl) ?_
   refine Lst.r (Ev.add rfl rfl) ?_
   refine Lst.r (Ev.assign rfl) ?_
   refine Lst.nil ?_
   refine At.then ?_
   refine Cd.seq ?_
   refine Cd.region ?_
   refine Lst.r (Ev.move rfl) ?_
   refine Lst.r (Ev.sub rfl rfl) ?_
   refine Lst.r (Ev.assign rfl) ?_
   refine Lst.nil ?_
   refine At.then ?_
   refine Cd.seq ?_
   refine Cd.block ?_
   obtain ⟨ol141, H, HKl141⟩ := andThen_some H
   refine Cd.loop (σ := Nat × Int × Int × (List Str)) (fun (k141, y142, y143, l144) => [(0, Sl.v s_a0), (1, iv a1), (10, iv y142), (11, iv y143)]) (fun (k141, y142, y143, l144) => (.own s_a0 9 1 (encs l144)) :: L) (fun _ => (fun (k141, y142, y143, l144) => whileM (slices_partitionOrdered_string_B4 fu a1) k141 (y142, y143, l144) = some ol141)) (fun (k141, y142, y143, l144) => k141) (fu, w64 (y37 + (1 : Int)), w64 (y55 - (1 : Int)), p139) ⟨rfl, rfl, rfl, rfl, trivial⟩ rfl H ?_
   rintro F145 ⟨k141, y142, y143, l144⟩ hF146 H
   refine Cd.as (e' := [(0, Sl.v s_a0), (1, iv a1), (10, iv y142), (11, iv y143)]) (L' := (.own s_a0 9 1 (encs l144)) :: L) ⟨rfl, rfl, rfl, rfl, trivial⟩ rfl ?_
   rcases k141 with _ | k141
   ·cases H
   obtain ⟨c141, H, hgo141, hbrk141, hret141⟩ := whileM_go H
   unfold slices_partitionOrdered_string_B4 at H
   try dsimp only at H
   refine Cd.block ?_
   refine Cd.seq ?_
   refine Cd.block ?_
   obtain ⟨ol147, H, HKl147⟩ := andThen_some H
   refine Cd.loop (σ := Nat × Int) (fun (k147, y148) => [(0, Sl.v s_a0), (1, iv a1), (10, iv y148), (11, iv y143)]) (fun (k147, y148) => (.own s_a0 9 1 (encs l144)) :: L) (fun _ => (fun (k147, y148) => whileM (slices_partitionOrdered_string_B6 a1 y143 l144) k147 y148 = some ol147)) (fun (k147, y148) => k147) (fu, y142) ⟨rfl, rfl, rfl, rfl, trivial⟩ rfl H ?_
   rintro F149 ⟨k147, y148⟩ hF150 H
   refine Cd.as (e' := [(0, Sl.v s_a0), (1, iv a1), (10, iv y148), (11, iv y143)]) (L' := (.own s_a0 9 1 (encs l144)) :: L) ⟨rfl, rfl, rfl, rfl, trivial⟩ rfl ?_
   rcases k147 with _ | k147
   ·cases H
   obtain ⟨c147, H, hgo147, hbrk147, hret147⟩ := whileM_go H
   unfold slices_partitionOrdered_string_B6 at H
   try dsimp only at H
   refine Cd.seq ?_
   refine Cd.seq ?_
   refine Cd.quiet (by kernel_rfl) (by kernel_rfl) ?_
   refine Qt.r (Ev.move rfl) ?_
   refine Qt.r (Ev.move rfl) ?_
   refine Qt.r (Ev.leq rfl rfl) ?_
   refine Qt.r (Ev.move rfl) ?_
   obtain ⟨o151, H, HKo151⟩ := bind_some H
   refine Qt.join (σ := Bool) 10 (fun y152 => [(0, Sl.v s_a0), (1, iv a1), (10, iv y148), (11, iv y143), (112, .bool y152)]) (fun y152 => y152 = o151) ?_ ?_
   ·rcases (Bool.eq_false_or_eq_true (decide (y148 ≤ y143))).symm with hb153 | hb153
    ·replace H := ite_f hb153 H
     refine Qt.skip rfl rfl rfl hb153 rfl (by decide) ?_
     refine Qt.skip rfl rfl rfl hb153 rfl (by decide) ?_
     refine Qt.skip rfl rfl rfl hb153 rfl (by decide) ?_
     refine Qt.skip rfl rfl rfl hb153 rfl (by decide) ?_
     refine Qt.skip rfl rfl rfl hb153 rfl (by decide) ?_
     refine Qt.skip rfl rfl rfl hb153 rfl (by decide) ?_
     refine Qt.skip rfl rfl rfl hb153 rfl (by decide) ?_
     refine Qt.skip rfl rfl rfl hb153 rfl (by decide) ?_
     refine Qt.skip rfl rfl rfl hb153 rfl (by decide) ?_
     refine Qt.r (Ev.pickF rfl hb153 rfl) ?_
     exact Qt.meet false ⟨rfl, rfl, rfl, rfl, rfl, trivial⟩ (some_inj H)
    replace H := ite_t hb153 H
    refine Qt.rG hb153 (Ev.move rfl) ?_
    refine Qt.rG hb153 (Ev.move rfl) ?_
    obtain ⟨x154, h155, H⟩ := bind_some H
    have g156 := lat_some h155
    refine Qt.rG hb153 (Ev.indexS (α := Str) (xs := l144) rfl rfl Try.runUnderlying50 Try.sizeOf9 rfl (by decide) (Rd.own (i := 0) rfl rfl rfl) g156.1 g156.2.1) ?_
    refine Qt.rG hb153 (Ev.loadS (α := Str) rfl (Rd.own (i := 0) rfl rfl rfl) Try.isAgg9 (v := Str.v x154) ((Get.elemN (s := 1) (x := x154) rfl g156.2.2 (Get.here _)).off (by omega))) ?_
    refine Qt.rG hb153 (Ev.move rfl) ?_
    refine Qt.rG hb153 (Ev.move rfl) ?_
    obtain ⟨x157, h158, H⟩ := bind_some H
    have g159 := lat_some h158
    refine Qt.rG hb153 (Ev.indexS (α := Str) (xs := l144) rfl rfl Try.runUnderlying50 Try.sizeOf9 rfl (by decide) (Rd.own (i := 0) rfl rfl rfl) g159.1 g159.2.1) ?_
    refine Qt.rG hb153 (Ev.loadS (α := Str) rfl (Rd.own (i := 0) rfl rfl rfl) Try.isAgg9 (v := Str.v x157) ((Get.elemN (s := 1) (x := x157) rfl g159.2.2 (Get.here _)).off (by omega))) ?_
    obtain ⟨r160, h161, H⟩ := bind_some H
    refine Qt.callG rfl rfl rfl hb153 rfl (by decide) (vs := [Str.v x154, Str.v x157]) ⟨rfl, rfl, trivial⟩ Try.call121 (cmp_Less_string_sim h161 w0 _ M _ (sc1 hM)) ?_
    refine Qt.r (Ev.pickT rfl hb153 rfl) ?_
    exact Qt.meet r160 ⟨rfl, rfl, rfl, rfl, rfl, trivial⟩ (some_inj H)
   rintro y152 hy
   subst hy
   refine Qt.as (e' := [(0, Sl.v s_a0), (1, iv a1), (10, iv y148), (11, iv y143), (112, .bool y152)]) ⟨rfl, rfl, rfl, rfl, rfl, trivial⟩ ?_
   replace H := HKo151
   refine Qt.done ?_
   refine At.then ?_
   rcases (Bool.eq_false_or_eq_true y152).symm with hb164 | hb164
   ·replace H := ite_f hb164 H
    refine Cd.condF rfl hb164 ?_
    refine Cd.exit ?_
    refine At.then_exit ?_
    refine At.then_exit ?_
    refine At.in_exit ?_
    have H := hbrk147 _ (some_inj H).symm
    subst H
    replace H := HKl147
    refine At.then ?_
    refine Cd.seq ?_
    refine Cd.block ?_
    obtain ⟨ol165, H, HKl165⟩ := andThen_some H
    refine Cd.loop (σ := Nat × Int) (fun (k165, y166) => [(0, Sl.v s_a0), (1, iv a1), (10, iv y148), (11, iv y166)]) (fun (k165, y166) => (.own s_a0 9 1 (encs l144)) :: L) (fun _ => (fun (k165, y166) => whileM (slices_partitionOrdered_string_B8 a1 l144 y148) k165 y166 = some ol165)) (fun (k165, y166) => k165) (fu, y143) ⟨rfl, rfl, rfl, rfl, trivial⟩ rfl H ?_
    rintro F167 ⟨k165, y166⟩ hF168 H
    refine Cd.as (e' := [(0, Sl.v s_a0), (1, iv a1), (10, iv y148), (11, iv y166)]) (L' := (.own s_a0 9 1 (encs l144)) :: L) ⟨rfl, rfl, rfl, rfl, trivial⟩ rfl ?_
    rcases k165 with _ | k165
    ·cases H
    obtain ⟨c165, H, hgo165, hbrk165, hret165⟩ := whileM_go H
    unfold slices_partitionOrdered_string_B8 at H
    try dsimp only at H
    refine Cd.seq ?_
    refine Cd.seq ?_
    refine Cd.quiet (by kernel_rfl) (by kernel_rfl) ?_
    refine Qt.r (Ev.move rfl) ?_
    refine Qt.r (Ev.move rfl) ?_
    refine Qt.r (Ev.leq rfl rfl) ?_
    refine Qt.r (Ev.move rfl) ?_
    obtain ⟨o169, H, HKo169⟩ := bind_some H
    refine Qt.join (σ := Bool) 11 (fun y170 => [(0, Sl.v s_a0), (1, iv a1), (10, iv y148), (11, iv y166), (129, .bool y170)]) (fun y170 => y170 = o169) ?_ ?_
    ·rcases (Bool.eq_false_or_eq_true (decide (y148 ≤ y166))).symm with hb171 | hb171
     ·replace H := ite_f hb171 H
      refine Qt.skip rfl rfl rfl hb171 rfl (by decide) ?_
      refine Qt.skip rfl rfl rfl hb171 rfl (by decide) ?_
      refine Qt.skip rfl rfl rfl hb171 rfl (by decide) ?_
      refine Qt.skip rfl rfl rfl hb171 rfl (by decide) ?_
      refine Qt.skip rfl rfl rfl hb171 rfl (by decide) ?_
      refine Qt.skip rfl rfl rfl hb171 rfl (by decide) ?_
      refine Qt.skip rfl rfl rfl hb171 rfl (by decide) ?_
      refine Qt.skip rfl rfl rfl hb171 rfl (by decide) ?_
      refine Qt.skip rfl rfl rfl hb171 rfl (by decide) ?_
      refine Qt.skip rfl rfl rfl hb171 rfl (by decide) ?_
      refine Qt.r (Ev.pickF rfl hb171 rfl) ?_
      exact Qt.meet false ⟨rfl, rfl, rfl, rfl, rfl, trivial⟩ (some_inj H)
     replace H := ite_t hb171 H
     refine Qt.rG hb171 (Ev.move rfl) ?_
     refine Qt.rG hb171 (Ev.move rfl) ?_
     obtain ⟨x172, h173, H⟩ := bind_some H
     have g174 := lat_some h173
     refine Qt.rG hb171 (Ev.indexS (α := Str) (xs := l144) rfl rfl Try.runUnderlying50 Try.sizeOf9 rfl (by decide) (Rd.own (i := 0) rfl rfl rfl) g174.1 g174.2.1) ?_
     refine Qt.rG hb171 (Ev.loadS (α := Str) rfl (Rd.own (i := 0) rfl rfl rfl) Try.isAgg9 (v := Str.v x172) ((Get.elemN (s := 1) (x := x172) rfl g174.2.2 (Get.here _)).off (by omega))) ?_
     refine Qt.rG hb171 (Ev.move rfl) ?_
     refine Qt.rG hb171 (Ev.move rfl) ?_
     obtain ⟨x175, h176, H⟩ := bind_some H
     have g177 := lat_some h176
     refine Qt.rG hb171 (Ev.indexS (α := Str) (xs := l144) rfl rfl Try.runUnderlying50 Try.sizeOf9 rfl (by decide) (Rd.own (i := 0) rfl rfl rfl) g177.1 g177.2.1) ?_
     refine Qt.rG hb171 (Ev.loadS (α := Str) rfl (Rd.own (i := 0) rfl rfl rfl) Try.isAgg9 (v := Str.v x175) ((Get.elemN (s := 1) (x := x175) rfl g177.2.2 (Get.here _)).off (by omega))) ?_
     obtain ⟨r178, h179, H⟩ := bind_some H
     refine Qt.callG rfl rfl rfl hb171 rfl (by decide) (vs := [Str.v x172, Str.v x175]) ⟨rfl, rfl, trivial⟩ Try.call121 (cmp_Less_string_sim h179 w0 _ M _ (sc1 hM)) ?_
     refine Qt.rG hb171 (Ev.not rfl) ?_
     refine Qt.r (Ev.pickT rfl hb171 rfl) ?_
     exact Qt.meet (!r178) ⟨rfl, rfl, rfl, rfl, rfl, trivial⟩ (some_inj H)
    rintro y170 hy
    subst hy
    refine Qt.as (e' := [(0, Sl.v s_a0), (1, iv a1), (10, iv y148), (11, iv y166), (129, .bool y170)]) ⟨rfl, rfl, rfl, rfl, rfl, trivial⟩ ?_
    replace H := HKo169
    refine Qt.done ?_
    refine At.then ?_
    rcases (Bool.eq_false_or_eq_true y170).symm with hb182 | hb182
    ·replace H := ite_f hb182 H
     refine Cd.condF rfl hb182 ?_
     refine Cd.exit ?_
     refine At.then_exit ?_
     refine At.then_exit ?_
     refine At.in_exit ?_
     have H := hbrk165 _ (some_inj H).symm
     subst H
     replace H := HKl165
     refine At.then ?_
     refine Cd.seq ?_
     refine Cd.seq ?_
     refine Cd.region ?_
     refine Lst.r (Ev.move rfl) ?_
     refine Lst.r (Ev.move rfl) ?_
     refine Lst.r (Ev.gtr rfl rfl) ?_
     refine Lst.nil ?_
     refine At.then ?_
     rcases Bool.eq_false_or_eq_true (decide (y148 > y166)) with hb183 | hb183
     ·replace H := ite_t hb183 H
      refine Cd.condT rfl hb183 ?_
      refine Cd.exit ?_
      refine At.then_exit ?_
      refine At.in_other rfl ?_
      refine At.then_exit ?_
      refine At.in_exit ?_
      have H := hbrk141 _ (some_inj H).symm
      subst H
      replace H := HKl141
      refine At.then ?_
      refine Cd.seq ?_
      obtain ⟨x184, h185, H⟩ := bind_some H
      obtain ⟨x187, h188, H⟩ := bind_some H
      obtain ⟨x190, h191, H⟩ := bind_some H
      obtain ⟨p193, h194, H⟩ := Let_some H
      obtain ⟨o197, h198, H⟩ := Let_some H
      refine Cd.headMeet (σ := (List Str)) 14 (fun l196 => [(11, iv y166), (155, Sl.v s_a0), (156, iv a1), (164, Str.v x187)]) (fun l196 => (.own s_a0 9 1 (encs l196)) :: L) (fun _ l196 => l196 = o197) (by kernel_rfl) (by kernel_rfl) (behind_sink (by kernel_rfl) (by kernel_rfl) (by kernel_rfl)) (by kernel_rfl) (fun hsel hlt => ?_) ?_
      ·refine HdJ.keep (fun w => St w0 F167 (L) w) (fun w h => trivial) ?_
       refine HdJ.tk hsel hlt 0 (fun w h => h.sublist (sc1 (.refl _))) rfl (Ev.move rfl) ?_
       refine HdJ.tk hsel hlt 1 (fun w h => h.sublist (sc1 (.refl _))) rfl (Ev.move rfl) ?_
       refine HdJ.tk hsel hlt 2 (fun w h => h.sublist (sc1 (.refl _))) rfl (Ev.move rfl) ?_
       refine HdJ.tk hsel hlt 3 (fun w h => h.sublist (sc1 (.refl _))) rfl (Ev.move rfl) ?_
       refine HdJ.tk hsel hlt 4 (fun w h => h.sublist (sc1 (.refl _))) rfl (Ev.move rfl) ?_
       refine HdJ.tk hsel hlt 5 (fun w h => h.sublist (sc1 (.refl _))) rfl (Ev.move rfl) ?_
       refine HdJ.tk hsel hlt 8 (fun w h => h.sublist (sc1 (.refl _))) rfl (Ev.move rfl) ?_
       refine HdJ.tk hsel hlt 9 (fun w h => h.sublist (sc1 (.refl _))) rfl (Ev.move rfl) ?_
       refine HdJ.step [6, 10] (by kernel_rfl) rfl ?_
       refine HdStep.c (fun inv => ?_) ?_
       ·have g199 := lat_some h185
        refine Lst.r (Ev.indexS (α := Str) (xs := l144) rfl rfl Try.runUnderlying50 Try.sizeOf9 rfl (by decide) (Rd.own (i := 0) rfl rfl rfl) g199.1 g199.2.1) ?_
        refine Lst.nil ?_
        refine At.hd inv (fun w h => (h.weaken (FLe.refl _)).sublist (sc1 (.refl _))) ?_
        refine HdJ.step [7, 10] (by kernel_rfl) rfl ?_
        refine HdStep.c (fun inv => ?_) ?_
        ·refine Lst.r (Ev.loadS (α := Str) rfl (Rd.own (i := 0) rfl rfl rfl) Try.isAgg9 (v := Str.v x184) ((Get.elemN (s := 1) (x := x184) rfl g199.2.2 (Get.here _)).off (by omega))) ?_
         refine Lst.nil ?_
         refine At.hd inv (fun w h => (h.weaken (FLe.refl _)).sublist (sc1 (.refl _))) ?_
         refine HdJ.step [10] (by kernel_rfl) rfl ?_
         refine HdStep.c (fun inv => ?_) ?_
         ·have g200 := lat_some h188
          refine Lst.r (Ev.indexS (α := Str) (xs := l144) rfl rfl Try.runUnderlying50 Try.sizeOf9 rfl (by decide) (Rd.own (i := 0) rfl rfl rfl) g200.1 g200.2.1) ?_
          refine Lst.nil ?_
          refine At.hd inv (fun w h => (h.weaken (FLe.refl _)).sublist (sc1 (.refl _))) ?_
          refine HdJ.step [11] (by kernel_rfl) rfl ?_
          refine HdStep.c (fun inv => ?_) ?_
          ·refine Lst.r (Ev.loadS (α := Str) rfl (Rd.own (i := 0) rfl rfl rfl) Try.isAgg9 (v := Str.v x187) ((Get.elemN (s := 1) (x := x187) rfl g200.2.2 (Get.here _)).off (by omega))) ?_
           refine Lst.nil ?_
           refine At.hd inv (fun w h => (h.weaken (FLe.refl _)).sublist (sc1 (.refl _))) ?_
           refine HdJ.step [12] (by kernel_rfl) rfl ?_
           refine HdStep.c (fun inv => ?_) ?_
           ·have g201 := lat_some h191
            refine Lst.r (Ev.indexS (α := Str) (xs := l144) rfl rfl Try.runUnderlying50 Try.sizeOf9 rfl (by decide) (Rd.own (i := 0) rfl rfl rfl) g201.1 g201.2.1) ?_
            refine Lst.nil ?_
            refine At.hd inv (fun w h => (h.weaken (FLe.refl _)).sublist (sc1 (.refl _))) ?_
            refine HdJ.step [13] (by kernel_rfl) rfl ?_
            refine HdStep.c (fun inv => ?_) ?_
            ·refine Lst.storeS (i := 0) rfl rfl rfl rfl rfl Try.sizeOf9 (vs := [Str.v x184]) rfl rfl (by decide) rfl (xs' := encs p193) (by rw [← h194]; exact (Put.elemN (s := 1) (x := x190) rfl g201.2.2 (Put.here (vs := [Str.v x184]) rfl)).off (by omega)) (L' := (.own s_a0 9 1 (encs p193)) :: L) rfl ?_
             refine Lst.nil ?_
             refine At.hd inv (fun w h => (h.weaken (FLe.refl _)).sublist (sc1 (.refl _))) ?_
             refine HdJ.done (by kernel_rfl) ?_
             exact At.meetN p193 (FLe.refl _) ⟨rfl, rfl, rfl, rfl, trivial⟩ rfl h198
            exact trivial
           exact trivial
          exact trivial
         exact trivial
        refine HdStep.c (fun inv => ?_) ?_
        ·have g202 := lat_some h188
         refine Lst.r (Ev.indexS (α := Str) (xs := l144) rfl rfl Try.runUnderlying50 Try.sizeOf9 rfl (by decide) (Rd.own (i := 0) rfl rfl rfl) g202.1 g202.2.1) ?_
         refine Lst.nil ?_
         refine At.hd inv (fun w h => (h.weaken (FLe.refl _)).sublist (sc1 (.refl _))) ?_
         refine HdJ.step [7, 11] (by kernel_rfl) rfl ?_
         refine HdStep.c (fun inv => ?_) ?_
         ·refine Lst.r (Ev.loadS (α := Str) rfl (Rd.own (i := 0) rfl rfl rfl) Try.isAgg9 (v := Str.v x184) ((Get.elemN (s := 1) (x := x184) rfl g199.2.2 (Get.here _)).off (by omega))) ?_
          refine Lst.nil ?_
          refine At.hd inv (fun w h => (h.weaken (FLe.refl _)).sublist (sc1 (.refl _))) ?_
          refine HdJ.step [11] (by kernel_rfl) rfl ?_
          refine HdStep.c (fun inv => ?_) ?_
          ·refine Lst.r (Ev.loadS (α := Str) rfl (Rd.own (i := 0) rfl rfl rfl) Try.isAgg9 (v := Str.v x187) ((Get.elemN (s := 1) (x := x187) rfl g202.2.2 (Get.here _)).off (by omega))) ?_
           refine Lst.nil ?_
           refine At.hd inv (fun w h => (h.weaken (FLe.refl _)).sublist (sc1 (.refl _))) ?_
           refine HdJ.step [12] (by kernel_rfl) rfl ?_
           refine HdStep.c (fun inv => ?_) ?_
           ·have g203 := lat_some h191
            refine Lst.r (Ev.indexS (α := Str) (xs := l144) rfl rfl Try.runUnderlying50 Try.sizeOf9 rfl (by decide) (Rd.own (i := 0) rfl rfl rfl) g203.1 g203.2.1) ?_
            refine Lst.nil ?_
            refine At.hd inv (fun w h => (h.weaken (FLe.refl _)).sublist (sc1 (.refl _))) ?_
            refine HdJ.step [13] (by kernel_rfl) rfl ?_
            refine HdStep.c (fun inv => ?_) ?_
            ·refine Lst.storeS (i := 0) rfl rfl rfl rfl rfl Try.sizeOf9 (vs := [Str.v x184]) rfl rfl (by decide) rfl (xs' := encs p193) (by rw [← h194]; exact (Put.elemN (s := 1) (x := x190) rfl g203.2.2 (Put.here (vs := [Str.v x184]) rfl)).off (by omega)) (L' := (.own s_a0 9 1 (encs p193)) :: L) rfl ?_
             refine Lst.nil ?_
             refine At.hd inv (fun w h => (h.weaken (FLe.refl _)).sublist (sc1 (.refl _))) ?_
             refine HdJ.done (by kernel_rfl) ?_
             exact At.meetN p193 (FLe.refl _) ⟨rfl, rfl, rfl, rfl, trivial⟩ rfl h198
            exact trivial
           exact trivial
          exact trivial
         refine HdStep.c (fun inv => ?_) ?_
         ·refine Lst.r (Ev.loadS (α := Str) rfl (Rd.own (i := 0) rfl rfl rfl) Try.isAgg9 (v := Str.v x187) ((Get.elemN (s := 1) (x := x187) rfl g202.2.2 (Get.here _)).off (by omega))) ?_
          refine Lst.nil ?_
          refine At.hd inv (fun w h => (h.weaken (FLe.refl _)).sublist (sc1 (.refl _))) ?_
          refine HdJ.step [7] (by kernel_rfl) rfl ?_
          refine HdStep.c (fun inv => ?_) ?_
          ·refine Lst.r (Ev.loadS (α := Str) rfl (Rd.own (i := 0) rfl rfl rfl) Try.isAgg9 (v := Str.v x184) ((Get.elemN (s := 1) (x := x184) rfl g199.2.2 (Get.here _)).off (by omega))) ?_
           refine Lst.nil ?_
           refine At.hd inv (fun w h => (h.weaken (FLe.refl _)).sublist (sc1 (.refl _))) ?_
           refine HdJ.step [12] (by kernel_rfl) rfl ?_
           refine HdStep.c (fun inv => ?_) ?_
           ·have g204 := lat_some h191
            refine Lst.r (Ev.indexS (α := Str) (xs := l144) rfl rfl Try.runUnderlying50 Try.sizeOf9 rfl (by decide) (Rd.own (i := 0) rfl rfl rfl) g204.1 g204.2.1) ?_
            refine Lst.nil ?_
            refine At.hd inv (fun w h => (h.weaken (FLe.refl _)).sublist (sc1 (.refl _))) ?_
            refine HdJ.step [13] (by kernel_rfl) rfl ?_
            refine HdStep.c (fun inv => ?_) ?_
            ·refine Lst.storeS (i := 0) rfl rfl rfl rfl rfl Try.sizeOf9 (vs := [Str.v x184]) rfl rfl (by decide) rfl (xs' := encs p193) (by rw [← h194]; exact (Put.elemN (s := 1) (x := x190) rfl g204.2.2 (Put.here (vs := [Str.v x184]) rfl)).off (by omega)) (L' := (.own s_a0 9 1 (encs p193)) :: L) rfl ?_
             refine Lst.nil ?_
             refine At.hd inv (fun w h => (h.weaken (FLe.refl _)).sublist (sc1 (.refl _))) ?_
             refine HdJ.done (by kernel_rfl) ?_
             exact At.meetN p193 (FLe.refl _) ⟨rfl, rfl, rfl, rfl, trivial⟩ rfl h198
            exact trivial
           exact trivial
          exact trivial
         exact trivial
        exact trivial
       refine HdStep.c (fun inv => ?_) ?_
       ·have g205 := lat_some h188
        refine Lst.r (Ev.indexS (α := Str) (xs := l144) rfl rfl Try.runUnderlying50 Try.sizeOf9 rfl (by decide) (Rd.own (i := 0) rfl rfl rfl) g205.1 g205.2.1) ?_
        refine Lst.nil ?_
        refine At.hd inv (fun w h => (h.weaken (FLe.refl _)).sublist (sc1 (.refl _))) ?_
        refine HdJ.step [6, 11] (by kernel_rfl) rfl ?_
        refine HdStep.c (fun inv => ?_) ?_
        ·have g206 := lat_some h185
         refine Lst.r (Ev.indexS (α := Str) (xs := l144) rfl rfl Try.runUnderlying50 Try.sizeOf9 rfl (by decide) (Rd.own (i := 0) rfl rfl rfl) g206.1 g206.2.1) ?_
         refine Lst.nil ?_
         refine At.hd inv (fun w h => (h.weaken (FLe.refl _)).sublist (sc1 (.refl _))) ?_
         refine HdJ.step [7, 11] (by kernel_rfl) rfl ?_
         refine HdStep.c (fun inv => ?_) ?_
         ·refine Lst.r (Ev.loadS (α := Str) rfl (Rd.own (i := 0) rfl rfl rfl) Try.isAgg9 (v := Str.v x184) ((Get.elemN (s := 1) (x := x184) rfl g206.2.2 (Get.here _)).off (by omega))) ?_
          refine Lst.nil ?_
          refine At.hd inv (fun w h => (h.weaken (FLe.refl _)).sublist (sc1 (.refl _))) ?_
          refine HdJ.step [11] (by kernel_rfl) rfl ?_
          refine HdStep.c (fun inv => ?_) ?_
          ·refine Lst.r (Ev.loadS (α := Str) rfl (Rd.own (i := 0) rfl rfl rfl) Try.isAgg9 (v := Str.v x187) ((Get.elemN (s := 1) (x := x187) rfl g205.2.2 (Get.here _)).off (by omega))) ?_
           refine Lst.nil ?_
           refine At.hd inv (fun w h => (h.weaken (FLe.refl _)).sublist (sc1 (.refl _))) ?_
           refine HdJ.step [12] (by kernel_rfl) rfl ?_
           refine HdStep.c (fun inv => ?_) ?_
           ·have g207 := lat_some h191
            refine Lst.r (Ev.indexS (α := Str) (xs := l144) rfl rfl Try.runUnderlying50 Try.sizeOf9 rfl (by decide) (Rd.own (i := 0) rfl rfl rfl) g207.1 g207.2.1) ?_
            refine Lst.nil ?_
            refine At.hd inv (fun w h => (h.weaken (FLe.refl _)).sublist (sc1 (.refl _))) ?_
            refine HdJ.step [13] (by kernel_rfl) rfl ?_
            refine HdStep.c (fun inv => ?_) ?_
            ·refine Lst.storeS (i := 0) rfl rfl rfl rfl rfl Try.sizeOf9 (vs := [Str.v x184]) rfl rfl (by decide) rfl (xs' := encs p193) (by rw [← h194]; exact (Put.elemN (s := 1) (x := x190) rfl g207.2.2 (Put.here (vs := [Str.v x184]) rfl)).off (by omega)) (L' := (.own s_a0 9 1 (encs p193)) :: L) rfl ?_
             refine Lst.nil ?_
             refine At.hd inv (fun w h => (h.weaken (FLe.refl _)).sublist (sc1 (.refl _))) ?_
             refine HdJ.done (by kernel_rfl) ?_
             exact At.meetN p193 (FLe.refl _) ⟨rfl, rfl, rfl, rfl, trivial⟩ rfl h198
            exact trivial
           exact trivial
          exact trivial
         refine HdStep.c (fun inv => ?_) ?_
         ·refine Lst.r (Ev.loadS (α := Str) rfl (Rd.own (i := 0) rfl rfl rfl) Try.isAgg9 (v := Str.v x187) ((Get.elemN (s := 1) (x := x187) rfl g205.2.2 (Get.here _)).off (by omega))) ?_
          refine Lst.nil ?_
          refine At.hd inv (fun w h => (h.weaken (FLe.refl _)).sublist (sc1 (.refl _))) ?_
          refine HdJ.step [7] (by kernel_rfl) rfl ?_
          refine HdStep.c (fun inv => ?_) ?_
          ·refine Lst.r (Ev.loadS (α := Str) rfl (Rd.own (i := 0) rfl rfl rfl) Try.isAgg9 (v := Str.v x184) ((Get.elemN (s := 1) (x := x184) rfl g206.2.2 (Get.here _)).off (by omega))) ?_
           refine Lst.nil ?_
           refine At.hd inv (fun w h => (h.weaken (FLe.refl _)).sublist (sc1 (.refl _))) ?_
           refine HdJ.step [12] (by kernel_rfl) rfl ?_
           refine HdStep.c (fun inv => ?_) ?_
           ·have g208 := lat_some h191
            refine Lst.r (Ev.indexS (α := Str) (xs := l144) rfl rfl Try.runUnderlying50 Try.sizeOf9 rfl (by decide) (Rd.own (i := 0) rfl rfl rfl) g208.1 g208.2.1) ?_
            refine Lst.nil ?_
            refine At.hd inv (fun w h => (h.weaken (FLe.refl _)).sublist (sc1 (.refl _))) ?_
            refine HdJ.step [13] (by kernel_rfl) rfl ?_
            refine HdStep.c (fun inv => ?_) ?_
            ·refine Lst.storeS (i := 0) rfl rfl rfl rfl rfl Try.sizeOf9 (vs := [Str.v x184]) rfl rfl (by decide) rfl (xs' := encs p193) (by rw [← h194]; exact (Put.elemN (s := 1) (x := x190) rfl g208.2.2 (Put.here (vs := [Str.v x184]) rfl)).off (by omega)) (L' := (.own s_a0 9 1 (encs p193)) :: L) rfl ?_
             refine Lst.nil ?_
             refine At.hd inv (fun w h => (h.weaken (FLe.refl _)).sublist (sc1 (.refl _))) ?_
             refine HdJ.done (by kernel_rfl) ?_
             exact At.meetN p193 (FLe.refl _) ⟨rfl, rfl, rfl, rfl, trivial⟩ rfl h198
            exact trivial
           exact trivial
          exact trivial
         exact trivial
        refine HdStep.c (fun inv => ?_) ?_
        ·refine Lst.r (Ev.loadS (α := Str) rfl (Rd.own (i := 0) rfl rfl rfl) Try.isAgg9 (v := Str.v x187) ((Get.elemN (s := 1) (x := x187) rfl g205.2.2 (Get.here _)).off (by omega))) ?_
         refine Lst.nil ?_
         refine At.hd inv (fun w h => (h.weaken (FLe.refl _)).sublist (sc1 (.refl _))) ?_
         refine HdJ.step [6] (by kernel_rfl) rfl ?_
         refine HdStep.c (fun inv => ?_) ?_
         ·have g209 := lat_some h185
          refine Lst.r (Ev.indexS (α := Str) (xs := l144) rfl rfl Try.runUnderlying50 Try.sizeOf9 rfl (by decide) (Rd.own (i := 0) rfl rfl rfl) g209.1 g209.2.1) ?_
          refine Lst.nil ?_
          refine At.hd inv (fun w h => (h.weaken (FLe.refl _)).sublist (sc1 (.refl _))) ?_
          refine HdJ.step [7] (by kernel_rfl) rfl ?_
          refine HdStep.c (fun inv => ?_) ?_
          ·refine Lst.r (Ev.loadS (α := Str) rfl (Rd.own (i := 0) rfl rfl rfl) Try.isAgg9 (v := Str.v x184) ((Get.elemN (s := 1) (x := x184) rfl g209.2.2 (Get.here _)).off (by omega))) ?_
           refine Lst.nil ?_
           refine At.hd inv (fun w h => (h.weaken (FLe.refl _)).sublist (sc1 (.refl _))) ?_
           refine HdJ.step [12] (by kernel_rfl) rfl ?_
           refine HdStep.c (fun inv => ?_) ?_
           ·have g210 := lat_some h191
            refine Lst.r (Ev.indexS (α := Str) (xs := l144) rfl rfl Try.runUnderlying50 Try.sizeOf9 rfl (by decide) (Rd.own (i := 0) rfl rfl rfl) g210.1 g210.2.1) ?_
            refine Lst.nil ?_
            refine At.hd inv (fun w h => (h.weaken (FLe.refl _)).sublist (sc1 (.refl _))) ?_
            refine HdJ.step [13] (by kernel_rfl) rfl ?_
            refine HdStep.c (fun inv => ?_) ?_
            ·refine Lst.storeS (i := 0) rfl rfl rfl rfl rfl Try.sizeOf9 (vs := [Str.v x184]) rfl rfl (by decide) rfl (xs' := encs p193) (by rw [← h194]; exact (Put.elemN (s := 1) (x := x190) rfl g210.2.2 (Put.here (vs := [Str.v x184]) rfl)).off (by omega)) (L' := (.own s_a0 9 1 (encs p193)) :: L) rfl ?_
             refine Lst.nil ?_
             refine At.hd inv (fun w h => (h.weaken (FLe.refl _)).sublist (sc1 (.refl _))) ?_
             refine HdJ.done (by kernel_rfl) ?_
             exact At.meetN p193 (FLe.refl _) ⟨rfl, rfl, rfl, rfl, trivial⟩ rfl h198
            exact trivial
           exact trivial
          exact trivial
         exact trivial
        exact trivial
       exact trivial
      rintro F211 l196 hF212 hy
      subst hy
      refine Lst.as (e' := [(11, iv y166), (155, Sl.v s_a0), (156, iv a1), (164, Str.v x187)]) (L' := (.own s_a0 9 1 (encs l196)) :: L) ⟨rfl, rfl, rfl, rfl, trivial⟩ rfl ?_
      obtain ⟨x213, h214, H⟩ := bind_some H
      have g215 := lat_some h214
      refine Lst.r (Ev.indexS (α := Str) (xs := l196) rfl rfl Try.runUnderlying50 Try.sizeOf9 rfl (by decide) (Rd.own (i := 0) rfl rfl rfl) g215.1 g215.2.1) ?_
      obtain ⟨p216, h217, H⟩ := Let_some H
      refine Lst.storeS (i := 0) rfl rfl rfl rfl rfl Try.sizeOf9 (vs := [Str.v x187]) rfl rfl (by decide) rfl (xs' := encs p216) (by rw [← h217]; exact (Put.elemN (s := 1) (x := x213) rfl g215.2.2 (Put.here (vs := [Str.v x187]) rfl)).off (by omega)) (L' := (.own s_a0 9 1 (encs p216)) :: L) rfl ?_
      refine Lst.nil ?_
      refine At.then ?_
      refine Cd.seq ?_
      refine Cd.region ?_
      refine Lst.r (Ev.move rfl) ?_
      refine Lst.r (Ev.assign rfl) ?_
      refine Lst.r (Ev.assign rfl) ?_
      refine Lst.nil ?_
      refine At.then ?_
      obtain rfl := some_inj H
      refine Cd.ret ?_
      exact At.ret2 rfl (Res.tmp rfl) (Res.tmp rfl) (FLe.trans (FLe.trans (FLe.trans (FLe.trans (FLe.trans (FLe.trans (FLe.trans hF30 hF39) hF57) hF135) hF146) hF150) hF168) hF212) (sk1 (.refl _)) ⟨rfl, rfl⟩
     replace H := ite_f hb183 H
     refine Cd.condF rfl hb183 ?_
     refine Cd.skip ?_
     refine At.then ?_
     refine Cd.seq ?_
     obtain ⟨x218, h219, H⟩ := bind_some H
     obtain ⟨x221, h222, H⟩ := bind_some H
     obtain ⟨x224, h225, H⟩ := bind_some H
     obtain ⟨p227, h228, H⟩ := Let_some H
     obtain ⟨o231, h232, H⟩ := Let_some H
     refine Cd.headMeet (σ := (List Str)) 14 (fun l230 => [(0, Sl.v s_a0), (1, iv a1), (10, iv y148), (11, iv y166), (137, Sl.v s_a0), (138, iv y166), (146, Str.v x221)]) (fun l230 => (.own s_a0 9 1 (encs l230)) :: L) (fun _ l230 => l230 = o231) (by kernel_rfl) (by kernel_rfl) (behind_sink (by kernel_rfl) (by kernel_rfl) (by kernel_rfl)) (by kernel_rfl) (fun hsel hlt => ?_) ?_
     ·refine HdJ.keep (fun w => St w0 F167 (L) w) (fun w h => trivial) ?_
      refine HdJ.tk hsel hlt 0 (fun w h => h.sublist (sc1 (.refl _))) rfl (Ev.move rfl) ?_
      refine HdJ.tk hsel hlt 1 (fun w h => h.sublist (sc1 (.refl _))) rfl (Ev.move rfl) ?_
      refine HdJ.tk hsel hlt 2 (fun w h => h.sublist (sc1 (.refl _))) rfl (Ev.move rfl) ?_
      refine HdJ.tk hsel hlt 3 (fun w h => h.sublist (sc1 (.refl _))) rfl (Ev.move rfl) ?_
      refine HdJ.tk hsel hlt 4 (fun w h => h.sublist (sc1 (.refl _))) rfl (Ev.move rfl) ?_
      refine HdJ.tk hsel hlt 5 (fun w h => h.sublist (sc1 (.refl _))) rfl (Ev.move rfl) ?_
      refine HdJ.tk hsel hlt 8 (fun w h => h.sublist (sc1 (.refl _))) rfl (Ev.move rfl) ?_
      refine HdJ.tk hsel hlt 9 (fun w h => h.sublist (sc1 (.refl _))) rfl (Ev.move rfl) ?_
      refine HdJ.step [6, 10] (by kernel_rfl) rfl ?_
      refine HdStep.c (fun inv => ?_) ?_
      ·have g233 := lat_some h219
       refine Lst.r (Ev.indexS (α := Str) (xs := l144) rfl rfl Try.runUnderlying50 Try.sizeOf9 rfl (by decide) (Rd.own (i := 0) rfl rfl rfl) g233.1 g233.2.1) ?_
       refine Lst.nil ?_
       refine At.hd inv (fun w h => (h.weaken (FLe.refl _)).sublist (sc1 (.refl _))) ?_
       refine HdJ.step [7, 10] (by kernel_rfl) rfl ?_
       refine HdStep.c (fun inv => ?_) ?_
       ·refine Lst.r (Ev.loadS (α := Str) rfl (Rd.own (i := 0) rfl rfl rfl) Try.isAgg9 (v := Str.v x218) ((Get.elemN (s := 1) (x := x218) rfl g233.2.2 (Get.here _)).off (by omega))) ?_
        refine Lst.nil ?_
        refine At.hd inv (fun w h => (h.weaken (FLe.refl _)).sublist (sc1 (.refl _))) ?_
        refine HdJ.step [10] (by kernel_rfl) rfl ?_
        refine HdStep.c (fun inv => ?_) ?_
        ·have g234 := lat_some h222
         refine Lst.r (Ev.indexS (α := Str) (xs := l144) rfl rfl Try.runUnderlying50 Try.sizeOf9 rfl (by decide) (Rd.own (i := 0) rfl rfl rfl) g234.1 g234.2.1) ?_
         refine Lst.nil ?_
         refine At.hd inv (fun w h => (h.weaken (FLe.refl _)).sublist (sc1 (.refl _))) ?_
         refine HdJ.step [11] (by kernel_rfl) rfl ?_
         refine HdStep.c (fun inv => ?_) ?_
         ·refine Lst.r (Ev.loadS (α := Str) rfl (Rd.own (i := 0) rfl rfl rfl) Try.isAgg9 (v := Str.v x221) ((Get.elemN (s := 1) (x := x221) rfl g234.2.2 (Get.here _)).off (by omega))) ?_
          refine Lst.nil ?_
          refine At.hd inv (fun w h => (h.weaken (FLe.refl _)).sublist (sc1 (.refl _))) ?_
          refine HdJ.step [12] (by kernel_rfl) rfl ?_
          refine HdStep.c (fun inv => ?_) ?_
          ·have g235 := lat_some h225
           refine Lst.r (Ev.indexS (α := Str) (xs := l144) rfl rfl Try.runUnderlying50 Try.sizeOf9 rfl (by decide) (Rd.own (i := 0) rfl rfl rfl) g235.1 g235.2.1) ?_
           refine Lst.nil ?_
           refine At.hd inv (fun w h => (h.weaken (FLe.refl _)).sublist (sc1 (.refl _))) ?_
           refine HdJ.step [13] (by kernel_rfl) rfl ?_
           refine HdStep.c (fun inv => ?_) ?_
           ·refine Lst.storeS (i := 0) rfl rfl rfl rfl rfl Try.sizeOf9 (vs := [Str.v x218]) rfl rfl (by decide) rfl (xs' := encs p227) (by rw [← h228]; exact (Put.elemN (s := 1) (x := x224) rfl g235.2.2 (Put.here (vs := [Str.v x218]) rfl)).off (by omega)) (L' := (.own s_a0 9 1 (encs p227)) :: L) rfl ?_
            refine Lst.nil ?_
            refine At.hd inv (fun w h => (h.weaken (FLe.refl _)).sublist (sc1 (.refl _))) ?_
            refine HdJ.done (by kernel_rfl) ?_
            exact At.meetN p227 (FLe.refl _) ⟨rfl, rfl, rfl, rfl, rfl, rfl, rfl, trivial⟩ rfl h232
           exact trivial
          exact trivial
         exact trivial
        exact trivial
       refine HdStep.c (fun inv => ?_) ?_
       ·have g236 := lat_some h222
        refine Lst.r (Ev.indexS (α := Str) (xs := l144) rfl rfl Try.runUnderlying50 Try.sizeOf9 rfl (by decide) (Rd.own (i := 0) rfl rfl rfl) g236.1 g236.2.1) ?_
        refine Lst.nil ?_
        refine At.hd inv (fun w h => (h.weaken (FLe.refl _)).sublist (sc1 (.refl _))) ?_
        refine HdJ.step [7, 11] (by kernel_rfl) rfl ?_
        refine HdStep.c (fun inv => ?_) ?_
        ·refine Lst.r (Ev.loadS (α := Str) rfl (Rd.own (i := 0) rfl rfl rfl) Try.isAgg9 (v := Str.v x218) ((Get.elemN (s := 1) (x := x218) rfl g233.2.2 (Get.here _)).off (by omega))) ?_
         refine Lst.nil ?_
         refine At.hd inv (fun w h => (h.weaken (FLe.refl _)).sublist (sc1 (.refl _))) ?_
         refine HdJ.step [11] (by kernel_rfl) rfl ?_
         refine HdStep.c (fun inv => ?_) ?_
         ·refine Lst.r (Ev.loadS (α := Str) rfl (Rd.own (i := 0) rfl rfl rfl) Try.isAgg9 (v := Str.v x221) ((Get.elemN (s := 1) (x := x221) rfl g236.2.2 (Get.here _)).off (by omega))) ?_
          refine Lst.nil ?_
          refine At.hd inv (fun w h => (h.weaken (FLe.refl _)).sublist (sc1 (.refl _))) ?_
          refine HdJ.step [12] (by kernel_rfl) rfl ?_
          refine HdStep.c (fun inv => ?_) ?_
          ·have g237 := lat_some h225
           refine Lst.r (Ev.indexS (α := Str) (xs := l144) rfl rfl Try.runUnderlying50 Try.sizeOf9 rfl (by decide) (Rd.own (i := 0) rfl rfl rfl) g237.1 g237.2.1) ?_
           refine Lst.nil ?_
           refine At.hd inv (fun w h => (h.weaken (FLe.refl _)).sublist (sc1 (.refl _))) ?_
           refine HdJ.step [13] (by kernel_rfl) rfl ?_
           refine HdStep.c (fun inv => ?_) ?_
           ·refine Lst.storeS (i := 0) rfl rfl rfl rfl rfl Try.sizeOf9 (vs := [Str.v x218]) rfl rfl (by decide) rfl (xs' := encs p227) (by rw [← h228]; exact (Put.elemN (s := 1) (x := x224) rfl g237.2.2 (Put.here (vs := [Str.v x218]) rfl)).off (by omega)) (L' := (.own s_a0 9 1 (encs p227)) :: L) rfl ?_
            refine Lst.nil ?_
            refine At.hd inv (fun w h => (h.weaken (FLe.refl _)).sublist (sc1 (.refl _))) ?_
            refine HdJ.done (by kernel_rfl) ?_
            exact At.meetN p227 (FLe.refl _) ⟨rfl, rfl, rfl, rfl, rfl, rfl, rfl, trivial⟩ rfl h232
           exact trivial
          exact trivial
         exact trivial
        refine HdStep.c (fun inv => ?_) ?_
        ·refine Lst.r (Ev.loadS (α := Str) rfl (Rd.own (i := 0) rfl rfl rfl) Try.isAgg9 (v := Str.v x221) ((Get.elemN (s := 1) (x := x221) rfl g236.2.2 (Get.here _)).off (by omega))) ?_
         refine Lst.nil ?_
         refine At.hd inv (fun w h => (h.weaken (FLe.refl _)).sublist (sc1 (.refl _))) ?_
         refine HdJ.step [7] (by kernel_rfl) rfl ?_
         refine HdStep.c (fun inv => ?_) ?_
         ·refine Lst.r (Ev.loadS (α := Str) rfl (Rd.own (i := 0) rfl rfl rfl) Try.isAgg9 (v := Str.v x218) ((Get.elemN (s := 1) (x := x218) rfl g233.2.2 (Get.here _)).off (by omega))) ?_
          refine Lst.nil ?_
          refine At.hd inv (fun w h => (h.weaken (FLe.refl _)).sublist (sc1 (.refl _))) ?_
          refine HdJ.step [12] (by kernel_rfl) rfl ?_
          refine HdStep.c (fun inv => ?_) ?_
          ·have g238 := lat_some h225
           refine Lst.r (Ev.indexS (α := Str) (xs := l144) rfl rfl Try.runUnderlying50 Try.sizeOf9 rfl (by decide) (Rd.own (i := 0) rfl rfl rfl) g238.1 g238.2.1) ?_
           refine Lst.nil ?_
           refine At.hd inv (fun w h => (h.weaken (FLe.refl _)).sublist (sc1 (.refl _))) ?_
           refine HdJ.step [13] (by kernel_rfl) rfl ?_
           refine HdStep.c (fun inv => ?_) ?_
           ·refine Lst.storeS (i := 0) rfl rfl rfl rfl rfl Try.sizeOf9 (vs := [Str.v x218]) rfl rfl (by decide) rfl (xs' := encs p227) (by rw [← h228]; exact (Put.elemN (s := 1) (x := x224) rfl g238.2.2 (Put.here (vs := [Str.v x218]) rfl)).off (by omega)) (L' := (.own s_a0 9 1 (encs p227)) :: L) rfl ?_
            refine Lst.nil ?_
            refine At.hd inv (fun w h => (h.weaken (FLe.refl _)).sublist (sc1 (.refl _))) ?_
            refine HdJ.done (by kernel_rfl) ?_
            exact At.meetN p227 (FLe.refl _) ⟨rfl, rfl, rfl, rfl, rfl, rfl, rfl, trivial⟩ rfl h232
           exact trivial
          exact trivial
         exact trivial
        exact trivial
       exact trivial
      refine HdStep.c (fun inv => ?_) ?_
      ·have g239 := lat_some h222
       refine Lst.r (Ev.indexS (α := Str) (xs := l144) rfl rfl Try.runUnderlying50 Try.sizeOf9 rfl (by decide) (Rd.own (i := 0) rfl rfl rfl) g239.1 g239.2.1) ?_
       refine Lst.nil ?_
       refine At.hd inv (fun w h => (h.weaken (FLe.refl _)).sublist (sc1 (.refl _))) ?_
       refine HdJ.step [6, 11] (by kernel_rfl) rfl ?_
       refine HdStep.c (fun inv => ?_) ?_
       ·have g240 := lat_some h219
        refine Lst.r (Ev.indexS (α := Str) (xs := l144) rfl rfl Try.runUnderlying50 Try.sizeOf9 rfl (by decide) (Rd.own (i := 0) rfl rfl rfl) g240.1 g240.2.1) ?_
        refine Lst.nil ?_
        refine At.hd inv (fun w h => (h.weaken (FLe.refl _)).sublist (sc1 (.refl _))) ?_
        refine HdJ.step [7, 11] (by kernel_rfl) rfl ?_
        refine HdStep.c (fun inv => ?_) ?_
        ·refine Lst.r (Ev.loadS (α := Str) rfl (Rd.own (i := 0) rfl rfl rfl) Try.isAgg9 (v := Str.v x218) ((Get.elemN (s := 1) (x := x218) rfl g240.2.2 (Get.here _)).off (by omega))) ?_
         refine Lst.nil ?_
         refine At.hd inv (fun w h => (h.weaken (FLe.refl _)).sublist (sc1 (.refl _))) ?_
         refine HdJ.step [11] (by kernel_rfl) rfl ?_
         refine HdStep.c (fun inv => ?_) ?_
         ·refine Lst.r (Ev.loadS (α := Str) rfl (Rd.own (i := 0) rfl rfl rfl) Try.isAgg9 (v := Str.v x221) ((Get.elemN (s := 1) (x := x221) rfl g239.2.2 (Get.here _)).off (by omega))) ?_
          refine Lst.nil ?_
          refine At.hd inv (fun w h => (h.weaken (FLe.refl _)).sublist (sc1 (.refl _))) ?_
          refine HdJ.step [12] (by kernel_rfl) rfl ?_
          refine HdStep.c (fun inv => ?_) ?_
          ·have g241 := lat_some h225
           refine Lst.r (Ev.indexS (α := Str) (xs := l144) rfl rfl Try.runUnderlying50 Try.sizeOf9 rfl (by decide) (Rd.own (i := 0) rfl rfl rfl) g241.1 g241.2.1) ?_
           refine Lst.nil ?_
           refine At.hd inv (fun w h => (h.weaken (FLe.refl _)).sublist (sc1 (.refl _))) ?_
           refine HdJ.step [13] (by kernel_rfl) rfl ?_
           refine HdStep.c (fun inv => ?_) ?_
           ·refine Lst.storeS (i := 0) rfl rfl rfl rfl rfl Try.sizeOf9 (vs := [Str.v x218]) rfl rfl (by decide) rfl (xs' := encs p227) (by rw [← h228]; exact (Put.elemN (s := 1) (x := x224) rfl g241.2.2 (Put.here (vs := [Str.v x218]) rfl)).off (by omega)) (L' := (.own s_a0 9 1 (encs p227)) :: L) rfl ?_
            refine Lst.nil ?_
            refine At.hd inv (fun w h => (h.weaken (FLe.refl _)).sublist (sc1 (.refl _))) ?_
            refine HdJ.done (by kernel_rfl) ?_
            exact At.meetN p227 (FLe.refl _) ⟨rfl, rfl, rfl, rfl, rfl, rfl, rfl, trivial⟩ rfl h232
           exact trivial
          exact trivial
         exact trivial
        refine HdStep.c (fun inv => ?_) ?_
        ·refine Lst.r (Ev.loadS (α := Str) rfl (Rd.own (i := 0) rfl rfl rfl) Try.isAgg9 (v := Str.v x221) ((Get.elemN (s := 1) (x := x221) rfl g239.2.2 (Get.here _)).off (by omega))) ?_
         refine Lst.nil ?_
         refine At.hd inv (fun w h => (h.weaken (FLe.refl _)).sublist (sc1 (.refl _))) ?_
         refine HdJ.step [7] (by kernel_rfl) rfl ?_
         refine HdStep.c (fun inv => ?_) ?_
         ·refine Lst.r (Ev.loadS (α := Str) rfl (Rd.own (i := 0) rfl rfl rfl) Try.isAgg9 (v := Str.v x218) ((Get.elemN (s := 1) (x := x218) rfl g240.2.2 (Get.here _)).off (by omega))) ?_
          refine Lst.nil ?_
          refine At.hd inv (fun w h => (h.weaken (FLe.refl _)).sublist (sc1 (.refl _))) ?_
          refine HdJ.step [12] (by kernel_rfl) rfl ?_
          refine HdStep.c (fun inv => ?_) ?_
          ·have g242 := lat_some h225
           refine Lst.r (Ev.indexS (α := Str) (xs := l144) rfl rfl Try.runUnderlying50 Try.sizeOf9 rfl (by decide) (Rd.own (i := 0) rfl rfl rfl) g242.1 g242.2.1) ?_
           refine Lst.nil ?_
           refine At.hd inv (fun w h => (h.weaken (FLe.refl _)).sublist (sc1 (.refl _))) ?_
           refine HdJ.step [13] (by kernel_rfl) rfl ?_
           refine HdStep.c (fun inv => ?_) ?_
           ·refine Lst.storeS (i := 0) rfl rfl rfl rfl rfl Try.sizeOf9 (vs := [Str.v x218]) rfl rfl (by decide) rfl (xs' := encs p227) (by rw [← h228]; exact (Put.elemN (s := 1) (x := x224) rfl g242.2.2 (Put.here (vs := [Str.v x218]) rfl)).off (by omega)) (L' := (.own s_a0 9 1 (encs p227)) :: L) rfl ?_
            refine Lst.nil ?_
            refine At.hd inv (fun w h => (h.weaken (FLe.refl _)).sublist (sc1 (.refl _))) ?_
            refine HdJ.done (by kernel_rfl) ?_
            exact At.meetN p227 (FLe.refl _) ⟨rfl, rfl, rfl, rfl, rfl, rfl, rfl, trivial⟩ rfl h232
           exact trivial
          exact trivial
         exact trivial
        exact trivial
       refine HdStep.c (fun inv => ?_) ?_
       ·refine Lst.r (Ev.loadS (α := Str) rfl (Rd.own (i := 0) rfl rfl rfl) Try.isAgg9 (v := Str.v x221) ((Get.elemN (s := 1) (x := x221) rfl g239.2.2 (Get.here _)).off (by omega))) ?_
        refine Lst.nil ?_
        refine At.hd inv (fun w h => (h.weaken (FLe.refl _)).sublist (sc1 (.refl _))) ?_
        refine HdJ.step [6] (by kernel_rfl) rfl ?_
        refine HdStep.c (fun inv => ?_) ?_
        ·have g243 := lat_some h219
         refine Lst.r (Ev.indexS (α := Str) (xs := l144) rfl rfl Try.runUnderlying50 Try.sizeOf9 rfl (by decide) (Rd.own (i := 0) rfl rfl rfl) g243.1 g243.2.1) ?_
         refine Lst.nil ?_
         refine At.hd inv (fun w h => (h.weaken (FLe.refl _)).sublist (sc1 (.refl _))) ?_
         refine HdJ.step [7] (by kernel_rfl) rfl ?_
         refine HdStep.c (fun inv => ?_) ?_
         ·refine Lst.r (Ev.loadS (α := Str) rfl (Rd.own (i := 0) rfl rfl rfl) Try.isAgg9 (v := Str.v x218) ((Get.elemN (s := 1) (x := x218) rfl g243.2.2 (Get.here _)).off (by omega))) ?_
          refine Lst.nil ?_
          refine At.hd inv (fun w h => (h.weaken (FLe.refl _)).sublist (sc1 (.refl _))) ?_
          refine HdJ.step [12] (by kernel_rfl) rfl ?_
          refine HdStep.c (fun inv => ?_) ?_
          ·have g244 := lat_some h225
           refine Lst.r (Ev.indexS (α := Str) (xs := l144) rfl rfl Try.runUnderlying50 Try.sizeOf9 rfl (by decide) (Rd.own (i := 0) rfl rfl rfl) g244.1 g244.2.1) ?_
           refine Lst.nil ?_
           refine At.hd inv (fun w h => (h.weaken (FLe.refl _)).sublist (sc1 (.refl _))) ?_
           refine HdJ.step [13] (by kernel_rfl) rfl ?_
           refine HdStep.c (fun inv => ?_) ?_
           ·refine Lst.storeS (i := 0) rfl rfl rfl rfl rfl Try.sizeOf9 (vs := [Str.v x218]) rfl rfl (by decide) rfl (xs' := encs p227) (by rw [← h228]; exact (Put.elemN (s := 1) (x := x224) rfl g244.2.2 (Put.here (vs := [Str.v x218]) rfl)).off (by omega)) (L' := (.own s_a0 9 1 (encs p227)) :: L) rfl ?_
            refine Lst.nil ?_
            refine At.hd inv (fun w h => (h.weaken (FLe.refl _)).sublist (sc1 (.refl _))) ?_
            refine HdJ.done (by kernel_rfl) ?_
            exact At.meetN p227 (FLe.refl _) ⟨rfl, rfl, rfl, rfl, rfl, rfl, rfl, trivial⟩ rfl h232
           exact trivial
          exact trivial
         exact trivial
        exact trivial
       exact trivial
      exact trivial
     rintro F245 l230 hF246 hy
     subst hy
     refine Lst.as (e' := [(0, Sl.v s_a0), (1, iv a1), (10, iv y148), (11, iv y166), (137, Sl.v s_a0), (138, iv y166), (146, Str.v x221)]) (L' := (.own s_a0 9 1 (encs l230)) :: L) ⟨rfl, rfl, rfl, rfl, rfl, rfl, rfl, trivial⟩ rfl ?_
     obtain ⟨x247, h248, H⟩ := bind_some H
     have g249 := lat_some h248
     refine Lst.r (Ev.indexS (α := Str) (xs := l230) rfl rfl Try.runUnderlying50 Try.sizeOf9 rfl (by decide) (Rd.own (i := 0) rfl rfl rfl) g249.1 g249.2.1) ?_
     obtain ⟨p250, h251, H⟩ := Let_some H
     refine Lst.storeS (i := 0) rfl rfl rfl rfl rfl Try.sizeOf9 (vs := [Str.v x221]) rfl rfl (by decide) rfl (xs' := encs p250) (by rw [← h251]; exact (Put.elemN (s := 1) (x := x247) rfl g249.2.2 (Put.here (vs := [Str.v x221]) rfl)).off (by omega)) (L' := (.own s_a0 9 1 (encs p250)) :: L) rfl ?_
     refine Lst.nil ?_
     refine At.then ?_
     refine Cd.seq ?_
     refine Cd.region ?_
     refine Lst.r (Ev.move rfl) ?_
     refine Lst.r (Ev.add rfl rfl) ?_
     refine Lst.r (Ev.assign rfl) ?_
     refine Lst.nil ?_
     refine At.then ?_
     refine Cd.region ?_
     refine Lst.r (Ev.move rfl) ?_
     refine Lst.r (Ev.sub rfl rfl) ?_
     refine Lst.r (Ev.assign rfl) ?_
     refine Lst.nil ?_
     refine At.in_normal ?_
     exact At.meet (k141, w64 (y148 + (1 : Int)), w64 (y166 - (1 : Int)), p250) (FLe.trans (FLe.trans (FLe.trans hF146 hF150) hF168) hF246) ⟨rfl, rfl, rfl, rfl, trivial⟩ rfl ⟨hgo141 _ (some_inj H).symm, Nat.lt_succ_self _⟩
    replace H := ite_t hb182 H
    refine Cd.condT rfl hb182 ?_
    refine Cd.skip ?_
    refine At.then ?_
    refine Cd.block ?_
    refine Cd.region ?_
    refine Lst.r (Ev.move rfl) ?_
    refine Lst.r (Ev.sub rfl rfl) ?_
    refine Lst.r (Ev.assign rfl) ?_
    refine Lst.nil ?_
    refine At.in_normal ?_
    exact At.meet (k165, w64 (y166 - (1 : Int))) hF168 ⟨rfl, rfl, rfl, rfl, trivial⟩ rfl ⟨hgo165 _ (some_inj H).symm, Nat.lt_succ_self _⟩
   replace H := ite_t hb164 H
   refine Cd.condT rfl hb164 ?_
   refine Cd.skip ?_
   refine At.then ?_
   refine Cd.block ?_
   refine Cd.region ?_
   refine Lst.r (Ev.move rfl) ?_
   refine Lst.r (Ev.add rfl rfl) ?_
   refine Lst.r (Ev.assign rfl) ?_
   refine Lst.nil ?_
   refine At.in_normal ?_
   exact At.meet (k147, w64 (y148 + (1 : Int))) hF150 ⟨rfl, rfl, rfl, rfl, trivial⟩ rfl ⟨hgo147 _ (some_inj H).symm, Nat.lt_succ_self _⟩
  replace H := ite_t hb71 H
  refine Cd.condT rfl hb71 ?_
  refine Cd.skip ?_
  refine At.then ?_
  refine Cd.block ?_
  refine Cd.region ?_
  refine Lst.r (Ev.move rfl) ?_
  refine Lst.r (Ev.sub rfl rfl) ?_
  refine Lst.r (Ev.assign rfl) ?_
  refine Lst.nil ?_
  refine At.in_normal ?_
  exact At.meet (k54, w64 (y55 - (1 : Int))) hF57 ⟨rfl, rfl, rfl, rfl, trivial⟩ rfl ⟨hgo54 _ (some_inj H).symm, Nat.lt_succ_self _⟩
 replace H := ite_t hb53 H
 refine Cd.condT rfl hb53 ?_
 refine Cd.skip ?_
 refine At.then ?_
 refine Cd.block ?_
 refine Cd.region ?_
 refine Lst.r (Ev.move rfl) ?_
 refine Lst.r (Ev.add rfl rfl) ?_
 refine Lst.r (Ev.assign rfl) ?_
 refine Lst.nil ?_
 refine At.in_normal ?_
 exact At.meet (k36, w64 (y37 + (1 : Int))) hF39 ⟨rfl, rfl, rfl, rfl, trivial⟩ rfl ⟨hgo36 _ (some_inj H).symm, Nat.lt_succ_self _⟩
set_option maxRecDepth 20000 in
theorem slices_pdqsortOrdered_string_simR : ∀ (fu : Nat) {a0 : List Str} {a1 : Int} {a2 : Int} {a3 : Int} {s_a0 : Sl} {r : (List Str)} (H : slices_pdqsortOrdered_string fu a0 a1 a2 a3 = some r) (w0 : World) (F : Frz) (M L : List Item) (hM : M.Sublist L), Ok Try.prog w0 105 [Sl.v s_a0, iv a1, iv a2, iv a3] F ((.own s_a0 9 1 (encs a0)) :: L) (fun _ L' v => v = .tuple #[] ∧ L' = (.own s_a0 9 1 (encs r)) :: L) := by
 intro fu
 induction fu with
 | zero => intro a0 a1 a2 a3 s_a0 r H; exact nomatch (show (none : Option (List Str)) = some _ from H)
 | succ fu ih =>
  intro a0 a1 a2 a3 s_a0 r H w0 F M L hM
  replace H : slices_pdqsortOrdered_string_R fu (slices_pdqsortOrdered_string fu) a0 a1 a2 a3 = some r := H
  generalize slices_pdqsortOrdered_string fu = rc at H ih
  unfold slices_pdqsortOrdered_string_R at H
  refine Ok.enter (m := 4) (n := 134) Try.func105 rfl rfl rfl (by decide) ?_
  refine Cd.env (e' := [(0, Sl.v s_a0), (1, iv a1), (2, iv a2), (3, iv a3)]) rfl ?_
  refine Cd.seq ?_
  refine Cd.region ?_
  refine Lst.r (Ev.assign rfl) ?_
  refine Lst.nil ?_
  refine At.then ?_
  refine Cd.seq ?_
  refine Cd.region ?_
  refine Lst.r (Ev.assign rfl) ?_
  refine Lst.nil ?_
  refine At.then ?_
  refine Cd.block ?_
  obtain ⟨ol2, H, HKl2⟩ := andThen_some H
  refine Cd.loop (σ := Nat × Int × Int × Int × Bool × Bool × (List Str)) (fun (k2, y3, y4, y5, y6, y7, l8) => [(0, Sl.v s_a0), (1, iv y3), (2, iv y4), (3, iv y5), (8, .bool y6), (9, .bool y7)]) (fun (k2, y3, y4, y5, y6, y7, l8) => (.own s_a0 9 1 (encs l8)) :: L) (fun _ => (fun (k2, y3, y4, y5, y6, y7, l8) => whileM (slices_pdqsortOrdered_string_B0 fu rc) k2 (y3, y4, y5, y6, y7, l8) = some ol2)) (fun (k2, y3, y4, y5, y6, y7, l8) => k2) (fu, a1, a2, a3, true, true, a0) ⟨rfl, rfl, rfl, rfl, rfl, rfl, trivial⟩ rfl H ?_
  rintro F9 ⟨k2, y3, y4, y5, y6, y7, l8⟩ hF10 H
  refine Cd.as (e' := [(0, Sl.v s_a0), (1, iv y3), (2, iv y4), (3, iv y5), (8, .bool y6), (9, .bool y7)]) (L' := (.own s_a0 9 1 (encs l8)) :: L) ⟨rfl, rfl, rfl, rfl, rfl, rfl, trivial⟩ rfl ?_
  rcases k2 with _ | k2
  ·cases H
  obtain ⟨c2, H, hgo2, hbrk2, hret2⟩ := whileM_go H
  unfold slices_pdqsortOrdered_string_B0 at H
  try dsimp only at H
  refine Cd.block ?_
  refine Cd.seq ?_
  refine Cd.region ?_
  refine Lst.r (Ev.move rfl) ?_
  refine Lst.r (Ev.move rfl) ?_
  refine Lst.r (Ev.sub rfl rfl) ?_
  refine Lst.r (Ev.assign rfl) ?_
  refine Lst.nil ?_
  refine At.then ?_
  refine Cd.seq ?_
  refine Cd.seq ?_
  refine Cd.region ?_
  refine Lst.r (Ev.move rfl) ?_
  refine Lst.r (Ev.leq rfl rfl) ?_
  refine Lst.nil ?_
  refine At.then ?_
  rcases Bool.eq_false_or_eq_true (decide ((w64 (y4 - y3)) ≤ (12 : Int))) with hb11 | hb11
  ·replace H := ite_t hb11 H
   refine Cd.condT rfl hb11 ?_
   refine Cd.seq ?_
   refine Cd.region ?_
   refine Lst.r (Ev.move rfl) ?_
   refine Lst.r (Ev.move rfl) ?_
   refine Lst.r (Ev.move rfl) ?_
   obtain ⟨r12, h13, H⟩ := bind_some H
   refine Lst.call rfl rfl (by decide) (vs := [Sl.v s_a0, iv y3, iv y4]) ⟨rfl, rfl, rfl, trivial⟩ Try.call115 (slices_insertionSortOrdered_string_sim h13 w0 _ M _ hM) (fun F14 L' v hF15 hv => ?_)
   obtain ⟨rfl, rfl⟩ := hv
   refine Lst.nil ?_
   refine At.then ?_
   have H := hret2 _ (some_inj H).symm
   subst H
   replace H := HKl2
   obtain rfl := some_inj H
   refine Cd.ret ?_
   refine At.then_ret ?_
   refine At.in_ret ?_
   refine At.then_ret ?_
   refine At.in_ret ?_
   exact At.ret0 (.inl rfl) rfl (FLe.trans hF10 hF15) (sk1 (.refl _)) ⟨rfl, rfl⟩
  replace H := ite_f hb11 H
  refine Cd.condF rfl hb11 ?_
  refine Cd.skip ?_
  refine At.then ?_
  refine Cd.seq ?_
  refine Cd.seq ?_
  refine Cd.region ?_
  refine Lst.r (Ev.move rfl) ?_
  refine Lst.r (Ev.eql rfl rfl) ?_
  refine Lst.nil ?_
  refine At.then ?_
  rcases Bool.eq_false_or_eq_true (y5 == (0 : Int)) with hb16 | hb16
  ·replace H := ite_t hb16 H
   refine Cd.condT rfl hb16 ?_
   refine Cd.seq ?_
   refine Cd.region ?_
   refine Lst.r (Ev.move rfl) ?_
   refine Lst.r (Ev.move rfl) ?_
   refine Lst.r (Ev.move rfl) ?_
   obtain ⟨r17, h18, H⟩ := bind_some H
   refine Lst.call rfl rfl (by decide) (vs := [Sl.v s_a0, iv y3, iv y4]) ⟨rfl, rfl, rfl, trivial⟩ Try.call116 (slices_heapSortOrdered_string_sim h18 w0 _ M _ hM) (fun F19 L' v hF20 hv => ?_)
   obtain ⟨rfl, rfl⟩ := hv
   refine Lst.nil ?_
   refine At.then ?_
   have H := hret2 _ (some_inj H).symm
   subst H
   replace H := HKl2
   obtain rfl := some_inj H
   refine Cd.ret ?_
   refine At.then_ret ?_
   refine At.in_ret ?_
   refine At.then_ret ?_
   refine At.in_ret ?_
   exact At.ret0 (.inl rfl) rfl (FLe.trans hF10 hF20) (sk1 (.refl _)) ⟨rfl, rfl⟩
  replace H := ite_f hb16 H
  refine Cd.condF rfl hb16 ?_
  refine Cd.skip ?_
  refine At.then ?_
  obtain ⟨o23, H, HKo23⟩ := bind_some H
  refine Cd.join (σ := Int × (List Str)) (fun (y21, l22) => [(0, Sl.v s_a0), (1, iv y3), (2, iv y4), (3, iv y21), (8, .bool y6), (9, .bool y7), (10, iv (w64 (y4 - y3)))]) (fun (y21, l22) => (.own s_a0 9 1 (encs l22)) :: L) (fun _ (y21, l22) => (y21, l22) = o23) ?_ ?_
  ·refine Cd.seq ?_
   refine Cd.region ?_
   refine Lst.r (Ev.move rfl) ?_
   refine Lst.r (Ev.not rfl) ?_
   refine Lst.nil ?_
   refine At.then ?_
   rcases (Bool.eq_false_or_eq_true (!y6)).symm with hb24 | hb24
   ·replace H := ite_f hb24 H
    refine Cd.condF rfl hb24 ?_
    refine Cd.skip ?_
    exact At.meet (y5, l8) (FLe.refl _) ⟨rfl, rfl, rfl, rfl, rfl, rfl, rfl, trivial⟩ rfl (some_inj H)
   replace H := ite_t hb24 H
   refine Cd.condT rfl hb24 ?_
   refine Cd.seq ?_
   refine Cd.region ?_
   refine Lst.r (Ev.move rfl) ?_
   refine Lst.r (Ev.move rfl) ?_
   refine Lst.r (Ev.move rfl) ?_
   obtain ⟨r25, h26, H⟩ := bind_some H
   refine Lst.call rfl rfl (by decide) (vs := [Sl.v s_a0, iv y3, iv y4]) ⟨rfl, rfl, rfl, trivial⟩ Try.call117 (slices_breakPatternsOrdered_string_sim h26 w0 _ M _ hM) (fun F27 L' v hF28 hv => ?_)
   obtain ⟨rfl, rfl⟩ := hv
   refine Lst.nil ?_
   refine At.then ?_
   refine Cd.region ?_
   refine Lst.r (Ev.move rfl) ?_
   refine Lst.r (Ev.sub rfl rfl) ?_
   refine Lst.r (Ev.assign rfl) ?_
   refine Lst.nil ?_
   exact At.meet (w64 (y5 - (1 : Int)), r25) hF28 ⟨rfl, rfl, rfl, rfl, rfl, rfl, rfl, trivial⟩ rfl (some_inj H)
  rintro F29 ⟨y21, l22⟩ hF30 hy
  subst hy
  refine Cd.as (e' := [(0, Sl.v s_a0), (1, iv y3), (2, iv y4), (3, iv y21), (8, .bool y6), (9, .bool y7), (10, iv (w64 (y4 - y3)))]) (L' := (.own s_a0 9 1 (encs l22)) :: L) ⟨rfl, rfl, rfl, rfl, rfl, rfl, rfl, trivial⟩ rfl ?_
  replace H := HKo23
  refine Cd.seq ?_
  refine Cd.region ?_
  refine Lst.r (Ev.move rfl) ?_
  refine Lst.r (Ev.move rfl) ?_
  refine Lst.r (Ev.move rfl) ?_
  obtain ⟨r31, h32, H⟩ := bind_some H
  refine Lst.call1 rfl rfl (by decide) (vs := [Sl.v s_a0, iv y3, iv y4]) ⟨rfl, rfl, rfl, trivial⟩ Try.call118 (slices_choosePivotOrdered_string_sim h32 w0 _ _ _ (.refl _) (Rd.own (i := 0) rfl rfl rfl)) ?_
  refine Lst.r (Ev.move rfl) ?_
  refine Lst.r (Ev.extract rfl rfl) ?_
  refine Lst.r (Ev.extract rfl rfl) ?_
  refine Lst.r (Ev.assign rfl) ?_
  refine Lst.r (Ev.assign rfl) ?_
  refine Lst.nil ?_
  refine At.then ?_
  obtain ⟨o38, H, HKo38⟩ := bind_some H
  refine Cd.join (σ := Int × Int × (List Str)) (fun (y35, y36, l37) => [(0, Sl.v s_a0), (1, iv y3), (2, iv y4), (3, iv y21), (8, .bool y6), (9, .bool y7), (10, iv (w64 (y4 - y3))), (11, iv y35), (12, iv y36)]) (fun (y35, y36, l37) => (.own s_a0 9 1 (encs l37)) :: L) (fun _ (y35, y36, l37) => (y35, y36, l37) = o38) ?_ ?_
  ·refine Cd.seq ?_
   refine Cd.region ?_
   refine Lst.r (Ev.move rfl) ?_
   refine Lst.r (Ev.eql rfl rfl) ?_
   refine Lst.nil ?_
   refine At.then ?_
   rcases (Bool.eq_false_or_eq_true (r31.2 == (2 : Int))).symm with hb39 | hb39
   ·replace H := ite_f hb39 H
    refine Cd.condF rfl hb39 ?_
    refine Cd.skip ?_
    exact At.meet (r31.1, r31.2, l22) (FLe.refl _) ⟨rfl, rfl, rfl, rfl, rfl, rfl, rfl, rfl, rfl, trivial⟩ rfl (some_inj H)
   replace H := ite_t hb39 H
   refine Cd.condT rfl hb39 ?_
   refine Cd.seq ?_
   refine Cd.region ?_
   refine Lst.r (Ev.move rfl) ?_
   refine Lst.r (Ev.move rfl) ?_
   refine Lst.r (Ev.move rfl) ?_
   obtain ⟨r40, h41, H⟩ := bind_some H
   refine Lst.call rfl rfl (by decide) (vs := [Sl.v s_a0, iv y3, iv y4]) ⟨rfl, rfl, rfl, trivial⟩ Try.call119 (slices_reverseRangeOrdered_string_sim h41 w0 _ M _ hM) (fun F42 L' v hF43 hv => ?_)
   obtain ⟨rfl, rfl⟩ := hv
   refine Lst.nil ?_
   refine At.then ?_
   refine Cd.seq ?_
   refine Cd.region ?_
   refine Lst.r (Ev.move rfl) ?_
   refine Lst.r (Ev.sub rfl rfl) ?_
   refine Lst.r (Ev.move rfl) ?_
   refine Lst.r (Ev.move rfl) ?_
   refine Lst.r (Ev.sub rfl rfl) ?_
   refine Lst.r (Ev.sub rfl rfl) ?_
   refine Lst.r (Ev.assign rfl) ?_
   refine Lst.nil ?_
   refine At.then ?_
   refine Cd.as (e' := [(0, Sl.v s_a0), (1, iv y3), (2, iv y4), (3, iv y21), (8, .bool y6), (9, .bool y7), (10, iv (w64 (y4 - y3))), (11, iv (w64 ((w64 (y4 - (1 : Int))) - (w64 (r31.1 - y3)))))]) (L' := (.own s_a0 9 1 (encs r40)) :: L) ⟨rfl, rfl, rfl, rfl, rfl, rfl, rfl, rfl, trivial⟩ rfl ?_
   refine Cd.region ?_
   refine Lst.r (Ev.assign rfl) ?_
   refine Lst.nil ?_
   exact At.meet (w64 ((w64 (y4 - (1 : Int))) - (w64 (r31.1 - y3))), (1 : Int), r40) hF43 ⟨rfl, rfl, rfl, rfl, rfl, rfl, rfl, rfl, rfl, trivial⟩ rfl (some_inj H)
  rintro F44 ⟨y35, y36, l37⟩ hF45 hy
  subst hy
  refine Cd.as (e' := [(0, Sl.v s_a0), (1, iv y3), (2, iv y4), (3, iv y21), (8, .bool y6), (9, .bool y7), (10, iv (w64 (y4 - y3))), (11, iv y35), (12, iv y36)]) (L' := (.own s_a0 9 1 (encs l37)) :: L) ⟨rfl, rfl, rfl, rfl, rfl, rfl, rfl, rfl, rfl, trivial⟩ rfl ?_
  replace H := HKo38
  obtain ⟨o47, H, HKo47⟩ := andThen_some H
  refine Cd.join (σ := (List Str)) (fun l46 => [(0, Sl.v s_a0), (1, iv y3), (2, iv y4), (3, iv y21), (8, .bool y6), (9, .bool y7), (10, iv (w64 (y4 - y3))), (11, iv y35)]) (fun l46 => (.own s_a0 9 1 (encs l46)) :: L) (fun _ l46 => .inl l46 = o47) ?_ ?_
  ·refine Cd.seq ?_
   refine Cd.region ?_
   refine Lst.r (Ev.move rfl) ?_
   refine Lst.r (Ev.move rfl) ?_
   obtain ⟨o48, H, HKo48⟩ := bind_some H
   refine Lst.join (σ := Bool) 2 (fun y49 => [(0, Sl.v s_a0), (1, iv y3), (2, iv y4), (3, iv y21), (8, .bool y6), (9, .bool y7), (10, iv (w64 (y4 - y3))), (11, iv y35), (12, iv y36), (64, .bool y49)]) (fun y49 => (.own s_a0 9 1 (encs l37)) :: L) (fun _ y49 => y49 = o48) ?_ ?_
   ·rcases (Bool.eq_false_or_eq_true y6).symm with hb50 | hb50
    ·replace H := ite_f hb50 H
     refine Lst.skip rfl rfl rfl hb50 rfl (by decide) ?_
     refine Lst.r (Ev.pickF rfl hb50 rfl) ?_
     refine Lst.nil ?_
     exact At.meet false (FLe.refl _) ⟨rfl, rfl, rfl, rfl, rfl, rfl, rfl, rfl, rfl, rfl, trivial⟩ rfl (some_inj H)
    replace H := ite_t hb50 H
    refine Lst.rG hb50 (Ev.move rfl) ?_
    refine Lst.r (Ev.pickT rfl hb50 rfl) ?_
    refine Lst.nil ?_
    exact At.meet y7 (FLe.refl _) ⟨rfl, rfl, rfl, rfl, rfl, rfl, rfl, rfl, rfl, rfl, trivial⟩ rfl (some_inj H)
   rintro F51 y49 hF52 hy
   subst hy
   refine Lst.as (e' := [(0, Sl.v s_a0), (1, iv y3), (2, iv y4), (3, iv y21), (8, .bool y6), (9, .bool y7), (10, iv (w64 (y4 - y3))), (11, iv y35), (12, iv y36), (64, .bool y49)]) (L' := (.own s_a0 9 1 (encs l37)) :: L) ⟨rfl, rfl, rfl, rfl, rfl, rfl, rfl, rfl, rfl, rfl, trivial⟩ rfl ?_
   replace H := HKo48
   refine Lst.r (Ev.move rfl) ?_
   obtain ⟨o53, H, HKo53⟩ := bind_some H
   refine Lst.join (σ := Bool) 3 (fun y54 => [(0, Sl.v s_a0), (1, iv y3), (2, iv y4), (3, iv y21), (8, .bool y6), (9, .bool y7), (10, iv (w64 (y4 - y3))), (11, iv y35), (68, .bool y54)]) (fun y54 => (.own s_a0 9 1 (encs l37)) :: L) (fun _ y54 => y54 = o53) ?_ ?_
   ·rcases (Bool.eq_false_or_eq_true y49).symm with hb55 | hb55
    ·replace H := ite_f hb55 H
     refine Lst.skip rfl rfl rfl hb55 rfl (by decide) ?_
     refine Lst.skip rfl rfl rfl hb55 rfl (by decide) ?_
     refine Lst.r (Ev.pickF rfl hb55 rfl) ?_
     refine Lst.nil ?_
     exact At.meet false (FLe.refl _) ⟨rfl, rfl, rfl, rfl, rfl, rfl, rfl, rfl, rfl, trivial⟩ rfl (some_inj H)
    replace H := ite_t hb55 H
    refine Lst.rG hb55 (Ev.move rfl) ?_
    refine Lst.rG hb55 (Ev.eql rfl rfl) ?_
    refine Lst.r (Ev.pickT rfl hb55 rfl) ?_
    refine Lst.nil ?_
    exact At.meet (y36 == (1 : Int)) (FLe.refl _) ⟨rfl, rfl, rfl, rfl, rfl, rfl, rfl, rfl, rfl, trivial⟩ rfl (some_inj H)
   rintro F56 y54 hF57 hy
   subst hy
   refine Lst.as (e' := [(0, Sl.v s_a0), (1, iv y3), (2, iv y4), (3, iv y21), (8, .bool y6), (9, .bool y7), (10, iv (w64 (y4 - y3))), (11, iv y35), (68, .bool y54)]) (L' := (.own s_a0 9 1 (encs l37)) :: L) ⟨rfl, rfl, rfl, rfl, rfl, rfl, rfl, rfl, rfl, trivial⟩ rfl ?_
   replace H := HKo53
   refine Lst.nil ?_
   refine At.then ?_
   rcases (Bool.eq_false_or_eq_true y54).symm with hb58 | hb58
   ·replace H := ite_f hb58 H
    refine Cd.condF rfl hb58 ?_
    refine Cd.skip ?_
    exact At.meet l37 (FLe.trans hF52 hF57) ⟨rfl, rfl, rfl, rfl, rfl, rfl, rfl, rfl, trivial⟩ rfl (some_inj H)
   replace H := ite_t hb58 H
   refine Cd.condT rfl hb58 ?_
   refine Cd.seq ?_
   refine Cd.region ?_
   refine Lst.r (Ev.move rfl) ?_
   refine Lst.r (Ev.move rfl) ?_
   refine Lst.r (Ev.move rfl) ?_
   obtain ⟨r59, h60, H⟩ := bind_some H
   refine Lst.call rfl rfl (by decide) (vs := [Sl.v s_a0, iv y3, iv y4]) ⟨rfl, rfl, rfl, trivial⟩ Try.call120 (slices_partialInsertionSortOrdered_string_sim h60 w0 _ M _ hM) (fun F61 L' v hF62 hv => ?_)
   obtain ⟨rfl, rfl⟩ := hv
   refine Lst.nil ?_
   refine At.then ?_
   rcases Bool.eq_false_or_eq_true r59.2 with hb63 | hb63
   ·replace H := ite_t hb63 H
    refine Cd.condT rfl hb63 ?_
    obtain rfl := some_inj H
    replace H := HKo47
    have H := hret2 _ (some_inj H).symm
    subst H
    replace H := HKl2
    obtain rfl := some_inj H
    refine Cd.ret ?_
    refine At.then_ret ?_
    refine At.in_ret ?_
    refine At.then_ret ?_
    refine At.in_ret ?_
    exact At.ret0 (.inl rfl) rfl (FLe.trans (FLe.trans (FLe.trans (FLe.trans (FLe.trans hF10 hF30) hF45) hF52) hF57) hF62) (sk1 (.refl _)) ⟨rfl, rfl⟩
   replace H := ite_f hb63 H
   refine Cd.condF rfl hb63 ?_
   refine Cd.skip ?_
   exact At.meet r59.1 (FLe.trans (FLe.trans hF52 hF57) hF62) ⟨rfl, rfl, rfl, rfl, rfl, rfl, rfl, rfl, trivial⟩ rfl (some_inj H)
  rintro F64 l46 hF65 hy
  subst hy
  refine Cd.as (e' := [(0, Sl.v s_a0), (1, iv y3), (2, iv y4), (3, iv y21), (8, .bool y6), (9, .bool y7), (10, iv (w64 (y4 - y3))), (11, iv y35)]) (L' := (.own s_a0 9 1 (encs l46)) :: L) ⟨rfl, rfl, rfl, rfl, rfl, rfl, rfl, rfl, trivial⟩ rfl ?_
  replace H := HKo47
  refine Cd.seq ?_
  refine Cd.seq ?_
  refine Cd.quiet (by kernel_rfl) (by kernel_rfl) ?_
  refine Qt.r (Ev.move rfl) ?_
  refine Qt.r (Ev.gtr rfl rfl) ?_
  refine Qt.r (Ev.move rfl) ?_
  obtain ⟨o66, H, HKo66⟩ := bind_some H
  refine Qt.join (σ := Bool) 12 (fun y67 => [(0, Sl.v s_a0), (1, iv y3), (2, iv y4), (3, iv y21), (8, .bool y6), (9, .bool y7), (10, iv (w64 (y4 - y3))), (11, iv y35), (87, .bool y67)]) (fun y67 => y67 = o66) ?_ ?_
  ·rcases (Bool.eq_false_or_eq_true (decide (y3 > (0 : Int)))).symm with hb68 | hb68
   ·replace H := ite_f hb68 H
    refine Qt.skip rfl rfl rfl hb68 rfl (by decide) ?_
    refine Qt.skip rfl rfl rfl hb68 rfl (by decide) ?_
    refine Qt.skip rfl rfl rfl hb68 rfl (by decide) ?_
    refine Qt.skip rfl rfl rfl hb68 rfl (by decide) ?_
    refine Qt.skip rfl rfl rfl hb68 rfl (by decide) ?_
    refine Qt.skip rfl rfl rfl hb68 rfl (by decide) ?_
    refine Qt.skip rfl rfl rfl hb68 rfl (by decide) ?_
    refine Qt.skip rfl rfl rfl hb68 rfl (by decide) ?_
    refine Qt.skip rfl rfl rfl hb68 rfl (by decide) ?_
    refine Qt.skip rfl rfl rfl hb68 rfl (by decide) ?_
    refine Qt.skip rfl rfl rfl hb68 rfl (by decide) ?_
    refine Qt.r (Ev.pickF rfl hb68 rfl) ?_
    exact Qt.meet false ⟨rfl, rfl, rfl, rfl, rfl, rfl, rfl, rfl, rfl, trivial⟩ (some_inj H)
   replace H := ite_t hb68 H
   refine Qt.rG hb68 (Ev.move rfl) ?_
   refine Qt.rG hb68 (Ev.move rfl) ?_
   refine Qt.rG hb68 (Ev.sub rfl rfl) ?_
   obtain ⟨x69, h70, H⟩ := bind_some H
   have g71 := lat_some h70
   refine Qt.rG hb68 (Ev.indexS (α := Str) (xs := l46) rfl rfl Try.runUnderlying50 Try.sizeOf9 rfl (by decide) (Rd.own (i := 0) rfl rfl rfl) g71.1 g71.2.1) ?_
   refine Qt.rG hb68 (Ev.loadS (α := Str) rfl (Rd.own (i := 0) rfl rfl rfl) Try.isAgg9 (v := Str.v x69) ((Get.elemN (s := 1) (x := x69) rfl g71.2.2 (Get.here _)).off (by omega))) ?_
   refine Qt.rG hb68 (Ev.move rfl) ?_
   refine Qt.rG hb68 (Ev.move rfl) ?_
   obtain ⟨x72, h73, H⟩ := bind_some H
   have g74 := lat_some h73
   refine Qt.rG hb68 (Ev.indexS (α := Str) (xs := l46) rfl rfl Try.runUnderlying50 Try.sizeOf9 rfl (by decide) (Rd.own (i := 0) rfl rfl rfl) g74.1 g74.2.1) ?_
   refine Qt.rG hb68 (Ev.loadS (α := Str) rfl (Rd.own (i := 0) rfl rfl rfl) Try.isAgg9 (v := Str.v x72) ((Get.elemN (s := 1) (x := x72) rfl g74.2.2 (Get.here _)).off (by omega))) ?_
   obtain ⟨r75, h76, H⟩ := bind_some H
   refine Qt.callG rfl rfl rfl hb68 rfl (by decide) (vs := [Str.v x69, Str.v x72]) ⟨rfl, rfl, trivial⟩ Try.call121 (cmp_Less_string_sim h76 w0 _ M _ (sc1 hM)) ?_
   refine Qt.rG hb68 (Ev.not rfl) ?_
   refine Qt.r (Ev.pickT rfl hb68 rfl) ?_
   exact Qt.meet (!r75) ⟨rfl, rfl, rfl, rfl, rfl, rfl, rfl, rfl, rfl, trivial⟩ (some_inj H)
  rintro y67 hy
  subst hy
  refine Qt.as (e' := [(0, Sl.v s_a0), (1, iv y3), (2, iv y4), (3, iv y21), (8, .bool y6), (9, .bool y7), (10, iv (w64 (y4 - y3))), (11, iv y35), (87, .bool y67)]) ⟨rfl, rfl, rfl, rfl, rfl, rfl, rfl, rfl, rfl, trivial⟩ ?_
  replace H := HKo66
  refine Qt.done ?_
  refine At.then ?_
  rcases Bool.eq_false_or_eq_true y67 with hb79 | hb79
  ·replace H := ite_t hb79 H
   refine Cd.condT rfl hb79 ?_
   refine Cd.seq ?_
   refine Cd.region ?_
   refine Lst.r (Ev.move rfl) ?_
   refine Lst.r (Ev.move rfl) ?_
   refine Lst.r (Ev.move rfl) ?_
   refine Lst.r (Ev.move rfl) ?_
   obtain ⟨r80, h81, H⟩ := bind_some H
   refine Lst.call rfl rfl (by decide) (vs := [Sl.v s_a0, iv y3, iv y4, iv y35]) ⟨rfl, rfl, rfl, rfl, trivial⟩ Try.call122 (slices_partitionEqualOrdered_string_sim h81 w0 _ M _ hM) (fun F82 L' v hF83 hv => ?_)
   obtain ⟨rfl, rfl⟩ := hv
   refine Lst.r (Ev.assign rfl) ?_
   refine Lst.nil ?_
   refine At.then ?_
   refine Cd.seq ?_
   refine Cd.region ?_
   refine Lst.r (Ev.move rfl) ?_
   refine Lst.r (Ev.assign rfl) ?_
   refine Lst.nil ?_
   refine At.then ?_
   refine Cd.exit ?_
   refine At.then_exit ?_
   refine At.in_exit ?_
   exact At.meet (k2, r80.2, y4, y21, y6, y7, r80.1) (FLe.trans (FLe.trans (FLe.trans (FLe.trans hF10 hF30) hF45) hF65) hF83) ⟨rfl, rfl, rfl, rfl, rfl, rfl, trivial⟩ rfl ⟨hgo2 _ (some_inj H).symm, Nat.lt_succ_self _⟩
  replace H := ite_f hb79 H
  refine Cd.condF rfl hb79 ?_
  refine Cd.skip ?_
  refine At.then ?_
  refine Cd.seq ?_
  refine Cd.region ?_
  refine Lst.r (Ev.move rfl) ?_
  refine Lst.r (Ev.move rfl) ?_
  refine Lst.r (Ev.move rfl) ?_
  refine Lst.r (Ev.move rfl) ?_
  obtain ⟨r84, h85, H⟩ := bind_some H
  refine Lst.call rfl rfl (by decide) (vs := [Sl.v s_a0, iv y3, iv y4, iv y35]) ⟨rfl, rfl, rfl, rfl, trivial⟩ Try.call123 (slices_partitionOrdered_string_sim h85 w0 _ M _ hM) (fun F86 L' v hF87 hv => ?_)
  obtain ⟨rfl, rfl⟩ := hv
  refine Lst.r (Ev.move rfl) ?_
  refine Lst.r (Ev.extract rfl rfl) ?_
  refine Lst.r (Ev.extract rfl rfl) ?_
  refine Lst.r (Ev.assign rfl) ?_
  refine Lst.r (Ev.assign rfl) ?_
  refine Lst.nil ?_
  refine At.then ?_
  refine Cd.seq ?_
  refine Cd.region ?_
  refine Lst.r (Ev.move rfl) ?_
  refine Lst.r (Ev.assign rfl) ?_
  refine Lst.nil ?_
  refine At.then ?_
  refine Cd.seq ?_
  refine Cd.region ?_
  refine Lst.r (Ev.move rfl) ?_
  refine Lst.r (Ev.move rfl) ?_
  refine Lst.r (Ev.sub rfl rfl) ?_
  refine Lst.r (Ev.move rfl) ?_
  refine Lst.r (Ev.move rfl) ?_
  refine Lst.r (Ev.sub rfl rfl) ?_
  refine Lst.r (Ev.assign rfl) ?_
  refine Lst.r (Ev.assign rfl) ?_
  refine Lst.nil ?_
  refine At.then ?_
  refine Cd.seq ?_
  refine Cd.as (e' := [(0, Sl.v s_a0), (1, iv y3), (2, iv y4), (3, iv y21), (9, .bool r84.2.2), (10, iv (w64 (y4 - y3))), (14, iv r84.2.1), (16, iv (w64 (r84.2.1 - y3))), (17, iv (w64 (y4 - r84.2.1)))]) (L' := (.own s_a0 9 1 (encs r84.1)) :: L) ⟨rfl, rfl, rfl, rfl, rfl, rfl, rfl, rfl, rfl, trivial⟩ rfl ?_
  refine Cd.region ?_
  refine Lst.r (Ev.move rfl) ?_
  refine Lst.r (Ev.quo (i := w64 (y4 - y3)) (j := (8 : Int)) rfl rfl (by decide)) ?_
  refine Lst.r (Ev.assign rfl) ?_
  refine Lst.nil ?_
  refine At.then ?_
  refine Cd.seq ?_
  refine Cd.region ?_
  refine Lst.r (Ev.move rfl) ?_
  refine Lst.r (Ev.move rfl) ?_
  refine Lst.r (Ev.lss rfl rfl) ?_
  refine Lst.nil ?_
  refine At.then ?_
  rcases (Bool.eq_false_or_eq_true (decide ((w64 (r84.2.1 - y3)) < (w64 (y4 - r84.2.1))))).symm with hb88 | hb88
  ·replace H := ite_f hb88 H
   refine Cd.condF rfl hb88 ?_
   refine Cd.seq ?_
   refine Cd.region ?_
   refine Lst.r (Ev.move rfl) ?_
   refine Lst.r (Ev.move rfl) ?_
   refine Lst.r (Ev.geq rfl rfl) ?_
   refine Lst.r (Ev.assign rfl) ?_
   refine Lst.nil ?_
   refine At.then ?_
   refine Cd.seq ?_
   refine Cd.region ?_
   refine Lst.r (Ev.move rfl) ?_
   refine Lst.r (Ev.move rfl) ?_
   refine Lst.r (Ev.add rfl rfl) ?_
   refine Lst.r (Ev.move rfl) ?_
   refine Lst.r (Ev.move rfl) ?_
   obtain ⟨r89, h90, H⟩ := bind_some H
   refine Lst.call rfl rfl (by decide) (vs := [Sl.v s_a0, iv (w64 (r84.2.1 + (1 : Int))), iv y4, iv y21]) ⟨rfl, rfl, rfl, rfl, trivial⟩ Try.call105 (ih h90 w0 _ M _ hM) (fun F91 L' v hF92 hv => ?_)
   obtain ⟨rfl, rfl⟩ := hv
   refine Lst.nil ?_
   refine At.then ?_
   refine Cd.as (e' := [(0, Sl.v s_a0), (1, iv y3), (3, iv y21), (9, .bool r84.2.2), (14, iv r84.2.1), (8, .bool (decide ((w64 (y4 - r84.2.1)) ≥ (w64 ((w64 (y4 - y3)).tdiv (8 : Int))))))]) (L' := (.own s_a0 9 1 (encs r89)) :: L) ⟨rfl, rfl, rfl, rfl, rfl, rfl, trivial⟩ rfl ?_
   refine Cd.region ?_
   refine Lst.r (Ev.move rfl) ?_
   refine Lst.r (Ev.assign rfl) ?_
   refine Lst.nil ?_
   refine At.in_normal ?_
   exact At.meet (k2, y3, r84.2.1, y21, decide ((w64 (y4 - r84.2.1)) ≥ (w64 ((w64 (y4 - y3)).tdiv (8 : Int)))), r84.2.2, r89) (FLe.trans (FLe.trans (FLe.trans (FLe.trans (FLe.trans hF10 hF30) hF45) hF65) hF87) hF92) ⟨rfl, rfl, rfl, rfl, rfl, rfl, trivial⟩ rfl ⟨hgo2 _ (some_inj H).symm, Nat.lt_succ_self _⟩
  replace H := ite_t hb88 H
  refine Cd.condT rfl hb88 ?_
  refine Cd.seq ?_
  refine Cd.region ?_
  refine Lst.r (Ev.move rfl) ?_
  refine Lst.r (Ev.move rfl) ?_
  refine Lst.r (Ev.geq rfl rfl) ?_
  refine Lst.r (Ev.assign rfl) ?_
  refine Lst.nil ?_
  refine At.then ?_
  refine Cd.seq ?_
  refine Cd.region ?_
  refine Lst.r (Ev.move rfl) ?_
  refine Lst.r (Ev.move rfl) ?_
  refine Lst.r (Ev.move rfl) ?_
  refine Lst.r (Ev.move rfl) ?_
  obtain ⟨r93, h94, H⟩ := bind_some H
  refine Lst.call rfl rfl (by decide) (vs := [Sl.v s_a0, iv y3, iv r84.2.1, iv y21]) ⟨rfl, rfl, rfl, rfl, trivial⟩ Try.call105 (ih h94 w0 _ M _ hM) (fun F95 L' v hF96 hv => ?_)
  obtain ⟨rfl, rfl⟩ := hv
  refine Lst.nil ?_
  refine At.then ?_
  refine Cd.as (e' := [(0, Sl.v s_a0), (2, iv y4), (3, iv y21), (9, .bool r84.2.2), (14, iv r84.2.1), (8, .bool (decide ((w64 (r84.2.1 - y3)) ≥ (w64 ((w64 (y4 - y3)).tdiv (8 : Int))))))]) (L' := (.own s_a0 9 1 (encs r93)) :: L) ⟨rfl, rfl, rfl, rfl, rfl, rfl, trivial⟩ rfl ?_
  refine Cd.region ?_
  refine Lst.r (Ev.move rfl) ?_
  refine Lst.r (Ev.add rfl rfl) ?_
  refine Lst.r (Ev.assign rfl) ?_
  refine Lst.nil ?_
  refine At.in_normal ?_
  exact At.meet (k2, w64 (r84.2.1 + (1 : Int)), y4, y21, decide ((w64 (r84.2.1 - y3)) ≥ (w64 ((w64 (y4 - y3)).tdiv (8 : Int)))), r84.2.2, r93) (FLe.trans (FLe.trans (FLe.trans (FLe.trans (FLe.trans hF10 hF30) hF45) hF65) hF87) hF96) ⟨rfl, rfl, rfl, rfl, rfl, rfl, trivial⟩ rfl ⟨hgo2 _ (some_inj H).symm, Nat.lt_succ_self _⟩
theorem slices_pdqsortOrdered_string_sim {fu : Nat} {a0 : List Str} {a1 : Int} {a2 : Int} {a3 : Int} {s_a0 : Sl} {r : (List Str)} (H : slices_pdqsortOrdered_string fu a0 a1 a2 a3 = some r) (w0 : World) (F : Frz) (M L : List Item) (hM : M.Sublist L) : Ok Try.prog w0 105 [Sl.v s_a0, iv a1, iv a2, iv a3] F ((.own s_a0 9 1 (encs a0)) :: L) (fun _ L' v => v = .tuple #[] ∧ L' = (.own s_a0 9 1 (encs r)) :: L) :=
  slices_pdqsortOrdered_string_simR fu H w0 F M L hM
set_option maxRecDepth 20000 in
theorem slices_Sort_string_string_sim {fu : Nat} {a0 : List Str} {s_a0 : Sl} {r : (List Str)} (H : slices_Sort_string_string fu a0 = some r) (w0 : World) (F : Frz) (M L : List Item) (hM : M.Sublist L) : Ok Try.prog w0 67 [Sl.v s_a0] F ((.own s_a0 9 1 (encs a0)) :: L) (fun _ L' v => v = .tuple #[] ∧ L' = (.own s_a0 9 1 (encs r)) :: L) := by
 unfold slices_Sort_string_string at H
 refine Ok.enter (m := 1) (n := 11) Try.func67 rfl rfl rfl (by decide) ?_
 refine Cd.env (e' := [(0, Sl.v s_a0)]) rfl ?_
 refine Cd.seq ?_
 refine Cd.region ?_
 refine Lst.r (Ev.move rfl) ?_
 refine Lst.r (Ev.lenS (α := Str) (xs := a0) (by decide) rfl rfl Try.runUnderlying50 (Rd.own (i := 0) rfl rfl rfl)) ?_
 refine Lst.r (Ev.assign rfl) ?_
 refine Lst.nil ?_
 refine At.then ?_
 refine Cd.region ?_
 refine Lst.r (Ev.move rfl) ?_
 refine Lst.r (Ev.move rfl) ?_
 refine Lst.r (Ev.move rfl) ?_
 refine Lst.r (Ev.convTo64 rfl Try.runUnderlying3 Try.runUnderlying131) ?_
 obtain ⟨r2, h3, H⟩ := bind_some H
 refine Lst.call1 rfl rfl (by decide) (vs := [.int .u64 (BitVec.ofInt 64 (a0.length : Int)).toNat]) ⟨rfl, trivial⟩ Try.call106 (math_bits_Len_sim h3 w0 _ M _ (sc1 hM)) ?_
 obtain ⟨r6, h7, H⟩ := bind_some H
 refine Lst.call rfl rfl (by decide) (vs := [Sl.v s_a0, iv (0 : Int), iv (a0.length : Int), iv r2]) ⟨rfl, rfl, rfl, rfl, trivial⟩ Try.call105 (slices_pdqsortOrdered_string_sim h7 w0 _ M _ hM) (fun F8 L' v hF9 hv => ?_)
 obtain ⟨rfl, rfl⟩ := hv
 refine Lst.nil ?_
 obtain rfl := some_inj H
 exact At.ret0 (.inr rfl) rfl hF9 (sk1 (.refl _)) ⟨rfl, rfl⟩
set_option maxRecDepth 20000 in
theorem slices_Compact_string_string_sim {fu : Nat} {a0 : List Str} {s_a0 : Sl} {r : (List Str)} (H : slices_Compact_string_string fu a0 = some r) (w0 : World) (F : Frz) (M L : List Item) (hM : M.Sublist L) : Ok Try.prog w0 68 [Sl.v s_a0] F ((.own s_a0 9 1 (encs a0)) :: L) (fun _ L' v => ∃ (s2 : Sl), v = Sl.v s2 ∧ L' = (.own s2 9 1 (encs r)) :: L) := by
 unfold slices_Compact_string_string at H
 refine Ok.enter (m := 1) (n := 61) Try.func68 rfl rfl rfl (by decide) ?_
 refine Cd.env (e' := [(0, Sl.v s_a0)]) rfl ?_
 refine Cd.seq ?_
 refine Cd.region ?_
 refine Lst.addNil 9 1 ?_
 refine Lst.r (Ev.assign rfl) ?_
 refine Lst.nil ?_
 refine At.then ?_
 refine Cd.seq ?_
 refine Cd.seq ?_
 refine Cd.region ?_
 refine Lst.r (Ev.move rfl) ?_
 refine Lst.r (Ev.lenS (α := Str) (xs := a0) (by decide) rfl rfl Try.runUnderlying50 (Rd.own (i := 1) rfl rfl rfl)) ?_
 refine Lst.r (Ev.lss rfl rfl) ?_
 refine Lst.nil ?_
 refine At.then ?_
 rcases Bool.eq_false_or_eq_true (decide ((a0.length : Int) < (2 : Int))) with hb3 | hb3
 ·replace H := ite_t hb3 H
  refine Cd.condT rfl hb3 ?_
  refine Cd.seq ?_
  refine Cd.region ?_
  refine Lst.r (Ev.move rfl) ?_
  refine Lst.r (Ev.assign rfl) ?_
  refine Lst.nil ?_
  refine At.then ?_
  obtain rfl := some_inj H
  refine Cd.ret ?_
  refine At.then_ret ?_
  exact At.ret1 rfl (Res.tmp rfl) (FLe.refl _) (sc1 (sk1 (.refl _))) ⟨s_a0, rfl, rfl⟩
 replace H := ite_f hb3 H
 refine Cd.condF rfl hb3 ?_
 refine Cd.skip ?_
 refine At.then ?_
 refine Cd.seq ?_
 refine Cd.seq ?_
 refine Cd.region ?_
 refine Lst.r (Ev.assign rfl) ?_
 refine Lst.nil ?_
 refine At.then ?_
 refine Cd.block ?_
 obtain ⟨ol4, H, HKl4⟩ := andThen_some H
 refine Cd.loop (σ := Nat × Int) (fun (k4, y5) => [(0, Sl.v s_a0), (3, iv y5)]) (fun (k4, y5) => (.own Sl.nil 9 1 (encs ([] : List Str))) :: (.own s_a0 9 1 (encs a0)) :: L) (fun _ => (fun (k4, y5) => whileM (slices_Compact_string_string_B0 fu a0) k4 y5 = some ol4)) (fun (k4, y5) => k4) (fu, (1 : Int)) ⟨rfl, rfl, trivial⟩ rfl H ?_
 rintro F6 ⟨k4, y5⟩ hF7 H
 refine Cd.as (e' := [(0, Sl.v s_a0), (3, iv y5)]) (L' := (.own Sl.nil 9 1 (encs ([] : List Str))) :: (.own s_a0 9 1 (encs a0)) :: L) ⟨rfl, rfl, trivial⟩ rfl ?_
 rcases k4 with _ | k4
 ·cases H
 obtain ⟨c4, H, hgo4, hbrk4, hret4⟩ := whileM_go H
 unfold slices_Compact_string_string_B0 at H
 try dsimp only at H
 refine Cd.seq ?_
 refine Cd.seq ?_
 refine Cd.region ?_
 refine Lst.r (Ev.move rfl) ?_
 refine Lst.r (Ev.move rfl) ?_
 refine Lst.r (Ev.lenS (α := Str) (xs := a0) (by decide) rfl rfl Try.runUnderlying50 (Rd.own (i := 1) rfl rfl rfl)) ?_
 refine Lst.r (Ev.lss rfl rfl) ?_
 refine Lst.nil ?_
 refine At.then ?_
 rcases (Bool.eq_false_or_eq_true (decide (y5 < (a0.length : Int)))).symm with hb8 | hb8
 ·replace H := ite_f hb8 H
  refine Cd.condF rfl hb8 ?_
  refine Cd.exit ?_
  refine At.then_exit ?_
  refine At.then_exit ?_
  refine At.in_exit ?_
  have H := hbrk4 _ (some_inj H).symm
  subst H
  replace H := HKl4
  refine At.then ?_
  refine Cd.seq ?_
  refine Cd.region ?_
  refine Lst.r (Ev.move rfl) ?_
  refine Lst.r (Ev.assign rfl) ?_
  refine Lst.nil ?_
  refine At.then ?_
  obtain rfl := some_inj H
  refine Cd.ret ?_
  exact At.ret1 rfl (Res.tmp rfl) hF7 (sc1 (sk1 (.refl _))) ⟨s_a0, rfl, rfl⟩
 replace H := ite_t hb8 H
 refine Cd.condT rfl hb8 ?_
 refine Cd.skip ?_
 refine At.then ?_
 refine Cd.seq ?_
 refine Cd.block ?_
 refine Cd.seq ?_
 refine Cd.quiet (by kernel_rfl) (by kernel_rfl) ?_
 refine Qt.r (Ev.move rfl) ?_
 refine Qt.r (Ev.move rfl) ?_
 obtain ⟨x9, h10, H⟩ := bind_some H
 have g11 := lat_some h10
 refine Qt.r (Ev.indexS (α := Str) (xs := a0) rfl rfl Try.runUnderlying50 Try.sizeOf9 rfl (by decide) (Rd.own (i := 1) rfl rfl rfl) g11.1 g11.2.1) ?_
 refine Qt.r (Ev.loadS (α := Str) rfl (Rd.own (i := 1) rfl rfl rfl) Try.isAgg9 (v := Str.v x9) ((Get.elemN (s := 1) (x := x9) rfl g11.2.2 (Get.here _)).off (by omega))) ?_
 refine Qt.r (Ev.move rfl) ?_
 refine Qt.r (Ev.move rfl) ?_
 refine Qt.r (Ev.sub rfl rfl) ?_
 obtain ⟨x12, h13, H⟩ := bind_some H
 have g14 := lat_some h13
 refine Qt.r (Ev.indexS (α := Str) (xs := a0) rfl rfl Try.runUnderlying50 Try.sizeOf9 rfl (by decide) (Rd.own (i := 1) rfl rfl rfl) g14.1 g14.2.1) ?_
 refine Qt.r (Ev.loadS (α := Str) rfl (Rd.own (i := 1) rfl rfl rfl) Try.isAgg9 (v := Str.v x12) ((Get.elemN (s := 1) (x := x12) rfl g14.2.2 (Get.here _)).off (by omega))) ?_
 refine Qt.r (Ev.eqlStr (s := x9) (m := x12) rfl rfl) ?_
 refine Qt.done ?_
 refine At.then ?_
 rcases Bool.eq_false_or_eq_true (decide (x9 = x12)) with hb15 | hb15
 ·replace H := ite_t hb15 H
  refine Cd.condT rfl hb15 ?_
  refine Cd.seq ?_
  refine Cd.region ?_
  refine Lst.r (Ev.move rfl) ?_
  refine Lst.r (Ev.move rfl) ?_
  obtain ⟨m16, h17, H⟩ := bind_some H
  obtain ⟨g18, gl19⟩ := cutL_some h17
  try dsimp only at g18
  refine Lst.capOwn (α := Str) (i := 1) (xs := a0) rfl rfl rfl (by decide) (fun hl20 hc21 => ?_)
  have hl20v : ((a0.length : Int) : Int).toNat ≤ Sl.len s_a0 := by omega
  refine Lst.r (Ev.cut (α := Str) (xs := a0) (i := y5) (j := (a0.length : Int)) rfl rfl rfl Try.runUnderlying50 Try.sizeOf9 rfl (by decide) (Rd.own (i := 1) rfl rfl rfl) g18.1 g18.2.1 g18.2.2) ?_
  refine Lst.r (Ev.assign rfl) ?_
  refine Lst.nil ?_
  refine At.then ?_
  refine Cd.seq ?_
  refine Cd.seq ?_
  refine Cd.as (e' := [(0, Sl.v s_a0), (3, iv y5), (4, Sl.v (s_a0.cut (y5 : Int).toNat ((a0.length : Int) : Int).toNat 1))]) (L' := (.own Sl.nil 9 1 (encs ([] : List Str))) :: (.own s_a0 9 1 (encs a0)) :: L) ⟨rfl, rfl, rfl, trivial⟩ rfl ?_
  refine Cd.region ?_
  refine Lst.r (Ev.assign rfl) ?_
  refine Lst.nil ?_
  refine At.then ?_
  refine Cd.block ?_
  obtain ⟨ol22, H, HKl22⟩ := andThen_some H
  refine Cd.loop (σ := Nat × Int × Int × (List Str)) (fun (k22, y23, y24, l25) => [(0, Sl.v s_a0), (3, iv y23), (4, Sl.v (s_a0.cut (y5 : Int).toNat ((a0.length : Int) : Int).toNat 1)), (5, iv y24)]) (fun (k22, y23, y24, l25) => (.own Sl.nil 9 1 (encs ([] : List Str))) :: (.own s_a0 9 1 (encs l25)) :: L) (fun _ => (fun (k22, y23, y24, l25) => whileM (slices_Compact_string_string_B2 a0 y5) k22 (y23, y24, l25) = some ol22)) (fun (k22, y23, y24, l25) => k22) (fu, y5, (1 : Int), a0) ⟨rfl, rfl, rfl, rfl, trivial⟩ rfl H ?_
  rintro F26 ⟨k22, y23, y24, l25⟩ hF27 H
  refine Cd.as (e' := [(0, Sl.v s_a0), (3, iv y23), (4, Sl.v (s_a0.cut (y5 : Int).toNat ((a0.length : Int) : Int).toNat 1)), (5, iv y24)]) (L' := (.own Sl.nil 9 1 (encs ([] : List Str))) :: (.own s_a0 9 1 (encs l25)) :: L) ⟨rfl, rfl, rfl, rfl, trivial⟩ rfl ?_
  rcases k22 with _ | k22
  ·cases H
  obtain ⟨c22, H, hgo22, hbrk22, hret22⟩ := whileM_go H
  unfold slices_Compact_string_string_B2 at H
  try dsimp only at H
  refine Cd.seq ?_
  refine Cd.seq ?_
  refine Cd.region ?_
  refine Lst.r (Ev.move rfl) ?_
  refine Lst.r (Ev.move rfl) ?_
  refine Lst.r (Ev.lenS (α := Str) (xs := ((l25.drop (y5 : Int).toNat).take (((a0.length : Int) : Int).toNat - (y5 : Int).toNat))) (by decide) rfl rfl Try.runUnderlying50 (Rd.cutLive (i := 1) (xs := l25) rfl rfl rfl (by decide) (Int.toNat_le_toNat g18.2.1) hl20v)) ?_
  refine Lst.r (Ev.lss rfl rfl) ?_
  refine Lst.nil ?_
  refine At.then ?_
  rcases (Bool.eq_false_or_eq_true (decide (y24 < (((l25.drop (y5 : Int).toNat).take (((a0.length : Int) : Int).toNat - (y5 : Int).toNat)).length : Int)))).symm with hb28 | hb28
  ·replace H := ite_f hb28 H
   refine Cd.condF rfl hb28 ?_
   refine Cd.exit ?_
   refine At.then_exit ?_
   refine At.then_exit ?_
   refine At.in_exit ?_
   have H := hbrk22 _ (some_inj H).symm
   subst H
   replace H := HKl22
   refine At.then ?_
   refine Cd.seq ?_
   refine Cd.region ?_
   refine Lst.r (Ev.move rfl) ?_
   refine Lst.r (Ev.move rfl) ?_
   obtain ⟨m29, h30, H⟩ := bind_some H
   obtain ⟨g31, gl32⟩ := cutL_some h30
   try dsimp only at g31
   refine Lst.r (Ev.cut (α := Str) (xs := l25) (i := y23) (j := (l25.length : Int)) rfl rfl rfl Try.runUnderlying50 Try.sizeOf9 rfl (by decide) (Rd.own (i := 1) rfl rfl rfl) g31.1 g31.2.1 g31.2.2) ?_
   refine Lst.clearView (α := Str) (i := 1) (lo := (y23 : Int).toNat) (hi := ((l25.length : Int) : Int).toNat) (xs := l25) rfl rfl rfl Try.runUnderlying50 Try.zeroValue9 ([] : Str) rfl rfl (by decide) rfl rfl (by omega) (by omega) ?_
   refine Lst.its (L' := (.own Sl.nil 9 1 (encs ([] : List Str))) :: (.own s_a0 9 1 (encs (clearL l25 (y23 : Int).toNat ((l25.length : Int) : Int).toNat ([] : Str)))) :: L) rfl ?_
   refine Lst.nil ?_
   refine At.then ?_
   refine Cd.seq ?_
   refine Cd.region ?_
   refine Lst.r (Ev.move rfl) ?_
   refine Lst.r (Ev.move rfl) ?_
   obtain ⟨m33, h34, H⟩ := bind_some H
   obtain ⟨g35, gl36⟩ := cutL_some h34
   try dsimp only at g35
   refine Lst.r (Ev.cut (α := Str) (xs := (clearL l25 (y23 : Int).toNat ((l25.length : Int) : Int).toNat ([] : Str))) (i := 0) (j := y23) rfl rfl rfl Try.runUnderlying50 Try.sizeOf9 rfl (by decide) (Rd.own (i := 1) rfl rfl rfl) g35.1 g35.2.1 g35.2.2) ?_
   refine Lst.cutOwn (i := 1) (α := Str) (lo := (0 : Int).toNat) (hi := (y23 : Int).toNat) rfl rfl rfl (by decide) (by omega) (by omega) (L' := (.own Sl.nil 9 1 (encs ([] : List Str))) :: (.own (s_a0.cut (0 : Int).toNat (y23 : Int).toNat 1) 9 1 (encs m33)) :: L) (by subst gl36; rfl) ?_
   refine Lst.r (Ev.assign rfl) ?_
   refine Lst.nil ?_
   refine At.then ?_
   have H := hret4 _ (some_inj H).symm
   subst H
   replace H := HKl4
   obtain rfl := some_inj H
   refine Cd.ret ?_
   refine At.in_ret ?_
   refine At.then_ret ?_
   refine At.then_ret ?_
   refine At.in_ret ?_
   refine At.then_ret ?_
   exact At.ret1 rfl (Res.tmp rfl) (FLe.trans hF7 hF27) (sc1 (sk1 (.refl _))) ⟨(s_a0.cut (0 : Int).toNat (y23 : Int).toNat 1), rfl, rfl⟩
  replace H := ite_t hb28 H
  refine Cd.condT rfl hb28 ?_
  refine Cd.skip ?_
  refine At.then ?_
  refine Cd.seq ?_
  refine Cd.block ?_
  refine Cd.seq ?_
  refine Cd.quiet (by kernel_rfl) (by kernel_rfl) ?_
  refine Qt.r (Ev.move rfl) ?_
  refine Qt.r (Ev.move rfl) ?_
  obtain ⟨x38, h39, H⟩ := bind_some H
  have g40 := lat_some h39
  refine Qt.r (Ev.indexS (α := Str) (xs := ((l25.drop (y5 : Int).toNat).take (((a0.length : Int) : Int).toNat - (y5 : Int).toNat))) rfl rfl Try.runUnderlying50 Try.sizeOf9 rfl (by decide) (Rd.cutLive (i := 1) (xs := l25) rfl rfl rfl (by decide) (Int.toNat_le_toNat g18.2.1) hl20v) g40.1 g40.2.1) ?_
  refine Qt.r (Ev.loadS (α := Str) rfl (Rd.cutLive (i := 1) (xs := l25) rfl rfl rfl (by decide) (Int.toNat_le_toNat g18.2.1) hl20v) Try.isAgg9 (v := Str.v x38) ((Get.elemN (s := 1) (x := x38) rfl g40.2.2 (Get.here _)).off (by omega))) ?_
  refine Qt.r (Ev.move rfl) ?_
  refine Qt.r (Ev.move rfl) ?_
  refine Qt.r (Ev.sub rfl rfl) ?_
  obtain ⟨x41, h42, H⟩ := bind_some H
  have g43 := lat_some h42
  refine Qt.r (Ev.indexS (α := Str) (xs := ((l25.drop (y5 : Int).toNat).take (((a0.length : Int) : Int).toNat - (y5 : Int).toNat))) rfl rfl Try.runUnderlying50 Try.sizeOf9 rfl (by decide) (Rd.cutLive (i := 1) (xs := l25) rfl rfl rfl (by decide) (Int.toNat_le_toNat g18.2.1) hl20v) g43.1 g43.2.1) ?_
  refine Qt.r (Ev.loadS (α := Str) rfl (Rd.cutLive (i := 1) (xs := l25) rfl rfl rfl (by decide) (Int.toNat_le_toNat g18.2.1) hl20v) Try.isAgg9 (v := Str.v x41) ((Get.elemN (s := 1) (x := x41) rfl g43.2.2 (Get.here _)).off (by omega))) ?_
  refine Qt.r (Ev.neqStr (s := x38) (m := x41) rfl rfl) ?_
  refine Qt.done ?_
  refine At.then ?_
  rcases (Bool.eq_false_or_eq_true (!(decide (x38 = x41)))).symm with hb44 | hb44
  ·replace H := ite_f hb44 H
   refine Cd.condF rfl hb44 ?_
   refine Cd.skip ?_
   refine At.in_normal ?_
   refine At.then ?_
   refine Cd.region ?_
   refine Lst.r (Ev.move rfl) ?_
   refine Lst.r (Ev.add rfl rfl) ?_
   refine Lst.r (Ev.assign rfl) ?_
   refine Lst.nil ?_
   exact At.meet (k22, y23, w64 (y24 + (1 : Int)), l25) hF27 ⟨rfl, rfl, rfl, rfl, trivial⟩ rfl ⟨hgo22 _ (some_inj H).symm, Nat.lt_succ_self _⟩
  replace H := ite_t hb44 H
  refine Cd.condT rfl hb44 ?_
  refine Cd.seq ?_
  refine Cd.region ?_
  refine Lst.r (Ev.move rfl) ?_
  refine Lst.r (Ev.move rfl) ?_
  refine Lst.r (Ev.move rfl) ?_
  refine Lst.r (Ev.move rfl) ?_
  obtain ⟨x45, h46, H⟩ := bind_some H
  have g47 := lat_some h46
  refine Lst.r (Ev.indexS (α := Str) (xs := ((l25.drop (y5 : Int).toNat).take (((a0.length : Int) : Int).toNat - (y5 : Int).toNat))) rfl rfl Try.runUnderlying50 Try.sizeOf9 rfl (by decide) (Rd.cutLive (i := 1) (xs := l25) rfl rfl rfl (by decide) (Int.toNat_le_toNat g18.2.1) hl20v) g47.1 g47.2.1) ?_
  refine Lst.r (Ev.loadS (α := Str) rfl (Rd.cutLive (i := 1) (xs := l25) rfl rfl rfl (by decide) (Int.toNat_le_toNat g18.2.1) hl20v) Try.isAgg9 (v := Str.v x45) ((Get.elemN (s := 1) (x := x45) rfl g47.2.2 (Get.here _)).off (by omega))) ?_
  obtain ⟨x48, h49, H⟩ := bind_some H
  have g50 := lat_some h49
  refine Lst.r (Ev.indexS (α := Str) (xs := l25) rfl rfl Try.runUnderlying50 Try.sizeOf9 rfl (by decide) (Rd.own (i := 1) rfl rfl rfl) g50.1 g50.2.1) ?_
  obtain ⟨p51, h52, H⟩ := Let_some H
  refine Lst.storeS (i := 1) rfl rfl rfl rfl rfl Try.sizeOf9 (vs := [Str.v x45]) rfl rfl (by decide) rfl (xs' := encs p51) (by rw [← h52]; exact (Put.elemN (s := 1) (x := x48) rfl g50.2.2 (Put.here (vs := [Str.v x45]) rfl)).off (by omega)) (L' := (.own Sl.nil 9 1 (encs ([] : List Str))) :: (.own s_a0 9 1 (encs p51)) :: L) rfl ?_
  refine Lst.nil ?_
  refine At.then ?_
  refine Cd.as (e' := [(0, Sl.v s_a0), (3, iv y23), (4, Sl.v (s_a0.cut (y5 : Int).toNat ((a0.length : Int) : Int).toNat 1)), (5, iv y24)]) (L' := (.own Sl.nil 9 1 (encs ([] : List Str))) :: (.own s_a0 9 1 (encs p51)) :: L) ⟨rfl, rfl, rfl, rfl, trivial⟩ rfl ?_
  refine Cd.region ?_
  refine Lst.r (Ev.move rfl) ?_
  refine Lst.r (Ev.add rfl rfl) ?_
  refine Lst.r (Ev.assign rfl) ?_
  refine Lst.nil ?_
  refine At.in_normal ?_
  refine At.then ?_
  refine Cd.region ?_
  refine Lst.r (Ev.move rfl) ?_
  refine Lst.r (Ev.add rfl rfl) ?_
  refine Lst.r (Ev.assign rfl) ?_
  refine Lst.nil ?_
  exact At.meet (k22, w64 (y23 + (1 : Int)), w64 (y24 + (1 : Int)), p51) hF27 ⟨rfl, rfl, rfl, rfl, trivial⟩ rfl ⟨hgo22 _ (some_inj H).symm, Nat.lt_succ_self _⟩
 replace H := ite_f hb15 H
 refine Cd.condF rfl hb15 ?_
 refine Cd.skip ?_
 refine At.in_normal ?_
 refine At.then ?_
 refine Cd.region ?_
 refine Lst.r (Ev.move rfl) ?_
 refine Lst.r (Ev.add rfl rfl) ?_
 refine Lst.r (Ev.assign rfl) ?_
 refine Lst.nil ?_
 exact At.meet (k4, w64 (y5 + (1 : Int))) hF7 ⟨rfl, rfl, trivial⟩ rfl ⟨hgo4 _ (some_inj H).symm, Nat.lt_succ_self _⟩
set_option maxRecDepth 20000 in
theorem synod_Chosen_sim {fu : Nat} {a0 : Synod} {s_a0_0 : Sl} {s_a0_1 : Sl} {r : (List Str) × Int} (H : synod_Chosen fu a0 = some r) (w0 : World) (F : Frz) (M L : List Item) (hM : M.Sublist L) (hs_a0_0 : Rd w0 F M s_a0_0 a0.Voters) (hs_a0_1 : Rd w0 F M s_a0_1 a0.Rounds) : Ok Try.prog w0 24 [.agg (enc (SynodR.mk a0 s_a0_0 s_a0_1)).toArray] F (L) (fun _ L' v => ∃ (s1 : Sl), v = .tuple #[Sl.v s1, iv r.2] ∧ L' = (.own s1 9 1 (encs r.1)) :: L) := by
 unfold synod_Chosen at H
 refine Ok.enter (m := 1) (n := 36) Try.func24 rfl rfl rfl (by decide) ?_
 refine Cd.env (e' := [(0, .agg (enc (SynodR.mk a0 s_a0_0 s_a0_1)).toArray)]) rfl ?_
 refine Cd.seq ?_
 refine Cd.region ?_
 refine Lst.box rfl rfl (by decide) rfl (cs := enc (SynodR.mk a0 s_a0_0 s_a0_1)) rfl (fun b1 => ?_)
 refine Lst.addNil 9 1 ?_
 refine Lst.r (Ev.assign rfl) ?_
 refine Lst.r (Ev.assign rfl) ?_
 refine Lst.nil ?_
 refine At.then ?_
 refine Cd.seq ?_
 refine Cd.seq ?_
 refine Cd.region ?_
 refine Lst.r (Ev.loadA (i := 1) rfl rfl Try.isAgg44 Try.sizeOf44 (ch := enc (SynodR.mk a0 s_a0_0 s_a0_1)) (Enc.len _) (Get.here _)) ?_
 obtain ⟨r4, h5, H⟩ := bind_some H
 refine Lst.call1 rfl rfl (by decide) (vs := [.agg (enc (SynodR.mk a0 s_a0_0 s_a0_1)).toArray]) ⟨rfl, trivial⟩ Try.call25 (synod_Check_sim h5 w0 _ M _ (sc2 hM) (hs_a0_0.mono (FLe.refl _) (.refl _)) (hs_a0_1.mono (FLe.refl _) (.refl _))) ?_
 refine Lst.r (Ev.assign rfl) ?_
 refine Lst.nil ?_
 refine At.then ?_
 refine Cd.seq ?_
 refine Cd.region ?_
 refine Lst.r (Ev.move rfl) ?_
 refine Lst.r (Ev.neq rfl rfl) ?_
 refine Lst.nil ?_
 refine At.then ?_
 rcases Bool.eq_false_or_eq_true (r4 != (0 : Int)) with hb8 | hb8
 ·replace H := ite_t hb8 H
  refine Cd.condT rfl hb8 ?_
  refine Cd.seq ?_
  refine Cd.region ?_
  refine Lst.r (Ev.move rfl) ?_
  refine Lst.addNil 9 1 ?_
  refine Lst.r (Ev.assign rfl) ?_
  refine Lst.r (Ev.assign rfl) ?_
  refine Lst.nil ?_
  refine At.then ?_
  obtain rfl := some_inj H
  refine Cd.ret ?_
  refine At.then_ret ?_
  exact At.ret2 rfl (Res.tmp rfl) (Res.tmp rfl) (FLe.refl _) (sk1 (sc1 (sc1 (.refl _)))) ⟨Sl.nil, rfl, rfl⟩
 replace H := ite_f hb8 H
 refine Cd.condF rfl hb8 ?_
 refine Cd.skip ?_
 refine At.then ?_
 refine Cd.seq ?_
 refine Cd.region ?_
 refine Lst.addNil 9 1 ?_
 refine Lst.r (Ev.assign rfl) ?_
 refine Lst.nil ?_
 refine At.then ?_
 refine Cd.seq ?_
 refine Cd.seq ?_
 refine Cd.region ?_
 refine Lst.r (Ev.fieldAddr (off' := 1) rfl Try.runUnderlying44 rfl Try.sizeOf42 rfl rfl) ?_
 refine Lst.r (Ev.load (i := 2) rfl rfl Try.isAgg42 (v := Sl.v s_a0_1) ((SynodR.get_Rounds (Get.here _)).off (by rfl))) ?_
 refine Lst.r (Ev.lenS (α := Round) (xs := a0.Rounds) (by decide) rfl rfl Try.runUnderlying42 (hs_a0_1.mono (FLe.refl _) (sc2 (sc1 hM)))) ?_
 refine Lst.r (Ev.move rfl) ?_
 refine Lst.nil ?_
 refine At.then ?_
 refine Cd.block ?_
 refine Cd.bound (Rd.le (α := Round) (xs := a0.Rounds) (by decide) (hs_a0_1.mono (FLe.refl _) (sc2 (sc1 hM)))) (fun hN41 => ?_)
 obtain ⟨ol11, H, HKl11⟩ := bind_some H
 refine Cd.loop (σ := Nat × Nat × Sl × (List Str)) (fun (i11, k11, s12, l13) => [(1, pv b1 0), (5, Sl.v s12), (14, Sl.v s_a0_1), (15, iv (a0.Rounds.length : Int)), (16, iv (i11 : Int))]) (fun (i11, k11, s12, l13) => (.own s12 9 1 (encs l13)) :: (.own Sl.nil 9 1 (encs ([] : List Str))) :: (.blk b1 (enc (SynodR.mk a0 s_a0_0 s_a0_1)) 44) :: L) (fun _ => (fun (i11, k11, s12, l13) => rangeF (synod_Chosen_B0 a0) k11 i11 l13 = some ol11 ∧ i11 + k11 = a0.Rounds.length)) (fun (i11, k11, s12, l13) => k11) (0, a0.Rounds.length, Sl.nil, ([] : List Str)) ⟨rfl, rfl, rfl, rfl, rfl, trivial⟩ rfl ⟨H, by omega⟩ ?_
 rintro F14 ⟨i11, k11, s12, l13⟩ hF15 ⟨H, hik11⟩
 refine Cd.as (e' := [(1, pv b1 0), (5, Sl.v s12), (14, Sl.v s_a0_1), (15, iv (a0.Rounds.length : Int)), (16, iv (i11 : Int))]) (L' := (.own s12 9 1 (encs l13)) :: (.own Sl.nil 9 1 (encs ([] : List Str))) :: (.blk b1 (enc (SynodR.mk a0 s_a0_0 s_a0_1)) 44) :: L) ⟨rfl, rfl, rfl, rfl, rfl, trivial⟩ rfl ?_
 rcases k11 with _ | k11
 ·have hc11 : decide ((i11 : Int) < (a0.Rounds.length : Int)) = false := decide_eq_false (by omega)
  replace H := rangeF_end H
  refine Cd.seq ?_
  refine Cd.region ?_
  refine Lst.r (Ev.lss rfl rfl) ?_
  refine Lst.nil ?_
  refine At.then ?_
  refine Cd.seq ?_
  refine Cd.condF rfl hc11 ?_
  refine Cd.exit ?_
  refine At.then_exit ?_
  refine At.then_exit ?_
  refine At.in_exit ?_
  subst H
  replace H := HKl11
  refine At.then ?_
  refine Cd.seq ?_
  refine Cd.region ?_
  refine Lst.r (Ev.move rfl) ?_
  obtain ⟨r31, h32, H⟩ := bind_some H
  refine Lst.call rfl rfl (by decide) (vs := [Sl.v s12]) ⟨rfl, trivial⟩ Try.call67 (slices_Sort_string_string_sim h32 w0 _ M _ (sc2 hM)) (fun F33 L' v hF34 hv => ?_)
  obtain ⟨rfl, rfl⟩ := hv
  refine Lst.nil ?_
  refine At.then ?_
  refine Cd.seq ?_
  refine Cd.region ?_
  refine Lst.r (Ev.move rfl) ?_
  obtain ⟨r35, h36, H⟩ := bind_some H
  refine Lst.call rfl rfl (by decide) (vs := [Sl.v s12]) ⟨rfl, trivial⟩ Try.call68 (slices_Compact_string_string_sim h36 w0 _ M _ (sc2 hM)) (fun F39 L' v hF40 hv => ?_)
  obtain ⟨s37, rfl, rfl⟩ := hv
  refine Lst.r (Ev.assign rfl) ?_
  refine Lst.r (Ev.assign rfl) ?_
  refine Lst.nil ?_
  refine At.then ?_
  obtain rfl := some_inj H
  refine Cd.ret ?_
  exact At.ret2 rfl (Res.tmp rfl) (Res.tmp rfl) (FLe.trans (FLe.trans hF15 hF34) hF40) (sk1 (sc1 (sc1 (.refl _)))) ⟨s37, rfl, rfl⟩
 have hc11 : decide ((i11 : Int) < (a0.Rounds.length : Int)) = true := decide_eq_true (by omega)
 obtain ⟨c11, H, hgo11⟩ := rangeF_go H
 unfold synod_Chosen_B0 at H
 try dsimp only at H
 refine Cd.seq ?_
 refine Cd.region ?_
 refine Lst.r (Ev.lss rfl rfl) ?_
 refine Lst.nil ?_
 refine At.then ?_
 refine Cd.seq ?_
 refine Cd.condT rfl hc11 ?_
 refine Cd.skip ?_
 refine At.then ?_
 refine Cd.seq ?_
 refine Cd.block ?_
 refine Cd.seq ?_
 refine Cd.region ?_
 obtain ⟨x16, h17, H⟩ := bind_some H
 have g18 := lat_some h17
 refine Lst.r (Ev.indexS (α := Round) (xs := a0.Rounds) rfl rfl Try.runUnderlying42 Try.sizeOf91 rfl (by decide) (hs_a0_1.mono hF15 (sc2 (sc1 hM))) g18.1 g18.2.1) ?_
 refine Lst.r (Ev.loadSA (α := Round) rfl (hs_a0_1.mono hF15 (sc2 (sc1 hM))) Try.isAgg91 Try.sizeOf91 (ch := enc x16) (Enc.len _) (by decide) ((Get.elemN (s := 6) (x := x16) rfl g18.2.2 (Get.here _)).off (by omega))) ?_
 refine Lst.alloc (cs := enc Round.zero) rfl rfl (by decide) Try.zeroValue91 rfl (fun b19 => ?_)
 refine Lst.store (i := 0) rfl rfl rfl rfl rfl Try.sizeOf91 (vs := enc x16) rfl (Enc.len _) (Enc.one _) (cs' := enc x16) (Put.here ((Enc.len _).trans (Enc.len _).symm)) (L' := (.blk b19 (enc x16) 91) :: (.own s12 9 1 (encs l13)) :: (.own Sl.nil 9 1 (encs ([] : List Str))) :: (.blk b1 (enc (SynodR.mk a0 s_a0_0 s_a0_1)) 44) :: L) rfl ?_
 refine Lst.nil ?_
 refine At.then ?_
 refine Cd.seq ?_
 refine Cd.region ?_
 refine Lst.r (Ev.fieldAddr (off' := 3) rfl Try.runUnderlying91 rfl Try.sizeOf5 rfl rfl) ?_
 refine Lst.r (Ev.load (i := 0) rfl rfl Try.isAgg5 (v := .int .u8 x16.Voted.toNat) ((Round.get_Voted (Get.here _)).off (by rfl))) ?_
 refine Lst.r (Ev.fieldAddr (off' := 0) rfl Try.runUnderlying44 rfl Try.sizeOf41 rfl rfl) ?_
 refine Lst.r (Ev.load (i := 3) rfl rfl Try.isAgg41 (v := Sl.v s_a0_0) ((SynodR.get_Voters (Get.here _)).off (by rfl))) ?_
 refine Lst.r (Ev.lenS (α := Voter) (xs := a0.Voters) (by decide) rfl rfl Try.runUnderlying41 (hs_a0_0.mono hF15 (sc4 hM))) ?_
 obtain ⟨r21, h22, H⟩ := bind_some H
 refine Lst.call1 rfl rfl (by decide) (vs := [.int .u8 x16.Voted.toNat, iv (a0.Voters.length : Int)]) ⟨rfl, rfl, trivial⟩ Try.call66 (synod_majority_sim h22 w0 _ M _ (sc4 hM)) ?_
 refine Lst.nil ?_
 refine At.then ?_
 rcases (Bool.eq_false_or_eq_true r21).symm with hb25 | hb25
 ·replace H := ite_f hb25 H
  refine Cd.condF rfl hb25 ?_
  refine Cd.skip ?_
  refine At.in_normal ?_
  refine At.then ?_
  refine Cd.region ?_
  refine Lst.r (Ev.incr (by omega) rfl rfl) ?_
  refine Lst.r (Ev.move rfl) ?_
  refine Lst.nil ?_
  refine At.less (L' := (.own s12 9 1 (encs l13)) :: (.own Sl.nil 9 1 (encs ([] : List Str))) :: (.blk b1 (enc (SynodR.mk a0 s_a0_0 s_a0_1)) 44) :: L) (sc1 (sk1 (sk1 (sk1 (.refl _))))) ?_
  exact At.meet (i11 + 1, k11, s12, l13) hF15 ⟨rfl, rfl, rfl, rfl, rfl, trivial⟩ rfl ⟨⟨hgo11 _ (some_inj H).symm, by omega⟩, Nat.lt_succ_self _⟩
 replace H := ite_t hb25 H
 refine Cd.condT rfl hb25 ?_
 refine Cd.region ?_
 refine Lst.r (Ev.move rfl) ?_
 refine Lst.r (Ev.fieldAddr (off' := 5) rfl Try.runUnderlying91 rfl Try.sizeOf9 rfl rfl) ?_
 refine Lst.r (Ev.load (i := 0) rfl rfl Try.isAgg9 (v := Str.v x16.Text) ((Round.get_Text (Get.here _)).off (by rfl))) ?_
 refine Lst.buildSlice (α := Str) (xs := ([x16.Text] : List Str)) (pv := [(0, Str.v x16.Text)]) rfl rfl (by decide) ⟨rfl, rfl, trivial⟩ (run_buildSlice (α := Str) (z0 := ([] : Str)) (xs := ([x16.Text] : List Str)) Try.runUnderlying50 Try.sizeOf9 Try.zeroValue9 rfl rfl rfl (by decide) rfl (fill_cons (cs := encs (List.replicate 1 ([] : Str))) (cs' := encs ((List.replicate 1 ([] : Str)).set 0 x16.Text)) (vs := [Str.v x16.Text]) rfl rfl rfl ((Put.elemN (s := 1) (i := 0) (x := ([] : Str)) (y := x16.Text) rfl rfl (Put.here (vs := [Str.v x16.Text]) rfl)).off rfl) fill_nil)) rfl rfl (by decide) (fun s26 _ => ?_)
 obtain ⟨u28, h29, H⟩ := bind_some H
 refine Lst.append (i := 2) (α := Str) (xs := l13) (ys := ([x16.Text] : List Str)) rfl rfl (by decide) rfl rfl Try.runUnderlying50 Try.typeInfo9 rfl rfl rfl rfl rfl rfl (Rd.own (i := 0) rfl rfl rfl) rfl (room_some h29) rfl (fun s30 => ?_)
 refine Lst.its (L' := (.own s26 9 1 (encs ([x16.Text] : List Str))) :: (.blk b19 (enc x16) 91) :: (.own s30 9 1 (encs (l13 ++ ([x16.Text] : List Str)))) :: (.own Sl.nil 9 1 (encs ([] : List Str))) :: (.blk b1 (enc (SynodR.mk a0 s_a0_0 s_a0_1)) 44) :: L) rfl ?_
 refine Lst.r (Ev.assign rfl) ?_
 refine Lst.nil ?_
 refine At.in_normal ?_
 refine At.then ?_
 refine Cd.as (e' := [(1, pv b1 0), (14, Sl.v s_a0_1), (15, iv (a0.Rounds.length : Int)), (16, iv (i11 : Int)), (5, Sl.v s30)]) (L' := (.own s26 9 1 (encs ([x16.Text] : List Str))) :: (.blk b19 (enc x16) 91) :: (.own s30 9 1 (encs (l13 ++ ([x16.Text] : List Str)))) :: (.own Sl.nil 9 1 (encs ([] : List Str))) :: (.blk b1 (enc (SynodR.mk a0 s_a0_0 s_a0_1)) 44) :: L) ⟨rfl, rfl, rfl, rfl, rfl, trivial⟩ rfl ?_
 refine Cd.region ?_
 refine Lst.r (Ev.incr (by omega) rfl rfl) ?_
 refine Lst.r (Ev.move rfl) ?_
 refine Lst.nil ?_
 refine At.less (L' := (.own s30 9 1 (encs (l13 ++ ([x16.Text] : List Str)))) :: (.own Sl.nil 9 1 (encs ([] : List Str))) :: (.blk b1 (enc (SynodR.mk a0 s_a0_0 s_a0_1)) 44) :: L) (sc1 (sc1 (sk1 (sk1 (sk1 (.refl _)))))) ?_
 exact At.meet (i11 + 1, k11, s30, l13 ++ ([x16.Text] : List Str)) hF15 ⟨rfl, rfl, rfl, rfl, rfl, trivial⟩ rfl ⟨⟨hgo11 _ (some_inj H).symm, by omega⟩, Nat.lt_succ_self _⟩
set_option maxRecDepth 20000 in
theorem slices_Equal_api_Voter_api_Voter_sim {a0 : List Voter} {a1 : List Voter} {s_a0 : Sl} {s_a1 : Sl} {r : Bool} (H : slices_Equal_api_Voter_api_Voter a0 a1 = some r) (w0 : World) (F : Frz) (M L : List Item) (hM : M.Sublist L) (hs_a0 : Rd w0 F M s_a0 a0) (hs_a1 : Rd w0 F M s_a1 a1) : Ok Try.prog w0 71 [Sl.v s_a0, Sl.v s_a1] F (L) (Is (.bool r) (L)) := by
 unfold slices_Equal_api_Voter_api_Voter at H
 refine Ok.enter (m := 2) (n := 26) Try.func71 rfl rfl rfl (by decide) ?_
 refine Cd.env (e' := [(0, Sl.v s_a0), (1, Sl.v s_a1)]) rfl ?_
 refine Cd.seq ?_
 refine Cd.region ?_
 refine Lst.r (Ev.assign rfl) ?_
 refine Lst.nil ?_
 refine At.then ?_
 refine Cd.seq ?_
 refine Cd.seq ?_
 refine Cd.region ?_
 refine Lst.r (Ev.move rfl) ?_
 refine Lst.r (Ev.lenS (α := Voter) (xs := a0) (by decide) rfl rfl Try.runUnderlying41 (hs_a0.mono (FLe.refl _) hM)) ?_
 refine Lst.r (Ev.move rfl) ?_
 refine Lst.r (Ev.lenS (α := Voter) (xs := a1) (by decide) rfl rfl Try.runUnderlying41 (hs_a1.mono (FLe.refl _) hM)) ?_
 refine Lst.r (Ev.neq rfl rfl) ?_
 refine Lst.nil ?_
 refine At.then ?_
 rcases Bool.eq_false_or_eq_true ((a0.length : Int) != (a1.length : Int)) with hb1 | hb1
 ·replace H := ite_t hb1 H
  refine Cd.condT rfl hb1 ?_
  refine Cd.seq ?_
  refine Cd.region ?_
  refine Lst.r (Ev.assign rfl) ?_
  refine Lst.nil ?_
  refine At.then ?_
  obtain rfl := some_inj H
  refine Cd.ret ?_
  refine At.then_ret ?_
  exact At.ret1 rfl (Res.tmp rfl) (FLe.refl _) (.refl _) ⟨rfl, rfl⟩
 replace H := ite_f hb1 H
 refine Cd.condF rfl hb1 ?_
 refine Cd.skip ?_
 refine At.then ?_
 refine Cd.seq ?_
 refine Cd.seq ?_
 refine Cd.region ?_
 refine Lst.r (Ev.move rfl) ?_
 refine Lst.r (Ev.lenS (α := Voter) (xs := a0) (by decide) rfl rfl Try.runUnderlying41 (hs_a0.mono (FLe.refl _) hM)) ?_
 refine Lst.r (Ev.move rfl) ?_
 refine Lst.nil ?_
 refine At.then ?_
 refine Cd.block ?_
 refine Cd.bound (Rd.le (α := Voter) (xs := a0) (by decide) (hs_a0.mono (FLe.refl _) hM)) (fun hN12 => ?_)
 obtain ⟨ol2, H, HKl2⟩ := andThen_some H
 refine Cd.loop (σ := Nat × Nat × Unit) (fun (i2, k2, _u) => [(0, Sl.v s_a0), (1, Sl.v s_a1), (12, iv (a0.length : Int)), (13, iv (i2 : Int))]) (fun (i2, k2, _u) => L) (fun _ => (fun (i2, k2, _u) => rangeM (slices_Equal_api_Voter_api_Voter_B0 a0 a1) k2 i2 () = some ol2 ∧ i2 + k2 = a0.length)) (fun (i2, k2, _u) => k2) (0, a0.length, ()) ⟨rfl, rfl, rfl, rfl, trivial⟩ rfl ⟨H, by omega⟩ ?_
 rintro F3 ⟨i2, k2, _u⟩ hF4 ⟨H, hik2⟩
 refine Cd.as (e' := [(0, Sl.v s_a0), (1, Sl.v s_a1), (12, iv (a0.length : Int)), (13, iv (i2 : Int))]) (L' := L) ⟨rfl, rfl, rfl, rfl, trivial⟩ rfl ?_
 rcases k2 with _ | k2
 ·have hc2 : decide ((i2 : Int) < (a0.length : Int)) = false := decide_eq_false (by omega)
  replace H := rangeM_end H
  refine Cd.seq ?_
  refine Cd.region ?_
  refine Lst.r (Ev.lss rfl rfl) ?_
  refine Lst.nil ?_
  refine At.then ?_
  refine Cd.seq ?_
  refine Cd.condF rfl hc2 ?_
  refine Cd.exit ?_
  refine At.then_exit ?_
  refine At.then_exit ?_
  refine At.in_exit ?_
  subst H
  replace H := HKl2
  refine At.then ?_
  refine Cd.seq ?_
  refine Cd.region ?_
  refine Lst.r (Ev.assign rfl) ?_
  refine Lst.nil ?_
  refine At.then ?_
  obtain rfl := some_inj H
  refine Cd.ret ?_
  exact At.ret1 rfl (Res.tmp rfl) hF4 (.refl _) ⟨rfl, rfl⟩
 have hc2 : decide ((i2 : Int) < (a0.length : Int)) = true := decide_eq_true (by omega)
 obtain ⟨c2, H, hgo2, hbrk2, hret2⟩ := rangeM_go H
 unfold slices_Equal_api_Voter_api_Voter_B0 at H
 try dsimp only at H
 refine Cd.seq ?_
 refine Cd.region ?_
 refine Lst.r (Ev.lss rfl rfl) ?_
 refine Lst.nil ?_
 refine At.then ?_
 refine Cd.seq ?_
 refine Cd.condT rfl hc2 ?_
 refine Cd.skip ?_
 refine At.then ?_
 refine Cd.seq ?_
 refine Cd.block ?_
 refine Cd.seq ?_
 refine Cd.region ?_
 refine Lst.r (Ev.move rfl) ?_
 refine Lst.r (Ev.assign rfl) ?_
 refine Lst.nil ?_
 refine At.then ?_
 refine Cd.seq ?_
 refine Cd.quiet (by kernel_rfl) (by kernel_rfl) ?_
 refine Qt.r (Ev.move rfl) ?_
 refine Qt.r (Ev.move rfl) ?_
 obtain ⟨x5, h6, H⟩ := bind_some H
 have g7 := lat_some h6
 refine Qt.r (Ev.indexS (α := Voter) (xs := a0) rfl rfl Try.runUnderlying41 Try.sizeOf93 rfl (by decide) (hs_a0.mono hF4 hM) g7.1 g7.2.1) ?_
 refine Qt.r (Ev.loadSA (α := Voter) rfl (hs_a0.mono hF4 hM) Try.isAgg93 Try.sizeOf93 (ch := enc x5) (Enc.len _) (by decide) ((Get.elemN (s := 3) (x := x5) rfl g7.2.2 (Get.here _)).off (by omega))) ?_
 refine Qt.r (Ev.move rfl) ?_
 refine Qt.r (Ev.move rfl) ?_
 obtain ⟨x8, h9, H⟩ := bind_some H
 have g10 := lat_some h9
 refine Qt.r (Ev.indexS (α := Voter) (xs := a1) rfl rfl Try.runUnderlying41 Try.sizeOf93 rfl (by decide) (hs_a1.mono hF4 hM) g10.1 g10.2.1) ?_
 refine Qt.r (Ev.loadSA (α := Voter) rfl (hs_a1.mono hF4 hM) Try.isAgg93 Try.sizeOf93 (ch := enc x8) (Enc.len _) (by decide) ((Get.elemN (s := 3) (x := x8) rfl g10.2.2 (Get.here _)).off (by omega))) ?_
 refine Qt.r (Ev.neqA rfl rfl (by kernel_rfl) (eq93 _ _)) ?_
 refine Qt.done ?_
 refine At.then ?_
 rcases Bool.eq_false_or_eq_true (!(decide (x5 = x8))) with hb11 | hb11
 ·replace H := ite_t hb11 H
  refine Cd.condT rfl hb11 ?_
  refine Cd.seq ?_
  refine Cd.as (e' := []) (L' := L) trivial rfl ?_
  refine Cd.region ?_
  refine Lst.r (Ev.assign rfl) ?_
  refine Lst.nil ?_
  refine At.then ?_
  have H := hret2 _ (some_inj H).symm
  subst H
  replace H := HKl2
  obtain rfl := some_inj H
  refine Cd.ret ?_
  refine At.in_ret ?_
  refine At.then_ret ?_
  refine At.then_ret ?_
  refine At.in_ret ?_
  refine At.then_ret ?_
  exact At.ret1 rfl (Res.tmp rfl) hF4 (.refl _) ⟨rfl, rfl⟩
 replace H := ite_f hb11 H
 refine Cd.condF rfl hb11 ?_
 refine Cd.skip ?_
 refine At.in_normal ?_
 refine At.then ?_
 refine Cd.region ?_
 refine Lst.r (Ev.incr (by omega) rfl rfl) ?_
 refine Lst.r (Ev.move rfl) ?_
 refine Lst.nil ?_
 exact At.meet (i2 + 1, k2, ()) hF4 ⟨rfl, rfl, rfl, rfl, trivial⟩ rfl ⟨⟨hgo2 _ (some_inj H).symm, by omega⟩, Nat.lt_succ_self _⟩
set_option maxRecDepth 20000 in
theorem slices_Equal_api_Round_api_Round_sim {a0 : List Round} {a1 : List Round} {s_a0 : Sl} {s_a1 : Sl} {r : Bool} (H : slices_Equal_api_Round_api_Round a0 a1 = some r) (w0 : World) (F : Frz) (M L : List Item) (hM : M.Sublist L) (hs_a0 : Rd w0 F M s_a0 a0) (hs_a1 : Rd w0 F M s_a1 a1) : Ok Try.prog w0 72 [Sl.v s_a0, Sl.v s_a1] F (L) (Is (.bool r) (L)) := by
 unfold slices_Equal_api_Round_api_Round at H
 refine Ok.enter (m := 2) (n := 26) Try.func72 rfl rfl rfl (by decide) ?_
 refine Cd.env (e' := [(0, Sl.v s_a0), (1, Sl.v s_a1)]) rfl ?_
 refine Cd.seq ?_
 refine Cd.region ?_
 refine Lst.r (Ev.assign rfl) ?_
 refine Lst.nil ?_
 refine At.then ?_
 refine Cd.seq ?_
 refine Cd.seq ?_
 refine Cd.region ?_
 refine Lst.r (Ev.move rfl) ?_
 refine Lst.r (Ev.lenS (α := Round) (xs := a0) (by decide) rfl rfl Try.runUnderlying42 (hs_a0.mono (FLe.refl _) hM)) ?_
 refine Lst.r (Ev.move rfl) ?_
 refine Lst.r (Ev.lenS (α := Round) (xs := a1) (by decide) rfl rfl Try.runUnderlying42 (hs_a1.mono (FLe.refl _) hM)) ?_
 refine Lst.r (Ev.neq rfl rfl) ?_
 refine Lst.nil ?_
 refine At.then ?_
 rcases Bool.eq_false_or_eq_true ((a0.length : Int) != (a1.length : Int)) with hb1 | hb1
 ·replace H := ite_t hb1 H
  refine Cd.condT rfl hb1 ?_
  refine Cd.seq ?_
  refine Cd.region ?_
  refine Lst.r (Ev.assign rfl) ?_
  refine Lst.nil ?_
  refine At.then ?_
  obtain rfl := some_inj H
  refine Cd.ret ?_
  refine At.then_ret ?_
  exact At.ret1 rfl (Res.tmp rfl) (FLe.refl _) (.refl _) ⟨rfl, rfl⟩
 replace H := ite_f hb1 H
 refine Cd.condF rfl hb1 ?_
 refine Cd.skip ?_
 refine At.then ?_
 refine Cd.seq ?_
 refine Cd.seq ?_
 refine Cd.region ?_
 refine Lst.r (Ev.move rfl) ?_
 refine Lst.r (Ev.lenS (α := Round) (xs := a0) (by decide) rfl rfl Try.runUnderlying42 (hs_a0.mono (FLe.refl _) hM)) ?_
 refine Lst.r (Ev.move rfl) ?_
 refine Lst.nil ?_
 refine At.then ?_
 refine Cd.block ?_
 refine Cd.bound (Rd.le (α := Round) (xs := a0) (by decide) (hs_a0.mono (FLe.refl _) hM)) (fun hN12 => ?_)
 obtain ⟨ol2, H, HKl2⟩ := andThen_some H
 refine Cd.loop (σ := Nat × Nat × Unit) (fun (i2, k2, _u) => [(0, Sl.v s_a0), (1, Sl.v s_a1), (12, iv (a0.length : Int)), (13, iv (i2 : Int))]) (fun (i2, k2, _u) => L) (fun _ => (fun (i2, k2, _u) => rangeM (slices_Equal_api_Round_api_Round_B0 a0 a1) k2 i2 () = some ol2 ∧ i2 + k2 = a0.length)) (fun (i2, k2, _u) => k2) (0, a0.length, ()) ⟨rfl, rfl, rfl, rfl, trivial⟩ rfl ⟨H, by omega⟩ ?_
 rintro F3 ⟨i2, k2, _u⟩ hF4 ⟨H, hik2⟩
 refine Cd.as (e' := [(0, Sl.v s_a0), (1, Sl.v s_a1), (12, iv (a0.length : Int)), (13, iv (i2 : Int))]) (L' := L) ⟨rfl, rfl, rfl, rfl, trivial⟩ rfl ?_
 rcases k2 with _ | k2
 ·have hc2 : decide ((i2 : Int) < (a0.length : Int)) = false := decide_eq_false (by omega)
  replace H := rangeM_end H
  refine Cd.seq ?_
  refine Cd.region ?_
  refine Lst.r (Ev.lss rfl rfl) ?_
  refine Lst.nil ?_
  refine At.then ?_
  refine Cd.seq ?_
  refine Cd.condF rfl hc2 ?_
  refine Cd.exit ?_
  refine At.then_exit ?_
  refine At.then_exit ?_
  refine At.in_exit ?_
  subst H
  replace H := HKl2
  refine At.then ?_
  refine Cd.seq ?_
  refine Cd.region ?_
  refine Lst.r (Ev.assign rfl) ?_
  refine Lst.nil ?_
  refine At.then ?_
  obtain rfl := some_inj H
  refine Cd.ret ?_
  exact At.ret1 rfl (Res.tmp rfl) hF4 (.refl _) ⟨rfl, rfl⟩
 have hc2 : decide ((i2 : Int) < (a0.length : Int)) = true := decide_eq_true (by omega)
 obtain ⟨c2, H, hgo2, hbrk2, hret2⟩ := rangeM_go H
 unfold slices_Equal_api_Round_api_Round_B0 at H
 try dsimp only at H
 refine Cd.seq ?_
 refine Cd.region ?_
 refine Lst.r (Ev.lss rfl rfl) ?_
 refine Lst.nil ?_
 refine At.then ?_
 refine Cd.seq ?_
 refine Cd.condT rfl hc2 ?_
 refine Cd.skip ?_
 refine At.then ?_
 refine Cd.seq ?_
 refine Cd.block ?_
 refine Cd.seq ?_
 refine Cd.region ?_
 refine Lst.r (Ev.move rfl) ?_
 refine Lst.r (Ev.assign rfl) ?_
 refine Lst.nil ?_
 refine At.then ?_
 refine Cd.seq ?_
 refine Cd.quiet (by kernel_rfl) (by kernel_rfl) ?_
 refine Qt.r (Ev.move rfl) ?_
 refine Qt.r (Ev.move rfl) ?_
 obtain ⟨x5, h6, H⟩ := bind_some H
 have g7 := lat_some h6
 refine Qt.r (Ev.indexS (α := Round) (xs := a0) rfl rfl Try.runUnderlying42 Try.sizeOf91 rfl (by decide) (hs_a0.mono hF4 hM) g7.1 g7.2.1) ?_
 refine Qt.r (Ev.loadSA (α := Round) rfl (hs_a0.mono hF4 hM) Try.isAgg91 Try.sizeOf91 (ch := enc x5) (Enc.len _) (by decide) ((Get.elemN (s := 6) (x := x5) rfl g7.2.2 (Get.here _)).off (by omega))) ?_
 refine Qt.r (Ev.move rfl) ?_
 refine Qt.r (Ev.move rfl) ?_
 obtain ⟨x8, h9, H⟩ := bind_some H
 have g10 := lat_some h9
 refine Qt.r (Ev.indexS (α := Round) (xs := a1) rfl rfl Try.runUnderlying42 Try.sizeOf91 rfl (by decide) (hs_a1.mono hF4 hM) g10.1 g10.2.1) ?_
 refine Qt.r (Ev.loadSA (α := Round) rfl (hs_a1.mono hF4 hM) Try.isAgg91 Try.sizeOf91 (ch := enc x8) (Enc.len _) (by decide) ((Get.elemN (s := 6) (x := x8) rfl g10.2.2 (Get.here _)).off (by omega))) ?_
 refine Qt.r (Ev.neqA rfl rfl (by kernel_rfl) (eq91 _ _)) ?_
 refine Qt.done ?_
 refine At.then ?_
 rcases Bool.eq_false_or_eq_true (!(decide (x5 = x8))) with hb11 | hb11
 ·replace H := ite_t hb11 H
  refine Cd.condT rfl hb11 ?_
  refine Cd.seq ?_
  refine Cd.as (e' := []) (L' := L) trivial rfl ?_
  refine Cd.region ?_
  refine Lst.r (Ev.assign rfl) ?_
  refine Lst.nil ?_
  refine At.then ?_
  have H := hret2 _ (some_inj H).symm
  subst H
  replace H := HKl2
  obtain rfl := some_inj H
  refine Cd.ret ?_
  refine At.in_ret ?_
  refine At.then_ret ?_
  refine At.then_ret ?_
  refine At.in_ret ?_
  refine At.then_ret ?_
  exact At.ret1 rfl (Res.tmp rfl) hF4 (.refl _) ⟨rfl, rfl⟩
 replace H := ite_f hb11 H
 refine Cd.condF rfl hb11 ?_
 refine Cd.skip ?_
 refine At.in_normal ?_
 refine At.then ?_
 refine Cd.region ?_
 refine Lst.r (Ev.incr (by omega) rfl rfl) ?_
 refine Lst.r (Ev.move rfl) ?_
 refine Lst.nil ?_
 exact At.meet (i2 + 1, k2, ()) hF4 ⟨rfl, rfl, rfl, rfl, trivial⟩ rfl ⟨⟨hgo2 _ (some_inj H).symm, by omega⟩, Nat.lt_succ_self _⟩
set_option maxRecDepth 20000 in
theorem partref_SameSynod_sim {a0 : Synod} {a1 : Synod} {s_a0_0 : Sl} {s_a0_1 : Sl} {s_a1_0 : Sl} {s_a1_1 : Sl} {r : Bool} (H : partref_SameSynod a0 a1 = some r) (w0 : World) (F : Frz) (M L : List Item) (hM : M.Sublist L) (hs_a0_0 : Rd w0 F M s_a0_0 a0.Voters) (hs_a0_1 : Rd w0 F M s_a0_1 a0.Rounds) (hs_a1_0 : Rd w0 F M s_a1_0 a1.Voters) (hs_a1_1 : Rd w0 F M s_a1_1 a1.Rounds) : Ok Try.prog w0 26 [.agg (enc (SynodR.mk a0 s_a0_0 s_a0_1)).toArray, .agg (enc (SynodR.mk a1 s_a1_0 s_a1_1)).toArray] F (L) (Is (.bool r) (L)) := by
 unfold partref_SameSynod at H
 refine Ok.enter (m := 2) (n := 17) Try.func26 rfl rfl rfl (by decide) ?_
 refine Cd.env (e' := [(0, .agg (enc (SynodR.mk a0 s_a0_0 s_a0_1)).toArray), (1, .agg (enc (SynodR.mk a1 s_a1_0 s_a1_1)).toArray)]) rfl ?_
 refine Cd.seq ?_
 refine Cd.region ?_
 refine Lst.box rfl rfl (by decide) rfl (cs := enc (SynodR.mk a0 s_a0_0 s_a0_1)) rfl (fun b1 => ?_)
 refine Lst.box rfl rfl (by decide) rfl (cs := enc (SynodR.mk a1 s_a1_0 s_a1_1)) rfl (fun b3 => ?_)
 refine Lst.r (Ev.assign rfl) ?_
 refine Lst.nil ?_
 refine At.then ?_
 refine Cd.seq ?_
 refine Cd.region ?_
 refine Lst.r (Ev.fieldAddr (off' := 0) rfl Try.runUnderlying44 rfl Try.sizeOf41 rfl rfl) ?_
 refine Lst.r (Ev.load (i := 1) rfl rfl Try.isAgg41 (v := Sl.v s_a0_0) ((SynodR.get_Voters (Get.here _)).off (by rfl))) ?_
 refine Lst.r (Ev.fieldAddr (off' := 0) rfl Try.runUnderlying44 rfl Try.sizeOf41 rfl rfl) ?_
 refine Lst.r (Ev.load (i := 0) rfl rfl Try.isAgg41 (v := Sl.v s_a1_0) ((SynodR.get_Voters (Get.here _)).off (by rfl))) ?_
 obtain ⟨r5, h6, H⟩ := bind_some H
 refine Lst.call1 rfl rfl (by decide) (vs := [Sl.v s_a0_0, Sl.v s_a1_0]) ⟨rfl, rfl, trivial⟩ Try.call71 (slices_Equal_api_Voter_api_Voter_sim h6 w0 _ M _ (sc2 hM) (hs_a0_0.mono (FLe.refl _) (.refl _)) (hs_a1_0.mono (FLe.refl _) (.refl _))) ?_
 refine Lst.r (Ev.move rfl) ?_
 obtain ⟨o9, H, HKo9⟩ := bind_some H
 refine Lst.join (σ := Bool) 6 (fun y10 => [(16, .bool y10)]) (fun y10 => (.blk b3 (enc (SynodR.mk a1 s_a1_0 s_a1_1)) 44) :: (.blk b1 (enc (SynodR.mk a0 s_a0_0 s_a0_1)) 44) :: L) (fun _ y10 => y10 = o9) ?_ ?_
 ·rcases (Bool.eq_false_or_eq_true r5).symm with hb11 | hb11
  ·replace H := ite_f hb11 H
   refine Lst.skip rfl rfl rfl hb11 rfl (by decide) ?_
   refine Lst.skip rfl rfl rfl hb11 rfl (by decide) ?_
   refine Lst.skip rfl rfl rfl hb11 rfl (by decide) ?_
   refine Lst.skip rfl rfl rfl hb11 rfl (by decide) ?_
   refine Lst.skip rfl rfl rfl hb11 rfl (by decide) ?_
   refine Lst.r (Ev.pickF rfl hb11 rfl) ?_
   refine Lst.nil ?_
   exact At.meet false (FLe.refl _) ⟨rfl, trivial⟩ rfl (some_inj H)
  replace H := ite_t hb11 H
  refine Lst.rG hb11 (Ev.fieldAddr (off' := 1) rfl Try.runUnderlying44 rfl Try.sizeOf42 rfl rfl) ?_
  refine Lst.rG hb11 (Ev.load (i := 1) rfl rfl Try.isAgg42 (v := Sl.v s_a0_1) ((SynodR.get_Rounds (Get.here _)).off (by rfl))) ?_
  refine Lst.rG hb11 (Ev.fieldAddr (off' := 1) rfl Try.runUnderlying44 rfl Try.sizeOf42 rfl rfl) ?_
  refine Lst.rG hb11 (Ev.load (i := 0) rfl rfl Try.isAgg42 (v := Sl.v s_a1_1) ((SynodR.get_Rounds (Get.here _)).off (by rfl))) ?_
  obtain ⟨r12, h13, H⟩ := bind_some H
  refine Lst.call1G rfl rfl rfl hb11 rfl (by decide) (vs := [Sl.v s_a0_1, Sl.v s_a1_1]) ⟨rfl, rfl, trivial⟩ Try.call72 (slices_Equal_api_Round_api_Round_sim h13 w0 _ M _ (sc2 hM) (hs_a0_1.mono (FLe.refl _) (.refl _)) (hs_a1_1.mono (FLe.refl _) (.refl _))) ?_
  refine Lst.r (Ev.pickT rfl hb11 rfl) ?_
  refine Lst.nil ?_
  exact At.meet r12 (FLe.refl _) ⟨rfl, trivial⟩ rfl (some_inj H)
 rintro F16 y10 hF17 hy
 subst hy
 refine Lst.as (e' := [(16, .bool y10)]) (L' := (.blk b3 (enc (SynodR.mk a1 s_a1_0 s_a1_1)) 44) :: (.blk b1 (enc (SynodR.mk a0 s_a0_0 s_a0_1)) 44) :: L) ⟨rfl, trivial⟩ rfl ?_
 replace H := HKo9
 refine Lst.r (Ev.assign rfl) ?_
 refine Lst.nil ?_
 refine At.then ?_
 obtain rfl := some_inj H
 refine Cd.ret ?_
 exact At.ret1 rfl (Res.tmp rfl) hF17 (sc1 (sc1 (.refl _))) ⟨rfl, rfl⟩
set_option maxRecDepth 20000 in
theorem slices_Index_string_string_sim {a0 : List Str} {a1 : Str} {s_a0 : Sl} {r : Int} (H : slices_Index_string_string a0 a1 = some r) (w0 : World) (F : Frz) (M L : List Item) (hM : M.Sublist L) (hs_a0 : Rd w0 F M s_a0 a0) : Ok Try.prog w0 109 [Sl.v s_a0, Str.v a1] F (L) (Is (iv r) (L)) := by
 unfold slices_Index_string_string at H
 refine Ok.enter (m := 2) (n := 19) Try.func109 rfl rfl rfl (by decide) ?_
 refine Cd.env (e' := [(0, Sl.v s_a0), (1, Str.v a1)]) rfl ?_
 refine Cd.seq ?_
 refine Cd.region ?_
 refine Lst.r (Ev.assign rfl) ?_
 refine Lst.nil ?_
 refine At.then ?_
 refine Cd.seq ?_
 refine Cd.seq ?_
 refine Cd.region ?_
 refine Lst.r (Ev.move rfl) ?_
 refine Lst.r (Ev.lenS (α := Str) (xs := a0) (by decide) rfl rfl Try.runUnderlying50 (hs_a0.mono (FLe.refl _) hM)) ?_
 refine Lst.r (Ev.move rfl) ?_
 refine Lst.nil ?_
 refine At.then ?_
 refine Cd.block ?_
 refine Cd.bound (Rd.le (α := Str) (xs := a0) (by decide) (hs_a0.mono (FLe.refl _) hM)) (fun hN8 => ?_)
 obtain ⟨ol1, H, HKl1⟩ := andThen_some H
 refine Cd.loop (σ := Nat × Nat × Unit) (fun (i1, k1, _u) => [(0, Sl.v s_a0), (1, Str.v a1), (7, iv (a0.length : Int)), (8, iv (i1 : Int))]) (fun (i1, k1, _u) => L) (fun _ => (fun (i1, k1, _u) => rangeM (slices_Index_string_string_B0 a0 a1) k1 i1 () = some ol1 ∧ i1 + k1 = a0.length)) (fun (i1, k1, _u) => k1) (0, a0.length, ()) ⟨rfl, rfl, rfl, rfl, trivial⟩ rfl ⟨H, by omega⟩ ?_
 rintro F2 ⟨i1, k1, _u⟩ hF3 ⟨H, hik1⟩
 refine Cd.as (e' := [(0, Sl.v s_a0), (1, Str.v a1), (7, iv (a0.length : Int)), (8, iv (i1 : Int))]) (L' := L) ⟨rfl, rfl, rfl, rfl, trivial⟩ rfl ?_
 rcases k1 with _ | k1
 ·have hc1 : decide ((i1 : Int) < (a0.length : Int)) = false := decide_eq_false (by omega)
  replace H := rangeM_end H
  refine Cd.seq ?_
  refine Cd.region ?_
  refine Lst.r (Ev.lss rfl rfl) ?_
  refine Lst.nil ?_
  refine At.then ?_
  refine Cd.seq ?_
  refine Cd.condF rfl hc1 ?_
  refine Cd.exit ?_
  refine At.then_exit ?_
  refine At.then_exit ?_
  refine At.in_exit ?_
  subst H
  replace H := HKl1
  refine At.then ?_
  refine Cd.seq ?_
  refine Cd.region ?_
  refine Lst.r (Ev.assign rfl) ?_
  refine Lst.nil ?_
  refine At.then ?_
  obtain rfl := some_inj H
  refine Cd.ret ?_
  exact At.ret1 rfl (Res.tmp rfl) hF3 (.refl _) ⟨rfl, rfl⟩
 have hc1 : decide ((i1 : Int) < (a0.length : Int)) = true := decide_eq_true (by omega)
 obtain ⟨c1, H, hgo1, hbrk1, hret1⟩ := rangeM_go H
 unfold slices_Index_string_string_B0 at H
 try dsimp only at H
 refine Cd.seq ?_
 refine Cd.region ?_
 refine Lst.r (Ev.lss rfl rfl) ?_
 refine Lst.nil ?_
 refine At.then ?_
 refine Cd.seq ?_
 refine Cd.condT rfl hc1 ?_
 refine Cd.skip ?_
 refine At.then ?_
 refine Cd.seq ?_
 refine Cd.block ?_
 refine Cd.seq ?_
 refine Cd.region ?_
 refine Lst.r (Ev.move rfl) ?_
 refine Lst.r (Ev.assign rfl) ?_
 refine Lst.nil ?_
 refine At.then ?_
 refine Cd.seq ?_
 refine Cd.region ?_
 refine Lst.r (Ev.move rfl) ?_
 refine Lst.r (Ev.move rfl) ?_
 refine Lst.r (Ev.move rfl) ?_
 obtain ⟨x4, h5, H⟩ := bind_some H
 have g6 := lat_some h5
 refine Lst.r (Ev.indexS (α := Str) (xs := a0) rfl rfl Try.runUnderlying50 Try.sizeOf9 rfl (by decide) (hs_a0.mono hF3 hM) g6.1 g6.2.1) ?_
 refine Lst.r (Ev.loadS (α := Str) rfl (hs_a0.mono hF3 hM) Try.isAgg9 (v := Str.v x4) ((Get.elemN (s := 1) (x := x4) rfl g6.2.2 (Get.here _)).off (by omega))) ?_
 refine Lst.r (Ev.eqlStr (s := a1) (m := x4) rfl rfl) ?_
 refine Lst.nil ?_
 refine At.then ?_
 rcases Bool.eq_false_or_eq_true (decide (a1 = x4)) with hb7 | hb7
 ·replace H := ite_t hb7 H
  refine Cd.condT rfl hb7 ?_
  refine Cd.seq ?_
  refine Cd.region ?_
  refine Lst.r (Ev.move rfl) ?_
  refine Lst.r (Ev.assign rfl) ?_
  refine Lst.nil ?_
  refine At.then ?_
  have H := hret1 _ (some_inj H).symm
  subst H
  replace H := HKl1
  obtain rfl := some_inj H
  refine Cd.ret ?_
  refine At.in_ret ?_
  refine At.then_ret ?_
  refine At.then_ret ?_
  refine At.in_ret ?_
  refine At.then_ret ?_
  exact At.ret1 rfl (Res.tmp rfl) hF3 (.refl _) ⟨rfl, rfl⟩
 replace H := ite_f hb7 H
 refine Cd.condF rfl hb7 ?_
 refine Cd.skip ?_
 refine At.in_normal ?_
 refine At.then ?_
 refine Cd.region ?_
 refine Lst.r (Ev.incr (by omega) rfl rfl) ?_
 refine Lst.r (Ev.move rfl) ?_
 refine Lst.nil ?_
 exact At.meet (i1 + 1, k1, ()) hF3 ⟨rfl, rfl, rfl, rfl, trivial⟩ rfl ⟨⟨hgo1 _ (some_inj H).symm, by omega⟩, Nat.lt_succ_self _⟩
set_option maxRecDepth 20000 in
theorem slices_Contains_string_string_sim {a0 : List Str} {a1 : Str} {s_a0 : Sl} {r : Bool} (H : slices_Contains_string_string a0 a1 = some r) (w0 : World) (F : Frz) (M L : List Item) (hM : M.Sublist L) (hs_a0 : Rd w0 F M s_a0 a0) : Ok Try.prog w0 73 [Sl.v s_a0, Str.v a1] F (L) (Is (.bool r) (L)) := by
 unfold slices_Contains_string_string at H
 refine Ok.enter (m := 2) (n := 9) Try.func73 rfl rfl rfl (by decide) ?_
 refine Cd.env (e' := [(0, Sl.v s_a0), (1, Str.v a1)]) rfl ?_
 refine Cd.seq ?_
 refine Cd.region ?_
 refine Lst.r (Ev.assign rfl) ?_
 refine Lst.nil ?_
 refine At.then ?_
 refine Cd.seq ?_
 refine Cd.region ?_
 refine Lst.r (Ev.move rfl) ?_
 refine Lst.r (Ev.move rfl) ?_
 obtain ⟨r1, h2, H⟩ := bind_some H
 refine Lst.call1 rfl rfl (by decide) (vs := [Sl.v s_a0, Str.v a1]) ⟨rfl, rfl, trivial⟩ Try.call109 (slices_Index_string_string_sim h2 w0 _ M _ hM (hs_a0.mono (FLe.refl _) (.refl _))) ?_
 refine Lst.r (Ev.geq rfl rfl) ?_
 refine Lst.r (Ev.assign rfl) ?_
 refine Lst.nil ?_
 refine At.then ?_
 obtain rfl := some_inj H
 refine Cd.ret ?_
 exact At.ret1 rfl (Res.tmp rfl) (FLe.refl _) (.refl _) ⟨rfl, rfl⟩
set_option maxRecDepth 20000 in
theorem partref_Chosen_sim {fu : Nat} {a0 : Synod} {s_a0_0 : Sl} {s_a0_1 : Sl} {r : (List Str)} (H : partref_Chosen fu a0 = some r) (w0 : World) (F : Frz) (M L : List Item) (hM : M.Sublist L) (hs_a0_0 : Rd w0 F M s_a0_0 a0.Voters) (hs_a0_1 : Rd w0 F M s_a0_1 a0.Rounds) : Ok Try.prog w0 28 [.agg (enc (SynodR.mk a0 s_a0_0 s_a0_1)).toArray] F (L) (fun _ L' v => ∃ (s1 : Sl), v = Sl.v s1 ∧ L' = (.own s1 9 1 (encs r)) :: L) := by
 unfold partref_Chosen at H
 refine Ok.enter (m := 1) (n := 38) Try.func28 rfl rfl rfl (by decide) ?_
 refine Cd.env (e' := [(0, .agg (enc (SynodR.mk a0 s_a0_0 s_a0_1)).toArray)]) rfl ?_
 refine Cd.seq ?_
 refine Cd.region ?_
 refine Lst.box rfl rfl (by decide) rfl (cs := enc (SynodR.mk a0 s_a0_0 s_a0_1)) rfl (fun b1 => ?_)
 refine Lst.addNil 9 1 ?_
 refine Lst.r (Ev.assign rfl) ?_
 refine Lst.nil ?_
 refine At.then ?_
 refine Cd.seq ?_
 refine Cd.region ?_
 refine Lst.addNil 9 1 ?_
 refine Lst.r (Ev.assign rfl) ?_
 refine Lst.nil ?_
 refine At.then ?_
 refine Cd.seq ?_
 refine Cd.seq ?_
 refine Cd.region ?_
 refine Lst.r (Ev.fieldAddr (off' := 1) rfl Try.runUnderlying44 rfl Try.sizeOf42 rfl rfl) ?_
 refine Lst.r (Ev.load (i := 2) rfl rfl Try.isAgg42 (v := Sl.v s_a0_1) ((SynodR.get_Rounds (Get.here _)).off (by rfl))) ?_
 refine Lst.r (Ev.lenS (α := Round) (xs := a0.Rounds) (by decide) rfl rfl Try.runUnderlying42 (hs_a0_1.mono (FLe.refl _) (sc2 (sc1 hM)))) ?_
 refine Lst.r (Ev.move rfl) ?_
 refine Lst.nil ?_
 refine At.then ?_
 refine Cd.block ?_
 refine Cd.bound (Rd.le (α := Round) (xs := a0.Rounds) (by decide) (hs_a0_1.mono (FLe.refl _) (sc2 (sc1 hM)))) (fun hN36 => ?_)
 obtain ⟨ol5, H, HKl5⟩ := bind_some H
 refine Cd.loop (σ := Nat × Nat × Sl × (List Str)) (fun (i5, k5, s6, l7) => [(1, pv b1 0), (3, Sl.v s6), (7, Sl.v s_a0_1), (8, iv (a0.Rounds.length : Int)), (9, iv (i5 : Int))]) (fun (i5, k5, s6, l7) => (.own s6 9 1 (encs l7)) :: (.own Sl.nil 9 1 (encs ([] : List Str))) :: (.blk b1 (enc (SynodR.mk a0 s_a0_0 s_a0_1)) 44) :: L) (fun _ => (fun (i5, k5, s6, l7) => rangeF (partref_Chosen_B0 fu a0) k5 i5 l7 = some ol5 ∧ i5 + k5 = a0.Rounds.length)) (fun (i5, k5, s6, l7) => k5) (0, a0.Rounds.length, Sl.nil, ([] : List Str)) ⟨rfl, rfl, rfl, rfl, rfl, trivial⟩ rfl ⟨H, by omega⟩ ?_
 rintro F8 ⟨i5, k5, s6, l7⟩ hF9 ⟨H, hik5⟩
 refine Cd.as (e' := [(1, pv b1 0), (3, Sl.v s6), (7, Sl.v s_a0_1), (8, iv (a0.Rounds.length : Int)), (9, iv (i5 : Int))]) (L' := (.own s6 9 1 (encs l7)) :: (.own Sl.nil 9 1 (encs ([] : List Str))) :: (.blk b1 (enc (SynodR.mk a0 s_a0_0 s_a0_1)) 44) :: L) ⟨rfl, rfl, rfl, rfl, rfl, trivial⟩ rfl ?_
 rcases k5 with _ | k5
 ·have hc5 : decide ((i5 : Int) < (a0.Rounds.length : Int)) = false := decide_eq_false (by omega)
  replace H := rangeF_end H
  refine Cd.seq ?_
  refine Cd.region ?_
  refine Lst.r (Ev.lss rfl rfl) ?_
  refine Lst.nil ?_
  refine At.then ?_
  refine Cd.seq ?_
  refine Cd.condF rfl hc5 ?_
  refine Cd.exit ?_
  refine At.then_exit ?_
  refine At.then_exit ?_
  refine At.in_exit ?_
  subst H
  replace H := HKl5
  refine At.then ?_
  refine Cd.seq ?_
  refine Cd.region ?_
  refine Lst.r (Ev.move rfl) ?_
  obtain ⟨r32, h33, H⟩ := bind_some H
  refine Lst.call rfl rfl (by decide) (vs := [Sl.v s6]) ⟨rfl, trivial⟩ Try.call67 (slices_Sort_string_string_sim h33 w0 _ M _ (sc2 hM)) (fun F34 L' v hF35 hv => ?_)
  obtain ⟨rfl, rfl⟩ := hv
  refine Lst.nil ?_
  refine At.then ?_
  refine Cd.seq ?_
  refine Cd.region ?_
  refine Lst.r (Ev.move rfl) ?_
  refine Lst.r (Ev.assign rfl) ?_
  refine Lst.nil ?_
  refine At.then ?_
  obtain rfl := some_inj H
  refine Cd.ret ?_
  exact At.ret1 rfl (Res.tmp rfl) (FLe.trans hF9 hF35) (sk1 (sc1 (sc1 (.refl _)))) ⟨s6, rfl, rfl⟩
 have hc5 : decide ((i5 : Int) < (a0.Rounds.length : Int)) = true := decide_eq_true (by omega)
 obtain ⟨c5, H, hgo5⟩ := rangeF_go H
 unfold partref_Chosen_B0 at H
 try dsimp only at H
 refine Cd.seq ?_
 refine Cd.region ?_
 refine Lst.r (Ev.lss rfl rfl) ?_
 refine Lst.nil ?_
 refine At.then ?_
 refine Cd.seq ?_
 refine Cd.condT rfl hc5 ?_
 refine Cd.skip ?_
 refine At.then ?_
 refine Cd.seq ?_
 refine Cd.block ?_
 refine Cd.seq ?_
 refine Cd.region ?_
 obtain ⟨x10, h11, H⟩ := bind_some H
 have g12 := lat_some h11
 refine Lst.r (Ev.indexS (α := Round) (xs := a0.Rounds) rfl rfl Try.runUnderlying42 Try.sizeOf91 rfl (by decide) (hs_a0_1.mono hF9 (sc2 (sc1 hM))) g12.1 g12.2.1) ?_
 refine Lst.r (Ev.loadSA (α := Round) rfl (hs_a0_1.mono hF9 (sc2 (sc1 hM))) Try.isAgg91 Try.sizeOf91 (ch := enc x10) (Enc.len _) (by decide) ((Get.elemN (s := 6) (x := x10) rfl g12.2.2 (Get.here _)).off (by omega))) ?_
 refine Lst.alloc (cs := enc Round.zero) rfl rfl (by decide) Try.zeroValue91 rfl (fun b13 => ?_)
 refine Lst.store (i := 0) rfl rfl rfl rfl rfl Try.sizeOf91 (vs := enc x10) rfl (Enc.len _) (Enc.one _) (cs' := enc x10) (Put.here ((Enc.len _).trans (Enc.len _).symm)) (L' := (.blk b13 (enc x10) 91) :: (.own s6 9 1 (encs l7)) :: (.own Sl.nil 9 1 (encs ([] : List Str))) :: (.blk b1 (enc (SynodR.mk a0 s_a0_0 s_a0_1)) 44) :: L) rfl ?_
 refine Lst.nil ?_
 refine At.then ?_
 refine Cd.seq ?_
 refine Cd.quiet (by kernel_rfl) (by kernel_rfl) ?_
 refine Qt.r (Ev.fieldAddr (off' := 3) rfl Try.runUnderlying91 rfl Try.sizeOf5 rfl rfl) ?_
 refine Qt.r (Ev.load (i := 0) rfl rfl Try.isAgg5 (v := .int .u8 x10.Voted.toNat) ((Round.get_Voted (Get.here _)).off (by rfl))) ?_
 refine Qt.r (Ev.convTo16 rfl Try.runUnderlying5 Try.runUnderlying23) ?_
 obtain ⟨r15, h16, H⟩ := bind_some H
 refine Qt.call rfl rfl (by decide) (vs := [.int .u16 (BitVec.ofInt 16 (x10.Voted.toNat : Int)).toNat]) ⟨rfl, trivial⟩ Try.call45 (partref_size_sim h16 w0 _ M _ (sc4 hM)) ?_
 refine Qt.r (Ev.mul rfl rfl) ?_
 refine Qt.r (Ev.fieldAddr (off' := 0) rfl Try.runUnderlying44 rfl Try.sizeOf41 rfl rfl) ?_
 refine Qt.r (Ev.load (i := 3) rfl rfl Try.isAgg41 (v := Sl.v s_a0_0) ((SynodR.get_Voters (Get.here _)).off (by rfl))) ?_
 refine Qt.r (Ev.lenS (α := Voter) (xs := a0.Voters) (by decide) rfl rfl Try.runUnderlying41 (hs_a0_0.mono hF9 (sc4 hM))) ?_
 refine Qt.r (Ev.gtr rfl rfl) ?_
 refine Qt.r (Ev.move rfl) ?_
 obtain ⟨o19, H, HKo19⟩ := bind_some H
 refine Qt.join (σ := Bool) 6 (fun y20 => [(1, pv b1 0), (3, Sl.v s6), (5, pv b13 0), (7, Sl.v s_a0_1), (8, iv (a0.Rounds.length : Int)), (9, iv (i5 : Int)), (28, .bool y20)]) (fun y20 => y20 = o19) ?_ ?_
 ·rcases (Bool.eq_false_or_eq_true (decide ((w64 ((2 : Int) * r15)) > (a0.Voters.length : Int)))).symm with hb21 | hb21
  ·replace H := ite_f hb21 H
   refine Qt.skip rfl rfl rfl hb21 rfl (by decide) ?_
   refine Qt.skip rfl rfl rfl hb21 rfl (by decide) ?_
   refine Qt.skip rfl rfl rfl hb21 rfl (by decide) ?_
   refine Qt.skip rfl rfl rfl hb21 rfl (by decide) ?_
   refine Qt.skip rfl rfl rfl hb21 rfl (by decide) ?_
   refine Qt.r (Ev.pickF rfl hb21 rfl) ?_
   exact Qt.meet false ⟨rfl, rfl, rfl, rfl, rfl, rfl, rfl, trivial⟩ (some_inj H)
  replace H := ite_t hb21 H
  refine Qt.rG hb21 (Ev.move rfl) ?_
  refine Qt.rG hb21 (Ev.fieldAddr (off' := 5) rfl Try.runUnderlying91 rfl Try.sizeOf9 rfl rfl) ?_
  refine Qt.rG hb21 (Ev.load (i := 0) rfl rfl Try.isAgg9 (v := Str.v x10.Text) ((Round.get_Text (Get.here _)).off (by rfl))) ?_
  obtain ⟨r22, h23, H⟩ := bind_some H
  refine Qt.callG rfl rfl rfl hb21 rfl (by decide) (vs := [Sl.v s6, Str.v x10.Text]) ⟨rfl, rfl, trivial⟩ Try.call73 (slices_Contains_string_string_sim h23 w0 _ _ _ (.refl _) (Rd.own (i := 1) rfl rfl rfl)) ?_
  refine Qt.rG hb21 (Ev.not rfl) ?_
  refine Qt.r (Ev.pickT rfl hb21 rfl) ?_
  exact Qt.meet (!r22) ⟨rfl, rfl, rfl, rfl, rfl, rfl, rfl, trivial⟩ (some_inj H)
 rintro y20 hy
 subst hy
 refine Qt.as (e' := [(1, pv b1 0), (3, Sl.v s6), (5, pv b13 0), (7, Sl.v s_a0_1), (8, iv (a0.Rounds.length : Int)), (9, iv (i5 : Int)), (28, .bool y20)]) ⟨rfl, rfl, rfl, rfl, rfl, rfl, rfl, trivial⟩ ?_
 replace H := HKo19
 refine Qt.done ?_
 refine At.then ?_
 rcases (Bool.eq_false_or_eq_true y20).symm with hb26 | hb26
 ·replace H := ite_f hb26 H
  refine Cd.condF rfl hb26 ?_
  refine Cd.skip ?_
  refine At.in_normal ?_
  refine At.then ?_
  refine Cd.region ?_
  refine Lst.r (Ev.incr (by omega) rfl rfl) ?_
  refine Lst.r (Ev.move rfl) ?_
  refine Lst.nil ?_
  refine At.less (L' := (.own s6 9 1 (encs l7)) :: (.own Sl.nil 9 1 (encs ([] : List Str))) :: (.blk b1 (enc (SynodR.mk a0 s_a0_0 s_a0_1)) 44) :: L) (sc1 (sk1 (sk1 (sk1 (.refl _))))) ?_
  exact At.meet (i5 + 1, k5, s6, l7) hF9 ⟨rfl, rfl, rfl, rfl, rfl, trivial⟩ rfl ⟨⟨hgo5 _ (some_inj H).symm, by omega⟩, Nat.lt_succ_self _⟩
 replace H := ite_t hb26 H
 refine Cd.condT rfl hb26 ?_
 refine Cd.region ?_
 refine Lst.r (Ev.move rfl) ?_
 refine Lst.r (Ev.fieldAddr (off' := 5) rfl Try.runUnderlying91 rfl Try.sizeOf9 rfl rfl) ?_
 refine Lst.r (Ev.load (i := 0) rfl rfl Try.isAgg9 (v := Str.v x10.Text) ((Round.get_Text (Get.here _)).off (by rfl))) ?_
 refine Lst.buildSlice (α := Str) (xs := ([x10.Text] : List Str)) (pv := [(0, Str.v x10.Text)]) rfl rfl (by decide) ⟨rfl, rfl, trivial⟩ (run_buildSlice (α := Str) (z0 := ([] : Str)) (xs := ([x10.Text] : List Str)) Try.runUnderlying50 Try.sizeOf9 Try.zeroValue9 rfl rfl rfl (by decide) rfl (fill_cons (cs := encs (List.replicate 1 ([] : Str))) (cs' := encs ((List.replicate 1 ([] : Str)).set 0 x10.Text)) (vs := [Str.v x10.Text]) rfl rfl rfl ((Put.elemN (s := 1) (i := 0) (x := ([] : Str)) (y := x10.Text) rfl rfl (Put.here (vs := [Str.v x10.Text]) rfl)).off rfl) fill_nil)) rfl rfl (by decide) (fun s27 _ => ?_)
 obtain ⟨u29, h30, H⟩ := bind_some H
 refine Lst.append (i := 2) (α := Str) (xs := l7) (ys := ([x10.Text] : List Str)) rfl rfl (by decide) rfl rfl Try.runUnderlying50 Try.typeInfo9 rfl rfl rfl rfl rfl rfl (Rd.own (i := 0) rfl rfl rfl) rfl (room_some h30) rfl (fun s31 => ?_)
 refine Lst.its (L' := (.own s27 9 1 (encs ([x10.Text] : List Str))) :: (.blk b13 (enc x10) 91) :: (.own s31 9 1 (encs (l7 ++ ([x10.Text] : List Str)))) :: (.own Sl.nil 9 1 (encs ([] : List Str))) :: (.blk b1 (enc (SynodR.mk a0 s_a0_0 s_a0_1)) 44) :: L) rfl ?_
 refine Lst.r (Ev.assign rfl) ?_
 refine Lst.nil ?_
 refine At.in_normal ?_
 refine At.then ?_
 refine Cd.region ?_
 refine Lst.r (Ev.incr (by omega) rfl rfl) ?_
 refine Lst.r (Ev.move rfl) ?_
 refine Lst.nil ?_
 refine At.less (L' := (.own s31 9 1 (encs (l7 ++ ([x10.Text] : List Str)))) :: (.own Sl.nil 9 1 (encs ([] : List Str))) :: (.blk b1 (enc (SynodR.mk a0 s_a0_0 s_a0_1)) 44) :: L) (sc1 (sc1 (sk1 (sk1 (sk1 (.refl _)))))) ?_
 exact At.meet (i5 + 1, k5, s31, l7 ++ ([x10.Text] : List Str)) hF9 ⟨rfl, rfl, rfl, rfl, rfl, trivial⟩ rfl ⟨⟨hgo5 _ (some_inj H).symm, by omega⟩, Nat.lt_succ_self _⟩
set_option maxRecDepth 20000 in
theorem slices_Equal_string_string_sim {a0 : List Str} {a1 : List Str} {s_a0 : Sl} {s_a1 : Sl} {r : Bool} (H : slices_Equal_string_string a0 a1 = some r) (w0 : World) (F : Frz) (M L : List Item) (hM : M.Sublist L) (hs_a0 : Rd w0 F M s_a0 a0) (hs_a1 : Rd w0 F M s_a1 a1) : Ok Try.prog w0 27 [Sl.v s_a0, Sl.v s_a1] F (L) (Is (.bool r) (L)) := by
 unfold slices_Equal_string_string at H
 refine Ok.enter (m := 2) (n := 26) Try.func27 rfl rfl rfl (by decide) ?_
 refine Cd.env (e' := [(0, Sl.v s_a0), (1, Sl.v s_a1)]) rfl ?_
 refine Cd.seq ?_
 refine Cd.region ?_
 refine Lst.r (Ev.assign rfl) ?_
 refine Lst.nil ?_
 refine At.then ?_
 refine Cd.seq ?_
 refine Cd.seq ?_
 refine Cd.region ?_
 refine Lst.r (Ev.move rfl) ?_
 refine Lst.r (Ev.lenS (α := Str) (xs := a0) (by decide) rfl rfl Try.runUnderlying50 (hs_a0.mono (FLe.refl _) hM)) ?_
 refine Lst.r (Ev.move rfl) ?_
 refine Lst.r (Ev.lenS (α := Str) (xs := a1) (by decide) rfl rfl Try.runUnderlying50 (hs_a1.mono (FLe.refl _) hM)) ?_
 refine Lst.r (Ev.neq rfl rfl) ?_
 refine Lst.nil ?_
 refine At.then ?_
 rcases Bool.eq_false_or_eq_true ((a0.length : Int) != (a1.length : Int)) with hb1 | hb1
 ·replace H := ite_t hb1 H
  refine Cd.condT rfl hb1 ?_
  refine Cd.seq ?_
  refine Cd.region ?_
  refine Lst.r (Ev.assign rfl) ?_
  refine Lst.nil ?_
  refine At.then ?_
  obtain rfl := some_inj H
  refine Cd.ret ?_
  refine At.then_ret ?_
  exact At.ret1 rfl (Res.tmp rfl) (FLe.refl _) (.refl _) ⟨rfl, rfl⟩
 replace H := ite_f hb1 H
 refine Cd.condF rfl hb1 ?_
 refine Cd.skip ?_
 refine At.then ?_
 refine Cd.seq ?_
 refine Cd.seq ?_
 refine Cd.region ?_
 refine Lst.r (Ev.move rfl) ?_
 refine Lst.r (Ev.lenS (α := Str) (xs := a0) (by decide) rfl rfl Try.runUnderlying50 (hs_a0.mono (FLe.refl _) hM)) ?_
 refine Lst.r (Ev.move rfl) ?_
 refine Lst.nil ?_
 refine At.then ?_
 refine Cd.block ?_
 refine Cd.bound (Rd.le (α := Str) (xs := a0) (by decide) (hs_a0.mono (FLe.refl _) hM)) (fun hN12 => ?_)
 obtain ⟨ol2, H, HKl2⟩ := andThen_some H
 refine Cd.loop (σ := Nat × Nat × Unit) (fun (i2, k2, _u) => [(0, Sl.v s_a0), (1, Sl.v s_a1), (12, iv (a0.length : Int)), (13, iv (i2 : Int))]) (fun (i2, k2, _u) => L) (fun _ => (fun (i2, k2, _u) => rangeM (slices_Equal_string_string_B0 a0 a1) k2 i2 () = some ol2 ∧ i2 + k2 = a0.length)) (fun (i2, k2, _u) => k2) (0, a0.length, ()) ⟨rfl, rfl, rfl, rfl, trivial⟩ rfl ⟨H, by omega⟩ ?_
 rintro F3 ⟨i2, k2, _u⟩ hF4 ⟨H, hik2⟩
 refine Cd.as (e' := [(0, Sl.v s_a0), (1, Sl.v s_a1), (12, iv (a0.length : Int)), (13, iv (i2 : Int))]) (L' := L) ⟨rfl, rfl, rfl, rfl, trivial⟩ rfl ?_
 rcases k2 with _ | k2
 ·have hc2 : decide ((i2 : Int) < (a0.length : Int)) = false := decide_eq_false (by omega)
  replace H := rangeM_end H
  refine Cd.seq ?_
  refine Cd.region ?_
  refine Lst.r (Ev.lss rfl rfl) ?_
  refine Lst.nil ?_
  refine At.then ?_
  refine Cd.seq ?_
  refine Cd.condF rfl hc2 ?_
  refine Cd.exit ?_
  refine At.then_exit ?_
  refine At.then_exit ?_
  refine At.in_exit ?_
  subst H
  replace H := HKl2
  refine At.then ?_
  refine Cd.seq ?_
  refine Cd.region ?_
  refine Lst.r (Ev.assign rfl) ?_
  refine Lst.nil ?_
  refine At.then ?_
  obtain rfl := some_inj H
  refine Cd.ret ?_
  exact At.ret1 rfl (Res.tmp rfl) hF4 (.refl _) ⟨rfl, rfl⟩
 have hc2 : decide ((i2 : Int) < (a0.length : Int)) = true := decide_eq_true (by omega)
 obtain ⟨c2, H, hgo2, hbrk2, hret2⟩ := rangeM_go H
 unfold slices_Equal_string_string_B0 at H
 try dsimp only at H
 refine Cd.seq ?_
 refine Cd.region ?_
 refine Lst.r (Ev.lss rfl rfl) ?_
 refine Lst.nil ?_
 refine At.then ?_
 refine Cd.seq ?_
 refine Cd.condT rfl hc2 ?_
 refine Cd.skip ?_
 refine At.then ?_
 refine Cd.seq ?_
 refine Cd.block ?_
 refine Cd.seq ?_
 refine Cd.region ?_
 refine Lst.r (Ev.move rfl) ?_
 refine Lst.r (Ev.assign rfl) ?_
 refine Lst.nil ?_
 refine At.then ?_
 refine Cd.seq ?_
 refine Cd.quiet (by kernel_rfl) (by kernel_rfl) ?_
 refine Qt.r (Ev.move rfl) ?_
 refine Qt.r (Ev.move rfl) ?_
 obtain ⟨x5, h6, H⟩ := bind_some H
 have g7 := lat_some h6
 refine Qt.r (Ev.indexS (α := Str) (xs := a0) rfl rfl Try.runUnderlying50 Try.sizeOf9 rfl (by decide) (hs_a0.mono hF4 hM) g7.1 g7.2.1) ?_
 refine Qt.r (Ev.loadS (α := Str) rfl (hs_a0.mono hF4 hM) Try.isAgg9 (v := Str.v x5) ((Get.elemN (s := 1) (x := x5) rfl g7.2.2 (Get.here _)).off (by omega))) ?_
 refine Qt.r (Ev.move rfl) ?_
 refine Qt.r (Ev.move rfl) ?_
 obtain ⟨x8, h9, H⟩ := bind_some H
 have g10 := lat_some h9
 refine Qt.r (Ev.indexS (α := Str) (xs := a1) rfl rfl Try.runUnderlying50 Try.sizeOf9 rfl (by decide) (hs_a1.mono hF4 hM) g10.1 g10.2.1) ?_
 refine Qt.r (Ev.loadS (α := Str) rfl (hs_a1.mono hF4 hM) Try.isAgg9 (v := Str.v x8) ((Get.elemN (s := 1) (x := x8) rfl g10.2.2 (Get.here _)).off (by omega))) ?_
 refine Qt.r (Ev.neqStr (s := x5) (m := x8) rfl rfl) ?_
 refine Qt.done ?_
 refine At.then ?_
 rcases Bool.eq_false_or_eq_true (!(decide (x5 = x8))) with hb11 | hb11
 ·replace H := ite_t hb11 H
  refine Cd.condT rfl hb11 ?_
  refine Cd.seq ?_
  refine Cd.as (e' := []) (L' := L) trivial rfl ?_
  refine Cd.region ?_
  refine Lst.r (Ev.assign rfl) ?_
  refine Lst.nil ?_
  refine At.then ?_
  have H := hret2 _ (some_inj H).symm
  subst H
  replace H := HKl2
  obtain rfl := some_inj H
  refine Cd.ret ?_
  refine At.in_ret ?_
  refine At.then_ret ?_
  refine At.then_ret ?_
  refine At.in_ret ?_
  refine At.then_ret ?_
  exact At.ret1 rfl (Res.tmp rfl) hF4 (.refl _) ⟨rfl, rfl⟩
 replace H := ite_f hb11 H
 refine Cd.condF rfl hb11 ?_
 refine Cd.skip ?_
 refine At.in_normal ?_
 refine At.then ?_
 refine Cd.region ?_
 refine Lst.r (Ev.incr (by omega) rfl rfl) ?_
 refine Lst.r (Ev.move rfl) ?_
 refine Lst.nil ?_
 exact At.meet (i2 + 1, k2, ()) hF4 ⟨rfl, rfl, rfl, rfl, trivial⟩ rfl ⟨⟨hgo2 _ (some_inj H).symm, by omega⟩, Nat.lt_succ_self _⟩
set_option maxRecDepth 20000 in
theorem partref_SynodStep_1_sim {a0 : Round} {a1 : Act} {b_a1 : Nat} {r : Bool} (H : partref_SynodStep_1 a0 a1 = some r) (w0 : World) (F : Frz) (M L : List Item) (hM : M.Sublist L) : Ok Try.prog w0 75 [.agg (enc a0).toArray, pv b_a1 0] F ((.blk b_a1 (enc a1) 46) :: L) (Is (.bool r) ((.blk b_a1 (enc a1) 46) :: L)) := by
 unfold partref_SynodStep_1 at H
 refine Ok.enter (m := 2) (n := 9) Try.func75 rfl rfl rfl (by decide) ?_
 refine Cd.env (e' := [(0, .agg (enc a0).toArray), (1, pv b_a1 0)]) rfl ?_
 refine Cd.seq ?_
 refine Cd.region ?_
 refine Lst.box rfl rfl (by decide) rfl (cs := enc a0) rfl (fun b2 => ?_)
 refine Lst.r (Ev.assign rfl) ?_
 refine Lst.nil ?_
 refine At.then ?_
 refine Cd.seq ?_
 refine Cd.region ?_
 refine Lst.r (Ev.fieldAddr (off' := 0) rfl Try.runUnderlying91 rfl Try.sizeOf3 rfl rfl) ?_
 refine Lst.r (Ev.load (i := 0) rfl rfl Try.isAgg3 (v := iv a0.Ballot) ((Round.get_Ballot (Get.here _)).off (by rfl))) ?_
 refine Lst.r (Ev.fieldAddr (off' := 1) rfl Try.runUnderlying46 rfl Try.sizeOf3 rfl rfl) ?_
 refine Lst.r (Ev.load (i := 1) rfl rfl Try.isAgg3 (v := iv a1.Ballot) ((Act.get_Ballot (Get.here _)).off (by rfl))) ?_
 refine Lst.r (Ev.eql rfl rfl) ?_
 refine Lst.r (Ev.assign rfl) ?_
 refine Lst.nil ?_
 refine At.then ?_
 obtain rfl := some_inj H
 refine Cd.ret ?_
 exact At.ret1 rfl (Res.tmp rfl) (FLe.refl _) (sc1 (sk1 (.refl _))) ⟨rfl, rfl⟩
set_option maxRecDepth 20000 in
theorem slices_IndexFunc_api_Round_api_Round_SynodStep_1_sim {a0 : List Round} {a1_c0 : Act} {s_a0 : Sl} {b_a1_c0 : Nat} {r : Int} (H : slices_IndexFunc_api_Round_api_Round_SynodStep_1 a0 a1_c0 = some r) (w0 : World) (F : Frz) (M L : List Item) (hM : M.Sublist L) (hs_a0 : Rd w0 F M s_a0 a0) : Ok Try.prog w0 74 [Sl.v s_a0, .func (.func 75) #[] #[pv b_a1_c0 0]] F ((.blk b_a1_c0 (enc a1_c0) 46) :: L) (Is (iv r) ((.blk b_a1_c0 (enc a1_c0) 46) :: L)) := by
 unfold slices_IndexFunc_api_Round_api_Round_SynodStep_1 at H
 refine Ok.enter (m := 2) (n := 19) Try.func74 rfl rfl rfl (by decide) ?_
 refine Cd.env (e' := [(0, Sl.v s_a0), (1, .func (.func 75) #[] #[pv b_a1_c0 0])]) rfl ?_
 refine Cd.seq ?_
 refine Cd.region ?_
 refine Lst.r (Ev.assign rfl) ?_
 refine Lst.nil ?_
 refine At.then ?_
 refine Cd.seq ?_
 refine Cd.seq ?_
 refine Cd.region ?_
 refine Lst.r (Ev.move rfl) ?_
 refine Lst.r (Ev.lenS (α := Round) (xs := a0) (by decide) rfl rfl Try.runUnderlying42 (hs_a0.mono (FLe.refl _) (sc1 hM))) ?_
 refine Lst.r (Ev.move rfl) ?_
 refine Lst.nil ?_
 refine At.then ?_
 refine Cd.block ?_
 refine Cd.bound (Rd.le (α := Round) (xs := a0) (by decide) (hs_a0.mono (FLe.refl _) (sc1 hM))) (fun hN13 => ?_)
 obtain ⟨ol2, H, HKl2⟩ := andThen_some H
 refine Cd.loop (σ := Nat × Nat × Unit) (fun (i2, k2, _u) => [(0, Sl.v s_a0), (1, .func (.func 75) #[] #[pv b_a1_c0 0]), (7, iv (a0.length : Int)), (8, iv (i2 : Int))]) (fun (i2, k2, _u) => (.blk b_a1_c0 (enc a1_c0) 46) :: L) (fun _ => (fun (i2, k2, _u) => rangeM (slices_IndexFunc_api_Round_api_Round_SynodStep_1_B0 a0 a1_c0) k2 i2 () = some ol2 ∧ i2 + k2 = a0.length)) (fun (i2, k2, _u) => k2) (0, a0.length, ()) ⟨rfl, rfl, rfl, rfl, trivial⟩ rfl ⟨H, by omega⟩ ?_
 rintro F3 ⟨i2, k2, _u⟩ hF4 ⟨H, hik2⟩
 refine Cd.as (e' := [(0, Sl.v s_a0), (1, .func (.func 75) #[] #[pv b_a1_c0 0]), (7, iv (a0.length : Int)), (8, iv (i2 : Int))]) (L' := (.blk b_a1_c0 (enc a1_c0) 46) :: L) ⟨rfl, rfl, rfl, rfl, trivial⟩ rfl ?_
 rcases k2 with _ | k2
 ·have hc2 : decide ((i2 : Int) < (a0.length : Int)) = false := decide_eq_false (by omega)
  replace H := rangeM_end H
  refine Cd.seq ?_
  refine Cd.region ?_
  refine Lst.r (Ev.lss rfl rfl) ?_
  refine Lst.nil ?_
  refine At.then ?_
  refine Cd.seq ?_
  refine Cd.condF rfl hc2 ?_
  refine Cd.exit ?_
  refine At.then_exit ?_
  refine At.then_exit ?_
  refine At.in_exit ?_
  subst H
  replace H := HKl2
  refine At.then ?_
  refine Cd.seq ?_
  refine Cd.region ?_
  refine Lst.r (Ev.assign rfl) ?_
  refine Lst.nil ?_
  refine At.then ?_
  obtain rfl := some_inj H
  refine Cd.ret ?_
  exact At.ret1 rfl (Res.tmp rfl) hF4 (sk1 (.refl _)) ⟨rfl, rfl⟩
 have hc2 : decide ((i2 : Int) < (a0.length : Int)) = true := decide_eq_true (by omega)
 obtain ⟨c2, H, hgo2, hbrk2, hret2⟩ := rangeM_go H
 unfold slices_IndexFunc_api_Round_api_Round_SynodStep_1_B0 at H
 try dsimp only at H
 refine Cd.seq ?_
 refine Cd.region ?_
 refine Lst.r (Ev.lss rfl rfl) ?_
 refine Lst.nil ?_
 refine At.then ?_
 refine Cd.seq ?_
 refine Cd.condT rfl hc2 ?_
 refine Cd.skip ?_
 refine At.then ?_
 refine Cd.seq ?_
 refine Cd.block ?_
 refine Cd.seq ?_
 refine Cd.region ?_
 refine Lst.r (Ev.move rfl) ?_
 refine Lst.r (Ev.assign rfl) ?_
 refine Lst.nil ?_
 refine At.then ?_
 refine Cd.seq ?_
 refine Cd.region ?_
 refine Lst.r (Ev.move rfl) ?_
 refine Lst.r (Ev.move rfl) ?_
 refine Lst.r (Ev.move rfl) ?_
 obtain ⟨x5, h6, H⟩ := bind_some H
 have g7 := lat_some h6
 refine Lst.r (Ev.indexS (α := Round) (xs := a0) rfl rfl Try.runUnderlying42 Try.sizeOf91 rfl (by decide) (hs_a0.mono hF4 (sc1 hM)) g7.1 g7.2.1) ?_
 refine Lst.r (Ev.loadSA (α := Round) rfl (hs_a0.mono hF4 (sc1 hM)) Try.isAgg91 Try.sizeOf91 (ch := enc x5) (Enc.len _) (by decide) ((Get.elemN (s := 6) (x := x5) rfl g7.2.2 (Get.here _)).off (by omega))) ?_
 obtain ⟨r8, h9, H⟩ := bind_some H
 refine Lst.callV1 rfl rfl (by decide) (vs := [.agg (enc x5).toArray]) (cs := [pv b_a1_c0 0]) rfl ⟨rfl, trivial⟩ Try.call75 (partref_SynodStep_1_sim h9 w0 _ M _ hM) ?_
 refine Lst.nil ?_
 refine At.then ?_
 rcases Bool.eq_false_or_eq_true r8 with hb12 | hb12
 ·replace H := ite_t hb12 H
  refine Cd.condT rfl hb12 ?_
  refine Cd.seq ?_
  refine Cd.region ?_
  refine Lst.r (Ev.move rfl) ?_
  refine Lst.r (Ev.assign rfl) ?_
  refine Lst.nil ?_
  refine At.then ?_
  have H := hret2 _ (some_inj H).symm
  subst H
  replace H := HKl2
  obtain rfl := some_inj H
  refine Cd.ret ?_
  refine At.in_ret ?_
  refine At.then_ret ?_
  refine At.then_ret ?_
  refine At.in_ret ?_
  refine At.then_ret ?_
  exact At.ret1 rfl (Res.tmp rfl) hF4 (sk1 (.refl _)) ⟨rfl, rfl⟩
 replace H := ite_f hb12 H
 refine Cd.condF rfl hb12 ?_
 refine Cd.skip ?_
 refine At.in_normal ?_
 refine At.then ?_
 refine Cd.region ?_
 refine Lst.r (Ev.incr (by omega) rfl rfl) ?_
 refine Lst.r (Ev.move rfl) ?_
 refine Lst.nil ?_
 exact At.meet (i2 + 1, k2, ()) hF4 ⟨rfl, rfl, rfl, rfl, trivial⟩ rfl ⟨⟨hgo2 _ (some_inj H).symm, by omega⟩, Nat.lt_succ_self _⟩
end Go.Proofs.Ytnljiedichjagaa
