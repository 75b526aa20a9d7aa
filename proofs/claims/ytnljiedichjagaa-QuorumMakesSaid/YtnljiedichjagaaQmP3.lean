/-
  The functions compute their specs; printed by a program.
-/
import Derived.Test.YtnljiedichjagaaQmP2
namespace Go.Proofs.Ytnljiedichjagaa
open Go.RowKit Enc
set_option linter.unusedVariables false
set_option linter.unusedSimpArgs false
set_option maxRecDepth 20000 in
theorem slices_partitionCmpFunc_uint16_quorum_compare_sim {fu : Nat} {a0 : List (BitVec 16)} {a1 : Int} {a2 : Int} {a3 : Int} {s_a0 : Sl} {r : (List (BitVec 16)) × Int × Bool} (H : slices_partitionCmpFunc_uint16_quorum_compare fu a0 a1 a2 a3 = some r) (w0 : World) (F : Frz) (M L : List Item) (hM : M.Sublist L) : Ok Try.prog w0 141 [Sl.v s_a0, .int .i64 a1, .int .i64 a2, .int .i64 a3, .func (.func 53) #[] #[]] F ((.own s_a0 23 1 (encs a0)) :: L) (fun _ L' v => v = .tuple #[.int .i64 r.2.1, .bool r.2.2] ∧ L' = (.own s_a0 23 1 (encs r.1)) :: L) := by
  unfold slices_partitionCmpFunc_uint16_quorum_compare at H
  refine Ok.enter (m := 5) (n := 178) Try.func141 rfl rfl rfl (by decide) ?_
  refine Cd.env (e' := [(0, Sl.v s_a0), (1, .int .i64 a1), (2, .int .i64 a2), (3, .int .i64 a3), (4, .func (.func 53) #[] #[])]) rfl ?_
  refine Cd.seq ?_
  refine Cd.region ?_
  refine Lst.run rfl rfl (by decide) (Ev.assign rfl) ?_
  refine Lst.run rfl rfl (by decide) (Ev.assign rfl) ?_
  refine Lst.nil ?_
  refine At.then ?_
  refine Cd.seq ?_
  obtain ⟨x2, h3, H⟩ := bind_some H
  obtain ⟨x5, h6, H⟩ := bind_some H
  obtain ⟨x8, h9, H⟩ := bind_some H
  obtain ⟨p11, h12, H⟩ := Let_some H
  obtain ⟨o15, h16, H⟩ := Let_some H
  refine Cd.headMeet (σ := (List (BitVec 16))) 14 (fun l14 => [(0, Sl.v s_a0), (1, .int .i64 a1), (2, .int .i64 a2), (4, .func (.func 53) #[] #[]), (16, Sl.v s_a0), (17, .int .i64 a3), (25, .int .u16 x5.toNat)]) (fun l14 => (.own s_a0 23 1 (encs l14)) :: L) (fun _ l14 => l14 = o15) (by kernel_rfl) (by kernel_rfl) (behind_sink (by kernel_rfl) (by kernel_rfl) (by kernel_rfl)) (by kernel_rfl) (fun hsel hlt => ?_) ?_
  · refine HdJ.keep (fun w => St w0 F (L) w) (fun w h => trivial) ?_
    refine HdJ.takeK hsel hlt 0 (fun w h => h.sublist (List.Sublist.cons _ (List.Sublist.refl _))) rfl rfl (by decide) (by decide) (by kernel_rfl) (by kernel_rfl) rfl (Ev.move rfl) ?_
    refine HdJ.takeK hsel hlt 1 (fun w h => h.sublist (List.Sublist.cons _ (List.Sublist.refl _))) rfl rfl (by decide) (by decide) (by kernel_rfl) (by kernel_rfl) rfl (Ev.move rfl) ?_
    refine HdJ.takeK hsel hlt 2 (fun w h => h.sublist (List.Sublist.cons _ (List.Sublist.refl _))) rfl rfl (by decide) (by decide) (by kernel_rfl) (by kernel_rfl) rfl (Ev.move rfl) ?_
    refine HdJ.takeK hsel hlt 3 (fun w h => h.sublist (List.Sublist.cons _ (List.Sublist.refl _))) rfl rfl (by decide) (by decide) (by kernel_rfl) (by kernel_rfl) rfl (Ev.move rfl) ?_
    refine HdJ.takeK hsel hlt 4 (fun w h => h.sublist (List.Sublist.cons _ (List.Sublist.refl _))) rfl rfl (by decide) (by decide) (by kernel_rfl) (by kernel_rfl) rfl (Ev.move rfl) ?_
    refine HdJ.takeK hsel hlt 5 (fun w h => h.sublist (List.Sublist.cons _ (List.Sublist.refl _))) rfl rfl (by decide) (by decide) (by kernel_rfl) (by kernel_rfl) rfl (Ev.move rfl) ?_
    refine HdJ.takeK hsel hlt 8 (fun w h => h.sublist (List.Sublist.cons _ (List.Sublist.refl _))) rfl rfl (by decide) (by decide) (by kernel_rfl) (by kernel_rfl) rfl (Ev.move rfl) ?_
    refine HdJ.takeK hsel hlt 9 (fun w h => h.sublist (List.Sublist.cons _ (List.Sublist.refl _))) rfl rfl (by decide) (by decide) (by kernel_rfl) (by kernel_rfl) rfl (Ev.move rfl) ?_
    refine HdJ.step [6, 10] (by kernel_rfl) rfl ?_
    refine HdStep.cons (by decide) rfl (fun inv => ?_) ?_
    · have g17 := lat_some h3
      refine Lst.run rfl rfl (by decide) (Ev.indexS (α := BitVec 16) (xs := a0) rfl rfl Try.runUnderlying22 Try.sizeOf23 rfl (by decide) (Rd.own (i := 0) rfl rfl rfl) g17.1 g17.2.1) ?_
      refine Lst.nil ?_
      refine At.hd inv (fun w h => (h.weaken (FLe.refl _)).sublist (List.Sublist.cons _ (List.Sublist.refl _))) ?_
      refine HdJ.step [7, 10] (by kernel_rfl) rfl ?_
      refine HdStep.cons (by decide) rfl (fun inv => ?_) ?_
      · refine Lst.run rfl rfl (by decide) (Ev.loadS (α := BitVec 16) rfl (Rd.own (i := 0) rfl rfl rfl) Try.isAgg23 (v := .int .u16 x2.toNat) ((Get.elemN (s := 1) (x := x2) rfl g17.2.2 (Get.here _)).off (by omega))) ?_
        refine Lst.nil ?_
        refine At.hd inv (fun w h => (h.weaken (FLe.refl _)).sublist (List.Sublist.cons _ (List.Sublist.refl _))) ?_
        refine HdJ.step [10] (by kernel_rfl) rfl ?_
        refine HdStep.cons (by decide) rfl (fun inv => ?_) ?_
        · have g18 := lat_some h6
          refine Lst.run rfl rfl (by decide) (Ev.indexS (α := BitVec 16) (xs := a0) rfl rfl Try.runUnderlying22 Try.sizeOf23 rfl (by decide) (Rd.own (i := 0) rfl rfl rfl) g18.1 g18.2.1) ?_
          refine Lst.nil ?_
          refine At.hd inv (fun w h => (h.weaken (FLe.refl _)).sublist (List.Sublist.cons _ (List.Sublist.refl _))) ?_
          refine HdJ.step [11] (by kernel_rfl) rfl ?_
          refine HdStep.cons (by decide) rfl (fun inv => ?_) ?_
          · refine Lst.run rfl rfl (by decide) (Ev.loadS (α := BitVec 16) rfl (Rd.own (i := 0) rfl rfl rfl) Try.isAgg23 (v := .int .u16 x5.toNat) ((Get.elemN (s := 1) (x := x5) rfl g18.2.2 (Get.here _)).off (by omega))) ?_
            refine Lst.nil ?_
            refine At.hd inv (fun w h => (h.weaken (FLe.refl _)).sublist (List.Sublist.cons _ (List.Sublist.refl _))) ?_
            refine HdJ.step [12] (by kernel_rfl) rfl ?_
            refine HdStep.cons (by decide) rfl (fun inv => ?_) ?_
            · have g19 := lat_some h9
              refine Lst.run rfl rfl (by decide) (Ev.indexS (α := BitVec 16) (xs := a0) rfl rfl Try.runUnderlying22 Try.sizeOf23 rfl (by decide) (Rd.own (i := 0) rfl rfl rfl) g19.1 g19.2.1) ?_
              refine Lst.nil ?_
              refine At.hd inv (fun w h => (h.weaken (FLe.refl _)).sublist (List.Sublist.cons _ (List.Sublist.refl _))) ?_
              refine HdJ.step [13] (by kernel_rfl) rfl ?_
              refine HdStep.cons (by decide) rfl (fun inv => ?_) ?_
              · refine Lst.storeS (i := 0) rfl rfl rfl rfl rfl Try.sizeOf23 (vs := [.int .u16 x2.toNat]) rfl rfl (by decide) rfl (xs' := encs p11) (by rw [← h12]; exact (Put.elemN (s := 1) (x := x8) rfl g19.2.2 (Put.here (vs := [.int .u16 x2.toNat]) rfl)).off (by omega)) (L' := (.own s_a0 23 1 (encs p11)) :: L) rfl ?_
                refine Lst.nil ?_
                refine At.hd inv (fun w h => (h.weaken (FLe.refl _)).sublist (List.Sublist.cons _ (List.Sublist.refl _))) ?_
                refine HdJ.done (by kernel_rfl) ?_
                exact At.meetN p11 (FLe.refl _) ⟨rfl, rfl, rfl, rfl, rfl, rfl, rfl, trivial⟩ rfl h16
              exact trivial
            exact trivial
          exact trivial
        exact trivial
      refine HdStep.cons (by decide) rfl (fun inv => ?_) ?_
      · have g20 := lat_some h6
        refine Lst.run rfl rfl (by decide) (Ev.indexS (α := BitVec 16) (xs := a0) rfl rfl Try.runUnderlying22 Try.sizeOf23 rfl (by decide) (Rd.own (i := 0) rfl rfl rfl) g20.1 g20.2.1) ?_
        refine Lst.nil ?_
        refine At.hd inv (fun w h => (h.weaken (FLe.refl _)).sublist (List.Sublist.cons _ (List.Sublist.refl _))) ?_
        refine HdJ.step [7, 11] (by kernel_rfl) rfl ?_
        refine HdStep.cons (by decide) rfl (fun inv => ?_) ?_
        · refine Lst.run rfl rfl (by decide) (Ev.loadS (α := BitVec 16) rfl (Rd.own (i := 0) rfl rfl rfl) Try.isAgg23 (v := .int .u16 x2.toNat) ((Get.elemN (s := 1) (x := x2) rfl g17.2.2 (Get.here _)).off (by omega))) ?_
          refine Lst.nil ?_
          refine At.hd inv (fun w h => (h.weaken (FLe.refl _)).sublist (List.Sublist.cons _ (List.Sublist.refl _))) ?_
          refine HdJ.step [11] (by kernel_rfl) rfl ?_
          refine HdStep.cons (by decide) rfl (fun inv => ?_) ?_
          · refine Lst.run rfl rfl (by decide) (Ev.loadS (α := BitVec 16) rfl (Rd.own (i := 0) rfl rfl rfl) Try.isAgg23 (v := .int .u16 x5.toNat) ((Get.elemN (s := 1) (x := x5) rfl g20.2.2 (Get.here _)).off (by omega))) ?_
            refine Lst.nil ?_
            refine At.hd inv (fun w h => (h.weaken (FLe.refl _)).sublist (List.Sublist.cons _ (List.Sublist.refl _))) ?_
            refine HdJ.step [12] (by kernel_rfl) rfl ?_
            refine HdStep.cons (by decide) rfl (fun inv => ?_) ?_
            · have g21 := lat_some h9
              refine Lst.run rfl rfl (by decide) (Ev.indexS (α := BitVec 16) (xs := a0) rfl rfl Try.runUnderlying22 Try.sizeOf23 rfl (by decide) (Rd.own (i := 0) rfl rfl rfl) g21.1 g21.2.1) ?_
              refine Lst.nil ?_
              refine At.hd inv (fun w h => (h.weaken (FLe.refl _)).sublist (List.Sublist.cons _ (List.Sublist.refl _))) ?_
              refine HdJ.step [13] (by kernel_rfl) rfl ?_
              refine HdStep.cons (by decide) rfl (fun inv => ?_) ?_
              · refine Lst.storeS (i := 0) rfl rfl rfl rfl rfl Try.sizeOf23 (vs := [.int .u16 x2.toNat]) rfl rfl (by decide) rfl (xs' := encs p11) (by rw [← h12]; exact (Put.elemN (s := 1) (x := x8) rfl g21.2.2 (Put.here (vs := [.int .u16 x2.toNat]) rfl)).off (by omega)) (L' := (.own s_a0 23 1 (encs p11)) :: L) rfl ?_
                refine Lst.nil ?_
                refine At.hd inv (fun w h => (h.weaken (FLe.refl _)).sublist (List.Sublist.cons _ (List.Sublist.refl _))) ?_
                refine HdJ.done (by kernel_rfl) ?_
                exact At.meetN p11 (FLe.refl _) ⟨rfl, rfl, rfl, rfl, rfl, rfl, rfl, trivial⟩ rfl h16
              exact trivial
            exact trivial
          exact trivial
        refine HdStep.cons (by decide) rfl (fun inv => ?_) ?_
        · refine Lst.run rfl rfl (by decide) (Ev.loadS (α := BitVec 16) rfl (Rd.own (i := 0) rfl rfl rfl) Try.isAgg23 (v := .int .u16 x5.toNat) ((Get.elemN (s := 1) (x := x5) rfl g20.2.2 (Get.here _)).off (by omega))) ?_
          refine Lst.nil ?_
          refine At.hd inv (fun w h => (h.weaken (FLe.refl _)).sublist (List.Sublist.cons _ (List.Sublist.refl _))) ?_
          refine HdJ.step [7] (by kernel_rfl) rfl ?_
          refine HdStep.cons (by decide) rfl (fun inv => ?_) ?_
          · refine Lst.run rfl rfl (by decide) (Ev.loadS (α := BitVec 16) rfl (Rd.own (i := 0) rfl rfl rfl) Try.isAgg23 (v := .int .u16 x2.toNat) ((Get.elemN (s := 1) (x := x2) rfl g17.2.2 (Get.here _)).off (by omega))) ?_
            refine Lst.nil ?_
            refine At.hd inv (fun w h => (h.weaken (FLe.refl _)).sublist (List.Sublist.cons _ (List.Sublist.refl _))) ?_
            refine HdJ.step [12] (by kernel_rfl) rfl ?_
            refine HdStep.cons (by decide) rfl (fun inv => ?_) ?_
            · have g22 := lat_some h9
              refine Lst.run rfl rfl (by decide) (Ev.indexS (α := BitVec 16) (xs := a0) rfl rfl Try.runUnderlying22 Try.sizeOf23 rfl (by decide) (Rd.own (i := 0) rfl rfl rfl) g22.1 g22.2.1) ?_
              refine Lst.nil ?_
              refine At.hd inv (fun w h => (h.weaken (FLe.refl _)).sublist (List.Sublist.cons _ (List.Sublist.refl _))) ?_
              refine HdJ.step [13] (by kernel_rfl) rfl ?_
              refine HdStep.cons (by decide) rfl (fun inv => ?_) ?_
              · refine Lst.storeS (i := 0) rfl rfl rfl rfl rfl Try.sizeOf23 (vs := [.int .u16 x2.toNat]) rfl rfl (by decide) rfl (xs' := encs p11) (by rw [← h12]; exact (Put.elemN (s := 1) (x := x8) rfl g22.2.2 (Put.here (vs := [.int .u16 x2.toNat]) rfl)).off (by omega)) (L' := (.own s_a0 23 1 (encs p11)) :: L) rfl ?_
                refine Lst.nil ?_
                refine At.hd inv (fun w h => (h.weaken (FLe.refl _)).sublist (List.Sublist.cons _ (List.Sublist.refl _))) ?_
                refine HdJ.done (by kernel_rfl) ?_
                exact At.meetN p11 (FLe.refl _) ⟨rfl, rfl, rfl, rfl, rfl, rfl, rfl, trivial⟩ rfl h16
              exact trivial
            exact trivial
          exact trivial
        exact trivial
      exact trivial
    refine HdStep.cons (by decide) rfl (fun inv => ?_) ?_
    · have g23 := lat_some h6
      refine Lst.run rfl rfl (by decide) (Ev.indexS (α := BitVec 16) (xs := a0) rfl rfl Try.runUnderlying22 Try.sizeOf23 rfl (by decide) (Rd.own (i := 0) rfl rfl rfl) g23.1 g23.2.1) ?_
      refine Lst.nil ?_
      refine At.hd inv (fun w h => (h.weaken (FLe.refl _)).sublist (List.Sublist.cons _ (List.Sublist.refl _))) ?_
      refine HdJ.step [6, 11] (by kernel_rfl) rfl ?_
      refine HdStep.cons (by decide) rfl (fun inv => ?_) ?_
      · have g24 := lat_some h3
        refine Lst.run rfl rfl (by decide) (Ev.indexS (α := BitVec 16) (xs := a0) rfl rfl Try.runUnderlying22 Try.sizeOf23 rfl (by decide) (Rd.own (i := 0) rfl rfl rfl) g24.1 g24.2.1) ?_
        refine Lst.nil ?_
        refine At.hd inv (fun w h => (h.weaken (FLe.refl _)).sublist (List.Sublist.cons _ (List.Sublist.refl _))) ?_
        refine HdJ.step [7, 11] (by kernel_rfl) rfl ?_
        refine HdStep.cons (by decide) rfl (fun inv => ?_) ?_
        · refine Lst.run rfl rfl (by decide) (Ev.loadS (α := BitVec 16) rfl (Rd.own (i := 0) rfl rfl rfl) Try.isAgg23 (v := .int .u16 x2.toNat) ((Get.elemN (s := 1) (x := x2) rfl g24.2.2 (Get.here _)).off (by omega))) ?_
          refine Lst.nil ?_
          refine At.hd inv (fun w h => (h.weaken (FLe.refl _)).sublist (List.Sublist.cons _ (List.Sublist.refl _))) ?_
          refine HdJ.step [11] (by kernel_rfl) rfl ?_
          refine HdStep.cons (by decide) rfl (fun inv => ?_) ?_
          · refine Lst.run rfl rfl (by decide) (Ev.loadS (α := BitVec 16) rfl (Rd.own (i := 0) rfl rfl rfl) Try.isAgg23 (v := .int .u16 x5.toNat) ((Get.elemN (s := 1) (x := x5) rfl g23.2.2 (Get.here _)).off (by omega))) ?_
            refine Lst.nil ?_
            refine At.hd inv (fun w h => (h.weaken (FLe.refl _)).sublist (List.Sublist.cons _ (List.Sublist.refl _))) ?_
            refine HdJ.step [12] (by kernel_rfl) rfl ?_
            refine HdStep.cons (by decide) rfl (fun inv => ?_) ?_
            · have g25 := lat_some h9
              refine Lst.run rfl rfl (by decide) (Ev.indexS (α := BitVec 16) (xs := a0) rfl rfl Try.runUnderlying22 Try.sizeOf23 rfl (by decide) (Rd.own (i := 0) rfl rfl rfl) g25.1 g25.2.1) ?_
              refine Lst.nil ?_
              refine At.hd inv (fun w h => (h.weaken (FLe.refl _)).sublist (List.Sublist.cons _ (List.Sublist.refl _))) ?_
              refine HdJ.step [13] (by kernel_rfl) rfl ?_
              refine HdStep.cons (by decide) rfl (fun inv => ?_) ?_
              · refine Lst.storeS (i := 0) rfl rfl rfl rfl rfl Try.sizeOf23 (vs := [.int .u16 x2.toNat]) rfl rfl (by decide) rfl (xs' := encs p11) (by rw [← h12]; exact (Put.elemN (s := 1) (x := x8) rfl g25.2.2 (Put.here (vs := [.int .u16 x2.toNat]) rfl)).off (by omega)) (L' := (.own s_a0 23 1 (encs p11)) :: L) rfl ?_
                refine Lst.nil ?_
                refine At.hd inv (fun w h => (h.weaken (FLe.refl _)).sublist (List.Sublist.cons _ (List.Sublist.refl _))) ?_
                refine HdJ.done (by kernel_rfl) ?_
                exact At.meetN p11 (FLe.refl _) ⟨rfl, rfl, rfl, rfl, rfl, rfl, rfl, trivial⟩ rfl h16
              exact trivial
            exact trivial
          exact trivial
        refine HdStep.cons (by decide) rfl (fun inv => ?_) ?_
        · refine Lst.run rfl rfl (by decide) (Ev.loadS (α := BitVec 16) rfl (Rd.own (i := 0) rfl rfl rfl) Try.isAgg23 (v := .int .u16 x5.toNat) ((Get.elemN (s := 1) (x := x5) rfl g23.2.2 (Get.here _)).off (by omega))) ?_
          refine Lst.nil ?_
          refine At.hd inv (fun w h => (h.weaken (FLe.refl _)).sublist (List.Sublist.cons _ (List.Sublist.refl _))) ?_
          refine HdJ.step [7] (by kernel_rfl) rfl ?_
          refine HdStep.cons (by decide) rfl (fun inv => ?_) ?_
          · refine Lst.run rfl rfl (by decide) (Ev.loadS (α := BitVec 16) rfl (Rd.own (i := 0) rfl rfl rfl) Try.isAgg23 (v := .int .u16 x2.toNat) ((Get.elemN (s := 1) (x := x2) rfl g24.2.2 (Get.here _)).off (by omega))) ?_
            refine Lst.nil ?_
            refine At.hd inv (fun w h => (h.weaken (FLe.refl _)).sublist (List.Sublist.cons _ (List.Sublist.refl _))) ?_
            refine HdJ.step [12] (by kernel_rfl) rfl ?_
            refine HdStep.cons (by decide) rfl (fun inv => ?_) ?_
            · have g26 := lat_some h9
              refine Lst.run rfl rfl (by decide) (Ev.indexS (α := BitVec 16) (xs := a0) rfl rfl Try.runUnderlying22 Try.sizeOf23 rfl (by decide) (Rd.own (i := 0) rfl rfl rfl) g26.1 g26.2.1) ?_
              refine Lst.nil ?_
              refine At.hd inv (fun w h => (h.weaken (FLe.refl _)).sublist (List.Sublist.cons _ (List.Sublist.refl _))) ?_
              refine HdJ.step [13] (by kernel_rfl) rfl ?_
              refine HdStep.cons (by decide) rfl (fun inv => ?_) ?_
              · refine Lst.storeS (i := 0) rfl rfl rfl rfl rfl Try.sizeOf23 (vs := [.int .u16 x2.toNat]) rfl rfl (by decide) rfl (xs' := encs p11) (by rw [← h12]; exact (Put.elemN (s := 1) (x := x8) rfl g26.2.2 (Put.here (vs := [.int .u16 x2.toNat]) rfl)).off (by omega)) (L' := (.own s_a0 23 1 (encs p11)) :: L) rfl ?_
                refine Lst.nil ?_
                refine At.hd inv (fun w h => (h.weaken (FLe.refl _)).sublist (List.Sublist.cons _ (List.Sublist.refl _))) ?_
                refine HdJ.done (by kernel_rfl) ?_
                exact At.meetN p11 (FLe.refl _) ⟨rfl, rfl, rfl, rfl, rfl, rfl, rfl, trivial⟩ rfl h16
              exact trivial
            exact trivial
          exact trivial
        exact trivial
      refine HdStep.cons (by decide) rfl (fun inv => ?_) ?_
      · refine Lst.run rfl rfl (by decide) (Ev.loadS (α := BitVec 16) rfl (Rd.own (i := 0) rfl rfl rfl) Try.isAgg23 (v := .int .u16 x5.toNat) ((Get.elemN (s := 1) (x := x5) rfl g23.2.2 (Get.here _)).off (by omega))) ?_
        refine Lst.nil ?_
        refine At.hd inv (fun w h => (h.weaken (FLe.refl _)).sublist (List.Sublist.cons _ (List.Sublist.refl _))) ?_
        refine HdJ.step [6] (by kernel_rfl) rfl ?_
        refine HdStep.cons (by decide) rfl (fun inv => ?_) ?_
        · have g27 := lat_some h3
          refine Lst.run rfl rfl (by decide) (Ev.indexS (α := BitVec 16) (xs := a0) rfl rfl Try.runUnderlying22 Try.sizeOf23 rfl (by decide) (Rd.own (i := 0) rfl rfl rfl) g27.1 g27.2.1) ?_
          refine Lst.nil ?_
          refine At.hd inv (fun w h => (h.weaken (FLe.refl _)).sublist (List.Sublist.cons _ (List.Sublist.refl _))) ?_
          refine HdJ.step [7] (by kernel_rfl) rfl ?_
          refine HdStep.cons (by decide) rfl (fun inv => ?_) ?_
          · refine Lst.run rfl rfl (by decide) (Ev.loadS (α := BitVec 16) rfl (Rd.own (i := 0) rfl rfl rfl) Try.isAgg23 (v := .int .u16 x2.toNat) ((Get.elemN (s := 1) (x := x2) rfl g27.2.2 (Get.here _)).off (by omega))) ?_
            refine Lst.nil ?_
            refine At.hd inv (fun w h => (h.weaken (FLe.refl _)).sublist (List.Sublist.cons _ (List.Sublist.refl _))) ?_
            refine HdJ.step [12] (by kernel_rfl) rfl ?_
            refine HdStep.cons (by decide) rfl (fun inv => ?_) ?_
            · have g28 := lat_some h9
              refine Lst.run rfl rfl (by decide) (Ev.indexS (α := BitVec 16) (xs := a0) rfl rfl Try.runUnderlying22 Try.sizeOf23 rfl (by decide) (Rd.own (i := 0) rfl rfl rfl) g28.1 g28.2.1) ?_
              refine Lst.nil ?_
              refine At.hd inv (fun w h => (h.weaken (FLe.refl _)).sublist (List.Sublist.cons _ (List.Sublist.refl _))) ?_
              refine HdJ.step [13] (by kernel_rfl) rfl ?_
              refine HdStep.cons (by decide) rfl (fun inv => ?_) ?_
              · refine Lst.storeS (i := 0) rfl rfl rfl rfl rfl Try.sizeOf23 (vs := [.int .u16 x2.toNat]) rfl rfl (by decide) rfl (xs' := encs p11) (by rw [← h12]; exact (Put.elemN (s := 1) (x := x8) rfl g28.2.2 (Put.here (vs := [.int .u16 x2.toNat]) rfl)).off (by omega)) (L' := (.own s_a0 23 1 (encs p11)) :: L) rfl ?_
                refine Lst.nil ?_
                refine At.hd inv (fun w h => (h.weaken (FLe.refl _)).sublist (List.Sublist.cons _ (List.Sublist.refl _))) ?_
                refine HdJ.done (by kernel_rfl) ?_
                exact At.meetN p11 (FLe.refl _) ⟨rfl, rfl, rfl, rfl, rfl, rfl, rfl, trivial⟩ rfl h16
              exact trivial
            exact trivial
          exact trivial
        exact trivial
      exact trivial
    exact trivial
  rintro F29 l14 hF30 hy
  subst hy
  refine Lst.as (e' := [(0, Sl.v s_a0), (1, .int .i64 a1), (2, .int .i64 a2), (4, .func (.func 53) #[] #[]), (16, Sl.v s_a0), (17, .int .i64 a3), (25, .int .u16 x5.toNat)]) (L' := (.own s_a0 23 1 (encs l14)) :: L) ⟨rfl, rfl, rfl, rfl, rfl, rfl, rfl, trivial⟩ rfl ?_
  obtain ⟨x31, h32, H⟩ := bind_some H
  have g33 := lat_some h32
  refine Lst.run rfl rfl (by decide) (Ev.indexS (α := BitVec 16) (xs := l14) rfl rfl Try.runUnderlying22 Try.sizeOf23 rfl (by decide) (Rd.own (i := 0) rfl rfl rfl) g33.1 g33.2.1) ?_
  obtain ⟨p34, h35, H⟩ := Let_some H
  refine Lst.storeS (i := 0) rfl rfl rfl rfl rfl Try.sizeOf23 (vs := [.int .u16 x5.toNat]) rfl rfl (by decide) rfl (xs' := encs p34) (by rw [← h35]; exact (Put.elemN (s := 1) (x := x31) rfl g33.2.2 (Put.here (vs := [.int .u16 x5.toNat]) rfl)).off (by omega)) (L' := (.own s_a0 23 1 (encs p34)) :: L) rfl ?_
  refine Lst.nil ?_
  refine At.then ?_
  refine Cd.seq ?_
  refine Cd.region ?_
  refine Lst.run rfl rfl (by decide) (Ev.move rfl) ?_
  refine Lst.run rfl rfl (by decide) (Ev.add rfl rfl) ?_
  refine Lst.run rfl rfl (by decide) (Ev.move rfl) ?_
  refine Lst.run rfl rfl (by decide) (Ev.sub rfl rfl) ?_
  refine Lst.run rfl rfl (by decide) (Ev.assign rfl) ?_
  refine Lst.run rfl rfl (by decide) (Ev.assign rfl) ?_
  refine Lst.nil ?_
  refine At.then ?_
  refine Cd.seq ?_
  refine Cd.block ?_
  obtain ⟨ol36, H, HKl36⟩ := andThen_some H
  refine Cd.loop (σ := Nat × Int) (fun (k36, y37) => [(0, Sl.v s_a0), (1, .int .i64 a1), (4, .func (.func 53) #[] #[]), (12, .int .i64 y37), (13, .int .i64 (w64 (a2 - (1 : Int))))]) (fun (k36, y37) => (.own s_a0 23 1 (encs p34)) :: L) (fun _ => (fun (k36, y37) => whileM (slices_partitionCmpFunc_uint16_quorum_compare_B0 a1 a2 p34) k36 y37 = some ol36)) (fun (k36, y37) => k36) (fu, w64 (a1 + (1 : Int))) ⟨rfl, rfl, rfl, rfl, rfl, trivial⟩ rfl H ?_
  rintro F38 ⟨k36, y37⟩ hF39 H
  refine Cd.as (e' := [(0, Sl.v s_a0), (1, .int .i64 a1), (4, .func (.func 53) #[] #[]), (12, .int .i64 y37), (13, .int .i64 (w64 (a2 - (1 : Int))))]) (L' := (.own s_a0 23 1 (encs p34)) :: L) ⟨rfl, rfl, rfl, rfl, rfl, trivial⟩ rfl ?_
  rcases k36 with _ | k36
  · cases H
  obtain ⟨c36, H, hgo36, hbrk36, hret36⟩ := whileM_go H
  unfold slices_partitionCmpFunc_uint16_quorum_compare_B0 at H
  try dsimp only at H
  refine Cd.seq ?_
  refine Cd.seq ?_
  refine Cd.quiet (by kernel_rfl) (by kernel_rfl) ?_
  refine Qt.run rfl rfl (by decide) (Ev.move rfl) ?_
  refine Qt.run rfl rfl (by decide) (Ev.move rfl) ?_
  refine Qt.run rfl rfl (by decide) (Ev.leq rfl rfl) ?_
  refine Qt.run rfl rfl (by decide) (Ev.move rfl) ?_
  obtain ⟨o40, H, HKo40⟩ := bind_some H
  refine Qt.join (σ := Bool) 12 (fun y41 => [(0, Sl.v s_a0), (1, .int .i64 a1), (4, .func (.func 53) #[] #[]), (12, .int .i64 y37), (13, .int .i64 (w64 (a2 - (1 : Int)))), (47, .bool y41)]) (fun y41 => y41 = o40) ?_ ?_
  · rcases (Bool.eq_false_or_eq_true (decide (y37 ≤ (w64 (a2 - (1 : Int)))))).symm with hb42 | hb42
    · replace H := ite_f hb42 H
      refine Qt.skip rfl rfl rfl hb42 rfl (by decide) ?_
      refine Qt.skip rfl rfl rfl hb42 rfl (by decide) ?_
      refine Qt.skip rfl rfl rfl hb42 rfl (by decide) ?_
      refine Qt.skip rfl rfl rfl hb42 rfl (by decide) ?_
      refine Qt.skip rfl rfl rfl hb42 rfl (by decide) ?_
      refine Qt.skip rfl rfl rfl hb42 rfl (by decide) ?_
      refine Qt.skip rfl rfl rfl hb42 rfl (by decide) ?_
      refine Qt.skip rfl rfl rfl hb42 rfl (by decide) ?_
      refine Qt.skip rfl rfl rfl hb42 rfl (by decide) ?_
      refine Qt.skip rfl rfl rfl hb42 rfl (by decide) ?_
      refine Qt.skip rfl rfl rfl hb42 rfl (by decide) ?_
      refine Qt.run rfl rfl (by decide) (Ev.pickF rfl hb42 rfl) ?_
      exact Qt.meet false ⟨rfl, rfl, rfl, rfl, rfl, rfl, trivial⟩ (some_inj H)
    replace H := ite_t hb42 H
    refine Qt.runG rfl rfl rfl hb42 rfl (by decide) (Ev.move rfl) ?_
    refine Qt.runG rfl rfl rfl hb42 rfl (by decide) (Ev.move rfl) ?_
    refine Qt.runG rfl rfl rfl hb42 rfl (by decide) (Ev.move rfl) ?_
    obtain ⟨x43, h44, H⟩ := bind_some H
    have g45 := lat_some h44
    refine Qt.runG rfl rfl rfl hb42 rfl (by decide) (Ev.indexS (α := BitVec 16) (xs := p34) rfl rfl Try.runUnderlying22 Try.sizeOf23 rfl (by decide) (Rd.own (i := 0) rfl rfl rfl) g45.1 g45.2.1) ?_
    refine Qt.runG rfl rfl rfl hb42 rfl (by decide) (Ev.loadS (α := BitVec 16) rfl (Rd.own (i := 0) rfl rfl rfl) Try.isAgg23 (v := .int .u16 x43.toNat) ((Get.elemN (s := 1) (x := x43) rfl g45.2.2 (Get.here _)).off (by omega))) ?_
    refine Qt.runG rfl rfl rfl hb42 rfl (by decide) (Ev.move rfl) ?_
    refine Qt.runG rfl rfl rfl hb42 rfl (by decide) (Ev.move rfl) ?_
    obtain ⟨x46, h47, H⟩ := bind_some H
    have g48 := lat_some h47
    refine Qt.runG rfl rfl rfl hb42 rfl (by decide) (Ev.indexS (α := BitVec 16) (xs := p34) rfl rfl Try.runUnderlying22 Try.sizeOf23 rfl (by decide) (Rd.own (i := 0) rfl rfl rfl) g48.1 g48.2.1) ?_
    refine Qt.runG rfl rfl rfl hb42 rfl (by decide) (Ev.loadS (α := BitVec 16) rfl (Rd.own (i := 0) rfl rfl rfl) Try.isAgg23 (v := .int .u16 x46.toNat) ((Get.elemN (s := 1) (x := x46) rfl g48.2.2 (Get.here _)).off (by omega))) ?_
    obtain ⟨r49, h50, H⟩ := bind_some H
    refine Qt.callVG rfl rfl rfl hb42 rfl (by decide) (vs := [.int .u16 x43.toNat, .int .u16 x46.toNat]) (cs := []) rfl ⟨rfl, rfl, trivial⟩ Try.call53 (quorum_compare_sim h50 w0 _ M _ (List.Sublist.cons _ hM)) ?_
    refine Qt.runG rfl rfl rfl hb42 rfl (by decide) (Ev.lss rfl rfl) ?_
    refine Qt.run rfl rfl (by decide) (Ev.pickT rfl hb42 rfl) ?_
    exact Qt.meet (decide (r49 < (0 : Int))) ⟨rfl, rfl, rfl, rfl, rfl, rfl, trivial⟩ (some_inj H)
  rintro y41 hy
  subst hy
  refine Qt.as (e' := [(0, Sl.v s_a0), (1, .int .i64 a1), (4, .func (.func 53) #[] #[]), (12, .int .i64 y37), (13, .int .i64 (w64 (a2 - (1 : Int)))), (47, .bool y41)]) ⟨rfl, rfl, rfl, rfl, rfl, rfl, trivial⟩ ?_
  replace H := HKo40
  refine Qt.done ?_
  refine At.then ?_
  rcases (Bool.eq_false_or_eq_true y41).symm with hb53 | hb53
  · replace H := ite_f hb53 H
    refine Cd.condF rfl hb53 ?_
    refine Cd.exit ?_
    refine At.then_exit ?_
    refine At.then_exit ?_
    refine At.in_exit ?_
    have H := hbrk36 _ (some_inj H).symm
    subst H
    replace H := HKl36
    refine At.then ?_
    refine Cd.seq ?_
    refine Cd.block ?_
    obtain ⟨ol54, H, HKl54⟩ := andThen_some H
    refine Cd.loop (σ := Nat × Int) (fun (k54, y55) => [(0, Sl.v s_a0), (1, .int .i64 a1), (4, .func (.func 53) #[] #[]), (12, .int .i64 y37), (13, .int .i64 y55)]) (fun (k54, y55) => (.own s_a0 23 1 (encs p34)) :: L) (fun _ => (fun (k54, y55) => whileM (slices_partitionCmpFunc_uint16_quorum_compare_B2 a1 p34 y37) k54 y55 = some ol54)) (fun (k54, y55) => k54) (fu, w64 (a2 - (1 : Int))) ⟨rfl, rfl, rfl, rfl, rfl, trivial⟩ rfl H ?_
    rintro F56 ⟨k54, y55⟩ hF57 H
    refine Cd.as (e' := [(0, Sl.v s_a0), (1, .int .i64 a1), (4, .func (.func 53) #[] #[]), (12, .int .i64 y37), (13, .int .i64 y55)]) (L' := (.own s_a0 23 1 (encs p34)) :: L) ⟨rfl, rfl, rfl, rfl, rfl, trivial⟩ rfl ?_
    rcases k54 with _ | k54
    · cases H
    obtain ⟨c54, H, hgo54, hbrk54, hret54⟩ := whileM_go H
    unfold slices_partitionCmpFunc_uint16_quorum_compare_B2 at H
    try dsimp only at H
    refine Cd.seq ?_
    refine Cd.seq ?_
    refine Cd.quiet (by kernel_rfl) (by kernel_rfl) ?_
    refine Qt.run rfl rfl (by decide) (Ev.move rfl) ?_
    refine Qt.run rfl rfl (by decide) (Ev.move rfl) ?_
    refine Qt.run rfl rfl (by decide) (Ev.leq rfl rfl) ?_
    refine Qt.run rfl rfl (by decide) (Ev.move rfl) ?_
    obtain ⟨o58, H, HKo58⟩ := bind_some H
    refine Qt.join (σ := Bool) 13 (fun y59 => [(0, Sl.v s_a0), (1, .int .i64 a1), (4, .func (.func 53) #[] #[]), (12, .int .i64 y37), (13, .int .i64 y55), (66, .bool y59)]) (fun y59 => y59 = o58) ?_ ?_
    · rcases (Bool.eq_false_or_eq_true (decide (y37 ≤ y55))).symm with hb60 | hb60
      · replace H := ite_f hb60 H
        refine Qt.skip rfl rfl rfl hb60 rfl (by decide) ?_
        refine Qt.skip rfl rfl rfl hb60 rfl (by decide) ?_
        refine Qt.skip rfl rfl rfl hb60 rfl (by decide) ?_
        refine Qt.skip rfl rfl rfl hb60 rfl (by decide) ?_
        refine Qt.skip rfl rfl rfl hb60 rfl (by decide) ?_
        refine Qt.skip rfl rfl rfl hb60 rfl (by decide) ?_
        refine Qt.skip rfl rfl rfl hb60 rfl (by decide) ?_
        refine Qt.skip rfl rfl rfl hb60 rfl (by decide) ?_
        refine Qt.skip rfl rfl rfl hb60 rfl (by decide) ?_
        refine Qt.skip rfl rfl rfl hb60 rfl (by decide) ?_
        refine Qt.skip rfl rfl rfl hb60 rfl (by decide) ?_
        refine Qt.skip rfl rfl rfl hb60 rfl (by decide) ?_
        refine Qt.run rfl rfl (by decide) (Ev.pickF rfl hb60 rfl) ?_
        exact Qt.meet false ⟨rfl, rfl, rfl, rfl, rfl, rfl, trivial⟩ (some_inj H)
      replace H := ite_t hb60 H
      refine Qt.runG rfl rfl rfl hb60 rfl (by decide) (Ev.move rfl) ?_
      refine Qt.runG rfl rfl rfl hb60 rfl (by decide) (Ev.move rfl) ?_
      refine Qt.runG rfl rfl rfl hb60 rfl (by decide) (Ev.move rfl) ?_
      obtain ⟨x61, h62, H⟩ := bind_some H
      have g63 := lat_some h62
      refine Qt.runG rfl rfl rfl hb60 rfl (by decide) (Ev.indexS (α := BitVec 16) (xs := p34) rfl rfl Try.runUnderlying22 Try.sizeOf23 rfl (by decide) (Rd.own (i := 0) rfl rfl rfl) g63.1 g63.2.1) ?_
      refine Qt.runG rfl rfl rfl hb60 rfl (by decide) (Ev.loadS (α := BitVec 16) rfl (Rd.own (i := 0) rfl rfl rfl) Try.isAgg23 (v := .int .u16 x61.toNat) ((Get.elemN (s := 1) (x := x61) rfl g63.2.2 (Get.here _)).off (by omega))) ?_
      refine Qt.runG rfl rfl rfl hb60 rfl (by decide) (Ev.move rfl) ?_
      refine Qt.runG rfl rfl rfl hb60 rfl (by decide) (Ev.move rfl) ?_
      obtain ⟨x64, h65, H⟩ := bind_some H
      have g66 := lat_some h65
      refine Qt.runG rfl rfl rfl hb60 rfl (by decide) (Ev.indexS (α := BitVec 16) (xs := p34) rfl rfl Try.runUnderlying22 Try.sizeOf23 rfl (by decide) (Rd.own (i := 0) rfl rfl rfl) g66.1 g66.2.1) ?_
      refine Qt.runG rfl rfl rfl hb60 rfl (by decide) (Ev.loadS (α := BitVec 16) rfl (Rd.own (i := 0) rfl rfl rfl) Try.isAgg23 (v := .int .u16 x64.toNat) ((Get.elemN (s := 1) (x := x64) rfl g66.2.2 (Get.here _)).off (by omega))) ?_
      obtain ⟨r67, h68, H⟩ := bind_some H
      refine Qt.callVG rfl rfl rfl hb60 rfl (by decide) (vs := [.int .u16 x61.toNat, .int .u16 x64.toNat]) (cs := []) rfl ⟨rfl, rfl, trivial⟩ Try.call53 (quorum_compare_sim h68 w0 _ M _ (List.Sublist.cons _ hM)) ?_
      refine Qt.runG rfl rfl rfl hb60 rfl (by decide) (Ev.lss rfl rfl) ?_
      refine Qt.runG rfl rfl rfl hb60 rfl (by decide) (Ev.not rfl) ?_
      refine Qt.run rfl rfl (by decide) (Ev.pickT rfl hb60 rfl) ?_
      exact Qt.meet (!(decide (r67 < (0 : Int)))) ⟨rfl, rfl, rfl, rfl, rfl, rfl, trivial⟩ (some_inj H)
    rintro y59 hy
    subst hy
    refine Qt.as (e' := [(0, Sl.v s_a0), (1, .int .i64 a1), (4, .func (.func 53) #[] #[]), (12, .int .i64 y37), (13, .int .i64 y55), (66, .bool y59)]) ⟨rfl, rfl, rfl, rfl, rfl, rfl, trivial⟩ ?_
    replace H := HKo58
    refine Qt.done ?_
    refine At.then ?_
    rcases (Bool.eq_false_or_eq_true y59).symm with hb71 | hb71
    · replace H := ite_f hb71 H
      refine Cd.condF rfl hb71 ?_
      refine Cd.exit ?_
      refine At.then_exit ?_
      refine At.then_exit ?_
      refine At.in_exit ?_
      have H := hbrk54 _ (some_inj H).symm
      subst H
      replace H := HKl54
      refine At.then ?_
      refine Cd.seq ?_
      refine Cd.seq ?_
      refine Cd.region ?_
      refine Lst.run rfl rfl (by decide) (Ev.move rfl) ?_
      refine Lst.run rfl rfl (by decide) (Ev.move rfl) ?_
      refine Lst.run rfl rfl (by decide) (Ev.gtr rfl rfl) ?_
      refine Lst.nil ?_
      refine At.then ?_
      rcases Bool.eq_false_or_eq_true (decide (y37 > y55)) with hb72 | hb72
      · replace H := ite_t hb72 H
        refine Cd.condT rfl hb72 ?_
        refine Cd.seq ?_
        obtain ⟨x73, h74, H⟩ := bind_some H
        obtain ⟨x76, h77, H⟩ := bind_some H
        obtain ⟨x79, h80, H⟩ := bind_some H
        obtain ⟨p82, h83, H⟩ := Let_some H
        obtain ⟨o86, h87, H⟩ := Let_some H
        refine Cd.headMeet (σ := (List (BitVec 16))) 14 (fun l85 => [(13, .int .i64 y55), (74, Sl.v s_a0), (75, .int .i64 a1), (83, .int .u16 x76.toNat)]) (fun l85 => (.own s_a0 23 1 (encs l85)) :: L) (fun _ l85 => l85 = o86) (by kernel_rfl) (by kernel_rfl) (behind_sink (by kernel_rfl) (by kernel_rfl) (by kernel_rfl)) (by kernel_rfl) (fun hsel hlt => ?_) ?_
        · refine HdJ.keep (fun w => St w0 F56 (L) w) (fun w h => trivial) ?_
          refine HdJ.takeK hsel hlt 0 (fun w h => h.sublist (List.Sublist.cons _ (List.Sublist.refl _))) rfl rfl (by decide) (by decide) (by kernel_rfl) (by kernel_rfl) rfl (Ev.move rfl) ?_
          refine HdJ.takeK hsel hlt 1 (fun w h => h.sublist (List.Sublist.cons _ (List.Sublist.refl _))) rfl rfl (by decide) (by decide) (by kernel_rfl) (by kernel_rfl) rfl (Ev.move rfl) ?_
          refine HdJ.takeK hsel hlt 2 (fun w h => h.sublist (List.Sublist.cons _ (List.Sublist.refl _))) rfl rfl (by decide) (by decide) (by kernel_rfl) (by kernel_rfl) rfl (Ev.move rfl) ?_
          refine HdJ.takeK hsel hlt 3 (fun w h => h.sublist (List.Sublist.cons _ (List.Sublist.refl _))) rfl rfl (by decide) (by decide) (by kernel_rfl) (by kernel_rfl) rfl (Ev.move rfl) ?_
          refine HdJ.takeK hsel hlt 4 (fun w h => h.sublist (List.Sublist.cons _ (List.Sublist.refl _))) rfl rfl (by decide) (by decide) (by kernel_rfl) (by kernel_rfl) rfl (Ev.move rfl) ?_
          refine HdJ.takeK hsel hlt 5 (fun w h => h.sublist (List.Sublist.cons _ (List.Sublist.refl _))) rfl rfl (by decide) (by decide) (by kernel_rfl) (by kernel_rfl) rfl (Ev.move rfl) ?_
          refine HdJ.takeK hsel hlt 8 (fun w h => h.sublist (List.Sublist.cons _ (List.Sublist.refl _))) rfl rfl (by decide) (by decide) (by kernel_rfl) (by kernel_rfl) rfl (Ev.move rfl) ?_
          refine HdJ.takeK hsel hlt 9 (fun w h => h.sublist (List.Sublist.cons _ (List.Sublist.refl _))) rfl rfl (by decide) (by decide) (by kernel_rfl) (by kernel_rfl) rfl (Ev.move rfl) ?_
          refine HdJ.step [6, 10] (by kernel_rfl) rfl ?_
          refine HdStep.cons (by decide) rfl (fun inv => ?_) ?_
          · have g88 := lat_some h74
            refine Lst.run rfl rfl (by decide) (Ev.indexS (α := BitVec 16) (xs := p34) rfl rfl Try.runUnderlying22 Try.sizeOf23 rfl (by decide) (Rd.own (i := 0) rfl rfl rfl) g88.1 g88.2.1) ?_
            refine Lst.nil ?_
            refine At.hd inv (fun w h => (h.weaken (FLe.refl _)).sublist (List.Sublist.cons _ (List.Sublist.refl _))) ?_
            refine HdJ.step [7, 10] (by kernel_rfl) rfl ?_
            refine HdStep.cons (by decide) rfl (fun inv => ?_) ?_
            · refine Lst.run rfl rfl (by decide) (Ev.loadS (α := BitVec 16) rfl (Rd.own (i := 0) rfl rfl rfl) Try.isAgg23 (v := .int .u16 x73.toNat) ((Get.elemN (s := 1) (x := x73) rfl g88.2.2 (Get.here _)).off (by omega))) ?_
              refine Lst.nil ?_
              refine At.hd inv (fun w h => (h.weaken (FLe.refl _)).sublist (List.Sublist.cons _ (List.Sublist.refl _))) ?_
              refine HdJ.step [10] (by kernel_rfl) rfl ?_
              refine HdStep.cons (by decide) rfl (fun inv => ?_) ?_
              · have g89 := lat_some h77
                refine Lst.run rfl rfl (by decide) (Ev.indexS (α := BitVec 16) (xs := p34) rfl rfl Try.runUnderlying22 Try.sizeOf23 rfl (by decide) (Rd.own (i := 0) rfl rfl rfl) g89.1 g89.2.1) ?_
                refine Lst.nil ?_
                refine At.hd inv (fun w h => (h.weaken (FLe.refl _)).sublist (List.Sublist.cons _ (List.Sublist.refl _))) ?_
                refine HdJ.step [11] (by kernel_rfl) rfl ?_
                refine HdStep.cons (by decide) rfl (fun inv => ?_) ?_
                · refine Lst.run rfl rfl (by decide) (Ev.loadS (α := BitVec 16) rfl (Rd.own (i := 0) rfl rfl rfl) Try.isAgg23 (v := .int .u16 x76.toNat) ((Get.elemN (s := 1) (x := x76) rfl g89.2.2 (Get.here _)).off (by omega))) ?_
                  refine Lst.nil ?_
                  refine At.hd inv (fun w h => (h.weaken (FLe.refl _)).sublist (List.Sublist.cons _ (List.Sublist.refl _))) ?_
                  refine HdJ.step [12] (by kernel_rfl) rfl ?_
                  refine HdStep.cons (by decide) rfl (fun inv => ?_) ?_
                  · have g90 := lat_some h80
                    refine Lst.run rfl rfl (by decide) (Ev.indexS (α := BitVec 16) (xs := p34) rfl rfl Try.runUnderlying22 Try.sizeOf23 rfl (by decide) (Rd.own (i := 0) rfl rfl rfl) g90.1 g90.2.1) ?_
                    refine Lst.nil ?_
                    refine At.hd inv (fun w h => (h.weaken (FLe.refl _)).sublist (List.Sublist.cons _ (List.Sublist.refl _))) ?_
                    refine HdJ.step [13] (by kernel_rfl) rfl ?_
                    refine HdStep.cons (by decide) rfl (fun inv => ?_) ?_
                    · refine Lst.storeS (i := 0) rfl rfl rfl rfl rfl Try.sizeOf23 (vs := [.int .u16 x73.toNat]) rfl rfl (by decide) rfl (xs' := encs p82) (by rw [← h83]; exact (Put.elemN (s := 1) (x := x79) rfl g90.2.2 (Put.here (vs := [.int .u16 x73.toNat]) rfl)).off (by omega)) (L' := (.own s_a0 23 1 (encs p82)) :: L) rfl ?_
                      refine Lst.nil ?_
                      refine At.hd inv (fun w h => (h.weaken (FLe.refl _)).sublist (List.Sublist.cons _ (List.Sublist.refl _))) ?_
                      refine HdJ.done (by kernel_rfl) ?_
                      exact At.meetN p82 (FLe.refl _) ⟨rfl, rfl, rfl, rfl, trivial⟩ rfl h87
                    exact trivial
                  exact trivial
                exact trivial
              exact trivial
            refine HdStep.cons (by decide) rfl (fun inv => ?_) ?_
            · have g91 := lat_some h77
              refine Lst.run rfl rfl (by decide) (Ev.indexS (α := BitVec 16) (xs := p34) rfl rfl Try.runUnderlying22 Try.sizeOf23 rfl (by decide) (Rd.own (i := 0) rfl rfl rfl) g91.1 g91.2.1) ?_
              refine Lst.nil ?_
              refine At.hd inv (fun w h => (h.weaken (FLe.refl _)).sublist (List.Sublist.cons _ (List.Sublist.refl _))) ?_
              refine HdJ.step [7, 11] (by kernel_rfl) rfl ?_
              refine HdStep.cons (by decide) rfl (fun inv => ?_) ?_
              · refine Lst.run rfl rfl (by decide) (Ev.loadS (α := BitVec 16) rfl (Rd.own (i := 0) rfl rfl rfl) Try.isAgg23 (v := .int .u16 x73.toNat) ((Get.elemN (s := 1) (x := x73) rfl g88.2.2 (Get.here _)).off (by omega))) ?_
                refine Lst.nil ?_
                refine At.hd inv (fun w h => (h.weaken (FLe.refl _)).sublist (List.Sublist.cons _ (List.Sublist.refl _))) ?_
                refine HdJ.step [11] (by kernel_rfl) rfl ?_
                refine HdStep.cons (by decide) rfl (fun inv => ?_) ?_
                · refine Lst.run rfl rfl (by decide) (Ev.loadS (α := BitVec 16) rfl (Rd.own (i := 0) rfl rfl rfl) Try.isAgg23 (v := .int .u16 x76.toNat) ((Get.elemN (s := 1) (x := x76) rfl g91.2.2 (Get.here _)).off (by omega))) ?_
                  refine Lst.nil ?_
                  refine At.hd inv (fun w h => (h.weaken (FLe.refl _)).sublist (List.Sublist.cons _ (List.Sublist.refl _))) ?_
                  refine HdJ.step [12] (by kernel_rfl) rfl ?_
                  refine HdStep.cons (by decide) rfl (fun inv => ?_) ?_
                  · have g92 := lat_some h80
                    refine Lst.run rfl rfl (by decide) (Ev.indexS (α := BitVec 16) (xs := p34) rfl rfl Try.runUnderlying22 Try.sizeOf23 rfl (by decide) (Rd.own (i := 0) rfl rfl rfl) g92.1 g92.2.1) ?_
                    refine Lst.nil ?_
                    refine At.hd inv (fun w h => (h.weaken (FLe.refl _)).sublist (List.Sublist.cons _ (List.Sublist.refl _))) ?_
                    refine HdJ.step [13] (by kernel_rfl) rfl ?_
                    refine HdStep.cons (by decide) rfl (fun inv => ?_) ?_
                    · refine Lst.storeS (i := 0) rfl rfl rfl rfl rfl Try.sizeOf23 (vs := [.int .u16 x73.toNat]) rfl rfl (by decide) rfl (xs' := encs p82) (by rw [← h83]; exact (Put.elemN (s := 1) (x := x79) rfl g92.2.2 (Put.here (vs := [.int .u16 x73.toNat]) rfl)).off (by omega)) (L' := (.own s_a0 23 1 (encs p82)) :: L) rfl ?_
                      refine Lst.nil ?_
                      refine At.hd inv (fun w h => (h.weaken (FLe.refl _)).sublist (List.Sublist.cons _ (List.Sublist.refl _))) ?_
                      refine HdJ.done (by kernel_rfl) ?_
                      exact At.meetN p82 (FLe.refl _) ⟨rfl, rfl, rfl, rfl, trivial⟩ rfl h87
                    exact trivial
                  exact trivial
                exact trivial
              refine HdStep.cons (by decide) rfl (fun inv => ?_) ?_
              · refine Lst.run rfl rfl (by decide) (Ev.loadS (α := BitVec 16) rfl (Rd.own (i := 0) rfl rfl rfl) Try.isAgg23 (v := .int .u16 x76.toNat) ((Get.elemN (s := 1) (x := x76) rfl g91.2.2 (Get.here _)).off (by omega))) ?_
                refine Lst.nil ?_
                refine At.hd inv (fun w h => (h.weaken (FLe.refl _)).sublist (List.Sublist.cons _ (List.Sublist.refl _))) ?_
                refine HdJ.step [7] (by kernel_rfl) rfl ?_
                refine HdStep.cons (by decide) rfl (fun inv => ?_) ?_
                · refine Lst.run rfl rfl (by decide) (Ev.loadS (α := BitVec 16) rfl (Rd.own (i := 0) rfl rfl rfl) Try.isAgg23 (v := .int .u16 x73.toNat) ((Get.elemN (s := 1) (x := x73) rfl g88.2.2 (Get.here _)).off (by omega))) ?_
                  refine Lst.nil ?_
                  refine At.hd inv (fun w h => (h.weaken (FLe.refl _)).sublist (List.Sublist.cons _ (List.Sublist.refl _))) ?_
                  refine HdJ.step [12] (by kernel_rfl) rfl ?_
                  refine HdStep.cons (by decide) rfl (fun inv => ?_) ?_
                  · have g93 := lat_some h80
                    refine Lst.run rfl rfl (by decide) (Ev.indexS (α := BitVec 16) (xs := p34) rfl rfl Try.runUnderlying22 Try.sizeOf23 rfl (by decide) (Rd.own (i := 0) rfl rfl rfl) g93.1 g93.2.1) ?_
                    refine Lst.nil ?_
                    refine At.hd inv (fun w h => (h.weaken (FLe.refl _)).sublist (List.Sublist.cons _ (List.Sublist.refl _))) ?_
                    refine HdJ.step [13] (by kernel_rfl) rfl ?_
                    refine HdStep.cons (by decide) rfl (fun inv => ?_) ?_
                    · refine Lst.storeS (i := 0) rfl rfl rfl rfl rfl Try.sizeOf23 (vs := [.int .u16 x73.toNat]) rfl rfl (by decide) rfl (xs' := encs p82) (by rw [← h83]; exact (Put.elemN (s := 1) (x := x79) rfl g93.2.2 (Put.here (vs := [.int .u16 x73.toNat]) rfl)).off (by omega)) (L' := (.own s_a0 23 1 (encs p82)) :: L) rfl ?_
                      refine Lst.nil ?_
                      refine At.hd inv (fun w h => (h.weaken (FLe.refl _)).sublist (List.Sublist.cons _ (List.Sublist.refl _))) ?_
                      refine HdJ.done (by kernel_rfl) ?_
                      exact At.meetN p82 (FLe.refl _) ⟨rfl, rfl, rfl, rfl, trivial⟩ rfl h87
                    exact trivial
                  exact trivial
                exact trivial
              exact trivial
            exact trivial
          refine HdStep.cons (by decide) rfl (fun inv => ?_) ?_
          · have g94 := lat_some h77
            refine Lst.run rfl rfl (by decide) (Ev.indexS (α := BitVec 16) (xs := p34) rfl rfl Try.runUnderlying22 Try.sizeOf23 rfl (by decide) (Rd.own (i := 0) rfl rfl rfl) g94.1 g94.2.1) ?_
            refine Lst.nil ?_
            refine At.hd inv (fun w h => (h.weaken (FLe.refl _)).sublist (List.Sublist.cons _ (List.Sublist.refl _))) ?_
            refine HdJ.step [6, 11] (by kernel_rfl) rfl ?_
            refine HdStep.cons (by decide) rfl (fun inv => ?_) ?_
            · have g95 := lat_some h74
              refine Lst.run rfl rfl (by decide) (Ev.indexS (α := BitVec 16) (xs := p34) rfl rfl Try.runUnderlying22 Try.sizeOf23 rfl (by decide) (Rd.own (i := 0) rfl rfl rfl) g95.1 g95.2.1) ?_
              refine Lst.nil ?_
              refine At.hd inv (fun w h => (h.weaken (FLe.refl _)).sublist (List.Sublist.cons _ (List.Sublist.refl _))) ?_
              refine HdJ.step [7, 11] (by kernel_rfl) rfl ?_
              refine HdStep.cons (by decide) rfl (fun inv => ?_) ?_
              · refine Lst.run rfl rfl (by decide) (Ev.loadS (α := BitVec 16) rfl (Rd.own (i := 0) rfl rfl rfl) Try.isAgg23 (v := .int .u16 x73.toNat) ((Get.elemN (s := 1) (x := x73) rfl g95.2.2 (Get.here _)).off (by omega))) ?_
                refine Lst.nil ?_
                refine At.hd inv (fun w h => (h.weaken (FLe.refl _)).sublist (List.Sublist.cons _ (List.Sublist.refl _))) ?_
                refine HdJ.step [11] (by kernel_rfl) rfl ?_
                refine HdStep.cons (by decide) rfl (fun inv => ?_) ?_
                · refine Lst.run rfl rfl (by decide) (Ev.loadS (α := BitVec 16) rfl (Rd.own (i := 0) rfl rfl rfl) Try.isAgg23 (v := .int .u16 x76.toNat) ((Get.elemN (s := 1) (x := x76) rfl g94.2.2 (Get.here _)).off (by omega))) ?_
                  refine Lst.nil ?_
                  refine At.hd inv (fun w h => (h.weaken (FLe.refl _)).sublist (List.Sublist.cons _ (List.Sublist.refl _))) ?_
                  refine HdJ.step [12] (by kernel_rfl) rfl ?_
                  refine HdStep.cons (by decide) rfl (fun inv => ?_) ?_
                  · have g96 := lat_some h80
                    refine Lst.run rfl rfl (by decide) (Ev.indexS (α := BitVec 16) (xs := p34) rfl rfl Try.runUnderlying22 Try.sizeOf23 rfl (by decide) (Rd.own (i := 0) rfl rfl rfl) g96.1 g96.2.1) ?_
                    refine Lst.nil ?_
                    refine At.hd inv (fun w h => (h.weaken (FLe.refl _)).sublist (List.Sublist.cons _ (List.Sublist.refl _))) ?_
                    refine HdJ.step [13] (by kernel_rfl) rfl ?_
                    refine HdStep.cons (by decide) rfl (fun inv => ?_) ?_
                    · refine Lst.storeS (i := 0) rfl rfl rfl rfl rfl Try.sizeOf23 (vs := [.int .u16 x73.toNat]) rfl rfl (by decide) rfl (xs' := encs p82) (by rw [← h83]; exact (Put.elemN (s := 1) (x := x79) rfl g96.2.2 (Put.here (vs := [.int .u16 x73.toNat]) rfl)).off (by omega)) (L' := (.own s_a0 23 1 (encs p82)) :: L) rfl ?_
                      refine Lst.nil ?_
                      refine At.hd inv (fun w h => (h.weaken (FLe.refl _)).sublist (List.Sublist.cons _ (List.Sublist.refl _))) ?_
                      refine HdJ.done (by kernel_rfl) ?_
                      exact At.meetN p82 (FLe.refl _) ⟨rfl, rfl, rfl, rfl, trivial⟩ rfl h87
                    exact trivial
                  exact trivial
                exact trivial
              refine HdStep.cons (by decide) rfl (fun inv => ?_) ?_
              · refine Lst.run rfl rfl (by decide) (Ev.loadS (α := BitVec 16) rfl (Rd.own (i := 0) rfl rfl rfl) Try.isAgg23 (v := .int .u16 x76.toNat) ((Get.elemN (s := 1) (x := x76) rfl g94.2.2 (Get.here _)).off (by omega))) ?_
                refine Lst.nil ?_
                refine At.hd inv (fun w h => (h.weaken (FLe.refl _)).sublist (List.Sublist.cons _ (List.Sublist.refl _))) ?_
                refine HdJ.step [7] (by kernel_rfl) rfl ?_
                refine HdStep.cons (by decide) rfl (fun inv => ?_) ?_
                · refine Lst.run rfl rfl (by decide) (Ev.loadS (α := BitVec 16) rfl (Rd.own (i := 0) rfl rfl rfl) Try.isAgg23 (v := .int .u16 x73.toNat) ((Get.elemN (s := 1) (x := x73) rfl g95.2.2 (Get.here _)).off (by omega))) ?_
                  refine Lst.nil ?_
                  refine At.hd inv (fun w h => (h.weaken (FLe.refl _)).sublist (List.Sublist.cons _ (List.Sublist.refl _))) ?_
                  refine HdJ.step [12] (by kernel_rfl) rfl ?_
                  refine HdStep.cons (by decide) rfl (fun inv => ?_) ?_
                  · have g97 := lat_some h80
                    refine Lst.run rfl rfl (by decide) (Ev.indexS (α := BitVec 16) (xs := p34) rfl rfl Try.runUnderlying22 Try.sizeOf23 rfl (by decide) (Rd.own (i := 0) rfl rfl rfl) g97.1 g97.2.1) ?_
                    refine Lst.nil ?_
                    refine At.hd inv (fun w h => (h.weaken (FLe.refl _)).sublist (List.Sublist.cons _ (List.Sublist.refl _))) ?_
                    refine HdJ.step [13] (by kernel_rfl) rfl ?_
                    refine HdStep.cons (by decide) rfl (fun inv => ?_) ?_
                    · refine Lst.storeS (i := 0) rfl rfl rfl rfl rfl Try.sizeOf23 (vs := [.int .u16 x73.toNat]) rfl rfl (by decide) rfl (xs' := encs p82) (by rw [← h83]; exact (Put.elemN (s := 1) (x := x79) rfl g97.2.2 (Put.here (vs := [.int .u16 x73.toNat]) rfl)).off (by omega)) (L' := (.own s_a0 23 1 (encs p82)) :: L) rfl ?_
                      refine Lst.nil ?_
                      refine At.hd inv (fun w h => (h.weaken (FLe.refl _)).sublist (List.Sublist.cons _ (List.Sublist.refl _))) ?_
                      refine HdJ.done (by kernel_rfl) ?_
                      exact At.meetN p82 (FLe.refl _) ⟨rfl, rfl, rfl, rfl, trivial⟩ rfl h87
                    exact trivial
                  exact trivial
                exact trivial
              exact trivial
            refine HdStep.cons (by decide) rfl (fun inv => ?_) ?_
            · refine Lst.run rfl rfl (by decide) (Ev.loadS (α := BitVec 16) rfl (Rd.own (i := 0) rfl rfl rfl) Try.isAgg23 (v := .int .u16 x76.toNat) ((Get.elemN (s := 1) (x := x76) rfl g94.2.2 (Get.here _)).off (by omega))) ?_
              refine Lst.nil ?_
              refine At.hd inv (fun w h => (h.weaken (FLe.refl _)).sublist (List.Sublist.cons _ (List.Sublist.refl _))) ?_
              refine HdJ.step [6] (by kernel_rfl) rfl ?_
              refine HdStep.cons (by decide) rfl (fun inv => ?_) ?_
              · have g98 := lat_some h74
                refine Lst.run rfl rfl (by decide) (Ev.indexS (α := BitVec 16) (xs := p34) rfl rfl Try.runUnderlying22 Try.sizeOf23 rfl (by decide) (Rd.own (i := 0) rfl rfl rfl) g98.1 g98.2.1) ?_
                refine Lst.nil ?_
                refine At.hd inv (fun w h => (h.weaken (FLe.refl _)).sublist (List.Sublist.cons _ (List.Sublist.refl _))) ?_
                refine HdJ.step [7] (by kernel_rfl) rfl ?_
                refine HdStep.cons (by decide) rfl (fun inv => ?_) ?_
                · refine Lst.run rfl rfl (by decide) (Ev.loadS (α := BitVec 16) rfl (Rd.own (i := 0) rfl rfl rfl) Try.isAgg23 (v := .int .u16 x73.toNat) ((Get.elemN (s := 1) (x := x73) rfl g98.2.2 (Get.here _)).off (by omega))) ?_
                  refine Lst.nil ?_
                  refine At.hd inv (fun w h => (h.weaken (FLe.refl _)).sublist (List.Sublist.cons _ (List.Sublist.refl _))) ?_
                  refine HdJ.step [12] (by kernel_rfl) rfl ?_
                  refine HdStep.cons (by decide) rfl (fun inv => ?_) ?_
                  · have g99 := lat_some h80
                    refine Lst.run rfl rfl (by decide) (Ev.indexS (α := BitVec 16) (xs := p34) rfl rfl Try.runUnderlying22 Try.sizeOf23 rfl (by decide) (Rd.own (i := 0) rfl rfl rfl) g99.1 g99.2.1) ?_
                    refine Lst.nil ?_
                    refine At.hd inv (fun w h => (h.weaken (FLe.refl _)).sublist (List.Sublist.cons _ (List.Sublist.refl _))) ?_
                    refine HdJ.step [13] (by kernel_rfl) rfl ?_
                    refine HdStep.cons (by decide) rfl (fun inv => ?_) ?_
                    · refine Lst.storeS (i := 0) rfl rfl rfl rfl rfl Try.sizeOf23 (vs := [.int .u16 x73.toNat]) rfl rfl (by decide) rfl (xs' := encs p82) (by rw [← h83]; exact (Put.elemN (s := 1) (x := x79) rfl g99.2.2 (Put.here (vs := [.int .u16 x73.toNat]) rfl)).off (by omega)) (L' := (.own s_a0 23 1 (encs p82)) :: L) rfl ?_
                      refine Lst.nil ?_
                      refine At.hd inv (fun w h => (h.weaken (FLe.refl _)).sublist (List.Sublist.cons _ (List.Sublist.refl _))) ?_
                      refine HdJ.done (by kernel_rfl) ?_
                      exact At.meetN p82 (FLe.refl _) ⟨rfl, rfl, rfl, rfl, trivial⟩ rfl h87
                    exact trivial
                  exact trivial
                exact trivial
              exact trivial
            exact trivial
          exact trivial
        rintro F100 l85 hF101 hy
        subst hy
        refine Lst.as (e' := [(13, .int .i64 y55), (74, Sl.v s_a0), (75, .int .i64 a1), (83, .int .u16 x76.toNat)]) (L' := (.own s_a0 23 1 (encs l85)) :: L) ⟨rfl, rfl, rfl, rfl, trivial⟩ rfl ?_
        obtain ⟨x102, h103, H⟩ := bind_some H
        have g104 := lat_some h103
        refine Lst.run rfl rfl (by decide) (Ev.indexS (α := BitVec 16) (xs := l85) rfl rfl Try.runUnderlying22 Try.sizeOf23 rfl (by decide) (Rd.own (i := 0) rfl rfl rfl) g104.1 g104.2.1) ?_
        obtain ⟨p105, h106, H⟩ := Let_some H
        refine Lst.storeS (i := 0) rfl rfl rfl rfl rfl Try.sizeOf23 (vs := [.int .u16 x76.toNat]) rfl rfl (by decide) rfl (xs' := encs p105) (by rw [← h106]; exact (Put.elemN (s := 1) (x := x102) rfl g104.2.2 (Put.here (vs := [.int .u16 x76.toNat]) rfl)).off (by omega)) (L' := (.own s_a0 23 1 (encs p105)) :: L) rfl ?_
        refine Lst.nil ?_
        refine At.then ?_
        refine Cd.seq ?_
        refine Cd.region ?_
        refine Lst.run rfl rfl (by decide) (Ev.move rfl) ?_
        refine Lst.run rfl rfl (by decide) (Ev.assign rfl) ?_
        refine Lst.run rfl rfl (by decide) (Ev.assign rfl) ?_
        refine Lst.nil ?_
        refine At.then ?_
        obtain rfl := some_inj H
        refine Cd.ret ?_
        refine At.then_ret ?_
        exact At.ret2 rfl (Res.tmp rfl) (Res.tmp rfl) (FLe.trans (FLe.trans (FLe.trans hF30 hF39) hF57) hF101) (List.Sublist.cons_cons _ (List.Sublist.refl _)) ⟨rfl, rfl⟩
      replace H := ite_f hb72 H
      refine Cd.condF rfl hb72 ?_
      refine Cd.skip ?_
      refine At.then ?_
      refine Cd.seq ?_
      obtain ⟨x107, h108, H⟩ := bind_some H
      obtain ⟨x110, h111, H⟩ := bind_some H
      obtain ⟨x113, h114, H⟩ := bind_some H
      obtain ⟨p116, h117, H⟩ := Let_some H
      obtain ⟨o120, h121, H⟩ := Let_some H
      refine Cd.headMeet (σ := (List (BitVec 16))) 14 (fun l119 => [(0, Sl.v s_a0), (1, .int .i64 a1), (4, .func (.func 53) #[] #[]), (12, .int .i64 y37), (13, .int .i64 y55), (89, Sl.v s_a0), (90, .int .i64 y55), (98, .int .u16 x110.toNat)]) (fun l119 => (.own s_a0 23 1 (encs l119)) :: L) (fun _ l119 => l119 = o120) (by kernel_rfl) (by kernel_rfl) (behind_sink (by kernel_rfl) (by kernel_rfl) (by kernel_rfl)) (by kernel_rfl) (fun hsel hlt => ?_) ?_
      · refine HdJ.keep (fun w => St w0 F56 (L) w) (fun w h => trivial) ?_
        refine HdJ.takeK hsel hlt 0 (fun w h => h.sublist (List.Sublist.cons _ (List.Sublist.refl _))) rfl rfl (by decide) (by decide) (by kernel_rfl) (by kernel_rfl) rfl (Ev.move rfl) ?_
        refine HdJ.takeK hsel hlt 1 (fun w h => h.sublist (List.Sublist.cons _ (List.Sublist.refl _))) rfl rfl (by decide) (by decide) (by kernel_rfl) (by kernel_rfl) rfl (Ev.move rfl) ?_
        refine HdJ.takeK hsel hlt 2 (fun w h => h.sublist (List.Sublist.cons _ (List.Sublist.refl _))) rfl rfl (by decide) (by decide) (by kernel_rfl) (by kernel_rfl) rfl (Ev.move rfl) ?_
        refine HdJ.takeK hsel hlt 3 (fun w h => h.sublist (List.Sublist.cons _ (List.Sublist.refl _))) rfl rfl (by decide) (by decide) (by kernel_rfl) (by kernel_rfl) rfl (Ev.move rfl) ?_
        refine HdJ.takeK hsel hlt 4 (fun w h => h.sublist (List.Sublist.cons _ (List.Sublist.refl _))) rfl rfl (by decide) (by decide) (by kernel_rfl) (by kernel_rfl) rfl (Ev.move rfl) ?_
        refine HdJ.takeK hsel hlt 5 (fun w h => h.sublist (List.Sublist.cons _ (List.Sublist.refl _))) rfl rfl (by decide) (by decide) (by kernel_rfl) (by kernel_rfl) rfl (Ev.move rfl) ?_
        refine HdJ.takeK hsel hlt 8 (fun w h => h.sublist (List.Sublist.cons _ (List.Sublist.refl _))) rfl rfl (by decide) (by decide) (by kernel_rfl) (by kernel_rfl) rfl (Ev.move rfl) ?_
        refine HdJ.takeK hsel hlt 9 (fun w h => h.sublist (List.Sublist.cons _ (List.Sublist.refl _))) rfl rfl (by decide) (by decide) (by kernel_rfl) (by kernel_rfl) rfl (Ev.move rfl) ?_
        refine HdJ.step [6, 10] (by kernel_rfl) rfl ?_
        refine HdStep.cons (by decide) rfl (fun inv => ?_) ?_
        · have g122 := lat_some h108
          refine Lst.run rfl rfl (by decide) (Ev.indexS (α := BitVec 16) (xs := p34) rfl rfl Try.runUnderlying22 Try.sizeOf23 rfl (by decide) (Rd.own (i := 0) rfl rfl rfl) g122.1 g122.2.1) ?_
          refine Lst.nil ?_
          refine At.hd inv (fun w h => (h.weaken (FLe.refl _)).sublist (List.Sublist.cons _ (List.Sublist.refl _))) ?_
          refine HdJ.step [7, 10] (by kernel_rfl) rfl ?_
          refine HdStep.cons (by decide) rfl (fun inv => ?_) ?_
          · refine Lst.run rfl rfl (by decide) (Ev.loadS (α := BitVec 16) rfl (Rd.own (i := 0) rfl rfl rfl) Try.isAgg23 (v := .int .u16 x107.toNat) ((Get.elemN (s := 1) (x := x107) rfl g122.2.2 (Get.here _)).off (by omega))) ?_
            refine Lst.nil ?_
            refine At.hd inv (fun w h => (h.weaken (FLe.refl _)).sublist (List.Sublist.cons _ (List.Sublist.refl _))) ?_
            refine HdJ.step [10] (by kernel_rfl) rfl ?_
            refine HdStep.cons (by decide) rfl (fun inv => ?_) ?_
            · have g123 := lat_some h111
              refine Lst.run rfl rfl (by decide) (Ev.indexS (α := BitVec 16) (xs := p34) rfl rfl Try.runUnderlying22 Try.sizeOf23 rfl (by decide) (Rd.own (i := 0) rfl rfl rfl) g123.1 g123.2.1) ?_
              refine Lst.nil ?_
              refine At.hd inv (fun w h => (h.weaken (FLe.refl _)).sublist (List.Sublist.cons _ (List.Sublist.refl _))) ?_
              refine HdJ.step [11] (by kernel_rfl) rfl ?_
              refine HdStep.cons (by decide) rfl (fun inv => ?_) ?_
              · refine Lst.run rfl rfl (by decide) (Ev.loadS (α := BitVec 16) rfl (Rd.own (i := 0) rfl rfl rfl) Try.isAgg23 (v := .int .u16 x110.toNat) ((Get.elemN (s := 1) (x := x110) rfl g123.2.2 (Get.here _)).off (by omega))) ?_
                refine Lst.nil ?_
                refine At.hd inv (fun w h => (h.weaken (FLe.refl _)).sublist (List.Sublist.cons _ (List.Sublist.refl _))) ?_
                refine HdJ.step [12] (by kernel_rfl) rfl ?_
                refine HdStep.cons (by decide) rfl (fun inv => ?_) ?_
                · have g124 := lat_some h114
                  refine Lst.run rfl rfl (by decide) (Ev.indexS (α := BitVec 16) (xs := p34) rfl rfl Try.runUnderlying22 Try.sizeOf23 rfl (by decide) (Rd.own (i := 0) rfl rfl rfl) g124.1 g124.2.1) ?_
                  refine Lst.nil ?_
                  refine At.hd inv (fun w h => (h.weaken (FLe.refl _)).sublist (List.Sublist.cons _ (List.Sublist.refl _))) ?_
                  refine HdJ.step [13] (by kernel_rfl) rfl ?_
                  refine HdStep.cons (by decide) rfl (fun inv => ?_) ?_
                  · refine Lst.storeS (i := 0) rfl rfl rfl rfl rfl Try.sizeOf23 (vs := [.int .u16 x107.toNat]) rfl rfl (by decide) rfl (xs' := encs p116) (by rw [← h117]; exact (Put.elemN (s := 1) (x := x113) rfl g124.2.2 (Put.here (vs := [.int .u16 x107.toNat]) rfl)).off (by omega)) (L' := (.own s_a0 23 1 (encs p116)) :: L) rfl ?_
                    refine Lst.nil ?_
                    refine At.hd inv (fun w h => (h.weaken (FLe.refl _)).sublist (List.Sublist.cons _ (List.Sublist.refl _))) ?_
                    refine HdJ.done (by kernel_rfl) ?_
                    exact At.meetN p116 (FLe.refl _) ⟨rfl, rfl, rfl, rfl, rfl, rfl, rfl, rfl, trivial⟩ rfl h121
                  exact trivial
                exact trivial
              exact trivial
            exact trivial
          refine HdStep.cons (by decide) rfl (fun inv => ?_) ?_
          · have g125 := lat_some h111
            refine Lst.run rfl rfl (by decide) (Ev.indexS (α := BitVec 16) (xs := p34) rfl rfl Try.runUnderlying22 Try.sizeOf23 rfl (by decide) (Rd.own (i := 0) rfl rfl rfl) g125.1 g125.2.1) ?_
            refine Lst.nil ?_
            refine At.hd inv (fun w h => (h.weaken (FLe.refl _)).sublist (List.Sublist.cons _ (List.Sublist.refl _))) ?_
            refine HdJ.step [7, 11] (by kernel_rfl) rfl ?_
            refine HdStep.cons (by decide) rfl (fun inv => ?_) ?_
            · refine Lst.run rfl rfl (by decide) (Ev.loadS (α := BitVec 16) rfl (Rd.own (i := 0) rfl rfl rfl) Try.isAgg23 (v := .int .u16 x107.toNat) ((Get.elemN (s := 1) (x := x107) rfl g122.2.2 (Get.here _)).off (by omega))) ?_
              refine Lst.nil ?_
              refine At.hd inv (fun w h => (h.weaken (FLe.refl _)).sublist (List.Sublist.cons _ (List.Sublist.refl _))) ?_
              refine HdJ.step [11] (by kernel_rfl) rfl ?_
              refine HdStep.cons (by decide) rfl (fun inv => ?_) ?_
              · refine Lst.run rfl rfl (by decide) (Ev.loadS (α := BitVec 16) rfl (Rd.own (i := 0) rfl rfl rfl) Try.isAgg23 (v := .int .u16 x110.toNat) ((Get.elemN (s := 1) (x := x110) rfl g125.2.2 (Get.here _)).off (by omega))) ?_
                refine Lst.nil ?_
                refine At.hd inv (fun w h => (h.weaken (FLe.refl _)).sublist (List.Sublist.cons _ (List.Sublist.refl _))) ?_
                refine HdJ.step [12] (by kernel_rfl) rfl ?_
                refine HdStep.cons (by decide) rfl (fun inv => ?_) ?_
                · have g126 := lat_some h114
                  refine Lst.run rfl rfl (by decide) (Ev.indexS (α := BitVec 16) (xs := p34) rfl rfl Try.runUnderlying22 Try.sizeOf23 rfl (by decide) (Rd.own (i := 0) rfl rfl rfl) g126.1 g126.2.1) ?_
                  refine Lst.nil ?_
                  refine At.hd inv (fun w h => (h.weaken (FLe.refl _)).sublist (List.Sublist.cons _ (List.Sublist.refl _))) ?_
                  refine HdJ.step [13] (by kernel_rfl) rfl ?_
                  refine HdStep.cons (by decide) rfl (fun inv => ?_) ?_
                  · refine Lst.storeS (i := 0) rfl rfl rfl rfl rfl Try.sizeOf23 (vs := [.int .u16 x107.toNat]) rfl rfl (by decide) rfl (xs' := encs p116) (by rw [← h117]; exact (Put.elemN (s := 1) (x := x113) rfl g126.2.2 (Put.here (vs := [.int .u16 x107.toNat]) rfl)).off (by omega)) (L' := (.own s_a0 23 1 (encs p116)) :: L) rfl ?_
                    refine Lst.nil ?_
                    refine At.hd inv (fun w h => (h.weaken (FLe.refl _)).sublist (List.Sublist.cons _ (List.Sublist.refl _))) ?_
                    refine HdJ.done (by kernel_rfl) ?_
                    exact At.meetN p116 (FLe.refl _) ⟨rfl, rfl, rfl, rfl, rfl, rfl, rfl, rfl, trivial⟩ rfl h121
                  exact trivial
                exact trivial
              exact trivial
            refine HdStep.cons (by decide) rfl (fun inv => ?_) ?_
            · refine Lst.run rfl rfl (by decide) (Ev.loadS (α := BitVec 16) rfl (Rd.own (i := 0) rfl rfl rfl) Try.isAgg23 (v := .int .u16 x110.toNat) ((Get.elemN (s := 1) (x := x110) rfl g125.2.2 (Get.here _)).off (by omega))) ?_
              refine Lst.nil ?_
              refine At.hd inv (fun w h => (h.weaken (FLe.refl _)).sublist (List.Sublist.cons _ (List.Sublist.refl _))) ?_
              refine HdJ.step [7] (by kernel_rfl) rfl ?_
              refine HdStep.cons (by decide) rfl (fun inv => ?_) ?_
              · refine Lst.run rfl rfl (by decide) (Ev.loadS (α := BitVec 16) rfl (Rd.own (i := 0) rfl rfl rfl) Try.isAgg23 (v := .int .u16 x107.toNat) ((Get.elemN (s := 1) (x := x107) rfl g122.2.2 (Get.here _)).off (by omega))) ?_
                refine Lst.nil ?_
                refine At.hd inv (fun w h => (h.weaken (FLe.refl _)).sublist (List.Sublist.cons _ (List.Sublist.refl _))) ?_
                refine HdJ.step [12] (by kernel_rfl) rfl ?_
                refine HdStep.cons (by decide) rfl (fun inv => ?_) ?_
                · have g127 := lat_some h114
                  refine Lst.run rfl rfl (by decide) (Ev.indexS (α := BitVec 16) (xs := p34) rfl rfl Try.runUnderlying22 Try.sizeOf23 rfl (by decide) (Rd.own (i := 0) rfl rfl rfl) g127.1 g127.2.1) ?_
                  refine Lst.nil ?_
                  refine At.hd inv (fun w h => (h.weaken (FLe.refl _)).sublist (List.Sublist.cons _ (List.Sublist.refl _))) ?_
                  refine HdJ.step [13] (by kernel_rfl) rfl ?_
                  refine HdStep.cons (by decide) rfl (fun inv => ?_) ?_
                  · refine Lst.storeS (i := 0) rfl rfl rfl rfl rfl Try.sizeOf23 (vs := [.int .u16 x107.toNat]) rfl rfl (by decide) rfl (xs' := encs p116) (by rw [← h117]; exact (Put.elemN (s := 1) (x := x113) rfl g127.2.2 (Put.here (vs := [.int .u16 x107.toNat]) rfl)).off (by omega)) (L' := (.own s_a0 23 1 (encs p116)) :: L) rfl ?_
                    refine Lst.nil ?_
                    refine At.hd inv (fun w h => (h.weaken (FLe.refl _)).sublist (List.Sublist.cons _ (List.Sublist.refl _))) ?_
                    refine HdJ.done (by kernel_rfl) ?_
                    exact At.meetN p116 (FLe.refl _) ⟨rfl, rfl, rfl, rfl, rfl, rfl, rfl, rfl, trivial⟩ rfl h121
                  exact trivial
                exact trivial
              exact trivial
            exact trivial
          exact trivial
        refine HdStep.cons (by decide) rfl (fun inv => ?_) ?_
        · have g128 := lat_some h111
          refine Lst.run rfl rfl (by decide) (Ev.indexS (α := BitVec 16) (xs := p34) rfl rfl Try.runUnderlying22 Try.sizeOf23 rfl (by decide) (Rd.own (i := 0) rfl rfl rfl) g128.1 g128.2.1) ?_
          refine Lst.nil ?_
          refine At.hd inv (fun w h => (h.weaken (FLe.refl _)).sublist (List.Sublist.cons _ (List.Sublist.refl _))) ?_
          refine HdJ.step [6, 11] (by kernel_rfl) rfl ?_
          refine HdStep.cons (by decide) rfl (fun inv => ?_) ?_
          · have g129 := lat_some h108
            refine Lst.run rfl rfl (by decide) (Ev.indexS (α := BitVec 16) (xs := p34) rfl rfl Try.runUnderlying22 Try.sizeOf23 rfl (by decide) (Rd.own (i := 0) rfl rfl rfl) g129.1 g129.2.1) ?_
            refine Lst.nil ?_
            refine At.hd inv (fun w h => (h.weaken (FLe.refl _)).sublist (List.Sublist.cons _ (List.Sublist.refl _))) ?_
            refine HdJ.step [7, 11] (by kernel_rfl) rfl ?_
            refine HdStep.cons (by decide) rfl (fun inv => ?_) ?_
            · refine Lst.run rfl rfl (by decide) (Ev.loadS (α := BitVec 16) rfl (Rd.own (i := 0) rfl rfl rfl) Try.isAgg23 (v := .int .u16 x107.toNat) ((Get.elemN (s := 1) (x := x107) rfl g129.2.2 (Get.here _)).off (by omega))) ?_
              refine Lst.nil ?_
              refine At.hd inv (fun w h => (h.weaken (FLe.refl _)).sublist (List.Sublist.cons _ (List.Sublist.refl _))) ?_
              refine HdJ.step [11] (by kernel_rfl) rfl ?_
              refine HdStep.cons (by decide) rfl (fun inv => ?_) ?_
              · refine Lst.run rfl rfl (by decide) (Ev.loadS (α := BitVec 16) rfl (Rd.own (i := 0) rfl rfl rfl) Try.isAgg23 (v := .int .u16 x110.toNat) ((Get.elemN (s := 1) (x := x110) rfl g128.2.2 (Get.here _)).off (by omega))) ?_
                refine Lst.nil ?_
                refine At.hd inv (fun w h => (h.weaken (FLe.refl _)).sublist (List.Sublist.cons _ (List.Sublist.refl _))) ?_
                refine HdJ.step [12] (by kernel_rfl) rfl ?_
                refine HdStep.cons (by decide) rfl (fun inv => ?_) ?_
                · have g130 := lat_some h114
                  refine Lst.run rfl rfl (by decide) (Ev.indexS (α := BitVec 16) (xs := p34) rfl rfl Try.runUnderlying22 Try.sizeOf23 rfl (by decide) (Rd.own (i := 0) rfl rfl rfl) g130.1 g130.2.1) ?_
                  refine Lst.nil ?_
                  refine At.hd inv (fun w h => (h.weaken (FLe.refl _)).sublist (List.Sublist.cons _ (List.Sublist.refl _))) ?_
                  refine HdJ.step [13] (by kernel_rfl) rfl ?_
                  refine HdStep.cons (by decide) rfl (fun inv => ?_) ?_
                  · refine Lst.storeS (i := 0) rfl rfl rfl rfl rfl Try.sizeOf23 (vs := [.int .u16 x107.toNat]) rfl rfl (by decide) rfl (xs' := encs p116) (by rw [← h117]; exact (Put.elemN (s := 1) (x := x113) rfl g130.2.2 (Put.here (vs := [.int .u16 x107.toNat]) rfl)).off (by omega)) (L' := (.own s_a0 23 1 (encs p116)) :: L) rfl ?_
                    refine Lst.nil ?_
                    refine At.hd inv (fun w h => (h.weaken (FLe.refl _)).sublist (List.Sublist.cons _ (List.Sublist.refl _))) ?_
                    refine HdJ.done (by kernel_rfl) ?_
                    exact At.meetN p116 (FLe.refl _) ⟨rfl, rfl, rfl, rfl, rfl, rfl, rfl, rfl, trivial⟩ rfl h121
                  exact trivial
                exact trivial
              exact trivial
            refine HdStep.cons (by decide) rfl (fun inv => ?_) ?_
            · refine Lst.run rfl rfl (by decide) (Ev.loadS (α := BitVec 16) rfl (Rd.own (i := 0) rfl rfl rfl) Try.isAgg23 (v := .int .u16 x110.toNat) ((Get.elemN (s := 1) (x := x110) rfl g128.2.2 (Get.here _)).off (by omega))) ?_
              refine Lst.nil ?_
              refine At.hd inv (fun w h => (h.weaken (FLe.refl _)).sublist (List.Sublist.cons _ (List.Sublist.refl _))) ?_
              refine HdJ.step [7] (by kernel_rfl) rfl ?_
              refine HdStep.cons (by decide) rfl (fun inv => ?_) ?_
              · refine Lst.run rfl rfl (by decide) (Ev.loadS (α := BitVec 16) rfl (Rd.own (i := 0) rfl rfl rfl) Try.isAgg23 (v := .int .u16 x107.toNat) ((Get.elemN (s := 1) (x := x107) rfl g129.2.2 (Get.here _)).off (by omega))) ?_
                refine Lst.nil ?_
                refine At.hd inv (fun w h => (h.weaken (FLe.refl _)).sublist (List.Sublist.cons _ (List.Sublist.refl _))) ?_
                refine HdJ.step [12] (by kernel_rfl) rfl ?_
                refine HdStep.cons (by decide) rfl (fun inv => ?_) ?_
                · have g131 := lat_some h114
                  refine Lst.run rfl rfl (by decide) (Ev.indexS (α := BitVec 16) (xs := p34) rfl rfl Try.runUnderlying22 Try.sizeOf23 rfl (by decide) (Rd.own (i := 0) rfl rfl rfl) g131.1 g131.2.1) ?_
                  refine Lst.nil ?_
                  refine At.hd inv (fun w h => (h.weaken (FLe.refl _)).sublist (List.Sublist.cons _ (List.Sublist.refl _))) ?_
                  refine HdJ.step [13] (by kernel_rfl) rfl ?_
                  refine HdStep.cons (by decide) rfl (fun inv => ?_) ?_
                  · refine Lst.storeS (i := 0) rfl rfl rfl rfl rfl Try.sizeOf23 (vs := [.int .u16 x107.toNat]) rfl rfl (by decide) rfl (xs' := encs p116) (by rw [← h117]; exact (Put.elemN (s := 1) (x := x113) rfl g131.2.2 (Put.here (vs := [.int .u16 x107.toNat]) rfl)).off (by omega)) (L' := (.own s_a0 23 1 (encs p116)) :: L) rfl ?_
                    refine Lst.nil ?_
                    refine At.hd inv (fun w h => (h.weaken (FLe.refl _)).sublist (List.Sublist.cons _ (List.Sublist.refl _))) ?_
                    refine HdJ.done (by kernel_rfl) ?_
                    exact At.meetN p116 (FLe.refl _) ⟨rfl, rfl, rfl, rfl, rfl, rfl, rfl, rfl, trivial⟩ rfl h121
                  exact trivial
                exact trivial
              exact trivial
            exact trivial
          refine HdStep.cons (by decide) rfl (fun inv => ?_) ?_
          · refine Lst.run rfl rfl (by decide) (Ev.loadS (α := BitVec 16) rfl (Rd.own (i := 0) rfl rfl rfl) Try.isAgg23 (v := .int .u16 x110.toNat) ((Get.elemN (s := 1) (x := x110) rfl g128.2.2 (Get.here _)).off (by omega))) ?_
            refine Lst.nil ?_
            refine At.hd inv (fun w h => (h.weaken (FLe.refl _)).sublist (List.Sublist.cons _ (List.Sublist.refl _))) ?_
            refine HdJ.step [6] (by kernel_rfl) rfl ?_
            refine HdStep.cons (by decide) rfl (fun inv => ?_) ?_
            · have g132 := lat_some h108
              refine Lst.run rfl rfl (by decide) (Ev.indexS (α := BitVec 16) (xs := p34) rfl rfl Try.runUnderlying22 Try.sizeOf23 rfl (by decide) (Rd.own (i := 0) rfl rfl rfl) g132.1 g132.2.1) ?_
              refine Lst.nil ?_
              refine At.hd inv (fun w h => (h.weaken (FLe.refl _)).sublist (List.Sublist.cons _ (List.Sublist.refl _))) ?_
              refine HdJ.step [7] (by kernel_rfl) rfl ?_
              refine HdStep.cons (by decide) rfl (fun inv => ?_) ?_
              · refine Lst.run rfl rfl (by decide) (Ev.loadS (α := BitVec 16) rfl (Rd.own (i := 0) rfl rfl rfl) Try.isAgg23 (v := .int .u16 x107.toNat) ((Get.elemN (s := 1) (x := x107) rfl g132.2.2 (Get.here _)).off (by omega))) ?_
                refine Lst.nil ?_
                refine At.hd inv (fun w h => (h.weaken (FLe.refl _)).sublist (List.Sublist.cons _ (List.Sublist.refl _))) ?_
                refine HdJ.step [12] (by kernel_rfl) rfl ?_
                refine HdStep.cons (by decide) rfl (fun inv => ?_) ?_
                · have g133 := lat_some h114
                  refine Lst.run rfl rfl (by decide) (Ev.indexS (α := BitVec 16) (xs := p34) rfl rfl Try.runUnderlying22 Try.sizeOf23 rfl (by decide) (Rd.own (i := 0) rfl rfl rfl) g133.1 g133.2.1) ?_
                  refine Lst.nil ?_
                  refine At.hd inv (fun w h => (h.weaken (FLe.refl _)).sublist (List.Sublist.cons _ (List.Sublist.refl _))) ?_
                  refine HdJ.step [13] (by kernel_rfl) rfl ?_
                  refine HdStep.cons (by decide) rfl (fun inv => ?_) ?_
                  · refine Lst.storeS (i := 0) rfl rfl rfl rfl rfl Try.sizeOf23 (vs := [.int .u16 x107.toNat]) rfl rfl (by decide) rfl (xs' := encs p116) (by rw [← h117]; exact (Put.elemN (s := 1) (x := x113) rfl g133.2.2 (Put.here (vs := [.int .u16 x107.toNat]) rfl)).off (by omega)) (L' := (.own s_a0 23 1 (encs p116)) :: L) rfl ?_
                    refine Lst.nil ?_
                    refine At.hd inv (fun w h => (h.weaken (FLe.refl _)).sublist (List.Sublist.cons _ (List.Sublist.refl _))) ?_
                    refine HdJ.done (by kernel_rfl) ?_
                    exact At.meetN p116 (FLe.refl _) ⟨rfl, rfl, rfl, rfl, rfl, rfl, rfl, rfl, trivial⟩ rfl h121
                  exact trivial
                exact trivial
              exact trivial
            exact trivial
          exact trivial
        exact trivial
      rintro F134 l119 hF135 hy
      subst hy
      refine Lst.as (e' := [(0, Sl.v s_a0), (1, .int .i64 a1), (4, .func (.func 53) #[] #[]), (12, .int .i64 y37), (13, .int .i64 y55), (89, Sl.v s_a0), (90, .int .i64 y55), (98, .int .u16 x110.toNat)]) (L' := (.own s_a0 23 1 (encs l119)) :: L) ⟨rfl, rfl, rfl, rfl, rfl, rfl, rfl, rfl, trivial⟩ rfl ?_
      obtain ⟨x136, h137, H⟩ := bind_some H
      have g138 := lat_some h137
      refine Lst.run rfl rfl (by decide) (Ev.indexS (α := BitVec 16) (xs := l119) rfl rfl Try.runUnderlying22 Try.sizeOf23 rfl (by decide) (Rd.own (i := 0) rfl rfl rfl) g138.1 g138.2.1) ?_
      obtain ⟨p139, h140, H⟩ := Let_some H
      refine Lst.storeS (i := 0) rfl rfl rfl rfl rfl Try.sizeOf23 (vs := [.int .u16 x110.toNat]) rfl rfl (by decide) rfl (xs' := encs p139) (by rw [← h140]; exact (Put.elemN (s := 1) (x := x136) rfl g138.2.2 (Put.here (vs := [.int .u16 x110.toNat]) rfl)).off (by omega)) (L' := (.own s_a0 23 1 (encs p139)) :: L) rfl ?_
      refine Lst.nil ?_
      refine At.then ?_
      refine Cd.seq ?_
      refine Cd.region ?_
      refine Lst.run rfl rfl (by decide) (Ev.move rfl) ?_
      refine Lst.run rfl rfl (by decide) (Ev.add rfl rfl) ?_
      refine Lst.run rfl rfl (by decide) (Ev.assign rfl) ?_
      refine Lst.nil ?_
      refine At.then ?_
      refine Cd.seq ?_
      refine Cd.region ?_
      refine Lst.run rfl rfl (by decide) (Ev.move rfl) ?_
      refine Lst.run rfl rfl (by decide) (Ev.sub rfl rfl) ?_
      refine Lst.run rfl rfl (by decide) (Ev.assign rfl) ?_
      refine Lst.nil ?_
      refine At.then ?_
      refine Cd.seq ?_
      refine Cd.block ?_
      obtain ⟨ol141, H, HKl141⟩ := andThen_some H
      refine Cd.loop (σ := Nat × Int × Int × (List (BitVec 16))) (fun (k141, y142, y143, l144) => [(0, Sl.v s_a0), (1, .int .i64 a1), (4, .func (.func 53) #[] #[]), (12, .int .i64 y142), (13, .int .i64 y143)]) (fun (k141, y142, y143, l144) => (.own s_a0 23 1 (encs l144)) :: L) (fun _ => (fun (k141, y142, y143, l144) => whileM (slices_partitionCmpFunc_uint16_quorum_compare_B4 fu a1) k141 (y142, y143, l144) = some ol141)) (fun (k141, y142, y143, l144) => k141) (fu, w64 (y37 + (1 : Int)), w64 (y55 - (1 : Int)), p139) ⟨rfl, rfl, rfl, rfl, rfl, trivial⟩ rfl H ?_
      rintro F145 ⟨k141, y142, y143, l144⟩ hF146 H
      refine Cd.as (e' := [(0, Sl.v s_a0), (1, .int .i64 a1), (4, .func (.func 53) #[] #[]), (12, .int .i64 y142), (13, .int .i64 y143)]) (L' := (.own s_a0 23 1 (encs l144)) :: L) ⟨rfl, rfl, rfl, rfl, rfl, trivial⟩ rfl ?_
      rcases k141 with _ | k141
      · cases H
      obtain ⟨c141, H, hgo141, hbrk141, hret141⟩ := whileM_go H
      unfold slices_partitionCmpFunc_uint16_quorum_compare_B4 at H
      try dsimp only at H
      refine Cd.block ?_
      refine Cd.seq ?_
      refine Cd.block ?_
      obtain ⟨ol147, H, HKl147⟩ := andThen_some H
      refine Cd.loop (σ := Nat × Int) (fun (k147, y148) => [(0, Sl.v s_a0), (1, .int .i64 a1), (4, .func (.func 53) #[] #[]), (12, .int .i64 y148), (13, .int .i64 y143)]) (fun (k147, y148) => (.own s_a0 23 1 (encs l144)) :: L) (fun _ => (fun (k147, y148) => whileM (slices_partitionCmpFunc_uint16_quorum_compare_B6 a1 y143 l144) k147 y148 = some ol147)) (fun (k147, y148) => k147) (fu, y142) ⟨rfl, rfl, rfl, rfl, rfl, trivial⟩ rfl H ?_
      rintro F149 ⟨k147, y148⟩ hF150 H
      refine Cd.as (e' := [(0, Sl.v s_a0), (1, .int .i64 a1), (4, .func (.func 53) #[] #[]), (12, .int .i64 y148), (13, .int .i64 y143)]) (L' := (.own s_a0 23 1 (encs l144)) :: L) ⟨rfl, rfl, rfl, rfl, rfl, trivial⟩ rfl ?_
      rcases k147 with _ | k147
      · cases H
      obtain ⟨c147, H, hgo147, hbrk147, hret147⟩ := whileM_go H
      unfold slices_partitionCmpFunc_uint16_quorum_compare_B6 at H
      try dsimp only at H
      refine Cd.seq ?_
      refine Cd.seq ?_
      refine Cd.quiet (by kernel_rfl) (by kernel_rfl) ?_
      refine Qt.run rfl rfl (by decide) (Ev.move rfl) ?_
      refine Qt.run rfl rfl (by decide) (Ev.move rfl) ?_
      refine Qt.run rfl rfl (by decide) (Ev.leq rfl rfl) ?_
      refine Qt.run rfl rfl (by decide) (Ev.move rfl) ?_
      obtain ⟨o151, H, HKo151⟩ := bind_some H
      refine Qt.join (σ := Bool) 12 (fun y152 => [(0, Sl.v s_a0), (1, .int .i64 a1), (4, .func (.func 53) #[] #[]), (12, .int .i64 y148), (13, .int .i64 y143), (120, .bool y152)]) (fun y152 => y152 = o151) ?_ ?_
      · rcases (Bool.eq_false_or_eq_true (decide (y148 ≤ y143))).symm with hb153 | hb153
        · replace H := ite_f hb153 H
          refine Qt.skip rfl rfl rfl hb153 rfl (by decide) ?_
          refine Qt.skip rfl rfl rfl hb153 rfl (by decide) ?_
          refine Qt.skip rfl rfl rfl hb153 rfl (by decide) ?_
          refine Qt.skip rfl rfl rfl hb153 rfl (by decide) ?_
          refine Qt.skip rfl rfl rfl hb153 rfl (by decide) ?_
          refine Qt.skip rfl rfl rfl hb153 rfl (by decide) ?_
          refine Qt.skip rfl rfl rfl hb153 rfl (by decide) ?_
          refine Qt.skip rfl rfl rfl hb153 rfl (by decide) ?_
          refine Qt.skip rfl rfl rfl hb153 rfl (by decide) ?_
          refine Qt.skip rfl rfl rfl hb153 rfl (by decide) ?_
          refine Qt.skip rfl rfl rfl hb153 rfl (by decide) ?_
          refine Qt.run rfl rfl (by decide) (Ev.pickF rfl hb153 rfl) ?_
          exact Qt.meet false ⟨rfl, rfl, rfl, rfl, rfl, rfl, trivial⟩ (some_inj H)
        replace H := ite_t hb153 H
        refine Qt.runG rfl rfl rfl hb153 rfl (by decide) (Ev.move rfl) ?_
        refine Qt.runG rfl rfl rfl hb153 rfl (by decide) (Ev.move rfl) ?_
        refine Qt.runG rfl rfl rfl hb153 rfl (by decide) (Ev.move rfl) ?_
        obtain ⟨x154, h155, H⟩ := bind_some H
        have g156 := lat_some h155
        refine Qt.runG rfl rfl rfl hb153 rfl (by decide) (Ev.indexS (α := BitVec 16) (xs := l144) rfl rfl Try.runUnderlying22 Try.sizeOf23 rfl (by decide) (Rd.own (i := 0) rfl rfl rfl) g156.1 g156.2.1) ?_
        refine Qt.runG rfl rfl rfl hb153 rfl (by decide) (Ev.loadS (α := BitVec 16) rfl (Rd.own (i := 0) rfl rfl rfl) Try.isAgg23 (v := .int .u16 x154.toNat) ((Get.elemN (s := 1) (x := x154) rfl g156.2.2 (Get.here _)).off (by omega))) ?_
        refine Qt.runG rfl rfl rfl hb153 rfl (by decide) (Ev.move rfl) ?_
        refine Qt.runG rfl rfl rfl hb153 rfl (by decide) (Ev.move rfl) ?_
        obtain ⟨x157, h158, H⟩ := bind_some H
        have g159 := lat_some h158
        refine Qt.runG rfl rfl rfl hb153 rfl (by decide) (Ev.indexS (α := BitVec 16) (xs := l144) rfl rfl Try.runUnderlying22 Try.sizeOf23 rfl (by decide) (Rd.own (i := 0) rfl rfl rfl) g159.1 g159.2.1) ?_
        refine Qt.runG rfl rfl rfl hb153 rfl (by decide) (Ev.loadS (α := BitVec 16) rfl (Rd.own (i := 0) rfl rfl rfl) Try.isAgg23 (v := .int .u16 x157.toNat) ((Get.elemN (s := 1) (x := x157) rfl g159.2.2 (Get.here _)).off (by omega))) ?_
        obtain ⟨r160, h161, H⟩ := bind_some H
        refine Qt.callVG rfl rfl rfl hb153 rfl (by decide) (vs := [.int .u16 x154.toNat, .int .u16 x157.toNat]) (cs := []) rfl ⟨rfl, rfl, trivial⟩ Try.call53 (quorum_compare_sim h161 w0 _ M _ (List.Sublist.cons _ hM)) ?_
        refine Qt.runG rfl rfl rfl hb153 rfl (by decide) (Ev.lss rfl rfl) ?_
        refine Qt.run rfl rfl (by decide) (Ev.pickT rfl hb153 rfl) ?_
        exact Qt.meet (decide (r160 < (0 : Int))) ⟨rfl, rfl, rfl, rfl, rfl, rfl, trivial⟩ (some_inj H)
      rintro y152 hy
      subst hy
      refine Qt.as (e' := [(0, Sl.v s_a0), (1, .int .i64 a1), (4, .func (.func 53) #[] #[]), (12, .int .i64 y148), (13, .int .i64 y143), (120, .bool y152)]) ⟨rfl, rfl, rfl, rfl, rfl, rfl, trivial⟩ ?_
      replace H := HKo151
      refine Qt.done ?_
      refine At.then ?_
      rcases (Bool.eq_false_or_eq_true y152).symm with hb164 | hb164
      · replace H := ite_f hb164 H
        refine Cd.condF rfl hb164 ?_
        refine Cd.exit ?_
        refine At.then_exit ?_
        refine At.then_exit ?_
        refine At.in_exit ?_
        have H := hbrk147 _ (some_inj H).symm
        subst H
        replace H := HKl147
        refine At.then ?_
        refine Cd.seq ?_
        refine Cd.block ?_
        obtain ⟨ol165, H, HKl165⟩ := andThen_some H
        refine Cd.loop (σ := Nat × Int) (fun (k165, y166) => [(0, Sl.v s_a0), (1, .int .i64 a1), (4, .func (.func 53) #[] #[]), (12, .int .i64 y148), (13, .int .i64 y166)]) (fun (k165, y166) => (.own s_a0 23 1 (encs l144)) :: L) (fun _ => (fun (k165, y166) => whileM (slices_partitionCmpFunc_uint16_quorum_compare_B8 a1 l144 y148) k165 y166 = some ol165)) (fun (k165, y166) => k165) (fu, y143) ⟨rfl, rfl, rfl, rfl, rfl, trivial⟩ rfl H ?_
        rintro F167 ⟨k165, y166⟩ hF168 H
        refine Cd.as (e' := [(0, Sl.v s_a0), (1, .int .i64 a1), (4, .func (.func 53) #[] #[]), (12, .int .i64 y148), (13, .int .i64 y166)]) (L' := (.own s_a0 23 1 (encs l144)) :: L) ⟨rfl, rfl, rfl, rfl, rfl, trivial⟩ rfl ?_
        rcases k165 with _ | k165
        · cases H
        obtain ⟨c165, H, hgo165, hbrk165, hret165⟩ := whileM_go H
        unfold slices_partitionCmpFunc_uint16_quorum_compare_B8 at H
        try dsimp only at H
        refine Cd.seq ?_
        refine Cd.seq ?_
        refine Cd.quiet (by kernel_rfl) (by kernel_rfl) ?_
        refine Qt.run rfl rfl (by decide) (Ev.move rfl) ?_
        refine Qt.run rfl rfl (by decide) (Ev.move rfl) ?_
        refine Qt.run rfl rfl (by decide) (Ev.leq rfl rfl) ?_
        refine Qt.run rfl rfl (by decide) (Ev.move rfl) ?_
        obtain ⟨o169, H, HKo169⟩ := bind_some H
        refine Qt.join (σ := Bool) 13 (fun y170 => [(0, Sl.v s_a0), (1, .int .i64 a1), (4, .func (.func 53) #[] #[]), (12, .int .i64 y148), (13, .int .i64 y166), (139, .bool y170)]) (fun y170 => y170 = o169) ?_ ?_
        · rcases (Bool.eq_false_or_eq_true (decide (y148 ≤ y166))).symm with hb171 | hb171
          · replace H := ite_f hb171 H
            refine Qt.skip rfl rfl rfl hb171 rfl (by decide) ?_
            refine Qt.skip rfl rfl rfl hb171 rfl (by decide) ?_
            refine Qt.skip rfl rfl rfl hb171 rfl (by decide) ?_
            refine Qt.skip rfl rfl rfl hb171 rfl (by decide) ?_
            refine Qt.skip rfl rfl rfl hb171 rfl (by decide) ?_
            refine Qt.skip rfl rfl rfl hb171 rfl (by decide) ?_
            refine Qt.skip rfl rfl rfl hb171 rfl (by decide) ?_
            refine Qt.skip rfl rfl rfl hb171 rfl (by decide) ?_
            refine Qt.skip rfl rfl rfl hb171 rfl (by decide) ?_
            refine Qt.skip rfl rfl rfl hb171 rfl (by decide) ?_
            refine Qt.skip rfl rfl rfl hb171 rfl (by decide) ?_
            refine Qt.skip rfl rfl rfl hb171 rfl (by decide) ?_
            refine Qt.run rfl rfl (by decide) (Ev.pickF rfl hb171 rfl) ?_
            exact Qt.meet false ⟨rfl, rfl, rfl, rfl, rfl, rfl, trivial⟩ (some_inj H)
          replace H := ite_t hb171 H
          refine Qt.runG rfl rfl rfl hb171 rfl (by decide) (Ev.move rfl) ?_
          refine Qt.runG rfl rfl rfl hb171 rfl (by decide) (Ev.move rfl) ?_
          refine Qt.runG rfl rfl rfl hb171 rfl (by decide) (Ev.move rfl) ?_
          obtain ⟨x172, h173, H⟩ := bind_some H
          have g174 := lat_some h173
          refine Qt.runG rfl rfl rfl hb171 rfl (by decide) (Ev.indexS (α := BitVec 16) (xs := l144) rfl rfl Try.runUnderlying22 Try.sizeOf23 rfl (by decide) (Rd.own (i := 0) rfl rfl rfl) g174.1 g174.2.1) ?_
          refine Qt.runG rfl rfl rfl hb171 rfl (by decide) (Ev.loadS (α := BitVec 16) rfl (Rd.own (i := 0) rfl rfl rfl) Try.isAgg23 (v := .int .u16 x172.toNat) ((Get.elemN (s := 1) (x := x172) rfl g174.2.2 (Get.here _)).off (by omega))) ?_
          refine Qt.runG rfl rfl rfl hb171 rfl (by decide) (Ev.move rfl) ?_
          refine Qt.runG rfl rfl rfl hb171 rfl (by decide) (Ev.move rfl) ?_
          obtain ⟨x175, h176, H⟩ := bind_some H
          have g177 := lat_some h176
          refine Qt.runG rfl rfl rfl hb171 rfl (by decide) (Ev.indexS (α := BitVec 16) (xs := l144) rfl rfl Try.runUnderlying22 Try.sizeOf23 rfl (by decide) (Rd.own (i := 0) rfl rfl rfl) g177.1 g177.2.1) ?_
          refine Qt.runG rfl rfl rfl hb171 rfl (by decide) (Ev.loadS (α := BitVec 16) rfl (Rd.own (i := 0) rfl rfl rfl) Try.isAgg23 (v := .int .u16 x175.toNat) ((Get.elemN (s := 1) (x := x175) rfl g177.2.2 (Get.here _)).off (by omega))) ?_
          obtain ⟨r178, h179, H⟩ := bind_some H
          refine Qt.callVG rfl rfl rfl hb171 rfl (by decide) (vs := [.int .u16 x172.toNat, .int .u16 x175.toNat]) (cs := []) rfl ⟨rfl, rfl, trivial⟩ Try.call53 (quorum_compare_sim h179 w0 _ M _ (List.Sublist.cons _ hM)) ?_
          refine Qt.runG rfl rfl rfl hb171 rfl (by decide) (Ev.lss rfl rfl) ?_
          refine Qt.runG rfl rfl rfl hb171 rfl (by decide) (Ev.not rfl) ?_
          refine Qt.run rfl rfl (by decide) (Ev.pickT rfl hb171 rfl) ?_
          exact Qt.meet (!(decide (r178 < (0 : Int)))) ⟨rfl, rfl, rfl, rfl, rfl, rfl, trivial⟩ (some_inj H)
        rintro y170 hy
        subst hy
        refine Qt.as (e' := [(0, Sl.v s_a0), (1, .int .i64 a1), (4, .func (.func 53) #[] #[]), (12, .int .i64 y148), (13, .int .i64 y166), (139, .bool y170)]) ⟨rfl, rfl, rfl, rfl, rfl, rfl, trivial⟩ ?_
        replace H := HKo169
        refine Qt.done ?_
        refine At.then ?_
        rcases (Bool.eq_false_or_eq_true y170).symm with hb182 | hb182
        · replace H := ite_f hb182 H
          refine Cd.condF rfl hb182 ?_
          refine Cd.exit ?_
          refine At.then_exit ?_
          refine At.then_exit ?_
          refine At.in_exit ?_
          have H := hbrk165 _ (some_inj H).symm
          subst H
          replace H := HKl165
          refine At.then ?_
          refine Cd.seq ?_
          refine Cd.seq ?_
          refine Cd.region ?_
          refine Lst.run rfl rfl (by decide) (Ev.move rfl) ?_
          refine Lst.run rfl rfl (by decide) (Ev.move rfl) ?_
          refine Lst.run rfl rfl (by decide) (Ev.gtr rfl rfl) ?_
          refine Lst.nil ?_
          refine At.then ?_
          rcases Bool.eq_false_or_eq_true (decide (y148 > y166)) with hb183 | hb183
          · replace H := ite_t hb183 H
            refine Cd.condT rfl hb183 ?_
            refine Cd.exit ?_
            refine At.then_exit ?_
            refine At.in_other rfl ?_
            refine At.then_exit ?_
            refine At.in_exit ?_
            have H := hbrk141 _ (some_inj H).symm
            subst H
            replace H := HKl141
            refine At.then ?_
            refine Cd.seq ?_
            obtain ⟨x184, h185, H⟩ := bind_some H
            obtain ⟨x187, h188, H⟩ := bind_some H
            obtain ⟨x190, h191, H⟩ := bind_some H
            obtain ⟨p193, h194, H⟩ := Let_some H
            obtain ⟨o197, h198, H⟩ := Let_some H
            refine Cd.headMeet (σ := (List (BitVec 16))) 14 (fun l196 => [(13, .int .i64 y166), (165, Sl.v s_a0), (166, .int .i64 a1), (174, .int .u16 x187.toNat)]) (fun l196 => (.own s_a0 23 1 (encs l196)) :: L) (fun _ l196 => l196 = o197) (by kernel_rfl) (by kernel_rfl) (behind_sink (by kernel_rfl) (by kernel_rfl) (by kernel_rfl)) (by kernel_rfl) (fun hsel hlt => ?_) ?_
            · refine HdJ.keep (fun w => St w0 F167 (L) w) (fun w h => trivial) ?_
              refine HdJ.takeK hsel hlt 0 (fun w h => h.sublist (List.Sublist.cons _ (List.Sublist.refl _))) rfl rfl (by decide) (by decide) (by kernel_rfl) (by kernel_rfl) rfl (Ev.move rfl) ?_
              refine HdJ.takeK hsel hlt 1 (fun w h => h.sublist (List.Sublist.cons _ (List.Sublist.refl _))) rfl rfl (by decide) (by decide) (by kernel_rfl) (by kernel_rfl) rfl (Ev.move rfl) ?_
              refine HdJ.takeK hsel hlt 2 (fun w h => h.sublist (List.Sublist.cons _ (List.Sublist.refl _))) rfl rfl (by decide) (by decide) (by kernel_rfl) (by kernel_rfl) rfl (Ev.move rfl) ?_
              refine HdJ.takeK hsel hlt 3 (fun w h => h.sublist (List.Sublist.cons _ (List.Sublist.refl _))) rfl rfl (by decide) (by decide) (by kernel_rfl) (by kernel_rfl) rfl (Ev.move rfl) ?_
              refine HdJ.takeK hsel hlt 4 (fun w h => h.sublist (List.Sublist.cons _ (List.Sublist.refl _))) rfl rfl (by decide) (by decide) (by kernel_rfl) (by kernel_rfl) rfl (Ev.move rfl) ?_
              refine HdJ.takeK hsel hlt 5 (fun w h => h.sublist (List.Sublist.cons _ (List.Sublist.refl _))) rfl rfl (by decide) (by decide) (by kernel_rfl) (by kernel_rfl) rfl (Ev.move rfl) ?_
              refine HdJ.takeK hsel hlt 8 (fun w h => h.sublist (List.Sublist.cons _ (List.Sublist.refl _))) rfl rfl (by decide) (by decide) (by kernel_rfl) (by kernel_rfl) rfl (Ev.move rfl) ?_
              refine HdJ.takeK hsel hlt 9 (fun w h => h.sublist (List.Sublist.cons _ (List.Sublist.refl _))) rfl rfl (by decide) (by decide) (by kernel_rfl) (by kernel_rfl) rfl (Ev.move rfl) ?_
              refine HdJ.step [6, 10] (by kernel_rfl) rfl ?_
              refine HdStep.cons (by decide) rfl (fun inv => ?_) ?_
              · have g199 := lat_some h185
                refine Lst.run rfl rfl (by decide) (Ev.indexS (α := BitVec 16) (xs := l144) rfl rfl Try.runUnderlying22 Try.sizeOf23 rfl (by decide) (Rd.own (i := 0) rfl rfl rfl) g199.1 g199.2.1) ?_
                refine Lst.nil ?_
                refine At.hd inv (fun w h => (h.weaken (FLe.refl _)).sublist (List.Sublist.cons _ (List.Sublist.refl _))) ?_
                refine HdJ.step [7, 10] (by kernel_rfl) rfl ?_
                refine HdStep.cons (by decide) rfl (fun inv => ?_) ?_
                · refine Lst.run rfl rfl (by decide) (Ev.loadS (α := BitVec 16) rfl (Rd.own (i := 0) rfl rfl rfl) Try.isAgg23 (v := .int .u16 x184.toNat) ((Get.elemN (s := 1) (x := x184) rfl g199.2.2 (Get.here _)).off (by omega))) ?_
                  refine Lst.nil ?_
                  refine At.hd inv (fun w h => (h.weaken (FLe.refl _)).sublist (List.Sublist.cons _ (List.Sublist.refl _))) ?_
                  refine HdJ.step [10] (by kernel_rfl) rfl ?_
                  refine HdStep.cons (by decide) rfl (fun inv => ?_) ?_
                  · have g200 := lat_some h188
                    refine Lst.run rfl rfl (by decide) (Ev.indexS (α := BitVec 16) (xs := l144) rfl rfl Try.runUnderlying22 Try.sizeOf23 rfl (by decide) (Rd.own (i := 0) rfl rfl rfl) g200.1 g200.2.1) ?_
                    refine Lst.nil ?_
                    refine At.hd inv (fun w h => (h.weaken (FLe.refl _)).sublist (List.Sublist.cons _ (List.Sublist.refl _))) ?_
                    refine HdJ.step [11] (by kernel_rfl) rfl ?_
                    refine HdStep.cons (by decide) rfl (fun inv => ?_) ?_
                    · refine Lst.run rfl rfl (by decide) (Ev.loadS (α := BitVec 16) rfl (Rd.own (i := 0) rfl rfl rfl) Try.isAgg23 (v := .int .u16 x187.toNat) ((Get.elemN (s := 1) (x := x187) rfl g200.2.2 (Get.here _)).off (by omega))) ?_
                      refine Lst.nil ?_
                      refine At.hd inv (fun w h => (h.weaken (FLe.refl _)).sublist (List.Sublist.cons _ (List.Sublist.refl _))) ?_
                      refine HdJ.step [12] (by kernel_rfl) rfl ?_
                      refine HdStep.cons (by decide) rfl (fun inv => ?_) ?_
                      · have g201 := lat_some h191
                        refine Lst.run rfl rfl (by decide) (Ev.indexS (α := BitVec 16) (xs := l144) rfl rfl Try.runUnderlying22 Try.sizeOf23 rfl (by decide) (Rd.own (i := 0) rfl rfl rfl) g201.1 g201.2.1) ?_
                        refine Lst.nil ?_
                        refine At.hd inv (fun w h => (h.weaken (FLe.refl _)).sublist (List.Sublist.cons _ (List.Sublist.refl _))) ?_
                        refine HdJ.step [13] (by kernel_rfl) rfl ?_
                        refine HdStep.cons (by decide) rfl (fun inv => ?_) ?_
                        · refine Lst.storeS (i := 0) rfl rfl rfl rfl rfl Try.sizeOf23 (vs := [.int .u16 x184.toNat]) rfl rfl (by decide) rfl (xs' := encs p193) (by rw [← h194]; exact (Put.elemN (s := 1) (x := x190) rfl g201.2.2 (Put.here (vs := [.int .u16 x184.toNat]) rfl)).off (by omega)) (L' := (.own s_a0 23 1 (encs p193)) :: L) rfl ?_
                          refine Lst.nil ?_
                          refine At.hd inv (fun w h => (h.weaken (FLe.refl _)).sublist (List.Sublist.cons _ (List.Sublist.refl _))) ?_
                          refine HdJ.done (by kernel_rfl) ?_
                          exact At.meetN p193 (FLe.refl _) ⟨rfl, rfl, rfl, rfl, trivial⟩ rfl h198
                        exact trivial
                      exact trivial
                    exact trivial
                  exact trivial
                refine HdStep.cons (by decide) rfl (fun inv => ?_) ?_
                · have g202 := lat_some h188
                  refine Lst.run rfl rfl (by decide) (Ev.indexS (α := BitVec 16) (xs := l144) rfl rfl Try.runUnderlying22 Try.sizeOf23 rfl (by decide) (Rd.own (i := 0) rfl rfl rfl) g202.1 g202.2.1) ?_
                  refine Lst.nil ?_
                  refine At.hd inv (fun w h => (h.weaken (FLe.refl _)).sublist (List.Sublist.cons _ (List.Sublist.refl _))) ?_
                  refine HdJ.step [7, 11] (by kernel_rfl) rfl ?_
                  refine HdStep.cons (by decide) rfl (fun inv => ?_) ?_
                  · refine Lst.run rfl rfl (by decide) (Ev.loadS (α := BitVec 16) rfl (Rd.own (i := 0) rfl rfl rfl) Try.isAgg23 (v := .int .u16 x184.toNat) ((Get.elemN (s := 1) (x := x184) rfl g199.2.2 (Get.here _)).off (by omega))) ?_
                    refine Lst.nil ?_
                    refine At.hd inv (fun w h => (h.weaken (FLe.refl _)).sublist (List.Sublist.cons _ (List.Sublist.refl _))) ?_
                    refine HdJ.step [11] (by kernel_rfl) rfl ?_
                    refine HdStep.cons (by decide) rfl (fun inv => ?_) ?_
                    · refine Lst.run rfl rfl (by decide) (Ev.loadS (α := BitVec 16) rfl (Rd.own (i := 0) rfl rfl rfl) Try.isAgg23 (v := .int .u16 x187.toNat) ((Get.elemN (s := 1) (x := x187) rfl g202.2.2 (Get.here _)).off (by omega))) ?_
                      refine Lst.nil ?_
                      refine At.hd inv (fun w h => (h.weaken (FLe.refl _)).sublist (List.Sublist.cons _ (List.Sublist.refl _))) ?_
                      refine HdJ.step [12] (by kernel_rfl) rfl ?_
                      refine HdStep.cons (by decide) rfl (fun inv => ?_) ?_
                      · have g203 := lat_some h191
                        refine Lst.run rfl rfl (by decide) (Ev.indexS (α := BitVec 16) (xs := l144) rfl rfl Try.runUnderlying22 Try.sizeOf23 rfl (by decide) (Rd.own (i := 0) rfl rfl rfl) g203.1 g203.2.1) ?_
                        refine Lst.nil ?_
                        refine At.hd inv (fun w h => (h.weaken (FLe.refl _)).sublist (List.Sublist.cons _ (List.Sublist.refl _))) ?_
                        refine HdJ.step [13] (by kernel_rfl) rfl ?_
                        refine HdStep.cons (by decide) rfl (fun inv => ?_) ?_
                        · refine Lst.storeS (i := 0) rfl rfl rfl rfl rfl Try.sizeOf23 (vs := [.int .u16 x184.toNat]) rfl rfl (by decide) rfl (xs' := encs p193) (by rw [← h194]; exact (Put.elemN (s := 1) (x := x190) rfl g203.2.2 (Put.here (vs := [.int .u16 x184.toNat]) rfl)).off (by omega)) (L' := (.own s_a0 23 1 (encs p193)) :: L) rfl ?_
                          refine Lst.nil ?_
                          refine At.hd inv (fun w h => (h.weaken (FLe.refl _)).sublist (List.Sublist.cons _ (List.Sublist.refl _))) ?_
                          refine HdJ.done (by kernel_rfl) ?_
                          exact At.meetN p193 (FLe.refl _) ⟨rfl, rfl, rfl, rfl, trivial⟩ rfl h198
                        exact trivial
                      exact trivial
                    exact trivial
                  refine HdStep.cons (by decide) rfl (fun inv => ?_) ?_
                  · refine Lst.run rfl rfl (by decide) (Ev.loadS (α := BitVec 16) rfl (Rd.own (i := 0) rfl rfl rfl) Try.isAgg23 (v := .int .u16 x187.toNat) ((Get.elemN (s := 1) (x := x187) rfl g202.2.2 (Get.here _)).off (by omega))) ?_
                    refine Lst.nil ?_
                    refine At.hd inv (fun w h => (h.weaken (FLe.refl _)).sublist (List.Sublist.cons _ (List.Sublist.refl _))) ?_
                    refine HdJ.step [7] (by kernel_rfl) rfl ?_
                    refine HdStep.cons (by decide) rfl (fun inv => ?_) ?_
                    · refine Lst.run rfl rfl (by decide) (Ev.loadS (α := BitVec 16) rfl (Rd.own (i := 0) rfl rfl rfl) Try.isAgg23 (v := .int .u16 x184.toNat) ((Get.elemN (s := 1) (x := x184) rfl g199.2.2 (Get.here _)).off (by omega))) ?_
                      refine Lst.nil ?_
                      refine At.hd inv (fun w h => (h.weaken (FLe.refl _)).sublist (List.Sublist.cons _ (List.Sublist.refl _))) ?_
                      refine HdJ.step [12] (by kernel_rfl) rfl ?_
                      refine HdStep.cons (by decide) rfl (fun inv => ?_) ?_
                      · have g204 := lat_some h191
                        refine Lst.run rfl rfl (by decide) (Ev.indexS (α := BitVec 16) (xs := l144) rfl rfl Try.runUnderlying22 Try.sizeOf23 rfl (by decide) (Rd.own (i := 0) rfl rfl rfl) g204.1 g204.2.1) ?_
                        refine Lst.nil ?_
                        refine At.hd inv (fun w h => (h.weaken (FLe.refl _)).sublist (List.Sublist.cons _ (List.Sublist.refl _))) ?_
                        refine HdJ.step [13] (by kernel_rfl) rfl ?_
                        refine HdStep.cons (by decide) rfl (fun inv => ?_) ?_
                        · refine Lst.storeS (i := 0) rfl rfl rfl rfl rfl Try.sizeOf23 (vs := [.int .u16 x184.toNat]) rfl rfl (by decide) rfl (xs' := encs p193) (by rw [← h194]; exact (Put.elemN (s := 1) (x := x190) rfl g204.2.2 (Put.here (vs := [.int .u16 x184.toNat]) rfl)).off (by omega)) (L' := (.own s_a0 23 1 (encs p193)) :: L) rfl ?_
                          refine Lst.nil ?_
                          refine At.hd inv (fun w h => (h.weaken (FLe.refl _)).sublist (List.Sublist.cons _ (List.Sublist.refl _))) ?_
                          refine HdJ.done (by kernel_rfl) ?_
                          exact At.meetN p193 (FLe.refl _) ⟨rfl, rfl, rfl, rfl, trivial⟩ rfl h198
                        exact trivial
                      exact trivial
                    exact trivial
                  exact trivial
                exact trivial
              refine HdStep.cons (by decide) rfl (fun inv => ?_) ?_
              · have g205 := lat_some h188
                refine Lst.run rfl rfl (by decide) (Ev.indexS (α := BitVec 16) (xs := l144) rfl rfl Try.runUnderlying22 Try.sizeOf23 rfl (by decide) (Rd.own (i := 0) rfl rfl rfl) g205.1 g205.2.1) ?_
                refine Lst.nil ?_
                refine At.hd inv (fun w h => (h.weaken (FLe.refl _)).sublist (List.Sublist.cons _ (List.Sublist.refl _))) ?_
                refine HdJ.step [6, 11] (by kernel_rfl) rfl ?_
                refine HdStep.cons (by decide) rfl (fun inv => ?_) ?_
                · have g206 := lat_some h185
                  refine Lst.run rfl rfl (by decide) (Ev.indexS (α := BitVec 16) (xs := l144) rfl rfl Try.runUnderlying22 Try.sizeOf23 rfl (by decide) (Rd.own (i := 0) rfl rfl rfl) g206.1 g206.2.1) ?_
                  refine Lst.nil ?_
                  refine At.hd inv (fun w h => (h.weaken (FLe.refl _)).sublist (List.Sublist.cons _ (List.Sublist.refl _))) ?_
                  refine HdJ.step [7, 11] (by kernel_rfl) rfl ?_
                  refine HdStep.cons (by decide) rfl (fun inv => ?_) ?_
                  · refine Lst.run rfl rfl (by decide) (Ev.loadS (α := BitVec 16) rfl (Rd.own (i := 0) rfl rfl rfl) Try.isAgg23 (v := .int .u16 x184.toNat) ((Get.elemN (s := 1) (x := x184) rfl g206.2.2 (Get.here _)).off (by omega))) ?_
                    refine Lst.nil ?_
                    refine At.hd inv (fun w h => (h.weaken (FLe.refl _)).sublist (List.Sublist.cons _ (List.Sublist.refl _))) ?_
                    refine HdJ.step [11] (by kernel_rfl) rfl ?_
                    refine HdStep.cons (by decide) rfl (fun inv => ?_) ?_
                    · refine Lst.run rfl rfl (by decide) (Ev.loadS (α := BitVec 16) rfl (Rd.own (i := 0) rfl rfl rfl) Try.isAgg23 (v := .int .u16 x187.toNat) ((Get.elemN (s := 1) (x := x187) rfl g205.2.2 (Get.here _)).off (by omega))) ?_
                      refine Lst.nil ?_
                      refine At.hd inv (fun w h => (h.weaken (FLe.refl _)).sublist (List.Sublist.cons _ (List.Sublist.refl _))) ?_
                      refine HdJ.step [12] (by kernel_rfl) rfl ?_
                      refine HdStep.cons (by decide) rfl (fun inv => ?_) ?_
                      · have g207 := lat_some h191
                        refine Lst.run rfl rfl (by decide) (Ev.indexS (α := BitVec 16) (xs := l144) rfl rfl Try.runUnderlying22 Try.sizeOf23 rfl (by decide) (Rd.own (i := 0) rfl rfl rfl) g207.1 g207.2.1) ?_
                        refine Lst.nil ?_
                        refine At.hd inv (fun w h => (h.weaken (FLe.refl _)).sublist (List.Sublist.cons _ (List.Sublist.refl _))) ?_
                        refine HdJ.step [13] (by kernel_rfl) rfl ?_
                        refine HdStep.cons (by decide) rfl (fun inv => ?_) ?_
                        · refine Lst.storeS (i := 0) rfl rfl rfl rfl rfl Try.sizeOf23 (vs := [.int .u16 x184.toNat]) rfl rfl (by decide) rfl (xs' := encs p193) (by rw [← h194]; exact (Put.elemN (s := 1) (x := x190) rfl g207.2.2 (Put.here (vs := [.int .u16 x184.toNat]) rfl)).off (by omega)) (L' := (.own s_a0 23 1 (encs p193)) :: L) rfl ?_
                          refine Lst.nil ?_
                          refine At.hd inv (fun w h => (h.weaken (FLe.refl _)).sublist (List.Sublist.cons _ (List.Sublist.refl _))) ?_
                          refine HdJ.done (by kernel_rfl) ?_
                          exact At.meetN p193 (FLe.refl _) ⟨rfl, rfl, rfl, rfl, trivial⟩ rfl h198
                        exact trivial
                      exact trivial
                    exact trivial
                  refine HdStep.cons (by decide) rfl (fun inv => ?_) ?_
                  · refine Lst.run rfl rfl (by decide) (Ev.loadS (α := BitVec 16) rfl (Rd.own (i := 0) rfl rfl rfl) Try.isAgg23 (v := .int .u16 x187.toNat) ((Get.elemN (s := 1) (x := x187) rfl g205.2.2 (Get.here _)).off (by omega))) ?_
                    refine Lst.nil ?_
                    refine At.hd inv (fun w h => (h.weaken (FLe.refl _)).sublist (List.Sublist.cons _ (List.Sublist.refl _))) ?_
                    refine HdJ.step [7] (by kernel_rfl) rfl ?_
                    refine HdStep.cons (by decide) rfl (fun inv => ?_) ?_
                    · refine Lst.run rfl rfl (by decide) (Ev.loadS (α := BitVec 16) rfl (Rd.own (i := 0) rfl rfl rfl) Try.isAgg23 (v := .int .u16 x184.toNat) ((Get.elemN (s := 1) (x := x184) rfl g206.2.2 (Get.here _)).off (by omega))) ?_
                      refine Lst.nil ?_
                      refine At.hd inv (fun w h => (h.weaken (FLe.refl _)).sublist (List.Sublist.cons _ (List.Sublist.refl _))) ?_
                      refine HdJ.step [12] (by kernel_rfl) rfl ?_
                      refine HdStep.cons (by decide) rfl (fun inv => ?_) ?_
                      · have g208 := lat_some h191
                        refine Lst.run rfl rfl (by decide) (Ev.indexS (α := BitVec 16) (xs := l144) rfl rfl Try.runUnderlying22 Try.sizeOf23 rfl (by decide) (Rd.own (i := 0) rfl rfl rfl) g208.1 g208.2.1) ?_
                        refine Lst.nil ?_
                        refine At.hd inv (fun w h => (h.weaken (FLe.refl _)).sublist (List.Sublist.cons _ (List.Sublist.refl _))) ?_
                        refine HdJ.step [13] (by kernel_rfl) rfl ?_
                        refine HdStep.cons (by decide) rfl (fun inv => ?_) ?_
                        · refine Lst.storeS (i := 0) rfl rfl rfl rfl rfl Try.sizeOf23 (vs := [.int .u16 x184.toNat]) rfl rfl (by decide) rfl (xs' := encs p193) (by rw [← h194]; exact (Put.elemN (s := 1) (x := x190) rfl g208.2.2 (Put.here (vs := [.int .u16 x184.toNat]) rfl)).off (by omega)) (L' := (.own s_a0 23 1 (encs p193)) :: L) rfl ?_
                          refine Lst.nil ?_
                          refine At.hd inv (fun w h => (h.weaken (FLe.refl _)).sublist (List.Sublist.cons _ (List.Sublist.refl _))) ?_
                          refine HdJ.done (by kernel_rfl) ?_
                          exact At.meetN p193 (FLe.refl _) ⟨rfl, rfl, rfl, rfl, trivial⟩ rfl h198
                        exact trivial
                      exact trivial
                    exact trivial
                  exact trivial
                refine HdStep.cons (by decide) rfl (fun inv => ?_) ?_
                · refine Lst.run rfl rfl (by decide) (Ev.loadS (α := BitVec 16) rfl (Rd.own (i := 0) rfl rfl rfl) Try.isAgg23 (v := .int .u16 x187.toNat) ((Get.elemN (s := 1) (x := x187) rfl g205.2.2 (Get.here _)).off (by omega))) ?_
                  refine Lst.nil ?_
                  refine At.hd inv (fun w h => (h.weaken (FLe.refl _)).sublist (List.Sublist.cons _ (List.Sublist.refl _))) ?_
                  refine HdJ.step [6] (by kernel_rfl) rfl ?_
                  refine HdStep.cons (by decide) rfl (fun inv => ?_) ?_
                  · have g209 := lat_some h185
                    refine Lst.run rfl rfl (by decide) (Ev.indexS (α := BitVec 16) (xs := l144) rfl rfl Try.runUnderlying22 Try.sizeOf23 rfl (by decide) (Rd.own (i := 0) rfl rfl rfl) g209.1 g209.2.1) ?_
                    refine Lst.nil ?_
                    refine At.hd inv (fun w h => (h.weaken (FLe.refl _)).sublist (List.Sublist.cons _ (List.Sublist.refl _))) ?_
                    refine HdJ.step [7] (by kernel_rfl) rfl ?_
                    refine HdStep.cons (by decide) rfl (fun inv => ?_) ?_
                    · refine Lst.run rfl rfl (by decide) (Ev.loadS (α := BitVec 16) rfl (Rd.own (i := 0) rfl rfl rfl) Try.isAgg23 (v := .int .u16 x184.toNat) ((Get.elemN (s := 1) (x := x184) rfl g209.2.2 (Get.here _)).off (by omega))) ?_
                      refine Lst.nil ?_
                      refine At.hd inv (fun w h => (h.weaken (FLe.refl _)).sublist (List.Sublist.cons _ (List.Sublist.refl _))) ?_
                      refine HdJ.step [12] (by kernel_rfl) rfl ?_
                      refine HdStep.cons (by decide) rfl (fun inv => ?_) ?_
                      · have g210 := lat_some h191
                        refine Lst.run rfl rfl (by decide) (Ev.indexS (α := BitVec 16) (xs := l144) rfl rfl Try.runUnderlying22 Try.sizeOf23 rfl (by decide) (Rd.own (i := 0) rfl rfl rfl) g210.1 g210.2.1) ?_
                        refine Lst.nil ?_
                        refine At.hd inv (fun w h => (h.weaken (FLe.refl _)).sublist (List.Sublist.cons _ (List.Sublist.refl _))) ?_
                        refine HdJ.step [13] (by kernel_rfl) rfl ?_
                        refine HdStep.cons (by decide) rfl (fun inv => ?_) ?_
                        · refine Lst.storeS (i := 0) rfl rfl rfl rfl rfl Try.sizeOf23 (vs := [.int .u16 x184.toNat]) rfl rfl (by decide) rfl (xs' := encs p193) (by rw [← h194]; exact (Put.elemN (s := 1) (x := x190) rfl g210.2.2 (Put.here (vs := [.int .u16 x184.toNat]) rfl)).off (by omega)) (L' := (.own s_a0 23 1 (encs p193)) :: L) rfl ?_
                          refine Lst.nil ?_
                          refine At.hd inv (fun w h => (h.weaken (FLe.refl _)).sublist (List.Sublist.cons _ (List.Sublist.refl _))) ?_
                          refine HdJ.done (by kernel_rfl) ?_
                          exact At.meetN p193 (FLe.refl _) ⟨rfl, rfl, rfl, rfl, trivial⟩ rfl h198
                        exact trivial
                      exact trivial
                    exact trivial
                  exact trivial
                exact trivial
              exact trivial
            rintro F211 l196 hF212 hy
            subst hy
            refine Lst.as (e' := [(13, .int .i64 y166), (165, Sl.v s_a0), (166, .int .i64 a1), (174, .int .u16 x187.toNat)]) (L' := (.own s_a0 23 1 (encs l196)) :: L) ⟨rfl, rfl, rfl, rfl, trivial⟩ rfl ?_
            obtain ⟨x213, h214, H⟩ := bind_some H
            have g215 := lat_some h214
            refine Lst.run rfl rfl (by decide) (Ev.indexS (α := BitVec 16) (xs := l196) rfl rfl Try.runUnderlying22 Try.sizeOf23 rfl (by decide) (Rd.own (i := 0) rfl rfl rfl) g215.1 g215.2.1) ?_
            obtain ⟨p216, h217, H⟩ := Let_some H
            refine Lst.storeS (i := 0) rfl rfl rfl rfl rfl Try.sizeOf23 (vs := [.int .u16 x187.toNat]) rfl rfl (by decide) rfl (xs' := encs p216) (by rw [← h217]; exact (Put.elemN (s := 1) (x := x213) rfl g215.2.2 (Put.here (vs := [.int .u16 x187.toNat]) rfl)).off (by omega)) (L' := (.own s_a0 23 1 (encs p216)) :: L) rfl ?_
            refine Lst.nil ?_
            refine At.then ?_
            refine Cd.seq ?_
            refine Cd.region ?_
            refine Lst.run rfl rfl (by decide) (Ev.move rfl) ?_
            refine Lst.run rfl rfl (by decide) (Ev.assign rfl) ?_
            refine Lst.run rfl rfl (by decide) (Ev.assign rfl) ?_
            refine Lst.nil ?_
            refine At.then ?_
            obtain rfl := some_inj H
            refine Cd.ret ?_
            exact At.ret2 rfl (Res.tmp rfl) (Res.tmp rfl) (FLe.trans (FLe.trans (FLe.trans (FLe.trans (FLe.trans (FLe.trans (FLe.trans hF30 hF39) hF57) hF135) hF146) hF150) hF168) hF212) (List.Sublist.cons_cons _ (List.Sublist.refl _)) ⟨rfl, rfl⟩
          replace H := ite_f hb183 H
          refine Cd.condF rfl hb183 ?_
          refine Cd.skip ?_
          refine At.then ?_
          refine Cd.seq ?_
          obtain ⟨x218, h219, H⟩ := bind_some H
          obtain ⟨x221, h222, H⟩ := bind_some H
          obtain ⟨x224, h225, H⟩ := bind_some H
          obtain ⟨p227, h228, H⟩ := Let_some H
          obtain ⟨o231, h232, H⟩ := Let_some H
          refine Cd.headMeet (σ := (List (BitVec 16))) 14 (fun l230 => [(0, Sl.v s_a0), (1, .int .i64 a1), (4, .func (.func 53) #[] #[]), (12, .int .i64 y148), (13, .int .i64 y166), (147, Sl.v s_a0), (148, .int .i64 y166), (156, .int .u16 x221.toNat)]) (fun l230 => (.own s_a0 23 1 (encs l230)) :: L) (fun _ l230 => l230 = o231) (by kernel_rfl) (by kernel_rfl) (behind_sink (by kernel_rfl) (by kernel_rfl) (by kernel_rfl)) (by kernel_rfl) (fun hsel hlt => ?_) ?_
          · refine HdJ.keep (fun w => St w0 F167 (L) w) (fun w h => trivial) ?_
            refine HdJ.takeK hsel hlt 0 (fun w h => h.sublist (List.Sublist.cons _ (List.Sublist.refl _))) rfl rfl (by decide) (by decide) (by kernel_rfl) (by kernel_rfl) rfl (Ev.move rfl) ?_
            refine HdJ.takeK hsel hlt 1 (fun w h => h.sublist (List.Sublist.cons _ (List.Sublist.refl _))) rfl rfl (by decide) (by decide) (by kernel_rfl) (by kernel_rfl) rfl (Ev.move rfl) ?_
            refine HdJ.takeK hsel hlt 2 (fun w h => h.sublist (List.Sublist.cons _ (List.Sublist.refl _))) rfl rfl (by decide) (by decide) (by kernel_rfl) (by kernel_rfl) rfl (Ev.move rfl) ?_
            refine HdJ.takeK hsel hlt 3 (fun w h => h.sublist (List.Sublist.cons _ (List.Sublist.refl _))) rfl rfl (by decide) (by decide) (by kernel_rfl) (by kernel_rfl) rfl (Ev.move rfl) ?_
            refine HdJ.takeK hsel hlt 4 (fun w h => h.sublist (List.Sublist.cons _ (List.Sublist.refl _))) rfl rfl (by decide) (by decide) (by kernel_rfl) (by kernel_rfl) rfl (Ev.move rfl) ?_
            refine HdJ.takeK hsel hlt 5 (fun w h => h.sublist (List.Sublist.cons _ (List.Sublist.refl _))) rfl rfl (by decide) (by decide) (by kernel_rfl) (by kernel_rfl) rfl (Ev.move rfl) ?_
            refine HdJ.takeK hsel hlt 8 (fun w h => h.sublist (List.Sublist.cons _ (List.Sublist.refl _))) rfl rfl (by decide) (by decide) (by kernel_rfl) (by kernel_rfl) rfl (Ev.move rfl) ?_
            refine HdJ.takeK hsel hlt 9 (fun w h => h.sublist (List.Sublist.cons _ (List.Sublist.refl _))) rfl rfl (by decide) (by decide) (by kernel_rfl) (by kernel_rfl) rfl (Ev.move rfl) ?_
            refine HdJ.step [6, 10] (by kernel_rfl) rfl ?_
            refine HdStep.cons (by decide) rfl (fun inv => ?_) ?_
            · have g233 := lat_some h219
              refine Lst.run rfl rfl (by decide) (Ev.indexS (α := BitVec 16) (xs := l144) rfl rfl Try.runUnderlying22 Try.sizeOf23 rfl (by decide) (Rd.own (i := 0) rfl rfl rfl) g233.1 g233.2.1) ?_
              refine Lst.nil ?_
              refine At.hd inv (fun w h => (h.weaken (FLe.refl _)).sublist (List.Sublist.cons _ (List.Sublist.refl _))) ?_
              refine HdJ.step [7, 10] (by kernel_rfl) rfl ?_
              refine HdStep.cons (by decide) rfl (fun inv => ?_) ?_
              · refine Lst.run rfl rfl (by decide) (Ev.loadS (α := BitVec 16) rfl (Rd.own (i := 0) rfl rfl rfl) Try.isAgg23 (v := .int .u16 x218.toNat) ((Get.elemN (s := 1) (x := x218) rfl g233.2.2 (Get.here _)).off (by omega))) ?_
                refine Lst.nil ?_
                refine At.hd inv (fun w h => (h.weaken (FLe.refl _)).sublist (List.Sublist.cons _ (List.Sublist.refl _))) ?_
                refine HdJ.step [10] (by kernel_rfl) rfl ?_
                refine HdStep.cons (by decide) rfl (fun inv => ?_) ?_
                · have g234 := lat_some h222
                  refine Lst.run rfl rfl (by decide) (Ev.indexS (α := BitVec 16) (xs := l144) rfl rfl Try.runUnderlying22 Try.sizeOf23 rfl (by decide) (Rd.own (i := 0) rfl rfl rfl) g234.1 g234.2.1) ?_
                  refine Lst.nil ?_
                  refine At.hd inv (fun w h => (h.weaken (FLe.refl _)).sublist (List.Sublist.cons _ (List.Sublist.refl _))) ?_
                  refine HdJ.step [11] (by kernel_rfl) rfl ?_
                  refine HdStep.cons (by decide) rfl (fun inv => ?_) ?_
                  · refine Lst.run rfl rfl (by decide) (Ev.loadS (α := BitVec 16) rfl (Rd.own (i := 0) rfl rfl rfl) Try.isAgg23 (v := .int .u16 x221.toNat) ((Get.elemN (s := 1) (x := x221) rfl g234.2.2 (Get.here _)).off (by omega))) ?_
                    refine Lst.nil ?_
                    refine At.hd inv (fun w h => (h.weaken (FLe.refl _)).sublist (List.Sublist.cons _ (List.Sublist.refl _))) ?_
                    refine HdJ.step [12] (by kernel_rfl) rfl ?_
                    refine HdStep.cons (by decide) rfl (fun inv => ?_) ?_
                    · have g235 := lat_some h225
                      refine Lst.run rfl rfl (by decide) (Ev.indexS (α := BitVec 16) (xs := l144) rfl rfl Try.runUnderlying22 Try.sizeOf23 rfl (by decide) (Rd.own (i := 0) rfl rfl rfl) g235.1 g235.2.1) ?_
                      refine Lst.nil ?_
                      refine At.hd inv (fun w h => (h.weaken (FLe.refl _)).sublist (List.Sublist.cons _ (List.Sublist.refl _))) ?_
                      refine HdJ.step [13] (by kernel_rfl) rfl ?_
                      refine HdStep.cons (by decide) rfl (fun inv => ?_) ?_
                      · refine Lst.storeS (i := 0) rfl rfl rfl rfl rfl Try.sizeOf23 (vs := [.int .u16 x218.toNat]) rfl rfl (by decide) rfl (xs' := encs p227) (by rw [← h228]; exact (Put.elemN (s := 1) (x := x224) rfl g235.2.2 (Put.here (vs := [.int .u16 x218.toNat]) rfl)).off (by omega)) (L' := (.own s_a0 23 1 (encs p227)) :: L) rfl ?_
                        refine Lst.nil ?_
                        refine At.hd inv (fun w h => (h.weaken (FLe.refl _)).sublist (List.Sublist.cons _ (List.Sublist.refl _))) ?_
                        refine HdJ.done (by kernel_rfl) ?_
                        exact At.meetN p227 (FLe.refl _) ⟨rfl, rfl, rfl, rfl, rfl, rfl, rfl, rfl, trivial⟩ rfl h232
                      exact trivial
                    exact trivial
                  exact trivial
                exact trivial
              refine HdStep.cons (by decide) rfl (fun inv => ?_) ?_
              · have g236 := lat_some h222
                refine Lst.run rfl rfl (by decide) (Ev.indexS (α := BitVec 16) (xs := l144) rfl rfl Try.runUnderlying22 Try.sizeOf23 rfl (by decide) (Rd.own (i := 0) rfl rfl rfl) g236.1 g236.2.1) ?_
                refine Lst.nil ?_
                refine At.hd inv (fun w h => (h.weaken (FLe.refl _)).sublist (List.Sublist.cons _ (List.Sublist.refl _))) ?_
                refine HdJ.step [7, 11] (by kernel_rfl) rfl ?_
                refine HdStep.cons (by decide) rfl (fun inv => ?_) ?_
                · refine Lst.run rfl rfl (by decide) (Ev.loadS (α := BitVec 16) rfl (Rd.own (i := 0) rfl rfl rfl) Try.isAgg23 (v := .int .u16 x218.toNat) ((Get.elemN (s := 1) (x := x218) rfl g233.2.2 (Get.here _)).off (by omega))) ?_
                  refine Lst.nil ?_
                  refine At.hd inv (fun w h => (h.weaken (FLe.refl _)).sublist (List.Sublist.cons _ (List.Sublist.refl _))) ?_
                  refine HdJ.step [11] (by kernel_rfl) rfl ?_
                  refine HdStep.cons (by decide) rfl (fun inv => ?_) ?_
                  · refine Lst.run rfl rfl (by decide) (Ev.loadS (α := BitVec 16) rfl (Rd.own (i := 0) rfl rfl rfl) Try.isAgg23 (v := .int .u16 x221.toNat) ((Get.elemN (s := 1) (x := x221) rfl g236.2.2 (Get.here _)).off (by omega))) ?_
                    refine Lst.nil ?_
                    refine At.hd inv (fun w h => (h.weaken (FLe.refl _)).sublist (List.Sublist.cons _ (List.Sublist.refl _))) ?_
                    refine HdJ.step [12] (by kernel_rfl) rfl ?_
                    refine HdStep.cons (by decide) rfl (fun inv => ?_) ?_
                    · have g237 := lat_some h225
                      refine Lst.run rfl rfl (by decide) (Ev.indexS (α := BitVec 16) (xs := l144) rfl rfl Try.runUnderlying22 Try.sizeOf23 rfl (by decide) (Rd.own (i := 0) rfl rfl rfl) g237.1 g237.2.1) ?_
                      refine Lst.nil ?_
                      refine At.hd inv (fun w h => (h.weaken (FLe.refl _)).sublist (List.Sublist.cons _ (List.Sublist.refl _))) ?_
                      refine HdJ.step [13] (by kernel_rfl) rfl ?_
                      refine HdStep.cons (by decide) rfl (fun inv => ?_) ?_
                      · refine Lst.storeS (i := 0) rfl rfl rfl rfl rfl Try.sizeOf23 (vs := [.int .u16 x218.toNat]) rfl rfl (by decide) rfl (xs' := encs p227) (by rw [← h228]; exact (Put.elemN (s := 1) (x := x224) rfl g237.2.2 (Put.here (vs := [.int .u16 x218.toNat]) rfl)).off (by omega)) (L' := (.own s_a0 23 1 (encs p227)) :: L) rfl ?_
                        refine Lst.nil ?_
                        refine At.hd inv (fun w h => (h.weaken (FLe.refl _)).sublist (List.Sublist.cons _ (List.Sublist.refl _))) ?_
                        refine HdJ.done (by kernel_rfl) ?_
                        exact At.meetN p227 (FLe.refl _) ⟨rfl, rfl, rfl, rfl, rfl, rfl, rfl, rfl, trivial⟩ rfl h232
                      exact trivial
                    exact trivial
                  exact trivial
                refine HdStep.cons (by decide) rfl (fun inv => ?_) ?_
                · refine Lst.run rfl rfl (by decide) (Ev.loadS (α := BitVec 16) rfl (Rd.own (i := 0) rfl rfl rfl) Try.isAgg23 (v := .int .u16 x221.toNat) ((Get.elemN (s := 1) (x := x221) rfl g236.2.2 (Get.here _)).off (by omega))) ?_
                  refine Lst.nil ?_
                  refine At.hd inv (fun w h => (h.weaken (FLe.refl _)).sublist (List.Sublist.cons _ (List.Sublist.refl _))) ?_
                  refine HdJ.step [7] (by kernel_rfl) rfl ?_
                  refine HdStep.cons (by decide) rfl (fun inv => ?_) ?_
                  · refine Lst.run rfl rfl (by decide) (Ev.loadS (α := BitVec 16) rfl (Rd.own (i := 0) rfl rfl rfl) Try.isAgg23 (v := .int .u16 x218.toNat) ((Get.elemN (s := 1) (x := x218) rfl g233.2.2 (Get.here _)).off (by omega))) ?_
                    refine Lst.nil ?_
                    refine At.hd inv (fun w h => (h.weaken (FLe.refl _)).sublist (List.Sublist.cons _ (List.Sublist.refl _))) ?_
                    refine HdJ.step [12] (by kernel_rfl) rfl ?_
                    refine HdStep.cons (by decide) rfl (fun inv => ?_) ?_
                    · have g238 := lat_some h225
                      refine Lst.run rfl rfl (by decide) (Ev.indexS (α := BitVec 16) (xs := l144) rfl rfl Try.runUnderlying22 Try.sizeOf23 rfl (by decide) (Rd.own (i := 0) rfl rfl rfl) g238.1 g238.2.1) ?_
                      refine Lst.nil ?_
                      refine At.hd inv (fun w h => (h.weaken (FLe.refl _)).sublist (List.Sublist.cons _ (List.Sublist.refl _))) ?_
                      refine HdJ.step [13] (by kernel_rfl) rfl ?_
                      refine HdStep.cons (by decide) rfl (fun inv => ?_) ?_
                      · refine Lst.storeS (i := 0) rfl rfl rfl rfl rfl Try.sizeOf23 (vs := [.int .u16 x218.toNat]) rfl rfl (by decide) rfl (xs' := encs p227) (by rw [← h228]; exact (Put.elemN (s := 1) (x := x224) rfl g238.2.2 (Put.here (vs := [.int .u16 x218.toNat]) rfl)).off (by omega)) (L' := (.own s_a0 23 1 (encs p227)) :: L) rfl ?_
                        refine Lst.nil ?_
                        refine At.hd inv (fun w h => (h.weaken (FLe.refl _)).sublist (List.Sublist.cons _ (List.Sublist.refl _))) ?_
                        refine HdJ.done (by kernel_rfl) ?_
                        exact At.meetN p227 (FLe.refl _) ⟨rfl, rfl, rfl, rfl, rfl, rfl, rfl, rfl, trivial⟩ rfl h232
                      exact trivial
                    exact trivial
                  exact trivial
                exact trivial
              exact trivial
            refine HdStep.cons (by decide) rfl (fun inv => ?_) ?_
            · have g239 := lat_some h222
              refine Lst.run rfl rfl (by decide) (Ev.indexS (α := BitVec 16) (xs := l144) rfl rfl Try.runUnderlying22 Try.sizeOf23 rfl (by decide) (Rd.own (i := 0) rfl rfl rfl) g239.1 g239.2.1) ?_
              refine Lst.nil ?_
              refine At.hd inv (fun w h => (h.weaken (FLe.refl _)).sublist (List.Sublist.cons _ (List.Sublist.refl _))) ?_
              refine HdJ.step [6, 11] (by kernel_rfl) rfl ?_
              refine HdStep.cons (by decide) rfl (fun inv => ?_) ?_
              · have g240 := lat_some h219
                refine Lst.run rfl rfl (by decide) (Ev.indexS (α := BitVec 16) (xs := l144) rfl rfl Try.runUnderlying22 Try.sizeOf23 rfl (by decide) (Rd.own (i := 0) rfl rfl rfl) g240.1 g240.2.1) ?_
                refine Lst.nil ?_
                refine At.hd inv (fun w h => (h.weaken (FLe.refl _)).sublist (List.Sublist.cons _ (List.Sublist.refl _))) ?_
                refine HdJ.step [7, 11] (by kernel_rfl) rfl ?_
                refine HdStep.cons (by decide) rfl (fun inv => ?_) ?_
                · refine Lst.run rfl rfl (by decide) (Ev.loadS (α := BitVec 16) rfl (Rd.own (i := 0) rfl rfl rfl) Try.isAgg23 (v := .int .u16 x218.toNat) ((Get.elemN (s := 1) (x := x218) rfl g240.2.2 (Get.here _)).off (by omega))) ?_
                  refine Lst.nil ?_
                  refine At.hd inv (fun w h => (h.weaken (FLe.refl _)).sublist (List.Sublist.cons _ (List.Sublist.refl _))) ?_
                  refine HdJ.step [11] (by kernel_rfl) rfl ?_
                  refine HdStep.cons (by decide) rfl (fun inv => ?_) ?_
                  · refine Lst.run rfl rfl (by decide) (Ev.loadS (α := BitVec 16) rfl (Rd.own (i := 0) rfl rfl rfl) Try.isAgg23 (v := .int .u16 x221.toNat) ((Get.elemN (s := 1) (x := x221) rfl g239.2.2 (Get.here _)).off (by omega))) ?_
                    refine Lst.nil ?_
                    refine At.hd inv (fun w h => (h.weaken (FLe.refl _)).sublist (List.Sublist.cons _ (List.Sublist.refl _))) ?_
                    refine HdJ.step [12] (by kernel_rfl) rfl ?_
                    refine HdStep.cons (by decide) rfl (fun inv => ?_) ?_
                    · have g241 := lat_some h225
                      refine Lst.run rfl rfl (by decide) (Ev.indexS (α := BitVec 16) (xs := l144) rfl rfl Try.runUnderlying22 Try.sizeOf23 rfl (by decide) (Rd.own (i := 0) rfl rfl rfl) g241.1 g241.2.1) ?_
                      refine Lst.nil ?_
                      refine At.hd inv (fun w h => (h.weaken (FLe.refl _)).sublist (List.Sublist.cons _ (List.Sublist.refl _))) ?_
                      refine HdJ.step [13] (by kernel_rfl) rfl ?_
                      refine HdStep.cons (by decide) rfl (fun inv => ?_) ?_
                      · refine Lst.storeS (i := 0) rfl rfl rfl rfl rfl Try.sizeOf23 (vs := [.int .u16 x218.toNat]) rfl rfl (by decide) rfl (xs' := encs p227) (by rw [← h228]; exact (Put.elemN (s := 1) (x := x224) rfl g241.2.2 (Put.here (vs := [.int .u16 x218.toNat]) rfl)).off (by omega)) (L' := (.own s_a0 23 1 (encs p227)) :: L) rfl ?_
                        refine Lst.nil ?_
                        refine At.hd inv (fun w h => (h.weaken (FLe.refl _)).sublist (List.Sublist.cons _ (List.Sublist.refl _))) ?_
                        refine HdJ.done (by kernel_rfl) ?_
                        exact At.meetN p227 (FLe.refl _) ⟨rfl, rfl, rfl, rfl, rfl, rfl, rfl, rfl, trivial⟩ rfl h232
                      exact trivial
                    exact trivial
                  exact trivial
                refine HdStep.cons (by decide) rfl (fun inv => ?_) ?_
                · refine Lst.run rfl rfl (by decide) (Ev.loadS (α := BitVec 16) rfl (Rd.own (i := 0) rfl rfl rfl) Try.isAgg23 (v := .int .u16 x221.toNat) ((Get.elemN (s := 1) (x := x221) rfl g239.2.2 (Get.here _)).off (by omega))) ?_
                  refine Lst.nil ?_
                  refine At.hd inv (fun w h => (h.weaken (FLe.refl _)).sublist (List.Sublist.cons _ (List.Sublist.refl _))) ?_
                  refine HdJ.step [7] (by kernel_rfl) rfl ?_
                  refine HdStep.cons (by decide) rfl (fun inv => ?_) ?_
                  · refine Lst.run rfl rfl (by decide) (Ev.loadS (α := BitVec 16) rfl (Rd.own (i := 0) rfl rfl rfl) Try.isAgg23 (v := .int .u16 x218.toNat) ((Get.elemN (s := 1) (x := x218) rfl g240.2.2 (Get.here _)).off (by omega))) ?_
                    refine Lst.nil ?_
                    refine At.hd inv (fun w h => (h.weaken (FLe.refl _)).sublist (List.Sublist.cons _ (List.Sublist.refl _))) ?_
                    refine HdJ.step [12] (by kernel_rfl) rfl ?_
                    refine HdStep.cons (by decide) rfl (fun inv => ?_) ?_
                    · have g242 := lat_some h225
                      refine Lst.run rfl rfl (by decide) (Ev.indexS (α := BitVec 16) (xs := l144) rfl rfl Try.runUnderlying22 Try.sizeOf23 rfl (by decide) (Rd.own (i := 0) rfl rfl rfl) g242.1 g242.2.1) ?_
                      refine Lst.nil ?_
                      refine At.hd inv (fun w h => (h.weaken (FLe.refl _)).sublist (List.Sublist.cons _ (List.Sublist.refl _))) ?_
                      refine HdJ.step [13] (by kernel_rfl) rfl ?_
                      refine HdStep.cons (by decide) rfl (fun inv => ?_) ?_
                      · refine Lst.storeS (i := 0) rfl rfl rfl rfl rfl Try.sizeOf23 (vs := [.int .u16 x218.toNat]) rfl rfl (by decide) rfl (xs' := encs p227) (by rw [← h228]; exact (Put.elemN (s := 1) (x := x224) rfl g242.2.2 (Put.here (vs := [.int .u16 x218.toNat]) rfl)).off (by omega)) (L' := (.own s_a0 23 1 (encs p227)) :: L) rfl ?_
                        refine Lst.nil ?_
                        refine At.hd inv (fun w h => (h.weaken (FLe.refl _)).sublist (List.Sublist.cons _ (List.Sublist.refl _))) ?_
                        refine HdJ.done (by kernel_rfl) ?_
                        exact At.meetN p227 (FLe.refl _) ⟨rfl, rfl, rfl, rfl, rfl, rfl, rfl, rfl, trivial⟩ rfl h232
                      exact trivial
                    exact trivial
                  exact trivial
                exact trivial
              refine HdStep.cons (by decide) rfl (fun inv => ?_) ?_
              · refine Lst.run rfl rfl (by decide) (Ev.loadS (α := BitVec 16) rfl (Rd.own (i := 0) rfl rfl rfl) Try.isAgg23 (v := .int .u16 x221.toNat) ((Get.elemN (s := 1) (x := x221) rfl g239.2.2 (Get.here _)).off (by omega))) ?_
                refine Lst.nil ?_
                refine At.hd inv (fun w h => (h.weaken (FLe.refl _)).sublist (List.Sublist.cons _ (List.Sublist.refl _))) ?_
                refine HdJ.step [6] (by kernel_rfl) rfl ?_
                refine HdStep.cons (by decide) rfl (fun inv => ?_) ?_
                · have g243 := lat_some h219
                  refine Lst.run rfl rfl (by decide) (Ev.indexS (α := BitVec 16) (xs := l144) rfl rfl Try.runUnderlying22 Try.sizeOf23 rfl (by decide) (Rd.own (i := 0) rfl rfl rfl) g243.1 g243.2.1) ?_
                  refine Lst.nil ?_
                  refine At.hd inv (fun w h => (h.weaken (FLe.refl _)).sublist (List.Sublist.cons _ (List.Sublist.refl _))) ?_
                  refine HdJ.step [7] (by kernel_rfl) rfl ?_
                  refine HdStep.cons (by decide) rfl (fun inv => ?_) ?_
                  · refine Lst.run rfl rfl (by decide) (Ev.loadS (α := BitVec 16) rfl (Rd.own (i := 0) rfl rfl rfl) Try.isAgg23 (v := .int .u16 x218.toNat) ((Get.elemN (s := 1) (x := x218) rfl g243.2.2 (Get.here _)).off (by omega))) ?_
                    refine Lst.nil ?_
                    refine At.hd inv (fun w h => (h.weaken (FLe.refl _)).sublist (List.Sublist.cons _ (List.Sublist.refl _))) ?_
                    refine HdJ.step [12] (by kernel_rfl) rfl ?_
                    refine HdStep.cons (by decide) rfl (fun inv => ?_) ?_
                    · have g244 := lat_some h225
                      refine Lst.run rfl rfl (by decide) (Ev.indexS (α := BitVec 16) (xs := l144) rfl rfl Try.runUnderlying22 Try.sizeOf23 rfl (by decide) (Rd.own (i := 0) rfl rfl rfl) g244.1 g244.2.1) ?_
                      refine Lst.nil ?_
                      refine At.hd inv (fun w h => (h.weaken (FLe.refl _)).sublist (List.Sublist.cons _ (List.Sublist.refl _))) ?_
                      refine HdJ.step [13] (by kernel_rfl) rfl ?_
                      refine HdStep.cons (by decide) rfl (fun inv => ?_) ?_
                      · refine Lst.storeS (i := 0) rfl rfl rfl rfl rfl Try.sizeOf23 (vs := [.int .u16 x218.toNat]) rfl rfl (by decide) rfl (xs' := encs p227) (by rw [← h228]; exact (Put.elemN (s := 1) (x := x224) rfl g244.2.2 (Put.here (vs := [.int .u16 x218.toNat]) rfl)).off (by omega)) (L' := (.own s_a0 23 1 (encs p227)) :: L) rfl ?_
                        refine Lst.nil ?_
                        refine At.hd inv (fun w h => (h.weaken (FLe.refl _)).sublist (List.Sublist.cons _ (List.Sublist.refl _))) ?_
                        refine HdJ.done (by kernel_rfl) ?_
                        exact At.meetN p227 (FLe.refl _) ⟨rfl, rfl, rfl, rfl, rfl, rfl, rfl, rfl, trivial⟩ rfl h232
                      exact trivial
                    exact trivial
                  exact trivial
                exact trivial
              exact trivial
            exact trivial
          rintro F245 l230 hF246 hy
          subst hy
          refine Lst.as (e' := [(0, Sl.v s_a0), (1, .int .i64 a1), (4, .func (.func 53) #[] #[]), (12, .int .i64 y148), (13, .int .i64 y166), (147, Sl.v s_a0), (148, .int .i64 y166), (156, .int .u16 x221.toNat)]) (L' := (.own s_a0 23 1 (encs l230)) :: L) ⟨rfl, rfl, rfl, rfl, rfl, rfl, rfl, rfl, trivial⟩ rfl ?_
          obtain ⟨x247, h248, H⟩ := bind_some H
          have g249 := lat_some h248
          refine Lst.run rfl rfl (by decide) (Ev.indexS (α := BitVec 16) (xs := l230) rfl rfl Try.runUnderlying22 Try.sizeOf23 rfl (by decide) (Rd.own (i := 0) rfl rfl rfl) g249.1 g249.2.1) ?_
          obtain ⟨p250, h251, H⟩ := Let_some H
          refine Lst.storeS (i := 0) rfl rfl rfl rfl rfl Try.sizeOf23 (vs := [.int .u16 x221.toNat]) rfl rfl (by decide) rfl (xs' := encs p250) (by rw [← h251]; exact (Put.elemN (s := 1) (x := x247) rfl g249.2.2 (Put.here (vs := [.int .u16 x221.toNat]) rfl)).off (by omega)) (L' := (.own s_a0 23 1 (encs p250)) :: L) rfl ?_
          refine Lst.nil ?_
          refine At.then ?_
          refine Cd.seq ?_
          refine Cd.region ?_
          refine Lst.run rfl rfl (by decide) (Ev.move rfl) ?_
          refine Lst.run rfl rfl (by decide) (Ev.add rfl rfl) ?_
          refine Lst.run rfl rfl (by decide) (Ev.assign rfl) ?_
          refine Lst.nil ?_
          refine At.then ?_
          refine Cd.region ?_
          refine Lst.run rfl rfl (by decide) (Ev.move rfl) ?_
          refine Lst.run rfl rfl (by decide) (Ev.sub rfl rfl) ?_
          refine Lst.run rfl rfl (by decide) (Ev.assign rfl) ?_
          refine Lst.nil ?_
          refine At.in_normal ?_
          exact At.meet (k141, w64 (y148 + (1 : Int)), w64 (y166 - (1 : Int)), p250) (FLe.trans (FLe.trans (FLe.trans hF146 hF150) hF168) hF246) ⟨rfl, rfl, rfl, rfl, rfl, trivial⟩ rfl ⟨hgo141 _ (some_inj H).symm, Nat.lt_succ_self _⟩
        replace H := ite_t hb182 H
        refine Cd.condT rfl hb182 ?_
        refine Cd.skip ?_
        refine At.then ?_
        refine Cd.block ?_
        refine Cd.region ?_
        refine Lst.run rfl rfl (by decide) (Ev.move rfl) ?_
        refine Lst.run rfl rfl (by decide) (Ev.sub rfl rfl) ?_
        refine Lst.run rfl rfl (by decide) (Ev.assign rfl) ?_
        refine Lst.nil ?_
        refine At.in_normal ?_
        exact At.meet (k165, w64 (y166 - (1 : Int))) hF168 ⟨rfl, rfl, rfl, rfl, rfl, trivial⟩ rfl ⟨hgo165 _ (some_inj H).symm, Nat.lt_succ_self _⟩
      replace H := ite_t hb164 H
      refine Cd.condT rfl hb164 ?_
      refine Cd.skip ?_
      refine At.then ?_
      refine Cd.block ?_
      refine Cd.region ?_
      refine Lst.run rfl rfl (by decide) (Ev.move rfl) ?_
      refine Lst.run rfl rfl (by decide) (Ev.add rfl rfl) ?_
      refine Lst.run rfl rfl (by decide) (Ev.assign rfl) ?_
      refine Lst.nil ?_
      refine At.in_normal ?_
      exact At.meet (k147, w64 (y148 + (1 : Int))) hF150 ⟨rfl, rfl, rfl, rfl, rfl, trivial⟩ rfl ⟨hgo147 _ (some_inj H).symm, Nat.lt_succ_self _⟩
    replace H := ite_t hb71 H
    refine Cd.condT rfl hb71 ?_
    refine Cd.skip ?_
    refine At.then ?_
    refine Cd.block ?_
    refine Cd.region ?_
    refine Lst.run rfl rfl (by decide) (Ev.move rfl) ?_
    refine Lst.run rfl rfl (by decide) (Ev.sub rfl rfl) ?_
    refine Lst.run rfl rfl (by decide) (Ev.assign rfl) ?_
    refine Lst.nil ?_
    refine At.in_normal ?_
    exact At.meet (k54, w64 (y55 - (1 : Int))) hF57 ⟨rfl, rfl, rfl, rfl, rfl, trivial⟩ rfl ⟨hgo54 _ (some_inj H).symm, Nat.lt_succ_self _⟩
  replace H := ite_t hb53 H
  refine Cd.condT rfl hb53 ?_
  refine Cd.skip ?_
  refine At.then ?_
  refine Cd.block ?_
  refine Cd.region ?_
  refine Lst.run rfl rfl (by decide) (Ev.move rfl) ?_
  refine Lst.run rfl rfl (by decide) (Ev.add rfl rfl) ?_
  refine Lst.run rfl rfl (by decide) (Ev.assign rfl) ?_
  refine Lst.nil ?_
  refine At.in_normal ?_
  exact At.meet (k36, w64 (y37 + (1 : Int))) hF39 ⟨rfl, rfl, rfl, rfl, rfl, trivial⟩ rfl ⟨hgo36 _ (some_inj H).symm, Nat.lt_succ_self _⟩
set_option maxRecDepth 20000 in
theorem slices_pdqsortCmpFunc_uint16_quorum_compare_simR : ∀ (fu : Nat) {a0 : List (BitVec 16)} {a1 : Int} {a2 : Int} {a3 : Int} {s_a0 : Sl} {r : (List (BitVec 16))} (H : slices_pdqsortCmpFunc_uint16_quorum_compare fu a0 a1 a2 a3 = some r) (w0 : World) (F : Frz) (M L : List Item) (hM : M.Sublist L), Ok Try.prog w0 112 [Sl.v s_a0, .int .i64 a1, .int .i64 a2, .int .i64 a3, .func (.func 53) #[] #[]] F ((.own s_a0 23 1 (encs a0)) :: L) (fun _ L' v => v = .tuple #[] ∧ L' = (.own s_a0 23 1 (encs r)) :: L) := by
  intro fu
  induction fu with
  | zero => intro a0 a1 a2 a3 s_a0 r H; exact nomatch (show (none : Option (List (BitVec 16))) = some _ from H)
  | succ fu ih =>
    intro a0 a1 a2 a3 s_a0 r H w0 F M L hM
    replace H : slices_pdqsortCmpFunc_uint16_quorum_compare_R fu (slices_pdqsortCmpFunc_uint16_quorum_compare fu) a0 a1 a2 a3 = some r := H
    generalize slices_pdqsortCmpFunc_uint16_quorum_compare fu = rc at H ih
    unfold slices_pdqsortCmpFunc_uint16_quorum_compare_R at H
    refine Ok.enter (m := 5) (n := 148) Try.func112 rfl rfl rfl (by decide) ?_
    refine Cd.env (e' := [(0, Sl.v s_a0), (1, .int .i64 a1), (2, .int .i64 a2), (3, .int .i64 a3), (4, .func (.func 53) #[] #[])]) rfl ?_
    refine Cd.seq ?_
    refine Cd.region ?_
    refine Lst.run rfl rfl (by decide) (Ev.assign rfl) ?_
    refine Lst.nil ?_
    refine At.then ?_
    refine Cd.seq ?_
    refine Cd.region ?_
    refine Lst.run rfl rfl (by decide) (Ev.assign rfl) ?_
    refine Lst.nil ?_
    refine At.then ?_
    refine Cd.block ?_
    obtain ⟨ol2, H, HKl2⟩ := andThen_some H
    refine Cd.loop (σ := Nat × Int × Int × Int × Bool × Bool × (List (BitVec 16))) (fun (k2, y3, y4, y5, y6, y7, l8) => [(0, Sl.v s_a0), (1, .int .i64 y3), (2, .int .i64 y4), (3, .int .i64 y5), (4, .func (.func 53) #[] #[]), (10, .bool y6), (11, .bool y7)]) (fun (k2, y3, y4, y5, y6, y7, l8) => (.own s_a0 23 1 (encs l8)) :: L) (fun _ => (fun (k2, y3, y4, y5, y6, y7, l8) => whileM (slices_pdqsortCmpFunc_uint16_quorum_compare_B0 fu rc) k2 (y3, y4, y5, y6, y7, l8) = some ol2)) (fun (k2, y3, y4, y5, y6, y7, l8) => k2) (fu, a1, a2, a3, true, true, a0) ⟨rfl, rfl, rfl, rfl, rfl, rfl, rfl, trivial⟩ rfl H ?_
    rintro F9 ⟨k2, y3, y4, y5, y6, y7, l8⟩ hF10 H
    refine Cd.as (e' := [(0, Sl.v s_a0), (1, .int .i64 y3), (2, .int .i64 y4), (3, .int .i64 y5), (4, .func (.func 53) #[] #[]), (10, .bool y6), (11, .bool y7)]) (L' := (.own s_a0 23 1 (encs l8)) :: L) ⟨rfl, rfl, rfl, rfl, rfl, rfl, rfl, trivial⟩ rfl ?_
    rcases k2 with _ | k2
    · cases H
    obtain ⟨c2, H, hgo2, hbrk2, hret2⟩ := whileM_go H
    unfold slices_pdqsortCmpFunc_uint16_quorum_compare_B0 at H
    try dsimp only at H
    refine Cd.block ?_
    refine Cd.seq ?_
    refine Cd.region ?_
    refine Lst.run rfl rfl (by decide) (Ev.move rfl) ?_
    refine Lst.run rfl rfl (by decide) (Ev.move rfl) ?_
    refine Lst.run rfl rfl (by decide) (Ev.sub rfl rfl) ?_
    refine Lst.run rfl rfl (by decide) (Ev.assign rfl) ?_
    refine Lst.nil ?_
    refine At.then ?_
    refine Cd.seq ?_
    refine Cd.seq ?_
    refine Cd.region ?_
    refine Lst.run rfl rfl (by decide) (Ev.move rfl) ?_
    refine Lst.run rfl rfl (by decide) (Ev.leq rfl rfl) ?_
    refine Lst.nil ?_
    refine At.then ?_
    rcases Bool.eq_false_or_eq_true (decide ((w64 (y4 - y3)) ≤ (12 : Int))) with hb11 | hb11
    · replace H := ite_t hb11 H
      refine Cd.condT rfl hb11 ?_
      refine Cd.seq ?_
      refine Cd.region ?_
      refine Lst.run rfl rfl (by decide) (Ev.move rfl) ?_
      refine Lst.run rfl rfl (by decide) (Ev.move rfl) ?_
      refine Lst.run rfl rfl (by decide) (Ev.move rfl) ?_
      refine Lst.run rfl rfl (by decide) (Ev.move rfl) ?_
      obtain ⟨r12, h13, H⟩ := bind_some H
      refine Lst.call rfl rfl (by decide) (vs := [Sl.v s_a0, .int .i64 y3, .int .i64 y4, .func (.func 53) #[] #[]]) ⟨rfl, rfl, rfl, rfl, trivial⟩ Try.call134 (slices_insertionSortCmpFunc_uint16_quorum_compare_sim h13 w0 _ M _ hM) (fun F14 L' v hF15 hv => ?_)
      obtain ⟨rfl, rfl⟩ := hv
      refine Lst.nil ?_
      refine At.then ?_
      have H := hret2 _ (some_inj H).symm
      subst H
      replace H := HKl2
      obtain rfl := some_inj H
      refine Cd.ret ?_
      refine At.then_ret ?_
      refine At.in_ret ?_
      refine At.then_ret ?_
      refine At.in_ret ?_
      exact At.ret0 (.inl rfl) rfl (FLe.trans hF10 hF15) (List.Sublist.cons_cons _ (List.Sublist.refl _)) ⟨rfl, rfl⟩
    replace H := ite_f hb11 H
    refine Cd.condF rfl hb11 ?_
    refine Cd.skip ?_
    refine At.then ?_
    refine Cd.seq ?_
    refine Cd.seq ?_
    refine Cd.region ?_
    refine Lst.run rfl rfl (by decide) (Ev.move rfl) ?_
    refine Lst.run rfl rfl (by decide) (Ev.eql rfl rfl) ?_
    refine Lst.nil ?_
    refine At.then ?_
    rcases Bool.eq_false_or_eq_true (y5 == (0 : Int)) with hb16 | hb16
    · replace H := ite_t hb16 H
      refine Cd.condT rfl hb16 ?_
      refine Cd.seq ?_
      refine Cd.region ?_
      refine Lst.run rfl rfl (by decide) (Ev.move rfl) ?_
      refine Lst.run rfl rfl (by decide) (Ev.move rfl) ?_
      refine Lst.run rfl rfl (by decide) (Ev.move rfl) ?_
      refine Lst.run rfl rfl (by decide) (Ev.move rfl) ?_
      obtain ⟨r17, h18, H⟩ := bind_some H
      refine Lst.call rfl rfl (by decide) (vs := [Sl.v s_a0, .int .i64 y3, .int .i64 y4, .func (.func 53) #[] #[]]) ⟨rfl, rfl, rfl, rfl, trivial⟩ Try.call135 (slices_heapSortCmpFunc_uint16_quorum_compare_sim h18 w0 _ M _ hM) (fun F19 L' v hF20 hv => ?_)
      obtain ⟨rfl, rfl⟩ := hv
      refine Lst.nil ?_
      refine At.then ?_
      have H := hret2 _ (some_inj H).symm
      subst H
      replace H := HKl2
      obtain rfl := some_inj H
      refine Cd.ret ?_
      refine At.then_ret ?_
      refine At.in_ret ?_
      refine At.then_ret ?_
      refine At.in_ret ?_
      exact At.ret0 (.inl rfl) rfl (FLe.trans hF10 hF20) (List.Sublist.cons_cons _ (List.Sublist.refl _)) ⟨rfl, rfl⟩
    replace H := ite_f hb16 H
    refine Cd.condF rfl hb16 ?_
    refine Cd.skip ?_
    refine At.then ?_
    obtain ⟨o23, H, HKo23⟩ := bind_some H
    refine Cd.join (σ := Int × (List (BitVec 16))) (fun (y21, l22) => [(0, Sl.v s_a0), (1, .int .i64 y3), (2, .int .i64 y4), (3, .int .i64 y21), (4, .func (.func 53) #[] #[]), (10, .bool y6), (11, .bool y7), (12, .int .i64 (w64 (y4 - y3)))]) (fun (y21, l22) => (.own s_a0 23 1 (encs l22)) :: L) (fun _ (y21, l22) => (y21, l22) = o23) ?_ ?_
    · refine Cd.seq ?_
      refine Cd.region ?_
      refine Lst.run rfl rfl (by decide) (Ev.move rfl) ?_
      refine Lst.run rfl rfl (by decide) (Ev.not rfl) ?_
      refine Lst.nil ?_
      refine At.then ?_
      rcases (Bool.eq_false_or_eq_true (!y6)).symm with hb24 | hb24
      · replace H := ite_f hb24 H
        refine Cd.condF rfl hb24 ?_
        refine Cd.skip ?_
        exact At.meet (y5, l8) (FLe.refl _) ⟨rfl, rfl, rfl, rfl, rfl, rfl, rfl, rfl, trivial⟩ rfl (some_inj H)
      replace H := ite_t hb24 H
      refine Cd.condT rfl hb24 ?_
      refine Cd.seq ?_
      refine Cd.region ?_
      refine Lst.run rfl rfl (by decide) (Ev.move rfl) ?_
      refine Lst.run rfl rfl (by decide) (Ev.move rfl) ?_
      refine Lst.run rfl rfl (by decide) (Ev.move rfl) ?_
      refine Lst.run rfl rfl (by decide) (Ev.move rfl) ?_
      obtain ⟨r25, h26, H⟩ := bind_some H
      refine Lst.call rfl rfl (by decide) (vs := [Sl.v s_a0, .int .i64 y3, .int .i64 y4, .func (.func 53) #[] #[]]) ⟨rfl, rfl, rfl, rfl, trivial⟩ Try.call136 (slices_breakPatternsCmpFunc_uint16_quorum_compare_sim h26 w0 _ M _ hM) (fun F27 L' v hF28 hv => ?_)
      obtain ⟨rfl, rfl⟩ := hv
      refine Lst.nil ?_
      refine At.then ?_
      refine Cd.region ?_
      refine Lst.run rfl rfl (by decide) (Ev.move rfl) ?_
      refine Lst.run rfl rfl (by decide) (Ev.sub rfl rfl) ?_
      refine Lst.run rfl rfl (by decide) (Ev.assign rfl) ?_
      refine Lst.nil ?_
      exact At.meet (w64 (y5 - (1 : Int)), r25) hF28 ⟨rfl, rfl, rfl, rfl, rfl, rfl, rfl, rfl, trivial⟩ rfl (some_inj H)
    rintro F29 ⟨y21, l22⟩ hF30 hy
    subst hy
    refine Cd.as (e' := [(0, Sl.v s_a0), (1, .int .i64 y3), (2, .int .i64 y4), (3, .int .i64 y21), (4, .func (.func 53) #[] #[]), (10, .bool y6), (11, .bool y7), (12, .int .i64 (w64 (y4 - y3)))]) (L' := (.own s_a0 23 1 (encs l22)) :: L) ⟨rfl, rfl, rfl, rfl, rfl, rfl, rfl, rfl, trivial⟩ rfl ?_
    replace H := HKo23
    refine Cd.seq ?_
    refine Cd.region ?_
    refine Lst.run rfl rfl (by decide) (Ev.move rfl) ?_
    refine Lst.run rfl rfl (by decide) (Ev.move rfl) ?_
    refine Lst.run rfl rfl (by decide) (Ev.move rfl) ?_
    refine Lst.run rfl rfl (by decide) (Ev.move rfl) ?_
    obtain ⟨r31, h32, H⟩ := bind_some H
    refine Lst.call1 rfl rfl (by decide) (vs := [Sl.v s_a0, .int .i64 y3, .int .i64 y4, .func (.func 53) #[] #[]]) ⟨rfl, rfl, rfl, rfl, trivial⟩ Try.call137 (slices_choosePivotCmpFunc_uint16_quorum_compare_sim h32 w0 _ _ _ (List.Sublist.refl _) (Rd.own (i := 0) rfl rfl rfl)) ?_
    refine Lst.run rfl rfl (by decide) (Ev.move rfl) ?_
    refine Lst.run rfl rfl (by decide) (Ev.extract rfl rfl) ?_
    refine Lst.run rfl rfl (by decide) (Ev.extract rfl rfl) ?_
    refine Lst.run rfl rfl (by decide) (Ev.assign rfl) ?_
    refine Lst.run rfl rfl (by decide) (Ev.assign rfl) ?_
    refine Lst.nil ?_
    refine At.then ?_
    obtain ⟨o38, H, HKo38⟩ := bind_some H
    refine Cd.join (σ := Int × Int × (List (BitVec 16))) (fun (y35, y36, l37) => [(0, Sl.v s_a0), (1, .int .i64 y3), (2, .int .i64 y4), (3, .int .i64 y21), (4, .func (.func 53) #[] #[]), (10, .bool y6), (11, .bool y7), (12, .int .i64 (w64 (y4 - y3))), (13, .int .i64 y35), (14, .int .i64 y36)]) (fun (y35, y36, l37) => (.own s_a0 23 1 (encs l37)) :: L) (fun _ (y35, y36, l37) => (y35, y36, l37) = o38) ?_ ?_
    · refine Cd.seq ?_
      refine Cd.region ?_
      refine Lst.run rfl rfl (by decide) (Ev.move rfl) ?_
      refine Lst.run rfl rfl (by decide) (Ev.eql rfl rfl) ?_
      refine Lst.nil ?_
      refine At.then ?_
      rcases (Bool.eq_false_or_eq_true (r31.2 == (2 : Int))).symm with hb39 | hb39
      · replace H := ite_f hb39 H
        refine Cd.condF rfl hb39 ?_
        refine Cd.skip ?_
        exact At.meet (r31.1, r31.2, l22) (FLe.refl _) ⟨rfl, rfl, rfl, rfl, rfl, rfl, rfl, rfl, rfl, rfl, trivial⟩ rfl (some_inj H)
      replace H := ite_t hb39 H
      refine Cd.condT rfl hb39 ?_
      refine Cd.seq ?_
      refine Cd.region ?_
      refine Lst.run rfl rfl (by decide) (Ev.move rfl) ?_
      refine Lst.run rfl rfl (by decide) (Ev.move rfl) ?_
      refine Lst.run rfl rfl (by decide) (Ev.move rfl) ?_
      refine Lst.run rfl rfl (by decide) (Ev.move rfl) ?_
      obtain ⟨r40, h41, H⟩ := bind_some H
      refine Lst.call rfl rfl (by decide) (vs := [Sl.v s_a0, .int .i64 y3, .int .i64 y4, .func (.func 53) #[] #[]]) ⟨rfl, rfl, rfl, rfl, trivial⟩ Try.call138 (slices_reverseRangeCmpFunc_uint16_quorum_compare_sim h41 w0 _ M _ hM) (fun F42 L' v hF43 hv => ?_)
      obtain ⟨rfl, rfl⟩ := hv
      refine Lst.nil ?_
      refine At.then ?_
      refine Cd.seq ?_
      refine Cd.as (e' := [(0, Sl.v s_a0), (1, .int .i64 y3), (2, .int .i64 y4), (3, .int .i64 y21), (4, .func (.func 53) #[] #[]), (10, .bool y6), (11, .bool y7), (12, .int .i64 (w64 (y4 - y3))), (13, .int .i64 r31.1)]) (L' := (.own s_a0 23 1 (encs r40)) :: L) ⟨rfl, rfl, rfl, rfl, rfl, rfl, rfl, rfl, rfl, trivial⟩ rfl ?_
      refine Cd.region ?_
      refine Lst.run rfl rfl (by decide) (Ev.move rfl) ?_
      refine Lst.run rfl rfl (by decide) (Ev.sub rfl rfl) ?_
      refine Lst.run rfl rfl (by decide) (Ev.move rfl) ?_
      refine Lst.run rfl rfl (by decide) (Ev.move rfl) ?_
      refine Lst.run rfl rfl (by decide) (Ev.sub rfl rfl) ?_
      refine Lst.run rfl rfl (by decide) (Ev.sub rfl rfl) ?_
      refine Lst.run rfl rfl (by decide) (Ev.assign rfl) ?_
      refine Lst.nil ?_
      refine At.then ?_
      refine Cd.region ?_
      refine Lst.run rfl rfl (by decide) (Ev.assign rfl) ?_
      refine Lst.nil ?_
      exact At.meet (w64 ((w64 (y4 - (1 : Int))) - (w64 (r31.1 - y3))), (1 : Int), r40) hF43 ⟨rfl, rfl, rfl, rfl, rfl, rfl, rfl, rfl, rfl, rfl, trivial⟩ rfl (some_inj H)
    rintro F44 ⟨y35, y36, l37⟩ hF45 hy
    subst hy
    refine Cd.as (e' := [(0, Sl.v s_a0), (1, .int .i64 y3), (2, .int .i64 y4), (3, .int .i64 y21), (4, .func (.func 53) #[] #[]), (10, .bool y6), (11, .bool y7), (12, .int .i64 (w64 (y4 - y3))), (13, .int .i64 y35), (14, .int .i64 y36)]) (L' := (.own s_a0 23 1 (encs l37)) :: L) ⟨rfl, rfl, rfl, rfl, rfl, rfl, rfl, rfl, rfl, rfl, trivial⟩ rfl ?_
    replace H := HKo38
    obtain ⟨o47, H, HKo47⟩ := andThen_some H
    refine Cd.join (σ := (List (BitVec 16))) (fun l46 => [(0, Sl.v s_a0), (1, .int .i64 y3), (2, .int .i64 y4), (3, .int .i64 y21), (4, .func (.func 53) #[] #[]), (10, .bool y6), (11, .bool y7), (12, .int .i64 (w64 (y4 - y3))), (13, .int .i64 y35)]) (fun l46 => (.own s_a0 23 1 (encs l46)) :: L) (fun _ l46 => .inl l46 = o47) ?_ ?_
    · refine Cd.seq ?_
      refine Cd.region ?_
      refine Lst.run rfl rfl (by decide) (Ev.move rfl) ?_
      refine Lst.run rfl rfl (by decide) (Ev.move rfl) ?_
      obtain ⟨o48, H, HKo48⟩ := bind_some H
      refine Lst.join (σ := Bool) 2 (fun y49 => [(0, Sl.v s_a0), (1, .int .i64 y3), (2, .int .i64 y4), (3, .int .i64 y21), (4, .func (.func 53) #[] #[]), (10, .bool y6), (11, .bool y7), (12, .int .i64 (w64 (y4 - y3))), (13, .int .i64 y35), (14, .int .i64 y36), (71, .bool y49)]) (fun y49 => (.own s_a0 23 1 (encs l37)) :: L) (fun _ y49 => y49 = o48) ?_ ?_
      · rcases (Bool.eq_false_or_eq_true y6).symm with hb50 | hb50
        · replace H := ite_f hb50 H
          refine Lst.skip rfl rfl rfl hb50 rfl (by decide) ?_
          refine Lst.run rfl rfl (by decide) (Ev.pickF rfl hb50 rfl) ?_
          refine Lst.nil ?_
          exact At.meet false (FLe.refl _) ⟨rfl, rfl, rfl, rfl, rfl, rfl, rfl, rfl, rfl, rfl, rfl, trivial⟩ rfl (some_inj H)
        replace H := ite_t hb50 H
        refine Lst.runG rfl rfl rfl hb50 rfl (by decide) (Ev.move rfl) ?_
        refine Lst.run rfl rfl (by decide) (Ev.pickT rfl hb50 rfl) ?_
        refine Lst.nil ?_
        exact At.meet y7 (FLe.refl _) ⟨rfl, rfl, rfl, rfl, rfl, rfl, rfl, rfl, rfl, rfl, rfl, trivial⟩ rfl (some_inj H)
      rintro F51 y49 hF52 hy
      subst hy
      refine Lst.as (e' := [(0, Sl.v s_a0), (1, .int .i64 y3), (2, .int .i64 y4), (3, .int .i64 y21), (4, .func (.func 53) #[] #[]), (10, .bool y6), (11, .bool y7), (12, .int .i64 (w64 (y4 - y3))), (13, .int .i64 y35), (14, .int .i64 y36), (71, .bool y49)]) (L' := (.own s_a0 23 1 (encs l37)) :: L) ⟨rfl, rfl, rfl, rfl, rfl, rfl, rfl, rfl, rfl, rfl, rfl, trivial⟩ rfl ?_
      replace H := HKo48
      refine Lst.run rfl rfl (by decide) (Ev.move rfl) ?_
      obtain ⟨o53, H, HKo53⟩ := bind_some H
      refine Lst.join (σ := Bool) 3 (fun y54 => [(0, Sl.v s_a0), (1, .int .i64 y3), (2, .int .i64 y4), (3, .int .i64 y21), (4, .func (.func 53) #[] #[]), (10, .bool y6), (11, .bool y7), (12, .int .i64 (w64 (y4 - y3))), (13, .int .i64 y35), (75, .bool y54)]) (fun y54 => (.own s_a0 23 1 (encs l37)) :: L) (fun _ y54 => y54 = o53) ?_ ?_
      · rcases (Bool.eq_false_or_eq_true y49).symm with hb55 | hb55
        · replace H := ite_f hb55 H
          refine Lst.skip rfl rfl rfl hb55 rfl (by decide) ?_
          refine Lst.skip rfl rfl rfl hb55 rfl (by decide) ?_
          refine Lst.run rfl rfl (by decide) (Ev.pickF rfl hb55 rfl) ?_
          refine Lst.nil ?_
          exact At.meet false (FLe.refl _) ⟨rfl, rfl, rfl, rfl, rfl, rfl, rfl, rfl, rfl, rfl, trivial⟩ rfl (some_inj H)
        replace H := ite_t hb55 H
        refine Lst.runG rfl rfl rfl hb55 rfl (by decide) (Ev.move rfl) ?_
        refine Lst.runG rfl rfl rfl hb55 rfl (by decide) (Ev.eql rfl rfl) ?_
        refine Lst.run rfl rfl (by decide) (Ev.pickT rfl hb55 rfl) ?_
        refine Lst.nil ?_
        exact At.meet (y36 == (1 : Int)) (FLe.refl _) ⟨rfl, rfl, rfl, rfl, rfl, rfl, rfl, rfl, rfl, rfl, trivial⟩ rfl (some_inj H)
      rintro F56 y54 hF57 hy
      subst hy
      refine Lst.as (e' := [(0, Sl.v s_a0), (1, .int .i64 y3), (2, .int .i64 y4), (3, .int .i64 y21), (4, .func (.func 53) #[] #[]), (10, .bool y6), (11, .bool y7), (12, .int .i64 (w64 (y4 - y3))), (13, .int .i64 y35), (75, .bool y54)]) (L' := (.own s_a0 23 1 (encs l37)) :: L) ⟨rfl, rfl, rfl, rfl, rfl, rfl, rfl, rfl, rfl, rfl, trivial⟩ rfl ?_
      replace H := HKo53
      refine Lst.nil ?_
      refine At.then ?_
      rcases (Bool.eq_false_or_eq_true y54).symm with hb58 | hb58
      · replace H := ite_f hb58 H
        refine Cd.condF rfl hb58 ?_
        refine Cd.skip ?_
        exact At.meet l37 (FLe.trans hF52 hF57) ⟨rfl, rfl, rfl, rfl, rfl, rfl, rfl, rfl, rfl, trivial⟩ rfl (some_inj H)
      replace H := ite_t hb58 H
      refine Cd.condT rfl hb58 ?_
      refine Cd.seq ?_
      refine Cd.region ?_
      refine Lst.run rfl rfl (by decide) (Ev.move rfl) ?_
      refine Lst.run rfl rfl (by decide) (Ev.move rfl) ?_
      refine Lst.run rfl rfl (by decide) (Ev.move rfl) ?_
      refine Lst.run rfl rfl (by decide) (Ev.move rfl) ?_
      obtain ⟨r59, h60, H⟩ := bind_some H
      refine Lst.call rfl rfl (by decide) (vs := [Sl.v s_a0, .int .i64 y3, .int .i64 y4, .func (.func 53) #[] #[]]) ⟨rfl, rfl, rfl, rfl, trivial⟩ Try.call139 (slices_partialInsertionSortCmpFunc_uint16_quorum_compare_sim h60 w0 _ M _ hM) (fun F61 L' v hF62 hv => ?_)
      obtain ⟨rfl, rfl⟩ := hv
      refine Lst.nil ?_
      refine At.then ?_
      rcases Bool.eq_false_or_eq_true r59.2 with hb63 | hb63
      · replace H := ite_t hb63 H
        refine Cd.condT rfl hb63 ?_
        obtain rfl := some_inj H
        replace H := HKo47
        have H := hret2 _ (some_inj H).symm
        subst H
        replace H := HKl2
        obtain rfl := some_inj H
        refine Cd.ret ?_
        refine At.then_ret ?_
        refine At.in_ret ?_
        refine At.then_ret ?_
        refine At.in_ret ?_
        exact At.ret0 (.inl rfl) rfl (FLe.trans (FLe.trans (FLe.trans (FLe.trans (FLe.trans hF10 hF30) hF45) hF52) hF57) hF62) (List.Sublist.cons_cons _ (List.Sublist.refl _)) ⟨rfl, rfl⟩
      replace H := ite_f hb63 H
      refine Cd.condF rfl hb63 ?_
      refine Cd.skip ?_
      exact At.meet r59.1 (FLe.trans (FLe.trans hF52 hF57) hF62) ⟨rfl, rfl, rfl, rfl, rfl, rfl, rfl, rfl, rfl, trivial⟩ rfl (some_inj H)
    rintro F64 l46 hF65 hy
    subst hy
    refine Cd.as (e' := [(0, Sl.v s_a0), (1, .int .i64 y3), (2, .int .i64 y4), (3, .int .i64 y21), (4, .func (.func 53) #[] #[]), (10, .bool y6), (11, .bool y7), (12, .int .i64 (w64 (y4 - y3))), (13, .int .i64 y35)]) (L' := (.own s_a0 23 1 (encs l46)) :: L) ⟨rfl, rfl, rfl, rfl, rfl, rfl, rfl, rfl, rfl, trivial⟩ rfl ?_
    replace H := HKo47
    refine Cd.seq ?_
    refine Cd.seq ?_
    refine Cd.quiet (by kernel_rfl) (by kernel_rfl) ?_
    refine Qt.run rfl rfl (by decide) (Ev.move rfl) ?_
    refine Qt.run rfl rfl (by decide) (Ev.gtr rfl rfl) ?_
    refine Qt.run rfl rfl (by decide) (Ev.move rfl) ?_
    obtain ⟨o66, H, HKo66⟩ := bind_some H
    refine Qt.join (σ := Bool) 14 (fun y67 => [(0, Sl.v s_a0), (1, .int .i64 y3), (2, .int .i64 y4), (3, .int .i64 y21), (4, .func (.func 53) #[] #[]), (10, .bool y6), (11, .bool y7), (12, .int .i64 (w64 (y4 - y3))), (13, .int .i64 y35), (97, .bool y67)]) (fun y67 => y67 = o66) ?_ ?_
    · rcases (Bool.eq_false_or_eq_true (decide (y3 > (0 : Int)))).symm with hb68 | hb68
      · replace H := ite_f hb68 H
        refine Qt.skip rfl rfl rfl hb68 rfl (by decide) ?_
        refine Qt.skip rfl rfl rfl hb68 rfl (by decide) ?_
        refine Qt.skip rfl rfl rfl hb68 rfl (by decide) ?_
        refine Qt.skip rfl rfl rfl hb68 rfl (by decide) ?_
        refine Qt.skip rfl rfl rfl hb68 rfl (by decide) ?_
        refine Qt.skip rfl rfl rfl hb68 rfl (by decide) ?_
        refine Qt.skip rfl rfl rfl hb68 rfl (by decide) ?_
        refine Qt.skip rfl rfl rfl hb68 rfl (by decide) ?_
        refine Qt.skip rfl rfl rfl hb68 rfl (by decide) ?_
        refine Qt.skip rfl rfl rfl hb68 rfl (by decide) ?_
        refine Qt.skip rfl rfl rfl hb68 rfl (by decide) ?_
        refine Qt.skip rfl rfl rfl hb68 rfl (by decide) ?_
        refine Qt.skip rfl rfl rfl hb68 rfl (by decide) ?_
        refine Qt.run rfl rfl (by decide) (Ev.pickF rfl hb68 rfl) ?_
        exact Qt.meet false ⟨rfl, rfl, rfl, rfl, rfl, rfl, rfl, rfl, rfl, rfl, trivial⟩ (some_inj H)
      replace H := ite_t hb68 H
      refine Qt.runG rfl rfl rfl hb68 rfl (by decide) (Ev.move rfl) ?_
      refine Qt.runG rfl rfl rfl hb68 rfl (by decide) (Ev.move rfl) ?_
      refine Qt.runG rfl rfl rfl hb68 rfl (by decide) (Ev.move rfl) ?_
      refine Qt.runG rfl rfl rfl hb68 rfl (by decide) (Ev.sub rfl rfl) ?_
      obtain ⟨x69, h70, H⟩ := bind_some H
      have g71 := lat_some h70
      refine Qt.runG rfl rfl rfl hb68 rfl (by decide) (Ev.indexS (α := BitVec 16) (xs := l46) rfl rfl Try.runUnderlying22 Try.sizeOf23 rfl (by decide) (Rd.own (i := 0) rfl rfl rfl) g71.1 g71.2.1) ?_
      refine Qt.runG rfl rfl rfl hb68 rfl (by decide) (Ev.loadS (α := BitVec 16) rfl (Rd.own (i := 0) rfl rfl rfl) Try.isAgg23 (v := .int .u16 x69.toNat) ((Get.elemN (s := 1) (x := x69) rfl g71.2.2 (Get.here _)).off (by omega))) ?_
      refine Qt.runG rfl rfl rfl hb68 rfl (by decide) (Ev.move rfl) ?_
      refine Qt.runG rfl rfl rfl hb68 rfl (by decide) (Ev.move rfl) ?_
      obtain ⟨x72, h73, H⟩ := bind_some H
      have g74 := lat_some h73
      refine Qt.runG rfl rfl rfl hb68 rfl (by decide) (Ev.indexS (α := BitVec 16) (xs := l46) rfl rfl Try.runUnderlying22 Try.sizeOf23 rfl (by decide) (Rd.own (i := 0) rfl rfl rfl) g74.1 g74.2.1) ?_
      refine Qt.runG rfl rfl rfl hb68 rfl (by decide) (Ev.loadS (α := BitVec 16) rfl (Rd.own (i := 0) rfl rfl rfl) Try.isAgg23 (v := .int .u16 x72.toNat) ((Get.elemN (s := 1) (x := x72) rfl g74.2.2 (Get.here _)).off (by omega))) ?_
      obtain ⟨r75, h76, H⟩ := bind_some H
      refine Qt.callVG rfl rfl rfl hb68 rfl (by decide) (vs := [.int .u16 x69.toNat, .int .u16 x72.toNat]) (cs := []) rfl ⟨rfl, rfl, trivial⟩ Try.call53 (quorum_compare_sim h76 w0 _ M _ (List.Sublist.cons _ hM)) ?_
      refine Qt.runG rfl rfl rfl hb68 rfl (by decide) (Ev.lss rfl rfl) ?_
      refine Qt.runG rfl rfl rfl hb68 rfl (by decide) (Ev.not rfl) ?_
      refine Qt.run rfl rfl (by decide) (Ev.pickT rfl hb68 rfl) ?_
      exact Qt.meet (!(decide (r75 < (0 : Int)))) ⟨rfl, rfl, rfl, rfl, rfl, rfl, rfl, rfl, rfl, rfl, trivial⟩ (some_inj H)
    rintro y67 hy
    subst hy
    refine Qt.as (e' := [(0, Sl.v s_a0), (1, .int .i64 y3), (2, .int .i64 y4), (3, .int .i64 y21), (4, .func (.func 53) #[] #[]), (10, .bool y6), (11, .bool y7), (12, .int .i64 (w64 (y4 - y3))), (13, .int .i64 y35), (97, .bool y67)]) ⟨rfl, rfl, rfl, rfl, rfl, rfl, rfl, rfl, rfl, rfl, trivial⟩ ?_
    replace H := HKo66
    refine Qt.done ?_
    refine At.then ?_
    rcases Bool.eq_false_or_eq_true y67 with hb79 | hb79
    · replace H := ite_t hb79 H
      refine Cd.condT rfl hb79 ?_
      refine Cd.seq ?_
      refine Cd.region ?_
      refine Lst.run rfl rfl (by decide) (Ev.move rfl) ?_
      refine Lst.run rfl rfl (by decide) (Ev.move rfl) ?_
      refine Lst.run rfl rfl (by decide) (Ev.move rfl) ?_
      refine Lst.run rfl rfl (by decide) (Ev.move rfl) ?_
      refine Lst.run rfl rfl (by decide) (Ev.move rfl) ?_
      obtain ⟨r80, h81, H⟩ := bind_some H
      refine Lst.call rfl rfl (by decide) (vs := [Sl.v s_a0, .int .i64 y3, .int .i64 y4, .int .i64 y35, .func (.func 53) #[] #[]]) ⟨rfl, rfl, rfl, rfl, rfl, trivial⟩ Try.call140 (slices_partitionEqualCmpFunc_uint16_quorum_compare_sim h81 w0 _ M _ hM) (fun F82 L' v hF83 hv => ?_)
      obtain ⟨rfl, rfl⟩ := hv
      refine Lst.run rfl rfl (by decide) (Ev.assign rfl) ?_
      refine Lst.nil ?_
      refine At.then ?_
      refine Cd.seq ?_
      refine Cd.region ?_
      refine Lst.run rfl rfl (by decide) (Ev.move rfl) ?_
      refine Lst.run rfl rfl (by decide) (Ev.assign rfl) ?_
      refine Lst.nil ?_
      refine At.then ?_
      refine Cd.exit ?_
      refine At.then_exit ?_
      refine At.in_exit ?_
      exact At.meet (k2, r80.2, y4, y21, y6, y7, r80.1) (FLe.trans (FLe.trans (FLe.trans (FLe.trans hF10 hF30) hF45) hF65) hF83) ⟨rfl, rfl, rfl, rfl, rfl, rfl, rfl, trivial⟩ rfl ⟨hgo2 _ (some_inj H).symm, Nat.lt_succ_self _⟩
    replace H := ite_f hb79 H
    refine Cd.condF rfl hb79 ?_
    refine Cd.skip ?_
    refine At.then ?_
    refine Cd.seq ?_
    refine Cd.region ?_
    refine Lst.run rfl rfl (by decide) (Ev.move rfl) ?_
    refine Lst.run rfl rfl (by decide) (Ev.move rfl) ?_
    refine Lst.run rfl rfl (by decide) (Ev.move rfl) ?_
    refine Lst.run rfl rfl (by decide) (Ev.move rfl) ?_
    refine Lst.run rfl rfl (by decide) (Ev.move rfl) ?_
    obtain ⟨r84, h85, H⟩ := bind_some H
    refine Lst.call rfl rfl (by decide) (vs := [Sl.v s_a0, .int .i64 y3, .int .i64 y4, .int .i64 y35, .func (.func 53) #[] #[]]) ⟨rfl, rfl, rfl, rfl, rfl, trivial⟩ Try.call141 (slices_partitionCmpFunc_uint16_quorum_compare_sim h85 w0 _ M _ hM) (fun F86 L' v hF87 hv => ?_)
    obtain ⟨rfl, rfl⟩ := hv
    refine Lst.run rfl rfl (by decide) (Ev.move rfl) ?_
    refine Lst.run rfl rfl (by decide) (Ev.extract rfl rfl) ?_
    refine Lst.run rfl rfl (by decide) (Ev.extract rfl rfl) ?_
    refine Lst.run rfl rfl (by decide) (Ev.assign rfl) ?_
    refine Lst.run rfl rfl (by decide) (Ev.assign rfl) ?_
    refine Lst.nil ?_
    refine At.then ?_
    refine Cd.seq ?_
    refine Cd.region ?_
    refine Lst.run rfl rfl (by decide) (Ev.move rfl) ?_
    refine Lst.run rfl rfl (by decide) (Ev.assign rfl) ?_
    refine Lst.nil ?_
    refine At.then ?_
    refine Cd.seq ?_
    refine Cd.as (e' := [(0, Sl.v s_a0), (1, .int .i64 y3), (2, .int .i64 y4), (3, .int .i64 y21), (4, .func (.func 53) #[] #[]), (11, .bool r84.2.2), (12, .int .i64 (w64 (y4 - y3))), (16, .int .i64 r84.2.1)]) (L' := (.own s_a0 23 1 (encs r84.1)) :: L) ⟨rfl, rfl, rfl, rfl, rfl, rfl, rfl, rfl, trivial⟩ rfl ?_
    refine Cd.region ?_
    refine Lst.run rfl rfl (by decide) (Ev.move rfl) ?_
    refine Lst.run rfl rfl (by decide) (Ev.move rfl) ?_
    refine Lst.run rfl rfl (by decide) (Ev.sub rfl rfl) ?_
    refine Lst.run rfl rfl (by decide) (Ev.move rfl) ?_
    refine Lst.run rfl rfl (by decide) (Ev.move rfl) ?_
    refine Lst.run rfl rfl (by decide) (Ev.sub rfl rfl) ?_
    refine Lst.run rfl rfl (by decide) (Ev.assign rfl) ?_
    refine Lst.run rfl rfl (by decide) (Ev.assign rfl) ?_
    refine Lst.nil ?_
    refine At.then ?_
    refine Cd.seq ?_
    refine Cd.region ?_
    refine Lst.run rfl rfl (by decide) (Ev.move rfl) ?_
    refine Lst.run rfl rfl (by decide) (Ev.quo (i := w64 (y4 - y3)) (j := (8 : Int)) rfl rfl (by decide)) ?_
    refine Lst.run rfl rfl (by decide) (Ev.assign rfl) ?_
    refine Lst.nil ?_
    refine At.then ?_
    refine Cd.seq ?_
    refine Cd.region ?_
    refine Lst.run rfl rfl (by decide) (Ev.move rfl) ?_
    refine Lst.run rfl rfl (by decide) (Ev.move rfl) ?_
    refine Lst.run rfl rfl (by decide) (Ev.lss rfl rfl) ?_
    refine Lst.nil ?_
    refine At.then ?_
    rcases (Bool.eq_false_or_eq_true (decide ((w64 (r84.2.1 - y3)) < (w64 (y4 - r84.2.1))))).symm with hb88 | hb88
    · replace H := ite_f hb88 H
      refine Cd.condF rfl hb88 ?_
      refine Cd.seq ?_
      refine Cd.region ?_
      refine Lst.run rfl rfl (by decide) (Ev.move rfl) ?_
      refine Lst.run rfl rfl (by decide) (Ev.move rfl) ?_
      refine Lst.run rfl rfl (by decide) (Ev.geq rfl rfl) ?_
      refine Lst.run rfl rfl (by decide) (Ev.assign rfl) ?_
      refine Lst.nil ?_
      refine At.then ?_
      refine Cd.seq ?_
      refine Cd.as (e' := [(0, Sl.v s_a0), (1, .int .i64 y3), (2, .int .i64 y4), (3, .int .i64 y21), (4, .func (.func 53) #[] #[]), (11, .bool r84.2.2), (16, .int .i64 r84.2.1), (10, .bool (decide ((w64 (y4 - r84.2.1)) ≥ (w64 ((w64 (y4 - y3)).tdiv (8 : Int))))))]) (L' := (.own s_a0 23 1 (encs r84.1)) :: L) ⟨rfl, rfl, rfl, rfl, rfl, rfl, rfl, rfl, trivial⟩ rfl ?_
      refine Cd.region ?_
      refine Lst.run rfl rfl (by decide) (Ev.move rfl) ?_
      refine Lst.run rfl rfl (by decide) (Ev.move rfl) ?_
      refine Lst.run rfl rfl (by decide) (Ev.add rfl rfl) ?_
      refine Lst.run rfl rfl (by decide) (Ev.move rfl) ?_
      refine Lst.run rfl rfl (by decide) (Ev.move rfl) ?_
      refine Lst.run rfl rfl (by decide) (Ev.move rfl) ?_
      obtain ⟨r89, h90, H⟩ := bind_some H
      refine Lst.call rfl rfl (by decide) (vs := [Sl.v s_a0, .int .i64 (w64 (r84.2.1 + (1 : Int))), .int .i64 y4, .int .i64 y21, .func (.func 53) #[] #[]]) ⟨rfl, rfl, rfl, rfl, rfl, trivial⟩ Try.call112 (ih h90 w0 _ M _ hM) (fun F91 L' v hF92 hv => ?_)
      obtain ⟨rfl, rfl⟩ := hv
      refine Lst.nil ?_
      refine At.then ?_
      refine Cd.region ?_
      refine Lst.run rfl rfl (by decide) (Ev.move rfl) ?_
      refine Lst.run rfl rfl (by decide) (Ev.assign rfl) ?_
      refine Lst.nil ?_
      refine At.in_normal ?_
      exact At.meet (k2, y3, r84.2.1, y21, decide ((w64 (y4 - r84.2.1)) ≥ (w64 ((w64 (y4 - y3)).tdiv (8 : Int)))), r84.2.2, r89) (FLe.trans (FLe.trans (FLe.trans (FLe.trans (FLe.trans hF10 hF30) hF45) hF65) hF87) hF92) ⟨rfl, rfl, rfl, rfl, rfl, rfl, rfl, trivial⟩ rfl ⟨hgo2 _ (some_inj H).symm, Nat.lt_succ_self _⟩
    replace H := ite_t hb88 H
    refine Cd.condT rfl hb88 ?_
    refine Cd.seq ?_
    refine Cd.region ?_
    refine Lst.run rfl rfl (by decide) (Ev.move rfl) ?_
    refine Lst.run rfl rfl (by decide) (Ev.move rfl) ?_
    refine Lst.run rfl rfl (by decide) (Ev.geq rfl rfl) ?_
    refine Lst.run rfl rfl (by decide) (Ev.assign rfl) ?_
    refine Lst.nil ?_
    refine At.then ?_
    refine Cd.seq ?_
    refine Cd.as (e' := [(0, Sl.v s_a0), (1, .int .i64 y3), (2, .int .i64 y4), (3, .int .i64 y21), (4, .func (.func 53) #[] #[]), (11, .bool r84.2.2), (16, .int .i64 r84.2.1), (10, .bool (decide ((w64 (r84.2.1 - y3)) ≥ (w64 ((w64 (y4 - y3)).tdiv (8 : Int))))))]) (L' := (.own s_a0 23 1 (encs r84.1)) :: L) ⟨rfl, rfl, rfl, rfl, rfl, rfl, rfl, rfl, trivial⟩ rfl ?_
    refine Cd.region ?_
    refine Lst.run rfl rfl (by decide) (Ev.move rfl) ?_
    refine Lst.run rfl rfl (by decide) (Ev.move rfl) ?_
    refine Lst.run rfl rfl (by decide) (Ev.move rfl) ?_
    refine Lst.run rfl rfl (by decide) (Ev.move rfl) ?_
    refine Lst.run rfl rfl (by decide) (Ev.move rfl) ?_
    obtain ⟨r93, h94, H⟩ := bind_some H
    refine Lst.call rfl rfl (by decide) (vs := [Sl.v s_a0, .int .i64 y3, .int .i64 r84.2.1, .int .i64 y21, .func (.func 53) #[] #[]]) ⟨rfl, rfl, rfl, rfl, rfl, trivial⟩ Try.call112 (ih h94 w0 _ M _ hM) (fun F95 L' v hF96 hv => ?_)
    obtain ⟨rfl, rfl⟩ := hv
    refine Lst.nil ?_
    refine At.then ?_
    refine Cd.region ?_
    refine Lst.run rfl rfl (by decide) (Ev.move rfl) ?_
    refine Lst.run rfl rfl (by decide) (Ev.add rfl rfl) ?_
    refine Lst.run rfl rfl (by decide) (Ev.assign rfl) ?_
    refine Lst.nil ?_
    refine At.in_normal ?_
    exact At.meet (k2, w64 (r84.2.1 + (1 : Int)), y4, y21, decide ((w64 (r84.2.1 - y3)) ≥ (w64 ((w64 (y4 - y3)).tdiv (8 : Int)))), r84.2.2, r93) (FLe.trans (FLe.trans (FLe.trans (FLe.trans (FLe.trans hF10 hF30) hF45) hF65) hF87) hF96) ⟨rfl, rfl, rfl, rfl, rfl, rfl, rfl, trivial⟩ rfl ⟨hgo2 _ (some_inj H).symm, Nat.lt_succ_self _⟩
theorem slices_pdqsortCmpFunc_uint16_quorum_compare_sim {fu : Nat} {a0 : List (BitVec 16)} {a1 : Int} {a2 : Int} {a3 : Int} {s_a0 : Sl} {r : (List (BitVec 16))} (H : slices_pdqsortCmpFunc_uint16_quorum_compare fu a0 a1 a2 a3 = some r) (w0 : World) (F : Frz) (M L : List Item) (hM : M.Sublist L) : Ok Try.prog w0 112 [Sl.v s_a0, .int .i64 a1, .int .i64 a2, .int .i64 a3, .func (.func 53) #[] #[]] F ((.own s_a0 23 1 (encs a0)) :: L) (fun _ L' v => v = .tuple #[] ∧ L' = (.own s_a0 23 1 (encs r)) :: L) :=
  slices_pdqsortCmpFunc_uint16_quorum_compare_simR fu H w0 F M L hM
set_option maxRecDepth 20000 in
theorem slices_SortFunc_uint16_uint16_quorum_compare_sim {fu : Nat} {a0 : List (BitVec 16)} {s_a0 : Sl} {r : (List (BitVec 16))} (H : slices_SortFunc_uint16_uint16_quorum_compare fu a0 = some r) (w0 : World) (F : Frz) (M L : List Item) (hM : M.Sublist L) : Ok Try.prog w0 94 [Sl.v s_a0, .func (.func 53) #[] #[]] F ((.own s_a0 23 1 (encs a0)) :: L) (fun _ L' v => v = .tuple #[] ∧ L' = (.own s_a0 23 1 (encs r)) :: L) := by
  unfold slices_SortFunc_uint16_uint16_quorum_compare at H
  refine Ok.enter (m := 2) (n := 14) Try.func94 rfl rfl rfl (by decide) ?_
  refine Cd.env (e' := [(0, Sl.v s_a0), (1, .func (.func 53) #[] #[])]) rfl ?_
  refine Cd.seq ?_
  refine Cd.region ?_
  refine Lst.run rfl rfl (by decide) (Ev.move rfl) ?_
  refine Lst.run rfl rfl (by decide) (Ev.lenS (α := BitVec 16) (xs := a0) (by decide) rfl rfl Try.runUnderlying22 (Rd.own (i := 0) rfl rfl rfl)) ?_
  refine Lst.run rfl rfl (by decide) (Ev.assign rfl) ?_
  refine Lst.nil ?_
  refine At.then ?_
  refine Cd.region ?_
  refine Lst.run rfl rfl (by decide) (Ev.move rfl) ?_
  refine Lst.run rfl rfl (by decide) (Ev.move rfl) ?_
  refine Lst.run rfl rfl (by decide) (Ev.move rfl) ?_
  refine Lst.run rfl rfl (by decide) (Ev.convTo64 rfl Try.runUnderlying3 Try.runUnderlying131) ?_
  obtain ⟨r2, h3, H⟩ := bind_some H
  refine Lst.call1 rfl rfl (by decide) (vs := [.int .u64 (BitVec.ofInt 64 (a0.length : Int)).toNat]) ⟨rfl, trivial⟩ Try.call106 (math_bits_Len_sim h3 w0 _ M _ (List.Sublist.cons _ hM)) ?_
  refine Lst.run rfl rfl (by decide) (Ev.move rfl) ?_
  obtain ⟨r6, h7, H⟩ := bind_some H
  refine Lst.call rfl rfl (by decide) (vs := [Sl.v s_a0, .int .i64 (0 : Int), .int .i64 (a0.length : Int), .int .i64 r2, .func (.func 53) #[] #[]]) ⟨rfl, rfl, rfl, rfl, rfl, trivial⟩ Try.call112 (slices_pdqsortCmpFunc_uint16_quorum_compare_sim h7 w0 _ M _ hM) (fun F8 L' v hF9 hv => ?_)
  obtain ⟨rfl, rfl⟩ := hv
  refine Lst.nil ?_
  obtain rfl := some_inj H
  exact At.ret0 (.inr rfl) rfl hF9 (List.Sublist.cons_cons _ (List.Sublist.refl _)) ⟨rfl, rfl⟩
set_option maxRecDepth 20000 in
theorem quorum_within_sim {a0 : BitVec 16} {a1 : BitVec 16} {r : Bool} (H : quorum_within a0 a1 = some r) (w0 : World) (F : Frz) (M L : List Item) (hM : M.Sublist L) : Ok Try.prog w0 96 [.int .u16 a0.toNat, .int .u16 a1.toNat] F (L) (Is (.bool r) (L)) := by
  unfold quorum_within at H
  refine Ok.enter (m := 2) (n := 9) Try.func96 rfl rfl rfl (by decide) ?_
  refine Cd.env (e' := [(0, .int .u16 a0.toNat), (1, .int .u16 a1.toNat)]) rfl ?_
  refine Cd.seq ?_
  refine Cd.region ?_
  refine Lst.run rfl rfl (by decide) (Ev.assign rfl) ?_
  refine Lst.nil ?_
  refine At.then ?_
  refine Cd.seq ?_
  refine Cd.region ?_
  refine Lst.run rfl rfl (by decide) (Ev.move rfl) ?_
  refine Lst.run rfl rfl (by decide) (Ev.move rfl) ?_
  refine Lst.run rfl rfl (by decide) (Ev.andNotU16 (i := a0) (j := a1) rfl rfl) ?_
  refine Lst.run rfl rfl (by decide) (Ev.eql rfl rfl) ?_
  refine Lst.run rfl rfl (by decide) (Ev.assign rfl) ?_
  refine Lst.nil ?_
  refine At.then ?_
  obtain rfl := some_inj H
  refine Cd.ret ?_
  exact At.ret1 rfl (Res.tmp rfl) (FLe.refl _) (List.Sublist.refl _) ⟨rfl, rfl⟩
set_option maxRecDepth 20000 in
theorem quorum_contains_1_sim {a0 : BitVec 16} {a1 : BitVec 16} {b_a1 : Nat} {r : Bool} (H : quorum_contains_1 a0 a1 = some r) (w0 : World) (F : Frz) (M L : List Item) (hM : M.Sublist L) : Ok Try.prog w0 95 [.int .u16 a0.toNat, .pointer (some ⟨b_a1, 0, none⟩)] F ((.blk b_a1 (enc a1) 23) :: L) (Is (.bool r) ((.blk b_a1 (enc a1) 23) :: L)) := by
  unfold quorum_contains_1 at H
  refine Ok.enter (m := 2) (n := 7) Try.func95 rfl rfl rfl (by decide) ?_
  refine Cd.env (e' := [(0, .int .u16 a0.toNat), (1, .pointer (some ⟨b_a1, 0, none⟩))]) rfl ?_
  refine Cd.seq ?_
  refine Cd.region ?_
  refine Lst.run rfl rfl (by decide) (Ev.assign rfl) ?_
  refine Lst.nil ?_
  refine At.then ?_
  refine Cd.seq ?_
  refine Cd.region ?_
  refine Lst.run rfl rfl (by decide) (Ev.move rfl) ?_
  refine Lst.run rfl rfl (by decide) (Ev.load (i := 0) rfl rfl Try.isAgg23 (v := .int .u16 a1.toNat) (Get.here _)) ?_
  obtain ⟨r2, h3, H⟩ := bind_some H
  refine Lst.call1 rfl rfl (by decide) (vs := [.int .u16 a0.toNat, .int .u16 a1.toNat]) ⟨rfl, rfl, trivial⟩ Try.call96 (quorum_within_sim h3 w0 _ M _ (List.Sublist.cons _ hM)) ?_
  refine Lst.run rfl rfl (by decide) (Ev.assign rfl) ?_
  refine Lst.nil ?_
  refine At.then ?_
  obtain rfl := some_inj H
  refine Cd.ret ?_
  exact At.ret1 rfl (Res.tmp rfl) (FLe.refl _) (List.Sublist.cons_cons _ (List.Sublist.refl _)) ⟨rfl, rfl⟩
set_option maxRecDepth 20000 in
theorem slices_IndexFunc_uint16_uint16_contains_1_sim {a0 : List (BitVec 16)} {a1_c0 : BitVec 16} {s_a0 : Sl} {b_a1_c0 : Nat} {r : Int} (H : slices_IndexFunc_uint16_uint16_contains_1 a0 a1_c0 = some r) (w0 : World) (F : Frz) (M L : List Item) (hM : M.Sublist L) (hs_a0 : Rd w0 F M s_a0 a0) : Ok Try.prog w0 55 [Sl.v s_a0, .func (.func 95) #[] #[.pointer (some ⟨b_a1_c0, 0, none⟩)]] F ((.blk b_a1_c0 (enc a1_c0) 23) :: L) (Is (.int .i64 r) ((.blk b_a1_c0 (enc a1_c0) 23) :: L)) := by
  unfold slices_IndexFunc_uint16_uint16_contains_1 at H
  refine Ok.enter (m := 2) (n := 19) Try.func55 rfl rfl rfl (by decide) ?_
  refine Cd.env (e' := [(0, Sl.v s_a0), (1, .func (.func 95) #[] #[.pointer (some ⟨b_a1_c0, 0, none⟩)])]) rfl ?_
  refine Cd.seq ?_
  refine Cd.region ?_
  refine Lst.run rfl rfl (by decide) (Ev.assign rfl) ?_
  refine Lst.nil ?_
  refine At.then ?_
  refine Cd.seq ?_
  refine Cd.seq ?_
  refine Cd.region ?_
  refine Lst.run rfl rfl (by decide) (Ev.move rfl) ?_
  refine Lst.run rfl rfl (by decide) (Ev.lenS (α := BitVec 16) (xs := a0) (by decide) rfl rfl Try.runUnderlying22 (hs_a0.mono (FLe.refl _) (List.Sublist.cons _ hM))) ?_
  refine Lst.run rfl rfl (by decide) (Ev.move rfl) ?_
  refine Lst.nil ?_
  refine At.then ?_
  refine Cd.block ?_
  refine Cd.bound (Rd.le (α := BitVec 16) (xs := a0) (by decide) (hs_a0.mono (FLe.refl _) (List.Sublist.cons _ hM))) (fun hN13 => ?_)
  obtain ⟨ol2, H, HKl2⟩ := andThen_some H
  refine Cd.loop (σ := Nat × Nat × Unit) (fun (i2, k2, _u) => [(0, Sl.v s_a0), (1, .func (.func 95) #[] #[.pointer (some ⟨b_a1_c0, 0, none⟩)]), (7, .int .i64 (a0.length : Int)), (8, .int .i64 (i2 : Int))]) (fun (i2, k2, _u) => (.blk b_a1_c0 (enc a1_c0) 23) :: L) (fun _ => (fun (i2, k2, _u) => rangeM (slices_IndexFunc_uint16_uint16_contains_1_B0 a0 a1_c0) k2 i2 () = some ol2 ∧ i2 + k2 = a0.length)) (fun (i2, k2, _u) => k2) (0, a0.length, ()) ⟨rfl, rfl, rfl, rfl, trivial⟩ rfl ⟨H, by omega⟩ ?_
  rintro F3 ⟨i2, k2, _u⟩ hF4 ⟨H, hik2⟩
  refine Cd.as (e' := [(0, Sl.v s_a0), (1, .func (.func 95) #[] #[.pointer (some ⟨b_a1_c0, 0, none⟩)]), (7, .int .i64 (a0.length : Int)), (8, .int .i64 (i2 : Int))]) (L' := (.blk b_a1_c0 (enc a1_c0) 23) :: L) ⟨rfl, rfl, rfl, rfl, trivial⟩ rfl ?_
  rcases k2 with _ | k2
  · have hc2 : decide ((i2 : Int) < (a0.length : Int)) = false := decide_eq_false (by omega)
    replace H := rangeM_end H
    refine Cd.seq ?_
    refine Cd.region ?_
    refine Lst.run rfl rfl (by decide) (Ev.lss rfl rfl) ?_
    refine Lst.nil ?_
    refine At.then ?_
    refine Cd.seq ?_
    refine Cd.condF rfl hc2 ?_
    refine Cd.exit ?_
    refine At.then_exit ?_
    refine At.then_exit ?_
    refine At.in_exit ?_
    subst H
    replace H := HKl2
    refine At.then ?_
    refine Cd.seq ?_
    refine Cd.region ?_
    refine Lst.run rfl rfl (by decide) (Ev.assign rfl) ?_
    refine Lst.nil ?_
    refine At.then ?_
    obtain rfl := some_inj H
    refine Cd.ret ?_
    exact At.ret1 rfl (Res.tmp rfl) hF4 (List.Sublist.cons_cons _ (List.Sublist.refl _)) ⟨rfl, rfl⟩
  have hc2 : decide ((i2 : Int) < (a0.length : Int)) = true := decide_eq_true (by omega)
  obtain ⟨c2, H, hgo2, hbrk2, hret2⟩ := rangeM_go H
  unfold slices_IndexFunc_uint16_uint16_contains_1_B0 at H
  try dsimp only at H
  refine Cd.seq ?_
  refine Cd.region ?_
  refine Lst.run rfl rfl (by decide) (Ev.lss rfl rfl) ?_
  refine Lst.nil ?_
  refine At.then ?_
  refine Cd.seq ?_
  refine Cd.condT rfl hc2 ?_
  refine Cd.skip ?_
  refine At.then ?_
  refine Cd.seq ?_
  refine Cd.block ?_
  refine Cd.seq ?_
  refine Cd.region ?_
  refine Lst.run rfl rfl (by decide) (Ev.move rfl) ?_
  refine Lst.run rfl rfl (by decide) (Ev.assign rfl) ?_
  refine Lst.nil ?_
  refine At.then ?_
  refine Cd.seq ?_
  refine Cd.region ?_
  refine Lst.run rfl rfl (by decide) (Ev.move rfl) ?_
  refine Lst.run rfl rfl (by decide) (Ev.move rfl) ?_
  refine Lst.run rfl rfl (by decide) (Ev.move rfl) ?_
  obtain ⟨x5, h6, H⟩ := bind_some H
  have g7 := lat_some h6
  refine Lst.run rfl rfl (by decide) (Ev.indexS (α := BitVec 16) (xs := a0) rfl rfl Try.runUnderlying22 Try.sizeOf23 rfl (by decide) (hs_a0.mono hF4 (List.Sublist.cons _ hM)) g7.1 g7.2.1) ?_
  refine Lst.run rfl rfl (by decide) (Ev.loadS (α := BitVec 16) rfl (hs_a0.mono hF4 (List.Sublist.cons _ hM)) Try.isAgg23 (v := .int .u16 x5.toNat) ((Get.elemN (s := 1) (x := x5) rfl g7.2.2 (Get.here _)).off (by omega))) ?_
  obtain ⟨r8, h9, H⟩ := bind_some H
  refine Lst.callV1 rfl rfl (by decide) (vs := [.int .u16 x5.toNat]) (cs := [.pointer (some ⟨b_a1_c0, 0, none⟩)]) rfl ⟨rfl, trivial⟩ Try.call95 (quorum_contains_1_sim h9 w0 _ M _ hM) ?_
  refine Lst.nil ?_
  refine At.then ?_
  rcases Bool.eq_false_or_eq_true r8 with hb12 | hb12
  · replace H := ite_t hb12 H
    refine Cd.condT rfl hb12 ?_
    refine Cd.seq ?_
    refine Cd.region ?_
    refine Lst.run rfl rfl (by decide) (Ev.move rfl) ?_
    refine Lst.run rfl rfl (by decide) (Ev.assign rfl) ?_
    refine Lst.nil ?_
    refine At.then ?_
    have H := hret2 _ (some_inj H).symm
    subst H
    replace H := HKl2
    obtain rfl := some_inj H
    refine Cd.ret ?_
    refine At.in_ret ?_
    refine At.then_ret ?_
    refine At.then_ret ?_
    refine At.in_ret ?_
    refine At.then_ret ?_
    exact At.ret1 rfl (Res.tmp rfl) hF4 (List.Sublist.cons_cons _ (List.Sublist.refl _)) ⟨rfl, rfl⟩
  replace H := ite_f hb12 H
  refine Cd.condF rfl hb12 ?_
  refine Cd.skip ?_
  refine At.in_normal ?_
  refine At.then ?_
  refine Cd.region ?_
  refine Lst.run rfl rfl (by decide) (Ev.incr (by omega) rfl rfl) ?_
  refine Lst.run rfl rfl (by decide) (Ev.move rfl) ?_
  refine Lst.nil ?_
  exact At.meet (i2 + 1, k2, ()) hF4 ⟨rfl, rfl, rfl, rfl, trivial⟩ rfl ⟨⟨hgo2 _ (some_inj H).symm, by omega⟩, Nat.lt_succ_self _⟩
set_option maxRecDepth 20000 in
theorem slices_ContainsFunc_uint16_uint16_contains_1_sim {a0 : List (BitVec 16)} {a1_c0 : BitVec 16} {s_a0 : Sl} {b_a1_c0 : Nat} {r : Bool} (H : slices_ContainsFunc_uint16_uint16_contains_1 a0 a1_c0 = some r) (w0 : World) (F : Frz) (M L : List Item) (hM : M.Sublist L) (hs_a0 : Rd w0 F M s_a0 a0) : Ok Try.prog w0 14 [Sl.v s_a0, .func (.func 95) #[] #[.pointer (some ⟨b_a1_c0, 0, none⟩)]] F ((.blk b_a1_c0 (enc a1_c0) 23) :: L) (Is (.bool r) ((.blk b_a1_c0 (enc a1_c0) 23) :: L)) := by
  unfold slices_ContainsFunc_uint16_uint16_contains_1 at H
  refine Ok.enter (m := 2) (n := 9) Try.func14 rfl rfl rfl (by decide) ?_
  refine Cd.env (e' := [(0, Sl.v s_a0), (1, .func (.func 95) #[] #[.pointer (some ⟨b_a1_c0, 0, none⟩)])]) rfl ?_
  refine Cd.seq ?_
  refine Cd.region ?_
  refine Lst.run rfl rfl (by decide) (Ev.assign rfl) ?_
  refine Lst.nil ?_
  refine At.then ?_
  refine Cd.seq ?_
  refine Cd.region ?_
  refine Lst.run rfl rfl (by decide) (Ev.move rfl) ?_
  refine Lst.run rfl rfl (by decide) (Ev.move rfl) ?_
  obtain ⟨r2, h3, H⟩ := bind_some H
  refine Lst.call1 rfl rfl (by decide) (vs := [Sl.v s_a0, .func (.func 95) #[] #[.pointer (some ⟨b_a1_c0, 0, none⟩)]]) ⟨rfl, rfl, trivial⟩ Try.call55 (slices_IndexFunc_uint16_uint16_contains_1_sim h3 w0 _ M _ hM (hs_a0.mono (FLe.refl _) (List.Sublist.refl _))) ?_
  refine Lst.run rfl rfl (by decide) (Ev.geq rfl rfl) ?_
  refine Lst.run rfl rfl (by decide) (Ev.assign rfl) ?_
  refine Lst.nil ?_
  refine At.then ?_
  obtain rfl := some_inj H
  refine Cd.ret ?_
  exact At.ret1 rfl (Res.tmp rfl) (FLe.refl _) (List.Sublist.cons_cons _ (List.Sublist.refl _)) ⟨rfl, rfl⟩
set_option maxRecDepth 20000 in
theorem quorum_contains_sim {a0 : BitVec 16} {a1 : List (BitVec 16)} {s_a1 : Sl} {r : Bool} (H : quorum_contains a0 a1 = some r) (w0 : World) (F : Frz) (M L : List Item) (hM : M.Sublist L) (hs_a1 : Rd w0 F M s_a1 a1) : Ok Try.prog w0 51 [.int .u16 a0.toNat, Sl.v s_a1] F (L) (Is (.bool r) (L)) := by
  unfold quorum_contains at H
  refine Ok.enter (m := 2) (n := 8) Try.func51 rfl rfl rfl (by decide) ?_
  refine Cd.env (e' := [(0, .int .u16 a0.toNat), (1, Sl.v s_a1)]) rfl ?_
  refine Cd.seq ?_
  refine Cd.region ?_
  refine Lst.box rfl rfl (by decide) rfl (cs := enc a0) rfl (fun b1 => ?_)
  refine Lst.run rfl rfl (by decide) (Ev.assign rfl) ?_
  refine Lst.nil ?_
  refine At.then ?_
  refine Cd.seq ?_
  refine Cd.region ?_
  refine Lst.run rfl rfl (by decide) (Ev.move rfl) ?_
  refine Lst.run rfl rfl (by decide) (Ev.makeFunc (us := []) (vs := [.pointer (some ⟨b1, 0, none⟩)]) trivial ⟨rfl, trivial⟩) ?_
  obtain ⟨r3, h4, H⟩ := bind_some H
  refine Lst.call1 rfl rfl (by decide) (vs := [Sl.v s_a1, .func (.func 95) #[] #[.pointer (some ⟨b1, 0, none⟩)]]) ⟨rfl, rfl, trivial⟩ Try.call14 (slices_ContainsFunc_uint16_uint16_contains_1_sim h4 w0 _ M _ hM (hs_a1.mono (FLe.refl _) (List.Sublist.refl _))) ?_
  refine Lst.run rfl rfl (by decide) (Ev.assign rfl) ?_
  refine Lst.nil ?_
  refine At.then ?_
  obtain rfl := some_inj H
  refine Cd.ret ?_
  exact At.ret1 rfl (Res.tmp rfl) (FLe.refl _) (List.Sublist.cons _ (List.Sublist.refl _)) ⟨rfl, rfl⟩
set_option maxRecDepth 20000 in
theorem quorum_minimal_Votes_2_sim {fu : Nat} {a0 : Int} {a1_c0 : List Int} {a1_c1 : Int} {b_a1_c0 : Nat} {s_a1_c0 : Sl} {b_a1_c1 : Nat} {r : (List (BitVec 16))} (H : quorum_minimal_Votes_2 fu a0 a1_c0 a1_c1 = some r) (w0 : World) (F : Frz) (M L : List Item) (hM : M.Sublist L) (hs_a1_c0 : Rd w0 F M s_a1_c0 a1_c0) : Ok Try.prog w0 49 [.int .i64 a0, .func (.func 58) #[] #[.pointer (some ⟨b_a1_c0, 0, none⟩), .pointer (some ⟨b_a1_c1, 0, none⟩)]] F ((.blk b_a1_c0 (enc s_a1_c0) 36) :: (.blk b_a1_c1 (enc a1_c1) 3) :: L) (fun _ L' v => ∃ (s3 : Sl), v = Sl.v s3 ∧ L' = (.own s3 23 1 (encs r)) :: (.blk b_a1_c0 (enc s_a1_c0) 36) :: (.blk b_a1_c1 (enc a1_c1) 3) :: L) := by
  unfold quorum_minimal_Votes_2 at H
  refine Ok.enter (m := 2) (n := 41) Try.func49 rfl rfl rfl (by decide) ?_
  refine Cd.env (e' := [(0, .int .i64 a0), (1, .func (.func 58) #[] #[.pointer (some ⟨b_a1_c0, 0, none⟩), .pointer (some ⟨b_a1_c1, 0, none⟩)])]) rfl ?_
  refine Cd.seq ?_
  refine Cd.region ?_
  refine Lst.addNil 23 1 ?_
  refine Lst.run rfl rfl (by decide) (Ev.assign rfl) ?_
  refine Lst.nil ?_
  refine At.then ?_
  refine Cd.seq ?_
  refine Cd.region ?_
  refine Lst.addNil 23 1 ?_
  refine Lst.run rfl rfl (by decide) (Ev.assign rfl) ?_
  refine Lst.nil ?_
  refine At.then ?_
  refine Cd.seq ?_
  refine Cd.seq ?_
  refine Cd.region ?_
  refine Lst.run rfl rfl (by decide) (Ev.move rfl) ?_
  obtain ⟨n5, h6, H⟩ := bind_some H
  refine Lst.run rfl rfl (by decide) (Ev.shlU16 (i := (1 : BitVec 16)) (m := n5) rfl (congrArg some (congrArg (Value.int .i64) (cnt_some h6)))) ?_
  refine Lst.run rfl rfl (by decide) (Ev.move rfl) ?_
  refine Lst.nil ?_
  refine At.then ?_
  refine Cd.block ?_
  obtain ⟨ol8, H, HKl8⟩ := andThen_some H
  refine Cd.loop (σ := Nat × (BitVec 16) × Sl × (List (BitVec 16))) (fun (k8, y9, s10, l11) => [(1, .func (.func 58) #[] #[.pointer (some ⟨b_a1_c0, 0, none⟩), .pointer (some ⟨b_a1_c1, 0, none⟩)]), (5, Sl.v s10), (11, .int .u16 ((1 : BitVec 16) <<< n5).toNat), (12, .int .u16 y9.toNat)]) (fun (k8, y9, s10, l11) => (.own s10 23 1 (encs l11)) :: (.own Sl.nil 23 1 (encs ([] : List (BitVec 16)))) :: (.blk b_a1_c0 (enc s_a1_c0) 36) :: (.blk b_a1_c1 (enc a1_c1) 3) :: L) (fun _ => (fun (k8, y9, s10, l11) => whileM (quorum_minimal_Votes_2_B0 a1_c0 a1_c1 n5) k8 (y9, l11) = some ol8)) (fun (k8, y9, s10, l11) => k8) (fu, (0 : BitVec 16), Sl.nil, ([] : List (BitVec 16))) ⟨rfl, rfl, rfl, rfl, trivial⟩ rfl H ?_
  rintro F12 ⟨k8, y9, s10, l11⟩ hF13 H
  refine Cd.as (e' := [(1, .func (.func 58) #[] #[.pointer (some ⟨b_a1_c0, 0, none⟩), .pointer (some ⟨b_a1_c1, 0, none⟩)]), (5, Sl.v s10), (11, .int .u16 ((1 : BitVec 16) <<< n5).toNat), (12, .int .u16 y9.toNat)]) (L' := (.own s10 23 1 (encs l11)) :: (.own Sl.nil 23 1 (encs ([] : List (BitVec 16)))) :: (.blk b_a1_c0 (enc s_a1_c0) 36) :: (.blk b_a1_c1 (enc a1_c1) 3) :: L) ⟨rfl, rfl, rfl, rfl, trivial⟩ rfl ?_
  rcases k8 with _ | k8
  · cases H
  obtain ⟨c8, H, hgo8, hbrk8, hret8⟩ := whileM_go H
  unfold quorum_minimal_Votes_2_B0 at H
  try dsimp only at H
  refine Cd.seq ?_
  refine Cd.region ?_
  refine Lst.run rfl rfl (by decide) (Ev.lss rfl rfl) ?_
  refine Lst.nil ?_
  refine At.then ?_
  refine Cd.seq ?_
  rcases (Bool.eq_false_or_eq_true (decide ((y9.toNat : Int) < (((1 : BitVec 16) <<< n5).toNat : Int)))).symm with hb14 | hb14
  · replace H := ite_f hb14 H
    refine Cd.condF rfl hb14 ?_
    refine Cd.exit ?_
    refine At.then_exit ?_
    refine At.then_exit ?_
    refine At.in_exit ?_
    have H := hbrk8 _ (some_inj H).symm
    subst H
    replace H := HKl8
    refine At.then ?_
    refine Cd.seq ?_
    refine Cd.region ?_
    refine Lst.run rfl rfl (by decide) (Ev.move rfl) ?_
    obtain ⟨r15, h16, H⟩ := bind_some H
    refine Lst.call rfl rfl (by decide) (vs := [Sl.v s10, .func (.func 53) #[] #[]]) ⟨rfl, rfl, trivial⟩ Try.call94 (slices_SortFunc_uint16_uint16_quorum_compare_sim h16 w0 _ M _ (List.Sublist.cons _ (List.Sublist.cons _ (List.Sublist.cons _ hM)))) (fun F17 L' v hF18 hv => ?_)
    obtain ⟨rfl, rfl⟩ := hv
    refine Lst.nil ?_
    refine At.then ?_
    refine Cd.seq ?_
    refine Cd.region ?_
    refine Lst.addNil 23 1 ?_
    refine Lst.run rfl rfl (by decide) (Ev.assign rfl) ?_
    refine Lst.nil ?_
    refine At.then ?_
    refine Cd.seq ?_
    refine Cd.seq ?_
    refine Cd.region ?_
    refine Lst.run rfl rfl (by decide) (Ev.move rfl) ?_
    refine Lst.run rfl rfl (by decide) (Ev.lenS (α := BitVec 16) (xs := r15) (by decide) rfl rfl Try.runUnderlying22 (Rd.own (i := 1) rfl rfl rfl)) ?_
    refine Lst.run rfl rfl (by decide) (Ev.move rfl) ?_
    refine Lst.nil ?_
    refine At.then ?_
    refine Cd.block ?_
    refine Cd.bound (Rd.le (α := BitVec 16) (xs := r15) (by decide) (Rd.own (i := 1) rfl rfl rfl)) (fun hN38 => ?_)
    obtain ⟨ol20, H, HKl20⟩ := bind_some H
    refine Cd.loop (σ := Nat × Nat × Sl × (List (BitVec 16))) (fun (i20, k20, s21, l22) => [(7, Sl.v s21), (25, Sl.v s10), (26, .int .i64 (r15.length : Int)), (27, .int .i64 (i20 : Int))]) (fun (i20, k20, s21, l22) => (.own s21 23 1 (encs l22)) :: (.own s10 23 1 (encs r15)) :: (.own Sl.nil 23 1 (encs ([] : List (BitVec 16)))) :: (.blk b_a1_c0 (enc s_a1_c0) 36) :: (.blk b_a1_c1 (enc a1_c1) 3) :: L) (fun _ => (fun (i20, k20, s21, l22) => rangeF (quorum_minimal_Votes_2_B2 r15) k20 i20 l22 = some ol20 ∧ i20 + k20 = r15.length)) (fun (i20, k20, s21, l22) => k20) (0, r15.length, Sl.nil, ([] : List (BitVec 16))) ⟨rfl, rfl, rfl, rfl, trivial⟩ rfl ⟨H, by omega⟩ ?_
    rintro F23 ⟨i20, k20, s21, l22⟩ hF24 ⟨H, hik20⟩
    refine Cd.as (e' := [(7, Sl.v s21), (25, Sl.v s10), (26, .int .i64 (r15.length : Int)), (27, .int .i64 (i20 : Int))]) (L' := (.own s21 23 1 (encs l22)) :: (.own s10 23 1 (encs r15)) :: (.own Sl.nil 23 1 (encs ([] : List (BitVec 16)))) :: (.blk b_a1_c0 (enc s_a1_c0) 36) :: (.blk b_a1_c1 (enc a1_c1) 3) :: L) ⟨rfl, rfl, rfl, rfl, trivial⟩ rfl ?_
    rcases k20 with _ | k20
    · have hc20 : decide ((i20 : Int) < (r15.length : Int)) = false := decide_eq_false (by omega)
      replace H := rangeF_end H
      refine Cd.seq ?_
      refine Cd.region ?_
      refine Lst.run rfl rfl (by decide) (Ev.lss rfl rfl) ?_
      refine Lst.nil ?_
      refine At.then ?_
      refine Cd.seq ?_
      refine Cd.condF rfl hc20 ?_
      refine Cd.exit ?_
      refine At.then_exit ?_
      refine At.then_exit ?_
      refine At.in_exit ?_
      subst H
      replace H := HKl20
      refine At.then ?_
      refine Cd.seq ?_
      refine Cd.region ?_
      refine Lst.run rfl rfl (by decide) (Ev.move rfl) ?_
      refine Lst.run rfl rfl (by decide) (Ev.assign rfl) ?_
      refine Lst.nil ?_
      refine At.then ?_
      obtain rfl := some_inj H
      refine Cd.ret ?_
      exact At.ret1 rfl (Res.tmp rfl) (FLe.trans (FLe.trans hF13 hF18) hF24) (List.Sublist.cons_cons _ (List.Sublist.cons _ (List.Sublist.cons _ (List.Sublist.cons_cons _ (List.Sublist.cons_cons _ (List.Sublist.refl _)))))) ⟨s21, rfl, rfl⟩
    have hc20 : decide ((i20 : Int) < (r15.length : Int)) = true := decide_eq_true (by omega)
    obtain ⟨c20, H, hgo20⟩ := rangeF_go H
    unfold quorum_minimal_Votes_2_B2 at H
    try dsimp only at H
    refine Cd.seq ?_
    refine Cd.region ?_
    refine Lst.run rfl rfl (by decide) (Ev.lss rfl rfl) ?_
    refine Lst.nil ?_
    refine At.then ?_
    refine Cd.seq ?_
    refine Cd.condT rfl hc20 ?_
    refine Cd.skip ?_
    refine At.then ?_
    refine Cd.seq ?_
    refine Cd.block ?_
    refine Cd.seq ?_
    refine Cd.region ?_
    obtain ⟨x25, h26, H⟩ := bind_some H
    have g27 := lat_some h26
    refine Lst.run rfl rfl (by decide) (Ev.indexS (α := BitVec 16) (xs := r15) rfl rfl Try.runUnderlying22 Try.sizeOf23 rfl (by decide) (Rd.own (i := 1) rfl rfl rfl) g27.1 g27.2.1) ?_
    refine Lst.run rfl rfl (by decide) (Ev.loadS (α := BitVec 16) rfl (Rd.own (i := 1) rfl rfl rfl) Try.isAgg23 (v := .int .u16 x25.toNat) ((Get.elemN (s := 1) (x := x25) rfl g27.2.2 (Get.here _)).off (by omega))) ?_
    refine Lst.run rfl rfl (by decide) (Ev.assign rfl) ?_
    refine Lst.nil ?_
    refine At.then ?_
    refine Cd.seq ?_
    refine Cd.region ?_
    refine Lst.run rfl rfl (by decide) (Ev.move rfl) ?_
    refine Lst.run rfl rfl (by decide) (Ev.move rfl) ?_
    obtain ⟨r28, h29, H⟩ := bind_some H
    refine Lst.call1 rfl rfl (by decide) (vs := [.int .u16 x25.toNat, Sl.v s21]) ⟨rfl, rfl, trivial⟩ Try.call51 (quorum_contains_sim h29 w0 _ _ _ (List.Sublist.refl _) (Rd.own (i := 0) rfl rfl rfl)) ?_
    refine Lst.run rfl rfl (by decide) (Ev.not rfl) ?_
    refine Lst.nil ?_
    refine At.then ?_
    rcases (Bool.eq_false_or_eq_true (!r28)).symm with hb32 | hb32
    · replace H := ite_f hb32 H
      refine Cd.condF rfl hb32 ?_
      refine Cd.skip ?_
      refine At.in_normal ?_
      refine At.then ?_
      refine Cd.region ?_
      refine Lst.run rfl rfl (by decide) (Ev.incr (by omega) rfl rfl) ?_
      refine Lst.run rfl rfl (by decide) (Ev.move rfl) ?_
      refine Lst.nil ?_
      exact At.meet (i20 + 1, k20, s21, l22) hF24 ⟨rfl, rfl, rfl, rfl, trivial⟩ rfl ⟨⟨hgo20 _ (some_inj H).symm, by omega⟩, Nat.lt_succ_self _⟩
    replace H := ite_t hb32 H
    refine Cd.condT rfl hb32 ?_
    refine Cd.region ?_
    refine Lst.run rfl rfl (by decide) (Ev.move rfl) ?_
    refine Lst.run rfl rfl (by decide) (Ev.move rfl) ?_
    refine Lst.buildSlice (α := BitVec 16) (xs := ([x25] : List (BitVec 16))) (pv := [(0, .int .u16 x25.toNat)]) rfl rfl (by decide) ⟨rfl, rfl, trivial⟩ (run_buildSlice (α := BitVec 16) (z0 := (0 : BitVec 16)) (xs := ([x25] : List (BitVec 16))) Try.runUnderlying22 Try.sizeOf23 Try.zeroValue23 rfl rfl rfl (by decide) rfl (fill_cons (cs := encs (List.replicate 1 (0 : BitVec 16))) (cs' := encs ((List.replicate 1 (0 : BitVec 16)).set 0 x25)) (vs := [.int .u16 x25.toNat]) rfl rfl rfl ((Put.elemN (s := 1) (i := 0) (x := (0 : BitVec 16)) (y := x25) rfl rfl (Put.here (vs := [.int .u16 x25.toNat]) rfl)).off rfl) fill_nil)) rfl rfl (by decide) (fun s33 _ => ?_)
    obtain ⟨u35, h36, H⟩ := bind_some H
    refine Lst.append (i := 1) (α := BitVec 16) (xs := l22) (ys := ([x25] : List (BitVec 16))) rfl rfl (by decide) rfl rfl Try.runUnderlying22 Try.typeInfo23 rfl rfl rfl rfl rfl rfl (Rd.own (i := 0) rfl rfl rfl) rfl (room_some h36) rfl (fun s37 => ?_)
    refine Lst.its (L' := (.own s33 23 1 (encs ([x25] : List (BitVec 16)))) :: (.own s37 23 1 (encs (l22 ++ ([x25] : List (BitVec 16))))) :: (.own s10 23 1 (encs r15)) :: (.own Sl.nil 23 1 (encs ([] : List (BitVec 16)))) :: (.blk b_a1_c0 (enc s_a1_c0) 36) :: (.blk b_a1_c1 (enc a1_c1) 3) :: L) rfl ?_
    refine Lst.run rfl rfl (by decide) (Ev.assign rfl) ?_
    refine Lst.nil ?_
    refine At.in_normal ?_
    refine At.then ?_
    refine Cd.region ?_
    refine Lst.run rfl rfl (by decide) (Ev.incr (by omega) rfl rfl) ?_
    refine Lst.run rfl rfl (by decide) (Ev.move rfl) ?_
    refine Lst.nil ?_
    refine At.less (L' := (.own s37 23 1 (encs (l22 ++ ([x25] : List (BitVec 16))))) :: (.own s10 23 1 (encs r15)) :: (.own Sl.nil 23 1 (encs ([] : List (BitVec 16)))) :: (.blk b_a1_c0 (enc s_a1_c0) 36) :: (.blk b_a1_c1 (enc a1_c1) 3) :: L) (List.Sublist.cons _ (List.Sublist.cons_cons _ (List.Sublist.cons_cons _ (List.Sublist.cons_cons _ (List.Sublist.cons_cons _ (List.Sublist.cons_cons _ (List.Sublist.refl _))))))) ?_
    exact At.meet (i20 + 1, k20, s37, l22 ++ ([x25] : List (BitVec 16))) hF24 ⟨rfl, rfl, rfl, rfl, trivial⟩ rfl ⟨⟨hgo20 _ (some_inj H).symm, by omega⟩, Nat.lt_succ_self _⟩
  replace H := ite_t hb14 H
  refine Cd.condT rfl hb14 ?_
  refine Cd.skip ?_
  refine At.then ?_
  refine Cd.seq ?_
  refine Cd.block ?_
  refine Cd.seq ?_
  refine Cd.region ?_
  refine Lst.run rfl rfl (by decide) (Ev.move rfl) ?_
  refine Lst.run rfl rfl (by decide) (Ev.assign rfl) ?_
  refine Lst.nil ?_
  refine At.then ?_
  refine Cd.seq ?_
  refine Cd.region ?_
  refine Lst.run rfl rfl (by decide) (Ev.move rfl) ?_
  refine Lst.run rfl rfl (by decide) (Ev.move rfl) ?_
  obtain ⟨r39, h40, H⟩ := bind_some H
  refine Lst.front (i := 3) rfl (L' := (.blk b_a1_c1 (enc a1_c1) 3) :: (.own s10 23 1 (encs l11)) :: (.own Sl.nil 23 1 (encs ([] : List (BitVec 16)))) :: (.blk b_a1_c0 (enc s_a1_c0) 36) :: L) rfl ?_
  refine Lst.front (i := 3) rfl (L' := (.blk b_a1_c0 (enc s_a1_c0) 36) :: (.blk b_a1_c1 (enc a1_c1) 3) :: (.own s10 23 1 (encs l11)) :: (.own Sl.nil 23 1 (encs ([] : List (BitVec 16)))) :: L) rfl ?_
  refine Lst.callV1 rfl rfl (by decide) (vs := [.int .u16 y9.toNat]) (cs := [.pointer (some ⟨b_a1_c0, 0, none⟩), .pointer (some ⟨b_a1_c1, 0, none⟩)]) rfl ⟨rfl, trivial⟩ Try.call58 (quorum_Votes_2_sim h40 w0 _ M _ (List.Sublist.cons _ (List.Sublist.cons _ hM)) (hs_a1_c0.mono hF13 (List.Sublist.refl _))) ?_
  refine Lst.nil ?_
  refine At.then ?_
  rcases (Bool.eq_false_or_eq_true r39).symm with hb43 | hb43
  · replace H := ite_f hb43 H
    refine Cd.condF rfl hb43 ?_
    refine Cd.skip ?_
    refine At.in_normal ?_
    refine At.then ?_
    refine Cd.region ?_
    refine Lst.run rfl rfl (by decide) (Ev.addU16 (i := y9) (j := (1 : BitVec 16)) rfl rfl) ?_
    refine Lst.run rfl rfl (by decide) (Ev.move rfl) ?_
    refine Lst.nil ?_
    refine At.front (i := 1) rfl rfl ?_
    refine At.front (i := 1) rfl rfl ?_
    refine At.front (i := 3) rfl rfl ?_
    refine At.front (i := 3) rfl rfl ?_
    exact At.meet (k8, y9 + (1 : BitVec 16), s10, l11) hF13 ⟨rfl, rfl, rfl, rfl, trivial⟩ rfl ⟨hgo8 _ (some_inj H).symm, Nat.lt_succ_self _⟩
  replace H := ite_t hb43 H
  refine Cd.condT rfl hb43 ?_
  refine Cd.region ?_
  refine Lst.run rfl rfl (by decide) (Ev.move rfl) ?_
  refine Lst.run rfl rfl (by decide) (Ev.move rfl) ?_
  refine Lst.buildSlice (α := BitVec 16) (xs := ([y9] : List (BitVec 16))) (pv := [(0, .int .u16 y9.toNat)]) rfl rfl (by decide) ⟨rfl, rfl, trivial⟩ (run_buildSlice (α := BitVec 16) (z0 := (0 : BitVec 16)) (xs := ([y9] : List (BitVec 16))) Try.runUnderlying22 Try.sizeOf23 Try.zeroValue23 rfl rfl rfl (by decide) rfl (fill_cons (cs := encs (List.replicate 1 (0 : BitVec 16))) (cs' := encs ((List.replicate 1 (0 : BitVec 16)).set 0 y9)) (vs := [.int .u16 y9.toNat]) rfl rfl rfl ((Put.elemN (s := 1) (i := 0) (x := (0 : BitVec 16)) (y := y9) rfl rfl (Put.here (vs := [.int .u16 y9.toNat]) rfl)).off rfl) fill_nil)) rfl rfl (by decide) (fun s44 _ => ?_)
  obtain ⟨u46, h47, H⟩ := bind_some H
  refine Lst.append (i := 3) (α := BitVec 16) (xs := l11) (ys := ([y9] : List (BitVec 16))) rfl rfl (by decide) rfl rfl Try.runUnderlying22 Try.typeInfo23 rfl rfl rfl rfl rfl rfl (Rd.own (i := 0) rfl rfl rfl) rfl (room_some h47) rfl (fun s48 => ?_)
  refine Lst.its (L' := (.own s44 23 1 (encs ([y9] : List (BitVec 16)))) :: (.blk b_a1_c0 (enc s_a1_c0) 36) :: (.blk b_a1_c1 (enc a1_c1) 3) :: (.own s48 23 1 (encs (l11 ++ ([y9] : List (BitVec 16))))) :: (.own Sl.nil 23 1 (encs ([] : List (BitVec 16)))) :: L) rfl ?_
  refine Lst.run rfl rfl (by decide) (Ev.assign rfl) ?_
  refine Lst.nil ?_
  refine At.in_normal ?_
  refine At.then ?_
  refine Cd.region ?_
  refine Lst.run rfl rfl (by decide) (Ev.addU16 (i := y9) (j := (1 : BitVec 16)) rfl rfl) ?_
  refine Lst.run rfl rfl (by decide) (Ev.move rfl) ?_
  refine Lst.nil ?_
  refine At.front (i := 2) rfl rfl ?_
  refine At.front (i := 2) rfl rfl ?_
  refine At.front (i := 4) rfl rfl ?_
  refine At.front (i := 4) rfl rfl ?_
  refine At.less (L' := (.own s48 23 1 (encs (l11 ++ ([y9] : List (BitVec 16))))) :: (.own Sl.nil 23 1 (encs ([] : List (BitVec 16)))) :: (.blk b_a1_c0 (enc s_a1_c0) 36) :: (.blk b_a1_c1 (enc a1_c1) 3) :: L) (List.Sublist.cons_cons _ (List.Sublist.cons_cons _ (List.Sublist.cons_cons _ (List.Sublist.cons_cons _ (List.Sublist.cons _ (List.Sublist.refl _)))))) ?_
  exact At.meet (k8, y9 + (1 : BitVec 16), s48, l11 ++ ([y9] : List (BitVec 16))) hF13 ⟨rfl, rfl, rfl, rfl, trivial⟩ rfl ⟨hgo8 _ (some_inj H).symm, Nat.lt_succ_self _⟩
set_option maxRecDepth 20000 in
theorem quorum_Votes_sim {fu : Nat} {a0 : List Int} {a1 : Int} {s_a0 : Sl} {r : (List (BitVec 16)) × Int} (H : quorum_Votes fu a0 a1 = some r) (w0 : World) (F : Frz) (M L : List Item) (hM : M.Sublist L) (hs_a0 : Rd w0 F M s_a0 a0) : Ok Try.prog w0 17 [Sl.v s_a0, .int .i64 a1] F (L) (fun _ L' v => ∃ (s1 : Sl), v = .tuple #[Sl.v s1, .int .i64 r.2] ∧ L' = (.own s1 23 1 (encs r.1)) :: L) := by
  unfold quorum_Votes at H
  refine Ok.enter (m := 2) (n := 24) Try.func17 rfl rfl rfl (by decide) ?_
  refine Cd.env (e' := [(0, Sl.v s_a0), (1, .int .i64 a1)]) rfl ?_
  refine Cd.seq ?_
  refine Cd.region ?_
  refine Lst.box rfl rfl (by decide) rfl (cs := enc s_a0) rfl (fun b1 => ?_)
  refine Lst.box rfl rfl (by decide) rfl (cs := enc a1) rfl (fun b3 => ?_)
  refine Lst.addNil 23 1 ?_
  refine Lst.run rfl rfl (by decide) (Ev.assign rfl) ?_
  refine Lst.run rfl rfl (by decide) (Ev.assign rfl) ?_
  refine Lst.nil ?_
  refine At.then ?_
  refine Cd.seq ?_
  refine Cd.region ?_
  refine Lst.run rfl rfl (by decide) (Ev.load (i := 2) rfl rfl Try.isAgg36 (v := Sl.v s_a0) (Get.here _)) ?_
  refine Lst.run rfl rfl (by decide) (Ev.lenS (α := Int) (xs := a0) (by decide) rfl rfl Try.runUnderlying36 (hs_a0.mono (FLe.refl _) (List.Sublist.cons _ (List.Sublist.cons _ (List.Sublist.cons _ hM))))) ?_
  refine Lst.run rfl rfl (by decide) (Ev.assign rfl) ?_
  refine Lst.nil ?_
  refine At.then ?_
  refine Cd.seq ?_
  refine Cd.seq ?_
  refine Cd.region ?_
  refine Lst.run rfl rfl (by decide) (Ev.move rfl) ?_
  obtain ⟨r6, h7, H⟩ := bind_some H
  refine Lst.call1 rfl rfl (by decide) (vs := [.int .i64 (a0.length : Int), .int .i64 (1 : Int), .int .i64 (10 : Int)]) ⟨rfl, rfl, rfl, trivial⟩ Try.call52 (quorum_in_sim h7 w0 _ M _ (List.Sublist.cons _ (List.Sublist.cons _ (List.Sublist.cons _ hM)))) ?_
  refine Lst.run rfl rfl (by decide) (Ev.not rfl) ?_
  refine Lst.run rfl rfl (by decide) (Ev.move rfl) ?_
  obtain ⟨o10, H, HKo10⟩ := bind_some H
  refine Lst.join (σ := Bool) 4 (fun y11 => [(2, .pointer (some ⟨b1, 0, none⟩)), (3, .pointer (some ⟨b3, 0, none⟩)), (6, .int .i64 (a0.length : Int)), (16, .bool y11)]) (fun y11 => (.own Sl.nil 23 1 (encs ([] : List (BitVec 16)))) :: (.blk b3 (enc a1) 3) :: (.blk b1 (enc s_a0) 36) :: L) (fun _ y11 => y11 = o10) ?_ ?_
  · rcases Bool.eq_false_or_eq_true (!r6) with hb12 | hb12
    · replace H := ite_t hb12 H
      refine Lst.skip rfl rfl rfl hb12 rfl (by decide) ?_
      refine Lst.skip rfl rfl rfl hb12 rfl (by decide) ?_
      refine Lst.skip rfl rfl rfl hb12 rfl (by decide) ?_
      refine Lst.run rfl rfl (by decide) (Ev.pickT rfl hb12 rfl) ?_
      refine Lst.nil ?_
      exact At.meet true (FLe.refl _) ⟨rfl, rfl, rfl, rfl, trivial⟩ rfl (some_inj H)
    replace H := ite_f hb12 H
    refine Lst.runG rfl rfl rfl hb12 rfl (by decide) (Ev.load (i := 1) rfl rfl Try.isAgg3 (v := .int .i64 a1) (Get.here _)) ?_
    obtain ⟨r13, h14, H⟩ := bind_some H
    refine Lst.call1G rfl rfl rfl hb12 rfl (by decide) (vs := [.int .i64 a1, .int .i64 (1 : Int), .int .i64 (16777215 : Int)]) ⟨rfl, rfl, rfl, trivial⟩ Try.call52 (quorum_in_sim h14 w0 _ M _ (List.Sublist.cons _ (List.Sublist.cons _ (List.Sublist.cons _ hM)))) ?_
    refine Lst.runG rfl rfl rfl hb12 rfl (by decide) (Ev.not rfl) ?_
    refine Lst.run rfl rfl (by decide) (Ev.pickF rfl hb12 rfl) ?_
    refine Lst.nil ?_
    exact At.meet (!r13) (FLe.refl _) ⟨rfl, rfl, rfl, rfl, trivial⟩ rfl (some_inj H)
  rintro F17 y11 hF18 hy
  subst hy
  refine Lst.as (e' := [(2, .pointer (some ⟨b1, 0, none⟩)), (3, .pointer (some ⟨b3, 0, none⟩)), (6, .int .i64 (a0.length : Int)), (16, .bool y11)]) (L' := (.own Sl.nil 23 1 (encs ([] : List (BitVec 16)))) :: (.blk b3 (enc a1) 3) :: (.blk b1 (enc s_a0) 36) :: L) ⟨rfl, rfl, rfl, rfl, trivial⟩ rfl ?_
  replace H := HKo10
  refine Lst.run rfl rfl (by decide) (Ev.move rfl) ?_
  obtain ⟨o19, H, HKo19⟩ := bind_some H
  refine Lst.join (σ := Bool) 3 (fun y20 => [(2, .pointer (some ⟨b1, 0, none⟩)), (3, .pointer (some ⟨b3, 0, none⟩)), (6, .int .i64 (a0.length : Int)), (20, .bool y20)]) (fun y20 => (.own Sl.nil 23 1 (encs ([] : List (BitVec 16)))) :: (.blk b3 (enc a1) 3) :: (.blk b1 (enc s_a0) 36) :: L) (fun _ y20 => y20 = o19) ?_ ?_
  · rcases Bool.eq_false_or_eq_true y11 with hb21 | hb21
    · replace H := ite_t hb21 H
      refine Lst.skip rfl rfl rfl hb21 rfl (by decide) ?_
      refine Lst.skip rfl rfl rfl hb21 rfl (by decide) ?_
      refine Lst.run rfl rfl (by decide) (Ev.pickT rfl hb21 rfl) ?_
      refine Lst.nil ?_
      exact At.meet true (FLe.refl _) ⟨rfl, rfl, rfl, rfl, trivial⟩ rfl (some_inj H)
    replace H := ite_f hb21 H
    refine Lst.runG rfl rfl rfl hb21 rfl (by decide) (Ev.load (i := 2) rfl rfl Try.isAgg36 (v := Sl.v s_a0) (Get.here _)) ?_
    obtain ⟨r22, h23, H⟩ := bind_some H
    refine Lst.call1G rfl rfl rfl hb21 rfl (by decide) (vs := [Sl.v s_a0, .func (.func 57) #[] #[]]) ⟨rfl, rfl, trivial⟩ Try.call56 (slices_ContainsFunc_int_int_Votes_1_sim h23 w0 _ M _ (List.Sublist.cons _ (List.Sublist.cons _ (List.Sublist.cons _ hM))) (hs_a0.mono hF18 (List.Sublist.refl _))) ?_
    refine Lst.run rfl rfl (by decide) (Ev.pickF rfl hb21 rfl) ?_
    refine Lst.nil ?_
    exact At.meet r22 (FLe.refl _) ⟨rfl, rfl, rfl, rfl, trivial⟩ rfl (some_inj H)
  rintro F26 y20 hF27 hy
  subst hy
  refine Lst.as (e' := [(2, .pointer (some ⟨b1, 0, none⟩)), (3, .pointer (some ⟨b3, 0, none⟩)), (6, .int .i64 (a0.length : Int)), (20, .bool y20)]) (L' := (.own Sl.nil 23 1 (encs ([] : List (BitVec 16)))) :: (.blk b3 (enc a1) 3) :: (.blk b1 (enc s_a0) 36) :: L) ⟨rfl, rfl, rfl, rfl, trivial⟩ rfl ?_
  replace H := HKo19
  refine Lst.nil ?_
  refine At.then ?_
  rcases Bool.eq_false_or_eq_true y20 with hb28 | hb28
  · replace H := ite_t hb28 H
    refine Cd.condT rfl hb28 ?_
    refine Cd.seq ?_
    refine Cd.region ?_
    refine Lst.addNil 23 1 ?_
    refine Lst.run rfl rfl (by decide) (Ev.assign rfl) ?_
    refine Lst.run rfl rfl (by decide) (Ev.assign rfl) ?_
    refine Lst.nil ?_
    refine At.then ?_
    obtain rfl := some_inj H
    refine Cd.ret ?_
    refine At.then_ret ?_
    exact At.ret2 rfl (Res.tmp rfl) (Res.tmp rfl) (FLe.trans hF18 hF27) (List.Sublist.cons_cons _ (List.Sublist.cons _ (List.Sublist.cons _ (List.Sublist.cons _ (List.Sublist.refl _))))) ⟨Sl.nil, rfl, rfl⟩
  replace H := ite_f hb28 H
  refine Cd.condF rfl hb28 ?_
  refine Cd.skip ?_
  refine At.then ?_
  refine Cd.seq ?_
  refine Cd.region ?_
  refine Lst.run rfl rfl (by decide) (Ev.move rfl) ?_
  refine Lst.run rfl rfl (by decide) (Ev.makeFunc (us := []) (vs := [.pointer (some ⟨b1, 0, none⟩), .pointer (some ⟨b3, 0, none⟩)]) trivial ⟨rfl, rfl, trivial⟩) ?_
  obtain ⟨r30, h31, H⟩ := bind_some H
  refine Lst.front (i := 1) rfl (L' := (.blk b3 (enc a1) 3) :: (.own Sl.nil 23 1 (encs ([] : List (BitVec 16)))) :: (.blk b1 (enc s_a0) 36) :: L) rfl ?_
  refine Lst.front (i := 2) rfl (L' := (.blk b1 (enc s_a0) 36) :: (.blk b3 (enc a1) 3) :: (.own Sl.nil 23 1 (encs ([] : List (BitVec 16)))) :: L) rfl ?_
  refine Lst.call rfl rfl (by decide) (vs := [.int .i64 (a0.length : Int), .func (.func 58) #[] #[.pointer (some ⟨b1, 0, none⟩), .pointer (some ⟨b3, 0, none⟩)]]) ⟨rfl, rfl, trivial⟩ Try.call49 (quorum_minimal_Votes_2_sim h31 w0 _ M _ (List.Sublist.cons _ hM) (hs_a0.mono (FLe.trans hF18 hF27) (List.Sublist.refl _))) (fun F34 L' v hF35 hv => ?_)
  obtain ⟨s32, rfl, rfl⟩ := hv
  refine Lst.run rfl rfl (by decide) (Ev.assign rfl) ?_
  refine Lst.run rfl rfl (by decide) (Ev.assign rfl) ?_
  refine Lst.nil ?_
  refine At.then ?_
  obtain rfl := some_inj H
  refine Cd.ret ?_
  exact At.ret2 rfl (Res.tmp rfl) (Res.tmp rfl) (FLe.trans (FLe.trans hF18 hF27) hF35) (List.Sublist.cons_cons _ (List.Sublist.cons _ (List.Sublist.cons _ (List.Sublist.cons _ (List.Sublist.refl _))))) ⟨s32, rfl, rfl⟩
set_option maxRecDepth 20000 in
theorem slices_Index_uint16_uint16_sim {a0 : List (BitVec 16)} {a1 : BitVec 16} {s_a0 : Sl} {r : Int} (H : slices_Index_uint16_uint16 a0 a1 = some r) (w0 : World) (F : Frz) (M L : List Item) (hM : M.Sublist L) (hs_a0 : Rd w0 F M s_a0 a0) : Ok Try.prog w0 102 [Sl.v s_a0, .int .u16 a1.toNat] F (L) (Is (.int .i64 r) (L)) := by
  unfold slices_Index_uint16_uint16 at H
  refine Ok.enter (m := 2) (n := 19) Try.func102 rfl rfl rfl (by decide) ?_
  refine Cd.env (e' := [(0, Sl.v s_a0), (1, .int .u16 a1.toNat)]) rfl ?_
  refine Cd.seq ?_
  refine Cd.region ?_
  refine Lst.run rfl rfl (by decide) (Ev.assign rfl) ?_
  refine Lst.nil ?_
  refine At.then ?_
  refine Cd.seq ?_
  refine Cd.seq ?_
  refine Cd.region ?_
  refine Lst.run rfl rfl (by decide) (Ev.move rfl) ?_
  refine Lst.run rfl rfl (by decide) (Ev.lenS (α := BitVec 16) (xs := a0) (by decide) rfl rfl Try.runUnderlying22 (hs_a0.mono (FLe.refl _) hM)) ?_
  refine Lst.run rfl rfl (by decide) (Ev.move rfl) ?_
  refine Lst.nil ?_
  refine At.then ?_
  refine Cd.block ?_
  refine Cd.bound (Rd.le (α := BitVec 16) (xs := a0) (by decide) (hs_a0.mono (FLe.refl _) hM)) (fun hN8 => ?_)
  obtain ⟨ol1, H, HKl1⟩ := andThen_some H
  refine Cd.loop (σ := Nat × Nat × Unit) (fun (i1, k1, _u) => [(0, Sl.v s_a0), (1, .int .u16 a1.toNat), (7, .int .i64 (a0.length : Int)), (8, .int .i64 (i1 : Int))]) (fun (i1, k1, _u) => L) (fun _ => (fun (i1, k1, _u) => rangeM (slices_Index_uint16_uint16_B0 a0 a1) k1 i1 () = some ol1 ∧ i1 + k1 = a0.length)) (fun (i1, k1, _u) => k1) (0, a0.length, ()) ⟨rfl, rfl, rfl, rfl, trivial⟩ rfl ⟨H, by omega⟩ ?_
  rintro F2 ⟨i1, k1, _u⟩ hF3 ⟨H, hik1⟩
  refine Cd.as (e' := [(0, Sl.v s_a0), (1, .int .u16 a1.toNat), (7, .int .i64 (a0.length : Int)), (8, .int .i64 (i1 : Int))]) (L' := L) ⟨rfl, rfl, rfl, rfl, trivial⟩ rfl ?_
  rcases k1 with _ | k1
  · have hc1 : decide ((i1 : Int) < (a0.length : Int)) = false := decide_eq_false (by omega)
    replace H := rangeM_end H
    refine Cd.seq ?_
    refine Cd.region ?_
    refine Lst.run rfl rfl (by decide) (Ev.lss rfl rfl) ?_
    refine Lst.nil ?_
    refine At.then ?_
    refine Cd.seq ?_
    refine Cd.condF rfl hc1 ?_
    refine Cd.exit ?_
    refine At.then_exit ?_
    refine At.then_exit ?_
    refine At.in_exit ?_
    subst H
    replace H := HKl1
    refine At.then ?_
    refine Cd.seq ?_
    refine Cd.region ?_
    refine Lst.run rfl rfl (by decide) (Ev.assign rfl) ?_
    refine Lst.nil ?_
    refine At.then ?_
    obtain rfl := some_inj H
    refine Cd.ret ?_
    exact At.ret1 rfl (Res.tmp rfl) hF3 (List.Sublist.refl _) ⟨rfl, rfl⟩
  have hc1 : decide ((i1 : Int) < (a0.length : Int)) = true := decide_eq_true (by omega)
  obtain ⟨c1, H, hgo1, hbrk1, hret1⟩ := rangeM_go H
  unfold slices_Index_uint16_uint16_B0 at H
  try dsimp only at H
  refine Cd.seq ?_
  refine Cd.region ?_
  refine Lst.run rfl rfl (by decide) (Ev.lss rfl rfl) ?_
  refine Lst.nil ?_
  refine At.then ?_
  refine Cd.seq ?_
  refine Cd.condT rfl hc1 ?_
  refine Cd.skip ?_
  refine At.then ?_
  refine Cd.seq ?_
  refine Cd.block ?_
  refine Cd.seq ?_
  refine Cd.region ?_
  refine Lst.run rfl rfl (by decide) (Ev.move rfl) ?_
  refine Lst.run rfl rfl (by decide) (Ev.assign rfl) ?_
  refine Lst.nil ?_
  refine At.then ?_
  refine Cd.seq ?_
  refine Cd.region ?_
  refine Lst.run rfl rfl (by decide) (Ev.move rfl) ?_
  refine Lst.run rfl rfl (by decide) (Ev.move rfl) ?_
  refine Lst.run rfl rfl (by decide) (Ev.move rfl) ?_
  obtain ⟨x4, h5, H⟩ := bind_some H
  have g6 := lat_some h5
  refine Lst.run rfl rfl (by decide) (Ev.indexS (α := BitVec 16) (xs := a0) rfl rfl Try.runUnderlying22 Try.sizeOf23 rfl (by decide) (hs_a0.mono hF3 hM) g6.1 g6.2.1) ?_
  refine Lst.run rfl rfl (by decide) (Ev.loadS (α := BitVec 16) rfl (hs_a0.mono hF3 hM) Try.isAgg23 (v := .int .u16 x4.toNat) ((Get.elemN (s := 1) (x := x4) rfl g6.2.2 (Get.here _)).off (by omega))) ?_
  refine Lst.run rfl rfl (by decide) (Ev.eql rfl rfl) ?_
  refine Lst.nil ?_
  refine At.then ?_
  rcases Bool.eq_false_or_eq_true ((a1.toNat : Int) == (x4.toNat : Int)) with hb7 | hb7
  · replace H := ite_t hb7 H
    refine Cd.condT rfl hb7 ?_
    refine Cd.seq ?_
    refine Cd.region ?_
    refine Lst.run rfl rfl (by decide) (Ev.move rfl) ?_
    refine Lst.run rfl rfl (by decide) (Ev.assign rfl) ?_
    refine Lst.nil ?_
    refine At.then ?_
    have H := hret1 _ (some_inj H).symm
    subst H
    replace H := HKl1
    obtain rfl := some_inj H
    refine Cd.ret ?_
    refine At.in_ret ?_
    refine At.then_ret ?_
    refine At.then_ret ?_
    refine At.in_ret ?_
    refine At.then_ret ?_
    exact At.ret1 rfl (Res.tmp rfl) hF3 (List.Sublist.refl _) ⟨rfl, rfl⟩
  replace H := ite_f hb7 H
  refine Cd.condF rfl hb7 ?_
  refine Cd.skip ?_
  refine At.in_normal ?_
  refine At.then ?_
  refine Cd.region ?_
  refine Lst.run rfl rfl (by decide) (Ev.incr (by omega) rfl rfl) ?_
  refine Lst.run rfl rfl (by decide) (Ev.move rfl) ?_
  refine Lst.nil ?_
  exact At.meet (i1 + 1, k1, ()) hF3 ⟨rfl, rfl, rfl, rfl, trivial⟩ rfl ⟨⟨hgo1 _ (some_inj H).symm, by omega⟩, Nat.lt_succ_self _⟩
set_option maxRecDepth 20000 in
theorem slices_Contains_uint16_uint16_sim {a0 : List (BitVec 16)} {a1 : BitVec 16} {s_a0 : Sl} {r : Bool} (H : slices_Contains_uint16_uint16 a0 a1 = some r) (w0 : World) (F : Frz) (M L : List Item) (hM : M.Sublist L) (hs_a0 : Rd w0 F M s_a0 a0) : Ok Try.prog w0 60 [Sl.v s_a0, .int .u16 a1.toNat] F (L) (Is (.bool r) (L)) := by
  unfold slices_Contains_uint16_uint16 at H
  refine Ok.enter (m := 2) (n := 9) Try.func60 rfl rfl rfl (by decide) ?_
  refine Cd.env (e' := [(0, Sl.v s_a0), (1, .int .u16 a1.toNat)]) rfl ?_
  refine Cd.seq ?_
  refine Cd.region ?_
  refine Lst.run rfl rfl (by decide) (Ev.assign rfl) ?_
  refine Lst.nil ?_
  refine At.then ?_
  refine Cd.seq ?_
  refine Cd.region ?_
  refine Lst.run rfl rfl (by decide) (Ev.move rfl) ?_
  refine Lst.run rfl rfl (by decide) (Ev.move rfl) ?_
  obtain ⟨r1, h2, H⟩ := bind_some H
  refine Lst.call1 rfl rfl (by decide) (vs := [Sl.v s_a0, .int .u16 a1.toNat]) ⟨rfl, rfl, trivial⟩ Try.call102 (slices_Index_uint16_uint16_sim h2 w0 _ M _ hM (hs_a0.mono (FLe.refl _) (List.Sublist.refl _))) ?_
  refine Lst.run rfl rfl (by decide) (Ev.geq rfl rfl) ?_
  refine Lst.run rfl rfl (by decide) (Ev.assign rfl) ?_
  refine Lst.nil ?_
  refine At.then ?_
  obtain rfl := some_inj H
  refine Cd.ret ?_
  exact At.ret1 rfl (Res.tmp rfl) (FLe.refl _) (List.Sublist.refl _) ⟨rfl, rfl⟩
set_option maxRecDepth 20000 in
theorem quorum_Grid_1_sim {a0 : BitVec 16} {a1 : List (BitVec 16)} {b_a1 : Nat} {s_a1 : Sl} {r : Bool} (H : quorum_Grid_1 a0 a1 = some r) (w0 : World) (F : Frz) (M L : List Item) (hM : M.Sublist L) (hs_a1 : Rd w0 F M s_a1 a1) : Ok Try.prog w0 59 [.int .u16 a0.toNat, .pointer (some ⟨b_a1, 0, none⟩)] F ((.blk b_a1 (enc s_a1) 22) :: L) (Is (.bool r) ((.blk b_a1 (enc s_a1) 22) :: L)) := by
  unfold quorum_Grid_1 at H
  refine Ok.enter (m := 2) (n := 7) Try.func59 rfl rfl rfl (by decide) ?_
  refine Cd.env (e' := [(0, .int .u16 a0.toNat), (1, .pointer (some ⟨b_a1, 0, none⟩))]) rfl ?_
  refine Cd.seq ?_
  refine Cd.region ?_
  refine Lst.run rfl rfl (by decide) (Ev.assign rfl) ?_
  refine Lst.nil ?_
  refine At.then ?_
  refine Cd.seq ?_
  refine Cd.region ?_
  refine Lst.run rfl rfl (by decide) (Ev.load (i := 0) rfl rfl Try.isAgg22 (v := Sl.v s_a1) (Get.here _)) ?_
  refine Lst.run rfl rfl (by decide) (Ev.move rfl) ?_
  obtain ⟨r2, h3, H⟩ := bind_some H
  refine Lst.call1 rfl rfl (by decide) (vs := [Sl.v s_a1, .int .u16 a0.toNat]) ⟨rfl, rfl, trivial⟩ Try.call60 (slices_Contains_uint16_uint16_sim h3 w0 _ M _ (List.Sublist.cons _ hM) (hs_a1.mono (FLe.refl _) (List.Sublist.refl _))) ?_
  refine Lst.run rfl rfl (by decide) (Ev.assign rfl) ?_
  refine Lst.nil ?_
  refine At.then ?_
  obtain rfl := some_inj H
  refine Cd.ret ?_
  exact At.ret1 rfl (Res.tmp rfl) (FLe.refl _) (List.Sublist.cons_cons _ (List.Sublist.refl _)) ⟨rfl, rfl⟩
set_option maxRecDepth 20000 in
theorem quorum_minimal_Grid_1_sim {fu : Nat} {a0 : Int} {a1_c0 : List (BitVec 16)} {b_a1_c0 : Nat} {s_a1_c0 : Sl} {r : (List (BitVec 16))} (H : quorum_minimal_Grid_1 fu a0 a1_c0 = some r) (w0 : World) (F : Frz) (M L : List Item) (hM : M.Sublist L) (hs_a1_c0 : Rd w0 F M s_a1_c0 a1_c0) : Ok Try.prog w0 49 [.int .i64 a0, .func (.func 59) #[] #[.pointer (some ⟨b_a1_c0, 0, none⟩)]] F ((.blk b_a1_c0 (enc s_a1_c0) 22) :: L) (fun _ L' v => ∃ (s2 : Sl), v = Sl.v s2 ∧ L' = (.own s2 23 1 (encs r)) :: (.blk b_a1_c0 (enc s_a1_c0) 22) :: L) := by
  unfold quorum_minimal_Grid_1 at H
  refine Ok.enter (m := 2) (n := 41) Try.func49 rfl rfl rfl (by decide) ?_
  refine Cd.env (e' := [(0, .int .i64 a0), (1, .func (.func 59) #[] #[.pointer (some ⟨b_a1_c0, 0, none⟩)])]) rfl ?_
  refine Cd.seq ?_
  refine Cd.region ?_
  refine Lst.addNil 23 1 ?_
  refine Lst.run rfl rfl (by decide) (Ev.assign rfl) ?_
  refine Lst.nil ?_
  refine At.then ?_
  refine Cd.seq ?_
  refine Cd.region ?_
  refine Lst.addNil 23 1 ?_
  refine Lst.run rfl rfl (by decide) (Ev.assign rfl) ?_
  refine Lst.nil ?_
  refine At.then ?_
  refine Cd.seq ?_
  refine Cd.seq ?_
  refine Cd.region ?_
  refine Lst.run rfl rfl (by decide) (Ev.move rfl) ?_
  obtain ⟨n4, h5, H⟩ := bind_some H
  refine Lst.run rfl rfl (by decide) (Ev.shlU16 (i := (1 : BitVec 16)) (m := n4) rfl (congrArg some (congrArg (Value.int .i64) (cnt_some h5)))) ?_
  refine Lst.run rfl rfl (by decide) (Ev.move rfl) ?_
  refine Lst.nil ?_
  refine At.then ?_
  refine Cd.block ?_
  obtain ⟨ol7, H, HKl7⟩ := andThen_some H
  refine Cd.loop (σ := Nat × (BitVec 16) × Sl × (List (BitVec 16))) (fun (k7, y8, s9, l10) => [(1, .func (.func 59) #[] #[.pointer (some ⟨b_a1_c0, 0, none⟩)]), (5, Sl.v s9), (11, .int .u16 ((1 : BitVec 16) <<< n4).toNat), (12, .int .u16 y8.toNat)]) (fun (k7, y8, s9, l10) => (.own s9 23 1 (encs l10)) :: (.own Sl.nil 23 1 (encs ([] : List (BitVec 16)))) :: (.blk b_a1_c0 (enc s_a1_c0) 22) :: L) (fun _ => (fun (k7, y8, s9, l10) => whileM (quorum_minimal_Grid_1_B0 a1_c0 n4) k7 (y8, l10) = some ol7)) (fun (k7, y8, s9, l10) => k7) (fu, (0 : BitVec 16), Sl.nil, ([] : List (BitVec 16))) ⟨rfl, rfl, rfl, rfl, trivial⟩ rfl H ?_
  rintro F11 ⟨k7, y8, s9, l10⟩ hF12 H
  refine Cd.as (e' := [(1, .func (.func 59) #[] #[.pointer (some ⟨b_a1_c0, 0, none⟩)]), (5, Sl.v s9), (11, .int .u16 ((1 : BitVec 16) <<< n4).toNat), (12, .int .u16 y8.toNat)]) (L' := (.own s9 23 1 (encs l10)) :: (.own Sl.nil 23 1 (encs ([] : List (BitVec 16)))) :: (.blk b_a1_c0 (enc s_a1_c0) 22) :: L) ⟨rfl, rfl, rfl, rfl, trivial⟩ rfl ?_
  rcases k7 with _ | k7
  · cases H
  obtain ⟨c7, H, hgo7, hbrk7, hret7⟩ := whileM_go H
  unfold quorum_minimal_Grid_1_B0 at H
  try dsimp only at H
  refine Cd.seq ?_
  refine Cd.region ?_
  refine Lst.run rfl rfl (by decide) (Ev.lss rfl rfl) ?_
  refine Lst.nil ?_
  refine At.then ?_
  refine Cd.seq ?_
  rcases (Bool.eq_false_or_eq_true (decide ((y8.toNat : Int) < (((1 : BitVec 16) <<< n4).toNat : Int)))).symm with hb13 | hb13
  · replace H := ite_f hb13 H
    refine Cd.condF rfl hb13 ?_
    refine Cd.exit ?_
    refine At.then_exit ?_
    refine At.then_exit ?_
    refine At.in_exit ?_
    have H := hbrk7 _ (some_inj H).symm
    subst H
    replace H := HKl7
    refine At.then ?_
    refine Cd.seq ?_
    refine Cd.region ?_
    refine Lst.run rfl rfl (by decide) (Ev.move rfl) ?_
    obtain ⟨r14, h15, H⟩ := bind_some H
    refine Lst.call rfl rfl (by decide) (vs := [Sl.v s9, .func (.func 53) #[] #[]]) ⟨rfl, rfl, trivial⟩ Try.call94 (slices_SortFunc_uint16_uint16_quorum_compare_sim h15 w0 _ M _ (List.Sublist.cons _ (List.Sublist.cons _ hM))) (fun F16 L' v hF17 hv => ?_)
    obtain ⟨rfl, rfl⟩ := hv
    refine Lst.nil ?_
    refine At.then ?_
    refine Cd.seq ?_
    refine Cd.region ?_
    refine Lst.addNil 23 1 ?_
    refine Lst.run rfl rfl (by decide) (Ev.assign rfl) ?_
    refine Lst.nil ?_
    refine At.then ?_
    refine Cd.seq ?_
    refine Cd.seq ?_
    refine Cd.region ?_
    refine Lst.run rfl rfl (by decide) (Ev.move rfl) ?_
    refine Lst.run rfl rfl (by decide) (Ev.lenS (α := BitVec 16) (xs := r14) (by decide) rfl rfl Try.runUnderlying22 (Rd.own (i := 1) rfl rfl rfl)) ?_
    refine Lst.run rfl rfl (by decide) (Ev.move rfl) ?_
    refine Lst.nil ?_
    refine At.then ?_
    refine Cd.block ?_
    refine Cd.bound (Rd.le (α := BitVec 16) (xs := r14) (by decide) (Rd.own (i := 1) rfl rfl rfl)) (fun hN37 => ?_)
    obtain ⟨ol19, H, HKl19⟩ := bind_some H
    refine Cd.loop (σ := Nat × Nat × Sl × (List (BitVec 16))) (fun (i19, k19, s20, l21) => [(7, Sl.v s20), (25, Sl.v s9), (26, .int .i64 (r14.length : Int)), (27, .int .i64 (i19 : Int))]) (fun (i19, k19, s20, l21) => (.own s20 23 1 (encs l21)) :: (.own s9 23 1 (encs r14)) :: (.own Sl.nil 23 1 (encs ([] : List (BitVec 16)))) :: (.blk b_a1_c0 (enc s_a1_c0) 22) :: L) (fun _ => (fun (i19, k19, s20, l21) => rangeF (quorum_minimal_Grid_1_B2 r14) k19 i19 l21 = some ol19 ∧ i19 + k19 = r14.length)) (fun (i19, k19, s20, l21) => k19) (0, r14.length, Sl.nil, ([] : List (BitVec 16))) ⟨rfl, rfl, rfl, rfl, trivial⟩ rfl ⟨H, by omega⟩ ?_
    rintro F22 ⟨i19, k19, s20, l21⟩ hF23 ⟨H, hik19⟩
    refine Cd.as (e' := [(7, Sl.v s20), (25, Sl.v s9), (26, .int .i64 (r14.length : Int)), (27, .int .i64 (i19 : Int))]) (L' := (.own s20 23 1 (encs l21)) :: (.own s9 23 1 (encs r14)) :: (.own Sl.nil 23 1 (encs ([] : List (BitVec 16)))) :: (.blk b_a1_c0 (enc s_a1_c0) 22) :: L) ⟨rfl, rfl, rfl, rfl, trivial⟩ rfl ?_
    rcases k19 with _ | k19
    · have hc19 : decide ((i19 : Int) < (r14.length : Int)) = false := decide_eq_false (by omega)
      replace H := rangeF_end H
      refine Cd.seq ?_
      refine Cd.region ?_
      refine Lst.run rfl rfl (by decide) (Ev.lss rfl rfl) ?_
      refine Lst.nil ?_
      refine At.then ?_
      refine Cd.seq ?_
      refine Cd.condF rfl hc19 ?_
      refine Cd.exit ?_
      refine At.then_exit ?_
      refine At.then_exit ?_
      refine At.in_exit ?_
      subst H
      replace H := HKl19
      refine At.then ?_
      refine Cd.seq ?_
      refine Cd.region ?_
      refine Lst.run rfl rfl (by decide) (Ev.move rfl) ?_
      refine Lst.run rfl rfl (by decide) (Ev.assign rfl) ?_
      refine Lst.nil ?_
      refine At.then ?_
      obtain rfl := some_inj H
      refine Cd.ret ?_
      exact At.ret1 rfl (Res.tmp rfl) (FLe.trans (FLe.trans hF12 hF17) hF23) (List.Sublist.cons_cons _ (List.Sublist.cons _ (List.Sublist.cons _ (List.Sublist.cons_cons _ (List.Sublist.refl _))))) ⟨s20, rfl, rfl⟩
    have hc19 : decide ((i19 : Int) < (r14.length : Int)) = true := decide_eq_true (by omega)
    obtain ⟨c19, H, hgo19⟩ := rangeF_go H
    unfold quorum_minimal_Grid_1_B2 at H
    try dsimp only at H
    refine Cd.seq ?_
    refine Cd.region ?_
    refine Lst.run rfl rfl (by decide) (Ev.lss rfl rfl) ?_
    refine Lst.nil ?_
    refine At.then ?_
    refine Cd.seq ?_
    refine Cd.condT rfl hc19 ?_
    refine Cd.skip ?_
    refine At.then ?_
    refine Cd.seq ?_
    refine Cd.block ?_
    refine Cd.seq ?_
    refine Cd.region ?_
    obtain ⟨x24, h25, H⟩ := bind_some H
    have g26 := lat_some h25
    refine Lst.run rfl rfl (by decide) (Ev.indexS (α := BitVec 16) (xs := r14) rfl rfl Try.runUnderlying22 Try.sizeOf23 rfl (by decide) (Rd.own (i := 1) rfl rfl rfl) g26.1 g26.2.1) ?_
    refine Lst.run rfl rfl (by decide) (Ev.loadS (α := BitVec 16) rfl (Rd.own (i := 1) rfl rfl rfl) Try.isAgg23 (v := .int .u16 x24.toNat) ((Get.elemN (s := 1) (x := x24) rfl g26.2.2 (Get.here _)).off (by omega))) ?_
    refine Lst.run rfl rfl (by decide) (Ev.assign rfl) ?_
    refine Lst.nil ?_
    refine At.then ?_
    refine Cd.seq ?_
    refine Cd.region ?_
    refine Lst.run rfl rfl (by decide) (Ev.move rfl) ?_
    refine Lst.run rfl rfl (by decide) (Ev.move rfl) ?_
    obtain ⟨r27, h28, H⟩ := bind_some H
    refine Lst.call1 rfl rfl (by decide) (vs := [.int .u16 x24.toNat, Sl.v s20]) ⟨rfl, rfl, trivial⟩ Try.call51 (quorum_contains_sim h28 w0 _ _ _ (List.Sublist.refl _) (Rd.own (i := 0) rfl rfl rfl)) ?_
    refine Lst.run rfl rfl (by decide) (Ev.not rfl) ?_
    refine Lst.nil ?_
    refine At.then ?_
    rcases (Bool.eq_false_or_eq_true (!r27)).symm with hb31 | hb31
    · replace H := ite_f hb31 H
      refine Cd.condF rfl hb31 ?_
      refine Cd.skip ?_
      refine At.in_normal ?_
      refine At.then ?_
      refine Cd.region ?_
      refine Lst.run rfl rfl (by decide) (Ev.incr (by omega) rfl rfl) ?_
      refine Lst.run rfl rfl (by decide) (Ev.move rfl) ?_
      refine Lst.nil ?_
      exact At.meet (i19 + 1, k19, s20, l21) hF23 ⟨rfl, rfl, rfl, rfl, trivial⟩ rfl ⟨⟨hgo19 _ (some_inj H).symm, by omega⟩, Nat.lt_succ_self _⟩
    replace H := ite_t hb31 H
    refine Cd.condT rfl hb31 ?_
    refine Cd.region ?_
    refine Lst.run rfl rfl (by decide) (Ev.move rfl) ?_
    refine Lst.run rfl rfl (by decide) (Ev.move rfl) ?_
    refine Lst.buildSlice (α := BitVec 16) (xs := ([x24] : List (BitVec 16))) (pv := [(0, .int .u16 x24.toNat)]) rfl rfl (by decide) ⟨rfl, rfl, trivial⟩ (run_buildSlice (α := BitVec 16) (z0 := (0 : BitVec 16)) (xs := ([x24] : List (BitVec 16))) Try.runUnderlying22 Try.sizeOf23 Try.zeroValue23 rfl rfl rfl (by decide) rfl (fill_cons (cs := encs (List.replicate 1 (0 : BitVec 16))) (cs' := encs ((List.replicate 1 (0 : BitVec 16)).set 0 x24)) (vs := [.int .u16 x24.toNat]) rfl rfl rfl ((Put.elemN (s := 1) (i := 0) (x := (0 : BitVec 16)) (y := x24) rfl rfl (Put.here (vs := [.int .u16 x24.toNat]) rfl)).off rfl) fill_nil)) rfl rfl (by decide) (fun s32 _ => ?_)
    obtain ⟨u34, h35, H⟩ := bind_some H
    refine Lst.append (i := 1) (α := BitVec 16) (xs := l21) (ys := ([x24] : List (BitVec 16))) rfl rfl (by decide) rfl rfl Try.runUnderlying22 Try.typeInfo23 rfl rfl rfl rfl rfl rfl (Rd.own (i := 0) rfl rfl rfl) rfl (room_some h35) rfl (fun s36 => ?_)
    refine Lst.its (L' := (.own s32 23 1 (encs ([x24] : List (BitVec 16)))) :: (.own s36 23 1 (encs (l21 ++ ([x24] : List (BitVec 16))))) :: (.own s9 23 1 (encs r14)) :: (.own Sl.nil 23 1 (encs ([] : List (BitVec 16)))) :: (.blk b_a1_c0 (enc s_a1_c0) 22) :: L) rfl ?_
    refine Lst.run rfl rfl (by decide) (Ev.assign rfl) ?_
    refine Lst.nil ?_
    refine At.in_normal ?_
    refine At.then ?_
    refine Cd.region ?_
    refine Lst.run rfl rfl (by decide) (Ev.incr (by omega) rfl rfl) ?_
    refine Lst.run rfl rfl (by decide) (Ev.move rfl) ?_
    refine Lst.nil ?_
    refine At.less (L' := (.own s36 23 1 (encs (l21 ++ ([x24] : List (BitVec 16))))) :: (.own s9 23 1 (encs r14)) :: (.own Sl.nil 23 1 (encs ([] : List (BitVec 16)))) :: (.blk b_a1_c0 (enc s_a1_c0) 22) :: L) (List.Sublist.cons _ (List.Sublist.cons_cons _ (List.Sublist.cons_cons _ (List.Sublist.cons_cons _ (List.Sublist.cons_cons _ (List.Sublist.refl _)))))) ?_
    exact At.meet (i19 + 1, k19, s36, l21 ++ ([x24] : List (BitVec 16))) hF23 ⟨rfl, rfl, rfl, rfl, trivial⟩ rfl ⟨⟨hgo19 _ (some_inj H).symm, by omega⟩, Nat.lt_succ_self _⟩
  replace H := ite_t hb13 H
  refine Cd.condT rfl hb13 ?_
  refine Cd.skip ?_
  refine At.then ?_
  refine Cd.seq ?_
  refine Cd.block ?_
  refine Cd.seq ?_
  refine Cd.region ?_
  refine Lst.run rfl rfl (by decide) (Ev.move rfl) ?_
  refine Lst.run rfl rfl (by decide) (Ev.assign rfl) ?_
  refine Lst.nil ?_
  refine At.then ?_
  refine Cd.seq ?_
  refine Cd.region ?_
  refine Lst.run rfl rfl (by decide) (Ev.move rfl) ?_
  refine Lst.run rfl rfl (by decide) (Ev.move rfl) ?_
  obtain ⟨r38, h39, H⟩ := bind_some H
  refine Lst.front (i := 2) rfl (L' := (.blk b_a1_c0 (enc s_a1_c0) 22) :: (.own s9 23 1 (encs l10)) :: (.own Sl.nil 23 1 (encs ([] : List (BitVec 16)))) :: L) rfl ?_
  refine Lst.callV1 rfl rfl (by decide) (vs := [.int .u16 y8.toNat]) (cs := [.pointer (some ⟨b_a1_c0, 0, none⟩)]) rfl ⟨rfl, trivial⟩ Try.call59 (quorum_Grid_1_sim h39 w0 _ M _ (List.Sublist.cons _ (List.Sublist.cons _ hM)) (hs_a1_c0.mono hF12 (List.Sublist.refl _))) ?_
  refine Lst.nil ?_
  refine At.then ?_
  rcases (Bool.eq_false_or_eq_true r38).symm with hb42 | hb42
  · replace H := ite_f hb42 H
    refine Cd.condF rfl hb42 ?_
    refine Cd.skip ?_
    refine At.in_normal ?_
    refine At.then ?_
    refine Cd.region ?_
    refine Lst.run rfl rfl (by decide) (Ev.addU16 (i := y8) (j := (1 : BitVec 16)) rfl rfl) ?_
    refine Lst.run rfl rfl (by decide) (Ev.move rfl) ?_
    refine Lst.nil ?_
    refine At.front (i := 2) rfl rfl ?_
    refine At.front (i := 2) rfl rfl ?_
    exact At.meet (k7, y8 + (1 : BitVec 16), s9, l10) hF12 ⟨rfl, rfl, rfl, rfl, trivial⟩ rfl ⟨hgo7 _ (some_inj H).symm, Nat.lt_succ_self _⟩
  replace H := ite_t hb42 H
  refine Cd.condT rfl hb42 ?_
  refine Cd.region ?_
  refine Lst.run rfl rfl (by decide) (Ev.move rfl) ?_
  refine Lst.run rfl rfl (by decide) (Ev.move rfl) ?_
  refine Lst.buildSlice (α := BitVec 16) (xs := ([y8] : List (BitVec 16))) (pv := [(0, .int .u16 y8.toNat)]) rfl rfl (by decide) ⟨rfl, rfl, trivial⟩ (run_buildSlice (α := BitVec 16) (z0 := (0 : BitVec 16)) (xs := ([y8] : List (BitVec 16))) Try.runUnderlying22 Try.sizeOf23 Try.zeroValue23 rfl rfl rfl (by decide) rfl (fill_cons (cs := encs (List.replicate 1 (0 : BitVec 16))) (cs' := encs ((List.replicate 1 (0 : BitVec 16)).set 0 y8)) (vs := [.int .u16 y8.toNat]) rfl rfl rfl ((Put.elemN (s := 1) (i := 0) (x := (0 : BitVec 16)) (y := y8) rfl rfl (Put.here (vs := [.int .u16 y8.toNat]) rfl)).off rfl) fill_nil)) rfl rfl (by decide) (fun s43 _ => ?_)
  obtain ⟨u45, h46, H⟩ := bind_some H
  refine Lst.append (i := 2) (α := BitVec 16) (xs := l10) (ys := ([y8] : List (BitVec 16))) rfl rfl (by decide) rfl rfl Try.runUnderlying22 Try.typeInfo23 rfl rfl rfl rfl rfl rfl (Rd.own (i := 0) rfl rfl rfl) rfl (room_some h46) rfl (fun s47 => ?_)
  refine Lst.its (L' := (.own s43 23 1 (encs ([y8] : List (BitVec 16)))) :: (.blk b_a1_c0 (enc s_a1_c0) 22) :: (.own s47 23 1 (encs (l10 ++ ([y8] : List (BitVec 16))))) :: (.own Sl.nil 23 1 (encs ([] : List (BitVec 16)))) :: L) rfl ?_
  refine Lst.run rfl rfl (by decide) (Ev.assign rfl) ?_
  refine Lst.nil ?_
  refine At.in_normal ?_
  refine At.then ?_
  refine Cd.region ?_
  refine Lst.run rfl rfl (by decide) (Ev.addU16 (i := y8) (j := (1 : BitVec 16)) rfl rfl) ?_
  refine Lst.run rfl rfl (by decide) (Ev.move rfl) ?_
  refine Lst.nil ?_
  refine At.front (i := 1) rfl rfl ?_
  refine At.front (i := 3) rfl rfl ?_
  refine At.front (i := 3) rfl rfl ?_
  refine At.less (L' := (.own s47 23 1 (encs (l10 ++ ([y8] : List (BitVec 16))))) :: (.own Sl.nil 23 1 (encs ([] : List (BitVec 16)))) :: (.blk b_a1_c0 (enc s_a1_c0) 22) :: L) (List.Sublist.cons_cons _ (List.Sublist.cons_cons _ (List.Sublist.cons_cons _ (List.Sublist.cons _ (List.Sublist.refl _))))) ?_
  exact At.meet (k7, y8 + (1 : BitVec 16), s47, l10 ++ ([y8] : List (BitVec 16))) hF12 ⟨rfl, rfl, rfl, rfl, trivial⟩ rfl ⟨hgo7 _ (some_inj H).symm, Nat.lt_succ_self _⟩
set_option maxRecDepth 20000 in
theorem quorum_Grid_sim {fu : Nat} {a0 : Int} {a1 : Int} {r : (List (BitVec 16)) × Int} (H : quorum_Grid fu a0 a1 = some r) (w0 : World) (F : Frz) (M L : List Item) (hM : M.Sublist L) : Ok Try.prog w0 18 [.int .i64 a0, .int .i64 a1] F (L) (fun _ L' v => ∃ (s1 : Sl), v = .tuple #[Sl.v s1, .int .i64 r.2] ∧ L' = (.own s1 23 1 (encs r.1)) :: L) := by
  unfold quorum_Grid at H
  refine Ok.enter (m := 2) (n := 67) Try.func18 rfl rfl rfl (by decide) ?_
  refine Cd.env (e' := [(0, .int .i64 a0), (1, .int .i64 a1)]) rfl ?_
  refine Cd.seq ?_
  refine Cd.region ?_
  refine Lst.addNil 23 1 ?_
  refine Lst.run rfl rfl (by decide) (Ev.assign rfl) ?_
  refine Lst.run rfl rfl (by decide) (Ev.assign rfl) ?_
  refine Lst.nil ?_
  refine At.then ?_
  refine Cd.seq ?_
  refine Cd.seq ?_
  refine Cd.region ?_
  refine Lst.run rfl rfl (by decide) (Ev.move rfl) ?_
  obtain ⟨r2, h3, H⟩ := bind_some H
  refine Lst.call1 rfl rfl (by decide) (vs := [.int .i64 a0, .int .i64 (1 : Int), .int .i64 (10 : Int)]) ⟨rfl, rfl, rfl, trivial⟩ Try.call52 (quorum_in_sim h3 w0 _ M _ (List.Sublist.cons _ hM)) ?_
  refine Lst.run rfl rfl (by decide) (Ev.not rfl) ?_
  refine Lst.run rfl rfl (by decide) (Ev.move rfl) ?_
  obtain ⟨o6, H, HKo6⟩ := bind_some H
  refine Lst.join (σ := Bool) 4 (fun y7 => [(0, .int .i64 a0), (1, .int .i64 a1), (18, .bool y7)]) (fun y7 => (.own Sl.nil 23 1 (encs ([] : List (BitVec 16)))) :: L) (fun _ y7 => y7 = o6) ?_ ?_
  · rcases Bool.eq_false_or_eq_true (!r2) with hb8 | hb8
    · replace H := ite_t hb8 H
      refine Lst.skip rfl rfl rfl hb8 rfl (by decide) ?_
      refine Lst.skip rfl rfl rfl hb8 rfl (by decide) ?_
      refine Lst.skip rfl rfl rfl hb8 rfl (by decide) ?_
      refine Lst.run rfl rfl (by decide) (Ev.pickT rfl hb8 rfl) ?_
      refine Lst.nil ?_
      exact At.meet true (FLe.refl _) ⟨rfl, rfl, rfl, trivial⟩ rfl (some_inj H)
    replace H := ite_f hb8 H
    refine Lst.runG rfl rfl rfl hb8 rfl (by decide) (Ev.move rfl) ?_
    obtain ⟨r9, h10, H⟩ := bind_some H
    refine Lst.call1G rfl rfl rfl hb8 rfl (by decide) (vs := [.int .i64 a1, .int .i64 (1 : Int), .int .i64 (10 : Int)]) ⟨rfl, rfl, rfl, trivial⟩ Try.call52 (quorum_in_sim h10 w0 _ M _ (List.Sublist.cons _ hM)) ?_
    refine Lst.runG rfl rfl rfl hb8 rfl (by decide) (Ev.not rfl) ?_
    refine Lst.run rfl rfl (by decide) (Ev.pickF rfl hb8 rfl) ?_
    refine Lst.nil ?_
    exact At.meet (!r9) (FLe.refl _) ⟨rfl, rfl, rfl, trivial⟩ rfl (some_inj H)
  rintro F13 y7 hF14 hy
  subst hy
  refine Lst.as (e' := [(0, .int .i64 a0), (1, .int .i64 a1), (18, .bool y7)]) (L' := (.own Sl.nil 23 1 (encs ([] : List (BitVec 16)))) :: L) ⟨rfl, rfl, rfl, trivial⟩ rfl ?_
  replace H := HKo6
  refine Lst.run rfl rfl (by decide) (Ev.move rfl) ?_
  obtain ⟨o15, H, HKo15⟩ := bind_some H
  refine Lst.join (σ := Bool) 5 (fun y16 => [(0, .int .i64 a0), (1, .int .i64 a1), (24, .bool y16)]) (fun y16 => (.own Sl.nil 23 1 (encs ([] : List (BitVec 16)))) :: L) (fun _ y16 => y16 = o15) ?_ ?_
  · rcases Bool.eq_false_or_eq_true y7 with hb17 | hb17
    · replace H := ite_t hb17 H
      refine Lst.skip rfl rfl rfl hb17 rfl (by decide) ?_
      refine Lst.skip rfl rfl rfl hb17 rfl (by decide) ?_
      refine Lst.skip rfl rfl rfl hb17 rfl (by decide) ?_
      refine Lst.skip rfl rfl rfl hb17 rfl (by decide) ?_
      refine Lst.run rfl rfl (by decide) (Ev.pickT rfl hb17 rfl) ?_
      refine Lst.nil ?_
      exact At.meet true (FLe.refl _) ⟨rfl, rfl, rfl, trivial⟩ rfl (some_inj H)
    replace H := ite_f hb17 H
    refine Lst.runG rfl rfl rfl hb17 rfl (by decide) (Ev.move rfl) ?_
    refine Lst.runG rfl rfl rfl hb17 rfl (by decide) (Ev.move rfl) ?_
    refine Lst.runG rfl rfl rfl hb17 rfl (by decide) (Ev.mul rfl rfl) ?_
    refine Lst.runG rfl rfl rfl hb17 rfl (by decide) (Ev.gtr rfl rfl) ?_
    refine Lst.run rfl rfl (by decide) (Ev.pickF rfl hb17 rfl) ?_
    refine Lst.nil ?_
    exact At.meet (decide ((w64 (a0 * a1)) > (10 : Int))) (FLe.refl _) ⟨rfl, rfl, rfl, trivial⟩ rfl (some_inj H)
  rintro F18 y16 hF19 hy
  subst hy
  refine Lst.as (e' := [(0, .int .i64 a0), (1, .int .i64 a1), (24, .bool y16)]) (L' := (.own Sl.nil 23 1 (encs ([] : List (BitVec 16)))) :: L) ⟨rfl, rfl, rfl, trivial⟩ rfl ?_
  replace H := HKo15
  refine Lst.nil ?_
  refine At.then ?_
  rcases Bool.eq_false_or_eq_true y16 with hb20 | hb20
  · replace H := ite_t hb20 H
    refine Cd.condT rfl hb20 ?_
    refine Cd.seq ?_
    refine Cd.region ?_
    refine Lst.addNil 23 1 ?_
    refine Lst.run rfl rfl (by decide) (Ev.assign rfl) ?_
    refine Lst.run rfl rfl (by decide) (Ev.assign rfl) ?_
    refine Lst.nil ?_
    refine At.then ?_
    obtain rfl := some_inj H
    refine Cd.ret ?_
    refine At.then_ret ?_
    exact At.ret2 rfl (Res.tmp rfl) (Res.tmp rfl) (FLe.trans hF14 hF19) (List.Sublist.cons_cons _ (List.Sublist.cons _ (List.Sublist.refl _))) ⟨Sl.nil, rfl, rfl⟩
  replace H := ite_f hb20 H
  refine Cd.condF rfl hb20 ?_
  refine Cd.skip ?_
  refine At.then ?_
  refine Cd.seq ?_
  refine Cd.region ?_
  refine Lst.addNil 23 1 ?_
  refine Lst.alloc (cs := enc Sl.nil) rfl rfl (by decide) Try.zeroValue22 rfl (fun b23 => ?_)
  refine Lst.nil ?_
  refine At.then ?_
  refine Cd.seq ?_
  refine Cd.seq ?_
  refine Cd.region ?_
  refine Lst.run rfl rfl (by decide) (Ev.move rfl) ?_
  refine Lst.run rfl rfl (by decide) (Ev.move rfl) ?_
  refine Lst.nil ?_
  refine At.then ?_
  refine Cd.block ?_
  obtain ⟨nn30, hN68, H⟩ := bind_some H
  replace hN68 := upTo_some hN68
  obtain ⟨ol25, H, HKl25⟩ := bind_some H
  refine Cd.loop (σ := Nat × Nat × Sl × (List (BitVec 16))) (fun (i25, k25, s26, l27) => [(0, .int .i64 a0), (1, .int .i64 a1), (6, .pointer (some ⟨b23, 0, none⟩)), (25, .int .i64 a0), (26, .int .i64 (i25 : Int))]) (fun (i25, k25, s26, l27) => (.blk b23 (enc s26) 22) :: (.own s26 23 1 (encs l27)) :: (.own Sl.nil 23 1 (encs ([] : List (BitVec 16)))) :: L) (fun _ => (fun (i25, k25, s26, l27) => rangeF (quorum_Grid_B0 a0 a1) k25 i25 l27 = some ol25 ∧ i25 + k25 = nn30)) (fun (i25, k25, s26, l27) => k25) (0, nn30, Sl.nil, ([] : List (BitVec 16))) ⟨rfl, rfl, rfl, rfl, rfl, trivial⟩ rfl ⟨H, by omega⟩ ?_
  rintro F28 ⟨i25, k25, s26, l27⟩ hF29 ⟨H, hik25⟩
  refine Cd.as (e' := [(0, .int .i64 a0), (1, .int .i64 a1), (6, .pointer (some ⟨b23, 0, none⟩)), (25, .int .i64 a0), (26, .int .i64 (i25 : Int))]) (L' := (.blk b23 (enc s26) 22) :: (.own s26 23 1 (encs l27)) :: (.own Sl.nil 23 1 (encs ([] : List (BitVec 16)))) :: L) ⟨rfl, rfl, rfl, rfl, rfl, trivial⟩ rfl ?_
  rcases k25 with _ | k25
  · have hc25 : decide ((i25 : Int) < a0) = false := decide_eq_false (by omega)
    replace H := rangeF_end H
    refine Cd.seq ?_
    refine Cd.region ?_
    refine Lst.run rfl rfl (by decide) (Ev.lss rfl rfl) ?_
    refine Lst.nil ?_
    refine At.then ?_
    refine Cd.seq ?_
    refine Cd.condF rfl hc25 ?_
    refine Cd.exit ?_
    refine At.then_exit ?_
    refine At.then_exit ?_
    refine At.in_exit ?_
    subst H
    replace H := HKl25
    refine At.then ?_
    refine Cd.seq ?_
    refine Cd.region ?_
    refine Lst.run rfl rfl (by decide) (Ev.move rfl) ?_
    refine Lst.run rfl rfl (by decide) (Ev.move rfl) ?_
    refine Lst.run rfl rfl (by decide) (Ev.mul rfl rfl) ?_
    refine Lst.run rfl rfl (by decide) (Ev.makeFunc (us := []) (vs := [.pointer (some ⟨b23, 0, none⟩)]) trivial ⟨rfl, trivial⟩) ?_
    obtain ⟨r62, h63, H⟩ := bind_some H
    refine Lst.call rfl rfl (by decide) (vs := [.int .i64 (w64 (a0 * a1)), .func (.func 59) #[] #[.pointer (some ⟨b23, 0, none⟩)]]) ⟨rfl, rfl, trivial⟩ Try.call49 (quorum_minimal_Grid_1_sim h63 w0 _ _ _ (List.Sublist.refl _) (Rd.own (i := 0) rfl rfl rfl)) (fun F66 L' v hF67 hv => ?_)
    obtain ⟨s64, rfl, rfl⟩ := hv
    refine Lst.run rfl rfl (by decide) (Ev.assign rfl) ?_
    refine Lst.run rfl rfl (by decide) (Ev.assign rfl) ?_
    refine Lst.nil ?_
    refine At.then ?_
    obtain rfl := some_inj H
    refine Cd.ret ?_
    exact At.ret2 rfl (Res.tmp rfl) (Res.tmp rfl) (FLe.trans (FLe.trans (FLe.trans hF14 hF19) hF29) hF67) (List.Sublist.cons_cons _ (List.Sublist.cons _ (List.Sublist.cons _ (List.Sublist.cons _ (List.Sublist.refl _))))) ⟨s64, rfl, rfl⟩
  have hc25 : decide ((i25 : Int) < a0) = true := decide_eq_true (by omega)
  obtain ⟨c25, H, hgo25⟩ := rangeF_go H
  unfold quorum_Grid_B0 at H
  try dsimp only at H
  refine Cd.seq ?_
  refine Cd.region ?_
  refine Lst.run rfl rfl (by decide) (Ev.lss rfl rfl) ?_
  refine Lst.nil ?_
  refine At.then ?_
  refine Cd.seq ?_
  refine Cd.condT rfl hc25 ?_
  refine Cd.skip ?_
  refine At.then ?_
  refine Cd.seq ?_
  refine Cd.block ?_
  refine Cd.seq ?_
  refine Cd.region ?_
  refine Lst.run rfl rfl (by decide) (Ev.move rfl) ?_
  refine Lst.run rfl rfl (by decide) (Ev.assign rfl) ?_
  refine Lst.nil ?_
  refine At.then ?_
  refine Cd.seq ?_
  refine Cd.region ?_
  refine Lst.run rfl rfl (by decide) (Ev.move rfl) ?_
  refine Lst.run rfl rfl (by decide) (Ev.move rfl) ?_
  refine Lst.nil ?_
  refine At.then ?_
  refine Cd.block ?_
  obtain ⟨nn36, hN61, H⟩ := bind_some H
  replace hN61 := upTo_some hN61
  obtain ⟨ol31, H, HKl31⟩ := bind_some H
  refine Cd.loop (σ := Nat × Nat × Sl × (List (BitVec 16))) (fun (i31, k31, s32, l33) => [(0, .int .i64 a0), (1, .int .i64 a1), (6, .pointer (some ⟨b23, 0, none⟩)), (7, .int .i64 (i25 : Int)), (25, .int .i64 a0), (26, .int .i64 (i25 : Int)), (29, .int .i64 a1), (30, .int .i64 (i31 : Int))]) (fun (i31, k31, s32, l33) => (.blk b23 (enc s32) 22) :: (.own s32 23 1 (encs l33)) :: (.own Sl.nil 23 1 (encs ([] : List (BitVec 16)))) :: L) (fun _ => (fun (i31, k31, s32, l33) => rangeF (quorum_Grid_B2 a0 a1 i25) k31 i31 l33 = some ol31 ∧ i31 + k31 = nn36)) (fun (i31, k31, s32, l33) => k31) (0, nn36, s26, l27) ⟨rfl, rfl, rfl, rfl, rfl, rfl, rfl, rfl, trivial⟩ rfl ⟨H, by omega⟩ ?_
  rintro F34 ⟨i31, k31, s32, l33⟩ hF35 ⟨H, hik31⟩
  refine Cd.as (e' := [(0, .int .i64 a0), (1, .int .i64 a1), (6, .pointer (some ⟨b23, 0, none⟩)), (7, .int .i64 (i25 : Int)), (25, .int .i64 a0), (26, .int .i64 (i25 : Int)), (29, .int .i64 a1), (30, .int .i64 (i31 : Int))]) (L' := (.blk b23 (enc s32) 22) :: (.own s32 23 1 (encs l33)) :: (.own Sl.nil 23 1 (encs ([] : List (BitVec 16)))) :: L) ⟨rfl, rfl, rfl, rfl, rfl, rfl, rfl, rfl, trivial⟩ rfl ?_
  rcases k31 with _ | k31
  · have hc31 : decide ((i31 : Int) < a1) = false := decide_eq_false (by omega)
    replace H := rangeF_end H
    refine Cd.seq ?_
    refine Cd.region ?_
    refine Lst.run rfl rfl (by decide) (Ev.lss rfl rfl) ?_
    refine Lst.nil ?_
    refine At.then ?_
    refine Cd.seq ?_
    refine Cd.condF rfl hc31 ?_
    refine Cd.exit ?_
    refine At.then_exit ?_
    refine At.then_exit ?_
    refine At.in_exit ?_
    subst H
    replace H := HKl31
    refine At.in_normal ?_
    refine At.then ?_
    refine Cd.region ?_
    refine Lst.run rfl rfl (by decide) (Ev.incr (by omega) rfl rfl) ?_
    refine Lst.run rfl rfl (by decide) (Ev.move rfl) ?_
    refine Lst.nil ?_
    exact At.meet (i25 + 1, k25, s32, l33) (FLe.trans hF29 hF35) ⟨rfl, rfl, rfl, rfl, rfl, trivial⟩ rfl ⟨⟨hgo25 _ (some_inj H).symm, by omega⟩, Nat.lt_succ_self _⟩
  have hc31 : decide ((i31 : Int) < a1) = true := decide_eq_true (by omega)
  obtain ⟨c31, H, hgo31⟩ := rangeF_go H
  unfold quorum_Grid_B2 at H
  try dsimp only at H
  refine Cd.seq ?_
  refine Cd.region ?_
  refine Lst.run rfl rfl (by decide) (Ev.lss rfl rfl) ?_
  refine Lst.nil ?_
  refine At.then ?_
  refine Cd.seq ?_
  refine Cd.condT rfl hc31 ?_
  refine Cd.skip ?_
  refine At.then ?_
  refine Cd.seq ?_
  refine Cd.block ?_
  refine Cd.seq ?_
  refine Cd.region ?_
  refine Lst.run rfl rfl (by decide) (Ev.move rfl) ?_
  refine Lst.run rfl rfl (by decide) (Ev.assign rfl) ?_
  refine Lst.nil ?_
  refine At.then ?_
  refine Cd.seq ?_
  refine Cd.region ?_
  refine Lst.run rfl rfl (by decide) (Ev.assign rfl) ?_
  refine Lst.nil ?_
  refine At.then ?_
  refine Cd.seq ?_
  refine Cd.seq ?_
  refine Cd.region ?_
  refine Lst.run rfl rfl (by decide) (Ev.move rfl) ?_
  refine Lst.run rfl rfl (by decide) (Ev.move rfl) ?_
  refine Lst.run rfl rfl (by decide) (Ev.mul rfl rfl) ?_
  refine Lst.run rfl rfl (by decide) (Ev.move rfl) ?_
  refine Lst.nil ?_
  refine At.then ?_
  refine Cd.block ?_
  obtain ⟨nn41, hN60, H⟩ := bind_some H
  replace hN60 := upTo_some hN60
  obtain ⟨ol37, H, HKl37⟩ := bind_some H
  refine Cd.loop (σ := Nat × Nat × (BitVec 16)) (fun (i37, k37, y38) => [(0, .int .i64 a0), (1, .int .i64 a1), (6, .pointer (some ⟨b23, 0, none⟩)), (7, .int .i64 (i25 : Int)), (8, .int .i64 (i31 : Int)), (9, .int .u16 y38.toNat), (25, .int .i64 a0), (26, .int .i64 (i25 : Int)), (29, .int .i64 a1), (30, .int .i64 (i31 : Int)), (35, .int .i64 (w64 (a0 * a1))), (36, .int .i64 (i37 : Int))]) (fun (i37, k37, y38) => (.blk b23 (enc s32) 22) :: (.own s32 23 1 (encs l33)) :: (.own Sl.nil 23 1 (encs ([] : List (BitVec 16)))) :: L) (fun _ => (fun (i37, k37, y38) => rangeF (quorum_Grid_B4 a1 i25 i31) k37 i37 y38 = some ol37 ∧ i37 + k37 = nn41)) (fun (i37, k37, y38) => k37) (0, nn41, (0 : BitVec 16)) ⟨rfl, rfl, rfl, rfl, rfl, rfl, rfl, rfl, rfl, rfl, rfl, rfl, trivial⟩ rfl ⟨H, by omega⟩ ?_
  rintro F39 ⟨i37, k37, y38⟩ hF40 ⟨H, hik37⟩
  refine Cd.as (e' := [(0, .int .i64 a0), (1, .int .i64 a1), (6, .pointer (some ⟨b23, 0, none⟩)), (7, .int .i64 (i25 : Int)), (8, .int .i64 (i31 : Int)), (9, .int .u16 y38.toNat), (25, .int .i64 a0), (26, .int .i64 (i25 : Int)), (29, .int .i64 a1), (30, .int .i64 (i31 : Int)), (35, .int .i64 (w64 (a0 * a1))), (36, .int .i64 (i37 : Int))]) (L' := (.blk b23 (enc s32) 22) :: (.own s32 23 1 (encs l33)) :: (.own Sl.nil 23 1 (encs ([] : List (BitVec 16)))) :: L) ⟨rfl, rfl, rfl, rfl, rfl, rfl, rfl, rfl, rfl, rfl, rfl, rfl, trivial⟩ rfl ?_
  rcases k37 with _ | k37
  · have hc37 : decide ((i37 : Int) < (w64 (a0 * a1))) = false := decide_eq_false (by omega)
    replace H := rangeF_end H
    refine Cd.seq ?_
    refine Cd.region ?_
    refine Lst.run rfl rfl (by decide) (Ev.lss rfl rfl) ?_
    refine Lst.nil ?_
    refine At.then ?_
    refine Cd.seq ?_
    refine Cd.condF rfl hc37 ?_
    refine Cd.exit ?_
    refine At.then_exit ?_
    refine At.then_exit ?_
    refine At.in_exit ?_
    subst H
    replace H := HKl37
    refine At.then ?_
    refine Cd.region ?_
    refine Lst.run rfl rfl (by decide) (Ev.load (i := 0) rfl rfl Try.isAgg22 (v := Sl.v s32) (Get.here _)) ?_
    refine Lst.run rfl rfl (by decide) (Ev.move rfl) ?_
    refine Lst.buildSlice (α := BitVec 16) (xs := ([y38] : List (BitVec 16))) (pv := [(0, .int .u16 y38.toNat)]) rfl rfl (by decide) ⟨rfl, rfl, trivial⟩ (run_buildSlice (α := BitVec 16) (z0 := (0 : BitVec 16)) (xs := ([y38] : List (BitVec 16))) Try.runUnderlying22 Try.sizeOf23 Try.zeroValue23 rfl rfl rfl (by decide) rfl (fill_cons (cs := encs (List.replicate 1 (0 : BitVec 16))) (cs' := encs ((List.replicate 1 (0 : BitVec 16)).set 0 y38)) (vs := [.int .u16 y38.toNat]) rfl rfl rfl ((Put.elemN (s := 1) (i := 0) (x := (0 : BitVec 16)) (y := y38) rfl rfl (Put.here (vs := [.int .u16 y38.toNat]) rfl)).off rfl) fill_nil)) rfl rfl (by decide) (fun s55 _ => ?_)
    obtain ⟨u57, h58, H⟩ := bind_some H
    refine Lst.append (i := 2) (α := BitVec 16) (xs := l33) (ys := ([y38] : List (BitVec 16))) rfl rfl (by decide) rfl rfl Try.runUnderlying22 Try.typeInfo23 rfl rfl rfl rfl rfl rfl (Rd.own (i := 0) rfl rfl rfl) rfl (room_some h58) rfl (fun s59 => ?_)
    refine Lst.its (L' := (.own s55 23 1 (encs ([y38] : List (BitVec 16)))) :: (.blk b23 (enc s32) 22) :: (.own s59 23 1 (encs (l33 ++ ([y38] : List (BitVec 16))))) :: (.own Sl.nil 23 1 (encs ([] : List (BitVec 16)))) :: L) rfl ?_
    refine Lst.store (i := 1) rfl rfl rfl rfl rfl Try.sizeOf22 (vs := [Sl.v s59]) rfl rfl rfl (cs' := enc s59) (Put.here (vs := [Sl.v s59]) rfl) (L' := (.own s55 23 1 (encs ([y38] : List (BitVec 16)))) :: (.blk b23 (enc s59) 22) :: (.own s59 23 1 (encs (l33 ++ ([y38] : List (BitVec 16))))) :: (.own Sl.nil 23 1 (encs ([] : List (BitVec 16)))) :: L) rfl ?_
    refine Lst.nil ?_
    refine At.in_normal ?_
    refine At.then ?_
    refine Cd.region ?_
    refine Lst.run rfl rfl (by decide) (Ev.incr (by omega) rfl rfl) ?_
    refine Lst.run rfl rfl (by decide) (Ev.move rfl) ?_
    refine Lst.nil ?_
    refine At.less (L' := (.blk b23 (enc s59) 22) :: (.own s59 23 1 (encs (l33 ++ ([y38] : List (BitVec 16))))) :: (.own Sl.nil 23 1 (encs ([] : List (BitVec 16)))) :: L) (List.Sublist.cons _ (List.Sublist.cons_cons _ (List.Sublist.cons_cons _ (List.Sublist.cons_cons _ (List.Sublist.refl _))))) ?_
    exact At.meet (i31 + 1, k31, s59, l33 ++ ([y38] : List (BitVec 16))) (FLe.trans hF35 hF40) ⟨rfl, rfl, rfl, rfl, rfl, rfl, rfl, rfl, trivial⟩ rfl ⟨⟨hgo31 _ (some_inj H).symm, by omega⟩, Nat.lt_succ_self _⟩
  have hc37 : decide ((i37 : Int) < (w64 (a0 * a1))) = true := decide_eq_true (by omega)
  obtain ⟨c37, H, hgo37⟩ := rangeF_go H
  unfold quorum_Grid_B4 at H
  try dsimp only at H
  refine Cd.seq ?_
  refine Cd.region ?_
  refine Lst.run rfl rfl (by decide) (Ev.lss rfl rfl) ?_
  refine Lst.nil ?_
  refine At.then ?_
  refine Cd.seq ?_
  refine Cd.condT rfl hc37 ?_
  refine Cd.skip ?_
  refine At.then ?_
  refine Cd.seq ?_
  refine Cd.block ?_
  refine Cd.seq ?_
  refine Cd.region ?_
  refine Lst.run rfl rfl (by decide) (Ev.move rfl) ?_
  refine Lst.run rfl rfl (by decide) (Ev.assign rfl) ?_
  refine Lst.nil ?_
  refine At.then ?_
  refine Cd.seq ?_
  refine Cd.region ?_
  refine Lst.run rfl rfl (by decide) (Ev.move rfl) ?_
  refine Lst.run rfl rfl (by decide) (Ev.move rfl) ?_
  obtain ⟨u42, h43, H⟩ := bind_some H
  refine Lst.run rfl rfl (by decide) (Ev.quo (i := (i37 : Int)) (j := a1) rfl rfl (nz_some h43)) ?_
  refine Lst.run rfl rfl (by decide) (Ev.move rfl) ?_
  refine Lst.run rfl rfl (by decide) (Ev.eql rfl rfl) ?_
  refine Lst.run rfl rfl (by decide) (Ev.move rfl) ?_
  obtain ⟨o44, H, HKo44⟩ := bind_some H
  refine Lst.join (σ := Bool) 6 (fun y45 => [(0, .int .i64 a0), (1, .int .i64 a1), (6, .pointer (some ⟨b23, 0, none⟩)), (7, .int .i64 (i25 : Int)), (8, .int .i64 (i31 : Int)), (9, .int .u16 y38.toNat), (10, .int .i64 (i37 : Int)), (25, .int .i64 a0), (26, .int .i64 (i25 : Int)), (29, .int .i64 a1), (30, .int .i64 (i31 : Int)), (35, .int .i64 (w64 (a0 * a1))), (36, .int .i64 (i37 : Int)), (50, .bool y45)]) (fun y45 => (.blk b23 (enc s32) 22) :: (.own s32 23 1 (encs l33)) :: (.own Sl.nil 23 1 (encs ([] : List (BitVec 16)))) :: L) (fun _ y45 => y45 = o44) ?_ ?_
  · rcases Bool.eq_false_or_eq_true ((w64 ((i37 : Int).tdiv a1)) == (i25 : Int)) with hb46 | hb46
    · replace H := ite_t hb46 H
      refine Lst.skip rfl rfl rfl hb46 rfl (by decide) ?_
      refine Lst.skip rfl rfl rfl hb46 rfl (by decide) ?_
      refine Lst.skip rfl rfl rfl hb46 rfl (by decide) ?_
      refine Lst.skip rfl rfl rfl hb46 rfl (by decide) ?_
      refine Lst.skip rfl rfl rfl hb46 rfl (by decide) ?_
      refine Lst.run rfl rfl (by decide) (Ev.pickT rfl hb46 rfl) ?_
      refine Lst.nil ?_
      exact At.meet true (FLe.refl _) ⟨rfl, rfl, rfl, rfl, rfl, rfl, rfl, rfl, rfl, rfl, rfl, rfl, rfl, rfl, trivial⟩ rfl (some_inj H)
    replace H := ite_f hb46 H
    refine Lst.runG rfl rfl rfl hb46 rfl (by decide) (Ev.move rfl) ?_
    refine Lst.runG rfl rfl rfl hb46 rfl (by decide) (Ev.move rfl) ?_
    obtain ⟨u47, h48, H⟩ := bind_some H
    refine Lst.runG rfl rfl rfl hb46 rfl (by decide) (Ev.rem (i := (i37 : Int)) (j := a1) rfl rfl (nz_some h48)) ?_
    refine Lst.runG rfl rfl rfl hb46 rfl (by decide) (Ev.move rfl) ?_
    refine Lst.runG rfl rfl rfl hb46 rfl (by decide) (Ev.eql rfl rfl) ?_
    refine Lst.run rfl rfl (by decide) (Ev.pickF rfl hb46 rfl) ?_
    refine Lst.nil ?_
    exact At.meet (((i37 : Int).tmod a1 : Int) == (i31 : Int)) (FLe.refl _) ⟨rfl, rfl, rfl, rfl, rfl, rfl, rfl, rfl, rfl, rfl, rfl, rfl, rfl, rfl, trivial⟩ rfl (some_inj H)
  rintro F49 y45 hF50 hy
  subst hy
  refine Lst.as (e' := [(0, .int .i64 a0), (1, .int .i64 a1), (6, .pointer (some ⟨b23, 0, none⟩)), (7, .int .i64 (i25 : Int)), (8, .int .i64 (i31 : Int)), (9, .int .u16 y38.toNat), (10, .int .i64 (i37 : Int)), (25, .int .i64 a0), (26, .int .i64 (i25 : Int)), (29, .int .i64 a1), (30, .int .i64 (i31 : Int)), (35, .int .i64 (w64 (a0 * a1))), (36, .int .i64 (i37 : Int)), (50, .bool y45)]) (L' := (.blk b23 (enc s32) 22) :: (.own s32 23 1 (encs l33)) :: (.own Sl.nil 23 1 (encs ([] : List (BitVec 16)))) :: L) ⟨rfl, rfl, rfl, rfl, rfl, rfl, rfl, rfl, rfl, rfl, rfl, rfl, rfl, rfl, trivial⟩ rfl ?_
  replace H := HKo44
  refine Lst.nil ?_
  refine At.then ?_
  rcases (Bool.eq_false_or_eq_true y45).symm with hb51 | hb51
  · replace H := ite_f hb51 H
    refine Cd.condF rfl hb51 ?_
    refine Cd.skip ?_
    refine At.in_normal ?_
    refine At.then ?_
    refine Cd.region ?_
    refine Lst.run rfl rfl (by decide) (Ev.incr (by omega) rfl rfl) ?_
    refine Lst.run rfl rfl (by decide) (Ev.move rfl) ?_
    refine Lst.nil ?_
    exact At.meet (i37 + 1, k37, y38) (FLe.trans hF40 hF50) ⟨rfl, rfl, rfl, rfl, rfl, rfl, rfl, rfl, rfl, rfl, rfl, rfl, trivial⟩ rfl ⟨⟨hgo37 _ (some_inj H).symm, by omega⟩, Nat.lt_succ_self _⟩
  replace H := ite_t hb51 H
  refine Cd.condT rfl hb51 ?_
  refine Cd.region ?_
  refine Lst.run rfl rfl (by decide) (Ev.move rfl) ?_
  refine Lst.run rfl rfl (by decide) (Ev.move rfl) ?_
  obtain ⟨n52, h53, H⟩ := bind_some H
  refine Lst.run rfl rfl (by decide) (Ev.shlU16 (i := (1 : BitVec 16)) (m := n52) rfl (congrArg some (congrArg (Value.int .i64) (cnt_some h53)))) ?_
  refine Lst.run rfl rfl (by decide) (Ev.orU16 (i := y38) (j := (1 : BitVec 16) <<< n52) rfl rfl) ?_
  refine Lst.run rfl rfl (by decide) (Ev.assign rfl) ?_
  refine Lst.nil ?_
  refine At.in_normal ?_
  refine At.then ?_
  refine Cd.region ?_
  refine Lst.run rfl rfl (by decide) (Ev.incr (by omega) rfl rfl) ?_
  refine Lst.run rfl rfl (by decide) (Ev.move rfl) ?_
  refine Lst.nil ?_
  exact At.meet (i37 + 1, k37, y38 ||| ((1 : BitVec 16) <<< n52)) (FLe.trans hF40 hF50) ⟨rfl, rfl, rfl, rfl, rfl, rfl, rfl, rfl, rfl, rfl, rfl, rfl, trivial⟩ rfl ⟨⟨hgo37 _ (some_inj H).symm, by omega⟩, Nat.lt_succ_self _⟩
set_option maxRecDepth 20000 in
theorem partref_size_sim {fu : Nat} {a0 : BitVec 16} {r : Int} (H : partref_size fu a0 = some r) (w0 : World) (F : Frz) (M L : List Item) (hM : M.Sublist L) : Ok Try.prog w0 45 [.int .u16 a0.toNat] F (L) (Is (.int .i64 r) (L)) := by
  unfold partref_size at H
  refine Ok.enter (m := 1) (n := 14) Try.func45 rfl rfl rfl (by decide) ?_
  refine Cd.env (e' := [(0, .int .u16 a0.toNat)]) rfl ?_
  refine Cd.seq ?_
  refine Cd.region ?_
  refine Lst.run rfl rfl (by decide) (Ev.assign rfl) ?_
  refine Lst.nil ?_
  refine At.then ?_
  refine Cd.seq ?_
  refine Cd.region ?_
  refine Lst.run rfl rfl (by decide) (Ev.assign rfl) ?_
  refine Lst.nil ?_
  refine At.then ?_
  refine Cd.seq ?_
  refine Cd.block ?_
  obtain ⟨ol1, H, HKl1⟩ := andThen_some H
  refine Cd.loop (σ := Nat × (BitVec 16) × Int) (fun (k1, y2, y3) => [(0, .int .u16 y2.toNat), (3, .int .i64 y3)]) (fun (k1, y2, y3) => L) (fun _ => (fun (k1, y2, y3) => whileM (partref_size_B0) k1 (y2, y3) = some ol1)) (fun (k1, y2, y3) => k1) (fu, a0, (0 : Int)) ⟨rfl, rfl, trivial⟩ rfl H ?_
  rintro F4 ⟨k1, y2, y3⟩ hF5 H
  refine Cd.as (e' := [(0, .int .u16 y2.toNat), (3, .int .i64 y3)]) (L' := L) ⟨rfl, rfl, trivial⟩ rfl ?_
  rcases k1 with _ | k1
  · cases H
  obtain ⟨c1, H, hgo1, hbrk1, hret1⟩ := whileM_go H
  unfold partref_size_B0 at H
  try dsimp only at H
  refine Cd.seq ?_
  refine Cd.seq ?_
  refine Cd.region ?_
  refine Lst.run rfl rfl (by decide) (Ev.move rfl) ?_
  refine Lst.run rfl rfl (by decide) (Ev.gtr rfl rfl) ?_
  refine Lst.nil ?_
  refine At.then ?_
  rcases (Bool.eq_false_or_eq_true (decide ((y2.toNat : Int) > ((0 : BitVec 16).toNat : Int)))).symm with hb6 | hb6
  · replace H := ite_f hb6 H
    refine Cd.condF rfl hb6 ?_
    refine Cd.exit ?_
    refine At.then_exit ?_
    refine At.then_exit ?_
    refine At.in_exit ?_
    have H := hbrk1 _ (some_inj H).symm
    subst H
    replace H := HKl1
    refine At.then ?_
    refine Cd.seq ?_
    refine Cd.region ?_
    refine Lst.run rfl rfl (by decide) (Ev.move rfl) ?_
    refine Lst.run rfl rfl (by decide) (Ev.assign rfl) ?_
    refine Lst.nil ?_
    refine At.then ?_
    obtain rfl := some_inj H
    refine Cd.ret ?_
    exact At.ret1 rfl (Res.tmp rfl) hF5 (List.Sublist.refl _) ⟨rfl, rfl⟩
  replace H := ite_t hb6 H
  refine Cd.condT rfl hb6 ?_
  refine Cd.skip ?_
  refine At.then ?_
  refine Cd.seq ?_
  refine Cd.block ?_
  refine Cd.region ?_
  refine Lst.run rfl rfl (by decide) (Ev.move rfl) ?_
  refine Lst.run rfl rfl (by decide) (Ev.move rfl) ?_
  refine Lst.run rfl rfl (by decide) (Ev.remU16 (i := y2) (j := (2 : BitVec 16)) rfl rfl (by decide)) ?_
  refine Lst.run rfl rfl (by decide) (Ev.convIS (j := ((y2 % (2 : BitVec 16)).toNat : Int)) rfl Try.runUnderlying23 Try.runUnderlying3 (w64_id (by omega) (by omega))) ?_
  refine Lst.run rfl rfl (by decide) (Ev.add rfl rfl) ?_
  refine Lst.run rfl rfl (by decide) (Ev.assign rfl) ?_
  refine Lst.nil ?_
  refine At.in_normal ?_
  refine At.then ?_
  refine Cd.region ?_
  refine Lst.run rfl rfl (by decide) (Ev.move rfl) ?_
  refine Lst.run rfl rfl (by decide) (Ev.quoU16 (i := y2) (j := (2 : BitVec 16)) rfl rfl (by decide)) ?_
  refine Lst.run rfl rfl (by decide) (Ev.assign rfl) ?_
  refine Lst.nil ?_
  exact At.meet (k1, y2 / (2 : BitVec 16), w64 (y3 + ((y2 % (2 : BitVec 16)).toNat : Int))) hF5 ⟨rfl, rfl, trivial⟩ rfl ⟨hgo1 _ (some_inj H).symm, Nat.lt_succ_self _⟩
set_option maxRecDepth 20000 in
theorem partref_VotesOf_sim {a0 : List Int} {a1 : BitVec 16} {s_a0 : Sl} {r : Int} (H : partref_VotesOf a0 a1 = some r) (w0 : World) (F : Frz) (M L : List Item) (hM : M.Sublist L) (hs_a0 : Rd w0 F M s_a0 a0) : Ok Try.prog w0 20 [Sl.v s_a0, .int .u16 a1.toNat] F (L) (Is (.int .i64 r) (L)) := by
  unfold partref_VotesOf at H
  refine Ok.enter (m := 2) (n := 26) Try.func20 rfl rfl rfl (by decide) ?_
  refine Cd.env (e' := [(0, Sl.v s_a0), (1, .int .u16 a1.toNat)]) rfl ?_
  refine Cd.seq ?_
  refine Cd.region ?_
  refine Lst.run rfl rfl (by decide) (Ev.assign rfl) ?_
  refine Lst.nil ?_
  refine At.then ?_
  refine Cd.seq ?_
  refine Cd.region ?_
  refine Lst.run rfl rfl (by decide) (Ev.assign rfl) ?_
  refine Lst.nil ?_
  refine At.then ?_
  refine Cd.seq ?_
  refine Cd.seq ?_
  refine Cd.region ?_
  refine Lst.run rfl rfl (by decide) (Ev.move rfl) ?_
  refine Lst.run rfl rfl (by decide) (Ev.lenS (α := Int) (xs := a0) (by decide) rfl rfl Try.runUnderlying36 (hs_a0.mono (FLe.refl _) hM)) ?_
  refine Lst.run rfl rfl (by decide) (Ev.move rfl) ?_
  refine Lst.nil ?_
  refine At.then ?_
  refine Cd.block ?_
  refine Cd.bound (Rd.le (α := Int) (xs := a0) (by decide) (hs_a0.mono (FLe.refl _) hM)) (fun hN11 => ?_)
  obtain ⟨ol1, H, HKl1⟩ := bind_some H
  refine Cd.loop (σ := Nat × Nat × Int) (fun (i1, k1, y2) => [(1, .int .u16 a1.toNat), (5, .int .i64 y2), (8, Sl.v s_a0), (9, .int .i64 (a0.length : Int)), (10, .int .i64 (i1 : Int))]) (fun (i1, k1, y2) => L) (fun _ => (fun (i1, k1, y2) => rangeF (partref_VotesOf_B0 a0 a1) k1 i1 y2 = some ol1 ∧ i1 + k1 = a0.length)) (fun (i1, k1, y2) => k1) (0, a0.length, (0 : Int)) ⟨rfl, rfl, rfl, rfl, rfl, trivial⟩ rfl ⟨H, by omega⟩ ?_
  rintro F3 ⟨i1, k1, y2⟩ hF4 ⟨H, hik1⟩
  refine Cd.as (e' := [(1, .int .u16 a1.toNat), (5, .int .i64 y2), (8, Sl.v s_a0), (9, .int .i64 (a0.length : Int)), (10, .int .i64 (i1 : Int))]) (L' := L) ⟨rfl, rfl, rfl, rfl, rfl, trivial⟩ rfl ?_
  rcases k1 with _ | k1
  · have hc1 : decide ((i1 : Int) < (a0.length : Int)) = false := decide_eq_false (by omega)
    replace H := rangeF_end H
    refine Cd.seq ?_
    refine Cd.region ?_
    refine Lst.run rfl rfl (by decide) (Ev.lss rfl rfl) ?_
    refine Lst.nil ?_
    refine At.then ?_
    refine Cd.seq ?_
    refine Cd.condF rfl hc1 ?_
    refine Cd.exit ?_
    refine At.then_exit ?_
    refine At.then_exit ?_
    refine At.in_exit ?_
    subst H
    replace H := HKl1
    refine At.then ?_
    refine Cd.seq ?_
    refine Cd.region ?_
    refine Lst.run rfl rfl (by decide) (Ev.move rfl) ?_
    refine Lst.run rfl rfl (by decide) (Ev.assign rfl) ?_
    refine Lst.nil ?_
    refine At.then ?_
    obtain rfl := some_inj H
    refine Cd.ret ?_
    exact At.ret1 rfl (Res.tmp rfl) hF4 (List.Sublist.refl _) ⟨rfl, rfl⟩
  have hc1 : decide ((i1 : Int) < (a0.length : Int)) = true := decide_eq_true (by omega)
  obtain ⟨c1, H, hgo1⟩ := rangeF_go H
  unfold partref_VotesOf_B0 at H
  try dsimp only at H
  refine Cd.seq ?_
  refine Cd.region ?_
  refine Lst.run rfl rfl (by decide) (Ev.lss rfl rfl) ?_
  refine Lst.nil ?_
  refine At.then ?_
  refine Cd.seq ?_
  refine Cd.condT rfl hc1 ?_
  refine Cd.skip ?_
  refine At.then ?_
  refine Cd.seq ?_
  refine Cd.block ?_
  refine Cd.seq ?_
  refine Cd.region ?_
  refine Lst.run rfl rfl (by decide) (Ev.move rfl) ?_
  obtain ⟨x5, h6, H⟩ := bind_some H
  have g7 := lat_some h6
  refine Lst.run rfl rfl (by decide) (Ev.indexS (α := Int) (xs := a0) rfl rfl Try.runUnderlying36 Try.sizeOf3 rfl (by decide) (hs_a0.mono hF4 hM) g7.1 g7.2.1) ?_
  refine Lst.run rfl rfl (by decide) (Ev.loadS (α := Int) rfl (hs_a0.mono hF4 hM) Try.isAgg3 (v := .int .i64 x5) ((Get.elemN (s := 1) (x := x5) rfl g7.2.2 (Get.here _)).off (by omega))) ?_
  refine Lst.run rfl rfl (by decide) (Ev.assign rfl) ?_
  refine Lst.run rfl rfl (by decide) (Ev.assign rfl) ?_
  refine Lst.nil ?_
  refine At.then ?_
  refine Cd.region ?_
  refine Lst.run rfl rfl (by decide) (Ev.move rfl) ?_
  refine Lst.run rfl rfl (by decide) (Ev.move rfl) ?_
  refine Lst.run rfl rfl (by decide) (Ev.move rfl) ?_
  refine Lst.run rfl rfl (by decide) (Ev.move rfl) ?_
  obtain ⟨n8, h9, H⟩ := bind_some H
  refine Lst.run rfl rfl (by decide) (Ev.shrU16 (i := a1) (m := n8) rfl (congrArg some (congrArg (Value.int .i64) (cnt_some h9)))) ?_
  refine Lst.run rfl rfl (by decide) (Ev.remU16 (i := a1 >>> n8) (j := (2 : BitVec 16)) rfl rfl (by decide)) ?_
  refine Lst.run rfl rfl (by decide) (Ev.convIS (j := (((a1 >>> n8) % (2 : BitVec 16)).toNat : Int)) rfl Try.runUnderlying23 Try.runUnderlying3 (w64_id (by omega) (by omega))) ?_
  refine Lst.run rfl rfl (by decide) (Ev.mul rfl rfl) ?_
  refine Lst.run rfl rfl (by decide) (Ev.add rfl rfl) ?_
  refine Lst.run rfl rfl (by decide) (Ev.assign rfl) ?_
  refine Lst.nil ?_
  refine At.in_normal ?_
  refine At.then ?_
  refine Cd.as (e' := [(1, .int .u16 a1.toNat), (5, .int .i64 (w64 (y2 + (w64 (x5 * (((a1 >>> n8) % (2 : BitVec 16)).toNat : Int)))))), (8, Sl.v s_a0), (9, .int .i64 (a0.length : Int)), (10, .int .i64 (i1 : Int))]) (L' := L) ⟨rfl, rfl, rfl, rfl, rfl, trivial⟩ rfl ?_
  refine Cd.region ?_
  refine Lst.run rfl rfl (by decide) (Ev.incr (by omega) rfl rfl) ?_
  refine Lst.run rfl rfl (by decide) (Ev.move rfl) ?_
  refine Lst.nil ?_
  exact At.meet (i1 + 1, k1, w64 (y2 + (w64 (x5 * (((a1 >>> n8) % (2 : BitVec 16)).toNat : Int))))) hF4 ⟨rfl, rfl, rfl, rfl, rfl, trivial⟩ rfl ⟨⟨hgo1 _ (some_inj H).symm, by omega⟩, Nat.lt_succ_self _⟩
set_option maxRecDepth 20000 in
theorem partlaw_QuorumMakes_1_sim {a0 : BitVec 16} {a1 : List Int} {a2 : Int} {b_a1 : Nat} {s_a1 : Sl} {b_a2 : Nat} {r : Bool} (H : partlaw_QuorumMakes_1 a0 a1 a2 = some r) (w0 : World) (F : Frz) (M L : List Item) (hM : M.Sublist L) (hs_a1 : Rd w0 F M s_a1 a1) : Ok Try.prog w0 19 [.int .u16 a0.toNat, .pointer (some ⟨b_a1, 0, none⟩), .pointer (some ⟨b_a2, 0, none⟩)] F ((.blk b_a1 (enc s_a1) 36) :: (.blk b_a2 (enc a2) 3) :: L) (Is (.bool r) ((.blk b_a1 (enc s_a1) 36) :: (.blk b_a2 (enc a2) 3) :: L)) := by
  unfold partlaw_QuorumMakes_1 at H
  refine Ok.enter (m := 3) (n := 10) Try.func19 rfl rfl rfl (by decide) ?_
  refine Cd.env (e' := [(0, .int .u16 a0.toNat), (1, .pointer (some ⟨b_a1, 0, none⟩)), (2, .pointer (some ⟨b_a2, 0, none⟩))]) rfl ?_
  refine Cd.seq ?_
  refine Cd.region ?_
  refine Lst.run rfl rfl (by decide) (Ev.assign rfl) ?_
  refine Lst.nil ?_
  refine At.then ?_
  refine Cd.seq ?_
  refine Cd.quiet (by kernel_rfl) (by kernel_rfl) ?_
  refine Qt.run rfl rfl (by decide) (Ev.load (i := 0) rfl rfl Try.isAgg36 (v := Sl.v s_a1) (Get.here _)) ?_
  refine Qt.run rfl rfl (by decide) (Ev.move rfl) ?_
  obtain ⟨r3, h4, H⟩ := bind_some H
  refine Qt.call rfl rfl (by decide) (vs := [Sl.v s_a1, .int .u16 a0.toNat]) ⟨rfl, rfl, trivial⟩ Try.call20 (partref_VotesOf_sim h4 w0 _ M _ (List.Sublist.cons _ (List.Sublist.cons _ hM)) (hs_a1.mono (FLe.refl _) (List.Sublist.refl _))) ?_
  refine Qt.run rfl rfl (by decide) (Ev.load (i := 1) rfl rfl Try.isAgg3 (v := .int .i64 a2) (Get.here _)) ?_
  refine Qt.run rfl rfl (by decide) (Ev.geq rfl rfl) ?_
  refine Qt.run rfl rfl (by decide) (Ev.assign rfl) ?_
  refine Qt.done ?_
  refine At.then ?_
  obtain rfl := some_inj H
  refine Cd.ret ?_
  exact At.ret1 rfl (Res.tmp rfl) (FLe.refl _) (List.Sublist.cons_cons _ (List.Sublist.cons_cons _ (List.Sublist.refl _))) ⟨rfl, rfl⟩
set_option maxRecDepth 20000 in
theorem partref_LeastSets_1_sim {a0 : BitVec 16} {a1 : BitVec 16} {b_a1 : Nat} {r : Bool} (H : partref_LeastSets_1 a0 a1 = some r) (w0 : World) (F : Frz) (M L : List Item) (hM : M.Sublist L) : Ok Try.prog w0 54 [.int .u16 a0.toNat, .pointer (some ⟨b_a1, 0, none⟩)] F ((.blk b_a1 (enc a1) 23) :: L) (Is (.bool r) ((.blk b_a1 (enc a1) 23) :: L)) := by
  unfold partref_LeastSets_1 at H
  refine Ok.enter (m := 2) (n := 9) Try.func54 rfl rfl rfl (by decide) ?_
  refine Cd.env (e' := [(0, .int .u16 a0.toNat), (1, .pointer (some ⟨b_a1, 0, none⟩))]) rfl ?_
  refine Cd.seq ?_
  refine Cd.region ?_
  refine Lst.run rfl rfl (by decide) (Ev.assign rfl) ?_
  refine Lst.nil ?_
  refine At.then ?_
  refine Cd.seq ?_
  refine Cd.region ?_
  refine Lst.run rfl rfl (by decide) (Ev.load (i := 0) rfl rfl Try.isAgg23 (v := .int .u16 a1.toNat) (Get.here _)) ?_
  refine Lst.run rfl rfl (by decide) (Ev.move rfl) ?_
  refine Lst.run rfl rfl (by decide) (Ev.orU16 (i := a1) (j := a0) rfl rfl) ?_
  refine Lst.run rfl rfl (by decide) (Ev.load (i := 0) rfl rfl Try.isAgg23 (v := .int .u16 a1.toNat) (Get.here _)) ?_
  refine Lst.run rfl rfl (by decide) (Ev.eql rfl rfl) ?_
  refine Lst.run rfl rfl (by decide) (Ev.assign rfl) ?_
  refine Lst.nil ?_
  refine At.then ?_
  obtain rfl := some_inj H
  refine Cd.ret ?_
  exact At.ret1 rfl (Res.tmp rfl) (FLe.refl _) (List.Sublist.cons_cons _ (List.Sublist.refl _)) ⟨rfl, rfl⟩
set_option maxRecDepth 20000 in
theorem slices_IndexFunc_uint16_uint16_LeastSets_1_sim {a0 : List (BitVec 16)} {a1_c0 : BitVec 16} {s_a0 : Sl} {b_a1_c0 : Nat} {r : Int} (H : slices_IndexFunc_uint16_uint16_LeastSets_1 a0 a1_c0 = some r) (w0 : World) (F : Frz) (M L : List Item) (hM : M.Sublist L) (hs_a0 : Rd w0 F M s_a0 a0) : Ok Try.prog w0 55 [Sl.v s_a0, .func (.func 54) #[] #[.pointer (some ⟨b_a1_c0, 0, none⟩)]] F ((.blk b_a1_c0 (enc a1_c0) 23) :: L) (Is (.int .i64 r) ((.blk b_a1_c0 (enc a1_c0) 23) :: L)) := by
  unfold slices_IndexFunc_uint16_uint16_LeastSets_1 at H
  refine Ok.enter (m := 2) (n := 19) Try.func55 rfl rfl rfl (by decide) ?_
  refine Cd.env (e' := [(0, Sl.v s_a0), (1, .func (.func 54) #[] #[.pointer (some ⟨b_a1_c0, 0, none⟩)])]) rfl ?_
  refine Cd.seq ?_
  refine Cd.region ?_
  refine Lst.run rfl rfl (by decide) (Ev.assign rfl) ?_
  refine Lst.nil ?_
  refine At.then ?_
  refine Cd.seq ?_
  refine Cd.seq ?_
  refine Cd.region ?_
  refine Lst.run rfl rfl (by decide) (Ev.move rfl) ?_
  refine Lst.run rfl rfl (by decide) (Ev.lenS (α := BitVec 16) (xs := a0) (by decide) rfl rfl Try.runUnderlying22 (hs_a0.mono (FLe.refl _) (List.Sublist.cons _ hM))) ?_
  refine Lst.run rfl rfl (by decide) (Ev.move rfl) ?_
  refine Lst.nil ?_
  refine At.then ?_
  refine Cd.block ?_
  refine Cd.bound (Rd.le (α := BitVec 16) (xs := a0) (by decide) (hs_a0.mono (FLe.refl _) (List.Sublist.cons _ hM))) (fun hN13 => ?_)
  obtain ⟨ol2, H, HKl2⟩ := andThen_some H
  refine Cd.loop (σ := Nat × Nat × Unit) (fun (i2, k2, _u) => [(0, Sl.v s_a0), (1, .func (.func 54) #[] #[.pointer (some ⟨b_a1_c0, 0, none⟩)]), (7, .int .i64 (a0.length : Int)), (8, .int .i64 (i2 : Int))]) (fun (i2, k2, _u) => (.blk b_a1_c0 (enc a1_c0) 23) :: L) (fun _ => (fun (i2, k2, _u) => rangeM (slices_IndexFunc_uint16_uint16_LeastSets_1_B0 a0 a1_c0) k2 i2 () = some ol2 ∧ i2 + k2 = a0.length)) (fun (i2, k2, _u) => k2) (0, a0.length, ()) ⟨rfl, rfl, rfl, rfl, trivial⟩ rfl ⟨H, by omega⟩ ?_
  rintro F3 ⟨i2, k2, _u⟩ hF4 ⟨H, hik2⟩
  refine Cd.as (e' := [(0, Sl.v s_a0), (1, .func (.func 54) #[] #[.pointer (some ⟨b_a1_c0, 0, none⟩)]), (7, .int .i64 (a0.length : Int)), (8, .int .i64 (i2 : Int))]) (L' := (.blk b_a1_c0 (enc a1_c0) 23) :: L) ⟨rfl, rfl, rfl, rfl, trivial⟩ rfl ?_
  rcases k2 with _ | k2
  · have hc2 : decide ((i2 : Int) < (a0.length : Int)) = false := decide_eq_false (by omega)
    replace H := rangeM_end H
    refine Cd.seq ?_
    refine Cd.region ?_
    refine Lst.run rfl rfl (by decide) (Ev.lss rfl rfl) ?_
    refine Lst.nil ?_
    refine At.then ?_
    refine Cd.seq ?_
    refine Cd.condF rfl hc2 ?_
    refine Cd.exit ?_
    refine At.then_exit ?_
    refine At.then_exit ?_
    refine At.in_exit ?_
    subst H
    replace H := HKl2
    refine At.then ?_
    refine Cd.seq ?_
    refine Cd.region ?_
    refine Lst.run rfl rfl (by decide) (Ev.assign rfl) ?_
    refine Lst.nil ?_
    refine At.then ?_
    obtain rfl := some_inj H
    refine Cd.ret ?_
    exact At.ret1 rfl (Res.tmp rfl) hF4 (List.Sublist.cons_cons _ (List.Sublist.refl _)) ⟨rfl, rfl⟩
  have hc2 : decide ((i2 : Int) < (a0.length : Int)) = true := decide_eq_true (by omega)
  obtain ⟨c2, H, hgo2, hbrk2, hret2⟩ := rangeM_go H
  unfold slices_IndexFunc_uint16_uint16_LeastSets_1_B0 at H
  try dsimp only at H
  refine Cd.seq ?_
  refine Cd.region ?_
  refine Lst.run rfl rfl (by decide) (Ev.lss rfl rfl) ?_
  refine Lst.nil ?_
  refine At.then ?_
  refine Cd.seq ?_
  refine Cd.condT rfl hc2 ?_
  refine Cd.skip ?_
  refine At.then ?_
  refine Cd.seq ?_
  refine Cd.block ?_
  refine Cd.seq ?_
  refine Cd.region ?_
  refine Lst.run rfl rfl (by decide) (Ev.move rfl) ?_
  refine Lst.run rfl rfl (by decide) (Ev.assign rfl) ?_
  refine Lst.nil ?_
  refine At.then ?_
  refine Cd.seq ?_
  refine Cd.region ?_
  refine Lst.run rfl rfl (by decide) (Ev.move rfl) ?_
  refine Lst.run rfl rfl (by decide) (Ev.move rfl) ?_
  refine Lst.run rfl rfl (by decide) (Ev.move rfl) ?_
  obtain ⟨x5, h6, H⟩ := bind_some H
  have g7 := lat_some h6
  refine Lst.run rfl rfl (by decide) (Ev.indexS (α := BitVec 16) (xs := a0) rfl rfl Try.runUnderlying22 Try.sizeOf23 rfl (by decide) (hs_a0.mono hF4 (List.Sublist.cons _ hM)) g7.1 g7.2.1) ?_
  refine Lst.run rfl rfl (by decide) (Ev.loadS (α := BitVec 16) rfl (hs_a0.mono hF4 (List.Sublist.cons _ hM)) Try.isAgg23 (v := .int .u16 x5.toNat) ((Get.elemN (s := 1) (x := x5) rfl g7.2.2 (Get.here _)).off (by omega))) ?_
  obtain ⟨r8, h9, H⟩ := bind_some H
  refine Lst.callV1 rfl rfl (by decide) (vs := [.int .u16 x5.toNat]) (cs := [.pointer (some ⟨b_a1_c0, 0, none⟩)]) rfl ⟨rfl, trivial⟩ Try.call54 (partref_LeastSets_1_sim h9 w0 _ M _ hM) ?_
  refine Lst.nil ?_
  refine At.then ?_
  rcases Bool.eq_false_or_eq_true r8 with hb12 | hb12
  · replace H := ite_t hb12 H
    refine Cd.condT rfl hb12 ?_
    refine Cd.seq ?_
    refine Cd.region ?_
    refine Lst.run rfl rfl (by decide) (Ev.move rfl) ?_
    refine Lst.run rfl rfl (by decide) (Ev.assign rfl) ?_
    refine Lst.nil ?_
    refine At.then ?_
    have H := hret2 _ (some_inj H).symm
    subst H
    replace H := HKl2
    obtain rfl := some_inj H
    refine Cd.ret ?_
    refine At.in_ret ?_
    refine At.then_ret ?_
    refine At.then_ret ?_
    refine At.in_ret ?_
    refine At.then_ret ?_
    exact At.ret1 rfl (Res.tmp rfl) hF4 (List.Sublist.cons_cons _ (List.Sublist.refl _)) ⟨rfl, rfl⟩
  replace H := ite_f hb12 H
  refine Cd.condF rfl hb12 ?_
  refine Cd.skip ?_
  refine At.in_normal ?_
  refine At.then ?_
  refine Cd.region ?_
  refine Lst.run rfl rfl (by decide) (Ev.incr (by omega) rfl rfl) ?_
  refine Lst.run rfl rfl (by decide) (Ev.move rfl) ?_
  refine Lst.nil ?_
  exact At.meet (i2 + 1, k2, ()) hF4 ⟨rfl, rfl, rfl, rfl, trivial⟩ rfl ⟨⟨hgo2 _ (some_inj H).symm, by omega⟩, Nat.lt_succ_self _⟩
end Go.Proofs.Ytnljiedichjagaa
