/-
  The functions compute their specs; printed by a program.
-/
import Derived.Test.YtnljiedichjagaaQsP2
namespace Go.Proofs.Ytnljiedichjagaa
open Go.RowKit Enc
set_option linter.unusedVariables false
set_option linter.unusedSimpArgs false
set_option maxRecDepth 20000 in
theorem slices_partitionCmpFunc_uint16_quorum_compare_sim {fu : Nat} {a0 : List (BitVec 16)} {a1 : Int} {a2 : Int} {a3 : Int} {s_a0 : Sl} {r : (List (BitVec 16)) × Int × Bool} (H : slices_partitionCmpFunc_uint16_quorum_compare fu a0 a1 a2 a3 = some r) (w0 : World) (F : Frz) (M L : List Item) (hM : M.Sublist L) : Ok Try.prog w0 141 [Sl.v s_a0, .int .i64 a1, .int .i64 a2, .int .i64 a3, .func (.func 53) #[] #[]] F ((.own s_a0 23 1 (encs a0)) :: L) (fun _ L' v => v = .tuple #[.int .i64 r.2.1, .bool r.2.2] ∧ L' = (.own s_a0 23 1 (encs r.1)) :: L) := by
  unfold slices_partitionCmpFunc_uint16_quorum_compare at H
  refine Ok.enter (m := 5) (n := 178) Try.func141 rfl rfl rfl (by decide) ?_
  refine Cd.env (e' := [(0, Sl.v s_a0), (1, .int .i64 a1), (2, .int .i64 a2), (3, .int .i64 a3), (4, .func (.func 53) #[] #[])]) rfl ?_
  refine Cd.seq ?_
  refine Cd.region ?_
  refine Lst.run rfl rfl (by decide) (Ev.assign rfl) ?_
  refine Lst.run rfl rfl (by decide) (Ev.assign rfl) ?_
  refine Lst.nil ?_
  refine At.then ?_
  refine Cd.seq ?_
  obtain ⟨x2, h3, H⟩ := bind_some H
  obtain ⟨x5, h6, H⟩ := bind_some H
  obtain ⟨x8, h9, H⟩ := bind_some H
  obtain ⟨p11, h12, H⟩ := Let_some H
  obtain ⟨o15, h16, H⟩ := Let_some H
  refine Cd.headMeet (σ := (List (BitVec 16))) 14 (fun l14 => [(0, Sl.v s_a0), (1, .int .i64 a1), (2, .int .i64 a2), (4, .func (.func 53) #[] #[]), (16, Sl.v s_a0), (17, .int .i64 a3), (25, .int .u16 x5.toNat)]) (fun l14 => (.own s_a0 23 1 (encs l14)) :: L) (fun _ l14 => l14 = o15) (by kernel_rfl) (by kernel_rfl) (behind_sink (by kernel_rfl) (by kernel_rfl) (by kernel_rfl)) (by kernel_rfl) (fun hsel hlt => ?_) ?_
  · refine HdJ.keep (fun w => St w0 F (L) w) (fun w h => trivial) ?_
    refine HdJ.takeK hsel hlt 0 (fun w h => h.sublist (List.Sublist.cons _ (List.Sublist.refl _))) rfl rfl (by decide) (by decide) (by kernel_rfl) (by kernel_rfl) rfl (Ev.move rfl) ?_
    refine HdJ.takeK hsel hlt 1 (fun w h => h.sublist (List.Sublist.cons _ (List.Sublist.refl _))) rfl rfl (by decide) (by decide) (by kernel_rfl) (by kernel_rfl) rfl (Ev.move rfl) ?_
    refine HdJ.takeK hsel hlt 2 (fun w h => h.sublist (List.Sublist.cons _ (List.Sublist.refl _))) rfl rfl (by decide) (by decide) (by kernel_rfl) (by kernel_rfl) rfl (Ev.move rfl) ?_
    refine HdJ.takeK hsel hlt 3 (fun w h => h.sublist (List.Sublist.cons _ (List.Sublist.refl _))) rfl rfl (by decide) (by decide) (by kernel_rfl) (by kernel_rfl) rfl (Ev.move rfl) ?_
    refine HdJ.takeK hsel hlt 4 (fun w h => h.sublist (List.Sublist.cons _ (List.Sublist.refl _))) rfl rfl (by decide) (by decide) (by kernel_rfl) (by kernel_rfl) rfl (Ev.move rfl) ?_
    refine HdJ.takeK hsel hlt 5 (fun w h => h.sublist (List.Sublist.cons _ (List.Sublist.refl _))) rfl rfl (by decide) (by decide) (by kernel_rfl) (by kernel_rfl) rfl (Ev.move rfl) ?_
    refine HdJ.takeK hsel hlt 8 (fun w h => h.sublist (List.Sublist.cons _ (List.Sublist.refl _))) rfl rfl (by decide) (by decide) (by kernel_rfl) (by kernel_rfl) rfl (Ev.move rfl) ?_
    refine HdJ.takeK hsel hlt 9 (fun w h => h.sublist (List.Sublist.cons _ (List.Sublist.refl _))) rfl rfl (by decide) (by decide) (by kernel_rfl) (by kernel_rfl) rfl (Ev.move rfl) ?_
    refine HdJ.step [6, 10] (by kernel_rfl) rfl ?_
    refine HdStep.cons (by decide) rfl (fun inv => ?_) ?_
    · have g17 := lat_some h3
      refine Lst.run rfl rfl (by decide) (Ev.indexS (α := BitVec 16) (xs := a0) rfl rfl Try.runUnderlying22 Try.sizeOf23 rfl (by decide) (Rd.own (i := 0) rfl rfl rfl) g17.1 g17.2.1) ?_
      refine Lst.nil ?_
      refine At.hd inv (fun w h => (h.weaken (FLe.refl _)).sublist (List.Sublist.cons _ (List.Sublist.refl _))) ?_
      refine HdJ.step [7, 10] (by kernel_rfl) rfl ?_
      refine HdStep.cons (by decide) rfl (fun inv => ?_) ?_
      · refine Lst.run rfl rfl (by decide) (Ev.loadS (α := BitVec 16) rfl (Rd.own (i := 0) rfl rfl rfl) Try.isAgg23 (v := .int .u16 x2.toNat) ((Get.elemN (s := 1) (x := x2) rfl g17.2.2 (Get.here _)).off (by omega))) ?_
        refine Lst.nil ?_
        refine At.hd inv (fun w h => (h.weaken (FLe.refl _)).sublist (List.Sublist.cons _ (List.Sublist.refl _))) ?_
        refine HdJ.step [10] (by kernel_rfl) rfl ?_
        refine HdStep.cons (by decide) rfl (fun inv => ?_) ?_
        · have g18 := lat_some h6
          refine Lst.run rfl rfl (by decide) (Ev.indexS (α := BitVec 16) (xs := a0) rfl rfl Try.runUnderlying22 Try.sizeOf23 rfl (by decide) (Rd.own (i := 0) rfl rfl rfl) g18.1 g18.2.1) ?_
          refine Lst.nil ?_
          refine At.hd inv (fun w h => (h.weaken (FLe.refl _)).sublist (List.Sublist.cons _ (List.Sublist.refl _))) ?_
          refine HdJ.step [11] (by kernel_rfl) rfl ?_
          refine HdStep.cons (by decide) rfl (fun inv => ?_) ?_
          · refine Lst.run rfl rfl (by decide) (Ev.loadS (α := BitVec 16) rfl (Rd.own (i := 0) rfl rfl rfl) Try.isAgg23 (v := .int .u16 x5.toNat) ((Get.elemN (s := 1) (x := x5) rfl g18.2.2 (Get.here _)).off (by omega))) ?_
            refine Lst.nil ?_
            refine At.hd inv (fun w h => (h.weaken (FLe.refl _)).sublist (List.Sublist.cons _ (List.Sublist.refl _))) ?_
            refine HdJ.step [12] (by kernel_rfl) rfl ?_
            refine HdStep.cons (by decide) rfl (fun inv => ?_) ?_
            · have g19 := lat_some h9
              refine Lst.run rfl rfl (by decide) (Ev.indexS (α := BitVec 16) (xs := a0) rfl rfl Try.runUnderlying22 Try.sizeOf23 rfl (by decide) (Rd.own (i := 0) rfl rfl rfl) g19.1 g19.2.1) ?_
              refine Lst.nil ?_
              refine At.hd inv (fun w h => (h.weaken (FLe.refl _)).sublist (List.Sublist.cons _ (List.Sublist.refl _))) ?_
              refine HdJ.step [13] (by kernel_rfl) rfl ?_
              refine HdStep.cons (by decide) rfl (fun inv => ?_) ?_
              · refine Lst.storeS (i := 0) rfl rfl rfl rfl rfl Try.sizeOf23 (vs := [.int .u16 x2.toNat]) rfl rfl (by decide) rfl (xs' := encs p11) (by rw [← h12]; exact (Put.elemN (s := 1) (x := x8) rfl g19.2.2 (Put.here (vs := [.int .u16 x2.toNat]) rfl)).off (by omega)) (L' := (.own s_a0 23 1 (encs p11)) :: L) rfl ?_
                refine Lst.nil ?_
                refine At.hd inv (fun w h => (h.weaken (FLe.refl _)).sublist (List.Sublist.cons _ (List.Sublist.refl _))) ?_
                refine HdJ.done (by kernel_rfl) ?_
                exact At.meetN p11 (FLe.refl _) ⟨rfl, rfl, rfl, rfl, rfl, rfl, rfl, trivial⟩ rfl h16
              exact trivial
            exact trivial
          exact trivial
        exact trivial
      refine HdStep.cons (by decide) rfl (fun inv => ?_) ?_
      · have g20 := lat_some h6
        refine Lst.run rfl rfl (by decide) (Ev.indexS (α := BitVec 16) (xs := a0) rfl rfl Try.runUnderlying22 Try.sizeOf23 rfl (by decide) (Rd.own (i := 0) rfl rfl rfl) g20.1 g20.2.1) ?_
        refine Lst.nil ?_
        refine At.hd inv (fun w h => (h.weaken (FLe.refl _)).sublist (List.Sublist.cons _ (List.Sublist.refl _))) ?_
        refine HdJ.step [7, 11] (by kernel_rfl) rfl ?_
        refine HdStep.cons (by decide) rfl (fun inv => ?_) ?_
        · refine Lst.run rfl rfl (by decide) (Ev.loadS (α := BitVec 16) rfl (Rd.own (i := 0) rfl rfl rfl) Try.isAgg23 (v := .int .u16 x2.toNat) ((Get.elemN (s := 1) (x := x2) rfl g17.2.2 (Get.here _)).off (by omega))) ?_
          refine Lst.nil ?_
          refine At.hd inv (fun w h => (h.weaken (FLe.refl _)).sublist (List.Sublist.cons _ (List.Sublist.refl _))) ?_
          refine HdJ.step [11] (by kernel_rfl) rfl ?_
          refine HdStep.cons (by decide) rfl (fun inv => ?_) ?_
          · refine Lst.run rfl rfl (by decide) (Ev.loadS (α := BitVec 16) rfl (Rd.own (i := 0) rfl rfl rfl) Try.isAgg23 (v := .int .u16 x5.toNat) ((Get.elemN (s := 1) (x := x5) rfl g20.2.2 (Get.here _)).off (by omega))) ?_
            refine Lst.nil ?_
            refine At.hd inv (fun w h => (h.weaken (FLe.refl _)).sublist (List.Sublist.cons _ (List.Sublist.refl _))) ?_
            refine HdJ.step [12] (by kernel_rfl) rfl ?_
            refine HdStep.cons (by decide) rfl (fun inv => ?_) ?_
            · have g21 := lat_some h9
              refine Lst.run rfl rfl (by decide) (Ev.indexS (α := BitVec 16) (xs := a0) rfl rfl Try.runUnderlying22 Try.sizeOf23 rfl (by decide) (Rd.own (i := 0) rfl rfl rfl) g21.1 g21.2.1) ?_
              refine Lst.nil ?_
              refine At.hd inv (fun w h => (h.weaken (FLe.refl _)).sublist (List.Sublist.cons _ (List.Sublist.refl _))) ?_
              refine HdJ.step [13] (by kernel_rfl) rfl ?_
              refine HdStep.cons (by decide) rfl (fun inv => ?_) ?_
              · refine Lst.storeS (i := 0) rfl rfl rfl rfl rfl Try.sizeOf23 (vs := [.int .u16 x2.toNat]) rfl rfl (by decide) rfl (xs' := encs p11) (by rw [← h12]; exact (Put.elemN (s := 1) (x := x8) rfl g21.2.2 (Put.here (vs := [.int .u16 x2.toNat]) rfl)).off (by omega)) (L' := (.own s_a0 23 1 (encs p11)) :: L) rfl ?_
                refine Lst.nil ?_
                refine At.hd inv (fun w h => (h.weaken (FLe.refl _)).sublist (List.Sublist.cons _ (List.Sublist.refl _))) ?_
                refine HdJ.done (by kernel_rfl) ?_
                exact At.meetN p11 (FLe.refl _) ⟨rfl, rfl, rfl, rfl, rfl, rfl, rfl, trivial⟩ rfl h16
              exact trivial
            exact trivial
          exact trivial
        refine HdStep.cons (by decide) rfl (fun inv => ?_) ?_
        · refine Lst.run rfl rfl (by decide) (Ev.loadS (α := BitVec 16) rfl (Rd.own (i := 0) rfl rfl rfl) Try.isAgg23 (v := .int .u16 x5.toNat) ((Get.elemN (s := 1) (x := x5) rfl g20.2.2 (Get.here _)).off (by omega))) ?_
          refine Lst.nil ?_
          refine At.hd inv (fun w h => (h.weaken (FLe.refl _)).sublist (List.Sublist.cons _ (List.Sublist.refl _))) ?_
          refine HdJ.step [7] (by kernel_rfl) rfl ?_
          refine HdStep.cons (by decide) rfl (fun inv => ?_) ?_
          · refine Lst.run rfl rfl (by decide) (Ev.loadS (α := BitVec 16) rfl (Rd.own (i := 0) rfl rfl rfl) Try.isAgg23 (v := .int .u16 x2.toNat) ((Get.elemN (s := 1) (x := x2) rfl g17.2.2 (Get.here _)).off (by omega))) ?_
            refine Lst.nil ?_
            refine At.hd inv (fun w h => (h.weaken (FLe.refl _)).sublist (List.Sublist.cons _ (List.Sublist.refl _))) ?_
            refine HdJ.step [12] (by kernel_rfl) rfl ?_
            refine HdStep.cons (by decide) rfl (fun inv => ?_) ?_
            · have g22 := lat_some h9
              refine Lst.run rfl rfl (by decide) (Ev.indexS (α := BitVec 16) (xs := a0) rfl rfl Try.runUnderlying22 Try.sizeOf23 rfl (by decide) (Rd.own (i := 0) rfl rfl rfl) g22.1 g22.2.1) ?_
              refine Lst.nil ?_
              refine At.hd inv (fun w h => (h.weaken (FLe.refl _)).sublist (List.Sublist.cons _ (List.Sublist.refl _))) ?_
              refine HdJ.step [13] (by kernel_rfl) rfl ?_
              refine HdStep.cons (by decide) rfl (fun inv => ?_) ?_
              · refine Lst.storeS (i := 0) rfl rfl rfl rfl rfl Try.sizeOf23 (vs := [.int .u16 x2.toNat]) rfl rfl (by decide) rfl (xs' := encs p11) (by rw [← h12]; exact (Put.elemN (s := 1) (x := x8) rfl g22.2.2 (Put.here (vs := [.int .u16 x2.toNat]) rfl)).off (by omega)) (L' := (.own s_a0 23 1 (encs p11)) :: L) rfl ?_
                refine Lst.nil ?_
                refine At.hd inv (fun w h => (h.weaken (FLe.refl _)).sublist (List.Sublist.cons _ (List.Sublist.refl _))) ?_
                refine HdJ.done (by kernel_rfl) ?_
                exact At.meetN p11 (FLe.refl _) ⟨rfl, rfl, rfl, rfl, rfl, rfl, rfl, trivial⟩ rfl h16
              exact trivial
            exact trivial
          exact trivial
        exact trivial
      exact trivial
    refine HdStep.cons (by decide) rfl (fun inv => ?_) ?_
    · have g23 := lat_some h6
      refine Lst.run rfl rfl (by decide) (Ev.indexS (α := BitVec 16) (xs := a0) rfl rfl Try.runUnderlying22 Try.sizeOf23 rfl (by decide) (Rd.own (i := 0) rfl rfl rfl) g23.1 g23.2.1) ?_
      refine Lst.nil ?_
      refine At.hd inv (fun w h => (h.weaken (FLe.refl _)).sublist (List.Sublist.cons _ (List.Sublist.refl _))) ?_
      refine HdJ.step [6, 11] (by kernel_rfl) rfl ?_
      refine HdStep.cons (by decide) rfl (fun inv => ?_) ?_
      · have g24 := lat_some h3
        refine Lst.run rfl rfl (by decide) (Ev.indexS (α := BitVec 16) (xs := a0) rfl rfl Try.runUnderlying22 Try.sizeOf23 rfl (by decide) (Rd.own (i := 0) rfl rfl rfl) g24.1 g24.2.1) ?_
        refine Lst.nil ?_
        refine At.hd inv (fun w h => (h.weaken (FLe.refl _)).sublist (List.Sublist.cons _ (List.Sublist.refl _))) ?_
        refine HdJ.step [7, 11] (by kernel_rfl) rfl ?_
        refine HdStep.cons (by decide) rfl (fun inv => ?_) ?_
        · refine Lst.run rfl rfl (by decide) (Ev.loadS (α := BitVec 16) rfl (Rd.own (i := 0) rfl rfl rfl) Try.isAgg23 (v := .int .u16 x2.toNat) ((Get.elemN (s := 1) (x := x2) rfl g24.2.2 (Get.here _)).off (by omega))) ?_
          refine Lst.nil ?_
          refine At.hd inv (fun w h => (h.weaken (FLe.refl _)).sublist (List.Sublist.cons _ (List.Sublist.refl _))) ?_
          refine HdJ.step [11] (by kernel_rfl) rfl ?_
          refine HdStep.cons (by decide) rfl (fun inv => ?_) ?_
          · refine Lst.run rfl rfl (by decide) (Ev.loadS (α := BitVec 16) rfl (Rd.own (i := 0) rfl rfl rfl) Try.isAgg23 (v := .int .u16 x5.toNat) ((Get.elemN (s := 1) (x := x5) rfl g23.2.2 (Get.here _)).off (by omega))) ?_
            refine Lst.nil ?_
            refine At.hd inv (fun w h => (h.weaken (FLe.refl _)).sublist (List.Sublist.cons _ (List.Sublist.refl _))) ?_
            refine HdJ.step [12] (by kernel_rfl) rfl ?_
            refine HdStep.cons (by decide) rfl (fun inv => ?_) ?_
            · have g25 := lat_some h9
              refine Lst.run rfl rfl (by decide) (Ev.indexS (α := BitVec 16) (xs := a0) rfl rfl Try.runUnderlying22 Try.sizeOf23 rfl (by decide) (Rd.own (i := 0) rfl rfl rfl) g25.1 g25.2.1) ?_
              refine Lst.nil ?_
              refine At.hd inv (fun w h => (h.weaken (FLe.refl _)).sublist (List.Sublist.cons _ (List.Sublist.refl _))) ?_
              refine HdJ.step [13] (by kernel_rfl) rfl ?_
              refine HdStep.cons (by decide) rfl (fun inv => ?_) ?_
              · refine Lst.storeS (i := 0) rfl rfl rfl rfl rfl Try.sizeOf23 (vs := [.int .u16 x2.toNat]) rfl rfl (by decide) rfl (xs' := encs p11) (by rw [← h12]; exact (Put.elemN (s := 1) (x := x8) rfl g25.2.2 (Put.here (vs := [.int .u16 x2.toNat]) rfl)).off (by omega)) (L' := (.own s_a0 23 1 (encs p11)) :: L) rfl ?_
                refine Lst.nil ?_
                refine At.hd inv (fun w h => (h.weaken (FLe.refl _)).sublist (List.Sublist.cons _ (List.Sublist.refl _))) ?_
                refine HdJ.done (by kernel_rfl) ?_
                exact At.meetN p11 (FLe.refl _) ⟨rfl, rfl, rfl, rfl, rfl, rfl, rfl, trivial⟩ rfl h16
              exact trivial
            exact trivial
          exact trivial
        refine HdStep.cons (by decide) rfl (fun inv => ?_) ?_
        · refine Lst.run rfl rfl (by decide) (Ev.loadS (α := BitVec 16) rfl (Rd.own (i := 0) rfl rfl rfl) Try.isAgg23 (v := .int .u16 x5.toNat) ((Get.elemN (s := 1) (x := x5) rfl g23.2.2 (Get.here _)).off (by omega))) ?_
          refine Lst.nil ?_
          refine At.hd inv (fun w h => (h.weaken (FLe.refl _)).sublist (List.Sublist.cons _ (List.Sublist.refl _))) ?_
          refine HdJ.step [7] (by kernel_rfl) rfl ?_
          refine HdStep.cons (by decide) rfl (fun inv => ?_) ?_
          · refine Lst.run rfl rfl (by decide) (Ev.loadS (α := BitVec 16) rfl (Rd.own (i := 0) rfl rfl rfl) Try.isAgg23 (v := .int .u16 x2.toNat) ((Get.elemN (s := 1) (x := x2) rfl g24.2.2 (Get.here _)).off (by omega))) ?_
            refine Lst.nil ?_
            refine At.hd inv (fun w h => (h.weaken (FLe.refl _)).sublist (List.Sublist.cons _ (List.Sublist.refl _))) ?_
            refine HdJ.step [12] (by kernel_rfl) rfl ?_
            refine HdStep.cons (by decide) rfl (fun inv => ?_) ?_
            · have g26 := lat_some h9
              refine Lst.run rfl rfl (by decide) (Ev.indexS (α := BitVec 16) (xs := a0) rfl rfl Try.runUnderlying22 Try.sizeOf23 rfl (by decide) (Rd.own (i := 0) rfl rfl rfl) g26.1 g26.2.1) ?_
              refine Lst.nil ?_
              refine At.hd inv (fun w h => (h.weaken (FLe.refl _)).sublist (List.Sublist.cons _ (List.Sublist.refl _))) ?_
              refine HdJ.step [13] (by kernel_rfl) rfl ?_
              refine HdStep.cons (by decide) rfl (fun inv => ?_) ?_
              · refine Lst.storeS (i := 0) rfl rfl rfl rfl rfl Try.sizeOf23 (vs := [.int .u16 x2.toNat]) rfl rfl (by decide) rfl (xs' := encs p11) (by rw [← h12]; exact (Put.elemN (s := 1) (x := x8) rfl g26.2.2 (Put.here (vs := [.int .u16 x2.toNat]) rfl)).off (by omega)) (L' := (.own s_a0 23 1 (encs p11)) :: L) rfl ?_
                refine Lst.nil ?_
                refine At.hd inv (fun w h => (h.weaken (FLe.refl _)).sublist (List.Sublist.cons _ (List.Sublist.refl _))) ?_
                refine HdJ.done (by kernel_rfl) ?_
                exact At.meetN p11 (FLe.refl _) ⟨rfl, rfl, rfl, rfl, rfl, rfl, rfl, trivial⟩ rfl h16
              exact trivial
            exact trivial
          exact trivial
        exact trivial
      refine HdStep.cons (by decide) rfl (fun inv => ?_) ?_
      · refine Lst.run rfl rfl (by decide) (Ev.loadS (α := BitVec 16) rfl (Rd.own (i := 0) rfl rfl rfl) Try.isAgg23 (v := .int .u16 x5.toNat) ((Get.elemN (s := 1) (x := x5) rfl g23.2.2 (Get.here _)).off (by omega))) ?_
        refine Lst.nil ?_
        refine At.hd inv (fun w h => (h.weaken (FLe.refl _)).sublist (List.Sublist.cons _ (List.Sublist.refl _))) ?_
        refine HdJ.step [6] (by kernel_rfl) rfl ?_
        refine HdStep.cons (by decide) rfl (fun inv => ?_) ?_
        · have g27 := lat_some h3
          refine Lst.run rfl rfl (by decide) (Ev.indexS (α := BitVec 16) (xs := a0) rfl rfl Try.runUnderlying22 Try.sizeOf23 rfl (by decide) (Rd.own (i := 0) rfl rfl rfl) g27.1 g27.2.1) ?_
          refine Lst.nil ?_
          refine At.hd inv (fun w h => (h.weaken (FLe.refl _)).sublist (List.Sublist.cons _ (List.Sublist.refl _))) ?_
          refine HdJ.step [7] (by kernel_rfl) rfl ?_
          refine HdStep.cons (by decide) rfl (fun inv => ?_) ?_
          · refine Lst.run rfl rfl (by decide) (Ev.loadS (α := BitVec 16) rfl (Rd.own (i := 0) rfl rfl rfl) Try.isAgg23 (v := .int .u16 x2.toNat) ((Get.elemN (s := 1) (x := x2) rfl g27.2.2 (Get.here _)).off (by omega))) ?_
            refine Lst.nil ?_
            refine At.hd inv (fun w h => (h.weaken (FLe.refl _)).sublist (List.Sublist.cons _ (List.Sublist.refl _))) ?_
            refine HdJ.step [12] (by kernel_rfl) rfl ?_
            refine HdStep.cons (by decide) rfl (fun inv => ?_) ?_
            · have g28 := lat_some h9
              refine Lst.run rfl rfl (by decide) (Ev.indexS (α := BitVec 16) (xs := a0) rfl rfl Try.runUnderlying22 Try.sizeOf23 rfl (by decide) (Rd.own (i := 0) rfl rfl rfl) g28.1 g28.2.1) ?_
              refine Lst.nil ?_
              refine At.hd inv (fun w h => (h.weaken (FLe.refl _)).sublist (List.Sublist.cons _ (List.Sublist.refl _))) ?_
              refine HdJ.step [13] (by kernel_rfl) rfl ?_
              refine HdStep.cons (by decide) rfl (fun inv => ?_) ?_
              · refine Lst.storeS (i := 0) rfl rfl rfl rfl rfl Try.sizeOf23 (vs := [.int .u16 x2.toNat]) rfl rfl (by decide) rfl (xs' := encs p11) (by rw [← h12]; exact (Put.elemN (s := 1) (x := x8) rfl g28.2.2 (Put.here (vs := [.int .u16 x2.toNat]) rfl)).off (by omega)) (L' := (.own s_a0 23 1 (encs p11)) :: L) rfl ?_
                refine Lst.nil ?_
                refine At.hd inv (fun w h => (h.weaken (FLe.refl _)).sublist (List.Sublist.cons _ (List.Sublist.refl _))) ?_
                refine HdJ.done (by kernel_rfl) ?_
                exact At.meetN p11 (FLe.refl _) ⟨rfl, rfl, rfl, rfl, rfl, rfl, rfl, trivial⟩ rfl h16
              exact trivial
            exact trivial
          exact trivial
        exact trivial
      exact trivial
    exact trivial
  rintro F29 l14 hF30 hy
  subst hy
  refine Lst.as (e' := [(0, Sl.v s_a0), (1, .int .i64 a1), (2, .int .i64 a2), (4, .func (.func 53) #[] #[]), (16, Sl.v s_a0), (17, .int .i64 a3), (25, .int .u16 x5.toNat)]) (L' := (.own s_a0 23 1 (encs l14)) :: L) ⟨rfl, rfl, rfl, rfl, rfl, rfl, rfl, trivial⟩ rfl ?_
  obtain ⟨x31, h32, H⟩ := bind_some H
  have g33 := lat_some h32
  refine Lst.run rfl rfl (by decide) (Ev.indexS (α := BitVec 16) (xs := l14) rfl rfl Try.runUnderlying22 Try.sizeOf23 rfl (by decide) (Rd.own (i := 0) rfl rfl rfl) g33.1 g33.2.1) ?_
  obtain ⟨p34, h35, H⟩ := Let_some H
  refine Lst.storeS (i := 0) rfl rfl rfl rfl rfl Try.sizeOf23 (vs := [.int .u16 x5.toNat]) rfl rfl (by decide) rfl (xs' := encs p34) (by rw [← h35]; exact (Put.elemN (s := 1) (x := x31) rfl g33.2.2 (Put.here (vs := [.int .u16 x5.toNat]) rfl)).off (by omega)) (L' := (.own s_a0 23 1 (encs p34)) :: L) rfl ?_
  refine Lst.nil ?_
  refine At.then ?_
  refine Cd.seq ?_
  refine Cd.region ?_
  refine Lst.run rfl rfl (by decide) (Ev.move rfl) ?_
  refine Lst.run rfl rfl (by decide) (Ev.add rfl rfl) ?_
  refine Lst.run rfl rfl (by decide) (Ev.move rfl) ?_
  refine Lst.run rfl rfl (by decide) (Ev.sub rfl rfl) ?_
  refine Lst.run rfl rfl (by decide) (Ev.assign rfl) ?_
  refine Lst.run rfl rfl (by decide) (Ev.assign rfl) ?_
  refine Lst.nil ?_
  refine At.then ?_
  refine Cd.seq ?_
  refine Cd.block ?_
  obtain ⟨ol36, H, HKl36⟩ := andThen_some H
  refine Cd.loop (σ := Nat × Int) (fun (k36, y37) => [(0, Sl.v s_a0), (1, .int .i64 a1), (4, .func (.func 53) #[] #[]), (12, .int .i64 y37), (13, .int .i64 (w64 (a2 - (1 : Int))))]) (fun (k36, y37) => (.own s_a0 23 1 (encs p34)) :: L) (fun _ => (fun (k36, y37) => whileM (slices_partitionCmpFunc_uint16_quorum_compare_B0 a1 a2 p34) k36 y37 = some ol36)) (fun (k36, y37) => k36) (fu, w64 (a1 + (1 : Int))) ⟨rfl, rfl, rfl, rfl, rfl, trivial⟩ rfl H ?_
  rintro F38 ⟨k36, y37⟩ hF39 H
  refine Cd.as (e' := [(0, Sl.v s_a0), (1, .int .i64 a1), (4, .func (.func 53) #[] #[]), (12, .int .i64 y37), (13, .int .i64 (w64 (a2 - (1 : Int))))]) (L' := (.own s_a0 23 1 (encs p34)) :: L) ⟨rfl, rfl, rfl, rfl, rfl, trivial⟩ rfl ?_
  rcases k36 with _ | k36
  · cases H
  obtain ⟨c36, H, hgo36, hbrk36, hret36⟩ := whileM_go H
  unfold slices_partitionCmpFunc_uint16_quorum_compare_B0 at H
  try dsimp only at H
  refine Cd.seq ?_
  refine Cd.seq ?_
  refine Cd.quiet (by kernel_rfl) (by kernel_rfl) ?_
  refine Qt.run rfl rfl (by decide) (Ev.move rfl) ?_
  refine Qt.run rfl rfl (by decide) (Ev.move rfl) ?_
  refine Qt.run rfl rfl (by decide) (Ev.leq rfl rfl) ?_
  refine Qt.run rfl rfl (by decide) (Ev.move rfl) ?_
  obtain ⟨o40, H, HKo40⟩ := bind_some H
  refine Qt.join (σ := Bool) 12 (fun y41 => [(0, Sl.v s_a0), (1, .int .i64 a1), (4, .func (.func 53) #[] #[]), (12, .int .i64 y37), (13, .int .i64 (w64 (a2 - (1 : Int)))), (47, .bool y41)]) (fun y41 => y41 = o40) ?_ ?_
  · rcases (Bool.eq_false_or_eq_true (decide (y37 ≤ (w64 (a2 - (1 : Int)))))).symm with hb42 | hb42
    · replace H := ite_f hb42 H
      refine Qt.skip rfl rfl rfl hb42 rfl (by decide) ?_
      refine Qt.skip rfl rfl rfl hb42 rfl (by decide) ?_
      refine Qt.skip rfl rfl rfl hb42 rfl (by decide) ?_
      refine Qt.skip rfl rfl rfl hb42 rfl (by decide) ?_
      refine Qt.skip rfl rfl rfl hb42 rfl (by decide) ?_
      refine Qt.skip rfl rfl rfl hb42 rfl (by decide) ?_
      refine Qt.skip rfl rfl rfl hb42 rfl (by decide) ?_
      refine Qt.skip rfl rfl rfl hb42 rfl (by decide) ?_
      refine Qt.skip rfl rfl rfl hb42 rfl (by decide) ?_
      refine Qt.skip rfl rfl rfl hb42 rfl (by decide) ?_
      refine Qt.skip rfl rfl rfl hb42 rfl (by decide) ?_
      refine Qt.run rfl rfl (by decide) (Ev.pickF rfl hb42 rfl) ?_
      exact Qt.meet false ⟨rfl, rfl, rfl, rfl, rfl, rfl, trivial⟩ (some_inj H)
    replace H := ite_t hb42 H
    refine Qt.runG rfl rfl rfl hb42 rfl (by decide) (Ev.move rfl) ?_
    refine Qt.runG rfl rfl rfl hb42 rfl (by decide) (Ev.move rfl) ?_
    refine Qt.runG rfl rfl rfl hb42 rfl (by decide) (Ev.move rfl) ?_
    obtain ⟨x43, h44, H⟩ := bind_some H
    have g45 := lat_some h44
    refine Qt.runG rfl rfl rfl hb42 rfl (by decide) (Ev.indexS (α := BitVec 16) (xs := p34) rfl rfl Try.runUnderlying22 Try.sizeOf23 rfl (by decide) (Rd.own (i := 0) rfl rfl rfl) g45.1 g45.2.1) ?_
    refine Qt.runG rfl rfl rfl hb42 rfl (by decide) (Ev.loadS (α := BitVec 16) rfl (Rd.own (i := 0) rfl rfl rfl) Try.isAgg23 (v := .int .u16 x43.toNat) ((Get.elemN (s := 1) (x := x43) rfl g45.2.2 (Get.here _)).off (by omega))) ?_
    refine Qt.runG rfl rfl rfl hb42 rfl (by decide) (Ev.move rfl) ?_
    refine Qt.runG rfl rfl rfl hb42 rfl (by decide) (Ev.move rfl) ?_
    obtain ⟨x46, h47, H⟩ := bind_some H
    have g48 := lat_some h47
    refine Qt.runG rfl rfl rfl hb42 rfl (by decide) (Ev.indexS (α := BitVec 16) (xs := p34) rfl rfl Try.runUnderlying22 Try.sizeOf23 rfl (by decide) (Rd.own (i := 0) rfl rfl rfl) g48.1 g48.2.1) ?_
    refine Qt.runG rfl rfl rfl hb42 rfl (by decide) (Ev.loadS (α := BitVec 16) rfl (Rd.own (i := 0) rfl rfl rfl) Try.isAgg23 (v := .int .u16 x46.toNat) ((Get.elemN (s := 1) (x := x46) rfl g48.2.2 (Get.here _)).off (by omega))) ?_
    obtain ⟨r49, h50, H⟩ := bind_some H
    refine Qt.callVG rfl rfl rfl hb42 rfl (by decide) (vs := [.int .u16 x43.toNat, .int .u16 x46.toNat]) (cs := []) rfl ⟨rfl, rfl, trivial⟩ Try.call53 (quorum_compare_sim h50 w0 _ M _ (List.Sublist.cons _ hM)) ?_
    refine Qt.runG rfl rfl rfl hb42 rfl (by decide) (Ev.lss rfl rfl) ?_
    refine Qt.run rfl rfl (by decide) (Ev.pickT rfl hb42 rfl) ?_
    exact Qt.meet (decide (r49 < (0 : Int))) ⟨rfl, rfl, rfl, rfl, rfl, rfl, trivial⟩ (some_inj H)
  rintro y41 hy
  subst hy
  refine Qt.as (e' := [(0, Sl.v s_a0), (1, .int .i64 a1), (4, .func (.func 53) #[] #[]), (12, .int .i64 y37), (13, .int .i64 (w64 (a2 - (1 : Int)))), (47, .bool y41)]) ⟨rfl, rfl, rfl, rfl, rfl, rfl, trivial⟩ ?_
  replace H := HKo40
  refine Qt.done ?_
  refine At.then ?_
  rcases (Bool.eq_false_or_eq_true y41).symm with hb53 | hb53
  · replace H := ite_f hb53 H
    refine Cd.condF rfl hb53 ?_
    refine Cd.exit ?_
    refine At.then_exit ?_
    refine At.then_exit ?_
    refine At.in_exit ?_
    have H := hbrk36 _ (some_inj H).symm
    subst H
    replace H := HKl36
    refine At.then ?_
    refine Cd.seq ?_
    refine Cd.block ?_
    obtain ⟨ol54, H, HKl54⟩ := andThen_some H
    refine Cd.loop (σ := Nat × Int) (fun (k54, y55) => [(0, Sl.v s_a0), (1, .int .i64 a1), (4, .func (.func 53) #[] #[]), (12, .int .i64 y37), (13, .int .i64 y55)]) (fun (k54, y55) => (.own s_a0 23 1 (encs p34)) :: L) (fun _ => (fun (k54, y55) => whileM (slices_partitionCmpFunc_uint16_quorum_compare_B2 a1 p34 y37) k54 y55 = some ol54)) (fun (k54, y55) => k54) (fu, w64 (a2 - (1 : Int))) ⟨rfl, rfl, rfl, rfl, rfl, trivial⟩ rfl H ?_
    rintro F56 ⟨k54, y55⟩ hF57 H
    refine Cd.as (e' := [(0, Sl.v s_a0), (1, .int .i64 a1), (4, .func (.func 53) #[] #[]), (12, .int .i64 y37), (13, .int .i64 y55)]) (L' := (.own s_a0 23 1 (encs p34)) :: L) ⟨rfl, rfl, rfl, rfl, rfl, trivial⟩ rfl ?_
    rcases k54 with _ | k54
    · cases H
    obtain ⟨c54, H, hgo54, hbrk54, hret54⟩ := whileM_go H
    unfold slices_partitionCmpFunc_uint16_quorum_compare_B2 at H
    try dsimp only at H
    refine Cd.seq ?_
    refine Cd.seq ?_
    refine Cd.quiet (by kernel_rfl) (by kernel_rfl) ?_
    refine Qt.run rfl rfl (by decide) (Ev.move rfl) ?_
    refine Qt.run rfl rfl (by decide) (Ev.move rfl) ?_
    refine Qt.run rfl rfl (by decide) (Ev.leq rfl rfl) ?_
    refine Qt.run rfl rfl (by decide) (Ev.move rfl) ?_
    obtain ⟨o58, H, HKo58⟩ := bind_some H
    refine Qt.join (σ := Bool) 13 (fun y59 => [(0, Sl.v s_a0), (1, .int .i64 a1), (4, .func (.func 53) #[] #[]), (12, .int .i64 y37), (13, .int .i64 y55), (66, .bool y59)]) (fun y59 => y59 = o58) ?_ ?_
    · rcases (Bool.eq_false_or_eq_true (decide (y37 ≤ y55))).symm with hb60 | hb60
      · replace H := ite_f hb60 H
        refine Qt.skip rfl rfl rfl hb60 rfl (by decide) ?_
        refine Qt.skip rfl rfl rfl hb60 rfl (by decide) ?_
        refine Qt.skip rfl rfl rfl hb60 rfl (by decide) ?_
        refine Qt.skip rfl rfl rfl hb60 rfl (by decide) ?_
        refine Qt.skip rfl rfl rfl hb60 rfl (by decide) ?_
        refine Qt.skip rfl rfl rfl hb60 rfl (by decide) ?_
        refine Qt.skip rfl rfl rfl hb60 rfl (by decide) ?_
        refine Qt.skip rfl rfl rfl hb60 rfl (by decide) ?_
        refine Qt.skip rfl rfl rfl hb60 rfl (by decide) ?_
        refine Qt.skip rfl rfl rfl hb60 rfl (by decide) ?_
        refine Qt.skip rfl rfl rfl hb60 rfl (by decide) ?_
        refine Qt.skip rfl rfl rfl hb60 rfl (by decide) ?_
        refine Qt.run rfl rfl (by decide) (Ev.pickF rfl hb60 rfl) ?_
        exact Qt.meet false ⟨rfl, rfl, rfl, rfl, rfl, rfl, trivial⟩ (some_inj H)
      replace H := ite_t hb60 H
      refine Qt.runG rfl rfl rfl hb60 rfl (by decide) (Ev.move rfl) ?_
      refine Qt.runG rfl rfl rfl hb60 rfl (by decide) (Ev.move rfl) ?_
      refine Qt.runG rfl rfl rfl hb60 rfl (by decide) (Ev.move rfl) ?_
      obtain ⟨x61, h62, H⟩ := bind_some H
      have g63 := lat_some h62
      refine Qt.runG rfl rfl rfl hb60 rfl (by decide) (Ev.indexS (α := BitVec 16) (xs := p34) rfl rfl Try.runUnderlying22 Try.sizeOf23 rfl (by decide) (Rd.own (i := 0) rfl rfl rfl) g63.1 g63.2.1) ?_
      refine Qt.runG rfl rfl rfl hb60 rfl (by decide) (Ev.loadS (α := BitVec 16) rfl (Rd.own (i := 0) rfl rfl rfl) Try.isAgg23 (v := .int .u16 x61.toNat) ((Get.elemN (s := 1) (x := x61) rfl g63.2.2 (Get.here _)).off (by omega))) ?_
      refine Qt.runG rfl rfl rfl hb60 rfl (by decide) (Ev.move rfl) ?_
      refine Qt.runG rfl rfl rfl hb60 rfl (by decide) (Ev.move rfl) ?_
      obtain ⟨x64, h65, H⟩ := bind_some H
      have g66 := lat_some h65
      refine Qt.runG rfl rfl rfl hb60 rfl (by decide) (Ev.indexS (α := BitVec 16) (xs := p34) rfl rfl Try.runUnderlying22 Try.sizeOf23 rfl (by decide) (Rd.own (i := 0) rfl rfl rfl) g66.1 g66.2.1) ?_
      refine Qt.runG rfl rfl rfl hb60 rfl (by decide) (Ev.loadS (α := BitVec 16) rfl (Rd.own (i := 0) rfl rfl rfl) Try.isAgg23 (v := .int .u16 x64.toNat) ((Get.elemN (s := 1) (x := x64) rfl g66.2.2 (Get.here _)).off (by omega))) ?_
      obtain ⟨r67, h68, H⟩ := bind_some H
      refine Qt.callVG rfl rfl rfl hb60 rfl (by decide) (vs := [.int .u16 x61.toNat, .int .u16 x64.toNat]) (cs := []) rfl ⟨rfl, rfl, trivial⟩ Try.call53 (quorum_compare_sim h68 w0 _ M _ (List.Sublist.cons _ hM)) ?_
      refine Qt.runG rfl rfl rfl hb60 rfl (by decide) (Ev.lss rfl rfl) ?_
      refine Qt.runG rfl rfl rfl hb60 rfl (by decide) (Ev.not rfl) ?_
      refine Qt.run rfl rfl (by decide) (Ev.pickT rfl hb60 rfl) ?_
      exact Qt.meet (!(decide (r67 < (0 : Int)))) ⟨rfl, rfl, rfl, rfl, rfl, rfl, trivial⟩ (some_inj H)
    rintro y59 hy
    subst hy
    refine Qt.as (e' := [(0, Sl.v s_a0), (1, .int .i64 a1), (4, .func (.func 53) #[] #[]), (12, .int .i64 y37), (13, .int .i64 y55), (66, .bool y59)]) ⟨rfl, rfl, rfl, rfl, rfl, rfl, trivial⟩ ?_
    replace H := HKo58
    refine Qt.done ?_
    refine At.then ?_
    rcases (Bool.eq_false_or_eq_true y59).symm with hb71 | hb71
    · replace H := ite_f hb71 H
      refine Cd.condF rfl hb71 ?_
      refine Cd.exit ?_
      refine At.then_exit ?_
      refine At.then_exit ?_
      refine At.in_exit ?_
      have H := hbrk54 _ (some_inj H).symm
      subst H
      replace H := HKl54
      refine At.then ?_
      refine Cd.seq ?_
      refine Cd.seq ?_
      refine Cd.region ?_
      refine Lst.run rfl rfl (by decide) (Ev.move rfl) ?_
      refine Lst.run rfl rfl (by decide) (Ev.move rfl) ?_
      refine Lst.run rfl rfl (by decide) (Ev.gtr rfl rfl) ?_
      refine Lst.nil ?_
      refine At.then ?_
      rcases Bool.eq_false_or_eq_true (decide (y37 > y55)) with hb72 | hb72
      · replace H := ite_t hb72 H
        refine Cd.condT rfl hb72 ?_
        refine Cd.seq ?_
        obtain ⟨x73, h74, H⟩ := bind_some H
        obtain ⟨x76, h77, H⟩ := bind_some H
        obtain ⟨x79, h80, H⟩ := bind_some H
        obtain ⟨p82, h83, H⟩ := Let_some H
        obtain ⟨o86, h87, H⟩ := Let_some H
        refine Cd.headMeet (σ := (List (BitVec 16))) 14 (fun l85 => [(13, .int .i64 y55), (74, Sl.v s_a0), (75, .int .i64 a1), (83, .int .u16 x76.toNat)]) (fun l85 => (.own s_a0 23 1 (encs l85)) :: L) (fun _ l85 => l85 = o86) (by kernel_rfl) (by kernel_rfl) (behind_sink (by kernel_rfl) (by kernel_rfl) (by kernel_rfl)) (by kernel_rfl) (fun hsel hlt => ?_) ?_
        · refine HdJ.keep (fun w => St w0 F56 (L) w) (fun w h => trivial) ?_
          refine HdJ.takeK hsel hlt 0 (fun w h => h.sublist (List.Sublist.cons _ (List.Sublist.refl _))) rfl rfl (by decide) (by decide) (by kernel_rfl) (by kernel_rfl) rfl (Ev.move rfl) ?_
          refine HdJ.takeK hsel hlt 1 (fun w h => h.sublist (List.Sublist.cons _ (List.Sublist.refl _))) rfl rfl (by decide) (by decide) (by kernel_rfl) (by kernel_rfl) rfl (Ev.move rfl) ?_
          refine HdJ.takeK hsel hlt 2 (fun w h => h.sublist (List.Sublist.cons _ (List.Sublist.refl _))) rfl rfl (by decide) (by decide) (by kernel_rfl) (by kernel_rfl) rfl (Ev.move rfl) ?_
          refine HdJ.takeK hsel hlt 3 (fun w h => h.sublist (List.Sublist.cons _ (List.Sublist.refl _))) rfl rfl (by decide) (by decide) (by kernel_rfl) (by kernel_rfl) rfl (Ev.move rfl) ?_
          refine HdJ.takeK hsel hlt 4 (fun w h => h.sublist (List.Sublist.cons _ (List.Sublist.refl _))) rfl rfl (by decide) (by decide) (by kernel_rfl) (by kernel_rfl) rfl (Ev.move rfl) ?_
          refine HdJ.takeK hsel hlt 5 (fun w h => h.sublist (List.Sublist.cons _ (List.Sublist.refl _))) rfl rfl (by decide) (by decide) (by kernel_rfl) (by kernel_rfl) rfl (Ev.move rfl) ?_
          refine HdJ.takeK hsel hlt 8 (fun w h => h.sublist (List.Sublist.cons _ (List.Sublist.refl _))) rfl rfl (by decide) (by decide) (by kernel_rfl) (by kernel_rfl) rfl (Ev.move rfl) ?_
          refine HdJ.takeK hsel hlt 9 (fun w h => h.sublist (List.Sublist.cons _ (List.Sublist.refl _))) rfl rfl (by decide) (by decide) (by kernel_rfl) (by kernel_rfl) rfl (Ev.move rfl) ?_
          refine HdJ.step [6, 10] (by kernel_rfl) rfl ?_
          refine HdStep.cons (by decide) rfl (fun inv => ?_) ?_
          · have g88 := lat_some h74
            refine Lst.run rfl rfl (by decide) (Ev.indexS (α := BitVec 16) (xs := p34) rfl rfl Try.runUnderlying22 Try.sizeOf23 rfl (by decide) (Rd.own (i := 0) rfl rfl rfl) g88.1 g88.2.1) ?_
            refine Lst.nil ?_
            refine At.hd inv (fun w h => (h.weaken (FLe.refl _)).sublist (List.Sublist.cons _ (List.Sublist.refl _))) ?_
            refine HdJ.step [7, 10] (by kernel_rfl) rfl ?_
            refine HdStep.cons (by decide) rfl (fun inv => ?_) ?_
            · refine Lst.run rfl rfl (by decide) (Ev.loadS (α := BitVec 16) rfl (Rd.own (i := 0) rfl rfl rfl) Try.isAgg23 (v := .int .u16 x73.toNat) ((Get.elemN (s := 1) (x := x73) rfl g88.2.2 (Get.here _)).off (by omega))) ?_
              refine Lst.nil ?_
              refine At.hd inv (fun w h => (h.weaken (FLe.refl _)).sublist (List.Sublist.cons _ (List.Sublist.refl _))) ?_
              refine HdJ.step [10] (by kernel_rfl) rfl ?_
              refine HdStep.cons (by decide) rfl (fun inv => ?_) ?_
              · have g89 := lat_some h77
                refine Lst.run rfl rfl (by decide) (Ev.indexS (α := BitVec 16) (xs := p34) rfl rfl Try.runUnderlying22 Try.sizeOf23 rfl (by decide) (Rd.own (i := 0) rfl rfl rfl) g89.1 g89.2.1) ?_
                refine Lst.nil ?_
                refine At.hd inv (fun w h => (h.weaken (FLe.refl _)).sublist (List.Sublist.cons _ (List.Sublist.refl _))) ?_
                refine HdJ.step [11] (by kernel_rfl) rfl ?_
                refine HdStep.cons (by decide) rfl (fun inv => ?_) ?_
                · refine Lst.run rfl rfl (by decide) (Ev.loadS (α := BitVec 16) rfl (Rd.own (i := 0) rfl rfl rfl) Try.isAgg23 (v := .int .u16 x76.toNat) ((Get.elemN (s := 1) (x := x76) rfl g89.2.2 (Get.here _)).off (by omega))) ?_
                  refine Lst.nil ?_
                  refine At.hd inv (fun w h => (h.weaken (FLe.refl _)).sublist (List.Sublist.cons _ (List.Sublist.refl _))) ?_
                  refine HdJ.step [12] (by kernel_rfl) rfl ?_
                  refine HdStep.cons (by decide) rfl (fun inv => ?_) ?_
                  · have g90 := lat_some h80
                    refine Lst.run rfl rfl (by decide) (Ev.indexS (α := BitVec 16) (xs := p34) rfl rfl Try.runUnderlying22 Try.sizeOf23 rfl (by decide) (Rd.own (i := 0) rfl rfl rfl) g90.1 g90.2.1) ?_
                    refine Lst.nil ?_
                    refine At.hd inv (fun w h => (h.weaken (FLe.refl _)).sublist (List.Sublist.cons _ (List.Sublist.refl _))) ?_
                    refine HdJ.step [13] (by kernel_rfl) rfl ?_
                    refine HdStep.cons (by decide) rfl (fun inv => ?_) ?_
                    · refine Lst.storeS (i := 0) rfl rfl rfl rfl rfl Try.sizeOf23 (vs := [.int .u16 x73.toNat]) rfl rfl (by decide) rfl (xs' := encs p82) (by rw [← h83]; exact (Put.elemN (s := 1) (x := x79) rfl g90.2.2 (Put.here (vs := [.int .u16 x73.toNat]) rfl)).off (by omega)) (L' := (.own s_a0 23 1 (encs p82)) :: L) rfl ?_
                      refine Lst.nil ?_
                      refine At.hd inv (fun w h => (h.weaken (FLe.refl _)).sublist (List.Sublist.cons _ (List.Sublist.refl _))) ?_
                      refine HdJ.done (by kernel_rfl) ?_
                      exact At.meetN p82 (FLe.refl _) ⟨rfl, rfl, rfl, rfl, trivial⟩ rfl h87
                    exact trivial
                  exact trivial
                exact trivial
              exact trivial
            refine HdStep.cons (by decide) rfl (fun inv => ?_) ?_
            · have g91 := lat_some h77
              refine Lst.run rfl rfl (by decide) (Ev.indexS (α := BitVec 16) (xs := p34) rfl rfl Try.runUnderlying22 Try.sizeOf23 rfl (by decide) (Rd.own (i := 0) rfl rfl rfl) g91.1 g91.2.1) ?_
              refine Lst.nil ?_
              refine At.hd inv (fun w h => (h.weaken (FLe.refl _)).sublist (List.Sublist.cons _ (List.Sublist.refl _))) ?_
              refine HdJ.step [7, 11] (by kernel_rfl) rfl ?_
              refine HdStep.cons (by decide) rfl (fun inv => ?_) ?_
              · refine Lst.run rfl rfl (by decide) (Ev.loadS (α := BitVec 16) rfl (Rd.own (i := 0) rfl rfl rfl) Try.isAgg23 (v := .int .u16 x73.toNat) ((Get.elemN (s := 1) (x := x73) rfl g88.2.2 (Get.here _)).off (by omega))) ?_
                refine Lst.nil ?_
                refine At.hd inv (fun w h => (h.weaken (FLe.refl _)).sublist (List.Sublist.cons _ (List.Sublist.refl _))) ?_
                refine HdJ.step [11] (by kernel_rfl) rfl ?_
                refine HdStep.cons (by decide) rfl (fun inv => ?_) ?_
                · refine Lst.run rfl rfl (by decide) (Ev.loadS (α := BitVec 16) rfl (Rd.own (i := 0) rfl rfl rfl) Try.isAgg23 (v := .int .u16 x76.toNat) ((Get.elemN (s := 1) (x := x76) rfl g91.2.2 (Get.here _)).off (by omega))) ?_
                  refine Lst.nil ?_
                  refine At.hd inv (fun w h => (h.weaken (FLe.refl _)).sublist (List.Sublist.cons _ (List.Sublist.refl _))) ?_
                  refine HdJ.step [12] (by kernel_rfl) rfl ?_
                  refine HdStep.cons (by decide) rfl (fun inv => ?_) ?_
                  · have g92 := lat_some h80
                    refine Lst.run rfl rfl (by decide) (Ev.indexS (α := BitVec 16) (xs := p34) rfl rfl Try.runUnderlying22 Try.sizeOf23 rfl (by decide) (Rd.own (i := 0) rfl rfl rfl) g92.1 g92.2.1) ?_
                    refine Lst.nil ?_
                    refine At.hd inv (fun w h => (h.weaken (FLe.refl _)).sublist (List.Sublist.cons _ (List.Sublist.refl _))) ?_
                    refine HdJ.step [13] (by kernel_rfl) rfl ?_
                    refine HdStep.cons (by decide) rfl (fun inv => ?_) ?_
                    · refine Lst.storeS (i := 0) rfl rfl rfl rfl rfl Try.sizeOf23 (vs := [.int .u16 x73.toNat]) rfl rfl (by decide) rfl (xs' := encs p82) (by rw [← h83]; exact (Put.elemN (s := 1) (x := x79) rfl g92.2.2 (Put.here (vs := [.int .u16 x73.toNat]) rfl)).off (by omega)) (L' := (.own s_a0 23 1 (encs p82)) :: L) rfl ?_
                      refine Lst.nil ?_
                      refine At.hd inv (fun w h => (h.weaken (FLe.refl _)).sublist (List.Sublist.cons _ (List.Sublist.refl _))) ?_
                      refine HdJ.done (by kernel_rfl) ?_
                      exact At.meetN p82 (FLe.refl _) ⟨rfl, rfl, rfl, rfl, trivial⟩ rfl h87
                    exact trivial
                  exact trivial
                exact trivial
              refine HdStep.cons (by decide) rfl (fun inv => ?_) ?_
              · refine Lst.run rfl rfl (by decide) (Ev.loadS (α := BitVec 16) rfl (Rd.own (i := 0) rfl rfl rfl) Try.isAgg23 (v := .int .u16 x76.toNat) ((Get.elemN (s := 1) (x := x76) rfl g91.2.2 (Get.here _)).off (by omega))) ?_
                refine Lst.nil ?_
                refine At.hd inv (fun w h => (h.weaken (FLe.refl _)).sublist (List.Sublist.cons _ (List.Sublist.refl _))) ?_
                refine HdJ.step [7] (by kernel_rfl) rfl ?_
                refine HdStep.cons (by decide) rfl (fun inv => ?_) ?_
                · refine Lst.run rfl rfl (by decide) (Ev.loadS (α := BitVec 16) rfl (Rd.own (i := 0) rfl rfl rfl) Try.isAgg23 (v := .int .u16 x73.toNat) ((Get.elemN (s := 1) (x := x73) rfl g88.2.2 (Get.here _)).off (by omega))) ?_
                  refine Lst.nil ?_
                  refine At.hd inv (fun w h => (h.weaken (FLe.refl _)).sublist (List.Sublist.cons _ (List.Sublist.refl _))) ?_
                  refine HdJ.step [12] (by kernel_rfl) rfl ?_
                  refine HdStep.cons (by decide) rfl (fun inv => ?_) ?_
                  · have g93 := lat_some h80
                    refine Lst.run rfl rfl (by decide) (Ev.indexS (α := BitVec 16) (xs := p34) rfl rfl Try.runUnderlying22 Try.sizeOf23 rfl (by decide) (Rd.own (i := 0) rfl rfl rfl) g93.1 g93.2.1) ?_
                    refine Lst.nil ?_
                    refine At.hd inv (fun w h => (h.weaken (FLe.refl _)).sublist (List.Sublist.cons _ (List.Sublist.refl _))) ?_
                    refine HdJ.step [13] (by kernel_rfl) rfl ?_
                    refine HdStep.cons (by decide) rfl (fun inv => ?_) ?_
                    · refine Lst.storeS (i := 0) rfl rfl rfl rfl rfl Try.sizeOf23 (vs := [.int .u16 x73.toNat]) rfl rfl (by decide) rfl (xs' := encs p82) (by rw [← h83]; exact (Put.elemN (s := 1) (x := x79) rfl g93.2.2 (Put.here (vs := [.int .u16 x73.toNat]) rfl)).off (by omega)) (L' := (.own s_a0 23 1 (encs p82)) :: L) rfl ?_
                      refine Lst.nil ?_
                      refine At.hd inv (fun w h => (h.weaken (FLe.refl _)).sublist (List.Sublist.cons _ (List.Sublist.refl _))) ?_
                      refine HdJ.done (by kernel_rfl) ?_
                      exact At.meetN p82 (FLe.refl _) ⟨rfl, rfl, rfl, rfl, trivial⟩ rfl h87
                    exact trivial
                  exact trivial
                exact trivial
              exact trivial
            exact trivial
          refine HdStep.cons (by decide) rfl (fun inv => ?_) ?_
          · have g94 := lat_some h77
            refine Lst.run rfl rfl (by decide) (Ev.indexS (α := BitVec 16) (xs := p34) rfl rfl Try.runUnderlying22 Try.sizeOf23 rfl (by decide) (Rd.own (i := 0) rfl rfl rfl) g94.1 g94.2.1) ?_
            refine Lst.nil ?_
            refine At.hd inv (fun w h => (h.weaken (FLe.refl _)).sublist (List.Sublist.cons _ (List.Sublist.refl _))) ?_
            refine HdJ.step [6, 11] (by kernel_rfl) rfl ?_
            refine HdStep.cons (by decide) rfl (fun inv => ?_) ?_
            · have g95 := lat_some h74
              refine Lst.run rfl rfl (by decide) (Ev.indexS (α := BitVec 16) (xs := p34) rfl rfl Try.runUnderlying22 Try.sizeOf23 rfl (by decide) (Rd.own (i := 0) rfl rfl rfl) g95.1 g95.2.1) ?_
              refine Lst.nil ?_
              refine At.hd inv (fun w h => (h.weaken (FLe.refl _)).sublist (List.Sublist.cons _ (List.Sublist.refl _))) ?_
              refine HdJ.step [7, 11] (by kernel_rfl) rfl ?_
              refine HdStep.cons (by decide) rfl (fun inv => ?_) ?_
              · refine Lst.run rfl rfl (by decide) (Ev.loadS (α := BitVec 16) rfl (Rd.own (i := 0) rfl rfl rfl) Try.isAgg23 (v := .int .u16 x73.toNat) ((Get.elemN (s := 1) (x := x73) rfl g95.2.2 (Get.here _)).off (by omega))) ?_
                refine Lst.nil ?_
                refine At.hd inv (fun w h => (h.weaken (FLe.refl _)).sublist (List.Sublist.cons _ (List.Sublist.refl _))) ?_
                refine HdJ.step [11] (by kernel_rfl) rfl ?_
                refine HdStep.cons (by decide) rfl (fun inv => ?_) ?_
                · refine Lst.run rfl rfl (by decide) (Ev.loadS (α := BitVec 16) rfl (Rd.own (i := 0) rfl rfl rfl) Try.isAgg23 (v := .int .u16 x76.toNat) ((Get.elemN (s := 1) (x := x76) rfl g94.2.2 (Get.here _)).off (by omega))) ?_
                  refine Lst.nil ?_
                  refine At.hd inv (fun w h => (h.weaken (FLe.refl _)).sublist (List.Sublist.cons _ (List.Sublist.refl _))) ?_
                  refine HdJ.step [12] (by kernel_rfl) rfl ?_
                  refine HdStep.cons (by decide) rfl (fun inv => ?_) ?_
                  · have g96 := lat_some h80
                    refine Lst.run rfl rfl (by decide) (Ev.indexS (α := BitVec 16) (xs := p34) rfl rfl Try.runUnderlying22 Try.sizeOf23 rfl (by decide) (Rd.own (i := 0) rfl rfl rfl) g96.1 g96.2.1) ?_
                    refine Lst.nil ?_
                    refine At.hd inv (fun w h => (h.weaken (FLe.refl _)).sublist (List.Sublist.cons _ (List.Sublist.refl _))) ?_
                    refine HdJ.step [13] (by kernel_rfl) rfl ?_
                    refine HdStep.cons (by decide) rfl (fun inv => ?_) ?_
                    · refine Lst.storeS (i := 0) rfl rfl rfl rfl rfl Try.sizeOf23 (vs := [.int .u16 x73.toNat]) rfl rfl (by decide) rfl (xs' := encs p82) (by rw [← h83]; exact (Put.elemN (s := 1) (x := x79) rfl g96.2.2 (Put.here (vs := [.int .u16 x73.toNat]) rfl)).off (by omega)) (L' := (.own s_a0 23 1 (encs p82)) :: L) rfl ?_
                      refine Lst.nil ?_
                      refine At.hd inv (fun w h => (h.weaken (FLe.refl _)).sublist (List.Sublist.cons _ (List.Sublist.refl _))) ?_
                      refine HdJ.done (by kernel_rfl) ?_
                      exact At.meetN p82 (FLe.refl _) ⟨rfl, rfl, rfl, rfl, trivial⟩ rfl h87
                    exact trivial
                  exact trivial
                exact trivial
              refine HdStep.cons (by decide) rfl (fun inv => ?_) ?_
              · refine Lst.run rfl rfl (by decide) (Ev.loadS (α := BitVec 16) rfl (Rd.own (i := 0) rfl rfl rfl) Try.isAgg23 (v := .int .u16 x76.toNat) ((Get.elemN (s := 1) (x := x76) rfl g94.2.2 (Get.here _)).off (by omega))) ?_
                refine Lst.nil ?_
                refine At.hd inv (fun w h => (h.weaken (FLe.refl _)).sublist (List.Sublist.cons _ (List.Sublist.refl _))) ?_
                refine HdJ.step [7] (by kernel_rfl) rfl ?_
                refine HdStep.cons (by decide) rfl (fun inv => ?_) ?_
                · refine Lst.run rfl rfl (by decide) (Ev.loadS (α := BitVec 16) rfl (Rd.own (i := 0) rfl rfl rfl) Try.isAgg23 (v := .int .u16 x73.toNat) ((Get.elemN (s := 1) (x := x73) rfl g95.2.2 (Get.here _)).off (by omega))) ?_
                  refine Lst.nil ?_
                  refine At.hd inv (fun w h => (h.weaken (FLe.refl _)).sublist (List.Sublist.cons _ (List.Sublist.refl _))) ?_
                  refine HdJ.step [12] (by kernel_rfl) rfl ?_
                  refine HdStep.cons (by decide) rfl (fun inv => ?_) ?_
                  · have g97 := lat_some h80
                    refine Lst.run rfl rfl (by decide) (Ev.indexS (α := BitVec 16) (xs := p34) rfl rfl Try.runUnderlying22 Try.sizeOf23 rfl (by decide) (Rd.own (i := 0) rfl rfl rfl) g97.1 g97.2.1) ?_
                    refine Lst.nil ?_
                    refine At.hd inv (fun w h => (h.weaken (FLe.refl _)).sublist (List.Sublist.cons _ (List.Sublist.refl _))) ?_
                    refine HdJ.step [13] (by kernel_rfl) rfl ?_
                    refine HdStep.cons (by decide) rfl (fun inv => ?_) ?_
                    · refine Lst.storeS (i := 0) rfl rfl rfl rfl rfl Try.sizeOf23 (vs := [.int .u16 x73.toNat]) rfl rfl (by decide) rfl (xs' := encs p82) (by rw [← h83]; exact (Put.elemN (s := 1) (x := x79) rfl g97.2.2 (Put.here (vs := [.int .u16 x73.toNat]) rfl)).off (by omega)) (L' := (.own s_a0 23 1 (encs p82)) :: L) rfl ?_
                      refine Lst.nil ?_
                      refine At.hd inv (fun w h => (h.weaken (FLe.refl _)).sublist (List.Sublist.cons _ (List.Sublist.refl _))) ?_
                      refine HdJ.done (by kernel_rfl) ?_
                      exact At.meetN p82 (FLe.refl _) ⟨rfl, rfl, rfl, rfl, trivial⟩ rfl h87
                    exact trivial
                  exact trivial
                exact trivial
              exact trivial
            refine HdStep.cons (by decide) rfl (fun inv => ?_) ?_
            · refine Lst.run rfl rfl (by decide) (Ev.loadS (α := BitVec 16) rfl (Rd.own (i := 0) rfl rfl rfl) Try.isAgg23 (v := .int .u16 x76.toNat) ((Get.elemN (s := 1) (x := x76) rfl g94.2.2 (Get.here _)).off (by omega))) ?_
              refine Lst.nil ?_
              refine At.hd inv (fun w h => (h.weaken (FLe.refl _)).sublist (List.Sublist.cons _ (List.Sublist.refl _))) ?_
              refine HdJ.step [6] (by kernel_rfl) rfl ?_
              refine HdStep.cons (by decide) rfl (fun inv => ?_) ?_
              · have g98 := lat_some h74
                refine Lst.run rfl rfl (by decide) (Ev.indexS (α := BitVec 16) (xs := p34) rfl rfl Try.runUnderlying22 Try.sizeOf23 rfl (by decide) (Rd.own (i := 0) rfl rfl rfl) g98.1 g98.2.1) ?_
                refine Lst.nil ?_
                refine At.hd inv (fun w h => (h.weaken (FLe.refl _)).sublist (List.Sublist.cons _ (List.Sublist.refl _))) ?_
                refine HdJ.step [7] (by kernel_rfl) rfl ?_
                refine HdStep.cons (by decide) rfl (fun inv => ?_) ?_
                · refine Lst.run rfl rfl (by decide) (Ev.loadS (α := BitVec 16) rfl (Rd.own (i := 0) rfl rfl rfl) Try.isAgg23 (v := .int .u16 x73.toNat) ((Get.elemN (s := 1) (x := x73) rfl g98.2.2 (Get.here _)).off (by omega))) ?_
                  refine Lst.nil ?_
                  refine At.hd inv (fun w h => (h.weaken (FLe.refl _)).sublist (List.Sublist.cons _ (List.Sublist.refl _))) ?_
                  refine HdJ.step [12] (by kernel_rfl) rfl ?_
                  refine HdStep.cons (by decide) rfl (fun inv => ?_) ?_
                  · have g99 := lat_some h80
                    refine Lst.run rfl rfl (by decide) (Ev.indexS (α := BitVec 16) (xs := p34) rfl rfl Try.runUnderlying22 Try.sizeOf23 rfl (by decide) (Rd.own (i := 0) rfl rfl rfl) g99.1 g99.2.1) ?_
                    refine Lst.nil ?_
                    refine At.hd inv (fun w h => (h.weaken (FLe.refl _)).sublist (List.Sublist.cons _ (List.Sublist.refl _))) ?_
                    refine HdJ.step [13] (by kernel_rfl) rfl ?_
                    refine HdStep.cons (by decide) rfl (fun inv => ?_) ?_
                    · refine Lst.storeS (i := 0) rfl rfl rfl rfl rfl Try.sizeOf23 (vs := [.int .u16 x73.toNat]) rfl rfl (by decide) rfl (xs' := encs p82) (by rw [← h83]; exact (Put.elemN (s := 1) (x := x79) rfl g99.2.2 (Put.here (vs := [.int .u16 x73.toNat]) rfl)).off (by omega)) (L' := (.own s_a0 23 1 (encs p82)) :: L) rfl ?_
                      refine Lst.nil ?_
                      refine At.hd inv (fun w h => (h.weaken (FLe.refl _)).sublist (List.Sublist.cons _ (List.Sublist.refl _))) ?_
                      refine HdJ.done (by kernel_rfl) ?_
                      exact At.meetN p82 (FLe.refl _) ⟨rfl, rfl, rfl, rfl, trivial⟩ rfl h87
                    exact trivial
                  exact trivial
                exact trivial
              exact trivial
            exact trivial
          exact trivial
        rintro F100 l85 hF101 hy
        subst hy
        refine Lst.as (e' := [(13, .int .i64 y55), (74, Sl.v s_a0), (75, .int .i64 a1), (83, .int .u16 x76.toNat)]) (L' := (.own s_a0 23 1 (encs l85)) :: L) ⟨rfl, rfl, rfl, rfl, trivial⟩ rfl ?_
        obtain ⟨x102, h103, H⟩ := bind_some H
        have g104 := lat_some h103
        refine Lst.run rfl rfl (by decide) (Ev.indexS (α := BitVec 16) (xs := l85) rfl rfl Try.runUnderlying22 Try.sizeOf23 rfl (by decide) (Rd.own (i := 0) rfl rfl rfl) g104.1 g104.2.1) ?_
        obtain ⟨p105, h106, H⟩ := Let_some H
        refine Lst.storeS (i := 0) rfl rfl rfl rfl rfl Try.sizeOf23 (vs := [.int .u16 x76.toNat]) rfl rfl (by decide) rfl (xs' := encs p105) (by rw [← h106]; exact (Put.elemN (s := 1) (x := x102) rfl g104.2.2 (Put.here (vs := [.int .u16 x76.toNat]) rfl)).off (by omega)) (L' := (.own s_a0 23 1 (encs p105)) :: L) rfl ?_
        refine Lst.nil ?_
        refine At.then ?_
        refine Cd.seq ?_
        refine Cd.region ?_
        refine Lst.run rfl rfl (by decide) (Ev.move rfl) ?_
        refine Lst.run rfl rfl (by decide) (Ev.assign rfl) ?_
        refine Lst.run rfl rfl (by decide) (Ev.assign rfl) ?_
        refine Lst.nil ?_
        refine At.then ?_
        obtain rfl := some_inj H
        refine Cd.ret ?_
        refine At.then_ret ?_
        exact At.ret2 rfl (Res.tmp rfl) (Res.tmp rfl) (FLe.trans (FLe.trans (FLe.trans hF30 hF39) hF57) hF101) (List.Sublist.cons_cons _ (List.Sublist.refl _)) ⟨rfl, rfl⟩
      replace H := ite_f hb72 H
      refine Cd.condF rfl hb72 ?_
      refine Cd.skip ?_
      refine At.then ?_
      refine Cd.seq ?_
      obtain ⟨x107, h108, H⟩ := bind_some H
      obtain ⟨x110, h111, H⟩ := bind_some H
      obtain ⟨x113, h114, H⟩ := bind_some H
      obtain ⟨p116, h117, H⟩ := Let_some H
      obtain ⟨o120, h121, H⟩ := Let_some H
      refine Cd.headMeet (σ := (List (BitVec 16))) 14 (fun l119 => [(0, Sl.v s_a0), (1, .int .i64 a1), (4, .func (.func 53) #[] #[]), (12, .int .i64 y37), (13, .int .i64 y55), (89, Sl.v s_a0), (90, .int .i64 y55), (98, .int .u16 x110.toNat)]) (fun l119 => (.own s_a0 23 1 (encs l119)) :: L) (fun _ l119 => l119 = o120) (by kernel_rfl) (by kernel_rfl) (behind_sink (by kernel_rfl) (by kernel_rfl) (by kernel_rfl)) (by kernel_rfl) (fun hsel hlt => ?_) ?_
      · refine HdJ.keep (fun w => St w0 F56 (L) w) (fun w h => trivial) ?_
        refine HdJ.takeK hsel hlt 0 (fun w h => h.sublist (List.Sublist.cons _ (List.Sublist.refl _))) rfl rfl (by decide) (by decide) (by kernel_rfl) (by kernel_rfl) rfl (Ev.move rfl) ?_
        refine HdJ.takeK hsel hlt 1 (fun w h => h.sublist (List.Sublist.cons _ (List.Sublist.refl _))) rfl rfl (by decide) (by decide) (by kernel_rfl) (by kernel_rfl) rfl (Ev.move rfl) ?_
        refine HdJ.takeK hsel hlt 2 (fun w h => h.sublist (List.Sublist.cons _ (List.Sublist.refl _))) rfl rfl (by decide) (by decide) (by kernel_rfl) (by kernel_rfl) rfl (Ev.move rfl) ?_
        refine HdJ.takeK hsel hlt 3 (fun w h => h.sublist (List.Sublist.cons _ (List.Sublist.refl _))) rfl rfl (by decide) (by decide) (by kernel_rfl) (by kernel_rfl) rfl (Ev.move rfl) ?_
        refine HdJ.takeK hsel hlt 4 (fun w h => h.sublist (List.Sublist.cons _ (List.Sublist.refl _))) rfl rfl (by decide) (by decide) (by kernel_rfl) (by kernel_rfl) rfl (Ev.move rfl) ?_
        refine HdJ.takeK hsel hlt 5 (fun w h => h.sublist (List.Sublist.cons _ (List.Sublist.refl _))) rfl rfl (by decide) (by decide) (by kernel_rfl) (by kernel_rfl) rfl (Ev.move rfl) ?_
        refine HdJ.takeK hsel hlt 8 (fun w h => h.sublist (List.Sublist.cons _ (List.Sublist.refl _))) rfl rfl (by decide) (by decide) (by kernel_rfl) (by kernel_rfl) rfl (Ev.move rfl) ?_
        refine HdJ.takeK hsel hlt 9 (fun w h => h.sublist (List.Sublist.cons _ (List.Sublist.refl _))) rfl rfl (by decide) (by decide) (by kernel_rfl) (by kernel_rfl) rfl (Ev.move rfl) ?_
        refine HdJ.step [6, 10] (by kernel_rfl) rfl ?_
        refine HdStep.cons (by decide) rfl (fun inv => ?_) ?_
        · have g122 := lat_some h108
          refine Lst.run rfl rfl (by decide) (Ev.indexS (α := BitVec 16) (xs := p34) rfl rfl Try.runUnderlying22 Try.sizeOf23 rfl (by decide) (Rd.own (i := 0) rfl rfl rfl) g122.1 g122.2.1) ?_
          refine Lst.nil ?_
          refine At.hd inv (fun w h => (h.weaken (FLe.refl _)).sublist (List.Sublist.cons _ (List.Sublist.refl _))) ?_
          refine HdJ.step [7, 10] (by kernel_rfl) rfl ?_
          refine HdStep.cons (by decide) rfl (fun inv => ?_) ?_
          · refine Lst.run rfl rfl (by decide) (Ev.loadS (α := BitVec 16) rfl (Rd.own (i := 0) rfl rfl rfl) Try.isAgg23 (v := .int .u16 x107.toNat) ((Get.elemN (s := 1) (x := x107) rfl g122.2.2 (Get.here _)).off (by omega))) ?_
            refine Lst.nil ?_
            refine At.hd inv (fun w h => (h.weaken (FLe.refl _)).sublist (List.Sublist.cons _ (List.Sublist.refl _))) ?_
            refine HdJ.step [10] (by kernel_rfl) rfl ?_
            refine HdStep.cons (by decide) rfl (fun inv => ?_) ?_
            · have g123 := lat_some h111
              refine Lst.run rfl rfl (by decide) (Ev.indexS (α := BitVec 16) (xs := p34) rfl rfl Try.runUnderlying22 Try.sizeOf23 rfl (by decide) (Rd.own (i := 0) rfl rfl rfl) g123.1 g123.2.1) ?_
              refine Lst.nil ?_
              refine At.hd inv (fun w h => (h.weaken (FLe.refl _)).sublist (List.Sublist.cons _ (List.Sublist.refl _))) ?_
              refine HdJ.step [11] (by kernel_rfl) rfl ?_
              refine HdStep.cons (by decide) rfl (fun inv => ?_) ?_
              · refine Lst.run rfl rfl (by decide) (Ev.loadS (α := BitVec 16) rfl (Rd.own (i := 0) rfl rfl rfl) Try.isAgg23 (v := .int .u16 x110.toNat) ((Get.elemN (s := 1) (x := x110) rfl g123.2.2 (Get.here _)).off (by omega))) ?_
                refine Lst.nil ?_
                refine At.hd inv (fun w h => (h.weaken (FLe.refl _)).sublist (List.Sublist.cons _ (List.Sublist.refl _))) ?_
                refine HdJ.step [12] (by kernel_rfl) rfl ?_
                refine HdStep.cons (by decide) rfl (fun inv => ?_) ?_
                · have g124 := lat_some h114
                  refine Lst.run rfl rfl (by decide) (Ev.indexS (α := BitVec 16) (xs := p34) rfl rfl Try.runUnderlying22 Try.sizeOf23 rfl (by decide) (Rd.own (i := 0) rfl rfl rfl) g124.1 g124.2.1) ?_
                  refine Lst.nil ?_
                  refine At.hd inv (fun w h => (h.weaken (FLe.refl _)).sublist (List.Sublist.cons _ (List.Sublist.refl _))) ?_
                  refine HdJ.step [13] (by kernel_rfl) rfl ?_
                  refine HdStep.cons (by decide) rfl (fun inv => ?_) ?_
                  · refine Lst.storeS (i := 0) rfl rfl rfl rfl rfl Try.sizeOf23 (vs := [.int .u16 x107.toNat]) rfl rfl (by decide) rfl (xs' := encs p116) (by rw [← h117]; exact (Put.elemN (s := 1) (x := x113) rfl g124.2.2 (Put.here (vs := [.int .u16 x107.toNat]) rfl)).off (by omega)) (L' := (.own s_a0 23 1 (encs p116)) :: L) rfl ?_
                    refine Lst.nil ?_
                    refine At.hd inv (fun w h => (h.weaken (FLe.refl _)).sublist (List.Sublist.cons _ (List.Sublist.refl _))) ?_
                    refine HdJ.done (by kernel_rfl) ?_
                    exact At.meetN p116 (FLe.refl _) ⟨rfl, rfl, rfl, rfl, rfl, rfl, rfl, rfl, trivial⟩ rfl h121
                  exact trivial
                exact trivial
              exact trivial
            exact trivial
          refine HdStep.cons (by decide) rfl (fun inv => ?_) ?_
          · have g125 := lat_some h111
            refine Lst.run rfl rfl (by decide) (Ev.indexS (α := BitVec 16) (xs := p34) rfl rfl Try.runUnderlying22 Try.sizeOf23 rfl (by decide) (Rd.own (i := 0) rfl rfl rfl) g125.1 g125.2.1) ?_
            refine Lst.nil ?_
            refine At.hd inv (fun w h => (h.weaken (FLe.refl _)).sublist (List.Sublist.cons _ (List.Sublist.refl _))) ?_
            refine HdJ.step [7, 11] (by kernel_rfl) rfl ?_
            refine HdStep.cons (by decide) rfl (fun inv => ?_) ?_
            · refine Lst.run rfl rfl (by decide) (Ev.loadS (α := BitVec 16) rfl (Rd.own (i := 0) rfl rfl rfl) Try.isAgg23 (v := .int .u16 x107.toNat) ((Get.elemN (s := 1) (x := x107) rfl g122.2.2 (Get.here _)).off (by omega))) ?_
              refine Lst.nil ?_
              refine At.hd inv (fun w h => (h.weaken (FLe.refl _)).sublist (List.Sublist.cons _ (List.Sublist.refl _))) ?_
              refine HdJ.step [11] (by kernel_rfl) rfl ?_
              refine HdStep.cons (by decide) rfl (fun inv => ?_) ?_
              · refine Lst.run rfl rfl (by decide) (Ev.loadS (α := BitVec 16) rfl (Rd.own (i := 0) rfl rfl rfl) Try.isAgg23 (v := .int .u16 x110.toNat) ((Get.elemN (s := 1) (x := x110) rfl g125.2.2 (Get.here _)).off (by omega))) ?_
                refine Lst.nil ?_
                refine At.hd inv (fun w h => (h.weaken (FLe.refl _)).sublist (List.Sublist.cons _ (List.Sublist.refl _))) ?_
                refine HdJ.step [12] (by kernel_rfl) rfl ?_
                refine HdStep.cons (by decide) rfl (fun inv => ?_) ?_
                · have g126 := lat_some h114
                  refine Lst.run rfl rfl (by decide) (Ev.indexS (α := BitVec 16) (xs := p34) rfl rfl Try.runUnderlying22 Try.sizeOf23 rfl (by decide) (Rd.own (i := 0) rfl rfl rfl) g126.1 g126.2.1) ?_
                  refine Lst.nil ?_
                  refine At.hd inv (fun w h => (h.weaken (FLe.refl _)).sublist (List.Sublist.cons _ (List.Sublist.refl _))) ?_
                  refine HdJ.step [13] (by kernel_rfl) rfl ?_
                  refine HdStep.cons (by decide) rfl (fun inv => ?_) ?_
                  · refine Lst.storeS (i := 0) rfl rfl rfl rfl rfl Try.sizeOf23 (vs := [.int .u16 x107.toNat]) rfl rfl (by decide) rfl (xs' := encs p116) (by rw [← h117]; exact (Put.elemN (s := 1) (x := x113) rfl g126.2.2 (Put.here (vs := [.int .u16 x107.toNat]) rfl)).off (by omega)) (L' := (.own s_a0 23 1 (encs p116)) :: L) rfl ?_
                    refine Lst.nil ?_
                    refine At.hd inv (fun w h => (h.weaken (FLe.refl _)).sublist (List.Sublist.cons _ (List.Sublist.refl _))) ?_
                    refine HdJ.done (by kernel_rfl) ?_
                    exact At.meetN p116 (FLe.refl _) ⟨rfl, rfl, rfl, rfl, rfl, rfl, rfl, rfl, trivial⟩ rfl h121
                  exact trivial
                exact trivial
              exact trivial
            refine HdStep.cons (by decide) rfl (fun inv => ?_) ?_
            · refine Lst.run rfl rfl (by decide) (Ev.loadS (α := BitVec 16) rfl (Rd.own (i := 0) rfl rfl rfl) Try.isAgg23 (v := .int .u16 x110.toNat) ((Get.elemN (s := 1) (x := x110) rfl g125.2.2 (Get.here _)).off (by omega))) ?_
              refine Lst.nil ?_
              refine At.hd inv (fun w h => (h.weaken (FLe.refl _)).sublist (List.Sublist.cons _ (List.Sublist.refl _))) ?_
              refine HdJ.step [7] (by kernel_rfl) rfl ?_
              refine HdStep.cons (by decide) rfl (fun inv => ?_) ?_
              · refine Lst.run rfl rfl (by decide) (Ev.loadS (α := BitVec 16) rfl (Rd.own (i := 0) rfl rfl rfl) Try.isAgg23 (v := .int .u16 x107.toNat) ((Get.elemN (s := 1) (x := x107) rfl g122.2.2 (Get.here _)).off (by omega))) ?_
                refine Lst.nil ?_
                refine At.hd inv (fun w h => (h.weaken (FLe.refl _)).sublist (List.Sublist.cons _ (List.Sublist.refl _))) ?_
                refine HdJ.step [12] (by kernel_rfl) rfl ?_
                refine HdStep.cons (by decide) rfl (fun inv => ?_) ?_
                · have g127 := lat_some h114
                  refine Lst.run rfl rfl (by decide) (Ev.indexS (α := BitVec 16) (xs := p34) rfl rfl Try.runUnderlying22 Try.sizeOf23 rfl (by decide) (Rd.own (i := 0) rfl rfl rfl) g127.1 g127.2.1) ?_
                  refine Lst.nil ?_
                  refine At.hd inv (fun w h => (h.weaken (FLe.refl _)).sublist (List.Sublist.cons _ (List.Sublist.refl _))) ?_
                  refine HdJ.step [13] (by kernel_rfl) rfl ?_
                  refine HdStep.cons (by decide) rfl (fun inv => ?_) ?_
                  · refine Lst.storeS (i := 0) rfl rfl rfl rfl rfl Try.sizeOf23 (vs := [.int .u16 x107.toNat]) rfl rfl (by decide) rfl (xs' := encs p116) (by rw [← h117]; exact (Put.elemN (s := 1) (x := x113) rfl g127.2.2 (Put.here (vs := [.int .u16 x107.toNat]) rfl)).off (by omega)) (L' := (.own s_a0 23 1 (encs p116)) :: L) rfl ?_
                    refine Lst.nil ?_
                    refine At.hd inv (fun w h => (h.weaken (FLe.refl _)).sublist (List.Sublist.cons _ (List.Sublist.refl _))) ?_
                    refine HdJ.done (by kernel_rfl) ?_
                    exact At.meetN p116 (FLe.refl _) ⟨rfl, rfl, rfl, rfl, rfl, rfl, rfl, rfl, trivial⟩ rfl h121
                  exact trivial
                exact trivial
              exact trivial
            exact trivial
          exact trivial
        refine HdStep.cons (by decide) rfl (fun inv => ?_) ?_
        · have g128 := lat_some h111
          refine Lst.run rfl rfl (by decide) (Ev.indexS (α := BitVec 16) (xs := p34) rfl rfl Try.runUnderlying22 Try.sizeOf23 rfl (by decide) (Rd.own (i := 0) rfl rfl rfl) g128.1 g128.2.1) ?_
          refine Lst.nil ?_
          refine At.hd inv (fun w h => (h.weaken (FLe.refl _)).sublist (List.Sublist.cons _ (List.Sublist.refl _))) ?_
          refine HdJ.step [6, 11] (by kernel_rfl) rfl ?_
          refine HdStep.cons (by decide) rfl (fun inv => ?_) ?_
          · have g129 := lat_some h108
            refine Lst.run rfl rfl (by decide) (Ev.indexS (α := BitVec 16) (xs := p34) rfl rfl Try.runUnderlying22 Try.sizeOf23 rfl (by decide) (Rd.own (i := 0) rfl rfl rfl) g129.1 g129.2.1) ?_
            refine Lst.nil ?_
            refine At.hd inv (fun w h => (h.weaken (FLe.refl _)).sublist (List.Sublist.cons _ (List.Sublist.refl _))) ?_
            refine HdJ.step [7, 11] (by kernel_rfl) rfl ?_
            refine HdStep.cons (by decide) rfl (fun inv => ?_) ?_
            · refine Lst.run rfl rfl (by decide) (Ev.loadS (α := BitVec 16) rfl (Rd.own (i := 0) rfl rfl rfl) Try.isAgg23 (v := .int .u16 x107.toNat) ((Get.elemN (s := 1) (x := x107) rfl g129.2.2 (Get.here _)).off (by omega))) ?_
              refine Lst.nil ?_
              refine At.hd inv (fun w h => (h.weaken (FLe.refl _)).sublist (List.Sublist.cons _ (List.Sublist.refl _))) ?_
              refine HdJ.step [11] (by kernel_rfl) rfl ?_
              refine HdStep.cons (by decide) rfl (fun inv => ?_) ?_
              · refine Lst.run rfl rfl (by decide) (Ev.loadS (α := BitVec 16) rfl (Rd.own (i := 0) rfl rfl rfl) Try.isAgg23 (v := .int .u16 x110.toNat) ((Get.elemN (s := 1) (x := x110) rfl g128.2.2 (Get.here _)).off (by omega))) ?_
                refine Lst.nil ?_
                refine At.hd inv (fun w h => (h.weaken (FLe.refl _)).sublist (List.Sublist.cons _ (List.Sublist.refl _))) ?_
                refine HdJ.step [12] (by kernel_rfl) rfl ?_
                refine HdStep.cons (by decide) rfl (fun inv => ?_) ?_
                · have g130 := lat_some h114
                  refine Lst.run rfl rfl (by decide) (Ev.indexS (α := BitVec 16) (xs := p34) rfl rfl Try.runUnderlying22 Try.sizeOf23 rfl (by decide) (Rd.own (i := 0) rfl rfl rfl) g130.1 g130.2.1) ?_
                  refine Lst.nil ?_
                  refine At.hd inv (fun w h => (h.weaken (FLe.refl _)).sublist (List.Sublist.cons _ (List.Sublist.refl _))) ?_
                  refine HdJ.step [13] (by kernel_rfl) rfl ?_
                  refine HdStep.cons (by decide) rfl (fun inv => ?_) ?_
                  · refine Lst.storeS (i := 0) rfl rfl rfl rfl rfl Try.sizeOf23 (vs := [.int .u16 x107.toNat]) rfl rfl (by decide) rfl (xs' := encs p116) (by rw [← h117]; exact (Put.elemN (s := 1) (x := x113) rfl g130.2.2 (Put.here (vs := [.int .u16 x107.toNat]) rfl)).off (by omega)) (L' := (.own s_a0 23 1 (encs p116)) :: L) rfl ?_
                    refine Lst.nil ?_
                    refine At.hd inv (fun w h => (h.weaken (FLe.refl _)).sublist (List.Sublist.cons _ (List.Sublist.refl _))) ?_
                    refine HdJ.done (by kernel_rfl) ?_
                    exact At.meetN p116 (FLe.refl _) ⟨rfl, rfl, rfl, rfl, rfl, rfl, rfl, rfl, trivial⟩ rfl h121
                  exact trivial
                exact trivial
              exact trivial
            refine HdStep.cons (by decide) rfl (fun inv => ?_) ?_
            · refine Lst.run rfl rfl (by decide) (Ev.loadS (α := BitVec 16) rfl (Rd.own (i := 0) rfl rfl rfl) Try.isAgg23 (v := .int .u16 x110.toNat) ((Get.elemN (s := 1) (x := x110) rfl g128.2.2 (Get.here _)).off (by omega))) ?_
              refine Lst.nil ?_
              refine At.hd inv (fun w h => (h.weaken (FLe.refl _)).sublist (List.Sublist.cons _ (List.Sublist.refl _))) ?_
              refine HdJ.step [7] (by kernel_rfl) rfl ?_
              refine HdStep.cons (by decide) rfl (fun inv => ?_) ?_
              · refine Lst.run rfl rfl (by decide) (Ev.loadS (α := BitVec 16) rfl (Rd.own (i := 0) rfl rfl rfl) Try.isAgg23 (v := .int .u16 x107.toNat) ((Get.elemN (s := 1) (x := x107) rfl g129.2.2 (Get.here _)).off (by omega))) ?_
                refine Lst.nil ?_
                refine At.hd inv (fun w h => (h.weaken (FLe.refl _)).sublist (List.Sublist.cons _ (List.Sublist.refl _))) ?_
                refine HdJ.step [12] (by kernel_rfl) rfl ?_
                refine HdStep.cons (by decide) rfl (fun inv => ?_) ?_
                · have g131 := lat_some h114
                  refine Lst.run rfl rfl (by decide) (Ev.indexS (α := BitVec 16) (xs := p34) rfl rfl Try.runUnderlying22 Try.sizeOf23 rfl (by decide) (Rd.own (i := 0) rfl rfl rfl) g131.1 g131.2.1) ?_
                  refine Lst.nil ?_
                  refine At.hd inv (fun w h => (h.weaken (FLe.refl _)).sublist (List.Sublist.cons _ (List.Sublist.refl _))) ?_
                  refine HdJ.step [13] (by kernel_rfl) rfl ?_
                  refine HdStep.cons (by decide) rfl (fun inv => ?_) ?_
                  · refine Lst.storeS (i := 0) rfl rfl rfl rfl rfl Try.sizeOf23 (vs := [.int .u16 x107.toNat]) rfl rfl (by decide) rfl (xs' := encs p116) (by rw [← h117]; exact (Put.elemN (s := 1) (x := x113) rfl g131.2.2 (Put.here (vs := [.int .u16 x107.toNat]) rfl)).off (by omega)) (L' := (.own s_a0 23 1 (encs p116)) :: L) rfl ?_
                    refine Lst.nil ?_
                    refine At.hd inv (fun w h => (h.weaken (FLe.refl _)).sublist (List.Sublist.cons _ (List.Sublist.refl _))) ?_
                    refine HdJ.done (by kernel_rfl) ?_
                    exact At.meetN p116 (FLe.refl _) ⟨rfl, rfl, rfl, rfl, rfl, rfl, rfl, rfl, trivial⟩ rfl h121
                  exact trivial
                exact trivial
              exact trivial
            exact trivial
          refine HdStep.cons (by decide) rfl (fun inv => ?_) ?_
          · refine Lst.run rfl rfl (by decide) (Ev.loadS (α := BitVec 16) rfl (Rd.own (i := 0) rfl rfl rfl) Try.isAgg23 (v := .int .u16 x110.toNat) ((Get.elemN (s := 1) (x := x110) rfl g128.2.2 (Get.here _)).off (by omega))) ?_
            refine Lst.nil ?_
            refine At.hd inv (fun w h => (h.weaken (FLe.refl _)).sublist (List.Sublist.cons _ (List.Sublist.refl _))) ?_
            refine HdJ.step [6] (by kernel_rfl) rfl ?_
            refine HdStep.cons (by decide) rfl (fun inv => ?_) ?_
            · have g132 := lat_some h108
              refine Lst.run rfl rfl (by decide) (Ev.indexS (α := BitVec 16) (xs := p34) rfl rfl Try.runUnderlying22 Try.sizeOf23 rfl (by decide) (Rd.own (i := 0) rfl rfl rfl) g132.1 g132.2.1) ?_
              refine Lst.nil ?_
              refine At.hd inv (fun w h => (h.weaken (FLe.refl _)).sublist (List.Sublist.cons _ (List.Sublist.refl _))) ?_
              refine HdJ.step [7] (by kernel_rfl) rfl ?_
              refine HdStep.cons (by decide) rfl (fun inv => ?_) ?_
              · refine Lst.run rfl rfl (by decide) (Ev.loadS (α := BitVec 16) rfl (Rd.own (i := 0) rfl rfl rfl) Try.isAgg23 (v := .int .u16 x107.toNat) ((Get.elemN (s := 1) (x := x107) rfl g132.2.2 (Get.here _)).off (by omega))) ?_
                refine Lst.nil ?_
                refine At.hd inv (fun w h => (h.weaken (FLe.refl _)).sublist (List.Sublist.cons _ (List.Sublist.refl _))) ?_
                refine HdJ.step [12] (by kernel_rfl) rfl ?_
                refine HdStep.cons (by decide) rfl (fun inv => ?_) ?_
                · have g133 := lat_some h114
                  refine Lst.run rfl rfl (by decide) (Ev.indexS (α := BitVec 16) (xs := p34) rfl rfl Try.runUnderlying22 Try.sizeOf23 rfl (by decide) (Rd.own (i := 0) rfl rfl rfl) g133.1 g133.2.1) ?_
                  refine Lst.nil ?_
                  refine At.hd inv (fun w h => (h.weaken (FLe.refl _)).sublist (List.Sublist.cons _ (List.Sublist.refl _))) ?_
                  refine HdJ.step [13] (by kernel_rfl) rfl ?_
                  refine HdStep.cons (by decide) rfl (fun inv => ?_) ?_
                  · refine Lst.storeS (i := 0) rfl rfl rfl rfl rfl Try.sizeOf23 (vs := [.int .u16 x107.toNat]) rfl rfl (by decide) rfl (xs' := encs p116) (by rw [← h117]; exact (Put.elemN (s := 1) (x := x113) rfl g133.2.2 (Put.here (vs := [.int .u16 x107.toNat]) rfl)).off (by omega)) (L' := (.own s_a0 23 1 (encs p116)) :: L) rfl ?_
                    refine Lst.nil ?_
                    refine At.hd inv (fun w h => (h.weaken (FLe.refl _)).sublist (List.Sublist.cons _ (List.Sublist.refl _))) ?_
                    refine HdJ.done (by kernel_rfl) ?_
                    exact At.meetN p116 (FLe.refl _) ⟨rfl, rfl, rfl, rfl, rfl, rfl, rfl, rfl, trivial⟩ rfl h121
                  exact trivial
                exact trivial
              exact trivial
            exact trivial
          exact trivial
        exact trivial
      rintro F134 l119 hF135 hy
      subst hy
      refine Lst.as (e' := [(0, Sl.v s_a0), (1, .int .i64 a1), (4, .func (.func 53) #[] #[]), (12, .int .i64 y37), (13, .int .i64 y55), (89, Sl.v s_a0), (90, .int .i64 y55), (98, .int .u16 x110.toNat)]) (L' := (.own s_a0 23 1 (encs l119)) :: L) ⟨rfl, rfl, rfl, rfl, rfl, rfl, rfl, rfl, trivial⟩ rfl ?_
      obtain ⟨x136, h137, H⟩ := bind_some H
      have g138 := lat_some h137
      refine Lst.run rfl rfl (by decide) (Ev.indexS (α := BitVec 16) (xs := l119) rfl rfl Try.runUnderlying22 Try.sizeOf23 rfl (by decide) (Rd.own (i := 0) rfl rfl rfl) g138.1 g138.2.1) ?_
      obtain ⟨p139, h140, H⟩ := Let_some H
      refine Lst.storeS (i := 0) rfl rfl rfl rfl rfl Try.sizeOf23 (vs := [.int .u16 x110.toNat]) rfl rfl (by decide) rfl (xs' := encs p139) (by rw [← h140]; exact (Put.elemN (s := 1) (x := x136) rfl g138.2.2 (Put.here (vs := [.int .u16 x110.toNat]) rfl)).off (by omega)) (L' := (.own s_a0 23 1 (encs p139)) :: L) rfl ?_
      refine Lst.nil ?_
      refine At.then ?_
      refine Cd.seq ?_
      refine Cd.region ?_
      refine Lst.run rfl rfl (by decide) (Ev.move rfl) ?_
      refine Lst.run rfl rfl (by decide) (Ev.add rfl rfl) ?_
      refine Lst.run rfl rfl (by decide) (Ev.assign rfl) ?_
      refine Lst.nil ?_
      refine At.then ?_
      refine Cd.seq ?_
      refine Cd.region ?_
      refine Lst.run rfl rfl (by decide) (Ev.move rfl) ?_
      refine Lst.run rfl rfl (by decide) (Ev.sub rfl rfl) ?_
      refine Lst.run rfl rfl (by decide) (Ev.assign rfl) ?_
      refine Lst.nil ?_
      refine At.then ?_
      refine Cd.seq ?_
      refine Cd.block ?_
      obtain ⟨ol141, H, HKl141⟩ := andThen_some H
      refine Cd.loop (σ := Nat × Int × Int × (List (BitVec 16))) (fun (k141, y142, y143, l144) => [(0, Sl.v s_a0), (1, .int .i64 a1), (4, .func (.func 53) #[] #[]), (12, .int .i64 y142), (13, .int .i64 y143)]) (fun (k141, y142, y143, l144) => (.own s_a0 23 1 (encs l144)) :: L) (fun _ => (fun (k141, y142, y143, l144) => whileM (slices_partitionCmpFunc_uint16_quorum_compare_B4 fu a1) k141 (y142, y143, l144) = some ol141)) (fun (k141, y142, y143, l144) => k141) (fu, w64 (y37 + (1 : Int)), w64 (y55 - (1 : Int)), p139) ⟨rfl, rfl, rfl, rfl, rfl, trivial⟩ rfl H ?_
      rintro F145 ⟨k141, y142, y143, l144⟩ hF146 H
      refine Cd.as (e' := [(0, Sl.v s_a0), (1, .int .i64 a1), (4, .func (.func 53) #[] #[]), (12, .int .i64 y142), (13, .int .i64 y143)]) (L' := (.own s_a0 23 1 (encs l144)) :: L) ⟨rfl, rfl, rfl, rfl, rfl, trivial⟩ rfl ?_
      rcases k141 with _ | k141
      · cases H
      obtain ⟨c141, H, hgo141, hbrk141, hret141⟩ := whileM_go H
      unfold slices_partitionCmpFunc_uint16_quorum_compare_B4 at H
      try dsimp only at H
      refine Cd.block ?_
      refine Cd.seq ?_
      refine Cd.block ?_
      obtain ⟨ol147, H, HKl147⟩ := andThen_some H
      refine Cd.loop (σ := Nat × Int) (fun (k147, y148) => [(0, Sl.v s_a0), (1, .int .i64 a1), (4, .func (.func 53) #[] #[]), (12, .int .i64 y148), (13, .int .i64 y143)]) (fun (k147, y148) => (.own s_a0 23 1 (encs l144)) :: L) (fun _ => (fun (k147, y148) => whileM (slices_partitionCmpFunc_uint16_quorum_compare_B6 a1 y143 l144) k147 y148 = some ol147)) (fun (k147, y148) => k147) (fu, y142) ⟨rfl, rfl, rfl, rfl, rfl, trivial⟩ rfl H ?_
      rintro F149 ⟨k147, y148⟩ hF150 H
      refine Cd.as (e' := [(0, Sl.v s_a0), (1, .int .i64 a1), (4, .func (.func 53) #[] #[]), (12, .int .i64 y148), (13, .int .i64 y143)]) (L' := (.own s_a0 23 1 (encs l144)) :: L) ⟨rfl, rfl, rfl, rfl, rfl, trivial⟩ rfl ?_
      rcases k147 with _ | k147
      · cases H
      obtain ⟨c147, H, hgo147, hbrk147, hret147⟩ := whileM_go H
      unfold slices_partitionCmpFunc_uint16_quorum_compare_B6 at H
      try dsimp only at H
      refine Cd.seq ?_
      refine Cd.seq ?_
      refine Cd.quiet (by kernel_rfl) (by kernel_rfl) ?_
      refine Qt.run rfl rfl (by decide) (Ev.move rfl) ?_
      refine Qt.run rfl rfl (by decide) (Ev.move rfl) ?_
      refine Qt.run rfl rfl (by decide) (Ev.leq rfl rfl) ?_
      refine Qt.run rfl rfl (by decide) (Ev.move rfl) ?_
      obtain ⟨o151, H, HKo151⟩ := bind_some H
      refine Qt.join (σ := Bool) 12 (fun y152 => [(0, Sl.v s_a0), (1, .int .i64 a1), (4, .func (.func 53) #[] #[]), (12, .int .i64 y148), (13, .int .i64 y143), (120, .bool y152)]) (fun y152 => y152 = o151) ?_ ?_
      · rcases (Bool.eq_false_or_eq_true (decide (y148 ≤ y143))).symm with hb153 | hb153
        · replace H := ite_f hb153 H
          refine Qt.skip rfl rfl rfl hb153 rfl (by decide) ?_
          refine Qt.skip rfl rfl rfl hb153 rfl (by decide) ?_
          refine Qt.skip rfl rfl rfl hb153 rfl (by decide) ?_
          refine Qt.skip rfl rfl rfl hb153 rfl (by decide) ?_
          refine Qt.skip rfl rfl rfl hb153 rfl (by decide) ?_
          refine Qt.skip rfl rfl rfl hb153 rfl (by decide) ?_
          refine Qt.skip rfl rfl rfl hb153 rfl (by decide) ?_
          refine Qt.skip rfl rfl rfl hb153 rfl (by decide) ?_
          refine Qt.skip rfl rfl rfl hb153 rfl (by decide) ?_
          refine Qt.skip rfl rfl rfl hb153 rfl (by decide) ?_
          refine Qt.skip rfl rfl rfl hb153 rfl (by decide) ?_
          refine Qt.run rfl rfl (by decide) (Ev.pickF rfl hb153 rfl) ?_
          exact Qt.meet false ⟨rfl, rfl, rfl, rfl, rfl, rfl, trivial⟩ (some_inj H)
        replace H := ite_t hb153 H
        refine Qt.runG rfl rfl rfl hb153 rfl (by decide) (Ev.move rfl) ?_
        refine Qt.runG rfl rfl rfl hb153 rfl (by decide) (Ev.move rfl) ?_
        refine Qt.runG rfl rfl rfl hb153 rfl (by decide) (Ev.move rfl) ?_
        obtain ⟨x154, h155, H⟩ := bind_some H
        have g156 := lat_some h155
        refine Qt.runG rfl rfl rfl hb153 rfl (by decide) (Ev.indexS (α := BitVec 16) (xs := l144) rfl rfl Try.runUnderlying22 Try.sizeOf23 rfl (by decide) (Rd.own (i := 0) rfl rfl rfl) g156.1 g156.2.1) ?_
        refine Qt.runG rfl rfl rfl hb153 rfl (by decide) (Ev.loadS (α := BitVec 16) rfl (Rd.own (i := 0) rfl rfl rfl) Try.isAgg23 (v := .int .u16 x154.toNat) ((Get.elemN (s := 1) (x := x154) rfl g156.2.2 (Get.here _)).off (by omega))) ?_
        refine Qt.runG rfl rfl rfl hb153 rfl (by decide) (Ev.move rfl) ?_
        refine Qt.runG rfl rfl rfl hb153 rfl (by decide) (Ev.move rfl) ?_
        obtain ⟨x157, h158, H⟩ := bind_some H
        have g159 := lat_some h158
        refine Qt.runG rfl rfl rfl hb153 rfl (by decide) (Ev.indexS (α := BitVec 16) (xs := l144) rfl rfl Try.runUnderlying22 Try.sizeOf23 rfl (by decide) (Rd.own (i := 0) rfl rfl rfl) g159.1 g159.2.1) ?_
        refine Qt.runG rfl rfl rfl hb153 rfl (by decide) (Ev.loadS (α := BitVec 16) rfl (Rd.own (i := 0) rfl rfl rfl) Try.isAgg23 (v := .int .u16 x157.toNat) ((Get.elemN (s := 1) (x := x157) rfl g159.2.2 (Get.here _)).off (by omega))) ?_
        obtain ⟨r160, h161, H⟩ := bind_some H
        refine Qt.callVG rfl rfl rfl hb153 rfl (by decide) (vs := [.int .u16 x154.toNat, .int .u16 x157.toNat]) (cs := []) rfl ⟨rfl, rfl, trivial⟩ Try.call53 (quorum_compare_sim h161 w0 _ M _ (List.Sublist.cons _ hM)) ?_
        refine Qt.runG rfl rfl rfl hb153 rfl (by decide) (Ev.lss rfl rfl) ?_
        refine Qt.run rfl rfl (by decide) (Ev.pickT rfl hb153 rfl) ?_
        exact Qt.meet (decide (r160 < (0 : Int))) ⟨rfl, rfl, rfl, rfl, rfl, rfl, trivial⟩ (some_inj H)
      rintro y152 hy
      subst hy
      refine Qt.as (e' := [(0, Sl.v s_a0), (1, .int .i64 a1), (4, .func (.func 53) #[] #[]), (12, .int .i64 y148), (13, .int .i64 y143), (120, .bool y152)]) ⟨rfl, rfl, rfl, rfl, rfl, rfl, trivial⟩ ?_
      replace H := HKo151
      refine Qt.done ?_
      refine At.then ?_
      rcases (Bool.eq_false_or_eq_true y152).symm with hb164 | hb164
      · replace H := ite_f hb164 H
        refine Cd.condF rfl hb164 ?_
        refine Cd.exit ?_
        refine At.then_exit ?_
        refine At.then_exit ?_
        refine At.in_exit ?_
        have H := hbrk147 _ (some_inj H).symm
        subst H
        replace H := HKl147
        refine At.then ?_
        refine Cd.seq ?_
        refine Cd.block ?_
        obtain ⟨ol165, H, HKl165⟩ := andThen_some H
        refine Cd.loop (σ := Nat × Int) (fun (k165, y166) => [(0, Sl.v s_a0), (1, .int .i64 a1), (4, .func (.func 53) #[] #[]), (12, .int .i64 y148), (13, .int .i64 y166)]) (fun (k165, y166) => (.own s_a0 23 1 (encs l144)) :: L) (fun _ => (fun (k165, y166) => whileM (slices_partitionCmpFunc_uint16_quorum_compare_B8 a1 l144 y148) k165 y166 = some ol165)) (fun (k165, y166) => k165) (fu, y143) ⟨rfl, rfl, rfl, rfl, rfl, trivial⟩ rfl H ?_
        rintro F167 ⟨k165, y166⟩ hF168 H
        refine Cd.as (e' := [(0, Sl.v s_a0), (1, .int .i64 a1), (4, .func (.func 53) #[] #[]), (12, .int .i64 y148), (13, .int .i64 y166)]) (L' := (.own s_a0 23 1 (encs l144)) :: L) ⟨rfl, rfl, rfl, rfl, rfl, trivial⟩ rfl ?_
        rcases k165 with _ | k165
        · cases H
        obtain ⟨c165, H, hgo165, hbrk165, hret165⟩ := whileM_go H
        unfold slices_partitionCmpFunc_uint16_quorum_compare_B8 at H
        try dsimp only at H
        refine Cd.seq ?_
        refine Cd.seq ?_
        refine Cd.quiet (by kernel_rfl) (by kernel_rfl) ?_
        refine Qt.run rfl rfl (by decide) (Ev.move rfl) ?_
        refine Qt.run rfl rfl (by decide) (Ev.move rfl) ?_
        refine Qt.run rfl rfl (by decide) (Ev.leq rfl rfl) ?_
        refine Qt.run rfl rfl (by decide) (Ev.move rfl) ?_
        obtain ⟨o169, H, HKo169⟩ := bind_some H
        refine Qt.join (σ := Bool) 13 (fun y170 => [(0, Sl.v s_a0), (1, .int .i64 a1), (4, .func (.func 53) #[] #[]), (12, .int .i64 y148), (13, .int .i64 y166), (139, .bool y170)]) (fun y170 => y170 = o169) ?_ ?_
        · rcases (Bool.eq_false_or_eq_true (decide (y148 ≤ y166))).symm with hb171 | hb171
          · replace H := ite_f hb171 H
            refine Qt.skip rfl rfl rfl hb171 rfl (by decide) ?_
            refine Qt.skip rfl rfl rfl hb171 rfl (by decide) ?_
            refine Qt.skip rfl rfl rfl hb171 rfl (by decide) ?_
            refine Qt.skip rfl rfl rfl hb171 rfl (by decide) ?_
            refine Qt.skip rfl rfl rfl hb171 rfl (by decide) ?_
            refine Qt.skip rfl rfl rfl hb171 rfl (by decide) ?_
            refine Qt.skip rfl rfl rfl hb171 rfl (by decide) ?_
            refine Qt.skip rfl rfl rfl hb171 rfl (by decide) ?_
            refine Qt.skip rfl rfl rfl hb171 rfl (by decide) ?_
            refine Qt.skip rfl rfl rfl hb171 rfl (by decide) ?_
            refine Qt.skip rfl rfl rfl hb171 rfl (by decide) ?_
            refine Qt.skip rfl rfl rfl hb171 rfl (by decide) ?_
            refine Qt.run rfl rfl (by decide) (Ev.pickF rfl hb171 rfl) ?_
            exact Qt.meet false ⟨rfl, rfl, rfl, rfl, rfl, rfl, trivial⟩ (some_inj H)
          replace H := ite_t hb171 H
          refine Qt.runG rfl rfl rfl hb171 rfl (by decide) (Ev.move rfl) ?_
          refine Qt.runG rfl rfl rfl hb171 rfl (by decide) (Ev.move rfl) ?_
          refine Qt.runG rfl rfl rfl hb171 rfl (by decide) (Ev.move rfl) ?_
          obtain ⟨x172, h173, H⟩ := bind_some H
          have g174 := lat_some h173
          refine Qt.runG rfl rfl rfl hb171 rfl (by decide) (Ev.indexS (α := BitVec 16) (xs := l144) rfl rfl Try.runUnderlying22 Try.sizeOf23 rfl (by decide) (Rd.own (i := 0) rfl rfl rfl) g174.1 g174.2.1) ?_
          refine Qt.runG rfl rfl rfl hb171 rfl (by decide) (Ev.loadS (α := BitVec 16) rfl (Rd.own (i := 0) rfl rfl rfl) Try.isAgg23 (v := .int .u16 x172.toNat) ((Get.elemN (s := 1) (x := x172) rfl g174.2.2 (Get.here _)).off (by omega))) ?_
          refine Qt.runG rfl rfl rfl hb171 rfl (by decide) (Ev.move rfl) ?_
          refine Qt.runG rfl rfl rfl hb171 rfl (by decide) (Ev.move rfl) ?_
          obtain ⟨x175, h176, H⟩ := bind_some H
          have g177 := lat_some h176
          refine Qt.runG rfl rfl rfl hb171 rfl (by decide) (Ev.indexS (α := BitVec 16) (xs := l144) rfl rfl Try.runUnderlying22 Try.sizeOf23 rfl (by decide) (Rd.own (i := 0) rfl rfl rfl) g177.1 g177.2.1) ?_
          refine Qt.runG rfl rfl rfl hb171 rfl (by decide) (Ev.loadS (α := BitVec 16) rfl (Rd.own (i := 0) rfl rfl rfl) Try.isAgg23 (v := .int .u16 x175.toNat) ((Get.elemN (s := 1) (x := x175) rfl g177.2.2 (Get.here _)).off (by omega))) ?_
          obtain ⟨r178, h179, H⟩ := bind_some H
          refine Qt.callVG rfl rfl rfl hb171 rfl (by decide) (vs := [.int .u16 x172.toNat, .int .u16 x175.toNat]) (cs := []) rfl ⟨rfl, rfl, trivial⟩ Try.call53 (quorum_compare_sim h179 w0 _ M _ (List.Sublist.cons _ hM)) ?_
          refine Qt.runG rfl rfl rfl hb171 rfl (by decide) (Ev.lss rfl rfl) ?_
          refine Qt.runG rfl rfl rfl hb171 rfl (by decide) (Ev.not rfl) ?_
          refine Qt.run rfl rfl (by decide) (Ev.pickT rfl hb171 rfl) ?_
          exact Qt.meet (!(decide (r178 < (0 : Int)))) ⟨rfl, rfl, rfl, rfl, rfl, rfl, trivial⟩ (some_inj H)
        rintro y170 hy
        subst hy
        refine Qt.as (e' := [(0, Sl.v s_a0), (1, .int .i64 a1), (4, .func (.func 53) #[] #[]), (12, .int .i64 y148), (13, .int .i64 y166), (139, .bool y170)]) ⟨rfl, rfl, rfl, rfl, rfl, rfl, trivial⟩ ?_
        replace H := HKo169
        refine Qt.done ?_
        refine At.then ?_
        rcases (Bool.eq_false_or_eq_true y170).symm with hb182 | hb182
        · replace H := ite_f hb182 H
          refine Cd.condF rfl hb182 ?_
          refine Cd.exit ?_
          refine At.then_exit ?_
          refine At.then_exit ?_
          refine At.in_exit ?_
          have H := hbrk165 _ (some_inj H).symm
          subst H
          replace H := HKl165
          refine At.then ?_
          refine Cd.seq ?_
          refine Cd.seq ?_
          refine Cd.region ?_
          refine Lst.run rfl rfl (by decide) (Ev.move rfl) ?_
          refine Lst.run rfl rfl (by decide) (Ev.move rfl) ?_
          refine Lst.run rfl rfl (by decide) (Ev.gtr rfl rfl) ?_
          refine Lst.nil ?_
          refine At.then ?_
          rcases Bool.eq_false_or_eq_true (decide (y148 > y166)) with hb183 | hb183
          · replace H := ite_t hb183 H
            refine Cd.condT rfl hb183 ?_
            refine Cd.exit ?_
            refine At.then_exit ?_
            refine At.in_other rfl ?_
            refine At.then_exit ?_
            refine At.in_exit ?_
            have H := hbrk141 _ (some_inj H).symm
            subst H
            replace H := HKl141
            refine At.then ?_
            refine Cd.seq ?_
            obtain ⟨x184, h185, H⟩ := bind_some H
            obtain ⟨x187, h188, H⟩ := bind_some H
            obtain ⟨x190, h191, H⟩ := bind_some H
            obtain ⟨p193, h194, H⟩ := Let_some H
            obtain ⟨o197, h198, H⟩ := Let_some H
            refine Cd.headMeet (σ := (List (BitVec 16))) 14 (fun l196 => [(13, .int .i64 y166), (165, Sl.v s_a0), (166, .int .i64 a1), (174, .int .u16 x187.toNat)]) (fun l196 => (.own s_a0 23 1 (encs l196)) :: L) (fun _ l196 => l196 = o197) (by kernel_rfl) (by kernel_rfl) (behind_sink (by kernel_rfl) (by kernel_rfl) (by kernel_rfl)) (by kernel_rfl) (fun hsel hlt => ?_) ?_
            · refine HdJ.keep (fun w => St w0 F167 (L) w) (fun w h => trivial) ?_
              refine HdJ.takeK hsel hlt 0 (fun w h => h.sublist (List.Sublist.cons _ (List.Sublist.refl _))) rfl rfl (by decide) (by decide) (by kernel_rfl) (by kernel_rfl) rfl (Ev.move rfl) ?_
              refine HdJ.takeK hsel hlt 1 (fun w h => h.sublist (List.Sublist.cons _ (List.Sublist.refl _))) rfl rfl (by decide) (by decide) (by kernel_rfl) (by kernel_rfl) rfl (Ev.move rfl) ?_
              refine HdJ.takeK hsel hlt 2 (fun w h => h.sublist (List.Sublist.cons _ (List.Sublist.refl _))) rfl rfl (by decide) (by decide) (by kernel_rfl) (by kernel_rfl) rfl (Ev.move rfl) ?_
              refine HdJ.takeK hsel hlt 3 (fun w h => h.sublist (List.Sublist.cons _ (List.Sublist.refl _))) rfl rfl (by decide) (by decide) (by kernel_rfl) (by kernel_rfl) rfl (Ev.move rfl) ?_
              refine HdJ.takeK hsel hlt 4 (fun w h => h.sublist (List.Sublist.cons _ (List.Sublist.refl _))) rfl rfl (by decide) (by decide) (by kernel_rfl) (by kernel_rfl) rfl (Ev.move rfl) ?_
              refine HdJ.takeK hsel hlt 5 (fun w h => h.sublist (List.Sublist.cons _ (List.Sublist.refl _))) rfl rfl (by decide) (by decide) (by kernel_rfl) (by kernel_rfl) rfl (Ev.move rfl) ?_
              refine HdJ.takeK hsel hlt 8 (fun w h => h.sublist (List.Sublist.cons _ (List.Sublist.refl _))) rfl rfl (by decide) (by decide) (by kernel_rfl) (by kernel_rfl) rfl (Ev.move rfl) ?_
              refine HdJ.takeK hsel hlt 9 (fun w h => h.sublist (List.Sublist.cons _ (List.Sublist.refl _))) rfl rfl (by decide) (by decide) (by kernel_rfl) (by kernel_rfl) rfl (Ev.move rfl) ?_
              refine HdJ.step [6, 10] (by kernel_rfl) rfl ?_
              refine HdStep.cons (by decide) rfl (fun inv => ?_) ?_
              · have g199 := lat_some h185
                refine Lst.run rfl rfl (by decide) (Ev.indexS (α := BitVec 16) (xs := l144) rfl rfl Try.runUnderlying22 Try.sizeOf23 rfl (by decide) (Rd.own (i := 0) rfl rfl rfl) g199.1 g199.2.1) ?_
                refine Lst.nil ?_
                refine At.hd inv (fun w h => (h.weaken (FLe.refl _)).sublist (List.Sublist.cons _ (List.Sublist.refl _))) ?_
                refine HdJ.step [7, 10] (by kernel_rfl) rfl ?_
                refine HdStep.cons (by decide) rfl (fun inv => ?_) ?_
                · refine Lst.run rfl rfl (by decide) (Ev.loadS (α := BitVec 16) rfl (Rd.own (i := 0) rfl rfl rfl) Try.isAgg23 (v := .int .u16 x184.toNat) ((Get.elemN (s := 1) (x := x184) rfl g199.2.2 (Get.here _)).off (by omega))) ?_
                  refine Lst.nil ?_
                  refine At.hd inv (fun w h => (h.weaken (FLe.refl _)).sublist (List.Sublist.cons _ (List.Sublist.refl _))) ?_
                  refine HdJ.step [10] (by kernel_rfl) rfl ?_
                  refine HdStep.cons (by decide) rfl (fun inv => ?_) ?_
                  · have g200 := lat_some h188
                    refine Lst.run rfl rfl (by decide) (Ev.indexS (α := BitVec 16) (xs := l144) rfl rfl Try.runUnderlying22 Try.sizeOf23 rfl (by decide) (Rd.own (i := 0) rfl rfl rfl) g200.1 g200.2.1) ?_
                    refine Lst.nil ?_
                    refine At.hd inv (fun w h => (h.weaken (FLe.refl _)).sublist (List.Sublist.cons _ (List.Sublist.refl _))) ?_
                    refine HdJ.step [11] (by kernel_rfl) rfl ?_
                    refine HdStep.cons (by decide) rfl (fun inv => ?_) ?_
                    · refine Lst.run rfl rfl (by decide) (Ev.loadS (α := BitVec 16) rfl (Rd.own (i := 0) rfl rfl rfl) Try.isAgg23 (v := .int .u16 x187.toNat) ((Get.elemN (s := 1) (x := x187) rfl g200.2.2 (Get.here _)).off (by omega))) ?_
                      refine Lst.nil ?_
                      refine At.hd inv (fun w h => (h.weaken (FLe.refl _)).sublist (List.Sublist.cons _ (List.Sublist.refl _))) ?_
                      refine HdJ.step [12] (by kernel_rfl) rfl ?_
                      refine HdStep.cons (by decide) rfl (fun inv => ?_) ?_
                      · have g201 := lat_some h191
                        refine Lst.run rfl rfl (by decide) (Ev.indexS (α := BitVec 16) (xs := l144) rfl rfl Try.runUnderlying22 Try.sizeOf23 rfl (by decide) (Rd.own (i := 0) rfl rfl rfl) g201.1 g201.2.1) ?_
                        refine Lst.nil ?_
                        refine At.hd inv (fun w h => (h.weaken (FLe.refl _)).sublist (List.Sublist.cons _ (List.Sublist.refl _))) ?_
                        refine HdJ.step [13] (by kernel_rfl) rfl ?_
                        refine HdStep.cons (by decide) rfl (fun inv => ?_) ?_
                        · refine Lst.storeS (i := 0) rfl rfl rfl rfl rfl Try.sizeOf23 (vs := [.int .u16 x184.toNat]) rfl rfl (by decide) rfl (xs' := encs p193) (by rw [← h194]; exact (Put.elemN (s := 1) (x := x190) rfl g201.2.2 (Put.here (vs := [.int .u16 x184.toNat]) rfl)).off (by omega)) (L' := (.own s_a0 23 1 (encs p193)) :: L) rfl ?_
                          refine Lst.nil ?_
                          refine At.hd inv (fun w h => (h.weaken (FLe.refl _)).sublist (List.Sublist.cons _ (List.Sublist.refl _))) ?_
                          refine HdJ.done (by kernel_rfl) ?_
                          exact At.meetN p193 (FLe.refl _) ⟨rfl, rfl, rfl, rfl, trivial⟩ rfl h198
                        exact trivial
                      exact trivial
                    exact trivial
                  exact trivial
                refine HdStep.cons (by decide) rfl (fun inv => ?_) ?_
                · have g202 := lat_some h188
                  refine Lst.run rfl rfl (by decide) (Ev.indexS (α := BitVec 16) (xs := l144) rfl rfl Try.runUnderlying22 Try.sizeOf23 rfl (by decide) (Rd.own (i := 0) rfl rfl rfl) g202.1 g202.2.1) ?_
                  refine Lst.nil ?_
                  refine At.hd inv (fun w h => (h.weaken (FLe.refl _)).sublist (List.Sublist.cons _ (List.Sublist.refl _))) ?_
                  refine HdJ.step [7, 11] (by kernel_rfl) rfl ?_
                  refine HdStep.cons (by decide) rfl (fun inv => ?_) ?_
                  · refine Lst.run rfl rfl (by decide) (Ev.loadS (α := BitVec 16) rfl (Rd.own (i := 0) rfl rfl rfl) Try.isAgg23 (v := .int .u16 x184.toNat) ((Get.elemN (s := 1) (x := x184) rfl g199.2.2 (Get.here _)).off (by omega))) ?_
                    refine Lst.nil ?_
                    refine At.hd inv (fun w h => (h.weaken (FLe.refl _)).sublist (List.Sublist.cons _ (List.Sublist.refl _))) ?_
                    refine HdJ.step [11] (by kernel_rfl) rfl ?_
                    refine HdStep.cons (by decide) rfl (fun inv => ?_) ?_
                    · refine Lst.run rfl rfl (by decide) (Ev.loadS (α := BitVec 16) rfl (Rd.own (i := 0) rfl rfl rfl) Try.isAgg23 (v := .int .u16 x187.toNat) ((Get.elemN (s := 1) (x := x187) rfl g202.2.2 (Get.here _)).off (by omega))) ?_
                      refine Lst.nil ?_
                      refine At.hd inv (fun w h => (h.weaken (FLe.refl _)).sublist (List.Sublist.cons _ (List.Sublist.refl _))) ?_
                      refine HdJ.step [12] (by kernel_rfl) rfl ?_
                      refine HdStep.cons (by decide) rfl (fun inv => ?_) ?_
                      · have g203 := lat_some h191
                        refine Lst.run rfl rfl (by decide) (Ev.indexS (α := BitVec 16) (xs := l144) rfl rfl Try.runUnderlying22 Try.sizeOf23 rfl (by decide) (Rd.own (i := 0) rfl rfl rfl) g203.1 g203.2.1) ?_
                        refine Lst.nil ?_
                        refine At.hd inv (fun w h => (h.weaken (FLe.refl _)).sublist (List.Sublist.cons _ (List.Sublist.refl _))) ?_
                        refine HdJ.step [13] (by kernel_rfl) rfl ?_
                        refine HdStep.cons (by decide) rfl (fun inv => ?_) ?_
                        · refine Lst.storeS (i := 0) rfl rfl rfl rfl rfl Try.sizeOf23 (vs := [.int .u16 x184.toNat]) rfl rfl (by decide) rfl (xs' := encs p193) (by rw [← h194]; exact (Put.elemN (s := 1) (x := x190) rfl g203.2.2 (Put.here (vs := [.int .u16 x184.toNat]) rfl)).off (by omega)) (L' := (.own s_a0 23 1 (encs p193)) :: L) rfl ?_
                          refine Lst.nil ?_
                          refine At.hd inv (fun w h => (h.weaken (FLe.refl _)).sublist (List.Sublist.cons _ (List.Sublist.refl _))) ?_
                          refine HdJ.done (by kernel_rfl) ?_
                          exact At.meetN p193 (FLe.refl _) ⟨rfl, rfl, rfl, rfl, trivial⟩ rfl h198
                        exact trivial
                      exact trivial
                    exact trivial
                  refine HdStep.cons (by decide) rfl (fun inv => ?_) ?_
                  · refine Lst.run rfl rfl (by decide) (Ev.loadS (α := BitVec 16) rfl (Rd.own (i := 0) rfl rfl rfl) Try.isAgg23 (v := .int .u16 x187.toNat) ((Get.elemN (s := 1) (x := x187) rfl g202.2.2 (Get.here _)).off (by omega))) ?_
                    refine Lst.nil ?_
                    refine At.hd inv (fun w h => (h.weaken (FLe.refl _)).sublist (List.Sublist.cons _ (List.Sublist.refl _))) ?_
                    refine HdJ.step [7] (by kernel_rfl) rfl ?_
                    refine HdStep.cons (by decide) rfl (fun inv => ?_) ?_
                    · refine Lst.run rfl rfl (by decide) (Ev.loadS (α := BitVec 16) rfl (Rd.own (i := 0) rfl rfl rfl) Try.isAgg23 (v := .int .u16 x184.toNat) ((Get.elemN (s := 1) (x := x184) rfl g199.2.2 (Get.here _)).off (by omega))) ?_
                      refine Lst.nil ?_
                      refine At.hd inv (fun w h => (h.weaken (FLe.refl _)).sublist (List.Sublist.cons _ (List.Sublist.refl _))) ?_
                      refine HdJ.step [12] (by kernel_rfl) rfl ?_
                      refine HdStep.cons (by decide) rfl (fun inv => ?_) ?_
                      · have g204 := lat_some h191
                        refine Lst.run rfl rfl (by decide) (Ev.indexS (α := BitVec 16) (xs := l144) rfl rfl Try.runUnderlying22 Try.sizeOf23 rfl (by decide) (Rd.own (i := 0) rfl rfl rfl) g204.1 g204.2.1) ?_
                        refine Lst.nil ?_
                        refine At.hd inv (fun w h => (h.weaken (FLe.refl _)).sublist (List.Sublist.cons _ (List.Sublist.refl _))) ?_
                        refine HdJ.step [13] (by kernel_rfl) rfl ?_
                        refine HdStep.cons (by decide) rfl (fun inv => ?_) ?_
                        · refine Lst.storeS (i := 0) rfl rfl rfl rfl rfl Try.sizeOf23 (vs := [.int .u16 x184.toNat]) rfl rfl (by decide) rfl (xs' := encs p193) (by rw [← h194]; exact (Put.elemN (s := 1) (x := x190) rfl g204.2.2 (Put.here (vs := [.int .u16 x184.toNat]) rfl)).off (by omega)) (L' := (.own s_a0 23 1 (encs p193)) :: L) rfl ?_
                          refine Lst.nil ?_
                          refine At.hd inv (fun w h => (h.weaken (FLe.refl _)).sublist (List.Sublist.cons _ (List.Sublist.refl _))) ?_
                          refine HdJ.done (by kernel_rfl) ?_
                          exact At.meetN p193 (FLe.refl _) ⟨rfl, rfl, rfl, rfl, trivial⟩ rfl h198
                        exact trivial
                      exact trivial
                    exact trivial
                  exact trivial
                exact trivial
              refine HdStep.cons (by decide) rfl (fun inv => ?_) ?_
              · have g205 := lat_some h188
                refine Lst.run rfl rfl (by decide) (Ev.indexS (α := BitVec 16) (xs := l144) rfl rfl Try.runUnderlying22 Try.sizeOf23 rfl (by decide) (Rd.own (i := 0) rfl rfl rfl) g205.1 g205.2.1) ?_
                refine Lst.nil ?_
                refine At.hd inv (fun w h => (h.weaken (FLe.refl _)).sublist (List.Sublist.cons _ (List.Sublist.refl _))) ?_
                refine HdJ.step [6, 11] (by kernel_rfl) rfl ?_
                refine HdStep.cons (by decide) rfl (fun inv => ?_) ?_
                · have g206 := lat_some h185
                  refine Lst.run rfl rfl (by decide) (Ev.indexS (α := BitVec 16) (xs := l144) rfl rfl Try.runUnderlying22 Try.sizeOf23 rfl (by decide) (Rd.own (i := 0) rfl rfl rfl) g206.1 g206.2.1) ?_
                  refine Lst.nil ?_
                  refine At.hd inv (fun w h => (h.weaken (FLe.refl _)).sublist (List.Sublist.cons _ (List.Sublist.refl _))) ?_
                  refine HdJ.step [7, 11] (by kernel_rfl) rfl ?_
                  refine HdStep.cons (by decide) rfl (fun inv => ?_) ?_
                  · refine Lst.run rfl rfl (by decide) (Ev.loadS (α := BitVec 16) rfl (Rd.own (i := 0) rfl rfl rfl) Try.isAgg23 (v := .int .u16 x184.toNat) ((Get.elemN (s := 1) (x := x184) rfl g206.2.2 (Get.here _)).off (by omega))) ?_
                    refine Lst.nil ?_
                    refine At.hd inv (fun w h => (h.weaken (FLe.refl _)).sublist (List.Sublist.cons _ (List.Sublist.refl _))) ?_
                    refine HdJ.step [11] (by kernel_rfl) rfl ?_
                    refine HdStep.cons (by decide) rfl (fun inv => ?_) ?_
                    · refine Lst.run rfl rfl (by decide) (Ev.loadS (α := BitVec 16) rfl (Rd.own (i := 0) rfl rfl rfl) Try.isAgg23 (v := .int .u16 x187.toNat) ((Get.elemN (s := 1) (x := x187) rfl g205.2.2 (Get.here _)).off (by omega))) ?_
                      refine Lst.nil ?_
                      refine At.hd inv (fun w h => (h.weaken (FLe.refl _)).sublist (List.Sublist.cons _ (List.Sublist.refl _))) ?_
                      refine HdJ.step [12] (by kernel_rfl) rfl ?_
                      refine HdStep.cons (by decide) rfl (fun inv => ?_) ?_
                      · have g207 := lat_some h191
                        refine Lst.run rfl rfl (by decide) (Ev.indexS (α := BitVec 16) (xs := l144) rfl rfl Try.runUnderlying22 Try.sizeOf23 rfl (by decide) (Rd.own (i := 0) rfl rfl rfl) g207.1 g207.2.1) ?_
                        refine Lst.nil ?_
                        refine At.hd inv (fun w h => (h.weaken (FLe.refl _)).sublist (List.Sublist.cons _ (List.Sublist.refl _))) ?_
                        refine HdJ.step [13] (by kernel_rfl) rfl ?_
                        refine HdStep.cons (by decide) rfl (fun inv => ?_) ?_
                        · refine Lst.storeS (i := 0) rfl rfl rfl rfl rfl Try.sizeOf23 (vs := [.int .u16 x184.toNat]) rfl rfl (by decide) rfl (xs' := encs p193) (by rw [← h194]; exact (Put.elemN (s := 1) (x := x190) rfl g207.2.2 (Put.here (vs := [.int .u16 x184.toNat]) rfl)).off (by omega)) (L' := (.own s_a0 23 1 (encs p193)) :: L) rfl ?_
                          refine Lst.nil ?_
                          refine At.hd inv (fun w h => (h.weaken (FLe.refl _)).sublist (List.Sublist.cons _ (List.Sublist.refl _))) ?_
                          refine HdJ.done (by kernel_rfl) ?_
                          exact At.meetN p193 (FLe.refl _) ⟨rfl, rfl, rfl, rfl, trivial⟩ rfl h198
                        exact trivial
                      exact trivial
                    exact trivial
                  refine HdStep.cons (by decide) rfl (fun inv => ?_) ?_
                  · refine Lst.run rfl rfl (by decide) (Ev.loadS (α := BitVec 16) rfl (Rd.own (i := 0) rfl rfl rfl) Try.isAgg23 (v := .int .u16 x187.toNat) ((Get.elemN (s := 1) (x := x187) rfl g205.2.2 (Get.here _)).off (by omega))) ?_
                    refine Lst.nil ?_
                    refine At.hd inv (fun w h => (h.weaken (FLe.refl _)).sublist (List.Sublist.cons _ (List.Sublist.refl _))) ?_
                    refine HdJ.step [7] (by kernel_rfl) rfl ?_
                    refine HdStep.cons (by decide) rfl (fun inv => ?_) ?_
                    · refine Lst.run rfl rfl (by decide) (Ev.loadS (α := BitVec 16) rfl (Rd.own (i := 0) rfl rfl rfl) Try.isAgg23 (v := .int .u16 x184.toNat) ((Get.elemN (s := 1) (x := x184) rfl g206.2.2 (Get.here _)).off (by omega))) ?_
                      refine Lst.nil ?_
                      refine At.hd inv (fun w h => (h.weaken (FLe.refl _)).sublist (List.Sublist.cons _ (List.Sublist.refl _))) ?_
                      refine HdJ.step [12] (by kernel_rfl) rfl ?_
                      refine HdStep.cons (by decide) rfl (fun inv => ?_) ?_
                      · have g208 := lat_some h191
                        refine Lst.run rfl rfl (by decide) (Ev.indexS (α := BitVec 16) (xs := l144) rfl rfl Try.runUnderlying22 Try.sizeOf23 rfl (by decide) (Rd.own (i := 0) rfl rfl rfl) g208.1 g208.2.1) ?_
                        refine Lst.nil ?_
                        refine At.hd inv (fun w h => (h.weaken (FLe.refl _)).sublist (List.Sublist.cons _ (List.Sublist.refl _))) ?_
                        refine HdJ.step [13] (by kernel_rfl) rfl ?_
                        refine HdStep.cons (by decide) rfl (fun inv => ?_) ?_
                        · refine Lst.storeS (i := 0) rfl rfl rfl rfl rfl Try.sizeOf23 (vs := [.int .u16 x184.toNat]) rfl rfl (by decide) rfl (xs' := encs p193) (by rw [← h194]; exact (Put.elemN (s := 1) (x := x190) rfl g208.2.2 (Put.here (vs := [.int .u16 x184.toNat]) rfl)).off (by omega)) (L' := (.own s_a0 23 1 (encs p193)) :: L) rfl ?_
                          refine Lst.nil ?_
                          refine At.hd inv (fun w h => (h.weaken (FLe.refl _)).sublist (List.Sublist.cons _ (List.Sublist.refl _))) ?_
                          refine HdJ.done (by kernel_rfl) ?_
                          exact At.meetN p193 (FLe.refl _) ⟨rfl, rfl, rfl, rfl, trivial⟩ rfl h198
                        exact trivial
                      exact trivial
                    exact trivial
                  exact trivial
                refine HdStep.cons (by decide) rfl (fun inv => ?_) ?_
                · refine Lst.run rfl rfl (by decide) (Ev.loadS (α := BitVec 16) rfl (Rd.own (i := 0) rfl rfl rfl) Try.isAgg23 (v := .int .u16 x187.toNat) ((Get.elemN (s := 1) (x := x187) rfl g205.2.2 (Get.here _)).off (by omega))) ?_
                  refine Lst.nil ?_
                  refine At.hd inv (fun w h => (h.weaken (FLe.refl _)).sublist (List.Sublist.cons _ (List.Sublist.refl _))) ?_
                  refine HdJ.step [6] (by kernel_rfl) rfl ?_
                  refine HdStep.cons (by decide) rfl (fun inv => ?_) ?_
                  · have g209 := lat_some h185
                    refine Lst.run rfl rfl (by decide) (Ev.indexS (α := BitVec 16) (xs := l144) rfl rfl Try.runUnderlying22 Try.sizeOf23 rfl (by decide) (Rd.own (i := 0) rfl rfl rfl) g209.1 g209.2.1) ?_
                    refine Lst.nil ?_
                    refine At.hd inv (fun w h => (h.weaken (FLe.refl _)).sublist (List.Sublist.cons _ (List.Sublist.refl _))) ?_
                    refine HdJ.step [7] (by kernel_rfl) rfl ?_
                    refine HdStep.cons (by decide) rfl (fun inv => ?_) ?_
                    · refine Lst.run rfl rfl (by decide) (Ev.loadS (α := BitVec 16) rfl (Rd.own (i := 0) rfl rfl rfl) Try.isAgg23 (v := .int .u16 x184.toNat) ((Get.elemN (s := 1) (x := x184) rfl g209.2.2 (Get.here _)).off (by omega))) ?_
                      refine Lst.nil ?_
                      refine At.hd inv (fun w h => (h.weaken (FLe.refl _)).sublist (List.Sublist.cons _ (List.Sublist.refl _))) ?_
                      refine HdJ.step [12] (by kernel_rfl) rfl ?_
                      refine HdStep.cons (by decide) rfl (fun inv => ?_) ?_
                      · have g210 := lat_some h191
                        refine Lst.run rfl rfl (by decide) (Ev.indexS (α := BitVec 16) (xs := l144) rfl rfl Try.runUnderlying22 Try.sizeOf23 rfl (by decide) (Rd.own (i := 0) rfl rfl rfl) g210.1 g210.2.1) ?_
                        refine Lst.nil ?_
                        refine At.hd inv (fun w h => (h.weaken (FLe.refl _)).sublist (List.Sublist.cons _ (List.Sublist.refl _))) ?_
                        refine HdJ.step [13] (by kernel_rfl) rfl ?_
                        refine HdStep.cons (by decide) rfl (fun inv => ?_) ?_
                        · refine Lst.storeS (i := 0) rfl rfl rfl rfl rfl Try.sizeOf23 (vs := [.int .u16 x184.toNat]) rfl rfl (by decide) rfl (xs' := encs p193) (by rw [← h194]; exact (Put.elemN (s := 1) (x := x190) rfl g210.2.2 (Put.here (vs := [.int .u16 x184.toNat]) rfl)).off (by omega)) (L' := (.own s_a0 23 1 (encs p193)) :: L) rfl ?_
                          refine Lst.nil ?_
                          refine At.hd inv (fun w h => (h.weaken (FLe.refl _)).sublist (List.Sublist.cons _ (List.Sublist.refl _))) ?_
                          refine HdJ.done (by kernel_rfl) ?_
                          exact At.meetN p193 (FLe.refl _) ⟨rfl, rfl, rfl, rfl, trivial⟩ rfl h198
                        exact trivial
                      exact trivial
                    exact trivial
                  exact trivial
                exact trivial
              exact trivial
            rintro F211 l196 hF212 hy
            subst hy
            refine Lst.as (e' := [(13, .int .i64 y166), (165, Sl.v s_a0), (166, .int .i64 a1), (174, .int .u16 x187.toNat)]) (L' := (.own s_a0 23 1 (encs l196)) :: L) ⟨rfl, rfl, rfl, rfl, trivial⟩ rfl ?_
            obtain ⟨x213, h214, H⟩ := bind_some H
            have g215 := lat_some h214
            refine Lst.run rfl rfl (by decide) (Ev.indexS (α := BitVec 16) (xs := l196) rfl rfl Try.runUnderlying22 Try.sizeOf23 rfl (by decide) (Rd.own (i := 0) rfl rfl rfl) g215.1 g215.2.1) ?_
            obtain ⟨p216, h217, H⟩ := Let_some H
            refine Lst.storeS (i := 0) rfl rfl rfl rfl rfl Try.sizeOf23 (vs := [.int .u16 x187.toNat]) rfl rfl (by decide) rfl (xs' := encs p216) (by rw [← h217]; exact (Put.elemN (s := 1) (x := x213) rfl g215.2.2 (Put.here (vs := [.int .u16 x187.toNat]) rfl)).off (by omega)) (L' := (.own s_a0 23 1 (encs p216)) :: L) rfl ?_
            refine Lst.nil ?_
            refine At.then ?_
            refine Cd.seq ?_
            refine Cd.region ?_
            refine Lst.run rfl rfl (by decide) (Ev.move rfl) ?_
            refine Lst.run rfl rfl (by decide) (Ev.assign rfl) ?_
            refine Lst.run rfl rfl (by decide) (Ev.assign rfl) ?_
            refine Lst.nil ?_
            refine At.then ?_
            obtain rfl := some_inj H
            refine Cd.ret ?_
            exact At.ret2 rfl (Res.tmp rfl) (Res.tmp rfl) (FLe.trans (FLe.trans (FLe.trans (FLe.trans (FLe.trans (FLe.trans (FLe.trans hF30 hF39) hF57) hF135) hF146) hF150) hF168) hF212) (List.Sublist.cons_cons _ (List.Sublist.refl _)) ⟨rfl, rfl⟩
          replace H := ite_f hb183 H
          refine Cd.condF rfl hb183 ?_
          refine Cd.skip ?_
          refine At.then ?_
          refine Cd.seq ?_
          obtain ⟨x218, h219, H⟩ := bind_some H
          obtain ⟨x221, h222, H⟩ := bind_some H
          obtain ⟨x224, h225, H⟩ := bind_some H
          obtain ⟨p227, h228, H⟩ := Let_some H
          obtain ⟨o231, h232, H⟩ := Let_some H
          refine Cd.headMeet (σ := (List (BitVec 16))) 14 (fun l230 => [(0, Sl.v s_a0), (1, .int .i64 a1), (4, .func (.func 53) #[] #[]), (12, .int .i64 y148), (13, .int .i64 y166), (147, Sl.v s_a0), (148, .int .i64 y166), (156, .int .u16 x221.toNat)]) (fun l230 => (.own s_a0 23 1 (encs l230)) :: L) (fun _ l230 => l230 = o231) (by kernel_rfl) (by kernel_rfl) (behind_sink (by kernel_rfl) (by kernel_rfl) (by kernel_rfl)) (by kernel_rfl) (fun hsel hlt => ?_) ?_
          · refine HdJ.keep (fun w => St w0 F167 (L) w) (fun w h => trivial) ?_
            refine HdJ.takeK hsel hlt 0 (fun w h => h.sublist (List.Sublist.cons _ (List.Sublist.refl _))) rfl rfl (by decide) (by decide) (by kernel_rfl) (by kernel_rfl) rfl (Ev.move rfl) ?_
            refine HdJ.takeK hsel hlt 1 (fun w h => h.sublist (List.Sublist.cons _ (List.Sublist.refl _))) rfl rfl (by decide) (by decide) (by kernel_rfl) (by kernel_rfl) rfl (Ev.move rfl) ?_
            refine HdJ.takeK hsel hlt 2 (fun w h => h.sublist (List.Sublist.cons _ (List.Sublist.refl _))) rfl rfl (by decide) (by decide) (by kernel_rfl) (by kernel_rfl) rfl (Ev.move rfl) ?_
            refine HdJ.takeK hsel hlt 3 (fun w h => h.sublist (List.Sublist.cons _ (List.Sublist.refl _))) rfl rfl (by decide) (by decide) (by kernel_rfl) (by kernel_rfl) rfl (Ev.move rfl) ?_
            refine HdJ.takeK hsel hlt 4 (fun w h => h.sublist (List.Sublist.cons _ (List.Sublist.refl _))) rfl rfl (by decide) (by decide) (by kernel_rfl) (by kernel_rfl) rfl (Ev.move rfl) ?_
            refine HdJ.takeK hsel hlt 5 (fun w h => h.sublist (List.Sublist.cons _ (List.Sublist.refl _))) rfl rfl (by decide) (by decide) (by kernel_rfl) (by kernel_rfl) rfl (Ev.move rfl) ?_
            refine HdJ.takeK hsel hlt 8 (fun w h => h.sublist (List.Sublist.cons _ (List.Sublist.refl _))) rfl rfl (by decide) (by decide) (by kernel_rfl) (by kernel_rfl) rfl (Ev.move rfl) ?_
            refine HdJ.takeK hsel hlt 9 (fun w h => h.sublist (List.Sublist.cons _ (List.Sublist.refl _))) rfl rfl (by decide) (by decide) (by kernel_rfl) (by kernel_rfl) rfl (Ev.move rfl) ?_
            refine HdJ.step [6, 10] (by kernel_rfl) rfl ?_
            refine HdStep.cons (by decide) rfl (fun inv => ?_) ?_
            · have g233 := lat_some h219
              refine Lst.run rfl rfl (by decide) (Ev.indexS (α := BitVec 16) (xs := l144) rfl rfl Try.runUnderlying22 Try.sizeOf23 rfl (by decide) (Rd.own (i := 0) rfl rfl rfl) g233.1 g233.2.1) ?_
              refine Lst.nil ?_
              refine At.hd inv (fun w h => (h.weaken (FLe.refl _)).sublist (List.Sublist.cons _ (List.Sublist.refl _))) ?_
              refine HdJ.step [7, 10] (by kernel_rfl) rfl ?_
              refine HdStep.cons (by decide) rfl (fun inv => ?_) ?_
              · refine Lst.run rfl rfl (by decide) (Ev.loadS (α := BitVec 16) rfl (Rd.own (i := 0) rfl rfl rfl) Try.isAgg23 (v := .int .u16 x218.toNat) ((Get.elemN (s := 1) (x := x218) rfl g233.2.2 (Get.here _)).off (by omega))) ?_
                refine Lst.nil ?_
                refine At.hd inv (fun w h => (h.weaken (FLe.refl _)).sublist (List.Sublist.cons _ (List.Sublist.refl _))) ?_
                refine HdJ.step [10] (by kernel_rfl) rfl ?_
                refine HdStep.cons (by decide) rfl (fun inv => ?_) ?_
                · have g234 := lat_some h222
                  refine Lst.run rfl rfl (by decide) (Ev.indexS (α := BitVec 16) (xs := l144) rfl rfl Try.runUnderlying22 Try.sizeOf23 rfl (by decide) (Rd.own (i := 0) rfl rfl rfl) g234.1 g234.2.1) ?_
                  refine Lst.nil ?_
                  refine At.hd inv (fun w h => (h.weaken (FLe.refl _)).sublist (List.Sublist.cons _ (List.Sublist.refl _))) ?_
                  refine HdJ.step [11] (by kernel_rfl) rfl ?_
                  refine HdStep.cons (by decide) rfl (fun inv => ?_) ?_
                  · refine Lst.run rfl rfl (by decide) (Ev.loadS (α := BitVec 16) rfl (Rd.own (i := 0) rfl rfl rfl) Try.isAgg23 (v := .int .u16 x221.toNat) ((Get.elemN (s := 1) (x := x221) rfl g234.2.2 (Get.here _)).off (by omega))) ?_
                    refine Lst.nil ?_
                    refine At.hd inv (fun w h => (h.weaken (FLe.refl _)).sublist (List.Sublist.cons _ (List.Sublist.refl _))) ?_
                    refine HdJ.step [12] (by kernel_rfl) rfl ?_
                    refine HdStep.cons (by decide) rfl (fun inv => ?_) ?_
                    · have g235 := lat_some h225
                      refine Lst.run rfl rfl (by decide) (Ev.indexS (α := BitVec 16) (xs := l144) rfl rfl Try.runUnderlying22 Try.sizeOf23 rfl (by decide) (Rd.own (i := 0) rfl rfl rfl) g235.1 g235.2.1) ?_
                      refine Lst.nil ?_
                      refine At.hd inv (fun w h => (h.weaken (FLe.refl _)).sublist (List.Sublist.cons _ (List.Sublist.refl _))) ?_
                      refine HdJ.step [13] (by kernel_rfl) rfl ?_
                      refine HdStep.cons (by decide) rfl (fun inv => ?_) ?_
                      · refine Lst.storeS (i := 0) rfl rfl rfl rfl rfl Try.sizeOf23 (vs := [.int .u16 x218.toNat]) rfl rfl (by decide) rfl (xs' := encs p227) (by rw [← h228]; exact (Put.elemN (s := 1) (x := x224) rfl g235.2.2 (Put.here (vs := [.int .u16 x218.toNat]) rfl)).off (by omega)) (L' := (.own s_a0 23 1 (encs p227)) :: L) rfl ?_
                        refine Lst.nil ?_
                        refine At.hd inv (fun w h => (h.weaken (FLe.refl _)).sublist (List.Sublist.cons _ (List.Sublist.refl _))) ?_
                        refine HdJ.done (by kernel_rfl) ?_
                        exact At.meetN p227 (FLe.refl _) ⟨rfl, rfl, rfl, rfl, rfl, rfl, rfl, rfl, trivial⟩ rfl h232
                      exact trivial
                    exact trivial
                  exact trivial
                exact trivial
              refine HdStep.cons (by decide) rfl (fun inv => ?_) ?_
              · have g236 := lat_some h222
                refine Lst.run rfl rfl (by decide) (Ev.indexS (α := BitVec 16) (xs := l144) rfl rfl Try.runUnderlying22 Try.sizeOf23 rfl (by decide) (Rd.own (i := 0) rfl rfl rfl) g236.1 g236.2.1) ?_
                refine Lst.nil ?_
                refine At.hd inv (fun w h => (h.weaken (FLe.refl _)).sublist (List.Sublist.cons _ (List.Sublist.refl _))) ?_
                refine HdJ.step [7, 11] (by kernel_rfl) rfl ?_
                refine HdStep.cons (by decide) rfl (fun inv => ?_) ?_
                · refine Lst.run rfl rfl (by decide) (Ev.loadS (α := BitVec 16) rfl (Rd.own (i := 0) rfl rfl rfl) Try.isAgg23 (v := .int .u16 x218.toNat) ((Get.elemN (s := 1) (x := x218) rfl g233.2.2 (Get.here _)).off (by omega))) ?_
                  refine Lst.nil ?_
                  refine At.hd inv (fun w h => (h.weaken (FLe.refl _)).sublist (List.Sublist.cons _ (List.Sublist.refl _))) ?_
                  refine HdJ.step [11] (by kernel_rfl) rfl ?_
                  refine HdStep.cons (by decide) rfl (fun inv => ?_) ?_
                  · refine Lst.run rfl rfl (by decide) (Ev.loadS (α := BitVec 16) rfl (Rd.own (i := 0) rfl rfl rfl) Try.isAgg23 (v := .int .u16 x221.toNat) ((Get.elemN (s := 1) (x := x221) rfl g236.2.2 (Get.here _)).off (by omega))) ?_
                    refine Lst.nil ?_
                    refine At.hd inv (fun w h => (h.weaken (FLe.refl _)).sublist (List.Sublist.cons _ (List.Sublist.refl _))) ?_
                    refine HdJ.step [12] (by kernel_rfl) rfl ?_
                    refine HdStep.cons (by decide) rfl (fun inv => ?_) ?_
                    · have g237 := lat_some h225
                      refine Lst.run rfl rfl (by decide) (Ev.indexS (α := BitVec 16) (xs := l144) rfl rfl Try.runUnderlying22 Try.sizeOf23 rfl (by decide) (Rd.own (i := 0) rfl rfl rfl) g237.1 g237.2.1) ?_
                      refine Lst.nil ?_
                      refine At.hd inv (fun w h => (h.weaken (FLe.refl _)).sublist (List.Sublist.cons _ (List.Sublist.refl _))) ?_
                      refine HdJ.step [13] (by kernel_rfl) rfl ?_
                      refine HdStep.cons (by decide) rfl (fun inv => ?_) ?_
                      · refine Lst.storeS (i := 0) rfl rfl rfl rfl rfl Try.sizeOf23 (vs := [.int .u16 x218.toNat]) rfl rfl (by decide) rfl (xs' := encs p227) (by rw [← h228]; exact (Put.elemN (s := 1) (x := x224) rfl g237.2.2 (Put.here (vs := [.int .u16 x218.toNat]) rfl)).off (by omega)) (L' := (.own s_a0 23 1 (encs p227)) :: L) rfl ?_
                        refine Lst.nil ?_
                        refine At.hd inv (fun w h => (h.weaken (FLe.refl _)).sublist (List.Sublist.cons _ (List.Sublist.refl _))) ?_
                        refine HdJ.done (by kernel_rfl) ?_
                        exact At.meetN p227 (FLe.refl _) ⟨rfl, rfl, rfl, rfl, rfl, rfl, rfl, rfl, trivial⟩ rfl h232
                      exact trivial
                    exact trivial
                  exact trivial
                refine HdStep.cons (by decide) rfl (fun inv => ?_) ?_
                · refine Lst.run rfl rfl (by decide) (Ev.loadS (α := BitVec 16) rfl (Rd.own (i := 0) rfl rfl rfl) Try.isAgg23 (v := .int .u16 x221.toNat) ((Get.elemN (s := 1) (x := x221) rfl g236.2.2 (Get.here _)).off (by omega))) ?_
                  refine Lst.nil ?_
                  refine At.hd inv (fun w h => (h.weaken (FLe.refl _)).sublist (List.Sublist.cons _ (List.Sublist.refl _))) ?_
                  refine HdJ.step [7] (by kernel_rfl) rfl ?_
                  refine HdStep.cons (by decide) rfl (fun inv => ?_) ?_
                  · refine Lst.run rfl rfl (by decide) (Ev.loadS (α := BitVec 16) rfl (Rd.own (i := 0) rfl rfl rfl) Try.isAgg23 (v := .int .u16 x218.toNat) ((Get.elemN (s := 1) (x := x218) rfl g233.2.2 (Get.here _)).off (by omega))) ?_
                    refine Lst.nil ?_
                    refine At.hd inv (fun w h => (h.weaken (FLe.refl _)).sublist (List.Sublist.cons _ (List.Sublist.refl _))) ?_
                    refine HdJ.step [12] (by kernel_rfl) rfl ?_
                    refine HdStep.cons (by decide) rfl (fun inv => ?_) ?_
                    · have g238 := lat_some h225
                      refine Lst.run rfl rfl (by decide) (Ev.indexS (α := BitVec 16) (xs := l144) rfl rfl Try.runUnderlying22 Try.sizeOf23 rfl (by decide) (Rd.own (i := 0) rfl rfl rfl) g238.1 g238.2.1) ?_
                      refine Lst.nil ?_
                      refine At.hd inv (fun w h => (h.weaken (FLe.refl _)).sublist (List.Sublist.cons _ (List.Sublist.refl _))) ?_
                      refine HdJ.step [13] (by kernel_rfl) rfl ?_
                      refine HdStep.cons (by decide) rfl (fun inv => ?_) ?_
                      · refine Lst.storeS (i := 0) rfl rfl rfl rfl rfl Try.sizeOf23 (vs := [.int .u16 x218.toNat]) rfl rfl (by decide) rfl (xs' := encs p227) (by rw [← h228]; exact (Put.elemN (s := 1) (x := x224) rfl g238.2.2 (Put.here (vs := [.int .u16 x218.toNat]) rfl)).off (by omega)) (L' := (.own s_a0 23 1 (encs p227)) :: L) rfl ?_
                        refine Lst.nil ?_
                        refine At.hd inv (fun w h => (h.weaken (FLe.refl _)).sublist (List.Sublist.cons _ (List.Sublist.refl _))) ?_
                        refine HdJ.done (by kernel_rfl) ?_
                        exact At.meetN p227 (FLe.refl _) ⟨rfl, rfl, rfl, rfl, rfl, rfl, rfl, rfl, trivial⟩ rfl h232
                      exact trivial
                    exact trivial
                  exact trivial
                exact trivial
              exact trivial
            refine HdStep.cons (by decide) rfl (fun inv => ?_) ?_
            · have g239 := lat_some h222
              refine Lst.run rfl rfl (by decide) (Ev.indexS (α := BitVec 16) (xs := l144) rfl rfl Try.runUnderlying22 Try.sizeOf23 rfl (by decide) (Rd.own (i := 0) rfl rfl rfl) g239.1 g239.2.1) ?_
              refine Lst.nil ?_
              refine At.hd inv (fun w h => (h.weaken (FLe.refl _)).sublist (List.Sublist.cons _ (List.Sublist.refl _))) ?_
              refine HdJ.step [6, 11] (by kernel_rfl) rfl ?_
              refine HdStep.cons (by decide) rfl (fun inv => ?_) ?_
              · have g240 := lat_some h219
                refine Lst.run rfl rfl (by decide) (Ev.indexS (α := BitVec 16) (xs := l144) rfl rfl Try.runUnderlying22 Try.sizeOf23 rfl (by decide) (Rd.own (i := 0) rfl rfl rfl) g240.1 g240.2.1) ?_
                refine Lst.nil ?_
                refine At.hd inv (fun w h => (h.weaken (FLe.refl _)).sublist (List.Sublist.cons _ (List.Sublist.refl _))) ?_
                refine HdJ.step [7, 11] (by kernel_rfl) rfl ?_
                refine HdStep.cons (by decide) rfl (fun inv => ?_) ?_
                · refine Lst.run rfl rfl (by decide) (Ev.loadS (α := BitVec 16) rfl (Rd.own (i := 0) rfl rfl rfl) Try.isAgg23 (v := .int .u16 x218.toNat) ((Get.elemN (s := 1) (x := x218) rfl g240.2.2 (Get.here _)).off (by omega))) ?_
                  refine Lst.nil ?_
                  refine At.hd inv (fun w h => (h.weaken (FLe.refl _)).sublist (List.Sublist.cons _ (List.Sublist.refl _))) ?_
                  refine HdJ.step [11] (by kernel_rfl) rfl ?_
                  refine HdStep.cons (by decide) rfl (fun inv => ?_) ?_
                  · refine Lst.run rfl rfl (by decide) (Ev.loadS (α := BitVec 16) rfl (Rd.own (i := 0) rfl rfl rfl) Try.isAgg23 (v := .int .u16 x221.toNat) ((Get.elemN (s := 1) (x := x221) rfl g239.2.2 (Get.here _)).off (by omega))) ?_
                    refine Lst.nil ?_
                    refine At.hd inv (fun w h => (h.weaken (FLe.refl _)).sublist (List.Sublist.cons _ (List.Sublist.refl _))) ?_
                    refine HdJ.step [12] (by kernel_rfl) rfl ?_
                    refine HdStep.cons (by decide) rfl (fun inv => ?_) ?_
                    · have g241 := lat_some h225
                      refine Lst.run rfl rfl (by decide) (Ev.indexS (α := BitVec 16) (xs := l144) rfl rfl Try.runUnderlying22 Try.sizeOf23 rfl (by decide) (Rd.own (i := 0) rfl rfl rfl) g241.1 g241.2.1) ?_
                      refine Lst.nil ?_
                      refine At.hd inv (fun w h => (h.weaken (FLe.refl _)).sublist (List.Sublist.cons _ (List.Sublist.refl _))) ?_
                      refine HdJ.step [13] (by kernel_rfl) rfl ?_
                      refine HdStep.cons (by decide) rfl (fun inv => ?_) ?_
                      · refine Lst.storeS (i := 0) rfl rfl rfl rfl rfl Try.sizeOf23 (vs := [.int .u16 x218.toNat]) rfl rfl (by decide) rfl (xs' := encs p227) (by rw [← h228]; exact (Put.elemN (s := 1) (x := x224) rfl g241.2.2 (Put.here (vs := [.int .u16 x218.toNat]) rfl)).off (by omega)) (L' := (.own s_a0 23 1 (encs p227)) :: L) rfl ?_
                        refine Lst.nil ?_
                        refine At.hd inv (fun w h => (h.weaken (FLe.refl _)).sublist (List.Sublist.cons _ (List.Sublist.refl _))) ?_
                        refine HdJ.done (by kernel_rfl) ?_
                        exact At.meetN p227 (FLe.refl _) ⟨rfl, rfl, rfl, rfl, rfl, rfl, rfl, rfl, trivial⟩ rfl h232
                      exact trivial
                    exact trivial
                  exact trivial
                refine HdStep.cons (by decide) rfl (fun inv => ?_) ?_
                · refine Lst.run rfl rfl (by decide) (Ev.loadS (α := BitVec 16) rfl (Rd.own (i := 0) rfl rfl rfl) Try.isAgg23 (v := .int .u16 x221.toNat) ((Get.elemN (s := 1) (x := x221) rfl g239.2.2 (Get.here _)).off (by omega))) ?_
                  refine Lst.nil ?_
                  refine At.hd inv (fun w h => (h.weaken (FLe.refl _)).sublist (List.Sublist.cons _ (List.Sublist.refl _))) ?_
                  refine HdJ.step [7] (by kernel_rfl) rfl ?_
                  refine HdStep.cons (by decide) rfl (fun inv => ?_) ?_
                  · refine Lst.run rfl rfl (by decide) (Ev.loadS (α := BitVec 16) rfl (Rd.own (i := 0) rfl rfl rfl) Try.isAgg23 (v := .int .u16 x218.toNat) ((Get.elemN (s := 1) (x := x218) rfl g240.2.2 (Get.here _)).off (by omega))) ?_
                    refine Lst.nil ?_
                    refine At.hd inv (fun w h => (h.weaken (FLe.refl _)).sublist (List.Sublist.cons _ (List.Sublist.refl _))) ?_
                    refine HdJ.step [12] (by kernel_rfl) rfl ?_
                    refine HdStep.cons (by decide) rfl (fun inv => ?_) ?_
                    · have g242 := lat_some h225
                      refine Lst.run rfl rfl (by decide) (Ev.indexS (α := BitVec 16) (xs := l144) rfl rfl Try.runUnderlying22 Try.sizeOf23 rfl (by decide) (Rd.own (i := 0) rfl rfl rfl) g242.1 g242.2.1) ?_
                      refine Lst.nil ?_
                      refine At.hd inv (fun w h => (h.weaken (FLe.refl _)).sublist (List.Sublist.cons _ (List.Sublist.refl _))) ?_
                      refine HdJ.step [13] (by kernel_rfl) rfl ?_
                      refine HdStep.cons (by decide) rfl (fun inv => ?_) ?_
                      · refine Lst.storeS (i := 0) rfl rfl rfl rfl rfl Try.sizeOf23 (vs := [.int .u16 x218.toNat]) rfl rfl (by decide) rfl (xs' := encs p227) (by rw [← h228]; exact (Put.elemN (s := 1) (x := x224) rfl g242.2.2 (Put.here (vs := [.int .u16 x218.toNat]) rfl)).off (by omega)) (L' := (.own s_a0 23 1 (encs p227)) :: L) rfl ?_
                        refine Lst.nil ?_
                        refine At.hd inv (fun w h => (h.weaken (FLe.refl _)).sublist (List.Sublist.cons _ (List.Sublist.refl _))) ?_
                        refine HdJ.done (by kernel_rfl) ?_
                        exact At.meetN p227 (FLe.refl _) ⟨rfl, rfl, rfl, rfl, rfl, rfl, rfl, rfl, trivial⟩ rfl h232
                      exact trivial
                    exact trivial
                  exact trivial
                exact trivial
              refine HdStep.cons (by decide) rfl (fun inv => ?_) ?_
              · refine Lst.run rfl rfl (by decide) (Ev.loadS (α := BitVec 16) rfl (Rd.own (i := 0) rfl rfl rfl) Try.isAgg23 (v := .int .u16 x221.toNat) ((Get.elemN (s := 1) (x := x221) rfl g239.2.2 (Get.here _)).off (by omega))) ?_
                refine Lst.nil ?_
                refine At.hd inv (fun w h => (h.weaken (FLe.refl _)).sublist (List.Sublist.cons _ (List.Sublist.refl _))) ?_
                refine HdJ.step [6] (by kernel_rfl) rfl ?_
                refine HdStep.cons (by decide) rfl (fun inv => ?_) ?_
                · have g243 := lat_some h219
                  refine Lst.run rfl rfl (by decide) (Ev.indexS (α := BitVec 16) (xs := l144) rfl rfl Try.runUnderlying22 Try.sizeOf23 rfl (by decide) (Rd.own (i := 0) rfl rfl rfl) g243.1 g243.2.1) ?_
                  refine Lst.nil ?_
                  refine At.hd inv (fun w h => (h.weaken (FLe.refl _)).sublist (List.Sublist.cons _ (List.Sublist.refl _))) ?_
                  refine HdJ.step [7] (by kernel_rfl) rfl ?_
                  refine HdStep.cons (by decide) rfl (fun inv => ?_) ?_
                  · refine Lst.run rfl rfl (by decide) (Ev.loadS (α := BitVec 16) rfl (Rd.own (i := 0) rfl rfl rfl) Try.isAgg23 (v := .int .u16 x218.toNat) ((Get.elemN (s := 1) (x := x218) rfl g243.2.2 (Get.here _)).off (by omega))) ?_
                    refine Lst.nil ?_
                    refine At.hd inv (fun w h => (h.weaken (FLe.refl _)).sublist (List.Sublist.cons _ (List.Sublist.refl _))) ?_
                    refine HdJ.step [12] (by kernel_rfl) rfl ?_
                    refine HdStep.cons (by decide) rfl (fun inv => ?_) ?_
                    · have g244 := lat_some h225
                      refine Lst.run rfl rfl (by decide) (Ev.indexS (α := BitVec 16) (xs := l144) rfl rfl Try.runUnderlying22 Try.sizeOf23 rfl (by decide) (Rd.own (i := 0) rfl rfl rfl) g244.1 g244.2.1) ?_
                      refine Lst.nil ?_
                      refine At.hd inv (fun w h => (h.weaken (FLe.refl _)).sublist (List.Sublist.cons _ (List.Sublist.refl _))) ?_
                      refine HdJ.step [13] (by kernel_rfl) rfl ?_
                      refine HdStep.cons (by decide) rfl (fun inv => ?_) ?_
                      · refine Lst.storeS (i := 0) rfl rfl rfl rfl rfl Try.sizeOf23 (vs := [.int .u16 x218.toNat]) rfl rfl (by decide) rfl (xs' := encs p227) (by rw [← h228]; exact (Put.elemN (s := 1) (x := x224) rfl g244.2.2 (Put.here (vs := [.int .u16 x218.toNat]) rfl)).off (by omega)) (L' := (.own s_a0 23 1 (encs p227)) :: L) rfl ?_
                        refine Lst.nil ?_
                        refine At.hd inv (fun w h => (h.weaken (FLe.refl _)).sublist (List.Sublist.cons _ (List.Sublist.refl _))) ?_
                        refine HdJ.done (by kernel_rfl) ?_
                        exact At.meetN p227 (FLe.refl _) ⟨rfl, rfl, rfl, rfl, rfl, rfl, rfl, rfl, trivial⟩ rfl h232
                      exact trivial
                    exact trivial
                  exact trivial
                exact trivial
              exact trivial
            exact trivial
          rintro F245 l230 hF246 hy
          subst hy
          refine Lst.as (e' := [(0, Sl.v s_a0), (1, .int .i64 a1), (4, .func (.func 53) #[] #[]), (12, .int .i64 y148), (13, .int .i64 y166), (147, Sl.v s_a0), (148, .int .i64 y166), (156, .int .u16 x221.toNat)]) (L' := (.own s_a0 23 1 (encs l230)) :: L) ⟨rfl, rfl, rfl, rfl, rfl, rfl, rfl, rfl, trivial⟩ rfl ?_
          obtain ⟨x247, h248, H⟩ := bind_some H
          have g249 := lat_some h248
          refine Lst.run rfl rfl (by decide) (Ev.indexS (α := BitVec 16) (xs := l230) rfl rfl Try.runUnderlying22 Try.sizeOf23 rfl (by decide) (Rd.own (i := 0) rfl rfl rfl) g249.1 g249.2.1) ?_
          obtain ⟨p250, h251, H⟩ := Let_some H
          refine Lst.storeS (i := 0) rfl rfl rfl rfl rfl Try.sizeOf23 (vs := [.int .u16 x221.toNat]) rfl rfl (by decide) rfl (xs' := encs p250) (by rw [← h251]; exact (Put.elemN (s := 1) (x := x247) rfl g249.2.2 (Put.here (vs := [.int .u16 x221.toNat]) rfl)).off (by omega)) (L' := (.own s_a0 23 1 (encs p250)) :: L) rfl ?_
          refine Lst.nil ?_
          refine At.then ?_
          refine Cd.seq ?_
          refine Cd.region ?_
          refine Lst.run rfl rfl (by decide) (Ev.move rfl) ?_
          refine Lst.run rfl rfl (by decide) (Ev.add rfl rfl) ?_
          refine Lst.run rfl rfl (by decide) (Ev.assign rfl) ?_
          refine Lst.nil ?_
          refine At.then ?_
          refine Cd.region ?_
          refine Lst.run rfl rfl (by decide) (Ev.move rfl) ?_
          refine Lst.run rfl rfl (by decide) (Ev.sub rfl rfl) ?_
          refine Lst.run rfl rfl (by decide) (Ev.assign rfl) ?_
          refine Lst.nil ?_
          refine At.in_normal ?_
          exact At.meet (k141, w64 (y148 + (1 : Int)), w64 (y166 - (1 : Int)), p250) (FLe.trans (FLe.trans (FLe.trans hF146 hF150) hF168) hF246) ⟨rfl, rfl, rfl, rfl, rfl, trivial⟩ rfl ⟨hgo141 _ (some_inj H).symm, Nat.lt_succ_self _⟩
        replace H := ite_t hb182 H
        refine Cd.condT rfl hb182 ?_
        refine Cd.skip ?_
        refine At.then ?_
        refine Cd.block ?_
        refine Cd.region ?_
        refine Lst.run rfl rfl (by decide) (Ev.move rfl) ?_
        refine Lst.run rfl rfl (by decide) (Ev.sub rfl rfl) ?_
        refine Lst.run rfl rfl (by decide) (Ev.assign rfl) ?_
        refine Lst.nil ?_
        refine At.in_normal ?_
        exact At.meet (k165, w64 (y166 - (1 : Int))) hF168 ⟨rfl, rfl, rfl, rfl, rfl, trivial⟩ rfl ⟨hgo165 _ (some_inj H).symm, Nat.lt_succ_self _⟩
      replace H := ite_t hb164 H
      refine Cd.condT rfl hb164 ?_
      refine Cd.skip ?_
      refine At.then ?_
      refine Cd.block ?_
      refine Cd.region ?_
      refine Lst.run rfl rfl (by decide) (Ev.move rfl) ?_
      refine Lst.run rfl rfl (by decide) (Ev.add rfl rfl) ?_
      refine Lst.run rfl rfl (by decide) (Ev.assign rfl) ?_
      refine Lst.nil ?_
      refine At.in_normal ?_
      exact At.meet (k147, w64 (y148 + (1 : Int))) hF150 ⟨rfl, rfl, rfl, rfl, rfl, trivial⟩ rfl ⟨hgo147 _ (some_inj H).symm, Nat.lt_succ_self _⟩
    replace H := ite_t hb71 H
    refine Cd.condT rfl hb71 ?_
    refine Cd.skip ?_
    refine At.then ?_
    refine Cd.block ?_
    refine Cd.region ?_
    refine Lst.run rfl rfl (by decide) (Ev.move rfl) ?_
    refine Lst.run rfl rfl (by decide) (Ev.sub rfl rfl) ?_
    refine Lst.run rfl rfl (by decide) (Ev.assign rfl) ?_
    refine Lst.nil ?_
    refine At.in_normal ?_
    exact At.meet (k54, w64 (y55 - (1 : Int))) hF57 ⟨rfl, rfl, rfl, rfl, rfl, trivial⟩ rfl ⟨hgo54 _ (some_inj H).symm, Nat.lt_succ_self _⟩
  replace H := ite_t hb53 H
  refine Cd.condT rfl hb53 ?_
  refine Cd.skip ?_
  refine At.then ?_
  refine Cd.block ?_
  refine Cd.region ?_
  refine Lst.run rfl rfl (by decide) (Ev.move rfl) ?_
  refine Lst.run rfl rfl (by decide) (Ev.add rfl rfl) ?_
  refine Lst.run rfl rfl (by decide) (Ev.assign rfl) ?_
  refine Lst.nil ?_
  refine At.in_normal ?_
  exact At.meet (k36, w64 (y37 + (1 : Int))) hF39 ⟨rfl, rfl, rfl, rfl, rfl, trivial⟩ rfl ⟨hgo36 _ (some_inj H).symm, Nat.lt_succ_self _⟩
set_option maxRecDepth 20000 in
theorem slices_pdqsortCmpFunc_uint16_quorum_compare_simR : ∀ (fu : Nat) {a0 : List (BitVec 16)} {a1 : Int} {a2 : Int} {a3 : Int} {s_a0 : Sl} {r : (List (BitVec 16))} (H : slices_pdqsortCmpFunc_uint16_quorum_compare fu a0 a1 a2 a3 = some r) (w0 : World) (F : Frz) (M L : List Item) (hM : M.Sublist L), Ok Try.prog w0 112 [Sl.v s_a0, .int .i64 a1, .int .i64 a2, .int .i64 a3, .func (.func 53) #[] #[]] F ((.own s_a0 23 1 (encs a0)) :: L) (fun _ L' v => v = .tuple #[] ∧ L' = (.own s_a0 23 1 (encs r)) :: L) := by
  intro fu
  induction fu with
  | zero => intro a0 a1 a2 a3 s_a0 r H; exact nomatch (show (none : Option (List (BitVec 16))) = some _ from H)
  | succ fu ih =>
    intro a0 a1 a2 a3 s_a0 r H w0 F M L hM
    replace H : slices_pdqsortCmpFunc_uint16_quorum_compare_R fu (slices_pdqsortCmpFunc_uint16_quorum_compare fu) a0 a1 a2 a3 = some r := H
    generalize slices_pdqsortCmpFunc_uint16_quorum_compare fu = rc at H ih
    unfold slices_pdqsortCmpFunc_uint16_quorum_compare_R at H
    refine Ok.enter (m := 5) (n := 148) Try.func112 rfl rfl rfl (by decide) ?_
    refine Cd.env (e' := [(0, Sl.v s_a0), (1, .int .i64 a1), (2, .int .i64 a2), (3, .int .i64 a3), (4, .func (.func 53) #[] #[])]) rfl ?_
    refine Cd.seq ?_
    refine Cd.region ?_
    refine Lst.run rfl rfl (by decide) (Ev.assign rfl) ?_
    refine Lst.nil ?_
    refine At.then ?_
    refine Cd.seq ?_
    refine Cd.region ?_
    refine Lst.run rfl rfl (by decide) (Ev.assign rfl) ?_
    refine Lst.nil ?_
    refine At.then ?_
    refine Cd.block ?_
    obtain ⟨ol2, H, HKl2⟩ := andThen_some H
    refine Cd.loop (σ := Nat × Int × Int × Int × Bool × Bool × (List (BitVec 16))) (fun (k2, y3, y4, y5, y6, y7, l8) => [(0, Sl.v s_a0), (1, .int .i64 y3), (2, .int .i64 y4), (3, .int .i64 y5), (4, .func (.func 53) #[] #[]), (10, .bool y6), (11, .bool y7)]) (fun (k2, y3, y4, y5, y6, y7, l8) => (.own s_a0 23 1 (encs l8)) :: L) (fun _ => (fun (k2, y3, y4, y5, y6, y7, l8) => whileM (slices_pdqsortCmpFunc_uint16_quorum_compare_B0 fu rc) k2 (y3, y4, y5, y6, y7, l8) = some ol2)) (fun (k2, y3, y4, y5, y6, y7, l8) => k2) (fu, a1, a2, a3, true, true, a0) ⟨rfl, rfl, rfl, rfl, rfl, rfl, rfl, trivial⟩ rfl H ?_
    rintro F9 ⟨k2, y3, y4, y5, y6, y7, l8⟩ hF10 H
    refine Cd.as (e' := [(0, Sl.v s_a0), (1, .int .i64 y3), (2, .int .i64 y4), (3, .int .i64 y5), (4, .func (.func 53) #[] #[]), (10, .bool y6), (11, .bool y7)]) (L' := (.own s_a0 23 1 (encs l8)) :: L) ⟨rfl, rfl, rfl, rfl, rfl, rfl, rfl, trivial⟩ rfl ?_
    rcases k2 with _ | k2
    · cases H
    obtain ⟨c2, H, hgo2, hbrk2, hret2⟩ := whileM_go H
    unfold slices_pdqsortCmpFunc_uint16_quorum_compare_B0 at H
    try dsimp only at H
    refine Cd.block ?_
    refine Cd.seq ?_
    refine Cd.region ?_
    refine Lst.run rfl rfl (by decide) (Ev.move rfl) ?_
    refine Lst.run rfl rfl (by decide) (Ev.move rfl) ?_
    refine Lst.run rfl rfl (by decide) (Ev.sub rfl rfl) ?_
    refine Lst.run rfl rfl (by decide) (Ev.assign rfl) ?_
    refine Lst.nil ?_
    refine At.then ?_
    refine Cd.seq ?_
    refine Cd.seq ?_
    refine Cd.region ?_
    refine Lst.run rfl rfl (by decide) (Ev.move rfl) ?_
    refine Lst.run rfl rfl (by decide) (Ev.leq rfl rfl) ?_
    refine Lst.nil ?_
    refine At.then ?_
    rcases Bool.eq_false_or_eq_true (decide ((w64 (y4 - y3)) ≤ (12 : Int))) with hb11 | hb11
    · replace H := ite_t hb11 H
      refine Cd.condT rfl hb11 ?_
      refine Cd.seq ?_
      refine Cd.region ?_
      refine Lst.run rfl rfl (by decide) (Ev.move rfl) ?_
      refine Lst.run rfl rfl (by decide) (Ev.move rfl) ?_
      refine Lst.run rfl rfl (by decide) (Ev.move rfl) ?_
      refine Lst.run rfl rfl (by decide) (Ev.move rfl) ?_
      obtain ⟨r12, h13, H⟩ := bind_some H
      refine Lst.call rfl rfl (by decide) (vs := [Sl.v s_a0, .int .i64 y3, .int .i64 y4, .func (.func 53) #[] #[]]) ⟨rfl, rfl, rfl, rfl, trivial⟩ Try.call134 (slices_insertionSortCmpFunc_uint16_quorum_compare_sim h13 w0 _ M _ hM) (fun F14 L' v hF15 hv => ?_)
      obtain ⟨rfl, rfl⟩ := hv
      refine Lst.nil ?_
      refine At.then ?_
      have H := hret2 _ (some_inj H).symm
      subst H
      replace H := HKl2
      obtain rfl := some_inj H
      refine Cd.ret ?_
      refine At.then_ret ?_
      refine At.in_ret ?_
      refine At.then_ret ?_
      refine At.in_ret ?_
      exact At.ret0 (.inl rfl) rfl (FLe.trans hF10 hF15) (List.Sublist.cons_cons _ (List.Sublist.refl _)) ⟨rfl, rfl⟩
    replace H := ite_f hb11 H
    refine Cd.condF rfl hb11 ?_
    refine Cd.skip ?_
    refine At.then ?_
    refine Cd.seq ?_
    refine Cd.seq ?_
    refine Cd.region ?_
    refine Lst.run rfl rfl (by decide) (Ev.move rfl) ?_
    refine Lst.run rfl rfl (by decide) (Ev.eql rfl rfl) ?_
    refine Lst.nil ?_
    refine At.then ?_
    rcases Bool.eq_false_or_eq_true (y5 == (0 : Int)) with hb16 | hb16
    · replace H := ite_t hb16 H
      refine Cd.condT rfl hb16 ?_
      refine Cd.seq ?_
      refine Cd.region ?_
      refine Lst.run rfl rfl (by decide) (Ev.move rfl) ?_
      refine Lst.run rfl rfl (by decide) (Ev.move rfl) ?_
      refine Lst.run rfl rfl (by decide) (Ev.move rfl) ?_
      refine Lst.run rfl rfl (by decide) (Ev.move rfl) ?_
      obtain ⟨r17, h18, H⟩ := bind_some H
      refine Lst.call rfl rfl (by decide) (vs := [Sl.v s_a0, .int .i64 y3, .int .i64 y4, .func (.func 53) #[] #[]]) ⟨rfl, rfl, rfl, rfl, trivial⟩ Try.call135 (slices_heapSortCmpFunc_uint16_quorum_compare_sim h18 w0 _ M _ hM) (fun F19 L' v hF20 hv => ?_)
      obtain ⟨rfl, rfl⟩ := hv
      refine Lst.nil ?_
      refine At.then ?_
      have H := hret2 _ (some_inj H).symm
      subst H
      replace H := HKl2
      obtain rfl := some_inj H
      refine Cd.ret ?_
      refine At.then_ret ?_
      refine At.in_ret ?_
      refine At.then_ret ?_
      refine At.in_ret ?_
      exact At.ret0 (.inl rfl) rfl (FLe.trans hF10 hF20) (List.Sublist.cons_cons _ (List.Sublist.refl _)) ⟨rfl, rfl⟩
    replace H := ite_f hb16 H
    refine Cd.condF rfl hb16 ?_
    refine Cd.skip ?_
    refine At.then ?_
    obtain ⟨o23, H, HKo23⟩ := bind_some H
    refine Cd.join (σ := Int × (List (BitVec 16))) (fun (y21, l22) => [(0, Sl.v s_a0), (1, .int .i64 y3), (2, .int .i64 y4), (3, .int .i64 y21), (4, .func (.func 53) #[] #[]), (10, .bool y6), (11, .bool y7), (12, .int .i64 (w64 (y4 - y3)))]) (fun (y21, l22) => (.own s_a0 23 1 (encs l22)) :: L) (fun _ (y21, l22) => (y21, l22) = o23) ?_ ?_
    · refine Cd.seq ?_
      refine Cd.region ?_
      refine Lst.run rfl rfl (by decide) (Ev.move rfl) ?_
      refine Lst.run rfl rfl (by decide) (Ev.not rfl) ?_
      refine Lst.nil ?_
      refine At.then ?_
      rcases (Bool.eq_false_or_eq_true (!y6)).symm with hb24 | hb24
      · replace H := ite_f hb24 H
        refine Cd.condF rfl hb24 ?_
        refine Cd.skip ?_
        exact At.meet (y5, l8) (FLe.refl _) ⟨rfl, rfl, rfl, rfl, rfl, rfl, rfl, rfl, trivial⟩ rfl (some_inj H)
      replace H := ite_t hb24 H
      refine Cd.condT rfl hb24 ?_
      refine Cd.seq ?_
      refine Cd.region ?_
      refine Lst.run rfl rfl (by decide) (Ev.move rfl) ?_
      refine Lst.run rfl rfl (by decide) (Ev.move rfl) ?_
      refine Lst.run rfl rfl (by decide) (Ev.move rfl) ?_
      refine Lst.run rfl rfl (by decide) (Ev.move rfl) ?_
      obtain ⟨r25, h26, H⟩ := bind_some H
      refine Lst.call rfl rfl (by decide) (vs := [Sl.v s_a0, .int .i64 y3, .int .i64 y4, .func (.func 53) #[] #[]]) ⟨rfl, rfl, rfl, rfl, trivial⟩ Try.call136 (slices_breakPatternsCmpFunc_uint16_quorum_compare_sim h26 w0 _ M _ hM) (fun F27 L' v hF28 hv => ?_)
      obtain ⟨rfl, rfl⟩ := hv
      refine Lst.nil ?_
      refine At.then ?_
      refine Cd.region ?_
      refine Lst.run rfl rfl (by decide) (Ev.move rfl) ?_
      refine Lst.run rfl rfl (by decide) (Ev.sub rfl rfl) ?_
      refine Lst.run rfl rfl (by decide) (Ev.assign rfl) ?_
      refine Lst.nil ?_
      exact At.meet (w64 (y5 - (1 : Int)), r25) hF28 ⟨rfl, rfl, rfl, rfl, rfl, rfl, rfl, rfl, trivial⟩ rfl (some_inj H)
    rintro F29 ⟨y21, l22⟩ hF30 hy
    subst hy
    refine Cd.as (e' := [(0, Sl.v s_a0), (1, .int .i64 y3), (2, .int .i64 y4), (3, .int .i64 y21), (4, .func (.func 53) #[] #[]), (10, .bool y6), (11, .bool y7), (12, .int .i64 (w64 (y4 - y3)))]) (L' := (.own s_a0 23 1 (encs l22)) :: L) ⟨rfl, rfl, rfl, rfl, rfl, rfl, rfl, rfl, trivial⟩ rfl ?_
    replace H := HKo23
    refine Cd.seq ?_
    refine Cd.region ?_
    refine Lst.run rfl rfl (by decide) (Ev.move rfl) ?_
    refine Lst.run rfl rfl (by decide) (Ev.move rfl) ?_
    refine Lst.run rfl rfl (by decide) (Ev.move rfl) ?_
    refine Lst.run rfl rfl (by decide) (Ev.move rfl) ?_
    obtain ⟨r31, h32, H⟩ := bind_some H
    refine Lst.call1 rfl rfl (by decide) (vs := [Sl.v s_a0, .int .i64 y3, .int .i64 y4, .func (.func 53) #[] #[]]) ⟨rfl, rfl, rfl, rfl, trivial⟩ Try.call137 (slices_choosePivotCmpFunc_uint16_quorum_compare_sim h32 w0 _ _ _ (List.Sublist.refl _) (Rd.own (i := 0) rfl rfl rfl)) ?_
    refine Lst.run rfl rfl (by decide) (Ev.move rfl) ?_
    refine Lst.run rfl rfl (by decide) (Ev.extract rfl rfl) ?_
    refine Lst.run rfl rfl (by decide) (Ev.extract rfl rfl) ?_
    refine Lst.run rfl rfl (by decide) (Ev.assign rfl) ?_
    refine Lst.run rfl rfl (by decide) (Ev.assign rfl) ?_
    refine Lst.nil ?_
    refine At.then ?_
    obtain ⟨o38, H, HKo38⟩ := bind_some H
    refine Cd.join (σ := Int × Int × (List (BitVec 16))) (fun (y35, y36, l37) => [(0, Sl.v s_a0), (1, .int .i64 y3), (2, .int .i64 y4), (3, .int .i64 y21), (4, .func (.func 53) #[] #[]), (10, .bool y6), (11, .bool y7), (12, .int .i64 (w64 (y4 - y3))), (13, .int .i64 y35), (14, .int .i64 y36)]) (fun (y35, y36, l37) => (.own s_a0 23 1 (encs l37)) :: L) (fun _ (y35, y36, l37) => (y35, y36, l37) = o38) ?_ ?_
    · refine Cd.seq ?_
      refine Cd.region ?_
      refine Lst.run rfl rfl (by decide) (Ev.move rfl) ?_
      refine Lst.run rfl rfl (by decide) (Ev.eql rfl rfl) ?_
      refine Lst.nil ?_
      refine At.then ?_
      rcases (Bool.eq_false_or_eq_true (r31.2 == (2 : Int))).symm with hb39 | hb39
      · replace H := ite_f hb39 H
        refine Cd.condF rfl hb39 ?_
        refine Cd.skip ?_
        exact At.meet (r31.1, r31.2, l22) (FLe.refl _) ⟨rfl, rfl, rfl, rfl, rfl, rfl, rfl, rfl, rfl, rfl, trivial⟩ rfl (some_inj H)
      replace H := ite_t hb39 H
      refine Cd.condT rfl hb39 ?_
      refine Cd.seq ?_
      refine Cd.region ?_
      refine Lst.run rfl rfl (by decide) (Ev.move rfl) ?_
      refine Lst.run rfl rfl (by decide) (Ev.move rfl) ?_
      refine Lst.run rfl rfl (by decide) (Ev.move rfl) ?_
      refine Lst.run rfl rfl (by decide) (Ev.move rfl) ?_
      obtain ⟨r40, h41, H⟩ := bind_some H
      refine Lst.call rfl rfl (by decide) (vs := [Sl.v s_a0, .int .i64 y3, .int .i64 y4, .func (.func 53) #[] #[]]) ⟨rfl, rfl, rfl, rfl, trivial⟩ Try.call138 (slices_reverseRangeCmpFunc_uint16_quorum_compare_sim h41 w0 _ M _ hM) (fun F42 L' v hF43 hv => ?_)
      obtain ⟨rfl, rfl⟩ := hv
      refine Lst.nil ?_
      refine At.then ?_
      refine Cd.seq ?_
      refine Cd.as (e' := [(0, Sl.v s_a0), (1, .int .i64 y3), (2, .int .i64 y4), (3, .int .i64 y21), (4, .func (.func 53) #[] #[]), (10, .bool y6), (11, .bool y7), (12, .int .i64 (w64 (y4 - y3))), (13, .int .i64 r31.1)]) (L' := (.own s_a0 23 1 (encs r40)) :: L) ⟨rfl, rfl, rfl, rfl, rfl, rfl, rfl, rfl, rfl, trivial⟩ rfl ?_
      refine Cd.region ?_
      refine Lst.run rfl rfl (by decide) (Ev.move rfl) ?_
      refine Lst.run rfl rfl (by decide) (Ev.sub rfl rfl) ?_
      refine Lst.run rfl rfl (by decide) (Ev.move rfl) ?_
      refine Lst.run rfl rfl (by decide) (Ev.move rfl) ?_
      refine Lst.run rfl rfl (by decide) (Ev.sub rfl rfl) ?_
      refine Lst.run rfl rfl (by decide) (Ev.sub rfl rfl) ?_
      refine Lst.run rfl rfl (by decide) (Ev.assign rfl) ?_
      refine Lst.nil ?_
      refine At.then ?_
      refine Cd.region ?_
      refine Lst.run rfl rfl (by decide) (Ev.assign rfl) ?_
      refine Lst.nil ?_
      exact At.meet (w64 ((w64 (y4 - (1 : Int))) - (w64 (r31.1 - y3))), (1 : Int), r40) hF43 ⟨rfl, rfl, rfl, rfl, rfl, rfl, rfl, rfl, rfl, rfl, trivial⟩ rfl (some_inj H)
    rintro F44 ⟨y35, y36, l37⟩ hF45 hy
    subst hy
    refine Cd.as (e' := [(0, Sl.v s_a0), (1, .int .i64 y3), (2, .int .i64 y4), (3, .int .i64 y21), (4, .func (.func 53) #[] #[]), (10, .bool y6), (11, .bool y7), (12, .int .i64 (w64 (y4 - y3))), (13, .int .i64 y35), (14, .int .i64 y36)]) (L' := (.own s_a0 23 1 (encs l37)) :: L) ⟨rfl, rfl, rfl, rfl, rfl, rfl, rfl, rfl, rfl, rfl, trivial⟩ rfl ?_
    replace H := HKo38
    obtain ⟨o47, H, HKo47⟩ := andThen_some H
    refine Cd.join (σ := (List (BitVec 16))) (fun l46 => [(0, Sl.v s_a0), (1, .int .i64 y3), (2, .int .i64 y4), (3, .int .i64 y21), (4, .func (.func 53) #[] #[]), (10, .bool y6), (11, .bool y7), (12, .int .i64 (w64 (y4 - y3))), (13, .int .i64 y35)]) (fun l46 => (.own s_a0 23 1 (encs l46)) :: L) (fun _ l46 => .inl l46 = o47) ?_ ?_
    · refine Cd.seq ?_
      refine Cd.region ?_
      refine Lst.run rfl rfl (by decide) (Ev.move rfl) ?_
      refine Lst.run rfl rfl (by decide) (Ev.move rfl) ?_
      obtain ⟨o48, H, HKo48⟩ := bind_some H
      refine Lst.join (σ := Bool) 2 (fun y49 => [(0, Sl.v s_a0), (1, .int .i64 y3), (2, .int .i64 y4), (3, .int .i64 y21), (4, .func (.func 53) #[] #[]), (10, .bool y6), (11, .bool y7), (12, .int .i64 (w64 (y4 - y3))), (13, .int .i64 y35), (14, .int .i64 y36), (71, .bool y49)]) (fun y49 => (.own s_a0 23 1 (encs l37)) :: L) (fun _ y49 => y49 = o48) ?_ ?_
      · rcases (Bool.eq_false_or_eq_true y6).symm with hb50 | hb50
        · replace H := ite_f hb50 H
          refine Lst.skip rfl rfl rfl hb50 rfl (by decide) ?_
          refine Lst.run rfl rfl (by decide) (Ev.pickF rfl hb50 rfl) ?_
          refine Lst.nil ?_
          exact At.meet false (FLe.refl _) ⟨rfl, rfl, rfl, rfl, rfl, rfl, rfl, rfl, rfl, rfl, rfl, trivial⟩ rfl (some_inj H)
        replace H := ite_t hb50 H
        refine Lst.runG rfl rfl rfl hb50 rfl (by decide) (Ev.move rfl) ?_
        refine Lst.run rfl rfl (by decide) (Ev.pickT rfl hb50 rfl) ?_
        refine Lst.nil ?_
        exact At.meet y7 (FLe.refl _) ⟨rfl, rfl, rfl, rfl, rfl, rfl, rfl, rfl, rfl, rfl, rfl, trivial⟩ rfl (some_inj H)
      rintro F51 y49 hF52 hy
      subst hy
      refine Lst.as (e' := [(0, Sl.v s_a0), (1, .int .i64 y3), (2, .int .i64 y4), (3, .int .i64 y21), (4, .func (.func 53) #[] #[]), (10, .bool y6), (11, .bool y7), (12, .int .i64 (w64 (y4 - y3))), (13, .int .i64 y35), (14, .int .i64 y36), (71, .bool y49)]) (L' := (.own s_a0 23 1 (encs l37)) :: L) ⟨rfl, rfl, rfl, rfl, rfl, rfl, rfl, rfl, rfl, rfl, rfl, trivial⟩ rfl ?_
      replace H := HKo48
      refine Lst.run rfl rfl (by decide) (Ev.move rfl) ?_
      obtain ⟨o53, H, HKo53⟩ := bind_some H
      refine Lst.join (σ := Bool) 3 (fun y54 => [(0, Sl.v s_a0), (1, .int .i64 y3), (2, .int .i64 y4), (3, .int .i64 y21), (4, .func (.func 53) #[] #[]), (10, .bool y6), (11, .bool y7), (12, .int .i64 (w64 (y4 - y3))), (13, .int .i64 y35), (75, .bool y54)]) (fun y54 => (.own s_a0 23 1 (encs l37)) :: L) (fun _ y54 => y54 = o53) ?_ ?_
      · rcases (Bool.eq_false_or_eq_true y49).symm with hb55 | hb55
        · replace H := ite_f hb55 H
          refine Lst.skip rfl rfl rfl hb55 rfl (by decide) ?_
          refine Lst.skip rfl rfl rfl hb55 rfl (by decide) ?_
          refine Lst.run rfl rfl (by decide) (Ev.pickF rfl hb55 rfl) ?_
          refine Lst.nil ?_
          exact At.meet false (FLe.refl _) ⟨rfl, rfl, rfl, rfl, rfl, rfl, rfl, rfl, rfl, rfl, trivial⟩ rfl (some_inj H)
        replace H := ite_t hb55 H
        refine Lst.runG rfl rfl rfl hb55 rfl (by decide) (Ev.move rfl) ?_
        refine Lst.runG rfl rfl rfl hb55 rfl (by decide) (Ev.eql rfl rfl) ?_
        refine Lst.run rfl rfl (by decide) (Ev.pickT rfl hb55 rfl) ?_
        refine Lst.nil ?_
        exact At.meet (y36 == (1 : Int)) (FLe.refl _) ⟨rfl, rfl, rfl, rfl, rfl, rfl, rfl, rfl, rfl, rfl, trivial⟩ rfl (some_inj H)
      rintro F56 y54 hF57 hy
      subst hy
      refine Lst.as (e' := [(0, Sl.v s_a0), (1, .int .i64 y3), (2, .int .i64 y4), (3, .int .i64 y21), (4, .func (.func 53) #[] #[]), (10, .bool y6), (11, .bool y7), (12, .int .i64 (w64 (y4 - y3))), (13, .int .i64 y35), (75, .bool y54)]) (L' := (.own s_a0 23 1 (encs l37)) :: L) ⟨rfl, rfl, rfl, rfl, rfl, rfl, rfl, rfl, rfl, rfl, trivial⟩ rfl ?_
      replace H := HKo53
      refine Lst.nil ?_
      refine At.then ?_
      rcases (Bool.eq_false_or_eq_true y54).symm with hb58 | hb58
      · replace H := ite_f hb58 H
        refine Cd.condF rfl hb58 ?_
        refine Cd.skip ?_
        exact At.meet l37 (FLe.trans hF52 hF57) ⟨rfl, rfl, rfl, rfl, rfl, rfl, rfl, rfl, rfl, trivial⟩ rfl (some_inj H)
      replace H := ite_t hb58 H
      refine Cd.condT rfl hb58 ?_
      refine Cd.seq ?_
      refine Cd.region ?_
      refine Lst.run rfl rfl (by decide) (Ev.move rfl) ?_
      refine Lst.run rfl rfl (by decide) (Ev.move rfl) ?_
      refine Lst.run rfl rfl (by decide) (Ev.move rfl) ?_
      refine Lst.run rfl rfl (by decide) (Ev.move rfl) ?_
      obtain ⟨r59, h60, H⟩ := bind_some H
      refine Lst.call rfl rfl (by decide) (vs := [Sl.v s_a0, .int .i64 y3, .int .i64 y4, .func (.func 53) #[] #[]]) ⟨rfl, rfl, rfl, rfl, trivial⟩ Try.call139 (slices_partialInsertionSortCmpFunc_uint16_quorum_compare_sim h60 w0 _ M _ hM) (fun F61 L' v hF62 hv => ?_)
      obtain ⟨rfl, rfl⟩ := hv
      refine Lst.nil ?_
      refine At.then ?_
      rcases Bool.eq_false_or_eq_true r59.2 with hb63 | hb63
      · replace H := ite_t hb63 H
        refine Cd.condT rfl hb63 ?_
        obtain rfl := some_inj H
        replace H := HKo47
        have H := hret2 _ (some_inj H).symm
        subst H
        replace H := HKl2
        obtain rfl := some_inj H
        refine Cd.ret ?_
        refine At.then_ret ?_
        refine At.in_ret ?_
        refine At.then_ret ?_
        refine At.in_ret ?_
        exact At.ret0 (.inl rfl) rfl (FLe.trans (FLe.trans (FLe.trans (FLe.trans (FLe.trans hF10 hF30) hF45) hF52) hF57) hF62) (List.Sublist.cons_cons _ (List.Sublist.refl _)) ⟨rfl, rfl⟩
      replace H := ite_f hb63 H
      refine Cd.condF rfl hb63 ?_
      refine Cd.skip ?_
      exact At.meet r59.1 (FLe.trans (FLe.trans hF52 hF57) hF62) ⟨rfl, rfl, rfl, rfl, rfl, rfl, rfl, rfl, rfl, trivial⟩ rfl (some_inj H)
    rintro F64 l46 hF65 hy
    subst hy
    refine Cd.as (e' := [(0, Sl.v s_a0), (1, .int .i64 y3), (2, .int .i64 y4), (3, .int .i64 y21), (4, .func (.func 53) #[] #[]), (10, .bool y6), (11, .bool y7), (12, .int .i64 (w64 (y4 - y3))), (13, .int .i64 y35)]) (L' := (.own s_a0 23 1 (encs l46)) :: L) ⟨rfl, rfl, rfl, rfl, rfl, rfl, rfl, rfl, rfl, trivial⟩ rfl ?_
    replace H := HKo47
    refine Cd.seq ?_
    refine Cd.seq ?_
    refine Cd.quiet (by kernel_rfl) (by kernel_rfl) ?_
    refine Qt.run rfl rfl (by decide) (Ev.move rfl) ?_
    refine Qt.run rfl rfl (by decide) (Ev.gtr rfl rfl) ?_
    refine Qt.run rfl rfl (by decide) (Ev.move rfl) ?_
    obtain ⟨o66, H, HKo66⟩ := bind_some H
    refine Qt.join (σ := Bool) 14 (fun y67 => [(0, Sl.v s_a0), (1, .int .i64 y3), (2, .int .i64 y4), (3, .int .i64 y21), (4, .func (.func 53) #[] #[]), (10, .bool y6), (11, .bool y7), (12, .int .i64 (w64 (y4 - y3))), (13, .int .i64 y35), (97, .bool y67)]) (fun y67 => y67 = o66) ?_ ?_
    · rcases (Bool.eq_false_or_eq_true (decide (y3 > (0 : Int)))).symm with hb68 | hb68
      · replace H := ite_f hb68 H
        refine Qt.skip rfl rfl rfl hb68 rfl (by decide) ?_
        refine Qt.skip rfl rfl rfl hb68 rfl (by decide) ?_
        refine Qt.skip rfl rfl rfl hb68 rfl (by decide) ?_
        refine Qt.skip rfl rfl rfl hb68 rfl (by decide) ?_
        refine Qt.skip rfl rfl rfl hb68 rfl (by decide) ?_
        refine Qt.skip rfl rfl rfl hb68 rfl (by decide) ?_
        refine Qt.skip rfl rfl rfl hb68 rfl (by decide) ?_
        refine Qt.skip rfl rfl rfl hb68 rfl (by decide) ?_
        refine Qt.skip rfl rfl rfl hb68 rfl (by decide) ?_
        refine Qt.skip rfl rfl rfl hb68 rfl (by decide) ?_
        refine Qt.skip rfl rfl rfl hb68 rfl (by decide) ?_
        refine Qt.skip rfl rfl rfl hb68 rfl (by decide) ?_
        refine Qt.skip rfl rfl rfl hb68 rfl (by decide) ?_
        refine Qt.run rfl rfl (by decide) (Ev.pickF rfl hb68 rfl) ?_
        exact Qt.meet false ⟨rfl, rfl, rfl, rfl, rfl, rfl, rfl, rfl, rfl, rfl, trivial⟩ (some_inj H)
      replace H := ite_t hb68 H
      refine Qt.runG rfl rfl rfl hb68 rfl (by decide) (Ev.move rfl) ?_
      refine Qt.runG rfl rfl rfl hb68 rfl (by decide) (Ev.move rfl) ?_
      refine Qt.runG rfl rfl rfl hb68 rfl (by decide) (Ev.move rfl) ?_
      refine Qt.runG rfl rfl rfl hb68 rfl (by decide) (Ev.sub rfl rfl) ?_
      obtain ⟨x69, h70, H⟩ := bind_some H
      have g71 := lat_some h70
      refine Qt.runG rfl rfl rfl hb68 rfl (by decide) (Ev.indexS (α := BitVec 16) (xs := l46) rfl rfl Try.runUnderlying22 Try.sizeOf23 rfl (by decide) (Rd.own (i := 0) rfl rfl rfl) g71.1 g71.2.1) ?_
      refine Qt.runG rfl rfl rfl hb68 rfl (by decide) (Ev.loadS (α := BitVec 16) rfl (Rd.own (i := 0) rfl rfl rfl) Try.isAgg23 (v := .int .u16 x69.toNat) ((Get.elemN (s := 1) (x := x69) rfl g71.2.2 (Get.here _)).off (by omega))) ?_
      refine Qt.runG rfl rfl rfl hb68 rfl (by decide) (Ev.move rfl) ?_
      refine Qt.runG rfl rfl rfl hb68 rfl (by decide) (Ev.move rfl) ?_
      obtain ⟨x72, h73, H⟩ := bind_some H
      have g74 := lat_some h73
      refine Qt.runG rfl rfl rfl hb68 rfl (by decide) (Ev.indexS (α := BitVec 16) (xs := l46) rfl rfl Try.runUnderlying22 Try.sizeOf23 rfl (by decide) (Rd.own (i := 0) rfl rfl rfl) g74.1 g74.2.1) ?_
      refine Qt.runG rfl rfl rfl hb68 rfl (by decide) (Ev.loadS (α := BitVec 16) rfl (Rd.own (i := 0) rfl rfl rfl) Try.isAgg23 (v := .int .u16 x72.toNat) ((Get.elemN (s := 1) (x := x72) rfl g74.2.2 (Get.here _)).off (by omega))) ?_
      obtain ⟨r75, h76, H⟩ := bind_some H
      refine Qt.callVG rfl rfl rfl hb68 rfl (by decide) (vs := [.int .u16 x69.toNat, .int .u16 x72.toNat]) (cs := []) rfl ⟨rfl, rfl, trivial⟩ Try.call53 (quorum_compare_sim h76 w0 _ M _ (List.Sublist.cons _ hM)) ?_
      refine Qt.runG rfl rfl rfl hb68 rfl (by decide) (Ev.lss rfl rfl) ?_
      refine Qt.runG rfl rfl rfl hb68 rfl (by decide) (Ev.not rfl) ?_
      refine Qt.run rfl rfl (by decide) (Ev.pickT rfl hb68 rfl) ?_
      exact Qt.meet (!(decide (r75 < (0 : Int)))) ⟨rfl, rfl, rfl, rfl, rfl, rfl, rfl, rfl, rfl, rfl, trivial⟩ (some_inj H)
    rintro y67 hy
    subst hy
    refine Qt.as (e' := [(0, Sl.v s_a0), (1, .int .i64 y3), (2, .int .i64 y4), (3, .int .i64 y21), (4, .func (.func 53) #[] #[]), (10, .bool y6), (11, .bool y7), (12, .int .i64 (w64 (y4 - y3))), (13, .int .i64 y35), (97, .bool y67)]) ⟨rfl, rfl, rfl, rfl, rfl, rfl, rfl, rfl, rfl, rfl, trivial⟩ ?_
    replace H := HKo66
    refine Qt.done ?_
    refine At.then ?_
    rcases Bool.eq_false_or_eq_true y67 with hb79 | hb79
    · replace H := ite_t hb79 H
      refine Cd.condT rfl hb79 ?_
      refine Cd.seq ?_
      refine Cd.region ?_
      refine Lst.run rfl rfl (by decide) (Ev.move rfl) ?_
      refine Lst.run rfl rfl (by decide) (Ev.move rfl) ?_
      refine Lst.run rfl rfl (by decide) (Ev.move rfl) ?_
      refine Lst.run rfl rfl (by decide) (Ev.move rfl) ?_
      refine Lst.run rfl rfl (by decide) (Ev.move rfl) ?_
      obtain ⟨r80, h81, H⟩ := bind_some H
      refine Lst.call rfl rfl (by decide) (vs := [Sl.v s_a0, .int .i64 y3, .int .i64 y4, .int .i64 y35, .func (.func 53) #[] #[]]) ⟨rfl, rfl, rfl, rfl, rfl, trivial⟩ Try.call140 (slices_partitionEqualCmpFunc_uint16_quorum_compare_sim h81 w0 _ M _ hM) (fun F82 L' v hF83 hv => ?_)
      obtain ⟨rfl, rfl⟩ := hv
      refine Lst.run rfl rfl (by decide) (Ev.assign rfl) ?_
      refine Lst.nil ?_
      refine At.then ?_
      refine Cd.seq ?_
      refine Cd.region ?_
      refine Lst.run rfl rfl (by decide) (Ev.move rfl) ?_
      refine Lst.run rfl rfl (by decide) (Ev.assign rfl) ?_
      refine Lst.nil ?_
      refine At.then ?_
      refine Cd.exit ?_
      refine At.then_exit ?_
      refine At.in_exit ?_
      exact At.meet (k2, r80.2, y4, y21, y6, y7, r80.1) (FLe.trans (FLe.trans (FLe.trans (FLe.trans hF10 hF30) hF45) hF65) hF83) ⟨rfl, rfl, rfl, rfl, rfl, rfl, rfl, trivial⟩ rfl ⟨hgo2 _ (some_inj H).symm, Nat.lt_succ_self _⟩
    replace H := ite_f hb79 H
    refine Cd.condF rfl hb79 ?_
    refine Cd.skip ?_
    refine At.then ?_
    refine Cd.seq ?_
    refine Cd.region ?_
    refine Lst.run rfl rfl (by decide) (Ev.move rfl) ?_
    refine Lst.run rfl rfl (by decide) (Ev.move rfl) ?_
    refine Lst.run rfl rfl (by decide) (Ev.move rfl) ?_
    refine Lst.run rfl rfl (by decide) (Ev.move rfl) ?_
    refine Lst.run rfl rfl (by decide) (Ev.move rfl) ?_
    obtain ⟨r84, h85, H⟩ := bind_some H
    refine Lst.call rfl rfl (by decide) (vs := [Sl.v s_a0, .int .i64 y3, .int .i64 y4, .int .i64 y35, .func (.func 53) #[] #[]]) ⟨rfl, rfl, rfl, rfl, rfl, trivial⟩ Try.call141 (slices_partitionCmpFunc_uint16_quorum_compare_sim h85 w0 _ M _ hM) (fun F86 L' v hF87 hv => ?_)
    obtain ⟨rfl, rfl⟩ := hv
    refine Lst.run rfl rfl (by decide) (Ev.move rfl) ?_
    refine Lst.run rfl rfl (by decide) (Ev.extract rfl rfl) ?_
    refine Lst.run rfl rfl (by decide) (Ev.extract rfl rfl) ?_
    refine Lst.run rfl rfl (by decide) (Ev.assign rfl) ?_
    refine Lst.run rfl rfl (by decide) (Ev.assign rfl) ?_
    refine Lst.nil ?_
    refine At.then ?_
    refine Cd.seq ?_
    refine Cd.region ?_
    refine Lst.run rfl rfl (by decide) (Ev.move rfl) ?_
    refine Lst.run rfl rfl (by decide) (Ev.assign rfl) ?_
    refine Lst.nil ?_
    refine At.then ?_
    refine Cd.seq ?_
    refine Cd.as (e' := [(0, Sl.v s_a0), (1, .int .i64 y3), (2, .int .i64 y4), (3, .int .i64 y21), (4, .func (.func 53) #[] #[]), (11, .bool r84.2.2), (12, .int .i64 (w64 (y4 - y3))), (16, .int .i64 r84.2.1)]) (L' := (.own s_a0 23 1 (encs r84.1)) :: L) ⟨rfl, rfl, rfl, rfl, rfl, rfl, rfl, rfl, trivial⟩ rfl ?_
    refine Cd.region ?_
    refine Lst.run rfl rfl (by decide) (Ev.move rfl) ?_
    refine Lst.run rfl rfl (by decide) (Ev.move rfl) ?_
    refine Lst.run rfl rfl (by decide) (Ev.sub rfl rfl) ?_
    refine Lst.run rfl rfl (by decide) (Ev.move rfl) ?_
    refine Lst.run rfl rfl (by decide) (Ev.move rfl) ?_
    refine Lst.run rfl rfl (by decide) (Ev.sub rfl rfl) ?_
    refine Lst.run rfl rfl (by decide) (Ev.assign rfl) ?_
    refine Lst.run rfl rfl (by decide) (Ev.assign rfl) ?_
    refine Lst.nil ?_
    refine At.then ?_
    refine Cd.seq ?_
    refine Cd.region ?_
    refine Lst.run rfl rfl (by decide) (Ev.move rfl) ?_
    refine Lst.run rfl rfl (by decide) (Ev.quo (i := w64 (y4 - y3)) (j := (8 : Int)) rfl rfl (by decide)) ?_
    refine Lst.run rfl rfl (by decide) (Ev.assign rfl) ?_
    refine Lst.nil ?_
    refine At.then ?_
    refine Cd.seq ?_
    refine Cd.region ?_
    refine Lst.run rfl rfl (by decide) (Ev.move rfl) ?_
    refine Lst.run rfl rfl (by decide) (Ev.move rfl) ?_
    refine Lst.run rfl rfl (by decide) (Ev.lss rfl rfl) ?_
    refine Lst.nil ?_
    refine At.then ?_
    rcases (Bool.eq_false_or_eq_true (decide ((w64 (r84.2.1 - y3)) < (w64 (y4 - r84.2.1))))).symm with hb88 | hb88
    · replace H := ite_f hb88 H
      refine Cd.condF rfl hb88 ?_
      refine Cd.seq ?_
      refine Cd.region ?_
      refine Lst.run rfl rfl (by decide) (Ev.move rfl) ?_
      refine Lst.run rfl rfl (by decide) (Ev.move rfl) ?_
      refine Lst.run rfl rfl (by decide) (Ev.geq rfl rfl) ?_
      refine Lst.run rfl rfl (by decide) (Ev.assign rfl) ?_
      refine Lst.nil ?_
      refine At.then ?_
      refine Cd.seq ?_
      refine Cd.as (e' := [(0, Sl.v s_a0), (1, .int .i64 y3), (2, .int .i64 y4), (3, .int .i64 y21), (4, .func (.func 53) #[] #[]), (11, .bool r84.2.2), (16, .int .i64 r84.2.1), (10, .bool (decide ((w64 (y4 - r84.2.1)) ≥ (w64 ((w64 (y4 - y3)).tdiv (8 : Int))))))]) (L' := (.own s_a0 23 1 (encs r84.1)) :: L) ⟨rfl, rfl, rfl, rfl, rfl, rfl, rfl, rfl, trivial⟩ rfl ?_
      refine Cd.region ?_
      refine Lst.run rfl rfl (by decide) (Ev.move rfl) ?_
      refine Lst.run rfl rfl (by decide) (Ev.move rfl) ?_
      refine Lst.run rfl rfl (by decide) (Ev.add rfl rfl) ?_
      refine Lst.run rfl rfl (by decide) (Ev.move rfl) ?_
      refine Lst.run rfl rfl (by decide) (Ev.move rfl) ?_
      refine Lst.run rfl rfl (by decide) (Ev.move rfl) ?_
      obtain ⟨r89, h90, H⟩ := bind_some H
      refine Lst.call rfl rfl (by decide) (vs := [Sl.v s_a0, .int .i64 (w64 (r84.2.1 + (1 : Int))), .int .i64 y4, .int .i64 y21, .func (.func 53) #[] #[]]) ⟨rfl, rfl, rfl, rfl, rfl, trivial⟩ Try.call112 (ih h90 w0 _ M _ hM) (fun F91 L' v hF92 hv => ?_)
      obtain ⟨rfl, rfl⟩ := hv
      refine Lst.nil ?_
      refine At.then ?_
      refine Cd.region ?_
      refine Lst.run rfl rfl (by decide) (Ev.move rfl) ?_
      refine Lst.run rfl rfl (by decide) (Ev.assign rfl) ?_
      refine Lst.nil ?_
      refine At.in_normal ?_
      exact At.meet (k2, y3, r84.2.1, y21, decide ((w64 (y4 - r84.2.1)) ≥ (w64 ((w64 (y4 - y3)).tdiv (8 : Int)))), r84.2.2, r89) (FLe.trans (FLe.trans (FLe.trans (FLe.trans (FLe.trans hF10 hF30) hF45) hF65) hF87) hF92) ⟨rfl, rfl, rfl, rfl, rfl, rfl, rfl, trivial⟩ rfl ⟨hgo2 _ (some_inj H).symm, Nat.lt_succ_self _⟩
    replace H := ite_t hb88 H
    refine Cd.condT rfl hb88 ?_
    refine Cd.seq ?_
    refine Cd.region ?_
    refine Lst.run rfl rfl (by decide) (Ev.move rfl) ?_
    refine Lst.run rfl rfl (by decide) (Ev.move rfl) ?_
    refine Lst.run rfl rfl (by decide) (Ev.geq rfl rfl) ?_
    refine Lst.run rfl rfl (by decide) (Ev.assign rfl) ?_
    refine Lst.nil ?_
    refine At.then ?_
    refine Cd.seq ?_
    refine Cd.as (e' := [(0, Sl.v s_a0), (1, .int .i64 y3), (2, .int .i64 y4), (3, .int .i64 y21), (4, .func (.func 53) #[] #[]), (11, .bool r84.2.2), (16, .int .i64 r84.2.1), (10, .bool (decide ((w64 (r84.2.1 - y3)) ≥ (w64 ((w64 (y4 - y3)).tdiv (8 : Int))))))]) (L' := (.own s_a0 23 1 (encs r84.1)) :: L) ⟨rfl, rfl, rfl, rfl, rfl, rfl, rfl, rfl, trivial⟩ rfl ?_
    refine Cd.region ?_
    refine Lst.run rfl rfl (by decide) (Ev.move rfl) ?_
    refine Lst.run rfl rfl (by decide) (Ev.move rfl) ?_
    refine Lst.run rfl rfl (by decide) (Ev.move rfl) ?_
    refine Lst.run rfl rfl (by decide) (Ev.move rfl) ?_
    refine Lst.run rfl rfl (by decide) (Ev.move rfl) ?_
    obtain ⟨r93, h94, H⟩ := bind_some H
    refine Lst.call rfl rfl (by decide) (vs := [Sl.v s_a0, .int .i64 y3, .int .i64 r84.2.1, .int .i64 y21, .func (.func 53) #[] #[]]) ⟨rfl, rfl, rfl, rfl, rfl, trivial⟩ Try.call112 (ih h94 w0 _ M _ hM) (fun F95 L' v hF96 hv => ?_)
    obtain ⟨rfl, rfl⟩ := hv
    refine Lst.nil ?_
    refine At.then ?_
    refine Cd.region ?_
    refine Lst.run rfl rfl (by decide) (Ev.move rfl) ?_
    refine Lst.run rfl rfl (by decide) (Ev.add rfl rfl) ?_
    refine Lst.run rfl rfl (by decide) (Ev.assign rfl) ?_
    refine Lst.nil ?_
    refine At.in_normal ?_
    exact At.meet (k2, w64 (r84.2.1 + (1 : Int)), y4, y21, decide ((w64 (r84.2.1 - y3)) ≥ (w64 ((w64 (y4 - y3)).tdiv (8 : Int)))), r84.2.2, r93) (FLe.trans (FLe.trans (FLe.trans (FLe.trans (FLe.trans hF10 hF30) hF45) hF65) hF87) hF96) ⟨rfl, rfl, rfl, rfl, rfl, rfl, rfl, trivial⟩ rfl ⟨hgo2 _ (some_inj H).symm, Nat.lt_succ_self _⟩
theorem slices_pdqsortCmpFunc_uint16_quorum_compare_sim {fu : Nat} {a0 : List (BitVec 16)} {a1 : Int} {a2 : Int} {a3 : Int} {s_a0 : Sl} {r : (List (BitVec 16))} (H : slices_pdqsortCmpFunc_uint16_quorum_compare fu a0 a1 a2 a3 = some r) (w0 : World) (F : Frz) (M L : List Item) (hM : M.Sublist L) : Ok Try.prog w0 112 [Sl.v s_a0, .int .i64 a1, .int .i64 a2, .int .i64 a3, .func (.func 53) #[] #[]] F ((.own s_a0 23 1 (encs a0)) :: L) (fun _ L' v => v = .tuple #[] ∧ L' = (.own s_a0 23 1 (encs r)) :: L) :=
  slices_pdqsortCmpFunc_uint16_quorum_compare_simR fu H w0 F M L hM
set_option maxRecDepth 20000 in
theorem slices_SortFunc_uint16_uint16_quorum_compare_sim {fu : Nat} {a0 : List (BitVec 16)} {s_a0 : Sl} {r : (List (BitVec 16))} (H : slices_SortFunc_uint16_uint16_quorum_compare fu a0 = some r) (w0 : World) (F : Frz) (M L : List Item) (hM : M.Sublist L) : Ok Try.prog w0 94 [Sl.v s_a0, .func (.func 53) #[] #[]] F ((.own s_a0 23 1 (encs a0)) :: L) (fun _ L' v => v = .tuple #[] ∧ L' = (.own s_a0 23 1 (encs r)) :: L) := by
  unfold slices_SortFunc_uint16_uint16_quorum_compare at H
  refine Ok.enter (m := 2) (n := 14) Try.func94 rfl rfl rfl (by decide) ?_
  refine Cd.env (e' := [(0, Sl.v s_a0), (1, .func (.func 53) #[] #[])]) rfl ?_
  refine Cd.seq ?_
  refine Cd.region ?_
  refine Lst.run rfl rfl (by decide) (Ev.move rfl) ?_
  refine Lst.run rfl rfl (by decide) (Ev.lenS (α := BitVec 16) (xs := a0) (by decide) rfl rfl Try.runUnderlying22 (Rd.own (i := 0) rfl rfl rfl)) ?_
  refine Lst.run rfl rfl (by decide) (Ev.assign rfl) ?_
  refine Lst.nil ?_
  refine At.then ?_
  refine Cd.region ?_
  refine Lst.run rfl rfl (by decide) (Ev.move rfl) ?_
  refine Lst.run rfl rfl (by decide) (Ev.move rfl) ?_
  refine Lst.run rfl rfl (by decide) (Ev.move rfl) ?_
  refine Lst.run rfl rfl (by decide) (Ev.convTo64 rfl Try.runUnderlying3 Try.runUnderlying131) ?_
  obtain ⟨r2, h3, H⟩ := bind_some H
  refine Lst.call1 rfl rfl (by decide) (vs := [.int .u64 (BitVec.ofInt 64 (a0.length : Int)).toNat]) ⟨rfl, trivial⟩ Try.call106 (math_bits_Len_sim h3 w0 _ M _ (List.Sublist.cons _ hM)) ?_
  refine Lst.run rfl rfl (by decide) (Ev.move rfl) ?_
  obtain ⟨r6, h7, H⟩ := bind_some H
  refine Lst.call rfl rfl (by decide) (vs := [Sl.v s_a0, .int .i64 (0 : Int), .int .i64 (a0.length : Int), .int .i64 r2, .func (.func 53) #[] #[]]) ⟨rfl, rfl, rfl, rfl, rfl, trivial⟩ Try.call112 (slices_pdqsortCmpFunc_uint16_quorum_compare_sim h7 w0 _ M _ hM) (fun F8 L' v hF9 hv => ?_)
  obtain ⟨rfl, rfl⟩ := hv
  refine Lst.nil ?_
  obtain rfl := some_inj H
  exact At.ret0 (.inr rfl) rfl hF9 (List.Sublist.cons_cons _ (List.Sublist.refl _)) ⟨rfl, rfl⟩
set_option maxRecDepth 20000 in
theorem quorum_minimal_Dual_1_sim {fu : Nat} {a0 : Int} {a1_c0 : List (BitVec 16)} {b_a1_c0 : Nat} {s_a1_c0 : Sl} {r : (List (BitVec 16))} (H : quorum_minimal_Dual_1 fu a0 a1_c0 = some r) (w0 : World) (F : Frz) (M L : List Item) (hM : M.Sublist L) (hs_a1_c0 : Rd w0 F M s_a1_c0 a1_c0) : Ok Try.prog w0 49 [.int .i64 a0, .func (.func 50) #[] #[.pointer (some ⟨b_a1_c0, 0, none⟩)]] F ((.blk b_a1_c0 (enc s_a1_c0) 22) :: L) (fun _ L' v => ∃ (s2 : Sl), v = Sl.v s2 ∧ L' = (.own s2 23 1 (encs r)) :: (.blk b_a1_c0 (enc s_a1_c0) 22) :: L) := by
  unfold quorum_minimal_Dual_1 at H
  refine Ok.enter (m := 2) (n := 41) Try.func49 rfl rfl rfl (by decide) ?_
  refine Cd.env (e' := [(0, .int .i64 a0), (1, .func (.func 50) #[] #[.pointer (some ⟨b_a1_c0, 0, none⟩)])]) rfl ?_
  refine Cd.seq ?_
  refine Cd.region ?_
  refine Lst.addNil 23 1 ?_
  refine Lst.run rfl rfl (by decide) (Ev.assign rfl) ?_
  refine Lst.nil ?_
  refine At.then ?_
  refine Cd.seq ?_
  refine Cd.region ?_
  refine Lst.addNil 23 1 ?_
  refine Lst.run rfl rfl (by decide) (Ev.assign rfl) ?_
  refine Lst.nil ?_
  refine At.then ?_
  refine Cd.seq ?_
  refine Cd.seq ?_
  refine Cd.region ?_
  refine Lst.run rfl rfl (by decide) (Ev.move rfl) ?_
  obtain ⟨n4, h5, H⟩ := bind_some H
  refine Lst.run rfl rfl (by decide) (Ev.shlU16 (i := (1 : BitVec 16)) (m := n4) rfl (congrArg some (congrArg (Value.int .i64) (cnt_some h5)))) ?_
  refine Lst.run rfl rfl (by decide) (Ev.move rfl) ?_
  refine Lst.nil ?_
  refine At.then ?_
  refine Cd.block ?_
  obtain ⟨ol7, H, HKl7⟩ := andThen_some H
  refine Cd.loop (σ := Nat × (BitVec 16) × Sl × (List (BitVec 16))) (fun (k7, y8, s9, l10) => [(1, .func (.func 50) #[] #[.pointer (some ⟨b_a1_c0, 0, none⟩)]), (5, Sl.v s9), (11, .int .u16 ((1 : BitVec 16) <<< n4).toNat), (12, .int .u16 y8.toNat)]) (fun (k7, y8, s9, l10) => (.own s9 23 1 (encs l10)) :: (.own Sl.nil 23 1 (encs ([] : List (BitVec 16)))) :: (.blk b_a1_c0 (enc s_a1_c0) 22) :: L) (fun _ => (fun (k7, y8, s9, l10) => whileM (quorum_minimal_Dual_1_B0 a1_c0 n4) k7 (y8, l10) = some ol7)) (fun (k7, y8, s9, l10) => k7) (fu, (0 : BitVec 16), Sl.nil, ([] : List (BitVec 16))) ⟨rfl, rfl, rfl, rfl, trivial⟩ rfl H ?_
  rintro F11 ⟨k7, y8, s9, l10⟩ hF12 H
  refine Cd.as (e' := [(1, .func (.func 50) #[] #[.pointer (some ⟨b_a1_c0, 0, none⟩)]), (5, Sl.v s9), (11, .int .u16 ((1 : BitVec 16) <<< n4).toNat), (12, .int .u16 y8.toNat)]) (L' := (.own s9 23 1 (encs l10)) :: (.own Sl.nil 23 1 (encs ([] : List (BitVec 16)))) :: (.blk b_a1_c0 (enc s_a1_c0) 22) :: L) ⟨rfl, rfl, rfl, rfl, trivial⟩ rfl ?_
  rcases k7 with _ | k7
  · cases H
  obtain ⟨c7, H, hgo7, hbrk7, hret7⟩ := whileM_go H
  unfold quorum_minimal_Dual_1_B0 at H
  try dsimp only at H
  refine Cd.seq ?_
  refine Cd.region ?_
  refine Lst.run rfl rfl (by decide) (Ev.lss rfl rfl) ?_
  refine Lst.nil ?_
  refine At.then ?_
  refine Cd.seq ?_
  rcases (Bool.eq_false_or_eq_true (decide ((y8.toNat : Int) < (((1 : BitVec 16) <<< n4).toNat : Int)))).symm with hb13 | hb13
  · replace H := ite_f hb13 H
    refine Cd.condF rfl hb13 ?_
    refine Cd.exit ?_
    refine At.then_exit ?_
    refine At.then_exit ?_
    refine At.in_exit ?_
    have H := hbrk7 _ (some_inj H).symm
    subst H
    replace H := HKl7
    refine At.then ?_
    refine Cd.seq ?_
    refine Cd.region ?_
    refine Lst.run rfl rfl (by decide) (Ev.move rfl) ?_
    obtain ⟨r14, h15, H⟩ := bind_some H
    refine Lst.call rfl rfl (by decide) (vs := [Sl.v s9, .func (.func 53) #[] #[]]) ⟨rfl, rfl, trivial⟩ Try.call94 (slices_SortFunc_uint16_uint16_quorum_compare_sim h15 w0 _ M _ (List.Sublist.cons _ (List.Sublist.cons _ hM))) (fun F16 L' v hF17 hv => ?_)
    obtain ⟨rfl, rfl⟩ := hv
    refine Lst.nil ?_
    refine At.then ?_
    refine Cd.seq ?_
    refine Cd.region ?_
    refine Lst.addNil 23 1 ?_
    refine Lst.run rfl rfl (by decide) (Ev.assign rfl) ?_
    refine Lst.nil ?_
    refine At.then ?_
    refine Cd.seq ?_
    refine Cd.seq ?_
    refine Cd.region ?_
    refine Lst.run rfl rfl (by decide) (Ev.move rfl) ?_
    refine Lst.run rfl rfl (by decide) (Ev.lenS (α := BitVec 16) (xs := r14) (by decide) rfl rfl Try.runUnderlying22 (Rd.own (i := 1) rfl rfl rfl)) ?_
    refine Lst.run rfl rfl (by decide) (Ev.move rfl) ?_
    refine Lst.nil ?_
    refine At.then ?_
    refine Cd.block ?_
    refine Cd.bound (Rd.le (α := BitVec 16) (xs := r14) (by decide) (Rd.own (i := 1) rfl rfl rfl)) (fun hN37 => ?_)
    obtain ⟨ol19, H, HKl19⟩ := bind_some H
    refine Cd.loop (σ := Nat × Nat × Sl × (List (BitVec 16))) (fun (i19, k19, s20, l21) => [(7, Sl.v s20), (25, Sl.v s9), (26, .int .i64 (r14.length : Int)), (27, .int .i64 (i19 : Int))]) (fun (i19, k19, s20, l21) => (.own s20 23 1 (encs l21)) :: (.own s9 23 1 (encs r14)) :: (.own Sl.nil 23 1 (encs ([] : List (BitVec 16)))) :: (.blk b_a1_c0 (enc s_a1_c0) 22) :: L) (fun _ => (fun (i19, k19, s20, l21) => rangeF (quorum_minimal_Dual_1_B2 r14) k19 i19 l21 = some ol19 ∧ i19 + k19 = r14.length)) (fun (i19, k19, s20, l21) => k19) (0, r14.length, Sl.nil, ([] : List (BitVec 16))) ⟨rfl, rfl, rfl, rfl, trivial⟩ rfl ⟨H, by omega⟩ ?_
    rintro F22 ⟨i19, k19, s20, l21⟩ hF23 ⟨H, hik19⟩
    refine Cd.as (e' := [(7, Sl.v s20), (25, Sl.v s9), (26, .int .i64 (r14.length : Int)), (27, .int .i64 (i19 : Int))]) (L' := (.own s20 23 1 (encs l21)) :: (.own s9 23 1 (encs r14)) :: (.own Sl.nil 23 1 (encs ([] : List (BitVec 16)))) :: (.blk b_a1_c0 (enc s_a1_c0) 22) :: L) ⟨rfl, rfl, rfl, rfl, trivial⟩ rfl ?_
    rcases k19 with _ | k19
    · have hc19 : decide ((i19 : Int) < (r14.length : Int)) = false := decide_eq_false (by omega)
      replace H := rangeF_end H
      refine Cd.seq ?_
      refine Cd.region ?_
      refine Lst.run rfl rfl (by decide) (Ev.lss rfl rfl) ?_
      refine Lst.nil ?_
      refine At.then ?_
      refine Cd.seq ?_
      refine Cd.condF rfl hc19 ?_
      refine Cd.exit ?_
      refine At.then_exit ?_
      refine At.then_exit ?_
      refine At.in_exit ?_
      subst H
      replace H := HKl19
      refine At.then ?_
      refine Cd.seq ?_
      refine Cd.region ?_
      refine Lst.run rfl rfl (by decide) (Ev.move rfl) ?_
      refine Lst.run rfl rfl (by decide) (Ev.assign rfl) ?_
      refine Lst.nil ?_
      refine At.then ?_
      obtain rfl := some_inj H
      refine Cd.ret ?_
      exact At.ret1 rfl (Res.tmp rfl) (FLe.trans (FLe.trans hF12 hF17) hF23) (List.Sublist.cons_cons _ (List.Sublist.cons _ (List.Sublist.cons _ (List.Sublist.cons_cons _ (List.Sublist.refl _))))) ⟨s20, rfl, rfl⟩
    have hc19 : decide ((i19 : Int) < (r14.length : Int)) = true := decide_eq_true (by omega)
    obtain ⟨c19, H, hgo19⟩ := rangeF_go H
    unfold quorum_minimal_Dual_1_B2 at H
    try dsimp only at H
    refine Cd.seq ?_
    refine Cd.region ?_
    refine Lst.run rfl rfl (by decide) (Ev.lss rfl rfl) ?_
    refine Lst.nil ?_
    refine At.then ?_
    refine Cd.seq ?_
    refine Cd.condT rfl hc19 ?_
    refine Cd.skip ?_
    refine At.then ?_
    refine Cd.seq ?_
    refine Cd.block ?_
    refine Cd.seq ?_
    refine Cd.region ?_
    obtain ⟨x24, h25, H⟩ := bind_some H
    have g26 := lat_some h25
    refine Lst.run rfl rfl (by decide) (Ev.indexS (α := BitVec 16) (xs := r14) rfl rfl Try.runUnderlying22 Try.sizeOf23 rfl (by decide) (Rd.own (i := 1) rfl rfl rfl) g26.1 g26.2.1) ?_
    refine Lst.run rfl rfl (by decide) (Ev.loadS (α := BitVec 16) rfl (Rd.own (i := 1) rfl rfl rfl) Try.isAgg23 (v := .int .u16 x24.toNat) ((Get.elemN (s := 1) (x := x24) rfl g26.2.2 (Get.here _)).off (by omega))) ?_
    refine Lst.run rfl rfl (by decide) (Ev.assign rfl) ?_
    refine Lst.nil ?_
    refine At.then ?_
    refine Cd.seq ?_
    refine Cd.region ?_
    refine Lst.run rfl rfl (by decide) (Ev.move rfl) ?_
    refine Lst.run rfl rfl (by decide) (Ev.move rfl) ?_
    obtain ⟨r27, h28, H⟩ := bind_some H
    refine Lst.call1 rfl rfl (by decide) (vs := [.int .u16 x24.toNat, Sl.v s20]) ⟨rfl, rfl, trivial⟩ Try.call51 (quorum_contains_sim h28 w0 _ _ _ (List.Sublist.refl _) (Rd.own (i := 0) rfl rfl rfl)) ?_
    refine Lst.run rfl rfl (by decide) (Ev.not rfl) ?_
    refine Lst.nil ?_
    refine At.then ?_
    rcases (Bool.eq_false_or_eq_true (!r27)).symm with hb31 | hb31
    · replace H := ite_f hb31 H
      refine Cd.condF rfl hb31 ?_
      refine Cd.skip ?_
      refine At.in_normal ?_
      refine At.then ?_
      refine Cd.region ?_
      refine Lst.run rfl rfl (by decide) (Ev.incr (by omega) rfl rfl) ?_
      refine Lst.run rfl rfl (by decide) (Ev.move rfl) ?_
      refine Lst.nil ?_
      exact At.meet (i19 + 1, k19, s20, l21) hF23 ⟨rfl, rfl, rfl, rfl, trivial⟩ rfl ⟨⟨hgo19 _ (some_inj H).symm, by omega⟩, Nat.lt_succ_self _⟩
    replace H := ite_t hb31 H
    refine Cd.condT rfl hb31 ?_
    refine Cd.region ?_
    refine Lst.run rfl rfl (by decide) (Ev.move rfl) ?_
    refine Lst.run rfl rfl (by decide) (Ev.move rfl) ?_
    refine Lst.buildSlice (α := BitVec 16) (xs := ([x24] : List (BitVec 16))) (pv := [(0, .int .u16 x24.toNat)]) rfl rfl (by decide) ⟨rfl, rfl, trivial⟩ (run_buildSlice (α := BitVec 16) (z0 := (0 : BitVec 16)) (xs := ([x24] : List (BitVec 16))) Try.runUnderlying22 Try.sizeOf23 Try.zeroValue23 rfl rfl rfl (by decide) rfl (fill_cons (cs := encs (List.replicate 1 (0 : BitVec 16))) (cs' := encs ((List.replicate 1 (0 : BitVec 16)).set 0 x24)) (vs := [.int .u16 x24.toNat]) rfl rfl rfl ((Put.elemN (s := 1) (i := 0) (x := (0 : BitVec 16)) (y := x24) rfl rfl (Put.here (vs := [.int .u16 x24.toNat]) rfl)).off rfl) fill_nil)) rfl rfl (by decide) (fun s32 _ => ?_)
    obtain ⟨u34, h35, H⟩ := bind_some H
    refine Lst.append (i := 1) (α := BitVec 16) (xs := l21) (ys := ([x24] : List (BitVec 16))) rfl rfl (by decide) rfl rfl Try.runUnderlying22 Try.typeInfo23 rfl rfl rfl rfl rfl rfl (Rd.own (i := 0) rfl rfl rfl) rfl (room_some h35) rfl (fun s36 => ?_)
    refine Lst.its (L' := (.own s32 23 1 (encs ([x24] : List (BitVec 16)))) :: (.own s36 23 1 (encs (l21 ++ ([x24] : List (BitVec 16))))) :: (.own s9 23 1 (encs r14)) :: (.own Sl.nil 23 1 (encs ([] : List (BitVec 16)))) :: (.blk b_a1_c0 (enc s_a1_c0) 22) :: L) rfl ?_
    refine Lst.run rfl rfl (by decide) (Ev.assign rfl) ?_
    refine Lst.nil ?_
    refine At.in_normal ?_
    refine At.then ?_
    refine Cd.region ?_
    refine Lst.run rfl rfl (by decide) (Ev.incr (by omega) rfl rfl) ?_
    refine Lst.run rfl rfl (by decide) (Ev.move rfl) ?_
    refine Lst.nil ?_
    refine At.less (L' := (.own s36 23 1 (encs (l21 ++ ([x24] : List (BitVec 16))))) :: (.own s9 23 1 (encs r14)) :: (.own Sl.nil 23 1 (encs ([] : List (BitVec 16)))) :: (.blk b_a1_c0 (enc s_a1_c0) 22) :: L) (List.Sublist.cons _ (List.Sublist.cons_cons _ (List.Sublist.cons_cons _ (List.Sublist.cons_cons _ (List.Sublist.cons_cons _ (List.Sublist.refl _)))))) ?_
    exact At.meet (i19 + 1, k19, s36, l21 ++ ([x24] : List (BitVec 16))) hF23 ⟨rfl, rfl, rfl, rfl, trivial⟩ rfl ⟨⟨hgo19 _ (some_inj H).symm, by omega⟩, Nat.lt_succ_self _⟩
  replace H := ite_t hb13 H
  refine Cd.condT rfl hb13 ?_
  refine Cd.skip ?_
  refine At.then ?_
  refine Cd.seq ?_
  refine Cd.block ?_
  refine Cd.seq ?_
  refine Cd.region ?_
  refine Lst.run rfl rfl (by decide) (Ev.move rfl) ?_
  refine Lst.run rfl rfl (by decide) (Ev.assign rfl) ?_
  refine Lst.nil ?_
  refine At.then ?_
  refine Cd.seq ?_
  refine Cd.region ?_
  refine Lst.run rfl rfl (by decide) (Ev.move rfl) ?_
  refine Lst.run rfl rfl (by decide) (Ev.move rfl) ?_
  obtain ⟨r38, h39, H⟩ := bind_some H
  refine Lst.front (i := 2) rfl (L' := (.blk b_a1_c0 (enc s_a1_c0) 22) :: (.own s9 23 1 (encs l10)) :: (.own Sl.nil 23 1 (encs ([] : List (BitVec 16)))) :: L) rfl ?_
  refine Lst.callV1 rfl rfl (by decide) (vs := [.int .u16 y8.toNat]) (cs := [.pointer (some ⟨b_a1_c0, 0, none⟩)]) rfl ⟨rfl, trivial⟩ Try.call50 (quorum_Dual_1_sim h39 w0 _ M _ (List.Sublist.cons _ (List.Sublist.cons _ hM)) (hs_a1_c0.mono hF12 (List.Sublist.refl _))) ?_
  refine Lst.nil ?_
  refine At.then ?_
  rcases (Bool.eq_false_or_eq_true r38).symm with hb42 | hb42
  · replace H := ite_f hb42 H
    refine Cd.condF rfl hb42 ?_
    refine Cd.skip ?_
    refine At.in_normal ?_
    refine At.then ?_
    refine Cd.region ?_
    refine Lst.run rfl rfl (by decide) (Ev.addU16 (i := y8) (j := (1 : BitVec 16)) rfl rfl) ?_
    refine Lst.run rfl rfl (by decide) (Ev.move rfl) ?_
    refine Lst.nil ?_
    refine At.front (i := 2) rfl rfl ?_
    refine At.front (i := 2) rfl rfl ?_
    exact At.meet (k7, y8 + (1 : BitVec 16), s9, l10) hF12 ⟨rfl, rfl, rfl, rfl, trivial⟩ rfl ⟨hgo7 _ (some_inj H).symm, Nat.lt_succ_self _⟩
  replace H := ite_t hb42 H
  refine Cd.condT rfl hb42 ?_
  refine Cd.region ?_
  refine Lst.run rfl rfl (by decide) (Ev.move rfl) ?_
  refine Lst.run rfl rfl (by decide) (Ev.move rfl) ?_
  refine Lst.buildSlice (α := BitVec 16) (xs := ([y8] : List (BitVec 16))) (pv := [(0, .int .u16 y8.toNat)]) rfl rfl (by decide) ⟨rfl, rfl, trivial⟩ (run_buildSlice (α := BitVec 16) (z0 := (0 : BitVec 16)) (xs := ([y8] : List (BitVec 16))) Try.runUnderlying22 Try.sizeOf23 Try.zeroValue23 rfl rfl rfl (by decide) rfl (fill_cons (cs := encs (List.replicate 1 (0 : BitVec 16))) (cs' := encs ((List.replicate 1 (0 : BitVec 16)).set 0 y8)) (vs := [.int .u16 y8.toNat]) rfl rfl rfl ((Put.elemN (s := 1) (i := 0) (x := (0 : BitVec 16)) (y := y8) rfl rfl (Put.here (vs := [.int .u16 y8.toNat]) rfl)).off rfl) fill_nil)) rfl rfl (by decide) (fun s43 _ => ?_)
  obtain ⟨u45, h46, H⟩ := bind_some H
  refine Lst.append (i := 2) (α := BitVec 16) (xs := l10) (ys := ([y8] : List (BitVec 16))) rfl rfl (by decide) rfl rfl Try.runUnderlying22 Try.typeInfo23 rfl rfl rfl rfl rfl rfl (Rd.own (i := 0) rfl rfl rfl) rfl (room_some h46) rfl (fun s47 => ?_)
  refine Lst.its (L' := (.own s43 23 1 (encs ([y8] : List (BitVec 16)))) :: (.blk b_a1_c0 (enc s_a1_c0) 22) :: (.own s47 23 1 (encs (l10 ++ ([y8] : List (BitVec 16))))) :: (.own Sl.nil 23 1 (encs ([] : List (BitVec 16)))) :: L) rfl ?_
  refine Lst.run rfl rfl (by decide) (Ev.assign rfl) ?_
  refine Lst.nil ?_
  refine At.in_normal ?_
  refine At.then ?_
  refine Cd.region ?_
  refine Lst.run rfl rfl (by decide) (Ev.addU16 (i := y8) (j := (1 : BitVec 16)) rfl rfl) ?_
  refine Lst.run rfl rfl (by decide) (Ev.move rfl) ?_
  refine Lst.nil ?_
  refine At.front (i := 1) rfl rfl ?_
  refine At.front (i := 3) rfl rfl ?_
  refine At.front (i := 3) rfl rfl ?_
  refine At.less (L' := (.own s47 23 1 (encs (l10 ++ ([y8] : List (BitVec 16))))) :: (.own Sl.nil 23 1 (encs ([] : List (BitVec 16)))) :: (.blk b_a1_c0 (enc s_a1_c0) 22) :: L) (List.Sublist.cons_cons _ (List.Sublist.cons_cons _ (List.Sublist.cons_cons _ (List.Sublist.cons _ (List.Sublist.refl _))))) ?_
  exact At.meet (k7, y8 + (1 : BitVec 16), s47, l10 ++ ([y8] : List (BitVec 16))) hF12 ⟨rfl, rfl, rfl, rfl, trivial⟩ rfl ⟨hgo7 _ (some_inj H).symm, Nat.lt_succ_self _⟩
set_option maxRecDepth 20000 in
theorem quorum_Dual_sim {fu : Nat} {a0 : Int} {a1 : List (BitVec 16)} {s_a1 : Sl} {r : (List (BitVec 16)) × Int} (H : quorum_Dual fu a0 a1 = some r) (w0 : World) (F : Frz) (M L : List Item) (hM : M.Sublist L) (hs_a1 : Rd w0 F M s_a1 a1) : Ok Try.prog w0 9 [.int .i64 a0, Sl.v s_a1] F (L) (fun _ L' v => ∃ (s1 : Sl), v = .tuple #[Sl.v s1, .int .i64 r.2] ∧ L' = (.own s1 23 1 (encs r.1)) :: L) := by
  unfold quorum_Dual at H
  refine Ok.enter (m := 2) (n := 16) Try.func9 rfl rfl rfl (by decide) ?_
  refine Cd.env (e' := [(0, .int .i64 a0), (1, Sl.v s_a1)]) rfl ?_
  refine Cd.seq ?_
  refine Cd.region ?_
  refine Lst.box rfl rfl (by decide) rfl (cs := enc s_a1) rfl (fun b1 => ?_)
  refine Lst.addNil 23 1 ?_
  refine Lst.run rfl rfl (by decide) (Ev.assign rfl) ?_
  refine Lst.run rfl rfl (by decide) (Ev.assign rfl) ?_
  refine Lst.nil ?_
  refine At.then ?_
  refine Cd.seq ?_
  refine Cd.seq ?_
  refine Cd.region ?_
  refine Lst.run rfl rfl (by decide) (Ev.move rfl) ?_
  refine Lst.run rfl rfl (by decide) (Ev.load (i := 1) rfl rfl Try.isAgg22 (v := Sl.v s_a1) (Get.here _)) ?_
  obtain ⟨r4, h5, H⟩ := bind_some H
  refine Lst.call1 rfl rfl (by decide) (vs := [.int .i64 a0, Sl.v s_a1]) ⟨rfl, rfl, trivial⟩ Try.call11 (quorum_Check_sim h5 w0 _ M _ (List.Sublist.cons _ (List.Sublist.cons _ hM)) (hs_a1.mono (FLe.refl _) (List.Sublist.refl _))) ?_
  refine Lst.run rfl rfl (by decide) (Ev.assign rfl) ?_
  refine Lst.nil ?_
  refine At.then ?_
  refine Cd.seq ?_
  refine Cd.region ?_
  refine Lst.run rfl rfl (by decide) (Ev.move rfl) ?_
  refine Lst.run rfl rfl (by decide) (Ev.neq rfl rfl) ?_
  refine Lst.nil ?_
  refine At.then ?_
  rcases Bool.eq_false_or_eq_true (r4 != (0 : Int)) with hb8 | hb8
  · replace H := ite_t hb8 H
    refine Cd.condT rfl hb8 ?_
    refine Cd.seq ?_
    refine Cd.region ?_
    refine Lst.run rfl rfl (by decide) (Ev.move rfl) ?_
    refine Lst.addNil 23 1 ?_
    refine Lst.run rfl rfl (by decide) (Ev.assign rfl) ?_
    refine Lst.run rfl rfl (by decide) (Ev.assign rfl) ?_
    refine Lst.nil ?_
    refine At.then ?_
    obtain rfl := some_inj H
    refine Cd.ret ?_
    refine At.then_ret ?_
    exact At.ret2 rfl (Res.tmp rfl) (Res.tmp rfl) (FLe.refl _) (List.Sublist.cons_cons _ (List.Sublist.cons _ (List.Sublist.cons _ (List.Sublist.refl _)))) ⟨Sl.nil, rfl, rfl⟩
  replace H := ite_f hb8 H
  refine Cd.condF rfl hb8 ?_
  refine Cd.skip ?_
  refine At.then ?_
  refine Cd.seq ?_
  refine Cd.region ?_
  refine Lst.run rfl rfl (by decide) (Ev.move rfl) ?_
  refine Lst.run rfl rfl (by decide) (Ev.makeFunc (us := []) (vs := [.pointer (some ⟨b1, 0, none⟩)]) trivial ⟨rfl, trivial⟩) ?_
  obtain ⟨r10, h11, H⟩ := bind_some H
  refine Lst.front (i := 1) rfl (L' := (.blk b1 (enc s_a1) 22) :: (.own Sl.nil 23 1 (encs ([] : List (BitVec 16)))) :: L) rfl ?_
  refine Lst.call rfl rfl (by decide) (vs := [.int .i64 a0, .func (.func 50) #[] #[.pointer (some ⟨b1, 0, none⟩)]]) ⟨rfl, rfl, trivial⟩ Try.call49 (quorum_minimal_Dual_1_sim h11 w0 _ M _ (List.Sublist.cons _ hM) (hs_a1.mono (FLe.refl _) (List.Sublist.refl _))) (fun F14 L' v hF15 hv => ?_)
  obtain ⟨s12, rfl, rfl⟩ := hv
  refine Lst.run rfl rfl (by decide) (Ev.assign rfl) ?_
  refine Lst.run rfl rfl (by decide) (Ev.assign rfl) ?_
  refine Lst.nil ?_
  refine At.then ?_
  obtain rfl := some_inj H
  refine Cd.ret ?_
  exact At.ret2 rfl (Res.tmp rfl) (Res.tmp rfl) hF15 (List.Sublist.cons_cons _ (List.Sublist.cons _ (List.Sublist.cons _ (List.Sublist.refl _)))) ⟨s12, rfl, rfl⟩
set_option maxRecDepth 20000 in
theorem quorum_Has_sim {a0 : Int} {a1 : List (BitVec 16)} {a2 : BitVec 16} {s_a1 : Sl} {r : Bool × Int} (H : quorum_Has a0 a1 a2 = some r) (w0 : World) (F : Frz) (M L : List Item) (hM : M.Sublist L) (hs_a1 : Rd w0 F M s_a1 a1) : Ok Try.prog w0 10 [.int .i64 a0, Sl.v s_a1, .int .u16 a2.toNat] F (L) (Is (.tuple #[.bool r.1, .int .i64 r.2]) (L)) := by
  unfold quorum_Has at H
  refine Ok.enter (m := 3) (n := 18) Try.func10 rfl rfl rfl (by decide) ?_
  refine Cd.env (e' := [(0, .int .i64 a0), (1, Sl.v s_a1), (2, .int .u16 a2.toNat)]) rfl ?_
  refine Cd.seq ?_
  refine Cd.region ?_
  refine Lst.run rfl rfl (by decide) (Ev.assign rfl) ?_
  refine Lst.run rfl rfl (by decide) (Ev.assign rfl) ?_
  refine Lst.nil ?_
  refine At.then ?_
  refine Cd.seq ?_
  refine Cd.seq ?_
  refine Cd.region ?_
  refine Lst.run rfl rfl (by decide) (Ev.move rfl) ?_
  refine Lst.run rfl rfl (by decide) (Ev.move rfl) ?_
  obtain ⟨r1, h2, H⟩ := bind_some H
  refine Lst.call1 rfl rfl (by decide) (vs := [.int .i64 a0, Sl.v s_a1]) ⟨rfl, rfl, trivial⟩ Try.call11 (quorum_Check_sim h2 w0 _ M _ hM (hs_a1.mono (FLe.refl _) (List.Sublist.refl _))) ?_
  refine Lst.run rfl rfl (by decide) (Ev.assign rfl) ?_
  refine Lst.nil ?_
  refine At.then ?_
  refine Cd.seq ?_
  refine Cd.region ?_
  refine Lst.run rfl rfl (by decide) (Ev.move rfl) ?_
  refine Lst.run rfl rfl (by decide) (Ev.neq rfl rfl) ?_
  refine Lst.nil ?_
  refine At.then ?_
  rcases Bool.eq_false_or_eq_true (r1 != (0 : Int)) with hb5 | hb5
  · replace H := ite_t hb5 H
    refine Cd.condT rfl hb5 ?_
    refine Cd.seq ?_
    refine Cd.region ?_
    refine Lst.run rfl rfl (by decide) (Ev.move rfl) ?_
    refine Lst.run rfl rfl (by decide) (Ev.assign rfl) ?_
    refine Lst.run rfl rfl (by decide) (Ev.assign rfl) ?_
    refine Lst.nil ?_
    refine At.then ?_
    obtain rfl := some_inj H
    refine Cd.ret ?_
    refine At.then_ret ?_
    exact At.ret2 rfl (Res.tmp rfl) (Res.tmp rfl) (FLe.refl _) (List.Sublist.refl _) ⟨rfl, rfl⟩
  replace H := ite_f hb5 H
  refine Cd.condF rfl hb5 ?_
  refine Cd.skip ?_
  refine At.then ?_
  refine Cd.seq ?_
  refine Cd.region ?_
  refine Lst.run rfl rfl (by decide) (Ev.move rfl) ?_
  refine Lst.run rfl rfl (by decide) (Ev.move rfl) ?_
  obtain ⟨r6, h7, H⟩ := bind_some H
  refine Lst.call1 rfl rfl (by decide) (vs := [.int .u16 a2.toNat, Sl.v s_a1]) ⟨rfl, rfl, trivial⟩ Try.call51 (quorum_contains_sim h7 w0 _ M _ hM (hs_a1.mono (FLe.refl _) (List.Sublist.refl _))) ?_
  refine Lst.run rfl rfl (by decide) (Ev.assign rfl) ?_
  refine Lst.run rfl rfl (by decide) (Ev.assign rfl) ?_
  refine Lst.nil ?_
  refine At.then ?_
  obtain rfl := some_inj H
  refine Cd.ret ?_
  exact At.ret2 rfl (Res.tmp rfl) (Res.tmp rfl) (FLe.refl _) (List.Sublist.refl _) ⟨rfl, rfl⟩
set_option maxRecDepth 20000 in
theorem partlaw_QuorumSays_1_1_sim {a0 : BitVec 16} {a1 : BitVec 16} {b_a1 : Nat} {r : Bool} (H : partlaw_QuorumSays_1_1 a0 a1 = some r) (w0 : World) (F : Frz) (M L : List Item) (hM : M.Sublist L) : Ok Try.prog w0 15 [.int .u16 a0.toNat, .pointer (some ⟨b_a1, 0, none⟩)] F ((.blk b_a1 (enc a1) 23) :: L) (Is (.bool r) ((.blk b_a1 (enc a1) 23) :: L)) := by
  unfold partlaw_QuorumSays_1_1 at H
  refine Ok.enter (m := 2) (n := 8) Try.func15 rfl rfl rfl (by decide) ?_
  refine Cd.env (e' := [(0, .int .u16 a0.toNat), (1, .pointer (some ⟨b_a1, 0, none⟩))]) rfl ?_
  refine Cd.seq ?_
  refine Cd.region ?_
  refine Lst.run rfl rfl (by decide) (Ev.assign rfl) ?_
  refine Lst.nil ?_
  refine At.then ?_
  refine Cd.seq ?_
  refine Cd.region ?_
  refine Lst.run rfl rfl (by decide) (Ev.load (i := 0) rfl rfl Try.isAgg23 (v := .int .u16 a1.toNat) (Get.here _)) ?_
  refine Lst.run rfl rfl (by decide) (Ev.move rfl) ?_
  refine Lst.run rfl rfl (by decide) (Ev.andU16 (i := a1) (j := a0) rfl rfl) ?_
  refine Lst.run rfl rfl (by decide) (Ev.eql rfl rfl) ?_
  refine Lst.run rfl rfl (by decide) (Ev.assign rfl) ?_
  refine Lst.nil ?_
  refine At.then ?_
  obtain rfl := some_inj H
  refine Cd.ret ?_
  exact At.ret1 rfl (Res.tmp rfl) (FLe.refl _) (List.Sublist.cons_cons _ (List.Sublist.refl _)) ⟨rfl, rfl⟩
set_option maxRecDepth 20000 in
theorem slices_IndexFunc_uint16_uint16_1_1_sim {a0 : List (BitVec 16)} {a1_c0 : BitVec 16} {s_a0 : Sl} {b_a1_c0 : Nat} {r : Int} (H : slices_IndexFunc_uint16_uint16_1_1 a0 a1_c0 = some r) (w0 : World) (F : Frz) (M L : List Item) (hM : M.Sublist L) (hs_a0 : Rd w0 F M s_a0 a0) : Ok Try.prog w0 55 [Sl.v s_a0, .func (.func 15) #[] #[.pointer (some ⟨b_a1_c0, 0, none⟩)]] F ((.blk b_a1_c0 (enc a1_c0) 23) :: L) (Is (.int .i64 r) ((.blk b_a1_c0 (enc a1_c0) 23) :: L)) := by
  unfold slices_IndexFunc_uint16_uint16_1_1 at H
  refine Ok.enter (m := 2) (n := 19) Try.func55 rfl rfl rfl (by decide) ?_
  refine Cd.env (e' := [(0, Sl.v s_a0), (1, .func (.func 15) #[] #[.pointer (some ⟨b_a1_c0, 0, none⟩)])]) rfl ?_
  refine Cd.seq ?_
  refine Cd.region ?_
  refine Lst.run rfl rfl (by decide) (Ev.assign rfl) ?_
  refine Lst.nil ?_
  refine At.then ?_
  refine Cd.seq ?_
  refine Cd.seq ?_
  refine Cd.region ?_
  refine Lst.run rfl rfl (by decide) (Ev.move rfl) ?_
  refine Lst.run rfl rfl (by decide) (Ev.lenS (α := BitVec 16) (xs := a0) (by decide) rfl rfl Try.runUnderlying22 (hs_a0.mono (FLe.refl _) (List.Sublist.cons _ hM))) ?_
  refine Lst.run rfl rfl (by decide) (Ev.move rfl) ?_
  refine Lst.nil ?_
  refine At.then ?_
  refine Cd.block ?_
  refine Cd.bound (Rd.le (α := BitVec 16) (xs := a0) (by decide) (hs_a0.mono (FLe.refl _) (List.Sublist.cons _ hM))) (fun hN13 => ?_)
  obtain ⟨ol2, H, HKl2⟩ := andThen_some H
  refine Cd.loop (σ := Nat × Nat × Unit) (fun (i2, k2, _u) => [(0, Sl.v s_a0), (1, .func (.func 15) #[] #[.pointer (some ⟨b_a1_c0, 0, none⟩)]), (7, .int .i64 (a0.length : Int)), (8, .int .i64 (i2 : Int))]) (fun (i2, k2, _u) => (.blk b_a1_c0 (enc a1_c0) 23) :: L) (fun _ => (fun (i2, k2, _u) => rangeM (slices_IndexFunc_uint16_uint16_1_1_B0 a0 a1_c0) k2 i2 () = some ol2 ∧ i2 + k2 = a0.length)) (fun (i2, k2, _u) => k2) (0, a0.length, ()) ⟨rfl, rfl, rfl, rfl, trivial⟩ rfl ⟨H, by omega⟩ ?_
  rintro F3 ⟨i2, k2, _u⟩ hF4 ⟨H, hik2⟩
  refine Cd.as (e' := [(0, Sl.v s_a0), (1, .func (.func 15) #[] #[.pointer (some ⟨b_a1_c0, 0, none⟩)]), (7, .int .i64 (a0.length : Int)), (8, .int .i64 (i2 : Int))]) (L' := (.blk b_a1_c0 (enc a1_c0) 23) :: L) ⟨rfl, rfl, rfl, rfl, trivial⟩ rfl ?_
  rcases k2 with _ | k2
  · have hc2 : decide ((i2 : Int) < (a0.length : Int)) = false := decide_eq_false (by omega)
    replace H := rangeM_end H
    refine Cd.seq ?_
    refine Cd.region ?_
    refine Lst.run rfl rfl (by decide) (Ev.lss rfl rfl) ?_
    refine Lst.nil ?_
    refine At.then ?_
    refine Cd.seq ?_
    refine Cd.condF rfl hc2 ?_
    refine Cd.exit ?_
    refine At.then_exit ?_
    refine At.then_exit ?_
    refine At.in_exit ?_
    subst H
    replace H := HKl2
    refine At.then ?_
    refine Cd.seq ?_
    refine Cd.region ?_
    refine Lst.run rfl rfl (by decide) (Ev.assign rfl) ?_
    refine Lst.nil ?_
    refine At.then ?_
    obtain rfl := some_inj H
    refine Cd.ret ?_
    exact At.ret1 rfl (Res.tmp rfl) hF4 (List.Sublist.cons_cons _ (List.Sublist.refl _)) ⟨rfl, rfl⟩
  have hc2 : decide ((i2 : Int) < (a0.length : Int)) = true := decide_eq_true (by omega)
  obtain ⟨c2, H, hgo2, hbrk2, hret2⟩ := rangeM_go H
  unfold slices_IndexFunc_uint16_uint16_1_1_B0 at H
  try dsimp only at H
  refine Cd.seq ?_
  refine Cd.region ?_
  refine Lst.run rfl rfl (by decide) (Ev.lss rfl rfl) ?_
  refine Lst.nil ?_
  refine At.then ?_
  refine Cd.seq ?_
  refine Cd.condT rfl hc2 ?_
  refine Cd.skip ?_
  refine At.then ?_
  refine Cd.seq ?_
  refine Cd.block ?_
  refine Cd.seq ?_
  refine Cd.region ?_
  refine Lst.run rfl rfl (by decide) (Ev.move rfl) ?_
  refine Lst.run rfl rfl (by decide) (Ev.assign rfl) ?_
  refine Lst.nil ?_
  refine At.then ?_
  refine Cd.seq ?_
  refine Cd.region ?_
  refine Lst.run rfl rfl (by decide) (Ev.move rfl) ?_
  refine Lst.run rfl rfl (by decide) (Ev.move rfl) ?_
  refine Lst.run rfl rfl (by decide) (Ev.move rfl) ?_
  obtain ⟨x5, h6, H⟩ := bind_some H
  have g7 := lat_some h6
  refine Lst.run rfl rfl (by decide) (Ev.indexS (α := BitVec 16) (xs := a0) rfl rfl Try.runUnderlying22 Try.sizeOf23 rfl (by decide) (hs_a0.mono hF4 (List.Sublist.cons _ hM)) g7.1 g7.2.1) ?_
  refine Lst.run rfl rfl (by decide) (Ev.loadS (α := BitVec 16) rfl (hs_a0.mono hF4 (List.Sublist.cons _ hM)) Try.isAgg23 (v := .int .u16 x5.toNat) ((Get.elemN (s := 1) (x := x5) rfl g7.2.2 (Get.here _)).off (by omega))) ?_
  obtain ⟨r8, h9, H⟩ := bind_some H
  refine Lst.callV1 rfl rfl (by decide) (vs := [.int .u16 x5.toNat]) (cs := [.pointer (some ⟨b_a1_c0, 0, none⟩)]) rfl ⟨rfl, trivial⟩ Try.call15 (partlaw_QuorumSays_1_1_sim h9 w0 _ M _ hM) ?_
  refine Lst.nil ?_
  refine At.then ?_
  rcases Bool.eq_false_or_eq_true r8 with hb12 | hb12
  · replace H := ite_t hb12 H
    refine Cd.condT rfl hb12 ?_
    refine Cd.seq ?_
    refine Cd.region ?_
    refine Lst.run rfl rfl (by decide) (Ev.move rfl) ?_
    refine Lst.run rfl rfl (by decide) (Ev.assign rfl) ?_
    refine Lst.nil ?_
    refine At.then ?_
    have H := hret2 _ (some_inj H).symm
    subst H
    replace H := HKl2
    obtain rfl := some_inj H
    refine Cd.ret ?_
    refine At.in_ret ?_
    refine At.then_ret ?_
    refine At.then_ret ?_
    refine At.in_ret ?_
    refine At.then_ret ?_
    exact At.ret1 rfl (Res.tmp rfl) hF4 (List.Sublist.cons_cons _ (List.Sublist.refl _)) ⟨rfl, rfl⟩
  replace H := ite_f hb12 H
  refine Cd.condF rfl hb12 ?_
  refine Cd.skip ?_
  refine At.in_normal ?_
  refine At.then ?_
  refine Cd.region ?_
  refine Lst.run rfl rfl (by decide) (Ev.incr (by omega) rfl rfl) ?_
  refine Lst.run rfl rfl (by decide) (Ev.move rfl) ?_
  refine Lst.nil ?_
  exact At.meet (i2 + 1, k2, ()) hF4 ⟨rfl, rfl, rfl, rfl, trivial⟩ rfl ⟨⟨hgo2 _ (some_inj H).symm, by omega⟩, Nat.lt_succ_self _⟩
set_option maxRecDepth 20000 in
theorem slices_ContainsFunc_uint16_uint16_1_1_sim {a0 : List (BitVec 16)} {a1_c0 : BitVec 16} {s_a0 : Sl} {b_a1_c0 : Nat} {r : Bool} (H : slices_ContainsFunc_uint16_uint16_1_1 a0 a1_c0 = some r) (w0 : World) (F : Frz) (M L : List Item) (hM : M.Sublist L) (hs_a0 : Rd w0 F M s_a0 a0) : Ok Try.prog w0 14 [Sl.v s_a0, .func (.func 15) #[] #[.pointer (some ⟨b_a1_c0, 0, none⟩)]] F ((.blk b_a1_c0 (enc a1_c0) 23) :: L) (Is (.bool r) ((.blk b_a1_c0 (enc a1_c0) 23) :: L)) := by
  unfold slices_ContainsFunc_uint16_uint16_1_1 at H
  refine Ok.enter (m := 2) (n := 9) Try.func14 rfl rfl rfl (by decide) ?_
  refine Cd.env (e' := [(0, Sl.v s_a0), (1, .func (.func 15) #[] #[.pointer (some ⟨b_a1_c0, 0, none⟩)])]) rfl ?_
  refine Cd.seq ?_
  refine Cd.region ?_
  refine Lst.run rfl rfl (by decide) (Ev.assign rfl) ?_
  refine Lst.nil ?_
  refine At.then ?_
  refine Cd.seq ?_
  refine Cd.region ?_
  refine Lst.run rfl rfl (by decide) (Ev.move rfl) ?_
  refine Lst.run rfl rfl (by decide) (Ev.move rfl) ?_
  obtain ⟨r2, h3, H⟩ := bind_some H
  refine Lst.call1 rfl rfl (by decide) (vs := [Sl.v s_a0, .func (.func 15) #[] #[.pointer (some ⟨b_a1_c0, 0, none⟩)]]) ⟨rfl, rfl, trivial⟩ Try.call55 (slices_IndexFunc_uint16_uint16_1_1_sim h3 w0 _ M _ hM (hs_a0.mono (FLe.refl _) (List.Sublist.refl _))) ?_
  refine Lst.run rfl rfl (by decide) (Ev.geq rfl rfl) ?_
  refine Lst.run rfl rfl (by decide) (Ev.assign rfl) ?_
  refine Lst.nil ?_
  refine At.then ?_
  obtain rfl := some_inj H
  refine Cd.ret ?_
  exact At.ret1 rfl (Res.tmp rfl) (FLe.refl _) (List.Sublist.cons_cons _ (List.Sublist.refl _)) ⟨rfl, rfl⟩
set_option maxRecDepth 20000 in
theorem partlaw_QuorumSays_1_sim {a0 : BitVec 16} {a1 : List (BitVec 16)} {b_a1 : Nat} {s_a1 : Sl} {r : Bool} (H : partlaw_QuorumSays_1 a0 a1 = some r) (w0 : World) (F : Frz) (M L : List Item) (hM : M.Sublist L) (hs_a1 : Rd w0 F M s_a1 a1) : Ok Try.prog w0 13 [.int .u16 a0.toNat, .pointer (some ⟨b_a1, 0, none⟩)] F ((.blk b_a1 (enc s_a1) 22) :: L) (Is (.bool r) ((.blk b_a1 (enc s_a1) 22) :: L)) := by
  unfold partlaw_QuorumSays_1 at H
  refine Ok.enter (m := 2) (n := 8) Try.func13 rfl rfl rfl (by decide) ?_
  refine Cd.env (e' := [(0, .int .u16 a0.toNat), (1, .pointer (some ⟨b_a1, 0, none⟩))]) rfl ?_
  refine Cd.seq ?_
  refine Cd.region ?_
  refine Lst.box rfl rfl (by decide) rfl (cs := enc a0) rfl (fun b2 => ?_)
  refine Lst.run rfl rfl (by decide) (Ev.assign rfl) ?_
  refine Lst.nil ?_
  refine At.then ?_
  refine Cd.seq ?_
  refine Cd.region ?_
  refine Lst.run rfl rfl (by decide) (Ev.load (i := 1) rfl rfl Try.isAgg22 (v := Sl.v s_a1) (Get.here _)) ?_
  refine Lst.run rfl rfl (by decide) (Ev.makeFunc (us := []) (vs := [.pointer (some ⟨b2, 0, none⟩)]) trivial ⟨rfl, trivial⟩) ?_
  obtain ⟨r4, h5, H⟩ := bind_some H
  refine Lst.call1 rfl rfl (by decide) (vs := [Sl.v s_a1, .func (.func 15) #[] #[.pointer (some ⟨b2, 0, none⟩)]]) ⟨rfl, rfl, trivial⟩ Try.call14 (slices_ContainsFunc_uint16_uint16_1_1_sim h5 w0 _ M _ (List.Sublist.cons _ hM) (hs_a1.mono (FLe.refl _) (List.Sublist.refl _))) ?_
  refine Lst.run rfl rfl (by decide) (Ev.not rfl) ?_
  refine Lst.run rfl rfl (by decide) (Ev.assign rfl) ?_
  refine Lst.nil ?_
  refine At.then ?_
  obtain rfl := some_inj H
  refine Cd.ret ?_
  exact At.ret1 rfl (Res.tmp rfl) (FLe.refl _) (List.Sublist.cons _ (List.Sublist.cons_cons _ (List.Sublist.refl _))) ⟨rfl, rfl⟩
set_option maxRecDepth 20000 in
theorem partref_LeastSets_1_sim {a0 : BitVec 16} {a1 : BitVec 16} {b_a1 : Nat} {r : Bool} (H : partref_LeastSets_1 a0 a1 = some r) (w0 : World) (F : Frz) (M L : List Item) (hM : M.Sublist L) : Ok Try.prog w0 54 [.int .u16 a0.toNat, .pointer (some ⟨b_a1, 0, none⟩)] F ((.blk b_a1 (enc a1) 23) :: L) (Is (.bool r) ((.blk b_a1 (enc a1) 23) :: L)) := by
  unfold partref_LeastSets_1 at H
  refine Ok.enter (m := 2) (n := 9) Try.func54 rfl rfl rfl (by decide) ?_
  refine Cd.env (e' := [(0, .int .u16 a0.toNat), (1, .pointer (some ⟨b_a1, 0, none⟩))]) rfl ?_
  refine Cd.seq ?_
  refine Cd.region ?_
  refine Lst.run rfl rfl (by decide) (Ev.assign rfl) ?_
  refine Lst.nil ?_
  refine At.then ?_
  refine Cd.seq ?_
  refine Cd.region ?_
  refine Lst.run rfl rfl (by decide) (Ev.load (i := 0) rfl rfl Try.isAgg23 (v := .int .u16 a1.toNat) (Get.here _)) ?_
  refine Lst.run rfl rfl (by decide) (Ev.move rfl) ?_
  refine Lst.run rfl rfl (by decide) (Ev.orU16 (i := a1) (j := a0) rfl rfl) ?_
  refine Lst.run rfl rfl (by decide) (Ev.load (i := 0) rfl rfl Try.isAgg23 (v := .int .u16 a1.toNat) (Get.here _)) ?_
  refine Lst.run rfl rfl (by decide) (Ev.eql rfl rfl) ?_
  refine Lst.run rfl rfl (by decide) (Ev.assign rfl) ?_
  refine Lst.nil ?_
  refine At.then ?_
  obtain rfl := some_inj H
  refine Cd.ret ?_
  exact At.ret1 rfl (Res.tmp rfl) (FLe.refl _) (List.Sublist.cons_cons _ (List.Sublist.refl _)) ⟨rfl, rfl⟩
set_option maxRecDepth 20000 in
theorem slices_IndexFunc_uint16_uint16_LeastSets_1_sim {a0 : List (BitVec 16)} {a1_c0 : BitVec 16} {s_a0 : Sl} {b_a1_c0 : Nat} {r : Int} (H : slices_IndexFunc_uint16_uint16_LeastSets_1 a0 a1_c0 = some r) (w0 : World) (F : Frz) (M L : List Item) (hM : M.Sublist L) (hs_a0 : Rd w0 F M s_a0 a0) : Ok Try.prog w0 55 [Sl.v s_a0, .func (.func 54) #[] #[.pointer (some ⟨b_a1_c0, 0, none⟩)]] F ((.blk b_a1_c0 (enc a1_c0) 23) :: L) (Is (.int .i64 r) ((.blk b_a1_c0 (enc a1_c0) 23) :: L)) := by
  unfold slices_IndexFunc_uint16_uint16_LeastSets_1 at H
  refine Ok.enter (m := 2) (n := 19) Try.func55 rfl rfl rfl (by decide) ?_
  refine Cd.env (e' := [(0, Sl.v s_a0), (1, .func (.func 54) #[] #[.pointer (some ⟨b_a1_c0, 0, none⟩)])]) rfl ?_
  refine Cd.seq ?_
  refine Cd.region ?_
  refine Lst.run rfl rfl (by decide) (Ev.assign rfl) ?_
  refine Lst.nil ?_
  refine At.then ?_
  refine Cd.seq ?_
  refine Cd.seq ?_
  refine Cd.region ?_
  refine Lst.run rfl rfl (by decide) (Ev.move rfl) ?_
  refine Lst.run rfl rfl (by decide) (Ev.lenS (α := BitVec 16) (xs := a0) (by decide) rfl rfl Try.runUnderlying22 (hs_a0.mono (FLe.refl _) (List.Sublist.cons _ hM))) ?_
  refine Lst.run rfl rfl (by decide) (Ev.move rfl) ?_
  refine Lst.nil ?_
  refine At.then ?_
  refine Cd.block ?_
  refine Cd.bound (Rd.le (α := BitVec 16) (xs := a0) (by decide) (hs_a0.mono (FLe.refl _) (List.Sublist.cons _ hM))) (fun hN13 => ?_)
  obtain ⟨ol2, H, HKl2⟩ := andThen_some H
  refine Cd.loop (σ := Nat × Nat × Unit) (fun (i2, k2, _u) => [(0, Sl.v s_a0), (1, .func (.func 54) #[] #[.pointer (some ⟨b_a1_c0, 0, none⟩)]), (7, .int .i64 (a0.length : Int)), (8, .int .i64 (i2 : Int))]) (fun (i2, k2, _u) => (.blk b_a1_c0 (enc a1_c0) 23) :: L) (fun _ => (fun (i2, k2, _u) => rangeM (slices_IndexFunc_uint16_uint16_LeastSets_1_B0 a0 a1_c0) k2 i2 () = some ol2 ∧ i2 + k2 = a0.length)) (fun (i2, k2, _u) => k2) (0, a0.length, ()) ⟨rfl, rfl, rfl, rfl, trivial⟩ rfl ⟨H, by omega⟩ ?_
  rintro F3 ⟨i2, k2, _u⟩ hF4 ⟨H, hik2⟩
  refine Cd.as (e' := [(0, Sl.v s_a0), (1, .func (.func 54) #[] #[.pointer (some ⟨b_a1_c0, 0, none⟩)]), (7, .int .i64 (a0.length : Int)), (8, .int .i64 (i2 : Int))]) (L' := (.blk b_a1_c0 (enc a1_c0) 23) :: L) ⟨rfl, rfl, rfl, rfl, trivial⟩ rfl ?_
  rcases k2 with _ | k2
  · have hc2 : decide ((i2 : Int) < (a0.length : Int)) = false := decide_eq_false (by omega)
    replace H := rangeM_end H
    refine Cd.seq ?_
    refine Cd.region ?_
    refine Lst.run rfl rfl (by decide) (Ev.lss rfl rfl) ?_
    refine Lst.nil ?_
    refine At.then ?_
    refine Cd.seq ?_
    refine Cd.condF rfl hc2 ?_
    refine Cd.exit ?_
    refine At.then_exit ?_
    refine At.then_exit ?_
    refine At.in_exit ?_
    subst H
    replace H := HKl2
    refine At.then ?_
    refine Cd.seq ?_
    refine Cd.region ?_
    refine Lst.run rfl rfl (by decide) (Ev.assign rfl) ?_
    refine Lst.nil ?_
    refine At.then ?_
    obtain rfl := some_inj H
    refine Cd.ret ?_
    exact At.ret1 rfl (Res.tmp rfl) hF4 (List.Sublist.cons_cons _ (List.Sublist.refl _)) ⟨rfl, rfl⟩
  have hc2 : decide ((i2 : Int) < (a0.length : Int)) = true := decide_eq_true (by omega)
  obtain ⟨c2, H, hgo2, hbrk2, hret2⟩ := rangeM_go H
  unfold slices_IndexFunc_uint16_uint16_LeastSets_1_B0 at H
  try dsimp only at H
  refine Cd.seq ?_
  refine Cd.region ?_
  refine Lst.run rfl rfl (by decide) (Ev.lss rfl rfl) ?_
  refine Lst.nil ?_
  refine At.then ?_
  refine Cd.seq ?_
  refine Cd.condT rfl hc2 ?_
  refine Cd.skip ?_
  refine At.then ?_
  refine Cd.seq ?_
  refine Cd.block ?_
  refine Cd.seq ?_
  refine Cd.region ?_
  refine Lst.run rfl rfl (by decide) (Ev.move rfl) ?_
  refine Lst.run rfl rfl (by decide) (Ev.assign rfl) ?_
  refine Lst.nil ?_
  refine At.then ?_
  refine Cd.seq ?_
  refine Cd.region ?_
  refine Lst.run rfl rfl (by decide) (Ev.move rfl) ?_
  refine Lst.run rfl rfl (by decide) (Ev.move rfl) ?_
  refine Lst.run rfl rfl (by decide) (Ev.move rfl) ?_
  obtain ⟨x5, h6, H⟩ := bind_some H
  have g7 := lat_some h6
  refine Lst.run rfl rfl (by decide) (Ev.indexS (α := BitVec 16) (xs := a0) rfl rfl Try.runUnderlying22 Try.sizeOf23 rfl (by decide) (hs_a0.mono hF4 (List.Sublist.cons _ hM)) g7.1 g7.2.1) ?_
  refine Lst.run rfl rfl (by decide) (Ev.loadS (α := BitVec 16) rfl (hs_a0.mono hF4 (List.Sublist.cons _ hM)) Try.isAgg23 (v := .int .u16 x5.toNat) ((Get.elemN (s := 1) (x := x5) rfl g7.2.2 (Get.here _)).off (by omega))) ?_
  obtain ⟨r8, h9, H⟩ := bind_some H
  refine Lst.callV1 rfl rfl (by decide) (vs := [.int .u16 x5.toNat]) (cs := [.pointer (some ⟨b_a1_c0, 0, none⟩)]) rfl ⟨rfl, trivial⟩ Try.call54 (partref_LeastSets_1_sim h9 w0 _ M _ hM) ?_
  refine Lst.nil ?_
  refine At.then ?_
  rcases Bool.eq_false_or_eq_true r8 with hb12 | hb12
  · replace H := ite_t hb12 H
    refine Cd.condT rfl hb12 ?_
    refine Cd.seq ?_
    refine Cd.region ?_
    refine Lst.run rfl rfl (by decide) (Ev.move rfl) ?_
    refine Lst.run rfl rfl (by decide) (Ev.assign rfl) ?_
    refine Lst.nil ?_
    refine At.then ?_
    have H := hret2 _ (some_inj H).symm
    subst H
    replace H := HKl2
    obtain rfl := some_inj H
    refine Cd.ret ?_
    refine At.in_ret ?_
    refine At.then_ret ?_
    refine At.then_ret ?_
    refine At.in_ret ?_
    refine At.then_ret ?_
    exact At.ret1 rfl (Res.tmp rfl) hF4 (List.Sublist.cons_cons _ (List.Sublist.refl _)) ⟨rfl, rfl⟩
  replace H := ite_f hb12 H
  refine Cd.condF rfl hb12 ?_
  refine Cd.skip ?_
  refine At.in_normal ?_
  refine At.then ?_
  refine Cd.region ?_
  refine Lst.run rfl rfl (by decide) (Ev.incr (by omega) rfl rfl) ?_
  refine Lst.run rfl rfl (by decide) (Ev.move rfl) ?_
  refine Lst.nil ?_
  exact At.meet (i2 + 1, k2, ()) hF4 ⟨rfl, rfl, rfl, rfl, trivial⟩ rfl ⟨⟨hgo2 _ (some_inj H).symm, by omega⟩, Nat.lt_succ_self _⟩
set_option maxRecDepth 20000 in
theorem slices_ContainsFunc_uint16_uint16_LeastSets_1_sim {a0 : List (BitVec 16)} {a1_c0 : BitVec 16} {s_a0 : Sl} {b_a1_c0 : Nat} {r : Bool} (H : slices_ContainsFunc_uint16_uint16_LeastSets_1 a0 a1_c0 = some r) (w0 : World) (F : Frz) (M L : List Item) (hM : M.Sublist L) (hs_a0 : Rd w0 F M s_a0 a0) : Ok Try.prog w0 14 [Sl.v s_a0, .func (.func 54) #[] #[.pointer (some ⟨b_a1_c0, 0, none⟩)]] F ((.blk b_a1_c0 (enc a1_c0) 23) :: L) (Is (.bool r) ((.blk b_a1_c0 (enc a1_c0) 23) :: L)) := by
  unfold slices_ContainsFunc_uint16_uint16_LeastSets_1 at H
  refine Ok.enter (m := 2) (n := 9) Try.func14 rfl rfl rfl (by decide) ?_
  refine Cd.env (e' := [(0, Sl.v s_a0), (1, .func (.func 54) #[] #[.pointer (some ⟨b_a1_c0, 0, none⟩)])]) rfl ?_
  refine Cd.seq ?_
  refine Cd.region ?_
  refine Lst.run rfl rfl (by decide) (Ev.assign rfl) ?_
  refine Lst.nil ?_
  refine At.then ?_
  refine Cd.seq ?_
  refine Cd.region ?_
  refine Lst.run rfl rfl (by decide) (Ev.move rfl) ?_
  refine Lst.run rfl rfl (by decide) (Ev.move rfl) ?_
  obtain ⟨r2, h3, H⟩ := bind_some H
  refine Lst.call1 rfl rfl (by decide) (vs := [Sl.v s_a0, .func (.func 54) #[] #[.pointer (some ⟨b_a1_c0, 0, none⟩)]]) ⟨rfl, rfl, trivial⟩ Try.call55 (slices_IndexFunc_uint16_uint16_LeastSets_1_sim h3 w0 _ M _ hM (hs_a0.mono (FLe.refl _) (List.Sublist.refl _))) ?_
  refine Lst.run rfl rfl (by decide) (Ev.geq rfl rfl) ?_
  refine Lst.run rfl rfl (by decide) (Ev.assign rfl) ?_
  refine Lst.nil ?_
  refine At.then ?_
  obtain rfl := some_inj H
  refine Cd.ret ?_
  exact At.ret1 rfl (Res.tmp rfl) (FLe.refl _) (List.Sublist.cons_cons _ (List.Sublist.refl _)) ⟨rfl, rfl⟩
set_option maxRecDepth 20000 in
theorem partref_LeastSets_QuorumSays_1_sim {fu : Nat} {a0 : Int} {a1_c0 : List (BitVec 16)} {b_a1_c0 : Nat} {s_a1_c0 : Sl} {r : (List (BitVec 16))} (H : partref_LeastSets_QuorumSays_1 fu a0 a1_c0 = some r) (w0 : World) (F : Frz) (M L : List Item) (hM : M.Sublist L) (hs_a1_c0 : Rd w0 F M s_a1_c0 a1_c0) : Ok Try.prog w0 12 [.int .i64 a0, .func (.func 13) #[] #[.pointer (some ⟨b_a1_c0, 0, none⟩)]] F ((.blk b_a1_c0 (enc s_a1_c0) 22) :: L) (fun _ L' v => ∃ (s2 : Sl), v = Sl.v s2 ∧ L' = (.own s2 23 1 (encs r)) :: (.blk b_a1_c0 (enc s_a1_c0) 22) :: L) := by
  unfold partref_LeastSets_QuorumSays_1 at H
  refine Ok.enter (m := 2) (n := 40) Try.func12 rfl rfl rfl (by decide) ?_
  refine Cd.env (e' := [(0, .int .i64 a0), (1, .func (.func 13) #[] #[.pointer (some ⟨b_a1_c0, 0, none⟩)])]) rfl ?_
  refine Cd.seq ?_
  refine Cd.region ?_
  refine Lst.addNil 23 1 ?_
  refine Lst.run rfl rfl (by decide) (Ev.assign rfl) ?_
  refine Lst.nil ?_
  refine At.then ?_
  refine Cd.seq ?_
  refine Cd.region ?_
  refine Lst.addNil 23 1 ?_
  refine Lst.run rfl rfl (by decide) (Ev.assign rfl) ?_
  refine Lst.nil ?_
  refine At.then ?_
  refine Cd.seq ?_
  refine Cd.seq ?_
  refine Cd.region ?_
  refine Lst.run rfl rfl (by decide) (Ev.move rfl) ?_
  refine Lst.run rfl rfl (by decide) (Ev.add rfl rfl) ?_
  refine Lst.run rfl rfl (by decide) (Ev.move rfl) ?_
  refine Lst.nil ?_
  refine At.then ?_
  refine Cd.block ?_
  obtain ⟨nn9, hN42, H⟩ := bind_some H
  replace hN42 := upTo_some hN42
  obtain ⟨ol4, H, HKl4⟩ := bind_some H
  refine Cd.loop (σ := Nat × Nat × Sl × (List (BitVec 16))) (fun (i4, k4, s5, l6) => [(0, .int .i64 a0), (1, .func (.func 13) #[] #[.pointer (some ⟨b_a1_c0, 0, none⟩)]), (5, Sl.v s5), (9, .int .i64 (w64 (a0 + (1 : Int)))), (10, .int .i64 (i4 : Int))]) (fun (i4, k4, s5, l6) => (.own s5 23 1 (encs l6)) :: (.own Sl.nil 23 1 (encs ([] : List (BitVec 16)))) :: (.blk b_a1_c0 (enc s_a1_c0) 22) :: L) (fun _ => (fun (i4, k4, s5, l6) => rangeF (partref_LeastSets_QuorumSays_1_B0 fu a0 a1_c0) k4 i4 l6 = some ol4 ∧ i4 + k4 = nn9)) (fun (i4, k4, s5, l6) => k4) (0, nn9, Sl.nil, ([] : List (BitVec 16))) ⟨rfl, rfl, rfl, rfl, rfl, trivial⟩ rfl ⟨H, by omega⟩ ?_
  rintro F7 ⟨i4, k4, s5, l6⟩ hF8 ⟨H, hik4⟩
  refine Cd.as (e' := [(0, .int .i64 a0), (1, .func (.func 13) #[] #[.pointer (some ⟨b_a1_c0, 0, none⟩)]), (5, Sl.v s5), (9, .int .i64 (w64 (a0 + (1 : Int)))), (10, .int .i64 (i4 : Int))]) (L' := (.own s5 23 1 (encs l6)) :: (.own Sl.nil 23 1 (encs ([] : List (BitVec 16)))) :: (.blk b_a1_c0 (enc s_a1_c0) 22) :: L) ⟨rfl, rfl, rfl, rfl, rfl, trivial⟩ rfl ?_
  rcases k4 with _ | k4
  · have hc4 : decide ((i4 : Int) < (w64 (a0 + (1 : Int)))) = false := decide_eq_false (by omega)
    replace H := rangeF_end H
    refine Cd.seq ?_
    refine Cd.region ?_
    refine Lst.run rfl rfl (by decide) (Ev.lss rfl rfl) ?_
    refine Lst.nil ?_
    refine At.then ?_
    refine Cd.seq ?_
    refine Cd.condF rfl hc4 ?_
    refine Cd.exit ?_
    refine At.then_exit ?_
    refine At.then_exit ?_
    refine At.in_exit ?_
    subst H
    replace H := HKl4
    refine At.then ?_
    refine Cd.seq ?_
    refine Cd.region ?_
    refine Lst.run rfl rfl (by decide) (Ev.move rfl) ?_
    refine Lst.run rfl rfl (by decide) (Ev.assign rfl) ?_
    refine Lst.nil ?_
    refine At.then ?_
    obtain rfl := some_inj H
    refine Cd.ret ?_
    exact At.ret1 rfl (Res.tmp rfl) hF8 (List.Sublist.cons_cons _ (List.Sublist.cons _ (List.Sublist.cons_cons _ (List.Sublist.refl _)))) ⟨s5, rfl, rfl⟩
  have hc4 : decide ((i4 : Int) < (w64 (a0 + (1 : Int)))) = true := decide_eq_true (by omega)
  obtain ⟨c4, H, hgo4⟩ := rangeF_go H
  unfold partref_LeastSets_QuorumSays_1_B0 at H
  try dsimp only at H
  refine Cd.seq ?_
  refine Cd.region ?_
  refine Lst.run rfl rfl (by decide) (Ev.lss rfl rfl) ?_
  refine Lst.nil ?_
  refine At.then ?_
  refine Cd.seq ?_
  refine Cd.condT rfl hc4 ?_
  refine Cd.skip ?_
  refine At.then ?_
  refine Cd.seq ?_
  refine Cd.block ?_
  refine Cd.seq ?_
  refine Cd.region ?_
  refine Lst.run rfl rfl (by decide) (Ev.move rfl) ?_
  refine Lst.run rfl rfl (by decide) (Ev.assign rfl) ?_
  refine Lst.nil ?_
  refine At.then ?_
  refine Cd.seq ?_
  refine Cd.region ?_
  refine Lst.run rfl rfl (by decide) (Ev.move rfl) ?_
  obtain ⟨n10, h11, H⟩ := bind_some H
  refine Lst.run rfl rfl (by decide) (Ev.shlU16 (i := (1 : BitVec 16)) (m := n10) rfl (congrArg some (congrArg (Value.int .i64) (cnt_some h11)))) ?_
  refine Lst.run rfl rfl (by decide) (Ev.move rfl) ?_
  refine Lst.nil ?_
  refine At.then ?_
  refine Cd.block ?_
  obtain ⟨ol13, H, HKl13⟩ := andThen_some H
  refine Cd.loop (σ := Nat × (BitVec 16) × Sl × (List (BitVec 16))) (fun (k13, y14, s15, l16) => [(0, .int .i64 a0), (1, .func (.func 13) #[] #[.pointer (some ⟨b_a1_c0, 0, none⟩)]), (5, Sl.v s15), (6, .int .i64 (i4 : Int)), (9, .int .i64 (w64 (a0 + (1 : Int)))), (10, .int .i64 (i4 : Int)), (14, .int .u16 ((1 : BitVec 16) <<< n10).toNat), (15, .int .u16 y14.toNat)]) (fun (k13, y14, s15, l16) => (.own s15 23 1 (encs l16)) :: (.own Sl.nil 23 1 (encs ([] : List (BitVec 16)))) :: (.blk b_a1_c0 (enc s_a1_c0) 22) :: L) (fun _ => (fun (k13, y14, s15, l16) => whileM (partref_LeastSets_QuorumSays_1_B2 fu a1_c0 i4 n10) k13 (y14, l16) = some ol13)) (fun (k13, y14, s15, l16) => k13) (fu, (0 : BitVec 16), s5, l6) ⟨rfl, rfl, rfl, rfl, rfl, rfl, rfl, rfl, trivial⟩ rfl H ?_
  rintro F17 ⟨k13, y14, s15, l16⟩ hF18 H
  refine Cd.as (e' := [(0, .int .i64 a0), (1, .func (.func 13) #[] #[.pointer (some ⟨b_a1_c0, 0, none⟩)]), (5, Sl.v s15), (6, .int .i64 (i4 : Int)), (9, .int .i64 (w64 (a0 + (1 : Int)))), (10, .int .i64 (i4 : Int)), (14, .int .u16 ((1 : BitVec 16) <<< n10).toNat), (15, .int .u16 y14.toNat)]) (L' := (.own s15 23 1 (encs l16)) :: (.own Sl.nil 23 1 (encs ([] : List (BitVec 16)))) :: (.blk b_a1_c0 (enc s_a1_c0) 22) :: L) ⟨rfl, rfl, rfl, rfl, rfl, rfl, rfl, rfl, trivial⟩ rfl ?_
  rcases k13 with _ | k13
  · cases H
  obtain ⟨c13, H, hgo13, hbrk13, hret13⟩ := whileM_go H
  unfold partref_LeastSets_QuorumSays_1_B2 at H
  try dsimp only at H
  refine Cd.seq ?_
  refine Cd.region ?_
  refine Lst.run rfl rfl (by decide) (Ev.lss rfl rfl) ?_
  refine Lst.nil ?_
  refine At.then ?_
  refine Cd.seq ?_
  rcases (Bool.eq_false_or_eq_true (decide ((y14.toNat : Int) < (((1 : BitVec 16) <<< n10).toNat : Int)))).symm with hb19 | hb19
  · replace H := ite_f hb19 H
    refine Cd.condF rfl hb19 ?_
    refine Cd.exit ?_
    refine At.then_exit ?_
    refine At.then_exit ?_
    refine At.in_exit ?_
    have H := hbrk13 _ (some_inj H).symm
    subst H
    replace H := HKl13
    refine At.in_normal ?_
    refine At.then ?_
    refine Cd.region ?_
    refine Lst.run rfl rfl (by decide) (Ev.incr (by omega) rfl rfl) ?_
    refine Lst.run rfl rfl (by decide) (Ev.move rfl) ?_
    refine Lst.nil ?_
    exact At.meet (i4 + 1, k4, s15, l16) (FLe.trans hF8 hF18) ⟨rfl, rfl, rfl, rfl, rfl, trivial⟩ rfl ⟨⟨hgo4 _ (some_inj H).symm, by omega⟩, Nat.lt_succ_self _⟩
  replace H := ite_t hb19 H
  refine Cd.condT rfl hb19 ?_
  refine Cd.skip ?_
  refine At.then ?_
  refine Cd.seq ?_
  refine Cd.block ?_
  refine Cd.seq ?_
  refine Cd.region ?_
  refine Lst.run rfl rfl (by decide) (Ev.move rfl) ?_
  refine Lst.alloc (cs := enc (0 : BitVec 16)) rfl rfl (by decide) Try.zeroValue23 rfl (fun b20 => ?_)
  refine Lst.store (i := 0) rfl rfl rfl rfl rfl Try.sizeOf23 (vs := [.int .u16 y14.toNat]) rfl rfl rfl (cs' := enc y14) (Put.here (vs := [.int .u16 y14.toNat]) rfl) (L' := (.blk b20 (enc y14) 23) :: (.own s15 23 1 (encs l16)) :: (.own Sl.nil 23 1 (encs ([] : List (BitVec 16)))) :: (.blk b_a1_c0 (enc s_a1_c0) 22) :: L) rfl ?_
  refine Lst.nil ?_
  refine At.then ?_
  refine Cd.seq ?_
  refine Cd.region ?_
  refine Lst.run rfl rfl (by decide) (Ev.load (i := 0) rfl rfl Try.isAgg23 (v := .int .u16 y14.toNat) (Get.here _)) ?_
  obtain ⟨r22, h23, H⟩ := bind_some H
  refine Lst.call1 rfl rfl (by decide) (vs := [.int .u16 y14.toNat]) ⟨rfl, trivial⟩ Try.call45 (partref_size_sim h23 w0 _ M _ (List.Sublist.cons _ (List.Sublist.cons _ (List.Sublist.cons _ (List.Sublist.cons _ hM))))) ?_
  refine Lst.run rfl rfl (by decide) (Ev.move rfl) ?_
  refine Lst.run rfl rfl (by decide) (Ev.eql rfl rfl) ?_
  refine Lst.run rfl rfl (by decide) (Ev.move rfl) ?_
  rcases (Bool.eq_false_or_eq_true (r22 == (i4 : Int))).symm with hb26 | hb26
  · replace H := ite_f hb26 H
    refine Lst.skip rfl rfl rfl hb26 rfl (by decide) ?_
    refine Lst.skip rfl rfl rfl hb26 rfl (by decide) ?_
    refine Lst.skip rfl rfl rfl hb26 rfl (by decide) ?_
    refine Lst.run rfl rfl (by decide) (Ev.pickF rfl hb26 rfl) ?_
    refine Lst.run rfl rfl (by decide) (Ev.move rfl) ?_
    refine Lst.skip rfl rfl rfl rfl rfl (by decide) ?_
    refine Lst.skip rfl rfl rfl rfl rfl (by decide) ?_
    refine Lst.skip rfl rfl rfl rfl rfl (by decide) ?_
    refine Lst.skip rfl rfl rfl rfl rfl (by decide) ?_
    refine Lst.run rfl rfl (by decide) (Ev.pickF rfl rfl rfl) ?_
    refine Lst.nil ?_
    refine At.then ?_
    refine Cd.condF rfl rfl ?_
    refine Cd.skip ?_
    refine At.in_normal ?_
    refine At.then ?_
    refine Cd.as (e' := [(0, .int .i64 a0), (1, .func (.func 13) #[] #[.pointer (some ⟨b_a1_c0, 0, none⟩)]), (5, Sl.v s15), (6, .int .i64 (i4 : Int)), (9, .int .i64 (w64 (a0 + (1 : Int)))), (10, .int .i64 (i4 : Int)), (14, .int .u16 ((1 : BitVec 16) <<< n10).toNat), (15, .int .u16 y14.toNat)]) (L' := (.blk b20 (enc y14) 23) :: (.own s15 23 1 (encs l16)) :: (.own Sl.nil 23 1 (encs ([] : List (BitVec 16)))) :: (.blk b_a1_c0 (enc s_a1_c0) 22) :: L) ⟨rfl, rfl, rfl, rfl, rfl, rfl, rfl, rfl, trivial⟩ rfl ?_
    refine Cd.region ?_
    refine Lst.run rfl rfl (by decide) (Ev.addU16 (i := y14) (j := (1 : BitVec 16)) rfl rfl) ?_
    refine Lst.run rfl rfl (by decide) (Ev.move rfl) ?_
    refine Lst.nil ?_
    refine At.less (L' := (.own s15 23 1 (encs l16)) :: (.own Sl.nil 23 1 (encs ([] : List (BitVec 16)))) :: (.blk b_a1_c0 (enc s_a1_c0) 22) :: L) (List.Sublist.cons _ (List.Sublist.cons_cons _ (List.Sublist.cons_cons _ (List.Sublist.cons_cons _ (List.Sublist.refl _))))) ?_
    exact At.meet (k13, y14 + (1 : BitVec 16), s15, l16) hF18 ⟨rfl, rfl, rfl, rfl, rfl, rfl, rfl, rfl, trivial⟩ rfl ⟨hgo13 _ (some_inj H).symm, Nat.lt_succ_self _⟩
  replace H := ite_t hb26 H
  refine Lst.runG rfl rfl rfl hb26 rfl (by decide) (Ev.move rfl) ?_
  refine Lst.runG rfl rfl rfl hb26 rfl (by decide) (Ev.load (i := 0) rfl rfl Try.isAgg23 (v := .int .u16 y14.toNat) (Get.here _)) ?_
  obtain ⟨r27, h28, H⟩ := bind_some H
  refine Lst.front (i := 3) rfl (L' := (.blk b_a1_c0 (enc s_a1_c0) 22) :: (.blk b20 (enc y14) 23) :: (.own s15 23 1 (encs l16)) :: (.own Sl.nil 23 1 (encs ([] : List (BitVec 16)))) :: L) rfl ?_
  refine Lst.callV1G rfl rfl rfl hb26 rfl (by decide) (vs := [.int .u16 y14.toNat]) (cs := [.pointer (some ⟨b_a1_c0, 0, none⟩)]) rfl ⟨rfl, trivial⟩ Try.call13 (partlaw_QuorumSays_1_sim h28 w0 _ M _ (List.Sublist.cons _ (List.Sublist.cons _ (List.Sublist.cons _ hM))) (hs_a1_c0.mono (FLe.trans hF8 hF18) (List.Sublist.refl _))) ?_
  refine Lst.run rfl rfl (by decide) (Ev.pickT rfl hb26 rfl) ?_
  refine Lst.run rfl rfl (by decide) (Ev.move rfl) ?_
  rcases (Bool.eq_false_or_eq_true r27).symm with hb31 | hb31
  · replace H := ite_f hb31 H
    refine Lst.skip rfl rfl rfl hb31 rfl (by decide) ?_
    refine Lst.skip rfl rfl rfl hb31 rfl (by decide) ?_
    refine Lst.skip rfl rfl rfl hb31 rfl (by decide) ?_
    refine Lst.skip rfl rfl rfl hb31 rfl (by decide) ?_
    refine Lst.run rfl rfl (by decide) (Ev.pickF rfl hb31 rfl) ?_
    refine Lst.nil ?_
    refine At.then ?_
    refine Cd.condF rfl rfl ?_
    refine Cd.skip ?_
    refine At.in_normal ?_
    refine At.then ?_
    refine Cd.as (e' := [(0, .int .i64 a0), (1, .func (.func 13) #[] #[.pointer (some ⟨b_a1_c0, 0, none⟩)]), (5, Sl.v s15), (6, .int .i64 (i4 : Int)), (9, .int .i64 (w64 (a0 + (1 : Int)))), (10, .int .i64 (i4 : Int)), (14, .int .u16 ((1 : BitVec 16) <<< n10).toNat), (15, .int .u16 y14.toNat)]) (L' := (.blk b_a1_c0 (enc s_a1_c0) 22) :: (.blk b20 (enc y14) 23) :: (.own s15 23 1 (encs l16)) :: (.own Sl.nil 23 1 (encs ([] : List (BitVec 16)))) :: L) ⟨rfl, rfl, rfl, rfl, rfl, rfl, rfl, rfl, trivial⟩ rfl ?_
    refine Cd.region ?_
    refine Lst.run rfl rfl (by decide) (Ev.addU16 (i := y14) (j := (1 : BitVec 16)) rfl rfl) ?_
    refine Lst.run rfl rfl (by decide) (Ev.move rfl) ?_
    refine Lst.nil ?_
    refine At.front (i := 3) rfl rfl ?_
    refine At.front (i := 3) rfl rfl ?_
    refine At.less (L' := (.own s15 23 1 (encs l16)) :: (.own Sl.nil 23 1 (encs ([] : List (BitVec 16)))) :: (.blk b_a1_c0 (enc s_a1_c0) 22) :: L) (List.Sublist.cons_cons _ (List.Sublist.cons_cons _ (List.Sublist.cons_cons _ (List.Sublist.cons _ (List.Sublist.refl _))))) ?_
    exact At.meet (k13, y14 + (1 : BitVec 16), s15, l16) hF18 ⟨rfl, rfl, rfl, rfl, rfl, rfl, rfl, rfl, trivial⟩ rfl ⟨hgo13 _ (some_inj H).symm, Nat.lt_succ_self _⟩
  replace H := ite_t hb31 H
  refine Lst.runG rfl rfl rfl hb31 rfl (by decide) (Ev.move rfl) ?_
  refine Lst.runG rfl rfl rfl hb31 rfl (by decide) (Ev.makeFunc (us := []) (vs := [.pointer (some ⟨b20, 0, none⟩)]) trivial ⟨rfl, trivial⟩) ?_
  obtain ⟨r32, h33, H⟩ := bind_some H
  refine Lst.front (i := 1) rfl (L' := (.blk b20 (enc y14) 23) :: (.blk b_a1_c0 (enc s_a1_c0) 22) :: (.own s15 23 1 (encs l16)) :: (.own Sl.nil 23 1 (encs ([] : List (BitVec 16)))) :: L) rfl ?_
  refine Lst.call1G rfl rfl rfl hb31 rfl (by decide) (vs := [Sl.v s15, .func (.func 54) #[] #[.pointer (some ⟨b20, 0, none⟩)]]) ⟨rfl, rfl, trivial⟩ Try.call14 (slices_ContainsFunc_uint16_uint16_LeastSets_1_sim h33 w0 _ _ _ (List.Sublist.refl _) (Rd.own (i := 1) rfl rfl rfl)) ?_
  refine Lst.runG rfl rfl rfl hb31 rfl (by decide) (Ev.not rfl) ?_
  refine Lst.run rfl rfl (by decide) (Ev.pickT rfl hb31 rfl) ?_
  refine Lst.nil ?_
  refine At.then ?_
  rcases (Bool.eq_false_or_eq_true (!r32)).symm with hb36 | hb36
  · replace H := ite_f hb36 H
    refine Cd.condF rfl hb36 ?_
    refine Cd.skip ?_
    refine At.in_normal ?_
    refine At.then ?_
    refine Cd.as (e' := [(0, .int .i64 a0), (1, .func (.func 13) #[] #[.pointer (some ⟨b_a1_c0, 0, none⟩)]), (5, Sl.v s15), (6, .int .i64 (i4 : Int)), (9, .int .i64 (w64 (a0 + (1 : Int)))), (10, .int .i64 (i4 : Int)), (14, .int .u16 ((1 : BitVec 16) <<< n10).toNat), (15, .int .u16 y14.toNat)]) (L' := (.blk b20 (enc y14) 23) :: (.blk b_a1_c0 (enc s_a1_c0) 22) :: (.own s15 23 1 (encs l16)) :: (.own Sl.nil 23 1 (encs ([] : List (BitVec 16)))) :: L) ⟨rfl, rfl, rfl, rfl, rfl, rfl, rfl, rfl, trivial⟩ rfl ?_
    refine Cd.region ?_
    refine Lst.run rfl rfl (by decide) (Ev.addU16 (i := y14) (j := (1 : BitVec 16)) rfl rfl) ?_
    refine Lst.run rfl rfl (by decide) (Ev.move rfl) ?_
    refine Lst.nil ?_
    refine At.front (i := 1) rfl rfl ?_
    refine At.front (i := 3) rfl rfl ?_
    refine At.front (i := 3) rfl rfl ?_
    refine At.less (L' := (.own s15 23 1 (encs l16)) :: (.own Sl.nil 23 1 (encs ([] : List (BitVec 16)))) :: (.blk b_a1_c0 (enc s_a1_c0) 22) :: L) (List.Sublist.cons_cons _ (List.Sublist.cons_cons _ (List.Sublist.cons_cons _ (List.Sublist.cons _ (List.Sublist.refl _))))) ?_
    exact At.meet (k13, y14 + (1 : BitVec 16), s15, l16) hF18 ⟨rfl, rfl, rfl, rfl, rfl, rfl, rfl, rfl, trivial⟩ rfl ⟨hgo13 _ (some_inj H).symm, Nat.lt_succ_self _⟩
  replace H := ite_t hb36 H
  refine Cd.condT rfl hb36 ?_
  refine Cd.as (e' := [(0, .int .i64 a0), (1, .func (.func 13) #[] #[.pointer (some ⟨b_a1_c0, 0, none⟩)]), (5, Sl.v s15), (6, .int .i64 (i4 : Int)), (9, .int .i64 (w64 (a0 + (1 : Int)))), (10, .int .i64 (i4 : Int)), (14, .int .u16 ((1 : BitVec 16) <<< n10).toNat), (15, .int .u16 y14.toNat), (7, .pointer (some ⟨b20, 0, none⟩))]) (L' := (.blk b20 (enc y14) 23) :: (.blk b_a1_c0 (enc s_a1_c0) 22) :: (.own s15 23 1 (encs l16)) :: (.own Sl.nil 23 1 (encs ([] : List (BitVec 16)))) :: L) ⟨rfl, rfl, rfl, rfl, rfl, rfl, rfl, rfl, rfl, trivial⟩ rfl ?_
  refine Cd.region ?_
  refine Lst.run rfl rfl (by decide) (Ev.move rfl) ?_
  refine Lst.run rfl rfl (by decide) (Ev.load (i := 0) rfl rfl Try.isAgg23 (v := .int .u16 y14.toNat) (Get.here _)) ?_
  refine Lst.buildSlice (α := BitVec 16) (xs := ([y14] : List (BitVec 16))) (pv := [(0, .int .u16 y14.toNat)]) rfl rfl (by decide) ⟨rfl, rfl, trivial⟩ (run_buildSlice (α := BitVec 16) (z0 := (0 : BitVec 16)) (xs := ([y14] : List (BitVec 16))) Try.runUnderlying22 Try.sizeOf23 Try.zeroValue23 rfl rfl rfl (by decide) rfl (fill_cons (cs := encs (List.replicate 1 (0 : BitVec 16))) (cs' := encs ((List.replicate 1 (0 : BitVec 16)).set 0 y14)) (vs := [.int .u16 y14.toNat]) rfl rfl rfl ((Put.elemN (s := 1) (i := 0) (x := (0 : BitVec 16)) (y := y14) rfl rfl (Put.here (vs := [.int .u16 y14.toNat]) rfl)).off rfl) fill_nil)) rfl rfl (by decide) (fun s37 _ => ?_)
  obtain ⟨u39, h40, H⟩ := bind_some H
  refine Lst.append (i := 3) (α := BitVec 16) (xs := l16) (ys := ([y14] : List (BitVec 16))) rfl rfl (by decide) rfl rfl Try.runUnderlying22 Try.typeInfo23 rfl rfl rfl rfl rfl rfl (Rd.own (i := 0) rfl rfl rfl) rfl (room_some h40) rfl (fun s41 => ?_)
  refine Lst.its (L' := (.own s37 23 1 (encs ([y14] : List (BitVec 16)))) :: (.blk b20 (enc y14) 23) :: (.blk b_a1_c0 (enc s_a1_c0) 22) :: (.own s41 23 1 (encs (l16 ++ ([y14] : List (BitVec 16))))) :: (.own Sl.nil 23 1 (encs ([] : List (BitVec 16)))) :: L) rfl ?_
  refine Lst.run rfl rfl (by decide) (Ev.assign rfl) ?_
  refine Lst.nil ?_
  refine At.in_normal ?_
  refine At.then ?_
  refine Cd.region ?_
  refine Lst.run rfl rfl (by decide) (Ev.addU16 (i := y14) (j := (1 : BitVec 16)) rfl rfl) ?_
  refine Lst.run rfl rfl (by decide) (Ev.move rfl) ?_
  refine Lst.nil ?_
  refine At.front (i := 2) rfl rfl ?_
  refine At.front (i := 4) rfl rfl ?_
  refine At.front (i := 4) rfl rfl ?_
  refine At.less (L' := (.own s41 23 1 (encs (l16 ++ ([y14] : List (BitVec 16))))) :: (.own Sl.nil 23 1 (encs ([] : List (BitVec 16)))) :: (.blk b_a1_c0 (enc s_a1_c0) 22) :: L) (List.Sublist.cons_cons _ (List.Sublist.cons_cons _ (List.Sublist.cons_cons _ (List.Sublist.cons _ (List.Sublist.cons _ (List.Sublist.refl _)))))) ?_
  exact At.meet (k13, y14 + (1 : BitVec 16), s41, l16 ++ ([y14] : List (BitVec 16))) hF18 ⟨rfl, rfl, rfl, rfl, rfl, rfl, rfl, rfl, trivial⟩ rfl ⟨hgo13 _ (some_inj H).symm, Nat.lt_succ_self _⟩
set_option maxRecDepth 20000 in
theorem slices_Equal_uint16_uint16_sim {a0 : List (BitVec 16)} {a1 : List (BitVec 16)} {s_a0 : Sl} {s_a1 : Sl} {r : Bool} (H : slices_Equal_uint16_uint16 a0 a1 = some r) (w0 : World) (F : Frz) (M L : List Item) (hM : M.Sublist L) (hs_a0 : Rd w0 F M s_a0 a0) (hs_a1 : Rd w0 F M s_a1 a1) : Ok Try.prog w0 16 [Sl.v s_a0, Sl.v s_a1] F (L) (Is (.bool r) (L)) := by
  unfold slices_Equal_uint16_uint16 at H
  refine Ok.enter (m := 2) (n := 26) Try.func16 rfl rfl rfl (by decide) ?_
  refine Cd.env (e' := [(0, Sl.v s_a0), (1, Sl.v s_a1)]) rfl ?_
  refine Cd.seq ?_
  refine Cd.region ?_
  refine Lst.run rfl rfl (by decide) (Ev.assign rfl) ?_
  refine Lst.nil ?_
  refine At.then ?_
  refine Cd.seq ?_
  refine Cd.seq ?_
  refine Cd.region ?_
  refine Lst.run rfl rfl (by decide) (Ev.move rfl) ?_
  refine Lst.run rfl rfl (by decide) (Ev.lenS (α := BitVec 16) (xs := a0) (by decide) rfl rfl Try.runUnderlying22 (hs_a0.mono (FLe.refl _) hM)) ?_
  refine Lst.run rfl rfl (by decide) (Ev.move rfl) ?_
  refine Lst.run rfl rfl (by decide) (Ev.lenS (α := BitVec 16) (xs := a1) (by decide) rfl rfl Try.runUnderlying22 (hs_a1.mono (FLe.refl _) hM)) ?_
  refine Lst.run rfl rfl (by decide) (Ev.neq rfl rfl) ?_
  refine Lst.nil ?_
  refine At.then ?_
  rcases Bool.eq_false_or_eq_true ((a0.length : Int) != (a1.length : Int)) with hb1 | hb1
  · replace H := ite_t hb1 H
    refine Cd.condT rfl hb1 ?_
    refine Cd.seq ?_
    refine Cd.region ?_
    refine Lst.run rfl rfl (by decide) (Ev.assign rfl) ?_
    refine Lst.nil ?_
    refine At.then ?_
    obtain rfl := some_inj H
    refine Cd.ret ?_
    refine At.then_ret ?_
    exact At.ret1 rfl (Res.tmp rfl) (FLe.refl _) (List.Sublist.refl _) ⟨rfl, rfl⟩
  replace H := ite_f hb1 H
  refine Cd.condF rfl hb1 ?_
  refine Cd.skip ?_
  refine At.then ?_
  refine Cd.seq ?_
  refine Cd.seq ?_
  refine Cd.region ?_
  refine Lst.run rfl rfl (by decide) (Ev.move rfl) ?_
  refine Lst.run rfl rfl (by decide) (Ev.lenS (α := BitVec 16) (xs := a0) (by decide) rfl rfl Try.runUnderlying22 (hs_a0.mono (FLe.refl _) hM)) ?_
  refine Lst.run rfl rfl (by decide) (Ev.move rfl) ?_
  refine Lst.nil ?_
  refine At.then ?_
  refine Cd.block ?_
  refine Cd.bound (Rd.le (α := BitVec 16) (xs := a0) (by decide) (hs_a0.mono (FLe.refl _) hM)) (fun hN12 => ?_)
  obtain ⟨ol2, H, HKl2⟩ := andThen_some H
  refine Cd.loop (σ := Nat × Nat × Unit) (fun (i2, k2, _u) => [(0, Sl.v s_a0), (1, Sl.v s_a1), (12, .int .i64 (a0.length : Int)), (13, .int .i64 (i2 : Int))]) (fun (i2, k2, _u) => L) (fun _ => (fun (i2, k2, _u) => rangeM (slices_Equal_uint16_uint16_B0 a0 a1) k2 i2 () = some ol2 ∧ i2 + k2 = a0.length)) (fun (i2, k2, _u) => k2) (0, a0.length, ()) ⟨rfl, rfl, rfl, rfl, trivial⟩ rfl ⟨H, by omega⟩ ?_
  rintro F3 ⟨i2, k2, _u⟩ hF4 ⟨H, hik2⟩
  refine Cd.as (e' := [(0, Sl.v s_a0), (1, Sl.v s_a1), (12, .int .i64 (a0.length : Int)), (13, .int .i64 (i2 : Int))]) (L' := L) ⟨rfl, rfl, rfl, rfl, trivial⟩ rfl ?_
  rcases k2 with _ | k2
  · have hc2 : decide ((i2 : Int) < (a0.length : Int)) = false := decide_eq_false (by omega)
    replace H := rangeM_end H
    refine Cd.seq ?_
    refine Cd.region ?_
    refine Lst.run rfl rfl (by decide) (Ev.lss rfl rfl) ?_
    refine Lst.nil ?_
    refine At.then ?_
    refine Cd.seq ?_
    refine Cd.condF rfl hc2 ?_
    refine Cd.exit ?_
    refine At.then_exit ?_
    refine At.then_exit ?_
    refine At.in_exit ?_
    subst H
    replace H := HKl2
    refine At.then ?_
    refine Cd.seq ?_
    refine Cd.region ?_
    refine Lst.run rfl rfl (by decide) (Ev.assign rfl) ?_
    refine Lst.nil ?_
    refine At.then ?_
    obtain rfl := some_inj H
    refine Cd.ret ?_
    exact At.ret1 rfl (Res.tmp rfl) hF4 (List.Sublist.refl _) ⟨rfl, rfl⟩
  have hc2 : decide ((i2 : Int) < (a0.length : Int)) = true := decide_eq_true (by omega)
  obtain ⟨c2, H, hgo2, hbrk2, hret2⟩ := rangeM_go H
  unfold slices_Equal_uint16_uint16_B0 at H
  try dsimp only at H
  refine Cd.seq ?_
  refine Cd.region ?_
  refine Lst.run rfl rfl (by decide) (Ev.lss rfl rfl) ?_
  refine Lst.nil ?_
  refine At.then ?_
  refine Cd.seq ?_
  refine Cd.condT rfl hc2 ?_
  refine Cd.skip ?_
  refine At.then ?_
  refine Cd.seq ?_
  refine Cd.block ?_
  refine Cd.seq ?_
  refine Cd.region ?_
  refine Lst.run rfl rfl (by decide) (Ev.move rfl) ?_
  refine Lst.run rfl rfl (by decide) (Ev.assign rfl) ?_
  refine Lst.nil ?_
  refine At.then ?_
  refine Cd.seq ?_
  refine Cd.quiet (by kernel_rfl) (by kernel_rfl) ?_
  refine Qt.run rfl rfl (by decide) (Ev.move rfl) ?_
  refine Qt.run rfl rfl (by decide) (Ev.move rfl) ?_
  obtain ⟨x5, h6, H⟩ := bind_some H
  have g7 := lat_some h6
  refine Qt.run rfl rfl (by decide) (Ev.indexS (α := BitVec 16) (xs := a0) rfl rfl Try.runUnderlying22 Try.sizeOf23 rfl (by decide) (hs_a0.mono hF4 hM) g7.1 g7.2.1) ?_
  refine Qt.run rfl rfl (by decide) (Ev.loadS (α := BitVec 16) rfl (hs_a0.mono hF4 hM) Try.isAgg23 (v := .int .u16 x5.toNat) ((Get.elemN (s := 1) (x := x5) rfl g7.2.2 (Get.here _)).off (by omega))) ?_
  refine Qt.run rfl rfl (by decide) (Ev.move rfl) ?_
  refine Qt.run rfl rfl (by decide) (Ev.move rfl) ?_
  obtain ⟨x8, h9, H⟩ := bind_some H
  have g10 := lat_some h9
  refine Qt.run rfl rfl (by decide) (Ev.indexS (α := BitVec 16) (xs := a1) rfl rfl Try.runUnderlying22 Try.sizeOf23 rfl (by decide) (hs_a1.mono hF4 hM) g10.1 g10.2.1) ?_
  refine Qt.run rfl rfl (by decide) (Ev.loadS (α := BitVec 16) rfl (hs_a1.mono hF4 hM) Try.isAgg23 (v := .int .u16 x8.toNat) ((Get.elemN (s := 1) (x := x8) rfl g10.2.2 (Get.here _)).off (by omega))) ?_
  refine Qt.run rfl rfl (by decide) (Ev.neq rfl rfl) ?_
  refine Qt.done ?_
  refine At.then ?_
  rcases Bool.eq_false_or_eq_true ((x5.toNat : Int) != (x8.toNat : Int)) with hb11 | hb11
  · replace H := ite_t hb11 H
    refine Cd.condT rfl hb11 ?_
    refine Cd.seq ?_
    refine Cd.as (e' := []) (L' := L) trivial rfl ?_
    refine Cd.region ?_
    refine Lst.run rfl rfl (by decide) (Ev.assign rfl) ?_
    refine Lst.nil ?_
    refine At.then ?_
    have H := hret2 _ (some_inj H).symm
    subst H
    replace H := HKl2
    obtain rfl := some_inj H
    refine Cd.ret ?_
    refine At.in_ret ?_
    refine At.then_ret ?_
    refine At.then_ret ?_
    refine At.in_ret ?_
    refine At.then_ret ?_
    exact At.ret1 rfl (Res.tmp rfl) hF4 (List.Sublist.refl _) ⟨rfl, rfl⟩
  replace H := ite_f hb11 H
  refine Cd.condF rfl hb11 ?_
  refine Cd.skip ?_
  refine At.in_normal ?_
  refine At.then ?_
  refine Cd.region ?_
  refine Lst.run rfl rfl (by decide) (Ev.incr (by omega) rfl rfl) ?_
  refine Lst.run rfl rfl (by decide) (Ev.move rfl) ?_
  refine Lst.nil ?_
  exact At.meet (i2 + 1, k2, ()) hF4 ⟨rfl, rfl, rfl, rfl, trivial⟩ rfl ⟨⟨hgo2 _ (some_inj H).symm, by omega⟩, Nat.lt_succ_self _⟩
end Go.Proofs.Ytnljiedichjagaa
