/-
  The functions compute their specs; printed by a program.
-/
import Derived.Test.YticifbmaapnfbaaPpP2
namespace Go.Proofs.Yticifbmaapnfbaa
open Go.RowKit Enc
set_option linter.unusedVariables false
set_option linter.unusedSimpArgs false
set_option maxHeartbeats 2000000 in
set_option maxRecDepth 20000 in
theorem slices_partitionCmpFunc_int_Chains_1_sim {fu : Nat} {a0 : List (List Int)} {a1 : Int} {a2 : Int} {a3 : Int} {s_a0 : Sl} {rs_a0 : List (LR Int)} {r : (List (List Int)) × Int × Bool} (H : slices_partitionCmpFunc_int_Chains_1 fu a0 a1 a2 a3 = some r) (w0 : World) (F : Frz) (M L : List Item) (hM : M.Sublist L) (hm_a0 : rs_a0.map LR.v = a0) (ha_a0 : All LR.rel w0 F M rs_a0) : Ok Try.prog w0 94 [Sl.v s_a0, iv a1, iv a2, iv a3, .func (.func 71) #[] #[]] F ((.own s_a0 34 1 (encs rs_a0)) :: L) (fun Fx L' v => ∃ (rs2 : List (LR Int)), v = .tuple #[iv r.2.1, .bool r.2.2] ∧ L' = (.own s_a0 34 1 (encs rs2)) :: L ∧ rs2.map LR.v = r.1 ∧ All LR.rel w0 Fx M rs2) := by
 unfold slices_partitionCmpFunc_int_Chains_1 at H
 refine Ok.enter (m := 5) (n := 178) Try.func94 rfl rfl rfl (by decide) ?_
 refine Cd.env (e' := [(0, Sl.v s_a0), (1, iv a1), (2, iv a2), (3, iv a3), (4, .func (.func 71) #[] #[])]) rfl ?_
 refine sr0 ?_
 refine Lst.r (Ev.assign rfl) ?_
 refine Lst.r (Ev.assign rfl) ?_
 refine nt0 ?_
 refine Cd.seq ?_
 obtain ⟨x2, h3, H⟩ := bind_some H
 obtain ⟨x6, h7, H⟩ := bind_some H
 obtain ⟨x10, h11, H⟩ := bind_some H
 obtain ⟨p14, h15, H⟩ := Let_some H
 obtain ⟨o26, h27, H⟩ := Let_some H
 refine Cd.headMeet (σ := Sl × (List Int) × (List (List Int)) × (List (LR Int))) 14 (fun (s19, l20, l22, rs23) => [(0, Sl.v s_a0), (1, iv a1), (2, iv a2), (4, .func (.func 71) #[] #[]), (16, Sl.v s_a0), (17, iv a3), (25, Sl.v s19)]) (fun (s19, l20, l22, rs23) => (.own s_a0 34 1 (encs rs23)) :: L) (fun Fx (s19, l20, l22, rs23) => (l20, l22) = o26 ∧ Rd w0 Fx M s19 l20 ∧ rs23.map LR.v = l22 ∧ All LR.rel w0 Fx M rs23) (by kernel_rfl) (by kernel_rfl) (behind_sink (by kernel_rfl) (by kernel_rfl) (by kernel_rfl)) (by kernel_rfl) (fun hsel hlt => ?_) ?_
 ·refine HdJ.keep (fun w => St w0 F (L) w) (fun w h => trivial) ?_
  refine HdJ.ts hsel hlt 0 (sc1 (.refl _)) (Ev.move rfl) ?_
  refine HdJ.ts hsel hlt 1 (sc1 (.refl _)) (Ev.move rfl) ?_
  refine HdJ.ts hsel hlt 2 (sc1 (.refl _)) (Ev.move rfl) ?_
  refine HdJ.ts hsel hlt 3 (sc1 (.refl _)) (Ev.move rfl) ?_
  refine HdJ.ts hsel hlt 4 (sc1 (.refl _)) (Ev.move rfl) ?_
  refine HdJ.ts hsel hlt 5 (sc1 (.refl _)) (Ev.move rfl) ?_
  refine HdJ.ts hsel hlt 8 (sc1 (.refl _)) (Ev.move rfl) ?_
  refine HdJ.ts hsel hlt 9 (sc1 (.refl _)) (Ev.move rfl) ?_
  refine HdJ.step [6, 10] (by kernel_rfl) rfl ?_
  refine HdStep.c (fun inv => ?_) ?_
  ·have g28 := lat_some h3
   obtain ⟨⟨r29v, r29h⟩, r29g, r29e, r29m⟩ := map_get hm_a0 g28.2.2
   obtain rfl : x2 = r29v := r29e.symm
   have r29q : Rd w0 _ _ r29h x2 := ha_a0 _ r29m
   refine Lst.r (Ev.indexS (α := LR Int) (xs := rs_a0) rfl rfl Try.runUnderlying56 Try.sizeOf34 rfl (by decide) (rdo 0 rfl rfl rfl) g28.1 (by have := map_len hm_a0; omega)) ?_
   refine hds inv (sc1 (.refl _)) ?_
   refine HdJ.step [7, 10] (by kernel_rfl) rfl ?_
   refine HdStep.c (fun inv => ?_) ?_
   ·refine Lst.r (Ev.loadS (α := LR Int) rfl (rdo 0 rfl rfl rfl) Try.isAgg34 (v := Sl.v r29h) ((Get.elemN (s := 1) rfl r29g gh0).off (by omega))) ?_
    refine hds inv (sc1 (.refl _)) ?_
    refine HdJ.o1 10 (fun inv => ?_)
    have g30 := lat_some h7
    obtain ⟨⟨r31v, r31h⟩, r31g, r31e, r31m⟩ := map_get hm_a0 g30.2.2
    obtain rfl : x6 = r31v := r31e.symm
    have r31q : Rd w0 _ _ r31h x6 := ha_a0 _ r31m
    refine Lst.r (Ev.indexS (α := LR Int) (xs := rs_a0) rfl rfl Try.runUnderlying56 Try.sizeOf34 rfl (by decide) (rdo 0 rfl rfl rfl) g30.1 (by have := map_len hm_a0; omega)) ?_
    refine hds inv (sc1 (.refl _)) ?_
    refine HdJ.o1 11 (fun inv => ?_)
    refine Lst.r (Ev.loadS (α := LR Int) rfl (rdo 0 rfl rfl rfl) Try.isAgg34 (v := Sl.v r31h) ((Get.elemN (s := 1) rfl r31g gh0).off (by omega))) ?_
    refine hds inv (sc1 (.refl _)) ?_
    refine HdJ.o1 12 (fun inv => ?_)
    have g32 := lat_some h11
    obtain ⟨⟨r33v, r33h⟩, r33g, r33e, r33m⟩ := map_get hm_a0 g32.2.2
    obtain rfl : x10 = r33v := r33e.symm
    have r33q : Rd w0 _ _ r33h x10 := ha_a0 _ r33m
    refine Lst.r (Ev.indexS (α := LR Int) (xs := rs_a0) rfl rfl Try.runUnderlying56 Try.sizeOf34 rfl (by decide) (rdo 0 rfl rfl rfl) g32.1 (by have := map_len hm_a0; omega)) ?_
    refine hds inv (sc1 (.refl _)) ?_
    refine HdJ.o1 13 (fun inv => ?_)
    have hm34 : (rs_a0.set a1.toNat (LR.mk x2 r29h)).map LR.v = p14 := (map_set hm_a0 _ _).trans h15
    have ha35 : All LR.rel w0 F M (rs_a0.set a1.toNat (LR.mk x2 r29h)) := All.set (All.monoLR ha_a0 fl (.refl _)) ((r29q.mono fl (.refl _)))
    refine Lst.storeS (i := 0) rfl rfl rfl rfl rfl Try.sizeOf34 (vs := [Sl.v r29h]) rfl rfl (by decide) rfl (xs' := encs (rs_a0.set a1.toNat (LR.mk x2 r29h))) ((Put.elemN (s := 1) (y := (LR.mk x2 r29h)) rfl r33g (Put.here (vs := [Sl.v r29h]) rfl)).off (by omega)) (L' := (.own s_a0 34 1 (encs (rs_a0.set a1.toNat (LR.mk x2 r29h)))) :: L) rfl ?_
    refine hds inv (sc1 (.refl _)) ?_
    refine HdJ.done (by kernel_rfl) ?_
    exact At.meetN (r31h, x6, p14, (rs_a0.set a1.toNat (LR.mk x2 r29h))) fl ⟨rfl, rfl, rfl, rfl, rfl, rfl, rfl, trivial⟩ rfl ⟨h27, (r31q.mono fl (.refl _)), hm34, (All.monoLR ha35 fl (.refl _))⟩
   refine HdStep.c (fun inv => ?_) trivial
   have g36 := lat_some h7
   obtain ⟨⟨r37v, r37h⟩, r37g, r37e, r37m⟩ := map_get hm_a0 g36.2.2
   obtain rfl : x6 = r37v := r37e.symm
   have r37q : Rd w0 _ _ r37h x6 := ha_a0 _ r37m
   refine Lst.r (Ev.indexS (α := LR Int) (xs := rs_a0) rfl rfl Try.runUnderlying56 Try.sizeOf34 rfl (by decide) (rdo 0 rfl rfl rfl) g36.1 (by have := map_len hm_a0; omega)) ?_
   refine hds inv (sc1 (.refl _)) ?_
   refine HdJ.step [7, 11] (by kernel_rfl) rfl ?_
   refine HdStep.c (fun inv => ?_) ?_
   ·refine Lst.r (Ev.loadS (α := LR Int) rfl (rdo 0 rfl rfl rfl) Try.isAgg34 (v := Sl.v r29h) ((Get.elemN (s := 1) rfl r29g gh0).off (by omega))) ?_
    refine hds inv (sc1 (.refl _)) ?_
    refine HdJ.o1 11 (fun inv => ?_)
    refine Lst.r (Ev.loadS (α := LR Int) rfl (rdo 0 rfl rfl rfl) Try.isAgg34 (v := Sl.v r37h) ((Get.elemN (s := 1) rfl r37g gh0).off (by omega))) ?_
    refine hds inv (sc1 (.refl _)) ?_
    refine HdJ.o1 12 (fun inv => ?_)
    have g38 := lat_some h11
    obtain ⟨⟨r39v, r39h⟩, r39g, r39e, r39m⟩ := map_get hm_a0 g38.2.2
    obtain rfl : x10 = r39v := r39e.symm
    have r39q : Rd w0 _ _ r39h x10 := ha_a0 _ r39m
    refine Lst.r (Ev.indexS (α := LR Int) (xs := rs_a0) rfl rfl Try.runUnderlying56 Try.sizeOf34 rfl (by decide) (rdo 0 rfl rfl rfl) g38.1 (by have := map_len hm_a0; omega)) ?_
    refine hds inv (sc1 (.refl _)) ?_
    refine HdJ.o1 13 (fun inv => ?_)
    have hm40 : (rs_a0.set a1.toNat (LR.mk x2 r29h)).map LR.v = p14 := (map_set hm_a0 _ _).trans h15
    have ha41 : All LR.rel w0 F M (rs_a0.set a1.toNat (LR.mk x2 r29h)) := All.set (All.monoLR ha_a0 fl (.refl _)) ((r29q.mono fl (.refl _)))
    refine Lst.storeS (i := 0) rfl rfl rfl rfl rfl Try.sizeOf34 (vs := [Sl.v r29h]) rfl rfl (by decide) rfl (xs' := encs (rs_a0.set a1.toNat (LR.mk x2 r29h))) ((Put.elemN (s := 1) (y := (LR.mk x2 r29h)) rfl r39g (Put.here (vs := [Sl.v r29h]) rfl)).off (by omega)) (L' := (.own s_a0 34 1 (encs (rs_a0.set a1.toNat (LR.mk x2 r29h)))) :: L) rfl ?_
    refine hds inv (sc1 (.refl _)) ?_
    refine HdJ.done (by kernel_rfl) ?_
    exact At.meetN (r37h, x6, p14, (rs_a0.set a1.toNat (LR.mk x2 r29h))) fl ⟨rfl, rfl, rfl, rfl, rfl, rfl, rfl, trivial⟩ rfl ⟨h27, (r37q.mono fl (.refl _)), hm40, (All.monoLR ha41 fl (.refl _))⟩
   refine HdStep.c (fun inv => ?_) trivial
   refine Lst.r (Ev.loadS (α := LR Int) rfl (rdo 0 rfl rfl rfl) Try.isAgg34 (v := Sl.v r37h) ((Get.elemN (s := 1) rfl r37g gh0).off (by omega))) ?_
   refine hds inv (sc1 (.refl _)) ?_
   refine HdJ.o1 7 (fun inv => ?_)
   refine Lst.r (Ev.loadS (α := LR Int) rfl (rdo 0 rfl rfl rfl) Try.isAgg34 (v := Sl.v r29h) ((Get.elemN (s := 1) rfl r29g gh0).off (by omega))) ?_
   refine hds inv (sc1 (.refl _)) ?_
   refine HdJ.o1 12 (fun inv => ?_)
   have g42 := lat_some h11
   obtain ⟨⟨r43v, r43h⟩, r43g, r43e, r43m⟩ := map_get hm_a0 g42.2.2
   obtain rfl : x10 = r43v := r43e.symm
   have r43q : Rd w0 _ _ r43h x10 := ha_a0 _ r43m
   refine Lst.r (Ev.indexS (α := LR Int) (xs := rs_a0) rfl rfl Try.runUnderlying56 Try.sizeOf34 rfl (by decide) (rdo 0 rfl rfl rfl) g42.1 (by have := map_len hm_a0; omega)) ?_
   refine hds inv (sc1 (.refl _)) ?_
   refine HdJ.o1 13 (fun inv => ?_)
   have hm44 : (rs_a0.set a1.toNat (LR.mk x2 r29h)).map LR.v = p14 := (map_set hm_a0 _ _).trans h15
   have ha45 : All LR.rel w0 F M (rs_a0.set a1.toNat (LR.mk x2 r29h)) := All.set (All.monoLR ha_a0 fl (.refl _)) ((r29q.mono fl (.refl _)))
   refine Lst.storeS (i := 0) rfl rfl rfl rfl rfl Try.sizeOf34 (vs := [Sl.v r29h]) rfl rfl (by decide) rfl (xs' := encs (rs_a0.set a1.toNat (LR.mk x2 r29h))) ((Put.elemN (s := 1) (y := (LR.mk x2 r29h)) rfl r43g (Put.here (vs := [Sl.v r29h]) rfl)).off (by omega)) (L' := (.own s_a0 34 1 (encs (rs_a0.set a1.toNat (LR.mk x2 r29h)))) :: L) rfl ?_
   refine hds inv (sc1 (.refl _)) ?_
   refine HdJ.done (by kernel_rfl) ?_
   exact At.meetN (r37h, x6, p14, (rs_a0.set a1.toNat (LR.mk x2 r29h))) fl ⟨rfl, rfl, rfl, rfl, rfl, rfl, rfl, trivial⟩ rfl ⟨h27, (r37q.mono fl (.refl _)), hm44, (All.monoLR ha45 fl (.refl _))⟩
  refine HdStep.c (fun inv => ?_) trivial
  have g46 := lat_some h7
  obtain ⟨⟨r47v, r47h⟩, r47g, r47e, r47m⟩ := map_get hm_a0 g46.2.2
  obtain rfl : x6 = r47v := r47e.symm
  have r47q : Rd w0 _ _ r47h x6 := ha_a0 _ r47m
  refine Lst.r (Ev.indexS (α := LR Int) (xs := rs_a0) rfl rfl Try.runUnderlying56 Try.sizeOf34 rfl (by decide) (rdo 0 rfl rfl rfl) g46.1 (by have := map_len hm_a0; omega)) ?_
  refine hds inv (sc1 (.refl _)) ?_
  refine HdJ.step [6, 11] (by kernel_rfl) rfl ?_
  refine HdStep.c (fun inv => ?_) ?_
  ·have g48 := lat_some h3
   obtain ⟨⟨r49v, r49h⟩, r49g, r49e, r49m⟩ := map_get hm_a0 g48.2.2
   obtain rfl : x2 = r49v := r49e.symm
   have r49q : Rd w0 _ _ r49h x2 := ha_a0 _ r49m
   refine Lst.r (Ev.indexS (α := LR Int) (xs := rs_a0) rfl rfl Try.runUnderlying56 Try.sizeOf34 rfl (by decide) (rdo 0 rfl rfl rfl) g48.1 (by have := map_len hm_a0; omega)) ?_
   refine hds inv (sc1 (.refl _)) ?_
   refine HdJ.step [7, 11] (by kernel_rfl) rfl ?_
   refine HdStep.c (fun inv => ?_) ?_
   ·refine Lst.r (Ev.loadS (α := LR Int) rfl (rdo 0 rfl rfl rfl) Try.isAgg34 (v := Sl.v r49h) ((Get.elemN (s := 1) rfl r49g gh0).off (by omega))) ?_
    refine hds inv (sc1 (.refl _)) ?_
    refine HdJ.o1 11 (fun inv => ?_)
    refine Lst.r (Ev.loadS (α := LR Int) rfl (rdo 0 rfl rfl rfl) Try.isAgg34 (v := Sl.v r47h) ((Get.elemN (s := 1) rfl r47g gh0).off (by omega))) ?_
    refine hds inv (sc1 (.refl _)) ?_
    refine HdJ.o1 12 (fun inv => ?_)
    have g50 := lat_some h11
    obtain ⟨⟨r51v, r51h⟩, r51g, r51e, r51m⟩ := map_get hm_a0 g50.2.2
    obtain rfl : x10 = r51v := r51e.symm
    have r51q : Rd w0 _ _ r51h x10 := ha_a0 _ r51m
    refine Lst.r (Ev.indexS (α := LR Int) (xs := rs_a0) rfl rfl Try.runUnderlying56 Try.sizeOf34 rfl (by decide) (rdo 0 rfl rfl rfl) g50.1 (by have := map_len hm_a0; omega)) ?_
    refine hds inv (sc1 (.refl _)) ?_
    refine HdJ.o1 13 (fun inv => ?_)
    have hm52 : (rs_a0.set a1.toNat (LR.mk x2 r49h)).map LR.v = p14 := (map_set hm_a0 _ _).trans h15
    have ha53 : All LR.rel w0 F M (rs_a0.set a1.toNat (LR.mk x2 r49h)) := All.set (All.monoLR ha_a0 fl (.refl _)) ((r49q.mono fl (.refl _)))
    refine Lst.storeS (i := 0) rfl rfl rfl rfl rfl Try.sizeOf34 (vs := [Sl.v r49h]) rfl rfl (by decide) rfl (xs' := encs (rs_a0.set a1.toNat (LR.mk x2 r49h))) ((Put.elemN (s := 1) (y := (LR.mk x2 r49h)) rfl r51g (Put.here (vs := [Sl.v r49h]) rfl)).off (by omega)) (L' := (.own s_a0 34 1 (encs (rs_a0.set a1.toNat (LR.mk x2 r49h)))) :: L) rfl ?_
    refine hds inv (sc1 (.refl _)) ?_
    refine HdJ.done (by kernel_rfl) ?_
    exact At.meetN (r47h, x6, p14, (rs_a0.set a1.toNat (LR.mk x2 r49h))) fl ⟨rfl, rfl, rfl, rfl, rfl, rfl, rfl, trivial⟩ rfl ⟨h27, (r47q.mono fl (.refl _)), hm52, (All.monoLR ha53 fl (.refl _))⟩
   refine HdStep.c (fun inv => ?_) trivial
   refine Lst.r (Ev.loadS (α := LR Int) rfl (rdo 0 rfl rfl rfl) Try.isAgg34 (v := Sl.v r47h) ((Get.elemN (s := 1) rfl r47g gh0).off (by omega))) ?_
   refine hds inv (sc1 (.refl _)) ?_
   refine HdJ.o1 7 (fun inv => ?_)
   refine Lst.r (Ev.loadS (α := LR Int) rfl (rdo 0 rfl rfl rfl) Try.isAgg34 (v := Sl.v r49h) ((Get.elemN (s := 1) rfl r49g gh0).off (by omega))) ?_
   refine hds inv (sc1 (.refl _)) ?_
   refine HdJ.o1 12 (fun inv => ?_)
   have g54 := lat_some h11
   obtain ⟨⟨r55v, r55h⟩, r55g, r55e, r55m⟩ := map_get hm_a0 g54.2.2
   obtain rfl : x10 = r55v := r55e.symm
   have r55q : Rd w0 _ _ r55h x10 := ha_a0 _ r55m
   refine Lst.r (Ev.indexS (α := LR Int) (xs := rs_a0) rfl rfl Try.runUnderlying56 Try.sizeOf34 rfl (by decide) (rdo 0 rfl rfl rfl) g54.1 (by have := map_len hm_a0; omega)) ?_
   refine hds inv (sc1 (.refl _)) ?_
   refine HdJ.o1 13 (fun inv => ?_)
   have hm56 : (rs_a0.set a1.toNat (LR.mk x2 r49h)).map LR.v = p14 := (map_set hm_a0 _ _).trans h15
   have ha57 : All LR.rel w0 F M (rs_a0.set a1.toNat (LR.mk x2 r49h)) := All.set (All.monoLR ha_a0 fl (.refl _)) ((r49q.mono fl (.refl _)))
   refine Lst.storeS (i := 0) rfl rfl rfl rfl rfl Try.sizeOf34 (vs := [Sl.v r49h]) rfl rfl (by decide) rfl (xs' := encs (rs_a0.set a1.toNat (LR.mk x2 r49h))) ((Put.elemN (s := 1) (y := (LR.mk x2 r49h)) rfl r55g (Put.here (vs := [Sl.v r49h]) rfl)).off (by omega)) (L' := (.own s_a0 34 1 (encs (rs_a0.set a1.toNat (LR.mk x2 r49h)))) :: L) rfl ?_
   refine hds inv (sc1 (.refl _)) ?_
   refine HdJ.done (by kernel_rfl) ?_
   exact At.meetN (r47h, x6, p14, (rs_a0.set a1.toNat (LR.mk x2 r49h))) fl ⟨rfl, rfl, rfl, rfl, rfl, rfl, rfl, trivial⟩ rfl ⟨h27, (r47q.mono fl (.refl _)), hm56, (All.monoLR ha57 fl (.refl _))⟩
  refine HdStep.c (fun inv => ?_) trivial
  refine Lst.r (Ev.loadS (α := LR Int) rfl (rdo 0 rfl rfl rfl) Try.isAgg34 (v := Sl.v r47h) ((Get.elemN (s := 1) rfl r47g gh0).off (by omega))) ?_
  refine hds inv (sc1 (.refl _)) ?_
  refine HdJ.o1 6 (fun inv => ?_)
  have g58 := lat_some h3
  obtain ⟨⟨r59v, r59h⟩, r59g, r59e, r59m⟩ := map_get hm_a0 g58.2.2
  obtain rfl : x2 = r59v := r59e.symm
  have r59q : Rd w0 _ _ r59h x2 := ha_a0 _ r59m
  refine Lst.r (Ev.indexS (α := LR Int) (xs := rs_a0) rfl rfl Try.runUnderlying56 Try.sizeOf34 rfl (by decide) (rdo 0 rfl rfl rfl) g58.1 (by have := map_len hm_a0; omega)) ?_
  refine hds inv (sc1 (.refl _)) ?_
  refine HdJ.o1 7 (fun inv => ?_)
  refine Lst.r (Ev.loadS (α := LR Int) rfl (rdo 0 rfl rfl rfl) Try.isAgg34 (v := Sl.v r59h) ((Get.elemN (s := 1) rfl r59g gh0).off (by omega))) ?_
  refine hds inv (sc1 (.refl _)) ?_
  refine HdJ.o1 12 (fun inv => ?_)
  have g60 := lat_some h11
  obtain ⟨⟨r61v, r61h⟩, r61g, r61e, r61m⟩ := map_get hm_a0 g60.2.2
  obtain rfl : x10 = r61v := r61e.symm
  have r61q : Rd w0 _ _ r61h x10 := ha_a0 _ r61m
  refine Lst.r (Ev.indexS (α := LR Int) (xs := rs_a0) rfl rfl Try.runUnderlying56 Try.sizeOf34 rfl (by decide) (rdo 0 rfl rfl rfl) g60.1 (by have := map_len hm_a0; omega)) ?_
  refine hds inv (sc1 (.refl _)) ?_
  refine HdJ.o1 13 (fun inv => ?_)
  have hm62 : (rs_a0.set a1.toNat (LR.mk x2 r59h)).map LR.v = p14 := (map_set hm_a0 _ _).trans h15
  have ha63 : All LR.rel w0 F M (rs_a0.set a1.toNat (LR.mk x2 r59h)) := All.set (All.monoLR ha_a0 fl (.refl _)) ((r59q.mono fl (.refl _)))
  refine Lst.storeS (i := 0) rfl rfl rfl rfl rfl Try.sizeOf34 (vs := [Sl.v r59h]) rfl rfl (by decide) rfl (xs' := encs (rs_a0.set a1.toNat (LR.mk x2 r59h))) ((Put.elemN (s := 1) (y := (LR.mk x2 r59h)) rfl r61g (Put.here (vs := [Sl.v r59h]) rfl)).off (by omega)) (L' := (.own s_a0 34 1 (encs (rs_a0.set a1.toNat (LR.mk x2 r59h)))) :: L) rfl ?_
  refine hds inv (sc1 (.refl _)) ?_
  refine HdJ.done (by kernel_rfl) ?_
  exact At.meetN (r47h, x6, p14, (rs_a0.set a1.toNat (LR.mk x2 r59h))) fl ⟨rfl, rfl, rfl, rfl, rfl, rfl, rfl, trivial⟩ rfl ⟨h27, (r47q.mono fl (.refl _)), hm62, (All.monoLR ha63 fl (.refl _))⟩
 rintro F64 ⟨s19, l20, l22, rs23⟩ hF65 ⟨hy, f21, fm24, fa25⟩
 subst hy
 try dsimp only at H
 refine Lst.as (e' := [(0, Sl.v s_a0), (1, iv a1), (2, iv a2), (4, .func (.func 71) #[] #[]), (16, Sl.v s_a0), (17, iv a3), (25, Sl.v s19)]) (L' := (.own s_a0 34 1 (encs rs23)) :: L) ⟨rfl, rfl, rfl, rfl, rfl, rfl, rfl, trivial⟩ rfl ?_
 obtain ⟨x66, h67, H⟩ := bind_some H
 have g68 := lat_some h67
 obtain ⟨⟨r69v, r69h⟩, r69g, r69e, r69m⟩ := map_get fm24 g68.2.2
 obtain rfl : x66 = r69v := r69e.symm
 have r69q : Rd w0 _ _ r69h x66 := fa25 _ r69m
 refine Lst.r (Ev.indexS (α := LR Int) (xs := rs23) rfl rfl Try.runUnderlying56 Try.sizeOf34 rfl (by decide) (rdo 0 rfl rfl rfl) g68.1 (by have := map_len fm24; omega)) ?_
 obtain ⟨p70, h71, H⟩ := Let_some H
 have hm72 : (rs23.set a3.toNat (LR.mk l20 s19)).map LR.v = p70 := (map_set fm24 _ _).trans h71
 have ha73 : All LR.rel w0 F64 M (rs23.set a3.toNat (LR.mk l20 s19)) := All.set (All.monoLR fa25 fl (.refl _)) ((f21.mono fl (.refl _)))
 refine Lst.storeS (i := 0) rfl rfl rfl rfl rfl Try.sizeOf34 (vs := [Sl.v s19]) rfl rfl (by decide) rfl (xs' := encs (rs23.set a3.toNat (LR.mk l20 s19))) ((Put.elemN (s := 1) (y := (LR.mk l20 s19)) rfl r69g (Put.here (vs := [Sl.v s19]) rfl)).off (by omega)) (L' := (.own s_a0 34 1 (encs (rs23.set a3.toNat (LR.mk l20 s19)))) :: L) rfl ?_
 refine nsr ?_
 refine mv0 rfl ?_
 refine Lst.r (Ev.add rfl rfl) ?_
 refine mv0 rfl ?_
 refine Lst.r (Ev.sub rfl rfl) ?_
 refine Lst.r (Ev.assign rfl) ?_
 refine Lst.r (Ev.assign rfl) ?_
 refine nt0 ?_
 refine Cd.seq ?_
 refine Cd.block ?_
 obtain ⟨ol74, H, HKl74⟩ := andThen_some H
 refine Cd.loop (σ := Nat × Int) (fun (k74, y75) => [(0, Sl.v s_a0), (1, iv a1), (4, .func (.func 71) #[] #[]), (12, iv y75), (13, iv (w64 (a2 - (1 : Int))))]) (fun (k74, y75) => (.own s_a0 34 1 (encs (rs23.set a3.toNat (LR.mk l20 s19)))) :: L) (fun _ => (fun (k74, y75) => whileM (slices_partitionCmpFunc_int_Chains_1_B0 a1 a2 p70) k74 y75 = some ol74)) (fun (k74, y75) => k74) (fu, w64 (a1 + (1 : Int))) ⟨rfl, rfl, rfl, rfl, rfl, trivial⟩ rfl H ?_
 rintro F76 ⟨k74, y75⟩ hF77 H
 refine Cd.as (e' := [(0, Sl.v s_a0), (1, iv a1), (4, .func (.func 71) #[] #[]), (12, iv y75), (13, iv (w64 (a2 - (1 : Int))))]) (L' := (.own s_a0 34 1 (encs (rs23.set a3.toNat (LR.mk l20 s19)))) :: L) ⟨rfl, rfl, rfl, rfl, rfl, trivial⟩ rfl ?_
 rcases k74 with _ | k74
 ·cases H
 obtain ⟨c74, H, hgo74, hbrk74, hret74⟩ := whileM_go H
 unfold slices_partitionCmpFunc_int_Chains_1_B0 at H
 try dsimp only at H
 refine Cd.seq ?_
 refine Cd.seq ?_
 refine Cd.quiet (by kernel_rfl) (by kernel_rfl) ?_
 refine Qt.r (Ev.move rfl) ?_
 refine Qt.r (Ev.move rfl) ?_
 refine Qt.r (Ev.leq rfl rfl) ?_
 refine Qt.r (Ev.move rfl) ?_
 obtain ⟨o78, H, HKo78⟩ := bind_some H
 refine Qt.join (σ := Bool) 12 (fun y79 => [(0, Sl.v s_a0), (1, iv a1), (4, .func (.func 71) #[] #[]), (12, iv y75), (13, iv (w64 (a2 - (1 : Int)))), (47, .bool y79)]) (fun y79 => y79 = o78) ?_ ?_
 ·rcases (Bool.eq_false_or_eq_true (decide (y75 ≤ (w64 (a2 - (1 : Int)))))).symm with hb80 | hb80
  ·replace H := ite_f hb80 H
   refine Qt.skip rfl rfl rfl hb80 rfl (by decide) ?_
   refine Qt.skip rfl rfl rfl hb80 rfl (by decide) ?_
   refine Qt.skip rfl rfl rfl hb80 rfl (by decide) ?_
   refine Qt.skip rfl rfl rfl hb80 rfl (by decide) ?_
   refine Qt.skip rfl rfl rfl hb80 rfl (by decide) ?_
   refine Qt.skip rfl rfl rfl hb80 rfl (by decide) ?_
   refine Qt.skip rfl rfl rfl hb80 rfl (by decide) ?_
   refine Qt.skip rfl rfl rfl hb80 rfl (by decide) ?_
   refine Qt.skip rfl rfl rfl hb80 rfl (by decide) ?_
   refine Qt.skip rfl rfl rfl hb80 rfl (by decide) ?_
   refine Qt.skip rfl rfl rfl hb80 rfl (by decide) ?_
   refine Qt.r (Ev.pickF rfl hb80 rfl) ?_
   exact Qt.meet false ⟨rfl, rfl, rfl, rfl, rfl, rfl, trivial⟩ (some_inj H)
  replace H := ite_t hb80 H
  refine Qt.rG hb80 (Ev.move rfl) ?_
  refine Qt.rG hb80 (Ev.move rfl) ?_
  refine Qt.rG hb80 (Ev.move rfl) ?_
  obtain ⟨x81, h82, H⟩ := bind_some H
  have g83 := lat_some h82
  obtain ⟨⟨r84v, r84h⟩, r84g, r84e, r84m⟩ := map_get hm72 g83.2.2
  obtain rfl : x81 = r84v := r84e.symm
  have r84q : Rd w0 _ _ r84h x81 := ha73 _ r84m
  refine Qt.rG hb80 (Ev.indexS (α := LR Int) (xs := (rs23.set a3.toNat (LR.mk l20 s19))) rfl rfl Try.runUnderlying56 Try.sizeOf34 rfl (by decide) (rdo 0 rfl rfl rfl) g83.1 (by have := map_len hm72; omega)) ?_
  refine Qt.rG hb80 (Ev.loadS (α := LR Int) rfl (rdo 0 rfl rfl rfl) Try.isAgg34 (v := Sl.v r84h) ((Get.elemN (s := 1) rfl r84g gh0).off (by omega))) ?_
  refine Qt.rG hb80 (Ev.move rfl) ?_
  refine Qt.rG hb80 (Ev.move rfl) ?_
  obtain ⟨x85, h86, H⟩ := bind_some H
  have g87 := lat_some h86
  obtain ⟨⟨r88v, r88h⟩, r88g, r88e, r88m⟩ := map_get hm72 g87.2.2
  obtain rfl : x85 = r88v := r88e.symm
  have r88q : Rd w0 _ _ r88h x85 := ha73 _ r88m
  refine Qt.rG hb80 (Ev.indexS (α := LR Int) (xs := (rs23.set a3.toNat (LR.mk l20 s19))) rfl rfl Try.runUnderlying56 Try.sizeOf34 rfl (by decide) (rdo 0 rfl rfl rfl) g87.1 (by have := map_len hm72; omega)) ?_
  refine Qt.rG hb80 (Ev.loadS (α := LR Int) rfl (rdo 0 rfl rfl rfl) Try.isAgg34 (v := Sl.v r88h) ((Get.elemN (s := 1) rfl r88g gh0).off (by omega))) ?_
  obtain ⟨r89, h90, H⟩ := bind_some H
  refine Qt.callVG rfl rfl rfl hb80 rfl (by decide) (vs := [Sl.v r84h, Sl.v r88h]) (cs := []) rfl ⟨rfl, rfl, trivial⟩ Try.call71 (poset_Chains_1_sim h90 w0 _ M _ (sc1 hM) (r84q.mono hF77 (.refl _)) (r88q.mono hF77 (.refl _))) ?_
  refine Qt.rG hb80 (Ev.lss rfl rfl) ?_
  refine Qt.r (Ev.pickT rfl hb80 rfl) ?_
  exact Qt.meet (decide (r89 < (0 : Int))) ⟨rfl, rfl, rfl, rfl, rfl, rfl, trivial⟩ (some_inj H)
 rintro y79 hy
 subst hy
 refine Qt.as (e' := [(0, Sl.v s_a0), (1, iv a1), (4, .func (.func 71) #[] #[]), (12, iv y75), (13, iv (w64 (a2 - (1 : Int)))), (47, .bool y79)]) ⟨rfl, rfl, rfl, rfl, rfl, rfl, trivial⟩ ?_
 replace H := HKo78
 refine Qt.done ?_
 refine At.then ?_
 rcases (Bool.eq_false_or_eq_true y79).symm with hb93 | hb93
 ·replace H := ite_f hb93 H
  refine Cd.condF rfl hb93 ?_
  refine Cd.exit ?_
  refine At.then_exit ?_
  refine At.then_exit ?_
  refine At.in_exit ?_
  have H := hbrk74 _ (some_inj H).symm
  subst H
  replace H := HKl74
  refine At.then ?_
  refine Cd.seq ?_
  refine Cd.block ?_
  obtain ⟨ol94, H, HKl94⟩ := andThen_some H
  refine Cd.loop (σ := Nat × Int) (fun (k94, y95) => [(0, Sl.v s_a0), (1, iv a1), (4, .func (.func 71) #[] #[]), (12, iv y75), (13, iv y95)]) (fun (k94, y95) => (.own s_a0 34 1 (encs (rs23.set a3.toNat (LR.mk l20 s19)))) :: L) (fun _ => (fun (k94, y95) => whileM (slices_partitionCmpFunc_int_Chains_1_B2 a1 p70 y75) k94 y95 = some ol94)) (fun (k94, y95) => k94) (fu, w64 (a2 - (1 : Int))) ⟨rfl, rfl, rfl, rfl, rfl, trivial⟩ rfl H ?_
  rintro F96 ⟨k94, y95⟩ hF97 H
  refine Cd.as (e' := [(0, Sl.v s_a0), (1, iv a1), (4, .func (.func 71) #[] #[]), (12, iv y75), (13, iv y95)]) (L' := (.own s_a0 34 1 (encs (rs23.set a3.toNat (LR.mk l20 s19)))) :: L) ⟨rfl, rfl, rfl, rfl, rfl, trivial⟩ rfl ?_
  rcases k94 with _ | k94
  ·cases H
  obtain ⟨c94, H, hgo94, hbrk94, hret94⟩ := whileM_go H
  unfold slices_partitionCmpFunc_int_Chains_1_B2 at H
  try dsimp only at H
  refine Cd.seq ?_
  refine Cd.seq ?_
  refine Cd.quiet (by kernel_rfl) (by kernel_rfl) ?_
  refine Qt.r (Ev.move rfl) ?_
  refine Qt.r (Ev.move rfl) ?_
  refine Qt.r (Ev.leq rfl rfl) ?_
  refine Qt.r (Ev.move rfl) ?_
  obtain ⟨o98, H, HKo98⟩ := bind_some H
  refine Qt.join (σ := Bool) 13 (fun y99 => [(0, Sl.v s_a0), (1, iv a1), (4, .func (.func 71) #[] #[]), (12, iv y75), (13, iv y95), (66, .bool y99)]) (fun y99 => y99 = o98) ?_ ?_
  ·rcases (Bool.eq_false_or_eq_true (decide (y75 ≤ y95))).symm with hb100 | hb100
   ·replace H := ite_f hb100 H
    refine Qt.skip rfl rfl rfl hb100 rfl (by decide) ?_
    refine Qt.skip rfl rfl rfl hb100 rfl (by decide) ?_
    refine Qt.skip rfl rfl rfl hb100 rfl (by decide) ?_
    refine Qt.skip rfl rfl rfl hb100 rfl (by decide) ?_
    refine Qt.skip rfl rfl rfl hb100 rfl (by decide) ?_
    refine Qt.skip rfl rfl rfl hb100 rfl (by decide) ?_
    refine Qt.skip rfl rfl rfl hb100 rfl (by decide) ?_
    refine Qt.skip rfl rfl rfl hb100 rfl (by decide) ?_
    refine Qt.skip rfl rfl rfl hb100 rfl (by decide) ?_
    refine Qt.skip rfl rfl rfl hb100 rfl (by decide) ?_
    refine Qt.skip rfl rfl rfl hb100 rfl (by decide) ?_
    refine Qt.skip rfl rfl rfl hb100 rfl (by decide) ?_
    refine Qt.r (Ev.pickF rfl hb100 rfl) ?_
    exact Qt.meet false ⟨rfl, rfl, rfl, rfl, rfl, rfl, trivial⟩ (some_inj H)
   replace H := ite_t hb100 H
   refine Qt.rG hb100 (Ev.move rfl) ?_
   refine Qt.rG hb100 (Ev.move rfl) ?_
   refine Qt.rG hb100 (Ev.move rfl) ?_
   obtain ⟨x101, h102, H⟩ := bind_some H
   have g103 := lat_some h102
   obtain ⟨⟨r104v, r104h⟩, r104g, r104e, r104m⟩ := map_get hm72 g103.2.2
   obtain rfl : x101 = r104v := r104e.symm
   have r104q : Rd w0 _ _ r104h x101 := ha73 _ r104m
   refine Qt.rG hb100 (Ev.indexS (α := LR Int) (xs := (rs23.set a3.toNat (LR.mk l20 s19))) rfl rfl Try.runUnderlying56 Try.sizeOf34 rfl (by decide) (rdo 0 rfl rfl rfl) g103.1 (by have := map_len hm72; omega)) ?_
   refine Qt.rG hb100 (Ev.loadS (α := LR Int) rfl (rdo 0 rfl rfl rfl) Try.isAgg34 (v := Sl.v r104h) ((Get.elemN (s := 1) rfl r104g gh0).off (by omega))) ?_
   refine Qt.rG hb100 (Ev.move rfl) ?_
   refine Qt.rG hb100 (Ev.move rfl) ?_
   obtain ⟨x105, h106, H⟩ := bind_some H
   have g107 := lat_some h106
   obtain ⟨⟨r108v, r108h⟩, r108g, r108e, r108m⟩ := map_get hm72 g107.2.2
   obtain rfl : x105 = r108v := r108e.symm
   have r108q : Rd w0 _ _ r108h x105 := ha73 _ r108m
   refine Qt.rG hb100 (Ev.indexS (α := LR Int) (xs := (rs23.set a3.toNat (LR.mk l20 s19))) rfl rfl Try.runUnderlying56 Try.sizeOf34 rfl (by decide) (rdo 0 rfl rfl rfl) g107.1 (by have := map_len hm72; omega)) ?_
   refine Qt.rG hb100 (Ev.loadS (α := LR Int) rfl (rdo 0 rfl rfl rfl) Try.isAgg34 (v := Sl.v r108h) ((Get.elemN (s := 1) rfl r108g gh0).off (by omega))) ?_
   obtain ⟨r109, h110, H⟩ := bind_some H
   refine Qt.callVG rfl rfl rfl hb100 rfl (by decide) (vs := [Sl.v r104h, Sl.v r108h]) (cs := []) rfl ⟨rfl, rfl, trivial⟩ Try.call71 (poset_Chains_1_sim h110 w0 _ M _ (sc1 hM) (r104q.mono (FLe.trans hF77 hF97) (.refl _)) (r108q.mono (FLe.trans hF77 hF97) (.refl _))) ?_
   refine Qt.rG hb100 (Ev.lss rfl rfl) ?_
   refine Qt.rG hb100 (Ev.not rfl) ?_
   refine Qt.r (Ev.pickT rfl hb100 rfl) ?_
   exact Qt.meet (!(decide (r109 < (0 : Int)))) ⟨rfl, rfl, rfl, rfl, rfl, rfl, trivial⟩ (some_inj H)
  rintro y99 hy
  subst hy
  refine Qt.as (e' := [(0, Sl.v s_a0), (1, iv a1), (4, .func (.func 71) #[] #[]), (12, iv y75), (13, iv y95), (66, .bool y99)]) ⟨rfl, rfl, rfl, rfl, rfl, rfl, trivial⟩ ?_
  replace H := HKo98
  refine Qt.done ?_
  refine At.then ?_
  rcases (Bool.eq_false_or_eq_true y99).symm with hb113 | hb113
  ·replace H := ite_f hb113 H
   refine Cd.condF rfl hb113 ?_
   refine Cd.exit ?_
   refine At.then_exit ?_
   refine At.then_exit ?_
   refine At.in_exit ?_
   have H := hbrk94 _ (some_inj H).symm
   subst H
   replace H := HKl94
   refine At.then ?_
   refine Cd.seq ?_
   refine sr0 ?_
   refine mv0 rfl ?_
   refine mv0 rfl ?_
   refine Lst.r (Ev.gtr rfl rfl) ?_
   refine nt0 ?_
   rcases Bool.eq_false_or_eq_true (decide (y75 > y95)) with hb114 | hb114
   ·replace H := ite_t hb114 H
    refine Cd.condT rfl hb114 ?_
    refine Cd.seq ?_
    obtain ⟨x115, h116, H⟩ := bind_some H
    obtain ⟨x119, h120, H⟩ := bind_some H
    obtain ⟨x123, h124, H⟩ := bind_some H
    obtain ⟨p127, h128, H⟩ := Let_some H
    obtain ⟨o139, h140, H⟩ := Let_some H
    refine Cd.headMeet (σ := Sl × (List Int) × (List (List Int)) × (List (LR Int))) 14 (fun (s132, l133, l135, rs136) => [(13, iv y95), (74, Sl.v s_a0), (75, iv a1), (83, Sl.v s132)]) (fun (s132, l133, l135, rs136) => (.own s_a0 34 1 (encs rs136)) :: L) (fun Fx (s132, l133, l135, rs136) => (l133, l135) = o139 ∧ Rd w0 Fx M s132 l133 ∧ rs136.map LR.v = l135 ∧ All LR.rel w0 Fx M rs136) (by kernel_rfl) (by kernel_rfl) (behind_sink (by kernel_rfl) (by kernel_rfl) (by kernel_rfl)) (by kernel_rfl) (fun hsel hlt => ?_) ?_
    ·refine HdJ.keep (fun w => St w0 F96 (L) w) (fun w h => trivial) ?_
     refine HdJ.ts hsel hlt 0 (sc1 (.refl _)) (Ev.move rfl) ?_
     refine HdJ.ts hsel hlt 1 (sc1 (.refl _)) (Ev.move rfl) ?_
     refine HdJ.ts hsel hlt 2 (sc1 (.refl _)) (Ev.move rfl) ?_
     refine HdJ.ts hsel hlt 3 (sc1 (.refl _)) (Ev.move rfl) ?_
     refine HdJ.ts hsel hlt 4 (sc1 (.refl _)) (Ev.move rfl) ?_
     refine HdJ.ts hsel hlt 5 (sc1 (.refl _)) (Ev.move rfl) ?_
     refine HdJ.ts hsel hlt 8 (sc1 (.refl _)) (Ev.move rfl) ?_
     refine HdJ.ts hsel hlt 9 (sc1 (.refl _)) (Ev.move rfl) ?_
     refine HdJ.step [6, 10] (by kernel_rfl) rfl ?_
     refine HdStep.c (fun inv => ?_) ?_
     ·have g141 := lat_some h116
      obtain ⟨⟨r142v, r142h⟩, r142g, r142e, r142m⟩ := map_get hm72 g141.2.2
      obtain rfl : x115 = r142v := r142e.symm
      have r142q : Rd w0 _ _ r142h x115 := ha73 _ r142m
      refine Lst.r (Ev.indexS (α := LR Int) (xs := (rs23.set a3.toNat (LR.mk l20 s19))) rfl rfl Try.runUnderlying56 Try.sizeOf34 rfl (by decide) (rdo 0 rfl rfl rfl) g141.1 (by have := map_len hm72; omega)) ?_
      refine hds inv (sc1 (.refl _)) ?_
      refine HdJ.step [7, 10] (by kernel_rfl) rfl ?_
      refine HdStep.c (fun inv => ?_) ?_
      ·refine Lst.r (Ev.loadS (α := LR Int) rfl (rdo 0 rfl rfl rfl) Try.isAgg34 (v := Sl.v r142h) ((Get.elemN (s := 1) rfl r142g gh0).off (by omega))) ?_
       refine hds inv (sc1 (.refl _)) ?_
       refine HdJ.o1 10 (fun inv => ?_)
       have g143 := lat_some h120
       obtain ⟨⟨r144v, r144h⟩, r144g, r144e, r144m⟩ := map_get hm72 g143.2.2
       obtain rfl : x119 = r144v := r144e.symm
       have r144q : Rd w0 _ _ r144h x119 := ha73 _ r144m
       refine Lst.r (Ev.indexS (α := LR Int) (xs := (rs23.set a3.toNat (LR.mk l20 s19))) rfl rfl Try.runUnderlying56 Try.sizeOf34 rfl (by decide) (rdo 0 rfl rfl rfl) g143.1 (by have := map_len hm72; omega)) ?_
       refine hds inv (sc1 (.refl _)) ?_
       refine HdJ.o1 11 (fun inv => ?_)
       refine Lst.r (Ev.loadS (α := LR Int) rfl (rdo 0 rfl rfl rfl) Try.isAgg34 (v := Sl.v r144h) ((Get.elemN (s := 1) rfl r144g gh0).off (by omega))) ?_
       refine hds inv (sc1 (.refl _)) ?_
       refine HdJ.o1 12 (fun inv => ?_)
       have g145 := lat_some h124
       obtain ⟨⟨r146v, r146h⟩, r146g, r146e, r146m⟩ := map_get hm72 g145.2.2
       obtain rfl : x123 = r146v := r146e.symm
       have r146q : Rd w0 _ _ r146h x123 := ha73 _ r146m
       refine Lst.r (Ev.indexS (α := LR Int) (xs := (rs23.set a3.toNat (LR.mk l20 s19))) rfl rfl Try.runUnderlying56 Try.sizeOf34 rfl (by decide) (rdo 0 rfl rfl rfl) g145.1 (by have := map_len hm72; omega)) ?_
       refine hds inv (sc1 (.refl _)) ?_
       refine HdJ.o1 13 (fun inv => ?_)
       have hm147 : ((rs23.set a3.toNat (LR.mk l20 s19)).set y95.toNat (LR.mk x115 r142h)).map LR.v = p127 := (map_set hm72 _ _).trans h128
       have ha148 : All LR.rel w0 F96 M ((rs23.set a3.toNat (LR.mk l20 s19)).set y95.toNat (LR.mk x115 r142h)) := All.set (All.monoLR ha73 (FLe.trans hF77 hF97) (.refl _)) ((r142q.mono (FLe.trans hF77 hF97) (.refl _)))
       refine Lst.storeS (i := 0) rfl rfl rfl rfl rfl Try.sizeOf34 (vs := [Sl.v r142h]) rfl rfl (by decide) rfl (xs' := encs ((rs23.set a3.toNat (LR.mk l20 s19)).set y95.toNat (LR.mk x115 r142h))) ((Put.elemN (s := 1) (y := (LR.mk x115 r142h)) rfl r146g (Put.here (vs := [Sl.v r142h]) rfl)).off (by omega)) (L' := (.own s_a0 34 1 (encs ((rs23.set a3.toNat (LR.mk l20 s19)).set y95.toNat (LR.mk x115 r142h)))) :: L) rfl ?_
       refine hds inv (sc1 (.refl _)) ?_
       refine HdJ.done (by kernel_rfl) ?_
       exact At.meetN (r144h, x119, p127, ((rs23.set a3.toNat (LR.mk l20 s19)).set y95.toNat (LR.mk x115 r142h))) fl ⟨rfl, rfl, rfl, rfl, trivial⟩ rfl ⟨h140, (r144q.mono (FLe.trans hF77 hF97) (.refl _)), hm147, (All.monoLR ha148 fl (.refl _))⟩
      refine HdStep.c (fun inv => ?_) trivial
      have g149 := lat_some h120
      obtain ⟨⟨r150v, r150h⟩, r150g, r150e, r150m⟩ := map_get hm72 g149.2.2
      obtain rfl : x119 = r150v := r150e.symm
      have r150q : Rd w0 _ _ r150h x119 := ha73 _ r150m
      refine Lst.r (Ev.indexS (α := LR Int) (xs := (rs23.set a3.toNat (LR.mk l20 s19))) rfl rfl Try.runUnderlying56 Try.sizeOf34 rfl (by decide) (rdo 0 rfl rfl rfl) g149.1 (by have := map_len hm72; omega)) ?_
      refine hds inv (sc1 (.refl _)) ?_
      refine HdJ.step [7, 11] (by kernel_rfl) rfl ?_
      refine HdStep.c (fun inv => ?_) ?_
      ·refine Lst.r (Ev.loadS (α := LR Int) rfl (rdo 0 rfl rfl rfl) Try.isAgg34 (v := Sl.v r142h) ((Get.elemN (s := 1) rfl r142g gh0).off (by omega))) ?_
       refine hds inv (sc1 (.refl _)) ?_
       refine HdJ.o1 11 (fun inv => ?_)
       refine Lst.r (Ev.loadS (α := LR Int) rfl (rdo 0 rfl rfl rfl) Try.isAgg34 (v := Sl.v r150h) ((Get.elemN (s := 1) rfl r150g gh0).off (by omega))) ?_
       refine hds inv (sc1 (.refl _)) ?_
       refine HdJ.o1 12 (fun inv => ?_)
       have g151 := lat_some h124
       obtain ⟨⟨r152v, r152h⟩, r152g, r152e, r152m⟩ := map_get hm72 g151.2.2
       obtain rfl : x123 = r152v := r152e.symm
       have r152q : Rd w0 _ _ r152h x123 := ha73 _ r152m
       refine Lst.r (Ev.indexS (α := LR Int) (xs := (rs23.set a3.toNat (LR.mk l20 s19))) rfl rfl Try.runUnderlying56 Try.sizeOf34 rfl (by decide) (rdo 0 rfl rfl rfl) g151.1 (by have := map_len hm72; omega)) ?_
       refine hds inv (sc1 (.refl _)) ?_
       refine HdJ.o1 13 (fun inv => ?_)
       have hm153 : ((rs23.set a3.toNat (LR.mk l20 s19)).set y95.toNat (LR.mk x115 r142h)).map LR.v = p127 := (map_set hm72 _ _).trans h128
       have ha154 : All LR.rel w0 F96 M ((rs23.set a3.toNat (LR.mk l20 s19)).set y95.toNat (LR.mk x115 r142h)) := All.set (All.monoLR ha73 (FLe.trans hF77 hF97) (.refl _)) ((r142q.mono (FLe.trans hF77 hF97) (.refl _)))
       refine Lst.storeS (i := 0) rfl rfl rfl rfl rfl Try.sizeOf34 (vs := [Sl.v r142h]) rfl rfl (by decide) rfl (xs' := encs ((rs23.set a3.toNat (LR.mk l20 s19)).set y95.toNat (LR.mk x115 r142h))) ((Put.elemN (s := 1) (y := (LR.mk x115 r142h)) rfl r152g (Put.here (vs := [Sl.v r142h]) rfl)).off (by omega)) (L' := (.own s_a0 34 1 (encs ((rs23.set a3.toNat (LR.mk l20 s19)).set y95.toNat (LR.mk x115 r142h)))) :: L) rfl ?_
       refine hds inv (sc1 (.refl _)) ?_
       refine HdJ.done (by kernel_rfl) ?_
       exact At.meetN (r150h, x119, p127, ((rs23.set a3.toNat (LR.mk l20 s19)).set y95.toNat (LR.mk x115 r142h))) fl ⟨rfl, rfl, rfl, rfl, trivial⟩ rfl ⟨h140, (r150q.mono (FLe.trans hF77 hF97) (.refl _)), hm153, (All.monoLR ha154 fl (.refl _))⟩
      refine HdStep.c (fun inv => ?_) trivial
      refine Lst.r (Ev.loadS (α := LR Int) rfl (rdo 0 rfl rfl rfl) Try.isAgg34 (v := Sl.v r150h) ((Get.elemN (s := 1) rfl r150g gh0).off (by omega))) ?_
      refine hds inv (sc1 (.refl _)) ?_
      refine HdJ.o1 7 (fun inv => ?_)
      refine Lst.r (Ev.loadS (α := LR Int) rfl (rdo 0 rfl rfl rfl) Try.isAgg34 (v := Sl.v r142h) ((Get.elemN (s := 1) rfl r142g gh0).off (by omega))) ?_
      refine hds inv (sc1 (.refl _)) ?_
      refine HdJ.o1 12 (fun inv => ?_)
      have g155 := lat_some h124
      obtain ⟨⟨r156v, r156h⟩, r156g, r156e, r156m⟩ := map_get hm72 g155.2.2
      obtain rfl : x123 = r156v := r156e.symm
      have r156q : Rd w0 _ _ r156h x123 := ha73 _ r156m
      refine Lst.r (Ev.indexS (α := LR Int) (xs := (rs23.set a3.toNat (LR.mk l20 s19))) rfl rfl Try.runUnderlying56 Try.sizeOf34 rfl (by decide) (rdo 0 rfl rfl rfl) g155.1 (by have := map_len hm72; omega)) ?_
      refine hds inv (sc1 (.refl _)) ?_
      refine HdJ.o1 13 (fun inv => ?_)
      have hm157 : ((rs23.set a3.toNat (LR.mk l20 s19)).set y95.toNat (LR.mk x115 r142h)).map LR.v = p127 := (map_set hm72 _ _).trans h128
      have ha158 : All LR.rel w0 F96 M ((rs23.set a3.toNat (LR.mk l20 s19)).set y95.toNat (LR.mk x115 r142h)) := All.set (All.monoLR ha73 (FLe.trans hF77 hF97) (.refl _)) ((r142q.mono (FLe.trans hF77 hF97) (.refl _)))
      refine Lst.storeS (i := 0) rfl rfl rfl rfl rfl Try.sizeOf34 (vs := [Sl.v r142h]) rfl rfl (by decide) rfl (xs' := encs ((rs23.set a3.toNat (LR.mk l20 s19)).set y95.toNat (LR.mk x115 r142h))) ((Put.elemN (s := 1) (y := (LR.mk x115 r142h)) rfl r156g (Put.here (vs := [Sl.v r142h]) rfl)).off (by omega)) (L' := (.own s_a0 34 1 (encs ((rs23.set a3.toNat (LR.mk l20 s19)).set y95.toNat (LR.mk x115 r142h)))) :: L) rfl ?_
      refine hds inv (sc1 (.refl _)) ?_
      refine HdJ.done (by kernel_rfl) ?_
      exact At.meetN (r150h, x119, p127, ((rs23.set a3.toNat (LR.mk l20 s19)).set y95.toNat (LR.mk x115 r142h))) fl ⟨rfl, rfl, rfl, rfl, trivial⟩ rfl ⟨h140, (r150q.mono (FLe.trans hF77 hF97) (.refl _)), hm157, (All.monoLR ha158 fl (.refl _))⟩
     refine HdStep.c (fun inv => ?_) trivial
     have g159 := lat_some h120
     obtain ⟨⟨r160v, r160h⟩, r160g, r160e, r160m⟩ := map_get hm72 g159.2.2
     obtain rfl : x119 = r160v := r160e.symm
     have r160q : Rd w0 _ _ r160h x119 := ha73 _ r160m
     refine Lst.r (Ev.indexS (α := LR Int) (xs := (rs23.set a3.toNat (LR.mk l20 s19))) rfl rfl Try.runUnderlying56 Try.sizeOf34 rfl (by decide) (rdo 0 rfl rfl rfl) g159.1 (by have := map_len hm72; omega)) ?_
     refine hds inv (sc1 (.refl _)) ?_
     refine HdJ.step [6, 11] (by kernel_rfl) rfl ?_
     refine HdStep.c (fun inv => ?_) ?_
     ·have g161 := lat_some h116
      obtain ⟨⟨r162v, r162h⟩, r162g, r162e, r162m⟩ := map_get hm72 g161.2.2
      obtain rfl : x115 = r162v := r162e.symm
      have r162q : Rd w0 _ _ r162h x115 := ha73 _ r162m
      refine Lst.r (Ev.indexS (α := LR Int) (xs := (rs23.set a3.toNat (LR.mk l20 s19))) rfl rfl Try.runUnderlying56 Try.sizeOf34 rfl (by decide) (rdo 0 rfl rfl rfl) g161.1 (by have := map_len hm72; omega)) ?_
      refine hds inv (sc1 (.refl _)) ?_
      refine HdJ.step [7, 11] (by kernel_rfl) rfl ?_
      refine HdStep.c (fun inv => ?_) ?_
      ·refine Lst.r (Ev.loadS (α := LR Int) rfl (rdo 0 rfl rfl rfl) Try.isAgg34 (v := Sl.v r162h) ((Get.elemN (s := 1) rfl r162g gh0).off (by omega))) ?_
       refine hds inv (sc1 (.refl _)) ?_
       refine HdJ.o1 11 (fun inv => ?_)
       refine Lst.r (Ev.loadS (α := LR Int) rfl (rdo 0 rfl rfl rfl) Try.isAgg34 (v := Sl.v r160h) ((Get.elemN (s := 1) rfl r160g gh0).off (by omega))) ?_
       refine hds inv (sc1 (.refl _)) ?_
       refine HdJ.o1 12 (fun inv => ?_)
       have g163 := lat_some h124
       obtain ⟨⟨r164v, r164h⟩, r164g, r164e, r164m⟩ := map_get hm72 g163.2.2
       obtain rfl : x123 = r164v := r164e.symm
       have r164q : Rd w0 _ _ r164h x123 := ha73 _ r164m
       refine Lst.r (Ev.indexS (α := LR Int) (xs := (rs23.set a3.toNat (LR.mk l20 s19))) rfl rfl Try.runUnderlying56 Try.sizeOf34 rfl (by decide) (rdo 0 rfl rfl rfl) g163.1 (by have := map_len hm72; omega)) ?_
       refine hds inv (sc1 (.refl _)) ?_
       refine HdJ.o1 13 (fun inv => ?_)
       have hm165 : ((rs23.set a3.toNat (LR.mk l20 s19)).set y95.toNat (LR.mk x115 r162h)).map LR.v = p127 := (map_set hm72 _ _).trans h128
       have ha166 : All LR.rel w0 F96 M ((rs23.set a3.toNat (LR.mk l20 s19)).set y95.toNat (LR.mk x115 r162h)) := All.set (All.monoLR ha73 (FLe.trans hF77 hF97) (.refl _)) ((r162q.mono (FLe.trans hF77 hF97) (.refl _)))
       refine Lst.storeS (i := 0) rfl rfl rfl rfl rfl Try.sizeOf34 (vs := [Sl.v r162h]) rfl rfl (by decide) rfl (xs' := encs ((rs23.set a3.toNat (LR.mk l20 s19)).set y95.toNat (LR.mk x115 r162h))) ((Put.elemN (s := 1) (y := (LR.mk x115 r162h)) rfl r164g (Put.here (vs := [Sl.v r162h]) rfl)).off (by omega)) (L' := (.own s_a0 34 1 (encs ((rs23.set a3.toNat (LR.mk l20 s19)).set y95.toNat (LR.mk x115 r162h)))) :: L) rfl ?_
       refine hds inv (sc1 (.refl _)) ?_
       refine HdJ.done (by kernel_rfl) ?_
       exact At.meetN (r160h, x119, p127, ((rs23.set a3.toNat (LR.mk l20 s19)).set y95.toNat (LR.mk x115 r162h))) fl ⟨rfl, rfl, rfl, rfl, trivial⟩ rfl ⟨h140, (r160q.mono (FLe.trans hF77 hF97) (.refl _)), hm165, (All.monoLR ha166 fl (.refl _))⟩
      refine HdStep.c (fun inv => ?_) trivial
      refine Lst.r (Ev.loadS (α := LR Int) rfl (rdo 0 rfl rfl rfl) Try.isAgg34 (v := Sl.v r160h) ((Get.elemN (s := 1) rfl r160g gh0).off (by omega))) ?_
      refine hds inv (sc1 (.refl _)) ?_
      refine HdJ.o1 7 (fun inv => ?_)
      refine Lst.r (Ev.loadS (α := LR Int) rfl (rdo 0 rfl rfl rfl) Try.isAgg34 (v := Sl.v r162h) ((Get.elemN (s := 1) rfl r162g gh0).off (by omega))) ?_
      refine hds inv (sc1 (.refl _)) ?_
      refine HdJ.o1 12 (fun inv => ?_)
      have g167 := lat_some h124
      obtain ⟨⟨r168v, r168h⟩, r168g, r168e, r168m⟩ := map_get hm72 g167.2.2
      obtain rfl : x123 = r168v := r168e.symm
      have r168q : Rd w0 _ _ r168h x123 := ha73 _ r168m
      refine Lst.r (Ev.indexS (α := LR Int) (xs := (rs23.set a3.toNat (LR.mk l20 s19))) rfl rfl Try.runUnderlying56 Try.sizeOf34 rfl (by decide) (rdo 0 rfl rfl rfl) g167.1 (by have := map_len hm72; omega)) ?_
      refine hds inv (sc1 (.refl _)) ?_
      refine HdJ.o1 13 (fun inv => ?_)
      have hm169 : ((rs23.set a3.toNat (LR.mk l20 s19)).set y95.toNat (LR.mk x115 r162h)).map LR.v = p127 := (map_set hm72 _ _).trans h128
      have ha170 : All LR.rel w0 F96 M ((rs23.set a3.toNat (LR.mk l20 s19)).set y95.toNat (LR.mk x115 r162h)) := All.set (All.monoLR ha73 (FLe.trans hF77 hF97) (.refl _)) ((r162q.mono (FLe.trans hF77 hF97) (.refl _)))
      refine Lst.storeS (i := 0) rfl rfl rfl rfl rfl Try.sizeOf34 (vs := [Sl.v r162h]) rfl rfl (by decide) rfl (xs' := encs ((rs23.set a3.toNat (LR.mk l20 s19)).set y95.toNat (LR.mk x115 r162h))) ((Put.elemN (s := 1) (y := (LR.mk x115 r162h)) rfl r168g (Put.here (vs := [Sl.v r162h]) rfl)).off (by omega)) (L' := (.own s_a0 34 1 (encs ((rs23.set a3.toNat (LR.mk l20 s19)).set y95.toNat (LR.mk x115 r162h)))) :: L) rfl ?_
      refine hds inv (sc1 (.refl _)) ?_
      refine HdJ.done (by kernel_rfl) ?_
      exact At.meetN (r160h, x119, p127, ((rs23.set a3.toNat (LR.mk l20 s19)).set y95.toNat (LR.mk x115 r162h))) fl ⟨rfl, rfl, rfl, rfl, trivial⟩ rfl ⟨h140, (r160q.mono (FLe.trans hF77 hF97) (.refl _)), hm169, (All.monoLR ha170 fl (.refl _))⟩
     refine HdStep.c (fun inv => ?_) trivial
     refine Lst.r (Ev.loadS (α := LR Int) rfl (rdo 0 rfl rfl rfl) Try.isAgg34 (v := Sl.v r160h) ((Get.elemN (s := 1) rfl r160g gh0).off (by omega))) ?_
     refine hds inv (sc1 (.refl _)) ?_
     refine HdJ.o1 6 (fun inv => ?_)
     have g171 := lat_some h116
     obtain ⟨⟨r172v, r172h⟩, r172g, r172e, r172m⟩ := map_get hm72 g171.2.2
     obtain rfl : x115 = r172v := r172e.symm
     have r172q : Rd w0 _ _ r172h x115 := ha73 _ r172m
     refine Lst.r (Ev.indexS (α := LR Int) (xs := (rs23.set a3.toNat (LR.mk l20 s19))) rfl rfl Try.runUnderlying56 Try.sizeOf34 rfl (by decide) (rdo 0 rfl rfl rfl) g171.1 (by have := map_len hm72; omega)) ?_
     refine hds inv (sc1 (.refl _)) ?_
     refine HdJ.o1 7 (fun inv => ?_)
     refine Lst.r (Ev.loadS (α := LR Int) rfl (rdo 0 rfl rfl rfl) Try.isAgg34 (v := Sl.v r172h) ((Get.elemN (s := 1) rfl r172g gh0).off (by omega))) ?_
     refine hds inv (sc1 (.refl _)) ?_
     refine HdJ.o1 12 (fun inv => ?_)
     have g173 := lat_some h124
     obtain ⟨⟨r174v, r174h⟩, r174g, r174e, r174m⟩ := map_get hm72 g173.2.2
     obtain rfl : x123 = r174v := r174e.symm
     have r174q : Rd w0 _ _ r174h x123 := ha73 _ r174m
     refine Lst.r (Ev.indexS (α := LR Int) (xs := (rs23.set a3.toNat (LR.mk l20 s19))) rfl rfl Try.runUnderlying56 Try.sizeOf34 rfl (by decide) (rdo 0 rfl rfl rfl) g173.1 (by have := map_len hm72; omega)) ?_
     refine hds inv (sc1 (.refl _)) ?_
     refine HdJ.o1 13 (fun inv => ?_)
     have hm175 : ((rs23.set a3.toNat (LR.mk l20 s19)).set y95.toNat (LR.mk x115 r172h)).map LR.v = p127 := (map_set hm72 _ _).trans h128
     have ha176 : All LR.rel w0 F96 M ((rs23.set a3.toNat (LR.mk l20 s19)).set y95.toNat (LR.mk x115 r172h)) := All.set (All.monoLR ha73 (FLe.trans hF77 hF97) (.refl _)) ((r172q.mono (FLe.trans hF77 hF97) (.refl _)))
     refine Lst.storeS (i := 0) rfl rfl rfl rfl rfl Try.sizeOf34 (vs := [Sl.v r172h]) rfl rfl (by decide) rfl (xs' := encs ((rs23.set a3.toNat (LR.mk l20 s19)).set y95.toNat (LR.mk x115 r172h))) ((Put.elemN (s := 1) (y := (LR.mk x115 r172h)) rfl r174g (Put.here (vs := [Sl.v r172h]) rfl)).off (by omega)) (L' := (.own s_a0 34 1 (encs ((rs23.set a3.toNat (LR.mk l20 s19)).set y95.toNat (LR.mk x115 r172h)))) :: L) rfl ?_
     refine hds inv (sc1 (.refl _)) ?_
     refine HdJ.done (by kernel_rfl) ?_
     exact At.meetN (r160h, x119, p127, ((rs23.set a3.toNat (LR.mk l20 s19)).set y95.toNat (LR.mk x115 r172h))) fl ⟨rfl, rfl, rfl, rfl, trivial⟩ rfl ⟨h140, (r160q.mono (FLe.trans hF77 hF97) (.refl _)), hm175, (All.monoLR ha176 fl (.refl _))⟩
    rintro F177 ⟨s132, l133, l135, rs136⟩ hF178 ⟨hy, f134, fm137, fa138⟩
    subst hy
    try dsimp only at H
    refine Lst.as (e' := [(13, iv y95), (74, Sl.v s_a0), (75, iv a1), (83, Sl.v s132)]) (L' := (.own s_a0 34 1 (encs rs136)) :: L) ⟨rfl, rfl, rfl, rfl, trivial⟩ rfl ?_
    obtain ⟨x179, h180, H⟩ := bind_some H
    have g181 := lat_some h180
    obtain ⟨⟨r182v, r182h⟩, r182g, r182e, r182m⟩ := map_get fm137 g181.2.2
    obtain rfl : x179 = r182v := r182e.symm
    have r182q : Rd w0 _ _ r182h x179 := fa138 _ r182m
    refine Lst.r (Ev.indexS (α := LR Int) (xs := rs136) rfl rfl Try.runUnderlying56 Try.sizeOf34 rfl (by decide) (rdo 0 rfl rfl rfl) g181.1 (by have := map_len fm137; omega)) ?_
    obtain ⟨p183, h184, H⟩ := Let_some H
    have hm185 : (rs136.set a1.toNat (LR.mk l133 s132)).map LR.v = p183 := (map_set fm137 _ _).trans h184
    have ha186 : All LR.rel w0 F177 M (rs136.set a1.toNat (LR.mk l133 s132)) := All.set (All.monoLR fa138 fl (.refl _)) ((f134.mono fl (.refl _)))
    refine Lst.storeS (i := 0) rfl rfl rfl rfl rfl Try.sizeOf34 (vs := [Sl.v s132]) rfl rfl (by decide) rfl (xs' := encs (rs136.set a1.toNat (LR.mk l133 s132))) ((Put.elemN (s := 1) (y := (LR.mk l133 s132)) rfl r182g (Put.here (vs := [Sl.v s132]) rfl)).off (by omega)) (L' := (.own s_a0 34 1 (encs (rs136.set a1.toNat (LR.mk l133 s132)))) :: L) rfl ?_
    refine nsr ?_
    refine mv0 rfl ?_
    refine Lst.r (Ev.assign rfl) ?_
    refine Lst.r (Ev.assign rfl) ?_
    refine nt0 ?_
    obtain rfl := some_inj H
    refine Cd.ret ?_
    refine At.then_ret ?_
    exact At.ret2 rfl (Res.tmp rfl) (Res.tmp rfl) (FLe.trans (FLe.trans (FLe.trans hF65 hF77) hF97) hF178) (sk1 (.refl _)) ⟨(rs136.set a1.toNat (LR.mk l133 s132)), rfl, rfl, hm185, (All.monoLR ha186 fl (.refl _))⟩
   replace H := ite_f hb114 H
   refine Cd.condF rfl hb114 ?_
   refine Cd.skip ?_
   refine At.then ?_
   refine Cd.seq ?_
   obtain ⟨x187, h188, H⟩ := bind_some H
   obtain ⟨x191, h192, H⟩ := bind_some H
   obtain ⟨x195, h196, H⟩ := bind_some H
   obtain ⟨p199, h200, H⟩ := Let_some H
   obtain ⟨o211, h212, H⟩ := Let_some H
   refine Cd.headMeet (σ := Sl × (List Int) × (List (List Int)) × (List (LR Int))) 14 (fun (s204, l205, l207, rs208) => [(0, Sl.v s_a0), (1, iv a1), (4, .func (.func 71) #[] #[]), (12, iv y75), (13, iv y95), (89, Sl.v s_a0), (90, iv y95), (98, Sl.v s204)]) (fun (s204, l205, l207, rs208) => (.own s_a0 34 1 (encs rs208)) :: L) (fun Fx (s204, l205, l207, rs208) => (l205, l207) = o211 ∧ Rd w0 Fx M s204 l205 ∧ rs208.map LR.v = l207 ∧ All LR.rel w0 Fx M rs208) (by kernel_rfl) (by kernel_rfl) (behind_sink (by kernel_rfl) (by kernel_rfl) (by kernel_rfl)) (by kernel_rfl) (fun hsel hlt => ?_) ?_
   ·refine HdJ.keep (fun w => St w0 F96 (L) w) (fun w h => trivial) ?_
    refine HdJ.ts hsel hlt 0 (sc1 (.refl _)) (Ev.move rfl) ?_
    refine HdJ.ts hsel hlt 1 (sc1 (.refl _)) (Ev.move rfl) ?_
    refine HdJ.ts hsel hlt 2 (sc1 (.refl _)) (Ev.move rfl) ?_
    refine HdJ.ts hsel hlt 3 (sc1 (.refl _)) (Ev.move rfl) ?_
    refine HdJ.ts hsel hlt 4 (sc1 (.refl _)) (Ev.move rfl) ?_
    refine HdJ.ts hsel hlt 5 (sc1 (.refl _)) (Ev.move rfl) ?_
    refine HdJ.ts hsel hlt 8 (sc1 (.refl _)) (Ev.move rfl) ?_
    refine HdJ.ts hsel hlt 9 (sc1 (.refl _)) (Ev.move rfl) ?_
    refine HdJ.step [6, 10] (by kernel_rfl) rfl ?_
    refine HdStep.c (fun inv => ?_) ?_
    ·have g213 := lat_some h188
     obtain ⟨⟨r214v, r214h⟩, r214g, r214e, r214m⟩ := map_get hm72 g213.2.2
     obtain rfl : x187 = r214v := r214e.symm
     have r214q : Rd w0 _ _ r214h x187 := ha73 _ r214m
     refine Lst.r (Ev.indexS (α := LR Int) (xs := (rs23.set a3.toNat (LR.mk l20 s19))) rfl rfl Try.runUnderlying56 Try.sizeOf34 rfl (by decide) (rdo 0 rfl rfl rfl) g213.1 (by have := map_len hm72; omega)) ?_
     refine hds inv (sc1 (.refl _)) ?_
     refine HdJ.step [7, 10] (by kernel_rfl) rfl ?_
     refine HdStep.c (fun inv => ?_) ?_
     ·refine Lst.r (Ev.loadS (α := LR Int) rfl (rdo 0 rfl rfl rfl) Try.isAgg34 (v := Sl.v r214h) ((Get.elemN (s := 1) rfl r214g gh0).off (by omega))) ?_
      refine hds inv (sc1 (.refl _)) ?_
      refine HdJ.o1 10 (fun inv => ?_)
      have g215 := lat_some h192
      obtain ⟨⟨r216v, r216h⟩, r216g, r216e, r216m⟩ := map_get hm72 g215.2.2
      obtain rfl : x191 = r216v := r216e.symm
      have r216q : Rd w0 _ _ r216h x191 := ha73 _ r216m
      refine Lst.r (Ev.indexS (α := LR Int) (xs := (rs23.set a3.toNat (LR.mk l20 s19))) rfl rfl Try.runUnderlying56 Try.sizeOf34 rfl (by decide) (rdo 0 rfl rfl rfl) g215.1 (by have := map_len hm72; omega)) ?_
      refine hds inv (sc1 (.refl _)) ?_
      refine HdJ.o1 11 (fun inv => ?_)
      refine Lst.r (Ev.loadS (α := LR Int) rfl (rdo 0 rfl rfl rfl) Try.isAgg34 (v := Sl.v r216h) ((Get.elemN (s := 1) rfl r216g gh0).off (by omega))) ?_
      refine hds inv (sc1 (.refl _)) ?_
      refine HdJ.o1 12 (fun inv => ?_)
      have g217 := lat_some h196
      obtain ⟨⟨r218v, r218h⟩, r218g, r218e, r218m⟩ := map_get hm72 g217.2.2
      obtain rfl : x195 = r218v := r218e.symm
      have r218q : Rd w0 _ _ r218h x195 := ha73 _ r218m
      refine Lst.r (Ev.indexS (α := LR Int) (xs := (rs23.set a3.toNat (LR.mk l20 s19))) rfl rfl Try.runUnderlying56 Try.sizeOf34 rfl (by decide) (rdo 0 rfl rfl rfl) g217.1 (by have := map_len hm72; omega)) ?_
      refine hds inv (sc1 (.refl _)) ?_
      refine HdJ.o1 13 (fun inv => ?_)
      have hm219 : ((rs23.set a3.toNat (LR.mk l20 s19)).set y75.toNat (LR.mk x187 r214h)).map LR.v = p199 := (map_set hm72 _ _).trans h200
      have ha220 : All LR.rel w0 F96 M ((rs23.set a3.toNat (LR.mk l20 s19)).set y75.toNat (LR.mk x187 r214h)) := All.set (All.monoLR ha73 (FLe.trans hF77 hF97) (.refl _)) ((r214q.mono (FLe.trans hF77 hF97) (.refl _)))
      refine Lst.storeS (i := 0) rfl rfl rfl rfl rfl Try.sizeOf34 (vs := [Sl.v r214h]) rfl rfl (by decide) rfl (xs' := encs ((rs23.set a3.toNat (LR.mk l20 s19)).set y75.toNat (LR.mk x187 r214h))) ((Put.elemN (s := 1) (y := (LR.mk x187 r214h)) rfl r218g (Put.here (vs := [Sl.v r214h]) rfl)).off (by omega)) (L' := (.own s_a0 34 1 (encs ((rs23.set a3.toNat (LR.mk l20 s19)).set y75.toNat (LR.mk x187 r214h)))) :: L) rfl ?_
      refine hds inv (sc1 (.refl _)) ?_
      refine HdJ.done (by kernel_rfl) ?_
      exact At.meetN (r216h, x191, p199, ((rs23.set a3.toNat (LR.mk l20 s19)).set y75.toNat (LR.mk x187 r214h))) fl ⟨rfl, rfl, rfl, rfl, rfl, rfl, rfl, rfl, trivial⟩ rfl ⟨h212, (r216q.mono (FLe.trans hF77 hF97) (.refl _)), hm219, (All.monoLR ha220 fl (.refl _))⟩
     refine HdStep.c (fun inv => ?_) trivial
     have g221 := lat_some h192
     obtain ⟨⟨r222v, r222h⟩, r222g, r222e, r222m⟩ := map_get hm72 g221.2.2
     obtain rfl : x191 = r222v := r222e.symm
     have r222q : Rd w0 _ _ r222h x191 := ha73 _ r222m
     refine Lst.r (Ev.indexS (α := LR Int) (xs := (rs23.set a3.toNat (LR.mk l20 s19))) rfl rfl Try.runUnderlying56 Try.sizeOf34 rfl (by decide) (rdo 0 rfl rfl rfl) g221.1 (by have := map_len hm72; omega)) ?_
     refine hds inv (sc1 (.refl _)) ?_
     refine HdJ.step [7, 11] (by kernel_rfl) rfl ?_
     refine HdStep.c (fun inv => ?_) ?_
     ·refine Lst.r (Ev.loadS (α := LR Int) rfl (rdo 0 rfl rfl rfl) Try.isAgg34 (v := Sl.v r214h) ((Get.elemN (s := 1) rfl r214g gh0).off (by omega))) ?_
      refine hds inv (sc1 (.refl _)) ?_
      refine HdJ.o1 11 (fun inv => ?_)
      refine Lst.r (Ev.loadS (α := LR Int) rfl (rdo 0 rfl rfl rfl) Try.isAgg34 (v := Sl.v r222h) ((Get.elemN (s := 1) rfl r222g gh0).off (by omega))) ?_
      refine hds inv (sc1 (.refl _)) ?_
      refine HdJ.o1 12 (fun inv => ?_)
      have g223 := lat_some h196
      obtain ⟨⟨r224v, r224h⟩, r224g, r224e, r224m⟩ := map_get hm72 g223.2.2
      obtain rfl : x195 = r224v := r224e.symm
      have r224q : Rd w0 _ _ r224h x195 := ha73 _ r224m
      refine Lst.r (Ev.indexS (α := LR Int) (xs := (rs23.set a3.toNat (LR.mk l20 s19))) rfl rfl Try.runUnderlying56 Try.sizeOf34 rfl (by decide) (rdo 0 rfl rfl rfl) g223.1 (by have := map_len hm72; omega)) ?_
      refine hds inv (sc1 (.refl _)) ?_
      refine HdJ.o1 13 (fun inv => ?_)
      have hm225 : ((rs23.set a3.toNat (LR.mk l20 s19)).set y75.toNat (LR.mk x187 r214h)).map LR.v = p199 := (map_set hm72 _ _).trans h200
      have ha226 : All LR.rel w0 F96 M ((rs23.set a3.toNat (LR.mk l20 s19)).set y75.toNat (LR.mk x187 r214h)) := All.set (All.monoLR ha73 (FLe.trans hF77 hF97) (.refl _)) ((r214q.mono (FLe.trans hF77 hF97) (.refl _)))
      refine Lst.storeS (i := 0) rfl rfl rfl rfl rfl Try.sizeOf34 (vs := [Sl.v r214h]) rfl rfl (by decide) rfl (xs' := encs ((rs23.set a3.toNat (LR.mk l20 s19)).set y75.toNat (LR.mk x187 r214h))) ((Put.elemN (s := 1) (y := (LR.mk x187 r214h)) rfl r224g (Put.here (vs := [Sl.v r214h]) rfl)).off (by omega)) (L' := (.own s_a0 34 1 (encs ((rs23.set a3.toNat (LR.mk l20 s19)).set y75.toNat (LR.mk x187 r214h)))) :: L) rfl ?_
      refine hds inv (sc1 (.refl _)) ?_
      refine HdJ.done (by kernel_rfl) ?_
      exact At.meetN (r222h, x191, p199, ((rs23.set a3.toNat (LR.mk l20 s19)).set y75.toNat (LR.mk x187 r214h))) fl ⟨rfl, rfl, rfl, rfl, rfl, rfl, rfl, rfl, trivial⟩ rfl ⟨h212, (r222q.mono (FLe.trans hF77 hF97) (.refl _)), hm225, (All.monoLR ha226 fl (.refl _))⟩
     refine HdStep.c (fun inv => ?_) trivial
     refine Lst.r (Ev.loadS (α := LR Int) rfl (rdo 0 rfl rfl rfl) Try.isAgg34 (v := Sl.v r222h) ((Get.elemN (s := 1) rfl r222g gh0).off (by omega))) ?_
     refine hds inv (sc1 (.refl _)) ?_
     refine HdJ.o1 7 (fun inv => ?_)
     refine Lst.r (Ev.loadS (α := LR Int) rfl (rdo 0 rfl rfl rfl) Try.isAgg34 (v := Sl.v r214h) ((Get.elemN (s := 1) rfl r214g gh0).off (by omega))) ?_
     refine hds inv (sc1 (.refl _)) ?_
     refine HdJ.o1 12 (fun inv => ?_)
     have g227 := lat_some h196
     obtain ⟨⟨r228v, r228h⟩, r228g, r228e, r228m⟩ := map_get hm72 g227.2.2
     obtain rfl : x195 = r228v := r228e.symm
     have r228q : Rd w0 _ _ r228h x195 := ha73 _ r228m
     refine Lst.r (Ev.indexS (α := LR Int) (xs := (rs23.set a3.toNat (LR.mk l20 s19))) rfl rfl Try.runUnderlying56 Try.sizeOf34 rfl (by decide) (rdo 0 rfl rfl rfl) g227.1 (by have := map_len hm72; omega)) ?_
     refine hds inv (sc1 (.refl _)) ?_
     refine HdJ.o1 13 (fun inv => ?_)
     have hm229 : ((rs23.set a3.toNat (LR.mk l20 s19)).set y75.toNat (LR.mk x187 r214h)).map LR.v = p199 := (map_set hm72 _ _).trans h200
     have ha230 : All LR.rel w0 F96 M ((rs23.set a3.toNat (LR.mk l20 s19)).set y75.toNat (LR.mk x187 r214h)) := All.set (All.monoLR ha73 (FLe.trans hF77 hF97) (.refl _)) ((r214q.mono (FLe.trans hF77 hF97) (.refl _)))
     refine Lst.storeS (i := 0) rfl rfl rfl rfl rfl Try.sizeOf34 (vs := [Sl.v r214h]) rfl rfl (by decide) rfl (xs' := encs ((rs23.set a3.toNat (LR.mk l20 s19)).set y75.toNat (LR.mk x187 r214h))) ((Put.elemN (s := 1) (y := (LR.mk x187 r214h)) rfl r228g (Put.here (vs := [Sl.v r214h]) rfl)).off (by omega)) (L' := (.own s_a0 34 1 (encs ((rs23.set a3.toNat (LR.mk l20 s19)).set y75.toNat (LR.mk x187 r214h)))) :: L) rfl ?_
     refine hds inv (sc1 (.refl _)) ?_
     refine HdJ.done (by kernel_rfl) ?_
     exact At.meetN (r222h, x191, p199, ((rs23.set a3.toNat (LR.mk l20 s19)).set y75.toNat (LR.mk x187 r214h))) fl ⟨rfl, rfl, rfl, rfl, rfl, rfl, rfl, rfl, trivial⟩ rfl ⟨h212, (r222q.mono (FLe.trans hF77 hF97) (.refl _)), hm229, (All.monoLR ha230 fl (.refl _))⟩
    refine HdStep.c (fun inv => ?_) trivial
    have g231 := lat_some h192
    obtain ⟨⟨r232v, r232h⟩, r232g, r232e, r232m⟩ := map_get hm72 g231.2.2
    obtain rfl : x191 = r232v := r232e.symm
    have r232q : Rd w0 _ _ r232h x191 := ha73 _ r232m
    refine Lst.r (Ev.indexS (α := LR Int) (xs := (rs23.set a3.toNat (LR.mk l20 s19))) rfl rfl Try.runUnderlying56 Try.sizeOf34 rfl (by decide) (rdo 0 rfl rfl rfl) g231.1 (by have := map_len hm72; omega)) ?_
    refine hds inv (sc1 (.refl _)) ?_
    refine HdJ.step [6, 11] (by kernel_rfl) rfl ?_
    refine HdStep.c (fun inv => ?_) ?_
    ·have g233 := lat_some h188
     obtain ⟨⟨r234v, r234h⟩, r234g, r234e, r234m⟩ := map_get hm72 g233.2.2
     obtain rfl : x187 = r234v := r234e.symm
     have r234q : Rd w0 _ _ r234h x187 := ha73 _ r234m
     refine Lst.r (Ev.indexS (α := LR Int) (xs := (rs23.set a3.toNat (LR.mk l20 s19))) rfl rfl Try.runUnderlying56 Try.sizeOf34 rfl (by decide) (rdo 0 rfl rfl rfl) g233.1 (by have := map_len hm72; omega)) ?_
     refine hds inv (sc1 (.refl _)) ?_
     refine HdJ.step [7, 11] (by kernel_rfl) rfl ?_
     refine HdStep.c (fun inv => ?_) ?_
     ·refine Lst.r (Ev.loadS (α := LR Int) rfl (rdo 0 rfl rfl rfl) Try.isAgg34 (v := Sl.v r234h) ((Get.elemN (s := 1) rfl r234g gh0).off (by omega))) ?_
      refine hds inv (sc1 (.refl _)) ?_
      refine HdJ.o1 11 (fun inv => ?_)
      refine Lst.r (Ev.loadS (α := LR Int) rfl (rdo 0 rfl rfl rfl) Try.isAgg34 (v := Sl.v r232h) ((Get.elemN (s := 1) rfl r232g gh0).off (by omega))) ?_
      refine hds inv (sc1 (.refl _)) ?_
      refine HdJ.o1 12 (fun inv => ?_)
      have g235 := lat_some h196
      obtain ⟨⟨r236v, r236h⟩, r236g, r236e, r236m⟩ := map_get hm72 g235.2.2
      obtain rfl : x195 = r236v := r236e.symm
      have r236q : Rd w0 _ _ r236h x195 := ha73 _ r236m
      refine Lst.r (Ev.indexS (α := LR Int) (xs := (rs23.set a3.toNat (LR.mk l20 s19))) rfl rfl Try.runUnderlying56 Try.sizeOf34 rfl (by decide) (rdo 0 rfl rfl rfl) g235.1 (by have := map_len hm72; omega)) ?_
      refine hds inv (sc1 (.refl _)) ?_
      refine HdJ.o1 13 (fun inv => ?_)
      have hm237 : ((rs23.set a3.toNat (LR.mk l20 s19)).set y75.toNat (LR.mk x187 r234h)).map LR.v = p199 := (map_set hm72 _ _).trans h200
      have ha238 : All LR.rel w0 F96 M ((rs23.set a3.toNat (LR.mk l20 s19)).set y75.toNat (LR.mk x187 r234h)) := All.set (All.monoLR ha73 (FLe.trans hF77 hF97) (.refl _)) ((r234q.mono (FLe.trans hF77 hF97) (.refl _)))
      refine Lst.storeS (i := 0) rfl rfl rfl rfl rfl Try.sizeOf34 (vs := [Sl.v r234h]) rfl rfl (by decide) rfl (xs' := encs ((rs23.set a3.toNat (LR.mk l20 s19)).set y75.toNat (LR.mk x187 r234h))) ((Put.elemN (s := 1) (y := (LR.mk x187 r234h)) rfl r236g (Put.here (vs := [Sl.v r234h]) rfl)).off (by omega)) (L' := (.own s_a0 34 1 (encs ((rs23.set a3.toNat (LR.mk l20 s19)).set y75.toNat (LR.mk x187 r234h)))) :: L) rfl ?_
      refine hds inv (sc1 (.refl _)) ?_
      refine HdJ.done (by kernel_rfl) ?_
      exact At.meetN (r232h, x191, p199, ((rs23.set a3.toNat (LR.mk l20 s19)).set y75.toNat (LR.mk x187 r234h))) fl ⟨rfl, rfl, rfl, rfl, rfl, rfl, rfl, rfl, trivial⟩ rfl ⟨h212, (r232q.mono (FLe.trans hF77 hF97) (.refl _)), hm237, (All.monoLR ha238 fl (.refl _))⟩
     refine HdStep.c (fun inv => ?_) trivial
     refine Lst.r (Ev.loadS (α := LR Int) rfl (rdo 0 rfl rfl rfl) Try.isAgg34 (v := Sl.v r232h) ((Get.elemN (s := 1) rfl r232g gh0).off (by omega))) ?_
     refine hds inv (sc1 (.refl _)) ?_
     refine HdJ.o1 7 (fun inv => ?_)
     refine Lst.r (Ev.loadS (α := LR Int) rfl (rdo 0 rfl rfl rfl) Try.isAgg34 (v := Sl.v r234h) ((Get.elemN (s := 1) rfl r234g gh0).off (by omega))) ?_
     refine hds inv (sc1 (.refl _)) ?_
     refine HdJ.o1 12 (fun inv => ?_)
     have g239 := lat_some h196
     obtain ⟨⟨r240v, r240h⟩, r240g, r240e, r240m⟩ := map_get hm72 g239.2.2
     obtain rfl : x195 = r240v := r240e.symm
     have r240q : Rd w0 _ _ r240h x195 := ha73 _ r240m
     refine Lst.r (Ev.indexS (α := LR Int) (xs := (rs23.set a3.toNat (LR.mk l20 s19))) rfl rfl Try.runUnderlying56 Try.sizeOf34 rfl (by decide) (rdo 0 rfl rfl rfl) g239.1 (by have := map_len hm72; omega)) ?_
     refine hds inv (sc1 (.refl _)) ?_
     refine HdJ.o1 13 (fun inv => ?_)
     have hm241 : ((rs23.set a3.toNat (LR.mk l20 s19)).set y75.toNat (LR.mk x187 r234h)).map LR.v = p199 := (map_set hm72 _ _).trans h200
     have ha242 : All LR.rel w0 F96 M ((rs23.set a3.toNat (LR.mk l20 s19)).set y75.toNat (LR.mk x187 r234h)) := All.set (All.monoLR ha73 (FLe.trans hF77 hF97) (.refl _)) ((r234q.mono (FLe.trans hF77 hF97) (.refl _)))
     refine Lst.storeS (i := 0) rfl rfl rfl rfl rfl Try.sizeOf34 (vs := [Sl.v r234h]) rfl rfl (by decide) rfl (xs' := encs ((rs23.set a3.toNat (LR.mk l20 s19)).set y75.toNat (LR.mk x187 r234h))) ((Put.elemN (s := 1) (y := (LR.mk x187 r234h)) rfl r240g (Put.here (vs := [Sl.v r234h]) rfl)).off (by omega)) (L' := (.own s_a0 34 1 (encs ((rs23.set a3.toNat (LR.mk l20 s19)).set y75.toNat (LR.mk x187 r234h)))) :: L) rfl ?_
     refine hds inv (sc1 (.refl _)) ?_
     refine HdJ.done (by kernel_rfl) ?_
     exact At.meetN (r232h, x191, p199, ((rs23.set a3.toNat (LR.mk l20 s19)).set y75.toNat (LR.mk x187 r234h))) fl ⟨rfl, rfl, rfl, rfl, rfl, rfl, rfl, rfl, trivial⟩ rfl ⟨h212, (r232q.mono (FLe.trans hF77 hF97) (.refl _)), hm241, (All.monoLR ha242 fl (.refl _))⟩
    refine HdStep.c (fun inv => ?_) trivial
    refine Lst.r (Ev.loadS (α := LR Int) rfl (rdo 0 rfl rfl rfl) Try.isAgg34 (v := Sl.v r232h) ((Get.elemN (s := 1) rfl r232g gh0).off (by omega))) ?_
    refine hds inv (sc1 (.refl _)) ?_
    refine HdJ.o1 6 (fun inv => ?_)
    have g243 := lat_some h188
    obtain ⟨⟨r244v, r244h⟩, r244g, r244e, r244m⟩ := map_get hm72 g243.2.2
    obtain rfl : x187 = r244v := r244e.symm
    have r244q : Rd w0 _ _ r244h x187 := ha73 _ r244m
    refine Lst.r (Ev.indexS (α := LR Int) (xs := (rs23.set a3.toNat (LR.mk l20 s19))) rfl rfl Try.runUnderlying56 Try.sizeOf34 rfl (by decide) (rdo 0 rfl rfl rfl) g243.1 (by have := map_len hm72; omega)) ?_
    refine hds inv (sc1 (.refl _)) ?_
    refine HdJ.o1 7 (fun inv => ?_)
    refine Lst.r (Ev.loadS (α := LR Int) rfl (rdo 0 rfl rfl rfl) Try.isAgg34 (v := Sl.v r244h) ((Get.elemN (s := 1) rfl r244g gh0).off (by omega))) ?_
    refine hds inv (sc1 (.refl _)) ?_
    refine HdJ.o1 12 (fun inv => ?_)
    have g245 := lat_some h196
    obtain ⟨⟨r246v, r246h⟩, r246g, r246e, r246m⟩ := map_get hm72 g245.2.2
    obtain rfl : x195 = r246v := r246e.symm
    have r246q : Rd w0 _ _ r246h x195 := ha73 _ r246m
    refine Lst.r (Ev.indexS (α := LR Int) (xs := (rs23.set a3.toNat (LR.mk l20 s19))) rfl rfl Try.runUnderlying56 Try.sizeOf34 rfl (by decide) (rdo 0 rfl rfl rfl) g245.1 (by have := map_len hm72; omega)) ?_
    refine hds inv (sc1 (.refl _)) ?_
    refine HdJ.o1 13 (fun inv => ?_)
    have hm247 : ((rs23.set a3.toNat (LR.mk l20 s19)).set y75.toNat (LR.mk x187 r244h)).map LR.v = p199 := (map_set hm72 _ _).trans h200
    have ha248 : All LR.rel w0 F96 M ((rs23.set a3.toNat (LR.mk l20 s19)).set y75.toNat (LR.mk x187 r244h)) := All.set (All.monoLR ha73 (FLe.trans hF77 hF97) (.refl _)) ((r244q.mono (FLe.trans hF77 hF97) (.refl _)))
    refine Lst.storeS (i := 0) rfl rfl rfl rfl rfl Try.sizeOf34 (vs := [Sl.v r244h]) rfl rfl (by decide) rfl (xs' := encs ((rs23.set a3.toNat (LR.mk l20 s19)).set y75.toNat (LR.mk x187 r244h))) ((Put.elemN (s := 1) (y := (LR.mk x187 r244h)) rfl r246g (Put.here (vs := [Sl.v r244h]) rfl)).off (by omega)) (L' := (.own s_a0 34 1 (encs ((rs23.set a3.toNat (LR.mk l20 s19)).set y75.toNat (LR.mk x187 r244h)))) :: L) rfl ?_
    refine hds inv (sc1 (.refl _)) ?_
    refine HdJ.done (by kernel_rfl) ?_
    exact At.meetN (r232h, x191, p199, ((rs23.set a3.toNat (LR.mk l20 s19)).set y75.toNat (LR.mk x187 r244h))) fl ⟨rfl, rfl, rfl, rfl, rfl, rfl, rfl, rfl, trivial⟩ rfl ⟨h212, (r232q.mono (FLe.trans hF77 hF97) (.refl _)), hm247, (All.monoLR ha248 fl (.refl _))⟩
   rintro F249 ⟨s204, l205, l207, rs208⟩ hF250 ⟨hy, f206, fm209, fa210⟩
   subst hy
   try dsimp only at H
   refine Lst.as (e' := [(0, Sl.v s_a0), (1, iv a1), (4, .func (.func 71) #[] #[]), (12, iv y75), (13, iv y95), (89, Sl.v s_a0), (90, iv y95), (98, Sl.v s204)]) (L' := (.own s_a0 34 1 (encs rs208)) :: L) ⟨rfl, rfl, rfl, rfl, rfl, rfl, rfl, rfl, trivial⟩ rfl ?_
   obtain ⟨x251, h252, H⟩ := bind_some H
   have g253 := lat_some h252
   obtain ⟨⟨r254v, r254h⟩, r254g, r254e, r254m⟩ := map_get fm209 g253.2.2
   obtain rfl : x251 = r254v := r254e.symm
   have r254q : Rd w0 _ _ r254h x251 := fa210 _ r254m
   refine Lst.r (Ev.indexS (α := LR Int) (xs := rs208) rfl rfl Try.runUnderlying56 Try.sizeOf34 rfl (by decide) (rdo 0 rfl rfl rfl) g253.1 (by have := map_len fm209; omega)) ?_
   obtain ⟨p255, h256, H⟩ := Let_some H
   have hm257 : (rs208.set y95.toNat (LR.mk l205 s204)).map LR.v = p255 := (map_set fm209 _ _).trans h256
   have ha258 : All LR.rel w0 F249 M (rs208.set y95.toNat (LR.mk l205 s204)) := All.set (All.monoLR fa210 fl (.refl _)) ((f206.mono fl (.refl _)))
   refine Lst.storeS (i := 0) rfl rfl rfl rfl rfl Try.sizeOf34 (vs := [Sl.v s204]) rfl rfl (by decide) rfl (xs' := encs (rs208.set y95.toNat (LR.mk l205 s204))) ((Put.elemN (s := 1) (y := (LR.mk l205 s204)) rfl r254g (Put.here (vs := [Sl.v s204]) rfl)).off (by omega)) (L' := (.own s_a0 34 1 (encs (rs208.set y95.toNat (LR.mk l205 s204)))) :: L) rfl ?_
   refine nsr ?_
   refine mv0 rfl ?_
   refine Lst.r (Ev.add rfl rfl) ?_
   refine Lst.r (Ev.assign rfl) ?_
   refine nsr ?_
   refine mv0 rfl ?_
   refine Lst.r (Ev.sub rfl rfl) ?_
   refine Lst.r (Ev.assign rfl) ?_
   refine nt0 ?_
   refine Cd.seq ?_
   refine Cd.block ?_
   obtain ⟨ol259, H, HKl259⟩ := andThen_some H
   refine Cd.loop (σ := Nat × Int × Int × (List (List Int)) × (List (LR Int))) (fun (k259, y260, y261, l262, rs263) => [(0, Sl.v s_a0), (1, iv a1), (4, .func (.func 71) #[] #[]), (12, iv y260), (13, iv y261)]) (fun (k259, y260, y261, l262, rs263) => (.own s_a0 34 1 (encs rs263)) :: L) (fun Fx => (fun (k259, y260, y261, l262, rs263) => whileM (slices_partitionCmpFunc_int_Chains_1_B4 fu a1) k259 (y260, y261, l262) = some ol259 ∧ rs263.map LR.v = l262 ∧ All LR.rel w0 Fx M rs263)) (fun (k259, y260, y261, l262, rs263) => k259) (fu, w64 (y75 + (1 : Int)), w64 (y95 - (1 : Int)), p255, (rs208.set y95.toNat (LR.mk l205 s204))) ⟨rfl, rfl, rfl, rfl, rfl, trivial⟩ rfl ⟨H, hm257, (All.monoLR ha258 fl (.refl _))⟩ ?_
   rintro F266 ⟨k259, y260, y261, l262, rs263⟩ hF267 ⟨H, fm264, fa265⟩
   refine Cd.as (e' := [(0, Sl.v s_a0), (1, iv a1), (4, .func (.func 71) #[] #[]), (12, iv y260), (13, iv y261)]) (L' := (.own s_a0 34 1 (encs rs263)) :: L) ⟨rfl, rfl, rfl, rfl, rfl, trivial⟩ rfl ?_
   rcases k259 with _ | k259
   ·cases H
   obtain ⟨c259, H, hgo259, hbrk259, hret259⟩ := whileM_go H
   unfold slices_partitionCmpFunc_int_Chains_1_B4 at H
   try dsimp only at H
   refine Cd.block ?_
   refine Cd.seq ?_
   refine Cd.block ?_
   obtain ⟨ol268, H, HKl268⟩ := andThen_some H
   refine Cd.loop (σ := Nat × Int) (fun (k268, y269) => [(0, Sl.v s_a0), (1, iv a1), (4, .func (.func 71) #[] #[]), (12, iv y269), (13, iv y261)]) (fun (k268, y269) => (.own s_a0 34 1 (encs rs263)) :: L) (fun _ => (fun (k268, y269) => whileM (slices_partitionCmpFunc_int_Chains_1_B6 a1 y261 l262) k268 y269 = some ol268)) (fun (k268, y269) => k268) (fu, y260) ⟨rfl, rfl, rfl, rfl, rfl, trivial⟩ rfl H ?_
   rintro F270 ⟨k268, y269⟩ hF271 H
   refine Cd.as (e' := [(0, Sl.v s_a0), (1, iv a1), (4, .func (.func 71) #[] #[]), (12, iv y269), (13, iv y261)]) (L' := (.own s_a0 34 1 (encs rs263)) :: L) ⟨rfl, rfl, rfl, rfl, rfl, trivial⟩ rfl ?_
   rcases k268 with _ | k268
   ·cases H
   obtain ⟨c268, H, hgo268, hbrk268, hret268⟩ := whileM_go H
   unfold slices_partitionCmpFunc_int_Chains_1_B6 at H
   try dsimp only at H
   refine Cd.seq ?_
   refine Cd.seq ?_
   refine Cd.quiet (by kernel_rfl) (by kernel_rfl) ?_
   refine Qt.r (Ev.move rfl) ?_
   refine Qt.r (Ev.move rfl) ?_
   refine Qt.r (Ev.leq rfl rfl) ?_
   refine Qt.r (Ev.move rfl) ?_
   obtain ⟨o272, H, HKo272⟩ := bind_some H
   refine Qt.join (σ := Bool) 12 (fun y273 => [(0, Sl.v s_a0), (1, iv a1), (4, .func (.func 71) #[] #[]), (12, iv y269), (13, iv y261), (120, .bool y273)]) (fun y273 => y273 = o272) ?_ ?_
   ·rcases (Bool.eq_false_or_eq_true (decide (y269 ≤ y261))).symm with hb274 | hb274
    ·replace H := ite_f hb274 H
     refine Qt.skip rfl rfl rfl hb274 rfl (by decide) ?_
     refine Qt.skip rfl rfl rfl hb274 rfl (by decide) ?_
     refine Qt.skip rfl rfl rfl hb274 rfl (by decide) ?_
     refine Qt.skip rfl rfl rfl hb274 rfl (by decide) ?_
     refine Qt.skip rfl rfl rfl hb274 rfl (by decide) ?_
     refine Qt.skip rfl rfl rfl hb274 rfl (by decide) ?_
     refine Qt.skip rfl rfl rfl hb274 rfl (by decide) ?_
     refine Qt.skip rfl rfl rfl hb274 rfl (by decide) ?_
     refine Qt.skip rfl rfl rfl hb274 rfl (by decide) ?_
     refine Qt.skip rfl rfl rfl hb274 rfl (by decide) ?_
     refine Qt.skip rfl rfl rfl hb274 rfl (by decide) ?_
     refine Qt.r (Ev.pickF rfl hb274 rfl) ?_
     exact Qt.meet false ⟨rfl, rfl, rfl, rfl, rfl, rfl, trivial⟩ (some_inj H)
    replace H := ite_t hb274 H
    refine Qt.rG hb274 (Ev.move rfl) ?_
    refine Qt.rG hb274 (Ev.move rfl) ?_
    refine Qt.rG hb274 (Ev.move rfl) ?_
    obtain ⟨x275, h276, H⟩ := bind_some H
    have g277 := lat_some h276
    obtain ⟨⟨r278v, r278h⟩, r278g, r278e, r278m⟩ := map_get fm264 g277.2.2
    obtain rfl : x275 = r278v := r278e.symm
    have r278q : Rd w0 _ _ r278h x275 := fa265 _ r278m
    refine Qt.rG hb274 (Ev.indexS (α := LR Int) (xs := rs263) rfl rfl Try.runUnderlying56 Try.sizeOf34 rfl (by decide) (rdo 0 rfl rfl rfl) g277.1 (by have := map_len fm264; omega)) ?_
    refine Qt.rG hb274 (Ev.loadS (α := LR Int) rfl (rdo 0 rfl rfl rfl) Try.isAgg34 (v := Sl.v r278h) ((Get.elemN (s := 1) rfl r278g gh0).off (by omega))) ?_
    refine Qt.rG hb274 (Ev.move rfl) ?_
    refine Qt.rG hb274 (Ev.move rfl) ?_
    obtain ⟨x279, h280, H⟩ := bind_some H
    have g281 := lat_some h280
    obtain ⟨⟨r282v, r282h⟩, r282g, r282e, r282m⟩ := map_get fm264 g281.2.2
    obtain rfl : x279 = r282v := r282e.symm
    have r282q : Rd w0 _ _ r282h x279 := fa265 _ r282m
    refine Qt.rG hb274 (Ev.indexS (α := LR Int) (xs := rs263) rfl rfl Try.runUnderlying56 Try.sizeOf34 rfl (by decide) (rdo 0 rfl rfl rfl) g281.1 (by have := map_len fm264; omega)) ?_
    refine Qt.rG hb274 (Ev.loadS (α := LR Int) rfl (rdo 0 rfl rfl rfl) Try.isAgg34 (v := Sl.v r282h) ((Get.elemN (s := 1) rfl r282g gh0).off (by omega))) ?_
    obtain ⟨r283, h284, H⟩ := bind_some H
    refine Qt.callVG rfl rfl rfl hb274 rfl (by decide) (vs := [Sl.v r278h, Sl.v r282h]) (cs := []) rfl ⟨rfl, rfl, trivial⟩ Try.call71 (poset_Chains_1_sim h284 w0 _ M _ (sc1 hM) (r278q.mono hF271 (.refl _)) (r282q.mono hF271 (.refl _))) ?_
    refine Qt.rG hb274 (Ev.lss rfl rfl) ?_
    refine Qt.r (Ev.pickT rfl hb274 rfl) ?_
    exact Qt.meet (decide (r283 < (0 : Int))) ⟨rfl, rfl, rfl, rfl, rfl, rfl, trivial⟩ (some_inj H)
   rintro y273 hy
   subst hy
   refine Qt.as (e' := [(0, Sl.v s_a0), (1, iv a1), (4, .func (.func 71) #[] #[]), (12, iv y269), (13, iv y261), (120, .bool y273)]) ⟨rfl, rfl, rfl, rfl, rfl, rfl, trivial⟩ ?_
   replace H := HKo272
   refine Qt.done ?_
   refine At.then ?_
   rcases (Bool.eq_false_or_eq_true y273).symm with hb287 | hb287
   ·replace H := ite_f hb287 H
    refine Cd.condF rfl hb287 ?_
    refine Cd.exit ?_
    refine At.then_exit ?_
    refine At.then_exit ?_
    refine At.in_exit ?_
    have H := hbrk268 _ (some_inj H).symm
    subst H
    replace H := HKl268
    refine At.then ?_
    refine Cd.seq ?_
    refine Cd.block ?_
    obtain ⟨ol288, H, HKl288⟩ := andThen_some H
    refine Cd.loop (σ := Nat × Int) (fun (k288, y289) => [(0, Sl.v s_a0), (1, iv a1), (4, .func (.func 71) #[] #[]), (12, iv y269), (13, iv y289)]) (fun (k288, y289) => (.own s_a0 34 1 (encs rs263)) :: L) (fun _ => (fun (k288, y289) => whileM (slices_partitionCmpFunc_int_Chains_1_B8 a1 l262 y269) k288 y289 = some ol288)) (fun (k288, y289) => k288) (fu, y261) ⟨rfl, rfl, rfl, rfl, rfl, trivial⟩ rfl H ?_
    rintro F290 ⟨k288, y289⟩ hF291 H
    refine Cd.as (e' := [(0, Sl.v s_a0), (1, iv a1), (4, .func (.func 71) #[] #[]), (12, iv y269), (13, iv y289)]) (L' := (.own s_a0 34 1 (encs rs263)) :: L) ⟨rfl, rfl, rfl, rfl, rfl, trivial⟩ rfl ?_
    rcases k288 with _ | k288
    ·cases H
    obtain ⟨c288, H, hgo288, hbrk288, hret288⟩ := whileM_go H
    unfold slices_partitionCmpFunc_int_Chains_1_B8 at H
    try dsimp only at H
    refine Cd.seq ?_
    refine Cd.seq ?_
    refine Cd.quiet (by kernel_rfl) (by kernel_rfl) ?_
    refine Qt.r (Ev.move rfl) ?_
    refine Qt.r (Ev.move rfl) ?_
    refine Qt.r (Ev.leq rfl rfl) ?_
    refine Qt.r (Ev.move rfl) ?_
    obtain ⟨o292, H, HKo292⟩ := bind_some H
    refine Qt.join (σ := Bool) 13 (fun y293 => [(0, Sl.v s_a0), (1, iv a1), (4, .func (.func 71) #[] #[]), (12, iv y269), (13, iv y289), (139, .bool y293)]) (fun y293 => y293 = o292) ?_ ?_
    ·rcases (Bool.eq_false_or_eq_true (decide (y269 ≤ y289))).symm with hb294 | hb294
     ·replace H := ite_f hb294 H
      refine Qt.skip rfl rfl rfl hb294 rfl (by decide) ?_
      refine Qt.skip rfl rfl rfl hb294 rfl (by decide) ?_
      refine Qt.skip rfl rfl rfl hb294 rfl (by decide) ?_
      refine Qt.skip rfl rfl rfl hb294 rfl (by decide) ?_
      refine Qt.skip rfl rfl rfl hb294 rfl (by decide) ?_
      refine Qt.skip rfl rfl rfl hb294 rfl (by decide) ?_
      refine Qt.skip rfl rfl rfl hb294 rfl (by decide) ?_
      refine Qt.skip rfl rfl rfl hb294 rfl (by decide) ?_
      refine Qt.skip rfl rfl rfl hb294 rfl (by decide) ?_
      refine Qt.skip rfl rfl rfl hb294 rfl (by decide) ?_
      refine Qt.skip rfl rfl rfl hb294 rfl (by decide) ?_
      refine Qt.skip rfl rfl rfl hb294 rfl (by decide) ?_
      refine Qt.r (Ev.pickF rfl hb294 rfl) ?_
      exact Qt.meet false ⟨rfl, rfl, rfl, rfl, rfl, rfl, trivial⟩ (some_inj H)
     replace H := ite_t hb294 H
     refine Qt.rG hb294 (Ev.move rfl) ?_
     refine Qt.rG hb294 (Ev.move rfl) ?_
     refine Qt.rG hb294 (Ev.move rfl) ?_
     obtain ⟨x295, h296, H⟩ := bind_some H
     have g297 := lat_some h296
     obtain ⟨⟨r298v, r298h⟩, r298g, r298e, r298m⟩ := map_get fm264 g297.2.2
     obtain rfl : x295 = r298v := r298e.symm
     have r298q : Rd w0 _ _ r298h x295 := fa265 _ r298m
     refine Qt.rG hb294 (Ev.indexS (α := LR Int) (xs := rs263) rfl rfl Try.runUnderlying56 Try.sizeOf34 rfl (by decide) (rdo 0 rfl rfl rfl) g297.1 (by have := map_len fm264; omega)) ?_
     refine Qt.rG hb294 (Ev.loadS (α := LR Int) rfl (rdo 0 rfl rfl rfl) Try.isAgg34 (v := Sl.v r298h) ((Get.elemN (s := 1) rfl r298g gh0).off (by omega))) ?_
     refine Qt.rG hb294 (Ev.move rfl) ?_
     refine Qt.rG hb294 (Ev.move rfl) ?_
     obtain ⟨x299, h300, H⟩ := bind_some H
     have g301 := lat_some h300
     obtain ⟨⟨r302v, r302h⟩, r302g, r302e, r302m⟩ := map_get fm264 g301.2.2
     obtain rfl : x299 = r302v := r302e.symm
     have r302q : Rd w0 _ _ r302h x299 := fa265 _ r302m
     refine Qt.rG hb294 (Ev.indexS (α := LR Int) (xs := rs263) rfl rfl Try.runUnderlying56 Try.sizeOf34 rfl (by decide) (rdo 0 rfl rfl rfl) g301.1 (by have := map_len fm264; omega)) ?_
     refine Qt.rG hb294 (Ev.loadS (α := LR Int) rfl (rdo 0 rfl rfl rfl) Try.isAgg34 (v := Sl.v r302h) ((Get.elemN (s := 1) rfl r302g gh0).off (by omega))) ?_
     obtain ⟨r303, h304, H⟩ := bind_some H
     refine Qt.callVG rfl rfl rfl hb294 rfl (by decide) (vs := [Sl.v r298h, Sl.v r302h]) (cs := []) rfl ⟨rfl, rfl, trivial⟩ Try.call71 (poset_Chains_1_sim h304 w0 _ M _ (sc1 hM) (r298q.mono (FLe.trans hF271 hF291) (.refl _)) (r302q.mono (FLe.trans hF271 hF291) (.refl _))) ?_
     refine Qt.rG hb294 (Ev.lss rfl rfl) ?_
     refine Qt.rG hb294 (Ev.not rfl) ?_
     refine Qt.r (Ev.pickT rfl hb294 rfl) ?_
     exact Qt.meet (!(decide (r303 < (0 : Int)))) ⟨rfl, rfl, rfl, rfl, rfl, rfl, trivial⟩ (some_inj H)
    rintro y293 hy
    subst hy
    refine Qt.as (e' := [(0, Sl.v s_a0), (1, iv a1), (4, .func (.func 71) #[] #[]), (12, iv y269), (13, iv y289), (139, .bool y293)]) ⟨rfl, rfl, rfl, rfl, rfl, rfl, trivial⟩ ?_
    replace H := HKo292
    refine Qt.done ?_
    refine At.then ?_
    rcases (Bool.eq_false_or_eq_true y293).symm with hb307 | hb307
    ·replace H := ite_f hb307 H
     refine Cd.condF rfl hb307 ?_
     refine Cd.exit ?_
     refine At.then_exit ?_
     refine At.then_exit ?_
     refine At.in_exit ?_
     have H := hbrk288 _ (some_inj H).symm
     subst H
     replace H := HKl288
     refine At.then ?_
     refine Cd.seq ?_
     refine sr0 ?_
     refine mv0 rfl ?_
     refine mv0 rfl ?_
     refine Lst.r (Ev.gtr rfl rfl) ?_
     refine nt0 ?_
     rcases Bool.eq_false_or_eq_true (decide (y269 > y289)) with hb308 | hb308
     ·replace H := ite_t hb308 H
      refine Cd.condT rfl hb308 ?_
      refine Cd.exit ?_
      refine At.then_exit ?_
      refine At.in_other rfl ?_
      refine At.then_exit ?_
      refine At.in_exit ?_
      have H := hbrk259 _ (some_inj H).symm
      subst H
      replace H := HKl259
      try dsimp only [Sum.elim_inl] at H
      refine At.then ?_
      refine Cd.seq ?_
      obtain ⟨x309, h310, H⟩ := bind_some H
      obtain ⟨x313, h314, H⟩ := bind_some H
      obtain ⟨x317, h318, H⟩ := bind_some H
      obtain ⟨p321, h322, H⟩ := Let_some H
      obtain ⟨o333, h334, H⟩ := Let_some H
      refine Cd.headMeet (σ := Sl × (List Int) × (List (List Int)) × (List (LR Int))) 14 (fun (s326, l327, l329, rs330) => [(13, iv y289), (165, Sl.v s_a0), (166, iv a1), (174, Sl.v s326)]) (fun (s326, l327, l329, rs330) => (.own s_a0 34 1 (encs rs330)) :: L) (fun Fx (s326, l327, l329, rs330) => (l327, l329) = o333 ∧ Rd w0 Fx M s326 l327 ∧ rs330.map LR.v = l329 ∧ All LR.rel w0 Fx M rs330) (by kernel_rfl) (by kernel_rfl) (behind_sink (by kernel_rfl) (by kernel_rfl) (by kernel_rfl)) (by kernel_rfl) (fun hsel hlt => ?_) ?_
      ·refine HdJ.keep (fun w => St w0 F290 (L) w) (fun w h => trivial) ?_
       refine HdJ.ts hsel hlt 0 (sc1 (.refl _)) (Ev.move rfl) ?_
       refine HdJ.ts hsel hlt 1 (sc1 (.refl _)) (Ev.move rfl) ?_
       refine HdJ.ts hsel hlt 2 (sc1 (.refl _)) (Ev.move rfl) ?_
       refine HdJ.ts hsel hlt 3 (sc1 (.refl _)) (Ev.move rfl) ?_
       refine HdJ.ts hsel hlt 4 (sc1 (.refl _)) (Ev.move rfl) ?_
       refine HdJ.ts hsel hlt 5 (sc1 (.refl _)) (Ev.move rfl) ?_
       refine HdJ.ts hsel hlt 8 (sc1 (.refl _)) (Ev.move rfl) ?_
       refine HdJ.ts hsel hlt 9 (sc1 (.refl _)) (Ev.move rfl) ?_
       refine HdJ.step [6, 10] (by kernel_rfl) rfl ?_
       refine HdStep.c (fun inv => ?_) ?_
       ·have g335 := lat_some h310
        obtain ⟨⟨r336v, r336h⟩, r336g, r336e, r336m⟩ := map_get fm264 g335.2.2
        obtain rfl : x309 = r336v := r336e.symm
        have r336q : Rd w0 _ _ r336h x309 := fa265 _ r336m
        refine Lst.r (Ev.indexS (α := LR Int) (xs := rs263) rfl rfl Try.runUnderlying56 Try.sizeOf34 rfl (by decide) (rdo 0 rfl rfl rfl) g335.1 (by have := map_len fm264; omega)) ?_
        refine hds inv (sc1 (.refl _)) ?_
        refine HdJ.step [7, 10] (by kernel_rfl) rfl ?_
        refine HdStep.c (fun inv => ?_) ?_
        ·refine Lst.r (Ev.loadS (α := LR Int) rfl (rdo 0 rfl rfl rfl) Try.isAgg34 (v := Sl.v r336h) ((Get.elemN (s := 1) rfl r336g gh0).off (by omega))) ?_
         refine hds inv (sc1 (.refl _)) ?_
         refine HdJ.o1 10 (fun inv => ?_)
         have g337 := lat_some h314
         obtain ⟨⟨r338v, r338h⟩, r338g, r338e, r338m⟩ := map_get fm264 g337.2.2
         obtain rfl : x313 = r338v := r338e.symm
         have r338q : Rd w0 _ _ r338h x313 := fa265 _ r338m
         refine Lst.r (Ev.indexS (α := LR Int) (xs := rs263) rfl rfl Try.runUnderlying56 Try.sizeOf34 rfl (by decide) (rdo 0 rfl rfl rfl) g337.1 (by have := map_len fm264; omega)) ?_
         refine hds inv (sc1 (.refl _)) ?_
         refine HdJ.o1 11 (fun inv => ?_)
         refine Lst.r (Ev.loadS (α := LR Int) rfl (rdo 0 rfl rfl rfl) Try.isAgg34 (v := Sl.v r338h) ((Get.elemN (s := 1) rfl r338g gh0).off (by omega))) ?_
         refine hds inv (sc1 (.refl _)) ?_
         refine HdJ.o1 12 (fun inv => ?_)
         have g339 := lat_some h318
         obtain ⟨⟨r340v, r340h⟩, r340g, r340e, r340m⟩ := map_get fm264 g339.2.2
         obtain rfl : x317 = r340v := r340e.symm
         have r340q : Rd w0 _ _ r340h x317 := fa265 _ r340m
         refine Lst.r (Ev.indexS (α := LR Int) (xs := rs263) rfl rfl Try.runUnderlying56 Try.sizeOf34 rfl (by decide) (rdo 0 rfl rfl rfl) g339.1 (by have := map_len fm264; omega)) ?_
         refine hds inv (sc1 (.refl _)) ?_
         refine HdJ.o1 13 (fun inv => ?_)
         have hm341 : (rs263.set y289.toNat (LR.mk x309 r336h)).map LR.v = p321 := (map_set fm264 _ _).trans h322
         have ha342 : All LR.rel w0 F290 M (rs263.set y289.toNat (LR.mk x309 r336h)) := All.set (All.monoLR fa265 (FLe.trans hF271 hF291) (.refl _)) ((r336q.mono (FLe.trans hF271 hF291) (.refl _)))
         refine Lst.storeS (i := 0) rfl rfl rfl rfl rfl Try.sizeOf34 (vs := [Sl.v r336h]) rfl rfl (by decide) rfl (xs' := encs (rs263.set y289.toNat (LR.mk x309 r336h))) ((Put.elemN (s := 1) (y := (LR.mk x309 r336h)) rfl r340g (Put.here (vs := [Sl.v r336h]) rfl)).off (by omega)) (L' := (.own s_a0 34 1 (encs (rs263.set y289.toNat (LR.mk x309 r336h)))) :: L) rfl ?_
         refine hds inv (sc1 (.refl _)) ?_
         refine HdJ.done (by kernel_rfl) ?_
         exact At.meetN (r338h, x313, p321, (rs263.set y289.toNat (LR.mk x309 r336h))) fl ⟨rfl, rfl, rfl, rfl, trivial⟩ rfl ⟨h334, (r338q.mono (FLe.trans hF271 hF291) (.refl _)), hm341, (All.monoLR ha342 fl (.refl _))⟩
        refine HdStep.c (fun inv => ?_) trivial
        have g343 := lat_some h314
        obtain ⟨⟨r344v, r344h⟩, r344g, r344e, r344m⟩ := map_get fm264 g343.2.2
        obtain rfl : x313 = r344v := r344e.symm
        have r344q : Rd w0 _ _ r344h x313 := fa265 _ r344m
        refine Lst.r (Ev.indexS (α := LR Int) (xs := rs263) rfl rfl Try.runUnderlying56 Try.sizeOf34 rfl (by decide) (rdo 0 rfl rfl rfl) g343.1 (by have := map_len fm264; omega)) ?_
        refine hds inv (sc1 (.refl _)) ?_
        refine HdJ.step [7, 11] (by kernel_rfl) rfl ?_
        refine HdStep.c (fun inv => ?_) ?_
        ·refine Lst.r (Ev.loadS (α := LR Int) rfl (rdo 0 rfl rfl rfl) Try.isAgg34 (v := Sl.v r336h) ((Get.elemN (s := 1) rfl r336g gh0).off (by omega))) ?_
         refine hds inv (sc1 (.refl _)) ?_
         refine HdJ.o1 11 (fun inv => ?_)
         refine Lst.r (Ev.loadS (α := LR Int) rfl (rdo 0 rfl rfl rfl) Try.isAgg34 (v := Sl.v r344h) ((Get.elemN (s := 1) rfl r344g gh0).off (by omega))) ?_
         refine hds inv (sc1 (.refl _)) ?_
         refine HdJ.o1 12 (fun inv => ?_)
         have g345 := lat_some h318
         obtain ⟨⟨r346v, r346h⟩, r346g, r346e, r346m⟩ := map_get fm264 g345.2.2
         obtain rfl : x317 = r346v := r346e.symm
         have r346q : Rd w0 _ _ r346h x317 := fa265 _ r346m
         refine Lst.r (Ev.indexS (α := LR Int) (xs := rs263) rfl rfl Try.runUnderlying56 Try.sizeOf34 rfl (by decide) (rdo 0 rfl rfl rfl) g345.1 (by have := map_len fm264; omega)) ?_
         refine hds inv (sc1 (.refl _)) ?_
         refine HdJ.o1 13 (fun inv => ?_)
         have hm347 : (rs263.set y289.toNat (LR.mk x309 r336h)).map LR.v = p321 := (map_set fm264 _ _).trans h322
         have ha348 : All LR.rel w0 F290 M (rs263.set y289.toNat (LR.mk x309 r336h)) := All.set (All.monoLR fa265 (FLe.trans hF271 hF291) (.refl _)) ((r336q.mono (FLe.trans hF271 hF291) (.refl _)))
         refine Lst.storeS (i := 0) rfl rfl rfl rfl rfl Try.sizeOf34 (vs := [Sl.v r336h]) rfl rfl (by decide) rfl (xs' := encs (rs263.set y289.toNat (LR.mk x309 r336h))) ((Put.elemN (s := 1) (y := (LR.mk x309 r336h)) rfl r346g (Put.here (vs := [Sl.v r336h]) rfl)).off (by omega)) (L' := (.own s_a0 34 1 (encs (rs263.set y289.toNat (LR.mk x309 r336h)))) :: L) rfl ?_
         refine hds inv (sc1 (.refl _)) ?_
         refine HdJ.done (by kernel_rfl) ?_
         exact At.meetN (r344h, x313, p321, (rs263.set y289.toNat (LR.mk x309 r336h))) fl ⟨rfl, rfl, rfl, rfl, trivial⟩ rfl ⟨h334, (r344q.mono (FLe.trans hF271 hF291) (.refl _)), hm347, (All.monoLR ha348 fl (.refl _))⟩
        refine HdStep.c (fun inv => ?_) trivial
        refine Lst.r (Ev.loadS (α := LR Int) rfl (rdo 0 rfl rfl rfl) Try.isAgg34 (v := Sl.v r344h) ((Get.elemN (s := 1) rfl r344g gh0).off (by omega))) ?_
        refine hds inv (sc1 (.refl _)) ?_
        refine HdJ.o1 7 (fun inv => ?_)
        refine Lst.r (Ev.loadS (α := LR Int) rfl (rdo 0 rfl rfl rfl) Try.isAgg34 (v := Sl.v r336h) ((Get.elemN (s := 1) rfl r336g gh0).off (by omega))) ?_
        refine hds inv (sc1 (.refl _)) ?_
        refine HdJ.o1 12 (fun inv => ?_)
        have g349 := lat_some h318
        obtain ⟨⟨r350v, r350h⟩, r350g, r350e, r350m⟩ := map_get fm264 g349.2.2
        obtain rfl : x317 = r350v := r350e.symm
        have r350q : Rd w0 _ _ r350h x317 := fa265 _ r350m
        refine Lst.r (Ev.indexS (α := LR Int) (xs := rs263) rfl rfl Try.runUnderlying56 Try.sizeOf34 rfl (by decide) (rdo 0 rfl rfl rfl) g349.1 (by have := map_len fm264; omega)) ?_
        refine hds inv (sc1 (.refl _)) ?_
        refine HdJ.o1 13 (fun inv => ?_)
        have hm351 : (rs263.set y289.toNat (LR.mk x309 r336h)).map LR.v = p321 := (map_set fm264 _ _).trans h322
        have ha352 : All LR.rel w0 F290 M (rs263.set y289.toNat (LR.mk x309 r336h)) := All.set (All.monoLR fa265 (FLe.trans hF271 hF291) (.refl _)) ((r336q.mono (FLe.trans hF271 hF291) (.refl _)))
        refine Lst.storeS (i := 0) rfl rfl rfl rfl rfl Try.sizeOf34 (vs := [Sl.v r336h]) rfl rfl (by decide) rfl (xs' := encs (rs263.set y289.toNat (LR.mk x309 r336h))) ((Put.elemN (s := 1) (y := (LR.mk x309 r336h)) rfl r350g (Put.here (vs := [Sl.v r336h]) rfl)).off (by omega)) (L' := (.own s_a0 34 1 (encs (rs263.set y289.toNat (LR.mk x309 r336h)))) :: L) rfl ?_
        refine hds inv (sc1 (.refl _)) ?_
        refine HdJ.done (by kernel_rfl) ?_
        exact At.meetN (r344h, x313, p321, (rs263.set y289.toNat (LR.mk x309 r336h))) fl ⟨rfl, rfl, rfl, rfl, trivial⟩ rfl ⟨h334, (r344q.mono (FLe.trans hF271 hF291) (.refl _)), hm351, (All.monoLR ha352 fl (.refl _))⟩
       refine HdStep.c (fun inv => ?_) trivial
       have g353 := lat_some h314
       obtain ⟨⟨r354v, r354h⟩, r354g, r354e, r354m⟩ := map_get fm264 g353.2.2
       obtain rfl : x313 = r354v := r354e.symm
       have r354q : Rd w0 _ _ r354h x313 := fa265 _ r354m
       refine Lst.r (Ev.indexS (α := LR Int) (xs := rs263) rfl rfl Try.runUnderlying56 Try.sizeOf34 rfl (by decide) (rdo 0 rfl rfl rfl) g353.1 (by have := map_len fm264; omega)) ?_
       refine hds inv (sc1 (.refl _)) ?_
       refine HdJ.step [6, 11] (by kernel_rfl) rfl ?_
       refine HdStep.c (fun inv => ?_) ?_
       ·have g355 := lat_some h310
        obtain ⟨⟨r356v, r356h⟩, r356g, r356e, r356m⟩ := map_get fm264 g355.2.2
        obtain rfl : x309 = r356v := r356e.symm
        have r356q : Rd w0 _ _ r356h x309 := fa265 _ r356m
        refine Lst.r (Ev.indexS (α := LR Int) (xs := rs263) rfl rfl Try.runUnderlying56 Try.sizeOf34 rfl (by decide) (rdo 0 rfl rfl rfl) g355.1 (by have := map_len fm264; omega)) ?_
        refine hds inv (sc1 (.refl _)) ?_
        refine HdJ.step [7, 11] (by kernel_rfl) rfl ?_
        refine HdStep.c (fun inv => ?_) ?_
        ·refine Lst.r (Ev.loadS (α := LR Int) rfl (rdo 0 rfl rfl rfl) Try.isAgg34 (v := Sl.v r356h) ((Get.elemN (s := 1) rfl r356g gh0).off (by omega))) ?_
         refine hds inv (sc1 (.refl _)) ?_
         refine HdJ.o1 11 (fun inv => ?_)
         refine Lst.r (Ev.loadS (α := LR Int) rfl (rdo 0 rfl rfl rfl) Try.isAgg34 (v := Sl.v r354h) ((Get.elemN (s := 1) rfl r354g gh0).off (by omega))) ?_
         refine hds inv (sc1 (.refl _)) ?_
         refine HdJ.o1 12 (fun inv => ?_)
         have g357 := lat_some h318
         obtain ⟨⟨r358v, r358h⟩, r358g, r358e, r358m⟩ := map_get fm264 g357.2.2
         obtain rfl : x317 = r358v := r358e.symm
         have r358q : Rd w0 _ _ r358h x317 := fa265 _ r358m
         refine Lst.r (Ev.indexS (α := LR Int) (xs := rs263) rfl rfl Try.runUnderlying56 Try.sizeOf34 rfl (by decide) (rdo 0 rfl rfl rfl) g357.1 (by have := map_len fm264; omega)) ?_
         refine hds inv (sc1 (.refl _)) ?_
         refine HdJ.o1 13 (fun inv => ?_)
         have hm359 : (rs263.set y289.toNat (LR.mk x309 r356h)).map LR.v = p321 := (map_set fm264 _ _).trans h322
         have ha360 : All LR.rel w0 F290 M (rs263.set y289.toNat (LR.mk x309 r356h)) := All.set (All.monoLR fa265 (FLe.trans hF271 hF291) (.refl _)) ((r356q.mono (FLe.trans hF271 hF291) (.refl _)))
         refine Lst.storeS (i := 0) rfl rfl rfl rfl rfl Try.sizeOf34 (vs := [Sl.v r356h]) rfl rfl (by decide) rfl (xs' := encs (rs263.set y289.toNat (LR.mk x309 r356h))) ((Put.elemN (s := 1) (y := (LR.mk x309 r356h)) rfl r358g (Put.here (vs := [Sl.v r356h]) rfl)).off (by omega)) (L' := (.own s_a0 34 1 (encs (rs263.set y289.toNat (LR.mk x309 r356h)))) :: L) rfl ?_
         refine hds inv (sc1 (.refl _)) ?_
         refine HdJ.done (by kernel_rfl) ?_
         exact At.meetN (r354h, x313, p321, (rs263.set y289.toNat (LR.mk x309 r356h))) fl ⟨rfl, rfl, rfl, rfl, trivial⟩ rfl ⟨h334, (r354q.mono (FLe.trans hF271 hF291) (.refl _)), hm359, (All.monoLR ha360 fl (.refl _))⟩
        refine HdStep.c (fun inv => ?_) trivial
        refine Lst.r (Ev.loadS (α := LR Int) rfl (rdo 0 rfl rfl rfl) Try.isAgg34 (v := Sl.v r354h) ((Get.elemN (s := 1) rfl r354g gh0).off (by omega))) ?_
        refine hds inv (sc1 (.refl _)) ?_
        refine HdJ.o1 7 (fun inv => ?_)
        refine Lst.r (Ev.loadS (α := LR Int) rfl (rdo 0 rfl rfl rfl) Try.isAgg34 (v := Sl.v r356h) ((Get.elemN (s := 1) rfl r356g gh0).off (by omega))) ?_
        refine hds inv (sc1 (.refl _)) ?_
        refine HdJ.o1 12 (fun inv => ?_)
        have g361 := lat_some h318
        obtain ⟨⟨r362v, r362h⟩, r362g, r362e, r362m⟩ := map_get fm264 g361.2.2
        obtain rfl : x317 = r362v := r362e.symm
        have r362q : Rd w0 _ _ r362h x317 := fa265 _ r362m
        refine Lst.r (Ev.indexS (α := LR Int) (xs := rs263) rfl rfl Try.runUnderlying56 Try.sizeOf34 rfl (by decide) (rdo 0 rfl rfl rfl) g361.1 (by have := map_len fm264; omega)) ?_
        refine hds inv (sc1 (.refl _)) ?_
        refine HdJ.o1 13 (fun inv => ?_)
        have hm363 : (rs263.set y289.toNat (LR.mk x309 r356h)).map LR.v = p321 := (map_set fm264 _ _).trans h322
        have ha364 : All LR.rel w0 F290 M (rs263.set y289.toNat (LR.mk x309 r356h)) := All.set (All.monoLR fa265 (FLe.trans hF271 hF291) (.refl _)) ((r356q.mono (FLe.trans hF271 hF291) (.refl _)))
        refine Lst.storeS (i := 0) rfl rfl rfl rfl rfl Try.sizeOf34 (vs := [Sl.v r356h]) rfl rfl (by decide) rfl (xs' := encs (rs263.set y289.toNat (LR.mk x309 r356h))) ((Put.elemN (s := 1) (y := (LR.mk x309 r356h)) rfl r362g (Put.here (vs := [Sl.v r356h]) rfl)).off (by omega)) (L' := (.own s_a0 34 1 (encs (rs263.set y289.toNat (LR.mk x309 r356h)))) :: L) rfl ?_
        refine hds inv (sc1 (.refl _)) ?_
        refine HdJ.done (by kernel_rfl) ?_
        exact At.meetN (r354h, x313, p321, (rs263.set y289.toNat (LR.mk x309 r356h))) fl ⟨rfl, rfl, rfl, rfl, trivial⟩ rfl ⟨h334, (r354q.mono (FLe.trans hF271 hF291) (.refl _)), hm363, (All.monoLR ha364 fl (.refl _))⟩
       refine HdStep.c (fun inv => ?_) trivial
       refine Lst.r (Ev.loadS (α := LR Int) rfl (rdo 0 rfl rfl rfl) Try.isAgg34 (v := Sl.v r354h) ((Get.elemN (s := 1) rfl r354g gh0).off (by omega))) ?_
       refine hds inv (sc1 (.refl _)) ?_
       refine HdJ.o1 6 (fun inv => ?_)
       have g365 := lat_some h310
       obtain ⟨⟨r366v, r366h⟩, r366g, r366e, r366m⟩ := map_get fm264 g365.2.2
       obtain rfl : x309 = r366v := r366e.symm
       have r366q : Rd w0 _ _ r366h x309 := fa265 _ r366m
       refine Lst.r (Ev.indexS (α := LR Int) (xs := rs263) rfl rfl Try.runUnderlying56 Try.sizeOf34 rfl (by decide) (rdo 0 rfl rfl rfl) g365.1 (by have := map_len fm264; omega)) ?_
       refine hds inv (sc1 (.refl _)) ?_
       refine HdJ.o1 7 (fun inv => ?_)
       refine Lst.r (Ev.loadS (α := LR Int) rfl (rdo 0 rfl rfl rfl) Try.isAgg34 (v := Sl.v r366h) ((Get.elemN (s := 1) rfl r366g gh0).off (by omega))) ?_
       refine hds inv (sc1 (.refl _)) ?_
       refine HdJ.o1 12 (fun inv => ?_)
       have g367 := lat_some h318
       obtain ⟨⟨r368v, r368h⟩, r368g, r368e, r368m⟩ := map_get fm264 g367.2.2
       obtain rfl : x317 = r368v := r368e.symm
       have r368q : Rd w0 _ _ r368h x317 := fa265 _ r368m
       refine Lst.r (Ev.indexS (α := LR Int) (xs := rs263) rfl rfl Try.runUnderlying56 Try.sizeOf34 rfl (by decide) (rdo 0 rfl rfl rfl) g367.1 (by have := map_len fm264; omega)) ?_
       refine hds inv (sc1 (.refl _)) ?_
       refine HdJ.o1 13 (fun inv => ?_)
       have hm369 : (rs263.set y289.toNat (LR.mk x309 r366h)).map LR.v = p321 := (map_set fm264 _ _).trans h322
       have ha370 : All LR.rel w0 F290 M (rs263.set y289.toNat (LR.mk x309 r366h)) := All.set (All.monoLR fa265 (FLe.trans hF271 hF291) (.refl _)) ((r366q.mono (FLe.trans hF271 hF291) (.refl _)))
       refine Lst.storeS (i := 0) rfl rfl rfl rfl rfl Try.sizeOf34 (vs := [Sl.v r366h]) rfl rfl (by decide) rfl (xs' := encs (rs263.set y289.toNat (LR.mk x309 r366h))) ((Put.elemN (s := 1) (y := (LR.mk x309 r366h)) rfl r368g (Put.here (vs := [Sl.v r366h]) rfl)).off (by omega)) (L' := (.own s_a0 34 1 (encs (rs263.set y289.toNat (LR.mk x309 r366h)))) :: L) rfl ?_
       refine hds inv (sc1 (.refl _)) ?_
       refine HdJ.done (by kernel_rfl) ?_
       exact At.meetN (r354h, x313, p321, (rs263.set y289.toNat (LR.mk x309 r366h))) fl ⟨rfl, rfl, rfl, rfl, trivial⟩ rfl ⟨h334, (r354q.mono (FLe.trans hF271 hF291) (.refl _)), hm369, (All.monoLR ha370 fl (.refl _))⟩
      rintro F371 ⟨s326, l327, l329, rs330⟩ hF372 ⟨hy, f328, fm331, fa332⟩
      subst hy
      try dsimp only at H
      refine Lst.as (e' := [(13, iv y289), (165, Sl.v s_a0), (166, iv a1), (174, Sl.v s326)]) (L' := (.own s_a0 34 1 (encs rs330)) :: L) ⟨rfl, rfl, rfl, rfl, trivial⟩ rfl ?_
      obtain ⟨x373, h374, H⟩ := bind_some H
      have g375 := lat_some h374
      obtain ⟨⟨r376v, r376h⟩, r376g, r376e, r376m⟩ := map_get fm331 g375.2.2
      obtain rfl : x373 = r376v := r376e.symm
      have r376q : Rd w0 _ _ r376h x373 := fa332 _ r376m
      refine Lst.r (Ev.indexS (α := LR Int) (xs := rs330) rfl rfl Try.runUnderlying56 Try.sizeOf34 rfl (by decide) (rdo 0 rfl rfl rfl) g375.1 (by have := map_len fm331; omega)) ?_
      obtain ⟨p377, h378, H⟩ := Let_some H
      have hm379 : (rs330.set a1.toNat (LR.mk l327 s326)).map LR.v = p377 := (map_set fm331 _ _).trans h378
      have ha380 : All LR.rel w0 F371 M (rs330.set a1.toNat (LR.mk l327 s326)) := All.set (All.monoLR fa332 fl (.refl _)) ((f328.mono fl (.refl _)))
      refine Lst.storeS (i := 0) rfl rfl rfl rfl rfl Try.sizeOf34 (vs := [Sl.v s326]) rfl rfl (by decide) rfl (xs' := encs (rs330.set a1.toNat (LR.mk l327 s326))) ((Put.elemN (s := 1) (y := (LR.mk l327 s326)) rfl r376g (Put.here (vs := [Sl.v s326]) rfl)).off (by omega)) (L' := (.own s_a0 34 1 (encs (rs330.set a1.toNat (LR.mk l327 s326)))) :: L) rfl ?_
      refine nsr ?_
      refine mv0 rfl ?_
      refine Lst.r (Ev.assign rfl) ?_
      refine Lst.r (Ev.assign rfl) ?_
      refine nt0 ?_
      obtain rfl := some_inj H
      refine Cd.ret ?_
      exact At.ret2 rfl (Res.tmp rfl) (Res.tmp rfl) (FLe.trans (FLe.trans (FLe.trans (FLe.trans (FLe.trans (FLe.trans (FLe.trans hF65 hF77) hF97) hF250) hF267) hF271) hF291) hF372) (sk1 (.refl _)) ⟨(rs330.set a1.toNat (LR.mk l327 s326)), rfl, rfl, hm379, (All.monoLR ha380 fl (.refl _))⟩
     replace H := ite_f hb308 H
     refine Cd.condF rfl hb308 ?_
     refine Cd.skip ?_
     refine At.then ?_
     refine Cd.seq ?_
     obtain ⟨x381, h382, H⟩ := bind_some H
     obtain ⟨x385, h386, H⟩ := bind_some H
     obtain ⟨x389, h390, H⟩ := bind_some H
     obtain ⟨p393, h394, H⟩ := Let_some H
     obtain ⟨o405, h406, H⟩ := Let_some H
     refine Cd.headMeet (σ := Sl × (List Int) × (List (List Int)) × (List (LR Int))) 14 (fun (s398, l399, l401, rs402) => [(0, Sl.v s_a0), (1, iv a1), (4, .func (.func 71) #[] #[]), (12, iv y269), (13, iv y289), (147, Sl.v s_a0), (148, iv y289), (156, Sl.v s398)]) (fun (s398, l399, l401, rs402) => (.own s_a0 34 1 (encs rs402)) :: L) (fun Fx (s398, l399, l401, rs402) => (l399, l401) = o405 ∧ Rd w0 Fx M s398 l399 ∧ rs402.map LR.v = l401 ∧ All LR.rel w0 Fx M rs402) (by kernel_rfl) (by kernel_rfl) (behind_sink (by kernel_rfl) (by kernel_rfl) (by kernel_rfl)) (by kernel_rfl) (fun hsel hlt => ?_) ?_
     ·refine HdJ.keep (fun w => St w0 F290 (L) w) (fun w h => trivial) ?_
      refine HdJ.ts hsel hlt 0 (sc1 (.refl _)) (Ev.move rfl) ?_
      refine HdJ.ts hsel hlt 1 (sc1 (.refl _)) (Ev.move rfl) ?_
      refine HdJ.ts hsel hlt 2 (sc1 (.refl _)) (Ev.move rfl) ?_
      refine HdJ.ts hsel hlt 3 (sc1 (.refl _)) (Ev.move rfl) ?_
      refine HdJ.ts hsel hlt 4 (sc1 (.refl _)) (Ev.move rfl) ?_
      refine HdJ.ts hsel hlt 5 (sc1 (.refl _)) (Ev.move rfl) ?_
      refine HdJ.ts hsel hlt 8 (sc1 (.refl _)) (Ev.move rfl) ?_
      refine HdJ.ts hsel hlt 9 (sc1 (.refl _)) (Ev.move rfl) ?_
      refine HdJ.step [6, 10] (by kernel_rfl) rfl ?_
      refine HdStep.c (fun inv => ?_) ?_
      ·have g407 := lat_some h382
       obtain ⟨⟨r408v, r408h⟩, r408g, r408e, r408m⟩ := map_get fm264 g407.2.2
       obtain rfl : x381 = r408v := r408e.symm
       have r408q : Rd w0 _ _ r408h x381 := fa265 _ r408m
       refine Lst.r (Ev.indexS (α := LR Int) (xs := rs263) rfl rfl Try.runUnderlying56 Try.sizeOf34 rfl (by decide) (rdo 0 rfl rfl rfl) g407.1 (by have := map_len fm264; omega)) ?_
       refine hds inv (sc1 (.refl _)) ?_
       refine HdJ.step [7, 10] (by kernel_rfl) rfl ?_
       refine HdStep.c (fun inv => ?_) ?_
       ·refine Lst.r (Ev.loadS (α := LR Int) rfl (rdo 0 rfl rfl rfl) Try.isAgg34 (v := Sl.v r408h) ((Get.elemN (s := 1) rfl r408g gh0).off (by omega))) ?_
        refine hds inv (sc1 (.refl _)) ?_
        refine HdJ.o1 10 (fun inv => ?_)
        have g409 := lat_some h386
        obtain ⟨⟨r410v, r410h⟩, r410g, r410e, r410m⟩ := map_get fm264 g409.2.2
        obtain rfl : x385 = r410v := r410e.symm
        have r410q : Rd w0 _ _ r410h x385 := fa265 _ r410m
        refine Lst.r (Ev.indexS (α := LR Int) (xs := rs263) rfl rfl Try.runUnderlying56 Try.sizeOf34 rfl (by decide) (rdo 0 rfl rfl rfl) g409.1 (by have := map_len fm264; omega)) ?_
        refine hds inv (sc1 (.refl _)) ?_
        refine HdJ.o1 11 (fun inv => ?_)
        refine Lst.r (Ev.loadS (α := LR Int) rfl (rdo 0 rfl rfl rfl) Try.isAgg34 (v := Sl.v r410h) ((Get.elemN (s := 1) rfl r410g gh0).off (by omega))) ?_
        refine hds inv (sc1 (.refl _)) ?_
        refine HdJ.o1 12 (fun inv => ?_)
        have g411 := lat_some h390
        obtain ⟨⟨r412v, r412h⟩, r412g, r412e, r412m⟩ := map_get fm264 g411.2.2
        obtain rfl : x389 = r412v := r412e.symm
        have r412q : Rd w0 _ _ r412h x389 := fa265 _ r412m
        refine Lst.r (Ev.indexS (α := LR Int) (xs := rs263) rfl rfl Try.runUnderlying56 Try.sizeOf34 rfl (by decide) (rdo 0 rfl rfl rfl) g411.1 (by have := map_len fm264; omega)) ?_
        refine hds inv (sc1 (.refl _)) ?_
        refine HdJ.o1 13 (fun inv => ?_)
        have hm413 : (rs263.set y269.toNat (LR.mk x381 r408h)).map LR.v = p393 := (map_set fm264 _ _).trans h394
        have ha414 : All LR.rel w0 F290 M (rs263.set y269.toNat (LR.mk x381 r408h)) := All.set (All.monoLR fa265 (FLe.trans hF271 hF291) (.refl _)) ((r408q.mono (FLe.trans hF271 hF291) (.refl _)))
        refine Lst.storeS (i := 0) rfl rfl rfl rfl rfl Try.sizeOf34 (vs := [Sl.v r408h]) rfl rfl (by decide) rfl (xs' := encs (rs263.set y269.toNat (LR.mk x381 r408h))) ((Put.elemN (s := 1) (y := (LR.mk x381 r408h)) rfl r412g (Put.here (vs := [Sl.v r408h]) rfl)).off (by omega)) (L' := (.own s_a0 34 1 (encs (rs263.set y269.toNat (LR.mk x381 r408h)))) :: L) rfl ?_
        refine hds inv (sc1 (.refl _)) ?_
        refine HdJ.done (by kernel_rfl) ?_
        exact At.meetN (r410h, x385, p393, (rs263.set y269.toNat (LR.mk x381 r408h))) fl ⟨rfl, rfl, rfl, rfl, rfl, rfl, rfl, rfl, trivial⟩ rfl ⟨h406, (r410q.mono (FLe.trans hF271 hF291) (.refl _)), hm413, (All.monoLR ha414 fl (.refl _))⟩
       refine HdStep.c (fun inv => ?_) trivial
       have g415 := lat_some h386
       obtain ⟨⟨r416v, r416h⟩, r416g, r416e, r416m⟩ := map_get fm264 g415.2.2
       obtain rfl : x385 = r416v := r416e.symm
       have r416q : Rd w0 _ _ r416h x385 := fa265 _ r416m
       refine Lst.r (Ev.indexS (α := LR Int) (xs := rs263) rfl rfl Try.runUnderlying56 Try.sizeOf34 rfl (by decide) (rdo 0 rfl rfl rfl) g415.1 (by have := map_len fm264; omega)) ?_
       refine hds inv (sc1 (.refl _)) ?_
       refine HdJ.step [7, 11] (by kernel_rfl) rfl ?_
       refine HdStep.c (fun inv => ?_) ?_
       ·refine Lst.r (Ev.loadS (α := LR Int) rfl (rdo 0 rfl rfl rfl) Try.isAgg34 (v := Sl.v r408h) ((Get.elemN (s := 1) rfl r408g gh0).off (by omega))) ?_
        refine hds inv (sc1 (.refl _)) ?_
        refine HdJ.o1 11 (fun inv => ?_)
        refine Lst.r (Ev.loadS (α := LR Int) rfl (rdo 0 rfl rfl rfl) Try.isAgg34 (v := Sl.v r416h) ((Get.elemN (s := 1) rfl r416g gh0).off (by omega))) ?_
        refine hds inv (sc1 (.refl _)) ?_
        refine HdJ.o1 12 (fun inv => ?_)
        have g417 := lat_some h390
        obtain ⟨⟨r418v, r418h⟩, r418g, r418e, r418m⟩ := map_get fm264 g417.2.2
        obtain rfl : x389 = r418v := r418e.symm
        have r418q : Rd w0 _ _ r418h x389 := fa265 _ r418m
        refine Lst.r (Ev.indexS (α := LR Int) (xs := rs263) rfl rfl Try.runUnderlying56 Try.sizeOf34 rfl (by decide) (rdo 0 rfl rfl rfl) g417.1 (by have := map_len fm264; omega)) ?_
        refine hds inv (sc1 (.refl _)) ?_
        refine HdJ.o1 13 (fun inv => ?_)
        have hm419 : (rs263.set y269.toNat (LR.mk x381 r408h)).map LR.v = p393 := (map_set fm264 _ _).trans h394
        have ha420 : All LR.rel w0 F290 M (rs263.set y269.toNat (LR.mk x381 r408h)) := All.set (All.monoLR fa265 (FLe.trans hF271 hF291) (.refl _)) ((r408q.mono (FLe.trans hF271 hF291) (.refl _)))
        refine Lst.storeS (i := 0) rfl rfl rfl rfl rfl Try.sizeOf34 (vs := [Sl.v r408h]) rfl rfl (by decide) rfl (xs' := encs (rs263.set y269.toNat (LR.mk x381 r408h))) ((Put.elemN (s := 1) (y := (LR.mk x381 r408h)) rfl r418g (Put.here (vs := [Sl.v r408h]) rfl)).off (by omega)) (L' := (.own s_a0 34 1 (encs (rs263.set y269.toNat (LR.mk x381 r408h)))) :: L) rfl ?_
        refine hds inv (sc1 (.refl _)) ?_
        refine HdJ.done (by kernel_rfl) ?_
        exact At.meetN (r416h, x385, p393, (rs263.set y269.toNat (LR.mk x381 r408h))) fl ⟨rfl, rfl, rfl, rfl, rfl, rfl, rfl, rfl, trivial⟩ rfl ⟨h406, (r416q.mono (FLe.trans hF271 hF291) (.refl _)), hm419, (All.monoLR ha420 fl (.refl _))⟩
       refine HdStep.c (fun inv => ?_) trivial
       refine Lst.r (Ev.loadS (α := LR Int) rfl (rdo 0 rfl rfl rfl) Try.isAgg34 (v := Sl.v r416h) ((Get.elemN (s := 1) rfl r416g gh0).off (by omega))) ?_
       refine hds inv (sc1 (.refl _)) ?_
       refine HdJ.o1 7 (fun inv => ?_)
       refine Lst.r (Ev.loadS (α := LR Int) rfl (rdo 0 rfl rfl rfl) Try.isAgg34 (v := Sl.v r408h) ((Get.elemN (s := 1) rfl r408g gh0).off (by omega))) ?_
       refine hds inv (sc1 (.refl _)) ?_
       refine HdJ.o1 12 (fun inv => ?_)
       have g421 := lat_some h390
       obtain ⟨⟨r422v, r422h⟩, r422g, r422e, r422m⟩ := map_get fm264 g421.2.2
       obtain rfl : x389 = r422v := r422e.symm
       have r422q : Rd w0 _ _ r422h x389 := fa265 _ r422m
       refine Lst.r (Ev.indexS (α := LR Int) (xs := rs263) rfl rfl Try.runUnderlying56 Try.sizeOf34 rfl (by decide) (rdo 0 rfl rfl rfl) g421.1 (by have := map_len fm264; omega)) ?_
       refine hds inv (sc1 (.refl _)) ?_
       refine HdJ.o1 13 (fun inv => ?_)
       have hm423 : (rs263.set y269.toNat (LR.mk x381 r408h)).map LR.v = p393 := (map_set fm264 _ _).trans h394
       have ha424 : All LR.rel w0 F290 M (rs263.set y269.toNat (LR.mk x381 r408h)) := All.set (All.monoLR fa265 (FLe.trans hF271 hF291) (.refl _)) ((r408q.mono (FLe.trans hF271 hF291) (.refl _)))
       refine Lst.storeS (i := 0) rfl rfl rfl rfl rfl Try.sizeOf34 (vs := [Sl.v r408h]) rfl rfl (by decide) rfl (xs' := encs (rs263.set y269.toNat (LR.mk x381 r408h))) ((Put.elemN (s := 1) (y := (LR.mk x381 r408h)) rfl r422g (Put.here (vs := [Sl.v r408h]) rfl)).off (by omega)) (L' := (.own s_a0 34 1 (encs (rs263.set y269.toNat (LR.mk x381 r408h)))) :: L) rfl ?_
       refine hds inv (sc1 (.refl _)) ?_
       refine HdJ.done (by kernel_rfl) ?_
       exact At.meetN (r416h, x385, p393, (rs263.set y269.toNat (LR.mk x381 r408h))) fl ⟨rfl, rfl, rfl, rfl, rfl, rfl, rfl, rfl, trivial⟩ rfl ⟨h406, (r416q.mono (FLe.trans hF271 hF291) (.refl _)), hm423, (All.monoLR ha424 fl (.refl _))⟩
      refine HdStep.c (fun inv => ?_) trivial
      have g425 := lat_some h386
      obtain ⟨⟨r426v, r426h⟩, r426g, r426e, r426m⟩ := map_get fm264 g425.2.2
      obtain rfl : x385 = r426v := r426e.symm
      have r426q : Rd w0 _ _ r426h x385 := fa265 _ r426m
      refine Lst.r (Ev.indexS (α := LR Int) (xs := rs263) rfl rfl Try.runUnderlying56 Try.sizeOf34 rfl (by decide) (rdo 0 rfl rfl rfl) g425.1 (by have := map_len fm264; omega)) ?_
      refine hds inv (sc1 (.refl _)) ?_
      refine HdJ.step [6, 11] (by kernel_rfl) rfl ?_
      refine HdStep.c (fun inv => ?_) ?_
      ·have g427 := lat_some h382
       obtain ⟨⟨r428v, r428h⟩, r428g, r428e, r428m⟩ := map_get fm264 g427.2.2
       obtain rfl : x381 = r428v := r428e.symm
       have r428q : Rd w0 _ _ r428h x381 := fa265 _ r428m
       refine Lst.r (Ev.indexS (α := LR Int) (xs := rs263) rfl rfl Try.runUnderlying56 Try.sizeOf34 rfl (by decide) (rdo 0 rfl rfl rfl) g427.1 (by have := map_len fm264; omega)) ?_
       refine hds inv (sc1 (.refl _)) ?_
       refine HdJ.step [7, 11] (by kernel_rfl) rfl ?_
       refine HdStep.c (fun inv => ?_) ?_
       ·refine Lst.r (Ev.loadS (α := LR Int) rfl (rdo 0 rfl rfl rfl) Try.isAgg34 (v := Sl.v r428h) ((Get.elemN (s := 1) rfl r428g gh0).off (by omega))) ?_
        refine hds inv (sc1 (.refl _)) ?_
        refine HdJ.o1 11 (fun inv => ?_)
        refine Lst.r (Ev.loadS (α := LR Int) rfl (rdo 0 rfl rfl rfl) Try.isAgg34 (v := Sl.v r426h) ((Get.elemN (s := 1) rfl r426g gh0).off (by omega))) ?_
        refine hds inv (sc1 (.refl _)) ?_
        refine HdJ.o1 12 (fun inv => ?_)
        have g429 := lat_some h390
        obtain ⟨⟨r430v, r430h⟩, r430g, r430e, r430m⟩ := map_get fm264 g429.2.2
        obtain rfl : x389 = r430v := r430e.symm
        have r430q : Rd w0 _ _ r430h x389 := fa265 _ r430m
        refine Lst.r (Ev.indexS (α := LR Int) (xs := rs263) rfl rfl Try.runUnderlying56 Try.sizeOf34 rfl (by decide) (rdo 0 rfl rfl rfl) g429.1 (by have := map_len fm264; omega)) ?_
        refine hds inv (sc1 (.refl _)) ?_
        refine HdJ.o1 13 (fun inv => ?_)
        have hm431 : (rs263.set y269.toNat (LR.mk x381 r428h)).map LR.v = p393 := (map_set fm264 _ _).trans h394
        have ha432 : All LR.rel w0 F290 M (rs263.set y269.toNat (LR.mk x381 r428h)) := All.set (All.monoLR fa265 (FLe.trans hF271 hF291) (.refl _)) ((r428q.mono (FLe.trans hF271 hF291) (.refl _)))
        refine Lst.storeS (i := 0) rfl rfl rfl rfl rfl Try.sizeOf34 (vs := [Sl.v r428h]) rfl rfl (by decide) rfl (xs' := encs (rs263.set y269.toNat (LR.mk x381 r428h))) ((Put.elemN (s := 1) (y := (LR.mk x381 r428h)) rfl r430g (Put.here (vs := [Sl.v r428h]) rfl)).off (by omega)) (L' := (.own s_a0 34 1 (encs (rs263.set y269.toNat (LR.mk x381 r428h)))) :: L) rfl ?_
        refine hds inv (sc1 (.refl _)) ?_
        refine HdJ.done (by kernel_rfl) ?_
        exact At.meetN (r426h, x385, p393, (rs263.set y269.toNat (LR.mk x381 r428h))) fl ⟨rfl, rfl, rfl, rfl, rfl, rfl, rfl, rfl, trivial⟩ rfl ⟨h406, (r426q.mono (FLe.trans hF271 hF291) (.refl _)), hm431, (All.monoLR ha432 fl (.refl _))⟩
       refine HdStep.c (fun inv => ?_) trivial
       refine Lst.r (Ev.loadS (α := LR Int) rfl (rdo 0 rfl rfl rfl) Try.isAgg34 (v := Sl.v r426h) ((Get.elemN (s := 1) rfl r426g gh0).off (by omega))) ?_
       refine hds inv (sc1 (.refl _)) ?_
       refine HdJ.o1 7 (fun inv => ?_)
       refine Lst.r (Ev.loadS (α := LR Int) rfl (rdo 0 rfl rfl rfl) Try.isAgg34 (v := Sl.v r428h) ((Get.elemN (s := 1) rfl r428g gh0).off (by omega))) ?_
       refine hds inv (sc1 (.refl _)) ?_
       refine HdJ.o1 12 (fun inv => ?_)
       have g433 := lat_some h390
       obtain ⟨⟨r434v, r434h⟩, r434g, r434e, r434m⟩ := map_get fm264 g433.2.2
       obtain rfl : x389 = r434v := r434e.symm
       have r434q : Rd w0 _ _ r434h x389 := fa265 _ r434m
       refine Lst.r (Ev.indexS (α := LR Int) (xs := rs263) rfl rfl Try.runUnderlying56 Try.sizeOf34 rfl (by decide) (rdo 0 rfl rfl rfl) g433.1 (by have := map_len fm264; omega)) ?_
       refine hds inv (sc1 (.refl _)) ?_
       refine HdJ.o1 13 (fun inv => ?_)
       have hm435 : (rs263.set y269.toNat (LR.mk x381 r428h)).map LR.v = p393 := (map_set fm264 _ _).trans h394
       have ha436 : All LR.rel w0 F290 M (rs263.set y269.toNat (LR.mk x381 r428h)) := All.set (All.monoLR fa265 (FLe.trans hF271 hF291) (.refl _)) ((r428q.mono (FLe.trans hF271 hF291) (.refl _)))
       refine Lst.storeS (i := 0) rfl rfl rfl rfl rfl Try.sizeOf34 (vs := [Sl.v r428h]) rfl rfl (by decide) rfl (xs' := encs (rs263.set y269.toNat (LR.mk x381 r428h))) ((Put.elemN (s := 1) (y := (LR.mk x381 r428h)) rfl r434g (Put.here (vs := [Sl.v r428h]) rfl)).off (by omega)) (L' := (.own s_a0 34 1 (encs (rs263.set y269.toNat (LR.mk x381 r428h)))) :: L) rfl ?_
       refine hds inv (sc1 (.refl _)) ?_
       refine HdJ.done (by kernel_rfl) ?_
       exact At.meetN (r426h, x385, p393, (rs263.set y269.toNat (LR.mk x381 r428h))) fl ⟨rfl, rfl, rfl, rfl, rfl, rfl, rfl, rfl, trivial⟩ rfl ⟨h406, (r426q.mono (FLe.trans hF271 hF291) (.refl _)), hm435, (All.monoLR ha436 fl (.refl _))⟩
      refine HdStep.c (fun inv => ?_) trivial
      refine Lst.r (Ev.loadS (α := LR Int) rfl (rdo 0 rfl rfl rfl) Try.isAgg34 (v := Sl.v r426h) ((Get.elemN (s := 1) rfl r426g gh0).off (by omega))) ?_
      refine hds inv (sc1 (.refl _)) ?_
      refine HdJ.o1 6 (fun inv => ?_)
      have g437 := lat_some h382
      obtain ⟨⟨r438v, r438h⟩, r438g, r438e, r438m⟩ := map_get fm264 g437.2.2
      obtain rfl : x381 = r438v := r438e.symm
      have r438q : Rd w0 _ _ r438h x381 := fa265 _ r438m
      refine Lst.r (Ev.indexS (α := LR Int) (xs := rs263) rfl rfl Try.runUnderlying56 Try.sizeOf34 rfl (by decide) (rdo 0 rfl rfl rfl) g437.1 (by have := map_len fm264; omega)) ?_
      refine hds inv (sc1 (.refl _)) ?_
      refine HdJ.o1 7 (fun inv => ?_)
      refine Lst.r (Ev.loadS (α := LR Int) rfl (rdo 0 rfl rfl rfl) Try.isAgg34 (v := Sl.v r438h) ((Get.elemN (s := 1) rfl r438g gh0).off (by omega))) ?_
      refine hds inv (sc1 (.refl _)) ?_
      refine HdJ.o1 12 (fun inv => ?_)
      have g439 := lat_some h390
      obtain ⟨⟨r440v, r440h⟩, r440g, r440e, r440m⟩ := map_get fm264 g439.2.2
      obtain rfl : x389 = r440v := r440e.symm
      have r440q : Rd w0 _ _ r440h x389 := fa265 _ r440m
      refine Lst.r (Ev.indexS (α := LR Int) (xs := rs263) rfl rfl Try.runUnderlying56 Try.sizeOf34 rfl (by decide) (rdo 0 rfl rfl rfl) g439.1 (by have := map_len fm264; omega)) ?_
      refine hds inv (sc1 (.refl _)) ?_
      refine HdJ.o1 13 (fun inv => ?_)
      have hm441 : (rs263.set y269.toNat (LR.mk x381 r438h)).map LR.v = p393 := (map_set fm264 _ _).trans h394
      have ha442 : All LR.rel w0 F290 M (rs263.set y269.toNat (LR.mk x381 r438h)) := All.set (All.monoLR fa265 (FLe.trans hF271 hF291) (.refl _)) ((r438q.mono (FLe.trans hF271 hF291) (.refl _)))
      refine Lst.storeS (i := 0) rfl rfl rfl rfl rfl Try.sizeOf34 (vs := [Sl.v r438h]) rfl rfl (by decide) rfl (xs' := encs (rs263.set y269.toNat (LR.mk x381 r438h))) ((Put.elemN (s := 1) (y := (LR.mk x381 r438h)) rfl r440g (Put.here (vs := [Sl.v r438h]) rfl)).off (by omega)) (L' := (.own s_a0 34 1 (encs (rs263.set y269.toNat (LR.mk x381 r438h)))) :: L) rfl ?_
      refine hds inv (sc1 (.refl _)) ?_
      refine HdJ.done (by kernel_rfl) ?_
      exact At.meetN (r426h, x385, p393, (rs263.set y269.toNat (LR.mk x381 r438h))) fl ⟨rfl, rfl, rfl, rfl, rfl, rfl, rfl, rfl, trivial⟩ rfl ⟨h406, (r426q.mono (FLe.trans hF271 hF291) (.refl _)), hm441, (All.monoLR ha442 fl (.refl _))⟩
     rintro F443 ⟨s398, l399, l401, rs402⟩ hF444 ⟨hy, f400, fm403, fa404⟩
     subst hy
     try dsimp only at H
     refine Lst.as (e' := [(0, Sl.v s_a0), (1, iv a1), (4, .func (.func 71) #[] #[]), (12, iv y269), (13, iv y289), (147, Sl.v s_a0), (148, iv y289), (156, Sl.v s398)]) (L' := (.own s_a0 34 1 (encs rs402)) :: L) ⟨rfl, rfl, rfl, rfl, rfl, rfl, rfl, rfl, trivial⟩ rfl ?_
     obtain ⟨x445, h446, H⟩ := bind_some H
     have g447 := lat_some h446
     obtain ⟨⟨r448v, r448h⟩, r448g, r448e, r448m⟩ := map_get fm403 g447.2.2
     obtain rfl : x445 = r448v := r448e.symm
     have r448q : Rd w0 _ _ r448h x445 := fa404 _ r448m
     refine Lst.r (Ev.indexS (α := LR Int) (xs := rs402) rfl rfl Try.runUnderlying56 Try.sizeOf34 rfl (by decide) (rdo 0 rfl rfl rfl) g447.1 (by have := map_len fm403; omega)) ?_
     obtain ⟨p449, h450, H⟩ := Let_some H
     have hm451 : (rs402.set y289.toNat (LR.mk l399 s398)).map LR.v = p449 := (map_set fm403 _ _).trans h450
     have ha452 : All LR.rel w0 F443 M (rs402.set y289.toNat (LR.mk l399 s398)) := All.set (All.monoLR fa404 fl (.refl _)) ((f400.mono fl (.refl _)))
     refine Lst.storeS (i := 0) rfl rfl rfl rfl rfl Try.sizeOf34 (vs := [Sl.v s398]) rfl rfl (by decide) rfl (xs' := encs (rs402.set y289.toNat (LR.mk l399 s398))) ((Put.elemN (s := 1) (y := (LR.mk l399 s398)) rfl r448g (Put.here (vs := [Sl.v s398]) rfl)).off (by omega)) (L' := (.own s_a0 34 1 (encs (rs402.set y289.toNat (LR.mk l399 s398)))) :: L) rfl ?_
     refine nsr ?_
     refine mv0 rfl ?_
     refine Lst.r (Ev.add rfl rfl) ?_
     refine Lst.r (Ev.assign rfl) ?_
     refine nt0 ?_
     refine Cd.region ?_
     refine mv0 rfl ?_
     refine Lst.r (Ev.sub rfl rfl) ?_
     refine Lst.r (Ev.assign rfl) ?_
     refine Lst.nil ?_
     refine At.in_normal ?_
     exact At.meet (k259, w64 (y269 + (1 : Int)), w64 (y289 - (1 : Int)), p449, (rs402.set y289.toNat (LR.mk l399 s398))) (FLe.trans (FLe.trans (FLe.trans hF267 hF271) hF291) hF444) ⟨rfl, rfl, rfl, rfl, rfl, trivial⟩ rfl ⟨⟨hgo259 _ (some_inj H).symm, hm451, (All.monoLR ha452 fl (.refl _))⟩, Nat.lt_succ_self _⟩
    replace H := ite_t hb307 H
    refine Cd.condT rfl hb307 ?_
    refine Cd.skip ?_
    refine At.then ?_
    refine Cd.block ?_
    refine Cd.region ?_
    refine mv0 rfl ?_
    refine Lst.r (Ev.sub rfl rfl) ?_
    refine Lst.r (Ev.assign rfl) ?_
    refine Lst.nil ?_
    refine At.in_normal ?_
    exact At.meet (k288, w64 (y289 - (1 : Int))) hF291 ⟨rfl, rfl, rfl, rfl, rfl, trivial⟩ rfl ⟨hgo288 _ (some_inj H).symm, Nat.lt_succ_self _⟩
   replace H := ite_t hb287 H
   refine Cd.condT rfl hb287 ?_
   refine Cd.skip ?_
   refine At.then ?_
   refine Cd.block ?_
   refine Cd.region ?_
   refine mv0 rfl ?_
   refine Lst.r (Ev.add rfl rfl) ?_
   refine Lst.r (Ev.assign rfl) ?_
   refine Lst.nil ?_
   refine At.in_normal ?_
   exact At.meet (k268, w64 (y269 + (1 : Int))) hF271 ⟨rfl, rfl, rfl, rfl, rfl, trivial⟩ rfl ⟨hgo268 _ (some_inj H).symm, Nat.lt_succ_self _⟩
  replace H := ite_t hb113 H
  refine Cd.condT rfl hb113 ?_
  refine Cd.skip ?_
  refine At.then ?_
  refine Cd.block ?_
  refine Cd.region ?_
  refine mv0 rfl ?_
  refine Lst.r (Ev.sub rfl rfl) ?_
  refine Lst.r (Ev.assign rfl) ?_
  refine Lst.nil ?_
  refine At.in_normal ?_
  exact At.meet (k94, w64 (y95 - (1 : Int))) hF97 ⟨rfl, rfl, rfl, rfl, rfl, trivial⟩ rfl ⟨hgo94 _ (some_inj H).symm, Nat.lt_succ_self _⟩
 replace H := ite_t hb93 H
 refine Cd.condT rfl hb93 ?_
 refine Cd.skip ?_
 refine At.then ?_
 refine Cd.block ?_
 refine Cd.region ?_
 refine mv0 rfl ?_
 refine Lst.r (Ev.add rfl rfl) ?_
 refine Lst.r (Ev.assign rfl) ?_
 refine Lst.nil ?_
 refine At.in_normal ?_
 exact At.meet (k74, w64 (y75 + (1 : Int))) hF77 ⟨rfl, rfl, rfl, rfl, rfl, trivial⟩ rfl ⟨hgo74 _ (some_inj H).symm, Nat.lt_succ_self _⟩
set_option maxRecDepth 20000 in
theorem slices_pdqsortCmpFunc_int_Chains_1_simR : ∀ (fu : Nat) {a0 : List (List Int)} {a1 : Int} {a2 : Int} {a3 : Int} {s_a0 : Sl} {rs_a0 : List (LR Int)} {r : (List (List Int))} (H : slices_pdqsortCmpFunc_int_Chains_1 fu a0 a1 a2 a3 = some r) (w0 : World) (F : Frz) (M L : List Item) (hM : M.Sublist L) (hm_a0 : rs_a0.map LR.v = a0) (ha_a0 : All LR.rel w0 F M rs_a0), Ok Try.prog w0 81 [Sl.v s_a0, iv a1, iv a2, iv a3, .func (.func 71) #[] #[]] F ((.own s_a0 34 1 (encs rs_a0)) :: L) (fun Fx L' v => ∃ (rs2 : List (LR Int)), v = .tuple #[] ∧ L' = (.own s_a0 34 1 (encs rs2)) :: L ∧ rs2.map LR.v = r ∧ All LR.rel w0 Fx M rs2) := by
 intro fu
 induction fu with
 | zero => intro a0 a1 a2 a3 s_a0 rs_a0 r H; exact nomatch (show (none : Option (List (List Int))) = some _ from H)
 | succ fu ih =>
  intro a0 a1 a2 a3 s_a0 rs_a0 r H w0 F M L hM hm_a0 ha_a0
  replace H : slices_pdqsortCmpFunc_int_Chains_1_R fu (slices_pdqsortCmpFunc_int_Chains_1 fu) a0 a1 a2 a3 = some r := H
  generalize slices_pdqsortCmpFunc_int_Chains_1 fu = rc at H ih
  unfold slices_pdqsortCmpFunc_int_Chains_1_R at H
  refine Ok.enter (m := 5) (n := 148) Try.func81 rfl rfl rfl (by decide) ?_
  refine Cd.env (e' := [(0, Sl.v s_a0), (1, iv a1), (2, iv a2), (3, iv a3), (4, .func (.func 71) #[] #[])]) rfl ?_
  refine sr0 ?_
  refine Lst.r (Ev.assign rfl) ?_
  refine nsr ?_
  refine Lst.r (Ev.assign rfl) ?_
  refine nt0 ?_
  refine Cd.block ?_
  obtain ⟨ol2, H, HKl2⟩ := andThen_some H
  refine Cd.loop (σ := Nat × Int × Int × Int × Bool × Bool × (List (List Int)) × (List (LR Int))) (fun (k2, y3, y4, y5, y6, y7, l8, rs9) => [(0, Sl.v s_a0), (1, iv y3), (2, iv y4), (3, iv y5), (4, .func (.func 71) #[] #[]), (10, .bool y6), (11, .bool y7)]) (fun (k2, y3, y4, y5, y6, y7, l8, rs9) => (.own s_a0 34 1 (encs rs9)) :: L) (fun Fx => (fun (k2, y3, y4, y5, y6, y7, l8, rs9) => whileM (slices_pdqsortCmpFunc_int_Chains_1_B0 fu rc) k2 (y3, y4, y5, y6, y7, l8) = some ol2 ∧ rs9.map LR.v = l8 ∧ All LR.rel w0 Fx M rs9)) (fun (k2, y3, y4, y5, y6, y7, l8, rs9) => k2) (fu, a1, a2, a3, true, true, a0, rs_a0) ⟨rfl, rfl, rfl, rfl, rfl, rfl, rfl, trivial⟩ rfl ⟨H, hm_a0, (All.monoLR ha_a0 fl (.refl _))⟩ ?_
  rintro F12 ⟨k2, y3, y4, y5, y6, y7, l8, rs9⟩ hF13 ⟨H, fm10, fa11⟩
  refine Cd.as (e' := [(0, Sl.v s_a0), (1, iv y3), (2, iv y4), (3, iv y5), (4, .func (.func 71) #[] #[]), (10, .bool y6), (11, .bool y7)]) (L' := (.own s_a0 34 1 (encs rs9)) :: L) ⟨rfl, rfl, rfl, rfl, rfl, rfl, rfl, trivial⟩ rfl ?_
  rcases k2 with _ | k2
  ·cases H
  obtain ⟨c2, H, hgo2, hbrk2, hret2⟩ := whileM_go H
  unfold slices_pdqsortCmpFunc_int_Chains_1_B0 at H
  try dsimp only at H
  refine Cd.block ?_
  refine sr0 ?_
  refine mv0 rfl ?_
  refine mv0 rfl ?_
  refine Lst.r (Ev.sub rfl rfl) ?_
  refine Lst.r (Ev.assign rfl) ?_
  refine nt0 ?_
  refine Cd.seq ?_
  refine sr0 ?_
  refine mv0 rfl ?_
  refine Lst.r (Ev.leq rfl rfl) ?_
  refine nt0 ?_
  rcases Bool.eq_false_or_eq_true (decide ((w64 (y4 - y3)) ≤ (12 : Int))) with hb14 | hb14
  ·replace H := ite_t hb14 H
   refine Cd.condT rfl hb14 ?_
   refine sr0 ?_
   refine mv0 rfl ?_
   refine mv0 rfl ?_
   refine mv0 rfl ?_
   refine mv0 rfl ?_
   obtain ⟨r15, h16, H⟩ := bind_some H
   refine Lst.call rfl rfl (by decide) (vs := [Sl.v s_a0, iv y3, iv y4, .func (.func 71) #[] #[]]) ⟨rfl, rfl, rfl, rfl, trivial⟩ Try.call87 (slices_insertionSortCmpFunc_int_Chains_1_sim h16 w0 _ M _ hM fm10 (All.monoLR fa11 fl (.refl _))) (fun F20 L' v hF21 hv => ?_)
   obtain ⟨rs17, rfl, rfl, fm18, fa19⟩ := hv
   refine nt0 ?_
   have H := hret2 _ (some_inj H).symm
   subst H
   replace H := HKl2
   obtain rfl := some_inj H
   refine Cd.ret ?_
   refine At.then_ret ?_
   refine At.in_ret ?_
   refine At.then_ret ?_
   refine At.in_ret ?_
   exact At.ret0 (.inl rfl) rfl (FLe.trans hF13 hF21) (sk1 (.refl _)) ⟨rs17, rfl, rfl, fm18, (All.monoLR fa19 fl (.refl _))⟩
  replace H := ite_f hb14 H
  refine Cd.condF rfl hb14 ?_
  refine Cd.skip ?_
  refine At.then ?_
  refine Cd.seq ?_
  refine sr0 ?_
  refine mv0 rfl ?_
  refine Lst.r (Ev.eql rfl rfl) ?_
  refine nt0 ?_
  rcases Bool.eq_false_or_eq_true (y5 == (0 : Int)) with hb22 | hb22
  ·replace H := ite_t hb22 H
   refine Cd.condT rfl hb22 ?_
   refine sr0 ?_
   refine mv0 rfl ?_
   refine mv0 rfl ?_
   refine mv0 rfl ?_
   refine mv0 rfl ?_
   obtain ⟨r23, h24, H⟩ := bind_some H
   refine Lst.call rfl rfl (by decide) (vs := [Sl.v s_a0, iv y3, iv y4, .func (.func 71) #[] #[]]) ⟨rfl, rfl, rfl, rfl, trivial⟩ Try.call88 (slices_heapSortCmpFunc_int_Chains_1_sim h24 w0 _ M _ hM fm10 (All.monoLR fa11 fl (.refl _))) (fun F28 L' v hF29 hv => ?_)
   obtain ⟨rs25, rfl, rfl, fm26, fa27⟩ := hv
   refine nt0 ?_
   have H := hret2 _ (some_inj H).symm
   subst H
   replace H := HKl2
   obtain rfl := some_inj H
   refine Cd.ret ?_
   refine At.then_ret ?_
   refine At.in_ret ?_
   refine At.then_ret ?_
   refine At.in_ret ?_
   exact At.ret0 (.inl rfl) rfl (FLe.trans hF13 hF29) (sk1 (.refl _)) ⟨rs25, rfl, rfl, fm26, (All.monoLR fa27 fl (.refl _))⟩
  replace H := ite_f hb22 H
  refine Cd.condF rfl hb22 ?_
  refine Cd.skip ?_
  refine At.then ?_
  obtain ⟨o35, H, HKo35⟩ := bind_some H
  refine Cd.join (σ := Int × (List (List Int)) × (List (LR Int))) (fun (y30, l31, rs32) => [(0, Sl.v s_a0), (1, iv y3), (2, iv y4), (3, iv y30), (4, .func (.func 71) #[] #[]), (10, .bool y6), (11, .bool y7), (12, iv (w64 (y4 - y3)))]) (fun (y30, l31, rs32) => (.own s_a0 34 1 (encs rs32)) :: L) (fun Fx (y30, l31, rs32) => (y30, l31) = o35 ∧ rs32.map LR.v = l31 ∧ All LR.rel w0 Fx M rs32) ?_ ?_
  ·refine sr0 ?_
   refine mv0 rfl ?_
   refine Lst.r (Ev.not rfl) ?_
   refine nt0 ?_
   rcases (Bool.eq_false_or_eq_true (!y6)).symm with hb36 | hb36
   ·replace H := ite_f hb36 H
    refine Cd.condF rfl hb36 ?_
    refine Cd.skip ?_
    exact At.meet (y5, l8, rs9) fl ⟨rfl, rfl, rfl, rfl, rfl, rfl, rfl, rfl, trivial⟩ rfl ⟨some_inj H, fm10, (All.monoLR fa11 fl (.refl _))⟩
   replace H := ite_t hb36 H
   refine Cd.condT rfl hb36 ?_
   refine sr0 ?_
   refine mv0 rfl ?_
   refine mv0 rfl ?_
   refine mv0 rfl ?_
   refine mv0 rfl ?_
   obtain ⟨r37, h38, H⟩ := bind_some H
   refine Lst.call rfl rfl (by decide) (vs := [Sl.v s_a0, iv y3, iv y4, .func (.func 71) #[] #[]]) ⟨rfl, rfl, rfl, rfl, trivial⟩ Try.call89 (slices_breakPatternsCmpFunc_int_Chains_1_sim h38 w0 _ M _ hM fm10 (All.monoLR fa11 fl (.refl _))) (fun F42 L' v hF43 hv => ?_)
   obtain ⟨rs39, rfl, rfl, fm40, fa41⟩ := hv
   refine nt0 ?_
   refine Cd.region ?_
   refine mv0 rfl ?_
   refine Lst.r (Ev.sub rfl rfl) ?_
   refine Lst.r (Ev.assign rfl) ?_
   refine Lst.nil ?_
   exact At.meet (w64 (y5 - (1 : Int)), r37, rs39) hF43 ⟨rfl, rfl, rfl, rfl, rfl, rfl, rfl, rfl, trivial⟩ rfl ⟨some_inj H, fm40, (All.monoLR fa41 fl (.refl _))⟩
  rintro F44 ⟨y30, l31, rs32⟩ hF45 ⟨hy, fm33, fa34⟩
  subst hy
  refine Cd.as (e' := [(0, Sl.v s_a0), (1, iv y3), (2, iv y4), (3, iv y30), (4, .func (.func 71) #[] #[]), (10, .bool y6), (11, .bool y7), (12, iv (w64 (y4 - y3)))]) (L' := (.own s_a0 34 1 (encs rs32)) :: L) ⟨rfl, rfl, rfl, rfl, rfl, rfl, rfl, rfl, trivial⟩ rfl ?_
  replace H := HKo35
  try dsimp only [Sum.elim_inl] at H
  refine sr0 ?_
  refine mv0 rfl ?_
  refine mv0 rfl ?_
  refine mv0 rfl ?_
  refine mv0 rfl ?_
  obtain ⟨r46, h47, H⟩ := bind_some H
  refine Lst.call1 rfl rfl (by decide) (vs := [Sl.v s_a0, iv y3, iv y4, .func (.func 71) #[] #[]]) ⟨rfl, rfl, rfl, rfl, trivial⟩ Try.call90 (slices_choosePivotCmpFunc_int_Chains_1_sim h47 w0 _ _ _ (.refl _) fm33 (rdo 0 rfl rfl rfl) (All.monoLR fa34 fl (sc1 hM))) ?_
  refine mv0 rfl ?_
  refine Lst.r (Ev.extract rfl rfl) ?_
  refine Lst.r (Ev.extract rfl rfl) ?_
  refine Lst.r (Ev.assign rfl) ?_
  refine Lst.r (Ev.assign rfl) ?_
  refine nt0 ?_
  obtain ⟨o56, H, HKo56⟩ := bind_some H
  refine Cd.join (σ := Int × Int × (List (List Int)) × (List (LR Int))) (fun (y50, y51, l52, rs53) => [(0, Sl.v s_a0), (1, iv y3), (2, iv y4), (3, iv y30), (4, .func (.func 71) #[] #[]), (10, .bool y6), (11, .bool y7), (12, iv (w64 (y4 - y3))), (13, iv y50), (14, iv y51)]) (fun (y50, y51, l52, rs53) => (.own s_a0 34 1 (encs rs53)) :: L) (fun Fx (y50, y51, l52, rs53) => (y50, y51, l52) = o56 ∧ rs53.map LR.v = l52 ∧ All LR.rel w0 Fx M rs53) ?_ ?_
  ·refine sr0 ?_
   refine mv0 rfl ?_
   refine Lst.r (Ev.eql rfl rfl) ?_
   refine nt0 ?_
   rcases (Bool.eq_false_or_eq_true (r46.2 == (2 : Int))).symm with hb57 | hb57
   ·replace H := ite_f hb57 H
    refine Cd.condF rfl hb57 ?_
    refine Cd.skip ?_
    exact At.meet (r46.1, r46.2, l31, rs32) fl ⟨rfl, rfl, rfl, rfl, rfl, rfl, rfl, rfl, rfl, rfl, trivial⟩ rfl ⟨some_inj H, fm33, (All.monoLR fa34 fl (.refl _))⟩
   replace H := ite_t hb57 H
   refine Cd.condT rfl hb57 ?_
   refine sr0 ?_
   refine mv0 rfl ?_
   refine mv0 rfl ?_
   refine mv0 rfl ?_
   refine mv0 rfl ?_
   obtain ⟨r58, h59, H⟩ := bind_some H
   refine Lst.call rfl rfl (by decide) (vs := [Sl.v s_a0, iv y3, iv y4, .func (.func 71) #[] #[]]) ⟨rfl, rfl, rfl, rfl, trivial⟩ Try.call91 (slices_reverseRangeCmpFunc_int_Chains_1_sim h59 w0 _ M _ hM fm33 (All.monoLR fa34 fl (.refl _))) (fun F63 L' v hF64 hv => ?_)
   obtain ⟨rs60, rfl, rfl, fm61, fa62⟩ := hv
   refine nt0 ?_
   refine Cd.seq ?_
   refine Cd.as (e' := [(0, Sl.v s_a0), (1, iv y3), (2, iv y4), (3, iv y30), (4, .func (.func 71) #[] #[]), (10, .bool y6), (11, .bool y7), (12, iv (w64 (y4 - y3))), (13, iv r46.1)]) (L' := (.own s_a0 34 1 (encs rs60)) :: L) ⟨rfl, rfl, rfl, rfl, rfl, rfl, rfl, rfl, rfl, trivial⟩ rfl ?_
   refine Cd.region ?_
   refine mv0 rfl ?_
   refine Lst.r (Ev.sub rfl rfl) ?_
   refine mv0 rfl ?_
   refine mv0 rfl ?_
   refine Lst.r (Ev.sub rfl rfl) ?_
   refine Lst.r (Ev.sub rfl rfl) ?_
   refine Lst.r (Ev.assign rfl) ?_
   refine nt0 ?_
   refine Cd.region ?_
   refine Lst.r (Ev.assign rfl) ?_
   refine Lst.nil ?_
   exact At.meet (w64 ((w64 (y4 - (1 : Int))) - (w64 (r46.1 - y3))), (1 : Int), r58, rs60) hF64 ⟨rfl, rfl, rfl, rfl, rfl, rfl, rfl, rfl, rfl, rfl, trivial⟩ rfl ⟨some_inj H, fm61, (All.monoLR fa62 fl (.refl _))⟩
  rintro F65 ⟨y50, y51, l52, rs53⟩ hF66 ⟨hy, fm54, fa55⟩
  subst hy
  refine Cd.as (e' := [(0, Sl.v s_a0), (1, iv y3), (2, iv y4), (3, iv y30), (4, .func (.func 71) #[] #[]), (10, .bool y6), (11, .bool y7), (12, iv (w64 (y4 - y3))), (13, iv y50), (14, iv y51)]) (L' := (.own s_a0 34 1 (encs rs53)) :: L) ⟨rfl, rfl, rfl, rfl, rfl, rfl, rfl, rfl, rfl, rfl, trivial⟩ rfl ?_
  replace H := HKo56
  try dsimp only [Sum.elim_inl] at H
  obtain ⟨o71, H, HKo71⟩ := andThen_some H
  refine Cd.join (σ := (List (List Int)) × (List (LR Int))) (fun (l67, rs68) => [(0, Sl.v s_a0), (1, iv y3), (2, iv y4), (3, iv y30), (4, .func (.func 71) #[] #[]), (10, .bool y6), (11, .bool y7), (12, iv (w64 (y4 - y3))), (13, iv y50)]) (fun (l67, rs68) => (.own s_a0 34 1 (encs rs68)) :: L) (fun Fx (l67, rs68) => .inl l67 = o71 ∧ rs68.map LR.v = l67 ∧ All LR.rel w0 Fx M rs68) ?_ ?_
  ·refine sr0 ?_
   refine mv0 rfl ?_
   refine mv0 rfl ?_
   obtain ⟨o72, H, HKo72⟩ := bind_some H
   refine Lst.join (σ := Bool) 2 (fun y73 => [(0, Sl.v s_a0), (1, iv y3), (2, iv y4), (3, iv y30), (4, .func (.func 71) #[] #[]), (10, .bool y6), (11, .bool y7), (12, iv (w64 (y4 - y3))), (13, iv y50), (14, iv y51), (71, .bool y73)]) (fun y73 => (.own s_a0 34 1 (encs rs53)) :: L) (fun _ y73 => y73 = o72) ?_ ?_
   ·rcases (Bool.eq_false_or_eq_true y6).symm with hb74 | hb74
    ·replace H := ite_f hb74 H
     refine Lst.skip rfl rfl rfl hb74 rfl (by decide) ?_
     refine Lst.r (Ev.pickF rfl hb74 rfl) ?_
     refine Lst.nil ?_
     exact At.meet false fl ⟨rfl, rfl, rfl, rfl, rfl, rfl, rfl, rfl, rfl, rfl, rfl, trivial⟩ rfl (some_inj H)
    replace H := ite_t hb74 H
    refine Lst.rG hb74 (Ev.move rfl) ?_
    refine Lst.r (Ev.pickT rfl hb74 rfl) ?_
    refine Lst.nil ?_
    exact At.meet y7 fl ⟨rfl, rfl, rfl, rfl, rfl, rfl, rfl, rfl, rfl, rfl, rfl, trivial⟩ rfl (some_inj H)
   rintro F75 y73 hF76 hy
   subst hy
   refine Lst.as (e' := [(0, Sl.v s_a0), (1, iv y3), (2, iv y4), (3, iv y30), (4, .func (.func 71) #[] #[]), (10, .bool y6), (11, .bool y7), (12, iv (w64 (y4 - y3))), (13, iv y50), (14, iv y51), (71, .bool y73)]) (L' := (.own s_a0 34 1 (encs rs53)) :: L) ⟨rfl, rfl, rfl, rfl, rfl, rfl, rfl, rfl, rfl, rfl, rfl, trivial⟩ rfl ?_
   replace H := HKo72
   refine mv0 rfl ?_
   obtain ⟨o77, H, HKo77⟩ := bind_some H
   refine Lst.join (σ := Bool) 3 (fun y78 => [(0, Sl.v s_a0), (1, iv y3), (2, iv y4), (3, iv y30), (4, .func (.func 71) #[] #[]), (10, .bool y6), (11, .bool y7), (12, iv (w64 (y4 - y3))), (13, iv y50), (75, .bool y78)]) (fun y78 => (.own s_a0 34 1 (encs rs53)) :: L) (fun _ y78 => y78 = o77) ?_ ?_
   ·rcases (Bool.eq_false_or_eq_true y73).symm with hb79 | hb79
    ·replace H := ite_f hb79 H
     refine Lst.skip rfl rfl rfl hb79 rfl (by decide) ?_
     refine Lst.skip rfl rfl rfl hb79 rfl (by decide) ?_
     refine Lst.r (Ev.pickF rfl hb79 rfl) ?_
     refine Lst.nil ?_
     exact At.meet false fl ⟨rfl, rfl, rfl, rfl, rfl, rfl, rfl, rfl, rfl, rfl, trivial⟩ rfl (some_inj H)
    replace H := ite_t hb79 H
    refine Lst.rG hb79 (Ev.move rfl) ?_
    refine Lst.rG hb79 (Ev.eql rfl rfl) ?_
    refine Lst.r (Ev.pickT rfl hb79 rfl) ?_
    refine Lst.nil ?_
    exact At.meet (y51 == (1 : Int)) fl ⟨rfl, rfl, rfl, rfl, rfl, rfl, rfl, rfl, rfl, rfl, trivial⟩ rfl (some_inj H)
   rintro F80 y78 hF81 hy
   subst hy
   refine Lst.as (e' := [(0, Sl.v s_a0), (1, iv y3), (2, iv y4), (3, iv y30), (4, .func (.func 71) #[] #[]), (10, .bool y6), (11, .bool y7), (12, iv (w64 (y4 - y3))), (13, iv y50), (75, .bool y78)]) (L' := (.own s_a0 34 1 (encs rs53)) :: L) ⟨rfl, rfl, rfl, rfl, rfl, rfl, rfl, rfl, rfl, rfl, trivial⟩ rfl ?_
   replace H := HKo77
   refine nt0 ?_
   rcases (Bool.eq_false_or_eq_true y78).symm with hb82 | hb82
   ·replace H := ite_f hb82 H
    refine Cd.condF rfl hb82 ?_
    refine Cd.skip ?_
    exact At.meet (l52, rs53) (FLe.trans hF76 hF81) ⟨rfl, rfl, rfl, rfl, rfl, rfl, rfl, rfl, rfl, trivial⟩ rfl ⟨some_inj H, fm54, (All.monoLR fa55 (FLe.trans hF76 hF81) (.refl _))⟩
   replace H := ite_t hb82 H
   refine Cd.condT rfl hb82 ?_
   refine sr0 ?_
   refine mv0 rfl ?_
   refine mv0 rfl ?_
   refine mv0 rfl ?_
   refine mv0 rfl ?_
   obtain ⟨r83, h84, H⟩ := bind_some H
   refine Lst.call rfl rfl (by decide) (vs := [Sl.v s_a0, iv y3, iv y4, .func (.func 71) #[] #[]]) ⟨rfl, rfl, rfl, rfl, trivial⟩ Try.call92 (slices_partialInsertionSortCmpFunc_int_Chains_1_sim h84 w0 _ M _ hM fm54 (All.monoLR fa55 (FLe.trans hF76 hF81) (.refl _))) (fun F88 L' v hF89 hv => ?_)
   obtain ⟨rs85, rfl, rfl, fm86, fa87⟩ := hv
   refine nt0 ?_
   rcases Bool.eq_false_or_eq_true r83.2 with hb90 | hb90
   ·replace H := ite_t hb90 H
    refine Cd.condT rfl hb90 ?_
    obtain rfl := some_inj H
    replace H := HKo71
    have H := hret2 _ (some_inj H).symm
    subst H
    replace H := HKl2
    obtain rfl := some_inj H
    refine Cd.ret ?_
    refine At.then_ret ?_
    refine At.in_ret ?_
    refine At.then_ret ?_
    refine At.in_ret ?_
    exact At.ret0 (.inl rfl) rfl (FLe.trans (FLe.trans (FLe.trans (FLe.trans (FLe.trans hF13 hF45) hF66) hF76) hF81) hF89) (sk1 (.refl _)) ⟨rs85, rfl, rfl, fm86, (All.monoLR fa87 fl (.refl _))⟩
   replace H := ite_f hb90 H
   refine Cd.condF rfl hb90 ?_
   refine Cd.skip ?_
   exact At.meet (r83.1, rs85) (FLe.trans (FLe.trans hF76 hF81) hF89) ⟨rfl, rfl, rfl, rfl, rfl, rfl, rfl, rfl, rfl, trivial⟩ rfl ⟨some_inj H, fm86, (All.monoLR fa87 fl (.refl _))⟩
  rintro F91 ⟨l67, rs68⟩ hF92 ⟨hy, fm69, fa70⟩
  subst hy
  refine Cd.as (e' := [(0, Sl.v s_a0), (1, iv y3), (2, iv y4), (3, iv y30), (4, .func (.func 71) #[] #[]), (10, .bool y6), (11, .bool y7), (12, iv (w64 (y4 - y3))), (13, iv y50)]) (L' := (.own s_a0 34 1 (encs rs68)) :: L) ⟨rfl, rfl, rfl, rfl, rfl, rfl, rfl, rfl, rfl, trivial⟩ rfl ?_
  replace H := HKo71
  refine Cd.seq ?_
  refine Cd.seq ?_
  refine Cd.quiet (by kernel_rfl) (by kernel_rfl) ?_
  refine Qt.r (Ev.move rfl) ?_
  refine Qt.r (Ev.gtr rfl rfl) ?_
  refine Qt.r (Ev.move rfl) ?_
  obtain ⟨o93, H, HKo93⟩ := bind_some H
  refine Qt.join (σ := Bool) 14 (fun y94 => [(0, Sl.v s_a0), (1, iv y3), (2, iv y4), (3, iv y30), (4, .func (.func 71) #[] #[]), (10, .bool y6), (11, .bool y7), (12, iv (w64 (y4 - y3))), (13, iv y50), (97, .bool y94)]) (fun y94 => y94 = o93) ?_ ?_
  ·rcases (Bool.eq_false_or_eq_true (decide (y3 > (0 : Int)))).symm with hb95 | hb95
   ·replace H := ite_f hb95 H
    refine Qt.skip rfl rfl rfl hb95 rfl (by decide) ?_
    refine Qt.skip rfl rfl rfl hb95 rfl (by decide) ?_
    refine Qt.skip rfl rfl rfl hb95 rfl (by decide) ?_
    refine Qt.skip rfl rfl rfl hb95 rfl (by decide) ?_
    refine Qt.skip rfl rfl rfl hb95 rfl (by decide) ?_
    refine Qt.skip rfl rfl rfl hb95 rfl (by decide) ?_
    refine Qt.skip rfl rfl rfl hb95 rfl (by decide) ?_
    refine Qt.skip rfl rfl rfl hb95 rfl (by decide) ?_
    refine Qt.skip rfl rfl rfl hb95 rfl (by decide) ?_
    refine Qt.skip rfl rfl rfl hb95 rfl (by decide) ?_
    refine Qt.skip rfl rfl rfl hb95 rfl (by decide) ?_
    refine Qt.skip rfl rfl rfl hb95 rfl (by decide) ?_
    refine Qt.skip rfl rfl rfl hb95 rfl (by decide) ?_
    refine Qt.r (Ev.pickF rfl hb95 rfl) ?_
    exact Qt.meet false ⟨rfl, rfl, rfl, rfl, rfl, rfl, rfl, rfl, rfl, rfl, trivial⟩ (some_inj H)
   replace H := ite_t hb95 H
   refine Qt.rG hb95 (Ev.move rfl) ?_
   refine Qt.rG hb95 (Ev.move rfl) ?_
   refine Qt.rG hb95 (Ev.move rfl) ?_
   refine Qt.rG hb95 (Ev.sub rfl rfl) ?_
   obtain ⟨x96, h97, H⟩ := bind_some H
   have g98 := lat_some h97
   obtain ⟨⟨r99v, r99h⟩, r99g, r99e, r99m⟩ := map_get fm69 g98.2.2
   obtain rfl : x96 = r99v := r99e.symm
   have r99q : Rd w0 _ _ r99h x96 := fa70 _ r99m
   refine Qt.rG hb95 (Ev.indexS (α := LR Int) (xs := rs68) rfl rfl Try.runUnderlying56 Try.sizeOf34 rfl (by decide) (rdo 0 rfl rfl rfl) g98.1 (by have := map_len fm69; omega)) ?_
   refine Qt.rG hb95 (Ev.loadS (α := LR Int) rfl (rdo 0 rfl rfl rfl) Try.isAgg34 (v := Sl.v r99h) ((Get.elemN (s := 1) rfl r99g gh0).off (by omega))) ?_
   refine Qt.rG hb95 (Ev.move rfl) ?_
   refine Qt.rG hb95 (Ev.move rfl) ?_
   obtain ⟨x100, h101, H⟩ := bind_some H
   have g102 := lat_some h101
   obtain ⟨⟨r103v, r103h⟩, r103g, r103e, r103m⟩ := map_get fm69 g102.2.2
   obtain rfl : x100 = r103v := r103e.symm
   have r103q : Rd w0 _ _ r103h x100 := fa70 _ r103m
   refine Qt.rG hb95 (Ev.indexS (α := LR Int) (xs := rs68) rfl rfl Try.runUnderlying56 Try.sizeOf34 rfl (by decide) (rdo 0 rfl rfl rfl) g102.1 (by have := map_len fm69; omega)) ?_
   refine Qt.rG hb95 (Ev.loadS (α := LR Int) rfl (rdo 0 rfl rfl rfl) Try.isAgg34 (v := Sl.v r103h) ((Get.elemN (s := 1) rfl r103g gh0).off (by omega))) ?_
   obtain ⟨r104, h105, H⟩ := bind_some H
   refine Qt.callVG rfl rfl rfl hb95 rfl (by decide) (vs := [Sl.v r99h, Sl.v r103h]) (cs := []) rfl ⟨rfl, rfl, trivial⟩ Try.call71 (poset_Chains_1_sim h105 w0 _ M _ (sc1 hM) (r99q.mono fl (.refl _)) (r103q.mono fl (.refl _))) ?_
   refine Qt.rG hb95 (Ev.lss rfl rfl) ?_
   refine Qt.rG hb95 (Ev.not rfl) ?_
   refine Qt.r (Ev.pickT rfl hb95 rfl) ?_
   exact Qt.meet (!(decide (r104 < (0 : Int)))) ⟨rfl, rfl, rfl, rfl, rfl, rfl, rfl, rfl, rfl, rfl, trivial⟩ (some_inj H)
  rintro y94 hy
  subst hy
  refine Qt.as (e' := [(0, Sl.v s_a0), (1, iv y3), (2, iv y4), (3, iv y30), (4, .func (.func 71) #[] #[]), (10, .bool y6), (11, .bool y7), (12, iv (w64 (y4 - y3))), (13, iv y50), (97, .bool y94)]) ⟨rfl, rfl, rfl, rfl, rfl, rfl, rfl, rfl, rfl, rfl, trivial⟩ ?_
  replace H := HKo93
  refine Qt.done ?_
  refine At.then ?_
  rcases Bool.eq_false_or_eq_true y94 with hb108 | hb108
  ·replace H := ite_t hb108 H
   refine Cd.condT rfl hb108 ?_
   refine sr0 ?_
   refine mv0 rfl ?_
   refine mv0 rfl ?_
   refine mv0 rfl ?_
   refine mv0 rfl ?_
   refine mv0 rfl ?_
   obtain ⟨r109, h110, H⟩ := bind_some H
   refine Lst.call rfl rfl (by decide) (vs := [Sl.v s_a0, iv y3, iv y4, iv y50, .func (.func 71) #[] #[]]) ⟨rfl, rfl, rfl, rfl, rfl, trivial⟩ Try.call93 (slices_partitionEqualCmpFunc_int_Chains_1_sim h110 w0 _ M _ hM fm69 (All.monoLR fa70 fl (.refl _))) (fun F114 L' v hF115 hv => ?_)
   obtain ⟨rs111, rfl, rfl, fm112, fa113⟩ := hv
   refine Lst.r (Ev.assign rfl) ?_
   refine nsr ?_
   refine mv0 rfl ?_
   refine Lst.r (Ev.assign rfl) ?_
   refine nt0 ?_
   refine Cd.exit ?_
   refine At.then_exit ?_
   refine At.in_exit ?_
   exact At.meet (k2, r109.2, y4, y30, y6, y7, r109.1, rs111) (FLe.trans (FLe.trans (FLe.trans (FLe.trans hF13 hF45) hF66) hF92) hF115) ⟨rfl, rfl, rfl, rfl, rfl, rfl, rfl, trivial⟩ rfl ⟨⟨hgo2 _ (some_inj H).symm, fm112, (All.monoLR fa113 fl (.refl _))⟩, Nat.lt_succ_self _⟩
  replace H := ite_f hb108 H
  refine Cd.condF rfl hb108 ?_
  refine Cd.skip ?_
  refine At.then ?_
  refine sr0 ?_
  refine mv0 rfl ?_
  refine mv0 rfl ?_
  refine mv0 rfl ?_
  refine mv0 rfl ?_
  refine mv0 rfl ?_
  obtain ⟨r116, h117, H⟩ := bind_some H
  refine Lst.call rfl rfl (by decide) (vs := [Sl.v s_a0, iv y3, iv y4, iv y50, .func (.func 71) #[] #[]]) ⟨rfl, rfl, rfl, rfl, rfl, trivial⟩ Try.call94 (slices_partitionCmpFunc_int_Chains_1_sim h117 w0 _ M _ hM fm69 (All.monoLR fa70 fl (.refl _))) (fun F121 L' v hF122 hv => ?_)
  obtain ⟨rs118, rfl, rfl, fm119, fa120⟩ := hv
  refine mv0 rfl ?_
  refine Lst.r (Ev.extract rfl rfl) ?_
  refine Lst.r (Ev.extract rfl rfl) ?_
  refine Lst.r (Ev.assign rfl) ?_
  refine Lst.r (Ev.assign rfl) ?_
  refine nsr ?_
  refine mv0 rfl ?_
  refine Lst.r (Ev.assign rfl) ?_
  refine nt0 ?_
  refine Cd.seq ?_
  refine Cd.as (e' := [(0, Sl.v s_a0), (1, iv y3), (2, iv y4), (3, iv y30), (4, .func (.func 71) #[] #[]), (11, .bool r116.2.2), (12, iv (w64 (y4 - y3))), (16, iv r116.2.1)]) (L' := (.own s_a0 34 1 (encs rs118)) :: L) ⟨rfl, rfl, rfl, rfl, rfl, rfl, rfl, rfl, trivial⟩ rfl ?_
  refine Cd.region ?_
  refine mv0 rfl ?_
  refine mv0 rfl ?_
  refine Lst.r (Ev.sub rfl rfl) ?_
  refine mv0 rfl ?_
  refine mv0 rfl ?_
  refine Lst.r (Ev.sub rfl rfl) ?_
  refine Lst.r (Ev.assign rfl) ?_
  refine Lst.r (Ev.assign rfl) ?_
  refine nsr ?_
  refine mv0 rfl ?_
  refine Lst.r (Ev.quo (i := w64 (y4 - y3)) (j := (8 : Int)) rfl rfl (by decide)) ?_
  refine Lst.r (Ev.assign rfl) ?_
  refine nsr ?_
  refine mv0 rfl ?_
  refine mv0 rfl ?_
  refine Lst.r (Ev.lss rfl rfl) ?_
  refine nt0 ?_
  rcases (Bool.eq_false_or_eq_true (decide ((w64 (r116.2.1 - y3)) < (w64 (y4 - r116.2.1))))).symm with hb123 | hb123
  ·replace H := ite_f hb123 H
   refine Cd.condF rfl hb123 ?_
   refine sr0 ?_
   refine mv0 rfl ?_
   refine mv0 rfl ?_
   refine Lst.r (Ev.geq rfl rfl) ?_
   refine Lst.r (Ev.assign rfl) ?_
   refine nt0 ?_
   refine Cd.seq ?_
   refine Cd.as (e' := [(0, Sl.v s_a0), (1, iv y3), (2, iv y4), (3, iv y30), (4, .func (.func 71) #[] #[]), (11, .bool r116.2.2), (16, iv r116.2.1), (10, .bool (decide ((w64 (y4 - r116.2.1)) ≥ (w64 ((w64 (y4 - y3)).tdiv (8 : Int))))))]) (L' := (.own s_a0 34 1 (encs rs118)) :: L) ⟨rfl, rfl, rfl, rfl, rfl, rfl, rfl, rfl, trivial⟩ rfl ?_
   refine Cd.region ?_
   refine mv0 rfl ?_
   refine mv0 rfl ?_
   refine Lst.r (Ev.add rfl rfl) ?_
   refine mv0 rfl ?_
   refine mv0 rfl ?_
   refine mv0 rfl ?_
   obtain ⟨r124, h125, H⟩ := bind_some H
   refine Lst.call rfl rfl (by decide) (vs := [Sl.v s_a0, iv (w64 (r116.2.1 + (1 : Int))), iv y4, iv y30, .func (.func 71) #[] #[]]) ⟨rfl, rfl, rfl, rfl, rfl, trivial⟩ Try.call81 (ih h125 w0 _ M _ hM fm119 (All.monoLR fa120 fl (.refl _))) (fun F129 L' v hF130 hv => ?_)
   obtain ⟨rs126, rfl, rfl, fm127, fa128⟩ := hv
   refine nt0 ?_
   refine Cd.region ?_
   refine mv0 rfl ?_
   refine Lst.r (Ev.assign rfl) ?_
   refine Lst.nil ?_
   refine At.in_normal ?_
   exact At.meet (k2, y3, r116.2.1, y30, decide ((w64 (y4 - r116.2.1)) ≥ (w64 ((w64 (y4 - y3)).tdiv (8 : Int)))), r116.2.2, r124, rs126) (FLe.trans (FLe.trans (FLe.trans (FLe.trans (FLe.trans hF13 hF45) hF66) hF92) hF122) hF130) ⟨rfl, rfl, rfl, rfl, rfl, rfl, rfl, trivial⟩ rfl ⟨⟨hgo2 _ (some_inj H).symm, fm127, (All.monoLR fa128 fl (.refl _))⟩, Nat.lt_succ_self _⟩
  replace H := ite_t hb123 H
  refine Cd.condT rfl hb123 ?_
  refine sr0 ?_
  refine mv0 rfl ?_
  refine mv0 rfl ?_
  refine Lst.r (Ev.geq rfl rfl) ?_
  refine Lst.r (Ev.assign rfl) ?_
  refine nt0 ?_
  refine Cd.seq ?_
  refine Cd.as (e' := [(0, Sl.v s_a0), (1, iv y3), (2, iv y4), (3, iv y30), (4, .func (.func 71) #[] #[]), (11, .bool r116.2.2), (16, iv r116.2.1), (10, .bool (decide ((w64 (r116.2.1 - y3)) ≥ (w64 ((w64 (y4 - y3)).tdiv (8 : Int))))))]) (L' := (.own s_a0 34 1 (encs rs118)) :: L) ⟨rfl, rfl, rfl, rfl, rfl, rfl, rfl, rfl, trivial⟩ rfl ?_
  refine Cd.region ?_
  refine mv0 rfl ?_
  refine mv0 rfl ?_
  refine mv0 rfl ?_
  refine mv0 rfl ?_
  refine mv0 rfl ?_
  obtain ⟨r131, h132, H⟩ := bind_some H
  refine Lst.call rfl rfl (by decide) (vs := [Sl.v s_a0, iv y3, iv r116.2.1, iv y30, .func (.func 71) #[] #[]]) ⟨rfl, rfl, rfl, rfl, rfl, trivial⟩ Try.call81 (ih h132 w0 _ M _ hM fm119 (All.monoLR fa120 fl (.refl _))) (fun F136 L' v hF137 hv => ?_)
  obtain ⟨rs133, rfl, rfl, fm134, fa135⟩ := hv
  refine nt0 ?_
  refine Cd.region ?_
  refine mv0 rfl ?_
  refine Lst.r (Ev.add rfl rfl) ?_
  refine Lst.r (Ev.assign rfl) ?_
  refine Lst.nil ?_
  refine At.in_normal ?_
  exact At.meet (k2, w64 (r116.2.1 + (1 : Int)), y4, y30, decide ((w64 (r116.2.1 - y3)) ≥ (w64 ((w64 (y4 - y3)).tdiv (8 : Int)))), r116.2.2, r131, rs133) (FLe.trans (FLe.trans (FLe.trans (FLe.trans (FLe.trans hF13 hF45) hF66) hF92) hF122) hF137) ⟨rfl, rfl, rfl, rfl, rfl, rfl, rfl, trivial⟩ rfl ⟨⟨hgo2 _ (some_inj H).symm, fm134, (All.monoLR fa135 fl (.refl _))⟩, Nat.lt_succ_self _⟩
theorem slices_pdqsortCmpFunc_int_Chains_1_sim {fu : Nat} {a0 : List (List Int)} {a1 : Int} {a2 : Int} {a3 : Int} {s_a0 : Sl} {rs_a0 : List (LR Int)} {r : (List (List Int))} (H : slices_pdqsortCmpFunc_int_Chains_1 fu a0 a1 a2 a3 = some r) (w0 : World) (F : Frz) (M L : List Item) (hM : M.Sublist L) (hm_a0 : rs_a0.map LR.v = a0) (ha_a0 : All LR.rel w0 F M rs_a0) : Ok Try.prog w0 81 [Sl.v s_a0, iv a1, iv a2, iv a3, .func (.func 71) #[] #[]] F ((.own s_a0 34 1 (encs rs_a0)) :: L) (fun Fx L' v => ∃ (rs2 : List (LR Int)), v = .tuple #[] ∧ L' = (.own s_a0 34 1 (encs rs2)) :: L ∧ rs2.map LR.v = r ∧ All LR.rel w0 Fx M rs2) :=
  slices_pdqsortCmpFunc_int_Chains_1_simR fu H w0 F M L hM hm_a0 ha_a0
set_option maxRecDepth 20000 in
theorem slices_SortFunc_int_int_Chains_1_sim {fu : Nat} {a0 : List (List Int)} {s_a0 : Sl} {rs_a0 : List (LR Int)} {r : (List (List Int))} (H : slices_SortFunc_int_int_Chains_1 fu a0 = some r) (w0 : World) (F : Frz) (M L : List Item) (hM : M.Sublist L) (hm_a0 : rs_a0.map LR.v = a0) (ha_a0 : All LR.rel w0 F M rs_a0) : Ok Try.prog w0 70 [Sl.v s_a0, .func (.func 71) #[] #[]] F ((.own s_a0 34 1 (encs rs_a0)) :: L) (fun Fx L' v => ∃ (rs2 : List (LR Int)), v = .tuple #[] ∧ L' = (.own s_a0 34 1 (encs rs2)) :: L ∧ rs2.map LR.v = r ∧ All LR.rel w0 Fx M rs2) := by
 unfold slices_SortFunc_int_int_Chains_1 at H
 refine Ok.enter (m := 2) (n := 14) Try.func70 rfl rfl rfl (by decide) ?_
 refine Cd.env (e' := [(0, Sl.v s_a0), (1, .func (.func 71) #[] #[])]) rfl ?_
 refine sr0 ?_
 refine mv0 rfl ?_
 refine Lst.r (Ev.lenM (map_len hm_a0) (Ev.lenS (α := LR Int) (xs := rs_a0) (by decide) rfl rfl Try.runUnderlying56 (rdo 0 rfl rfl rfl))) ?_
 refine Lst.r (Ev.assign rfl) ?_
 refine nt0 ?_
 refine Cd.region ?_
 refine mv0 rfl ?_
 refine mv0 rfl ?_
 refine mv0 rfl ?_
 refine Lst.r (Ev.convTo64 rfl Try.runUnderlying3 Try.runUnderlying84) ?_
 obtain ⟨r3, h4, H⟩ := bind_some H
 refine Lst.call1 rfl rfl (by decide) (vs := [.int .u64 (BitVec.ofInt 64 (a0.length : Int)).toNat]) ⟨rfl, trivial⟩ Try.call82 (math_bits_Len_sim h4 w0 _ M _ (sc1 hM)) ?_
 refine mv0 rfl ?_
 obtain ⟨r7, h8, H⟩ := bind_some H
 refine Lst.call rfl rfl (by decide) (vs := [Sl.v s_a0, iv (0 : Int), iv (a0.length : Int), iv r3, .func (.func 71) #[] #[]]) ⟨rfl, rfl, rfl, rfl, rfl, trivial⟩ Try.call81 (slices_pdqsortCmpFunc_int_Chains_1_sim h8 w0 _ M _ hM hm_a0 (All.monoLR ha_a0 fl (.refl _))) (fun F12 L' v hF13 hv => ?_)
 obtain ⟨rs9, rfl, rfl, fm10, fa11⟩ := hv
 refine Lst.nil ?_
 obtain rfl := some_inj H
 exact At.ret0 (.inr rfl) rfl hF13 (sk1 (.refl _)) ⟨rs9, rfl, rfl, fm10, (All.monoLR fa11 fl (.refl _))⟩
set_option maxRecDepth 20000 in
theorem poset_Chains_sim {fu : Nat} {a0 : Poset} {s_a0_1 : Sl} {r : (List (List Int)) × Int} (H : poset_Chains fu a0 = some r) (w0 : World) (F : Frz) (M L : List Item) (hM : M.Sublist L) (hs_a0_1 : Rd w0 F M s_a0_1 a0.Pairs) : Ok Try.prog w0 41 [.agg (enc (PosetR.mk a0 s_a0_1)).toArray] F (L) (fun Fx L' v => ∃ (s1 : Sl) (rs2 : List (LR Int)), v = .tuple #[Sl.v s1, iv r.2] ∧ L' = (.own s1 34 1 (encs rs2)) :: L ∧ rs2.map LR.v = r.1 ∧ All LR.rel w0 Fx M rs2) := by
 unfold poset_Chains at H
 refine Ok.enter (m := 1) (n := 88) Try.func41 rfl rfl rfl (by decide) ?_
 refine Cd.env (e' := [(0, .agg (enc (PosetR.mk a0 s_a0_1)).toArray)]) rfl ?_
 refine sr0 ?_
 refine Lst.box rfl rfl (by decide) rfl (cs := enc (PosetR.mk a0 s_a0_1)) rfl (fun b1 => ?_)
 have ha4 : All LR.rel w0 F [] ([] : List (LR Int)) := All.nil
 have ha4m : List.map LR.v ([] : List (LR Int)) = ([] : List (List Int)) := rfl
 refine Lst.addNil 34 1 ?_
 refine Lst.r (Ev.assign rfl) ?_
 refine Lst.r (Ev.assign rfl) ?_
 refine nsr ?_
 refine Lst.r (Ev.loadA (i := 1) rfl rfl Try.isAgg24 Try.sizeOf24 (ch := enc (PosetR.mk a0 s_a0_1)) (Enc.len _) gh0) ?_
 obtain ⟨r5, h6, H⟩ := bind_some H
 refine Lst.call1 rfl rfl (by decide) (vs := [.agg (enc (PosetR.mk a0 s_a0_1)).toArray]) ⟨rfl, trivial⟩ Try.call53 (poset_check_sim h6 w0 _ M _ (sc2 hM) (hs_a0_1.mono fl (.refl _))) ?_
 refine mv0 rfl ?_
 refine Lst.r (Ev.extract rfl rfl) ?_
 refine Lst.r (Ev.extract rfl rfl) ?_
 refine Lst.alloc (z := .agg (enc (Vector.replicate 20 (Vector.replicate 20 false))).toArray) (cs := enc (Vector.replicate 20 (Vector.replicate 20 false))) rfl rfl (by decide) (fun _ => by kernel_rfl) rfl (fun b9 => ?_)
 refine Lst.store (i := 0) rfl rfl rfl rfl rfl Try.sizeOf89 (vs := enc r5.1) rfl (Enc.len _) (Enc.one _) (cs' := enc r5.1) (Put.here ((Enc.len _).trans (Enc.len _).symm)) (L' := (.blk b9 (enc r5.1) 89) :: (.own Sl.nil 34 1 (encs ([] : List (LR Int)))) :: (.blk b1 (enc (PosetR.mk a0 s_a0_1)) 24) :: L) rfl ?_
 refine Lst.r (Ev.assign rfl) ?_
 refine nt0 ?_
 refine Cd.seq ?_
 refine sr0 ?_
 refine mv0 rfl ?_
 refine Lst.r (Ev.neq rfl rfl) ?_
 refine nt0 ?_
 rcases Bool.eq_false_or_eq_true (r5.2 != (0 : Int)) with hb11 | hb11
 ·replace H := ite_t hb11 H
  refine Cd.condT rfl hb11 ?_
  refine sr0 ?_
  refine mv0 rfl ?_
  have ha13 : All LR.rel w0 F [] ([] : List (LR Int)) := All.nil
  have ha13m : List.map LR.v ([] : List (LR Int)) = ([] : List (List Int)) := rfl
  refine Lst.addNil 34 1 ?_
  refine Lst.r (Ev.assign rfl) ?_
  refine Lst.r (Ev.assign rfl) ?_
  refine nt0 ?_
  obtain rfl := some_inj H
  refine Cd.ret ?_
  refine At.then_ret ?_
  exact At.ret2 rfl (Res.tmp rfl) (Res.tmp rfl) fl (sk1 (sc1 (sc1 (sc1 (.refl _))))) ⟨Sl.nil, ([] : List (LR Int)), rfl, rfl, ha13m, (All.monoLR ha13 fl (List.nil_sublist _))⟩
 replace H := ite_f hb11 H
 refine Cd.condF rfl hb11 ?_
 refine Cd.skip ?_
 refine At.then ?_
 refine Cd.seq ?_
 obtain ⟨r14, h15, H⟩ := bind_some H
 obtain ⟨r20, h21, H⟩ := bind_some H
 obtain ⟨o29, h30, H⟩ := Let_some H
 refine Cd.headMeet (σ := Sl × (List Pair)) 13 (fun (s27, l28) => [(1, pv b1 0), (6, Sl.v s27), (35, iv r20.2)]) (fun (s27, l28) => (.own s27 49 2 (encs l28)) :: (.blk b9 (enc r5.1) 89) :: (.own Sl.nil 34 1 (encs ([] : List (LR Int)))) :: (.blk b1 (enc (PosetR.mk a0 s_a0_1)) 24) :: L) (fun _ (s27, l28) => l28 = o29) (by kernel_rfl) (by kernel_rfl) (behind_sink (by kernel_rfl) (by kernel_rfl) (by kernel_rfl)) (by kernel_rfl) (fun hsel hlt => ?_) ?_
 ·refine HdJ.keep (fun w => St w0 F ((.blk b9 (enc r5.1) 89) :: (.own Sl.nil 34 1 (encs ([] : List (LR Int)))) :: (.blk b1 (enc (PosetR.mk a0 s_a0_1)) 24) :: L) w) (fun w h => trivial) ?_
  refine HdJ.ts hsel hlt 0 (sk1 (sk1 (sk1 (.refl _)))) (Ev.fieldAddr (off' := 0) rfl Try.runUnderlying24 rfl Try.sizeOf3 rfl rfl) ?_
  refine HdJ.ts hsel hlt 1 (sk1 (sk1 (sk1 (.refl _)))) (Ev.load (i := 2) rfl rfl Try.isAgg3 (v := iv a0.N) ((PosetR.get_N gh0).off (by rfl))) ?_
  refine HdJ.ts hsel hlt 2 (sk1 (sk1 (sk1 (.refl _)))) (Ev.fieldAddr (off' := 0) rfl Try.runUnderlying24 rfl Try.sizeOf3 rfl rfl) ?_
  refine HdJ.ts hsel hlt 3 (sk1 (sk1 (sk1 (.refl _)))) (Ev.load (i := 2) rfl rfl Try.isAgg3 (v := iv a0.N) ((PosetR.get_N gh0).off (by rfl))) ?_
  refine HdJ.ts hsel hlt 4 (sk1 (sk1 (sk1 (.refl _)))) (Ev.loadA (i := 0) rfl rfl Try.isAgg89 Try.sizeOf89 (ch := enc r5.1) (Enc.len _) gh0) ?_
  refine HdJ.ts hsel hlt 5 (sk1 (sk1 (sk1 (.refl _)))) (Ev.fieldAddr (off' := 0) rfl Try.runUnderlying24 rfl Try.sizeOf3 rfl rfl) ?_
  refine HdJ.ts hsel hlt 6 (sk1 (sk1 (sk1 (.refl _)))) (Ev.load (i := 2) rfl rfl Try.isAgg3 (v := iv a0.N) ((PosetR.get_N gh0).off (by rfl))) ?_
  refine HdJ.o1 7 (fun inv => ?_)
  refine Lst.call rfl rfl (by decide) (vs := [.agg (enc r5.1).toArray, iv a0.N]) ⟨rfl, rfl, trivial⟩ Try.call54 (poset_order_all_sim h15 w0 _ M _ (sc2 (sc1 hM))) (fun F32 L' v hF33 hv => ?_)
  obtain ⟨s31, rfl, rfl⟩ := hv
  refine Lst.nil ?_
  refine At.hd inv (fun w h => (h.weaken hF33).sublist (sc1 (sk1 (sk1 (sk1 (.refl _)))))) ?_
  refine HdJ.o1 8 (fun inv => ?_)
  refine Lst.call rfl rfl (by decide) (vs := [iv a0.N, iv a0.N, Sl.v s31]) ⟨rfl, rfl, rfl, trivial⟩ Try.call35 (match_Most_sim h21 w0 _ _ _ (.refl _) (rdo 0 rfl rfl rfl)) (fun F35 L' v hF36 hv => ?_)
  obtain ⟨s34, rfl, rfl⟩ := hv
  refine Lst.nil ?_
  refine At.hd inv (fun w h => (h.weaken (FLe.trans hF33 hF36)).sublist (sc1 (sc1 (sk1 (sk1 (sk1 (.refl _))))))) ?_
  refine HdJ.keep (fun w => St w0 F35 ((.own s34 49 2 (encs r20.1)) :: (.own s31 49 2 (encs r14)) :: (.blk b9 (enc r5.1) 89) :: (.own Sl.nil 34 1 (encs ([] : List (LR Int)))) :: (.blk b1 (enc (PosetR.mk a0 s_a0_1)) 24) :: L) w) (fun w h => (h.weaken (FLe.trans hF33 hF36)).sublist (sc1 (sc1 (sk1 (sk1 (sk1 (.refl _))))))) ?_
  refine HdJ.ts hsel hlt 9 (sk1 (sk1 (sk1 (sk1 (sk1 (.refl _)))))) (Ev.move rfl) ?_
  refine HdJ.ts hsel hlt 10 (sk1 (sk1 (sk1 (sk1 (sk1 (.refl _)))))) (Ev.extract rfl rfl) ?_
  refine HdJ.ts hsel hlt 11 (sk1 (sk1 (sk1 (sk1 (sk1 (.refl _)))))) (Ev.extract rfl rfl) ?_
  refine HdJ.ts hsel hlt 12 (sk1 (sk1 (sk1 (sk1 (sk1 (.refl _)))))) (Ev.assign rfl) ?_
  refine HdJ.done (by kernel_rfl) ?_
  refine At.less (L' := (.own s34 49 2 (encs r20.1)) :: (.blk b9 (enc r5.1) 89) :: (.own Sl.nil 34 1 (encs ([] : List (LR Int)))) :: (.blk b1 (enc (PosetR.mk a0 s_a0_1)) 24) :: L) (sk1 (sc1 (sk1 (sk1 (sk1 (.refl _)))))) ?_
  exact At.meetN (s34, r20.1) (FLe.trans hF33 hF36) ⟨rfl, rfl, rfl, trivial⟩ rfl h30
 rintro F37 ⟨s27, l28⟩ hF38 hy
 subst hy
 refine Lst.as (e' := [(1, pv b1 0), (6, Sl.v s27), (35, iv r20.2)]) (L' := (.own s27 49 2 (encs l28)) :: (.blk b9 (enc r5.1) 89) :: (.own Sl.nil 34 1 (encs ([] : List (LR Int)))) :: (.blk b1 (enc (PosetR.mk a0 s_a0_1)) 24) :: L) ⟨rfl, rfl, rfl, trivial⟩ rfl ?_
 refine Lst.r (Ev.assign rfl) ?_
 refine nsr ?_
 refine Lst.buildSlice (α := Int) (xs := ([(-1 : Int)] : List Int)) (pv := [(0, iv (-1 : Int))]) rfl rfl (by decide) ⟨rfl, rfl, trivial⟩ (run_buildSlice (α := Int) (z0 := (0 : Int)) (xs := ([(-1 : Int)] : List Int)) Try.runUnderlying34 Try.sizeOf3 Try.zeroValue3 rfl rfl rfl (by decide) rfl (fill_cons (cs := encs (List.replicate 1 (0 : Int))) (cs' := encs ((List.replicate 1 (0 : Int)).set 0 (-1 : Int))) (vs := [iv (-1 : Int)]) rfl rfl rfl ((Put.elemN (s := 1) (i := 0) (x := (0 : Int)) (y := (-1 : Int)) rfl rfl (Put.here (vs := [iv (-1 : Int)]) rfl)).off rfl) fill_nil)) rfl rfl (by decide) (fun s39 _ => ?_)
 refine Lst.r (Ev.fieldAddr (off' := 0) rfl Try.runUnderlying24 rfl Try.sizeOf3 rfl rfl) ?_
 refine Lst.r (Ev.load (i := 4) rfl rfl Try.isAgg3 (v := iv a0.N) ((PosetR.get_N gh0).off (by rfl))) ?_
 obtain ⟨r41, h42, H⟩ := bind_some H
 refine Lst.call rfl rfl (by decide) (vs := [Sl.v s39, iv a0.N]) ⟨rfl, rfl, trivial⟩ Try.call67 (slices_Repeat_int_int_sim h42 w0 _ _ _ (.refl _) (rdo 0 rfl rfl rfl)) (fun F45 L' v hF46 hv => ?_)
 obtain ⟨s43, rfl, rfl⟩ := hv
 refine Lst.r (Ev.assign rfl) ?_
 refine nsr ?_
 refine Lst.buildSlice (α := Bool) (xs := ([true] : List Bool)) (pv := [(0, .bool true)]) rfl rfl (by decide) ⟨rfl, rfl, trivial⟩ (run_buildSlice (α := Bool) (z0 := false) (xs := ([true] : List Bool)) Try.runUnderlying75 Try.sizeOf4 Try.zeroValue4 rfl rfl rfl (by decide) rfl (fill_cons (cs := encs (List.replicate 1 false)) (cs' := encs ((List.replicate 1 false).set 0 true)) (vs := [.bool true]) rfl rfl rfl ((Put.elemN (s := 1) (i := 0) (x := false) (y := true) rfl rfl (Put.here (vs := [.bool true]) rfl)).off rfl) fill_nil)) rfl rfl (by decide) (fun s47 _ => ?_)
 refine Lst.r (Ev.fieldAddr (off' := 0) rfl Try.runUnderlying24 rfl Try.sizeOf3 rfl rfl) ?_
 refine Lst.r (Ev.load (i := 6) rfl rfl Try.isAgg3 (v := iv a0.N) ((PosetR.get_N gh0).off (by rfl))) ?_
 obtain ⟨r49, h50, H⟩ := bind_some H
 refine Lst.call rfl rfl (by decide) (vs := [Sl.v s47, iv a0.N]) ⟨rfl, rfl, trivial⟩ Try.call69 (slices_Repeat_bool_bool_sim h50 w0 _ _ _ (.refl _) (rdo 0 rfl rfl rfl)) (fun F53 L' v hF54 hv => ?_)
 obtain ⟨s51, rfl, rfl⟩ := hv
 refine Lst.r (Ev.assign rfl) ?_
 refine nt0 ?_
 refine Cd.seq ?_
 refine sr0 ?_
 refine mv0 rfl ?_
 refine Lst.r (Ev.lenS (α := Pair) (xs := l28) (by decide) rfl rfl Try.runUnderlying22 (rdo 4 rfl rfl rfl)) ?_
 refine mv0 rfl ?_
 refine nt0 ?_
 refine Cd.block ?_
 refine Cd.bound (Rd.le (α := Pair) (xs := l28) (by decide) (rdo 4 rfl rfl rfl)) (fun hN126 => ?_)
 obtain ⟨ol55, H, HKl55⟩ := bind_some H
 refine Cd.loop (σ := Nat × Nat × (List Bool) × (List Int)) (fun (i55, k55, l56, l57) => [(8, Sl.v s43), (9, Sl.v s51), (44, Sl.v s27), (45, iv (l28.length : Int)), (46, iv (i55 : Int))]) (fun (i55, k55, l56, l57) => (.own s51 4 1 (encs l56)) :: (.own s47 4 1 (encs ([true] : List Bool))) :: (.own s43 3 1 (encs l57)) :: (.own s39 3 1 (encs ([(-1 : Int)] : List Int))) :: (.own s27 49 2 (encs l28)) :: (.blk b9 (enc r5.1) 89) :: (.own Sl.nil 34 1 (encs ([] : List (LR Int)))) :: (.blk b1 (enc (PosetR.mk a0 s_a0_1)) 24) :: L) (fun _ => (fun (i55, k55, l56, l57) => rangeF (poset_Chains_B0 l28) k55 i55 (l56, l57) = some ol55 ∧ i55 + k55 = l28.length)) (fun (i55, k55, l56, l57) => k55) (0, l28.length, r49, r41) ⟨rfl, rfl, rfl, rfl, rfl, trivial⟩ rfl ⟨H, by omega⟩ ?_
 rintro F58 ⟨i55, k55, l56, l57⟩ hF59 ⟨H, hik55⟩
 refine Cd.as (e' := [(8, Sl.v s43), (9, Sl.v s51), (44, Sl.v s27), (45, iv (l28.length : Int)), (46, iv (i55 : Int))]) (L' := (.own s51 4 1 (encs l56)) :: (.own s47 4 1 (encs ([true] : List Bool))) :: (.own s43 3 1 (encs l57)) :: (.own s39 3 1 (encs ([(-1 : Int)] : List Int))) :: (.own s27 49 2 (encs l28)) :: (.blk b9 (enc r5.1) 89) :: (.own Sl.nil 34 1 (encs ([] : List (LR Int)))) :: (.blk b1 (enc (PosetR.mk a0 s_a0_1)) 24) :: L) ⟨rfl, rfl, rfl, rfl, rfl, trivial⟩ rfl ?_
 rcases k55 with _ | k55
 ·have hc55 : decide ((i55 : Int) < (l28.length : Int)) = false := decide_eq_false (by omega)
  replace H := rangeF_end H
  refine sr0 ?_
  refine Lst.r (Ev.lss rfl rfl) ?_
  refine nt0 ?_
  refine Cd.seq ?_
  refine Cd.condF rfl hc55 ?_
  refine Cd.exit ?_
  refine At.then_exit ?_
  refine At.then_exit ?_
  refine At.in_exit ?_
  subst H
  replace H := HKl55
  try dsimp only [Sum.elim_inl] at H
  refine At.then ?_
  refine sr0 ?_
  have ha76 : All LR.rel w0 F58 [] ([] : List (LR Int)) := All.nil
  have ha76m : List.map LR.v ([] : List (LR Int)) = ([] : List (List Int)) := rfl
  refine Lst.addNil 34 1 ?_
  refine Lst.r (Ev.assign rfl) ?_
  refine nt0 ?_
  refine Cd.seq ?_
  refine sr0 ?_
  refine mv0 rfl ?_
  refine Lst.r (Ev.lenS (α := Bool) (xs := l56) (by decide) rfl rfl Try.runUnderlying75 (rdo 1 rfl rfl rfl)) ?_
  refine mv0 rfl ?_
  refine nt0 ?_
  refine Cd.block ?_
  refine Cd.bound (Rd.le (α := Bool) (xs := l56) (by decide) (rdo 1 rfl rfl rfl)) (fun hN125 => ?_)
  obtain ⟨ol77, H, HKl77⟩ := bind_some H
  refine Cd.loop (σ := Nat × Nat × Sl × (List (List Int)) × (List (LR Int))) (fun (i77, k77, s78, l79, rs80) => [(8, Sl.v s43), (12, Sl.v s78), (61, Sl.v s51), (62, iv (l56.length : Int)), (63, iv (i77 : Int))]) (fun (i77, k77, s78, l79, rs80) => (.own s78 34 1 (encs rs80)) :: (.own s51 4 1 (encs l56)) :: (.own s47 4 1 (encs ([true] : List Bool))) :: (.own s43 3 1 (encs l57)) :: (.own s39 3 1 (encs ([(-1 : Int)] : List Int))) :: (.own s27 49 2 (encs l28)) :: (.blk b9 (enc r5.1) 89) :: (.own Sl.nil 34 1 (encs ([] : List (LR Int)))) :: (.blk b1 (enc (PosetR.mk a0 s_a0_1)) 24) :: L) (fun Fx => (fun (i77, k77, s78, l79, rs80) => rangeF (poset_Chains_B2 fu l56 l57) k77 i77 l79 = some ol77 ∧ i77 + k77 = l56.length ∧ rs80.map LR.v = l79 ∧ All LR.rel w0 Fx M rs80)) (fun (i77, k77, s78, l79, rs80) => k77) (0, l56.length, Sl.nil, ([] : List (List Int)), ([] : List (LR Int))) ⟨rfl, rfl, rfl, rfl, rfl, trivial⟩ rfl ⟨H, by omega, ha76m, (All.monoLR ha76 fl (List.nil_sublist _))⟩ ?_
  rintro F83 ⟨i77, k77, s78, l79, rs80⟩ hF84 ⟨H, hik77, fm81, fa82⟩
  refine Cd.as (e' := [(8, Sl.v s43), (12, Sl.v s78), (61, Sl.v s51), (62, iv (l56.length : Int)), (63, iv (i77 : Int))]) (L' := (.own s78 34 1 (encs rs80)) :: (.own s51 4 1 (encs l56)) :: (.own s47 4 1 (encs ([true] : List Bool))) :: (.own s43 3 1 (encs l57)) :: (.own s39 3 1 (encs ([(-1 : Int)] : List Int))) :: (.own s27 49 2 (encs l28)) :: (.blk b9 (enc r5.1) 89) :: (.own Sl.nil 34 1 (encs ([] : List (LR Int)))) :: (.blk b1 (enc (PosetR.mk a0 s_a0_1)) 24) :: L) ⟨rfl, rfl, rfl, rfl, rfl, trivial⟩ rfl ?_
  rcases k77 with _ | k77
  ·have hc77 : decide ((i77 : Int) < (l56.length : Int)) = false := decide_eq_false (by omega)
   replace H := rangeF_end H
   refine sr0 ?_
   refine Lst.r (Ev.lss rfl rfl) ?_
   refine nt0 ?_
   refine Cd.seq ?_
   refine Cd.condF rfl hc77 ?_
   refine Cd.exit ?_
   refine At.then_exit ?_
   refine At.then_exit ?_
   refine At.in_exit ?_
   subst H
   replace H := HKl77
   refine At.then ?_
   refine sr0 ?_
   refine mv0 rfl ?_
   obtain ⟨r118, h119, H⟩ := bind_some H
   refine Lst.call rfl rfl (by decide) (vs := [Sl.v s78, .func (.func 71) #[] #[]]) ⟨rfl, rfl, trivial⟩ Try.call70 (slices_SortFunc_int_int_Chains_1_sim h119 w0 _ M _ (sc8 hM) fm81 (All.monoLR fa82 fl (.refl _))) (fun F123 L' v hF124 hv => ?_)
   obtain ⟨rs120, rfl, rfl, fm121, fa122⟩ := hv
   refine nsr ?_
   refine mv0 rfl ?_
   refine Lst.r (Ev.assign rfl) ?_
   refine Lst.r (Ev.assign rfl) ?_
   refine nt0 ?_
   obtain rfl := some_inj H
   refine Cd.ret ?_
   exact At.ret2 rfl (Res.tmp rfl) (Res.tmp rfl) (FLe.trans (FLe.trans (FLe.trans (FLe.trans (FLe.trans hF38 hF46) hF54) hF59) hF84) hF124) (sk1 (sc1 (sc1 (sc1 (sc1 (sc1 (sc1 (sc1 (sc1 (.refl _)))))))))) ⟨s78, rs120, rfl, rfl, fm121, (All.monoLR fa122 fl (.refl _))⟩
  have hc77 : decide ((i77 : Int) < (l56.length : Int)) = true := decide_eq_true (by omega)
  obtain ⟨c77, H, hgo77⟩ := rangeF_go H
  unfold poset_Chains_B2 at H
  try dsimp only at H
  refine sr0 ?_
  refine Lst.r (Ev.lss rfl rfl) ?_
  refine nt0 ?_
  refine Cd.seq ?_
  refine Cd.condT rfl hc77 ?_
  refine Cd.skip ?_
  refine At.then ?_
  refine Cd.seq ?_
  refine Cd.block ?_
  refine sr0 ?_
  refine mv0 rfl ?_
  obtain ⟨x85, h86, H⟩ := bind_some H
  have g87 := lat_some h86
  refine Lst.r (Ev.indexS (α := Bool) (xs := l56) rfl rfl Try.runUnderlying75 Try.sizeOf4 rfl (by decide) (rdo 1 rfl rfl rfl) g87.1 g87.2.1) ?_
  refine Lst.r (Ev.loadS (α := Bool) rfl (rdo 1 rfl rfl rfl) Try.isAgg4 (v := .bool x85) ((Get.elemN (s := 1) (x := x85) rfl g87.2.2 gh0).off (by omega))) ?_
  refine Lst.r (Ev.assign rfl) ?_
  refine Lst.r (Ev.assign rfl) ?_
  refine nt0 ?_
  refine Cd.seq ?_
  refine sr0 ?_
  refine mv0 rfl ?_
  refine Lst.r (Ev.not rfl) ?_
  refine nt0 ?_
  rcases Bool.eq_false_or_eq_true (!x85) with hb88 | hb88
  ·replace H := ite_t hb88 H
   refine Cd.condT rfl hb88 ?_
   refine Cd.exit ?_
   refine At.then_exit ?_
   refine At.in_exit ?_
   refine At.then ?_
   refine Cd.region ?_
   refine Lst.r (Ev.incr (by omega) rfl rfl) ?_
   refine mv0 rfl ?_
   refine Lst.nil ?_
   exact At.meet (i77 + 1, k77, s78, l79, rs80) hF84 ⟨rfl, rfl, rfl, rfl, rfl, trivial⟩ rfl ⟨⟨hgo77 _ (some_inj H).symm, by omega, fm81, (All.monoLR fa82 fl (.refl _))⟩, Nat.lt_succ_self _⟩
  replace H := ite_f hb88 H
  refine Cd.condF rfl hb88 ?_
  refine Cd.skip ?_
  refine At.then ?_
  refine sr0 ?_
  refine Lst.addNil 3 1 ?_
  refine Lst.r (Ev.assign rfl) ?_
  refine nt0 ?_
  refine Cd.seq ?_
  refine Cd.block ?_
  obtain ⟨ol90, H, HKl90⟩ := andThen_some H
  refine Cd.loop (σ := Nat × Int × Sl × (List Int)) (fun (k90, y91, s92, l93) => [(8, Sl.v s43), (12, Sl.v s78), (13, iv y91), (15, Sl.v s92), (61, Sl.v s51), (62, iv (l56.length : Int)), (63, iv (i77 : Int))]) (fun (k90, y91, s92, l93) => (.own s92 3 1 (encs l93)) :: (.own s78 34 1 (encs rs80)) :: (.own s51 4 1 (encs l56)) :: (.own s47 4 1 (encs ([true] : List Bool))) :: (.own s43 3 1 (encs l57)) :: (.own s39 3 1 (encs ([(-1 : Int)] : List Int))) :: (.own s27 49 2 (encs l28)) :: (.blk b9 (enc r5.1) 89) :: (.own Sl.nil 34 1 (encs ([] : List (LR Int)))) :: (.blk b1 (enc (PosetR.mk a0 s_a0_1)) 24) :: L) (fun _ => (fun (k90, y91, s92, l93) => whileM (poset_Chains_B4 l57) k90 (y91, l93) = some ol90)) (fun (k90, y91, s92, l93) => k90) (fu, (i77 : Int), Sl.nil, ([] : List Int)) ⟨rfl, rfl, rfl, rfl, rfl, rfl, rfl, trivial⟩ rfl H ?_
  rintro F94 ⟨k90, y91, s92, l93⟩ hF95 H
  refine Cd.as (e' := [(8, Sl.v s43), (12, Sl.v s78), (13, iv y91), (15, Sl.v s92), (61, Sl.v s51), (62, iv (l56.length : Int)), (63, iv (i77 : Int))]) (L' := (.own s92 3 1 (encs l93)) :: (.own s78 34 1 (encs rs80)) :: (.own s51 4 1 (encs l56)) :: (.own s47 4 1 (encs ([true] : List Bool))) :: (.own s43 3 1 (encs l57)) :: (.own s39 3 1 (encs ([(-1 : Int)] : List Int))) :: (.own s27 49 2 (encs l28)) :: (.blk b9 (enc r5.1) 89) :: (.own Sl.nil 34 1 (encs ([] : List (LR Int)))) :: (.blk b1 (enc (PosetR.mk a0 s_a0_1)) 24) :: L) ⟨rfl, rfl, rfl, rfl, rfl, rfl, rfl, trivial⟩ rfl ?_
  rcases k90 with _ | k90
  ·cases H
  obtain ⟨c90, H, hgo90, hbrk90, hret90⟩ := whileM_go H
  unfold poset_Chains_B4 at H
  try dsimp only at H
  refine Cd.seq ?_
  refine sr0 ?_
  refine mv0 rfl ?_
  refine Lst.r (Ev.geq rfl rfl) ?_
  refine nt0 ?_
  rcases (Bool.eq_false_or_eq_true (decide (y91 ≥ (0 : Int)))).symm with hb96 | hb96
  ·replace H := ite_f hb96 H
   refine Cd.condF rfl hb96 ?_
   refine Cd.exit ?_
   refine At.then_exit ?_
   refine At.then_exit ?_
   refine At.in_exit ?_
   have H := hbrk90 _ (some_inj H).symm
   subst H
   replace H := HKl90
   try dsimp only [Sum.elim_inl] at H
   refine At.then ?_
   refine Cd.region ?_
   refine mv0 rfl ?_
   refine mv0 rfl ?_
   refine Lst.freeze (i := 0) rfl (fun F97 hF98 hz99 => ?_)
   have hq100 : Rd w0 F97 [] s92 l93 := Rd.frozen hz99 rfl rfl
   refine Lst.its (L' := (.own s78 34 1 (encs rs80)) :: (.own s51 4 1 (encs l56)) :: (.own s47 4 1 (encs ([true] : List Bool))) :: (.own s43 3 1 (encs l57)) :: (.own s39 3 1 (encs ([(-1 : Int)] : List Int))) :: (.own s27 49 2 (encs l28)) :: (.blk b9 (enc r5.1) 89) :: (.own Sl.nil 34 1 (encs ([] : List (LR Int)))) :: (.blk b1 (enc (PosetR.mk a0 s_a0_1)) 24) :: L) rfl ?_
   have hm103 : ([(LR.mk l93 s92)] : List (LR Int)).map LR.v = ([l93] : List (List Int)) := rfl
   have ha104 : All LR.rel w0 F97 [] ([(LR.mk l93 s92)] : List (LR Int)) := All.of1 (hq100.mono fl (List.nil_sublist _))
   refine Lst.buildSlice (α := LR Int) (xs := ([(LR.mk l93 s92)] : List (LR Int))) (pv := [(0, Sl.v s92)]) rfl rfl (by decide) ⟨rfl, rfl, trivial⟩ (run_buildSlice (α := LR Int) (z0 := ((LR.mk [] Sl.nil) : LR Int)) (xs := ([(LR.mk l93 s92)] : List (LR Int))) Try.runUnderlying56 Try.sizeOf34 Try.zeroValue34 rfl rfl rfl (by decide) rfl (fill_cons (cs := encs (List.replicate 1 ((LR.mk [] Sl.nil) : LR Int))) (cs' := encs ((List.replicate 1 ((LR.mk [] Sl.nil) : LR Int)).set 0 (LR.mk l93 s92))) (vs := [Sl.v s92]) rfl rfl rfl ((Put.elemN (s := 1) (i := 0) (x := ((LR.mk [] Sl.nil) : LR Int)) (y := (LR.mk l93 s92)) rfl rfl (Put.here (vs := [Sl.v s92]) rfl)).off rfl) fill_nil)) rfl rfl (by decide) (fun s101 _ => ?_)
   obtain ⟨u105, h106, H⟩ := bind_some H
   have hm108 : (rs80 ++ ([(LR.mk l93 s92)] : List (LR Int))).map LR.v = l79 ++ ([l93] : List (List Int)) := map_app fm81 hm103
   have ha109 : All LR.rel w0 F97 M (rs80 ++ ([(LR.mk l93 s92)] : List (LR Int))) := All.app (All.monoLR fa82 (FLe.trans hF95 hF98) (.refl _)) (All.monoLR ha104 fl (List.nil_sublist _))
   refine Lst.append (i := 1) (α := LR Int) (xs := rs80) (ys := ([(LR.mk l93 s92)] : List (LR Int))) rfl rfl (by decide) rfl rfl Try.runUnderlying56 Try.typeInfo34 rfl rfl rfl rfl rfl rfl (rdo 0 rfl rfl rfl) rfl (by have := room_some h106; have := map_len fm81; have := map_len hm103; omega) rfl (fun s107 => ?_)
   refine Lst.its (L' := (.own s101 34 1 (encs ([(LR.mk l93 s92)] : List (LR Int)))) :: (.own s107 34 1 (encs (rs80 ++ ([(LR.mk l93 s92)] : List (LR Int))))) :: (.own s51 4 1 (encs l56)) :: (.own s47 4 1 (encs ([true] : List Bool))) :: (.own s43 3 1 (encs l57)) :: (.own s39 3 1 (encs ([(-1 : Int)] : List Int))) :: (.own s27 49 2 (encs l28)) :: (.blk b9 (enc r5.1) 89) :: (.own Sl.nil 34 1 (encs ([] : List (LR Int)))) :: (.blk b1 (enc (PosetR.mk a0 s_a0_1)) 24) :: L) rfl ?_
   refine Lst.r (Ev.assign rfl) ?_
   refine Lst.nil ?_
   refine At.in_normal ?_
   refine At.then ?_
   refine Cd.region ?_
   refine Lst.r (Ev.incr (by omega) rfl rfl) ?_
   refine mv0 rfl ?_
   refine Lst.nil ?_
   refine At.less (L' := (.own s107 34 1 (encs (rs80 ++ ([(LR.mk l93 s92)] : List (LR Int))))) :: (.own s51 4 1 (encs l56)) :: (.own s47 4 1 (encs ([true] : List Bool))) :: (.own s43 3 1 (encs l57)) :: (.own s39 3 1 (encs ([(-1 : Int)] : List Int))) :: (.own s27 49 2 (encs l28)) :: (.blk b9 (enc r5.1) 89) :: (.own Sl.nil 34 1 (encs ([] : List (LR Int)))) :: (.blk b1 (enc (PosetR.mk a0 s_a0_1)) 24) :: L) (sc1 (sk1 (sk1 (sk1 (sk1 (sk1 (sk1 (sk1 (sk1 (sk1 (.refl _))))))))))) ?_
   exact At.meet (i77 + 1, k77, s107, l79 ++ ([l93] : List (List Int)), (rs80 ++ ([(LR.mk l93 s92)] : List (LR Int)))) (FLe.trans (FLe.trans hF84 hF95) hF98) ⟨rfl, rfl, rfl, rfl, rfl, trivial⟩ rfl ⟨⟨hgo77 _ (some_inj H).symm, by omega, hm108, (All.monoLR ha109 fl (.refl _))⟩, Nat.lt_succ_self _⟩
  replace H := ite_t hb96 H
  refine Cd.condT rfl hb96 ?_
  refine Cd.skip ?_
  refine At.then ?_
  refine Cd.seq ?_
  refine Cd.block ?_
  refine Cd.region ?_
  refine mv0 rfl ?_
  refine mv0 rfl ?_
  refine Lst.buildSlice (α := Int) (xs := ([y91] : List Int)) (pv := [(0, iv y91)]) rfl rfl (by decide) ⟨rfl, rfl, trivial⟩ (run_buildSlice (α := Int) (z0 := (0 : Int)) (xs := ([y91] : List Int)) Try.runUnderlying34 Try.sizeOf3 Try.zeroValue3 rfl rfl rfl (by decide) rfl (fill_cons (cs := encs (List.replicate 1 (0 : Int))) (cs' := encs ((List.replicate 1 (0 : Int)).set 0 y91)) (vs := [iv y91]) rfl rfl rfl ((Put.elemN (s := 1) (i := 0) (x := (0 : Int)) (y := y91) rfl rfl (Put.here (vs := [iv y91]) rfl)).off rfl) fill_nil)) rfl rfl (by decide) (fun s110 _ => ?_)
  obtain ⟨u112, h113, H⟩ := bind_some H
  refine Lst.append (i := 1) (α := Int) (xs := l93) (ys := ([y91] : List Int)) rfl rfl (by decide) rfl rfl Try.runUnderlying34 Try.typeInfo3 rfl rfl rfl rfl rfl rfl (rdo 0 rfl rfl rfl) rfl (room_some h113) rfl (fun s114 => ?_)
  refine Lst.its (L' := (.own s110 3 1 (encs ([y91] : List Int))) :: (.own s114 3 1 (encs (l93 ++ ([y91] : List Int)))) :: (.own s78 34 1 (encs rs80)) :: (.own s51 4 1 (encs l56)) :: (.own s47 4 1 (encs ([true] : List Bool))) :: (.own s43 3 1 (encs l57)) :: (.own s39 3 1 (encs ([(-1 : Int)] : List Int))) :: (.own s27 49 2 (encs l28)) :: (.blk b9 (enc r5.1) 89) :: (.own Sl.nil 34 1 (encs ([] : List (LR Int)))) :: (.blk b1 (enc (PosetR.mk a0 s_a0_1)) 24) :: L) rfl ?_
  refine Lst.r (Ev.assign rfl) ?_
  refine Lst.nil ?_
  refine At.in_normal ?_
  refine At.then ?_
  refine Cd.region ?_
  refine mv0 rfl ?_
  refine mv0 rfl ?_
  obtain ⟨x115, h116, H⟩ := bind_some H
  have g117 := lat_some h116
  refine Lst.r (Ev.indexS (α := Int) (xs := l57) rfl rfl Try.runUnderlying34 Try.sizeOf3 rfl (by decide) (rdo 5 rfl rfl rfl) g117.1 g117.2.1) ?_
  refine Lst.r (Ev.loadS (α := Int) rfl (rdo 5 rfl rfl rfl) Try.isAgg3 (v := iv x115) ((Get.elemN (s := 1) (x := x115) rfl g117.2.2 gh0).off (by omega))) ?_
  refine Lst.r (Ev.assign rfl) ?_
  refine Lst.nil ?_
  refine At.less (L' := (.own s114 3 1 (encs (l93 ++ ([y91] : List Int)))) :: (.own s78 34 1 (encs rs80)) :: (.own s51 4 1 (encs l56)) :: (.own s47 4 1 (encs ([true] : List Bool))) :: (.own s43 3 1 (encs l57)) :: (.own s39 3 1 (encs ([(-1 : Int)] : List Int))) :: (.own s27 49 2 (encs l28)) :: (.blk b9 (enc r5.1) 89) :: (.own Sl.nil 34 1 (encs ([] : List (LR Int)))) :: (.blk b1 (enc (PosetR.mk a0 s_a0_1)) 24) :: L) (sc1 (sk1 (sk1 (sk1 (sk1 (sk1 (sk1 (sk1 (sk1 (sk1 (sk1 (.refl _)))))))))))) ?_
  exact At.meet (k90, x115, s114, l93 ++ ([y91] : List Int)) hF95 ⟨rfl, rfl, rfl, rfl, rfl, rfl, rfl, trivial⟩ rfl ⟨hgo90 _ (some_inj H).symm, Nat.lt_succ_self _⟩
 have hc55 : decide ((i55 : Int) < (l28.length : Int)) = true := decide_eq_true (by omega)
 obtain ⟨c55, H, hgo55⟩ := rangeF_go H
 unfold poset_Chains_B0 at H
 try dsimp only at H
 refine sr0 ?_
 refine Lst.r (Ev.lss rfl rfl) ?_
 refine nt0 ?_
 refine Cd.seq ?_
 refine Cd.condT rfl hc55 ?_
 refine Cd.skip ?_
 refine At.then ?_
 refine Cd.seq ?_
 refine Cd.block ?_
 refine sr0 ?_
 obtain ⟨x60, h61, H⟩ := bind_some H
 have g62 := lat_some h61
 refine Lst.r (Ev.indexS (α := Pair) (xs := l28) rfl rfl Try.runUnderlying22 Try.sizeOf49 rfl (by decide) (rdo 4 rfl rfl rfl) g62.1 g62.2.1) ?_
 refine Lst.r (Ev.loadSA (α := Pair) rfl (rdo 4 rfl rfl rfl) Try.isAgg49 Try.sizeOf49 (ch := enc x60) (Enc.len _) (by decide) ((Get.elemN (s := 2) (x := x60) rfl g62.2.2 gh0).off (by omega))) ?_
 refine Lst.alloc (cs := enc Pair.zero) rfl rfl (by decide) Try.zeroValue49 rfl (fun b63 => ?_)
 refine Lst.store (i := 0) rfl rfl rfl rfl rfl Try.sizeOf49 (vs := enc x60) rfl (Enc.len _) (Enc.one _) (cs' := enc x60) (Put.here ((Enc.len _).trans (Enc.len _).symm)) (L' := (.blk b63 (enc x60) 49) :: (.own s51 4 1 (encs l56)) :: (.own s47 4 1 (encs ([true] : List Bool))) :: (.own s43 3 1 (encs l57)) :: (.own s39 3 1 (encs ([(-1 : Int)] : List Int))) :: (.own s27 49 2 (encs l28)) :: (.blk b9 (enc r5.1) 89) :: (.own Sl.nil 34 1 (encs ([] : List (LR Int)))) :: (.blk b1 (enc (PosetR.mk a0 s_a0_1)) 24) :: L) rfl ?_
 refine nsr ?_
 refine mv0 rfl ?_
 refine Lst.r (Ev.fieldAddr (off' := 0) rfl Try.runUnderlying49 rfl Try.sizeOf3 rfl rfl) ?_
 refine Lst.r (Ev.load (i := 0) rfl rfl Try.isAgg3 (v := iv x60.A) ((Pair.get_A gh0).off (by rfl))) ?_
 refine Lst.r (Ev.fieldAddr (off' := 1) rfl Try.runUnderlying49 rfl Try.sizeOf3 rfl rfl) ?_
 refine Lst.r (Ev.load (i := 0) rfl rfl Try.isAgg3 (v := iv x60.B) ((Pair.get_B gh0).off (by rfl))) ?_
 obtain ⟨x65, h66, H⟩ := bind_some H
 have g67 := lat_some h66
 refine Lst.r (Ev.indexS (α := Int) (xs := l57) rfl rfl Try.runUnderlying34 Try.sizeOf3 rfl (by decide) (rdo 3 rfl rfl rfl) g67.1 g67.2.1) ?_
 obtain ⟨p68, h69, H⟩ := Let_some H
 refine Lst.storeS (i := 3) rfl rfl rfl rfl rfl Try.sizeOf3 (vs := [iv x60.B]) rfl rfl (by decide) rfl (xs' := encs p68) (by rw [← h69]; exact (Put.elemN (s := 1) (x := x65) rfl g67.2.2 (Put.here (vs := [iv x60.B]) rfl)).off (by omega)) (L' := (.blk b63 (enc x60) 49) :: (.own s51 4 1 (encs l56)) :: (.own s47 4 1 (encs ([true] : List Bool))) :: (.own s43 3 1 (encs p68)) :: (.own s39 3 1 (encs ([(-1 : Int)] : List Int))) :: (.own s27 49 2 (encs l28)) :: (.blk b9 (enc r5.1) 89) :: (.own Sl.nil 34 1 (encs ([] : List (LR Int)))) :: (.blk b1 (enc (PosetR.mk a0 s_a0_1)) 24) :: L) rfl ?_
 refine nt0 ?_
 refine Cd.region ?_
 refine mv0 rfl ?_
 refine Lst.r (Ev.fieldAddr (off' := 1) rfl Try.runUnderlying49 rfl Try.sizeOf3 rfl rfl) ?_
 refine Lst.r (Ev.load (i := 0) rfl rfl Try.isAgg3 (v := iv x60.B) ((Pair.get_B gh0).off (by rfl))) ?_
 obtain ⟨x70, h71, H⟩ := bind_some H
 have g72 := lat_some h71
 refine Lst.r (Ev.indexS (α := Bool) (xs := l56) rfl rfl Try.runUnderlying75 Try.sizeOf4 rfl (by decide) (rdo 1 rfl rfl rfl) g72.1 g72.2.1) ?_
 obtain ⟨p73, h74, H⟩ := Let_some H
 refine Lst.storeS (i := 1) rfl rfl rfl rfl rfl Try.sizeOf4 (vs := [.bool false]) rfl rfl (by decide) rfl (xs' := encs p73) (by rw [← h74]; exact (Put.elemN (s := 1) (x := x70) rfl g72.2.2 (Put.here (vs := [.bool false]) rfl)).off (by omega)) (L' := (.blk b63 (enc x60) 49) :: (.own s51 4 1 (encs p73)) :: (.own s47 4 1 (encs ([true] : List Bool))) :: (.own s43 3 1 (encs p68)) :: (.own s39 3 1 (encs ([(-1 : Int)] : List Int))) :: (.own s27 49 2 (encs l28)) :: (.blk b9 (enc r5.1) 89) :: (.own Sl.nil 34 1 (encs ([] : List (LR Int)))) :: (.blk b1 (enc (PosetR.mk a0 s_a0_1)) 24) :: L) rfl ?_
 refine Lst.nil ?_
 refine At.in_normal ?_
 refine At.then ?_
 refine Cd.region ?_
 refine Lst.r (Ev.incr (by omega) rfl rfl) ?_
 refine mv0 rfl ?_
 refine Lst.nil ?_
 refine At.less (L' := (.own s51 4 1 (encs p73)) :: (.own s47 4 1 (encs ([true] : List Bool))) :: (.own s43 3 1 (encs p68)) :: (.own s39 3 1 (encs ([(-1 : Int)] : List Int))) :: (.own s27 49 2 (encs l28)) :: (.blk b9 (enc r5.1) 89) :: (.own Sl.nil 34 1 (encs ([] : List (LR Int)))) :: (.blk b1 (enc (PosetR.mk a0 s_a0_1)) 24) :: L) (sc1 (sk1 (sk1 (sk1 (sk1 (sk1 (sk1 (sk1 (sk1 (.refl _)))))))))) ?_
 exact At.meet (i55 + 1, k55, p73, p68) hF59 ⟨rfl, rfl, rfl, rfl, rfl, trivial⟩ rfl ⟨⟨hgo55 _ (some_inj H).symm, by omega⟩, Nat.lt_succ_self _⟩
set_option maxRecDepth 20000 in
theorem slices_Contains_int_int_sim {a0 : List Int} {a1 : Int} {s_a0 : Sl} {r : Bool} (H : slices_Contains_int_int a0 a1 = some r) (w0 : World) (F : Frz) (M L : List Item) (hM : M.Sublist L) (hs_a0 : Rd w0 F M s_a0 a0) : Ok Try.prog w0 57 [Sl.v s_a0, iv a1] F (L) (Is (.bool r) (L)) := by
 unfold slices_Contains_int_int at H
 refine Ok.enter (m := 2) (n := 9) Try.func57 rfl rfl rfl (by decide) ?_
 refine Cd.env (e' := [(0, Sl.v s_a0), (1, iv a1)]) rfl ?_
 refine sr0 ?_
 refine Lst.r (Ev.assign rfl) ?_
 refine nsr ?_
 refine mv0 rfl ?_
 refine mv0 rfl ?_
 obtain ⟨r1, h2, H⟩ := bind_some H
 refine Lst.call1 rfl rfl (by decide) (vs := [Sl.v s_a0, iv a1]) ⟨rfl, rfl, trivial⟩ Try.call60 (slices_Index_int_int_sim h2 w0 _ M _ hM (hs_a0.mono fl (.refl _))) ?_
 refine Lst.r (Ev.geq rfl rfl) ?_
 refine Lst.r (Ev.assign rfl) ?_
 refine nt0 ?_
 obtain rfl := some_inj H
 refine Cd.ret ?_
 exact At.ret1 rfl (Res.tmp rfl) fl (.refl _) ⟨rfl, rfl⟩
set_option maxRecDepth 20000 in
theorem match_Cover_1_simR : ∀ (fu : Nat) {a0 : Int} {a1 : List Bool} {a2_p : Graph} {a3 : List Bool} {b_a1 : Nat} {s_a1 : Sl} {b_a2 : Nat} {b_a2_p : Nat} {s_a2_p_0 : Sl} {rs_a2_p_0 : List (LR Bool)} {s_a2_p_1 : Sl} {s_a2_p_2 : Sl} {b_a3 : Nat} {s_a3 : Sl} {b_a4 : Nat} {r : (List Bool) × (List Bool)} (H : match_Cover_1 fu a0 a1 a2_p a3 = some r) (w0 : World) (F : Frz) (M L : List Item) (hM : M.Sublist L) (hm_a2_p_0 : rs_a2_p_0.map LR.v = a2_p.may) (hs_a2_p_0 : Rd w0 F M s_a2_p_0 rs_a2_p_0) (ha_a2_p_0 : All LR.rel w0 F M rs_a2_p_0) (hs_a2_p_1 : Rd w0 F M s_a2_p_1 a2_p.left) (hs_a2_p_2 : Rd w0 F M s_a2_p_2 a2_p.seen), Ok Try.prog w0 61 [iv a0, pv b_a1 0, pv b_a2 0, pv b_a3 0, pv b_a4 0] F ((.own s_a1 4 1 (encs a1)) :: (.blk b_a1 (enc s_a1) 75) :: (.blk b_a2_p (enc (GraphR.mk a2_p s_a2_p_0 s_a2_p_1 s_a2_p_2)) 101) :: (.blk b_a2 [pv b_a2_p 0] 97) :: (.own s_a3 4 1 (encs a3)) :: (.blk b_a3 (enc s_a3) 75) :: (.blk b_a4 [.func (.func 61) #[] #[pv b_a1 0, pv b_a2 0, pv b_a3 0, pv b_a4 0]] 102) :: L) (fun _ L' v => v = .tuple #[] ∧ L' = (.own s_a1 4 1 (encs r.1)) :: (.blk b_a1 (enc s_a1) 75) :: (.blk b_a2_p (enc (GraphR.mk a2_p s_a2_p_0 s_a2_p_1 s_a2_p_2)) 101) :: (.blk b_a2 [pv b_a2_p 0] 97) :: (.own s_a3 4 1 (encs r.2)) :: (.blk b_a3 (enc s_a3) 75) :: (.blk b_a4 [.func (.func 61) #[] #[pv b_a1 0, pv b_a2 0, pv b_a3 0, pv b_a4 0]] 102) :: L) := by
 intro fu
 induction fu with
 | zero => intro a0 a1 a2_p a3 b_a1 s_a1 b_a2 b_a2_p s_a2_p_0 rs_a2_p_0 s_a2_p_1 s_a2_p_2 b_a3 s_a3 b_a4 r H; exact nomatch (show (none : Option ((List Bool) × (List Bool))) = some _ from H)
 | succ fu ih =>
  intro a0 a1 a2_p a3 b_a1 s_a1 b_a2 b_a2_p s_a2_p_0 rs_a2_p_0 s_a2_p_1 s_a2_p_2 b_a3 s_a3 b_a4 r H w0 F M L hM hm_a2_p_0 hs_a2_p_0 ha_a2_p_0 hs_a2_p_1 hs_a2_p_2
  replace H : match_Cover_1_R (match_Cover_1 fu) a0 a1 a2_p a3 = some r := H
  generalize match_Cover_1 fu = rc at H ih
  unfold match_Cover_1_R at H
  refine Ok.enter (m := 5) (n := 57) Try.func61 rfl rfl rfl (by decide) ?_
  refine Cd.env (e' := [(0, iv a0), (1, pv b_a1 0), (2, pv b_a2 0), (3, pv b_a3 0), (4, pv b_a4 0)]) rfl ?_
  refine Cd.seq ?_
  refine sr0 ?_
  refine Lst.r (Ev.load (i := 1) rfl rfl Try.isAgg75 (v := Sl.v s_a1) gh0) ?_
  refine mv0 rfl ?_
  obtain ⟨x8, h9, H⟩ := bind_some H
  have g10 := lat_some h9
  refine Lst.r (Ev.indexS (α := Bool) (xs := a1) rfl rfl Try.runUnderlying75 Try.sizeOf4 rfl (by decide) (rdo 0 rfl rfl rfl) g10.1 g10.2.1) ?_
  refine Lst.r (Ev.loadS (α := Bool) rfl (rdo 0 rfl rfl rfl) Try.isAgg4 (v := .bool x8) ((Get.elemN (s := 1) (x := x8) rfl g10.2.2 gh0).off (by omega))) ?_
  refine nt0 ?_
  rcases Bool.eq_false_or_eq_true x8 with hb11 | hb11
  ·replace H := ite_t hb11 H
   refine Cd.condT rfl hb11 ?_
   obtain rfl := some_inj H
   refine Cd.ret ?_
   refine At.then_ret ?_
   exact At.ret0 (.inl rfl) rfl fl (sk1 (sk1 (sk1 (sk1 (sk1 (sk1 (sk1 (.refl _)))))))) ⟨rfl, rfl⟩
  replace H := ite_f hb11 H
  refine Cd.condF rfl hb11 ?_
  refine Cd.skip ?_
  refine At.then ?_
  refine sr0 ?_
  refine Lst.r (Ev.load (i := 1) rfl rfl Try.isAgg75 (v := Sl.v s_a1) gh0) ?_
  refine mv0 rfl ?_
  obtain ⟨x12, h13, H⟩ := bind_some H
  have g14 := lat_some h13
  refine Lst.r (Ev.indexS (α := Bool) (xs := a1) rfl rfl Try.runUnderlying75 Try.sizeOf4 rfl (by decide) (rdo 0 rfl rfl rfl) g14.1 g14.2.1) ?_
  obtain ⟨p15, h16, H⟩ := Let_some H
  refine Lst.storeS (i := 0) rfl rfl rfl rfl rfl Try.sizeOf4 (vs := [.bool true]) rfl rfl (by decide) rfl (xs' := encs p15) (by rw [← h16]; exact (Put.elemN (s := 1) (x := x12) rfl g14.2.2 (Put.here (vs := [.bool true]) rfl)).off (by omega)) (L' := (.own s_a1 4 1 (encs p15)) :: (.blk b_a1 (enc s_a1) 75) :: (.blk b_a2_p (enc (GraphR.mk a2_p s_a2_p_0 s_a2_p_1 s_a2_p_2)) 101) :: (.blk b_a2 [pv b_a2_p 0] 97) :: (.own s_a3 4 1 (encs a3)) :: (.blk b_a3 (enc s_a3) 75) :: (.blk b_a4 [.func (.func 61) #[] #[pv b_a1 0, pv b_a2 0, pv b_a3 0, pv b_a4 0]] 102) :: L) rfl ?_
  refine nsr ?_
  refine Lst.r (Ev.load (i := 3) rfl rfl Try.isAgg97 (v := pv b_a2_p 0) gh0) ?_
  refine Lst.r (Ev.nilCheck rfl) ?_
  refine Lst.r (Ev.fieldAddr (off' := 0) rfl Try.runUnderlying101 rfl Try.sizeOf73 rfl rfl) ?_
  refine Lst.r (Ev.load (i := 2) rfl rfl Try.isAgg73 (v := Sl.v s_a2_p_0) ((GraphR.get_may gh0).off (by rfl))) ?_
  refine mv0 rfl ?_
  obtain ⟨x17, h18, H⟩ := bind_some H
  have g19 := lat_some h18
  obtain ⟨⟨r20v, r20h⟩, r20g, r20e, r20m⟩ := map_get hm_a2_p_0 g19.2.2
  obtain rfl : x17 = r20v := r20e.symm
  have r20q : Rd w0 _ _ r20h x17 := ha_a2_p_0 _ r20m
  refine Lst.r (Ev.indexS (α := LR Bool) (xs := rs_a2_p_0) rfl rfl Try.runUnderlying73 Try.sizeOf75 rfl (by decide) (hs_a2_p_0.mono fl (sc4 (sc2 (sc1 hM)))) g19.1 (by have := map_len hm_a2_p_0; omega)) ?_
  refine Lst.r (Ev.loadS (α := LR Bool) rfl (hs_a2_p_0.mono fl (sc4 (sc2 (sc1 hM)))) Try.isAgg75 (v := Sl.v r20h) ((Get.elemN (s := 1) rfl r20g gh0).off (by omega))) ?_
  refine Lst.r (Ev.lenS (α := Bool) (xs := x17) (by decide) rfl rfl Try.runUnderlying75 (r20q.mono fl (sc4 (sc2 (sc1 hM))))) ?_
  refine mv0 rfl ?_
  refine nt0 ?_
  refine Cd.block ?_
  refine Cd.bound (Rd.le (α := Bool) (xs := x17) (by decide) (r20q.mono fl (sc4 (sc2 (sc1 hM))))) (fun hN54 => ?_)
  obtain ⟨ol21, H, HKl21⟩ := bind_some H
  refine Cd.loop (σ := Nat × Nat × (List Bool) × (List Bool)) (fun (i21, k21, l22, l23) => [(2, pv b_a2 0), (3, pv b_a3 0), (4, pv b_a4 0), (21, Sl.v r20h), (22, iv (x17.length : Int)), (23, iv (i21 : Int))]) (fun (i21, k21, l22, l23) => (.own s_a1 4 1 (encs l22)) :: (.blk b_a1 (enc s_a1) 75) :: (.blk b_a2_p (enc (GraphR.mk a2_p s_a2_p_0 s_a2_p_1 s_a2_p_2)) 101) :: (.blk b_a2 [pv b_a2_p 0] 97) :: (.own s_a3 4 1 (encs l23)) :: (.blk b_a3 (enc s_a3) 75) :: (.blk b_a4 [.func (.func 61) #[] #[pv b_a1 0, pv b_a2 0, pv b_a3 0, pv b_a4 0]] 102) :: L) (fun _ => (fun (i21, k21, l22, l23) => rangeF (match_Cover_1_B0 a2_p x17 rc) k21 i21 (l22, l23) = some ol21 ∧ i21 + k21 = x17.length)) (fun (i21, k21, l22, l23) => k21) (0, x17.length, p15, a3) ⟨rfl, rfl, rfl, rfl, rfl, rfl, trivial⟩ rfl ⟨H, by omega⟩ ?_
  rintro F24 ⟨i21, k21, l22, l23⟩ hF25 ⟨H, hik21⟩
  refine Cd.as (e' := [(2, pv b_a2 0), (3, pv b_a3 0), (4, pv b_a4 0), (21, Sl.v r20h), (22, iv (x17.length : Int)), (23, iv (i21 : Int))]) (L' := (.own s_a1 4 1 (encs l22)) :: (.blk b_a1 (enc s_a1) 75) :: (.blk b_a2_p (enc (GraphR.mk a2_p s_a2_p_0 s_a2_p_1 s_a2_p_2)) 101) :: (.blk b_a2 [pv b_a2_p 0] 97) :: (.own s_a3 4 1 (encs l23)) :: (.blk b_a3 (enc s_a3) 75) :: (.blk b_a4 [.func (.func 61) #[] #[pv b_a1 0, pv b_a2 0, pv b_a3 0, pv b_a4 0]] 102) :: L) ⟨rfl, rfl, rfl, rfl, rfl, rfl, trivial⟩ rfl ?_
  rcases k21 with _ | k21
  ·have hc21 : decide ((i21 : Int) < (x17.length : Int)) = false := decide_eq_false (by omega)
   replace H := rangeF_end H
   refine sr0 ?_
   refine Lst.r (Ev.lss rfl rfl) ?_
   refine nt0 ?_
   refine Cd.seq ?_
   refine Cd.condF rfl hc21 ?_
   refine Cd.exit ?_
   refine At.then_exit ?_
   refine At.then_exit ?_
   refine At.in_exit ?_
   subst H
   replace H := HKl21
   obtain rfl := some_inj H
   exact At.ret0 (.inr rfl) rfl hF25 (sk1 (sk1 (sk1 (sk1 (sk1 (sk1 (sk1 (.refl _)))))))) ⟨rfl, rfl⟩
  have hc21 : decide ((i21 : Int) < (x17.length : Int)) = true := decide_eq_true (by omega)
  obtain ⟨c21, H, hgo21⟩ := rangeF_go H
  unfold match_Cover_1_B0 at H
  try dsimp only at H
  refine sr0 ?_
  refine Lst.r (Ev.lss rfl rfl) ?_
  refine nt0 ?_
  refine Cd.seq ?_
  refine Cd.condT rfl hc21 ?_
  refine Cd.skip ?_
  refine At.then ?_
  refine Cd.seq ?_
  refine Cd.block ?_
  refine sr0 ?_
  refine mv0 rfl ?_
  obtain ⟨x26, h27, H⟩ := bind_some H
  have g28 := lat_some h27
  refine Lst.r (Ev.indexS (α := Bool) (xs := x17) rfl rfl Try.runUnderlying75 Try.sizeOf4 rfl (by decide) (r20q.mono hF25 (sc4 (sc2 (sc1 hM)))) g28.1 g28.2.1) ?_
  refine Lst.r (Ev.loadS (α := Bool) rfl (r20q.mono hF25 (sc4 (sc2 (sc1 hM)))) Try.isAgg4 (v := .bool x26) ((Get.elemN (s := 1) (x := x26) rfl g28.2.2 gh0).off (by omega))) ?_
  refine Lst.r (Ev.assign rfl) ?_
  refine Lst.r (Ev.assign rfl) ?_
  refine nsr ?_
  refine mv0 rfl ?_
  refine mv0 rfl ?_
  obtain ⟨o29, H, HKo29⟩ := bind_some H
  refine Lst.join (σ := Bool) 6 (fun y30 => [(2, pv b_a2 0), (3, pv b_a3 0), (4, pv b_a4 0), (6, iv (i21 : Int)), (21, Sl.v r20h), (22, iv (x17.length : Int)), (23, iv (i21 : Int)), (35, .bool y30)]) (fun y30 => (.own s_a1 4 1 (encs l22)) :: (.blk b_a1 (enc s_a1) 75) :: (.blk b_a2_p (enc (GraphR.mk a2_p s_a2_p_0 s_a2_p_1 s_a2_p_2)) 101) :: (.blk b_a2 [pv b_a2_p 0] 97) :: (.own s_a3 4 1 (encs l23)) :: (.blk b_a3 (enc s_a3) 75) :: (.blk b_a4 [.func (.func 61) #[] #[pv b_a1 0, pv b_a2 0, pv b_a3 0, pv b_a4 0]] 102) :: L) (fun _ y30 => y30 = o29) ?_ ?_
  ·rcases (Bool.eq_false_or_eq_true x26).symm with hb31 | hb31
   ·replace H := ite_f hb31 H
    refine Lst.skip rfl rfl rfl hb31 rfl (by decide) ?_
    refine Lst.skip rfl rfl rfl hb31 rfl (by decide) ?_
    refine Lst.skip rfl rfl rfl hb31 rfl (by decide) ?_
    refine Lst.skip rfl rfl rfl hb31 rfl (by decide) ?_
    refine Lst.skip rfl rfl rfl hb31 rfl (by decide) ?_
    refine Lst.r (Ev.pickF rfl hb31 rfl) ?_
    refine Lst.nil ?_
    exact At.meet false fl ⟨rfl, rfl, rfl, rfl, rfl, rfl, rfl, rfl, trivial⟩ rfl (some_inj H)
   replace H := ite_t hb31 H
   refine Lst.rG hb31 (Ev.load (i := 5) rfl rfl Try.isAgg75 (v := Sl.v s_a3) gh0) ?_
   refine Lst.rG hb31 (Ev.move rfl) ?_
   obtain ⟨x32, h33, H⟩ := bind_some H
   have g34 := lat_some h33
   refine Lst.rG hb31 (Ev.indexS (α := Bool) (xs := l23) rfl rfl Try.runUnderlying75 Try.sizeOf4 rfl (by decide) (rdo 4 rfl rfl rfl) g34.1 g34.2.1) ?_
   refine Lst.rG hb31 (Ev.loadS (α := Bool) rfl (rdo 4 rfl rfl rfl) Try.isAgg4 (v := .bool x32) ((Get.elemN (s := 1) (x := x32) rfl g34.2.2 gh0).off (by omega))) ?_
   refine Lst.rG hb31 (Ev.not rfl) ?_
   refine Lst.r (Ev.pickT rfl hb31 rfl) ?_
   refine Lst.nil ?_
   exact At.meet (!x32) fl ⟨rfl, rfl, rfl, rfl, rfl, rfl, rfl, rfl, trivial⟩ rfl (some_inj H)
  rintro F35 y30 hF36 hy
  subst hy
  refine Lst.as (e' := [(2, pv b_a2 0), (3, pv b_a3 0), (4, pv b_a4 0), (6, iv (i21 : Int)), (21, Sl.v r20h), (22, iv (x17.length : Int)), (23, iv (i21 : Int)), (35, .bool y30)]) (L' := (.own s_a1 4 1 (encs l22)) :: (.blk b_a1 (enc s_a1) 75) :: (.blk b_a2_p (enc (GraphR.mk a2_p s_a2_p_0 s_a2_p_1 s_a2_p_2)) 101) :: (.blk b_a2 [pv b_a2_p 0] 97) :: (.own s_a3 4 1 (encs l23)) :: (.blk b_a3 (enc s_a3) 75) :: (.blk b_a4 [.func (.func 61) #[] #[pv b_a1 0, pv b_a2 0, pv b_a3 0, pv b_a4 0]] 102) :: L) ⟨rfl, rfl, rfl, rfl, rfl, rfl, rfl, rfl, trivial⟩ rfl ?_
  replace H := HKo29
  refine nt0 ?_
  rcases (Bool.eq_false_or_eq_true y30).symm with hb37 | hb37
  ·replace H := ite_f hb37 H
   refine Cd.condF rfl hb37 ?_
   refine Cd.skip ?_
   refine At.in_normal ?_
   refine At.then ?_
   refine Cd.region ?_
   refine Lst.r (Ev.incr (by omega) rfl rfl) ?_
   refine mv0 rfl ?_
   refine Lst.nil ?_
   exact At.meet (i21 + 1, k21, l22, l23) (FLe.trans hF25 hF36) ⟨rfl, rfl, rfl, rfl, rfl, rfl, trivial⟩ rfl ⟨⟨hgo21 _ (some_inj H).symm, by omega⟩, Nat.lt_succ_self _⟩
  replace H := ite_t hb37 H
  refine Cd.condT rfl hb37 ?_
  refine sr0 ?_
  refine Lst.r (Ev.load (i := 5) rfl rfl Try.isAgg75 (v := Sl.v s_a3) gh0) ?_
  refine mv0 rfl ?_
  obtain ⟨x38, h39, H⟩ := bind_some H
  have g40 := lat_some h39
  refine Lst.r (Ev.indexS (α := Bool) (xs := l23) rfl rfl Try.runUnderlying75 Try.sizeOf4 rfl (by decide) (rdo 4 rfl rfl rfl) g40.1 g40.2.1) ?_
  obtain ⟨p41, h42, H⟩ := Let_some H
  refine Lst.storeS (i := 4) rfl rfl rfl rfl rfl Try.sizeOf4 (vs := [.bool true]) rfl rfl (by decide) rfl (xs' := encs p41) (by rw [← h42]; exact (Put.elemN (s := 1) (x := x38) rfl g40.2.2 (Put.here (vs := [.bool true]) rfl)).off (by omega)) (L' := (.own s_a1 4 1 (encs l22)) :: (.blk b_a1 (enc s_a1) 75) :: (.blk b_a2_p (enc (GraphR.mk a2_p s_a2_p_0 s_a2_p_1 s_a2_p_2)) 101) :: (.blk b_a2 [pv b_a2_p 0] 97) :: (.own s_a3 4 1 (encs p41)) :: (.blk b_a3 (enc s_a3) 75) :: (.blk b_a4 [.func (.func 61) #[] #[pv b_a1 0, pv b_a2 0, pv b_a3 0, pv b_a4 0]] 102) :: L) rfl ?_
  refine nsr ?_
  refine Lst.r (Ev.load (i := 3) rfl rfl Try.isAgg97 (v := pv b_a2_p 0) gh0) ?_
  refine Lst.r (Ev.nilCheck rfl) ?_
  refine Lst.r (Ev.fieldAddr (off' := 1) rfl Try.runUnderlying101 rfl Try.sizeOf34 rfl rfl) ?_
  refine Lst.r (Ev.load (i := 2) rfl rfl Try.isAgg34 (v := Sl.v s_a2_p_1) ((GraphR.get_left gh0).off (by rfl))) ?_
  refine mv0 rfl ?_
  obtain ⟨x43, h44, H⟩ := bind_some H
  have g45 := lat_some h44
  refine Lst.r (Ev.indexS (α := Int) (xs := a2_p.left) rfl rfl Try.runUnderlying34 Try.sizeOf3 rfl (by decide) (hs_a2_p_1.mono (FLe.trans hF25 hF36) (sc4 (sc2 (sc1 hM)))) g45.1 g45.2.1) ?_
  refine Lst.r (Ev.loadS (α := Int) rfl (hs_a2_p_1.mono (FLe.trans hF25 hF36) (sc4 (sc2 (sc1 hM)))) Try.isAgg3 (v := iv x43) ((Get.elemN (s := 1) (x := x43) rfl g45.2.2 gh0).off (by omega))) ?_
  refine Lst.r (Ev.geq rfl rfl) ?_
  refine nt0 ?_
  rcases (Bool.eq_false_or_eq_true (decide (x43 ≥ (0 : Int)))).symm with hb46 | hb46
  ·replace H := ite_f hb46 H
   refine Cd.condF rfl hb46 ?_
   refine Cd.skip ?_
   refine At.in_normal ?_
   refine At.then ?_
   refine Cd.region ?_
   refine Lst.r (Ev.incr (by omega) rfl rfl) ?_
   refine mv0 rfl ?_
   refine Lst.nil ?_
   exact At.meet (i21 + 1, k21, l22, p41) (FLe.trans hF25 hF36) ⟨rfl, rfl, rfl, rfl, rfl, rfl, trivial⟩ rfl ⟨⟨hgo21 _ (some_inj H).symm, by omega⟩, Nat.lt_succ_self _⟩
  replace H := ite_t hb46 H
  refine Cd.condT rfl hb46 ?_
  refine Cd.tail 8 (by kernel_rfl) (by kernel_rfl) ?_
  refine Qt.r (Ev.load (i := 6) rfl rfl Try.isAgg102 (v := .func (.func 61) #[] #[pv b_a1 0, pv b_a2 0, pv b_a3 0, pv b_a4 0]) gh0) ?_
  refine Qt.r (Ev.load (i := 3) rfl rfl Try.isAgg97 (v := pv b_a2_p 0) gh0) ?_
  refine Qt.r (Ev.nilCheck rfl) ?_
  refine Qt.r (Ev.fieldAddr (off' := 1) rfl Try.runUnderlying101 rfl Try.sizeOf34 rfl rfl) ?_
  refine Qt.r (Ev.load (i := 2) rfl rfl Try.isAgg34 (v := Sl.v s_a2_p_1) ((GraphR.get_left gh0).off (by rfl))) ?_
  refine Qt.r (Ev.move rfl) ?_
  obtain ⟨x47, h48, H⟩ := bind_some H
  have g49 := lat_some h48
  refine Qt.r (Ev.indexS (α := Int) (xs := a2_p.left) rfl rfl Try.runUnderlying34 Try.sizeOf3 rfl (by decide) (hs_a2_p_1.mono (FLe.trans hF25 hF36) (sc4 (sc2 (sc1 hM)))) g49.1 g49.2.1) ?_
  refine Qt.r (Ev.loadS (α := Int) rfl (hs_a2_p_1.mono (FLe.trans hF25 hF36) (sc4 (sc2 (sc1 hM)))) Try.isAgg3 (v := iv x47) ((Get.elemN (s := 1) (x := x47) rfl g49.2.2 gh0).off (by omega))) ?_
  refine Qt.tail ?_
  obtain ⟨r50, h51, H⟩ := bind_some H
  refine Lst.callV rfl rfl (by decide) (vs := [iv x47]) (cs := [pv b_a1 0, pv b_a2 0, pv b_a3 0, pv b_a4 0]) rfl ⟨rfl, trivial⟩ Try.call61 (ih h51 w0 _ M _ hM hm_a2_p_0 (hs_a2_p_0.mono (FLe.trans hF25 hF36) (.refl _)) (All.monoLR ha_a2_p_0 (FLe.trans hF25 hF36) (.refl _)) (hs_a2_p_1.mono (FLe.trans hF25 hF36) (.refl _)) (hs_a2_p_2.mono (FLe.trans hF25 hF36) (.refl _))) (fun F52 L' v hF53 hv => ?_)
  obtain ⟨rfl, rfl⟩ := hv
  refine Lst.nil ?_
  refine At.in_normal ?_
  refine At.then ?_
  refine Cd.as (e' := [(2, pv b_a2 0), (3, pv b_a3 0), (4, pv b_a4 0), (21, Sl.v r20h), (22, iv (x17.length : Int)), (23, iv (i21 : Int))]) (L' := (.own s_a1 4 1 (encs r50.1)) :: (.blk b_a1 (enc s_a1) 75) :: (.blk b_a2_p (enc (GraphR.mk a2_p s_a2_p_0 s_a2_p_1 s_a2_p_2)) 101) :: (.blk b_a2 [pv b_a2_p 0] 97) :: (.own s_a3 4 1 (encs r50.2)) :: (.blk b_a3 (enc s_a3) 75) :: (.blk b_a4 [.func (.func 61) #[] #[pv b_a1 0, pv b_a2 0, pv b_a3 0, pv b_a4 0]] 102) :: L) ⟨rfl, rfl, rfl, rfl, rfl, rfl, trivial⟩ rfl ?_
  refine Cd.region ?_
  refine Lst.r (Ev.incr (by omega) rfl rfl) ?_
  refine mv0 rfl ?_
  refine Lst.nil ?_
  exact At.meet (i21 + 1, k21, r50.1, r50.2) (FLe.trans (FLe.trans hF25 hF36) hF53) ⟨rfl, rfl, rfl, rfl, rfl, rfl, trivial⟩ rfl ⟨⟨hgo21 _ (some_inj H).symm, by omega⟩, Nat.lt_succ_self _⟩
theorem match_Cover_1_sim {fu : Nat} {a0 : Int} {a1 : List Bool} {a2_p : Graph} {a3 : List Bool} {b_a1 : Nat} {s_a1 : Sl} {b_a2 : Nat} {b_a2_p : Nat} {s_a2_p_0 : Sl} {rs_a2_p_0 : List (LR Bool)} {s_a2_p_1 : Sl} {s_a2_p_2 : Sl} {b_a3 : Nat} {s_a3 : Sl} {b_a4 : Nat} {r : (List Bool) × (List Bool)} (H : match_Cover_1 fu a0 a1 a2_p a3 = some r) (w0 : World) (F : Frz) (M L : List Item) (hM : M.Sublist L) (hm_a2_p_0 : rs_a2_p_0.map LR.v = a2_p.may) (hs_a2_p_0 : Rd w0 F M s_a2_p_0 rs_a2_p_0) (ha_a2_p_0 : All LR.rel w0 F M rs_a2_p_0) (hs_a2_p_1 : Rd w0 F M s_a2_p_1 a2_p.left) (hs_a2_p_2 : Rd w0 F M s_a2_p_2 a2_p.seen) : Ok Try.prog w0 61 [iv a0, pv b_a1 0, pv b_a2 0, pv b_a3 0, pv b_a4 0] F ((.own s_a1 4 1 (encs a1)) :: (.blk b_a1 (enc s_a1) 75) :: (.blk b_a2_p (enc (GraphR.mk a2_p s_a2_p_0 s_a2_p_1 s_a2_p_2)) 101) :: (.blk b_a2 [pv b_a2_p 0] 97) :: (.own s_a3 4 1 (encs a3)) :: (.blk b_a3 (enc s_a3) 75) :: (.blk b_a4 [.func (.func 61) #[] #[pv b_a1 0, pv b_a2 0, pv b_a3 0, pv b_a4 0]] 102) :: L) (fun _ L' v => v = .tuple #[] ∧ L' = (.own s_a1 4 1 (encs r.1)) :: (.blk b_a1 (enc s_a1) 75) :: (.blk b_a2_p (enc (GraphR.mk a2_p s_a2_p_0 s_a2_p_1 s_a2_p_2)) 101) :: (.blk b_a2 [pv b_a2_p 0] 97) :: (.own s_a3 4 1 (encs r.2)) :: (.blk b_a3 (enc s_a3) 75) :: (.blk b_a4 [.func (.func 61) #[] #[pv b_a1 0, pv b_a2 0, pv b_a3 0, pv b_a4 0]] 102) :: L) :=
  match_Cover_1_simR fu H w0 F M L hM hm_a2_p_0 hs_a2_p_0 ha_a2_p_0 hs_a2_p_1 hs_a2_p_2
end Go.Proofs.Yticifbmaapnfbaa
