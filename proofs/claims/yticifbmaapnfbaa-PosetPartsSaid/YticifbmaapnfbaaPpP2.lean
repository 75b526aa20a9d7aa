/-
  The functions compute their specs; printed by a program.
-/
import Derived.Test.YticifbmaapnfbaaPpP1
namespace Go.Proofs.Yticifbmaapnfbaa
open Go.RowKit Enc
set_option linter.unusedVariables false
set_option linter.unusedSimpArgs false
set_option maxRecDepth 20000 in
theorem slices_siftDownCmpFunc_int_Chains_1_sim {fu : Nat} {a0 : List (List Int)} {a1 : Int} {a2 : Int} {a3 : Int} {s_a0 : Sl} {rs_a0 : List (LR Int)} {r : (List (List Int))} (H : slices_siftDownCmpFunc_int_Chains_1 fu a0 a1 a2 a3 = some r) (w0 : World) (F : Frz) (M L : List Item) (hM : M.Sublist L) (hm_a0 : rs_a0.map LR.v = a0) (ha_a0 : All LR.rel w0 F M rs_a0) : Ok Try.prog w0 97 [Sl.v s_a0, iv a1, iv a2, iv a3, .func (.func 71) #[] #[]] F ((.own s_a0 34 1 (encs rs_a0)) :: L) (fun Fx L' v => ∃ (rs2 : List (LR Int)), v = .tuple #[] ∧ L' = (.own s_a0 34 1 (encs rs2)) :: L ∧ rs2.map LR.v = r ∧ All LR.rel w0 Fx M rs2) := by
 unfold slices_siftDownCmpFunc_int_Chains_1 at H
 refine Ok.enter (m := 5) (n := 82) Try.func97 rfl rfl rfl (by decide) ?_
 refine Cd.env (e' := [(0, Sl.v s_a0), (1, iv a1), (2, iv a2), (3, iv a3), (4, .func (.func 71) #[] #[])]) rfl ?_
 refine sr0 ?_
 refine mv0 rfl ?_
 refine Lst.r (Ev.assign rfl) ?_
 refine nt0 ?_
 refine Cd.block ?_
 obtain ⟨ol2, H, HKl2⟩ := andThen_some H
 refine Cd.loop (σ := Nat × Int × (List (List Int)) × (List (LR Int))) (fun (k2, y3, l4, rs5) => [(0, Sl.v s_a0), (2, iv a2), (3, iv a3), (4, .func (.func 71) #[] #[]), (10, iv y3)]) (fun (k2, y3, l4, rs5) => (.own s_a0 34 1 (encs rs5)) :: L) (fun Fx => (fun (k2, y3, l4, rs5) => whileM (slices_siftDownCmpFunc_int_Chains_1_B0 a2 a3) k2 (y3, l4) = some ol2 ∧ rs5.map LR.v = l4 ∧ All LR.rel w0 Fx M rs5)) (fun (k2, y3, l4, rs5) => k2) (fu, a1, a0, rs_a0) ⟨rfl, rfl, rfl, rfl, rfl, trivial⟩ rfl ⟨H, hm_a0, (All.monoLR ha_a0 fl (.refl _))⟩ ?_
 rintro F8 ⟨k2, y3, l4, rs5⟩ hF9 ⟨H, fm6, fa7⟩
 refine Cd.as (e' := [(0, Sl.v s_a0), (2, iv a2), (3, iv a3), (4, .func (.func 71) #[] #[]), (10, iv y3)]) (L' := (.own s_a0 34 1 (encs rs5)) :: L) ⟨rfl, rfl, rfl, rfl, rfl, trivial⟩ rfl ?_
 rcases k2 with _ | k2
 ·cases H
 obtain ⟨c2, H, hgo2, hbrk2, hret2⟩ := whileM_go H
 unfold slices_siftDownCmpFunc_int_Chains_1_B0 at H
 try dsimp only at H
 refine Cd.block ?_
 refine sr0 ?_
 refine mv0 rfl ?_
 refine Lst.r (Ev.mul rfl rfl) ?_
 refine Lst.r (Ev.add rfl rfl) ?_
 refine Lst.r (Ev.assign rfl) ?_
 refine nt0 ?_
 refine Cd.seq ?_
 refine sr0 ?_
 refine mv0 rfl ?_
 refine mv0 rfl ?_
 refine Lst.r (Ev.geq rfl rfl) ?_
 refine nt0 ?_
 rcases Bool.eq_false_or_eq_true (decide ((w64 ((w64 ((2 : Int) * y3)) + (1 : Int))) ≥ a2)) with hb10 | hb10
 ·replace H := ite_t hb10 H
  refine Cd.condT rfl hb10 ?_
  refine Cd.exit ?_
  refine At.then_exit ?_
  refine At.in_other rfl ?_
  refine At.then_exit ?_
  refine At.in_exit ?_
  have H := hbrk2 _ (some_inj H).symm
  subst H
  replace H := HKl2
  try dsimp only [Sum.elim_inl] at H
  obtain rfl := some_inj H
  exact At.ret0 (.inr rfl) rfl hF9 (sk1 (.refl _)) ⟨rs5, rfl, rfl, fm6, (All.monoLR fa7 fl (.refl _))⟩
 replace H := ite_f hb10 H
 refine Cd.condF rfl hb10 ?_
 refine Cd.skip ?_
 refine At.then ?_
 obtain ⟨o12, H, HKo12⟩ := bind_some H
 refine Cd.join (σ := Int) (fun y11 => [(0, Sl.v s_a0), (2, iv a2), (3, iv a3), (4, .func (.func 71) #[] #[]), (10, iv y3), (11, iv y11)]) (fun y11 => (.own s_a0 34 1 (encs rs5)) :: L) (fun _ y11 => y11 = o12) ?_ ?_
 ·refine Cd.seq ?_
  refine Cd.quiet (by kernel_rfl) (by kernel_rfl) ?_
  refine Qt.r (Ev.move rfl) ?_
  refine Qt.r (Ev.add rfl rfl) ?_
  refine Qt.r (Ev.move rfl) ?_
  refine Qt.r (Ev.lss rfl rfl) ?_
  refine Qt.r (Ev.move rfl) ?_
  obtain ⟨o13, H, HKo13⟩ := bind_some H
  refine Qt.join (σ := Bool) 17 (fun y14 => [(0, Sl.v s_a0), (2, iv a2), (3, iv a3), (4, .func (.func 71) #[] #[]), (10, iv y3), (11, iv (w64 ((w64 ((2 : Int) * y3)) + (1 : Int)))), (40, .bool y14)]) (fun y14 => y14 = o13) ?_ ?_
  ·rcases (Bool.eq_false_or_eq_true (decide ((w64 ((w64 ((w64 ((2 : Int) * y3)) + (1 : Int))) + (1 : Int))) < a2))).symm with hb15 | hb15
   ·replace H := ite_f hb15 H
    refine Qt.skip rfl rfl rfl hb15 rfl (by decide) ?_
    refine Qt.skip rfl rfl rfl hb15 rfl (by decide) ?_
    refine Qt.skip rfl rfl rfl hb15 rfl (by decide) ?_
    refine Qt.skip rfl rfl rfl hb15 rfl (by decide) ?_
    refine Qt.skip rfl rfl rfl hb15 rfl (by decide) ?_
    refine Qt.skip rfl rfl rfl hb15 rfl (by decide) ?_
    refine Qt.skip rfl rfl rfl hb15 rfl (by decide) ?_
    refine Qt.skip rfl rfl rfl hb15 rfl (by decide) ?_
    refine Qt.skip rfl rfl rfl hb15 rfl (by decide) ?_
    refine Qt.skip rfl rfl rfl hb15 rfl (by decide) ?_
    refine Qt.skip rfl rfl rfl hb15 rfl (by decide) ?_
    refine Qt.skip rfl rfl rfl hb15 rfl (by decide) ?_
    refine Qt.skip rfl rfl rfl hb15 rfl (by decide) ?_
    refine Qt.skip rfl rfl rfl hb15 rfl (by decide) ?_
    refine Qt.skip rfl rfl rfl hb15 rfl (by decide) ?_
    refine Qt.skip rfl rfl rfl hb15 rfl (by decide) ?_
    refine Qt.r (Ev.pickF rfl hb15 rfl) ?_
    exact Qt.meet false ⟨rfl, rfl, rfl, rfl, rfl, rfl, rfl, trivial⟩ (some_inj H)
   replace H := ite_t hb15 H
   refine Qt.rG hb15 (Ev.move rfl) ?_
   refine Qt.rG hb15 (Ev.move rfl) ?_
   refine Qt.rG hb15 (Ev.move rfl) ?_
   refine Qt.rG hb15 (Ev.move rfl) ?_
   refine Qt.rG hb15 (Ev.add rfl rfl) ?_
   obtain ⟨x16, h17, H⟩ := bind_some H
   have g18 := lat_some h17
   obtain ⟨⟨r19v, r19h⟩, r19g, r19e, r19m⟩ := map_get fm6 g18.2.2
   obtain rfl : x16 = r19v := r19e.symm
   have r19q : Rd w0 _ _ r19h x16 := fa7 _ r19m
   refine Qt.rG hb15 (Ev.indexS (α := LR Int) (xs := rs5) rfl rfl Try.runUnderlying56 Try.sizeOf34 rfl (by decide) (rdo 0 rfl rfl rfl) g18.1 (by have := map_len fm6; omega)) ?_
   refine Qt.rG hb15 (Ev.loadS (α := LR Int) rfl (rdo 0 rfl rfl rfl) Try.isAgg34 (v := Sl.v r19h) ((Get.elemN (s := 1) rfl r19g gh0).off (by omega))) ?_
   refine Qt.rG hb15 (Ev.move rfl) ?_
   refine Qt.rG hb15 (Ev.move rfl) ?_
   refine Qt.rG hb15 (Ev.move rfl) ?_
   refine Qt.rG hb15 (Ev.add rfl rfl) ?_
   refine Qt.rG hb15 (Ev.add rfl rfl) ?_
   obtain ⟨x20, h21, H⟩ := bind_some H
   have g22 := lat_some h21
   obtain ⟨⟨r23v, r23h⟩, r23g, r23e, r23m⟩ := map_get fm6 g22.2.2
   obtain rfl : x20 = r23v := r23e.symm
   have r23q : Rd w0 _ _ r23h x20 := fa7 _ r23m
   refine Qt.rG hb15 (Ev.indexS (α := LR Int) (xs := rs5) rfl rfl Try.runUnderlying56 Try.sizeOf34 rfl (by decide) (rdo 0 rfl rfl rfl) g22.1 (by have := map_len fm6; omega)) ?_
   refine Qt.rG hb15 (Ev.loadS (α := LR Int) rfl (rdo 0 rfl rfl rfl) Try.isAgg34 (v := Sl.v r23h) ((Get.elemN (s := 1) rfl r23g gh0).off (by omega))) ?_
   obtain ⟨r24, h25, H⟩ := bind_some H
   refine Qt.callVG rfl rfl rfl hb15 rfl (by decide) (vs := [Sl.v r19h, Sl.v r23h]) (cs := []) rfl ⟨rfl, rfl, trivial⟩ Try.call71 (poset_Chains_1_sim h25 w0 _ M _ (sc1 hM) (r19q.mono fl (.refl _)) (r23q.mono fl (.refl _))) ?_
   refine Qt.rG hb15 (Ev.lss rfl rfl) ?_
   refine Qt.r (Ev.pickT rfl hb15 rfl) ?_
   exact Qt.meet (decide (r24 < (0 : Int))) ⟨rfl, rfl, rfl, rfl, rfl, rfl, rfl, trivial⟩ (some_inj H)
  rintro y14 hy
  subst hy
  refine Qt.as (e' := [(0, Sl.v s_a0), (2, iv a2), (3, iv a3), (4, .func (.func 71) #[] #[]), (10, iv y3), (11, iv (w64 ((w64 ((2 : Int) * y3)) + (1 : Int)))), (40, .bool y14)]) ⟨rfl, rfl, rfl, rfl, rfl, rfl, rfl, trivial⟩ ?_
  replace H := HKo13
  refine Qt.done ?_
  refine At.then ?_
  rcases (Bool.eq_false_or_eq_true y14).symm with hb28 | hb28
  ·replace H := ite_f hb28 H
   refine Cd.condF rfl hb28 ?_
   refine Cd.skip ?_
   exact At.meet (w64 ((w64 ((2 : Int) * y3)) + (1 : Int))) fl ⟨rfl, rfl, rfl, rfl, rfl, rfl, trivial⟩ rfl (some_inj H)
  replace H := ite_t hb28 H
  refine Cd.condT rfl hb28 ?_
  refine Cd.region ?_
  refine mv0 rfl ?_
  refine Lst.r (Ev.add rfl rfl) ?_
  refine Lst.r (Ev.assign rfl) ?_
  refine Lst.nil ?_
  exact At.meet (w64 ((w64 ((w64 ((2 : Int) * y3)) + (1 : Int))) + (1 : Int))) fl ⟨rfl, rfl, rfl, rfl, rfl, rfl, trivial⟩ rfl (some_inj H)
 rintro F29 y11 hF30 hy
 subst hy
 refine Cd.as (e' := [(0, Sl.v s_a0), (2, iv a2), (3, iv a3), (4, .func (.func 71) #[] #[]), (10, iv y3), (11, iv y11)]) (L' := (.own s_a0 34 1 (encs rs5)) :: L) ⟨rfl, rfl, rfl, rfl, rfl, rfl, trivial⟩ rfl ?_
 replace H := HKo12
 refine Cd.seq ?_
 refine Cd.seq ?_
 refine Cd.quiet (by kernel_rfl) (by kernel_rfl) ?_
 refine Qt.r (Ev.move rfl) ?_
 refine Qt.r (Ev.move rfl) ?_
 refine Qt.r (Ev.move rfl) ?_
 refine Qt.r (Ev.move rfl) ?_
 refine Qt.r (Ev.add rfl rfl) ?_
 obtain ⟨x31, h32, H⟩ := bind_some H
 have g33 := lat_some h32
 obtain ⟨⟨r34v, r34h⟩, r34g, r34e, r34m⟩ := map_get fm6 g33.2.2
 obtain rfl : x31 = r34v := r34e.symm
 have r34q : Rd w0 _ _ r34h x31 := fa7 _ r34m
 refine Qt.r (Ev.indexS (α := LR Int) (xs := rs5) rfl rfl Try.runUnderlying56 Try.sizeOf34 rfl (by decide) (rdo 0 rfl rfl rfl) g33.1 (by have := map_len fm6; omega)) ?_
 refine Qt.r (Ev.loadS (α := LR Int) rfl (rdo 0 rfl rfl rfl) Try.isAgg34 (v := Sl.v r34h) ((Get.elemN (s := 1) rfl r34g gh0).off (by omega))) ?_
 refine Qt.r (Ev.move rfl) ?_
 refine Qt.r (Ev.move rfl) ?_
 refine Qt.r (Ev.move rfl) ?_
 refine Qt.r (Ev.add rfl rfl) ?_
 obtain ⟨x35, h36, H⟩ := bind_some H
 have g37 := lat_some h36
 obtain ⟨⟨r38v, r38h⟩, r38g, r38e, r38m⟩ := map_get fm6 g37.2.2
 obtain rfl : x35 = r38v := r38e.symm
 have r38q : Rd w0 _ _ r38h x35 := fa7 _ r38m
 refine Qt.r (Ev.indexS (α := LR Int) (xs := rs5) rfl rfl Try.runUnderlying56 Try.sizeOf34 rfl (by decide) (rdo 0 rfl rfl rfl) g37.1 (by have := map_len fm6; omega)) ?_
 refine Qt.r (Ev.loadS (α := LR Int) rfl (rdo 0 rfl rfl rfl) Try.isAgg34 (v := Sl.v r38h) ((Get.elemN (s := 1) rfl r38g gh0).off (by omega))) ?_
 obtain ⟨r39, h40, H⟩ := bind_some H
 refine Qt.callV rfl rfl (by decide) (vs := [Sl.v r34h, Sl.v r38h]) (cs := []) rfl ⟨rfl, rfl, trivial⟩ Try.call71 (poset_Chains_1_sim h40 w0 _ M _ (sc1 hM) (r34q.mono hF30 (.refl _)) (r38q.mono hF30 (.refl _))) ?_
 refine Qt.r (Ev.lss rfl rfl) ?_
 refine Qt.r (Ev.not rfl) ?_
 refine Qt.done ?_
 refine At.then ?_
 rcases Bool.eq_false_or_eq_true (!(decide (r39 < (0 : Int)))) with hb43 | hb43
 ·replace H := ite_t hb43 H
  refine Cd.condT rfl hb43 ?_
  have H := hret2 _ (some_inj H).symm
  subst H
  replace H := HKl2
  obtain rfl := some_inj H
  refine Cd.ret ?_
  refine At.then_ret ?_
  refine At.in_ret ?_
  refine At.then_ret ?_
  refine At.in_ret ?_
  exact At.ret0 (.inl rfl) rfl (FLe.trans hF9 hF30) (sk1 (.refl _)) ⟨rs5, rfl, rfl, fm6, (All.monoLR fa7 hF30 (.refl _))⟩
 replace H := ite_f hb43 H
 refine Cd.condF rfl hb43 ?_
 refine Cd.skip ?_
 refine At.then ?_
 refine Cd.seq ?_
 refine Cd.as (e' := [(0, Sl.v s_a0), (2, iv a2), (3, iv a3), (4, .func (.func 71) #[] #[]), (10, iv y3), (11, iv y11)]) (L' := (.own s_a0 34 1 (encs rs5)) :: L) ⟨rfl, rfl, rfl, rfl, rfl, rfl, trivial⟩ rfl ?_
 obtain ⟨x44, h45, H⟩ := bind_some H
 obtain ⟨x48, h49, H⟩ := bind_some H
 obtain ⟨x52, h53, H⟩ := bind_some H
 obtain ⟨p56, h57, H⟩ := Let_some H
 obtain ⟨o68, h69, H⟩ := Let_some H
 refine Cd.headMeet (σ := Sl × (List Int) × (List (List Int)) × (List (LR Int))) 22 (fun (s61, l62, l64, rs65) => [(0, Sl.v s_a0), (2, iv a2), (3, iv a3), (4, .func (.func 71) #[] #[]), (10, iv y3), (11, iv y11), (63, Sl.v s_a0), (66, iv (w64 (a3 + y11))), (78, Sl.v s61)]) (fun (s61, l62, l64, rs65) => (.own s_a0 34 1 (encs rs65)) :: L) (fun Fx (s61, l62, l64, rs65) => (l62, l64) = o68 ∧ Rd w0 Fx M s61 l62 ∧ rs65.map LR.v = l64 ∧ All LR.rel w0 Fx M rs65) (by kernel_rfl) (by kernel_rfl) (behind_sink (by kernel_rfl) (by kernel_rfl) (by kernel_rfl)) (by kernel_rfl) (fun hsel hlt => ?_) ?_
 ·refine HdJ.keep (fun w => St w0 F29 (L) w) (fun w h => trivial) ?_
  refine HdJ.ts hsel hlt 0 (sc1 (.refl _)) (Ev.move rfl) ?_
  refine HdJ.ts hsel hlt 1 (sc1 (.refl _)) (Ev.move rfl) ?_
  refine HdJ.ts hsel hlt 2 (sc1 (.refl _)) (Ev.move rfl) ?_
  refine HdJ.ts hsel hlt 3 (sc1 (.refl _)) (Ev.add rfl rfl) ?_
  refine HdJ.ts hsel hlt 4 (sc1 (.refl _)) (Ev.move rfl) ?_
  refine HdJ.ts hsel hlt 5 (sc1 (.refl _)) (Ev.move rfl) ?_
  refine HdJ.ts hsel hlt 6 (sc1 (.refl _)) (Ev.move rfl) ?_
  refine HdJ.ts hsel hlt 7 (sc1 (.refl _)) (Ev.add rfl rfl) ?_
  refine HdJ.ts hsel hlt 8 (sc1 (.refl _)) (Ev.move rfl) ?_
  refine HdJ.ts hsel hlt 9 (sc1 (.refl _)) (Ev.move rfl) ?_
  refine HdJ.ts hsel hlt 10 (sc1 (.refl _)) (Ev.move rfl) ?_
  refine HdJ.ts hsel hlt 11 (sc1 (.refl _)) (Ev.add rfl rfl) ?_
  refine HdJ.ts hsel hlt 14 (sc1 (.refl _)) (Ev.move rfl) ?_
  refine HdJ.ts hsel hlt 15 (sc1 (.refl _)) (Ev.move rfl) ?_
  refine HdJ.ts hsel hlt 16 (sc1 (.refl _)) (Ev.move rfl) ?_
  refine HdJ.ts hsel hlt 17 (sc1 (.refl _)) (Ev.add rfl rfl) ?_
  refine HdJ.step [12, 18] (by kernel_rfl) rfl ?_
  refine HdStep.c (fun inv => ?_) ?_
  ·have g70 := lat_some h45
   obtain ⟨⟨r71v, r71h⟩, r71g, r71e, r71m⟩ := map_get fm6 g70.2.2
   obtain rfl : x44 = r71v := r71e.symm
   have r71q : Rd w0 _ _ r71h x44 := fa7 _ r71m
   refine Lst.r (Ev.indexS (α := LR Int) (xs := rs5) rfl rfl Try.runUnderlying56 Try.sizeOf34 rfl (by decide) (rdo 0 rfl rfl rfl) g70.1 (by have := map_len fm6; omega)) ?_
   refine hds inv (sc1 (.refl _)) ?_
   refine HdJ.step [13, 18] (by kernel_rfl) rfl ?_
   refine HdStep.c (fun inv => ?_) ?_
   ·refine Lst.r (Ev.loadS (α := LR Int) rfl (rdo 0 rfl rfl rfl) Try.isAgg34 (v := Sl.v r71h) ((Get.elemN (s := 1) rfl r71g gh0).off (by omega))) ?_
    refine hds inv (sc1 (.refl _)) ?_
    refine HdJ.o1 18 (fun inv => ?_)
    have g72 := lat_some h49
    obtain ⟨⟨r73v, r73h⟩, r73g, r73e, r73m⟩ := map_get fm6 g72.2.2
    obtain rfl : x48 = r73v := r73e.symm
    have r73q : Rd w0 _ _ r73h x48 := fa7 _ r73m
    refine Lst.r (Ev.indexS (α := LR Int) (xs := rs5) rfl rfl Try.runUnderlying56 Try.sizeOf34 rfl (by decide) (rdo 0 rfl rfl rfl) g72.1 (by have := map_len fm6; omega)) ?_
    refine hds inv (sc1 (.refl _)) ?_
    refine HdJ.o1 19 (fun inv => ?_)
    refine Lst.r (Ev.loadS (α := LR Int) rfl (rdo 0 rfl rfl rfl) Try.isAgg34 (v := Sl.v r73h) ((Get.elemN (s := 1) rfl r73g gh0).off (by omega))) ?_
    refine hds inv (sc1 (.refl _)) ?_
    refine HdJ.o1 20 (fun inv => ?_)
    have g74 := lat_some h53
    obtain ⟨⟨r75v, r75h⟩, r75g, r75e, r75m⟩ := map_get fm6 g74.2.2
    obtain rfl : x52 = r75v := r75e.symm
    have r75q : Rd w0 _ _ r75h x52 := fa7 _ r75m
    refine Lst.r (Ev.indexS (α := LR Int) (xs := rs5) rfl rfl Try.runUnderlying56 Try.sizeOf34 rfl (by decide) (rdo 0 rfl rfl rfl) g74.1 (by have := map_len fm6; omega)) ?_
    refine hds inv (sc1 (.refl _)) ?_
    refine HdJ.o1 21 (fun inv => ?_)
    have hm76 : (rs5.set (w64 (a3 + y3)).toNat (LR.mk x44 r71h)).map LR.v = p56 := (map_set fm6 _ _).trans h57
    have ha77 : All LR.rel w0 F29 M (rs5.set (w64 (a3 + y3)).toNat (LR.mk x44 r71h)) := All.set (All.monoLR fa7 hF30 (.refl _)) ((r71q.mono hF30 (.refl _)))
    refine Lst.storeS (i := 0) rfl rfl rfl rfl rfl Try.sizeOf34 (vs := [Sl.v r71h]) rfl rfl (by decide) rfl (xs' := encs (rs5.set (w64 (a3 + y3)).toNat (LR.mk x44 r71h))) ((Put.elemN (s := 1) (y := (LR.mk x44 r71h)) rfl r75g (Put.here (vs := [Sl.v r71h]) rfl)).off (by omega)) (L' := (.own s_a0 34 1 (encs (rs5.set (w64 (a3 + y3)).toNat (LR.mk x44 r71h)))) :: L) rfl ?_
    refine hds inv (sc1 (.refl _)) ?_
    refine HdJ.done (by kernel_rfl) ?_
    exact At.meetN (r73h, x48, p56, (rs5.set (w64 (a3 + y3)).toNat (LR.mk x44 r71h))) fl ⟨rfl, rfl, rfl, rfl, rfl, rfl, rfl, rfl, rfl, trivial⟩ rfl ⟨h69, (r73q.mono hF30 (.refl _)), hm76, (All.monoLR ha77 fl (.refl _))⟩
   refine HdStep.c (fun inv => ?_) trivial
   have g78 := lat_some h49
   obtain ⟨⟨r79v, r79h⟩, r79g, r79e, r79m⟩ := map_get fm6 g78.2.2
   obtain rfl : x48 = r79v := r79e.symm
   have r79q : Rd w0 _ _ r79h x48 := fa7 _ r79m
   refine Lst.r (Ev.indexS (α := LR Int) (xs := rs5) rfl rfl Try.runUnderlying56 Try.sizeOf34 rfl (by decide) (rdo 0 rfl rfl rfl) g78.1 (by have := map_len fm6; omega)) ?_
   refine hds inv (sc1 (.refl _)) ?_
   refine HdJ.step [13, 19] (by kernel_rfl) rfl ?_
   refine HdStep.c (fun inv => ?_) ?_
   ·refine Lst.r (Ev.loadS (α := LR Int) rfl (rdo 0 rfl rfl rfl) Try.isAgg34 (v := Sl.v r71h) ((Get.elemN (s := 1) rfl r71g gh0).off (by omega))) ?_
    refine hds inv (sc1 (.refl _)) ?_
    refine HdJ.o1 19 (fun inv => ?_)
    refine Lst.r (Ev.loadS (α := LR Int) rfl (rdo 0 rfl rfl rfl) Try.isAgg34 (v := Sl.v r79h) ((Get.elemN (s := 1) rfl r79g gh0).off (by omega))) ?_
    refine hds inv (sc1 (.refl _)) ?_
    refine HdJ.o1 20 (fun inv => ?_)
    have g80 := lat_some h53
    obtain ⟨⟨r81v, r81h⟩, r81g, r81e, r81m⟩ := map_get fm6 g80.2.2
    obtain rfl : x52 = r81v := r81e.symm
    have r81q : Rd w0 _ _ r81h x52 := fa7 _ r81m
    refine Lst.r (Ev.indexS (α := LR Int) (xs := rs5) rfl rfl Try.runUnderlying56 Try.sizeOf34 rfl (by decide) (rdo 0 rfl rfl rfl) g80.1 (by have := map_len fm6; omega)) ?_
    refine hds inv (sc1 (.refl _)) ?_
    refine HdJ.o1 21 (fun inv => ?_)
    have hm82 : (rs5.set (w64 (a3 + y3)).toNat (LR.mk x44 r71h)).map LR.v = p56 := (map_set fm6 _ _).trans h57
    have ha83 : All LR.rel w0 F29 M (rs5.set (w64 (a3 + y3)).toNat (LR.mk x44 r71h)) := All.set (All.monoLR fa7 hF30 (.refl _)) ((r71q.mono hF30 (.refl _)))
    refine Lst.storeS (i := 0) rfl rfl rfl rfl rfl Try.sizeOf34 (vs := [Sl.v r71h]) rfl rfl (by decide) rfl (xs' := encs (rs5.set (w64 (a3 + y3)).toNat (LR.mk x44 r71h))) ((Put.elemN (s := 1) (y := (LR.mk x44 r71h)) rfl r81g (Put.here (vs := [Sl.v r71h]) rfl)).off (by omega)) (L' := (.own s_a0 34 1 (encs (rs5.set (w64 (a3 + y3)).toNat (LR.mk x44 r71h)))) :: L) rfl ?_
    refine hds inv (sc1 (.refl _)) ?_
    refine HdJ.done (by kernel_rfl) ?_
    exact At.meetN (r79h, x48, p56, (rs5.set (w64 (a3 + y3)).toNat (LR.mk x44 r71h))) fl ⟨rfl, rfl, rfl, rfl, rfl, rfl, rfl, rfl, rfl, trivial⟩ rfl ⟨h69, (r79q.mono hF30 (.refl _)), hm82, (All.monoLR ha83 fl (.refl _))⟩
   refine HdStep.c (fun inv => ?_) trivial
   refine Lst.r (Ev.loadS (α := LR Int) rfl (rdo 0 rfl rfl rfl) Try.isAgg34 (v := Sl.v r79h) ((Get.elemN (s := 1) rfl r79g gh0).off (by omega))) ?_
   refine hds inv (sc1 (.refl _)) ?_
   refine HdJ.o1 13 (fun inv => ?_)
   refine Lst.r (Ev.loadS (α := LR Int) rfl (rdo 0 rfl rfl rfl) Try.isAgg34 (v := Sl.v r71h) ((Get.elemN (s := 1) rfl r71g gh0).off (by omega))) ?_
   refine hds inv (sc1 (.refl _)) ?_
   refine HdJ.o1 20 (fun inv => ?_)
   have g84 := lat_some h53
   obtain ⟨⟨r85v, r85h⟩, r85g, r85e, r85m⟩ := map_get fm6 g84.2.2
   obtain rfl : x52 = r85v := r85e.symm
   have r85q : Rd w0 _ _ r85h x52 := fa7 _ r85m
   refine Lst.r (Ev.indexS (α := LR Int) (xs := rs5) rfl rfl Try.runUnderlying56 Try.sizeOf34 rfl (by decide) (rdo 0 rfl rfl rfl) g84.1 (by have := map_len fm6; omega)) ?_
   refine hds inv (sc1 (.refl _)) ?_
   refine HdJ.o1 21 (fun inv => ?_)
   have hm86 : (rs5.set (w64 (a3 + y3)).toNat (LR.mk x44 r71h)).map LR.v = p56 := (map_set fm6 _ _).trans h57
   have ha87 : All LR.rel w0 F29 M (rs5.set (w64 (a3 + y3)).toNat (LR.mk x44 r71h)) := All.set (All.monoLR fa7 hF30 (.refl _)) ((r71q.mono hF30 (.refl _)))
   refine Lst.storeS (i := 0) rfl rfl rfl rfl rfl Try.sizeOf34 (vs := [Sl.v r71h]) rfl rfl (by decide) rfl (xs' := encs (rs5.set (w64 (a3 + y3)).toNat (LR.mk x44 r71h))) ((Put.elemN (s := 1) (y := (LR.mk x44 r71h)) rfl r85g (Put.here (vs := [Sl.v r71h]) rfl)).off (by omega)) (L' := (.own s_a0 34 1 (encs (rs5.set (w64 (a3 + y3)).toNat (LR.mk x44 r71h)))) :: L) rfl ?_
   refine hds inv (sc1 (.refl _)) ?_
   refine HdJ.done (by kernel_rfl) ?_
   exact At.meetN (r79h, x48, p56, (rs5.set (w64 (a3 + y3)).toNat (LR.mk x44 r71h))) fl ⟨rfl, rfl, rfl, rfl, rfl, rfl, rfl, rfl, rfl, trivial⟩ rfl ⟨h69, (r79q.mono hF30 (.refl _)), hm86, (All.monoLR ha87 fl (.refl _))⟩
  refine HdStep.c (fun inv => ?_) trivial
  have g88 := lat_some h49
  obtain ⟨⟨r89v, r89h⟩, r89g, r89e, r89m⟩ := map_get fm6 g88.2.2
  obtain rfl : x48 = r89v := r89e.symm
  have r89q : Rd w0 _ _ r89h x48 := fa7 _ r89m
  refine Lst.r (Ev.indexS (α := LR Int) (xs := rs5) rfl rfl Try.runUnderlying56 Try.sizeOf34 rfl (by decide) (rdo 0 rfl rfl rfl) g88.1 (by have := map_len fm6; omega)) ?_
  refine hds inv (sc1 (.refl _)) ?_
  refine HdJ.step [12, 19] (by kernel_rfl) rfl ?_
  refine HdStep.c (fun inv => ?_) ?_
  ·have g90 := lat_some h45
   obtain ⟨⟨r91v, r91h⟩, r91g, r91e, r91m⟩ := map_get fm6 g90.2.2
   obtain rfl : x44 = r91v := r91e.symm
   have r91q : Rd w0 _ _ r91h x44 := fa7 _ r91m
   refine Lst.r (Ev.indexS (α := LR Int) (xs := rs5) rfl rfl Try.runUnderlying56 Try.sizeOf34 rfl (by decide) (rdo 0 rfl rfl rfl) g90.1 (by have := map_len fm6; omega)) ?_
   refine hds inv (sc1 (.refl _)) ?_
   refine HdJ.step [13, 19] (by kernel_rfl) rfl ?_
   refine HdStep.c (fun inv => ?_) ?_
   ·refine Lst.r (Ev.loadS (α := LR Int) rfl (rdo 0 rfl rfl rfl) Try.isAgg34 (v := Sl.v r91h) ((Get.elemN (s := 1) rfl r91g gh0).off (by omega))) ?_
    refine hds inv (sc1 (.refl _)) ?_
    refine HdJ.o1 19 (fun inv => ?_)
    refine Lst.r (Ev.loadS (α := LR Int) rfl (rdo 0 rfl rfl rfl) Try.isAgg34 (v := Sl.v r89h) ((Get.elemN (s := 1) rfl r89g gh0).off (by omega))) ?_
    refine hds inv (sc1 (.refl _)) ?_
    refine HdJ.o1 20 (fun inv => ?_)
    have g92 := lat_some h53
    obtain ⟨⟨r93v, r93h⟩, r93g, r93e, r93m⟩ := map_get fm6 g92.2.2
    obtain rfl : x52 = r93v := r93e.symm
    have r93q : Rd w0 _ _ r93h x52 := fa7 _ r93m
    refine Lst.r (Ev.indexS (α := LR Int) (xs := rs5) rfl rfl Try.runUnderlying56 Try.sizeOf34 rfl (by decide) (rdo 0 rfl rfl rfl) g92.1 (by have := map_len fm6; omega)) ?_
    refine hds inv (sc1 (.refl _)) ?_
    refine HdJ.o1 21 (fun inv => ?_)
    have hm94 : (rs5.set (w64 (a3 + y3)).toNat (LR.mk x44 r91h)).map LR.v = p56 := (map_set fm6 _ _).trans h57
    have ha95 : All LR.rel w0 F29 M (rs5.set (w64 (a3 + y3)).toNat (LR.mk x44 r91h)) := All.set (All.monoLR fa7 hF30 (.refl _)) ((r91q.mono hF30 (.refl _)))
    refine Lst.storeS (i := 0) rfl rfl rfl rfl rfl Try.sizeOf34 (vs := [Sl.v r91h]) rfl rfl (by decide) rfl (xs' := encs (rs5.set (w64 (a3 + y3)).toNat (LR.mk x44 r91h))) ((Put.elemN (s := 1) (y := (LR.mk x44 r91h)) rfl r93g (Put.here (vs := [Sl.v r91h]) rfl)).off (by omega)) (L' := (.own s_a0 34 1 (encs (rs5.set (w64 (a3 + y3)).toNat (LR.mk x44 r91h)))) :: L) rfl ?_
    refine hds inv (sc1 (.refl _)) ?_
    refine HdJ.done (by kernel_rfl) ?_
    exact At.meetN (r89h, x48, p56, (rs5.set (w64 (a3 + y3)).toNat (LR.mk x44 r91h))) fl ⟨rfl, rfl, rfl, rfl, rfl, rfl, rfl, rfl, rfl, trivial⟩ rfl ⟨h69, (r89q.mono hF30 (.refl _)), hm94, (All.monoLR ha95 fl (.refl _))⟩
   refine HdStep.c (fun inv => ?_) trivial
   refine Lst.r (Ev.loadS (α := LR Int) rfl (rdo 0 rfl rfl rfl) Try.isAgg34 (v := Sl.v r89h) ((Get.elemN (s := 1) rfl r89g gh0).off (by omega))) ?_
   refine hds inv (sc1 (.refl _)) ?_
   refine HdJ.o1 13 (fun inv => ?_)
   refine Lst.r (Ev.loadS (α := LR Int) rfl (rdo 0 rfl rfl rfl) Try.isAgg34 (v := Sl.v r91h) ((Get.elemN (s := 1) rfl r91g gh0).off (by omega))) ?_
   refine hds inv (sc1 (.refl _)) ?_
   refine HdJ.o1 20 (fun inv => ?_)
   have g96 := lat_some h53
   obtain ⟨⟨r97v, r97h⟩, r97g, r97e, r97m⟩ := map_get fm6 g96.2.2
   obtain rfl : x52 = r97v := r97e.symm
   have r97q : Rd w0 _ _ r97h x52 := fa7 _ r97m
   refine Lst.r (Ev.indexS (α := LR Int) (xs := rs5) rfl rfl Try.runUnderlying56 Try.sizeOf34 rfl (by decide) (rdo 0 rfl rfl rfl) g96.1 (by have := map_len fm6; omega)) ?_
   refine hds inv (sc1 (.refl _)) ?_
   refine HdJ.o1 21 (fun inv => ?_)
   have hm98 : (rs5.set (w64 (a3 + y3)).toNat (LR.mk x44 r91h)).map LR.v = p56 := (map_set fm6 _ _).trans h57
   have ha99 : All LR.rel w0 F29 M (rs5.set (w64 (a3 + y3)).toNat (LR.mk x44 r91h)) := All.set (All.monoLR fa7 hF30 (.refl _)) ((r91q.mono hF30 (.refl _)))
   refine Lst.storeS (i := 0) rfl rfl rfl rfl rfl Try.sizeOf34 (vs := [Sl.v r91h]) rfl rfl (by decide) rfl (xs' := encs (rs5.set (w64 (a3 + y3)).toNat (LR.mk x44 r91h))) ((Put.elemN (s := 1) (y := (LR.mk x44 r91h)) rfl r97g (Put.here (vs := [Sl.v r91h]) rfl)).off (by omega)) (L' := (.own s_a0 34 1 (encs (rs5.set (w64 (a3 + y3)).toNat (LR.mk x44 r91h)))) :: L) rfl ?_
   refine hds inv (sc1 (.refl _)) ?_
   refine HdJ.done (by kernel_rfl) ?_
   exact At.meetN (r89h, x48, p56, (rs5.set (w64 (a3 + y3)).toNat (LR.mk x44 r91h))) fl ⟨rfl, rfl, rfl, rfl, rfl, rfl, rfl, rfl, rfl, trivial⟩ rfl ⟨h69, (r89q.mono hF30 (.refl _)), hm98, (All.monoLR ha99 fl (.refl _))⟩
  refine HdStep.c (fun inv => ?_) trivial
  refine Lst.r (Ev.loadS (α := LR Int) rfl (rdo 0 rfl rfl rfl) Try.isAgg34 (v := Sl.v r89h) ((Get.elemN (s := 1) rfl r89g gh0).off (by omega))) ?_
  refine hds inv (sc1 (.refl _)) ?_
  refine HdJ.o1 12 (fun inv => ?_)
  have g100 := lat_some h45
  obtain ⟨⟨r101v, r101h⟩, r101g, r101e, r101m⟩ := map_get fm6 g100.2.2
  obtain rfl : x44 = r101v := r101e.symm
  have r101q : Rd w0 _ _ r101h x44 := fa7 _ r101m
  refine Lst.r (Ev.indexS (α := LR Int) (xs := rs5) rfl rfl Try.runUnderlying56 Try.sizeOf34 rfl (by decide) (rdo 0 rfl rfl rfl) g100.1 (by have := map_len fm6; omega)) ?_
  refine hds inv (sc1 (.refl _)) ?_
  refine HdJ.o1 13 (fun inv => ?_)
  refine Lst.r (Ev.loadS (α := LR Int) rfl (rdo 0 rfl rfl rfl) Try.isAgg34 (v := Sl.v r101h) ((Get.elemN (s := 1) rfl r101g gh0).off (by omega))) ?_
  refine hds inv (sc1 (.refl _)) ?_
  refine HdJ.o1 20 (fun inv => ?_)
  have g102 := lat_some h53
  obtain ⟨⟨r103v, r103h⟩, r103g, r103e, r103m⟩ := map_get fm6 g102.2.2
  obtain rfl : x52 = r103v := r103e.symm
  have r103q : Rd w0 _ _ r103h x52 := fa7 _ r103m
  refine Lst.r (Ev.indexS (α := LR Int) (xs := rs5) rfl rfl Try.runUnderlying56 Try.sizeOf34 rfl (by decide) (rdo 0 rfl rfl rfl) g102.1 (by have := map_len fm6; omega)) ?_
  refine hds inv (sc1 (.refl _)) ?_
  refine HdJ.o1 21 (fun inv => ?_)
  have hm104 : (rs5.set (w64 (a3 + y3)).toNat (LR.mk x44 r101h)).map LR.v = p56 := (map_set fm6 _ _).trans h57
  have ha105 : All LR.rel w0 F29 M (rs5.set (w64 (a3 + y3)).toNat (LR.mk x44 r101h)) := All.set (All.monoLR fa7 hF30 (.refl _)) ((r101q.mono hF30 (.refl _)))
  refine Lst.storeS (i := 0) rfl rfl rfl rfl rfl Try.sizeOf34 (vs := [Sl.v r101h]) rfl rfl (by decide) rfl (xs' := encs (rs5.set (w64 (a3 + y3)).toNat (LR.mk x44 r101h))) ((Put.elemN (s := 1) (y := (LR.mk x44 r101h)) rfl r103g (Put.here (vs := [Sl.v r101h]) rfl)).off (by omega)) (L' := (.own s_a0 34 1 (encs (rs5.set (w64 (a3 + y3)).toNat (LR.mk x44 r101h)))) :: L) rfl ?_
  refine hds inv (sc1 (.refl _)) ?_
  refine HdJ.done (by kernel_rfl) ?_
  exact At.meetN (r89h, x48, p56, (rs5.set (w64 (a3 + y3)).toNat (LR.mk x44 r101h))) fl ⟨rfl, rfl, rfl, rfl, rfl, rfl, rfl, rfl, rfl, trivial⟩ rfl ⟨h69, (r89q.mono hF30 (.refl _)), hm104, (All.monoLR ha105 fl (.refl _))⟩
 rintro F106 ⟨s61, l62, l64, rs65⟩ hF107 ⟨hy, f63, fm66, fa67⟩
 subst hy
 try dsimp only at H
 refine Lst.as (e' := [(0, Sl.v s_a0), (2, iv a2), (3, iv a3), (4, .func (.func 71) #[] #[]), (10, iv y3), (11, iv y11), (63, Sl.v s_a0), (66, iv (w64 (a3 + y11))), (78, Sl.v s61)]) (L' := (.own s_a0 34 1 (encs rs65)) :: L) ⟨rfl, rfl, rfl, rfl, rfl, rfl, rfl, rfl, rfl, trivial⟩ rfl ?_
 obtain ⟨x108, h109, H⟩ := bind_some H
 have g110 := lat_some h109
 obtain ⟨⟨r111v, r111h⟩, r111g, r111e, r111m⟩ := map_get fm66 g110.2.2
 obtain rfl : x108 = r111v := r111e.symm
 have r111q : Rd w0 _ _ r111h x108 := fa67 _ r111m
 refine Lst.r (Ev.indexS (α := LR Int) (xs := rs65) rfl rfl Try.runUnderlying56 Try.sizeOf34 rfl (by decide) (rdo 0 rfl rfl rfl) g110.1 (by have := map_len fm66; omega)) ?_
 obtain ⟨p112, h113, H⟩ := Let_some H
 have hm114 : (rs65.set (w64 (a3 + y11)).toNat (LR.mk l62 s61)).map LR.v = p112 := (map_set fm66 _ _).trans h113
 have ha115 : All LR.rel w0 F106 M (rs65.set (w64 (a3 + y11)).toNat (LR.mk l62 s61)) := All.set (All.monoLR fa67 fl (.refl _)) ((f63.mono fl (.refl _)))
 refine Lst.storeS (i := 0) rfl rfl rfl rfl rfl Try.sizeOf34 (vs := [Sl.v s61]) rfl rfl (by decide) rfl (xs' := encs (rs65.set (w64 (a3 + y11)).toNat (LR.mk l62 s61))) ((Put.elemN (s := 1) (y := (LR.mk l62 s61)) rfl r111g (Put.here (vs := [Sl.v s61]) rfl)).off (by omega)) (L' := (.own s_a0 34 1 (encs (rs65.set (w64 (a3 + y11)).toNat (LR.mk l62 s61)))) :: L) rfl ?_
 refine nt0 ?_
 refine Cd.region ?_
 refine mv0 rfl ?_
 refine Lst.r (Ev.assign rfl) ?_
 refine Lst.nil ?_
 refine At.in_normal ?_
 exact At.meet (k2, y11, p112, (rs65.set (w64 (a3 + y11)).toNat (LR.mk l62 s61))) (FLe.trans (FLe.trans hF9 hF30) hF107) ⟨rfl, rfl, rfl, rfl, rfl, trivial⟩ rfl ⟨⟨hgo2 _ (some_inj H).symm, hm114, (All.monoLR ha115 fl (.refl _))⟩, Nat.lt_succ_self _⟩
set_option maxRecDepth 20000 in
theorem slices_heapSortCmpFunc_int_Chains_1_sim {fu : Nat} {a0 : List (List Int)} {a1 : Int} {a2 : Int} {s_a0 : Sl} {rs_a0 : List (LR Int)} {r : (List (List Int))} (H : slices_heapSortCmpFunc_int_Chains_1 fu a0 a1 a2 = some r) (w0 : World) (F : Frz) (M L : List Item) (hM : M.Sublist L) (hm_a0 : rs_a0.map LR.v = a0) (ha_a0 : All LR.rel w0 F M rs_a0) : Ok Try.prog w0 88 [Sl.v s_a0, iv a1, iv a2, .func (.func 71) #[] #[]] F ((.own s_a0 34 1 (encs rs_a0)) :: L) (fun Fx L' v => ∃ (rs2 : List (LR Int)), v = .tuple #[] ∧ L' = (.own s_a0 34 1 (encs rs2)) :: L ∧ rs2.map LR.v = r ∧ All LR.rel w0 Fx M rs2) := by
 unfold slices_heapSortCmpFunc_int_Chains_1 at H
 refine Ok.enter (m := 4) (n := 60) Try.func88 rfl rfl rfl (by decide) ?_
 refine Cd.env (e' := [(0, Sl.v s_a0), (1, iv a1), (2, iv a2), (3, .func (.func 71) #[] #[])]) rfl ?_
 refine sr0 ?_
 refine mv0 rfl ?_
 refine Lst.r (Ev.assign rfl) ?_
 refine nsr ?_
 refine Lst.r (Ev.assign rfl) ?_
 refine nsr ?_
 refine mv0 rfl ?_
 refine mv0 rfl ?_
 refine Lst.r (Ev.sub rfl rfl) ?_
 refine Lst.r (Ev.assign rfl) ?_
 refine nt0 ?_
 refine Cd.seq ?_
 refine sr0 ?_
 refine mv0 rfl ?_
 refine Lst.r (Ev.sub rfl rfl) ?_
 refine Lst.r (Ev.quo (i := w64 ((w64 (a2 - a1)) - (1 : Int))) (j := (2 : Int)) rfl rfl (by decide)) ?_
 refine Lst.r (Ev.assign rfl) ?_
 refine nt0 ?_
 refine Cd.block ?_
 obtain ⟨ol2, H, HKl2⟩ := andThen_some H
 refine Cd.loop (σ := Nat × Int × (List (List Int)) × (List (LR Int))) (fun (k2, y3, l4, rs5) => [(0, Sl.v s_a0), (3, .func (.func 71) #[] #[]), (8, iv a1), (9, iv (0 : Int)), (10, iv (w64 (a2 - a1))), (11, iv y3)]) (fun (k2, y3, l4, rs5) => (.own s_a0 34 1 (encs rs5)) :: L) (fun Fx => (fun (k2, y3, l4, rs5) => whileM (slices_heapSortCmpFunc_int_Chains_1_B0 fu a1 a2) k2 (y3, l4) = some ol2 ∧ rs5.map LR.v = l4 ∧ All LR.rel w0 Fx M rs5)) (fun (k2, y3, l4, rs5) => k2) (fu, w64 ((w64 ((w64 (a2 - a1)) - (1 : Int))).tdiv (2 : Int)), a0, rs_a0) ⟨rfl, rfl, rfl, rfl, rfl, rfl, trivial⟩ rfl ⟨H, hm_a0, (All.monoLR ha_a0 fl (.refl _))⟩ ?_
 rintro F8 ⟨k2, y3, l4, rs5⟩ hF9 ⟨H, fm6, fa7⟩
 refine Cd.as (e' := [(0, Sl.v s_a0), (3, .func (.func 71) #[] #[]), (8, iv a1), (9, iv (0 : Int)), (10, iv (w64 (a2 - a1))), (11, iv y3)]) (L' := (.own s_a0 34 1 (encs rs5)) :: L) ⟨rfl, rfl, rfl, rfl, rfl, rfl, trivial⟩ rfl ?_
 rcases k2 with _ | k2
 ·cases H
 obtain ⟨c2, H, hgo2, hbrk2, hret2⟩ := whileM_go H
 unfold slices_heapSortCmpFunc_int_Chains_1_B0 at H
 try dsimp only at H
 refine Cd.seq ?_
 refine sr0 ?_
 refine mv0 rfl ?_
 refine Lst.r (Ev.geq rfl rfl) ?_
 refine nt0 ?_
 rcases (Bool.eq_false_or_eq_true (decide (y3 ≥ (0 : Int)))).symm with hb10 | hb10
 ·replace H := ite_f hb10 H
  refine Cd.condF rfl hb10 ?_
  refine Cd.exit ?_
  refine At.then_exit ?_
  refine At.then_exit ?_
  refine At.in_exit ?_
  have H := hbrk2 _ (some_inj H).symm
  subst H
  replace H := HKl2
  try dsimp only [Sum.elim_inl] at H
  refine At.then ?_
  refine sr0 ?_
  refine mv0 rfl ?_
  refine Lst.r (Ev.sub rfl rfl) ?_
  refine Lst.r (Ev.assign rfl) ?_
  refine nt0 ?_
  refine Cd.block ?_
  obtain ⟨ol11, H, HKl11⟩ := andThen_some H
  refine Cd.loop (σ := Nat × Int × (List (List Int)) × (List (LR Int))) (fun (k11, y12, l13, rs14) => [(0, Sl.v s_a0), (3, .func (.func 71) #[] #[]), (8, iv a1), (9, iv (0 : Int)), (12, iv y12)]) (fun (k11, y12, l13, rs14) => (.own s_a0 34 1 (encs rs14)) :: L) (fun Fx => (fun (k11, y12, l13, rs14) => whileM (slices_heapSortCmpFunc_int_Chains_1_B2 fu a1) k11 (y12, l13) = some ol11 ∧ rs14.map LR.v = l13 ∧ All LR.rel w0 Fx M rs14)) (fun (k11, y12, l13, rs14) => k11) (fu, w64 ((w64 (a2 - a1)) - (1 : Int)), l4, rs5) ⟨rfl, rfl, rfl, rfl, rfl, trivial⟩ rfl ⟨H, fm6, (All.monoLR fa7 fl (.refl _))⟩ ?_
  rintro F17 ⟨k11, y12, l13, rs14⟩ hF18 ⟨H, fm15, fa16⟩
  refine Cd.as (e' := [(0, Sl.v s_a0), (3, .func (.func 71) #[] #[]), (8, iv a1), (9, iv (0 : Int)), (12, iv y12)]) (L' := (.own s_a0 34 1 (encs rs14)) :: L) ⟨rfl, rfl, rfl, rfl, rfl, trivial⟩ rfl ?_
  rcases k11 with _ | k11
  ·cases H
  obtain ⟨c11, H, hgo11, hbrk11, hret11⟩ := whileM_go H
  unfold slices_heapSortCmpFunc_int_Chains_1_B2 at H
  try dsimp only at H
  refine Cd.seq ?_
  refine sr0 ?_
  refine mv0 rfl ?_
  refine Lst.r (Ev.geq rfl rfl) ?_
  refine nt0 ?_
  rcases (Bool.eq_false_or_eq_true (decide (y12 ≥ (0 : Int)))).symm with hb19 | hb19
  ·replace H := ite_f hb19 H
   refine Cd.condF rfl hb19 ?_
   refine Cd.exit ?_
   refine At.then_exit ?_
   refine At.then_exit ?_
   refine At.in_exit ?_
   have H := hbrk11 _ (some_inj H).symm
   subst H
   replace H := HKl11
   try dsimp only [Sum.elim_inl] at H
   obtain rfl := some_inj H
   exact At.ret0 (.inr rfl) rfl (FLe.trans hF9 hF18) (sk1 (.refl _)) ⟨rs14, rfl, rfl, fm15, (All.monoLR fa16 fl (.refl _))⟩
  replace H := ite_t hb19 H
  refine Cd.condT rfl hb19 ?_
  refine Cd.skip ?_
  refine At.then ?_
  refine Cd.seq ?_
  refine Cd.block ?_
  refine Cd.seq ?_
  obtain ⟨x20, h21, H⟩ := bind_some H
  obtain ⟨x24, h25, H⟩ := bind_some H
  obtain ⟨x28, h29, H⟩ := bind_some H
  obtain ⟨p32, h33, H⟩ := Let_some H
  obtain ⟨o44, h45, H⟩ := Let_some H
  refine Cd.headMeet (σ := Sl × (List Int) × (List (List Int)) × (List (LR Int))) 18 (fun (s37, l38, l40, rs41) => [(0, Sl.v s_a0), (3, .func (.func 71) #[] #[]), (8, iv a1), (9, iv (0 : Int)), (12, iv y12), (38, Sl.v s_a0), (41, iv (w64 (a1 + y12))), (51, Sl.v s37)]) (fun (s37, l38, l40, rs41) => (.own s_a0 34 1 (encs rs41)) :: L) (fun Fx (s37, l38, l40, rs41) => (l38, l40) = o44 ∧ Rd w0 Fx M s37 l38 ∧ rs41.map LR.v = l40 ∧ All LR.rel w0 Fx M rs41) (by kernel_rfl) (by kernel_rfl) (behind_sink (by kernel_rfl) (by kernel_rfl) (by kernel_rfl)) (by kernel_rfl) (fun hsel hlt => ?_) ?_
  ·refine HdJ.keep (fun w => St w0 F17 (L) w) (fun w h => trivial) ?_
   refine HdJ.ts hsel hlt 0 (sc1 (.refl _)) (Ev.move rfl) ?_
   refine HdJ.ts hsel hlt 1 (sc1 (.refl _)) (Ev.move rfl) ?_
   refine HdJ.ts hsel hlt 2 (sc1 (.refl _)) (Ev.move rfl) ?_
   refine HdJ.ts hsel hlt 3 (sc1 (.refl _)) (Ev.move rfl) ?_
   refine HdJ.ts hsel hlt 4 (sc1 (.refl _)) (Ev.move rfl) ?_
   refine HdJ.ts hsel hlt 5 (sc1 (.refl _)) (Ev.add rfl rfl) ?_
   refine HdJ.ts hsel hlt 6 (sc1 (.refl _)) (Ev.move rfl) ?_
   refine HdJ.ts hsel hlt 7 (sc1 (.refl _)) (Ev.move rfl) ?_
   refine HdJ.ts hsel hlt 8 (sc1 (.refl _)) (Ev.move rfl) ?_
   refine HdJ.ts hsel hlt 9 (sc1 (.refl _)) (Ev.add rfl rfl) ?_
   refine HdJ.ts hsel hlt 12 (sc1 (.refl _)) (Ev.move rfl) ?_
   refine HdJ.ts hsel hlt 13 (sc1 (.refl _)) (Ev.move rfl) ?_
   refine HdJ.step [10, 14] (by kernel_rfl) rfl ?_
   refine HdStep.c (fun inv => ?_) ?_
   ·have g46 := lat_some h21
    obtain ⟨⟨r47v, r47h⟩, r47g, r47e, r47m⟩ := map_get fm15 g46.2.2
    obtain rfl : x20 = r47v := r47e.symm
    have r47q : Rd w0 _ _ r47h x20 := fa16 _ r47m
    refine Lst.r (Ev.indexS (α := LR Int) (xs := rs14) rfl rfl Try.runUnderlying56 Try.sizeOf34 rfl (by decide) (rdo 0 rfl rfl rfl) g46.1 (by have := map_len fm15; omega)) ?_
    refine hds inv (sc1 (.refl _)) ?_
    refine HdJ.step [11, 14] (by kernel_rfl) rfl ?_
    refine HdStep.c (fun inv => ?_) ?_
    ·refine Lst.r (Ev.loadS (α := LR Int) rfl (rdo 0 rfl rfl rfl) Try.isAgg34 (v := Sl.v r47h) ((Get.elemN (s := 1) rfl r47g gh0).off (by omega))) ?_
     refine hds inv (sc1 (.refl _)) ?_
     refine HdJ.o1 14 (fun inv => ?_)
     have g48 := lat_some h25
     obtain ⟨⟨r49v, r49h⟩, r49g, r49e, r49m⟩ := map_get fm15 g48.2.2
     obtain rfl : x24 = r49v := r49e.symm
     have r49q : Rd w0 _ _ r49h x24 := fa16 _ r49m
     refine Lst.r (Ev.indexS (α := LR Int) (xs := rs14) rfl rfl Try.runUnderlying56 Try.sizeOf34 rfl (by decide) (rdo 0 rfl rfl rfl) g48.1 (by have := map_len fm15; omega)) ?_
     refine hds inv (sc1 (.refl _)) ?_
     refine HdJ.o1 15 (fun inv => ?_)
     refine Lst.r (Ev.loadS (α := LR Int) rfl (rdo 0 rfl rfl rfl) Try.isAgg34 (v := Sl.v r49h) ((Get.elemN (s := 1) rfl r49g gh0).off (by omega))) ?_
     refine hds inv (sc1 (.refl _)) ?_
     refine HdJ.o1 16 (fun inv => ?_)
     have g50 := lat_some h29
     obtain ⟨⟨r51v, r51h⟩, r51g, r51e, r51m⟩ := map_get fm15 g50.2.2
     obtain rfl : x28 = r51v := r51e.symm
     have r51q : Rd w0 _ _ r51h x28 := fa16 _ r51m
     refine Lst.r (Ev.indexS (α := LR Int) (xs := rs14) rfl rfl Try.runUnderlying56 Try.sizeOf34 rfl (by decide) (rdo 0 rfl rfl rfl) g50.1 (by have := map_len fm15; omega)) ?_
     refine hds inv (sc1 (.refl _)) ?_
     refine HdJ.o1 17 (fun inv => ?_)
     have hm52 : (rs14.set a1.toNat (LR.mk x20 r47h)).map LR.v = p32 := (map_set fm15 _ _).trans h33
     have ha53 : All LR.rel w0 F17 M (rs14.set a1.toNat (LR.mk x20 r47h)) := All.set (All.monoLR fa16 fl (.refl _)) ((r47q.mono fl (.refl _)))
     refine Lst.storeS (i := 0) rfl rfl rfl rfl rfl Try.sizeOf34 (vs := [Sl.v r47h]) rfl rfl (by decide) rfl (xs' := encs (rs14.set a1.toNat (LR.mk x20 r47h))) ((Put.elemN (s := 1) (y := (LR.mk x20 r47h)) rfl r51g (Put.here (vs := [Sl.v r47h]) rfl)).off (by omega)) (L' := (.own s_a0 34 1 (encs (rs14.set a1.toNat (LR.mk x20 r47h)))) :: L) rfl ?_
     refine hds inv (sc1 (.refl _)) ?_
     refine HdJ.done (by kernel_rfl) ?_
     exact At.meetN (r49h, x24, p32, (rs14.set a1.toNat (LR.mk x20 r47h))) fl ⟨rfl, rfl, rfl, rfl, rfl, rfl, rfl, rfl, trivial⟩ rfl ⟨h45, (r49q.mono fl (.refl _)), hm52, (All.monoLR ha53 fl (.refl _))⟩
    refine HdStep.c (fun inv => ?_) trivial
    have g54 := lat_some h25
    obtain ⟨⟨r55v, r55h⟩, r55g, r55e, r55m⟩ := map_get fm15 g54.2.2
    obtain rfl : x24 = r55v := r55e.symm
    have r55q : Rd w0 _ _ r55h x24 := fa16 _ r55m
    refine Lst.r (Ev.indexS (α := LR Int) (xs := rs14) rfl rfl Try.runUnderlying56 Try.sizeOf34 rfl (by decide) (rdo 0 rfl rfl rfl) g54.1 (by have := map_len fm15; omega)) ?_
    refine hds inv (sc1 (.refl _)) ?_
    refine HdJ.step [11, 15] (by kernel_rfl) rfl ?_
    refine HdStep.c (fun inv => ?_) ?_
    ·refine Lst.r (Ev.loadS (α := LR Int) rfl (rdo 0 rfl rfl rfl) Try.isAgg34 (v := Sl.v r47h) ((Get.elemN (s := 1) rfl r47g gh0).off (by omega))) ?_
     refine hds inv (sc1 (.refl _)) ?_
     refine HdJ.o1 15 (fun inv => ?_)
     refine Lst.r (Ev.loadS (α := LR Int) rfl (rdo 0 rfl rfl rfl) Try.isAgg34 (v := Sl.v r55h) ((Get.elemN (s := 1) rfl r55g gh0).off (by omega))) ?_
     refine hds inv (sc1 (.refl _)) ?_
     refine HdJ.o1 16 (fun inv => ?_)
     have g56 := lat_some h29
     obtain ⟨⟨r57v, r57h⟩, r57g, r57e, r57m⟩ := map_get fm15 g56.2.2
     obtain rfl : x28 = r57v := r57e.symm
     have r57q : Rd w0 _ _ r57h x28 := fa16 _ r57m
     refine Lst.r (Ev.indexS (α := LR Int) (xs := rs14) rfl rfl Try.runUnderlying56 Try.sizeOf34 rfl (by decide) (rdo 0 rfl rfl rfl) g56.1 (by have := map_len fm15; omega)) ?_
     refine hds inv (sc1 (.refl _)) ?_
     refine HdJ.o1 17 (fun inv => ?_)
     have hm58 : (rs14.set a1.toNat (LR.mk x20 r47h)).map LR.v = p32 := (map_set fm15 _ _).trans h33
     have ha59 : All LR.rel w0 F17 M (rs14.set a1.toNat (LR.mk x20 r47h)) := All.set (All.monoLR fa16 fl (.refl _)) ((r47q.mono fl (.refl _)))
     refine Lst.storeS (i := 0) rfl rfl rfl rfl rfl Try.sizeOf34 (vs := [Sl.v r47h]) rfl rfl (by decide) rfl (xs' := encs (rs14.set a1.toNat (LR.mk x20 r47h))) ((Put.elemN (s := 1) (y := (LR.mk x20 r47h)) rfl r57g (Put.here (vs := [Sl.v r47h]) rfl)).off (by omega)) (L' := (.own s_a0 34 1 (encs (rs14.set a1.toNat (LR.mk x20 r47h)))) :: L) rfl ?_
     refine hds inv (sc1 (.refl _)) ?_
     refine HdJ.done (by kernel_rfl) ?_
     exact At.meetN (r55h, x24, p32, (rs14.set a1.toNat (LR.mk x20 r47h))) fl ⟨rfl, rfl, rfl, rfl, rfl, rfl, rfl, rfl, trivial⟩ rfl ⟨h45, (r55q.mono fl (.refl _)), hm58, (All.monoLR ha59 fl (.refl _))⟩
    refine HdStep.c (fun inv => ?_) trivial
    refine Lst.r (Ev.loadS (α := LR Int) rfl (rdo 0 rfl rfl rfl) Try.isAgg34 (v := Sl.v r55h) ((Get.elemN (s := 1) rfl r55g gh0).off (by omega))) ?_
    refine hds inv (sc1 (.refl _)) ?_
    refine HdJ.o1 11 (fun inv => ?_)
    refine Lst.r (Ev.loadS (α := LR Int) rfl (rdo 0 rfl rfl rfl) Try.isAgg34 (v := Sl.v r47h) ((Get.elemN (s := 1) rfl r47g gh0).off (by omega))) ?_
    refine hds inv (sc1 (.refl _)) ?_
    refine HdJ.o1 16 (fun inv => ?_)
    have g60 := lat_some h29
    obtain ⟨⟨r61v, r61h⟩, r61g, r61e, r61m⟩ := map_get fm15 g60.2.2
    obtain rfl : x28 = r61v := r61e.symm
    have r61q : Rd w0 _ _ r61h x28 := fa16 _ r61m
    refine Lst.r (Ev.indexS (α := LR Int) (xs := rs14) rfl rfl Try.runUnderlying56 Try.sizeOf34 rfl (by decide) (rdo 0 rfl rfl rfl) g60.1 (by have := map_len fm15; omega)) ?_
    refine hds inv (sc1 (.refl _)) ?_
    refine HdJ.o1 17 (fun inv => ?_)
    have hm62 : (rs14.set a1.toNat (LR.mk x20 r47h)).map LR.v = p32 := (map_set fm15 _ _).trans h33
    have ha63 : All LR.rel w0 F17 M (rs14.set a1.toNat (LR.mk x20 r47h)) := All.set (All.monoLR fa16 fl (.refl _)) ((r47q.mono fl (.refl _)))
    refine Lst.storeS (i := 0) rfl rfl rfl rfl rfl Try.sizeOf34 (vs := [Sl.v r47h]) rfl rfl (by decide) rfl (xs' := encs (rs14.set a1.toNat (LR.mk x20 r47h))) ((Put.elemN (s := 1) (y := (LR.mk x20 r47h)) rfl r61g (Put.here (vs := [Sl.v r47h]) rfl)).off (by omega)) (L' := (.own s_a0 34 1 (encs (rs14.set a1.toNat (LR.mk x20 r47h)))) :: L) rfl ?_
    refine hds inv (sc1 (.refl _)) ?_
    refine HdJ.done (by kernel_rfl) ?_
    exact At.meetN (r55h, x24, p32, (rs14.set a1.toNat (LR.mk x20 r47h))) fl ⟨rfl, rfl, rfl, rfl, rfl, rfl, rfl, rfl, trivial⟩ rfl ⟨h45, (r55q.mono fl (.refl _)), hm62, (All.monoLR ha63 fl (.refl _))⟩
   refine HdStep.c (fun inv => ?_) trivial
   have g64 := lat_some h25
   obtain ⟨⟨r65v, r65h⟩, r65g, r65e, r65m⟩ := map_get fm15 g64.2.2
   obtain rfl : x24 = r65v := r65e.symm
   have r65q : Rd w0 _ _ r65h x24 := fa16 _ r65m
   refine Lst.r (Ev.indexS (α := LR Int) (xs := rs14) rfl rfl Try.runUnderlying56 Try.sizeOf34 rfl (by decide) (rdo 0 rfl rfl rfl) g64.1 (by have := map_len fm15; omega)) ?_
   refine hds inv (sc1 (.refl _)) ?_
   refine HdJ.step [10, 15] (by kernel_rfl) rfl ?_
   refine HdStep.c (fun inv => ?_) ?_
   ·have g66 := lat_some h21
    obtain ⟨⟨r67v, r67h⟩, r67g, r67e, r67m⟩ := map_get fm15 g66.2.2
    obtain rfl : x20 = r67v := r67e.symm
    have r67q : Rd w0 _ _ r67h x20 := fa16 _ r67m
    refine Lst.r (Ev.indexS (α := LR Int) (xs := rs14) rfl rfl Try.runUnderlying56 Try.sizeOf34 rfl (by decide) (rdo 0 rfl rfl rfl) g66.1 (by have := map_len fm15; omega)) ?_
    refine hds inv (sc1 (.refl _)) ?_
    refine HdJ.step [11, 15] (by kernel_rfl) rfl ?_
    refine HdStep.c (fun inv => ?_) ?_
    ·refine Lst.r (Ev.loadS (α := LR Int) rfl (rdo 0 rfl rfl rfl) Try.isAgg34 (v := Sl.v r67h) ((Get.elemN (s := 1) rfl r67g gh0).off (by omega))) ?_
     refine hds inv (sc1 (.refl _)) ?_
     refine HdJ.o1 15 (fun inv => ?_)
     refine Lst.r (Ev.loadS (α := LR Int) rfl (rdo 0 rfl rfl rfl) Try.isAgg34 (v := Sl.v r65h) ((Get.elemN (s := 1) rfl r65g gh0).off (by omega))) ?_
     refine hds inv (sc1 (.refl _)) ?_
     refine HdJ.o1 16 (fun inv => ?_)
     have g68 := lat_some h29
     obtain ⟨⟨r69v, r69h⟩, r69g, r69e, r69m⟩ := map_get fm15 g68.2.2
     obtain rfl : x28 = r69v := r69e.symm
     have r69q : Rd w0 _ _ r69h x28 := fa16 _ r69m
     refine Lst.r (Ev.indexS (α := LR Int) (xs := rs14) rfl rfl Try.runUnderlying56 Try.sizeOf34 rfl (by decide) (rdo 0 rfl rfl rfl) g68.1 (by have := map_len fm15; omega)) ?_
     refine hds inv (sc1 (.refl _)) ?_
     refine HdJ.o1 17 (fun inv => ?_)
     have hm70 : (rs14.set a1.toNat (LR.mk x20 r67h)).map LR.v = p32 := (map_set fm15 _ _).trans h33
     have ha71 : All LR.rel w0 F17 M (rs14.set a1.toNat (LR.mk x20 r67h)) := All.set (All.monoLR fa16 fl (.refl _)) ((r67q.mono fl (.refl _)))
     refine Lst.storeS (i := 0) rfl rfl rfl rfl rfl Try.sizeOf34 (vs := [Sl.v r67h]) rfl rfl (by decide) rfl (xs' := encs (rs14.set a1.toNat (LR.mk x20 r67h))) ((Put.elemN (s := 1) (y := (LR.mk x20 r67h)) rfl r69g (Put.here (vs := [Sl.v r67h]) rfl)).off (by omega)) (L' := (.own s_a0 34 1 (encs (rs14.set a1.toNat (LR.mk x20 r67h)))) :: L) rfl ?_
     refine hds inv (sc1 (.refl _)) ?_
     refine HdJ.done (by kernel_rfl) ?_
     exact At.meetN (r65h, x24, p32, (rs14.set a1.toNat (LR.mk x20 r67h))) fl ⟨rfl, rfl, rfl, rfl, rfl, rfl, rfl, rfl, trivial⟩ rfl ⟨h45, (r65q.mono fl (.refl _)), hm70, (All.monoLR ha71 fl (.refl _))⟩
    refine HdStep.c (fun inv => ?_) trivial
    refine Lst.r (Ev.loadS (α := LR Int) rfl (rdo 0 rfl rfl rfl) Try.isAgg34 (v := Sl.v r65h) ((Get.elemN (s := 1) rfl r65g gh0).off (by omega))) ?_
    refine hds inv (sc1 (.refl _)) ?_
    refine HdJ.o1 11 (fun inv => ?_)
    refine Lst.r (Ev.loadS (α := LR Int) rfl (rdo 0 rfl rfl rfl) Try.isAgg34 (v := Sl.v r67h) ((Get.elemN (s := 1) rfl r67g gh0).off (by omega))) ?_
    refine hds inv (sc1 (.refl _)) ?_
    refine HdJ.o1 16 (fun inv => ?_)
    have g72 := lat_some h29
    obtain ⟨⟨r73v, r73h⟩, r73g, r73e, r73m⟩ := map_get fm15 g72.2.2
    obtain rfl : x28 = r73v := r73e.symm
    have r73q : Rd w0 _ _ r73h x28 := fa16 _ r73m
    refine Lst.r (Ev.indexS (α := LR Int) (xs := rs14) rfl rfl Try.runUnderlying56 Try.sizeOf34 rfl (by decide) (rdo 0 rfl rfl rfl) g72.1 (by have := map_len fm15; omega)) ?_
    refine hds inv (sc1 (.refl _)) ?_
    refine HdJ.o1 17 (fun inv => ?_)
    have hm74 : (rs14.set a1.toNat (LR.mk x20 r67h)).map LR.v = p32 := (map_set fm15 _ _).trans h33
    have ha75 : All LR.rel w0 F17 M (rs14.set a1.toNat (LR.mk x20 r67h)) := All.set (All.monoLR fa16 fl (.refl _)) ((r67q.mono fl (.refl _)))
    refine Lst.storeS (i := 0) rfl rfl rfl rfl rfl Try.sizeOf34 (vs := [Sl.v r67h]) rfl rfl (by decide) rfl (xs' := encs (rs14.set a1.toNat (LR.mk x20 r67h))) ((Put.elemN (s := 1) (y := (LR.mk x20 r67h)) rfl r73g (Put.here (vs := [Sl.v r67h]) rfl)).off (by omega)) (L' := (.own s_a0 34 1 (encs (rs14.set a1.toNat (LR.mk x20 r67h)))) :: L) rfl ?_
    refine hds inv (sc1 (.refl _)) ?_
    refine HdJ.done (by kernel_rfl) ?_
    exact At.meetN (r65h, x24, p32, (rs14.set a1.toNat (LR.mk x20 r67h))) fl ⟨rfl, rfl, rfl, rfl, rfl, rfl, rfl, rfl, trivial⟩ rfl ⟨h45, (r65q.mono fl (.refl _)), hm74, (All.monoLR ha75 fl (.refl _))⟩
   refine HdStep.c (fun inv => ?_) trivial
   refine Lst.r (Ev.loadS (α := LR Int) rfl (rdo 0 rfl rfl rfl) Try.isAgg34 (v := Sl.v r65h) ((Get.elemN (s := 1) rfl r65g gh0).off (by omega))) ?_
   refine hds inv (sc1 (.refl _)) ?_
   refine HdJ.o1 10 (fun inv => ?_)
   have g76 := lat_some h21
   obtain ⟨⟨r77v, r77h⟩, r77g, r77e, r77m⟩ := map_get fm15 g76.2.2
   obtain rfl : x20 = r77v := r77e.symm
   have r77q : Rd w0 _ _ r77h x20 := fa16 _ r77m
   refine Lst.r (Ev.indexS (α := LR Int) (xs := rs14) rfl rfl Try.runUnderlying56 Try.sizeOf34 rfl (by decide) (rdo 0 rfl rfl rfl) g76.1 (by have := map_len fm15; omega)) ?_
   refine hds inv (sc1 (.refl _)) ?_
   refine HdJ.o1 11 (fun inv => ?_)
   refine Lst.r (Ev.loadS (α := LR Int) rfl (rdo 0 rfl rfl rfl) Try.isAgg34 (v := Sl.v r77h) ((Get.elemN (s := 1) rfl r77g gh0).off (by omega))) ?_
   refine hds inv (sc1 (.refl _)) ?_
   refine HdJ.o1 16 (fun inv => ?_)
   have g78 := lat_some h29
   obtain ⟨⟨r79v, r79h⟩, r79g, r79e, r79m⟩ := map_get fm15 g78.2.2
   obtain rfl : x28 = r79v := r79e.symm
   have r79q : Rd w0 _ _ r79h x28 := fa16 _ r79m
   refine Lst.r (Ev.indexS (α := LR Int) (xs := rs14) rfl rfl Try.runUnderlying56 Try.sizeOf34 rfl (by decide) (rdo 0 rfl rfl rfl) g78.1 (by have := map_len fm15; omega)) ?_
   refine hds inv (sc1 (.refl _)) ?_
   refine HdJ.o1 17 (fun inv => ?_)
   have hm80 : (rs14.set a1.toNat (LR.mk x20 r77h)).map LR.v = p32 := (map_set fm15 _ _).trans h33
   have ha81 : All LR.rel w0 F17 M (rs14.set a1.toNat (LR.mk x20 r77h)) := All.set (All.monoLR fa16 fl (.refl _)) ((r77q.mono fl (.refl _)))
   refine Lst.storeS (i := 0) rfl rfl rfl rfl rfl Try.sizeOf34 (vs := [Sl.v r77h]) rfl rfl (by decide) rfl (xs' := encs (rs14.set a1.toNat (LR.mk x20 r77h))) ((Put.elemN (s := 1) (y := (LR.mk x20 r77h)) rfl r79g (Put.here (vs := [Sl.v r77h]) rfl)).off (by omega)) (L' := (.own s_a0 34 1 (encs (rs14.set a1.toNat (LR.mk x20 r77h)))) :: L) rfl ?_
   refine hds inv (sc1 (.refl _)) ?_
   refine HdJ.done (by kernel_rfl) ?_
   exact At.meetN (r65h, x24, p32, (rs14.set a1.toNat (LR.mk x20 r77h))) fl ⟨rfl, rfl, rfl, rfl, rfl, rfl, rfl, rfl, trivial⟩ rfl ⟨h45, (r65q.mono fl (.refl _)), hm80, (All.monoLR ha81 fl (.refl _))⟩
  rintro F82 ⟨s37, l38, l40, rs41⟩ hF83 ⟨hy, f39, fm42, fa43⟩
  subst hy
  try dsimp only at H
  refine Lst.as (e' := [(0, Sl.v s_a0), (3, .func (.func 71) #[] #[]), (8, iv a1), (9, iv (0 : Int)), (12, iv y12), (38, Sl.v s_a0), (41, iv (w64 (a1 + y12))), (51, Sl.v s37)]) (L' := (.own s_a0 34 1 (encs rs41)) :: L) ⟨rfl, rfl, rfl, rfl, rfl, rfl, rfl, rfl, trivial⟩ rfl ?_
  obtain ⟨x84, h85, H⟩ := bind_some H
  have g86 := lat_some h85
  obtain ⟨⟨r87v, r87h⟩, r87g, r87e, r87m⟩ := map_get fm42 g86.2.2
  obtain rfl : x84 = r87v := r87e.symm
  have r87q : Rd w0 _ _ r87h x84 := fa43 _ r87m
  refine Lst.r (Ev.indexS (α := LR Int) (xs := rs41) rfl rfl Try.runUnderlying56 Try.sizeOf34 rfl (by decide) (rdo 0 rfl rfl rfl) g86.1 (by have := map_len fm42; omega)) ?_
  obtain ⟨p88, h89, H⟩ := Let_some H
  have hm90 : (rs41.set (w64 (a1 + y12)).toNat (LR.mk l38 s37)).map LR.v = p88 := (map_set fm42 _ _).trans h89
  have ha91 : All LR.rel w0 F82 M (rs41.set (w64 (a1 + y12)).toNat (LR.mk l38 s37)) := All.set (All.monoLR fa43 fl (.refl _)) ((f39.mono fl (.refl _)))
  refine Lst.storeS (i := 0) rfl rfl rfl rfl rfl Try.sizeOf34 (vs := [Sl.v s37]) rfl rfl (by decide) rfl (xs' := encs (rs41.set (w64 (a1 + y12)).toNat (LR.mk l38 s37))) ((Put.elemN (s := 1) (y := (LR.mk l38 s37)) rfl r87g (Put.here (vs := [Sl.v s37]) rfl)).off (by omega)) (L' := (.own s_a0 34 1 (encs (rs41.set (w64 (a1 + y12)).toNat (LR.mk l38 s37)))) :: L) rfl ?_
  refine nt0 ?_
  refine Cd.region ?_
  refine mv0 rfl ?_
  refine mv0 rfl ?_
  refine mv0 rfl ?_
  refine mv0 rfl ?_
  refine mv0 rfl ?_
  obtain ⟨r92, h93, H⟩ := bind_some H
  refine Lst.call rfl rfl (by decide) (vs := [Sl.v s_a0, iv (0 : Int), iv y12, iv a1, .func (.func 71) #[] #[]]) ⟨rfl, rfl, rfl, rfl, rfl, trivial⟩ Try.call97 (slices_siftDownCmpFunc_int_Chains_1_sim h93 w0 _ M _ hM hm90 (All.monoLR ha91 fl (.refl _))) (fun F97 L' v hF98 hv => ?_)
  obtain ⟨rs94, rfl, rfl, fm95, fa96⟩ := hv
  refine Lst.nil ?_
  refine At.in_normal ?_
  refine At.then ?_
  refine Cd.region ?_
  refine mv0 rfl ?_
  refine Lst.r (Ev.sub rfl rfl) ?_
  refine Lst.r (Ev.assign rfl) ?_
  refine Lst.nil ?_
  exact At.meet (k11, w64 (y12 - (1 : Int)), r92, rs94) (FLe.trans (FLe.trans hF18 hF83) hF98) ⟨rfl, rfl, rfl, rfl, rfl, trivial⟩ rfl ⟨⟨hgo11 _ (some_inj H).symm, fm95, (All.monoLR fa96 fl (.refl _))⟩, Nat.lt_succ_self _⟩
 replace H := ite_t hb10 H
 refine Cd.condT rfl hb10 ?_
 refine Cd.skip ?_
 refine At.then ?_
 refine Cd.seq ?_
 refine Cd.block ?_
 refine Cd.region ?_
 refine mv0 rfl ?_
 refine mv0 rfl ?_
 refine mv0 rfl ?_
 refine mv0 rfl ?_
 refine mv0 rfl ?_
 obtain ⟨r99, h100, H⟩ := bind_some H
 refine Lst.call rfl rfl (by decide) (vs := [Sl.v s_a0, iv y3, iv (w64 (a2 - a1)), iv a1, .func (.func 71) #[] #[]]) ⟨rfl, rfl, rfl, rfl, rfl, trivial⟩ Try.call97 (slices_siftDownCmpFunc_int_Chains_1_sim h100 w0 _ M _ hM fm6 (All.monoLR fa7 fl (.refl _))) (fun F104 L' v hF105 hv => ?_)
 obtain ⟨rs101, rfl, rfl, fm102, fa103⟩ := hv
 refine Lst.nil ?_
 refine At.in_normal ?_
 refine At.then ?_
 refine Cd.region ?_
 refine mv0 rfl ?_
 refine Lst.r (Ev.sub rfl rfl) ?_
 refine Lst.r (Ev.assign rfl) ?_
 refine Lst.nil ?_
 exact At.meet (k2, w64 (y3 - (1 : Int)), r99, rs101) (FLe.trans hF9 hF105) ⟨rfl, rfl, rfl, rfl, rfl, rfl, trivial⟩ rfl ⟨⟨hgo2 _ (some_inj H).symm, fm102, (All.monoLR fa103 fl (.refl _))⟩, Nat.lt_succ_self _⟩
set_option maxRecDepth 20000 in
theorem slices_nextPowerOfTwo_sim {a0 : Int} {r : (BitVec 64)} (H : slices_nextPowerOfTwo a0 = some r) (w0 : World) (F : Frz) (M L : List Item) (hM : M.Sublist L) : Ok Try.prog w0 98 [iv a0] F (L) (Is (.int .u64 r.toNat) (L)) := by
 unfold slices_nextPowerOfTwo at H
 refine Ok.enter (m := 1) (n := 7) Try.func98 rfl rfl rfl (by decide) ?_
 refine Cd.env (e' := [(0, iv a0)]) rfl ?_
 refine sr0 ?_
 refine Lst.r (Ev.assign rfl) ?_
 refine nsr ?_
 refine mv0 rfl ?_
 refine Lst.r (Ev.convTo64 rfl Try.runUnderlying3 Try.runUnderlying84) ?_
 obtain ⟨r1, h2, H⟩ := bind_some H
 refine Lst.call1 rfl rfl (by decide) (vs := [.int .u64 (BitVec.ofInt 64 a0).toNat]) ⟨rfl, trivial⟩ Try.call82 (math_bits_Len_sim h2 w0 _ M _ hM) ?_
 obtain ⟨n5, h6, H⟩ := bind_some H
 refine Lst.r (Ev.shlU64 (i := (1 : BitVec 64)) (m := n5) rfl (congrArg some (congrArg (Value.int .i64) (cnt_some h6)))) ?_
 refine Lst.r (Ev.assign rfl) ?_
 refine nt0 ?_
 obtain rfl := some_inj H
 refine Cd.ret ?_
 exact At.ret1 rfl (Res.tmp rfl) fl (.refl _) ⟨rfl, rfl⟩
set_option maxRecDepth 20000 in
theorem slices_xorshift_Next_sim {a0 : BitVec 64} {b_a0 : Nat} {r : (BitVec 64) × (BitVec 64)} (H : slices_xorshift_Next a0 = some r) (w0 : World) (F : Frz) (M L : List Item) (hM : M.Sublist L) : Ok Try.prog w0 99 [pv b_a0 0] F ((.blk b_a0 (enc a0) 136) :: L) (fun _ L' v => v = .int .u64 r.2.toNat ∧ L' = (.blk b_a0 (enc r.1) 136) :: L) := by
 unfold slices_xorshift_Next at H
 refine Ok.enter (m := 1) (n := 33) Try.func99 rfl rfl rfl (by decide) ?_
 refine Cd.env (e' := [(0, pv b_a0 0)]) rfl ?_
 refine sr0 ?_
 refine Lst.r (Ev.assign rfl) ?_
 refine nt0 ?_
 refine Cd.seq ?_
 refine Cd.tail 9 (by kernel_rfl) (by kernel_rfl) ?_
 refine Qt.r (Ev.move rfl) ?_
 refine Qt.r (Ev.nilCheck rfl) ?_
 refine Qt.r (Ev.load (i := 0) rfl rfl Try.isAgg136 (v := .int .u64 a0.toNat) gh0) ?_
 refine Qt.r (Ev.move rfl) ?_
 refine Qt.r (Ev.nilCheck rfl) ?_
 refine Qt.r (Ev.load (i := 0) rfl rfl Try.isAgg136 (v := .int .u64 a0.toNat) gh0) ?_
 refine Qt.r (Ev.shlU64 (i := a0) (m := 13) rfl rfl) ?_
 refine Qt.r (Ev.xorU64 (i := a0) (j := a0 <<< 13) rfl rfl) ?_
 refine Qt.r (Ev.nilCheck rfl) ?_
 refine Qt.tail ?_
 refine Lst.store (i := 0) rfl rfl rfl rfl rfl Try.sizeOf136 (vs := [.int .u64 (a0 ^^^ (a0 <<< 13)).toNat]) rfl rfl rfl (cs' := enc (a0 ^^^ (a0 <<< 13))) (Put.here (vs := [.int .u64 (a0 ^^^ (a0 <<< 13)).toNat]) rfl) (L' := (.blk b_a0 (enc (a0 ^^^ (a0 <<< 13))) 136) :: L) rfl ?_
 refine nt0 ?_
 refine Cd.seq ?_
 refine Cd.tail 9 (by kernel_rfl) (by kernel_rfl) ?_
 refine Qt.r (Ev.move rfl) ?_
 refine Qt.r (Ev.nilCheck rfl) ?_
 refine Qt.r (Ev.load (i := 0) rfl rfl Try.isAgg136 (v := .int .u64 (a0 ^^^ (a0 <<< 13)).toNat) gh0) ?_
 refine Qt.r (Ev.move rfl) ?_
 refine Qt.r (Ev.nilCheck rfl) ?_
 refine Qt.r (Ev.load (i := 0) rfl rfl Try.isAgg136 (v := .int .u64 (a0 ^^^ (a0 <<< 13)).toNat) gh0) ?_
 refine Qt.r (Ev.shrU64 (i := a0 ^^^ (a0 <<< 13)) (m := 7) rfl rfl) ?_
 refine Qt.r (Ev.xorU64 (i := a0 ^^^ (a0 <<< 13)) (j := (a0 ^^^ (a0 <<< 13)) >>> 7) rfl rfl) ?_
 refine Qt.r (Ev.nilCheck rfl) ?_
 refine Qt.tail ?_
 refine Lst.store (i := 0) rfl rfl rfl rfl rfl Try.sizeOf136 (vs := [.int .u64 ((a0 ^^^ (a0 <<< 13)) ^^^ ((a0 ^^^ (a0 <<< 13)) >>> 7)).toNat]) rfl rfl rfl (cs' := enc ((a0 ^^^ (a0 <<< 13)) ^^^ ((a0 ^^^ (a0 <<< 13)) >>> 7))) (Put.here (vs := [.int .u64 ((a0 ^^^ (a0 <<< 13)) ^^^ ((a0 ^^^ (a0 <<< 13)) >>> 7)).toNat]) rfl) (L' := (.blk b_a0 (enc ((a0 ^^^ (a0 <<< 13)) ^^^ ((a0 ^^^ (a0 <<< 13)) >>> 7))) 136) :: L) rfl ?_
 refine nt0 ?_
 refine Cd.seq ?_
 refine Cd.as (e' := [(0, pv b_a0 0)]) (L' := (.blk b_a0 (enc ((a0 ^^^ (a0 <<< 13)) ^^^ ((a0 ^^^ (a0 <<< 13)) >>> 7))) 136) :: L) ⟨rfl, trivial⟩ rfl ?_
 refine Cd.tail 9 (by kernel_rfl) (by kernel_rfl) ?_
 refine Qt.r (Ev.move rfl) ?_
 refine Qt.r (Ev.nilCheck rfl) ?_
 refine Qt.r (Ev.load (i := 0) rfl rfl Try.isAgg136 (v := .int .u64 ((a0 ^^^ (a0 <<< 13)) ^^^ ((a0 ^^^ (a0 <<< 13)) >>> 7)).toNat) gh0) ?_
 refine Qt.r (Ev.move rfl) ?_
 refine Qt.r (Ev.nilCheck rfl) ?_
 refine Qt.r (Ev.load (i := 0) rfl rfl Try.isAgg136 (v := .int .u64 ((a0 ^^^ (a0 <<< 13)) ^^^ ((a0 ^^^ (a0 <<< 13)) >>> 7)).toNat) gh0) ?_
 refine Qt.r (Ev.shlU64 (i := (a0 ^^^ (a0 <<< 13)) ^^^ ((a0 ^^^ (a0 <<< 13)) >>> 7)) (m := 17) rfl rfl) ?_
 refine Qt.r (Ev.xorU64 (i := (a0 ^^^ (a0 <<< 13)) ^^^ ((a0 ^^^ (a0 <<< 13)) >>> 7)) (j := ((a0 ^^^ (a0 <<< 13)) ^^^ ((a0 ^^^ (a0 <<< 13)) >>> 7)) <<< 17) rfl rfl) ?_
 refine Qt.r (Ev.nilCheck rfl) ?_
 refine Qt.tail ?_
 refine Lst.store (i := 0) rfl rfl rfl rfl rfl Try.sizeOf136 (vs := [.int .u64 (((a0 ^^^ (a0 <<< 13)) ^^^ ((a0 ^^^ (a0 <<< 13)) >>> 7)) ^^^ (((a0 ^^^ (a0 <<< 13)) ^^^ ((a0 ^^^ (a0 <<< 13)) >>> 7)) <<< 17)).toNat]) rfl rfl rfl (cs' := enc (((a0 ^^^ (a0 <<< 13)) ^^^ ((a0 ^^^ (a0 <<< 13)) >>> 7)) ^^^ (((a0 ^^^ (a0 <<< 13)) ^^^ ((a0 ^^^ (a0 <<< 13)) >>> 7)) <<< 17))) (Put.here (vs := [.int .u64 (((a0 ^^^ (a0 <<< 13)) ^^^ ((a0 ^^^ (a0 <<< 13)) >>> 7)) ^^^ (((a0 ^^^ (a0 <<< 13)) ^^^ ((a0 ^^^ (a0 <<< 13)) >>> 7)) <<< 17)).toNat]) rfl) (L' := (.blk b_a0 (enc (((a0 ^^^ (a0 <<< 13)) ^^^ ((a0 ^^^ (a0 <<< 13)) >>> 7)) ^^^ (((a0 ^^^ (a0 <<< 13)) ^^^ ((a0 ^^^ (a0 <<< 13)) >>> 7)) <<< 17))) 136) :: L) rfl ?_
 refine nsr ?_
 refine mv0 rfl ?_
 refine Lst.r (Ev.nilCheck rfl) ?_
 refine Lst.r (Ev.load (i := 0) rfl rfl Try.isAgg136 (v := .int .u64 (((a0 ^^^ (a0 <<< 13)) ^^^ ((a0 ^^^ (a0 <<< 13)) >>> 7)) ^^^ (((a0 ^^^ (a0 <<< 13)) ^^^ ((a0 ^^^ (a0 <<< 13)) >>> 7)) <<< 17)).toNat) gh0) ?_
 refine Lst.r (Ev.assign rfl) ?_
 refine nt0 ?_
 obtain rfl := some_inj H
 refine Cd.ret ?_
 exact At.ret1 rfl (Res.tmp rfl) fl (sk1 (.refl _)) ⟨rfl, rfl⟩
set_option maxRecDepth 20000 in
theorem slices_breakPatternsCmpFunc_int_Chains_1_sim {fu : Nat} {a0 : List (List Int)} {a1 : Int} {a2 : Int} {s_a0 : Sl} {rs_a0 : List (LR Int)} {r : (List (List Int))} (H : slices_breakPatternsCmpFunc_int_Chains_1 fu a0 a1 a2 = some r) (w0 : World) (F : Frz) (M L : List Item) (hM : M.Sublist L) (hm_a0 : rs_a0.map LR.v = a0) (ha_a0 : All LR.rel w0 F M rs_a0) : Ok Try.prog w0 89 [Sl.v s_a0, iv a1, iv a2, .func (.func 71) #[] #[]] F ((.own s_a0 34 1 (encs rs_a0)) :: L) (fun Fx L' v => ∃ (rs2 : List (LR Int)), v = .tuple #[] ∧ L' = (.own s_a0 34 1 (encs rs2)) :: L ∧ rs2.map LR.v = r ∧ All LR.rel w0 Fx M rs2) := by
 unfold slices_breakPatternsCmpFunc_int_Chains_1 at H
 refine Ok.enter (m := 4) (n := 67) Try.func89 rfl rfl rfl (by decide) ?_
 refine Cd.env (e' := [(0, Sl.v s_a0), (1, iv a1), (2, iv a2), (3, .func (.func 71) #[] #[])]) rfl ?_
 refine sr0 ?_
 refine mv0 rfl ?_
 refine mv0 rfl ?_
 refine Lst.r (Ev.sub rfl rfl) ?_
 refine Lst.r (Ev.assign rfl) ?_
 refine nsr ?_
 refine mv0 rfl ?_
 refine Lst.r (Ev.geq rfl rfl) ?_
 refine nt0 ?_
 rcases (Bool.eq_false_or_eq_true (decide ((w64 (a2 - a1)) ≥ (8 : Int)))).symm with hb2 | hb2
 ·replace H := ite_f hb2 H
  refine Cd.condF rfl hb2 ?_
  refine Cd.skip ?_
  obtain rfl := some_inj H
  exact At.ret0 (.inr rfl) rfl fl (sk1 (.refl _)) ⟨rs_a0, rfl, rfl, hm_a0, (All.monoLR ha_a0 fl (.refl _))⟩
 replace H := ite_t hb2 H
 refine Cd.condT rfl hb2 ?_
 refine sr0 ?_
 refine mv0 rfl ?_
 refine Lst.r (Ev.convTo64 rfl Try.runUnderlying3 Try.runUnderlying136) ?_
 refine Lst.alloc (cs := enc (0 : BitVec 64)) rfl rfl (by decide) Try.zeroValue136 rfl (fun b3 => ?_)
 refine Lst.store (i := 0) rfl rfl rfl rfl rfl Try.sizeOf136 (vs := [.int .u64 (BitVec.ofInt 64 (w64 (a2 - a1))).toNat]) rfl rfl rfl (cs' := enc (BitVec.ofInt 64 (w64 (a2 - a1)))) (Put.here (vs := [.int .u64 (BitVec.ofInt 64 (w64 (a2 - a1))).toNat]) rfl) (L' := (.blk b3 (enc (BitVec.ofInt 64 (w64 (a2 - a1)))) 136) :: (.own s_a0 34 1 (encs rs_a0)) :: L) rfl ?_
 refine nsr ?_
 refine mv0 rfl ?_
 obtain ⟨r5, h6, H⟩ := bind_some H
 refine Lst.call1 rfl rfl (by decide) (vs := [iv (w64 (a2 - a1))]) ⟨rfl, trivial⟩ Try.call98 (slices_nextPowerOfTwo_sim h6 w0 _ M _ (sc2 hM)) ?_
 refine Lst.r (Ev.assign rfl) ?_
 refine nsr ?_
 refine mv0 rfl ?_
 refine mv0 rfl ?_
 refine Lst.r (Ev.quo (i := w64 (a2 - a1)) (j := (4 : Int)) rfl rfl (by decide)) ?_
 refine Lst.r (Ev.mul rfl rfl) ?_
 refine Lst.r (Ev.add rfl rfl) ?_
 refine Lst.r (Ev.sub rfl rfl) ?_
 refine Lst.r (Ev.assign rfl) ?_
 refine nt0 ?_
 refine Cd.block ?_
 obtain ⟨ol9, H, HKl9⟩ := andThen_some H
 refine Cd.loop (σ := Nat × Int × (BitVec 64) × (List (List Int)) × (List (LR Int))) (fun (k9, y10, y11, l12, rs13) => [(0, Sl.v s_a0), (1, iv a1), (8, iv (w64 (a2 - a1))), (9, pv b3 0), (10, .int .u64 r5.toNat), (11, iv y10)]) (fun (k9, y10, y11, l12, rs13) => (.blk b3 (enc y11) 136) :: (.own s_a0 34 1 (encs rs13)) :: L) (fun Fx => (fun (k9, y10, y11, l12, rs13) => whileM (slices_breakPatternsCmpFunc_int_Chains_1_B0 a1 a2 r5) k9 (y10, y11, l12) = some ol9 ∧ rs13.map LR.v = l12 ∧ All LR.rel w0 Fx M rs13)) (fun (k9, y10, y11, l12, rs13) => k9) (fu, w64 ((w64 (a1 + (w64 ((w64 ((w64 (a2 - a1)).tdiv (4 : Int))) * (2 : Int))))) - (1 : Int)), BitVec.ofInt 64 (w64 (a2 - a1)), a0, rs_a0) ⟨rfl, rfl, rfl, rfl, rfl, rfl, trivial⟩ rfl ⟨H, hm_a0, (All.monoLR ha_a0 fl (.refl _))⟩ ?_
 rintro F16 ⟨k9, y10, y11, l12, rs13⟩ hF17 ⟨H, fm14, fa15⟩
 refine Cd.as (e' := [(0, Sl.v s_a0), (1, iv a1), (8, iv (w64 (a2 - a1))), (9, pv b3 0), (10, .int .u64 r5.toNat), (11, iv y10)]) (L' := (.blk b3 (enc y11) 136) :: (.own s_a0 34 1 (encs rs13)) :: L) ⟨rfl, rfl, rfl, rfl, rfl, rfl, trivial⟩ rfl ?_
 rcases k9 with _ | k9
 ·cases H
 obtain ⟨c9, H, hgo9, hbrk9, hret9⟩ := whileM_go H
 unfold slices_breakPatternsCmpFunc_int_Chains_1_B0 at H
 try dsimp only at H
 refine Cd.seq ?_
 refine sr0 ?_
 refine mv0 rfl ?_
 refine mv0 rfl ?_
 refine mv0 rfl ?_
 refine Lst.r (Ev.quo (i := w64 (a2 - a1)) (j := (4 : Int)) rfl rfl (by decide)) ?_
 refine Lst.r (Ev.mul rfl rfl) ?_
 refine Lst.r (Ev.add rfl rfl) ?_
 refine Lst.r (Ev.add rfl rfl) ?_
 refine Lst.r (Ev.leq rfl rfl) ?_
 refine nt0 ?_
 rcases (Bool.eq_false_or_eq_true (decide (y10 ≤ (w64 ((w64 (a1 + (w64 ((w64 ((w64 (a2 - a1)).tdiv (4 : Int))) * (2 : Int))))) + (1 : Int)))))).symm with hb18 | hb18
 ·replace H := ite_f hb18 H
  refine Cd.condF rfl hb18 ?_
  refine Cd.exit ?_
  refine At.then_exit ?_
  refine At.then_exit ?_
  refine At.in_exit ?_
  have H := hbrk9 _ (some_inj H).symm
  subst H
  replace H := HKl9
  try dsimp only [Sum.elim_inl] at H
  obtain rfl := some_inj H
  exact At.ret0 (.inr rfl) rfl hF17 (sc1 (sk1 (.refl _))) ⟨rs13, rfl, rfl, fm14, (All.monoLR fa15 fl (.refl _))⟩
 replace H := ite_t hb18 H
 refine Cd.condT rfl hb18 ?_
 refine Cd.skip ?_
 refine At.then ?_
 refine Cd.seq ?_
 refine Cd.block ?_
 refine sr0 ?_
 obtain ⟨r19, h20, H⟩ := bind_some H
 refine Lst.call rfl rfl (by decide) (vs := [pv b3 0]) ⟨rfl, trivial⟩ Try.call99 (slices_xorshift_Next_sim h20 w0 _ M _ (sc1 hM)) (fun F21 L' v hF22 hv => ?_)
 obtain ⟨rfl, rfl⟩ := hv
 refine mv0 rfl ?_
 refine Lst.r (Ev.subU64 (i := r5) (j := (1 : BitVec 64)) rfl rfl) ?_
 refine Lst.r (Ev.andU64 (i := r19.2) (j := r5 - (1 : BitVec 64)) rfl rfl) ?_
 refine Lst.r (Ev.conv64 rfl Try.runUnderlying84 Try.runUnderlying3) ?_
 refine Lst.r (Ev.assign rfl) ?_
 refine nt0 ?_
 obtain ⟨o24, H, HKo24⟩ := bind_some H
 refine Cd.join (σ := Int) (fun y23 => [(0, Sl.v s_a0), (1, iv a1), (8, iv (w64 (a2 - a1))), (9, pv b3 0), (10, .int .u64 r5.toNat), (11, iv y10), (12, iv y23)]) (fun y23 => (.blk b3 (enc r19.1) 136) :: (.own s_a0 34 1 (encs rs13)) :: L) (fun _ y23 => y23 = o24) ?_ ?_
 ·refine sr0 ?_
  refine mv0 rfl ?_
  refine mv0 rfl ?_
  refine Lst.r (Ev.geq rfl rfl) ?_
  refine nt0 ?_
  rcases (Bool.eq_false_or_eq_true (decide ((w64 ((r19.2 &&& (r5 - (1 : BitVec 64))).toNat : Int)) ≥ (w64 (a2 - a1))))).symm with hb25 | hb25
  ·replace H := ite_f hb25 H
   refine Cd.condF rfl hb25 ?_
   refine Cd.skip ?_
   exact At.meet (w64 ((r19.2 &&& (r5 - (1 : BitVec 64))).toNat : Int)) fl ⟨rfl, rfl, rfl, rfl, rfl, rfl, rfl, trivial⟩ rfl (some_inj H)
  replace H := ite_t hb25 H
  refine Cd.condT rfl hb25 ?_
  refine Cd.as (e' := [(0, Sl.v s_a0), (1, iv a1), (8, iv (w64 (a2 - a1))), (9, pv b3 0), (10, .int .u64 r5.toNat), (11, iv y10), (12, iv (w64 ((r19.2 &&& (r5 - (1 : BitVec 64))).toNat : Int)))]) (L' := (.blk b3 (enc r19.1) 136) :: (.own s_a0 34 1 (encs rs13)) :: L) ⟨rfl, rfl, rfl, rfl, rfl, rfl, rfl, trivial⟩ rfl ?_
  refine Cd.region ?_
  refine mv0 rfl ?_
  refine mv0 rfl ?_
  refine Lst.r (Ev.sub rfl rfl) ?_
  refine Lst.r (Ev.assign rfl) ?_
  refine Lst.nil ?_
  exact At.meet (w64 ((w64 ((r19.2 &&& (r5 - (1 : BitVec 64))).toNat : Int)) - (w64 (a2 - a1)))) fl ⟨rfl, rfl, rfl, rfl, rfl, rfl, rfl, trivial⟩ rfl (some_inj H)
 rintro F26 y23 hF27 hy
 subst hy
 refine Cd.as (e' := [(0, Sl.v s_a0), (1, iv a1), (8, iv (w64 (a2 - a1))), (9, pv b3 0), (10, .int .u64 r5.toNat), (11, iv y10), (12, iv y23)]) (L' := (.blk b3 (enc r19.1) 136) :: (.own s_a0 34 1 (encs rs13)) :: L) ⟨rfl, rfl, rfl, rfl, rfl, rfl, rfl, trivial⟩ rfl ?_
 replace H := HKo24
 obtain ⟨x28, h29, H⟩ := bind_some H
 obtain ⟨x32, h33, H⟩ := bind_some H
 obtain ⟨x36, h37, H⟩ := bind_some H
 obtain ⟨p40, h41, H⟩ := Let_some H
 obtain ⟨o52, h53, H⟩ := Let_some H
 refine Cd.headMeet (σ := Sl × (List Int) × (List (List Int)) × (List (LR Int))) 18 (fun (s45, l46, l48, rs49) => [(0, Sl.v s_a0), (1, iv a1), (8, iv (w64 (a2 - a1))), (9, pv b3 0), (10, .int .u64 r5.toNat), (11, iv y10), (51, Sl.v s_a0), (54, iv (w64 (a1 + y23))), (64, Sl.v s45)]) (fun (s45, l46, l48, rs49) => (.blk b3 (enc r19.1) 136) :: (.own s_a0 34 1 (encs rs49)) :: L) (fun Fx (s45, l46, l48, rs49) => (l46, l48) = o52 ∧ Rd w0 Fx M s45 l46 ∧ rs49.map LR.v = l48 ∧ All LR.rel w0 Fx M rs49) (by kernel_rfl) (by kernel_rfl) (behind_sink (by kernel_rfl) (by kernel_rfl) (by kernel_rfl)) (by kernel_rfl) (fun hsel hlt => ?_) ?_
 ·refine HdJ.keep (fun w => St w0 F26 ((.blk b3 (enc r19.1) 136) :: L) w) (fun w h => trivial) ?_
  refine HdJ.ts hsel hlt 0 (sk1 (sc1 (.refl _))) (Ev.move rfl) ?_
  refine HdJ.ts hsel hlt 1 (sk1 (sc1 (.refl _))) (Ev.move rfl) ?_
  refine HdJ.ts hsel hlt 2 (sk1 (sc1 (.refl _))) (Ev.move rfl) ?_
  refine HdJ.ts hsel hlt 3 (sk1 (sc1 (.refl _))) (Ev.move rfl) ?_
  refine HdJ.ts hsel hlt 4 (sk1 (sc1 (.refl _))) (Ev.move rfl) ?_
  refine HdJ.ts hsel hlt 5 (sk1 (sc1 (.refl _))) (Ev.add rfl rfl) ?_
  refine HdJ.ts hsel hlt 6 (sk1 (sc1 (.refl _))) (Ev.move rfl) ?_
  refine HdJ.ts hsel hlt 7 (sk1 (sc1 (.refl _))) (Ev.move rfl) ?_
  refine HdJ.ts hsel hlt 8 (sk1 (sc1 (.refl _))) (Ev.move rfl) ?_
  refine HdJ.ts hsel hlt 9 (sk1 (sc1 (.refl _))) (Ev.add rfl rfl) ?_
  refine HdJ.ts hsel hlt 12 (sk1 (sc1 (.refl _))) (Ev.move rfl) ?_
  refine HdJ.ts hsel hlt 13 (sk1 (sc1 (.refl _))) (Ev.move rfl) ?_
  refine HdJ.step [10, 14] (by kernel_rfl) rfl ?_
  refine HdStep.c (fun inv => ?_) ?_
  ·have g54 := lat_some h29
   obtain ⟨⟨r55v, r55h⟩, r55g, r55e, r55m⟩ := map_get fm14 g54.2.2
   obtain rfl : x28 = r55v := r55e.symm
   have r55q : Rd w0 _ _ r55h x28 := fa15 _ r55m
   refine Lst.r (Ev.indexS (α := LR Int) (xs := rs13) rfl rfl Try.runUnderlying56 Try.sizeOf34 rfl (by decide) (rdo 1 rfl rfl rfl) g54.1 (by have := map_len fm14; omega)) ?_
   refine hds inv (sk1 (sc1 (.refl _))) ?_
   refine HdJ.step [11, 14] (by kernel_rfl) rfl ?_
   refine HdStep.c (fun inv => ?_) ?_
   ·refine Lst.r (Ev.loadS (α := LR Int) rfl (rdo 1 rfl rfl rfl) Try.isAgg34 (v := Sl.v r55h) ((Get.elemN (s := 1) rfl r55g gh0).off (by omega))) ?_
    refine hds inv (sk1 (sc1 (.refl _))) ?_
    refine HdJ.o1 14 (fun inv => ?_)
    have g56 := lat_some h33
    obtain ⟨⟨r57v, r57h⟩, r57g, r57e, r57m⟩ := map_get fm14 g56.2.2
    obtain rfl : x32 = r57v := r57e.symm
    have r57q : Rd w0 _ _ r57h x32 := fa15 _ r57m
    refine Lst.r (Ev.indexS (α := LR Int) (xs := rs13) rfl rfl Try.runUnderlying56 Try.sizeOf34 rfl (by decide) (rdo 1 rfl rfl rfl) g56.1 (by have := map_len fm14; omega)) ?_
    refine hds inv (sk1 (sc1 (.refl _))) ?_
    refine HdJ.o1 15 (fun inv => ?_)
    refine Lst.r (Ev.loadS (α := LR Int) rfl (rdo 1 rfl rfl rfl) Try.isAgg34 (v := Sl.v r57h) ((Get.elemN (s := 1) rfl r57g gh0).off (by omega))) ?_
    refine hds inv (sk1 (sc1 (.refl _))) ?_
    refine HdJ.o1 16 (fun inv => ?_)
    have g58 := lat_some h37
    obtain ⟨⟨r59v, r59h⟩, r59g, r59e, r59m⟩ := map_get fm14 g58.2.2
    obtain rfl : x36 = r59v := r59e.symm
    have r59q : Rd w0 _ _ r59h x36 := fa15 _ r59m
    refine Lst.r (Ev.indexS (α := LR Int) (xs := rs13) rfl rfl Try.runUnderlying56 Try.sizeOf34 rfl (by decide) (rdo 1 rfl rfl rfl) g58.1 (by have := map_len fm14; omega)) ?_
    refine hds inv (sk1 (sc1 (.refl _))) ?_
    refine HdJ.o1 17 (fun inv => ?_)
    have hm60 : (rs13.set y10.toNat (LR.mk x28 r55h)).map LR.v = p40 := (map_set fm14 _ _).trans h41
    have ha61 : All LR.rel w0 F26 M (rs13.set y10.toNat (LR.mk x28 r55h)) := All.set (All.monoLR fa15 (FLe.trans hF22 hF27) (.refl _)) ((r55q.mono (FLe.trans hF22 hF27) (.refl _)))
    refine Lst.storeS (i := 1) rfl rfl rfl rfl rfl Try.sizeOf34 (vs := [Sl.v r55h]) rfl rfl (by decide) rfl (xs' := encs (rs13.set y10.toNat (LR.mk x28 r55h))) ((Put.elemN (s := 1) (y := (LR.mk x28 r55h)) rfl r59g (Put.here (vs := [Sl.v r55h]) rfl)).off (by omega)) (L' := (.blk b3 (enc r19.1) 136) :: (.own s_a0 34 1 (encs (rs13.set y10.toNat (LR.mk x28 r55h)))) :: L) rfl ?_
    refine hds inv (sk1 (sc1 (.refl _))) ?_
    refine HdJ.done (by kernel_rfl) ?_
    exact At.meetN (r57h, x32, p40, (rs13.set y10.toNat (LR.mk x28 r55h))) fl ⟨rfl, rfl, rfl, rfl, rfl, rfl, rfl, rfl, rfl, trivial⟩ rfl ⟨h53, (r57q.mono (FLe.trans hF22 hF27) (.refl _)), hm60, (All.monoLR ha61 fl (.refl _))⟩
   refine HdStep.c (fun inv => ?_) trivial
   have g62 := lat_some h33
   obtain ⟨⟨r63v, r63h⟩, r63g, r63e, r63m⟩ := map_get fm14 g62.2.2
   obtain rfl : x32 = r63v := r63e.symm
   have r63q : Rd w0 _ _ r63h x32 := fa15 _ r63m
   refine Lst.r (Ev.indexS (α := LR Int) (xs := rs13) rfl rfl Try.runUnderlying56 Try.sizeOf34 rfl (by decide) (rdo 1 rfl rfl rfl) g62.1 (by have := map_len fm14; omega)) ?_
   refine hds inv (sk1 (sc1 (.refl _))) ?_
   refine HdJ.step [11, 15] (by kernel_rfl) rfl ?_
   refine HdStep.c (fun inv => ?_) ?_
   ·refine Lst.r (Ev.loadS (α := LR Int) rfl (rdo 1 rfl rfl rfl) Try.isAgg34 (v := Sl.v r55h) ((Get.elemN (s := 1) rfl r55g gh0).off (by omega))) ?_
    refine hds inv (sk1 (sc1 (.refl _))) ?_
    refine HdJ.o1 15 (fun inv => ?_)
    refine Lst.r (Ev.loadS (α := LR Int) rfl (rdo 1 rfl rfl rfl) Try.isAgg34 (v := Sl.v r63h) ((Get.elemN (s := 1) rfl r63g gh0).off (by omega))) ?_
    refine hds inv (sk1 (sc1 (.refl _))) ?_
    refine HdJ.o1 16 (fun inv => ?_)
    have g64 := lat_some h37
    obtain ⟨⟨r65v, r65h⟩, r65g, r65e, r65m⟩ := map_get fm14 g64.2.2
    obtain rfl : x36 = r65v := r65e.symm
    have r65q : Rd w0 _ _ r65h x36 := fa15 _ r65m
    refine Lst.r (Ev.indexS (α := LR Int) (xs := rs13) rfl rfl Try.runUnderlying56 Try.sizeOf34 rfl (by decide) (rdo 1 rfl rfl rfl) g64.1 (by have := map_len fm14; omega)) ?_
    refine hds inv (sk1 (sc1 (.refl _))) ?_
    refine HdJ.o1 17 (fun inv => ?_)
    have hm66 : (rs13.set y10.toNat (LR.mk x28 r55h)).map LR.v = p40 := (map_set fm14 _ _).trans h41
    have ha67 : All LR.rel w0 F26 M (rs13.set y10.toNat (LR.mk x28 r55h)) := All.set (All.monoLR fa15 (FLe.trans hF22 hF27) (.refl _)) ((r55q.mono (FLe.trans hF22 hF27) (.refl _)))
    refine Lst.storeS (i := 1) rfl rfl rfl rfl rfl Try.sizeOf34 (vs := [Sl.v r55h]) rfl rfl (by decide) rfl (xs' := encs (rs13.set y10.toNat (LR.mk x28 r55h))) ((Put.elemN (s := 1) (y := (LR.mk x28 r55h)) rfl r65g (Put.here (vs := [Sl.v r55h]) rfl)).off (by omega)) (L' := (.blk b3 (enc r19.1) 136) :: (.own s_a0 34 1 (encs (rs13.set y10.toNat (LR.mk x28 r55h)))) :: L) rfl ?_
    refine hds inv (sk1 (sc1 (.refl _))) ?_
    refine HdJ.done (by kernel_rfl) ?_
    exact At.meetN (r63h, x32, p40, (rs13.set y10.toNat (LR.mk x28 r55h))) fl ⟨rfl, rfl, rfl, rfl, rfl, rfl, rfl, rfl, rfl, trivial⟩ rfl ⟨h53, (r63q.mono (FLe.trans hF22 hF27) (.refl _)), hm66, (All.monoLR ha67 fl (.refl _))⟩
   refine HdStep.c (fun inv => ?_) trivial
   refine Lst.r (Ev.loadS (α := LR Int) rfl (rdo 1 rfl rfl rfl) Try.isAgg34 (v := Sl.v r63h) ((Get.elemN (s := 1) rfl r63g gh0).off (by omega))) ?_
   refine hds inv (sk1 (sc1 (.refl _))) ?_
   refine HdJ.o1 11 (fun inv => ?_)
   refine Lst.r (Ev.loadS (α := LR Int) rfl (rdo 1 rfl rfl rfl) Try.isAgg34 (v := Sl.v r55h) ((Get.elemN (s := 1) rfl r55g gh0).off (by omega))) ?_
   refine hds inv (sk1 (sc1 (.refl _))) ?_
   refine HdJ.o1 16 (fun inv => ?_)
   have g68 := lat_some h37
   obtain ⟨⟨r69v, r69h⟩, r69g, r69e, r69m⟩ := map_get fm14 g68.2.2
   obtain rfl : x36 = r69v := r69e.symm
   have r69q : Rd w0 _ _ r69h x36 := fa15 _ r69m
   refine Lst.r (Ev.indexS (α := LR Int) (xs := rs13) rfl rfl Try.runUnderlying56 Try.sizeOf34 rfl (by decide) (rdo 1 rfl rfl rfl) g68.1 (by have := map_len fm14; omega)) ?_
   refine hds inv (sk1 (sc1 (.refl _))) ?_
   refine HdJ.o1 17 (fun inv => ?_)
   have hm70 : (rs13.set y10.toNat (LR.mk x28 r55h)).map LR.v = p40 := (map_set fm14 _ _).trans h41
   have ha71 : All LR.rel w0 F26 M (rs13.set y10.toNat (LR.mk x28 r55h)) := All.set (All.monoLR fa15 (FLe.trans hF22 hF27) (.refl _)) ((r55q.mono (FLe.trans hF22 hF27) (.refl _)))
   refine Lst.storeS (i := 1) rfl rfl rfl rfl rfl Try.sizeOf34 (vs := [Sl.v r55h]) rfl rfl (by decide) rfl (xs' := encs (rs13.set y10.toNat (LR.mk x28 r55h))) ((Put.elemN (s := 1) (y := (LR.mk x28 r55h)) rfl r69g (Put.here (vs := [Sl.v r55h]) rfl)).off (by omega)) (L' := (.blk b3 (enc r19.1) 136) :: (.own s_a0 34 1 (encs (rs13.set y10.toNat (LR.mk x28 r55h)))) :: L) rfl ?_
   refine hds inv (sk1 (sc1 (.refl _))) ?_
   refine HdJ.done (by kernel_rfl) ?_
   exact At.meetN (r63h, x32, p40, (rs13.set y10.toNat (LR.mk x28 r55h))) fl ⟨rfl, rfl, rfl, rfl, rfl, rfl, rfl, rfl, rfl, trivial⟩ rfl ⟨h53, (r63q.mono (FLe.trans hF22 hF27) (.refl _)), hm70, (All.monoLR ha71 fl (.refl _))⟩
  refine HdStep.c (fun inv => ?_) trivial
  have g72 := lat_some h33
  obtain ⟨⟨r73v, r73h⟩, r73g, r73e, r73m⟩ := map_get fm14 g72.2.2
  obtain rfl : x32 = r73v := r73e.symm
  have r73q : Rd w0 _ _ r73h x32 := fa15 _ r73m
  refine Lst.r (Ev.indexS (α := LR Int) (xs := rs13) rfl rfl Try.runUnderlying56 Try.sizeOf34 rfl (by decide) (rdo 1 rfl rfl rfl) g72.1 (by have := map_len fm14; omega)) ?_
  refine hds inv (sk1 (sc1 (.refl _))) ?_
  refine HdJ.step [10, 15] (by kernel_rfl) rfl ?_
  refine HdStep.c (fun inv => ?_) ?_
  ·have g74 := lat_some h29
   obtain ⟨⟨r75v, r75h⟩, r75g, r75e, r75m⟩ := map_get fm14 g74.2.2
   obtain rfl : x28 = r75v := r75e.symm
   have r75q : Rd w0 _ _ r75h x28 := fa15 _ r75m
   refine Lst.r (Ev.indexS (α := LR Int) (xs := rs13) rfl rfl Try.runUnderlying56 Try.sizeOf34 rfl (by decide) (rdo 1 rfl rfl rfl) g74.1 (by have := map_len fm14; omega)) ?_
   refine hds inv (sk1 (sc1 (.refl _))) ?_
   refine HdJ.step [11, 15] (by kernel_rfl) rfl ?_
   refine HdStep.c (fun inv => ?_) ?_
   ·refine Lst.r (Ev.loadS (α := LR Int) rfl (rdo 1 rfl rfl rfl) Try.isAgg34 (v := Sl.v r75h) ((Get.elemN (s := 1) rfl r75g gh0).off (by omega))) ?_
    refine hds inv (sk1 (sc1 (.refl _))) ?_
    refine HdJ.o1 15 (fun inv => ?_)
    refine Lst.r (Ev.loadS (α := LR Int) rfl (rdo 1 rfl rfl rfl) Try.isAgg34 (v := Sl.v r73h) ((Get.elemN (s := 1) rfl r73g gh0).off (by omega))) ?_
    refine hds inv (sk1 (sc1 (.refl _))) ?_
    refine HdJ.o1 16 (fun inv => ?_)
    have g76 := lat_some h37
    obtain ⟨⟨r77v, r77h⟩, r77g, r77e, r77m⟩ := map_get fm14 g76.2.2
    obtain rfl : x36 = r77v := r77e.symm
    have r77q : Rd w0 _ _ r77h x36 := fa15 _ r77m
    refine Lst.r (Ev.indexS (α := LR Int) (xs := rs13) rfl rfl Try.runUnderlying56 Try.sizeOf34 rfl (by decide) (rdo 1 rfl rfl rfl) g76.1 (by have := map_len fm14; omega)) ?_
    refine hds inv (sk1 (sc1 (.refl _))) ?_
    refine HdJ.o1 17 (fun inv => ?_)
    have hm78 : (rs13.set y10.toNat (LR.mk x28 r75h)).map LR.v = p40 := (map_set fm14 _ _).trans h41
    have ha79 : All LR.rel w0 F26 M (rs13.set y10.toNat (LR.mk x28 r75h)) := All.set (All.monoLR fa15 (FLe.trans hF22 hF27) (.refl _)) ((r75q.mono (FLe.trans hF22 hF27) (.refl _)))
    refine Lst.storeS (i := 1) rfl rfl rfl rfl rfl Try.sizeOf34 (vs := [Sl.v r75h]) rfl rfl (by decide) rfl (xs' := encs (rs13.set y10.toNat (LR.mk x28 r75h))) ((Put.elemN (s := 1) (y := (LR.mk x28 r75h)) rfl r77g (Put.here (vs := [Sl.v r75h]) rfl)).off (by omega)) (L' := (.blk b3 (enc r19.1) 136) :: (.own s_a0 34 1 (encs (rs13.set y10.toNat (LR.mk x28 r75h)))) :: L) rfl ?_
    refine hds inv (sk1 (sc1 (.refl _))) ?_
    refine HdJ.done (by kernel_rfl) ?_
    exact At.meetN (r73h, x32, p40, (rs13.set y10.toNat (LR.mk x28 r75h))) fl ⟨rfl, rfl, rfl, rfl, rfl, rfl, rfl, rfl, rfl, trivial⟩ rfl ⟨h53, (r73q.mono (FLe.trans hF22 hF27) (.refl _)), hm78, (All.monoLR ha79 fl (.refl _))⟩
   refine HdStep.c (fun inv => ?_) trivial
   refine Lst.r (Ev.loadS (α := LR Int) rfl (rdo 1 rfl rfl rfl) Try.isAgg34 (v := Sl.v r73h) ((Get.elemN (s := 1) rfl r73g gh0).off (by omega))) ?_
   refine hds inv (sk1 (sc1 (.refl _))) ?_
   refine HdJ.o1 11 (fun inv => ?_)
   refine Lst.r (Ev.loadS (α := LR Int) rfl (rdo 1 rfl rfl rfl) Try.isAgg34 (v := Sl.v r75h) ((Get.elemN (s := 1) rfl r75g gh0).off (by omega))) ?_
   refine hds inv (sk1 (sc1 (.refl _))) ?_
   refine HdJ.o1 16 (fun inv => ?_)
   have g80 := lat_some h37
   obtain ⟨⟨r81v, r81h⟩, r81g, r81e, r81m⟩ := map_get fm14 g80.2.2
   obtain rfl : x36 = r81v := r81e.symm
   have r81q : Rd w0 _ _ r81h x36 := fa15 _ r81m
   refine Lst.r (Ev.indexS (α := LR Int) (xs := rs13) rfl rfl Try.runUnderlying56 Try.sizeOf34 rfl (by decide) (rdo 1 rfl rfl rfl) g80.1 (by have := map_len fm14; omega)) ?_
   refine hds inv (sk1 (sc1 (.refl _))) ?_
   refine HdJ.o1 17 (fun inv => ?_)
   have hm82 : (rs13.set y10.toNat (LR.mk x28 r75h)).map LR.v = p40 := (map_set fm14 _ _).trans h41
   have ha83 : All LR.rel w0 F26 M (rs13.set y10.toNat (LR.mk x28 r75h)) := All.set (All.monoLR fa15 (FLe.trans hF22 hF27) (.refl _)) ((r75q.mono (FLe.trans hF22 hF27) (.refl _)))
   refine Lst.storeS (i := 1) rfl rfl rfl rfl rfl Try.sizeOf34 (vs := [Sl.v r75h]) rfl rfl (by decide) rfl (xs' := encs (rs13.set y10.toNat (LR.mk x28 r75h))) ((Put.elemN (s := 1) (y := (LR.mk x28 r75h)) rfl r81g (Put.here (vs := [Sl.v r75h]) rfl)).off (by omega)) (L' := (.blk b3 (enc r19.1) 136) :: (.own s_a0 34 1 (encs (rs13.set y10.toNat (LR.mk x28 r75h)))) :: L) rfl ?_
   refine hds inv (sk1 (sc1 (.refl _))) ?_
   refine HdJ.done (by kernel_rfl) ?_
   exact At.meetN (r73h, x32, p40, (rs13.set y10.toNat (LR.mk x28 r75h))) fl ⟨rfl, rfl, rfl, rfl, rfl, rfl, rfl, rfl, rfl, trivial⟩ rfl ⟨h53, (r73q.mono (FLe.trans hF22 hF27) (.refl _)), hm82, (All.monoLR ha83 fl (.refl _))⟩
  refine HdStep.c (fun inv => ?_) trivial
  refine Lst.r (Ev.loadS (α := LR Int) rfl (rdo 1 rfl rfl rfl) Try.isAgg34 (v := Sl.v r73h) ((Get.elemN (s := 1) rfl r73g gh0).off (by omega))) ?_
  refine hds inv (sk1 (sc1 (.refl _))) ?_
  refine HdJ.o1 10 (fun inv => ?_)
  have g84 := lat_some h29
  obtain ⟨⟨r85v, r85h⟩, r85g, r85e, r85m⟩ := map_get fm14 g84.2.2
  obtain rfl : x28 = r85v := r85e.symm
  have r85q : Rd w0 _ _ r85h x28 := fa15 _ r85m
  refine Lst.r (Ev.indexS (α := LR Int) (xs := rs13) rfl rfl Try.runUnderlying56 Try.sizeOf34 rfl (by decide) (rdo 1 rfl rfl rfl) g84.1 (by have := map_len fm14; omega)) ?_
  refine hds inv (sk1 (sc1 (.refl _))) ?_
  refine HdJ.o1 11 (fun inv => ?_)
  refine Lst.r (Ev.loadS (α := LR Int) rfl (rdo 1 rfl rfl rfl) Try.isAgg34 (v := Sl.v r85h) ((Get.elemN (s := 1) rfl r85g gh0).off (by omega))) ?_
  refine hds inv (sk1 (sc1 (.refl _))) ?_
  refine HdJ.o1 16 (fun inv => ?_)
  have g86 := lat_some h37
  obtain ⟨⟨r87v, r87h⟩, r87g, r87e, r87m⟩ := map_get fm14 g86.2.2
  obtain rfl : x36 = r87v := r87e.symm
  have r87q : Rd w0 _ _ r87h x36 := fa15 _ r87m
  refine Lst.r (Ev.indexS (α := LR Int) (xs := rs13) rfl rfl Try.runUnderlying56 Try.sizeOf34 rfl (by decide) (rdo 1 rfl rfl rfl) g86.1 (by have := map_len fm14; omega)) ?_
  refine hds inv (sk1 (sc1 (.refl _))) ?_
  refine HdJ.o1 17 (fun inv => ?_)
  have hm88 : (rs13.set y10.toNat (LR.mk x28 r85h)).map LR.v = p40 := (map_set fm14 _ _).trans h41
  have ha89 : All LR.rel w0 F26 M (rs13.set y10.toNat (LR.mk x28 r85h)) := All.set (All.monoLR fa15 (FLe.trans hF22 hF27) (.refl _)) ((r85q.mono (FLe.trans hF22 hF27) (.refl _)))
  refine Lst.storeS (i := 1) rfl rfl rfl rfl rfl Try.sizeOf34 (vs := [Sl.v r85h]) rfl rfl (by decide) rfl (xs' := encs (rs13.set y10.toNat (LR.mk x28 r85h))) ((Put.elemN (s := 1) (y := (LR.mk x28 r85h)) rfl r87g (Put.here (vs := [Sl.v r85h]) rfl)).off (by omega)) (L' := (.blk b3 (enc r19.1) 136) :: (.own s_a0 34 1 (encs (rs13.set y10.toNat (LR.mk x28 r85h)))) :: L) rfl ?_
  refine hds inv (sk1 (sc1 (.refl _))) ?_
  refine HdJ.done (by kernel_rfl) ?_
  exact At.meetN (r73h, x32, p40, (rs13.set y10.toNat (LR.mk x28 r85h))) fl ⟨rfl, rfl, rfl, rfl, rfl, rfl, rfl, rfl, rfl, trivial⟩ rfl ⟨h53, (r73q.mono (FLe.trans hF22 hF27) (.refl _)), hm88, (All.monoLR ha89 fl (.refl _))⟩
 rintro F90 ⟨s45, l46, l48, rs49⟩ hF91 ⟨hy, f47, fm50, fa51⟩
 subst hy
 try dsimp only at H
 refine Lst.as (e' := [(0, Sl.v s_a0), (1, iv a1), (8, iv (w64 (a2 - a1))), (9, pv b3 0), (10, .int .u64 r5.toNat), (11, iv y10), (51, Sl.v s_a0), (54, iv (w64 (a1 + y23))), (64, Sl.v s45)]) (L' := (.blk b3 (enc r19.1) 136) :: (.own s_a0 34 1 (encs rs49)) :: L) ⟨rfl, rfl, rfl, rfl, rfl, rfl, rfl, rfl, rfl, trivial⟩ rfl ?_
 obtain ⟨x92, h93, H⟩ := bind_some H
 have g94 := lat_some h93
 obtain ⟨⟨r95v, r95h⟩, r95g, r95e, r95m⟩ := map_get fm50 g94.2.2
 obtain rfl : x92 = r95v := r95e.symm
 have r95q : Rd w0 _ _ r95h x92 := fa51 _ r95m
 refine Lst.r (Ev.indexS (α := LR Int) (xs := rs49) rfl rfl Try.runUnderlying56 Try.sizeOf34 rfl (by decide) (rdo 1 rfl rfl rfl) g94.1 (by have := map_len fm50; omega)) ?_
 obtain ⟨p96, h97, H⟩ := Let_some H
 have hm98 : (rs49.set (w64 (a1 + y23)).toNat (LR.mk l46 s45)).map LR.v = p96 := (map_set fm50 _ _).trans h97
 have ha99 : All LR.rel w0 F90 M (rs49.set (w64 (a1 + y23)).toNat (LR.mk l46 s45)) := All.set (All.monoLR fa51 fl (.refl _)) ((f47.mono fl (.refl _)))
 refine Lst.storeS (i := 1) rfl rfl rfl rfl rfl Try.sizeOf34 (vs := [Sl.v s45]) rfl rfl (by decide) rfl (xs' := encs (rs49.set (w64 (a1 + y23)).toNat (LR.mk l46 s45))) ((Put.elemN (s := 1) (y := (LR.mk l46 s45)) rfl r95g (Put.here (vs := [Sl.v s45]) rfl)).off (by omega)) (L' := (.blk b3 (enc r19.1) 136) :: (.own s_a0 34 1 (encs (rs49.set (w64 (a1 + y23)).toNat (LR.mk l46 s45)))) :: L) rfl ?_
 refine Lst.nil ?_
 refine At.in_normal ?_
 refine At.then ?_
 refine Cd.region ?_
 refine mv0 rfl ?_
 refine Lst.r (Ev.add rfl rfl) ?_
 refine Lst.r (Ev.assign rfl) ?_
 refine Lst.nil ?_
 exact At.meet (k9, w64 (y10 + (1 : Int)), r19.1, p96, (rs49.set (w64 (a1 + y23)).toNat (LR.mk l46 s45))) (FLe.trans (FLe.trans (FLe.trans hF17 hF22) hF27) hF91) ⟨rfl, rfl, rfl, rfl, rfl, rfl, trivial⟩ rfl ⟨⟨hgo9 _ (some_inj H).symm, hm98, (All.monoLR ha99 fl (.refl _))⟩, Nat.lt_succ_self _⟩
set_option maxRecDepth 20000 in
theorem slices_order2CmpFunc_int_Chains_1_sim {a0 : List (List Int)} {a1 : Int} {a2 : Int} {a3 : Int} {s_a0 : Sl} {rs_a0 : List (LR Int)} {b_a3 : Nat} {r : Int × Int × Int} (H : slices_order2CmpFunc_int_Chains_1 a0 a1 a2 a3 = some r) (w0 : World) (F : Frz) (M L : List Item) (hM : M.Sublist L) (hm_a0 : rs_a0.map LR.v = a0) (hs_a0 : Rd w0 F M s_a0 rs_a0) (ha_a0 : All LR.rel w0 F M rs_a0) : Ok Try.prog w0 102 [Sl.v s_a0, iv a1, iv a2, pv b_a3 0, .func (.func 71) #[] #[]] F ((.blk b_a3 (enc a3) 3) :: L) (fun _ L' v => v = .tuple #[iv r.2.1, iv r.2.2] ∧ L' = (.blk b_a3 (enc r.1) 3) :: L) := by
 unfold slices_order2CmpFunc_int_Chains_1 at H
 refine Ok.enter (m := 5) (n := 32) Try.func102 rfl rfl rfl (by decide) ?_
 refine Cd.env (e' := [(0, Sl.v s_a0), (1, iv a1), (2, iv a2), (3, pv b_a3 0), (4, .func (.func 71) #[] #[])]) rfl ?_
 refine sr0 ?_
 refine Lst.r (Ev.assign rfl) ?_
 refine Lst.r (Ev.assign rfl) ?_
 refine nt0 ?_
 refine Cd.seq ?_
 refine Cd.seq ?_
 refine Cd.quiet (by kernel_rfl) (by kernel_rfl) ?_
 refine Qt.r (Ev.move rfl) ?_
 refine Qt.r (Ev.move rfl) ?_
 refine Qt.r (Ev.move rfl) ?_
 obtain ⟨x2, h3, H⟩ := bind_some H
 have g4 := lat_some h3
 obtain ⟨⟨r5v, r5h⟩, r5g, r5e, r5m⟩ := map_get hm_a0 g4.2.2
 obtain rfl : x2 = r5v := r5e.symm
 have r5q : Rd w0 _ _ r5h x2 := ha_a0 _ r5m
 refine Qt.r (Ev.indexS (α := LR Int) (xs := rs_a0) rfl rfl Try.runUnderlying56 Try.sizeOf34 rfl (by decide) (hs_a0.mono fl (sc1 hM)) g4.1 (by have := map_len hm_a0; omega)) ?_
 refine Qt.r (Ev.loadS (α := LR Int) rfl (hs_a0.mono fl (sc1 hM)) Try.isAgg34 (v := Sl.v r5h) ((Get.elemN (s := 1) rfl r5g gh0).off (by omega))) ?_
 refine Qt.r (Ev.move rfl) ?_
 refine Qt.r (Ev.move rfl) ?_
 obtain ⟨x6, h7, H⟩ := bind_some H
 have g8 := lat_some h7
 obtain ⟨⟨r9v, r9h⟩, r9g, r9e, r9m⟩ := map_get hm_a0 g8.2.2
 obtain rfl : x6 = r9v := r9e.symm
 have r9q : Rd w0 _ _ r9h x6 := ha_a0 _ r9m
 refine Qt.r (Ev.indexS (α := LR Int) (xs := rs_a0) rfl rfl Try.runUnderlying56 Try.sizeOf34 rfl (by decide) (hs_a0.mono fl (sc1 hM)) g8.1 (by have := map_len hm_a0; omega)) ?_
 refine Qt.r (Ev.loadS (α := LR Int) rfl (hs_a0.mono fl (sc1 hM)) Try.isAgg34 (v := Sl.v r9h) ((Get.elemN (s := 1) rfl r9g gh0).off (by omega))) ?_
 obtain ⟨r10, h11, H⟩ := bind_some H
 refine Qt.callV rfl rfl (by decide) (vs := [Sl.v r5h, Sl.v r9h]) (cs := []) rfl ⟨rfl, rfl, trivial⟩ Try.call71 (poset_Chains_1_sim h11 w0 _ M _ (sc1 hM) (r5q.mono fl (.refl _)) (r9q.mono fl (.refl _))) ?_
 refine Qt.r (Ev.lss rfl rfl) ?_
 refine Qt.done ?_
 refine At.then ?_
 rcases Bool.eq_false_or_eq_true (decide (r10 < (0 : Int))) with hb14 | hb14
 ·replace H := ite_t hb14 H
  refine Cd.condT rfl hb14 ?_
  refine Cd.seq ?_
  refine Cd.as (e' := [(1, iv a1), (2, iv a2), (3, pv b_a3 0)]) (L' := (.blk b_a3 (enc a3) 3) :: L) ⟨rfl, rfl, rfl, trivial⟩ rfl ?_
  refine Cd.region ?_
  refine mv0 rfl ?_
  refine Lst.r (Ev.nilCheck rfl) ?_
  refine Lst.r (Ev.load (i := 0) rfl rfl Try.isAgg3 (v := iv a3) gh0) ?_
  refine Lst.r (Ev.add rfl rfl) ?_
  refine Lst.r (Ev.nilCheck rfl) ?_
  refine Lst.store (i := 0) rfl rfl rfl rfl rfl Try.sizeOf3 (vs := [iv (w64 (a3 + (1 : Int)))]) rfl rfl rfl (cs' := enc (w64 (a3 + (1 : Int)))) (Put.here (vs := [iv (w64 (a3 + (1 : Int)))]) rfl) (L' := (.blk b_a3 (enc (w64 (a3 + (1 : Int)))) 3) :: L) rfl ?_
  refine nsr ?_
  refine mv0 rfl ?_
  refine mv0 rfl ?_
  refine Lst.r (Ev.assign rfl) ?_
  refine Lst.r (Ev.assign rfl) ?_
  refine nt0 ?_
  obtain rfl := some_inj H
  refine Cd.ret ?_
  refine At.then_ret ?_
  exact At.ret2 rfl (Res.tmp rfl) (Res.tmp rfl) fl (sk1 (.refl _)) ⟨rfl, rfl⟩
 replace H := ite_f hb14 H
 refine Cd.condF rfl hb14 ?_
 refine Cd.skip ?_
 refine At.then ?_
 refine Cd.seq ?_
 refine Cd.as (e' := [(1, iv a1), (2, iv a2)]) (L' := (.blk b_a3 (enc a3) 3) :: L) ⟨rfl, rfl, trivial⟩ rfl ?_
 refine Cd.region ?_
 refine mv0 rfl ?_
 refine mv0 rfl ?_
 refine Lst.r (Ev.assign rfl) ?_
 refine Lst.r (Ev.assign rfl) ?_
 refine nt0 ?_
 obtain rfl := some_inj H
 refine Cd.ret ?_
 exact At.ret2 rfl (Res.tmp rfl) (Res.tmp rfl) fl (sk1 (.refl _)) ⟨rfl, rfl⟩
set_option maxRecDepth 20000 in
theorem slices_medianCmpFunc_int_Chains_1_sim {a0 : List (List Int)} {a1 : Int} {a2 : Int} {a3 : Int} {a4 : Int} {s_a0 : Sl} {rs_a0 : List (LR Int)} {b_a4 : Nat} {r : Int × Int} (H : slices_medianCmpFunc_int_Chains_1 a0 a1 a2 a3 a4 = some r) (w0 : World) (F : Frz) (M L : List Item) (hM : M.Sublist L) (hm_a0 : rs_a0.map LR.v = a0) (hs_a0 : Rd w0 F M s_a0 rs_a0) (ha_a0 : All LR.rel w0 F M rs_a0) : Ok Try.prog w0 101 [Sl.v s_a0, iv a1, iv a2, iv a3, pv b_a4 0, .func (.func 71) #[] #[]] F ((.blk b_a4 (enc a4) 3) :: L) (fun _ L' v => v = iv r.2 ∧ L' = (.blk b_a4 (enc r.1) 3) :: L) := by
 unfold slices_medianCmpFunc_int_Chains_1 at H
 refine Ok.enter (m := 6) (n := 41) Try.func101 rfl rfl rfl (by decide) ?_
 refine Cd.env (e' := [(0, Sl.v s_a0), (1, iv a1), (2, iv a2), (3, iv a3), (4, pv b_a4 0), (5, .func (.func 71) #[] #[])]) rfl ?_
 refine sr0 ?_
 refine Lst.r (Ev.assign rfl) ?_
 refine nsr ?_
 refine mv0 rfl ?_
 refine mv0 rfl ?_
 refine mv0 rfl ?_
 refine mv0 rfl ?_
 refine mv0 rfl ?_
 obtain ⟨r2, h3, H⟩ := bind_some H
 refine Lst.call rfl rfl (by decide) (vs := [Sl.v s_a0, iv a1, iv a2, pv b_a4 0, .func (.func 71) #[] #[]]) ⟨rfl, rfl, rfl, rfl, rfl, trivial⟩ Try.call102 (slices_order2CmpFunc_int_Chains_1_sim h3 w0 _ M _ hM hm_a0 (hs_a0.mono fl (.refl _)) (All.monoLR ha_a0 fl (.refl _))) (fun F4 L' v hF5 hv => ?_)
 obtain ⟨rfl, rfl⟩ := hv
 refine mv0 rfl ?_
 refine Lst.r (Ev.extract rfl rfl) ?_
 refine Lst.r (Ev.extract rfl rfl) ?_
 refine Lst.r (Ev.assign rfl) ?_
 refine Lst.r (Ev.assign rfl) ?_
 refine nsr ?_
 refine mv0 rfl ?_
 refine mv0 rfl ?_
 refine mv0 rfl ?_
 refine mv0 rfl ?_
 refine mv0 rfl ?_
 obtain ⟨r6, h7, H⟩ := bind_some H
 refine Lst.call rfl rfl (by decide) (vs := [Sl.v s_a0, iv r2.2.2, iv a3, pv b_a4 0, .func (.func 71) #[] #[]]) ⟨rfl, rfl, rfl, rfl, rfl, trivial⟩ Try.call102 (slices_order2CmpFunc_int_Chains_1_sim h7 w0 _ M _ hM hm_a0 (hs_a0.mono hF5 (.refl _)) (All.monoLR ha_a0 hF5 (.refl _))) (fun F8 L' v hF9 hv => ?_)
 obtain ⟨rfl, rfl⟩ := hv
 refine mv0 rfl ?_
 refine Lst.r (Ev.extract rfl rfl) ?_
 refine Lst.r (Ev.extract rfl rfl) ?_
 refine Lst.r (Ev.assign rfl) ?_
 refine Lst.r (Ev.assign rfl) ?_
 refine nt0 ?_
 refine Cd.seq ?_
 refine Cd.as (e' := [(0, Sl.v s_a0), (1, iv r2.2.1), (2, iv r6.2.1), (4, pv b_a4 0), (5, .func (.func 71) #[] #[])]) (L' := (.blk b_a4 (enc r6.1) 3) :: L) ⟨rfl, rfl, rfl, rfl, rfl, trivial⟩ rfl ?_
 refine Cd.region ?_
 refine mv0 rfl ?_
 refine mv0 rfl ?_
 refine mv0 rfl ?_
 refine mv0 rfl ?_
 refine mv0 rfl ?_
 obtain ⟨r10, h11, H⟩ := bind_some H
 refine Lst.call rfl rfl (by decide) (vs := [Sl.v s_a0, iv r2.2.1, iv r6.2.1, pv b_a4 0, .func (.func 71) #[] #[]]) ⟨rfl, rfl, rfl, rfl, rfl, trivial⟩ Try.call102 (slices_order2CmpFunc_int_Chains_1_sim h11 w0 _ M _ hM hm_a0 (hs_a0.mono (FLe.trans hF5 hF9) (.refl _)) (All.monoLR ha_a0 (FLe.trans hF5 hF9) (.refl _))) (fun F12 L' v hF13 hv => ?_)
 obtain ⟨rfl, rfl⟩ := hv
 refine mv0 rfl ?_
 refine Lst.r (Ev.extract rfl rfl) ?_
 refine Lst.r (Ev.extract rfl rfl) ?_
 refine Lst.r (Ev.assign rfl) ?_
 refine Lst.r (Ev.assign rfl) ?_
 refine nt0 ?_
 refine Cd.seq ?_
 refine Cd.as (e' := [(2, iv r10.2.2)]) (L' := (.blk b_a4 (enc r10.1) 3) :: L) ⟨rfl, trivial⟩ rfl ?_
 refine Cd.region ?_
 refine mv0 rfl ?_
 refine Lst.r (Ev.assign rfl) ?_
 refine nt0 ?_
 obtain rfl := some_inj H
 refine Cd.ret ?_
 exact At.ret1 rfl (Res.tmp rfl) (FLe.trans (FLe.trans hF5 hF9) hF13) (sk1 (.refl _)) ⟨rfl, rfl⟩
set_option maxRecDepth 20000 in
theorem slices_medianAdjacentCmpFunc_int_Chains_1_sim {a0 : List (List Int)} {a1 : Int} {a2 : Int} {s_a0 : Sl} {rs_a0 : List (LR Int)} {b_a2 : Nat} {r : Int × Int} (H : slices_medianAdjacentCmpFunc_int_Chains_1 a0 a1 a2 = some r) (w0 : World) (F : Frz) (M L : List Item) (hM : M.Sublist L) (hm_a0 : rs_a0.map LR.v = a0) (hs_a0 : Rd w0 F M s_a0 rs_a0) (ha_a0 : All LR.rel w0 F M rs_a0) : Ok Try.prog w0 100 [Sl.v s_a0, iv a1, pv b_a2 0, .func (.func 71) #[] #[]] F ((.blk b_a2 (enc a2) 3) :: L) (fun _ L' v => v = iv r.2 ∧ L' = (.blk b_a2 (enc r.1) 3) :: L) := by
 unfold slices_medianAdjacentCmpFunc_int_Chains_1 at H
 refine Ok.enter (m := 4) (n := 18) Try.func100 rfl rfl rfl (by decide) ?_
 refine Cd.env (e' := [(0, Sl.v s_a0), (1, iv a1), (2, pv b_a2 0), (3, .func (.func 71) #[] #[])]) rfl ?_
 refine sr0 ?_
 refine Lst.r (Ev.assign rfl) ?_
 refine nsr ?_
 refine mv0 rfl ?_
 refine mv0 rfl ?_
 refine Lst.r (Ev.sub rfl rfl) ?_
 refine mv0 rfl ?_
 refine mv0 rfl ?_
 refine Lst.r (Ev.add rfl rfl) ?_
 refine mv0 rfl ?_
 refine mv0 rfl ?_
 obtain ⟨r2, h3, H⟩ := bind_some H
 refine Lst.call rfl rfl (by decide) (vs := [Sl.v s_a0, iv (w64 (a1 - (1 : Int))), iv a1, iv (w64 (a1 + (1 : Int))), pv b_a2 0, .func (.func 71) #[] #[]]) ⟨rfl, rfl, rfl, rfl, rfl, rfl, trivial⟩ Try.call101 (slices_medianCmpFunc_int_Chains_1_sim h3 w0 _ M _ hM hm_a0 (hs_a0.mono fl (.refl _)) (All.monoLR ha_a0 fl (.refl _))) (fun F4 L' v hF5 hv => ?_)
 obtain ⟨rfl, rfl⟩ := hv
 refine Lst.r (Ev.assign rfl) ?_
 refine nt0 ?_
 obtain rfl := some_inj H
 refine Cd.ret ?_
 exact At.ret1 rfl (Res.tmp rfl) hF5 (sk1 (.refl _)) ⟨rfl, rfl⟩
set_option maxRecDepth 20000 in
theorem slices_choosePivotCmpFunc_int_Chains_1_sim {a0 : List (List Int)} {a1 : Int} {a2 : Int} {s_a0 : Sl} {rs_a0 : List (LR Int)} {r : Int × Int} (H : slices_choosePivotCmpFunc_int_Chains_1 a0 a1 a2 = some r) (w0 : World) (F : Frz) (M L : List Item) (hM : M.Sublist L) (hm_a0 : rs_a0.map LR.v = a0) (hs_a0 : Rd w0 F M s_a0 rs_a0) (ha_a0 : All LR.rel w0 F M rs_a0) : Ok Try.prog w0 90 [Sl.v s_a0, iv a1, iv a2, .func (.func 71) #[] #[]] F (L) (Is (.tuple #[iv r.1, iv r.2]) (L)) := by
 unfold slices_choosePivotCmpFunc_int_Chains_1 at H
 refine Ok.enter (m := 4) (n := 63) Try.func90 rfl rfl rfl (by decide) ?_
 refine Cd.env (e' := [(0, Sl.v s_a0), (1, iv a1), (2, iv a2), (3, .func (.func 71) #[] #[])]) rfl ?_
 refine sr0 ?_
 refine Lst.r (Ev.assign rfl) ?_
 refine Lst.r (Ev.assign rfl) ?_
 refine nsr ?_
 refine mv0 rfl ?_
 refine mv0 rfl ?_
 refine Lst.r (Ev.sub rfl rfl) ?_
 refine Lst.r (Ev.assign rfl) ?_
 refine nsr ?_
 refine Lst.alloc (cs := enc (0 : Int)) rfl rfl (by decide) Try.zeroValue3 rfl (fun b1 => ?_)
 refine nsr ?_
 refine mv0 rfl ?_
 refine mv0 rfl ?_
 refine Lst.r (Ev.quo (i := w64 (a2 - a1)) (j := (4 : Int)) rfl rfl (by decide)) ?_
 refine Lst.r (Ev.mul rfl rfl) ?_
 refine Lst.r (Ev.add rfl rfl) ?_
 refine Lst.r (Ev.assign rfl) ?_
 refine nsr ?_
 refine mv0 rfl ?_
 refine mv0 rfl ?_
 refine Lst.r (Ev.quo (i := w64 (a2 - a1)) (j := (4 : Int)) rfl rfl (by decide)) ?_
 refine Lst.r (Ev.mul rfl rfl) ?_
 refine Lst.r (Ev.add rfl rfl) ?_
 refine Lst.r (Ev.assign rfl) ?_
 refine nt0 ?_
 refine Cd.seq ?_
 refine Cd.as (e' := [(0, Sl.v s_a0), (1, iv a1), (3, .func (.func 71) #[] #[]), (10, iv (w64 (a2 - a1))), (11, pv b1 0), (12, iv (w64 (a1 + (w64 ((w64 ((w64 (a2 - a1)).tdiv (4 : Int))) * (1 : Int)))))), (13, iv (w64 (a1 + (w64 ((w64 ((w64 (a2 - a1)).tdiv (4 : Int))) * (2 : Int))))))]) (L' := (.blk b1 (enc (0 : Int)) 3) :: L) ⟨rfl, rfl, rfl, rfl, rfl, rfl, rfl, trivial⟩ rfl ?_
 refine Cd.region ?_
 refine mv0 rfl ?_
 refine mv0 rfl ?_
 refine Lst.r (Ev.quo (i := w64 (a2 - a1)) (j := (4 : Int)) rfl rfl (by decide)) ?_
 refine Lst.r (Ev.mul rfl rfl) ?_
 refine Lst.r (Ev.add rfl rfl) ?_
 refine Lst.r (Ev.assign rfl) ?_
 refine nt0 ?_
 obtain ⟨o5, H, HKo5⟩ := bind_some H
 refine Cd.join (σ := Int × Int) (fun (y3, y4) => [(11, pv b1 0), (13, iv y3)]) (fun (y3, y4) => (.blk b1 (enc y4) 3) :: L) (fun _ (y3, y4) => (y3, y4) = o5) ?_ ?_
 ·refine sr0 ?_
  refine mv0 rfl ?_
  refine Lst.r (Ev.geq rfl rfl) ?_
  refine nt0 ?_
  rcases (Bool.eq_false_or_eq_true (decide ((w64 (a2 - a1)) ≥ (8 : Int)))).symm with hb6 | hb6
  ·replace H := ite_f hb6 H
   refine Cd.condF rfl hb6 ?_
   refine Cd.skip ?_
   exact At.meet (w64 (a1 + (w64 ((w64 ((w64 (a2 - a1)).tdiv (4 : Int))) * (2 : Int)))), (0 : Int)) fl ⟨rfl, rfl, trivial⟩ rfl (some_inj H)
  replace H := ite_t hb6 H
  refine Cd.condT rfl hb6 ?_
  obtain ⟨o11, H, HKo11⟩ := bind_some H
  refine Cd.join (σ := Int × Int × Int × Int) (fun (y7, y8, y9, y10) => [(0, Sl.v s_a0), (3, .func (.func 71) #[] #[]), (11, pv b1 0), (12, iv y7), (13, iv y8), (14, iv y9)]) (fun (y7, y8, y9, y10) => (.blk b1 (enc y10) 3) :: L) (fun _ (y7, y8, y9, y10) => (y7, y8, y9, y10) = o11) ?_ ?_
  ·refine sr0 ?_
   refine mv0 rfl ?_
   refine Lst.r (Ev.geq rfl rfl) ?_
   refine nt0 ?_
   rcases (Bool.eq_false_or_eq_true (decide ((w64 (a2 - a1)) ≥ (50 : Int)))).symm with hb12 | hb12
   ·replace H := ite_f hb12 H
    refine Cd.condF rfl hb12 ?_
    refine Cd.skip ?_
    exact At.meet (w64 (a1 + (w64 ((w64 ((w64 (a2 - a1)).tdiv (4 : Int))) * (1 : Int)))), w64 (a1 + (w64 ((w64 ((w64 (a2 - a1)).tdiv (4 : Int))) * (2 : Int)))), w64 (a1 + (w64 ((w64 ((w64 (a2 - a1)).tdiv (4 : Int))) * (3 : Int)))), (0 : Int)) fl ⟨rfl, rfl, rfl, rfl, rfl, rfl, trivial⟩ rfl (some_inj H)
   replace H := ite_t hb12 H
   refine Cd.condT rfl hb12 ?_
   refine sr0 ?_
   refine mv0 rfl ?_
   refine mv0 rfl ?_
   refine mv0 rfl ?_
   obtain ⟨r13, h14, H⟩ := bind_some H
   refine Lst.call rfl rfl (by decide) (vs := [Sl.v s_a0, iv (w64 (a1 + (w64 ((w64 ((w64 (a2 - a1)).tdiv (4 : Int))) * (1 : Int))))), pv b1 0, .func (.func 71) #[] #[]]) ⟨rfl, rfl, rfl, rfl, trivial⟩ Try.call100 (slices_medianAdjacentCmpFunc_int_Chains_1_sim h14 w0 _ M _ hM hm_a0 (hs_a0.mono fl (.refl _)) (All.monoLR ha_a0 fl (.refl _))) (fun F15 L' v hF16 hv => ?_)
   obtain ⟨rfl, rfl⟩ := hv
   refine Lst.r (Ev.assign rfl) ?_
   refine nt0 ?_
   refine Cd.seq ?_
   refine Cd.as (e' := [(0, Sl.v s_a0), (3, .func (.func 71) #[] #[]), (11, pv b1 0), (12, iv r13.2), (13, iv (w64 (a1 + (w64 ((w64 ((w64 (a2 - a1)).tdiv (4 : Int))) * (2 : Int)))))), (14, iv (w64 (a1 + (w64 ((w64 ((w64 (a2 - a1)).tdiv (4 : Int))) * (3 : Int))))))]) (L' := (.blk b1 (enc r13.1) 3) :: L) ⟨rfl, rfl, rfl, rfl, rfl, rfl, trivial⟩ rfl ?_
   refine Cd.region ?_
   refine mv0 rfl ?_
   refine mv0 rfl ?_
   refine mv0 rfl ?_
   obtain ⟨r17, h18, H⟩ := bind_some H
   refine Lst.call rfl rfl (by decide) (vs := [Sl.v s_a0, iv (w64 (a1 + (w64 ((w64 ((w64 (a2 - a1)).tdiv (4 : Int))) * (2 : Int))))), pv b1 0, .func (.func 71) #[] #[]]) ⟨rfl, rfl, rfl, rfl, trivial⟩ Try.call100 (slices_medianAdjacentCmpFunc_int_Chains_1_sim h18 w0 _ M _ hM hm_a0 (hs_a0.mono hF16 (.refl _)) (All.monoLR ha_a0 hF16 (.refl _))) (fun F19 L' v hF20 hv => ?_)
   obtain ⟨rfl, rfl⟩ := hv
   refine Lst.r (Ev.assign rfl) ?_
   refine nt0 ?_
   refine Cd.region ?_
   refine mv0 rfl ?_
   refine mv0 rfl ?_
   refine mv0 rfl ?_
   obtain ⟨r21, h22, H⟩ := bind_some H
   refine Lst.call rfl rfl (by decide) (vs := [Sl.v s_a0, iv (w64 (a1 + (w64 ((w64 ((w64 (a2 - a1)).tdiv (4 : Int))) * (3 : Int))))), pv b1 0, .func (.func 71) #[] #[]]) ⟨rfl, rfl, rfl, rfl, trivial⟩ Try.call100 (slices_medianAdjacentCmpFunc_int_Chains_1_sim h22 w0 _ M _ hM hm_a0 (hs_a0.mono (FLe.trans hF16 hF20) (.refl _)) (All.monoLR ha_a0 (FLe.trans hF16 hF20) (.refl _))) (fun F23 L' v hF24 hv => ?_)
   obtain ⟨rfl, rfl⟩ := hv
   refine Lst.r (Ev.assign rfl) ?_
   refine Lst.nil ?_
   exact At.meet (r13.2, r17.2, r21.2, r21.1) (FLe.trans (FLe.trans hF16 hF20) hF24) ⟨rfl, rfl, rfl, rfl, rfl, rfl, trivial⟩ rfl (some_inj H)
  rintro F25 ⟨y7, y8, y9, y10⟩ hF26 hy
  subst hy
  refine Cd.as (e' := [(0, Sl.v s_a0), (3, .func (.func 71) #[] #[]), (11, pv b1 0), (12, iv y7), (13, iv y8), (14, iv y9)]) (L' := (.blk b1 (enc y10) 3) :: L) ⟨rfl, rfl, rfl, rfl, rfl, rfl, trivial⟩ rfl ?_
  replace H := HKo11
  refine Cd.region ?_
  refine mv0 rfl ?_
  refine mv0 rfl ?_
  refine mv0 rfl ?_
  refine mv0 rfl ?_
  refine mv0 rfl ?_
  obtain ⟨r27, h28, H⟩ := bind_some H
  refine Lst.call rfl rfl (by decide) (vs := [Sl.v s_a0, iv y7, iv y8, iv y9, pv b1 0, .func (.func 71) #[] #[]]) ⟨rfl, rfl, rfl, rfl, rfl, rfl, trivial⟩ Try.call101 (slices_medianCmpFunc_int_Chains_1_sim h28 w0 _ M _ hM hm_a0 (hs_a0.mono hF26 (.refl _)) (All.monoLR ha_a0 hF26 (.refl _))) (fun F29 L' v hF30 hv => ?_)
  obtain ⟨rfl, rfl⟩ := hv
  refine Lst.r (Ev.assign rfl) ?_
  refine Lst.nil ?_
  exact At.meet (r27.2, r27.1) (FLe.trans hF26 hF30) ⟨rfl, rfl, trivial⟩ rfl (some_inj H)
 rintro F31 ⟨y3, y4⟩ hF32 hy
 subst hy
 refine Cd.as (e' := [(11, pv b1 0), (13, iv y3)]) (L' := (.blk b1 (enc y4) 3) :: L) ⟨rfl, rfl, trivial⟩ rfl ?_
 replace H := HKo5
 refine sr0 ?_
 refine Lst.r (Ev.load (i := 0) rfl rfl Try.isAgg3 (v := iv y4) gh0) ?_
 refine nt0 ?_
 refine Cd.block ?_
 refine sr0 ?_
 refine Lst.r (Ev.eql rfl rfl) ?_
 refine Lst.r (Ev.assign rfl) ?_
 refine nt0 ?_
 rcases Bool.eq_false_or_eq_true (y4 == (0 : Int)) with hb33 | hb33
 ·replace H := ite_t hb33 H
  refine Cd.condT rfl hb33 ?_
  refine sr0 ?_
  refine mv0 rfl ?_
  refine Lst.r (Ev.assign rfl) ?_
  refine Lst.r (Ev.assign rfl) ?_
  refine nt0 ?_
  obtain rfl := some_inj H
  refine Cd.ret ?_
  refine At.in_ret ?_
  exact At.ret2 rfl (Res.tmp rfl) (Res.tmp rfl) hF32 (sc1 (.refl _)) ⟨rfl, rfl⟩
 replace H := ite_f hb33 H
 refine Cd.condF rfl hb33 ?_
 refine sr0 ?_
 refine Lst.r (Ev.eql rfl rfl) ?_
 refine Lst.r (Ev.assign rfl) ?_
 refine nt0 ?_
 rcases Bool.eq_false_or_eq_true (y4 == (12 : Int)) with hb34 | hb34
 ·replace H := ite_t hb34 H
  refine Cd.condT rfl hb34 ?_
  refine sr0 ?_
  refine mv0 rfl ?_
  refine Lst.r (Ev.assign rfl) ?_
  refine Lst.r (Ev.assign rfl) ?_
  refine nt0 ?_
  obtain rfl := some_inj H
  refine Cd.ret ?_
  refine At.in_ret ?_
  exact At.ret2 rfl (Res.tmp rfl) (Res.tmp rfl) hF32 (sc1 (.refl _)) ⟨rfl, rfl⟩
 replace H := ite_f hb34 H
 refine Cd.condF rfl hb34 ?_
 refine sr0 ?_
 refine mv0 rfl ?_
 refine Lst.r (Ev.assign rfl) ?_
 refine Lst.r (Ev.assign rfl) ?_
 refine nt0 ?_
 obtain rfl := some_inj H
 refine Cd.ret ?_
 refine At.in_ret ?_
 exact At.ret2 rfl (Res.tmp rfl) (Res.tmp rfl) hF32 (sc1 (.refl _)) ⟨rfl, rfl⟩
set_option maxRecDepth 20000 in
theorem slices_reverseRangeCmpFunc_int_Chains_1_sim {fu : Nat} {a0 : List (List Int)} {a1 : Int} {a2 : Int} {s_a0 : Sl} {rs_a0 : List (LR Int)} {r : (List (List Int))} (H : slices_reverseRangeCmpFunc_int_Chains_1 fu a0 a1 a2 = some r) (w0 : World) (F : Frz) (M L : List Item) (hM : M.Sublist L) (hm_a0 : rs_a0.map LR.v = a0) (ha_a0 : All LR.rel w0 F M rs_a0) : Ok Try.prog w0 91 [Sl.v s_a0, iv a1, iv a2, .func (.func 71) #[] #[]] F ((.own s_a0 34 1 (encs rs_a0)) :: L) (fun Fx L' v => ∃ (rs2 : List (LR Int)), v = .tuple #[] ∧ L' = (.own s_a0 34 1 (encs rs2)) :: L ∧ rs2.map LR.v = r ∧ All LR.rel w0 Fx M rs2) := by
 unfold slices_reverseRangeCmpFunc_int_Chains_1 at H
 refine Ok.enter (m := 4) (n := 34) Try.func91 rfl rfl rfl (by decide) ?_
 refine Cd.env (e' := [(0, Sl.v s_a0), (1, iv a1), (2, iv a2), (3, .func (.func 71) #[] #[])]) rfl ?_
 refine sr0 ?_
 refine mv0 rfl ?_
 refine Lst.r (Ev.assign rfl) ?_
 refine nsr ?_
 refine mv0 rfl ?_
 refine Lst.r (Ev.sub rfl rfl) ?_
 refine Lst.r (Ev.assign rfl) ?_
 refine nt0 ?_
 refine Cd.block ?_
 obtain ⟨ol2, H, HKl2⟩ := andThen_some H
 refine Cd.loop (σ := Nat × Int × Int × (List (List Int)) × (List (LR Int))) (fun (k2, y3, y4, l5, rs6) => [(0, Sl.v s_a0), (8, iv y3), (9, iv y4)]) (fun (k2, y3, y4, l5, rs6) => (.own s_a0 34 1 (encs rs6)) :: L) (fun Fx => (fun (k2, y3, y4, l5, rs6) => whileM (slices_reverseRangeCmpFunc_int_Chains_1_B0) k2 (y3, y4, l5) = some ol2 ∧ rs6.map LR.v = l5 ∧ All LR.rel w0 Fx M rs6)) (fun (k2, y3, y4, l5, rs6) => k2) (fu, a1, w64 (a2 - (1 : Int)), a0, rs_a0) ⟨rfl, rfl, rfl, trivial⟩ rfl ⟨H, hm_a0, (All.monoLR ha_a0 fl (.refl _))⟩ ?_
 rintro F9 ⟨k2, y3, y4, l5, rs6⟩ hF10 ⟨H, fm7, fa8⟩
 refine Cd.as (e' := [(0, Sl.v s_a0), (8, iv y3), (9, iv y4)]) (L' := (.own s_a0 34 1 (encs rs6)) :: L) ⟨rfl, rfl, rfl, trivial⟩ rfl ?_
 rcases k2 with _ | k2
 ·cases H
 obtain ⟨c2, H, hgo2, hbrk2, hret2⟩ := whileM_go H
 unfold slices_reverseRangeCmpFunc_int_Chains_1_B0 at H
 try dsimp only at H
 refine Cd.seq ?_
 refine sr0 ?_
 refine mv0 rfl ?_
 refine mv0 rfl ?_
 refine Lst.r (Ev.lss rfl rfl) ?_
 refine nt0 ?_
 rcases (Bool.eq_false_or_eq_true (decide (y3 < y4))).symm with hb11 | hb11
 ·replace H := ite_f hb11 H
  refine Cd.condF rfl hb11 ?_
  refine Cd.exit ?_
  refine At.then_exit ?_
  refine At.then_exit ?_
  refine At.in_exit ?_
  have H := hbrk2 _ (some_inj H).symm
  subst H
  replace H := HKl2
  try dsimp only [Sum.elim_inl] at H
  obtain rfl := some_inj H
  exact At.ret0 (.inr rfl) rfl hF10 (sk1 (.refl _)) ⟨rs6, rfl, rfl, fm7, (All.monoLR fa8 fl (.refl _))⟩
 replace H := ite_t hb11 H
 refine Cd.condT rfl hb11 ?_
 refine Cd.skip ?_
 refine At.then ?_
 refine Cd.block ?_
 refine Cd.seq ?_
 obtain ⟨x12, h13, H⟩ := bind_some H
 obtain ⟨x16, h17, H⟩ := bind_some H
 obtain ⟨x20, h21, H⟩ := bind_some H
 obtain ⟨p24, h25, H⟩ := Let_some H
 obtain ⟨o36, h37, H⟩ := Let_some H
 refine Cd.headMeet (σ := Sl × (List Int) × (List (List Int)) × (List (LR Int))) 14 (fun (s29, l30, l32, rs33) => [(0, Sl.v s_a0), (8, iv y3), (9, iv y4), (18, Sl.v s_a0), (19, iv y4), (27, Sl.v s29)]) (fun (s29, l30, l32, rs33) => (.own s_a0 34 1 (encs rs33)) :: L) (fun Fx (s29, l30, l32, rs33) => (l30, l32) = o36 ∧ Rd w0 Fx M s29 l30 ∧ rs33.map LR.v = l32 ∧ All LR.rel w0 Fx M rs33) (by kernel_rfl) (by kernel_rfl) (behind_sink (by kernel_rfl) (by kernel_rfl) (by kernel_rfl)) (by kernel_rfl) (fun hsel hlt => ?_) ?_
 ·refine HdJ.keep (fun w => St w0 F9 (L) w) (fun w h => trivial) ?_
  refine HdJ.ts hsel hlt 0 (sc1 (.refl _)) (Ev.move rfl) ?_
  refine HdJ.ts hsel hlt 1 (sc1 (.refl _)) (Ev.move rfl) ?_
  refine HdJ.ts hsel hlt 2 (sc1 (.refl _)) (Ev.move rfl) ?_
  refine HdJ.ts hsel hlt 3 (sc1 (.refl _)) (Ev.move rfl) ?_
  refine HdJ.ts hsel hlt 4 (sc1 (.refl _)) (Ev.move rfl) ?_
  refine HdJ.ts hsel hlt 5 (sc1 (.refl _)) (Ev.move rfl) ?_
  refine HdJ.ts hsel hlt 8 (sc1 (.refl _)) (Ev.move rfl) ?_
  refine HdJ.ts hsel hlt 9 (sc1 (.refl _)) (Ev.move rfl) ?_
  refine HdJ.step [6, 10] (by kernel_rfl) rfl ?_
  refine HdStep.c (fun inv => ?_) ?_
  ·have g38 := lat_some h13
   obtain ⟨⟨r39v, r39h⟩, r39g, r39e, r39m⟩ := map_get fm7 g38.2.2
   obtain rfl : x12 = r39v := r39e.symm
   have r39q : Rd w0 _ _ r39h x12 := fa8 _ r39m
   refine Lst.r (Ev.indexS (α := LR Int) (xs := rs6) rfl rfl Try.runUnderlying56 Try.sizeOf34 rfl (by decide) (rdo 0 rfl rfl rfl) g38.1 (by have := map_len fm7; omega)) ?_
   refine hds inv (sc1 (.refl _)) ?_
   refine HdJ.step [7, 10] (by kernel_rfl) rfl ?_
   refine HdStep.c (fun inv => ?_) ?_
   ·refine Lst.r (Ev.loadS (α := LR Int) rfl (rdo 0 rfl rfl rfl) Try.isAgg34 (v := Sl.v r39h) ((Get.elemN (s := 1) rfl r39g gh0).off (by omega))) ?_
    refine hds inv (sc1 (.refl _)) ?_
    refine HdJ.o1 10 (fun inv => ?_)
    have g40 := lat_some h17
    obtain ⟨⟨r41v, r41h⟩, r41g, r41e, r41m⟩ := map_get fm7 g40.2.2
    obtain rfl : x16 = r41v := r41e.symm
    have r41q : Rd w0 _ _ r41h x16 := fa8 _ r41m
    refine Lst.r (Ev.indexS (α := LR Int) (xs := rs6) rfl rfl Try.runUnderlying56 Try.sizeOf34 rfl (by decide) (rdo 0 rfl rfl rfl) g40.1 (by have := map_len fm7; omega)) ?_
    refine hds inv (sc1 (.refl _)) ?_
    refine HdJ.o1 11 (fun inv => ?_)
    refine Lst.r (Ev.loadS (α := LR Int) rfl (rdo 0 rfl rfl rfl) Try.isAgg34 (v := Sl.v r41h) ((Get.elemN (s := 1) rfl r41g gh0).off (by omega))) ?_
    refine hds inv (sc1 (.refl _)) ?_
    refine HdJ.o1 12 (fun inv => ?_)
    have g42 := lat_some h21
    obtain ⟨⟨r43v, r43h⟩, r43g, r43e, r43m⟩ := map_get fm7 g42.2.2
    obtain rfl : x20 = r43v := r43e.symm
    have r43q : Rd w0 _ _ r43h x20 := fa8 _ r43m
    refine Lst.r (Ev.indexS (α := LR Int) (xs := rs6) rfl rfl Try.runUnderlying56 Try.sizeOf34 rfl (by decide) (rdo 0 rfl rfl rfl) g42.1 (by have := map_len fm7; omega)) ?_
    refine hds inv (sc1 (.refl _)) ?_
    refine HdJ.o1 13 (fun inv => ?_)
    have hm44 : (rs6.set y3.toNat (LR.mk x12 r39h)).map LR.v = p24 := (map_set fm7 _ _).trans h25
    have ha45 : All LR.rel w0 F9 M (rs6.set y3.toNat (LR.mk x12 r39h)) := All.set (All.monoLR fa8 fl (.refl _)) ((r39q.mono fl (.refl _)))
    refine Lst.storeS (i := 0) rfl rfl rfl rfl rfl Try.sizeOf34 (vs := [Sl.v r39h]) rfl rfl (by decide) rfl (xs' := encs (rs6.set y3.toNat (LR.mk x12 r39h))) ((Put.elemN (s := 1) (y := (LR.mk x12 r39h)) rfl r43g (Put.here (vs := [Sl.v r39h]) rfl)).off (by omega)) (L' := (.own s_a0 34 1 (encs (rs6.set y3.toNat (LR.mk x12 r39h)))) :: L) rfl ?_
    refine hds inv (sc1 (.refl _)) ?_
    refine HdJ.done (by kernel_rfl) ?_
    exact At.meetN (r41h, x16, p24, (rs6.set y3.toNat (LR.mk x12 r39h))) fl ⟨rfl, rfl, rfl, rfl, rfl, rfl, trivial⟩ rfl ⟨h37, (r41q.mono fl (.refl _)), hm44, (All.monoLR ha45 fl (.refl _))⟩
   refine HdStep.c (fun inv => ?_) trivial
   have g46 := lat_some h17
   obtain ⟨⟨r47v, r47h⟩, r47g, r47e, r47m⟩ := map_get fm7 g46.2.2
   obtain rfl : x16 = r47v := r47e.symm
   have r47q : Rd w0 _ _ r47h x16 := fa8 _ r47m
   refine Lst.r (Ev.indexS (α := LR Int) (xs := rs6) rfl rfl Try.runUnderlying56 Try.sizeOf34 rfl (by decide) (rdo 0 rfl rfl rfl) g46.1 (by have := map_len fm7; omega)) ?_
   refine hds inv (sc1 (.refl _)) ?_
   refine HdJ.step [7, 11] (by kernel_rfl) rfl ?_
   refine HdStep.c (fun inv => ?_) ?_
   ·refine Lst.r (Ev.loadS (α := LR Int) rfl (rdo 0 rfl rfl rfl) Try.isAgg34 (v := Sl.v r39h) ((Get.elemN (s := 1) rfl r39g gh0).off (by omega))) ?_
    refine hds inv (sc1 (.refl _)) ?_
    refine HdJ.o1 11 (fun inv => ?_)
    refine Lst.r (Ev.loadS (α := LR Int) rfl (rdo 0 rfl rfl rfl) Try.isAgg34 (v := Sl.v r47h) ((Get.elemN (s := 1) rfl r47g gh0).off (by omega))) ?_
    refine hds inv (sc1 (.refl _)) ?_
    refine HdJ.o1 12 (fun inv => ?_)
    have g48 := lat_some h21
    obtain ⟨⟨r49v, r49h⟩, r49g, r49e, r49m⟩ := map_get fm7 g48.2.2
    obtain rfl : x20 = r49v := r49e.symm
    have r49q : Rd w0 _ _ r49h x20 := fa8 _ r49m
    refine Lst.r (Ev.indexS (α := LR Int) (xs := rs6) rfl rfl Try.runUnderlying56 Try.sizeOf34 rfl (by decide) (rdo 0 rfl rfl rfl) g48.1 (by have := map_len fm7; omega)) ?_
    refine hds inv (sc1 (.refl _)) ?_
    refine HdJ.o1 13 (fun inv => ?_)
    have hm50 : (rs6.set y3.toNat (LR.mk x12 r39h)).map LR.v = p24 := (map_set fm7 _ _).trans h25
    have ha51 : All LR.rel w0 F9 M (rs6.set y3.toNat (LR.mk x12 r39h)) := All.set (All.monoLR fa8 fl (.refl _)) ((r39q.mono fl (.refl _)))
    refine Lst.storeS (i := 0) rfl rfl rfl rfl rfl Try.sizeOf34 (vs := [Sl.v r39h]) rfl rfl (by decide) rfl (xs' := encs (rs6.set y3.toNat (LR.mk x12 r39h))) ((Put.elemN (s := 1) (y := (LR.mk x12 r39h)) rfl r49g (Put.here (vs := [Sl.v r39h]) rfl)).off (by omega)) (L' := (.own s_a0 34 1 (encs (rs6.set y3.toNat (LR.mk x12 r39h)))) :: L) rfl ?_
    refine hds inv (sc1 (.refl _)) ?_
    refine HdJ.done (by kernel_rfl) ?_
    exact At.meetN (r47h, x16, p24, (rs6.set y3.toNat (LR.mk x12 r39h))) fl ⟨rfl, rfl, rfl, rfl, rfl, rfl, trivial⟩ rfl ⟨h37, (r47q.mono fl (.refl _)), hm50, (All.monoLR ha51 fl (.refl _))⟩
   refine HdStep.c (fun inv => ?_) trivial
   refine Lst.r (Ev.loadS (α := LR Int) rfl (rdo 0 rfl rfl rfl) Try.isAgg34 (v := Sl.v r47h) ((Get.elemN (s := 1) rfl r47g gh0).off (by omega))) ?_
   refine hds inv (sc1 (.refl _)) ?_
   refine HdJ.o1 7 (fun inv => ?_)
   refine Lst.r (Ev.loadS (α := LR Int) rfl (rdo 0 rfl rfl rfl) Try.isAgg34 (v := Sl.v r39h) ((Get.elemN (s := 1) rfl r39g gh0).off (by omega))) ?_
   refine hds inv (sc1 (.refl _)) ?_
   refine HdJ.o1 12 (fun inv => ?_)
   have g52 := lat_some h21
   obtain ⟨⟨r53v, r53h⟩, r53g, r53e, r53m⟩ := map_get fm7 g52.2.2
   obtain rfl : x20 = r53v := r53e.symm
   have r53q : Rd w0 _ _ r53h x20 := fa8 _ r53m
   refine Lst.r (Ev.indexS (α := LR Int) (xs := rs6) rfl rfl Try.runUnderlying56 Try.sizeOf34 rfl (by decide) (rdo 0 rfl rfl rfl) g52.1 (by have := map_len fm7; omega)) ?_
   refine hds inv (sc1 (.refl _)) ?_
   refine HdJ.o1 13 (fun inv => ?_)
   have hm54 : (rs6.set y3.toNat (LR.mk x12 r39h)).map LR.v = p24 := (map_set fm7 _ _).trans h25
   have ha55 : All LR.rel w0 F9 M (rs6.set y3.toNat (LR.mk x12 r39h)) := All.set (All.monoLR fa8 fl (.refl _)) ((r39q.mono fl (.refl _)))
   refine Lst.storeS (i := 0) rfl rfl rfl rfl rfl Try.sizeOf34 (vs := [Sl.v r39h]) rfl rfl (by decide) rfl (xs' := encs (rs6.set y3.toNat (LR.mk x12 r39h))) ((Put.elemN (s := 1) (y := (LR.mk x12 r39h)) rfl r53g (Put.here (vs := [Sl.v r39h]) rfl)).off (by omega)) (L' := (.own s_a0 34 1 (encs (rs6.set y3.toNat (LR.mk x12 r39h)))) :: L) rfl ?_
   refine hds inv (sc1 (.refl _)) ?_
   refine HdJ.done (by kernel_rfl) ?_
   exact At.meetN (r47h, x16, p24, (rs6.set y3.toNat (LR.mk x12 r39h))) fl ⟨rfl, rfl, rfl, rfl, rfl, rfl, trivial⟩ rfl ⟨h37, (r47q.mono fl (.refl _)), hm54, (All.monoLR ha55 fl (.refl _))⟩
  refine HdStep.c (fun inv => ?_) trivial
  have g56 := lat_some h17
  obtain ⟨⟨r57v, r57h⟩, r57g, r57e, r57m⟩ := map_get fm7 g56.2.2
  obtain rfl : x16 = r57v := r57e.symm
  have r57q : Rd w0 _ _ r57h x16 := fa8 _ r57m
  refine Lst.r (Ev.indexS (α := LR Int) (xs := rs6) rfl rfl Try.runUnderlying56 Try.sizeOf34 rfl (by decide) (rdo 0 rfl rfl rfl) g56.1 (by have := map_len fm7; omega)) ?_
  refine hds inv (sc1 (.refl _)) ?_
  refine HdJ.step [6, 11] (by kernel_rfl) rfl ?_
  refine HdStep.c (fun inv => ?_) ?_
  ·have g58 := lat_some h13
   obtain ⟨⟨r59v, r59h⟩, r59g, r59e, r59m⟩ := map_get fm7 g58.2.2
   obtain rfl : x12 = r59v := r59e.symm
   have r59q : Rd w0 _ _ r59h x12 := fa8 _ r59m
   refine Lst.r (Ev.indexS (α := LR Int) (xs := rs6) rfl rfl Try.runUnderlying56 Try.sizeOf34 rfl (by decide) (rdo 0 rfl rfl rfl) g58.1 (by have := map_len fm7; omega)) ?_
   refine hds inv (sc1 (.refl _)) ?_
   refine HdJ.step [7, 11] (by kernel_rfl) rfl ?_
   refine HdStep.c (fun inv => ?_) ?_
   ·refine Lst.r (Ev.loadS (α := LR Int) rfl (rdo 0 rfl rfl rfl) Try.isAgg34 (v := Sl.v r59h) ((Get.elemN (s := 1) rfl r59g gh0).off (by omega))) ?_
    refine hds inv (sc1 (.refl _)) ?_
    refine HdJ.o1 11 (fun inv => ?_)
    refine Lst.r (Ev.loadS (α := LR Int) rfl (rdo 0 rfl rfl rfl) Try.isAgg34 (v := Sl.v r57h) ((Get.elemN (s := 1) rfl r57g gh0).off (by omega))) ?_
    refine hds inv (sc1 (.refl _)) ?_
    refine HdJ.o1 12 (fun inv => ?_)
    have g60 := lat_some h21
    obtain ⟨⟨r61v, r61h⟩, r61g, r61e, r61m⟩ := map_get fm7 g60.2.2
    obtain rfl : x20 = r61v := r61e.symm
    have r61q : Rd w0 _ _ r61h x20 := fa8 _ r61m
    refine Lst.r (Ev.indexS (α := LR Int) (xs := rs6) rfl rfl Try.runUnderlying56 Try.sizeOf34 rfl (by decide) (rdo 0 rfl rfl rfl) g60.1 (by have := map_len fm7; omega)) ?_
    refine hds inv (sc1 (.refl _)) ?_
    refine HdJ.o1 13 (fun inv => ?_)
    have hm62 : (rs6.set y3.toNat (LR.mk x12 r59h)).map LR.v = p24 := (map_set fm7 _ _).trans h25
    have ha63 : All LR.rel w0 F9 M (rs6.set y3.toNat (LR.mk x12 r59h)) := All.set (All.monoLR fa8 fl (.refl _)) ((r59q.mono fl (.refl _)))
    refine Lst.storeS (i := 0) rfl rfl rfl rfl rfl Try.sizeOf34 (vs := [Sl.v r59h]) rfl rfl (by decide) rfl (xs' := encs (rs6.set y3.toNat (LR.mk x12 r59h))) ((Put.elemN (s := 1) (y := (LR.mk x12 r59h)) rfl r61g (Put.here (vs := [Sl.v r59h]) rfl)).off (by omega)) (L' := (.own s_a0 34 1 (encs (rs6.set y3.toNat (LR.mk x12 r59h)))) :: L) rfl ?_
    refine hds inv (sc1 (.refl _)) ?_
    refine HdJ.done (by kernel_rfl) ?_
    exact At.meetN (r57h, x16, p24, (rs6.set y3.toNat (LR.mk x12 r59h))) fl ⟨rfl, rfl, rfl, rfl, rfl, rfl, trivial⟩ rfl ⟨h37, (r57q.mono fl (.refl _)), hm62, (All.monoLR ha63 fl (.refl _))⟩
   refine HdStep.c (fun inv => ?_) trivial
   refine Lst.r (Ev.loadS (α := LR Int) rfl (rdo 0 rfl rfl rfl) Try.isAgg34 (v := Sl.v r57h) ((Get.elemN (s := 1) rfl r57g gh0).off (by omega))) ?_
   refine hds inv (sc1 (.refl _)) ?_
   refine HdJ.o1 7 (fun inv => ?_)
   refine Lst.r (Ev.loadS (α := LR Int) rfl (rdo 0 rfl rfl rfl) Try.isAgg34 (v := Sl.v r59h) ((Get.elemN (s := 1) rfl r59g gh0).off (by omega))) ?_
   refine hds inv (sc1 (.refl _)) ?_
   refine HdJ.o1 12 (fun inv => ?_)
   have g64 := lat_some h21
   obtain ⟨⟨r65v, r65h⟩, r65g, r65e, r65m⟩ := map_get fm7 g64.2.2
   obtain rfl : x20 = r65v := r65e.symm
   have r65q : Rd w0 _ _ r65h x20 := fa8 _ r65m
   refine Lst.r (Ev.indexS (α := LR Int) (xs := rs6) rfl rfl Try.runUnderlying56 Try.sizeOf34 rfl (by decide) (rdo 0 rfl rfl rfl) g64.1 (by have := map_len fm7; omega)) ?_
   refine hds inv (sc1 (.refl _)) ?_
   refine HdJ.o1 13 (fun inv => ?_)
   have hm66 : (rs6.set y3.toNat (LR.mk x12 r59h)).map LR.v = p24 := (map_set fm7 _ _).trans h25
   have ha67 : All LR.rel w0 F9 M (rs6.set y3.toNat (LR.mk x12 r59h)) := All.set (All.monoLR fa8 fl (.refl _)) ((r59q.mono fl (.refl _)))
   refine Lst.storeS (i := 0) rfl rfl rfl rfl rfl Try.sizeOf34 (vs := [Sl.v r59h]) rfl rfl (by decide) rfl (xs' := encs (rs6.set y3.toNat (LR.mk x12 r59h))) ((Put.elemN (s := 1) (y := (LR.mk x12 r59h)) rfl r65g (Put.here (vs := [Sl.v r59h]) rfl)).off (by omega)) (L' := (.own s_a0 34 1 (encs (rs6.set y3.toNat (LR.mk x12 r59h)))) :: L) rfl ?_
   refine hds inv (sc1 (.refl _)) ?_
   refine HdJ.done (by kernel_rfl) ?_
   exact At.meetN (r57h, x16, p24, (rs6.set y3.toNat (LR.mk x12 r59h))) fl ⟨rfl, rfl, rfl, rfl, rfl, rfl, trivial⟩ rfl ⟨h37, (r57q.mono fl (.refl _)), hm66, (All.monoLR ha67 fl (.refl _))⟩
  refine HdStep.c (fun inv => ?_) trivial
  refine Lst.r (Ev.loadS (α := LR Int) rfl (rdo 0 rfl rfl rfl) Try.isAgg34 (v := Sl.v r57h) ((Get.elemN (s := 1) rfl r57g gh0).off (by omega))) ?_
  refine hds inv (sc1 (.refl _)) ?_
  refine HdJ.o1 6 (fun inv => ?_)
  have g68 := lat_some h13
  obtain ⟨⟨r69v, r69h⟩, r69g, r69e, r69m⟩ := map_get fm7 g68.2.2
  obtain rfl : x12 = r69v := r69e.symm
  have r69q : Rd w0 _ _ r69h x12 := fa8 _ r69m
  refine Lst.r (Ev.indexS (α := LR Int) (xs := rs6) rfl rfl Try.runUnderlying56 Try.sizeOf34 rfl (by decide) (rdo 0 rfl rfl rfl) g68.1 (by have := map_len fm7; omega)) ?_
  refine hds inv (sc1 (.refl _)) ?_
  refine HdJ.o1 7 (fun inv => ?_)
  refine Lst.r (Ev.loadS (α := LR Int) rfl (rdo 0 rfl rfl rfl) Try.isAgg34 (v := Sl.v r69h) ((Get.elemN (s := 1) rfl r69g gh0).off (by omega))) ?_
  refine hds inv (sc1 (.refl _)) ?_
  refine HdJ.o1 12 (fun inv => ?_)
  have g70 := lat_some h21
  obtain ⟨⟨r71v, r71h⟩, r71g, r71e, r71m⟩ := map_get fm7 g70.2.2
  obtain rfl : x20 = r71v := r71e.symm
  have r71q : Rd w0 _ _ r71h x20 := fa8 _ r71m
  refine Lst.r (Ev.indexS (α := LR Int) (xs := rs6) rfl rfl Try.runUnderlying56 Try.sizeOf34 rfl (by decide) (rdo 0 rfl rfl rfl) g70.1 (by have := map_len fm7; omega)) ?_
  refine hds inv (sc1 (.refl _)) ?_
  refine HdJ.o1 13 (fun inv => ?_)
  have hm72 : (rs6.set y3.toNat (LR.mk x12 r69h)).map LR.v = p24 := (map_set fm7 _ _).trans h25
  have ha73 : All LR.rel w0 F9 M (rs6.set y3.toNat (LR.mk x12 r69h)) := All.set (All.monoLR fa8 fl (.refl _)) ((r69q.mono fl (.refl _)))
  refine Lst.storeS (i := 0) rfl rfl rfl rfl rfl Try.sizeOf34 (vs := [Sl.v r69h]) rfl rfl (by decide) rfl (xs' := encs (rs6.set y3.toNat (LR.mk x12 r69h))) ((Put.elemN (s := 1) (y := (LR.mk x12 r69h)) rfl r71g (Put.here (vs := [Sl.v r69h]) rfl)).off (by omega)) (L' := (.own s_a0 34 1 (encs (rs6.set y3.toNat (LR.mk x12 r69h)))) :: L) rfl ?_
  refine hds inv (sc1 (.refl _)) ?_
  refine HdJ.done (by kernel_rfl) ?_
  exact At.meetN (r57h, x16, p24, (rs6.set y3.toNat (LR.mk x12 r69h))) fl ⟨rfl, rfl, rfl, rfl, rfl, rfl, trivial⟩ rfl ⟨h37, (r57q.mono fl (.refl _)), hm72, (All.monoLR ha73 fl (.refl _))⟩
 rintro F74 ⟨s29, l30, l32, rs33⟩ hF75 ⟨hy, f31, fm34, fa35⟩
 subst hy
 try dsimp only at H
 refine Lst.as (e' := [(0, Sl.v s_a0), (8, iv y3), (9, iv y4), (18, Sl.v s_a0), (19, iv y4), (27, Sl.v s29)]) (L' := (.own s_a0 34 1 (encs rs33)) :: L) ⟨rfl, rfl, rfl, rfl, rfl, rfl, trivial⟩ rfl ?_
 obtain ⟨x76, h77, H⟩ := bind_some H
 have g78 := lat_some h77
 obtain ⟨⟨r79v, r79h⟩, r79g, r79e, r79m⟩ := map_get fm34 g78.2.2
 obtain rfl : x76 = r79v := r79e.symm
 have r79q : Rd w0 _ _ r79h x76 := fa35 _ r79m
 refine Lst.r (Ev.indexS (α := LR Int) (xs := rs33) rfl rfl Try.runUnderlying56 Try.sizeOf34 rfl (by decide) (rdo 0 rfl rfl rfl) g78.1 (by have := map_len fm34; omega)) ?_
 obtain ⟨p80, h81, H⟩ := Let_some H
 have hm82 : (rs33.set y4.toNat (LR.mk l30 s29)).map LR.v = p80 := (map_set fm34 _ _).trans h81
 have ha83 : All LR.rel w0 F74 M (rs33.set y4.toNat (LR.mk l30 s29)) := All.set (All.monoLR fa35 fl (.refl _)) ((f31.mono fl (.refl _)))
 refine Lst.storeS (i := 0) rfl rfl rfl rfl rfl Try.sizeOf34 (vs := [Sl.v s29]) rfl rfl (by decide) rfl (xs' := encs (rs33.set y4.toNat (LR.mk l30 s29))) ((Put.elemN (s := 1) (y := (LR.mk l30 s29)) rfl r79g (Put.here (vs := [Sl.v s29]) rfl)).off (by omega)) (L' := (.own s_a0 34 1 (encs (rs33.set y4.toNat (LR.mk l30 s29)))) :: L) rfl ?_
 refine nsr ?_
 refine mv0 rfl ?_
 refine Lst.r (Ev.add rfl rfl) ?_
 refine Lst.r (Ev.assign rfl) ?_
 refine nt0 ?_
 refine Cd.region ?_
 refine mv0 rfl ?_
 refine Lst.r (Ev.sub rfl rfl) ?_
 refine Lst.r (Ev.assign rfl) ?_
 refine Lst.nil ?_
 refine At.in_normal ?_
 exact At.meet (k2, w64 (y3 + (1 : Int)), w64 (y4 - (1 : Int)), p80, (rs33.set y4.toNat (LR.mk l30 s29))) (FLe.trans hF10 hF75) ⟨rfl, rfl, rfl, trivial⟩ rfl ⟨⟨hgo2 _ (some_inj H).symm, hm82, (All.monoLR ha83 fl (.refl _))⟩, Nat.lt_succ_self _⟩
set_option maxHeartbeats 2000000 in
set_option maxRecDepth 20000 in
theorem slices_partialInsertionSortCmpFunc_int_Chains_1_sim {fu : Nat} {a0 : List (List Int)} {a1 : Int} {a2 : Int} {s_a0 : Sl} {rs_a0 : List (LR Int)} {r : (List (List Int)) × Bool} (H : slices_partialInsertionSortCmpFunc_int_Chains_1 fu a0 a1 a2 = some r) (w0 : World) (F : Frz) (M L : List Item) (hM : M.Sublist L) (hm_a0 : rs_a0.map LR.v = a0) (ha_a0 : All LR.rel w0 F M rs_a0) : Ok Try.prog w0 92 [Sl.v s_a0, iv a1, iv a2, .func (.func 71) #[] #[]] F ((.own s_a0 34 1 (encs rs_a0)) :: L) (fun Fx L' v => ∃ (rs2 : List (LR Int)), v = .bool r.2 ∧ L' = (.own s_a0 34 1 (encs rs2)) :: L ∧ rs2.map LR.v = r.1 ∧ All LR.rel w0 Fx M rs2) := by
 unfold slices_partialInsertionSortCmpFunc_int_Chains_1 at H
 refine Ok.enter (m := 4) (n := 141) Try.func92 rfl rfl rfl (by decide) ?_
 refine Cd.env (e' := [(0, Sl.v s_a0), (1, iv a1), (2, iv a2), (3, .func (.func 71) #[] #[])]) rfl ?_
 refine sr0 ?_
 refine Lst.r (Ev.assign rfl) ?_
 refine nsr ?_
 refine mv0 rfl ?_
 refine Lst.r (Ev.add rfl rfl) ?_
 refine Lst.r (Ev.assign rfl) ?_
 refine nt0 ?_
 refine Cd.seq ?_
 refine sr0 ?_
 refine Lst.r (Ev.assign rfl) ?_
 refine nt0 ?_
 refine Cd.block ?_
 obtain ⟨ol2, H, HKl2⟩ := andThen_some H
 refine Cd.loop (σ := Nat × Int × Int × (List (List Int)) × (List (LR Int))) (fun (k2, y3, y4, l5, rs6) => [(0, Sl.v s_a0), (1, iv a1), (2, iv a2), (3, .func (.func 71) #[] #[]), (9, iv y3), (10, iv y4)]) (fun (k2, y3, y4, l5, rs6) => (.own s_a0 34 1 (encs rs6)) :: L) (fun Fx => (fun (k2, y3, y4, l5, rs6) => whileM (slices_partialInsertionSortCmpFunc_int_Chains_1_B0 fu a1 a2) k2 (y3, y4, l5) = some ol2 ∧ rs6.map LR.v = l5 ∧ All LR.rel w0 Fx M rs6)) (fun (k2, y3, y4, l5, rs6) => k2) (fu, w64 (a1 + (1 : Int)), (0 : Int), a0, rs_a0) ⟨rfl, rfl, rfl, rfl, rfl, rfl, trivial⟩ rfl ⟨H, hm_a0, (All.monoLR ha_a0 fl (.refl _))⟩ ?_
 rintro F9 ⟨k2, y3, y4, l5, rs6⟩ hF10 ⟨H, fm7, fa8⟩
 refine Cd.as (e' := [(0, Sl.v s_a0), (1, iv a1), (2, iv a2), (3, .func (.func 71) #[] #[]), (9, iv y3), (10, iv y4)]) (L' := (.own s_a0 34 1 (encs rs6)) :: L) ⟨rfl, rfl, rfl, rfl, rfl, rfl, trivial⟩ rfl ?_
 rcases k2 with _ | k2
 ·cases H
 obtain ⟨c2, H, hgo2, hbrk2, hret2⟩ := whileM_go H
 unfold slices_partialInsertionSortCmpFunc_int_Chains_1_B0 at H
 try dsimp only at H
 refine Cd.seq ?_
 refine sr0 ?_
 refine mv0 rfl ?_
 refine Lst.r (Ev.lss rfl rfl) ?_
 refine nt0 ?_
 rcases (Bool.eq_false_or_eq_true (decide (y4 < (5 : Int)))).symm with hb11 | hb11
 ·replace H := ite_f hb11 H
  refine Cd.condF rfl hb11 ?_
  refine Cd.exit ?_
  refine At.then_exit ?_
  refine At.then_exit ?_
  refine At.in_exit ?_
  have H := hbrk2 _ (some_inj H).symm
  subst H
  replace H := HKl2
  try dsimp only [Sum.elim_inl] at H
  refine At.then ?_
  refine sr0 ?_
  refine Lst.r (Ev.assign rfl) ?_
  refine nt0 ?_
  obtain rfl := some_inj H
  refine Cd.ret ?_
  exact At.ret1 rfl (Res.tmp rfl) hF10 (sk1 (.refl _)) ⟨rs6, rfl, rfl, fm7, (All.monoLR fa8 fl (.refl _))⟩
 replace H := ite_t hb11 H
 refine Cd.condT rfl hb11 ?_
 refine Cd.skip ?_
 refine At.then ?_
 refine Cd.seq ?_
 refine Cd.block ?_
 refine Cd.seq ?_
 refine Cd.block ?_
 obtain ⟨ol12, H, HKl12⟩ := andThen_some H
 refine Cd.loop (σ := Nat × Int) (fun (k12, y13) => [(0, Sl.v s_a0), (1, iv a1), (2, iv a2), (3, .func (.func 71) #[] #[]), (9, iv y13), (10, iv y4)]) (fun (k12, y13) => (.own s_a0 34 1 (encs rs6)) :: L) (fun _ => (fun (k12, y13) => whileM (slices_partialInsertionSortCmpFunc_int_Chains_1_B2 a2 l5) k12 y13 = some ol12)) (fun (k12, y13) => k12) (fu, y3) ⟨rfl, rfl, rfl, rfl, rfl, rfl, trivial⟩ rfl H ?_
 rintro F14 ⟨k12, y13⟩ hF15 H
 refine Cd.as (e' := [(0, Sl.v s_a0), (1, iv a1), (2, iv a2), (3, .func (.func 71) #[] #[]), (9, iv y13), (10, iv y4)]) (L' := (.own s_a0 34 1 (encs rs6)) :: L) ⟨rfl, rfl, rfl, rfl, rfl, rfl, trivial⟩ rfl ?_
 rcases k12 with _ | k12
 ·cases H
 obtain ⟨c12, H, hgo12, hbrk12, hret12⟩ := whileM_go H
 unfold slices_partialInsertionSortCmpFunc_int_Chains_1_B2 at H
 try dsimp only at H
 refine Cd.seq ?_
 refine Cd.seq ?_
 refine Cd.quiet (by kernel_rfl) (by kernel_rfl) ?_
 refine Qt.r (Ev.move rfl) ?_
 refine Qt.r (Ev.move rfl) ?_
 refine Qt.r (Ev.lss rfl rfl) ?_
 refine Qt.r (Ev.move rfl) ?_
 obtain ⟨o16, H, HKo16⟩ := bind_some H
 refine Qt.join (σ := Bool) 14 (fun y17 => [(0, Sl.v s_a0), (1, iv a1), (2, iv a2), (3, .func (.func 71) #[] #[]), (9, iv y13), (10, iv y4), (36, .bool y17)]) (fun y17 => y17 = o16) ?_ ?_
 ·rcases (Bool.eq_false_or_eq_true (decide (y13 < a2))).symm with hb18 | hb18
  ·replace H := ite_f hb18 H
   refine Qt.skip rfl rfl rfl hb18 rfl (by decide) ?_
   refine Qt.skip rfl rfl rfl hb18 rfl (by decide) ?_
   refine Qt.skip rfl rfl rfl hb18 rfl (by decide) ?_
   refine Qt.skip rfl rfl rfl hb18 rfl (by decide) ?_
   refine Qt.skip rfl rfl rfl hb18 rfl (by decide) ?_
   refine Qt.skip rfl rfl rfl hb18 rfl (by decide) ?_
   refine Qt.skip rfl rfl rfl hb18 rfl (by decide) ?_
   refine Qt.skip rfl rfl rfl hb18 rfl (by decide) ?_
   refine Qt.skip rfl rfl rfl hb18 rfl (by decide) ?_
   refine Qt.skip rfl rfl rfl hb18 rfl (by decide) ?_
   refine Qt.skip rfl rfl rfl hb18 rfl (by decide) ?_
   refine Qt.skip rfl rfl rfl hb18 rfl (by decide) ?_
   refine Qt.skip rfl rfl rfl hb18 rfl (by decide) ?_
   refine Qt.r (Ev.pickF rfl hb18 rfl) ?_
   exact Qt.meet false ⟨rfl, rfl, rfl, rfl, rfl, rfl, rfl, trivial⟩ (some_inj H)
  replace H := ite_t hb18 H
  refine Qt.rG hb18 (Ev.move rfl) ?_
  refine Qt.rG hb18 (Ev.move rfl) ?_
  refine Qt.rG hb18 (Ev.move rfl) ?_
  obtain ⟨x19, h20, H⟩ := bind_some H
  have g21 := lat_some h20
  obtain ⟨⟨r22v, r22h⟩, r22g, r22e, r22m⟩ := map_get fm7 g21.2.2
  obtain rfl : x19 = r22v := r22e.symm
  have r22q : Rd w0 _ _ r22h x19 := fa8 _ r22m
  refine Qt.rG hb18 (Ev.indexS (α := LR Int) (xs := rs6) rfl rfl Try.runUnderlying56 Try.sizeOf34 rfl (by decide) (rdo 0 rfl rfl rfl) g21.1 (by have := map_len fm7; omega)) ?_
  refine Qt.rG hb18 (Ev.loadS (α := LR Int) rfl (rdo 0 rfl rfl rfl) Try.isAgg34 (v := Sl.v r22h) ((Get.elemN (s := 1) rfl r22g gh0).off (by omega))) ?_
  refine Qt.rG hb18 (Ev.move rfl) ?_
  refine Qt.rG hb18 (Ev.move rfl) ?_
  refine Qt.rG hb18 (Ev.sub rfl rfl) ?_
  obtain ⟨x23, h24, H⟩ := bind_some H
  have g25 := lat_some h24
  obtain ⟨⟨r26v, r26h⟩, r26g, r26e, r26m⟩ := map_get fm7 g25.2.2
  obtain rfl : x23 = r26v := r26e.symm
  have r26q : Rd w0 _ _ r26h x23 := fa8 _ r26m
  refine Qt.rG hb18 (Ev.indexS (α := LR Int) (xs := rs6) rfl rfl Try.runUnderlying56 Try.sizeOf34 rfl (by decide) (rdo 0 rfl rfl rfl) g25.1 (by have := map_len fm7; omega)) ?_
  refine Qt.rG hb18 (Ev.loadS (α := LR Int) rfl (rdo 0 rfl rfl rfl) Try.isAgg34 (v := Sl.v r26h) ((Get.elemN (s := 1) rfl r26g gh0).off (by omega))) ?_
  obtain ⟨r27, h28, H⟩ := bind_some H
  refine Qt.callVG rfl rfl rfl hb18 rfl (by decide) (vs := [Sl.v r22h, Sl.v r26h]) (cs := []) rfl ⟨rfl, rfl, trivial⟩ Try.call71 (poset_Chains_1_sim h28 w0 _ M _ (sc1 hM) (r22q.mono hF15 (.refl _)) (r26q.mono hF15 (.refl _))) ?_
  refine Qt.rG hb18 (Ev.lss rfl rfl) ?_
  refine Qt.rG hb18 (Ev.not rfl) ?_
  refine Qt.r (Ev.pickT rfl hb18 rfl) ?_
  exact Qt.meet (!(decide (r27 < (0 : Int)))) ⟨rfl, rfl, rfl, rfl, rfl, rfl, rfl, trivial⟩ (some_inj H)
 rintro y17 hy
 subst hy
 refine Qt.as (e' := [(0, Sl.v s_a0), (1, iv a1), (2, iv a2), (3, .func (.func 71) #[] #[]), (9, iv y13), (10, iv y4), (36, .bool y17)]) ⟨rfl, rfl, rfl, rfl, rfl, rfl, rfl, trivial⟩ ?_
 replace H := HKo16
 refine Qt.done ?_
 refine At.then ?_
 rcases (Bool.eq_false_or_eq_true y17).symm with hb31 | hb31
 ·replace H := ite_f hb31 H
  refine Cd.condF rfl hb31 ?_
  refine Cd.exit ?_
  refine At.then_exit ?_
  refine At.then_exit ?_
  refine At.in_exit ?_
  have H := hbrk12 _ (some_inj H).symm
  subst H
  replace H := HKl12
  refine At.then ?_
  refine Cd.seq ?_
  refine sr0 ?_
  refine mv0 rfl ?_
  refine mv0 rfl ?_
  refine Lst.r (Ev.eql rfl rfl) ?_
  refine nt0 ?_
  rcases Bool.eq_false_or_eq_true (y13 == a2) with hb32 | hb32
  ·replace H := ite_t hb32 H
   refine Cd.condT rfl hb32 ?_
   refine sr0 ?_
   refine Lst.r (Ev.assign rfl) ?_
   refine nt0 ?_
   have H := hret2 _ (some_inj H).symm
   subst H
   replace H := HKl2
   obtain rfl := some_inj H
   refine Cd.ret ?_
   refine At.then_ret ?_
   refine At.in_ret ?_
   refine At.then_ret ?_
   refine At.then_ret ?_
   refine At.in_ret ?_
   refine At.then_ret ?_
   exact At.ret1 rfl (Res.tmp rfl) (FLe.trans hF10 hF15) (sk1 (.refl _)) ⟨rs6, rfl, rfl, fm7, (All.monoLR fa8 hF15 (.refl _))⟩
  replace H := ite_f hb32 H
  refine Cd.condF rfl hb32 ?_
  refine Cd.skip ?_
  refine At.then ?_
  refine Cd.seq ?_
  refine sr0 ?_
  refine mv0 rfl ?_
  refine mv0 rfl ?_
  refine Lst.r (Ev.sub rfl rfl) ?_
  refine Lst.r (Ev.lss rfl rfl) ?_
  refine nt0 ?_
  rcases Bool.eq_false_or_eq_true (decide ((w64 (a2 - a1)) < (50 : Int))) with hb33 | hb33
  ·replace H := ite_t hb33 H
   refine Cd.condT rfl hb33 ?_
   refine sr0 ?_
   refine Lst.r (Ev.assign rfl) ?_
   refine nt0 ?_
   have H := hret2 _ (some_inj H).symm
   subst H
   replace H := HKl2
   obtain rfl := some_inj H
   refine Cd.ret ?_
   refine At.then_ret ?_
   refine At.in_ret ?_
   refine At.then_ret ?_
   refine At.then_ret ?_
   refine At.in_ret ?_
   refine At.then_ret ?_
   exact At.ret1 rfl (Res.tmp rfl) (FLe.trans hF10 hF15) (sk1 (.refl _)) ⟨rs6, rfl, rfl, fm7, (All.monoLR fa8 hF15 (.refl _))⟩
  replace H := ite_f hb33 H
  refine Cd.condF rfl hb33 ?_
  refine Cd.skip ?_
  refine At.then ?_
  refine Cd.seq ?_
  obtain ⟨x34, h35, H⟩ := bind_some H
  obtain ⟨x38, h39, H⟩ := bind_some H
  obtain ⟨x42, h43, H⟩ := bind_some H
  obtain ⟨p46, h47, H⟩ := Let_some H
  obtain ⟨o58, h59, H⟩ := Let_some H
  refine Cd.headMeet (σ := Sl × (List Int) × (List (List Int)) × (List (LR Int))) 16 (fun (s51, l52, l54, rs55) => [(0, Sl.v s_a0), (1, iv a1), (2, iv a2), (3, .func (.func 71) #[] #[]), (9, iv y13), (10, iv y4), (48, Sl.v s_a0), (50, iv (w64 (y13 - (1 : Int)))), (59, Sl.v s51)]) (fun (s51, l52, l54, rs55) => (.own s_a0 34 1 (encs rs55)) :: L) (fun Fx (s51, l52, l54, rs55) => (l52, l54) = o58 ∧ Rd w0 Fx M s51 l52 ∧ rs55.map LR.v = l54 ∧ All LR.rel w0 Fx M rs55) (by kernel_rfl) (by kernel_rfl) (behind_sink (by kernel_rfl) (by kernel_rfl) (by kernel_rfl)) (by kernel_rfl) (fun hsel hlt => ?_) ?_
  ·refine HdJ.keep (fun w => St w0 F14 (L) w) (fun w h => trivial) ?_
   refine HdJ.ts hsel hlt 0 (sc1 (.refl _)) (Ev.move rfl) ?_
   refine HdJ.ts hsel hlt 1 (sc1 (.refl _)) (Ev.move rfl) ?_
   refine HdJ.ts hsel hlt 2 (sc1 (.refl _)) (Ev.move rfl) ?_
   refine HdJ.ts hsel hlt 3 (sc1 (.refl _)) (Ev.move rfl) ?_
   refine HdJ.ts hsel hlt 4 (sc1 (.refl _)) (Ev.sub rfl rfl) ?_
   refine HdJ.ts hsel hlt 5 (sc1 (.refl _)) (Ev.move rfl) ?_
   refine HdJ.ts hsel hlt 6 (sc1 (.refl _)) (Ev.move rfl) ?_
   refine HdJ.ts hsel hlt 7 (sc1 (.refl _)) (Ev.sub rfl rfl) ?_
   refine HdJ.ts hsel hlt 10 (sc1 (.refl _)) (Ev.move rfl) ?_
   refine HdJ.ts hsel hlt 11 (sc1 (.refl _)) (Ev.move rfl) ?_
   refine HdJ.step [8, 12] (by kernel_rfl) rfl ?_
   refine HdStep.c (fun inv => ?_) ?_
   ·have g60 := lat_some h35
    obtain ⟨⟨r61v, r61h⟩, r61g, r61e, r61m⟩ := map_get fm7 g60.2.2
    obtain rfl : x34 = r61v := r61e.symm
    have r61q : Rd w0 _ _ r61h x34 := fa8 _ r61m
    refine Lst.r (Ev.indexS (α := LR Int) (xs := rs6) rfl rfl Try.runUnderlying56 Try.sizeOf34 rfl (by decide) (rdo 0 rfl rfl rfl) g60.1 (by have := map_len fm7; omega)) ?_
    refine hds inv (sc1 (.refl _)) ?_
    refine HdJ.step [9, 12] (by kernel_rfl) rfl ?_
    refine HdStep.c (fun inv => ?_) ?_
    ·refine Lst.r (Ev.loadS (α := LR Int) rfl (rdo 0 rfl rfl rfl) Try.isAgg34 (v := Sl.v r61h) ((Get.elemN (s := 1) rfl r61g gh0).off (by omega))) ?_
     refine hds inv (sc1 (.refl _)) ?_
     refine HdJ.o1 12 (fun inv => ?_)
     have g62 := lat_some h39
     obtain ⟨⟨r63v, r63h⟩, r63g, r63e, r63m⟩ := map_get fm7 g62.2.2
     obtain rfl : x38 = r63v := r63e.symm
     have r63q : Rd w0 _ _ r63h x38 := fa8 _ r63m
     refine Lst.r (Ev.indexS (α := LR Int) (xs := rs6) rfl rfl Try.runUnderlying56 Try.sizeOf34 rfl (by decide) (rdo 0 rfl rfl rfl) g62.1 (by have := map_len fm7; omega)) ?_
     refine hds inv (sc1 (.refl _)) ?_
     refine HdJ.o1 13 (fun inv => ?_)
     refine Lst.r (Ev.loadS (α := LR Int) rfl (rdo 0 rfl rfl rfl) Try.isAgg34 (v := Sl.v r63h) ((Get.elemN (s := 1) rfl r63g gh0).off (by omega))) ?_
     refine hds inv (sc1 (.refl _)) ?_
     refine HdJ.o1 14 (fun inv => ?_)
     have g64 := lat_some h43
     obtain ⟨⟨r65v, r65h⟩, r65g, r65e, r65m⟩ := map_get fm7 g64.2.2
     obtain rfl : x42 = r65v := r65e.symm
     have r65q : Rd w0 _ _ r65h x42 := fa8 _ r65m
     refine Lst.r (Ev.indexS (α := LR Int) (xs := rs6) rfl rfl Try.runUnderlying56 Try.sizeOf34 rfl (by decide) (rdo 0 rfl rfl rfl) g64.1 (by have := map_len fm7; omega)) ?_
     refine hds inv (sc1 (.refl _)) ?_
     refine HdJ.o1 15 (fun inv => ?_)
     have hm66 : (rs6.set y13.toNat (LR.mk x34 r61h)).map LR.v = p46 := (map_set fm7 _ _).trans h47
     have ha67 : All LR.rel w0 F14 M (rs6.set y13.toNat (LR.mk x34 r61h)) := All.set (All.monoLR fa8 hF15 (.refl _)) ((r61q.mono hF15 (.refl _)))
     refine Lst.storeS (i := 0) rfl rfl rfl rfl rfl Try.sizeOf34 (vs := [Sl.v r61h]) rfl rfl (by decide) rfl (xs' := encs (rs6.set y13.toNat (LR.mk x34 r61h))) ((Put.elemN (s := 1) (y := (LR.mk x34 r61h)) rfl r65g (Put.here (vs := [Sl.v r61h]) rfl)).off (by omega)) (L' := (.own s_a0 34 1 (encs (rs6.set y13.toNat (LR.mk x34 r61h)))) :: L) rfl ?_
     refine hds inv (sc1 (.refl _)) ?_
     refine HdJ.done (by kernel_rfl) ?_
     exact At.meetN (r63h, x38, p46, (rs6.set y13.toNat (LR.mk x34 r61h))) fl ⟨rfl, rfl, rfl, rfl, rfl, rfl, rfl, rfl, rfl, trivial⟩ rfl ⟨h59, (r63q.mono hF15 (.refl _)), hm66, (All.monoLR ha67 fl (.refl _))⟩
    refine HdStep.c (fun inv => ?_) trivial
    have g68 := lat_some h39
    obtain ⟨⟨r69v, r69h⟩, r69g, r69e, r69m⟩ := map_get fm7 g68.2.2
    obtain rfl : x38 = r69v := r69e.symm
    have r69q : Rd w0 _ _ r69h x38 := fa8 _ r69m
    refine Lst.r (Ev.indexS (α := LR Int) (xs := rs6) rfl rfl Try.runUnderlying56 Try.sizeOf34 rfl (by decide) (rdo 0 rfl rfl rfl) g68.1 (by have := map_len fm7; omega)) ?_
    refine hds inv (sc1 (.refl _)) ?_
    refine HdJ.step [9, 13] (by kernel_rfl) rfl ?_
    refine HdStep.c (fun inv => ?_) ?_
    ·refine Lst.r (Ev.loadS (α := LR Int) rfl (rdo 0 rfl rfl rfl) Try.isAgg34 (v := Sl.v r61h) ((Get.elemN (s := 1) rfl r61g gh0).off (by omega))) ?_
     refine hds inv (sc1 (.refl _)) ?_
     refine HdJ.o1 13 (fun inv => ?_)
     refine Lst.r (Ev.loadS (α := LR Int) rfl (rdo 0 rfl rfl rfl) Try.isAgg34 (v := Sl.v r69h) ((Get.elemN (s := 1) rfl r69g gh0).off (by omega))) ?_
     refine hds inv (sc1 (.refl _)) ?_
     refine HdJ.o1 14 (fun inv => ?_)
     have g70 := lat_some h43
     obtain ⟨⟨r71v, r71h⟩, r71g, r71e, r71m⟩ := map_get fm7 g70.2.2
     obtain rfl : x42 = r71v := r71e.symm
     have r71q : Rd w0 _ _ r71h x42 := fa8 _ r71m
     refine Lst.r (Ev.indexS (α := LR Int) (xs := rs6) rfl rfl Try.runUnderlying56 Try.sizeOf34 rfl (by decide) (rdo 0 rfl rfl rfl) g70.1 (by have := map_len fm7; omega)) ?_
     refine hds inv (sc1 (.refl _)) ?_
     refine HdJ.o1 15 (fun inv => ?_)
     have hm72 : (rs6.set y13.toNat (LR.mk x34 r61h)).map LR.v = p46 := (map_set fm7 _ _).trans h47
     have ha73 : All LR.rel w0 F14 M (rs6.set y13.toNat (LR.mk x34 r61h)) := All.set (All.monoLR fa8 hF15 (.refl _)) ((r61q.mono hF15 (.refl _)))
     refine Lst.storeS (i := 0) rfl rfl rfl rfl rfl Try.sizeOf34 (vs := [Sl.v r61h]) rfl rfl (by decide) rfl (xs' := encs (rs6.set y13.toNat (LR.mk x34 r61h))) ((Put.elemN (s := 1) (y := (LR.mk x34 r61h)) rfl r71g (Put.here (vs := [Sl.v r61h]) rfl)).off (by omega)) (L' := (.own s_a0 34 1 (encs (rs6.set y13.toNat (LR.mk x34 r61h)))) :: L) rfl ?_
     refine hds inv (sc1 (.refl _)) ?_
     refine HdJ.done (by kernel_rfl) ?_
     exact At.meetN (r69h, x38, p46, (rs6.set y13.toNat (LR.mk x34 r61h))) fl ⟨rfl, rfl, rfl, rfl, rfl, rfl, rfl, rfl, rfl, trivial⟩ rfl ⟨h59, (r69q.mono hF15 (.refl _)), hm72, (All.monoLR ha73 fl (.refl _))⟩
    refine HdStep.c (fun inv => ?_) trivial
    refine Lst.r (Ev.loadS (α := LR Int) rfl (rdo 0 rfl rfl rfl) Try.isAgg34 (v := Sl.v r69h) ((Get.elemN (s := 1) rfl r69g gh0).off (by omega))) ?_
    refine hds inv (sc1 (.refl _)) ?_
    refine HdJ.o1 9 (fun inv => ?_)
    refine Lst.r (Ev.loadS (α := LR Int) rfl (rdo 0 rfl rfl rfl) Try.isAgg34 (v := Sl.v r61h) ((Get.elemN (s := 1) rfl r61g gh0).off (by omega))) ?_
    refine hds inv (sc1 (.refl _)) ?_
    refine HdJ.o1 14 (fun inv => ?_)
    have g74 := lat_some h43
    obtain ⟨⟨r75v, r75h⟩, r75g, r75e, r75m⟩ := map_get fm7 g74.2.2
    obtain rfl : x42 = r75v := r75e.symm
    have r75q : Rd w0 _ _ r75h x42 := fa8 _ r75m
    refine Lst.r (Ev.indexS (α := LR Int) (xs := rs6) rfl rfl Try.runUnderlying56 Try.sizeOf34 rfl (by decide) (rdo 0 rfl rfl rfl) g74.1 (by have := map_len fm7; omega)) ?_
    refine hds inv (sc1 (.refl _)) ?_
    refine HdJ.o1 15 (fun inv => ?_)
    have hm76 : (rs6.set y13.toNat (LR.mk x34 r61h)).map LR.v = p46 := (map_set fm7 _ _).trans h47
    have ha77 : All LR.rel w0 F14 M (rs6.set y13.toNat (LR.mk x34 r61h)) := All.set (All.monoLR fa8 hF15 (.refl _)) ((r61q.mono hF15 (.refl _)))
    refine Lst.storeS (i := 0) rfl rfl rfl rfl rfl Try.sizeOf34 (vs := [Sl.v r61h]) rfl rfl (by decide) rfl (xs' := encs (rs6.set y13.toNat (LR.mk x34 r61h))) ((Put.elemN (s := 1) (y := (LR.mk x34 r61h)) rfl r75g (Put.here (vs := [Sl.v r61h]) rfl)).off (by omega)) (L' := (.own s_a0 34 1 (encs (rs6.set y13.toNat (LR.mk x34 r61h)))) :: L) rfl ?_
    refine hds inv (sc1 (.refl _)) ?_
    refine HdJ.done (by kernel_rfl) ?_
    exact At.meetN (r69h, x38, p46, (rs6.set y13.toNat (LR.mk x34 r61h))) fl ⟨rfl, rfl, rfl, rfl, rfl, rfl, rfl, rfl, rfl, trivial⟩ rfl ⟨h59, (r69q.mono hF15 (.refl _)), hm76, (All.monoLR ha77 fl (.refl _))⟩
   refine HdStep.c (fun inv => ?_) trivial
   have g78 := lat_some h39
   obtain ⟨⟨r79v, r79h⟩, r79g, r79e, r79m⟩ := map_get fm7 g78.2.2
   obtain rfl : x38 = r79v := r79e.symm
   have r79q : Rd w0 _ _ r79h x38 := fa8 _ r79m
   refine Lst.r (Ev.indexS (α := LR Int) (xs := rs6) rfl rfl Try.runUnderlying56 Try.sizeOf34 rfl (by decide) (rdo 0 rfl rfl rfl) g78.1 (by have := map_len fm7; omega)) ?_
   refine hds inv (sc1 (.refl _)) ?_
   refine HdJ.step [8, 13] (by kernel_rfl) rfl ?_
   refine HdStep.c (fun inv => ?_) ?_
   ·have g80 := lat_some h35
    obtain ⟨⟨r81v, r81h⟩, r81g, r81e, r81m⟩ := map_get fm7 g80.2.2
    obtain rfl : x34 = r81v := r81e.symm
    have r81q : Rd w0 _ _ r81h x34 := fa8 _ r81m
    refine Lst.r (Ev.indexS (α := LR Int) (xs := rs6) rfl rfl Try.runUnderlying56 Try.sizeOf34 rfl (by decide) (rdo 0 rfl rfl rfl) g80.1 (by have := map_len fm7; omega)) ?_
    refine hds inv (sc1 (.refl _)) ?_
    refine HdJ.step [9, 13] (by kernel_rfl) rfl ?_
    refine HdStep.c (fun inv => ?_) ?_
    ·refine Lst.r (Ev.loadS (α := LR Int) rfl (rdo 0 rfl rfl rfl) Try.isAgg34 (v := Sl.v r81h) ((Get.elemN (s := 1) rfl r81g gh0).off (by omega))) ?_
     refine hds inv (sc1 (.refl _)) ?_
     refine HdJ.o1 13 (fun inv => ?_)
     refine Lst.r (Ev.loadS (α := LR Int) rfl (rdo 0 rfl rfl rfl) Try.isAgg34 (v := Sl.v r79h) ((Get.elemN (s := 1) rfl r79g gh0).off (by omega))) ?_
     refine hds inv (sc1 (.refl _)) ?_
     refine HdJ.o1 14 (fun inv => ?_)
     have g82 := lat_some h43
     obtain ⟨⟨r83v, r83h⟩, r83g, r83e, r83m⟩ := map_get fm7 g82.2.2
     obtain rfl : x42 = r83v := r83e.symm
     have r83q : Rd w0 _ _ r83h x42 := fa8 _ r83m
     refine Lst.r (Ev.indexS (α := LR Int) (xs := rs6) rfl rfl Try.runUnderlying56 Try.sizeOf34 rfl (by decide) (rdo 0 rfl rfl rfl) g82.1 (by have := map_len fm7; omega)) ?_
     refine hds inv (sc1 (.refl _)) ?_
     refine HdJ.o1 15 (fun inv => ?_)
     have hm84 : (rs6.set y13.toNat (LR.mk x34 r81h)).map LR.v = p46 := (map_set fm7 _ _).trans h47
     have ha85 : All LR.rel w0 F14 M (rs6.set y13.toNat (LR.mk x34 r81h)) := All.set (All.monoLR fa8 hF15 (.refl _)) ((r81q.mono hF15 (.refl _)))
     refine Lst.storeS (i := 0) rfl rfl rfl rfl rfl Try.sizeOf34 (vs := [Sl.v r81h]) rfl rfl (by decide) rfl (xs' := encs (rs6.set y13.toNat (LR.mk x34 r81h))) ((Put.elemN (s := 1) (y := (LR.mk x34 r81h)) rfl r83g (Put.here (vs := [Sl.v r81h]) rfl)).off (by omega)) (L' := (.own s_a0 34 1 (encs (rs6.set y13.toNat (LR.mk x34 r81h)))) :: L) rfl ?_
     refine hds inv (sc1 (.refl _)) ?_
     refine HdJ.done (by kernel_rfl) ?_
     exact At.meetN (r79h, x38, p46, (rs6.set y13.toNat (LR.mk x34 r81h))) fl ⟨rfl, rfl, rfl, rfl, rfl, rfl, rfl, rfl, rfl, trivial⟩ rfl ⟨h59, (r79q.mono hF15 (.refl _)), hm84, (All.monoLR ha85 fl (.refl _))⟩
    refine HdStep.c (fun inv => ?_) trivial
    refine Lst.r (Ev.loadS (α := LR Int) rfl (rdo 0 rfl rfl rfl) Try.isAgg34 (v := Sl.v r79h) ((Get.elemN (s := 1) rfl r79g gh0).off (by omega))) ?_
    refine hds inv (sc1 (.refl _)) ?_
    refine HdJ.o1 9 (fun inv => ?_)
    refine Lst.r (Ev.loadS (α := LR Int) rfl (rdo 0 rfl rfl rfl) Try.isAgg34 (v := Sl.v r81h) ((Get.elemN (s := 1) rfl r81g gh0).off (by omega))) ?_
    refine hds inv (sc1 (.refl _)) ?_
    refine HdJ.o1 14 (fun inv => ?_)
    have g86 := lat_some h43
    obtain ⟨⟨r87v, r87h⟩, r87g, r87e, r87m⟩ := map_get fm7 g86.2.2
    obtain rfl : x42 = r87v := r87e.symm
    have r87q : Rd w0 _ _ r87h x42 := fa8 _ r87m
    refine Lst.r (Ev.indexS (α := LR Int) (xs := rs6) rfl rfl Try.runUnderlying56 Try.sizeOf34 rfl (by decide) (rdo 0 rfl rfl rfl) g86.1 (by have := map_len fm7; omega)) ?_
    refine hds inv (sc1 (.refl _)) ?_
    refine HdJ.o1 15 (fun inv => ?_)
    have hm88 : (rs6.set y13.toNat (LR.mk x34 r81h)).map LR.v = p46 := (map_set fm7 _ _).trans h47
    have ha89 : All LR.rel w0 F14 M (rs6.set y13.toNat (LR.mk x34 r81h)) := All.set (All.monoLR fa8 hF15 (.refl _)) ((r81q.mono hF15 (.refl _)))
    refine Lst.storeS (i := 0) rfl rfl rfl rfl rfl Try.sizeOf34 (vs := [Sl.v r81h]) rfl rfl (by decide) rfl (xs' := encs (rs6.set y13.toNat (LR.mk x34 r81h))) ((Put.elemN (s := 1) (y := (LR.mk x34 r81h)) rfl r87g (Put.here (vs := [Sl.v r81h]) rfl)).off (by omega)) (L' := (.own s_a0 34 1 (encs (rs6.set y13.toNat (LR.mk x34 r81h)))) :: L) rfl ?_
    refine hds inv (sc1 (.refl _)) ?_
    refine HdJ.done (by kernel_rfl) ?_
    exact At.meetN (r79h, x38, p46, (rs6.set y13.toNat (LR.mk x34 r81h))) fl ⟨rfl, rfl, rfl, rfl, rfl, rfl, rfl, rfl, rfl, trivial⟩ rfl ⟨h59, (r79q.mono hF15 (.refl _)), hm88, (All.monoLR ha89 fl (.refl _))⟩
   refine HdStep.c (fun inv => ?_) trivial
   refine Lst.r (Ev.loadS (α := LR Int) rfl (rdo 0 rfl rfl rfl) Try.isAgg34 (v := Sl.v r79h) ((Get.elemN (s := 1) rfl r79g gh0).off (by omega))) ?_
   refine hds inv (sc1 (.refl _)) ?_
   refine HdJ.o1 8 (fun inv => ?_)
   have g90 := lat_some h35
   obtain ⟨⟨r91v, r91h⟩, r91g, r91e, r91m⟩ := map_get fm7 g90.2.2
   obtain rfl : x34 = r91v := r91e.symm
   have r91q : Rd w0 _ _ r91h x34 := fa8 _ r91m
   refine Lst.r (Ev.indexS (α := LR Int) (xs := rs6) rfl rfl Try.runUnderlying56 Try.sizeOf34 rfl (by decide) (rdo 0 rfl rfl rfl) g90.1 (by have := map_len fm7; omega)) ?_
   refine hds inv (sc1 (.refl _)) ?_
   refine HdJ.o1 9 (fun inv => ?_)
   refine Lst.r (Ev.loadS (α := LR Int) rfl (rdo 0 rfl rfl rfl) Try.isAgg34 (v := Sl.v r91h) ((Get.elemN (s := 1) rfl r91g gh0).off (by omega))) ?_
   refine hds inv (sc1 (.refl _)) ?_
   refine HdJ.o1 14 (fun inv => ?_)
   have g92 := lat_some h43
   obtain ⟨⟨r93v, r93h⟩, r93g, r93e, r93m⟩ := map_get fm7 g92.2.2
   obtain rfl : x42 = r93v := r93e.symm
   have r93q : Rd w0 _ _ r93h x42 := fa8 _ r93m
   refine Lst.r (Ev.indexS (α := LR Int) (xs := rs6) rfl rfl Try.runUnderlying56 Try.sizeOf34 rfl (by decide) (rdo 0 rfl rfl rfl) g92.1 (by have := map_len fm7; omega)) ?_
   refine hds inv (sc1 (.refl _)) ?_
   refine HdJ.o1 15 (fun inv => ?_)
   have hm94 : (rs6.set y13.toNat (LR.mk x34 r91h)).map LR.v = p46 := (map_set fm7 _ _).trans h47
   have ha95 : All LR.rel w0 F14 M (rs6.set y13.toNat (LR.mk x34 r91h)) := All.set (All.monoLR fa8 hF15 (.refl _)) ((r91q.mono hF15 (.refl _)))
   refine Lst.storeS (i := 0) rfl rfl rfl rfl rfl Try.sizeOf34 (vs := [Sl.v r91h]) rfl rfl (by decide) rfl (xs' := encs (rs6.set y13.toNat (LR.mk x34 r91h))) ((Put.elemN (s := 1) (y := (LR.mk x34 r91h)) rfl r93g (Put.here (vs := [Sl.v r91h]) rfl)).off (by omega)) (L' := (.own s_a0 34 1 (encs (rs6.set y13.toNat (LR.mk x34 r91h)))) :: L) rfl ?_
   refine hds inv (sc1 (.refl _)) ?_
   refine HdJ.done (by kernel_rfl) ?_
   exact At.meetN (r79h, x38, p46, (rs6.set y13.toNat (LR.mk x34 r91h))) fl ⟨rfl, rfl, rfl, rfl, rfl, rfl, rfl, rfl, rfl, trivial⟩ rfl ⟨h59, (r79q.mono hF15 (.refl _)), hm94, (All.monoLR ha95 fl (.refl _))⟩
  rintro F96 ⟨s51, l52, l54, rs55⟩ hF97 ⟨hy, f53, fm56, fa57⟩
  subst hy
  try dsimp only at H
  refine Lst.as (e' := [(0, Sl.v s_a0), (1, iv a1), (2, iv a2), (3, .func (.func 71) #[] #[]), (9, iv y13), (10, iv y4), (48, Sl.v s_a0), (50, iv (w64 (y13 - (1 : Int)))), (59, Sl.v s51)]) (L' := (.own s_a0 34 1 (encs rs55)) :: L) ⟨rfl, rfl, rfl, rfl, rfl, rfl, rfl, rfl, rfl, trivial⟩ rfl ?_
  obtain ⟨x98, h99, H⟩ := bind_some H
  have g100 := lat_some h99
  obtain ⟨⟨r101v, r101h⟩, r101g, r101e, r101m⟩ := map_get fm56 g100.2.2
  obtain rfl : x98 = r101v := r101e.symm
  have r101q : Rd w0 _ _ r101h x98 := fa57 _ r101m
  refine Lst.r (Ev.indexS (α := LR Int) (xs := rs55) rfl rfl Try.runUnderlying56 Try.sizeOf34 rfl (by decide) (rdo 0 rfl rfl rfl) g100.1 (by have := map_len fm56; omega)) ?_
  obtain ⟨p102, h103, H⟩ := Let_some H
  have hm104 : (rs55.set (w64 (y13 - (1 : Int))).toNat (LR.mk l52 s51)).map LR.v = p102 := (map_set fm56 _ _).trans h103
  have ha105 : All LR.rel w0 F96 M (rs55.set (w64 (y13 - (1 : Int))).toNat (LR.mk l52 s51)) := All.set (All.monoLR fa57 fl (.refl _)) ((f53.mono fl (.refl _)))
  refine Lst.storeS (i := 0) rfl rfl rfl rfl rfl Try.sizeOf34 (vs := [Sl.v s51]) rfl rfl (by decide) rfl (xs' := encs (rs55.set (w64 (y13 - (1 : Int))).toNat (LR.mk l52 s51))) ((Put.elemN (s := 1) (y := (LR.mk l52 s51)) rfl r101g (Put.here (vs := [Sl.v s51]) rfl)).off (by omega)) (L' := (.own s_a0 34 1 (encs (rs55.set (w64 (y13 - (1 : Int))).toNat (LR.mk l52 s51)))) :: L) rfl ?_
  refine nt0 ?_
  obtain ⟨o110, H, HKo110⟩ := bind_some H
  refine Cd.join (σ := (List (List Int)) × (List (LR Int))) (fun (l106, rs107) => [(0, Sl.v s_a0), (1, iv a1), (2, iv a2), (3, .func (.func 71) #[] #[]), (9, iv y13), (10, iv y4)]) (fun (l106, rs107) => (.own s_a0 34 1 (encs rs107)) :: L) (fun Fx (l106, rs107) => l106 = o110 ∧ rs107.map LR.v = l106 ∧ All LR.rel w0 Fx M rs107) ?_ ?_
  ·refine sr0 ?_
   refine mv0 rfl ?_
   refine mv0 rfl ?_
   refine Lst.r (Ev.sub rfl rfl) ?_
   refine Lst.r (Ev.geq rfl rfl) ?_
   refine nt0 ?_
   rcases (Bool.eq_false_or_eq_true (decide ((w64 (y13 - a1)) ≥ (2 : Int)))).symm with hb111 | hb111
   ·replace H := ite_f hb111 H
    refine Cd.condF rfl hb111 ?_
    refine Cd.skip ?_
    exact At.meet (p102, (rs55.set (w64 (y13 - (1 : Int))).toNat (LR.mk l52 s51))) fl ⟨rfl, rfl, rfl, rfl, rfl, rfl, trivial⟩ rfl ⟨some_inj H, hm104, (All.monoLR ha105 fl (.refl _))⟩
   replace H := ite_t hb111 H
   refine Cd.condT rfl hb111 ?_
   refine sr0 ?_
   refine mv0 rfl ?_
   refine Lst.r (Ev.sub rfl rfl) ?_
   refine Lst.r (Ev.assign rfl) ?_
   refine nt0 ?_
   refine Cd.block ?_
   obtain ⟨ol112, H, HKl112⟩ := andThen_some H
   refine Cd.loop (σ := Nat × Int × (List (List Int)) × (List (LR Int))) (fun (k112, y113, l114, rs115) => [(0, Sl.v s_a0), (1, iv a1), (2, iv a2), (3, .func (.func 71) #[] #[]), (9, iv y13), (10, iv y4), (11, iv y113)]) (fun (k112, y113, l114, rs115) => (.own s_a0 34 1 (encs rs115)) :: L) (fun Fx => (fun (k112, y113, l114, rs115) => whileM (slices_partialInsertionSortCmpFunc_int_Chains_1_B4) k112 (y113, l114) = some ol112 ∧ rs115.map LR.v = l114 ∧ All LR.rel w0 Fx M rs115)) (fun (k112, y113, l114, rs115) => k112) (fu, w64 (y13 - (1 : Int)), p102, (rs55.set (w64 (y13 - (1 : Int))).toNat (LR.mk l52 s51))) ⟨rfl, rfl, rfl, rfl, rfl, rfl, rfl, trivial⟩ rfl ⟨H, hm104, (All.monoLR ha105 fl (.refl _))⟩ ?_
   rintro F118 ⟨k112, y113, l114, rs115⟩ hF119 ⟨H, fm116, fa117⟩
   refine Cd.as (e' := [(0, Sl.v s_a0), (1, iv a1), (2, iv a2), (3, .func (.func 71) #[] #[]), (9, iv y13), (10, iv y4), (11, iv y113)]) (L' := (.own s_a0 34 1 (encs rs115)) :: L) ⟨rfl, rfl, rfl, rfl, rfl, rfl, rfl, trivial⟩ rfl ?_
   rcases k112 with _ | k112
   ·cases H
   obtain ⟨c112, H, hgo112, hbrk112, hret112⟩ := whileM_go H
   unfold slices_partialInsertionSortCmpFunc_int_Chains_1_B4 at H
   try dsimp only at H
   refine Cd.seq ?_
   refine sr0 ?_
   refine mv0 rfl ?_
   refine Lst.r (Ev.geq rfl rfl) ?_
   refine nt0 ?_
   rcases (Bool.eq_false_or_eq_true (decide (y113 ≥ (1 : Int)))).symm with hb120 | hb120
   ·replace H := ite_f hb120 H
    refine Cd.condF rfl hb120 ?_
    refine Cd.exit ?_
    refine At.then_exit ?_
    refine At.then_exit ?_
    refine At.in_exit ?_
    have H := hbrk112 _ (some_inj H).symm
    subst H
    replace H := HKl112
    try dsimp only [Sum.elim_inl] at H
    exact At.meet (l114, rs115) hF119 ⟨rfl, rfl, rfl, rfl, rfl, rfl, trivial⟩ rfl ⟨some_inj H, fm116, (All.monoLR fa117 fl (.refl _))⟩
   replace H := ite_t hb120 H
   refine Cd.condT rfl hb120 ?_
   refine Cd.skip ?_
   refine At.then ?_
   refine Cd.seq ?_
   refine Cd.block ?_
   refine Cd.seq ?_
   refine Cd.seq ?_
   refine Cd.quiet (by kernel_rfl) (by kernel_rfl) ?_
   refine Qt.r (Ev.move rfl) ?_
   refine Qt.r (Ev.move rfl) ?_
   refine Qt.r (Ev.move rfl) ?_
   obtain ⟨x121, h122, H⟩ := bind_some H
   have g123 := lat_some h122
   obtain ⟨⟨r124v, r124h⟩, r124g, r124e, r124m⟩ := map_get fm116 g123.2.2
   obtain rfl : x121 = r124v := r124e.symm
   have r124q : Rd w0 _ _ r124h x121 := fa117 _ r124m
   refine Qt.r (Ev.indexS (α := LR Int) (xs := rs115) rfl rfl Try.runUnderlying56 Try.sizeOf34 rfl (by decide) (rdo 0 rfl rfl rfl) g123.1 (by have := map_len fm116; omega)) ?_
   refine Qt.r (Ev.loadS (α := LR Int) rfl (rdo 0 rfl rfl rfl) Try.isAgg34 (v := Sl.v r124h) ((Get.elemN (s := 1) rfl r124g gh0).off (by omega))) ?_
   refine Qt.r (Ev.move rfl) ?_
   refine Qt.r (Ev.move rfl) ?_
   refine Qt.r (Ev.sub rfl rfl) ?_
   obtain ⟨x125, h126, H⟩ := bind_some H
   have g127 := lat_some h126
   obtain ⟨⟨r128v, r128h⟩, r128g, r128e, r128m⟩ := map_get fm116 g127.2.2
   obtain rfl : x125 = r128v := r128e.symm
   have r128q : Rd w0 _ _ r128h x125 := fa117 _ r128m
   refine Qt.r (Ev.indexS (α := LR Int) (xs := rs115) rfl rfl Try.runUnderlying56 Try.sizeOf34 rfl (by decide) (rdo 0 rfl rfl rfl) g127.1 (by have := map_len fm116; omega)) ?_
   refine Qt.r (Ev.loadS (α := LR Int) rfl (rdo 0 rfl rfl rfl) Try.isAgg34 (v := Sl.v r128h) ((Get.elemN (s := 1) rfl r128g gh0).off (by omega))) ?_
   obtain ⟨r129, h130, H⟩ := bind_some H
   refine Qt.callV rfl rfl (by decide) (vs := [Sl.v r124h, Sl.v r128h]) (cs := []) rfl ⟨rfl, rfl, trivial⟩ Try.call71 (poset_Chains_1_sim h130 w0 _ M _ (sc1 hM) (r124q.mono fl (.refl _)) (r128q.mono fl (.refl _))) ?_
   refine Qt.r (Ev.lss rfl rfl) ?_
   refine Qt.r (Ev.not rfl) ?_
   refine Qt.done ?_
   refine At.then ?_
   rcases Bool.eq_false_or_eq_true (!(decide (r129 < (0 : Int)))) with hb133 | hb133
   ·replace H := ite_t hb133 H
    refine Cd.condT rfl hb133 ?_
    refine Cd.exit ?_
    refine At.then_exit ?_
    refine At.in_other rfl ?_
    refine At.then_exit ?_
    refine At.then_exit ?_
    refine At.in_exit ?_
    have H := hbrk112 _ (some_inj H).symm
    subst H
    replace H := HKl112
    try dsimp only [Sum.elim_inl] at H
    exact At.meet (l114, rs115) hF119 ⟨rfl, rfl, rfl, rfl, rfl, rfl, trivial⟩ rfl ⟨some_inj H, fm116, (All.monoLR fa117 fl (.refl _))⟩
   replace H := ite_f hb133 H
   refine Cd.condF rfl hb133 ?_
   refine Cd.skip ?_
   refine At.then ?_
   refine Cd.as (e' := [(0, Sl.v s_a0), (1, iv a1), (2, iv a2), (3, .func (.func 71) #[] #[]), (9, iv y13), (10, iv y4), (11, iv y113)]) (L' := (.own s_a0 34 1 (encs rs115)) :: L) ⟨rfl, rfl, rfl, rfl, rfl, rfl, rfl, trivial⟩ rfl ?_
   obtain ⟨x134, h135, H⟩ := bind_some H
   obtain ⟨x138, h139, H⟩ := bind_some H
   obtain ⟨x142, h143, H⟩ := bind_some H
   obtain ⟨p146, h147, H⟩ := Let_some H
   obtain ⟨o158, h159, H⟩ := Let_some H
   refine Cd.headMeet (σ := Sl × (List Int) × (List (List Int)) × (List (LR Int))) 16 (fun (s151, l152, l154, rs155) => [(0, Sl.v s_a0), (1, iv a1), (2, iv a2), (3, .func (.func 71) #[] #[]), (9, iv y13), (10, iv y4), (11, iv y113), (87, Sl.v s_a0), (89, iv (w64 (y113 - (1 : Int)))), (98, Sl.v s151)]) (fun (s151, l152, l154, rs155) => (.own s_a0 34 1 (encs rs155)) :: L) (fun Fx (s151, l152, l154, rs155) => (l152, l154) = o158 ∧ Rd w0 Fx M s151 l152 ∧ rs155.map LR.v = l154 ∧ All LR.rel w0 Fx M rs155) (by kernel_rfl) (by kernel_rfl) (behind_sink (by kernel_rfl) (by kernel_rfl) (by kernel_rfl)) (by kernel_rfl) (fun hsel hlt => ?_) ?_
   ·refine HdJ.keep (fun w => St w0 F118 (L) w) (fun w h => trivial) ?_
    refine HdJ.ts hsel hlt 0 (sc1 (.refl _)) (Ev.move rfl) ?_
    refine HdJ.ts hsel hlt 1 (sc1 (.refl _)) (Ev.move rfl) ?_
    refine HdJ.ts hsel hlt 2 (sc1 (.refl _)) (Ev.move rfl) ?_
    refine HdJ.ts hsel hlt 3 (sc1 (.refl _)) (Ev.move rfl) ?_
    refine HdJ.ts hsel hlt 4 (sc1 (.refl _)) (Ev.sub rfl rfl) ?_
    refine HdJ.ts hsel hlt 5 (sc1 (.refl _)) (Ev.move rfl) ?_
    refine HdJ.ts hsel hlt 6 (sc1 (.refl _)) (Ev.move rfl) ?_
    refine HdJ.ts hsel hlt 7 (sc1 (.refl _)) (Ev.sub rfl rfl) ?_
    refine HdJ.ts hsel hlt 10 (sc1 (.refl _)) (Ev.move rfl) ?_
    refine HdJ.ts hsel hlt 11 (sc1 (.refl _)) (Ev.move rfl) ?_
    refine HdJ.step [8, 12] (by kernel_rfl) rfl ?_
    refine HdStep.c (fun inv => ?_) ?_
    ·have g160 := lat_some h135
     obtain ⟨⟨r161v, r161h⟩, r161g, r161e, r161m⟩ := map_get fm116 g160.2.2
     obtain rfl : x134 = r161v := r161e.symm
     have r161q : Rd w0 _ _ r161h x134 := fa117 _ r161m
     refine Lst.r (Ev.indexS (α := LR Int) (xs := rs115) rfl rfl Try.runUnderlying56 Try.sizeOf34 rfl (by decide) (rdo 0 rfl rfl rfl) g160.1 (by have := map_len fm116; omega)) ?_
     refine hds inv (sc1 (.refl _)) ?_
     refine HdJ.step [9, 12] (by kernel_rfl) rfl ?_
     refine HdStep.c (fun inv => ?_) ?_
     ·refine Lst.r (Ev.loadS (α := LR Int) rfl (rdo 0 rfl rfl rfl) Try.isAgg34 (v := Sl.v r161h) ((Get.elemN (s := 1) rfl r161g gh0).off (by omega))) ?_
      refine hds inv (sc1 (.refl _)) ?_
      refine HdJ.o1 12 (fun inv => ?_)
      have g162 := lat_some h139
      obtain ⟨⟨r163v, r163h⟩, r163g, r163e, r163m⟩ := map_get fm116 g162.2.2
      obtain rfl : x138 = r163v := r163e.symm
      have r163q : Rd w0 _ _ r163h x138 := fa117 _ r163m
      refine Lst.r (Ev.indexS (α := LR Int) (xs := rs115) rfl rfl Try.runUnderlying56 Try.sizeOf34 rfl (by decide) (rdo 0 rfl rfl rfl) g162.1 (by have := map_len fm116; omega)) ?_
      refine hds inv (sc1 (.refl _)) ?_
      refine HdJ.o1 13 (fun inv => ?_)
      refine Lst.r (Ev.loadS (α := LR Int) rfl (rdo 0 rfl rfl rfl) Try.isAgg34 (v := Sl.v r163h) ((Get.elemN (s := 1) rfl r163g gh0).off (by omega))) ?_
      refine hds inv (sc1 (.refl _)) ?_
      refine HdJ.o1 14 (fun inv => ?_)
      have g164 := lat_some h143
      obtain ⟨⟨r165v, r165h⟩, r165g, r165e, r165m⟩ := map_get fm116 g164.2.2
      obtain rfl : x142 = r165v := r165e.symm
      have r165q : Rd w0 _ _ r165h x142 := fa117 _ r165m
      refine Lst.r (Ev.indexS (α := LR Int) (xs := rs115) rfl rfl Try.runUnderlying56 Try.sizeOf34 rfl (by decide) (rdo 0 rfl rfl rfl) g164.1 (by have := map_len fm116; omega)) ?_
      refine hds inv (sc1 (.refl _)) ?_
      refine HdJ.o1 15 (fun inv => ?_)
      have hm166 : (rs115.set y113.toNat (LR.mk x134 r161h)).map LR.v = p146 := (map_set fm116 _ _).trans h147
      have ha167 : All LR.rel w0 F118 M (rs115.set y113.toNat (LR.mk x134 r161h)) := All.set (All.monoLR fa117 fl (.refl _)) ((r161q.mono fl (.refl _)))
      refine Lst.storeS (i := 0) rfl rfl rfl rfl rfl Try.sizeOf34 (vs := [Sl.v r161h]) rfl rfl (by decide) rfl (xs' := encs (rs115.set y113.toNat (LR.mk x134 r161h))) ((Put.elemN (s := 1) (y := (LR.mk x134 r161h)) rfl r165g (Put.here (vs := [Sl.v r161h]) rfl)).off (by omega)) (L' := (.own s_a0 34 1 (encs (rs115.set y113.toNat (LR.mk x134 r161h)))) :: L) rfl ?_
      refine hds inv (sc1 (.refl _)) ?_
      refine HdJ.done (by kernel_rfl) ?_
      exact At.meetN (r163h, x138, p146, (rs115.set y113.toNat (LR.mk x134 r161h))) fl ⟨rfl, rfl, rfl, rfl, rfl, rfl, rfl, rfl, rfl, rfl, trivial⟩ rfl ⟨h159, (r163q.mono fl (.refl _)), hm166, (All.monoLR ha167 fl (.refl _))⟩
     refine HdStep.c (fun inv => ?_) trivial
     have g168 := lat_some h139
     obtain ⟨⟨r169v, r169h⟩, r169g, r169e, r169m⟩ := map_get fm116 g168.2.2
     obtain rfl : x138 = r169v := r169e.symm
     have r169q : Rd w0 _ _ r169h x138 := fa117 _ r169m
     refine Lst.r (Ev.indexS (α := LR Int) (xs := rs115) rfl rfl Try.runUnderlying56 Try.sizeOf34 rfl (by decide) (rdo 0 rfl rfl rfl) g168.1 (by have := map_len fm116; omega)) ?_
     refine hds inv (sc1 (.refl _)) ?_
     refine HdJ.step [9, 13] (by kernel_rfl) rfl ?_
     refine HdStep.c (fun inv => ?_) ?_
     ·refine Lst.r (Ev.loadS (α := LR Int) rfl (rdo 0 rfl rfl rfl) Try.isAgg34 (v := Sl.v r161h) ((Get.elemN (s := 1) rfl r161g gh0).off (by omega))) ?_
      refine hds inv (sc1 (.refl _)) ?_
      refine HdJ.o1 13 (fun inv => ?_)
      refine Lst.r (Ev.loadS (α := LR Int) rfl (rdo 0 rfl rfl rfl) Try.isAgg34 (v := Sl.v r169h) ((Get.elemN (s := 1) rfl r169g gh0).off (by omega))) ?_
      refine hds inv (sc1 (.refl _)) ?_
      refine HdJ.o1 14 (fun inv => ?_)
      have g170 := lat_some h143
      obtain ⟨⟨r171v, r171h⟩, r171g, r171e, r171m⟩ := map_get fm116 g170.2.2
      obtain rfl : x142 = r171v := r171e.symm
      have r171q : Rd w0 _ _ r171h x142 := fa117 _ r171m
      refine Lst.r (Ev.indexS (α := LR Int) (xs := rs115) rfl rfl Try.runUnderlying56 Try.sizeOf34 rfl (by decide) (rdo 0 rfl rfl rfl) g170.1 (by have := map_len fm116; omega)) ?_
      refine hds inv (sc1 (.refl _)) ?_
      refine HdJ.o1 15 (fun inv => ?_)
      have hm172 : (rs115.set y113.toNat (LR.mk x134 r161h)).map LR.v = p146 := (map_set fm116 _ _).trans h147
      have ha173 : All LR.rel w0 F118 M (rs115.set y113.toNat (LR.mk x134 r161h)) := All.set (All.monoLR fa117 fl (.refl _)) ((r161q.mono fl (.refl _)))
      refine Lst.storeS (i := 0) rfl rfl rfl rfl rfl Try.sizeOf34 (vs := [Sl.v r161h]) rfl rfl (by decide) rfl (xs' := encs (rs115.set y113.toNat (LR.mk x134 r161h))) ((Put.elemN (s := 1) (y := (LR.mk x134 r161h)) rfl r171g (Put.here (vs := [Sl.v r161h]) rfl)).off (by omega)) (L' := (.own s_a0 34 1 (encs (rs115.set y113.toNat (LR.mk x134 r161h)))) :: L) rfl ?_
      refine hds inv (sc1 (.refl _)) ?_
      refine HdJ.done (by kernel_rfl) ?_
      exact At.meetN (r169h, x138, p146, (rs115.set y113.toNat (LR.mk x134 r161h))) fl ⟨rfl, rfl, rfl, rfl, rfl, rfl, rfl, rfl, rfl, rfl, trivial⟩ rfl ⟨h159, (r169q.mono fl (.refl _)), hm172, (All.monoLR ha173 fl (.refl _))⟩
     refine HdStep.c (fun inv => ?_) trivial
     refine Lst.r (Ev.loadS (α := LR Int) rfl (rdo 0 rfl rfl rfl) Try.isAgg34 (v := Sl.v r169h) ((Get.elemN (s := 1) rfl r169g gh0).off (by omega))) ?_
     refine hds inv (sc1 (.refl _)) ?_
     refine HdJ.o1 9 (fun inv => ?_)
     refine Lst.r (Ev.loadS (α := LR Int) rfl (rdo 0 rfl rfl rfl) Try.isAgg34 (v := Sl.v r161h) ((Get.elemN (s := 1) rfl r161g gh0).off (by omega))) ?_
     refine hds inv (sc1 (.refl _)) ?_
     refine HdJ.o1 14 (fun inv => ?_)
     have g174 := lat_some h143
     obtain ⟨⟨r175v, r175h⟩, r175g, r175e, r175m⟩ := map_get fm116 g174.2.2
     obtain rfl : x142 = r175v := r175e.symm
     have r175q : Rd w0 _ _ r175h x142 := fa117 _ r175m
     refine Lst.r (Ev.indexS (α := LR Int) (xs := rs115) rfl rfl Try.runUnderlying56 Try.sizeOf34 rfl (by decide) (rdo 0 rfl rfl rfl) g174.1 (by have := map_len fm116; omega)) ?_
     refine hds inv (sc1 (.refl _)) ?_
     refine HdJ.o1 15 (fun inv => ?_)
     have hm176 : (rs115.set y113.toNat (LR.mk x134 r161h)).map LR.v = p146 := (map_set fm116 _ _).trans h147
     have ha177 : All LR.rel w0 F118 M (rs115.set y113.toNat (LR.mk x134 r161h)) := All.set (All.monoLR fa117 fl (.refl _)) ((r161q.mono fl (.refl _)))
     refine Lst.storeS (i := 0) rfl rfl rfl rfl rfl Try.sizeOf34 (vs := [Sl.v r161h]) rfl rfl (by decide) rfl (xs' := encs (rs115.set y113.toNat (LR.mk x134 r161h))) ((Put.elemN (s := 1) (y := (LR.mk x134 r161h)) rfl r175g (Put.here (vs := [Sl.v r161h]) rfl)).off (by omega)) (L' := (.own s_a0 34 1 (encs (rs115.set y113.toNat (LR.mk x134 r161h)))) :: L) rfl ?_
     refine hds inv (sc1 (.refl _)) ?_
     refine HdJ.done (by kernel_rfl) ?_
     exact At.meetN (r169h, x138, p146, (rs115.set y113.toNat (LR.mk x134 r161h))) fl ⟨rfl, rfl, rfl, rfl, rfl, rfl, rfl, rfl, rfl, rfl, trivial⟩ rfl ⟨h159, (r169q.mono fl (.refl _)), hm176, (All.monoLR ha177 fl (.refl _))⟩
    refine HdStep.c (fun inv => ?_) trivial
    have g178 := lat_some h139
    obtain ⟨⟨r179v, r179h⟩, r179g, r179e, r179m⟩ := map_get fm116 g178.2.2
    obtain rfl : x138 = r179v := r179e.symm
    have r179q : Rd w0 _ _ r179h x138 := fa117 _ r179m
    refine Lst.r (Ev.indexS (α := LR Int) (xs := rs115) rfl rfl Try.runUnderlying56 Try.sizeOf34 rfl (by decide) (rdo 0 rfl rfl rfl) g178.1 (by have := map_len fm116; omega)) ?_
    refine hds inv (sc1 (.refl _)) ?_
    refine HdJ.step [8, 13] (by kernel_rfl) rfl ?_
    refine HdStep.c (fun inv => ?_) ?_
    ·have g180 := lat_some h135
     obtain ⟨⟨r181v, r181h⟩, r181g, r181e, r181m⟩ := map_get fm116 g180.2.2
     obtain rfl : x134 = r181v := r181e.symm
     have r181q : Rd w0 _ _ r181h x134 := fa117 _ r181m
     refine Lst.r (Ev.indexS (α := LR Int) (xs := rs115) rfl rfl Try.runUnderlying56 Try.sizeOf34 rfl (by decide) (rdo 0 rfl rfl rfl) g180.1 (by have := map_len fm116; omega)) ?_
     refine hds inv (sc1 (.refl _)) ?_
     refine HdJ.step [9, 13] (by kernel_rfl) rfl ?_
     refine HdStep.c (fun inv => ?_) ?_
     ·refine Lst.r (Ev.loadS (α := LR Int) rfl (rdo 0 rfl rfl rfl) Try.isAgg34 (v := Sl.v r181h) ((Get.elemN (s := 1) rfl r181g gh0).off (by omega))) ?_
      refine hds inv (sc1 (.refl _)) ?_
      refine HdJ.o1 13 (fun inv => ?_)
      refine Lst.r (Ev.loadS (α := LR Int) rfl (rdo 0 rfl rfl rfl) Try.isAgg34 (v := Sl.v r179h) ((Get.elemN (s := 1) rfl r179g gh0).off (by omega))) ?_
      refine hds inv (sc1 (.refl _)) ?_
      refine HdJ.o1 14 (fun inv => ?_)
      have g182 := lat_some h143
      obtain ⟨⟨r183v, r183h⟩, r183g, r183e, r183m⟩ := map_get fm116 g182.2.2
      obtain rfl : x142 = r183v := r183e.symm
      have r183q : Rd w0 _ _ r183h x142 := fa117 _ r183m
      refine Lst.r (Ev.indexS (α := LR Int) (xs := rs115) rfl rfl Try.runUnderlying56 Try.sizeOf34 rfl (by decide) (rdo 0 rfl rfl rfl) g182.1 (by have := map_len fm116; omega)) ?_
      refine hds inv (sc1 (.refl _)) ?_
      refine HdJ.o1 15 (fun inv => ?_)
      have hm184 : (rs115.set y113.toNat (LR.mk x134 r181h)).map LR.v = p146 := (map_set fm116 _ _).trans h147
      have ha185 : All LR.rel w0 F118 M (rs115.set y113.toNat (LR.mk x134 r181h)) := All.set (All.monoLR fa117 fl (.refl _)) ((r181q.mono fl (.refl _)))
      refine Lst.storeS (i := 0) rfl rfl rfl rfl rfl Try.sizeOf34 (vs := [Sl.v r181h]) rfl rfl (by decide) rfl (xs' := encs (rs115.set y113.toNat (LR.mk x134 r181h))) ((Put.elemN (s := 1) (y := (LR.mk x134 r181h)) rfl r183g (Put.here (vs := [Sl.v r181h]) rfl)).off (by omega)) (L' := (.own s_a0 34 1 (encs (rs115.set y113.toNat (LR.mk x134 r181h)))) :: L) rfl ?_
      refine hds inv (sc1 (.refl _)) ?_
      refine HdJ.done (by kernel_rfl) ?_
      exact At.meetN (r179h, x138, p146, (rs115.set y113.toNat (LR.mk x134 r181h))) fl ⟨rfl, rfl, rfl, rfl, rfl, rfl, rfl, rfl, rfl, rfl, trivial⟩ rfl ⟨h159, (r179q.mono fl (.refl _)), hm184, (All.monoLR ha185 fl (.refl _))⟩
     refine HdStep.c (fun inv => ?_) trivial
     refine Lst.r (Ev.loadS (α := LR Int) rfl (rdo 0 rfl rfl rfl) Try.isAgg34 (v := Sl.v r179h) ((Get.elemN (s := 1) rfl r179g gh0).off (by omega))) ?_
     refine hds inv (sc1 (.refl _)) ?_
     refine HdJ.o1 9 (fun inv => ?_)
     refine Lst.r (Ev.loadS (α := LR Int) rfl (rdo 0 rfl rfl rfl) Try.isAgg34 (v := Sl.v r181h) ((Get.elemN (s := 1) rfl r181g gh0).off (by omega))) ?_
     refine hds inv (sc1 (.refl _)) ?_
     refine HdJ.o1 14 (fun inv => ?_)
     have g186 := lat_some h143
     obtain ⟨⟨r187v, r187h⟩, r187g, r187e, r187m⟩ := map_get fm116 g186.2.2
     obtain rfl : x142 = r187v := r187e.symm
     have r187q : Rd w0 _ _ r187h x142 := fa117 _ r187m
     refine Lst.r (Ev.indexS (α := LR Int) (xs := rs115) rfl rfl Try.runUnderlying56 Try.sizeOf34 rfl (by decide) (rdo 0 rfl rfl rfl) g186.1 (by have := map_len fm116; omega)) ?_
     refine hds inv (sc1 (.refl _)) ?_
     refine HdJ.o1 15 (fun inv => ?_)
     have hm188 : (rs115.set y113.toNat (LR.mk x134 r181h)).map LR.v = p146 := (map_set fm116 _ _).trans h147
     have ha189 : All LR.rel w0 F118 M (rs115.set y113.toNat (LR.mk x134 r181h)) := All.set (All.monoLR fa117 fl (.refl _)) ((r181q.mono fl (.refl _)))
     refine Lst.storeS (i := 0) rfl rfl rfl rfl rfl Try.sizeOf34 (vs := [Sl.v r181h]) rfl rfl (by decide) rfl (xs' := encs (rs115.set y113.toNat (LR.mk x134 r181h))) ((Put.elemN (s := 1) (y := (LR.mk x134 r181h)) rfl r187g (Put.here (vs := [Sl.v r181h]) rfl)).off (by omega)) (L' := (.own s_a0 34 1 (encs (rs115.set y113.toNat (LR.mk x134 r181h)))) :: L) rfl ?_
     refine hds inv (sc1 (.refl _)) ?_
     refine HdJ.done (by kernel_rfl) ?_
     exact At.meetN (r179h, x138, p146, (rs115.set y113.toNat (LR.mk x134 r181h))) fl ⟨rfl, rfl, rfl, rfl, rfl, rfl, rfl, rfl, rfl, rfl, trivial⟩ rfl ⟨h159, (r179q.mono fl (.refl _)), hm188, (All.monoLR ha189 fl (.refl _))⟩
    refine HdStep.c (fun inv => ?_) trivial
    refine Lst.r (Ev.loadS (α := LR Int) rfl (rdo 0 rfl rfl rfl) Try.isAgg34 (v := Sl.v r179h) ((Get.elemN (s := 1) rfl r179g gh0).off (by omega))) ?_
    refine hds inv (sc1 (.refl _)) ?_
    refine HdJ.o1 8 (fun inv => ?_)
    have g190 := lat_some h135
    obtain ⟨⟨r191v, r191h⟩, r191g, r191e, r191m⟩ := map_get fm116 g190.2.2
    obtain rfl : x134 = r191v := r191e.symm
    have r191q : Rd w0 _ _ r191h x134 := fa117 _ r191m
    refine Lst.r (Ev.indexS (α := LR Int) (xs := rs115) rfl rfl Try.runUnderlying56 Try.sizeOf34 rfl (by decide) (rdo 0 rfl rfl rfl) g190.1 (by have := map_len fm116; omega)) ?_
    refine hds inv (sc1 (.refl _)) ?_
    refine HdJ.o1 9 (fun inv => ?_)
    refine Lst.r (Ev.loadS (α := LR Int) rfl (rdo 0 rfl rfl rfl) Try.isAgg34 (v := Sl.v r191h) ((Get.elemN (s := 1) rfl r191g gh0).off (by omega))) ?_
    refine hds inv (sc1 (.refl _)) ?_
    refine HdJ.o1 14 (fun inv => ?_)
    have g192 := lat_some h143
    obtain ⟨⟨r193v, r193h⟩, r193g, r193e, r193m⟩ := map_get fm116 g192.2.2
    obtain rfl : x142 = r193v := r193e.symm
    have r193q : Rd w0 _ _ r193h x142 := fa117 _ r193m
    refine Lst.r (Ev.indexS (α := LR Int) (xs := rs115) rfl rfl Try.runUnderlying56 Try.sizeOf34 rfl (by decide) (rdo 0 rfl rfl rfl) g192.1 (by have := map_len fm116; omega)) ?_
    refine hds inv (sc1 (.refl _)) ?_
    refine HdJ.o1 15 (fun inv => ?_)
    have hm194 : (rs115.set y113.toNat (LR.mk x134 r191h)).map LR.v = p146 := (map_set fm116 _ _).trans h147
    have ha195 : All LR.rel w0 F118 M (rs115.set y113.toNat (LR.mk x134 r191h)) := All.set (All.monoLR fa117 fl (.refl _)) ((r191q.mono fl (.refl _)))
    refine Lst.storeS (i := 0) rfl rfl rfl rfl rfl Try.sizeOf34 (vs := [Sl.v r191h]) rfl rfl (by decide) rfl (xs' := encs (rs115.set y113.toNat (LR.mk x134 r191h))) ((Put.elemN (s := 1) (y := (LR.mk x134 r191h)) rfl r193g (Put.here (vs := [Sl.v r191h]) rfl)).off (by omega)) (L' := (.own s_a0 34 1 (encs (rs115.set y113.toNat (LR.mk x134 r191h)))) :: L) rfl ?_
    refine hds inv (sc1 (.refl _)) ?_
    refine HdJ.done (by kernel_rfl) ?_
    exact At.meetN (r179h, x138, p146, (rs115.set y113.toNat (LR.mk x134 r191h))) fl ⟨rfl, rfl, rfl, rfl, rfl, rfl, rfl, rfl, rfl, rfl, trivial⟩ rfl ⟨h159, (r179q.mono fl (.refl _)), hm194, (All.monoLR ha195 fl (.refl _))⟩
   rintro F196 ⟨s151, l152, l154, rs155⟩ hF197 ⟨hy, f153, fm156, fa157⟩
   subst hy
   try dsimp only at H
   refine Lst.as (e' := [(0, Sl.v s_a0), (1, iv a1), (2, iv a2), (3, .func (.func 71) #[] #[]), (9, iv y13), (10, iv y4), (11, iv y113), (87, Sl.v s_a0), (89, iv (w64 (y113 - (1 : Int)))), (98, Sl.v s151)]) (L' := (.own s_a0 34 1 (encs rs155)) :: L) ⟨rfl, rfl, rfl, rfl, rfl, rfl, rfl, rfl, rfl, rfl, trivial⟩ rfl ?_
   obtain ⟨x198, h199, H⟩ := bind_some H
   have g200 := lat_some h199
   obtain ⟨⟨r201v, r201h⟩, r201g, r201e, r201m⟩ := map_get fm156 g200.2.2
   obtain rfl : x198 = r201v := r201e.symm
   have r201q : Rd w0 _ _ r201h x198 := fa157 _ r201m
   refine Lst.r (Ev.indexS (α := LR Int) (xs := rs155) rfl rfl Try.runUnderlying56 Try.sizeOf34 rfl (by decide) (rdo 0 rfl rfl rfl) g200.1 (by have := map_len fm156; omega)) ?_
   obtain ⟨p202, h203, H⟩ := Let_some H
   have hm204 : (rs155.set (w64 (y113 - (1 : Int))).toNat (LR.mk l152 s151)).map LR.v = p202 := (map_set fm156 _ _).trans h203
   have ha205 : All LR.rel w0 F196 M (rs155.set (w64 (y113 - (1 : Int))).toNat (LR.mk l152 s151)) := All.set (All.monoLR fa157 fl (.refl _)) ((f153.mono fl (.refl _)))
   refine Lst.storeS (i := 0) rfl rfl rfl rfl rfl Try.sizeOf34 (vs := [Sl.v s151]) rfl rfl (by decide) rfl (xs' := encs (rs155.set (w64 (y113 - (1 : Int))).toNat (LR.mk l152 s151))) ((Put.elemN (s := 1) (y := (LR.mk l152 s151)) rfl r201g (Put.here (vs := [Sl.v s151]) rfl)).off (by omega)) (L' := (.own s_a0 34 1 (encs (rs155.set (w64 (y113 - (1 : Int))).toNat (LR.mk l152 s151)))) :: L) rfl ?_
   refine Lst.nil ?_
   refine At.in_normal ?_
   refine At.then ?_
   refine Cd.region ?_
   refine mv0 rfl ?_
   refine Lst.r (Ev.sub rfl rfl) ?_
   refine Lst.r (Ev.assign rfl) ?_
   refine Lst.nil ?_
   exact At.meet (k112, w64 (y113 - (1 : Int)), p202, (rs155.set (w64 (y113 - (1 : Int))).toNat (LR.mk l152 s151))) (FLe.trans hF119 hF197) ⟨rfl, rfl, rfl, rfl, rfl, rfl, rfl, trivial⟩ rfl ⟨⟨hgo112 _ (some_inj H).symm, hm204, (All.monoLR ha205 fl (.refl _))⟩, Nat.lt_succ_self _⟩
  rintro F206 ⟨l106, rs107⟩ hF207 ⟨hy, fm108, fa109⟩
  subst hy
  refine Cd.as (e' := [(0, Sl.v s_a0), (1, iv a1), (2, iv a2), (3, .func (.func 71) #[] #[]), (9, iv y13), (10, iv y4)]) (L' := (.own s_a0 34 1 (encs rs107)) :: L) ⟨rfl, rfl, rfl, rfl, rfl, rfl, trivial⟩ rfl ?_
  replace H := HKo110
  refine sr0 ?_
  refine mv0 rfl ?_
  refine mv0 rfl ?_
  refine Lst.r (Ev.sub rfl rfl) ?_
  refine Lst.r (Ev.geq rfl rfl) ?_
  refine nt0 ?_
  rcases (Bool.eq_false_or_eq_true (decide ((w64 (a2 - y13)) ≥ (2 : Int)))).symm with hb208 | hb208
  ·replace H := ite_f hb208 H
   refine Cd.condF rfl hb208 ?_
   refine Cd.skip ?_
   refine At.in_normal ?_
   refine At.then ?_
   refine Cd.region ?_
   refine mv0 rfl ?_
   refine Lst.r (Ev.add rfl rfl) ?_
   refine Lst.r (Ev.assign rfl) ?_
   refine Lst.nil ?_
   exact At.meet (k2, y13, w64 (y4 + (1 : Int)), l106, rs107) (FLe.trans (FLe.trans (FLe.trans hF10 hF15) hF97) hF207) ⟨rfl, rfl, rfl, rfl, rfl, rfl, trivial⟩ rfl ⟨⟨hgo2 _ (some_inj H).symm, fm108, (All.monoLR fa109 fl (.refl _))⟩, Nat.lt_succ_self _⟩
  replace H := ite_t hb208 H
  refine Cd.condT rfl hb208 ?_
  refine sr0 ?_
  refine mv0 rfl ?_
  refine Lst.r (Ev.add rfl rfl) ?_
  refine Lst.r (Ev.assign rfl) ?_
  refine nt0 ?_
  refine Cd.block ?_
  obtain ⟨ol209, H, HKl209⟩ := andThen_some H
  refine Cd.loop (σ := Nat × Int × (List (List Int)) × (List (LR Int))) (fun (k209, y210, l211, rs212) => [(0, Sl.v s_a0), (1, iv a1), (2, iv a2), (3, .func (.func 71) #[] #[]), (9, iv y13), (10, iv y4), (12, iv y210)]) (fun (k209, y210, l211, rs212) => (.own s_a0 34 1 (encs rs212)) :: L) (fun Fx => (fun (k209, y210, l211, rs212) => whileM (slices_partialInsertionSortCmpFunc_int_Chains_1_B6 a2) k209 (y210, l211) = some ol209 ∧ rs212.map LR.v = l211 ∧ All LR.rel w0 Fx M rs212)) (fun (k209, y210, l211, rs212) => k209) (fu, w64 (y13 + (1 : Int)), l106, rs107) ⟨rfl, rfl, rfl, rfl, rfl, rfl, rfl, trivial⟩ rfl ⟨H, fm108, (All.monoLR fa109 fl (.refl _))⟩ ?_
  rintro F215 ⟨k209, y210, l211, rs212⟩ hF216 ⟨H, fm213, fa214⟩
  refine Cd.as (e' := [(0, Sl.v s_a0), (1, iv a1), (2, iv a2), (3, .func (.func 71) #[] #[]), (9, iv y13), (10, iv y4), (12, iv y210)]) (L' := (.own s_a0 34 1 (encs rs212)) :: L) ⟨rfl, rfl, rfl, rfl, rfl, rfl, rfl, trivial⟩ rfl ?_
  rcases k209 with _ | k209
  ·cases H
  obtain ⟨c209, H, hgo209, hbrk209, hret209⟩ := whileM_go H
  unfold slices_partialInsertionSortCmpFunc_int_Chains_1_B6 at H
  try dsimp only at H
  refine Cd.seq ?_
  refine sr0 ?_
  refine mv0 rfl ?_
  refine mv0 rfl ?_
  refine Lst.r (Ev.lss rfl rfl) ?_
  refine nt0 ?_
  rcases (Bool.eq_false_or_eq_true (decide (y210 < a2))).symm with hb217 | hb217
  ·replace H := ite_f hb217 H
   refine Cd.condF rfl hb217 ?_
   refine Cd.exit ?_
   refine At.then_exit ?_
   refine At.then_exit ?_
   refine At.in_exit ?_
   have H := hbrk209 _ (some_inj H).symm
   subst H
   replace H := HKl209
   try dsimp only [Sum.elim_inl] at H
   refine At.in_normal ?_
   refine At.then ?_
   refine Cd.region ?_
   refine mv0 rfl ?_
   refine Lst.r (Ev.add rfl rfl) ?_
   refine Lst.r (Ev.assign rfl) ?_
   refine Lst.nil ?_
   exact At.meet (k2, y13, w64 (y4 + (1 : Int)), l211, rs212) (FLe.trans (FLe.trans (FLe.trans (FLe.trans hF10 hF15) hF97) hF207) hF216) ⟨rfl, rfl, rfl, rfl, rfl, rfl, trivial⟩ rfl ⟨⟨hgo2 _ (some_inj H).symm, fm213, (All.monoLR fa214 fl (.refl _))⟩, Nat.lt_succ_self _⟩
  replace H := ite_t hb217 H
  refine Cd.condT rfl hb217 ?_
  refine Cd.skip ?_
  refine At.then ?_
  refine Cd.seq ?_
  refine Cd.block ?_
  refine Cd.seq ?_
  refine Cd.seq ?_
  refine Cd.quiet (by kernel_rfl) (by kernel_rfl) ?_
  refine Qt.r (Ev.move rfl) ?_
  refine Qt.r (Ev.move rfl) ?_
  refine Qt.r (Ev.move rfl) ?_
  obtain ⟨x218, h219, H⟩ := bind_some H
  have g220 := lat_some h219
  obtain ⟨⟨r221v, r221h⟩, r221g, r221e, r221m⟩ := map_get fm213 g220.2.2
  obtain rfl : x218 = r221v := r221e.symm
  have r221q : Rd w0 _ _ r221h x218 := fa214 _ r221m
  refine Qt.r (Ev.indexS (α := LR Int) (xs := rs212) rfl rfl Try.runUnderlying56 Try.sizeOf34 rfl (by decide) (rdo 0 rfl rfl rfl) g220.1 (by have := map_len fm213; omega)) ?_
  refine Qt.r (Ev.loadS (α := LR Int) rfl (rdo 0 rfl rfl rfl) Try.isAgg34 (v := Sl.v r221h) ((Get.elemN (s := 1) rfl r221g gh0).off (by omega))) ?_
  refine Qt.r (Ev.move rfl) ?_
  refine Qt.r (Ev.move rfl) ?_
  refine Qt.r (Ev.sub rfl rfl) ?_
  obtain ⟨x222, h223, H⟩ := bind_some H
  have g224 := lat_some h223
  obtain ⟨⟨r225v, r225h⟩, r225g, r225e, r225m⟩ := map_get fm213 g224.2.2
  obtain rfl : x222 = r225v := r225e.symm
  have r225q : Rd w0 _ _ r225h x222 := fa214 _ r225m
  refine Qt.r (Ev.indexS (α := LR Int) (xs := rs212) rfl rfl Try.runUnderlying56 Try.sizeOf34 rfl (by decide) (rdo 0 rfl rfl rfl) g224.1 (by have := map_len fm213; omega)) ?_
  refine Qt.r (Ev.loadS (α := LR Int) rfl (rdo 0 rfl rfl rfl) Try.isAgg34 (v := Sl.v r225h) ((Get.elemN (s := 1) rfl r225g gh0).off (by omega))) ?_
  obtain ⟨r226, h227, H⟩ := bind_some H
  refine Qt.callV rfl rfl (by decide) (vs := [Sl.v r221h, Sl.v r225h]) (cs := []) rfl ⟨rfl, rfl, trivial⟩ Try.call71 (poset_Chains_1_sim h227 w0 _ M _ (sc1 hM) (r221q.mono fl (.refl _)) (r225q.mono fl (.refl _))) ?_
  refine Qt.r (Ev.lss rfl rfl) ?_
  refine Qt.r (Ev.not rfl) ?_
  refine Qt.done ?_
  refine At.then ?_
  rcases Bool.eq_false_or_eq_true (!(decide (r226 < (0 : Int)))) with hb230 | hb230
  ·replace H := ite_t hb230 H
   refine Cd.condT rfl hb230 ?_
   refine Cd.exit ?_
   refine At.then_exit ?_
   refine At.in_other rfl ?_
   refine At.then_exit ?_
   refine At.then_exit ?_
   refine At.in_exit ?_
   have H := hbrk209 _ (some_inj H).symm
   subst H
   replace H := HKl209
   try dsimp only [Sum.elim_inl] at H
   refine At.in_normal ?_
   refine At.then ?_
   refine Cd.as (e' := [(0, Sl.v s_a0), (1, iv a1), (2, iv a2), (3, .func (.func 71) #[] #[]), (9, iv y13), (10, iv y4)]) (L' := (.own s_a0 34 1 (encs rs212)) :: L) ⟨rfl, rfl, rfl, rfl, rfl, rfl, trivial⟩ rfl ?_
   refine Cd.region ?_
   refine mv0 rfl ?_
   refine Lst.r (Ev.add rfl rfl) ?_
   refine Lst.r (Ev.assign rfl) ?_
   refine Lst.nil ?_
   exact At.meet (k2, y13, w64 (y4 + (1 : Int)), l211, rs212) (FLe.trans (FLe.trans (FLe.trans (FLe.trans hF10 hF15) hF97) hF207) hF216) ⟨rfl, rfl, rfl, rfl, rfl, rfl, trivial⟩ rfl ⟨⟨hgo2 _ (some_inj H).symm, fm213, (All.monoLR fa214 fl (.refl _))⟩, Nat.lt_succ_self _⟩
  replace H := ite_f hb230 H
  refine Cd.condF rfl hb230 ?_
  refine Cd.skip ?_
  refine At.then ?_
  refine Cd.as (e' := [(0, Sl.v s_a0), (1, iv a1), (2, iv a2), (3, .func (.func 71) #[] #[]), (9, iv y13), (10, iv y4), (12, iv y210)]) (L' := (.own s_a0 34 1 (encs rs212)) :: L) ⟨rfl, rfl, rfl, rfl, rfl, rfl, rfl, trivial⟩ rfl ?_
  obtain ⟨x231, h232, H⟩ := bind_some H
  obtain ⟨x235, h236, H⟩ := bind_some H
  obtain ⟨x239, h240, H⟩ := bind_some H
  obtain ⟨p243, h244, H⟩ := Let_some H
  obtain ⟨o255, h256, H⟩ := Let_some H
  refine Cd.headMeet (σ := Sl × (List Int) × (List (List Int)) × (List (LR Int))) 16 (fun (s248, l249, l251, rs252) => [(0, Sl.v s_a0), (1, iv a1), (2, iv a2), (3, .func (.func 71) #[] #[]), (9, iv y13), (10, iv y4), (12, iv y210), (127, Sl.v s_a0), (129, iv (w64 (y210 - (1 : Int)))), (138, Sl.v s248)]) (fun (s248, l249, l251, rs252) => (.own s_a0 34 1 (encs rs252)) :: L) (fun Fx (s248, l249, l251, rs252) => (l249, l251) = o255 ∧ Rd w0 Fx M s248 l249 ∧ rs252.map LR.v = l251 ∧ All LR.rel w0 Fx M rs252) (by kernel_rfl) (by kernel_rfl) (behind_sink (by kernel_rfl) (by kernel_rfl) (by kernel_rfl)) (by kernel_rfl) (fun hsel hlt => ?_) ?_
  ·refine HdJ.keep (fun w => St w0 F215 (L) w) (fun w h => trivial) ?_
   refine HdJ.ts hsel hlt 0 (sc1 (.refl _)) (Ev.move rfl) ?_
   refine HdJ.ts hsel hlt 1 (sc1 (.refl _)) (Ev.move rfl) ?_
   refine HdJ.ts hsel hlt 2 (sc1 (.refl _)) (Ev.move rfl) ?_
   refine HdJ.ts hsel hlt 3 (sc1 (.refl _)) (Ev.move rfl) ?_
   refine HdJ.ts hsel hlt 4 (sc1 (.refl _)) (Ev.sub rfl rfl) ?_
   refine HdJ.ts hsel hlt 5 (sc1 (.refl _)) (Ev.move rfl) ?_
   refine HdJ.ts hsel hlt 6 (sc1 (.refl _)) (Ev.move rfl) ?_
   refine HdJ.ts hsel hlt 7 (sc1 (.refl _)) (Ev.sub rfl rfl) ?_
   refine HdJ.ts hsel hlt 10 (sc1 (.refl _)) (Ev.move rfl) ?_
   refine HdJ.ts hsel hlt 11 (sc1 (.refl _)) (Ev.move rfl) ?_
   refine HdJ.step [8, 12] (by kernel_rfl) rfl ?_
   refine HdStep.c (fun inv => ?_) ?_
   ·have g257 := lat_some h232
    obtain ⟨⟨r258v, r258h⟩, r258g, r258e, r258m⟩ := map_get fm213 g257.2.2
    obtain rfl : x231 = r258v := r258e.symm
    have r258q : Rd w0 _ _ r258h x231 := fa214 _ r258m
    refine Lst.r (Ev.indexS (α := LR Int) (xs := rs212) rfl rfl Try.runUnderlying56 Try.sizeOf34 rfl (by decide) (rdo 0 rfl rfl rfl) g257.1 (by have := map_len fm213; omega)) ?_
    refine hds inv (sc1 (.refl _)) ?_
    refine HdJ.step [9, 12] (by kernel_rfl) rfl ?_
    refine HdStep.c (fun inv => ?_) ?_
    ·refine Lst.r (Ev.loadS (α := LR Int) rfl (rdo 0 rfl rfl rfl) Try.isAgg34 (v := Sl.v r258h) ((Get.elemN (s := 1) rfl r258g gh0).off (by omega))) ?_
     refine hds inv (sc1 (.refl _)) ?_
     refine HdJ.o1 12 (fun inv => ?_)
     have g259 := lat_some h236
     obtain ⟨⟨r260v, r260h⟩, r260g, r260e, r260m⟩ := map_get fm213 g259.2.2
     obtain rfl : x235 = r260v := r260e.symm
     have r260q : Rd w0 _ _ r260h x235 := fa214 _ r260m
     refine Lst.r (Ev.indexS (α := LR Int) (xs := rs212) rfl rfl Try.runUnderlying56 Try.sizeOf34 rfl (by decide) (rdo 0 rfl rfl rfl) g259.1 (by have := map_len fm213; omega)) ?_
     refine hds inv (sc1 (.refl _)) ?_
     refine HdJ.o1 13 (fun inv => ?_)
     refine Lst.r (Ev.loadS (α := LR Int) rfl (rdo 0 rfl rfl rfl) Try.isAgg34 (v := Sl.v r260h) ((Get.elemN (s := 1) rfl r260g gh0).off (by omega))) ?_
     refine hds inv (sc1 (.refl _)) ?_
     refine HdJ.o1 14 (fun inv => ?_)
     have g261 := lat_some h240
     obtain ⟨⟨r262v, r262h⟩, r262g, r262e, r262m⟩ := map_get fm213 g261.2.2
     obtain rfl : x239 = r262v := r262e.symm
     have r262q : Rd w0 _ _ r262h x239 := fa214 _ r262m
     refine Lst.r (Ev.indexS (α := LR Int) (xs := rs212) rfl rfl Try.runUnderlying56 Try.sizeOf34 rfl (by decide) (rdo 0 rfl rfl rfl) g261.1 (by have := map_len fm213; omega)) ?_
     refine hds inv (sc1 (.refl _)) ?_
     refine HdJ.o1 15 (fun inv => ?_)
     have hm263 : (rs212.set y210.toNat (LR.mk x231 r258h)).map LR.v = p243 := (map_set fm213 _ _).trans h244
     have ha264 : All LR.rel w0 F215 M (rs212.set y210.toNat (LR.mk x231 r258h)) := All.set (All.monoLR fa214 fl (.refl _)) ((r258q.mono fl (.refl _)))
     refine Lst.storeS (i := 0) rfl rfl rfl rfl rfl Try.sizeOf34 (vs := [Sl.v r258h]) rfl rfl (by decide) rfl (xs' := encs (rs212.set y210.toNat (LR.mk x231 r258h))) ((Put.elemN (s := 1) (y := (LR.mk x231 r258h)) rfl r262g (Put.here (vs := [Sl.v r258h]) rfl)).off (by omega)) (L' := (.own s_a0 34 1 (encs (rs212.set y210.toNat (LR.mk x231 r258h)))) :: L) rfl ?_
     refine hds inv (sc1 (.refl _)) ?_
     refine HdJ.done (by kernel_rfl) ?_
     exact At.meetN (r260h, x235, p243, (rs212.set y210.toNat (LR.mk x231 r258h))) fl ⟨rfl, rfl, rfl, rfl, rfl, rfl, rfl, rfl, rfl, rfl, trivial⟩ rfl ⟨h256, (r260q.mono fl (.refl _)), hm263, (All.monoLR ha264 fl (.refl _))⟩
    refine HdStep.c (fun inv => ?_) trivial
    have g265 := lat_some h236
    obtain ⟨⟨r266v, r266h⟩, r266g, r266e, r266m⟩ := map_get fm213 g265.2.2
    obtain rfl : x235 = r266v := r266e.symm
    have r266q : Rd w0 _ _ r266h x235 := fa214 _ r266m
    refine Lst.r (Ev.indexS (α := LR Int) (xs := rs212) rfl rfl Try.runUnderlying56 Try.sizeOf34 rfl (by decide) (rdo 0 rfl rfl rfl) g265.1 (by have := map_len fm213; omega)) ?_
    refine hds inv (sc1 (.refl _)) ?_
    refine HdJ.step [9, 13] (by kernel_rfl) rfl ?_
    refine HdStep.c (fun inv => ?_) ?_
    ·refine Lst.r (Ev.loadS (α := LR Int) rfl (rdo 0 rfl rfl rfl) Try.isAgg34 (v := Sl.v r258h) ((Get.elemN (s := 1) rfl r258g gh0).off (by omega))) ?_
     refine hds inv (sc1 (.refl _)) ?_
     refine HdJ.o1 13 (fun inv => ?_)
     refine Lst.r (Ev.loadS (α := LR Int) rfl (rdo 0 rfl rfl rfl) Try.isAgg34 (v := Sl.v r266h) ((Get.elemN (s := 1) rfl r266g gh0).off (by omega))) ?_
     refine hds inv (sc1 (.refl _)) ?_
     refine HdJ.o1 14 (fun inv => ?_)
     have g267 := lat_some h240
     obtain ⟨⟨r268v, r268h⟩, r268g, r268e, r268m⟩ := map_get fm213 g267.2.2
     obtain rfl : x239 = r268v := r268e.symm
     have r268q : Rd w0 _ _ r268h x239 := fa214 _ r268m
     refine Lst.r (Ev.indexS (α := LR Int) (xs := rs212) rfl rfl Try.runUnderlying56 Try.sizeOf34 rfl (by decide) (rdo 0 rfl rfl rfl) g267.1 (by have := map_len fm213; omega)) ?_
     refine hds inv (sc1 (.refl _)) ?_
     refine HdJ.o1 15 (fun inv => ?_)
     have hm269 : (rs212.set y210.toNat (LR.mk x231 r258h)).map LR.v = p243 := (map_set fm213 _ _).trans h244
     have ha270 : All LR.rel w0 F215 M (rs212.set y210.toNat (LR.mk x231 r258h)) := All.set (All.monoLR fa214 fl (.refl _)) ((r258q.mono fl (.refl _)))
     refine Lst.storeS (i := 0) rfl rfl rfl rfl rfl Try.sizeOf34 (vs := [Sl.v r258h]) rfl rfl (by decide) rfl (xs' := encs (rs212.set y210.toNat (LR.mk x231 r258h))) ((Put.elemN (s := 1) (y := (LR.mk x231 r258h)) rfl r268g (Put.here (vs := [Sl.v r258h]) rfl)).off (by omega)) (L' := (.own s_a0 34 1 (encs (rs212.set y210.toNat (LR.mk x231 r258h)))) :: L) rfl ?_
     refine hds inv (sc1 (.refl _)) ?_
     refine HdJ.done (by kernel_rfl) ?_
     exact At.meetN (r266h, x235, p243, (rs212.set y210.toNat (LR.mk x231 r258h))) fl ⟨rfl, rfl, rfl, rfl, rfl, rfl, rfl, rfl, rfl, rfl, trivial⟩ rfl ⟨h256, (r266q.mono fl (.refl _)), hm269, (All.monoLR ha270 fl (.refl _))⟩
    refine HdStep.c (fun inv => ?_) trivial
    refine Lst.r (Ev.loadS (α := LR Int) rfl (rdo 0 rfl rfl rfl) Try.isAgg34 (v := Sl.v r266h) ((Get.elemN (s := 1) rfl r266g gh0).off (by omega))) ?_
    refine hds inv (sc1 (.refl _)) ?_
    refine HdJ.o1 9 (fun inv => ?_)
    refine Lst.r (Ev.loadS (α := LR Int) rfl (rdo 0 rfl rfl rfl) Try.isAgg34 (v := Sl.v r258h) ((Get.elemN (s := 1) rfl r258g gh0).off (by omega))) ?_
    refine hds inv (sc1 (.refl _)) ?_
    refine HdJ.o1 14 (fun inv => ?_)
    have g271 := lat_some h240
    obtain ⟨⟨r272v, r272h⟩, r272g, r272e, r272m⟩ := map_get fm213 g271.2.2
    obtain rfl : x239 = r272v := r272e.symm
    have r272q : Rd w0 _ _ r272h x239 := fa214 _ r272m
    refine Lst.r (Ev.indexS (α := LR Int) (xs := rs212) rfl rfl Try.runUnderlying56 Try.sizeOf34 rfl (by decide) (rdo 0 rfl rfl rfl) g271.1 (by have := map_len fm213; omega)) ?_
    refine hds inv (sc1 (.refl _)) ?_
    refine HdJ.o1 15 (fun inv => ?_)
    have hm273 : (rs212.set y210.toNat (LR.mk x231 r258h)).map LR.v = p243 := (map_set fm213 _ _).trans h244
    have ha274 : All LR.rel w0 F215 M (rs212.set y210.toNat (LR.mk x231 r258h)) := All.set (All.monoLR fa214 fl (.refl _)) ((r258q.mono fl (.refl _)))
    refine Lst.storeS (i := 0) rfl rfl rfl rfl rfl Try.sizeOf34 (vs := [Sl.v r258h]) rfl rfl (by decide) rfl (xs' := encs (rs212.set y210.toNat (LR.mk x231 r258h))) ((Put.elemN (s := 1) (y := (LR.mk x231 r258h)) rfl r272g (Put.here (vs := [Sl.v r258h]) rfl)).off (by omega)) (L' := (.own s_a0 34 1 (encs (rs212.set y210.toNat (LR.mk x231 r258h)))) :: L) rfl ?_
    refine hds inv (sc1 (.refl _)) ?_
    refine HdJ.done (by kernel_rfl) ?_
    exact At.meetN (r266h, x235, p243, (rs212.set y210.toNat (LR.mk x231 r258h))) fl ⟨rfl, rfl, rfl, rfl, rfl, rfl, rfl, rfl, rfl, rfl, trivial⟩ rfl ⟨h256, (r266q.mono fl (.refl _)), hm273, (All.monoLR ha274 fl (.refl _))⟩
   refine HdStep.c (fun inv => ?_) trivial
   have g275 := lat_some h236
   obtain ⟨⟨r276v, r276h⟩, r276g, r276e, r276m⟩ := map_get fm213 g275.2.2
   obtain rfl : x235 = r276v := r276e.symm
   have r276q : Rd w0 _ _ r276h x235 := fa214 _ r276m
   refine Lst.r (Ev.indexS (α := LR Int) (xs := rs212) rfl rfl Try.runUnderlying56 Try.sizeOf34 rfl (by decide) (rdo 0 rfl rfl rfl) g275.1 (by have := map_len fm213; omega)) ?_
   refine hds inv (sc1 (.refl _)) ?_
   refine HdJ.step [8, 13] (by kernel_rfl) rfl ?_
   refine HdStep.c (fun inv => ?_) ?_
   ·have g277 := lat_some h232
    obtain ⟨⟨r278v, r278h⟩, r278g, r278e, r278m⟩ := map_get fm213 g277.2.2
    obtain rfl : x231 = r278v := r278e.symm
    have r278q : Rd w0 _ _ r278h x231 := fa214 _ r278m
    refine Lst.r (Ev.indexS (α := LR Int) (xs := rs212) rfl rfl Try.runUnderlying56 Try.sizeOf34 rfl (by decide) (rdo 0 rfl rfl rfl) g277.1 (by have := map_len fm213; omega)) ?_
    refine hds inv (sc1 (.refl _)) ?_
    refine HdJ.step [9, 13] (by kernel_rfl) rfl ?_
    refine HdStep.c (fun inv => ?_) ?_
    ·refine Lst.r (Ev.loadS (α := LR Int) rfl (rdo 0 rfl rfl rfl) Try.isAgg34 (v := Sl.v r278h) ((Get.elemN (s := 1) rfl r278g gh0).off (by omega))) ?_
     refine hds inv (sc1 (.refl _)) ?_
     refine HdJ.o1 13 (fun inv => ?_)
     refine Lst.r (Ev.loadS (α := LR Int) rfl (rdo 0 rfl rfl rfl) Try.isAgg34 (v := Sl.v r276h) ((Get.elemN (s := 1) rfl r276g gh0).off (by omega))) ?_
     refine hds inv (sc1 (.refl _)) ?_
     refine HdJ.o1 14 (fun inv => ?_)
     have g279 := lat_some h240
     obtain ⟨⟨r280v, r280h⟩, r280g, r280e, r280m⟩ := map_get fm213 g279.2.2
     obtain rfl : x239 = r280v := r280e.symm
     have r280q : Rd w0 _ _ r280h x239 := fa214 _ r280m
     refine Lst.r (Ev.indexS (α := LR Int) (xs := rs212) rfl rfl Try.runUnderlying56 Try.sizeOf34 rfl (by decide) (rdo 0 rfl rfl rfl) g279.1 (by have := map_len fm213; omega)) ?_
     refine hds inv (sc1 (.refl _)) ?_
     refine HdJ.o1 15 (fun inv => ?_)
     have hm281 : (rs212.set y210.toNat (LR.mk x231 r278h)).map LR.v = p243 := (map_set fm213 _ _).trans h244
     have ha282 : All LR.rel w0 F215 M (rs212.set y210.toNat (LR.mk x231 r278h)) := All.set (All.monoLR fa214 fl (.refl _)) ((r278q.mono fl (.refl _)))
     refine Lst.storeS (i := 0) rfl rfl rfl rfl rfl Try.sizeOf34 (vs := [Sl.v r278h]) rfl rfl (by decide) rfl (xs' := encs (rs212.set y210.toNat (LR.mk x231 r278h))) ((Put.elemN (s := 1) (y := (LR.mk x231 r278h)) rfl r280g (Put.here (vs := [Sl.v r278h]) rfl)).off (by omega)) (L' := (.own s_a0 34 1 (encs (rs212.set y210.toNat (LR.mk x231 r278h)))) :: L) rfl ?_
     refine hds inv (sc1 (.refl _)) ?_
     refine HdJ.done (by kernel_rfl) ?_
     exact At.meetN (r276h, x235, p243, (rs212.set y210.toNat (LR.mk x231 r278h))) fl ⟨rfl, rfl, rfl, rfl, rfl, rfl, rfl, rfl, rfl, rfl, trivial⟩ rfl ⟨h256, (r276q.mono fl (.refl _)), hm281, (All.monoLR ha282 fl (.refl _))⟩
    refine HdStep.c (fun inv => ?_) trivial
    refine Lst.r (Ev.loadS (α := LR Int) rfl (rdo 0 rfl rfl rfl) Try.isAgg34 (v := Sl.v r276h) ((Get.elemN (s := 1) rfl r276g gh0).off (by omega))) ?_
    refine hds inv (sc1 (.refl _)) ?_
    refine HdJ.o1 9 (fun inv => ?_)
    refine Lst.r (Ev.loadS (α := LR Int) rfl (rdo 0 rfl rfl rfl) Try.isAgg34 (v := Sl.v r278h) ((Get.elemN (s := 1) rfl r278g gh0).off (by omega))) ?_
    refine hds inv (sc1 (.refl _)) ?_
    refine HdJ.o1 14 (fun inv => ?_)
    have g283 := lat_some h240
    obtain ⟨⟨r284v, r284h⟩, r284g, r284e, r284m⟩ := map_get fm213 g283.2.2
    obtain rfl : x239 = r284v := r284e.symm
    have r284q : Rd w0 _ _ r284h x239 := fa214 _ r284m
    refine Lst.r (Ev.indexS (α := LR Int) (xs := rs212) rfl rfl Try.runUnderlying56 Try.sizeOf34 rfl (by decide) (rdo 0 rfl rfl rfl) g283.1 (by have := map_len fm213; omega)) ?_
    refine hds inv (sc1 (.refl _)) ?_
    refine HdJ.o1 15 (fun inv => ?_)
    have hm285 : (rs212.set y210.toNat (LR.mk x231 r278h)).map LR.v = p243 := (map_set fm213 _ _).trans h244
    have ha286 : All LR.rel w0 F215 M (rs212.set y210.toNat (LR.mk x231 r278h)) := All.set (All.monoLR fa214 fl (.refl _)) ((r278q.mono fl (.refl _)))
    refine Lst.storeS (i := 0) rfl rfl rfl rfl rfl Try.sizeOf34 (vs := [Sl.v r278h]) rfl rfl (by decide) rfl (xs' := encs (rs212.set y210.toNat (LR.mk x231 r278h))) ((Put.elemN (s := 1) (y := (LR.mk x231 r278h)) rfl r284g (Put.here (vs := [Sl.v r278h]) rfl)).off (by omega)) (L' := (.own s_a0 34 1 (encs (rs212.set y210.toNat (LR.mk x231 r278h)))) :: L) rfl ?_
    refine hds inv (sc1 (.refl _)) ?_
    refine HdJ.done (by kernel_rfl) ?_
    exact At.meetN (r276h, x235, p243, (rs212.set y210.toNat (LR.mk x231 r278h))) fl ⟨rfl, rfl, rfl, rfl, rfl, rfl, rfl, rfl, rfl, rfl, trivial⟩ rfl ⟨h256, (r276q.mono fl (.refl _)), hm285, (All.monoLR ha286 fl (.refl _))⟩
   refine HdStep.c (fun inv => ?_) trivial
   refine Lst.r (Ev.loadS (α := LR Int) rfl (rdo 0 rfl rfl rfl) Try.isAgg34 (v := Sl.v r276h) ((Get.elemN (s := 1) rfl r276g gh0).off (by omega))) ?_
   refine hds inv (sc1 (.refl _)) ?_
   refine HdJ.o1 8 (fun inv => ?_)
   have g287 := lat_some h232
   obtain ⟨⟨r288v, r288h⟩, r288g, r288e, r288m⟩ := map_get fm213 g287.2.2
   obtain rfl : x231 = r288v := r288e.symm
   have r288q : Rd w0 _ _ r288h x231 := fa214 _ r288m
   refine Lst.r (Ev.indexS (α := LR Int) (xs := rs212) rfl rfl Try.runUnderlying56 Try.sizeOf34 rfl (by decide) (rdo 0 rfl rfl rfl) g287.1 (by have := map_len fm213; omega)) ?_
   refine hds inv (sc1 (.refl _)) ?_
   refine HdJ.o1 9 (fun inv => ?_)
   refine Lst.r (Ev.loadS (α := LR Int) rfl (rdo 0 rfl rfl rfl) Try.isAgg34 (v := Sl.v r288h) ((Get.elemN (s := 1) rfl r288g gh0).off (by omega))) ?_
   refine hds inv (sc1 (.refl _)) ?_
   refine HdJ.o1 14 (fun inv => ?_)
   have g289 := lat_some h240
   obtain ⟨⟨r290v, r290h⟩, r290g, r290e, r290m⟩ := map_get fm213 g289.2.2
   obtain rfl : x239 = r290v := r290e.symm
   have r290q : Rd w0 _ _ r290h x239 := fa214 _ r290m
   refine Lst.r (Ev.indexS (α := LR Int) (xs := rs212) rfl rfl Try.runUnderlying56 Try.sizeOf34 rfl (by decide) (rdo 0 rfl rfl rfl) g289.1 (by have := map_len fm213; omega)) ?_
   refine hds inv (sc1 (.refl _)) ?_
   refine HdJ.o1 15 (fun inv => ?_)
   have hm291 : (rs212.set y210.toNat (LR.mk x231 r288h)).map LR.v = p243 := (map_set fm213 _ _).trans h244
   have ha292 : All LR.rel w0 F215 M (rs212.set y210.toNat (LR.mk x231 r288h)) := All.set (All.monoLR fa214 fl (.refl _)) ((r288q.mono fl (.refl _)))
   refine Lst.storeS (i := 0) rfl rfl rfl rfl rfl Try.sizeOf34 (vs := [Sl.v r288h]) rfl rfl (by decide) rfl (xs' := encs (rs212.set y210.toNat (LR.mk x231 r288h))) ((Put.elemN (s := 1) (y := (LR.mk x231 r288h)) rfl r290g (Put.here (vs := [Sl.v r288h]) rfl)).off (by omega)) (L' := (.own s_a0 34 1 (encs (rs212.set y210.toNat (LR.mk x231 r288h)))) :: L) rfl ?_
   refine hds inv (sc1 (.refl _)) ?_
   refine HdJ.done (by kernel_rfl) ?_
   exact At.meetN (r276h, x235, p243, (rs212.set y210.toNat (LR.mk x231 r288h))) fl ⟨rfl, rfl, rfl, rfl, rfl, rfl, rfl, rfl, rfl, rfl, trivial⟩ rfl ⟨h256, (r276q.mono fl (.refl _)), hm291, (All.monoLR ha292 fl (.refl _))⟩
  rintro F293 ⟨s248, l249, l251, rs252⟩ hF294 ⟨hy, f250, fm253, fa254⟩
  subst hy
  try dsimp only at H
  refine Lst.as (e' := [(0, Sl.v s_a0), (1, iv a1), (2, iv a2), (3, .func (.func 71) #[] #[]), (9, iv y13), (10, iv y4), (12, iv y210), (127, Sl.v s_a0), (129, iv (w64 (y210 - (1 : Int)))), (138, Sl.v s248)]) (L' := (.own s_a0 34 1 (encs rs252)) :: L) ⟨rfl, rfl, rfl, rfl, rfl, rfl, rfl, rfl, rfl, rfl, trivial⟩ rfl ?_
  obtain ⟨x295, h296, H⟩ := bind_some H
  have g297 := lat_some h296
  obtain ⟨⟨r298v, r298h⟩, r298g, r298e, r298m⟩ := map_get fm253 g297.2.2
  obtain rfl : x295 = r298v := r298e.symm
  have r298q : Rd w0 _ _ r298h x295 := fa254 _ r298m
  refine Lst.r (Ev.indexS (α := LR Int) (xs := rs252) rfl rfl Try.runUnderlying56 Try.sizeOf34 rfl (by decide) (rdo 0 rfl rfl rfl) g297.1 (by have := map_len fm253; omega)) ?_
  obtain ⟨p299, h300, H⟩ := Let_some H
  have hm301 : (rs252.set (w64 (y210 - (1 : Int))).toNat (LR.mk l249 s248)).map LR.v = p299 := (map_set fm253 _ _).trans h300
  have ha302 : All LR.rel w0 F293 M (rs252.set (w64 (y210 - (1 : Int))).toNat (LR.mk l249 s248)) := All.set (All.monoLR fa254 fl (.refl _)) ((f250.mono fl (.refl _)))
  refine Lst.storeS (i := 0) rfl rfl rfl rfl rfl Try.sizeOf34 (vs := [Sl.v s248]) rfl rfl (by decide) rfl (xs' := encs (rs252.set (w64 (y210 - (1 : Int))).toNat (LR.mk l249 s248))) ((Put.elemN (s := 1) (y := (LR.mk l249 s248)) rfl r298g (Put.here (vs := [Sl.v s248]) rfl)).off (by omega)) (L' := (.own s_a0 34 1 (encs (rs252.set (w64 (y210 - (1 : Int))).toNat (LR.mk l249 s248)))) :: L) rfl ?_
  refine Lst.nil ?_
  refine At.in_normal ?_
  refine At.then ?_
  refine Cd.region ?_
  refine mv0 rfl ?_
  refine Lst.r (Ev.add rfl rfl) ?_
  refine Lst.r (Ev.assign rfl) ?_
  refine Lst.nil ?_
  exact At.meet (k209, w64 (y210 + (1 : Int)), p299, (rs252.set (w64 (y210 - (1 : Int))).toNat (LR.mk l249 s248))) (FLe.trans hF216 hF294) ⟨rfl, rfl, rfl, rfl, rfl, rfl, rfl, trivial⟩ rfl ⟨⟨hgo209 _ (some_inj H).symm, hm301, (All.monoLR ha302 fl (.refl _))⟩, Nat.lt_succ_self _⟩
 replace H := ite_t hb31 H
 refine Cd.condT rfl hb31 ?_
 refine Cd.skip ?_
 refine At.then ?_
 refine Cd.block ?_
 refine Cd.region ?_
 refine mv0 rfl ?_
 refine Lst.r (Ev.add rfl rfl) ?_
 refine Lst.r (Ev.assign rfl) ?_
 refine Lst.nil ?_
 refine At.in_normal ?_
 exact At.meet (k12, w64 (y13 + (1 : Int))) hF15 ⟨rfl, rfl, rfl, rfl, rfl, rfl, trivial⟩ rfl ⟨hgo12 _ (some_inj H).symm, Nat.lt_succ_self _⟩
set_option maxRecDepth 20000 in
theorem slices_partitionEqualCmpFunc_int_Chains_1_sim {fu : Nat} {a0 : List (List Int)} {a1 : Int} {a2 : Int} {a3 : Int} {s_a0 : Sl} {rs_a0 : List (LR Int)} {r : (List (List Int)) × Int} (H : slices_partitionEqualCmpFunc_int_Chains_1 fu a0 a1 a2 a3 = some r) (w0 : World) (F : Frz) (M L : List Item) (hM : M.Sublist L) (hm_a0 : rs_a0.map LR.v = a0) (ha_a0 : All LR.rel w0 F M rs_a0) : Ok Try.prog w0 93 [Sl.v s_a0, iv a1, iv a2, iv a3, .func (.func 71) #[] #[]] F ((.own s_a0 34 1 (encs rs_a0)) :: L) (fun Fx L' v => ∃ (rs2 : List (LR Int)), v = iv r.2 ∧ L' = (.own s_a0 34 1 (encs rs2)) :: L ∧ rs2.map LR.v = r.1 ∧ All LR.rel w0 Fx M rs2) := by
 unfold slices_partitionEqualCmpFunc_int_Chains_1 at H
 refine Ok.enter (m := 5) (n := 90) Try.func93 rfl rfl rfl (by decide) ?_
 refine Cd.env (e' := [(0, Sl.v s_a0), (1, iv a1), (2, iv a2), (3, iv a3), (4, .func (.func 71) #[] #[])]) rfl ?_
 refine sr0 ?_
 refine Lst.r (Ev.assign rfl) ?_
 refine nt0 ?_
 refine Cd.seq ?_
 obtain ⟨x2, h3, H⟩ := bind_some H
 obtain ⟨x6, h7, H⟩ := bind_some H
 obtain ⟨x10, h11, H⟩ := bind_some H
 obtain ⟨p14, h15, H⟩ := Let_some H
 obtain ⟨o26, h27, H⟩ := Let_some H
 refine Cd.headMeet (σ := Sl × (List Int) × (List (List Int)) × (List (LR Int))) 14 (fun (s19, l20, l22, rs23) => [(0, Sl.v s_a0), (1, iv a1), (2, iv a2), (4, .func (.func 71) #[] #[]), (15, Sl.v s_a0), (16, iv a3), (24, Sl.v s19)]) (fun (s19, l20, l22, rs23) => (.own s_a0 34 1 (encs rs23)) :: L) (fun Fx (s19, l20, l22, rs23) => (l20, l22) = o26 ∧ Rd w0 Fx M s19 l20 ∧ rs23.map LR.v = l22 ∧ All LR.rel w0 Fx M rs23) (by kernel_rfl) (by kernel_rfl) (behind_sink (by kernel_rfl) (by kernel_rfl) (by kernel_rfl)) (by kernel_rfl) (fun hsel hlt => ?_) ?_
 ·refine HdJ.keep (fun w => St w0 F (L) w) (fun w h => trivial) ?_
  refine HdJ.ts hsel hlt 0 (sc1 (.refl _)) (Ev.move rfl) ?_
  refine HdJ.ts hsel hlt 1 (sc1 (.refl _)) (Ev.move rfl) ?_
  refine HdJ.ts hsel hlt 2 (sc1 (.refl _)) (Ev.move rfl) ?_
  refine HdJ.ts hsel hlt 3 (sc1 (.refl _)) (Ev.move rfl) ?_
  refine HdJ.ts hsel hlt 4 (sc1 (.refl _)) (Ev.move rfl) ?_
  refine HdJ.ts hsel hlt 5 (sc1 (.refl _)) (Ev.move rfl) ?_
  refine HdJ.ts hsel hlt 8 (sc1 (.refl _)) (Ev.move rfl) ?_
  refine HdJ.ts hsel hlt 9 (sc1 (.refl _)) (Ev.move rfl) ?_
  refine HdJ.step [6, 10] (by kernel_rfl) rfl ?_
  refine HdStep.c (fun inv => ?_) ?_
  ·have g28 := lat_some h3
   obtain ⟨⟨r29v, r29h⟩, r29g, r29e, r29m⟩ := map_get hm_a0 g28.2.2
   obtain rfl : x2 = r29v := r29e.symm
   have r29q : Rd w0 _ _ r29h x2 := ha_a0 _ r29m
   refine Lst.r (Ev.indexS (α := LR Int) (xs := rs_a0) rfl rfl Try.runUnderlying56 Try.sizeOf34 rfl (by decide) (rdo 0 rfl rfl rfl) g28.1 (by have := map_len hm_a0; omega)) ?_
   refine hds inv (sc1 (.refl _)) ?_
   refine HdJ.step [7, 10] (by kernel_rfl) rfl ?_
   refine HdStep.c (fun inv => ?_) ?_
   ·refine Lst.r (Ev.loadS (α := LR Int) rfl (rdo 0 rfl rfl rfl) Try.isAgg34 (v := Sl.v r29h) ((Get.elemN (s := 1) rfl r29g gh0).off (by omega))) ?_
    refine hds inv (sc1 (.refl _)) ?_
    refine HdJ.o1 10 (fun inv => ?_)
    have g30 := lat_some h7
    obtain ⟨⟨r31v, r31h⟩, r31g, r31e, r31m⟩ := map_get hm_a0 g30.2.2
    obtain rfl : x6 = r31v := r31e.symm
    have r31q : Rd w0 _ _ r31h x6 := ha_a0 _ r31m
    refine Lst.r (Ev.indexS (α := LR Int) (xs := rs_a0) rfl rfl Try.runUnderlying56 Try.sizeOf34 rfl (by decide) (rdo 0 rfl rfl rfl) g30.1 (by have := map_len hm_a0; omega)) ?_
    refine hds inv (sc1 (.refl _)) ?_
    refine HdJ.o1 11 (fun inv => ?_)
    refine Lst.r (Ev.loadS (α := LR Int) rfl (rdo 0 rfl rfl rfl) Try.isAgg34 (v := Sl.v r31h) ((Get.elemN (s := 1) rfl r31g gh0).off (by omega))) ?_
    refine hds inv (sc1 (.refl _)) ?_
    refine HdJ.o1 12 (fun inv => ?_)
    have g32 := lat_some h11
    obtain ⟨⟨r33v, r33h⟩, r33g, r33e, r33m⟩ := map_get hm_a0 g32.2.2
    obtain rfl : x10 = r33v := r33e.symm
    have r33q : Rd w0 _ _ r33h x10 := ha_a0 _ r33m
    refine Lst.r (Ev.indexS (α := LR Int) (xs := rs_a0) rfl rfl Try.runUnderlying56 Try.sizeOf34 rfl (by decide) (rdo 0 rfl rfl rfl) g32.1 (by have := map_len hm_a0; omega)) ?_
    refine hds inv (sc1 (.refl _)) ?_
    refine HdJ.o1 13 (fun inv => ?_)
    have hm34 : (rs_a0.set a1.toNat (LR.mk x2 r29h)).map LR.v = p14 := (map_set hm_a0 _ _).trans h15
    have ha35 : All LR.rel w0 F M (rs_a0.set a1.toNat (LR.mk x2 r29h)) := All.set (All.monoLR ha_a0 fl (.refl _)) ((r29q.mono fl (.refl _)))
    refine Lst.storeS (i := 0) rfl rfl rfl rfl rfl Try.sizeOf34 (vs := [Sl.v r29h]) rfl rfl (by decide) rfl (xs' := encs (rs_a0.set a1.toNat (LR.mk x2 r29h))) ((Put.elemN (s := 1) (y := (LR.mk x2 r29h)) rfl r33g (Put.here (vs := [Sl.v r29h]) rfl)).off (by omega)) (L' := (.own s_a0 34 1 (encs (rs_a0.set a1.toNat (LR.mk x2 r29h)))) :: L) rfl ?_
    refine hds inv (sc1 (.refl _)) ?_
    refine HdJ.done (by kernel_rfl) ?_
    exact At.meetN (r31h, x6, p14, (rs_a0.set a1.toNat (LR.mk x2 r29h))) fl ⟨rfl, rfl, rfl, rfl, rfl, rfl, rfl, trivial⟩ rfl ⟨h27, (r31q.mono fl (.refl _)), hm34, (All.monoLR ha35 fl (.refl _))⟩
   refine HdStep.c (fun inv => ?_) trivial
   have g36 := lat_some h7
   obtain ⟨⟨r37v, r37h⟩, r37g, r37e, r37m⟩ := map_get hm_a0 g36.2.2
   obtain rfl : x6 = r37v := r37e.symm
   have r37q : Rd w0 _ _ r37h x6 := ha_a0 _ r37m
   refine Lst.r (Ev.indexS (α := LR Int) (xs := rs_a0) rfl rfl Try.runUnderlying56 Try.sizeOf34 rfl (by decide) (rdo 0 rfl rfl rfl) g36.1 (by have := map_len hm_a0; omega)) ?_
   refine hds inv (sc1 (.refl _)) ?_
   refine HdJ.step [7, 11] (by kernel_rfl) rfl ?_
   refine HdStep.c (fun inv => ?_) ?_
   ·refine Lst.r (Ev.loadS (α := LR Int) rfl (rdo 0 rfl rfl rfl) Try.isAgg34 (v := Sl.v r29h) ((Get.elemN (s := 1) rfl r29g gh0).off (by omega))) ?_
    refine hds inv (sc1 (.refl _)) ?_
    refine HdJ.o1 11 (fun inv => ?_)
    refine Lst.r (Ev.loadS (α := LR Int) rfl (rdo 0 rfl rfl rfl) Try.isAgg34 (v := Sl.v r37h) ((Get.elemN (s := 1) rfl r37g gh0).off (by omega))) ?_
    refine hds inv (sc1 (.refl _)) ?_
    refine HdJ.o1 12 (fun inv => ?_)
    have g38 := lat_some h11
    obtain ⟨⟨r39v, r39h⟩, r39g, r39e, r39m⟩ := map_get hm_a0 g38.2.2
    obtain rfl : x10 = r39v := r39e.symm
    have r39q : Rd w0 _ _ r39h x10 := ha_a0 _ r39m
    refine Lst.r (Ev.indexS (α := LR Int) (xs := rs_a0) rfl rfl Try.runUnderlying56 Try.sizeOf34 rfl (by decide) (rdo 0 rfl rfl rfl) g38.1 (by have := map_len hm_a0; omega)) ?_
    refine hds inv (sc1 (.refl _)) ?_
    refine HdJ.o1 13 (fun inv => ?_)
    have hm40 : (rs_a0.set a1.toNat (LR.mk x2 r29h)).map LR.v = p14 := (map_set hm_a0 _ _).trans h15
    have ha41 : All LR.rel w0 F M (rs_a0.set a1.toNat (LR.mk x2 r29h)) := All.set (All.monoLR ha_a0 fl (.refl _)) ((r29q.mono fl (.refl _)))
    refine Lst.storeS (i := 0) rfl rfl rfl rfl rfl Try.sizeOf34 (vs := [Sl.v r29h]) rfl rfl (by decide) rfl (xs' := encs (rs_a0.set a1.toNat (LR.mk x2 r29h))) ((Put.elemN (s := 1) (y := (LR.mk x2 r29h)) rfl r39g (Put.here (vs := [Sl.v r29h]) rfl)).off (by omega)) (L' := (.own s_a0 34 1 (encs (rs_a0.set a1.toNat (LR.mk x2 r29h)))) :: L) rfl ?_
    refine hds inv (sc1 (.refl _)) ?_
    refine HdJ.done (by kernel_rfl) ?_
    exact At.meetN (r37h, x6, p14, (rs_a0.set a1.toNat (LR.mk x2 r29h))) fl ⟨rfl, rfl, rfl, rfl, rfl, rfl, rfl, trivial⟩ rfl ⟨h27, (r37q.mono fl (.refl _)), hm40, (All.monoLR ha41 fl (.refl _))⟩
   refine HdStep.c (fun inv => ?_) trivial
   refine Lst.r (Ev.loadS (α := LR Int) rfl (rdo 0 rfl rfl rfl) Try.isAgg34 (v := Sl.v r37h) ((Get.elemN (s := 1) rfl r37g gh0).off (by omega))) ?_
   refine hds inv (sc1 (.refl _)) ?_
   refine HdJ.o1 7 (fun inv => ?_)
   refine Lst.r (Ev.loadS (α := LR Int) rfl (rdo 0 rfl rfl rfl) Try.isAgg34 (v := Sl.v r29h) ((Get.elemN (s := 1) rfl r29g gh0).off (by omega))) ?_
   refine hds inv (sc1 (.refl _)) ?_
   refine HdJ.o1 12 (fun inv => ?_)
   have g42 := lat_some h11
   obtain ⟨⟨r43v, r43h⟩, r43g, r43e, r43m⟩ := map_get hm_a0 g42.2.2
   obtain rfl : x10 = r43v := r43e.symm
   have r43q : Rd w0 _ _ r43h x10 := ha_a0 _ r43m
   refine Lst.r (Ev.indexS (α := LR Int) (xs := rs_a0) rfl rfl Try.runUnderlying56 Try.sizeOf34 rfl (by decide) (rdo 0 rfl rfl rfl) g42.1 (by have := map_len hm_a0; omega)) ?_
   refine hds inv (sc1 (.refl _)) ?_
   refine HdJ.o1 13 (fun inv => ?_)
   have hm44 : (rs_a0.set a1.toNat (LR.mk x2 r29h)).map LR.v = p14 := (map_set hm_a0 _ _).trans h15
   have ha45 : All LR.rel w0 F M (rs_a0.set a1.toNat (LR.mk x2 r29h)) := All.set (All.monoLR ha_a0 fl (.refl _)) ((r29q.mono fl (.refl _)))
   refine Lst.storeS (i := 0) rfl rfl rfl rfl rfl Try.sizeOf34 (vs := [Sl.v r29h]) rfl rfl (by decide) rfl (xs' := encs (rs_a0.set a1.toNat (LR.mk x2 r29h))) ((Put.elemN (s := 1) (y := (LR.mk x2 r29h)) rfl r43g (Put.here (vs := [Sl.v r29h]) rfl)).off (by omega)) (L' := (.own s_a0 34 1 (encs (rs_a0.set a1.toNat (LR.mk x2 r29h)))) :: L) rfl ?_
   refine hds inv (sc1 (.refl _)) ?_
   refine HdJ.done (by kernel_rfl) ?_
   exact At.meetN (r37h, x6, p14, (rs_a0.set a1.toNat (LR.mk x2 r29h))) fl ⟨rfl, rfl, rfl, rfl, rfl, rfl, rfl, trivial⟩ rfl ⟨h27, (r37q.mono fl (.refl _)), hm44, (All.monoLR ha45 fl (.refl _))⟩
  refine HdStep.c (fun inv => ?_) trivial
  have g46 := lat_some h7
  obtain ⟨⟨r47v, r47h⟩, r47g, r47e, r47m⟩ := map_get hm_a0 g46.2.2
  obtain rfl : x6 = r47v := r47e.symm
  have r47q : Rd w0 _ _ r47h x6 := ha_a0 _ r47m
  refine Lst.r (Ev.indexS (α := LR Int) (xs := rs_a0) rfl rfl Try.runUnderlying56 Try.sizeOf34 rfl (by decide) (rdo 0 rfl rfl rfl) g46.1 (by have := map_len hm_a0; omega)) ?_
  refine hds inv (sc1 (.refl _)) ?_
  refine HdJ.step [6, 11] (by kernel_rfl) rfl ?_
  refine HdStep.c (fun inv => ?_) ?_
  ·have g48 := lat_some h3
   obtain ⟨⟨r49v, r49h⟩, r49g, r49e, r49m⟩ := map_get hm_a0 g48.2.2
   obtain rfl : x2 = r49v := r49e.symm
   have r49q : Rd w0 _ _ r49h x2 := ha_a0 _ r49m
   refine Lst.r (Ev.indexS (α := LR Int) (xs := rs_a0) rfl rfl Try.runUnderlying56 Try.sizeOf34 rfl (by decide) (rdo 0 rfl rfl rfl) g48.1 (by have := map_len hm_a0; omega)) ?_
   refine hds inv (sc1 (.refl _)) ?_
   refine HdJ.step [7, 11] (by kernel_rfl) rfl ?_
   refine HdStep.c (fun inv => ?_) ?_
   ·refine Lst.r (Ev.loadS (α := LR Int) rfl (rdo 0 rfl rfl rfl) Try.isAgg34 (v := Sl.v r49h) ((Get.elemN (s := 1) rfl r49g gh0).off (by omega))) ?_
    refine hds inv (sc1 (.refl _)) ?_
    refine HdJ.o1 11 (fun inv => ?_)
    refine Lst.r (Ev.loadS (α := LR Int) rfl (rdo 0 rfl rfl rfl) Try.isAgg34 (v := Sl.v r47h) ((Get.elemN (s := 1) rfl r47g gh0).off (by omega))) ?_
    refine hds inv (sc1 (.refl _)) ?_
    refine HdJ.o1 12 (fun inv => ?_)
    have g50 := lat_some h11
    obtain ⟨⟨r51v, r51h⟩, r51g, r51e, r51m⟩ := map_get hm_a0 g50.2.2
    obtain rfl : x10 = r51v := r51e.symm
    have r51q : Rd w0 _ _ r51h x10 := ha_a0 _ r51m
    refine Lst.r (Ev.indexS (α := LR Int) (xs := rs_a0) rfl rfl Try.runUnderlying56 Try.sizeOf34 rfl (by decide) (rdo 0 rfl rfl rfl) g50.1 (by have := map_len hm_a0; omega)) ?_
    refine hds inv (sc1 (.refl _)) ?_
    refine HdJ.o1 13 (fun inv => ?_)
    have hm52 : (rs_a0.set a1.toNat (LR.mk x2 r49h)).map LR.v = p14 := (map_set hm_a0 _ _).trans h15
    have ha53 : All LR.rel w0 F M (rs_a0.set a1.toNat (LR.mk x2 r49h)) := All.set (All.monoLR ha_a0 fl (.refl _)) ((r49q.mono fl (.refl _)))
    refine Lst.storeS (i := 0) rfl rfl rfl rfl rfl Try.sizeOf34 (vs := [Sl.v r49h]) rfl rfl (by decide) rfl (xs' := encs (rs_a0.set a1.toNat (LR.mk x2 r49h))) ((Put.elemN (s := 1) (y := (LR.mk x2 r49h)) rfl r51g (Put.here (vs := [Sl.v r49h]) rfl)).off (by omega)) (L' := (.own s_a0 34 1 (encs (rs_a0.set a1.toNat (LR.mk x2 r49h)))) :: L) rfl ?_
    refine hds inv (sc1 (.refl _)) ?_
    refine HdJ.done (by kernel_rfl) ?_
    exact At.meetN (r47h, x6, p14, (rs_a0.set a1.toNat (LR.mk x2 r49h))) fl ⟨rfl, rfl, rfl, rfl, rfl, rfl, rfl, trivial⟩ rfl ⟨h27, (r47q.mono fl (.refl _)), hm52, (All.monoLR ha53 fl (.refl _))⟩
   refine HdStep.c (fun inv => ?_) trivial
   refine Lst.r (Ev.loadS (α := LR Int) rfl (rdo 0 rfl rfl rfl) Try.isAgg34 (v := Sl.v r47h) ((Get.elemN (s := 1) rfl r47g gh0).off (by omega))) ?_
   refine hds inv (sc1 (.refl _)) ?_
   refine HdJ.o1 7 (fun inv => ?_)
   refine Lst.r (Ev.loadS (α := LR Int) rfl (rdo 0 rfl rfl rfl) Try.isAgg34 (v := Sl.v r49h) ((Get.elemN (s := 1) rfl r49g gh0).off (by omega))) ?_
   refine hds inv (sc1 (.refl _)) ?_
   refine HdJ.o1 12 (fun inv => ?_)
   have g54 := lat_some h11
   obtain ⟨⟨r55v, r55h⟩, r55g, r55e, r55m⟩ := map_get hm_a0 g54.2.2
   obtain rfl : x10 = r55v := r55e.symm
   have r55q : Rd w0 _ _ r55h x10 := ha_a0 _ r55m
   refine Lst.r (Ev.indexS (α := LR Int) (xs := rs_a0) rfl rfl Try.runUnderlying56 Try.sizeOf34 rfl (by decide) (rdo 0 rfl rfl rfl) g54.1 (by have := map_len hm_a0; omega)) ?_
   refine hds inv (sc1 (.refl _)) ?_
   refine HdJ.o1 13 (fun inv => ?_)
   have hm56 : (rs_a0.set a1.toNat (LR.mk x2 r49h)).map LR.v = p14 := (map_set hm_a0 _ _).trans h15
   have ha57 : All LR.rel w0 F M (rs_a0.set a1.toNat (LR.mk x2 r49h)) := All.set (All.monoLR ha_a0 fl (.refl _)) ((r49q.mono fl (.refl _)))
   refine Lst.storeS (i := 0) rfl rfl rfl rfl rfl Try.sizeOf34 (vs := [Sl.v r49h]) rfl rfl (by decide) rfl (xs' := encs (rs_a0.set a1.toNat (LR.mk x2 r49h))) ((Put.elemN (s := 1) (y := (LR.mk x2 r49h)) rfl r55g (Put.here (vs := [Sl.v r49h]) rfl)).off (by omega)) (L' := (.own s_a0 34 1 (encs (rs_a0.set a1.toNat (LR.mk x2 r49h)))) :: L) rfl ?_
   refine hds inv (sc1 (.refl _)) ?_
   refine HdJ.done (by kernel_rfl) ?_
   exact At.meetN (r47h, x6, p14, (rs_a0.set a1.toNat (LR.mk x2 r49h))) fl ⟨rfl, rfl, rfl, rfl, rfl, rfl, rfl, trivial⟩ rfl ⟨h27, (r47q.mono fl (.refl _)), hm56, (All.monoLR ha57 fl (.refl _))⟩
  refine HdStep.c (fun inv => ?_) trivial
  refine Lst.r (Ev.loadS (α := LR Int) rfl (rdo 0 rfl rfl rfl) Try.isAgg34 (v := Sl.v r47h) ((Get.elemN (s := 1) rfl r47g gh0).off (by omega))) ?_
  refine hds inv (sc1 (.refl _)) ?_
  refine HdJ.o1 6 (fun inv => ?_)
  have g58 := lat_some h3
  obtain ⟨⟨r59v, r59h⟩, r59g, r59e, r59m⟩ := map_get hm_a0 g58.2.2
  obtain rfl : x2 = r59v := r59e.symm
  have r59q : Rd w0 _ _ r59h x2 := ha_a0 _ r59m
  refine Lst.r (Ev.indexS (α := LR Int) (xs := rs_a0) rfl rfl Try.runUnderlying56 Try.sizeOf34 rfl (by decide) (rdo 0 rfl rfl rfl) g58.1 (by have := map_len hm_a0; omega)) ?_
  refine hds inv (sc1 (.refl _)) ?_
  refine HdJ.o1 7 (fun inv => ?_)
  refine Lst.r (Ev.loadS (α := LR Int) rfl (rdo 0 rfl rfl rfl) Try.isAgg34 (v := Sl.v r59h) ((Get.elemN (s := 1) rfl r59g gh0).off (by omega))) ?_
  refine hds inv (sc1 (.refl _)) ?_
  refine HdJ.o1 12 (fun inv => ?_)
  have g60 := lat_some h11
  obtain ⟨⟨r61v, r61h⟩, r61g, r61e, r61m⟩ := map_get hm_a0 g60.2.2
  obtain rfl : x10 = r61v := r61e.symm
  have r61q : Rd w0 _ _ r61h x10 := ha_a0 _ r61m
  refine Lst.r (Ev.indexS (α := LR Int) (xs := rs_a0) rfl rfl Try.runUnderlying56 Try.sizeOf34 rfl (by decide) (rdo 0 rfl rfl rfl) g60.1 (by have := map_len hm_a0; omega)) ?_
  refine hds inv (sc1 (.refl _)) ?_
  refine HdJ.o1 13 (fun inv => ?_)
  have hm62 : (rs_a0.set a1.toNat (LR.mk x2 r59h)).map LR.v = p14 := (map_set hm_a0 _ _).trans h15
  have ha63 : All LR.rel w0 F M (rs_a0.set a1.toNat (LR.mk x2 r59h)) := All.set (All.monoLR ha_a0 fl (.refl _)) ((r59q.mono fl (.refl _)))
  refine Lst.storeS (i := 0) rfl rfl rfl rfl rfl Try.sizeOf34 (vs := [Sl.v r59h]) rfl rfl (by decide) rfl (xs' := encs (rs_a0.set a1.toNat (LR.mk x2 r59h))) ((Put.elemN (s := 1) (y := (LR.mk x2 r59h)) rfl r61g (Put.here (vs := [Sl.v r59h]) rfl)).off (by omega)) (L' := (.own s_a0 34 1 (encs (rs_a0.set a1.toNat (LR.mk x2 r59h)))) :: L) rfl ?_
  refine hds inv (sc1 (.refl _)) ?_
  refine HdJ.done (by kernel_rfl) ?_
  exact At.meetN (r47h, x6, p14, (rs_a0.set a1.toNat (LR.mk x2 r59h))) fl ⟨rfl, rfl, rfl, rfl, rfl, rfl, rfl, trivial⟩ rfl ⟨h27, (r47q.mono fl (.refl _)), hm62, (All.monoLR ha63 fl (.refl _))⟩
 rintro F64 ⟨s19, l20, l22, rs23⟩ hF65 ⟨hy, f21, fm24, fa25⟩
 subst hy
 try dsimp only at H
 refine Lst.as (e' := [(0, Sl.v s_a0), (1, iv a1), (2, iv a2), (4, .func (.func 71) #[] #[]), (15, Sl.v s_a0), (16, iv a3), (24, Sl.v s19)]) (L' := (.own s_a0 34 1 (encs rs23)) :: L) ⟨rfl, rfl, rfl, rfl, rfl, rfl, rfl, trivial⟩ rfl ?_
 obtain ⟨x66, h67, H⟩ := bind_some H
 have g68 := lat_some h67
 obtain ⟨⟨r69v, r69h⟩, r69g, r69e, r69m⟩ := map_get fm24 g68.2.2
 obtain rfl : x66 = r69v := r69e.symm
 have r69q : Rd w0 _ _ r69h x66 := fa25 _ r69m
 refine Lst.r (Ev.indexS (α := LR Int) (xs := rs23) rfl rfl Try.runUnderlying56 Try.sizeOf34 rfl (by decide) (rdo 0 rfl rfl rfl) g68.1 (by have := map_len fm24; omega)) ?_
 obtain ⟨p70, h71, H⟩ := Let_some H
 have hm72 : (rs23.set a3.toNat (LR.mk l20 s19)).map LR.v = p70 := (map_set fm24 _ _).trans h71
 have ha73 : All LR.rel w0 F64 M (rs23.set a3.toNat (LR.mk l20 s19)) := All.set (All.monoLR fa25 fl (.refl _)) ((f21.mono fl (.refl _)))
 refine Lst.storeS (i := 0) rfl rfl rfl rfl rfl Try.sizeOf34 (vs := [Sl.v s19]) rfl rfl (by decide) rfl (xs' := encs (rs23.set a3.toNat (LR.mk l20 s19))) ((Put.elemN (s := 1) (y := (LR.mk l20 s19)) rfl r69g (Put.here (vs := [Sl.v s19]) rfl)).off (by omega)) (L' := (.own s_a0 34 1 (encs (rs23.set a3.toNat (LR.mk l20 s19)))) :: L) rfl ?_
 refine nsr ?_
 refine mv0 rfl ?_
 refine Lst.r (Ev.add rfl rfl) ?_
 refine mv0 rfl ?_
 refine Lst.r (Ev.sub rfl rfl) ?_
 refine Lst.r (Ev.assign rfl) ?_
 refine Lst.r (Ev.assign rfl) ?_
 refine nt0 ?_
 refine Cd.seq ?_
 refine Cd.block ?_
 obtain ⟨ol74, H, HKl74⟩ := andThen_some H
 refine Cd.loop (σ := Nat × Int × Int × (List (List Int)) × (List (LR Int))) (fun (k74, y75, y76, l77, rs78) => [(0, Sl.v s_a0), (1, iv a1), (4, .func (.func 71) #[] #[]), (11, iv y75), (12, iv y76)]) (fun (k74, y75, y76, l77, rs78) => (.own s_a0 34 1 (encs rs78)) :: L) (fun Fx => (fun (k74, y75, y76, l77, rs78) => whileM (slices_partitionEqualCmpFunc_int_Chains_1_B0 fu a1) k74 (y75, y76, l77) = some ol74 ∧ rs78.map LR.v = l77 ∧ All LR.rel w0 Fx M rs78)) (fun (k74, y75, y76, l77, rs78) => k74) (fu, w64 (a1 + (1 : Int)), w64 (a2 - (1 : Int)), p70, (rs23.set a3.toNat (LR.mk l20 s19))) ⟨rfl, rfl, rfl, rfl, rfl, trivial⟩ rfl ⟨H, hm72, (All.monoLR ha73 fl (.refl _))⟩ ?_
 rintro F81 ⟨k74, y75, y76, l77, rs78⟩ hF82 ⟨H, fm79, fa80⟩
 refine Cd.as (e' := [(0, Sl.v s_a0), (1, iv a1), (4, .func (.func 71) #[] #[]), (11, iv y75), (12, iv y76)]) (L' := (.own s_a0 34 1 (encs rs78)) :: L) ⟨rfl, rfl, rfl, rfl, rfl, trivial⟩ rfl ?_
 rcases k74 with _ | k74
 ·cases H
 obtain ⟨c74, H, hgo74, hbrk74, hret74⟩ := whileM_go H
 unfold slices_partitionEqualCmpFunc_int_Chains_1_B0 at H
 try dsimp only at H
 refine Cd.block ?_
 refine Cd.seq ?_
 refine Cd.block ?_
 obtain ⟨ol83, H, HKl83⟩ := andThen_some H
 refine Cd.loop (σ := Nat × Int) (fun (k83, y84) => [(0, Sl.v s_a0), (1, iv a1), (4, .func (.func 71) #[] #[]), (11, iv y84), (12, iv y76)]) (fun (k83, y84) => (.own s_a0 34 1 (encs rs78)) :: L) (fun _ => (fun (k83, y84) => whileM (slices_partitionEqualCmpFunc_int_Chains_1_B2 a1 y76 l77) k83 y84 = some ol83)) (fun (k83, y84) => k83) (fu, y75) ⟨rfl, rfl, rfl, rfl, rfl, trivial⟩ rfl H ?_
 rintro F85 ⟨k83, y84⟩ hF86 H
 refine Cd.as (e' := [(0, Sl.v s_a0), (1, iv a1), (4, .func (.func 71) #[] #[]), (11, iv y84), (12, iv y76)]) (L' := (.own s_a0 34 1 (encs rs78)) :: L) ⟨rfl, rfl, rfl, rfl, rfl, trivial⟩ rfl ?_
 rcases k83 with _ | k83
 ·cases H
 obtain ⟨c83, H, hgo83, hbrk83, hret83⟩ := whileM_go H
 unfold slices_partitionEqualCmpFunc_int_Chains_1_B2 at H
 try dsimp only at H
 refine Cd.seq ?_
 refine Cd.seq ?_
 refine Cd.quiet (by kernel_rfl) (by kernel_rfl) ?_
 refine Qt.r (Ev.move rfl) ?_
 refine Qt.r (Ev.move rfl) ?_
 refine Qt.r (Ev.leq rfl rfl) ?_
 refine Qt.r (Ev.move rfl) ?_
 obtain ⟨o87, H, HKo87⟩ := bind_some H
 refine Qt.join (σ := Bool) 13 (fun y88 => [(0, Sl.v s_a0), (1, iv a1), (4, .func (.func 71) #[] #[]), (11, iv y84), (12, iv y76), (47, .bool y88)]) (fun y88 => y88 = o87) ?_ ?_
 ·rcases (Bool.eq_false_or_eq_true (decide (y84 ≤ y76))).symm with hb89 | hb89
  ·replace H := ite_f hb89 H
   refine Qt.skip rfl rfl rfl hb89 rfl (by decide) ?_
   refine Qt.skip rfl rfl rfl hb89 rfl (by decide) ?_
   refine Qt.skip rfl rfl rfl hb89 rfl (by decide) ?_
   refine Qt.skip rfl rfl rfl hb89 rfl (by decide) ?_
   refine Qt.skip rfl rfl rfl hb89 rfl (by decide) ?_
   refine Qt.skip rfl rfl rfl hb89 rfl (by decide) ?_
   refine Qt.skip rfl rfl rfl hb89 rfl (by decide) ?_
   refine Qt.skip rfl rfl rfl hb89 rfl (by decide) ?_
   refine Qt.skip rfl rfl rfl hb89 rfl (by decide) ?_
   refine Qt.skip rfl rfl rfl hb89 rfl (by decide) ?_
   refine Qt.skip rfl rfl rfl hb89 rfl (by decide) ?_
   refine Qt.skip rfl rfl rfl hb89 rfl (by decide) ?_
   refine Qt.r (Ev.pickF rfl hb89 rfl) ?_
   exact Qt.meet false ⟨rfl, rfl, rfl, rfl, rfl, rfl, trivial⟩ (some_inj H)
  replace H := ite_t hb89 H
  refine Qt.rG hb89 (Ev.move rfl) ?_
  refine Qt.rG hb89 (Ev.move rfl) ?_
  refine Qt.rG hb89 (Ev.move rfl) ?_
  obtain ⟨x90, h91, H⟩ := bind_some H
  have g92 := lat_some h91
  obtain ⟨⟨r93v, r93h⟩, r93g, r93e, r93m⟩ := map_get fm79 g92.2.2
  obtain rfl : x90 = r93v := r93e.symm
  have r93q : Rd w0 _ _ r93h x90 := fa80 _ r93m
  refine Qt.rG hb89 (Ev.indexS (α := LR Int) (xs := rs78) rfl rfl Try.runUnderlying56 Try.sizeOf34 rfl (by decide) (rdo 0 rfl rfl rfl) g92.1 (by have := map_len fm79; omega)) ?_
  refine Qt.rG hb89 (Ev.loadS (α := LR Int) rfl (rdo 0 rfl rfl rfl) Try.isAgg34 (v := Sl.v r93h) ((Get.elemN (s := 1) rfl r93g gh0).off (by omega))) ?_
  refine Qt.rG hb89 (Ev.move rfl) ?_
  refine Qt.rG hb89 (Ev.move rfl) ?_
  obtain ⟨x94, h95, H⟩ := bind_some H
  have g96 := lat_some h95
  obtain ⟨⟨r97v, r97h⟩, r97g, r97e, r97m⟩ := map_get fm79 g96.2.2
  obtain rfl : x94 = r97v := r97e.symm
  have r97q : Rd w0 _ _ r97h x94 := fa80 _ r97m
  refine Qt.rG hb89 (Ev.indexS (α := LR Int) (xs := rs78) rfl rfl Try.runUnderlying56 Try.sizeOf34 rfl (by decide) (rdo 0 rfl rfl rfl) g96.1 (by have := map_len fm79; omega)) ?_
  refine Qt.rG hb89 (Ev.loadS (α := LR Int) rfl (rdo 0 rfl rfl rfl) Try.isAgg34 (v := Sl.v r97h) ((Get.elemN (s := 1) rfl r97g gh0).off (by omega))) ?_
  obtain ⟨r98, h99, H⟩ := bind_some H
  refine Qt.callVG rfl rfl rfl hb89 rfl (by decide) (vs := [Sl.v r93h, Sl.v r97h]) (cs := []) rfl ⟨rfl, rfl, trivial⟩ Try.call71 (poset_Chains_1_sim h99 w0 _ M _ (sc1 hM) (r93q.mono hF86 (.refl _)) (r97q.mono hF86 (.refl _))) ?_
  refine Qt.rG hb89 (Ev.lss rfl rfl) ?_
  refine Qt.rG hb89 (Ev.not rfl) ?_
  refine Qt.r (Ev.pickT rfl hb89 rfl) ?_
  exact Qt.meet (!(decide (r98 < (0 : Int)))) ⟨rfl, rfl, rfl, rfl, rfl, rfl, trivial⟩ (some_inj H)
 rintro y88 hy
 subst hy
 refine Qt.as (e' := [(0, Sl.v s_a0), (1, iv a1), (4, .func (.func 71) #[] #[]), (11, iv y84), (12, iv y76), (47, .bool y88)]) ⟨rfl, rfl, rfl, rfl, rfl, rfl, trivial⟩ ?_
 replace H := HKo87
 refine Qt.done ?_
 refine At.then ?_
 rcases (Bool.eq_false_or_eq_true y88).symm with hb102 | hb102
 ·replace H := ite_f hb102 H
  refine Cd.condF rfl hb102 ?_
  refine Cd.exit ?_
  refine At.then_exit ?_
  refine At.then_exit ?_
  refine At.in_exit ?_
  have H := hbrk83 _ (some_inj H).symm
  subst H
  replace H := HKl83
  refine At.then ?_
  refine Cd.seq ?_
  refine Cd.block ?_
  obtain ⟨ol103, H, HKl103⟩ := andThen_some H
  refine Cd.loop (σ := Nat × Int) (fun (k103, y104) => [(0, Sl.v s_a0), (1, iv a1), (4, .func (.func 71) #[] #[]), (11, iv y84), (12, iv y104)]) (fun (k103, y104) => (.own s_a0 34 1 (encs rs78)) :: L) (fun _ => (fun (k103, y104) => whileM (slices_partitionEqualCmpFunc_int_Chains_1_B4 a1 l77 y84) k103 y104 = some ol103)) (fun (k103, y104) => k103) (fu, y76) ⟨rfl, rfl, rfl, rfl, rfl, trivial⟩ rfl H ?_
  rintro F105 ⟨k103, y104⟩ hF106 H
  refine Cd.as (e' := [(0, Sl.v s_a0), (1, iv a1), (4, .func (.func 71) #[] #[]), (11, iv y84), (12, iv y104)]) (L' := (.own s_a0 34 1 (encs rs78)) :: L) ⟨rfl, rfl, rfl, rfl, rfl, trivial⟩ rfl ?_
  rcases k103 with _ | k103
  ·cases H
  obtain ⟨c103, H, hgo103, hbrk103, hret103⟩ := whileM_go H
  unfold slices_partitionEqualCmpFunc_int_Chains_1_B4 at H
  try dsimp only at H
  refine Cd.seq ?_
  refine Cd.seq ?_
  refine Cd.quiet (by kernel_rfl) (by kernel_rfl) ?_
  refine Qt.r (Ev.move rfl) ?_
  refine Qt.r (Ev.move rfl) ?_
  refine Qt.r (Ev.leq rfl rfl) ?_
  refine Qt.r (Ev.move rfl) ?_
  obtain ⟨o107, H, HKo107⟩ := bind_some H
  refine Qt.join (σ := Bool) 12 (fun y108 => [(0, Sl.v s_a0), (1, iv a1), (4, .func (.func 71) #[] #[]), (11, iv y84), (12, iv y104), (65, .bool y108)]) (fun y108 => y108 = o107) ?_ ?_
  ·rcases (Bool.eq_false_or_eq_true (decide (y84 ≤ y104))).symm with hb109 | hb109
   ·replace H := ite_f hb109 H
    refine Qt.skip rfl rfl rfl hb109 rfl (by decide) ?_
    refine Qt.skip rfl rfl rfl hb109 rfl (by decide) ?_
    refine Qt.skip rfl rfl rfl hb109 rfl (by decide) ?_
    refine Qt.skip rfl rfl rfl hb109 rfl (by decide) ?_
    refine Qt.skip rfl rfl rfl hb109 rfl (by decide) ?_
    refine Qt.skip rfl rfl rfl hb109 rfl (by decide) ?_
    refine Qt.skip rfl rfl rfl hb109 rfl (by decide) ?_
    refine Qt.skip rfl rfl rfl hb109 rfl (by decide) ?_
    refine Qt.skip rfl rfl rfl hb109 rfl (by decide) ?_
    refine Qt.skip rfl rfl rfl hb109 rfl (by decide) ?_
    refine Qt.skip rfl rfl rfl hb109 rfl (by decide) ?_
    refine Qt.r (Ev.pickF rfl hb109 rfl) ?_
    exact Qt.meet false ⟨rfl, rfl, rfl, rfl, rfl, rfl, trivial⟩ (some_inj H)
   replace H := ite_t hb109 H
   refine Qt.rG hb109 (Ev.move rfl) ?_
   refine Qt.rG hb109 (Ev.move rfl) ?_
   refine Qt.rG hb109 (Ev.move rfl) ?_
   obtain ⟨x110, h111, H⟩ := bind_some H
   have g112 := lat_some h111
   obtain ⟨⟨r113v, r113h⟩, r113g, r113e, r113m⟩ := map_get fm79 g112.2.2
   obtain rfl : x110 = r113v := r113e.symm
   have r113q : Rd w0 _ _ r113h x110 := fa80 _ r113m
   refine Qt.rG hb109 (Ev.indexS (α := LR Int) (xs := rs78) rfl rfl Try.runUnderlying56 Try.sizeOf34 rfl (by decide) (rdo 0 rfl rfl rfl) g112.1 (by have := map_len fm79; omega)) ?_
   refine Qt.rG hb109 (Ev.loadS (α := LR Int) rfl (rdo 0 rfl rfl rfl) Try.isAgg34 (v := Sl.v r113h) ((Get.elemN (s := 1) rfl r113g gh0).off (by omega))) ?_
   refine Qt.rG hb109 (Ev.move rfl) ?_
   refine Qt.rG hb109 (Ev.move rfl) ?_
   obtain ⟨x114, h115, H⟩ := bind_some H
   have g116 := lat_some h115
   obtain ⟨⟨r117v, r117h⟩, r117g, r117e, r117m⟩ := map_get fm79 g116.2.2
   obtain rfl : x114 = r117v := r117e.symm
   have r117q : Rd w0 _ _ r117h x114 := fa80 _ r117m
   refine Qt.rG hb109 (Ev.indexS (α := LR Int) (xs := rs78) rfl rfl Try.runUnderlying56 Try.sizeOf34 rfl (by decide) (rdo 0 rfl rfl rfl) g116.1 (by have := map_len fm79; omega)) ?_
   refine Qt.rG hb109 (Ev.loadS (α := LR Int) rfl (rdo 0 rfl rfl rfl) Try.isAgg34 (v := Sl.v r117h) ((Get.elemN (s := 1) rfl r117g gh0).off (by omega))) ?_
   obtain ⟨r118, h119, H⟩ := bind_some H
   refine Qt.callVG rfl rfl rfl hb109 rfl (by decide) (vs := [Sl.v r113h, Sl.v r117h]) (cs := []) rfl ⟨rfl, rfl, trivial⟩ Try.call71 (poset_Chains_1_sim h119 w0 _ M _ (sc1 hM) (r113q.mono (FLe.trans hF86 hF106) (.refl _)) (r117q.mono (FLe.trans hF86 hF106) (.refl _))) ?_
   refine Qt.rG hb109 (Ev.lss rfl rfl) ?_
   refine Qt.r (Ev.pickT rfl hb109 rfl) ?_
   exact Qt.meet (decide (r118 < (0 : Int))) ⟨rfl, rfl, rfl, rfl, rfl, rfl, trivial⟩ (some_inj H)
  rintro y108 hy
  subst hy
  refine Qt.as (e' := [(0, Sl.v s_a0), (1, iv a1), (4, .func (.func 71) #[] #[]), (11, iv y84), (12, iv y104), (65, .bool y108)]) ⟨rfl, rfl, rfl, rfl, rfl, rfl, trivial⟩ ?_
  replace H := HKo107
  refine Qt.done ?_
  refine At.then ?_
  rcases (Bool.eq_false_or_eq_true y108).symm with hb122 | hb122
  ·replace H := ite_f hb122 H
   refine Cd.condF rfl hb122 ?_
   refine Cd.exit ?_
   refine At.then_exit ?_
   refine At.then_exit ?_
   refine At.in_exit ?_
   have H := hbrk103 _ (some_inj H).symm
   subst H
   replace H := HKl103
   refine At.then ?_
   refine Cd.seq ?_
   refine sr0 ?_
   refine mv0 rfl ?_
   refine mv0 rfl ?_
   refine Lst.r (Ev.gtr rfl rfl) ?_
   refine nt0 ?_
   rcases Bool.eq_false_or_eq_true (decide (y84 > y104)) with hb123 | hb123
   ·replace H := ite_t hb123 H
    refine Cd.condT rfl hb123 ?_
    refine Cd.exit ?_
    refine At.then_exit ?_
    refine At.in_other rfl ?_
    refine At.then_exit ?_
    refine At.in_exit ?_
    have H := hbrk74 _ (some_inj H).symm
    subst H
    replace H := HKl74
    try dsimp only [Sum.elim_inl] at H
    refine At.then ?_
    refine sr0 ?_
    refine mv0 rfl ?_
    refine Lst.r (Ev.assign rfl) ?_
    refine nt0 ?_
    obtain rfl := some_inj H
    refine Cd.ret ?_
    exact At.ret1 rfl (Res.tmp rfl) (FLe.trans (FLe.trans (FLe.trans hF65 hF82) hF86) hF106) (sk1 (.refl _)) ⟨rs78, rfl, rfl, fm79, (All.monoLR fa80 (FLe.trans hF86 hF106) (.refl _))⟩
   replace H := ite_f hb123 H
   refine Cd.condF rfl hb123 ?_
   refine Cd.skip ?_
   refine At.then ?_
   refine Cd.seq ?_
   obtain ⟨x124, h125, H⟩ := bind_some H
   obtain ⟨x128, h129, H⟩ := bind_some H
   obtain ⟨x132, h133, H⟩ := bind_some H
   obtain ⟨p136, h137, H⟩ := Let_some H
   obtain ⟨o148, h149, H⟩ := Let_some H
   refine Cd.headMeet (σ := Sl × (List Int) × (List (List Int)) × (List (LR Int))) 14 (fun (s141, l142, l144, rs145) => [(0, Sl.v s_a0), (1, iv a1), (4, .func (.func 71) #[] #[]), (11, iv y84), (12, iv y104), (73, Sl.v s_a0), (74, iv y104), (82, Sl.v s141)]) (fun (s141, l142, l144, rs145) => (.own s_a0 34 1 (encs rs145)) :: L) (fun Fx (s141, l142, l144, rs145) => (l142, l144) = o148 ∧ Rd w0 Fx M s141 l142 ∧ rs145.map LR.v = l144 ∧ All LR.rel w0 Fx M rs145) (by kernel_rfl) (by kernel_rfl) (behind_sink (by kernel_rfl) (by kernel_rfl) (by kernel_rfl)) (by kernel_rfl) (fun hsel hlt => ?_) ?_
   ·refine HdJ.keep (fun w => St w0 F105 (L) w) (fun w h => trivial) ?_
    refine HdJ.ts hsel hlt 0 (sc1 (.refl _)) (Ev.move rfl) ?_
    refine HdJ.ts hsel hlt 1 (sc1 (.refl _)) (Ev.move rfl) ?_
    refine HdJ.ts hsel hlt 2 (sc1 (.refl _)) (Ev.move rfl) ?_
    refine HdJ.ts hsel hlt 3 (sc1 (.refl _)) (Ev.move rfl) ?_
    refine HdJ.ts hsel hlt 4 (sc1 (.refl _)) (Ev.move rfl) ?_
    refine HdJ.ts hsel hlt 5 (sc1 (.refl _)) (Ev.move rfl) ?_
    refine HdJ.ts hsel hlt 8 (sc1 (.refl _)) (Ev.move rfl) ?_
    refine HdJ.ts hsel hlt 9 (sc1 (.refl _)) (Ev.move rfl) ?_
    refine HdJ.step [6, 10] (by kernel_rfl) rfl ?_
    refine HdStep.c (fun inv => ?_) ?_
    ·have g150 := lat_some h125
     obtain ⟨⟨r151v, r151h⟩, r151g, r151e, r151m⟩ := map_get fm79 g150.2.2
     obtain rfl : x124 = r151v := r151e.symm
     have r151q : Rd w0 _ _ r151h x124 := fa80 _ r151m
     refine Lst.r (Ev.indexS (α := LR Int) (xs := rs78) rfl rfl Try.runUnderlying56 Try.sizeOf34 rfl (by decide) (rdo 0 rfl rfl rfl) g150.1 (by have := map_len fm79; omega)) ?_
     refine hds inv (sc1 (.refl _)) ?_
     refine HdJ.step [7, 10] (by kernel_rfl) rfl ?_
     refine HdStep.c (fun inv => ?_) ?_
     ·refine Lst.r (Ev.loadS (α := LR Int) rfl (rdo 0 rfl rfl rfl) Try.isAgg34 (v := Sl.v r151h) ((Get.elemN (s := 1) rfl r151g gh0).off (by omega))) ?_
      refine hds inv (sc1 (.refl _)) ?_
      refine HdJ.o1 10 (fun inv => ?_)
      have g152 := lat_some h129
      obtain ⟨⟨r153v, r153h⟩, r153g, r153e, r153m⟩ := map_get fm79 g152.2.2
      obtain rfl : x128 = r153v := r153e.symm
      have r153q : Rd w0 _ _ r153h x128 := fa80 _ r153m
      refine Lst.r (Ev.indexS (α := LR Int) (xs := rs78) rfl rfl Try.runUnderlying56 Try.sizeOf34 rfl (by decide) (rdo 0 rfl rfl rfl) g152.1 (by have := map_len fm79; omega)) ?_
      refine hds inv (sc1 (.refl _)) ?_
      refine HdJ.o1 11 (fun inv => ?_)
      refine Lst.r (Ev.loadS (α := LR Int) rfl (rdo 0 rfl rfl rfl) Try.isAgg34 (v := Sl.v r153h) ((Get.elemN (s := 1) rfl r153g gh0).off (by omega))) ?_
      refine hds inv (sc1 (.refl _)) ?_
      refine HdJ.o1 12 (fun inv => ?_)
      have g154 := lat_some h133
      obtain ⟨⟨r155v, r155h⟩, r155g, r155e, r155m⟩ := map_get fm79 g154.2.2
      obtain rfl : x132 = r155v := r155e.symm
      have r155q : Rd w0 _ _ r155h x132 := fa80 _ r155m
      refine Lst.r (Ev.indexS (α := LR Int) (xs := rs78) rfl rfl Try.runUnderlying56 Try.sizeOf34 rfl (by decide) (rdo 0 rfl rfl rfl) g154.1 (by have := map_len fm79; omega)) ?_
      refine hds inv (sc1 (.refl _)) ?_
      refine HdJ.o1 13 (fun inv => ?_)
      have hm156 : (rs78.set y84.toNat (LR.mk x124 r151h)).map LR.v = p136 := (map_set fm79 _ _).trans h137
      have ha157 : All LR.rel w0 F105 M (rs78.set y84.toNat (LR.mk x124 r151h)) := All.set (All.monoLR fa80 (FLe.trans hF86 hF106) (.refl _)) ((r151q.mono (FLe.trans hF86 hF106) (.refl _)))
      refine Lst.storeS (i := 0) rfl rfl rfl rfl rfl Try.sizeOf34 (vs := [Sl.v r151h]) rfl rfl (by decide) rfl (xs' := encs (rs78.set y84.toNat (LR.mk x124 r151h))) ((Put.elemN (s := 1) (y := (LR.mk x124 r151h)) rfl r155g (Put.here (vs := [Sl.v r151h]) rfl)).off (by omega)) (L' := (.own s_a0 34 1 (encs (rs78.set y84.toNat (LR.mk x124 r151h)))) :: L) rfl ?_
      refine hds inv (sc1 (.refl _)) ?_
      refine HdJ.done (by kernel_rfl) ?_
      exact At.meetN (r153h, x128, p136, (rs78.set y84.toNat (LR.mk x124 r151h))) fl ⟨rfl, rfl, rfl, rfl, rfl, rfl, rfl, rfl, trivial⟩ rfl ⟨h149, (r153q.mono (FLe.trans hF86 hF106) (.refl _)), hm156, (All.monoLR ha157 fl (.refl _))⟩
     refine HdStep.c (fun inv => ?_) trivial
     have g158 := lat_some h129
     obtain ⟨⟨r159v, r159h⟩, r159g, r159e, r159m⟩ := map_get fm79 g158.2.2
     obtain rfl : x128 = r159v := r159e.symm
     have r159q : Rd w0 _ _ r159h x128 := fa80 _ r159m
     refine Lst.r (Ev.indexS (α := LR Int) (xs := rs78) rfl rfl Try.runUnderlying56 Try.sizeOf34 rfl (by decide) (rdo 0 rfl rfl rfl) g158.1 (by have := map_len fm79; omega)) ?_
     refine hds inv (sc1 (.refl _)) ?_
     refine HdJ.step [7, 11] (by kernel_rfl) rfl ?_
     refine HdStep.c (fun inv => ?_) ?_
     ·refine Lst.r (Ev.loadS (α := LR Int) rfl (rdo 0 rfl rfl rfl) Try.isAgg34 (v := Sl.v r151h) ((Get.elemN (s := 1) rfl r151g gh0).off (by omega))) ?_
      refine hds inv (sc1 (.refl _)) ?_
      refine HdJ.o1 11 (fun inv => ?_)
      refine Lst.r (Ev.loadS (α := LR Int) rfl (rdo 0 rfl rfl rfl) Try.isAgg34 (v := Sl.v r159h) ((Get.elemN (s := 1) rfl r159g gh0).off (by omega))) ?_
      refine hds inv (sc1 (.refl _)) ?_
      refine HdJ.o1 12 (fun inv => ?_)
      have g160 := lat_some h133
      obtain ⟨⟨r161v, r161h⟩, r161g, r161e, r161m⟩ := map_get fm79 g160.2.2
      obtain rfl : x132 = r161v := r161e.symm
      have r161q : Rd w0 _ _ r161h x132 := fa80 _ r161m
      refine Lst.r (Ev.indexS (α := LR Int) (xs := rs78) rfl rfl Try.runUnderlying56 Try.sizeOf34 rfl (by decide) (rdo 0 rfl rfl rfl) g160.1 (by have := map_len fm79; omega)) ?_
      refine hds inv (sc1 (.refl _)) ?_
      refine HdJ.o1 13 (fun inv => ?_)
      have hm162 : (rs78.set y84.toNat (LR.mk x124 r151h)).map LR.v = p136 := (map_set fm79 _ _).trans h137
      have ha163 : All LR.rel w0 F105 M (rs78.set y84.toNat (LR.mk x124 r151h)) := All.set (All.monoLR fa80 (FLe.trans hF86 hF106) (.refl _)) ((r151q.mono (FLe.trans hF86 hF106) (.refl _)))
      refine Lst.storeS (i := 0) rfl rfl rfl rfl rfl Try.sizeOf34 (vs := [Sl.v r151h]) rfl rfl (by decide) rfl (xs' := encs (rs78.set y84.toNat (LR.mk x124 r151h))) ((Put.elemN (s := 1) (y := (LR.mk x124 r151h)) rfl r161g (Put.here (vs := [Sl.v r151h]) rfl)).off (by omega)) (L' := (.own s_a0 34 1 (encs (rs78.set y84.toNat (LR.mk x124 r151h)))) :: L) rfl ?_
      refine hds inv (sc1 (.refl _)) ?_
      refine HdJ.done (by kernel_rfl) ?_
      exact At.meetN (r159h, x128, p136, (rs78.set y84.toNat (LR.mk x124 r151h))) fl ⟨rfl, rfl, rfl, rfl, rfl, rfl, rfl, rfl, trivial⟩ rfl ⟨h149, (r159q.mono (FLe.trans hF86 hF106) (.refl _)), hm162, (All.monoLR ha163 fl (.refl _))⟩
     refine HdStep.c (fun inv => ?_) trivial
     refine Lst.r (Ev.loadS (α := LR Int) rfl (rdo 0 rfl rfl rfl) Try.isAgg34 (v := Sl.v r159h) ((Get.elemN (s := 1) rfl r159g gh0).off (by omega))) ?_
     refine hds inv (sc1 (.refl _)) ?_
     refine HdJ.o1 7 (fun inv => ?_)
     refine Lst.r (Ev.loadS (α := LR Int) rfl (rdo 0 rfl rfl rfl) Try.isAgg34 (v := Sl.v r151h) ((Get.elemN (s := 1) rfl r151g gh0).off (by omega))) ?_
     refine hds inv (sc1 (.refl _)) ?_
     refine HdJ.o1 12 (fun inv => ?_)
     have g164 := lat_some h133
     obtain ⟨⟨r165v, r165h⟩, r165g, r165e, r165m⟩ := map_get fm79 g164.2.2
     obtain rfl : x132 = r165v := r165e.symm
     have r165q : Rd w0 _ _ r165h x132 := fa80 _ r165m
     refine Lst.r (Ev.indexS (α := LR Int) (xs := rs78) rfl rfl Try.runUnderlying56 Try.sizeOf34 rfl (by decide) (rdo 0 rfl rfl rfl) g164.1 (by have := map_len fm79; omega)) ?_
     refine hds inv (sc1 (.refl _)) ?_
     refine HdJ.o1 13 (fun inv => ?_)
     have hm166 : (rs78.set y84.toNat (LR.mk x124 r151h)).map LR.v = p136 := (map_set fm79 _ _).trans h137
     have ha167 : All LR.rel w0 F105 M (rs78.set y84.toNat (LR.mk x124 r151h)) := All.set (All.monoLR fa80 (FLe.trans hF86 hF106) (.refl _)) ((r151q.mono (FLe.trans hF86 hF106) (.refl _)))
     refine Lst.storeS (i := 0) rfl rfl rfl rfl rfl Try.sizeOf34 (vs := [Sl.v r151h]) rfl rfl (by decide) rfl (xs' := encs (rs78.set y84.toNat (LR.mk x124 r151h))) ((Put.elemN (s := 1) (y := (LR.mk x124 r151h)) rfl r165g (Put.here (vs := [Sl.v r151h]) rfl)).off (by omega)) (L' := (.own s_a0 34 1 (encs (rs78.set y84.toNat (LR.mk x124 r151h)))) :: L) rfl ?_
     refine hds inv (sc1 (.refl _)) ?_
     refine HdJ.done (by kernel_rfl) ?_
     exact At.meetN (r159h, x128, p136, (rs78.set y84.toNat (LR.mk x124 r151h))) fl ⟨rfl, rfl, rfl, rfl, rfl, rfl, rfl, rfl, trivial⟩ rfl ⟨h149, (r159q.mono (FLe.trans hF86 hF106) (.refl _)), hm166, (All.monoLR ha167 fl (.refl _))⟩
    refine HdStep.c (fun inv => ?_) trivial
    have g168 := lat_some h129
    obtain ⟨⟨r169v, r169h⟩, r169g, r169e, r169m⟩ := map_get fm79 g168.2.2
    obtain rfl : x128 = r169v := r169e.symm
    have r169q : Rd w0 _ _ r169h x128 := fa80 _ r169m
    refine Lst.r (Ev.indexS (α := LR Int) (xs := rs78) rfl rfl Try.runUnderlying56 Try.sizeOf34 rfl (by decide) (rdo 0 rfl rfl rfl) g168.1 (by have := map_len fm79; omega)) ?_
    refine hds inv (sc1 (.refl _)) ?_
    refine HdJ.step [6, 11] (by kernel_rfl) rfl ?_
    refine HdStep.c (fun inv => ?_) ?_
    ·have g170 := lat_some h125
     obtain ⟨⟨r171v, r171h⟩, r171g, r171e, r171m⟩ := map_get fm79 g170.2.2
     obtain rfl : x124 = r171v := r171e.symm
     have r171q : Rd w0 _ _ r171h x124 := fa80 _ r171m
     refine Lst.r (Ev.indexS (α := LR Int) (xs := rs78) rfl rfl Try.runUnderlying56 Try.sizeOf34 rfl (by decide) (rdo 0 rfl rfl rfl) g170.1 (by have := map_len fm79; omega)) ?_
     refine hds inv (sc1 (.refl _)) ?_
     refine HdJ.step [7, 11] (by kernel_rfl) rfl ?_
     refine HdStep.c (fun inv => ?_) ?_
     ·refine Lst.r (Ev.loadS (α := LR Int) rfl (rdo 0 rfl rfl rfl) Try.isAgg34 (v := Sl.v r171h) ((Get.elemN (s := 1) rfl r171g gh0).off (by omega))) ?_
      refine hds inv (sc1 (.refl _)) ?_
      refine HdJ.o1 11 (fun inv => ?_)
      refine Lst.r (Ev.loadS (α := LR Int) rfl (rdo 0 rfl rfl rfl) Try.isAgg34 (v := Sl.v r169h) ((Get.elemN (s := 1) rfl r169g gh0).off (by omega))) ?_
      refine hds inv (sc1 (.refl _)) ?_
      refine HdJ.o1 12 (fun inv => ?_)
      have g172 := lat_some h133
      obtain ⟨⟨r173v, r173h⟩, r173g, r173e, r173m⟩ := map_get fm79 g172.2.2
      obtain rfl : x132 = r173v := r173e.symm
      have r173q : Rd w0 _ _ r173h x132 := fa80 _ r173m
      refine Lst.r (Ev.indexS (α := LR Int) (xs := rs78) rfl rfl Try.runUnderlying56 Try.sizeOf34 rfl (by decide) (rdo 0 rfl rfl rfl) g172.1 (by have := map_len fm79; omega)) ?_
      refine hds inv (sc1 (.refl _)) ?_
      refine HdJ.o1 13 (fun inv => ?_)
      have hm174 : (rs78.set y84.toNat (LR.mk x124 r171h)).map LR.v = p136 := (map_set fm79 _ _).trans h137
      have ha175 : All LR.rel w0 F105 M (rs78.set y84.toNat (LR.mk x124 r171h)) := All.set (All.monoLR fa80 (FLe.trans hF86 hF106) (.refl _)) ((r171q.mono (FLe.trans hF86 hF106) (.refl _)))
      refine Lst.storeS (i := 0) rfl rfl rfl rfl rfl Try.sizeOf34 (vs := [Sl.v r171h]) rfl rfl (by decide) rfl (xs' := encs (rs78.set y84.toNat (LR.mk x124 r171h))) ((Put.elemN (s := 1) (y := (LR.mk x124 r171h)) rfl r173g (Put.here (vs := [Sl.v r171h]) rfl)).off (by omega)) (L' := (.own s_a0 34 1 (encs (rs78.set y84.toNat (LR.mk x124 r171h)))) :: L) rfl ?_
      refine hds inv (sc1 (.refl _)) ?_
      refine HdJ.done (by kernel_rfl) ?_
      exact At.meetN (r169h, x128, p136, (rs78.set y84.toNat (LR.mk x124 r171h))) fl ⟨rfl, rfl, rfl, rfl, rfl, rfl, rfl, rfl, trivial⟩ rfl ⟨h149, (r169q.mono (FLe.trans hF86 hF106) (.refl _)), hm174, (All.monoLR ha175 fl (.refl _))⟩
     refine HdStep.c (fun inv => ?_) trivial
     refine Lst.r (Ev.loadS (α := LR Int) rfl (rdo 0 rfl rfl rfl) Try.isAgg34 (v := Sl.v r169h) ((Get.elemN (s := 1) rfl r169g gh0).off (by omega))) ?_
     refine hds inv (sc1 (.refl _)) ?_
     refine HdJ.o1 7 (fun inv => ?_)
     refine Lst.r (Ev.loadS (α := LR Int) rfl (rdo 0 rfl rfl rfl) Try.isAgg34 (v := Sl.v r171h) ((Get.elemN (s := 1) rfl r171g gh0).off (by omega))) ?_
     refine hds inv (sc1 (.refl _)) ?_
     refine HdJ.o1 12 (fun inv => ?_)
     have g176 := lat_some h133
     obtain ⟨⟨r177v, r177h⟩, r177g, r177e, r177m⟩ := map_get fm79 g176.2.2
     obtain rfl : x132 = r177v := r177e.symm
     have r177q : Rd w0 _ _ r177h x132 := fa80 _ r177m
     refine Lst.r (Ev.indexS (α := LR Int) (xs := rs78) rfl rfl Try.runUnderlying56 Try.sizeOf34 rfl (by decide) (rdo 0 rfl rfl rfl) g176.1 (by have := map_len fm79; omega)) ?_
     refine hds inv (sc1 (.refl _)) ?_
     refine HdJ.o1 13 (fun inv => ?_)
     have hm178 : (rs78.set y84.toNat (LR.mk x124 r171h)).map LR.v = p136 := (map_set fm79 _ _).trans h137
     have ha179 : All LR.rel w0 F105 M (rs78.set y84.toNat (LR.mk x124 r171h)) := All.set (All.monoLR fa80 (FLe.trans hF86 hF106) (.refl _)) ((r171q.mono (FLe.trans hF86 hF106) (.refl _)))
     refine Lst.storeS (i := 0) rfl rfl rfl rfl rfl Try.sizeOf34 (vs := [Sl.v r171h]) rfl rfl (by decide) rfl (xs' := encs (rs78.set y84.toNat (LR.mk x124 r171h))) ((Put.elemN (s := 1) (y := (LR.mk x124 r171h)) rfl r177g (Put.here (vs := [Sl.v r171h]) rfl)).off (by omega)) (L' := (.own s_a0 34 1 (encs (rs78.set y84.toNat (LR.mk x124 r171h)))) :: L) rfl ?_
     refine hds inv (sc1 (.refl _)) ?_
     refine HdJ.done (by kernel_rfl) ?_
     exact At.meetN (r169h, x128, p136, (rs78.set y84.toNat (LR.mk x124 r171h))) fl ⟨rfl, rfl, rfl, rfl, rfl, rfl, rfl, rfl, trivial⟩ rfl ⟨h149, (r169q.mono (FLe.trans hF86 hF106) (.refl _)), hm178, (All.monoLR ha179 fl (.refl _))⟩
    refine HdStep.c (fun inv => ?_) trivial
    refine Lst.r (Ev.loadS (α := LR Int) rfl (rdo 0 rfl rfl rfl) Try.isAgg34 (v := Sl.v r169h) ((Get.elemN (s := 1) rfl r169g gh0).off (by omega))) ?_
    refine hds inv (sc1 (.refl _)) ?_
    refine HdJ.o1 6 (fun inv => ?_)
    have g180 := lat_some h125
    obtain ⟨⟨r181v, r181h⟩, r181g, r181e, r181m⟩ := map_get fm79 g180.2.2
    obtain rfl : x124 = r181v := r181e.symm
    have r181q : Rd w0 _ _ r181h x124 := fa80 _ r181m
    refine Lst.r (Ev.indexS (α := LR Int) (xs := rs78) rfl rfl Try.runUnderlying56 Try.sizeOf34 rfl (by decide) (rdo 0 rfl rfl rfl) g180.1 (by have := map_len fm79; omega)) ?_
    refine hds inv (sc1 (.refl _)) ?_
    refine HdJ.o1 7 (fun inv => ?_)
    refine Lst.r (Ev.loadS (α := LR Int) rfl (rdo 0 rfl rfl rfl) Try.isAgg34 (v := Sl.v r181h) ((Get.elemN (s := 1) rfl r181g gh0).off (by omega))) ?_
    refine hds inv (sc1 (.refl _)) ?_
    refine HdJ.o1 12 (fun inv => ?_)
    have g182 := lat_some h133
    obtain ⟨⟨r183v, r183h⟩, r183g, r183e, r183m⟩ := map_get fm79 g182.2.2
    obtain rfl : x132 = r183v := r183e.symm
    have r183q : Rd w0 _ _ r183h x132 := fa80 _ r183m
    refine Lst.r (Ev.indexS (α := LR Int) (xs := rs78) rfl rfl Try.runUnderlying56 Try.sizeOf34 rfl (by decide) (rdo 0 rfl rfl rfl) g182.1 (by have := map_len fm79; omega)) ?_
    refine hds inv (sc1 (.refl _)) ?_
    refine HdJ.o1 13 (fun inv => ?_)
    have hm184 : (rs78.set y84.toNat (LR.mk x124 r181h)).map LR.v = p136 := (map_set fm79 _ _).trans h137
    have ha185 : All LR.rel w0 F105 M (rs78.set y84.toNat (LR.mk x124 r181h)) := All.set (All.monoLR fa80 (FLe.trans hF86 hF106) (.refl _)) ((r181q.mono (FLe.trans hF86 hF106) (.refl _)))
    refine Lst.storeS (i := 0) rfl rfl rfl rfl rfl Try.sizeOf34 (vs := [Sl.v r181h]) rfl rfl (by decide) rfl (xs' := encs (rs78.set y84.toNat (LR.mk x124 r181h))) ((Put.elemN (s := 1) (y := (LR.mk x124 r181h)) rfl r183g (Put.here (vs := [Sl.v r181h]) rfl)).off (by omega)) (L' := (.own s_a0 34 1 (encs (rs78.set y84.toNat (LR.mk x124 r181h)))) :: L) rfl ?_
    refine hds inv (sc1 (.refl _)) ?_
    refine HdJ.done (by kernel_rfl) ?_
    exact At.meetN (r169h, x128, p136, (rs78.set y84.toNat (LR.mk x124 r181h))) fl ⟨rfl, rfl, rfl, rfl, rfl, rfl, rfl, rfl, trivial⟩ rfl ⟨h149, (r169q.mono (FLe.trans hF86 hF106) (.refl _)), hm184, (All.monoLR ha185 fl (.refl _))⟩
   rintro F186 ⟨s141, l142, l144, rs145⟩ hF187 ⟨hy, f143, fm146, fa147⟩
   subst hy
   try dsimp only at H
   refine Lst.as (e' := [(0, Sl.v s_a0), (1, iv a1), (4, .func (.func 71) #[] #[]), (11, iv y84), (12, iv y104), (73, Sl.v s_a0), (74, iv y104), (82, Sl.v s141)]) (L' := (.own s_a0 34 1 (encs rs145)) :: L) ⟨rfl, rfl, rfl, rfl, rfl, rfl, rfl, rfl, trivial⟩ rfl ?_
   obtain ⟨x188, h189, H⟩ := bind_some H
   have g190 := lat_some h189
   obtain ⟨⟨r191v, r191h⟩, r191g, r191e, r191m⟩ := map_get fm146 g190.2.2
   obtain rfl : x188 = r191v := r191e.symm
   have r191q : Rd w0 _ _ r191h x188 := fa147 _ r191m
   refine Lst.r (Ev.indexS (α := LR Int) (xs := rs145) rfl rfl Try.runUnderlying56 Try.sizeOf34 rfl (by decide) (rdo 0 rfl rfl rfl) g190.1 (by have := map_len fm146; omega)) ?_
   obtain ⟨p192, h193, H⟩ := Let_some H
   have hm194 : (rs145.set y104.toNat (LR.mk l142 s141)).map LR.v = p192 := (map_set fm146 _ _).trans h193
   have ha195 : All LR.rel w0 F186 M (rs145.set y104.toNat (LR.mk l142 s141)) := All.set (All.monoLR fa147 fl (.refl _)) ((f143.mono fl (.refl _)))
   refine Lst.storeS (i := 0) rfl rfl rfl rfl rfl Try.sizeOf34 (vs := [Sl.v s141]) rfl rfl (by decide) rfl (xs' := encs (rs145.set y104.toNat (LR.mk l142 s141))) ((Put.elemN (s := 1) (y := (LR.mk l142 s141)) rfl r191g (Put.here (vs := [Sl.v s141]) rfl)).off (by omega)) (L' := (.own s_a0 34 1 (encs (rs145.set y104.toNat (LR.mk l142 s141)))) :: L) rfl ?_
   refine nsr ?_
   refine mv0 rfl ?_
   refine Lst.r (Ev.add rfl rfl) ?_
   refine Lst.r (Ev.assign rfl) ?_
   refine nt0 ?_
   refine Cd.region ?_
   refine mv0 rfl ?_
   refine Lst.r (Ev.sub rfl rfl) ?_
   refine Lst.r (Ev.assign rfl) ?_
   refine Lst.nil ?_
   refine At.in_normal ?_
   exact At.meet (k74, w64 (y84 + (1 : Int)), w64 (y104 - (1 : Int)), p192, (rs145.set y104.toNat (LR.mk l142 s141))) (FLe.trans (FLe.trans (FLe.trans hF82 hF86) hF106) hF187) ⟨rfl, rfl, rfl, rfl, rfl, trivial⟩ rfl ⟨⟨hgo74 _ (some_inj H).symm, hm194, (All.monoLR ha195 fl (.refl _))⟩, Nat.lt_succ_self _⟩
  replace H := ite_t hb122 H
  refine Cd.condT rfl hb122 ?_
  refine Cd.skip ?_
  refine At.then ?_
  refine Cd.block ?_
  refine Cd.region ?_
  refine mv0 rfl ?_
  refine Lst.r (Ev.sub rfl rfl) ?_
  refine Lst.r (Ev.assign rfl) ?_
  refine Lst.nil ?_
  refine At.in_normal ?_
  exact At.meet (k103, w64 (y104 - (1 : Int))) hF106 ⟨rfl, rfl, rfl, rfl, rfl, trivial⟩ rfl ⟨hgo103 _ (some_inj H).symm, Nat.lt_succ_self _⟩
 replace H := ite_t hb102 H
 refine Cd.condT rfl hb102 ?_
 refine Cd.skip ?_
 refine At.then ?_
 refine Cd.block ?_
 refine Cd.region ?_
 refine mv0 rfl ?_
 refine Lst.r (Ev.add rfl rfl) ?_
 refine Lst.r (Ev.assign rfl) ?_
 refine Lst.nil ?_
 refine At.in_normal ?_
 exact At.meet (k83, w64 (y84 + (1 : Int))) hF86 ⟨rfl, rfl, rfl, rfl, rfl, trivial⟩ rfl ⟨hgo83 _ (some_inj H).symm, Nat.lt_succ_self _⟩
end Go.Proofs.Yticifbmaapnfbaa
