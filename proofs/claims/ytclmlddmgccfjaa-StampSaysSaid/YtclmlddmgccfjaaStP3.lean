/-
  The functions compute their specs; printed by a program.
-/
import Derived.Test.YtclmlddmgccfjaaStP2
namespace Go.Proofs.Ytclmlddmgccfjaa
open Go.RowKit Enc
set_option linter.unusedVariables false
set_option linter.unusedSimpArgs false
set_option maxRecDepth 20000 in
theorem slices_Equal_int_int_sim {a0 : List Int} {a1 : List Int} {s_a0 : Sl} {s_a1 : Sl} {r : Bool} (H : slices_Equal_int_int a0 a1 = some r) (w0 : World) (F : Frz) (M L : List Item) (hM : M.Sublist L) (hs_a0 : Rd w0 F M s_a0 a0) (hs_a1 : Rd w0 F M s_a1 a1) : Ok Try.prog w0 24 [Sl.v s_a0, Sl.v s_a1] F (L) (Is (.bool r) (L)) := by
  unfold slices_Equal_int_int at H
  refine Ok.enter (m := 2) (n := 26) Try.func24 rfl rfl rfl (by decide) ?_
  refine Cd.env (e' := [(0, Sl.v s_a0), (1, Sl.v s_a1)]) rfl ?_
  refine Cd.seq ?_
  refine Cd.region ?_
  refine Lst.run rfl rfl (by decide) (Ev.assign rfl) ?_
  refine Lst.nil ?_
  refine At.then ?_
  refine Cd.seq ?_
  refine Cd.seq ?_
  refine Cd.region ?_
  refine Lst.run rfl rfl (by decide) (Ev.move rfl) ?_
  refine Lst.run rfl rfl (by decide) (Ev.lenS (α := Int) (xs := a0) (by decide) rfl rfl Try.runUnderlying36 (hs_a0.mono (FLe.refl _) hM)) ?_
  refine Lst.run rfl rfl (by decide) (Ev.move rfl) ?_
  refine Lst.run rfl rfl (by decide) (Ev.lenS (α := Int) (xs := a1) (by decide) rfl rfl Try.runUnderlying36 (hs_a1.mono (FLe.refl _) hM)) ?_
  refine Lst.run rfl rfl (by decide) (Ev.neq rfl rfl) ?_
  refine Lst.nil ?_
  refine At.then ?_
  rcases Bool.eq_false_or_eq_true ((a0.length : Int) != (a1.length : Int)) with hb1 | hb1
  · replace H := ite_t hb1 H
    refine Cd.condT rfl hb1 ?_
    refine Cd.seq ?_
    refine Cd.region ?_
    refine Lst.run rfl rfl (by decide) (Ev.assign rfl) ?_
    refine Lst.nil ?_
    refine At.then ?_
    obtain rfl := some_inj H
    refine Cd.ret ?_
    refine At.then_ret ?_
    exact At.ret1 rfl (Res.tmp rfl) (FLe.refl _) (List.Sublist.refl _) ⟨rfl, rfl⟩
  replace H := ite_f hb1 H
  refine Cd.condF rfl hb1 ?_
  refine Cd.skip ?_
  refine At.then ?_
  refine Cd.seq ?_
  refine Cd.seq ?_
  refine Cd.region ?_
  refine Lst.run rfl rfl (by decide) (Ev.move rfl) ?_
  refine Lst.run rfl rfl (by decide) (Ev.lenS (α := Int) (xs := a0) (by decide) rfl rfl Try.runUnderlying36 (hs_a0.mono (FLe.refl _) hM)) ?_
  refine Lst.run rfl rfl (by decide) (Ev.move rfl) ?_
  refine Lst.nil ?_
  refine At.then ?_
  refine Cd.block ?_
  refine Cd.bound (Rd.le (α := Int) (xs := a0) (by decide) (hs_a0.mono (FLe.refl _) hM)) (fun hN12 => ?_)
  obtain ⟨ol2, H, HKl2⟩ := andThen_some H
  refine Cd.loop (σ := Nat × Nat × Unit) (fun (i2, k2, _u) => [(0, Sl.v s_a0), (1, Sl.v s_a1), (12, .int .i64 (a0.length : Int)), (13, .int .i64 (i2 : Int))]) (fun (i2, k2, _u) => L) (fun _ => (fun (i2, k2, _u) => rangeM (slices_Equal_int_int_B0 a0 a1) k2 i2 () = some ol2 ∧ i2 + k2 = a0.length)) (fun (i2, k2, _u) => k2) (0, a0.length, ()) ⟨rfl, rfl, rfl, rfl, trivial⟩ rfl ⟨H, by omega⟩ ?_
  rintro F3 ⟨i2, k2, _u⟩ hF4 ⟨H, hik2⟩
  refine Cd.as (e' := [(0, Sl.v s_a0), (1, Sl.v s_a1), (12, .int .i64 (a0.length : Int)), (13, .int .i64 (i2 : Int))]) (L' := L) ⟨rfl, rfl, rfl, rfl, trivial⟩ rfl ?_
  rcases k2 with _ | k2
  · have hc2 : decide ((i2 : Int) < (a0.length : Int)) = false := decide_eq_false (by omega)
    replace H := rangeM_end H
    refine Cd.seq ?_
    refine Cd.region ?_
    refine Lst.run rfl rfl (by decide) (Ev.lss rfl rfl) ?_
    refine Lst.nil ?_
    refine At.then ?_
    refine Cd.seq ?_
    refine Cd.condF rfl hc2 ?_
    refine Cd.exit ?_
    refine At.then_exit ?_
    refine At.then_exit ?_
    refine At.in_exit ?_
    subst H
    replace H := HKl2
    refine At.then ?_
    refine Cd.seq ?_
    refine Cd.region ?_
    refine Lst.run rfl rfl (by decide) (Ev.assign rfl) ?_
    refine Lst.nil ?_
    refine At.then ?_
    obtain rfl := some_inj H
    refine Cd.ret ?_
    exact At.ret1 rfl (Res.tmp rfl) hF4 (List.Sublist.refl _) ⟨rfl, rfl⟩
  have hc2 : decide ((i2 : Int) < (a0.length : Int)) = true := decide_eq_true (by omega)
  obtain ⟨c2, H, hgo2, hbrk2, hret2⟩ := rangeM_go H
  unfold slices_Equal_int_int_B0 at H
  try dsimp only at H
  refine Cd.seq ?_
  refine Cd.region ?_
  refine Lst.run rfl rfl (by decide) (Ev.lss rfl rfl) ?_
  refine Lst.nil ?_
  refine At.then ?_
  refine Cd.seq ?_
  refine Cd.condT rfl hc2 ?_
  refine Cd.skip ?_
  refine At.then ?_
  refine Cd.seq ?_
  refine Cd.block ?_
  refine Cd.seq ?_
  refine Cd.region ?_
  refine Lst.run rfl rfl (by decide) (Ev.move rfl) ?_
  refine Lst.run rfl rfl (by decide) (Ev.assign rfl) ?_
  refine Lst.nil ?_
  refine At.then ?_
  refine Cd.seq ?_
  refine Cd.quiet (by kernel_rfl) (by kernel_rfl) ?_
  refine Qt.run rfl rfl (by decide) (Ev.move rfl) ?_
  refine Qt.run rfl rfl (by decide) (Ev.move rfl) ?_
  obtain ⟨x5, h6, H⟩ := bind_some H
  have g7 := lat_some h6
  refine Qt.run rfl rfl (by decide) (Ev.indexS (α := Int) (xs := a0) rfl rfl Try.runUnderlying36 Try.sizeOf3 rfl (by decide) (hs_a0.mono hF4 hM) g7.1 g7.2.1) ?_
  refine Qt.run rfl rfl (by decide) (Ev.loadS (α := Int) rfl (hs_a0.mono hF4 hM) Try.isAgg3 (v := .int .i64 x5) ((Get.elemN (s := 1) (x := x5) rfl g7.2.2 (Get.here _)).off (by omega))) ?_
  refine Qt.run rfl rfl (by decide) (Ev.move rfl) ?_
  refine Qt.run rfl rfl (by decide) (Ev.move rfl) ?_
  obtain ⟨x8, h9, H⟩ := bind_some H
  have g10 := lat_some h9
  refine Qt.run rfl rfl (by decide) (Ev.indexS (α := Int) (xs := a1) rfl rfl Try.runUnderlying36 Try.sizeOf3 rfl (by decide) (hs_a1.mono hF4 hM) g10.1 g10.2.1) ?_
  refine Qt.run rfl rfl (by decide) (Ev.loadS (α := Int) rfl (hs_a1.mono hF4 hM) Try.isAgg3 (v := .int .i64 x8) ((Get.elemN (s := 1) (x := x8) rfl g10.2.2 (Get.here _)).off (by omega))) ?_
  refine Qt.run rfl rfl (by decide) (Ev.neq rfl rfl) ?_
  refine Qt.done ?_
  refine At.then ?_
  rcases Bool.eq_false_or_eq_true (x5 != x8) with hb11 | hb11
  · replace H := ite_t hb11 H
    refine Cd.condT rfl hb11 ?_
    refine Cd.seq ?_
    refine Cd.as (e' := []) (L' := L) trivial rfl ?_
    refine Cd.region ?_
    refine Lst.run rfl rfl (by decide) (Ev.assign rfl) ?_
    refine Lst.nil ?_
    refine At.then ?_
    have H := hret2 _ (some_inj H).symm
    subst H
    replace H := HKl2
    obtain rfl := some_inj H
    refine Cd.ret ?_
    refine At.in_ret ?_
    refine At.then_ret ?_
    refine At.then_ret ?_
    refine At.in_ret ?_
    refine At.then_ret ?_
    exact At.ret1 rfl (Res.tmp rfl) hF4 (List.Sublist.refl _) ⟨rfl, rfl⟩
  replace H := ite_f hb11 H
  refine Cd.condF rfl hb11 ?_
  refine Cd.skip ?_
  refine At.in_normal ?_
  refine At.then ?_
  refine Cd.region ?_
  refine Lst.run rfl rfl (by decide) (Ev.incr (by omega) rfl rfl) ?_
  refine Lst.run rfl rfl (by decide) (Ev.move rfl) ?_
  refine Lst.nil ?_
  exact At.meet (i2 + 1, k2, ()) hF4 ⟨rfl, rfl, rfl, rfl, trivial⟩ rfl ⟨⟨hgo2 _ (some_inj H).symm, by omega⟩, Nat.lt_succ_self _⟩
set_option maxRecDepth 20000 in
theorem slices_Index_int_int_sim {a0 : List Int} {a1 : Int} {s_a0 : Sl} {r : Int} (H : slices_Index_int_int a0 a1 = some r) (w0 : World) (F : Frz) (M L : List Item) (hM : M.Sublist L) (hs_a0 : Rd w0 F M s_a0 a0) : Ok Try.prog w0 70 [Sl.v s_a0, .int .i64 a1] F (L) (Is (.int .i64 r) (L)) := by
  unfold slices_Index_int_int at H
  refine Ok.enter (m := 2) (n := 19) Try.func70 rfl rfl rfl (by decide) ?_
  refine Cd.env (e' := [(0, Sl.v s_a0), (1, .int .i64 a1)]) rfl ?_
  refine Cd.seq ?_
  refine Cd.region ?_
  refine Lst.run rfl rfl (by decide) (Ev.assign rfl) ?_
  refine Lst.nil ?_
  refine At.then ?_
  refine Cd.seq ?_
  refine Cd.seq ?_
  refine Cd.region ?_
  refine Lst.run rfl rfl (by decide) (Ev.move rfl) ?_
  refine Lst.run rfl rfl (by decide) (Ev.lenS (α := Int) (xs := a0) (by decide) rfl rfl Try.runUnderlying36 (hs_a0.mono (FLe.refl _) hM)) ?_
  refine Lst.run rfl rfl (by decide) (Ev.move rfl) ?_
  refine Lst.nil ?_
  refine At.then ?_
  refine Cd.block ?_
  refine Cd.bound (Rd.le (α := Int) (xs := a0) (by decide) (hs_a0.mono (FLe.refl _) hM)) (fun hN8 => ?_)
  obtain ⟨ol1, H, HKl1⟩ := andThen_some H
  refine Cd.loop (σ := Nat × Nat × Unit) (fun (i1, k1, _u) => [(0, Sl.v s_a0), (1, .int .i64 a1), (7, .int .i64 (a0.length : Int)), (8, .int .i64 (i1 : Int))]) (fun (i1, k1, _u) => L) (fun _ => (fun (i1, k1, _u) => rangeM (slices_Index_int_int_B0 a0 a1) k1 i1 () = some ol1 ∧ i1 + k1 = a0.length)) (fun (i1, k1, _u) => k1) (0, a0.length, ()) ⟨rfl, rfl, rfl, rfl, trivial⟩ rfl ⟨H, by omega⟩ ?_
  rintro F2 ⟨i1, k1, _u⟩ hF3 ⟨H, hik1⟩
  refine Cd.as (e' := [(0, Sl.v s_a0), (1, .int .i64 a1), (7, .int .i64 (a0.length : Int)), (8, .int .i64 (i1 : Int))]) (L' := L) ⟨rfl, rfl, rfl, rfl, trivial⟩ rfl ?_
  rcases k1 with _ | k1
  · have hc1 : decide ((i1 : Int) < (a0.length : Int)) = false := decide_eq_false (by omega)
    replace H := rangeM_end H
    refine Cd.seq ?_
    refine Cd.region ?_
    refine Lst.run rfl rfl (by decide) (Ev.lss rfl rfl) ?_
    refine Lst.nil ?_
    refine At.then ?_
    refine Cd.seq ?_
    refine Cd.condF rfl hc1 ?_
    refine Cd.exit ?_
    refine At.then_exit ?_
    refine At.then_exit ?_
    refine At.in_exit ?_
    subst H
    replace H := HKl1
    refine At.then ?_
    refine Cd.seq ?_
    refine Cd.region ?_
    refine Lst.run rfl rfl (by decide) (Ev.assign rfl) ?_
    refine Lst.nil ?_
    refine At.then ?_
    obtain rfl := some_inj H
    refine Cd.ret ?_
    exact At.ret1 rfl (Res.tmp rfl) hF3 (List.Sublist.refl _) ⟨rfl, rfl⟩
  have hc1 : decide ((i1 : Int) < (a0.length : Int)) = true := decide_eq_true (by omega)
  obtain ⟨c1, H, hgo1, hbrk1, hret1⟩ := rangeM_go H
  unfold slices_Index_int_int_B0 at H
  try dsimp only at H
  refine Cd.seq ?_
  refine Cd.region ?_
  refine Lst.run rfl rfl (by decide) (Ev.lss rfl rfl) ?_
  refine Lst.nil ?_
  refine At.then ?_
  refine Cd.seq ?_
  refine Cd.condT rfl hc1 ?_
  refine Cd.skip ?_
  refine At.then ?_
  refine Cd.seq ?_
  refine Cd.block ?_
  refine Cd.seq ?_
  refine Cd.region ?_
  refine Lst.run rfl rfl (by decide) (Ev.move rfl) ?_
  refine Lst.run rfl rfl (by decide) (Ev.assign rfl) ?_
  refine Lst.nil ?_
  refine At.then ?_
  refine Cd.seq ?_
  refine Cd.region ?_
  refine Lst.run rfl rfl (by decide) (Ev.move rfl) ?_
  refine Lst.run rfl rfl (by decide) (Ev.move rfl) ?_
  refine Lst.run rfl rfl (by decide) (Ev.move rfl) ?_
  obtain ⟨x4, h5, H⟩ := bind_some H
  have g6 := lat_some h5
  refine Lst.run rfl rfl (by decide) (Ev.indexS (α := Int) (xs := a0) rfl rfl Try.runUnderlying36 Try.sizeOf3 rfl (by decide) (hs_a0.mono hF3 hM) g6.1 g6.2.1) ?_
  refine Lst.run rfl rfl (by decide) (Ev.loadS (α := Int) rfl (hs_a0.mono hF3 hM) Try.isAgg3 (v := .int .i64 x4) ((Get.elemN (s := 1) (x := x4) rfl g6.2.2 (Get.here _)).off (by omega))) ?_
  refine Lst.run rfl rfl (by decide) (Ev.eql rfl rfl) ?_
  refine Lst.nil ?_
  refine At.then ?_
  rcases Bool.eq_false_or_eq_true (a1 == x4) with hb7 | hb7
  · replace H := ite_t hb7 H
    refine Cd.condT rfl hb7 ?_
    refine Cd.seq ?_
    refine Cd.region ?_
    refine Lst.run rfl rfl (by decide) (Ev.move rfl) ?_
    refine Lst.run rfl rfl (by decide) (Ev.assign rfl) ?_
    refine Lst.nil ?_
    refine At.then ?_
    have H := hret1 _ (some_inj H).symm
    subst H
    replace H := HKl1
    obtain rfl := some_inj H
    refine Cd.ret ?_
    refine At.in_ret ?_
    refine At.then_ret ?_
    refine At.then_ret ?_
    refine At.in_ret ?_
    refine At.then_ret ?_
    exact At.ret1 rfl (Res.tmp rfl) hF3 (List.Sublist.refl _) ⟨rfl, rfl⟩
  replace H := ite_f hb7 H
  refine Cd.condF rfl hb7 ?_
  refine Cd.skip ?_
  refine At.in_normal ?_
  refine At.then ?_
  refine Cd.region ?_
  refine Lst.run rfl rfl (by decide) (Ev.incr (by omega) rfl rfl) ?_
  refine Lst.run rfl rfl (by decide) (Ev.move rfl) ?_
  refine Lst.nil ?_
  exact At.meet (i1 + 1, k1, ()) hF3 ⟨rfl, rfl, rfl, rfl, trivial⟩ rfl ⟨⟨hgo1 _ (some_inj H).symm, by omega⟩, Nat.lt_succ_self _⟩
set_option maxRecDepth 20000 in
theorem slices_Contains_int_int_sim {a0 : List Int} {a1 : Int} {s_a0 : Sl} {r : Bool} (H : slices_Contains_int_int a0 a1 = some r) (w0 : World) (F : Frz) (M L : List Item) (hM : M.Sublist L) (hs_a0 : Rd w0 F M s_a0 a0) : Ok Try.prog w0 53 [Sl.v s_a0, .int .i64 a1] F (L) (Is (.bool r) (L)) := by
  unfold slices_Contains_int_int at H
  refine Ok.enter (m := 2) (n := 9) Try.func53 rfl rfl rfl (by decide) ?_
  refine Cd.env (e' := [(0, Sl.v s_a0), (1, .int .i64 a1)]) rfl ?_
  refine Cd.seq ?_
  refine Cd.region ?_
  refine Lst.run rfl rfl (by decide) (Ev.assign rfl) ?_
  refine Lst.nil ?_
  refine At.then ?_
  refine Cd.seq ?_
  refine Cd.region ?_
  refine Lst.run rfl rfl (by decide) (Ev.move rfl) ?_
  refine Lst.run rfl rfl (by decide) (Ev.move rfl) ?_
  obtain ⟨r1, h2, H⟩ := bind_some H
  refine Lst.call1 rfl rfl (by decide) (vs := [Sl.v s_a0, .int .i64 a1]) ⟨rfl, rfl, trivial⟩ Try.call70 (slices_Index_int_int_sim h2 w0 _ M _ hM (hs_a0.mono (FLe.refl _) (List.Sublist.refl _))) ?_
  refine Lst.run rfl rfl (by decide) (Ev.geq rfl rfl) ?_
  refine Lst.run rfl rfl (by decide) (Ev.assign rfl) ?_
  refine Lst.nil ?_
  refine At.then ?_
  obtain rfl := some_inj H
  refine Cd.ret ?_
  exact At.ret1 rfl (Res.tmp rfl) (FLe.refl _) (List.Sublist.refl _) ⟨rfl, rfl⟩
set_option maxRecDepth 20000 in
theorem partref_Total_sim {fu : Nat} {a0 : List Event} {s_a0 : Sl} {r : (List Int)} (H : partref_Total fu a0 = some r) (w0 : World) (F : Frz) (M L : List Item) (hM : M.Sublist L) (hs_a0 : Rd w0 F M s_a0 a0) : Ok Try.prog w0 26 [Sl.v s_a0] F (L) (fun _ L' v => ∃ (s1 : Sl), v = Sl.v s1 ∧ L' = (.own s1 3 1 (encs r)) :: L) := by
  unfold partref_Total at H
  refine Ok.enter (m := 1) (n := 69) Try.func26 rfl rfl rfl (by decide) ?_
  refine Cd.env (e' := [(0, Sl.v s_a0)]) rfl ?_
  refine Cd.seq ?_
  refine Cd.region ?_
  refine Lst.addNil 3 1 ?_
  refine Lst.run rfl rfl (by decide) (Ev.assign rfl) ?_
  refine Lst.nil ?_
  refine At.then ?_
  refine Cd.seq ?_
  refine Cd.region ?_
  refine Lst.run rfl rfl (by decide) (Ev.move rfl) ?_
  obtain ⟨r2, h3, H⟩ := bind_some H
  refine Lst.call rfl rfl (by decide) (vs := [Sl.v s_a0]) ⟨rfl, trivial⟩ Try.call25 (partref_Stamps_sim h3 w0 _ M _ (List.Sublist.cons _ hM) (hs_a0.mono (FLe.refl _) (List.Sublist.refl _))) (fun F6 L' v hF7 hv => ?_)
  obtain ⟨s4, rfl, rfl⟩ := hv
  refine Lst.run rfl rfl (by decide) (Ev.assign rfl) ?_
  refine Lst.nil ?_
  refine At.then ?_
  refine Cd.seq ?_
  refine Cd.region ?_
  refine Lst.addNil 3 1 ?_
  refine Lst.run rfl rfl (by decide) (Ev.assign rfl) ?_
  refine Lst.nil ?_
  refine At.then ?_
  refine Cd.seq ?_
  refine Cd.block ?_
  obtain ⟨ol9, H, HKl9⟩ := andThen_some H
  refine Cd.loop (σ := Nat × Sl × (List Int)) (fun (k9, s10, l11) => [(0, Sl.v s_a0), (3, Sl.v s4), (4, Sl.v s10)]) (fun (k9, s10, l11) => (.own s10 3 1 (encs l11)) :: (.own s4 3 1 (encs r2)) :: (.own Sl.nil 3 1 (encs ([] : List Int))) :: L) (fun _ => (fun (k9, s10, l11) => whileM (partref_Total_B0 a0 r2) k9 l11 = some ol9)) (fun (k9, s10, l11) => k9) (fu, Sl.nil, ([] : List Int)) ⟨rfl, rfl, rfl, trivial⟩ rfl H ?_
  rintro F12 ⟨k9, s10, l11⟩ hF13 H
  refine Cd.as (e' := [(0, Sl.v s_a0), (3, Sl.v s4), (4, Sl.v s10)]) (L' := (.own s10 3 1 (encs l11)) :: (.own s4 3 1 (encs r2)) :: (.own Sl.nil 3 1 (encs ([] : List Int))) :: L) ⟨rfl, rfl, rfl, trivial⟩ rfl ?_
  rcases k9 with _ | k9
  · cases H
  obtain ⟨c9, H, hgo9, hbrk9, hret9⟩ := whileM_go H
  unfold partref_Total_B0 at H
  try dsimp only at H
  refine Cd.seq ?_
  refine Cd.seq ?_
  refine Cd.region ?_
  refine Lst.run rfl rfl (by decide) (Ev.move rfl) ?_
  refine Lst.run rfl rfl (by decide) (Ev.lenS (α := Int) (xs := l11) (by decide) rfl rfl Try.runUnderlying36 (Rd.own (i := 0) rfl rfl rfl)) ?_
  refine Lst.run rfl rfl (by decide) (Ev.move rfl) ?_
  refine Lst.run rfl rfl (by decide) (Ev.lenS (α := Event) (xs := a0) (by decide) rfl rfl Try.runUnderlying24 (hs_a0.mono (FLe.trans hF7 hF13) (List.Sublist.cons _ (List.Sublist.cons _ (List.Sublist.cons _ hM))))) ?_
  refine Lst.run rfl rfl (by decide) (Ev.lss rfl rfl) ?_
  refine Lst.nil ?_
  refine At.then ?_
  rcases (Bool.eq_false_or_eq_true (decide ((l11.length : Int) < (a0.length : Int)))).symm with hb14 | hb14
  · replace H := ite_f hb14 H
    refine Cd.condF rfl hb14 ?_
    refine Cd.exit ?_
    refine At.then_exit ?_
    refine At.then_exit ?_
    refine At.in_exit ?_
    have H := hbrk9 _ (some_inj H).symm
    subst H
    replace H := HKl9
    refine At.then ?_
    refine Cd.seq ?_
    refine Cd.region ?_
    refine Lst.run rfl rfl (by decide) (Ev.move rfl) ?_
    refine Lst.run rfl rfl (by decide) (Ev.assign rfl) ?_
    refine Lst.nil ?_
    refine At.then ?_
    obtain rfl := some_inj H
    refine Cd.ret ?_
    exact At.ret1 rfl (Res.tmp rfl) (FLe.trans hF7 hF13) (List.Sublist.cons_cons _ (List.Sublist.cons _ (List.Sublist.cons _ (List.Sublist.refl _)))) ⟨s10, rfl, rfl⟩
  replace H := ite_t hb14 H
  refine Cd.condT rfl hb14 ?_
  refine Cd.skip ?_
  refine At.then ?_
  refine Cd.block ?_
  refine Cd.seq ?_
  refine Cd.region ?_
  refine Lst.run rfl rfl (by decide) (Ev.assign rfl) ?_
  refine Lst.nil ?_
  refine At.then ?_
  refine Cd.seq ?_
  refine Cd.seq ?_
  refine Cd.region ?_
  refine Lst.run rfl rfl (by decide) (Ev.move rfl) ?_
  refine Lst.run rfl rfl (by decide) (Ev.lenS (α := Event) (xs := a0) (by decide) rfl rfl Try.runUnderlying24 (hs_a0.mono (FLe.trans hF7 hF13) (List.Sublist.cons _ (List.Sublist.cons _ (List.Sublist.cons _ hM))))) ?_
  refine Lst.run rfl rfl (by decide) (Ev.move rfl) ?_
  refine Lst.nil ?_
  refine At.then ?_
  refine Cd.block ?_
  refine Cd.bound (Rd.le (α := Event) (xs := a0) (by decide) (hs_a0.mono (FLe.trans hF7 hF13) (List.Sublist.cons _ (List.Sublist.cons _ (List.Sublist.cons _ hM))))) (fun hN59 => ?_)
  obtain ⟨ol15, H, HKl15⟩ := bind_some H
  refine Cd.loop (σ := Nat × Nat × Int) (fun (i15, k15, y16) => [(0, Sl.v s_a0), (3, Sl.v s4), (4, Sl.v s10), (5, .int .i64 y16), (15, .int .i64 (a0.length : Int)), (16, .int .i64 (i15 : Int))]) (fun (i15, k15, y16) => (.own s10 3 1 (encs l11)) :: (.own s4 3 1 (encs r2)) :: (.own Sl.nil 3 1 (encs ([] : List Int))) :: L) (fun _ => (fun (i15, k15, y16) => rangeF (partref_Total_B2 a0 r2 l11) k15 i15 y16 = some ol15 ∧ i15 + k15 = a0.length)) (fun (i15, k15, y16) => k15) (0, a0.length, (-1 : Int)) ⟨rfl, rfl, rfl, rfl, rfl, rfl, trivial⟩ rfl ⟨H, by omega⟩ ?_
  rintro F17 ⟨i15, k15, y16⟩ hF18 ⟨H, hik15⟩
  refine Cd.as (e' := [(0, Sl.v s_a0), (3, Sl.v s4), (4, Sl.v s10), (5, .int .i64 y16), (15, .int .i64 (a0.length : Int)), (16, .int .i64 (i15 : Int))]) (L' := (.own s10 3 1 (encs l11)) :: (.own s4 3 1 (encs r2)) :: (.own Sl.nil 3 1 (encs ([] : List Int))) :: L) ⟨rfl, rfl, rfl, rfl, rfl, rfl, trivial⟩ rfl ?_
  rcases k15 with _ | k15
  · have hc15 : decide ((i15 : Int) < (a0.length : Int)) = false := decide_eq_false (by omega)
    replace H := rangeF_end H
    refine Cd.seq ?_
    refine Cd.region ?_
    refine Lst.run rfl rfl (by decide) (Ev.lss rfl rfl) ?_
    refine Lst.nil ?_
    refine At.then ?_
    refine Cd.seq ?_
    refine Cd.condF rfl hc15 ?_
    refine Cd.exit ?_
    refine At.then_exit ?_
    refine At.then_exit ?_
    refine At.in_exit ?_
    subst H
    replace H := HKl15
    refine At.then ?_
    refine Cd.region ?_
    refine Lst.run rfl rfl (by decide) (Ev.move rfl) ?_
    refine Lst.run rfl rfl (by decide) (Ev.move rfl) ?_
    refine Lst.buildSlice (α := Int) (xs := ([y16] : List Int)) (pv := [(0, .int .i64 y16)]) rfl rfl (by decide) ⟨rfl, rfl, trivial⟩ (run_buildSlice (α := Int) (z0 := (0 : Int)) (xs := ([y16] : List Int)) Try.runUnderlying36 Try.sizeOf3 Try.zeroValue3 rfl rfl rfl (by decide) rfl (fill_cons (cs := encs (List.replicate 1 (0 : Int))) (cs' := encs ((List.replicate 1 (0 : Int)).set 0 y16)) (vs := [.int .i64 y16]) rfl rfl rfl ((Put.elemN (s := 1) (i := 0) (x := (0 : Int)) (y := y16) rfl rfl (Put.here (vs := [.int .i64 y16]) rfl)).off rfl) fill_nil)) rfl rfl (by decide) (fun s54 _ => ?_)
    obtain ⟨u56, h57, H⟩ := bind_some H
    refine Lst.append (i := 1) (α := Int) (xs := l11) (ys := ([y16] : List Int)) rfl rfl (by decide) rfl rfl Try.runUnderlying36 Try.typeInfo3 rfl rfl rfl rfl rfl rfl (Rd.own (i := 0) rfl rfl rfl) rfl (room_some h57) rfl (fun s58 => ?_)
    refine Lst.its (L' := (.own s54 3 1 (encs ([y16] : List Int))) :: (.own s58 3 1 (encs (l11 ++ ([y16] : List Int)))) :: (.own s4 3 1 (encs r2)) :: (.own Sl.nil 3 1 (encs ([] : List Int))) :: L) rfl ?_
    refine Lst.run rfl rfl (by decide) (Ev.assign rfl) ?_
    refine Lst.nil ?_
    refine At.in_normal ?_
    refine At.less (L' := (.own s58 3 1 (encs (l11 ++ ([y16] : List Int)))) :: (.own s4 3 1 (encs r2)) :: (.own Sl.nil 3 1 (encs ([] : List Int))) :: L) (List.Sublist.cons _ (List.Sublist.cons_cons _ (List.Sublist.cons_cons _ (List.Sublist.cons_cons _ (List.Sublist.refl _))))) ?_
    exact At.meet (k9, s58, l11 ++ ([y16] : List Int)) (FLe.trans hF13 hF18) ⟨rfl, rfl, rfl, trivial⟩ rfl ⟨hgo9 _ (some_inj H).symm, Nat.lt_succ_self _⟩
  have hc15 : decide ((i15 : Int) < (a0.length : Int)) = true := decide_eq_true (by omega)
  obtain ⟨c15, H, hgo15⟩ := rangeF_go H
  unfold partref_Total_B2 at H
  try dsimp only at H
  refine Cd.seq ?_
  refine Cd.region ?_
  refine Lst.run rfl rfl (by decide) (Ev.lss rfl rfl) ?_
  refine Lst.nil ?_
  refine At.then ?_
  refine Cd.seq ?_
  refine Cd.condT rfl hc15 ?_
  refine Cd.skip ?_
  refine At.then ?_
  refine Cd.seq ?_
  refine Cd.block ?_
  refine Cd.seq ?_
  refine Cd.region ?_
  refine Lst.run rfl rfl (by decide) (Ev.move rfl) ?_
  refine Lst.run rfl rfl (by decide) (Ev.assign rfl) ?_
  refine Lst.nil ?_
  refine At.then ?_
  refine Cd.seq ?_
  refine Cd.quiet (by kernel_rfl) (by kernel_rfl) ?_
  refine Qt.run rfl rfl (by decide) (Ev.move rfl) ?_
  refine Qt.run rfl rfl (by decide) (Ev.move rfl) ?_
  obtain ⟨r19, h20, H⟩ := bind_some H
  refine Qt.call rfl rfl (by decide) (vs := [Sl.v s10, .int .i64 (i15 : Int)]) ⟨rfl, rfl, trivial⟩ Try.call53 (slices_Contains_int_int_sim h20 w0 _ _ _ (List.Sublist.refl _) (Rd.own (i := 0) rfl rfl rfl)) ?_
  refine Qt.run rfl rfl (by decide) (Ev.not rfl) ?_
  refine Qt.run rfl rfl (by decide) (Ev.move rfl) ?_
  obtain ⟨o23, H, HKo23⟩ := bind_some H
  refine Qt.join (σ := Bool) 38 (fun y24 => [(0, Sl.v s_a0), (3, Sl.v s4), (4, Sl.v s10), (5, .int .i64 y16), (6, .int .i64 (i15 : Int)), (15, .int .i64 (a0.length : Int)), (16, .int .i64 (i15 : Int)), (61, .bool y24)]) (fun y24 => y24 = o23) ?_ ?_
  · rcases (Bool.eq_false_or_eq_true (!r19)).symm with hb25 | hb25
    · replace H := ite_f hb25 H
      refine Qt.skip rfl rfl rfl hb25 rfl (by decide) ?_
      refine Qt.skip rfl rfl rfl hb25 rfl (by decide) ?_
      refine Qt.skip rfl rfl rfl hb25 rfl (by decide) ?_
      refine Qt.skipU rfl rfl rfl rfl (by decide) ?_
      refine Qt.skipU rfl rfl rfl rfl (by decide) ?_
      refine Qt.skipU rfl rfl rfl rfl (by decide) ?_
      refine Qt.skipU rfl rfl rfl rfl (by decide) ?_
      refine Qt.skipU rfl rfl rfl rfl (by decide) ?_
      refine Qt.skipU rfl rfl rfl rfl (by decide) ?_
      refine Qt.skipU rfl rfl rfl rfl (by decide) ?_
      refine Qt.skipU rfl rfl rfl rfl (by decide) ?_
      refine Qt.skipU rfl rfl rfl rfl (by decide) ?_
      refine Qt.skip rfl rfl rfl hb25 rfl (by decide) ?_
      refine Qt.skip rfl rfl rfl hb25 rfl (by decide) ?_
      refine Qt.skipU rfl rfl rfl rfl (by decide) ?_
      refine Qt.skipU rfl rfl rfl rfl (by decide) ?_
      refine Qt.skipU rfl rfl rfl rfl (by decide) ?_
      refine Qt.skipU rfl rfl rfl rfl (by decide) ?_
      refine Qt.skipU rfl rfl rfl rfl (by decide) ?_
      refine Qt.skipU rfl rfl rfl rfl (by decide) ?_
      refine Qt.skipU rfl rfl rfl rfl (by decide) ?_
      refine Qt.skipU rfl rfl rfl rfl (by decide) ?_
      refine Qt.skipU rfl rfl rfl rfl (by decide) ?_
      refine Qt.skipU rfl rfl rfl rfl (by decide) ?_
      refine Qt.skipU rfl rfl rfl rfl (by decide) ?_
      refine Qt.skipU rfl rfl rfl rfl (by decide) ?_
      refine Qt.skipU rfl rfl rfl rfl (by decide) ?_
      refine Qt.skipU rfl rfl rfl rfl (by decide) ?_
      refine Qt.skipU rfl rfl rfl rfl (by decide) ?_
      refine Qt.skipU rfl rfl rfl rfl (by decide) ?_
      refine Qt.skipU rfl rfl rfl rfl (by decide) ?_
      refine Qt.skipU rfl rfl rfl rfl (by decide) ?_
      refine Qt.skipU rfl rfl rfl rfl (by decide) ?_
      refine Qt.skipU rfl rfl rfl rfl (by decide) ?_
      refine Qt.skipU rfl rfl rfl rfl (by decide) ?_
      refine Qt.skipU rfl rfl rfl rfl (by decide) ?_
      refine Qt.skip rfl rfl rfl hb25 rfl (by decide) ?_
      refine Qt.run rfl rfl (by decide) (Ev.pickF rfl hb25 rfl) ?_
      exact Qt.meet false ⟨rfl, rfl, rfl, rfl, rfl, rfl, rfl, rfl, trivial⟩ (some_inj H)
    replace H := ite_t hb25 H
    refine Qt.runG rfl rfl rfl hb25 rfl (by decide) (Ev.move rfl) ?_
    refine Qt.runG rfl rfl rfl hb25 rfl (by decide) (Ev.lss rfl rfl) ?_
    refine Qt.runG rfl rfl rfl hb25 rfl (by decide) (Ev.move rfl) ?_
    obtain ⟨o26, H, HKo26⟩ := bind_some H
    refine Qt.join (σ := Bool) 10 (fun y27 => [(0, Sl.v s_a0), (3, Sl.v s4), (4, Sl.v s10), (5, .int .i64 y16), (6, .int .i64 (i15 : Int)), (15, .int .i64 (a0.length : Int)), (16, .int .i64 (i15 : Int)), (23, .bool (!r19)), (36, .bool y27)]) (fun y27 => y27 = o26) ?_ ?_
    · rcases Bool.eq_false_or_eq_true (decide (y16 < (0 : Int))) with hb28 | hb28
      · replace H := ite_t hb28 H
        refine Qt.skip rfl rfl rfl hb28 rfl (by decide) ?_
        refine Qt.skip rfl rfl rfl hb28 rfl (by decide) ?_
        refine Qt.skip rfl rfl rfl hb28 rfl (by decide) ?_
        refine Qt.skip rfl rfl rfl hb28 rfl (by decide) ?_
        refine Qt.skip rfl rfl rfl hb28 rfl (by decide) ?_
        refine Qt.skip rfl rfl rfl hb28 rfl (by decide) ?_
        refine Qt.skip rfl rfl rfl hb28 rfl (by decide) ?_
        refine Qt.skip rfl rfl rfl hb28 rfl (by decide) ?_
        refine Qt.skip rfl rfl rfl hb28 rfl (by decide) ?_
        refine Qt.runG rfl rfl rfl hb25 rfl (by decide) (Ev.pickT rfl hb28 rfl) ?_
        exact Qt.meet true ⟨rfl, rfl, rfl, rfl, rfl, rfl, rfl, rfl, rfl, trivial⟩ (some_inj H)
      replace H := ite_f hb28 H
      refine Qt.runG rfl rfl rfl hb28 rfl (by decide) (Ev.move rfl) ?_
      refine Qt.runG rfl rfl rfl hb28 rfl (by decide) (Ev.move rfl) ?_
      obtain ⟨x29, h30, H⟩ := bind_some H
      have g31 := lat_some h30
      refine Qt.runG rfl rfl rfl hb28 rfl (by decide) (Ev.indexS (α := Int) (xs := r2) rfl rfl Try.runUnderlying36 Try.sizeOf3 rfl (by decide) (Rd.own (i := 1) rfl rfl rfl) g31.1 g31.2.1) ?_
      refine Qt.runG rfl rfl rfl hb28 rfl (by decide) (Ev.loadS (α := Int) rfl (Rd.own (i := 1) rfl rfl rfl) Try.isAgg3 (v := .int .i64 x29) ((Get.elemN (s := 1) (x := x29) rfl g31.2.2 (Get.here _)).off (by omega))) ?_
      refine Qt.runG rfl rfl rfl hb28 rfl (by decide) (Ev.move rfl) ?_
      refine Qt.runG rfl rfl rfl hb28 rfl (by decide) (Ev.move rfl) ?_
      obtain ⟨x32, h33, H⟩ := bind_some H
      have g34 := lat_some h33
      refine Qt.runG rfl rfl rfl hb28 rfl (by decide) (Ev.indexS (α := Int) (xs := r2) rfl rfl Try.runUnderlying36 Try.sizeOf3 rfl (by decide) (Rd.own (i := 1) rfl rfl rfl) g34.1 g34.2.1) ?_
      refine Qt.runG rfl rfl rfl hb28 rfl (by decide) (Ev.loadS (α := Int) rfl (Rd.own (i := 1) rfl rfl rfl) Try.isAgg3 (v := .int .i64 x32) ((Get.elemN (s := 1) (x := x32) rfl g34.2.2 (Get.here _)).off (by omega))) ?_
      refine Qt.runG rfl rfl rfl hb28 rfl (by decide) (Ev.lss rfl rfl) ?_
      refine Qt.runG rfl rfl rfl hb25 rfl (by decide) (Ev.pickF rfl hb28 rfl) ?_
      exact Qt.meet (decide (x29 < x32)) ⟨rfl, rfl, rfl, rfl, rfl, rfl, rfl, rfl, rfl, trivial⟩ (some_inj H)
    rintro y27 hy
    subst hy
    refine Qt.as (e' := [(0, Sl.v s_a0), (3, Sl.v s4), (4, Sl.v s10), (5, .int .i64 y16), (6, .int .i64 (i15 : Int)), (15, .int .i64 (a0.length : Int)), (16, .int .i64 (i15 : Int)), (23, .bool (!r19)), (36, .bool y27)]) ⟨rfl, rfl, rfl, rfl, rfl, rfl, rfl, rfl, rfl, trivial⟩ ?_
    replace H := HKo26
    refine Qt.runG rfl rfl rfl hb25 rfl (by decide) (Ev.move rfl) ?_
    obtain ⟨o35, H, HKo35⟩ := bind_some H
    refine Qt.join (σ := Bool) 23 (fun y36 => [(0, Sl.v s_a0), (3, Sl.v s4), (4, Sl.v s10), (5, .int .i64 y16), (6, .int .i64 (i15 : Int)), (15, .int .i64 (a0.length : Int)), (16, .int .i64 (i15 : Int)), (23, .bool (!r19)), (60, .bool y36)]) (fun y36 => y36 = o35) ?_ ?_
    · rcases Bool.eq_false_or_eq_true y27 with hb37 | hb37
      · replace H := ite_t hb37 H
        refine Qt.skip rfl rfl rfl hb37 rfl (by decide) ?_
        refine Qt.skip rfl rfl rfl hb37 rfl (by decide) ?_
        refine Qt.skip rfl rfl rfl hb37 rfl (by decide) ?_
        refine Qt.skip rfl rfl rfl hb37 rfl (by decide) ?_
        refine Qt.skip rfl rfl rfl hb37 rfl (by decide) ?_
        refine Qt.skip rfl rfl rfl hb37 rfl (by decide) ?_
        refine Qt.skip rfl rfl rfl hb37 rfl (by decide) ?_
        refine Qt.skip rfl rfl rfl hb37 rfl (by decide) ?_
        refine Qt.skip rfl rfl rfl hb37 rfl (by decide) ?_
        refine Qt.skip rfl rfl rfl hb37 rfl (by decide) ?_
        refine Qt.skipU rfl rfl rfl rfl (by decide) ?_
        refine Qt.skipU rfl rfl rfl rfl (by decide) ?_
        refine Qt.skipU rfl rfl rfl rfl (by decide) ?_
        refine Qt.skipU rfl rfl rfl rfl (by decide) ?_
        refine Qt.skipU rfl rfl rfl rfl (by decide) ?_
        refine Qt.skipU rfl rfl rfl rfl (by decide) ?_
        refine Qt.skipU rfl rfl rfl rfl (by decide) ?_
        refine Qt.skipU rfl rfl rfl rfl (by decide) ?_
        refine Qt.skipU rfl rfl rfl rfl (by decide) ?_
        refine Qt.skipU rfl rfl rfl rfl (by decide) ?_
        refine Qt.skipU rfl rfl rfl rfl (by decide) ?_
        refine Qt.skip rfl rfl rfl hb37 rfl (by decide) ?_
        refine Qt.runG rfl rfl rfl hb25 rfl (by decide) (Ev.pickT rfl hb37 rfl) ?_
        exact Qt.meet true ⟨rfl, rfl, rfl, rfl, rfl, rfl, rfl, rfl, rfl, trivial⟩ (some_inj H)
      replace H := ite_f hb37 H
      refine Qt.runG rfl rfl rfl hb37 rfl (by decide) (Ev.move rfl) ?_
      refine Qt.runG rfl rfl rfl hb37 rfl (by decide) (Ev.move rfl) ?_
      obtain ⟨x38, h39, H⟩ := bind_some H
      have g40 := lat_some h39
      refine Qt.runG rfl rfl rfl hb37 rfl (by decide) (Ev.indexS (α := Int) (xs := r2) rfl rfl Try.runUnderlying36 Try.sizeOf3 rfl (by decide) (Rd.own (i := 1) rfl rfl rfl) g40.1 g40.2.1) ?_
      refine Qt.runG rfl rfl rfl hb37 rfl (by decide) (Ev.loadS (α := Int) rfl (Rd.own (i := 1) rfl rfl rfl) Try.isAgg3 (v := .int .i64 x38) ((Get.elemN (s := 1) (x := x38) rfl g40.2.2 (Get.here _)).off (by omega))) ?_
      refine Qt.runG rfl rfl rfl hb37 rfl (by decide) (Ev.move rfl) ?_
      refine Qt.runG rfl rfl rfl hb37 rfl (by decide) (Ev.move rfl) ?_
      obtain ⟨x41, h42, H⟩ := bind_some H
      have g43 := lat_some h42
      refine Qt.runG rfl rfl rfl hb37 rfl (by decide) (Ev.indexS (α := Int) (xs := r2) rfl rfl Try.runUnderlying36 Try.sizeOf3 rfl (by decide) (Rd.own (i := 1) rfl rfl rfl) g43.1 g43.2.1) ?_
      refine Qt.runG rfl rfl rfl hb37 rfl (by decide) (Ev.loadS (α := Int) rfl (Rd.own (i := 1) rfl rfl rfl) Try.isAgg3 (v := .int .i64 x41) ((Get.elemN (s := 1) (x := x41) rfl g43.2.2 (Get.here _)).off (by omega))) ?_
      refine Qt.runG rfl rfl rfl hb37 rfl (by decide) (Ev.eql rfl rfl) ?_
      refine Qt.runG rfl rfl rfl hb37 rfl (by decide) (Ev.move rfl) ?_
      obtain ⟨o44, H, HKo44⟩ := bind_some H
      refine Qt.join (σ := Bool) 12 (fun y45 => [(0, Sl.v s_a0), (3, Sl.v s4), (4, Sl.v s10), (5, .int .i64 y16), (6, .int .i64 (i15 : Int)), (15, .int .i64 (a0.length : Int)), (16, .int .i64 (i15 : Int)), (23, .bool (!r19)), (37, .bool y27), (59, .bool y45)]) (fun y45 => y45 = o44) ?_ ?_
      · rcases (Bool.eq_false_or_eq_true (x38 == x41)).symm with hb46 | hb46
        · replace H := ite_f hb46 H
          refine Qt.skip rfl rfl rfl hb46 rfl (by decide) ?_
          refine Qt.skip rfl rfl rfl hb46 rfl (by decide) ?_
          refine Qt.skip rfl rfl rfl hb46 rfl (by decide) ?_
          refine Qt.skip rfl rfl rfl hb46 rfl (by decide) ?_
          refine Qt.skip rfl rfl rfl hb46 rfl (by decide) ?_
          refine Qt.skip rfl rfl rfl hb46 rfl (by decide) ?_
          refine Qt.skip rfl rfl rfl hb46 rfl (by decide) ?_
          refine Qt.skip rfl rfl rfl hb46 rfl (by decide) ?_
          refine Qt.skip rfl rfl rfl hb46 rfl (by decide) ?_
          refine Qt.skip rfl rfl rfl hb46 rfl (by decide) ?_
          refine Qt.skip rfl rfl rfl hb46 rfl (by decide) ?_
          refine Qt.runG rfl rfl rfl hb37 rfl (by decide) (Ev.pickF rfl hb46 rfl) ?_
          exact Qt.meet false ⟨rfl, rfl, rfl, rfl, rfl, rfl, rfl, rfl, rfl, rfl, trivial⟩ (some_inj H)
        replace H := ite_t hb46 H
        refine Qt.runG rfl rfl rfl hb46 rfl (by decide) (Ev.move rfl) ?_
        refine Qt.runG rfl rfl rfl hb46 rfl (by decide) (Ev.move rfl) ?_
        obtain ⟨x47, h48, H⟩ := bind_some H
        have g49 := lat_some h48
        refine Qt.runG rfl rfl rfl hb46 rfl (by decide) (Ev.indexS (α := Event) (xs := a0) rfl rfl Try.runUnderlying24 Try.sizeOf75 rfl (by decide) (hs_a0.mono (FLe.trans (FLe.trans hF7 hF13) hF18) (List.Sublist.cons _ (List.Sublist.cons _ (List.Sublist.cons _ hM)))) g49.1 g49.2.1) ?_
        refine Qt.runG rfl rfl rfl hb46 rfl (by decide) (Ev.fieldS (α := Event) (f' := (i15 : Int).toNat * 3 + 0) rfl (hs_a0.mono (FLe.trans (FLe.trans hF7 hF13) hF18) (List.Sublist.cons _ (List.Sublist.cons _ (List.Sublist.cons _ hM)))) ((Get.elemN (s := 3) (x := x47) rfl g49.2.2 (Get.here _)).off (by omega)) rfl Try.runUnderlying75 rfl Try.sizeOf3 rfl rfl rfl) ?_
        refine Qt.runG rfl rfl rfl hb46 rfl (by decide) (Ev.loadS (α := Event) rfl (hs_a0.mono (FLe.trans (FLe.trans hF7 hF13) hF18) (List.Sublist.cons _ (List.Sublist.cons _ (List.Sublist.cons _ hM)))) Try.isAgg3 (v := .int .i64 x47.Proc) ((Get.elemN (s := 3) (x := x47) rfl g49.2.2 (Event.get_Proc (Get.here _))).off (by omega))) ?_
        refine Qt.runG rfl rfl rfl hb46 rfl (by decide) (Ev.move rfl) ?_
        refine Qt.runG rfl rfl rfl hb46 rfl (by decide) (Ev.move rfl) ?_
        obtain ⟨x50, h51, H⟩ := bind_some H
        have g52 := lat_some h51
        refine Qt.runG rfl rfl rfl hb46 rfl (by decide) (Ev.indexS (α := Event) (xs := a0) rfl rfl Try.runUnderlying24 Try.sizeOf75 rfl (by decide) (hs_a0.mono (FLe.trans (FLe.trans hF7 hF13) hF18) (List.Sublist.cons _ (List.Sublist.cons _ (List.Sublist.cons _ hM)))) g52.1 g52.2.1) ?_
        refine Qt.runG rfl rfl rfl hb46 rfl (by decide) (Ev.fieldS (α := Event) (f' := y16.toNat * 3 + 0) rfl (hs_a0.mono (FLe.trans (FLe.trans hF7 hF13) hF18) (List.Sublist.cons _ (List.Sublist.cons _ (List.Sublist.cons _ hM)))) ((Get.elemN (s := 3) (x := x50) rfl g52.2.2 (Get.here _)).off (by omega)) rfl Try.runUnderlying75 rfl Try.sizeOf3 rfl rfl rfl) ?_
        refine Qt.runG rfl rfl rfl hb46 rfl (by decide) (Ev.loadS (α := Event) rfl (hs_a0.mono (FLe.trans (FLe.trans hF7 hF13) hF18) (List.Sublist.cons _ (List.Sublist.cons _ (List.Sublist.cons _ hM)))) Try.isAgg3 (v := .int .i64 x50.Proc) ((Get.elemN (s := 3) (x := x50) rfl g52.2.2 (Event.get_Proc (Get.here _))).off (by omega))) ?_
        refine Qt.runG rfl rfl rfl hb46 rfl (by decide) (Ev.lss rfl rfl) ?_
        refine Qt.runG rfl rfl rfl hb37 rfl (by decide) (Ev.pickT rfl hb46 rfl) ?_
        exact Qt.meet (decide (x47.Proc < x50.Proc)) ⟨rfl, rfl, rfl, rfl, rfl, rfl, rfl, rfl, rfl, rfl, trivial⟩ (some_inj H)
      rintro y45 hy
      subst hy
      refine Qt.as (e' := [(0, Sl.v s_a0), (3, Sl.v s4), (4, Sl.v s10), (5, .int .i64 y16), (6, .int .i64 (i15 : Int)), (15, .int .i64 (a0.length : Int)), (16, .int .i64 (i15 : Int)), (23, .bool (!r19)), (37, .bool y27), (59, .bool y45)]) ⟨rfl, rfl, rfl, rfl, rfl, rfl, rfl, rfl, rfl, rfl, trivial⟩ ?_
      replace H := HKo44
      refine Qt.runG rfl rfl rfl hb25 rfl (by decide) (Ev.pickF rfl hb37 rfl) ?_
      exact Qt.meet y45 ⟨rfl, rfl, rfl, rfl, rfl, rfl, rfl, rfl, rfl, trivial⟩ (some_inj H)
    rintro y36 hy
    subst hy
    refine Qt.as (e' := [(0, Sl.v s_a0), (3, Sl.v s4), (4, Sl.v s10), (5, .int .i64 y16), (6, .int .i64 (i15 : Int)), (15, .int .i64 (a0.length : Int)), (16, .int .i64 (i15 : Int)), (23, .bool (!r19)), (60, .bool y36)]) ⟨rfl, rfl, rfl, rfl, rfl, rfl, rfl, rfl, rfl, trivial⟩ ?_
    replace H := HKo35
    refine Qt.run rfl rfl (by decide) (Ev.pickT rfl hb25 rfl) ?_
    exact Qt.meet y36 ⟨rfl, rfl, rfl, rfl, rfl, rfl, rfl, rfl, trivial⟩ (some_inj H)
  rintro y24 hy
  subst hy
  refine Qt.as (e' := [(0, Sl.v s_a0), (3, Sl.v s4), (4, Sl.v s10), (5, .int .i64 y16), (6, .int .i64 (i15 : Int)), (15, .int .i64 (a0.length : Int)), (16, .int .i64 (i15 : Int)), (61, .bool y24)]) ⟨rfl, rfl, rfl, rfl, rfl, rfl, rfl, rfl, trivial⟩ ?_
  replace H := HKo23
  refine Qt.done ?_
  refine At.then ?_
  rcases (Bool.eq_false_or_eq_true y24).symm with hb53 | hb53
  · replace H := ite_f hb53 H
    refine Cd.condF rfl hb53 ?_
    refine Cd.skip ?_
    refine At.in_normal ?_
    refine At.then ?_
    refine Cd.region ?_
    refine Lst.run rfl rfl (by decide) (Ev.incr (by omega) rfl rfl) ?_
    refine Lst.run rfl rfl (by decide) (Ev.move rfl) ?_
    refine Lst.nil ?_
    exact At.meet (i15 + 1, k15, y16) hF18 ⟨rfl, rfl, rfl, rfl, rfl, rfl, trivial⟩ rfl ⟨⟨hgo15 _ (some_inj H).symm, by omega⟩, Nat.lt_succ_self _⟩
  replace H := ite_t hb53 H
  refine Cd.condT rfl hb53 ?_
  refine Cd.region ?_
  refine Lst.run rfl rfl (by decide) (Ev.move rfl) ?_
  refine Lst.run rfl rfl (by decide) (Ev.assign rfl) ?_
  refine Lst.nil ?_
  refine At.in_normal ?_
  refine At.then ?_
  refine Cd.region ?_
  refine Lst.run rfl rfl (by decide) (Ev.incr (by omega) rfl rfl) ?_
  refine Lst.run rfl rfl (by decide) (Ev.move rfl) ?_
  refine Lst.nil ?_
  exact At.meet (i15 + 1, k15, (i15 : Int)) hF18 ⟨rfl, rfl, rfl, rfl, rfl, rfl, trivial⟩ rfl ⟨⟨hgo15 _ (some_inj H).symm, by omega⟩, Nat.lt_succ_self _⟩
set_option maxRecDepth 20000 in
theorem slices_Equal_api_Pair_api_Pair_sim {a0 : List Pair} {a1 : List Pair} {s_a0 : Sl} {s_a1 : Sl} {r : Bool} (H : slices_Equal_api_Pair_api_Pair a0 a1 = some r) (w0 : World) (F : Frz) (M L : List Item) (hM : M.Sublist L) (hs_a0 : Rd w0 F M s_a0 a0) (hs_a1 : Rd w0 F M s_a1 a1) : Ok Try.prog w0 27 [Sl.v s_a0, Sl.v s_a1] F (L) (Is (.bool r) (L)) := by
  unfold slices_Equal_api_Pair_api_Pair at H
  refine Ok.enter (m := 2) (n := 26) Try.func27 rfl rfl rfl (by decide) ?_
  refine Cd.env (e' := [(0, Sl.v s_a0), (1, Sl.v s_a1)]) rfl ?_
  refine Cd.seq ?_
  refine Cd.region ?_
  refine Lst.run rfl rfl (by decide) (Ev.assign rfl) ?_
  refine Lst.nil ?_
  refine At.then ?_
  refine Cd.seq ?_
  refine Cd.seq ?_
  refine Cd.region ?_
  refine Lst.run rfl rfl (by decide) (Ev.move rfl) ?_
  refine Lst.run rfl rfl (by decide) (Ev.lenS (α := Pair) (xs := a0) (by decide) rfl rfl Try.runUnderlying39 (hs_a0.mono (FLe.refl _) hM)) ?_
  refine Lst.run rfl rfl (by decide) (Ev.move rfl) ?_
  refine Lst.run rfl rfl (by decide) (Ev.lenS (α := Pair) (xs := a1) (by decide) rfl rfl Try.runUnderlying39 (hs_a1.mono (FLe.refl _) hM)) ?_
  refine Lst.run rfl rfl (by decide) (Ev.neq rfl rfl) ?_
  refine Lst.nil ?_
  refine At.then ?_
  rcases Bool.eq_false_or_eq_true ((a0.length : Int) != (a1.length : Int)) with hb1 | hb1
  · replace H := ite_t hb1 H
    refine Cd.condT rfl hb1 ?_
    refine Cd.seq ?_
    refine Cd.region ?_
    refine Lst.run rfl rfl (by decide) (Ev.assign rfl) ?_
    refine Lst.nil ?_
    refine At.then ?_
    obtain rfl := some_inj H
    refine Cd.ret ?_
    refine At.then_ret ?_
    exact At.ret1 rfl (Res.tmp rfl) (FLe.refl _) (List.Sublist.refl _) ⟨rfl, rfl⟩
  replace H := ite_f hb1 H
  refine Cd.condF rfl hb1 ?_
  refine Cd.skip ?_
  refine At.then ?_
  refine Cd.seq ?_
  refine Cd.seq ?_
  refine Cd.region ?_
  refine Lst.run rfl rfl (by decide) (Ev.move rfl) ?_
  refine Lst.run rfl rfl (by decide) (Ev.lenS (α := Pair) (xs := a0) (by decide) rfl rfl Try.runUnderlying39 (hs_a0.mono (FLe.refl _) hM)) ?_
  refine Lst.run rfl rfl (by decide) (Ev.move rfl) ?_
  refine Lst.nil ?_
  refine At.then ?_
  refine Cd.block ?_
  refine Cd.bound (Rd.le (α := Pair) (xs := a0) (by decide) (hs_a0.mono (FLe.refl _) hM)) (fun hN12 => ?_)
  obtain ⟨ol2, H, HKl2⟩ := andThen_some H
  refine Cd.loop (σ := Nat × Nat × Unit) (fun (i2, k2, _u) => [(0, Sl.v s_a0), (1, Sl.v s_a1), (12, .int .i64 (a0.length : Int)), (13, .int .i64 (i2 : Int))]) (fun (i2, k2, _u) => L) (fun _ => (fun (i2, k2, _u) => rangeM (slices_Equal_api_Pair_api_Pair_B0 a0 a1) k2 i2 () = some ol2 ∧ i2 + k2 = a0.length)) (fun (i2, k2, _u) => k2) (0, a0.length, ()) ⟨rfl, rfl, rfl, rfl, trivial⟩ rfl ⟨H, by omega⟩ ?_
  rintro F3 ⟨i2, k2, _u⟩ hF4 ⟨H, hik2⟩
  refine Cd.as (e' := [(0, Sl.v s_a0), (1, Sl.v s_a1), (12, .int .i64 (a0.length : Int)), (13, .int .i64 (i2 : Int))]) (L' := L) ⟨rfl, rfl, rfl, rfl, trivial⟩ rfl ?_
  rcases k2 with _ | k2
  · have hc2 : decide ((i2 : Int) < (a0.length : Int)) = false := decide_eq_false (by omega)
    replace H := rangeM_end H
    refine Cd.seq ?_
    refine Cd.region ?_
    refine Lst.run rfl rfl (by decide) (Ev.lss rfl rfl) ?_
    refine Lst.nil ?_
    refine At.then ?_
    refine Cd.seq ?_
    refine Cd.condF rfl hc2 ?_
    refine Cd.exit ?_
    refine At.then_exit ?_
    refine At.then_exit ?_
    refine At.in_exit ?_
    subst H
    replace H := HKl2
    refine At.then ?_
    refine Cd.seq ?_
    refine Cd.region ?_
    refine Lst.run rfl rfl (by decide) (Ev.assign rfl) ?_
    refine Lst.nil ?_
    refine At.then ?_
    obtain rfl := some_inj H
    refine Cd.ret ?_
    exact At.ret1 rfl (Res.tmp rfl) hF4 (List.Sublist.refl _) ⟨rfl, rfl⟩
  have hc2 : decide ((i2 : Int) < (a0.length : Int)) = true := decide_eq_true (by omega)
  obtain ⟨c2, H, hgo2, hbrk2, hret2⟩ := rangeM_go H
  unfold slices_Equal_api_Pair_api_Pair_B0 at H
  try dsimp only at H
  refine Cd.seq ?_
  refine Cd.region ?_
  refine Lst.run rfl rfl (by decide) (Ev.lss rfl rfl) ?_
  refine Lst.nil ?_
  refine At.then ?_
  refine Cd.seq ?_
  refine Cd.condT rfl hc2 ?_
  refine Cd.skip ?_
  refine At.then ?_
  refine Cd.seq ?_
  refine Cd.block ?_
  refine Cd.seq ?_
  refine Cd.region ?_
  refine Lst.run rfl rfl (by decide) (Ev.move rfl) ?_
  refine Lst.run rfl rfl (by decide) (Ev.assign rfl) ?_
  refine Lst.nil ?_
  refine At.then ?_
  refine Cd.seq ?_
  refine Cd.quiet (by kernel_rfl) (by kernel_rfl) ?_
  refine Qt.run rfl rfl (by decide) (Ev.move rfl) ?_
  refine Qt.run rfl rfl (by decide) (Ev.move rfl) ?_
  obtain ⟨x5, h6, H⟩ := bind_some H
  have g7 := lat_some h6
  refine Qt.run rfl rfl (by decide) (Ev.indexS (α := Pair) (xs := a0) rfl rfl Try.runUnderlying39 Try.sizeOf46 rfl (by decide) (hs_a0.mono hF4 hM) g7.1 g7.2.1) ?_
  refine Qt.run rfl rfl (by decide) (Ev.loadSA (α := Pair) rfl (hs_a0.mono hF4 hM) Try.isAgg46 Try.sizeOf46 (ch := enc x5) (Enc.len _) (by decide) ((Get.elemN (s := 2) (x := x5) rfl g7.2.2 (Get.here _)).off (by omega))) ?_
  refine Qt.run rfl rfl (by decide) (Ev.move rfl) ?_
  refine Qt.run rfl rfl (by decide) (Ev.move rfl) ?_
  obtain ⟨x8, h9, H⟩ := bind_some H
  have g10 := lat_some h9
  refine Qt.run rfl rfl (by decide) (Ev.indexS (α := Pair) (xs := a1) rfl rfl Try.runUnderlying39 Try.sizeOf46 rfl (by decide) (hs_a1.mono hF4 hM) g10.1 g10.2.1) ?_
  refine Qt.run rfl rfl (by decide) (Ev.loadSA (α := Pair) rfl (hs_a1.mono hF4 hM) Try.isAgg46 Try.sizeOf46 (ch := enc x8) (Enc.len _) (by decide) ((Get.elemN (s := 2) (x := x8) rfl g10.2.2 (Get.here _)).off (by omega))) ?_
  refine Qt.run rfl rfl (by decide) (Ev.neqA rfl rfl (by kernel_rfl) (eq46 _ _)) ?_
  refine Qt.done ?_
  refine At.then ?_
  rcases Bool.eq_false_or_eq_true (!(decide (x5 = x8))) with hb11 | hb11
  · replace H := ite_t hb11 H
    refine Cd.condT rfl hb11 ?_
    refine Cd.seq ?_
    refine Cd.as (e' := []) (L' := L) trivial rfl ?_
    refine Cd.region ?_
    refine Lst.run rfl rfl (by decide) (Ev.assign rfl) ?_
    refine Lst.nil ?_
    refine At.then ?_
    have H := hret2 _ (some_inj H).symm
    subst H
    replace H := HKl2
    obtain rfl := some_inj H
    refine Cd.ret ?_
    refine At.in_ret ?_
    refine At.then_ret ?_
    refine At.then_ret ?_
    refine At.in_ret ?_
    refine At.then_ret ?_
    exact At.ret1 rfl (Res.tmp rfl) hF4 (List.Sublist.refl _) ⟨rfl, rfl⟩
  replace H := ite_f hb11 H
  refine Cd.condF rfl hb11 ?_
  refine Cd.skip ?_
  refine At.in_normal ?_
  refine At.then ?_
  refine Cd.region ?_
  refine Lst.run rfl rfl (by decide) (Ev.incr (by omega) rfl rfl) ?_
  refine Lst.run rfl rfl (by decide) (Ev.move rfl) ?_
  refine Lst.nil ?_
  exact At.meet (i2 + 1, k2, ()) hF4 ⟨rfl, rfl, rfl, rfl, trivial⟩ rfl ⟨⟨hgo2 _ (some_inj H).symm, by omega⟩, Nat.lt_succ_self _⟩
set_option maxRecDepth 20000 in
theorem partlaw_StampSays_sim {fu : Nat} {a0 : List Event} {s_a0 : Sl} {r : Bool} (H : partlaw_StampSays fu a0 = some r) (w0 : World) (F : Frz) (M L : List Item) (hM : M.Sublist L) (hs_a0 : Rd w0 F M s_a0 a0) : Ok Try.prog w0 4 [Sl.v s_a0] F (L) (Is (.bool r) (L)) := by
  unfold partlaw_StampSays at H
  refine Ok.enter (m := 1) (n := 117) Try.func4 rfl rfl rfl (by decide) ?_
  refine Cd.env (e' := [(0, Sl.v s_a0)]) rfl ?_
  refine Cd.seq ?_
  refine Cd.region ?_
  refine Lst.run rfl rfl (by decide) (Ev.assign rfl) ?_
  refine Lst.nil ?_
  refine At.then ?_
  refine Cd.seq ?_
  refine Cd.region ?_
  refine Lst.run rfl rfl (by decide) (Ev.move rfl) ?_
  obtain ⟨r1, h2, H⟩ := bind_some H
  refine Lst.call1 rfl rfl (by decide) (vs := [Sl.v s_a0]) ⟨rfl, trivial⟩ Try.call16 (partref_HistoryErr_sim h2 w0 _ M _ hM (hs_a0.mono (FLe.refl _) (List.Sublist.refl _))) ?_
  refine Lst.run rfl rfl (by decide) (Ev.assign rfl) ?_
  refine Lst.nil ?_
  refine At.then ?_
  refine Cd.seq ?_
  refine Cd.region ?_
  refine Lst.run rfl rfl (by decide) (Ev.move rfl) ?_
  obtain ⟨r5, h6, H⟩ := bind_some H
  refine Lst.call rfl rfl (by decide) (vs := [Sl.v s_a0]) ⟨rfl, trivial⟩ Try.call19 (stamp_Stamps_sim h6 w0 _ M _ hM (hs_a0.mono (FLe.refl _) (List.Sublist.refl _))) (fun F9 L' v hF10 hv => ?_)
  obtain ⟨s7, rfl, rfl⟩ := hv
  refine Lst.run rfl rfl (by decide) (Ev.move rfl) ?_
  refine Lst.run rfl rfl (by decide) (Ev.extract rfl rfl) ?_
  refine Lst.run rfl rfl (by decide) (Ev.extract rfl rfl) ?_
  refine Lst.run rfl rfl (by decide) (Ev.assign rfl) ?_
  refine Lst.run rfl rfl (by decide) (Ev.assign rfl) ?_
  refine Lst.nil ?_
  refine At.then ?_
  refine Cd.seq ?_
  refine Cd.region ?_
  refine Lst.run rfl rfl (by decide) (Ev.move rfl) ?_
  obtain ⟨r11, h12, H⟩ := bind_some H
  refine Lst.call rfl rfl (by decide) (vs := [Sl.v s_a0]) ⟨rfl, trivial⟩ Try.call20 (stamp_Total_sim h12 w0 _ M _ (List.Sublist.cons _ hM) (hs_a0.mono hF10 (List.Sublist.refl _))) (fun F15 L' v hF16 hv => ?_)
  obtain ⟨s13, rfl, rfl⟩ := hv
  refine Lst.run rfl rfl (by decide) (Ev.move rfl) ?_
  refine Lst.run rfl rfl (by decide) (Ev.extract rfl rfl) ?_
  refine Lst.run rfl rfl (by decide) (Ev.extract rfl rfl) ?_
  refine Lst.run rfl rfl (by decide) (Ev.assign rfl) ?_
  refine Lst.run rfl rfl (by decide) (Ev.assign rfl) ?_
  refine Lst.nil ?_
  refine At.then ?_
  refine Cd.seq ?_
  refine Cd.region ?_
  refine Lst.run rfl rfl (by decide) (Ev.move rfl) ?_
  obtain ⟨r17, h18, H⟩ := bind_some H
  refine Lst.call rfl rfl (by decide) (vs := [Sl.v s_a0]) ⟨rfl, trivial⟩ Try.call21 (stamp_Ahead_sim h18 w0 _ M _ (List.Sublist.cons _ (List.Sublist.cons _ hM)) (hs_a0.mono (FLe.trans hF10 hF16) (List.Sublist.refl _))) (fun F21 L' v hF22 hv => ?_)
  obtain ⟨s19, rfl, rfl⟩ := hv
  refine Lst.run rfl rfl (by decide) (Ev.move rfl) ?_
  refine Lst.run rfl rfl (by decide) (Ev.extract rfl rfl) ?_
  refine Lst.run rfl rfl (by decide) (Ev.extract rfl rfl) ?_
  refine Lst.run rfl rfl (by decide) (Ev.assign rfl) ?_
  refine Lst.run rfl rfl (by decide) (Ev.assign rfl) ?_
  refine Lst.nil ?_
  refine At.then ?_
  refine Cd.seq ?_
  refine Cd.seq ?_
  refine Cd.as (e' := [(0, Sl.v s_a0), (3, .int .i64 r1), (4, Sl.v s7), (5, .int .i64 r5.2), (6, Sl.v s13), (7, .int .i64 r11.2), (8, Sl.v s19), (9, .int .i64 r17.2)]) (L' := (.own s19 46 2 (encs r17.1)) :: (.own s13 3 1 (encs r11.1)) :: (.own s7 3 1 (encs r5.1)) :: L) ⟨rfl, rfl, rfl, rfl, rfl, rfl, rfl, rfl, trivial⟩ rfl ?_
  refine Cd.region ?_
  refine Lst.run rfl rfl (by decide) (Ev.move rfl) ?_
  obtain ⟨r23, h24, H⟩ := bind_some H
  refine Lst.call1 rfl rfl (by decide) (vs := [Sl.v s_a0]) ⟨rfl, trivial⟩ Try.call22 (stamp_Check_sim h24 w0 _ M _ (List.Sublist.cons _ (List.Sublist.cons _ (List.Sublist.cons _ hM))) (hs_a0.mono (FLe.trans (FLe.trans hF10 hF16) hF22) (List.Sublist.refl _))) ?_
  refine Lst.run rfl rfl (by decide) (Ev.move rfl) ?_
  refine Lst.run rfl rfl (by decide) (Ev.neq rfl rfl) ?_
  refine Lst.nil ?_
  refine At.then ?_
  rcases Bool.eq_false_or_eq_true (r23 != r1) with hb27 | hb27
  · replace H := ite_t hb27 H
    refine Cd.condT rfl hb27 ?_
    refine Cd.seq ?_
    refine Cd.region ?_
    refine Lst.run rfl rfl (by decide) (Ev.assign rfl) ?_
    refine Lst.nil ?_
    refine At.then ?_
    obtain rfl := some_inj H
    refine Cd.ret ?_
    refine At.then_ret ?_
    exact At.ret1 rfl (Res.tmp rfl) (FLe.trans (FLe.trans hF10 hF16) hF22) (List.Sublist.cons _ (List.Sublist.cons _ (List.Sublist.cons _ (List.Sublist.refl _)))) ⟨rfl, rfl⟩
  replace H := ite_f hb27 H
  refine Cd.condF rfl hb27 ?_
  refine Cd.skip ?_
  refine At.then ?_
  refine Cd.seq ?_
  refine Cd.seq ?_
  refine Cd.region ?_
  refine Lst.run rfl rfl (by decide) (Ev.move rfl) ?_
  refine Lst.run rfl rfl (by decide) (Ev.neq rfl rfl) ?_
  refine Lst.nil ?_
  refine At.then ?_
  rcases Bool.eq_false_or_eq_true (r1 != (0 : Int)) with hb28 | hb28
  · replace H := ite_t hb28 H
    refine Cd.condT rfl hb28 ?_
    refine Cd.seq ?_
    refine Cd.region ?_
    refine Lst.run rfl rfl (by decide) (Ev.move rfl) ?_
    refine Lst.run rfl rfl (by decide) (Ev.lenS (α := Int) (xs := r5.1) (by decide) rfl rfl Try.runUnderlying36 (Rd.own (i := 2) rfl rfl rfl)) ?_
    refine Lst.run rfl rfl (by decide) (Ev.eql rfl rfl) ?_
    refine Lst.run rfl rfl (by decide) (Ev.move rfl) ?_
    obtain ⟨o29, H, HKo29⟩ := bind_some H
    refine Lst.join (σ := Bool) 4 (fun y30 => [(3, .int .i64 r1), (6, Sl.v s13), (7, .int .i64 r11.2), (8, Sl.v s19), (9, .int .i64 r17.2), (45, .bool y30)]) (fun y30 => (.own s19 46 2 (encs r17.1)) :: (.own s13 3 1 (encs r11.1)) :: (.own s7 3 1 (encs r5.1)) :: L) (fun _ y30 => y30 = o29) ?_ ?_
    · rcases (Bool.eq_false_or_eq_true ((r5.1.length : Int) == (0 : Int))).symm with hb31 | hb31
      · replace H := ite_f hb31 H
        refine Lst.skip rfl rfl rfl hb31 rfl (by decide) ?_
        refine Lst.skip rfl rfl rfl hb31 rfl (by decide) ?_
        refine Lst.skip rfl rfl rfl hb31 rfl (by decide) ?_
        refine Lst.run rfl rfl (by decide) (Ev.pickF rfl hb31 rfl) ?_
        refine Lst.nil ?_
        exact At.meet false (FLe.refl _) ⟨rfl, rfl, rfl, rfl, rfl, rfl, trivial⟩ rfl (some_inj H)
      replace H := ite_t hb31 H
      refine Lst.runG rfl rfl rfl hb31 rfl (by decide) (Ev.move rfl) ?_
      refine Lst.runG rfl rfl rfl hb31 rfl (by decide) (Ev.move rfl) ?_
      refine Lst.runG rfl rfl rfl hb31 rfl (by decide) (Ev.eql rfl rfl) ?_
      refine Lst.run rfl rfl (by decide) (Ev.pickT rfl hb31 rfl) ?_
      refine Lst.nil ?_
      exact At.meet (r5.2 == r1) (FLe.refl _) ⟨rfl, rfl, rfl, rfl, rfl, rfl, trivial⟩ rfl (some_inj H)
    rintro F32 y30 hF33 hy
    subst hy
    refine Lst.as (e' := [(3, .int .i64 r1), (6, Sl.v s13), (7, .int .i64 r11.2), (8, Sl.v s19), (9, .int .i64 r17.2), (45, .bool y30)]) (L' := (.own s19 46 2 (encs r17.1)) :: (.own s13 3 1 (encs r11.1)) :: (.own s7 3 1 (encs r5.1)) :: L) ⟨rfl, rfl, rfl, rfl, rfl, rfl, trivial⟩ rfl ?_
    replace H := HKo29
    refine Lst.run rfl rfl (by decide) (Ev.move rfl) ?_
    obtain ⟨o34, H, HKo34⟩ := bind_some H
    refine Lst.join (σ := Bool) 4 (fun y35 => [(3, .int .i64 r1), (7, .int .i64 r11.2), (8, Sl.v s19), (9, .int .i64 r17.2), (50, .bool y35)]) (fun y35 => (.own s19 46 2 (encs r17.1)) :: (.own s13 3 1 (encs r11.1)) :: (.own s7 3 1 (encs r5.1)) :: L) (fun _ y35 => y35 = o34) ?_ ?_
    · rcases (Bool.eq_false_or_eq_true y30).symm with hb36 | hb36
      · replace H := ite_f hb36 H
        refine Lst.skip rfl rfl rfl hb36 rfl (by decide) ?_
        refine Lst.skip rfl rfl rfl hb36 rfl (by decide) ?_
        refine Lst.skip rfl rfl rfl hb36 rfl (by decide) ?_
        refine Lst.run rfl rfl (by decide) (Ev.pickF rfl hb36 rfl) ?_
        refine Lst.nil ?_
        exact At.meet false (FLe.refl _) ⟨rfl, rfl, rfl, rfl, rfl, trivial⟩ rfl (some_inj H)
      replace H := ite_t hb36 H
      refine Lst.runG rfl rfl rfl hb36 rfl (by decide) (Ev.move rfl) ?_
      refine Lst.runG rfl rfl rfl hb36 rfl (by decide) (Ev.lenS (α := Int) (xs := r11.1) (by decide) rfl rfl Try.runUnderlying36 (Rd.own (i := 1) rfl rfl rfl)) ?_
      refine Lst.runG rfl rfl rfl hb36 rfl (by decide) (Ev.eql rfl rfl) ?_
      refine Lst.run rfl rfl (by decide) (Ev.pickT rfl hb36 rfl) ?_
      refine Lst.nil ?_
      exact At.meet ((r11.1.length : Int) == (0 : Int)) (FLe.refl _) ⟨rfl, rfl, rfl, rfl, rfl, trivial⟩ rfl (some_inj H)
    rintro F37 y35 hF38 hy
    subst hy
    refine Lst.as (e' := [(3, .int .i64 r1), (7, .int .i64 r11.2), (8, Sl.v s19), (9, .int .i64 r17.2), (50, .bool y35)]) (L' := (.own s19 46 2 (encs r17.1)) :: (.own s13 3 1 (encs r11.1)) :: (.own s7 3 1 (encs r5.1)) :: L) ⟨rfl, rfl, rfl, rfl, rfl, trivial⟩ rfl ?_
    replace H := HKo34
    refine Lst.run rfl rfl (by decide) (Ev.move rfl) ?_
    obtain ⟨o39, H, HKo39⟩ := bind_some H
    refine Lst.join (σ := Bool) 4 (fun y40 => [(3, .int .i64 r1), (8, Sl.v s19), (9, .int .i64 r17.2), (55, .bool y40)]) (fun y40 => (.own s19 46 2 (encs r17.1)) :: (.own s13 3 1 (encs r11.1)) :: (.own s7 3 1 (encs r5.1)) :: L) (fun _ y40 => y40 = o39) ?_ ?_
    · rcases (Bool.eq_false_or_eq_true y35).symm with hb41 | hb41
      · replace H := ite_f hb41 H
        refine Lst.skip rfl rfl rfl hb41 rfl (by decide) ?_
        refine Lst.skip rfl rfl rfl hb41 rfl (by decide) ?_
        refine Lst.skip rfl rfl rfl hb41 rfl (by decide) ?_
        refine Lst.run rfl rfl (by decide) (Ev.pickF rfl hb41 rfl) ?_
        refine Lst.nil ?_
        exact At.meet false (FLe.refl _) ⟨rfl, rfl, rfl, rfl, trivial⟩ rfl (some_inj H)
      replace H := ite_t hb41 H
      refine Lst.runG rfl rfl rfl hb41 rfl (by decide) (Ev.move rfl) ?_
      refine Lst.runG rfl rfl rfl hb41 rfl (by decide) (Ev.move rfl) ?_
      refine Lst.runG rfl rfl rfl hb41 rfl (by decide) (Ev.eql rfl rfl) ?_
      refine Lst.run rfl rfl (by decide) (Ev.pickT rfl hb41 rfl) ?_
      refine Lst.nil ?_
      exact At.meet (r11.2 == r1) (FLe.refl _) ⟨rfl, rfl, rfl, rfl, trivial⟩ rfl (some_inj H)
    rintro F42 y40 hF43 hy
    subst hy
    refine Lst.as (e' := [(3, .int .i64 r1), (8, Sl.v s19), (9, .int .i64 r17.2), (55, .bool y40)]) (L' := (.own s19 46 2 (encs r17.1)) :: (.own s13 3 1 (encs r11.1)) :: (.own s7 3 1 (encs r5.1)) :: L) ⟨rfl, rfl, rfl, rfl, trivial⟩ rfl ?_
    replace H := HKo39
    refine Lst.run rfl rfl (by decide) (Ev.move rfl) ?_
    obtain ⟨o44, H, HKo44⟩ := bind_some H
    refine Lst.join (σ := Bool) 4 (fun y45 => [(3, .int .i64 r1), (9, .int .i64 r17.2), (60, .bool y45)]) (fun y45 => (.own s19 46 2 (encs r17.1)) :: (.own s13 3 1 (encs r11.1)) :: (.own s7 3 1 (encs r5.1)) :: L) (fun _ y45 => y45 = o44) ?_ ?_
    · rcases (Bool.eq_false_or_eq_true y40).symm with hb46 | hb46
      · replace H := ite_f hb46 H
        refine Lst.skip rfl rfl rfl hb46 rfl (by decide) ?_
        refine Lst.skip rfl rfl rfl hb46 rfl (by decide) ?_
        refine Lst.skip rfl rfl rfl hb46 rfl (by decide) ?_
        refine Lst.run rfl rfl (by decide) (Ev.pickF rfl hb46 rfl) ?_
        refine Lst.nil ?_
        exact At.meet false (FLe.refl _) ⟨rfl, rfl, rfl, trivial⟩ rfl (some_inj H)
      replace H := ite_t hb46 H
      refine Lst.runG rfl rfl rfl hb46 rfl (by decide) (Ev.move rfl) ?_
      refine Lst.runG rfl rfl rfl hb46 rfl (by decide) (Ev.lenS (α := Pair) (xs := r17.1) (by decide) rfl rfl Try.runUnderlying39 (Rd.own (i := 0) rfl rfl rfl)) ?_
      refine Lst.runG rfl rfl rfl hb46 rfl (by decide) (Ev.eql rfl rfl) ?_
      refine Lst.run rfl rfl (by decide) (Ev.pickT rfl hb46 rfl) ?_
      refine Lst.nil ?_
      exact At.meet ((r17.1.length : Int) == (0 : Int)) (FLe.refl _) ⟨rfl, rfl, rfl, trivial⟩ rfl (some_inj H)
    rintro F47 y45 hF48 hy
    subst hy
    refine Lst.as (e' := [(3, .int .i64 r1), (9, .int .i64 r17.2), (60, .bool y45)]) (L' := (.own s19 46 2 (encs r17.1)) :: (.own s13 3 1 (encs r11.1)) :: (.own s7 3 1 (encs r5.1)) :: L) ⟨rfl, rfl, rfl, trivial⟩ rfl ?_
    replace H := HKo44
    refine Lst.run rfl rfl (by decide) (Ev.move rfl) ?_
    obtain ⟨o49, H, HKo49⟩ := bind_some H
    refine Lst.join (σ := Bool) 4 (fun y50 => [(65, .bool y50)]) (fun y50 => (.own s19 46 2 (encs r17.1)) :: (.own s13 3 1 (encs r11.1)) :: (.own s7 3 1 (encs r5.1)) :: L) (fun _ y50 => y50 = o49) ?_ ?_
    · rcases (Bool.eq_false_or_eq_true y45).symm with hb51 | hb51
      · replace H := ite_f hb51 H
        refine Lst.skip rfl rfl rfl hb51 rfl (by decide) ?_
        refine Lst.skip rfl rfl rfl hb51 rfl (by decide) ?_
        refine Lst.skip rfl rfl rfl hb51 rfl (by decide) ?_
        refine Lst.run rfl rfl (by decide) (Ev.pickF rfl hb51 rfl) ?_
        refine Lst.nil ?_
        exact At.meet false (FLe.refl _) ⟨rfl, trivial⟩ rfl (some_inj H)
      replace H := ite_t hb51 H
      refine Lst.runG rfl rfl rfl hb51 rfl (by decide) (Ev.move rfl) ?_
      refine Lst.runG rfl rfl rfl hb51 rfl (by decide) (Ev.move rfl) ?_
      refine Lst.runG rfl rfl rfl hb51 rfl (by decide) (Ev.eql rfl rfl) ?_
      refine Lst.run rfl rfl (by decide) (Ev.pickT rfl hb51 rfl) ?_
      refine Lst.nil ?_
      exact At.meet (r17.2 == r1) (FLe.refl _) ⟨rfl, trivial⟩ rfl (some_inj H)
    rintro F52 y50 hF53 hy
    subst hy
    refine Lst.as (e' := [(65, .bool y50)]) (L' := (.own s19 46 2 (encs r17.1)) :: (.own s13 3 1 (encs r11.1)) :: (.own s7 3 1 (encs r5.1)) :: L) ⟨rfl, trivial⟩ rfl ?_
    replace H := HKo49
    refine Lst.run rfl rfl (by decide) (Ev.assign rfl) ?_
    refine Lst.nil ?_
    refine At.then ?_
    obtain rfl := some_inj H
    refine Cd.ret ?_
    refine At.then_ret ?_
    exact At.ret1 rfl (Res.tmp rfl) (FLe.trans (FLe.trans (FLe.trans (FLe.trans (FLe.trans (FLe.trans (FLe.trans hF10 hF16) hF22) hF33) hF38) hF43) hF48) hF53) (List.Sublist.cons _ (List.Sublist.cons _ (List.Sublist.cons _ (List.Sublist.refl _)))) ⟨rfl, rfl⟩
  replace H := ite_f hb28 H
  refine Cd.condF rfl hb28 ?_
  refine Cd.skip ?_
  refine At.then ?_
  refine Cd.seq ?_
  refine Cd.region ?_
  refine Lst.addNil 46 2 ?_
  refine Lst.run rfl rfl (by decide) (Ev.assign rfl) ?_
  refine Lst.nil ?_
  refine At.then ?_
  refine Cd.seq ?_
  refine Cd.seq ?_
  refine Cd.region ?_
  refine Lst.run rfl rfl (by decide) (Ev.move rfl) ?_
  obtain ⟨r55, h56, H⟩ := bind_some H
  refine Lst.call rfl rfl (by decide) (vs := [Sl.v s_a0]) ⟨rfl, trivial⟩ Try.call23 (partref_Causes_sim h56 w0 _ M _ (List.Sublist.cons _ (List.Sublist.cons _ (List.Sublist.cons _ (List.Sublist.cons _ hM)))) (hs_a0.mono (FLe.trans (FLe.trans hF10 hF16) hF22) (List.Sublist.refl _))) (fun F62 L' v hF63 hv => ?_)
  obtain ⟨s57, rs58, rfl, rfl, fm59⟩ := hv
  refine Lst.run rfl rfl (by decide) (Ev.lenM (map_len fm59) (Ev.lenS (α := LR Bool) (xs := rs58) (by decide) rfl rfl Try.runUnderlying42 (Rd.own (i := 1) rfl rfl rfl))) ?_
  refine Lst.run rfl rfl (by decide) (Ev.move rfl) ?_
  refine Lst.nil ?_
  refine At.then ?_
  refine Cd.block ?_
  refine Cd.bound (Rd.le (α := LR Bool) (xs := rs58) (by decide) (Rd.own (i := 1) rfl rfl rfl)) (fun hN135 => ?_)
  rw [map_len fm59] at hN135
  obtain ⟨ol65, H, HKl65⟩ := bind_some H
  refine Cd.loop (σ := Nat × Nat × Sl × (List Pair)) (fun (i65, k65, s66, l67) => [(0, Sl.v s_a0), (4, Sl.v s7), (5, .int .i64 r5.2), (6, Sl.v s13), (7, .int .i64 r11.2), (8, Sl.v s19), (9, .int .i64 r17.2), (10, Sl.v s66), (67, Sl.v s57), (68, .int .i64 (r55.length : Int)), (69, .int .i64 (i65 : Int))]) (fun (i65, k65, s66, l67) => (.rows (α := Bool) 4 rs58) :: (.own s57 44 1 (encs rs58)) :: (.own s66 46 2 (encs l67)) :: (.own s19 46 2 (encs r17.1)) :: (.own s13 3 1 (encs r11.1)) :: (.own s7 3 1 (encs r5.1)) :: L) (fun _ => (fun (i65, k65, s66, l67) => rangeF (partlaw_StampSays_B0 r55) k65 i65 l67 = some ol65 ∧ i65 + k65 = r55.length)) (fun (i65, k65, s66, l67) => k65) (0, r55.length, Sl.nil, ([] : List Pair)) ⟨rfl, rfl, rfl, rfl, rfl, rfl, rfl, rfl, rfl, rfl, rfl, trivial⟩ rfl ⟨H, by omega⟩ ?_
  rintro F68 ⟨i65, k65, s66, l67⟩ hF69 ⟨H, hik65⟩
  refine Cd.as (e' := [(0, Sl.v s_a0), (4, Sl.v s7), (5, .int .i64 r5.2), (6, Sl.v s13), (7, .int .i64 r11.2), (8, Sl.v s19), (9, .int .i64 r17.2), (10, Sl.v s66), (67, Sl.v s57), (68, .int .i64 (r55.length : Int)), (69, .int .i64 (i65 : Int))]) (L' := (.rows (α := Bool) 4 rs58) :: (.own s57 44 1 (encs rs58)) :: (.own s66 46 2 (encs l67)) :: (.own s19 46 2 (encs r17.1)) :: (.own s13 3 1 (encs r11.1)) :: (.own s7 3 1 (encs r5.1)) :: L) ⟨rfl, rfl, rfl, rfl, rfl, rfl, rfl, rfl, rfl, rfl, rfl, trivial⟩ rfl ?_
  rcases k65 with _ | k65
  · have hc65 : decide ((i65 : Int) < (r55.length : Int)) = false := decide_eq_false (by omega)
    replace H := rangeF_end H
    refine Cd.seq ?_
    refine Cd.region ?_
    refine Lst.run rfl rfl (by decide) (Ev.lss rfl rfl) ?_
    refine Lst.nil ?_
    refine At.then ?_
    refine Cd.seq ?_
    refine Cd.condF rfl hc65 ?_
    refine Cd.exit ?_
    refine At.then_exit ?_
    refine At.then_exit ?_
    refine At.in_exit ?_
    subst H
    replace H := HKl65
    refine At.then ?_
    refine Cd.seq ?_
    refine Cd.region ?_
    refine Lst.run rfl rfl (by decide) (Ev.move rfl) ?_
    refine Lst.run rfl rfl (by decide) (Ev.move rfl) ?_
    obtain ⟨r90, h91, H⟩ := bind_some H
    refine Lst.call rfl rfl (by decide) (vs := [Sl.v s_a0]) ⟨rfl, trivial⟩ Try.call25 (partref_Stamps_sim h91 w0 _ M _ (List.Sublist.cons _ (List.Sublist.cons _ (List.Sublist.cons _ (List.Sublist.cons _ (List.Sublist.cons _ (List.Sublist.cons _ hM)))))) (hs_a0.mono (FLe.trans (FLe.trans (FLe.trans (FLe.trans hF10 hF16) hF22) hF63) hF69) (List.Sublist.refl _))) (fun F94 L' v hF95 hv => ?_)
    obtain ⟨s92, rfl, rfl⟩ := hv
    obtain ⟨r96, h97, H⟩ := bind_some H
    refine Lst.call1 rfl rfl (by decide) (vs := [Sl.v s7, Sl.v s92]) ⟨rfl, rfl, trivial⟩ Try.call24 (slices_Equal_int_int_sim h97 w0 _ _ _ (List.Sublist.refl _) (Rd.own (i := 6) rfl rfl rfl) (Rd.own (i := 0) rfl rfl rfl)) ?_
    refine Lst.run rfl rfl (by decide) (Ev.move rfl) ?_
    obtain ⟨o100, H, HKo100⟩ := bind_some H
    refine Lst.join (σ := Bool) 3 (fun y101 => [(0, Sl.v s_a0), (6, Sl.v s13), (7, .int .i64 r11.2), (8, Sl.v s19), (9, .int .i64 r17.2), (10, Sl.v s66), (97, .bool y101)]) (fun y101 => (.own s92 3 1 (encs r90)) :: (.rows (α := Bool) 4 rs58) :: (.own s57 44 1 (encs rs58)) :: (.own s66 46 2 (encs l67)) :: (.own s19 46 2 (encs r17.1)) :: (.own s13 3 1 (encs r11.1)) :: (.own s7 3 1 (encs r5.1)) :: L) (fun _ y101 => y101 = o100) ?_ ?_
    · rcases (Bool.eq_false_or_eq_true r96).symm with hb102 | hb102
      · replace H := ite_f hb102 H
        refine Lst.skip rfl rfl rfl hb102 rfl (by decide) ?_
        refine Lst.skip rfl rfl rfl hb102 rfl (by decide) ?_
        refine Lst.run rfl rfl (by decide) (Ev.pickF rfl hb102 rfl) ?_
        refine Lst.nil ?_
        exact At.meet false (FLe.refl _) ⟨rfl, rfl, rfl, rfl, rfl, rfl, rfl, trivial⟩ rfl (some_inj H)
      replace H := ite_t hb102 H
      refine Lst.runG rfl rfl rfl hb102 rfl (by decide) (Ev.move rfl) ?_
      refine Lst.runG rfl rfl rfl hb102 rfl (by decide) (Ev.eql rfl rfl) ?_
      refine Lst.run rfl rfl (by decide) (Ev.pickT rfl hb102 rfl) ?_
      refine Lst.nil ?_
      exact At.meet (r5.2 == (0 : Int)) (FLe.refl _) ⟨rfl, rfl, rfl, rfl, rfl, rfl, rfl, trivial⟩ rfl (some_inj H)
    rintro F103 y101 hF104 hy
    subst hy
    refine Lst.as (e' := [(0, Sl.v s_a0), (6, Sl.v s13), (7, .int .i64 r11.2), (8, Sl.v s19), (9, .int .i64 r17.2), (10, Sl.v s66), (97, .bool y101)]) (L' := (.own s92 3 1 (encs r90)) :: (.rows (α := Bool) 4 rs58) :: (.own s57 44 1 (encs rs58)) :: (.own s66 46 2 (encs l67)) :: (.own s19 46 2 (encs r17.1)) :: (.own s13 3 1 (encs r11.1)) :: (.own s7 3 1 (encs r5.1)) :: L) ⟨rfl, rfl, rfl, rfl, rfl, rfl, rfl, trivial⟩ rfl ?_
    replace H := HKo100
    refine Lst.run rfl rfl (by decide) (Ev.move rfl) ?_
    rcases (Bool.eq_false_or_eq_true y101).symm with hb105 | hb105
    · replace H := ite_f hb105 H
      refine Lst.skip rfl rfl rfl hb105 rfl (by decide) ?_
      refine Lst.skip rfl rfl rfl hb105 rfl (by decide) ?_
      refine Lst.skip rfl rfl rfl hb105 rfl (by decide) ?_
      refine Lst.skip rfl rfl rfl hb105 rfl (by decide) ?_
      refine Lst.run rfl rfl (by decide) (Ev.pickF rfl hb105 rfl) ?_
      refine Lst.run rfl rfl (by decide) (Ev.move rfl) ?_
      refine Lst.skip rfl rfl rfl rfl rfl (by decide) ?_
      refine Lst.skip rfl rfl rfl rfl rfl (by decide) ?_
      refine Lst.run rfl rfl (by decide) (Ev.pickF rfl rfl rfl) ?_
      refine Lst.run rfl rfl (by decide) (Ev.move rfl) ?_
      refine Lst.skip rfl rfl rfl rfl rfl (by decide) ?_
      refine Lst.skip rfl rfl rfl rfl rfl (by decide) ?_
      refine Lst.skip rfl rfl rfl rfl rfl (by decide) ?_
      refine Lst.run rfl rfl (by decide) (Ev.pickF rfl rfl rfl) ?_
      refine Lst.run rfl rfl (by decide) (Ev.move rfl) ?_
      refine Lst.skip rfl rfl rfl rfl rfl (by decide) ?_
      refine Lst.skip rfl rfl rfl rfl rfl (by decide) ?_
      refine Lst.run rfl rfl (by decide) (Ev.pickF rfl rfl rfl) ?_
      refine Lst.run rfl rfl (by decide) (Ev.assign rfl) ?_
      refine Lst.nil ?_
      refine At.then ?_
      obtain rfl := some_inj H
      refine Cd.ret ?_
      exact At.ret1 rfl (Res.tmp rfl) (FLe.trans (FLe.trans (FLe.trans (FLe.trans (FLe.trans (FLe.trans hF10 hF16) hF22) hF63) hF69) hF95) hF104) (List.Sublist.cons _ (List.Sublist.cons _ (List.Sublist.cons _ (List.Sublist.cons _ (List.Sublist.cons _ (List.Sublist.cons _ (List.Sublist.cons _ (List.Sublist.refl _)))))))) ⟨rfl, rfl⟩
    replace H := ite_t hb105 H
    refine Lst.runG rfl rfl rfl hb105 rfl (by decide) (Ev.move rfl) ?_
    refine Lst.runG rfl rfl rfl hb105 rfl (by decide) (Ev.move rfl) ?_
    obtain ⟨r106, h107, H⟩ := bind_some H
    refine Lst.callG rfl rfl rfl hb105 rfl (by decide) (vs := [Sl.v s_a0]) ⟨rfl, trivial⟩ Try.call26 (partref_Total_sim h107 w0 _ M _ (List.Sublist.cons _ (List.Sublist.cons _ (List.Sublist.cons _ (List.Sublist.cons _ (List.Sublist.cons _ (List.Sublist.cons _ (List.Sublist.cons _ hM))))))) (hs_a0.mono (FLe.trans (FLe.trans (FLe.trans (FLe.trans (FLe.trans (FLe.trans hF10 hF16) hF22) hF63) hF69) hF95) hF104) (List.Sublist.refl _))) (fun F110 L' v hF111 hv => ?_)
    obtain ⟨s108, rfl, rfl⟩ := hv
    obtain ⟨r112, h113, H⟩ := bind_some H
    refine Lst.call1G rfl rfl rfl hb105 rfl (by decide) (vs := [Sl.v s13, Sl.v s108]) ⟨rfl, rfl, trivial⟩ Try.call24 (slices_Equal_int_int_sim h113 w0 _ _ _ (List.Sublist.refl _) (Rd.own (i := 6) rfl rfl rfl) (Rd.own (i := 0) rfl rfl rfl)) ?_
    refine Lst.run rfl rfl (by decide) (Ev.pickT rfl hb105 rfl) ?_
    refine Lst.run rfl rfl (by decide) (Ev.move rfl) ?_
    obtain ⟨o116, H, HKo116⟩ := bind_some H
    refine Lst.join (σ := Bool) 3 (fun y117 => [(8, Sl.v s19), (9, .int .i64 r17.2), (10, Sl.v s66), (107, .bool y117)]) (fun y117 => (.own s108 3 1 (encs r106)) :: (.own s92 3 1 (encs r90)) :: (.rows (α := Bool) 4 rs58) :: (.own s57 44 1 (encs rs58)) :: (.own s66 46 2 (encs l67)) :: (.own s19 46 2 (encs r17.1)) :: (.own s13 3 1 (encs r11.1)) :: (.own s7 3 1 (encs r5.1)) :: L) (fun _ y117 => y117 = o116) ?_ ?_
    · rcases (Bool.eq_false_or_eq_true r112).symm with hb118 | hb118
      · replace H := ite_f hb118 H
        refine Lst.skip rfl rfl rfl hb118 rfl (by decide) ?_
        refine Lst.skip rfl rfl rfl hb118 rfl (by decide) ?_
        refine Lst.run rfl rfl (by decide) (Ev.pickF rfl hb118 rfl) ?_
        refine Lst.nil ?_
        exact At.meet false (FLe.refl _) ⟨rfl, rfl, rfl, rfl, trivial⟩ rfl (some_inj H)
      replace H := ite_t hb118 H
      refine Lst.runG rfl rfl rfl hb118 rfl (by decide) (Ev.move rfl) ?_
      refine Lst.runG rfl rfl rfl hb118 rfl (by decide) (Ev.eql rfl rfl) ?_
      refine Lst.run rfl rfl (by decide) (Ev.pickT rfl hb118 rfl) ?_
      refine Lst.nil ?_
      exact At.meet (r11.2 == (0 : Int)) (FLe.refl _) ⟨rfl, rfl, rfl, rfl, trivial⟩ rfl (some_inj H)
    rintro F119 y117 hF120 hy
    subst hy
    refine Lst.as (e' := [(8, Sl.v s19), (9, .int .i64 r17.2), (10, Sl.v s66), (107, .bool y117)]) (L' := (.own s108 3 1 (encs r106)) :: (.own s92 3 1 (encs r90)) :: (.rows (α := Bool) 4 rs58) :: (.own s57 44 1 (encs rs58)) :: (.own s66 46 2 (encs l67)) :: (.own s19 46 2 (encs r17.1)) :: (.own s13 3 1 (encs r11.1)) :: (.own s7 3 1 (encs r5.1)) :: L) ⟨rfl, rfl, rfl, rfl, trivial⟩ rfl ?_
    replace H := HKo116
    refine Lst.run rfl rfl (by decide) (Ev.move rfl) ?_
    obtain ⟨o121, H, HKo121⟩ := bind_some H
    refine Lst.join (σ := Bool) 4 (fun y122 => [(9, .int .i64 r17.2), (112, .bool y122)]) (fun y122 => (.own s108 3 1 (encs r106)) :: (.own s92 3 1 (encs r90)) :: (.rows (α := Bool) 4 rs58) :: (.own s57 44 1 (encs rs58)) :: (.own s66 46 2 (encs l67)) :: (.own s19 46 2 (encs r17.1)) :: (.own s13 3 1 (encs r11.1)) :: (.own s7 3 1 (encs r5.1)) :: L) (fun _ y122 => y122 = o121) ?_ ?_
    · rcases (Bool.eq_false_or_eq_true y117).symm with hb123 | hb123
      · replace H := ite_f hb123 H
        refine Lst.skip rfl rfl rfl hb123 rfl (by decide) ?_
        refine Lst.skip rfl rfl rfl hb123 rfl (by decide) ?_
        refine Lst.skip rfl rfl rfl hb123 rfl (by decide) ?_
        refine Lst.run rfl rfl (by decide) (Ev.pickF rfl hb123 rfl) ?_
        refine Lst.nil ?_
        exact At.meet false (FLe.refl _) ⟨rfl, rfl, trivial⟩ rfl (some_inj H)
      replace H := ite_t hb123 H
      refine Lst.runG rfl rfl rfl hb123 rfl (by decide) (Ev.move rfl) ?_
      refine Lst.runG rfl rfl rfl hb123 rfl (by decide) (Ev.move rfl) ?_
      obtain ⟨r124, h125, H⟩ := bind_some H
      refine Lst.call1G rfl rfl rfl hb123 rfl (by decide) (vs := [Sl.v s19, Sl.v s66]) ⟨rfl, rfl, trivial⟩ Try.call27 (slices_Equal_api_Pair_api_Pair_sim h125 w0 _ _ _ (List.Sublist.refl _) (Rd.own (i := 5) rfl rfl rfl) (Rd.own (i := 4) rfl rfl rfl)) ?_
      refine Lst.run rfl rfl (by decide) (Ev.pickT rfl hb123 rfl) ?_
      refine Lst.nil ?_
      exact At.meet r124 (FLe.refl _) ⟨rfl, rfl, trivial⟩ rfl (some_inj H)
    rintro F128 y122 hF129 hy
    subst hy
    refine Lst.as (e' := [(9, .int .i64 r17.2), (112, .bool y122)]) (L' := (.own s108 3 1 (encs r106)) :: (.own s92 3 1 (encs r90)) :: (.rows (α := Bool) 4 rs58) :: (.own s57 44 1 (encs rs58)) :: (.own s66 46 2 (encs l67)) :: (.own s19 46 2 (encs r17.1)) :: (.own s13 3 1 (encs r11.1)) :: (.own s7 3 1 (encs r5.1)) :: L) ⟨rfl, rfl, trivial⟩ rfl ?_
    replace H := HKo121
    refine Lst.run rfl rfl (by decide) (Ev.move rfl) ?_
    obtain ⟨o130, H, HKo130⟩ := bind_some H
    refine Lst.join (σ := Bool) 3 (fun y131 => [(116, .bool y131)]) (fun y131 => (.own s108 3 1 (encs r106)) :: (.own s92 3 1 (encs r90)) :: (.rows (α := Bool) 4 rs58) :: (.own s57 44 1 (encs rs58)) :: (.own s66 46 2 (encs l67)) :: (.own s19 46 2 (encs r17.1)) :: (.own s13 3 1 (encs r11.1)) :: (.own s7 3 1 (encs r5.1)) :: L) (fun _ y131 => y131 = o130) ?_ ?_
    · rcases (Bool.eq_false_or_eq_true y122).symm with hb132 | hb132
      · replace H := ite_f hb132 H
        refine Lst.skip rfl rfl rfl hb132 rfl (by decide) ?_
        refine Lst.skip rfl rfl rfl hb132 rfl (by decide) ?_
        refine Lst.run rfl rfl (by decide) (Ev.pickF rfl hb132 rfl) ?_
        refine Lst.nil ?_
        exact At.meet false (FLe.refl _) ⟨rfl, trivial⟩ rfl (some_inj H)
      replace H := ite_t hb132 H
      refine Lst.runG rfl rfl rfl hb132 rfl (by decide) (Ev.move rfl) ?_
      refine Lst.runG rfl rfl rfl hb132 rfl (by decide) (Ev.eql rfl rfl) ?_
      refine Lst.run rfl rfl (by decide) (Ev.pickT rfl hb132 rfl) ?_
      refine Lst.nil ?_
      exact At.meet (r17.2 == (0 : Int)) (FLe.refl _) ⟨rfl, trivial⟩ rfl (some_inj H)
    rintro F133 y131 hF134 hy
    subst hy
    refine Lst.as (e' := [(116, .bool y131)]) (L' := (.own s108 3 1 (encs r106)) :: (.own s92 3 1 (encs r90)) :: (.rows (α := Bool) 4 rs58) :: (.own s57 44 1 (encs rs58)) :: (.own s66 46 2 (encs l67)) :: (.own s19 46 2 (encs r17.1)) :: (.own s13 3 1 (encs r11.1)) :: (.own s7 3 1 (encs r5.1)) :: L) ⟨rfl, trivial⟩ rfl ?_
    replace H := HKo130
    refine Lst.run rfl rfl (by decide) (Ev.assign rfl) ?_
    refine Lst.nil ?_
    refine At.then ?_
    obtain rfl := some_inj H
    refine Cd.ret ?_
    exact At.ret1 rfl (Res.tmp rfl) (FLe.trans (FLe.trans (FLe.trans (FLe.trans (FLe.trans (FLe.trans (FLe.trans (FLe.trans (FLe.trans (FLe.trans hF10 hF16) hF22) hF63) hF69) hF95) hF104) hF111) hF120) hF129) hF134) (List.Sublist.cons _ (List.Sublist.cons _ (List.Sublist.cons _ (List.Sublist.cons _ (List.Sublist.cons _ (List.Sublist.cons _ (List.Sublist.cons _ (List.Sublist.cons _ (List.Sublist.refl _))))))))) ⟨rfl, rfl⟩
  have hc65 : decide ((i65 : Int) < (r55.length : Int)) = true := decide_eq_true (by omega)
  obtain ⟨c65, H, hgo65⟩ := rangeF_go H
  unfold partlaw_StampSays_B0 at H
  try dsimp only at H
  refine Cd.seq ?_
  refine Cd.region ?_
  refine Lst.run rfl rfl (by decide) (Ev.lss rfl rfl) ?_
  refine Lst.nil ?_
  refine At.then ?_
  refine Cd.seq ?_
  refine Cd.condT rfl hc65 ?_
  refine Cd.skip ?_
  refine At.then ?_
  refine Cd.seq ?_
  refine Cd.block ?_
  refine Cd.seq ?_
  refine Cd.region ?_
  refine Lst.run rfl rfl (by decide) (Ev.move rfl) ?_
  obtain ⟨x70, h71, H⟩ := bind_some H
  have g72 := lat_some h71
  obtain ⟨⟨r73v, r73h⟩, r73g, r73e, r73m⟩ := map_get fm59 g72.2.2
  obtain rfl : x70 = r73v := r73e.symm
  have hh74 := row_h r73g
  refine Lst.run rfl rfl (by decide) (Ev.indexS (α := LR Bool) (xs := rs58) rfl rfl Try.runUnderlying42 Try.sizeOf44 rfl (by decide) (Rd.own (i := 1) rfl rfl rfl) g72.1 (by have := map_len fm59; omega)) ?_
  refine Lst.run rfl rfl (by decide) (Ev.loadS (α := LR Bool) rfl (Rd.own (i := 1) rfl rfl rfl) Try.isAgg44 (v := Sl.v r73h) ((Get.elemN (s := 1) rfl r73g (Get.here _)).off (by omega))) ?_
  refine Lst.run rfl rfl (by decide) (Ev.assign rfl) ?_
  refine Lst.run rfl rfl (by decide) (Ev.assign rfl) ?_
  refine Lst.nil ?_
  refine At.then ?_
  refine Cd.seq ?_
  refine Cd.region ?_
  refine Lst.run rfl rfl (by decide) (Ev.move rfl) ?_
  refine Lst.run rfl rfl (by decide) (Ev.lenS (α := Bool) (xs := x70) (by decide) rfl rfl Try.runUnderlying44 (Rd.row (j := 0) rfl r73g)) ?_
  refine Lst.run rfl rfl (by decide) (Ev.move rfl) ?_
  refine Lst.nil ?_
  refine At.then ?_
  refine Cd.block ?_
  refine Cd.bound (Rd.le (α := Bool) (xs := x70) (by decide) (Rd.row (j := 0) rfl r73g)) (fun hN89 => ?_)
  obtain ⟨ol75, H, HKl75⟩ := bind_some H
  refine Cd.loop (σ := Nat × Nat × Sl × (List Pair)) (fun (i75, k75, s76, l77) => [(0, Sl.v s_a0), (4, Sl.v s7), (5, .int .i64 r5.2), (6, Sl.v s13), (7, .int .i64 r11.2), (8, Sl.v s19), (9, .int .i64 r17.2), (10, Sl.v s76), (11, .int .i64 (i65 : Int)), (67, Sl.v s57), (68, .int .i64 (r55.length : Int)), (69, .int .i64 (i65 : Int)), (74, Sl.v r73h), (75, .int .i64 (x70.length : Int)), (76, .int .i64 (i75 : Int))]) (fun (i75, k75, s76, l77) => (.rows (α := Bool) 4 rs58) :: (.own s57 44 1 (encs rs58)) :: (.own s76 46 2 (encs l77)) :: (.own s19 46 2 (encs r17.1)) :: (.own s13 3 1 (encs r11.1)) :: (.own s7 3 1 (encs r5.1)) :: L) (fun _ => (fun (i75, k75, s76, l77) => rangeF (partlaw_StampSays_B2 i65 x70) k75 i75 l77 = some ol75 ∧ i75 + k75 = x70.length)) (fun (i75, k75, s76, l77) => k75) (0, x70.length, s66, l67) ⟨rfl, rfl, rfl, rfl, rfl, rfl, rfl, rfl, rfl, rfl, rfl, rfl, rfl, rfl, rfl, trivial⟩ rfl ⟨H, by omega⟩ ?_
  rintro F78 ⟨i75, k75, s76, l77⟩ hF79 ⟨H, hik75⟩
  refine Cd.as (e' := [(0, Sl.v s_a0), (4, Sl.v s7), (5, .int .i64 r5.2), (6, Sl.v s13), (7, .int .i64 r11.2), (8, Sl.v s19), (9, .int .i64 r17.2), (10, Sl.v s76), (11, .int .i64 (i65 : Int)), (67, Sl.v s57), (68, .int .i64 (r55.length : Int)), (69, .int .i64 (i65 : Int)), (74, Sl.v r73h), (75, .int .i64 (x70.length : Int)), (76, .int .i64 (i75 : Int))]) (L' := (.rows (α := Bool) 4 rs58) :: (.own s57 44 1 (encs rs58)) :: (.own s76 46 2 (encs l77)) :: (.own s19 46 2 (encs r17.1)) :: (.own s13 3 1 (encs r11.1)) :: (.own s7 3 1 (encs r5.1)) :: L) ⟨rfl, rfl, rfl, rfl, rfl, rfl, rfl, rfl, rfl, rfl, rfl, rfl, rfl, rfl, rfl, trivial⟩ rfl ?_
  rcases k75 with _ | k75
  · have hc75 : decide ((i75 : Int) < (x70.length : Int)) = false := decide_eq_false (by omega)
    replace H := rangeF_end H
    refine Cd.seq ?_
    refine Cd.region ?_
    refine Lst.run rfl rfl (by decide) (Ev.lss rfl rfl) ?_
    refine Lst.nil ?_
    refine At.then ?_
    refine Cd.seq ?_
    refine Cd.condF rfl hc75 ?_
    refine Cd.exit ?_
    refine At.then_exit ?_
    refine At.then_exit ?_
    refine At.in_exit ?_
    subst H
    replace H := HKl75
    refine At.in_normal ?_
    refine At.then ?_
    refine Cd.region ?_
    refine Lst.run rfl rfl (by decide) (Ev.incr (by omega) rfl rfl) ?_
    refine Lst.run rfl rfl (by decide) (Ev.move rfl) ?_
    refine Lst.nil ?_
    exact At.meet (i65 + 1, k65, s76, l77) (FLe.trans hF69 hF79) ⟨rfl, rfl, rfl, rfl, rfl, rfl, rfl, rfl, rfl, rfl, rfl, trivial⟩ rfl ⟨⟨hgo65 _ (some_inj H).symm, by omega⟩, Nat.lt_succ_self _⟩
  have hc75 : decide ((i75 : Int) < (x70.length : Int)) = true := decide_eq_true (by omega)
  obtain ⟨c75, H, hgo75⟩ := rangeF_go H
  unfold partlaw_StampSays_B2 at H
  try dsimp only at H
  refine Cd.seq ?_
  refine Cd.region ?_
  refine Lst.run rfl rfl (by decide) (Ev.lss rfl rfl) ?_
  refine Lst.nil ?_
  refine At.then ?_
  refine Cd.seq ?_
  refine Cd.condT rfl hc75 ?_
  refine Cd.skip ?_
  refine At.then ?_
  refine Cd.seq ?_
  refine Cd.block ?_
  refine Cd.seq ?_
  refine Cd.region ?_
  refine Lst.run rfl rfl (by decide) (Ev.move rfl) ?_
  obtain ⟨x80, h81, H⟩ := bind_some H
  have g82 := lat_some h81
  refine Lst.run rfl rfl (by decide) (Ev.indexS (α := Bool) (xs := x70) rfl rfl Try.runUnderlying44 Try.sizeOf4 rfl (by decide) (Rd.row (j := 0) rfl r73g) g82.1 g82.2.1) ?_
  refine Lst.run rfl rfl (by decide) (Ev.loadS (α := Bool) rfl (Rd.row (j := 0) rfl r73g) Try.isAgg4 (v := .bool x80) ((Get.elemN (s := 1) (x := x80) rfl g82.2.2 (Get.here _)).off (by omega))) ?_
  refine Lst.run rfl rfl (by decide) (Ev.assign rfl) ?_
  refine Lst.run rfl rfl (by decide) (Ev.assign rfl) ?_
  refine Lst.nil ?_
  refine At.then ?_
  refine Cd.seq ?_
  refine Cd.region ?_
  refine Lst.run rfl rfl (by decide) (Ev.move rfl) ?_
  refine Lst.nil ?_
  refine At.then ?_
  rcases (Bool.eq_false_or_eq_true x80).symm with hb83 | hb83
  · replace H := ite_f hb83 H
    refine Cd.condF rfl hb83 ?_
    refine Cd.skip ?_
    refine At.in_normal ?_
    refine At.then ?_
    refine Cd.region ?_
    refine Lst.run rfl rfl (by decide) (Ev.incr (by omega) rfl rfl) ?_
    refine Lst.run rfl rfl (by decide) (Ev.move rfl) ?_
    refine Lst.nil ?_
    exact At.meet (i75 + 1, k75, s76, l77) hF79 ⟨rfl, rfl, rfl, rfl, rfl, rfl, rfl, rfl, rfl, rfl, rfl, rfl, rfl, rfl, rfl, trivial⟩ rfl ⟨⟨hgo75 _ (some_inj H).symm, by omega⟩, Nat.lt_succ_self _⟩
  replace H := ite_t hb83 H
  refine Cd.condT rfl hb83 ?_
  refine Cd.region ?_
  refine Lst.run rfl rfl (by decide) (Ev.move rfl) ?_
  refine Lst.run rfl rfl (by decide) (Ev.move rfl) ?_
  refine Lst.run rfl rfl (by decide) (Ev.move rfl) ?_
  refine Lst.run rfl rfl (by decide) (Ev.build (v := .agg (enc ({ Pair.zero with A := (i65 : Int), B := (i75 : Int) } : Pair)).toArray) (pv := [(0, .int .i64 (i65 : Int)), (1, .int .i64 (i75 : Int))]) ⟨rfl, rfl, ⟨rfl, rfl, trivial⟩⟩ (fun w => by kernel_rfl)) ?_
  refine Lst.buildSlice (α := Pair) (xs := ([({ Pair.zero with A := (i65 : Int), B := (i75 : Int) } : Pair)] : List Pair)) (pv := [(0, .agg (enc ({ Pair.zero with A := (i65 : Int), B := (i75 : Int) } : Pair)).toArray)]) rfl rfl (by decide) ⟨rfl, rfl, trivial⟩ (run_buildSlice (α := Pair) (z0 := Pair.zero) (xs := ([({ Pair.zero with A := (i65 : Int), B := (i75 : Int) } : Pair)] : List Pair)) Try.runUnderlying39 Try.sizeOf46 Try.zeroValue46 rfl rfl rfl (by decide) rfl (fill_cons (cs := encs (List.replicate 1 Pair.zero)) (cs' := encs ((List.replicate 1 Pair.zero).set 0 ({ Pair.zero with A := (i65 : Int), B := (i75 : Int) } : Pair))) (vs := enc ({ Pair.zero with A := (i65 : Int), B := (i75 : Int) } : Pair)) rfl rfl (Enc.len _) ((Put.elemN (s := 2) (i := 0) (x := Pair.zero) (y := ({ Pair.zero with A := (i65 : Int), B := (i75 : Int) } : Pair)) rfl rfl (Put.here ((Enc.len _).trans (Enc.len _).symm))).off rfl) fill_nil)) rfl rfl (by decide) (fun s84 _ => ?_)
  obtain ⟨u86, h87, H⟩ := bind_some H
  refine Lst.append (i := 3) (α := Pair) (xs := l77) (ys := ([({ Pair.zero with A := (i65 : Int), B := (i75 : Int) } : Pair)] : List Pair)) rfl rfl (by decide) rfl rfl Try.runUnderlying39 Try.typeInfo46 rfl rfl rfl rfl rfl rfl (Rd.own (i := 0) rfl rfl rfl) rfl (room_some h87) rfl (fun s88 => ?_)
  refine Lst.its (L' := (.own s84 46 2 (encs ([({ Pair.zero with A := (i65 : Int), B := (i75 : Int) } : Pair)] : List Pair))) :: (.rows (α := Bool) 4 rs58) :: (.own s57 44 1 (encs rs58)) :: (.own s88 46 2 (encs (l77 ++ ([({ Pair.zero with A := (i65 : Int), B := (i75 : Int) } : Pair)] : List Pair)))) :: (.own s19 46 2 (encs r17.1)) :: (.own s13 3 1 (encs r11.1)) :: (.own s7 3 1 (encs r5.1)) :: L) rfl ?_
  refine Lst.run rfl rfl (by decide) (Ev.assign rfl) ?_
  refine Lst.nil ?_
  refine At.in_normal ?_
  refine At.then ?_
  refine Cd.region ?_
  refine Lst.run rfl rfl (by decide) (Ev.incr (by omega) rfl rfl) ?_
  refine Lst.run rfl rfl (by decide) (Ev.move rfl) ?_
  refine Lst.nil ?_
  refine At.less (L' := (.rows (α := Bool) 4 rs58) :: (.own s57 44 1 (encs rs58)) :: (.own s88 46 2 (encs (l77 ++ ([({ Pair.zero with A := (i65 : Int), B := (i75 : Int) } : Pair)] : List Pair)))) :: (.own s19 46 2 (encs r17.1)) :: (.own s13 3 1 (encs r11.1)) :: (.own s7 3 1 (encs r5.1)) :: L) (List.Sublist.cons _ (List.Sublist.cons_cons _ (List.Sublist.cons_cons _ (List.Sublist.cons_cons _ (List.Sublist.cons_cons _ (List.Sublist.cons_cons _ (List.Sublist.cons_cons _ (List.Sublist.refl _)))))))) ?_
  exact At.meet (i75 + 1, k75, s88, l77 ++ ([({ Pair.zero with A := (i65 : Int), B := (i75 : Int) } : Pair)] : List Pair)) hF79 ⟨rfl, rfl, rfl, rfl, rfl, rfl, rfl, rfl, rfl, rfl, rfl, rfl, rfl, rfl, rfl, trivial⟩ rfl ⟨⟨hgo75 _ (some_inj H).symm, by omega⟩, Nat.lt_succ_self _⟩
end Go.Proofs.Ytclmlddmgccfjaa
