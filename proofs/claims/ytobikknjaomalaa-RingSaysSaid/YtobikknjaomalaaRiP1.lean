/-
  The functions compute their specs; printed by a program.
-/
import Derived.Test.YtobikknjaomalaaRiSp
import Derived.Test.YtobikknjaomalaaGoL
import Derived.Test.YtobikknjaomalaaGoK
import Derived.Test.YtobikknjaomalaaGoI
import Derived.Test.YtobikknjaomalaaGoU
import Derived.Test.YtobikknjaomalaaProg
namespace Go.Proofs.Ytobikknjaomalaa
open Go.RowKit Enc
set_option linter.unusedVariables false
set_option linter.unusedSimpArgs false
set_option maxRecDepth 20000 in
theorem slices_Index_int_int_sim {a0 : List Int} {a1 : Int} {s_a0 : Sl} {r : Int} (H : slices_Index_int_int a0 a1 = some r) (w0 : World) (F : Frz) (M L : List Item) (hM : M.Sublist L) (hs_a0 : Rd w0 F M s_a0 a0) : Ok Try.prog w0 95 [Sl.v s_a0, .int .i64 a1] F (L) (Is (.int .i64 r) (L)) := by
  unfold slices_Index_int_int at H
  refine Ok.enter (m := 2) (n := 19) Try.func95 rfl rfl rfl (by decide) ?_
  refine Cd.env (e' := [(0, Sl.v s_a0), (1, .int .i64 a1)]) rfl ?_
  refine Cd.seq ?_
  refine Cd.region ?_
  refine Lst.run rfl rfl (by decide) (Ev.assign rfl) ?_
  refine Lst.nil ?_
  refine At.then ?_
  refine Cd.seq ?_
  refine Cd.seq ?_
  refine Cd.region ?_
  refine Lst.run rfl rfl (by decide) (Ev.move rfl) ?_
  refine Lst.run rfl rfl (by decide) (Ev.lenS (α := Int) (xs := a0) (by decide) rfl rfl Try.runUnderlying36 (hs_a0.mono (FLe.refl _) hM)) ?_
  refine Lst.run rfl rfl (by decide) (Ev.move rfl) ?_
  refine Lst.nil ?_
  refine At.then ?_
  refine Cd.block ?_
  refine Cd.bound (Rd.le (α := Int) (xs := a0) (by decide) (hs_a0.mono (FLe.refl _) hM)) (fun hN8 => ?_)
  obtain ⟨ol1, H, HKl1⟩ := andThen_some H
  refine Cd.loop (σ := Nat × Nat × Unit) (fun (i1, k1, _u) => [(0, Sl.v s_a0), (1, .int .i64 a1), (7, .int .i64 (a0.length : Int)), (8, .int .i64 (i1 : Int))]) (fun (i1, k1, _u) => L) (fun _ => (fun (i1, k1, _u) => rangeM (slices_Index_int_int_B0 a0 a1) k1 i1 () = some ol1 ∧ i1 + k1 = a0.length)) (fun (i1, k1, _u) => k1) (0, a0.length, ()) ⟨rfl, rfl, rfl, rfl, trivial⟩ rfl ⟨H, by omega⟩ ?_
  rintro F2 ⟨i1, k1, _u⟩ hF3 ⟨H, hik1⟩
  refine Cd.as (e' := [(0, Sl.v s_a0), (1, .int .i64 a1), (7, .int .i64 (a0.length : Int)), (8, .int .i64 (i1 : Int))]) (L' := L) ⟨rfl, rfl, rfl, rfl, trivial⟩ rfl ?_
  rcases k1 with _ | k1
  · have hc1 : decide ((i1 : Int) < (a0.length : Int)) = false := decide_eq_false (by omega)
    replace H := rangeM_end H
    refine Cd.seq ?_
    refine Cd.region ?_
    refine Lst.run rfl rfl (by decide) (Ev.lss rfl rfl) ?_
    refine Lst.nil ?_
    refine At.then ?_
    refine Cd.seq ?_
    refine Cd.condF rfl hc1 ?_
    refine Cd.exit ?_
    refine At.then_exit ?_
    refine At.then_exit ?_
    refine At.in_exit ?_
    subst H
    replace H := HKl1
    refine At.then ?_
    refine Cd.seq ?_
    refine Cd.region ?_
    refine Lst.run rfl rfl (by decide) (Ev.assign rfl) ?_
    refine Lst.nil ?_
    refine At.then ?_
    obtain rfl := some_inj H
    refine Cd.ret ?_
    exact At.ret1 rfl (Res.tmp rfl) hF3 (List.Sublist.refl _) ⟨rfl, rfl⟩
  have hc1 : decide ((i1 : Int) < (a0.length : Int)) = true := decide_eq_true (by omega)
  obtain ⟨c1, H, hgo1, hbrk1, hret1⟩ := rangeM_go H
  unfold slices_Index_int_int_B0 at H
  try dsimp only at H
  refine Cd.seq ?_
  refine Cd.region ?_
  refine Lst.run rfl rfl (by decide) (Ev.lss rfl rfl) ?_
  refine Lst.nil ?_
  refine At.then ?_
  refine Cd.seq ?_
  refine Cd.condT rfl hc1 ?_
  refine Cd.skip ?_
  refine At.then ?_
  refine Cd.seq ?_
  refine Cd.block ?_
  refine Cd.seq ?_
  refine Cd.region ?_
  refine Lst.run rfl rfl (by decide) (Ev.move rfl) ?_
  refine Lst.run rfl rfl (by decide) (Ev.assign rfl) ?_
  refine Lst.nil ?_
  refine At.then ?_
  refine Cd.seq ?_
  refine Cd.region ?_
  refine Lst.run rfl rfl (by decide) (Ev.move rfl) ?_
  refine Lst.run rfl rfl (by decide) (Ev.move rfl) ?_
  refine Lst.run rfl rfl (by decide) (Ev.move rfl) ?_
  obtain ⟨x4, h5, H⟩ := bind_some H
  have g6 := lat_some h5
  refine Lst.run rfl rfl (by decide) (Ev.indexS (α := Int) (xs := a0) rfl rfl Try.runUnderlying36 Try.sizeOf3 rfl (by decide) (hs_a0.mono hF3 hM) g6.1 g6.2.1) ?_
  refine Lst.run rfl rfl (by decide) (Ev.loadS (α := Int) rfl (hs_a0.mono hF3 hM) Try.isAgg3 (v := .int .i64 x4) ((Get.elemN (s := 1) (x := x4) rfl g6.2.2 (Get.here _)).off (by omega))) ?_
  refine Lst.run rfl rfl (by decide) (Ev.eql rfl rfl) ?_
  refine Lst.nil ?_
  refine At.then ?_
  rcases Bool.eq_false_or_eq_true (a1 == x4) with hb7 | hb7
  · replace H := ite_t hb7 H
    refine Cd.condT rfl hb7 ?_
    refine Cd.seq ?_
    refine Cd.region ?_
    refine Lst.run rfl rfl (by decide) (Ev.move rfl) ?_
    refine Lst.run rfl rfl (by decide) (Ev.assign rfl) ?_
    refine Lst.nil ?_
    refine At.then ?_
    have H := hret1 _ (some_inj H).symm
    subst H
    replace H := HKl1
    obtain rfl := some_inj H
    refine Cd.ret ?_
    refine At.in_ret ?_
    refine At.then_ret ?_
    refine At.then_ret ?_
    refine At.in_ret ?_
    refine At.then_ret ?_
    exact At.ret1 rfl (Res.tmp rfl) hF3 (List.Sublist.refl _) ⟨rfl, rfl⟩
  replace H := ite_f hb7 H
  refine Cd.condF rfl hb7 ?_
  refine Cd.skip ?_
  refine At.in_normal ?_
  refine At.then ?_
  refine Cd.region ?_
  refine Lst.run rfl rfl (by decide) (Ev.incr (by omega) rfl rfl) ?_
  refine Lst.run rfl rfl (by decide) (Ev.move rfl) ?_
  refine Lst.nil ?_
  exact At.meet (i1 + 1, k1, ()) hF3 ⟨rfl, rfl, rfl, rfl, trivial⟩ rfl ⟨⟨hgo1 _ (some_inj H).symm, by omega⟩, Nat.lt_succ_self _⟩
set_option maxRecDepth 20000 in
theorem partref_RingErr_sim {a0 : List Int} {s_a0 : Sl} {r : Int} (H : partref_RingErr a0 = some r) (w0 : World) (F : Frz) (M L : List Item) (hM : M.Sublist L) (hs_a0 : Rd w0 F M s_a0 a0) : Ok Try.prog w0 20 [Sl.v s_a0] F (L) (Is (.int .i64 r) (L)) := by
  unfold partref_RingErr at H
  refine Ok.enter (m := 1) (n := 32) Try.func20 rfl rfl rfl (by decide) ?_
  refine Cd.env (e' := [(0, Sl.v s_a0)]) rfl ?_
  refine Cd.seq ?_
  refine Cd.region ?_
  refine Lst.run rfl rfl (by decide) (Ev.assign rfl) ?_
  refine Lst.nil ?_
  refine At.then ?_
  refine Cd.seq ?_
  refine Cd.seq ?_
  refine Cd.region ?_
  refine Lst.run rfl rfl (by decide) (Ev.move rfl) ?_
  refine Lst.run rfl rfl (by decide) (Ev.lenS (α := Int) (xs := a0) (by decide) rfl rfl Try.runUnderlying36 (hs_a0.mono (FLe.refl _) hM)) ?_
  refine Lst.run rfl rfl (by decide) (Ev.eql rfl rfl) ?_
  refine Lst.run rfl rfl (by decide) (Ev.move rfl) ?_
  obtain ⟨o1, H, HKo1⟩ := bind_some H
  refine Lst.join (σ := Bool) 4 (fun y2 => [(0, Sl.v s_a0), (12, .bool y2)]) (fun y2 => L) (fun _ y2 => y2 = o1) ?_ ?_
  · rcases Bool.eq_false_or_eq_true ((a0.length : Int) == (0 : Int)) with hb3 | hb3
    · replace H := ite_t hb3 H
      refine Lst.skip rfl rfl rfl hb3 rfl (by decide) ?_
      refine Lst.skip rfl rfl rfl hb3 rfl (by decide) ?_
      refine Lst.skip rfl rfl rfl hb3 rfl (by decide) ?_
      refine Lst.run rfl rfl (by decide) (Ev.pickT rfl hb3 rfl) ?_
      refine Lst.nil ?_
      exact At.meet true (FLe.refl _) ⟨rfl, rfl, trivial⟩ rfl (some_inj H)
    replace H := ite_f hb3 H
    refine Lst.runG rfl rfl rfl hb3 rfl (by decide) (Ev.move rfl) ?_
    refine Lst.runG rfl rfl rfl hb3 rfl (by decide) (Ev.lenS (α := Int) (xs := a0) (by decide) rfl rfl Try.runUnderlying36 (hs_a0.mono (FLe.refl _) hM)) ?_
    refine Lst.runG rfl rfl rfl hb3 rfl (by decide) (Ev.gtr rfl rfl) ?_
    refine Lst.run rfl rfl (by decide) (Ev.pickF rfl hb3 rfl) ?_
    refine Lst.nil ?_
    exact At.meet (decide ((a0.length : Int) > (30 : Int))) (FLe.refl _) ⟨rfl, rfl, trivial⟩ rfl (some_inj H)
  rintro F4 y2 hF5 hy
  subst hy
  refine Lst.as (e' := [(0, Sl.v s_a0), (12, .bool y2)]) (L' := L) ⟨rfl, rfl, trivial⟩ rfl ?_
  replace H := HKo1
  refine Lst.nil ?_
  refine At.then ?_
  rcases Bool.eq_false_or_eq_true y2 with hb6 | hb6
  · replace H := ite_t hb6 H
    refine Cd.condT rfl hb6 ?_
    refine Cd.seq ?_
    refine Cd.region ?_
    refine Lst.run rfl rfl (by decide) (Ev.assign rfl) ?_
    refine Lst.nil ?_
    refine At.then ?_
    obtain rfl := some_inj H
    refine Cd.ret ?_
    refine At.then_ret ?_
    exact At.ret1 rfl (Res.tmp rfl) hF5 (List.Sublist.refl _) ⟨rfl, rfl⟩
  replace H := ite_f hb6 H
  refine Cd.condF rfl hb6 ?_
  refine Cd.skip ?_
  refine At.then ?_
  refine Cd.seq ?_
  refine Cd.seq ?_
  refine Cd.region ?_
  refine Lst.run rfl rfl (by decide) (Ev.move rfl) ?_
  refine Lst.run rfl rfl (by decide) (Ev.lenS (α := Int) (xs := a0) (by decide) rfl rfl Try.runUnderlying36 (hs_a0.mono hF5 hM)) ?_
  refine Lst.run rfl rfl (by decide) (Ev.move rfl) ?_
  refine Lst.nil ?_
  refine At.then ?_
  refine Cd.block ?_
  refine Cd.bound (Rd.le (α := Int) (xs := a0) (by decide) (hs_a0.mono hF5 hM)) (fun hN24 => ?_)
  obtain ⟨ol7, H, HKl7⟩ := andThen_some H
  refine Cd.loop (σ := Nat × Nat × Unit) (fun (i7, k7, _u) => [(0, Sl.v s_a0), (13, Sl.v s_a0), (14, .int .i64 (a0.length : Int)), (15, .int .i64 (i7 : Int))]) (fun (i7, k7, _u) => L) (fun _ => (fun (i7, k7, _u) => rangeM (partref_RingErr_B0 a0) k7 i7 () = some ol7 ∧ i7 + k7 = a0.length)) (fun (i7, k7, _u) => k7) (0, a0.length, ()) ⟨rfl, rfl, rfl, rfl, trivial⟩ rfl ⟨H, by omega⟩ ?_
  rintro F8 ⟨i7, k7, _u⟩ hF9 ⟨H, hik7⟩
  refine Cd.as (e' := [(0, Sl.v s_a0), (13, Sl.v s_a0), (14, .int .i64 (a0.length : Int)), (15, .int .i64 (i7 : Int))]) (L' := L) ⟨rfl, rfl, rfl, rfl, trivial⟩ rfl ?_
  rcases k7 with _ | k7
  · have hc7 : decide ((i7 : Int) < (a0.length : Int)) = false := decide_eq_false (by omega)
    replace H := rangeM_end H
    refine Cd.seq ?_
    refine Cd.region ?_
    refine Lst.run rfl rfl (by decide) (Ev.lss rfl rfl) ?_
    refine Lst.nil ?_
    refine At.then ?_
    refine Cd.seq ?_
    refine Cd.condF rfl hc7 ?_
    refine Cd.exit ?_
    refine At.then_exit ?_
    refine At.then_exit ?_
    refine At.in_exit ?_
    subst H
    replace H := HKl7
    refine At.then ?_
    refine Cd.seq ?_
    refine Cd.region ?_
    refine Lst.run rfl rfl (by decide) (Ev.assign rfl) ?_
    refine Lst.nil ?_
    refine At.then ?_
    obtain rfl := some_inj H
    refine Cd.ret ?_
    exact At.ret1 rfl (Res.tmp rfl) (FLe.trans hF5 hF9) (List.Sublist.refl _) ⟨rfl, rfl⟩
  have hc7 : decide ((i7 : Int) < (a0.length : Int)) = true := decide_eq_true (by omega)
  obtain ⟨c7, H, hgo7, hbrk7, hret7⟩ := rangeM_go H
  unfold partref_RingErr_B0 at H
  try dsimp only at H
  refine Cd.seq ?_
  refine Cd.region ?_
  refine Lst.run rfl rfl (by decide) (Ev.lss rfl rfl) ?_
  refine Lst.nil ?_
  refine At.then ?_
  refine Cd.seq ?_
  refine Cd.condT rfl hc7 ?_
  refine Cd.skip ?_
  refine At.then ?_
  refine Cd.seq ?_
  refine Cd.block ?_
  refine Cd.seq ?_
  refine Cd.region ?_
  refine Lst.run rfl rfl (by decide) (Ev.move rfl) ?_
  obtain ⟨x10, h11, H⟩ := bind_some H
  have g12 := lat_some h11
  refine Lst.run rfl rfl (by decide) (Ev.indexS (α := Int) (xs := a0) rfl rfl Try.runUnderlying36 Try.sizeOf3 rfl (by decide) (hs_a0.mono (FLe.trans hF5 hF9) hM) g12.1 g12.2.1) ?_
  refine Lst.run rfl rfl (by decide) (Ev.loadS (α := Int) rfl (hs_a0.mono (FLe.trans hF5 hF9) hM) Try.isAgg3 (v := .int .i64 x10) ((Get.elemN (s := 1) (x := x10) rfl g12.2.2 (Get.here _)).off (by omega))) ?_
  refine Lst.run rfl rfl (by decide) (Ev.assign rfl) ?_
  refine Lst.run rfl rfl (by decide) (Ev.assign rfl) ?_
  refine Lst.nil ?_
  refine At.then ?_
  refine Cd.seq ?_
  refine Cd.seq ?_
  refine Cd.region ?_
  refine Lst.run rfl rfl (by decide) (Ev.move rfl) ?_
  refine Lst.run rfl rfl (by decide) (Ev.lss rfl rfl) ?_
  refine Lst.run rfl rfl (by decide) (Ev.move rfl) ?_
  obtain ⟨o13, H, HKo13⟩ := bind_some H
  refine Lst.join (σ := Bool) 3 (fun y14 => [(0, Sl.v s_a0), (3, .int .i64 (i7 : Int)), (4, .int .i64 x10), (13, Sl.v s_a0), (14, .int .i64 (a0.length : Int)), (15, .int .i64 (i7 : Int)), (25, .bool y14)]) (fun y14 => L) (fun _ y14 => y14 = o13) ?_ ?_
  · rcases Bool.eq_false_or_eq_true (decide (x10 < (0 : Int))) with hb15 | hb15
    · replace H := ite_t hb15 H
      refine Lst.skip rfl rfl rfl hb15 rfl (by decide) ?_
      refine Lst.skip rfl rfl rfl hb15 rfl (by decide) ?_
      refine Lst.run rfl rfl (by decide) (Ev.pickT rfl hb15 rfl) ?_
      refine Lst.nil ?_
      exact At.meet true (FLe.refl _) ⟨rfl, rfl, rfl, rfl, rfl, rfl, rfl, trivial⟩ rfl (some_inj H)
    replace H := ite_f hb15 H
    refine Lst.runG rfl rfl rfl hb15 rfl (by decide) (Ev.move rfl) ?_
    refine Lst.runG rfl rfl rfl hb15 rfl (by decide) (Ev.gtr rfl rfl) ?_
    refine Lst.run rfl rfl (by decide) (Ev.pickF rfl hb15 rfl) ?_
    refine Lst.nil ?_
    exact At.meet (decide (x10 > (16777215 : Int))) (FLe.refl _) ⟨rfl, rfl, rfl, rfl, rfl, rfl, rfl, trivial⟩ rfl (some_inj H)
  rintro F16 y14 hF17 hy
  subst hy
  refine Lst.as (e' := [(0, Sl.v s_a0), (3, .int .i64 (i7 : Int)), (4, .int .i64 x10), (13, Sl.v s_a0), (14, .int .i64 (a0.length : Int)), (15, .int .i64 (i7 : Int)), (25, .bool y14)]) (L' := L) ⟨rfl, rfl, rfl, rfl, rfl, rfl, rfl, trivial⟩ rfl ?_
  replace H := HKo13
  refine Lst.nil ?_
  refine At.then ?_
  rcases Bool.eq_false_or_eq_true y14 with hb18 | hb18
  · replace H := ite_t hb18 H
    refine Cd.condT rfl hb18 ?_
    refine Cd.seq ?_
    refine Cd.region ?_
    refine Lst.run rfl rfl (by decide) (Ev.assign rfl) ?_
    refine Lst.nil ?_
    refine At.then ?_
    have H := hret7 _ (some_inj H).symm
    subst H
    replace H := HKl7
    obtain rfl := some_inj H
    refine Cd.ret ?_
    refine At.then_ret ?_
    refine At.in_ret ?_
    refine At.then_ret ?_
    refine At.then_ret ?_
    refine At.in_ret ?_
    refine At.then_ret ?_
    exact At.ret1 rfl (Res.tmp rfl) (FLe.trans (FLe.trans hF5 hF9) hF17) (List.Sublist.refl _) ⟨rfl, rfl⟩
  replace H := ite_f hb18 H
  refine Cd.condF rfl hb18 ?_
  refine Cd.skip ?_
  refine At.then ?_
  refine Cd.seq ?_
  refine Cd.region ?_
  refine Lst.run rfl rfl (by decide) (Ev.move rfl) ?_
  refine Lst.run rfl rfl (by decide) (Ev.move rfl) ?_
  obtain ⟨r19, h20, H⟩ := bind_some H
  refine Lst.call1 rfl rfl (by decide) (vs := [Sl.v s_a0, .int .i64 x10]) ⟨rfl, rfl, trivial⟩ Try.call95 (slices_Index_int_int_sim h20 w0 _ M _ hM (hs_a0.mono (FLe.trans (FLe.trans hF5 hF9) hF17) (List.Sublist.refl _))) ?_
  refine Lst.run rfl rfl (by decide) (Ev.move rfl) ?_
  refine Lst.run rfl rfl (by decide) (Ev.neq rfl rfl) ?_
  refine Lst.nil ?_
  refine At.then ?_
  rcases Bool.eq_false_or_eq_true (r19 != (i7 : Int)) with hb23 | hb23
  · replace H := ite_t hb23 H
    refine Cd.condT rfl hb23 ?_
    refine Cd.seq ?_
    refine Cd.region ?_
    refine Lst.run rfl rfl (by decide) (Ev.assign rfl) ?_
    refine Lst.nil ?_
    refine At.then ?_
    have H := hret7 _ (some_inj H).symm
    subst H
    replace H := HKl7
    obtain rfl := some_inj H
    refine Cd.ret ?_
    refine At.in_ret ?_
    refine At.then_ret ?_
    refine At.then_ret ?_
    refine At.in_ret ?_
    refine At.then_ret ?_
    exact At.ret1 rfl (Res.tmp rfl) (FLe.trans (FLe.trans hF5 hF9) hF17) (List.Sublist.refl _) ⟨rfl, rfl⟩
  replace H := ite_f hb23 H
  refine Cd.condF rfl hb23 ?_
  refine Cd.skip ?_
  refine At.in_normal ?_
  refine At.then ?_
  refine Cd.region ?_
  refine Lst.run rfl rfl (by decide) (Ev.incr (by omega) rfl rfl) ?_
  refine Lst.run rfl rfl (by decide) (Ev.move rfl) ?_
  refine Lst.nil ?_
  exact At.meet (i7 + 1, k7, ()) (FLe.trans hF9 hF17) ⟨rfl, rfl, rfl, rfl, trivial⟩ rfl ⟨⟨hgo7 _ (some_inj H).symm, by omega⟩, Nat.lt_succ_self _⟩
set_option maxRecDepth 20000 in
theorem slices_Contains_int_int_sim {a0 : List Int} {a1 : Int} {s_a0 : Sl} {r : Bool} (H : slices_Contains_int_int a0 a1 = some r) (w0 : World) (F : Frz) (M L : List Item) (hM : M.Sublist L) (hs_a0 : Rd w0 F M s_a0 a0) : Ok Try.prog w0 50 [Sl.v s_a0, .int .i64 a1] F (L) (Is (.bool r) (L)) := by
  unfold slices_Contains_int_int at H
  refine Ok.enter (m := 2) (n := 9) Try.func50 rfl rfl rfl (by decide) ?_
  refine Cd.env (e' := [(0, Sl.v s_a0), (1, .int .i64 a1)]) rfl ?_
  refine Cd.seq ?_
  refine Cd.region ?_
  refine Lst.run rfl rfl (by decide) (Ev.assign rfl) ?_
  refine Lst.nil ?_
  refine At.then ?_
  refine Cd.seq ?_
  refine Cd.region ?_
  refine Lst.run rfl rfl (by decide) (Ev.move rfl) ?_
  refine Lst.run rfl rfl (by decide) (Ev.move rfl) ?_
  obtain ⟨r1, h2, H⟩ := bind_some H
  refine Lst.call1 rfl rfl (by decide) (vs := [Sl.v s_a0, .int .i64 a1]) ⟨rfl, rfl, trivial⟩ Try.call95 (slices_Index_int_int_sim h2 w0 _ M _ hM (hs_a0.mono (FLe.refl _) (List.Sublist.refl _))) ?_
  refine Lst.run rfl rfl (by decide) (Ev.geq rfl rfl) ?_
  refine Lst.run rfl rfl (by decide) (Ev.assign rfl) ?_
  refine Lst.nil ?_
  refine At.then ?_
  obtain rfl := some_inj H
  refine Cd.ret ?_
  exact At.ret1 rfl (Res.tmp rfl) (FLe.refl _) (List.Sublist.refl _) ⟨rfl, rfl⟩
set_option maxRecDepth 20000 in
theorem ring_Check_sim {a0 : List Int} {s_a0 : Sl} {r : Int} (H : ring_Check a0 = some r) (w0 : World) (F : Frz) (M L : List Item) (hM : M.Sublist L) (hs_a0 : Rd w0 F M s_a0 a0) : Ok Try.prog w0 23 [Sl.v s_a0] F (L) (Is (.int .i64 r) (L)) := by
  unfold ring_Check at H
  refine Ok.enter (m := 1) (n := 34) Try.func23 rfl rfl rfl (by decide) ?_
  refine Cd.env (e' := [(0, Sl.v s_a0)]) rfl ?_
  refine Cd.seq ?_
  refine Cd.region ?_
  refine Lst.run rfl rfl (by decide) (Ev.assign rfl) ?_
  refine Lst.nil ?_
  refine At.then ?_
  refine Cd.seq ?_
  refine Cd.seq ?_
  refine Cd.region ?_
  refine Lst.run rfl rfl (by decide) (Ev.move rfl) ?_
  refine Lst.run rfl rfl (by decide) (Ev.lenS (α := Int) (xs := a0) (by decide) rfl rfl Try.runUnderlying36 (hs_a0.mono (FLe.refl _) hM)) ?_
  refine Lst.run rfl rfl (by decide) (Ev.lss rfl rfl) ?_
  refine Lst.run rfl rfl (by decide) (Ev.move rfl) ?_
  obtain ⟨o1, H, HKo1⟩ := bind_some H
  refine Lst.join (σ := Bool) 4 (fun y2 => [(0, Sl.v s_a0), (12, .bool y2)]) (fun y2 => L) (fun _ y2 => y2 = o1) ?_ ?_
  · rcases Bool.eq_false_or_eq_true (decide ((a0.length : Int) < (1 : Int))) with hb3 | hb3
    · replace H := ite_t hb3 H
      refine Lst.skip rfl rfl rfl hb3 rfl (by decide) ?_
      refine Lst.skip rfl rfl rfl hb3 rfl (by decide) ?_
      refine Lst.skip rfl rfl rfl hb3 rfl (by decide) ?_
      refine Lst.run rfl rfl (by decide) (Ev.pickT rfl hb3 rfl) ?_
      refine Lst.nil ?_
      exact At.meet true (FLe.refl _) ⟨rfl, rfl, trivial⟩ rfl (some_inj H)
    replace H := ite_f hb3 H
    refine Lst.runG rfl rfl rfl hb3 rfl (by decide) (Ev.move rfl) ?_
    refine Lst.runG rfl rfl rfl hb3 rfl (by decide) (Ev.lenS (α := Int) (xs := a0) (by decide) rfl rfl Try.runUnderlying36 (hs_a0.mono (FLe.refl _) hM)) ?_
    refine Lst.runG rfl rfl rfl hb3 rfl (by decide) (Ev.gtr rfl rfl) ?_
    refine Lst.run rfl rfl (by decide) (Ev.pickF rfl hb3 rfl) ?_
    refine Lst.nil ?_
    exact At.meet (decide ((a0.length : Int) > (30 : Int))) (FLe.refl _) ⟨rfl, rfl, trivial⟩ rfl (some_inj H)
  rintro F4 y2 hF5 hy
  subst hy
  refine Lst.as (e' := [(0, Sl.v s_a0), (12, .bool y2)]) (L' := L) ⟨rfl, rfl, trivial⟩ rfl ?_
  replace H := HKo1
  refine Lst.nil ?_
  refine At.then ?_
  rcases Bool.eq_false_or_eq_true y2 with hb6 | hb6
  · replace H := ite_t hb6 H
    refine Cd.condT rfl hb6 ?_
    refine Cd.seq ?_
    refine Cd.region ?_
    refine Lst.run rfl rfl (by decide) (Ev.assign rfl) ?_
    refine Lst.nil ?_
    refine At.then ?_
    obtain rfl := some_inj H
    refine Cd.ret ?_
    refine At.then_ret ?_
    exact At.ret1 rfl (Res.tmp rfl) hF5 (List.Sublist.refl _) ⟨rfl, rfl⟩
  replace H := ite_f hb6 H
  refine Cd.condF rfl hb6 ?_
  refine Cd.skip ?_
  refine At.then ?_
  refine Cd.seq ?_
  refine Cd.seq ?_
  refine Cd.region ?_
  refine Lst.run rfl rfl (by decide) (Ev.move rfl) ?_
  refine Lst.run rfl rfl (by decide) (Ev.lenS (α := Int) (xs := a0) (by decide) rfl rfl Try.runUnderlying36 (hs_a0.mono hF5 hM)) ?_
  refine Lst.run rfl rfl (by decide) (Ev.move rfl) ?_
  refine Lst.nil ?_
  refine At.then ?_
  refine Cd.block ?_
  refine Cd.bound (Rd.le (α := Int) (xs := a0) (by decide) (hs_a0.mono hF5 hM)) (fun hN29 => ?_)
  obtain ⟨ol7, H, HKl7⟩ := andThen_some H
  refine Cd.loop (σ := Nat × Nat × Unit) (fun (i7, k7, _u) => [(0, Sl.v s_a0), (13, Sl.v s_a0), (14, .int .i64 (a0.length : Int)), (15, .int .i64 (i7 : Int))]) (fun (i7, k7, _u) => L) (fun _ => (fun (i7, k7, _u) => rangeM (ring_Check_B0 a0) k7 i7 () = some ol7 ∧ i7 + k7 = a0.length)) (fun (i7, k7, _u) => k7) (0, a0.length, ()) ⟨rfl, rfl, rfl, rfl, trivial⟩ rfl ⟨H, by omega⟩ ?_
  rintro F8 ⟨i7, k7, _u⟩ hF9 ⟨H, hik7⟩
  refine Cd.as (e' := [(0, Sl.v s_a0), (13, Sl.v s_a0), (14, .int .i64 (a0.length : Int)), (15, .int .i64 (i7 : Int))]) (L' := L) ⟨rfl, rfl, rfl, rfl, trivial⟩ rfl ?_
  rcases k7 with _ | k7
  · have hc7 : decide ((i7 : Int) < (a0.length : Int)) = false := decide_eq_false (by omega)
    replace H := rangeM_end H
    refine Cd.seq ?_
    refine Cd.region ?_
    refine Lst.run rfl rfl (by decide) (Ev.lss rfl rfl) ?_
    refine Lst.nil ?_
    refine At.then ?_
    refine Cd.seq ?_
    refine Cd.condF rfl hc7 ?_
    refine Cd.exit ?_
    refine At.then_exit ?_
    refine At.then_exit ?_
    refine At.in_exit ?_
    subst H
    replace H := HKl7
    refine At.then ?_
    refine Cd.seq ?_
    refine Cd.region ?_
    refine Lst.run rfl rfl (by decide) (Ev.assign rfl) ?_
    refine Lst.nil ?_
    refine At.then ?_
    obtain rfl := some_inj H
    refine Cd.ret ?_
    exact At.ret1 rfl (Res.tmp rfl) (FLe.trans hF5 hF9) (List.Sublist.refl _) ⟨rfl, rfl⟩
  have hc7 : decide ((i7 : Int) < (a0.length : Int)) = true := decide_eq_true (by omega)
  obtain ⟨c7, H, hgo7, hbrk7, hret7⟩ := rangeM_go H
  unfold ring_Check_B0 at H
  try dsimp only at H
  refine Cd.seq ?_
  refine Cd.region ?_
  refine Lst.run rfl rfl (by decide) (Ev.lss rfl rfl) ?_
  refine Lst.nil ?_
  refine At.then ?_
  refine Cd.seq ?_
  refine Cd.condT rfl hc7 ?_
  refine Cd.skip ?_
  refine At.then ?_
  refine Cd.seq ?_
  refine Cd.block ?_
  refine Cd.seq ?_
  refine Cd.region ?_
  refine Lst.run rfl rfl (by decide) (Ev.move rfl) ?_
  obtain ⟨x10, h11, H⟩ := bind_some H
  have g12 := lat_some h11
  refine Lst.run rfl rfl (by decide) (Ev.indexS (α := Int) (xs := a0) rfl rfl Try.runUnderlying36 Try.sizeOf3 rfl (by decide) (hs_a0.mono (FLe.trans hF5 hF9) hM) g12.1 g12.2.1) ?_
  refine Lst.run rfl rfl (by decide) (Ev.loadS (α := Int) rfl (hs_a0.mono (FLe.trans hF5 hF9) hM) Try.isAgg3 (v := .int .i64 x10) ((Get.elemN (s := 1) (x := x10) rfl g12.2.2 (Get.here _)).off (by omega))) ?_
  refine Lst.run rfl rfl (by decide) (Ev.assign rfl) ?_
  refine Lst.run rfl rfl (by decide) (Ev.assign rfl) ?_
  refine Lst.nil ?_
  refine At.then ?_
  refine Cd.block ?_
  refine Cd.seq ?_
  refine Cd.region ?_
  refine Lst.run rfl rfl (by decide) (Ev.move rfl) ?_
  refine Lst.run rfl rfl (by decide) (Ev.lss rfl rfl) ?_
  refine Lst.run rfl rfl (by decide) (Ev.move rfl) ?_
  obtain ⟨o13, H, HKo13⟩ := bind_some H
  refine Lst.join (σ := Bool) 3 (fun y14 => [(0, Sl.v s_a0), (3, .int .i64 (i7 : Int)), (4, .int .i64 x10), (13, Sl.v s_a0), (14, .int .i64 (a0.length : Int)), (15, .int .i64 (i7 : Int)), (26, .bool y14)]) (fun y14 => L) (fun _ y14 => y14 = o13) ?_ ?_
  · rcases Bool.eq_false_or_eq_true (decide (x10 < (0 : Int))) with hb15 | hb15
    · replace H := ite_t hb15 H
      refine Lst.skip rfl rfl rfl hb15 rfl (by decide) ?_
      refine Lst.skip rfl rfl rfl hb15 rfl (by decide) ?_
      refine Lst.run rfl rfl (by decide) (Ev.pickT rfl hb15 rfl) ?_
      refine Lst.nil ?_
      exact At.meet true (FLe.refl _) ⟨rfl, rfl, rfl, rfl, rfl, rfl, rfl, trivial⟩ rfl (some_inj H)
    replace H := ite_f hb15 H
    refine Lst.runG rfl rfl rfl hb15 rfl (by decide) (Ev.move rfl) ?_
    refine Lst.runG rfl rfl rfl hb15 rfl (by decide) (Ev.gtr rfl rfl) ?_
    refine Lst.run rfl rfl (by decide) (Ev.pickF rfl hb15 rfl) ?_
    refine Lst.nil ?_
    exact At.meet (decide (x10 > (16777215 : Int))) (FLe.refl _) ⟨rfl, rfl, rfl, rfl, rfl, rfl, rfl, trivial⟩ rfl (some_inj H)
  rintro F16 y14 hF17 hy
  subst hy
  refine Lst.as (e' := [(0, Sl.v s_a0), (3, .int .i64 (i7 : Int)), (4, .int .i64 x10), (13, Sl.v s_a0), (14, .int .i64 (a0.length : Int)), (15, .int .i64 (i7 : Int)), (26, .bool y14)]) (L' := L) ⟨rfl, rfl, rfl, rfl, rfl, rfl, rfl, trivial⟩ rfl ?_
  replace H := HKo13
  refine Lst.run rfl rfl (by decide) (Ev.assign rfl) ?_
  refine Lst.nil ?_
  refine At.then ?_
  rcases Bool.eq_false_or_eq_true y14 with hb18 | hb18
  · replace H := ite_t hb18 H
    refine Cd.condT rfl hb18 ?_
    refine Cd.seq ?_
    refine Cd.region ?_
    refine Lst.run rfl rfl (by decide) (Ev.assign rfl) ?_
    refine Lst.nil ?_
    refine At.then ?_
    have H := hret7 _ (some_inj H).symm
    subst H
    replace H := HKl7
    obtain rfl := some_inj H
    refine Cd.ret ?_
    refine At.in_ret ?_
    refine At.in_ret ?_
    refine At.then_ret ?_
    refine At.then_ret ?_
    refine At.in_ret ?_
    refine At.then_ret ?_
    exact At.ret1 rfl (Res.tmp rfl) (FLe.trans (FLe.trans hF5 hF9) hF17) (List.Sublist.refl _) ⟨rfl, rfl⟩
  replace H := ite_f hb18 H
  refine Cd.condF rfl hb18 ?_
  refine Cd.seq ?_
  refine Cd.region ?_
  refine Lst.run rfl rfl (by decide) (Ev.move rfl) ?_
  refine Lst.run rfl rfl (by decide) (Ev.move rfl) ?_
  obtain ⟨m19, h20, H⟩ := bind_some H
  obtain ⟨g21, gl22⟩ := cutL_some h20
  have hq23 : Rd w0 F M (s_a0.cut (0 : Int).toNat ((i7 : Int) : Int).toNat 1) m19 := by rw [← gl22]; exact Rd.cut (by decide) hs_a0 (by omega) (by omega)
  refine Lst.run rfl rfl (by decide) (Ev.cut (α := Int) (xs := a0) (i := 0) (j := (i7 : Int)) rfl rfl rfl Try.runUnderlying36 Try.sizeOf3 rfl (by decide) (hs_a0.mono (FLe.trans (FLe.trans hF5 hF9) hF17) hM) g21.1 g21.2.1 g21.2.2) ?_
  refine Lst.run rfl rfl (by decide) (Ev.move rfl) ?_
  obtain ⟨r24, h25, H⟩ := bind_some H
  refine Lst.call1 rfl rfl (by decide) (vs := [Sl.v (s_a0.cut (0 : Int).toNat ((i7 : Int) : Int).toNat 1), .int .i64 x10]) ⟨rfl, rfl, trivial⟩ Try.call50 (slices_Contains_int_int_sim h25 w0 _ M _ hM (hq23.mono (FLe.trans (FLe.trans hF5 hF9) hF17) (List.Sublist.refl _))) ?_
  refine Lst.run rfl rfl (by decide) (Ev.assign rfl) ?_
  refine Lst.nil ?_
  refine At.then ?_
  rcases Bool.eq_false_or_eq_true r24 with hb28 | hb28
  · replace H := ite_t hb28 H
    refine Cd.condT rfl hb28 ?_
    refine Cd.seq ?_
    refine Cd.region ?_
    refine Lst.run rfl rfl (by decide) (Ev.assign rfl) ?_
    refine Lst.nil ?_
    refine At.then ?_
    have H := hret7 _ (some_inj H).symm
    subst H
    replace H := HKl7
    obtain rfl := some_inj H
    refine Cd.ret ?_
    refine At.in_ret ?_
    refine At.in_ret ?_
    refine At.then_ret ?_
    refine At.then_ret ?_
    refine At.in_ret ?_
    refine At.then_ret ?_
    exact At.ret1 rfl (Res.tmp rfl) (FLe.trans (FLe.trans hF5 hF9) hF17) (List.Sublist.refl _) ⟨rfl, rfl⟩
  replace H := ite_f hb28 H
  refine Cd.condF rfl hb28 ?_
  refine Cd.skip ?_
  refine At.in_normal ?_
  refine At.in_normal ?_
  refine At.then ?_
  refine Cd.region ?_
  refine Lst.run rfl rfl (by decide) (Ev.incr (by omega) rfl rfl) ?_
  refine Lst.run rfl rfl (by decide) (Ev.move rfl) ?_
  refine Lst.nil ?_
  exact At.meet (i7 + 1, k7, ()) (FLe.trans hF9 hF17) ⟨rfl, rfl, rfl, rfl, trivial⟩ rfl ⟨⟨hgo7 _ (some_inj H).symm, by omega⟩, Nat.lt_succ_self _⟩
set_option maxRecDepth 20000 in
theorem slices_Max_int_int_sim {fu : Nat} {a0 : List Int} {s_a0 : Sl} {r : Int} (H : slices_Max_int_int fu a0 = some r) (w0 : World) (F : Frz) (M L : List Item) (hM : M.Sublist L) (hs_a0 : Rd w0 F M s_a0 a0) : Ok Try.prog w0 86 [Sl.v s_a0] F (L) (Is (.int .i64 r) (L)) := by
  unfold slices_Max_int_int at H
  refine Ok.enter (m := 1) (n := 25) Try.func86 rfl rfl rfl (by decide) ?_
  refine Cd.env (e' := [(0, Sl.v s_a0)]) rfl ?_
  refine Cd.seq ?_
  refine Cd.region ?_
  refine Lst.run rfl rfl (by decide) (Ev.assign rfl) ?_
  refine Lst.nil ?_
  refine At.then ?_
  refine Cd.seq ?_
  refine Cd.seq ?_
  refine Cd.region ?_
  refine Lst.run rfl rfl (by decide) (Ev.move rfl) ?_
  refine Lst.run rfl rfl (by decide) (Ev.lenS (α := Int) (xs := a0) (by decide) rfl rfl Try.runUnderlying36 (hs_a0.mono (FLe.refl _) hM)) ?_
  refine Lst.run rfl rfl (by decide) (Ev.lss rfl rfl) ?_
  refine Lst.nil ?_
  refine At.then ?_
  rcases Bool.eq_false_or_eq_true (decide ((a0.length : Int) < (1 : Int))) with hb1 | hb1
  · replace H := ite_t hb1 H
    cases H
  replace H := ite_f hb1 H
  refine Cd.condF rfl hb1 ?_
  refine Cd.skip ?_
  refine At.then ?_
  refine Cd.seq ?_
  refine Cd.region ?_
  refine Lst.run rfl rfl (by decide) (Ev.move rfl) ?_
  obtain ⟨x2, h3, H⟩ := bind_some H
  have g4 := lat_some h3
  refine Lst.run rfl rfl (by decide) (Ev.indexS (α := Int) (xs := a0) rfl rfl Try.runUnderlying36 Try.sizeOf3 rfl (by decide) (hs_a0.mono (FLe.refl _) hM) g4.1 g4.2.1) ?_
  refine Lst.run rfl rfl (by decide) (Ev.loadS (α := Int) rfl (hs_a0.mono (FLe.refl _) hM) Try.isAgg3 (v := .int .i64 x2) ((Get.elemN (s := 1) (x := x2) rfl g4.2.2 (Get.here _)).off (by omega))) ?_
  refine Lst.run rfl rfl (by decide) (Ev.assign rfl) ?_
  refine Lst.nil ?_
  refine At.then ?_
  refine Cd.seq ?_
  refine Cd.seq ?_
  refine Cd.region ?_
  refine Lst.run rfl rfl (by decide) (Ev.assign rfl) ?_
  refine Lst.nil ?_
  refine At.then ?_
  refine Cd.block ?_
  obtain ⟨ol5, H, HKl5⟩ := andThen_some H
  refine Cd.loop (σ := Nat × Int × Int) (fun (k5, y6, y7) => [(0, Sl.v s_a0), (3, .int .i64 y6), (4, .int .i64 y7)]) (fun (k5, y6, y7) => L) (fun _ => (fun (k5, y6, y7) => whileM (slices_Max_int_int_B0 a0) k5 (y6, y7) = some ol5)) (fun (k5, y6, y7) => k5) (fu, x2, (1 : Int)) ⟨rfl, rfl, rfl, trivial⟩ rfl H ?_
  rintro F8 ⟨k5, y6, y7⟩ hF9 H
  refine Cd.as (e' := [(0, Sl.v s_a0), (3, .int .i64 y6), (4, .int .i64 y7)]) (L' := L) ⟨rfl, rfl, rfl, trivial⟩ rfl ?_
  rcases k5 with _ | k5
  · cases H
  obtain ⟨c5, H, hgo5, hbrk5, hret5⟩ := whileM_go H
  unfold slices_Max_int_int_B0 at H
  try dsimp only at H
  refine Cd.seq ?_
  refine Cd.seq ?_
  refine Cd.region ?_
  refine Lst.run rfl rfl (by decide) (Ev.move rfl) ?_
  refine Lst.run rfl rfl (by decide) (Ev.move rfl) ?_
  refine Lst.run rfl rfl (by decide) (Ev.lenS (α := Int) (xs := a0) (by decide) rfl rfl Try.runUnderlying36 (hs_a0.mono hF9 hM)) ?_
  refine Lst.run rfl rfl (by decide) (Ev.lss rfl rfl) ?_
  refine Lst.nil ?_
  refine At.then ?_
  rcases (Bool.eq_false_or_eq_true (decide (y7 < (a0.length : Int)))).symm with hb10 | hb10
  · replace H := ite_f hb10 H
    refine Cd.condF rfl hb10 ?_
    refine Cd.exit ?_
    refine At.then_exit ?_
    refine At.then_exit ?_
    refine At.in_exit ?_
    have H := hbrk5 _ (some_inj H).symm
    subst H
    replace H := HKl5
    refine At.then ?_
    refine Cd.seq ?_
    refine Cd.region ?_
    refine Lst.run rfl rfl (by decide) (Ev.move rfl) ?_
    refine Lst.run rfl rfl (by decide) (Ev.assign rfl) ?_
    refine Lst.nil ?_
    refine At.then ?_
    obtain rfl := some_inj H
    refine Cd.ret ?_
    exact At.ret1 rfl (Res.tmp rfl) hF9 (List.Sublist.refl _) ⟨rfl, rfl⟩
  replace H := ite_t hb10 H
  refine Cd.condT rfl hb10 ?_
  refine Cd.skip ?_
  refine At.then ?_
  refine Cd.seq ?_
  refine Cd.block ?_
  refine Cd.region ?_
  refine Lst.run rfl rfl (by decide) (Ev.move rfl) ?_
  refine Lst.run rfl rfl (by decide) (Ev.move rfl) ?_
  refine Lst.run rfl rfl (by decide) (Ev.move rfl) ?_
  obtain ⟨x11, h12, H⟩ := bind_some H
  have g13 := lat_some h12
  refine Lst.run rfl rfl (by decide) (Ev.indexS (α := Int) (xs := a0) rfl rfl Try.runUnderlying36 Try.sizeOf3 rfl (by decide) (hs_a0.mono hF9 hM) g13.1 g13.2.1) ?_
  refine Lst.run rfl rfl (by decide) (Ev.loadS (α := Int) rfl (hs_a0.mono hF9 hM) Try.isAgg3 (v := .int .i64 x11) ((Get.elemN (s := 1) (x := x11) rfl g13.2.2 (Get.here _)).off (by omega))) ?_
  refine Lst.run rfl rfl (by decide) (Ev.max2 rfl rfl) ?_
  refine Lst.run rfl rfl (by decide) (Ev.assign rfl) ?_
  refine Lst.nil ?_
  refine At.in_normal ?_
  refine At.then ?_
  refine Cd.region ?_
  refine Lst.run rfl rfl (by decide) (Ev.move rfl) ?_
  refine Lst.run rfl rfl (by decide) (Ev.add rfl rfl) ?_
  refine Lst.run rfl rfl (by decide) (Ev.assign rfl) ?_
  refine Lst.nil ?_
  exact At.meet (k5, max y6 x11, w64 (y7 + (1 : Int))) hF9 ⟨rfl, rfl, rfl, trivial⟩ rfl ⟨hgo5 _ (some_inj H).symm, Nat.lt_succ_self _⟩
set_option maxRecDepth 20000 in
theorem ring_leader_sim {fu : Nat} {a0 : List Int} {s_a0 : Sl} {r : Int} (H : ring_leader fu a0 = some r) (w0 : World) (F : Frz) (M L : List Item) (hM : M.Sublist L) (hs_a0 : Rd w0 F M s_a0 a0) : Ok Try.prog w0 96 [Sl.v s_a0] F (L) (Is (.int .i64 r) (L)) := by
  unfold ring_leader at H
  refine Ok.enter (m := 1) (n := 7) Try.func96 rfl rfl rfl (by decide) ?_
  refine Cd.env (e' := [(0, Sl.v s_a0)]) rfl ?_
  refine Cd.seq ?_
  refine Cd.region ?_
  refine Lst.run rfl rfl (by decide) (Ev.assign rfl) ?_
  refine Lst.nil ?_
  refine At.then ?_
  refine Cd.seq ?_
  refine Cd.region ?_
  refine Lst.run rfl rfl (by decide) (Ev.move rfl) ?_
  refine Lst.run rfl rfl (by decide) (Ev.move rfl) ?_
  obtain ⟨r1, h2, H⟩ := bind_some H
  refine Lst.call1 rfl rfl (by decide) (vs := [Sl.v s_a0]) ⟨rfl, trivial⟩ Try.call86 (slices_Max_int_int_sim h2 w0 _ M _ hM (hs_a0.mono (FLe.refl _) (List.Sublist.refl _))) ?_
  obtain ⟨r5, h6, H⟩ := bind_some H
  refine Lst.call1 rfl rfl (by decide) (vs := [Sl.v s_a0, .int .i64 r1]) ⟨rfl, rfl, trivial⟩ Try.call95 (slices_Index_int_int_sim h6 w0 _ M _ hM (hs_a0.mono (FLe.refl _) (List.Sublist.refl _))) ?_
  refine Lst.run rfl rfl (by decide) (Ev.assign rfl) ?_
  refine Lst.nil ?_
  refine At.then ?_
  obtain rfl := some_inj H
  refine Cd.ret ?_
  exact At.ret1 rfl (Res.tmp rfl) (FLe.refl _) (List.Sublist.refl _) ⟨rfl, rfl⟩
set_option maxRecDepth 20000 in
theorem ring_Round_sim {fu : Nat} {a0 : List Int} {s_a0 : Sl} {r : Int × Int × Int} (H : ring_Round fu a0 = some r) (w0 : World) (F : Frz) (M L : List Item) (hM : M.Sublist L) (hs_a0 : Rd w0 F M s_a0 a0) : Ok Try.prog w0 21 [Sl.v s_a0] F (L) (Is (.tuple #[.int .i64 r.1, .int .i64 r.2.1, .int .i64 r.2.2]) (L)) := by
  unfold ring_Round at H
  refine Ok.enter (m := 1) (n := 41) Try.func21 rfl rfl rfl (by decide) ?_
  refine Cd.env (e' := [(0, Sl.v s_a0)]) rfl ?_
  refine Cd.seq ?_
  refine Cd.region ?_
  refine Lst.run rfl rfl (by decide) (Ev.assign rfl) ?_
  refine Lst.run rfl rfl (by decide) (Ev.assign rfl) ?_
  refine Lst.run rfl rfl (by decide) (Ev.assign rfl) ?_
  refine Lst.nil ?_
  refine At.then ?_
  refine Cd.seq ?_
  refine Cd.seq ?_
  refine Cd.region ?_
  refine Lst.run rfl rfl (by decide) (Ev.move rfl) ?_
  obtain ⟨r1, h2, H⟩ := bind_some H
  refine Lst.call1 rfl rfl (by decide) (vs := [Sl.v s_a0]) ⟨rfl, trivial⟩ Try.call23 (ring_Check_sim h2 w0 _ M _ hM (hs_a0.mono (FLe.refl _) (List.Sublist.refl _))) ?_
  refine Lst.run rfl rfl (by decide) (Ev.assign rfl) ?_
  refine Lst.nil ?_
  refine At.then ?_
  refine Cd.seq ?_
  refine Cd.region ?_
  refine Lst.run rfl rfl (by decide) (Ev.move rfl) ?_
  refine Lst.run rfl rfl (by decide) (Ev.neq rfl rfl) ?_
  refine Lst.nil ?_
  refine At.then ?_
  rcases Bool.eq_false_or_eq_true (r1 != (0 : Int)) with hb5 | hb5
  · replace H := ite_t hb5 H
    refine Cd.condT rfl hb5 ?_
    refine Cd.seq ?_
    refine Cd.region ?_
    refine Lst.run rfl rfl (by decide) (Ev.move rfl) ?_
    refine Lst.run rfl rfl (by decide) (Ev.assign rfl) ?_
    refine Lst.run rfl rfl (by decide) (Ev.assign rfl) ?_
    refine Lst.run rfl rfl (by decide) (Ev.assign rfl) ?_
    refine Lst.nil ?_
    refine At.then ?_
    obtain rfl := some_inj H
    refine Cd.ret ?_
    refine At.then_ret ?_
    exact At.ret3 rfl (Res.tmp rfl) (Res.tmp rfl) (Res.tmp rfl) (FLe.refl _) (List.Sublist.refl _) ⟨rfl, rfl⟩
  replace H := ite_f hb5 H
  refine Cd.condF rfl hb5 ?_
  refine Cd.skip ?_
  refine At.then ?_
  refine Cd.seq ?_
  refine Cd.region ?_
  refine Lst.run rfl rfl (by decide) (Ev.assign rfl) ?_
  refine Lst.nil ?_
  refine At.then ?_
  refine Cd.seq ?_
  refine Cd.seq ?_
  refine Cd.region ?_
  refine Lst.run rfl rfl (by decide) (Ev.move rfl) ?_
  refine Lst.run rfl rfl (by decide) (Ev.lenS (α := Int) (xs := a0) (by decide) rfl rfl Try.runUnderlying36 (hs_a0.mono (FLe.refl _) hM)) ?_
  refine Lst.run rfl rfl (by decide) (Ev.move rfl) ?_
  refine Lst.nil ?_
  refine At.then ?_
  refine Cd.block ?_
  refine Cd.bound (Rd.le (α := Int) (xs := a0) (by decide) (hs_a0.mono (FLe.refl _) hM)) (fun hN28 => ?_)
  obtain ⟨ol6, H, HKl6⟩ := bind_some H
  refine Cd.loop (σ := Nat × Nat × Int) (fun (i6, k6, y7) => [(0, Sl.v s_a0), (6, .int .i64 y7), (15, Sl.v s_a0), (16, .int .i64 (a0.length : Int)), (17, .int .i64 (i6 : Int))]) (fun (i6, k6, y7) => L) (fun _ => (fun (i6, k6, y7) => rangeF (ring_Round_B0 fu a0) k6 i6 y7 = some ol6 ∧ i6 + k6 = a0.length)) (fun (i6, k6, y7) => k6) (0, a0.length, (0 : Int)) ⟨rfl, rfl, rfl, rfl, rfl, trivial⟩ rfl ⟨H, by omega⟩ ?_
  rintro F8 ⟨i6, k6, y7⟩ hF9 ⟨H, hik6⟩
  refine Cd.as (e' := [(0, Sl.v s_a0), (6, .int .i64 y7), (15, Sl.v s_a0), (16, .int .i64 (a0.length : Int)), (17, .int .i64 (i6 : Int))]) (L' := L) ⟨rfl, rfl, rfl, rfl, rfl, trivial⟩ rfl ?_
  rcases k6 with _ | k6
  · have hc6 : decide ((i6 : Int) < (a0.length : Int)) = false := decide_eq_false (by omega)
    replace H := rangeF_end H
    refine Cd.seq ?_
    refine Cd.region ?_
    refine Lst.run rfl rfl (by decide) (Ev.lss rfl rfl) ?_
    refine Lst.nil ?_
    refine At.then ?_
    refine Cd.seq ?_
    refine Cd.condF rfl hc6 ?_
    refine Cd.exit ?_
    refine At.then_exit ?_
    refine At.then_exit ?_
    refine At.in_exit ?_
    subst H
    replace H := HKl6
    refine At.then ?_
    refine Cd.seq ?_
    refine Cd.region ?_
    refine Lst.run rfl rfl (by decide) (Ev.move rfl) ?_
    obtain ⟨r24, h25, H⟩ := bind_some H
    refine Lst.call1 rfl rfl (by decide) (vs := [Sl.v s_a0]) ⟨rfl, trivial⟩ Try.call96 (ring_leader_sim h25 w0 _ M _ hM (hs_a0.mono hF9 (List.Sublist.refl _))) ?_
    refine Lst.run rfl rfl (by decide) (Ev.move rfl) ?_
    refine Lst.run rfl rfl (by decide) (Ev.assign rfl) ?_
    refine Lst.run rfl rfl (by decide) (Ev.assign rfl) ?_
    refine Lst.run rfl rfl (by decide) (Ev.assign rfl) ?_
    refine Lst.nil ?_
    refine At.then ?_
    obtain rfl := some_inj H
    refine Cd.ret ?_
    exact At.ret3 rfl (Res.tmp rfl) (Res.tmp rfl) (Res.tmp rfl) hF9 (List.Sublist.refl _) ⟨rfl, rfl⟩
  have hc6 : decide ((i6 : Int) < (a0.length : Int)) = true := decide_eq_true (by omega)
  obtain ⟨c6, H, hgo6⟩ := rangeF_go H
  unfold ring_Round_B0 at H
  try dsimp only at H
  refine Cd.seq ?_
  refine Cd.region ?_
  refine Lst.run rfl rfl (by decide) (Ev.lss rfl rfl) ?_
  refine Lst.nil ?_
  refine At.then ?_
  refine Cd.seq ?_
  refine Cd.condT rfl hc6 ?_
  refine Cd.skip ?_
  refine At.then ?_
  refine Cd.seq ?_
  refine Cd.block ?_
  refine Cd.seq ?_
  refine Cd.region ?_
  refine Lst.run rfl rfl (by decide) (Ev.move rfl) ?_
  obtain ⟨x10, h11, H⟩ := bind_some H
  have g12 := lat_some h11
  refine Lst.run rfl rfl (by decide) (Ev.indexS (α := Int) (xs := a0) rfl rfl Try.runUnderlying36 Try.sizeOf3 rfl (by decide) (hs_a0.mono hF9 hM) g12.1 g12.2.1) ?_
  refine Lst.run rfl rfl (by decide) (Ev.loadS (α := Int) rfl (hs_a0.mono hF9 hM) Try.isAgg3 (v := .int .i64 x10) ((Get.elemN (s := 1) (x := x10) rfl g12.2.2 (Get.here _)).off (by omega))) ?_
  refine Lst.run rfl rfl (by decide) (Ev.assign rfl) ?_
  refine Lst.run rfl rfl (by decide) (Ev.assign rfl) ?_
  refine Lst.nil ?_
  refine At.then ?_
  refine Cd.seq ?_
  refine Cd.region ?_
  refine Lst.run rfl rfl (by decide) (Ev.assign rfl) ?_
  refine Lst.nil ?_
  refine At.then ?_
  refine Cd.block ?_
  obtain ⟨ol13, H, HKl13⟩ := andThen_some H
  refine Cd.loop (σ := Nat × Int × Int) (fun (k13, y14, y15) => [(0, Sl.v s_a0), (6, .int .i64 y14), (7, .int .i64 (i6 : Int)), (8, .int .i64 x10), (9, .int .i64 y15), (15, Sl.v s_a0), (16, .int .i64 (a0.length : Int)), (17, .int .i64 (i6 : Int))]) (fun (k13, y14, y15) => L) (fun _ => (fun (k13, y14, y15) => whileM (ring_Round_B2 a0 i6 x10) k13 (y14, y15) = some ol13)) (fun (k13, y14, y15) => k13) (fu, y7, (1 : Int)) ⟨rfl, rfl, rfl, rfl, rfl, rfl, rfl, rfl, trivial⟩ rfl H ?_
  rintro F16 ⟨k13, y14, y15⟩ hF17 H
  refine Cd.as (e' := [(0, Sl.v s_a0), (6, .int .i64 y14), (7, .int .i64 (i6 : Int)), (8, .int .i64 x10), (9, .int .i64 y15), (15, Sl.v s_a0), (16, .int .i64 (a0.length : Int)), (17, .int .i64 (i6 : Int))]) (L' := L) ⟨rfl, rfl, rfl, rfl, rfl, rfl, rfl, rfl, trivial⟩ rfl ?_
  rcases k13 with _ | k13
  · cases H
  obtain ⟨c13, H, hgo13, hbrk13, hret13⟩ := whileM_go H
  unfold ring_Round_B2 at H
  try dsimp only at H
  refine Cd.seq ?_
  refine Cd.block ?_
  refine Cd.seq ?_
  refine Cd.region ?_
  refine Lst.run rfl rfl (by decide) (Ev.move rfl) ?_
  refine Lst.run rfl rfl (by decide) (Ev.add rfl rfl) ?_
  refine Lst.run rfl rfl (by decide) (Ev.assign rfl) ?_
  refine Lst.nil ?_
  refine At.then ?_
  refine Cd.seq ?_
  refine Cd.region ?_
  refine Lst.run rfl rfl (by decide) (Ev.move rfl) ?_
  refine Lst.run rfl rfl (by decide) (Ev.move rfl) ?_
  refine Lst.run rfl rfl (by decide) (Ev.move rfl) ?_
  refine Lst.run rfl rfl (by decide) (Ev.add rfl rfl) ?_
  refine Lst.run rfl rfl (by decide) (Ev.move rfl) ?_
  refine Lst.run rfl rfl (by decide) (Ev.lenS (α := Int) (xs := a0) (by decide) rfl rfl Try.runUnderlying36 (hs_a0.mono (FLe.trans hF9 hF17) hM)) ?_
  obtain ⟨u18, h19, H⟩ := bind_some H
  refine Lst.run rfl rfl (by decide) (Ev.rem (i := w64 ((i6 : Int) + y15)) (j := (a0.length : Int)) rfl rfl (nz_some h19)) ?_
  obtain ⟨x20, h21, H⟩ := bind_some H
  have g22 := lat_some h21
  refine Lst.run rfl rfl (by decide) (Ev.indexS (α := Int) (xs := a0) rfl rfl Try.runUnderlying36 Try.sizeOf3 rfl (by decide) (hs_a0.mono (FLe.trans hF9 hF17) hM) g22.1 g22.2.1) ?_
  refine Lst.run rfl rfl (by decide) (Ev.loadS (α := Int) rfl (hs_a0.mono (FLe.trans hF9 hF17) hM) Try.isAgg3 (v := .int .i64 x20) ((Get.elemN (s := 1) (x := x20) rfl g22.2.2 (Get.here _)).off (by omega))) ?_
  refine Lst.run rfl rfl (by decide) (Ev.move rfl) ?_
  refine Lst.run rfl rfl (by decide) (Ev.geq rfl rfl) ?_
  refine Lst.nil ?_
  refine At.then ?_
  rcases Bool.eq_false_or_eq_true (decide (x20 ≥ x10)) with hb23 | hb23
  · replace H := ite_t hb23 H
    refine Cd.condT rfl hb23 ?_
    refine Cd.exit ?_
    refine At.in_other rfl ?_
    refine At.then_exit ?_
    refine At.then_exit ?_
    refine At.in_exit ?_
    have H := hbrk13 _ (some_inj H).symm
    subst H
    replace H := HKl13
    refine At.in_normal ?_
    refine At.then ?_
    refine Cd.as (e' := [(0, Sl.v s_a0), (6, .int .i64 (w64 (y14 + (1 : Int)))), (15, Sl.v s_a0), (16, .int .i64 (a0.length : Int)), (17, .int .i64 (i6 : Int))]) (L' := L) ⟨rfl, rfl, rfl, rfl, rfl, trivial⟩ rfl ?_
    refine Cd.region ?_
    refine Lst.run rfl rfl (by decide) (Ev.incr (by omega) rfl rfl) ?_
    refine Lst.run rfl rfl (by decide) (Ev.move rfl) ?_
    refine Lst.nil ?_
    exact At.meet (i6 + 1, k6, w64 (y14 + (1 : Int))) (FLe.trans hF9 hF17) ⟨rfl, rfl, rfl, rfl, rfl, trivial⟩ rfl ⟨⟨hgo6 _ (some_inj H).symm, by omega⟩, Nat.lt_succ_self _⟩
  replace H := ite_f hb23 H
  refine Cd.condF rfl hb23 ?_
  refine Cd.skip ?_
  refine At.in_normal ?_
  refine At.then ?_
  refine Cd.region ?_
  refine Lst.run rfl rfl (by decide) (Ev.move rfl) ?_
  refine Lst.run rfl rfl (by decide) (Ev.add rfl rfl) ?_
  refine Lst.run rfl rfl (by decide) (Ev.assign rfl) ?_
  refine Lst.nil ?_
  exact At.meet (k13, w64 (y14 + (1 : Int)), w64 (y15 + (1 : Int))) hF17 ⟨rfl, rfl, rfl, rfl, rfl, rfl, rfl, rfl, trivial⟩ rfl ⟨hgo13 _ (some_inj H).symm, Nat.lt_succ_self _⟩
set_option maxRecDepth 20000 in
theorem math_bits_Mul64_sim {a0 : BitVec 64} {a1 : BitVec 64} {r : (BitVec 64) × (BitVec 64)} (H : math_bits_Mul64 a0 a1 = some r) (w0 : World) (F : Frz) (M L : List Item) (hM : M.Sublist L) : Ok Try.prog w0 188 [.int .u64 a0.toNat, .int .u64 a1.toNat] F (L) (Is (.tuple #[.int .u64 r.1.toNat, .int .u64 r.2.toNat]) (L)) := by
  unfold math_bits_Mul64 at H
  refine Ok.enter (m := 2) (n := 51) Try.func188 rfl rfl rfl (by decide) ?_
  refine Cd.env (e' := [(0, .int .u64 a0.toNat), (1, .int .u64 a1.toNat)]) rfl ?_
  refine Cd.seq ?_
  refine Cd.region ?_
  refine Lst.run rfl rfl (by decide) (Ev.assign rfl) ?_
  refine Lst.run rfl rfl (by decide) (Ev.assign rfl) ?_
  refine Lst.nil ?_
  refine At.then ?_
  refine Cd.seq ?_
  refine Cd.region ?_
  refine Lst.run rfl rfl (by decide) (Ev.move rfl) ?_
  refine Lst.run rfl rfl (by decide) (Ev.andU64 (i := a0) (j := (4294967295 : BitVec 64)) rfl rfl) ?_
  refine Lst.run rfl rfl (by decide) (Ev.assign rfl) ?_
  refine Lst.nil ?_
  refine At.then ?_
  refine Cd.seq ?_
  refine Cd.region ?_
  refine Lst.run rfl rfl (by decide) (Ev.move rfl) ?_
  refine Lst.run rfl rfl (by decide) (Ev.shrU64 (i := a0) (m := 32) rfl rfl) ?_
  refine Lst.run rfl rfl (by decide) (Ev.assign rfl) ?_
  refine Lst.nil ?_
  refine At.then ?_
  refine Cd.seq ?_
  refine Cd.region ?_
  refine Lst.run rfl rfl (by decide) (Ev.move rfl) ?_
  refine Lst.run rfl rfl (by decide) (Ev.andU64 (i := a1) (j := (4294967295 : BitVec 64)) rfl rfl) ?_
  refine Lst.run rfl rfl (by decide) (Ev.assign rfl) ?_
  refine Lst.nil ?_
  refine At.then ?_
  refine Cd.seq ?_
  refine Cd.region ?_
  refine Lst.run rfl rfl (by decide) (Ev.move rfl) ?_
  refine Lst.run rfl rfl (by decide) (Ev.shrU64 (i := a1) (m := 32) rfl rfl) ?_
  refine Lst.run rfl rfl (by decide) (Ev.assign rfl) ?_
  refine Lst.nil ?_
  refine At.then ?_
  refine Cd.seq ?_
  refine Cd.region ?_
  refine Lst.run rfl rfl (by decide) (Ev.move rfl) ?_
  refine Lst.run rfl rfl (by decide) (Ev.move rfl) ?_
  refine Lst.run rfl rfl (by decide) (Ev.mulU64 (i := a0 &&& (4294967295 : BitVec 64)) (j := a1 &&& (4294967295 : BitVec 64)) rfl rfl) ?_
  refine Lst.run rfl rfl (by decide) (Ev.assign rfl) ?_
  refine Lst.nil ?_
  refine At.then ?_
  refine Cd.seq ?_
  refine Cd.region ?_
  refine Lst.run rfl rfl (by decide) (Ev.move rfl) ?_
  refine Lst.run rfl rfl (by decide) (Ev.move rfl) ?_
  refine Lst.run rfl rfl (by decide) (Ev.mulU64 (i := a0 >>> 32) (j := a1 &&& (4294967295 : BitVec 64)) rfl rfl) ?_
  refine Lst.run rfl rfl (by decide) (Ev.move rfl) ?_
  refine Lst.run rfl rfl (by decide) (Ev.shrU64 (i := (a0 &&& (4294967295 : BitVec 64)) * (a1 &&& (4294967295 : BitVec 64))) (m := 32) rfl rfl) ?_
  refine Lst.run rfl rfl (by decide) (Ev.addU64 (i := (a0 >>> 32) * (a1 &&& (4294967295 : BitVec 64))) (j := ((a0 &&& (4294967295 : BitVec 64)) * (a1 &&& (4294967295 : BitVec 64))) >>> 32) rfl rfl) ?_
  refine Lst.run rfl rfl (by decide) (Ev.assign rfl) ?_
  refine Lst.nil ?_
  refine At.then ?_
  refine Cd.seq ?_
  refine Cd.as (e' := [(0, .int .u64 a0.toNat), (1, .int .u64 a1.toNat), (6, .int .u64 (a0 &&& (4294967295 : BitVec 64)).toNat), (7, .int .u64 (a0 >>> 32).toNat), (9, .int .u64 (a1 >>> 32).toNat), (11, .int .u64 (((a0 >>> 32) * (a1 &&& (4294967295 : BitVec 64))) + (((a0 &&& (4294967295 : BitVec 64)) * (a1 &&& (4294967295 : BitVec 64))) >>> 32)).toNat)]) (L' := L) ⟨rfl, rfl, rfl, rfl, rfl, rfl, trivial⟩ rfl ?_
  refine Cd.region ?_
  refine Lst.run rfl rfl (by decide) (Ev.move rfl) ?_
  refine Lst.run rfl rfl (by decide) (Ev.andU64 (i := ((a0 >>> 32) * (a1 &&& (4294967295 : BitVec 64))) + (((a0 &&& (4294967295 : BitVec 64)) * (a1 &&& (4294967295 : BitVec 64))) >>> 32)) (j := (4294967295 : BitVec 64)) rfl rfl) ?_
  refine Lst.run rfl rfl (by decide) (Ev.assign rfl) ?_
  refine Lst.nil ?_
  refine At.then ?_
  refine Cd.seq ?_
  refine Cd.region ?_
  refine Lst.run rfl rfl (by decide) (Ev.move rfl) ?_
  refine Lst.run rfl rfl (by decide) (Ev.shrU64 (i := ((a0 >>> 32) * (a1 &&& (4294967295 : BitVec 64))) + (((a0 &&& (4294967295 : BitVec 64)) * (a1 &&& (4294967295 : BitVec 64))) >>> 32)) (m := 32) rfl rfl) ?_
  refine Lst.run rfl rfl (by decide) (Ev.assign rfl) ?_
  refine Lst.nil ?_
  refine At.then ?_
  refine Cd.seq ?_
  refine Cd.region ?_
  refine Lst.run rfl rfl (by decide) (Ev.move rfl) ?_
  refine Lst.run rfl rfl (by decide) (Ev.move rfl) ?_
  refine Lst.run rfl rfl (by decide) (Ev.move rfl) ?_
  refine Lst.run rfl rfl (by decide) (Ev.mulU64 (i := a0 &&& (4294967295 : BitVec 64)) (j := a1 >>> 32) rfl rfl) ?_
  refine Lst.run rfl rfl (by decide) (Ev.addU64 (i := (((a0 >>> 32) * (a1 &&& (4294967295 : BitVec 64))) + (((a0 &&& (4294967295 : BitVec 64)) * (a1 &&& (4294967295 : BitVec 64))) >>> 32)) &&& (4294967295 : BitVec 64)) (j := (a0 &&& (4294967295 : BitVec 64)) * (a1 >>> 32)) rfl rfl) ?_
  refine Lst.run rfl rfl (by decide) (Ev.assign rfl) ?_
  refine Lst.nil ?_
  refine At.then ?_
  refine Cd.seq ?_
  refine Cd.region ?_
  refine Lst.run rfl rfl (by decide) (Ev.move rfl) ?_
  refine Lst.run rfl rfl (by decide) (Ev.move rfl) ?_
  refine Lst.run rfl rfl (by decide) (Ev.mulU64 (i := a0 >>> 32) (j := a1 >>> 32) rfl rfl) ?_
  refine Lst.run rfl rfl (by decide) (Ev.move rfl) ?_
  refine Lst.run rfl rfl (by decide) (Ev.addU64 (i := (a0 >>> 32) * (a1 >>> 32)) (j := (((a0 >>> 32) * (a1 &&& (4294967295 : BitVec 64))) + (((a0 &&& (4294967295 : BitVec 64)) * (a1 &&& (4294967295 : BitVec 64))) >>> 32)) >>> 32) rfl rfl) ?_
  refine Lst.run rfl rfl (by decide) (Ev.move rfl) ?_
  refine Lst.run rfl rfl (by decide) (Ev.shrU64 (i := ((((a0 >>> 32) * (a1 &&& (4294967295 : BitVec 64))) + (((a0 &&& (4294967295 : BitVec 64)) * (a1 &&& (4294967295 : BitVec 64))) >>> 32)) &&& (4294967295 : BitVec 64)) + ((a0 &&& (4294967295 : BitVec 64)) * (a1 >>> 32))) (m := 32) rfl rfl) ?_
  refine Lst.run rfl rfl (by decide) (Ev.addU64 (i := ((a0 >>> 32) * (a1 >>> 32)) + ((((a0 >>> 32) * (a1 &&& (4294967295 : BitVec 64))) + (((a0 &&& (4294967295 : BitVec 64)) * (a1 &&& (4294967295 : BitVec 64))) >>> 32)) >>> 32)) (j := (((((a0 >>> 32) * (a1 &&& (4294967295 : BitVec 64))) + (((a0 &&& (4294967295 : BitVec 64)) * (a1 &&& (4294967295 : BitVec 64))) >>> 32)) &&& (4294967295 : BitVec 64)) + ((a0 &&& (4294967295 : BitVec 64)) * (a1 >>> 32))) >>> 32) rfl rfl) ?_
  refine Lst.run rfl rfl (by decide) (Ev.assign rfl) ?_
  refine Lst.nil ?_
  refine At.then ?_
  refine Cd.seq ?_
  refine Cd.as (e' := [(0, .int .u64 a0.toNat), (1, .int .u64 a1.toNat), (4, .int .u64 ((((a0 >>> 32) * (a1 >>> 32)) + ((((a0 >>> 32) * (a1 &&& (4294967295 : BitVec 64))) + (((a0 &&& (4294967295 : BitVec 64)) * (a1 &&& (4294967295 : BitVec 64))) >>> 32)) >>> 32)) + ((((((a0 >>> 32) * (a1 &&& (4294967295 : BitVec 64))) + (((a0 &&& (4294967295 : BitVec 64)) * (a1 &&& (4294967295 : BitVec 64))) >>> 32)) &&& (4294967295 : BitVec 64)) + ((a0 &&& (4294967295 : BitVec 64)) * (a1 >>> 32))) >>> 32)).toNat)]) (L' := L) ⟨rfl, rfl, rfl, trivial⟩ rfl ?_
  refine Cd.region ?_
  refine Lst.run rfl rfl (by decide) (Ev.move rfl) ?_
  refine Lst.run rfl rfl (by decide) (Ev.move rfl) ?_
  refine Lst.run rfl rfl (by decide) (Ev.mulU64 (i := a0) (j := a1) rfl rfl) ?_
  refine Lst.run rfl rfl (by decide) (Ev.assign rfl) ?_
  refine Lst.nil ?_
  refine At.then ?_
  obtain rfl := some_inj H
  refine Cd.ret ?_
  exact At.ret2 rfl (Res.tmp rfl) (Res.tmp rfl) (FLe.refl _) (List.Sublist.refl _) ⟨rfl, rfl⟩
set_option maxRecDepth 20000 in
theorem math_bits_Mul_sim {a0 : BitVec 64} {a1 : BitVec 64} {r : (BitVec 64) × (BitVec 64)} (H : math_bits_Mul a0 a1 = some r) (w0 : World) (F : Frz) (M L : List Item) (hM : M.Sublist L) : Ok Try.prog w0 169 [.int .u64 a0.toNat, .int .u64 a1.toNat] F (L) (Is (.tuple #[.int .u64 r.1.toNat, .int .u64 r.2.toNat]) (L)) := by
  unfold math_bits_Mul at H
  refine Ok.enter (m := 2) (n := 30) Try.func169 rfl rfl rfl (by decide) ?_
  refine Cd.env (e' := [(0, .int .u64 a0.toNat), (1, .int .u64 a1.toNat)]) rfl ?_
  refine Cd.seq ?_
  refine Cd.region ?_
  refine Lst.run rfl rfl (by decide) (Ev.assign rfl) ?_
  refine Lst.run rfl rfl (by decide) (Ev.assign rfl) ?_
  refine Lst.nil ?_
  refine At.then ?_
  refine Cd.seq ?_
  refine Cd.condF rfl rfl ?_
  refine Cd.skip ?_
  refine At.then ?_
  refine Cd.seq ?_
  refine Cd.region ?_
  refine Lst.run rfl rfl (by decide) (Ev.move rfl) ?_
  refine Lst.run rfl rfl (by decide) (Ev.move rfl) ?_
  obtain ⟨r1, h2, H⟩ := bind_some H
  refine Lst.call1 rfl rfl (by decide) (vs := [.int .u64 a0.toNat, .int .u64 a1.toNat]) ⟨rfl, rfl, trivial⟩ Try.call188 (math_bits_Mul64_sim h2 w0 _ M _ hM) ?_
  refine Lst.run rfl rfl (by decide) (Ev.move rfl) ?_
  refine Lst.run rfl rfl (by decide) (Ev.extract rfl rfl) ?_
  refine Lst.run rfl rfl (by decide) (Ev.extract rfl rfl) ?_
  refine Lst.run rfl rfl (by decide) (Ev.assign rfl) ?_
  refine Lst.run rfl rfl (by decide) (Ev.assign rfl) ?_
  refine Lst.nil ?_
  refine At.then ?_
  refine Cd.seq ?_
  refine Cd.region ?_
  refine Lst.run rfl rfl (by decide) (Ev.move rfl) ?_
  refine Lst.run rfl rfl (by decide) (Ev.move rfl) ?_
  refine Lst.run rfl rfl (by decide) (Ev.assign rfl) ?_
  refine Lst.run rfl rfl (by decide) (Ev.assign rfl) ?_
  refine Lst.nil ?_
  refine At.then ?_
  obtain rfl := some_inj H
  refine Cd.ret ?_
  exact At.ret2 rfl (Res.tmp rfl) (Res.tmp rfl) (FLe.refl _) (List.Sublist.refl _) ⟨rfl, rfl⟩
set_option maxRecDepth 20000 in
theorem slices_Repeat_bool_bool_sim {fu : Nat} {a0 : List Bool} {a1 : Int} {s_a0 : Sl} {r : (List Bool)} (H : slices_Repeat_bool_bool fu a0 a1 = some r) (w0 : World) (F : Frz) (M L : List Item) (hM : M.Sublist L) (hs_a0 : Rd w0 F M s_a0 a0) : Ok Try.prog w0 97 [Sl.v s_a0, .int .i64 a1] F (L) (fun _ L' v => ∃ (s52 : Sl), v = Sl.v s52 ∧ L' = (.own s52 4 1 (encs r)) :: L) := by
  unfold slices_Repeat_bool_bool at H
  refine Ok.enter (m := 2) (n := 48) Try.func97 rfl rfl rfl (by decide) ?_
  refine Cd.env (e' := [(0, Sl.v s_a0), (1, .int .i64 a1)]) rfl ?_
  refine Cd.seq ?_
  refine Cd.region ?_
  refine Lst.addNil 4 1 ?_
  refine Lst.run rfl rfl (by decide) (Ev.assign rfl) ?_
  refine Lst.nil ?_
  refine At.then ?_
  refine Cd.seq ?_
  refine Cd.seq ?_
  refine Cd.region ?_
  refine Lst.run rfl rfl (by decide) (Ev.move rfl) ?_
  refine Lst.run rfl rfl (by decide) (Ev.lss rfl rfl) ?_
  refine Lst.nil ?_
  refine At.then ?_
  rcases Bool.eq_false_or_eq_true (decide (a1 < (0 : Int))) with hb2 | hb2
  · replace H := ite_t hb2 H
    cases H
  replace H := ite_f hb2 H
  refine Cd.condF rfl hb2 ?_
  refine Cd.skip ?_
  refine At.then ?_
  refine Cd.seq ?_
  refine Cd.region ?_
  refine Lst.run rfl rfl (by decide) (Ev.move rfl) ?_
  refine Lst.run rfl rfl (by decide) (Ev.lenS (α := Bool) (xs := a0) (by decide) rfl rfl Try.runUnderlying149 (hs_a0.mono (FLe.refl _) (List.Sublist.cons _ hM))) ?_
  refine Lst.run rfl rfl (by decide) (Ev.convTo64 rfl Try.runUnderlying3 Try.runUnderlying142) ?_
  refine Lst.run rfl rfl (by decide) (Ev.move rfl) ?_
  refine Lst.run rfl rfl (by decide) (Ev.convTo64 rfl Try.runUnderlying3 Try.runUnderlying142) ?_
  obtain ⟨r3, h4, H⟩ := bind_some H
  refine Lst.call1 rfl rfl (by decide) (vs := [.int .u64 (BitVec.ofInt 64 (a0.length : Int)).toNat, .int .u64 (BitVec.ofInt 64 a1).toNat]) ⟨rfl, rfl, trivial⟩ Try.call169 (math_bits_Mul_sim h4 w0 _ M _ (List.Sublist.cons _ hM)) ?_
  refine Lst.run rfl rfl (by decide) (Ev.move rfl) ?_
  refine Lst.run rfl rfl (by decide) (Ev.extract rfl rfl) ?_
  refine Lst.run rfl rfl (by decide) (Ev.extract rfl rfl) ?_
  refine Lst.run rfl rfl (by decide) (Ev.assign rfl) ?_
  refine Lst.run rfl rfl (by decide) (Ev.assign rfl) ?_
  refine Lst.nil ?_
  refine At.then ?_
  refine Cd.seq ?_
  refine Cd.seq ?_
  refine Cd.region ?_
  refine Lst.run rfl rfl (by decide) (Ev.move rfl) ?_
  refine Lst.run rfl rfl (by decide) (Ev.gtr rfl rfl) ?_
  refine Lst.run rfl rfl (by decide) (Ev.move rfl) ?_
  obtain ⟨o7, H, HKo7⟩ := bind_some H
  refine Lst.join (σ := Bool) 3 (fun y8 => [(0, Sl.v s_a0), (6, .int .u64 r3.2.toNat), (26, .bool y8)]) (fun y8 => (.own Sl.nil 4 1 (encs ([] : List Bool))) :: L) (fun _ y8 => y8 = o7) ?_ ?_
  · rcases Bool.eq_false_or_eq_true (decide ((r3.1.toNat : Int) > ((0 : BitVec 64).toNat : Int))) with hb9 | hb9
    · replace H := ite_t hb9 H
      refine Lst.skip rfl rfl rfl hb9 rfl (by decide) ?_
      refine Lst.skip rfl rfl rfl hb9 rfl (by decide) ?_
      refine Lst.run rfl rfl (by decide) (Ev.pickT rfl hb9 rfl) ?_
      refine Lst.nil ?_
      exact At.meet true (FLe.refl _) ⟨rfl, rfl, rfl, trivial⟩ rfl (some_inj H)
    replace H := ite_f hb9 H
    refine Lst.runG rfl rfl rfl hb9 rfl (by decide) (Ev.move rfl) ?_
    refine Lst.runG rfl rfl rfl hb9 rfl (by decide) (Ev.gtr rfl rfl) ?_
    refine Lst.run rfl rfl (by decide) (Ev.pickF rfl hb9 rfl) ?_
    refine Lst.nil ?_
    exact At.meet (decide ((r3.2.toNat : Int) > ((9223372036854775807 : BitVec 64).toNat : Int))) (FLe.refl _) ⟨rfl, rfl, rfl, trivial⟩ rfl (some_inj H)
  rintro F10 y8 hF11 hy
  subst hy
  refine Lst.as (e' := [(0, Sl.v s_a0), (6, .int .u64 r3.2.toNat), (26, .bool y8)]) (L' := (.own Sl.nil 4 1 (encs ([] : List Bool))) :: L) ⟨rfl, rfl, rfl, trivial⟩ rfl ?_
  replace H := HKo7
  refine Lst.nil ?_
  refine At.then ?_
  rcases Bool.eq_false_or_eq_true y8 with hb12 | hb12
  · replace H := ite_t hb12 H
    cases H
  replace H := ite_f hb12 H
  refine Cd.condF rfl hb12 ?_
  refine Cd.skip ?_
  refine At.then ?_
  refine Cd.seq ?_
  refine Cd.region ?_
  refine Lst.run rfl rfl (by decide) (Ev.move rfl) ?_
  refine Lst.run rfl rfl (by decide) (Ev.conv64 rfl Try.runUnderlying142 Try.runUnderlying3) ?_
  obtain ⟨n13, h14, H⟩ := bind_some H
  have g15 := mkLen_some h14
  refine Lst.make (α := Bool) (z0 := false) (k := n13) rfl rfl (by decide) (congrArg some (congrArg (Value.int .i64) g15.1)) (congrArg some (congrArg (Value.int .i64) g15.1)) Try.runUnderlying149 Try.typeInfo4 rfl rfl rfl rfl rfl g15.2 rfl (fun s16 => ?_)
  refine Lst.run rfl rfl (by decide) (Ev.assign rfl) ?_
  refine Lst.nil ?_
  refine At.then ?_
  refine Cd.seq ?_
  refine Cd.region ?_
  refine Lst.run rfl rfl (by decide) (Ev.move rfl) ?_
  refine Lst.run rfl rfl (by decide) (Ev.move rfl) ?_
  obtain ⟨p18, h19, H⟩ := Let_some H
  refine Lst.copyAll (i := 0) (α := Bool) (xs := (List.replicate n13 false)) (ys := a0) rfl rfl (by decide) rfl rfl Try.runUnderlying149 Try.sizeOf4 rfl (by decide) rfl rfl (hs_a0.mono hF11 (List.Sublist.cons _ (List.Sublist.cons _ hM))) ?_
  refine Lst.its (L' := (.own s16 4 1 (encs p18)) :: (.own Sl.nil 4 1 (encs ([] : List Bool))) :: L) (by rw [← h19]; rfl) ?_
  refine Lst.run rfl rfl (by decide) (Ev.assign rfl) ?_
  refine Lst.nil ?_
  refine At.then ?_
  refine Cd.seq ?_
  refine Cd.block ?_
  obtain ⟨ol20, H, HKl20⟩ := andThen_some H
  refine Cd.loop (σ := Nat × Int × Sl × (List Bool)) (fun (k20, y21, s22, l23) => [(7, Sl.v s22), (8, .int .i64 y21)]) (fun (k20, y21, s22, l23) => (.own s22 4 1 (encs l23)) :: (.own Sl.nil 4 1 (encs ([] : List Bool))) :: L) (fun _ => (fun (k20, y21, s22, l23) => whileM (slices_Repeat_bool_bool_B0) k20 (y21, l23) = some ol20)) (fun (k20, y21, s22, l23) => k20) (fu, copyN 0 ((List.replicate n13 false).length) a0, s16, p18) ⟨rfl, rfl, trivial⟩ rfl H ?_
  rintro F24 ⟨k20, y21, s22, l23⟩ hF25 H
  refine Cd.as (e' := [(7, Sl.v s22), (8, .int .i64 y21)]) (L' := (.own s22 4 1 (encs l23)) :: (.own Sl.nil 4 1 (encs ([] : List Bool))) :: L) ⟨rfl, rfl, trivial⟩ rfl ?_
  rcases k20 with _ | k20
  · cases H
  obtain ⟨c20, H, hgo20, hbrk20, hret20⟩ := whileM_go H
  unfold slices_Repeat_bool_bool_B0 at H
  try dsimp only at H
  refine Cd.seq ?_
  refine Cd.seq ?_
  refine Cd.region ?_
  refine Lst.run rfl rfl (by decide) (Ev.move rfl) ?_
  refine Lst.run rfl rfl (by decide) (Ev.move rfl) ?_
  refine Lst.run rfl rfl (by decide) (Ev.lenS (α := Bool) (xs := l23) (by decide) rfl rfl Try.runUnderlying149 (Rd.own (i := 0) rfl rfl rfl)) ?_
  refine Lst.run rfl rfl (by decide) (Ev.lss rfl rfl) ?_
  refine Lst.nil ?_
  refine At.then ?_
  rcases (Bool.eq_false_or_eq_true (decide (y21 < (l23.length : Int)))).symm with hb26 | hb26
  · replace H := ite_f hb26 H
    refine Cd.condF rfl hb26 ?_
    refine Cd.exit ?_
    refine At.then_exit ?_
    refine At.then_exit ?_
    refine At.in_exit ?_
    have H := hbrk20 _ (some_inj H).symm
    subst H
    replace H := HKl20
    refine At.then ?_
    refine Cd.seq ?_
    refine Cd.region ?_
    refine Lst.run rfl rfl (by decide) (Ev.move rfl) ?_
    refine Lst.run rfl rfl (by decide) (Ev.assign rfl) ?_
    refine Lst.nil ?_
    refine At.then ?_
    obtain rfl := some_inj H
    refine Cd.ret ?_
    exact At.ret1 rfl (Res.tmp rfl) (FLe.trans hF11 hF25) (List.Sublist.cons_cons _ (List.Sublist.cons _ (List.Sublist.refl _))) ⟨s22, rfl, rfl⟩
  replace H := ite_t hb26 H
  refine Cd.condT rfl hb26 ?_
  refine Cd.skip ?_
  refine At.then ?_
  refine Cd.block ?_
  obtain ⟨m27, h28, H⟩ := bind_some H
  obtain ⟨m31, h32, H⟩ := bind_some H
  obtain ⟨p35, h36, H⟩ := Let_some H
  obtain ⟨o40, h41, H⟩ := Let_some H
  refine Cd.headMeet (σ := Sl × (List Bool)) 8 (fun (s38, l39) => [(7, Sl.v s38), (8, .int .i64 y21), (38, .int .i64 y21), (45, .int .i64 (copyN ((y21 : Int).toNat) (((l23.length : Int) : Int).toNat) m31))]) (fun (s38, l39) => (.own s38 4 1 (encs l39)) :: (.own Sl.nil 4 1 (encs ([] : List Bool))) :: L) (fun _ (s38, l39) => l39 = o40) (by kernel_rfl) (by kernel_rfl) (behind_sink (by kernel_rfl) (by kernel_rfl) (by kernel_rfl)) (by kernel_rfl) (fun hsel hlt => ?_) ?_
  · refine HdJ.keep (fun w => St w0 F24 ((.own Sl.nil 4 1 (encs ([] : List Bool))) :: L) w) (fun w h => trivial) ?_
    refine HdJ.takeK hsel hlt 0 (fun w h => h.sublist (List.Sublist.cons _ (List.Sublist.cons_cons _ (List.Sublist.refl _)))) rfl rfl (by decide) (by decide) (by kernel_rfl) (by kernel_rfl) rfl (Ev.move rfl) ?_
    refine HdJ.takeK hsel hlt 1 (fun w h => h.sublist (List.Sublist.cons _ (List.Sublist.cons_cons _ (List.Sublist.refl _)))) rfl rfl (by decide) (by decide) (by kernel_rfl) (by kernel_rfl) rfl (Ev.move rfl) ?_
    refine HdJ.takeK hsel hlt 2 (fun w h => h.sublist (List.Sublist.cons _ (List.Sublist.cons_cons _ (List.Sublist.refl _)))) rfl rfl (by decide) (by decide) (by kernel_rfl) (by kernel_rfl) rfl (Ev.move rfl) ?_
    refine HdJ.takeK hsel hlt 4 (fun w h => h.sublist (List.Sublist.cons _ (List.Sublist.cons_cons _ (List.Sublist.refl _)))) rfl rfl (by decide) (by decide) (by kernel_rfl) (by kernel_rfl) rfl (Ev.move rfl) ?_
    refine HdJ.takeK hsel hlt 5 (fun w h => h.sublist (List.Sublist.cons _ (List.Sublist.cons_cons _ (List.Sublist.refl _)))) rfl rfl (by decide) (by decide) (by kernel_rfl) (by kernel_rfl) rfl (Ev.move rfl) ?_
    refine HdJ.step [3, 6] (by kernel_rfl) rfl ?_
    refine HdStep.cons (by decide) rfl (fun inv => ?_) ?_
    · obtain ⟨g42, gl43⟩ := cutL_some h28
      refine Lst.run rfl rfl (by decide) (Ev.cut (α := Bool) (xs := l23) (i := y21) (j := (l23.length : Int)) rfl rfl rfl Try.runUnderlying149 Try.sizeOf4 rfl (by decide) (Rd.own (i := 0) rfl rfl rfl) g42.1 g42.2.1 g42.2.2) ?_
      refine Lst.nil ?_
      refine At.hd inv (fun w h => (h.weaken (FLe.refl _)).sublist (List.Sublist.cons _ (List.Sublist.cons_cons _ (List.Sublist.refl _)))) ?_
      refine HdJ.step [6] (by kernel_rfl) rfl ?_
      refine HdStep.cons (by decide) rfl (fun inv => ?_) ?_
      · obtain ⟨g44, gl45⟩ := cutL_some h32
        refine Lst.run rfl rfl (by decide) (Ev.cut (α := Bool) (xs := l23) (i := 0) (j := y21) rfl rfl rfl Try.runUnderlying149 Try.sizeOf4 rfl (by decide) (Rd.own (i := 0) rfl rfl rfl) g44.1 g44.2.1 g44.2.2) ?_
        refine Lst.nil ?_
        refine At.hd inv (fun w h => (h.weaken (FLe.refl _)).sublist (List.Sublist.cons _ (List.Sublist.cons_cons _ (List.Sublist.refl _)))) ?_
        refine HdJ.step [7] (by kernel_rfl) rfl ?_
        refine HdStep.cons (by decide) rfl (fun inv => ?_) ?_
        · refine Lst.copy (i := 0) (α := Bool) (lo := ((y21 : Int).toNat)) (hi := (((l23.length : Int) : Int).toNat)) (xs := l23) (ys := m31) rfl rfl (by decide) rfl rfl Try.runUnderlying149 Try.sizeOf4 rfl (by decide) rfl rfl (by rw [← gl45]; exact Rd.cut (by decide) (Rd.own (i := 0) rfl rfl rfl) (by omega) (by omega)) (by omega) (by omega) ?_
          refine Lst.its (L' := (.own s22 4 1 (encs p35)) :: (.own Sl.nil 4 1 (encs ([] : List Bool))) :: L) (by rw [← h36]; rfl) ?_
          refine Lst.nil ?_
          refine At.hd inv (fun w h => (h.weaken (FLe.refl _)).sublist (List.Sublist.cons _ (List.Sublist.cons_cons _ (List.Sublist.refl _)))) ?_
          refine HdJ.done (by kernel_rfl) ?_
          exact At.meetN (s22, p35) (FLe.refl _) ⟨rfl, rfl, rfl, rfl, trivial⟩ rfl h41
        exact trivial
      exact trivial
    refine HdStep.cons (by decide) rfl (fun inv => ?_) ?_
    · obtain ⟨g46, gl47⟩ := cutL_some h32
      refine Lst.run rfl rfl (by decide) (Ev.cut (α := Bool) (xs := l23) (i := 0) (j := y21) rfl rfl rfl Try.runUnderlying149 Try.sizeOf4 rfl (by decide) (Rd.own (i := 0) rfl rfl rfl) g46.1 g46.2.1 g46.2.2) ?_
      refine Lst.nil ?_
      refine At.hd inv (fun w h => (h.weaken (FLe.refl _)).sublist (List.Sublist.cons _ (List.Sublist.cons_cons _ (List.Sublist.refl _)))) ?_
      refine HdJ.step [3] (by kernel_rfl) rfl ?_
      refine HdStep.cons (by decide) rfl (fun inv => ?_) ?_
      · obtain ⟨g48, gl49⟩ := cutL_some h28
        refine Lst.run rfl rfl (by decide) (Ev.cut (α := Bool) (xs := l23) (i := y21) (j := (l23.length : Int)) rfl rfl rfl Try.runUnderlying149 Try.sizeOf4 rfl (by decide) (Rd.own (i := 0) rfl rfl rfl) g48.1 g48.2.1 g48.2.2) ?_
        refine Lst.nil ?_
        refine At.hd inv (fun w h => (h.weaken (FLe.refl _)).sublist (List.Sublist.cons _ (List.Sublist.cons_cons _ (List.Sublist.refl _)))) ?_
        refine HdJ.step [7] (by kernel_rfl) rfl ?_
        refine HdStep.cons (by decide) rfl (fun inv => ?_) ?_
        · refine Lst.copy (i := 0) (α := Bool) (lo := ((y21 : Int).toNat)) (hi := (((l23.length : Int) : Int).toNat)) (xs := l23) (ys := m31) rfl rfl (by decide) rfl rfl Try.runUnderlying149 Try.sizeOf4 rfl (by decide) rfl rfl (by rw [← gl47]; exact Rd.cut (by decide) (Rd.own (i := 0) rfl rfl rfl) (by omega) (by omega)) (by omega) (by omega) ?_
          refine Lst.its (L' := (.own s22 4 1 (encs p35)) :: (.own Sl.nil 4 1 (encs ([] : List Bool))) :: L) (by rw [← h36]; rfl) ?_
          refine Lst.nil ?_
          refine At.hd inv (fun w h => (h.weaken (FLe.refl _)).sublist (List.Sublist.cons _ (List.Sublist.cons_cons _ (List.Sublist.refl _)))) ?_
          refine HdJ.done (by kernel_rfl) ?_
          exact At.meetN (s22, p35) (FLe.refl _) ⟨rfl, rfl, rfl, rfl, trivial⟩ rfl h41
        exact trivial
      exact trivial
    exact trivial
  rintro F50 ⟨s38, l39⟩ hF51 hy
  subst hy
  refine Lst.as (e' := [(7, Sl.v s38), (8, .int .i64 y21), (38, .int .i64 y21), (45, .int .i64 (copyN ((y21 : Int).toNat) (((l23.length : Int) : Int).toNat) m31))]) (L' := (.own s38 4 1 (encs l39)) :: (.own Sl.nil 4 1 (encs ([] : List Bool))) :: L) ⟨rfl, rfl, rfl, rfl, trivial⟩ rfl ?_
  refine Lst.run rfl rfl (by decide) (Ev.add rfl rfl) ?_
  refine Lst.run rfl rfl (by decide) (Ev.assign rfl) ?_
  refine Lst.nil ?_
  refine At.in_normal ?_
  exact At.meet (k20, w64 (y21 + (copyN ((y21 : Int).toNat) (((l23.length : Int) : Int).toNat) m31)), s38, l39) (FLe.trans hF25 hF51) ⟨rfl, rfl, trivial⟩ rfl ⟨hgo20 _ (some_inj H).symm, Nat.lt_succ_self _⟩
set_option maxRecDepth 20000 in
theorem ring_send_sim {fu : Nat} {a0 : List Int} {a1 : Int} {a2 : Int} {a3 : Int} {s_a0 : Sl} {r : Int × Bool} (H : ring_send fu a0 a1 a2 a3 = some r) (w0 : World) (F : Frz) (M L : List Item) (hM : M.Sublist L) (hs_a0 : Rd w0 F M s_a0 a0) : Ok Try.prog w0 98 [Sl.v s_a0, .int .i64 a1, .int .i64 a2, .int .i64 a3] F (L) (Is (.tuple #[.int .i64 r.1, .bool r.2]) (L)) := by
  unfold ring_send at H
  refine Ok.enter (m := 4) (n := 49) Try.func98 rfl rfl rfl (by decide) ?_
  refine Cd.env (e' := [(0, Sl.v s_a0), (1, .int .i64 a1), (2, .int .i64 a2), (3, .int .i64 a3)]) rfl ?_
  refine Cd.seq ?_
  refine Cd.region ?_
  refine Lst.run rfl rfl (by decide) (Ev.assign rfl) ?_
  refine Lst.run rfl rfl (by decide) (Ev.assign rfl) ?_
  refine Lst.nil ?_
  refine At.then ?_
  refine Cd.seq ?_
  refine Cd.region ?_
  refine Lst.run rfl rfl (by decide) (Ev.move rfl) ?_
  refine Lst.run rfl rfl (by decide) (Ev.lenS (α := Int) (xs := a0) (by decide) rfl rfl Try.runUnderlying36 (hs_a0.mono (FLe.refl _) hM)) ?_
  refine Lst.run rfl rfl (by decide) (Ev.assign rfl) ?_
  refine Lst.nil ?_
  refine At.then ?_
  refine Cd.seq ?_
  refine Cd.seq ?_
  refine Cd.region ?_
  refine Lst.run rfl rfl (by decide) (Ev.assign rfl) ?_
  refine Lst.nil ?_
  refine At.then ?_
  refine Cd.block ?_
  obtain ⟨ol1, H, HKl1⟩ := andThen_some H
  refine Cd.loop (σ := Nat × Int) (fun (k1, y2) => [(0, Sl.v s_a0), (1, .int .i64 a1), (2, .int .i64 a2), (3, .int .i64 a3), (10, .int .i64 (a0.length : Int)), (11, .int .i64 y2)]) (fun (k1, y2) => L) (fun _ => (fun (k1, y2) => whileM (ring_send_B0 a0 a1 a2 a3) k1 y2 = some ol1)) (fun (k1, y2) => k1) (fu, (1 : Int)) ⟨rfl, rfl, rfl, rfl, rfl, rfl, trivial⟩ rfl H ?_
  rintro F3 ⟨k1, y2⟩ hF4 H
  refine Cd.as (e' := [(0, Sl.v s_a0), (1, .int .i64 a1), (2, .int .i64 a2), (3, .int .i64 a3), (10, .int .i64 (a0.length : Int)), (11, .int .i64 y2)]) (L' := L) ⟨rfl, rfl, rfl, rfl, rfl, rfl, trivial⟩ rfl ?_
  rcases k1 with _ | k1
  · cases H
  obtain ⟨c1, H, hgo1, hbrk1, hret1⟩ := whileM_go H
  unfold ring_send_B0 at H
  try dsimp only at H
  refine Cd.seq ?_
  refine Cd.seq ?_
  refine Cd.region ?_
  refine Lst.run rfl rfl (by decide) (Ev.move rfl) ?_
  refine Lst.run rfl rfl (by decide) (Ev.move rfl) ?_
  refine Lst.run rfl rfl (by decide) (Ev.leq rfl rfl) ?_
  refine Lst.nil ?_
  refine At.then ?_
  rcases (Bool.eq_false_or_eq_true (decide (y2 ≤ a3))).symm with hb5 | hb5
  · replace H := ite_f hb5 H
    refine Cd.condF rfl hb5 ?_
    refine Cd.exit ?_
    refine At.then_exit ?_
    refine At.then_exit ?_
    refine At.in_exit ?_
    have H := hbrk1 _ (some_inj H).symm
    subst H
    replace H := HKl1
    refine At.then ?_
    refine Cd.seq ?_
    refine Cd.region ?_
    refine Lst.run rfl rfl (by decide) (Ev.move rfl) ?_
    refine Lst.run rfl rfl (by decide) (Ev.mul rfl rfl) ?_
    refine Lst.run rfl rfl (by decide) (Ev.assign rfl) ?_
    refine Lst.run rfl rfl (by decide) (Ev.assign rfl) ?_
    refine Lst.nil ?_
    refine At.then ?_
    obtain rfl := some_inj H
    refine Cd.ret ?_
    exact At.ret2 rfl (Res.tmp rfl) (Res.tmp rfl) hF4 (List.Sublist.refl _) ⟨rfl, rfl⟩
  replace H := ite_t hb5 H
  refine Cd.condT rfl hb5 ?_
  refine Cd.skip ?_
  refine At.then ?_
  refine Cd.seq ?_
  refine Cd.block ?_
  refine Cd.seq ?_
  refine Cd.region ?_
  refine Lst.run rfl rfl (by decide) (Ev.move rfl) ?_
  refine Lst.run rfl rfl (by decide) (Ev.move rfl) ?_
  refine Lst.run rfl rfl (by decide) (Ev.move rfl) ?_
  refine Lst.run rfl rfl (by decide) (Ev.mul rfl rfl) ?_
  refine Lst.run rfl rfl (by decide) (Ev.add rfl rfl) ?_
  refine Lst.run rfl rfl (by decide) (Ev.move rfl) ?_
  obtain ⟨u6, h7, H⟩ := bind_some H
  refine Lst.run rfl rfl (by decide) (Ev.rem (i := w64 (a1 + (w64 (a2 * y2)))) (j := (a0.length : Int)) rfl rfl (nz_some h7)) ?_
  refine Lst.run rfl rfl (by decide) (Ev.move rfl) ?_
  refine Lst.run rfl rfl (by decide) (Ev.add rfl rfl) ?_
  refine Lst.run rfl rfl (by decide) (Ev.move rfl) ?_
  obtain ⟨u8, h9, H⟩ := bind_some H
  refine Lst.run rfl rfl (by decide) (Ev.rem (i := w64 (((w64 (a1 + (w64 (a2 * y2)))).tmod (a0.length : Int) : Int) + (a0.length : Int))) (j := (a0.length : Int)) rfl rfl (nz_some h9)) ?_
  refine Lst.run rfl rfl (by decide) (Ev.assign rfl) ?_
  refine Lst.nil ?_
  refine At.then ?_
  refine Cd.block ?_
  refine Cd.seq ?_
  refine Cd.region ?_
  refine Lst.run rfl rfl (by decide) (Ev.move rfl) ?_
  refine Lst.run rfl rfl (by decide) (Ev.move rfl) ?_
  refine Lst.run rfl rfl (by decide) (Ev.eql rfl rfl) ?_
  refine Lst.run rfl rfl (by decide) (Ev.assign rfl) ?_
  refine Lst.nil ?_
  refine At.then ?_
  rcases Bool.eq_false_or_eq_true (((w64 (((w64 (a1 + (w64 (a2 * y2)))).tmod (a0.length : Int) : Int) + (a0.length : Int))).tmod (a0.length : Int) : Int) == a1) with hb10 | hb10
  · replace H := ite_t hb10 H
    refine Cd.condT rfl hb10 ?_
    refine Cd.seq ?_
    refine Cd.as (e' := [(11, .int .i64 y2)]) (L' := L) ⟨rfl, trivial⟩ rfl ?_
    refine Cd.region ?_
    refine Lst.run rfl rfl (by decide) (Ev.move rfl) ?_
    refine Lst.run rfl rfl (by decide) (Ev.assign rfl) ?_
    refine Lst.run rfl rfl (by decide) (Ev.assign rfl) ?_
    refine Lst.nil ?_
    refine At.then ?_
    have H := hret1 _ (some_inj H).symm
    subst H
    replace H := HKl1
    obtain rfl := some_inj H
    refine Cd.ret ?_
    refine At.in_ret ?_
    refine At.in_ret ?_
    refine At.then_ret ?_
    refine At.then_ret ?_
    refine At.in_ret ?_
    refine At.then_ret ?_
    exact At.ret2 rfl (Res.tmp rfl) (Res.tmp rfl) hF4 (List.Sublist.refl _) ⟨rfl, rfl⟩
  replace H := ite_f hb10 H
  refine Cd.condF rfl hb10 ?_
  refine Cd.seq ?_
  refine Cd.as (e' := [(0, Sl.v s_a0), (1, .int .i64 a1), (2, .int .i64 a2), (3, .int .i64 a3), (10, .int .i64 (a0.length : Int)), (11, .int .i64 y2), (12, .int .i64 ((w64 (((w64 (a1 + (w64 (a2 * y2)))).tmod (a0.length : Int) : Int) + (a0.length : Int))).tmod (a0.length : Int) : Int))]) (L' := L) ⟨rfl, rfl, rfl, rfl, rfl, rfl, rfl, trivial⟩ rfl ?_
  refine Cd.quiet (by kernel_rfl) (by kernel_rfl) ?_
  refine Qt.run rfl rfl (by decide) (Ev.move rfl) ?_
  refine Qt.run rfl rfl (by decide) (Ev.move rfl) ?_
  obtain ⟨x11, h12, H⟩ := bind_some H
  have g13 := lat_some h12
  refine Qt.run rfl rfl (by decide) (Ev.indexS (α := Int) (xs := a0) rfl rfl Try.runUnderlying36 Try.sizeOf3 rfl (by decide) (hs_a0.mono hF4 hM) g13.1 g13.2.1) ?_
  refine Qt.run rfl rfl (by decide) (Ev.loadS (α := Int) rfl (hs_a0.mono hF4 hM) Try.isAgg3 (v := .int .i64 x11) ((Get.elemN (s := 1) (x := x11) rfl g13.2.2 (Get.here _)).off (by omega))) ?_
  refine Qt.run rfl rfl (by decide) (Ev.move rfl) ?_
  refine Qt.run rfl rfl (by decide) (Ev.move rfl) ?_
  obtain ⟨x14, h15, H⟩ := bind_some H
  have g16 := lat_some h15
  refine Qt.run rfl rfl (by decide) (Ev.indexS (α := Int) (xs := a0) rfl rfl Try.runUnderlying36 Try.sizeOf3 rfl (by decide) (hs_a0.mono hF4 hM) g16.1 g16.2.1) ?_
  refine Qt.run rfl rfl (by decide) (Ev.loadS (α := Int) rfl (hs_a0.mono hF4 hM) Try.isAgg3 (v := .int .i64 x14) ((Get.elemN (s := 1) (x := x14) rfl g16.2.2 (Get.here _)).off (by omega))) ?_
  refine Qt.run rfl rfl (by decide) (Ev.gtr rfl rfl) ?_
  refine Qt.run rfl rfl (by decide) (Ev.assign rfl) ?_
  refine Qt.done ?_
  refine At.then ?_
  rcases Bool.eq_false_or_eq_true (decide (x11 > x14)) with hb17 | hb17
  · replace H := ite_t hb17 H
    refine Cd.condT rfl hb17 ?_
    refine Cd.seq ?_
    refine Cd.as (e' := [(11, .int .i64 y2)]) (L' := L) ⟨rfl, trivial⟩ rfl ?_
    refine Cd.region ?_
    refine Lst.run rfl rfl (by decide) (Ev.move rfl) ?_
    refine Lst.run rfl rfl (by decide) (Ev.assign rfl) ?_
    refine Lst.run rfl rfl (by decide) (Ev.assign rfl) ?_
    refine Lst.nil ?_
    refine At.then ?_
    have H := hret1 _ (some_inj H).symm
    subst H
    replace H := HKl1
    obtain rfl := some_inj H
    refine Cd.ret ?_
    refine At.in_ret ?_
    refine At.in_ret ?_
    refine At.then_ret ?_
    refine At.then_ret ?_
    refine At.in_ret ?_
    refine At.then_ret ?_
    exact At.ret2 rfl (Res.tmp rfl) (Res.tmp rfl) hF4 (List.Sublist.refl _) ⟨rfl, rfl⟩
  replace H := ite_f hb17 H
  refine Cd.condF rfl hb17 ?_
  refine Cd.skip ?_
  refine At.in_normal ?_
  refine At.in_normal ?_
  refine At.then ?_
  refine Cd.region ?_
  refine Lst.run rfl rfl (by decide) (Ev.move rfl) ?_
  refine Lst.run rfl rfl (by decide) (Ev.add rfl rfl) ?_
  refine Lst.run rfl rfl (by decide) (Ev.assign rfl) ?_
  refine Lst.nil ?_
  exact At.meet (k1, w64 (y2 + (1 : Int))) hF4 ⟨rfl, rfl, rfl, rfl, rfl, rfl, trivial⟩ rfl ⟨hgo1 _ (some_inj H).symm, Nat.lt_succ_self _⟩
set_option maxRecDepth 20000 in
theorem slices_Index_bool_bool_sim {a0 : List Bool} {a1 : Bool} {s_a0 : Sl} {r : Int} (H : slices_Index_bool_bool a0 a1 = some r) (w0 : World) (F : Frz) (M L : List Item) (hM : M.Sublist L) (hs_a0 : Rd w0 F M s_a0 a0) : Ok Try.prog w0 99 [Sl.v s_a0, .bool a1] F (L) (Is (.int .i64 r) (L)) := by
  unfold slices_Index_bool_bool at H
  refine Ok.enter (m := 2) (n := 19) Try.func99 rfl rfl rfl (by decide) ?_
  refine Cd.env (e' := [(0, Sl.v s_a0), (1, .bool a1)]) rfl ?_
  refine Cd.seq ?_
  refine Cd.region ?_
  refine Lst.run rfl rfl (by decide) (Ev.assign rfl) ?_
  refine Lst.nil ?_
  refine At.then ?_
  refine Cd.seq ?_
  refine Cd.seq ?_
  refine Cd.region ?_
  refine Lst.run rfl rfl (by decide) (Ev.move rfl) ?_
  refine Lst.run rfl rfl (by decide) (Ev.lenS (α := Bool) (xs := a0) (by decide) rfl rfl Try.runUnderlying149 (hs_a0.mono (FLe.refl _) hM)) ?_
  refine Lst.run rfl rfl (by decide) (Ev.move rfl) ?_
  refine Lst.nil ?_
  refine At.then ?_
  refine Cd.block ?_
  refine Cd.bound (Rd.le (α := Bool) (xs := a0) (by decide) (hs_a0.mono (FLe.refl _) hM)) (fun hN8 => ?_)
  obtain ⟨ol1, H, HKl1⟩ := andThen_some H
  refine Cd.loop (σ := Nat × Nat × Unit) (fun (i1, k1, _u) => [(0, Sl.v s_a0), (1, .bool a1), (7, .int .i64 (a0.length : Int)), (8, .int .i64 (i1 : Int))]) (fun (i1, k1, _u) => L) (fun _ => (fun (i1, k1, _u) => rangeM (slices_Index_bool_bool_B0 a0 a1) k1 i1 () = some ol1 ∧ i1 + k1 = a0.length)) (fun (i1, k1, _u) => k1) (0, a0.length, ()) ⟨rfl, rfl, rfl, rfl, trivial⟩ rfl ⟨H, by omega⟩ ?_
  rintro F2 ⟨i1, k1, _u⟩ hF3 ⟨H, hik1⟩
  refine Cd.as (e' := [(0, Sl.v s_a0), (1, .bool a1), (7, .int .i64 (a0.length : Int)), (8, .int .i64 (i1 : Int))]) (L' := L) ⟨rfl, rfl, rfl, rfl, trivial⟩ rfl ?_
  rcases k1 with _ | k1
  · have hc1 : decide ((i1 : Int) < (a0.length : Int)) = false := decide_eq_false (by omega)
    replace H := rangeM_end H
    refine Cd.seq ?_
    refine Cd.region ?_
    refine Lst.run rfl rfl (by decide) (Ev.lss rfl rfl) ?_
    refine Lst.nil ?_
    refine At.then ?_
    refine Cd.seq ?_
    refine Cd.condF rfl hc1 ?_
    refine Cd.exit ?_
    refine At.then_exit ?_
    refine At.then_exit ?_
    refine At.in_exit ?_
    subst H
    replace H := HKl1
    refine At.then ?_
    refine Cd.seq ?_
    refine Cd.region ?_
    refine Lst.run rfl rfl (by decide) (Ev.assign rfl) ?_
    refine Lst.nil ?_
    refine At.then ?_
    obtain rfl := some_inj H
    refine Cd.ret ?_
    exact At.ret1 rfl (Res.tmp rfl) hF3 (List.Sublist.refl _) ⟨rfl, rfl⟩
  have hc1 : decide ((i1 : Int) < (a0.length : Int)) = true := decide_eq_true (by omega)
  obtain ⟨c1, H, hgo1, hbrk1, hret1⟩ := rangeM_go H
  unfold slices_Index_bool_bool_B0 at H
  try dsimp only at H
  refine Cd.seq ?_
  refine Cd.region ?_
  refine Lst.run rfl rfl (by decide) (Ev.lss rfl rfl) ?_
  refine Lst.nil ?_
  refine At.then ?_
  refine Cd.seq ?_
  refine Cd.condT rfl hc1 ?_
  refine Cd.skip ?_
  refine At.then ?_
  refine Cd.seq ?_
  refine Cd.block ?_
  refine Cd.seq ?_
  refine Cd.region ?_
  refine Lst.run rfl rfl (by decide) (Ev.move rfl) ?_
  refine Lst.run rfl rfl (by decide) (Ev.assign rfl) ?_
  refine Lst.nil ?_
  refine At.then ?_
  refine Cd.seq ?_
  refine Cd.region ?_
  refine Lst.run rfl rfl (by decide) (Ev.move rfl) ?_
  refine Lst.run rfl rfl (by decide) (Ev.move rfl) ?_
  refine Lst.run rfl rfl (by decide) (Ev.move rfl) ?_
  obtain ⟨x4, h5, H⟩ := bind_some H
  have g6 := lat_some h5
  refine Lst.run rfl rfl (by decide) (Ev.indexS (α := Bool) (xs := a0) rfl rfl Try.runUnderlying149 Try.sizeOf4 rfl (by decide) (hs_a0.mono hF3 hM) g6.1 g6.2.1) ?_
  refine Lst.run rfl rfl (by decide) (Ev.loadS (α := Bool) rfl (hs_a0.mono hF3 hM) Try.isAgg4 (v := .bool x4) ((Get.elemN (s := 1) (x := x4) rfl g6.2.2 (Get.here _)).off (by omega))) ?_
  refine Lst.run rfl rfl (by decide) (Ev.eqlB rfl rfl Try.runUnderlying4) ?_
  refine Lst.nil ?_
  refine At.then ?_
  rcases Bool.eq_false_or_eq_true (a1 == x4) with hb7 | hb7
  · replace H := ite_t hb7 H
    refine Cd.condT rfl hb7 ?_
    refine Cd.seq ?_
    refine Cd.region ?_
    refine Lst.run rfl rfl (by decide) (Ev.move rfl) ?_
    refine Lst.run rfl rfl (by decide) (Ev.assign rfl) ?_
    refine Lst.nil ?_
    refine At.then ?_
    have H := hret1 _ (some_inj H).symm
    subst H
    replace H := HKl1
    obtain rfl := some_inj H
    refine Cd.ret ?_
    refine At.in_ret ?_
    refine At.then_ret ?_
    refine At.then_ret ?_
    refine At.in_ret ?_
    refine At.then_ret ?_
    exact At.ret1 rfl (Res.tmp rfl) hF3 (List.Sublist.refl _) ⟨rfl, rfl⟩
  replace H := ite_f hb7 H
  refine Cd.condF rfl hb7 ?_
  refine Cd.skip ?_
  refine At.in_normal ?_
  refine At.then ?_
  refine Cd.region ?_
  refine Lst.run rfl rfl (by decide) (Ev.incr (by omega) rfl rfl) ?_
  refine Lst.run rfl rfl (by decide) (Ev.move rfl) ?_
  refine Lst.nil ?_
  exact At.meet (i1 + 1, k1, ()) hF3 ⟨rfl, rfl, rfl, rfl, trivial⟩ rfl ⟨⟨hgo1 _ (some_inj H).symm, by omega⟩, Nat.lt_succ_self _⟩
set_option maxRecDepth 20000 in
theorem ring_Halves_sim {fu : Nat} {a0 : List Int} {s_a0 : Sl} {r : Int × Int × Int} (H : ring_Halves fu a0 = some r) (w0 : World) (F : Frz) (M L : List Item) (hM : M.Sublist L) (hs_a0 : Rd w0 F M s_a0 a0) : Ok Try.prog w0 22 [Sl.v s_a0] F (L) (Is (.tuple #[.int .i64 r.1, .int .i64 r.2.1, .int .i64 r.2.2]) (L)) := by
  unfold ring_Halves at H
  refine Ok.enter (m := 1) (n := 69) Try.func22 rfl rfl rfl (by decide) ?_
  refine Cd.env (e' := [(0, Sl.v s_a0)]) rfl ?_
  refine Cd.seq ?_
  refine Cd.region ?_
  refine Lst.run rfl rfl (by decide) (Ev.assign rfl) ?_
  refine Lst.run rfl rfl (by decide) (Ev.assign rfl) ?_
  refine Lst.run rfl rfl (by decide) (Ev.assign rfl) ?_
  refine Lst.nil ?_
  refine At.then ?_
  refine Cd.seq ?_
  refine Cd.seq ?_
  refine Cd.region ?_
  refine Lst.run rfl rfl (by decide) (Ev.move rfl) ?_
  obtain ⟨r1, h2, H⟩ := bind_some H
  refine Lst.call1 rfl rfl (by decide) (vs := [Sl.v s_a0]) ⟨rfl, trivial⟩ Try.call23 (ring_Check_sim h2 w0 _ M _ hM (hs_a0.mono (FLe.refl _) (List.Sublist.refl _))) ?_
  refine Lst.run rfl rfl (by decide) (Ev.assign rfl) ?_
  refine Lst.nil ?_
  refine At.then ?_
  refine Cd.seq ?_
  refine Cd.region ?_
  refine Lst.run rfl rfl (by decide) (Ev.move rfl) ?_
  refine Lst.run rfl rfl (by decide) (Ev.neq rfl rfl) ?_
  refine Lst.nil ?_
  refine At.then ?_
  rcases Bool.eq_false_or_eq_true (r1 != (0 : Int)) with hb5 | hb5
  · replace H := ite_t hb5 H
    refine Cd.condT rfl hb5 ?_
    refine Cd.seq ?_
    refine Cd.region ?_
    refine Lst.run rfl rfl (by decide) (Ev.move rfl) ?_
    refine Lst.run rfl rfl (by decide) (Ev.assign rfl) ?_
    refine Lst.run rfl rfl (by decide) (Ev.assign rfl) ?_
    refine Lst.run rfl rfl (by decide) (Ev.assign rfl) ?_
    refine Lst.nil ?_
    refine At.then ?_
    obtain rfl := some_inj H
    refine Cd.ret ?_
    refine At.then_ret ?_
    exact At.ret3 rfl (Res.tmp rfl) (Res.tmp rfl) (Res.tmp rfl) (FLe.refl _) (List.Sublist.refl _) ⟨rfl, rfl⟩
  replace H := ite_f hb5 H
  refine Cd.condF rfl hb5 ?_
  refine Cd.skip ?_
  refine At.then ?_
  refine Cd.seq ?_
  refine Cd.region ?_
  refine Lst.buildSlice (α := Bool) (xs := ([true] : List Bool)) (pv := [(0, .bool true)]) rfl rfl (by decide) ⟨rfl, rfl, trivial⟩ (run_buildSlice (α := Bool) (z0 := false) (xs := ([true] : List Bool)) Try.runUnderlying149 Try.sizeOf4 Try.zeroValue4 rfl rfl rfl (by decide) rfl (fill_cons (cs := encs (List.replicate 1 false)) (cs' := encs ((List.replicate 1 false).set 0 true)) (vs := [.bool true]) rfl rfl rfl ((Put.elemN (s := 1) (i := 0) (x := false) (y := true) rfl rfl (Put.here (vs := [.bool true]) rfl)).off rfl) fill_nil)) rfl rfl (by decide) (fun s6 _ => ?_)
  refine Lst.run rfl rfl (by decide) (Ev.move rfl) ?_
  refine Lst.run rfl rfl (by decide) (Ev.lenS (α := Int) (xs := a0) (by decide) rfl rfl Try.runUnderlying36 (hs_a0.mono (FLe.refl _) (List.Sublist.cons _ hM))) ?_
  obtain ⟨r8, h9, H⟩ := bind_some H
  refine Lst.call rfl rfl (by decide) (vs := [Sl.v s6, .int .i64 (a0.length : Int)]) ⟨rfl, rfl, trivial⟩ Try.call97 (slices_Repeat_bool_bool_sim h9 w0 _ _ _ (List.Sublist.refl _) (Rd.own (i := 0) rfl rfl rfl)) (fun F12 L' v hF13 hv => ?_)
  obtain ⟨s10, rfl, rfl⟩ := hv
  refine Lst.run rfl rfl (by decide) (Ev.assign rfl) ?_
  refine Lst.nil ?_
  refine At.then ?_
  refine Cd.seq ?_
  refine Cd.region ?_
  refine Lst.run rfl rfl (by decide) (Ev.assign rfl) ?_
  refine Lst.nil ?_
  refine At.then ?_
  refine Cd.seq ?_
  refine Cd.region ?_
  refine Lst.run rfl rfl (by decide) (Ev.assign rfl) ?_
  refine Lst.nil ?_
  refine At.then ?_
  refine Cd.block ?_
  obtain ⟨ol14, H, HKl14⟩ := andThen_some H
  refine Cd.loop (σ := Nat × Int × Int × Sl × (List Bool)) (fun (k14, y15, y16, s17, l18) => [(0, Sl.v s_a0), (6, Sl.v s17), (7, .int .i64 y15), (8, .int .i64 y16)]) (fun (k14, y15, y16, s17, l18) => (.own s17 4 1 (encs l18)) :: (.own s6 4 1 (encs ([true] : List Bool))) :: L) (fun _ => (fun (k14, y15, y16, s17, l18) => whileM (ring_Halves_B0 fu a0) k14 (y15, y16, l18) = some ol14)) (fun (k14, y15, y16, s17, l18) => k14) (fu, (0 : Int), (1 : Int), s10, r8) ⟨rfl, rfl, rfl, rfl, trivial⟩ rfl H ?_
  rintro F19 ⟨k14, y15, y16, s17, l18⟩ hF20 H
  refine Cd.as (e' := [(0, Sl.v s_a0), (6, Sl.v s17), (7, .int .i64 y15), (8, .int .i64 y16)]) (L' := (.own s17 4 1 (encs l18)) :: (.own s6 4 1 (encs ([true] : List Bool))) :: L) ⟨rfl, rfl, rfl, rfl, trivial⟩ rfl ?_
  rcases k14 with _ | k14
  · cases H
  obtain ⟨c14, H, hgo14, hbrk14, hret14⟩ := whileM_go H
  unfold ring_Halves_B0 at H
  try dsimp only at H
  refine Cd.seq ?_
  refine Cd.block ?_
  refine Cd.seq ?_
  refine Cd.seq ?_
  refine Cd.region ?_
  refine Lst.run rfl rfl (by decide) (Ev.move rfl) ?_
  refine Lst.run rfl rfl (by decide) (Ev.lenS (α := Bool) (xs := l18) (by decide) rfl rfl Try.runUnderlying149 (Rd.own (i := 0) rfl rfl rfl)) ?_
  refine Lst.run rfl rfl (by decide) (Ev.move rfl) ?_
  refine Lst.nil ?_
  refine At.then ?_
  refine Cd.block ?_
  refine Cd.bound (Rd.le (α := Bool) (xs := l18) (by decide) (Rd.own (i := 0) rfl rfl rfl)) (fun hN54 => ?_)
  obtain ⟨ol21, H, HKl21⟩ := bind_some H
  refine Cd.loop (σ := Nat × Nat × Int × Sl × (List Bool)) (fun (i21, k21, y22, s23, l24) => [(0, Sl.v s_a0), (6, Sl.v s23), (7, .int .i64 y22), (8, .int .i64 y16), (26, Sl.v s23), (27, .int .i64 (l18.length : Int)), (28, .int .i64 (i21 : Int))]) (fun (i21, k21, y22, s23, l24) => (.own s23 4 1 (encs l24)) :: (.own s6 4 1 (encs ([true] : List Bool))) :: L) (fun _ => (fun (i21, k21, y22, s23, l24) => rangeF (ring_Halves_B2 fu a0 y16) k21 i21 (y22, l24) = some ol21 ∧ i21 + k21 = l18.length)) (fun (i21, k21, y22, s23, l24) => k21) (0, l18.length, y15, s17, l18) ⟨rfl, rfl, rfl, rfl, rfl, rfl, rfl, trivial⟩ rfl ⟨H, by omega⟩ ?_
  rintro F25 ⟨i21, k21, y22, s23, l24⟩ hF26 ⟨H, hik21⟩
  refine Cd.as (e' := [(0, Sl.v s_a0), (6, Sl.v s23), (7, .int .i64 y22), (8, .int .i64 y16), (26, Sl.v s23), (27, .int .i64 (l18.length : Int)), (28, .int .i64 (i21 : Int))]) (L' := (.own s23 4 1 (encs l24)) :: (.own s6 4 1 (encs ([true] : List Bool))) :: L) ⟨rfl, rfl, rfl, rfl, rfl, rfl, rfl, trivial⟩ rfl ?_
  rcases k21 with _ | k21
  · have hc21 : decide ((i21 : Int) < (l18.length : Int)) = false := decide_eq_false (by omega)
    replace H := rangeF_end H
    refine Cd.seq ?_
    refine Cd.region ?_
    refine Lst.run rfl rfl (by decide) (Ev.lss rfl rfl) ?_
    refine Lst.nil ?_
    refine At.then ?_
    refine Cd.seq ?_
    refine Cd.condF rfl hc21 ?_
    refine Cd.exit ?_
    refine At.then_exit ?_
    refine At.then_exit ?_
    refine At.in_exit ?_
    subst H
    replace H := HKl21
    refine At.then ?_
    refine Cd.seq ?_
    refine Cd.region ?_
    refine Lst.run rfl rfl (by decide) (Ev.move rfl) ?_
    refine Lst.run rfl rfl (by decide) (Ev.move rfl) ?_
    refine Lst.run rfl rfl (by decide) (Ev.lenS (α := Int) (xs := a0) (by decide) rfl rfl Try.runUnderlying36 (hs_a0.mono (FLe.trans (FLe.trans hF13 hF20) hF26) (List.Sublist.cons _ (List.Sublist.cons _ hM)))) ?_
    refine Lst.run rfl rfl (by decide) (Ev.geq rfl rfl) ?_
    refine Lst.nil ?_
    refine At.then ?_
    rcases Bool.eq_false_or_eq_true (decide (y16 ≥ (a0.length : Int))) with hb49 | hb49
    · replace H := ite_t hb49 H
      refine Cd.condT rfl hb49 ?_
      refine Cd.seq ?_
      refine Cd.region ?_
      refine Lst.run rfl rfl (by decide) (Ev.move rfl) ?_
      obtain ⟨r50, h51, H⟩ := bind_some H
      refine Lst.call1 rfl rfl (by decide) (vs := [Sl.v s23, .bool true]) ⟨rfl, rfl, trivial⟩ Try.call99 (slices_Index_bool_bool_sim h51 w0 _ _ _ (List.Sublist.refl _) (Rd.own (i := 0) rfl rfl rfl)) ?_
      refine Lst.run rfl rfl (by decide) (Ev.move rfl) ?_
      refine Lst.run rfl rfl (by decide) (Ev.assign rfl) ?_
      refine Lst.run rfl rfl (by decide) (Ev.assign rfl) ?_
      refine Lst.run rfl rfl (by decide) (Ev.assign rfl) ?_
      refine Lst.nil ?_
      refine At.then ?_
      have H := hret14 _ (some_inj H).symm
      subst H
      replace H := HKl14
      obtain rfl := some_inj H
      refine Cd.ret ?_
      refine At.in_ret ?_
      refine At.then_ret ?_
      refine At.then_ret ?_
      refine At.in_ret ?_
      exact At.ret3 rfl (Res.tmp rfl) (Res.tmp rfl) (Res.tmp rfl) (FLe.trans (FLe.trans hF13 hF20) hF26) (List.Sublist.cons _ (List.Sublist.cons _ (List.Sublist.refl _))) ⟨rfl, rfl⟩
    replace H := ite_f hb49 H
    refine Cd.condF rfl hb49 ?_
    refine Cd.skip ?_
    refine At.in_normal ?_
    refine At.then ?_
    refine Cd.region ?_
    refine Lst.run rfl rfl (by decide) (Ev.move rfl) ?_
    refine Lst.run rfl rfl (by decide) (Ev.mul rfl rfl) ?_
    refine Lst.run rfl rfl (by decide) (Ev.assign rfl) ?_
    refine Lst.nil ?_
    exact At.meet (k14, y22, w64 (y16 * (2 : Int)), s23, l24) (FLe.trans hF20 hF26) ⟨rfl, rfl, rfl, rfl, trivial⟩ rfl ⟨hgo14 _ (some_inj H).symm, Nat.lt_succ_self _⟩
  have hc21 : decide ((i21 : Int) < (l18.length : Int)) = true := decide_eq_true (by omega)
  obtain ⟨c21, H, hgo21⟩ := rangeF_go H
  unfold ring_Halves_B2 at H
  try dsimp only at H
  refine Cd.seq ?_
  refine Cd.region ?_
  refine Lst.run rfl rfl (by decide) (Ev.lss rfl rfl) ?_
  refine Lst.nil ?_
  refine At.then ?_
  refine Cd.seq ?_
  refine Cd.condT rfl hc21 ?_
  refine Cd.skip ?_
  refine At.then ?_
  refine Cd.seq ?_
  refine Cd.block ?_
  refine Cd.seq ?_
  refine Cd.region ?_
  refine Lst.run rfl rfl (by decide) (Ev.move rfl) ?_
  obtain ⟨x27, h28, H⟩ := bind_some H
  have g29 := lat_some h28
  refine Lst.run rfl rfl (by decide) (Ev.indexS (α := Bool) (xs := l24) rfl rfl Try.runUnderlying149 Try.sizeOf4 rfl (by decide) (Rd.own (i := 0) rfl rfl rfl) g29.1 g29.2.1) ?_
  refine Lst.run rfl rfl (by decide) (Ev.loadS (α := Bool) rfl (Rd.own (i := 0) rfl rfl rfl) Try.isAgg4 (v := .bool x27) ((Get.elemN (s := 1) (x := x27) rfl g29.2.2 (Get.here _)).off (by omega))) ?_
  refine Lst.run rfl rfl (by decide) (Ev.assign rfl) ?_
  refine Lst.run rfl rfl (by decide) (Ev.assign rfl) ?_
  refine Lst.nil ?_
  refine At.then ?_
  refine Cd.seq ?_
  refine Cd.seq ?_
  refine Cd.region ?_
  refine Lst.run rfl rfl (by decide) (Ev.move rfl) ?_
  refine Lst.run rfl rfl (by decide) (Ev.not rfl) ?_
  refine Lst.nil ?_
  refine At.then ?_
  rcases Bool.eq_false_or_eq_true (!x27) with hb30 | hb30
  · replace H := ite_t hb30 H
    refine Cd.condT rfl hb30 ?_
    refine Cd.exit ?_
    refine At.then_exit ?_
    refine At.in_exit ?_
    refine At.then ?_
    refine Cd.region ?_
    refine Lst.run rfl rfl (by decide) (Ev.incr (by omega) rfl rfl) ?_
    refine Lst.run rfl rfl (by decide) (Ev.move rfl) ?_
    refine Lst.nil ?_
    exact At.meet (i21 + 1, k21, y22, s23, l24) hF26 ⟨rfl, rfl, rfl, rfl, rfl, rfl, rfl, trivial⟩ rfl ⟨⟨hgo21 _ (some_inj H).symm, by omega⟩, Nat.lt_succ_self _⟩
  replace H := ite_f hb30 H
  refine Cd.condF rfl hb30 ?_
  refine Cd.skip ?_
  refine At.then ?_
  refine Cd.seq ?_
  refine Cd.region ?_
  refine Lst.run rfl rfl (by decide) (Ev.move rfl) ?_
  refine Lst.run rfl rfl (by decide) (Ev.move rfl) ?_
  refine Lst.run rfl rfl (by decide) (Ev.move rfl) ?_
  obtain ⟨r31, h32, H⟩ := bind_some H
  refine Lst.call1 rfl rfl (by decide) (vs := [Sl.v s_a0, .int .i64 (i21 : Int), .int .i64 (1 : Int), .int .i64 y16]) ⟨rfl, rfl, rfl, rfl, trivial⟩ Try.call98 (ring_send_sim h32 w0 _ M _ (List.Sublist.cons _ (List.Sublist.cons _ hM)) (hs_a0.mono (FLe.trans (FLe.trans hF13 hF20) hF26) (List.Sublist.refl _))) ?_
  refine Lst.run rfl rfl (by decide) (Ev.move rfl) ?_
  refine Lst.run rfl rfl (by decide) (Ev.extract rfl rfl) ?_
  refine Lst.run rfl rfl (by decide) (Ev.extract rfl rfl) ?_
  refine Lst.run rfl rfl (by decide) (Ev.assign rfl) ?_
  refine Lst.run rfl rfl (by decide) (Ev.assign rfl) ?_
  refine Lst.nil ?_
  refine At.then ?_
  refine Cd.seq ?_
  refine Cd.region ?_
  refine Lst.run rfl rfl (by decide) (Ev.move rfl) ?_
  refine Lst.run rfl rfl (by decide) (Ev.move rfl) ?_
  refine Lst.run rfl rfl (by decide) (Ev.move rfl) ?_
  obtain ⟨r35, h36, H⟩ := bind_some H
  refine Lst.call1 rfl rfl (by decide) (vs := [Sl.v s_a0, .int .i64 (i21 : Int), .int .i64 (-1 : Int), .int .i64 y16]) ⟨rfl, rfl, rfl, rfl, trivial⟩ Try.call98 (ring_send_sim h36 w0 _ M _ (List.Sublist.cons _ (List.Sublist.cons _ hM)) (hs_a0.mono (FLe.trans (FLe.trans hF13 hF20) hF26) (List.Sublist.refl _))) ?_
  refine Lst.run rfl rfl (by decide) (Ev.move rfl) ?_
  refine Lst.run rfl rfl (by decide) (Ev.extract rfl rfl) ?_
  refine Lst.run rfl rfl (by decide) (Ev.extract rfl rfl) ?_
  refine Lst.run rfl rfl (by decide) (Ev.assign rfl) ?_
  refine Lst.run rfl rfl (by decide) (Ev.assign rfl) ?_
  refine Lst.nil ?_
  refine At.then ?_
  refine Cd.seq ?_
  refine Cd.as (e' := [(0, Sl.v s_a0), (6, Sl.v s23), (7, .int .i64 y22), (8, .int .i64 y16), (26, Sl.v s23), (27, .int .i64 (l18.length : Int)), (28, .int .i64 (i21 : Int)), (9, .int .i64 (i21 : Int)), (11, .int .i64 r31.1), (12, .bool r31.2), (13, .int .i64 r35.1), (14, .bool r35.2)]) (L' := (.own s23 4 1 (encs l24)) :: (.own s6 4 1 (encs ([true] : List Bool))) :: L) ⟨rfl, rfl, rfl, rfl, rfl, rfl, rfl, rfl, rfl, rfl, rfl, rfl, trivial⟩ rfl ?_
  refine Cd.region ?_
  refine Lst.run rfl rfl (by decide) (Ev.move rfl) ?_
  refine Lst.run rfl rfl (by decide) (Ev.move rfl) ?_
  refine Lst.run rfl rfl (by decide) (Ev.move rfl) ?_
  refine Lst.run rfl rfl (by decide) (Ev.add rfl rfl) ?_
  refine Lst.run rfl rfl (by decide) (Ev.add rfl rfl) ?_
  refine Lst.run rfl rfl (by decide) (Ev.assign rfl) ?_
  refine Lst.nil ?_
  refine At.then ?_
  refine Cd.region ?_
  refine Lst.run rfl rfl (by decide) (Ev.move rfl) ?_
  refine Lst.run rfl rfl (by decide) (Ev.move rfl) ?_
  refine Lst.run rfl rfl (by decide) (Ev.move rfl) ?_
  refine Lst.run rfl rfl (by decide) (Ev.move rfl) ?_
  obtain ⟨o39, H, HKo39⟩ := bind_some H
  refine Lst.join (σ := Bool) 2 (fun y40 => [(0, Sl.v s_a0), (6, Sl.v s23), (7, .int .i64 (w64 (y22 + (w64 (r31.1 + r35.1))))), (8, .int .i64 y16), (26, Sl.v s23), (27, .int .i64 (l18.length : Int)), (28, .int .i64 (i21 : Int)), (54, Sl.v s23), (55, .int .i64 (i21 : Int)), (59, .bool y40)]) (fun y40 => (.own s23 4 1 (encs l24)) :: (.own s6 4 1 (encs ([true] : List Bool))) :: L) (fun _ y40 => y40 = o39) ?_ ?_
  · rcases (Bool.eq_false_or_eq_true r31.2).symm with hb41 | hb41
    · replace H := ite_f hb41 H
      refine Lst.skip rfl rfl rfl hb41 rfl (by decide) ?_
      refine Lst.run rfl rfl (by decide) (Ev.pickF rfl hb41 rfl) ?_
      refine Lst.nil ?_
      exact At.meet false (FLe.refl _) ⟨rfl, rfl, rfl, rfl, rfl, rfl, rfl, rfl, rfl, rfl, trivial⟩ rfl (some_inj H)
    replace H := ite_t hb41 H
    refine Lst.runG rfl rfl rfl hb41 rfl (by decide) (Ev.move rfl) ?_
    refine Lst.run rfl rfl (by decide) (Ev.pickT rfl hb41 rfl) ?_
    refine Lst.nil ?_
    exact At.meet r35.2 (FLe.refl _) ⟨rfl, rfl, rfl, rfl, rfl, rfl, rfl, rfl, rfl, rfl, trivial⟩ rfl (some_inj H)
  rintro F42 y40 hF43 hy
  subst hy
  refine Lst.as (e' := [(0, Sl.v s_a0), (6, Sl.v s23), (7, .int .i64 (w64 (y22 + (w64 (r31.1 + r35.1))))), (8, .int .i64 y16), (26, Sl.v s23), (27, .int .i64 (l18.length : Int)), (28, .int .i64 (i21 : Int)), (54, Sl.v s23), (55, .int .i64 (i21 : Int)), (59, .bool y40)]) (L' := (.own s23 4 1 (encs l24)) :: (.own s6 4 1 (encs ([true] : List Bool))) :: L) ⟨rfl, rfl, rfl, rfl, rfl, rfl, rfl, rfl, rfl, rfl, trivial⟩ rfl ?_
  replace H := HKo39
  obtain ⟨x44, h45, H⟩ := bind_some H
  have g46 := lat_some h45
  refine Lst.run rfl rfl (by decide) (Ev.indexS (α := Bool) (xs := l24) rfl rfl Try.runUnderlying149 Try.sizeOf4 rfl (by decide) (Rd.own (i := 0) rfl rfl rfl) g46.1 g46.2.1) ?_
  obtain ⟨p47, h48, H⟩ := Let_some H
  refine Lst.storeS (i := 0) rfl rfl rfl rfl rfl Try.sizeOf4 (vs := [.bool y40]) rfl rfl (by decide) rfl (xs' := encs p47) (by rw [← h48]; exact (Put.elemN (s := 1) (x := x44) rfl g46.2.2 (Put.here (vs := [.bool y40]) rfl)).off (by omega)) (L' := (.own s23 4 1 (encs p47)) :: (.own s6 4 1 (encs ([true] : List Bool))) :: L) rfl ?_
  refine Lst.nil ?_
  refine At.in_normal ?_
  refine At.then ?_
  refine Cd.region ?_
  refine Lst.run rfl rfl (by decide) (Ev.incr (by omega) rfl rfl) ?_
  refine Lst.run rfl rfl (by decide) (Ev.move rfl) ?_
  refine Lst.nil ?_
  exact At.meet (i21 + 1, k21, w64 (y22 + (w64 (r31.1 + r35.1))), s23, p47) (FLe.trans hF26 hF43) ⟨rfl, rfl, rfl, rfl, rfl, rfl, rfl, trivial⟩ rfl ⟨⟨hgo21 _ (some_inj H).symm, by omega⟩, Nat.lt_succ_self _⟩
set_option maxRecDepth 20000 in
theorem partref_Round_sim {fu : Nat} {a0 : List Int} {s_a0 : Sl} {r : Int × Int} (H : partref_Round fu a0 = some r) (w0 : World) (F : Frz) (M L : List Item) (hM : M.Sublist L) (hs_a0 : Rd w0 F M s_a0 a0) : Ok Try.prog w0 24 [Sl.v s_a0] F (L) (Is (.tuple #[.int .i64 r.1, .int .i64 r.2]) (L)) := by
  unfold partref_Round at H
  refine Ok.enter (m := 1) (n := 71) Try.func24 rfl rfl rfl (by decide) ?_
  refine Cd.env (e' := [(0, Sl.v s_a0)]) rfl ?_
  refine Cd.seq ?_
  refine Cd.region ?_
  refine Lst.run rfl rfl (by decide) (Ev.assign rfl) ?_
  refine Lst.run rfl rfl (by decide) (Ev.assign rfl) ?_
  refine Lst.nil ?_
  refine At.then ?_
  refine Cd.seq ?_
  refine Cd.region ?_
  refine Lst.run rfl rfl (by decide) (Ev.move rfl) ?_
  refine Lst.run rfl rfl (by decide) (Ev.lenS (α := Int) (xs := a0) (by decide) rfl rfl Try.runUnderlying36 (hs_a0.mono (FLe.refl _) hM)) ?_
  refine Lst.run rfl rfl (by decide) (Ev.assign rfl) ?_
  refine Lst.run rfl rfl (by decide) (Ev.assign rfl) ?_
  refine Lst.run rfl rfl (by decide) (Ev.assign rfl) ?_
  refine Lst.nil ?_
  refine At.then ?_
  refine Cd.seq ?_
  refine Cd.region ?_
  refine Lst.addNil 156 4 ?_
  refine Lst.run rfl rfl (by decide) (Ev.assign rfl) ?_
  refine Lst.nil ?_
  refine At.then ?_
  refine Cd.seq ?_
  refine Cd.seq ?_
  refine Cd.region ?_
  refine Lst.run rfl rfl (by decide) (Ev.move rfl) ?_
  refine Lst.run rfl rfl (by decide) (Ev.lenS (α := Int) (xs := a0) (by decide) rfl rfl Try.runUnderlying36 (hs_a0.mono (FLe.refl _) (List.Sublist.cons _ hM))) ?_
  refine Lst.run rfl rfl (by decide) (Ev.move rfl) ?_
  refine Lst.nil ?_
  refine At.then ?_
  refine Cd.block ?_
  refine Cd.bound (Rd.le (α := Int) (xs := a0) (by decide) (hs_a0.mono (FLe.refl _) (List.Sublist.cons _ hM))) (fun hN52 => ?_)
  obtain ⟨ol2, H, HKl2⟩ := bind_some H
  refine Cd.loop (σ := Nat × Nat × Sl × (List Token)) (fun (i2, k2, s3, l4) => [(0, Sl.v s_a0), (4, .int .i64 (a0.length : Int)), (5, .int .i64 (0 : Int)), (6, .int .i64 (-1 : Int)), (7, Sl.v s3), (15, .int .i64 (a0.length : Int)), (16, .int .i64 (i2 : Int))]) (fun (i2, k2, s3, l4) => (.own s3 156 4 (encs l4)) :: L) (fun _ => (fun (i2, k2, s3, l4) => rangeF (partref_Round_B0) k2 i2 l4 = some ol2 ∧ i2 + k2 = a0.length)) (fun (i2, k2, s3, l4) => k2) (0, a0.length, Sl.nil, ([] : List Token)) ⟨rfl, rfl, rfl, rfl, rfl, rfl, rfl, trivial⟩ rfl ⟨H, by omega⟩ ?_
  rintro F5 ⟨i2, k2, s3, l4⟩ hF6 ⟨H, hik2⟩
  refine Cd.as (e' := [(0, Sl.v s_a0), (4, .int .i64 (a0.length : Int)), (5, .int .i64 (0 : Int)), (6, .int .i64 (-1 : Int)), (7, Sl.v s3), (15, .int .i64 (a0.length : Int)), (16, .int .i64 (i2 : Int))]) (L' := (.own s3 156 4 (encs l4)) :: L) ⟨rfl, rfl, rfl, rfl, rfl, rfl, rfl, trivial⟩ rfl ?_
  rcases k2 with _ | k2
  · have hc2 : decide ((i2 : Int) < (a0.length : Int)) = false := decide_eq_false (by omega)
    replace H := rangeF_end H
    refine Cd.seq ?_
    refine Cd.region ?_
    refine Lst.run rfl rfl (by decide) (Ev.lss rfl rfl) ?_
    refine Lst.nil ?_
    refine At.then ?_
    refine Cd.seq ?_
    refine Cd.condF rfl hc2 ?_
    refine Cd.exit ?_
    refine At.then_exit ?_
    refine At.then_exit ?_
    refine At.in_exit ?_
    subst H
    replace H := HKl2
    refine At.then ?_
    refine Cd.seq ?_
    refine Cd.block ?_
    obtain ⟨ol12, H, HKl12⟩ := andThen_some H
    refine Cd.loop (σ := Nat × Int × Int × Sl × (List Token)) (fun (k12, y13, y14, s15, l16) => [(0, Sl.v s_a0), (4, .int .i64 (a0.length : Int)), (5, .int .i64 y13), (6, .int .i64 y14), (7, Sl.v s15)]) (fun (k12, y13, y14, s15, l16) => (.own s15 156 4 (encs l16)) :: L) (fun _ => (fun (k12, y13, y14, s15, l16) => whileM (partref_Round_B2 a0) k12 (y13, y14, l16) = some ol12)) (fun (k12, y13, y14, s15, l16) => k12) (fu, (0 : Int), (-1 : Int), s3, l4) ⟨rfl, rfl, rfl, rfl, rfl, trivial⟩ rfl H ?_
    rintro F18 ⟨k12, y13, y14, s15, l16⟩ hF19 H
    refine Cd.as (e' := [(0, Sl.v s_a0), (4, .int .i64 (a0.length : Int)), (5, .int .i64 y13), (6, .int .i64 y14), (7, Sl.v s15)]) (L' := (.own s15 156 4 (encs l16)) :: L) ⟨rfl, rfl, rfl, rfl, rfl, trivial⟩ rfl ?_
    rcases k12 with _ | k12
    · cases H
    obtain ⟨c12, H, hgo12, hbrk12, hret12⟩ := whileM_go H
    unfold partref_Round_B2 at H
    try dsimp only at H
    refine Cd.seq ?_
    refine Cd.seq ?_
    refine Cd.region ?_
    refine Lst.run rfl rfl (by decide) (Ev.move rfl) ?_
    refine Lst.run rfl rfl (by decide) (Ev.lenS (α := Token) (xs := l16) (by decide) rfl rfl Try.runUnderlying154 (Rd.own (i := 0) rfl rfl rfl)) ?_
    refine Lst.run rfl rfl (by decide) (Ev.gtr rfl rfl) ?_
    refine Lst.nil ?_
    refine At.then ?_
    rcases (Bool.eq_false_or_eq_true (decide ((l16.length : Int) > (0 : Int)))).symm with hb20 | hb20
    · replace H := ite_f hb20 H
      refine Cd.condF rfl hb20 ?_
      refine Cd.exit ?_
      refine At.then_exit ?_
      refine At.then_exit ?_
      refine At.in_exit ?_
      have H := hbrk12 _ (some_inj H).symm
      subst H
      replace H := HKl12
      refine At.then ?_
      refine Cd.seq ?_
      refine Cd.region ?_
      refine Lst.run rfl rfl (by decide) (Ev.move rfl) ?_
      refine Lst.run rfl rfl (by decide) (Ev.move rfl) ?_
      refine Lst.run rfl rfl (by decide) (Ev.assign rfl) ?_
      refine Lst.run rfl rfl (by decide) (Ev.assign rfl) ?_
      refine Lst.nil ?_
      refine At.then ?_
      obtain rfl := some_inj H
      refine Cd.ret ?_
      exact At.ret2 rfl (Res.tmp rfl) (Res.tmp rfl) (FLe.trans hF6 hF19) (List.Sublist.cons _ (List.Sublist.refl _)) ⟨rfl, rfl⟩
    replace H := ite_t hb20 H
    refine Cd.condT rfl hb20 ?_
    refine Cd.skip ?_
    refine At.then ?_
    refine Cd.block ?_
    refine Cd.seq ?_
    refine Cd.region ?_
    refine Lst.addNil 156 4 ?_
    refine Lst.run rfl rfl (by decide) (Ev.assign rfl) ?_
    refine Lst.nil ?_
    refine At.then ?_
    refine Cd.seq ?_
    refine Cd.seq ?_
    refine Cd.region ?_
    refine Lst.run rfl rfl (by decide) (Ev.move rfl) ?_
    refine Lst.run rfl rfl (by decide) (Ev.lenS (α := Token) (xs := l16) (by decide) rfl rfl Try.runUnderlying154 (Rd.own (i := 1) rfl rfl rfl)) ?_
    refine Lst.run rfl rfl (by decide) (Ev.move rfl) ?_
    refine Lst.nil ?_
    refine At.then ?_
    refine Cd.block ?_
    refine Cd.bound (Rd.le (α := Token) (xs := l16) (by decide) (Rd.own (i := 1) rfl rfl rfl)) (fun hN51 => ?_)
    obtain ⟨ol22, H, HKl22⟩ := bind_some H
    refine Cd.loop (σ := Nat × Nat × Int × Int × Sl × (List Token)) (fun (i22, k22, y23, y24, s25, l26) => [(0, Sl.v s_a0), (4, .int .i64 (a0.length : Int)), (5, .int .i64 y23), (6, .int .i64 y24), (9, Sl.v s25), (29, Sl.v s15), (30, .int .i64 (l16.length : Int)), (31, .int .i64 (i22 : Int))]) (fun (i22, k22, y23, y24, s25, l26) => (.own s25 156 4 (encs l26)) :: (.own s15 156 4 (encs l16)) :: L) (fun _ => (fun (i22, k22, y23, y24, s25, l26) => rangeF (partref_Round_B4 a0 l16) k22 i22 (y23, y24, l26) = some ol22 ∧ i22 + k22 = l16.length)) (fun (i22, k22, y23, y24, s25, l26) => k22) (0, l16.length, y13, y14, Sl.nil, ([] : List Token)) ⟨rfl, rfl, rfl, rfl, rfl, rfl, rfl, rfl, trivial⟩ rfl ⟨H, by omega⟩ ?_
    rintro F27 ⟨i22, k22, y23, y24, s25, l26⟩ hF28 ⟨H, hik22⟩
    refine Cd.as (e' := [(0, Sl.v s_a0), (4, .int .i64 (a0.length : Int)), (5, .int .i64 y23), (6, .int .i64 y24), (9, Sl.v s25), (29, Sl.v s15), (30, .int .i64 (l16.length : Int)), (31, .int .i64 (i22 : Int))]) (L' := (.own s25 156 4 (encs l26)) :: (.own s15 156 4 (encs l16)) :: L) ⟨rfl, rfl, rfl, rfl, rfl, rfl, rfl, rfl, trivial⟩ rfl ?_
    rcases k22 with _ | k22
    · have hc22 : decide ((i22 : Int) < (l16.length : Int)) = false := decide_eq_false (by omega)
      replace H := rangeF_end H
      refine Cd.seq ?_
      refine Cd.region ?_
      refine Lst.run rfl rfl (by decide) (Ev.lss rfl rfl) ?_
      refine Lst.nil ?_
      refine At.then ?_
      refine Cd.seq ?_
      refine Cd.condF rfl hc22 ?_
      refine Cd.exit ?_
      refine At.then_exit ?_
      refine At.then_exit ?_
      refine At.in_exit ?_
      subst H
      replace H := HKl22
      refine At.then ?_
      refine Cd.region ?_
      refine Lst.run rfl rfl (by decide) (Ev.move rfl) ?_
      refine Lst.run rfl rfl (by decide) (Ev.assign rfl) ?_
      refine Lst.nil ?_
      refine At.in_normal ?_
      refine At.less (L' := (.own s25 156 4 (encs l26)) :: L) (List.Sublist.cons_cons _ (List.Sublist.cons _ (List.Sublist.refl _))) ?_
      exact At.meet (k12, y23, y24, s25, l26) (FLe.trans hF19 hF28) ⟨rfl, rfl, rfl, rfl, rfl, trivial⟩ rfl ⟨hgo12 _ (some_inj H).symm, Nat.lt_succ_self _⟩
    have hc22 : decide ((i22 : Int) < (l16.length : Int)) = true := decide_eq_true (by omega)
    obtain ⟨c22, H, hgo22⟩ := rangeF_go H
    unfold partref_Round_B4 at H
    try dsimp only at H
    refine Cd.seq ?_
    refine Cd.region ?_
    refine Lst.run rfl rfl (by decide) (Ev.lss rfl rfl) ?_
    refine Lst.nil ?_
    refine At.then ?_
    refine Cd.seq ?_
    refine Cd.condT rfl hc22 ?_
    refine Cd.skip ?_
    refine At.then ?_
    refine Cd.seq ?_
    refine Cd.block ?_
    refine Cd.seq ?_
    refine Cd.region ?_
    obtain ⟨x29, h30, H⟩ := bind_some H
    have g31 := lat_some h30
    refine Lst.run rfl rfl (by decide) (Ev.indexS (α := Token) (xs := l16) rfl rfl Try.runUnderlying154 Try.sizeOf156 rfl (by decide) (Rd.own (i := 1) rfl rfl rfl) g31.1 g31.2.1) ?_
    refine Lst.run rfl rfl (by decide) (Ev.loadSA (α := Token) rfl (Rd.own (i := 1) rfl rfl rfl) Try.isAgg156 Try.sizeOf156 (ch := enc x29) (Enc.len _) (by decide) ((Get.elemN (s := 4) (x := x29) rfl g31.2.2 (Get.here _)).off (by omega))) ?_
    refine Lst.alloc (cs := enc Token.zero) rfl rfl (by decide) Try.zeroValue156 rfl (fun b32 => ?_)
    refine Lst.store (i := 0) rfl rfl rfl rfl rfl Try.sizeOf156 (vs := enc x29) rfl (Enc.len _) (Enc.one _) (cs' := enc x29) (Put.here ((Enc.len _).trans (Enc.len _).symm)) (L' := (.blk b32 (enc x29) 156) :: (.own s25 156 4 (encs l26)) :: (.own s15 156 4 (encs l16)) :: L) rfl ?_
    refine Lst.nil ?_
    refine At.then ?_
    refine Cd.seq ?_
    refine Cd.region ?_
    refine Lst.run rfl rfl (by decide) (Ev.move rfl) ?_
    refine Lst.run rfl rfl (by decide) (Ev.add rfl rfl) ?_
    refine Lst.run rfl rfl (by decide) (Ev.assign rfl) ?_
    refine Lst.nil ?_
    refine At.then ?_
    refine Cd.seq ?_
    refine Cd.region ?_
    refine Lst.run rfl rfl (by decide) (Ev.fieldAddr (off' := 1) rfl Try.runUnderlying156 rfl Try.sizeOf3 rfl rfl) ?_
    refine Lst.run rfl rfl (by decide) (Ev.load (i := 0) rfl rfl Try.isAgg3 (v := .int .i64 x29.at_) ((Token.get_at_ (Get.here _)).off (by rfl))) ?_
    refine Lst.run rfl rfl (by decide) (Ev.add rfl rfl) ?_
    refine Lst.run rfl rfl (by decide) (Ev.move rfl) ?_
    obtain ⟨u34, h35, H⟩ := bind_some H
    refine Lst.run rfl rfl (by decide) (Ev.rem (i := w64 (x29.at_ + (1 : Int))) (j := (a0.length : Int)) rfl rfl (nz_some h35)) ?_
    refine Lst.run rfl rfl (by decide) (Ev.fieldAddr (off' := 1) rfl Try.runUnderlying156 rfl Try.sizeOf3 rfl rfl) ?_
    obtain ⟨p36, h37, H⟩ := Let_some H
    refine Lst.store (i := 0) rfl rfl rfl rfl rfl Try.sizeOf3 (vs := [.int .i64 ((w64 (x29.at_ + (1 : Int))).tmod (a0.length : Int) : Int)]) rfl rfl rfl (cs' := enc p36) (by rw [← h37]; exact (Token.put_at_ (Put.here (vs := [.int .i64 ((w64 (x29.at_ + (1 : Int))).tmod (a0.length : Int) : Int)]) rfl)).off (by rfl)) (L' := (.blk b32 (enc p36) 156) :: (.own s25 156 4 (encs l26)) :: (.own s15 156 4 (encs l16)) :: L) rfl ?_
    refine Lst.nil ?_
    refine At.then ?_
    refine Cd.block ?_
    refine Cd.seq ?_
    refine Cd.region ?_
    refine Lst.run rfl rfl (by decide) (Ev.fieldAddr (off' := 1) rfl Try.runUnderlying156 rfl Try.sizeOf3 rfl rfl) ?_
    refine Lst.run rfl rfl (by decide) (Ev.load (i := 0) rfl rfl Try.isAgg3 (v := .int .i64 p36.at_) ((Token.get_at_ (Get.here _)).off (by rfl))) ?_
    refine Lst.run rfl rfl (by decide) (Ev.fieldAddr (off' := 0) rfl Try.runUnderlying156 rfl Try.sizeOf3 rfl rfl) ?_
    refine Lst.run rfl rfl (by decide) (Ev.load (i := 0) rfl rfl Try.isAgg3 (v := .int .i64 p36.of) ((Token.get_of (Get.here _)).off (by rfl))) ?_
    refine Lst.run rfl rfl (by decide) (Ev.eql rfl rfl) ?_
    refine Lst.run rfl rfl (by decide) (Ev.assign rfl) ?_
    refine Lst.nil ?_
    refine At.then ?_
    rcases Bool.eq_false_or_eq_true (p36.at_ == p36.of) with hb38 | hb38
    · replace H := ite_t hb38 H
      refine Cd.condT rfl hb38 ?_
      refine Cd.as (e' := [(0, Sl.v s_a0), (4, .int .i64 (a0.length : Int)), (5, .int .i64 (w64 (y23 + (1 : Int)))), (9, Sl.v s25), (29, Sl.v s15), (30, .int .i64 (l16.length : Int)), (31, .int .i64 (i22 : Int)), (11, .pointer (some ⟨b32, 0, none⟩))]) (L' := (.blk b32 (enc p36) 156) :: (.own s25 156 4 (encs l26)) :: (.own s15 156 4 (encs l16)) :: L) ⟨rfl, rfl, rfl, rfl, rfl, rfl, rfl, rfl, trivial⟩ rfl ?_
      refine Cd.region ?_
      refine Lst.run rfl rfl (by decide) (Ev.fieldAddr (off' := 0) rfl Try.runUnderlying156 rfl Try.sizeOf3 rfl rfl) ?_
      refine Lst.run rfl rfl (by decide) (Ev.load (i := 0) rfl rfl Try.isAgg3 (v := .int .i64 p36.of) ((Token.get_of (Get.here _)).off (by rfl))) ?_
      refine Lst.run rfl rfl (by decide) (Ev.assign rfl) ?_
      refine Lst.nil ?_
      refine At.in_normal ?_
      refine At.in_normal ?_
      refine At.then ?_
      refine Cd.region ?_
      refine Lst.run rfl rfl (by decide) (Ev.incr (by omega) rfl rfl) ?_
      refine Lst.run rfl rfl (by decide) (Ev.move rfl) ?_
      refine Lst.nil ?_
      refine At.less (L' := (.own s25 156 4 (encs l26)) :: (.own s15 156 4 (encs l16)) :: L) (List.Sublist.cons _ (List.Sublist.cons_cons _ (List.Sublist.cons_cons _ (List.Sublist.refl _)))) ?_
      exact At.meet (i22 + 1, k22, w64 (y23 + (1 : Int)), p36.of, s25, l26) hF28 ⟨rfl, rfl, rfl, rfl, rfl, rfl, rfl, rfl, trivial⟩ rfl ⟨⟨hgo22 _ (some_inj H).symm, by omega⟩, Nat.lt_succ_self _⟩
    replace H := ite_f hb38 H
    refine Cd.condF rfl hb38 ?_
    refine Cd.seq ?_
    refine Cd.as (e' := [(0, Sl.v s_a0), (4, .int .i64 (a0.length : Int)), (5, .int .i64 (w64 (y23 + (1 : Int)))), (6, .int .i64 y24), (9, Sl.v s25), (29, Sl.v s15), (30, .int .i64 (l16.length : Int)), (31, .int .i64 (i22 : Int)), (11, .pointer (some ⟨b32, 0, none⟩))]) (L' := (.blk b32 (enc p36) 156) :: (.own s25 156 4 (encs l26)) :: (.own s15 156 4 (encs l16)) :: L) ⟨rfl, rfl, rfl, rfl, rfl, rfl, rfl, rfl, rfl, trivial⟩ rfl ?_
    refine Cd.quiet (by kernel_rfl) (by kernel_rfl) ?_
    refine Qt.run rfl rfl (by decide) (Ev.move rfl) ?_
    refine Qt.run rfl rfl (by decide) (Ev.fieldAddr (off' := 0) rfl Try.runUnderlying156 rfl Try.sizeOf3 rfl rfl) ?_
    refine Qt.run rfl rfl (by decide) (Ev.load (i := 0) rfl rfl Try.isAgg3 (v := .int .i64 p36.of) ((Token.get_of (Get.here _)).off (by rfl))) ?_
    obtain ⟨x39, h40, H⟩ := bind_some H
    have g41 := lat_some h40
    refine Qt.run rfl rfl (by decide) (Ev.indexS (α := Int) (xs := a0) rfl rfl Try.runUnderlying36 Try.sizeOf3 rfl (by decide) (hs_a0.mono (FLe.trans (FLe.trans hF6 hF19) hF28) (List.Sublist.cons _ (List.Sublist.cons _ (List.Sublist.cons _ hM)))) g41.1 g41.2.1) ?_
    refine Qt.run rfl rfl (by decide) (Ev.loadS (α := Int) rfl (hs_a0.mono (FLe.trans (FLe.trans hF6 hF19) hF28) (List.Sublist.cons _ (List.Sublist.cons _ (List.Sublist.cons _ hM)))) Try.isAgg3 (v := .int .i64 x39) ((Get.elemN (s := 1) (x := x39) rfl g41.2.2 (Get.here _)).off (by omega))) ?_
    refine Qt.run rfl rfl (by decide) (Ev.move rfl) ?_
    refine Qt.run rfl rfl (by decide) (Ev.fieldAddr (off' := 1) rfl Try.runUnderlying156 rfl Try.sizeOf3 rfl rfl) ?_
    refine Qt.run rfl rfl (by decide) (Ev.load (i := 0) rfl rfl Try.isAgg3 (v := .int .i64 p36.at_) ((Token.get_at_ (Get.here _)).off (by rfl))) ?_
    obtain ⟨x42, h43, H⟩ := bind_some H
    have g44 := lat_some h43
    refine Qt.run rfl rfl (by decide) (Ev.indexS (α := Int) (xs := a0) rfl rfl Try.runUnderlying36 Try.sizeOf3 rfl (by decide) (hs_a0.mono (FLe.trans (FLe.trans hF6 hF19) hF28) (List.Sublist.cons _ (List.Sublist.cons _ (List.Sublist.cons _ hM)))) g44.1 g44.2.1) ?_
    refine Qt.run rfl rfl (by decide) (Ev.loadS (α := Int) rfl (hs_a0.mono (FLe.trans (FLe.trans hF6 hF19) hF28) (List.Sublist.cons _ (List.Sublist.cons _ (List.Sublist.cons _ hM)))) Try.isAgg3 (v := .int .i64 x42) ((Get.elemN (s := 1) (x := x42) rfl g44.2.2 (Get.here _)).off (by omega))) ?_
    refine Qt.run rfl rfl (by decide) (Ev.gtr rfl rfl) ?_
    refine Qt.run rfl rfl (by decide) (Ev.assign rfl) ?_
    refine Qt.done ?_
    refine At.then ?_
    rcases (Bool.eq_false_or_eq_true (decide (x39 > x42))).symm with hb45 | hb45
    · replace H := ite_f hb45 H
      refine Cd.condF rfl hb45 ?_
      refine Cd.skip ?_
      refine At.in_normal ?_
      refine At.in_normal ?_
      refine At.then ?_
      refine Cd.region ?_
      refine Lst.run rfl rfl (by decide) (Ev.incr (by omega) rfl rfl) ?_
      refine Lst.run rfl rfl (by decide) (Ev.move rfl) ?_
      refine Lst.nil ?_
      refine At.less (L' := (.own s25 156 4 (encs l26)) :: (.own s15 156 4 (encs l16)) :: L) (List.Sublist.cons _ (List.Sublist.cons_cons _ (List.Sublist.cons_cons _ (List.Sublist.refl _)))) ?_
      exact At.meet (i22 + 1, k22, w64 (y23 + (1 : Int)), y24, s25, l26) hF28 ⟨rfl, rfl, rfl, rfl, rfl, rfl, rfl, rfl, trivial⟩ rfl ⟨⟨hgo22 _ (some_inj H).symm, by omega⟩, Nat.lt_succ_self _⟩
    replace H := ite_t hb45 H
    refine Cd.condT rfl hb45 ?_
    refine Cd.region ?_
    refine Lst.run rfl rfl (by decide) (Ev.move rfl) ?_
    refine Lst.run rfl rfl (by decide) (Ev.loadA (i := 0) rfl rfl Try.isAgg156 Try.sizeOf156 (ch := enc p36) (Enc.len _) (Get.here _)) ?_
    refine Lst.buildSlice (α := Token) (xs := ([p36] : List Token)) (pv := [(0, .agg (enc p36).toArray)]) rfl rfl (by decide) ⟨rfl, rfl, trivial⟩ (run_buildSlice (α := Token) (z0 := Token.zero) (xs := ([p36] : List Token)) Try.runUnderlying154 Try.sizeOf156 Try.zeroValue156 rfl rfl rfl (by decide) rfl (fill_cons (cs := encs (List.replicate 1 Token.zero)) (cs' := encs ((List.replicate 1 Token.zero).set 0 p36)) (vs := enc p36) rfl rfl (Enc.len _) ((Put.elemN (s := 4) (i := 0) (x := Token.zero) (y := p36) rfl rfl (Put.here ((Enc.len _).trans (Enc.len _).symm))).off rfl) fill_nil)) rfl rfl (by decide) (fun s46 _ => ?_)
    obtain ⟨u48, h49, H⟩ := bind_some H
    refine Lst.append (i := 2) (α := Token) (xs := l26) (ys := ([p36] : List Token)) rfl rfl (by decide) rfl rfl Try.runUnderlying154 Try.typeInfo156 rfl rfl rfl rfl rfl rfl (Rd.own (i := 0) rfl rfl rfl) rfl (room_some h49) rfl (fun s50 => ?_)
    refine Lst.its (L' := (.own s46 156 4 (encs ([p36] : List Token))) :: (.blk b32 (enc p36) 156) :: (.own s50 156 4 (encs (l26 ++ ([p36] : List Token)))) :: (.own s15 156 4 (encs l16)) :: L) rfl ?_
    refine Lst.run rfl rfl (by decide) (Ev.assign rfl) ?_
    refine Lst.nil ?_
    refine At.in_normal ?_
    refine At.in_normal ?_
    refine At.then ?_
    refine Cd.as (e' := [(0, Sl.v s_a0), (4, .int .i64 (a0.length : Int)), (5, .int .i64 (w64 (y23 + (1 : Int)))), (6, .int .i64 y24), (29, Sl.v s15), (30, .int .i64 (l16.length : Int)), (31, .int .i64 (i22 : Int)), (9, Sl.v s50)]) (L' := (.own s46 156 4 (encs ([p36] : List Token))) :: (.blk b32 (enc p36) 156) :: (.own s50 156 4 (encs (l26 ++ ([p36] : List Token)))) :: (.own s15 156 4 (encs l16)) :: L) ⟨rfl, rfl, rfl, rfl, rfl, rfl, rfl, rfl, trivial⟩ rfl ?_
    refine Cd.region ?_
    refine Lst.run rfl rfl (by decide) (Ev.incr (by omega) rfl rfl) ?_
    refine Lst.run rfl rfl (by decide) (Ev.move rfl) ?_
    refine Lst.nil ?_
    refine At.less (L' := (.own s50 156 4 (encs (l26 ++ ([p36] : List Token)))) :: (.own s15 156 4 (encs l16)) :: L) (List.Sublist.cons _ (List.Sublist.cons _ (List.Sublist.cons_cons _ (List.Sublist.cons_cons _ (List.Sublist.refl _))))) ?_
    exact At.meet (i22 + 1, k22, w64 (y23 + (1 : Int)), y24, s50, l26 ++ ([p36] : List Token)) hF28 ⟨rfl, rfl, rfl, rfl, rfl, rfl, rfl, rfl, trivial⟩ rfl ⟨⟨hgo22 _ (some_inj H).symm, by omega⟩, Nat.lt_succ_self _⟩
  have hc2 : decide ((i2 : Int) < (a0.length : Int)) = true := decide_eq_true (by omega)
  obtain ⟨c2, H, hgo2⟩ := rangeF_go H
  unfold partref_Round_B0 at H
  try dsimp only at H
  refine Cd.seq ?_
  refine Cd.region ?_
  refine Lst.run rfl rfl (by decide) (Ev.lss rfl rfl) ?_
  refine Lst.nil ?_
  refine At.then ?_
  refine Cd.seq ?_
  refine Cd.condT rfl hc2 ?_
  refine Cd.skip ?_
  refine At.then ?_
  refine Cd.seq ?_
  refine Cd.block ?_
  refine Cd.seq ?_
  refine Cd.region ?_
  refine Lst.run rfl rfl (by decide) (Ev.move rfl) ?_
  refine Lst.run rfl rfl (by decide) (Ev.assign rfl) ?_
  refine Lst.nil ?_
  refine At.then ?_
  refine Cd.region ?_
  refine Lst.run rfl rfl (by decide) (Ev.move rfl) ?_
  refine Lst.run rfl rfl (by decide) (Ev.move rfl) ?_
  refine Lst.run rfl rfl (by decide) (Ev.move rfl) ?_
  refine Lst.run rfl rfl (by decide) (Ev.build (v := .agg (enc ({ Token.zero with of := (i2 : Int), at_ := (i2 : Int) } : Token)).toArray) (pv := [(0, .int .i64 (i2 : Int)), (1, .int .i64 (i2 : Int))]) ⟨rfl, rfl, ⟨rfl, rfl, trivial⟩⟩ (fun w => by kernel_rfl)) ?_
  refine Lst.buildSlice (α := Token) (xs := ([({ Token.zero with of := (i2 : Int), at_ := (i2 : Int) } : Token)] : List Token)) (pv := [(0, .agg (enc ({ Token.zero with of := (i2 : Int), at_ := (i2 : Int) } : Token)).toArray)]) rfl rfl (by decide) ⟨rfl, rfl, trivial⟩ (run_buildSlice (α := Token) (z0 := Token.zero) (xs := ([({ Token.zero with of := (i2 : Int), at_ := (i2 : Int) } : Token)] : List Token)) Try.runUnderlying154 Try.sizeOf156 Try.zeroValue156 rfl rfl rfl (by decide) rfl (fill_cons (cs := encs (List.replicate 1 Token.zero)) (cs' := encs ((List.replicate 1 Token.zero).set 0 ({ Token.zero with of := (i2 : Int), at_ := (i2 : Int) } : Token))) (vs := enc ({ Token.zero with of := (i2 : Int), at_ := (i2 : Int) } : Token)) rfl rfl (Enc.len _) ((Put.elemN (s := 4) (i := 0) (x := Token.zero) (y := ({ Token.zero with of := (i2 : Int), at_ := (i2 : Int) } : Token)) rfl rfl (Put.here ((Enc.len _).trans (Enc.len _).symm))).off rfl) fill_nil)) rfl rfl (by decide) (fun s7 _ => ?_)
  obtain ⟨u9, h10, H⟩ := bind_some H
  refine Lst.append (i := 1) (α := Token) (xs := l4) (ys := ([({ Token.zero with of := (i2 : Int), at_ := (i2 : Int) } : Token)] : List Token)) rfl rfl (by decide) rfl rfl Try.runUnderlying154 Try.typeInfo156 rfl rfl rfl rfl rfl rfl (Rd.own (i := 0) rfl rfl rfl) rfl (room_some h10) rfl (fun s11 => ?_)
  refine Lst.its (L' := (.own s7 156 4 (encs ([({ Token.zero with of := (i2 : Int), at_ := (i2 : Int) } : Token)] : List Token))) :: (.own s11 156 4 (encs (l4 ++ ([({ Token.zero with of := (i2 : Int), at_ := (i2 : Int) } : Token)] : List Token)))) :: L) rfl ?_
  refine Lst.run rfl rfl (by decide) (Ev.assign rfl) ?_
  refine Lst.nil ?_
  refine At.in_normal ?_
  refine At.then ?_
  refine Cd.region ?_
  refine Lst.run rfl rfl (by decide) (Ev.incr (by omega) rfl rfl) ?_
  refine Lst.run rfl rfl (by decide) (Ev.move rfl) ?_
  refine Lst.nil ?_
  refine At.less (L' := (.own s11 156 4 (encs (l4 ++ ([({ Token.zero with of := (i2 : Int), at_ := (i2 : Int) } : Token)] : List Token)))) :: L) (List.Sublist.cons _ (List.Sublist.cons_cons _ (List.Sublist.refl _))) ?_
  exact At.meet (i2 + 1, k2, s11, l4 ++ ([({ Token.zero with of := (i2 : Int), at_ := (i2 : Int) } : Token)] : List Token)) hF6 ⟨rfl, rfl, rfl, rfl, rfl, rfl, rfl, trivial⟩ rfl ⟨⟨hgo2 _ (some_inj H).symm, by omega⟩, Nat.lt_succ_self _⟩
set_option maxRecDepth 20000 in
theorem partref_Halves_sim {fu : Nat} {a0 : List Int} {s_a0 : Sl} {r : Int × Int} (H : partref_Halves fu a0 = some r) (w0 : World) (F : Frz) (M L : List Item) (hM : M.Sublist L) (hs_a0 : Rd w0 F M s_a0 a0) : Ok Try.prog w0 25 [Sl.v s_a0] F (L) (Is (.tuple #[.int .i64 r.1, .int .i64 r.2]) (L)) := by
  unfold partref_Halves at H
  refine Ok.enter (m := 1) (n := 142) Try.func25 rfl rfl rfl (by decide) ?_
  refine Cd.env (e' := [(0, Sl.v s_a0)]) rfl ?_
  refine Cd.seq ?_
  refine Cd.region ?_
  refine Lst.run rfl rfl (by decide) (Ev.assign rfl) ?_
  refine Lst.run rfl rfl (by decide) (Ev.assign rfl) ?_
  refine Lst.nil ?_
  refine At.then ?_
  refine Cd.seq ?_
  refine Cd.region ?_
  refine Lst.run rfl rfl (by decide) (Ev.move rfl) ?_
  refine Lst.run rfl rfl (by decide) (Ev.lenS (α := Int) (xs := a0) (by decide) rfl rfl Try.runUnderlying36 (hs_a0.mono (FLe.refl _) hM)) ?_
  refine Lst.run rfl rfl (by decide) (Ev.assign rfl) ?_
  refine Lst.run rfl rfl (by decide) (Ev.assign rfl) ?_
  refine Lst.nil ?_
  refine At.then ?_
  refine Cd.seq ?_
  refine Cd.region ?_
  refine Lst.run rfl rfl (by decide) (Ev.move rfl) ?_
  obtain ⟨n1, h2, H⟩ := bind_some H
  have g3 := mkLen_some h2
  refine Lst.make (α := Int) (z0 := (0 : Int)) (k := n1) rfl rfl (by decide) (congrArg some (congrArg (Value.int .i64) g3.1)) (congrArg some (congrArg (Value.int .i64) g3.1)) Try.runUnderlying36 Try.typeInfo3 rfl rfl rfl rfl rfl g3.2 rfl (fun s4 => ?_)
  refine Lst.run rfl rfl (by decide) (Ev.assign rfl) ?_
  refine Lst.nil ?_
  refine At.then ?_
  refine Cd.seq ?_
  refine Cd.seq ?_
  refine Cd.region ?_
  refine Lst.run rfl rfl (by decide) (Ev.move rfl) ?_
  refine Lst.run rfl rfl (by decide) (Ev.lenS (α := Int) (xs := (List.replicate n1 (0 : Int))) (by decide) rfl rfl Try.runUnderlying36 (Rd.own (i := 0) rfl rfl rfl)) ?_
  refine Lst.run rfl rfl (by decide) (Ev.move rfl) ?_
  refine Lst.nil ?_
  refine At.then ?_
  refine Cd.block ?_
  refine Cd.bound (Rd.le (α := Int) (xs := (List.replicate n1 (0 : Int))) (by decide) (Rd.own (i := 0) rfl rfl rfl)) (fun hN119 => ?_)
  obtain ⟨ol6, H, HKl6⟩ := bind_some H
  refine Cd.loop (σ := Nat × Nat × Sl × (List Int)) (fun (i6, k6, s7, l8) => [(0, Sl.v s_a0), (4, .int .i64 (a0.length : Int)), (5, .int .i64 (0 : Int)), (6, Sl.v s7), (22, .int .i64 ((List.replicate n1 (0 : Int)).length : Int)), (23, .int .i64 (i6 : Int))]) (fun (i6, k6, s7, l8) => (.own s7 3 1 (encs l8)) :: L) (fun _ => (fun (i6, k6, s7, l8) => rangeF (partref_Halves_B0) k6 i6 l8 = some ol6 ∧ i6 + k6 = (List.replicate n1 (0 : Int)).length)) (fun (i6, k6, s7, l8) => k6) (0, (List.replicate n1 (0 : Int)).length, s4, (List.replicate n1 (0 : Int))) ⟨rfl, rfl, rfl, rfl, rfl, rfl, trivial⟩ rfl ⟨H, by omega⟩ ?_
  rintro F9 ⟨i6, k6, s7, l8⟩ hF10 ⟨H, hik6⟩
  refine Cd.as (e' := [(0, Sl.v s_a0), (4, .int .i64 (a0.length : Int)), (5, .int .i64 (0 : Int)), (6, Sl.v s7), (22, .int .i64 ((List.replicate n1 (0 : Int)).length : Int)), (23, .int .i64 (i6 : Int))]) (L' := (.own s7 3 1 (encs l8)) :: L) ⟨rfl, rfl, rfl, rfl, rfl, rfl, trivial⟩ rfl ?_
  rcases k6 with _ | k6
  · have hc6 : decide ((i6 : Int) < ((List.replicate n1 (0 : Int)).length : Int)) = false := decide_eq_false (by omega)
    replace H := rangeF_end H
    refine Cd.seq ?_
    refine Cd.region ?_
    refine Lst.run rfl rfl (by decide) (Ev.lss rfl rfl) ?_
    refine Lst.nil ?_
    refine At.then ?_
    refine Cd.seq ?_
    refine Cd.condF rfl hc6 ?_
    refine Cd.exit ?_
    refine At.then_exit ?_
    refine At.then_exit ?_
    refine At.in_exit ?_
    subst H
    replace H := HKl6
    refine At.then ?_
    refine Cd.seq ?_
    refine Cd.region ?_
    refine Lst.run rfl rfl (by decide) (Ev.assign rfl) ?_
    refine Lst.nil ?_
    refine At.then ?_
    refine Cd.block ?_
    obtain ⟨ol16, H, HKl16⟩ := andThen_some H
    refine Cd.loop (σ := Nat × Int × Sl × (List Int) × Int) (fun (k16, y17, s18, l19, y21) => [(0, Sl.v s_a0), (4, .int .i64 (a0.length : Int)), (5, .int .i64 y17), (6, Sl.v s18), (8, .int .i64 y21)]) (fun (k16, y17, s18, l19, y21) => (.own s18 3 1 (encs l19)) :: L) (fun _ => (fun (k16, y17, s18, l19, y21) => whileM (partref_Halves_B2 fu a0) k16 (y17, l19, y21) = some ol16)) (fun (k16, y17, s18, l19, y21) => k16) (fu, (0 : Int), s7, l8, (1 : Int)) ⟨rfl, rfl, rfl, rfl, rfl, trivial⟩ rfl H ?_
    rintro F22 ⟨k16, y17, s18, l19, y21⟩ hF23 H
    refine Cd.as (e' := [(0, Sl.v s_a0), (4, .int .i64 (a0.length : Int)), (5, .int .i64 y17), (6, Sl.v s18), (8, .int .i64 y21)]) (L' := (.own s18 3 1 (encs l19)) :: L) ⟨rfl, rfl, rfl, rfl, rfl, trivial⟩ rfl ?_
    rcases k16 with _ | k16
    · cases H
    obtain ⟨c16, H, hgo16, hbrk16, hret16⟩ := whileM_go H
    unfold partref_Halves_B2 at H
    try dsimp only at H
    refine Cd.seq ?_
    refine Cd.block ?_
    refine Cd.seq ?_
    refine Cd.region ?_
    refine Lst.run rfl rfl (by decide) (Ev.move rfl) ?_
    obtain ⟨n24, h25, H⟩ := bind_some H
    have g26 := mkLen_some h25
    refine Lst.make (α := Int) (z0 := (0 : Int)) (k := n24) rfl rfl (by decide) (congrArg some (congrArg (Value.int .i64) g26.1)) (congrArg some (congrArg (Value.int .i64) g26.1)) Try.runUnderlying36 Try.typeInfo3 rfl rfl rfl rfl rfl g26.2 rfl (fun s27 => ?_)
    refine Lst.run rfl rfl (by decide) (Ev.assign rfl) ?_
    refine Lst.nil ?_
    refine At.then ?_
    refine Cd.seq ?_
    refine Cd.region ?_
    refine Lst.addNil 156 4 ?_
    refine Lst.run rfl rfl (by decide) (Ev.assign rfl) ?_
    refine Lst.nil ?_
    refine At.then ?_
    refine Cd.seq ?_
    refine Cd.seq ?_
    refine Cd.region ?_
    refine Lst.run rfl rfl (by decide) (Ev.move rfl) ?_
    refine Lst.run rfl rfl (by decide) (Ev.lenS (α := Int) (xs := l19) (by decide) rfl rfl Try.runUnderlying36 (Rd.own (i := 2) rfl rfl rfl)) ?_
    refine Lst.run rfl rfl (by decide) (Ev.move rfl) ?_
    refine Lst.nil ?_
    refine At.then ?_
    refine Cd.block ?_
    refine Cd.bound (Rd.le (α := Int) (xs := l19) (by decide) (Rd.own (i := 2) rfl rfl rfl)) (fun hN118 => ?_)
    obtain ⟨ol30, H, HKl30⟩ := bind_some H
    refine Cd.loop (σ := Nat × Nat × Sl × (List Token)) (fun (i30, k30, s31, l32) => [(0, Sl.v s_a0), (4, .int .i64 (a0.length : Int)), (5, .int .i64 y17), (8, .int .i64 y21), (9, Sl.v s27), (10, Sl.v s31), (35, Sl.v s18), (36, .int .i64 (l19.length : Int)), (37, .int .i64 (i30 : Int))]) (fun (i30, k30, s31, l32) => (.own s31 156 4 (encs l32)) :: (.own s27 3 1 (encs (List.replicate n24 (0 : Int)))) :: (.own s18 3 1 (encs l19)) :: L) (fun _ => (fun (i30, k30, s31, l32) => rangeF (partref_Halves_B4 l19 y21) k30 i30 l32 = some ol30 ∧ i30 + k30 = l19.length)) (fun (i30, k30, s31, l32) => k30) (0, l19.length, Sl.nil, ([] : List Token)) ⟨rfl, rfl, rfl, rfl, rfl, rfl, rfl, rfl, rfl, trivial⟩ rfl ⟨H, by omega⟩ ?_
    rintro F33 ⟨i30, k30, s31, l32⟩ hF34 ⟨H, hik30⟩
    refine Cd.as (e' := [(0, Sl.v s_a0), (4, .int .i64 (a0.length : Int)), (5, .int .i64 y17), (8, .int .i64 y21), (9, Sl.v s27), (10, Sl.v s31), (35, Sl.v s18), (36, .int .i64 (l19.length : Int)), (37, .int .i64 (i30 : Int))]) (L' := (.own s31 156 4 (encs l32)) :: (.own s27 3 1 (encs (List.replicate n24 (0 : Int)))) :: (.own s18 3 1 (encs l19)) :: L) ⟨rfl, rfl, rfl, rfl, rfl, rfl, rfl, rfl, rfl, trivial⟩ rfl ?_
    rcases k30 with _ | k30
    · have hc30 : decide ((i30 : Int) < (l19.length : Int)) = false := decide_eq_false (by omega)
      replace H := rangeF_end H
      refine Cd.seq ?_
      refine Cd.region ?_
      refine Lst.run rfl rfl (by decide) (Ev.lss rfl rfl) ?_
      refine Lst.nil ?_
      refine At.then ?_
      refine Cd.seq ?_
      refine Cd.condF rfl hc30 ?_
      refine Cd.exit ?_
      refine At.then_exit ?_
      refine At.then_exit ?_
      refine At.in_exit ?_
      subst H
      replace H := HKl30
      refine At.then ?_
      refine Cd.seq ?_
      refine Cd.block ?_
      obtain ⟨ol43, H, HKl43⟩ := andThen_some H
      refine Cd.loop (σ := Nat × Int × Sl × (List Token) × Sl × (List Int)) (fun (k43, y44, s45, l46, s47, l48) => [(0, Sl.v s_a0), (4, .int .i64 (a0.length : Int)), (5, .int .i64 y44), (8, .int .i64 y21), (9, Sl.v s47), (10, Sl.v s45)]) (fun (k43, y44, s45, l46, s47, l48) => (.own s45 156 4 (encs l46)) :: (.own s47 3 1 (encs l48)) :: (.own s18 3 1 (encs l19)) :: L) (fun _ => (fun (k43, y44, s45, l46, s47, l48) => whileM (partref_Halves_B6 a0 y21) k43 (y44, l46, l48) = some ol43)) (fun (k43, y44, s45, l46, s47, l48) => k43) (fu, y17, s31, l32, s27, (List.replicate n24 (0 : Int))) ⟨rfl, rfl, rfl, rfl, rfl, rfl, trivial⟩ rfl H ?_
      rintro F49 ⟨k43, y44, s45, l46, s47, l48⟩ hF50 H
      refine Cd.as (e' := [(0, Sl.v s_a0), (4, .int .i64 (a0.length : Int)), (5, .int .i64 y44), (8, .int .i64 y21), (9, Sl.v s47), (10, Sl.v s45)]) (L' := (.own s45 156 4 (encs l46)) :: (.own s47 3 1 (encs l48)) :: (.own s18 3 1 (encs l19)) :: L) ⟨rfl, rfl, rfl, rfl, rfl, rfl, trivial⟩ rfl ?_
      rcases k43 with _ | k43
      · cases H
      obtain ⟨c43, H, hgo43, hbrk43, hret43⟩ := whileM_go H
      unfold partref_Halves_B6 at H
      try dsimp only at H
      refine Cd.seq ?_
      refine Cd.seq ?_
      refine Cd.region ?_
      refine Lst.run rfl rfl (by decide) (Ev.move rfl) ?_
      refine Lst.run rfl rfl (by decide) (Ev.lenS (α := Token) (xs := l46) (by decide) rfl rfl Try.runUnderlying154 (Rd.own (i := 0) rfl rfl rfl)) ?_
      refine Lst.run rfl rfl (by decide) (Ev.gtr rfl rfl) ?_
      refine Lst.nil ?_
      refine At.then ?_
      rcases (Bool.eq_false_or_eq_true (decide ((l46.length : Int) > (0 : Int)))).symm with hb51 | hb51
      · replace H := ite_f hb51 H
        refine Cd.condF rfl hb51 ?_
        refine Cd.exit ?_
        refine At.then_exit ?_
        refine At.then_exit ?_
        refine At.in_exit ?_
        have H := hbrk43 _ (some_inj H).symm
        subst H
        replace H := HKl43
        refine At.then ?_
        refine Cd.seq ?_
        refine Cd.region ?_
        refine Lst.addNil 3 1 ?_
        refine Lst.run rfl rfl (by decide) (Ev.assign rfl) ?_
        refine Lst.nil ?_
        refine At.then ?_
        refine Cd.seq ?_
        refine Cd.seq ?_
        refine Cd.region ?_
        refine Lst.run rfl rfl (by decide) (Ev.move rfl) ?_
        refine Lst.run rfl rfl (by decide) (Ev.lenS (α := Int) (xs := l48) (by decide) rfl rfl Try.runUnderlying36 (Rd.own (i := 2) rfl rfl rfl)) ?_
        refine Lst.run rfl rfl (by decide) (Ev.move rfl) ?_
        refine Lst.nil ?_
        refine At.then ?_
        refine Cd.block ?_
        refine Cd.bound (Rd.le (α := Int) (xs := l48) (by decide) (Rd.own (i := 2) rfl rfl rfl)) (fun hN71 => ?_)
        obtain ⟨ol53, H, HKl53⟩ := bind_some H
        refine Cd.loop (σ := Nat × Nat × Sl × (List Int)) (fun (i53, k53, s54, l55) => [(0, Sl.v s_a0), (4, .int .i64 (a0.length : Int)), (5, .int .i64 y44), (8, .int .i64 y21), (14, Sl.v s54), (120, Sl.v s47), (121, .int .i64 (l48.length : Int)), (122, .int .i64 (i53 : Int))]) (fun (i53, k53, s54, l55) => (.own s54 3 1 (encs l55)) :: (.own s45 156 4 (encs l46)) :: (.own s47 3 1 (encs l48)) :: (.own s18 3 1 (encs l19)) :: L) (fun _ => (fun (i53, k53, s54, l55) => rangeF (partref_Halves_B9 l48) k53 i53 l55 = some ol53 ∧ i53 + k53 = l48.length)) (fun (i53, k53, s54, l55) => k53) (0, l48.length, Sl.nil, ([] : List Int)) ⟨rfl, rfl, rfl, rfl, rfl, rfl, rfl, rfl, trivial⟩ rfl ⟨H, by omega⟩ ?_
        rintro F56 ⟨i53, k53, s54, l55⟩ hF57 ⟨H, hik53⟩
        refine Cd.as (e' := [(0, Sl.v s_a0), (4, .int .i64 (a0.length : Int)), (5, .int .i64 y44), (8, .int .i64 y21), (14, Sl.v s54), (120, Sl.v s47), (121, .int .i64 (l48.length : Int)), (122, .int .i64 (i53 : Int))]) (L' := (.own s54 3 1 (encs l55)) :: (.own s45 156 4 (encs l46)) :: (.own s47 3 1 (encs l48)) :: (.own s18 3 1 (encs l19)) :: L) ⟨rfl, rfl, rfl, rfl, rfl, rfl, rfl, rfl, trivial⟩ rfl ?_
        rcases k53 with _ | k53
        · have hc53 : decide ((i53 : Int) < (l48.length : Int)) = false := decide_eq_false (by omega)
          replace H := rangeF_end H
          refine Cd.seq ?_
          refine Cd.region ?_
          refine Lst.run rfl rfl (by decide) (Ev.lss rfl rfl) ?_
          refine Lst.nil ?_
          refine At.then ?_
          refine Cd.seq ?_
          refine Cd.condF rfl hc53 ?_
          refine Cd.exit ?_
          refine At.then_exit ?_
          refine At.then_exit ?_
          refine At.in_exit ?_
          subst H
          replace H := HKl53
          refine At.then ?_
          refine Cd.seq ?_
          refine Cd.region ?_
          refine Lst.run rfl rfl (by decide) (Ev.move rfl) ?_
          refine Lst.run rfl rfl (by decide) (Ev.assign rfl) ?_
          refine Lst.nil ?_
          refine At.then ?_
          refine Cd.seq ?_
          refine Cd.region ?_
          refine Lst.run rfl rfl (by decide) (Ev.move rfl) ?_
          refine Lst.run rfl rfl (by decide) (Ev.move rfl) ?_
          refine Lst.run rfl rfl (by decide) (Ev.geq rfl rfl) ?_
          refine Lst.nil ?_
          refine At.then ?_
          rcases Bool.eq_false_or_eq_true (decide (y21 ≥ (a0.length : Int))) with hb67 | hb67
          · replace H := ite_t hb67 H
            refine Cd.condT rfl hb67 ?_
            refine Cd.seq ?_
            refine Cd.region ?_
            refine Lst.run rfl rfl (by decide) (Ev.move rfl) ?_
            obtain ⟨x68, h69, H⟩ := bind_some H
            have g70 := lat_some h69
            refine Lst.run rfl rfl (by decide) (Ev.indexS (α := Int) (xs := l55) rfl rfl Try.runUnderlying36 Try.sizeOf3 rfl (by decide) (Rd.own (i := 0) rfl rfl rfl) g70.1 g70.2.1) ?_
            refine Lst.run rfl rfl (by decide) (Ev.loadS (α := Int) rfl (Rd.own (i := 0) rfl rfl rfl) Try.isAgg3 (v := .int .i64 x68) ((Get.elemN (s := 1) (x := x68) rfl g70.2.2 (Get.here _)).off (by omega))) ?_
            refine Lst.run rfl rfl (by decide) (Ev.move rfl) ?_
            refine Lst.run rfl rfl (by decide) (Ev.assign rfl) ?_
            refine Lst.run rfl rfl (by decide) (Ev.assign rfl) ?_
            refine Lst.nil ?_
            refine At.then ?_
            have H := hret16 _ (some_inj H).symm
            subst H
            replace H := HKl16
            obtain rfl := some_inj H
            refine Cd.ret ?_
            refine At.in_ret ?_
            refine At.then_ret ?_
            refine At.then_ret ?_
            refine At.in_ret ?_
            exact At.ret2 rfl (Res.tmp rfl) (Res.tmp rfl) (FLe.trans (FLe.trans (FLe.trans (FLe.trans hF10 hF23) hF34) hF50) hF57) (List.Sublist.cons _ (List.Sublist.cons _ (List.Sublist.cons _ (List.Sublist.cons _ (List.Sublist.refl _))))) ⟨rfl, rfl⟩
          replace H := ite_f hb67 H
          refine Cd.condF rfl hb67 ?_
          refine Cd.skip ?_
          refine At.in_normal ?_
          refine At.then ?_
          refine Cd.region ?_
          refine Lst.run rfl rfl (by decide) (Ev.move rfl) ?_
          refine Lst.run rfl rfl (by decide) (Ev.mul rfl rfl) ?_
          refine Lst.run rfl rfl (by decide) (Ev.assign rfl) ?_
          refine Lst.nil ?_
          refine At.less (L' := (.own s54 3 1 (encs l55)) :: L) (List.Sublist.cons_cons _ (List.Sublist.cons _ (List.Sublist.cons _ (List.Sublist.cons _ (List.Sublist.refl _))))) ?_
          exact At.meet (k16, y44, s54, l55, w64 (y21 * (2 : Int))) (FLe.trans (FLe.trans (FLe.trans hF23 hF34) hF50) hF57) ⟨rfl, rfl, rfl, rfl, rfl, trivial⟩ rfl ⟨hgo16 _ (some_inj H).symm, Nat.lt_succ_self _⟩
        have hc53 : decide ((i53 : Int) < (l48.length : Int)) = true := decide_eq_true (by omega)
        obtain ⟨c53, H, hgo53⟩ := rangeF_go H
        unfold partref_Halves_B9 at H
        try dsimp only at H
        refine Cd.seq ?_
        refine Cd.region ?_
        refine Lst.run rfl rfl (by decide) (Ev.lss rfl rfl) ?_
        refine Lst.nil ?_
        refine At.then ?_
        refine Cd.seq ?_
        refine Cd.condT rfl hc53 ?_
        refine Cd.skip ?_
        refine At.then ?_
        refine Cd.seq ?_
        refine Cd.block ?_
        refine Cd.seq ?_
        refine Cd.region ?_
        refine Lst.run rfl rfl (by decide) (Ev.move rfl) ?_
        obtain ⟨x58, h59, H⟩ := bind_some H
        have g60 := lat_some h59
        refine Lst.run rfl rfl (by decide) (Ev.indexS (α := Int) (xs := l48) rfl rfl Try.runUnderlying36 Try.sizeOf3 rfl (by decide) (Rd.own (i := 2) rfl rfl rfl) g60.1 g60.2.1) ?_
        refine Lst.run rfl rfl (by decide) (Ev.loadS (α := Int) rfl (Rd.own (i := 2) rfl rfl rfl) Try.isAgg3 (v := .int .i64 x58) ((Get.elemN (s := 1) (x := x58) rfl g60.2.2 (Get.here _)).off (by omega))) ?_
        refine Lst.run rfl rfl (by decide) (Ev.assign rfl) ?_
        refine Lst.run rfl rfl (by decide) (Ev.assign rfl) ?_
        refine Lst.nil ?_
        refine At.then ?_
        refine Cd.seq ?_
        refine Cd.region ?_
        refine Lst.run rfl rfl (by decide) (Ev.move rfl) ?_
        refine Lst.run rfl rfl (by decide) (Ev.eql rfl rfl) ?_
        refine Lst.nil ?_
        refine At.then ?_
        rcases (Bool.eq_false_or_eq_true (x58 == (2 : Int))).symm with hb61 | hb61
        · replace H := ite_f hb61 H
          refine Cd.condF rfl hb61 ?_
          refine Cd.skip ?_
          refine At.in_normal ?_
          refine At.then ?_
          refine Cd.region ?_
          refine Lst.run rfl rfl (by decide) (Ev.incr (by omega) rfl rfl) ?_
          refine Lst.run rfl rfl (by decide) (Ev.move rfl) ?_
          refine Lst.nil ?_
          exact At.meet (i53 + 1, k53, s54, l55) hF57 ⟨rfl, rfl, rfl, rfl, rfl, rfl, rfl, rfl, trivial⟩ rfl ⟨⟨hgo53 _ (some_inj H).symm, by omega⟩, Nat.lt_succ_self _⟩
        replace H := ite_t hb61 H
        refine Cd.condT rfl hb61 ?_
        refine Cd.region ?_
        refine Lst.run rfl rfl (by decide) (Ev.move rfl) ?_
        refine Lst.run rfl rfl (by decide) (Ev.move rfl) ?_
        refine Lst.buildSlice (α := Int) (xs := ([(i53 : Int)] : List Int)) (pv := [(0, .int .i64 (i53 : Int))]) rfl rfl (by decide) ⟨rfl, rfl, trivial⟩ (run_buildSlice (α := Int) (z0 := (0 : Int)) (xs := ([(i53 : Int)] : List Int)) Try.runUnderlying36 Try.sizeOf3 Try.zeroValue3 rfl rfl rfl (by decide) rfl (fill_cons (cs := encs (List.replicate 1 (0 : Int))) (cs' := encs ((List.replicate 1 (0 : Int)).set 0 (i53 : Int))) (vs := [.int .i64 (i53 : Int)]) rfl rfl rfl ((Put.elemN (s := 1) (i := 0) (x := (0 : Int)) (y := (i53 : Int)) rfl rfl (Put.here (vs := [.int .i64 (i53 : Int)]) rfl)).off rfl) fill_nil)) rfl rfl (by decide) (fun s62 _ => ?_)
        obtain ⟨u64, h65, H⟩ := bind_some H
        refine Lst.append (i := 1) (α := Int) (xs := l55) (ys := ([(i53 : Int)] : List Int)) rfl rfl (by decide) rfl rfl Try.runUnderlying36 Try.typeInfo3 rfl rfl rfl rfl rfl rfl (Rd.own (i := 0) rfl rfl rfl) rfl (room_some h65) rfl (fun s66 => ?_)
        refine Lst.its (L' := (.own s62 3 1 (encs ([(i53 : Int)] : List Int))) :: (.own s66 3 1 (encs (l55 ++ ([(i53 : Int)] : List Int)))) :: (.own s45 156 4 (encs l46)) :: (.own s47 3 1 (encs l48)) :: (.own s18 3 1 (encs l19)) :: L) rfl ?_
        refine Lst.run rfl rfl (by decide) (Ev.assign rfl) ?_
        refine Lst.nil ?_
        refine At.in_normal ?_
        refine At.then ?_
        refine Cd.region ?_
        refine Lst.run rfl rfl (by decide) (Ev.incr (by omega) rfl rfl) ?_
        refine Lst.run rfl rfl (by decide) (Ev.move rfl) ?_
        refine Lst.nil ?_
        refine At.less (L' := (.own s66 3 1 (encs (l55 ++ ([(i53 : Int)] : List Int)))) :: (.own s45 156 4 (encs l46)) :: (.own s47 3 1 (encs l48)) :: (.own s18 3 1 (encs l19)) :: L) (List.Sublist.cons _ (List.Sublist.cons_cons _ (List.Sublist.cons_cons _ (List.Sublist.cons_cons _ (List.Sublist.cons_cons _ (List.Sublist.refl _)))))) ?_
        exact At.meet (i53 + 1, k53, s66, l55 ++ ([(i53 : Int)] : List Int)) hF57 ⟨rfl, rfl, rfl, rfl, rfl, rfl, rfl, rfl, trivial⟩ rfl ⟨⟨hgo53 _ (some_inj H).symm, by omega⟩, Nat.lt_succ_self _⟩
      replace H := ite_t hb51 H
      refine Cd.condT rfl hb51 ?_
      refine Cd.skip ?_
      refine At.then ?_
      refine Cd.block ?_
      refine Cd.seq ?_
      refine Cd.region ?_
      refine Lst.run rfl rfl (by decide) (Ev.move rfl) ?_
      obtain ⟨x72, h73, H⟩ := bind_some H
      have g74 := lat_some h73
      refine Lst.run rfl rfl (by decide) (Ev.indexS (α := Token) (xs := l46) rfl rfl Try.runUnderlying154 Try.sizeOf156 rfl (by decide) (Rd.own (i := 0) rfl rfl rfl) g74.1 g74.2.1) ?_
      refine Lst.run rfl rfl (by decide) (Ev.loadSA (α := Token) rfl (Rd.own (i := 0) rfl rfl rfl) Try.isAgg156 Try.sizeOf156 (ch := enc x72) (Enc.len _) (by decide) ((Get.elemN (s := 4) (x := x72) rfl g74.2.2 (Get.here _)).off (by omega))) ?_
      refine Lst.alloc (cs := enc Token.zero) rfl rfl (by decide) Try.zeroValue156 rfl (fun b75 => ?_)
      refine Lst.store (i := 0) rfl rfl rfl rfl rfl Try.sizeOf156 (vs := enc x72) rfl (Enc.len _) (Enc.one _) (cs' := enc x72) (Put.here ((Enc.len _).trans (Enc.len _).symm)) (L' := (.blk b75 (enc x72) 156) :: (.own s45 156 4 (encs l46)) :: (.own s47 3 1 (encs l48)) :: (.own s18 3 1 (encs l19)) :: L) rfl ?_
      refine Lst.nil ?_
      refine At.then ?_
      refine Cd.seq ?_
      refine Cd.region ?_
      refine Lst.run rfl rfl (by decide) (Ev.move rfl) ?_
      obtain ⟨m77, h78, H⟩ := bind_some H
      obtain ⟨g79, gl80⟩ := cutL_some h78
      refine Lst.run rfl rfl (by decide) (Ev.cut (α := Token) (xs := l46) (i := (1 : Int)) (j := (l46.length : Int)) rfl rfl rfl Try.runUnderlying154 Try.sizeOf156 rfl (by decide) (Rd.own (i := 1) rfl rfl rfl) g79.1 g79.2.1 g79.2.2) ?_
      refine Lst.cutOwn (i := 1) (α := Token) (lo := ((1 : Int) : Int).toNat) (hi := ((l46.length : Int) : Int).toNat) rfl rfl rfl (by decide) (by omega) (by omega) (L' := (.blk b75 (enc x72) 156) :: (.own (s45.cut ((1 : Int) : Int).toNat ((l46.length : Int) : Int).toNat 4) 156 4 (encs m77)) :: (.own s47 3 1 (encs l48)) :: (.own s18 3 1 (encs l19)) :: L) (by subst gl80; rfl) ?_
      refine Lst.run rfl rfl (by decide) (Ev.assign rfl) ?_
      refine Lst.nil ?_
      refine At.then ?_
      refine Cd.seq ?_
      refine Cd.region ?_
      refine Lst.run rfl rfl (by decide) (Ev.move rfl) ?_
      refine Lst.run rfl rfl (by decide) (Ev.add rfl rfl) ?_
      refine Lst.run rfl rfl (by decide) (Ev.assign rfl) ?_
      refine Lst.nil ?_
      refine At.then ?_
      refine Cd.seq ?_
      refine Cd.region ?_
      refine Lst.run rfl rfl (by decide) (Ev.fieldAddr (off' := 1) rfl Try.runUnderlying156 rfl Try.sizeOf3 rfl rfl) ?_
      refine Lst.run rfl rfl (by decide) (Ev.load (i := 0) rfl rfl Try.isAgg3 (v := .int .i64 x72.at_) ((Token.get_at_ (Get.here _)).off (by rfl))) ?_
      refine Lst.run rfl rfl (by decide) (Ev.fieldAddr (off' := 2) rfl Try.runUnderlying156 rfl Try.sizeOf3 rfl rfl) ?_
      refine Lst.run rfl rfl (by decide) (Ev.load (i := 0) rfl rfl Try.isAgg3 (v := .int .i64 x72.way) ((Token.get_way (Get.here _)).off (by rfl))) ?_
      refine Lst.run rfl rfl (by decide) (Ev.add rfl rfl) ?_
      refine Lst.run rfl rfl (by decide) (Ev.move rfl) ?_
      refine Lst.run rfl rfl (by decide) (Ev.add rfl rfl) ?_
      refine Lst.run rfl rfl (by decide) (Ev.move rfl) ?_
      obtain ⟨u82, h83, H⟩ := bind_some H
      refine Lst.run rfl rfl (by decide) (Ev.rem (i := w64 ((w64 (x72.at_ + x72.way)) + (a0.length : Int))) (j := (a0.length : Int)) rfl rfl (nz_some h83)) ?_
      refine Lst.run rfl rfl (by decide) (Ev.fieldAddr (off' := 1) rfl Try.runUnderlying156 rfl Try.sizeOf3 rfl rfl) ?_
      obtain ⟨p84, h85, H⟩ := Let_some H
      refine Lst.store (i := 0) rfl rfl rfl rfl rfl Try.sizeOf3 (vs := [.int .i64 ((w64 ((w64 (x72.at_ + x72.way)) + (a0.length : Int))).tmod (a0.length : Int) : Int)]) rfl rfl rfl (cs' := enc p84) (by rw [← h85]; exact (Token.put_at_ (Put.here (vs := [.int .i64 ((w64 ((w64 (x72.at_ + x72.way)) + (a0.length : Int))).tmod (a0.length : Int) : Int)]) rfl)).off (by rfl)) (L' := (.blk b75 (enc p84) 156) :: (.own (s45.cut ((1 : Int) : Int).toNat ((l46.length : Int) : Int).toNat 4) 156 4 (encs m77)) :: (.own s47 3 1 (encs l48)) :: (.own s18 3 1 (encs l19)) :: L) rfl ?_
      refine Lst.nil ?_
      refine At.then ?_
      refine Cd.seq ?_
      refine Cd.as (e' := [(0, Sl.v s_a0), (4, .int .i64 (a0.length : Int)), (5, .int .i64 (w64 (y44 + (1 : Int)))), (8, .int .i64 y21), (9, Sl.v s47), (13, .pointer (some ⟨b75, 0, none⟩)), (10, Sl.v (s45.cut ((1 : Int) : Int).toNat ((l46.length : Int) : Int).toNat 4))]) (L' := (.blk b75 (enc p84) 156) :: (.own (s45.cut ((1 : Int) : Int).toNat ((l46.length : Int) : Int).toNat 4) 156 4 (encs m77)) :: (.own s47 3 1 (encs l48)) :: (.own s18 3 1 (encs l19)) :: L) ⟨rfl, rfl, rfl, rfl, rfl, rfl, rfl, trivial⟩ rfl ?_
      refine Cd.region ?_
      refine Lst.run rfl rfl (by decide) (Ev.fieldAddr (off' := 3) rfl Try.runUnderlying156 rfl Try.sizeOf3 rfl rfl) ?_
      refine Lst.run rfl rfl (by decide) (Ev.load (i := 0) rfl rfl Try.isAgg3 (v := .int .i64 p84.left) ((Token.get_left (Get.here _)).off (by rfl))) ?_
      refine Lst.run rfl rfl (by decide) (Ev.sub rfl rfl) ?_
      refine Lst.run rfl rfl (by decide) (Ev.fieldAddr (off' := 3) rfl Try.runUnderlying156 rfl Try.sizeOf3 rfl rfl) ?_
      obtain ⟨p86, h87, H⟩ := Let_some H
      refine Lst.store (i := 0) rfl rfl rfl rfl rfl Try.sizeOf3 (vs := [.int .i64 (w64 (p84.left - (1 : Int)))]) rfl rfl rfl (cs' := enc p86) (by rw [← h87]; exact (Token.put_left (Put.here (vs := [.int .i64 (w64 (p84.left - (1 : Int)))]) rfl)).off (by rfl)) (L' := (.blk b75 (enc p86) 156) :: (.own (s45.cut ((1 : Int) : Int).toNat ((l46.length : Int) : Int).toNat 4) 156 4 (encs m77)) :: (.own s47 3 1 (encs l48)) :: (.own s18 3 1 (encs l19)) :: L) rfl ?_
      refine Lst.nil ?_
      refine At.then ?_
      refine Cd.block ?_
      refine Cd.seq ?_
      refine Cd.region ?_
      refine Lst.run rfl rfl (by decide) (Ev.fieldAddr (off' := 1) rfl Try.runUnderlying156 rfl Try.sizeOf3 rfl rfl) ?_
      refine Lst.run rfl rfl (by decide) (Ev.load (i := 0) rfl rfl Try.isAgg3 (v := .int .i64 p86.at_) ((Token.get_at_ (Get.here _)).off (by rfl))) ?_
      refine Lst.run rfl rfl (by decide) (Ev.fieldAddr (off' := 0) rfl Try.runUnderlying156 rfl Try.sizeOf3 rfl rfl) ?_
      refine Lst.run rfl rfl (by decide) (Ev.load (i := 0) rfl rfl Try.isAgg3 (v := .int .i64 p86.of) ((Token.get_of (Get.here _)).off (by rfl))) ?_
      refine Lst.run rfl rfl (by decide) (Ev.eql rfl rfl) ?_
      refine Lst.run rfl rfl (by decide) (Ev.assign rfl) ?_
      refine Lst.nil ?_
      refine At.then ?_
      rcases Bool.eq_false_or_eq_true (p86.at_ == p86.of) with hb88 | hb88
      · replace H := ite_t hb88 H
        refine Cd.condT rfl hb88 ?_
        refine Cd.region ?_
        refine Lst.run rfl rfl (by decide) (Ev.move rfl) ?_
        refine Lst.run rfl rfl (by decide) (Ev.fieldAddr (off' := 0) rfl Try.runUnderlying156 rfl Try.sizeOf3 rfl rfl) ?_
        refine Lst.run rfl rfl (by decide) (Ev.load (i := 0) rfl rfl Try.isAgg3 (v := .int .i64 p86.of) ((Token.get_of (Get.here _)).off (by rfl))) ?_
        obtain ⟨x89, h90, H⟩ := bind_some H
        have g91 := lat_some h90
        refine Lst.run rfl rfl (by decide) (Ev.indexS (α := Int) (xs := l48) rfl rfl Try.runUnderlying36 Try.sizeOf3 rfl (by decide) (Rd.own (i := 2) rfl rfl rfl) g91.1 g91.2.1) ?_
        refine Lst.run rfl rfl (by decide) (Ev.loadS (α := Int) rfl (Rd.own (i := 2) rfl rfl rfl) Try.isAgg3 (v := .int .i64 x89) ((Get.elemN (s := 1) (x := x89) rfl g91.2.2 (Get.here _)).off (by omega))) ?_
        refine Lst.run rfl rfl (by decide) (Ev.add rfl rfl) ?_
        obtain ⟨x92, h93, H⟩ := bind_some H
        have g94 := lat_some h93
        refine Lst.run rfl rfl (by decide) (Ev.indexS (α := Int) (xs := l48) rfl rfl Try.runUnderlying36 Try.sizeOf3 rfl (by decide) (Rd.own (i := 2) rfl rfl rfl) g94.1 g94.2.1) ?_
        obtain ⟨p95, h96, H⟩ := Let_some H
        refine Lst.storeS (i := 2) rfl rfl rfl rfl rfl Try.sizeOf3 (vs := [.int .i64 (w64 (x89 + (1 : Int)))]) rfl rfl (by decide) rfl (xs' := encs p95) (by rw [← h96]; exact (Put.elemN (s := 1) (x := x92) rfl g94.2.2 (Put.here (vs := [.int .i64 (w64 (x89 + (1 : Int)))]) rfl)).off (by omega)) (L' := (.blk b75 (enc p86) 156) :: (.own (s45.cut ((1 : Int) : Int).toNat ((l46.length : Int) : Int).toNat 4) 156 4 (encs m77)) :: (.own s47 3 1 (encs p95)) :: (.own s18 3 1 (encs l19)) :: L) rfl ?_
        refine Lst.nil ?_
        refine At.in_normal ?_
        refine At.in_normal ?_
        refine At.less (L' := (.own (s45.cut ((1 : Int) : Int).toNat ((l46.length : Int) : Int).toNat 4) 156 4 (encs m77)) :: (.own s47 3 1 (encs p95)) :: (.own s18 3 1 (encs l19)) :: L) (List.Sublist.cons _ (List.Sublist.cons_cons _ (List.Sublist.cons_cons _ (List.Sublist.cons_cons _ (List.Sublist.refl _))))) ?_
        exact At.meet (k43, w64 (y44 + (1 : Int)), (s45.cut ((1 : Int) : Int).toNat ((l46.length : Int) : Int).toNat 4), m77, s47, p95) hF50 ⟨rfl, rfl, rfl, rfl, rfl, rfl, trivial⟩ rfl ⟨hgo43 _ (some_inj H).symm, Nat.lt_succ_self _⟩
      replace H := ite_f hb88 H
      refine Cd.condF rfl hb88 ?_
      refine Cd.seq ?_
      refine Cd.quiet (by kernel_rfl) (by kernel_rfl) ?_
      refine Qt.run rfl rfl (by decide) (Ev.move rfl) ?_
      refine Qt.run rfl rfl (by decide) (Ev.fieldAddr (off' := 1) rfl Try.runUnderlying156 rfl Try.sizeOf3 rfl rfl) ?_
      refine Qt.run rfl rfl (by decide) (Ev.load (i := 0) rfl rfl Try.isAgg3 (v := .int .i64 p86.at_) ((Token.get_at_ (Get.here _)).off (by rfl))) ?_
      obtain ⟨x97, h98, H⟩ := bind_some H
      have g99 := lat_some h98
      refine Qt.run rfl rfl (by decide) (Ev.indexS (α := Int) (xs := a0) rfl rfl Try.runUnderlying36 Try.sizeOf3 rfl (by decide) (hs_a0.mono (FLe.trans (FLe.trans (FLe.trans hF10 hF23) hF34) hF50) (List.Sublist.cons _ (List.Sublist.cons _ (List.Sublist.cons _ (List.Sublist.cons _ hM))))) g99.1 g99.2.1) ?_
      refine Qt.run rfl rfl (by decide) (Ev.loadS (α := Int) rfl (hs_a0.mono (FLe.trans (FLe.trans (FLe.trans hF10 hF23) hF34) hF50) (List.Sublist.cons _ (List.Sublist.cons _ (List.Sublist.cons _ (List.Sublist.cons _ hM))))) Try.isAgg3 (v := .int .i64 x97) ((Get.elemN (s := 1) (x := x97) rfl g99.2.2 (Get.here _)).off (by omega))) ?_
      refine Qt.run rfl rfl (by decide) (Ev.move rfl) ?_
      refine Qt.run rfl rfl (by decide) (Ev.fieldAddr (off' := 0) rfl Try.runUnderlying156 rfl Try.sizeOf3 rfl rfl) ?_
      refine Qt.run rfl rfl (by decide) (Ev.load (i := 0) rfl rfl Try.isAgg3 (v := .int .i64 p86.of) ((Token.get_of (Get.here _)).off (by rfl))) ?_
      obtain ⟨x100, h101, H⟩ := bind_some H
      have g102 := lat_some h101
      refine Qt.run rfl rfl (by decide) (Ev.indexS (α := Int) (xs := a0) rfl rfl Try.runUnderlying36 Try.sizeOf3 rfl (by decide) (hs_a0.mono (FLe.trans (FLe.trans (FLe.trans hF10 hF23) hF34) hF50) (List.Sublist.cons _ (List.Sublist.cons _ (List.Sublist.cons _ (List.Sublist.cons _ hM))))) g102.1 g102.2.1) ?_
      refine Qt.run rfl rfl (by decide) (Ev.loadS (α := Int) rfl (hs_a0.mono (FLe.trans (FLe.trans (FLe.trans hF10 hF23) hF34) hF50) (List.Sublist.cons _ (List.Sublist.cons _ (List.Sublist.cons _ (List.Sublist.cons _ hM))))) Try.isAgg3 (v := .int .i64 x100) ((Get.elemN (s := 1) (x := x100) rfl g102.2.2 (Get.here _)).off (by omega))) ?_
      refine Qt.run rfl rfl (by decide) (Ev.gtr rfl rfl) ?_
      refine Qt.run rfl rfl (by decide) (Ev.assign rfl) ?_
      refine Qt.done ?_
      refine At.then ?_
      rcases Bool.eq_false_or_eq_true (decide (x97 > x100)) with hb103 | hb103
      · replace H := ite_t hb103 H
        refine Cd.condT rfl hb103 ?_
        refine Cd.skip ?_
        refine At.in_normal ?_
        refine At.in_normal ?_
        refine At.less (L' := (.own (s45.cut ((1 : Int) : Int).toNat ((l46.length : Int) : Int).toNat 4) 156 4 (encs m77)) :: (.own s47 3 1 (encs l48)) :: (.own s18 3 1 (encs l19)) :: L) (List.Sublist.cons _ (List.Sublist.cons_cons _ (List.Sublist.cons_cons _ (List.Sublist.cons_cons _ (List.Sublist.refl _))))) ?_
        exact At.meet (k43, w64 (y44 + (1 : Int)), (s45.cut ((1 : Int) : Int).toNat ((l46.length : Int) : Int).toNat 4), m77, s47, l48) hF50 ⟨rfl, rfl, rfl, rfl, rfl, rfl, trivial⟩ rfl ⟨hgo43 _ (some_inj H).symm, Nat.lt_succ_self _⟩
      replace H := ite_f hb103 H
      refine Cd.condF rfl hb103 ?_
      refine Cd.seq ?_
      refine Cd.as (e' := [(0, Sl.v s_a0), (4, .int .i64 (a0.length : Int)), (5, .int .i64 (w64 (y44 + (1 : Int)))), (8, .int .i64 y21), (9, Sl.v s47), (13, .pointer (some ⟨b75, 0, none⟩)), (10, Sl.v (s45.cut ((1 : Int) : Int).toNat ((l46.length : Int) : Int).toNat 4))]) (L' := (.blk b75 (enc p86) 156) :: (.own (s45.cut ((1 : Int) : Int).toNat ((l46.length : Int) : Int).toNat 4) 156 4 (encs m77)) :: (.own s47 3 1 (encs l48)) :: (.own s18 3 1 (encs l19)) :: L) ⟨rfl, rfl, rfl, rfl, rfl, rfl, rfl, trivial⟩ rfl ?_
      refine Cd.region ?_
      refine Lst.run rfl rfl (by decide) (Ev.fieldAddr (off' := 3) rfl Try.runUnderlying156 rfl Try.sizeOf3 rfl rfl) ?_
      refine Lst.run rfl rfl (by decide) (Ev.load (i := 0) rfl rfl Try.isAgg3 (v := .int .i64 p86.left) ((Token.get_left (Get.here _)).off (by rfl))) ?_
      refine Lst.run rfl rfl (by decide) (Ev.eql rfl rfl) ?_
      refine Lst.run rfl rfl (by decide) (Ev.assign rfl) ?_
      refine Lst.nil ?_
      refine At.then ?_
      rcases (Bool.eq_false_or_eq_true (p86.left == (0 : Int))).symm with hb104 | hb104
      · replace H := ite_f hb104 H
        refine Cd.condF rfl hb104 ?_
        refine Cd.region ?_
        refine Lst.run rfl rfl (by decide) (Ev.move rfl) ?_
        refine Lst.run rfl rfl (by decide) (Ev.loadA (i := 0) rfl rfl Try.isAgg156 Try.sizeOf156 (ch := enc p86) (Enc.len _) (Get.here _)) ?_
        refine Lst.buildSlice (α := Token) (xs := ([p86] : List Token)) (pv := [(0, .agg (enc p86).toArray)]) rfl rfl (by decide) ⟨rfl, rfl, trivial⟩ (run_buildSlice (α := Token) (z0 := Token.zero) (xs := ([p86] : List Token)) Try.runUnderlying154 Try.sizeOf156 Try.zeroValue156 rfl rfl rfl (by decide) rfl (fill_cons (cs := encs (List.replicate 1 Token.zero)) (cs' := encs ((List.replicate 1 Token.zero).set 0 p86)) (vs := enc p86) rfl rfl (Enc.len _) ((Put.elemN (s := 4) (i := 0) (x := Token.zero) (y := p86) rfl rfl (Put.here ((Enc.len _).trans (Enc.len _).symm))).off rfl) fill_nil)) rfl rfl (by decide) (fun s105 _ => ?_)
        obtain ⟨u107, h108, H⟩ := bind_some H
        refine Lst.append (i := 2) (α := Token) (xs := m77) (ys := ([p86] : List Token)) rfl rfl (by decide) rfl rfl Try.runUnderlying154 Try.typeInfo156 rfl rfl rfl rfl rfl rfl (Rd.own (i := 0) rfl rfl rfl) rfl (room_some h108) rfl (fun s109 => ?_)
        refine Lst.its (L' := (.own s105 156 4 (encs ([p86] : List Token))) :: (.blk b75 (enc p86) 156) :: (.own s109 156 4 (encs (m77 ++ ([p86] : List Token)))) :: (.own s47 3 1 (encs l48)) :: (.own s18 3 1 (encs l19)) :: L) rfl ?_
        refine Lst.run rfl rfl (by decide) (Ev.assign rfl) ?_
        refine Lst.nil ?_
        refine At.in_normal ?_
        refine At.in_normal ?_
        refine At.less (L' := (.own s109 156 4 (encs (m77 ++ ([p86] : List Token)))) :: (.own s47 3 1 (encs l48)) :: (.own s18 3 1 (encs l19)) :: L) (List.Sublist.cons _ (List.Sublist.cons _ (List.Sublist.cons_cons _ (List.Sublist.cons_cons _ (List.Sublist.cons_cons _ (List.Sublist.refl _)))))) ?_
        exact At.meet (k43, w64 (y44 + (1 : Int)), s109, m77 ++ ([p86] : List Token), s47, l48) hF50 ⟨rfl, rfl, rfl, rfl, rfl, rfl, trivial⟩ rfl ⟨hgo43 _ (some_inj H).symm, Nat.lt_succ_self _⟩
      replace H := ite_t hb104 H
      refine Cd.condT rfl hb104 ?_
      refine Cd.seq ?_
      refine Cd.region ?_
      refine Lst.run rfl rfl (by decide) (Ev.move rfl) ?_
      refine Lst.run rfl rfl (by decide) (Ev.fieldAddr (off' := 0) rfl Try.runUnderlying156 rfl Try.sizeOf3 rfl rfl) ?_
      refine Lst.run rfl rfl (by decide) (Ev.load (i := 0) rfl rfl Try.isAgg3 (v := .int .i64 p86.of) ((Token.get_of (Get.here _)).off (by rfl))) ?_
      obtain ⟨x110, h111, H⟩ := bind_some H
      have g112 := lat_some h111
      refine Lst.run rfl rfl (by decide) (Ev.indexS (α := Int) (xs := l48) rfl rfl Try.runUnderlying36 Try.sizeOf3 rfl (by decide) (Rd.own (i := 2) rfl rfl rfl) g112.1 g112.2.1) ?_
      refine Lst.run rfl rfl (by decide) (Ev.loadS (α := Int) rfl (Rd.own (i := 2) rfl rfl rfl) Try.isAgg3 (v := .int .i64 x110) ((Get.elemN (s := 1) (x := x110) rfl g112.2.2 (Get.here _)).off (by omega))) ?_
      refine Lst.run rfl rfl (by decide) (Ev.add rfl rfl) ?_
      obtain ⟨x113, h114, H⟩ := bind_some H
      have g115 := lat_some h114
      refine Lst.run rfl rfl (by decide) (Ev.indexS (α := Int) (xs := l48) rfl rfl Try.runUnderlying36 Try.sizeOf3 rfl (by decide) (Rd.own (i := 2) rfl rfl rfl) g115.1 g115.2.1) ?_
      obtain ⟨p116, h117, H⟩ := Let_some H
      refine Lst.storeS (i := 2) rfl rfl rfl rfl rfl Try.sizeOf3 (vs := [.int .i64 (w64 (x110 + (1 : Int)))]) rfl rfl (by decide) rfl (xs' := encs p116) (by rw [← h117]; exact (Put.elemN (s := 1) (x := x113) rfl g115.2.2 (Put.here (vs := [.int .i64 (w64 (x110 + (1 : Int)))]) rfl)).off (by omega)) (L' := (.blk b75 (enc p86) 156) :: (.own (s45.cut ((1 : Int) : Int).toNat ((l46.length : Int) : Int).toNat 4) 156 4 (encs m77)) :: (.own s47 3 1 (encs p116)) :: (.own s18 3 1 (encs l19)) :: L) rfl ?_
      refine Lst.nil ?_
      refine At.then ?_
      refine Cd.region ?_
      refine Lst.run rfl rfl (by decide) (Ev.move rfl) ?_
      refine Lst.run rfl rfl (by decide) (Ev.move rfl) ?_
      refine Lst.run rfl rfl (by decide) (Ev.add rfl rfl) ?_
      refine Lst.run rfl rfl (by decide) (Ev.assign rfl) ?_
      refine Lst.nil ?_
      refine At.in_normal ?_
      refine At.in_normal ?_
      refine At.less (L' := (.own (s45.cut ((1 : Int) : Int).toNat ((l46.length : Int) : Int).toNat 4) 156 4 (encs m77)) :: (.own s47 3 1 (encs p116)) :: (.own s18 3 1 (encs l19)) :: L) (List.Sublist.cons _ (List.Sublist.cons_cons _ (List.Sublist.cons_cons _ (List.Sublist.cons_cons _ (List.Sublist.refl _))))) ?_
      exact At.meet (k43, w64 ((w64 (y44 + (1 : Int))) + y21), (s45.cut ((1 : Int) : Int).toNat ((l46.length : Int) : Int).toNat 4), m77, s47, p116) hF50 ⟨rfl, rfl, rfl, rfl, rfl, rfl, trivial⟩ rfl ⟨hgo43 _ (some_inj H).symm, Nat.lt_succ_self _⟩
    have hc30 : decide ((i30 : Int) < (l19.length : Int)) = true := decide_eq_true (by omega)
    obtain ⟨c30, H, hgo30⟩ := rangeF_go H
    unfold partref_Halves_B4 at H
    try dsimp only at H
    refine Cd.seq ?_
    refine Cd.region ?_
    refine Lst.run rfl rfl (by decide) (Ev.lss rfl rfl) ?_
    refine Lst.nil ?_
    refine At.then ?_
    refine Cd.seq ?_
    refine Cd.condT rfl hc30 ?_
    refine Cd.skip ?_
    refine At.then ?_
    refine Cd.seq ?_
    refine Cd.block ?_
    refine Cd.seq ?_
    refine Cd.region ?_
    obtain ⟨x35, h36, H⟩ := bind_some H
    have g37 := lat_some h36
    refine Lst.run rfl rfl (by decide) (Ev.indexS (α := Int) (xs := l19) rfl rfl Try.runUnderlying36 Try.sizeOf3 rfl (by decide) (Rd.own (i := 2) rfl rfl rfl) g37.1 g37.2.1) ?_
    refine Lst.run rfl rfl (by decide) (Ev.loadS (α := Int) rfl (Rd.own (i := 2) rfl rfl rfl) Try.isAgg3 (v := .int .i64 x35) ((Get.elemN (s := 1) (x := x35) rfl g37.2.2 (Get.here _)).off (by omega))) ?_
    refine Lst.run rfl rfl (by decide) (Ev.assign rfl) ?_
    refine Lst.nil ?_
    refine At.then ?_
    refine Cd.region ?_
    refine Lst.run rfl rfl (by decide) (Ev.move rfl) ?_
    refine Lst.run rfl rfl (by decide) (Ev.move rfl) ?_
    refine Lst.run rfl rfl (by decide) (Ev.move rfl) ?_
    refine Lst.run rfl rfl (by decide) (Ev.move rfl) ?_
    refine Lst.run rfl rfl (by decide) (Ev.build (v := .agg (enc ({ Token.zero with of := x35, at_ := x35, way := (1 : Int), left := y21 } : Token)).toArray) (pv := [(0, .int .i64 x35), (1, .int .i64 x35), (2, .int .i64 (1 : Int)), (3, .int .i64 y21)]) ⟨rfl, rfl, ⟨rfl, rfl, ⟨rfl, rfl, ⟨rfl, rfl, trivial⟩⟩⟩⟩ (fun w => by kernel_rfl)) ?_
    refine Lst.run rfl rfl (by decide) (Ev.move rfl) ?_
    refine Lst.run rfl rfl (by decide) (Ev.move rfl) ?_
    refine Lst.run rfl rfl (by decide) (Ev.move rfl) ?_
    refine Lst.run rfl rfl (by decide) (Ev.build (v := .agg (enc ({ Token.zero with of := x35, at_ := x35, way := (-1 : Int), left := y21 } : Token)).toArray) (pv := [(0, .int .i64 x35), (1, .int .i64 x35), (2, .int .i64 (-1 : Int)), (3, .int .i64 y21)]) ⟨rfl, rfl, ⟨rfl, rfl, ⟨rfl, rfl, ⟨rfl, rfl, trivial⟩⟩⟩⟩ (fun w => by kernel_rfl)) ?_
    refine Lst.buildSlice (α := Token) (xs := ([({ Token.zero with of := x35, at_ := x35, way := (1 : Int), left := y21 } : Token), ({ Token.zero with of := x35, at_ := x35, way := (-1 : Int), left := y21 } : Token)] : List Token)) (pv := [(0, .agg (enc ({ Token.zero with of := x35, at_ := x35, way := (1 : Int), left := y21 } : Token)).toArray), (1, .agg (enc ({ Token.zero with of := x35, at_ := x35, way := (-1 : Int), left := y21 } : Token)).toArray)]) rfl rfl (by decide) ⟨rfl, rfl, ⟨rfl, rfl, trivial⟩⟩ (run_buildSlice (α := Token) (z0 := Token.zero) (xs := ([({ Token.zero with of := x35, at_ := x35, way := (1 : Int), left := y21 } : Token), ({ Token.zero with of := x35, at_ := x35, way := (-1 : Int), left := y21 } : Token)] : List Token)) Try.runUnderlying154 Try.sizeOf156 Try.zeroValue156 rfl rfl rfl (by decide) rfl (fill_cons (cs := encs (List.replicate 2 Token.zero)) (cs' := encs ((List.replicate 2 Token.zero).set 0 ({ Token.zero with of := x35, at_ := x35, way := (1 : Int), left := y21 } : Token))) (vs := enc ({ Token.zero with of := x35, at_ := x35, way := (1 : Int), left := y21 } : Token)) rfl rfl (Enc.len _) ((Put.elemN (s := 4) (i := 0) (x := Token.zero) (y := ({ Token.zero with of := x35, at_ := x35, way := (1 : Int), left := y21 } : Token)) rfl rfl (Put.here ((Enc.len _).trans (Enc.len _).symm))).off rfl) (fill_cons (cs := encs ((List.replicate 2 Token.zero).set 0 ({ Token.zero with of := x35, at_ := x35, way := (1 : Int), left := y21 } : Token))) (cs' := encs (((List.replicate 2 Token.zero).set 0 ({ Token.zero with of := x35, at_ := x35, way := (1 : Int), left := y21 } : Token)).set 1 ({ Token.zero with of := x35, at_ := x35, way := (-1 : Int), left := y21 } : Token))) (vs := enc ({ Token.zero with of := x35, at_ := x35, way := (-1 : Int), left := y21 } : Token)) rfl rfl (Enc.len _) ((Put.elemN (s := 4) (i := 1) (x := Token.zero) (y := ({ Token.zero with of := x35, at_ := x35, way := (-1 : Int), left := y21 } : Token)) rfl rfl (Put.here ((Enc.len _).trans (Enc.len _).symm))).off rfl) fill_nil))) rfl rfl (by decide) (fun s38 _ => ?_)
    obtain ⟨u40, h41, H⟩ := bind_some H
    refine Lst.append (i := 1) (α := Token) (xs := l32) (ys := ([({ Token.zero with of := x35, at_ := x35, way := (1 : Int), left := y21 } : Token), ({ Token.zero with of := x35, at_ := x35, way := (-1 : Int), left := y21 } : Token)] : List Token)) rfl rfl (by decide) rfl rfl Try.runUnderlying154 Try.typeInfo156 rfl rfl rfl rfl rfl rfl (Rd.own (i := 0) rfl rfl rfl) rfl (room_some h41) rfl (fun s42 => ?_)
    refine Lst.its (L' := (.own s38 156 4 (encs ([({ Token.zero with of := x35, at_ := x35, way := (1 : Int), left := y21 } : Token), ({ Token.zero with of := x35, at_ := x35, way := (-1 : Int), left := y21 } : Token)] : List Token))) :: (.own s42 156 4 (encs (l32 ++ ([({ Token.zero with of := x35, at_ := x35, way := (1 : Int), left := y21 } : Token), ({ Token.zero with of := x35, at_ := x35, way := (-1 : Int), left := y21 } : Token)] : List Token)))) :: (.own s27 3 1 (encs (List.replicate n24 (0 : Int)))) :: (.own s18 3 1 (encs l19)) :: L) rfl ?_
    refine Lst.run rfl rfl (by decide) (Ev.assign rfl) ?_
    refine Lst.nil ?_
    refine At.in_normal ?_
    refine At.then ?_
    refine Cd.as (e' := [(0, Sl.v s_a0), (4, .int .i64 (a0.length : Int)), (5, .int .i64 y17), (8, .int .i64 y21), (9, Sl.v s27), (35, Sl.v s18), (36, .int .i64 (l19.length : Int)), (37, .int .i64 (i30 : Int)), (10, Sl.v s42)]) (L' := (.own s38 156 4 (encs ([({ Token.zero with of := x35, at_ := x35, way := (1 : Int), left := y21 } : Token), ({ Token.zero with of := x35, at_ := x35, way := (-1 : Int), left := y21 } : Token)] : List Token))) :: (.own s42 156 4 (encs (l32 ++ ([({ Token.zero with of := x35, at_ := x35, way := (1 : Int), left := y21 } : Token), ({ Token.zero with of := x35, at_ := x35, way := (-1 : Int), left := y21 } : Token)] : List Token)))) :: (.own s27 3 1 (encs (List.replicate n24 (0 : Int)))) :: (.own s18 3 1 (encs l19)) :: L) ⟨rfl, rfl, rfl, rfl, rfl, rfl, rfl, rfl, rfl, trivial⟩ rfl ?_
    refine Cd.region ?_
    refine Lst.run rfl rfl (by decide) (Ev.incr (by omega) rfl rfl) ?_
    refine Lst.run rfl rfl (by decide) (Ev.move rfl) ?_
    refine Lst.nil ?_
    refine At.less (L' := (.own s42 156 4 (encs (l32 ++ ([({ Token.zero with of := x35, at_ := x35, way := (1 : Int), left := y21 } : Token), ({ Token.zero with of := x35, at_ := x35, way := (-1 : Int), left := y21 } : Token)] : List Token)))) :: (.own s27 3 1 (encs (List.replicate n24 (0 : Int)))) :: (.own s18 3 1 (encs l19)) :: L) (List.Sublist.cons _ (List.Sublist.cons_cons _ (List.Sublist.cons_cons _ (List.Sublist.cons_cons _ (List.Sublist.refl _))))) ?_
    exact At.meet (i30 + 1, k30, s42, l32 ++ ([({ Token.zero with of := x35, at_ := x35, way := (1 : Int), left := y21 } : Token), ({ Token.zero with of := x35, at_ := x35, way := (-1 : Int), left := y21 } : Token)] : List Token)) hF34 ⟨rfl, rfl, rfl, rfl, rfl, rfl, rfl, rfl, rfl, trivial⟩ rfl ⟨⟨hgo30 _ (some_inj H).symm, by omega⟩, Nat.lt_succ_self _⟩
  have hc6 : decide ((i6 : Int) < ((List.replicate n1 (0 : Int)).length : Int)) = true := decide_eq_true (by omega)
  obtain ⟨c6, H, hgo6⟩ := rangeF_go H
  unfold partref_Halves_B0 at H
  try dsimp only at H
  refine Cd.seq ?_
  refine Cd.region ?_
  refine Lst.run rfl rfl (by decide) (Ev.lss rfl rfl) ?_
  refine Lst.nil ?_
  refine At.then ?_
  refine Cd.seq ?_
  refine Cd.condT rfl hc6 ?_
  refine Cd.skip ?_
  refine At.then ?_
  refine Cd.seq ?_
  refine Cd.block ?_
  refine Cd.seq ?_
  refine Cd.region ?_
  refine Lst.run rfl rfl (by decide) (Ev.move rfl) ?_
  refine Lst.run rfl rfl (by decide) (Ev.assign rfl) ?_
  refine Lst.nil ?_
  refine At.then ?_
  refine Cd.region ?_
  refine Lst.run rfl rfl (by decide) (Ev.move rfl) ?_
  refine Lst.run rfl rfl (by decide) (Ev.move rfl) ?_
  refine Lst.run rfl rfl (by decide) (Ev.move rfl) ?_
  obtain ⟨x11, h12, H⟩ := bind_some H
  have g13 := lat_some h12
  refine Lst.run rfl rfl (by decide) (Ev.indexS (α := Int) (xs := l8) rfl rfl Try.runUnderlying36 Try.sizeOf3 rfl (by decide) (Rd.own (i := 0) rfl rfl rfl) g13.1 g13.2.1) ?_
  obtain ⟨p14, h15, H⟩ := Let_some H
  refine Lst.storeS (i := 0) rfl rfl rfl rfl rfl Try.sizeOf3 (vs := [.int .i64 (i6 : Int)]) rfl rfl (by decide) rfl (xs' := encs p14) (by rw [← h15]; exact (Put.elemN (s := 1) (x := x11) rfl g13.2.2 (Put.here (vs := [.int .i64 (i6 : Int)]) rfl)).off (by omega)) (L' := (.own s7 3 1 (encs p14)) :: L) rfl ?_
  refine Lst.nil ?_
  refine At.in_normal ?_
  refine At.then ?_
  refine Cd.region ?_
  refine Lst.run rfl rfl (by decide) (Ev.incr (by omega) rfl rfl) ?_
  refine Lst.run rfl rfl (by decide) (Ev.move rfl) ?_
  refine Lst.nil ?_
  exact At.meet (i6 + 1, k6, s7, p14) hF10 ⟨rfl, rfl, rfl, rfl, rfl, rfl, trivial⟩ rfl ⟨⟨hgo6 _ (some_inj H).symm, by omega⟩, Nat.lt_succ_self _⟩
set_option maxRecDepth 20000 in
theorem partlaw_RingSays_sim {fu : Nat} {a0 : List Int} {s_a0 : Sl} {r : Bool} (H : partlaw_RingSays fu a0 = some r) (w0 : World) (F : Frz) (M L : List Item) (hM : M.Sublist L) (hs_a0 : Rd w0 F M s_a0 a0) : Ok Try.prog w0 4 [Sl.v s_a0] F (L) (Is (.bool r) (L)) := by
  unfold partlaw_RingSays at H
  refine Ok.enter (m := 1) (n := 94) Try.func4 rfl rfl rfl (by decide) ?_
  refine Cd.env (e' := [(0, Sl.v s_a0)]) rfl ?_
  refine Cd.seq ?_
  refine Cd.region ?_
  refine Lst.run rfl rfl (by decide) (Ev.assign rfl) ?_
  refine Lst.nil ?_
  refine At.then ?_
  refine Cd.seq ?_
  refine Cd.region ?_
  refine Lst.run rfl rfl (by decide) (Ev.move rfl) ?_
  obtain ⟨r1, h2, H⟩ := bind_some H
  refine Lst.call1 rfl rfl (by decide) (vs := [Sl.v s_a0]) ⟨rfl, trivial⟩ Try.call20 (partref_RingErr_sim h2 w0 _ M _ hM (hs_a0.mono (FLe.refl _) (List.Sublist.refl _))) ?_
  refine Lst.run rfl rfl (by decide) (Ev.assign rfl) ?_
  refine Lst.nil ?_
  refine At.then ?_
  refine Cd.seq ?_
  refine Cd.region ?_
  refine Lst.run rfl rfl (by decide) (Ev.move rfl) ?_
  obtain ⟨r5, h6, H⟩ := bind_some H
  refine Lst.call1 rfl rfl (by decide) (vs := [Sl.v s_a0]) ⟨rfl, trivial⟩ Try.call21 (ring_Round_sim h6 w0 _ M _ hM (hs_a0.mono (FLe.refl _) (List.Sublist.refl _))) ?_
  refine Lst.run rfl rfl (by decide) (Ev.move rfl) ?_
  refine Lst.run rfl rfl (by decide) (Ev.extract rfl rfl) ?_
  refine Lst.run rfl rfl (by decide) (Ev.extract rfl rfl) ?_
  refine Lst.run rfl rfl (by decide) (Ev.extract rfl rfl) ?_
  refine Lst.run rfl rfl (by decide) (Ev.assign rfl) ?_
  refine Lst.run rfl rfl (by decide) (Ev.assign rfl) ?_
  refine Lst.run rfl rfl (by decide) (Ev.assign rfl) ?_
  refine Lst.nil ?_
  refine At.then ?_
  refine Cd.seq ?_
  refine Cd.region ?_
  refine Lst.run rfl rfl (by decide) (Ev.move rfl) ?_
  obtain ⟨r9, h10, H⟩ := bind_some H
  refine Lst.call1 rfl rfl (by decide) (vs := [Sl.v s_a0]) ⟨rfl, trivial⟩ Try.call22 (ring_Halves_sim h10 w0 _ M _ hM (hs_a0.mono (FLe.refl _) (List.Sublist.refl _))) ?_
  refine Lst.run rfl rfl (by decide) (Ev.move rfl) ?_
  refine Lst.run rfl rfl (by decide) (Ev.extract rfl rfl) ?_
  refine Lst.run rfl rfl (by decide) (Ev.extract rfl rfl) ?_
  refine Lst.run rfl rfl (by decide) (Ev.extract rfl rfl) ?_
  refine Lst.run rfl rfl (by decide) (Ev.assign rfl) ?_
  refine Lst.run rfl rfl (by decide) (Ev.assign rfl) ?_
  refine Lst.run rfl rfl (by decide) (Ev.assign rfl) ?_
  refine Lst.nil ?_
  refine At.then ?_
  refine Cd.seq ?_
  refine Cd.seq ?_
  refine Cd.as (e' := [(0, Sl.v s_a0), (3, .int .i64 r1), (4, .int .i64 r5.1), (5, .int .i64 r5.2.1), (6, .int .i64 r5.2.2), (7, .int .i64 r9.1), (8, .int .i64 r9.2.1), (9, .int .i64 r9.2.2)]) (L' := L) ⟨rfl, rfl, rfl, rfl, rfl, rfl, rfl, rfl, trivial⟩ rfl ?_
  refine Cd.region ?_
  refine Lst.run rfl rfl (by decide) (Ev.move rfl) ?_
  obtain ⟨r13, h14, H⟩ := bind_some H
  refine Lst.call1 rfl rfl (by decide) (vs := [Sl.v s_a0]) ⟨rfl, trivial⟩ Try.call23 (ring_Check_sim h14 w0 _ M _ hM (hs_a0.mono (FLe.refl _) (List.Sublist.refl _))) ?_
  refine Lst.run rfl rfl (by decide) (Ev.move rfl) ?_
  refine Lst.run rfl rfl (by decide) (Ev.neq rfl rfl) ?_
  refine Lst.nil ?_
  refine At.then ?_
  rcases Bool.eq_false_or_eq_true (r13 != r1) with hb17 | hb17
  · replace H := ite_t hb17 H
    refine Cd.condT rfl hb17 ?_
    refine Cd.seq ?_
    refine Cd.region ?_
    refine Lst.run rfl rfl (by decide) (Ev.assign rfl) ?_
    refine Lst.nil ?_
    refine At.then ?_
    obtain rfl := some_inj H
    refine Cd.ret ?_
    refine At.then_ret ?_
    exact At.ret1 rfl (Res.tmp rfl) (FLe.refl _) (List.Sublist.refl _) ⟨rfl, rfl⟩
  replace H := ite_f hb17 H
  refine Cd.condF rfl hb17 ?_
  refine Cd.skip ?_
  refine At.then ?_
  refine Cd.seq ?_
  refine Cd.seq ?_
  refine Cd.region ?_
  refine Lst.run rfl rfl (by decide) (Ev.move rfl) ?_
  refine Lst.run rfl rfl (by decide) (Ev.neq rfl rfl) ?_
  refine Lst.nil ?_
  refine At.then ?_
  rcases Bool.eq_false_or_eq_true (r1 != (0 : Int)) with hb18 | hb18
  · replace H := ite_t hb18 H
    refine Cd.condT rfl hb18 ?_
    refine Cd.seq ?_
    refine Cd.region ?_
    refine Lst.run rfl rfl (by decide) (Ev.move rfl) ?_
    refine Lst.run rfl rfl (by decide) (Ev.eql rfl rfl) ?_
    refine Lst.run rfl rfl (by decide) (Ev.move rfl) ?_
    obtain ⟨o19, H, HKo19⟩ := bind_some H
    refine Lst.join (σ := Bool) 3 (fun y20 => [(3, .int .i64 r1), (6, .int .i64 r5.2.2), (7, .int .i64 r9.1), (8, .int .i64 r9.2.1), (9, .int .i64 r9.2.2), (39, .bool y20)]) (fun y20 => L) (fun _ y20 => y20 = o19) ?_ ?_
    · rcases (Bool.eq_false_or_eq_true (r5.1 == (0 : Int))).symm with hb21 | hb21
      · replace H := ite_f hb21 H
        refine Lst.skip rfl rfl rfl hb21 rfl (by decide) ?_
        refine Lst.skip rfl rfl rfl hb21 rfl (by decide) ?_
        refine Lst.run rfl rfl (by decide) (Ev.pickF rfl hb21 rfl) ?_
        refine Lst.nil ?_
        exact At.meet false (FLe.refl _) ⟨rfl, rfl, rfl, rfl, rfl, rfl, trivial⟩ rfl (some_inj H)
      replace H := ite_t hb21 H
      refine Lst.runG rfl rfl rfl hb21 rfl (by decide) (Ev.move rfl) ?_
      refine Lst.runG rfl rfl rfl hb21 rfl (by decide) (Ev.eql rfl rfl) ?_
      refine Lst.run rfl rfl (by decide) (Ev.pickT rfl hb21 rfl) ?_
      refine Lst.nil ?_
      exact At.meet (r5.2.1 == (0 : Int)) (FLe.refl _) ⟨rfl, rfl, rfl, rfl, rfl, rfl, trivial⟩ rfl (some_inj H)
    rintro F22 y20 hF23 hy
    subst hy
    refine Lst.as (e' := [(3, .int .i64 r1), (6, .int .i64 r5.2.2), (7, .int .i64 r9.1), (8, .int .i64 r9.2.1), (9, .int .i64 r9.2.2), (39, .bool y20)]) (L' := L) ⟨rfl, rfl, rfl, rfl, rfl, rfl, trivial⟩ rfl ?_
    replace H := HKo19
    refine Lst.run rfl rfl (by decide) (Ev.move rfl) ?_
    obtain ⟨o24, H, HKo24⟩ := bind_some H
    refine Lst.join (σ := Bool) 4 (fun y25 => [(3, .int .i64 r1), (7, .int .i64 r9.1), (8, .int .i64 r9.2.1), (9, .int .i64 r9.2.2), (44, .bool y25)]) (fun y25 => L) (fun _ y25 => y25 = o24) ?_ ?_
    · rcases (Bool.eq_false_or_eq_true y20).symm with hb26 | hb26
      · replace H := ite_f hb26 H
        refine Lst.skip rfl rfl rfl hb26 rfl (by decide) ?_
        refine Lst.skip rfl rfl rfl hb26 rfl (by decide) ?_
        refine Lst.skip rfl rfl rfl hb26 rfl (by decide) ?_
        refine Lst.run rfl rfl (by decide) (Ev.pickF rfl hb26 rfl) ?_
        refine Lst.nil ?_
        exact At.meet false (FLe.refl _) ⟨rfl, rfl, rfl, rfl, rfl, trivial⟩ rfl (some_inj H)
      replace H := ite_t hb26 H
      refine Lst.runG rfl rfl rfl hb26 rfl (by decide) (Ev.move rfl) ?_
      refine Lst.runG rfl rfl rfl hb26 rfl (by decide) (Ev.move rfl) ?_
      refine Lst.runG rfl rfl rfl hb26 rfl (by decide) (Ev.eql rfl rfl) ?_
      refine Lst.run rfl rfl (by decide) (Ev.pickT rfl hb26 rfl) ?_
      refine Lst.nil ?_
      exact At.meet (r5.2.2 == r1) (FLe.refl _) ⟨rfl, rfl, rfl, rfl, rfl, trivial⟩ rfl (some_inj H)
    rintro F27 y25 hF28 hy
    subst hy
    refine Lst.as (e' := [(3, .int .i64 r1), (7, .int .i64 r9.1), (8, .int .i64 r9.2.1), (9, .int .i64 r9.2.2), (44, .bool y25)]) (L' := L) ⟨rfl, rfl, rfl, rfl, rfl, trivial⟩ rfl ?_
    replace H := HKo24
    refine Lst.run rfl rfl (by decide) (Ev.move rfl) ?_
    obtain ⟨o29, H, HKo29⟩ := bind_some H
    refine Lst.join (σ := Bool) 3 (fun y30 => [(3, .int .i64 r1), (8, .int .i64 r9.2.1), (9, .int .i64 r9.2.2), (48, .bool y30)]) (fun y30 => L) (fun _ y30 => y30 = o29) ?_ ?_
    · rcases (Bool.eq_false_or_eq_true y25).symm with hb31 | hb31
      · replace H := ite_f hb31 H
        refine Lst.skip rfl rfl rfl hb31 rfl (by decide) ?_
        refine Lst.skip rfl rfl rfl hb31 rfl (by decide) ?_
        refine Lst.run rfl rfl (by decide) (Ev.pickF rfl hb31 rfl) ?_
        refine Lst.nil ?_
        exact At.meet false (FLe.refl _) ⟨rfl, rfl, rfl, rfl, trivial⟩ rfl (some_inj H)
      replace H := ite_t hb31 H
      refine Lst.runG rfl rfl rfl hb31 rfl (by decide) (Ev.move rfl) ?_
      refine Lst.runG rfl rfl rfl hb31 rfl (by decide) (Ev.eql rfl rfl) ?_
      refine Lst.run rfl rfl (by decide) (Ev.pickT rfl hb31 rfl) ?_
      refine Lst.nil ?_
      exact At.meet (r9.1 == (0 : Int)) (FLe.refl _) ⟨rfl, rfl, rfl, rfl, trivial⟩ rfl (some_inj H)
    rintro F32 y30 hF33 hy
    subst hy
    refine Lst.as (e' := [(3, .int .i64 r1), (8, .int .i64 r9.2.1), (9, .int .i64 r9.2.2), (48, .bool y30)]) (L' := L) ⟨rfl, rfl, rfl, rfl, trivial⟩ rfl ?_
    replace H := HKo29
    refine Lst.run rfl rfl (by decide) (Ev.move rfl) ?_
    obtain ⟨o34, H, HKo34⟩ := bind_some H
    refine Lst.join (σ := Bool) 3 (fun y35 => [(3, .int .i64 r1), (9, .int .i64 r9.2.2), (52, .bool y35)]) (fun y35 => L) (fun _ y35 => y35 = o34) ?_ ?_
    · rcases (Bool.eq_false_or_eq_true y30).symm with hb36 | hb36
      · replace H := ite_f hb36 H
        refine Lst.skip rfl rfl rfl hb36 rfl (by decide) ?_
        refine Lst.skip rfl rfl rfl hb36 rfl (by decide) ?_
        refine Lst.run rfl rfl (by decide) (Ev.pickF rfl hb36 rfl) ?_
        refine Lst.nil ?_
        exact At.meet false (FLe.refl _) ⟨rfl, rfl, rfl, trivial⟩ rfl (some_inj H)
      replace H := ite_t hb36 H
      refine Lst.runG rfl rfl rfl hb36 rfl (by decide) (Ev.move rfl) ?_
      refine Lst.runG rfl rfl rfl hb36 rfl (by decide) (Ev.eql rfl rfl) ?_
      refine Lst.run rfl rfl (by decide) (Ev.pickT rfl hb36 rfl) ?_
      refine Lst.nil ?_
      exact At.meet (r9.2.1 == (0 : Int)) (FLe.refl _) ⟨rfl, rfl, rfl, trivial⟩ rfl (some_inj H)
    rintro F37 y35 hF38 hy
    subst hy
    refine Lst.as (e' := [(3, .int .i64 r1), (9, .int .i64 r9.2.2), (52, .bool y35)]) (L' := L) ⟨rfl, rfl, rfl, trivial⟩ rfl ?_
    replace H := HKo34
    refine Lst.run rfl rfl (by decide) (Ev.move rfl) ?_
    obtain ⟨o39, H, HKo39⟩ := bind_some H
    refine Lst.join (σ := Bool) 4 (fun y40 => [(57, .bool y40)]) (fun y40 => L) (fun _ y40 => y40 = o39) ?_ ?_
    · rcases (Bool.eq_false_or_eq_true y35).symm with hb41 | hb41
      · replace H := ite_f hb41 H
        refine Lst.skip rfl rfl rfl hb41 rfl (by decide) ?_
        refine Lst.skip rfl rfl rfl hb41 rfl (by decide) ?_
        refine Lst.skip rfl rfl rfl hb41 rfl (by decide) ?_
        refine Lst.run rfl rfl (by decide) (Ev.pickF rfl hb41 rfl) ?_
        refine Lst.nil ?_
        exact At.meet false (FLe.refl _) ⟨rfl, trivial⟩ rfl (some_inj H)
      replace H := ite_t hb41 H
      refine Lst.runG rfl rfl rfl hb41 rfl (by decide) (Ev.move rfl) ?_
      refine Lst.runG rfl rfl rfl hb41 rfl (by decide) (Ev.move rfl) ?_
      refine Lst.runG rfl rfl rfl hb41 rfl (by decide) (Ev.eql rfl rfl) ?_
      refine Lst.run rfl rfl (by decide) (Ev.pickT rfl hb41 rfl) ?_
      refine Lst.nil ?_
      exact At.meet (r9.2.2 == r1) (FLe.refl _) ⟨rfl, trivial⟩ rfl (some_inj H)
    rintro F42 y40 hF43 hy
    subst hy
    refine Lst.as (e' := [(57, .bool y40)]) (L' := L) ⟨rfl, trivial⟩ rfl ?_
    replace H := HKo39
    refine Lst.run rfl rfl (by decide) (Ev.assign rfl) ?_
    refine Lst.nil ?_
    refine At.then ?_
    obtain rfl := some_inj H
    refine Cd.ret ?_
    refine At.then_ret ?_
    exact At.ret1 rfl (Res.tmp rfl) (FLe.trans (FLe.trans (FLe.trans (FLe.trans hF23 hF28) hF33) hF38) hF43) (List.Sublist.refl _) ⟨rfl, rfl⟩
  replace H := ite_f hb18 H
  refine Cd.condF rfl hb18 ?_
  refine Cd.skip ?_
  refine At.then ?_
  refine Cd.seq ?_
  refine Cd.region ?_
  refine Lst.run rfl rfl (by decide) (Ev.move rfl) ?_
  obtain ⟨r44, h45, H⟩ := bind_some H
  refine Lst.call1 rfl rfl (by decide) (vs := [Sl.v s_a0]) ⟨rfl, trivial⟩ Try.call24 (partref_Round_sim h45 w0 _ M _ hM (hs_a0.mono (FLe.refl _) (List.Sublist.refl _))) ?_
  refine Lst.run rfl rfl (by decide) (Ev.move rfl) ?_
  refine Lst.run rfl rfl (by decide) (Ev.extract rfl rfl) ?_
  refine Lst.run rfl rfl (by decide) (Ev.extract rfl rfl) ?_
  refine Lst.run rfl rfl (by decide) (Ev.assign rfl) ?_
  refine Lst.run rfl rfl (by decide) (Ev.assign rfl) ?_
  refine Lst.nil ?_
  refine At.then ?_
  refine Cd.seq ?_
  refine Cd.region ?_
  refine Lst.run rfl rfl (by decide) (Ev.move rfl) ?_
  obtain ⟨r48, h49, H⟩ := bind_some H
  refine Lst.call1 rfl rfl (by decide) (vs := [Sl.v s_a0]) ⟨rfl, trivial⟩ Try.call25 (partref_Halves_sim h49 w0 _ M _ hM (hs_a0.mono (FLe.refl _) (List.Sublist.refl _))) ?_
  refine Lst.run rfl rfl (by decide) (Ev.move rfl) ?_
  refine Lst.run rfl rfl (by decide) (Ev.extract rfl rfl) ?_
  refine Lst.run rfl rfl (by decide) (Ev.extract rfl rfl) ?_
  refine Lst.run rfl rfl (by decide) (Ev.assign rfl) ?_
  refine Lst.run rfl rfl (by decide) (Ev.assign rfl) ?_
  refine Lst.nil ?_
  refine At.then ?_
  refine Cd.seq ?_
  refine Cd.as (e' := [(4, .int .i64 r5.1), (5, .int .i64 r5.2.1), (6, .int .i64 r5.2.2), (7, .int .i64 r9.1), (8, .int .i64 r9.2.1), (9, .int .i64 r9.2.2), (10, .int .i64 r44.1), (11, .int .i64 r44.2), (12, .int .i64 r48.1), (13, .int .i64 r48.2)]) (L' := L) ⟨rfl, rfl, rfl, rfl, rfl, rfl, rfl, rfl, rfl, rfl, trivial⟩ rfl ?_
  refine Cd.region ?_
  refine Lst.run rfl rfl (by decide) (Ev.move rfl) ?_
  refine Lst.run rfl rfl (by decide) (Ev.move rfl) ?_
  refine Lst.run rfl rfl (by decide) (Ev.eql rfl rfl) ?_
  refine Lst.run rfl rfl (by decide) (Ev.move rfl) ?_
  obtain ⟨o52, H, HKo52⟩ := bind_some H
  refine Lst.join (σ := Bool) 4 (fun y53 => [(6, .int .i64 r5.2.2), (7, .int .i64 r9.1), (8, .int .i64 r9.2.1), (9, .int .i64 r9.2.2), (12, .int .i64 r48.1), (13, .int .i64 r48.2), (75, .bool y53)]) (fun y53 => L) (fun _ y53 => y53 = o52) ?_ ?_
  · rcases (Bool.eq_false_or_eq_true (r5.1 == r44.1)).symm with hb54 | hb54
    · replace H := ite_f hb54 H
      refine Lst.skip rfl rfl rfl hb54 rfl (by decide) ?_
      refine Lst.skip rfl rfl rfl hb54 rfl (by decide) ?_
      refine Lst.skip rfl rfl rfl hb54 rfl (by decide) ?_
      refine Lst.run rfl rfl (by decide) (Ev.pickF rfl hb54 rfl) ?_
      refine Lst.nil ?_
      exact At.meet false (FLe.refl _) ⟨rfl, rfl, rfl, rfl, rfl, rfl, rfl, trivial⟩ rfl (some_inj H)
    replace H := ite_t hb54 H
    refine Lst.runG rfl rfl rfl hb54 rfl (by decide) (Ev.move rfl) ?_
    refine Lst.runG rfl rfl rfl hb54 rfl (by decide) (Ev.move rfl) ?_
    refine Lst.runG rfl rfl rfl hb54 rfl (by decide) (Ev.eql rfl rfl) ?_
    refine Lst.run rfl rfl (by decide) (Ev.pickT rfl hb54 rfl) ?_
    refine Lst.nil ?_
    exact At.meet (r5.2.1 == r44.2) (FLe.refl _) ⟨rfl, rfl, rfl, rfl, rfl, rfl, rfl, trivial⟩ rfl (some_inj H)
  rintro F55 y53 hF56 hy
  subst hy
  refine Lst.as (e' := [(6, .int .i64 r5.2.2), (7, .int .i64 r9.1), (8, .int .i64 r9.2.1), (9, .int .i64 r9.2.2), (12, .int .i64 r48.1), (13, .int .i64 r48.2), (75, .bool y53)]) (L' := L) ⟨rfl, rfl, rfl, rfl, rfl, rfl, rfl, trivial⟩ rfl ?_
  replace H := HKo52
  refine Lst.run rfl rfl (by decide) (Ev.move rfl) ?_
  obtain ⟨o57, H, HKo57⟩ := bind_some H
  refine Lst.join (σ := Bool) 3 (fun y58 => [(7, .int .i64 r9.1), (8, .int .i64 r9.2.1), (9, .int .i64 r9.2.2), (12, .int .i64 r48.1), (13, .int .i64 r48.2), (79, .bool y58)]) (fun y58 => L) (fun _ y58 => y58 = o57) ?_ ?_
  · rcases (Bool.eq_false_or_eq_true y53).symm with hb59 | hb59
    · replace H := ite_f hb59 H
      refine Lst.skip rfl rfl rfl hb59 rfl (by decide) ?_
      refine Lst.skip rfl rfl rfl hb59 rfl (by decide) ?_
      refine Lst.run rfl rfl (by decide) (Ev.pickF rfl hb59 rfl) ?_
      refine Lst.nil ?_
      exact At.meet false (FLe.refl _) ⟨rfl, rfl, rfl, rfl, rfl, rfl, trivial⟩ rfl (some_inj H)
    replace H := ite_t hb59 H
    refine Lst.runG rfl rfl rfl hb59 rfl (by decide) (Ev.move rfl) ?_
    refine Lst.runG rfl rfl rfl hb59 rfl (by decide) (Ev.eql rfl rfl) ?_
    refine Lst.run rfl rfl (by decide) (Ev.pickT rfl hb59 rfl) ?_
    refine Lst.nil ?_
    exact At.meet (r5.2.2 == (0 : Int)) (FLe.refl _) ⟨rfl, rfl, rfl, rfl, rfl, rfl, trivial⟩ rfl (some_inj H)
  rintro F60 y58 hF61 hy
  subst hy
  refine Lst.as (e' := [(7, .int .i64 r9.1), (8, .int .i64 r9.2.1), (9, .int .i64 r9.2.2), (12, .int .i64 r48.1), (13, .int .i64 r48.2), (79, .bool y58)]) (L' := L) ⟨rfl, rfl, rfl, rfl, rfl, rfl, trivial⟩ rfl ?_
  replace H := HKo57
  refine Lst.run rfl rfl (by decide) (Ev.move rfl) ?_
  obtain ⟨o62, H, HKo62⟩ := bind_some H
  refine Lst.join (σ := Bool) 4 (fun y63 => [(8, .int .i64 r9.2.1), (9, .int .i64 r9.2.2), (13, .int .i64 r48.2), (84, .bool y63)]) (fun y63 => L) (fun _ y63 => y63 = o62) ?_ ?_
  · rcases (Bool.eq_false_or_eq_true y58).symm with hb64 | hb64
    · replace H := ite_f hb64 H
      refine Lst.skip rfl rfl rfl hb64 rfl (by decide) ?_
      refine Lst.skip rfl rfl rfl hb64 rfl (by decide) ?_
      refine Lst.skip rfl rfl rfl hb64 rfl (by decide) ?_
      refine Lst.run rfl rfl (by decide) (Ev.pickF rfl hb64 rfl) ?_
      refine Lst.nil ?_
      exact At.meet false (FLe.refl _) ⟨rfl, rfl, rfl, rfl, trivial⟩ rfl (some_inj H)
    replace H := ite_t hb64 H
    refine Lst.runG rfl rfl rfl hb64 rfl (by decide) (Ev.move rfl) ?_
    refine Lst.runG rfl rfl rfl hb64 rfl (by decide) (Ev.move rfl) ?_
    refine Lst.runG rfl rfl rfl hb64 rfl (by decide) (Ev.eql rfl rfl) ?_
    refine Lst.run rfl rfl (by decide) (Ev.pickT rfl hb64 rfl) ?_
    refine Lst.nil ?_
    exact At.meet (r9.1 == r48.1) (FLe.refl _) ⟨rfl, rfl, rfl, rfl, trivial⟩ rfl (some_inj H)
  rintro F65 y63 hF66 hy
  subst hy
  refine Lst.as (e' := [(8, .int .i64 r9.2.1), (9, .int .i64 r9.2.2), (13, .int .i64 r48.2), (84, .bool y63)]) (L' := L) ⟨rfl, rfl, rfl, rfl, trivial⟩ rfl ?_
  replace H := HKo62
  refine Lst.run rfl rfl (by decide) (Ev.move rfl) ?_
  obtain ⟨o67, H, HKo67⟩ := bind_some H
  refine Lst.join (σ := Bool) 4 (fun y68 => [(9, .int .i64 r9.2.2), (89, .bool y68)]) (fun y68 => L) (fun _ y68 => y68 = o67) ?_ ?_
  · rcases (Bool.eq_false_or_eq_true y63).symm with hb69 | hb69
    · replace H := ite_f hb69 H
      refine Lst.skip rfl rfl rfl hb69 rfl (by decide) ?_
      refine Lst.skip rfl rfl rfl hb69 rfl (by decide) ?_
      refine Lst.skip rfl rfl rfl hb69 rfl (by decide) ?_
      refine Lst.run rfl rfl (by decide) (Ev.pickF rfl hb69 rfl) ?_
      refine Lst.nil ?_
      exact At.meet false (FLe.refl _) ⟨rfl, rfl, trivial⟩ rfl (some_inj H)
    replace H := ite_t hb69 H
    refine Lst.runG rfl rfl rfl hb69 rfl (by decide) (Ev.move rfl) ?_
    refine Lst.runG rfl rfl rfl hb69 rfl (by decide) (Ev.move rfl) ?_
    refine Lst.runG rfl rfl rfl hb69 rfl (by decide) (Ev.eql rfl rfl) ?_
    refine Lst.run rfl rfl (by decide) (Ev.pickT rfl hb69 rfl) ?_
    refine Lst.nil ?_
    exact At.meet (r9.2.1 == r48.2) (FLe.refl _) ⟨rfl, rfl, trivial⟩ rfl (some_inj H)
  rintro F70 y68 hF71 hy
  subst hy
  refine Lst.as (e' := [(9, .int .i64 r9.2.2), (89, .bool y68)]) (L' := L) ⟨rfl, rfl, trivial⟩ rfl ?_
  replace H := HKo67
  refine Lst.run rfl rfl (by decide) (Ev.move rfl) ?_
  obtain ⟨o72, H, HKo72⟩ := bind_some H
  refine Lst.join (σ := Bool) 3 (fun y73 => [(93, .bool y73)]) (fun y73 => L) (fun _ y73 => y73 = o72) ?_ ?_
  · rcases (Bool.eq_false_or_eq_true y68).symm with hb74 | hb74
    · replace H := ite_f hb74 H
      refine Lst.skip rfl rfl rfl hb74 rfl (by decide) ?_
      refine Lst.skip rfl rfl rfl hb74 rfl (by decide) ?_
      refine Lst.run rfl rfl (by decide) (Ev.pickF rfl hb74 rfl) ?_
      refine Lst.nil ?_
      exact At.meet false (FLe.refl _) ⟨rfl, trivial⟩ rfl (some_inj H)
    replace H := ite_t hb74 H
    refine Lst.runG rfl rfl rfl hb74 rfl (by decide) (Ev.move rfl) ?_
    refine Lst.runG rfl rfl rfl hb74 rfl (by decide) (Ev.eql rfl rfl) ?_
    refine Lst.run rfl rfl (by decide) (Ev.pickT rfl hb74 rfl) ?_
    refine Lst.nil ?_
    exact At.meet (r9.2.2 == (0 : Int)) (FLe.refl _) ⟨rfl, trivial⟩ rfl (some_inj H)
  rintro F75 y73 hF76 hy
  subst hy
  refine Lst.as (e' := [(93, .bool y73)]) (L' := L) ⟨rfl, trivial⟩ rfl ?_
  replace H := HKo72
  refine Lst.run rfl rfl (by decide) (Ev.assign rfl) ?_
  refine Lst.nil ?_
  refine At.then ?_
  obtain rfl := some_inj H
  refine Cd.ret ?_
  exact At.ret1 rfl (Res.tmp rfl) (FLe.trans (FLe.trans (FLe.trans (FLe.trans hF56 hF61) hF66) hF71) hF76) (List.Sublist.refl _) ⟨rfl, rfl⟩
end Go.Proofs.Ytobikknjaomalaa
