/-
  The functions compute their specs; printed by a program.
-/
import Derived.Test.YtclmlddmgccfjaaCaP1
namespace Go.Proofs.Ytclmlddmgccfjaa
open Go.RowKit Enc
set_option linter.unusedVariables false
set_option linter.unusedSimpArgs false
set_option maxRecDepth 20000 in
theorem partref_Compare_sim {a0 : Vector Int 6} {a1 : Vector Int 6} {r : Int} (H : partref_Compare a0 a1 = some r) (w0 : World) (F : Frz) (M L : List Item) (hM : M.Sublist L) : Ok Try.prog w0 13 [.agg (enc a0).toArray, .agg (enc a1).toArray] F (L) (Is (.int .i64 r) (L)) := by
  unfold partref_Compare at H
  refine Ok.enter (m := 2) (n := 41) Try.func13 rfl rfl rfl (by decide) ?_
  refine Cd.env (e' := [(0, .agg (enc a0).toArray), (1, .agg (enc a1).toArray)]) rfl ?_
  refine Cd.seq ?_
  refine Cd.region ?_
  refine Lst.box rfl rfl (by decide) rfl (cs := enc a0) rfl (fun b1 => ?_)
  refine Lst.box rfl rfl (by decide) rfl (cs := enc a1) rfl (fun b3 => ?_)
  refine Lst.run rfl rfl (by decide) (Ev.assign rfl) ?_
  refine Lst.nil ?_
  refine At.then ?_
  refine Cd.seq ?_
  refine Cd.region ?_
  refine Lst.run rfl rfl (by decide) (Ev.assign rfl) ?_
  refine Lst.run rfl rfl (by decide) (Ev.assign rfl) ?_
  refine Lst.nil ?_
  refine At.then ?_
  refine Cd.seq ?_
  refine Cd.seq ?_
  refine Cd.region ?_
  refine Lst.run rfl rfl (by decide) (Ev.move rfl) ?_
  refine Lst.nil ?_
  refine At.then ?_
  refine Cd.block ?_
  obtain ⟨ol5, H, HKl5⟩ := bind_some H
  refine Cd.loop (σ := Nat × Nat × Bool × Bool) (fun (i5, k5, y6, y7) => [(2, .pointer (some ⟨b1, 0, none⟩)), (3, .pointer (some ⟨b3, 0, none⟩)), (5, .bool y6), (6, .bool y7), (8, .int .i64 (i5 : Int))]) (fun (i5, k5, y6, y7) => (.blk b3 (enc a1) 23) :: (.blk b1 (enc a0) 23) :: L) (fun _ => (fun (i5, k5, y6, y7) => rangeF (partref_Compare_B0 a0 a1) k5 i5 (y6, y7) = some ol5 ∧ i5 + k5 = 6)) (fun (i5, k5, y6, y7) => k5) (0, 6, false, false) ⟨rfl, rfl, rfl, rfl, rfl, trivial⟩ rfl ⟨H, by omega⟩ ?_
  rintro F8 ⟨i5, k5, y6, y7⟩ hF9 ⟨H, hik5⟩
  refine Cd.as (e' := [(2, .pointer (some ⟨b1, 0, none⟩)), (3, .pointer (some ⟨b3, 0, none⟩)), (5, .bool y6), (6, .bool y7), (8, .int .i64 (i5 : Int))]) (L' := (.blk b3 (enc a1) 23) :: (.blk b1 (enc a0) 23) :: L) ⟨rfl, rfl, rfl, rfl, rfl, trivial⟩ rfl ?_
  rcases k5 with _ | k5
  · have hc5 : decide ((i5 : Int) < (6 : Int)) = false := decide_eq_false (by omega)
    replace H := rangeF_end H
    refine Cd.seq ?_
    refine Cd.region ?_
    refine Lst.run rfl rfl (by decide) (Ev.lss rfl rfl) ?_
    refine Lst.nil ?_
    refine At.then ?_
    refine Cd.seq ?_
    refine Cd.condF rfl hc5 ?_
    refine Cd.exit ?_
    refine At.then_exit ?_
    refine At.then_exit ?_
    refine At.in_exit ?_
    subst H
    replace H := HKl5
    refine At.then ?_
    refine Cd.seq ?_
    refine Cd.block ?_
    refine Cd.seq ?_
    refine Cd.region ?_
    refine Lst.run rfl rfl (by decide) (Ev.move rfl) ?_
    refine Lst.run rfl rfl (by decide) (Ev.move rfl) ?_
    obtain ⟨o28, H, HKo28⟩ := bind_some H
    refine Lst.join (σ := Bool) 2 (fun y29 => [(5, .bool y6), (6, .bool y7), (36, .bool y29)]) (fun y29 => (.blk b3 (enc a1) 23) :: (.blk b1 (enc a0) 23) :: L) (fun _ y29 => y29 = o28) ?_ ?_
    · rcases (Bool.eq_false_or_eq_true y6).symm with hb30 | hb30
      · replace H := ite_f hb30 H
        refine Lst.skip rfl rfl rfl hb30 rfl (by decide) ?_
        refine Lst.run rfl rfl (by decide) (Ev.pickF rfl hb30 rfl) ?_
        refine Lst.nil ?_
        exact At.meet false (FLe.refl _) ⟨rfl, rfl, rfl, trivial⟩ rfl (some_inj H)
      replace H := ite_t hb30 H
      refine Lst.runG rfl rfl rfl hb30 rfl (by decide) (Ev.move rfl) ?_
      refine Lst.run rfl rfl (by decide) (Ev.pickT rfl hb30 rfl) ?_
      refine Lst.nil ?_
      exact At.meet y7 (FLe.refl _) ⟨rfl, rfl, rfl, trivial⟩ rfl (some_inj H)
    rintro F31 y29 hF32 hy
    subst hy
    refine Lst.as (e' := [(5, .bool y6), (6, .bool y7), (36, .bool y29)]) (L' := (.blk b3 (enc a1) 23) :: (.blk b1 (enc a0) 23) :: L) ⟨rfl, rfl, rfl, trivial⟩ rfl ?_
    replace H := HKo28
    refine Lst.run rfl rfl (by decide) (Ev.assign rfl) ?_
    refine Lst.nil ?_
    refine At.then ?_
    rcases Bool.eq_false_or_eq_true y29 with hb33 | hb33
    · replace H := ite_t hb33 H
      refine Cd.condT rfl hb33 ?_
      refine Cd.seq ?_
      refine Cd.region ?_
      refine Lst.run rfl rfl (by decide) (Ev.assign rfl) ?_
      refine Lst.nil ?_
      refine At.then ?_
      obtain rfl := some_inj H
      refine Cd.ret ?_
      refine At.in_ret ?_
      refine At.then_ret ?_
      exact At.ret1 rfl (Res.tmp rfl) (FLe.trans hF9 hF32) (List.Sublist.cons _ (List.Sublist.cons _ (List.Sublist.refl _))) ⟨rfl, rfl⟩
    replace H := ite_f hb33 H
    refine Cd.condF rfl hb33 ?_
    refine Cd.seq ?_
    refine Cd.region ?_
    refine Lst.run rfl rfl (by decide) (Ev.move rfl) ?_
    refine Lst.run rfl rfl (by decide) (Ev.assign rfl) ?_
    refine Lst.nil ?_
    refine At.then ?_
    rcases Bool.eq_false_or_eq_true y7 with hb34 | hb34
    · replace H := ite_t hb34 H
      refine Cd.condT rfl hb34 ?_
      refine Cd.seq ?_
      refine Cd.region ?_
      refine Lst.run rfl rfl (by decide) (Ev.assign rfl) ?_
      refine Lst.nil ?_
      refine At.then ?_
      obtain rfl := some_inj H
      refine Cd.ret ?_
      refine At.in_ret ?_
      refine At.then_ret ?_
      exact At.ret1 rfl (Res.tmp rfl) (FLe.trans hF9 hF32) (List.Sublist.cons _ (List.Sublist.cons _ (List.Sublist.refl _))) ⟨rfl, rfl⟩
    replace H := ite_f hb34 H
    refine Cd.condF rfl hb34 ?_
    refine Cd.seq ?_
    refine Cd.region ?_
    refine Lst.run rfl rfl (by decide) (Ev.move rfl) ?_
    refine Lst.run rfl rfl (by decide) (Ev.assign rfl) ?_
    refine Lst.nil ?_
    refine At.then ?_
    rcases Bool.eq_false_or_eq_true y6 with hb35 | hb35
    · replace H := ite_t hb35 H
      refine Cd.condT rfl hb35 ?_
      refine Cd.seq ?_
      refine Cd.region ?_
      refine Lst.run rfl rfl (by decide) (Ev.assign rfl) ?_
      refine Lst.nil ?_
      refine At.then ?_
      obtain rfl := some_inj H
      refine Cd.ret ?_
      refine At.in_ret ?_
      refine At.then_ret ?_
      exact At.ret1 rfl (Res.tmp rfl) (FLe.trans hF9 hF32) (List.Sublist.cons _ (List.Sublist.cons _ (List.Sublist.refl _))) ⟨rfl, rfl⟩
    replace H := ite_f hb35 H
    refine Cd.condF rfl hb35 ?_
    refine Cd.skip ?_
    refine At.in_normal ?_
    refine At.then ?_
    refine Cd.seq ?_
    refine Cd.region ?_
    refine Lst.run rfl rfl (by decide) (Ev.assign rfl) ?_
    refine Lst.nil ?_
    refine At.then ?_
    obtain rfl := some_inj H
    refine Cd.ret ?_
    exact At.ret1 rfl (Res.tmp rfl) (FLe.trans hF9 hF32) (List.Sublist.cons _ (List.Sublist.cons _ (List.Sublist.refl _))) ⟨rfl, rfl⟩
  have hc5 : decide ((i5 : Int) < (6 : Int)) = true := decide_eq_true (by omega)
  obtain ⟨c5, H, hgo5⟩ := rangeF_go H
  unfold partref_Compare_B0 at H
  try dsimp only at H
  refine Cd.seq ?_
  refine Cd.region ?_
  refine Lst.run rfl rfl (by decide) (Ev.lss rfl rfl) ?_
  refine Lst.nil ?_
  refine At.then ?_
  refine Cd.seq ?_
  refine Cd.condT rfl hc5 ?_
  refine Cd.skip ?_
  refine At.then ?_
  refine Cd.seq ?_
  refine Cd.block ?_
  refine Cd.seq ?_
  refine Cd.region ?_
  refine Lst.run rfl rfl (by decide) (Ev.move rfl) ?_
  refine Lst.run rfl rfl (by decide) (Ev.assign rfl) ?_
  refine Lst.nil ?_
  refine At.then ?_
  refine Cd.seq ?_
  refine Cd.quiet (by kernel_rfl) (by kernel_rfl) ?_
  refine Qt.run rfl rfl (by decide) (Ev.move rfl) ?_
  refine Qt.run rfl rfl (by decide) (Ev.move rfl) ?_
  obtain ⟨o10, H, HKo10⟩ := bind_some H
  refine Qt.join (σ := Bool) 8 (fun y11 => [(2, .pointer (some ⟨b1, 0, none⟩)), (3, .pointer (some ⟨b3, 0, none⟩)), (5, .bool y6), (6, .bool y7), (7, .int .i64 (i5 : Int)), (8, .int .i64 (i5 : Int)), (20, .bool y11)]) (fun y11 => y11 = o10) ?_ ?_
  · rcases Bool.eq_false_or_eq_true y6 with hb12 | hb12
    · replace H := ite_t hb12 H
      refine Qt.skip rfl rfl rfl hb12 rfl (by decide) ?_
      refine Qt.skip rfl rfl rfl hb12 rfl (by decide) ?_
      refine Qt.skip rfl rfl rfl hb12 rfl (by decide) ?_
      refine Qt.skip rfl rfl rfl hb12 rfl (by decide) ?_
      refine Qt.skip rfl rfl rfl hb12 rfl (by decide) ?_
      refine Qt.skip rfl rfl rfl hb12 rfl (by decide) ?_
      refine Qt.skip rfl rfl rfl hb12 rfl (by decide) ?_
      refine Qt.run rfl rfl (by decide) (Ev.pickT rfl hb12 rfl) ?_
      exact Qt.meet true ⟨rfl, rfl, rfl, rfl, rfl, rfl, rfl, trivial⟩ (some_inj H)
    replace H := ite_f hb12 H
    refine Qt.runG rfl rfl rfl hb12 rfl (by decide) (Ev.move rfl) ?_
    obtain ⟨x13, h14, H⟩ := bind_some H
    have g15 := vat_some h14
    refine Qt.runG rfl rfl rfl hb12 rfl (by decide) (Ev.indexAddr (off' := 0 + (i5 : Int).toNat * 1) rfl rfl Try.runUnderlying23 Try.sizeOf3 g15.1 g15.2.1 rfl) ?_
    refine Qt.runG rfl rfl rfl hb12 rfl (by decide) (Ev.load (i := 1) rfl rfl Try.isAgg3 (v := .int .i64 x13) ((Get.vecN (s := 1) (x := x13) rfl g15.2.2 (Get.here _)).off (by omega))) ?_
    refine Qt.runG rfl rfl rfl hb12 rfl (by decide) (Ev.move rfl) ?_
    obtain ⟨x16, h17, H⟩ := bind_some H
    have g18 := vat_some h17
    refine Qt.runG rfl rfl rfl hb12 rfl (by decide) (Ev.indexAddr (off' := 0 + (i5 : Int).toNat * 1) rfl rfl Try.runUnderlying23 Try.sizeOf3 g18.1 g18.2.1 rfl) ?_
    refine Qt.runG rfl rfl rfl hb12 rfl (by decide) (Ev.load (i := 0) rfl rfl Try.isAgg3 (v := .int .i64 x16) ((Get.vecN (s := 1) (x := x16) rfl g18.2.2 (Get.here _)).off (by omega))) ?_
    refine Qt.runG rfl rfl rfl hb12 rfl (by decide) (Ev.lss rfl rfl) ?_
    refine Qt.run rfl rfl (by decide) (Ev.pickF rfl hb12 rfl) ?_
    exact Qt.meet (decide (x13 < x16)) ⟨rfl, rfl, rfl, rfl, rfl, rfl, rfl, trivial⟩ (some_inj H)
  rintro y11 hy
  subst hy
  refine Qt.as (e' := [(2, .pointer (some ⟨b1, 0, none⟩)), (3, .pointer (some ⟨b3, 0, none⟩)), (5, .bool y6), (6, .bool y7), (7, .int .i64 (i5 : Int)), (8, .int .i64 (i5 : Int)), (20, .bool y11)]) ⟨rfl, rfl, rfl, rfl, rfl, rfl, rfl, trivial⟩ ?_
  replace H := HKo10
  refine Qt.run rfl rfl (by decide) (Ev.assign rfl) ?_
  refine Qt.done ?_
  refine At.then ?_
  refine Cd.quiet (by kernel_rfl) (by kernel_rfl) ?_
  refine Qt.run rfl rfl (by decide) (Ev.move rfl) ?_
  refine Qt.run rfl rfl (by decide) (Ev.move rfl) ?_
  obtain ⟨o19, H, HKo19⟩ := bind_some H
  refine Qt.join (σ := Bool) 8 (fun y20 => [(2, .pointer (some ⟨b1, 0, none⟩)), (3, .pointer (some ⟨b3, 0, none⟩)), (5, .bool y11), (6, .bool y7), (8, .int .i64 (i5 : Int)), (30, .bool y20)]) (fun y20 => y20 = o19) ?_ ?_
  · rcases Bool.eq_false_or_eq_true y7 with hb21 | hb21
    · replace H := ite_t hb21 H
      refine Qt.skip rfl rfl rfl hb21 rfl (by decide) ?_
      refine Qt.skip rfl rfl rfl hb21 rfl (by decide) ?_
      refine Qt.skip rfl rfl rfl hb21 rfl (by decide) ?_
      refine Qt.skip rfl rfl rfl hb21 rfl (by decide) ?_
      refine Qt.skip rfl rfl rfl hb21 rfl (by decide) ?_
      refine Qt.skip rfl rfl rfl hb21 rfl (by decide) ?_
      refine Qt.skip rfl rfl rfl hb21 rfl (by decide) ?_
      refine Qt.run rfl rfl (by decide) (Ev.pickT rfl hb21 rfl) ?_
      exact Qt.meet true ⟨rfl, rfl, rfl, rfl, rfl, rfl, trivial⟩ (some_inj H)
    replace H := ite_f hb21 H
    refine Qt.runG rfl rfl rfl hb21 rfl (by decide) (Ev.move rfl) ?_
    obtain ⟨x22, h23, H⟩ := bind_some H
    have g24 := vat_some h23
    refine Qt.runG rfl rfl rfl hb21 rfl (by decide) (Ev.indexAddr (off' := 0 + (i5 : Int).toNat * 1) rfl rfl Try.runUnderlying23 Try.sizeOf3 g24.1 g24.2.1 rfl) ?_
    refine Qt.runG rfl rfl rfl hb21 rfl (by decide) (Ev.load (i := 1) rfl rfl Try.isAgg3 (v := .int .i64 x22) ((Get.vecN (s := 1) (x := x22) rfl g24.2.2 (Get.here _)).off (by omega))) ?_
    refine Qt.runG rfl rfl rfl hb21 rfl (by decide) (Ev.move rfl) ?_
    obtain ⟨x25, h26, H⟩ := bind_some H
    have g27 := vat_some h26
    refine Qt.runG rfl rfl rfl hb21 rfl (by decide) (Ev.indexAddr (off' := 0 + (i5 : Int).toNat * 1) rfl rfl Try.runUnderlying23 Try.sizeOf3 g27.1 g27.2.1 rfl) ?_
    refine Qt.runG rfl rfl rfl hb21 rfl (by decide) (Ev.load (i := 0) rfl rfl Try.isAgg3 (v := .int .i64 x25) ((Get.vecN (s := 1) (x := x25) rfl g27.2.2 (Get.here _)).off (by omega))) ?_
    refine Qt.runG rfl rfl rfl hb21 rfl (by decide) (Ev.gtr rfl rfl) ?_
    refine Qt.run rfl rfl (by decide) (Ev.pickF rfl hb21 rfl) ?_
    exact Qt.meet (decide (x22 > x25)) ⟨rfl, rfl, rfl, rfl, rfl, rfl, trivial⟩ (some_inj H)
  rintro y20 hy
  subst hy
  refine Qt.as (e' := [(2, .pointer (some ⟨b1, 0, none⟩)), (3, .pointer (some ⟨b3, 0, none⟩)), (5, .bool y11), (6, .bool y7), (8, .int .i64 (i5 : Int)), (30, .bool y20)]) ⟨rfl, rfl, rfl, rfl, rfl, rfl, trivial⟩ ?_
  replace H := HKo19
  refine Qt.run rfl rfl (by decide) (Ev.assign rfl) ?_
  refine Qt.done ?_
  refine At.in_normal ?_
  refine At.then ?_
  refine Cd.region ?_
  refine Lst.run rfl rfl (by decide) (Ev.incr (by omega) rfl rfl) ?_
  refine Lst.run rfl rfl (by decide) (Ev.move rfl) ?_
  refine Lst.nil ?_
  exact At.meet (i5 + 1, k5, y11, y20) hF9 ⟨rfl, rfl, rfl, rfl, rfl, trivial⟩ rfl ⟨⟨hgo5 _ (some_inj H).symm, by omega⟩, Nat.lt_succ_self _⟩
set_option maxRecDepth 20000 in
theorem partref_rightCut_sim {a0 : List Event} {a1 : List (Vector Int 6)} {a2 : Vector Int 6} {s_a0 : Sl} {s_a1 : Sl} {r : Bool} (H : partref_rightCut a0 a1 a2 = some r) (w0 : World) (F : Frz) (M L : List Item) (hM : M.Sublist L) (hs_a0 : Rd w0 F M s_a0 a0) (hs_a1 : Rd w0 F M s_a1 a1) : Ok Try.prog w0 62 [Sl.v s_a0, Sl.v s_a1, .agg (enc a2).toArray] F (L) (Is (.bool r) (L)) := by
  unfold partref_rightCut at H
  refine Ok.enter (m := 3) (n := 29) Try.func62 rfl rfl rfl (by decide) ?_
  refine Cd.env (e' := [(0, Sl.v s_a0), (1, Sl.v s_a1), (2, .agg (enc a2).toArray)]) rfl ?_
  refine Cd.seq ?_
  refine Cd.region ?_
  refine Lst.box rfl rfl (by decide) rfl (cs := enc a2) rfl (fun b1 => ?_)
  refine Lst.run rfl rfl (by decide) (Ev.assign rfl) ?_
  refine Lst.nil ?_
  refine At.then ?_
  refine Cd.seq ?_
  refine Cd.seq ?_
  refine Cd.region ?_
  refine Lst.run rfl rfl (by decide) (Ev.move rfl) ?_
  refine Lst.run rfl rfl (by decide) (Ev.loadA (i := 0) rfl rfl Try.isAgg23 Try.sizeOf23 (ch := enc a2) (Enc.len _) (Get.here _)) ?_
  obtain ⟨r3, h4, H⟩ := bind_some H
  refine Lst.call rfl rfl (by decide) (vs := [Sl.v s_a0, .agg (enc a2).toArray]) ⟨rfl, rfl, trivial⟩ Try.call58 (partref_inCut_sim h4 w0 _ M _ (List.Sublist.cons _ hM) (hs_a0.mono (FLe.refl _) (List.Sublist.refl _))) (fun F7 L' v hF8 hv => ?_)
  obtain ⟨s5, rfl, rfl⟩ := hv
  refine Lst.run rfl rfl (by decide) (Ev.lenS (α := Bool) (xs := r3) (by decide) rfl rfl Try.runUnderlying44 (Rd.own (i := 0) rfl rfl rfl)) ?_
  refine Lst.run rfl rfl (by decide) (Ev.move rfl) ?_
  refine Lst.nil ?_
  refine At.then ?_
  refine Cd.block ?_
  refine Cd.bound (Rd.le (α := Bool) (xs := r3) (by decide) (Rd.own (i := 0) rfl rfl rfl)) (fun hN26 => ?_)
  obtain ⟨ol9, H, HKl9⟩ := andThen_some H
  refine Cd.loop (σ := Nat × Nat × Unit) (fun (i9, k9, _u) => [(1, Sl.v s_a1), (5, .pointer (some ⟨b1, 0, none⟩)), (11, Sl.v s5), (12, .int .i64 (r3.length : Int)), (13, .int .i64 (i9 : Int))]) (fun (i9, k9, _u) => (.own s5 4 1 (encs r3)) :: (.blk b1 (enc a2) 23) :: L) (fun _ => (fun (i9, k9, _u) => rangeM (partref_rightCut_B0 a1 a2 r3) k9 i9 () = some ol9 ∧ i9 + k9 = r3.length)) (fun (i9, k9, _u) => k9) (0, r3.length, ()) ⟨rfl, rfl, rfl, rfl, rfl, trivial⟩ rfl ⟨H, by omega⟩ ?_
  rintro F10 ⟨i9, k9, _u⟩ hF11 ⟨H, hik9⟩
  refine Cd.as (e' := [(1, Sl.v s_a1), (5, .pointer (some ⟨b1, 0, none⟩)), (11, Sl.v s5), (12, .int .i64 (r3.length : Int)), (13, .int .i64 (i9 : Int))]) (L' := (.own s5 4 1 (encs r3)) :: (.blk b1 (enc a2) 23) :: L) ⟨rfl, rfl, rfl, rfl, rfl, trivial⟩ rfl ?_
  rcases k9 with _ | k9
  · have hc9 : decide ((i9 : Int) < (r3.length : Int)) = false := decide_eq_false (by omega)
    replace H := rangeM_end H
    refine Cd.seq ?_
    refine Cd.region ?_
    refine Lst.run rfl rfl (by decide) (Ev.lss rfl rfl) ?_
    refine Lst.nil ?_
    refine At.then ?_
    refine Cd.seq ?_
    refine Cd.condF rfl hc9 ?_
    refine Cd.exit ?_
    refine At.then_exit ?_
    refine At.then_exit ?_
    refine At.in_exit ?_
    subst H
    replace H := HKl9
    refine At.then ?_
    refine Cd.seq ?_
    refine Cd.region ?_
    refine Lst.run rfl rfl (by decide) (Ev.assign rfl) ?_
    refine Lst.nil ?_
    refine At.then ?_
    obtain rfl := some_inj H
    refine Cd.ret ?_
    exact At.ret1 rfl (Res.tmp rfl) (FLe.trans hF8 hF11) (List.Sublist.cons _ (List.Sublist.cons _ (List.Sublist.refl _))) ⟨rfl, rfl⟩
  have hc9 : decide ((i9 : Int) < (r3.length : Int)) = true := decide_eq_true (by omega)
  obtain ⟨c9, H, hgo9, hbrk9, hret9⟩ := rangeM_go H
  unfold partref_rightCut_B0 at H
  try dsimp only at H
  refine Cd.seq ?_
  refine Cd.region ?_
  refine Lst.run rfl rfl (by decide) (Ev.lss rfl rfl) ?_
  refine Lst.nil ?_
  refine At.then ?_
  refine Cd.seq ?_
  refine Cd.condT rfl hc9 ?_
  refine Cd.skip ?_
  refine At.then ?_
  refine Cd.seq ?_
  refine Cd.block ?_
  refine Cd.seq ?_
  refine Cd.region ?_
  refine Lst.run rfl rfl (by decide) (Ev.move rfl) ?_
  obtain ⟨x12, h13, H⟩ := bind_some H
  have g14 := lat_some h13
  refine Lst.run rfl rfl (by decide) (Ev.indexS (α := Bool) (xs := r3) rfl rfl Try.runUnderlying44 Try.sizeOf4 rfl (by decide) (Rd.own (i := 0) rfl rfl rfl) g14.1 g14.2.1) ?_
  refine Lst.run rfl rfl (by decide) (Ev.loadS (α := Bool) rfl (Rd.own (i := 0) rfl rfl rfl) Try.isAgg4 (v := .bool x12) ((Get.elemN (s := 1) (x := x12) rfl g14.2.2 (Get.here _)).off (by omega))) ?_
  refine Lst.run rfl rfl (by decide) (Ev.assign rfl) ?_
  refine Lst.run rfl rfl (by decide) (Ev.assign rfl) ?_
  refine Lst.nil ?_
  refine At.then ?_
  refine Cd.seq ?_
  refine Cd.quiet (by kernel_rfl) (by kernel_rfl) ?_
  refine Qt.run rfl rfl (by decide) (Ev.move rfl) ?_
  refine Qt.run rfl rfl (by decide) (Ev.move rfl) ?_
  obtain ⟨o15, H, HKo15⟩ := bind_some H
  refine Qt.join (σ := Bool) 8 (fun y16 => [(1, Sl.v s_a1), (5, .pointer (some ⟨b1, 0, none⟩)), (11, Sl.v s5), (12, .int .i64 (r3.length : Int)), (13, .int .i64 (i9 : Int)), (27, .bool y16)]) (fun y16 => y16 = o15) ?_ ?_
  · rcases (Bool.eq_false_or_eq_true x12).symm with hb17 | hb17
    · replace H := ite_f hb17 H
      refine Qt.skip rfl rfl rfl hb17 rfl (by decide) ?_
      refine Qt.skip rfl rfl rfl hb17 rfl (by decide) ?_
      refine Qt.skip rfl rfl rfl hb17 rfl (by decide) ?_
      refine Qt.skip rfl rfl rfl hb17 rfl (by decide) ?_
      refine Qt.skip rfl rfl rfl hb17 rfl (by decide) ?_
      refine Qt.skip rfl rfl rfl hb17 rfl (by decide) ?_
      refine Qt.skip rfl rfl rfl hb17 rfl (by decide) ?_
      refine Qt.run rfl rfl (by decide) (Ev.pickF rfl hb17 rfl) ?_
      exact Qt.meet false ⟨rfl, rfl, rfl, rfl, rfl, rfl, trivial⟩ (some_inj H)
    replace H := ite_t hb17 H
    refine Qt.runG rfl rfl rfl hb17 rfl (by decide) (Ev.move rfl) ?_
    refine Qt.runG rfl rfl rfl hb17 rfl (by decide) (Ev.move rfl) ?_
    obtain ⟨x18, h19, H⟩ := bind_some H
    have g20 := lat_some h19
    refine Qt.runG rfl rfl rfl hb17 rfl (by decide) (Ev.indexS (α := Vector Int 6) (xs := a1) rfl rfl Try.runUnderlying28 Try.sizeOf23 rfl (by decide) (hs_a1.mono (FLe.trans hF8 hF11) (List.Sublist.cons _ (List.Sublist.cons _ hM))) g20.1 g20.2.1) ?_
    refine Qt.runG rfl rfl rfl hb17 rfl (by decide) (Ev.loadSA (α := Vector Int 6) rfl (hs_a1.mono (FLe.trans hF8 hF11) (List.Sublist.cons _ (List.Sublist.cons _ hM))) Try.isAgg23 Try.sizeOf23 (ch := enc x18) (Enc.len _) (by decide) ((Get.elemN (s := 6) (x := x18) rfl g20.2.2 (Get.here _)).off (by omega))) ?_
    refine Qt.runG rfl rfl rfl hb17 rfl (by decide) (Ev.loadA (i := 1) rfl rfl Try.isAgg23 Try.sizeOf23 (ch := enc a2) (Enc.len _) (Get.here _)) ?_
    obtain ⟨r21, h22, H⟩ := bind_some H
    refine Qt.callG rfl rfl rfl hb17 rfl (by decide) (vs := [.agg (enc x18).toArray, .agg (enc a2).toArray]) ⟨rfl, rfl, trivial⟩ Try.call13 (partref_Compare_sim h22 w0 _ M _ (List.Sublist.cons _ (List.Sublist.cons _ hM))) ?_
    refine Qt.runG rfl rfl rfl hb17 rfl (by decide) (Ev.gtr rfl rfl) ?_
    refine Qt.run rfl rfl (by decide) (Ev.pickT rfl hb17 rfl) ?_
    exact Qt.meet (decide (r21 > (1 : Int))) ⟨rfl, rfl, rfl, rfl, rfl, rfl, trivial⟩ (some_inj H)
  rintro y16 hy
  subst hy
  refine Qt.as (e' := [(1, Sl.v s_a1), (5, .pointer (some ⟨b1, 0, none⟩)), (11, Sl.v s5), (12, .int .i64 (r3.length : Int)), (13, .int .i64 (i9 : Int)), (27, .bool y16)]) ⟨rfl, rfl, rfl, rfl, rfl, rfl, trivial⟩ ?_
  replace H := HKo15
  refine Qt.done ?_
  refine At.then ?_
  rcases Bool.eq_false_or_eq_true y16 with hb25 | hb25
  · replace H := ite_t hb25 H
    refine Cd.condT rfl hb25 ?_
    refine Cd.seq ?_
    refine Cd.region ?_
    refine Lst.run rfl rfl (by decide) (Ev.assign rfl) ?_
    refine Lst.nil ?_
    refine At.then ?_
    have H := hret9 _ (some_inj H).symm
    subst H
    replace H := HKl9
    obtain rfl := some_inj H
    refine Cd.ret ?_
    refine At.in_ret ?_
    refine At.then_ret ?_
    refine At.then_ret ?_
    refine At.in_ret ?_
    refine At.then_ret ?_
    exact At.ret1 rfl (Res.tmp rfl) (FLe.trans hF8 hF11) (List.Sublist.cons _ (List.Sublist.cons _ (List.Sublist.refl _))) ⟨rfl, rfl⟩
  replace H := ite_f hb25 H
  refine Cd.condF rfl hb25 ?_
  refine Cd.skip ?_
  refine At.in_normal ?_
  refine At.then ?_
  refine Cd.region ?_
  refine Lst.run rfl rfl (by decide) (Ev.incr (by omega) rfl rfl) ?_
  refine Lst.run rfl rfl (by decide) (Ev.move rfl) ?_
  refine Lst.nil ?_
  exact At.meet (i9 + 1, k9, ()) hF11 ⟨rfl, rfl, rfl, rfl, rfl, trivial⟩ rfl ⟨⟨hgo9 _ (some_inj H).symm, by omega⟩, Nat.lt_succ_self _⟩
set_option maxRecDepth 20000 in
theorem partref_Cuts_1_simR : ∀ (fu : Nat) {a0 : Vector Int 6} {a1 : Int} {a2 : List Event} {a3 : List (Vector Int 6)} {a4 : List (Vector Int 6)} {a5 : Vector Int 6} {b_a2 : Nat} {s_a2 : Sl} {b_a3 : Nat} {s_a3 : Sl} {b_a4 : Nat} {s_a4 : Sl} {b_a5 : Nat} {b_a6 : Nat} {r : (List (Vector Int 6))} (H : partref_Cuts_1 fu a0 a1 a2 a3 a4 a5 = some r) (w0 : World) (F : Frz) (M L : List Item) (hM : M.Sublist L) (hs_a2 : Rd w0 F M s_a2 a2) (hs_a3 : Rd w0 F M s_a3 a3), Ok Try.prog w0 61 [.agg (enc a0).toArray, .int .i64 a1, .pointer (some ⟨b_a2, 0, none⟩), .pointer (some ⟨b_a3, 0, none⟩), .pointer (some ⟨b_a4, 0, none⟩), .pointer (some ⟨b_a5, 0, none⟩), .pointer (some ⟨b_a6, 0, none⟩)] F ((.blk b_a2 (enc s_a2) 24) :: (.blk b_a3 (enc s_a3) 28) :: (.own s_a4 23 6 (encs a4)) :: (.blk b_a4 (enc s_a4) 28) :: (.blk b_a5 (enc a5) 23) :: (.blk b_a6 [.func (.func 61) #[] #[.pointer (some ⟨b_a2, 0, none⟩), .pointer (some ⟨b_a3, 0, none⟩), .pointer (some ⟨b_a4, 0, none⟩), .pointer (some ⟨b_a5, 0, none⟩), .pointer (some ⟨b_a6, 0, none⟩)]] 95) :: L) (fun _ L' v => ∃ (s7 : Sl), v = .tuple #[] ∧ L' = (.blk b_a2 (enc s_a2) 24) :: (.blk b_a3 (enc s_a3) 28) :: (.own s7 23 6 (encs r)) :: (.blk b_a4 (enc s7) 28) :: (.blk b_a5 (enc a5) 23) :: (.blk b_a6 [.func (.func 61) #[] #[.pointer (some ⟨b_a2, 0, none⟩), .pointer (some ⟨b_a3, 0, none⟩), .pointer (some ⟨b_a4, 0, none⟩), .pointer (some ⟨b_a5, 0, none⟩), .pointer (some ⟨b_a6, 0, none⟩)]] 95) :: L) := by
  intro fu
  induction fu with
  | zero => intro a0 a1 a2 a3 a4 a5 b_a2 s_a2 b_a3 s_a3 b_a4 s_a4 b_a5 b_a6 r H; exact nomatch (show (none : Option (List (Vector Int 6))) = some _ from H)
  | succ fu ih =>
    intro a0 a1 a2 a3 a4 a5 b_a2 s_a2 b_a3 s_a3 b_a4 s_a4 b_a5 b_a6 r H w0 F M L hM hs_a2 hs_a3
    replace H : partref_Cuts_1_R (partref_Cuts_1 fu) a0 a1 a2 a3 a4 a5 = some r := H
    generalize partref_Cuts_1 fu = rc at H ih
    unfold partref_Cuts_1_R at H
    refine Ok.enter (m := 7) (n := 36) Try.func61 rfl rfl rfl (by decide) ?_
    refine Cd.env (e' := [(0, .agg (enc a0).toArray), (1, .int .i64 a1), (2, .pointer (some ⟨b_a2, 0, none⟩)), (3, .pointer (some ⟨b_a3, 0, none⟩)), (4, .pointer (some ⟨b_a4, 0, none⟩)), (5, .pointer (some ⟨b_a5, 0, none⟩)), (6, .pointer (some ⟨b_a6, 0, none⟩))]) rfl ?_
    refine Cd.seq ?_
    refine Cd.region ?_
    refine Lst.box rfl rfl (by decide) rfl (cs := enc a0) rfl (fun b7 => ?_)
    refine Lst.nil ?_
    refine At.then ?_
    refine Cd.seq ?_
    refine Cd.seq ?_
    refine Cd.region ?_
    refine Lst.run rfl rfl (by decide) (Ev.move rfl) ?_
    refine Lst.run rfl rfl (by decide) (Ev.eql rfl rfl) ?_
    refine Lst.nil ?_
    refine At.then ?_
    rcases Bool.eq_false_or_eq_true (a1 == (6 : Int)) with hb9 | hb9
    · replace H := ite_t hb9 H
      refine Cd.condT rfl hb9 ?_
      obtain ⟨o12, H, HKo12⟩ := bind_some H
      refine Cd.join (σ := Sl × (List (Vector Int 6))) (fun (s10, l11) => []) (fun (s10, l11) => (.blk b7 (enc a0) 23) :: (.blk b_a2 (enc s_a2) 24) :: (.blk b_a3 (enc s_a3) 28) :: (.own s10 23 6 (encs l11)) :: (.blk b_a4 (enc s10) 28) :: (.blk b_a5 (enc a5) 23) :: (.blk b_a6 [.func (.func 61) #[] #[.pointer (some ⟨b_a2, 0, none⟩), .pointer (some ⟨b_a3, 0, none⟩), .pointer (some ⟨b_a4, 0, none⟩), .pointer (some ⟨b_a5, 0, none⟩), .pointer (some ⟨b_a6, 0, none⟩)]] 95) :: L) (fun _ (s10, l11) => l11 = o12) ?_ ?_
      · refine Cd.seq ?_
        refine Cd.region ?_
        refine Lst.run rfl rfl (by decide) (Ev.load (i := 1) rfl rfl Try.isAgg24 (v := Sl.v s_a2) (Get.here _)) ?_
        refine Lst.run rfl rfl (by decide) (Ev.load (i := 2) rfl rfl Try.isAgg28 (v := Sl.v s_a3) (Get.here _)) ?_
        refine Lst.run rfl rfl (by decide) (Ev.loadA (i := 0) rfl rfl Try.isAgg23 Try.sizeOf23 (ch := enc a0) (Enc.len _) (Get.here _)) ?_
        obtain ⟨r13, h14, H⟩ := bind_some H
        refine Lst.call1 rfl rfl (by decide) (vs := [Sl.v s_a2, Sl.v s_a3, .agg (enc a0).toArray]) ⟨rfl, rfl, rfl, trivial⟩ Try.call62 (partref_rightCut_sim h14 w0 _ M _ (List.Sublist.cons _ (List.Sublist.cons _ (List.Sublist.cons _ (List.Sublist.cons _ (List.Sublist.cons _ (List.Sublist.cons _ (List.Sublist.cons _ hM))))))) (hs_a2.mono (FLe.refl _) (List.Sublist.refl _)) (hs_a3.mono (FLe.refl _) (List.Sublist.refl _))) ?_
        refine Lst.nil ?_
        refine At.then ?_
        rcases (Bool.eq_false_or_eq_true r13).symm with hb17 | hb17
        · replace H := ite_f hb17 H
          refine Cd.condF rfl hb17 ?_
          refine Cd.skip ?_
          exact At.meet (s_a4, a4) (FLe.refl _) trivial rfl (some_inj H)
        replace H := ite_t hb17 H
        refine Cd.condT rfl hb17 ?_
        refine Cd.region ?_
        refine Lst.run rfl rfl (by decide) (Ev.load (i := 4) rfl rfl Try.isAgg28 (v := Sl.v s_a4) (Get.here _)) ?_
        refine Lst.run rfl rfl (by decide) (Ev.loadA (i := 0) rfl rfl Try.isAgg23 Try.sizeOf23 (ch := enc a0) (Enc.len _) (Get.here _)) ?_
        refine Lst.buildSlice (α := Vector Int 6) (xs := ([a0] : List (Vector Int 6))) (pv := [(0, .agg (enc a0).toArray)]) rfl rfl (by decide) ⟨rfl, rfl, trivial⟩ (run_buildSlice (α := Vector Int 6) (z0 := (Vector.replicate 6 (0 : Int))) (xs := ([a0] : List (Vector Int 6))) Try.runUnderlying28 Try.sizeOf23 Try.zeroValue23 rfl rfl rfl (by decide) rfl (fill_cons (cs := encs (List.replicate 1 (Vector.replicate 6 (0 : Int)))) (cs' := encs ((List.replicate 1 (Vector.replicate 6 (0 : Int))).set 0 a0)) (vs := enc a0) rfl rfl (Enc.len _) ((Put.elemN (s := 6) (i := 0) (x := (Vector.replicate 6 (0 : Int))) (y := a0) rfl rfl (Put.here ((Enc.len _).trans (Enc.len _).symm))).off rfl) fill_nil)) rfl rfl (by decide) (fun s18 _ => ?_)
        obtain ⟨u20, h21, H⟩ := bind_some H
        refine Lst.append (i := 4) (α := Vector Int 6) (xs := a4) (ys := ([a0] : List (Vector Int 6))) rfl rfl (by decide) rfl rfl Try.runUnderlying28 Try.typeInfo23 rfl rfl rfl rfl rfl rfl (Rd.own (i := 0) rfl rfl rfl) rfl (room_some h21) rfl (fun s22 => ?_)
        refine Lst.its (L' := (.own s18 23 6 (encs ([a0] : List (Vector Int 6)))) :: (.blk b7 (enc a0) 23) :: (.blk b_a2 (enc s_a2) 24) :: (.blk b_a3 (enc s_a3) 28) :: (.own s22 23 6 (encs (a4 ++ ([a0] : List (Vector Int 6))))) :: (.blk b_a4 (enc s_a4) 28) :: (.blk b_a5 (enc a5) 23) :: (.blk b_a6 [.func (.func 61) #[] #[.pointer (some ⟨b_a2, 0, none⟩), .pointer (some ⟨b_a3, 0, none⟩), .pointer (some ⟨b_a4, 0, none⟩), .pointer (some ⟨b_a5, 0, none⟩), .pointer (some ⟨b_a6, 0, none⟩)]] 95) :: L) rfl ?_
        refine Lst.store (i := 5) rfl rfl rfl rfl rfl Try.sizeOf28 (vs := [Sl.v s22]) rfl rfl rfl (cs' := enc s22) (Put.here (vs := [Sl.v s22]) rfl) (L' := (.own s18 23 6 (encs ([a0] : List (Vector Int 6)))) :: (.blk b7 (enc a0) 23) :: (.blk b_a2 (enc s_a2) 24) :: (.blk b_a3 (enc s_a3) 28) :: (.own s22 23 6 (encs (a4 ++ ([a0] : List (Vector Int 6))))) :: (.blk b_a4 (enc s22) 28) :: (.blk b_a5 (enc a5) 23) :: (.blk b_a6 [.func (.func 61) #[] #[.pointer (some ⟨b_a2, 0, none⟩), .pointer (some ⟨b_a3, 0, none⟩), .pointer (some ⟨b_a4, 0, none⟩), .pointer (some ⟨b_a5, 0, none⟩), .pointer (some ⟨b_a6, 0, none⟩)]] 95) :: L) rfl ?_
        refine Lst.nil ?_
        refine At.less (L' := (.blk b7 (enc a0) 23) :: (.blk b_a2 (enc s_a2) 24) :: (.blk b_a3 (enc s_a3) 28) :: (.own s22 23 6 (encs (a4 ++ ([a0] : List (Vector Int 6))))) :: (.blk b_a4 (enc s22) 28) :: (.blk b_a5 (enc a5) 23) :: (.blk b_a6 [.func (.func 61) #[] #[.pointer (some ⟨b_a2, 0, none⟩), .pointer (some ⟨b_a3, 0, none⟩), .pointer (some ⟨b_a4, 0, none⟩), .pointer (some ⟨b_a5, 0, none⟩), .pointer (some ⟨b_a6, 0, none⟩)]] 95) :: L) (List.Sublist.cons _ (List.Sublist.cons_cons _ (List.Sublist.cons_cons _ (List.Sublist.cons_cons _ (List.Sublist.cons_cons _ (List.Sublist.cons_cons _ (List.Sublist.cons_cons _ (List.Sublist.cons_cons _ (List.Sublist.refl _))))))))) ?_
        exact At.meet (s22, a4 ++ ([a0] : List (Vector Int 6))) (FLe.refl _) trivial rfl (some_inj H)
      rintro F23 ⟨s10, l11⟩ hF24 hy
      subst hy
      refine Cd.as (e' := []) (L' := (.blk b7 (enc a0) 23) :: (.blk b_a2 (enc s_a2) 24) :: (.blk b_a3 (enc s_a3) 28) :: (.own s10 23 6 (encs l11)) :: (.blk b_a4 (enc s10) 28) :: (.blk b_a5 (enc a5) 23) :: (.blk b_a6 [.func (.func 61) #[] #[.pointer (some ⟨b_a2, 0, none⟩), .pointer (some ⟨b_a3, 0, none⟩), .pointer (some ⟨b_a4, 0, none⟩), .pointer (some ⟨b_a5, 0, none⟩), .pointer (some ⟨b_a6, 0, none⟩)]] 95) :: L) trivial rfl ?_
      replace H := HKo12
      obtain rfl := some_inj H
      refine Cd.ret ?_
      refine At.then_ret ?_
      exact At.ret0 (.inl rfl) rfl hF24 (List.Sublist.cons _ (List.Sublist.cons_cons _ (List.Sublist.cons_cons _ (List.Sublist.cons_cons _ (List.Sublist.cons_cons _ (List.Sublist.cons_cons _ (List.Sublist.cons_cons _ (List.Sublist.refl _)))))))) ⟨s10, rfl, rfl⟩
    replace H := ite_f hb9 H
    refine Cd.condF rfl hb9 ?_
    refine Cd.skip ?_
    refine At.then ?_
    refine Cd.seq ?_
    refine Cd.region ?_
    refine Lst.run rfl rfl (by decide) (Ev.move rfl) ?_
    obtain ⟨x25, h26, H⟩ := bind_some H
    have g27 := vat_some h26
    refine Lst.run rfl rfl (by decide) (Ev.indexAddr (off' := 0 + a1.toNat * 1) rfl rfl Try.runUnderlying23 Try.sizeOf3 g27.1 g27.2.1 rfl) ?_
    refine Lst.run rfl rfl (by decide) (Ev.load (i := 5) rfl rfl Try.isAgg3 (v := .int .i64 x25) ((Get.vecN (s := 1) (x := x25) rfl g27.2.2 (Get.here _)).off (by omega))) ?_
    refine Lst.run rfl rfl (by decide) (Ev.add rfl rfl) ?_
    refine Lst.run rfl rfl (by decide) (Ev.move rfl) ?_
    refine Lst.nil ?_
    refine At.then ?_
    refine Cd.block ?_
    obtain ⟨nn34, hN45, H⟩ := bind_some H
    replace hN45 := upTo_some hN45
    obtain ⟨ol28, H, HKl28⟩ := bind_some H
    refine Cd.loop (σ := Nat × Nat × (Vector Int 6) × Sl × (List (Vector Int 6))) (fun (i28, k28, y29, s30, l31) => [(1, .int .i64 a1), (6, .pointer (some ⟨b_a6, 0, none⟩)), (7, .pointer (some ⟨b7, 0, none⟩)), (23, .int .i64 (w64 (x25 + (1 : Int)))), (24, .int .i64 (i28 : Int))]) (fun (i28, k28, y29, s30, l31) => (.blk b7 (enc y29) 23) :: (.blk b_a2 (enc s_a2) 24) :: (.blk b_a3 (enc s_a3) 28) :: (.own s30 23 6 (encs l31)) :: (.blk b_a4 (enc s30) 28) :: (.blk b_a5 (enc a5) 23) :: (.blk b_a6 [.func (.func 61) #[] #[.pointer (some ⟨b_a2, 0, none⟩), .pointer (some ⟨b_a3, 0, none⟩), .pointer (some ⟨b_a4, 0, none⟩), .pointer (some ⟨b_a5, 0, none⟩), .pointer (some ⟨b_a6, 0, none⟩)]] 95) :: L) (fun _ => (fun (i28, k28, y29, s30, l31) => rangeF (partref_Cuts_1_B0 a1 a2 a3 a5 rc) k28 i28 (y29, l31) = some ol28 ∧ i28 + k28 = nn34)) (fun (i28, k28, y29, s30, l31) => k28) (0, nn34, a0, s_a4, a4) ⟨rfl, rfl, rfl, rfl, rfl, trivial⟩ rfl ⟨H, by omega⟩ ?_
    rintro F32 ⟨i28, k28, y29, s30, l31⟩ hF33 ⟨H, hik28⟩
    refine Cd.as (e' := [(1, .int .i64 a1), (6, .pointer (some ⟨b_a6, 0, none⟩)), (7, .pointer (some ⟨b7, 0, none⟩)), (23, .int .i64 (w64 (x25 + (1 : Int)))), (24, .int .i64 (i28 : Int))]) (L' := (.blk b7 (enc y29) 23) :: (.blk b_a2 (enc s_a2) 24) :: (.blk b_a3 (enc s_a3) 28) :: (.own s30 23 6 (encs l31)) :: (.blk b_a4 (enc s30) 28) :: (.blk b_a5 (enc a5) 23) :: (.blk b_a6 [.func (.func 61) #[] #[.pointer (some ⟨b_a2, 0, none⟩), .pointer (some ⟨b_a3, 0, none⟩), .pointer (some ⟨b_a4, 0, none⟩), .pointer (some ⟨b_a5, 0, none⟩), .pointer (some ⟨b_a6, 0, none⟩)]] 95) :: L) ⟨rfl, rfl, rfl, rfl, rfl, trivial⟩ rfl ?_
    rcases k28 with _ | k28
    · have hc28 : decide ((i28 : Int) < (w64 (x25 + (1 : Int)))) = false := decide_eq_false (by omega)
      replace H := rangeF_end H
      refine Cd.seq ?_
      refine Cd.region ?_
      refine Lst.run rfl rfl (by decide) (Ev.lss rfl rfl) ?_
      refine Lst.nil ?_
      refine At.then ?_
      refine Cd.seq ?_
      refine Cd.condF rfl hc28 ?_
      refine Cd.exit ?_
      refine At.then_exit ?_
      refine At.then_exit ?_
      refine At.in_exit ?_
      subst H
      replace H := HKl28
      obtain rfl := some_inj H
      exact At.ret0 (.inr rfl) rfl hF33 (List.Sublist.cons _ (List.Sublist.cons_cons _ (List.Sublist.cons_cons _ (List.Sublist.cons_cons _ (List.Sublist.cons_cons _ (List.Sublist.cons_cons _ (List.Sublist.cons_cons _ (List.Sublist.refl _)))))))) ⟨s30, rfl, rfl⟩
    have hc28 : decide ((i28 : Int) < (w64 (x25 + (1 : Int)))) = true := decide_eq_true (by omega)
    obtain ⟨c28, H, hgo28⟩ := rangeF_go H
    unfold partref_Cuts_1_B0 at H
    try dsimp only at H
    refine Cd.seq ?_
    refine Cd.region ?_
    refine Lst.run rfl rfl (by decide) (Ev.lss rfl rfl) ?_
    refine Lst.nil ?_
    refine At.then ?_
    refine Cd.seq ?_
    refine Cd.condT rfl hc28 ?_
    refine Cd.skip ?_
    refine At.then ?_
    refine Cd.seq ?_
    refine Cd.block ?_
    refine Cd.seq ?_
    refine Cd.region ?_
    refine Lst.run rfl rfl (by decide) (Ev.move rfl) ?_
    refine Lst.run rfl rfl (by decide) (Ev.assign rfl) ?_
    refine Lst.nil ?_
    refine At.then ?_
    refine Cd.seq ?_
    refine Cd.region ?_
    refine Lst.run rfl rfl (by decide) (Ev.move rfl) ?_
    refine Lst.run rfl rfl (by decide) (Ev.move rfl) ?_
    obtain ⟨x35, h36, H⟩ := bind_some H
    have g37 := vat_some h36
    refine Lst.run rfl rfl (by decide) (Ev.indexAddr (off' := 0 + a1.toNat * 1) rfl rfl Try.runUnderlying23 Try.sizeOf3 g37.1 g37.2.1 rfl) ?_
    obtain ⟨p38, h39, H⟩ := Let_some H
    refine Lst.store (i := 0) rfl rfl rfl rfl rfl Try.sizeOf3 (vs := [.int .i64 (i28 : Int)]) rfl rfl rfl (cs' := enc p38) (by rw [← h39]; exact (Put.vecN (s := 1) (x := x35) rfl g37.2.2 (Put.here (vs := [.int .i64 (i28 : Int)]) rfl)).off (by omega)) (L' := (.blk b7 (enc p38) 23) :: (.blk b_a2 (enc s_a2) 24) :: (.blk b_a3 (enc s_a3) 28) :: (.own s30 23 6 (encs l31)) :: (.blk b_a4 (enc s30) 28) :: (.blk b_a5 (enc a5) 23) :: (.blk b_a6 [.func (.func 61) #[] #[.pointer (some ⟨b_a2, 0, none⟩), .pointer (some ⟨b_a3, 0, none⟩), .pointer (some ⟨b_a4, 0, none⟩), .pointer (some ⟨b_a5, 0, none⟩), .pointer (some ⟨b_a6, 0, none⟩)]] 95) :: L) rfl ?_
    refine Lst.nil ?_
    refine At.then ?_
    refine Cd.region ?_
    refine Lst.run rfl rfl (by decide) (Ev.load (i := 6) rfl rfl Try.isAgg95 (v := .func (.func 61) #[] #[.pointer (some ⟨b_a2, 0, none⟩), .pointer (some ⟨b_a3, 0, none⟩), .pointer (some ⟨b_a4, 0, none⟩), .pointer (some ⟨b_a5, 0, none⟩), .pointer (some ⟨b_a6, 0, none⟩)]) (Get.here _)) ?_
    refine Lst.run rfl rfl (by decide) (Ev.loadA (i := 0) rfl rfl Try.isAgg23 Try.sizeOf23 (ch := enc p38) (Enc.len _) (Get.here _)) ?_
    refine Lst.run rfl rfl (by decide) (Ev.move rfl) ?_
    refine Lst.run rfl rfl (by decide) (Ev.add rfl rfl) ?_
    obtain ⟨r40, h41, H⟩ := bind_some H
    refine Lst.front (i := 6) rfl (L' := (.blk b_a6 [.func (.func 61) #[] #[.pointer (some ⟨b_a2, 0, none⟩), .pointer (some ⟨b_a3, 0, none⟩), .pointer (some ⟨b_a4, 0, none⟩), .pointer (some ⟨b_a5, 0, none⟩), .pointer (some ⟨b_a6, 0, none⟩)]] 95) :: (.blk b7 (enc p38) 23) :: (.blk b_a2 (enc s_a2) 24) :: (.blk b_a3 (enc s_a3) 28) :: (.own s30 23 6 (encs l31)) :: (.blk b_a4 (enc s30) 28) :: (.blk b_a5 (enc a5) 23) :: L) rfl ?_
    refine Lst.front (i := 6) rfl (L' := (.blk b_a5 (enc a5) 23) :: (.blk b_a6 [.func (.func 61) #[] #[.pointer (some ⟨b_a2, 0, none⟩), .pointer (some ⟨b_a3, 0, none⟩), .pointer (some ⟨b_a4, 0, none⟩), .pointer (some ⟨b_a5, 0, none⟩), .pointer (some ⟨b_a6, 0, none⟩)]] 95) :: (.blk b7 (enc p38) 23) :: (.blk b_a2 (enc s_a2) 24) :: (.blk b_a3 (enc s_a3) 28) :: (.own s30 23 6 (encs l31)) :: (.blk b_a4 (enc s30) 28) :: L) rfl ?_
    refine Lst.front (i := 6) rfl (L' := (.blk b_a4 (enc s30) 28) :: (.blk b_a5 (enc a5) 23) :: (.blk b_a6 [.func (.func 61) #[] #[.pointer (some ⟨b_a2, 0, none⟩), .pointer (some ⟨b_a3, 0, none⟩), .pointer (some ⟨b_a4, 0, none⟩), .pointer (some ⟨b_a5, 0, none⟩), .pointer (some ⟨b_a6, 0, none⟩)]] 95) :: (.blk b7 (enc p38) 23) :: (.blk b_a2 (enc s_a2) 24) :: (.blk b_a3 (enc s_a3) 28) :: (.own s30 23 6 (encs l31)) :: L) rfl ?_
    refine Lst.front (i := 6) rfl (L' := (.own s30 23 6 (encs l31)) :: (.blk b_a4 (enc s30) 28) :: (.blk b_a5 (enc a5) 23) :: (.blk b_a6 [.func (.func 61) #[] #[.pointer (some ⟨b_a2, 0, none⟩), .pointer (some ⟨b_a3, 0, none⟩), .pointer (some ⟨b_a4, 0, none⟩), .pointer (some ⟨b_a5, 0, none⟩), .pointer (some ⟨b_a6, 0, none⟩)]] 95) :: (.blk b7 (enc p38) 23) :: (.blk b_a2 (enc s_a2) 24) :: (.blk b_a3 (enc s_a3) 28) :: L) rfl ?_
    refine Lst.front (i := 6) rfl (L' := (.blk b_a3 (enc s_a3) 28) :: (.own s30 23 6 (encs l31)) :: (.blk b_a4 (enc s30) 28) :: (.blk b_a5 (enc a5) 23) :: (.blk b_a6 [.func (.func 61) #[] #[.pointer (some ⟨b_a2, 0, none⟩), .pointer (some ⟨b_a3, 0, none⟩), .pointer (some ⟨b_a4, 0, none⟩), .pointer (some ⟨b_a5, 0, none⟩), .pointer (some ⟨b_a6, 0, none⟩)]] 95) :: (.blk b7 (enc p38) 23) :: (.blk b_a2 (enc s_a2) 24) :: L) rfl ?_
    refine Lst.front (i := 6) rfl (L' := (.blk b_a2 (enc s_a2) 24) :: (.blk b_a3 (enc s_a3) 28) :: (.own s30 23 6 (encs l31)) :: (.blk b_a4 (enc s30) 28) :: (.blk b_a5 (enc a5) 23) :: (.blk b_a6 [.func (.func 61) #[] #[.pointer (some ⟨b_a2, 0, none⟩), .pointer (some ⟨b_a3, 0, none⟩), .pointer (some ⟨b_a4, 0, none⟩), .pointer (some ⟨b_a5, 0, none⟩), .pointer (some ⟨b_a6, 0, none⟩)]] 95) :: (.blk b7 (enc p38) 23) :: L) rfl ?_
    refine Lst.callV rfl rfl (by decide) (vs := [.agg (enc p38).toArray, .int .i64 (w64 (a1 + (1 : Int)))]) (cs := [.pointer (some ⟨b_a2, 0, none⟩), .pointer (some ⟨b_a3, 0, none⟩), .pointer (some ⟨b_a4, 0, none⟩), .pointer (some ⟨b_a5, 0, none⟩), .pointer (some ⟨b_a6, 0, none⟩)]) rfl ⟨rfl, rfl, trivial⟩ Try.call61 (ih h41 w0 _ M _ (List.Sublist.cons _ hM) (hs_a2.mono hF33 (List.Sublist.refl _)) (hs_a3.mono hF33 (List.Sublist.refl _))) (fun F43 L' v hF44 hv => ?_)
    obtain ⟨s42, rfl, rfl⟩ := hv
    refine Lst.nil ?_
    refine At.in_normal ?_
    refine At.then ?_
    refine Cd.region ?_
    refine Lst.run rfl rfl (by decide) (Ev.incr (by omega) rfl rfl) ?_
    refine Lst.run rfl rfl (by decide) (Ev.move rfl) ?_
    refine Lst.nil ?_
    refine At.front (i := 5) rfl rfl ?_
    refine At.front (i := 5) rfl rfl ?_
    refine At.front (i := 5) rfl rfl ?_
    refine At.front (i := 5) rfl rfl ?_
    refine At.front (i := 5) rfl rfl ?_
    refine At.front (i := 5) rfl rfl ?_
    refine At.front (i := 6) rfl rfl ?_
    exact At.meet (i28 + 1, k28, p38, s42, r40) (FLe.trans hF33 hF44) ⟨rfl, rfl, rfl, rfl, rfl, trivial⟩ rfl ⟨⟨hgo28 _ (some_inj H).symm, by omega⟩, Nat.lt_succ_self _⟩
theorem partref_Cuts_1_sim {fu : Nat} {a0 : Vector Int 6} {a1 : Int} {a2 : List Event} {a3 : List (Vector Int 6)} {a4 : List (Vector Int 6)} {a5 : Vector Int 6} {b_a2 : Nat} {s_a2 : Sl} {b_a3 : Nat} {s_a3 : Sl} {b_a4 : Nat} {s_a4 : Sl} {b_a5 : Nat} {b_a6 : Nat} {r : (List (Vector Int 6))} (H : partref_Cuts_1 fu a0 a1 a2 a3 a4 a5 = some r) (w0 : World) (F : Frz) (M L : List Item) (hM : M.Sublist L) (hs_a2 : Rd w0 F M s_a2 a2) (hs_a3 : Rd w0 F M s_a3 a3) : Ok Try.prog w0 61 [.agg (enc a0).toArray, .int .i64 a1, .pointer (some ⟨b_a2, 0, none⟩), .pointer (some ⟨b_a3, 0, none⟩), .pointer (some ⟨b_a4, 0, none⟩), .pointer (some ⟨b_a5, 0, none⟩), .pointer (some ⟨b_a6, 0, none⟩)] F ((.blk b_a2 (enc s_a2) 24) :: (.blk b_a3 (enc s_a3) 28) :: (.own s_a4 23 6 (encs a4)) :: (.blk b_a4 (enc s_a4) 28) :: (.blk b_a5 (enc a5) 23) :: (.blk b_a6 [.func (.func 61) #[] #[.pointer (some ⟨b_a2, 0, none⟩), .pointer (some ⟨b_a3, 0, none⟩), .pointer (some ⟨b_a4, 0, none⟩), .pointer (some ⟨b_a5, 0, none⟩), .pointer (some ⟨b_a6, 0, none⟩)]] 95) :: L) (fun _ L' v => ∃ (s7 : Sl), v = .tuple #[] ∧ L' = (.blk b_a2 (enc s_a2) 24) :: (.blk b_a3 (enc s_a3) 28) :: (.own s7 23 6 (encs r)) :: (.blk b_a4 (enc s7) 28) :: (.blk b_a5 (enc a5) 23) :: (.blk b_a6 [.func (.func 61) #[] #[.pointer (some ⟨b_a2, 0, none⟩), .pointer (some ⟨b_a3, 0, none⟩), .pointer (some ⟨b_a4, 0, none⟩), .pointer (some ⟨b_a5, 0, none⟩), .pointer (some ⟨b_a6, 0, none⟩)]] 95) :: L) :=
  partref_Cuts_1_simR fu H w0 F M L hM hs_a2 hs_a3
set_option maxRecDepth 20000 in
theorem partref_Cuts_sim {fu : Nat} {a0 : List Event} {s_a0 : Sl} {r : (List (Vector Int 6))} (H : partref_Cuts fu a0 = some r) (w0 : World) (F : Frz) (M L : List Item) (hM : M.Sublist L) (hs_a0 : Rd w0 F M s_a0 a0) : Ok Try.prog w0 37 [Sl.v s_a0] F (L) (fun _ L' v => ∃ (s1 : Sl), v = Sl.v s1 ∧ L' = (.own s1 23 6 (encs r)) :: L) := by
  unfold partref_Cuts at H
  refine Ok.enter (m := 1) (n := 16) Try.func37 rfl rfl rfl (by decide) ?_
  refine Cd.env (e' := [(0, Sl.v s_a0)]) rfl ?_
  refine Cd.seq ?_
  refine Cd.region ?_
  refine Lst.box rfl rfl (by decide) rfl (cs := enc s_a0) rfl (fun b1 => ?_)
  refine Lst.addNil 23 6 ?_
  refine Lst.run rfl rfl (by decide) (Ev.assign rfl) ?_
  refine Lst.nil ?_
  refine At.then ?_
  refine Cd.seq ?_
  refine Cd.region ?_
  refine Lst.run rfl rfl (by decide) (Ev.load (i := 1) rfl rfl Try.isAgg24 (v := Sl.v s_a0) (Get.here _)) ?_
  obtain ⟨r4, h5, H⟩ := bind_some H
  refine Lst.call rfl rfl (by decide) (vs := [Sl.v s_a0]) ⟨rfl, trivial⟩ Try.call18 (partref_Vectors_sim h5 w0 _ M _ (List.Sublist.cons _ (List.Sublist.cons _ hM)) (hs_a0.mono (FLe.refl _) (List.Sublist.refl _))) (fun F8 L' v hF9 hv => ?_)
  obtain ⟨s6, rfl, rfl⟩ := hv
  refine Lst.addNil 23 6 ?_
  refine Lst.alloc (cs := enc Sl.nil) rfl rfl (by decide) Try.zeroValue28 rfl (fun b11 => ?_)
  refine Lst.store (i := 0) rfl rfl rfl rfl rfl Try.sizeOf28 (vs := [Sl.v s6]) rfl rfl rfl (cs' := enc s6) (Put.here (vs := [Sl.v s6]) rfl) (L' := (.blk b11 (enc s6) 28) :: (.own Sl.nil 23 6 (encs ([] : List (Vector Int 6)))) :: (.own s6 23 6 (encs r4)) :: (.own Sl.nil 23 6 (encs ([] : List (Vector Int 6)))) :: (.blk b1 (enc s_a0) 24) :: L) rfl ?_
  refine Lst.nil ?_
  refine At.then ?_
  refine Cd.seq ?_
  refine Cd.region ?_
  refine Lst.run rfl rfl (by decide) (Ev.load (i := 4) rfl rfl Try.isAgg24 (v := Sl.v s_a0) (Get.here _)) ?_
  obtain ⟨r13, h14, H⟩ := bind_some H
  refine Lst.call1 rfl rfl (by decide) (vs := [Sl.v s_a0]) ⟨rfl, trivial⟩ Try.call54 (partref_Sizes_sim h14 w0 _ M _ (List.Sublist.cons _ (List.Sublist.cons _ (List.Sublist.cons _ (List.Sublist.cons _ (List.Sublist.cons _ hM))))) (hs_a0.mono hF9 (List.Sublist.refl _))) ?_
  refine Lst.alloc (cs := enc (Vector.replicate 6 (0 : Int))) rfl rfl (by decide) Try.zeroValue23 rfl (fun b17 => ?_)
  refine Lst.store (i := 0) rfl rfl rfl rfl rfl Try.sizeOf23 (vs := enc r13) rfl (Enc.len _) (Enc.one _) (cs' := enc r13) (Put.here ((Enc.len _).trans (Enc.len _).symm)) (L' := (.blk b17 (enc r13) 23) :: (.blk b11 (enc s6) 28) :: (.own Sl.nil 23 6 (encs ([] : List (Vector Int 6)))) :: (.own s6 23 6 (encs r4)) :: (.own Sl.nil 23 6 (encs ([] : List (Vector Int 6)))) :: (.blk b1 (enc s_a0) 24) :: L) rfl ?_
  refine Lst.nil ?_
  refine At.then ?_
  refine Cd.seq ?_
  refine Cd.region ?_
  refine Lst.addNil 23 6 ?_
  refine Lst.alloc (cs := enc Sl.nil) rfl rfl (by decide) Try.zeroValue28 rfl (fun b20 => ?_)
  refine Lst.nil ?_
  refine At.then ?_
  refine Cd.seq ?_
  refine Cd.region ?_
  refine Lst.alloc (cs := [.nilFunc]) rfl rfl (by decide) Try.zeroValue95 rfl (fun b22 => ?_)
  refine Lst.nil ?_
  refine At.then ?_
  refine Cd.seq ?_
  refine Cd.region ?_
  refine Lst.run rfl rfl (by decide) (Ev.makeFunc (us := []) (vs := [.pointer (some ⟨b1, 0, none⟩), .pointer (some ⟨b11, 0, none⟩), .pointer (some ⟨b20, 0, none⟩), .pointer (some ⟨b17, 0, none⟩), .pointer (some ⟨b22, 0, none⟩)]) trivial ⟨rfl, rfl, rfl, rfl, rfl, trivial⟩) ?_
  refine Lst.store (i := 0) rfl rfl rfl rfl rfl Try.sizeOf95 (vs := [.func (.func 61) #[] #[.pointer (some ⟨b1, 0, none⟩), .pointer (some ⟨b11, 0, none⟩), .pointer (some ⟨b20, 0, none⟩), .pointer (some ⟨b17, 0, none⟩), .pointer (some ⟨b22, 0, none⟩)]]) rfl rfl rfl (cs' := [.func (.func 61) #[] #[.pointer (some ⟨b1, 0, none⟩), .pointer (some ⟨b11, 0, none⟩), .pointer (some ⟨b20, 0, none⟩), .pointer (some ⟨b17, 0, none⟩), .pointer (some ⟨b22, 0, none⟩)]]) (Put.here (vs := [.func (.func 61) #[] #[.pointer (some ⟨b1, 0, none⟩), .pointer (some ⟨b11, 0, none⟩), .pointer (some ⟨b20, 0, none⟩), .pointer (some ⟨b17, 0, none⟩), .pointer (some ⟨b22, 0, none⟩)]]) rfl) (L' := (.blk b22 [.func (.func 61) #[] #[.pointer (some ⟨b1, 0, none⟩), .pointer (some ⟨b11, 0, none⟩), .pointer (some ⟨b20, 0, none⟩), .pointer (some ⟨b17, 0, none⟩), .pointer (some ⟨b22, 0, none⟩)]] 95) :: (.blk b20 (enc Sl.nil) 28) :: (.own Sl.nil 23 6 (encs ([] : List (Vector Int 6)))) :: (.blk b17 (enc r13) 23) :: (.blk b11 (enc s6) 28) :: (.own Sl.nil 23 6 (encs ([] : List (Vector Int 6)))) :: (.own s6 23 6 (encs r4)) :: (.own Sl.nil 23 6 (encs ([] : List (Vector Int 6)))) :: (.blk b1 (enc s_a0) 24) :: L) rfl ?_
  refine Lst.nil ?_
  refine At.then ?_
  refine Cd.seq ?_
  refine Cd.region ?_
  refine Lst.run rfl rfl (by decide) (Ev.load (i := 0) rfl rfl Try.isAgg95 (v := .func (.func 61) #[] #[.pointer (some ⟨b1, 0, none⟩), .pointer (some ⟨b11, 0, none⟩), .pointer (some ⟨b20, 0, none⟩), .pointer (some ⟨b17, 0, none⟩), .pointer (some ⟨b22, 0, none⟩)]) (Get.here _)) ?_
  refine Lst.run rfl rfl (by decide) (Ev.build (v := .agg (enc ((Vector.replicate 6 (0 : Int)) : Vector Int 6)).toArray) (pv := []) trivial (fun w => by kernel_rfl)) ?_
  obtain ⟨r24, h25, H⟩ := bind_some H
  refine Lst.front (i := 3) rfl (L' := (.blk b17 (enc r13) 23) :: (.blk b22 [.func (.func 61) #[] #[.pointer (some ⟨b1, 0, none⟩), .pointer (some ⟨b11, 0, none⟩), .pointer (some ⟨b20, 0, none⟩), .pointer (some ⟨b17, 0, none⟩), .pointer (some ⟨b22, 0, none⟩)]] 95) :: (.blk b20 (enc Sl.nil) 28) :: (.own Sl.nil 23 6 (encs ([] : List (Vector Int 6)))) :: (.blk b11 (enc s6) 28) :: (.own Sl.nil 23 6 (encs ([] : List (Vector Int 6)))) :: (.own s6 23 6 (encs r4)) :: (.own Sl.nil 23 6 (encs ([] : List (Vector Int 6)))) :: (.blk b1 (enc s_a0) 24) :: L) rfl ?_
  refine Lst.front (i := 2) rfl (L' := (.blk b20 (enc Sl.nil) 28) :: (.blk b17 (enc r13) 23) :: (.blk b22 [.func (.func 61) #[] #[.pointer (some ⟨b1, 0, none⟩), .pointer (some ⟨b11, 0, none⟩), .pointer (some ⟨b20, 0, none⟩), .pointer (some ⟨b17, 0, none⟩), .pointer (some ⟨b22, 0, none⟩)]] 95) :: (.own Sl.nil 23 6 (encs ([] : List (Vector Int 6)))) :: (.blk b11 (enc s6) 28) :: (.own Sl.nil 23 6 (encs ([] : List (Vector Int 6)))) :: (.own s6 23 6 (encs r4)) :: (.own Sl.nil 23 6 (encs ([] : List (Vector Int 6)))) :: (.blk b1 (enc s_a0) 24) :: L) rfl ?_
  refine Lst.front (i := 3) rfl (L' := (.own Sl.nil 23 6 (encs ([] : List (Vector Int 6)))) :: (.blk b20 (enc Sl.nil) 28) :: (.blk b17 (enc r13) 23) :: (.blk b22 [.func (.func 61) #[] #[.pointer (some ⟨b1, 0, none⟩), .pointer (some ⟨b11, 0, none⟩), .pointer (some ⟨b20, 0, none⟩), .pointer (some ⟨b17, 0, none⟩), .pointer (some ⟨b22, 0, none⟩)]] 95) :: (.blk b11 (enc s6) 28) :: (.own Sl.nil 23 6 (encs ([] : List (Vector Int 6)))) :: (.own s6 23 6 (encs r4)) :: (.own Sl.nil 23 6 (encs ([] : List (Vector Int 6)))) :: (.blk b1 (enc s_a0) 24) :: L) rfl ?_
  refine Lst.front (i := 4) rfl (L' := (.blk b11 (enc s6) 28) :: (.own Sl.nil 23 6 (encs ([] : List (Vector Int 6)))) :: (.blk b20 (enc Sl.nil) 28) :: (.blk b17 (enc r13) 23) :: (.blk b22 [.func (.func 61) #[] #[.pointer (some ⟨b1, 0, none⟩), .pointer (some ⟨b11, 0, none⟩), .pointer (some ⟨b20, 0, none⟩), .pointer (some ⟨b17, 0, none⟩), .pointer (some ⟨b22, 0, none⟩)]] 95) :: (.own Sl.nil 23 6 (encs ([] : List (Vector Int 6)))) :: (.own s6 23 6 (encs r4)) :: (.own Sl.nil 23 6 (encs ([] : List (Vector Int 6)))) :: (.blk b1 (enc s_a0) 24) :: L) rfl ?_
  refine Lst.front (i := 8) rfl (L' := (.blk b1 (enc s_a0) 24) :: (.blk b11 (enc s6) 28) :: (.own Sl.nil 23 6 (encs ([] : List (Vector Int 6)))) :: (.blk b20 (enc Sl.nil) 28) :: (.blk b17 (enc r13) 23) :: (.blk b22 [.func (.func 61) #[] #[.pointer (some ⟨b1, 0, none⟩), .pointer (some ⟨b11, 0, none⟩), .pointer (some ⟨b20, 0, none⟩), .pointer (some ⟨b17, 0, none⟩), .pointer (some ⟨b22, 0, none⟩)]] 95) :: (.own Sl.nil 23 6 (encs ([] : List (Vector Int 6)))) :: (.own s6 23 6 (encs r4)) :: (.own Sl.nil 23 6 (encs ([] : List (Vector Int 6)))) :: L) rfl ?_
  refine Lst.callV rfl rfl (by decide) (vs := [.agg (enc ((Vector.replicate 6 (0 : Int)) : Vector Int 6)).toArray, .int .i64 (0 : Int)]) (cs := [.pointer (some ⟨b1, 0, none⟩), .pointer (some ⟨b11, 0, none⟩), .pointer (some ⟨b20, 0, none⟩), .pointer (some ⟨b17, 0, none⟩), .pointer (some ⟨b22, 0, none⟩)]) rfl ⟨rfl, rfl, trivial⟩ Try.call61 (partref_Cuts_1_sim h25 w0 _ _ _ (List.Sublist.refl _) (hs_a0.mono hF9 (List.Sublist.cons _ (List.Sublist.cons _ (List.Sublist.cons _ hM)))) (Rd.own (i := 1) rfl rfl rfl)) (fun F27 L' v hF28 hv => ?_)
  obtain ⟨s26, rfl, rfl⟩ := hv
  refine Lst.nil ?_
  refine At.then ?_
  refine Cd.seq ?_
  refine Cd.region ?_
  refine Lst.run rfl rfl (by decide) (Ev.load (i := 3) rfl rfl Try.isAgg28 (v := Sl.v s26) (Get.here _)) ?_
  refine Lst.run rfl rfl (by decide) (Ev.assign rfl) ?_
  refine Lst.nil ?_
  refine At.then ?_
  obtain rfl := some_inj H
  refine Cd.ret ?_
  exact At.ret1 rfl (Res.tmp rfl) (FLe.trans hF9 hF28) (List.Sublist.cons _ (List.Sublist.cons _ (List.Sublist.cons_cons _ (List.Sublist.cons _ (List.Sublist.cons _ (List.Sublist.cons _ (List.Sublist.cons _ (List.Sublist.cons _ (List.Sublist.cons _ (List.Sublist.refl _)))))))))) ⟨s26, rfl, rfl⟩
set_option maxRecDepth 20000 in
theorem slices_Equal_api_Vector_api_Vector_sim {a0 : List (Vector Int 6)} {a1 : List (Vector Int 6)} {s_a0 : Sl} {s_a1 : Sl} {r : Bool} (H : slices_Equal_api_Vector_api_Vector a0 a1 = some r) (w0 : World) (F : Frz) (M L : List Item) (hM : M.Sublist L) (hs_a0 : Rd w0 F M s_a0 a0) (hs_a1 : Rd w0 F M s_a1 a1) : Ok Try.prog w0 17 [Sl.v s_a0, Sl.v s_a1] F (L) (Is (.bool r) (L)) := by
  unfold slices_Equal_api_Vector_api_Vector at H
  refine Ok.enter (m := 2) (n := 26) Try.func17 rfl rfl rfl (by decide) ?_
  refine Cd.env (e' := [(0, Sl.v s_a0), (1, Sl.v s_a1)]) rfl ?_
  refine Cd.seq ?_
  refine Cd.region ?_
  refine Lst.run rfl rfl (by decide) (Ev.assign rfl) ?_
  refine Lst.nil ?_
  refine At.then ?_
  refine Cd.seq ?_
  refine Cd.seq ?_
  refine Cd.region ?_
  refine Lst.run rfl rfl (by decide) (Ev.move rfl) ?_
  refine Lst.run rfl rfl (by decide) (Ev.lenS (α := Vector Int 6) (xs := a0) (by decide) rfl rfl Try.runUnderlying28 (hs_a0.mono (FLe.refl _) hM)) ?_
  refine Lst.run rfl rfl (by decide) (Ev.move rfl) ?_
  refine Lst.run rfl rfl (by decide) (Ev.lenS (α := Vector Int 6) (xs := a1) (by decide) rfl rfl Try.runUnderlying28 (hs_a1.mono (FLe.refl _) hM)) ?_
  refine Lst.run rfl rfl (by decide) (Ev.neq rfl rfl) ?_
  refine Lst.nil ?_
  refine At.then ?_
  rcases Bool.eq_false_or_eq_true ((a0.length : Int) != (a1.length : Int)) with hb1 | hb1
  · replace H := ite_t hb1 H
    refine Cd.condT rfl hb1 ?_
    refine Cd.seq ?_
    refine Cd.region ?_
    refine Lst.run rfl rfl (by decide) (Ev.assign rfl) ?_
    refine Lst.nil ?_
    refine At.then ?_
    obtain rfl := some_inj H
    refine Cd.ret ?_
    refine At.then_ret ?_
    exact At.ret1 rfl (Res.tmp rfl) (FLe.refl _) (List.Sublist.refl _) ⟨rfl, rfl⟩
  replace H := ite_f hb1 H
  refine Cd.condF rfl hb1 ?_
  refine Cd.skip ?_
  refine At.then ?_
  refine Cd.seq ?_
  refine Cd.seq ?_
  refine Cd.region ?_
  refine Lst.run rfl rfl (by decide) (Ev.move rfl) ?_
  refine Lst.run rfl rfl (by decide) (Ev.lenS (α := Vector Int 6) (xs := a0) (by decide) rfl rfl Try.runUnderlying28 (hs_a0.mono (FLe.refl _) hM)) ?_
  refine Lst.run rfl rfl (by decide) (Ev.move rfl) ?_
  refine Lst.nil ?_
  refine At.then ?_
  refine Cd.block ?_
  refine Cd.bound (Rd.le (α := Vector Int 6) (xs := a0) (by decide) (hs_a0.mono (FLe.refl _) hM)) (fun hN12 => ?_)
  obtain ⟨ol2, H, HKl2⟩ := andThen_some H
  refine Cd.loop (σ := Nat × Nat × Unit) (fun (i2, k2, _u) => [(0, Sl.v s_a0), (1, Sl.v s_a1), (12, .int .i64 (a0.length : Int)), (13, .int .i64 (i2 : Int))]) (fun (i2, k2, _u) => L) (fun _ => (fun (i2, k2, _u) => rangeM (slices_Equal_api_Vector_api_Vector_B0 a0 a1) k2 i2 () = some ol2 ∧ i2 + k2 = a0.length)) (fun (i2, k2, _u) => k2) (0, a0.length, ()) ⟨rfl, rfl, rfl, rfl, trivial⟩ rfl ⟨H, by omega⟩ ?_
  rintro F3 ⟨i2, k2, _u⟩ hF4 ⟨H, hik2⟩
  refine Cd.as (e' := [(0, Sl.v s_a0), (1, Sl.v s_a1), (12, .int .i64 (a0.length : Int)), (13, .int .i64 (i2 : Int))]) (L' := L) ⟨rfl, rfl, rfl, rfl, trivial⟩ rfl ?_
  rcases k2 with _ | k2
  · have hc2 : decide ((i2 : Int) < (a0.length : Int)) = false := decide_eq_false (by omega)
    replace H := rangeM_end H
    refine Cd.seq ?_
    refine Cd.region ?_
    refine Lst.run rfl rfl (by decide) (Ev.lss rfl rfl) ?_
    refine Lst.nil ?_
    refine At.then ?_
    refine Cd.seq ?_
    refine Cd.condF rfl hc2 ?_
    refine Cd.exit ?_
    refine At.then_exit ?_
    refine At.then_exit ?_
    refine At.in_exit ?_
    subst H
    replace H := HKl2
    refine At.then ?_
    refine Cd.seq ?_
    refine Cd.region ?_
    refine Lst.run rfl rfl (by decide) (Ev.assign rfl) ?_
    refine Lst.nil ?_
    refine At.then ?_
    obtain rfl := some_inj H
    refine Cd.ret ?_
    exact At.ret1 rfl (Res.tmp rfl) hF4 (List.Sublist.refl _) ⟨rfl, rfl⟩
  have hc2 : decide ((i2 : Int) < (a0.length : Int)) = true := decide_eq_true (by omega)
  obtain ⟨c2, H, hgo2, hbrk2, hret2⟩ := rangeM_go H
  unfold slices_Equal_api_Vector_api_Vector_B0 at H
  try dsimp only at H
  refine Cd.seq ?_
  refine Cd.region ?_
  refine Lst.run rfl rfl (by decide) (Ev.lss rfl rfl) ?_
  refine Lst.nil ?_
  refine At.then ?_
  refine Cd.seq ?_
  refine Cd.condT rfl hc2 ?_
  refine Cd.skip ?_
  refine At.then ?_
  refine Cd.seq ?_
  refine Cd.block ?_
  refine Cd.seq ?_
  refine Cd.region ?_
  refine Lst.run rfl rfl (by decide) (Ev.move rfl) ?_
  refine Lst.run rfl rfl (by decide) (Ev.assign rfl) ?_
  refine Lst.nil ?_
  refine At.then ?_
  refine Cd.seq ?_
  refine Cd.quiet (by kernel_rfl) (by kernel_rfl) ?_
  refine Qt.run rfl rfl (by decide) (Ev.move rfl) ?_
  refine Qt.run rfl rfl (by decide) (Ev.move rfl) ?_
  obtain ⟨x5, h6, H⟩ := bind_some H
  have g7 := lat_some h6
  refine Qt.run rfl rfl (by decide) (Ev.indexS (α := Vector Int 6) (xs := a0) rfl rfl Try.runUnderlying28 Try.sizeOf23 rfl (by decide) (hs_a0.mono hF4 hM) g7.1 g7.2.1) ?_
  refine Qt.run rfl rfl (by decide) (Ev.loadSA (α := Vector Int 6) rfl (hs_a0.mono hF4 hM) Try.isAgg23 Try.sizeOf23 (ch := enc x5) (Enc.len _) (by decide) ((Get.elemN (s := 6) (x := x5) rfl g7.2.2 (Get.here _)).off (by omega))) ?_
  refine Qt.run rfl rfl (by decide) (Ev.move rfl) ?_
  refine Qt.run rfl rfl (by decide) (Ev.move rfl) ?_
  obtain ⟨x8, h9, H⟩ := bind_some H
  have g10 := lat_some h9
  refine Qt.run rfl rfl (by decide) (Ev.indexS (α := Vector Int 6) (xs := a1) rfl rfl Try.runUnderlying28 Try.sizeOf23 rfl (by decide) (hs_a1.mono hF4 hM) g10.1 g10.2.1) ?_
  refine Qt.run rfl rfl (by decide) (Ev.loadSA (α := Vector Int 6) rfl (hs_a1.mono hF4 hM) Try.isAgg23 Try.sizeOf23 (ch := enc x8) (Enc.len _) (by decide) ((Get.elemN (s := 6) (x := x8) rfl g10.2.2 (Get.here _)).off (by omega))) ?_
  refine Qt.run rfl rfl (by decide) (Ev.neqA rfl rfl (by kernel_rfl) (eq23 _ _)) ?_
  refine Qt.done ?_
  refine At.then ?_
  rcases Bool.eq_false_or_eq_true (!(decide (x5 = x8))) with hb11 | hb11
  · replace H := ite_t hb11 H
    refine Cd.condT rfl hb11 ?_
    refine Cd.seq ?_
    refine Cd.as (e' := []) (L' := L) trivial rfl ?_
    refine Cd.region ?_
    refine Lst.run rfl rfl (by decide) (Ev.assign rfl) ?_
    refine Lst.nil ?_
    refine At.then ?_
    have H := hret2 _ (some_inj H).symm
    subst H
    replace H := HKl2
    obtain rfl := some_inj H
    refine Cd.ret ?_
    refine At.in_ret ?_
    refine At.then_ret ?_
    refine At.then_ret ?_
    refine At.in_ret ?_
    refine At.then_ret ?_
    exact At.ret1 rfl (Res.tmp rfl) hF4 (List.Sublist.refl _) ⟨rfl, rfl⟩
  replace H := ite_f hb11 H
  refine Cd.condF rfl hb11 ?_
  refine Cd.skip ?_
  refine At.in_normal ?_
  refine At.then ?_
  refine Cd.region ?_
  refine Lst.run rfl rfl (by decide) (Ev.incr (by omega) rfl rfl) ?_
  refine Lst.run rfl rfl (by decide) (Ev.move rfl) ?_
  refine Lst.nil ?_
  exact At.meet (i2 + 1, k2, ()) hF4 ⟨rfl, rfl, rfl, rfl, trivial⟩ rfl ⟨⟨hgo2 _ (some_inj H).symm, by omega⟩, Nat.lt_succ_self _⟩
set_option maxRecDepth 20000 in
theorem partlaw_CutAll_sim {fu : Nat} {a0 : List Event} {s_a0 : Sl} {r : Bool} (H : partlaw_CutAll fu a0 = some r) (w0 : World) (F : Frz) (M L : List Item) (hM : M.Sublist L) (hs_a0 : Rd w0 F M s_a0 a0) : Ok Try.prog w0 6 [Sl.v s_a0] F (L) (Is (.bool r) (L)) := by
  unfold partlaw_CutAll at H
  refine Ok.enter (m := 1) (n := 38) Try.func6 rfl rfl rfl (by decide) ?_
  refine Cd.env (e' := [(0, Sl.v s_a0)]) rfl ?_
  refine Cd.seq ?_
  refine Cd.region ?_
  refine Lst.run rfl rfl (by decide) (Ev.assign rfl) ?_
  refine Lst.nil ?_
  refine At.then ?_
  refine Cd.seq ?_
  refine Cd.region ?_
  refine Lst.run rfl rfl (by decide) (Ev.move rfl) ?_
  obtain ⟨r1, h2, H⟩ := bind_some H
  refine Lst.call1 rfl rfl (by decide) (vs := [Sl.v s_a0]) ⟨rfl, trivial⟩ Try.call16 (partref_HistoryErr_sim h2 w0 _ M _ hM (hs_a0.mono (FLe.refl _) (List.Sublist.refl _))) ?_
  refine Lst.run rfl rfl (by decide) (Ev.assign rfl) ?_
  refine Lst.nil ?_
  refine At.then ?_
  refine Cd.seq ?_
  refine Cd.region ?_
  refine Lst.run rfl rfl (by decide) (Ev.move rfl) ?_
  obtain ⟨r5, h6, H⟩ := bind_some H
  refine Lst.call rfl rfl (by decide) (vs := [Sl.v s_a0]) ⟨rfl, trivial⟩ Try.call35 (cut_All_sim h6 w0 _ M _ hM (hs_a0.mono (FLe.refl _) (List.Sublist.refl _))) (fun F9 L' v hF10 hv => ?_)
  obtain ⟨s7, rfl, rfl⟩ := hv
  refine Lst.run rfl rfl (by decide) (Ev.move rfl) ?_
  refine Lst.run rfl rfl (by decide) (Ev.extract rfl rfl) ?_
  refine Lst.run rfl rfl (by decide) (Ev.extract rfl rfl) ?_
  refine Lst.run rfl rfl (by decide) (Ev.assign rfl) ?_
  refine Lst.run rfl rfl (by decide) (Ev.assign rfl) ?_
  refine Lst.nil ?_
  refine At.then ?_
  obtain ⟨o12, H, HKo12⟩ := bind_some H
  refine Cd.join (σ := Int) (fun y11 => [(0, Sl.v s_a0), (3, .int .i64 y11), (4, Sl.v s7), (5, .int .i64 r5.2)]) (fun y11 => (.own s7 23 6 (encs r5.1)) :: L) (fun _ y11 => y11 = o12) ?_ ?_
  · refine Cd.seq ?_
    refine Cd.region ?_
    refine Lst.run rfl rfl (by decide) (Ev.move rfl) ?_
    refine Lst.run rfl rfl (by decide) (Ev.eql rfl rfl) ?_
    refine Lst.run rfl rfl (by decide) (Ev.move rfl) ?_
    obtain ⟨o13, H, HKo13⟩ := bind_some H
    refine Lst.join (σ := Bool) 4 (fun y14 => [(0, Sl.v s_a0), (3, .int .i64 r1), (4, Sl.v s7), (5, .int .i64 r5.2), (19, .bool y14)]) (fun y14 => (.own s7 23 6 (encs r5.1)) :: L) (fun _ y14 => y14 = o13) ?_ ?_
    · rcases (Bool.eq_false_or_eq_true (r1 == (0 : Int))).symm with hb15 | hb15
      · replace H := ite_f hb15 H
        refine Lst.skip rfl rfl rfl hb15 rfl (by decide) ?_
        refine Lst.skip rfl rfl rfl hb15 rfl (by decide) ?_
        refine Lst.skip rfl rfl rfl hb15 rfl (by decide) ?_
        refine Lst.run rfl rfl (by decide) (Ev.pickF rfl hb15 rfl) ?_
        refine Lst.nil ?_
        exact At.meet false (FLe.refl _) ⟨rfl, rfl, rfl, rfl, rfl, trivial⟩ rfl (some_inj H)
      replace H := ite_t hb15 H
      refine Lst.runG rfl rfl rfl hb15 rfl (by decide) (Ev.move rfl) ?_
      obtain ⟨r16, h17, H⟩ := bind_some H
      refine Lst.call1G rfl rfl rfl hb15 rfl (by decide) (vs := [Sl.v s_a0]) ⟨rfl, trivial⟩ Try.call36 (partref_Room_sim h17 w0 _ M _ (List.Sublist.cons _ hM) (hs_a0.mono hF10 (List.Sublist.refl _))) ?_
      refine Lst.runG rfl rfl rfl hb15 rfl (by decide) (Ev.gtr rfl rfl) ?_
      refine Lst.run rfl rfl (by decide) (Ev.pickT rfl hb15 rfl) ?_
      refine Lst.nil ?_
      exact At.meet (decide (r16 > (4096 : Int))) (FLe.refl _) ⟨rfl, rfl, rfl, rfl, rfl, trivial⟩ rfl (some_inj H)
    rintro F20 y14 hF21 hy
    subst hy
    refine Lst.as (e' := [(0, Sl.v s_a0), (3, .int .i64 r1), (4, Sl.v s7), (5, .int .i64 r5.2), (19, .bool y14)]) (L' := (.own s7 23 6 (encs r5.1)) :: L) ⟨rfl, rfl, rfl, rfl, rfl, trivial⟩ rfl ?_
    replace H := HKo13
    refine Lst.nil ?_
    refine At.then ?_
    rcases (Bool.eq_false_or_eq_true y14).symm with hb22 | hb22
    · replace H := ite_f hb22 H
      refine Cd.condF rfl hb22 ?_
      refine Cd.skip ?_
      exact At.meet r1 hF21 ⟨rfl, rfl, rfl, rfl, trivial⟩ rfl (some_inj H)
    replace H := ite_t hb22 H
    refine Cd.condT rfl hb22 ?_
    refine Cd.region ?_
    refine Lst.run rfl rfl (by decide) (Ev.assign rfl) ?_
    refine Lst.nil ?_
    exact At.meet (2 : Int) hF21 ⟨rfl, rfl, rfl, rfl, trivial⟩ rfl (some_inj H)
  rintro F23 y11 hF24 hy
  subst hy
  refine Cd.as (e' := [(0, Sl.v s_a0), (3, .int .i64 y11), (4, Sl.v s7), (5, .int .i64 r5.2)]) (L' := (.own s7 23 6 (encs r5.1)) :: L) ⟨rfl, rfl, rfl, rfl, trivial⟩ rfl ?_
  replace H := HKo12
  refine Cd.seq ?_
  refine Cd.seq ?_
  refine Cd.region ?_
  refine Lst.run rfl rfl (by decide) (Ev.move rfl) ?_
  refine Lst.run rfl rfl (by decide) (Ev.neq rfl rfl) ?_
  refine Lst.nil ?_
  refine At.then ?_
  rcases Bool.eq_false_or_eq_true (y11 != (0 : Int)) with hb25 | hb25
  · replace H := ite_t hb25 H
    refine Cd.condT rfl hb25 ?_
    refine Cd.seq ?_
    refine Cd.region ?_
    refine Lst.run rfl rfl (by decide) (Ev.move rfl) ?_
    refine Lst.run rfl rfl (by decide) (Ev.lenS (α := Vector Int 6) (xs := r5.1) (by decide) rfl rfl Try.runUnderlying28 (Rd.own (i := 0) rfl rfl rfl)) ?_
    refine Lst.run rfl rfl (by decide) (Ev.eql rfl rfl) ?_
    refine Lst.run rfl rfl (by decide) (Ev.move rfl) ?_
    obtain ⟨o26, H, HKo26⟩ := bind_some H
    refine Lst.join (σ := Bool) 4 (fun y27 => [(29, .bool y27)]) (fun y27 => (.own s7 23 6 (encs r5.1)) :: L) (fun _ y27 => y27 = o26) ?_ ?_
    · rcases (Bool.eq_false_or_eq_true ((r5.1.length : Int) == (0 : Int))).symm with hb28 | hb28
      · replace H := ite_f hb28 H
        refine Lst.skip rfl rfl rfl hb28 rfl (by decide) ?_
        refine Lst.skip rfl rfl rfl hb28 rfl (by decide) ?_
        refine Lst.skip rfl rfl rfl hb28 rfl (by decide) ?_
        refine Lst.run rfl rfl (by decide) (Ev.pickF rfl hb28 rfl) ?_
        refine Lst.nil ?_
        exact At.meet false (FLe.refl _) ⟨rfl, trivial⟩ rfl (some_inj H)
      replace H := ite_t hb28 H
      refine Lst.runG rfl rfl rfl hb28 rfl (by decide) (Ev.move rfl) ?_
      refine Lst.runG rfl rfl rfl hb28 rfl (by decide) (Ev.move rfl) ?_
      refine Lst.runG rfl rfl rfl hb28 rfl (by decide) (Ev.eql rfl rfl) ?_
      refine Lst.run rfl rfl (by decide) (Ev.pickT rfl hb28 rfl) ?_
      refine Lst.nil ?_
      exact At.meet (r5.2 == y11) (FLe.refl _) ⟨rfl, trivial⟩ rfl (some_inj H)
    rintro F29 y27 hF30 hy
    subst hy
    refine Lst.as (e' := [(29, .bool y27)]) (L' := (.own s7 23 6 (encs r5.1)) :: L) ⟨rfl, trivial⟩ rfl ?_
    replace H := HKo26
    refine Lst.run rfl rfl (by decide) (Ev.assign rfl) ?_
    refine Lst.nil ?_
    refine At.then ?_
    obtain rfl := some_inj H
    refine Cd.ret ?_
    refine At.then_ret ?_
    exact At.ret1 rfl (Res.tmp rfl) (FLe.trans (FLe.trans hF10 hF24) hF30) (List.Sublist.cons _ (List.Sublist.refl _)) ⟨rfl, rfl⟩
  replace H := ite_f hb25 H
  refine Cd.condF rfl hb25 ?_
  refine Cd.skip ?_
  refine At.then ?_
  refine Cd.seq ?_
  refine Cd.region ?_
  refine Lst.run rfl rfl (by decide) (Ev.move rfl) ?_
  refine Lst.run rfl rfl (by decide) (Ev.move rfl) ?_
  obtain ⟨r31, h32, H⟩ := bind_some H
  refine Lst.call rfl rfl (by decide) (vs := [Sl.v s_a0]) ⟨rfl, trivial⟩ Try.call37 (partref_Cuts_sim h32 w0 _ M _ (List.Sublist.cons _ hM) (hs_a0.mono (FLe.trans hF10 hF24) (List.Sublist.refl _))) (fun F35 L' v hF36 hv => ?_)
  obtain ⟨s33, rfl, rfl⟩ := hv
  obtain ⟨r37, h38, H⟩ := bind_some H
  refine Lst.call1 rfl rfl (by decide) (vs := [Sl.v s7, Sl.v s33]) ⟨rfl, rfl, trivial⟩ Try.call17 (slices_Equal_api_Vector_api_Vector_sim h38 w0 _ _ _ (List.Sublist.refl _) (Rd.own (i := 1) rfl rfl rfl) (Rd.own (i := 0) rfl rfl rfl)) ?_
  refine Lst.run rfl rfl (by decide) (Ev.move rfl) ?_
  obtain ⟨o41, H, HKo41⟩ := bind_some H
  refine Lst.join (σ := Bool) 3 (fun y42 => [(37, .bool y42)]) (fun y42 => (.own s33 23 6 (encs r31)) :: (.own s7 23 6 (encs r5.1)) :: L) (fun _ y42 => y42 = o41) ?_ ?_
  · rcases (Bool.eq_false_or_eq_true r37).symm with hb43 | hb43
    · replace H := ite_f hb43 H
      refine Lst.skip rfl rfl rfl hb43 rfl (by decide) ?_
      refine Lst.skip rfl rfl rfl hb43 rfl (by decide) ?_
      refine Lst.run rfl rfl (by decide) (Ev.pickF rfl hb43 rfl) ?_
      refine Lst.nil ?_
      exact At.meet false (FLe.refl _) ⟨rfl, trivial⟩ rfl (some_inj H)
    replace H := ite_t hb43 H
    refine Lst.runG rfl rfl rfl hb43 rfl (by decide) (Ev.move rfl) ?_
    refine Lst.runG rfl rfl rfl hb43 rfl (by decide) (Ev.eql rfl rfl) ?_
    refine Lst.run rfl rfl (by decide) (Ev.pickT rfl hb43 rfl) ?_
    refine Lst.nil ?_
    exact At.meet (r5.2 == (0 : Int)) (FLe.refl _) ⟨rfl, trivial⟩ rfl (some_inj H)
  rintro F44 y42 hF45 hy
  subst hy
  refine Lst.as (e' := [(37, .bool y42)]) (L' := (.own s33 23 6 (encs r31)) :: (.own s7 23 6 (encs r5.1)) :: L) ⟨rfl, trivial⟩ rfl ?_
  replace H := HKo41
  refine Lst.run rfl rfl (by decide) (Ev.assign rfl) ?_
  refine Lst.nil ?_
  refine At.then ?_
  obtain rfl := some_inj H
  refine Cd.ret ?_
  exact At.ret1 rfl (Res.tmp rfl) (FLe.trans (FLe.trans (FLe.trans hF10 hF24) hF36) hF45) (List.Sublist.cons _ (List.Sublist.cons _ (List.Sublist.refl _))) ⟨rfl, rfl⟩
end Go.Proofs.Ytclmlddmgccfjaa
