/-
  The functions compute their specs; printed by a program.
-/
import Derived.Test.YtclmlddmgccfjaaStSp
import Derived.Test.YtclmlddmgccfjaaGoL
import Derived.Test.YtclmlddmgccfjaaGoK
import Derived.Test.YtclmlddmgccfjaaGoI
import Derived.Test.YtclmlddmgccfjaaGoU
import Derived.Test.YtclmlddmgccfjaaGoM
import Derived.Test.YtclmlddmgccfjaaGoS
import Derived.Test.YtclmlddmgccfjaaGoR
import Derived.Test.YtclmlddmgccfjaaProg
namespace Go.Proofs.Ytclmlddmgccfjaa
open Go.RowKit Enc
set_option linter.unusedVariables false
set_option linter.unusedSimpArgs false
set_option maxRecDepth 20000 in
theorem eq46 (x y : Pair) : ∀ w, (Op.equal 46 (.agg (enc x).toArray) (.agg (enc y).toArray)).run Try.prog w = .ok (decide (x = y)) w :=
  EqT.top (d := 10000) Try.isAgg46 Try.sizeOf46 rfl rfl (EqT.struct Try.isAgg46 Try.sizeOf46 rfl Try.runUnderlying46 (by kernel_rfl) (fun x y w => by
  refine Eq.trans (eqField (p := x.A) (q := y.A) rfl (EqT.int Try.isAgg3 Try.runUnderlying3) rfl ((Pair.get_A (Get.here _)).off rfl) ((Pair.get_A (Get.here _)).off rfl) (eqField (p := x.B) (q := y.B) rfl (EqT.int Try.isAgg3 Try.runUnderlying3) rfl ((Pair.get_B (Get.here _)).off rfl) ((Pair.get_B (Get.here _)).off rfl) (by rfl))) ?_
  congr 1
  rw [Bool.eq_iff_iff]; cases x; cases y; simp)) x y
set_option maxRecDepth 20000 in
theorem eq75 (x y : Event) : ∀ w, (Op.equal 75 (.agg (enc x).toArray) (.agg (enc y).toArray)).run Try.prog w = .ok (decide (x = y)) w :=
  EqT.top (d := 10000) Try.isAgg75 Try.sizeOf75 rfl rfl (EqT.struct Try.isAgg75 Try.sizeOf75 rfl Try.runUnderlying75 (by kernel_rfl) (fun x y w => by
  refine Eq.trans (eqField (p := x.Proc) (q := y.Proc) rfl (EqT.int Try.isAgg3 Try.runUnderlying3) rfl ((Event.get_Proc (Get.here _)).off rfl) ((Event.get_Proc (Get.here _)).off rfl) (eqField (p := x.Kind) (q := y.Kind) rfl (EqT.int Try.isAgg3 Try.runUnderlying3) rfl ((Event.get_Kind (Get.here _)).off rfl) ((Event.get_Kind (Get.here _)).off rfl) (eqField (p := x.Msg) (q := y.Msg) rfl (EqT.int Try.isAgg3 Try.runUnderlying3) rfl ((Event.get_Msg (Get.here _)).off rfl) ((Event.get_Msg (Get.here _)).off rfl) (by rfl)))) ?_
  congr 1
  rw [Bool.eq_iff_iff]; cases x; cases y; simp)) x y
set_option maxRecDepth 20000 in
theorem partref_HistoryErr_sim {a0 : List Event} {s_a0 : Sl} {r : Int} (H : partref_HistoryErr a0 = some r) (w0 : World) (F : Frz) (M L : List Item) (hM : M.Sublist L) (hs_a0 : Rd w0 F M s_a0 a0) : Ok Try.prog w0 16 [Sl.v s_a0] F (L) (Is (.int .i64 r) (L)) := by
  unfold partref_HistoryErr at H
  refine Ok.enter (m := 1) (n := 100) Try.func16 rfl rfl rfl (by decide) ?_
  refine Cd.env (e' := [(0, Sl.v s_a0)]) rfl ?_
  refine Cd.seq ?_
  refine Cd.region ?_
  refine Lst.run rfl rfl (by decide) (Ev.assign rfl) ?_
  refine Lst.nil ?_
  refine At.then ?_
  refine Cd.seq ?_
  refine Cd.seq ?_
  refine Cd.region ?_
  refine Lst.run rfl rfl (by decide) (Ev.move rfl) ?_
  refine Lst.run rfl rfl (by decide) (Ev.lenS (α := Event) (xs := a0) (by decide) rfl rfl Try.runUnderlying24 (hs_a0.mono (FLe.refl _) hM)) ?_
  refine Lst.run rfl rfl (by decide) (Ev.gtr rfl rfl) ?_
  refine Lst.nil ?_
  refine At.then ?_
  rcases Bool.eq_false_or_eq_true (decide ((a0.length : Int) > (60 : Int))) with hb1 | hb1
  · replace H := ite_t hb1 H
    refine Cd.condT rfl hb1 ?_
    refine Cd.seq ?_
    refine Cd.region ?_
    refine Lst.run rfl rfl (by decide) (Ev.assign rfl) ?_
    refine Lst.nil ?_
    refine At.then ?_
    obtain rfl := some_inj H
    refine Cd.ret ?_
    refine At.then_ret ?_
    exact At.ret1 rfl (Res.tmp rfl) (FLe.refl _) (List.Sublist.refl _) ⟨rfl, rfl⟩
  replace H := ite_f hb1 H
  refine Cd.condF rfl hb1 ?_
  refine Cd.skip ?_
  refine At.then ?_
  refine Cd.seq ?_
  refine Cd.seq ?_
  refine Cd.region ?_
  refine Lst.run rfl rfl (by decide) (Ev.move rfl) ?_
  refine Lst.run rfl rfl (by decide) (Ev.lenS (α := Event) (xs := a0) (by decide) rfl rfl Try.runUnderlying24 (hs_a0.mono (FLe.refl _) hM)) ?_
  refine Lst.run rfl rfl (by decide) (Ev.move rfl) ?_
  refine Lst.nil ?_
  refine At.then ?_
  refine Cd.block ?_
  refine Cd.bound (Rd.le (α := Event) (xs := a0) (by decide) (hs_a0.mono (FLe.refl _) hM)) (fun hN85 => ?_)
  obtain ⟨ol2, H, HKl2⟩ := andThen_some H
  refine Cd.loop (σ := Nat × Nat × Unit) (fun (i2, k2, _u) => [(0, Sl.v s_a0), (12, Sl.v s_a0), (13, .int .i64 (a0.length : Int)), (14, .int .i64 (i2 : Int))]) (fun (i2, k2, _u) => L) (fun _ => (fun (i2, k2, _u) => rangeM (partref_HistoryErr_B0 a0) k2 i2 () = some ol2 ∧ i2 + k2 = a0.length)) (fun (i2, k2, _u) => k2) (0, a0.length, ()) ⟨rfl, rfl, rfl, rfl, trivial⟩ rfl ⟨H, by omega⟩ ?_
  rintro F3 ⟨i2, k2, _u⟩ hF4 ⟨H, hik2⟩
  refine Cd.as (e' := [(0, Sl.v s_a0), (12, Sl.v s_a0), (13, .int .i64 (a0.length : Int)), (14, .int .i64 (i2 : Int))]) (L' := L) ⟨rfl, rfl, rfl, rfl, trivial⟩ rfl ?_
  rcases k2 with _ | k2
  · have hc2 : decide ((i2 : Int) < (a0.length : Int)) = false := decide_eq_false (by omega)
    replace H := rangeM_end H
    refine Cd.seq ?_
    refine Cd.region ?_
    refine Lst.run rfl rfl (by decide) (Ev.lss rfl rfl) ?_
    refine Lst.nil ?_
    refine At.then ?_
    refine Cd.seq ?_
    refine Cd.condF rfl hc2 ?_
    refine Cd.exit ?_
    refine At.then_exit ?_
    refine At.then_exit ?_
    refine At.in_exit ?_
    subst H
    replace H := HKl2
    refine At.then ?_
    refine Cd.seq ?_
    refine Cd.region ?_
    refine Lst.run rfl rfl (by decide) (Ev.assign rfl) ?_
    refine Lst.nil ?_
    refine At.then ?_
    obtain rfl := some_inj H
    refine Cd.ret ?_
    exact At.ret1 rfl (Res.tmp rfl) hF4 (List.Sublist.refl _) ⟨rfl, rfl⟩
  have hc2 : decide ((i2 : Int) < (a0.length : Int)) = true := decide_eq_true (by omega)
  obtain ⟨c2, H, hgo2, hbrk2, hret2⟩ := rangeM_go H
  unfold partref_HistoryErr_B0 at H
  try dsimp only at H
  refine Cd.seq ?_
  refine Cd.region ?_
  refine Lst.run rfl rfl (by decide) (Ev.lss rfl rfl) ?_
  refine Lst.nil ?_
  refine At.then ?_
  refine Cd.seq ?_
  refine Cd.condT rfl hc2 ?_
  refine Cd.skip ?_
  refine At.then ?_
  refine Cd.seq ?_
  refine Cd.block ?_
  refine Cd.seq ?_
  refine Cd.region ?_
  refine Lst.run rfl rfl (by decide) (Ev.move rfl) ?_
  obtain ⟨x5, h6, H⟩ := bind_some H
  have g7 := lat_some h6
  refine Lst.run rfl rfl (by decide) (Ev.indexS (α := Event) (xs := a0) rfl rfl Try.runUnderlying24 Try.sizeOf75 rfl (by decide) (hs_a0.mono hF4 hM) g7.1 g7.2.1) ?_
  refine Lst.run rfl rfl (by decide) (Ev.loadSA (α := Event) rfl (hs_a0.mono hF4 hM) Try.isAgg75 Try.sizeOf75 (ch := enc x5) (Enc.len _) (by decide) ((Get.elemN (s := 3) (x := x5) rfl g7.2.2 (Get.here _)).off (by omega))) ?_
  refine Lst.alloc (cs := enc Event.zero) rfl rfl (by decide) Try.zeroValue75 rfl (fun b8 => ?_)
  refine Lst.run rfl rfl (by decide) (Ev.assign rfl) ?_
  refine Lst.store (i := 0) rfl rfl rfl rfl rfl Try.sizeOf75 (vs := enc x5) rfl (Enc.len _) (Enc.one _) (cs' := enc x5) (Put.here ((Enc.len _).trans (Enc.len _).symm)) (L' := (.blk b8 (enc x5) 75) :: L) rfl ?_
  refine Lst.nil ?_
  refine At.then ?_
  refine Cd.seq ?_
  refine Cd.seq ?_
  refine Cd.region ?_
  refine Lst.run rfl rfl (by decide) (Ev.fieldAddr (off' := 0) rfl Try.runUnderlying75 rfl Try.sizeOf3 rfl rfl) ?_
  refine Lst.run rfl rfl (by decide) (Ev.load (i := 0) rfl rfl Try.isAgg3 (v := .int .i64 x5.Proc) ((Event.get_Proc (Get.here _)).off (by rfl))) ?_
  refine Lst.run rfl rfl (by decide) (Ev.lss rfl rfl) ?_
  refine Lst.run rfl rfl (by decide) (Ev.move rfl) ?_
  obtain ⟨o10, H, HKo10⟩ := bind_some H
  refine Lst.join (σ := Bool) 4 (fun y11 => [(0, Sl.v s_a0), (3, .int .i64 (i2 : Int)), (4, .pointer (some ⟨b8, 0, none⟩)), (12, Sl.v s_a0), (13, .int .i64 (a0.length : Int)), (14, .int .i64 (i2 : Int)), (26, .bool y11)]) (fun y11 => (.blk b8 (enc x5) 75) :: L) (fun _ y11 => y11 = o10) ?_ ?_
  · rcases Bool.eq_false_or_eq_true (decide (x5.Proc < (0 : Int))) with hb12 | hb12
    · replace H := ite_t hb12 H
      refine Lst.skip rfl rfl rfl hb12 rfl (by decide) ?_
      refine Lst.skip rfl rfl rfl hb12 rfl (by decide) ?_
      refine Lst.skip rfl rfl rfl hb12 rfl (by decide) ?_
      refine Lst.run rfl rfl (by decide) (Ev.pickT rfl hb12 rfl) ?_
      refine Lst.nil ?_
      exact At.meet true (FLe.refl _) ⟨rfl, rfl, rfl, rfl, rfl, rfl, rfl, trivial⟩ rfl (some_inj H)
    replace H := ite_f hb12 H
    refine Lst.runG rfl rfl rfl hb12 rfl (by decide) (Ev.fieldAddr (off' := 0) rfl Try.runUnderlying75 rfl Try.sizeOf3 rfl rfl) ?_
    refine Lst.runG rfl rfl rfl hb12 rfl (by decide) (Ev.load (i := 0) rfl rfl Try.isAgg3 (v := .int .i64 x5.Proc) ((Event.get_Proc (Get.here _)).off (by rfl))) ?_
    refine Lst.runG rfl rfl rfl hb12 rfl (by decide) (Ev.gtr rfl rfl) ?_
    refine Lst.run rfl rfl (by decide) (Ev.pickF rfl hb12 rfl) ?_
    refine Lst.nil ?_
    exact At.meet (decide (x5.Proc > (5 : Int))) (FLe.refl _) ⟨rfl, rfl, rfl, rfl, rfl, rfl, rfl, trivial⟩ rfl (some_inj H)
  rintro F13 y11 hF14 hy
  subst hy
  refine Lst.as (e' := [(0, Sl.v s_a0), (3, .int .i64 (i2 : Int)), (4, .pointer (some ⟨b8, 0, none⟩)), (12, Sl.v s_a0), (13, .int .i64 (a0.length : Int)), (14, .int .i64 (i2 : Int)), (26, .bool y11)]) (L' := (.blk b8 (enc x5) 75) :: L) ⟨rfl, rfl, rfl, rfl, rfl, rfl, rfl, trivial⟩ rfl ?_
  replace H := HKo10
  refine Lst.run rfl rfl (by decide) (Ev.move rfl) ?_
  obtain ⟨o15, H, HKo15⟩ := bind_some H
  refine Lst.join (σ := Bool) 4 (fun y16 => [(0, Sl.v s_a0), (3, .int .i64 (i2 : Int)), (4, .pointer (some ⟨b8, 0, none⟩)), (12, Sl.v s_a0), (13, .int .i64 (a0.length : Int)), (14, .int .i64 (i2 : Int)), (31, .bool y16)]) (fun y16 => (.blk b8 (enc x5) 75) :: L) (fun _ y16 => y16 = o15) ?_ ?_
  · rcases Bool.eq_false_or_eq_true y11 with hb17 | hb17
    · replace H := ite_t hb17 H
      refine Lst.skip rfl rfl rfl hb17 rfl (by decide) ?_
      refine Lst.skip rfl rfl rfl hb17 rfl (by decide) ?_
      refine Lst.skip rfl rfl rfl hb17 rfl (by decide) ?_
      refine Lst.run rfl rfl (by decide) (Ev.pickT rfl hb17 rfl) ?_
      refine Lst.nil ?_
      exact At.meet true (FLe.refl _) ⟨rfl, rfl, rfl, rfl, rfl, rfl, rfl, trivial⟩ rfl (some_inj H)
    replace H := ite_f hb17 H
    refine Lst.runG rfl rfl rfl hb17 rfl (by decide) (Ev.fieldAddr (off' := 2) rfl Try.runUnderlying75 rfl Try.sizeOf3 rfl rfl) ?_
    refine Lst.runG rfl rfl rfl hb17 rfl (by decide) (Ev.load (i := 0) rfl rfl Try.isAgg3 (v := .int .i64 x5.Msg) ((Event.get_Msg (Get.here _)).off (by rfl))) ?_
    refine Lst.runG rfl rfl rfl hb17 rfl (by decide) (Ev.lss rfl rfl) ?_
    refine Lst.run rfl rfl (by decide) (Ev.pickF rfl hb17 rfl) ?_
    refine Lst.nil ?_
    exact At.meet (decide (x5.Msg < (0 : Int))) (FLe.refl _) ⟨rfl, rfl, rfl, rfl, rfl, rfl, rfl, trivial⟩ rfl (some_inj H)
  rintro F18 y16 hF19 hy
  subst hy
  refine Lst.as (e' := [(0, Sl.v s_a0), (3, .int .i64 (i2 : Int)), (4, .pointer (some ⟨b8, 0, none⟩)), (12, Sl.v s_a0), (13, .int .i64 (a0.length : Int)), (14, .int .i64 (i2 : Int)), (31, .bool y16)]) (L' := (.blk b8 (enc x5) 75) :: L) ⟨rfl, rfl, rfl, rfl, rfl, rfl, rfl, trivial⟩ rfl ?_
  replace H := HKo15
  refine Lst.run rfl rfl (by decide) (Ev.move rfl) ?_
  obtain ⟨o20, H, HKo20⟩ := bind_some H
  refine Lst.join (σ := Bool) 4 (fun y21 => [(0, Sl.v s_a0), (3, .int .i64 (i2 : Int)), (4, .pointer (some ⟨b8, 0, none⟩)), (12, Sl.v s_a0), (13, .int .i64 (a0.length : Int)), (14, .int .i64 (i2 : Int)), (36, .bool y21)]) (fun y21 => (.blk b8 (enc x5) 75) :: L) (fun _ y21 => y21 = o20) ?_ ?_
  · rcases Bool.eq_false_or_eq_true y16 with hb22 | hb22
    · replace H := ite_t hb22 H
      refine Lst.skip rfl rfl rfl hb22 rfl (by decide) ?_
      refine Lst.skip rfl rfl rfl hb22 rfl (by decide) ?_
      refine Lst.skip rfl rfl rfl hb22 rfl (by decide) ?_
      refine Lst.run rfl rfl (by decide) (Ev.pickT rfl hb22 rfl) ?_
      refine Lst.nil ?_
      exact At.meet true (FLe.refl _) ⟨rfl, rfl, rfl, rfl, rfl, rfl, rfl, trivial⟩ rfl (some_inj H)
    replace H := ite_f hb22 H
    refine Lst.runG rfl rfl rfl hb22 rfl (by decide) (Ev.fieldAddr (off' := 2) rfl Try.runUnderlying75 rfl Try.sizeOf3 rfl rfl) ?_
    refine Lst.runG rfl rfl rfl hb22 rfl (by decide) (Ev.load (i := 0) rfl rfl Try.isAgg3 (v := .int .i64 x5.Msg) ((Event.get_Msg (Get.here _)).off (by rfl))) ?_
    refine Lst.runG rfl rfl rfl hb22 rfl (by decide) (Ev.gtr rfl rfl) ?_
    refine Lst.run rfl rfl (by decide) (Ev.pickF rfl hb22 rfl) ?_
    refine Lst.nil ?_
    exact At.meet (decide (x5.Msg > (29 : Int))) (FLe.refl _) ⟨rfl, rfl, rfl, rfl, rfl, rfl, rfl, trivial⟩ rfl (some_inj H)
  rintro F23 y21 hF24 hy
  subst hy
  refine Lst.as (e' := [(0, Sl.v s_a0), (3, .int .i64 (i2 : Int)), (4, .pointer (some ⟨b8, 0, none⟩)), (12, Sl.v s_a0), (13, .int .i64 (a0.length : Int)), (14, .int .i64 (i2 : Int)), (36, .bool y21)]) (L' := (.blk b8 (enc x5) 75) :: L) ⟨rfl, rfl, rfl, rfl, rfl, rfl, rfl, trivial⟩ rfl ?_
  replace H := HKo20
  refine Lst.nil ?_
  refine At.then ?_
  rcases Bool.eq_false_or_eq_true y21 with hb25 | hb25
  · replace H := ite_t hb25 H
    refine Cd.condT rfl hb25 ?_
    refine Cd.seq ?_
    refine Cd.region ?_
    refine Lst.run rfl rfl (by decide) (Ev.assign rfl) ?_
    refine Lst.nil ?_
    refine At.then ?_
    have H := hret2 _ (some_inj H).symm
    subst H
    replace H := HKl2
    obtain rfl := some_inj H
    refine Cd.ret ?_
    refine At.then_ret ?_
    refine At.in_ret ?_
    refine At.then_ret ?_
    refine At.then_ret ?_
    refine At.in_ret ?_
    refine At.then_ret ?_
    exact At.ret1 rfl (Res.tmp rfl) (FLe.trans (FLe.trans (FLe.trans hF4 hF14) hF19) hF24) (List.Sublist.cons _ (List.Sublist.refl _)) ⟨rfl, rfl⟩
  replace H := ite_f hb25 H
  refine Cd.condF rfl hb25 ?_
  refine Cd.skip ?_
  refine At.then ?_
  refine Cd.seq ?_
  refine Cd.region ?_
  refine Lst.run rfl rfl (by decide) (Ev.assign rfl) ?_
  refine Lst.run rfl rfl (by decide) (Ev.assign rfl) ?_
  refine Lst.nil ?_
  refine At.then ?_
  refine Cd.seq ?_
  refine Cd.seq ?_
  refine Cd.region ?_
  refine Lst.run rfl rfl (by decide) (Ev.move rfl) ?_
  refine Lst.run rfl rfl (by decide) (Ev.move rfl) ?_
  obtain ⟨m26, h27, H⟩ := bind_some H
  obtain ⟨g28, gl29⟩ := cutL_some h27
  have hq30 : Rd w0 F M (s_a0.cut (0 : Int).toNat ((i2 : Int) : Int).toNat 3) m26 := by rw [← gl29]; exact Rd.cut (by decide) hs_a0 (by omega) (by omega)
  refine Lst.run rfl rfl (by decide) (Ev.cut (α := Event) (xs := a0) (i := 0) (j := (i2 : Int)) rfl rfl rfl Try.runUnderlying24 Try.sizeOf75 rfl (by decide) (hs_a0.mono (FLe.trans (FLe.trans (FLe.trans hF4 hF14) hF19) hF24) (List.Sublist.cons _ hM)) g28.1 g28.2.1 g28.2.2) ?_
  refine Lst.run rfl rfl (by decide) (Ev.lenS (α := Event) (xs := m26) (by decide) rfl rfl Try.runUnderlying24 (hq30.mono (FLe.trans (FLe.trans (FLe.trans hF4 hF14) hF19) hF24) (List.Sublist.cons _ hM))) ?_
  refine Lst.run rfl rfl (by decide) (Ev.move rfl) ?_
  refine Lst.nil ?_
  refine At.then ?_
  refine Cd.block ?_
  refine Cd.bound (Rd.le (α := Event) (xs := m26) (by decide) (hq30.mono (FLe.trans (FLe.trans (FLe.trans hF4 hF14) hF19) hF24) (List.Sublist.cons _ hM))) (fun hN84 => ?_)
  obtain ⟨ol31, H, HKl31⟩ := bind_some H
  refine Cd.loop (σ := Nat × Nat × Int × Bool) (fun (i31, k31, y32, y33) => [(0, Sl.v s_a0), (4, .pointer (some ⟨b8, 0, none⟩)), (5, .int .i64 y32), (6, .bool y33), (12, Sl.v s_a0), (13, .int .i64 (a0.length : Int)), (14, .int .i64 (i2 : Int)), (39, Sl.v (s_a0.cut (0 : Int).toNat ((i2 : Int) : Int).toNat 3)), (40, .int .i64 (m26.length : Int)), (41, .int .i64 (i31 : Int))]) (fun (i31, k31, y32, y33) => (.blk b8 (enc x5) 75) :: L) (fun _ => (fun (i31, k31, y32, y33) => rangeF (partref_HistoryErr_B2 x5 m26) k31 i31 (y32, y33) = some ol31 ∧ i31 + k31 = m26.length)) (fun (i31, k31, y32, y33) => k31) (0, m26.length, (-1 : Int), false) ⟨rfl, rfl, rfl, rfl, rfl, rfl, rfl, rfl, rfl, rfl, trivial⟩ rfl ⟨H, by omega⟩ ?_
  rintro F34 ⟨i31, k31, y32, y33⟩ hF35 ⟨H, hik31⟩
  refine Cd.as (e' := [(0, Sl.v s_a0), (4, .pointer (some ⟨b8, 0, none⟩)), (5, .int .i64 y32), (6, .bool y33), (12, Sl.v s_a0), (13, .int .i64 (a0.length : Int)), (14, .int .i64 (i2 : Int)), (39, Sl.v (s_a0.cut (0 : Int).toNat ((i2 : Int) : Int).toNat 3)), (40, .int .i64 (m26.length : Int)), (41, .int .i64 (i31 : Int))]) (L' := (.blk b8 (enc x5) 75) :: L) ⟨rfl, rfl, rfl, rfl, rfl, rfl, rfl, rfl, rfl, rfl, trivial⟩ rfl ?_
  rcases k31 with _ | k31
  · have hc31 : decide ((i31 : Int) < (m26.length : Int)) = false := decide_eq_false (by omega)
    replace H := rangeF_end H
    refine Cd.seq ?_
    refine Cd.region ?_
    refine Lst.run rfl rfl (by decide) (Ev.lss rfl rfl) ?_
    refine Lst.nil ?_
    refine At.then ?_
    refine Cd.seq ?_
    refine Cd.condF rfl hc31 ?_
    refine Cd.exit ?_
    refine At.then_exit ?_
    refine At.then_exit ?_
    refine At.in_exit ?_
    subst H
    replace H := HKl31
    refine At.then ?_
    refine Cd.block ?_
    refine Cd.seq ?_
    refine Cd.region ?_
    refine Lst.run rfl rfl (by decide) (Ev.fieldAddr (off' := 1) rfl Try.runUnderlying75 rfl Try.sizeOf3 rfl rfl) ?_
    refine Lst.run rfl rfl (by decide) (Ev.load (i := 0) rfl rfl Try.isAgg3 (v := .int .i64 x5.Kind) ((Event.get_Kind (Get.here _)).off (by rfl))) ?_
    refine Lst.run rfl rfl (by decide) (Ev.eql rfl rfl) ?_
    refine Lst.run rfl rfl (by decide) (Ev.move rfl) ?_
    obtain ⟨o56, H, HKo56⟩ := bind_some H
    refine Lst.join (σ := Bool) 4 (fun y57 => [(0, Sl.v s_a0), (4, .pointer (some ⟨b8, 0, none⟩)), (5, .int .i64 y32), (6, .bool y33), (12, Sl.v s_a0), (13, .int .i64 (a0.length : Int)), (14, .int .i64 (i2 : Int)), (72, .bool y57)]) (fun y57 => (.blk b8 (enc x5) 75) :: L) (fun _ y57 => y57 = o56) ?_ ?_
    · rcases (Bool.eq_false_or_eq_true (x5.Kind == (1 : Int))).symm with hb58 | hb58
      · replace H := ite_f hb58 H
        refine Lst.skip rfl rfl rfl hb58 rfl (by decide) ?_
        refine Lst.skip rfl rfl rfl hb58 rfl (by decide) ?_
        refine Lst.skip rfl rfl rfl hb58 rfl (by decide) ?_
        refine Lst.run rfl rfl (by decide) (Ev.pickF rfl hb58 rfl) ?_
        refine Lst.nil ?_
        exact At.meet false (FLe.refl _) ⟨rfl, rfl, rfl, rfl, rfl, rfl, rfl, rfl, trivial⟩ rfl (some_inj H)
      replace H := ite_t hb58 H
      refine Lst.runG rfl rfl rfl hb58 rfl (by decide) (Ev.fieldAddr (off' := 2) rfl Try.runUnderlying75 rfl Try.sizeOf3 rfl rfl) ?_
      refine Lst.runG rfl rfl rfl hb58 rfl (by decide) (Ev.load (i := 0) rfl rfl Try.isAgg3 (v := .int .i64 x5.Msg) ((Event.get_Msg (Get.here _)).off (by rfl))) ?_
      refine Lst.runG rfl rfl rfl hb58 rfl (by decide) (Ev.eql rfl rfl) ?_
      refine Lst.run rfl rfl (by decide) (Ev.pickT rfl hb58 rfl) ?_
      refine Lst.nil ?_
      exact At.meet (x5.Msg == (0 : Int)) (FLe.refl _) ⟨rfl, rfl, rfl, rfl, rfl, rfl, rfl, rfl, trivial⟩ rfl (some_inj H)
    rintro F59 y57 hF60 hy
    subst hy
    refine Lst.as (e' := [(0, Sl.v s_a0), (4, .pointer (some ⟨b8, 0, none⟩)), (5, .int .i64 y32), (6, .bool y33), (12, Sl.v s_a0), (13, .int .i64 (a0.length : Int)), (14, .int .i64 (i2 : Int)), (72, .bool y57)]) (L' := (.blk b8 (enc x5) 75) :: L) ⟨rfl, rfl, rfl, rfl, rfl, rfl, rfl, rfl, trivial⟩ rfl ?_
    replace H := HKo56
    refine Lst.run rfl rfl (by decide) (Ev.assign rfl) ?_
    refine Lst.nil ?_
    refine At.then ?_
    rcases Bool.eq_false_or_eq_true y57 with hb61 | hb61
    · replace H := ite_t hb61 H
      refine Cd.condT rfl hb61 ?_
      refine Cd.skip ?_
      refine At.in_normal ?_
      refine At.in_normal ?_
      refine At.then ?_
      refine Cd.region ?_
      refine Lst.run rfl rfl (by decide) (Ev.incr (by omega) rfl rfl) ?_
      refine Lst.run rfl rfl (by decide) (Ev.move rfl) ?_
      refine Lst.nil ?_
      refine At.less (L' := L) (List.Sublist.cons _ (List.Sublist.refl _)) ?_
      exact At.meet (i2 + 1, k2, ()) (FLe.trans (FLe.trans (FLe.trans (FLe.trans (FLe.trans hF4 hF14) hF19) hF24) hF35) hF60) ⟨rfl, rfl, rfl, rfl, trivial⟩ rfl ⟨⟨hgo2 _ (some_inj H).symm, by omega⟩, Nat.lt_succ_self _⟩
    replace H := ite_f hb61 H
    refine Cd.condF rfl hb61 ?_
    refine Cd.seq ?_
    refine Cd.region ?_
    refine Lst.run rfl rfl (by decide) (Ev.fieldAddr (off' := 1) rfl Try.runUnderlying75 rfl Try.sizeOf3 rfl rfl) ?_
    refine Lst.run rfl rfl (by decide) (Ev.load (i := 0) rfl rfl Try.isAgg3 (v := .int .i64 x5.Kind) ((Event.get_Kind (Get.here _)).off (by rfl))) ?_
    refine Lst.run rfl rfl (by decide) (Ev.eql rfl rfl) ?_
    refine Lst.run rfl rfl (by decide) (Ev.move rfl) ?_
    obtain ⟨o62, H, HKo62⟩ := bind_some H
    refine Lst.join (σ := Bool) 3 (fun y63 => [(0, Sl.v s_a0), (4, .pointer (some ⟨b8, 0, none⟩)), (5, .int .i64 y32), (6, .bool y33), (12, Sl.v s_a0), (13, .int .i64 (a0.length : Int)), (14, .int .i64 (i2 : Int)), (80, .bool y63)]) (fun y63 => (.blk b8 (enc x5) 75) :: L) (fun _ y63 => y63 = o62) ?_ ?_
    · rcases (Bool.eq_false_or_eq_true (x5.Kind == (2 : Int))).symm with hb64 | hb64
      · replace H := ite_f hb64 H
        refine Lst.skip rfl rfl rfl hb64 rfl (by decide) ?_
        refine Lst.skip rfl rfl rfl hb64 rfl (by decide) ?_
        refine Lst.run rfl rfl (by decide) (Ev.pickF rfl hb64 rfl) ?_
        refine Lst.nil ?_
        exact At.meet false (FLe.refl _) ⟨rfl, rfl, rfl, rfl, rfl, rfl, rfl, rfl, trivial⟩ rfl (some_inj H)
      replace H := ite_t hb64 H
      refine Lst.runG rfl rfl rfl hb64 rfl (by decide) (Ev.move rfl) ?_
      refine Lst.runG rfl rfl rfl hb64 rfl (by decide) (Ev.lss rfl rfl) ?_
      refine Lst.run rfl rfl (by decide) (Ev.pickT rfl hb64 rfl) ?_
      refine Lst.nil ?_
      exact At.meet (decide (y32 < (0 : Int))) (FLe.refl _) ⟨rfl, rfl, rfl, rfl, rfl, rfl, rfl, rfl, trivial⟩ rfl (some_inj H)
    rintro F65 y63 hF66 hy
    subst hy
    refine Lst.as (e' := [(0, Sl.v s_a0), (4, .pointer (some ⟨b8, 0, none⟩)), (5, .int .i64 y32), (6, .bool y33), (12, Sl.v s_a0), (13, .int .i64 (a0.length : Int)), (14, .int .i64 (i2 : Int)), (80, .bool y63)]) (L' := (.blk b8 (enc x5) 75) :: L) ⟨rfl, rfl, rfl, rfl, rfl, rfl, rfl, rfl, trivial⟩ rfl ?_
    replace H := HKo62
    refine Lst.run rfl rfl (by decide) (Ev.assign rfl) ?_
    refine Lst.nil ?_
    refine At.then ?_
    rcases Bool.eq_false_or_eq_true y63 with hb67 | hb67
    · replace H := ite_t hb67 H
      refine Cd.condT rfl hb67 ?_
      refine Cd.skip ?_
      refine At.in_normal ?_
      refine At.in_normal ?_
      refine At.then ?_
      refine Cd.region ?_
      refine Lst.run rfl rfl (by decide) (Ev.incr (by omega) rfl rfl) ?_
      refine Lst.run rfl rfl (by decide) (Ev.move rfl) ?_
      refine Lst.nil ?_
      refine At.less (L' := L) (List.Sublist.cons _ (List.Sublist.refl _)) ?_
      exact At.meet (i2 + 1, k2, ()) (FLe.trans (FLe.trans (FLe.trans (FLe.trans (FLe.trans (FLe.trans hF4 hF14) hF19) hF24) hF35) hF60) hF66) ⟨rfl, rfl, rfl, rfl, trivial⟩ rfl ⟨⟨hgo2 _ (some_inj H).symm, by omega⟩, Nat.lt_succ_self _⟩
    replace H := ite_f hb67 H
    refine Cd.condF rfl hb67 ?_
    refine Cd.seq ?_
    refine Cd.region ?_
    refine Lst.run rfl rfl (by decide) (Ev.fieldAddr (off' := 1) rfl Try.runUnderlying75 rfl Try.sizeOf3 rfl rfl) ?_
    refine Lst.run rfl rfl (by decide) (Ev.load (i := 0) rfl rfl Try.isAgg3 (v := .int .i64 x5.Kind) ((Event.get_Kind (Get.here _)).off (by rfl))) ?_
    refine Lst.run rfl rfl (by decide) (Ev.eql rfl rfl) ?_
    refine Lst.run rfl rfl (by decide) (Ev.move rfl) ?_
    obtain ⟨o68, H, HKo68⟩ := bind_some H
    refine Lst.join (σ := Bool) 3 (fun y69 => [(0, Sl.v s_a0), (4, .pointer (some ⟨b8, 0, none⟩)), (5, .int .i64 y32), (6, .bool y33), (12, Sl.v s_a0), (13, .int .i64 (a0.length : Int)), (14, .int .i64 (i2 : Int)), (88, .bool y69)]) (fun y69 => (.blk b8 (enc x5) 75) :: L) (fun _ y69 => y69 = o68) ?_ ?_
    · rcases (Bool.eq_false_or_eq_true (x5.Kind == (3 : Int))).symm with hb70 | hb70
      · replace H := ite_f hb70 H
        refine Lst.skip rfl rfl rfl hb70 rfl (by decide) ?_
        refine Lst.skip rfl rfl rfl hb70 rfl (by decide) ?_
        refine Lst.run rfl rfl (by decide) (Ev.pickF rfl hb70 rfl) ?_
        refine Lst.nil ?_
        exact At.meet false (FLe.refl _) ⟨rfl, rfl, rfl, rfl, rfl, rfl, rfl, rfl, trivial⟩ rfl (some_inj H)
      replace H := ite_t hb70 H
      refine Lst.runG rfl rfl rfl hb70 rfl (by decide) (Ev.move rfl) ?_
      refine Lst.runG rfl rfl rfl hb70 rfl (by decide) (Ev.geq rfl rfl) ?_
      refine Lst.run rfl rfl (by decide) (Ev.pickT rfl hb70 rfl) ?_
      refine Lst.nil ?_
      exact At.meet (decide (y32 ≥ (0 : Int))) (FLe.refl _) ⟨rfl, rfl, rfl, rfl, rfl, rfl, rfl, rfl, trivial⟩ rfl (some_inj H)
    rintro F71 y69 hF72 hy
    subst hy
    refine Lst.as (e' := [(0, Sl.v s_a0), (4, .pointer (some ⟨b8, 0, none⟩)), (5, .int .i64 y32), (6, .bool y33), (12, Sl.v s_a0), (13, .int .i64 (a0.length : Int)), (14, .int .i64 (i2 : Int)), (88, .bool y69)]) (L' := (.blk b8 (enc x5) 75) :: L) ⟨rfl, rfl, rfl, rfl, rfl, rfl, rfl, rfl, trivial⟩ rfl ?_
    replace H := HKo68
    refine Lst.run rfl rfl (by decide) (Ev.move rfl) ?_
    obtain ⟨o73, H, HKo73⟩ := bind_some H
    refine Lst.join (σ := Bool) 5 (fun y74 => [(0, Sl.v s_a0), (6, .bool y33), (12, Sl.v s_a0), (13, .int .i64 (a0.length : Int)), (14, .int .i64 (i2 : Int)), (94, .bool y74)]) (fun y74 => (.blk b8 (enc x5) 75) :: L) (fun _ y74 => y74 = o73) ?_ ?_
    · rcases (Bool.eq_false_or_eq_true y69).symm with hb75 | hb75
      · replace H := ite_f hb75 H
        refine Lst.skip rfl rfl rfl hb75 rfl (by decide) ?_
        refine Lst.skip rfl rfl rfl hb75 rfl (by decide) ?_
        refine Lst.skip rfl rfl rfl hb75 rfl (by decide) ?_
        refine Lst.skip rfl rfl rfl hb75 rfl (by decide) ?_
        refine Lst.run rfl rfl (by decide) (Ev.pickF rfl hb75 rfl) ?_
        refine Lst.nil ?_
        exact At.meet false (FLe.refl _) ⟨rfl, rfl, rfl, rfl, rfl, rfl, trivial⟩ rfl (some_inj H)
      replace H := ite_t hb75 H
      refine Lst.runG rfl rfl rfl hb75 rfl (by decide) (Ev.move rfl) ?_
      refine Lst.runG rfl rfl rfl hb75 rfl (by decide) (Ev.fieldAddr (off' := 0) rfl Try.runUnderlying75 rfl Try.sizeOf3 rfl rfl) ?_
      refine Lst.runG rfl rfl rfl hb75 rfl (by decide) (Ev.load (i := 0) rfl rfl Try.isAgg3 (v := .int .i64 x5.Proc) ((Event.get_Proc (Get.here _)).off (by rfl))) ?_
      refine Lst.runG rfl rfl rfl hb75 rfl (by decide) (Ev.neq rfl rfl) ?_
      refine Lst.run rfl rfl (by decide) (Ev.pickT rfl hb75 rfl) ?_
      refine Lst.nil ?_
      exact At.meet (y32 != x5.Proc) (FLe.refl _) ⟨rfl, rfl, rfl, rfl, rfl, rfl, trivial⟩ rfl (some_inj H)
    rintro F76 y74 hF77 hy
    subst hy
    refine Lst.as (e' := [(0, Sl.v s_a0), (6, .bool y33), (12, Sl.v s_a0), (13, .int .i64 (a0.length : Int)), (14, .int .i64 (i2 : Int)), (94, .bool y74)]) (L' := (.blk b8 (enc x5) 75) :: L) ⟨rfl, rfl, rfl, rfl, rfl, rfl, trivial⟩ rfl ?_
    replace H := HKo73
    refine Lst.run rfl rfl (by decide) (Ev.move rfl) ?_
    obtain ⟨o78, H, HKo78⟩ := bind_some H
    refine Lst.join (σ := Bool) 3 (fun y79 => [(0, Sl.v s_a0), (12, Sl.v s_a0), (13, .int .i64 (a0.length : Int)), (14, .int .i64 (i2 : Int)), (98, .bool y79)]) (fun y79 => (.blk b8 (enc x5) 75) :: L) (fun _ y79 => y79 = o78) ?_ ?_
    · rcases (Bool.eq_false_or_eq_true y74).symm with hb80 | hb80
      · replace H := ite_f hb80 H
        refine Lst.skip rfl rfl rfl hb80 rfl (by decide) ?_
        refine Lst.skip rfl rfl rfl hb80 rfl (by decide) ?_
        refine Lst.run rfl rfl (by decide) (Ev.pickF rfl hb80 rfl) ?_
        refine Lst.nil ?_
        exact At.meet false (FLe.refl _) ⟨rfl, rfl, rfl, rfl, rfl, trivial⟩ rfl (some_inj H)
      replace H := ite_t hb80 H
      refine Lst.runG rfl rfl rfl hb80 rfl (by decide) (Ev.move rfl) ?_
      refine Lst.runG rfl rfl rfl hb80 rfl (by decide) (Ev.not rfl) ?_
      refine Lst.run rfl rfl (by decide) (Ev.pickT rfl hb80 rfl) ?_
      refine Lst.nil ?_
      exact At.meet (!y33) (FLe.refl _) ⟨rfl, rfl, rfl, rfl, rfl, trivial⟩ rfl (some_inj H)
    rintro F81 y79 hF82 hy
    subst hy
    refine Lst.as (e' := [(0, Sl.v s_a0), (12, Sl.v s_a0), (13, .int .i64 (a0.length : Int)), (14, .int .i64 (i2 : Int)), (98, .bool y79)]) (L' := (.blk b8 (enc x5) 75) :: L) ⟨rfl, rfl, rfl, rfl, rfl, trivial⟩ rfl ?_
    replace H := HKo78
    refine Lst.run rfl rfl (by decide) (Ev.assign rfl) ?_
    refine Lst.nil ?_
    refine At.then ?_
    rcases (Bool.eq_false_or_eq_true y79).symm with hb83 | hb83
    · replace H := ite_f hb83 H
      refine Cd.condF rfl hb83 ?_
      refine Cd.seq ?_
      refine Cd.region ?_
      refine Lst.run rfl rfl (by decide) (Ev.assign rfl) ?_
      refine Lst.nil ?_
      refine At.then ?_
      have H := hret2 _ (some_inj H).symm
      subst H
      replace H := HKl2
      obtain rfl := some_inj H
      refine Cd.ret ?_
      refine At.in_ret ?_
      refine At.in_ret ?_
      refine At.then_ret ?_
      refine At.then_ret ?_
      refine At.in_ret ?_
      refine At.then_ret ?_
      exact At.ret1 rfl (Res.tmp rfl) (FLe.trans (FLe.trans (FLe.trans (FLe.trans (FLe.trans (FLe.trans (FLe.trans (FLe.trans (FLe.trans hF4 hF14) hF19) hF24) hF35) hF60) hF66) hF72) hF77) hF82) (List.Sublist.cons _ (List.Sublist.refl _)) ⟨rfl, rfl⟩
    replace H := ite_t hb83 H
    refine Cd.condT rfl hb83 ?_
    refine Cd.skip ?_
    refine At.in_normal ?_
    refine At.in_normal ?_
    refine At.then ?_
    refine Cd.region ?_
    refine Lst.run rfl rfl (by decide) (Ev.incr (by omega) rfl rfl) ?_
    refine Lst.run rfl rfl (by decide) (Ev.move rfl) ?_
    refine Lst.nil ?_
    refine At.less (L' := L) (List.Sublist.cons _ (List.Sublist.refl _)) ?_
    exact At.meet (i2 + 1, k2, ()) (FLe.trans (FLe.trans (FLe.trans (FLe.trans (FLe.trans (FLe.trans (FLe.trans (FLe.trans (FLe.trans hF4 hF14) hF19) hF24) hF35) hF60) hF66) hF72) hF77) hF82) ⟨rfl, rfl, rfl, rfl, trivial⟩ rfl ⟨⟨hgo2 _ (some_inj H).symm, by omega⟩, Nat.lt_succ_self _⟩
  have hc31 : decide ((i31 : Int) < (m26.length : Int)) = true := decide_eq_true (by omega)
  obtain ⟨c31, H, hgo31⟩ := rangeF_go H
  unfold partref_HistoryErr_B2 at H
  try dsimp only at H
  refine Cd.seq ?_
  refine Cd.region ?_
  refine Lst.run rfl rfl (by decide) (Ev.lss rfl rfl) ?_
  refine Lst.nil ?_
  refine At.then ?_
  refine Cd.seq ?_
  refine Cd.condT rfl hc31 ?_
  refine Cd.skip ?_
  refine At.then ?_
  refine Cd.seq ?_
  refine Cd.block ?_
  refine Cd.seq ?_
  refine Cd.region ?_
  obtain ⟨x36, h37, H⟩ := bind_some H
  have g38 := lat_some h37
  refine Lst.run rfl rfl (by decide) (Ev.indexS (α := Event) (xs := m26) rfl rfl Try.runUnderlying24 Try.sizeOf75 rfl (by decide) (hq30.mono (FLe.trans (FLe.trans (FLe.trans (FLe.trans hF4 hF14) hF19) hF24) hF35) (List.Sublist.cons _ hM)) g38.1 g38.2.1) ?_
  refine Lst.run rfl rfl (by decide) (Ev.loadSA (α := Event) rfl (hq30.mono (FLe.trans (FLe.trans (FLe.trans (FLe.trans hF4 hF14) hF19) hF24) hF35) (List.Sublist.cons _ hM)) Try.isAgg75 Try.sizeOf75 (ch := enc x36) (Enc.len _) (by decide) ((Get.elemN (s := 3) (x := x36) rfl g38.2.2 (Get.here _)).off (by omega))) ?_
  refine Lst.alloc (cs := enc Event.zero) rfl rfl (by decide) Try.zeroValue75 rfl (fun b39 => ?_)
  refine Lst.store (i := 0) rfl rfl rfl rfl rfl Try.sizeOf75 (vs := enc x36) rfl (Enc.len _) (Enc.one _) (cs' := enc x36) (Put.here ((Enc.len _).trans (Enc.len _).symm)) (L' := (.blk b39 (enc x36) 75) :: (.blk b8 (enc x5) 75) :: L) rfl ?_
  refine Lst.nil ?_
  refine At.then ?_
  obtain ⟨o42, H, HKo42⟩ := bind_some H
  refine Cd.join (σ := Int) (fun y41 => [(0, Sl.v s_a0), (4, .pointer (some ⟨b8, 0, none⟩)), (5, .int .i64 y41), (6, .bool y33), (8, .pointer (some ⟨b39, 0, none⟩)), (12, Sl.v s_a0), (13, .int .i64 (a0.length : Int)), (14, .int .i64 (i2 : Int)), (39, Sl.v (s_a0.cut (0 : Int).toNat ((i2 : Int) : Int).toNat 3)), (40, .int .i64 (m26.length : Int)), (41, .int .i64 (i31 : Int))]) (fun y41 => (.blk b39 (enc x36) 75) :: (.blk b8 (enc x5) 75) :: L) (fun _ y41 => y41 = o42) ?_ ?_
  · refine Cd.seq ?_
    refine Cd.region ?_
    refine Lst.run rfl rfl (by decide) (Ev.fieldAddr (off' := 1) rfl Try.runUnderlying75 rfl Try.sizeOf3 rfl rfl) ?_
    refine Lst.run rfl rfl (by decide) (Ev.load (i := 0) rfl rfl Try.isAgg3 (v := .int .i64 x36.Kind) ((Event.get_Kind (Get.here _)).off (by rfl))) ?_
    refine Lst.run rfl rfl (by decide) (Ev.eql rfl rfl) ?_
    refine Lst.run rfl rfl (by decide) (Ev.move rfl) ?_
    obtain ⟨o43, H, HKo43⟩ := bind_some H
    refine Lst.join (σ := Bool) 6 (fun y44 => [(0, Sl.v s_a0), (4, .pointer (some ⟨b8, 0, none⟩)), (5, .int .i64 y32), (6, .bool y33), (8, .pointer (some ⟨b39, 0, none⟩)), (12, Sl.v s_a0), (13, .int .i64 (a0.length : Int)), (14, .int .i64 (i2 : Int)), (39, Sl.v (s_a0.cut (0 : Int).toNat ((i2 : Int) : Int).toNat 3)), (40, .int .i64 (m26.length : Int)), (41, .int .i64 (i31 : Int)), (54, .bool y44)]) (fun y44 => (.blk b39 (enc x36) 75) :: (.blk b8 (enc x5) 75) :: L) (fun _ y44 => y44 = o43) ?_ ?_
    · rcases (Bool.eq_false_or_eq_true (x36.Kind == (2 : Int))).symm with hb45 | hb45
      · replace H := ite_f hb45 H
        refine Lst.skip rfl rfl rfl hb45 rfl (by decide) ?_
        refine Lst.skip rfl rfl rfl hb45 rfl (by decide) ?_
        refine Lst.skip rfl rfl rfl hb45 rfl (by decide) ?_
        refine Lst.skip rfl rfl rfl hb45 rfl (by decide) ?_
        refine Lst.skip rfl rfl rfl hb45 rfl (by decide) ?_
        refine Lst.run rfl rfl (by decide) (Ev.pickF rfl hb45 rfl) ?_
        refine Lst.nil ?_
        exact At.meet false (FLe.refl _) ⟨rfl, rfl, rfl, rfl, rfl, rfl, rfl, rfl, rfl, rfl, rfl, rfl, trivial⟩ rfl (some_inj H)
      replace H := ite_t hb45 H
      refine Lst.runG rfl rfl rfl hb45 rfl (by decide) (Ev.fieldAddr (off' := 2) rfl Try.runUnderlying75 rfl Try.sizeOf3 rfl rfl) ?_
      refine Lst.runG rfl rfl rfl hb45 rfl (by decide) (Ev.load (i := 0) rfl rfl Try.isAgg3 (v := .int .i64 x36.Msg) ((Event.get_Msg (Get.here _)).off (by rfl))) ?_
      refine Lst.runG rfl rfl rfl hb45 rfl (by decide) (Ev.fieldAddr (off' := 2) rfl Try.runUnderlying75 rfl Try.sizeOf3 rfl rfl) ?_
      refine Lst.runG rfl rfl rfl hb45 rfl (by decide) (Ev.load (i := 1) rfl rfl Try.isAgg3 (v := .int .i64 x5.Msg) ((Event.get_Msg (Get.here _)).off (by rfl))) ?_
      refine Lst.runG rfl rfl rfl hb45 rfl (by decide) (Ev.eql rfl rfl) ?_
      refine Lst.run rfl rfl (by decide) (Ev.pickT rfl hb45 rfl) ?_
      refine Lst.nil ?_
      exact At.meet (x36.Msg == x5.Msg) (FLe.refl _) ⟨rfl, rfl, rfl, rfl, rfl, rfl, rfl, rfl, rfl, rfl, rfl, rfl, trivial⟩ rfl (some_inj H)
    rintro F46 y44 hF47 hy
    subst hy
    refine Lst.as (e' := [(0, Sl.v s_a0), (4, .pointer (some ⟨b8, 0, none⟩)), (5, .int .i64 y32), (6, .bool y33), (8, .pointer (some ⟨b39, 0, none⟩)), (12, Sl.v s_a0), (13, .int .i64 (a0.length : Int)), (14, .int .i64 (i2 : Int)), (39, Sl.v (s_a0.cut (0 : Int).toNat ((i2 : Int) : Int).toNat 3)), (40, .int .i64 (m26.length : Int)), (41, .int .i64 (i31 : Int)), (54, .bool y44)]) (L' := (.blk b39 (enc x36) 75) :: (.blk b8 (enc x5) 75) :: L) ⟨rfl, rfl, rfl, rfl, rfl, rfl, rfl, rfl, rfl, rfl, rfl, rfl, trivial⟩ rfl ?_
    replace H := HKo43
    refine Lst.nil ?_
    refine At.then ?_
    rcases (Bool.eq_false_or_eq_true y44).symm with hb48 | hb48
    · replace H := ite_f hb48 H
      refine Cd.condF rfl hb48 ?_
      refine Cd.skip ?_
      exact At.meet y32 hF47 ⟨rfl, rfl, rfl, rfl, rfl, rfl, rfl, rfl, rfl, rfl, rfl, trivial⟩ rfl (some_inj H)
    replace H := ite_t hb48 H
    refine Cd.condT rfl hb48 ?_
    refine Cd.region ?_
    refine Lst.run rfl rfl (by decide) (Ev.fieldAddr (off' := 0) rfl Try.runUnderlying75 rfl Try.sizeOf3 rfl rfl) ?_
    refine Lst.run rfl rfl (by decide) (Ev.load (i := 0) rfl rfl Try.isAgg3 (v := .int .i64 x36.Proc) ((Event.get_Proc (Get.here _)).off (by rfl))) ?_
    refine Lst.run rfl rfl (by decide) (Ev.assign rfl) ?_
    refine Lst.nil ?_
    exact At.meet x36.Proc hF47 ⟨rfl, rfl, rfl, rfl, rfl, rfl, rfl, rfl, rfl, rfl, rfl, trivial⟩ rfl (some_inj H)
  rintro F49 y41 hF50 hy
  subst hy
  refine Cd.as (e' := [(0, Sl.v s_a0), (4, .pointer (some ⟨b8, 0, none⟩)), (5, .int .i64 y41), (6, .bool y33), (8, .pointer (some ⟨b39, 0, none⟩)), (12, Sl.v s_a0), (13, .int .i64 (a0.length : Int)), (14, .int .i64 (i2 : Int)), (39, Sl.v (s_a0.cut (0 : Int).toNat ((i2 : Int) : Int).toNat 3)), (40, .int .i64 (m26.length : Int)), (41, .int .i64 (i31 : Int))]) (L' := (.blk b39 (enc x36) 75) :: (.blk b8 (enc x5) 75) :: L) ⟨rfl, rfl, rfl, rfl, rfl, rfl, rfl, rfl, rfl, rfl, rfl, trivial⟩ rfl ?_
  replace H := HKo42
  refine Cd.region ?_
  refine Lst.run rfl rfl (by decide) (Ev.move rfl) ?_
  refine Lst.run rfl rfl (by decide) (Ev.move rfl) ?_
  obtain ⟨o51, H, HKo51⟩ := bind_some H
  refine Lst.join (σ := Bool) 4 (fun y52 => [(0, Sl.v s_a0), (4, .pointer (some ⟨b8, 0, none⟩)), (5, .int .i64 y41), (6, .bool y33), (12, Sl.v s_a0), (13, .int .i64 (a0.length : Int)), (14, .int .i64 (i2 : Int)), (39, Sl.v (s_a0.cut (0 : Int).toNat ((i2 : Int) : Int).toNat 3)), (40, .int .i64 (m26.length : Int)), (41, .int .i64 (i31 : Int)), (62, .bool y52)]) (fun y52 => (.blk b39 (enc x36) 75) :: (.blk b8 (enc x5) 75) :: L) (fun _ y52 => y52 = o51) ?_ ?_
  · rcases Bool.eq_false_or_eq_true y33 with hb53 | hb53
    · replace H := ite_t hb53 H
      refine Lst.skip rfl rfl rfl hb53 rfl (by decide) ?_
      refine Lst.skip rfl rfl rfl hb53 rfl (by decide) ?_
      refine Lst.skip rfl rfl rfl hb53 rfl (by decide) ?_
      refine Lst.run rfl rfl (by decide) (Ev.pickT rfl hb53 rfl) ?_
      refine Lst.nil ?_
      exact At.meet true (FLe.refl _) ⟨rfl, rfl, rfl, rfl, rfl, rfl, rfl, rfl, rfl, rfl, rfl, trivial⟩ rfl (some_inj H)
    replace H := ite_f hb53 H
    refine Lst.runG rfl rfl rfl hb53 rfl (by decide) (Ev.loadA (i := 0) rfl rfl Try.isAgg75 Try.sizeOf75 (ch := enc x36) (Enc.len _) (Get.here _)) ?_
    refine Lst.runG rfl rfl rfl hb53 rfl (by decide) (Ev.loadA (i := 1) rfl rfl Try.isAgg75 Try.sizeOf75 (ch := enc x5) (Enc.len _) (Get.here _)) ?_
    refine Lst.runG rfl rfl rfl hb53 rfl (by decide) (Ev.eqlA rfl rfl (by kernel_rfl) (eq75 _ _)) ?_
    refine Lst.run rfl rfl (by decide) (Ev.pickF rfl hb53 rfl) ?_
    refine Lst.nil ?_
    exact At.meet (decide (x36 = x5)) (FLe.refl _) ⟨rfl, rfl, rfl, rfl, rfl, rfl, rfl, rfl, rfl, rfl, rfl, trivial⟩ rfl (some_inj H)
  rintro F54 y52 hF55 hy
  subst hy
  refine Lst.as (e' := [(0, Sl.v s_a0), (4, .pointer (some ⟨b8, 0, none⟩)), (5, .int .i64 y41), (6, .bool y33), (12, Sl.v s_a0), (13, .int .i64 (a0.length : Int)), (14, .int .i64 (i2 : Int)), (39, Sl.v (s_a0.cut (0 : Int).toNat ((i2 : Int) : Int).toNat 3)), (40, .int .i64 (m26.length : Int)), (41, .int .i64 (i31 : Int)), (62, .bool y52)]) (L' := (.blk b39 (enc x36) 75) :: (.blk b8 (enc x5) 75) :: L) ⟨rfl, rfl, rfl, rfl, rfl, rfl, rfl, rfl, rfl, rfl, rfl, trivial⟩ rfl ?_
  replace H := HKo51
  refine Lst.run rfl rfl (by decide) (Ev.assign rfl) ?_
  refine Lst.nil ?_
  refine At.in_normal ?_
  refine At.then ?_
  refine Cd.region ?_
  refine Lst.run rfl rfl (by decide) (Ev.incr (by omega) rfl rfl) ?_
  refine Lst.run rfl rfl (by decide) (Ev.move rfl) ?_
  refine Lst.nil ?_
  refine At.less (L' := (.blk b8 (enc x5) 75) :: L) (List.Sublist.cons _ (List.Sublist.cons_cons _ (List.Sublist.refl _))) ?_
  exact At.meet (i31 + 1, k31, y41, y52) (FLe.trans (FLe.trans hF35 hF50) hF55) ⟨rfl, rfl, rfl, rfl, rfl, rfl, rfl, rfl, rfl, rfl, trivial⟩ rfl ⟨⟨hgo31 _ (some_inj H).symm, by omega⟩, Nat.lt_succ_self _⟩
set_option maxRecDepth 20000 in
theorem stamp_in_sim {a0 : Int} {a1 : Int} {a2 : Int} {r : Bool} (H : stamp_in a0 a1 a2 = some r) (w0 : World) (F : Frz) (M L : List Item) (hM : M.Sublist L) : Ok Try.prog w0 69 [.int .i64 a0, .int .i64 a1, .int .i64 a2] F (L) (Is (.bool r) (L)) := by
  unfold stamp_in at H
  refine Ok.enter (m := 3) (n := 15) Try.func69 rfl rfl rfl (by decide) ?_
  refine Cd.env (e' := [(0, .int .i64 a0), (1, .int .i64 a1), (2, .int .i64 a2)]) rfl ?_
  refine Cd.seq ?_
  refine Cd.region ?_
  refine Lst.run rfl rfl (by decide) (Ev.assign rfl) ?_
  refine Lst.nil ?_
  refine At.then ?_
  refine Cd.seq ?_
  refine Cd.region ?_
  refine Lst.run rfl rfl (by decide) (Ev.move rfl) ?_
  refine Lst.run rfl rfl (by decide) (Ev.move rfl) ?_
  refine Lst.run rfl rfl (by decide) (Ev.geq rfl rfl) ?_
  refine Lst.run rfl rfl (by decide) (Ev.move rfl) ?_
  obtain ⟨o1, H, HKo1⟩ := bind_some H
  refine Lst.join (σ := Bool) 4 (fun y2 => [(14, .bool y2)]) (fun y2 => L) (fun _ y2 => y2 = o1) ?_ ?_
  · rcases (Bool.eq_false_or_eq_true (decide (a0 ≥ a1))).symm with hb3 | hb3
    · replace H := ite_f hb3 H
      refine Lst.skip rfl rfl rfl hb3 rfl (by decide) ?_
      refine Lst.skip rfl rfl rfl hb3 rfl (by decide) ?_
      refine Lst.skip rfl rfl rfl hb3 rfl (by decide) ?_
      refine Lst.run rfl rfl (by decide) (Ev.pickF rfl hb3 rfl) ?_
      refine Lst.nil ?_
      exact At.meet false (FLe.refl _) ⟨rfl, trivial⟩ rfl (some_inj H)
    replace H := ite_t hb3 H
    refine Lst.runG rfl rfl rfl hb3 rfl (by decide) (Ev.move rfl) ?_
    refine Lst.runG rfl rfl rfl hb3 rfl (by decide) (Ev.move rfl) ?_
    refine Lst.runG rfl rfl rfl hb3 rfl (by decide) (Ev.leq rfl rfl) ?_
    refine Lst.run rfl rfl (by decide) (Ev.pickT rfl hb3 rfl) ?_
    refine Lst.nil ?_
    exact At.meet (decide (a0 ≤ a2)) (FLe.refl _) ⟨rfl, trivial⟩ rfl (some_inj H)
  rintro F4 y2 hF5 hy
  subst hy
  refine Lst.as (e' := [(14, .bool y2)]) (L' := L) ⟨rfl, trivial⟩ rfl ?_
  replace H := HKo1
  refine Lst.run rfl rfl (by decide) (Ev.assign rfl) ?_
  refine Lst.nil ?_
  refine At.then ?_
  obtain rfl := some_inj H
  refine Cd.ret ?_
  exact At.ret1 rfl (Res.tmp rfl) hF5 (List.Sublist.refl _) ⟨rfl, rfl⟩
set_option maxRecDepth 20000 in
theorem stamp_checker_event_sim {a0 : Checker} {a1 : Event} {b_a0 : Nat} {r : Checker × Int} (H : stamp_checker_event a0 a1 = some r) (w0 : World) (F : Frz) (M L : List Item) (hM : M.Sublist L) : Ok Try.prog w0 51 [.pointer (some ⟨b_a0, 0, none⟩), .agg (enc a1).toArray] F ((.blk b_a0 (enc a0) 84) :: L) (fun _ L' v => v = .int .i64 r.2 ∧ L' = (.blk b_a0 (enc r.1) 84) :: L) := by
  unfold stamp_checker_event at H
  refine Ok.enter (m := 2) (n := 85) Try.func51 rfl rfl rfl (by decide) ?_
  refine Cd.env (e' := [(0, .pointer (some ⟨b_a0, 0, none⟩)), (1, .agg (enc a1).toArray)]) rfl ?_
  refine Cd.seq ?_
  refine Cd.region ?_
  refine Lst.box rfl rfl (by decide) rfl (cs := enc a1) rfl (fun b2 => ?_)
  refine Lst.run rfl rfl (by decide) (Ev.assign rfl) ?_
  refine Lst.nil ?_
  refine At.then ?_
  refine Cd.seq ?_
  refine Cd.seq ?_
  refine Cd.region ?_
  refine Lst.run rfl rfl (by decide) (Ev.fieldAddr (off' := 0) rfl Try.runUnderlying75 rfl Try.sizeOf3 rfl rfl) ?_
  refine Lst.run rfl rfl (by decide) (Ev.load (i := 0) rfl rfl Try.isAgg3 (v := .int .i64 a1.Proc) ((Event.get_Proc (Get.here _)).off (by rfl))) ?_
  obtain ⟨r4, h5, H⟩ := bind_some H
  refine Lst.call1 rfl rfl (by decide) (vs := [.int .i64 a1.Proc, .int .i64 (0 : Int), .int .i64 (5 : Int)]) ⟨rfl, rfl, rfl, trivial⟩ Try.call69 (stamp_in_sim h5 w0 _ M _ (List.Sublist.cons _ (List.Sublist.cons _ hM))) ?_
  refine Lst.run rfl rfl (by decide) (Ev.not rfl) ?_
  refine Lst.run rfl rfl (by decide) (Ev.move rfl) ?_
  obtain ⟨o8, H, HKo8⟩ := bind_some H
  refine Lst.join (σ := Bool) 5 (fun y9 => [(0, .pointer (some ⟨b_a0, 0, none⟩)), (3, .pointer (some ⟨b2, 0, none⟩)), (14, .bool y9)]) (fun y9 => (.blk b2 (enc a1) 75) :: (.blk b_a0 (enc a0) 84) :: L) (fun _ y9 => y9 = o8) ?_ ?_
  · rcases Bool.eq_false_or_eq_true (!r4) with hb10 | hb10
    · replace H := ite_t hb10 H
      refine Lst.skip rfl rfl rfl hb10 rfl (by decide) ?_
      refine Lst.skip rfl rfl rfl hb10 rfl (by decide) ?_
      refine Lst.skip rfl rfl rfl hb10 rfl (by decide) ?_
      refine Lst.skip rfl rfl rfl hb10 rfl (by decide) ?_
      refine Lst.run rfl rfl (by decide) (Ev.pickT rfl hb10 rfl) ?_
      refine Lst.nil ?_
      exact At.meet true (FLe.refl _) ⟨rfl, rfl, rfl, trivial⟩ rfl (some_inj H)
    replace H := ite_f hb10 H
    refine Lst.runG rfl rfl rfl hb10 rfl (by decide) (Ev.fieldAddr (off' := 2) rfl Try.runUnderlying75 rfl Try.sizeOf3 rfl rfl) ?_
    refine Lst.runG rfl rfl rfl hb10 rfl (by decide) (Ev.load (i := 0) rfl rfl Try.isAgg3 (v := .int .i64 a1.Msg) ((Event.get_Msg (Get.here _)).off (by rfl))) ?_
    obtain ⟨r11, h12, H⟩ := bind_some H
    refine Lst.call1G rfl rfl rfl hb10 rfl (by decide) (vs := [.int .i64 a1.Msg, .int .i64 (0 : Int), .int .i64 (29 : Int)]) ⟨rfl, rfl, rfl, trivial⟩ Try.call69 (stamp_in_sim h12 w0 _ M _ (List.Sublist.cons _ (List.Sublist.cons _ hM))) ?_
    refine Lst.runG rfl rfl rfl hb10 rfl (by decide) (Ev.not rfl) ?_
    refine Lst.run rfl rfl (by decide) (Ev.pickF rfl hb10 rfl) ?_
    refine Lst.nil ?_
    exact At.meet (!r11) (FLe.refl _) ⟨rfl, rfl, rfl, trivial⟩ rfl (some_inj H)
  rintro F15 y9 hF16 hy
  subst hy
  refine Lst.as (e' := [(0, .pointer (some ⟨b_a0, 0, none⟩)), (3, .pointer (some ⟨b2, 0, none⟩)), (14, .bool y9)]) (L' := (.blk b2 (enc a1) 75) :: (.blk b_a0 (enc a0) 84) :: L) ⟨rfl, rfl, rfl, trivial⟩ rfl ?_
  replace H := HKo8
  refine Lst.nil ?_
  refine At.then ?_
  rcases Bool.eq_false_or_eq_true y9 with hb17 | hb17
  · replace H := ite_t hb17 H
    refine Cd.condT rfl hb17 ?_
    refine Cd.seq ?_
    refine Cd.region ?_
    refine Lst.run rfl rfl (by decide) (Ev.assign rfl) ?_
    refine Lst.nil ?_
    refine At.then ?_
    obtain rfl := some_inj H
    refine Cd.ret ?_
    refine At.then_ret ?_
    exact At.ret1 rfl (Res.tmp rfl) hF16 (List.Sublist.cons _ (List.Sublist.cons_cons _ (List.Sublist.refl _))) ⟨rfl, rfl⟩
  replace H := ite_f hb17 H
  refine Cd.condF rfl hb17 ?_
  refine Cd.skip ?_
  refine At.then ?_
  obtain ⟨o19, H, HKo19⟩ := andThen_some H
  refine Cd.join (σ := Checker) (fun y18 => []) (fun y18 => (.blk b2 (enc a1) 75) :: (.blk b_a0 (enc y18) 84) :: L) (fun _ y18 => .inl y18 = o19) ?_ ?_
  · refine Cd.seq ?_
    refine Cd.region ?_
    refine Lst.run rfl rfl (by decide) (Ev.fieldAddr (off' := 1) rfl Try.runUnderlying75 rfl Try.sizeOf3 rfl rfl) ?_
    refine Lst.run rfl rfl (by decide) (Ev.load (i := 0) rfl rfl Try.isAgg3 (v := .int .i64 a1.Kind) ((Event.get_Kind (Get.here _)).off (by rfl))) ?_
    refine Lst.nil ?_
    refine At.then ?_
    refine Cd.block ?_
    refine Cd.seq ?_
    refine Cd.region ?_
    refine Lst.run rfl rfl (by decide) (Ev.eql rfl rfl) ?_
    refine Lst.run rfl rfl (by decide) (Ev.assign rfl) ?_
    refine Lst.nil ?_
    refine At.then ?_
    rcases Bool.eq_false_or_eq_true (a1.Kind == (1 : Int)) with hb20 | hb20
    · replace H := ite_t hb20 H
      refine Cd.condT rfl hb20 ?_
      refine Cd.seq ?_
      refine Cd.region ?_
      refine Lst.run rfl rfl (by decide) (Ev.fieldAddr (off' := 2) rfl Try.runUnderlying75 rfl Try.sizeOf3 rfl rfl) ?_
      refine Lst.run rfl rfl (by decide) (Ev.load (i := 0) rfl rfl Try.isAgg3 (v := .int .i64 a1.Msg) ((Event.get_Msg (Get.here _)).off (by rfl))) ?_
      refine Lst.run rfl rfl (by decide) (Ev.neq rfl rfl) ?_
      refine Lst.nil ?_
      refine At.then ?_
      rcases Bool.eq_false_or_eq_true (a1.Msg != (0 : Int)) with hb21 | hb21
      · replace H := ite_t hb21 H
        refine Cd.condT rfl hb21 ?_
        refine Cd.seq ?_
        refine Cd.region ?_
        refine Lst.run rfl rfl (by decide) (Ev.assign rfl) ?_
        refine Lst.nil ?_
        refine At.then ?_
        obtain rfl := some_inj H
        replace H := HKo19
        obtain rfl := some_inj H
        refine Cd.ret ?_
        refine At.in_ret ?_
        refine At.then_ret ?_
        exact At.ret1 rfl (Res.tmp rfl) hF16 (List.Sublist.cons _ (List.Sublist.cons_cons _ (List.Sublist.refl _))) ⟨rfl, rfl⟩
      replace H := ite_f hb21 H
      refine Cd.condF rfl hb21 ?_
      refine Cd.skip ?_
      refine At.in_normal ?_
      exact At.meet a0 (FLe.refl _) trivial rfl (some_inj H)
    replace H := ite_f hb20 H
    refine Cd.condF rfl hb20 ?_
    refine Cd.seq ?_
    refine Cd.region ?_
    refine Lst.run rfl rfl (by decide) (Ev.eql rfl rfl) ?_
    refine Lst.run rfl rfl (by decide) (Ev.assign rfl) ?_
    refine Lst.nil ?_
    refine At.then ?_
    rcases Bool.eq_false_or_eq_true (a1.Kind == (2 : Int)) with hb22 | hb22
    · replace H := ite_t hb22 H
      refine Cd.condT rfl hb22 ?_
      refine Cd.seq ?_
      refine Cd.seq ?_
      refine Cd.quiet (by kernel_rfl) (by kernel_rfl) ?_
      refine Qt.run rfl rfl (by decide) (Ev.move rfl) ?_
      refine Qt.run rfl rfl (by decide) (Ev.fieldAddr (off' := 2) rfl Try.runUnderlying75 rfl Try.sizeOf3 rfl rfl) ?_
      refine Qt.run rfl rfl (by decide) (Ev.load (i := 0) rfl rfl Try.isAgg3 (v := .int .i64 a1.Msg) ((Event.get_Msg (Get.here _)).off (by rfl))) ?_
      refine Qt.run rfl rfl (by decide) (Ev.nilCheck rfl) ?_
      refine Qt.run rfl rfl (by decide) (Ev.fieldAddr (off' := 0) rfl Try.runUnderlying84 rfl Try.sizeOf76 rfl rfl) ?_
      obtain ⟨x23, h24, H⟩ := bind_some H
      have g25 := vat_some h24
      refine Qt.run rfl rfl (by decide) (Ev.indexAddr (off' := 0 + a1.Msg.toNat * 1) rfl rfl Try.runUnderlying76 Try.sizeOf3 g25.1 g25.2.1 rfl) ?_
      refine Qt.run rfl rfl (by decide) (Ev.load (i := 1) rfl rfl Try.isAgg3 (v := .int .i64 x23) ((Checker.get_sender (Get.vecN (s := 1) (x := x23) rfl g25.2.2 (Get.here _))).off (by omega))) ?_
      refine Qt.run rfl rfl (by decide) (Ev.gtr rfl rfl) ?_
      refine Qt.done ?_
      refine At.then ?_
      rcases Bool.eq_false_or_eq_true (decide (x23 > (0 : Int))) with hb26 | hb26
      · replace H := ite_t hb26 H
        refine Cd.condT rfl hb26 ?_
        refine Cd.seq ?_
        refine Cd.as (e' := []) (L' := (.blk b2 (enc a1) 75) :: (.blk b_a0 (enc a0) 84) :: L) trivial rfl ?_
        refine Cd.region ?_
        refine Lst.run rfl rfl (by decide) (Ev.assign rfl) ?_
        refine Lst.nil ?_
        refine At.then ?_
        obtain rfl := some_inj H
        replace H := HKo19
        obtain rfl := some_inj H
        refine Cd.ret ?_
        refine At.then_ret ?_
        refine At.in_ret ?_
        refine At.then_ret ?_
        exact At.ret1 rfl (Res.tmp rfl) hF16 (List.Sublist.cons _ (List.Sublist.cons_cons _ (List.Sublist.refl _))) ⟨rfl, rfl⟩
      replace H := ite_f hb26 H
      refine Cd.condF rfl hb26 ?_
      refine Cd.skip ?_
      refine At.then ?_
      refine Cd.as (e' := [(0, .pointer (some ⟨b_a0, 0, none⟩)), (3, .pointer (some ⟨b2, 0, none⟩))]) (L' := (.blk b2 (enc a1) 75) :: (.blk b_a0 (enc a0) 84) :: L) ⟨rfl, rfl, trivial⟩ rfl ?_
      refine Cd.tail 9 (by kernel_rfl) (by kernel_rfl) ?_
      refine Qt.run rfl rfl (by decide) (Ev.move rfl) ?_
      refine Qt.run rfl rfl (by decide) (Ev.fieldAddr (off' := 2) rfl Try.runUnderlying75 rfl Try.sizeOf3 rfl rfl) ?_
      refine Qt.run rfl rfl (by decide) (Ev.load (i := 0) rfl rfl Try.isAgg3 (v := .int .i64 a1.Msg) ((Event.get_Msg (Get.here _)).off (by rfl))) ?_
      refine Qt.run rfl rfl (by decide) (Ev.fieldAddr (off' := 0) rfl Try.runUnderlying75 rfl Try.sizeOf3 rfl rfl) ?_
      refine Qt.run rfl rfl (by decide) (Ev.load (i := 0) rfl rfl Try.isAgg3 (v := .int .i64 a1.Proc) ((Event.get_Proc (Get.here _)).off (by rfl))) ?_
      refine Qt.run rfl rfl (by decide) (Ev.add rfl rfl) ?_
      refine Qt.run rfl rfl (by decide) (Ev.nilCheck rfl) ?_
      refine Qt.run rfl rfl (by decide) (Ev.fieldAddr (off' := 0) rfl Try.runUnderlying84 rfl Try.sizeOf76 rfl rfl) ?_
      obtain ⟨x27, h28, H⟩ := bind_some H
      have g29 := vat_some h28
      refine Qt.run rfl rfl (by decide) (Ev.indexAddr (off' := 0 + a1.Msg.toNat * 1) rfl rfl Try.runUnderlying76 Try.sizeOf3 g29.1 g29.2.1 rfl) ?_
      refine Qt.tail ?_
      obtain ⟨p30, h31, H⟩ := Let_some H
      refine Lst.store (i := 1) rfl rfl rfl rfl rfl Try.sizeOf3 (vs := [.int .i64 (w64 (a1.Proc + (1 : Int)))]) rfl rfl rfl (cs' := enc p30) (by rw [← h31]; exact (Checker.put_sender (Put.vecN (s := 1) (x := x27) rfl g29.2.2 (Put.here (vs := [.int .i64 (w64 (a1.Proc + (1 : Int)))]) rfl))).off (by omega)) (L' := (.blk b2 (enc a1) 75) :: (.blk b_a0 (enc p30) 84) :: L) rfl ?_
      refine Lst.nil ?_
      refine At.in_normal ?_
      exact At.meet p30 (FLe.refl _) trivial rfl (some_inj H)
    replace H := ite_f hb22 H
    refine Cd.condF rfl hb22 ?_
    refine Cd.seq ?_
    refine Cd.region ?_
    refine Lst.run rfl rfl (by decide) (Ev.eql rfl rfl) ?_
    refine Lst.run rfl rfl (by decide) (Ev.assign rfl) ?_
    refine Lst.nil ?_
    refine At.then ?_
    rcases (Bool.eq_false_or_eq_true (a1.Kind == (3 : Int))).symm with hb32 | hb32
    · replace H := ite_f hb32 H
      refine Cd.condF rfl hb32 ?_
      refine Cd.seq ?_
      refine Cd.region ?_
      refine Lst.run rfl rfl (by decide) (Ev.assign rfl) ?_
      refine Lst.nil ?_
      refine At.then ?_
      obtain rfl := some_inj H
      replace H := HKo19
      obtain rfl := some_inj H
      refine Cd.ret ?_
      refine At.in_ret ?_
      refine At.then_ret ?_
      exact At.ret1 rfl (Res.tmp rfl) hF16 (List.Sublist.cons _ (List.Sublist.cons_cons _ (List.Sublist.refl _))) ⟨rfl, rfl⟩
    replace H := ite_t hb32 H
    refine Cd.condT rfl hb32 ?_
    refine Cd.seq ?_
    refine Cd.seq ?_
    refine Cd.quiet (by kernel_rfl) (by kernel_rfl) ?_
    refine Qt.run rfl rfl (by decide) (Ev.move rfl) ?_
    refine Qt.run rfl rfl (by decide) (Ev.fieldAddr (off' := 2) rfl Try.runUnderlying75 rfl Try.sizeOf3 rfl rfl) ?_
    refine Qt.run rfl rfl (by decide) (Ev.load (i := 0) rfl rfl Try.isAgg3 (v := .int .i64 a1.Msg) ((Event.get_Msg (Get.here _)).off (by rfl))) ?_
    refine Qt.run rfl rfl (by decide) (Ev.nilCheck rfl) ?_
    refine Qt.run rfl rfl (by decide) (Ev.fieldAddr (off' := 0) rfl Try.runUnderlying84 rfl Try.sizeOf76 rfl rfl) ?_
    obtain ⟨x33, h34, H⟩ := bind_some H
    have g35 := vat_some h34
    refine Qt.run rfl rfl (by decide) (Ev.indexAddr (off' := 0 + a1.Msg.toNat * 1) rfl rfl Try.runUnderlying76 Try.sizeOf3 g35.1 g35.2.1 rfl) ?_
    refine Qt.run rfl rfl (by decide) (Ev.load (i := 1) rfl rfl Try.isAgg3 (v := .int .i64 x33) ((Checker.get_sender (Get.vecN (s := 1) (x := x33) rfl g35.2.2 (Get.here _))).off (by omega))) ?_
    refine Qt.run rfl rfl (by decide) (Ev.eql rfl rfl) ?_
    refine Qt.run rfl rfl (by decide) (Ev.move rfl) ?_
    obtain ⟨o36, H, HKo36⟩ := bind_some H
    refine Qt.join (σ := Bool) 12 (fun y37 => [(0, .pointer (some ⟨b_a0, 0, none⟩)), (3, .pointer (some ⟨b2, 0, none⟩)), (63, .bool y37)]) (fun y37 => y37 = o36) ?_ ?_
    · rcases Bool.eq_false_or_eq_true (x33 == (0 : Int)) with hb38 | hb38
      · replace H := ite_t hb38 H
        refine Qt.skip rfl rfl rfl hb38 rfl (by decide) ?_
        refine Qt.skip rfl rfl rfl hb38 rfl (by decide) ?_
        refine Qt.skip rfl rfl rfl hb38 rfl (by decide) ?_
        refine Qt.skip rfl rfl rfl hb38 rfl (by decide) ?_
        refine Qt.skip rfl rfl rfl hb38 rfl (by decide) ?_
        refine Qt.skip rfl rfl rfl hb38 rfl (by decide) ?_
        refine Qt.skip rfl rfl rfl hb38 rfl (by decide) ?_
        refine Qt.skip rfl rfl rfl hb38 rfl (by decide) ?_
        refine Qt.skip rfl rfl rfl hb38 rfl (by decide) ?_
        refine Qt.skip rfl rfl rfl hb38 rfl (by decide) ?_
        refine Qt.skip rfl rfl rfl hb38 rfl (by decide) ?_
        refine Qt.run rfl rfl (by decide) (Ev.pickT rfl hb38 rfl) ?_
        exact Qt.meet true ⟨rfl, rfl, rfl, trivial⟩ (some_inj H)
      replace H := ite_f hb38 H
      refine Qt.runG rfl rfl rfl hb38 rfl (by decide) (Ev.move rfl) ?_
      refine Qt.runG rfl rfl rfl hb38 rfl (by decide) (Ev.fieldAddr (off' := 2) rfl Try.runUnderlying75 rfl Try.sizeOf3 rfl rfl) ?_
      refine Qt.runG rfl rfl rfl hb38 rfl (by decide) (Ev.load (i := 0) rfl rfl Try.isAgg3 (v := .int .i64 a1.Msg) ((Event.get_Msg (Get.here _)).off (by rfl))) ?_
      refine Qt.runG rfl rfl rfl hb38 rfl (by decide) (Ev.nilCheck rfl) ?_
      refine Qt.runG rfl rfl rfl hb38 rfl (by decide) (Ev.fieldAddr (off' := 0) rfl Try.runUnderlying84 rfl Try.sizeOf76 rfl rfl) ?_
      obtain ⟨x39, h40, H⟩ := bind_some H
      have g41 := vat_some h40
      refine Qt.runG rfl rfl rfl hb38 rfl (by decide) (Ev.indexAddr (off' := 0 + a1.Msg.toNat * 1) rfl rfl Try.runUnderlying76 Try.sizeOf3 g41.1 g41.2.1 rfl) ?_
      refine Qt.runG rfl rfl rfl hb38 rfl (by decide) (Ev.load (i := 1) rfl rfl Try.isAgg3 (v := .int .i64 x39) ((Checker.get_sender (Get.vecN (s := 1) (x := x39) rfl g41.2.2 (Get.here _))).off (by omega))) ?_
      refine Qt.runG rfl rfl rfl hb38 rfl (by decide) (Ev.fieldAddr (off' := 0) rfl Try.runUnderlying75 rfl Try.sizeOf3 rfl rfl) ?_
      refine Qt.runG rfl rfl rfl hb38 rfl (by decide) (Ev.load (i := 0) rfl rfl Try.isAgg3 (v := .int .i64 a1.Proc) ((Event.get_Proc (Get.here _)).off (by rfl))) ?_
      refine Qt.runG rfl rfl rfl hb38 rfl (by decide) (Ev.add rfl rfl) ?_
      refine Qt.runG rfl rfl rfl hb38 rfl (by decide) (Ev.eql rfl rfl) ?_
      refine Qt.run rfl rfl (by decide) (Ev.pickF rfl hb38 rfl) ?_
      exact Qt.meet (x39 == (w64 (a1.Proc + (1 : Int)))) ⟨rfl, rfl, rfl, trivial⟩ (some_inj H)
    rintro y37 hy
    subst hy
    refine Qt.as (e' := [(0, .pointer (some ⟨b_a0, 0, none⟩)), (3, .pointer (some ⟨b2, 0, none⟩)), (63, .bool y37)]) ⟨rfl, rfl, rfl, trivial⟩ ?_
    replace H := HKo36
    refine Qt.run rfl rfl (by decide) (Ev.move rfl) ?_
    obtain ⟨o42, H, HKo42⟩ := bind_some H
    refine Qt.join (σ := Bool) 11 (fun y43 => [(0, .pointer (some ⟨b_a0, 0, none⟩)), (3, .pointer (some ⟨b2, 0, none⟩)), (75, .bool y43)]) (fun y43 => y43 = o42) ?_ ?_
    · rcases Bool.eq_false_or_eq_true y37 with hb44 | hb44
      · replace H := ite_t hb44 H
        refine Qt.skip rfl rfl rfl hb44 rfl (by decide) ?_
        refine Qt.skip rfl rfl rfl hb44 rfl (by decide) ?_
        refine Qt.skip rfl rfl rfl hb44 rfl (by decide) ?_
        refine Qt.skip rfl rfl rfl hb44 rfl (by decide) ?_
        refine Qt.skip rfl rfl rfl hb44 rfl (by decide) ?_
        refine Qt.skip rfl rfl rfl hb44 rfl (by decide) ?_
        refine Qt.skip rfl rfl rfl hb44 rfl (by decide) ?_
        refine Qt.skip rfl rfl rfl hb44 rfl (by decide) ?_
        refine Qt.skip rfl rfl rfl hb44 rfl (by decide) ?_
        refine Qt.skip rfl rfl rfl hb44 rfl (by decide) ?_
        refine Qt.run rfl rfl (by decide) (Ev.pickT rfl hb44 rfl) ?_
        exact Qt.meet true ⟨rfl, rfl, rfl, trivial⟩ (some_inj H)
      replace H := ite_f hb44 H
      refine Qt.runG rfl rfl rfl hb44 rfl (by decide) (Ev.move rfl) ?_
      refine Qt.runG rfl rfl rfl hb44 rfl (by decide) (Ev.fieldAddr (off' := 2) rfl Try.runUnderlying75 rfl Try.sizeOf3 rfl rfl) ?_
      refine Qt.runG rfl rfl rfl hb44 rfl (by decide) (Ev.load (i := 0) rfl rfl Try.isAgg3 (v := .int .i64 a1.Msg) ((Event.get_Msg (Get.here _)).off (by rfl))) ?_
      refine Qt.runG rfl rfl rfl hb44 rfl (by decide) (Ev.fieldAddr (off' := 0) rfl Try.runUnderlying75 rfl Try.sizeOf3 rfl rfl) ?_
      refine Qt.runG rfl rfl rfl hb44 rfl (by decide) (Ev.load (i := 0) rfl rfl Try.isAgg3 (v := .int .i64 a1.Proc) ((Event.get_Proc (Get.here _)).off (by rfl))) ?_
      refine Qt.runG rfl rfl rfl hb44 rfl (by decide) (Ev.nilCheck rfl) ?_
      refine Qt.runG rfl rfl rfl hb44 rfl (by decide) (Ev.fieldAddr (off' := 30) rfl Try.runUnderlying84 rfl Try.sizeOf82 rfl rfl) ?_
      obtain ⟨x45, h46, H⟩ := bind_some H
      have g47 := vat_some h46
      refine Qt.runG rfl rfl rfl hb44 rfl (by decide) (Ev.indexAddr (off' := 30 + a1.Msg.toNat * 6) rfl rfl Try.runUnderlying82 Try.sizeOf81 g47.1 g47.2.1 rfl) ?_
      obtain ⟨x48, h49, H⟩ := bind_some H
      have g50 := vat_some h49
      refine Qt.runG rfl rfl rfl hb44 rfl (by decide) (Ev.indexAddr (off' := 30 + a1.Msg.toNat * 6 + a1.Proc.toNat * 1) rfl rfl Try.runUnderlying81 Try.sizeOf4 g50.1 g50.2.1 rfl) ?_
      refine Qt.runG rfl rfl rfl hb44 rfl (by decide) (Ev.load (i := 1) rfl rfl Try.isAgg4 (v := .bool x48) ((Checker.get_taken (Get.vecN (s := 6) (x := x45) rfl g47.2.2 (Get.vecN (s := 1) (x := x48) rfl g50.2.2 (Get.here _)))).off (by omega))) ?_
      refine Qt.run rfl rfl (by decide) (Ev.pickF rfl hb44 rfl) ?_
      exact Qt.meet x48 ⟨rfl, rfl, rfl, trivial⟩ (some_inj H)
    rintro y43 hy
    subst hy
    refine Qt.as (e' := [(0, .pointer (some ⟨b_a0, 0, none⟩)), (3, .pointer (some ⟨b2, 0, none⟩)), (75, .bool y43)]) ⟨rfl, rfl, rfl, trivial⟩ ?_
    replace H := HKo42
    refine Qt.done ?_
    refine At.then ?_
    rcases Bool.eq_false_or_eq_true y43 with hb51 | hb51
    · replace H := ite_t hb51 H
      refine Cd.condT rfl hb51 ?_
      refine Cd.seq ?_
      refine Cd.region ?_
      refine Lst.run rfl rfl (by decide) (Ev.assign rfl) ?_
      refine Lst.nil ?_
      refine At.then ?_
      obtain rfl := some_inj H
      replace H := HKo19
      obtain rfl := some_inj H
      refine Cd.ret ?_
      refine At.then_ret ?_
      refine At.in_ret ?_
      refine At.then_ret ?_
      exact At.ret1 rfl (Res.tmp rfl) hF16 (List.Sublist.cons _ (List.Sublist.cons_cons _ (List.Sublist.refl _))) ⟨rfl, rfl⟩
    replace H := ite_f hb51 H
    refine Cd.condF rfl hb51 ?_
    refine Cd.skip ?_
    refine At.then ?_
    refine Cd.tail 9 (by kernel_rfl) (by kernel_rfl) ?_
    refine Qt.run rfl rfl (by decide) (Ev.move rfl) ?_
    refine Qt.run rfl rfl (by decide) (Ev.fieldAddr (off' := 2) rfl Try.runUnderlying75 rfl Try.sizeOf3 rfl rfl) ?_
    refine Qt.run rfl rfl (by decide) (Ev.load (i := 0) rfl rfl Try.isAgg3 (v := .int .i64 a1.Msg) ((Event.get_Msg (Get.here _)).off (by rfl))) ?_
    refine Qt.run rfl rfl (by decide) (Ev.fieldAddr (off' := 0) rfl Try.runUnderlying75 rfl Try.sizeOf3 rfl rfl) ?_
    refine Qt.run rfl rfl (by decide) (Ev.load (i := 0) rfl rfl Try.isAgg3 (v := .int .i64 a1.Proc) ((Event.get_Proc (Get.here _)).off (by rfl))) ?_
    refine Qt.run rfl rfl (by decide) (Ev.nilCheck rfl) ?_
    refine Qt.run rfl rfl (by decide) (Ev.fieldAddr (off' := 30) rfl Try.runUnderlying84 rfl Try.sizeOf82 rfl rfl) ?_
    obtain ⟨x52, h53, H⟩ := bind_some H
    have g54 := vat_some h53
    refine Qt.run rfl rfl (by decide) (Ev.indexAddr (off' := 30 + a1.Msg.toNat * 6) rfl rfl Try.runUnderlying82 Try.sizeOf81 g54.1 g54.2.1 rfl) ?_
    obtain ⟨x55, h56, H⟩ := bind_some H
    have g57 := vat_some h56
    refine Qt.run rfl rfl (by decide) (Ev.indexAddr (off' := 30 + a1.Msg.toNat * 6 + a1.Proc.toNat * 1) rfl rfl Try.runUnderlying81 Try.sizeOf4 g57.1 g57.2.1 rfl) ?_
    refine Qt.tail ?_
    obtain ⟨p58, h59, H⟩ := Let_some H
    refine Lst.store (i := 1) rfl rfl rfl rfl rfl Try.sizeOf4 (vs := [.bool true]) rfl rfl rfl (cs' := enc p58) (by rw [← h59]; exact (Checker.put_taken (Put.vecN (s := 6) (x := x52) rfl g54.2.2 (Put.vecN (s := 1) (x := x55) rfl g57.2.2 (Put.here (vs := [.bool true]) rfl)))).off (by omega)) (L' := (.blk b2 (enc a1) 75) :: (.blk b_a0 (enc p58) 84) :: L) rfl ?_
    refine Lst.nil ?_
    refine At.in_normal ?_
    exact At.meet p58 (FLe.refl _) trivial rfl (some_inj H)
  rintro F60 y18 hF61 hy
  subst hy
  refine Cd.as (e' := []) (L' := (.blk b2 (enc a1) 75) :: (.blk b_a0 (enc y18) 84) :: L) trivial rfl ?_
  replace H := HKo19
  refine Cd.seq ?_
  refine Cd.region ?_
  refine Lst.run rfl rfl (by decide) (Ev.assign rfl) ?_
  refine Lst.nil ?_
  refine At.then ?_
  obtain rfl := some_inj H
  refine Cd.ret ?_
  exact At.ret1 rfl (Res.tmp rfl) (FLe.trans hF16 hF61) (List.Sublist.cons _ (List.Sublist.cons_cons _ (List.Sublist.refl _))) ⟨rfl, rfl⟩
set_option maxRecDepth 20000 in
theorem stamp_Check_sim {a0 : List Event} {s_a0 : Sl} {r : Int} (H : stamp_Check a0 = some r) (w0 : World) (F : Frz) (M L : List Item) (hM : M.Sublist L) (hs_a0 : Rd w0 F M s_a0 a0) : Ok Try.prog w0 22 [Sl.v s_a0] F (L) (Is (.int .i64 r) (L)) := by
  unfold stamp_Check at H
  refine Ok.enter (m := 1) (n := 25) Try.func22 rfl rfl rfl (by decide) ?_
  refine Cd.env (e' := [(0, Sl.v s_a0)]) rfl ?_
  refine Cd.seq ?_
  refine Cd.region ?_
  refine Lst.run rfl rfl (by decide) (Ev.assign rfl) ?_
  refine Lst.nil ?_
  refine At.then ?_
  refine Cd.seq ?_
  refine Cd.seq ?_
  refine Cd.region ?_
  refine Lst.run rfl rfl (by decide) (Ev.move rfl) ?_
  refine Lst.run rfl rfl (by decide) (Ev.lenS (α := Event) (xs := a0) (by decide) rfl rfl Try.runUnderlying24 (hs_a0.mono (FLe.refl _) hM)) ?_
  refine Lst.run rfl rfl (by decide) (Ev.gtr rfl rfl) ?_
  refine Lst.nil ?_
  refine At.then ?_
  rcases Bool.eq_false_or_eq_true (decide ((a0.length : Int) > (60 : Int))) with hb1 | hb1
  · replace H := ite_t hb1 H
    refine Cd.condT rfl hb1 ?_
    refine Cd.seq ?_
    refine Cd.region ?_
    refine Lst.run rfl rfl (by decide) (Ev.assign rfl) ?_
    refine Lst.nil ?_
    refine At.then ?_
    obtain rfl := some_inj H
    refine Cd.ret ?_
    refine At.then_ret ?_
    exact At.ret1 rfl (Res.tmp rfl) (FLe.refl _) (List.Sublist.refl _) ⟨rfl, rfl⟩
  replace H := ite_f hb1 H
  refine Cd.condF rfl hb1 ?_
  refine Cd.skip ?_
  refine At.then ?_
  refine Cd.seq ?_
  refine Cd.region ?_
  refine Lst.run rfl rfl (by decide) (Ev.build (v := .agg (enc Checker.zero).toArray) (pv := []) trivial (fun w => by kernel_rfl)) ?_
  refine Lst.box rfl rfl (by decide) rfl (cs := enc Checker.zero) rfl (fun b2 => ?_)
  refine Lst.run rfl rfl (by decide) (Ev.assign rfl) ?_
  refine Lst.nil ?_
  refine At.then ?_
  refine Cd.seq ?_
  refine Cd.seq ?_
  refine Cd.region ?_
  refine Lst.run rfl rfl (by decide) (Ev.move rfl) ?_
  refine Lst.run rfl rfl (by decide) (Ev.lenS (α := Event) (xs := a0) (by decide) rfl rfl Try.runUnderlying24 (hs_a0.mono (FLe.refl _) (List.Sublist.cons _ hM))) ?_
  refine Lst.run rfl rfl (by decide) (Ev.move rfl) ?_
  refine Lst.nil ?_
  refine At.then ?_
  refine Cd.block ?_
  refine Cd.bound (Rd.le (α := Event) (xs := a0) (by decide) (hs_a0.mono (FLe.refl _) (List.Sublist.cons _ hM))) (fun hN18 => ?_)
  obtain ⟨ol4, H, HKl4⟩ := andThen_some H
  refine Cd.loop (σ := Nat × Nat × Checker) (fun (i4, k4, y5) => [(3, .pointer (some ⟨b2, 0, none⟩)), (12, Sl.v s_a0), (13, .int .i64 (a0.length : Int)), (14, .int .i64 (i4 : Int))]) (fun (i4, k4, y5) => (.blk b2 (enc y5) 84) :: L) (fun _ => (fun (i4, k4, y5) => rangeM (stamp_Check_B0 a0) k4 i4 y5 = some ol4 ∧ i4 + k4 = a0.length)) (fun (i4, k4, y5) => k4) (0, a0.length, Checker.zero) ⟨rfl, rfl, rfl, rfl, trivial⟩ rfl ⟨H, by omega⟩ ?_
  rintro F6 ⟨i4, k4, y5⟩ hF7 ⟨H, hik4⟩
  refine Cd.as (e' := [(3, .pointer (some ⟨b2, 0, none⟩)), (12, Sl.v s_a0), (13, .int .i64 (a0.length : Int)), (14, .int .i64 (i4 : Int))]) (L' := (.blk b2 (enc y5) 84) :: L) ⟨rfl, rfl, rfl, rfl, trivial⟩ rfl ?_
  rcases k4 with _ | k4
  · have hc4 : decide ((i4 : Int) < (a0.length : Int)) = false := decide_eq_false (by omega)
    replace H := rangeM_end H
    refine Cd.seq ?_
    refine Cd.region ?_
    refine Lst.run rfl rfl (by decide) (Ev.lss rfl rfl) ?_
    refine Lst.nil ?_
    refine At.then ?_
    refine Cd.seq ?_
    refine Cd.condF rfl hc4 ?_
    refine Cd.exit ?_
    refine At.then_exit ?_
    refine At.then_exit ?_
    refine At.in_exit ?_
    subst H
    replace H := HKl4
    refine At.then ?_
    refine Cd.seq ?_
    refine Cd.region ?_
    refine Lst.run rfl rfl (by decide) (Ev.assign rfl) ?_
    refine Lst.nil ?_
    refine At.then ?_
    obtain rfl := some_inj H
    refine Cd.ret ?_
    exact At.ret1 rfl (Res.tmp rfl) hF7 (List.Sublist.cons _ (List.Sublist.refl _)) ⟨rfl, rfl⟩
  have hc4 : decide ((i4 : Int) < (a0.length : Int)) = true := decide_eq_true (by omega)
  obtain ⟨c4, H, hgo4, hbrk4, hret4⟩ := rangeM_go H
  unfold stamp_Check_B0 at H
  try dsimp only at H
  refine Cd.seq ?_
  refine Cd.region ?_
  refine Lst.run rfl rfl (by decide) (Ev.lss rfl rfl) ?_
  refine Lst.nil ?_
  refine At.then ?_
  refine Cd.seq ?_
  refine Cd.condT rfl hc4 ?_
  refine Cd.skip ?_
  refine At.then ?_
  refine Cd.seq ?_
  refine Cd.block ?_
  refine Cd.seq ?_
  refine Cd.region ?_
  obtain ⟨x8, h9, H⟩ := bind_some H
  have g10 := lat_some h9
  refine Lst.run rfl rfl (by decide) (Ev.indexS (α := Event) (xs := a0) rfl rfl Try.runUnderlying24 Try.sizeOf75 rfl (by decide) (hs_a0.mono hF7 (List.Sublist.cons _ hM)) g10.1 g10.2.1) ?_
  refine Lst.run rfl rfl (by decide) (Ev.loadSA (α := Event) rfl (hs_a0.mono hF7 (List.Sublist.cons _ hM)) Try.isAgg75 Try.sizeOf75 (ch := enc x8) (Enc.len _) (by decide) ((Get.elemN (s := 3) (x := x8) rfl g10.2.2 (Get.here _)).off (by omega))) ?_
  refine Lst.alloc (cs := enc Event.zero) rfl rfl (by decide) Try.zeroValue75 rfl (fun b11 => ?_)
  refine Lst.store (i := 0) rfl rfl rfl rfl rfl Try.sizeOf75 (vs := enc x8) rfl (Enc.len _) (Enc.one _) (cs' := enc x8) (Put.here ((Enc.len _).trans (Enc.len _).symm)) (L' := (.blk b11 (enc x8) 75) :: (.blk b2 (enc y5) 84) :: L) rfl ?_
  refine Lst.nil ?_
  refine At.then ?_
  refine Cd.seq ?_
  refine Cd.region ?_
  refine Lst.run rfl rfl (by decide) (Ev.move rfl) ?_
  refine Lst.run rfl rfl (by decide) (Ev.loadA (i := 0) rfl rfl Try.isAgg75 Try.sizeOf75 (ch := enc x8) (Enc.len _) (Get.here _)) ?_
  obtain ⟨r13, h14, H⟩ := bind_some H
  refine Lst.front (i := 1) rfl (L' := (.blk b2 (enc y5) 84) :: (.blk b11 (enc x8) 75) :: L) rfl ?_
  refine Lst.call rfl rfl (by decide) (vs := [.pointer (some ⟨b2, 0, none⟩), .agg (enc x8).toArray]) ⟨rfl, rfl, trivial⟩ Try.call51 (stamp_checker_event_sim h14 w0 _ M _ (List.Sublist.cons _ hM)) (fun F15 L' v hF16 hv => ?_)
  obtain ⟨rfl, rfl⟩ := hv
  refine Lst.run rfl rfl (by decide) (Ev.assign rfl) ?_
  refine Lst.nil ?_
  refine At.then ?_
  refine Cd.seq ?_
  refine Cd.region ?_
  refine Lst.run rfl rfl (by decide) (Ev.move rfl) ?_
  refine Lst.run rfl rfl (by decide) (Ev.neq rfl rfl) ?_
  refine Lst.nil ?_
  refine At.then ?_
  rcases Bool.eq_false_or_eq_true (r13.2 != (0 : Int)) with hb17 | hb17
  · replace H := ite_t hb17 H
    refine Cd.condT rfl hb17 ?_
    refine Cd.seq ?_
    refine Cd.region ?_
    refine Lst.run rfl rfl (by decide) (Ev.move rfl) ?_
    refine Lst.run rfl rfl (by decide) (Ev.assign rfl) ?_
    refine Lst.nil ?_
    refine At.then ?_
    have H := hret4 _ (some_inj H).symm
    subst H
    replace H := HKl4
    obtain rfl := some_inj H
    refine Cd.ret ?_
    refine At.in_ret ?_
    refine At.then_ret ?_
    refine At.then_ret ?_
    refine At.in_ret ?_
    refine At.then_ret ?_
    exact At.ret1 rfl (Res.tmp rfl) (FLe.trans hF7 hF16) (List.Sublist.cons _ (List.Sublist.cons _ (List.Sublist.refl _))) ⟨rfl, rfl⟩
  replace H := ite_f hb17 H
  refine Cd.condF rfl hb17 ?_
  refine Cd.skip ?_
  refine At.in_normal ?_
  refine At.then ?_
  refine Cd.region ?_
  refine Lst.run rfl rfl (by decide) (Ev.incr (by omega) rfl rfl) ?_
  refine Lst.run rfl rfl (by decide) (Ev.move rfl) ?_
  refine Lst.nil ?_
  refine At.less (L' := (.blk b2 (enc r13.1) 84) :: L) (List.Sublist.cons_cons _ (List.Sublist.cons _ (List.Sublist.refl _))) ?_
  exact At.meet (i4 + 1, k4, r13.1) (FLe.trans hF7 hF16) ⟨rfl, rfl, rfl, rfl, trivial⟩ rfl ⟨⟨hgo4 _ (some_inj H).symm, by omega⟩, Nat.lt_succ_self _⟩
set_option maxRecDepth 20000 in
theorem stamp_Stamps_sim {a0 : List Event} {s_a0 : Sl} {r : (List Int) × Int} (H : stamp_Stamps a0 = some r) (w0 : World) (F : Frz) (M L : List Item) (hM : M.Sublist L) (hs_a0 : Rd w0 F M s_a0 a0) : Ok Try.prog w0 19 [Sl.v s_a0] F (L) (fun _ L' v => ∃ (s1 : Sl), v = .tuple #[Sl.v s1, .int .i64 r.2] ∧ L' = (.own s1 3 1 (encs r.1)) :: L) := by
  unfold stamp_Stamps at H
  refine Ok.enter (m := 1) (n := 54) Try.func19 rfl rfl rfl (by decide) ?_
  refine Cd.env (e' := [(0, Sl.v s_a0)]) rfl ?_
  refine Cd.seq ?_
  refine Cd.region ?_
  refine Lst.addNil 3 1 ?_
  refine Lst.run rfl rfl (by decide) (Ev.assign rfl) ?_
  refine Lst.run rfl rfl (by decide) (Ev.assign rfl) ?_
  refine Lst.nil ?_
  refine At.then ?_
  refine Cd.seq ?_
  refine Cd.seq ?_
  refine Cd.region ?_
  refine Lst.run rfl rfl (by decide) (Ev.move rfl) ?_
  obtain ⟨r2, h3, H⟩ := bind_some H
  refine Lst.call1 rfl rfl (by decide) (vs := [Sl.v s_a0]) ⟨rfl, trivial⟩ Try.call22 (stamp_Check_sim h3 w0 _ M _ (List.Sublist.cons _ hM) (hs_a0.mono (FLe.refl _) (List.Sublist.refl _))) ?_
  refine Lst.run rfl rfl (by decide) (Ev.assign rfl) ?_
  refine Lst.nil ?_
  refine At.then ?_
  refine Cd.seq ?_
  refine Cd.region ?_
  refine Lst.run rfl rfl (by decide) (Ev.move rfl) ?_
  refine Lst.run rfl rfl (by decide) (Ev.neq rfl rfl) ?_
  refine Lst.nil ?_
  refine At.then ?_
  rcases Bool.eq_false_or_eq_true (r2 != (0 : Int)) with hb6 | hb6
  · replace H := ite_t hb6 H
    refine Cd.condT rfl hb6 ?_
    refine Cd.seq ?_
    refine Cd.region ?_
    refine Lst.run rfl rfl (by decide) (Ev.move rfl) ?_
    refine Lst.addNil 3 1 ?_
    refine Lst.run rfl rfl (by decide) (Ev.assign rfl) ?_
    refine Lst.run rfl rfl (by decide) (Ev.assign rfl) ?_
    refine Lst.nil ?_
    refine At.then ?_
    obtain rfl := some_inj H
    refine Cd.ret ?_
    refine At.then_ret ?_
    exact At.ret2 rfl (Res.tmp rfl) (Res.tmp rfl) (FLe.refl _) (List.Sublist.cons_cons _ (List.Sublist.cons _ (List.Sublist.refl _))) ⟨Sl.nil, rfl, rfl⟩
  replace H := ite_f hb6 H
  refine Cd.condF rfl hb6 ?_
  refine Cd.skip ?_
  refine At.then ?_
  refine Cd.seq ?_
  refine Cd.region ?_
  refine Lst.addNil 3 1 ?_
  refine Lst.run rfl rfl (by decide) (Ev.assign rfl) ?_
  refine Lst.nil ?_
  refine At.then ?_
  refine Cd.seq ?_
  refine Cd.region ?_
  refine Lst.alloc (cs := enc (Vector.replicate 6 (0 : Int))) rfl rfl (by decide) Try.zeroValue22 rfl (fun b9 => ?_)
  refine Lst.nil ?_
  refine At.then ?_
  refine Cd.seq ?_
  refine Cd.region ?_
  refine Lst.alloc (cs := enc (Vector.replicate 30 (0 : Int))) rfl rfl (by decide) Try.zeroValue76 rfl (fun b11 => ?_)
  refine Lst.nil ?_
  refine At.then ?_
  refine Cd.seq ?_
  refine Cd.seq ?_
  refine Cd.region ?_
  refine Lst.run rfl rfl (by decide) (Ev.move rfl) ?_
  refine Lst.run rfl rfl (by decide) (Ev.lenS (α := Event) (xs := a0) (by decide) rfl rfl Try.runUnderlying24 (hs_a0.mono (FLe.refl _) (List.Sublist.cons _ (List.Sublist.cons _ (List.Sublist.cons _ (List.Sublist.cons _ hM)))))) ?_
  refine Lst.run rfl rfl (by decide) (Ev.move rfl) ?_
  refine Lst.nil ?_
  refine At.then ?_
  refine Cd.block ?_
  refine Cd.bound (Rd.le (α := Event) (xs := a0) (by decide) (hs_a0.mono (FLe.refl _) (List.Sublist.cons _ (List.Sublist.cons _ (List.Sublist.cons _ (List.Sublist.cons _ hM)))))) (fun hN56 => ?_)
  obtain ⟨ol13, H, HKl13⟩ := bind_some H
  refine Cd.loop (σ := Nat × Nat × (Vector Int 30) × (Vector Int 6) × Sl × (List Int)) (fun (i13, k13, y14, y15, s16, l17) => [(5, Sl.v s16), (6, .pointer (some ⟨b9, 0, none⟩)), (7, .pointer (some ⟨b11, 0, none⟩)), (16, Sl.v s_a0), (17, .int .i64 (a0.length : Int)), (18, .int .i64 (i13 : Int))]) (fun (i13, k13, y14, y15, s16, l17) => (.blk b11 (enc y14) 76) :: (.blk b9 (enc y15) 22) :: (.own s16 3 1 (encs l17)) :: (.own Sl.nil 3 1 (encs ([] : List Int))) :: L) (fun _ => (fun (i13, k13, y14, y15, s16, l17) => rangeF (stamp_Stamps_B0 a0) k13 i13 (y14, y15, l17) = some ol13 ∧ i13 + k13 = a0.length)) (fun (i13, k13, y14, y15, s16, l17) => k13) (0, a0.length, (Vector.replicate 30 (0 : Int)), (Vector.replicate 6 (0 : Int)), Sl.nil, ([] : List Int)) ⟨rfl, rfl, rfl, rfl, rfl, rfl, trivial⟩ rfl ⟨H, by omega⟩ ?_
  rintro F18 ⟨i13, k13, y14, y15, s16, l17⟩ hF19 ⟨H, hik13⟩
  refine Cd.as (e' := [(5, Sl.v s16), (6, .pointer (some ⟨b9, 0, none⟩)), (7, .pointer (some ⟨b11, 0, none⟩)), (16, Sl.v s_a0), (17, .int .i64 (a0.length : Int)), (18, .int .i64 (i13 : Int))]) (L' := (.blk b11 (enc y14) 76) :: (.blk b9 (enc y15) 22) :: (.own s16 3 1 (encs l17)) :: (.own Sl.nil 3 1 (encs ([] : List Int))) :: L) ⟨rfl, rfl, rfl, rfl, rfl, rfl, trivial⟩ rfl ?_
  rcases k13 with _ | k13
  · have hc13 : decide ((i13 : Int) < (a0.length : Int)) = false := decide_eq_false (by omega)
    replace H := rangeF_end H
    refine Cd.seq ?_
    refine Cd.region ?_
    refine Lst.run rfl rfl (by decide) (Ev.lss rfl rfl) ?_
    refine Lst.nil ?_
    refine At.then ?_
    refine Cd.seq ?_
    refine Cd.condF rfl hc13 ?_
    refine Cd.exit ?_
    refine At.then_exit ?_
    refine At.then_exit ?_
    refine At.in_exit ?_
    subst H
    replace H := HKl13
    refine At.then ?_
    refine Cd.seq ?_
    refine Cd.region ?_
    refine Lst.run rfl rfl (by decide) (Ev.move rfl) ?_
    refine Lst.run rfl rfl (by decide) (Ev.assign rfl) ?_
    refine Lst.run rfl rfl (by decide) (Ev.assign rfl) ?_
    refine Lst.nil ?_
    refine At.then ?_
    obtain rfl := some_inj H
    refine Cd.ret ?_
    exact At.ret2 rfl (Res.tmp rfl) (Res.tmp rfl) hF19 (List.Sublist.cons _ (List.Sublist.cons _ (List.Sublist.cons_cons _ (List.Sublist.cons _ (List.Sublist.refl _))))) ⟨s16, rfl, rfl⟩
  have hc13 : decide ((i13 : Int) < (a0.length : Int)) = true := decide_eq_true (by omega)
  obtain ⟨c13, H, hgo13⟩ := rangeF_go H
  unfold stamp_Stamps_B0 at H
  try dsimp only at H
  refine Cd.seq ?_
  refine Cd.region ?_
  refine Lst.run rfl rfl (by decide) (Ev.lss rfl rfl) ?_
  refine Lst.nil ?_
  refine At.then ?_
  refine Cd.seq ?_
  refine Cd.condT rfl hc13 ?_
  refine Cd.skip ?_
  refine At.then ?_
  refine Cd.seq ?_
  refine Cd.block ?_
  refine Cd.seq ?_
  refine Cd.region ?_
  obtain ⟨x20, h21, H⟩ := bind_some H
  have g22 := lat_some h21
  refine Lst.run rfl rfl (by decide) (Ev.indexS (α := Event) (xs := a0) rfl rfl Try.runUnderlying24 Try.sizeOf75 rfl (by decide) (hs_a0.mono hF19 (List.Sublist.cons _ (List.Sublist.cons _ (List.Sublist.cons _ (List.Sublist.cons _ hM))))) g22.1 g22.2.1) ?_
  refine Lst.run rfl rfl (by decide) (Ev.loadSA (α := Event) rfl (hs_a0.mono hF19 (List.Sublist.cons _ (List.Sublist.cons _ (List.Sublist.cons _ (List.Sublist.cons _ hM))))) Try.isAgg75 Try.sizeOf75 (ch := enc x20) (Enc.len _) (by decide) ((Get.elemN (s := 3) (x := x20) rfl g22.2.2 (Get.here _)).off (by omega))) ?_
  refine Lst.alloc (cs := enc Event.zero) rfl rfl (by decide) Try.zeroValue75 rfl (fun b23 => ?_)
  refine Lst.store (i := 0) rfl rfl rfl rfl rfl Try.sizeOf75 (vs := enc x20) rfl (Enc.len _) (Enc.one _) (cs' := enc x20) (Put.here ((Enc.len _).trans (Enc.len _).symm)) (L' := (.blk b23 (enc x20) 75) :: (.blk b11 (enc y14) 76) :: (.blk b9 (enc y15) 22) :: (.own s16 3 1 (encs l17)) :: (.own Sl.nil 3 1 (encs ([] : List Int))) :: L) rfl ?_
  refine Lst.nil ?_
  refine At.then ?_
  refine Cd.seq ?_
  refine Cd.region ?_
  refine Lst.run rfl rfl (by decide) (Ev.fieldAddr (off' := 0) rfl Try.runUnderlying75 rfl Try.sizeOf3 rfl rfl) ?_
  refine Lst.run rfl rfl (by decide) (Ev.load (i := 0) rfl rfl Try.isAgg3 (v := .int .i64 x20.Proc) ((Event.get_Proc (Get.here _)).off (by rfl))) ?_
  obtain ⟨x25, h26, H⟩ := bind_some H
  have g27 := vat_some h26
  refine Lst.run rfl rfl (by decide) (Ev.indexAddr (off' := 0 + x20.Proc.toNat * 1) rfl rfl Try.runUnderlying22 Try.sizeOf3 g27.1 g27.2.1 rfl) ?_
  refine Lst.run rfl rfl (by decide) (Ev.load (i := 2) rfl rfl Try.isAgg3 (v := .int .i64 x25) ((Get.vecN (s := 1) (x := x25) rfl g27.2.2 (Get.here _)).off (by omega))) ?_
  refine Lst.run rfl rfl (by decide) (Ev.assign rfl) ?_
  refine Lst.nil ?_
  refine At.then ?_
  obtain ⟨o29, H, HKo29⟩ := bind_some H
  refine Cd.join (σ := Int) (fun y28 => [(5, Sl.v s16), (6, .pointer (some ⟨b9, 0, none⟩)), (7, .pointer (some ⟨b11, 0, none⟩)), (9, .pointer (some ⟨b23, 0, none⟩)), (10, .int .i64 y28), (16, Sl.v s_a0), (17, .int .i64 (a0.length : Int)), (18, .int .i64 (i13 : Int))]) (fun y28 => (.blk b23 (enc x20) 75) :: (.blk b11 (enc y14) 76) :: (.blk b9 (enc y15) 22) :: (.own s16 3 1 (encs l17)) :: (.own Sl.nil 3 1 (encs ([] : List Int))) :: L) (fun _ y28 => y28 = o29) ?_ ?_
  · refine Cd.seq ?_
    refine Cd.region ?_
    refine Lst.run rfl rfl (by decide) (Ev.fieldAddr (off' := 1) rfl Try.runUnderlying75 rfl Try.sizeOf3 rfl rfl) ?_
    refine Lst.run rfl rfl (by decide) (Ev.load (i := 0) rfl rfl Try.isAgg3 (v := .int .i64 x20.Kind) ((Event.get_Kind (Get.here _)).off (by rfl))) ?_
    refine Lst.run rfl rfl (by decide) (Ev.eql rfl rfl) ?_
    refine Lst.nil ?_
    refine At.then ?_
    rcases (Bool.eq_false_or_eq_true (x20.Kind == (3 : Int))).symm with hb30 | hb30
    · replace H := ite_f hb30 H
      refine Cd.condF rfl hb30 ?_
      refine Cd.skip ?_
      exact At.meet x25 (FLe.refl _) ⟨rfl, rfl, rfl, rfl, rfl, rfl, rfl, rfl, trivial⟩ rfl (some_inj H)
    replace H := ite_t hb30 H
    refine Cd.condT rfl hb30 ?_
    refine Cd.region ?_
    refine Lst.run rfl rfl (by decide) (Ev.move rfl) ?_
    refine Lst.run rfl rfl (by decide) (Ev.fieldAddr (off' := 2) rfl Try.runUnderlying75 rfl Try.sizeOf3 rfl rfl) ?_
    refine Lst.run rfl rfl (by decide) (Ev.load (i := 0) rfl rfl Try.isAgg3 (v := .int .i64 x20.Msg) ((Event.get_Msg (Get.here _)).off (by rfl))) ?_
    obtain ⟨x31, h32, H⟩ := bind_some H
    have g33 := vat_some h32
    refine Lst.run rfl rfl (by decide) (Ev.indexAddr (off' := 0 + x20.Msg.toNat * 1) rfl rfl Try.runUnderlying76 Try.sizeOf3 g33.1 g33.2.1 rfl) ?_
    refine Lst.run rfl rfl (by decide) (Ev.load (i := 1) rfl rfl Try.isAgg3 (v := .int .i64 x31) ((Get.vecN (s := 1) (x := x31) rfl g33.2.2 (Get.here _)).off (by omega))) ?_
    refine Lst.run rfl rfl (by decide) (Ev.max2 rfl rfl) ?_
    refine Lst.run rfl rfl (by decide) (Ev.assign rfl) ?_
    refine Lst.nil ?_
    exact At.meet (max x25 x31) (FLe.refl _) ⟨rfl, rfl, rfl, rfl, rfl, rfl, rfl, rfl, trivial⟩ rfl (some_inj H)
  rintro F34 y28 hF35 hy
  subst hy
  refine Cd.as (e' := [(5, Sl.v s16), (6, .pointer (some ⟨b9, 0, none⟩)), (7, .pointer (some ⟨b11, 0, none⟩)), (9, .pointer (some ⟨b23, 0, none⟩)), (10, .int .i64 y28), (16, Sl.v s_a0), (17, .int .i64 (a0.length : Int)), (18, .int .i64 (i13 : Int))]) (L' := (.blk b23 (enc x20) 75) :: (.blk b11 (enc y14) 76) :: (.blk b9 (enc y15) 22) :: (.own s16 3 1 (encs l17)) :: (.own Sl.nil 3 1 (encs ([] : List Int))) :: L) ⟨rfl, rfl, rfl, rfl, rfl, rfl, rfl, rfl, trivial⟩ rfl ?_
  replace H := HKo29
  refine Cd.seq ?_
  refine Cd.region ?_
  refine Lst.run rfl rfl (by decide) (Ev.move rfl) ?_
  refine Lst.run rfl rfl (by decide) (Ev.add rfl rfl) ?_
  refine Lst.run rfl rfl (by decide) (Ev.assign rfl) ?_
  refine Lst.nil ?_
  refine At.then ?_
  refine Cd.seq ?_
  refine Cd.region ?_
  refine Lst.run rfl rfl (by decide) (Ev.fieldAddr (off' := 0) rfl Try.runUnderlying75 rfl Try.sizeOf3 rfl rfl) ?_
  refine Lst.run rfl rfl (by decide) (Ev.load (i := 0) rfl rfl Try.isAgg3 (v := .int .i64 x20.Proc) ((Event.get_Proc (Get.here _)).off (by rfl))) ?_
  refine Lst.run rfl rfl (by decide) (Ev.move rfl) ?_
  obtain ⟨x36, h37, H⟩ := bind_some H
  have g38 := vat_some h37
  refine Lst.run rfl rfl (by decide) (Ev.indexAddr (off' := 0 + x20.Proc.toNat * 1) rfl rfl Try.runUnderlying22 Try.sizeOf3 g38.1 g38.2.1 rfl) ?_
  obtain ⟨p39, h40, H⟩ := Let_some H
  refine Lst.store (i := 2) rfl rfl rfl rfl rfl Try.sizeOf3 (vs := [.int .i64 (w64 (y28 + (1 : Int)))]) rfl rfl rfl (cs' := enc p39) (by rw [← h40]; exact (Put.vecN (s := 1) (x := x36) rfl g38.2.2 (Put.here (vs := [.int .i64 (w64 (y28 + (1 : Int)))]) rfl)).off (by omega)) (L' := (.blk b23 (enc x20) 75) :: (.blk b11 (enc y14) 76) :: (.blk b9 (enc p39) 22) :: (.own s16 3 1 (encs l17)) :: (.own Sl.nil 3 1 (encs ([] : List Int))) :: L) rfl ?_
  refine Lst.nil ?_
  refine At.then ?_
  obtain ⟨o42, H, HKo42⟩ := bind_some H
  refine Cd.join (σ := (Vector Int 30)) (fun y41 => [(5, Sl.v s16), (6, .pointer (some ⟨b9, 0, none⟩)), (7, .pointer (some ⟨b11, 0, none⟩)), (10, .int .i64 (w64 (y28 + (1 : Int)))), (16, Sl.v s_a0), (17, .int .i64 (a0.length : Int)), (18, .int .i64 (i13 : Int))]) (fun y41 => (.blk b23 (enc x20) 75) :: (.blk b11 (enc y41) 76) :: (.blk b9 (enc p39) 22) :: (.own s16 3 1 (encs l17)) :: (.own Sl.nil 3 1 (encs ([] : List Int))) :: L) (fun _ y41 => y41 = o42) ?_ ?_
  · refine Cd.seq ?_
    refine Cd.region ?_
    refine Lst.run rfl rfl (by decide) (Ev.fieldAddr (off' := 1) rfl Try.runUnderlying75 rfl Try.sizeOf3 rfl rfl) ?_
    refine Lst.run rfl rfl (by decide) (Ev.load (i := 0) rfl rfl Try.isAgg3 (v := .int .i64 x20.Kind) ((Event.get_Kind (Get.here _)).off (by rfl))) ?_
    refine Lst.run rfl rfl (by decide) (Ev.eql rfl rfl) ?_
    refine Lst.nil ?_
    refine At.then ?_
    rcases (Bool.eq_false_or_eq_true (x20.Kind == (2 : Int))).symm with hb43 | hb43
    · replace H := ite_f hb43 H
      refine Cd.condF rfl hb43 ?_
      refine Cd.skip ?_
      exact At.meet y14 (FLe.refl _) ⟨rfl, rfl, rfl, rfl, rfl, rfl, rfl, trivial⟩ rfl (some_inj H)
    replace H := ite_t hb43 H
    refine Cd.condT rfl hb43 ?_
    refine Cd.region ?_
    refine Lst.run rfl rfl (by decide) (Ev.fieldAddr (off' := 2) rfl Try.runUnderlying75 rfl Try.sizeOf3 rfl rfl) ?_
    refine Lst.run rfl rfl (by decide) (Ev.load (i := 0) rfl rfl Try.isAgg3 (v := .int .i64 x20.Msg) ((Event.get_Msg (Get.here _)).off (by rfl))) ?_
    refine Lst.run rfl rfl (by decide) (Ev.move rfl) ?_
    obtain ⟨x44, h45, H⟩ := bind_some H
    have g46 := vat_some h45
    refine Lst.run rfl rfl (by decide) (Ev.indexAddr (off' := 0 + x20.Msg.toNat * 1) rfl rfl Try.runUnderlying76 Try.sizeOf3 g46.1 g46.2.1 rfl) ?_
    obtain ⟨p47, h48, H⟩ := Let_some H
    refine Lst.store (i := 1) rfl rfl rfl rfl rfl Try.sizeOf3 (vs := [.int .i64 (w64 (y28 + (1 : Int)))]) rfl rfl rfl (cs' := enc p47) (by rw [← h48]; exact (Put.vecN (s := 1) (x := x44) rfl g46.2.2 (Put.here (vs := [.int .i64 (w64 (y28 + (1 : Int)))]) rfl)).off (by omega)) (L' := (.blk b23 (enc x20) 75) :: (.blk b11 (enc p47) 76) :: (.blk b9 (enc p39) 22) :: (.own s16 3 1 (encs l17)) :: (.own Sl.nil 3 1 (encs ([] : List Int))) :: L) rfl ?_
    refine Lst.nil ?_
    exact At.meet p47 (FLe.refl _) ⟨rfl, rfl, rfl, rfl, rfl, rfl, rfl, trivial⟩ rfl (some_inj H)
  rintro F49 y41 hF50 hy
  subst hy
  refine Cd.as (e' := [(5, Sl.v s16), (6, .pointer (some ⟨b9, 0, none⟩)), (7, .pointer (some ⟨b11, 0, none⟩)), (10, .int .i64 (w64 (y28 + (1 : Int)))), (16, Sl.v s_a0), (17, .int .i64 (a0.length : Int)), (18, .int .i64 (i13 : Int))]) (L' := (.blk b23 (enc x20) 75) :: (.blk b11 (enc y41) 76) :: (.blk b9 (enc p39) 22) :: (.own s16 3 1 (encs l17)) :: (.own Sl.nil 3 1 (encs ([] : List Int))) :: L) ⟨rfl, rfl, rfl, rfl, rfl, rfl, rfl, trivial⟩ rfl ?_
  replace H := HKo42
  refine Cd.region ?_
  refine Lst.run rfl rfl (by decide) (Ev.move rfl) ?_
  refine Lst.run rfl rfl (by decide) (Ev.move rfl) ?_
  refine Lst.buildSlice (α := Int) (xs := ([w64 (y28 + (1 : Int))] : List Int)) (pv := [(0, .int .i64 (w64 (y28 + (1 : Int))))]) rfl rfl (by decide) ⟨rfl, rfl, trivial⟩ (run_buildSlice (α := Int) (z0 := (0 : Int)) (xs := ([w64 (y28 + (1 : Int))] : List Int)) Try.runUnderlying36 Try.sizeOf3 Try.zeroValue3 rfl rfl rfl (by decide) rfl (fill_cons (cs := encs (List.replicate 1 (0 : Int))) (cs' := encs ((List.replicate 1 (0 : Int)).set 0 (w64 (y28 + (1 : Int))))) (vs := [.int .i64 (w64 (y28 + (1 : Int)))]) rfl rfl rfl ((Put.elemN (s := 1) (i := 0) (x := (0 : Int)) (y := (w64 (y28 + (1 : Int)))) rfl rfl (Put.here (vs := [.int .i64 (w64 (y28 + (1 : Int)))]) rfl)).off rfl) fill_nil)) rfl rfl (by decide) (fun s51 _ => ?_)
  obtain ⟨u53, h54, H⟩ := bind_some H
  refine Lst.append (i := 4) (α := Int) (xs := l17) (ys := ([w64 (y28 + (1 : Int))] : List Int)) rfl rfl (by decide) rfl rfl Try.runUnderlying36 Try.typeInfo3 rfl rfl rfl rfl rfl rfl (Rd.own (i := 0) rfl rfl rfl) rfl (room_some h54) rfl (fun s55 => ?_)
  refine Lst.its (L' := (.own s51 3 1 (encs ([w64 (y28 + (1 : Int))] : List Int))) :: (.blk b23 (enc x20) 75) :: (.blk b11 (enc y41) 76) :: (.blk b9 (enc p39) 22) :: (.own s55 3 1 (encs (l17 ++ ([w64 (y28 + (1 : Int))] : List Int)))) :: (.own Sl.nil 3 1 (encs ([] : List Int))) :: L) rfl ?_
  refine Lst.run rfl rfl (by decide) (Ev.assign rfl) ?_
  refine Lst.nil ?_
  refine At.in_normal ?_
  refine At.then ?_
  refine Cd.region ?_
  refine Lst.run rfl rfl (by decide) (Ev.incr (by omega) rfl rfl) ?_
  refine Lst.run rfl rfl (by decide) (Ev.move rfl) ?_
  refine Lst.nil ?_
  refine At.less (L' := (.blk b11 (enc y41) 76) :: (.blk b9 (enc p39) 22) :: (.own s55 3 1 (encs (l17 ++ ([w64 (y28 + (1 : Int))] : List Int)))) :: (.own Sl.nil 3 1 (encs ([] : List Int))) :: L) (List.Sublist.cons _ (List.Sublist.cons _ (List.Sublist.cons_cons _ (List.Sublist.cons_cons _ (List.Sublist.cons_cons _ (List.Sublist.cons_cons _ (List.Sublist.refl _))))))) ?_
  exact At.meet (i13 + 1, k13, y41, p39, s55, l17 ++ ([w64 (y28 + (1 : Int))] : List Int)) (FLe.trans (FLe.trans hF19 hF35) hF50) ⟨rfl, rfl, rfl, rfl, rfl, rfl, trivial⟩ rfl ⟨⟨hgo13 _ (some_inj H).symm, by omega⟩, Nat.lt_succ_self _⟩
set_option maxRecDepth 20000 in
theorem cmp_isNaN_int_sim {a0 : Int} {r : Bool} (H : cmp_isNaN_int a0 = some r) (w0 : World) (F : Frz) (M L : List Item) (hM : M.Sublist L) : Ok Try.prog w0 68 [.int .i64 a0] F (L) (Is (.bool r) (L)) := by
  unfold cmp_isNaN_int at H
  refine Ok.enter (m := 1) (n := 6) Try.func68 rfl rfl rfl (by decide) ?_
  refine Cd.env (e' := [(0, .int .i64 a0)]) rfl ?_
  refine Cd.seq ?_
  refine Cd.region ?_
  refine Lst.run rfl rfl (by decide) (Ev.assign rfl) ?_
  refine Lst.nil ?_
  refine At.then ?_
  refine Cd.seq ?_
  refine Cd.region ?_
  refine Lst.run rfl rfl (by decide) (Ev.move rfl) ?_
  refine Lst.run rfl rfl (by decide) (Ev.move rfl) ?_
  refine Lst.run rfl rfl (by decide) (Ev.neq rfl rfl) ?_
  refine Lst.run rfl rfl (by decide) (Ev.assign rfl) ?_
  refine Lst.nil ?_
  refine At.then ?_
  obtain rfl := some_inj H
  refine Cd.ret ?_
  exact At.ret1 rfl (Res.tmp rfl) (FLe.refl _) (List.Sublist.refl _) ⟨rfl, rfl⟩
set_option maxRecDepth 20000 in
theorem cmp_Compare_int_sim {a0 : Int} {a1 : Int} {r : Int} (H : cmp_Compare_int a0 a1 = some r) (w0 : World) (F : Frz) (M L : List Item) (hM : M.Sublist L) : Ok Try.prog w0 50 [.int .i64 a0, .int .i64 a1] F (L) (Is (.int .i64 r) (L)) := by
  unfold cmp_Compare_int at H
  refine Ok.enter (m := 2) (n := 20) Try.func50 rfl rfl rfl (by decide) ?_
  refine Cd.env (e' := [(0, .int .i64 a0), (1, .int .i64 a1)]) rfl ?_
  refine Cd.seq ?_
  refine Cd.region ?_
  refine Lst.run rfl rfl (by decide) (Ev.assign rfl) ?_
  refine Lst.nil ?_
  refine At.then ?_
  refine Cd.seq ?_
  refine Cd.region ?_
  refine Lst.run rfl rfl (by decide) (Ev.move rfl) ?_
  obtain ⟨r1, h2, H⟩ := bind_some H
  refine Lst.call1 rfl rfl (by decide) (vs := [.int .i64 a0]) ⟨rfl, trivial⟩ Try.call68 (cmp_isNaN_int_sim h2 w0 _ M _ hM) ?_
  refine Lst.run rfl rfl (by decide) (Ev.assign rfl) ?_
  refine Lst.nil ?_
  refine At.then ?_
  refine Cd.seq ?_
  refine Cd.region ?_
  refine Lst.run rfl rfl (by decide) (Ev.move rfl) ?_
  obtain ⟨r5, h6, H⟩ := bind_some H
  refine Lst.call1 rfl rfl (by decide) (vs := [.int .i64 a1]) ⟨rfl, trivial⟩ Try.call68 (cmp_isNaN_int_sim h6 w0 _ M _ hM) ?_
  refine Lst.run rfl rfl (by decide) (Ev.assign rfl) ?_
  refine Lst.nil ?_
  refine At.then ?_
  refine Cd.seq ?_
  refine Cd.seq ?_
  refine Cd.region ?_
  refine Lst.run rfl rfl (by decide) (Ev.move rfl) ?_
  refine Lst.nil ?_
  refine At.then ?_
  rcases Bool.eq_false_or_eq_true r1 with hb9 | hb9
  · replace H := ite_t hb9 H
    refine Cd.condT rfl hb9 ?_
    refine Cd.seq ?_
    refine Cd.seq ?_
    refine Cd.region ?_
    refine Lst.run rfl rfl (by decide) (Ev.move rfl) ?_
    refine Lst.nil ?_
    refine At.then ?_
    rcases Bool.eq_false_or_eq_true r5 with hb10 | hb10
    · replace H := ite_t hb10 H
      refine Cd.condT rfl hb10 ?_
      refine Cd.seq ?_
      refine Cd.region ?_
      refine Lst.run rfl rfl (by decide) (Ev.assign rfl) ?_
      refine Lst.nil ?_
      refine At.then ?_
      obtain rfl := some_inj H
      refine Cd.ret ?_
      refine At.then_ret ?_
      refine At.then_ret ?_
      exact At.ret1 rfl (Res.tmp rfl) (FLe.refl _) (List.Sublist.refl _) ⟨rfl, rfl⟩
    replace H := ite_f hb10 H
    refine Cd.condF rfl hb10 ?_
    refine Cd.skip ?_
    refine At.then ?_
    refine Cd.seq ?_
    refine Cd.region ?_
    refine Lst.run rfl rfl (by decide) (Ev.assign rfl) ?_
    refine Lst.nil ?_
    refine At.then ?_
    obtain rfl := some_inj H
    refine Cd.ret ?_
    refine At.then_ret ?_
    exact At.ret1 rfl (Res.tmp rfl) (FLe.refl _) (List.Sublist.refl _) ⟨rfl, rfl⟩
  replace H := ite_f hb9 H
  refine Cd.condF rfl hb9 ?_
  refine Cd.skip ?_
  refine At.then ?_
  refine Cd.seq ?_
  refine Cd.seq ?_
  refine Cd.region ?_
  refine Lst.run rfl rfl (by decide) (Ev.move rfl) ?_
  refine Lst.nil ?_
  refine At.then ?_
  rcases Bool.eq_false_or_eq_true r5 with hb11 | hb11
  · replace H := ite_t hb11 H
    refine Cd.condT rfl hb11 ?_
    refine Cd.seq ?_
    refine Cd.region ?_
    refine Lst.run rfl rfl (by decide) (Ev.assign rfl) ?_
    refine Lst.nil ?_
    refine At.then ?_
    obtain rfl := some_inj H
    refine Cd.ret ?_
    refine At.then_ret ?_
    exact At.ret1 rfl (Res.tmp rfl) (FLe.refl _) (List.Sublist.refl _) ⟨rfl, rfl⟩
  replace H := ite_f hb11 H
  refine Cd.condF rfl hb11 ?_
  refine Cd.skip ?_
  refine At.then ?_
  refine Cd.seq ?_
  refine Cd.seq ?_
  refine Cd.region ?_
  refine Lst.run rfl rfl (by decide) (Ev.move rfl) ?_
  refine Lst.run rfl rfl (by decide) (Ev.move rfl) ?_
  refine Lst.run rfl rfl (by decide) (Ev.lss rfl rfl) ?_
  refine Lst.nil ?_
  refine At.then ?_
  rcases Bool.eq_false_or_eq_true (decide (a0 < a1)) with hb12 | hb12
  · replace H := ite_t hb12 H
    refine Cd.condT rfl hb12 ?_
    refine Cd.seq ?_
    refine Cd.region ?_
    refine Lst.run rfl rfl (by decide) (Ev.assign rfl) ?_
    refine Lst.nil ?_
    refine At.then ?_
    obtain rfl := some_inj H
    refine Cd.ret ?_
    refine At.then_ret ?_
    exact At.ret1 rfl (Res.tmp rfl) (FLe.refl _) (List.Sublist.refl _) ⟨rfl, rfl⟩
  replace H := ite_f hb12 H
  refine Cd.condF rfl hb12 ?_
  refine Cd.skip ?_
  refine At.then ?_
  refine Cd.seq ?_
  refine Cd.seq ?_
  refine Cd.region ?_
  refine Lst.run rfl rfl (by decide) (Ev.move rfl) ?_
  refine Lst.run rfl rfl (by decide) (Ev.move rfl) ?_
  refine Lst.run rfl rfl (by decide) (Ev.gtr rfl rfl) ?_
  refine Lst.nil ?_
  refine At.then ?_
  rcases Bool.eq_false_or_eq_true (decide (a0 > a1)) with hb13 | hb13
  · replace H := ite_t hb13 H
    refine Cd.condT rfl hb13 ?_
    refine Cd.seq ?_
    refine Cd.as (e' := []) (L' := L) trivial rfl ?_
    refine Cd.region ?_
    refine Lst.run rfl rfl (by decide) (Ev.assign rfl) ?_
    refine Lst.nil ?_
    refine At.then ?_
    obtain rfl := some_inj H
    refine Cd.ret ?_
    refine At.then_ret ?_
    exact At.ret1 rfl (Res.tmp rfl) (FLe.refl _) (List.Sublist.refl _) ⟨rfl, rfl⟩
  replace H := ite_f hb13 H
  refine Cd.condF rfl hb13 ?_
  refine Cd.skip ?_
  refine At.then ?_
  refine Cd.seq ?_
  refine Cd.as (e' := []) (L' := L) trivial rfl ?_
  refine Cd.region ?_
  refine Lst.run rfl rfl (by decide) (Ev.assign rfl) ?_
  refine Lst.nil ?_
  refine At.then ?_
  obtain rfl := some_inj H
  refine Cd.ret ?_
  exact At.ret1 rfl (Res.tmp rfl) (FLe.refl _) (List.Sublist.refl _) ⟨rfl, rfl⟩
set_option maxRecDepth 20000 in
theorem cmp_Or_int_sim {a0 : List Int} {s_a0 : Sl} {r : Int} (H : cmp_Or_int a0 = some r) (w0 : World) (F : Frz) (M L : List Item) (hM : M.Sublist L) (hs_a0 : Rd w0 F M s_a0 a0) : Ok Try.prog w0 49 [Sl.v s_a0] F (L) (Is (.int .i64 r) (L)) := by
  unfold cmp_Or_int at H
  refine Ok.enter (m := 1) (n := 18) Try.func49 rfl rfl rfl (by decide) ?_
  refine Cd.env (e' := [(0, Sl.v s_a0)]) rfl ?_
  refine Cd.seq ?_
  refine Cd.region ?_
  refine Lst.run rfl rfl (by decide) (Ev.assign rfl) ?_
  refine Lst.nil ?_
  refine At.then ?_
  refine Cd.seq ?_
  refine Cd.region ?_
  refine Lst.run rfl rfl (by decide) (Ev.assign rfl) ?_
  refine Lst.nil ?_
  refine At.then ?_
  refine Cd.seq ?_
  refine Cd.seq ?_
  refine Cd.region ?_
  refine Lst.run rfl rfl (by decide) (Ev.move rfl) ?_
  refine Lst.run rfl rfl (by decide) (Ev.lenS (α := Int) (xs := a0) (by decide) rfl rfl Try.runUnderlying36 (hs_a0.mono (FLe.refl _) hM)) ?_
  refine Lst.run rfl rfl (by decide) (Ev.move rfl) ?_
  refine Lst.nil ?_
  refine At.then ?_
  refine Cd.block ?_
  refine Cd.bound (Rd.le (α := Int) (xs := a0) (by decide) (hs_a0.mono (FLe.refl _) hM)) (fun hN8 => ?_)
  obtain ⟨ol1, H, HKl1⟩ := andThen_some H
  refine Cd.loop (σ := Nat × Nat × Unit) (fun (i1, k1, _u) => [(3, .int .i64 (0 : Int)), (6, Sl.v s_a0), (7, .int .i64 (a0.length : Int)), (8, .int .i64 (i1 : Int))]) (fun (i1, k1, _u) => L) (fun _ => (fun (i1, k1, _u) => rangeM (cmp_Or_int_B0 a0) k1 i1 () = some ol1 ∧ i1 + k1 = a0.length)) (fun (i1, k1, _u) => k1) (0, a0.length, ()) ⟨rfl, rfl, rfl, rfl, trivial⟩ rfl ⟨H, by omega⟩ ?_
  rintro F2 ⟨i1, k1, _u⟩ hF3 ⟨H, hik1⟩
  refine Cd.as (e' := [(3, .int .i64 (0 : Int)), (6, Sl.v s_a0), (7, .int .i64 (a0.length : Int)), (8, .int .i64 (i1 : Int))]) (L' := L) ⟨rfl, rfl, rfl, rfl, trivial⟩ rfl ?_
  rcases k1 with _ | k1
  · have hc1 : decide ((i1 : Int) < (a0.length : Int)) = false := decide_eq_false (by omega)
    replace H := rangeM_end H
    refine Cd.seq ?_
    refine Cd.region ?_
    refine Lst.run rfl rfl (by decide) (Ev.lss rfl rfl) ?_
    refine Lst.nil ?_
    refine At.then ?_
    refine Cd.seq ?_
    refine Cd.condF rfl hc1 ?_
    refine Cd.exit ?_
    refine At.then_exit ?_
    refine At.then_exit ?_
    refine At.in_exit ?_
    subst H
    replace H := HKl1
    refine At.then ?_
    refine Cd.seq ?_
    refine Cd.region ?_
    refine Lst.run rfl rfl (by decide) (Ev.move rfl) ?_
    refine Lst.run rfl rfl (by decide) (Ev.assign rfl) ?_
    refine Lst.nil ?_
    refine At.then ?_
    obtain rfl := some_inj H
    refine Cd.ret ?_
    exact At.ret1 rfl (Res.tmp rfl) hF3 (List.Sublist.refl _) ⟨rfl, rfl⟩
  have hc1 : decide ((i1 : Int) < (a0.length : Int)) = true := decide_eq_true (by omega)
  obtain ⟨c1, H, hgo1, hbrk1, hret1⟩ := rangeM_go H
  unfold cmp_Or_int_B0 at H
  try dsimp only at H
  refine Cd.seq ?_
  refine Cd.region ?_
  refine Lst.run rfl rfl (by decide) (Ev.lss rfl rfl) ?_
  refine Lst.nil ?_
  refine At.then ?_
  refine Cd.seq ?_
  refine Cd.condT rfl hc1 ?_
  refine Cd.skip ?_
  refine At.then ?_
  refine Cd.seq ?_
  refine Cd.block ?_
  refine Cd.seq ?_
  refine Cd.region ?_
  obtain ⟨x4, h5, H⟩ := bind_some H
  have g6 := lat_some h5
  refine Lst.run rfl rfl (by decide) (Ev.indexS (α := Int) (xs := a0) rfl rfl Try.runUnderlying36 Try.sizeOf3 rfl (by decide) (hs_a0.mono hF3 hM) g6.1 g6.2.1) ?_
  refine Lst.run rfl rfl (by decide) (Ev.loadS (α := Int) rfl (hs_a0.mono hF3 hM) Try.isAgg3 (v := .int .i64 x4) ((Get.elemN (s := 1) (x := x4) rfl g6.2.2 (Get.here _)).off (by omega))) ?_
  refine Lst.run rfl rfl (by decide) (Ev.assign rfl) ?_
  refine Lst.nil ?_
  refine At.then ?_
  refine Cd.seq ?_
  refine Cd.region ?_
  refine Lst.run rfl rfl (by decide) (Ev.move rfl) ?_
  refine Lst.run rfl rfl (by decide) (Ev.move rfl) ?_
  refine Lst.run rfl rfl (by decide) (Ev.neq rfl rfl) ?_
  refine Lst.nil ?_
  refine At.then ?_
  rcases Bool.eq_false_or_eq_true (x4 != (0 : Int)) with hb7 | hb7
  · replace H := ite_t hb7 H
    refine Cd.condT rfl hb7 ?_
    refine Cd.seq ?_
    refine Cd.region ?_
    refine Lst.run rfl rfl (by decide) (Ev.move rfl) ?_
    refine Lst.run rfl rfl (by decide) (Ev.assign rfl) ?_
    refine Lst.nil ?_
    refine At.then ?_
    have H := hret1 _ (some_inj H).symm
    subst H
    replace H := HKl1
    obtain rfl := some_inj H
    refine Cd.ret ?_
    refine At.in_ret ?_
    refine At.then_ret ?_
    refine At.then_ret ?_
    refine At.in_ret ?_
    refine At.then_ret ?_
    exact At.ret1 rfl (Res.tmp rfl) hF3 (List.Sublist.refl _) ⟨rfl, rfl⟩
  replace H := ite_f hb7 H
  refine Cd.condF rfl hb7 ?_
  refine Cd.skip ?_
  refine At.in_normal ?_
  refine At.then ?_
  refine Cd.region ?_
  refine Lst.run rfl rfl (by decide) (Ev.incr (by omega) rfl rfl) ?_
  refine Lst.run rfl rfl (by decide) (Ev.move rfl) ?_
  refine Lst.nil ?_
  exact At.meet (i1 + 1, k1, ()) hF3 ⟨rfl, rfl, rfl, rfl, trivial⟩ rfl ⟨⟨hgo1 _ (some_inj H).symm, by omega⟩, Nat.lt_succ_self _⟩
set_option maxRecDepth 20000 in
theorem stamp_Total_1_sim {a0 : Int} {a1 : Int} {a2 : List Int} {a3 : List Event} {b_a2 : Nat} {s_a2 : Sl} {b_a3 : Nat} {s_a3 : Sl} {r : Int} (H : stamp_Total_1 a0 a1 a2 a3 = some r) (w0 : World) (F : Frz) (M L : List Item) (hM : M.Sublist L) (hs_a2 : Rd w0 F M s_a2 a2) (hs_a3 : Rd w0 F M s_a3 a3) : Ok Try.prog w0 48 [.int .i64 a0, .int .i64 a1, .pointer (some ⟨b_a2, 0, none⟩), .pointer (some ⟨b_a3, 0, none⟩)] F ((.blk b_a2 (enc s_a2) 36) :: (.blk b_a3 (enc s_a3) 24) :: L) (Is (.int .i64 r) ((.blk b_a2 (enc s_a2) 36) :: (.blk b_a3 (enc s_a3) 24) :: L)) := by
  unfold stamp_Total_1 at H
  refine Ok.enter (m := 4) (n := 29) Try.func48 rfl rfl rfl (by decide) ?_
  refine Cd.env (e' := [(0, .int .i64 a0), (1, .int .i64 a1), (2, .pointer (some ⟨b_a2, 0, none⟩)), (3, .pointer (some ⟨b_a3, 0, none⟩))]) rfl ?_
  refine Cd.seq ?_
  refine Cd.region ?_
  refine Lst.run rfl rfl (by decide) (Ev.assign rfl) ?_
  refine Lst.nil ?_
  refine At.then ?_
  refine Cd.seq ?_
  refine Cd.tail 20 (by kernel_rfl) (by kernel_rfl) ?_
  refine Qt.run rfl rfl (by decide) (Ev.load (i := 0) rfl rfl Try.isAgg36 (v := Sl.v s_a2) (Get.here _)) ?_
  refine Qt.run rfl rfl (by decide) (Ev.move rfl) ?_
  obtain ⟨x3, h4, H⟩ := bind_some H
  have g5 := lat_some h4
  refine Qt.run rfl rfl (by decide) (Ev.indexS (α := Int) (xs := a2) rfl rfl Try.runUnderlying36 Try.sizeOf3 rfl (by decide) (hs_a2.mono (FLe.refl _) (List.Sublist.cons _ (List.Sublist.cons _ hM))) g5.1 g5.2.1) ?_
  refine Qt.run rfl rfl (by decide) (Ev.loadS (α := Int) rfl (hs_a2.mono (FLe.refl _) (List.Sublist.cons _ (List.Sublist.cons _ hM))) Try.isAgg3 (v := .int .i64 x3) ((Get.elemN (s := 1) (x := x3) rfl g5.2.2 (Get.here _)).off (by omega))) ?_
  refine Qt.run rfl rfl (by decide) (Ev.load (i := 0) rfl rfl Try.isAgg36 (v := Sl.v s_a2) (Get.here _)) ?_
  refine Qt.run rfl rfl (by decide) (Ev.move rfl) ?_
  obtain ⟨x6, h7, H⟩ := bind_some H
  have g8 := lat_some h7
  refine Qt.run rfl rfl (by decide) (Ev.indexS (α := Int) (xs := a2) rfl rfl Try.runUnderlying36 Try.sizeOf3 rfl (by decide) (hs_a2.mono (FLe.refl _) (List.Sublist.cons _ (List.Sublist.cons _ hM))) g8.1 g8.2.1) ?_
  refine Qt.run rfl rfl (by decide) (Ev.loadS (α := Int) rfl (hs_a2.mono (FLe.refl _) (List.Sublist.cons _ (List.Sublist.cons _ hM))) Try.isAgg3 (v := .int .i64 x6) ((Get.elemN (s := 1) (x := x6) rfl g8.2.2 (Get.here _)).off (by omega))) ?_
  obtain ⟨r9, h10, H⟩ := bind_some H
  refine Qt.call rfl rfl (by decide) (vs := [.int .i64 x3, .int .i64 x6]) ⟨rfl, rfl, trivial⟩ Try.call50 (cmp_Compare_int_sim h10 w0 _ M _ (List.Sublist.cons _ (List.Sublist.cons _ hM))) ?_
  refine Qt.run rfl rfl (by decide) (Ev.load (i := 1) rfl rfl Try.isAgg24 (v := Sl.v s_a3) (Get.here _)) ?_
  refine Qt.run rfl rfl (by decide) (Ev.move rfl) ?_
  obtain ⟨x13, h14, H⟩ := bind_some H
  have g15 := lat_some h14
  refine Qt.run rfl rfl (by decide) (Ev.indexS (α := Event) (xs := a3) rfl rfl Try.runUnderlying24 Try.sizeOf75 rfl (by decide) (hs_a3.mono (FLe.refl _) (List.Sublist.cons _ (List.Sublist.cons _ hM))) g15.1 g15.2.1) ?_
  refine Qt.run rfl rfl (by decide) (Ev.fieldS (α := Event) (f' := a0.toNat * 3 + 0) rfl (hs_a3.mono (FLe.refl _) (List.Sublist.cons _ (List.Sublist.cons _ hM))) ((Get.elemN (s := 3) (x := x13) rfl g15.2.2 (Get.here _)).off (by omega)) rfl Try.runUnderlying75 rfl Try.sizeOf3 rfl rfl rfl) ?_
  refine Qt.run rfl rfl (by decide) (Ev.loadS (α := Event) rfl (hs_a3.mono (FLe.refl _) (List.Sublist.cons _ (List.Sublist.cons _ hM))) Try.isAgg3 (v := .int .i64 x13.Proc) ((Get.elemN (s := 3) (x := x13) rfl g15.2.2 (Event.get_Proc (Get.here _))).off (by omega))) ?_
  refine Qt.run rfl rfl (by decide) (Ev.load (i := 1) rfl rfl Try.isAgg24 (v := Sl.v s_a3) (Get.here _)) ?_
  refine Qt.run rfl rfl (by decide) (Ev.move rfl) ?_
  obtain ⟨x16, h17, H⟩ := bind_some H
  have g18 := lat_some h17
  refine Qt.run rfl rfl (by decide) (Ev.indexS (α := Event) (xs := a3) rfl rfl Try.runUnderlying24 Try.sizeOf75 rfl (by decide) (hs_a3.mono (FLe.refl _) (List.Sublist.cons _ (List.Sublist.cons _ hM))) g18.1 g18.2.1) ?_
  refine Qt.run rfl rfl (by decide) (Ev.fieldS (α := Event) (f' := a1.toNat * 3 + 0) rfl (hs_a3.mono (FLe.refl _) (List.Sublist.cons _ (List.Sublist.cons _ hM))) ((Get.elemN (s := 3) (x := x16) rfl g18.2.2 (Get.here _)).off (by omega)) rfl Try.runUnderlying75 rfl Try.sizeOf3 rfl rfl rfl) ?_
  refine Qt.run rfl rfl (by decide) (Ev.loadS (α := Event) rfl (hs_a3.mono (FLe.refl _) (List.Sublist.cons _ (List.Sublist.cons _ hM))) Try.isAgg3 (v := .int .i64 x16.Proc) ((Get.elemN (s := 3) (x := x16) rfl g18.2.2 (Event.get_Proc (Get.here _))).off (by omega))) ?_
  obtain ⟨r19, h20, H⟩ := bind_some H
  refine Qt.call rfl rfl (by decide) (vs := [.int .i64 x13.Proc, .int .i64 x16.Proc]) ⟨rfl, rfl, trivial⟩ Try.call50 (cmp_Compare_int_sim h20 w0 _ M _ (List.Sublist.cons _ (List.Sublist.cons _ hM))) ?_
  refine Qt.tail ?_
  refine Lst.buildSlice (α := Int) (xs := ([r9, r19] : List Int)) (pv := [(0, .int .i64 r9), (1, .int .i64 r19)]) rfl rfl (by decide) ⟨rfl, rfl, ⟨rfl, rfl, trivial⟩⟩ (run_buildSlice (α := Int) (z0 := (0 : Int)) (xs := ([r9, r19] : List Int)) Try.runUnderlying36 Try.sizeOf3 Try.zeroValue3 rfl rfl rfl (by decide) rfl (fill_cons (cs := encs (List.replicate 2 (0 : Int))) (cs' := encs ((List.replicate 2 (0 : Int)).set 0 r9)) (vs := [.int .i64 r9]) rfl rfl rfl ((Put.elemN (s := 1) (i := 0) (x := (0 : Int)) (y := r9) rfl rfl (Put.here (vs := [.int .i64 r9]) rfl)).off rfl) (fill_cons (cs := encs ((List.replicate 2 (0 : Int)).set 0 r9)) (cs' := encs (((List.replicate 2 (0 : Int)).set 0 r9).set 1 r19)) (vs := [.int .i64 r19]) rfl rfl rfl ((Put.elemN (s := 1) (i := 1) (x := (0 : Int)) (y := r19) rfl rfl (Put.here (vs := [.int .i64 r19]) rfl)).off rfl) fill_nil))) rfl rfl (by decide) (fun s23 _ => ?_)
  obtain ⟨r25, h26, H⟩ := bind_some H
  refine Lst.call1 rfl rfl (by decide) (vs := [Sl.v s23]) ⟨rfl, trivial⟩ Try.call49 (cmp_Or_int_sim h26 w0 _ _ _ (List.Sublist.refl _) (Rd.own (i := 0) rfl rfl rfl)) ?_
  refine Lst.run rfl rfl (by decide) (Ev.assign rfl) ?_
  refine Lst.nil ?_
  refine At.then ?_
  obtain rfl := some_inj H
  refine Cd.ret ?_
  exact At.ret1 rfl (Res.tmp rfl) (FLe.refl _) (List.Sublist.cons _ (List.Sublist.cons_cons _ (List.Sublist.cons_cons _ (List.Sublist.refl _)))) ⟨rfl, rfl⟩
set_option maxRecDepth 20000 in
theorem slices_insertionSortCmpFunc_int_Total_1_sim {fu : Nat} {a0 : List Int} {a1 : Int} {a2 : Int} {a3_c0 : List Int} {a3_c1 : List Event} {s_a0 : Sl} {b_a3_c0 : Nat} {s_a3_c0 : Sl} {b_a3_c1 : Nat} {s_a3_c1 : Sl} {r : (List Int)} (H : slices_insertionSortCmpFunc_int_Total_1 fu a0 a1 a2 a3_c0 a3_c1 = some r) (w0 : World) (F : Frz) (M L : List Item) (hM : M.Sublist L) (hs_a3_c0 : Rd w0 F M s_a3_c0 a3_c0) (hs_a3_c1 : Rd w0 F M s_a3_c1 a3_c1) : Ok Try.prog w0 73 [Sl.v s_a0, .int .i64 a1, .int .i64 a2, .func (.func 48) #[] #[.pointer (some ⟨b_a3_c0, 0, none⟩), .pointer (some ⟨b_a3_c1, 0, none⟩)]] F ((.own s_a0 3 1 (encs a0)) :: (.blk b_a3_c0 (enc s_a3_c0) 36) :: (.blk b_a3_c1 (enc s_a3_c1) 24) :: L) (fun _ L' v => v = .tuple #[] ∧ L' = (.own s_a0 3 1 (encs r)) :: (.blk b_a3_c0 (enc s_a3_c0) 36) :: (.blk b_a3_c1 (enc s_a3_c1) 24) :: L) := by
  unfold slices_insertionSortCmpFunc_int_Total_1 at H
  refine Ok.enter (m := 4) (n := 53) Try.func73 rfl rfl rfl (by decide) ?_
  refine Cd.env (e' := [(0, Sl.v s_a0), (1, .int .i64 a1), (2, .int .i64 a2), (3, .func (.func 48) #[] #[.pointer (some ⟨b_a3_c0, 0, none⟩), .pointer (some ⟨b_a3_c1, 0, none⟩)])]) rfl ?_
  refine Cd.seq ?_
  refine Cd.region ?_
  refine Lst.run rfl rfl (by decide) (Ev.move rfl) ?_
  refine Lst.run rfl rfl (by decide) (Ev.add rfl rfl) ?_
  refine Lst.run rfl rfl (by decide) (Ev.assign rfl) ?_
  refine Lst.nil ?_
  refine At.then ?_
  refine Cd.block ?_
  obtain ⟨ol4, H, HKl4⟩ := andThen_some H
  refine Cd.loop (σ := Nat × Int × (List Int)) (fun (k4, y5, l6) => [(0, Sl.v s_a0), (1, .int .i64 a1), (2, .int .i64 a2), (3, .func (.func 48) #[] #[.pointer (some ⟨b_a3_c0, 0, none⟩), .pointer (some ⟨b_a3_c1, 0, none⟩)]), (8, .int .i64 y5)]) (fun (k4, y5, l6) => (.own s_a0 3 1 (encs l6)) :: (.blk b_a3_c0 (enc s_a3_c0) 36) :: (.blk b_a3_c1 (enc s_a3_c1) 24) :: L) (fun _ => (fun (k4, y5, l6) => whileM (slices_insertionSortCmpFunc_int_Total_1_B0 fu a1 a2 a3_c0 a3_c1) k4 (y5, l6) = some ol4)) (fun (k4, y5, l6) => k4) (fu, w64 (a1 + (1 : Int)), a0) ⟨rfl, rfl, rfl, rfl, rfl, trivial⟩ rfl H ?_
  rintro F7 ⟨k4, y5, l6⟩ hF8 H
  refine Cd.as (e' := [(0, Sl.v s_a0), (1, .int .i64 a1), (2, .int .i64 a2), (3, .func (.func 48) #[] #[.pointer (some ⟨b_a3_c0, 0, none⟩), .pointer (some ⟨b_a3_c1, 0, none⟩)]), (8, .int .i64 y5)]) (L' := (.own s_a0 3 1 (encs l6)) :: (.blk b_a3_c0 (enc s_a3_c0) 36) :: (.blk b_a3_c1 (enc s_a3_c1) 24) :: L) ⟨rfl, rfl, rfl, rfl, rfl, trivial⟩ rfl ?_
  rcases k4 with _ | k4
  · cases H
  obtain ⟨c4, H, hgo4, hbrk4, hret4⟩ := whileM_go H
  unfold slices_insertionSortCmpFunc_int_Total_1_B0 at H
  try dsimp only at H
  refine Cd.seq ?_
  refine Cd.seq ?_
  refine Cd.region ?_
  refine Lst.run rfl rfl (by decide) (Ev.move rfl) ?_
  refine Lst.run rfl rfl (by decide) (Ev.move rfl) ?_
  refine Lst.run rfl rfl (by decide) (Ev.lss rfl rfl) ?_
  refine Lst.nil ?_
  refine At.then ?_
  rcases (Bool.eq_false_or_eq_true (decide (y5 < a2))).symm with hb9 | hb9
  · replace H := ite_f hb9 H
    refine Cd.condF rfl hb9 ?_
    refine Cd.exit ?_
    refine At.then_exit ?_
    refine At.then_exit ?_
    refine At.in_exit ?_
    have H := hbrk4 _ (some_inj H).symm
    subst H
    replace H := HKl4
    obtain rfl := some_inj H
    exact At.ret0 (.inr rfl) rfl hF8 (List.Sublist.cons_cons _ (List.Sublist.cons_cons _ (List.Sublist.cons_cons _ (List.Sublist.refl _)))) ⟨rfl, rfl⟩
  replace H := ite_t hb9 H
  refine Cd.condT rfl hb9 ?_
  refine Cd.skip ?_
  refine At.then ?_
  refine Cd.seq ?_
  refine Cd.block ?_
  refine Cd.seq ?_
  refine Cd.region ?_
  refine Lst.run rfl rfl (by decide) (Ev.move rfl) ?_
  refine Lst.run rfl rfl (by decide) (Ev.assign rfl) ?_
  refine Lst.nil ?_
  refine At.then ?_
  refine Cd.block ?_
  obtain ⟨ol10, H, HKl10⟩ := andThen_some H
  refine Cd.loop (σ := Nat × Int × (List Int)) (fun (k10, y11, l12) => [(0, Sl.v s_a0), (1, .int .i64 a1), (2, .int .i64 a2), (3, .func (.func 48) #[] #[.pointer (some ⟨b_a3_c0, 0, none⟩), .pointer (some ⟨b_a3_c1, 0, none⟩)]), (8, .int .i64 y5), (9, .int .i64 y11)]) (fun (k10, y11, l12) => (.own s_a0 3 1 (encs l12)) :: (.blk b_a3_c0 (enc s_a3_c0) 36) :: (.blk b_a3_c1 (enc s_a3_c1) 24) :: L) (fun _ => (fun (k10, y11, l12) => whileM (slices_insertionSortCmpFunc_int_Total_1_B2 a1 a3_c0 a3_c1) k10 (y11, l12) = some ol10)) (fun (k10, y11, l12) => k10) (fu, y5, l6) ⟨rfl, rfl, rfl, rfl, rfl, rfl, trivial⟩ rfl H ?_
  rintro F13 ⟨k10, y11, l12⟩ hF14 H
  refine Cd.as (e' := [(0, Sl.v s_a0), (1, .int .i64 a1), (2, .int .i64 a2), (3, .func (.func 48) #[] #[.pointer (some ⟨b_a3_c0, 0, none⟩), .pointer (some ⟨b_a3_c1, 0, none⟩)]), (8, .int .i64 y5), (9, .int .i64 y11)]) (L' := (.own s_a0 3 1 (encs l12)) :: (.blk b_a3_c0 (enc s_a3_c0) 36) :: (.blk b_a3_c1 (enc s_a3_c1) 24) :: L) ⟨rfl, rfl, rfl, rfl, rfl, rfl, trivial⟩ rfl ?_
  rcases k10 with _ | k10
  · cases H
  obtain ⟨c10, H, hgo10, hbrk10, hret10⟩ := whileM_go H
  unfold slices_insertionSortCmpFunc_int_Total_1_B2 at H
  try dsimp only at H
  refine Cd.seq ?_
  refine Cd.seq ?_
  refine Cd.quiet (by kernel_rfl) (by kernel_rfl) ?_
  refine Qt.run rfl rfl (by decide) (Ev.move rfl) ?_
  refine Qt.run rfl rfl (by decide) (Ev.move rfl) ?_
  refine Qt.run rfl rfl (by decide) (Ev.gtr rfl rfl) ?_
  refine Qt.run rfl rfl (by decide) (Ev.move rfl) ?_
  obtain ⟨o15, H, HKo15⟩ := bind_some H
  refine Qt.join (σ := Bool) 13 (fun y16 => [(0, Sl.v s_a0), (1, .int .i64 a1), (2, .int .i64 a2), (3, .func (.func 48) #[] #[.pointer (some ⟨b_a3_c0, 0, none⟩), .pointer (some ⟨b_a3_c1, 0, none⟩)]), (8, .int .i64 y5), (9, .int .i64 y11), (34, .bool y16)]) (fun y16 => y16 = o15) ?_ ?_
  · rcases (Bool.eq_false_or_eq_true (decide (y11 > a1))).symm with hb17 | hb17
    · replace H := ite_f hb17 H
      refine Qt.skip rfl rfl rfl hb17 rfl (by decide) ?_
      refine Qt.skip rfl rfl rfl hb17 rfl (by decide) ?_
      refine Qt.skip rfl rfl rfl hb17 rfl (by decide) ?_
      refine Qt.skip rfl rfl rfl hb17 rfl (by decide) ?_
      refine Qt.skip rfl rfl rfl hb17 rfl (by decide) ?_
      refine Qt.skip rfl rfl rfl hb17 rfl (by decide) ?_
      refine Qt.skip rfl rfl rfl hb17 rfl (by decide) ?_
      refine Qt.skip rfl rfl rfl hb17 rfl (by decide) ?_
      refine Qt.skip rfl rfl rfl hb17 rfl (by decide) ?_
      refine Qt.skip rfl rfl rfl hb17 rfl (by decide) ?_
      refine Qt.skip rfl rfl rfl hb17 rfl (by decide) ?_
      refine Qt.skip rfl rfl rfl hb17 rfl (by decide) ?_
      refine Qt.run rfl rfl (by decide) (Ev.pickF rfl hb17 rfl) ?_
      exact Qt.meet false ⟨rfl, rfl, rfl, rfl, rfl, rfl, rfl, trivial⟩ (some_inj H)
    replace H := ite_t hb17 H
    refine Qt.runG rfl rfl rfl hb17 rfl (by decide) (Ev.move rfl) ?_
    refine Qt.runG rfl rfl rfl hb17 rfl (by decide) (Ev.move rfl) ?_
    refine Qt.runG rfl rfl rfl hb17 rfl (by decide) (Ev.move rfl) ?_
    obtain ⟨x18, h19, H⟩ := bind_some H
    have g20 := lat_some h19
    refine Qt.runG rfl rfl rfl hb17 rfl (by decide) (Ev.indexS (α := Int) (xs := l12) rfl rfl Try.runUnderlying36 Try.sizeOf3 rfl (by decide) (Rd.own (i := 0) rfl rfl rfl) g20.1 g20.2.1) ?_
    refine Qt.runG rfl rfl rfl hb17 rfl (by decide) (Ev.loadS (α := Int) rfl (Rd.own (i := 0) rfl rfl rfl) Try.isAgg3 (v := .int .i64 x18) ((Get.elemN (s := 1) (x := x18) rfl g20.2.2 (Get.here _)).off (by omega))) ?_
    refine Qt.runG rfl rfl rfl hb17 rfl (by decide) (Ev.move rfl) ?_
    refine Qt.runG rfl rfl rfl hb17 rfl (by decide) (Ev.move rfl) ?_
    refine Qt.runG rfl rfl rfl hb17 rfl (by decide) (Ev.sub rfl rfl) ?_
    obtain ⟨x21, h22, H⟩ := bind_some H
    have g23 := lat_some h22
    refine Qt.runG rfl rfl rfl hb17 rfl (by decide) (Ev.indexS (α := Int) (xs := l12) rfl rfl Try.runUnderlying36 Try.sizeOf3 rfl (by decide) (Rd.own (i := 0) rfl rfl rfl) g23.1 g23.2.1) ?_
    refine Qt.runG rfl rfl rfl hb17 rfl (by decide) (Ev.loadS (α := Int) rfl (Rd.own (i := 0) rfl rfl rfl) Try.isAgg3 (v := .int .i64 x21) ((Get.elemN (s := 1) (x := x21) rfl g23.2.2 (Get.here _)).off (by omega))) ?_
    obtain ⟨r24, h25, H⟩ := bind_some H
    refine Qt.callVG rfl rfl rfl hb17 rfl (by decide) (vs := [.int .i64 x18, .int .i64 x21]) (cs := [.pointer (some ⟨b_a3_c0, 0, none⟩), .pointer (some ⟨b_a3_c1, 0, none⟩)]) rfl ⟨rfl, rfl, trivial⟩ Try.call48 (Ok.isPerm (List.Perm.trans (front_perm (i := 2) rfl) (front_perm (i := 2) rfl)) (stamp_Total_1_sim h25 w0 _ M _ (List.Sublist.cons _ hM) (hs_a3_c0.mono (FLe.trans hF8 hF14) (List.Sublist.refl _)) (hs_a3_c1.mono (FLe.trans hF8 hF14) (List.Sublist.refl _)))) ?_
    refine Qt.runG rfl rfl rfl hb17 rfl (by decide) (Ev.lss rfl rfl) ?_
    refine Qt.run rfl rfl (by decide) (Ev.pickT rfl hb17 rfl) ?_
    exact Qt.meet (decide (r24 < (0 : Int))) ⟨rfl, rfl, rfl, rfl, rfl, rfl, rfl, trivial⟩ (some_inj H)
  rintro y16 hy
  subst hy
  refine Qt.as (e' := [(0, Sl.v s_a0), (1, .int .i64 a1), (2, .int .i64 a2), (3, .func (.func 48) #[] #[.pointer (some ⟨b_a3_c0, 0, none⟩), .pointer (some ⟨b_a3_c1, 0, none⟩)]), (8, .int .i64 y5), (9, .int .i64 y11), (34, .bool y16)]) ⟨rfl, rfl, rfl, rfl, rfl, rfl, rfl, trivial⟩ ?_
  replace H := HKo15
  refine Qt.done ?_
  refine At.then ?_
  rcases (Bool.eq_false_or_eq_true y16).symm with hb28 | hb28
  · replace H := ite_f hb28 H
    refine Cd.condF rfl hb28 ?_
    refine Cd.exit ?_
    refine At.then_exit ?_
    refine At.then_exit ?_
    refine At.in_exit ?_
    have H := hbrk10 _ (some_inj H).symm
    subst H
    replace H := HKl10
    refine At.in_normal ?_
    refine At.then ?_
    refine Cd.region ?_
    refine Lst.run rfl rfl (by decide) (Ev.move rfl) ?_
    refine Lst.run rfl rfl (by decide) (Ev.add rfl rfl) ?_
    refine Lst.run rfl rfl (by decide) (Ev.assign rfl) ?_
    refine Lst.nil ?_
    exact At.meet (k4, w64 (y5 + (1 : Int)), l12) (FLe.trans hF8 hF14) ⟨rfl, rfl, rfl, rfl, rfl, trivial⟩ rfl ⟨hgo4 _ (some_inj H).symm, Nat.lt_succ_self _⟩
  replace H := ite_t hb28 H
  refine Cd.condT rfl hb28 ?_
  refine Cd.skip ?_
  refine At.then ?_
  refine Cd.seq ?_
  refine Cd.block ?_
  obtain ⟨x29, h30, H⟩ := bind_some H
  obtain ⟨x32, h33, H⟩ := bind_some H
  obtain ⟨x35, h36, H⟩ := bind_some H
  obtain ⟨p38, h39, H⟩ := Let_some H
  obtain ⟨o42, h43, H⟩ := Let_some H
  refine Cd.headMeet (σ := (List Int)) 16 (fun l41 => [(0, Sl.v s_a0), (1, .int .i64 a1), (2, .int .i64 a2), (3, .func (.func 48) #[] #[.pointer (some ⟨b_a3_c0, 0, none⟩), .pointer (some ⟨b_a3_c1, 0, none⟩)]), (8, .int .i64 y5), (9, .int .i64 y11), (39, Sl.v s_a0), (41, .int .i64 (w64 (y11 - (1 : Int)))), (50, .int .i64 x32)]) (fun l41 => (.own s_a0 3 1 (encs l41)) :: (.blk b_a3_c0 (enc s_a3_c0) 36) :: (.blk b_a3_c1 (enc s_a3_c1) 24) :: L) (fun _ l41 => l41 = o42) (by kernel_rfl) (by kernel_rfl) (behind_sink (by kernel_rfl) (by kernel_rfl) (by kernel_rfl)) (by kernel_rfl) (fun hsel hlt => ?_) ?_
  · refine HdJ.keep (fun w => St w0 F13 ((.blk b_a3_c0 (enc s_a3_c0) 36) :: (.blk b_a3_c1 (enc s_a3_c1) 24) :: L) w) (fun w h => trivial) ?_
    refine HdJ.takeK hsel hlt 0 (fun w h => h.sublist (List.Sublist.cons _ (List.Sublist.cons_cons _ (List.Sublist.cons_cons _ (List.Sublist.refl _))))) rfl rfl (by decide) (by decide) (by kernel_rfl) (by kernel_rfl) rfl (Ev.move rfl) ?_
    refine HdJ.takeK hsel hlt 1 (fun w h => h.sublist (List.Sublist.cons _ (List.Sublist.cons_cons _ (List.Sublist.cons_cons _ (List.Sublist.refl _))))) rfl rfl (by decide) (by decide) (by kernel_rfl) (by kernel_rfl) rfl (Ev.move rfl) ?_
    refine HdJ.takeK hsel hlt 2 (fun w h => h.sublist (List.Sublist.cons _ (List.Sublist.cons_cons _ (List.Sublist.cons_cons _ (List.Sublist.refl _))))) rfl rfl (by decide) (by decide) (by kernel_rfl) (by kernel_rfl) rfl (Ev.move rfl) ?_
    refine HdJ.takeK hsel hlt 3 (fun w h => h.sublist (List.Sublist.cons _ (List.Sublist.cons_cons _ (List.Sublist.cons_cons _ (List.Sublist.refl _))))) rfl rfl (by decide) (by decide) (by kernel_rfl) (by kernel_rfl) rfl (Ev.move rfl) ?_
    refine HdJ.takeK hsel hlt 4 (fun w h => h.sublist (List.Sublist.cons _ (List.Sublist.cons_cons _ (List.Sublist.cons_cons _ (List.Sublist.refl _))))) rfl rfl (by decide) (by decide) (by kernel_rfl) (by kernel_rfl) rfl (Ev.sub rfl rfl) ?_
    refine HdJ.takeK hsel hlt 5 (fun w h => h.sublist (List.Sublist.cons _ (List.Sublist.cons_cons _ (List.Sublist.cons_cons _ (List.Sublist.refl _))))) rfl rfl (by decide) (by decide) (by kernel_rfl) (by kernel_rfl) rfl (Ev.move rfl) ?_
    refine HdJ.takeK hsel hlt 6 (fun w h => h.sublist (List.Sublist.cons _ (List.Sublist.cons_cons _ (List.Sublist.cons_cons _ (List.Sublist.refl _))))) rfl rfl (by decide) (by decide) (by kernel_rfl) (by kernel_rfl) rfl (Ev.move rfl) ?_
    refine HdJ.takeK hsel hlt 7 (fun w h => h.sublist (List.Sublist.cons _ (List.Sublist.cons_cons _ (List.Sublist.cons_cons _ (List.Sublist.refl _))))) rfl rfl (by decide) (by decide) (by kernel_rfl) (by kernel_rfl) rfl (Ev.sub rfl rfl) ?_
    refine HdJ.takeK hsel hlt 10 (fun w h => h.sublist (List.Sublist.cons _ (List.Sublist.cons_cons _ (List.Sublist.cons_cons _ (List.Sublist.refl _))))) rfl rfl (by decide) (by decide) (by kernel_rfl) (by kernel_rfl) rfl (Ev.move rfl) ?_
    refine HdJ.takeK hsel hlt 11 (fun w h => h.sublist (List.Sublist.cons _ (List.Sublist.cons_cons _ (List.Sublist.cons_cons _ (List.Sublist.refl _))))) rfl rfl (by decide) (by decide) (by kernel_rfl) (by kernel_rfl) rfl (Ev.move rfl) ?_
    refine HdJ.step [8, 12] (by kernel_rfl) rfl ?_
    refine HdStep.cons (by decide) rfl (fun inv => ?_) ?_
    · have g44 := lat_some h30
      refine Lst.run rfl rfl (by decide) (Ev.indexS (α := Int) (xs := l12) rfl rfl Try.runUnderlying36 Try.sizeOf3 rfl (by decide) (Rd.own (i := 0) rfl rfl rfl) g44.1 g44.2.1) ?_
      refine Lst.nil ?_
      refine At.hd inv (fun w h => (h.weaken (FLe.refl _)).sublist (List.Sublist.cons _ (List.Sublist.cons_cons _ (List.Sublist.cons_cons _ (List.Sublist.refl _))))) ?_
      refine HdJ.step [9, 12] (by kernel_rfl) rfl ?_
      refine HdStep.cons (by decide) rfl (fun inv => ?_) ?_
      · refine Lst.run rfl rfl (by decide) (Ev.loadS (α := Int) rfl (Rd.own (i := 0) rfl rfl rfl) Try.isAgg3 (v := .int .i64 x29) ((Get.elemN (s := 1) (x := x29) rfl g44.2.2 (Get.here _)).off (by omega))) ?_
        refine Lst.nil ?_
        refine At.hd inv (fun w h => (h.weaken (FLe.refl _)).sublist (List.Sublist.cons _ (List.Sublist.cons_cons _ (List.Sublist.cons_cons _ (List.Sublist.refl _))))) ?_
        refine HdJ.step [12] (by kernel_rfl) rfl ?_
        refine HdStep.cons (by decide) rfl (fun inv => ?_) ?_
        · have g45 := lat_some h33
          refine Lst.run rfl rfl (by decide) (Ev.indexS (α := Int) (xs := l12) rfl rfl Try.runUnderlying36 Try.sizeOf3 rfl (by decide) (Rd.own (i := 0) rfl rfl rfl) g45.1 g45.2.1) ?_
          refine Lst.nil ?_
          refine At.hd inv (fun w h => (h.weaken (FLe.refl _)).sublist (List.Sublist.cons _ (List.Sublist.cons_cons _ (List.Sublist.cons_cons _ (List.Sublist.refl _))))) ?_
          refine HdJ.step [13] (by kernel_rfl) rfl ?_
          refine HdStep.cons (by decide) rfl (fun inv => ?_) ?_
          · refine Lst.run rfl rfl (by decide) (Ev.loadS (α := Int) rfl (Rd.own (i := 0) rfl rfl rfl) Try.isAgg3 (v := .int .i64 x32) ((Get.elemN (s := 1) (x := x32) rfl g45.2.2 (Get.here _)).off (by omega))) ?_
            refine Lst.nil ?_
            refine At.hd inv (fun w h => (h.weaken (FLe.refl _)).sublist (List.Sublist.cons _ (List.Sublist.cons_cons _ (List.Sublist.cons_cons _ (List.Sublist.refl _))))) ?_
            refine HdJ.step [14] (by kernel_rfl) rfl ?_
            refine HdStep.cons (by decide) rfl (fun inv => ?_) ?_
            · have g46 := lat_some h36
              refine Lst.run rfl rfl (by decide) (Ev.indexS (α := Int) (xs := l12) rfl rfl Try.runUnderlying36 Try.sizeOf3 rfl (by decide) (Rd.own (i := 0) rfl rfl rfl) g46.1 g46.2.1) ?_
              refine Lst.nil ?_
              refine At.hd inv (fun w h => (h.weaken (FLe.refl _)).sublist (List.Sublist.cons _ (List.Sublist.cons_cons _ (List.Sublist.cons_cons _ (List.Sublist.refl _))))) ?_
              refine HdJ.step [15] (by kernel_rfl) rfl ?_
              refine HdStep.cons (by decide) rfl (fun inv => ?_) ?_
              · refine Lst.storeS (i := 0) rfl rfl rfl rfl rfl Try.sizeOf3 (vs := [.int .i64 x29]) rfl rfl (by decide) rfl (xs' := encs p38) (by rw [← h39]; exact (Put.elemN (s := 1) (x := x35) rfl g46.2.2 (Put.here (vs := [.int .i64 x29]) rfl)).off (by omega)) (L' := (.own s_a0 3 1 (encs p38)) :: (.blk b_a3_c0 (enc s_a3_c0) 36) :: (.blk b_a3_c1 (enc s_a3_c1) 24) :: L) rfl ?_
                refine Lst.nil ?_
                refine At.hd inv (fun w h => (h.weaken (FLe.refl _)).sublist (List.Sublist.cons _ (List.Sublist.cons_cons _ (List.Sublist.cons_cons _ (List.Sublist.refl _))))) ?_
                refine HdJ.done (by kernel_rfl) ?_
                exact At.meetN p38 (FLe.refl _) ⟨rfl, rfl, rfl, rfl, rfl, rfl, rfl, rfl, rfl, trivial⟩ rfl h43
              exact trivial
            exact trivial
          exact trivial
        exact trivial
      refine HdStep.cons (by decide) rfl (fun inv => ?_) ?_
      · have g47 := lat_some h33
        refine Lst.run rfl rfl (by decide) (Ev.indexS (α := Int) (xs := l12) rfl rfl Try.runUnderlying36 Try.sizeOf3 rfl (by decide) (Rd.own (i := 0) rfl rfl rfl) g47.1 g47.2.1) ?_
        refine Lst.nil ?_
        refine At.hd inv (fun w h => (h.weaken (FLe.refl _)).sublist (List.Sublist.cons _ (List.Sublist.cons_cons _ (List.Sublist.cons_cons _ (List.Sublist.refl _))))) ?_
        refine HdJ.step [9, 13] (by kernel_rfl) rfl ?_
        refine HdStep.cons (by decide) rfl (fun inv => ?_) ?_
        · refine Lst.run rfl rfl (by decide) (Ev.loadS (α := Int) rfl (Rd.own (i := 0) rfl rfl rfl) Try.isAgg3 (v := .int .i64 x29) ((Get.elemN (s := 1) (x := x29) rfl g44.2.2 (Get.here _)).off (by omega))) ?_
          refine Lst.nil ?_
          refine At.hd inv (fun w h => (h.weaken (FLe.refl _)).sublist (List.Sublist.cons _ (List.Sublist.cons_cons _ (List.Sublist.cons_cons _ (List.Sublist.refl _))))) ?_
          refine HdJ.step [13] (by kernel_rfl) rfl ?_
          refine HdStep.cons (by decide) rfl (fun inv => ?_) ?_
          · refine Lst.run rfl rfl (by decide) (Ev.loadS (α := Int) rfl (Rd.own (i := 0) rfl rfl rfl) Try.isAgg3 (v := .int .i64 x32) ((Get.elemN (s := 1) (x := x32) rfl g47.2.2 (Get.here _)).off (by omega))) ?_
            refine Lst.nil ?_
            refine At.hd inv (fun w h => (h.weaken (FLe.refl _)).sublist (List.Sublist.cons _ (List.Sublist.cons_cons _ (List.Sublist.cons_cons _ (List.Sublist.refl _))))) ?_
            refine HdJ.step [14] (by kernel_rfl) rfl ?_
            refine HdStep.cons (by decide) rfl (fun inv => ?_) ?_
            · have g48 := lat_some h36
              refine Lst.run rfl rfl (by decide) (Ev.indexS (α := Int) (xs := l12) rfl rfl Try.runUnderlying36 Try.sizeOf3 rfl (by decide) (Rd.own (i := 0) rfl rfl rfl) g48.1 g48.2.1) ?_
              refine Lst.nil ?_
              refine At.hd inv (fun w h => (h.weaken (FLe.refl _)).sublist (List.Sublist.cons _ (List.Sublist.cons_cons _ (List.Sublist.cons_cons _ (List.Sublist.refl _))))) ?_
              refine HdJ.step [15] (by kernel_rfl) rfl ?_
              refine HdStep.cons (by decide) rfl (fun inv => ?_) ?_
              · refine Lst.storeS (i := 0) rfl rfl rfl rfl rfl Try.sizeOf3 (vs := [.int .i64 x29]) rfl rfl (by decide) rfl (xs' := encs p38) (by rw [← h39]; exact (Put.elemN (s := 1) (x := x35) rfl g48.2.2 (Put.here (vs := [.int .i64 x29]) rfl)).off (by omega)) (L' := (.own s_a0 3 1 (encs p38)) :: (.blk b_a3_c0 (enc s_a3_c0) 36) :: (.blk b_a3_c1 (enc s_a3_c1) 24) :: L) rfl ?_
                refine Lst.nil ?_
                refine At.hd inv (fun w h => (h.weaken (FLe.refl _)).sublist (List.Sublist.cons _ (List.Sublist.cons_cons _ (List.Sublist.cons_cons _ (List.Sublist.refl _))))) ?_
                refine HdJ.done (by kernel_rfl) ?_
                exact At.meetN p38 (FLe.refl _) ⟨rfl, rfl, rfl, rfl, rfl, rfl, rfl, rfl, rfl, trivial⟩ rfl h43
              exact trivial
            exact trivial
          exact trivial
        refine HdStep.cons (by decide) rfl (fun inv => ?_) ?_
        · refine Lst.run rfl rfl (by decide) (Ev.loadS (α := Int) rfl (Rd.own (i := 0) rfl rfl rfl) Try.isAgg3 (v := .int .i64 x32) ((Get.elemN (s := 1) (x := x32) rfl g47.2.2 (Get.here _)).off (by omega))) ?_
          refine Lst.nil ?_
          refine At.hd inv (fun w h => (h.weaken (FLe.refl _)).sublist (List.Sublist.cons _ (List.Sublist.cons_cons _ (List.Sublist.cons_cons _ (List.Sublist.refl _))))) ?_
          refine HdJ.step [9] (by kernel_rfl) rfl ?_
          refine HdStep.cons (by decide) rfl (fun inv => ?_) ?_
          · refine Lst.run rfl rfl (by decide) (Ev.loadS (α := Int) rfl (Rd.own (i := 0) rfl rfl rfl) Try.isAgg3 (v := .int .i64 x29) ((Get.elemN (s := 1) (x := x29) rfl g44.2.2 (Get.here _)).off (by omega))) ?_
            refine Lst.nil ?_
            refine At.hd inv (fun w h => (h.weaken (FLe.refl _)).sublist (List.Sublist.cons _ (List.Sublist.cons_cons _ (List.Sublist.cons_cons _ (List.Sublist.refl _))))) ?_
            refine HdJ.step [14] (by kernel_rfl) rfl ?_
            refine HdStep.cons (by decide) rfl (fun inv => ?_) ?_
            · have g49 := lat_some h36
              refine Lst.run rfl rfl (by decide) (Ev.indexS (α := Int) (xs := l12) rfl rfl Try.runUnderlying36 Try.sizeOf3 rfl (by decide) (Rd.own (i := 0) rfl rfl rfl) g49.1 g49.2.1) ?_
              refine Lst.nil ?_
              refine At.hd inv (fun w h => (h.weaken (FLe.refl _)).sublist (List.Sublist.cons _ (List.Sublist.cons_cons _ (List.Sublist.cons_cons _ (List.Sublist.refl _))))) ?_
              refine HdJ.step [15] (by kernel_rfl) rfl ?_
              refine HdStep.cons (by decide) rfl (fun inv => ?_) ?_
              · refine Lst.storeS (i := 0) rfl rfl rfl rfl rfl Try.sizeOf3 (vs := [.int .i64 x29]) rfl rfl (by decide) rfl (xs' := encs p38) (by rw [← h39]; exact (Put.elemN (s := 1) (x := x35) rfl g49.2.2 (Put.here (vs := [.int .i64 x29]) rfl)).off (by omega)) (L' := (.own s_a0 3 1 (encs p38)) :: (.blk b_a3_c0 (enc s_a3_c0) 36) :: (.blk b_a3_c1 (enc s_a3_c1) 24) :: L) rfl ?_
                refine Lst.nil ?_
                refine At.hd inv (fun w h => (h.weaken (FLe.refl _)).sublist (List.Sublist.cons _ (List.Sublist.cons_cons _ (List.Sublist.cons_cons _ (List.Sublist.refl _))))) ?_
                refine HdJ.done (by kernel_rfl) ?_
                exact At.meetN p38 (FLe.refl _) ⟨rfl, rfl, rfl, rfl, rfl, rfl, rfl, rfl, rfl, trivial⟩ rfl h43
              exact trivial
            exact trivial
          exact trivial
        exact trivial
      exact trivial
    refine HdStep.cons (by decide) rfl (fun inv => ?_) ?_
    · have g50 := lat_some h33
      refine Lst.run rfl rfl (by decide) (Ev.indexS (α := Int) (xs := l12) rfl rfl Try.runUnderlying36 Try.sizeOf3 rfl (by decide) (Rd.own (i := 0) rfl rfl rfl) g50.1 g50.2.1) ?_
      refine Lst.nil ?_
      refine At.hd inv (fun w h => (h.weaken (FLe.refl _)).sublist (List.Sublist.cons _ (List.Sublist.cons_cons _ (List.Sublist.cons_cons _ (List.Sublist.refl _))))) ?_
      refine HdJ.step [8, 13] (by kernel_rfl) rfl ?_
      refine HdStep.cons (by decide) rfl (fun inv => ?_) ?_
      · have g51 := lat_some h30
        refine Lst.run rfl rfl (by decide) (Ev.indexS (α := Int) (xs := l12) rfl rfl Try.runUnderlying36 Try.sizeOf3 rfl (by decide) (Rd.own (i := 0) rfl rfl rfl) g51.1 g51.2.1) ?_
        refine Lst.nil ?_
        refine At.hd inv (fun w h => (h.weaken (FLe.refl _)).sublist (List.Sublist.cons _ (List.Sublist.cons_cons _ (List.Sublist.cons_cons _ (List.Sublist.refl _))))) ?_
        refine HdJ.step [9, 13] (by kernel_rfl) rfl ?_
        refine HdStep.cons (by decide) rfl (fun inv => ?_) ?_
        · refine Lst.run rfl rfl (by decide) (Ev.loadS (α := Int) rfl (Rd.own (i := 0) rfl rfl rfl) Try.isAgg3 (v := .int .i64 x29) ((Get.elemN (s := 1) (x := x29) rfl g51.2.2 (Get.here _)).off (by omega))) ?_
          refine Lst.nil ?_
          refine At.hd inv (fun w h => (h.weaken (FLe.refl _)).sublist (List.Sublist.cons _ (List.Sublist.cons_cons _ (List.Sublist.cons_cons _ (List.Sublist.refl _))))) ?_
          refine HdJ.step [13] (by kernel_rfl) rfl ?_
          refine HdStep.cons (by decide) rfl (fun inv => ?_) ?_
          · refine Lst.run rfl rfl (by decide) (Ev.loadS (α := Int) rfl (Rd.own (i := 0) rfl rfl rfl) Try.isAgg3 (v := .int .i64 x32) ((Get.elemN (s := 1) (x := x32) rfl g50.2.2 (Get.here _)).off (by omega))) ?_
            refine Lst.nil ?_
            refine At.hd inv (fun w h => (h.weaken (FLe.refl _)).sublist (List.Sublist.cons _ (List.Sublist.cons_cons _ (List.Sublist.cons_cons _ (List.Sublist.refl _))))) ?_
            refine HdJ.step [14] (by kernel_rfl) rfl ?_
            refine HdStep.cons (by decide) rfl (fun inv => ?_) ?_
            · have g52 := lat_some h36
              refine Lst.run rfl rfl (by decide) (Ev.indexS (α := Int) (xs := l12) rfl rfl Try.runUnderlying36 Try.sizeOf3 rfl (by decide) (Rd.own (i := 0) rfl rfl rfl) g52.1 g52.2.1) ?_
              refine Lst.nil ?_
              refine At.hd inv (fun w h => (h.weaken (FLe.refl _)).sublist (List.Sublist.cons _ (List.Sublist.cons_cons _ (List.Sublist.cons_cons _ (List.Sublist.refl _))))) ?_
              refine HdJ.step [15] (by kernel_rfl) rfl ?_
              refine HdStep.cons (by decide) rfl (fun inv => ?_) ?_
              · refine Lst.storeS (i := 0) rfl rfl rfl rfl rfl Try.sizeOf3 (vs := [.int .i64 x29]) rfl rfl (by decide) rfl (xs' := encs p38) (by rw [← h39]; exact (Put.elemN (s := 1) (x := x35) rfl g52.2.2 (Put.here (vs := [.int .i64 x29]) rfl)).off (by omega)) (L' := (.own s_a0 3 1 (encs p38)) :: (.blk b_a3_c0 (enc s_a3_c0) 36) :: (.blk b_a3_c1 (enc s_a3_c1) 24) :: L) rfl ?_
                refine Lst.nil ?_
                refine At.hd inv (fun w h => (h.weaken (FLe.refl _)).sublist (List.Sublist.cons _ (List.Sublist.cons_cons _ (List.Sublist.cons_cons _ (List.Sublist.refl _))))) ?_
                refine HdJ.done (by kernel_rfl) ?_
                exact At.meetN p38 (FLe.refl _) ⟨rfl, rfl, rfl, rfl, rfl, rfl, rfl, rfl, rfl, trivial⟩ rfl h43
              exact trivial
            exact trivial
          exact trivial
        refine HdStep.cons (by decide) rfl (fun inv => ?_) ?_
        · refine Lst.run rfl rfl (by decide) (Ev.loadS (α := Int) rfl (Rd.own (i := 0) rfl rfl rfl) Try.isAgg3 (v := .int .i64 x32) ((Get.elemN (s := 1) (x := x32) rfl g50.2.2 (Get.here _)).off (by omega))) ?_
          refine Lst.nil ?_
          refine At.hd inv (fun w h => (h.weaken (FLe.refl _)).sublist (List.Sublist.cons _ (List.Sublist.cons_cons _ (List.Sublist.cons_cons _ (List.Sublist.refl _))))) ?_
          refine HdJ.step [9] (by kernel_rfl) rfl ?_
          refine HdStep.cons (by decide) rfl (fun inv => ?_) ?_
          · refine Lst.run rfl rfl (by decide) (Ev.loadS (α := Int) rfl (Rd.own (i := 0) rfl rfl rfl) Try.isAgg3 (v := .int .i64 x29) ((Get.elemN (s := 1) (x := x29) rfl g51.2.2 (Get.here _)).off (by omega))) ?_
            refine Lst.nil ?_
            refine At.hd inv (fun w h => (h.weaken (FLe.refl _)).sublist (List.Sublist.cons _ (List.Sublist.cons_cons _ (List.Sublist.cons_cons _ (List.Sublist.refl _))))) ?_
            refine HdJ.step [14] (by kernel_rfl) rfl ?_
            refine HdStep.cons (by decide) rfl (fun inv => ?_) ?_
            · have g53 := lat_some h36
              refine Lst.run rfl rfl (by decide) (Ev.indexS (α := Int) (xs := l12) rfl rfl Try.runUnderlying36 Try.sizeOf3 rfl (by decide) (Rd.own (i := 0) rfl rfl rfl) g53.1 g53.2.1) ?_
              refine Lst.nil ?_
              refine At.hd inv (fun w h => (h.weaken (FLe.refl _)).sublist (List.Sublist.cons _ (List.Sublist.cons_cons _ (List.Sublist.cons_cons _ (List.Sublist.refl _))))) ?_
              refine HdJ.step [15] (by kernel_rfl) rfl ?_
              refine HdStep.cons (by decide) rfl (fun inv => ?_) ?_
              · refine Lst.storeS (i := 0) rfl rfl rfl rfl rfl Try.sizeOf3 (vs := [.int .i64 x29]) rfl rfl (by decide) rfl (xs' := encs p38) (by rw [← h39]; exact (Put.elemN (s := 1) (x := x35) rfl g53.2.2 (Put.here (vs := [.int .i64 x29]) rfl)).off (by omega)) (L' := (.own s_a0 3 1 (encs p38)) :: (.blk b_a3_c0 (enc s_a3_c0) 36) :: (.blk b_a3_c1 (enc s_a3_c1) 24) :: L) rfl ?_
                refine Lst.nil ?_
                refine At.hd inv (fun w h => (h.weaken (FLe.refl _)).sublist (List.Sublist.cons _ (List.Sublist.cons_cons _ (List.Sublist.cons_cons _ (List.Sublist.refl _))))) ?_
                refine HdJ.done (by kernel_rfl) ?_
                exact At.meetN p38 (FLe.refl _) ⟨rfl, rfl, rfl, rfl, rfl, rfl, rfl, rfl, rfl, trivial⟩ rfl h43
              exact trivial
            exact trivial
          exact trivial
        exact trivial
      refine HdStep.cons (by decide) rfl (fun inv => ?_) ?_
      · refine Lst.run rfl rfl (by decide) (Ev.loadS (α := Int) rfl (Rd.own (i := 0) rfl rfl rfl) Try.isAgg3 (v := .int .i64 x32) ((Get.elemN (s := 1) (x := x32) rfl g50.2.2 (Get.here _)).off (by omega))) ?_
        refine Lst.nil ?_
        refine At.hd inv (fun w h => (h.weaken (FLe.refl _)).sublist (List.Sublist.cons _ (List.Sublist.cons_cons _ (List.Sublist.cons_cons _ (List.Sublist.refl _))))) ?_
        refine HdJ.step [8] (by kernel_rfl) rfl ?_
        refine HdStep.cons (by decide) rfl (fun inv => ?_) ?_
        · have g54 := lat_some h30
          refine Lst.run rfl rfl (by decide) (Ev.indexS (α := Int) (xs := l12) rfl rfl Try.runUnderlying36 Try.sizeOf3 rfl (by decide) (Rd.own (i := 0) rfl rfl rfl) g54.1 g54.2.1) ?_
          refine Lst.nil ?_
          refine At.hd inv (fun w h => (h.weaken (FLe.refl _)).sublist (List.Sublist.cons _ (List.Sublist.cons_cons _ (List.Sublist.cons_cons _ (List.Sublist.refl _))))) ?_
          refine HdJ.step [9] (by kernel_rfl) rfl ?_
          refine HdStep.cons (by decide) rfl (fun inv => ?_) ?_
          · refine Lst.run rfl rfl (by decide) (Ev.loadS (α := Int) rfl (Rd.own (i := 0) rfl rfl rfl) Try.isAgg3 (v := .int .i64 x29) ((Get.elemN (s := 1) (x := x29) rfl g54.2.2 (Get.here _)).off (by omega))) ?_
            refine Lst.nil ?_
            refine At.hd inv (fun w h => (h.weaken (FLe.refl _)).sublist (List.Sublist.cons _ (List.Sublist.cons_cons _ (List.Sublist.cons_cons _ (List.Sublist.refl _))))) ?_
            refine HdJ.step [14] (by kernel_rfl) rfl ?_
            refine HdStep.cons (by decide) rfl (fun inv => ?_) ?_
            · have g55 := lat_some h36
              refine Lst.run rfl rfl (by decide) (Ev.indexS (α := Int) (xs := l12) rfl rfl Try.runUnderlying36 Try.sizeOf3 rfl (by decide) (Rd.own (i := 0) rfl rfl rfl) g55.1 g55.2.1) ?_
              refine Lst.nil ?_
              refine At.hd inv (fun w h => (h.weaken (FLe.refl _)).sublist (List.Sublist.cons _ (List.Sublist.cons_cons _ (List.Sublist.cons_cons _ (List.Sublist.refl _))))) ?_
              refine HdJ.step [15] (by kernel_rfl) rfl ?_
              refine HdStep.cons (by decide) rfl (fun inv => ?_) ?_
              · refine Lst.storeS (i := 0) rfl rfl rfl rfl rfl Try.sizeOf3 (vs := [.int .i64 x29]) rfl rfl (by decide) rfl (xs' := encs p38) (by rw [← h39]; exact (Put.elemN (s := 1) (x := x35) rfl g55.2.2 (Put.here (vs := [.int .i64 x29]) rfl)).off (by omega)) (L' := (.own s_a0 3 1 (encs p38)) :: (.blk b_a3_c0 (enc s_a3_c0) 36) :: (.blk b_a3_c1 (enc s_a3_c1) 24) :: L) rfl ?_
                refine Lst.nil ?_
                refine At.hd inv (fun w h => (h.weaken (FLe.refl _)).sublist (List.Sublist.cons _ (List.Sublist.cons_cons _ (List.Sublist.cons_cons _ (List.Sublist.refl _))))) ?_
                refine HdJ.done (by kernel_rfl) ?_
                exact At.meetN p38 (FLe.refl _) ⟨rfl, rfl, rfl, rfl, rfl, rfl, rfl, rfl, rfl, trivial⟩ rfl h43
              exact trivial
            exact trivial
          exact trivial
        exact trivial
      exact trivial
    exact trivial
  rintro F56 l41 hF57 hy
  subst hy
  refine Lst.as (e' := [(0, Sl.v s_a0), (1, .int .i64 a1), (2, .int .i64 a2), (3, .func (.func 48) #[] #[.pointer (some ⟨b_a3_c0, 0, none⟩), .pointer (some ⟨b_a3_c1, 0, none⟩)]), (8, .int .i64 y5), (9, .int .i64 y11), (39, Sl.v s_a0), (41, .int .i64 (w64 (y11 - (1 : Int)))), (50, .int .i64 x32)]) (L' := (.own s_a0 3 1 (encs l41)) :: (.blk b_a3_c0 (enc s_a3_c0) 36) :: (.blk b_a3_c1 (enc s_a3_c1) 24) :: L) ⟨rfl, rfl, rfl, rfl, rfl, rfl, rfl, rfl, rfl, trivial⟩ rfl ?_
  obtain ⟨x58, h59, H⟩ := bind_some H
  have g60 := lat_some h59
  refine Lst.run rfl rfl (by decide) (Ev.indexS (α := Int) (xs := l41) rfl rfl Try.runUnderlying36 Try.sizeOf3 rfl (by decide) (Rd.own (i := 0) rfl rfl rfl) g60.1 g60.2.1) ?_
  obtain ⟨p61, h62, H⟩ := Let_some H
  refine Lst.storeS (i := 0) rfl rfl rfl rfl rfl Try.sizeOf3 (vs := [.int .i64 x32]) rfl rfl (by decide) rfl (xs' := encs p61) (by rw [← h62]; exact (Put.elemN (s := 1) (x := x58) rfl g60.2.2 (Put.here (vs := [.int .i64 x32]) rfl)).off (by omega)) (L' := (.own s_a0 3 1 (encs p61)) :: (.blk b_a3_c0 (enc s_a3_c0) 36) :: (.blk b_a3_c1 (enc s_a3_c1) 24) :: L) rfl ?_
  refine Lst.nil ?_
  refine At.in_normal ?_
  refine At.then ?_
  refine Cd.region ?_
  refine Lst.run rfl rfl (by decide) (Ev.move rfl) ?_
  refine Lst.run rfl rfl (by decide) (Ev.sub rfl rfl) ?_
  refine Lst.run rfl rfl (by decide) (Ev.assign rfl) ?_
  refine Lst.nil ?_
  exact At.meet (k10, w64 (y11 - (1 : Int)), p61) (FLe.trans hF14 hF57) ⟨rfl, rfl, rfl, rfl, rfl, rfl, trivial⟩ rfl ⟨hgo10 _ (some_inj H).symm, Nat.lt_succ_self _⟩
set_option maxRecDepth 20000 in
theorem slices_swapRangeCmpFunc_int_Total_1_sim {fu : Nat} {a0 : List Int} {a1 : Int} {a2 : Int} {a3 : Int} {a4_c0 : List Int} {a4_c1 : List Event} {s_a0 : Sl} {b_a4_c0 : Nat} {s_a4_c0 : Sl} {b_a4_c1 : Nat} {s_a4_c1 : Sl} {r : (List Int)} (H : slices_swapRangeCmpFunc_int_Total_1 fu a0 a1 a2 a3 a4_c0 a4_c1 = some r) (w0 : World) (F : Frz) (M L : List Item) (hM : M.Sublist L) (hs_a4_c0 : Rd w0 F M s_a4_c0 a4_c0) (hs_a4_c1 : Rd w0 F M s_a4_c1 a4_c1) : Ok Try.prog w0 83 [Sl.v s_a0, .int .i64 a1, .int .i64 a2, .int .i64 a3, .func (.func 48) #[] #[.pointer (some ⟨b_a4_c0, 0, none⟩), .pointer (some ⟨b_a4_c1, 0, none⟩)]] F ((.own s_a0 3 1 (encs a0)) :: (.blk b_a4_c0 (enc s_a4_c0) 36) :: (.blk b_a4_c1 (enc s_a4_c1) 24) :: L) (fun _ L' v => v = .tuple #[] ∧ L' = (.own s_a0 3 1 (encs r)) :: (.blk b_a4_c0 (enc s_a4_c0) 36) :: (.blk b_a4_c1 (enc s_a4_c1) 24) :: L) := by
  unfold slices_swapRangeCmpFunc_int_Total_1 at H
  refine Ok.enter (m := 5) (n := 38) Try.func83 rfl rfl rfl (by decide) ?_
  refine Cd.env (e' := [(0, Sl.v s_a0), (1, .int .i64 a1), (2, .int .i64 a2), (3, .int .i64 a3), (4, .func (.func 48) #[] #[.pointer (some ⟨b_a4_c0, 0, none⟩), .pointer (some ⟨b_a4_c1, 0, none⟩)])]) rfl ?_
  refine Cd.seq ?_
  refine Cd.region ?_
  refine Lst.run rfl rfl (by decide) (Ev.assign rfl) ?_
  refine Lst.nil ?_
  refine At.then ?_
  refine Cd.block ?_
  obtain ⟨ol4, H, HKl4⟩ := andThen_some H
  refine Cd.loop (σ := Nat × Int × (List Int)) (fun (k4, y5, l6) => [(0, Sl.v s_a0), (1, .int .i64 a1), (2, .int .i64 a2), (3, .int .i64 a3), (10, .int .i64 y5)]) (fun (k4, y5, l6) => (.own s_a0 3 1 (encs l6)) :: (.blk b_a4_c0 (enc s_a4_c0) 36) :: (.blk b_a4_c1 (enc s_a4_c1) 24) :: L) (fun _ => (fun (k4, y5, l6) => whileM (slices_swapRangeCmpFunc_int_Total_1_B0 a1 a2 a3) k4 (y5, l6) = some ol4)) (fun (k4, y5, l6) => k4) (fu, (0 : Int), a0) ⟨rfl, rfl, rfl, rfl, rfl, trivial⟩ rfl H ?_
  rintro F7 ⟨k4, y5, l6⟩ hF8 H
  refine Cd.as (e' := [(0, Sl.v s_a0), (1, .int .i64 a1), (2, .int .i64 a2), (3, .int .i64 a3), (10, .int .i64 y5)]) (L' := (.own s_a0 3 1 (encs l6)) :: (.blk b_a4_c0 (enc s_a4_c0) 36) :: (.blk b_a4_c1 (enc s_a4_c1) 24) :: L) ⟨rfl, rfl, rfl, rfl, rfl, trivial⟩ rfl ?_
  rcases k4 with _ | k4
  · cases H
  obtain ⟨c4, H, hgo4, hbrk4, hret4⟩ := whileM_go H
  unfold slices_swapRangeCmpFunc_int_Total_1_B0 at H
  try dsimp only at H
  refine Cd.seq ?_
  refine Cd.seq ?_
  refine Cd.region ?_
  refine Lst.run rfl rfl (by decide) (Ev.move rfl) ?_
  refine Lst.run rfl rfl (by decide) (Ev.move rfl) ?_
  refine Lst.run rfl rfl (by decide) (Ev.lss rfl rfl) ?_
  refine Lst.nil ?_
  refine At.then ?_
  rcases (Bool.eq_false_or_eq_true (decide (y5 < a3))).symm with hb9 | hb9
  · replace H := ite_f hb9 H
    refine Cd.condF rfl hb9 ?_
    refine Cd.exit ?_
    refine At.then_exit ?_
    refine At.then_exit ?_
    refine At.in_exit ?_
    have H := hbrk4 _ (some_inj H).symm
    subst H
    replace H := HKl4
    obtain rfl := some_inj H
    exact At.ret0 (.inr rfl) rfl hF8 (List.Sublist.cons_cons _ (List.Sublist.cons_cons _ (List.Sublist.cons_cons _ (List.Sublist.refl _)))) ⟨rfl, rfl⟩
  replace H := ite_t hb9 H
  refine Cd.condT rfl hb9 ?_
  refine Cd.skip ?_
  refine At.then ?_
  refine Cd.seq ?_
  refine Cd.block ?_
  obtain ⟨x10, h11, H⟩ := bind_some H
  obtain ⟨x13, h14, H⟩ := bind_some H
  obtain ⟨x16, h17, H⟩ := bind_some H
  obtain ⟨p19, h20, H⟩ := Let_some H
  obtain ⟨o23, h24, H⟩ := Let_some H
  refine Cd.headMeet (σ := (List Int)) 22 (fun l22 => [(0, Sl.v s_a0), (1, .int .i64 a1), (2, .int .i64 a2), (3, .int .i64 a3), (10, .int .i64 y5), (20, Sl.v s_a0), (23, .int .i64 (w64 (a2 + y5))), (35, .int .i64 x13)]) (fun l22 => (.own s_a0 3 1 (encs l22)) :: (.blk b_a4_c0 (enc s_a4_c0) 36) :: (.blk b_a4_c1 (enc s_a4_c1) 24) :: L) (fun _ l22 => l22 = o23) (by kernel_rfl) (by kernel_rfl) (behind_sink (by kernel_rfl) (by kernel_rfl) (by kernel_rfl)) (by kernel_rfl) (fun hsel hlt => ?_) ?_
  · refine HdJ.keep (fun w => St w0 F7 ((.blk b_a4_c0 (enc s_a4_c0) 36) :: (.blk b_a4_c1 (enc s_a4_c1) 24) :: L) w) (fun w h => trivial) ?_
    refine HdJ.takeK hsel hlt 0 (fun w h => h.sublist (List.Sublist.cons _ (List.Sublist.cons_cons _ (List.Sublist.cons_cons _ (List.Sublist.refl _))))) rfl rfl (by decide) (by decide) (by kernel_rfl) (by kernel_rfl) rfl (Ev.move rfl) ?_
    refine HdJ.takeK hsel hlt 1 (fun w h => h.sublist (List.Sublist.cons _ (List.Sublist.cons_cons _ (List.Sublist.cons_cons _ (List.Sublist.refl _))))) rfl rfl (by decide) (by decide) (by kernel_rfl) (by kernel_rfl) rfl (Ev.move rfl) ?_
    refine HdJ.takeK hsel hlt 2 (fun w h => h.sublist (List.Sublist.cons _ (List.Sublist.cons_cons _ (List.Sublist.cons_cons _ (List.Sublist.refl _))))) rfl rfl (by decide) (by decide) (by kernel_rfl) (by kernel_rfl) rfl (Ev.move rfl) ?_
    refine HdJ.takeK hsel hlt 3 (fun w h => h.sublist (List.Sublist.cons _ (List.Sublist.cons_cons _ (List.Sublist.cons_cons _ (List.Sublist.refl _))))) rfl rfl (by decide) (by decide) (by kernel_rfl) (by kernel_rfl) rfl (Ev.add rfl rfl) ?_
    refine HdJ.takeK hsel hlt 4 (fun w h => h.sublist (List.Sublist.cons _ (List.Sublist.cons_cons _ (List.Sublist.cons_cons _ (List.Sublist.refl _))))) rfl rfl (by decide) (by decide) (by kernel_rfl) (by kernel_rfl) rfl (Ev.move rfl) ?_
    refine HdJ.takeK hsel hlt 5 (fun w h => h.sublist (List.Sublist.cons _ (List.Sublist.cons_cons _ (List.Sublist.cons_cons _ (List.Sublist.refl _))))) rfl rfl (by decide) (by decide) (by kernel_rfl) (by kernel_rfl) rfl (Ev.move rfl) ?_
    refine HdJ.takeK hsel hlt 6 (fun w h => h.sublist (List.Sublist.cons _ (List.Sublist.cons_cons _ (List.Sublist.cons_cons _ (List.Sublist.refl _))))) rfl rfl (by decide) (by decide) (by kernel_rfl) (by kernel_rfl) rfl (Ev.move rfl) ?_
    refine HdJ.takeK hsel hlt 7 (fun w h => h.sublist (List.Sublist.cons _ (List.Sublist.cons_cons _ (List.Sublist.cons_cons _ (List.Sublist.refl _))))) rfl rfl (by decide) (by decide) (by kernel_rfl) (by kernel_rfl) rfl (Ev.add rfl rfl) ?_
    refine HdJ.takeK hsel hlt 8 (fun w h => h.sublist (List.Sublist.cons _ (List.Sublist.cons_cons _ (List.Sublist.cons_cons _ (List.Sublist.refl _))))) rfl rfl (by decide) (by decide) (by kernel_rfl) (by kernel_rfl) rfl (Ev.move rfl) ?_
    refine HdJ.takeK hsel hlt 9 (fun w h => h.sublist (List.Sublist.cons _ (List.Sublist.cons_cons _ (List.Sublist.cons_cons _ (List.Sublist.refl _))))) rfl rfl (by decide) (by decide) (by kernel_rfl) (by kernel_rfl) rfl (Ev.move rfl) ?_
    refine HdJ.takeK hsel hlt 10 (fun w h => h.sublist (List.Sublist.cons _ (List.Sublist.cons_cons _ (List.Sublist.cons_cons _ (List.Sublist.refl _))))) rfl rfl (by decide) (by decide) (by kernel_rfl) (by kernel_rfl) rfl (Ev.move rfl) ?_
    refine HdJ.takeK hsel hlt 11 (fun w h => h.sublist (List.Sublist.cons _ (List.Sublist.cons_cons _ (List.Sublist.cons_cons _ (List.Sublist.refl _))))) rfl rfl (by decide) (by decide) (by kernel_rfl) (by kernel_rfl) rfl (Ev.add rfl rfl) ?_
    refine HdJ.takeK hsel hlt 14 (fun w h => h.sublist (List.Sublist.cons _ (List.Sublist.cons_cons _ (List.Sublist.cons_cons _ (List.Sublist.refl _))))) rfl rfl (by decide) (by decide) (by kernel_rfl) (by kernel_rfl) rfl (Ev.move rfl) ?_
    refine HdJ.takeK hsel hlt 15 (fun w h => h.sublist (List.Sublist.cons _ (List.Sublist.cons_cons _ (List.Sublist.cons_cons _ (List.Sublist.refl _))))) rfl rfl (by decide) (by decide) (by kernel_rfl) (by kernel_rfl) rfl (Ev.move rfl) ?_
    refine HdJ.takeK hsel hlt 16 (fun w h => h.sublist (List.Sublist.cons _ (List.Sublist.cons_cons _ (List.Sublist.cons_cons _ (List.Sublist.refl _))))) rfl rfl (by decide) (by decide) (by kernel_rfl) (by kernel_rfl) rfl (Ev.move rfl) ?_
    refine HdJ.takeK hsel hlt 17 (fun w h => h.sublist (List.Sublist.cons _ (List.Sublist.cons_cons _ (List.Sublist.cons_cons _ (List.Sublist.refl _))))) rfl rfl (by decide) (by decide) (by kernel_rfl) (by kernel_rfl) rfl (Ev.add rfl rfl) ?_
    refine HdJ.step [12, 18] (by kernel_rfl) rfl ?_
    refine HdStep.cons (by decide) rfl (fun inv => ?_) ?_
    · have g25 := lat_some h11
      refine Lst.run rfl rfl (by decide) (Ev.indexS (α := Int) (xs := l6) rfl rfl Try.runUnderlying36 Try.sizeOf3 rfl (by decide) (Rd.own (i := 0) rfl rfl rfl) g25.1 g25.2.1) ?_
      refine Lst.nil ?_
      refine At.hd inv (fun w h => (h.weaken (FLe.refl _)).sublist (List.Sublist.cons _ (List.Sublist.cons_cons _ (List.Sublist.cons_cons _ (List.Sublist.refl _))))) ?_
      refine HdJ.step [13, 18] (by kernel_rfl) rfl ?_
      refine HdStep.cons (by decide) rfl (fun inv => ?_) ?_
      · refine Lst.run rfl rfl (by decide) (Ev.loadS (α := Int) rfl (Rd.own (i := 0) rfl rfl rfl) Try.isAgg3 (v := .int .i64 x10) ((Get.elemN (s := 1) (x := x10) rfl g25.2.2 (Get.here _)).off (by omega))) ?_
        refine Lst.nil ?_
        refine At.hd inv (fun w h => (h.weaken (FLe.refl _)).sublist (List.Sublist.cons _ (List.Sublist.cons_cons _ (List.Sublist.cons_cons _ (List.Sublist.refl _))))) ?_
        refine HdJ.step [18] (by kernel_rfl) rfl ?_
        refine HdStep.cons (by decide) rfl (fun inv => ?_) ?_
        · have g26 := lat_some h14
          refine Lst.run rfl rfl (by decide) (Ev.indexS (α := Int) (xs := l6) rfl rfl Try.runUnderlying36 Try.sizeOf3 rfl (by decide) (Rd.own (i := 0) rfl rfl rfl) g26.1 g26.2.1) ?_
          refine Lst.nil ?_
          refine At.hd inv (fun w h => (h.weaken (FLe.refl _)).sublist (List.Sublist.cons _ (List.Sublist.cons_cons _ (List.Sublist.cons_cons _ (List.Sublist.refl _))))) ?_
          refine HdJ.step [19] (by kernel_rfl) rfl ?_
          refine HdStep.cons (by decide) rfl (fun inv => ?_) ?_
          · refine Lst.run rfl rfl (by decide) (Ev.loadS (α := Int) rfl (Rd.own (i := 0) rfl rfl rfl) Try.isAgg3 (v := .int .i64 x13) ((Get.elemN (s := 1) (x := x13) rfl g26.2.2 (Get.here _)).off (by omega))) ?_
            refine Lst.nil ?_
            refine At.hd inv (fun w h => (h.weaken (FLe.refl _)).sublist (List.Sublist.cons _ (List.Sublist.cons_cons _ (List.Sublist.cons_cons _ (List.Sublist.refl _))))) ?_
            refine HdJ.step [20] (by kernel_rfl) rfl ?_
            refine HdStep.cons (by decide) rfl (fun inv => ?_) ?_
            · have g27 := lat_some h17
              refine Lst.run rfl rfl (by decide) (Ev.indexS (α := Int) (xs := l6) rfl rfl Try.runUnderlying36 Try.sizeOf3 rfl (by decide) (Rd.own (i := 0) rfl rfl rfl) g27.1 g27.2.1) ?_
              refine Lst.nil ?_
              refine At.hd inv (fun w h => (h.weaken (FLe.refl _)).sublist (List.Sublist.cons _ (List.Sublist.cons_cons _ (List.Sublist.cons_cons _ (List.Sublist.refl _))))) ?_
              refine HdJ.step [21] (by kernel_rfl) rfl ?_
              refine HdStep.cons (by decide) rfl (fun inv => ?_) ?_
              · refine Lst.storeS (i := 0) rfl rfl rfl rfl rfl Try.sizeOf3 (vs := [.int .i64 x10]) rfl rfl (by decide) rfl (xs' := encs p19) (by rw [← h20]; exact (Put.elemN (s := 1) (x := x16) rfl g27.2.2 (Put.here (vs := [.int .i64 x10]) rfl)).off (by omega)) (L' := (.own s_a0 3 1 (encs p19)) :: (.blk b_a4_c0 (enc s_a4_c0) 36) :: (.blk b_a4_c1 (enc s_a4_c1) 24) :: L) rfl ?_
                refine Lst.nil ?_
                refine At.hd inv (fun w h => (h.weaken (FLe.refl _)).sublist (List.Sublist.cons _ (List.Sublist.cons_cons _ (List.Sublist.cons_cons _ (List.Sublist.refl _))))) ?_
                refine HdJ.done (by kernel_rfl) ?_
                exact At.meetN p19 (FLe.refl _) ⟨rfl, rfl, rfl, rfl, rfl, rfl, rfl, rfl, trivial⟩ rfl h24
              exact trivial
            exact trivial
          exact trivial
        exact trivial
      refine HdStep.cons (by decide) rfl (fun inv => ?_) ?_
      · have g28 := lat_some h14
        refine Lst.run rfl rfl (by decide) (Ev.indexS (α := Int) (xs := l6) rfl rfl Try.runUnderlying36 Try.sizeOf3 rfl (by decide) (Rd.own (i := 0) rfl rfl rfl) g28.1 g28.2.1) ?_
        refine Lst.nil ?_
        refine At.hd inv (fun w h => (h.weaken (FLe.refl _)).sublist (List.Sublist.cons _ (List.Sublist.cons_cons _ (List.Sublist.cons_cons _ (List.Sublist.refl _))))) ?_
        refine HdJ.step [13, 19] (by kernel_rfl) rfl ?_
        refine HdStep.cons (by decide) rfl (fun inv => ?_) ?_
        · refine Lst.run rfl rfl (by decide) (Ev.loadS (α := Int) rfl (Rd.own (i := 0) rfl rfl rfl) Try.isAgg3 (v := .int .i64 x10) ((Get.elemN (s := 1) (x := x10) rfl g25.2.2 (Get.here _)).off (by omega))) ?_
          refine Lst.nil ?_
          refine At.hd inv (fun w h => (h.weaken (FLe.refl _)).sublist (List.Sublist.cons _ (List.Sublist.cons_cons _ (List.Sublist.cons_cons _ (List.Sublist.refl _))))) ?_
          refine HdJ.step [19] (by kernel_rfl) rfl ?_
          refine HdStep.cons (by decide) rfl (fun inv => ?_) ?_
          · refine Lst.run rfl rfl (by decide) (Ev.loadS (α := Int) rfl (Rd.own (i := 0) rfl rfl rfl) Try.isAgg3 (v := .int .i64 x13) ((Get.elemN (s := 1) (x := x13) rfl g28.2.2 (Get.here _)).off (by omega))) ?_
            refine Lst.nil ?_
            refine At.hd inv (fun w h => (h.weaken (FLe.refl _)).sublist (List.Sublist.cons _ (List.Sublist.cons_cons _ (List.Sublist.cons_cons _ (List.Sublist.refl _))))) ?_
            refine HdJ.step [20] (by kernel_rfl) rfl ?_
            refine HdStep.cons (by decide) rfl (fun inv => ?_) ?_
            · have g29 := lat_some h17
              refine Lst.run rfl rfl (by decide) (Ev.indexS (α := Int) (xs := l6) rfl rfl Try.runUnderlying36 Try.sizeOf3 rfl (by decide) (Rd.own (i := 0) rfl rfl rfl) g29.1 g29.2.1) ?_
              refine Lst.nil ?_
              refine At.hd inv (fun w h => (h.weaken (FLe.refl _)).sublist (List.Sublist.cons _ (List.Sublist.cons_cons _ (List.Sublist.cons_cons _ (List.Sublist.refl _))))) ?_
              refine HdJ.step [21] (by kernel_rfl) rfl ?_
              refine HdStep.cons (by decide) rfl (fun inv => ?_) ?_
              · refine Lst.storeS (i := 0) rfl rfl rfl rfl rfl Try.sizeOf3 (vs := [.int .i64 x10]) rfl rfl (by decide) rfl (xs' := encs p19) (by rw [← h20]; exact (Put.elemN (s := 1) (x := x16) rfl g29.2.2 (Put.here (vs := [.int .i64 x10]) rfl)).off (by omega)) (L' := (.own s_a0 3 1 (encs p19)) :: (.blk b_a4_c0 (enc s_a4_c0) 36) :: (.blk b_a4_c1 (enc s_a4_c1) 24) :: L) rfl ?_
                refine Lst.nil ?_
                refine At.hd inv (fun w h => (h.weaken (FLe.refl _)).sublist (List.Sublist.cons _ (List.Sublist.cons_cons _ (List.Sublist.cons_cons _ (List.Sublist.refl _))))) ?_
                refine HdJ.done (by kernel_rfl) ?_
                exact At.meetN p19 (FLe.refl _) ⟨rfl, rfl, rfl, rfl, rfl, rfl, rfl, rfl, trivial⟩ rfl h24
              exact trivial
            exact trivial
          exact trivial
        refine HdStep.cons (by decide) rfl (fun inv => ?_) ?_
        · refine Lst.run rfl rfl (by decide) (Ev.loadS (α := Int) rfl (Rd.own (i := 0) rfl rfl rfl) Try.isAgg3 (v := .int .i64 x13) ((Get.elemN (s := 1) (x := x13) rfl g28.2.2 (Get.here _)).off (by omega))) ?_
          refine Lst.nil ?_
          refine At.hd inv (fun w h => (h.weaken (FLe.refl _)).sublist (List.Sublist.cons _ (List.Sublist.cons_cons _ (List.Sublist.cons_cons _ (List.Sublist.refl _))))) ?_
          refine HdJ.step [13] (by kernel_rfl) rfl ?_
          refine HdStep.cons (by decide) rfl (fun inv => ?_) ?_
          · refine Lst.run rfl rfl (by decide) (Ev.loadS (α := Int) rfl (Rd.own (i := 0) rfl rfl rfl) Try.isAgg3 (v := .int .i64 x10) ((Get.elemN (s := 1) (x := x10) rfl g25.2.2 (Get.here _)).off (by omega))) ?_
            refine Lst.nil ?_
            refine At.hd inv (fun w h => (h.weaken (FLe.refl _)).sublist (List.Sublist.cons _ (List.Sublist.cons_cons _ (List.Sublist.cons_cons _ (List.Sublist.refl _))))) ?_
            refine HdJ.step [20] (by kernel_rfl) rfl ?_
            refine HdStep.cons (by decide) rfl (fun inv => ?_) ?_
            · have g30 := lat_some h17
              refine Lst.run rfl rfl (by decide) (Ev.indexS (α := Int) (xs := l6) rfl rfl Try.runUnderlying36 Try.sizeOf3 rfl (by decide) (Rd.own (i := 0) rfl rfl rfl) g30.1 g30.2.1) ?_
              refine Lst.nil ?_
              refine At.hd inv (fun w h => (h.weaken (FLe.refl _)).sublist (List.Sublist.cons _ (List.Sublist.cons_cons _ (List.Sublist.cons_cons _ (List.Sublist.refl _))))) ?_
              refine HdJ.step [21] (by kernel_rfl) rfl ?_
              refine HdStep.cons (by decide) rfl (fun inv => ?_) ?_
              · refine Lst.storeS (i := 0) rfl rfl rfl rfl rfl Try.sizeOf3 (vs := [.int .i64 x10]) rfl rfl (by decide) rfl (xs' := encs p19) (by rw [← h20]; exact (Put.elemN (s := 1) (x := x16) rfl g30.2.2 (Put.here (vs := [.int .i64 x10]) rfl)).off (by omega)) (L' := (.own s_a0 3 1 (encs p19)) :: (.blk b_a4_c0 (enc s_a4_c0) 36) :: (.blk b_a4_c1 (enc s_a4_c1) 24) :: L) rfl ?_
                refine Lst.nil ?_
                refine At.hd inv (fun w h => (h.weaken (FLe.refl _)).sublist (List.Sublist.cons _ (List.Sublist.cons_cons _ (List.Sublist.cons_cons _ (List.Sublist.refl _))))) ?_
                refine HdJ.done (by kernel_rfl) ?_
                exact At.meetN p19 (FLe.refl _) ⟨rfl, rfl, rfl, rfl, rfl, rfl, rfl, rfl, trivial⟩ rfl h24
              exact trivial
            exact trivial
          exact trivial
        exact trivial
      exact trivial
    refine HdStep.cons (by decide) rfl (fun inv => ?_) ?_
    · have g31 := lat_some h14
      refine Lst.run rfl rfl (by decide) (Ev.indexS (α := Int) (xs := l6) rfl rfl Try.runUnderlying36 Try.sizeOf3 rfl (by decide) (Rd.own (i := 0) rfl rfl rfl) g31.1 g31.2.1) ?_
      refine Lst.nil ?_
      refine At.hd inv (fun w h => (h.weaken (FLe.refl _)).sublist (List.Sublist.cons _ (List.Sublist.cons_cons _ (List.Sublist.cons_cons _ (List.Sublist.refl _))))) ?_
      refine HdJ.step [12, 19] (by kernel_rfl) rfl ?_
      refine HdStep.cons (by decide) rfl (fun inv => ?_) ?_
      · have g32 := lat_some h11
        refine Lst.run rfl rfl (by decide) (Ev.indexS (α := Int) (xs := l6) rfl rfl Try.runUnderlying36 Try.sizeOf3 rfl (by decide) (Rd.own (i := 0) rfl rfl rfl) g32.1 g32.2.1) ?_
        refine Lst.nil ?_
        refine At.hd inv (fun w h => (h.weaken (FLe.refl _)).sublist (List.Sublist.cons _ (List.Sublist.cons_cons _ (List.Sublist.cons_cons _ (List.Sublist.refl _))))) ?_
        refine HdJ.step [13, 19] (by kernel_rfl) rfl ?_
        refine HdStep.cons (by decide) rfl (fun inv => ?_) ?_
        · refine Lst.run rfl rfl (by decide) (Ev.loadS (α := Int) rfl (Rd.own (i := 0) rfl rfl rfl) Try.isAgg3 (v := .int .i64 x10) ((Get.elemN (s := 1) (x := x10) rfl g32.2.2 (Get.here _)).off (by omega))) ?_
          refine Lst.nil ?_
          refine At.hd inv (fun w h => (h.weaken (FLe.refl _)).sublist (List.Sublist.cons _ (List.Sublist.cons_cons _ (List.Sublist.cons_cons _ (List.Sublist.refl _))))) ?_
          refine HdJ.step [19] (by kernel_rfl) rfl ?_
          refine HdStep.cons (by decide) rfl (fun inv => ?_) ?_
          · refine Lst.run rfl rfl (by decide) (Ev.loadS (α := Int) rfl (Rd.own (i := 0) rfl rfl rfl) Try.isAgg3 (v := .int .i64 x13) ((Get.elemN (s := 1) (x := x13) rfl g31.2.2 (Get.here _)).off (by omega))) ?_
            refine Lst.nil ?_
            refine At.hd inv (fun w h => (h.weaken (FLe.refl _)).sublist (List.Sublist.cons _ (List.Sublist.cons_cons _ (List.Sublist.cons_cons _ (List.Sublist.refl _))))) ?_
            refine HdJ.step [20] (by kernel_rfl) rfl ?_
            refine HdStep.cons (by decide) rfl (fun inv => ?_) ?_
            · have g33 := lat_some h17
              refine Lst.run rfl rfl (by decide) (Ev.indexS (α := Int) (xs := l6) rfl rfl Try.runUnderlying36 Try.sizeOf3 rfl (by decide) (Rd.own (i := 0) rfl rfl rfl) g33.1 g33.2.1) ?_
              refine Lst.nil ?_
              refine At.hd inv (fun w h => (h.weaken (FLe.refl _)).sublist (List.Sublist.cons _ (List.Sublist.cons_cons _ (List.Sublist.cons_cons _ (List.Sublist.refl _))))) ?_
              refine HdJ.step [21] (by kernel_rfl) rfl ?_
              refine HdStep.cons (by decide) rfl (fun inv => ?_) ?_
              · refine Lst.storeS (i := 0) rfl rfl rfl rfl rfl Try.sizeOf3 (vs := [.int .i64 x10]) rfl rfl (by decide) rfl (xs' := encs p19) (by rw [← h20]; exact (Put.elemN (s := 1) (x := x16) rfl g33.2.2 (Put.here (vs := [.int .i64 x10]) rfl)).off (by omega)) (L' := (.own s_a0 3 1 (encs p19)) :: (.blk b_a4_c0 (enc s_a4_c0) 36) :: (.blk b_a4_c1 (enc s_a4_c1) 24) :: L) rfl ?_
                refine Lst.nil ?_
                refine At.hd inv (fun w h => (h.weaken (FLe.refl _)).sublist (List.Sublist.cons _ (List.Sublist.cons_cons _ (List.Sublist.cons_cons _ (List.Sublist.refl _))))) ?_
                refine HdJ.done (by kernel_rfl) ?_
                exact At.meetN p19 (FLe.refl _) ⟨rfl, rfl, rfl, rfl, rfl, rfl, rfl, rfl, trivial⟩ rfl h24
              exact trivial
            exact trivial
          exact trivial
        refine HdStep.cons (by decide) rfl (fun inv => ?_) ?_
        · refine Lst.run rfl rfl (by decide) (Ev.loadS (α := Int) rfl (Rd.own (i := 0) rfl rfl rfl) Try.isAgg3 (v := .int .i64 x13) ((Get.elemN (s := 1) (x := x13) rfl g31.2.2 (Get.here _)).off (by omega))) ?_
          refine Lst.nil ?_
          refine At.hd inv (fun w h => (h.weaken (FLe.refl _)).sublist (List.Sublist.cons _ (List.Sublist.cons_cons _ (List.Sublist.cons_cons _ (List.Sublist.refl _))))) ?_
          refine HdJ.step [13] (by kernel_rfl) rfl ?_
          refine HdStep.cons (by decide) rfl (fun inv => ?_) ?_
          · refine Lst.run rfl rfl (by decide) (Ev.loadS (α := Int) rfl (Rd.own (i := 0) rfl rfl rfl) Try.isAgg3 (v := .int .i64 x10) ((Get.elemN (s := 1) (x := x10) rfl g32.2.2 (Get.here _)).off (by omega))) ?_
            refine Lst.nil ?_
            refine At.hd inv (fun w h => (h.weaken (FLe.refl _)).sublist (List.Sublist.cons _ (List.Sublist.cons_cons _ (List.Sublist.cons_cons _ (List.Sublist.refl _))))) ?_
            refine HdJ.step [20] (by kernel_rfl) rfl ?_
            refine HdStep.cons (by decide) rfl (fun inv => ?_) ?_
            · have g34 := lat_some h17
              refine Lst.run rfl rfl (by decide) (Ev.indexS (α := Int) (xs := l6) rfl rfl Try.runUnderlying36 Try.sizeOf3 rfl (by decide) (Rd.own (i := 0) rfl rfl rfl) g34.1 g34.2.1) ?_
              refine Lst.nil ?_
              refine At.hd inv (fun w h => (h.weaken (FLe.refl _)).sublist (List.Sublist.cons _ (List.Sublist.cons_cons _ (List.Sublist.cons_cons _ (List.Sublist.refl _))))) ?_
              refine HdJ.step [21] (by kernel_rfl) rfl ?_
              refine HdStep.cons (by decide) rfl (fun inv => ?_) ?_
              · refine Lst.storeS (i := 0) rfl rfl rfl rfl rfl Try.sizeOf3 (vs := [.int .i64 x10]) rfl rfl (by decide) rfl (xs' := encs p19) (by rw [← h20]; exact (Put.elemN (s := 1) (x := x16) rfl g34.2.2 (Put.here (vs := [.int .i64 x10]) rfl)).off (by omega)) (L' := (.own s_a0 3 1 (encs p19)) :: (.blk b_a4_c0 (enc s_a4_c0) 36) :: (.blk b_a4_c1 (enc s_a4_c1) 24) :: L) rfl ?_
                refine Lst.nil ?_
                refine At.hd inv (fun w h => (h.weaken (FLe.refl _)).sublist (List.Sublist.cons _ (List.Sublist.cons_cons _ (List.Sublist.cons_cons _ (List.Sublist.refl _))))) ?_
                refine HdJ.done (by kernel_rfl) ?_
                exact At.meetN p19 (FLe.refl _) ⟨rfl, rfl, rfl, rfl, rfl, rfl, rfl, rfl, trivial⟩ rfl h24
              exact trivial
            exact trivial
          exact trivial
        exact trivial
      refine HdStep.cons (by decide) rfl (fun inv => ?_) ?_
      · refine Lst.run rfl rfl (by decide) (Ev.loadS (α := Int) rfl (Rd.own (i := 0) rfl rfl rfl) Try.isAgg3 (v := .int .i64 x13) ((Get.elemN (s := 1) (x := x13) rfl g31.2.2 (Get.here _)).off (by omega))) ?_
        refine Lst.nil ?_
        refine At.hd inv (fun w h => (h.weaken (FLe.refl _)).sublist (List.Sublist.cons _ (List.Sublist.cons_cons _ (List.Sublist.cons_cons _ (List.Sublist.refl _))))) ?_
        refine HdJ.step [12] (by kernel_rfl) rfl ?_
        refine HdStep.cons (by decide) rfl (fun inv => ?_) ?_
        · have g35 := lat_some h11
          refine Lst.run rfl rfl (by decide) (Ev.indexS (α := Int) (xs := l6) rfl rfl Try.runUnderlying36 Try.sizeOf3 rfl (by decide) (Rd.own (i := 0) rfl rfl rfl) g35.1 g35.2.1) ?_
          refine Lst.nil ?_
          refine At.hd inv (fun w h => (h.weaken (FLe.refl _)).sublist (List.Sublist.cons _ (List.Sublist.cons_cons _ (List.Sublist.cons_cons _ (List.Sublist.refl _))))) ?_
          refine HdJ.step [13] (by kernel_rfl) rfl ?_
          refine HdStep.cons (by decide) rfl (fun inv => ?_) ?_
          · refine Lst.run rfl rfl (by decide) (Ev.loadS (α := Int) rfl (Rd.own (i := 0) rfl rfl rfl) Try.isAgg3 (v := .int .i64 x10) ((Get.elemN (s := 1) (x := x10) rfl g35.2.2 (Get.here _)).off (by omega))) ?_
            refine Lst.nil ?_
            refine At.hd inv (fun w h => (h.weaken (FLe.refl _)).sublist (List.Sublist.cons _ (List.Sublist.cons_cons _ (List.Sublist.cons_cons _ (List.Sublist.refl _))))) ?_
            refine HdJ.step [20] (by kernel_rfl) rfl ?_
            refine HdStep.cons (by decide) rfl (fun inv => ?_) ?_
            · have g36 := lat_some h17
              refine Lst.run rfl rfl (by decide) (Ev.indexS (α := Int) (xs := l6) rfl rfl Try.runUnderlying36 Try.sizeOf3 rfl (by decide) (Rd.own (i := 0) rfl rfl rfl) g36.1 g36.2.1) ?_
              refine Lst.nil ?_
              refine At.hd inv (fun w h => (h.weaken (FLe.refl _)).sublist (List.Sublist.cons _ (List.Sublist.cons_cons _ (List.Sublist.cons_cons _ (List.Sublist.refl _))))) ?_
              refine HdJ.step [21] (by kernel_rfl) rfl ?_
              refine HdStep.cons (by decide) rfl (fun inv => ?_) ?_
              · refine Lst.storeS (i := 0) rfl rfl rfl rfl rfl Try.sizeOf3 (vs := [.int .i64 x10]) rfl rfl (by decide) rfl (xs' := encs p19) (by rw [← h20]; exact (Put.elemN (s := 1) (x := x16) rfl g36.2.2 (Put.here (vs := [.int .i64 x10]) rfl)).off (by omega)) (L' := (.own s_a0 3 1 (encs p19)) :: (.blk b_a4_c0 (enc s_a4_c0) 36) :: (.blk b_a4_c1 (enc s_a4_c1) 24) :: L) rfl ?_
                refine Lst.nil ?_
                refine At.hd inv (fun w h => (h.weaken (FLe.refl _)).sublist (List.Sublist.cons _ (List.Sublist.cons_cons _ (List.Sublist.cons_cons _ (List.Sublist.refl _))))) ?_
                refine HdJ.done (by kernel_rfl) ?_
                exact At.meetN p19 (FLe.refl _) ⟨rfl, rfl, rfl, rfl, rfl, rfl, rfl, rfl, trivial⟩ rfl h24
              exact trivial
            exact trivial
          exact trivial
        exact trivial
      exact trivial
    exact trivial
  rintro F37 l22 hF38 hy
  subst hy
  refine Lst.as (e' := [(0, Sl.v s_a0), (1, .int .i64 a1), (2, .int .i64 a2), (3, .int .i64 a3), (10, .int .i64 y5), (20, Sl.v s_a0), (23, .int .i64 (w64 (a2 + y5))), (35, .int .i64 x13)]) (L' := (.own s_a0 3 1 (encs l22)) :: (.blk b_a4_c0 (enc s_a4_c0) 36) :: (.blk b_a4_c1 (enc s_a4_c1) 24) :: L) ⟨rfl, rfl, rfl, rfl, rfl, rfl, rfl, rfl, trivial⟩ rfl ?_
  obtain ⟨x39, h40, H⟩ := bind_some H
  have g41 := lat_some h40
  refine Lst.run rfl rfl (by decide) (Ev.indexS (α := Int) (xs := l22) rfl rfl Try.runUnderlying36 Try.sizeOf3 rfl (by decide) (Rd.own (i := 0) rfl rfl rfl) g41.1 g41.2.1) ?_
  obtain ⟨p42, h43, H⟩ := Let_some H
  refine Lst.storeS (i := 0) rfl rfl rfl rfl rfl Try.sizeOf3 (vs := [.int .i64 x13]) rfl rfl (by decide) rfl (xs' := encs p42) (by rw [← h43]; exact (Put.elemN (s := 1) (x := x39) rfl g41.2.2 (Put.here (vs := [.int .i64 x13]) rfl)).off (by omega)) (L' := (.own s_a0 3 1 (encs p42)) :: (.blk b_a4_c0 (enc s_a4_c0) 36) :: (.blk b_a4_c1 (enc s_a4_c1) 24) :: L) rfl ?_
  refine Lst.nil ?_
  refine At.in_normal ?_
  refine At.then ?_
  refine Cd.region ?_
  refine Lst.run rfl rfl (by decide) (Ev.move rfl) ?_
  refine Lst.run rfl rfl (by decide) (Ev.add rfl rfl) ?_
  refine Lst.run rfl rfl (by decide) (Ev.assign rfl) ?_
  refine Lst.nil ?_
  exact At.meet (k4, w64 (y5 + (1 : Int)), p42) (FLe.trans hF8 hF38) ⟨rfl, rfl, rfl, rfl, rfl, trivial⟩ rfl ⟨hgo4 _ (some_inj H).symm, Nat.lt_succ_self _⟩
set_option maxRecDepth 20000 in
theorem slices_rotateCmpFunc_int_Total_1_sim {fu : Nat} {a0 : List Int} {a1 : Int} {a2 : Int} {a3 : Int} {a4_c0 : List Int} {a4_c1 : List Event} {s_a0 : Sl} {b_a4_c0 : Nat} {s_a4_c0 : Sl} {b_a4_c1 : Nat} {s_a4_c1 : Sl} {r : (List Int)} (H : slices_rotateCmpFunc_int_Total_1 fu a0 a1 a2 a3 a4_c0 a4_c1 = some r) (w0 : World) (F : Frz) (M L : List Item) (hM : M.Sublist L) (hs_a4_c0 : Rd w0 F M s_a4_c0 a4_c0) (hs_a4_c1 : Rd w0 F M s_a4_c1 a4_c1) : Ok Try.prog w0 79 [Sl.v s_a0, .int .i64 a1, .int .i64 a2, .int .i64 a3, .func (.func 48) #[] #[.pointer (some ⟨b_a4_c0, 0, none⟩), .pointer (some ⟨b_a4_c1, 0, none⟩)]] F ((.own s_a0 3 1 (encs a0)) :: (.blk b_a4_c0 (enc s_a4_c0) 36) :: (.blk b_a4_c1 (enc s_a4_c1) 24) :: L) (fun _ L' v => v = .tuple #[] ∧ L' = (.own s_a0 3 1 (encs r)) :: (.blk b_a4_c0 (enc s_a4_c0) 36) :: (.blk b_a4_c1 (enc s_a4_c1) 24) :: L) := by
  unfold slices_rotateCmpFunc_int_Total_1 at H
  refine Ok.enter (m := 5) (n := 58) Try.func79 rfl rfl rfl (by decide) ?_
  refine Cd.env (e' := [(0, Sl.v s_a0), (1, .int .i64 a1), (2, .int .i64 a2), (3, .int .i64 a3), (4, .func (.func 48) #[] #[.pointer (some ⟨b_a4_c0, 0, none⟩), .pointer (some ⟨b_a4_c1, 0, none⟩)])]) rfl ?_
  refine Cd.seq ?_
  refine Cd.region ?_
  refine Lst.run rfl rfl (by decide) (Ev.move rfl) ?_
  refine Lst.run rfl rfl (by decide) (Ev.move rfl) ?_
  refine Lst.run rfl rfl (by decide) (Ev.sub rfl rfl) ?_
  refine Lst.run rfl rfl (by decide) (Ev.assign rfl) ?_
  refine Lst.nil ?_
  refine At.then ?_
  refine Cd.seq ?_
  refine Cd.region ?_
  refine Lst.run rfl rfl (by decide) (Ev.move rfl) ?_
  refine Lst.run rfl rfl (by decide) (Ev.move rfl) ?_
  refine Lst.run rfl rfl (by decide) (Ev.sub rfl rfl) ?_
  refine Lst.run rfl rfl (by decide) (Ev.assign rfl) ?_
  refine Lst.nil ?_
  refine At.then ?_
  refine Cd.seq ?_
  refine Cd.block ?_
  obtain ⟨ol4, H, HKl4⟩ := andThen_some H
  refine Cd.loop (σ := Nat × Int × Int × (List Int)) (fun (k4, y5, y6, l7) => [(0, Sl.v s_a0), (2, .int .i64 a2), (4, .func (.func 48) #[] #[.pointer (some ⟨b_a4_c0, 0, none⟩), .pointer (some ⟨b_a4_c1, 0, none⟩)]), (10, .int .i64 y5), (11, .int .i64 y6)]) (fun (k4, y5, y6, l7) => (.own s_a0 3 1 (encs l7)) :: (.blk b_a4_c0 (enc s_a4_c0) 36) :: (.blk b_a4_c1 (enc s_a4_c1) 24) :: L) (fun _ => (fun (k4, y5, y6, l7) => whileM (slices_rotateCmpFunc_int_Total_1_B0 fu a2 a4_c0 a4_c1) k4 (y5, y6, l7) = some ol4)) (fun (k4, y5, y6, l7) => k4) (fu, w64 (a2 - a1), w64 (a3 - a2), a0) ⟨rfl, rfl, rfl, rfl, rfl, trivial⟩ rfl H ?_
  rintro F8 ⟨k4, y5, y6, l7⟩ hF9 H
  refine Cd.as (e' := [(0, Sl.v s_a0), (2, .int .i64 a2), (4, .func (.func 48) #[] #[.pointer (some ⟨b_a4_c0, 0, none⟩), .pointer (some ⟨b_a4_c1, 0, none⟩)]), (10, .int .i64 y5), (11, .int .i64 y6)]) (L' := (.own s_a0 3 1 (encs l7)) :: (.blk b_a4_c0 (enc s_a4_c0) 36) :: (.blk b_a4_c1 (enc s_a4_c1) 24) :: L) ⟨rfl, rfl, rfl, rfl, rfl, trivial⟩ rfl ?_
  rcases k4 with _ | k4
  · cases H
  obtain ⟨c4, H, hgo4, hbrk4, hret4⟩ := whileM_go H
  unfold slices_rotateCmpFunc_int_Total_1_B0 at H
  try dsimp only at H
  refine Cd.seq ?_
  refine Cd.seq ?_
  refine Cd.region ?_
  refine Lst.run rfl rfl (by decide) (Ev.move rfl) ?_
  refine Lst.run rfl rfl (by decide) (Ev.move rfl) ?_
  refine Lst.run rfl rfl (by decide) (Ev.neq rfl rfl) ?_
  refine Lst.nil ?_
  refine At.then ?_
  rcases (Bool.eq_false_or_eq_true (y5 != y6)).symm with hb10 | hb10
  · replace H := ite_f hb10 H
    refine Cd.condF rfl hb10 ?_
    refine Cd.exit ?_
    refine At.then_exit ?_
    refine At.then_exit ?_
    refine At.in_exit ?_
    have H := hbrk4 _ (some_inj H).symm
    subst H
    replace H := HKl4
    refine At.then ?_
    refine Cd.region ?_
    refine Lst.run rfl rfl (by decide) (Ev.move rfl) ?_
    refine Lst.run rfl rfl (by decide) (Ev.move rfl) ?_
    refine Lst.run rfl rfl (by decide) (Ev.move rfl) ?_
    refine Lst.run rfl rfl (by decide) (Ev.sub rfl rfl) ?_
    refine Lst.run rfl rfl (by decide) (Ev.move rfl) ?_
    refine Lst.run rfl rfl (by decide) (Ev.move rfl) ?_
    refine Lst.run rfl rfl (by decide) (Ev.move rfl) ?_
    obtain ⟨r11, h12, H⟩ := bind_some H
    refine Lst.call rfl rfl (by decide) (vs := [Sl.v s_a0, .int .i64 (w64 (a2 - y5)), .int .i64 a2, .int .i64 y5, .func (.func 48) #[] #[.pointer (some ⟨b_a4_c0, 0, none⟩), .pointer (some ⟨b_a4_c1, 0, none⟩)]]) ⟨rfl, rfl, rfl, rfl, rfl, trivial⟩ Try.call83 (slices_swapRangeCmpFunc_int_Total_1_sim h12 w0 _ M _ hM (hs_a4_c0.mono hF9 (List.Sublist.refl _)) (hs_a4_c1.mono hF9 (List.Sublist.refl _))) (fun F13 L' v hF14 hv => ?_)
    obtain ⟨rfl, rfl⟩ := hv
    refine Lst.nil ?_
    obtain rfl := some_inj H
    exact At.ret0 (.inr rfl) rfl (FLe.trans hF9 hF14) (List.Sublist.cons_cons _ (List.Sublist.cons_cons _ (List.Sublist.cons_cons _ (List.Sublist.refl _)))) ⟨rfl, rfl⟩
  replace H := ite_t hb10 H
  refine Cd.condT rfl hb10 ?_
  refine Cd.skip ?_
  refine At.then ?_
  refine Cd.block ?_
  refine Cd.seq ?_
  refine Cd.region ?_
  refine Lst.run rfl rfl (by decide) (Ev.move rfl) ?_
  refine Lst.run rfl rfl (by decide) (Ev.move rfl) ?_
  refine Lst.run rfl rfl (by decide) (Ev.gtr rfl rfl) ?_
  refine Lst.nil ?_
  refine At.then ?_
  rcases Bool.eq_false_or_eq_true (decide (y5 > y6)) with hb15 | hb15
  · replace H := ite_t hb15 H
    refine Cd.condT rfl hb15 ?_
    refine Cd.seq ?_
    refine Cd.region ?_
    refine Lst.run rfl rfl (by decide) (Ev.move rfl) ?_
    refine Lst.run rfl rfl (by decide) (Ev.move rfl) ?_
    refine Lst.run rfl rfl (by decide) (Ev.move rfl) ?_
    refine Lst.run rfl rfl (by decide) (Ev.sub rfl rfl) ?_
    refine Lst.run rfl rfl (by decide) (Ev.move rfl) ?_
    refine Lst.run rfl rfl (by decide) (Ev.move rfl) ?_
    refine Lst.run rfl rfl (by decide) (Ev.move rfl) ?_
    obtain ⟨r16, h17, H⟩ := bind_some H
    refine Lst.call rfl rfl (by decide) (vs := [Sl.v s_a0, .int .i64 (w64 (a2 - y5)), .int .i64 a2, .int .i64 y6, .func (.func 48) #[] #[.pointer (some ⟨b_a4_c0, 0, none⟩), .pointer (some ⟨b_a4_c1, 0, none⟩)]]) ⟨rfl, rfl, rfl, rfl, rfl, trivial⟩ Try.call83 (slices_swapRangeCmpFunc_int_Total_1_sim h17 w0 _ M _ hM (hs_a4_c0.mono hF9 (List.Sublist.refl _)) (hs_a4_c1.mono hF9 (List.Sublist.refl _))) (fun F18 L' v hF19 hv => ?_)
    obtain ⟨rfl, rfl⟩ := hv
    refine Lst.nil ?_
    refine At.then ?_
    refine Cd.region ?_
    refine Lst.run rfl rfl (by decide) (Ev.move rfl) ?_
    refine Lst.run rfl rfl (by decide) (Ev.move rfl) ?_
    refine Lst.run rfl rfl (by decide) (Ev.sub rfl rfl) ?_
    refine Lst.run rfl rfl (by decide) (Ev.assign rfl) ?_
    refine Lst.nil ?_
    refine At.in_normal ?_
    exact At.meet (k4, w64 (y5 - y6), y6, r16) (FLe.trans hF9 hF19) ⟨rfl, rfl, rfl, rfl, rfl, trivial⟩ rfl ⟨hgo4 _ (some_inj H).symm, Nat.lt_succ_self _⟩
  replace H := ite_f hb15 H
  refine Cd.condF rfl hb15 ?_
  refine Cd.seq ?_
  refine Cd.region ?_
  refine Lst.run rfl rfl (by decide) (Ev.move rfl) ?_
  refine Lst.run rfl rfl (by decide) (Ev.move rfl) ?_
  refine Lst.run rfl rfl (by decide) (Ev.move rfl) ?_
  refine Lst.run rfl rfl (by decide) (Ev.sub rfl rfl) ?_
  refine Lst.run rfl rfl (by decide) (Ev.move rfl) ?_
  refine Lst.run rfl rfl (by decide) (Ev.move rfl) ?_
  refine Lst.run rfl rfl (by decide) (Ev.add rfl rfl) ?_
  refine Lst.run rfl rfl (by decide) (Ev.move rfl) ?_
  refine Lst.run rfl rfl (by decide) (Ev.sub rfl rfl) ?_
  refine Lst.run rfl rfl (by decide) (Ev.move rfl) ?_
  refine Lst.run rfl rfl (by decide) (Ev.move rfl) ?_
  obtain ⟨r20, h21, H⟩ := bind_some H
  refine Lst.call rfl rfl (by decide) (vs := [Sl.v s_a0, .int .i64 (w64 (a2 - y5)), .int .i64 (w64 ((w64 (a2 + y6)) - y5)), .int .i64 y5, .func (.func 48) #[] #[.pointer (some ⟨b_a4_c0, 0, none⟩), .pointer (some ⟨b_a4_c1, 0, none⟩)]]) ⟨rfl, rfl, rfl, rfl, rfl, trivial⟩ Try.call83 (slices_swapRangeCmpFunc_int_Total_1_sim h21 w0 _ M _ hM (hs_a4_c0.mono hF9 (List.Sublist.refl _)) (hs_a4_c1.mono hF9 (List.Sublist.refl _))) (fun F22 L' v hF23 hv => ?_)
  obtain ⟨rfl, rfl⟩ := hv
  refine Lst.nil ?_
  refine At.then ?_
  refine Cd.as (e' := [(0, Sl.v s_a0), (2, .int .i64 a2), (4, .func (.func 48) #[] #[.pointer (some ⟨b_a4_c0, 0, none⟩), .pointer (some ⟨b_a4_c1, 0, none⟩)]), (10, .int .i64 y5), (11, .int .i64 y6)]) (L' := (.own s_a0 3 1 (encs r20)) :: (.blk b_a4_c0 (enc s_a4_c0) 36) :: (.blk b_a4_c1 (enc s_a4_c1) 24) :: L) ⟨rfl, rfl, rfl, rfl, rfl, trivial⟩ rfl ?_
  refine Cd.region ?_
  refine Lst.run rfl rfl (by decide) (Ev.move rfl) ?_
  refine Lst.run rfl rfl (by decide) (Ev.move rfl) ?_
  refine Lst.run rfl rfl (by decide) (Ev.sub rfl rfl) ?_
  refine Lst.run rfl rfl (by decide) (Ev.assign rfl) ?_
  refine Lst.nil ?_
  refine At.in_normal ?_
  exact At.meet (k4, y5, w64 (y6 - y5), r20) (FLe.trans hF9 hF23) ⟨rfl, rfl, rfl, rfl, rfl, trivial⟩ rfl ⟨hgo4 _ (some_inj H).symm, Nat.lt_succ_self _⟩
end Go.Proofs.Ytclmlddmgccfjaa
