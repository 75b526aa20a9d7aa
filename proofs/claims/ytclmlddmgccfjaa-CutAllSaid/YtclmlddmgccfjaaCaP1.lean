/-
  The functions compute their specs; printed by a program.
-/
import Derived.Test.YtclmlddmgccfjaaCaSp
import Derived.Test.YtclmlddmgccfjaaGoL
import Derived.Test.YtclmlddmgccfjaaGoK
import Derived.Test.YtclmlddmgccfjaaGoI
import Derived.Test.YtclmlddmgccfjaaGoU
import Derived.Test.YtclmlddmgccfjaaGoM
import Derived.Test.YtclmlddmgccfjaaGoS
import Derived.Test.YtclmlddmgccfjaaGoR
import Derived.Test.YtclmlddmgccfjaaProg
namespace Go.Proofs.Ytclmlddmgccfjaa
open Go.RowKit Enc
set_option linter.unusedVariables false
set_option linter.unusedSimpArgs false
set_option maxRecDepth 20000 in
theorem eq23 (x y : Vector Int 6) : ∀ w, (Op.equal 23 (.agg (enc x).toArray) (.agg (enc y).toArray)).run Try.prog w = .ok (decide (x = y)) w :=
  EqT.top (d := 10000) Try.isAgg23 Try.sizeOf23 rfl rfl (EqT.array (inf := Try.t3) Try.isAgg23 Try.sizeOf23 rfl Try.runUnderlying23 rfl (by kernel_rfl) (EqT.int Try.isAgg3 Try.runUnderlying3)) x y
set_option maxRecDepth 20000 in
theorem eq75 (x y : Event) : ∀ w, (Op.equal 75 (.agg (enc x).toArray) (.agg (enc y).toArray)).run Try.prog w = .ok (decide (x = y)) w :=
  EqT.top (d := 10000) Try.isAgg75 Try.sizeOf75 rfl rfl (EqT.struct Try.isAgg75 Try.sizeOf75 rfl Try.runUnderlying75 (by kernel_rfl) (fun x y w => by
  refine Eq.trans (eqField (p := x.Proc) (q := y.Proc) rfl (EqT.int Try.isAgg3 Try.runUnderlying3) rfl ((Event.get_Proc (Get.here _)).off rfl) ((Event.get_Proc (Get.here _)).off rfl) (eqField (p := x.Kind) (q := y.Kind) rfl (EqT.int Try.isAgg3 Try.runUnderlying3) rfl ((Event.get_Kind (Get.here _)).off rfl) ((Event.get_Kind (Get.here _)).off rfl) (eqField (p := x.Msg) (q := y.Msg) rfl (EqT.int Try.isAgg3 Try.runUnderlying3) rfl ((Event.get_Msg (Get.here _)).off rfl) ((Event.get_Msg (Get.here _)).off rfl) (by rfl)))) ?_
  congr 1
  rw [Bool.eq_iff_iff]; cases x; cases y; simp)) x y
set_option maxRecDepth 20000 in
theorem partref_HistoryErr_sim {a0 : List Event} {s_a0 : Sl} {r : Int} (H : partref_HistoryErr a0 = some r) (w0 : World) (F : Frz) (M L : List Item) (hM : M.Sublist L) (hs_a0 : Rd w0 F M s_a0 a0) : Ok Try.prog w0 16 [Sl.v s_a0] F (L) (Is (.int .i64 r) (L)) := by
  unfold partref_HistoryErr at H
  refine Ok.enter (m := 1) (n := 100) Try.func16 rfl rfl rfl (by decide) ?_
  refine Cd.env (e' := [(0, Sl.v s_a0)]) rfl ?_
  refine Cd.seq ?_
  refine Cd.region ?_
  refine Lst.run rfl rfl (by decide) (Ev.assign rfl) ?_
  refine Lst.nil ?_
  refine At.then ?_
  refine Cd.seq ?_
  refine Cd.seq ?_
  refine Cd.region ?_
  refine Lst.run rfl rfl (by decide) (Ev.move rfl) ?_
  refine Lst.run rfl rfl (by decide) (Ev.lenS (α := Event) (xs := a0) (by decide) rfl rfl Try.runUnderlying24 (hs_a0.mono (FLe.refl _) hM)) ?_
  refine Lst.run rfl rfl (by decide) (Ev.gtr rfl rfl) ?_
  refine Lst.nil ?_
  refine At.then ?_
  rcases Bool.eq_false_or_eq_true (decide ((a0.length : Int) > (60 : Int))) with hb1 | hb1
  · replace H := ite_t hb1 H
    refine Cd.condT rfl hb1 ?_
    refine Cd.seq ?_
    refine Cd.region ?_
    refine Lst.run rfl rfl (by decide) (Ev.assign rfl) ?_
    refine Lst.nil ?_
    refine At.then ?_
    obtain rfl := some_inj H
    refine Cd.ret ?_
    refine At.then_ret ?_
    exact At.ret1 rfl (Res.tmp rfl) (FLe.refl _) (List.Sublist.refl _) ⟨rfl, rfl⟩
  replace H := ite_f hb1 H
  refine Cd.condF rfl hb1 ?_
  refine Cd.skip ?_
  refine At.then ?_
  refine Cd.seq ?_
  refine Cd.seq ?_
  refine Cd.region ?_
  refine Lst.run rfl rfl (by decide) (Ev.move rfl) ?_
  refine Lst.run rfl rfl (by decide) (Ev.lenS (α := Event) (xs := a0) (by decide) rfl rfl Try.runUnderlying24 (hs_a0.mono (FLe.refl _) hM)) ?_
  refine Lst.run rfl rfl (by decide) (Ev.move rfl) ?_
  refine Lst.nil ?_
  refine At.then ?_
  refine Cd.block ?_
  refine Cd.bound (Rd.le (α := Event) (xs := a0) (by decide) (hs_a0.mono (FLe.refl _) hM)) (fun hN85 => ?_)
  obtain ⟨ol2, H, HKl2⟩ := andThen_some H
  refine Cd.loop (σ := Nat × Nat × Unit) (fun (i2, k2, _u) => [(0, Sl.v s_a0), (12, Sl.v s_a0), (13, .int .i64 (a0.length : Int)), (14, .int .i64 (i2 : Int))]) (fun (i2, k2, _u) => L) (fun _ => (fun (i2, k2, _u) => rangeM (partref_HistoryErr_B0 a0) k2 i2 () = some ol2 ∧ i2 + k2 = a0.length)) (fun (i2, k2, _u) => k2) (0, a0.length, ()) ⟨rfl, rfl, rfl, rfl, trivial⟩ rfl ⟨H, by omega⟩ ?_
  rintro F3 ⟨i2, k2, _u⟩ hF4 ⟨H, hik2⟩
  refine Cd.as (e' := [(0, Sl.v s_a0), (12, Sl.v s_a0), (13, .int .i64 (a0.length : Int)), (14, .int .i64 (i2 : Int))]) (L' := L) ⟨rfl, rfl, rfl, rfl, trivial⟩ rfl ?_
  rcases k2 with _ | k2
  · have hc2 : decide ((i2 : Int) < (a0.length : Int)) = false := decide_eq_false (by omega)
    replace H := rangeM_end H
    refine Cd.seq ?_
    refine Cd.region ?_
    refine Lst.run rfl rfl (by decide) (Ev.lss rfl rfl) ?_
    refine Lst.nil ?_
    refine At.then ?_
    refine Cd.seq ?_
    refine Cd.condF rfl hc2 ?_
    refine Cd.exit ?_
    refine At.then_exit ?_
    refine At.then_exit ?_
    refine At.in_exit ?_
    subst H
    replace H := HKl2
    refine At.then ?_
    refine Cd.seq ?_
    refine Cd.region ?_
    refine Lst.run rfl rfl (by decide) (Ev.assign rfl) ?_
    refine Lst.nil ?_
    refine At.then ?_
    obtain rfl := some_inj H
    refine Cd.ret ?_
    exact At.ret1 rfl (Res.tmp rfl) hF4 (List.Sublist.refl _) ⟨rfl, rfl⟩
  have hc2 : decide ((i2 : Int) < (a0.length : Int)) = true := decide_eq_true (by omega)
  obtain ⟨c2, H, hgo2, hbrk2, hret2⟩ := rangeM_go H
  unfold partref_HistoryErr_B0 at H
  try dsimp only at H
  refine Cd.seq ?_
  refine Cd.region ?_
  refine Lst.run rfl rfl (by decide) (Ev.lss rfl rfl) ?_
  refine Lst.nil ?_
  refine At.then ?_
  refine Cd.seq ?_
  refine Cd.condT rfl hc2 ?_
  refine Cd.skip ?_
  refine At.then ?_
  refine Cd.seq ?_
  refine Cd.block ?_
  refine Cd.seq ?_
  refine Cd.region ?_
  refine Lst.run rfl rfl (by decide) (Ev.move rfl) ?_
  obtain ⟨x5, h6, H⟩ := bind_some H
  have g7 := lat_some h6
  refine Lst.run rfl rfl (by decide) (Ev.indexS (α := Event) (xs := a0) rfl rfl Try.runUnderlying24 Try.sizeOf75 rfl (by decide) (hs_a0.mono hF4 hM) g7.1 g7.2.1) ?_
  refine Lst.run rfl rfl (by decide) (Ev.loadSA (α := Event) rfl (hs_a0.mono hF4 hM) Try.isAgg75 Try.sizeOf75 (ch := enc x5) (Enc.len _) (by decide) ((Get.elemN (s := 3) (x := x5) rfl g7.2.2 (Get.here _)).off (by omega))) ?_
  refine Lst.alloc (cs := enc Event.zero) rfl rfl (by decide) Try.zeroValue75 rfl (fun b8 => ?_)
  refine Lst.run rfl rfl (by decide) (Ev.assign rfl) ?_
  refine Lst.store (i := 0) rfl rfl rfl rfl rfl Try.sizeOf75 (vs := enc x5) rfl (Enc.len _) (Enc.one _) (cs' := enc x5) (Put.here ((Enc.len _).trans (Enc.len _).symm)) (L' := (.blk b8 (enc x5) 75) :: L) rfl ?_
  refine Lst.nil ?_
  refine At.then ?_
  refine Cd.seq ?_
  refine Cd.seq ?_
  refine Cd.region ?_
  refine Lst.run rfl rfl (by decide) (Ev.fieldAddr (off' := 0) rfl Try.runUnderlying75 rfl Try.sizeOf3 rfl rfl) ?_
  refine Lst.run rfl rfl (by decide) (Ev.load (i := 0) rfl rfl Try.isAgg3 (v := .int .i64 x5.Proc) ((Event.get_Proc (Get.here _)).off (by rfl))) ?_
  refine Lst.run rfl rfl (by decide) (Ev.lss rfl rfl) ?_
  refine Lst.run rfl rfl (by decide) (Ev.move rfl) ?_
  obtain ⟨o10, H, HKo10⟩ := bind_some H
  refine Lst.join (σ := Bool) 4 (fun y11 => [(0, Sl.v s_a0), (3, .int .i64 (i2 : Int)), (4, .pointer (some ⟨b8, 0, none⟩)), (12, Sl.v s_a0), (13, .int .i64 (a0.length : Int)), (14, .int .i64 (i2 : Int)), (26, .bool y11)]) (fun y11 => (.blk b8 (enc x5) 75) :: L) (fun _ y11 => y11 = o10) ?_ ?_
  · rcases Bool.eq_false_or_eq_true (decide (x5.Proc < (0 : Int))) with hb12 | hb12
    · replace H := ite_t hb12 H
      refine Lst.skip rfl rfl rfl hb12 rfl (by decide) ?_
      refine Lst.skip rfl rfl rfl hb12 rfl (by decide) ?_
      refine Lst.skip rfl rfl rfl hb12 rfl (by decide) ?_
      refine Lst.run rfl rfl (by decide) (Ev.pickT rfl hb12 rfl) ?_
      refine Lst.nil ?_
      exact At.meet true (FLe.refl _) ⟨rfl, rfl, rfl, rfl, rfl, rfl, rfl, trivial⟩ rfl (some_inj H)
    replace H := ite_f hb12 H
    refine Lst.runG rfl rfl rfl hb12 rfl (by decide) (Ev.fieldAddr (off' := 0) rfl Try.runUnderlying75 rfl Try.sizeOf3 rfl rfl) ?_
    refine Lst.runG rfl rfl rfl hb12 rfl (by decide) (Ev.load (i := 0) rfl rfl Try.isAgg3 (v := .int .i64 x5.Proc) ((Event.get_Proc (Get.here _)).off (by rfl))) ?_
    refine Lst.runG rfl rfl rfl hb12 rfl (by decide) (Ev.gtr rfl rfl) ?_
    refine Lst.run rfl rfl (by decide) (Ev.pickF rfl hb12 rfl) ?_
    refine Lst.nil ?_
    exact At.meet (decide (x5.Proc > (5 : Int))) (FLe.refl _) ⟨rfl, rfl, rfl, rfl, rfl, rfl, rfl, trivial⟩ rfl (some_inj H)
  rintro F13 y11 hF14 hy
  subst hy
  refine Lst.as (e' := [(0, Sl.v s_a0), (3, .int .i64 (i2 : Int)), (4, .pointer (some ⟨b8, 0, none⟩)), (12, Sl.v s_a0), (13, .int .i64 (a0.length : Int)), (14, .int .i64 (i2 : Int)), (26, .bool y11)]) (L' := (.blk b8 (enc x5) 75) :: L) ⟨rfl, rfl, rfl, rfl, rfl, rfl, rfl, trivial⟩ rfl ?_
  replace H := HKo10
  refine Lst.run rfl rfl (by decide) (Ev.move rfl) ?_
  obtain ⟨o15, H, HKo15⟩ := bind_some H
  refine Lst.join (σ := Bool) 4 (fun y16 => [(0, Sl.v s_a0), (3, .int .i64 (i2 : Int)), (4, .pointer (some ⟨b8, 0, none⟩)), (12, Sl.v s_a0), (13, .int .i64 (a0.length : Int)), (14, .int .i64 (i2 : Int)), (31, .bool y16)]) (fun y16 => (.blk b8 (enc x5) 75) :: L) (fun _ y16 => y16 = o15) ?_ ?_
  · rcases Bool.eq_false_or_eq_true y11 with hb17 | hb17
    · replace H := ite_t hb17 H
      refine Lst.skip rfl rfl rfl hb17 rfl (by decide) ?_
      refine Lst.skip rfl rfl rfl hb17 rfl (by decide) ?_
      refine Lst.skip rfl rfl rfl hb17 rfl (by decide) ?_
      refine Lst.run rfl rfl (by decide) (Ev.pickT rfl hb17 rfl) ?_
      refine Lst.nil ?_
      exact At.meet true (FLe.refl _) ⟨rfl, rfl, rfl, rfl, rfl, rfl, rfl, trivial⟩ rfl (some_inj H)
    replace H := ite_f hb17 H
    refine Lst.runG rfl rfl rfl hb17 rfl (by decide) (Ev.fieldAddr (off' := 2) rfl Try.runUnderlying75 rfl Try.sizeOf3 rfl rfl) ?_
    refine Lst.runG rfl rfl rfl hb17 rfl (by decide) (Ev.load (i := 0) rfl rfl Try.isAgg3 (v := .int .i64 x5.Msg) ((Event.get_Msg (Get.here _)).off (by rfl))) ?_
    refine Lst.runG rfl rfl rfl hb17 rfl (by decide) (Ev.lss rfl rfl) ?_
    refine Lst.run rfl rfl (by decide) (Ev.pickF rfl hb17 rfl) ?_
    refine Lst.nil ?_
    exact At.meet (decide (x5.Msg < (0 : Int))) (FLe.refl _) ⟨rfl, rfl, rfl, rfl, rfl, rfl, rfl, trivial⟩ rfl (some_inj H)
  rintro F18 y16 hF19 hy
  subst hy
  refine Lst.as (e' := [(0, Sl.v s_a0), (3, .int .i64 (i2 : Int)), (4, .pointer (some ⟨b8, 0, none⟩)), (12, Sl.v s_a0), (13, .int .i64 (a0.length : Int)), (14, .int .i64 (i2 : Int)), (31, .bool y16)]) (L' := (.blk b8 (enc x5) 75) :: L) ⟨rfl, rfl, rfl, rfl, rfl, rfl, rfl, trivial⟩ rfl ?_
  replace H := HKo15
  refine Lst.run rfl rfl (by decide) (Ev.move rfl) ?_
  obtain ⟨o20, H, HKo20⟩ := bind_some H
  refine Lst.join (σ := Bool) 4 (fun y21 => [(0, Sl.v s_a0), (3, .int .i64 (i2 : Int)), (4, .pointer (some ⟨b8, 0, none⟩)), (12, Sl.v s_a0), (13, .int .i64 (a0.length : Int)), (14, .int .i64 (i2 : Int)), (36, .bool y21)]) (fun y21 => (.blk b8 (enc x5) 75) :: L) (fun _ y21 => y21 = o20) ?_ ?_
  · rcases Bool.eq_false_or_eq_true y16 with hb22 | hb22
    · replace H := ite_t hb22 H
      refine Lst.skip rfl rfl rfl hb22 rfl (by decide) ?_
      refine Lst.skip rfl rfl rfl hb22 rfl (by decide) ?_
      refine Lst.skip rfl rfl rfl hb22 rfl (by decide) ?_
      refine Lst.run rfl rfl (by decide) (Ev.pickT rfl hb22 rfl) ?_
      refine Lst.nil ?_
      exact At.meet true (FLe.refl _) ⟨rfl, rfl, rfl, rfl, rfl, rfl, rfl, trivial⟩ rfl (some_inj H)
    replace H := ite_f hb22 H
    refine Lst.runG rfl rfl rfl hb22 rfl (by decide) (Ev.fieldAddr (off' := 2) rfl Try.runUnderlying75 rfl Try.sizeOf3 rfl rfl) ?_
    refine Lst.runG rfl rfl rfl hb22 rfl (by decide) (Ev.load (i := 0) rfl rfl Try.isAgg3 (v := .int .i64 x5.Msg) ((Event.get_Msg (Get.here _)).off (by rfl))) ?_
    refine Lst.runG rfl rfl rfl hb22 rfl (by decide) (Ev.gtr rfl rfl) ?_
    refine Lst.run rfl rfl (by decide) (Ev.pickF rfl hb22 rfl) ?_
    refine Lst.nil ?_
    exact At.meet (decide (x5.Msg > (29 : Int))) (FLe.refl _) ⟨rfl, rfl, rfl, rfl, rfl, rfl, rfl, trivial⟩ rfl (some_inj H)
  rintro F23 y21 hF24 hy
  subst hy
  refine Lst.as (e' := [(0, Sl.v s_a0), (3, .int .i64 (i2 : Int)), (4, .pointer (some ⟨b8, 0, none⟩)), (12, Sl.v s_a0), (13, .int .i64 (a0.length : Int)), (14, .int .i64 (i2 : Int)), (36, .bool y21)]) (L' := (.blk b8 (enc x5) 75) :: L) ⟨rfl, rfl, rfl, rfl, rfl, rfl, rfl, trivial⟩ rfl ?_
  replace H := HKo20
  refine Lst.nil ?_
  refine At.then ?_
  rcases Bool.eq_false_or_eq_true y21 with hb25 | hb25
  · replace H := ite_t hb25 H
    refine Cd.condT rfl hb25 ?_
    refine Cd.seq ?_
    refine Cd.region ?_
    refine Lst.run rfl rfl (by decide) (Ev.assign rfl) ?_
    refine Lst.nil ?_
    refine At.then ?_
    have H := hret2 _ (some_inj H).symm
    subst H
    replace H := HKl2
    obtain rfl := some_inj H
    refine Cd.ret ?_
    refine At.then_ret ?_
    refine At.in_ret ?_
    refine At.then_ret ?_
    refine At.then_ret ?_
    refine At.in_ret ?_
    refine At.then_ret ?_
    exact At.ret1 rfl (Res.tmp rfl) (FLe.trans (FLe.trans (FLe.trans hF4 hF14) hF19) hF24) (List.Sublist.cons _ (List.Sublist.refl _)) ⟨rfl, rfl⟩
  replace H := ite_f hb25 H
  refine Cd.condF rfl hb25 ?_
  refine Cd.skip ?_
  refine At.then ?_
  refine Cd.seq ?_
  refine Cd.region ?_
  refine Lst.run rfl rfl (by decide) (Ev.assign rfl) ?_
  refine Lst.run rfl rfl (by decide) (Ev.assign rfl) ?_
  refine Lst.nil ?_
  refine At.then ?_
  refine Cd.seq ?_
  refine Cd.seq ?_
  refine Cd.region ?_
  refine Lst.run rfl rfl (by decide) (Ev.move rfl) ?_
  refine Lst.run rfl rfl (by decide) (Ev.move rfl) ?_
  obtain ⟨m26, h27, H⟩ := bind_some H
  obtain ⟨g28, gl29⟩ := cutL_some h27
  have hq30 : Rd w0 F M (s_a0.cut (0 : Int).toNat ((i2 : Int) : Int).toNat 3) m26 := by rw [← gl29]; exact Rd.cut (by decide) hs_a0 (by omega) (by omega)
  refine Lst.run rfl rfl (by decide) (Ev.cut (α := Event) (xs := a0) (i := 0) (j := (i2 : Int)) rfl rfl rfl Try.runUnderlying24 Try.sizeOf75 rfl (by decide) (hs_a0.mono (FLe.trans (FLe.trans (FLe.trans hF4 hF14) hF19) hF24) (List.Sublist.cons _ hM)) g28.1 g28.2.1 g28.2.2) ?_
  refine Lst.run rfl rfl (by decide) (Ev.lenS (α := Event) (xs := m26) (by decide) rfl rfl Try.runUnderlying24 (hq30.mono (FLe.trans (FLe.trans (FLe.trans hF4 hF14) hF19) hF24) (List.Sublist.cons _ hM))) ?_
  refine Lst.run rfl rfl (by decide) (Ev.move rfl) ?_
  refine Lst.nil ?_
  refine At.then ?_
  refine Cd.block ?_
  refine Cd.bound (Rd.le (α := Event) (xs := m26) (by decide) (hq30.mono (FLe.trans (FLe.trans (FLe.trans hF4 hF14) hF19) hF24) (List.Sublist.cons _ hM))) (fun hN84 => ?_)
  obtain ⟨ol31, H, HKl31⟩ := bind_some H
  refine Cd.loop (σ := Nat × Nat × Int × Bool) (fun (i31, k31, y32, y33) => [(0, Sl.v s_a0), (4, .pointer (some ⟨b8, 0, none⟩)), (5, .int .i64 y32), (6, .bool y33), (12, Sl.v s_a0), (13, .int .i64 (a0.length : Int)), (14, .int .i64 (i2 : Int)), (39, Sl.v (s_a0.cut (0 : Int).toNat ((i2 : Int) : Int).toNat 3)), (40, .int .i64 (m26.length : Int)), (41, .int .i64 (i31 : Int))]) (fun (i31, k31, y32, y33) => (.blk b8 (enc x5) 75) :: L) (fun _ => (fun (i31, k31, y32, y33) => rangeF (partref_HistoryErr_B2 x5 m26) k31 i31 (y32, y33) = some ol31 ∧ i31 + k31 = m26.length)) (fun (i31, k31, y32, y33) => k31) (0, m26.length, (-1 : Int), false) ⟨rfl, rfl, rfl, rfl, rfl, rfl, rfl, rfl, rfl, rfl, trivial⟩ rfl ⟨H, by omega⟩ ?_
  rintro F34 ⟨i31, k31, y32, y33⟩ hF35 ⟨H, hik31⟩
  refine Cd.as (e' := [(0, Sl.v s_a0), (4, .pointer (some ⟨b8, 0, none⟩)), (5, .int .i64 y32), (6, .bool y33), (12, Sl.v s_a0), (13, .int .i64 (a0.length : Int)), (14, .int .i64 (i2 : Int)), (39, Sl.v (s_a0.cut (0 : Int).toNat ((i2 : Int) : Int).toNat 3)), (40, .int .i64 (m26.length : Int)), (41, .int .i64 (i31 : Int))]) (L' := (.blk b8 (enc x5) 75) :: L) ⟨rfl, rfl, rfl, rfl, rfl, rfl, rfl, rfl, rfl, rfl, trivial⟩ rfl ?_
  rcases k31 with _ | k31
  · have hc31 : decide ((i31 : Int) < (m26.length : Int)) = false := decide_eq_false (by omega)
    replace H := rangeF_end H
    refine Cd.seq ?_
    refine Cd.region ?_
    refine Lst.run rfl rfl (by decide) (Ev.lss rfl rfl) ?_
    refine Lst.nil ?_
    refine At.then ?_
    refine Cd.seq ?_
    refine Cd.condF rfl hc31 ?_
    refine Cd.exit ?_
    refine At.then_exit ?_
    refine At.then_exit ?_
    refine At.in_exit ?_
    subst H
    replace H := HKl31
    refine At.then ?_
    refine Cd.block ?_
    refine Cd.seq ?_
    refine Cd.region ?_
    refine Lst.run rfl rfl (by decide) (Ev.fieldAddr (off' := 1) rfl Try.runUnderlying75 rfl Try.sizeOf3 rfl rfl) ?_
    refine Lst.run rfl rfl (by decide) (Ev.load (i := 0) rfl rfl Try.isAgg3 (v := .int .i64 x5.Kind) ((Event.get_Kind (Get.here _)).off (by rfl))) ?_
    refine Lst.run rfl rfl (by decide) (Ev.eql rfl rfl) ?_
    refine Lst.run rfl rfl (by decide) (Ev.move rfl) ?_
    obtain ⟨o56, H, HKo56⟩ := bind_some H
    refine Lst.join (σ := Bool) 4 (fun y57 => [(0, Sl.v s_a0), (4, .pointer (some ⟨b8, 0, none⟩)), (5, .int .i64 y32), (6, .bool y33), (12, Sl.v s_a0), (13, .int .i64 (a0.length : Int)), (14, .int .i64 (i2 : Int)), (72, .bool y57)]) (fun y57 => (.blk b8 (enc x5) 75) :: L) (fun _ y57 => y57 = o56) ?_ ?_
    · rcases (Bool.eq_false_or_eq_true (x5.Kind == (1 : Int))).symm with hb58 | hb58
      · replace H := ite_f hb58 H
        refine Lst.skip rfl rfl rfl hb58 rfl (by decide) ?_
        refine Lst.skip rfl rfl rfl hb58 rfl (by decide) ?_
        refine Lst.skip rfl rfl rfl hb58 rfl (by decide) ?_
        refine Lst.run rfl rfl (by decide) (Ev.pickF rfl hb58 rfl) ?_
        refine Lst.nil ?_
        exact At.meet false (FLe.refl _) ⟨rfl, rfl, rfl, rfl, rfl, rfl, rfl, rfl, trivial⟩ rfl (some_inj H)
      replace H := ite_t hb58 H
      refine Lst.runG rfl rfl rfl hb58 rfl (by decide) (Ev.fieldAddr (off' := 2) rfl Try.runUnderlying75 rfl Try.sizeOf3 rfl rfl) ?_
      refine Lst.runG rfl rfl rfl hb58 rfl (by decide) (Ev.load (i := 0) rfl rfl Try.isAgg3 (v := .int .i64 x5.Msg) ((Event.get_Msg (Get.here _)).off (by rfl))) ?_
      refine Lst.runG rfl rfl rfl hb58 rfl (by decide) (Ev.eql rfl rfl) ?_
      refine Lst.run rfl rfl (by decide) (Ev.pickT rfl hb58 rfl) ?_
      refine Lst.nil ?_
      exact At.meet (x5.Msg == (0 : Int)) (FLe.refl _) ⟨rfl, rfl, rfl, rfl, rfl, rfl, rfl, rfl, trivial⟩ rfl (some_inj H)
    rintro F59 y57 hF60 hy
    subst hy
    refine Lst.as (e' := [(0, Sl.v s_a0), (4, .pointer (some ⟨b8, 0, none⟩)), (5, .int .i64 y32), (6, .bool y33), (12, Sl.v s_a0), (13, .int .i64 (a0.length : Int)), (14, .int .i64 (i2 : Int)), (72, .bool y57)]) (L' := (.blk b8 (enc x5) 75) :: L) ⟨rfl, rfl, rfl, rfl, rfl, rfl, rfl, rfl, trivial⟩ rfl ?_
    replace H := HKo56
    refine Lst.run rfl rfl (by decide) (Ev.assign rfl) ?_
    refine Lst.nil ?_
    refine At.then ?_
    rcases Bool.eq_false_or_eq_true y57 with hb61 | hb61
    · replace H := ite_t hb61 H
      refine Cd.condT rfl hb61 ?_
      refine Cd.skip ?_
      refine At.in_normal ?_
      refine At.in_normal ?_
      refine At.then ?_
      refine Cd.region ?_
      refine Lst.run rfl rfl (by decide) (Ev.incr (by omega) rfl rfl) ?_
      refine Lst.run rfl rfl (by decide) (Ev.move rfl) ?_
      refine Lst.nil ?_
      refine At.less (L' := L) (List.Sublist.cons _ (List.Sublist.refl _)) ?_
      exact At.meet (i2 + 1, k2, ()) (FLe.trans (FLe.trans (FLe.trans (FLe.trans (FLe.trans hF4 hF14) hF19) hF24) hF35) hF60) ⟨rfl, rfl, rfl, rfl, trivial⟩ rfl ⟨⟨hgo2 _ (some_inj H).symm, by omega⟩, Nat.lt_succ_self _⟩
    replace H := ite_f hb61 H
    refine Cd.condF rfl hb61 ?_
    refine Cd.seq ?_
    refine Cd.region ?_
    refine Lst.run rfl rfl (by decide) (Ev.fieldAddr (off' := 1) rfl Try.runUnderlying75 rfl Try.sizeOf3 rfl rfl) ?_
    refine Lst.run rfl rfl (by decide) (Ev.load (i := 0) rfl rfl Try.isAgg3 (v := .int .i64 x5.Kind) ((Event.get_Kind (Get.here _)).off (by rfl))) ?_
    refine Lst.run rfl rfl (by decide) (Ev.eql rfl rfl) ?_
    refine Lst.run rfl rfl (by decide) (Ev.move rfl) ?_
    obtain ⟨o62, H, HKo62⟩ := bind_some H
    refine Lst.join (σ := Bool) 3 (fun y63 => [(0, Sl.v s_a0), (4, .pointer (some ⟨b8, 0, none⟩)), (5, .int .i64 y32), (6, .bool y33), (12, Sl.v s_a0), (13, .int .i64 (a0.length : Int)), (14, .int .i64 (i2 : Int)), (80, .bool y63)]) (fun y63 => (.blk b8 (enc x5) 75) :: L) (fun _ y63 => y63 = o62) ?_ ?_
    · rcases (Bool.eq_false_or_eq_true (x5.Kind == (2 : Int))).symm with hb64 | hb64
      · replace H := ite_f hb64 H
        refine Lst.skip rfl rfl rfl hb64 rfl (by decide) ?_
        refine Lst.skip rfl rfl rfl hb64 rfl (by decide) ?_
        refine Lst.run rfl rfl (by decide) (Ev.pickF rfl hb64 rfl) ?_
        refine Lst.nil ?_
        exact At.meet false (FLe.refl _) ⟨rfl, rfl, rfl, rfl, rfl, rfl, rfl, rfl, trivial⟩ rfl (some_inj H)
      replace H := ite_t hb64 H
      refine Lst.runG rfl rfl rfl hb64 rfl (by decide) (Ev.move rfl) ?_
      refine Lst.runG rfl rfl rfl hb64 rfl (by decide) (Ev.lss rfl rfl) ?_
      refine Lst.run rfl rfl (by decide) (Ev.pickT rfl hb64 rfl) ?_
      refine Lst.nil ?_
      exact At.meet (decide (y32 < (0 : Int))) (FLe.refl _) ⟨rfl, rfl, rfl, rfl, rfl, rfl, rfl, rfl, trivial⟩ rfl (some_inj H)
    rintro F65 y63 hF66 hy
    subst hy
    refine Lst.as (e' := [(0, Sl.v s_a0), (4, .pointer (some ⟨b8, 0, none⟩)), (5, .int .i64 y32), (6, .bool y33), (12, Sl.v s_a0), (13, .int .i64 (a0.length : Int)), (14, .int .i64 (i2 : Int)), (80, .bool y63)]) (L' := (.blk b8 (enc x5) 75) :: L) ⟨rfl, rfl, rfl, rfl, rfl, rfl, rfl, rfl, trivial⟩ rfl ?_
    replace H := HKo62
    refine Lst.run rfl rfl (by decide) (Ev.assign rfl) ?_
    refine Lst.nil ?_
    refine At.then ?_
    rcases Bool.eq_false_or_eq_true y63 with hb67 | hb67
    · replace H := ite_t hb67 H
      refine Cd.condT rfl hb67 ?_
      refine Cd.skip ?_
      refine At.in_normal ?_
      refine At.in_normal ?_
      refine At.then ?_
      refine Cd.region ?_
      refine Lst.run rfl rfl (by decide) (Ev.incr (by omega) rfl rfl) ?_
      refine Lst.run rfl rfl (by decide) (Ev.move rfl) ?_
      refine Lst.nil ?_
      refine At.less (L' := L) (List.Sublist.cons _ (List.Sublist.refl _)) ?_
      exact At.meet (i2 + 1, k2, ()) (FLe.trans (FLe.trans (FLe.trans (FLe.trans (FLe.trans (FLe.trans hF4 hF14) hF19) hF24) hF35) hF60) hF66) ⟨rfl, rfl, rfl, rfl, trivial⟩ rfl ⟨⟨hgo2 _ (some_inj H).symm, by omega⟩, Nat.lt_succ_self _⟩
    replace H := ite_f hb67 H
    refine Cd.condF rfl hb67 ?_
    refine Cd.seq ?_
    refine Cd.region ?_
    refine Lst.run rfl rfl (by decide) (Ev.fieldAddr (off' := 1) rfl Try.runUnderlying75 rfl Try.sizeOf3 rfl rfl) ?_
    refine Lst.run rfl rfl (by decide) (Ev.load (i := 0) rfl rfl Try.isAgg3 (v := .int .i64 x5.Kind) ((Event.get_Kind (Get.here _)).off (by rfl))) ?_
    refine Lst.run rfl rfl (by decide) (Ev.eql rfl rfl) ?_
    refine Lst.run rfl rfl (by decide) (Ev.move rfl) ?_
    obtain ⟨o68, H, HKo68⟩ := bind_some H
    refine Lst.join (σ := Bool) 3 (fun y69 => [(0, Sl.v s_a0), (4, .pointer (some ⟨b8, 0, none⟩)), (5, .int .i64 y32), (6, .bool y33), (12, Sl.v s_a0), (13, .int .i64 (a0.length : Int)), (14, .int .i64 (i2 : Int)), (88, .bool y69)]) (fun y69 => (.blk b8 (enc x5) 75) :: L) (fun _ y69 => y69 = o68) ?_ ?_
    · rcases (Bool.eq_false_or_eq_true (x5.Kind == (3 : Int))).symm with hb70 | hb70
      · replace H := ite_f hb70 H
        refine Lst.skip rfl rfl rfl hb70 rfl (by decide) ?_
        refine Lst.skip rfl rfl rfl hb70 rfl (by decide) ?_
        refine Lst.run rfl rfl (by decide) (Ev.pickF rfl hb70 rfl) ?_
        refine Lst.nil ?_
        exact At.meet false (FLe.refl _) ⟨rfl, rfl, rfl, rfl, rfl, rfl, rfl, rfl, trivial⟩ rfl (some_inj H)
      replace H := ite_t hb70 H
      refine Lst.runG rfl rfl rfl hb70 rfl (by decide) (Ev.move rfl) ?_
      refine Lst.runG rfl rfl rfl hb70 rfl (by decide) (Ev.geq rfl rfl) ?_
      refine Lst.run rfl rfl (by decide) (Ev.pickT rfl hb70 rfl) ?_
      refine Lst.nil ?_
      exact At.meet (decide (y32 ≥ (0 : Int))) (FLe.refl _) ⟨rfl, rfl, rfl, rfl, rfl, rfl, rfl, rfl, trivial⟩ rfl (some_inj H)
    rintro F71 y69 hF72 hy
    subst hy
    refine Lst.as (e' := [(0, Sl.v s_a0), (4, .pointer (some ⟨b8, 0, none⟩)), (5, .int .i64 y32), (6, .bool y33), (12, Sl.v s_a0), (13, .int .i64 (a0.length : Int)), (14, .int .i64 (i2 : Int)), (88, .bool y69)]) (L' := (.blk b8 (enc x5) 75) :: L) ⟨rfl, rfl, rfl, rfl, rfl, rfl, rfl, rfl, trivial⟩ rfl ?_
    replace H := HKo68
    refine Lst.run rfl rfl (by decide) (Ev.move rfl) ?_
    obtain ⟨o73, H, HKo73⟩ := bind_some H
    refine Lst.join (σ := Bool) 5 (fun y74 => [(0, Sl.v s_a0), (6, .bool y33), (12, Sl.v s_a0), (13, .int .i64 (a0.length : Int)), (14, .int .i64 (i2 : Int)), (94, .bool y74)]) (fun y74 => (.blk b8 (enc x5) 75) :: L) (fun _ y74 => y74 = o73) ?_ ?_
    · rcases (Bool.eq_false_or_eq_true y69).symm with hb75 | hb75
      · replace H := ite_f hb75 H
        refine Lst.skip rfl rfl rfl hb75 rfl (by decide) ?_
        refine Lst.skip rfl rfl rfl hb75 rfl (by decide) ?_
        refine Lst.skip rfl rfl rfl hb75 rfl (by decide) ?_
        refine Lst.skip rfl rfl rfl hb75 rfl (by decide) ?_
        refine Lst.run rfl rfl (by decide) (Ev.pickF rfl hb75 rfl) ?_
        refine Lst.nil ?_
        exact At.meet false (FLe.refl _) ⟨rfl, rfl, rfl, rfl, rfl, rfl, trivial⟩ rfl (some_inj H)
      replace H := ite_t hb75 H
      refine Lst.runG rfl rfl rfl hb75 rfl (by decide) (Ev.move rfl) ?_
      refine Lst.runG rfl rfl rfl hb75 rfl (by decide) (Ev.fieldAddr (off' := 0) rfl Try.runUnderlying75 rfl Try.sizeOf3 rfl rfl) ?_
      refine Lst.runG rfl rfl rfl hb75 rfl (by decide) (Ev.load (i := 0) rfl rfl Try.isAgg3 (v := .int .i64 x5.Proc) ((Event.get_Proc (Get.here _)).off (by rfl))) ?_
      refine Lst.runG rfl rfl rfl hb75 rfl (by decide) (Ev.neq rfl rfl) ?_
      refine Lst.run rfl rfl (by decide) (Ev.pickT rfl hb75 rfl) ?_
      refine Lst.nil ?_
      exact At.meet (y32 != x5.Proc) (FLe.refl _) ⟨rfl, rfl, rfl, rfl, rfl, rfl, trivial⟩ rfl (some_inj H)
    rintro F76 y74 hF77 hy
    subst hy
    refine Lst.as (e' := [(0, Sl.v s_a0), (6, .bool y33), (12, Sl.v s_a0), (13, .int .i64 (a0.length : Int)), (14, .int .i64 (i2 : Int)), (94, .bool y74)]) (L' := (.blk b8 (enc x5) 75) :: L) ⟨rfl, rfl, rfl, rfl, rfl, rfl, trivial⟩ rfl ?_
    replace H := HKo73
    refine Lst.run rfl rfl (by decide) (Ev.move rfl) ?_
    obtain ⟨o78, H, HKo78⟩ := bind_some H
    refine Lst.join (σ := Bool) 3 (fun y79 => [(0, Sl.v s_a0), (12, Sl.v s_a0), (13, .int .i64 (a0.length : Int)), (14, .int .i64 (i2 : Int)), (98, .bool y79)]) (fun y79 => (.blk b8 (enc x5) 75) :: L) (fun _ y79 => y79 = o78) ?_ ?_
    · rcases (Bool.eq_false_or_eq_true y74).symm with hb80 | hb80
      · replace H := ite_f hb80 H
        refine Lst.skip rfl rfl rfl hb80 rfl (by decide) ?_
        refine Lst.skip rfl rfl rfl hb80 rfl (by decide) ?_
        refine Lst.run rfl rfl (by decide) (Ev.pickF rfl hb80 rfl) ?_
        refine Lst.nil ?_
        exact At.meet false (FLe.refl _) ⟨rfl, rfl, rfl, rfl, rfl, trivial⟩ rfl (some_inj H)
      replace H := ite_t hb80 H
      refine Lst.runG rfl rfl rfl hb80 rfl (by decide) (Ev.move rfl) ?_
      refine Lst.runG rfl rfl rfl hb80 rfl (by decide) (Ev.not rfl) ?_
      refine Lst.run rfl rfl (by decide) (Ev.pickT rfl hb80 rfl) ?_
      refine Lst.nil ?_
      exact At.meet (!y33) (FLe.refl _) ⟨rfl, rfl, rfl, rfl, rfl, trivial⟩ rfl (some_inj H)
    rintro F81 y79 hF82 hy
    subst hy
    refine Lst.as (e' := [(0, Sl.v s_a0), (12, Sl.v s_a0), (13, .int .i64 (a0.length : Int)), (14, .int .i64 (i2 : Int)), (98, .bool y79)]) (L' := (.blk b8 (enc x5) 75) :: L) ⟨rfl, rfl, rfl, rfl, rfl, trivial⟩ rfl ?_
    replace H := HKo78
    refine Lst.run rfl rfl (by decide) (Ev.assign rfl) ?_
    refine Lst.nil ?_
    refine At.then ?_
    rcases (Bool.eq_false_or_eq_true y79).symm with hb83 | hb83
    · replace H := ite_f hb83 H
      refine Cd.condF rfl hb83 ?_
      refine Cd.seq ?_
      refine Cd.region ?_
      refine Lst.run rfl rfl (by decide) (Ev.assign rfl) ?_
      refine Lst.nil ?_
      refine At.then ?_
      have H := hret2 _ (some_inj H).symm
      subst H
      replace H := HKl2
      obtain rfl := some_inj H
      refine Cd.ret ?_
      refine At.in_ret ?_
      refine At.in_ret ?_
      refine At.then_ret ?_
      refine At.then_ret ?_
      refine At.in_ret ?_
      refine At.then_ret ?_
      exact At.ret1 rfl (Res.tmp rfl) (FLe.trans (FLe.trans (FLe.trans (FLe.trans (FLe.trans (FLe.trans (FLe.trans (FLe.trans (FLe.trans hF4 hF14) hF19) hF24) hF35) hF60) hF66) hF72) hF77) hF82) (List.Sublist.cons _ (List.Sublist.refl _)) ⟨rfl, rfl⟩
    replace H := ite_t hb83 H
    refine Cd.condT rfl hb83 ?_
    refine Cd.skip ?_
    refine At.in_normal ?_
    refine At.in_normal ?_
    refine At.then ?_
    refine Cd.region ?_
    refine Lst.run rfl rfl (by decide) (Ev.incr (by omega) rfl rfl) ?_
    refine Lst.run rfl rfl (by decide) (Ev.move rfl) ?_
    refine Lst.nil ?_
    refine At.less (L' := L) (List.Sublist.cons _ (List.Sublist.refl _)) ?_
    exact At.meet (i2 + 1, k2, ()) (FLe.trans (FLe.trans (FLe.trans (FLe.trans (FLe.trans (FLe.trans (FLe.trans (FLe.trans (FLe.trans hF4 hF14) hF19) hF24) hF35) hF60) hF66) hF72) hF77) hF82) ⟨rfl, rfl, rfl, rfl, trivial⟩ rfl ⟨⟨hgo2 _ (some_inj H).symm, by omega⟩, Nat.lt_succ_self _⟩
  have hc31 : decide ((i31 : Int) < (m26.length : Int)) = true := decide_eq_true (by omega)
  obtain ⟨c31, H, hgo31⟩ := rangeF_go H
  unfold partref_HistoryErr_B2 at H
  try dsimp only at H
  refine Cd.seq ?_
  refine Cd.region ?_
  refine Lst.run rfl rfl (by decide) (Ev.lss rfl rfl) ?_
  refine Lst.nil ?_
  refine At.then ?_
  refine Cd.seq ?_
  refine Cd.condT rfl hc31 ?_
  refine Cd.skip ?_
  refine At.then ?_
  refine Cd.seq ?_
  refine Cd.block ?_
  refine Cd.seq ?_
  refine Cd.region ?_
  obtain ⟨x36, h37, H⟩ := bind_some H
  have g38 := lat_some h37
  refine Lst.run rfl rfl (by decide) (Ev.indexS (α := Event) (xs := m26) rfl rfl Try.runUnderlying24 Try.sizeOf75 rfl (by decide) (hq30.mono (FLe.trans (FLe.trans (FLe.trans (FLe.trans hF4 hF14) hF19) hF24) hF35) (List.Sublist.cons _ hM)) g38.1 g38.2.1) ?_
  refine Lst.run rfl rfl (by decide) (Ev.loadSA (α := Event) rfl (hq30.mono (FLe.trans (FLe.trans (FLe.trans (FLe.trans hF4 hF14) hF19) hF24) hF35) (List.Sublist.cons _ hM)) Try.isAgg75 Try.sizeOf75 (ch := enc x36) (Enc.len _) (by decide) ((Get.elemN (s := 3) (x := x36) rfl g38.2.2 (Get.here _)).off (by omega))) ?_
  refine Lst.alloc (cs := enc Event.zero) rfl rfl (by decide) Try.zeroValue75 rfl (fun b39 => ?_)
  refine Lst.store (i := 0) rfl rfl rfl rfl rfl Try.sizeOf75 (vs := enc x36) rfl (Enc.len _) (Enc.one _) (cs' := enc x36) (Put.here ((Enc.len _).trans (Enc.len _).symm)) (L' := (.blk b39 (enc x36) 75) :: (.blk b8 (enc x5) 75) :: L) rfl ?_
  refine Lst.nil ?_
  refine At.then ?_
  obtain ⟨o42, H, HKo42⟩ := bind_some H
  refine Cd.join (σ := Int) (fun y41 => [(0, Sl.v s_a0), (4, .pointer (some ⟨b8, 0, none⟩)), (5, .int .i64 y41), (6, .bool y33), (8, .pointer (some ⟨b39, 0, none⟩)), (12, Sl.v s_a0), (13, .int .i64 (a0.length : Int)), (14, .int .i64 (i2 : Int)), (39, Sl.v (s_a0.cut (0 : Int).toNat ((i2 : Int) : Int).toNat 3)), (40, .int .i64 (m26.length : Int)), (41, .int .i64 (i31 : Int))]) (fun y41 => (.blk b39 (enc x36) 75) :: (.blk b8 (enc x5) 75) :: L) (fun _ y41 => y41 = o42) ?_ ?_
  · refine Cd.seq ?_
    refine Cd.region ?_
    refine Lst.run rfl rfl (by decide) (Ev.fieldAddr (off' := 1) rfl Try.runUnderlying75 rfl Try.sizeOf3 rfl rfl) ?_
    refine Lst.run rfl rfl (by decide) (Ev.load (i := 0) rfl rfl Try.isAgg3 (v := .int .i64 x36.Kind) ((Event.get_Kind (Get.here _)).off (by rfl))) ?_
    refine Lst.run rfl rfl (by decide) (Ev.eql rfl rfl) ?_
    refine Lst.run rfl rfl (by decide) (Ev.move rfl) ?_
    obtain ⟨o43, H, HKo43⟩ := bind_some H
    refine Lst.join (σ := Bool) 6 (fun y44 => [(0, Sl.v s_a0), (4, .pointer (some ⟨b8, 0, none⟩)), (5, .int .i64 y32), (6, .bool y33), (8, .pointer (some ⟨b39, 0, none⟩)), (12, Sl.v s_a0), (13, .int .i64 (a0.length : Int)), (14, .int .i64 (i2 : Int)), (39, Sl.v (s_a0.cut (0 : Int).toNat ((i2 : Int) : Int).toNat 3)), (40, .int .i64 (m26.length : Int)), (41, .int .i64 (i31 : Int)), (54, .bool y44)]) (fun y44 => (.blk b39 (enc x36) 75) :: (.blk b8 (enc x5) 75) :: L) (fun _ y44 => y44 = o43) ?_ ?_
    · rcases (Bool.eq_false_or_eq_true (x36.Kind == (2 : Int))).symm with hb45 | hb45
      · replace H := ite_f hb45 H
        refine Lst.skip rfl rfl rfl hb45 rfl (by decide) ?_
        refine Lst.skip rfl rfl rfl hb45 rfl (by decide) ?_
        refine Lst.skip rfl rfl rfl hb45 rfl (by decide) ?_
        refine Lst.skip rfl rfl rfl hb45 rfl (by decide) ?_
        refine Lst.skip rfl rfl rfl hb45 rfl (by decide) ?_
        refine Lst.run rfl rfl (by decide) (Ev.pickF rfl hb45 rfl) ?_
        refine Lst.nil ?_
        exact At.meet false (FLe.refl _) ⟨rfl, rfl, rfl, rfl, rfl, rfl, rfl, rfl, rfl, rfl, rfl, rfl, trivial⟩ rfl (some_inj H)
      replace H := ite_t hb45 H
      refine Lst.runG rfl rfl rfl hb45 rfl (by decide) (Ev.fieldAddr (off' := 2) rfl Try.runUnderlying75 rfl Try.sizeOf3 rfl rfl) ?_
      refine Lst.runG rfl rfl rfl hb45 rfl (by decide) (Ev.load (i := 0) rfl rfl Try.isAgg3 (v := .int .i64 x36.Msg) ((Event.get_Msg (Get.here _)).off (by rfl))) ?_
      refine Lst.runG rfl rfl rfl hb45 rfl (by decide) (Ev.fieldAddr (off' := 2) rfl Try.runUnderlying75 rfl Try.sizeOf3 rfl rfl) ?_
      refine Lst.runG rfl rfl rfl hb45 rfl (by decide) (Ev.load (i := 1) rfl rfl Try.isAgg3 (v := .int .i64 x5.Msg) ((Event.get_Msg (Get.here _)).off (by rfl))) ?_
      refine Lst.runG rfl rfl rfl hb45 rfl (by decide) (Ev.eql rfl rfl) ?_
      refine Lst.run rfl rfl (by decide) (Ev.pickT rfl hb45 rfl) ?_
      refine Lst.nil ?_
      exact At.meet (x36.Msg == x5.Msg) (FLe.refl _) ⟨rfl, rfl, rfl, rfl, rfl, rfl, rfl, rfl, rfl, rfl, rfl, rfl, trivial⟩ rfl (some_inj H)
    rintro F46 y44 hF47 hy
    subst hy
    refine Lst.as (e' := [(0, Sl.v s_a0), (4, .pointer (some ⟨b8, 0, none⟩)), (5, .int .i64 y32), (6, .bool y33), (8, .pointer (some ⟨b39, 0, none⟩)), (12, Sl.v s_a0), (13, .int .i64 (a0.length : Int)), (14, .int .i64 (i2 : Int)), (39, Sl.v (s_a0.cut (0 : Int).toNat ((i2 : Int) : Int).toNat 3)), (40, .int .i64 (m26.length : Int)), (41, .int .i64 (i31 : Int)), (54, .bool y44)]) (L' := (.blk b39 (enc x36) 75) :: (.blk b8 (enc x5) 75) :: L) ⟨rfl, rfl, rfl, rfl, rfl, rfl, rfl, rfl, rfl, rfl, rfl, rfl, trivial⟩ rfl ?_
    replace H := HKo43
    refine Lst.nil ?_
    refine At.then ?_
    rcases (Bool.eq_false_or_eq_true y44).symm with hb48 | hb48
    · replace H := ite_f hb48 H
      refine Cd.condF rfl hb48 ?_
      refine Cd.skip ?_
      exact At.meet y32 hF47 ⟨rfl, rfl, rfl, rfl, rfl, rfl, rfl, rfl, rfl, rfl, rfl, trivial⟩ rfl (some_inj H)
    replace H := ite_t hb48 H
    refine Cd.condT rfl hb48 ?_
    refine Cd.region ?_
    refine Lst.run rfl rfl (by decide) (Ev.fieldAddr (off' := 0) rfl Try.runUnderlying75 rfl Try.sizeOf3 rfl rfl) ?_
    refine Lst.run rfl rfl (by decide) (Ev.load (i := 0) rfl rfl Try.isAgg3 (v := .int .i64 x36.Proc) ((Event.get_Proc (Get.here _)).off (by rfl))) ?_
    refine Lst.run rfl rfl (by decide) (Ev.assign rfl) ?_
    refine Lst.nil ?_
    exact At.meet x36.Proc hF47 ⟨rfl, rfl, rfl, rfl, rfl, rfl, rfl, rfl, rfl, rfl, rfl, trivial⟩ rfl (some_inj H)
  rintro F49 y41 hF50 hy
  subst hy
  refine Cd.as (e' := [(0, Sl.v s_a0), (4, .pointer (some ⟨b8, 0, none⟩)), (5, .int .i64 y41), (6, .bool y33), (8, .pointer (some ⟨b39, 0, none⟩)), (12, Sl.v s_a0), (13, .int .i64 (a0.length : Int)), (14, .int .i64 (i2 : Int)), (39, Sl.v (s_a0.cut (0 : Int).toNat ((i2 : Int) : Int).toNat 3)), (40, .int .i64 (m26.length : Int)), (41, .int .i64 (i31 : Int))]) (L' := (.blk b39 (enc x36) 75) :: (.blk b8 (enc x5) 75) :: L) ⟨rfl, rfl, rfl, rfl, rfl, rfl, rfl, rfl, rfl, rfl, rfl, trivial⟩ rfl ?_
  replace H := HKo42
  refine Cd.region ?_
  refine Lst.run rfl rfl (by decide) (Ev.move rfl) ?_
  refine Lst.run rfl rfl (by decide) (Ev.move rfl) ?_
  obtain ⟨o51, H, HKo51⟩ := bind_some H
  refine Lst.join (σ := Bool) 4 (fun y52 => [(0, Sl.v s_a0), (4, .pointer (some ⟨b8, 0, none⟩)), (5, .int .i64 y41), (6, .bool y33), (12, Sl.v s_a0), (13, .int .i64 (a0.length : Int)), (14, .int .i64 (i2 : Int)), (39, Sl.v (s_a0.cut (0 : Int).toNat ((i2 : Int) : Int).toNat 3)), (40, .int .i64 (m26.length : Int)), (41, .int .i64 (i31 : Int)), (62, .bool y52)]) (fun y52 => (.blk b39 (enc x36) 75) :: (.blk b8 (enc x5) 75) :: L) (fun _ y52 => y52 = o51) ?_ ?_
  · rcases Bool.eq_false_or_eq_true y33 with hb53 | hb53
    · replace H := ite_t hb53 H
      refine Lst.skip rfl rfl rfl hb53 rfl (by decide) ?_
      refine Lst.skip rfl rfl rfl hb53 rfl (by decide) ?_
      refine Lst.skip rfl rfl rfl hb53 rfl (by decide) ?_
      refine Lst.run rfl rfl (by decide) (Ev.pickT rfl hb53 rfl) ?_
      refine Lst.nil ?_
      exact At.meet true (FLe.refl _) ⟨rfl, rfl, rfl, rfl, rfl, rfl, rfl, rfl, rfl, rfl, rfl, trivial⟩ rfl (some_inj H)
    replace H := ite_f hb53 H
    refine Lst.runG rfl rfl rfl hb53 rfl (by decide) (Ev.loadA (i := 0) rfl rfl Try.isAgg75 Try.sizeOf75 (ch := enc x36) (Enc.len _) (Get.here _)) ?_
    refine Lst.runG rfl rfl rfl hb53 rfl (by decide) (Ev.loadA (i := 1) rfl rfl Try.isAgg75 Try.sizeOf75 (ch := enc x5) (Enc.len _) (Get.here _)) ?_
    refine Lst.runG rfl rfl rfl hb53 rfl (by decide) (Ev.eqlA rfl rfl (by kernel_rfl) (eq75 _ _)) ?_
    refine Lst.run rfl rfl (by decide) (Ev.pickF rfl hb53 rfl) ?_
    refine Lst.nil ?_
    exact At.meet (decide (x36 = x5)) (FLe.refl _) ⟨rfl, rfl, rfl, rfl, rfl, rfl, rfl, rfl, rfl, rfl, rfl, trivial⟩ rfl (some_inj H)
  rintro F54 y52 hF55 hy
  subst hy
  refine Lst.as (e' := [(0, Sl.v s_a0), (4, .pointer (some ⟨b8, 0, none⟩)), (5, .int .i64 y41), (6, .bool y33), (12, Sl.v s_a0), (13, .int .i64 (a0.length : Int)), (14, .int .i64 (i2 : Int)), (39, Sl.v (s_a0.cut (0 : Int).toNat ((i2 : Int) : Int).toNat 3)), (40, .int .i64 (m26.length : Int)), (41, .int .i64 (i31 : Int)), (62, .bool y52)]) (L' := (.blk b39 (enc x36) 75) :: (.blk b8 (enc x5) 75) :: L) ⟨rfl, rfl, rfl, rfl, rfl, rfl, rfl, rfl, rfl, rfl, rfl, trivial⟩ rfl ?_
  replace H := HKo51
  refine Lst.run rfl rfl (by decide) (Ev.assign rfl) ?_
  refine Lst.nil ?_
  refine At.in_normal ?_
  refine At.then ?_
  refine Cd.region ?_
  refine Lst.run rfl rfl (by decide) (Ev.incr (by omega) rfl rfl) ?_
  refine Lst.run rfl rfl (by decide) (Ev.move rfl) ?_
  refine Lst.nil ?_
  refine At.less (L' := (.blk b8 (enc x5) 75) :: L) (List.Sublist.cons _ (List.Sublist.cons_cons _ (List.Sublist.refl _))) ?_
  exact At.meet (i31 + 1, k31, y41, y52) (FLe.trans (FLe.trans hF35 hF50) hF55) ⟨rfl, rfl, rfl, rfl, rfl, rfl, rfl, rfl, rfl, rfl, trivial⟩ rfl ⟨⟨hgo31 _ (some_inj H).symm, by omega⟩, Nat.lt_succ_self _⟩
set_option maxRecDepth 20000 in
theorem stamp_in_sim {a0 : Int} {a1 : Int} {a2 : Int} {r : Bool} (H : stamp_in a0 a1 a2 = some r) (w0 : World) (F : Frz) (M L : List Item) (hM : M.Sublist L) : Ok Try.prog w0 69 [.int .i64 a0, .int .i64 a1, .int .i64 a2] F (L) (Is (.bool r) (L)) := by
  unfold stamp_in at H
  refine Ok.enter (m := 3) (n := 15) Try.func69 rfl rfl rfl (by decide) ?_
  refine Cd.env (e' := [(0, .int .i64 a0), (1, .int .i64 a1), (2, .int .i64 a2)]) rfl ?_
  refine Cd.seq ?_
  refine Cd.region ?_
  refine Lst.run rfl rfl (by decide) (Ev.assign rfl) ?_
  refine Lst.nil ?_
  refine At.then ?_
  refine Cd.seq ?_
  refine Cd.region ?_
  refine Lst.run rfl rfl (by decide) (Ev.move rfl) ?_
  refine Lst.run rfl rfl (by decide) (Ev.move rfl) ?_
  refine Lst.run rfl rfl (by decide) (Ev.geq rfl rfl) ?_
  refine Lst.run rfl rfl (by decide) (Ev.move rfl) ?_
  obtain ⟨o1, H, HKo1⟩ := bind_some H
  refine Lst.join (σ := Bool) 4 (fun y2 => [(14, .bool y2)]) (fun y2 => L) (fun _ y2 => y2 = o1) ?_ ?_
  · rcases (Bool.eq_false_or_eq_true (decide (a0 ≥ a1))).symm with hb3 | hb3
    · replace H := ite_f hb3 H
      refine Lst.skip rfl rfl rfl hb3 rfl (by decide) ?_
      refine Lst.skip rfl rfl rfl hb3 rfl (by decide) ?_
      refine Lst.skip rfl rfl rfl hb3 rfl (by decide) ?_
      refine Lst.run rfl rfl (by decide) (Ev.pickF rfl hb3 rfl) ?_
      refine Lst.nil ?_
      exact At.meet false (FLe.refl _) ⟨rfl, trivial⟩ rfl (some_inj H)
    replace H := ite_t hb3 H
    refine Lst.runG rfl rfl rfl hb3 rfl (by decide) (Ev.move rfl) ?_
    refine Lst.runG rfl rfl rfl hb3 rfl (by decide) (Ev.move rfl) ?_
    refine Lst.runG rfl rfl rfl hb3 rfl (by decide) (Ev.leq rfl rfl) ?_
    refine Lst.run rfl rfl (by decide) (Ev.pickT rfl hb3 rfl) ?_
    refine Lst.nil ?_
    exact At.meet (decide (a0 ≤ a2)) (FLe.refl _) ⟨rfl, trivial⟩ rfl (some_inj H)
  rintro F4 y2 hF5 hy
  subst hy
  refine Lst.as (e' := [(14, .bool y2)]) (L' := L) ⟨rfl, trivial⟩ rfl ?_
  replace H := HKo1
  refine Lst.run rfl rfl (by decide) (Ev.assign rfl) ?_
  refine Lst.nil ?_
  refine At.then ?_
  obtain rfl := some_inj H
  refine Cd.ret ?_
  exact At.ret1 rfl (Res.tmp rfl) hF5 (List.Sublist.refl _) ⟨rfl, rfl⟩
set_option maxRecDepth 20000 in
theorem stamp_checker_event_sim {a0 : Checker} {a1 : Event} {b_a0 : Nat} {r : Checker × Int} (H : stamp_checker_event a0 a1 = some r) (w0 : World) (F : Frz) (M L : List Item) (hM : M.Sublist L) : Ok Try.prog w0 51 [.pointer (some ⟨b_a0, 0, none⟩), .agg (enc a1).toArray] F ((.blk b_a0 (enc a0) 84) :: L) (fun _ L' v => v = .int .i64 r.2 ∧ L' = (.blk b_a0 (enc r.1) 84) :: L) := by
  unfold stamp_checker_event at H
  refine Ok.enter (m := 2) (n := 85) Try.func51 rfl rfl rfl (by decide) ?_
  refine Cd.env (e' := [(0, .pointer (some ⟨b_a0, 0, none⟩)), (1, .agg (enc a1).toArray)]) rfl ?_
  refine Cd.seq ?_
  refine Cd.region ?_
  refine Lst.box rfl rfl (by decide) rfl (cs := enc a1) rfl (fun b2 => ?_)
  refine Lst.run rfl rfl (by decide) (Ev.assign rfl) ?_
  refine Lst.nil ?_
  refine At.then ?_
  refine Cd.seq ?_
  refine Cd.seq ?_
  refine Cd.region ?_
  refine Lst.run rfl rfl (by decide) (Ev.fieldAddr (off' := 0) rfl Try.runUnderlying75 rfl Try.sizeOf3 rfl rfl) ?_
  refine Lst.run rfl rfl (by decide) (Ev.load (i := 0) rfl rfl Try.isAgg3 (v := .int .i64 a1.Proc) ((Event.get_Proc (Get.here _)).off (by rfl))) ?_
  obtain ⟨r4, h5, H⟩ := bind_some H
  refine Lst.call1 rfl rfl (by decide) (vs := [.int .i64 a1.Proc, .int .i64 (0 : Int), .int .i64 (5 : Int)]) ⟨rfl, rfl, rfl, trivial⟩ Try.call69 (stamp_in_sim h5 w0 _ M _ (List.Sublist.cons _ (List.Sublist.cons _ hM))) ?_
  refine Lst.run rfl rfl (by decide) (Ev.not rfl) ?_
  refine Lst.run rfl rfl (by decide) (Ev.move rfl) ?_
  obtain ⟨o8, H, HKo8⟩ := bind_some H
  refine Lst.join (σ := Bool) 5 (fun y9 => [(0, .pointer (some ⟨b_a0, 0, none⟩)), (3, .pointer (some ⟨b2, 0, none⟩)), (14, .bool y9)]) (fun y9 => (.blk b2 (enc a1) 75) :: (.blk b_a0 (enc a0) 84) :: L) (fun _ y9 => y9 = o8) ?_ ?_
  · rcases Bool.eq_false_or_eq_true (!r4) with hb10 | hb10
    · replace H := ite_t hb10 H
      refine Lst.skip rfl rfl rfl hb10 rfl (by decide) ?_
      refine Lst.skip rfl rfl rfl hb10 rfl (by decide) ?_
      refine Lst.skip rfl rfl rfl hb10 rfl (by decide) ?_
      refine Lst.skip rfl rfl rfl hb10 rfl (by decide) ?_
      refine Lst.run rfl rfl (by decide) (Ev.pickT rfl hb10 rfl) ?_
      refine Lst.nil ?_
      exact At.meet true (FLe.refl _) ⟨rfl, rfl, rfl, trivial⟩ rfl (some_inj H)
    replace H := ite_f hb10 H
    refine Lst.runG rfl rfl rfl hb10 rfl (by decide) (Ev.fieldAddr (off' := 2) rfl Try.runUnderlying75 rfl Try.sizeOf3 rfl rfl) ?_
    refine Lst.runG rfl rfl rfl hb10 rfl (by decide) (Ev.load (i := 0) rfl rfl Try.isAgg3 (v := .int .i64 a1.Msg) ((Event.get_Msg (Get.here _)).off (by rfl))) ?_
    obtain ⟨r11, h12, H⟩ := bind_some H
    refine Lst.call1G rfl rfl rfl hb10 rfl (by decide) (vs := [.int .i64 a1.Msg, .int .i64 (0 : Int), .int .i64 (29 : Int)]) ⟨rfl, rfl, rfl, trivial⟩ Try.call69 (stamp_in_sim h12 w0 _ M _ (List.Sublist.cons _ (List.Sublist.cons _ hM))) ?_
    refine Lst.runG rfl rfl rfl hb10 rfl (by decide) (Ev.not rfl) ?_
    refine Lst.run rfl rfl (by decide) (Ev.pickF rfl hb10 rfl) ?_
    refine Lst.nil ?_
    exact At.meet (!r11) (FLe.refl _) ⟨rfl, rfl, rfl, trivial⟩ rfl (some_inj H)
  rintro F15 y9 hF16 hy
  subst hy
  refine Lst.as (e' := [(0, .pointer (some ⟨b_a0, 0, none⟩)), (3, .pointer (some ⟨b2, 0, none⟩)), (14, .bool y9)]) (L' := (.blk b2 (enc a1) 75) :: (.blk b_a0 (enc a0) 84) :: L) ⟨rfl, rfl, rfl, trivial⟩ rfl ?_
  replace H := HKo8
  refine Lst.nil ?_
  refine At.then ?_
  rcases Bool.eq_false_or_eq_true y9 with hb17 | hb17
  · replace H := ite_t hb17 H
    refine Cd.condT rfl hb17 ?_
    refine Cd.seq ?_
    refine Cd.region ?_
    refine Lst.run rfl rfl (by decide) (Ev.assign rfl) ?_
    refine Lst.nil ?_
    refine At.then ?_
    obtain rfl := some_inj H
    refine Cd.ret ?_
    refine At.then_ret ?_
    exact At.ret1 rfl (Res.tmp rfl) hF16 (List.Sublist.cons _ (List.Sublist.cons_cons _ (List.Sublist.refl _))) ⟨rfl, rfl⟩
  replace H := ite_f hb17 H
  refine Cd.condF rfl hb17 ?_
  refine Cd.skip ?_
  refine At.then ?_
  obtain ⟨o19, H, HKo19⟩ := andThen_some H
  refine Cd.join (σ := Checker) (fun y18 => []) (fun y18 => (.blk b2 (enc a1) 75) :: (.blk b_a0 (enc y18) 84) :: L) (fun _ y18 => .inl y18 = o19) ?_ ?_
  · refine Cd.seq ?_
    refine Cd.region ?_
    refine Lst.run rfl rfl (by decide) (Ev.fieldAddr (off' := 1) rfl Try.runUnderlying75 rfl Try.sizeOf3 rfl rfl) ?_
    refine Lst.run rfl rfl (by decide) (Ev.load (i := 0) rfl rfl Try.isAgg3 (v := .int .i64 a1.Kind) ((Event.get_Kind (Get.here _)).off (by rfl))) ?_
    refine Lst.nil ?_
    refine At.then ?_
    refine Cd.block ?_
    refine Cd.seq ?_
    refine Cd.region ?_
    refine Lst.run rfl rfl (by decide) (Ev.eql rfl rfl) ?_
    refine Lst.run rfl rfl (by decide) (Ev.assign rfl) ?_
    refine Lst.nil ?_
    refine At.then ?_
    rcases Bool.eq_false_or_eq_true (a1.Kind == (1 : Int)) with hb20 | hb20
    · replace H := ite_t hb20 H
      refine Cd.condT rfl hb20 ?_
      refine Cd.seq ?_
      refine Cd.region ?_
      refine Lst.run rfl rfl (by decide) (Ev.fieldAddr (off' := 2) rfl Try.runUnderlying75 rfl Try.sizeOf3 rfl rfl) ?_
      refine Lst.run rfl rfl (by decide) (Ev.load (i := 0) rfl rfl Try.isAgg3 (v := .int .i64 a1.Msg) ((Event.get_Msg (Get.here _)).off (by rfl))) ?_
      refine Lst.run rfl rfl (by decide) (Ev.neq rfl rfl) ?_
      refine Lst.nil ?_
      refine At.then ?_
      rcases Bool.eq_false_or_eq_true (a1.Msg != (0 : Int)) with hb21 | hb21
      · replace H := ite_t hb21 H
        refine Cd.condT rfl hb21 ?_
        refine Cd.seq ?_
        refine Cd.region ?_
        refine Lst.run rfl rfl (by decide) (Ev.assign rfl) ?_
        refine Lst.nil ?_
        refine At.then ?_
        obtain rfl := some_inj H
        replace H := HKo19
        obtain rfl := some_inj H
        refine Cd.ret ?_
        refine At.in_ret ?_
        refine At.then_ret ?_
        exact At.ret1 rfl (Res.tmp rfl) hF16 (List.Sublist.cons _ (List.Sublist.cons_cons _ (List.Sublist.refl _))) ⟨rfl, rfl⟩
      replace H := ite_f hb21 H
      refine Cd.condF rfl hb21 ?_
      refine Cd.skip ?_
      refine At.in_normal ?_
      exact At.meet a0 (FLe.refl _) trivial rfl (some_inj H)
    replace H := ite_f hb20 H
    refine Cd.condF rfl hb20 ?_
    refine Cd.seq ?_
    refine Cd.region ?_
    refine Lst.run rfl rfl (by decide) (Ev.eql rfl rfl) ?_
    refine Lst.run rfl rfl (by decide) (Ev.assign rfl) ?_
    refine Lst.nil ?_
    refine At.then ?_
    rcases Bool.eq_false_or_eq_true (a1.Kind == (2 : Int)) with hb22 | hb22
    · replace H := ite_t hb22 H
      refine Cd.condT rfl hb22 ?_
      refine Cd.seq ?_
      refine Cd.seq ?_
      refine Cd.quiet (by kernel_rfl) (by kernel_rfl) ?_
      refine Qt.run rfl rfl (by decide) (Ev.move rfl) ?_
      refine Qt.run rfl rfl (by decide) (Ev.fieldAddr (off' := 2) rfl Try.runUnderlying75 rfl Try.sizeOf3 rfl rfl) ?_
      refine Qt.run rfl rfl (by decide) (Ev.load (i := 0) rfl rfl Try.isAgg3 (v := .int .i64 a1.Msg) ((Event.get_Msg (Get.here _)).off (by rfl))) ?_
      refine Qt.run rfl rfl (by decide) (Ev.nilCheck rfl) ?_
      refine Qt.run rfl rfl (by decide) (Ev.fieldAddr (off' := 0) rfl Try.runUnderlying84 rfl Try.sizeOf76 rfl rfl) ?_
      obtain ⟨x23, h24, H⟩ := bind_some H
      have g25 := vat_some h24
      refine Qt.run rfl rfl (by decide) (Ev.indexAddr (off' := 0 + a1.Msg.toNat * 1) rfl rfl Try.runUnderlying76 Try.sizeOf3 g25.1 g25.2.1 rfl) ?_
      refine Qt.run rfl rfl (by decide) (Ev.load (i := 1) rfl rfl Try.isAgg3 (v := .int .i64 x23) ((Checker.get_sender (Get.vecN (s := 1) (x := x23) rfl g25.2.2 (Get.here _))).off (by omega))) ?_
      refine Qt.run rfl rfl (by decide) (Ev.gtr rfl rfl) ?_
      refine Qt.done ?_
      refine At.then ?_
      rcases Bool.eq_false_or_eq_true (decide (x23 > (0 : Int))) with hb26 | hb26
      · replace H := ite_t hb26 H
        refine Cd.condT rfl hb26 ?_
        refine Cd.seq ?_
        refine Cd.as (e' := []) (L' := (.blk b2 (enc a1) 75) :: (.blk b_a0 (enc a0) 84) :: L) trivial rfl ?_
        refine Cd.region ?_
        refine Lst.run rfl rfl (by decide) (Ev.assign rfl) ?_
        refine Lst.nil ?_
        refine At.then ?_
        obtain rfl := some_inj H
        replace H := HKo19
        obtain rfl := some_inj H
        refine Cd.ret ?_
        refine At.then_ret ?_
        refine At.in_ret ?_
        refine At.then_ret ?_
        exact At.ret1 rfl (Res.tmp rfl) hF16 (List.Sublist.cons _ (List.Sublist.cons_cons _ (List.Sublist.refl _))) ⟨rfl, rfl⟩
      replace H := ite_f hb26 H
      refine Cd.condF rfl hb26 ?_
      refine Cd.skip ?_
      refine At.then ?_
      refine Cd.as (e' := [(0, .pointer (some ⟨b_a0, 0, none⟩)), (3, .pointer (some ⟨b2, 0, none⟩))]) (L' := (.blk b2 (enc a1) 75) :: (.blk b_a0 (enc a0) 84) :: L) ⟨rfl, rfl, trivial⟩ rfl ?_
      refine Cd.tail 9 (by kernel_rfl) (by kernel_rfl) ?_
      refine Qt.run rfl rfl (by decide) (Ev.move rfl) ?_
      refine Qt.run rfl rfl (by decide) (Ev.fieldAddr (off' := 2) rfl Try.runUnderlying75 rfl Try.sizeOf3 rfl rfl) ?_
      refine Qt.run rfl rfl (by decide) (Ev.load (i := 0) rfl rfl Try.isAgg3 (v := .int .i64 a1.Msg) ((Event.get_Msg (Get.here _)).off (by rfl))) ?_
      refine Qt.run rfl rfl (by decide) (Ev.fieldAddr (off' := 0) rfl Try.runUnderlying75 rfl Try.sizeOf3 rfl rfl) ?_
      refine Qt.run rfl rfl (by decide) (Ev.load (i := 0) rfl rfl Try.isAgg3 (v := .int .i64 a1.Proc) ((Event.get_Proc (Get.here _)).off (by rfl))) ?_
      refine Qt.run rfl rfl (by decide) (Ev.add rfl rfl) ?_
      refine Qt.run rfl rfl (by decide) (Ev.nilCheck rfl) ?_
      refine Qt.run rfl rfl (by decide) (Ev.fieldAddr (off' := 0) rfl Try.runUnderlying84 rfl Try.sizeOf76 rfl rfl) ?_
      obtain ⟨x27, h28, H⟩ := bind_some H
      have g29 := vat_some h28
      refine Qt.run rfl rfl (by decide) (Ev.indexAddr (off' := 0 + a1.Msg.toNat * 1) rfl rfl Try.runUnderlying76 Try.sizeOf3 g29.1 g29.2.1 rfl) ?_
      refine Qt.tail ?_
      obtain ⟨p30, h31, H⟩ := Let_some H
      refine Lst.store (i := 1) rfl rfl rfl rfl rfl Try.sizeOf3 (vs := [.int .i64 (w64 (a1.Proc + (1 : Int)))]) rfl rfl rfl (cs' := enc p30) (by rw [← h31]; exact (Checker.put_sender (Put.vecN (s := 1) (x := x27) rfl g29.2.2 (Put.here (vs := [.int .i64 (w64 (a1.Proc + (1 : Int)))]) rfl))).off (by omega)) (L' := (.blk b2 (enc a1) 75) :: (.blk b_a0 (enc p30) 84) :: L) rfl ?_
      refine Lst.nil ?_
      refine At.in_normal ?_
      exact At.meet p30 (FLe.refl _) trivial rfl (some_inj H)
    replace H := ite_f hb22 H
    refine Cd.condF rfl hb22 ?_
    refine Cd.seq ?_
    refine Cd.region ?_
    refine Lst.run rfl rfl (by decide) (Ev.eql rfl rfl) ?_
    refine Lst.run rfl rfl (by decide) (Ev.assign rfl) ?_
    refine Lst.nil ?_
    refine At.then ?_
    rcases (Bool.eq_false_or_eq_true (a1.Kind == (3 : Int))).symm with hb32 | hb32
    · replace H := ite_f hb32 H
      refine Cd.condF rfl hb32 ?_
      refine Cd.seq ?_
      refine Cd.region ?_
      refine Lst.run rfl rfl (by decide) (Ev.assign rfl) ?_
      refine Lst.nil ?_
      refine At.then ?_
      obtain rfl := some_inj H
      replace H := HKo19
      obtain rfl := some_inj H
      refine Cd.ret ?_
      refine At.in_ret ?_
      refine At.then_ret ?_
      exact At.ret1 rfl (Res.tmp rfl) hF16 (List.Sublist.cons _ (List.Sublist.cons_cons _ (List.Sublist.refl _))) ⟨rfl, rfl⟩
    replace H := ite_t hb32 H
    refine Cd.condT rfl hb32 ?_
    refine Cd.seq ?_
    refine Cd.seq ?_
    refine Cd.quiet (by kernel_rfl) (by kernel_rfl) ?_
    refine Qt.run rfl rfl (by decide) (Ev.move rfl) ?_
    refine Qt.run rfl rfl (by decide) (Ev.fieldAddr (off' := 2) rfl Try.runUnderlying75 rfl Try.sizeOf3 rfl rfl) ?_
    refine Qt.run rfl rfl (by decide) (Ev.load (i := 0) rfl rfl Try.isAgg3 (v := .int .i64 a1.Msg) ((Event.get_Msg (Get.here _)).off (by rfl))) ?_
    refine Qt.run rfl rfl (by decide) (Ev.nilCheck rfl) ?_
    refine Qt.run rfl rfl (by decide) (Ev.fieldAddr (off' := 0) rfl Try.runUnderlying84 rfl Try.sizeOf76 rfl rfl) ?_
    obtain ⟨x33, h34, H⟩ := bind_some H
    have g35 := vat_some h34
    refine Qt.run rfl rfl (by decide) (Ev.indexAddr (off' := 0 + a1.Msg.toNat * 1) rfl rfl Try.runUnderlying76 Try.sizeOf3 g35.1 g35.2.1 rfl) ?_
    refine Qt.run rfl rfl (by decide) (Ev.load (i := 1) rfl rfl Try.isAgg3 (v := .int .i64 x33) ((Checker.get_sender (Get.vecN (s := 1) (x := x33) rfl g35.2.2 (Get.here _))).off (by omega))) ?_
    refine Qt.run rfl rfl (by decide) (Ev.eql rfl rfl) ?_
    refine Qt.run rfl rfl (by decide) (Ev.move rfl) ?_
    obtain ⟨o36, H, HKo36⟩ := bind_some H
    refine Qt.join (σ := Bool) 12 (fun y37 => [(0, .pointer (some ⟨b_a0, 0, none⟩)), (3, .pointer (some ⟨b2, 0, none⟩)), (63, .bool y37)]) (fun y37 => y37 = o36) ?_ ?_
    · rcases Bool.eq_false_or_eq_true (x33 == (0 : Int)) with hb38 | hb38
      · replace H := ite_t hb38 H
        refine Qt.skip rfl rfl rfl hb38 rfl (by decide) ?_
        refine Qt.skip rfl rfl rfl hb38 rfl (by decide) ?_
        refine Qt.skip rfl rfl rfl hb38 rfl (by decide) ?_
        refine Qt.skip rfl rfl rfl hb38 rfl (by decide) ?_
        refine Qt.skip rfl rfl rfl hb38 rfl (by decide) ?_
        refine Qt.skip rfl rfl rfl hb38 rfl (by decide) ?_
        refine Qt.skip rfl rfl rfl hb38 rfl (by decide) ?_
        refine Qt.skip rfl rfl rfl hb38 rfl (by decide) ?_
        refine Qt.skip rfl rfl rfl hb38 rfl (by decide) ?_
        refine Qt.skip rfl rfl rfl hb38 rfl (by decide) ?_
        refine Qt.skip rfl rfl rfl hb38 rfl (by decide) ?_
        refine Qt.run rfl rfl (by decide) (Ev.pickT rfl hb38 rfl) ?_
        exact Qt.meet true ⟨rfl, rfl, rfl, trivial⟩ (some_inj H)
      replace H := ite_f hb38 H
      refine Qt.runG rfl rfl rfl hb38 rfl (by decide) (Ev.move rfl) ?_
      refine Qt.runG rfl rfl rfl hb38 rfl (by decide) (Ev.fieldAddr (off' := 2) rfl Try.runUnderlying75 rfl Try.sizeOf3 rfl rfl) ?_
      refine Qt.runG rfl rfl rfl hb38 rfl (by decide) (Ev.load (i := 0) rfl rfl Try.isAgg3 (v := .int .i64 a1.Msg) ((Event.get_Msg (Get.here _)).off (by rfl))) ?_
      refine Qt.runG rfl rfl rfl hb38 rfl (by decide) (Ev.nilCheck rfl) ?_
      refine Qt.runG rfl rfl rfl hb38 rfl (by decide) (Ev.fieldAddr (off' := 0) rfl Try.runUnderlying84 rfl Try.sizeOf76 rfl rfl) ?_
      obtain ⟨x39, h40, H⟩ := bind_some H
      have g41 := vat_some h40
      refine Qt.runG rfl rfl rfl hb38 rfl (by decide) (Ev.indexAddr (off' := 0 + a1.Msg.toNat * 1) rfl rfl Try.runUnderlying76 Try.sizeOf3 g41.1 g41.2.1 rfl) ?_
      refine Qt.runG rfl rfl rfl hb38 rfl (by decide) (Ev.load (i := 1) rfl rfl Try.isAgg3 (v := .int .i64 x39) ((Checker.get_sender (Get.vecN (s := 1) (x := x39) rfl g41.2.2 (Get.here _))).off (by omega))) ?_
      refine Qt.runG rfl rfl rfl hb38 rfl (by decide) (Ev.fieldAddr (off' := 0) rfl Try.runUnderlying75 rfl Try.sizeOf3 rfl rfl) ?_
      refine Qt.runG rfl rfl rfl hb38 rfl (by decide) (Ev.load (i := 0) rfl rfl Try.isAgg3 (v := .int .i64 a1.Proc) ((Event.get_Proc (Get.here _)).off (by rfl))) ?_
      refine Qt.runG rfl rfl rfl hb38 rfl (by decide) (Ev.add rfl rfl) ?_
      refine Qt.runG rfl rfl rfl hb38 rfl (by decide) (Ev.eql rfl rfl) ?_
      refine Qt.run rfl rfl (by decide) (Ev.pickF rfl hb38 rfl) ?_
      exact Qt.meet (x39 == (w64 (a1.Proc + (1 : Int)))) ⟨rfl, rfl, rfl, trivial⟩ (some_inj H)
    rintro y37 hy
    subst hy
    refine Qt.as (e' := [(0, .pointer (some ⟨b_a0, 0, none⟩)), (3, .pointer (some ⟨b2, 0, none⟩)), (63, .bool y37)]) ⟨rfl, rfl, rfl, trivial⟩ ?_
    replace H := HKo36
    refine Qt.run rfl rfl (by decide) (Ev.move rfl) ?_
    obtain ⟨o42, H, HKo42⟩ := bind_some H
    refine Qt.join (σ := Bool) 11 (fun y43 => [(0, .pointer (some ⟨b_a0, 0, none⟩)), (3, .pointer (some ⟨b2, 0, none⟩)), (75, .bool y43)]) (fun y43 => y43 = o42) ?_ ?_
    · rcases Bool.eq_false_or_eq_true y37 with hb44 | hb44
      · replace H := ite_t hb44 H
        refine Qt.skip rfl rfl rfl hb44 rfl (by decide) ?_
        refine Qt.skip rfl rfl rfl hb44 rfl (by decide) ?_
        refine Qt.skip rfl rfl rfl hb44 rfl (by decide) ?_
        refine Qt.skip rfl rfl rfl hb44 rfl (by decide) ?_
        refine Qt.skip rfl rfl rfl hb44 rfl (by decide) ?_
        refine Qt.skip rfl rfl rfl hb44 rfl (by decide) ?_
        refine Qt.skip rfl rfl rfl hb44 rfl (by decide) ?_
        refine Qt.skip rfl rfl rfl hb44 rfl (by decide) ?_
        refine Qt.skip rfl rfl rfl hb44 rfl (by decide) ?_
        refine Qt.skip rfl rfl rfl hb44 rfl (by decide) ?_
        refine Qt.run rfl rfl (by decide) (Ev.pickT rfl hb44 rfl) ?_
        exact Qt.meet true ⟨rfl, rfl, rfl, trivial⟩ (some_inj H)
      replace H := ite_f hb44 H
      refine Qt.runG rfl rfl rfl hb44 rfl (by decide) (Ev.move rfl) ?_
      refine Qt.runG rfl rfl rfl hb44 rfl (by decide) (Ev.fieldAddr (off' := 2) rfl Try.runUnderlying75 rfl Try.sizeOf3 rfl rfl) ?_
      refine Qt.runG rfl rfl rfl hb44 rfl (by decide) (Ev.load (i := 0) rfl rfl Try.isAgg3 (v := .int .i64 a1.Msg) ((Event.get_Msg (Get.here _)).off (by rfl))) ?_
      refine Qt.runG rfl rfl rfl hb44 rfl (by decide) (Ev.fieldAddr (off' := 0) rfl Try.runUnderlying75 rfl Try.sizeOf3 rfl rfl) ?_
      refine Qt.runG rfl rfl rfl hb44 rfl (by decide) (Ev.load (i := 0) rfl rfl Try.isAgg3 (v := .int .i64 a1.Proc) ((Event.get_Proc (Get.here _)).off (by rfl))) ?_
      refine Qt.runG rfl rfl rfl hb44 rfl (by decide) (Ev.nilCheck rfl) ?_
      refine Qt.runG rfl rfl rfl hb44 rfl (by decide) (Ev.fieldAddr (off' := 30) rfl Try.runUnderlying84 rfl Try.sizeOf82 rfl rfl) ?_
      obtain ⟨x45, h46, H⟩ := bind_some H
      have g47 := vat_some h46
      refine Qt.runG rfl rfl rfl hb44 rfl (by decide) (Ev.indexAddr (off' := 30 + a1.Msg.toNat * 6) rfl rfl Try.runUnderlying82 Try.sizeOf81 g47.1 g47.2.1 rfl) ?_
      obtain ⟨x48, h49, H⟩ := bind_some H
      have g50 := vat_some h49
      refine Qt.runG rfl rfl rfl hb44 rfl (by decide) (Ev.indexAddr (off' := 30 + a1.Msg.toNat * 6 + a1.Proc.toNat * 1) rfl rfl Try.runUnderlying81 Try.sizeOf4 g50.1 g50.2.1 rfl) ?_
      refine Qt.runG rfl rfl rfl hb44 rfl (by decide) (Ev.load (i := 1) rfl rfl Try.isAgg4 (v := .bool x48) ((Checker.get_taken (Get.vecN (s := 6) (x := x45) rfl g47.2.2 (Get.vecN (s := 1) (x := x48) rfl g50.2.2 (Get.here _)))).off (by omega))) ?_
      refine Qt.run rfl rfl (by decide) (Ev.pickF rfl hb44 rfl) ?_
      exact Qt.meet x48 ⟨rfl, rfl, rfl, trivial⟩ (some_inj H)
    rintro y43 hy
    subst hy
    refine Qt.as (e' := [(0, .pointer (some ⟨b_a0, 0, none⟩)), (3, .pointer (some ⟨b2, 0, none⟩)), (75, .bool y43)]) ⟨rfl, rfl, rfl, trivial⟩ ?_
    replace H := HKo42
    refine Qt.done ?_
    refine At.then ?_
    rcases Bool.eq_false_or_eq_true y43 with hb51 | hb51
    · replace H := ite_t hb51 H
      refine Cd.condT rfl hb51 ?_
      refine Cd.seq ?_
      refine Cd.region ?_
      refine Lst.run rfl rfl (by decide) (Ev.assign rfl) ?_
      refine Lst.nil ?_
      refine At.then ?_
      obtain rfl := some_inj H
      replace H := HKo19
      obtain rfl := some_inj H
      refine Cd.ret ?_
      refine At.then_ret ?_
      refine At.in_ret ?_
      refine At.then_ret ?_
      exact At.ret1 rfl (Res.tmp rfl) hF16 (List.Sublist.cons _ (List.Sublist.cons_cons _ (List.Sublist.refl _))) ⟨rfl, rfl⟩
    replace H := ite_f hb51 H
    refine Cd.condF rfl hb51 ?_
    refine Cd.skip ?_
    refine At.then ?_
    refine Cd.tail 9 (by kernel_rfl) (by kernel_rfl) ?_
    refine Qt.run rfl rfl (by decide) (Ev.move rfl) ?_
    refine Qt.run rfl rfl (by decide) (Ev.fieldAddr (off' := 2) rfl Try.runUnderlying75 rfl Try.sizeOf3 rfl rfl) ?_
    refine Qt.run rfl rfl (by decide) (Ev.load (i := 0) rfl rfl Try.isAgg3 (v := .int .i64 a1.Msg) ((Event.get_Msg (Get.here _)).off (by rfl))) ?_
    refine Qt.run rfl rfl (by decide) (Ev.fieldAddr (off' := 0) rfl Try.runUnderlying75 rfl Try.sizeOf3 rfl rfl) ?_
    refine Qt.run rfl rfl (by decide) (Ev.load (i := 0) rfl rfl Try.isAgg3 (v := .int .i64 a1.Proc) ((Event.get_Proc (Get.here _)).off (by rfl))) ?_
    refine Qt.run rfl rfl (by decide) (Ev.nilCheck rfl) ?_
    refine Qt.run rfl rfl (by decide) (Ev.fieldAddr (off' := 30) rfl Try.runUnderlying84 rfl Try.sizeOf82 rfl rfl) ?_
    obtain ⟨x52, h53, H⟩ := bind_some H
    have g54 := vat_some h53
    refine Qt.run rfl rfl (by decide) (Ev.indexAddr (off' := 30 + a1.Msg.toNat * 6) rfl rfl Try.runUnderlying82 Try.sizeOf81 g54.1 g54.2.1 rfl) ?_
    obtain ⟨x55, h56, H⟩ := bind_some H
    have g57 := vat_some h56
    refine Qt.run rfl rfl (by decide) (Ev.indexAddr (off' := 30 + a1.Msg.toNat * 6 + a1.Proc.toNat * 1) rfl rfl Try.runUnderlying81 Try.sizeOf4 g57.1 g57.2.1 rfl) ?_
    refine Qt.tail ?_
    obtain ⟨p58, h59, H⟩ := Let_some H
    refine Lst.store (i := 1) rfl rfl rfl rfl rfl Try.sizeOf4 (vs := [.bool true]) rfl rfl rfl (cs' := enc p58) (by rw [← h59]; exact (Checker.put_taken (Put.vecN (s := 6) (x := x52) rfl g54.2.2 (Put.vecN (s := 1) (x := x55) rfl g57.2.2 (Put.here (vs := [.bool true]) rfl)))).off (by omega)) (L' := (.blk b2 (enc a1) 75) :: (.blk b_a0 (enc p58) 84) :: L) rfl ?_
    refine Lst.nil ?_
    refine At.in_normal ?_
    exact At.meet p58 (FLe.refl _) trivial rfl (some_inj H)
  rintro F60 y18 hF61 hy
  subst hy
  refine Cd.as (e' := []) (L' := (.blk b2 (enc a1) 75) :: (.blk b_a0 (enc y18) 84) :: L) trivial rfl ?_
  replace H := HKo19
  refine Cd.seq ?_
  refine Cd.region ?_
  refine Lst.run rfl rfl (by decide) (Ev.assign rfl) ?_
  refine Lst.nil ?_
  refine At.then ?_
  obtain rfl := some_inj H
  refine Cd.ret ?_
  exact At.ret1 rfl (Res.tmp rfl) (FLe.trans hF16 hF61) (List.Sublist.cons _ (List.Sublist.cons_cons _ (List.Sublist.refl _))) ⟨rfl, rfl⟩
set_option maxRecDepth 20000 in
theorem stamp_Check_sim {a0 : List Event} {s_a0 : Sl} {r : Int} (H : stamp_Check a0 = some r) (w0 : World) (F : Frz) (M L : List Item) (hM : M.Sublist L) (hs_a0 : Rd w0 F M s_a0 a0) : Ok Try.prog w0 22 [Sl.v s_a0] F (L) (Is (.int .i64 r) (L)) := by
  unfold stamp_Check at H
  refine Ok.enter (m := 1) (n := 25) Try.func22 rfl rfl rfl (by decide) ?_
  refine Cd.env (e' := [(0, Sl.v s_a0)]) rfl ?_
  refine Cd.seq ?_
  refine Cd.region ?_
  refine Lst.run rfl rfl (by decide) (Ev.assign rfl) ?_
  refine Lst.nil ?_
  refine At.then ?_
  refine Cd.seq ?_
  refine Cd.seq ?_
  refine Cd.region ?_
  refine Lst.run rfl rfl (by decide) (Ev.move rfl) ?_
  refine Lst.run rfl rfl (by decide) (Ev.lenS (α := Event) (xs := a0) (by decide) rfl rfl Try.runUnderlying24 (hs_a0.mono (FLe.refl _) hM)) ?_
  refine Lst.run rfl rfl (by decide) (Ev.gtr rfl rfl) ?_
  refine Lst.nil ?_
  refine At.then ?_
  rcases Bool.eq_false_or_eq_true (decide ((a0.length : Int) > (60 : Int))) with hb1 | hb1
  · replace H := ite_t hb1 H
    refine Cd.condT rfl hb1 ?_
    refine Cd.seq ?_
    refine Cd.region ?_
    refine Lst.run rfl rfl (by decide) (Ev.assign rfl) ?_
    refine Lst.nil ?_
    refine At.then ?_
    obtain rfl := some_inj H
    refine Cd.ret ?_
    refine At.then_ret ?_
    exact At.ret1 rfl (Res.tmp rfl) (FLe.refl _) (List.Sublist.refl _) ⟨rfl, rfl⟩
  replace H := ite_f hb1 H
  refine Cd.condF rfl hb1 ?_
  refine Cd.skip ?_
  refine At.then ?_
  refine Cd.seq ?_
  refine Cd.region ?_
  refine Lst.run rfl rfl (by decide) (Ev.build (v := .agg (enc Checker.zero).toArray) (pv := []) trivial (fun w => by kernel_rfl)) ?_
  refine Lst.box rfl rfl (by decide) rfl (cs := enc Checker.zero) rfl (fun b2 => ?_)
  refine Lst.run rfl rfl (by decide) (Ev.assign rfl) ?_
  refine Lst.nil ?_
  refine At.then ?_
  refine Cd.seq ?_
  refine Cd.seq ?_
  refine Cd.region ?_
  refine Lst.run rfl rfl (by decide) (Ev.move rfl) ?_
  refine Lst.run rfl rfl (by decide) (Ev.lenS (α := Event) (xs := a0) (by decide) rfl rfl Try.runUnderlying24 (hs_a0.mono (FLe.refl _) (List.Sublist.cons _ hM))) ?_
  refine Lst.run rfl rfl (by decide) (Ev.move rfl) ?_
  refine Lst.nil ?_
  refine At.then ?_
  refine Cd.block ?_
  refine Cd.bound (Rd.le (α := Event) (xs := a0) (by decide) (hs_a0.mono (FLe.refl _) (List.Sublist.cons _ hM))) (fun hN18 => ?_)
  obtain ⟨ol4, H, HKl4⟩ := andThen_some H
  refine Cd.loop (σ := Nat × Nat × Checker) (fun (i4, k4, y5) => [(3, .pointer (some ⟨b2, 0, none⟩)), (12, Sl.v s_a0), (13, .int .i64 (a0.length : Int)), (14, .int .i64 (i4 : Int))]) (fun (i4, k4, y5) => (.blk b2 (enc y5) 84) :: L) (fun _ => (fun (i4, k4, y5) => rangeM (stamp_Check_B0 a0) k4 i4 y5 = some ol4 ∧ i4 + k4 = a0.length)) (fun (i4, k4, y5) => k4) (0, a0.length, Checker.zero) ⟨rfl, rfl, rfl, rfl, trivial⟩ rfl ⟨H, by omega⟩ ?_
  rintro F6 ⟨i4, k4, y5⟩ hF7 ⟨H, hik4⟩
  refine Cd.as (e' := [(3, .pointer (some ⟨b2, 0, none⟩)), (12, Sl.v s_a0), (13, .int .i64 (a0.length : Int)), (14, .int .i64 (i4 : Int))]) (L' := (.blk b2 (enc y5) 84) :: L) ⟨rfl, rfl, rfl, rfl, trivial⟩ rfl ?_
  rcases k4 with _ | k4
  · have hc4 : decide ((i4 : Int) < (a0.length : Int)) = false := decide_eq_false (by omega)
    replace H := rangeM_end H
    refine Cd.seq ?_
    refine Cd.region ?_
    refine Lst.run rfl rfl (by decide) (Ev.lss rfl rfl) ?_
    refine Lst.nil ?_
    refine At.then ?_
    refine Cd.seq ?_
    refine Cd.condF rfl hc4 ?_
    refine Cd.exit ?_
    refine At.then_exit ?_
    refine At.then_exit ?_
    refine At.in_exit ?_
    subst H
    replace H := HKl4
    refine At.then ?_
    refine Cd.seq ?_
    refine Cd.region ?_
    refine Lst.run rfl rfl (by decide) (Ev.assign rfl) ?_
    refine Lst.nil ?_
    refine At.then ?_
    obtain rfl := some_inj H
    refine Cd.ret ?_
    exact At.ret1 rfl (Res.tmp rfl) hF7 (List.Sublist.cons _ (List.Sublist.refl _)) ⟨rfl, rfl⟩
  have hc4 : decide ((i4 : Int) < (a0.length : Int)) = true := decide_eq_true (by omega)
  obtain ⟨c4, H, hgo4, hbrk4, hret4⟩ := rangeM_go H
  unfold stamp_Check_B0 at H
  try dsimp only at H
  refine Cd.seq ?_
  refine Cd.region ?_
  refine Lst.run rfl rfl (by decide) (Ev.lss rfl rfl) ?_
  refine Lst.nil ?_
  refine At.then ?_
  refine Cd.seq ?_
  refine Cd.condT rfl hc4 ?_
  refine Cd.skip ?_
  refine At.then ?_
  refine Cd.seq ?_
  refine Cd.block ?_
  refine Cd.seq ?_
  refine Cd.region ?_
  obtain ⟨x8, h9, H⟩ := bind_some H
  have g10 := lat_some h9
  refine Lst.run rfl rfl (by decide) (Ev.indexS (α := Event) (xs := a0) rfl rfl Try.runUnderlying24 Try.sizeOf75 rfl (by decide) (hs_a0.mono hF7 (List.Sublist.cons _ hM)) g10.1 g10.2.1) ?_
  refine Lst.run rfl rfl (by decide) (Ev.loadSA (α := Event) rfl (hs_a0.mono hF7 (List.Sublist.cons _ hM)) Try.isAgg75 Try.sizeOf75 (ch := enc x8) (Enc.len _) (by decide) ((Get.elemN (s := 3) (x := x8) rfl g10.2.2 (Get.here _)).off (by omega))) ?_
  refine Lst.alloc (cs := enc Event.zero) rfl rfl (by decide) Try.zeroValue75 rfl (fun b11 => ?_)
  refine Lst.store (i := 0) rfl rfl rfl rfl rfl Try.sizeOf75 (vs := enc x8) rfl (Enc.len _) (Enc.one _) (cs' := enc x8) (Put.here ((Enc.len _).trans (Enc.len _).symm)) (L' := (.blk b11 (enc x8) 75) :: (.blk b2 (enc y5) 84) :: L) rfl ?_
  refine Lst.nil ?_
  refine At.then ?_
  refine Cd.seq ?_
  refine Cd.region ?_
  refine Lst.run rfl rfl (by decide) (Ev.move rfl) ?_
  refine Lst.run rfl rfl (by decide) (Ev.loadA (i := 0) rfl rfl Try.isAgg75 Try.sizeOf75 (ch := enc x8) (Enc.len _) (Get.here _)) ?_
  obtain ⟨r13, h14, H⟩ := bind_some H
  refine Lst.front (i := 1) rfl (L' := (.blk b2 (enc y5) 84) :: (.blk b11 (enc x8) 75) :: L) rfl ?_
  refine Lst.call rfl rfl (by decide) (vs := [.pointer (some ⟨b2, 0, none⟩), .agg (enc x8).toArray]) ⟨rfl, rfl, trivial⟩ Try.call51 (stamp_checker_event_sim h14 w0 _ M _ (List.Sublist.cons _ hM)) (fun F15 L' v hF16 hv => ?_)
  obtain ⟨rfl, rfl⟩ := hv
  refine Lst.run rfl rfl (by decide) (Ev.assign rfl) ?_
  refine Lst.nil ?_
  refine At.then ?_
  refine Cd.seq ?_
  refine Cd.region ?_
  refine Lst.run rfl rfl (by decide) (Ev.move rfl) ?_
  refine Lst.run rfl rfl (by decide) (Ev.neq rfl rfl) ?_
  refine Lst.nil ?_
  refine At.then ?_
  rcases Bool.eq_false_or_eq_true (r13.2 != (0 : Int)) with hb17 | hb17
  · replace H := ite_t hb17 H
    refine Cd.condT rfl hb17 ?_
    refine Cd.seq ?_
    refine Cd.region ?_
    refine Lst.run rfl rfl (by decide) (Ev.move rfl) ?_
    refine Lst.run rfl rfl (by decide) (Ev.assign rfl) ?_
    refine Lst.nil ?_
    refine At.then ?_
    have H := hret4 _ (some_inj H).symm
    subst H
    replace H := HKl4
    obtain rfl := some_inj H
    refine Cd.ret ?_
    refine At.in_ret ?_
    refine At.then_ret ?_
    refine At.then_ret ?_
    refine At.in_ret ?_
    refine At.then_ret ?_
    exact At.ret1 rfl (Res.tmp rfl) (FLe.trans hF7 hF16) (List.Sublist.cons _ (List.Sublist.cons _ (List.Sublist.refl _))) ⟨rfl, rfl⟩
  replace H := ite_f hb17 H
  refine Cd.condF rfl hb17 ?_
  refine Cd.skip ?_
  refine At.in_normal ?_
  refine At.then ?_
  refine Cd.region ?_
  refine Lst.run rfl rfl (by decide) (Ev.incr (by omega) rfl rfl) ?_
  refine Lst.run rfl rfl (by decide) (Ev.move rfl) ?_
  refine Lst.nil ?_
  refine At.less (L' := (.blk b2 (enc r13.1) 84) :: L) (List.Sublist.cons_cons _ (List.Sublist.cons _ (List.Sublist.refl _))) ?_
  exact At.meet (i4 + 1, k4, r13.1) (FLe.trans hF7 hF16) ⟨rfl, rfl, rfl, rfl, trivial⟩ rfl ⟨⟨hgo4 _ (some_inj H).symm, by omega⟩, Nat.lt_succ_self _⟩
set_option maxRecDepth 20000 in
theorem cut_counts_sim {a0 : List Event} {s_a0 : Sl} {r : (Vector Int 6)} (H : cut_counts a0 = some r) (w0 : World) (F : Frz) (M L : List Item) (hM : M.Sublist L) (hs_a0 : Rd w0 F M s_a0 a0) : Ok Try.prog w0 57 [Sl.v s_a0] F (L) (Is (.agg (enc r).toArray) (L)) := by
  unfold cut_counts at H
  refine Ok.enter (m := 1) (n := 20) Try.func57 rfl rfl rfl (by decide) ?_
  refine Cd.env (e' := [(0, Sl.v s_a0)]) rfl ?_
  refine Cd.seq ?_
  refine Cd.region ?_
  refine Lst.alloc (cs := enc (Vector.replicate 6 (0 : Int))) rfl rfl (by decide) Try.zeroValue23 rfl (fun b1 => ?_)
  refine Lst.nil ?_
  refine At.then ?_
  refine Cd.seq ?_
  refine Cd.region ?_
  refine Lst.alloc (cs := enc (Vector.replicate 6 (0 : Int))) rfl rfl (by decide) Try.zeroValue23 rfl (fun b3 => ?_)
  refine Lst.nil ?_
  refine At.then ?_
  refine Cd.seq ?_
  refine Cd.seq ?_
  refine Cd.region ?_
  refine Lst.run rfl rfl (by decide) (Ev.move rfl) ?_
  refine Lst.run rfl rfl (by decide) (Ev.lenS (α := Event) (xs := a0) (by decide) rfl rfl Try.runUnderlying24 (hs_a0.mono (FLe.refl _) (List.Sublist.cons _ (List.Sublist.cons _ hM)))) ?_
  refine Lst.run rfl rfl (by decide) (Ev.move rfl) ?_
  refine Lst.nil ?_
  refine At.then ?_
  refine Cd.block ?_
  refine Cd.bound (Rd.le (α := Event) (xs := a0) (by decide) (hs_a0.mono (FLe.refl _) (List.Sublist.cons _ (List.Sublist.cons _ hM)))) (fun hN22 => ?_)
  obtain ⟨ol5, H, HKl5⟩ := bind_some H
  refine Cd.loop (σ := Nat × Nat × (Vector Int 6)) (fun (i5, k5, y6) => [(2, .pointer (some ⟨b1, 0, none⟩)), (3, .pointer (some ⟨b3, 0, none⟩)), (6, Sl.v s_a0), (7, .int .i64 (a0.length : Int)), (8, .int .i64 (i5 : Int))]) (fun (i5, k5, y6) => (.blk b3 (enc y6) 23) :: (.blk b1 (enc (Vector.replicate 6 (0 : Int))) 23) :: L) (fun _ => (fun (i5, k5, y6) => rangeF (cut_counts_B0 a0) k5 i5 y6 = some ol5 ∧ i5 + k5 = a0.length)) (fun (i5, k5, y6) => k5) (0, a0.length, (Vector.replicate 6 (0 : Int))) ⟨rfl, rfl, rfl, rfl, rfl, trivial⟩ rfl ⟨H, by omega⟩ ?_
  rintro F7 ⟨i5, k5, y6⟩ hF8 ⟨H, hik5⟩
  refine Cd.as (e' := [(2, .pointer (some ⟨b1, 0, none⟩)), (3, .pointer (some ⟨b3, 0, none⟩)), (6, Sl.v s_a0), (7, .int .i64 (a0.length : Int)), (8, .int .i64 (i5 : Int))]) (L' := (.blk b3 (enc y6) 23) :: (.blk b1 (enc (Vector.replicate 6 (0 : Int))) 23) :: L) ⟨rfl, rfl, rfl, rfl, rfl, trivial⟩ rfl ?_
  rcases k5 with _ | k5
  · have hc5 : decide ((i5 : Int) < (a0.length : Int)) = false := decide_eq_false (by omega)
    replace H := rangeF_end H
    refine Cd.seq ?_
    refine Cd.region ?_
    refine Lst.run rfl rfl (by decide) (Ev.lss rfl rfl) ?_
    refine Lst.nil ?_
    refine At.then ?_
    refine Cd.seq ?_
    refine Cd.condF rfl hc5 ?_
    refine Cd.exit ?_
    refine At.then_exit ?_
    refine At.then_exit ?_
    refine At.in_exit ?_
    subst H
    replace H := HKl5
    refine At.then ?_
    refine Cd.seq ?_
    refine Cd.region ?_
    refine Lst.run rfl rfl (by decide) (Ev.loadA (i := 0) rfl rfl Try.isAgg23 Try.sizeOf23 (ch := enc y6) (Enc.len _) (Get.here _)) ?_
    refine Lst.store (i := 1) rfl rfl rfl rfl rfl Try.sizeOf23 (vs := enc y6) rfl (Enc.len _) (Enc.one _) (cs' := enc y6) (Put.here ((Enc.len _).trans (Enc.len _).symm)) (L' := (.blk b3 (enc y6) 23) :: (.blk b1 (enc y6) 23) :: L) rfl ?_
    refine Lst.nil ?_
    refine At.then ?_
    obtain rfl := some_inj H
    refine Cd.ret ?_
    exact At.ret1 rfl (Res.cellA (i := 1) rfl rfl Try.isAgg23 Try.sizeOf23 (Enc.len _)) hF8 (List.Sublist.cons _ (List.Sublist.cons _ (List.Sublist.refl _))) ⟨rfl, rfl⟩
  have hc5 : decide ((i5 : Int) < (a0.length : Int)) = true := decide_eq_true (by omega)
  obtain ⟨c5, H, hgo5⟩ := rangeF_go H
  unfold cut_counts_B0 at H
  try dsimp only at H
  refine Cd.seq ?_
  refine Cd.region ?_
  refine Lst.run rfl rfl (by decide) (Ev.lss rfl rfl) ?_
  refine Lst.nil ?_
  refine At.then ?_
  refine Cd.seq ?_
  refine Cd.condT rfl hc5 ?_
  refine Cd.skip ?_
  refine At.then ?_
  refine Cd.seq ?_
  refine Cd.block ?_
  refine Cd.seq ?_
  refine Cd.region ?_
  obtain ⟨x9, h10, H⟩ := bind_some H
  have g11 := lat_some h10
  refine Lst.run rfl rfl (by decide) (Ev.indexS (α := Event) (xs := a0) rfl rfl Try.runUnderlying24 Try.sizeOf75 rfl (by decide) (hs_a0.mono hF8 (List.Sublist.cons _ (List.Sublist.cons _ hM))) g11.1 g11.2.1) ?_
  refine Lst.run rfl rfl (by decide) (Ev.loadSA (α := Event) rfl (hs_a0.mono hF8 (List.Sublist.cons _ (List.Sublist.cons _ hM))) Try.isAgg75 Try.sizeOf75 (ch := enc x9) (Enc.len _) (by decide) ((Get.elemN (s := 3) (x := x9) rfl g11.2.2 (Get.here _)).off (by omega))) ?_
  refine Lst.alloc (cs := enc Event.zero) rfl rfl (by decide) Try.zeroValue75 rfl (fun b12 => ?_)
  refine Lst.store (i := 0) rfl rfl rfl rfl rfl Try.sizeOf75 (vs := enc x9) rfl (Enc.len _) (Enc.one _) (cs' := enc x9) (Put.here ((Enc.len _).trans (Enc.len _).symm)) (L' := (.blk b12 (enc x9) 75) :: (.blk b3 (enc y6) 23) :: (.blk b1 (enc (Vector.replicate 6 (0 : Int))) 23) :: L) rfl ?_
  refine Lst.nil ?_
  refine At.then ?_
  refine Cd.region ?_
  refine Lst.run rfl rfl (by decide) (Ev.fieldAddr (off' := 0) rfl Try.runUnderlying75 rfl Try.sizeOf3 rfl rfl) ?_
  refine Lst.run rfl rfl (by decide) (Ev.load (i := 0) rfl rfl Try.isAgg3 (v := .int .i64 x9.Proc) ((Event.get_Proc (Get.here _)).off (by rfl))) ?_
  obtain ⟨x14, h15, H⟩ := bind_some H
  have g16 := vat_some h15
  refine Lst.run rfl rfl (by decide) (Ev.indexAddr (off' := 0 + x9.Proc.toNat * 1) rfl rfl Try.runUnderlying23 Try.sizeOf3 g16.1 g16.2.1 rfl) ?_
  refine Lst.run rfl rfl (by decide) (Ev.load (i := 1) rfl rfl Try.isAgg3 (v := .int .i64 x14) ((Get.vecN (s := 1) (x := x14) rfl g16.2.2 (Get.here _)).off (by omega))) ?_
  refine Lst.run rfl rfl (by decide) (Ev.add rfl rfl) ?_
  obtain ⟨x17, h18, H⟩ := bind_some H
  have g19 := vat_some h18
  refine Lst.run rfl rfl (by decide) (Ev.indexAddr (off' := 0 + x9.Proc.toNat * 1) rfl rfl Try.runUnderlying23 Try.sizeOf3 g19.1 g19.2.1 rfl) ?_
  obtain ⟨p20, h21, H⟩ := Let_some H
  refine Lst.store (i := 1) rfl rfl rfl rfl rfl Try.sizeOf3 (vs := [.int .i64 (w64 (x14 + (1 : Int)))]) rfl rfl rfl (cs' := enc p20) (by rw [← h21]; exact (Put.vecN (s := 1) (x := x17) rfl g19.2.2 (Put.here (vs := [.int .i64 (w64 (x14 + (1 : Int)))]) rfl)).off (by omega)) (L' := (.blk b12 (enc x9) 75) :: (.blk b3 (enc p20) 23) :: (.blk b1 (enc (Vector.replicate 6 (0 : Int))) 23) :: L) rfl ?_
  refine Lst.nil ?_
  refine At.in_normal ?_
  refine At.then ?_
  refine Cd.region ?_
  refine Lst.run rfl rfl (by decide) (Ev.incr (by omega) rfl rfl) ?_
  refine Lst.run rfl rfl (by decide) (Ev.move rfl) ?_
  refine Lst.nil ?_
  refine At.less (L' := (.blk b3 (enc p20) 23) :: (.blk b1 (enc (Vector.replicate 6 (0 : Int))) 23) :: L) (List.Sublist.cons _ (List.Sublist.cons_cons _ (List.Sublist.cons_cons _ (List.Sublist.refl _)))) ?_
  exact At.meet (i5 + 1, k5, p20) hF8 ⟨rfl, rfl, rfl, rfl, rfl, trivial⟩ rfl ⟨⟨hgo5 _ (some_inj H).symm, by omega⟩, Nat.lt_succ_self _⟩
set_option maxRecDepth 20000 in
theorem vect_Max_sim {a0 : Vector Int 6} {a1 : Vector Int 6} {r : (Vector Int 6)} (H : vect_Max a0 a1 = some r) (w0 : World) (F : Frz) (M L : List Item) (hM : M.Sublist L) : Ok Try.prog w0 10 [.agg (enc a0).toArray, .agg (enc a1).toArray] F (L) (Is (.agg (enc r).toArray) (L)) := by
  unfold vect_Max at H
  refine Ok.enter (m := 2) (n := 20) Try.func10 rfl rfl rfl (by decide) ?_
  refine Cd.env (e' := [(0, .agg (enc a0).toArray), (1, .agg (enc a1).toArray)]) rfl ?_
  refine Cd.seq ?_
  refine Cd.region ?_
  refine Lst.box rfl rfl (by decide) rfl (cs := enc a0) rfl (fun b1 => ?_)
  refine Lst.box rfl rfl (by decide) rfl (cs := enc a1) rfl (fun b3 => ?_)
  refine Lst.alloc (cs := enc (Vector.replicate 6 (0 : Int))) rfl rfl (by decide) Try.zeroValue23 rfl (fun b5 => ?_)
  refine Lst.nil ?_
  refine At.then ?_
  refine Cd.seq ?_
  refine Cd.seq ?_
  refine Cd.region ?_
  refine Lst.run rfl rfl (by decide) (Ev.move rfl) ?_
  refine Lst.nil ?_
  refine At.then ?_
  refine Cd.block ?_
  obtain ⟨ol7, H, HKl7⟩ := bind_some H
  refine Cd.loop (σ := Nat × Nat × (Vector Int 6)) (fun (i7, k7, y8) => [(2, .pointer (some ⟨b1, 0, none⟩)), (3, .pointer (some ⟨b3, 0, none⟩)), (4, .pointer (some ⟨b5, 0, none⟩)), (6, .int .i64 (i7 : Int))]) (fun (i7, k7, y8) => (.blk b5 (enc (Vector.replicate 6 (0 : Int))) 23) :: (.blk b3 (enc a1) 23) :: (.blk b1 (enc y8) 23) :: L) (fun _ => (fun (i7, k7, y8) => rangeF (vect_Max_B0 a1) k7 i7 y8 = some ol7 ∧ i7 + k7 = 6)) (fun (i7, k7, y8) => k7) (0, 6, a0) ⟨rfl, rfl, rfl, rfl, trivial⟩ rfl ⟨H, by omega⟩ ?_
  rintro F9 ⟨i7, k7, y8⟩ hF10 ⟨H, hik7⟩
  refine Cd.as (e' := [(2, .pointer (some ⟨b1, 0, none⟩)), (3, .pointer (some ⟨b3, 0, none⟩)), (4, .pointer (some ⟨b5, 0, none⟩)), (6, .int .i64 (i7 : Int))]) (L' := (.blk b5 (enc (Vector.replicate 6 (0 : Int))) 23) :: (.blk b3 (enc a1) 23) :: (.blk b1 (enc y8) 23) :: L) ⟨rfl, rfl, rfl, rfl, trivial⟩ rfl ?_
  rcases k7 with _ | k7
  · have hc7 : decide ((i7 : Int) < (6 : Int)) = false := decide_eq_false (by omega)
    replace H := rangeF_end H
    refine Cd.seq ?_
    refine Cd.region ?_
    refine Lst.run rfl rfl (by decide) (Ev.lss rfl rfl) ?_
    refine Lst.nil ?_
    refine At.then ?_
    refine Cd.seq ?_
    refine Cd.condF rfl hc7 ?_
    refine Cd.exit ?_
    refine At.then_exit ?_
    refine At.then_exit ?_
    refine At.in_exit ?_
    subst H
    replace H := HKl7
    refine At.then ?_
    refine Cd.seq ?_
    refine Cd.region ?_
    refine Lst.run rfl rfl (by decide) (Ev.loadA (i := 2) rfl rfl Try.isAgg23 Try.sizeOf23 (ch := enc y8) (Enc.len _) (Get.here _)) ?_
    refine Lst.store (i := 0) rfl rfl rfl rfl rfl Try.sizeOf23 (vs := enc y8) rfl (Enc.len _) (Enc.one _) (cs' := enc y8) (Put.here ((Enc.len _).trans (Enc.len _).symm)) (L' := (.blk b5 (enc y8) 23) :: (.blk b3 (enc a1) 23) :: (.blk b1 (enc y8) 23) :: L) rfl ?_
    refine Lst.nil ?_
    refine At.then ?_
    obtain rfl := some_inj H
    refine Cd.ret ?_
    exact At.ret1 rfl (Res.cellA (i := 0) rfl rfl Try.isAgg23 Try.sizeOf23 (Enc.len _)) hF10 (List.Sublist.cons _ (List.Sublist.cons _ (List.Sublist.cons _ (List.Sublist.refl _)))) ⟨rfl, rfl⟩
  have hc7 : decide ((i7 : Int) < (6 : Int)) = true := decide_eq_true (by omega)
  obtain ⟨c7, H, hgo7⟩ := rangeF_go H
  unfold vect_Max_B0 at H
  try dsimp only at H
  refine Cd.seq ?_
  refine Cd.region ?_
  refine Lst.run rfl rfl (by decide) (Ev.lss rfl rfl) ?_
  refine Lst.nil ?_
  refine At.then ?_
  refine Cd.seq ?_
  refine Cd.condT rfl hc7 ?_
  refine Cd.skip ?_
  refine At.then ?_
  refine Cd.seq ?_
  refine Cd.block ?_
  refine Cd.seq ?_
  refine Cd.region ?_
  refine Lst.run rfl rfl (by decide) (Ev.move rfl) ?_
  refine Lst.run rfl rfl (by decide) (Ev.assign rfl) ?_
  refine Lst.nil ?_
  refine At.then ?_
  refine Cd.tail 9 (by kernel_rfl) (by kernel_rfl) ?_
  refine Qt.run rfl rfl (by decide) (Ev.move rfl) ?_
  refine Qt.run rfl rfl (by decide) (Ev.move rfl) ?_
  obtain ⟨x11, h12, H⟩ := bind_some H
  have g13 := vat_some h12
  refine Qt.run rfl rfl (by decide) (Ev.indexAddr (off' := 0 + (i7 : Int).toNat * 1) rfl rfl Try.runUnderlying23 Try.sizeOf3 g13.1 g13.2.1 rfl) ?_
  refine Qt.run rfl rfl (by decide) (Ev.load (i := 2) rfl rfl Try.isAgg3 (v := .int .i64 x11) ((Get.vecN (s := 1) (x := x11) rfl g13.2.2 (Get.here _)).off (by omega))) ?_
  refine Qt.run rfl rfl (by decide) (Ev.move rfl) ?_
  obtain ⟨x14, h15, H⟩ := bind_some H
  have g16 := vat_some h15
  refine Qt.run rfl rfl (by decide) (Ev.indexAddr (off' := 0 + (i7 : Int).toNat * 1) rfl rfl Try.runUnderlying23 Try.sizeOf3 g16.1 g16.2.1 rfl) ?_
  refine Qt.run rfl rfl (by decide) (Ev.load (i := 1) rfl rfl Try.isAgg3 (v := .int .i64 x14) ((Get.vecN (s := 1) (x := x14) rfl g16.2.2 (Get.here _)).off (by omega))) ?_
  refine Qt.run rfl rfl (by decide) (Ev.max2 rfl rfl) ?_
  obtain ⟨x17, h18, H⟩ := bind_some H
  have g19 := vat_some h18
  refine Qt.run rfl rfl (by decide) (Ev.indexAddr (off' := 0 + (i7 : Int).toNat * 1) rfl rfl Try.runUnderlying23 Try.sizeOf3 g19.1 g19.2.1 rfl) ?_
  refine Qt.tail ?_
  obtain ⟨p20, h21, H⟩ := Let_some H
  refine Lst.store (i := 2) rfl rfl rfl rfl rfl Try.sizeOf3 (vs := [.int .i64 (max x11 x14)]) rfl rfl rfl (cs' := enc p20) (by rw [← h21]; exact (Put.vecN (s := 1) (x := x17) rfl g19.2.2 (Put.here (vs := [.int .i64 (max x11 x14)]) rfl)).off (by omega)) (L' := (.blk b5 (enc (Vector.replicate 6 (0 : Int))) 23) :: (.blk b3 (enc a1) 23) :: (.blk b1 (enc p20) 23) :: L) rfl ?_
  refine Lst.nil ?_
  refine At.in_normal ?_
  refine At.then ?_
  refine Cd.region ?_
  refine Lst.run rfl rfl (by decide) (Ev.incr (by omega) rfl rfl) ?_
  refine Lst.run rfl rfl (by decide) (Ev.move rfl) ?_
  refine Lst.nil ?_
  exact At.meet (i7 + 1, k7, p20) hF10 ⟨rfl, rfl, rfl, rfl, trivial⟩ rfl ⟨⟨hgo7 _ (some_inj H).symm, by omega⟩, Nat.lt_succ_self _⟩
set_option maxRecDepth 20000 in
theorem vect_Vectors_sim {a0 : List Event} {s_a0 : Sl} {r : (List (Vector Int 6)) × Int} (H : vect_Vectors a0 = some r) (w0 : World) (F : Frz) (M L : List Item) (hM : M.Sublist L) (hs_a0 : Rd w0 F M s_a0 a0) : Ok Try.prog w0 15 [Sl.v s_a0] F (L) (fun _ L' v => ∃ (s1 : Sl), v = .tuple #[Sl.v s1, .int .i64 r.2] ∧ L' = (.own s1 23 6 (encs r.1)) :: L) := by
  unfold vect_Vectors at H
  refine Ok.enter (m := 1) (n := 66) Try.func15 rfl rfl rfl (by decide) ?_
  refine Cd.env (e' := [(0, Sl.v s_a0)]) rfl ?_
  refine Cd.seq ?_
  refine Cd.region ?_
  refine Lst.addNil 23 6 ?_
  refine Lst.run rfl rfl (by decide) (Ev.assign rfl) ?_
  refine Lst.run rfl rfl (by decide) (Ev.assign rfl) ?_
  refine Lst.nil ?_
  refine At.then ?_
  refine Cd.seq ?_
  refine Cd.seq ?_
  refine Cd.region ?_
  refine Lst.run rfl rfl (by decide) (Ev.move rfl) ?_
  obtain ⟨r2, h3, H⟩ := bind_some H
  refine Lst.call1 rfl rfl (by decide) (vs := [Sl.v s_a0]) ⟨rfl, trivial⟩ Try.call22 (stamp_Check_sim h3 w0 _ M _ (List.Sublist.cons _ hM) (hs_a0.mono (FLe.refl _) (List.Sublist.refl _))) ?_
  refine Lst.run rfl rfl (by decide) (Ev.assign rfl) ?_
  refine Lst.nil ?_
  refine At.then ?_
  refine Cd.seq ?_
  refine Cd.region ?_
  refine Lst.run rfl rfl (by decide) (Ev.move rfl) ?_
  refine Lst.run rfl rfl (by decide) (Ev.neq rfl rfl) ?_
  refine Lst.nil ?_
  refine At.then ?_
  rcases Bool.eq_false_or_eq_true (r2 != (0 : Int)) with hb6 | hb6
  · replace H := ite_t hb6 H
    refine Cd.condT rfl hb6 ?_
    refine Cd.seq ?_
    refine Cd.region ?_
    refine Lst.run rfl rfl (by decide) (Ev.move rfl) ?_
    refine Lst.addNil 23 6 ?_
    refine Lst.run rfl rfl (by decide) (Ev.assign rfl) ?_
    refine Lst.run rfl rfl (by decide) (Ev.assign rfl) ?_
    refine Lst.nil ?_
    refine At.then ?_
    obtain rfl := some_inj H
    refine Cd.ret ?_
    refine At.then_ret ?_
    exact At.ret2 rfl (Res.tmp rfl) (Res.tmp rfl) (FLe.refl _) (List.Sublist.cons_cons _ (List.Sublist.cons _ (List.Sublist.refl _))) ⟨Sl.nil, rfl, rfl⟩
  replace H := ite_f hb6 H
  refine Cd.condF rfl hb6 ?_
  refine Cd.skip ?_
  refine At.then ?_
  refine Cd.seq ?_
  refine Cd.region ?_
  refine Lst.addNil 23 6 ?_
  refine Lst.run rfl rfl (by decide) (Ev.assign rfl) ?_
  refine Lst.nil ?_
  refine At.then ?_
  refine Cd.seq ?_
  refine Cd.region ?_
  refine Lst.alloc (cs := enc (Vector.replicate 6 (0 : Int))) rfl rfl (by decide) Try.zeroValue23 rfl (fun b9 => ?_)
  refine Lst.nil ?_
  refine At.then ?_
  refine Cd.seq ?_
  refine Cd.region ?_
  refine Lst.alloc (cs := enc (Vector.replicate 6 (Vector.replicate 6 (0 : Int)))) rfl rfl (by decide) Try.zeroValue72 rfl (fun b11 => ?_)
  refine Lst.nil ?_
  refine At.then ?_
  refine Cd.seq ?_
  refine Cd.region ?_
  refine Lst.alloc (z := .agg (enc (Vector.replicate 30 (Vector.replicate 6 (0 : Int)))).toArray) (cs := enc (Vector.replicate 30 (Vector.replicate 6 (0 : Int)))) rfl rfl (by decide) (fun _ => by kernel_rfl) rfl (fun b13 => ?_)
  refine Lst.nil ?_
  refine At.then ?_
  refine Cd.seq ?_
  refine Cd.seq ?_
  refine Cd.region ?_
  refine Lst.run rfl rfl (by decide) (Ev.move rfl) ?_
  refine Lst.run rfl rfl (by decide) (Ev.lenS (α := Event) (xs := a0) (by decide) rfl rfl Try.runUnderlying24 (hs_a0.mono (FLe.refl _) (List.Sublist.cons _ (List.Sublist.cons _ (List.Sublist.cons _ (List.Sublist.cons _ (List.Sublist.cons _ hM))))))) ?_
  refine Lst.run rfl rfl (by decide) (Ev.move rfl) ?_
  refine Lst.nil ?_
  refine At.then ?_
  refine Cd.block ?_
  refine Cd.bound (Rd.le (α := Event) (xs := a0) (by decide) (hs_a0.mono (FLe.refl _) (List.Sublist.cons _ (List.Sublist.cons _ (List.Sublist.cons _ (List.Sublist.cons _ (List.Sublist.cons _ hM))))))) (fun hN81 => ?_)
  obtain ⟨ol15, H, HKl15⟩ := bind_some H
  refine Cd.loop (σ := Nat × Nat × (Vector (Vector Int 6) 30) × (Vector (Vector Int 6) 6) × (Vector Int 6) × Sl × (List (Vector Int 6))) (fun (i15, k15, y16, y17, y18, s19, l20) => [(5, Sl.v s19), (6, .pointer (some ⟨b9, 0, none⟩)), (7, .pointer (some ⟨b11, 0, none⟩)), (8, .pointer (some ⟨b13, 0, none⟩)), (17, Sl.v s_a0), (18, .int .i64 (a0.length : Int)), (19, .int .i64 (i15 : Int))]) (fun (i15, k15, y16, y17, y18, s19, l20) => (.blk b13 (enc y16) 73) :: (.blk b11 (enc y17) 72) :: (.blk b9 (enc y18) 23) :: (.own s19 23 6 (encs l20)) :: (.own Sl.nil 23 6 (encs ([] : List (Vector Int 6)))) :: L) (fun _ => (fun (i15, k15, y16, y17, y18, s19, l20) => rangeF (vect_Vectors_B0 a0) k15 i15 (y16, y17, y18, l20) = some ol15 ∧ i15 + k15 = a0.length)) (fun (i15, k15, y16, y17, y18, s19, l20) => k15) (0, a0.length, (Vector.replicate 30 (Vector.replicate 6 (0 : Int))), (Vector.replicate 6 (Vector.replicate 6 (0 : Int))), (Vector.replicate 6 (0 : Int)), Sl.nil, ([] : List (Vector Int 6))) ⟨rfl, rfl, rfl, rfl, rfl, rfl, rfl, trivial⟩ rfl ⟨H, by omega⟩ ?_
  rintro F21 ⟨i15, k15, y16, y17, y18, s19, l20⟩ hF22 ⟨H, hik15⟩
  refine Cd.as (e' := [(5, Sl.v s19), (6, .pointer (some ⟨b9, 0, none⟩)), (7, .pointer (some ⟨b11, 0, none⟩)), (8, .pointer (some ⟨b13, 0, none⟩)), (17, Sl.v s_a0), (18, .int .i64 (a0.length : Int)), (19, .int .i64 (i15 : Int))]) (L' := (.blk b13 (enc y16) 73) :: (.blk b11 (enc y17) 72) :: (.blk b9 (enc y18) 23) :: (.own s19 23 6 (encs l20)) :: (.own Sl.nil 23 6 (encs ([] : List (Vector Int 6)))) :: L) ⟨rfl, rfl, rfl, rfl, rfl, rfl, rfl, trivial⟩ rfl ?_
  rcases k15 with _ | k15
  · have hc15 : decide ((i15 : Int) < (a0.length : Int)) = false := decide_eq_false (by omega)
    replace H := rangeF_end H
    refine Cd.seq ?_
    refine Cd.region ?_
    refine Lst.run rfl rfl (by decide) (Ev.lss rfl rfl) ?_
    refine Lst.nil ?_
    refine At.then ?_
    refine Cd.seq ?_
    refine Cd.condF rfl hc15 ?_
    refine Cd.exit ?_
    refine At.then_exit ?_
    refine At.then_exit ?_
    refine At.in_exit ?_
    subst H
    replace H := HKl15
    refine At.then ?_
    refine Cd.seq ?_
    refine Cd.region ?_
    refine Lst.run rfl rfl (by decide) (Ev.move rfl) ?_
    refine Lst.run rfl rfl (by decide) (Ev.assign rfl) ?_
    refine Lst.run rfl rfl (by decide) (Ev.assign rfl) ?_
    refine Lst.nil ?_
    refine At.then ?_
    obtain rfl := some_inj H
    refine Cd.ret ?_
    exact At.ret2 rfl (Res.tmp rfl) (Res.tmp rfl) hF22 (List.Sublist.cons _ (List.Sublist.cons _ (List.Sublist.cons _ (List.Sublist.cons_cons _ (List.Sublist.cons _ (List.Sublist.refl _)))))) ⟨s19, rfl, rfl⟩
  have hc15 : decide ((i15 : Int) < (a0.length : Int)) = true := decide_eq_true (by omega)
  obtain ⟨c15, H, hgo15⟩ := rangeF_go H
  unfold vect_Vectors_B0 at H
  try dsimp only at H
  refine Cd.seq ?_
  refine Cd.region ?_
  refine Lst.run rfl rfl (by decide) (Ev.lss rfl rfl) ?_
  refine Lst.nil ?_
  refine At.then ?_
  refine Cd.seq ?_
  refine Cd.condT rfl hc15 ?_
  refine Cd.skip ?_
  refine At.then ?_
  refine Cd.seq ?_
  refine Cd.block ?_
  refine Cd.seq ?_
  refine Cd.region ?_
  obtain ⟨x23, h24, H⟩ := bind_some H
  have g25 := lat_some h24
  refine Lst.run rfl rfl (by decide) (Ev.indexS (α := Event) (xs := a0) rfl rfl Try.runUnderlying24 Try.sizeOf75 rfl (by decide) (hs_a0.mono hF22 (List.Sublist.cons _ (List.Sublist.cons _ (List.Sublist.cons _ (List.Sublist.cons _ (List.Sublist.cons _ hM)))))) g25.1 g25.2.1) ?_
  refine Lst.run rfl rfl (by decide) (Ev.loadSA (α := Event) rfl (hs_a0.mono hF22 (List.Sublist.cons _ (List.Sublist.cons _ (List.Sublist.cons _ (List.Sublist.cons _ (List.Sublist.cons _ hM)))))) Try.isAgg75 Try.sizeOf75 (ch := enc x23) (Enc.len _) (by decide) ((Get.elemN (s := 3) (x := x23) rfl g25.2.2 (Get.here _)).off (by omega))) ?_
  refine Lst.alloc (cs := enc Event.zero) rfl rfl (by decide) Try.zeroValue75 rfl (fun b26 => ?_)
  refine Lst.store (i := 0) rfl rfl rfl rfl rfl Try.sizeOf75 (vs := enc x23) rfl (Enc.len _) (Enc.one _) (cs' := enc x23) (Put.here ((Enc.len _).trans (Enc.len _).symm)) (L' := (.blk b26 (enc x23) 75) :: (.blk b13 (enc y16) 73) :: (.blk b11 (enc y17) 72) :: (.blk b9 (enc y18) 23) :: (.own s19 23 6 (encs l20)) :: (.own Sl.nil 23 6 (encs ([] : List (Vector Int 6)))) :: L) rfl ?_
  refine Lst.nil ?_
  refine At.then ?_
  refine Cd.seq ?_
  refine Cd.region ?_
  refine Lst.run rfl rfl (by decide) (Ev.fieldAddr (off' := 0) rfl Try.runUnderlying75 rfl Try.sizeOf3 rfl rfl) ?_
  refine Lst.run rfl rfl (by decide) (Ev.load (i := 0) rfl rfl Try.isAgg3 (v := .int .i64 x23.Proc) ((Event.get_Proc (Get.here _)).off (by rfl))) ?_
  obtain ⟨x28, h29, H⟩ := bind_some H
  have g30 := vat_some h29
  refine Lst.run rfl rfl (by decide) (Ev.indexAddr (off' := 0 + x23.Proc.toNat * 6) rfl rfl Try.runUnderlying72 Try.sizeOf23 g30.1 g30.2.1 rfl) ?_
  refine Lst.run rfl rfl (by decide) (Ev.loadA (i := 2) rfl rfl Try.isAgg23 Try.sizeOf23 (ch := enc x28) (Enc.len _) ((Get.vecN (s := 6) (x := x28) rfl g30.2.2 (Get.here _)).off (by omega))) ?_
  refine Lst.alloc (cs := enc (Vector.replicate 6 (0 : Int))) rfl rfl (by decide) Try.zeroValue23 rfl (fun b31 => ?_)
  refine Lst.store (i := 0) rfl rfl rfl rfl rfl Try.sizeOf23 (vs := enc x28) rfl (Enc.len _) (Enc.one _) (cs' := enc x28) (Put.here ((Enc.len _).trans (Enc.len _).symm)) (L' := (.blk b31 (enc x28) 23) :: (.blk b26 (enc x23) 75) :: (.blk b13 (enc y16) 73) :: (.blk b11 (enc y17) 72) :: (.blk b9 (enc y18) 23) :: (.own s19 23 6 (encs l20)) :: (.own Sl.nil 23 6 (encs ([] : List (Vector Int 6)))) :: L) rfl ?_
  refine Lst.nil ?_
  refine At.then ?_
  obtain ⟨o34, H, HKo34⟩ := bind_some H
  refine Cd.join (σ := (Vector Int 6)) (fun y33 => [(5, Sl.v s19), (6, .pointer (some ⟨b9, 0, none⟩)), (7, .pointer (some ⟨b11, 0, none⟩)), (8, .pointer (some ⟨b13, 0, none⟩)), (10, .pointer (some ⟨b26, 0, none⟩)), (11, .pointer (some ⟨b31, 0, none⟩)), (17, Sl.v s_a0), (18, .int .i64 (a0.length : Int)), (19, .int .i64 (i15 : Int))]) (fun y33 => (.blk b31 (enc y33) 23) :: (.blk b26 (enc x23) 75) :: (.blk b13 (enc y16) 73) :: (.blk b11 (enc y17) 72) :: (.blk b9 (enc y18) 23) :: (.own s19 23 6 (encs l20)) :: (.own Sl.nil 23 6 (encs ([] : List (Vector Int 6)))) :: L) (fun _ y33 => y33 = o34) ?_ ?_
  · refine Cd.seq ?_
    refine Cd.region ?_
    refine Lst.run rfl rfl (by decide) (Ev.fieldAddr (off' := 1) rfl Try.runUnderlying75 rfl Try.sizeOf3 rfl rfl) ?_
    refine Lst.run rfl rfl (by decide) (Ev.load (i := 1) rfl rfl Try.isAgg3 (v := .int .i64 x23.Kind) ((Event.get_Kind (Get.here _)).off (by rfl))) ?_
    refine Lst.run rfl rfl (by decide) (Ev.eql rfl rfl) ?_
    refine Lst.nil ?_
    refine At.then ?_
    rcases (Bool.eq_false_or_eq_true (x23.Kind == (3 : Int))).symm with hb35 | hb35
    · replace H := ite_f hb35 H
      refine Cd.condF rfl hb35 ?_
      refine Cd.skip ?_
      exact At.meet x28 (FLe.refl _) ⟨rfl, rfl, rfl, rfl, rfl, rfl, rfl, rfl, rfl, trivial⟩ rfl (some_inj H)
    replace H := ite_t hb35 H
    refine Cd.condT rfl hb35 ?_
    refine Cd.tail 6 (by kernel_rfl) (by kernel_rfl) ?_
    refine Qt.run rfl rfl (by decide) (Ev.loadA (i := 0) rfl rfl Try.isAgg23 Try.sizeOf23 (ch := enc x28) (Enc.len _) (Get.here _)) ?_
    refine Qt.run rfl rfl (by decide) (Ev.fieldAddr (off' := 2) rfl Try.runUnderlying75 rfl Try.sizeOf3 rfl rfl) ?_
    refine Qt.run rfl rfl (by decide) (Ev.load (i := 1) rfl rfl Try.isAgg3 (v := .int .i64 x23.Msg) ((Event.get_Msg (Get.here _)).off (by rfl))) ?_
    obtain ⟨x36, h37, H⟩ := bind_some H
    have g38 := vat_some h37
    refine Qt.run rfl rfl (by decide) (Ev.indexAddr (off' := 0 + x23.Msg.toNat * 6) rfl rfl Try.runUnderlying73 Try.sizeOf23 g38.1 g38.2.1 rfl) ?_
    refine Qt.run rfl rfl (by decide) (Ev.loadA (i := 2) rfl rfl Try.isAgg23 Try.sizeOf23 (ch := enc x36) (Enc.len _) ((Get.vecN (s := 6) (x := x36) rfl g38.2.2 (Get.here _)).off (by omega))) ?_
    obtain ⟨r39, h40, H⟩ := bind_some H
    refine Qt.call rfl rfl (by decide) (vs := [.agg (enc x28).toArray, .agg (enc x36).toArray]) ⟨rfl, rfl, trivial⟩ Try.call10 (vect_Max_sim h40 w0 _ M _ (List.Sublist.cons _ (List.Sublist.cons _ (List.Sublist.cons _ (List.Sublist.cons _ (List.Sublist.cons _ (List.Sublist.cons _ (List.Sublist.cons _ hM)))))))) ?_
    refine Qt.tail ?_
    refine Lst.store (i := 0) rfl rfl rfl rfl rfl Try.sizeOf23 (vs := enc r39) rfl (Enc.len _) (Enc.one _) (cs' := enc r39) (Put.here ((Enc.len _).trans (Enc.len _).symm)) (L' := (.blk b31 (enc r39) 23) :: (.blk b26 (enc x23) 75) :: (.blk b13 (enc y16) 73) :: (.blk b11 (enc y17) 72) :: (.blk b9 (enc y18) 23) :: (.own s19 23 6 (encs l20)) :: (.own Sl.nil 23 6 (encs ([] : List (Vector Int 6)))) :: L) rfl ?_
    refine Lst.nil ?_
    exact At.meet r39 (FLe.refl _) ⟨rfl, rfl, rfl, rfl, rfl, rfl, rfl, rfl, rfl, trivial⟩ rfl (some_inj H)
  rintro F43 y33 hF44 hy
  subst hy
  refine Cd.as (e' := [(5, Sl.v s19), (6, .pointer (some ⟨b9, 0, none⟩)), (7, .pointer (some ⟨b11, 0, none⟩)), (8, .pointer (some ⟨b13, 0, none⟩)), (10, .pointer (some ⟨b26, 0, none⟩)), (11, .pointer (some ⟨b31, 0, none⟩)), (17, Sl.v s_a0), (18, .int .i64 (a0.length : Int)), (19, .int .i64 (i15 : Int))]) (L' := (.blk b31 (enc y33) 23) :: (.blk b26 (enc x23) 75) :: (.blk b13 (enc y16) 73) :: (.blk b11 (enc y17) 72) :: (.blk b9 (enc y18) 23) :: (.own s19 23 6 (encs l20)) :: (.own Sl.nil 23 6 (encs ([] : List (Vector Int 6)))) :: L) ⟨rfl, rfl, rfl, rfl, rfl, rfl, rfl, rfl, rfl, trivial⟩ rfl ?_
  replace H := HKo34
  refine Cd.seq ?_
  refine Cd.region ?_
  refine Lst.run rfl rfl (by decide) (Ev.fieldAddr (off' := 0) rfl Try.runUnderlying75 rfl Try.sizeOf3 rfl rfl) ?_
  refine Lst.run rfl rfl (by decide) (Ev.load (i := 1) rfl rfl Try.isAgg3 (v := .int .i64 x23.Proc) ((Event.get_Proc (Get.here _)).off (by rfl))) ?_
  obtain ⟨x45, h46, H⟩ := bind_some H
  have g47 := vat_some h46
  refine Lst.run rfl rfl (by decide) (Ev.indexAddr (off' := 0 + x23.Proc.toNat * 1) rfl rfl Try.runUnderlying23 Try.sizeOf3 g47.1 g47.2.1 rfl) ?_
  refine Lst.run rfl rfl (by decide) (Ev.load (i := 4) rfl rfl Try.isAgg3 (v := .int .i64 x45) ((Get.vecN (s := 1) (x := x45) rfl g47.2.2 (Get.here _)).off (by omega))) ?_
  refine Lst.run rfl rfl (by decide) (Ev.add rfl rfl) ?_
  obtain ⟨x48, h49, H⟩ := bind_some H
  have g50 := vat_some h49
  refine Lst.run rfl rfl (by decide) (Ev.indexAddr (off' := 0 + x23.Proc.toNat * 1) rfl rfl Try.runUnderlying23 Try.sizeOf3 g50.1 g50.2.1 rfl) ?_
  obtain ⟨p51, h52, H⟩ := Let_some H
  refine Lst.store (i := 4) rfl rfl rfl rfl rfl Try.sizeOf3 (vs := [.int .i64 (w64 (x45 + (1 : Int)))]) rfl rfl rfl (cs' := enc p51) (by rw [← h52]; exact (Put.vecN (s := 1) (x := x48) rfl g50.2.2 (Put.here (vs := [.int .i64 (w64 (x45 + (1 : Int)))]) rfl)).off (by omega)) (L' := (.blk b31 (enc y33) 23) :: (.blk b26 (enc x23) 75) :: (.blk b13 (enc y16) 73) :: (.blk b11 (enc y17) 72) :: (.blk b9 (enc p51) 23) :: (.own s19 23 6 (encs l20)) :: (.own Sl.nil 23 6 (encs ([] : List (Vector Int 6)))) :: L) rfl ?_
  refine Lst.nil ?_
  refine At.then ?_
  refine Cd.seq ?_
  refine Cd.tail 7 (by kernel_rfl) (by kernel_rfl) ?_
  refine Qt.run rfl rfl (by decide) (Ev.fieldAddr (off' := 0) rfl Try.runUnderlying75 rfl Try.sizeOf3 rfl rfl) ?_
  refine Qt.run rfl rfl (by decide) (Ev.load (i := 1) rfl rfl Try.isAgg3 (v := .int .i64 x23.Proc) ((Event.get_Proc (Get.here _)).off (by rfl))) ?_
  refine Qt.run rfl rfl (by decide) (Ev.fieldAddr (off' := 0) rfl Try.runUnderlying75 rfl Try.sizeOf3 rfl rfl) ?_
  refine Qt.run rfl rfl (by decide) (Ev.load (i := 1) rfl rfl Try.isAgg3 (v := .int .i64 x23.Proc) ((Event.get_Proc (Get.here _)).off (by rfl))) ?_
  obtain ⟨x53, h54, H⟩ := bind_some H
  have g55 := vat_some h54
  refine Qt.run rfl rfl (by decide) (Ev.indexAddr (off' := 0 + x23.Proc.toNat * 1) rfl rfl Try.runUnderlying23 Try.sizeOf3 g55.1 g55.2.1 rfl) ?_
  refine Qt.run rfl rfl (by decide) (Ev.load (i := 4) rfl rfl Try.isAgg3 (v := .int .i64 x53) ((Get.vecN (s := 1) (x := x53) rfl g55.2.2 (Get.here _)).off (by omega))) ?_
  obtain ⟨x56, h57, H⟩ := bind_some H
  have g58 := vat_some h57
  refine Qt.run rfl rfl (by decide) (Ev.indexAddr (off' := 0 + x23.Proc.toNat * 1) rfl rfl Try.runUnderlying23 Try.sizeOf3 g58.1 g58.2.1 rfl) ?_
  refine Qt.tail ?_
  obtain ⟨p59, h60, H⟩ := Let_some H
  refine Lst.store (i := 0) rfl rfl rfl rfl rfl Try.sizeOf3 (vs := [.int .i64 x53]) rfl rfl rfl (cs' := enc p59) (by rw [← h60]; exact (Put.vecN (s := 1) (x := x56) rfl g58.2.2 (Put.here (vs := [.int .i64 x53]) rfl)).off (by omega)) (L' := (.blk b31 (enc p59) 23) :: (.blk b26 (enc x23) 75) :: (.blk b13 (enc y16) 73) :: (.blk b11 (enc y17) 72) :: (.blk b9 (enc p51) 23) :: (.own s19 23 6 (encs l20)) :: (.own Sl.nil 23 6 (encs ([] : List (Vector Int 6)))) :: L) rfl ?_
  refine Lst.nil ?_
  refine At.then ?_
  refine Cd.seq ?_
  refine Cd.region ?_
  refine Lst.run rfl rfl (by decide) (Ev.fieldAddr (off' := 0) rfl Try.runUnderlying75 rfl Try.sizeOf3 rfl rfl) ?_
  refine Lst.run rfl rfl (by decide) (Ev.load (i := 1) rfl rfl Try.isAgg3 (v := .int .i64 x23.Proc) ((Event.get_Proc (Get.here _)).off (by rfl))) ?_
  refine Lst.run rfl rfl (by decide) (Ev.loadA (i := 0) rfl rfl Try.isAgg23 Try.sizeOf23 (ch := enc p59) (Enc.len _) (Get.here _)) ?_
  obtain ⟨x61, h62, H⟩ := bind_some H
  have g63 := vat_some h62
  refine Lst.run rfl rfl (by decide) (Ev.indexAddr (off' := 0 + x23.Proc.toNat * 6) rfl rfl Try.runUnderlying72 Try.sizeOf23 g63.1 g63.2.1 rfl) ?_
  obtain ⟨p64, h65, H⟩ := Let_some H
  refine Lst.store (i := 3) rfl rfl rfl rfl rfl Try.sizeOf23 (vs := enc p59) rfl (Enc.len _) (Enc.one _) (cs' := enc p64) (by rw [← h65]; exact (Put.vecN (s := 6) (x := x61) rfl g63.2.2 (Put.here ((Enc.len _).trans (Enc.len _).symm))).off (by omega)) (L' := (.blk b31 (enc p59) 23) :: (.blk b26 (enc x23) 75) :: (.blk b13 (enc y16) 73) :: (.blk b11 (enc p64) 72) :: (.blk b9 (enc p51) 23) :: (.own s19 23 6 (encs l20)) :: (.own Sl.nil 23 6 (encs ([] : List (Vector Int 6)))) :: L) rfl ?_
  refine Lst.nil ?_
  refine At.then ?_
  obtain ⟨o67, H, HKo67⟩ := bind_some H
  refine Cd.join (σ := (Vector (Vector Int 6) 30)) (fun y66 => [(5, Sl.v s19), (6, .pointer (some ⟨b9, 0, none⟩)), (7, .pointer (some ⟨b11, 0, none⟩)), (8, .pointer (some ⟨b13, 0, none⟩)), (11, .pointer (some ⟨b31, 0, none⟩)), (17, Sl.v s_a0), (18, .int .i64 (a0.length : Int)), (19, .int .i64 (i15 : Int))]) (fun y66 => (.blk b31 (enc p59) 23) :: (.blk b26 (enc x23) 75) :: (.blk b13 (enc y66) 73) :: (.blk b11 (enc p64) 72) :: (.blk b9 (enc p51) 23) :: (.own s19 23 6 (encs l20)) :: (.own Sl.nil 23 6 (encs ([] : List (Vector Int 6)))) :: L) (fun _ y66 => y66 = o67) ?_ ?_
  · refine Cd.seq ?_
    refine Cd.as (e' := [(5, Sl.v s19), (6, .pointer (some ⟨b9, 0, none⟩)), (7, .pointer (some ⟨b11, 0, none⟩)), (8, .pointer (some ⟨b13, 0, none⟩)), (10, .pointer (some ⟨b26, 0, none⟩)), (11, .pointer (some ⟨b31, 0, none⟩)), (17, Sl.v s_a0), (18, .int .i64 (a0.length : Int)), (19, .int .i64 (i15 : Int))]) (L' := (.blk b31 (enc p59) 23) :: (.blk b26 (enc x23) 75) :: (.blk b13 (enc y16) 73) :: (.blk b11 (enc p64) 72) :: (.blk b9 (enc p51) 23) :: (.own s19 23 6 (encs l20)) :: (.own Sl.nil 23 6 (encs ([] : List (Vector Int 6)))) :: L) ⟨rfl, rfl, rfl, rfl, rfl, rfl, rfl, rfl, rfl, trivial⟩ rfl ?_
    refine Cd.region ?_
    refine Lst.run rfl rfl (by decide) (Ev.fieldAddr (off' := 1) rfl Try.runUnderlying75 rfl Try.sizeOf3 rfl rfl) ?_
    refine Lst.run rfl rfl (by decide) (Ev.load (i := 1) rfl rfl Try.isAgg3 (v := .int .i64 x23.Kind) ((Event.get_Kind (Get.here _)).off (by rfl))) ?_
    refine Lst.run rfl rfl (by decide) (Ev.eql rfl rfl) ?_
    refine Lst.nil ?_
    refine At.then ?_
    rcases (Bool.eq_false_or_eq_true (x23.Kind == (2 : Int))).symm with hb68 | hb68
    · replace H := ite_f hb68 H
      refine Cd.condF rfl hb68 ?_
      refine Cd.skip ?_
      exact At.meet y16 (FLe.refl _) ⟨rfl, rfl, rfl, rfl, rfl, rfl, rfl, rfl, trivial⟩ rfl (some_inj H)
    replace H := ite_t hb68 H
    refine Cd.condT rfl hb68 ?_
    refine Cd.region ?_
    refine Lst.run rfl rfl (by decide) (Ev.fieldAddr (off' := 2) rfl Try.runUnderlying75 rfl Try.sizeOf3 rfl rfl) ?_
    refine Lst.run rfl rfl (by decide) (Ev.load (i := 1) rfl rfl Try.isAgg3 (v := .int .i64 x23.Msg) ((Event.get_Msg (Get.here _)).off (by rfl))) ?_
    refine Lst.run rfl rfl (by decide) (Ev.loadA (i := 0) rfl rfl Try.isAgg23 Try.sizeOf23 (ch := enc p59) (Enc.len _) (Get.here _)) ?_
    obtain ⟨x69, h70, H⟩ := bind_some H
    have g71 := vat_some h70
    refine Lst.run rfl rfl (by decide) (Ev.indexAddr (off' := 0 + x23.Msg.toNat * 6) rfl rfl Try.runUnderlying73 Try.sizeOf23 g71.1 g71.2.1 rfl) ?_
    obtain ⟨p72, h73, H⟩ := Let_some H
    refine Lst.store (i := 2) rfl rfl rfl rfl rfl Try.sizeOf23 (vs := enc p59) rfl (Enc.len _) (Enc.one _) (cs' := enc p72) (by rw [← h73]; exact (Put.vecN (s := 6) (x := x69) rfl g71.2.2 (Put.here ((Enc.len _).trans (Enc.len _).symm))).off (by omega)) (L' := (.blk b31 (enc p59) 23) :: (.blk b26 (enc x23) 75) :: (.blk b13 (enc p72) 73) :: (.blk b11 (enc p64) 72) :: (.blk b9 (enc p51) 23) :: (.own s19 23 6 (encs l20)) :: (.own Sl.nil 23 6 (encs ([] : List (Vector Int 6)))) :: L) rfl ?_
    refine Lst.nil ?_
    exact At.meet p72 (FLe.refl _) ⟨rfl, rfl, rfl, rfl, rfl, rfl, rfl, rfl, trivial⟩ rfl (some_inj H)
  rintro F74 y66 hF75 hy
  subst hy
  refine Cd.as (e' := [(5, Sl.v s19), (6, .pointer (some ⟨b9, 0, none⟩)), (7, .pointer (some ⟨b11, 0, none⟩)), (8, .pointer (some ⟨b13, 0, none⟩)), (11, .pointer (some ⟨b31, 0, none⟩)), (17, Sl.v s_a0), (18, .int .i64 (a0.length : Int)), (19, .int .i64 (i15 : Int))]) (L' := (.blk b31 (enc p59) 23) :: (.blk b26 (enc x23) 75) :: (.blk b13 (enc y66) 73) :: (.blk b11 (enc p64) 72) :: (.blk b9 (enc p51) 23) :: (.own s19 23 6 (encs l20)) :: (.own Sl.nil 23 6 (encs ([] : List (Vector Int 6)))) :: L) ⟨rfl, rfl, rfl, rfl, rfl, rfl, rfl, rfl, trivial⟩ rfl ?_
  replace H := HKo67
  refine Cd.region ?_
  refine Lst.run rfl rfl (by decide) (Ev.move rfl) ?_
  refine Lst.run rfl rfl (by decide) (Ev.loadA (i := 0) rfl rfl Try.isAgg23 Try.sizeOf23 (ch := enc p59) (Enc.len _) (Get.here _)) ?_
  refine Lst.buildSlice (α := Vector Int 6) (xs := ([p59] : List (Vector Int 6))) (pv := [(0, .agg (enc p59).toArray)]) rfl rfl (by decide) ⟨rfl, rfl, trivial⟩ (run_buildSlice (α := Vector Int 6) (z0 := (Vector.replicate 6 (0 : Int))) (xs := ([p59] : List (Vector Int 6))) Try.runUnderlying28 Try.sizeOf23 Try.zeroValue23 rfl rfl rfl (by decide) rfl (fill_cons (cs := encs (List.replicate 1 (Vector.replicate 6 (0 : Int)))) (cs' := encs ((List.replicate 1 (Vector.replicate 6 (0 : Int))).set 0 p59)) (vs := enc p59) rfl rfl (Enc.len _) ((Put.elemN (s := 6) (i := 0) (x := (Vector.replicate 6 (0 : Int))) (y := p59) rfl rfl (Put.here ((Enc.len _).trans (Enc.len _).symm))).off rfl) fill_nil)) rfl rfl (by decide) (fun s76 _ => ?_)
  obtain ⟨u78, h79, H⟩ := bind_some H
  refine Lst.append (i := 6) (α := Vector Int 6) (xs := l20) (ys := ([p59] : List (Vector Int 6))) rfl rfl (by decide) rfl rfl Try.runUnderlying28 Try.typeInfo23 rfl rfl rfl rfl rfl rfl (Rd.own (i := 0) rfl rfl rfl) rfl (room_some h79) rfl (fun s80 => ?_)
  refine Lst.its (L' := (.own s76 23 6 (encs ([p59] : List (Vector Int 6)))) :: (.blk b31 (enc p59) 23) :: (.blk b26 (enc x23) 75) :: (.blk b13 (enc y66) 73) :: (.blk b11 (enc p64) 72) :: (.blk b9 (enc p51) 23) :: (.own s80 23 6 (encs (l20 ++ ([p59] : List (Vector Int 6))))) :: (.own Sl.nil 23 6 (encs ([] : List (Vector Int 6)))) :: L) rfl ?_
  refine Lst.run rfl rfl (by decide) (Ev.assign rfl) ?_
  refine Lst.nil ?_
  refine At.in_normal ?_
  refine At.then ?_
  refine Cd.region ?_
  refine Lst.run rfl rfl (by decide) (Ev.incr (by omega) rfl rfl) ?_
  refine Lst.run rfl rfl (by decide) (Ev.move rfl) ?_
  refine Lst.nil ?_
  refine At.less (L' := (.blk b13 (enc y66) 73) :: (.blk b11 (enc p64) 72) :: (.blk b9 (enc p51) 23) :: (.own s80 23 6 (encs (l20 ++ ([p59] : List (Vector Int 6))))) :: (.own Sl.nil 23 6 (encs ([] : List (Vector Int 6)))) :: L) (List.Sublist.cons _ (List.Sublist.cons _ (List.Sublist.cons _ (List.Sublist.cons_cons _ (List.Sublist.cons_cons _ (List.Sublist.cons_cons _ (List.Sublist.cons_cons _ (List.Sublist.cons_cons _ (List.Sublist.refl _))))))))) ?_
  exact At.meet (i15 + 1, k15, y66, p64, p51, s80, l20 ++ ([p59] : List (Vector Int 6))) (FLe.trans (FLe.trans hF22 hF44) hF75) ⟨rfl, rfl, rfl, rfl, rfl, rfl, rfl, trivial⟩ rfl ⟨⟨hgo15 _ (some_inj H).symm, by omega⟩, Nat.lt_succ_self _⟩
set_option maxRecDepth 20000 in
theorem cut_vectors_sim {a0 : List Event} {s_a0 : Sl} {r : (Vector (List (Vector Int 6)) 6)} (H : cut_vectors a0 = some r) (w0 : World) (F : Frz) (M L : List Item) (hM : M.Sublist L) (hs_a0 : Rd w0 F M s_a0 a0) : Ok Try.prog w0 56 [Sl.v s_a0] F (L) (fun Fx L' v => ∃ (rs1 : Vector (LR (Vector Int 6)) 6), v = .agg (enc rs1).toArray ∧ L' = (.rows (α := Vector Int 6) 23 rs1.toList) :: L ∧ rs1.toList.map LR.v = r.toList) := by
  unfold cut_vectors at H
  refine Ok.enter (m := 1) (n := 35) Try.func56 rfl rfl rfl (by decide) ?_
  refine Cd.env (e' := [(0, Sl.v s_a0)]) rfl ?_
  refine Cd.seq ?_
  refine Cd.region ?_
  have hm1 : (Vector.replicate 6 ⟨[], Sl.nil⟩ : Vector (LR (Vector Int 6)) 6).toList.map LR.v = (Vector.replicate 6 [] : Vector (List (Vector Int 6)) 6).toList := vmap_rep _ _
  refine Lst.rowsNilV (Vector Int 6) 23 6 ?_
  refine Lst.alloc (cs := enc (Vector.replicate 6 ⟨[], Sl.nil⟩ : Vector (LR (Vector Int 6)) 6)) rfl rfl (by decide) Try.zeroValue90 rfl (fun b3 => ?_)
  refine Lst.nil ?_
  refine At.then ?_
  refine Cd.seq ?_
  refine Cd.region ?_
  have hm5 : (Vector.replicate 6 ⟨[], Sl.nil⟩ : Vector (LR (Vector Int 6)) 6).toList.map LR.v = (Vector.replicate 6 [] : Vector (List (Vector Int 6)) 6).toList := vmap_rep _ _
  refine Lst.rowsNilV (Vector Int 6) 23 6 ?_
  refine Lst.alloc (cs := enc (Vector.replicate 6 ⟨[], Sl.nil⟩ : Vector (LR (Vector Int 6)) 6)) rfl rfl (by decide) Try.zeroValue90 rfl (fun b7 => ?_)
  refine Lst.nil ?_
  refine At.then ?_
  refine Cd.seq ?_
  refine Cd.region ?_
  refine Lst.run rfl rfl (by decide) (Ev.move rfl) ?_
  obtain ⟨r9, h10, H⟩ := bind_some H
  refine Lst.call rfl rfl (by decide) (vs := [Sl.v s_a0]) ⟨rfl, trivial⟩ Try.call15 (vect_Vectors_sim h10 w0 _ M _ (List.Sublist.cons _ (List.Sublist.cons _ (List.Sublist.cons _ (List.Sublist.cons _ hM)))) (hs_a0.mono (FLe.refl _) (List.Sublist.refl _))) (fun F13 L' v hF14 hv => ?_)
  obtain ⟨s11, rfl, rfl⟩ := hv
  refine Lst.run rfl rfl (by decide) (Ev.move rfl) ?_
  refine Lst.run rfl rfl (by decide) (Ev.extract rfl rfl) ?_
  refine Lst.run rfl rfl (by decide) (Ev.extract rfl rfl) ?_
  refine Lst.run rfl rfl (by decide) (Ev.assign rfl) ?_
  refine Lst.run rfl rfl (by decide) (Ev.assign rfl) ?_
  refine Lst.nil ?_
  refine At.then ?_
  refine Cd.seq ?_
  refine Cd.seq ?_
  refine Cd.region ?_
  refine Lst.run rfl rfl (by decide) (Ev.move rfl) ?_
  refine Lst.run rfl rfl (by decide) (Ev.lenS (α := Event) (xs := a0) (by decide) rfl rfl Try.runUnderlying24 (hs_a0.mono hF14 (List.Sublist.cons _ (List.Sublist.cons _ (List.Sublist.cons _ (List.Sublist.cons _ (List.Sublist.cons _ hM))))))) ?_
  refine Lst.run rfl rfl (by decide) (Ev.move rfl) ?_
  refine Lst.nil ?_
  refine At.then ?_
  refine Cd.block ?_
  refine Cd.front (i := 4) rfl (L' := (.rows (α := Vector Int 6) 23 ((Vector.replicate 6 ⟨[], Sl.nil⟩ : Vector (LR (Vector Int 6)) 6).toList)) :: (.own s11 23 6 (encs r9.1)) :: (.blk b7 (enc (Vector.replicate 6 ⟨[], Sl.nil⟩ : Vector (LR (Vector Int 6)) 6)) 90) :: (.rows (α := Vector Int 6) 23 ((Vector.replicate 6 ⟨[], Sl.nil⟩ : Vector (LR (Vector Int 6)) 6).toList)) :: (.blk b3 (enc (Vector.replicate 6 ⟨[], Sl.nil⟩ : Vector (LR (Vector Int 6)) 6)) 90) :: L) rfl ?_
  refine Cd.front (i := 4) rfl (L' := (.blk b3 (enc (Vector.replicate 6 ⟨[], Sl.nil⟩ : Vector (LR (Vector Int 6)) 6)) 90) :: (.rows (α := Vector Int 6) 23 ((Vector.replicate 6 ⟨[], Sl.nil⟩ : Vector (LR (Vector Int 6)) 6).toList)) :: (.own s11 23 6 (encs r9.1)) :: (.blk b7 (enc (Vector.replicate 6 ⟨[], Sl.nil⟩ : Vector (LR (Vector Int 6)) 6)) 90) :: (.rows (α := Vector Int 6) 23 ((Vector.replicate 6 ⟨[], Sl.nil⟩ : Vector (LR (Vector Int 6)) 6).toList)) :: L) rfl ?_
  refine Cd.front (i := 3) rfl (L' := (.blk b7 (enc (Vector.replicate 6 ⟨[], Sl.nil⟩ : Vector (LR (Vector Int 6)) 6)) 90) :: (.blk b3 (enc (Vector.replicate 6 ⟨[], Sl.nil⟩ : Vector (LR (Vector Int 6)) 6)) 90) :: (.rows (α := Vector Int 6) 23 ((Vector.replicate 6 ⟨[], Sl.nil⟩ : Vector (LR (Vector Int 6)) 6).toList)) :: (.own s11 23 6 (encs r9.1)) :: (.rows (α := Vector Int 6) 23 ((Vector.replicate 6 ⟨[], Sl.nil⟩ : Vector (LR (Vector Int 6)) 6).toList)) :: L) rfl ?_
  refine Cd.front (i := 3) rfl (L' := (.own s11 23 6 (encs r9.1)) :: (.blk b7 (enc (Vector.replicate 6 ⟨[], Sl.nil⟩ : Vector (LR (Vector Int 6)) 6)) 90) :: (.blk b3 (enc (Vector.replicate 6 ⟨[], Sl.nil⟩ : Vector (LR (Vector Int 6)) 6)) 90) :: (.rows (α := Vector Int 6) 23 ((Vector.replicate 6 ⟨[], Sl.nil⟩ : Vector (LR (Vector Int 6)) 6).toList)) :: (.rows (α := Vector Int 6) 23 ((Vector.replicate 6 ⟨[], Sl.nil⟩ : Vector (LR (Vector Int 6)) 6).toList)) :: L) rfl ?_
  refine Cd.front (i := 4) rfl (L' := (.rows (α := Vector Int 6) 23 ((Vector.replicate 6 ⟨[], Sl.nil⟩ : Vector (LR (Vector Int 6)) 6).toList)) :: (.own s11 23 6 (encs r9.1)) :: (.blk b7 (enc (Vector.replicate 6 ⟨[], Sl.nil⟩ : Vector (LR (Vector Int 6)) 6)) 90) :: (.blk b3 (enc (Vector.replicate 6 ⟨[], Sl.nil⟩ : Vector (LR (Vector Int 6)) 6)) 90) :: (.rows (α := Vector Int 6) 23 ((Vector.replicate 6 ⟨[], Sl.nil⟩ : Vector (LR (Vector Int 6)) 6).toList)) :: L) rfl ?_
  refine Cd.bound (Rd.le (α := Event) (xs := a0) (by decide) (hs_a0.mono hF14 (List.Sublist.cons _ (List.Sublist.cons _ (List.Sublist.cons _ (List.Sublist.cons _ (List.Sublist.cons _ hM))))))) (fun hN59 => ?_)
  obtain ⟨ol15, H, HKl15⟩ := bind_some H
  refine Cd.loop (σ := Nat × Nat × (Vector (LR (Vector Int 6)) 6) × (Vector (List (Vector Int 6)) 6)) (fun (i15, k15, rs16, l17) => [(2, .pointer (some ⟨b3, 0, none⟩)), (3, .pointer (some ⟨b7, 0, none⟩)), (4, Sl.v s11), (13, Sl.v s_a0), (14, .int .i64 (a0.length : Int)), (15, .int .i64 (i15 : Int))]) (fun (i15, k15, rs16, l17) => (.rows (α := Vector Int 6) 23 rs16.toList) :: (.own s11 23 6 (encs r9.1)) :: (.blk b7 (enc rs16) 90) :: (.blk b3 (enc (Vector.replicate 6 ⟨[], Sl.nil⟩ : Vector (LR (Vector Int 6)) 6)) 90) :: (.rows (α := Vector Int 6) 23 ((Vector.replicate 6 ⟨[], Sl.nil⟩ : Vector (LR (Vector Int 6)) 6).toList)) :: L) (fun Fx => (fun (i15, k15, rs16, l17) => rangeF (cut_vectors_B0 a0 r9) k15 i15 l17 = some ol15 ∧ i15 + k15 = a0.length ∧ rs16.toList.map LR.v = l17.toList)) (fun (i15, k15, rs16, l17) => k15) (0, a0.length, (Vector.replicate 6 ⟨[], Sl.nil⟩ : Vector (LR (Vector Int 6)) 6), (Vector.replicate 6 [] : Vector (List (Vector Int 6)) 6)) ⟨rfl, rfl, rfl, rfl, rfl, rfl, trivial⟩ rfl ⟨H, by omega, hm5⟩ ?_
  rintro F20 ⟨i15, k15, rs16, l17⟩ hF21 ⟨H, hik15, fm18⟩
  refine Cd.as (e' := [(2, .pointer (some ⟨b3, 0, none⟩)), (3, .pointer (some ⟨b7, 0, none⟩)), (4, Sl.v s11), (13, Sl.v s_a0), (14, .int .i64 (a0.length : Int)), (15, .int .i64 (i15 : Int))]) (L' := (.rows (α := Vector Int 6) 23 rs16.toList) :: (.own s11 23 6 (encs r9.1)) :: (.blk b7 (enc rs16) 90) :: (.blk b3 (enc (Vector.replicate 6 ⟨[], Sl.nil⟩ : Vector (LR (Vector Int 6)) 6)) 90) :: (.rows (α := Vector Int 6) 23 ((Vector.replicate 6 ⟨[], Sl.nil⟩ : Vector (LR (Vector Int 6)) 6).toList)) :: L) ⟨rfl, rfl, rfl, rfl, rfl, rfl, trivial⟩ rfl ?_
  rcases k15 with _ | k15
  · have hc15 : decide ((i15 : Int) < (a0.length : Int)) = false := decide_eq_false (by omega)
    replace H := rangeF_end H
    refine Cd.seq ?_
    refine Cd.region ?_
    refine Lst.run rfl rfl (by decide) (Ev.lss rfl rfl) ?_
    refine Lst.nil ?_
    refine At.then ?_
    refine Cd.seq ?_
    refine Cd.condF rfl hc15 ?_
    refine Cd.exit ?_
    refine At.then_exit ?_
    refine At.then_exit ?_
    refine At.in_exit ?_
    subst H
    replace H := HKl15
    refine At.then ?_
    refine Cd.seq ?_
    refine Cd.region ?_
    refine Lst.run rfl rfl (by decide) (Ev.loadA (i := 2) rfl rfl Try.isAgg90 Try.sizeOf90 (ch := enc rs16) (Enc.len _) (Get.here _)) ?_
    refine Lst.store (i := 3) rfl rfl rfl rfl rfl Try.sizeOf90 (vs := enc rs16) rfl (Enc.len _) (Enc.one _) (cs' := enc rs16) (Put.here ((Enc.len _).trans (Enc.len _).symm)) (L' := (.rows (α := Vector Int 6) 23 rs16.toList) :: (.own s11 23 6 (encs r9.1)) :: (.blk b7 (enc rs16) 90) :: (.blk b3 (enc rs16) 90) :: (.rows (α := Vector Int 6) 23 ((Vector.replicate 6 ⟨[], Sl.nil⟩ : Vector (LR (Vector Int 6)) 6).toList)) :: L) rfl ?_
    refine Lst.nil ?_
    refine At.then ?_
    obtain rfl := some_inj H
    refine Cd.ret ?_
    exact At.ret1 rfl (Res.cellA (i := 3) rfl rfl Try.isAgg90 Try.sizeOf90 (Enc.len _)) (FLe.trans hF14 hF21) (List.Sublist.cons_cons _ (List.Sublist.cons _ (List.Sublist.cons _ (List.Sublist.cons _ (List.Sublist.cons _ (List.Sublist.refl _)))))) ⟨rs16, rfl, rfl, fm18⟩
  have hc15 : decide ((i15 : Int) < (a0.length : Int)) = true := decide_eq_true (by omega)
  obtain ⟨c15, H, hgo15⟩ := rangeF_go H
  unfold cut_vectors_B0 at H
  try dsimp only at H
  refine Cd.seq ?_
  refine Cd.region ?_
  refine Lst.run rfl rfl (by decide) (Ev.lss rfl rfl) ?_
  refine Lst.nil ?_
  refine At.then ?_
  refine Cd.seq ?_
  refine Cd.condT rfl hc15 ?_
  refine Cd.skip ?_
  refine At.then ?_
  refine Cd.seq ?_
  refine Cd.block ?_
  refine Cd.seq ?_
  refine Cd.region ?_
  refine Lst.run rfl rfl (by decide) (Ev.move rfl) ?_
  obtain ⟨x22, h23, H⟩ := bind_some H
  have g24 := lat_some h23
  refine Lst.run rfl rfl (by decide) (Ev.indexS (α := Event) (xs := a0) rfl rfl Try.runUnderlying24 Try.sizeOf75 rfl (by decide) (hs_a0.mono (FLe.trans hF14 hF21) (List.Sublist.cons _ (List.Sublist.cons _ (List.Sublist.cons _ (List.Sublist.cons _ (List.Sublist.cons _ hM)))))) g24.1 g24.2.1) ?_
  refine Lst.run rfl rfl (by decide) (Ev.loadSA (α := Event) rfl (hs_a0.mono (FLe.trans hF14 hF21) (List.Sublist.cons _ (List.Sublist.cons _ (List.Sublist.cons _ (List.Sublist.cons _ (List.Sublist.cons _ hM)))))) Try.isAgg75 Try.sizeOf75 (ch := enc x22) (Enc.len _) (by decide) ((Get.elemN (s := 3) (x := x22) rfl g24.2.2 (Get.here _)).off (by omega))) ?_
  refine Lst.alloc (cs := enc Event.zero) rfl rfl (by decide) Try.zeroValue75 rfl (fun b25 => ?_)
  refine Lst.run rfl rfl (by decide) (Ev.assign rfl) ?_
  refine Lst.store (i := 0) rfl rfl rfl rfl rfl Try.sizeOf75 (vs := enc x22) rfl (Enc.len _) (Enc.one _) (cs' := enc x22) (Put.here ((Enc.len _).trans (Enc.len _).symm)) (L' := (.blk b25 (enc x22) 75) :: (.rows (α := Vector Int 6) 23 rs16.toList) :: (.own s11 23 6 (encs r9.1)) :: (.blk b7 (enc rs16) 90) :: (.blk b3 (enc (Vector.replicate 6 ⟨[], Sl.nil⟩ : Vector (LR (Vector Int 6)) 6)) 90) :: (.rows (α := Vector Int 6) 23 ((Vector.replicate 6 ⟨[], Sl.nil⟩ : Vector (LR (Vector Int 6)) 6).toList)) :: L) rfl ?_
  refine Lst.nil ?_
  refine At.then ?_
  obtain ⟨x27, h28, H⟩ := bind_some H
  obtain ⟨x31, h32, H⟩ := bind_some H
  obtain ⟨u37, h38, H⟩ := bind_some H
  obtain ⟨o43, h44, H⟩ := Let_some H
  refine Cd.headMeet (σ := Sl × (List (Vector Int 6))) 12 (fun (s41, l42) => [(2, .pointer (some ⟨b3, 0, none⟩)), (3, .pointer (some ⟨b7, 0, none⟩)), (4, Sl.v s11), (13, Sl.v s_a0), (14, .int .i64 (a0.length : Int)), (15, .int .i64 (i15 : Int)), (21, .int .i64 x22.Proc), (31, Sl.v s41)]) (fun (s41, l42) => (.own s41 23 6 (encs l42)) :: (.rows (α := Vector Int 6) 23 (rs16.toList.set x22.Proc.toNat ⟨[], Sl.nil⟩)) :: (.blk b25 (enc x22) 75) :: (.own s11 23 6 (encs r9.1)) :: (.blk b7 (enc rs16) 90) :: (.blk b3 (enc (Vector.replicate 6 ⟨[], Sl.nil⟩ : Vector (LR (Vector Int 6)) 6)) 90) :: (.rows (α := Vector Int 6) 23 ((Vector.replicate 6 ⟨[], Sl.nil⟩ : Vector (LR (Vector Int 6)) 6).toList)) :: L) (fun _ (s41, l42) => l42 = o43) (by kernel_rfl) (by kernel_rfl) (behind_sink (by kernel_rfl) (by kernel_rfl) (by kernel_rfl)) (by kernel_rfl) (fun hsel hlt => ?_) ?_
  · refine HdJ.keep (fun w => St w0 F20 ((.blk b25 (enc x22) 75) :: (.own s11 23 6 (encs r9.1)) :: (.blk b7 (enc rs16) 90) :: (.blk b3 (enc (Vector.replicate 6 ⟨[], Sl.nil⟩ : Vector (LR (Vector Int 6)) 6)) 90) :: (.rows (α := Vector Int 6) 23 ((Vector.replicate 6 ⟨[], Sl.nil⟩ : Vector (LR (Vector Int 6)) 6).toList)) :: L) w) (fun w h => trivial) ?_
    refine HdJ.takeK hsel hlt 0 (fun w h => h.sublist (List.Sublist.cons_cons _ (List.Sublist.cons _ (List.Sublist.cons_cons _ (List.Sublist.cons_cons _ (List.Sublist.cons_cons _ (List.Sublist.cons_cons _ (List.Sublist.refl _)))))))) rfl rfl (by decide) (by decide) (by kernel_rfl) (by kernel_rfl) rfl (Ev.fieldAddr (off' := 0) rfl Try.runUnderlying75 rfl Try.sizeOf3 rfl rfl) ?_
    refine HdJ.takeK hsel hlt 1 (fun w h => h.sublist (List.Sublist.cons_cons _ (List.Sublist.cons _ (List.Sublist.cons_cons _ (List.Sublist.cons_cons _ (List.Sublist.cons_cons _ (List.Sublist.cons_cons _ (List.Sublist.refl _)))))))) rfl rfl (by decide) (by decide) (by kernel_rfl) (by kernel_rfl) rfl (Ev.load (i := 0) rfl rfl Try.isAgg3 (v := .int .i64 x22.Proc) ((Event.get_Proc (Get.here _)).off (by rfl))) ?_
    refine HdJ.takeK hsel hlt 2 (fun w h => h.sublist (List.Sublist.cons_cons _ (List.Sublist.cons _ (List.Sublist.cons_cons _ (List.Sublist.cons_cons _ (List.Sublist.cons_cons _ (List.Sublist.cons_cons _ (List.Sublist.refl _)))))))) rfl rfl (by decide) (by decide) (by kernel_rfl) (by kernel_rfl) rfl (Ev.fieldAddr (off' := 0) rfl Try.runUnderlying75 rfl Try.sizeOf3 rfl rfl) ?_
    refine HdJ.takeK hsel hlt 3 (fun w h => h.sublist (List.Sublist.cons_cons _ (List.Sublist.cons _ (List.Sublist.cons_cons _ (List.Sublist.cons_cons _ (List.Sublist.cons_cons _ (List.Sublist.cons_cons _ (List.Sublist.refl _)))))))) rfl rfl (by decide) (by decide) (by kernel_rfl) (by kernel_rfl) rfl (Ev.load (i := 0) rfl rfl Try.isAgg3 (v := .int .i64 x22.Proc) ((Event.get_Proc (Get.here _)).off (by rfl))) ?_
    have g45 := vat_some h28
    obtain ⟨⟨r46v, r46h⟩, r46g, r46e, r46m, r46l⟩ := vmap_get fm18 g45.2.2
    obtain rfl : x27 = r46v := r46e.symm
    refine HdJ.takeK hsel hlt 4 (fun w h => h.sublist (List.Sublist.cons_cons _ (List.Sublist.cons _ (List.Sublist.cons_cons _ (List.Sublist.cons_cons _ (List.Sublist.cons_cons _ (List.Sublist.cons_cons _ (List.Sublist.refl _)))))))) rfl rfl (by decide) (by decide) (by kernel_rfl) (by kernel_rfl) rfl (Ev.indexAddr (off' := 0 + x22.Proc.toNat * 1) rfl rfl Try.runUnderlying90 Try.sizeOf28 g45.1 g45.2.1 rfl) ?_
    refine HdJ.takeK hsel hlt 5 (fun w h => h.sublist (List.Sublist.cons_cons _ (List.Sublist.cons _ (List.Sublist.cons_cons _ (List.Sublist.cons_cons _ (List.Sublist.cons_cons _ (List.Sublist.cons_cons _ (List.Sublist.refl _)))))))) rfl rfl (by decide) (by decide) (by kernel_rfl) (by kernel_rfl) rfl (Ev.load (i := 2) rfl rfl Try.isAgg28 (v := Sl.v r46h) ((Get.vecN (s := 1) rfl r46g (Get.here _)).off (by omega))) ?_
    refine HdJ.takeK hsel hlt 6 (fun w h => h.sublist (List.Sublist.cons_cons _ (List.Sublist.cons _ (List.Sublist.cons_cons _ (List.Sublist.cons_cons _ (List.Sublist.cons_cons _ (List.Sublist.cons_cons _ (List.Sublist.refl _)))))))) rfl rfl (by decide) (by decide) (by kernel_rfl) (by kernel_rfl) rfl (Ev.move rfl) ?_
    refine HdJ.takeK hsel hlt 7 (fun w h => h.sublist (List.Sublist.cons_cons _ (List.Sublist.cons _ (List.Sublist.cons_cons _ (List.Sublist.cons_cons _ (List.Sublist.cons_cons _ (List.Sublist.cons_cons _ (List.Sublist.refl _)))))))) rfl rfl (by decide) (by decide) (by kernel_rfl) (by kernel_rfl) rfl (Ev.move rfl) ?_
    have g47 := lat_some h32
    refine HdJ.takeK hsel hlt 8 (fun w h => h.sublist (List.Sublist.cons_cons _ (List.Sublist.cons _ (List.Sublist.cons_cons _ (List.Sublist.cons_cons _ (List.Sublist.cons_cons _ (List.Sublist.cons_cons _ (List.Sublist.refl _)))))))) rfl rfl (by decide) (by decide) (by kernel_rfl) (by kernel_rfl) rfl (Ev.indexS (α := Vector Int 6) (xs := r9.1) rfl rfl Try.runUnderlying28 Try.sizeOf23 rfl (by decide) (Rd.own (i := 1) rfl rfl rfl) g47.1 g47.2.1) ?_
    refine HdJ.takeK hsel hlt 9 (fun w h => h.sublist (List.Sublist.cons_cons _ (List.Sublist.cons _ (List.Sublist.cons_cons _ (List.Sublist.cons_cons _ (List.Sublist.cons_cons _ (List.Sublist.cons_cons _ (List.Sublist.refl _)))))))) rfl rfl (by decide) (by decide) (by kernel_rfl) (by kernel_rfl) rfl (Ev.loadSA (α := Vector Int 6) rfl (Rd.own (i := 1) rfl rfl rfl) Try.isAgg23 Try.sizeOf23 (ch := enc x31) (Enc.len _) (by decide) ((Get.elemN (s := 6) (x := x31) rfl g47.2.2 (Get.here _)).off (by omega))) ?_
    refine HdJ.step [10] (by kernel_rfl) rfl ?_
    refine HdStep.cons (by decide) rfl (fun inv => ?_) ?_
    · refine Lst.buildSlice (α := Vector Int 6) (xs := ([x31] : List (Vector Int 6))) (pv := [(0, .agg (enc x31).toArray)]) rfl rfl (by decide) ⟨rfl, rfl, trivial⟩ (run_buildSlice (α := Vector Int 6) (z0 := (Vector.replicate 6 (0 : Int))) (xs := ([x31] : List (Vector Int 6))) Try.runUnderlying28 Try.sizeOf23 Try.zeroValue23 rfl rfl rfl (by decide) rfl (fill_cons (cs := encs (List.replicate 1 (Vector.replicate 6 (0 : Int)))) (cs' := encs ((List.replicate 1 (Vector.replicate 6 (0 : Int))).set 0 x31)) (vs := enc x31) rfl rfl (Enc.len _) ((Put.elemN (s := 6) (i := 0) (x := (Vector.replicate 6 (0 : Int))) (y := x31) rfl rfl (Put.here ((Enc.len _).trans (Enc.len _).symm))).off rfl) fill_nil)) rfl rfl (by decide) (fun s48 _ => ?_)
      refine Lst.nil ?_
      refine At.hd inv (fun w h => (h.weaken (FLe.refl _)).sublist (List.Sublist.cons _ (List.Sublist.cons_cons _ (List.Sublist.cons _ (List.Sublist.cons_cons _ (List.Sublist.cons_cons _ (List.Sublist.cons_cons _ (List.Sublist.cons_cons _ (List.Sublist.refl _))))))))) ?_
      refine HdJ.step [11] (by kernel_rfl) rfl ?_
      refine HdStep.cons (by decide) rfl (fun inv => ?_) ?_
      · refine Lst.front (i := 2) rfl (L' := (.rows (α := Vector Int 6) 23 rs16.toList) :: (.own s48 23 6 (encs ([x31] : List (Vector Int 6)))) :: (.blk b25 (enc x22) 75) :: (.own s11 23 6 (encs r9.1)) :: (.blk b7 (enc rs16) 90) :: (.blk b3 (enc (Vector.replicate 6 ⟨[], Sl.nil⟩ : Vector (LR (Vector Int 6)) 6)) 90) :: (.rows (α := Vector Int 6) 23 ((Vector.replicate 6 ⟨[], Sl.nil⟩ : Vector (LR (Vector Int 6)) 6).toList)) :: L) rfl ?_
        refine Lst.rowOut (k := x22.Proc.toNat) r46l rfl ?_
        refine Lst.its (L' := (.own r46h 23 6 (encs x27)) :: (.rows (α := Vector Int 6) 23 (rs16.toList.set x22.Proc.toNat ⟨[], Sl.nil⟩)) :: (.own s48 23 6 (encs ([x31] : List (Vector Int 6)))) :: (.blk b25 (enc x22) 75) :: (.own s11 23 6 (encs r9.1)) :: (.blk b7 (enc rs16) 90) :: (.blk b3 (enc (Vector.replicate 6 ⟨[], Sl.nil⟩ : Vector (LR (Vector Int 6)) 6)) 90) :: (.rows (α := Vector Int 6) 23 ((Vector.replicate 6 ⟨[], Sl.nil⟩ : Vector (LR (Vector Int 6)) 6).toList)) :: L) rfl ?_
        refine Lst.append (i := 0) (α := Vector Int 6) (xs := x27) (ys := ([x31] : List (Vector Int 6))) rfl rfl (by decide) rfl rfl Try.runUnderlying28 Try.typeInfo23 rfl rfl rfl rfl rfl rfl (Rd.own (i := 2) rfl rfl rfl) rfl (room_some h38) rfl (fun s49 => ?_)
        refine Lst.its (L' := (.own s49 23 6 (encs (x27 ++ ([x31] : List (Vector Int 6))))) :: (.rows (α := Vector Int 6) 23 (rs16.toList.set x22.Proc.toNat ⟨[], Sl.nil⟩)) :: (.own s48 23 6 (encs ([x31] : List (Vector Int 6)))) :: (.blk b25 (enc x22) 75) :: (.own s11 23 6 (encs r9.1)) :: (.blk b7 (enc rs16) 90) :: (.blk b3 (enc (Vector.replicate 6 ⟨[], Sl.nil⟩ : Vector (LR (Vector Int 6)) 6)) 90) :: (.rows (α := Vector Int 6) 23 ((Vector.replicate 6 ⟨[], Sl.nil⟩ : Vector (LR (Vector Int 6)) 6).toList)) :: L) rfl ?_
        refine Lst.nil ?_
        refine At.hd inv (fun w h => (h.weaken (FLe.refl _)).sublist (List.Sublist.cons _ (List.Sublist.cons _ (List.Sublist.cons _ (List.Sublist.cons_cons _ (List.Sublist.cons_cons _ (List.Sublist.cons_cons _ (List.Sublist.cons_cons _ (List.Sublist.cons_cons _ (List.Sublist.refl _)))))))))) ?_
        refine HdJ.done (by kernel_rfl) ?_
        refine At.less (L' := (.own s49 23 6 (encs (x27 ++ ([x31] : List (Vector Int 6))))) :: (.rows (α := Vector Int 6) 23 (rs16.toList.set x22.Proc.toNat ⟨[], Sl.nil⟩)) :: (.blk b25 (enc x22) 75) :: (.own s11 23 6 (encs r9.1)) :: (.blk b7 (enc rs16) 90) :: (.blk b3 (enc (Vector.replicate 6 ⟨[], Sl.nil⟩ : Vector (LR (Vector Int 6)) 6)) 90) :: (.rows (α := Vector Int 6) 23 ((Vector.replicate 6 ⟨[], Sl.nil⟩ : Vector (LR (Vector Int 6)) 6).toList)) :: L) (List.Sublist.cons_cons _ (List.Sublist.cons_cons _ (List.Sublist.cons _ (List.Sublist.cons_cons _ (List.Sublist.cons_cons _ (List.Sublist.cons_cons _ (List.Sublist.cons_cons _ (List.Sublist.cons_cons _ (List.Sublist.refl _))))))))) ?_
        exact At.meetN (s49, x27 ++ ([x31] : List (Vector Int 6))) (FLe.refl _) ⟨rfl, rfl, rfl, rfl, rfl, rfl, rfl, rfl, trivial⟩ rfl h44
      exact trivial
    exact trivial
  rintro F50 ⟨s41, l42⟩ hF51 hy
  subst hy
  refine Lst.as (e' := [(2, .pointer (some ⟨b3, 0, none⟩)), (3, .pointer (some ⟨b7, 0, none⟩)), (4, Sl.v s11), (13, Sl.v s_a0), (14, .int .i64 (a0.length : Int)), (15, .int .i64 (i15 : Int)), (21, .int .i64 x22.Proc), (31, Sl.v s41)]) (L' := (.own s41 23 6 (encs l42)) :: (.rows (α := Vector Int 6) 23 (rs16.toList.set x22.Proc.toNat ⟨[], Sl.nil⟩)) :: (.blk b25 (enc x22) 75) :: (.own s11 23 6 (encs r9.1)) :: (.blk b7 (enc rs16) 90) :: (.blk b3 (enc (Vector.replicate 6 ⟨[], Sl.nil⟩ : Vector (LR (Vector Int 6)) 6)) 90) :: (.rows (α := Vector Int 6) 23 ((Vector.replicate 6 ⟨[], Sl.nil⟩ : Vector (LR (Vector Int 6)) 6).toList)) :: L) ⟨rfl, rfl, rfl, rfl, rfl, rfl, rfl, rfl, trivial⟩ rfl ?_
  obtain ⟨x52, h53, H⟩ := bind_some H
  have g54 := vat_some h53
  obtain ⟨⟨r55v, r55h⟩, r55g, r55e, r55m, r55l⟩ := vmap_get fm18 g54.2.2
  obtain rfl : x52 = r55v := r55e.symm
  refine Lst.run rfl rfl (by decide) (Ev.indexAddr (off' := 0 + x22.Proc.toNat * 1) rfl rfl Try.runUnderlying90 Try.sizeOf28 g54.1 g54.2.1 rfl) ?_
  obtain ⟨p56, h57, H⟩ := Let_some H
  have hm58 : (rs16.setIfInBounds x22.Proc.toNat (LR.mk l42 s41)).toList.map LR.v = p56.toList := (vmap_set fm18 _ _).trans (congrArg Vector.toList h57)
  refine Lst.store (i := 4) rfl rfl rfl rfl rfl Try.sizeOf28 (vs := [Sl.v s41]) rfl rfl rfl (cs' := enc (rs16.setIfInBounds x22.Proc.toNat (LR.mk l42 s41))) ((Put.vecN (s := 1) (y := (LR.mk l42 s41)) rfl r55g (Put.here (vs := [Sl.v s41]) rfl)).off (by omega)) (L' := (.own s41 23 6 (encs l42)) :: (.rows (α := Vector Int 6) 23 (rs16.toList.set x22.Proc.toNat ⟨[], Sl.nil⟩)) :: (.blk b25 (enc x22) 75) :: (.own s11 23 6 (encs r9.1)) :: (.blk b7 (enc (rs16.setIfInBounds x22.Proc.toNat (LR.mk l42 s41))) 90) :: (.blk b3 (enc (Vector.replicate 6 ⟨[], Sl.nil⟩ : Vector (LR (Vector Int 6)) 6)) 90) :: (.rows (α := Vector Int 6) 23 ((Vector.replicate 6 ⟨[], Sl.nil⟩ : Vector (LR (Vector Int 6)) 6).toList)) :: L) rfl ?_
  refine Lst.rowIn (k := x22.Proc.toNat) (by rw [List.getElem?_set_self (List.getElem?_eq_some_iff.1 r55l).1]) rfl ?_
  refine Lst.its (L' := (.rows (α := Vector Int 6) 23 ((rs16.setIfInBounds x22.Proc.toNat (LR.mk l42 s41)).toList)) :: (.blk b25 (enc x22) 75) :: (.own s11 23 6 (encs r9.1)) :: (.blk b7 (enc (rs16.setIfInBounds x22.Proc.toNat (LR.mk l42 s41))) 90) :: (.blk b3 (enc (Vector.replicate 6 ⟨[], Sl.nil⟩ : Vector (LR (Vector Int 6)) 6)) 90) :: (.rows (α := Vector Int 6) 23 ((Vector.replicate 6 ⟨[], Sl.nil⟩ : Vector (LR (Vector Int 6)) 6).toList)) :: L) (by rw [List.set_set, Vector.toList_setIfInBounds]) ?_
  refine Lst.nil ?_
  refine At.in_normal ?_
  refine At.then ?_
  refine Cd.region ?_
  refine Lst.run rfl rfl (by decide) (Ev.incr (by omega) rfl rfl) ?_
  refine Lst.run rfl rfl (by decide) (Ev.move rfl) ?_
  refine Lst.nil ?_
  refine At.less (L' := (.rows (α := Vector Int 6) 23 ((rs16.setIfInBounds x22.Proc.toNat (LR.mk l42 s41)).toList)) :: (.own s11 23 6 (encs r9.1)) :: (.blk b7 (enc (rs16.setIfInBounds x22.Proc.toNat (LR.mk l42 s41))) 90) :: (.blk b3 (enc (Vector.replicate 6 ⟨[], Sl.nil⟩ : Vector (LR (Vector Int 6)) 6)) 90) :: (.rows (α := Vector Int 6) 23 ((Vector.replicate 6 ⟨[], Sl.nil⟩ : Vector (LR (Vector Int 6)) 6).toList)) :: L) (List.Sublist.cons_cons _ (List.Sublist.cons _ (List.Sublist.cons_cons _ (List.Sublist.cons_cons _ (List.Sublist.cons_cons _ (List.Sublist.cons_cons _ (List.Sublist.refl _))))))) ?_
  exact At.meet (i15 + 1, k15, (rs16.setIfInBounds x22.Proc.toNat (LR.mk l42 s41)), p56) (FLe.trans hF21 hF51) ⟨rfl, rfl, rfl, rfl, rfl, rfl, trivial⟩ rfl ⟨⟨hgo15 _ (some_inj H).symm, by omega, hm58⟩, Nat.lt_succ_self _⟩
set_option maxRecDepth 20000 in
theorem cut_grown_sim {a0 : Vector (List (Vector Int 6)) 6} {a1 : Vector Int 6} {rs_a0 : Vector (LR (Vector Int 6)) 6} {r : (Vector Int 6)} (H : cut_grown a0 a1 = some r) (w0 : World) (F : Frz) (M L : List Item) (hM : M.Sublist L) (hm_a0 : rs_a0.toList.map LR.v = a0.toList) (ha_a0 : All LR.rel w0 F M rs_a0.toList) : Ok Try.prog w0 55 [.agg (enc rs_a0).toArray, .agg (enc a1).toArray] F (L) (Is (.agg (enc r).toArray) (L)) := by
  unfold cut_grown at H
  refine Ok.enter (m := 2) (n := 27) Try.func55 rfl rfl rfl (by decide) ?_
  refine Cd.env (e' := [(0, .agg (enc rs_a0).toArray), (1, .agg (enc a1).toArray)]) rfl ?_
  refine Cd.seq ?_
  refine Cd.region ?_
  refine Lst.box rfl rfl (by decide) rfl (cs := enc rs_a0) rfl (fun b1 => ?_)
  refine Lst.box rfl rfl (by decide) rfl (cs := enc a1) rfl (fun b3 => ?_)
  refine Lst.alloc (cs := enc (Vector.replicate 6 (0 : Int))) rfl rfl (by decide) Try.zeroValue23 rfl (fun b5 => ?_)
  refine Lst.nil ?_
  refine At.then ?_
  refine Cd.seq ?_
  refine Cd.region ?_
  refine Lst.run rfl rfl (by decide) (Ev.loadA (i := 1) rfl rfl Try.isAgg23 Try.sizeOf23 (ch := enc a1) (Enc.len _) (Get.here _)) ?_
  refine Lst.alloc (cs := enc (Vector.replicate 6 (0 : Int))) rfl rfl (by decide) Try.zeroValue23 rfl (fun b7 => ?_)
  refine Lst.store (i := 0) rfl rfl rfl rfl rfl Try.sizeOf23 (vs := enc a1) rfl (Enc.len _) (Enc.one _) (cs' := enc a1) (Put.here ((Enc.len _).trans (Enc.len _).symm)) (L' := (.blk b7 (enc a1) 23) :: (.blk b5 (enc (Vector.replicate 6 (0 : Int))) 23) :: (.blk b3 (enc a1) 23) :: (.blk b1 (enc rs_a0) 90) :: L) rfl ?_
  refine Lst.nil ?_
  refine At.then ?_
  refine Cd.seq ?_
  refine Cd.seq ?_
  refine Cd.region ?_
  refine Lst.run rfl rfl (by decide) (Ev.loadA (i := 2) rfl rfl Try.isAgg23 Try.sizeOf23 (ch := enc a1) (Enc.len _) (Get.here _)) ?_
  refine Lst.run rfl rfl (by decide) (Ev.move rfl) ?_
  refine Lst.nil ?_
  refine At.then ?_
  refine Cd.block ?_
  obtain ⟨ol9, H, HKl9⟩ := bind_some H
  refine Cd.loop (σ := Nat × Nat × (Vector Int 6)) (fun (i9, k9, y10) => [(2, .pointer (some ⟨b1, 0, none⟩)), (4, .pointer (some ⟨b5, 0, none⟩)), (5, .pointer (some ⟨b7, 0, none⟩)), (9, .agg (enc a1).toArray), (10, .int .i64 (i9 : Int))]) (fun (i9, k9, y10) => (.blk b7 (enc y10) 23) :: (.blk b5 (enc (Vector.replicate 6 (0 : Int))) 23) :: (.blk b3 (enc a1) 23) :: (.blk b1 (enc rs_a0) 90) :: L) (fun _ => (fun (i9, k9, y10) => rangeF (cut_grown_B0 a0 a1) k9 i9 y10 = some ol9 ∧ i9 + k9 = 6)) (fun (i9, k9, y10) => k9) (0, 6, a1) ⟨rfl, rfl, rfl, rfl, rfl, trivial⟩ rfl ⟨H, by omega⟩ ?_
  rintro F11 ⟨i9, k9, y10⟩ hF12 ⟨H, hik9⟩
  refine Cd.as (e' := [(2, .pointer (some ⟨b1, 0, none⟩)), (4, .pointer (some ⟨b5, 0, none⟩)), (5, .pointer (some ⟨b7, 0, none⟩)), (9, .agg (enc a1).toArray), (10, .int .i64 (i9 : Int))]) (L' := (.blk b7 (enc y10) 23) :: (.blk b5 (enc (Vector.replicate 6 (0 : Int))) 23) :: (.blk b3 (enc a1) 23) :: (.blk b1 (enc rs_a0) 90) :: L) ⟨rfl, rfl, rfl, rfl, rfl, trivial⟩ rfl ?_
  rcases k9 with _ | k9
  · have hc9 : decide ((i9 : Int) < (6 : Int)) = false := decide_eq_false (by omega)
    replace H := rangeF_end H
    refine Cd.seq ?_
    refine Cd.region ?_
    refine Lst.run rfl rfl (by decide) (Ev.lss rfl rfl) ?_
    refine Lst.nil ?_
    refine At.then ?_
    refine Cd.seq ?_
    refine Cd.condF rfl hc9 ?_
    refine Cd.exit ?_
    refine At.then_exit ?_
    refine At.then_exit ?_
    refine At.in_exit ?_
    subst H
    replace H := HKl9
    refine At.then ?_
    refine Cd.seq ?_
    refine Cd.region ?_
    refine Lst.run rfl rfl (by decide) (Ev.loadA (i := 0) rfl rfl Try.isAgg23 Try.sizeOf23 (ch := enc y10) (Enc.len _) (Get.here _)) ?_
    refine Lst.store (i := 1) rfl rfl rfl rfl rfl Try.sizeOf23 (vs := enc y10) rfl (Enc.len _) (Enc.one _) (cs' := enc y10) (Put.here ((Enc.len _).trans (Enc.len _).symm)) (L' := (.blk b7 (enc y10) 23) :: (.blk b5 (enc y10) 23) :: (.blk b3 (enc a1) 23) :: (.blk b1 (enc rs_a0) 90) :: L) rfl ?_
    refine Lst.nil ?_
    refine At.then ?_
    obtain rfl := some_inj H
    refine Cd.ret ?_
    exact At.ret1 rfl (Res.cellA (i := 1) rfl rfl Try.isAgg23 Try.sizeOf23 (Enc.len _)) hF12 (List.Sublist.cons _ (List.Sublist.cons _ (List.Sublist.cons _ (List.Sublist.cons _ (List.Sublist.refl _))))) ⟨rfl, rfl⟩
  have hc9 : decide ((i9 : Int) < (6 : Int)) = true := decide_eq_true (by omega)
  obtain ⟨c9, H, hgo9⟩ := rangeF_go H
  unfold cut_grown_B0 at H
  try dsimp only at H
  refine Cd.seq ?_
  refine Cd.region ?_
  refine Lst.run rfl rfl (by decide) (Ev.lss rfl rfl) ?_
  refine Lst.nil ?_
  refine At.then ?_
  refine Cd.seq ?_
  refine Cd.condT rfl hc9 ?_
  refine Cd.skip ?_
  refine At.then ?_
  refine Cd.seq ?_
  refine Cd.block ?_
  refine Cd.seq ?_
  refine Cd.region ?_
  refine Lst.run rfl rfl (by decide) (Ev.move rfl) ?_
  obtain ⟨x13, h14, H⟩ := bind_some H
  have g15 := vat_some h14
  refine Lst.run rfl rfl (by decide) (Ev.index1 rfl rfl Try.runUnderlying23 Try.isAgg3 Try.sizeOf3 g15.1 g15.2.1 rfl ((Get.vecN (s := 1) rfl g15.2.2 (Get.here _)).off (by omega))) ?_
  refine Lst.run rfl rfl (by decide) (Ev.assign rfl) ?_
  refine Lst.run rfl rfl (by decide) (Ev.assign rfl) ?_
  refine Lst.nil ?_
  refine At.then ?_
  refine Cd.seq ?_
  refine Cd.region ?_
  refine Lst.run rfl rfl (by decide) (Ev.move rfl) ?_
  refine Lst.run rfl rfl (by decide) (Ev.gtr rfl rfl) ?_
  refine Lst.nil ?_
  refine At.then ?_
  rcases (Bool.eq_false_or_eq_true (decide (x13 > (0 : Int)))).symm with hb16 | hb16
  · replace H := ite_f hb16 H
    refine Cd.condF rfl hb16 ?_
    refine Cd.skip ?_
    refine At.in_normal ?_
    refine At.then ?_
    refine Cd.region ?_
    refine Lst.run rfl rfl (by decide) (Ev.incr (by omega) rfl rfl) ?_
    refine Lst.run rfl rfl (by decide) (Ev.move rfl) ?_
    refine Lst.nil ?_
    exact At.meet (i9 + 1, k9, y10) hF12 ⟨rfl, rfl, rfl, rfl, rfl, trivial⟩ rfl ⟨⟨hgo9 _ (some_inj H).symm, by omega⟩, Nat.lt_succ_self _⟩
  replace H := ite_t hb16 H
  refine Cd.condT rfl hb16 ?_
  refine Cd.tail 9 (by kernel_rfl) (by kernel_rfl) ?_
  refine Qt.run rfl rfl (by decide) (Ev.loadA (i := 0) rfl rfl Try.isAgg23 Try.sizeOf23 (ch := enc y10) (Enc.len _) (Get.here _)) ?_
  refine Qt.run rfl rfl (by decide) (Ev.move rfl) ?_
  obtain ⟨x17, h18, H⟩ := bind_some H
  have g19 := vat_some h18
  obtain ⟨⟨r20v, r20h⟩, r20g, r20e, r20m, r20l⟩ := vmap_get hm_a0 g19.2.2
  obtain rfl : x17 = r20v := r20e.symm
  have r20q : Rd w0 _ _ r20h x17 := ha_a0 _ r20m
  refine Qt.run rfl rfl (by decide) (Ev.indexAddr (off' := 0 + (i9 : Int).toNat * 1) rfl rfl Try.runUnderlying90 Try.sizeOf28 g19.1 g19.2.1 rfl) ?_
  refine Qt.run rfl rfl (by decide) (Ev.load (i := 3) rfl rfl Try.isAgg28 (v := Sl.v r20h) ((Get.vecN (s := 1) rfl r20g (Get.here _)).off (by omega))) ?_
  refine Qt.run rfl rfl (by decide) (Ev.move rfl) ?_
  refine Qt.run rfl rfl (by decide) (Ev.sub rfl rfl) ?_
  obtain ⟨x21, h22, H⟩ := bind_some H
  have g23 := lat_some h22
  refine Qt.run rfl rfl (by decide) (Ev.indexS (α := Vector Int 6) (xs := x17) rfl rfl Try.runUnderlying28 Try.sizeOf23 rfl (by decide) (r20q.mono hF12 (List.Sublist.cons _ (List.Sublist.cons _ (List.Sublist.cons _ (List.Sublist.cons _ hM))))) g23.1 g23.2.1) ?_
  refine Qt.run rfl rfl (by decide) (Ev.loadSA (α := Vector Int 6) rfl (r20q.mono hF12 (List.Sublist.cons _ (List.Sublist.cons _ (List.Sublist.cons _ (List.Sublist.cons _ hM))))) Try.isAgg23 Try.sizeOf23 (ch := enc x21) (Enc.len _) (by decide) ((Get.elemN (s := 6) (x := x21) rfl g23.2.2 (Get.here _)).off (by omega))) ?_
  obtain ⟨r24, h25, H⟩ := bind_some H
  refine Qt.call rfl rfl (by decide) (vs := [.agg (enc y10).toArray, .agg (enc x21).toArray]) ⟨rfl, rfl, trivial⟩ Try.call10 (vect_Max_sim h25 w0 _ M _ (List.Sublist.cons _ (List.Sublist.cons _ (List.Sublist.cons _ (List.Sublist.cons _ hM))))) ?_
  refine Qt.tail ?_
  refine Lst.store (i := 0) rfl rfl rfl rfl rfl Try.sizeOf23 (vs := enc r24) rfl (Enc.len _) (Enc.one _) (cs' := enc r24) (Put.here ((Enc.len _).trans (Enc.len _).symm)) (L' := (.blk b7 (enc r24) 23) :: (.blk b5 (enc (Vector.replicate 6 (0 : Int))) 23) :: (.blk b3 (enc a1) 23) :: (.blk b1 (enc rs_a0) 90) :: L) rfl ?_
  refine Lst.nil ?_
  refine At.in_normal ?_
  refine At.then ?_
  refine Cd.as (e' := [(2, .pointer (some ⟨b1, 0, none⟩)), (4, .pointer (some ⟨b5, 0, none⟩)), (5, .pointer (some ⟨b7, 0, none⟩)), (9, .agg (enc a1).toArray), (10, .int .i64 (i9 : Int))]) (L' := (.blk b7 (enc r24) 23) :: (.blk b5 (enc (Vector.replicate 6 (0 : Int))) 23) :: (.blk b3 (enc a1) 23) :: (.blk b1 (enc rs_a0) 90) :: L) ⟨rfl, rfl, rfl, rfl, rfl, trivial⟩ rfl ?_
  refine Cd.region ?_
  refine Lst.run rfl rfl (by decide) (Ev.incr (by omega) rfl rfl) ?_
  refine Lst.run rfl rfl (by decide) (Ev.move rfl) ?_
  refine Lst.nil ?_
  exact At.meet (i9 + 1, k9, r24) hF12 ⟨rfl, rfl, rfl, rfl, rfl, trivial⟩ rfl ⟨⟨hgo9 _ (some_inj H).symm, by omega⟩, Nat.lt_succ_self _⟩
set_option maxRecDepth 20000 in
theorem cut_All_sim {fu : Nat} {a0 : List Event} {s_a0 : Sl} {r : (List (Vector Int 6)) × Int} (H : cut_All fu a0 = some r) (w0 : World) (F : Frz) (M L : List Item) (hM : M.Sublist L) (hs_a0 : Rd w0 F M s_a0 a0) : Ok Try.prog w0 35 [Sl.v s_a0] F (L) (fun _ L' v => ∃ (s1 : Sl), v = .tuple #[Sl.v s1, .int .i64 r.2] ∧ L' = (.own s1 23 6 (encs r.1)) :: L) := by
  unfold cut_All at H
  refine Ok.enter (m := 1) (n := 65) Try.func35 rfl rfl rfl (by decide) ?_
  refine Cd.env (e' := [(0, Sl.v s_a0)]) rfl ?_
  refine Cd.seq ?_
  refine Cd.region ?_
  refine Lst.addNil 23 6 ?_
  refine Lst.run rfl rfl (by decide) (Ev.assign rfl) ?_
  refine Lst.run rfl rfl (by decide) (Ev.assign rfl) ?_
  refine Lst.nil ?_
  refine At.then ?_
  refine Cd.seq ?_
  refine Cd.seq ?_
  refine Cd.region ?_
  refine Lst.run rfl rfl (by decide) (Ev.move rfl) ?_
  obtain ⟨r2, h3, H⟩ := bind_some H
  refine Lst.call1 rfl rfl (by decide) (vs := [Sl.v s_a0]) ⟨rfl, trivial⟩ Try.call22 (stamp_Check_sim h3 w0 _ M _ (List.Sublist.cons _ hM) (hs_a0.mono (FLe.refl _) (List.Sublist.refl _))) ?_
  refine Lst.run rfl rfl (by decide) (Ev.assign rfl) ?_
  refine Lst.nil ?_
  refine At.then ?_
  refine Cd.seq ?_
  refine Cd.region ?_
  refine Lst.run rfl rfl (by decide) (Ev.move rfl) ?_
  refine Lst.run rfl rfl (by decide) (Ev.neq rfl rfl) ?_
  refine Lst.nil ?_
  refine At.then ?_
  rcases Bool.eq_false_or_eq_true (r2 != (0 : Int)) with hb6 | hb6
  · replace H := ite_t hb6 H
    refine Cd.condT rfl hb6 ?_
    refine Cd.seq ?_
    refine Cd.region ?_
    refine Lst.run rfl rfl (by decide) (Ev.move rfl) ?_
    refine Lst.addNil 23 6 ?_
    refine Lst.run rfl rfl (by decide) (Ev.assign rfl) ?_
    refine Lst.run rfl rfl (by decide) (Ev.assign rfl) ?_
    refine Lst.nil ?_
    refine At.then ?_
    obtain rfl := some_inj H
    refine Cd.ret ?_
    refine At.then_ret ?_
    exact At.ret2 rfl (Res.tmp rfl) (Res.tmp rfl) (FLe.refl _) (List.Sublist.cons_cons _ (List.Sublist.cons _ (List.Sublist.refl _))) ⟨Sl.nil, rfl, rfl⟩
  replace H := ite_f hb6 H
  refine Cd.condF rfl hb6 ?_
  refine Cd.skip ?_
  refine At.then ?_
  refine Cd.seq ?_
  refine Cd.region ?_
  refine Lst.run rfl rfl (by decide) (Ev.move rfl) ?_
  obtain ⟨r8, h9, H⟩ := bind_some H
  refine Lst.call1 rfl rfl (by decide) (vs := [Sl.v s_a0]) ⟨rfl, trivial⟩ Try.call57 (cut_counts_sim h9 w0 _ M _ (List.Sublist.cons _ hM) (hs_a0.mono (FLe.refl _) (List.Sublist.refl _))) ?_
  refine Lst.alloc (cs := enc (Vector.replicate 6 (0 : Int))) rfl rfl (by decide) Try.zeroValue23 rfl (fun b12 => ?_)
  refine Lst.store (i := 0) rfl rfl rfl rfl rfl Try.sizeOf23 (vs := enc r8) rfl (Enc.len _) (Enc.one _) (cs' := enc r8) (Put.here ((Enc.len _).trans (Enc.len _).symm)) (L' := (.blk b12 (enc r8) 23) :: (.own Sl.nil 23 6 (encs ([] : List (Vector Int 6)))) :: L) rfl ?_
  refine Lst.nil ?_
  refine At.then ?_
  refine Cd.seq ?_
  refine Cd.region ?_
  refine Lst.run rfl rfl (by decide) (Ev.assign rfl) ?_
  refine Lst.nil ?_
  refine At.then ?_
  refine Cd.seq ?_
  refine Cd.seq ?_
  refine Cd.region ?_
  refine Lst.run rfl rfl (by decide) (Ev.loadA (i := 0) rfl rfl Try.isAgg23 Try.sizeOf23 (ch := enc r8) (Enc.len _) (Get.here _)) ?_
  refine Lst.run rfl rfl (by decide) (Ev.move rfl) ?_
  refine Lst.nil ?_
  refine At.then ?_
  refine Cd.block ?_
  obtain ⟨ol14, H, HKl14⟩ := bind_some H
  refine Cd.loop (σ := Nat × Nat × Int) (fun (i14, k14, y15) => [(0, Sl.v s_a0), (5, .pointer (some ⟨b12, 0, none⟩)), (6, .int .i64 y15), (20, .agg (enc r8).toArray), (21, .int .i64 (i14 : Int))]) (fun (i14, k14, y15) => (.blk b12 (enc r8) 23) :: (.own Sl.nil 23 6 (encs ([] : List (Vector Int 6)))) :: L) (fun _ => (fun (i14, k14, y15) => rangeF (cut_All_B0 r8) k14 i14 y15 = some ol14 ∧ i14 + k14 = 6)) (fun (i14, k14, y15) => k14) (0, 6, (1 : Int)) ⟨rfl, rfl, rfl, rfl, rfl, trivial⟩ rfl ⟨H, by omega⟩ ?_
  rintro F16 ⟨i14, k14, y15⟩ hF17 ⟨H, hik14⟩
  refine Cd.as (e' := [(0, Sl.v s_a0), (5, .pointer (some ⟨b12, 0, none⟩)), (6, .int .i64 y15), (20, .agg (enc r8).toArray), (21, .int .i64 (i14 : Int))]) (L' := (.blk b12 (enc r8) 23) :: (.own Sl.nil 23 6 (encs ([] : List (Vector Int 6)))) :: L) ⟨rfl, rfl, rfl, rfl, rfl, trivial⟩ rfl ?_
  rcases k14 with _ | k14
  · have hc14 : decide ((i14 : Int) < (6 : Int)) = false := decide_eq_false (by omega)
    replace H := rangeF_end H
    refine Cd.seq ?_
    refine Cd.region ?_
    refine Lst.run rfl rfl (by decide) (Ev.lss rfl rfl) ?_
    refine Lst.nil ?_
    refine At.then ?_
    refine Cd.seq ?_
    refine Cd.condF rfl hc14 ?_
    refine Cd.exit ?_
    refine At.then_exit ?_
    refine At.then_exit ?_
    refine At.in_exit ?_
    subst H
    replace H := HKl14
    refine At.then ?_
    refine Cd.seq ?_
    refine Cd.seq ?_
    refine Cd.region ?_
    refine Lst.run rfl rfl (by decide) (Ev.move rfl) ?_
    refine Lst.run rfl rfl (by decide) (Ev.gtr rfl rfl) ?_
    refine Lst.nil ?_
    refine At.then ?_
    rcases Bool.eq_false_or_eq_true (decide (y15 > (4096 : Int))) with hb21 | hb21
    · replace H := ite_t hb21 H
      refine Cd.condT rfl hb21 ?_
      refine Cd.seq ?_
      refine Cd.region ?_
      refine Lst.addNil 23 6 ?_
      refine Lst.run rfl rfl (by decide) (Ev.assign rfl) ?_
      refine Lst.run rfl rfl (by decide) (Ev.assign rfl) ?_
      refine Lst.nil ?_
      refine At.then ?_
      obtain rfl := some_inj H
      refine Cd.ret ?_
      refine At.then_ret ?_
      exact At.ret2 rfl (Res.tmp rfl) (Res.tmp rfl) hF17 (List.Sublist.cons_cons _ (List.Sublist.cons _ (List.Sublist.cons _ (List.Sublist.refl _)))) ⟨Sl.nil, rfl, rfl⟩
    replace H := ite_f hb21 H
    refine Cd.condF rfl hb21 ?_
    refine Cd.skip ?_
    refine At.then ?_
    refine Cd.seq ?_
    refine Cd.region ?_
    refine Lst.run rfl rfl (by decide) (Ev.move rfl) ?_
    obtain ⟨r23, h24, H⟩ := bind_some H
    refine Lst.call rfl rfl (by decide) (vs := [Sl.v s_a0]) ⟨rfl, trivial⟩ Try.call56 (cut_vectors_sim h24 w0 _ M _ (List.Sublist.cons _ (List.Sublist.cons _ hM)) (hs_a0.mono hF17 (List.Sublist.refl _))) (fun F28 L' v hF29 hv => ?_)
    obtain ⟨rs25, rfl, rfl, fm26⟩ := hv
    have hm30 : (Vector.replicate 6 ⟨[], Sl.nil⟩ : Vector (LR (Vector Int 6)) 6).toList.map LR.v = (Vector.replicate 6 [] : Vector (List (Vector Int 6)) 6).toList := vmap_rep _ _
    refine Lst.rowsNilV (Vector Int 6) 23 6 ?_
    refine Lst.alloc (cs := enc (Vector.replicate 6 ⟨[], Sl.nil⟩ : Vector (LR (Vector Int 6)) 6)) rfl rfl (by decide) Try.zeroValue90 rfl (fun b32 => ?_)
    refine Lst.store (i := 0) rfl rfl rfl rfl rfl Try.sizeOf90 (vs := enc rs25) rfl (Enc.len _) (Enc.one _) (cs' := enc rs25) (Put.here ((Enc.len _).trans (Enc.len _).symm)) (L' := (.blk b32 (enc rs25) 90) :: (.rows (α := Vector Int 6) 23 ((Vector.replicate 6 ⟨[], Sl.nil⟩ : Vector (LR (Vector Int 6)) 6).toList)) :: (.rows (α := Vector Int 6) 23 rs25.toList) :: (.blk b12 (enc r8) 23) :: (.own Sl.nil 23 6 (encs ([] : List (Vector Int 6)))) :: L) rfl ?_
    refine Lst.nil ?_
    refine At.then ?_
    refine Cd.seq ?_
    refine Cd.region ?_
    refine Lst.addNil 23 6 ?_
    refine Lst.run rfl rfl (by decide) (Ev.assign rfl) ?_
    refine Lst.nil ?_
    refine At.then ?_
    refine Cd.seq ?_
    refine Cd.region ?_
    refine Lst.alloc (cs := enc (Vector.replicate 6 (0 : Int))) rfl rfl (by decide) Try.zeroValue23 rfl (fun b35 => ?_)
    refine Lst.nil ?_
    refine At.then ?_
    refine Cd.seq ?_
    refine Cd.seq ?_
    refine Cd.region ?_
    refine Lst.run rfl rfl (by decide) (Ev.move rfl) ?_
    refine Lst.run rfl rfl (by decide) (Ev.move rfl) ?_
    refine Lst.nil ?_
    refine At.then ?_
    refine Cd.block ?_
    obtain ⟨nn43, hN91, H⟩ := bind_some H
    replace hN91 := upTo_some hN91
    obtain ⟨ol37, H, HKl37⟩ := bind_some H
    refine Cd.loop (σ := Nat × Nat × (Vector Int 6) × Sl × (List (Vector Int 6))) (fun (i37, k37, y38, s39, l40) => [(5, .pointer (some ⟨b12, 0, none⟩)), (9, .pointer (some ⟨b32, 0, none⟩)), (10, Sl.v s39), (11, .pointer (some ⟨b35, 0, none⟩)), (33, .int .i64 y15), (34, .int .i64 (i37 : Int))]) (fun (i37, k37, y38, s39, l40) => (.blk b35 (enc y38) 23) :: (.own s39 23 6 (encs l40)) :: (.blk b32 (enc rs25) 90) :: (.rows (α := Vector Int 6) 23 ((Vector.replicate 6 ⟨[], Sl.nil⟩ : Vector (LR (Vector Int 6)) 6).toList)) :: (.rows (α := Vector Int 6) 23 rs25.toList) :: (.blk b12 (enc r8) 23) :: (.own Sl.nil 23 6 (encs ([] : List (Vector Int 6)))) :: L) (fun _ => (fun (i37, k37, y38, s39, l40) => rangeF (cut_All_B2 fu r8 r23) k37 i37 (y38, l40) = some ol37 ∧ i37 + k37 = nn43)) (fun (i37, k37, y38, s39, l40) => k37) (0, nn43, (Vector.replicate 6 (0 : Int)), Sl.nil, ([] : List (Vector Int 6))) ⟨rfl, rfl, rfl, rfl, rfl, rfl, trivial⟩ rfl ⟨H, by omega⟩ ?_
    rintro F41 ⟨i37, k37, y38, s39, l40⟩ hF42 ⟨H, hik37⟩
    refine Cd.as (e' := [(5, .pointer (some ⟨b12, 0, none⟩)), (9, .pointer (some ⟨b32, 0, none⟩)), (10, Sl.v s39), (11, .pointer (some ⟨b35, 0, none⟩)), (33, .int .i64 y15), (34, .int .i64 (i37 : Int))]) (L' := (.blk b35 (enc y38) 23) :: (.own s39 23 6 (encs l40)) :: (.blk b32 (enc rs25) 90) :: (.rows (α := Vector Int 6) 23 ((Vector.replicate 6 ⟨[], Sl.nil⟩ : Vector (LR (Vector Int 6)) 6).toList)) :: (.rows (α := Vector Int 6) 23 rs25.toList) :: (.blk b12 (enc r8) 23) :: (.own Sl.nil 23 6 (encs ([] : List (Vector Int 6)))) :: L) ⟨rfl, rfl, rfl, rfl, rfl, rfl, trivial⟩ rfl ?_
    rcases k37 with _ | k37
    · have hc37 : decide ((i37 : Int) < y15) = false := decide_eq_false (by omega)
      replace H := rangeF_end H
      refine Cd.seq ?_
      refine Cd.region ?_
      refine Lst.run rfl rfl (by decide) (Ev.lss rfl rfl) ?_
      refine Lst.nil ?_
      refine At.then ?_
      refine Cd.seq ?_
      refine Cd.condF rfl hc37 ?_
      refine Cd.exit ?_
      refine At.then_exit ?_
      refine At.then_exit ?_
      refine At.in_exit ?_
      subst H
      replace H := HKl37
      refine At.then ?_
      refine Cd.seq ?_
      refine Cd.region ?_
      refine Lst.run rfl rfl (by decide) (Ev.move rfl) ?_
      refine Lst.run rfl rfl (by decide) (Ev.assign rfl) ?_
      refine Lst.run rfl rfl (by decide) (Ev.assign rfl) ?_
      refine Lst.nil ?_
      refine At.then ?_
      obtain rfl := some_inj H
      refine Cd.ret ?_
      exact At.ret2 rfl (Res.tmp rfl) (Res.tmp rfl) (FLe.trans (FLe.trans hF17 hF29) hF42) (List.Sublist.cons _ (List.Sublist.cons_cons _ (List.Sublist.cons _ (List.Sublist.cons _ (List.Sublist.cons _ (List.Sublist.cons _ (List.Sublist.cons _ (List.Sublist.refl _)))))))) ⟨s39, rfl, rfl⟩
    have hc37 : decide ((i37 : Int) < y15) = true := decide_eq_true (by omega)
    obtain ⟨c37, H, hgo37⟩ := rangeF_go H
    unfold cut_All_B2 at H
    try dsimp only at H
    refine Cd.seq ?_
    refine Cd.region ?_
    refine Lst.run rfl rfl (by decide) (Ev.lss rfl rfl) ?_
    refine Lst.nil ?_
    refine At.then ?_
    refine Cd.seq ?_
    refine Cd.condT rfl hc37 ?_
    refine Cd.skip ?_
    refine At.then ?_
    obtain ⟨o47, H, HKo47⟩ := bind_some H
    refine Cd.join (σ := (Vector Int 6) × Sl × (List (Vector Int 6))) (fun (y44, s45, l46) => [(5, .pointer (some ⟨b12, 0, none⟩)), (9, .pointer (some ⟨b32, 0, none⟩)), (10, Sl.v s45), (11, .pointer (some ⟨b35, 0, none⟩)), (33, .int .i64 y15), (34, .int .i64 (i37 : Int))]) (fun (y44, s45, l46) => (.blk b35 (enc y44) 23) :: (.own s45 23 6 (encs l46)) :: (.blk b32 (enc rs25) 90) :: (.rows (α := Vector Int 6) 23 ((Vector.replicate 6 ⟨[], Sl.nil⟩ : Vector (LR (Vector Int 6)) 6).toList)) :: (.rows (α := Vector Int 6) 23 rs25.toList) :: (.blk b12 (enc r8) 23) :: (.own Sl.nil 23 6 (encs ([] : List (Vector Int 6)))) :: L) (fun _ (y44, s45, l46) => (y44, l46) = o47) ?_ ?_
    · refine Cd.block ?_
      obtain ⟨o50, H, HKo50⟩ := bind_some H
      refine Cd.join (σ := Sl × (List (Vector Int 6))) (fun (s48, l49) => [(5, .pointer (some ⟨b12, 0, none⟩)), (9, .pointer (some ⟨b32, 0, none⟩)), (10, Sl.v s48), (11, .pointer (some ⟨b35, 0, none⟩)), (33, .int .i64 y15), (34, .int .i64 (i37 : Int))]) (fun (s48, l49) => (.blk b35 (enc y38) 23) :: (.own s48 23 6 (encs l49)) :: (.blk b32 (enc rs25) 90) :: (.rows (α := Vector Int 6) 23 ((Vector.replicate 6 ⟨[], Sl.nil⟩ : Vector (LR (Vector Int 6)) 6).toList)) :: (.rows (α := Vector Int 6) 23 rs25.toList) :: (.blk b12 (enc r8) 23) :: (.own Sl.nil 23 6 (encs ([] : List (Vector Int 6)))) :: L) (fun _ (s48, l49) => l49 = o50) ?_ ?_
      · refine Cd.seq ?_
        refine Cd.quiet (by kernel_rfl) (by kernel_rfl) ?_
        refine Qt.run rfl rfl (by decide) (Ev.loadA (i := 2) rfl rfl Try.isAgg90 Try.sizeOf90 (ch := enc rs25) (Enc.len _) (Get.here _)) ?_
        refine Qt.run rfl rfl (by decide) (Ev.loadA (i := 0) rfl rfl Try.isAgg23 Try.sizeOf23 (ch := enc y38) (Enc.len _) (Get.here _)) ?_
        obtain ⟨r51, h52, H⟩ := bind_some H
        refine Qt.call rfl rfl (by decide) (vs := [.agg (enc rs25).toArray, .agg (enc y38).toArray]) ⟨rfl, rfl, trivial⟩ Try.call55 (cut_grown_sim h52 w0 _ _ _ (List.Sublist.refl _) fm26 (All.rowsHead (j := 4) rfl)) ?_
        refine Qt.run rfl rfl (by decide) (Ev.loadA (i := 0) rfl rfl Try.isAgg23 Try.sizeOf23 (ch := enc y38) (Enc.len _) (Get.here _)) ?_
        refine Qt.run rfl rfl (by decide) (Ev.eqlA rfl rfl (by kernel_rfl) (eq23 _ _)) ?_
        refine Qt.done ?_
        refine At.then ?_
        rcases (Bool.eq_false_or_eq_true (decide (r51 = y38))).symm with hb55 | hb55
        · replace H := ite_f hb55 H
          refine Cd.condF rfl hb55 ?_
          refine Cd.skip ?_
          exact At.meet (s39, l40) (FLe.refl _) ⟨rfl, rfl, rfl, rfl, rfl, rfl, trivial⟩ rfl (some_inj H)
        replace H := ite_t hb55 H
        refine Cd.condT rfl hb55 ?_
        refine Cd.region ?_
        refine Lst.run rfl rfl (by decide) (Ev.move rfl) ?_
        refine Lst.run rfl rfl (by decide) (Ev.loadA (i := 0) rfl rfl Try.isAgg23 Try.sizeOf23 (ch := enc y38) (Enc.len _) (Get.here _)) ?_
        refine Lst.buildSlice (α := Vector Int 6) (xs := ([y38] : List (Vector Int 6))) (pv := [(0, .agg (enc y38).toArray)]) rfl rfl (by decide) ⟨rfl, rfl, trivial⟩ (run_buildSlice (α := Vector Int 6) (z0 := (Vector.replicate 6 (0 : Int))) (xs := ([y38] : List (Vector Int 6))) Try.runUnderlying28 Try.sizeOf23 Try.zeroValue23 rfl rfl rfl (by decide) rfl (fill_cons (cs := encs (List.replicate 1 (Vector.replicate 6 (0 : Int)))) (cs' := encs ((List.replicate 1 (Vector.replicate 6 (0 : Int))).set 0 y38)) (vs := enc y38) rfl rfl (Enc.len _) ((Put.elemN (s := 6) (i := 0) (x := (Vector.replicate 6 (0 : Int))) (y := y38) rfl rfl (Put.here ((Enc.len _).trans (Enc.len _).symm))).off rfl) fill_nil)) rfl rfl (by decide) (fun s56 _ => ?_)
        obtain ⟨u58, h59, H⟩ := bind_some H
        refine Lst.append (i := 2) (α := Vector Int 6) (xs := l40) (ys := ([y38] : List (Vector Int 6))) rfl rfl (by decide) rfl rfl Try.runUnderlying28 Try.typeInfo23 rfl rfl rfl rfl rfl rfl (Rd.own (i := 0) rfl rfl rfl) rfl (room_some h59) rfl (fun s60 => ?_)
        refine Lst.its (L' := (.own s56 23 6 (encs ([y38] : List (Vector Int 6)))) :: (.blk b35 (enc y38) 23) :: (.own s60 23 6 (encs (l40 ++ ([y38] : List (Vector Int 6))))) :: (.blk b32 (enc rs25) 90) :: (.rows (α := Vector Int 6) 23 ((Vector.replicate 6 ⟨[], Sl.nil⟩ : Vector (LR (Vector Int 6)) 6).toList)) :: (.rows (α := Vector Int 6) 23 rs25.toList) :: (.blk b12 (enc r8) 23) :: (.own Sl.nil 23 6 (encs ([] : List (Vector Int 6)))) :: L) rfl ?_
        refine Lst.run rfl rfl (by decide) (Ev.assign rfl) ?_
        refine Lst.nil ?_
        refine At.less (L' := (.blk b35 (enc y38) 23) :: (.own s60 23 6 (encs (l40 ++ ([y38] : List (Vector Int 6))))) :: (.blk b32 (enc rs25) 90) :: (.rows (α := Vector Int 6) 23 ((Vector.replicate 6 ⟨[], Sl.nil⟩ : Vector (LR (Vector Int 6)) 6).toList)) :: (.rows (α := Vector Int 6) 23 rs25.toList) :: (.blk b12 (enc r8) 23) :: (.own Sl.nil 23 6 (encs ([] : List (Vector Int 6)))) :: L) (List.Sublist.cons _ (List.Sublist.cons_cons _ (List.Sublist.cons_cons _ (List.Sublist.cons_cons _ (List.Sublist.cons_cons _ (List.Sublist.cons_cons _ (List.Sublist.cons_cons _ (List.Sublist.cons_cons _ (List.Sublist.refl _))))))))) ?_
        exact At.meet (s60, l40 ++ ([y38] : List (Vector Int 6))) (FLe.refl _) ⟨rfl, rfl, rfl, rfl, rfl, rfl, trivial⟩ rfl (some_inj H)
      rintro F61 ⟨s48, l49⟩ hF62 hy
      subst hy
      refine Cd.as (e' := [(5, .pointer (some ⟨b12, 0, none⟩)), (9, .pointer (some ⟨b32, 0, none⟩)), (10, Sl.v s48), (11, .pointer (some ⟨b35, 0, none⟩)), (33, .int .i64 y15), (34, .int .i64 (i37 : Int))]) (L' := (.blk b35 (enc y38) 23) :: (.own s48 23 6 (encs l49)) :: (.blk b32 (enc rs25) 90) :: (.rows (α := Vector Int 6) 23 ((Vector.replicate 6 ⟨[], Sl.nil⟩ : Vector (LR (Vector Int 6)) 6).toList)) :: (.rows (α := Vector Int 6) 23 rs25.toList) :: (.blk b12 (enc r8) 23) :: (.own Sl.nil 23 6 (encs ([] : List (Vector Int 6)))) :: L) ⟨rfl, rfl, rfl, rfl, rfl, rfl, trivial⟩ rfl ?_
      replace H := HKo50
      refine Cd.seq ?_
      refine Cd.region ?_
      refine Lst.run rfl rfl (by decide) (Ev.assign rfl) ?_
      refine Lst.nil ?_
      refine At.then ?_
      refine Cd.block ?_
      obtain ⟨ol63, H, HKl63⟩ := andThen_some H
      refine Cd.loop (σ := Nat × Int × (Vector Int 6)) (fun (k63, y64, y65) => [(5, .pointer (some ⟨b12, 0, none⟩)), (9, .pointer (some ⟨b32, 0, none⟩)), (10, Sl.v s48), (11, .pointer (some ⟨b35, 0, none⟩)), (12, .int .i64 y64), (33, .int .i64 y15), (34, .int .i64 (i37 : Int))]) (fun (k63, y64, y65) => (.blk b35 (enc y65) 23) :: (.own s48 23 6 (encs l49)) :: (.blk b32 (enc rs25) 90) :: (.rows (α := Vector Int 6) 23 ((Vector.replicate 6 ⟨[], Sl.nil⟩ : Vector (LR (Vector Int 6)) 6).toList)) :: (.rows (α := Vector Int 6) 23 rs25.toList) :: (.blk b12 (enc r8) 23) :: (.own Sl.nil 23 6 (encs ([] : List (Vector Int 6)))) :: L) (fun _ => (fun (k63, y64, y65) => whileM (cut_All_B4 r8) k63 (y64, y65) = some ol63)) (fun (k63, y64, y65) => k63) (fu, (5 : Int), y38) ⟨rfl, rfl, rfl, rfl, rfl, rfl, rfl, trivial⟩ rfl H ?_
      rintro F66 ⟨k63, y64, y65⟩ hF67 H
      refine Cd.as (e' := [(5, .pointer (some ⟨b12, 0, none⟩)), (9, .pointer (some ⟨b32, 0, none⟩)), (10, Sl.v s48), (11, .pointer (some ⟨b35, 0, none⟩)), (12, .int .i64 y64), (33, .int .i64 y15), (34, .int .i64 (i37 : Int))]) (L' := (.blk b35 (enc y65) 23) :: (.own s48 23 6 (encs l49)) :: (.blk b32 (enc rs25) 90) :: (.rows (α := Vector Int 6) 23 ((Vector.replicate 6 ⟨[], Sl.nil⟩ : Vector (LR (Vector Int 6)) 6).toList)) :: (.rows (α := Vector Int 6) 23 rs25.toList) :: (.blk b12 (enc r8) 23) :: (.own Sl.nil 23 6 (encs ([] : List (Vector Int 6)))) :: L) ⟨rfl, rfl, rfl, rfl, rfl, rfl, rfl, trivial⟩ rfl ?_
      rcases k63 with _ | k63
      · cases H
      obtain ⟨c63, H, hgo63, hbrk63, hret63⟩ := whileM_go H
      unfold cut_All_B4 at H
      try dsimp only at H
      refine Cd.seq ?_
      refine Cd.seq ?_
      refine Cd.region ?_
      refine Lst.run rfl rfl (by decide) (Ev.move rfl) ?_
      refine Lst.run rfl rfl (by decide) (Ev.geq rfl rfl) ?_
      refine Lst.nil ?_
      refine At.then ?_
      rcases (Bool.eq_false_or_eq_true (decide (y64 ≥ (0 : Int)))).symm with hb68 | hb68
      · replace H := ite_f hb68 H
        refine Cd.condF rfl hb68 ?_
        refine Cd.exit ?_
        refine At.then_exit ?_
        refine At.then_exit ?_
        refine At.in_exit ?_
        have H := hbrk63 _ (some_inj H).symm
        subst H
        replace H := HKl63
        refine At.in_normal ?_
        exact At.meet (y65, s48, l49) (FLe.trans hF62 hF67) ⟨rfl, rfl, rfl, rfl, rfl, rfl, trivial⟩ rfl (some_inj H)
      replace H := ite_t hb68 H
      refine Cd.condT rfl hb68 ?_
      refine Cd.skip ?_
      refine At.then ?_
      refine Cd.seq ?_
      refine Cd.block ?_
      refine Cd.seq ?_
      refine Cd.seq ?_
      refine Cd.quiet (by kernel_rfl) (by kernel_rfl) ?_
      refine Qt.run rfl rfl (by decide) (Ev.move rfl) ?_
      obtain ⟨x69, h70, H⟩ := bind_some H
      have g71 := vat_some h70
      refine Qt.run rfl rfl (by decide) (Ev.indexAddr (off' := 0 + y64.toNat * 1) rfl rfl Try.runUnderlying23 Try.sizeOf3 g71.1 g71.2.1 rfl) ?_
      refine Qt.run rfl rfl (by decide) (Ev.load (i := 0) rfl rfl Try.isAgg3 (v := .int .i64 x69) ((Get.vecN (s := 1) (x := x69) rfl g71.2.2 (Get.here _)).off (by omega))) ?_
      refine Qt.run rfl rfl (by decide) (Ev.move rfl) ?_
      obtain ⟨x72, h73, H⟩ := bind_some H
      have g74 := vat_some h73
      refine Qt.run rfl rfl (by decide) (Ev.indexAddr (off' := 0 + y64.toNat * 1) rfl rfl Try.runUnderlying23 Try.sizeOf3 g74.1 g74.2.1 rfl) ?_
      refine Qt.run rfl rfl (by decide) (Ev.load (i := 5) rfl rfl Try.isAgg3 (v := .int .i64 x72) ((Get.vecN (s := 1) (x := x72) rfl g74.2.2 (Get.here _)).off (by omega))) ?_
      refine Qt.run rfl rfl (by decide) (Ev.lss rfl rfl) ?_
      refine Qt.done ?_
      refine At.then ?_
      rcases Bool.eq_false_or_eq_true (decide (x69 < x72)) with hb75 | hb75
      · replace H := ite_t hb75 H
        refine Cd.condT rfl hb75 ?_
        refine Cd.seq ?_
        refine Cd.region ?_
        refine Lst.run rfl rfl (by decide) (Ev.move rfl) ?_
        obtain ⟨x76, h77, H⟩ := bind_some H
        have g78 := vat_some h77
        refine Lst.run rfl rfl (by decide) (Ev.indexAddr (off' := 0 + y64.toNat * 1) rfl rfl Try.runUnderlying23 Try.sizeOf3 g78.1 g78.2.1 rfl) ?_
        refine Lst.run rfl rfl (by decide) (Ev.load (i := 0) rfl rfl Try.isAgg3 (v := .int .i64 x76) ((Get.vecN (s := 1) (x := x76) rfl g78.2.2 (Get.here _)).off (by omega))) ?_
        refine Lst.run rfl rfl (by decide) (Ev.add rfl rfl) ?_
        obtain ⟨x79, h80, H⟩ := bind_some H
        have g81 := vat_some h80
        refine Lst.run rfl rfl (by decide) (Ev.indexAddr (off' := 0 + y64.toNat * 1) rfl rfl Try.runUnderlying23 Try.sizeOf3 g81.1 g81.2.1 rfl) ?_
        obtain ⟨p82, h83, H⟩ := Let_some H
        refine Lst.store (i := 0) rfl rfl rfl rfl rfl Try.sizeOf3 (vs := [.int .i64 (w64 (x76 + (1 : Int)))]) rfl rfl rfl (cs' := enc p82) (by rw [← h83]; exact (Put.vecN (s := 1) (x := x79) rfl g81.2.2 (Put.here (vs := [.int .i64 (w64 (x76 + (1 : Int)))]) rfl)).off (by omega)) (L' := (.blk b35 (enc p82) 23) :: (.own s48 23 6 (encs l49)) :: (.blk b32 (enc rs25) 90) :: (.rows (α := Vector Int 6) 23 ((Vector.replicate 6 ⟨[], Sl.nil⟩ : Vector (LR (Vector Int 6)) 6).toList)) :: (.rows (α := Vector Int 6) 23 rs25.toList) :: (.blk b12 (enc r8) 23) :: (.own Sl.nil 23 6 (encs ([] : List (Vector Int 6)))) :: L) rfl ?_
        refine Lst.nil ?_
        refine At.then ?_
        refine Cd.exit ?_
        refine At.then_exit ?_
        refine At.in_other rfl ?_
        refine At.then_exit ?_
        refine At.then_exit ?_
        refine At.in_exit ?_
        have H := hbrk63 _ (some_inj H).symm
        subst H
        replace H := HKl63
        refine At.in_normal ?_
        exact At.meet (p82, s48, l49) (FLe.trans hF62 hF67) ⟨rfl, rfl, rfl, rfl, rfl, rfl, trivial⟩ rfl (some_inj H)
      replace H := ite_f hb75 H
      refine Cd.condF rfl hb75 ?_
      refine Cd.skip ?_
      refine At.then ?_
      refine Cd.region ?_
      refine Lst.run rfl rfl (by decide) (Ev.move rfl) ?_
      obtain ⟨x84, h85, H⟩ := bind_some H
      have g86 := vat_some h85
      refine Lst.run rfl rfl (by decide) (Ev.indexAddr (off' := 0 + y64.toNat * 1) rfl rfl Try.runUnderlying23 Try.sizeOf3 g86.1 g86.2.1 rfl) ?_
      obtain ⟨p87, h88, H⟩ := Let_some H
      refine Lst.store (i := 0) rfl rfl rfl rfl rfl Try.sizeOf3 (vs := [.int .i64 (0 : Int)]) rfl rfl rfl (cs' := enc p87) (by rw [← h88]; exact (Put.vecN (s := 1) (x := x84) rfl g86.2.2 (Put.here (vs := [.int .i64 (0 : Int)]) rfl)).off (by omega)) (L' := (.blk b35 (enc p87) 23) :: (.own s48 23 6 (encs l49)) :: (.blk b32 (enc rs25) 90) :: (.rows (α := Vector Int 6) 23 ((Vector.replicate 6 ⟨[], Sl.nil⟩ : Vector (LR (Vector Int 6)) 6).toList)) :: (.rows (α := Vector Int 6) 23 rs25.toList) :: (.blk b12 (enc r8) 23) :: (.own Sl.nil 23 6 (encs ([] : List (Vector Int 6)))) :: L) rfl ?_
      refine Lst.nil ?_
      refine At.in_normal ?_
      refine At.then ?_
      refine Cd.region ?_
      refine Lst.run rfl rfl (by decide) (Ev.move rfl) ?_
      refine Lst.run rfl rfl (by decide) (Ev.sub rfl rfl) ?_
      refine Lst.run rfl rfl (by decide) (Ev.assign rfl) ?_
      refine Lst.nil ?_
      exact At.meet (k63, w64 (y64 - (1 : Int)), p87) hF67 ⟨rfl, rfl, rfl, rfl, rfl, rfl, rfl, trivial⟩ rfl ⟨hgo63 _ (some_inj H).symm, Nat.lt_succ_self _⟩
    rintro F89 ⟨y44, s45, l46⟩ hF90 hy
    subst hy
    refine Cd.as (e' := [(5, .pointer (some ⟨b12, 0, none⟩)), (9, .pointer (some ⟨b32, 0, none⟩)), (10, Sl.v s45), (11, .pointer (some ⟨b35, 0, none⟩)), (33, .int .i64 y15), (34, .int .i64 (i37 : Int))]) (L' := (.blk b35 (enc y44) 23) :: (.own s45 23 6 (encs l46)) :: (.blk b32 (enc rs25) 90) :: (.rows (α := Vector Int 6) 23 ((Vector.replicate 6 ⟨[], Sl.nil⟩ : Vector (LR (Vector Int 6)) 6).toList)) :: (.rows (α := Vector Int 6) 23 rs25.toList) :: (.blk b12 (enc r8) 23) :: (.own Sl.nil 23 6 (encs ([] : List (Vector Int 6)))) :: L) ⟨rfl, rfl, rfl, rfl, rfl, rfl, trivial⟩ rfl ?_
    replace H := HKo47
    refine Cd.region ?_
    refine Lst.run rfl rfl (by decide) (Ev.incr (by omega) rfl rfl) ?_
    refine Lst.run rfl rfl (by decide) (Ev.move rfl) ?_
    refine Lst.nil ?_
    exact At.meet (i37 + 1, k37, y44, s45, l46) (FLe.trans hF42 hF90) ⟨rfl, rfl, rfl, rfl, rfl, rfl, trivial⟩ rfl ⟨⟨hgo37 _ (some_inj H).symm, by omega⟩, Nat.lt_succ_self _⟩
  have hc14 : decide ((i14 : Int) < (6 : Int)) = true := decide_eq_true (by omega)
  obtain ⟨c14, H, hgo14⟩ := rangeF_go H
  unfold cut_All_B0 at H
  try dsimp only at H
  refine Cd.seq ?_
  refine Cd.region ?_
  refine Lst.run rfl rfl (by decide) (Ev.lss rfl rfl) ?_
  refine Lst.nil ?_
  refine At.then ?_
  refine Cd.seq ?_
  refine Cd.condT rfl hc14 ?_
  refine Cd.skip ?_
  refine At.then ?_
  refine Cd.seq ?_
  refine Cd.block ?_
  refine Cd.seq ?_
  refine Cd.region ?_
  obtain ⟨x18, h19, H⟩ := bind_some H
  have g20 := vat_some h19
  refine Lst.run rfl rfl (by decide) (Ev.index1 rfl rfl Try.runUnderlying23 Try.isAgg3 Try.sizeOf3 g20.1 g20.2.1 rfl ((Get.vecN (s := 1) rfl g20.2.2 (Get.here _)).off (by omega))) ?_
  refine Lst.run rfl rfl (by decide) (Ev.assign rfl) ?_
  refine Lst.nil ?_
  refine At.then ?_
  refine Cd.region ?_
  refine Lst.run rfl rfl (by decide) (Ev.move rfl) ?_
  refine Lst.run rfl rfl (by decide) (Ev.move rfl) ?_
  refine Lst.run rfl rfl (by decide) (Ev.add rfl rfl) ?_
  refine Lst.run rfl rfl (by decide) (Ev.mul rfl rfl) ?_
  refine Lst.run rfl rfl (by decide) (Ev.assign rfl) ?_
  refine Lst.nil ?_
  refine At.in_normal ?_
  refine At.then ?_
  refine Cd.region ?_
  refine Lst.run rfl rfl (by decide) (Ev.incr (by omega) rfl rfl) ?_
  refine Lst.run rfl rfl (by decide) (Ev.move rfl) ?_
  refine Lst.nil ?_
  exact At.meet (i14 + 1, k14, w64 (y15 * (w64 (x18 + (1 : Int))))) hF17 ⟨rfl, rfl, rfl, rfl, rfl, trivial⟩ rfl ⟨⟨hgo14 _ (some_inj H).symm, by omega⟩, Nat.lt_succ_self _⟩
set_option maxRecDepth 20000 in
theorem partref_Sizes_sim {a0 : List Event} {s_a0 : Sl} {r : (Vector Int 6)} (H : partref_Sizes a0 = some r) (w0 : World) (F : Frz) (M L : List Item) (hM : M.Sublist L) (hs_a0 : Rd w0 F M s_a0 a0) : Ok Try.prog w0 54 [Sl.v s_a0] F (L) (Is (.agg (enc r).toArray) (L)) := by
  unfold partref_Sizes at H
  refine Ok.enter (m := 1) (n := 20) Try.func54 rfl rfl rfl (by decide) ?_
  refine Cd.env (e' := [(0, Sl.v s_a0)]) rfl ?_
  refine Cd.seq ?_
  refine Cd.region ?_
  refine Lst.alloc (cs := enc (Vector.replicate 6 (0 : Int))) rfl rfl (by decide) Try.zeroValue23 rfl (fun b1 => ?_)
  refine Lst.nil ?_
  refine At.then ?_
  refine Cd.seq ?_
  refine Cd.region ?_
  refine Lst.alloc (cs := enc (Vector.replicate 6 (0 : Int))) rfl rfl (by decide) Try.zeroValue23 rfl (fun b3 => ?_)
  refine Lst.nil ?_
  refine At.then ?_
  refine Cd.seq ?_
  refine Cd.seq ?_
  refine Cd.region ?_
  refine Lst.run rfl rfl (by decide) (Ev.move rfl) ?_
  refine Lst.run rfl rfl (by decide) (Ev.lenS (α := Event) (xs := a0) (by decide) rfl rfl Try.runUnderlying24 (hs_a0.mono (FLe.refl _) (List.Sublist.cons _ (List.Sublist.cons _ hM)))) ?_
  refine Lst.run rfl rfl (by decide) (Ev.move rfl) ?_
  refine Lst.nil ?_
  refine At.then ?_
  refine Cd.block ?_
  refine Cd.bound (Rd.le (α := Event) (xs := a0) (by decide) (hs_a0.mono (FLe.refl _) (List.Sublist.cons _ (List.Sublist.cons _ hM)))) (fun hN22 => ?_)
  obtain ⟨ol5, H, HKl5⟩ := bind_some H
  refine Cd.loop (σ := Nat × Nat × (Vector Int 6)) (fun (i5, k5, y6) => [(2, .pointer (some ⟨b1, 0, none⟩)), (3, .pointer (some ⟨b3, 0, none⟩)), (6, Sl.v s_a0), (7, .int .i64 (a0.length : Int)), (8, .int .i64 (i5 : Int))]) (fun (i5, k5, y6) => (.blk b3 (enc y6) 23) :: (.blk b1 (enc (Vector.replicate 6 (0 : Int))) 23) :: L) (fun _ => (fun (i5, k5, y6) => rangeF (partref_Sizes_B0 a0) k5 i5 y6 = some ol5 ∧ i5 + k5 = a0.length)) (fun (i5, k5, y6) => k5) (0, a0.length, (Vector.replicate 6 (0 : Int))) ⟨rfl, rfl, rfl, rfl, rfl, trivial⟩ rfl ⟨H, by omega⟩ ?_
  rintro F7 ⟨i5, k5, y6⟩ hF8 ⟨H, hik5⟩
  refine Cd.as (e' := [(2, .pointer (some ⟨b1, 0, none⟩)), (3, .pointer (some ⟨b3, 0, none⟩)), (6, Sl.v s_a0), (7, .int .i64 (a0.length : Int)), (8, .int .i64 (i5 : Int))]) (L' := (.blk b3 (enc y6) 23) :: (.blk b1 (enc (Vector.replicate 6 (0 : Int))) 23) :: L) ⟨rfl, rfl, rfl, rfl, rfl, trivial⟩ rfl ?_
  rcases k5 with _ | k5
  · have hc5 : decide ((i5 : Int) < (a0.length : Int)) = false := decide_eq_false (by omega)
    replace H := rangeF_end H
    refine Cd.seq ?_
    refine Cd.region ?_
    refine Lst.run rfl rfl (by decide) (Ev.lss rfl rfl) ?_
    refine Lst.nil ?_
    refine At.then ?_
    refine Cd.seq ?_
    refine Cd.condF rfl hc5 ?_
    refine Cd.exit ?_
    refine At.then_exit ?_
    refine At.then_exit ?_
    refine At.in_exit ?_
    subst H
    replace H := HKl5
    refine At.then ?_
    refine Cd.seq ?_
    refine Cd.region ?_
    refine Lst.run rfl rfl (by decide) (Ev.loadA (i := 0) rfl rfl Try.isAgg23 Try.sizeOf23 (ch := enc y6) (Enc.len _) (Get.here _)) ?_
    refine Lst.store (i := 1) rfl rfl rfl rfl rfl Try.sizeOf23 (vs := enc y6) rfl (Enc.len _) (Enc.one _) (cs' := enc y6) (Put.here ((Enc.len _).trans (Enc.len _).symm)) (L' := (.blk b3 (enc y6) 23) :: (.blk b1 (enc y6) 23) :: L) rfl ?_
    refine Lst.nil ?_
    refine At.then ?_
    obtain rfl := some_inj H
    refine Cd.ret ?_
    exact At.ret1 rfl (Res.cellA (i := 1) rfl rfl Try.isAgg23 Try.sizeOf23 (Enc.len _)) hF8 (List.Sublist.cons _ (List.Sublist.cons _ (List.Sublist.refl _))) ⟨rfl, rfl⟩
  have hc5 : decide ((i5 : Int) < (a0.length : Int)) = true := decide_eq_true (by omega)
  obtain ⟨c5, H, hgo5⟩ := rangeF_go H
  unfold partref_Sizes_B0 at H
  try dsimp only at H
  refine Cd.seq ?_
  refine Cd.region ?_
  refine Lst.run rfl rfl (by decide) (Ev.lss rfl rfl) ?_
  refine Lst.nil ?_
  refine At.then ?_
  refine Cd.seq ?_
  refine Cd.condT rfl hc5 ?_
  refine Cd.skip ?_
  refine At.then ?_
  refine Cd.seq ?_
  refine Cd.block ?_
  refine Cd.seq ?_
  refine Cd.region ?_
  obtain ⟨x9, h10, H⟩ := bind_some H
  have g11 := lat_some h10
  refine Lst.run rfl rfl (by decide) (Ev.indexS (α := Event) (xs := a0) rfl rfl Try.runUnderlying24 Try.sizeOf75 rfl (by decide) (hs_a0.mono hF8 (List.Sublist.cons _ (List.Sublist.cons _ hM))) g11.1 g11.2.1) ?_
  refine Lst.run rfl rfl (by decide) (Ev.loadSA (α := Event) rfl (hs_a0.mono hF8 (List.Sublist.cons _ (List.Sublist.cons _ hM))) Try.isAgg75 Try.sizeOf75 (ch := enc x9) (Enc.len _) (by decide) ((Get.elemN (s := 3) (x := x9) rfl g11.2.2 (Get.here _)).off (by omega))) ?_
  refine Lst.alloc (cs := enc Event.zero) rfl rfl (by decide) Try.zeroValue75 rfl (fun b12 => ?_)
  refine Lst.store (i := 0) rfl rfl rfl rfl rfl Try.sizeOf75 (vs := enc x9) rfl (Enc.len _) (Enc.one _) (cs' := enc x9) (Put.here ((Enc.len _).trans (Enc.len _).symm)) (L' := (.blk b12 (enc x9) 75) :: (.blk b3 (enc y6) 23) :: (.blk b1 (enc (Vector.replicate 6 (0 : Int))) 23) :: L) rfl ?_
  refine Lst.nil ?_
  refine At.then ?_
  refine Cd.region ?_
  refine Lst.run rfl rfl (by decide) (Ev.fieldAddr (off' := 0) rfl Try.runUnderlying75 rfl Try.sizeOf3 rfl rfl) ?_
  refine Lst.run rfl rfl (by decide) (Ev.load (i := 0) rfl rfl Try.isAgg3 (v := .int .i64 x9.Proc) ((Event.get_Proc (Get.here _)).off (by rfl))) ?_
  obtain ⟨x14, h15, H⟩ := bind_some H
  have g16 := vat_some h15
  refine Lst.run rfl rfl (by decide) (Ev.indexAddr (off' := 0 + x9.Proc.toNat * 1) rfl rfl Try.runUnderlying23 Try.sizeOf3 g16.1 g16.2.1 rfl) ?_
  refine Lst.run rfl rfl (by decide) (Ev.load (i := 1) rfl rfl Try.isAgg3 (v := .int .i64 x14) ((Get.vecN (s := 1) (x := x14) rfl g16.2.2 (Get.here _)).off (by omega))) ?_
  refine Lst.run rfl rfl (by decide) (Ev.add rfl rfl) ?_
  obtain ⟨x17, h18, H⟩ := bind_some H
  have g19 := vat_some h18
  refine Lst.run rfl rfl (by decide) (Ev.indexAddr (off' := 0 + x9.Proc.toNat * 1) rfl rfl Try.runUnderlying23 Try.sizeOf3 g19.1 g19.2.1 rfl) ?_
  obtain ⟨p20, h21, H⟩ := Let_some H
  refine Lst.store (i := 1) rfl rfl rfl rfl rfl Try.sizeOf3 (vs := [.int .i64 (w64 (x14 + (1 : Int)))]) rfl rfl rfl (cs' := enc p20) (by rw [← h21]; exact (Put.vecN (s := 1) (x := x17) rfl g19.2.2 (Put.here (vs := [.int .i64 (w64 (x14 + (1 : Int)))]) rfl)).off (by omega)) (L' := (.blk b12 (enc x9) 75) :: (.blk b3 (enc p20) 23) :: (.blk b1 (enc (Vector.replicate 6 (0 : Int))) 23) :: L) rfl ?_
  refine Lst.nil ?_
  refine At.in_normal ?_
  refine At.then ?_
  refine Cd.region ?_
  refine Lst.run rfl rfl (by decide) (Ev.incr (by omega) rfl rfl) ?_
  refine Lst.run rfl rfl (by decide) (Ev.move rfl) ?_
  refine Lst.nil ?_
  refine At.less (L' := (.blk b3 (enc p20) 23) :: (.blk b1 (enc (Vector.replicate 6 (0 : Int))) 23) :: L) (List.Sublist.cons _ (List.Sublist.cons_cons _ (List.Sublist.cons_cons _ (List.Sublist.refl _)))) ?_
  exact At.meet (i5 + 1, k5, p20) hF8 ⟨rfl, rfl, rfl, rfl, rfl, trivial⟩ rfl ⟨⟨hgo5 _ (some_inj H).symm, by omega⟩, Nat.lt_succ_self _⟩
set_option maxRecDepth 20000 in
theorem partref_Room_sim {a0 : List Event} {s_a0 : Sl} {r : Int} (H : partref_Room a0 = some r) (w0 : World) (F : Frz) (M L : List Item) (hM : M.Sublist L) (hs_a0 : Rd w0 F M s_a0 a0) : Ok Try.prog w0 36 [Sl.v s_a0] F (L) (Is (.int .i64 r) (L)) := by
  unfold partref_Room at H
  refine Ok.enter (m := 1) (n := 17) Try.func36 rfl rfl rfl (by decide) ?_
  refine Cd.env (e' := [(0, Sl.v s_a0)]) rfl ?_
  refine Cd.seq ?_
  refine Cd.region ?_
  refine Lst.run rfl rfl (by decide) (Ev.assign rfl) ?_
  refine Lst.nil ?_
  refine At.then ?_
  refine Cd.seq ?_
  refine Cd.region ?_
  refine Lst.run rfl rfl (by decide) (Ev.assign rfl) ?_
  refine Lst.nil ?_
  refine At.then ?_
  refine Cd.seq ?_
  refine Cd.seq ?_
  refine Cd.region ?_
  refine Lst.run rfl rfl (by decide) (Ev.move rfl) ?_
  obtain ⟨r1, h2, H⟩ := bind_some H
  refine Lst.call1 rfl rfl (by decide) (vs := [Sl.v s_a0]) ⟨rfl, trivial⟩ Try.call54 (partref_Sizes_sim h2 w0 _ M _ hM (hs_a0.mono (FLe.refl _) (List.Sublist.refl _))) ?_
  refine Lst.run rfl rfl (by decide) (Ev.move rfl) ?_
  refine Lst.nil ?_
  refine At.then ?_
  refine Cd.block ?_
  obtain ⟨ol5, H, HKl5⟩ := bind_some H
  refine Cd.loop (σ := Nat × Nat × Int) (fun (i5, k5, y6) => [(3, .int .i64 y6), (7, .agg (enc r1).toArray), (8, .int .i64 (i5 : Int))]) (fun (i5, k5, y6) => L) (fun _ => (fun (i5, k5, y6) => rangeF (partref_Room_B0 r1) k5 i5 y6 = some ol5 ∧ i5 + k5 = 6)) (fun (i5, k5, y6) => k5) (0, 6, (1 : Int)) ⟨rfl, rfl, rfl, trivial⟩ rfl ⟨H, by omega⟩ ?_
  rintro F7 ⟨i5, k5, y6⟩ hF8 ⟨H, hik5⟩
  refine Cd.as (e' := [(3, .int .i64 y6), (7, .agg (enc r1).toArray), (8, .int .i64 (i5 : Int))]) (L' := L) ⟨rfl, rfl, rfl, trivial⟩ rfl ?_
  rcases k5 with _ | k5
  · have hc5 : decide ((i5 : Int) < (6 : Int)) = false := decide_eq_false (by omega)
    replace H := rangeF_end H
    refine Cd.seq ?_
    refine Cd.region ?_
    refine Lst.run rfl rfl (by decide) (Ev.lss rfl rfl) ?_
    refine Lst.nil ?_
    refine At.then ?_
    refine Cd.seq ?_
    refine Cd.condF rfl hc5 ?_
    refine Cd.exit ?_
    refine At.then_exit ?_
    refine At.then_exit ?_
    refine At.in_exit ?_
    subst H
    replace H := HKl5
    refine At.then ?_
    refine Cd.seq ?_
    refine Cd.region ?_
    refine Lst.run rfl rfl (by decide) (Ev.move rfl) ?_
    refine Lst.run rfl rfl (by decide) (Ev.assign rfl) ?_
    refine Lst.nil ?_
    refine At.then ?_
    obtain rfl := some_inj H
    refine Cd.ret ?_
    exact At.ret1 rfl (Res.tmp rfl) hF8 (List.Sublist.refl _) ⟨rfl, rfl⟩
  have hc5 : decide ((i5 : Int) < (6 : Int)) = true := decide_eq_true (by omega)
  obtain ⟨c5, H, hgo5⟩ := rangeF_go H
  unfold partref_Room_B0 at H
  try dsimp only at H
  refine Cd.seq ?_
  refine Cd.region ?_
  refine Lst.run rfl rfl (by decide) (Ev.lss rfl rfl) ?_
  refine Lst.nil ?_
  refine At.then ?_
  refine Cd.seq ?_
  refine Cd.condT rfl hc5 ?_
  refine Cd.skip ?_
  refine At.then ?_
  refine Cd.seq ?_
  refine Cd.block ?_
  refine Cd.seq ?_
  refine Cd.region ?_
  obtain ⟨x9, h10, H⟩ := bind_some H
  have g11 := vat_some h10
  refine Lst.run rfl rfl (by decide) (Ev.index1 rfl rfl Try.runUnderlying23 Try.isAgg3 Try.sizeOf3 g11.1 g11.2.1 rfl ((Get.vecN (s := 1) rfl g11.2.2 (Get.here _)).off (by omega))) ?_
  refine Lst.run rfl rfl (by decide) (Ev.assign rfl) ?_
  refine Lst.nil ?_
  refine At.then ?_
  refine Cd.region ?_
  refine Lst.run rfl rfl (by decide) (Ev.move rfl) ?_
  refine Lst.run rfl rfl (by decide) (Ev.move rfl) ?_
  refine Lst.run rfl rfl (by decide) (Ev.add rfl rfl) ?_
  refine Lst.run rfl rfl (by decide) (Ev.mul rfl rfl) ?_
  refine Lst.run rfl rfl (by decide) (Ev.assign rfl) ?_
  refine Lst.nil ?_
  refine At.in_normal ?_
  refine At.then ?_
  refine Cd.region ?_
  refine Lst.run rfl rfl (by decide) (Ev.incr (by omega) rfl rfl) ?_
  refine Lst.run rfl rfl (by decide) (Ev.move rfl) ?_
  refine Lst.nil ?_
  exact At.meet (i5 + 1, k5, w64 (y6 * (w64 (x9 + (1 : Int))))) hF8 ⟨rfl, rfl, rfl, trivial⟩ rfl ⟨⟨hgo5 _ (some_inj H).symm, by omega⟩, Nat.lt_succ_self _⟩
set_option maxRecDepth 20000 in
theorem partref_Closure_sim {fu : Nat} {a0 : Int} {a1 : List Pair} {s_a1 : Sl} {r : (List (List Bool))} (H : partref_Closure fu a0 a1 = some r) (w0 : World) (F : Frz) (M L : List Item) (hM : M.Sublist L) (hs_a1 : Rd w0 F M s_a1 a1) : Ok Try.prog w0 52 [.int .i64 a0, Sl.v s_a1] F (L) (fun Fx L' v => ∃ (s1 : Sl) (rs2 : List (LR Bool)), v = Sl.v s1 ∧ L' = (.rows (α := Bool) 4 rs2) :: (.own s1 44 1 (encs rs2)) :: L ∧ rs2.map LR.v = r) := by
  unfold partref_Closure at H
  refine Ok.enter (m := 2) (n := 68) Try.func52 rfl rfl rfl (by decide) ?_
  refine Cd.env (e' := [(0, .int .i64 a0), (1, Sl.v s_a1)]) rfl ?_
  refine Cd.seq ?_
  refine Cd.region ?_
  have ha2 : All LR.rel w0 F [] ([] : List (LR Bool)) := All.nil
  have ha2m : List.map LR.v ([] : List (LR Bool)) = ([] : List (List Bool)) := rfl
  refine Lst.addNil 44 1 ?_
  refine Lst.run rfl rfl (by decide) (Ev.assign rfl) ?_
  refine Lst.nil ?_
  refine At.then ?_
  refine Cd.seq ?_
  refine Cd.region ?_
  refine Lst.run rfl rfl (by decide) (Ev.move rfl) ?_
  obtain ⟨n3, h4, H⟩ := bind_some H
  have g5 := mkLen_some h4
  have hm8 : (List.replicate n3 ((LR.mk [] Sl.nil) : LR Bool)).map LR.v = (List.replicate n3 ([] : List Bool)) := map_rep _ _
  refine Lst.make (α := LR Bool) (z0 := ((LR.mk [] Sl.nil) : LR Bool)) (k := n3) rfl rfl (by decide) (congrArg some (congrArg (Value.int .i64) g5.1)) (congrArg some (congrArg (Value.int .i64) g5.1)) Try.runUnderlying42 Try.typeInfo44 rfl rfl rfl rfl rfl g5.2 rfl (fun s6 => ?_)
  refine Lst.rowsNil Bool 4 n3 ?_
  refine Lst.its (L' := (.rows (α := Bool) 4 (List.replicate n3 ((LR.mk [] Sl.nil) : LR Bool))) :: (.own s6 44 1 (encs (List.replicate n3 ((LR.mk [] Sl.nil) : LR Bool)))) :: (.own Sl.nil 44 1 (encs ([] : List (LR Bool)))) :: L) rfl ?_
  refine Lst.run rfl rfl (by decide) (Ev.assign rfl) ?_
  refine Lst.nil ?_
  refine At.then ?_
  refine Cd.seq ?_
  refine Cd.seq ?_
  refine Cd.region ?_
  refine Lst.run rfl rfl (by decide) (Ev.move rfl) ?_
  refine Lst.run rfl rfl (by decide) (Ev.move rfl) ?_
  refine Lst.nil ?_
  refine At.then ?_
  refine Cd.block ?_
  obtain ⟨nn17, hN93, H⟩ := bind_some H
  replace hN93 := upTo_some hN93
  obtain ⟨ol11, H, HKl11⟩ := bind_some H
  refine Cd.loop (σ := Nat × Nat × (List (List Bool)) × (List (LR Bool))) (fun (i11, k11, l12, rs13) => [(0, .int .i64 a0), (1, Sl.v s_a1), (5, Sl.v s6), (13, .int .i64 a0), (14, .int .i64 (i11 : Int))]) (fun (i11, k11, l12, rs13) => (.rows (α := Bool) 4 rs13) :: (.own s6 44 1 (encs rs13)) :: (.own Sl.nil 44 1 (encs ([] : List (LR Bool)))) :: L) (fun Fx => (fun (i11, k11, l12, rs13) => rangeF (partref_Closure_B0 fu a0 a1) k11 i11 l12 = some ol11 ∧ i11 + k11 = nn17 ∧ rs13.map LR.v = l12)) (fun (i11, k11, l12, rs13) => k11) (0, nn17, (List.replicate n3 ([] : List Bool)), (List.replicate n3 ((LR.mk [] Sl.nil) : LR Bool))) ⟨rfl, rfl, rfl, rfl, rfl, trivial⟩ rfl ⟨H, by omega, hm8⟩ ?_
  rintro F15 ⟨i11, k11, l12, rs13⟩ hF16 ⟨H, hik11, fm14⟩
  refine Cd.as (e' := [(0, .int .i64 a0), (1, Sl.v s_a1), (5, Sl.v s6), (13, .int .i64 a0), (14, .int .i64 (i11 : Int))]) (L' := (.rows (α := Bool) 4 rs13) :: (.own s6 44 1 (encs rs13)) :: (.own Sl.nil 44 1 (encs ([] : List (LR Bool)))) :: L) ⟨rfl, rfl, rfl, rfl, rfl, trivial⟩ rfl ?_
  rcases k11 with _ | k11
  · have hc11 : decide ((i11 : Int) < a0) = false := decide_eq_false (by omega)
    replace H := rangeF_end H
    refine Cd.seq ?_
    refine Cd.region ?_
    refine Lst.run rfl rfl (by decide) (Ev.lss rfl rfl) ?_
    refine Lst.nil ?_
    refine At.then ?_
    refine Cd.seq ?_
    refine Cd.condF rfl hc11 ?_
    refine Cd.exit ?_
    refine At.then_exit ?_
    refine At.then_exit ?_
    refine At.in_exit ?_
    subst H
    replace H := HKl11
    refine At.then ?_
    refine Cd.seq ?_
    refine Cd.region ?_
    refine Lst.run rfl rfl (by decide) (Ev.move rfl) ?_
    refine Lst.run rfl rfl (by decide) (Ev.assign rfl) ?_
    refine Lst.nil ?_
    refine At.then ?_
    obtain rfl := some_inj H
    refine Cd.ret ?_
    exact At.ret1 rfl (Res.tmp rfl) hF16 (List.Sublist.cons_cons _ (List.Sublist.cons_cons _ (List.Sublist.cons _ (List.Sublist.refl _)))) ⟨s6, rs13, rfl, rfl, fm14⟩
  have hc11 : decide ((i11 : Int) < a0) = true := decide_eq_true (by omega)
  obtain ⟨c11, H, hgo11⟩ := rangeF_go H
  unfold partref_Closure_B0 at H
  try dsimp only at H
  refine Cd.seq ?_
  refine Cd.region ?_
  refine Lst.run rfl rfl (by decide) (Ev.lss rfl rfl) ?_
  refine Lst.nil ?_
  refine At.then ?_
  refine Cd.seq ?_
  refine Cd.condT rfl hc11 ?_
  refine Cd.skip ?_
  refine At.then ?_
  refine Cd.seq ?_
  refine Cd.block ?_
  refine Cd.seq ?_
  refine Cd.region ?_
  refine Lst.run rfl rfl (by decide) (Ev.move rfl) ?_
  refine Lst.run rfl rfl (by decide) (Ev.assign rfl) ?_
  refine Lst.nil ?_
  refine At.then ?_
  refine Cd.seq ?_
  refine Cd.region ?_
  refine Lst.run rfl rfl (by decide) (Ev.move rfl) ?_
  refine Lst.run rfl rfl (by decide) (Ev.move rfl) ?_
  refine Lst.run rfl rfl (by decide) (Ev.move rfl) ?_
  obtain ⟨n18, h19, H⟩ := bind_some H
  have g20 := mkLen_some h19
  refine Lst.make (α := Bool) (z0 := false) (k := n18) rfl rfl (by decide) (congrArg some (congrArg (Value.int .i64) g20.1)) (congrArg some (congrArg (Value.int .i64) g20.1)) Try.runUnderlying44 Try.typeInfo4 rfl rfl rfl rfl rfl g20.2 rfl (fun s21 => ?_)
  obtain ⟨x23, h24, H⟩ := bind_some H
  have g25 := lat_some h24
  obtain ⟨⟨r26v, r26h⟩, r26g, r26e, r26m⟩ := map_get fm14 g25.2.2
  obtain rfl : x23 = r26v := r26e.symm
  have hh27 := row_h r26g
  refine Lst.run rfl rfl (by decide) (Ev.indexS (α := LR Bool) (xs := rs13) rfl rfl Try.runUnderlying42 Try.sizeOf44 rfl (by decide) (Rd.own (i := 2) rfl rfl rfl) g25.1 (by have := map_len fm14; omega)) ?_
  obtain ⟨p28, h29, H⟩ := Let_some H
  have hm30 : (rs13.set (i11 : Int).toNat (LR.mk (List.replicate n18 false) s21)).map LR.v = p28 := (map_set fm14 _ _).trans h29
  refine Lst.storeS (i := 2) rfl rfl rfl rfl rfl Try.sizeOf44 (vs := [Sl.v s21]) rfl rfl (by decide) rfl (xs' := encs (rs13.set (i11 : Int).toNat (LR.mk (List.replicate n18 false) s21))) ((Put.elemN (s := 1) (y := (LR.mk (List.replicate n18 false) s21)) rfl r26g (Put.here (vs := [Sl.v s21]) rfl)).off (by omega)) (L' := (.own s21 4 1 (encs (List.replicate n18 false))) :: (.rows (α := Bool) 4 rs13) :: (.own s6 44 1 (encs (rs13.set (i11 : Int).toNat (LR.mk (List.replicate n18 false) s21)))) :: (.own Sl.nil 44 1 (encs ([] : List (LR Bool)))) :: L) rfl ?_
  refine Lst.rowIn (k := (i11 : Int).toNat) r26g rfl ?_
  refine Lst.its (L' := (.rows (α := Bool) 4 (rs13.set (i11 : Int).toNat (LR.mk (List.replicate n18 false) s21))) :: (.own s6 44 1 (encs (rs13.set (i11 : Int).toNat (LR.mk (List.replicate n18 false) s21)))) :: (.own Sl.nil 44 1 (encs ([] : List (LR Bool)))) :: L) rfl ?_
  refine Lst.nil ?_
  refine At.then ?_
  refine Cd.seq ?_
  refine Cd.region ?_
  refine Lst.run rfl rfl (by decide) (Ev.move rfl) ?_
  refine Lst.buildSlice (α := Int) (xs := ([(i11 : Int)] : List Int)) (pv := [(0, .int .i64 (i11 : Int))]) rfl rfl (by decide) ⟨rfl, rfl, trivial⟩ (run_buildSlice (α := Int) (z0 := (0 : Int)) (xs := ([(i11 : Int)] : List Int)) Try.runUnderlying36 Try.sizeOf3 Try.zeroValue3 rfl rfl rfl (by decide) rfl (fill_cons (cs := encs (List.replicate 1 (0 : Int))) (cs' := encs ((List.replicate 1 (0 : Int)).set 0 (i11 : Int))) (vs := [.int .i64 (i11 : Int)]) rfl rfl rfl ((Put.elemN (s := 1) (i := 0) (x := (0 : Int)) (y := (i11 : Int)) rfl rfl (Put.here (vs := [.int .i64 (i11 : Int)]) rfl)).off rfl) fill_nil)) rfl rfl (by decide) (fun s31 _ => ?_)
  refine Lst.run rfl rfl (by decide) (Ev.assign rfl) ?_
  refine Lst.nil ?_
  refine At.then ?_
  refine Cd.block ?_
  obtain ⟨ol33, H, HKl33⟩ := andThen_some H
  refine Cd.loop (σ := Nat × Sl × (List Int) × (List (List Bool)) × (List (LR Bool))) (fun (k33, s34, l35, l36, rs37) => [(0, .int .i64 a0), (1, Sl.v s_a1), (5, Sl.v s6), (6, .int .i64 (i11 : Int)), (7, Sl.v s34), (13, .int .i64 a0), (14, .int .i64 (i11 : Int))]) (fun (k33, s34, l35, l36, rs37) => (.own s34 3 1 (encs l35)) :: (.rows (α := Bool) 4 rs37) :: (.own s6 44 1 (encs rs37)) :: (.own Sl.nil 44 1 (encs ([] : List (LR Bool)))) :: L) (fun Fx => (fun (k33, s34, l35, l36, rs37) => whileM (partref_Closure_B2 a1 i11) k33 (l35, l36) = some ol33 ∧ rs37.map LR.v = l36)) (fun (k33, s34, l35, l36, rs37) => k33) (fu, s31, ([(i11 : Int)] : List Int), p28, (rs13.set (i11 : Int).toNat (LR.mk (List.replicate n18 false) s21))) ⟨rfl, rfl, rfl, rfl, rfl, rfl, rfl, trivial⟩ rfl ⟨H, hm30⟩ ?_
  rintro F39 ⟨k33, s34, l35, l36, rs37⟩ hF40 ⟨H, fm38⟩
  refine Cd.as (e' := [(0, .int .i64 a0), (1, Sl.v s_a1), (5, Sl.v s6), (6, .int .i64 (i11 : Int)), (7, Sl.v s34), (13, .int .i64 a0), (14, .int .i64 (i11 : Int))]) (L' := (.own s34 3 1 (encs l35)) :: (.rows (α := Bool) 4 rs37) :: (.own s6 44 1 (encs rs37)) :: (.own Sl.nil 44 1 (encs ([] : List (LR Bool)))) :: L) ⟨rfl, rfl, rfl, rfl, rfl, rfl, rfl, trivial⟩ rfl ?_
  rcases k33 with _ | k33
  · cases H
  obtain ⟨c33, H, hgo33, hbrk33, hret33⟩ := whileM_go H
  unfold partref_Closure_B2 at H
  try dsimp only at H
  refine Cd.seq ?_
  refine Cd.seq ?_
  refine Cd.region ?_
  refine Lst.run rfl rfl (by decide) (Ev.move rfl) ?_
  refine Lst.run rfl rfl (by decide) (Ev.lenS (α := Int) (xs := l35) (by decide) rfl rfl Try.runUnderlying36 (Rd.own (i := 0) rfl rfl rfl)) ?_
  refine Lst.run rfl rfl (by decide) (Ev.gtr rfl rfl) ?_
  refine Lst.nil ?_
  refine At.then ?_
  rcases (Bool.eq_false_or_eq_true (decide ((l35.length : Int) > (0 : Int)))).symm with hb41 | hb41
  · replace H := ite_f hb41 H
    refine Cd.condF rfl hb41 ?_
    refine Cd.exit ?_
    refine At.then_exit ?_
    refine At.then_exit ?_
    refine At.in_exit ?_
    have H := hbrk33 _ (some_inj H).symm
    subst H
    replace H := HKl33
    refine At.in_normal ?_
    refine At.then ?_
    refine Cd.region ?_
    refine Lst.run rfl rfl (by decide) (Ev.incr (by omega) rfl rfl) ?_
    refine Lst.run rfl rfl (by decide) (Ev.move rfl) ?_
    refine Lst.nil ?_
    refine At.less (L' := (.rows (α := Bool) 4 rs37) :: (.own s6 44 1 (encs rs37)) :: (.own Sl.nil 44 1 (encs ([] : List (LR Bool)))) :: L) (List.Sublist.cons _ (List.Sublist.cons_cons _ (List.Sublist.cons_cons _ (List.Sublist.cons_cons _ (List.Sublist.refl _))))) ?_
    exact At.meet (i11 + 1, k11, l36, rs37) (FLe.trans hF16 hF40) ⟨rfl, rfl, rfl, rfl, rfl, trivial⟩ rfl ⟨⟨hgo11 _ (some_inj H).symm, by omega, fm38⟩, Nat.lt_succ_self _⟩
  replace H := ite_t hb41 H
  refine Cd.condT rfl hb41 ?_
  refine Cd.skip ?_
  refine At.then ?_
  refine Cd.block ?_
  refine Cd.seq ?_
  refine Cd.region ?_
  refine Lst.run rfl rfl (by decide) (Ev.move rfl) ?_
  obtain ⟨x42, h43, H⟩ := bind_some H
  have g44 := lat_some h43
  refine Lst.run rfl rfl (by decide) (Ev.indexS (α := Int) (xs := l35) rfl rfl Try.runUnderlying36 Try.sizeOf3 rfl (by decide) (Rd.own (i := 0) rfl rfl rfl) g44.1 g44.2.1) ?_
  refine Lst.run rfl rfl (by decide) (Ev.loadS (α := Int) rfl (Rd.own (i := 0) rfl rfl rfl) Try.isAgg3 (v := .int .i64 x42) ((Get.elemN (s := 1) (x := x42) rfl g44.2.2 (Get.here _)).off (by omega))) ?_
  refine Lst.run rfl rfl (by decide) (Ev.assign rfl) ?_
  refine Lst.nil ?_
  refine At.then ?_
  refine Cd.seq ?_
  refine Cd.region ?_
  refine Lst.run rfl rfl (by decide) (Ev.move rfl) ?_
  obtain ⟨m45, h46, H⟩ := bind_some H
  obtain ⟨g47, gl48⟩ := cutL_some h46
  refine Lst.run rfl rfl (by decide) (Ev.cut (α := Int) (xs := l35) (i := (1 : Int)) (j := (l35.length : Int)) rfl rfl rfl Try.runUnderlying36 Try.sizeOf3 rfl (by decide) (Rd.own (i := 0) rfl rfl rfl) g47.1 g47.2.1 g47.2.2) ?_
  refine Lst.cutOwn (i := 0) (α := Int) (lo := ((1 : Int) : Int).toNat) (hi := ((l35.length : Int) : Int).toNat) rfl rfl rfl (by decide) (by omega) (by omega) (L' := (.own (s34.cut ((1 : Int) : Int).toNat ((l35.length : Int) : Int).toNat 1) 3 1 (encs m45)) :: (.rows (α := Bool) 4 rs37) :: (.own s6 44 1 (encs rs37)) :: (.own Sl.nil 44 1 (encs ([] : List (LR Bool)))) :: L) (by subst gl48; rfl) ?_
  refine Lst.run rfl rfl (by decide) (Ev.assign rfl) ?_
  refine Lst.nil ?_
  refine At.then ?_
  refine Cd.seq ?_
  refine Cd.region ?_
  refine Lst.run rfl rfl (by decide) (Ev.move rfl) ?_
  refine Lst.run rfl rfl (by decide) (Ev.lenS (α := Pair) (xs := a1) (by decide) rfl rfl Try.runUnderlying39 (hs_a1.mono (FLe.trans hF16 hF40) (List.Sublist.cons _ (List.Sublist.cons _ (List.Sublist.cons _ (List.Sublist.cons _ hM)))))) ?_
  refine Lst.run rfl rfl (by decide) (Ev.move rfl) ?_
  refine Lst.nil ?_
  refine At.then ?_
  refine Cd.block ?_
  refine Cd.bound (Rd.le (α := Pair) (xs := a1) (by decide) (hs_a1.mono (FLe.trans hF16 hF40) (List.Sublist.cons _ (List.Sublist.cons _ (List.Sublist.cons _ (List.Sublist.cons _ hM)))))) (fun hN92 => ?_)
  obtain ⟨ol50, H, HKl50⟩ := bind_some H
  refine Cd.loop (σ := Nat × Nat × Sl × (List Int) × (List (List Bool)) × (List (LR Bool))) (fun (i50, k50, s51, l52, l53, rs54) => [(0, .int .i64 a0), (1, Sl.v s_a1), (5, Sl.v s6), (6, .int .i64 (i11 : Int)), (7, Sl.v s51), (8, .int .i64 x42), (13, .int .i64 a0), (14, .int .i64 (i11 : Int)), (32, Sl.v s_a1), (33, .int .i64 (a1.length : Int)), (34, .int .i64 (i50 : Int))]) (fun (i50, k50, s51, l52, l53, rs54) => (.own s51 3 1 (encs l52)) :: (.rows (α := Bool) 4 rs54) :: (.own s6 44 1 (encs rs54)) :: (.own Sl.nil 44 1 (encs ([] : List (LR Bool)))) :: L) (fun Fx => (fun (i50, k50, s51, l52, l53, rs54) => rangeF (partref_Closure_B4 a1 i11 x42) k50 i50 (l52, l53) = some ol50 ∧ i50 + k50 = a1.length ∧ rs54.map LR.v = l53)) (fun (i50, k50, s51, l52, l53, rs54) => k50) (0, a1.length, (s34.cut ((1 : Int) : Int).toNat ((l35.length : Int) : Int).toNat 1), m45, l36, rs37) ⟨rfl, rfl, rfl, rfl, rfl, rfl, rfl, rfl, rfl, rfl, rfl, trivial⟩ rfl ⟨H, by omega, fm38⟩ ?_
  rintro F56 ⟨i50, k50, s51, l52, l53, rs54⟩ hF57 ⟨H, hik50, fm55⟩
  refine Cd.as (e' := [(0, .int .i64 a0), (1, Sl.v s_a1), (5, Sl.v s6), (6, .int .i64 (i11 : Int)), (7, Sl.v s51), (8, .int .i64 x42), (13, .int .i64 a0), (14, .int .i64 (i11 : Int)), (32, Sl.v s_a1), (33, .int .i64 (a1.length : Int)), (34, .int .i64 (i50 : Int))]) (L' := (.own s51 3 1 (encs l52)) :: (.rows (α := Bool) 4 rs54) :: (.own s6 44 1 (encs rs54)) :: (.own Sl.nil 44 1 (encs ([] : List (LR Bool)))) :: L) ⟨rfl, rfl, rfl, rfl, rfl, rfl, rfl, rfl, rfl, rfl, rfl, trivial⟩ rfl ?_
  rcases k50 with _ | k50
  · have hc50 : decide ((i50 : Int) < (a1.length : Int)) = false := decide_eq_false (by omega)
    replace H := rangeF_end H
    refine Cd.seq ?_
    refine Cd.region ?_
    refine Lst.run rfl rfl (by decide) (Ev.lss rfl rfl) ?_
    refine Lst.nil ?_
    refine At.then ?_
    refine Cd.seq ?_
    refine Cd.condF rfl hc50 ?_
    refine Cd.exit ?_
    refine At.then_exit ?_
    refine At.then_exit ?_
    refine At.in_exit ?_
    subst H
    replace H := HKl50
    refine At.in_normal ?_
    exact At.meet (k33, s51, l52, l53, rs54) (FLe.trans hF40 hF57) ⟨rfl, rfl, rfl, rfl, rfl, rfl, rfl, trivial⟩ rfl ⟨⟨hgo33 _ (some_inj H).symm, fm55⟩, Nat.lt_succ_self _⟩
  have hc50 : decide ((i50 : Int) < (a1.length : Int)) = true := decide_eq_true (by omega)
  obtain ⟨c50, H, hgo50⟩ := rangeF_go H
  unfold partref_Closure_B4 at H
  try dsimp only at H
  refine Cd.seq ?_
  refine Cd.region ?_
  refine Lst.run rfl rfl (by decide) (Ev.lss rfl rfl) ?_
  refine Lst.nil ?_
  refine At.then ?_
  refine Cd.seq ?_
  refine Cd.condT rfl hc50 ?_
  refine Cd.skip ?_
  refine At.then ?_
  refine Cd.seq ?_
  refine Cd.block ?_
  refine Cd.seq ?_
  refine Cd.region ?_
  obtain ⟨x58, h59, H⟩ := bind_some H
  have g60 := lat_some h59
  refine Lst.run rfl rfl (by decide) (Ev.indexS (α := Pair) (xs := a1) rfl rfl Try.runUnderlying39 Try.sizeOf46 rfl (by decide) (hs_a1.mono (FLe.trans (FLe.trans hF16 hF40) hF57) (List.Sublist.cons _ (List.Sublist.cons _ (List.Sublist.cons _ (List.Sublist.cons _ hM))))) g60.1 g60.2.1) ?_
  refine Lst.run rfl rfl (by decide) (Ev.loadSA (α := Pair) rfl (hs_a1.mono (FLe.trans (FLe.trans hF16 hF40) hF57) (List.Sublist.cons _ (List.Sublist.cons _ (List.Sublist.cons _ (List.Sublist.cons _ hM))))) Try.isAgg46 Try.sizeOf46 (ch := enc x58) (Enc.len _) (by decide) ((Get.elemN (s := 2) (x := x58) rfl g60.2.2 (Get.here _)).off (by omega))) ?_
  refine Lst.alloc (cs := enc Pair.zero) rfl rfl (by decide) Try.zeroValue46 rfl (fun b61 => ?_)
  refine Lst.store (i := 0) rfl rfl rfl rfl rfl Try.sizeOf46 (vs := enc x58) rfl (Enc.len _) (Enc.one _) (cs' := enc x58) (Put.here ((Enc.len _).trans (Enc.len _).symm)) (L' := (.blk b61 (enc x58) 46) :: (.own s51 3 1 (encs l52)) :: (.rows (α := Bool) 4 rs54) :: (.own s6 44 1 (encs rs54)) :: (.own Sl.nil 44 1 (encs ([] : List (LR Bool)))) :: L) rfl ?_
  refine Lst.nil ?_
  refine At.then ?_
  refine Cd.seq ?_
  refine Cd.quiet (by kernel_rfl) (by kernel_rfl) ?_
  refine Qt.run rfl rfl (by decide) (Ev.fieldAddr (off' := 0) rfl Try.runUnderlying46 rfl Try.sizeOf3 rfl rfl) ?_
  refine Qt.run rfl rfl (by decide) (Ev.load (i := 0) rfl rfl Try.isAgg3 (v := .int .i64 x58.A) ((Pair.get_A (Get.here _)).off (by rfl))) ?_
  refine Qt.run rfl rfl (by decide) (Ev.move rfl) ?_
  refine Qt.run rfl rfl (by decide) (Ev.eql rfl rfl) ?_
  refine Qt.run rfl rfl (by decide) (Ev.move rfl) ?_
  obtain ⟨o63, H, HKo63⟩ := bind_some H
  refine Qt.join (σ := Bool) 10 (fun y64 => [(0, .int .i64 a0), (1, Sl.v s_a1), (5, Sl.v s6), (6, .int .i64 (i11 : Int)), (7, Sl.v s51), (8, .int .i64 x42), (10, .pointer (some ⟨b61, 0, none⟩)), (13, .int .i64 a0), (14, .int .i64 (i11 : Int)), (32, Sl.v s_a1), (33, .int .i64 (a1.length : Int)), (34, .int .i64 (i50 : Int)), (52, .bool y64)]) (fun y64 => y64 = o63) ?_ ?_
  · rcases (Bool.eq_false_or_eq_true (x58.A == x42)).symm with hb65 | hb65
    · replace H := ite_f hb65 H
      refine Qt.skip rfl rfl rfl hb65 rfl (by decide) ?_
      refine Qt.skip rfl rfl rfl hb65 rfl (by decide) ?_
      refine Qt.skip rfl rfl rfl hb65 rfl (by decide) ?_
      refine Qt.skip rfl rfl rfl hb65 rfl (by decide) ?_
      refine Qt.skip rfl rfl rfl hb65 rfl (by decide) ?_
      refine Qt.skip rfl rfl rfl hb65 rfl (by decide) ?_
      refine Qt.skip rfl rfl rfl hb65 rfl (by decide) ?_
      refine Qt.skip rfl rfl rfl hb65 rfl (by decide) ?_
      refine Qt.skip rfl rfl rfl hb65 rfl (by decide) ?_
      refine Qt.run rfl rfl (by decide) (Ev.pickF rfl hb65 rfl) ?_
      exact Qt.meet false ⟨rfl, rfl, rfl, rfl, rfl, rfl, rfl, rfl, rfl, rfl, rfl, rfl, rfl, trivial⟩ (some_inj H)
    replace H := ite_t hb65 H
    refine Qt.runG rfl rfl rfl hb65 rfl (by decide) (Ev.move rfl) ?_
    refine Qt.runG rfl rfl rfl hb65 rfl (by decide) (Ev.move rfl) ?_
    obtain ⟨x66, h67, H⟩ := bind_some H
    have g68 := lat_some h67
    obtain ⟨⟨r69v, r69h⟩, r69g, r69e, r69m⟩ := map_get fm55 g68.2.2
    obtain rfl : x66 = r69v := r69e.symm
    have hh70 := row_h r69g
    refine Qt.runG rfl rfl rfl hb65 rfl (by decide) (Ev.indexS (α := LR Bool) (xs := rs54) rfl rfl Try.runUnderlying42 Try.sizeOf44 rfl (by decide) (Rd.own (i := 3) rfl rfl rfl) g68.1 (by have := map_len fm55; omega)) ?_
    refine Qt.runG rfl rfl rfl hb65 rfl (by decide) (Ev.loadS (α := LR Bool) rfl (Rd.own (i := 3) rfl rfl rfl) Try.isAgg44 (v := Sl.v r69h) ((Get.elemN (s := 1) rfl r69g (Get.here _)).off (by omega))) ?_
    refine Qt.runG rfl rfl rfl hb65 rfl (by decide) (Ev.fieldAddr (off' := 1) rfl Try.runUnderlying46 rfl Try.sizeOf3 rfl rfl) ?_
    refine Qt.runG rfl rfl rfl hb65 rfl (by decide) (Ev.load (i := 0) rfl rfl Try.isAgg3 (v := .int .i64 x58.B) ((Pair.get_B (Get.here _)).off (by rfl))) ?_
    obtain ⟨x71, h72, H⟩ := bind_some H
    have g73 := lat_some h72
    refine Qt.runG rfl rfl rfl hb65 rfl (by decide) (Ev.indexS (α := Bool) (xs := x66) rfl rfl Try.runUnderlying44 Try.sizeOf4 rfl (by decide) (Rd.row (j := 2) rfl r69g) g73.1 g73.2.1) ?_
    refine Qt.runG rfl rfl rfl hb65 rfl (by decide) (Ev.loadS (α := Bool) rfl (Rd.row (j := 2) rfl r69g) Try.isAgg4 (v := .bool x71) ((Get.elemN (s := 1) (x := x71) rfl g73.2.2 (Get.here _)).off (by omega))) ?_
    refine Qt.runG rfl rfl rfl hb65 rfl (by decide) (Ev.not rfl) ?_
    refine Qt.run rfl rfl (by decide) (Ev.pickT rfl hb65 rfl) ?_
    exact Qt.meet (!x71) ⟨rfl, rfl, rfl, rfl, rfl, rfl, rfl, rfl, rfl, rfl, rfl, rfl, rfl, trivial⟩ (some_inj H)
  rintro y64 hy
  subst hy
  refine Qt.as (e' := [(0, .int .i64 a0), (1, Sl.v s_a1), (5, Sl.v s6), (6, .int .i64 (i11 : Int)), (7, Sl.v s51), (8, .int .i64 x42), (10, .pointer (some ⟨b61, 0, none⟩)), (13, .int .i64 a0), (14, .int .i64 (i11 : Int)), (32, Sl.v s_a1), (33, .int .i64 (a1.length : Int)), (34, .int .i64 (i50 : Int)), (52, .bool y64)]) ⟨rfl, rfl, rfl, rfl, rfl, rfl, rfl, rfl, rfl, rfl, rfl, rfl, rfl, trivial⟩ ?_
  replace H := HKo63
  refine Qt.done ?_
  refine At.then ?_
  rcases (Bool.eq_false_or_eq_true y64).symm with hb74 | hb74
  · replace H := ite_f hb74 H
    refine Cd.condF rfl hb74 ?_
    refine Cd.skip ?_
    refine At.in_normal ?_
    refine At.then ?_
    refine Cd.region ?_
    refine Lst.run rfl rfl (by decide) (Ev.incr (by omega) rfl rfl) ?_
    refine Lst.run rfl rfl (by decide) (Ev.move rfl) ?_
    refine Lst.nil ?_
    refine At.less (L' := (.own s51 3 1 (encs l52)) :: (.rows (α := Bool) 4 rs54) :: (.own s6 44 1 (encs rs54)) :: (.own Sl.nil 44 1 (encs ([] : List (LR Bool)))) :: L) (List.Sublist.cons _ (List.Sublist.cons_cons _ (List.Sublist.cons_cons _ (List.Sublist.cons_cons _ (List.Sublist.cons_cons _ (List.Sublist.refl _)))))) ?_
    exact At.meet (i50 + 1, k50, s51, l52, l53, rs54) hF57 ⟨rfl, rfl, rfl, rfl, rfl, rfl, rfl, rfl, rfl, rfl, rfl, trivial⟩ rfl ⟨⟨hgo50 _ (some_inj H).symm, by omega, fm55⟩, Nat.lt_succ_self _⟩
  replace H := ite_t hb74 H
  refine Cd.condT rfl hb74 ?_
  refine Cd.seq ?_
  refine Cd.tail 7 (by kernel_rfl) (by kernel_rfl) ?_
  refine Qt.run rfl rfl (by decide) (Ev.move rfl) ?_
  refine Qt.run rfl rfl (by decide) (Ev.move rfl) ?_
  obtain ⟨x75, h76, H⟩ := bind_some H
  have g77 := lat_some h76
  obtain ⟨⟨r78v, r78h⟩, r78g, r78e, r78m⟩ := map_get fm55 g77.2.2
  obtain rfl : x75 = r78v := r78e.symm
  have hh79 := row_h r78g
  refine Qt.run rfl rfl (by decide) (Ev.indexS (α := LR Bool) (xs := rs54) rfl rfl Try.runUnderlying42 Try.sizeOf44 rfl (by decide) (Rd.own (i := 3) rfl rfl rfl) g77.1 (by have := map_len fm55; omega)) ?_
  refine Qt.run rfl rfl (by decide) (Ev.loadS (α := LR Bool) rfl (Rd.own (i := 3) rfl rfl rfl) Try.isAgg44 (v := Sl.v r78h) ((Get.elemN (s := 1) rfl r78g (Get.here _)).off (by omega))) ?_
  refine Qt.run rfl rfl (by decide) (Ev.fieldAddr (off' := 1) rfl Try.runUnderlying46 rfl Try.sizeOf3 rfl rfl) ?_
  refine Qt.run rfl rfl (by decide) (Ev.load (i := 0) rfl rfl Try.isAgg3 (v := .int .i64 x58.B) ((Pair.get_B (Get.here _)).off (by rfl))) ?_
  obtain ⟨x80, h81, H⟩ := bind_some H
  have g82 := lat_some h81
  refine Qt.run rfl rfl (by decide) (Ev.indexS (α := Bool) (xs := x75) rfl rfl Try.runUnderlying44 Try.sizeOf4 rfl (by decide) (Rd.row (j := 2) rfl r78g) g82.1 g82.2.1) ?_
  refine Qt.tail ?_
  obtain ⟨p83, h84, H⟩ := Let_some H
  have hm85 : (rs54.set (i11 : Int).toNat (LR.mk (x75.set x58.B.toNat true) r78h)).map LR.v = p83 := (map_set fm55 _ _).trans h84
  refine Lst.front (i := 2) rfl (L' := (.rows (α := Bool) 4 rs54) :: (.blk b61 (enc x58) 46) :: (.own s51 3 1 (encs l52)) :: (.own s6 44 1 (encs rs54)) :: (.own Sl.nil 44 1 (encs ([] : List (LR Bool)))) :: L) rfl ?_
  refine Lst.storeR (α := Bool) rfl rfl rfl rfl r78g Try.sizeOf4 (vs := [.bool true]) rfl rfl (by decide) rfl (xs' := (x75.set x58.B.toNat true)) ((Put.elemN (s := 1) (x := x80) rfl g82.2.2 (Put.here (vs := [.bool true]) rfl)).off (by omega)) ?_
  refine Lst.its (L' := (.rows (α := Bool) 4 (rs54.set (i11 : Int).toNat (LR.mk (x75.set x58.B.toNat true) r78h))) :: (.blk b61 (enc x58) 46) :: (.own s51 3 1 (encs l52)) :: (.own s6 44 1 (encs (rs54.set (i11 : Int).toNat (LR.mk (x75.set x58.B.toNat true) r78h)))) :: (.own Sl.nil 44 1 (encs ([] : List (LR Bool)))) :: L) (by rw [show encs (rs54.set (i11 : Int).toNat (LR.mk (x75.set x58.B.toNat true) r78h)) = encs rs54 from encs_rowv r78g]) ?_
  refine Lst.nil ?_
  refine At.then ?_
  refine Cd.region ?_
  refine Lst.run rfl rfl (by decide) (Ev.move rfl) ?_
  refine Lst.run rfl rfl (by decide) (Ev.fieldAddr (off' := 1) rfl Try.runUnderlying46 rfl Try.sizeOf3 rfl rfl) ?_
  refine Lst.run rfl rfl (by decide) (Ev.load (i := 1) rfl rfl Try.isAgg3 (v := .int .i64 x58.B) ((Pair.get_B (Get.here _)).off (by rfl))) ?_
  refine Lst.buildSlice (α := Int) (xs := ([x58.B] : List Int)) (pv := [(0, .int .i64 x58.B)]) rfl rfl (by decide) ⟨rfl, rfl, trivial⟩ (run_buildSlice (α := Int) (z0 := (0 : Int)) (xs := ([x58.B] : List Int)) Try.runUnderlying36 Try.sizeOf3 Try.zeroValue3 rfl rfl rfl (by decide) rfl (fill_cons (cs := encs (List.replicate 1 (0 : Int))) (cs' := encs ((List.replicate 1 (0 : Int)).set 0 x58.B)) (vs := [.int .i64 x58.B]) rfl rfl rfl ((Put.elemN (s := 1) (i := 0) (x := (0 : Int)) (y := x58.B) rfl rfl (Put.here (vs := [.int .i64 x58.B]) rfl)).off rfl) fill_nil)) rfl rfl (by decide) (fun s87 _ => ?_)
  obtain ⟨u89, h90, H⟩ := bind_some H
  refine Lst.append (i := 3) (α := Int) (xs := l52) (ys := ([x58.B] : List Int)) rfl rfl (by decide) rfl rfl Try.runUnderlying36 Try.typeInfo3 rfl rfl rfl rfl rfl rfl (Rd.own (i := 0) rfl rfl rfl) rfl (room_some h90) rfl (fun s91 => ?_)
  refine Lst.its (L' := (.own s87 3 1 (encs ([x58.B] : List Int))) :: (.rows (α := Bool) 4 (rs54.set (i11 : Int).toNat (LR.mk (x75.set x58.B.toNat true) r78h))) :: (.blk b61 (enc x58) 46) :: (.own s91 3 1 (encs (l52 ++ ([x58.B] : List Int)))) :: (.own s6 44 1 (encs (rs54.set (i11 : Int).toNat (LR.mk (x75.set x58.B.toNat true) r78h)))) :: (.own Sl.nil 44 1 (encs ([] : List (LR Bool)))) :: L) rfl ?_
  refine Lst.run rfl rfl (by decide) (Ev.assign rfl) ?_
  refine Lst.nil ?_
  refine At.in_normal ?_
  refine At.then ?_
  refine Cd.as (e' := [(0, .int .i64 a0), (1, Sl.v s_a1), (5, Sl.v s6), (6, .int .i64 (i11 : Int)), (8, .int .i64 x42), (13, .int .i64 a0), (14, .int .i64 (i11 : Int)), (32, Sl.v s_a1), (33, .int .i64 (a1.length : Int)), (34, .int .i64 (i50 : Int)), (7, Sl.v s91)]) (L' := (.own s87 3 1 (encs ([x58.B] : List Int))) :: (.rows (α := Bool) 4 (rs54.set (i11 : Int).toNat (LR.mk (x75.set x58.B.toNat true) r78h))) :: (.blk b61 (enc x58) 46) :: (.own s91 3 1 (encs (l52 ++ ([x58.B] : List Int)))) :: (.own s6 44 1 (encs (rs54.set (i11 : Int).toNat (LR.mk (x75.set x58.B.toNat true) r78h)))) :: (.own Sl.nil 44 1 (encs ([] : List (LR Bool)))) :: L) ⟨rfl, rfl, rfl, rfl, rfl, rfl, rfl, rfl, rfl, rfl, rfl, trivial⟩ rfl ?_
  refine Cd.region ?_
  refine Lst.run rfl rfl (by decide) (Ev.incr (by omega) rfl rfl) ?_
  refine Lst.run rfl rfl (by decide) (Ev.move rfl) ?_
  refine Lst.nil ?_
  refine At.front (i := 5) rfl rfl ?_
  refine At.front (i := 5) rfl rfl ?_
  refine At.front (i := 3) rfl rfl ?_
  refine At.front (i := 5) rfl rfl ?_
  refine At.less (L' := (.own s91 3 1 (encs (l52 ++ ([x58.B] : List Int)))) :: (.rows (α := Bool) 4 (rs54.set (i11 : Int).toNat (LR.mk (x75.set x58.B.toNat true) r78h))) :: (.own s6 44 1 (encs (rs54.set (i11 : Int).toNat (LR.mk (x75.set x58.B.toNat true) r78h)))) :: (.own Sl.nil 44 1 (encs ([] : List (LR Bool)))) :: L) (List.Sublist.cons_cons _ (List.Sublist.cons_cons _ (List.Sublist.cons_cons _ (List.Sublist.cons_cons _ (List.Sublist.cons _ (List.Sublist.cons _ (List.Sublist.refl _))))))) ?_
  exact At.meet (i50 + 1, k50, s91, l52 ++ ([x58.B] : List Int), p83, (rs54.set (i11 : Int).toNat (LR.mk (x75.set x58.B.toNat true) r78h))) hF57 ⟨rfl, rfl, rfl, rfl, rfl, rfl, rfl, rfl, rfl, rfl, rfl, trivial⟩ rfl ⟨⟨hgo50 _ (some_inj H).symm, by omega, hm85⟩, Nat.lt_succ_self _⟩
set_option maxRecDepth 20000 in
theorem partref_Causes_sim {fu : Nat} {a0 : List Event} {s_a0 : Sl} {r : (List (List Bool))} (H : partref_Causes fu a0 = some r) (w0 : World) (F : Frz) (M L : List Item) (hM : M.Sublist L) (hs_a0 : Rd w0 F M s_a0 a0) : Ok Try.prog w0 23 [Sl.v s_a0] F (L) (fun Fx L' v => ∃ (s1 : Sl) (rs2 : List (LR Bool)), v = Sl.v s1 ∧ L' = (.rows (α := Bool) 4 rs2) :: (.own s1 44 1 (encs rs2)) :: L ∧ rs2.map LR.v = r) := by
  unfold partref_Causes at H
  refine Ok.enter (m := 1) (n := 60) Try.func23 rfl rfl rfl (by decide) ?_
  refine Cd.env (e' := [(0, Sl.v s_a0)]) rfl ?_
  refine Cd.seq ?_
  refine Cd.region ?_
  have ha2 : All LR.rel w0 F [] ([] : List (LR Bool)) := All.nil
  have ha2m : List.map LR.v ([] : List (LR Bool)) = ([] : List (List Bool)) := rfl
  refine Lst.addNil 44 1 ?_
  refine Lst.run rfl rfl (by decide) (Ev.assign rfl) ?_
  refine Lst.nil ?_
  refine At.then ?_
  refine Cd.seq ?_
  refine Cd.region ?_
  refine Lst.addNil 46 2 ?_
  refine Lst.run rfl rfl (by decide) (Ev.assign rfl) ?_
  refine Lst.nil ?_
  refine At.then ?_
  refine Cd.seq ?_
  refine Cd.seq ?_
  refine Cd.region ?_
  refine Lst.run rfl rfl (by decide) (Ev.move rfl) ?_
  refine Lst.run rfl rfl (by decide) (Ev.lenS (α := Event) (xs := a0) (by decide) rfl rfl Try.runUnderlying24 (hs_a0.mono (FLe.refl _) (List.Sublist.cons _ (List.Sublist.cons _ hM)))) ?_
  refine Lst.run rfl rfl (by decide) (Ev.move rfl) ?_
  refine Lst.nil ?_
  refine At.then ?_
  refine Cd.block ?_
  refine Cd.bound (Rd.le (α := Event) (xs := a0) (by decide) (hs_a0.mono (FLe.refl _) (List.Sublist.cons _ (List.Sublist.cons _ hM)))) (fun hN57 => ?_)
  obtain ⟨ol4, H, HKl4⟩ := bind_some H
  refine Cd.loop (σ := Nat × Nat × Sl × (List Pair)) (fun (i4, k4, s5, l6) => [(0, Sl.v s_a0), (3, Sl.v s5), (8, Sl.v s_a0), (9, .int .i64 (a0.length : Int)), (10, .int .i64 (i4 : Int))]) (fun (i4, k4, s5, l6) => (.own s5 46 2 (encs l6)) :: (.own Sl.nil 44 1 (encs ([] : List (LR Bool)))) :: L) (fun _ => (fun (i4, k4, s5, l6) => rangeF (partref_Causes_B0 fu a0) k4 i4 l6 = some ol4 ∧ i4 + k4 = a0.length)) (fun (i4, k4, s5, l6) => k4) (0, a0.length, Sl.nil, ([] : List Pair)) ⟨rfl, rfl, rfl, rfl, rfl, trivial⟩ rfl ⟨H, by omega⟩ ?_
  rintro F7 ⟨i4, k4, s5, l6⟩ hF8 ⟨H, hik4⟩
  refine Cd.as (e' := [(0, Sl.v s_a0), (3, Sl.v s5), (8, Sl.v s_a0), (9, .int .i64 (a0.length : Int)), (10, .int .i64 (i4 : Int))]) (L' := (.own s5 46 2 (encs l6)) :: (.own Sl.nil 44 1 (encs ([] : List (LR Bool)))) :: L) ⟨rfl, rfl, rfl, rfl, rfl, trivial⟩ rfl ?_
  rcases k4 with _ | k4
  · have hc4 : decide ((i4 : Int) < (a0.length : Int)) = false := decide_eq_false (by omega)
    replace H := rangeF_end H
    refine Cd.seq ?_
    refine Cd.region ?_
    refine Lst.run rfl rfl (by decide) (Ev.lss rfl rfl) ?_
    refine Lst.nil ?_
    refine At.then ?_
    refine Cd.seq ?_
    refine Cd.condF rfl hc4 ?_
    refine Cd.exit ?_
    refine At.then_exit ?_
    refine At.then_exit ?_
    refine At.in_exit ?_
    subst H
    replace H := HKl4
    refine At.then ?_
    refine Cd.seq ?_
    refine Cd.region ?_
    refine Lst.run rfl rfl (by decide) (Ev.move rfl) ?_
    refine Lst.run rfl rfl (by decide) (Ev.lenS (α := Event) (xs := a0) (by decide) rfl rfl Try.runUnderlying24 (hs_a0.mono hF8 (List.Sublist.cons _ (List.Sublist.cons _ hM)))) ?_
    refine Lst.run rfl rfl (by decide) (Ev.move rfl) ?_
    obtain ⟨r48, h49, H⟩ := bind_some H
    refine Lst.call rfl rfl (by decide) (vs := [.int .i64 (a0.length : Int), Sl.v s5]) ⟨rfl, rfl, trivial⟩ Try.call52 (partref_Closure_sim h49 w0 _ _ _ (List.Sublist.refl _) (Rd.own (i := 0) rfl rfl rfl)) (fun F55 L' v hF56 hv => ?_)
    obtain ⟨s50, rs51, rfl, rfl, fm52⟩ := hv
    refine Lst.run rfl rfl (by decide) (Ev.assign rfl) ?_
    refine Lst.nil ?_
    refine At.then ?_
    obtain rfl := some_inj H
    refine Cd.ret ?_
    exact At.ret1 rfl (Res.tmp rfl) (FLe.trans hF8 hF56) (List.Sublist.cons_cons _ (List.Sublist.cons_cons _ (List.Sublist.cons _ (List.Sublist.cons _ (List.Sublist.refl _))))) ⟨s50, rs51, rfl, rfl, fm52⟩
  have hc4 : decide ((i4 : Int) < (a0.length : Int)) = true := decide_eq_true (by omega)
  obtain ⟨c4, H, hgo4⟩ := rangeF_go H
  unfold partref_Causes_B0 at H
  try dsimp only at H
  refine Cd.seq ?_
  refine Cd.region ?_
  refine Lst.run rfl rfl (by decide) (Ev.lss rfl rfl) ?_
  refine Lst.nil ?_
  refine At.then ?_
  refine Cd.seq ?_
  refine Cd.condT rfl hc4 ?_
  refine Cd.skip ?_
  refine At.then ?_
  refine Cd.seq ?_
  refine Cd.block ?_
  refine Cd.seq ?_
  refine Cd.region ?_
  refine Lst.run rfl rfl (by decide) (Ev.move rfl) ?_
  obtain ⟨x9, h10, H⟩ := bind_some H
  have g11 := lat_some h10
  refine Lst.run rfl rfl (by decide) (Ev.indexS (α := Event) (xs := a0) rfl rfl Try.runUnderlying24 Try.sizeOf75 rfl (by decide) (hs_a0.mono hF8 (List.Sublist.cons _ (List.Sublist.cons _ hM))) g11.1 g11.2.1) ?_
  refine Lst.run rfl rfl (by decide) (Ev.loadSA (α := Event) rfl (hs_a0.mono hF8 (List.Sublist.cons _ (List.Sublist.cons _ hM))) Try.isAgg75 Try.sizeOf75 (ch := enc x9) (Enc.len _) (by decide) ((Get.elemN (s := 3) (x := x9) rfl g11.2.2 (Get.here _)).off (by omega))) ?_
  refine Lst.alloc (cs := enc Event.zero) rfl rfl (by decide) Try.zeroValue75 rfl (fun b12 => ?_)
  refine Lst.run rfl rfl (by decide) (Ev.assign rfl) ?_
  refine Lst.store (i := 0) rfl rfl rfl rfl rfl Try.sizeOf75 (vs := enc x9) rfl (Enc.len _) (Enc.one _) (cs' := enc x9) (Put.here ((Enc.len _).trans (Enc.len _).symm)) (L' := (.blk b12 (enc x9) 75) :: (.own s5 46 2 (encs l6)) :: (.own Sl.nil 44 1 (encs ([] : List (LR Bool)))) :: L) rfl ?_
  refine Lst.nil ?_
  refine At.then ?_
  refine Cd.seq ?_
  refine Cd.region ?_
  refine Lst.run rfl rfl (by decide) (Ev.move rfl) ?_
  refine Lst.run rfl rfl (by decide) (Ev.add rfl rfl) ?_
  refine Lst.run rfl rfl (by decide) (Ev.assign rfl) ?_
  refine Lst.nil ?_
  refine At.then ?_
  refine Cd.block ?_
  obtain ⟨ol14, H, HKl14⟩ := andThen_some H
  refine Cd.loop (σ := Nat × Int × Sl × (List Pair)) (fun (k14, y15, s16, l17) => [(0, Sl.v s_a0), (3, Sl.v s16), (4, .int .i64 (i4 : Int)), (5, .pointer (some ⟨b12, 0, none⟩)), (6, .int .i64 y15), (8, Sl.v s_a0), (9, .int .i64 (a0.length : Int)), (10, .int .i64 (i4 : Int))]) (fun (k14, y15, s16, l17) => (.blk b12 (enc x9) 75) :: (.own s16 46 2 (encs l17)) :: (.own Sl.nil 44 1 (encs ([] : List (LR Bool)))) :: L) (fun _ => (fun (k14, y15, s16, l17) => whileM (partref_Causes_B2 a0 i4 x9) k14 (y15, l17) = some ol14)) (fun (k14, y15, s16, l17) => k14) (fu, w64 ((i4 : Int) + (1 : Int)), s5, l6) ⟨rfl, rfl, rfl, rfl, rfl, rfl, rfl, rfl, trivial⟩ rfl H ?_
  rintro F18 ⟨k14, y15, s16, l17⟩ hF19 H
  refine Cd.as (e' := [(0, Sl.v s_a0), (3, Sl.v s16), (4, .int .i64 (i4 : Int)), (5, .pointer (some ⟨b12, 0, none⟩)), (6, .int .i64 y15), (8, Sl.v s_a0), (9, .int .i64 (a0.length : Int)), (10, .int .i64 (i4 : Int))]) (L' := (.blk b12 (enc x9) 75) :: (.own s16 46 2 (encs l17)) :: (.own Sl.nil 44 1 (encs ([] : List (LR Bool)))) :: L) ⟨rfl, rfl, rfl, rfl, rfl, rfl, rfl, rfl, trivial⟩ rfl ?_
  rcases k14 with _ | k14
  · cases H
  obtain ⟨c14, H, hgo14, hbrk14, hret14⟩ := whileM_go H
  unfold partref_Causes_B2 at H
  try dsimp only at H
  refine Cd.seq ?_
  refine Cd.seq ?_
  refine Cd.region ?_
  refine Lst.run rfl rfl (by decide) (Ev.move rfl) ?_
  refine Lst.run rfl rfl (by decide) (Ev.move rfl) ?_
  refine Lst.run rfl rfl (by decide) (Ev.lenS (α := Event) (xs := a0) (by decide) rfl rfl Try.runUnderlying24 (hs_a0.mono (FLe.trans hF8 hF19) (List.Sublist.cons _ (List.Sublist.cons _ (List.Sublist.cons _ hM))))) ?_
  refine Lst.run rfl rfl (by decide) (Ev.lss rfl rfl) ?_
  refine Lst.nil ?_
  refine At.then ?_
  rcases (Bool.eq_false_or_eq_true (decide (y15 < (a0.length : Int)))).symm with hb20 | hb20
  · replace H := ite_f hb20 H
    refine Cd.condF rfl hb20 ?_
    refine Cd.exit ?_
    refine At.then_exit ?_
    refine At.then_exit ?_
    refine At.in_exit ?_
    have H := hbrk14 _ (some_inj H).symm
    subst H
    replace H := HKl14
    refine At.in_normal ?_
    refine At.then ?_
    refine Cd.region ?_
    refine Lst.run rfl rfl (by decide) (Ev.incr (by omega) rfl rfl) ?_
    refine Lst.run rfl rfl (by decide) (Ev.move rfl) ?_
    refine Lst.nil ?_
    refine At.less (L' := (.own s16 46 2 (encs l17)) :: (.own Sl.nil 44 1 (encs ([] : List (LR Bool)))) :: L) (List.Sublist.cons _ (List.Sublist.cons_cons _ (List.Sublist.cons_cons _ (List.Sublist.refl _)))) ?_
    exact At.meet (i4 + 1, k4, s16, l17) (FLe.trans hF8 hF19) ⟨rfl, rfl, rfl, rfl, rfl, trivial⟩ rfl ⟨⟨hgo4 _ (some_inj H).symm, by omega⟩, Nat.lt_succ_self _⟩
  replace H := ite_t hb20 H
  refine Cd.condT rfl hb20 ?_
  refine Cd.skip ?_
  refine At.then ?_
  refine Cd.seq ?_
  refine Cd.block ?_
  refine Cd.seq ?_
  refine Cd.region ?_
  refine Lst.run rfl rfl (by decide) (Ev.move rfl) ?_
  refine Lst.run rfl rfl (by decide) (Ev.move rfl) ?_
  obtain ⟨x21, h22, H⟩ := bind_some H
  have g23 := lat_some h22
  refine Lst.run rfl rfl (by decide) (Ev.indexS (α := Event) (xs := a0) rfl rfl Try.runUnderlying24 Try.sizeOf75 rfl (by decide) (hs_a0.mono (FLe.trans hF8 hF19) (List.Sublist.cons _ (List.Sublist.cons _ (List.Sublist.cons _ hM)))) g23.1 g23.2.1) ?_
  refine Lst.run rfl rfl (by decide) (Ev.loadSA (α := Event) rfl (hs_a0.mono (FLe.trans hF8 hF19) (List.Sublist.cons _ (List.Sublist.cons _ (List.Sublist.cons _ hM)))) Try.isAgg75 Try.sizeOf75 (ch := enc x21) (Enc.len _) (by decide) ((Get.elemN (s := 3) (x := x21) rfl g23.2.2 (Get.here _)).off (by omega))) ?_
  refine Lst.alloc (cs := enc Event.zero) rfl rfl (by decide) Try.zeroValue75 rfl (fun b24 => ?_)
  refine Lst.store (i := 0) rfl rfl rfl rfl rfl Try.sizeOf75 (vs := enc x21) rfl (Enc.len _) (Enc.one _) (cs' := enc x21) (Put.here ((Enc.len _).trans (Enc.len _).symm)) (L' := (.blk b24 (enc x21) 75) :: (.blk b12 (enc x9) 75) :: (.own s16 46 2 (encs l17)) :: (.own Sl.nil 44 1 (encs ([] : List (LR Bool)))) :: L) rfl ?_
  refine Lst.nil ?_
  refine At.then ?_
  refine Cd.seq ?_
  refine Cd.region ?_
  refine Lst.run rfl rfl (by decide) (Ev.fieldAddr (off' := 0) rfl Try.runUnderlying75 rfl Try.sizeOf3 rfl rfl) ?_
  refine Lst.run rfl rfl (by decide) (Ev.load (i := 1) rfl rfl Try.isAgg3 (v := .int .i64 x9.Proc) ((Event.get_Proc (Get.here _)).off (by rfl))) ?_
  refine Lst.run rfl rfl (by decide) (Ev.fieldAddr (off' := 0) rfl Try.runUnderlying75 rfl Try.sizeOf3 rfl rfl) ?_
  refine Lst.run rfl rfl (by decide) (Ev.load (i := 0) rfl rfl Try.isAgg3 (v := .int .i64 x21.Proc) ((Event.get_Proc (Get.here _)).off (by rfl))) ?_
  refine Lst.run rfl rfl (by decide) (Ev.eql rfl rfl) ?_
  refine Lst.run rfl rfl (by decide) (Ev.move rfl) ?_
  rcases Bool.eq_false_or_eq_true (x9.Proc == x21.Proc) with hb26 | hb26
  · replace H := ite_t hb26 H
    refine Lst.skip rfl rfl rfl hb26 rfl (by decide) ?_
    refine Lst.skip rfl rfl rfl hb26 rfl (by decide) ?_
    refine Lst.skip rfl rfl rfl hb26 rfl (by decide) ?_
    refine Lst.skip rfl rfl rfl hb26 rfl (by decide) ?_
    refine Lst.skipU rfl rfl rfl rfl (by decide) ?_
    refine Lst.skipU rfl rfl rfl rfl (by decide) ?_
    refine Lst.skipU rfl rfl rfl rfl (by decide) ?_
    refine Lst.skip rfl rfl rfl hb26 rfl (by decide) ?_
    refine Lst.skip rfl rfl rfl hb26 rfl (by decide) ?_
    refine Lst.skipU rfl rfl rfl rfl (by decide) ?_
    refine Lst.skipU rfl rfl rfl rfl (by decide) ?_
    refine Lst.skipU rfl rfl rfl rfl (by decide) ?_
    refine Lst.skipU rfl rfl rfl rfl (by decide) ?_
    refine Lst.skipU rfl rfl rfl rfl (by decide) ?_
    refine Lst.skip rfl rfl rfl hb26 rfl (by decide) ?_
    refine Lst.run rfl rfl (by decide) (Ev.pickT rfl hb26 rfl) ?_
    refine Lst.nil ?_
    refine At.then ?_
    refine Cd.condT rfl rfl ?_
    refine Cd.as (e' := [(0, Sl.v s_a0), (3, Sl.v s16), (4, .int .i64 (i4 : Int)), (5, .pointer (some ⟨b12, 0, none⟩)), (6, .int .i64 y15), (8, Sl.v s_a0), (9, .int .i64 (a0.length : Int)), (10, .int .i64 (i4 : Int))]) (L' := (.blk b24 (enc x21) 75) :: (.blk b12 (enc x9) 75) :: (.own s16 46 2 (encs l17)) :: (.own Sl.nil 44 1 (encs ([] : List (LR Bool)))) :: L) ⟨rfl, rfl, rfl, rfl, rfl, rfl, rfl, rfl, trivial⟩ rfl ?_
    refine Cd.region ?_
    refine Lst.run rfl rfl (by decide) (Ev.move rfl) ?_
    refine Lst.run rfl rfl (by decide) (Ev.move rfl) ?_
    refine Lst.run rfl rfl (by decide) (Ev.move rfl) ?_
    refine Lst.run rfl rfl (by decide) (Ev.build (v := .agg (enc ({ Pair.zero with A := (i4 : Int), B := y15 } : Pair)).toArray) (pv := [(0, .int .i64 (i4 : Int)), (1, .int .i64 y15)]) ⟨rfl, rfl, ⟨rfl, rfl, trivial⟩⟩ (fun w => by kernel_rfl)) ?_
    refine Lst.buildSlice (α := Pair) (xs := ([({ Pair.zero with A := (i4 : Int), B := y15 } : Pair)] : List Pair)) (pv := [(0, .agg (enc ({ Pair.zero with A := (i4 : Int), B := y15 } : Pair)).toArray)]) rfl rfl (by decide) ⟨rfl, rfl, trivial⟩ (run_buildSlice (α := Pair) (z0 := Pair.zero) (xs := ([({ Pair.zero with A := (i4 : Int), B := y15 } : Pair)] : List Pair)) Try.runUnderlying39 Try.sizeOf46 Try.zeroValue46 rfl rfl rfl (by decide) rfl (fill_cons (cs := encs (List.replicate 1 Pair.zero)) (cs' := encs ((List.replicate 1 Pair.zero).set 0 ({ Pair.zero with A := (i4 : Int), B := y15 } : Pair))) (vs := enc ({ Pair.zero with A := (i4 : Int), B := y15 } : Pair)) rfl rfl (Enc.len _) ((Put.elemN (s := 2) (i := 0) (x := Pair.zero) (y := ({ Pair.zero with A := (i4 : Int), B := y15 } : Pair)) rfl rfl (Put.here ((Enc.len _).trans (Enc.len _).symm))).off rfl) fill_nil)) rfl rfl (by decide) (fun s27 _ => ?_)
    obtain ⟨u29, h30, H⟩ := bind_some H
    refine Lst.append (i := 3) (α := Pair) (xs := l17) (ys := ([({ Pair.zero with A := (i4 : Int), B := y15 } : Pair)] : List Pair)) rfl rfl (by decide) rfl rfl Try.runUnderlying39 Try.typeInfo46 rfl rfl rfl rfl rfl rfl (Rd.own (i := 0) rfl rfl rfl) rfl (room_some h30) rfl (fun s31 => ?_)
    refine Lst.its (L' := (.own s27 46 2 (encs ([({ Pair.zero with A := (i4 : Int), B := y15 } : Pair)] : List Pair))) :: (.blk b24 (enc x21) 75) :: (.blk b12 (enc x9) 75) :: (.own s31 46 2 (encs (l17 ++ ([({ Pair.zero with A := (i4 : Int), B := y15 } : Pair)] : List Pair)))) :: (.own Sl.nil 44 1 (encs ([] : List (LR Bool)))) :: L) rfl ?_
    refine Lst.run rfl rfl (by decide) (Ev.assign rfl) ?_
    refine Lst.nil ?_
    refine At.in_normal ?_
    refine At.then ?_
    refine Cd.region ?_
    refine Lst.run rfl rfl (by decide) (Ev.move rfl) ?_
    refine Lst.run rfl rfl (by decide) (Ev.add rfl rfl) ?_
    refine Lst.run rfl rfl (by decide) (Ev.assign rfl) ?_
    refine Lst.nil ?_
    refine At.less (L' := (.blk b12 (enc x9) 75) :: (.own s31 46 2 (encs (l17 ++ ([({ Pair.zero with A := (i4 : Int), B := y15 } : Pair)] : List Pair)))) :: (.own Sl.nil 44 1 (encs ([] : List (LR Bool)))) :: L) (List.Sublist.cons _ (List.Sublist.cons _ (List.Sublist.cons_cons _ (List.Sublist.cons_cons _ (List.Sublist.cons_cons _ (List.Sublist.refl _)))))) ?_
    exact At.meet (k14, w64 (y15 + (1 : Int)), s31, l17 ++ ([({ Pair.zero with A := (i4 : Int), B := y15 } : Pair)] : List Pair)) hF19 ⟨rfl, rfl, rfl, rfl, rfl, rfl, rfl, rfl, trivial⟩ rfl ⟨hgo14 _ (some_inj H).symm, Nat.lt_succ_self _⟩
  replace H := ite_f hb26 H
  refine Lst.runG rfl rfl rfl hb26 rfl (by decide) (Ev.fieldAddr (off' := 1) rfl Try.runUnderlying75 rfl Try.sizeOf3 rfl rfl) ?_
  refine Lst.runG rfl rfl rfl hb26 rfl (by decide) (Ev.load (i := 1) rfl rfl Try.isAgg3 (v := .int .i64 x9.Kind) ((Event.get_Kind (Get.here _)).off (by rfl))) ?_
  refine Lst.runG rfl rfl rfl hb26 rfl (by decide) (Ev.eql rfl rfl) ?_
  refine Lst.runG rfl rfl rfl hb26 rfl (by decide) (Ev.move rfl) ?_
  obtain ⟨o32, H, HKo32⟩ := bind_some H
  refine Lst.join (σ := Bool) 4 (fun y33 => [(0, Sl.v s_a0), (3, Sl.v s16), (4, .int .i64 (i4 : Int)), (5, .pointer (some ⟨b12, 0, none⟩)), (6, .int .i64 y15), (7, .pointer (some ⟨b24, 0, none⟩)), (8, Sl.v s_a0), (9, .int .i64 (a0.length : Int)), (10, .int .i64 (i4 : Int)), (32, .bool (x9.Proc == x21.Proc)), (40, .bool y33)]) (fun y33 => (.blk b24 (enc x21) 75) :: (.blk b12 (enc x9) 75) :: (.own s16 46 2 (encs l17)) :: (.own Sl.nil 44 1 (encs ([] : List (LR Bool)))) :: L) (fun _ y33 => y33 = o32) ?_ ?_
  · rcases (Bool.eq_false_or_eq_true (x9.Kind == (2 : Int))).symm with hb34 | hb34
    · replace H := ite_f hb34 H
      refine Lst.skip rfl rfl rfl hb34 rfl (by decide) ?_
      refine Lst.skip rfl rfl rfl hb34 rfl (by decide) ?_
      refine Lst.skip rfl rfl rfl hb34 rfl (by decide) ?_
      refine Lst.runG rfl rfl rfl hb26 rfl (by decide) (Ev.pickF rfl hb34 rfl) ?_
      refine Lst.nil ?_
      exact At.meet false (FLe.refl _) ⟨rfl, rfl, rfl, rfl, rfl, rfl, rfl, rfl, rfl, rfl, rfl, trivial⟩ rfl (some_inj H)
    replace H := ite_t hb34 H
    refine Lst.runG rfl rfl rfl hb34 rfl (by decide) (Ev.fieldAddr (off' := 1) rfl Try.runUnderlying75 rfl Try.sizeOf3 rfl rfl) ?_
    refine Lst.runG rfl rfl rfl hb34 rfl (by decide) (Ev.load (i := 0) rfl rfl Try.isAgg3 (v := .int .i64 x21.Kind) ((Event.get_Kind (Get.here _)).off (by rfl))) ?_
    refine Lst.runG rfl rfl rfl hb34 rfl (by decide) (Ev.eql rfl rfl) ?_
    refine Lst.runG rfl rfl rfl hb26 rfl (by decide) (Ev.pickT rfl hb34 rfl) ?_
    refine Lst.nil ?_
    exact At.meet (x21.Kind == (3 : Int)) (FLe.refl _) ⟨rfl, rfl, rfl, rfl, rfl, rfl, rfl, rfl, rfl, rfl, rfl, trivial⟩ rfl (some_inj H)
  rintro F35 y33 hF36 hy
  subst hy
  refine Lst.as (e' := [(0, Sl.v s_a0), (3, Sl.v s16), (4, .int .i64 (i4 : Int)), (5, .pointer (some ⟨b12, 0, none⟩)), (6, .int .i64 y15), (7, .pointer (some ⟨b24, 0, none⟩)), (8, Sl.v s_a0), (9, .int .i64 (a0.length : Int)), (10, .int .i64 (i4 : Int)), (32, .bool (x9.Proc == x21.Proc)), (40, .bool y33)]) (L' := (.blk b24 (enc x21) 75) :: (.blk b12 (enc x9) 75) :: (.own s16 46 2 (encs l17)) :: (.own Sl.nil 44 1 (encs ([] : List (LR Bool)))) :: L) ⟨rfl, rfl, rfl, rfl, rfl, rfl, rfl, rfl, rfl, rfl, rfl, trivial⟩ rfl ?_
  replace H := HKo32
  refine Lst.runG rfl rfl rfl hb26 rfl (by decide) (Ev.move rfl) ?_
  obtain ⟨o37, H, HKo37⟩ := bind_some H
  refine Lst.join (σ := Bool) 6 (fun y38 => [(0, Sl.v s_a0), (3, Sl.v s16), (4, .int .i64 (i4 : Int)), (5, .pointer (some ⟨b12, 0, none⟩)), (6, .int .i64 y15), (8, Sl.v s_a0), (9, .int .i64 (a0.length : Int)), (10, .int .i64 (i4 : Int)), (32, .bool (x9.Proc == x21.Proc)), (47, .bool y38)]) (fun y38 => (.blk b24 (enc x21) 75) :: (.blk b12 (enc x9) 75) :: (.own s16 46 2 (encs l17)) :: (.own Sl.nil 44 1 (encs ([] : List (LR Bool)))) :: L) (fun _ y38 => y38 = o37) ?_ ?_
  · rcases (Bool.eq_false_or_eq_true y33).symm with hb39 | hb39
    · replace H := ite_f hb39 H
      refine Lst.skip rfl rfl rfl hb39 rfl (by decide) ?_
      refine Lst.skip rfl rfl rfl hb39 rfl (by decide) ?_
      refine Lst.skip rfl rfl rfl hb39 rfl (by decide) ?_
      refine Lst.skip rfl rfl rfl hb39 rfl (by decide) ?_
      refine Lst.skip rfl rfl rfl hb39 rfl (by decide) ?_
      refine Lst.runG rfl rfl rfl hb26 rfl (by decide) (Ev.pickF rfl hb39 rfl) ?_
      refine Lst.nil ?_
      exact At.meet false (FLe.refl _) ⟨rfl, rfl, rfl, rfl, rfl, rfl, rfl, rfl, rfl, rfl, trivial⟩ rfl (some_inj H)
    replace H := ite_t hb39 H
    refine Lst.runG rfl rfl rfl hb39 rfl (by decide) (Ev.fieldAddr (off' := 2) rfl Try.runUnderlying75 rfl Try.sizeOf3 rfl rfl) ?_
    refine Lst.runG rfl rfl rfl hb39 rfl (by decide) (Ev.load (i := 1) rfl rfl Try.isAgg3 (v := .int .i64 x9.Msg) ((Event.get_Msg (Get.here _)).off (by rfl))) ?_
    refine Lst.runG rfl rfl rfl hb39 rfl (by decide) (Ev.fieldAddr (off' := 2) rfl Try.runUnderlying75 rfl Try.sizeOf3 rfl rfl) ?_
    refine Lst.runG rfl rfl rfl hb39 rfl (by decide) (Ev.load (i := 0) rfl rfl Try.isAgg3 (v := .int .i64 x21.Msg) ((Event.get_Msg (Get.here _)).off (by rfl))) ?_
    refine Lst.runG rfl rfl rfl hb39 rfl (by decide) (Ev.eql rfl rfl) ?_
    refine Lst.runG rfl rfl rfl hb26 rfl (by decide) (Ev.pickT rfl hb39 rfl) ?_
    refine Lst.nil ?_
    exact At.meet (x9.Msg == x21.Msg) (FLe.refl _) ⟨rfl, rfl, rfl, rfl, rfl, rfl, rfl, rfl, rfl, rfl, trivial⟩ rfl (some_inj H)
  rintro F40 y38 hF41 hy
  subst hy
  refine Lst.as (e' := [(0, Sl.v s_a0), (3, Sl.v s16), (4, .int .i64 (i4 : Int)), (5, .pointer (some ⟨b12, 0, none⟩)), (6, .int .i64 y15), (8, Sl.v s_a0), (9, .int .i64 (a0.length : Int)), (10, .int .i64 (i4 : Int)), (32, .bool (x9.Proc == x21.Proc)), (47, .bool y38)]) (L' := (.blk b24 (enc x21) 75) :: (.blk b12 (enc x9) 75) :: (.own s16 46 2 (encs l17)) :: (.own Sl.nil 44 1 (encs ([] : List (LR Bool)))) :: L) ⟨rfl, rfl, rfl, rfl, rfl, rfl, rfl, rfl, rfl, rfl, trivial⟩ rfl ?_
  replace H := HKo37
  refine Lst.run rfl rfl (by decide) (Ev.pickF rfl hb26 rfl) ?_
  refine Lst.nil ?_
  refine At.then ?_
  rcases (Bool.eq_false_or_eq_true y38).symm with hb42 | hb42
  · replace H := ite_f hb42 H
    refine Cd.condF rfl hb42 ?_
    refine Cd.skip ?_
    refine At.in_normal ?_
    refine At.then ?_
    refine Cd.region ?_
    refine Lst.run rfl rfl (by decide) (Ev.move rfl) ?_
    refine Lst.run rfl rfl (by decide) (Ev.add rfl rfl) ?_
    refine Lst.run rfl rfl (by decide) (Ev.assign rfl) ?_
    refine Lst.nil ?_
    refine At.less (L' := (.blk b12 (enc x9) 75) :: (.own s16 46 2 (encs l17)) :: (.own Sl.nil 44 1 (encs ([] : List (LR Bool)))) :: L) (List.Sublist.cons _ (List.Sublist.cons_cons _ (List.Sublist.cons_cons _ (List.Sublist.cons_cons _ (List.Sublist.refl _))))) ?_
    exact At.meet (k14, w64 (y15 + (1 : Int)), s16, l17) (FLe.trans (FLe.trans hF19 hF36) hF41) ⟨rfl, rfl, rfl, rfl, rfl, rfl, rfl, rfl, trivial⟩ rfl ⟨hgo14 _ (some_inj H).symm, Nat.lt_succ_self _⟩
  replace H := ite_t hb42 H
  refine Cd.condT rfl hb42 ?_
  refine Cd.region ?_
  refine Lst.run rfl rfl (by decide) (Ev.move rfl) ?_
  refine Lst.run rfl rfl (by decide) (Ev.move rfl) ?_
  refine Lst.run rfl rfl (by decide) (Ev.move rfl) ?_
  refine Lst.run rfl rfl (by decide) (Ev.build (v := .agg (enc ({ Pair.zero with A := (i4 : Int), B := y15 } : Pair)).toArray) (pv := [(0, .int .i64 (i4 : Int)), (1, .int .i64 y15)]) ⟨rfl, rfl, ⟨rfl, rfl, trivial⟩⟩ (fun w => by kernel_rfl)) ?_
  refine Lst.buildSlice (α := Pair) (xs := ([({ Pair.zero with A := (i4 : Int), B := y15 } : Pair)] : List Pair)) (pv := [(0, .agg (enc ({ Pair.zero with A := (i4 : Int), B := y15 } : Pair)).toArray)]) rfl rfl (by decide) ⟨rfl, rfl, trivial⟩ (run_buildSlice (α := Pair) (z0 := Pair.zero) (xs := ([({ Pair.zero with A := (i4 : Int), B := y15 } : Pair)] : List Pair)) Try.runUnderlying39 Try.sizeOf46 Try.zeroValue46 rfl rfl rfl (by decide) rfl (fill_cons (cs := encs (List.replicate 1 Pair.zero)) (cs' := encs ((List.replicate 1 Pair.zero).set 0 ({ Pair.zero with A := (i4 : Int), B := y15 } : Pair))) (vs := enc ({ Pair.zero with A := (i4 : Int), B := y15 } : Pair)) rfl rfl (Enc.len _) ((Put.elemN (s := 2) (i := 0) (x := Pair.zero) (y := ({ Pair.zero with A := (i4 : Int), B := y15 } : Pair)) rfl rfl (Put.here ((Enc.len _).trans (Enc.len _).symm))).off rfl) fill_nil)) rfl rfl (by decide) (fun s43 _ => ?_)
  obtain ⟨u45, h46, H⟩ := bind_some H
  refine Lst.append (i := 3) (α := Pair) (xs := l17) (ys := ([({ Pair.zero with A := (i4 : Int), B := y15 } : Pair)] : List Pair)) rfl rfl (by decide) rfl rfl Try.runUnderlying39 Try.typeInfo46 rfl rfl rfl rfl rfl rfl (Rd.own (i := 0) rfl rfl rfl) rfl (room_some h46) rfl (fun s47 => ?_)
  refine Lst.its (L' := (.own s43 46 2 (encs ([({ Pair.zero with A := (i4 : Int), B := y15 } : Pair)] : List Pair))) :: (.blk b24 (enc x21) 75) :: (.blk b12 (enc x9) 75) :: (.own s47 46 2 (encs (l17 ++ ([({ Pair.zero with A := (i4 : Int), B := y15 } : Pair)] : List Pair)))) :: (.own Sl.nil 44 1 (encs ([] : List (LR Bool)))) :: L) rfl ?_
  refine Lst.run rfl rfl (by decide) (Ev.assign rfl) ?_
  refine Lst.nil ?_
  refine At.in_normal ?_
  refine At.then ?_
  refine Cd.region ?_
  refine Lst.run rfl rfl (by decide) (Ev.move rfl) ?_
  refine Lst.run rfl rfl (by decide) (Ev.add rfl rfl) ?_
  refine Lst.run rfl rfl (by decide) (Ev.assign rfl) ?_
  refine Lst.nil ?_
  refine At.less (L' := (.blk b12 (enc x9) 75) :: (.own s47 46 2 (encs (l17 ++ ([({ Pair.zero with A := (i4 : Int), B := y15 } : Pair)] : List Pair)))) :: (.own Sl.nil 44 1 (encs ([] : List (LR Bool)))) :: L) (List.Sublist.cons _ (List.Sublist.cons _ (List.Sublist.cons_cons _ (List.Sublist.cons_cons _ (List.Sublist.cons_cons _ (List.Sublist.refl _)))))) ?_
  exact At.meet (k14, w64 (y15 + (1 : Int)), s47, l17 ++ ([({ Pair.zero with A := (i4 : Int), B := y15 } : Pair)] : List Pair)) (FLe.trans (FLe.trans hF19 hF36) hF41) ⟨rfl, rfl, rfl, rfl, rfl, rfl, rfl, rfl, trivial⟩ rfl ⟨hgo14 _ (some_inj H).symm, Nat.lt_succ_self _⟩
set_option maxRecDepth 20000 in
theorem partref_Vectors_sim {fu : Nat} {a0 : List Event} {s_a0 : Sl} {r : (List (Vector Int 6))} (H : partref_Vectors fu a0 = some r) (w0 : World) (F : Frz) (M L : List Item) (hM : M.Sublist L) (hs_a0 : Rd w0 F M s_a0 a0) : Ok Try.prog w0 18 [Sl.v s_a0] F (L) (fun _ L' v => ∃ (s1 : Sl), v = Sl.v s1 ∧ L' = (.own s1 23 6 (encs r)) :: L) := by
  unfold partref_Vectors at H
  refine Ok.enter (m := 1) (n := 50) Try.func18 rfl rfl rfl (by decide) ?_
  refine Cd.env (e' := [(0, Sl.v s_a0)]) rfl ?_
  refine Cd.seq ?_
  refine Cd.region ?_
  refine Lst.addNil 23 6 ?_
  refine Lst.run rfl rfl (by decide) (Ev.assign rfl) ?_
  refine Lst.nil ?_
  refine At.then ?_
  refine Cd.seq ?_
  refine Cd.region ?_
  refine Lst.run rfl rfl (by decide) (Ev.move rfl) ?_
  obtain ⟨r2, h3, H⟩ := bind_some H
  refine Lst.call rfl rfl (by decide) (vs := [Sl.v s_a0]) ⟨rfl, trivial⟩ Try.call23 (partref_Causes_sim h3 w0 _ M _ (List.Sublist.cons _ hM) (hs_a0.mono (FLe.refl _) (List.Sublist.refl _))) (fun F9 L' v hF10 hv => ?_)
  obtain ⟨s4, rs5, rfl, rfl, fm6⟩ := hv
  refine Lst.run rfl rfl (by decide) (Ev.assign rfl) ?_
  refine Lst.nil ?_
  refine At.then ?_
  refine Cd.seq ?_
  refine Cd.region ?_
  refine Lst.run rfl rfl (by decide) (Ev.move rfl) ?_
  refine Lst.run rfl rfl (by decide) (Ev.lenS (α := Event) (xs := a0) (by decide) rfl rfl Try.runUnderlying24 (hs_a0.mono hF10 (List.Sublist.cons _ (List.Sublist.cons _ (List.Sublist.cons _ hM))))) ?_
  obtain ⟨n11, h12, H⟩ := bind_some H
  have g13 := mkLen_some h12
  refine Lst.make (α := Vector Int 6) (z0 := (Vector.replicate 6 (0 : Int))) (k := n11) rfl rfl (by decide) (congrArg some (congrArg (Value.int .i64) g13.1)) (congrArg some (congrArg (Value.int .i64) g13.1)) Try.runUnderlying28 Try.typeInfo23 rfl rfl rfl rfl rfl g13.2 rfl (fun s14 => ?_)
  refine Lst.run rfl rfl (by decide) (Ev.assign rfl) ?_
  refine Lst.nil ?_
  refine At.then ?_
  refine Cd.seq ?_
  refine Cd.seq ?_
  refine Cd.region ?_
  refine Lst.run rfl rfl (by decide) (Ev.move rfl) ?_
  refine Lst.run rfl rfl (by decide) (Ev.lenS (α := Event) (xs := a0) (by decide) rfl rfl Try.runUnderlying24 (hs_a0.mono hF10 (List.Sublist.cons _ (List.Sublist.cons _ (List.Sublist.cons _ (List.Sublist.cons _ hM)))))) ?_
  refine Lst.run rfl rfl (by decide) (Ev.move rfl) ?_
  refine Lst.nil ?_
  refine At.then ?_
  refine Cd.block ?_
  refine Cd.bound (Rd.le (α := Event) (xs := a0) (by decide) (hs_a0.mono hF10 (List.Sublist.cons _ (List.Sublist.cons _ (List.Sublist.cons _ (List.Sublist.cons _ hM)))))) (fun hN56 => ?_)
  obtain ⟨ol16, H, HKl16⟩ := bind_some H
  refine Cd.loop (σ := Nat × Nat × (List (Vector Int 6))) (fun (i16, k16, l17) => [(0, Sl.v s_a0), (3, Sl.v s4), (4, Sl.v s14), (13, .int .i64 (a0.length : Int)), (14, .int .i64 (i16 : Int))]) (fun (i16, k16, l17) => (.own s14 23 6 (encs l17)) :: (.rows (α := Bool) 4 rs5) :: (.own s4 44 1 (encs rs5)) :: (.own Sl.nil 23 6 (encs ([] : List (Vector Int 6)))) :: L) (fun _ => (fun (i16, k16, l17) => rangeF (partref_Vectors_B0 a0 r2) k16 i16 l17 = some ol16 ∧ i16 + k16 = a0.length)) (fun (i16, k16, l17) => k16) (0, a0.length, (List.replicate n11 (Vector.replicate 6 (0 : Int)))) ⟨rfl, rfl, rfl, rfl, rfl, trivial⟩ rfl ⟨H, by omega⟩ ?_
  rintro F18 ⟨i16, k16, l17⟩ hF19 ⟨H, hik16⟩
  refine Cd.as (e' := [(0, Sl.v s_a0), (3, Sl.v s4), (4, Sl.v s14), (13, .int .i64 (a0.length : Int)), (14, .int .i64 (i16 : Int))]) (L' := (.own s14 23 6 (encs l17)) :: (.rows (α := Bool) 4 rs5) :: (.own s4 44 1 (encs rs5)) :: (.own Sl.nil 23 6 (encs ([] : List (Vector Int 6)))) :: L) ⟨rfl, rfl, rfl, rfl, rfl, trivial⟩ rfl ?_
  rcases k16 with _ | k16
  · have hc16 : decide ((i16 : Int) < (a0.length : Int)) = false := decide_eq_false (by omega)
    replace H := rangeF_end H
    refine Cd.seq ?_
    refine Cd.region ?_
    refine Lst.run rfl rfl (by decide) (Ev.lss rfl rfl) ?_
    refine Lst.nil ?_
    refine At.then ?_
    refine Cd.seq ?_
    refine Cd.condF rfl hc16 ?_
    refine Cd.exit ?_
    refine At.then_exit ?_
    refine At.then_exit ?_
    refine At.in_exit ?_
    subst H
    replace H := HKl16
    refine At.then ?_
    refine Cd.seq ?_
    refine Cd.region ?_
    refine Lst.run rfl rfl (by decide) (Ev.move rfl) ?_
    refine Lst.run rfl rfl (by decide) (Ev.assign rfl) ?_
    refine Lst.nil ?_
    refine At.then ?_
    obtain rfl := some_inj H
    refine Cd.ret ?_
    exact At.ret1 rfl (Res.tmp rfl) (FLe.trans hF10 hF19) (List.Sublist.cons_cons _ (List.Sublist.cons _ (List.Sublist.cons _ (List.Sublist.cons _ (List.Sublist.refl _))))) ⟨s14, rfl, rfl⟩
  have hc16 : decide ((i16 : Int) < (a0.length : Int)) = true := decide_eq_true (by omega)
  obtain ⟨c16, H, hgo16⟩ := rangeF_go H
  unfold partref_Vectors_B0 at H
  try dsimp only at H
  refine Cd.seq ?_
  refine Cd.region ?_
  refine Lst.run rfl rfl (by decide) (Ev.lss rfl rfl) ?_
  refine Lst.nil ?_
  refine At.then ?_
  refine Cd.seq ?_
  refine Cd.condT rfl hc16 ?_
  refine Cd.skip ?_
  refine At.then ?_
  refine Cd.seq ?_
  refine Cd.block ?_
  refine Cd.seq ?_
  refine Cd.region ?_
  refine Lst.run rfl rfl (by decide) (Ev.move rfl) ?_
  refine Lst.run rfl rfl (by decide) (Ev.assign rfl) ?_
  refine Lst.nil ?_
  refine At.then ?_
  refine Cd.seq ?_
  refine Cd.region ?_
  refine Lst.run rfl rfl (by decide) (Ev.move rfl) ?_
  refine Lst.run rfl rfl (by decide) (Ev.lenS (α := Event) (xs := a0) (by decide) rfl rfl Try.runUnderlying24 (hs_a0.mono (FLe.trans hF10 hF19) (List.Sublist.cons _ (List.Sublist.cons _ (List.Sublist.cons _ (List.Sublist.cons _ hM)))))) ?_
  refine Lst.run rfl rfl (by decide) (Ev.move rfl) ?_
  refine Lst.nil ?_
  refine At.then ?_
  refine Cd.block ?_
  refine Cd.bound (Rd.le (α := Event) (xs := a0) (by decide) (hs_a0.mono (FLe.trans hF10 hF19) (List.Sublist.cons _ (List.Sublist.cons _ (List.Sublist.cons _ (List.Sublist.cons _ hM)))))) (fun hN55 => ?_)
  obtain ⟨ol20, H, HKl20⟩ := bind_some H
  refine Cd.loop (σ := Nat × Nat × (List (Vector Int 6))) (fun (i20, k20, l21) => [(0, Sl.v s_a0), (3, Sl.v s4), (4, Sl.v s14), (5, .int .i64 (i16 : Int)), (13, .int .i64 (a0.length : Int)), (14, .int .i64 (i16 : Int)), (18, .int .i64 (a0.length : Int)), (19, .int .i64 (i20 : Int))]) (fun (i20, k20, l21) => (.own s14 23 6 (encs l21)) :: (.rows (α := Bool) 4 rs5) :: (.own s4 44 1 (encs rs5)) :: (.own Sl.nil 23 6 (encs ([] : List (Vector Int 6)))) :: L) (fun _ => (fun (i20, k20, l21) => rangeF (partref_Vectors_B2 a0 r2 i16) k20 i20 l21 = some ol20 ∧ i20 + k20 = a0.length)) (fun (i20, k20, l21) => k20) (0, a0.length, l17) ⟨rfl, rfl, rfl, rfl, rfl, rfl, rfl, rfl, trivial⟩ rfl ⟨H, by omega⟩ ?_
  rintro F22 ⟨i20, k20, l21⟩ hF23 ⟨H, hik20⟩
  refine Cd.as (e' := [(0, Sl.v s_a0), (3, Sl.v s4), (4, Sl.v s14), (5, .int .i64 (i16 : Int)), (13, .int .i64 (a0.length : Int)), (14, .int .i64 (i16 : Int)), (18, .int .i64 (a0.length : Int)), (19, .int .i64 (i20 : Int))]) (L' := (.own s14 23 6 (encs l21)) :: (.rows (α := Bool) 4 rs5) :: (.own s4 44 1 (encs rs5)) :: (.own Sl.nil 23 6 (encs ([] : List (Vector Int 6)))) :: L) ⟨rfl, rfl, rfl, rfl, rfl, rfl, rfl, rfl, trivial⟩ rfl ?_
  rcases k20 with _ | k20
  · have hc20 : decide ((i20 : Int) < (a0.length : Int)) = false := decide_eq_false (by omega)
    replace H := rangeF_end H
    refine Cd.seq ?_
    refine Cd.region ?_
    refine Lst.run rfl rfl (by decide) (Ev.lss rfl rfl) ?_
    refine Lst.nil ?_
    refine At.then ?_
    refine Cd.seq ?_
    refine Cd.condF rfl hc20 ?_
    refine Cd.exit ?_
    refine At.then_exit ?_
    refine At.then_exit ?_
    refine At.in_exit ?_
    subst H
    replace H := HKl20
    refine At.in_normal ?_
    refine At.then ?_
    refine Cd.region ?_
    refine Lst.run rfl rfl (by decide) (Ev.incr (by omega) rfl rfl) ?_
    refine Lst.run rfl rfl (by decide) (Ev.move rfl) ?_
    refine Lst.nil ?_
    exact At.meet (i16 + 1, k16, l21) (FLe.trans hF19 hF23) ⟨rfl, rfl, rfl, rfl, rfl, trivial⟩ rfl ⟨⟨hgo16 _ (some_inj H).symm, by omega⟩, Nat.lt_succ_self _⟩
  have hc20 : decide ((i20 : Int) < (a0.length : Int)) = true := decide_eq_true (by omega)
  obtain ⟨c20, H, hgo20⟩ := rangeF_go H
  unfold partref_Vectors_B2 at H
  try dsimp only at H
  refine Cd.seq ?_
  refine Cd.region ?_
  refine Lst.run rfl rfl (by decide) (Ev.lss rfl rfl) ?_
  refine Lst.nil ?_
  refine At.then ?_
  refine Cd.seq ?_
  refine Cd.condT rfl hc20 ?_
  refine Cd.skip ?_
  refine At.then ?_
  refine Cd.seq ?_
  refine Cd.block ?_
  refine Cd.seq ?_
  refine Cd.region ?_
  refine Lst.run rfl rfl (by decide) (Ev.move rfl) ?_
  refine Lst.run rfl rfl (by decide) (Ev.assign rfl) ?_
  refine Lst.nil ?_
  refine At.then ?_
  refine Cd.seq ?_
  refine Cd.region ?_
  refine Lst.run rfl rfl (by decide) (Ev.move rfl) ?_
  refine Lst.run rfl rfl (by decide) (Ev.move rfl) ?_
  obtain ⟨x24, h25, H⟩ := bind_some H
  have g26 := lat_some h25
  obtain ⟨⟨r27v, r27h⟩, r27g, r27e, r27m⟩ := map_get fm6 g26.2.2
  obtain rfl : x24 = r27v := r27e.symm
  have hh28 := row_h r27g
  refine Lst.run rfl rfl (by decide) (Ev.indexS (α := LR Bool) (xs := rs5) rfl rfl Try.runUnderlying42 Try.sizeOf44 rfl (by decide) (Rd.own (i := 2) rfl rfl rfl) g26.1 (by have := map_len fm6; omega)) ?_
  refine Lst.run rfl rfl (by decide) (Ev.loadS (α := LR Bool) rfl (Rd.own (i := 2) rfl rfl rfl) Try.isAgg44 (v := Sl.v r27h) ((Get.elemN (s := 1) rfl r27g (Get.here _)).off (by omega))) ?_
  refine Lst.run rfl rfl (by decide) (Ev.move rfl) ?_
  obtain ⟨x29, h30, H⟩ := bind_some H
  have g31 := lat_some h30
  refine Lst.run rfl rfl (by decide) (Ev.indexS (α := Bool) (xs := x24) rfl rfl Try.runUnderlying44 Try.sizeOf4 rfl (by decide) (Rd.row (j := 1) rfl r27g) g31.1 g31.2.1) ?_
  refine Lst.run rfl rfl (by decide) (Ev.loadS (α := Bool) rfl (Rd.row (j := 1) rfl r27g) Try.isAgg4 (v := .bool x29) ((Get.elemN (s := 1) (x := x29) rfl g31.2.2 (Get.here _)).off (by omega))) ?_
  refine Lst.run rfl rfl (by decide) (Ev.move rfl) ?_
  obtain ⟨o32, H, HKo32⟩ := bind_some H
  refine Lst.join (σ := Bool) 4 (fun y33 => [(0, Sl.v s_a0), (3, Sl.v s4), (4, Sl.v s14), (5, .int .i64 (i16 : Int)), (6, .int .i64 (i20 : Int)), (13, .int .i64 (a0.length : Int)), (14, .int .i64 (i16 : Int)), (18, .int .i64 (a0.length : Int)), (19, .int .i64 (i20 : Int)), (33, .bool y33)]) (fun y33 => (.own s14 23 6 (encs l21)) :: (.rows (α := Bool) 4 rs5) :: (.own s4 44 1 (encs rs5)) :: (.own Sl.nil 23 6 (encs ([] : List (Vector Int 6)))) :: L) (fun _ y33 => y33 = o32) ?_ ?_
  · rcases Bool.eq_false_or_eq_true x29 with hb34 | hb34
    · replace H := ite_t hb34 H
      refine Lst.skip rfl rfl rfl hb34 rfl (by decide) ?_
      refine Lst.skip rfl rfl rfl hb34 rfl (by decide) ?_
      refine Lst.skip rfl rfl rfl hb34 rfl (by decide) ?_
      refine Lst.run rfl rfl (by decide) (Ev.pickT rfl hb34 rfl) ?_
      refine Lst.nil ?_
      exact At.meet true (FLe.refl _) ⟨rfl, rfl, rfl, rfl, rfl, rfl, rfl, rfl, rfl, rfl, trivial⟩ rfl (some_inj H)
    replace H := ite_f hb34 H
    refine Lst.runG rfl rfl rfl hb34 rfl (by decide) (Ev.move rfl) ?_
    refine Lst.runG rfl rfl rfl hb34 rfl (by decide) (Ev.move rfl) ?_
    refine Lst.runG rfl rfl rfl hb34 rfl (by decide) (Ev.eql rfl rfl) ?_
    refine Lst.run rfl rfl (by decide) (Ev.pickF rfl hb34 rfl) ?_
    refine Lst.nil ?_
    exact At.meet ((i20 : Int) == (i16 : Int)) (FLe.refl _) ⟨rfl, rfl, rfl, rfl, rfl, rfl, rfl, rfl, rfl, rfl, trivial⟩ rfl (some_inj H)
  rintro F35 y33 hF36 hy
  subst hy
  refine Lst.as (e' := [(0, Sl.v s_a0), (3, Sl.v s4), (4, Sl.v s14), (5, .int .i64 (i16 : Int)), (6, .int .i64 (i20 : Int)), (13, .int .i64 (a0.length : Int)), (14, .int .i64 (i16 : Int)), (18, .int .i64 (a0.length : Int)), (19, .int .i64 (i20 : Int)), (33, .bool y33)]) (L' := (.own s14 23 6 (encs l21)) :: (.rows (α := Bool) 4 rs5) :: (.own s4 44 1 (encs rs5)) :: (.own Sl.nil 23 6 (encs ([] : List (Vector Int 6)))) :: L) ⟨rfl, rfl, rfl, rfl, rfl, rfl, rfl, rfl, rfl, rfl, trivial⟩ rfl ?_
  replace H := HKo32
  refine Lst.nil ?_
  refine At.then ?_
  rcases (Bool.eq_false_or_eq_true y33).symm with hb37 | hb37
  · replace H := ite_f hb37 H
    refine Cd.condF rfl hb37 ?_
    refine Cd.skip ?_
    refine At.in_normal ?_
    refine At.then ?_
    refine Cd.region ?_
    refine Lst.run rfl rfl (by decide) (Ev.incr (by omega) rfl rfl) ?_
    refine Lst.run rfl rfl (by decide) (Ev.move rfl) ?_
    refine Lst.nil ?_
    exact At.meet (i20 + 1, k20, l21) (FLe.trans hF23 hF36) ⟨rfl, rfl, rfl, rfl, rfl, rfl, rfl, rfl, trivial⟩ rfl ⟨⟨hgo20 _ (some_inj H).symm, by omega⟩, Nat.lt_succ_self _⟩
  replace H := ite_t hb37 H
  refine Cd.condT rfl hb37 ?_
  refine Cd.tail 13 (by kernel_rfl) (by kernel_rfl) ?_
  refine Qt.run rfl rfl (by decide) (Ev.move rfl) ?_
  refine Qt.run rfl rfl (by decide) (Ev.move rfl) ?_
  refine Qt.run rfl rfl (by decide) (Ev.move rfl) ?_
  refine Qt.run rfl rfl (by decide) (Ev.move rfl) ?_
  obtain ⟨x38, h39, H⟩ := bind_some H
  have g40 := lat_some h39
  refine Qt.run rfl rfl (by decide) (Ev.indexS (α := Event) (xs := a0) rfl rfl Try.runUnderlying24 Try.sizeOf75 rfl (by decide) (hs_a0.mono (FLe.trans (FLe.trans (FLe.trans hF10 hF19) hF23) hF36) (List.Sublist.cons _ (List.Sublist.cons _ (List.Sublist.cons _ (List.Sublist.cons _ hM))))) g40.1 g40.2.1) ?_
  refine Qt.run rfl rfl (by decide) (Ev.fieldS (α := Event) (f' := (i20 : Int).toNat * 3 + 0) rfl (hs_a0.mono (FLe.trans (FLe.trans (FLe.trans hF10 hF19) hF23) hF36) (List.Sublist.cons _ (List.Sublist.cons _ (List.Sublist.cons _ (List.Sublist.cons _ hM))))) ((Get.elemN (s := 3) (x := x38) rfl g40.2.2 (Get.here _)).off (by omega)) rfl Try.runUnderlying75 rfl Try.sizeOf3 rfl rfl rfl) ?_
  refine Qt.run rfl rfl (by decide) (Ev.loadS (α := Event) rfl (hs_a0.mono (FLe.trans (FLe.trans (FLe.trans hF10 hF19) hF23) hF36) (List.Sublist.cons _ (List.Sublist.cons _ (List.Sublist.cons _ (List.Sublist.cons _ hM))))) Try.isAgg3 (v := .int .i64 x38.Proc) ((Get.elemN (s := 3) (x := x38) rfl g40.2.2 (Event.get_Proc (Get.here _))).off (by omega))) ?_
  obtain ⟨x41, h42, H⟩ := bind_some H
  have g43 := lat_some h42
  refine Qt.run rfl rfl (by decide) (Ev.indexS (α := Vector Int 6) (xs := l21) rfl rfl Try.runUnderlying28 Try.sizeOf23 rfl (by decide) (Rd.own (i := 0) rfl rfl rfl) g43.1 g43.2.1) ?_
  obtain ⟨x44, h45, H⟩ := bind_some H
  have g46 := vat_some h45
  refine Qt.run rfl rfl (by decide) (Ev.indexAS (α := Vector Int 6) (off' := (i16 : Int).toNat * 6 + x38.Proc.toNat * 1) rfl rfl (Rd.own (i := 0) rfl rfl rfl) ((Get.elemN (s := 6) (x := x41) rfl g43.2.2 (Get.here _)).off (by omega)) (by rw [Enc.len]; rfl) Try.runUnderlying23 Try.sizeOf3 g46.1 g46.2.1 rfl) ?_
  refine Qt.run rfl rfl (by decide) (Ev.loadS (α := Vector Int 6) rfl (Rd.own (i := 0) rfl rfl rfl) Try.isAgg3 (v := .int .i64 x44) ((Get.elemN (s := 6) (x := x41) rfl g43.2.2 (Get.vecN (s := 1) (x := x44) rfl g46.2.2 (Get.here _))).off (by omega))) ?_
  refine Qt.run rfl rfl (by decide) (Ev.add rfl rfl) ?_
  obtain ⟨x47, h48, H⟩ := bind_some H
  have g49 := lat_some h48
  refine Qt.run rfl rfl (by decide) (Ev.indexS (α := Vector Int 6) (xs := l21) rfl rfl Try.runUnderlying28 Try.sizeOf23 rfl (by decide) (Rd.own (i := 0) rfl rfl rfl) g49.1 g49.2.1) ?_
  obtain ⟨x50, h51, H⟩ := bind_some H
  have g52 := vat_some h51
  refine Qt.run rfl rfl (by decide) (Ev.indexAS (α := Vector Int 6) (off' := (i16 : Int).toNat * 6 + x38.Proc.toNat * 1) rfl rfl (Rd.own (i := 0) rfl rfl rfl) ((Get.elemN (s := 6) (x := x47) rfl g49.2.2 (Get.here _)).off (by omega)) (by rw [Enc.len]; rfl) Try.runUnderlying23 Try.sizeOf3 g52.1 g52.2.1 rfl) ?_
  refine Qt.tail ?_
  obtain ⟨p53, h54, H⟩ := Let_some H
  refine Lst.storeS (i := 0) rfl rfl rfl rfl rfl Try.sizeOf3 (vs := [.int .i64 (w64 (x44 + (1 : Int)))]) rfl rfl (by decide) rfl (xs' := encs p53) (by rw [← h54]; exact (Put.elemN (s := 6) (x := x47) rfl g49.2.2 (Put.vecN (s := 1) (x := x50) rfl g52.2.2 (Put.here (vs := [.int .i64 (w64 (x44 + (1 : Int)))]) rfl))).off (by omega)) (L' := (.own s14 23 6 (encs p53)) :: (.rows (α := Bool) 4 rs5) :: (.own s4 44 1 (encs rs5)) :: (.own Sl.nil 23 6 (encs ([] : List (Vector Int 6)))) :: L) rfl ?_
  refine Lst.nil ?_
  refine At.in_normal ?_
  refine At.then ?_
  refine Cd.as (e' := [(0, Sl.v s_a0), (3, Sl.v s4), (4, Sl.v s14), (5, .int .i64 (i16 : Int)), (13, .int .i64 (a0.length : Int)), (14, .int .i64 (i16 : Int)), (18, .int .i64 (a0.length : Int)), (19, .int .i64 (i20 : Int))]) (L' := (.own s14 23 6 (encs p53)) :: (.rows (α := Bool) 4 rs5) :: (.own s4 44 1 (encs rs5)) :: (.own Sl.nil 23 6 (encs ([] : List (Vector Int 6)))) :: L) ⟨rfl, rfl, rfl, rfl, rfl, rfl, rfl, rfl, trivial⟩ rfl ?_
  refine Cd.region ?_
  refine Lst.run rfl rfl (by decide) (Ev.incr (by omega) rfl rfl) ?_
  refine Lst.run rfl rfl (by decide) (Ev.move rfl) ?_
  refine Lst.nil ?_
  exact At.meet (i20 + 1, k20, p53) (FLe.trans hF23 hF36) ⟨rfl, rfl, rfl, rfl, rfl, rfl, rfl, rfl, trivial⟩ rfl ⟨⟨hgo20 _ (some_inj H).symm, by omega⟩, Nat.lt_succ_self _⟩
set_option maxRecDepth 20000 in
theorem partref_inCut_sim {a0 : List Event} {a1 : Vector Int 6} {s_a0 : Sl} {r : (List Bool)} (H : partref_inCut a0 a1 = some r) (w0 : World) (F : Frz) (M L : List Item) (hM : M.Sublist L) (hs_a0 : Rd w0 F M s_a0 a0) : Ok Try.prog w0 58 [Sl.v s_a0, .agg (enc a1).toArray] F (L) (fun _ L' v => ∃ (s1 : Sl), v = Sl.v s1 ∧ L' = (.own s1 4 1 (encs r)) :: L) := by
  unfold partref_inCut at H
  refine Ok.enter (m := 2) (n := 39) Try.func58 rfl rfl rfl (by decide) ?_
  refine Cd.env (e' := [(0, Sl.v s_a0), (1, .agg (enc a1).toArray)]) rfl ?_
  refine Cd.seq ?_
  refine Cd.region ?_
  refine Lst.box rfl rfl (by decide) rfl (cs := enc a1) rfl (fun b1 => ?_)
  refine Lst.addNil 4 1 ?_
  refine Lst.run rfl rfl (by decide) (Ev.assign rfl) ?_
  refine Lst.nil ?_
  refine At.then ?_
  refine Cd.seq ?_
  refine Cd.region ?_
  refine Lst.run rfl rfl (by decide) (Ev.move rfl) ?_
  refine Lst.run rfl rfl (by decide) (Ev.lenS (α := Event) (xs := a0) (by decide) rfl rfl Try.runUnderlying24 (hs_a0.mono (FLe.refl _) (List.Sublist.cons _ (List.Sublist.cons _ hM)))) ?_
  obtain ⟨n4, h5, H⟩ := bind_some H
  have g6 := mkLen_some h5
  refine Lst.make (α := Bool) (z0 := false) (k := n4) rfl rfl (by decide) (congrArg some (congrArg (Value.int .i64) g6.1)) (congrArg some (congrArg (Value.int .i64) g6.1)) Try.runUnderlying44 Try.typeInfo4 rfl rfl rfl rfl rfl g6.2 rfl (fun s7 => ?_)
  refine Lst.run rfl rfl (by decide) (Ev.assign rfl) ?_
  refine Lst.nil ?_
  refine At.then ?_
  refine Cd.seq ?_
  refine Cd.region ?_
  refine Lst.alloc (cs := enc (Vector.replicate 6 (0 : Int))) rfl rfl (by decide) Try.zeroValue23 rfl (fun b9 => ?_)
  refine Lst.nil ?_
  refine At.then ?_
  refine Cd.seq ?_
  refine Cd.seq ?_
  refine Cd.region ?_
  refine Lst.run rfl rfl (by decide) (Ev.move rfl) ?_
  refine Lst.run rfl rfl (by decide) (Ev.lenS (α := Event) (xs := a0) (by decide) rfl rfl Try.runUnderlying24 (hs_a0.mono (FLe.refl _) (List.Sublist.cons _ (List.Sublist.cons _ (List.Sublist.cons _ (List.Sublist.cons _ hM)))))) ?_
  refine Lst.run rfl rfl (by decide) (Ev.move rfl) ?_
  refine Lst.nil ?_
  refine At.then ?_
  refine Cd.block ?_
  refine Cd.bound (Rd.le (α := Event) (xs := a0) (by decide) (hs_a0.mono (FLe.refl _) (List.Sublist.cons _ (List.Sublist.cons _ (List.Sublist.cons _ (List.Sublist.cons _ hM)))))) (fun hN40 => ?_)
  obtain ⟨ol11, H, HKl11⟩ := bind_some H
  refine Cd.loop (σ := Nat × Nat × (Vector Int 6) × (List Bool)) (fun (i11, k11, y12, l13) => [(3, .pointer (some ⟨b1, 0, none⟩)), (5, Sl.v s7), (6, .pointer (some ⟨b9, 0, none⟩)), (12, Sl.v s_a0), (13, .int .i64 (a0.length : Int)), (14, .int .i64 (i11 : Int))]) (fun (i11, k11, y12, l13) => (.blk b9 (enc y12) 23) :: (.own s7 4 1 (encs l13)) :: (.own Sl.nil 4 1 (encs ([] : List Bool))) :: (.blk b1 (enc a1) 23) :: L) (fun _ => (fun (i11, k11, y12, l13) => rangeF (partref_inCut_B0 a0 a1) k11 i11 (y12, l13) = some ol11 ∧ i11 + k11 = a0.length)) (fun (i11, k11, y12, l13) => k11) (0, a0.length, (Vector.replicate 6 (0 : Int)), (List.replicate n4 false)) ⟨rfl, rfl, rfl, rfl, rfl, rfl, trivial⟩ rfl ⟨H, by omega⟩ ?_
  rintro F14 ⟨i11, k11, y12, l13⟩ hF15 ⟨H, hik11⟩
  refine Cd.as (e' := [(3, .pointer (some ⟨b1, 0, none⟩)), (5, Sl.v s7), (6, .pointer (some ⟨b9, 0, none⟩)), (12, Sl.v s_a0), (13, .int .i64 (a0.length : Int)), (14, .int .i64 (i11 : Int))]) (L' := (.blk b9 (enc y12) 23) :: (.own s7 4 1 (encs l13)) :: (.own Sl.nil 4 1 (encs ([] : List Bool))) :: (.blk b1 (enc a1) 23) :: L) ⟨rfl, rfl, rfl, rfl, rfl, rfl, trivial⟩ rfl ?_
  rcases k11 with _ | k11
  · have hc11 : decide ((i11 : Int) < (a0.length : Int)) = false := decide_eq_false (by omega)
    replace H := rangeF_end H
    refine Cd.seq ?_
    refine Cd.region ?_
    refine Lst.run rfl rfl (by decide) (Ev.lss rfl rfl) ?_
    refine Lst.nil ?_
    refine At.then ?_
    refine Cd.seq ?_
    refine Cd.condF rfl hc11 ?_
    refine Cd.exit ?_
    refine At.then_exit ?_
    refine At.then_exit ?_
    refine At.in_exit ?_
    subst H
    replace H := HKl11
    refine At.then ?_
    refine Cd.seq ?_
    refine Cd.region ?_
    refine Lst.run rfl rfl (by decide) (Ev.move rfl) ?_
    refine Lst.run rfl rfl (by decide) (Ev.assign rfl) ?_
    refine Lst.nil ?_
    refine At.then ?_
    obtain rfl := some_inj H
    refine Cd.ret ?_
    exact At.ret1 rfl (Res.tmp rfl) hF15 (List.Sublist.cons _ (List.Sublist.cons_cons _ (List.Sublist.cons _ (List.Sublist.cons _ (List.Sublist.refl _))))) ⟨s7, rfl, rfl⟩
  have hc11 : decide ((i11 : Int) < (a0.length : Int)) = true := decide_eq_true (by omega)
  obtain ⟨c11, H, hgo11⟩ := rangeF_go H
  unfold partref_inCut_B0 at H
  try dsimp only at H
  refine Cd.seq ?_
  refine Cd.region ?_
  refine Lst.run rfl rfl (by decide) (Ev.lss rfl rfl) ?_
  refine Lst.nil ?_
  refine At.then ?_
  refine Cd.seq ?_
  refine Cd.condT rfl hc11 ?_
  refine Cd.skip ?_
  refine At.then ?_
  refine Cd.seq ?_
  refine Cd.block ?_
  refine Cd.seq ?_
  refine Cd.region ?_
  refine Lst.run rfl rfl (by decide) (Ev.move rfl) ?_
  obtain ⟨x16, h17, H⟩ := bind_some H
  have g18 := lat_some h17
  refine Lst.run rfl rfl (by decide) (Ev.indexS (α := Event) (xs := a0) rfl rfl Try.runUnderlying24 Try.sizeOf75 rfl (by decide) (hs_a0.mono hF15 (List.Sublist.cons _ (List.Sublist.cons _ (List.Sublist.cons _ (List.Sublist.cons _ hM))))) g18.1 g18.2.1) ?_
  refine Lst.run rfl rfl (by decide) (Ev.loadSA (α := Event) rfl (hs_a0.mono hF15 (List.Sublist.cons _ (List.Sublist.cons _ (List.Sublist.cons _ (List.Sublist.cons _ hM))))) Try.isAgg75 Try.sizeOf75 (ch := enc x16) (Enc.len _) (by decide) ((Get.elemN (s := 3) (x := x16) rfl g18.2.2 (Get.here _)).off (by omega))) ?_
  refine Lst.alloc (cs := enc Event.zero) rfl rfl (by decide) Try.zeroValue75 rfl (fun b19 => ?_)
  refine Lst.run rfl rfl (by decide) (Ev.assign rfl) ?_
  refine Lst.store (i := 0) rfl rfl rfl rfl rfl Try.sizeOf75 (vs := enc x16) rfl (Enc.len _) (Enc.one _) (cs' := enc x16) (Put.here ((Enc.len _).trans (Enc.len _).symm)) (L' := (.blk b19 (enc x16) 75) :: (.blk b9 (enc y12) 23) :: (.own s7 4 1 (encs l13)) :: (.own Sl.nil 4 1 (encs ([] : List Bool))) :: (.blk b1 (enc a1) 23) :: L) rfl ?_
  refine Lst.nil ?_
  refine At.then ?_
  refine Cd.seq ?_
  refine Cd.region ?_
  refine Lst.run rfl rfl (by decide) (Ev.fieldAddr (off' := 0) rfl Try.runUnderlying75 rfl Try.sizeOf3 rfl rfl) ?_
  refine Lst.run rfl rfl (by decide) (Ev.load (i := 0) rfl rfl Try.isAgg3 (v := .int .i64 x16.Proc) ((Event.get_Proc (Get.here _)).off (by rfl))) ?_
  obtain ⟨x21, h22, H⟩ := bind_some H
  have g23 := vat_some h22
  refine Lst.run rfl rfl (by decide) (Ev.indexAddr (off' := 0 + x16.Proc.toNat * 1) rfl rfl Try.runUnderlying23 Try.sizeOf3 g23.1 g23.2.1 rfl) ?_
  refine Lst.run rfl rfl (by decide) (Ev.load (i := 1) rfl rfl Try.isAgg3 (v := .int .i64 x21) ((Get.vecN (s := 1) (x := x21) rfl g23.2.2 (Get.here _)).off (by omega))) ?_
  refine Lst.run rfl rfl (by decide) (Ev.add rfl rfl) ?_
  obtain ⟨x24, h25, H⟩ := bind_some H
  have g26 := vat_some h25
  refine Lst.run rfl rfl (by decide) (Ev.indexAddr (off' := 0 + x16.Proc.toNat * 1) rfl rfl Try.runUnderlying23 Try.sizeOf3 g26.1 g26.2.1 rfl) ?_
  obtain ⟨p27, h28, H⟩ := Let_some H
  refine Lst.store (i := 1) rfl rfl rfl rfl rfl Try.sizeOf3 (vs := [.int .i64 (w64 (x21 + (1 : Int)))]) rfl rfl rfl (cs' := enc p27) (by rw [← h28]; exact (Put.vecN (s := 1) (x := x24) rfl g26.2.2 (Put.here (vs := [.int .i64 (w64 (x21 + (1 : Int)))]) rfl)).off (by omega)) (L' := (.blk b19 (enc x16) 75) :: (.blk b9 (enc p27) 23) :: (.own s7 4 1 (encs l13)) :: (.own Sl.nil 4 1 (encs ([] : List Bool))) :: (.blk b1 (enc a1) 23) :: L) rfl ?_
  refine Lst.nil ?_
  refine At.then ?_
  refine Cd.tail 12 (by kernel_rfl) (by kernel_rfl) ?_
  refine Qt.run rfl rfl (by decide) (Ev.move rfl) ?_
  refine Qt.run rfl rfl (by decide) (Ev.move rfl) ?_
  refine Qt.run rfl rfl (by decide) (Ev.fieldAddr (off' := 0) rfl Try.runUnderlying75 rfl Try.sizeOf3 rfl rfl) ?_
  refine Qt.run rfl rfl (by decide) (Ev.load (i := 0) rfl rfl Try.isAgg3 (v := .int .i64 x16.Proc) ((Event.get_Proc (Get.here _)).off (by rfl))) ?_
  obtain ⟨x29, h30, H⟩ := bind_some H
  have g31 := vat_some h30
  refine Qt.run rfl rfl (by decide) (Ev.indexAddr (off' := 0 + x16.Proc.toNat * 1) rfl rfl Try.runUnderlying23 Try.sizeOf3 g31.1 g31.2.1 rfl) ?_
  refine Qt.run rfl rfl (by decide) (Ev.load (i := 1) rfl rfl Try.isAgg3 (v := .int .i64 x29) ((Get.vecN (s := 1) (x := x29) rfl g31.2.2 (Get.here _)).off (by omega))) ?_
  refine Qt.run rfl rfl (by decide) (Ev.fieldAddr (off' := 0) rfl Try.runUnderlying75 rfl Try.sizeOf3 rfl rfl) ?_
  refine Qt.run rfl rfl (by decide) (Ev.load (i := 0) rfl rfl Try.isAgg3 (v := .int .i64 x16.Proc) ((Event.get_Proc (Get.here _)).off (by rfl))) ?_
  obtain ⟨x32, h33, H⟩ := bind_some H
  have g34 := vat_some h33
  refine Qt.run rfl rfl (by decide) (Ev.indexAddr (off' := 0 + x16.Proc.toNat * 1) rfl rfl Try.runUnderlying23 Try.sizeOf3 g34.1 g34.2.1 rfl) ?_
  refine Qt.run rfl rfl (by decide) (Ev.load (i := 4) rfl rfl Try.isAgg3 (v := .int .i64 x32) ((Get.vecN (s := 1) (x := x32) rfl g34.2.2 (Get.here _)).off (by omega))) ?_
  refine Qt.run rfl rfl (by decide) (Ev.leq rfl rfl) ?_
  obtain ⟨x35, h36, H⟩ := bind_some H
  have g37 := lat_some h36
  refine Qt.run rfl rfl (by decide) (Ev.indexS (α := Bool) (xs := l13) rfl rfl Try.runUnderlying44 Try.sizeOf4 rfl (by decide) (Rd.own (i := 2) rfl rfl rfl) g37.1 g37.2.1) ?_
  refine Qt.tail ?_
  obtain ⟨p38, h39, H⟩ := Let_some H
  refine Lst.storeS (i := 2) rfl rfl rfl rfl rfl Try.sizeOf4 (vs := [.bool (decide (x29 ≤ x32))]) rfl rfl (by decide) rfl (xs' := encs p38) (by rw [← h39]; exact (Put.elemN (s := 1) (x := x35) rfl g37.2.2 (Put.here (vs := [.bool (decide (x29 ≤ x32))]) rfl)).off (by omega)) (L' := (.blk b19 (enc x16) 75) :: (.blk b9 (enc p27) 23) :: (.own s7 4 1 (encs p38)) :: (.own Sl.nil 4 1 (encs ([] : List Bool))) :: (.blk b1 (enc a1) 23) :: L) rfl ?_
  refine Lst.nil ?_
  refine At.in_normal ?_
  refine At.then ?_
  refine Cd.as (e' := [(3, .pointer (some ⟨b1, 0, none⟩)), (5, Sl.v s7), (6, .pointer (some ⟨b9, 0, none⟩)), (12, Sl.v s_a0), (13, .int .i64 (a0.length : Int)), (14, .int .i64 (i11 : Int))]) (L' := (.blk b19 (enc x16) 75) :: (.blk b9 (enc p27) 23) :: (.own s7 4 1 (encs p38)) :: (.own Sl.nil 4 1 (encs ([] : List Bool))) :: (.blk b1 (enc a1) 23) :: L) ⟨rfl, rfl, rfl, rfl, rfl, rfl, trivial⟩ rfl ?_
  refine Cd.region ?_
  refine Lst.run rfl rfl (by decide) (Ev.incr (by omega) rfl rfl) ?_
  refine Lst.run rfl rfl (by decide) (Ev.move rfl) ?_
  refine Lst.nil ?_
  refine At.less (L' := (.blk b9 (enc p27) 23) :: (.own s7 4 1 (encs p38)) :: (.own Sl.nil 4 1 (encs ([] : List Bool))) :: (.blk b1 (enc a1) 23) :: L) (List.Sublist.cons _ (List.Sublist.cons_cons _ (List.Sublist.cons_cons _ (List.Sublist.cons_cons _ (List.Sublist.cons_cons _ (List.Sublist.refl _)))))) ?_
  exact At.meet (i11 + 1, k11, p27, p38) hF15 ⟨rfl, rfl, rfl, rfl, rfl, rfl, trivial⟩ rfl ⟨⟨hgo11 _ (some_inj H).symm, by omega⟩, Nat.lt_succ_self _⟩
end Go.Proofs.Ytclmlddmgccfjaa
