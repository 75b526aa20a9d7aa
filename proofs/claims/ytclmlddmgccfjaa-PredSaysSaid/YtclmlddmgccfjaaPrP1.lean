/-
  The functions compute their specs; printed by a program.
-/
import Derived.Test.YtclmlddmgccfjaaPrSp
import Derived.Test.YtclmlddmgccfjaaGoL
import Derived.Test.YtclmlddmgccfjaaGoK
import Derived.Test.YtclmlddmgccfjaaGoI
import Derived.Test.YtclmlddmgccfjaaGoU
import Derived.Test.YtclmlddmgccfjaaGoM
import Derived.Test.YtclmlddmgccfjaaGoS
import Derived.Test.YtclmlddmgccfjaaGoR
import Derived.Test.YtclmlddmgccfjaaProg
namespace Go.Proofs.Ytclmlddmgccfjaa
open Go.RowKit Enc
set_option linter.unusedVariables false
set_option linter.unusedSimpArgs false
set_option maxRecDepth 20000 in
theorem eq23 (x y : Vector Int 6) : ∀ w, (Op.equal 23 (.agg (enc x).toArray) (.agg (enc y).toArray)).run Try.prog w = .ok (decide (x = y)) w :=
  EqT.top (d := 10000) Try.isAgg23 Try.sizeOf23 rfl rfl (EqT.array (inf := Try.t3) Try.isAgg23 Try.sizeOf23 rfl Try.runUnderlying23 rfl (by kernel_rfl) (EqT.int Try.isAgg3 Try.runUnderlying3)) x y
set_option maxRecDepth 20000 in
theorem eq75 (x y : Event) : ∀ w, (Op.equal 75 (.agg (enc x).toArray) (.agg (enc y).toArray)).run Try.prog w = .ok (decide (x = y)) w :=
  EqT.top (d := 10000) Try.isAgg75 Try.sizeOf75 rfl rfl (EqT.struct Try.isAgg75 Try.sizeOf75 rfl Try.runUnderlying75 (by kernel_rfl) (fun x y w => by
  refine Eq.trans (eqField (p := x.Proc) (q := y.Proc) rfl (EqT.int Try.isAgg3 Try.runUnderlying3) rfl ((Event.get_Proc (Get.here _)).off rfl) ((Event.get_Proc (Get.here _)).off rfl) (eqField (p := x.Kind) (q := y.Kind) rfl (EqT.int Try.isAgg3 Try.runUnderlying3) rfl ((Event.get_Kind (Get.here _)).off rfl) ((Event.get_Kind (Get.here _)).off rfl) (eqField (p := x.Msg) (q := y.Msg) rfl (EqT.int Try.isAgg3 Try.runUnderlying3) rfl ((Event.get_Msg (Get.here _)).off rfl) ((Event.get_Msg (Get.here _)).off rfl) (by rfl)))) ?_
  congr 1
  rw [Bool.eq_iff_iff]; cases x; cases y; simp)) x y
set_option maxRecDepth 20000 in
theorem partref_HistoryErr_sim {a0 : List Event} {s_a0 : Sl} {r : Int} (H : partref_HistoryErr a0 = some r) (w0 : World) (F : Frz) (M L : List Item) (hM : M.Sublist L) (hs_a0 : Rd w0 F M s_a0 a0) : Ok Try.prog w0 16 [Sl.v s_a0] F (L) (Is (.int .i64 r) (L)) := by
  unfold partref_HistoryErr at H
  refine Ok.enter (m := 1) (n := 100) Try.func16 rfl rfl rfl (by decide) ?_
  refine Cd.env (e' := [(0, Sl.v s_a0)]) rfl ?_
  refine Cd.seq ?_
  refine Cd.region ?_
  refine Lst.run rfl rfl (by decide) (Ev.assign rfl) ?_
  refine Lst.nil ?_
  refine At.then ?_
  refine Cd.seq ?_
  refine Cd.seq ?_
  refine Cd.region ?_
  refine Lst.run rfl rfl (by decide) (Ev.move rfl) ?_
  refine Lst.run rfl rfl (by decide) (Ev.lenS (α := Event) (xs := a0) (by decide) rfl rfl Try.runUnderlying24 (hs_a0.mono (FLe.refl _) hM)) ?_
  refine Lst.run rfl rfl (by decide) (Ev.gtr rfl rfl) ?_
  refine Lst.nil ?_
  refine At.then ?_
  rcases Bool.eq_false_or_eq_true (decide ((a0.length : Int) > (60 : Int))) with hb1 | hb1
  · replace H := ite_t hb1 H
    refine Cd.condT rfl hb1 ?_
    refine Cd.seq ?_
    refine Cd.region ?_
    refine Lst.run rfl rfl (by decide) (Ev.assign rfl) ?_
    refine Lst.nil ?_
    refine At.then ?_
    obtain rfl := some_inj H
    refine Cd.ret ?_
    refine At.then_ret ?_
    exact At.ret1 rfl (Res.tmp rfl) (FLe.refl _) (List.Sublist.refl _) ⟨rfl, rfl⟩
  replace H := ite_f hb1 H
  refine Cd.condF rfl hb1 ?_
  refine Cd.skip ?_
  refine At.then ?_
  refine Cd.seq ?_
  refine Cd.seq ?_
  refine Cd.region ?_
  refine Lst.run rfl rfl (by decide) (Ev.move rfl) ?_
  refine Lst.run rfl rfl (by decide) (Ev.lenS (α := Event) (xs := a0) (by decide) rfl rfl Try.runUnderlying24 (hs_a0.mono (FLe.refl _) hM)) ?_
  refine Lst.run rfl rfl (by decide) (Ev.move rfl) ?_
  refine Lst.nil ?_
  refine At.then ?_
  refine Cd.block ?_
  refine Cd.bound (Rd.le (α := Event) (xs := a0) (by decide) (hs_a0.mono (FLe.refl _) hM)) (fun hN85 => ?_)
  obtain ⟨ol2, H, HKl2⟩ := andThen_some H
  refine Cd.loop (σ := Nat × Nat × Unit) (fun (i2, k2, _u) => [(0, Sl.v s_a0), (12, Sl.v s_a0), (13, .int .i64 (a0.length : Int)), (14, .int .i64 (i2 : Int))]) (fun (i2, k2, _u) => L) (fun _ => (fun (i2, k2, _u) => rangeM (partref_HistoryErr_B0 a0) k2 i2 () = some ol2 ∧ i2 + k2 = a0.length)) (fun (i2, k2, _u) => k2) (0, a0.length, ()) ⟨rfl, rfl, rfl, rfl, trivial⟩ rfl ⟨H, by omega⟩ ?_
  rintro F3 ⟨i2, k2, _u⟩ hF4 ⟨H, hik2⟩
  refine Cd.as (e' := [(0, Sl.v s_a0), (12, Sl.v s_a0), (13, .int .i64 (a0.length : Int)), (14, .int .i64 (i2 : Int))]) (L' := L) ⟨rfl, rfl, rfl, rfl, trivial⟩ rfl ?_
  rcases k2 with _ | k2
  · have hc2 : decide ((i2 : Int) < (a0.length : Int)) = false := decide_eq_false (by omega)
    replace H := rangeM_end H
    refine Cd.seq ?_
    refine Cd.region ?_
    refine Lst.run rfl rfl (by decide) (Ev.lss rfl rfl) ?_
    refine Lst.nil ?_
    refine At.then ?_
    refine Cd.seq ?_
    refine Cd.condF rfl hc2 ?_
    refine Cd.exit ?_
    refine At.then_exit ?_
    refine At.then_exit ?_
    refine At.in_exit ?_
    subst H
    replace H := HKl2
    refine At.then ?_
    refine Cd.seq ?_
    refine Cd.region ?_
    refine Lst.run rfl rfl (by decide) (Ev.assign rfl) ?_
    refine Lst.nil ?_
    refine At.then ?_
    obtain rfl := some_inj H
    refine Cd.ret ?_
    exact At.ret1 rfl (Res.tmp rfl) hF4 (List.Sublist.refl _) ⟨rfl, rfl⟩
  have hc2 : decide ((i2 : Int) < (a0.length : Int)) = true := decide_eq_true (by omega)
  obtain ⟨c2, H, hgo2, hbrk2, hret2⟩ := rangeM_go H
  unfold partref_HistoryErr_B0 at H
  try dsimp only at H
  refine Cd.seq ?_
  refine Cd.region ?_
  refine Lst.run rfl rfl (by decide) (Ev.lss rfl rfl) ?_
  refine Lst.nil ?_
  refine At.then ?_
  refine Cd.seq ?_
  refine Cd.condT rfl hc2 ?_
  refine Cd.skip ?_
  refine At.then ?_
  refine Cd.seq ?_
  refine Cd.block ?_
  refine Cd.seq ?_
  refine Cd.region ?_
  refine Lst.run rfl rfl (by decide) (Ev.move rfl) ?_
  obtain ⟨x5, h6, H⟩ := bind_some H
  have g7 := lat_some h6
  refine Lst.run rfl rfl (by decide) (Ev.indexS (α := Event) (xs := a0) rfl rfl Try.runUnderlying24 Try.sizeOf75 rfl (by decide) (hs_a0.mono hF4 hM) g7.1 g7.2.1) ?_
  refine Lst.run rfl rfl (by decide) (Ev.loadSA (α := Event) rfl (hs_a0.mono hF4 hM) Try.isAgg75 Try.sizeOf75 (ch := enc x5) (Enc.len _) (by decide) ((Get.elemN (s := 3) (x := x5) rfl g7.2.2 (Get.here _)).off (by omega))) ?_
  refine Lst.alloc (cs := enc Event.zero) rfl rfl (by decide) Try.zeroValue75 rfl (fun b8 => ?_)
  refine Lst.run rfl rfl (by decide) (Ev.assign rfl) ?_
  refine Lst.store (i := 0) rfl rfl rfl rfl rfl Try.sizeOf75 (vs := enc x5) rfl (Enc.len _) (Enc.one _) (cs' := enc x5) (Put.here ((Enc.len _).trans (Enc.len _).symm)) (L' := (.blk b8 (enc x5) 75) :: L) rfl ?_
  refine Lst.nil ?_
  refine At.then ?_
  refine Cd.seq ?_
  refine Cd.seq ?_
  refine Cd.region ?_
  refine Lst.run rfl rfl (by decide) (Ev.fieldAddr (off' := 0) rfl Try.runUnderlying75 rfl Try.sizeOf3 rfl rfl) ?_
  refine Lst.run rfl rfl (by decide) (Ev.load (i := 0) rfl rfl Try.isAgg3 (v := .int .i64 x5.Proc) ((Event.get_Proc (Get.here _)).off (by rfl))) ?_
  refine Lst.run rfl rfl (by decide) (Ev.lss rfl rfl) ?_
  refine Lst.run rfl rfl (by decide) (Ev.move rfl) ?_
  obtain ⟨o10, H, HKo10⟩ := bind_some H
  refine Lst.join (σ := Bool) 4 (fun y11 => [(0, Sl.v s_a0), (3, .int .i64 (i2 : Int)), (4, .pointer (some ⟨b8, 0, none⟩)), (12, Sl.v s_a0), (13, .int .i64 (a0.length : Int)), (14, .int .i64 (i2 : Int)), (26, .bool y11)]) (fun y11 => (.blk b8 (enc x5) 75) :: L) (fun _ y11 => y11 = o10) ?_ ?_
  · rcases Bool.eq_false_or_eq_true (decide (x5.Proc < (0 : Int))) with hb12 | hb12
    · replace H := ite_t hb12 H
      refine Lst.skip rfl rfl rfl hb12 rfl (by decide) ?_
      refine Lst.skip rfl rfl rfl hb12 rfl (by decide) ?_
      refine Lst.skip rfl rfl rfl hb12 rfl (by decide) ?_
      refine Lst.run rfl rfl (by decide) (Ev.pickT rfl hb12 rfl) ?_
      refine Lst.nil ?_
      exact At.meet true (FLe.refl _) ⟨rfl, rfl, rfl, rfl, rfl, rfl, rfl, trivial⟩ rfl (some_inj H)
    replace H := ite_f hb12 H
    refine Lst.runG rfl rfl rfl hb12 rfl (by decide) (Ev.fieldAddr (off' := 0) rfl Try.runUnderlying75 rfl Try.sizeOf3 rfl rfl) ?_
    refine Lst.runG rfl rfl rfl hb12 rfl (by decide) (Ev.load (i := 0) rfl rfl Try.isAgg3 (v := .int .i64 x5.Proc) ((Event.get_Proc (Get.here _)).off (by rfl))) ?_
    refine Lst.runG rfl rfl rfl hb12 rfl (by decide) (Ev.gtr rfl rfl) ?_
    refine Lst.run rfl rfl (by decide) (Ev.pickF rfl hb12 rfl) ?_
    refine Lst.nil ?_
    exact At.meet (decide (x5.Proc > (5 : Int))) (FLe.refl _) ⟨rfl, rfl, rfl, rfl, rfl, rfl, rfl, trivial⟩ rfl (some_inj H)
  rintro F13 y11 hF14 hy
  subst hy
  refine Lst.as (e' := [(0, Sl.v s_a0), (3, .int .i64 (i2 : Int)), (4, .pointer (some ⟨b8, 0, none⟩)), (12, Sl.v s_a0), (13, .int .i64 (a0.length : Int)), (14, .int .i64 (i2 : Int)), (26, .bool y11)]) (L' := (.blk b8 (enc x5) 75) :: L) ⟨rfl, rfl, rfl, rfl, rfl, rfl, rfl, trivial⟩ rfl ?_
  replace H := HKo10
  refine Lst.run rfl rfl (by decide) (Ev.move rfl) ?_
  obtain ⟨o15, H, HKo15⟩ := bind_some H
  refine Lst.join (σ := Bool) 4 (fun y16 => [(0, Sl.v s_a0), (3, .int .i64 (i2 : Int)), (4, .pointer (some ⟨b8, 0, none⟩)), (12, Sl.v s_a0), (13, .int .i64 (a0.length : Int)), (14, .int .i64 (i2 : Int)), (31, .bool y16)]) (fun y16 => (.blk b8 (enc x5) 75) :: L) (fun _ y16 => y16 = o15) ?_ ?_
  · rcases Bool.eq_false_or_eq_true y11 with hb17 | hb17
    · replace H := ite_t hb17 H
      refine Lst.skip rfl rfl rfl hb17 rfl (by decide) ?_
      refine Lst.skip rfl rfl rfl hb17 rfl (by decide) ?_
      refine Lst.skip rfl rfl rfl hb17 rfl (by decide) ?_
      refine Lst.run rfl rfl (by decide) (Ev.pickT rfl hb17 rfl) ?_
      refine Lst.nil ?_
      exact At.meet true (FLe.refl _) ⟨rfl, rfl, rfl, rfl, rfl, rfl, rfl, trivial⟩ rfl (some_inj H)
    replace H := ite_f hb17 H
    refine Lst.runG rfl rfl rfl hb17 rfl (by decide) (Ev.fieldAddr (off' := 2) rfl Try.runUnderlying75 rfl Try.sizeOf3 rfl rfl) ?_
    refine Lst.runG rfl rfl rfl hb17 rfl (by decide) (Ev.load (i := 0) rfl rfl Try.isAgg3 (v := .int .i64 x5.Msg) ((Event.get_Msg (Get.here _)).off (by rfl))) ?_
    refine Lst.runG rfl rfl rfl hb17 rfl (by decide) (Ev.lss rfl rfl) ?_
    refine Lst.run rfl rfl (by decide) (Ev.pickF rfl hb17 rfl) ?_
    refine Lst.nil ?_
    exact At.meet (decide (x5.Msg < (0 : Int))) (FLe.refl _) ⟨rfl, rfl, rfl, rfl, rfl, rfl, rfl, trivial⟩ rfl (some_inj H)
  rintro F18 y16 hF19 hy
  subst hy
  refine Lst.as (e' := [(0, Sl.v s_a0), (3, .int .i64 (i2 : Int)), (4, .pointer (some ⟨b8, 0, none⟩)), (12, Sl.v s_a0), (13, .int .i64 (a0.length : Int)), (14, .int .i64 (i2 : Int)), (31, .bool y16)]) (L' := (.blk b8 (enc x5) 75) :: L) ⟨rfl, rfl, rfl, rfl, rfl, rfl, rfl, trivial⟩ rfl ?_
  replace H := HKo15
  refine Lst.run rfl rfl (by decide) (Ev.move rfl) ?_
  obtain ⟨o20, H, HKo20⟩ := bind_some H
  refine Lst.join (σ := Bool) 4 (fun y21 => [(0, Sl.v s_a0), (3, .int .i64 (i2 : Int)), (4, .pointer (some ⟨b8, 0, none⟩)), (12, Sl.v s_a0), (13, .int .i64 (a0.length : Int)), (14, .int .i64 (i2 : Int)), (36, .bool y21)]) (fun y21 => (.blk b8 (enc x5) 75) :: L) (fun _ y21 => y21 = o20) ?_ ?_
  · rcases Bool.eq_false_or_eq_true y16 with hb22 | hb22
    · replace H := ite_t hb22 H
      refine Lst.skip rfl rfl rfl hb22 rfl (by decide) ?_
      refine Lst.skip rfl rfl rfl hb22 rfl (by decide) ?_
      refine Lst.skip rfl rfl rfl hb22 rfl (by decide) ?_
      refine Lst.run rfl rfl (by decide) (Ev.pickT rfl hb22 rfl) ?_
      refine Lst.nil ?_
      exact At.meet true (FLe.refl _) ⟨rfl, rfl, rfl, rfl, rfl, rfl, rfl, trivial⟩ rfl (some_inj H)
    replace H := ite_f hb22 H
    refine Lst.runG rfl rfl rfl hb22 rfl (by decide) (Ev.fieldAddr (off' := 2) rfl Try.runUnderlying75 rfl Try.sizeOf3 rfl rfl) ?_
    refine Lst.runG rfl rfl rfl hb22 rfl (by decide) (Ev.load (i := 0) rfl rfl Try.isAgg3 (v := .int .i64 x5.Msg) ((Event.get_Msg (Get.here _)).off (by rfl))) ?_
    refine Lst.runG rfl rfl rfl hb22 rfl (by decide) (Ev.gtr rfl rfl) ?_
    refine Lst.run rfl rfl (by decide) (Ev.pickF rfl hb22 rfl) ?_
    refine Lst.nil ?_
    exact At.meet (decide (x5.Msg > (29 : Int))) (FLe.refl _) ⟨rfl, rfl, rfl, rfl, rfl, rfl, rfl, trivial⟩ rfl (some_inj H)
  rintro F23 y21 hF24 hy
  subst hy
  refine Lst.as (e' := [(0, Sl.v s_a0), (3, .int .i64 (i2 : Int)), (4, .pointer (some ⟨b8, 0, none⟩)), (12, Sl.v s_a0), (13, .int .i64 (a0.length : Int)), (14, .int .i64 (i2 : Int)), (36, .bool y21)]) (L' := (.blk b8 (enc x5) 75) :: L) ⟨rfl, rfl, rfl, rfl, rfl, rfl, rfl, trivial⟩ rfl ?_
  replace H := HKo20
  refine Lst.nil ?_
  refine At.then ?_
  rcases Bool.eq_false_or_eq_true y21 with hb25 | hb25
  · replace H := ite_t hb25 H
    refine Cd.condT rfl hb25 ?_
    refine Cd.seq ?_
    refine Cd.region ?_
    refine Lst.run rfl rfl (by decide) (Ev.assign rfl) ?_
    refine Lst.nil ?_
    refine At.then ?_
    have H := hret2 _ (some_inj H).symm
    subst H
    replace H := HKl2
    obtain rfl := some_inj H
    refine Cd.ret ?_
    refine At.then_ret ?_
    refine At.in_ret ?_
    refine At.then_ret ?_
    refine At.then_ret ?_
    refine At.in_ret ?_
    refine At.then_ret ?_
    exact At.ret1 rfl (Res.tmp rfl) (FLe.trans (FLe.trans (FLe.trans hF4 hF14) hF19) hF24) (List.Sublist.cons _ (List.Sublist.refl _)) ⟨rfl, rfl⟩
  replace H := ite_f hb25 H
  refine Cd.condF rfl hb25 ?_
  refine Cd.skip ?_
  refine At.then ?_
  refine Cd.seq ?_
  refine Cd.region ?_
  refine Lst.run rfl rfl (by decide) (Ev.assign rfl) ?_
  refine Lst.run rfl rfl (by decide) (Ev.assign rfl) ?_
  refine Lst.nil ?_
  refine At.then ?_
  refine Cd.seq ?_
  refine Cd.seq ?_
  refine Cd.region ?_
  refine Lst.run rfl rfl (by decide) (Ev.move rfl) ?_
  refine Lst.run rfl rfl (by decide) (Ev.move rfl) ?_
  obtain ⟨m26, h27, H⟩ := bind_some H
  obtain ⟨g28, gl29⟩ := cutL_some h27
  have hq30 : Rd w0 F M (s_a0.cut (0 : Int).toNat ((i2 : Int) : Int).toNat 3) m26 := by rw [← gl29]; exact Rd.cut (by decide) hs_a0 (by omega) (by omega)
  refine Lst.run rfl rfl (by decide) (Ev.cut (α := Event) (xs := a0) (i := 0) (j := (i2 : Int)) rfl rfl rfl Try.runUnderlying24 Try.sizeOf75 rfl (by decide) (hs_a0.mono (FLe.trans (FLe.trans (FLe.trans hF4 hF14) hF19) hF24) (List.Sublist.cons _ hM)) g28.1 g28.2.1 g28.2.2) ?_
  refine Lst.run rfl rfl (by decide) (Ev.lenS (α := Event) (xs := m26) (by decide) rfl rfl Try.runUnderlying24 (hq30.mono (FLe.trans (FLe.trans (FLe.trans hF4 hF14) hF19) hF24) (List.Sublist.cons _ hM))) ?_
  refine Lst.run rfl rfl (by decide) (Ev.move rfl) ?_
  refine Lst.nil ?_
  refine At.then ?_
  refine Cd.block ?_
  refine Cd.bound (Rd.le (α := Event) (xs := m26) (by decide) (hq30.mono (FLe.trans (FLe.trans (FLe.trans hF4 hF14) hF19) hF24) (List.Sublist.cons _ hM))) (fun hN84 => ?_)
  obtain ⟨ol31, H, HKl31⟩ := bind_some H
  refine Cd.loop (σ := Nat × Nat × Int × Bool) (fun (i31, k31, y32, y33) => [(0, Sl.v s_a0), (4, .pointer (some ⟨b8, 0, none⟩)), (5, .int .i64 y32), (6, .bool y33), (12, Sl.v s_a0), (13, .int .i64 (a0.length : Int)), (14, .int .i64 (i2 : Int)), (39, Sl.v (s_a0.cut (0 : Int).toNat ((i2 : Int) : Int).toNat 3)), (40, .int .i64 (m26.length : Int)), (41, .int .i64 (i31 : Int))]) (fun (i31, k31, y32, y33) => (.blk b8 (enc x5) 75) :: L) (fun _ => (fun (i31, k31, y32, y33) => rangeF (partref_HistoryErr_B2 x5 m26) k31 i31 (y32, y33) = some ol31 ∧ i31 + k31 = m26.length)) (fun (i31, k31, y32, y33) => k31) (0, m26.length, (-1 : Int), false) ⟨rfl, rfl, rfl, rfl, rfl, rfl, rfl, rfl, rfl, rfl, trivial⟩ rfl ⟨H, by omega⟩ ?_
  rintro F34 ⟨i31, k31, y32, y33⟩ hF35 ⟨H, hik31⟩
  refine Cd.as (e' := [(0, Sl.v s_a0), (4, .pointer (some ⟨b8, 0, none⟩)), (5, .int .i64 y32), (6, .bool y33), (12, Sl.v s_a0), (13, .int .i64 (a0.length : Int)), (14, .int .i64 (i2 : Int)), (39, Sl.v (s_a0.cut (0 : Int).toNat ((i2 : Int) : Int).toNat 3)), (40, .int .i64 (m26.length : Int)), (41, .int .i64 (i31 : Int))]) (L' := (.blk b8 (enc x5) 75) :: L) ⟨rfl, rfl, rfl, rfl, rfl, rfl, rfl, rfl, rfl, rfl, trivial⟩ rfl ?_
  rcases k31 with _ | k31
  · have hc31 : decide ((i31 : Int) < (m26.length : Int)) = false := decide_eq_false (by omega)
    replace H := rangeF_end H
    refine Cd.seq ?_
    refine Cd.region ?_
    refine Lst.run rfl rfl (by decide) (Ev.lss rfl rfl) ?_
    refine Lst.nil ?_
    refine At.then ?_
    refine Cd.seq ?_
    refine Cd.condF rfl hc31 ?_
    refine Cd.exit ?_
    refine At.then_exit ?_
    refine At.then_exit ?_
    refine At.in_exit ?_
    subst H
    replace H := HKl31
    refine At.then ?_
    refine Cd.block ?_
    refine Cd.seq ?_
    refine Cd.region ?_
    refine Lst.run rfl rfl (by decide) (Ev.fieldAddr (off' := 1) rfl Try.runUnderlying75 rfl Try.sizeOf3 rfl rfl) ?_
    refine Lst.run rfl rfl (by decide) (Ev.load (i := 0) rfl rfl Try.isAgg3 (v := .int .i64 x5.Kind) ((Event.get_Kind (Get.here _)).off (by rfl))) ?_
    refine Lst.run rfl rfl (by decide) (Ev.eql rfl rfl) ?_
    refine Lst.run rfl rfl (by decide) (Ev.move rfl) ?_
    obtain ⟨o56, H, HKo56⟩ := bind_some H
    refine Lst.join (σ := Bool) 4 (fun y57 => [(0, Sl.v s_a0), (4, .pointer (some ⟨b8, 0, none⟩)), (5, .int .i64 y32), (6, .bool y33), (12, Sl.v s_a0), (13, .int .i64 (a0.length : Int)), (14, .int .i64 (i2 : Int)), (72, .bool y57)]) (fun y57 => (.blk b8 (enc x5) 75) :: L) (fun _ y57 => y57 = o56) ?_ ?_
    · rcases (Bool.eq_false_or_eq_true (x5.Kind == (1 : Int))).symm with hb58 | hb58
      · replace H := ite_f hb58 H
        refine Lst.skip rfl rfl rfl hb58 rfl (by decide) ?_
        refine Lst.skip rfl rfl rfl hb58 rfl (by decide) ?_
        refine Lst.skip rfl rfl rfl hb58 rfl (by decide) ?_
        refine Lst.run rfl rfl (by decide) (Ev.pickF rfl hb58 rfl) ?_
        refine Lst.nil ?_
        exact At.meet false (FLe.refl _) ⟨rfl, rfl, rfl, rfl, rfl, rfl, rfl, rfl, trivial⟩ rfl (some_inj H)
      replace H := ite_t hb58 H
      refine Lst.runG rfl rfl rfl hb58 rfl (by decide) (Ev.fieldAddr (off' := 2) rfl Try.runUnderlying75 rfl Try.sizeOf3 rfl rfl) ?_
      refine Lst.runG rfl rfl rfl hb58 rfl (by decide) (Ev.load (i := 0) rfl rfl Try.isAgg3 (v := .int .i64 x5.Msg) ((Event.get_Msg (Get.here _)).off (by rfl))) ?_
      refine Lst.runG rfl rfl rfl hb58 rfl (by decide) (Ev.eql rfl rfl) ?_
      refine Lst.run rfl rfl (by decide) (Ev.pickT rfl hb58 rfl) ?_
      refine Lst.nil ?_
      exact At.meet (x5.Msg == (0 : Int)) (FLe.refl _) ⟨rfl, rfl, rfl, rfl, rfl, rfl, rfl, rfl, trivial⟩ rfl (some_inj H)
    rintro F59 y57 hF60 hy
    subst hy
    refine Lst.as (e' := [(0, Sl.v s_a0), (4, .pointer (some ⟨b8, 0, none⟩)), (5, .int .i64 y32), (6, .bool y33), (12, Sl.v s_a0), (13, .int .i64 (a0.length : Int)), (14, .int .i64 (i2 : Int)), (72, .bool y57)]) (L' := (.blk b8 (enc x5) 75) :: L) ⟨rfl, rfl, rfl, rfl, rfl, rfl, rfl, rfl, trivial⟩ rfl ?_
    replace H := HKo56
    refine Lst.run rfl rfl (by decide) (Ev.assign rfl) ?_
    refine Lst.nil ?_
    refine At.then ?_
    rcases Bool.eq_false_or_eq_true y57 with hb61 | hb61
    · replace H := ite_t hb61 H
      refine Cd.condT rfl hb61 ?_
      refine Cd.skip ?_
      refine At.in_normal ?_
      refine At.in_normal ?_
      refine At.then ?_
      refine Cd.region ?_
      refine Lst.run rfl rfl (by decide) (Ev.incr (by omega) rfl rfl) ?_
      refine Lst.run rfl rfl (by decide) (Ev.move rfl) ?_
      refine Lst.nil ?_
      refine At.less (L' := L) (List.Sublist.cons _ (List.Sublist.refl _)) ?_
      exact At.meet (i2 + 1, k2, ()) (FLe.trans (FLe.trans (FLe.trans (FLe.trans (FLe.trans hF4 hF14) hF19) hF24) hF35) hF60) ⟨rfl, rfl, rfl, rfl, trivial⟩ rfl ⟨⟨hgo2 _ (some_inj H).symm, by omega⟩, Nat.lt_succ_self _⟩
    replace H := ite_f hb61 H
    refine Cd.condF rfl hb61 ?_
    refine Cd.seq ?_
    refine Cd.region ?_
    refine Lst.run rfl rfl (by decide) (Ev.fieldAddr (off' := 1) rfl Try.runUnderlying75 rfl Try.sizeOf3 rfl rfl) ?_
    refine Lst.run rfl rfl (by decide) (Ev.load (i := 0) rfl rfl Try.isAgg3 (v := .int .i64 x5.Kind) ((Event.get_Kind (Get.here _)).off (by rfl))) ?_
    refine Lst.run rfl rfl (by decide) (Ev.eql rfl rfl) ?_
    refine Lst.run rfl rfl (by decide) (Ev.move rfl) ?_
    obtain ⟨o62, H, HKo62⟩ := bind_some H
    refine Lst.join (σ := Bool) 3 (fun y63 => [(0, Sl.v s_a0), (4, .pointer (some ⟨b8, 0, none⟩)), (5, .int .i64 y32), (6, .bool y33), (12, Sl.v s_a0), (13, .int .i64 (a0.length : Int)), (14, .int .i64 (i2 : Int)), (80, .bool y63)]) (fun y63 => (.blk b8 (enc x5) 75) :: L) (fun _ y63 => y63 = o62) ?_ ?_
    · rcases (Bool.eq_false_or_eq_true (x5.Kind == (2 : Int))).symm with hb64 | hb64
      · replace H := ite_f hb64 H
        refine Lst.skip rfl rfl rfl hb64 rfl (by decide) ?_
        refine Lst.skip rfl rfl rfl hb64 rfl (by decide) ?_
        refine Lst.run rfl rfl (by decide) (Ev.pickF rfl hb64 rfl) ?_
        refine Lst.nil ?_
        exact At.meet false (FLe.refl _) ⟨rfl, rfl, rfl, rfl, rfl, rfl, rfl, rfl, trivial⟩ rfl (some_inj H)
      replace H := ite_t hb64 H
      refine Lst.runG rfl rfl rfl hb64 rfl (by decide) (Ev.move rfl) ?_
      refine Lst.runG rfl rfl rfl hb64 rfl (by decide) (Ev.lss rfl rfl) ?_
      refine Lst.run rfl rfl (by decide) (Ev.pickT rfl hb64 rfl) ?_
      refine Lst.nil ?_
      exact At.meet (decide (y32 < (0 : Int))) (FLe.refl _) ⟨rfl, rfl, rfl, rfl, rfl, rfl, rfl, rfl, trivial⟩ rfl (some_inj H)
    rintro F65 y63 hF66 hy
    subst hy
    refine Lst.as (e' := [(0, Sl.v s_a0), (4, .pointer (some ⟨b8, 0, none⟩)), (5, .int .i64 y32), (6, .bool y33), (12, Sl.v s_a0), (13, .int .i64 (a0.length : Int)), (14, .int .i64 (i2 : Int)), (80, .bool y63)]) (L' := (.blk b8 (enc x5) 75) :: L) ⟨rfl, rfl, rfl, rfl, rfl, rfl, rfl, rfl, trivial⟩ rfl ?_
    replace H := HKo62
    refine Lst.run rfl rfl (by decide) (Ev.assign rfl) ?_
    refine Lst.nil ?_
    refine At.then ?_
    rcases Bool.eq_false_or_eq_true y63 with hb67 | hb67
    · replace H := ite_t hb67 H
      refine Cd.condT rfl hb67 ?_
      refine Cd.skip ?_
      refine At.in_normal ?_
      refine At.in_normal ?_
      refine At.then ?_
      refine Cd.region ?_
      refine Lst.run rfl rfl (by decide) (Ev.incr (by omega) rfl rfl) ?_
      refine Lst.run rfl rfl (by decide) (Ev.move rfl) ?_
      refine Lst.nil ?_
      refine At.less (L' := L) (List.Sublist.cons _ (List.Sublist.refl _)) ?_
      exact At.meet (i2 + 1, k2, ()) (FLe.trans (FLe.trans (FLe.trans (FLe.trans (FLe.trans (FLe.trans hF4 hF14) hF19) hF24) hF35) hF60) hF66) ⟨rfl, rfl, rfl, rfl, trivial⟩ rfl ⟨⟨hgo2 _ (some_inj H).symm, by omega⟩, Nat.lt_succ_self _⟩
    replace H := ite_f hb67 H
    refine Cd.condF rfl hb67 ?_
    refine Cd.seq ?_
    refine Cd.region ?_
    refine Lst.run rfl rfl (by decide) (Ev.fieldAddr (off' := 1) rfl Try.runUnderlying75 rfl Try.sizeOf3 rfl rfl) ?_
    refine Lst.run rfl rfl (by decide) (Ev.load (i := 0) rfl rfl Try.isAgg3 (v := .int .i64 x5.Kind) ((Event.get_Kind (Get.here _)).off (by rfl))) ?_
    refine Lst.run rfl rfl (by decide) (Ev.eql rfl rfl) ?_
    refine Lst.run rfl rfl (by decide) (Ev.move rfl) ?_
    obtain ⟨o68, H, HKo68⟩ := bind_some H
    refine Lst.join (σ := Bool) 3 (fun y69 => [(0, Sl.v s_a0), (4, .pointer (some ⟨b8, 0, none⟩)), (5, .int .i64 y32), (6, .bool y33), (12, Sl.v s_a0), (13, .int .i64 (a0.length : Int)), (14, .int .i64 (i2 : Int)), (88, .bool y69)]) (fun y69 => (.blk b8 (enc x5) 75) :: L) (fun _ y69 => y69 = o68) ?_ ?_
    · rcases (Bool.eq_false_or_eq_true (x5.Kind == (3 : Int))).symm with hb70 | hb70
      · replace H := ite_f hb70 H
        refine Lst.skip rfl rfl rfl hb70 rfl (by decide) ?_
        refine Lst.skip rfl rfl rfl hb70 rfl (by decide) ?_
        refine Lst.run rfl rfl (by decide) (Ev.pickF rfl hb70 rfl) ?_
        refine Lst.nil ?_
        exact At.meet false (FLe.refl _) ⟨rfl, rfl, rfl, rfl, rfl, rfl, rfl, rfl, trivial⟩ rfl (some_inj H)
      replace H := ite_t hb70 H
      refine Lst.runG rfl rfl rfl hb70 rfl (by decide) (Ev.move rfl) ?_
      refine Lst.runG rfl rfl rfl hb70 rfl (by decide) (Ev.geq rfl rfl) ?_
      refine Lst.run rfl rfl (by decide) (Ev.pickT rfl hb70 rfl) ?_
      refine Lst.nil ?_
      exact At.meet (decide (y32 ≥ (0 : Int))) (FLe.refl _) ⟨rfl, rfl, rfl, rfl, rfl, rfl, rfl, rfl, trivial⟩ rfl (some_inj H)
    rintro F71 y69 hF72 hy
    subst hy
    refine Lst.as (e' := [(0, Sl.v s_a0), (4, .pointer (some ⟨b8, 0, none⟩)), (5, .int .i64 y32), (6, .bool y33), (12, Sl.v s_a0), (13, .int .i64 (a0.length : Int)), (14, .int .i64 (i2 : Int)), (88, .bool y69)]) (L' := (.blk b8 (enc x5) 75) :: L) ⟨rfl, rfl, rfl, rfl, rfl, rfl, rfl, rfl, trivial⟩ rfl ?_
    replace H := HKo68
    refine Lst.run rfl rfl (by decide) (Ev.move rfl) ?_
    obtain ⟨o73, H, HKo73⟩ := bind_some H
    refine Lst.join (σ := Bool) 5 (fun y74 => [(0, Sl.v s_a0), (6, .bool y33), (12, Sl.v s_a0), (13, .int .i64 (a0.length : Int)), (14, .int .i64 (i2 : Int)), (94, .bool y74)]) (fun y74 => (.blk b8 (enc x5) 75) :: L) (fun _ y74 => y74 = o73) ?_ ?_
    · rcases (Bool.eq_false_or_eq_true y69).symm with hb75 | hb75
      · replace H := ite_f hb75 H
        refine Lst.skip rfl rfl rfl hb75 rfl (by decide) ?_
        refine Lst.skip rfl rfl rfl hb75 rfl (by decide) ?_
        refine Lst.skip rfl rfl rfl hb75 rfl (by decide) ?_
        refine Lst.skip rfl rfl rfl hb75 rfl (by decide) ?_
        refine Lst.run rfl rfl (by decide) (Ev.pickF rfl hb75 rfl) ?_
        refine Lst.nil ?_
        exact At.meet false (FLe.refl _) ⟨rfl, rfl, rfl, rfl, rfl, rfl, trivial⟩ rfl (some_inj H)
      replace H := ite_t hb75 H
      refine Lst.runG rfl rfl rfl hb75 rfl (by decide) (Ev.move rfl) ?_
      refine Lst.runG rfl rfl rfl hb75 rfl (by decide) (Ev.fieldAddr (off' := 0) rfl Try.runUnderlying75 rfl Try.sizeOf3 rfl rfl) ?_
      refine Lst.runG rfl rfl rfl hb75 rfl (by decide) (Ev.load (i := 0) rfl rfl Try.isAgg3 (v := .int .i64 x5.Proc) ((Event.get_Proc (Get.here _)).off (by rfl))) ?_
      refine Lst.runG rfl rfl rfl hb75 rfl (by decide) (Ev.neq rfl rfl) ?_
      refine Lst.run rfl rfl (by decide) (Ev.pickT rfl hb75 rfl) ?_
      refine Lst.nil ?_
      exact At.meet (y32 != x5.Proc) (FLe.refl _) ⟨rfl, rfl, rfl, rfl, rfl, rfl, trivial⟩ rfl (some_inj H)
    rintro F76 y74 hF77 hy
    subst hy
    refine Lst.as (e' := [(0, Sl.v s_a0), (6, .bool y33), (12, Sl.v s_a0), (13, .int .i64 (a0.length : Int)), (14, .int .i64 (i2 : Int)), (94, .bool y74)]) (L' := (.blk b8 (enc x5) 75) :: L) ⟨rfl, rfl, rfl, rfl, rfl, rfl, trivial⟩ rfl ?_
    replace H := HKo73
    refine Lst.run rfl rfl (by decide) (Ev.move rfl) ?_
    obtain ⟨o78, H, HKo78⟩ := bind_some H
    refine Lst.join (σ := Bool) 3 (fun y79 => [(0, Sl.v s_a0), (12, Sl.v s_a0), (13, .int .i64 (a0.length : Int)), (14, .int .i64 (i2 : Int)), (98, .bool y79)]) (fun y79 => (.blk b8 (enc x5) 75) :: L) (fun _ y79 => y79 = o78) ?_ ?_
    · rcases (Bool.eq_false_or_eq_true y74).symm with hb80 | hb80
      · replace H := ite_f hb80 H
        refine Lst.skip rfl rfl rfl hb80 rfl (by decide) ?_
        refine Lst.skip rfl rfl rfl hb80 rfl (by decide) ?_
        refine Lst.run rfl rfl (by decide) (Ev.pickF rfl hb80 rfl) ?_
        refine Lst.nil ?_
        exact At.meet false (FLe.refl _) ⟨rfl, rfl, rfl, rfl, rfl, trivial⟩ rfl (some_inj H)
      replace H := ite_t hb80 H
      refine Lst.runG rfl rfl rfl hb80 rfl (by decide) (Ev.move rfl) ?_
      refine Lst.runG rfl rfl rfl hb80 rfl (by decide) (Ev.not rfl) ?_
      refine Lst.run rfl rfl (by decide) (Ev.pickT rfl hb80 rfl) ?_
      refine Lst.nil ?_
      exact At.meet (!y33) (FLe.refl _) ⟨rfl, rfl, rfl, rfl, rfl, trivial⟩ rfl (some_inj H)
    rintro F81 y79 hF82 hy
    subst hy
    refine Lst.as (e' := [(0, Sl.v s_a0), (12, Sl.v s_a0), (13, .int .i64 (a0.length : Int)), (14, .int .i64 (i2 : Int)), (98, .bool y79)]) (L' := (.blk b8 (enc x5) 75) :: L) ⟨rfl, rfl, rfl, rfl, rfl, trivial⟩ rfl ?_
    replace H := HKo78
    refine Lst.run rfl rfl (by decide) (Ev.assign rfl) ?_
    refine Lst.nil ?_
    refine At.then ?_
    rcases (Bool.eq_false_or_eq_true y79).symm with hb83 | hb83
    · replace H := ite_f hb83 H
      refine Cd.condF rfl hb83 ?_
      refine Cd.seq ?_
      refine Cd.region ?_
      refine Lst.run rfl rfl (by decide) (Ev.assign rfl) ?_
      refine Lst.nil ?_
      refine At.then ?_
      have H := hret2 _ (some_inj H).symm
      subst H
      replace H := HKl2
      obtain rfl := some_inj H
      refine Cd.ret ?_
      refine At.in_ret ?_
      refine At.in_ret ?_
      refine At.then_ret ?_
      refine At.then_ret ?_
      refine At.in_ret ?_
      refine At.then_ret ?_
      exact At.ret1 rfl (Res.tmp rfl) (FLe.trans (FLe.trans (FLe.trans (FLe.trans (FLe.trans (FLe.trans (FLe.trans (FLe.trans (FLe.trans hF4 hF14) hF19) hF24) hF35) hF60) hF66) hF72) hF77) hF82) (List.Sublist.cons _ (List.Sublist.refl _)) ⟨rfl, rfl⟩
    replace H := ite_t hb83 H
    refine Cd.condT rfl hb83 ?_
    refine Cd.skip ?_
    refine At.in_normal ?_
    refine At.in_normal ?_
    refine At.then ?_
    refine Cd.region ?_
    refine Lst.run rfl rfl (by decide) (Ev.incr (by omega) rfl rfl) ?_
    refine Lst.run rfl rfl (by decide) (Ev.move rfl) ?_
    refine Lst.nil ?_
    refine At.less (L' := L) (List.Sublist.cons _ (List.Sublist.refl _)) ?_
    exact At.meet (i2 + 1, k2, ()) (FLe.trans (FLe.trans (FLe.trans (FLe.trans (FLe.trans (FLe.trans (FLe.trans (FLe.trans (FLe.trans hF4 hF14) hF19) hF24) hF35) hF60) hF66) hF72) hF77) hF82) ⟨rfl, rfl, rfl, rfl, trivial⟩ rfl ⟨⟨hgo2 _ (some_inj H).symm, by omega⟩, Nat.lt_succ_self _⟩
  have hc31 : decide ((i31 : Int) < (m26.length : Int)) = true := decide_eq_true (by omega)
  obtain ⟨c31, H, hgo31⟩ := rangeF_go H
  unfold partref_HistoryErr_B2 at H
  try dsimp only at H
  refine Cd.seq ?_
  refine Cd.region ?_
  refine Lst.run rfl rfl (by decide) (Ev.lss rfl rfl) ?_
  refine Lst.nil ?_
  refine At.then ?_
  refine Cd.seq ?_
  refine Cd.condT rfl hc31 ?_
  refine Cd.skip ?_
  refine At.then ?_
  refine Cd.seq ?_
  refine Cd.block ?_
  refine Cd.seq ?_
  refine Cd.region ?_
  obtain ⟨x36, h37, H⟩ := bind_some H
  have g38 := lat_some h37
  refine Lst.run rfl rfl (by decide) (Ev.indexS (α := Event) (xs := m26) rfl rfl Try.runUnderlying24 Try.sizeOf75 rfl (by decide) (hq30.mono (FLe.trans (FLe.trans (FLe.trans (FLe.trans hF4 hF14) hF19) hF24) hF35) (List.Sublist.cons _ hM)) g38.1 g38.2.1) ?_
  refine Lst.run rfl rfl (by decide) (Ev.loadSA (α := Event) rfl (hq30.mono (FLe.trans (FLe.trans (FLe.trans (FLe.trans hF4 hF14) hF19) hF24) hF35) (List.Sublist.cons _ hM)) Try.isAgg75 Try.sizeOf75 (ch := enc x36) (Enc.len _) (by decide) ((Get.elemN (s := 3) (x := x36) rfl g38.2.2 (Get.here _)).off (by omega))) ?_
  refine Lst.alloc (cs := enc Event.zero) rfl rfl (by decide) Try.zeroValue75 rfl (fun b39 => ?_)
  refine Lst.store (i := 0) rfl rfl rfl rfl rfl Try.sizeOf75 (vs := enc x36) rfl (Enc.len _) (Enc.one _) (cs' := enc x36) (Put.here ((Enc.len _).trans (Enc.len _).symm)) (L' := (.blk b39 (enc x36) 75) :: (.blk b8 (enc x5) 75) :: L) rfl ?_
  refine Lst.nil ?_
  refine At.then ?_
  obtain ⟨o42, H, HKo42⟩ := bind_some H
  refine Cd.join (σ := Int) (fun y41 => [(0, Sl.v s_a0), (4, .pointer (some ⟨b8, 0, none⟩)), (5, .int .i64 y41), (6, .bool y33), (8, .pointer (some ⟨b39, 0, none⟩)), (12, Sl.v s_a0), (13, .int .i64 (a0.length : Int)), (14, .int .i64 (i2 : Int)), (39, Sl.v (s_a0.cut (0 : Int).toNat ((i2 : Int) : Int).toNat 3)), (40, .int .i64 (m26.length : Int)), (41, .int .i64 (i31 : Int))]) (fun y41 => (.blk b39 (enc x36) 75) :: (.blk b8 (enc x5) 75) :: L) (fun _ y41 => y41 = o42) ?_ ?_
  · refine Cd.seq ?_
    refine Cd.region ?_
    refine Lst.run rfl rfl (by decide) (Ev.fieldAddr (off' := 1) rfl Try.runUnderlying75 rfl Try.sizeOf3 rfl rfl) ?_
    refine Lst.run rfl rfl (by decide) (Ev.load (i := 0) rfl rfl Try.isAgg3 (v := .int .i64 x36.Kind) ((Event.get_Kind (Get.here _)).off (by rfl))) ?_
    refine Lst.run rfl rfl (by decide) (Ev.eql rfl rfl) ?_
    refine Lst.run rfl rfl (by decide) (Ev.move rfl) ?_
    obtain ⟨o43, H, HKo43⟩ := bind_some H
    refine Lst.join (σ := Bool) 6 (fun y44 => [(0, Sl.v s_a0), (4, .pointer (some ⟨b8, 0, none⟩)), (5, .int .i64 y32), (6, .bool y33), (8, .pointer (some ⟨b39, 0, none⟩)), (12, Sl.v s_a0), (13, .int .i64 (a0.length : Int)), (14, .int .i64 (i2 : Int)), (39, Sl.v (s_a0.cut (0 : Int).toNat ((i2 : Int) : Int).toNat 3)), (40, .int .i64 (m26.length : Int)), (41, .int .i64 (i31 : Int)), (54, .bool y44)]) (fun y44 => (.blk b39 (enc x36) 75) :: (.blk b8 (enc x5) 75) :: L) (fun _ y44 => y44 = o43) ?_ ?_
    · rcases (Bool.eq_false_or_eq_true (x36.Kind == (2 : Int))).symm with hb45 | hb45
      · replace H := ite_f hb45 H
        refine Lst.skip rfl rfl rfl hb45 rfl (by decide) ?_
        refine Lst.skip rfl rfl rfl hb45 rfl (by decide) ?_
        refine Lst.skip rfl rfl rfl hb45 rfl (by decide) ?_
        refine Lst.skip rfl rfl rfl hb45 rfl (by decide) ?_
        refine Lst.skip rfl rfl rfl hb45 rfl (by decide) ?_
        refine Lst.run rfl rfl (by decide) (Ev.pickF rfl hb45 rfl) ?_
        refine Lst.nil ?_
        exact At.meet false (FLe.refl _) ⟨rfl, rfl, rfl, rfl, rfl, rfl, rfl, rfl, rfl, rfl, rfl, rfl, trivial⟩ rfl (some_inj H)
      replace H := ite_t hb45 H
      refine Lst.runG rfl rfl rfl hb45 rfl (by decide) (Ev.fieldAddr (off' := 2) rfl Try.runUnderlying75 rfl Try.sizeOf3 rfl rfl) ?_
      refine Lst.runG rfl rfl rfl hb45 rfl (by decide) (Ev.load (i := 0) rfl rfl Try.isAgg3 (v := .int .i64 x36.Msg) ((Event.get_Msg (Get.here _)).off (by rfl))) ?_
      refine Lst.runG rfl rfl rfl hb45 rfl (by decide) (Ev.fieldAddr (off' := 2) rfl Try.runUnderlying75 rfl Try.sizeOf3 rfl rfl) ?_
      refine Lst.runG rfl rfl rfl hb45 rfl (by decide) (Ev.load (i := 1) rfl rfl Try.isAgg3 (v := .int .i64 x5.Msg) ((Event.get_Msg (Get.here _)).off (by rfl))) ?_
      refine Lst.runG rfl rfl rfl hb45 rfl (by decide) (Ev.eql rfl rfl) ?_
      refine Lst.run rfl rfl (by decide) (Ev.pickT rfl hb45 rfl) ?_
      refine Lst.nil ?_
      exact At.meet (x36.Msg == x5.Msg) (FLe.refl _) ⟨rfl, rfl, rfl, rfl, rfl, rfl, rfl, rfl, rfl, rfl, rfl, rfl, trivial⟩ rfl (some_inj H)
    rintro F46 y44 hF47 hy
    subst hy
    refine Lst.as (e' := [(0, Sl.v s_a0), (4, .pointer (some ⟨b8, 0, none⟩)), (5, .int .i64 y32), (6, .bool y33), (8, .pointer (some ⟨b39, 0, none⟩)), (12, Sl.v s_a0), (13, .int .i64 (a0.length : Int)), (14, .int .i64 (i2 : Int)), (39, Sl.v (s_a0.cut (0 : Int).toNat ((i2 : Int) : Int).toNat 3)), (40, .int .i64 (m26.length : Int)), (41, .int .i64 (i31 : Int)), (54, .bool y44)]) (L' := (.blk b39 (enc x36) 75) :: (.blk b8 (enc x5) 75) :: L) ⟨rfl, rfl, rfl, rfl, rfl, rfl, rfl, rfl, rfl, rfl, rfl, rfl, trivial⟩ rfl ?_
    replace H := HKo43
    refine Lst.nil ?_
    refine At.then ?_
    rcases (Bool.eq_false_or_eq_true y44).symm with hb48 | hb48
    · replace H := ite_f hb48 H
      refine Cd.condF rfl hb48 ?_
      refine Cd.skip ?_
      exact At.meet y32 hF47 ⟨rfl, rfl, rfl, rfl, rfl, rfl, rfl, rfl, rfl, rfl, rfl, trivial⟩ rfl (some_inj H)
    replace H := ite_t hb48 H
    refine Cd.condT rfl hb48 ?_
    refine Cd.region ?_
    refine Lst.run rfl rfl (by decide) (Ev.fieldAddr (off' := 0) rfl Try.runUnderlying75 rfl Try.sizeOf3 rfl rfl) ?_
    refine Lst.run rfl rfl (by decide) (Ev.load (i := 0) rfl rfl Try.isAgg3 (v := .int .i64 x36.Proc) ((Event.get_Proc (Get.here _)).off (by rfl))) ?_
    refine Lst.run rfl rfl (by decide) (Ev.assign rfl) ?_
    refine Lst.nil ?_
    exact At.meet x36.Proc hF47 ⟨rfl, rfl, rfl, rfl, rfl, rfl, rfl, rfl, rfl, rfl, rfl, trivial⟩ rfl (some_inj H)
  rintro F49 y41 hF50 hy
  subst hy
  refine Cd.as (e' := [(0, Sl.v s_a0), (4, .pointer (some ⟨b8, 0, none⟩)), (5, .int .i64 y41), (6, .bool y33), (8, .pointer (some ⟨b39, 0, none⟩)), (12, Sl.v s_a0), (13, .int .i64 (a0.length : Int)), (14, .int .i64 (i2 : Int)), (39, Sl.v (s_a0.cut (0 : Int).toNat ((i2 : Int) : Int).toNat 3)), (40, .int .i64 (m26.length : Int)), (41, .int .i64 (i31 : Int))]) (L' := (.blk b39 (enc x36) 75) :: (.blk b8 (enc x5) 75) :: L) ⟨rfl, rfl, rfl, rfl, rfl, rfl, rfl, rfl, rfl, rfl, rfl, trivial⟩ rfl ?_
  replace H := HKo42
  refine Cd.region ?_
  refine Lst.run rfl rfl (by decide) (Ev.move rfl) ?_
  refine Lst.run rfl rfl (by decide) (Ev.move rfl) ?_
  obtain ⟨o51, H, HKo51⟩ := bind_some H
  refine Lst.join (σ := Bool) 4 (fun y52 => [(0, Sl.v s_a0), (4, .pointer (some ⟨b8, 0, none⟩)), (5, .int .i64 y41), (6, .bool y33), (12, Sl.v s_a0), (13, .int .i64 (a0.length : Int)), (14, .int .i64 (i2 : Int)), (39, Sl.v (s_a0.cut (0 : Int).toNat ((i2 : Int) : Int).toNat 3)), (40, .int .i64 (m26.length : Int)), (41, .int .i64 (i31 : Int)), (62, .bool y52)]) (fun y52 => (.blk b39 (enc x36) 75) :: (.blk b8 (enc x5) 75) :: L) (fun _ y52 => y52 = o51) ?_ ?_
  · rcases Bool.eq_false_or_eq_true y33 with hb53 | hb53
    · replace H := ite_t hb53 H
      refine Lst.skip rfl rfl rfl hb53 rfl (by decide) ?_
      refine Lst.skip rfl rfl rfl hb53 rfl (by decide) ?_
      refine Lst.skip rfl rfl rfl hb53 rfl (by decide) ?_
      refine Lst.run rfl rfl (by decide) (Ev.pickT rfl hb53 rfl) ?_
      refine Lst.nil ?_
      exact At.meet true (FLe.refl _) ⟨rfl, rfl, rfl, rfl, rfl, rfl, rfl, rfl, rfl, rfl, rfl, trivial⟩ rfl (some_inj H)
    replace H := ite_f hb53 H
    refine Lst.runG rfl rfl rfl hb53 rfl (by decide) (Ev.loadA (i := 0) rfl rfl Try.isAgg75 Try.sizeOf75 (ch := enc x36) (Enc.len _) (Get.here _)) ?_
    refine Lst.runG rfl rfl rfl hb53 rfl (by decide) (Ev.loadA (i := 1) rfl rfl Try.isAgg75 Try.sizeOf75 (ch := enc x5) (Enc.len _) (Get.here _)) ?_
    refine Lst.runG rfl rfl rfl hb53 rfl (by decide) (Ev.eqlA rfl rfl (by kernel_rfl) (eq75 _ _)) ?_
    refine Lst.run rfl rfl (by decide) (Ev.pickF rfl hb53 rfl) ?_
    refine Lst.nil ?_
    exact At.meet (decide (x36 = x5)) (FLe.refl _) ⟨rfl, rfl, rfl, rfl, rfl, rfl, rfl, rfl, rfl, rfl, rfl, trivial⟩ rfl (some_inj H)
  rintro F54 y52 hF55 hy
  subst hy
  refine Lst.as (e' := [(0, Sl.v s_a0), (4, .pointer (some ⟨b8, 0, none⟩)), (5, .int .i64 y41), (6, .bool y33), (12, Sl.v s_a0), (13, .int .i64 (a0.length : Int)), (14, .int .i64 (i2 : Int)), (39, Sl.v (s_a0.cut (0 : Int).toNat ((i2 : Int) : Int).toNat 3)), (40, .int .i64 (m26.length : Int)), (41, .int .i64 (i31 : Int)), (62, .bool y52)]) (L' := (.blk b39 (enc x36) 75) :: (.blk b8 (enc x5) 75) :: L) ⟨rfl, rfl, rfl, rfl, rfl, rfl, rfl, rfl, rfl, rfl, rfl, trivial⟩ rfl ?_
  replace H := HKo51
  refine Lst.run rfl rfl (by decide) (Ev.assign rfl) ?_
  refine Lst.nil ?_
  refine At.in_normal ?_
  refine At.then ?_
  refine Cd.region ?_
  refine Lst.run rfl rfl (by decide) (Ev.incr (by omega) rfl rfl) ?_
  refine Lst.run rfl rfl (by decide) (Ev.move rfl) ?_
  refine Lst.nil ?_
  refine At.less (L' := (.blk b8 (enc x5) 75) :: L) (List.Sublist.cons _ (List.Sublist.cons_cons _ (List.Sublist.refl _))) ?_
  exact At.meet (i31 + 1, k31, y41, y52) (FLe.trans (FLe.trans hF35 hF50) hF55) ⟨rfl, rfl, rfl, rfl, rfl, rfl, rfl, rfl, rfl, rfl, trivial⟩ rfl ⟨⟨hgo31 _ (some_inj H).symm, by omega⟩, Nat.lt_succ_self _⟩
set_option maxRecDepth 20000 in
theorem partref_Sizes_sim {a0 : List Event} {s_a0 : Sl} {r : (Vector Int 6)} (H : partref_Sizes a0 = some r) (w0 : World) (F : Frz) (M L : List Item) (hM : M.Sublist L) (hs_a0 : Rd w0 F M s_a0 a0) : Ok Try.prog w0 54 [Sl.v s_a0] F (L) (Is (.agg (enc r).toArray) (L)) := by
  unfold partref_Sizes at H
  refine Ok.enter (m := 1) (n := 20) Try.func54 rfl rfl rfl (by decide) ?_
  refine Cd.env (e' := [(0, Sl.v s_a0)]) rfl ?_
  refine Cd.seq ?_
  refine Cd.region ?_
  refine Lst.alloc (cs := enc (Vector.replicate 6 (0 : Int))) rfl rfl (by decide) Try.zeroValue23 rfl (fun b1 => ?_)
  refine Lst.nil ?_
  refine At.then ?_
  refine Cd.seq ?_
  refine Cd.region ?_
  refine Lst.alloc (cs := enc (Vector.replicate 6 (0 : Int))) rfl rfl (by decide) Try.zeroValue23 rfl (fun b3 => ?_)
  refine Lst.nil ?_
  refine At.then ?_
  refine Cd.seq ?_
  refine Cd.seq ?_
  refine Cd.region ?_
  refine Lst.run rfl rfl (by decide) (Ev.move rfl) ?_
  refine Lst.run rfl rfl (by decide) (Ev.lenS (α := Event) (xs := a0) (by decide) rfl rfl Try.runUnderlying24 (hs_a0.mono (FLe.refl _) (List.Sublist.cons _ (List.Sublist.cons _ hM)))) ?_
  refine Lst.run rfl rfl (by decide) (Ev.move rfl) ?_
  refine Lst.nil ?_
  refine At.then ?_
  refine Cd.block ?_
  refine Cd.bound (Rd.le (α := Event) (xs := a0) (by decide) (hs_a0.mono (FLe.refl _) (List.Sublist.cons _ (List.Sublist.cons _ hM)))) (fun hN22 => ?_)
  obtain ⟨ol5, H, HKl5⟩ := bind_some H
  refine Cd.loop (σ := Nat × Nat × (Vector Int 6)) (fun (i5, k5, y6) => [(2, .pointer (some ⟨b1, 0, none⟩)), (3, .pointer (some ⟨b3, 0, none⟩)), (6, Sl.v s_a0), (7, .int .i64 (a0.length : Int)), (8, .int .i64 (i5 : Int))]) (fun (i5, k5, y6) => (.blk b3 (enc y6) 23) :: (.blk b1 (enc (Vector.replicate 6 (0 : Int))) 23) :: L) (fun _ => (fun (i5, k5, y6) => rangeF (partref_Sizes_B0 a0) k5 i5 y6 = some ol5 ∧ i5 + k5 = a0.length)) (fun (i5, k5, y6) => k5) (0, a0.length, (Vector.replicate 6 (0 : Int))) ⟨rfl, rfl, rfl, rfl, rfl, trivial⟩ rfl ⟨H, by omega⟩ ?_
  rintro F7 ⟨i5, k5, y6⟩ hF8 ⟨H, hik5⟩
  refine Cd.as (e' := [(2, .pointer (some ⟨b1, 0, none⟩)), (3, .pointer (some ⟨b3, 0, none⟩)), (6, Sl.v s_a0), (7, .int .i64 (a0.length : Int)), (8, .int .i64 (i5 : Int))]) (L' := (.blk b3 (enc y6) 23) :: (.blk b1 (enc (Vector.replicate 6 (0 : Int))) 23) :: L) ⟨rfl, rfl, rfl, rfl, rfl, trivial⟩ rfl ?_
  rcases k5 with _ | k5
  · have hc5 : decide ((i5 : Int) < (a0.length : Int)) = false := decide_eq_false (by omega)
    replace H := rangeF_end H
    refine Cd.seq ?_
    refine Cd.region ?_
    refine Lst.run rfl rfl (by decide) (Ev.lss rfl rfl) ?_
    refine Lst.nil ?_
    refine At.then ?_
    refine Cd.seq ?_
    refine Cd.condF rfl hc5 ?_
    refine Cd.exit ?_
    refine At.then_exit ?_
    refine At.then_exit ?_
    refine At.in_exit ?_
    subst H
    replace H := HKl5
    refine At.then ?_
    refine Cd.seq ?_
    refine Cd.region ?_
    refine Lst.run rfl rfl (by decide) (Ev.loadA (i := 0) rfl rfl Try.isAgg23 Try.sizeOf23 (ch := enc y6) (Enc.len _) (Get.here _)) ?_
    refine Lst.store (i := 1) rfl rfl rfl rfl rfl Try.sizeOf23 (vs := enc y6) rfl (Enc.len _) (Enc.one _) (cs' := enc y6) (Put.here ((Enc.len _).trans (Enc.len _).symm)) (L' := (.blk b3 (enc y6) 23) :: (.blk b1 (enc y6) 23) :: L) rfl ?_
    refine Lst.nil ?_
    refine At.then ?_
    obtain rfl := some_inj H
    refine Cd.ret ?_
    exact At.ret1 rfl (Res.cellA (i := 1) rfl rfl Try.isAgg23 Try.sizeOf23 (Enc.len _)) hF8 (List.Sublist.cons _ (List.Sublist.cons _ (List.Sublist.refl _))) ⟨rfl, rfl⟩
  have hc5 : decide ((i5 : Int) < (a0.length : Int)) = true := decide_eq_true (by omega)
  obtain ⟨c5, H, hgo5⟩ := rangeF_go H
  unfold partref_Sizes_B0 at H
  try dsimp only at H
  refine Cd.seq ?_
  refine Cd.region ?_
  refine Lst.run rfl rfl (by decide) (Ev.lss rfl rfl) ?_
  refine Lst.nil ?_
  refine At.then ?_
  refine Cd.seq ?_
  refine Cd.condT rfl hc5 ?_
  refine Cd.skip ?_
  refine At.then ?_
  refine Cd.seq ?_
  refine Cd.block ?_
  refine Cd.seq ?_
  refine Cd.region ?_
  obtain ⟨x9, h10, H⟩ := bind_some H
  have g11 := lat_some h10
  refine Lst.run rfl rfl (by decide) (Ev.indexS (α := Event) (xs := a0) rfl rfl Try.runUnderlying24 Try.sizeOf75 rfl (by decide) (hs_a0.mono hF8 (List.Sublist.cons _ (List.Sublist.cons _ hM))) g11.1 g11.2.1) ?_
  refine Lst.run rfl rfl (by decide) (Ev.loadSA (α := Event) rfl (hs_a0.mono hF8 (List.Sublist.cons _ (List.Sublist.cons _ hM))) Try.isAgg75 Try.sizeOf75 (ch := enc x9) (Enc.len _) (by decide) ((Get.elemN (s := 3) (x := x9) rfl g11.2.2 (Get.here _)).off (by omega))) ?_
  refine Lst.alloc (cs := enc Event.zero) rfl rfl (by decide) Try.zeroValue75 rfl (fun b12 => ?_)
  refine Lst.store (i := 0) rfl rfl rfl rfl rfl Try.sizeOf75 (vs := enc x9) rfl (Enc.len _) (Enc.one _) (cs' := enc x9) (Put.here ((Enc.len _).trans (Enc.len _).symm)) (L' := (.blk b12 (enc x9) 75) :: (.blk b3 (enc y6) 23) :: (.blk b1 (enc (Vector.replicate 6 (0 : Int))) 23) :: L) rfl ?_
  refine Lst.nil ?_
  refine At.then ?_
  refine Cd.region ?_
  refine Lst.run rfl rfl (by decide) (Ev.fieldAddr (off' := 0) rfl Try.runUnderlying75 rfl Try.sizeOf3 rfl rfl) ?_
  refine Lst.run rfl rfl (by decide) (Ev.load (i := 0) rfl rfl Try.isAgg3 (v := .int .i64 x9.Proc) ((Event.get_Proc (Get.here _)).off (by rfl))) ?_
  obtain ⟨x14, h15, H⟩ := bind_some H
  have g16 := vat_some h15
  refine Lst.run rfl rfl (by decide) (Ev.indexAddr (off' := 0 + x9.Proc.toNat * 1) rfl rfl Try.runUnderlying23 Try.sizeOf3 g16.1 g16.2.1 rfl) ?_
  refine Lst.run rfl rfl (by decide) (Ev.load (i := 1) rfl rfl Try.isAgg3 (v := .int .i64 x14) ((Get.vecN (s := 1) (x := x14) rfl g16.2.2 (Get.here _)).off (by omega))) ?_
  refine Lst.run rfl rfl (by decide) (Ev.add rfl rfl) ?_
  obtain ⟨x17, h18, H⟩ := bind_some H
  have g19 := vat_some h18
  refine Lst.run rfl rfl (by decide) (Ev.indexAddr (off' := 0 + x9.Proc.toNat * 1) rfl rfl Try.runUnderlying23 Try.sizeOf3 g19.1 g19.2.1 rfl) ?_
  obtain ⟨p20, h21, H⟩ := Let_some H
  refine Lst.store (i := 1) rfl rfl rfl rfl rfl Try.sizeOf3 (vs := [.int .i64 (w64 (x14 + (1 : Int)))]) rfl rfl rfl (cs' := enc p20) (by rw [← h21]; exact (Put.vecN (s := 1) (x := x17) rfl g19.2.2 (Put.here (vs := [.int .i64 (w64 (x14 + (1 : Int)))]) rfl)).off (by omega)) (L' := (.blk b12 (enc x9) 75) :: (.blk b3 (enc p20) 23) :: (.blk b1 (enc (Vector.replicate 6 (0 : Int))) 23) :: L) rfl ?_
  refine Lst.nil ?_
  refine At.in_normal ?_
  refine At.then ?_
  refine Cd.region ?_
  refine Lst.run rfl rfl (by decide) (Ev.incr (by omega) rfl rfl) ?_
  refine Lst.run rfl rfl (by decide) (Ev.move rfl) ?_
  refine Lst.nil ?_
  refine At.less (L' := (.blk b3 (enc p20) 23) :: (.blk b1 (enc (Vector.replicate 6 (0 : Int))) 23) :: L) (List.Sublist.cons _ (List.Sublist.cons_cons _ (List.Sublist.cons_cons _ (List.Sublist.refl _)))) ?_
  exact At.meet (i5 + 1, k5, p20) hF8 ⟨rfl, rfl, rfl, rfl, rfl, trivial⟩ rfl ⟨⟨hgo5 _ (some_inj H).symm, by omega⟩, Nat.lt_succ_self _⟩
set_option maxRecDepth 20000 in
theorem partref_TruthErr_sim {a0 : List Event} {a1 : List (List Bool)} {s_a0 : Sl} {s_a1 : Sl} {rs_a1 : List (LR Bool)} {r : Int} (H : partref_TruthErr a0 a1 = some r) (w0 : World) (F : Frz) (M L : List Item) (hM : M.Sublist L) (hs_a0 : Rd w0 F M s_a0 a0) (hm_a1 : rs_a1.map LR.v = a1) (hs_a1 : Rd w0 F M s_a1 rs_a1) (ha_a1 : All LR.rel w0 F M rs_a1) : Ok Try.prog w0 38 [Sl.v s_a0, Sl.v s_a1] F (L) (Is (.int .i64 r) (L)) := by
  unfold partref_TruthErr at H
  refine Ok.enter (m := 2) (n := 31) Try.func38 rfl rfl rfl (by decide) ?_
  refine Cd.env (e' := [(0, Sl.v s_a0), (1, Sl.v s_a1)]) rfl ?_
  refine Cd.seq ?_
  refine Cd.region ?_
  refine Lst.run rfl rfl (by decide) (Ev.assign rfl) ?_
  refine Lst.nil ?_
  refine At.then ?_
  refine Cd.seq ?_
  refine Cd.seq ?_
  refine Cd.region ?_
  refine Lst.run rfl rfl (by decide) (Ev.move rfl) ?_
  obtain ⟨r1, h2, H⟩ := bind_some H
  refine Lst.call1 rfl rfl (by decide) (vs := [Sl.v s_a0]) ⟨rfl, trivial⟩ Try.call16 (partref_HistoryErr_sim h2 w0 _ M _ hM (hs_a0.mono (FLe.refl _) (List.Sublist.refl _))) ?_
  refine Lst.run rfl rfl (by decide) (Ev.assign rfl) ?_
  refine Lst.nil ?_
  refine At.then ?_
  refine Cd.seq ?_
  refine Cd.region ?_
  refine Lst.run rfl rfl (by decide) (Ev.move rfl) ?_
  refine Lst.run rfl rfl (by decide) (Ev.neq rfl rfl) ?_
  refine Lst.nil ?_
  refine At.then ?_
  rcases Bool.eq_false_or_eq_true (r1 != (0 : Int)) with hb5 | hb5
  · replace H := ite_t hb5 H
    refine Cd.condT rfl hb5 ?_
    refine Cd.seq ?_
    refine Cd.region ?_
    refine Lst.run rfl rfl (by decide) (Ev.move rfl) ?_
    refine Lst.run rfl rfl (by decide) (Ev.assign rfl) ?_
    refine Lst.nil ?_
    refine At.then ?_
    obtain rfl := some_inj H
    refine Cd.ret ?_
    refine At.then_ret ?_
    exact At.ret1 rfl (Res.tmp rfl) (FLe.refl _) (List.Sublist.refl _) ⟨rfl, rfl⟩
  replace H := ite_f hb5 H
  refine Cd.condF rfl hb5 ?_
  refine Cd.skip ?_
  refine At.then ?_
  refine Cd.seq ?_
  refine Cd.seq ?_
  refine Cd.region ?_
  refine Lst.run rfl rfl (by decide) (Ev.move rfl) ?_
  refine Lst.run rfl rfl (by decide) (Ev.lenM (map_len hm_a1) (Ev.lenS (α := LR Bool) (xs := rs_a1) (by decide) rfl rfl Try.runUnderlying42 (hs_a1.mono (FLe.refl _) hM))) ?_
  refine Lst.run rfl rfl (by decide) (Ev.neq rfl rfl) ?_
  refine Lst.nil ?_
  refine At.then ?_
  rcases Bool.eq_false_or_eq_true ((a1.length : Int) != (6 : Int)) with hb7 | hb7
  · replace H := ite_t hb7 H
    refine Cd.condT rfl hb7 ?_
    refine Cd.seq ?_
    refine Cd.region ?_
    refine Lst.run rfl rfl (by decide) (Ev.assign rfl) ?_
    refine Lst.nil ?_
    refine At.then ?_
    obtain rfl := some_inj H
    refine Cd.ret ?_
    refine At.then_ret ?_
    exact At.ret1 rfl (Res.tmp rfl) (FLe.refl _) (List.Sublist.refl _) ⟨rfl, rfl⟩
  replace H := ite_f hb7 H
  refine Cd.condF rfl hb7 ?_
  refine Cd.skip ?_
  refine At.then ?_
  refine Cd.seq ?_
  refine Cd.seq ?_
  refine Cd.region ?_
  refine Lst.run rfl rfl (by decide) (Ev.move rfl) ?_
  obtain ⟨r8, h9, H⟩ := bind_some H
  refine Lst.call1 rfl rfl (by decide) (vs := [Sl.v s_a0]) ⟨rfl, trivial⟩ Try.call54 (partref_Sizes_sim h9 w0 _ M _ hM (hs_a0.mono (FLe.refl _) (List.Sublist.refl _))) ?_
  refine Lst.run rfl rfl (by decide) (Ev.move rfl) ?_
  refine Lst.nil ?_
  refine At.then ?_
  refine Cd.block ?_
  obtain ⟨ol12, H, HKl12⟩ := andThen_some H
  refine Cd.loop (σ := Nat × Nat × Unit) (fun (i12, k12, _u) => [(1, Sl.v s_a1), (17, .agg (enc r8).toArray), (18, .int .i64 (i12 : Int))]) (fun (i12, k12, _u) => L) (fun _ => (fun (i12, k12, _u) => rangeM (partref_TruthErr_B0 a1 r8) k12 i12 () = some ol12 ∧ i12 + k12 = 6)) (fun (i12, k12, _u) => k12) (0, 6, ()) ⟨rfl, rfl, rfl, trivial⟩ rfl ⟨H, by omega⟩ ?_
  rintro F13 ⟨i12, k12, _u⟩ hF14 ⟨H, hik12⟩
  refine Cd.as (e' := [(1, Sl.v s_a1), (17, .agg (enc r8).toArray), (18, .int .i64 (i12 : Int))]) (L' := L) ⟨rfl, rfl, rfl, trivial⟩ rfl ?_
  rcases k12 with _ | k12
  · have hc12 : decide ((i12 : Int) < (6 : Int)) = false := decide_eq_false (by omega)
    replace H := rangeM_end H
    refine Cd.seq ?_
    refine Cd.region ?_
    refine Lst.run rfl rfl (by decide) (Ev.lss rfl rfl) ?_
    refine Lst.nil ?_
    refine At.then ?_
    refine Cd.seq ?_
    refine Cd.condF rfl hc12 ?_
    refine Cd.exit ?_
    refine At.then_exit ?_
    refine At.then_exit ?_
    refine At.in_exit ?_
    subst H
    replace H := HKl12
    refine At.then ?_
    refine Cd.seq ?_
    refine Cd.region ?_
    refine Lst.run rfl rfl (by decide) (Ev.assign rfl) ?_
    refine Lst.nil ?_
    refine At.then ?_
    obtain rfl := some_inj H
    refine Cd.ret ?_
    exact At.ret1 rfl (Res.tmp rfl) hF14 (List.Sublist.refl _) ⟨rfl, rfl⟩
  have hc12 : decide ((i12 : Int) < (6 : Int)) = true := decide_eq_true (by omega)
  obtain ⟨c12, H, hgo12, hbrk12, hret12⟩ := rangeM_go H
  unfold partref_TruthErr_B0 at H
  try dsimp only at H
  refine Cd.seq ?_
  refine Cd.region ?_
  refine Lst.run rfl rfl (by decide) (Ev.lss rfl rfl) ?_
  refine Lst.nil ?_
  refine At.then ?_
  refine Cd.seq ?_
  refine Cd.condT rfl hc12 ?_
  refine Cd.skip ?_
  refine At.then ?_
  refine Cd.seq ?_
  refine Cd.block ?_
  refine Cd.seq ?_
  refine Cd.region ?_
  refine Lst.run rfl rfl (by decide) (Ev.move rfl) ?_
  obtain ⟨x15, h16, H⟩ := bind_some H
  have g17 := vat_some h16
  refine Lst.run rfl rfl (by decide) (Ev.index1 rfl rfl Try.runUnderlying23 Try.isAgg3 Try.sizeOf3 g17.1 g17.2.1 rfl ((Get.vecN (s := 1) rfl g17.2.2 (Get.here _)).off (by omega))) ?_
  refine Lst.run rfl rfl (by decide) (Ev.assign rfl) ?_
  refine Lst.run rfl rfl (by decide) (Ev.assign rfl) ?_
  refine Lst.nil ?_
  refine At.then ?_
  refine Cd.seq ?_
  refine Cd.region ?_
  refine Lst.run rfl rfl (by decide) (Ev.move rfl) ?_
  refine Lst.run rfl rfl (by decide) (Ev.move rfl) ?_
  obtain ⟨x18, h19, H⟩ := bind_some H
  have g20 := lat_some h19
  obtain ⟨⟨r21v, r21h⟩, r21g, r21e, r21m⟩ := map_get hm_a1 g20.2.2
  obtain rfl : x18 = r21v := r21e.symm
  have r21q : Rd w0 _ _ r21h x18 := ha_a1 _ r21m
  refine Lst.run rfl rfl (by decide) (Ev.indexS (α := LR Bool) (xs := rs_a1) rfl rfl Try.runUnderlying42 Try.sizeOf44 rfl (by decide) (hs_a1.mono hF14 hM) g20.1 (by have := map_len hm_a1; omega)) ?_
  refine Lst.run rfl rfl (by decide) (Ev.loadS (α := LR Bool) rfl (hs_a1.mono hF14 hM) Try.isAgg44 (v := Sl.v r21h) ((Get.elemN (s := 1) rfl r21g (Get.here _)).off (by omega))) ?_
  refine Lst.run rfl rfl (by decide) (Ev.lenS (α := Bool) (xs := x18) (by decide) rfl rfl Try.runUnderlying44 (r21q.mono hF14 hM)) ?_
  refine Lst.run rfl rfl (by decide) (Ev.move rfl) ?_
  refine Lst.run rfl rfl (by decide) (Ev.add rfl rfl) ?_
  refine Lst.run rfl rfl (by decide) (Ev.neq rfl rfl) ?_
  refine Lst.nil ?_
  refine At.then ?_
  rcases Bool.eq_false_or_eq_true ((x18.length : Int) != (w64 (x15 + (1 : Int)))) with hb22 | hb22
  · replace H := ite_t hb22 H
    refine Cd.condT rfl hb22 ?_
    refine Cd.seq ?_
    refine Cd.as (e' := []) (L' := L) trivial rfl ?_
    refine Cd.region ?_
    refine Lst.run rfl rfl (by decide) (Ev.assign rfl) ?_
    refine Lst.nil ?_
    refine At.then ?_
    have H := hret12 _ (some_inj H).symm
    subst H
    replace H := HKl12
    obtain rfl := some_inj H
    refine Cd.ret ?_
    refine At.in_ret ?_
    refine At.then_ret ?_
    refine At.then_ret ?_
    refine At.in_ret ?_
    refine At.then_ret ?_
    exact At.ret1 rfl (Res.tmp rfl) hF14 (List.Sublist.refl _) ⟨rfl, rfl⟩
  replace H := ite_f hb22 H
  refine Cd.condF rfl hb22 ?_
  refine Cd.skip ?_
  refine At.in_normal ?_
  refine At.then ?_
  refine Cd.region ?_
  refine Lst.run rfl rfl (by decide) (Ev.incr (by omega) rfl rfl) ?_
  refine Lst.run rfl rfl (by decide) (Ev.move rfl) ?_
  refine Lst.nil ?_
  exact At.meet (i12 + 1, k12, ()) hF14 ⟨rfl, rfl, rfl, trivial⟩ rfl ⟨⟨hgo12 _ (some_inj H).symm, by omega⟩, Nat.lt_succ_self _⟩
set_option maxRecDepth 20000 in
theorem stamp_in_sim {a0 : Int} {a1 : Int} {a2 : Int} {r : Bool} (H : stamp_in a0 a1 a2 = some r) (w0 : World) (F : Frz) (M L : List Item) (hM : M.Sublist L) : Ok Try.prog w0 69 [.int .i64 a0, .int .i64 a1, .int .i64 a2] F (L) (Is (.bool r) (L)) := by
  unfold stamp_in at H
  refine Ok.enter (m := 3) (n := 15) Try.func69 rfl rfl rfl (by decide) ?_
  refine Cd.env (e' := [(0, .int .i64 a0), (1, .int .i64 a1), (2, .int .i64 a2)]) rfl ?_
  refine Cd.seq ?_
  refine Cd.region ?_
  refine Lst.run rfl rfl (by decide) (Ev.assign rfl) ?_
  refine Lst.nil ?_
  refine At.then ?_
  refine Cd.seq ?_
  refine Cd.region ?_
  refine Lst.run rfl rfl (by decide) (Ev.move rfl) ?_
  refine Lst.run rfl rfl (by decide) (Ev.move rfl) ?_
  refine Lst.run rfl rfl (by decide) (Ev.geq rfl rfl) ?_
  refine Lst.run rfl rfl (by decide) (Ev.move rfl) ?_
  obtain ⟨o1, H, HKo1⟩ := bind_some H
  refine Lst.join (σ := Bool) 4 (fun y2 => [(14, .bool y2)]) (fun y2 => L) (fun _ y2 => y2 = o1) ?_ ?_
  · rcases (Bool.eq_false_or_eq_true (decide (a0 ≥ a1))).symm with hb3 | hb3
    · replace H := ite_f hb3 H
      refine Lst.skip rfl rfl rfl hb3 rfl (by decide) ?_
      refine Lst.skip rfl rfl rfl hb3 rfl (by decide) ?_
      refine Lst.skip rfl rfl rfl hb3 rfl (by decide) ?_
      refine Lst.run rfl rfl (by decide) (Ev.pickF rfl hb3 rfl) ?_
      refine Lst.nil ?_
      exact At.meet false (FLe.refl _) ⟨rfl, trivial⟩ rfl (some_inj H)
    replace H := ite_t hb3 H
    refine Lst.runG rfl rfl rfl hb3 rfl (by decide) (Ev.move rfl) ?_
    refine Lst.runG rfl rfl rfl hb3 rfl (by decide) (Ev.move rfl) ?_
    refine Lst.runG rfl rfl rfl hb3 rfl (by decide) (Ev.leq rfl rfl) ?_
    refine Lst.run rfl rfl (by decide) (Ev.pickT rfl hb3 rfl) ?_
    refine Lst.nil ?_
    exact At.meet (decide (a0 ≤ a2)) (FLe.refl _) ⟨rfl, trivial⟩ rfl (some_inj H)
  rintro F4 y2 hF5 hy
  subst hy
  refine Lst.as (e' := [(14, .bool y2)]) (L' := L) ⟨rfl, trivial⟩ rfl ?_
  replace H := HKo1
  refine Lst.run rfl rfl (by decide) (Ev.assign rfl) ?_
  refine Lst.nil ?_
  refine At.then ?_
  obtain rfl := some_inj H
  refine Cd.ret ?_
  exact At.ret1 rfl (Res.tmp rfl) hF5 (List.Sublist.refl _) ⟨rfl, rfl⟩
set_option maxRecDepth 20000 in
theorem stamp_checker_event_sim {a0 : Checker} {a1 : Event} {b_a0 : Nat} {r : Checker × Int} (H : stamp_checker_event a0 a1 = some r) (w0 : World) (F : Frz) (M L : List Item) (hM : M.Sublist L) : Ok Try.prog w0 51 [.pointer (some ⟨b_a0, 0, none⟩), .agg (enc a1).toArray] F ((.blk b_a0 (enc a0) 84) :: L) (fun _ L' v => v = .int .i64 r.2 ∧ L' = (.blk b_a0 (enc r.1) 84) :: L) := by
  unfold stamp_checker_event at H
  refine Ok.enter (m := 2) (n := 85) Try.func51 rfl rfl rfl (by decide) ?_
  refine Cd.env (e' := [(0, .pointer (some ⟨b_a0, 0, none⟩)), (1, .agg (enc a1).toArray)]) rfl ?_
  refine Cd.seq ?_
  refine Cd.region ?_
  refine Lst.box rfl rfl (by decide) rfl (cs := enc a1) rfl (fun b2 => ?_)
  refine Lst.run rfl rfl (by decide) (Ev.assign rfl) ?_
  refine Lst.nil ?_
  refine At.then ?_
  refine Cd.seq ?_
  refine Cd.seq ?_
  refine Cd.region ?_
  refine Lst.run rfl rfl (by decide) (Ev.fieldAddr (off' := 0) rfl Try.runUnderlying75 rfl Try.sizeOf3 rfl rfl) ?_
  refine Lst.run rfl rfl (by decide) (Ev.load (i := 0) rfl rfl Try.isAgg3 (v := .int .i64 a1.Proc) ((Event.get_Proc (Get.here _)).off (by rfl))) ?_
  obtain ⟨r4, h5, H⟩ := bind_some H
  refine Lst.call1 rfl rfl (by decide) (vs := [.int .i64 a1.Proc, .int .i64 (0 : Int), .int .i64 (5 : Int)]) ⟨rfl, rfl, rfl, trivial⟩ Try.call69 (stamp_in_sim h5 w0 _ M _ (List.Sublist.cons _ (List.Sublist.cons _ hM))) ?_
  refine Lst.run rfl rfl (by decide) (Ev.not rfl) ?_
  refine Lst.run rfl rfl (by decide) (Ev.move rfl) ?_
  obtain ⟨o8, H, HKo8⟩ := bind_some H
  refine Lst.join (σ := Bool) 5 (fun y9 => [(0, .pointer (some ⟨b_a0, 0, none⟩)), (3, .pointer (some ⟨b2, 0, none⟩)), (14, .bool y9)]) (fun y9 => (.blk b2 (enc a1) 75) :: (.blk b_a0 (enc a0) 84) :: L) (fun _ y9 => y9 = o8) ?_ ?_
  · rcases Bool.eq_false_or_eq_true (!r4) with hb10 | hb10
    · replace H := ite_t hb10 H
      refine Lst.skip rfl rfl rfl hb10 rfl (by decide) ?_
      refine Lst.skip rfl rfl rfl hb10 rfl (by decide) ?_
      refine Lst.skip rfl rfl rfl hb10 rfl (by decide) ?_
      refine Lst.skip rfl rfl rfl hb10 rfl (by decide) ?_
      refine Lst.run rfl rfl (by decide) (Ev.pickT rfl hb10 rfl) ?_
      refine Lst.nil ?_
      exact At.meet true (FLe.refl _) ⟨rfl, rfl, rfl, trivial⟩ rfl (some_inj H)
    replace H := ite_f hb10 H
    refine Lst.runG rfl rfl rfl hb10 rfl (by decide) (Ev.fieldAddr (off' := 2) rfl Try.runUnderlying75 rfl Try.sizeOf3 rfl rfl) ?_
    refine Lst.runG rfl rfl rfl hb10 rfl (by decide) (Ev.load (i := 0) rfl rfl Try.isAgg3 (v := .int .i64 a1.Msg) ((Event.get_Msg (Get.here _)).off (by rfl))) ?_
    obtain ⟨r11, h12, H⟩ := bind_some H
    refine Lst.call1G rfl rfl rfl hb10 rfl (by decide) (vs := [.int .i64 a1.Msg, .int .i64 (0 : Int), .int .i64 (29 : Int)]) ⟨rfl, rfl, rfl, trivial⟩ Try.call69 (stamp_in_sim h12 w0 _ M _ (List.Sublist.cons _ (List.Sublist.cons _ hM))) ?_
    refine Lst.runG rfl rfl rfl hb10 rfl (by decide) (Ev.not rfl) ?_
    refine Lst.run rfl rfl (by decide) (Ev.pickF rfl hb10 rfl) ?_
    refine Lst.nil ?_
    exact At.meet (!r11) (FLe.refl _) ⟨rfl, rfl, rfl, trivial⟩ rfl (some_inj H)
  rintro F15 y9 hF16 hy
  subst hy
  refine Lst.as (e' := [(0, .pointer (some ⟨b_a0, 0, none⟩)), (3, .pointer (some ⟨b2, 0, none⟩)), (14, .bool y9)]) (L' := (.blk b2 (enc a1) 75) :: (.blk b_a0 (enc a0) 84) :: L) ⟨rfl, rfl, rfl, trivial⟩ rfl ?_
  replace H := HKo8
  refine Lst.nil ?_
  refine At.then ?_
  rcases Bool.eq_false_or_eq_true y9 with hb17 | hb17
  · replace H := ite_t hb17 H
    refine Cd.condT rfl hb17 ?_
    refine Cd.seq ?_
    refine Cd.region ?_
    refine Lst.run rfl rfl (by decide) (Ev.assign rfl) ?_
    refine Lst.nil ?_
    refine At.then ?_
    obtain rfl := some_inj H
    refine Cd.ret ?_
    refine At.then_ret ?_
    exact At.ret1 rfl (Res.tmp rfl) hF16 (List.Sublist.cons _ (List.Sublist.cons_cons _ (List.Sublist.refl _))) ⟨rfl, rfl⟩
  replace H := ite_f hb17 H
  refine Cd.condF rfl hb17 ?_
  refine Cd.skip ?_
  refine At.then ?_
  obtain ⟨o19, H, HKo19⟩ := andThen_some H
  refine Cd.join (σ := Checker) (fun y18 => []) (fun y18 => (.blk b2 (enc a1) 75) :: (.blk b_a0 (enc y18) 84) :: L) (fun _ y18 => .inl y18 = o19) ?_ ?_
  · refine Cd.seq ?_
    refine Cd.region ?_
    refine Lst.run rfl rfl (by decide) (Ev.fieldAddr (off' := 1) rfl Try.runUnderlying75 rfl Try.sizeOf3 rfl rfl) ?_
    refine Lst.run rfl rfl (by decide) (Ev.load (i := 0) rfl rfl Try.isAgg3 (v := .int .i64 a1.Kind) ((Event.get_Kind (Get.here _)).off (by rfl))) ?_
    refine Lst.nil ?_
    refine At.then ?_
    refine Cd.block ?_
    refine Cd.seq ?_
    refine Cd.region ?_
    refine Lst.run rfl rfl (by decide) (Ev.eql rfl rfl) ?_
    refine Lst.run rfl rfl (by decide) (Ev.assign rfl) ?_
    refine Lst.nil ?_
    refine At.then ?_
    rcases Bool.eq_false_or_eq_true (a1.Kind == (1 : Int)) with hb20 | hb20
    · replace H := ite_t hb20 H
      refine Cd.condT rfl hb20 ?_
      refine Cd.seq ?_
      refine Cd.region ?_
      refine Lst.run rfl rfl (by decide) (Ev.fieldAddr (off' := 2) rfl Try.runUnderlying75 rfl Try.sizeOf3 rfl rfl) ?_
      refine Lst.run rfl rfl (by decide) (Ev.load (i := 0) rfl rfl Try.isAgg3 (v := .int .i64 a1.Msg) ((Event.get_Msg (Get.here _)).off (by rfl))) ?_
      refine Lst.run rfl rfl (by decide) (Ev.neq rfl rfl) ?_
      refine Lst.nil ?_
      refine At.then ?_
      rcases Bool.eq_false_or_eq_true (a1.Msg != (0 : Int)) with hb21 | hb21
      · replace H := ite_t hb21 H
        refine Cd.condT rfl hb21 ?_
        refine Cd.seq ?_
        refine Cd.region ?_
        refine Lst.run rfl rfl (by decide) (Ev.assign rfl) ?_
        refine Lst.nil ?_
        refine At.then ?_
        obtain rfl := some_inj H
        replace H := HKo19
        obtain rfl := some_inj H
        refine Cd.ret ?_
        refine At.in_ret ?_
        refine At.then_ret ?_
        exact At.ret1 rfl (Res.tmp rfl) hF16 (List.Sublist.cons _ (List.Sublist.cons_cons _ (List.Sublist.refl _))) ⟨rfl, rfl⟩
      replace H := ite_f hb21 H
      refine Cd.condF rfl hb21 ?_
      refine Cd.skip ?_
      refine At.in_normal ?_
      exact At.meet a0 (FLe.refl _) trivial rfl (some_inj H)
    replace H := ite_f hb20 H
    refine Cd.condF rfl hb20 ?_
    refine Cd.seq ?_
    refine Cd.region ?_
    refine Lst.run rfl rfl (by decide) (Ev.eql rfl rfl) ?_
    refine Lst.run rfl rfl (by decide) (Ev.assign rfl) ?_
    refine Lst.nil ?_
    refine At.then ?_
    rcases Bool.eq_false_or_eq_true (a1.Kind == (2 : Int)) with hb22 | hb22
    · replace H := ite_t hb22 H
      refine Cd.condT rfl hb22 ?_
      refine Cd.seq ?_
      refine Cd.seq ?_
      refine Cd.quiet (by kernel_rfl) (by kernel_rfl) ?_
      refine Qt.run rfl rfl (by decide) (Ev.move rfl) ?_
      refine Qt.run rfl rfl (by decide) (Ev.fieldAddr (off' := 2) rfl Try.runUnderlying75 rfl Try.sizeOf3 rfl rfl) ?_
      refine Qt.run rfl rfl (by decide) (Ev.load (i := 0) rfl rfl Try.isAgg3 (v := .int .i64 a1.Msg) ((Event.get_Msg (Get.here _)).off (by rfl))) ?_
      refine Qt.run rfl rfl (by decide) (Ev.nilCheck rfl) ?_
      refine Qt.run rfl rfl (by decide) (Ev.fieldAddr (off' := 0) rfl Try.runUnderlying84 rfl Try.sizeOf76 rfl rfl) ?_
      obtain ⟨x23, h24, H⟩ := bind_some H
      have g25 := vat_some h24
      refine Qt.run rfl rfl (by decide) (Ev.indexAddr (off' := 0 + a1.Msg.toNat * 1) rfl rfl Try.runUnderlying76 Try.sizeOf3 g25.1 g25.2.1 rfl) ?_
      refine Qt.run rfl rfl (by decide) (Ev.load (i := 1) rfl rfl Try.isAgg3 (v := .int .i64 x23) ((Checker.get_sender (Get.vecN (s := 1) (x := x23) rfl g25.2.2 (Get.here _))).off (by omega))) ?_
      refine Qt.run rfl rfl (by decide) (Ev.gtr rfl rfl) ?_
      refine Qt.done ?_
      refine At.then ?_
      rcases Bool.eq_false_or_eq_true (decide (x23 > (0 : Int))) with hb26 | hb26
      · replace H := ite_t hb26 H
        refine Cd.condT rfl hb26 ?_
        refine Cd.seq ?_
        refine Cd.as (e' := []) (L' := (.blk b2 (enc a1) 75) :: (.blk b_a0 (enc a0) 84) :: L) trivial rfl ?_
        refine Cd.region ?_
        refine Lst.run rfl rfl (by decide) (Ev.assign rfl) ?_
        refine Lst.nil ?_
        refine At.then ?_
        obtain rfl := some_inj H
        replace H := HKo19
        obtain rfl := some_inj H
        refine Cd.ret ?_
        refine At.then_ret ?_
        refine At.in_ret ?_
        refine At.then_ret ?_
        exact At.ret1 rfl (Res.tmp rfl) hF16 (List.Sublist.cons _ (List.Sublist.cons_cons _ (List.Sublist.refl _))) ⟨rfl, rfl⟩
      replace H := ite_f hb26 H
      refine Cd.condF rfl hb26 ?_
      refine Cd.skip ?_
      refine At.then ?_
      refine Cd.as (e' := [(0, .pointer (some ⟨b_a0, 0, none⟩)), (3, .pointer (some ⟨b2, 0, none⟩))]) (L' := (.blk b2 (enc a1) 75) :: (.blk b_a0 (enc a0) 84) :: L) ⟨rfl, rfl, trivial⟩ rfl ?_
      refine Cd.tail 9 (by kernel_rfl) (by kernel_rfl) ?_
      refine Qt.run rfl rfl (by decide) (Ev.move rfl) ?_
      refine Qt.run rfl rfl (by decide) (Ev.fieldAddr (off' := 2) rfl Try.runUnderlying75 rfl Try.sizeOf3 rfl rfl) ?_
      refine Qt.run rfl rfl (by decide) (Ev.load (i := 0) rfl rfl Try.isAgg3 (v := .int .i64 a1.Msg) ((Event.get_Msg (Get.here _)).off (by rfl))) ?_
      refine Qt.run rfl rfl (by decide) (Ev.fieldAddr (off' := 0) rfl Try.runUnderlying75 rfl Try.sizeOf3 rfl rfl) ?_
      refine Qt.run rfl rfl (by decide) (Ev.load (i := 0) rfl rfl Try.isAgg3 (v := .int .i64 a1.Proc) ((Event.get_Proc (Get.here _)).off (by rfl))) ?_
      refine Qt.run rfl rfl (by decide) (Ev.add rfl rfl) ?_
      refine Qt.run rfl rfl (by decide) (Ev.nilCheck rfl) ?_
      refine Qt.run rfl rfl (by decide) (Ev.fieldAddr (off' := 0) rfl Try.runUnderlying84 rfl Try.sizeOf76 rfl rfl) ?_
      obtain ⟨x27, h28, H⟩ := bind_some H
      have g29 := vat_some h28
      refine Qt.run rfl rfl (by decide) (Ev.indexAddr (off' := 0 + a1.Msg.toNat * 1) rfl rfl Try.runUnderlying76 Try.sizeOf3 g29.1 g29.2.1 rfl) ?_
      refine Qt.tail ?_
      obtain ⟨p30, h31, H⟩ := Let_some H
      refine Lst.store (i := 1) rfl rfl rfl rfl rfl Try.sizeOf3 (vs := [.int .i64 (w64 (a1.Proc + (1 : Int)))]) rfl rfl rfl (cs' := enc p30) (by rw [← h31]; exact (Checker.put_sender (Put.vecN (s := 1) (x := x27) rfl g29.2.2 (Put.here (vs := [.int .i64 (w64 (a1.Proc + (1 : Int)))]) rfl))).off (by omega)) (L' := (.blk b2 (enc a1) 75) :: (.blk b_a0 (enc p30) 84) :: L) rfl ?_
      refine Lst.nil ?_
      refine At.in_normal ?_
      exact At.meet p30 (FLe.refl _) trivial rfl (some_inj H)
    replace H := ite_f hb22 H
    refine Cd.condF rfl hb22 ?_
    refine Cd.seq ?_
    refine Cd.region ?_
    refine Lst.run rfl rfl (by decide) (Ev.eql rfl rfl) ?_
    refine Lst.run rfl rfl (by decide) (Ev.assign rfl) ?_
    refine Lst.nil ?_
    refine At.then ?_
    rcases (Bool.eq_false_or_eq_true (a1.Kind == (3 : Int))).symm with hb32 | hb32
    · replace H := ite_f hb32 H
      refine Cd.condF rfl hb32 ?_
      refine Cd.seq ?_
      refine Cd.region ?_
      refine Lst.run rfl rfl (by decide) (Ev.assign rfl) ?_
      refine Lst.nil ?_
      refine At.then ?_
      obtain rfl := some_inj H
      replace H := HKo19
      obtain rfl := some_inj H
      refine Cd.ret ?_
      refine At.in_ret ?_
      refine At.then_ret ?_
      exact At.ret1 rfl (Res.tmp rfl) hF16 (List.Sublist.cons _ (List.Sublist.cons_cons _ (List.Sublist.refl _))) ⟨rfl, rfl⟩
    replace H := ite_t hb32 H
    refine Cd.condT rfl hb32 ?_
    refine Cd.seq ?_
    refine Cd.seq ?_
    refine Cd.quiet (by kernel_rfl) (by kernel_rfl) ?_
    refine Qt.run rfl rfl (by decide) (Ev.move rfl) ?_
    refine Qt.run rfl rfl (by decide) (Ev.fieldAddr (off' := 2) rfl Try.runUnderlying75 rfl Try.sizeOf3 rfl rfl) ?_
    refine Qt.run rfl rfl (by decide) (Ev.load (i := 0) rfl rfl Try.isAgg3 (v := .int .i64 a1.Msg) ((Event.get_Msg (Get.here _)).off (by rfl))) ?_
    refine Qt.run rfl rfl (by decide) (Ev.nilCheck rfl) ?_
    refine Qt.run rfl rfl (by decide) (Ev.fieldAddr (off' := 0) rfl Try.runUnderlying84 rfl Try.sizeOf76 rfl rfl) ?_
    obtain ⟨x33, h34, H⟩ := bind_some H
    have g35 := vat_some h34
    refine Qt.run rfl rfl (by decide) (Ev.indexAddr (off' := 0 + a1.Msg.toNat * 1) rfl rfl Try.runUnderlying76 Try.sizeOf3 g35.1 g35.2.1 rfl) ?_
    refine Qt.run rfl rfl (by decide) (Ev.load (i := 1) rfl rfl Try.isAgg3 (v := .int .i64 x33) ((Checker.get_sender (Get.vecN (s := 1) (x := x33) rfl g35.2.2 (Get.here _))).off (by omega))) ?_
    refine Qt.run rfl rfl (by decide) (Ev.eql rfl rfl) ?_
    refine Qt.run rfl rfl (by decide) (Ev.move rfl) ?_
    obtain ⟨o36, H, HKo36⟩ := bind_some H
    refine Qt.join (σ := Bool) 12 (fun y37 => [(0, .pointer (some ⟨b_a0, 0, none⟩)), (3, .pointer (some ⟨b2, 0, none⟩)), (63, .bool y37)]) (fun y37 => y37 = o36) ?_ ?_
    · rcases Bool.eq_false_or_eq_true (x33 == (0 : Int)) with hb38 | hb38
      · replace H := ite_t hb38 H
        refine Qt.skip rfl rfl rfl hb38 rfl (by decide) ?_
        refine Qt.skip rfl rfl rfl hb38 rfl (by decide) ?_
        refine Qt.skip rfl rfl rfl hb38 rfl (by decide) ?_
        refine Qt.skip rfl rfl rfl hb38 rfl (by decide) ?_
        refine Qt.skip rfl rfl rfl hb38 rfl (by decide) ?_
        refine Qt.skip rfl rfl rfl hb38 rfl (by decide) ?_
        refine Qt.skip rfl rfl rfl hb38 rfl (by decide) ?_
        refine Qt.skip rfl rfl rfl hb38 rfl (by decide) ?_
        refine Qt.skip rfl rfl rfl hb38 rfl (by decide) ?_
        refine Qt.skip rfl rfl rfl hb38 rfl (by decide) ?_
        refine Qt.skip rfl rfl rfl hb38 rfl (by decide) ?_
        refine Qt.run rfl rfl (by decide) (Ev.pickT rfl hb38 rfl) ?_
        exact Qt.meet true ⟨rfl, rfl, rfl, trivial⟩ (some_inj H)
      replace H := ite_f hb38 H
      refine Qt.runG rfl rfl rfl hb38 rfl (by decide) (Ev.move rfl) ?_
      refine Qt.runG rfl rfl rfl hb38 rfl (by decide) (Ev.fieldAddr (off' := 2) rfl Try.runUnderlying75 rfl Try.sizeOf3 rfl rfl) ?_
      refine Qt.runG rfl rfl rfl hb38 rfl (by decide) (Ev.load (i := 0) rfl rfl Try.isAgg3 (v := .int .i64 a1.Msg) ((Event.get_Msg (Get.here _)).off (by rfl))) ?_
      refine Qt.runG rfl rfl rfl hb38 rfl (by decide) (Ev.nilCheck rfl) ?_
      refine Qt.runG rfl rfl rfl hb38 rfl (by decide) (Ev.fieldAddr (off' := 0) rfl Try.runUnderlying84 rfl Try.sizeOf76 rfl rfl) ?_
      obtain ⟨x39, h40, H⟩ := bind_some H
      have g41 := vat_some h40
      refine Qt.runG rfl rfl rfl hb38 rfl (by decide) (Ev.indexAddr (off' := 0 + a1.Msg.toNat * 1) rfl rfl Try.runUnderlying76 Try.sizeOf3 g41.1 g41.2.1 rfl) ?_
      refine Qt.runG rfl rfl rfl hb38 rfl (by decide) (Ev.load (i := 1) rfl rfl Try.isAgg3 (v := .int .i64 x39) ((Checker.get_sender (Get.vecN (s := 1) (x := x39) rfl g41.2.2 (Get.here _))).off (by omega))) ?_
      refine Qt.runG rfl rfl rfl hb38 rfl (by decide) (Ev.fieldAddr (off' := 0) rfl Try.runUnderlying75 rfl Try.sizeOf3 rfl rfl) ?_
      refine Qt.runG rfl rfl rfl hb38 rfl (by decide) (Ev.load (i := 0) rfl rfl Try.isAgg3 (v := .int .i64 a1.Proc) ((Event.get_Proc (Get.here _)).off (by rfl))) ?_
      refine Qt.runG rfl rfl rfl hb38 rfl (by decide) (Ev.add rfl rfl) ?_
      refine Qt.runG rfl rfl rfl hb38 rfl (by decide) (Ev.eql rfl rfl) ?_
      refine Qt.run rfl rfl (by decide) (Ev.pickF rfl hb38 rfl) ?_
      exact Qt.meet (x39 == (w64 (a1.Proc + (1 : Int)))) ⟨rfl, rfl, rfl, trivial⟩ (some_inj H)
    rintro y37 hy
    subst hy
    refine Qt.as (e' := [(0, .pointer (some ⟨b_a0, 0, none⟩)), (3, .pointer (some ⟨b2, 0, none⟩)), (63, .bool y37)]) ⟨rfl, rfl, rfl, trivial⟩ ?_
    replace H := HKo36
    refine Qt.run rfl rfl (by decide) (Ev.move rfl) ?_
    obtain ⟨o42, H, HKo42⟩ := bind_some H
    refine Qt.join (σ := Bool) 11 (fun y43 => [(0, .pointer (some ⟨b_a0, 0, none⟩)), (3, .pointer (some ⟨b2, 0, none⟩)), (75, .bool y43)]) (fun y43 => y43 = o42) ?_ ?_
    · rcases Bool.eq_false_or_eq_true y37 with hb44 | hb44
      · replace H := ite_t hb44 H
        refine Qt.skip rfl rfl rfl hb44 rfl (by decide) ?_
        refine Qt.skip rfl rfl rfl hb44 rfl (by decide) ?_
        refine Qt.skip rfl rfl rfl hb44 rfl (by decide) ?_
        refine Qt.skip rfl rfl rfl hb44 rfl (by decide) ?_
        refine Qt.skip rfl rfl rfl hb44 rfl (by decide) ?_
        refine Qt.skip rfl rfl rfl hb44 rfl (by decide) ?_
        refine Qt.skip rfl rfl rfl hb44 rfl (by decide) ?_
        refine Qt.skip rfl rfl rfl hb44 rfl (by decide) ?_
        refine Qt.skip rfl rfl rfl hb44 rfl (by decide) ?_
        refine Qt.skip rfl rfl rfl hb44 rfl (by decide) ?_
        refine Qt.run rfl rfl (by decide) (Ev.pickT rfl hb44 rfl) ?_
        exact Qt.meet true ⟨rfl, rfl, rfl, trivial⟩ (some_inj H)
      replace H := ite_f hb44 H
      refine Qt.runG rfl rfl rfl hb44 rfl (by decide) (Ev.move rfl) ?_
      refine Qt.runG rfl rfl rfl hb44 rfl (by decide) (Ev.fieldAddr (off' := 2) rfl Try.runUnderlying75 rfl Try.sizeOf3 rfl rfl) ?_
      refine Qt.runG rfl rfl rfl hb44 rfl (by decide) (Ev.load (i := 0) rfl rfl Try.isAgg3 (v := .int .i64 a1.Msg) ((Event.get_Msg (Get.here _)).off (by rfl))) ?_
      refine Qt.runG rfl rfl rfl hb44 rfl (by decide) (Ev.fieldAddr (off' := 0) rfl Try.runUnderlying75 rfl Try.sizeOf3 rfl rfl) ?_
      refine Qt.runG rfl rfl rfl hb44 rfl (by decide) (Ev.load (i := 0) rfl rfl Try.isAgg3 (v := .int .i64 a1.Proc) ((Event.get_Proc (Get.here _)).off (by rfl))) ?_
      refine Qt.runG rfl rfl rfl hb44 rfl (by decide) (Ev.nilCheck rfl) ?_
      refine Qt.runG rfl rfl rfl hb44 rfl (by decide) (Ev.fieldAddr (off' := 30) rfl Try.runUnderlying84 rfl Try.sizeOf82 rfl rfl) ?_
      obtain ⟨x45, h46, H⟩ := bind_some H
      have g47 := vat_some h46
      refine Qt.runG rfl rfl rfl hb44 rfl (by decide) (Ev.indexAddr (off' := 30 + a1.Msg.toNat * 6) rfl rfl Try.runUnderlying82 Try.sizeOf81 g47.1 g47.2.1 rfl) ?_
      obtain ⟨x48, h49, H⟩ := bind_some H
      have g50 := vat_some h49
      refine Qt.runG rfl rfl rfl hb44 rfl (by decide) (Ev.indexAddr (off' := 30 + a1.Msg.toNat * 6 + a1.Proc.toNat * 1) rfl rfl Try.runUnderlying81 Try.sizeOf4 g50.1 g50.2.1 rfl) ?_
      refine Qt.runG rfl rfl rfl hb44 rfl (by decide) (Ev.load (i := 1) rfl rfl Try.isAgg4 (v := .bool x48) ((Checker.get_taken (Get.vecN (s := 6) (x := x45) rfl g47.2.2 (Get.vecN (s := 1) (x := x48) rfl g50.2.2 (Get.here _)))).off (by omega))) ?_
      refine Qt.run rfl rfl (by decide) (Ev.pickF rfl hb44 rfl) ?_
      exact Qt.meet x48 ⟨rfl, rfl, rfl, trivial⟩ (some_inj H)
    rintro y43 hy
    subst hy
    refine Qt.as (e' := [(0, .pointer (some ⟨b_a0, 0, none⟩)), (3, .pointer (some ⟨b2, 0, none⟩)), (75, .bool y43)]) ⟨rfl, rfl, rfl, trivial⟩ ?_
    replace H := HKo42
    refine Qt.done ?_
    refine At.then ?_
    rcases Bool.eq_false_or_eq_true y43 with hb51 | hb51
    · replace H := ite_t hb51 H
      refine Cd.condT rfl hb51 ?_
      refine Cd.seq ?_
      refine Cd.region ?_
      refine Lst.run rfl rfl (by decide) (Ev.assign rfl) ?_
      refine Lst.nil ?_
      refine At.then ?_
      obtain rfl := some_inj H
      replace H := HKo19
      obtain rfl := some_inj H
      refine Cd.ret ?_
      refine At.then_ret ?_
      refine At.in_ret ?_
      refine At.then_ret ?_
      exact At.ret1 rfl (Res.tmp rfl) hF16 (List.Sublist.cons _ (List.Sublist.cons_cons _ (List.Sublist.refl _))) ⟨rfl, rfl⟩
    replace H := ite_f hb51 H
    refine Cd.condF rfl hb51 ?_
    refine Cd.skip ?_
    refine At.then ?_
    refine Cd.tail 9 (by kernel_rfl) (by kernel_rfl) ?_
    refine Qt.run rfl rfl (by decide) (Ev.move rfl) ?_
    refine Qt.run rfl rfl (by decide) (Ev.fieldAddr (off' := 2) rfl Try.runUnderlying75 rfl Try.sizeOf3 rfl rfl) ?_
    refine Qt.run rfl rfl (by decide) (Ev.load (i := 0) rfl rfl Try.isAgg3 (v := .int .i64 a1.Msg) ((Event.get_Msg (Get.here _)).off (by rfl))) ?_
    refine Qt.run rfl rfl (by decide) (Ev.fieldAddr (off' := 0) rfl Try.runUnderlying75 rfl Try.sizeOf3 rfl rfl) ?_
    refine Qt.run rfl rfl (by decide) (Ev.load (i := 0) rfl rfl Try.isAgg3 (v := .int .i64 a1.Proc) ((Event.get_Proc (Get.here _)).off (by rfl))) ?_
    refine Qt.run rfl rfl (by decide) (Ev.nilCheck rfl) ?_
    refine Qt.run rfl rfl (by decide) (Ev.fieldAddr (off' := 30) rfl Try.runUnderlying84 rfl Try.sizeOf82 rfl rfl) ?_
    obtain ⟨x52, h53, H⟩ := bind_some H
    have g54 := vat_some h53
    refine Qt.run rfl rfl (by decide) (Ev.indexAddr (off' := 30 + a1.Msg.toNat * 6) rfl rfl Try.runUnderlying82 Try.sizeOf81 g54.1 g54.2.1 rfl) ?_
    obtain ⟨x55, h56, H⟩ := bind_some H
    have g57 := vat_some h56
    refine Qt.run rfl rfl (by decide) (Ev.indexAddr (off' := 30 + a1.Msg.toNat * 6 + a1.Proc.toNat * 1) rfl rfl Try.runUnderlying81 Try.sizeOf4 g57.1 g57.2.1 rfl) ?_
    refine Qt.tail ?_
    obtain ⟨p58, h59, H⟩ := Let_some H
    refine Lst.store (i := 1) rfl rfl rfl rfl rfl Try.sizeOf4 (vs := [.bool true]) rfl rfl rfl (cs' := enc p58) (by rw [← h59]; exact (Checker.put_taken (Put.vecN (s := 6) (x := x52) rfl g54.2.2 (Put.vecN (s := 1) (x := x55) rfl g57.2.2 (Put.here (vs := [.bool true]) rfl)))).off (by omega)) (L' := (.blk b2 (enc a1) 75) :: (.blk b_a0 (enc p58) 84) :: L) rfl ?_
    refine Lst.nil ?_
    refine At.in_normal ?_
    exact At.meet p58 (FLe.refl _) trivial rfl (some_inj H)
  rintro F60 y18 hF61 hy
  subst hy
  refine Cd.as (e' := []) (L' := (.blk b2 (enc a1) 75) :: (.blk b_a0 (enc y18) 84) :: L) trivial rfl ?_
  replace H := HKo19
  refine Cd.seq ?_
  refine Cd.region ?_
  refine Lst.run rfl rfl (by decide) (Ev.assign rfl) ?_
  refine Lst.nil ?_
  refine At.then ?_
  obtain rfl := some_inj H
  refine Cd.ret ?_
  exact At.ret1 rfl (Res.tmp rfl) (FLe.trans hF16 hF61) (List.Sublist.cons _ (List.Sublist.cons_cons _ (List.Sublist.refl _))) ⟨rfl, rfl⟩
set_option maxRecDepth 20000 in
theorem stamp_Check_sim {a0 : List Event} {s_a0 : Sl} {r : Int} (H : stamp_Check a0 = some r) (w0 : World) (F : Frz) (M L : List Item) (hM : M.Sublist L) (hs_a0 : Rd w0 F M s_a0 a0) : Ok Try.prog w0 22 [Sl.v s_a0] F (L) (Is (.int .i64 r) (L)) := by
  unfold stamp_Check at H
  refine Ok.enter (m := 1) (n := 25) Try.func22 rfl rfl rfl (by decide) ?_
  refine Cd.env (e' := [(0, Sl.v s_a0)]) rfl ?_
  refine Cd.seq ?_
  refine Cd.region ?_
  refine Lst.run rfl rfl (by decide) (Ev.assign rfl) ?_
  refine Lst.nil ?_
  refine At.then ?_
  refine Cd.seq ?_
  refine Cd.seq ?_
  refine Cd.region ?_
  refine Lst.run rfl rfl (by decide) (Ev.move rfl) ?_
  refine Lst.run rfl rfl (by decide) (Ev.lenS (α := Event) (xs := a0) (by decide) rfl rfl Try.runUnderlying24 (hs_a0.mono (FLe.refl _) hM)) ?_
  refine Lst.run rfl rfl (by decide) (Ev.gtr rfl rfl) ?_
  refine Lst.nil ?_
  refine At.then ?_
  rcases Bool.eq_false_or_eq_true (decide ((a0.length : Int) > (60 : Int))) with hb1 | hb1
  · replace H := ite_t hb1 H
    refine Cd.condT rfl hb1 ?_
    refine Cd.seq ?_
    refine Cd.region ?_
    refine Lst.run rfl rfl (by decide) (Ev.assign rfl) ?_
    refine Lst.nil ?_
    refine At.then ?_
    obtain rfl := some_inj H
    refine Cd.ret ?_
    refine At.then_ret ?_
    exact At.ret1 rfl (Res.tmp rfl) (FLe.refl _) (List.Sublist.refl _) ⟨rfl, rfl⟩
  replace H := ite_f hb1 H
  refine Cd.condF rfl hb1 ?_
  refine Cd.skip ?_
  refine At.then ?_
  refine Cd.seq ?_
  refine Cd.region ?_
  refine Lst.run rfl rfl (by decide) (Ev.build (v := .agg (enc Checker.zero).toArray) (pv := []) trivial (fun w => by kernel_rfl)) ?_
  refine Lst.box rfl rfl (by decide) rfl (cs := enc Checker.zero) rfl (fun b2 => ?_)
  refine Lst.run rfl rfl (by decide) (Ev.assign rfl) ?_
  refine Lst.nil ?_
  refine At.then ?_
  refine Cd.seq ?_
  refine Cd.seq ?_
  refine Cd.region ?_
  refine Lst.run rfl rfl (by decide) (Ev.move rfl) ?_
  refine Lst.run rfl rfl (by decide) (Ev.lenS (α := Event) (xs := a0) (by decide) rfl rfl Try.runUnderlying24 (hs_a0.mono (FLe.refl _) (List.Sublist.cons _ hM))) ?_
  refine Lst.run rfl rfl (by decide) (Ev.move rfl) ?_
  refine Lst.nil ?_
  refine At.then ?_
  refine Cd.block ?_
  refine Cd.bound (Rd.le (α := Event) (xs := a0) (by decide) (hs_a0.mono (FLe.refl _) (List.Sublist.cons _ hM))) (fun hN18 => ?_)
  obtain ⟨ol4, H, HKl4⟩ := andThen_some H
  refine Cd.loop (σ := Nat × Nat × Checker) (fun (i4, k4, y5) => [(3, .pointer (some ⟨b2, 0, none⟩)), (12, Sl.v s_a0), (13, .int .i64 (a0.length : Int)), (14, .int .i64 (i4 : Int))]) (fun (i4, k4, y5) => (.blk b2 (enc y5) 84) :: L) (fun _ => (fun (i4, k4, y5) => rangeM (stamp_Check_B0 a0) k4 i4 y5 = some ol4 ∧ i4 + k4 = a0.length)) (fun (i4, k4, y5) => k4) (0, a0.length, Checker.zero) ⟨rfl, rfl, rfl, rfl, trivial⟩ rfl ⟨H, by omega⟩ ?_
  rintro F6 ⟨i4, k4, y5⟩ hF7 ⟨H, hik4⟩
  refine Cd.as (e' := [(3, .pointer (some ⟨b2, 0, none⟩)), (12, Sl.v s_a0), (13, .int .i64 (a0.length : Int)), (14, .int .i64 (i4 : Int))]) (L' := (.blk b2 (enc y5) 84) :: L) ⟨rfl, rfl, rfl, rfl, trivial⟩ rfl ?_
  rcases k4 with _ | k4
  · have hc4 : decide ((i4 : Int) < (a0.length : Int)) = false := decide_eq_false (by omega)
    replace H := rangeM_end H
    refine Cd.seq ?_
    refine Cd.region ?_
    refine Lst.run rfl rfl (by decide) (Ev.lss rfl rfl) ?_
    refine Lst.nil ?_
    refine At.then ?_
    refine Cd.seq ?_
    refine Cd.condF rfl hc4 ?_
    refine Cd.exit ?_
    refine At.then_exit ?_
    refine At.then_exit ?_
    refine At.in_exit ?_
    subst H
    replace H := HKl4
    refine At.then ?_
    refine Cd.seq ?_
    refine Cd.region ?_
    refine Lst.run rfl rfl (by decide) (Ev.assign rfl) ?_
    refine Lst.nil ?_
    refine At.then ?_
    obtain rfl := some_inj H
    refine Cd.ret ?_
    exact At.ret1 rfl (Res.tmp rfl) hF7 (List.Sublist.cons _ (List.Sublist.refl _)) ⟨rfl, rfl⟩
  have hc4 : decide ((i4 : Int) < (a0.length : Int)) = true := decide_eq_true (by omega)
  obtain ⟨c4, H, hgo4, hbrk4, hret4⟩ := rangeM_go H
  unfold stamp_Check_B0 at H
  try dsimp only at H
  refine Cd.seq ?_
  refine Cd.region ?_
  refine Lst.run rfl rfl (by decide) (Ev.lss rfl rfl) ?_
  refine Lst.nil ?_
  refine At.then ?_
  refine Cd.seq ?_
  refine Cd.condT rfl hc4 ?_
  refine Cd.skip ?_
  refine At.then ?_
  refine Cd.seq ?_
  refine Cd.block ?_
  refine Cd.seq ?_
  refine Cd.region ?_
  obtain ⟨x8, h9, H⟩ := bind_some H
  have g10 := lat_some h9
  refine Lst.run rfl rfl (by decide) (Ev.indexS (α := Event) (xs := a0) rfl rfl Try.runUnderlying24 Try.sizeOf75 rfl (by decide) (hs_a0.mono hF7 (List.Sublist.cons _ hM)) g10.1 g10.2.1) ?_
  refine Lst.run rfl rfl (by decide) (Ev.loadSA (α := Event) rfl (hs_a0.mono hF7 (List.Sublist.cons _ hM)) Try.isAgg75 Try.sizeOf75 (ch := enc x8) (Enc.len _) (by decide) ((Get.elemN (s := 3) (x := x8) rfl g10.2.2 (Get.here _)).off (by omega))) ?_
  refine Lst.alloc (cs := enc Event.zero) rfl rfl (by decide) Try.zeroValue75 rfl (fun b11 => ?_)
  refine Lst.store (i := 0) rfl rfl rfl rfl rfl Try.sizeOf75 (vs := enc x8) rfl (Enc.len _) (Enc.one _) (cs' := enc x8) (Put.here ((Enc.len _).trans (Enc.len _).symm)) (L' := (.blk b11 (enc x8) 75) :: (.blk b2 (enc y5) 84) :: L) rfl ?_
  refine Lst.nil ?_
  refine At.then ?_
  refine Cd.seq ?_
  refine Cd.region ?_
  refine Lst.run rfl rfl (by decide) (Ev.move rfl) ?_
  refine Lst.run rfl rfl (by decide) (Ev.loadA (i := 0) rfl rfl Try.isAgg75 Try.sizeOf75 (ch := enc x8) (Enc.len _) (Get.here _)) ?_
  obtain ⟨r13, h14, H⟩ := bind_some H
  refine Lst.front (i := 1) rfl (L' := (.blk b2 (enc y5) 84) :: (.blk b11 (enc x8) 75) :: L) rfl ?_
  refine Lst.call rfl rfl (by decide) (vs := [.pointer (some ⟨b2, 0, none⟩), .agg (enc x8).toArray]) ⟨rfl, rfl, trivial⟩ Try.call51 (stamp_checker_event_sim h14 w0 _ M _ (List.Sublist.cons _ hM)) (fun F15 L' v hF16 hv => ?_)
  obtain ⟨rfl, rfl⟩ := hv
  refine Lst.run rfl rfl (by decide) (Ev.assign rfl) ?_
  refine Lst.nil ?_
  refine At.then ?_
  refine Cd.seq ?_
  refine Cd.region ?_
  refine Lst.run rfl rfl (by decide) (Ev.move rfl) ?_
  refine Lst.run rfl rfl (by decide) (Ev.neq rfl rfl) ?_
  refine Lst.nil ?_
  refine At.then ?_
  rcases Bool.eq_false_or_eq_true (r13.2 != (0 : Int)) with hb17 | hb17
  · replace H := ite_t hb17 H
    refine Cd.condT rfl hb17 ?_
    refine Cd.seq ?_
    refine Cd.region ?_
    refine Lst.run rfl rfl (by decide) (Ev.move rfl) ?_
    refine Lst.run rfl rfl (by decide) (Ev.assign rfl) ?_
    refine Lst.nil ?_
    refine At.then ?_
    have H := hret4 _ (some_inj H).symm
    subst H
    replace H := HKl4
    obtain rfl := some_inj H
    refine Cd.ret ?_
    refine At.in_ret ?_
    refine At.then_ret ?_
    refine At.then_ret ?_
    refine At.in_ret ?_
    refine At.then_ret ?_
    exact At.ret1 rfl (Res.tmp rfl) (FLe.trans hF7 hF16) (List.Sublist.cons _ (List.Sublist.cons _ (List.Sublist.refl _))) ⟨rfl, rfl⟩
  replace H := ite_f hb17 H
  refine Cd.condF rfl hb17 ?_
  refine Cd.skip ?_
  refine At.in_normal ?_
  refine At.then ?_
  refine Cd.region ?_
  refine Lst.run rfl rfl (by decide) (Ev.incr (by omega) rfl rfl) ?_
  refine Lst.run rfl rfl (by decide) (Ev.move rfl) ?_
  refine Lst.nil ?_
  refine At.less (L' := (.blk b2 (enc r13.1) 84) :: L) (List.Sublist.cons_cons _ (List.Sublist.cons _ (List.Sublist.refl _))) ?_
  exact At.meet (i4 + 1, k4, r13.1) (FLe.trans hF7 hF16) ⟨rfl, rfl, rfl, rfl, trivial⟩ rfl ⟨⟨hgo4 _ (some_inj H).symm, by omega⟩, Nat.lt_succ_self _⟩
set_option maxRecDepth 20000 in
theorem pred_Check_sim {a0 : List Event} {a1 : List (List Bool)} {s_a0 : Sl} {s_a1 : Sl} {rs_a1 : List (LR Bool)} {r : Int} (H : pred_Check a0 a1 = some r) (w0 : World) (F : Frz) (M L : List Item) (hM : M.Sublist L) (hs_a0 : Rd w0 F M s_a0 a0) (hm_a1 : rs_a1.map LR.v = a1) (hs_a1 : Rd w0 F M s_a1 rs_a1) (ha_a1 : All LR.rel w0 F M rs_a1) : Ok Try.prog w0 41 [Sl.v s_a0, Sl.v s_a1] F (L) (Is (.int .i64 r) (L)) := by
  unfold pred_Check at H
  refine Ok.enter (m := 2) (n := 47) Try.func41 rfl rfl rfl (by decide) ?_
  refine Cd.env (e' := [(0, Sl.v s_a0), (1, Sl.v s_a1)]) rfl ?_
  refine Cd.seq ?_
  refine Cd.region ?_
  refine Lst.run rfl rfl (by decide) (Ev.assign rfl) ?_
  refine Lst.nil ?_
  refine At.then ?_
  refine Cd.seq ?_
  refine Cd.seq ?_
  refine Cd.region ?_
  refine Lst.run rfl rfl (by decide) (Ev.move rfl) ?_
  obtain ⟨r1, h2, H⟩ := bind_some H
  refine Lst.call1 rfl rfl (by decide) (vs := [Sl.v s_a0]) ⟨rfl, trivial⟩ Try.call22 (stamp_Check_sim h2 w0 _ M _ hM (hs_a0.mono (FLe.refl _) (List.Sublist.refl _))) ?_
  refine Lst.run rfl rfl (by decide) (Ev.assign rfl) ?_
  refine Lst.nil ?_
  refine At.then ?_
  refine Cd.seq ?_
  refine Cd.region ?_
  refine Lst.run rfl rfl (by decide) (Ev.move rfl) ?_
  refine Lst.run rfl rfl (by decide) (Ev.neq rfl rfl) ?_
  refine Lst.nil ?_
  refine At.then ?_
  rcases Bool.eq_false_or_eq_true (r1 != (0 : Int)) with hb5 | hb5
  · replace H := ite_t hb5 H
    refine Cd.condT rfl hb5 ?_
    refine Cd.seq ?_
    refine Cd.region ?_
    refine Lst.run rfl rfl (by decide) (Ev.move rfl) ?_
    refine Lst.run rfl rfl (by decide) (Ev.assign rfl) ?_
    refine Lst.nil ?_
    refine At.then ?_
    obtain rfl := some_inj H
    refine Cd.ret ?_
    refine At.then_ret ?_
    exact At.ret1 rfl (Res.tmp rfl) (FLe.refl _) (List.Sublist.refl _) ⟨rfl, rfl⟩
  replace H := ite_f hb5 H
  refine Cd.condF rfl hb5 ?_
  refine Cd.skip ?_
  refine At.then ?_
  refine Cd.seq ?_
  refine Cd.region ?_
  refine Lst.alloc (cs := enc (Vector.replicate 6 (0 : Int))) rfl rfl (by decide) Try.zeroValue23 rfl (fun b6 => ?_)
  refine Lst.nil ?_
  refine At.then ?_
  refine Cd.seq ?_
  refine Cd.seq ?_
  refine Cd.region ?_
  refine Lst.run rfl rfl (by decide) (Ev.move rfl) ?_
  refine Lst.run rfl rfl (by decide) (Ev.lenS (α := Event) (xs := a0) (by decide) rfl rfl Try.runUnderlying24 (hs_a0.mono (FLe.refl _) (List.Sublist.cons _ hM))) ?_
  refine Lst.run rfl rfl (by decide) (Ev.move rfl) ?_
  refine Lst.nil ?_
  refine At.then ?_
  refine Cd.block ?_
  refine Cd.bound (Rd.le (α := Event) (xs := a0) (by decide) (hs_a0.mono (FLe.refl _) (List.Sublist.cons _ hM))) (fun hN40 => ?_)
  obtain ⟨ol8, H, HKl8⟩ := bind_some H
  refine Cd.loop (σ := Nat × Nat × (Vector Int 6)) (fun (i8, k8, y9) => [(1, Sl.v s_a1), (6, .pointer (some ⟨b6, 0, none⟩)), (16, Sl.v s_a0), (17, .int .i64 (a0.length : Int)), (18, .int .i64 (i8 : Int))]) (fun (i8, k8, y9) => (.blk b6 (enc y9) 23) :: L) (fun _ => (fun (i8, k8, y9) => rangeF (pred_Check_B0 a0) k8 i8 y9 = some ol8 ∧ i8 + k8 = a0.length)) (fun (i8, k8, y9) => k8) (0, a0.length, (Vector.replicate 6 (0 : Int))) ⟨rfl, rfl, rfl, rfl, rfl, trivial⟩ rfl ⟨H, by omega⟩ ?_
  rintro F10 ⟨i8, k8, y9⟩ hF11 ⟨H, hik8⟩
  refine Cd.as (e' := [(1, Sl.v s_a1), (6, .pointer (some ⟨b6, 0, none⟩)), (16, Sl.v s_a0), (17, .int .i64 (a0.length : Int)), (18, .int .i64 (i8 : Int))]) (L' := (.blk b6 (enc y9) 23) :: L) ⟨rfl, rfl, rfl, rfl, rfl, trivial⟩ rfl ?_
  rcases k8 with _ | k8
  · have hc8 : decide ((i8 : Int) < (a0.length : Int)) = false := decide_eq_false (by omega)
    replace H := rangeF_end H
    refine Cd.seq ?_
    refine Cd.region ?_
    refine Lst.run rfl rfl (by decide) (Ev.lss rfl rfl) ?_
    refine Lst.nil ?_
    refine At.then ?_
    refine Cd.seq ?_
    refine Cd.condF rfl hc8 ?_
    refine Cd.exit ?_
    refine At.then_exit ?_
    refine At.then_exit ?_
    refine At.in_exit ?_
    subst H
    replace H := HKl8
    refine At.then ?_
    refine Cd.seq ?_
    refine Cd.seq ?_
    refine Cd.region ?_
    refine Lst.run rfl rfl (by decide) (Ev.move rfl) ?_
    refine Lst.run rfl rfl (by decide) (Ev.lenM (map_len hm_a1) (Ev.lenS (α := LR Bool) (xs := rs_a1) (by decide) rfl rfl Try.runUnderlying42 (hs_a1.mono hF11 (List.Sublist.cons _ hM)))) ?_
    refine Lst.run rfl rfl (by decide) (Ev.neq rfl rfl) ?_
    refine Lst.nil ?_
    refine At.then ?_
    rcases Bool.eq_false_or_eq_true ((a1.length : Int) != (6 : Int)) with hb26 | hb26
    · replace H := ite_t hb26 H
      refine Cd.condT rfl hb26 ?_
      refine Cd.seq ?_
      refine Cd.region ?_
      refine Lst.run rfl rfl (by decide) (Ev.assign rfl) ?_
      refine Lst.nil ?_
      refine At.then ?_
      obtain rfl := some_inj H
      refine Cd.ret ?_
      refine At.then_ret ?_
      exact At.ret1 rfl (Res.tmp rfl) hF11 (List.Sublist.cons _ (List.Sublist.refl _)) ⟨rfl, rfl⟩
    replace H := ite_f hb26 H
    refine Cd.condF rfl hb26 ?_
    refine Cd.skip ?_
    refine At.then ?_
    refine Cd.seq ?_
    refine Cd.seq ?_
    refine Cd.region ?_
    refine Lst.run rfl rfl (by decide) (Ev.move rfl) ?_
    refine Lst.run rfl rfl (by decide) (Ev.lenM (map_len hm_a1) (Ev.lenS (α := LR Bool) (xs := rs_a1) (by decide) rfl rfl Try.runUnderlying42 (hs_a1.mono hF11 (List.Sublist.cons _ hM)))) ?_
    refine Lst.run rfl rfl (by decide) (Ev.move rfl) ?_
    refine Lst.nil ?_
    refine At.then ?_
    refine Cd.block ?_
    refine Cd.bound (Rd.le (α := LR Bool) (xs := rs_a1) (by decide) (hs_a1.mono hF11 (List.Sublist.cons _ hM))) (fun hN39 => ?_)
    rw [map_len hm_a1] at hN39
    obtain ⟨ol28, H, HKl28⟩ := andThen_some H
    refine Cd.loop (σ := Nat × Nat × Unit) (fun (i28, k28, _u) => [(6, .pointer (some ⟨b6, 0, none⟩)), (32, Sl.v s_a1), (33, .int .i64 (a1.length : Int)), (34, .int .i64 (i28 : Int))]) (fun (i28, k28, _u) => (.blk b6 (enc y9) 23) :: L) (fun _ => (fun (i28, k28, _u) => rangeM (pred_Check_B2 a1 y9) k28 i28 () = some ol28 ∧ i28 + k28 = a1.length)) (fun (i28, k28, _u) => k28) (0, a1.length, ()) ⟨rfl, rfl, rfl, rfl, trivial⟩ rfl ⟨H, by omega⟩ ?_
    rintro F29 ⟨i28, k28, _u⟩ hF30 ⟨H, hik28⟩
    refine Cd.as (e' := [(6, .pointer (some ⟨b6, 0, none⟩)), (32, Sl.v s_a1), (33, .int .i64 (a1.length : Int)), (34, .int .i64 (i28 : Int))]) (L' := (.blk b6 (enc y9) 23) :: L) ⟨rfl, rfl, rfl, rfl, trivial⟩ rfl ?_
    rcases k28 with _ | k28
    · have hc28 : decide ((i28 : Int) < (a1.length : Int)) = false := decide_eq_false (by omega)
      replace H := rangeM_end H
      refine Cd.seq ?_
      refine Cd.region ?_
      refine Lst.run rfl rfl (by decide) (Ev.lss rfl rfl) ?_
      refine Lst.nil ?_
      refine At.then ?_
      refine Cd.seq ?_
      refine Cd.condF rfl hc28 ?_
      refine Cd.exit ?_
      refine At.then_exit ?_
      refine At.then_exit ?_
      refine At.in_exit ?_
      subst H
      replace H := HKl28
      refine At.then ?_
      refine Cd.seq ?_
      refine Cd.region ?_
      refine Lst.run rfl rfl (by decide) (Ev.assign rfl) ?_
      refine Lst.nil ?_
      refine At.then ?_
      obtain rfl := some_inj H
      refine Cd.ret ?_
      exact At.ret1 rfl (Res.tmp rfl) (FLe.trans hF11 hF30) (List.Sublist.cons _ (List.Sublist.refl _)) ⟨rfl, rfl⟩
    have hc28 : decide ((i28 : Int) < (a1.length : Int)) = true := decide_eq_true (by omega)
    obtain ⟨c28, H, hgo28, hbrk28, hret28⟩ := rangeM_go H
    unfold pred_Check_B2 at H
    try dsimp only at H
    refine Cd.seq ?_
    refine Cd.region ?_
    refine Lst.run rfl rfl (by decide) (Ev.lss rfl rfl) ?_
    refine Lst.nil ?_
    refine At.then ?_
    refine Cd.seq ?_
    refine Cd.condT rfl hc28 ?_
    refine Cd.skip ?_
    refine At.then ?_
    refine Cd.seq ?_
    refine Cd.block ?_
    refine Cd.seq ?_
    refine Cd.region ?_
    refine Lst.run rfl rfl (by decide) (Ev.move rfl) ?_
    obtain ⟨x31, h32, H⟩ := bind_some H
    have g33 := lat_some h32
    obtain ⟨⟨r34v, r34h⟩, r34g, r34e, r34m⟩ := map_get hm_a1 g33.2.2
    obtain rfl : x31 = r34v := r34e.symm
    have r34q : Rd w0 _ _ r34h x31 := ha_a1 _ r34m
    refine Lst.run rfl rfl (by decide) (Ev.indexS (α := LR Bool) (xs := rs_a1) rfl rfl Try.runUnderlying42 Try.sizeOf44 rfl (by decide) (hs_a1.mono (FLe.trans hF11 hF30) (List.Sublist.cons _ hM)) g33.1 (by have := map_len hm_a1; omega)) ?_
    refine Lst.run rfl rfl (by decide) (Ev.loadS (α := LR Bool) rfl (hs_a1.mono (FLe.trans hF11 hF30) (List.Sublist.cons _ hM)) Try.isAgg44 (v := Sl.v r34h) ((Get.elemN (s := 1) rfl r34g (Get.here _)).off (by omega))) ?_
    refine Lst.run rfl rfl (by decide) (Ev.assign rfl) ?_
    refine Lst.run rfl rfl (by decide) (Ev.assign rfl) ?_
    refine Lst.nil ?_
    refine At.then ?_
    refine Cd.seq ?_
    refine Cd.region ?_
    refine Lst.run rfl rfl (by decide) (Ev.move rfl) ?_
    refine Lst.run rfl rfl (by decide) (Ev.lenS (α := Bool) (xs := x31) (by decide) rfl rfl Try.runUnderlying44 (r34q.mono (FLe.trans hF11 hF30) (List.Sublist.cons _ hM))) ?_
    refine Lst.run rfl rfl (by decide) (Ev.move rfl) ?_
    obtain ⟨x35, h36, H⟩ := bind_some H
    have g37 := vat_some h36
    refine Lst.run rfl rfl (by decide) (Ev.indexAddr (off' := 0 + (i28 : Int).toNat * 1) rfl rfl Try.runUnderlying23 Try.sizeOf3 g37.1 g37.2.1 rfl) ?_
    refine Lst.run rfl rfl (by decide) (Ev.load (i := 0) rfl rfl Try.isAgg3 (v := .int .i64 x35) ((Get.vecN (s := 1) (x := x35) rfl g37.2.2 (Get.here _)).off (by omega))) ?_
    refine Lst.run rfl rfl (by decide) (Ev.add rfl rfl) ?_
    refine Lst.run rfl rfl (by decide) (Ev.neq rfl rfl) ?_
    refine Lst.nil ?_
    refine At.then ?_
    rcases Bool.eq_false_or_eq_true ((x31.length : Int) != (w64 (x35 + (1 : Int)))) with hb38 | hb38
    · replace H := ite_t hb38 H
      refine Cd.condT rfl hb38 ?_
      refine Cd.seq ?_
      refine Cd.as (e' := []) (L' := (.blk b6 (enc y9) 23) :: L) trivial rfl ?_
      refine Cd.region ?_
      refine Lst.run rfl rfl (by decide) (Ev.assign rfl) ?_
      refine Lst.nil ?_
      refine At.then ?_
      have H := hret28 _ (some_inj H).symm
      subst H
      replace H := HKl28
      obtain rfl := some_inj H
      refine Cd.ret ?_
      refine At.in_ret ?_
      refine At.then_ret ?_
      refine At.then_ret ?_
      refine At.in_ret ?_
      refine At.then_ret ?_
      exact At.ret1 rfl (Res.tmp rfl) (FLe.trans hF11 hF30) (List.Sublist.cons _ (List.Sublist.refl _)) ⟨rfl, rfl⟩
    replace H := ite_f hb38 H
    refine Cd.condF rfl hb38 ?_
    refine Cd.skip ?_
    refine At.in_normal ?_
    refine At.then ?_
    refine Cd.region ?_
    refine Lst.run rfl rfl (by decide) (Ev.incr (by omega) rfl rfl) ?_
    refine Lst.run rfl rfl (by decide) (Ev.move rfl) ?_
    refine Lst.nil ?_
    exact At.meet (i28 + 1, k28, ()) hF30 ⟨rfl, rfl, rfl, rfl, trivial⟩ rfl ⟨⟨hgo28 _ (some_inj H).symm, by omega⟩, Nat.lt_succ_self _⟩
  have hc8 : decide ((i8 : Int) < (a0.length : Int)) = true := decide_eq_true (by omega)
  obtain ⟨c8, H, hgo8⟩ := rangeF_go H
  unfold pred_Check_B0 at H
  try dsimp only at H
  refine Cd.seq ?_
  refine Cd.region ?_
  refine Lst.run rfl rfl (by decide) (Ev.lss rfl rfl) ?_
  refine Lst.nil ?_
  refine At.then ?_
  refine Cd.seq ?_
  refine Cd.condT rfl hc8 ?_
  refine Cd.skip ?_
  refine At.then ?_
  refine Cd.seq ?_
  refine Cd.block ?_
  refine Cd.seq ?_
  refine Cd.region ?_
  obtain ⟨x12, h13, H⟩ := bind_some H
  have g14 := lat_some h13
  refine Lst.run rfl rfl (by decide) (Ev.indexS (α := Event) (xs := a0) rfl rfl Try.runUnderlying24 Try.sizeOf75 rfl (by decide) (hs_a0.mono hF11 (List.Sublist.cons _ hM)) g14.1 g14.2.1) ?_
  refine Lst.run rfl rfl (by decide) (Ev.loadSA (α := Event) rfl (hs_a0.mono hF11 (List.Sublist.cons _ hM)) Try.isAgg75 Try.sizeOf75 (ch := enc x12) (Enc.len _) (by decide) ((Get.elemN (s := 3) (x := x12) rfl g14.2.2 (Get.here _)).off (by omega))) ?_
  refine Lst.alloc (cs := enc Event.zero) rfl rfl (by decide) Try.zeroValue75 rfl (fun b15 => ?_)
  refine Lst.store (i := 0) rfl rfl rfl rfl rfl Try.sizeOf75 (vs := enc x12) rfl (Enc.len _) (Enc.one _) (cs' := enc x12) (Put.here ((Enc.len _).trans (Enc.len _).symm)) (L' := (.blk b15 (enc x12) 75) :: (.blk b6 (enc y9) 23) :: L) rfl ?_
  refine Lst.nil ?_
  refine At.then ?_
  refine Cd.region ?_
  refine Lst.run rfl rfl (by decide) (Ev.fieldAddr (off' := 0) rfl Try.runUnderlying75 rfl Try.sizeOf3 rfl rfl) ?_
  refine Lst.run rfl rfl (by decide) (Ev.load (i := 0) rfl rfl Try.isAgg3 (v := .int .i64 x12.Proc) ((Event.get_Proc (Get.here _)).off (by rfl))) ?_
  obtain ⟨x17, h18, H⟩ := bind_some H
  have g19 := vat_some h18
  refine Lst.run rfl rfl (by decide) (Ev.indexAddr (off' := 0 + x12.Proc.toNat * 1) rfl rfl Try.runUnderlying23 Try.sizeOf3 g19.1 g19.2.1 rfl) ?_
  refine Lst.run rfl rfl (by decide) (Ev.load (i := 1) rfl rfl Try.isAgg3 (v := .int .i64 x17) ((Get.vecN (s := 1) (x := x17) rfl g19.2.2 (Get.here _)).off (by omega))) ?_
  refine Lst.run rfl rfl (by decide) (Ev.add rfl rfl) ?_
  obtain ⟨x20, h21, H⟩ := bind_some H
  have g22 := vat_some h21
  refine Lst.run rfl rfl (by decide) (Ev.indexAddr (off' := 0 + x12.Proc.toNat * 1) rfl rfl Try.runUnderlying23 Try.sizeOf3 g22.1 g22.2.1 rfl) ?_
  obtain ⟨p23, h24, H⟩ := Let_some H
  refine Lst.store (i := 1) rfl rfl rfl rfl rfl Try.sizeOf3 (vs := [.int .i64 (w64 (x17 + (1 : Int)))]) rfl rfl rfl (cs' := enc p23) (by rw [← h24]; exact (Put.vecN (s := 1) (x := x20) rfl g22.2.2 (Put.here (vs := [.int .i64 (w64 (x17 + (1 : Int)))]) rfl)).off (by omega)) (L' := (.blk b15 (enc x12) 75) :: (.blk b6 (enc p23) 23) :: L) rfl ?_
  refine Lst.nil ?_
  refine At.in_normal ?_
  refine At.then ?_
  refine Cd.region ?_
  refine Lst.run rfl rfl (by decide) (Ev.incr (by omega) rfl rfl) ?_
  refine Lst.run rfl rfl (by decide) (Ev.move rfl) ?_
  refine Lst.nil ?_
  refine At.less (L' := (.blk b6 (enc p23) 23) :: L) (List.Sublist.cons _ (List.Sublist.cons_cons _ (List.Sublist.refl _))) ?_
  exact At.meet (i8 + 1, k8, p23) hF11 ⟨rfl, rfl, rfl, rfl, rfl, trivial⟩ rfl ⟨⟨hgo8 _ (some_inj H).symm, by omega⟩, Nat.lt_succ_self _⟩
set_option maxRecDepth 20000 in
theorem pred_holds_sim {a0 : List (List Bool)} {a1 : Vector Int 6} {s_a0 : Sl} {rs_a0 : List (LR Bool)} {r : Bool} (H : pred_holds a0 a1 = some r) (w0 : World) (F : Frz) (M L : List Item) (hM : M.Sublist L) (hm_a0 : rs_a0.map LR.v = a0) (hs_a0 : Rd w0 F M s_a0 rs_a0) (ha_a0 : All LR.rel w0 F M rs_a0) : Ok Try.prog w0 63 [Sl.v s_a0, .agg (enc a1).toArray] F (L) (Is (.bool r) (L)) := by
  unfold pred_holds at H
  refine Ok.enter (m := 2) (n := 21) Try.func63 rfl rfl rfl (by decide) ?_
  refine Cd.env (e' := [(0, Sl.v s_a0), (1, .agg (enc a1).toArray)]) rfl ?_
  refine Cd.seq ?_
  refine Cd.region ?_
  refine Lst.box rfl rfl (by decide) rfl (cs := enc a1) rfl (fun b1 => ?_)
  refine Lst.run rfl rfl (by decide) (Ev.assign rfl) ?_
  refine Lst.nil ?_
  refine At.then ?_
  refine Cd.seq ?_
  refine Cd.seq ?_
  refine Cd.region ?_
  refine Lst.run rfl rfl (by decide) (Ev.loadA (i := 0) rfl rfl Try.isAgg23 Try.sizeOf23 (ch := enc a1) (Enc.len _) (Get.here _)) ?_
  refine Lst.run rfl rfl (by decide) (Ev.move rfl) ?_
  refine Lst.nil ?_
  refine At.then ?_
  refine Cd.block ?_
  obtain ⟨ol3, H, HKl3⟩ := andThen_some H
  refine Cd.loop (σ := Nat × Nat × Unit) (fun (i3, k3, _u) => [(0, Sl.v s_a0), (7, .agg (enc a1).toArray), (8, .int .i64 (i3 : Int))]) (fun (i3, k3, _u) => (.blk b1 (enc a1) 23) :: L) (fun _ => (fun (i3, k3, _u) => rangeM (pred_holds_B0 a0 a1) k3 i3 () = some ol3 ∧ i3 + k3 = 6)) (fun (i3, k3, _u) => k3) (0, 6, ()) ⟨rfl, rfl, rfl, trivial⟩ rfl ⟨H, by omega⟩ ?_
  rintro F4 ⟨i3, k3, _u⟩ hF5 ⟨H, hik3⟩
  refine Cd.as (e' := [(0, Sl.v s_a0), (7, .agg (enc a1).toArray), (8, .int .i64 (i3 : Int))]) (L' := (.blk b1 (enc a1) 23) :: L) ⟨rfl, rfl, rfl, trivial⟩ rfl ?_
  rcases k3 with _ | k3
  · have hc3 : decide ((i3 : Int) < (6 : Int)) = false := decide_eq_false (by omega)
    replace H := rangeM_end H
    refine Cd.seq ?_
    refine Cd.region ?_
    refine Lst.run rfl rfl (by decide) (Ev.lss rfl rfl) ?_
    refine Lst.nil ?_
    refine At.then ?_
    refine Cd.seq ?_
    refine Cd.condF rfl hc3 ?_
    refine Cd.exit ?_
    refine At.then_exit ?_
    refine At.then_exit ?_
    refine At.in_exit ?_
    subst H
    replace H := HKl3
    refine At.then ?_
    refine Cd.seq ?_
    refine Cd.region ?_
    refine Lst.run rfl rfl (by decide) (Ev.assign rfl) ?_
    refine Lst.nil ?_
    refine At.then ?_
    obtain rfl := some_inj H
    refine Cd.ret ?_
    exact At.ret1 rfl (Res.tmp rfl) hF5 (List.Sublist.cons _ (List.Sublist.refl _)) ⟨rfl, rfl⟩
  have hc3 : decide ((i3 : Int) < (6 : Int)) = true := decide_eq_true (by omega)
  obtain ⟨c3, H, hgo3, hbrk3, hret3⟩ := rangeM_go H
  unfold pred_holds_B0 at H
  try dsimp only at H
  refine Cd.seq ?_
  refine Cd.region ?_
  refine Lst.run rfl rfl (by decide) (Ev.lss rfl rfl) ?_
  refine Lst.nil ?_
  refine At.then ?_
  refine Cd.seq ?_
  refine Cd.condT rfl hc3 ?_
  refine Cd.skip ?_
  refine At.then ?_
  refine Cd.seq ?_
  refine Cd.block ?_
  refine Cd.seq ?_
  refine Cd.region ?_
  refine Lst.run rfl rfl (by decide) (Ev.move rfl) ?_
  obtain ⟨x6, h7, H⟩ := bind_some H
  have g8 := vat_some h7
  refine Lst.run rfl rfl (by decide) (Ev.index1 rfl rfl Try.runUnderlying23 Try.isAgg3 Try.sizeOf3 g8.1 g8.2.1 rfl ((Get.vecN (s := 1) rfl g8.2.2 (Get.here _)).off (by omega))) ?_
  refine Lst.run rfl rfl (by decide) (Ev.assign rfl) ?_
  refine Lst.run rfl rfl (by decide) (Ev.assign rfl) ?_
  refine Lst.nil ?_
  refine At.then ?_
  refine Cd.seq ?_
  refine Cd.region ?_
  refine Lst.run rfl rfl (by decide) (Ev.move rfl) ?_
  refine Lst.run rfl rfl (by decide) (Ev.move rfl) ?_
  obtain ⟨x9, h10, H⟩ := bind_some H
  have g11 := lat_some h10
  obtain ⟨⟨r12v, r12h⟩, r12g, r12e, r12m⟩ := map_get hm_a0 g11.2.2
  obtain rfl : x9 = r12v := r12e.symm
  have r12q : Rd w0 _ _ r12h x9 := ha_a0 _ r12m
  refine Lst.run rfl rfl (by decide) (Ev.indexS (α := LR Bool) (xs := rs_a0) rfl rfl Try.runUnderlying42 Try.sizeOf44 rfl (by decide) (hs_a0.mono hF5 (List.Sublist.cons _ hM)) g11.1 (by have := map_len hm_a0; omega)) ?_
  refine Lst.run rfl rfl (by decide) (Ev.loadS (α := LR Bool) rfl (hs_a0.mono hF5 (List.Sublist.cons _ hM)) Try.isAgg44 (v := Sl.v r12h) ((Get.elemN (s := 1) rfl r12g (Get.here _)).off (by omega))) ?_
  refine Lst.run rfl rfl (by decide) (Ev.move rfl) ?_
  obtain ⟨x13, h14, H⟩ := bind_some H
  have g15 := lat_some h14
  refine Lst.run rfl rfl (by decide) (Ev.indexS (α := Bool) (xs := x9) rfl rfl Try.runUnderlying44 Try.sizeOf4 rfl (by decide) (r12q.mono hF5 (List.Sublist.cons _ hM)) g15.1 g15.2.1) ?_
  refine Lst.run rfl rfl (by decide) (Ev.loadS (α := Bool) rfl (r12q.mono hF5 (List.Sublist.cons _ hM)) Try.isAgg4 (v := .bool x13) ((Get.elemN (s := 1) (x := x13) rfl g15.2.2 (Get.here _)).off (by omega))) ?_
  refine Lst.run rfl rfl (by decide) (Ev.not rfl) ?_
  refine Lst.nil ?_
  refine At.then ?_
  rcases Bool.eq_false_or_eq_true (!x13) with hb16 | hb16
  · replace H := ite_t hb16 H
    refine Cd.condT rfl hb16 ?_
    refine Cd.seq ?_
    refine Cd.as (e' := []) (L' := (.blk b1 (enc a1) 23) :: L) trivial rfl ?_
    refine Cd.region ?_
    refine Lst.run rfl rfl (by decide) (Ev.assign rfl) ?_
    refine Lst.nil ?_
    refine At.then ?_
    have H := hret3 _ (some_inj H).symm
    subst H
    replace H := HKl3
    obtain rfl := some_inj H
    refine Cd.ret ?_
    refine At.in_ret ?_
    refine At.then_ret ?_
    refine At.then_ret ?_
    refine At.in_ret ?_
    refine At.then_ret ?_
    exact At.ret1 rfl (Res.tmp rfl) hF5 (List.Sublist.cons _ (List.Sublist.refl _)) ⟨rfl, rfl⟩
  replace H := ite_f hb16 H
  refine Cd.condF rfl hb16 ?_
  refine Cd.skip ?_
  refine At.in_normal ?_
  refine At.then ?_
  refine Cd.region ?_
  refine Lst.run rfl rfl (by decide) (Ev.incr (by omega) rfl rfl) ?_
  refine Lst.run rfl rfl (by decide) (Ev.move rfl) ?_
  refine Lst.nil ?_
  exact At.meet (i3 + 1, k3, ()) hF5 ⟨rfl, rfl, rfl, trivial⟩ rfl ⟨⟨hgo3 _ (some_inj H).symm, by omega⟩, Nat.lt_succ_self _⟩
set_option maxRecDepth 20000 in
theorem vect_Max_sim {a0 : Vector Int 6} {a1 : Vector Int 6} {r : (Vector Int 6)} (H : vect_Max a0 a1 = some r) (w0 : World) (F : Frz) (M L : List Item) (hM : M.Sublist L) : Ok Try.prog w0 10 [.agg (enc a0).toArray, .agg (enc a1).toArray] F (L) (Is (.agg (enc r).toArray) (L)) := by
  unfold vect_Max at H
  refine Ok.enter (m := 2) (n := 20) Try.func10 rfl rfl rfl (by decide) ?_
  refine Cd.env (e' := [(0, .agg (enc a0).toArray), (1, .agg (enc a1).toArray)]) rfl ?_
  refine Cd.seq ?_
  refine Cd.region ?_
  refine Lst.box rfl rfl (by decide) rfl (cs := enc a0) rfl (fun b1 => ?_)
  refine Lst.box rfl rfl (by decide) rfl (cs := enc a1) rfl (fun b3 => ?_)
  refine Lst.alloc (cs := enc (Vector.replicate 6 (0 : Int))) rfl rfl (by decide) Try.zeroValue23 rfl (fun b5 => ?_)
  refine Lst.nil ?_
  refine At.then ?_
  refine Cd.seq ?_
  refine Cd.seq ?_
  refine Cd.region ?_
  refine Lst.run rfl rfl (by decide) (Ev.move rfl) ?_
  refine Lst.nil ?_
  refine At.then ?_
  refine Cd.block ?_
  obtain ⟨ol7, H, HKl7⟩ := bind_some H
  refine Cd.loop (σ := Nat × Nat × (Vector Int 6)) (fun (i7, k7, y8) => [(2, .pointer (some ⟨b1, 0, none⟩)), (3, .pointer (some ⟨b3, 0, none⟩)), (4, .pointer (some ⟨b5, 0, none⟩)), (6, .int .i64 (i7 : Int))]) (fun (i7, k7, y8) => (.blk b5 (enc (Vector.replicate 6 (0 : Int))) 23) :: (.blk b3 (enc a1) 23) :: (.blk b1 (enc y8) 23) :: L) (fun _ => (fun (i7, k7, y8) => rangeF (vect_Max_B0 a1) k7 i7 y8 = some ol7 ∧ i7 + k7 = 6)) (fun (i7, k7, y8) => k7) (0, 6, a0) ⟨rfl, rfl, rfl, rfl, trivial⟩ rfl ⟨H, by omega⟩ ?_
  rintro F9 ⟨i7, k7, y8⟩ hF10 ⟨H, hik7⟩
  refine Cd.as (e' := [(2, .pointer (some ⟨b1, 0, none⟩)), (3, .pointer (some ⟨b3, 0, none⟩)), (4, .pointer (some ⟨b5, 0, none⟩)), (6, .int .i64 (i7 : Int))]) (L' := (.blk b5 (enc (Vector.replicate 6 (0 : Int))) 23) :: (.blk b3 (enc a1) 23) :: (.blk b1 (enc y8) 23) :: L) ⟨rfl, rfl, rfl, rfl, trivial⟩ rfl ?_
  rcases k7 with _ | k7
  · have hc7 : decide ((i7 : Int) < (6 : Int)) = false := decide_eq_false (by omega)
    replace H := rangeF_end H
    refine Cd.seq ?_
    refine Cd.region ?_
    refine Lst.run rfl rfl (by decide) (Ev.lss rfl rfl) ?_
    refine Lst.nil ?_
    refine At.then ?_
    refine Cd.seq ?_
    refine Cd.condF rfl hc7 ?_
    refine Cd.exit ?_
    refine At.then_exit ?_
    refine At.then_exit ?_
    refine At.in_exit ?_
    subst H
    replace H := HKl7
    refine At.then ?_
    refine Cd.seq ?_
    refine Cd.region ?_
    refine Lst.run rfl rfl (by decide) (Ev.loadA (i := 2) rfl rfl Try.isAgg23 Try.sizeOf23 (ch := enc y8) (Enc.len _) (Get.here _)) ?_
    refine Lst.store (i := 0) rfl rfl rfl rfl rfl Try.sizeOf23 (vs := enc y8) rfl (Enc.len _) (Enc.one _) (cs' := enc y8) (Put.here ((Enc.len _).trans (Enc.len _).symm)) (L' := (.blk b5 (enc y8) 23) :: (.blk b3 (enc a1) 23) :: (.blk b1 (enc y8) 23) :: L) rfl ?_
    refine Lst.nil ?_
    refine At.then ?_
    obtain rfl := some_inj H
    refine Cd.ret ?_
    exact At.ret1 rfl (Res.cellA (i := 0) rfl rfl Try.isAgg23 Try.sizeOf23 (Enc.len _)) hF10 (List.Sublist.cons _ (List.Sublist.cons _ (List.Sublist.cons _ (List.Sublist.refl _)))) ⟨rfl, rfl⟩
  have hc7 : decide ((i7 : Int) < (6 : Int)) = true := decide_eq_true (by omega)
  obtain ⟨c7, H, hgo7⟩ := rangeF_go H
  unfold vect_Max_B0 at H
  try dsimp only at H
  refine Cd.seq ?_
  refine Cd.region ?_
  refine Lst.run rfl rfl (by decide) (Ev.lss rfl rfl) ?_
  refine Lst.nil ?_
  refine At.then ?_
  refine Cd.seq ?_
  refine Cd.condT rfl hc7 ?_
  refine Cd.skip ?_
  refine At.then ?_
  refine Cd.seq ?_
  refine Cd.block ?_
  refine Cd.seq ?_
  refine Cd.region ?_
  refine Lst.run rfl rfl (by decide) (Ev.move rfl) ?_
  refine Lst.run rfl rfl (by decide) (Ev.assign rfl) ?_
  refine Lst.nil ?_
  refine At.then ?_
  refine Cd.tail 9 (by kernel_rfl) (by kernel_rfl) ?_
  refine Qt.run rfl rfl (by decide) (Ev.move rfl) ?_
  refine Qt.run rfl rfl (by decide) (Ev.move rfl) ?_
  obtain ⟨x11, h12, H⟩ := bind_some H
  have g13 := vat_some h12
  refine Qt.run rfl rfl (by decide) (Ev.indexAddr (off' := 0 + (i7 : Int).toNat * 1) rfl rfl Try.runUnderlying23 Try.sizeOf3 g13.1 g13.2.1 rfl) ?_
  refine Qt.run rfl rfl (by decide) (Ev.load (i := 2) rfl rfl Try.isAgg3 (v := .int .i64 x11) ((Get.vecN (s := 1) (x := x11) rfl g13.2.2 (Get.here _)).off (by omega))) ?_
  refine Qt.run rfl rfl (by decide) (Ev.move rfl) ?_
  obtain ⟨x14, h15, H⟩ := bind_some H
  have g16 := vat_some h15
  refine Qt.run rfl rfl (by decide) (Ev.indexAddr (off' := 0 + (i7 : Int).toNat * 1) rfl rfl Try.runUnderlying23 Try.sizeOf3 g16.1 g16.2.1 rfl) ?_
  refine Qt.run rfl rfl (by decide) (Ev.load (i := 1) rfl rfl Try.isAgg3 (v := .int .i64 x14) ((Get.vecN (s := 1) (x := x14) rfl g16.2.2 (Get.here _)).off (by omega))) ?_
  refine Qt.run rfl rfl (by decide) (Ev.max2 rfl rfl) ?_
  obtain ⟨x17, h18, H⟩ := bind_some H
  have g19 := vat_some h18
  refine Qt.run rfl rfl (by decide) (Ev.indexAddr (off' := 0 + (i7 : Int).toNat * 1) rfl rfl Try.runUnderlying23 Try.sizeOf3 g19.1 g19.2.1 rfl) ?_
  refine Qt.tail ?_
  obtain ⟨p20, h21, H⟩ := Let_some H
  refine Lst.store (i := 2) rfl rfl rfl rfl rfl Try.sizeOf3 (vs := [.int .i64 (max x11 x14)]) rfl rfl rfl (cs' := enc p20) (by rw [← h21]; exact (Put.vecN (s := 1) (x := x17) rfl g19.2.2 (Put.here (vs := [.int .i64 (max x11 x14)]) rfl)).off (by omega)) (L' := (.blk b5 (enc (Vector.replicate 6 (0 : Int))) 23) :: (.blk b3 (enc a1) 23) :: (.blk b1 (enc p20) 23) :: L) rfl ?_
  refine Lst.nil ?_
  refine At.in_normal ?_
  refine At.then ?_
  refine Cd.region ?_
  refine Lst.run rfl rfl (by decide) (Ev.incr (by omega) rfl rfl) ?_
  refine Lst.run rfl rfl (by decide) (Ev.move rfl) ?_
  refine Lst.nil ?_
  exact At.meet (i7 + 1, k7, p20) hF10 ⟨rfl, rfl, rfl, rfl, trivial⟩ rfl ⟨⟨hgo7 _ (some_inj H).symm, by omega⟩, Nat.lt_succ_self _⟩
set_option maxRecDepth 20000 in
theorem vect_Within_sim {a0 : Vector Int 6} {a1 : Vector Int 6} {r : Bool} (H : vect_Within a0 a1 = some r) (w0 : World) (F : Frz) (M L : List Item) (hM : M.Sublist L) : Ok Try.prog w0 14 [.agg (enc a0).toArray, .agg (enc a1).toArray] F (L) (Is (.bool r) (L)) := by
  unfold vect_Within at H
  refine Ok.enter (m := 2) (n := 10) Try.func14 rfl rfl rfl (by decide) ?_
  refine Cd.env (e' := [(0, .agg (enc a0).toArray), (1, .agg (enc a1).toArray)]) rfl ?_
  refine Cd.seq ?_
  refine Cd.region ?_
  refine Lst.box rfl rfl (by decide) rfl (cs := enc a0) rfl (fun b1 => ?_)
  refine Lst.box rfl rfl (by decide) rfl (cs := enc a1) rfl (fun b3 => ?_)
  refine Lst.run rfl rfl (by decide) (Ev.assign rfl) ?_
  refine Lst.nil ?_
  refine At.then ?_
  refine Cd.seq ?_
  refine Cd.quiet (by kernel_rfl) (by kernel_rfl) ?_
  refine Qt.run rfl rfl (by decide) (Ev.loadA (i := 1) rfl rfl Try.isAgg23 Try.sizeOf23 (ch := enc a0) (Enc.len _) (Get.here _)) ?_
  refine Qt.run rfl rfl (by decide) (Ev.loadA (i := 0) rfl rfl Try.isAgg23 Try.sizeOf23 (ch := enc a1) (Enc.len _) (Get.here _)) ?_
  obtain ⟨r5, h6, H⟩ := bind_some H
  refine Qt.call rfl rfl (by decide) (vs := [.agg (enc a0).toArray, .agg (enc a1).toArray]) ⟨rfl, rfl, trivial⟩ Try.call10 (vect_Max_sim h6 w0 _ M _ (List.Sublist.cons _ (List.Sublist.cons _ hM))) ?_
  refine Qt.run rfl rfl (by decide) (Ev.loadA (i := 0) rfl rfl Try.isAgg23 Try.sizeOf23 (ch := enc a1) (Enc.len _) (Get.here _)) ?_
  refine Qt.run rfl rfl (by decide) (Ev.eqlA rfl rfl (by kernel_rfl) (eq23 _ _)) ?_
  refine Qt.run rfl rfl (by decide) (Ev.assign rfl) ?_
  refine Qt.done ?_
  refine At.then ?_
  obtain rfl := some_inj H
  refine Cd.ret ?_
  exact At.ret1 rfl (Res.tmp rfl) (FLe.refl _) (List.Sublist.cons _ (List.Sublist.cons _ (List.Sublist.refl _))) ⟨rfl, rfl⟩
set_option maxRecDepth 20000 in
theorem cut_counts_sim {a0 : List Event} {s_a0 : Sl} {r : (Vector Int 6)} (H : cut_counts a0 = some r) (w0 : World) (F : Frz) (M L : List Item) (hM : M.Sublist L) (hs_a0 : Rd w0 F M s_a0 a0) : Ok Try.prog w0 57 [Sl.v s_a0] F (L) (Is (.agg (enc r).toArray) (L)) := by
  unfold cut_counts at H
  refine Ok.enter (m := 1) (n := 20) Try.func57 rfl rfl rfl (by decide) ?_
  refine Cd.env (e' := [(0, Sl.v s_a0)]) rfl ?_
  refine Cd.seq ?_
  refine Cd.region ?_
  refine Lst.alloc (cs := enc (Vector.replicate 6 (0 : Int))) rfl rfl (by decide) Try.zeroValue23 rfl (fun b1 => ?_)
  refine Lst.nil ?_
  refine At.then ?_
  refine Cd.seq ?_
  refine Cd.region ?_
  refine Lst.alloc (cs := enc (Vector.replicate 6 (0 : Int))) rfl rfl (by decide) Try.zeroValue23 rfl (fun b3 => ?_)
  refine Lst.nil ?_
  refine At.then ?_
  refine Cd.seq ?_
  refine Cd.seq ?_
  refine Cd.region ?_
  refine Lst.run rfl rfl (by decide) (Ev.move rfl) ?_
  refine Lst.run rfl rfl (by decide) (Ev.lenS (α := Event) (xs := a0) (by decide) rfl rfl Try.runUnderlying24 (hs_a0.mono (FLe.refl _) (List.Sublist.cons _ (List.Sublist.cons _ hM)))) ?_
  refine Lst.run rfl rfl (by decide) (Ev.move rfl) ?_
  refine Lst.nil ?_
  refine At.then ?_
  refine Cd.block ?_
  refine Cd.bound (Rd.le (α := Event) (xs := a0) (by decide) (hs_a0.mono (FLe.refl _) (List.Sublist.cons _ (List.Sublist.cons _ hM)))) (fun hN22 => ?_)
  obtain ⟨ol5, H, HKl5⟩ := bind_some H
  refine Cd.loop (σ := Nat × Nat × (Vector Int 6)) (fun (i5, k5, y6) => [(2, .pointer (some ⟨b1, 0, none⟩)), (3, .pointer (some ⟨b3, 0, none⟩)), (6, Sl.v s_a0), (7, .int .i64 (a0.length : Int)), (8, .int .i64 (i5 : Int))]) (fun (i5, k5, y6) => (.blk b3 (enc y6) 23) :: (.blk b1 (enc (Vector.replicate 6 (0 : Int))) 23) :: L) (fun _ => (fun (i5, k5, y6) => rangeF (cut_counts_B0 a0) k5 i5 y6 = some ol5 ∧ i5 + k5 = a0.length)) (fun (i5, k5, y6) => k5) (0, a0.length, (Vector.replicate 6 (0 : Int))) ⟨rfl, rfl, rfl, rfl, rfl, trivial⟩ rfl ⟨H, by omega⟩ ?_
  rintro F7 ⟨i5, k5, y6⟩ hF8 ⟨H, hik5⟩
  refine Cd.as (e' := [(2, .pointer (some ⟨b1, 0, none⟩)), (3, .pointer (some ⟨b3, 0, none⟩)), (6, Sl.v s_a0), (7, .int .i64 (a0.length : Int)), (8, .int .i64 (i5 : Int))]) (L' := (.blk b3 (enc y6) 23) :: (.blk b1 (enc (Vector.replicate 6 (0 : Int))) 23) :: L) ⟨rfl, rfl, rfl, rfl, rfl, trivial⟩ rfl ?_
  rcases k5 with _ | k5
  · have hc5 : decide ((i5 : Int) < (a0.length : Int)) = false := decide_eq_false (by omega)
    replace H := rangeF_end H
    refine Cd.seq ?_
    refine Cd.region ?_
    refine Lst.run rfl rfl (by decide) (Ev.lss rfl rfl) ?_
    refine Lst.nil ?_
    refine At.then ?_
    refine Cd.seq ?_
    refine Cd.condF rfl hc5 ?_
    refine Cd.exit ?_
    refine At.then_exit ?_
    refine At.then_exit ?_
    refine At.in_exit ?_
    subst H
    replace H := HKl5
    refine At.then ?_
    refine Cd.seq ?_
    refine Cd.region ?_
    refine Lst.run rfl rfl (by decide) (Ev.loadA (i := 0) rfl rfl Try.isAgg23 Try.sizeOf23 (ch := enc y6) (Enc.len _) (Get.here _)) ?_
    refine Lst.store (i := 1) rfl rfl rfl rfl rfl Try.sizeOf23 (vs := enc y6) rfl (Enc.len _) (Enc.one _) (cs' := enc y6) (Put.here ((Enc.len _).trans (Enc.len _).symm)) (L' := (.blk b3 (enc y6) 23) :: (.blk b1 (enc y6) 23) :: L) rfl ?_
    refine Lst.nil ?_
    refine At.then ?_
    obtain rfl := some_inj H
    refine Cd.ret ?_
    exact At.ret1 rfl (Res.cellA (i := 1) rfl rfl Try.isAgg23 Try.sizeOf23 (Enc.len _)) hF8 (List.Sublist.cons _ (List.Sublist.cons _ (List.Sublist.refl _))) ⟨rfl, rfl⟩
  have hc5 : decide ((i5 : Int) < (a0.length : Int)) = true := decide_eq_true (by omega)
  obtain ⟨c5, H, hgo5⟩ := rangeF_go H
  unfold cut_counts_B0 at H
  try dsimp only at H
  refine Cd.seq ?_
  refine Cd.region ?_
  refine Lst.run rfl rfl (by decide) (Ev.lss rfl rfl) ?_
  refine Lst.nil ?_
  refine At.then ?_
  refine Cd.seq ?_
  refine Cd.condT rfl hc5 ?_
  refine Cd.skip ?_
  refine At.then ?_
  refine Cd.seq ?_
  refine Cd.block ?_
  refine Cd.seq ?_
  refine Cd.region ?_
  obtain ⟨x9, h10, H⟩ := bind_some H
  have g11 := lat_some h10
  refine Lst.run rfl rfl (by decide) (Ev.indexS (α := Event) (xs := a0) rfl rfl Try.runUnderlying24 Try.sizeOf75 rfl (by decide) (hs_a0.mono hF8 (List.Sublist.cons _ (List.Sublist.cons _ hM))) g11.1 g11.2.1) ?_
  refine Lst.run rfl rfl (by decide) (Ev.loadSA (α := Event) rfl (hs_a0.mono hF8 (List.Sublist.cons _ (List.Sublist.cons _ hM))) Try.isAgg75 Try.sizeOf75 (ch := enc x9) (Enc.len _) (by decide) ((Get.elemN (s := 3) (x := x9) rfl g11.2.2 (Get.here _)).off (by omega))) ?_
  refine Lst.alloc (cs := enc Event.zero) rfl rfl (by decide) Try.zeroValue75 rfl (fun b12 => ?_)
  refine Lst.store (i := 0) rfl rfl rfl rfl rfl Try.sizeOf75 (vs := enc x9) rfl (Enc.len _) (Enc.one _) (cs' := enc x9) (Put.here ((Enc.len _).trans (Enc.len _).symm)) (L' := (.blk b12 (enc x9) 75) :: (.blk b3 (enc y6) 23) :: (.blk b1 (enc (Vector.replicate 6 (0 : Int))) 23) :: L) rfl ?_
  refine Lst.nil ?_
  refine At.then ?_
  refine Cd.region ?_
  refine Lst.run rfl rfl (by decide) (Ev.fieldAddr (off' := 0) rfl Try.runUnderlying75 rfl Try.sizeOf3 rfl rfl) ?_
  refine Lst.run rfl rfl (by decide) (Ev.load (i := 0) rfl rfl Try.isAgg3 (v := .int .i64 x9.Proc) ((Event.get_Proc (Get.here _)).off (by rfl))) ?_
  obtain ⟨x14, h15, H⟩ := bind_some H
  have g16 := vat_some h15
  refine Lst.run rfl rfl (by decide) (Ev.indexAddr (off' := 0 + x9.Proc.toNat * 1) rfl rfl Try.runUnderlying23 Try.sizeOf3 g16.1 g16.2.1 rfl) ?_
  refine Lst.run rfl rfl (by decide) (Ev.load (i := 1) rfl rfl Try.isAgg3 (v := .int .i64 x14) ((Get.vecN (s := 1) (x := x14) rfl g16.2.2 (Get.here _)).off (by omega))) ?_
  refine Lst.run rfl rfl (by decide) (Ev.add rfl rfl) ?_
  obtain ⟨x17, h18, H⟩ := bind_some H
  have g19 := vat_some h18
  refine Lst.run rfl rfl (by decide) (Ev.indexAddr (off' := 0 + x9.Proc.toNat * 1) rfl rfl Try.runUnderlying23 Try.sizeOf3 g19.1 g19.2.1 rfl) ?_
  obtain ⟨p20, h21, H⟩ := Let_some H
  refine Lst.store (i := 1) rfl rfl rfl rfl rfl Try.sizeOf3 (vs := [.int .i64 (w64 (x14 + (1 : Int)))]) rfl rfl rfl (cs' := enc p20) (by rw [← h21]; exact (Put.vecN (s := 1) (x := x17) rfl g19.2.2 (Put.here (vs := [.int .i64 (w64 (x14 + (1 : Int)))]) rfl)).off (by omega)) (L' := (.blk b12 (enc x9) 75) :: (.blk b3 (enc p20) 23) :: (.blk b1 (enc (Vector.replicate 6 (0 : Int))) 23) :: L) rfl ?_
  refine Lst.nil ?_
  refine At.in_normal ?_
  refine At.then ?_
  refine Cd.region ?_
  refine Lst.run rfl rfl (by decide) (Ev.incr (by omega) rfl rfl) ?_
  refine Lst.run rfl rfl (by decide) (Ev.move rfl) ?_
  refine Lst.nil ?_
  refine At.less (L' := (.blk b3 (enc p20) 23) :: (.blk b1 (enc (Vector.replicate 6 (0 : Int))) 23) :: L) (List.Sublist.cons _ (List.Sublist.cons_cons _ (List.Sublist.cons_cons _ (List.Sublist.refl _)))) ?_
  exact At.meet (i5 + 1, k5, p20) hF8 ⟨rfl, rfl, rfl, rfl, rfl, trivial⟩ rfl ⟨⟨hgo5 _ (some_inj H).symm, by omega⟩, Nat.lt_succ_self _⟩
set_option maxRecDepth 20000 in
theorem cut_Check_sim {a0 : List Event} {a1 : Vector Int 6} {s_a0 : Sl} {r : Int} (H : cut_Check a0 a1 = some r) (w0 : World) (F : Frz) (M L : List Item) (hM : M.Sublist L) (hs_a0 : Rd w0 F M s_a0 a0) : Ok Try.prog w0 32 [Sl.v s_a0, .agg (enc a1).toArray] F (L) (Is (.int .i64 r) (L)) := by
  unfold cut_Check at H
  refine Ok.enter (m := 2) (n := 22) Try.func32 rfl rfl rfl (by decide) ?_
  refine Cd.env (e' := [(0, Sl.v s_a0), (1, .agg (enc a1).toArray)]) rfl ?_
  refine Cd.seq ?_
  refine Cd.region ?_
  refine Lst.box rfl rfl (by decide) rfl (cs := enc a1) rfl (fun b1 => ?_)
  refine Lst.run rfl rfl (by decide) (Ev.assign rfl) ?_
  refine Lst.nil ?_
  refine At.then ?_
  refine Cd.seq ?_
  refine Cd.seq ?_
  refine Cd.region ?_
  refine Lst.run rfl rfl (by decide) (Ev.move rfl) ?_
  obtain ⟨r3, h4, H⟩ := bind_some H
  refine Lst.call1 rfl rfl (by decide) (vs := [Sl.v s_a0]) ⟨rfl, trivial⟩ Try.call22 (stamp_Check_sim h4 w0 _ M _ (List.Sublist.cons _ hM) (hs_a0.mono (FLe.refl _) (List.Sublist.refl _))) ?_
  refine Lst.run rfl rfl (by decide) (Ev.assign rfl) ?_
  refine Lst.nil ?_
  refine At.then ?_
  refine Cd.seq ?_
  refine Cd.region ?_
  refine Lst.run rfl rfl (by decide) (Ev.move rfl) ?_
  refine Lst.run rfl rfl (by decide) (Ev.neq rfl rfl) ?_
  refine Lst.nil ?_
  refine At.then ?_
  rcases Bool.eq_false_or_eq_true (r3 != (0 : Int)) with hb7 | hb7
  · replace H := ite_t hb7 H
    refine Cd.condT rfl hb7 ?_
    refine Cd.seq ?_
    refine Cd.region ?_
    refine Lst.run rfl rfl (by decide) (Ev.move rfl) ?_
    refine Lst.run rfl rfl (by decide) (Ev.assign rfl) ?_
    refine Lst.nil ?_
    refine At.then ?_
    obtain rfl := some_inj H
    refine Cd.ret ?_
    refine At.then_ret ?_
    exact At.ret1 rfl (Res.tmp rfl) (FLe.refl _) (List.Sublist.cons _ (List.Sublist.refl _)) ⟨rfl, rfl⟩
  replace H := ite_f hb7 H
  refine Cd.condF rfl hb7 ?_
  refine Cd.skip ?_
  refine At.then ?_
  refine Cd.seq ?_
  refine Cd.seq ?_
  refine Cd.quiet (by kernel_rfl) (by kernel_rfl) ?_
  refine Qt.run rfl rfl (by decide) (Ev.build (v := .agg (enc ((Vector.replicate 6 (0 : Int)) : Vector Int 6)).toArray) (pv := []) trivial (fun w => by kernel_rfl)) ?_
  refine Qt.run rfl rfl (by decide) (Ev.loadA (i := 0) rfl rfl Try.isAgg23 Try.sizeOf23 (ch := enc a1) (Enc.len _) (Get.here _)) ?_
  obtain ⟨r8, h9, H⟩ := bind_some H
  refine Qt.call rfl rfl (by decide) (vs := [.agg (enc ((Vector.replicate 6 (0 : Int)) : Vector Int 6)).toArray, .agg (enc a1).toArray]) ⟨rfl, rfl, trivial⟩ Try.call14 (vect_Within_sim h9 w0 _ M _ (List.Sublist.cons _ hM)) ?_
  refine Qt.run rfl rfl (by decide) (Ev.not rfl) ?_
  refine Qt.run rfl rfl (by decide) (Ev.move rfl) ?_
  obtain ⟨o12, H, HKo12⟩ := bind_some H
  refine Qt.join (σ := Bool) 6 (fun y13 => [(21, .bool y13)]) (fun y13 => y13 = o12) ?_ ?_
  · rcases Bool.eq_false_or_eq_true (!r8) with hb14 | hb14
    · replace H := ite_t hb14 H
      refine Qt.skip rfl rfl rfl hb14 rfl (by decide) ?_
      refine Qt.skip rfl rfl rfl hb14 rfl (by decide) ?_
      refine Qt.skip rfl rfl rfl hb14 rfl (by decide) ?_
      refine Qt.skip rfl rfl rfl hb14 rfl (by decide) ?_
      refine Qt.skip rfl rfl rfl hb14 rfl (by decide) ?_
      refine Qt.run rfl rfl (by decide) (Ev.pickT rfl hb14 rfl) ?_
      exact Qt.meet true ⟨rfl, trivial⟩ (some_inj H)
    replace H := ite_f hb14 H
    refine Qt.runG rfl rfl rfl hb14 rfl (by decide) (Ev.loadA (i := 0) rfl rfl Try.isAgg23 Try.sizeOf23 (ch := enc a1) (Enc.len _) (Get.here _)) ?_
    refine Qt.runG rfl rfl rfl hb14 rfl (by decide) (Ev.move rfl) ?_
    obtain ⟨r15, h16, H⟩ := bind_some H
    refine Qt.callG rfl rfl rfl hb14 rfl (by decide) (vs := [Sl.v s_a0]) ⟨rfl, trivial⟩ Try.call57 (cut_counts_sim h16 w0 _ M _ (List.Sublist.cons _ hM) (hs_a0.mono (FLe.refl _) (List.Sublist.refl _))) ?_
    obtain ⟨r19, h20, H⟩ := bind_some H
    refine Qt.callG rfl rfl rfl hb14 rfl (by decide) (vs := [.agg (enc a1).toArray, .agg (enc r15).toArray]) ⟨rfl, rfl, trivial⟩ Try.call14 (vect_Within_sim h20 w0 _ M _ (List.Sublist.cons _ hM)) ?_
    refine Qt.runG rfl rfl rfl hb14 rfl (by decide) (Ev.not rfl) ?_
    refine Qt.run rfl rfl (by decide) (Ev.pickF rfl hb14 rfl) ?_
    exact Qt.meet (!r19) ⟨rfl, trivial⟩ (some_inj H)
  rintro y13 hy
  subst hy
  refine Qt.as (e' := [(21, .bool y13)]) ⟨rfl, trivial⟩ ?_
  replace H := HKo12
  refine Qt.done ?_
  refine At.then ?_
  rcases Bool.eq_false_or_eq_true y13 with hb23 | hb23
  · replace H := ite_t hb23 H
    refine Cd.condT rfl hb23 ?_
    refine Cd.seq ?_
    refine Cd.region ?_
    refine Lst.run rfl rfl (by decide) (Ev.assign rfl) ?_
    refine Lst.nil ?_
    refine At.then ?_
    obtain rfl := some_inj H
    refine Cd.ret ?_
    refine At.then_ret ?_
    exact At.ret1 rfl (Res.tmp rfl) (FLe.refl _) (List.Sublist.cons _ (List.Sublist.refl _)) ⟨rfl, rfl⟩
  replace H := ite_f hb23 H
  refine Cd.condF rfl hb23 ?_
  refine Cd.skip ?_
  refine At.then ?_
  refine Cd.seq ?_
  refine Cd.region ?_
  refine Lst.run rfl rfl (by decide) (Ev.assign rfl) ?_
  refine Lst.nil ?_
  refine At.then ?_
  obtain rfl := some_inj H
  refine Cd.ret ?_
  exact At.ret1 rfl (Res.tmp rfl) (FLe.refl _) (List.Sublist.cons _ (List.Sublist.refl _)) ⟨rfl, rfl⟩
set_option maxRecDepth 20000 in
theorem vect_Vectors_sim {a0 : List Event} {s_a0 : Sl} {r : (List (Vector Int 6)) × Int} (H : vect_Vectors a0 = some r) (w0 : World) (F : Frz) (M L : List Item) (hM : M.Sublist L) (hs_a0 : Rd w0 F M s_a0 a0) : Ok Try.prog w0 15 [Sl.v s_a0] F (L) (fun _ L' v => ∃ (s1 : Sl), v = .tuple #[Sl.v s1, .int .i64 r.2] ∧ L' = (.own s1 23 6 (encs r.1)) :: L) := by
  unfold vect_Vectors at H
  refine Ok.enter (m := 1) (n := 66) Try.func15 rfl rfl rfl (by decide) ?_
  refine Cd.env (e' := [(0, Sl.v s_a0)]) rfl ?_
  refine Cd.seq ?_
  refine Cd.region ?_
  refine Lst.addNil 23 6 ?_
  refine Lst.run rfl rfl (by decide) (Ev.assign rfl) ?_
  refine Lst.run rfl rfl (by decide) (Ev.assign rfl) ?_
  refine Lst.nil ?_
  refine At.then ?_
  refine Cd.seq ?_
  refine Cd.seq ?_
  refine Cd.region ?_
  refine Lst.run rfl rfl (by decide) (Ev.move rfl) ?_
  obtain ⟨r2, h3, H⟩ := bind_some H
  refine Lst.call1 rfl rfl (by decide) (vs := [Sl.v s_a0]) ⟨rfl, trivial⟩ Try.call22 (stamp_Check_sim h3 w0 _ M _ (List.Sublist.cons _ hM) (hs_a0.mono (FLe.refl _) (List.Sublist.refl _))) ?_
  refine Lst.run rfl rfl (by decide) (Ev.assign rfl) ?_
  refine Lst.nil ?_
  refine At.then ?_
  refine Cd.seq ?_
  refine Cd.region ?_
  refine Lst.run rfl rfl (by decide) (Ev.move rfl) ?_
  refine Lst.run rfl rfl (by decide) (Ev.neq rfl rfl) ?_
  refine Lst.nil ?_
  refine At.then ?_
  rcases Bool.eq_false_or_eq_true (r2 != (0 : Int)) with hb6 | hb6
  · replace H := ite_t hb6 H
    refine Cd.condT rfl hb6 ?_
    refine Cd.seq ?_
    refine Cd.region ?_
    refine Lst.run rfl rfl (by decide) (Ev.move rfl) ?_
    refine Lst.addNil 23 6 ?_
    refine Lst.run rfl rfl (by decide) (Ev.assign rfl) ?_
    refine Lst.run rfl rfl (by decide) (Ev.assign rfl) ?_
    refine Lst.nil ?_
    refine At.then ?_
    obtain rfl := some_inj H
    refine Cd.ret ?_
    refine At.then_ret ?_
    exact At.ret2 rfl (Res.tmp rfl) (Res.tmp rfl) (FLe.refl _) (List.Sublist.cons_cons _ (List.Sublist.cons _ (List.Sublist.refl _))) ⟨Sl.nil, rfl, rfl⟩
  replace H := ite_f hb6 H
  refine Cd.condF rfl hb6 ?_
  refine Cd.skip ?_
  refine At.then ?_
  refine Cd.seq ?_
  refine Cd.region ?_
  refine Lst.addNil 23 6 ?_
  refine Lst.run rfl rfl (by decide) (Ev.assign rfl) ?_
  refine Lst.nil ?_
  refine At.then ?_
  refine Cd.seq ?_
  refine Cd.region ?_
  refine Lst.alloc (cs := enc (Vector.replicate 6 (0 : Int))) rfl rfl (by decide) Try.zeroValue23 rfl (fun b9 => ?_)
  refine Lst.nil ?_
  refine At.then ?_
  refine Cd.seq ?_
  refine Cd.region ?_
  refine Lst.alloc (cs := enc (Vector.replicate 6 (Vector.replicate 6 (0 : Int)))) rfl rfl (by decide) Try.zeroValue72 rfl (fun b11 => ?_)
  refine Lst.nil ?_
  refine At.then ?_
  refine Cd.seq ?_
  refine Cd.region ?_
  refine Lst.alloc (z := .agg (enc (Vector.replicate 30 (Vector.replicate 6 (0 : Int)))).toArray) (cs := enc (Vector.replicate 30 (Vector.replicate 6 (0 : Int)))) rfl rfl (by decide) (fun _ => by kernel_rfl) rfl (fun b13 => ?_)
  refine Lst.nil ?_
  refine At.then ?_
  refine Cd.seq ?_
  refine Cd.seq ?_
  refine Cd.region ?_
  refine Lst.run rfl rfl (by decide) (Ev.move rfl) ?_
  refine Lst.run rfl rfl (by decide) (Ev.lenS (α := Event) (xs := a0) (by decide) rfl rfl Try.runUnderlying24 (hs_a0.mono (FLe.refl _) (List.Sublist.cons _ (List.Sublist.cons _ (List.Sublist.cons _ (List.Sublist.cons _ (List.Sublist.cons _ hM))))))) ?_
  refine Lst.run rfl rfl (by decide) (Ev.move rfl) ?_
  refine Lst.nil ?_
  refine At.then ?_
  refine Cd.block ?_
  refine Cd.bound (Rd.le (α := Event) (xs := a0) (by decide) (hs_a0.mono (FLe.refl _) (List.Sublist.cons _ (List.Sublist.cons _ (List.Sublist.cons _ (List.Sublist.cons _ (List.Sublist.cons _ hM))))))) (fun hN81 => ?_)
  obtain ⟨ol15, H, HKl15⟩ := bind_some H
  refine Cd.loop (σ := Nat × Nat × (Vector (Vector Int 6) 30) × (Vector (Vector Int 6) 6) × (Vector Int 6) × Sl × (List (Vector Int 6))) (fun (i15, k15, y16, y17, y18, s19, l20) => [(5, Sl.v s19), (6, .pointer (some ⟨b9, 0, none⟩)), (7, .pointer (some ⟨b11, 0, none⟩)), (8, .pointer (some ⟨b13, 0, none⟩)), (17, Sl.v s_a0), (18, .int .i64 (a0.length : Int)), (19, .int .i64 (i15 : Int))]) (fun (i15, k15, y16, y17, y18, s19, l20) => (.blk b13 (enc y16) 73) :: (.blk b11 (enc y17) 72) :: (.blk b9 (enc y18) 23) :: (.own s19 23 6 (encs l20)) :: (.own Sl.nil 23 6 (encs ([] : List (Vector Int 6)))) :: L) (fun _ => (fun (i15, k15, y16, y17, y18, s19, l20) => rangeF (vect_Vectors_B0 a0) k15 i15 (y16, y17, y18, l20) = some ol15 ∧ i15 + k15 = a0.length)) (fun (i15, k15, y16, y17, y18, s19, l20) => k15) (0, a0.length, (Vector.replicate 30 (Vector.replicate 6 (0 : Int))), (Vector.replicate 6 (Vector.replicate 6 (0 : Int))), (Vector.replicate 6 (0 : Int)), Sl.nil, ([] : List (Vector Int 6))) ⟨rfl, rfl, rfl, rfl, rfl, rfl, rfl, trivial⟩ rfl ⟨H, by omega⟩ ?_
  rintro F21 ⟨i15, k15, y16, y17, y18, s19, l20⟩ hF22 ⟨H, hik15⟩
  refine Cd.as (e' := [(5, Sl.v s19), (6, .pointer (some ⟨b9, 0, none⟩)), (7, .pointer (some ⟨b11, 0, none⟩)), (8, .pointer (some ⟨b13, 0, none⟩)), (17, Sl.v s_a0), (18, .int .i64 (a0.length : Int)), (19, .int .i64 (i15 : Int))]) (L' := (.blk b13 (enc y16) 73) :: (.blk b11 (enc y17) 72) :: (.blk b9 (enc y18) 23) :: (.own s19 23 6 (encs l20)) :: (.own Sl.nil 23 6 (encs ([] : List (Vector Int 6)))) :: L) ⟨rfl, rfl, rfl, rfl, rfl, rfl, rfl, trivial⟩ rfl ?_
  rcases k15 with _ | k15
  · have hc15 : decide ((i15 : Int) < (a0.length : Int)) = false := decide_eq_false (by omega)
    replace H := rangeF_end H
    refine Cd.seq ?_
    refine Cd.region ?_
    refine Lst.run rfl rfl (by decide) (Ev.lss rfl rfl) ?_
    refine Lst.nil ?_
    refine At.then ?_
    refine Cd.seq ?_
    refine Cd.condF rfl hc15 ?_
    refine Cd.exit ?_
    refine At.then_exit ?_
    refine At.then_exit ?_
    refine At.in_exit ?_
    subst H
    replace H := HKl15
    refine At.then ?_
    refine Cd.seq ?_
    refine Cd.region ?_
    refine Lst.run rfl rfl (by decide) (Ev.move rfl) ?_
    refine Lst.run rfl rfl (by decide) (Ev.assign rfl) ?_
    refine Lst.run rfl rfl (by decide) (Ev.assign rfl) ?_
    refine Lst.nil ?_
    refine At.then ?_
    obtain rfl := some_inj H
    refine Cd.ret ?_
    exact At.ret2 rfl (Res.tmp rfl) (Res.tmp rfl) hF22 (List.Sublist.cons _ (List.Sublist.cons _ (List.Sublist.cons _ (List.Sublist.cons_cons _ (List.Sublist.cons _ (List.Sublist.refl _)))))) ⟨s19, rfl, rfl⟩
  have hc15 : decide ((i15 : Int) < (a0.length : Int)) = true := decide_eq_true (by omega)
  obtain ⟨c15, H, hgo15⟩ := rangeF_go H
  unfold vect_Vectors_B0 at H
  try dsimp only at H
  refine Cd.seq ?_
  refine Cd.region ?_
  refine Lst.run rfl rfl (by decide) (Ev.lss rfl rfl) ?_
  refine Lst.nil ?_
  refine At.then ?_
  refine Cd.seq ?_
  refine Cd.condT rfl hc15 ?_
  refine Cd.skip ?_
  refine At.then ?_
  refine Cd.seq ?_
  refine Cd.block ?_
  refine Cd.seq ?_
  refine Cd.region ?_
  obtain ⟨x23, h24, H⟩ := bind_some H
  have g25 := lat_some h24
  refine Lst.run rfl rfl (by decide) (Ev.indexS (α := Event) (xs := a0) rfl rfl Try.runUnderlying24 Try.sizeOf75 rfl (by decide) (hs_a0.mono hF22 (List.Sublist.cons _ (List.Sublist.cons _ (List.Sublist.cons _ (List.Sublist.cons _ (List.Sublist.cons _ hM)))))) g25.1 g25.2.1) ?_
  refine Lst.run rfl rfl (by decide) (Ev.loadSA (α := Event) rfl (hs_a0.mono hF22 (List.Sublist.cons _ (List.Sublist.cons _ (List.Sublist.cons _ (List.Sublist.cons _ (List.Sublist.cons _ hM)))))) Try.isAgg75 Try.sizeOf75 (ch := enc x23) (Enc.len _) (by decide) ((Get.elemN (s := 3) (x := x23) rfl g25.2.2 (Get.here _)).off (by omega))) ?_
  refine Lst.alloc (cs := enc Event.zero) rfl rfl (by decide) Try.zeroValue75 rfl (fun b26 => ?_)
  refine Lst.store (i := 0) rfl rfl rfl rfl rfl Try.sizeOf75 (vs := enc x23) rfl (Enc.len _) (Enc.one _) (cs' := enc x23) (Put.here ((Enc.len _).trans (Enc.len _).symm)) (L' := (.blk b26 (enc x23) 75) :: (.blk b13 (enc y16) 73) :: (.blk b11 (enc y17) 72) :: (.blk b9 (enc y18) 23) :: (.own s19 23 6 (encs l20)) :: (.own Sl.nil 23 6 (encs ([] : List (Vector Int 6)))) :: L) rfl ?_
  refine Lst.nil ?_
  refine At.then ?_
  refine Cd.seq ?_
  refine Cd.region ?_
  refine Lst.run rfl rfl (by decide) (Ev.fieldAddr (off' := 0) rfl Try.runUnderlying75 rfl Try.sizeOf3 rfl rfl) ?_
  refine Lst.run rfl rfl (by decide) (Ev.load (i := 0) rfl rfl Try.isAgg3 (v := .int .i64 x23.Proc) ((Event.get_Proc (Get.here _)).off (by rfl))) ?_
  obtain ⟨x28, h29, H⟩ := bind_some H
  have g30 := vat_some h29
  refine Lst.run rfl rfl (by decide) (Ev.indexAddr (off' := 0 + x23.Proc.toNat * 6) rfl rfl Try.runUnderlying72 Try.sizeOf23 g30.1 g30.2.1 rfl) ?_
  refine Lst.run rfl rfl (by decide) (Ev.loadA (i := 2) rfl rfl Try.isAgg23 Try.sizeOf23 (ch := enc x28) (Enc.len _) ((Get.vecN (s := 6) (x := x28) rfl g30.2.2 (Get.here _)).off (by omega))) ?_
  refine Lst.alloc (cs := enc (Vector.replicate 6 (0 : Int))) rfl rfl (by decide) Try.zeroValue23 rfl (fun b31 => ?_)
  refine Lst.store (i := 0) rfl rfl rfl rfl rfl Try.sizeOf23 (vs := enc x28) rfl (Enc.len _) (Enc.one _) (cs' := enc x28) (Put.here ((Enc.len _).trans (Enc.len _).symm)) (L' := (.blk b31 (enc x28) 23) :: (.blk b26 (enc x23) 75) :: (.blk b13 (enc y16) 73) :: (.blk b11 (enc y17) 72) :: (.blk b9 (enc y18) 23) :: (.own s19 23 6 (encs l20)) :: (.own Sl.nil 23 6 (encs ([] : List (Vector Int 6)))) :: L) rfl ?_
  refine Lst.nil ?_
  refine At.then ?_
  obtain ⟨o34, H, HKo34⟩ := bind_some H
  refine Cd.join (σ := (Vector Int 6)) (fun y33 => [(5, Sl.v s19), (6, .pointer (some ⟨b9, 0, none⟩)), (7, .pointer (some ⟨b11, 0, none⟩)), (8, .pointer (some ⟨b13, 0, none⟩)), (10, .pointer (some ⟨b26, 0, none⟩)), (11, .pointer (some ⟨b31, 0, none⟩)), (17, Sl.v s_a0), (18, .int .i64 (a0.length : Int)), (19, .int .i64 (i15 : Int))]) (fun y33 => (.blk b31 (enc y33) 23) :: (.blk b26 (enc x23) 75) :: (.blk b13 (enc y16) 73) :: (.blk b11 (enc y17) 72) :: (.blk b9 (enc y18) 23) :: (.own s19 23 6 (encs l20)) :: (.own Sl.nil 23 6 (encs ([] : List (Vector Int 6)))) :: L) (fun _ y33 => y33 = o34) ?_ ?_
  · refine Cd.seq ?_
    refine Cd.region ?_
    refine Lst.run rfl rfl (by decide) (Ev.fieldAddr (off' := 1) rfl Try.runUnderlying75 rfl Try.sizeOf3 rfl rfl) ?_
    refine Lst.run rfl rfl (by decide) (Ev.load (i := 1) rfl rfl Try.isAgg3 (v := .int .i64 x23.Kind) ((Event.get_Kind (Get.here _)).off (by rfl))) ?_
    refine Lst.run rfl rfl (by decide) (Ev.eql rfl rfl) ?_
    refine Lst.nil ?_
    refine At.then ?_
    rcases (Bool.eq_false_or_eq_true (x23.Kind == (3 : Int))).symm with hb35 | hb35
    · replace H := ite_f hb35 H
      refine Cd.condF rfl hb35 ?_
      refine Cd.skip ?_
      exact At.meet x28 (FLe.refl _) ⟨rfl, rfl, rfl, rfl, rfl, rfl, rfl, rfl, rfl, trivial⟩ rfl (some_inj H)
    replace H := ite_t hb35 H
    refine Cd.condT rfl hb35 ?_
    refine Cd.tail 6 (by kernel_rfl) (by kernel_rfl) ?_
    refine Qt.run rfl rfl (by decide) (Ev.loadA (i := 0) rfl rfl Try.isAgg23 Try.sizeOf23 (ch := enc x28) (Enc.len _) (Get.here _)) ?_
    refine Qt.run rfl rfl (by decide) (Ev.fieldAddr (off' := 2) rfl Try.runUnderlying75 rfl Try.sizeOf3 rfl rfl) ?_
    refine Qt.run rfl rfl (by decide) (Ev.load (i := 1) rfl rfl Try.isAgg3 (v := .int .i64 x23.Msg) ((Event.get_Msg (Get.here _)).off (by rfl))) ?_
    obtain ⟨x36, h37, H⟩ := bind_some H
    have g38 := vat_some h37
    refine Qt.run rfl rfl (by decide) (Ev.indexAddr (off' := 0 + x23.Msg.toNat * 6) rfl rfl Try.runUnderlying73 Try.sizeOf23 g38.1 g38.2.1 rfl) ?_
    refine Qt.run rfl rfl (by decide) (Ev.loadA (i := 2) rfl rfl Try.isAgg23 Try.sizeOf23 (ch := enc x36) (Enc.len _) ((Get.vecN (s := 6) (x := x36) rfl g38.2.2 (Get.here _)).off (by omega))) ?_
    obtain ⟨r39, h40, H⟩ := bind_some H
    refine Qt.call rfl rfl (by decide) (vs := [.agg (enc x28).toArray, .agg (enc x36).toArray]) ⟨rfl, rfl, trivial⟩ Try.call10 (vect_Max_sim h40 w0 _ M _ (List.Sublist.cons _ (List.Sublist.cons _ (List.Sublist.cons _ (List.Sublist.cons _ (List.Sublist.cons _ (List.Sublist.cons _ (List.Sublist.cons _ hM)))))))) ?_
    refine Qt.tail ?_
    refine Lst.store (i := 0) rfl rfl rfl rfl rfl Try.sizeOf23 (vs := enc r39) rfl (Enc.len _) (Enc.one _) (cs' := enc r39) (Put.here ((Enc.len _).trans (Enc.len _).symm)) (L' := (.blk b31 (enc r39) 23) :: (.blk b26 (enc x23) 75) :: (.blk b13 (enc y16) 73) :: (.blk b11 (enc y17) 72) :: (.blk b9 (enc y18) 23) :: (.own s19 23 6 (encs l20)) :: (.own Sl.nil 23 6 (encs ([] : List (Vector Int 6)))) :: L) rfl ?_
    refine Lst.nil ?_
    exact At.meet r39 (FLe.refl _) ⟨rfl, rfl, rfl, rfl, rfl, rfl, rfl, rfl, rfl, trivial⟩ rfl (some_inj H)
  rintro F43 y33 hF44 hy
  subst hy
  refine Cd.as (e' := [(5, Sl.v s19), (6, .pointer (some ⟨b9, 0, none⟩)), (7, .pointer (some ⟨b11, 0, none⟩)), (8, .pointer (some ⟨b13, 0, none⟩)), (10, .pointer (some ⟨b26, 0, none⟩)), (11, .pointer (some ⟨b31, 0, none⟩)), (17, Sl.v s_a0), (18, .int .i64 (a0.length : Int)), (19, .int .i64 (i15 : Int))]) (L' := (.blk b31 (enc y33) 23) :: (.blk b26 (enc x23) 75) :: (.blk b13 (enc y16) 73) :: (.blk b11 (enc y17) 72) :: (.blk b9 (enc y18) 23) :: (.own s19 23 6 (encs l20)) :: (.own Sl.nil 23 6 (encs ([] : List (Vector Int 6)))) :: L) ⟨rfl, rfl, rfl, rfl, rfl, rfl, rfl, rfl, rfl, trivial⟩ rfl ?_
  replace H := HKo34
  refine Cd.seq ?_
  refine Cd.region ?_
  refine Lst.run rfl rfl (by decide) (Ev.fieldAddr (off' := 0) rfl Try.runUnderlying75 rfl Try.sizeOf3 rfl rfl) ?_
  refine Lst.run rfl rfl (by decide) (Ev.load (i := 1) rfl rfl Try.isAgg3 (v := .int .i64 x23.Proc) ((Event.get_Proc (Get.here _)).off (by rfl))) ?_
  obtain ⟨x45, h46, H⟩ := bind_some H
  have g47 := vat_some h46
  refine Lst.run rfl rfl (by decide) (Ev.indexAddr (off' := 0 + x23.Proc.toNat * 1) rfl rfl Try.runUnderlying23 Try.sizeOf3 g47.1 g47.2.1 rfl) ?_
  refine Lst.run rfl rfl (by decide) (Ev.load (i := 4) rfl rfl Try.isAgg3 (v := .int .i64 x45) ((Get.vecN (s := 1) (x := x45) rfl g47.2.2 (Get.here _)).off (by omega))) ?_
  refine Lst.run rfl rfl (by decide) (Ev.add rfl rfl) ?_
  obtain ⟨x48, h49, H⟩ := bind_some H
  have g50 := vat_some h49
  refine Lst.run rfl rfl (by decide) (Ev.indexAddr (off' := 0 + x23.Proc.toNat * 1) rfl rfl Try.runUnderlying23 Try.sizeOf3 g50.1 g50.2.1 rfl) ?_
  obtain ⟨p51, h52, H⟩ := Let_some H
  refine Lst.store (i := 4) rfl rfl rfl rfl rfl Try.sizeOf3 (vs := [.int .i64 (w64 (x45 + (1 : Int)))]) rfl rfl rfl (cs' := enc p51) (by rw [← h52]; exact (Put.vecN (s := 1) (x := x48) rfl g50.2.2 (Put.here (vs := [.int .i64 (w64 (x45 + (1 : Int)))]) rfl)).off (by omega)) (L' := (.blk b31 (enc y33) 23) :: (.blk b26 (enc x23) 75) :: (.blk b13 (enc y16) 73) :: (.blk b11 (enc y17) 72) :: (.blk b9 (enc p51) 23) :: (.own s19 23 6 (encs l20)) :: (.own Sl.nil 23 6 (encs ([] : List (Vector Int 6)))) :: L) rfl ?_
  refine Lst.nil ?_
  refine At.then ?_
  refine Cd.seq ?_
  refine Cd.tail 7 (by kernel_rfl) (by kernel_rfl) ?_
  refine Qt.run rfl rfl (by decide) (Ev.fieldAddr (off' := 0) rfl Try.runUnderlying75 rfl Try.sizeOf3 rfl rfl) ?_
  refine Qt.run rfl rfl (by decide) (Ev.load (i := 1) rfl rfl Try.isAgg3 (v := .int .i64 x23.Proc) ((Event.get_Proc (Get.here _)).off (by rfl))) ?_
  refine Qt.run rfl rfl (by decide) (Ev.fieldAddr (off' := 0) rfl Try.runUnderlying75 rfl Try.sizeOf3 rfl rfl) ?_
  refine Qt.run rfl rfl (by decide) (Ev.load (i := 1) rfl rfl Try.isAgg3 (v := .int .i64 x23.Proc) ((Event.get_Proc (Get.here _)).off (by rfl))) ?_
  obtain ⟨x53, h54, H⟩ := bind_some H
  have g55 := vat_some h54
  refine Qt.run rfl rfl (by decide) (Ev.indexAddr (off' := 0 + x23.Proc.toNat * 1) rfl rfl Try.runUnderlying23 Try.sizeOf3 g55.1 g55.2.1 rfl) ?_
  refine Qt.run rfl rfl (by decide) (Ev.load (i := 4) rfl rfl Try.isAgg3 (v := .int .i64 x53) ((Get.vecN (s := 1) (x := x53) rfl g55.2.2 (Get.here _)).off (by omega))) ?_
  obtain ⟨x56, h57, H⟩ := bind_some H
  have g58 := vat_some h57
  refine Qt.run rfl rfl (by decide) (Ev.indexAddr (off' := 0 + x23.Proc.toNat * 1) rfl rfl Try.runUnderlying23 Try.sizeOf3 g58.1 g58.2.1 rfl) ?_
  refine Qt.tail ?_
  obtain ⟨p59, h60, H⟩ := Let_some H
  refine Lst.store (i := 0) rfl rfl rfl rfl rfl Try.sizeOf3 (vs := [.int .i64 x53]) rfl rfl rfl (cs' := enc p59) (by rw [← h60]; exact (Put.vecN (s := 1) (x := x56) rfl g58.2.2 (Put.here (vs := [.int .i64 x53]) rfl)).off (by omega)) (L' := (.blk b31 (enc p59) 23) :: (.blk b26 (enc x23) 75) :: (.blk b13 (enc y16) 73) :: (.blk b11 (enc y17) 72) :: (.blk b9 (enc p51) 23) :: (.own s19 23 6 (encs l20)) :: (.own Sl.nil 23 6 (encs ([] : List (Vector Int 6)))) :: L) rfl ?_
  refine Lst.nil ?_
  refine At.then ?_
  refine Cd.seq ?_
  refine Cd.region ?_
  refine Lst.run rfl rfl (by decide) (Ev.fieldAddr (off' := 0) rfl Try.runUnderlying75 rfl Try.sizeOf3 rfl rfl) ?_
  refine Lst.run rfl rfl (by decide) (Ev.load (i := 1) rfl rfl Try.isAgg3 (v := .int .i64 x23.Proc) ((Event.get_Proc (Get.here _)).off (by rfl))) ?_
  refine Lst.run rfl rfl (by decide) (Ev.loadA (i := 0) rfl rfl Try.isAgg23 Try.sizeOf23 (ch := enc p59) (Enc.len _) (Get.here _)) ?_
  obtain ⟨x61, h62, H⟩ := bind_some H
  have g63 := vat_some h62
  refine Lst.run rfl rfl (by decide) (Ev.indexAddr (off' := 0 + x23.Proc.toNat * 6) rfl rfl Try.runUnderlying72 Try.sizeOf23 g63.1 g63.2.1 rfl) ?_
  obtain ⟨p64, h65, H⟩ := Let_some H
  refine Lst.store (i := 3) rfl rfl rfl rfl rfl Try.sizeOf23 (vs := enc p59) rfl (Enc.len _) (Enc.one _) (cs' := enc p64) (by rw [← h65]; exact (Put.vecN (s := 6) (x := x61) rfl g63.2.2 (Put.here ((Enc.len _).trans (Enc.len _).symm))).off (by omega)) (L' := (.blk b31 (enc p59) 23) :: (.blk b26 (enc x23) 75) :: (.blk b13 (enc y16) 73) :: (.blk b11 (enc p64) 72) :: (.blk b9 (enc p51) 23) :: (.own s19 23 6 (encs l20)) :: (.own Sl.nil 23 6 (encs ([] : List (Vector Int 6)))) :: L) rfl ?_
  refine Lst.nil ?_
  refine At.then ?_
  obtain ⟨o67, H, HKo67⟩ := bind_some H
  refine Cd.join (σ := (Vector (Vector Int 6) 30)) (fun y66 => [(5, Sl.v s19), (6, .pointer (some ⟨b9, 0, none⟩)), (7, .pointer (some ⟨b11, 0, none⟩)), (8, .pointer (some ⟨b13, 0, none⟩)), (11, .pointer (some ⟨b31, 0, none⟩)), (17, Sl.v s_a0), (18, .int .i64 (a0.length : Int)), (19, .int .i64 (i15 : Int))]) (fun y66 => (.blk b31 (enc p59) 23) :: (.blk b26 (enc x23) 75) :: (.blk b13 (enc y66) 73) :: (.blk b11 (enc p64) 72) :: (.blk b9 (enc p51) 23) :: (.own s19 23 6 (encs l20)) :: (.own Sl.nil 23 6 (encs ([] : List (Vector Int 6)))) :: L) (fun _ y66 => y66 = o67) ?_ ?_
  · refine Cd.seq ?_
    refine Cd.as (e' := [(5, Sl.v s19), (6, .pointer (some ⟨b9, 0, none⟩)), (7, .pointer (some ⟨b11, 0, none⟩)), (8, .pointer (some ⟨b13, 0, none⟩)), (10, .pointer (some ⟨b26, 0, none⟩)), (11, .pointer (some ⟨b31, 0, none⟩)), (17, Sl.v s_a0), (18, .int .i64 (a0.length : Int)), (19, .int .i64 (i15 : Int))]) (L' := (.blk b31 (enc p59) 23) :: (.blk b26 (enc x23) 75) :: (.blk b13 (enc y16) 73) :: (.blk b11 (enc p64) 72) :: (.blk b9 (enc p51) 23) :: (.own s19 23 6 (encs l20)) :: (.own Sl.nil 23 6 (encs ([] : List (Vector Int 6)))) :: L) ⟨rfl, rfl, rfl, rfl, rfl, rfl, rfl, rfl, rfl, trivial⟩ rfl ?_
    refine Cd.region ?_
    refine Lst.run rfl rfl (by decide) (Ev.fieldAddr (off' := 1) rfl Try.runUnderlying75 rfl Try.sizeOf3 rfl rfl) ?_
    refine Lst.run rfl rfl (by decide) (Ev.load (i := 1) rfl rfl Try.isAgg3 (v := .int .i64 x23.Kind) ((Event.get_Kind (Get.here _)).off (by rfl))) ?_
    refine Lst.run rfl rfl (by decide) (Ev.eql rfl rfl) ?_
    refine Lst.nil ?_
    refine At.then ?_
    rcases (Bool.eq_false_or_eq_true (x23.Kind == (2 : Int))).symm with hb68 | hb68
    · replace H := ite_f hb68 H
      refine Cd.condF rfl hb68 ?_
      refine Cd.skip ?_
      exact At.meet y16 (FLe.refl _) ⟨rfl, rfl, rfl, rfl, rfl, rfl, rfl, rfl, trivial⟩ rfl (some_inj H)
    replace H := ite_t hb68 H
    refine Cd.condT rfl hb68 ?_
    refine Cd.region ?_
    refine Lst.run rfl rfl (by decide) (Ev.fieldAddr (off' := 2) rfl Try.runUnderlying75 rfl Try.sizeOf3 rfl rfl) ?_
    refine Lst.run rfl rfl (by decide) (Ev.load (i := 1) rfl rfl Try.isAgg3 (v := .int .i64 x23.Msg) ((Event.get_Msg (Get.here _)).off (by rfl))) ?_
    refine Lst.run rfl rfl (by decide) (Ev.loadA (i := 0) rfl rfl Try.isAgg23 Try.sizeOf23 (ch := enc p59) (Enc.len _) (Get.here _)) ?_
    obtain ⟨x69, h70, H⟩ := bind_some H
    have g71 := vat_some h70
    refine Lst.run rfl rfl (by decide) (Ev.indexAddr (off' := 0 + x23.Msg.toNat * 6) rfl rfl Try.runUnderlying73 Try.sizeOf23 g71.1 g71.2.1 rfl) ?_
    obtain ⟨p72, h73, H⟩ := Let_some H
    refine Lst.store (i := 2) rfl rfl rfl rfl rfl Try.sizeOf23 (vs := enc p59) rfl (Enc.len _) (Enc.one _) (cs' := enc p72) (by rw [← h73]; exact (Put.vecN (s := 6) (x := x69) rfl g71.2.2 (Put.here ((Enc.len _).trans (Enc.len _).symm))).off (by omega)) (L' := (.blk b31 (enc p59) 23) :: (.blk b26 (enc x23) 75) :: (.blk b13 (enc p72) 73) :: (.blk b11 (enc p64) 72) :: (.blk b9 (enc p51) 23) :: (.own s19 23 6 (encs l20)) :: (.own Sl.nil 23 6 (encs ([] : List (Vector Int 6)))) :: L) rfl ?_
    refine Lst.nil ?_
    exact At.meet p72 (FLe.refl _) ⟨rfl, rfl, rfl, rfl, rfl, rfl, rfl, rfl, trivial⟩ rfl (some_inj H)
  rintro F74 y66 hF75 hy
  subst hy
  refine Cd.as (e' := [(5, Sl.v s19), (6, .pointer (some ⟨b9, 0, none⟩)), (7, .pointer (some ⟨b11, 0, none⟩)), (8, .pointer (some ⟨b13, 0, none⟩)), (11, .pointer (some ⟨b31, 0, none⟩)), (17, Sl.v s_a0), (18, .int .i64 (a0.length : Int)), (19, .int .i64 (i15 : Int))]) (L' := (.blk b31 (enc p59) 23) :: (.blk b26 (enc x23) 75) :: (.blk b13 (enc y66) 73) :: (.blk b11 (enc p64) 72) :: (.blk b9 (enc p51) 23) :: (.own s19 23 6 (encs l20)) :: (.own Sl.nil 23 6 (encs ([] : List (Vector Int 6)))) :: L) ⟨rfl, rfl, rfl, rfl, rfl, rfl, rfl, rfl, trivial⟩ rfl ?_
  replace H := HKo67
  refine Cd.region ?_
  refine Lst.run rfl rfl (by decide) (Ev.move rfl) ?_
  refine Lst.run rfl rfl (by decide) (Ev.loadA (i := 0) rfl rfl Try.isAgg23 Try.sizeOf23 (ch := enc p59) (Enc.len _) (Get.here _)) ?_
  refine Lst.buildSlice (α := Vector Int 6) (xs := ([p59] : List (Vector Int 6))) (pv := [(0, .agg (enc p59).toArray)]) rfl rfl (by decide) ⟨rfl, rfl, trivial⟩ (run_buildSlice (α := Vector Int 6) (z0 := (Vector.replicate 6 (0 : Int))) (xs := ([p59] : List (Vector Int 6))) Try.runUnderlying28 Try.sizeOf23 Try.zeroValue23 rfl rfl rfl (by decide) rfl (fill_cons (cs := encs (List.replicate 1 (Vector.replicate 6 (0 : Int)))) (cs' := encs ((List.replicate 1 (Vector.replicate 6 (0 : Int))).set 0 p59)) (vs := enc p59) rfl rfl (Enc.len _) ((Put.elemN (s := 6) (i := 0) (x := (Vector.replicate 6 (0 : Int))) (y := p59) rfl rfl (Put.here ((Enc.len _).trans (Enc.len _).symm))).off rfl) fill_nil)) rfl rfl (by decide) (fun s76 _ => ?_)
  obtain ⟨u78, h79, H⟩ := bind_some H
  refine Lst.append (i := 6) (α := Vector Int 6) (xs := l20) (ys := ([p59] : List (Vector Int 6))) rfl rfl (by decide) rfl rfl Try.runUnderlying28 Try.typeInfo23 rfl rfl rfl rfl rfl rfl (Rd.own (i := 0) rfl rfl rfl) rfl (room_some h79) rfl (fun s80 => ?_)
  refine Lst.its (L' := (.own s76 23 6 (encs ([p59] : List (Vector Int 6)))) :: (.blk b31 (enc p59) 23) :: (.blk b26 (enc x23) 75) :: (.blk b13 (enc y66) 73) :: (.blk b11 (enc p64) 72) :: (.blk b9 (enc p51) 23) :: (.own s80 23 6 (encs (l20 ++ ([p59] : List (Vector Int 6))))) :: (.own Sl.nil 23 6 (encs ([] : List (Vector Int 6)))) :: L) rfl ?_
  refine Lst.run rfl rfl (by decide) (Ev.assign rfl) ?_
  refine Lst.nil ?_
  refine At.in_normal ?_
  refine At.then ?_
  refine Cd.region ?_
  refine Lst.run rfl rfl (by decide) (Ev.incr (by omega) rfl rfl) ?_
  refine Lst.run rfl rfl (by decide) (Ev.move rfl) ?_
  refine Lst.nil ?_
  refine At.less (L' := (.blk b13 (enc y66) 73) :: (.blk b11 (enc p64) 72) :: (.blk b9 (enc p51) 23) :: (.own s80 23 6 (encs (l20 ++ ([p59] : List (Vector Int 6))))) :: (.own Sl.nil 23 6 (encs ([] : List (Vector Int 6)))) :: L) (List.Sublist.cons _ (List.Sublist.cons _ (List.Sublist.cons _ (List.Sublist.cons_cons _ (List.Sublist.cons_cons _ (List.Sublist.cons_cons _ (List.Sublist.cons_cons _ (List.Sublist.cons_cons _ (List.Sublist.refl _))))))))) ?_
  exact At.meet (i15 + 1, k15, y66, p64, p51, s80, l20 ++ ([p59] : List (Vector Int 6))) (FLe.trans (FLe.trans hF22 hF44) hF75) ⟨rfl, rfl, rfl, rfl, rfl, rfl, rfl, trivial⟩ rfl ⟨⟨hgo15 _ (some_inj H).symm, by omega⟩, Nat.lt_succ_self _⟩
set_option maxRecDepth 20000 in
theorem cut_vectors_sim {a0 : List Event} {s_a0 : Sl} {r : (Vector (List (Vector Int 6)) 6)} (H : cut_vectors a0 = some r) (w0 : World) (F : Frz) (M L : List Item) (hM : M.Sublist L) (hs_a0 : Rd w0 F M s_a0 a0) : Ok Try.prog w0 56 [Sl.v s_a0] F (L) (fun Fx L' v => ∃ (rs1 : Vector (LR (Vector Int 6)) 6), v = .agg (enc rs1).toArray ∧ L' = (.rows (α := Vector Int 6) 23 rs1.toList) :: L ∧ rs1.toList.map LR.v = r.toList) := by
  unfold cut_vectors at H
  refine Ok.enter (m := 1) (n := 35) Try.func56 rfl rfl rfl (by decide) ?_
  refine Cd.env (e' := [(0, Sl.v s_a0)]) rfl ?_
  refine Cd.seq ?_
  refine Cd.region ?_
  have hm1 : (Vector.replicate 6 ⟨[], Sl.nil⟩ : Vector (LR (Vector Int 6)) 6).toList.map LR.v = (Vector.replicate 6 [] : Vector (List (Vector Int 6)) 6).toList := vmap_rep _ _
  refine Lst.rowsNilV (Vector Int 6) 23 6 ?_
  refine Lst.alloc (cs := enc (Vector.replicate 6 ⟨[], Sl.nil⟩ : Vector (LR (Vector Int 6)) 6)) rfl rfl (by decide) Try.zeroValue90 rfl (fun b3 => ?_)
  refine Lst.nil ?_
  refine At.then ?_
  refine Cd.seq ?_
  refine Cd.region ?_
  have hm5 : (Vector.replicate 6 ⟨[], Sl.nil⟩ : Vector (LR (Vector Int 6)) 6).toList.map LR.v = (Vector.replicate 6 [] : Vector (List (Vector Int 6)) 6).toList := vmap_rep _ _
  refine Lst.rowsNilV (Vector Int 6) 23 6 ?_
  refine Lst.alloc (cs := enc (Vector.replicate 6 ⟨[], Sl.nil⟩ : Vector (LR (Vector Int 6)) 6)) rfl rfl (by decide) Try.zeroValue90 rfl (fun b7 => ?_)
  refine Lst.nil ?_
  refine At.then ?_
  refine Cd.seq ?_
  refine Cd.region ?_
  refine Lst.run rfl rfl (by decide) (Ev.move rfl) ?_
  obtain ⟨r9, h10, H⟩ := bind_some H
  refine Lst.call rfl rfl (by decide) (vs := [Sl.v s_a0]) ⟨rfl, trivial⟩ Try.call15 (vect_Vectors_sim h10 w0 _ M _ (List.Sublist.cons _ (List.Sublist.cons _ (List.Sublist.cons _ (List.Sublist.cons _ hM)))) (hs_a0.mono (FLe.refl _) (List.Sublist.refl _))) (fun F13 L' v hF14 hv => ?_)
  obtain ⟨s11, rfl, rfl⟩ := hv
  refine Lst.run rfl rfl (by decide) (Ev.move rfl) ?_
  refine Lst.run rfl rfl (by decide) (Ev.extract rfl rfl) ?_
  refine Lst.run rfl rfl (by decide) (Ev.extract rfl rfl) ?_
  refine Lst.run rfl rfl (by decide) (Ev.assign rfl) ?_
  refine Lst.run rfl rfl (by decide) (Ev.assign rfl) ?_
  refine Lst.nil ?_
  refine At.then ?_
  refine Cd.seq ?_
  refine Cd.seq ?_
  refine Cd.region ?_
  refine Lst.run rfl rfl (by decide) (Ev.move rfl) ?_
  refine Lst.run rfl rfl (by decide) (Ev.lenS (α := Event) (xs := a0) (by decide) rfl rfl Try.runUnderlying24 (hs_a0.mono hF14 (List.Sublist.cons _ (List.Sublist.cons _ (List.Sublist.cons _ (List.Sublist.cons _ (List.Sublist.cons _ hM))))))) ?_
  refine Lst.run rfl rfl (by decide) (Ev.move rfl) ?_
  refine Lst.nil ?_
  refine At.then ?_
  refine Cd.block ?_
  refine Cd.front (i := 4) rfl (L' := (.rows (α := Vector Int 6) 23 ((Vector.replicate 6 ⟨[], Sl.nil⟩ : Vector (LR (Vector Int 6)) 6).toList)) :: (.own s11 23 6 (encs r9.1)) :: (.blk b7 (enc (Vector.replicate 6 ⟨[], Sl.nil⟩ : Vector (LR (Vector Int 6)) 6)) 90) :: (.rows (α := Vector Int 6) 23 ((Vector.replicate 6 ⟨[], Sl.nil⟩ : Vector (LR (Vector Int 6)) 6).toList)) :: (.blk b3 (enc (Vector.replicate 6 ⟨[], Sl.nil⟩ : Vector (LR (Vector Int 6)) 6)) 90) :: L) rfl ?_
  refine Cd.front (i := 4) rfl (L' := (.blk b3 (enc (Vector.replicate 6 ⟨[], Sl.nil⟩ : Vector (LR (Vector Int 6)) 6)) 90) :: (.rows (α := Vector Int 6) 23 ((Vector.replicate 6 ⟨[], Sl.nil⟩ : Vector (LR (Vector Int 6)) 6).toList)) :: (.own s11 23 6 (encs r9.1)) :: (.blk b7 (enc (Vector.replicate 6 ⟨[], Sl.nil⟩ : Vector (LR (Vector Int 6)) 6)) 90) :: (.rows (α := Vector Int 6) 23 ((Vector.replicate 6 ⟨[], Sl.nil⟩ : Vector (LR (Vector Int 6)) 6).toList)) :: L) rfl ?_
  refine Cd.front (i := 3) rfl (L' := (.blk b7 (enc (Vector.replicate 6 ⟨[], Sl.nil⟩ : Vector (LR (Vector Int 6)) 6)) 90) :: (.blk b3 (enc (Vector.replicate 6 ⟨[], Sl.nil⟩ : Vector (LR (Vector Int 6)) 6)) 90) :: (.rows (α := Vector Int 6) 23 ((Vector.replicate 6 ⟨[], Sl.nil⟩ : Vector (LR (Vector Int 6)) 6).toList)) :: (.own s11 23 6 (encs r9.1)) :: (.rows (α := Vector Int 6) 23 ((Vector.replicate 6 ⟨[], Sl.nil⟩ : Vector (LR (Vector Int 6)) 6).toList)) :: L) rfl ?_
  refine Cd.front (i := 3) rfl (L' := (.own s11 23 6 (encs r9.1)) :: (.blk b7 (enc (Vector.replicate 6 ⟨[], Sl.nil⟩ : Vector (LR (Vector Int 6)) 6)) 90) :: (.blk b3 (enc (Vector.replicate 6 ⟨[], Sl.nil⟩ : Vector (LR (Vector Int 6)) 6)) 90) :: (.rows (α := Vector Int 6) 23 ((Vector.replicate 6 ⟨[], Sl.nil⟩ : Vector (LR (Vector Int 6)) 6).toList)) :: (.rows (α := Vector Int 6) 23 ((Vector.replicate 6 ⟨[], Sl.nil⟩ : Vector (LR (Vector Int 6)) 6).toList)) :: L) rfl ?_
  refine Cd.front (i := 4) rfl (L' := (.rows (α := Vector Int 6) 23 ((Vector.replicate 6 ⟨[], Sl.nil⟩ : Vector (LR (Vector Int 6)) 6).toList)) :: (.own s11 23 6 (encs r9.1)) :: (.blk b7 (enc (Vector.replicate 6 ⟨[], Sl.nil⟩ : Vector (LR (Vector Int 6)) 6)) 90) :: (.blk b3 (enc (Vector.replicate 6 ⟨[], Sl.nil⟩ : Vector (LR (Vector Int 6)) 6)) 90) :: (.rows (α := Vector Int 6) 23 ((Vector.replicate 6 ⟨[], Sl.nil⟩ : Vector (LR (Vector Int 6)) 6).toList)) :: L) rfl ?_
  refine Cd.bound (Rd.le (α := Event) (xs := a0) (by decide) (hs_a0.mono hF14 (List.Sublist.cons _ (List.Sublist.cons _ (List.Sublist.cons _ (List.Sublist.cons _ (List.Sublist.cons _ hM))))))) (fun hN59 => ?_)
  obtain ⟨ol15, H, HKl15⟩ := bind_some H
  refine Cd.loop (σ := Nat × Nat × (Vector (LR (Vector Int 6)) 6) × (Vector (List (Vector Int 6)) 6)) (fun (i15, k15, rs16, l17) => [(2, .pointer (some ⟨b3, 0, none⟩)), (3, .pointer (some ⟨b7, 0, none⟩)), (4, Sl.v s11), (13, Sl.v s_a0), (14, .int .i64 (a0.length : Int)), (15, .int .i64 (i15 : Int))]) (fun (i15, k15, rs16, l17) => (.rows (α := Vector Int 6) 23 rs16.toList) :: (.own s11 23 6 (encs r9.1)) :: (.blk b7 (enc rs16) 90) :: (.blk b3 (enc (Vector.replicate 6 ⟨[], Sl.nil⟩ : Vector (LR (Vector Int 6)) 6)) 90) :: (.rows (α := Vector Int 6) 23 ((Vector.replicate 6 ⟨[], Sl.nil⟩ : Vector (LR (Vector Int 6)) 6).toList)) :: L) (fun Fx => (fun (i15, k15, rs16, l17) => rangeF (cut_vectors_B0 a0 r9) k15 i15 l17 = some ol15 ∧ i15 + k15 = a0.length ∧ rs16.toList.map LR.v = l17.toList)) (fun (i15, k15, rs16, l17) => k15) (0, a0.length, (Vector.replicate 6 ⟨[], Sl.nil⟩ : Vector (LR (Vector Int 6)) 6), (Vector.replicate 6 [] : Vector (List (Vector Int 6)) 6)) ⟨rfl, rfl, rfl, rfl, rfl, rfl, trivial⟩ rfl ⟨H, by omega, hm5⟩ ?_
  rintro F20 ⟨i15, k15, rs16, l17⟩ hF21 ⟨H, hik15, fm18⟩
  refine Cd.as (e' := [(2, .pointer (some ⟨b3, 0, none⟩)), (3, .pointer (some ⟨b7, 0, none⟩)), (4, Sl.v s11), (13, Sl.v s_a0), (14, .int .i64 (a0.length : Int)), (15, .int .i64 (i15 : Int))]) (L' := (.rows (α := Vector Int 6) 23 rs16.toList) :: (.own s11 23 6 (encs r9.1)) :: (.blk b7 (enc rs16) 90) :: (.blk b3 (enc (Vector.replicate 6 ⟨[], Sl.nil⟩ : Vector (LR (Vector Int 6)) 6)) 90) :: (.rows (α := Vector Int 6) 23 ((Vector.replicate 6 ⟨[], Sl.nil⟩ : Vector (LR (Vector Int 6)) 6).toList)) :: L) ⟨rfl, rfl, rfl, rfl, rfl, rfl, trivial⟩ rfl ?_
  rcases k15 with _ | k15
  · have hc15 : decide ((i15 : Int) < (a0.length : Int)) = false := decide_eq_false (by omega)
    replace H := rangeF_end H
    refine Cd.seq ?_
    refine Cd.region ?_
    refine Lst.run rfl rfl (by decide) (Ev.lss rfl rfl) ?_
    refine Lst.nil ?_
    refine At.then ?_
    refine Cd.seq ?_
    refine Cd.condF rfl hc15 ?_
    refine Cd.exit ?_
    refine At.then_exit ?_
    refine At.then_exit ?_
    refine At.in_exit ?_
    subst H
    replace H := HKl15
    refine At.then ?_
    refine Cd.seq ?_
    refine Cd.region ?_
    refine Lst.run rfl rfl (by decide) (Ev.loadA (i := 2) rfl rfl Try.isAgg90 Try.sizeOf90 (ch := enc rs16) (Enc.len _) (Get.here _)) ?_
    refine Lst.store (i := 3) rfl rfl rfl rfl rfl Try.sizeOf90 (vs := enc rs16) rfl (Enc.len _) (Enc.one _) (cs' := enc rs16) (Put.here ((Enc.len _).trans (Enc.len _).symm)) (L' := (.rows (α := Vector Int 6) 23 rs16.toList) :: (.own s11 23 6 (encs r9.1)) :: (.blk b7 (enc rs16) 90) :: (.blk b3 (enc rs16) 90) :: (.rows (α := Vector Int 6) 23 ((Vector.replicate 6 ⟨[], Sl.nil⟩ : Vector (LR (Vector Int 6)) 6).toList)) :: L) rfl ?_
    refine Lst.nil ?_
    refine At.then ?_
    obtain rfl := some_inj H
    refine Cd.ret ?_
    exact At.ret1 rfl (Res.cellA (i := 3) rfl rfl Try.isAgg90 Try.sizeOf90 (Enc.len _)) (FLe.trans hF14 hF21) (List.Sublist.cons_cons _ (List.Sublist.cons _ (List.Sublist.cons _ (List.Sublist.cons _ (List.Sublist.cons _ (List.Sublist.refl _)))))) ⟨rs16, rfl, rfl, fm18⟩
  have hc15 : decide ((i15 : Int) < (a0.length : Int)) = true := decide_eq_true (by omega)
  obtain ⟨c15, H, hgo15⟩ := rangeF_go H
  unfold cut_vectors_B0 at H
  try dsimp only at H
  refine Cd.seq ?_
  refine Cd.region ?_
  refine Lst.run rfl rfl (by decide) (Ev.lss rfl rfl) ?_
  refine Lst.nil ?_
  refine At.then ?_
  refine Cd.seq ?_
  refine Cd.condT rfl hc15 ?_
  refine Cd.skip ?_
  refine At.then ?_
  refine Cd.seq ?_
  refine Cd.block ?_
  refine Cd.seq ?_
  refine Cd.region ?_
  refine Lst.run rfl rfl (by decide) (Ev.move rfl) ?_
  obtain ⟨x22, h23, H⟩ := bind_some H
  have g24 := lat_some h23
  refine Lst.run rfl rfl (by decide) (Ev.indexS (α := Event) (xs := a0) rfl rfl Try.runUnderlying24 Try.sizeOf75 rfl (by decide) (hs_a0.mono (FLe.trans hF14 hF21) (List.Sublist.cons _ (List.Sublist.cons _ (List.Sublist.cons _ (List.Sublist.cons _ (List.Sublist.cons _ hM)))))) g24.1 g24.2.1) ?_
  refine Lst.run rfl rfl (by decide) (Ev.loadSA (α := Event) rfl (hs_a0.mono (FLe.trans hF14 hF21) (List.Sublist.cons _ (List.Sublist.cons _ (List.Sublist.cons _ (List.Sublist.cons _ (List.Sublist.cons _ hM)))))) Try.isAgg75 Try.sizeOf75 (ch := enc x22) (Enc.len _) (by decide) ((Get.elemN (s := 3) (x := x22) rfl g24.2.2 (Get.here _)).off (by omega))) ?_
  refine Lst.alloc (cs := enc Event.zero) rfl rfl (by decide) Try.zeroValue75 rfl (fun b25 => ?_)
  refine Lst.run rfl rfl (by decide) (Ev.assign rfl) ?_
  refine Lst.store (i := 0) rfl rfl rfl rfl rfl Try.sizeOf75 (vs := enc x22) rfl (Enc.len _) (Enc.one _) (cs' := enc x22) (Put.here ((Enc.len _).trans (Enc.len _).symm)) (L' := (.blk b25 (enc x22) 75) :: (.rows (α := Vector Int 6) 23 rs16.toList) :: (.own s11 23 6 (encs r9.1)) :: (.blk b7 (enc rs16) 90) :: (.blk b3 (enc (Vector.replicate 6 ⟨[], Sl.nil⟩ : Vector (LR (Vector Int 6)) 6)) 90) :: (.rows (α := Vector Int 6) 23 ((Vector.replicate 6 ⟨[], Sl.nil⟩ : Vector (LR (Vector Int 6)) 6).toList)) :: L) rfl ?_
  refine Lst.nil ?_
  refine At.then ?_
  obtain ⟨x27, h28, H⟩ := bind_some H
  obtain ⟨x31, h32, H⟩ := bind_some H
  obtain ⟨u37, h38, H⟩ := bind_some H
  obtain ⟨o43, h44, H⟩ := Let_some H
  refine Cd.headMeet (σ := Sl × (List (Vector Int 6))) 12 (fun (s41, l42) => [(2, .pointer (some ⟨b3, 0, none⟩)), (3, .pointer (some ⟨b7, 0, none⟩)), (4, Sl.v s11), (13, Sl.v s_a0), (14, .int .i64 (a0.length : Int)), (15, .int .i64 (i15 : Int)), (21, .int .i64 x22.Proc), (31, Sl.v s41)]) (fun (s41, l42) => (.own s41 23 6 (encs l42)) :: (.rows (α := Vector Int 6) 23 (rs16.toList.set x22.Proc.toNat ⟨[], Sl.nil⟩)) :: (.blk b25 (enc x22) 75) :: (.own s11 23 6 (encs r9.1)) :: (.blk b7 (enc rs16) 90) :: (.blk b3 (enc (Vector.replicate 6 ⟨[], Sl.nil⟩ : Vector (LR (Vector Int 6)) 6)) 90) :: (.rows (α := Vector Int 6) 23 ((Vector.replicate 6 ⟨[], Sl.nil⟩ : Vector (LR (Vector Int 6)) 6).toList)) :: L) (fun _ (s41, l42) => l42 = o43) (by kernel_rfl) (by kernel_rfl) (behind_sink (by kernel_rfl) (by kernel_rfl) (by kernel_rfl)) (by kernel_rfl) (fun hsel hlt => ?_) ?_
  · refine HdJ.keep (fun w => St w0 F20 ((.blk b25 (enc x22) 75) :: (.own s11 23 6 (encs r9.1)) :: (.blk b7 (enc rs16) 90) :: (.blk b3 (enc (Vector.replicate 6 ⟨[], Sl.nil⟩ : Vector (LR (Vector Int 6)) 6)) 90) :: (.rows (α := Vector Int 6) 23 ((Vector.replicate 6 ⟨[], Sl.nil⟩ : Vector (LR (Vector Int 6)) 6).toList)) :: L) w) (fun w h => trivial) ?_
    refine HdJ.takeK hsel hlt 0 (fun w h => h.sublist (List.Sublist.cons_cons _ (List.Sublist.cons _ (List.Sublist.cons_cons _ (List.Sublist.cons_cons _ (List.Sublist.cons_cons _ (List.Sublist.cons_cons _ (List.Sublist.refl _)))))))) rfl rfl (by decide) (by decide) (by kernel_rfl) (by kernel_rfl) rfl (Ev.fieldAddr (off' := 0) rfl Try.runUnderlying75 rfl Try.sizeOf3 rfl rfl) ?_
    refine HdJ.takeK hsel hlt 1 (fun w h => h.sublist (List.Sublist.cons_cons _ (List.Sublist.cons _ (List.Sublist.cons_cons _ (List.Sublist.cons_cons _ (List.Sublist.cons_cons _ (List.Sublist.cons_cons _ (List.Sublist.refl _)))))))) rfl rfl (by decide) (by decide) (by kernel_rfl) (by kernel_rfl) rfl (Ev.load (i := 0) rfl rfl Try.isAgg3 (v := .int .i64 x22.Proc) ((Event.get_Proc (Get.here _)).off (by rfl))) ?_
    refine HdJ.takeK hsel hlt 2 (fun w h => h.sublist (List.Sublist.cons_cons _ (List.Sublist.cons _ (List.Sublist.cons_cons _ (List.Sublist.cons_cons _ (List.Sublist.cons_cons _ (List.Sublist.cons_cons _ (List.Sublist.refl _)))))))) rfl rfl (by decide) (by decide) (by kernel_rfl) (by kernel_rfl) rfl (Ev.fieldAddr (off' := 0) rfl Try.runUnderlying75 rfl Try.sizeOf3 rfl rfl) ?_
    refine HdJ.takeK hsel hlt 3 (fun w h => h.sublist (List.Sublist.cons_cons _ (List.Sublist.cons _ (List.Sublist.cons_cons _ (List.Sublist.cons_cons _ (List.Sublist.cons_cons _ (List.Sublist.cons_cons _ (List.Sublist.refl _)))))))) rfl rfl (by decide) (by decide) (by kernel_rfl) (by kernel_rfl) rfl (Ev.load (i := 0) rfl rfl Try.isAgg3 (v := .int .i64 x22.Proc) ((Event.get_Proc (Get.here _)).off (by rfl))) ?_
    have g45 := vat_some h28
    obtain ⟨⟨r46v, r46h⟩, r46g, r46e, r46m, r46l⟩ := vmap_get fm18 g45.2.2
    obtain rfl : x27 = r46v := r46e.symm
    refine HdJ.takeK hsel hlt 4 (fun w h => h.sublist (List.Sublist.cons_cons _ (List.Sublist.cons _ (List.Sublist.cons_cons _ (List.Sublist.cons_cons _ (List.Sublist.cons_cons _ (List.Sublist.cons_cons _ (List.Sublist.refl _)))))))) rfl rfl (by decide) (by decide) (by kernel_rfl) (by kernel_rfl) rfl (Ev.indexAddr (off' := 0 + x22.Proc.toNat * 1) rfl rfl Try.runUnderlying90 Try.sizeOf28 g45.1 g45.2.1 rfl) ?_
    refine HdJ.takeK hsel hlt 5 (fun w h => h.sublist (List.Sublist.cons_cons _ (List.Sublist.cons _ (List.Sublist.cons_cons _ (List.Sublist.cons_cons _ (List.Sublist.cons_cons _ (List.Sublist.cons_cons _ (List.Sublist.refl _)))))))) rfl rfl (by decide) (by decide) (by kernel_rfl) (by kernel_rfl) rfl (Ev.load (i := 2) rfl rfl Try.isAgg28 (v := Sl.v r46h) ((Get.vecN (s := 1) rfl r46g (Get.here _)).off (by omega))) ?_
    refine HdJ.takeK hsel hlt 6 (fun w h => h.sublist (List.Sublist.cons_cons _ (List.Sublist.cons _ (List.Sublist.cons_cons _ (List.Sublist.cons_cons _ (List.Sublist.cons_cons _ (List.Sublist.cons_cons _ (List.Sublist.refl _)))))))) rfl rfl (by decide) (by decide) (by kernel_rfl) (by kernel_rfl) rfl (Ev.move rfl) ?_
    refine HdJ.takeK hsel hlt 7 (fun w h => h.sublist (List.Sublist.cons_cons _ (List.Sublist.cons _ (List.Sublist.cons_cons _ (List.Sublist.cons_cons _ (List.Sublist.cons_cons _ (List.Sublist.cons_cons _ (List.Sublist.refl _)))))))) rfl rfl (by decide) (by decide) (by kernel_rfl) (by kernel_rfl) rfl (Ev.move rfl) ?_
    have g47 := lat_some h32
    refine HdJ.takeK hsel hlt 8 (fun w h => h.sublist (List.Sublist.cons_cons _ (List.Sublist.cons _ (List.Sublist.cons_cons _ (List.Sublist.cons_cons _ (List.Sublist.cons_cons _ (List.Sublist.cons_cons _ (List.Sublist.refl _)))))))) rfl rfl (by decide) (by decide) (by kernel_rfl) (by kernel_rfl) rfl (Ev.indexS (α := Vector Int 6) (xs := r9.1) rfl rfl Try.runUnderlying28 Try.sizeOf23 rfl (by decide) (Rd.own (i := 1) rfl rfl rfl) g47.1 g47.2.1) ?_
    refine HdJ.takeK hsel hlt 9 (fun w h => h.sublist (List.Sublist.cons_cons _ (List.Sublist.cons _ (List.Sublist.cons_cons _ (List.Sublist.cons_cons _ (List.Sublist.cons_cons _ (List.Sublist.cons_cons _ (List.Sublist.refl _)))))))) rfl rfl (by decide) (by decide) (by kernel_rfl) (by kernel_rfl) rfl (Ev.loadSA (α := Vector Int 6) rfl (Rd.own (i := 1) rfl rfl rfl) Try.isAgg23 Try.sizeOf23 (ch := enc x31) (Enc.len _) (by decide) ((Get.elemN (s := 6) (x := x31) rfl g47.2.2 (Get.here _)).off (by omega))) ?_
    refine HdJ.step [10] (by kernel_rfl) rfl ?_
    refine HdStep.cons (by decide) rfl (fun inv => ?_) ?_
    · refine Lst.buildSlice (α := Vector Int 6) (xs := ([x31] : List (Vector Int 6))) (pv := [(0, .agg (enc x31).toArray)]) rfl rfl (by decide) ⟨rfl, rfl, trivial⟩ (run_buildSlice (α := Vector Int 6) (z0 := (Vector.replicate 6 (0 : Int))) (xs := ([x31] : List (Vector Int 6))) Try.runUnderlying28 Try.sizeOf23 Try.zeroValue23 rfl rfl rfl (by decide) rfl (fill_cons (cs := encs (List.replicate 1 (Vector.replicate 6 (0 : Int)))) (cs' := encs ((List.replicate 1 (Vector.replicate 6 (0 : Int))).set 0 x31)) (vs := enc x31) rfl rfl (Enc.len _) ((Put.elemN (s := 6) (i := 0) (x := (Vector.replicate 6 (0 : Int))) (y := x31) rfl rfl (Put.here ((Enc.len _).trans (Enc.len _).symm))).off rfl) fill_nil)) rfl rfl (by decide) (fun s48 _ => ?_)
      refine Lst.nil ?_
      refine At.hd inv (fun w h => (h.weaken (FLe.refl _)).sublist (List.Sublist.cons _ (List.Sublist.cons_cons _ (List.Sublist.cons _ (List.Sublist.cons_cons _ (List.Sublist.cons_cons _ (List.Sublist.cons_cons _ (List.Sublist.cons_cons _ (List.Sublist.refl _))))))))) ?_
      refine HdJ.step [11] (by kernel_rfl) rfl ?_
      refine HdStep.cons (by decide) rfl (fun inv => ?_) ?_
      · refine Lst.front (i := 2) rfl (L' := (.rows (α := Vector Int 6) 23 rs16.toList) :: (.own s48 23 6 (encs ([x31] : List (Vector Int 6)))) :: (.blk b25 (enc x22) 75) :: (.own s11 23 6 (encs r9.1)) :: (.blk b7 (enc rs16) 90) :: (.blk b3 (enc (Vector.replicate 6 ⟨[], Sl.nil⟩ : Vector (LR (Vector Int 6)) 6)) 90) :: (.rows (α := Vector Int 6) 23 ((Vector.replicate 6 ⟨[], Sl.nil⟩ : Vector (LR (Vector Int 6)) 6).toList)) :: L) rfl ?_
        refine Lst.rowOut (k := x22.Proc.toNat) r46l rfl ?_
        refine Lst.its (L' := (.own r46h 23 6 (encs x27)) :: (.rows (α := Vector Int 6) 23 (rs16.toList.set x22.Proc.toNat ⟨[], Sl.nil⟩)) :: (.own s48 23 6 (encs ([x31] : List (Vector Int 6)))) :: (.blk b25 (enc x22) 75) :: (.own s11 23 6 (encs r9.1)) :: (.blk b7 (enc rs16) 90) :: (.blk b3 (enc (Vector.replicate 6 ⟨[], Sl.nil⟩ : Vector (LR (Vector Int 6)) 6)) 90) :: (.rows (α := Vector Int 6) 23 ((Vector.replicate 6 ⟨[], Sl.nil⟩ : Vector (LR (Vector Int 6)) 6).toList)) :: L) rfl ?_
        refine Lst.append (i := 0) (α := Vector Int 6) (xs := x27) (ys := ([x31] : List (Vector Int 6))) rfl rfl (by decide) rfl rfl Try.runUnderlying28 Try.typeInfo23 rfl rfl rfl rfl rfl rfl (Rd.own (i := 2) rfl rfl rfl) rfl (room_some h38) rfl (fun s49 => ?_)
        refine Lst.its (L' := (.own s49 23 6 (encs (x27 ++ ([x31] : List (Vector Int 6))))) :: (.rows (α := Vector Int 6) 23 (rs16.toList.set x22.Proc.toNat ⟨[], Sl.nil⟩)) :: (.own s48 23 6 (encs ([x31] : List (Vector Int 6)))) :: (.blk b25 (enc x22) 75) :: (.own s11 23 6 (encs r9.1)) :: (.blk b7 (enc rs16) 90) :: (.blk b3 (enc (Vector.replicate 6 ⟨[], Sl.nil⟩ : Vector (LR (Vector Int 6)) 6)) 90) :: (.rows (α := Vector Int 6) 23 ((Vector.replicate 6 ⟨[], Sl.nil⟩ : Vector (LR (Vector Int 6)) 6).toList)) :: L) rfl ?_
        refine Lst.nil ?_
        refine At.hd inv (fun w h => (h.weaken (FLe.refl _)).sublist (List.Sublist.cons _ (List.Sublist.cons _ (List.Sublist.cons _ (List.Sublist.cons_cons _ (List.Sublist.cons_cons _ (List.Sublist.cons_cons _ (List.Sublist.cons_cons _ (List.Sublist.cons_cons _ (List.Sublist.refl _)))))))))) ?_
        refine HdJ.done (by kernel_rfl) ?_
        refine At.less (L' := (.own s49 23 6 (encs (x27 ++ ([x31] : List (Vector Int 6))))) :: (.rows (α := Vector Int 6) 23 (rs16.toList.set x22.Proc.toNat ⟨[], Sl.nil⟩)) :: (.blk b25 (enc x22) 75) :: (.own s11 23 6 (encs r9.1)) :: (.blk b7 (enc rs16) 90) :: (.blk b3 (enc (Vector.replicate 6 ⟨[], Sl.nil⟩ : Vector (LR (Vector Int 6)) 6)) 90) :: (.rows (α := Vector Int 6) 23 ((Vector.replicate 6 ⟨[], Sl.nil⟩ : Vector (LR (Vector Int 6)) 6).toList)) :: L) (List.Sublist.cons_cons _ (List.Sublist.cons_cons _ (List.Sublist.cons _ (List.Sublist.cons_cons _ (List.Sublist.cons_cons _ (List.Sublist.cons_cons _ (List.Sublist.cons_cons _ (List.Sublist.cons_cons _ (List.Sublist.refl _))))))))) ?_
        exact At.meetN (s49, x27 ++ ([x31] : List (Vector Int 6))) (FLe.refl _) ⟨rfl, rfl, rfl, rfl, rfl, rfl, rfl, rfl, trivial⟩ rfl h44
      exact trivial
    exact trivial
  rintro F50 ⟨s41, l42⟩ hF51 hy
  subst hy
  refine Lst.as (e' := [(2, .pointer (some ⟨b3, 0, none⟩)), (3, .pointer (some ⟨b7, 0, none⟩)), (4, Sl.v s11), (13, Sl.v s_a0), (14, .int .i64 (a0.length : Int)), (15, .int .i64 (i15 : Int)), (21, .int .i64 x22.Proc), (31, Sl.v s41)]) (L' := (.own s41 23 6 (encs l42)) :: (.rows (α := Vector Int 6) 23 (rs16.toList.set x22.Proc.toNat ⟨[], Sl.nil⟩)) :: (.blk b25 (enc x22) 75) :: (.own s11 23 6 (encs r9.1)) :: (.blk b7 (enc rs16) 90) :: (.blk b3 (enc (Vector.replicate 6 ⟨[], Sl.nil⟩ : Vector (LR (Vector Int 6)) 6)) 90) :: (.rows (α := Vector Int 6) 23 ((Vector.replicate 6 ⟨[], Sl.nil⟩ : Vector (LR (Vector Int 6)) 6).toList)) :: L) ⟨rfl, rfl, rfl, rfl, rfl, rfl, rfl, rfl, trivial⟩ rfl ?_
  obtain ⟨x52, h53, H⟩ := bind_some H
  have g54 := vat_some h53
  obtain ⟨⟨r55v, r55h⟩, r55g, r55e, r55m, r55l⟩ := vmap_get fm18 g54.2.2
  obtain rfl : x52 = r55v := r55e.symm
  refine Lst.run rfl rfl (by decide) (Ev.indexAddr (off' := 0 + x22.Proc.toNat * 1) rfl rfl Try.runUnderlying90 Try.sizeOf28 g54.1 g54.2.1 rfl) ?_
  obtain ⟨p56, h57, H⟩ := Let_some H
  have hm58 : (rs16.setIfInBounds x22.Proc.toNat (LR.mk l42 s41)).toList.map LR.v = p56.toList := (vmap_set fm18 _ _).trans (congrArg Vector.toList h57)
  refine Lst.store (i := 4) rfl rfl rfl rfl rfl Try.sizeOf28 (vs := [Sl.v s41]) rfl rfl rfl (cs' := enc (rs16.setIfInBounds x22.Proc.toNat (LR.mk l42 s41))) ((Put.vecN (s := 1) (y := (LR.mk l42 s41)) rfl r55g (Put.here (vs := [Sl.v s41]) rfl)).off (by omega)) (L' := (.own s41 23 6 (encs l42)) :: (.rows (α := Vector Int 6) 23 (rs16.toList.set x22.Proc.toNat ⟨[], Sl.nil⟩)) :: (.blk b25 (enc x22) 75) :: (.own s11 23 6 (encs r9.1)) :: (.blk b7 (enc (rs16.setIfInBounds x22.Proc.toNat (LR.mk l42 s41))) 90) :: (.blk b3 (enc (Vector.replicate 6 ⟨[], Sl.nil⟩ : Vector (LR (Vector Int 6)) 6)) 90) :: (.rows (α := Vector Int 6) 23 ((Vector.replicate 6 ⟨[], Sl.nil⟩ : Vector (LR (Vector Int 6)) 6).toList)) :: L) rfl ?_
  refine Lst.rowIn (k := x22.Proc.toNat) (by rw [List.getElem?_set_self (List.getElem?_eq_some_iff.1 r55l).1]) rfl ?_
  refine Lst.its (L' := (.rows (α := Vector Int 6) 23 ((rs16.setIfInBounds x22.Proc.toNat (LR.mk l42 s41)).toList)) :: (.blk b25 (enc x22) 75) :: (.own s11 23 6 (encs r9.1)) :: (.blk b7 (enc (rs16.setIfInBounds x22.Proc.toNat (LR.mk l42 s41))) 90) :: (.blk b3 (enc (Vector.replicate 6 ⟨[], Sl.nil⟩ : Vector (LR (Vector Int 6)) 6)) 90) :: (.rows (α := Vector Int 6) 23 ((Vector.replicate 6 ⟨[], Sl.nil⟩ : Vector (LR (Vector Int 6)) 6).toList)) :: L) (by rw [List.set_set, Vector.toList_setIfInBounds]) ?_
  refine Lst.nil ?_
  refine At.in_normal ?_
  refine At.then ?_
  refine Cd.region ?_
  refine Lst.run rfl rfl (by decide) (Ev.incr (by omega) rfl rfl) ?_
  refine Lst.run rfl rfl (by decide) (Ev.move rfl) ?_
  refine Lst.nil ?_
  refine At.less (L' := (.rows (α := Vector Int 6) 23 ((rs16.setIfInBounds x22.Proc.toNat (LR.mk l42 s41)).toList)) :: (.own s11 23 6 (encs r9.1)) :: (.blk b7 (enc (rs16.setIfInBounds x22.Proc.toNat (LR.mk l42 s41))) 90) :: (.blk b3 (enc (Vector.replicate 6 ⟨[], Sl.nil⟩ : Vector (LR (Vector Int 6)) 6)) 90) :: (.rows (α := Vector Int 6) 23 ((Vector.replicate 6 ⟨[], Sl.nil⟩ : Vector (LR (Vector Int 6)) 6).toList)) :: L) (List.Sublist.cons_cons _ (List.Sublist.cons _ (List.Sublist.cons_cons _ (List.Sublist.cons_cons _ (List.Sublist.cons_cons _ (List.Sublist.cons_cons _ (List.Sublist.refl _))))))) ?_
  exact At.meet (i15 + 1, k15, (rs16.setIfInBounds x22.Proc.toNat (LR.mk l42 s41)), p56) (FLe.trans hF21 hF51) ⟨rfl, rfl, rfl, rfl, rfl, rfl, trivial⟩ rfl ⟨⟨hgo15 _ (some_inj H).symm, by omega, hm58⟩, Nat.lt_succ_self _⟩
set_option maxRecDepth 20000 in
theorem cut_grown_sim {a0 : Vector (List (Vector Int 6)) 6} {a1 : Vector Int 6} {rs_a0 : Vector (LR (Vector Int 6)) 6} {r : (Vector Int 6)} (H : cut_grown a0 a1 = some r) (w0 : World) (F : Frz) (M L : List Item) (hM : M.Sublist L) (hm_a0 : rs_a0.toList.map LR.v = a0.toList) (ha_a0 : All LR.rel w0 F M rs_a0.toList) : Ok Try.prog w0 55 [.agg (enc rs_a0).toArray, .agg (enc a1).toArray] F (L) (Is (.agg (enc r).toArray) (L)) := by
  unfold cut_grown at H
  refine Ok.enter (m := 2) (n := 27) Try.func55 rfl rfl rfl (by decide) ?_
  refine Cd.env (e' := [(0, .agg (enc rs_a0).toArray), (1, .agg (enc a1).toArray)]) rfl ?_
  refine Cd.seq ?_
  refine Cd.region ?_
  refine Lst.box rfl rfl (by decide) rfl (cs := enc rs_a0) rfl (fun b1 => ?_)
  refine Lst.box rfl rfl (by decide) rfl (cs := enc a1) rfl (fun b3 => ?_)
  refine Lst.alloc (cs := enc (Vector.replicate 6 (0 : Int))) rfl rfl (by decide) Try.zeroValue23 rfl (fun b5 => ?_)
  refine Lst.nil ?_
  refine At.then ?_
  refine Cd.seq ?_
  refine Cd.region ?_
  refine Lst.run rfl rfl (by decide) (Ev.loadA (i := 1) rfl rfl Try.isAgg23 Try.sizeOf23 (ch := enc a1) (Enc.len _) (Get.here _)) ?_
  refine Lst.alloc (cs := enc (Vector.replicate 6 (0 : Int))) rfl rfl (by decide) Try.zeroValue23 rfl (fun b7 => ?_)
  refine Lst.store (i := 0) rfl rfl rfl rfl rfl Try.sizeOf23 (vs := enc a1) rfl (Enc.len _) (Enc.one _) (cs' := enc a1) (Put.here ((Enc.len _).trans (Enc.len _).symm)) (L' := (.blk b7 (enc a1) 23) :: (.blk b5 (enc (Vector.replicate 6 (0 : Int))) 23) :: (.blk b3 (enc a1) 23) :: (.blk b1 (enc rs_a0) 90) :: L) rfl ?_
  refine Lst.nil ?_
  refine At.then ?_
  refine Cd.seq ?_
  refine Cd.seq ?_
  refine Cd.region ?_
  refine Lst.run rfl rfl (by decide) (Ev.loadA (i := 2) rfl rfl Try.isAgg23 Try.sizeOf23 (ch := enc a1) (Enc.len _) (Get.here _)) ?_
  refine Lst.run rfl rfl (by decide) (Ev.move rfl) ?_
  refine Lst.nil ?_
  refine At.then ?_
  refine Cd.block ?_
  obtain ⟨ol9, H, HKl9⟩ := bind_some H
  refine Cd.loop (σ := Nat × Nat × (Vector Int 6)) (fun (i9, k9, y10) => [(2, .pointer (some ⟨b1, 0, none⟩)), (4, .pointer (some ⟨b5, 0, none⟩)), (5, .pointer (some ⟨b7, 0, none⟩)), (9, .agg (enc a1).toArray), (10, .int .i64 (i9 : Int))]) (fun (i9, k9, y10) => (.blk b7 (enc y10) 23) :: (.blk b5 (enc (Vector.replicate 6 (0 : Int))) 23) :: (.blk b3 (enc a1) 23) :: (.blk b1 (enc rs_a0) 90) :: L) (fun _ => (fun (i9, k9, y10) => rangeF (cut_grown_B0 a0 a1) k9 i9 y10 = some ol9 ∧ i9 + k9 = 6)) (fun (i9, k9, y10) => k9) (0, 6, a1) ⟨rfl, rfl, rfl, rfl, rfl, trivial⟩ rfl ⟨H, by omega⟩ ?_
  rintro F11 ⟨i9, k9, y10⟩ hF12 ⟨H, hik9⟩
  refine Cd.as (e' := [(2, .pointer (some ⟨b1, 0, none⟩)), (4, .pointer (some ⟨b5, 0, none⟩)), (5, .pointer (some ⟨b7, 0, none⟩)), (9, .agg (enc a1).toArray), (10, .int .i64 (i9 : Int))]) (L' := (.blk b7 (enc y10) 23) :: (.blk b5 (enc (Vector.replicate 6 (0 : Int))) 23) :: (.blk b3 (enc a1) 23) :: (.blk b1 (enc rs_a0) 90) :: L) ⟨rfl, rfl, rfl, rfl, rfl, trivial⟩ rfl ?_
  rcases k9 with _ | k9
  · have hc9 : decide ((i9 : Int) < (6 : Int)) = false := decide_eq_false (by omega)
    replace H := rangeF_end H
    refine Cd.seq ?_
    refine Cd.region ?_
    refine Lst.run rfl rfl (by decide) (Ev.lss rfl rfl) ?_
    refine Lst.nil ?_
    refine At.then ?_
    refine Cd.seq ?_
    refine Cd.condF rfl hc9 ?_
    refine Cd.exit ?_
    refine At.then_exit ?_
    refine At.then_exit ?_
    refine At.in_exit ?_
    subst H
    replace H := HKl9
    refine At.then ?_
    refine Cd.seq ?_
    refine Cd.region ?_
    refine Lst.run rfl rfl (by decide) (Ev.loadA (i := 0) rfl rfl Try.isAgg23 Try.sizeOf23 (ch := enc y10) (Enc.len _) (Get.here _)) ?_
    refine Lst.store (i := 1) rfl rfl rfl rfl rfl Try.sizeOf23 (vs := enc y10) rfl (Enc.len _) (Enc.one _) (cs' := enc y10) (Put.here ((Enc.len _).trans (Enc.len _).symm)) (L' := (.blk b7 (enc y10) 23) :: (.blk b5 (enc y10) 23) :: (.blk b3 (enc a1) 23) :: (.blk b1 (enc rs_a0) 90) :: L) rfl ?_
    refine Lst.nil ?_
    refine At.then ?_
    obtain rfl := some_inj H
    refine Cd.ret ?_
    exact At.ret1 rfl (Res.cellA (i := 1) rfl rfl Try.isAgg23 Try.sizeOf23 (Enc.len _)) hF12 (List.Sublist.cons _ (List.Sublist.cons _ (List.Sublist.cons _ (List.Sublist.cons _ (List.Sublist.refl _))))) ⟨rfl, rfl⟩
  have hc9 : decide ((i9 : Int) < (6 : Int)) = true := decide_eq_true (by omega)
  obtain ⟨c9, H, hgo9⟩ := rangeF_go H
  unfold cut_grown_B0 at H
  try dsimp only at H
  refine Cd.seq ?_
  refine Cd.region ?_
  refine Lst.run rfl rfl (by decide) (Ev.lss rfl rfl) ?_
  refine Lst.nil ?_
  refine At.then ?_
  refine Cd.seq ?_
  refine Cd.condT rfl hc9 ?_
  refine Cd.skip ?_
  refine At.then ?_
  refine Cd.seq ?_
  refine Cd.block ?_
  refine Cd.seq ?_
  refine Cd.region ?_
  refine Lst.run rfl rfl (by decide) (Ev.move rfl) ?_
  obtain ⟨x13, h14, H⟩ := bind_some H
  have g15 := vat_some h14
  refine Lst.run rfl rfl (by decide) (Ev.index1 rfl rfl Try.runUnderlying23 Try.isAgg3 Try.sizeOf3 g15.1 g15.2.1 rfl ((Get.vecN (s := 1) rfl g15.2.2 (Get.here _)).off (by omega))) ?_
  refine Lst.run rfl rfl (by decide) (Ev.assign rfl) ?_
  refine Lst.run rfl rfl (by decide) (Ev.assign rfl) ?_
  refine Lst.nil ?_
  refine At.then ?_
  refine Cd.seq ?_
  refine Cd.region ?_
  refine Lst.run rfl rfl (by decide) (Ev.move rfl) ?_
  refine Lst.run rfl rfl (by decide) (Ev.gtr rfl rfl) ?_
  refine Lst.nil ?_
  refine At.then ?_
  rcases (Bool.eq_false_or_eq_true (decide (x13 > (0 : Int)))).symm with hb16 | hb16
  · replace H := ite_f hb16 H
    refine Cd.condF rfl hb16 ?_
    refine Cd.skip ?_
    refine At.in_normal ?_
    refine At.then ?_
    refine Cd.region ?_
    refine Lst.run rfl rfl (by decide) (Ev.incr (by omega) rfl rfl) ?_
    refine Lst.run rfl rfl (by decide) (Ev.move rfl) ?_
    refine Lst.nil ?_
    exact At.meet (i9 + 1, k9, y10) hF12 ⟨rfl, rfl, rfl, rfl, rfl, trivial⟩ rfl ⟨⟨hgo9 _ (some_inj H).symm, by omega⟩, Nat.lt_succ_self _⟩
  replace H := ite_t hb16 H
  refine Cd.condT rfl hb16 ?_
  refine Cd.tail 9 (by kernel_rfl) (by kernel_rfl) ?_
  refine Qt.run rfl rfl (by decide) (Ev.loadA (i := 0) rfl rfl Try.isAgg23 Try.sizeOf23 (ch := enc y10) (Enc.len _) (Get.here _)) ?_
  refine Qt.run rfl rfl (by decide) (Ev.move rfl) ?_
  obtain ⟨x17, h18, H⟩ := bind_some H
  have g19 := vat_some h18
  obtain ⟨⟨r20v, r20h⟩, r20g, r20e, r20m, r20l⟩ := vmap_get hm_a0 g19.2.2
  obtain rfl : x17 = r20v := r20e.symm
  have r20q : Rd w0 _ _ r20h x17 := ha_a0 _ r20m
  refine Qt.run rfl rfl (by decide) (Ev.indexAddr (off' := 0 + (i9 : Int).toNat * 1) rfl rfl Try.runUnderlying90 Try.sizeOf28 g19.1 g19.2.1 rfl) ?_
  refine Qt.run rfl rfl (by decide) (Ev.load (i := 3) rfl rfl Try.isAgg28 (v := Sl.v r20h) ((Get.vecN (s := 1) rfl r20g (Get.here _)).off (by omega))) ?_
  refine Qt.run rfl rfl (by decide) (Ev.move rfl) ?_
  refine Qt.run rfl rfl (by decide) (Ev.sub rfl rfl) ?_
  obtain ⟨x21, h22, H⟩ := bind_some H
  have g23 := lat_some h22
  refine Qt.run rfl rfl (by decide) (Ev.indexS (α := Vector Int 6) (xs := x17) rfl rfl Try.runUnderlying28 Try.sizeOf23 rfl (by decide) (r20q.mono hF12 (List.Sublist.cons _ (List.Sublist.cons _ (List.Sublist.cons _ (List.Sublist.cons _ hM))))) g23.1 g23.2.1) ?_
  refine Qt.run rfl rfl (by decide) (Ev.loadSA (α := Vector Int 6) rfl (r20q.mono hF12 (List.Sublist.cons _ (List.Sublist.cons _ (List.Sublist.cons _ (List.Sublist.cons _ hM))))) Try.isAgg23 Try.sizeOf23 (ch := enc x21) (Enc.len _) (by decide) ((Get.elemN (s := 6) (x := x21) rfl g23.2.2 (Get.here _)).off (by omega))) ?_
  obtain ⟨r24, h25, H⟩ := bind_some H
  refine Qt.call rfl rfl (by decide) (vs := [.agg (enc y10).toArray, .agg (enc x21).toArray]) ⟨rfl, rfl, trivial⟩ Try.call10 (vect_Max_sim h25 w0 _ M _ (List.Sublist.cons _ (List.Sublist.cons _ (List.Sublist.cons _ (List.Sublist.cons _ hM))))) ?_
  refine Qt.tail ?_
  refine Lst.store (i := 0) rfl rfl rfl rfl rfl Try.sizeOf23 (vs := enc r24) rfl (Enc.len _) (Enc.one _) (cs' := enc r24) (Put.here ((Enc.len _).trans (Enc.len _).symm)) (L' := (.blk b7 (enc r24) 23) :: (.blk b5 (enc (Vector.replicate 6 (0 : Int))) 23) :: (.blk b3 (enc a1) 23) :: (.blk b1 (enc rs_a0) 90) :: L) rfl ?_
  refine Lst.nil ?_
  refine At.in_normal ?_
  refine At.then ?_
  refine Cd.as (e' := [(2, .pointer (some ⟨b1, 0, none⟩)), (4, .pointer (some ⟨b5, 0, none⟩)), (5, .pointer (some ⟨b7, 0, none⟩)), (9, .agg (enc a1).toArray), (10, .int .i64 (i9 : Int))]) (L' := (.blk b7 (enc r24) 23) :: (.blk b5 (enc (Vector.replicate 6 (0 : Int))) 23) :: (.blk b3 (enc a1) 23) :: (.blk b1 (enc rs_a0) 90) :: L) ⟨rfl, rfl, rfl, rfl, rfl, trivial⟩ rfl ?_
  refine Cd.region ?_
  refine Lst.run rfl rfl (by decide) (Ev.incr (by omega) rfl rfl) ?_
  refine Lst.run rfl rfl (by decide) (Ev.move rfl) ?_
  refine Lst.nil ?_
  exact At.meet (i9 + 1, k9, r24) hF12 ⟨rfl, rfl, rfl, rfl, rfl, trivial⟩ rfl ⟨⟨hgo9 _ (some_inj H).symm, by omega⟩, Nat.lt_succ_self _⟩
set_option maxRecDepth 20000 in
theorem cut_Grow_sim {a0 : List Event} {a1 : Vector Int 6} {s_a0 : Sl} {r : (Vector Int 6) × Int} (H : cut_Grow a0 a1 = some r) (w0 : World) (F : Frz) (M L : List Item) (hM : M.Sublist L) (hs_a0 : Rd w0 F M s_a0 a0) : Ok Try.prog w0 30 [Sl.v s_a0, .agg (enc a1).toArray] F (L) (Is (.tuple #[.agg (enc r.1).toArray, .int .i64 r.2]) (L)) := by
  unfold cut_Grow at H
  refine Ok.enter (m := 2) (n := 18) Try.func30 rfl rfl rfl (by decide) ?_
  refine Cd.env (e' := [(0, Sl.v s_a0), (1, .agg (enc a1).toArray)]) rfl ?_
  refine Cd.seq ?_
  refine Cd.region ?_
  refine Lst.box rfl rfl (by decide) rfl (cs := enc a1) rfl (fun b1 => ?_)
  refine Lst.alloc (cs := enc (Vector.replicate 6 (0 : Int))) rfl rfl (by decide) Try.zeroValue23 rfl (fun b3 => ?_)
  refine Lst.run rfl rfl (by decide) (Ev.assign rfl) ?_
  refine Lst.nil ?_
  refine At.then ?_
  refine Cd.seq ?_
  refine Cd.seq ?_
  refine Cd.region ?_
  refine Lst.run rfl rfl (by decide) (Ev.move rfl) ?_
  refine Lst.run rfl rfl (by decide) (Ev.loadA (i := 1) rfl rfl Try.isAgg23 Try.sizeOf23 (ch := enc a1) (Enc.len _) (Get.here _)) ?_
  obtain ⟨r5, h6, H⟩ := bind_some H
  refine Lst.call1 rfl rfl (by decide) (vs := [Sl.v s_a0, .agg (enc a1).toArray]) ⟨rfl, rfl, trivial⟩ Try.call32 (cut_Check_sim h6 w0 _ M _ (List.Sublist.cons _ (List.Sublist.cons _ hM)) (hs_a0.mono (FLe.refl _) (List.Sublist.refl _))) ?_
  refine Lst.run rfl rfl (by decide) (Ev.assign rfl) ?_
  refine Lst.nil ?_
  refine At.then ?_
  refine Cd.seq ?_
  refine Cd.region ?_
  refine Lst.run rfl rfl (by decide) (Ev.move rfl) ?_
  refine Lst.run rfl rfl (by decide) (Ev.neq rfl rfl) ?_
  refine Lst.nil ?_
  refine At.then ?_
  rcases Bool.eq_false_or_eq_true (r5 != (0 : Int)) with hb9 | hb9
  · replace H := ite_t hb9 H
    refine Cd.condT rfl hb9 ?_
    refine Cd.seq ?_
    refine Cd.region ?_
    refine Lst.run rfl rfl (by decide) (Ev.build (v := .agg (enc ((Vector.replicate 6 (0 : Int)) : Vector Int 6)).toArray) (pv := []) trivial (fun w => by kernel_rfl)) ?_
    refine Lst.run rfl rfl (by decide) (Ev.move rfl) ?_
    refine Lst.store (i := 0) rfl rfl rfl rfl rfl Try.sizeOf23 (vs := enc ((Vector.replicate 6 (0 : Int)) : Vector Int 6)) rfl (Enc.len _) (Enc.one _) (cs' := enc ((Vector.replicate 6 (0 : Int)) : Vector Int 6)) (Put.here ((Enc.len _).trans (Enc.len _).symm)) (L' := (.blk b3 (enc ((Vector.replicate 6 (0 : Int)) : Vector Int 6)) 23) :: (.blk b1 (enc a1) 23) :: L) rfl ?_
    refine Lst.run rfl rfl (by decide) (Ev.assign rfl) ?_
    refine Lst.nil ?_
    refine At.then ?_
    obtain rfl := some_inj H
    refine Cd.ret ?_
    refine At.then_ret ?_
    exact At.ret2 rfl (Res.cellA (i := 0) rfl rfl Try.isAgg23 Try.sizeOf23 (Enc.len _)) (Res.tmp rfl) (FLe.refl _) (List.Sublist.cons _ (List.Sublist.cons _ (List.Sublist.refl _))) ⟨rfl, rfl⟩
  replace H := ite_f hb9 H
  refine Cd.condF rfl hb9 ?_
  refine Cd.skip ?_
  refine At.then ?_
  refine Cd.seq ?_
  obtain ⟨r10, h11, H⟩ := bind_some H
  obtain ⟨o22, h23, H⟩ := Let_some H
  refine Cd.headMeet (σ := (Vector (LR (Vector Int 6)) 6) × (Vector (List (Vector Int 6)) 6)) 3 (fun (rs18, l19) => [(4, .pointer (some ⟨b3, 0, none⟩)), (15, .agg (enc rs18).toArray), (16, .agg (enc a1).toArray)]) (fun (rs18, l19) => (.rows (α := Vector Int 6) 23 rs18.toList) :: (.blk b3 (enc (Vector.replicate 6 (0 : Int))) 23) :: (.blk b1 (enc a1) 23) :: L) (fun Fx (rs18, l19) => l19 = o22 ∧ rs18.toList.map LR.v = l19.toList) (by kernel_rfl) (by kernel_rfl) (behind_sink (by kernel_rfl) (by kernel_rfl) (by kernel_rfl)) (by kernel_rfl) (fun hsel hlt => ?_) ?_
  · refine HdJ.keep (fun w => St w0 F ((.blk b3 (enc (Vector.replicate 6 (0 : Int))) 23) :: (.blk b1 (enc a1) 23) :: L) w) (fun w h => trivial) ?_
    refine HdJ.takeK hsel hlt 0 (fun w h => h.sublist (List.Sublist.cons_cons _ (List.Sublist.cons_cons _ (List.Sublist.refl _)))) rfl rfl (by decide) (by decide) (by kernel_rfl) (by kernel_rfl) rfl (Ev.move rfl) ?_
    refine HdJ.takeK hsel hlt 2 (fun w h => h.sublist (List.Sublist.cons_cons _ (List.Sublist.cons_cons _ (List.Sublist.refl _)))) rfl rfl (by decide) (by decide) (by kernel_rfl) (by kernel_rfl) rfl (Ev.loadA (i := 1) rfl rfl Try.isAgg23 Try.sizeOf23 (ch := enc a1) (Enc.len _) (Get.here _)) ?_
    refine HdJ.step [1] (by kernel_rfl) rfl ?_
    refine HdStep.cons (by decide) rfl (fun inv => ?_) ?_
    · refine Lst.call rfl rfl (by decide) (vs := [Sl.v s_a0]) ⟨rfl, trivial⟩ Try.call56 (cut_vectors_sim h11 w0 _ M _ (List.Sublist.cons _ (List.Sublist.cons _ hM)) (hs_a0.mono (FLe.refl _) (List.Sublist.refl _))) (fun F26 L' v hF27 hv => ?_)
      obtain ⟨rs24, rfl, rfl, fm25⟩ := hv
      refine Lst.nil ?_
      refine At.hd inv (fun w h => (h.weaken hF27).sublist (List.Sublist.cons _ (List.Sublist.cons_cons _ (List.Sublist.cons_cons _ (List.Sublist.refl _))))) ?_
      refine HdJ.done (by kernel_rfl) ?_
      exact At.meetN (rs24, r10) hF27 ⟨rfl, rfl, rfl, trivial⟩ rfl ⟨h23, fm25⟩
    exact trivial
  rintro F28 ⟨rs18, l19⟩ hF29 ⟨hy, fm20⟩
  subst hy
  refine Lst.as (e' := [(4, .pointer (some ⟨b3, 0, none⟩)), (15, .agg (enc rs18).toArray), (16, .agg (enc a1).toArray)]) (L' := (.rows (α := Vector Int 6) 23 rs18.toList) :: (.blk b3 (enc (Vector.replicate 6 (0 : Int))) 23) :: (.blk b1 (enc a1) 23) :: L) ⟨rfl, rfl, rfl, trivial⟩ rfl ?_
  obtain ⟨r30, h31, H⟩ := bind_some H
  refine Lst.call1 rfl rfl (by decide) (vs := [.agg (enc rs18).toArray, .agg (enc a1).toArray]) ⟨rfl, rfl, trivial⟩ Try.call55 (cut_grown_sim h31 w0 _ _ _ (List.Sublist.refl _) fm20 (All.rowsHead (j := 0) rfl)) ?_
  refine Lst.store (i := 1) rfl rfl rfl rfl rfl Try.sizeOf23 (vs := enc r30) rfl (Enc.len _) (Enc.one _) (cs' := enc r30) (Put.here ((Enc.len _).trans (Enc.len _).symm)) (L' := (.rows (α := Vector Int 6) 23 rs18.toList) :: (.blk b3 (enc r30) 23) :: (.blk b1 (enc a1) 23) :: L) rfl ?_
  refine Lst.run rfl rfl (by decide) (Ev.assign rfl) ?_
  refine Lst.nil ?_
  refine At.then ?_
  obtain rfl := some_inj H
  refine Cd.ret ?_
  exact At.ret2 rfl (Res.cellA (i := 1) rfl rfl Try.isAgg23 Try.sizeOf23 (Enc.len _)) (Res.tmp rfl) hF29 (List.Sublist.cons _ (List.Sublist.cons _ (List.Sublist.cons _ (List.Sublist.refl _)))) ⟨rfl, rfl⟩
set_option maxRecDepth 20000 in
theorem pred_First_sim {fu : Nat} {a0 : List Event} {a1 : List (List Bool)} {s_a0 : Sl} {s_a1 : Sl} {rs_a1 : List (LR Bool)} {r : (Vector Int 6) × Int} (H : pred_First fu a0 a1 = some r) (w0 : World) (F : Frz) (M L : List Item) (hM : M.Sublist L) (hs_a0 : Rd w0 F M s_a0 a0) (hm_a1 : rs_a1.map LR.v = a1) (hs_a1 : Rd w0 F M s_a1 rs_a1) (ha_a1 : All LR.rel w0 F M rs_a1) : Ok Try.prog w0 39 [Sl.v s_a0, Sl.v s_a1] F (L) (Is (.tuple #[.agg (enc r.1).toArray, .int .i64 r.2]) (L)) := by
  unfold pred_First at H
  refine Ok.enter (m := 2) (n := 56) Try.func39 rfl rfl rfl (by decide) ?_
  refine Cd.env (e' := [(0, Sl.v s_a0), (1, Sl.v s_a1)]) rfl ?_
  refine Cd.seq ?_
  refine Cd.region ?_
  refine Lst.alloc (cs := enc (Vector.replicate 6 (0 : Int))) rfl rfl (by decide) Try.zeroValue23 rfl (fun b1 => ?_)
  refine Lst.run rfl rfl (by decide) (Ev.assign rfl) ?_
  refine Lst.nil ?_
  refine At.then ?_
  refine Cd.seq ?_
  refine Cd.seq ?_
  refine Cd.region ?_
  refine Lst.run rfl rfl (by decide) (Ev.move rfl) ?_
  refine Lst.run rfl rfl (by decide) (Ev.move rfl) ?_
  obtain ⟨r3, h4, H⟩ := bind_some H
  refine Lst.call1 rfl rfl (by decide) (vs := [Sl.v s_a0, Sl.v s_a1]) ⟨rfl, rfl, trivial⟩ Try.call41 (pred_Check_sim h4 w0 _ M _ (List.Sublist.cons _ hM) (hs_a0.mono (FLe.refl _) (List.Sublist.refl _)) hm_a1 (hs_a1.mono (FLe.refl _) (List.Sublist.refl _)) (All.monoLR ha_a1 (FLe.refl _) (List.Sublist.refl _))) ?_
  refine Lst.run rfl rfl (by decide) (Ev.assign rfl) ?_
  refine Lst.nil ?_
  refine At.then ?_
  refine Cd.seq ?_
  refine Cd.region ?_
  refine Lst.run rfl rfl (by decide) (Ev.move rfl) ?_
  refine Lst.run rfl rfl (by decide) (Ev.neq rfl rfl) ?_
  refine Lst.nil ?_
  refine At.then ?_
  rcases Bool.eq_false_or_eq_true (r3 != (0 : Int)) with hb7 | hb7
  · replace H := ite_t hb7 H
    refine Cd.condT rfl hb7 ?_
    refine Cd.seq ?_
    refine Cd.region ?_
    refine Lst.run rfl rfl (by decide) (Ev.build (v := .agg (enc ((Vector.replicate 6 (0 : Int)) : Vector Int 6)).toArray) (pv := []) trivial (fun w => by kernel_rfl)) ?_
    refine Lst.run rfl rfl (by decide) (Ev.move rfl) ?_
    refine Lst.store (i := 0) rfl rfl rfl rfl rfl Try.sizeOf23 (vs := enc ((Vector.replicate 6 (0 : Int)) : Vector Int 6)) rfl (Enc.len _) (Enc.one _) (cs' := enc ((Vector.replicate 6 (0 : Int)) : Vector Int 6)) (Put.here ((Enc.len _).trans (Enc.len _).symm)) (L' := (.blk b1 (enc ((Vector.replicate 6 (0 : Int)) : Vector Int 6)) 23) :: L) rfl ?_
    refine Lst.run rfl rfl (by decide) (Ev.assign rfl) ?_
    refine Lst.nil ?_
    refine At.then ?_
    obtain rfl := some_inj H
    refine Cd.ret ?_
    refine At.then_ret ?_
    exact At.ret2 rfl (Res.cellA (i := 0) rfl rfl Try.isAgg23 Try.sizeOf23 (Enc.len _)) (Res.tmp rfl) (FLe.refl _) (List.Sublist.cons _ (List.Sublist.refl _)) ⟨rfl, rfl⟩
  replace H := ite_f hb7 H
  refine Cd.condF rfl hb7 ?_
  refine Cd.skip ?_
  refine At.then ?_
  refine Cd.seq ?_
  refine Cd.region ?_
  refine Lst.alloc (cs := enc (Vector.replicate 6 (0 : Int))) rfl rfl (by decide) Try.zeroValue23 rfl (fun b8 => ?_)
  refine Lst.nil ?_
  refine At.then ?_
  refine Cd.seq ?_
  refine Cd.block ?_
  obtain ⟨ol10, H, HKl10⟩ := andThen_some H
  refine Cd.loop (σ := Nat × (Vector Int 6)) (fun (k10, y11) => [(0, Sl.v s_a0), (1, Sl.v s_a1), (4, .pointer (some ⟨b1, 0, none⟩)), (7, .pointer (some ⟨b8, 0, none⟩))]) (fun (k10, y11) => (.blk b8 (enc y11) 23) :: (.blk b1 (enc (Vector.replicate 6 (0 : Int))) 23) :: L) (fun _ => (fun (k10, y11) => whileM (pred_First_B0 fu a0 a1) k10 y11 = some ol10)) (fun (k10, y11) => k10) (fu, (Vector.replicate 6 (0 : Int))) ⟨rfl, rfl, rfl, rfl, trivial⟩ rfl H ?_
  rintro F12 ⟨k10, y11⟩ hF13 H
  refine Cd.as (e' := [(0, Sl.v s_a0), (1, Sl.v s_a1), (4, .pointer (some ⟨b1, 0, none⟩)), (7, .pointer (some ⟨b8, 0, none⟩))]) (L' := (.blk b8 (enc y11) 23) :: (.blk b1 (enc (Vector.replicate 6 (0 : Int))) 23) :: L) ⟨rfl, rfl, rfl, rfl, trivial⟩ rfl ?_
  rcases k10 with _ | k10
  · cases H
  obtain ⟨c10, H, hgo10, hbrk10, hret10⟩ := whileM_go H
  unfold pred_First_B0 at H
  try dsimp only at H
  refine Cd.seq ?_
  refine Cd.seq ?_
  refine Cd.region ?_
  refine Lst.run rfl rfl (by decide) (Ev.move rfl) ?_
  refine Lst.run rfl rfl (by decide) (Ev.loadA (i := 0) rfl rfl Try.isAgg23 Try.sizeOf23 (ch := enc y11) (Enc.len _) (Get.here _)) ?_
  obtain ⟨r14, h15, H⟩ := bind_some H
  refine Lst.call1 rfl rfl (by decide) (vs := [Sl.v s_a1, .agg (enc y11).toArray]) ⟨rfl, rfl, trivial⟩ Try.call63 (pred_holds_sim h15 w0 _ M _ (List.Sublist.cons _ (List.Sublist.cons _ hM)) hm_a1 (hs_a1.mono hF13 (List.Sublist.refl _)) (All.monoLR ha_a1 hF13 (List.Sublist.refl _))) ?_
  refine Lst.run rfl rfl (by decide) (Ev.not rfl) ?_
  refine Lst.nil ?_
  refine At.then ?_
  rcases (Bool.eq_false_or_eq_true (!r14)).symm with hb18 | hb18
  · replace H := ite_f hb18 H
    refine Cd.condF rfl hb18 ?_
    refine Cd.exit ?_
    refine At.then_exit ?_
    refine At.then_exit ?_
    refine At.in_exit ?_
    have H := hbrk10 _ (some_inj H).symm
    subst H
    replace H := HKl10
    refine At.then ?_
    refine Cd.seq ?_
    refine Cd.region ?_
    refine Lst.run rfl rfl (by decide) (Ev.loadA (i := 0) rfl rfl Try.isAgg23 Try.sizeOf23 (ch := enc y11) (Enc.len _) (Get.here _)) ?_
    refine Lst.store (i := 1) rfl rfl rfl rfl rfl Try.sizeOf23 (vs := enc y11) rfl (Enc.len _) (Enc.one _) (cs' := enc y11) (Put.here ((Enc.len _).trans (Enc.len _).symm)) (L' := (.blk b8 (enc y11) 23) :: (.blk b1 (enc y11) 23) :: L) rfl ?_
    refine Lst.run rfl rfl (by decide) (Ev.assign rfl) ?_
    refine Lst.nil ?_
    refine At.then ?_
    obtain rfl := some_inj H
    refine Cd.ret ?_
    exact At.ret2 rfl (Res.cellA (i := 1) rfl rfl Try.isAgg23 Try.sizeOf23 (Enc.len _)) (Res.tmp rfl) hF13 (List.Sublist.cons _ (List.Sublist.cons _ (List.Sublist.refl _))) ⟨rfl, rfl⟩
  replace H := ite_t hb18 H
  refine Cd.condT rfl hb18 ?_
  refine Cd.skip ?_
  refine At.then ?_
  refine Cd.block ?_
  refine Cd.seq ?_
  refine Cd.seq ?_
  refine Cd.region ?_
  refine Lst.run rfl rfl (by decide) (Ev.move rfl) ?_
  refine Lst.nil ?_
  refine At.then ?_
  refine Cd.block ?_
  obtain ⟨ol19, H, HKl19⟩ := andThen_some H
  refine Cd.loop (σ := Nat × Nat × (Vector Int 6)) (fun (i19, k19, y20) => [(0, Sl.v s_a0), (1, Sl.v s_a1), (4, .pointer (some ⟨b1, 0, none⟩)), (7, .pointer (some ⟨b8, 0, none⟩)), (20, .int .i64 (i19 : Int))]) (fun (i19, k19, y20) => (.blk b8 (enc y20) 23) :: (.blk b1 (enc (Vector.replicate 6 (0 : Int))) 23) :: L) (fun _ => (fun (i19, k19, y20) => rangeM (pred_First_B2 fu a1) k19 i19 y20 = some ol19 ∧ i19 + k19 = 6)) (fun (i19, k19, y20) => k19) (0, 6, y11) ⟨rfl, rfl, rfl, rfl, rfl, trivial⟩ rfl ⟨H, by omega⟩ ?_
  rintro F21 ⟨i19, k19, y20⟩ hF22 ⟨H, hik19⟩
  refine Cd.as (e' := [(0, Sl.v s_a0), (1, Sl.v s_a1), (4, .pointer (some ⟨b1, 0, none⟩)), (7, .pointer (some ⟨b8, 0, none⟩)), (20, .int .i64 (i19 : Int))]) (L' := (.blk b8 (enc y20) 23) :: (.blk b1 (enc (Vector.replicate 6 (0 : Int))) 23) :: L) ⟨rfl, rfl, rfl, rfl, rfl, trivial⟩ rfl ?_
  rcases k19 with _ | k19
  · have hc19 : decide ((i19 : Int) < (6 : Int)) = false := decide_eq_false (by omega)
    replace H := rangeM_end H
    refine Cd.seq ?_
    refine Cd.region ?_
    refine Lst.run rfl rfl (by decide) (Ev.lss rfl rfl) ?_
    refine Lst.nil ?_
    refine At.then ?_
    refine Cd.seq ?_
    refine Cd.condF rfl hc19 ?_
    refine Cd.exit ?_
    refine At.then_exit ?_
    refine At.then_exit ?_
    refine At.in_exit ?_
    subst H
    replace H := HKl19
    refine At.then ?_
    refine Cd.region ?_
    refine Lst.run rfl rfl (by decide) (Ev.move rfl) ?_
    refine Lst.run rfl rfl (by decide) (Ev.loadA (i := 0) rfl rfl Try.isAgg23 Try.sizeOf23 (ch := enc y20) (Enc.len _) (Get.here _)) ?_
    obtain ⟨r54, h55, H⟩ := bind_some H
    refine Lst.call1 rfl rfl (by decide) (vs := [Sl.v s_a0, .agg (enc y20).toArray]) ⟨rfl, rfl, trivial⟩ Try.call30 (cut_Grow_sim h55 w0 _ M _ (List.Sublist.cons _ (List.Sublist.cons _ hM)) (hs_a0.mono (FLe.trans hF13 hF22) (List.Sublist.refl _))) ?_
    refine Lst.run rfl rfl (by decide) (Ev.move rfl) ?_
    refine Lst.run rfl rfl (by decide) (Ev.extract rfl rfl) ?_
    refine Lst.run rfl rfl (by decide) (Ev.extract rfl rfl) ?_
    refine Lst.store (i := 0) rfl rfl rfl rfl rfl Try.sizeOf23 (vs := enc r54.1) rfl (Enc.len _) (Enc.one _) (cs' := enc r54.1) (Put.here ((Enc.len _).trans (Enc.len _).symm)) (L' := (.blk b8 (enc r54.1) 23) :: (.blk b1 (enc (Vector.replicate 6 (0 : Int))) 23) :: L) rfl ?_
    refine Lst.nil ?_
    refine At.in_normal ?_
    exact At.meet (k10, r54.1) (FLe.trans hF13 hF22) ⟨rfl, rfl, rfl, rfl, trivial⟩ rfl ⟨hgo10 _ (some_inj H).symm, Nat.lt_succ_self _⟩
  have hc19 : decide ((i19 : Int) < (6 : Int)) = true := decide_eq_true (by omega)
  obtain ⟨c19, H, hgo19, hbrk19, hret19⟩ := rangeM_go H
  unfold pred_First_B2 at H
  try dsimp only at H
  refine Cd.seq ?_
  refine Cd.region ?_
  refine Lst.run rfl rfl (by decide) (Ev.lss rfl rfl) ?_
  refine Lst.nil ?_
  refine At.then ?_
  refine Cd.seq ?_
  refine Cd.condT rfl hc19 ?_
  refine Cd.skip ?_
  refine At.then ?_
  refine Cd.seq ?_
  refine Cd.block ?_
  refine Cd.seq ?_
  refine Cd.region ?_
  refine Lst.run rfl rfl (by decide) (Ev.move rfl) ?_
  refine Lst.run rfl rfl (by decide) (Ev.assign rfl) ?_
  refine Lst.nil ?_
  refine At.then ?_
  refine Cd.block ?_
  obtain ⟨ol23, H, HKl23⟩ := andThen_some H
  refine Cd.loop (σ := Nat × (Vector Int 6)) (fun (k23, y24) => [(0, Sl.v s_a0), (1, Sl.v s_a1), (4, .pointer (some ⟨b1, 0, none⟩)), (7, .pointer (some ⟨b8, 0, none⟩)), (8, .int .i64 (i19 : Int)), (20, .int .i64 (i19 : Int))]) (fun (k23, y24) => (.blk b8 (enc y24) 23) :: (.blk b1 (enc (Vector.replicate 6 (0 : Int))) 23) :: L) (fun _ => (fun (k23, y24) => whileM (pred_First_B4 a1 i19) k23 y24 = some ol23)) (fun (k23, y24) => k23) (fu, y20) ⟨rfl, rfl, rfl, rfl, rfl, rfl, trivial⟩ rfl H ?_
  rintro F25 ⟨k23, y24⟩ hF26 H
  refine Cd.as (e' := [(0, Sl.v s_a0), (1, Sl.v s_a1), (4, .pointer (some ⟨b1, 0, none⟩)), (7, .pointer (some ⟨b8, 0, none⟩)), (8, .int .i64 (i19 : Int)), (20, .int .i64 (i19 : Int))]) (L' := (.blk b8 (enc y24) 23) :: (.blk b1 (enc (Vector.replicate 6 (0 : Int))) 23) :: L) ⟨rfl, rfl, rfl, rfl, rfl, rfl, trivial⟩ rfl ?_
  rcases k23 with _ | k23
  · cases H
  obtain ⟨c23, H, hgo23, hbrk23, hret23⟩ := whileM_go H
  unfold pred_First_B4 at H
  try dsimp only at H
  refine Cd.seq ?_
  refine Cd.seq ?_
  refine Cd.quiet (by kernel_rfl) (by kernel_rfl) ?_
  refine Qt.run rfl rfl (by decide) (Ev.move rfl) ?_
  refine Qt.run rfl rfl (by decide) (Ev.move rfl) ?_
  obtain ⟨x27, h28, H⟩ := bind_some H
  have g29 := lat_some h28
  obtain ⟨⟨r30v, r30h⟩, r30g, r30e, r30m⟩ := map_get hm_a1 g29.2.2
  obtain rfl : x27 = r30v := r30e.symm
  have r30q : Rd w0 _ _ r30h x27 := ha_a1 _ r30m
  refine Qt.run rfl rfl (by decide) (Ev.indexS (α := LR Bool) (xs := rs_a1) rfl rfl Try.runUnderlying42 Try.sizeOf44 rfl (by decide) (hs_a1.mono (FLe.trans (FLe.trans hF13 hF22) hF26) (List.Sublist.cons _ (List.Sublist.cons _ hM))) g29.1 (by have := map_len hm_a1; omega)) ?_
  refine Qt.run rfl rfl (by decide) (Ev.loadS (α := LR Bool) rfl (hs_a1.mono (FLe.trans (FLe.trans hF13 hF22) hF26) (List.Sublist.cons _ (List.Sublist.cons _ hM))) Try.isAgg44 (v := Sl.v r30h) ((Get.elemN (s := 1) rfl r30g (Get.here _)).off (by omega))) ?_
  refine Qt.run rfl rfl (by decide) (Ev.move rfl) ?_
  obtain ⟨x31, h32, H⟩ := bind_some H
  have g33 := vat_some h32
  refine Qt.run rfl rfl (by decide) (Ev.indexAddr (off' := 0 + (i19 : Int).toNat * 1) rfl rfl Try.runUnderlying23 Try.sizeOf3 g33.1 g33.2.1 rfl) ?_
  refine Qt.run rfl rfl (by decide) (Ev.load (i := 0) rfl rfl Try.isAgg3 (v := .int .i64 x31) ((Get.vecN (s := 1) (x := x31) rfl g33.2.2 (Get.here _)).off (by omega))) ?_
  obtain ⟨x34, h35, H⟩ := bind_some H
  have g36 := lat_some h35
  refine Qt.run rfl rfl (by decide) (Ev.indexS (α := Bool) (xs := x27) rfl rfl Try.runUnderlying44 Try.sizeOf4 rfl (by decide) (r30q.mono (FLe.trans (FLe.trans hF13 hF22) hF26) (List.Sublist.cons _ (List.Sublist.cons _ hM))) g36.1 g36.2.1) ?_
  refine Qt.run rfl rfl (by decide) (Ev.loadS (α := Bool) rfl (r30q.mono (FLe.trans (FLe.trans hF13 hF22) hF26) (List.Sublist.cons _ (List.Sublist.cons _ hM))) Try.isAgg4 (v := .bool x34) ((Get.elemN (s := 1) (x := x34) rfl g36.2.2 (Get.here _)).off (by omega))) ?_
  refine Qt.run rfl rfl (by decide) (Ev.not rfl) ?_
  refine Qt.done ?_
  refine At.then ?_
  rcases (Bool.eq_false_or_eq_true (!x34)).symm with hb37 | hb37
  · replace H := ite_f hb37 H
    refine Cd.condF rfl hb37 ?_
    refine Cd.exit ?_
    refine At.then_exit ?_
    refine At.then_exit ?_
    refine At.in_exit ?_
    have H := hbrk23 _ (some_inj H).symm
    subst H
    replace H := HKl23
    refine At.in_normal ?_
    refine At.then ?_
    refine Cd.region ?_
    refine Lst.run rfl rfl (by decide) (Ev.incr (by omega) rfl rfl) ?_
    refine Lst.run rfl rfl (by decide) (Ev.move rfl) ?_
    refine Lst.nil ?_
    exact At.meet (i19 + 1, k19, y24) (FLe.trans hF22 hF26) ⟨rfl, rfl, rfl, rfl, rfl, trivial⟩ rfl ⟨⟨hgo19 _ (some_inj H).symm, by omega⟩, Nat.lt_succ_self _⟩
  replace H := ite_t hb37 H
  refine Cd.condT rfl hb37 ?_
  refine Cd.skip ?_
  refine At.then ?_
  refine Cd.block ?_
  refine Cd.seq ?_
  refine Cd.region ?_
  refine Lst.run rfl rfl (by decide) (Ev.move rfl) ?_
  obtain ⟨x38, h39, H⟩ := bind_some H
  have g40 := vat_some h39
  refine Lst.run rfl rfl (by decide) (Ev.indexAddr (off' := 0 + (i19 : Int).toNat * 1) rfl rfl Try.runUnderlying23 Try.sizeOf3 g40.1 g40.2.1 rfl) ?_
  refine Lst.run rfl rfl (by decide) (Ev.load (i := 0) rfl rfl Try.isAgg3 (v := .int .i64 x38) ((Get.vecN (s := 1) (x := x38) rfl g40.2.2 (Get.here _)).off (by omega))) ?_
  refine Lst.run rfl rfl (by decide) (Ev.add rfl rfl) ?_
  obtain ⟨x41, h42, H⟩ := bind_some H
  have g43 := vat_some h42
  refine Lst.run rfl rfl (by decide) (Ev.indexAddr (off' := 0 + (i19 : Int).toNat * 1) rfl rfl Try.runUnderlying23 Try.sizeOf3 g43.1 g43.2.1 rfl) ?_
  obtain ⟨p44, h45, H⟩ := Let_some H
  refine Lst.store (i := 0) rfl rfl rfl rfl rfl Try.sizeOf3 (vs := [.int .i64 (w64 (x38 + (1 : Int)))]) rfl rfl rfl (cs' := enc p44) (by rw [← h45]; exact (Put.vecN (s := 1) (x := x41) rfl g43.2.2 (Put.here (vs := [.int .i64 (w64 (x38 + (1 : Int)))]) rfl)).off (by omega)) (L' := (.blk b8 (enc p44) 23) :: (.blk b1 (enc (Vector.replicate 6 (0 : Int))) 23) :: L) rfl ?_
  refine Lst.nil ?_
  refine At.then ?_
  refine Cd.seq ?_
  refine Cd.as (e' := [(0, Sl.v s_a0), (1, Sl.v s_a1), (4, .pointer (some ⟨b1, 0, none⟩)), (7, .pointer (some ⟨b8, 0, none⟩)), (8, .int .i64 (i19 : Int)), (20, .int .i64 (i19 : Int))]) (L' := (.blk b8 (enc p44) 23) :: (.blk b1 (enc (Vector.replicate 6 (0 : Int))) 23) :: L) ⟨rfl, rfl, rfl, rfl, rfl, rfl, trivial⟩ rfl ?_
  refine Cd.quiet (by kernel_rfl) (by kernel_rfl) ?_
  refine Qt.run rfl rfl (by decide) (Ev.move rfl) ?_
  obtain ⟨x46, h47, H⟩ := bind_some H
  have g48 := vat_some h47
  refine Qt.run rfl rfl (by decide) (Ev.indexAddr (off' := 0 + (i19 : Int).toNat * 1) rfl rfl Try.runUnderlying23 Try.sizeOf3 g48.1 g48.2.1 rfl) ?_
  refine Qt.run rfl rfl (by decide) (Ev.load (i := 0) rfl rfl Try.isAgg3 (v := .int .i64 x46) ((Get.vecN (s := 1) (x := x46) rfl g48.2.2 (Get.here _)).off (by omega))) ?_
  refine Qt.run rfl rfl (by decide) (Ev.move rfl) ?_
  refine Qt.run rfl rfl (by decide) (Ev.move rfl) ?_
  obtain ⟨x49, h50, H⟩ := bind_some H
  have g51 := lat_some h50
  obtain ⟨⟨r52v, r52h⟩, r52g, r52e, r52m⟩ := map_get hm_a1 g51.2.2
  obtain rfl : x49 = r52v := r52e.symm
  have r52q : Rd w0 _ _ r52h x49 := ha_a1 _ r52m
  refine Qt.run rfl rfl (by decide) (Ev.indexS (α := LR Bool) (xs := rs_a1) rfl rfl Try.runUnderlying42 Try.sizeOf44 rfl (by decide) (hs_a1.mono (FLe.trans (FLe.trans hF13 hF22) hF26) (List.Sublist.cons _ (List.Sublist.cons _ hM))) g51.1 (by have := map_len hm_a1; omega)) ?_
  refine Qt.run rfl rfl (by decide) (Ev.loadS (α := LR Bool) rfl (hs_a1.mono (FLe.trans (FLe.trans hF13 hF22) hF26) (List.Sublist.cons _ (List.Sublist.cons _ hM))) Try.isAgg44 (v := Sl.v r52h) ((Get.elemN (s := 1) rfl r52g (Get.here _)).off (by omega))) ?_
  refine Qt.run rfl rfl (by decide) (Ev.lenS (α := Bool) (xs := x49) (by decide) rfl rfl Try.runUnderlying44 (r52q.mono (FLe.trans (FLe.trans hF13 hF22) hF26) (List.Sublist.cons _ (List.Sublist.cons _ hM)))) ?_
  refine Qt.run rfl rfl (by decide) (Ev.eql rfl rfl) ?_
  refine Qt.done ?_
  refine At.then ?_
  rcases Bool.eq_false_or_eq_true (x46 == (x49.length : Int)) with hb53 | hb53
  · replace H := ite_t hb53 H
    refine Cd.condT rfl hb53 ?_
    refine Cd.seq ?_
    refine Cd.region ?_
    refine Lst.run rfl rfl (by decide) (Ev.build (v := .agg (enc ((Vector.replicate 6 (0 : Int)) : Vector Int 6)).toArray) (pv := []) trivial (fun w => by kernel_rfl)) ?_
    refine Lst.store (i := 1) rfl rfl rfl rfl rfl Try.sizeOf23 (vs := enc ((Vector.replicate 6 (0 : Int)) : Vector Int 6)) rfl (Enc.len _) (Enc.one _) (cs' := enc ((Vector.replicate 6 (0 : Int)) : Vector Int 6)) (Put.here ((Enc.len _).trans (Enc.len _).symm)) (L' := (.blk b8 (enc p44) 23) :: (.blk b1 (enc ((Vector.replicate 6 (0 : Int)) : Vector Int 6)) 23) :: L) rfl ?_
    refine Lst.run rfl rfl (by decide) (Ev.assign rfl) ?_
    refine Lst.nil ?_
    refine At.then ?_
    have H := hret23 _ (some_inj H).symm
    subst H
    replace H := HKl23
    have H := hret19 _ (some_inj H).symm
    subst H
    replace H := HKl19
    have H := hret10 _ (some_inj H).symm
    subst H
    replace H := HKl10
    obtain rfl := some_inj H
    refine Cd.ret ?_
    refine At.in_ret ?_
    refine At.then_ret ?_
    refine At.in_ret ?_
    refine At.in_ret ?_
    refine At.then_ret ?_
    refine At.then_ret ?_
    refine At.in_ret ?_
    refine At.then_ret ?_
    refine At.in_ret ?_
    refine At.then_ret ?_
    refine At.in_ret ?_
    refine At.then_ret ?_
    exact At.ret2 rfl (Res.cellA (i := 1) rfl rfl Try.isAgg23 Try.sizeOf23 (Enc.len _)) (Res.tmp rfl) (FLe.trans (FLe.trans hF13 hF22) hF26) (List.Sublist.cons _ (List.Sublist.cons _ (List.Sublist.refl _))) ⟨rfl, rfl⟩
  replace H := ite_f hb53 H
  refine Cd.condF rfl hb53 ?_
  refine Cd.skip ?_
  refine At.in_normal ?_
  exact At.meet (k23, p44) hF26 ⟨rfl, rfl, rfl, rfl, rfl, rfl, trivial⟩ rfl ⟨hgo23 _ (some_inj H).symm, Nat.lt_succ_self _⟩
set_option maxRecDepth 20000 in
theorem cut_All_sim {fu : Nat} {a0 : List Event} {s_a0 : Sl} {r : (List (Vector Int 6)) × Int} (H : cut_All fu a0 = some r) (w0 : World) (F : Frz) (M L : List Item) (hM : M.Sublist L) (hs_a0 : Rd w0 F M s_a0 a0) : Ok Try.prog w0 35 [Sl.v s_a0] F (L) (fun _ L' v => ∃ (s1 : Sl), v = .tuple #[Sl.v s1, .int .i64 r.2] ∧ L' = (.own s1 23 6 (encs r.1)) :: L) := by
  unfold cut_All at H
  refine Ok.enter (m := 1) (n := 65) Try.func35 rfl rfl rfl (by decide) ?_
  refine Cd.env (e' := [(0, Sl.v s_a0)]) rfl ?_
  refine Cd.seq ?_
  refine Cd.region ?_
  refine Lst.addNil 23 6 ?_
  refine Lst.run rfl rfl (by decide) (Ev.assign rfl) ?_
  refine Lst.run rfl rfl (by decide) (Ev.assign rfl) ?_
  refine Lst.nil ?_
  refine At.then ?_
  refine Cd.seq ?_
  refine Cd.seq ?_
  refine Cd.region ?_
  refine Lst.run rfl rfl (by decide) (Ev.move rfl) ?_
  obtain ⟨r2, h3, H⟩ := bind_some H
  refine Lst.call1 rfl rfl (by decide) (vs := [Sl.v s_a0]) ⟨rfl, trivial⟩ Try.call22 (stamp_Check_sim h3 w0 _ M _ (List.Sublist.cons _ hM) (hs_a0.mono (FLe.refl _) (List.Sublist.refl _))) ?_
  refine Lst.run rfl rfl (by decide) (Ev.assign rfl) ?_
  refine Lst.nil ?_
  refine At.then ?_
  refine Cd.seq ?_
  refine Cd.region ?_
  refine Lst.run rfl rfl (by decide) (Ev.move rfl) ?_
  refine Lst.run rfl rfl (by decide) (Ev.neq rfl rfl) ?_
  refine Lst.nil ?_
  refine At.then ?_
  rcases Bool.eq_false_or_eq_true (r2 != (0 : Int)) with hb6 | hb6
  · replace H := ite_t hb6 H
    refine Cd.condT rfl hb6 ?_
    refine Cd.seq ?_
    refine Cd.region ?_
    refine Lst.run rfl rfl (by decide) (Ev.move rfl) ?_
    refine Lst.addNil 23 6 ?_
    refine Lst.run rfl rfl (by decide) (Ev.assign rfl) ?_
    refine Lst.run rfl rfl (by decide) (Ev.assign rfl) ?_
    refine Lst.nil ?_
    refine At.then ?_
    obtain rfl := some_inj H
    refine Cd.ret ?_
    refine At.then_ret ?_
    exact At.ret2 rfl (Res.tmp rfl) (Res.tmp rfl) (FLe.refl _) (List.Sublist.cons_cons _ (List.Sublist.cons _ (List.Sublist.refl _))) ⟨Sl.nil, rfl, rfl⟩
  replace H := ite_f hb6 H
  refine Cd.condF rfl hb6 ?_
  refine Cd.skip ?_
  refine At.then ?_
  refine Cd.seq ?_
  refine Cd.region ?_
  refine Lst.run rfl rfl (by decide) (Ev.move rfl) ?_
  obtain ⟨r8, h9, H⟩ := bind_some H
  refine Lst.call1 rfl rfl (by decide) (vs := [Sl.v s_a0]) ⟨rfl, trivial⟩ Try.call57 (cut_counts_sim h9 w0 _ M _ (List.Sublist.cons _ hM) (hs_a0.mono (FLe.refl _) (List.Sublist.refl _))) ?_
  refine Lst.alloc (cs := enc (Vector.replicate 6 (0 : Int))) rfl rfl (by decide) Try.zeroValue23 rfl (fun b12 => ?_)
  refine Lst.store (i := 0) rfl rfl rfl rfl rfl Try.sizeOf23 (vs := enc r8) rfl (Enc.len _) (Enc.one _) (cs' := enc r8) (Put.here ((Enc.len _).trans (Enc.len _).symm)) (L' := (.blk b12 (enc r8) 23) :: (.own Sl.nil 23 6 (encs ([] : List (Vector Int 6)))) :: L) rfl ?_
  refine Lst.nil ?_
  refine At.then ?_
  refine Cd.seq ?_
  refine Cd.region ?_
  refine Lst.run rfl rfl (by decide) (Ev.assign rfl) ?_
  refine Lst.nil ?_
  refine At.then ?_
  refine Cd.seq ?_
  refine Cd.seq ?_
  refine Cd.region ?_
  refine Lst.run rfl rfl (by decide) (Ev.loadA (i := 0) rfl rfl Try.isAgg23 Try.sizeOf23 (ch := enc r8) (Enc.len _) (Get.here _)) ?_
  refine Lst.run rfl rfl (by decide) (Ev.move rfl) ?_
  refine Lst.nil ?_
  refine At.then ?_
  refine Cd.block ?_
  obtain ⟨ol14, H, HKl14⟩ := bind_some H
  refine Cd.loop (σ := Nat × Nat × Int) (fun (i14, k14, y15) => [(0, Sl.v s_a0), (5, .pointer (some ⟨b12, 0, none⟩)), (6, .int .i64 y15), (20, .agg (enc r8).toArray), (21, .int .i64 (i14 : Int))]) (fun (i14, k14, y15) => (.blk b12 (enc r8) 23) :: (.own Sl.nil 23 6 (encs ([] : List (Vector Int 6)))) :: L) (fun _ => (fun (i14, k14, y15) => rangeF (cut_All_B0 r8) k14 i14 y15 = some ol14 ∧ i14 + k14 = 6)) (fun (i14, k14, y15) => k14) (0, 6, (1 : Int)) ⟨rfl, rfl, rfl, rfl, rfl, trivial⟩ rfl ⟨H, by omega⟩ ?_
  rintro F16 ⟨i14, k14, y15⟩ hF17 ⟨H, hik14⟩
  refine Cd.as (e' := [(0, Sl.v s_a0), (5, .pointer (some ⟨b12, 0, none⟩)), (6, .int .i64 y15), (20, .agg (enc r8).toArray), (21, .int .i64 (i14 : Int))]) (L' := (.blk b12 (enc r8) 23) :: (.own Sl.nil 23 6 (encs ([] : List (Vector Int 6)))) :: L) ⟨rfl, rfl, rfl, rfl, rfl, trivial⟩ rfl ?_
  rcases k14 with _ | k14
  · have hc14 : decide ((i14 : Int) < (6 : Int)) = false := decide_eq_false (by omega)
    replace H := rangeF_end H
    refine Cd.seq ?_
    refine Cd.region ?_
    refine Lst.run rfl rfl (by decide) (Ev.lss rfl rfl) ?_
    refine Lst.nil ?_
    refine At.then ?_
    refine Cd.seq ?_
    refine Cd.condF rfl hc14 ?_
    refine Cd.exit ?_
    refine At.then_exit ?_
    refine At.then_exit ?_
    refine At.in_exit ?_
    subst H
    replace H := HKl14
    refine At.then ?_
    refine Cd.seq ?_
    refine Cd.seq ?_
    refine Cd.region ?_
    refine Lst.run rfl rfl (by decide) (Ev.move rfl) ?_
    refine Lst.run rfl rfl (by decide) (Ev.gtr rfl rfl) ?_
    refine Lst.nil ?_
    refine At.then ?_
    rcases Bool.eq_false_or_eq_true (decide (y15 > (4096 : Int))) with hb21 | hb21
    · replace H := ite_t hb21 H
      refine Cd.condT rfl hb21 ?_
      refine Cd.seq ?_
      refine Cd.region ?_
      refine Lst.addNil 23 6 ?_
      refine Lst.run rfl rfl (by decide) (Ev.assign rfl) ?_
      refine Lst.run rfl rfl (by decide) (Ev.assign rfl) ?_
      refine Lst.nil ?_
      refine At.then ?_
      obtain rfl := some_inj H
      refine Cd.ret ?_
      refine At.then_ret ?_
      exact At.ret2 rfl (Res.tmp rfl) (Res.tmp rfl) hF17 (List.Sublist.cons_cons _ (List.Sublist.cons _ (List.Sublist.cons _ (List.Sublist.refl _)))) ⟨Sl.nil, rfl, rfl⟩
    replace H := ite_f hb21 H
    refine Cd.condF rfl hb21 ?_
    refine Cd.skip ?_
    refine At.then ?_
    refine Cd.seq ?_
    refine Cd.region ?_
    refine Lst.run rfl rfl (by decide) (Ev.move rfl) ?_
    obtain ⟨r23, h24, H⟩ := bind_some H
    refine Lst.call rfl rfl (by decide) (vs := [Sl.v s_a0]) ⟨rfl, trivial⟩ Try.call56 (cut_vectors_sim h24 w0 _ M _ (List.Sublist.cons _ (List.Sublist.cons _ hM)) (hs_a0.mono hF17 (List.Sublist.refl _))) (fun F28 L' v hF29 hv => ?_)
    obtain ⟨rs25, rfl, rfl, fm26⟩ := hv
    have hm30 : (Vector.replicate 6 ⟨[], Sl.nil⟩ : Vector (LR (Vector Int 6)) 6).toList.map LR.v = (Vector.replicate 6 [] : Vector (List (Vector Int 6)) 6).toList := vmap_rep _ _
    refine Lst.rowsNilV (Vector Int 6) 23 6 ?_
    refine Lst.alloc (cs := enc (Vector.replicate 6 ⟨[], Sl.nil⟩ : Vector (LR (Vector Int 6)) 6)) rfl rfl (by decide) Try.zeroValue90 rfl (fun b32 => ?_)
    refine Lst.store (i := 0) rfl rfl rfl rfl rfl Try.sizeOf90 (vs := enc rs25) rfl (Enc.len _) (Enc.one _) (cs' := enc rs25) (Put.here ((Enc.len _).trans (Enc.len _).symm)) (L' := (.blk b32 (enc rs25) 90) :: (.rows (α := Vector Int 6) 23 ((Vector.replicate 6 ⟨[], Sl.nil⟩ : Vector (LR (Vector Int 6)) 6).toList)) :: (.rows (α := Vector Int 6) 23 rs25.toList) :: (.blk b12 (enc r8) 23) :: (.own Sl.nil 23 6 (encs ([] : List (Vector Int 6)))) :: L) rfl ?_
    refine Lst.nil ?_
    refine At.then ?_
    refine Cd.seq ?_
    refine Cd.region ?_
    refine Lst.addNil 23 6 ?_
    refine Lst.run rfl rfl (by decide) (Ev.assign rfl) ?_
    refine Lst.nil ?_
    refine At.then ?_
    refine Cd.seq ?_
    refine Cd.region ?_
    refine Lst.alloc (cs := enc (Vector.replicate 6 (0 : Int))) rfl rfl (by decide) Try.zeroValue23 rfl (fun b35 => ?_)
    refine Lst.nil ?_
    refine At.then ?_
    refine Cd.seq ?_
    refine Cd.seq ?_
    refine Cd.region ?_
    refine Lst.run rfl rfl (by decide) (Ev.move rfl) ?_
    refine Lst.run rfl rfl (by decide) (Ev.move rfl) ?_
    refine Lst.nil ?_
    refine At.then ?_
    refine Cd.block ?_
    obtain ⟨nn43, hN91, H⟩ := bind_some H
    replace hN91 := upTo_some hN91
    obtain ⟨ol37, H, HKl37⟩ := bind_some H
    refine Cd.loop (σ := Nat × Nat × (Vector Int 6) × Sl × (List (Vector Int 6))) (fun (i37, k37, y38, s39, l40) => [(5, .pointer (some ⟨b12, 0, none⟩)), (9, .pointer (some ⟨b32, 0, none⟩)), (10, Sl.v s39), (11, .pointer (some ⟨b35, 0, none⟩)), (33, .int .i64 y15), (34, .int .i64 (i37 : Int))]) (fun (i37, k37, y38, s39, l40) => (.blk b35 (enc y38) 23) :: (.own s39 23 6 (encs l40)) :: (.blk b32 (enc rs25) 90) :: (.rows (α := Vector Int 6) 23 ((Vector.replicate 6 ⟨[], Sl.nil⟩ : Vector (LR (Vector Int 6)) 6).toList)) :: (.rows (α := Vector Int 6) 23 rs25.toList) :: (.blk b12 (enc r8) 23) :: (.own Sl.nil 23 6 (encs ([] : List (Vector Int 6)))) :: L) (fun _ => (fun (i37, k37, y38, s39, l40) => rangeF (cut_All_B2 fu r8 r23) k37 i37 (y38, l40) = some ol37 ∧ i37 + k37 = nn43)) (fun (i37, k37, y38, s39, l40) => k37) (0, nn43, (Vector.replicate 6 (0 : Int)), Sl.nil, ([] : List (Vector Int 6))) ⟨rfl, rfl, rfl, rfl, rfl, rfl, trivial⟩ rfl ⟨H, by omega⟩ ?_
    rintro F41 ⟨i37, k37, y38, s39, l40⟩ hF42 ⟨H, hik37⟩
    refine Cd.as (e' := [(5, .pointer (some ⟨b12, 0, none⟩)), (9, .pointer (some ⟨b32, 0, none⟩)), (10, Sl.v s39), (11, .pointer (some ⟨b35, 0, none⟩)), (33, .int .i64 y15), (34, .int .i64 (i37 : Int))]) (L' := (.blk b35 (enc y38) 23) :: (.own s39 23 6 (encs l40)) :: (.blk b32 (enc rs25) 90) :: (.rows (α := Vector Int 6) 23 ((Vector.replicate 6 ⟨[], Sl.nil⟩ : Vector (LR (Vector Int 6)) 6).toList)) :: (.rows (α := Vector Int 6) 23 rs25.toList) :: (.blk b12 (enc r8) 23) :: (.own Sl.nil 23 6 (encs ([] : List (Vector Int 6)))) :: L) ⟨rfl, rfl, rfl, rfl, rfl, rfl, trivial⟩ rfl ?_
    rcases k37 with _ | k37
    · have hc37 : decide ((i37 : Int) < y15) = false := decide_eq_false (by omega)
      replace H := rangeF_end H
      refine Cd.seq ?_
      refine Cd.region ?_
      refine Lst.run rfl rfl (by decide) (Ev.lss rfl rfl) ?_
      refine Lst.nil ?_
      refine At.then ?_
      refine Cd.seq ?_
      refine Cd.condF rfl hc37 ?_
      refine Cd.exit ?_
      refine At.then_exit ?_
      refine At.then_exit ?_
      refine At.in_exit ?_
      subst H
      replace H := HKl37
      refine At.then ?_
      refine Cd.seq ?_
      refine Cd.region ?_
      refine Lst.run rfl rfl (by decide) (Ev.move rfl) ?_
      refine Lst.run rfl rfl (by decide) (Ev.assign rfl) ?_
      refine Lst.run rfl rfl (by decide) (Ev.assign rfl) ?_
      refine Lst.nil ?_
      refine At.then ?_
      obtain rfl := some_inj H
      refine Cd.ret ?_
      exact At.ret2 rfl (Res.tmp rfl) (Res.tmp rfl) (FLe.trans (FLe.trans hF17 hF29) hF42) (List.Sublist.cons _ (List.Sublist.cons_cons _ (List.Sublist.cons _ (List.Sublist.cons _ (List.Sublist.cons _ (List.Sublist.cons _ (List.Sublist.cons _ (List.Sublist.refl _)))))))) ⟨s39, rfl, rfl⟩
    have hc37 : decide ((i37 : Int) < y15) = true := decide_eq_true (by omega)
    obtain ⟨c37, H, hgo37⟩ := rangeF_go H
    unfold cut_All_B2 at H
    try dsimp only at H
    refine Cd.seq ?_
    refine Cd.region ?_
    refine Lst.run rfl rfl (by decide) (Ev.lss rfl rfl) ?_
    refine Lst.nil ?_
    refine At.then ?_
    refine Cd.seq ?_
    refine Cd.condT rfl hc37 ?_
    refine Cd.skip ?_
    refine At.then ?_
    obtain ⟨o47, H, HKo47⟩ := bind_some H
    refine Cd.join (σ := (Vector Int 6) × Sl × (List (Vector Int 6))) (fun (y44, s45, l46) => [(5, .pointer (some ⟨b12, 0, none⟩)), (9, .pointer (some ⟨b32, 0, none⟩)), (10, Sl.v s45), (11, .pointer (some ⟨b35, 0, none⟩)), (33, .int .i64 y15), (34, .int .i64 (i37 : Int))]) (fun (y44, s45, l46) => (.blk b35 (enc y44) 23) :: (.own s45 23 6 (encs l46)) :: (.blk b32 (enc rs25) 90) :: (.rows (α := Vector Int 6) 23 ((Vector.replicate 6 ⟨[], Sl.nil⟩ : Vector (LR (Vector Int 6)) 6).toList)) :: (.rows (α := Vector Int 6) 23 rs25.toList) :: (.blk b12 (enc r8) 23) :: (.own Sl.nil 23 6 (encs ([] : List (Vector Int 6)))) :: L) (fun _ (y44, s45, l46) => (y44, l46) = o47) ?_ ?_
    · refine Cd.block ?_
      obtain ⟨o50, H, HKo50⟩ := bind_some H
      refine Cd.join (σ := Sl × (List (Vector Int 6))) (fun (s48, l49) => [(5, .pointer (some ⟨b12, 0, none⟩)), (9, .pointer (some ⟨b32, 0, none⟩)), (10, Sl.v s48), (11, .pointer (some ⟨b35, 0, none⟩)), (33, .int .i64 y15), (34, .int .i64 (i37 : Int))]) (fun (s48, l49) => (.blk b35 (enc y38) 23) :: (.own s48 23 6 (encs l49)) :: (.blk b32 (enc rs25) 90) :: (.rows (α := Vector Int 6) 23 ((Vector.replicate 6 ⟨[], Sl.nil⟩ : Vector (LR (Vector Int 6)) 6).toList)) :: (.rows (α := Vector Int 6) 23 rs25.toList) :: (.blk b12 (enc r8) 23) :: (.own Sl.nil 23 6 (encs ([] : List (Vector Int 6)))) :: L) (fun _ (s48, l49) => l49 = o50) ?_ ?_
      · refine Cd.seq ?_
        refine Cd.quiet (by kernel_rfl) (by kernel_rfl) ?_
        refine Qt.run rfl rfl (by decide) (Ev.loadA (i := 2) rfl rfl Try.isAgg90 Try.sizeOf90 (ch := enc rs25) (Enc.len _) (Get.here _)) ?_
        refine Qt.run rfl rfl (by decide) (Ev.loadA (i := 0) rfl rfl Try.isAgg23 Try.sizeOf23 (ch := enc y38) (Enc.len _) (Get.here _)) ?_
        obtain ⟨r51, h52, H⟩ := bind_some H
        refine Qt.call rfl rfl (by decide) (vs := [.agg (enc rs25).toArray, .agg (enc y38).toArray]) ⟨rfl, rfl, trivial⟩ Try.call55 (cut_grown_sim h52 w0 _ _ _ (List.Sublist.refl _) fm26 (All.rowsHead (j := 4) rfl)) ?_
        refine Qt.run rfl rfl (by decide) (Ev.loadA (i := 0) rfl rfl Try.isAgg23 Try.sizeOf23 (ch := enc y38) (Enc.len _) (Get.here _)) ?_
        refine Qt.run rfl rfl (by decide) (Ev.eqlA rfl rfl (by kernel_rfl) (eq23 _ _)) ?_
        refine Qt.done ?_
        refine At.then ?_
        rcases (Bool.eq_false_or_eq_true (decide (r51 = y38))).symm with hb55 | hb55
        · replace H := ite_f hb55 H
          refine Cd.condF rfl hb55 ?_
          refine Cd.skip ?_
          exact At.meet (s39, l40) (FLe.refl _) ⟨rfl, rfl, rfl, rfl, rfl, rfl, trivial⟩ rfl (some_inj H)
        replace H := ite_t hb55 H
        refine Cd.condT rfl hb55 ?_
        refine Cd.region ?_
        refine Lst.run rfl rfl (by decide) (Ev.move rfl) ?_
        refine Lst.run rfl rfl (by decide) (Ev.loadA (i := 0) rfl rfl Try.isAgg23 Try.sizeOf23 (ch := enc y38) (Enc.len _) (Get.here _)) ?_
        refine Lst.buildSlice (α := Vector Int 6) (xs := ([y38] : List (Vector Int 6))) (pv := [(0, .agg (enc y38).toArray)]) rfl rfl (by decide) ⟨rfl, rfl, trivial⟩ (run_buildSlice (α := Vector Int 6) (z0 := (Vector.replicate 6 (0 : Int))) (xs := ([y38] : List (Vector Int 6))) Try.runUnderlying28 Try.sizeOf23 Try.zeroValue23 rfl rfl rfl (by decide) rfl (fill_cons (cs := encs (List.replicate 1 (Vector.replicate 6 (0 : Int)))) (cs' := encs ((List.replicate 1 (Vector.replicate 6 (0 : Int))).set 0 y38)) (vs := enc y38) rfl rfl (Enc.len _) ((Put.elemN (s := 6) (i := 0) (x := (Vector.replicate 6 (0 : Int))) (y := y38) rfl rfl (Put.here ((Enc.len _).trans (Enc.len _).symm))).off rfl) fill_nil)) rfl rfl (by decide) (fun s56 _ => ?_)
        obtain ⟨u58, h59, H⟩ := bind_some H
        refine Lst.append (i := 2) (α := Vector Int 6) (xs := l40) (ys := ([y38] : List (Vector Int 6))) rfl rfl (by decide) rfl rfl Try.runUnderlying28 Try.typeInfo23 rfl rfl rfl rfl rfl rfl (Rd.own (i := 0) rfl rfl rfl) rfl (room_some h59) rfl (fun s60 => ?_)
        refine Lst.its (L' := (.own s56 23 6 (encs ([y38] : List (Vector Int 6)))) :: (.blk b35 (enc y38) 23) :: (.own s60 23 6 (encs (l40 ++ ([y38] : List (Vector Int 6))))) :: (.blk b32 (enc rs25) 90) :: (.rows (α := Vector Int 6) 23 ((Vector.replicate 6 ⟨[], Sl.nil⟩ : Vector (LR (Vector Int 6)) 6).toList)) :: (.rows (α := Vector Int 6) 23 rs25.toList) :: (.blk b12 (enc r8) 23) :: (.own Sl.nil 23 6 (encs ([] : List (Vector Int 6)))) :: L) rfl ?_
        refine Lst.run rfl rfl (by decide) (Ev.assign rfl) ?_
        refine Lst.nil ?_
        refine At.less (L' := (.blk b35 (enc y38) 23) :: (.own s60 23 6 (encs (l40 ++ ([y38] : List (Vector Int 6))))) :: (.blk b32 (enc rs25) 90) :: (.rows (α := Vector Int 6) 23 ((Vector.replicate 6 ⟨[], Sl.nil⟩ : Vector (LR (Vector Int 6)) 6).toList)) :: (.rows (α := Vector Int 6) 23 rs25.toList) :: (.blk b12 (enc r8) 23) :: (.own Sl.nil 23 6 (encs ([] : List (Vector Int 6)))) :: L) (List.Sublist.cons _ (List.Sublist.cons_cons _ (List.Sublist.cons_cons _ (List.Sublist.cons_cons _ (List.Sublist.cons_cons _ (List.Sublist.cons_cons _ (List.Sublist.cons_cons _ (List.Sublist.cons_cons _ (List.Sublist.refl _))))))))) ?_
        exact At.meet (s60, l40 ++ ([y38] : List (Vector Int 6))) (FLe.refl _) ⟨rfl, rfl, rfl, rfl, rfl, rfl, trivial⟩ rfl (some_inj H)
      rintro F61 ⟨s48, l49⟩ hF62 hy
      subst hy
      refine Cd.as (e' := [(5, .pointer (some ⟨b12, 0, none⟩)), (9, .pointer (some ⟨b32, 0, none⟩)), (10, Sl.v s48), (11, .pointer (some ⟨b35, 0, none⟩)), (33, .int .i64 y15), (34, .int .i64 (i37 : Int))]) (L' := (.blk b35 (enc y38) 23) :: (.own s48 23 6 (encs l49)) :: (.blk b32 (enc rs25) 90) :: (.rows (α := Vector Int 6) 23 ((Vector.replicate 6 ⟨[], Sl.nil⟩ : Vector (LR (Vector Int 6)) 6).toList)) :: (.rows (α := Vector Int 6) 23 rs25.toList) :: (.blk b12 (enc r8) 23) :: (.own Sl.nil 23 6 (encs ([] : List (Vector Int 6)))) :: L) ⟨rfl, rfl, rfl, rfl, rfl, rfl, trivial⟩ rfl ?_
      replace H := HKo50
      refine Cd.seq ?_
      refine Cd.region ?_
      refine Lst.run rfl rfl (by decide) (Ev.assign rfl) ?_
      refine Lst.nil ?_
      refine At.then ?_
      refine Cd.block ?_
      obtain ⟨ol63, H, HKl63⟩ := andThen_some H
      refine Cd.loop (σ := Nat × Int × (Vector Int 6)) (fun (k63, y64, y65) => [(5, .pointer (some ⟨b12, 0, none⟩)), (9, .pointer (some ⟨b32, 0, none⟩)), (10, Sl.v s48), (11, .pointer (some ⟨b35, 0, none⟩)), (12, .int .i64 y64), (33, .int .i64 y15), (34, .int .i64 (i37 : Int))]) (fun (k63, y64, y65) => (.blk b35 (enc y65) 23) :: (.own s48 23 6 (encs l49)) :: (.blk b32 (enc rs25) 90) :: (.rows (α := Vector Int 6) 23 ((Vector.replicate 6 ⟨[], Sl.nil⟩ : Vector (LR (Vector Int 6)) 6).toList)) :: (.rows (α := Vector Int 6) 23 rs25.toList) :: (.blk b12 (enc r8) 23) :: (.own Sl.nil 23 6 (encs ([] : List (Vector Int 6)))) :: L) (fun _ => (fun (k63, y64, y65) => whileM (cut_All_B4 r8) k63 (y64, y65) = some ol63)) (fun (k63, y64, y65) => k63) (fu, (5 : Int), y38) ⟨rfl, rfl, rfl, rfl, rfl, rfl, rfl, trivial⟩ rfl H ?_
      rintro F66 ⟨k63, y64, y65⟩ hF67 H
      refine Cd.as (e' := [(5, .pointer (some ⟨b12, 0, none⟩)), (9, .pointer (some ⟨b32, 0, none⟩)), (10, Sl.v s48), (11, .pointer (some ⟨b35, 0, none⟩)), (12, .int .i64 y64), (33, .int .i64 y15), (34, .int .i64 (i37 : Int))]) (L' := (.blk b35 (enc y65) 23) :: (.own s48 23 6 (encs l49)) :: (.blk b32 (enc rs25) 90) :: (.rows (α := Vector Int 6) 23 ((Vector.replicate 6 ⟨[], Sl.nil⟩ : Vector (LR (Vector Int 6)) 6).toList)) :: (.rows (α := Vector Int 6) 23 rs25.toList) :: (.blk b12 (enc r8) 23) :: (.own Sl.nil 23 6 (encs ([] : List (Vector Int 6)))) :: L) ⟨rfl, rfl, rfl, rfl, rfl, rfl, rfl, trivial⟩ rfl ?_
      rcases k63 with _ | k63
      · cases H
      obtain ⟨c63, H, hgo63, hbrk63, hret63⟩ := whileM_go H
      unfold cut_All_B4 at H
      try dsimp only at H
      refine Cd.seq ?_
      refine Cd.seq ?_
      refine Cd.region ?_
      refine Lst.run rfl rfl (by decide) (Ev.move rfl) ?_
      refine Lst.run rfl rfl (by decide) (Ev.geq rfl rfl) ?_
      refine Lst.nil ?_
      refine At.then ?_
      rcases (Bool.eq_false_or_eq_true (decide (y64 ≥ (0 : Int)))).symm with hb68 | hb68
      · replace H := ite_f hb68 H
        refine Cd.condF rfl hb68 ?_
        refine Cd.exit ?_
        refine At.then_exit ?_
        refine At.then_exit ?_
        refine At.in_exit ?_
        have H := hbrk63 _ (some_inj H).symm
        subst H
        replace H := HKl63
        refine At.in_normal ?_
        exact At.meet (y65, s48, l49) (FLe.trans hF62 hF67) ⟨rfl, rfl, rfl, rfl, rfl, rfl, trivial⟩ rfl (some_inj H)
      replace H := ite_t hb68 H
      refine Cd.condT rfl hb68 ?_
      refine Cd.skip ?_
      refine At.then ?_
      refine Cd.seq ?_
      refine Cd.block ?_
      refine Cd.seq ?_
      refine Cd.seq ?_
      refine Cd.quiet (by kernel_rfl) (by kernel_rfl) ?_
      refine Qt.run rfl rfl (by decide) (Ev.move rfl) ?_
      obtain ⟨x69, h70, H⟩ := bind_some H
      have g71 := vat_some h70
      refine Qt.run rfl rfl (by decide) (Ev.indexAddr (off' := 0 + y64.toNat * 1) rfl rfl Try.runUnderlying23 Try.sizeOf3 g71.1 g71.2.1 rfl) ?_
      refine Qt.run rfl rfl (by decide) (Ev.load (i := 0) rfl rfl Try.isAgg3 (v := .int .i64 x69) ((Get.vecN (s := 1) (x := x69) rfl g71.2.2 (Get.here _)).off (by omega))) ?_
      refine Qt.run rfl rfl (by decide) (Ev.move rfl) ?_
      obtain ⟨x72, h73, H⟩ := bind_some H
      have g74 := vat_some h73
      refine Qt.run rfl rfl (by decide) (Ev.indexAddr (off' := 0 + y64.toNat * 1) rfl rfl Try.runUnderlying23 Try.sizeOf3 g74.1 g74.2.1 rfl) ?_
      refine Qt.run rfl rfl (by decide) (Ev.load (i := 5) rfl rfl Try.isAgg3 (v := .int .i64 x72) ((Get.vecN (s := 1) (x := x72) rfl g74.2.2 (Get.here _)).off (by omega))) ?_
      refine Qt.run rfl rfl (by decide) (Ev.lss rfl rfl) ?_
      refine Qt.done ?_
      refine At.then ?_
      rcases Bool.eq_false_or_eq_true (decide (x69 < x72)) with hb75 | hb75
      · replace H := ite_t hb75 H
        refine Cd.condT rfl hb75 ?_
        refine Cd.seq ?_
        refine Cd.region ?_
        refine Lst.run rfl rfl (by decide) (Ev.move rfl) ?_
        obtain ⟨x76, h77, H⟩ := bind_some H
        have g78 := vat_some h77
        refine Lst.run rfl rfl (by decide) (Ev.indexAddr (off' := 0 + y64.toNat * 1) rfl rfl Try.runUnderlying23 Try.sizeOf3 g78.1 g78.2.1 rfl) ?_
        refine Lst.run rfl rfl (by decide) (Ev.load (i := 0) rfl rfl Try.isAgg3 (v := .int .i64 x76) ((Get.vecN (s := 1) (x := x76) rfl g78.2.2 (Get.here _)).off (by omega))) ?_
        refine Lst.run rfl rfl (by decide) (Ev.add rfl rfl) ?_
        obtain ⟨x79, h80, H⟩ := bind_some H
        have g81 := vat_some h80
        refine Lst.run rfl rfl (by decide) (Ev.indexAddr (off' := 0 + y64.toNat * 1) rfl rfl Try.runUnderlying23 Try.sizeOf3 g81.1 g81.2.1 rfl) ?_
        obtain ⟨p82, h83, H⟩ := Let_some H
        refine Lst.store (i := 0) rfl rfl rfl rfl rfl Try.sizeOf3 (vs := [.int .i64 (w64 (x76 + (1 : Int)))]) rfl rfl rfl (cs' := enc p82) (by rw [← h83]; exact (Put.vecN (s := 1) (x := x79) rfl g81.2.2 (Put.here (vs := [.int .i64 (w64 (x76 + (1 : Int)))]) rfl)).off (by omega)) (L' := (.blk b35 (enc p82) 23) :: (.own s48 23 6 (encs l49)) :: (.blk b32 (enc rs25) 90) :: (.rows (α := Vector Int 6) 23 ((Vector.replicate 6 ⟨[], Sl.nil⟩ : Vector (LR (Vector Int 6)) 6).toList)) :: (.rows (α := Vector Int 6) 23 rs25.toList) :: (.blk b12 (enc r8) 23) :: (.own Sl.nil 23 6 (encs ([] : List (Vector Int 6)))) :: L) rfl ?_
        refine Lst.nil ?_
        refine At.then ?_
        refine Cd.exit ?_
        refine At.then_exit ?_
        refine At.in_other rfl ?_
        refine At.then_exit ?_
        refine At.then_exit ?_
        refine At.in_exit ?_
        have H := hbrk63 _ (some_inj H).symm
        subst H
        replace H := HKl63
        refine At.in_normal ?_
        exact At.meet (p82, s48, l49) (FLe.trans hF62 hF67) ⟨rfl, rfl, rfl, rfl, rfl, rfl, trivial⟩ rfl (some_inj H)
      replace H := ite_f hb75 H
      refine Cd.condF rfl hb75 ?_
      refine Cd.skip ?_
      refine At.then ?_
      refine Cd.region ?_
      refine Lst.run rfl rfl (by decide) (Ev.move rfl) ?_
      obtain ⟨x84, h85, H⟩ := bind_some H
      have g86 := vat_some h85
      refine Lst.run rfl rfl (by decide) (Ev.indexAddr (off' := 0 + y64.toNat * 1) rfl rfl Try.runUnderlying23 Try.sizeOf3 g86.1 g86.2.1 rfl) ?_
      obtain ⟨p87, h88, H⟩ := Let_some H
      refine Lst.store (i := 0) rfl rfl rfl rfl rfl Try.sizeOf3 (vs := [.int .i64 (0 : Int)]) rfl rfl rfl (cs' := enc p87) (by rw [← h88]; exact (Put.vecN (s := 1) (x := x84) rfl g86.2.2 (Put.here (vs := [.int .i64 (0 : Int)]) rfl)).off (by omega)) (L' := (.blk b35 (enc p87) 23) :: (.own s48 23 6 (encs l49)) :: (.blk b32 (enc rs25) 90) :: (.rows (α := Vector Int 6) 23 ((Vector.replicate 6 ⟨[], Sl.nil⟩ : Vector (LR (Vector Int 6)) 6).toList)) :: (.rows (α := Vector Int 6) 23 rs25.toList) :: (.blk b12 (enc r8) 23) :: (.own Sl.nil 23 6 (encs ([] : List (Vector Int 6)))) :: L) rfl ?_
      refine Lst.nil ?_
      refine At.in_normal ?_
      refine At.then ?_
      refine Cd.region ?_
      refine Lst.run rfl rfl (by decide) (Ev.move rfl) ?_
      refine Lst.run rfl rfl (by decide) (Ev.sub rfl rfl) ?_
      refine Lst.run rfl rfl (by decide) (Ev.assign rfl) ?_
      refine Lst.nil ?_
      exact At.meet (k63, w64 (y64 - (1 : Int)), p87) hF67 ⟨rfl, rfl, rfl, rfl, rfl, rfl, rfl, trivial⟩ rfl ⟨hgo63 _ (some_inj H).symm, Nat.lt_succ_self _⟩
    rintro F89 ⟨y44, s45, l46⟩ hF90 hy
    subst hy
    refine Cd.as (e' := [(5, .pointer (some ⟨b12, 0, none⟩)), (9, .pointer (some ⟨b32, 0, none⟩)), (10, Sl.v s45), (11, .pointer (some ⟨b35, 0, none⟩)), (33, .int .i64 y15), (34, .int .i64 (i37 : Int))]) (L' := (.blk b35 (enc y44) 23) :: (.own s45 23 6 (encs l46)) :: (.blk b32 (enc rs25) 90) :: (.rows (α := Vector Int 6) 23 ((Vector.replicate 6 ⟨[], Sl.nil⟩ : Vector (LR (Vector Int 6)) 6).toList)) :: (.rows (α := Vector Int 6) 23 rs25.toList) :: (.blk b12 (enc r8) 23) :: (.own Sl.nil 23 6 (encs ([] : List (Vector Int 6)))) :: L) ⟨rfl, rfl, rfl, rfl, rfl, rfl, trivial⟩ rfl ?_
    replace H := HKo47
    refine Cd.region ?_
    refine Lst.run rfl rfl (by decide) (Ev.incr (by omega) rfl rfl) ?_
    refine Lst.run rfl rfl (by decide) (Ev.move rfl) ?_
    refine Lst.nil ?_
    exact At.meet (i37 + 1, k37, y44, s45, l46) (FLe.trans hF42 hF90) ⟨rfl, rfl, rfl, rfl, rfl, rfl, trivial⟩ rfl ⟨⟨hgo37 _ (some_inj H).symm, by omega⟩, Nat.lt_succ_self _⟩
  have hc14 : decide ((i14 : Int) < (6 : Int)) = true := decide_eq_true (by omega)
  obtain ⟨c14, H, hgo14⟩ := rangeF_go H
  unfold cut_All_B0 at H
  try dsimp only at H
  refine Cd.seq ?_
  refine Cd.region ?_
  refine Lst.run rfl rfl (by decide) (Ev.lss rfl rfl) ?_
  refine Lst.nil ?_
  refine At.then ?_
  refine Cd.seq ?_
  refine Cd.condT rfl hc14 ?_
  refine Cd.skip ?_
  refine At.then ?_
  refine Cd.seq ?_
  refine Cd.block ?_
  refine Cd.seq ?_
  refine Cd.region ?_
  obtain ⟨x18, h19, H⟩ := bind_some H
  have g20 := vat_some h19
  refine Lst.run rfl rfl (by decide) (Ev.index1 rfl rfl Try.runUnderlying23 Try.isAgg3 Try.sizeOf3 g20.1 g20.2.1 rfl ((Get.vecN (s := 1) rfl g20.2.2 (Get.here _)).off (by omega))) ?_
  refine Lst.run rfl rfl (by decide) (Ev.assign rfl) ?_
  refine Lst.nil ?_
  refine At.then ?_
  refine Cd.region ?_
  refine Lst.run rfl rfl (by decide) (Ev.move rfl) ?_
  refine Lst.run rfl rfl (by decide) (Ev.move rfl) ?_
  refine Lst.run rfl rfl (by decide) (Ev.add rfl rfl) ?_
  refine Lst.run rfl rfl (by decide) (Ev.mul rfl rfl) ?_
  refine Lst.run rfl rfl (by decide) (Ev.assign rfl) ?_
  refine Lst.nil ?_
  refine At.in_normal ?_
  refine At.then ?_
  refine Cd.region ?_
  refine Lst.run rfl rfl (by decide) (Ev.incr (by omega) rfl rfl) ?_
  refine Lst.run rfl rfl (by decide) (Ev.move rfl) ?_
  refine Lst.nil ?_
  exact At.meet (i14 + 1, k14, w64 (y15 * (w64 (x18 + (1 : Int))))) hF17 ⟨rfl, rfl, rfl, rfl, rfl, trivial⟩ rfl ⟨⟨hgo14 _ (some_inj H).symm, by omega⟩, Nat.lt_succ_self _⟩
set_option maxRecDepth 20000 in
theorem pred_Must_sim {fu : Nat} {a0 : List Event} {a1 : List (List Bool)} {s_a0 : Sl} {s_a1 : Sl} {rs_a1 : List (LR Bool)} {r : Bool × Int} (H : pred_Must fu a0 a1 = some r) (w0 : World) (F : Frz) (M L : List Item) (hM : M.Sublist L) (hs_a0 : Rd w0 F M s_a0 a0) (hm_a1 : rs_a1.map LR.v = a1) (hs_a1 : Rd w0 F M s_a1 rs_a1) (ha_a1 : All LR.rel w0 F M rs_a1) : Ok Try.prog w0 40 [Sl.v s_a0, Sl.v s_a1] F (L) (Is (.tuple #[.bool r.1, .int .i64 r.2]) (L)) := by
  unfold pred_Must at H
  refine Ok.enter (m := 2) (n := 65) Try.func40 rfl rfl rfl (by decide) ?_
  refine Cd.env (e' := [(0, Sl.v s_a0), (1, Sl.v s_a1)]) rfl ?_
  refine Cd.seq ?_
  refine Cd.region ?_
  refine Lst.run rfl rfl (by decide) (Ev.assign rfl) ?_
  refine Lst.run rfl rfl (by decide) (Ev.assign rfl) ?_
  refine Lst.nil ?_
  refine At.then ?_
  refine Cd.seq ?_
  refine Cd.seq ?_
  refine Cd.region ?_
  refine Lst.run rfl rfl (by decide) (Ev.move rfl) ?_
  refine Lst.run rfl rfl (by decide) (Ev.move rfl) ?_
  obtain ⟨r1, h2, H⟩ := bind_some H
  refine Lst.call1 rfl rfl (by decide) (vs := [Sl.v s_a0, Sl.v s_a1]) ⟨rfl, rfl, trivial⟩ Try.call41 (pred_Check_sim h2 w0 _ M _ hM (hs_a0.mono (FLe.refl _) (List.Sublist.refl _)) hm_a1 (hs_a1.mono (FLe.refl _) (List.Sublist.refl _)) (All.monoLR ha_a1 (FLe.refl _) (List.Sublist.refl _))) ?_
  refine Lst.run rfl rfl (by decide) (Ev.assign rfl) ?_
  refine Lst.nil ?_
  refine At.then ?_
  refine Cd.seq ?_
  refine Cd.region ?_
  refine Lst.run rfl rfl (by decide) (Ev.move rfl) ?_
  refine Lst.run rfl rfl (by decide) (Ev.neq rfl rfl) ?_
  refine Lst.nil ?_
  refine At.then ?_
  rcases Bool.eq_false_or_eq_true (r1 != (0 : Int)) with hb5 | hb5
  · replace H := ite_t hb5 H
    refine Cd.condT rfl hb5 ?_
    refine Cd.seq ?_
    refine Cd.region ?_
    refine Lst.run rfl rfl (by decide) (Ev.move rfl) ?_
    refine Lst.run rfl rfl (by decide) (Ev.assign rfl) ?_
    refine Lst.run rfl rfl (by decide) (Ev.assign rfl) ?_
    refine Lst.nil ?_
    refine At.then ?_
    obtain rfl := some_inj H
    refine Cd.ret ?_
    refine At.then_ret ?_
    exact At.ret2 rfl (Res.tmp rfl) (Res.tmp rfl) (FLe.refl _) (List.Sublist.refl _) ⟨rfl, rfl⟩
  replace H := ite_f hb5 H
  refine Cd.condF rfl hb5 ?_
  refine Cd.skip ?_
  refine At.then ?_
  refine Cd.seq ?_
  refine Cd.region ?_
  refine Lst.run rfl rfl (by decide) (Ev.move rfl) ?_
  obtain ⟨r6, h7, H⟩ := bind_some H
  refine Lst.call rfl rfl (by decide) (vs := [Sl.v s_a0]) ⟨rfl, trivial⟩ Try.call35 (cut_All_sim h7 w0 _ M _ hM (hs_a0.mono (FLe.refl _) (List.Sublist.refl _))) (fun F10 L' v hF11 hv => ?_)
  obtain ⟨s8, rfl, rfl⟩ := hv
  refine Lst.run rfl rfl (by decide) (Ev.move rfl) ?_
  refine Lst.run rfl rfl (by decide) (Ev.extract rfl rfl) ?_
  refine Lst.run rfl rfl (by decide) (Ev.extract rfl rfl) ?_
  refine Lst.run rfl rfl (by decide) (Ev.assign rfl) ?_
  refine Lst.run rfl rfl (by decide) (Ev.assign rfl) ?_
  refine Lst.nil ?_
  refine At.then ?_
  refine Cd.seq ?_
  refine Cd.seq ?_
  refine Cd.region ?_
  refine Lst.run rfl rfl (by decide) (Ev.move rfl) ?_
  refine Lst.run rfl rfl (by decide) (Ev.neq rfl rfl) ?_
  refine Lst.nil ?_
  refine At.then ?_
  rcases Bool.eq_false_or_eq_true (r6.2 != (0 : Int)) with hb12 | hb12
  · replace H := ite_t hb12 H
    refine Cd.condT rfl hb12 ?_
    refine Cd.seq ?_
    refine Cd.as (e' := [(8, .int .i64 r6.2)]) (L' := (.own s8 23 6 (encs r6.1)) :: L) ⟨rfl, trivial⟩ rfl ?_
    refine Cd.region ?_
    refine Lst.run rfl rfl (by decide) (Ev.move rfl) ?_
    refine Lst.run rfl rfl (by decide) (Ev.assign rfl) ?_
    refine Lst.run rfl rfl (by decide) (Ev.assign rfl) ?_
    refine Lst.nil ?_
    refine At.then ?_
    obtain rfl := some_inj H
    refine Cd.ret ?_
    refine At.then_ret ?_
    exact At.ret2 rfl (Res.tmp rfl) (Res.tmp rfl) hF11 (List.Sublist.cons _ (List.Sublist.refl _)) ⟨rfl, rfl⟩
  replace H := ite_f hb12 H
  refine Cd.condF rfl hb12 ?_
  refine Cd.skip ?_
  refine At.then ?_
  refine Cd.seq ?_
  refine Cd.as (e' := [(1, Sl.v s_a1), (7, Sl.v s8)]) (L' := (.own s8 23 6 (encs r6.1)) :: L) ⟨rfl, rfl, trivial⟩ rfl ?_
  refine Cd.region ?_
  refine Lst.makeMap (fun x : Vector Int 6 => (.agg (enc x).toArray : Value)) (fun x : Bool => (.bool x : Value)) rfl rfl (by decide) (fun b13 => ?_)
  refine Lst.run rfl rfl (by decide) (Ev.assign rfl) ?_
  refine Lst.nil ?_
  refine At.then ?_
  refine Cd.seq ?_
  refine Cd.region ?_
  refine Lst.alloc (cs := enc (Vector.replicate 6 (0 : Int))) rfl rfl (by decide) Try.zeroValue23 rfl (fun b15 => ?_)
  refine Lst.nil ?_
  refine At.then ?_
  refine Cd.seq ?_
  refine Cd.seq ?_
  refine Cd.region ?_
  refine Lst.run rfl rfl (by decide) (Ev.move rfl) ?_
  refine Lst.run rfl rfl (by decide) (Ev.lenS (α := Vector Int 6) (xs := r6.1) (by decide) rfl rfl Try.runUnderlying28 (Rd.own (i := 2) rfl rfl rfl)) ?_
  refine Lst.run rfl rfl (by decide) (Ev.move rfl) ?_
  refine Lst.nil ?_
  refine At.then ?_
  refine Cd.block ?_
  refine Cd.bound (Rd.le (α := Vector Int 6) (xs := r6.1) (by decide) (Rd.own (i := 2) rfl rfl rfl)) (fun hN57 => ?_)
  obtain ⟨ol17, H, HKl17⟩ := bind_some H
  refine Cd.loop (σ := Nat × Nat × (Vector Int 6) × (List ((Vector Int 6) × Bool))) (fun (i17, k17, y18, l19) => [(1, Sl.v s_a1), (9, .map (some b13)), (10, .pointer (some ⟨b15, 0, none⟩)), (30, Sl.v s8), (31, .int .i64 (r6.1.length : Int)), (32, .int .i64 (i17 : Int))]) (fun (i17, k17, y18, l19) => (.blk b15 (enc y18) 23) :: (mitem b13 (fun x : Vector Int 6 => (.agg (enc x).toArray : Value)) (fun x : Bool => (.bool x : Value)) l19) :: (.own s8 23 6 (encs r6.1)) :: L) (fun _ => (fun (i17, k17, y18, l19) => rangeF (pred_Must_B0 a1 r6) k17 i17 (y18, l19) = some ol17 ∧ i17 + k17 = r6.1.length)) (fun (i17, k17, y18, l19) => k17) (0, r6.1.length, (Vector.replicate 6 (0 : Int)), ([] : List ((Vector Int 6) × Bool))) ⟨rfl, rfl, rfl, rfl, rfl, rfl, trivial⟩ rfl ⟨H, by omega⟩ ?_
  rintro F20 ⟨i17, k17, y18, l19⟩ hF21 ⟨H, hik17⟩
  refine Cd.as (e' := [(1, Sl.v s_a1), (9, .map (some b13)), (10, .pointer (some ⟨b15, 0, none⟩)), (30, Sl.v s8), (31, .int .i64 (r6.1.length : Int)), (32, .int .i64 (i17 : Int))]) (L' := (.blk b15 (enc y18) 23) :: (mitem b13 (fun x : Vector Int 6 => (.agg (enc x).toArray : Value)) (fun x : Bool => (.bool x : Value)) l19) :: (.own s8 23 6 (encs r6.1)) :: L) ⟨rfl, rfl, rfl, rfl, rfl, rfl, trivial⟩ rfl ?_
  rcases k17 with _ | k17
  · have hc17 : decide ((i17 : Int) < (r6.1.length : Int)) = false := decide_eq_false (by omega)
    replace H := rangeF_end H
    refine Cd.seq ?_
    refine Cd.region ?_
    refine Lst.run rfl rfl (by decide) (Ev.lss rfl rfl) ?_
    refine Lst.nil ?_
    refine At.then ?_
    refine Cd.seq ?_
    refine Cd.condF rfl hc17 ?_
    refine Cd.exit ?_
    refine At.then_exit ?_
    refine At.then_exit ?_
    refine At.in_exit ?_
    subst H
    replace H := HKl17
    refine At.then ?_
    refine Cd.seq ?_
    refine Cd.region ?_
    refine Lst.run rfl rfl (by decide) (Ev.move rfl) ?_
    refine Lst.run rfl rfl (by decide) (Ev.loadA (i := 0) rfl rfl Try.isAgg23 Try.sizeOf23 (ch := enc y18) (Enc.len _) (Get.here _)) ?_
    refine Lst.run rfl rfl (by decide) (Ev.lookup (i := 1) (kf := (fun x : Vector Int 6 => (.agg (enc x).toArray : Value))) (vf := (fun x : Bool => (.bool x : Value))) (m := l19) (k := y18) (z0 := false) rfl rfl rfl (KeyOk.ints Try.runUnderlying23 Try.runUnderlying3 Try.sizeOf3 Try.isAgg3 (fun x y w => eq23 x y w)) Try.runUnderlying98 Try.zeroValue4) ?_
    refine Lst.run rfl rfl (by decide) (Ev.not rfl) ?_
    refine Lst.run rfl rfl (by decide) (Ev.assign rfl) ?_
    refine Lst.run rfl rfl (by decide) (Ev.assign rfl) ?_
    refine Lst.nil ?_
    refine At.then ?_
    obtain rfl := some_inj H
    refine Cd.ret ?_
    exact At.ret2 rfl (Res.tmp rfl) (Res.tmp rfl) (FLe.trans hF11 hF21) (List.Sublist.cons _ (List.Sublist.cons _ (List.Sublist.cons _ (List.Sublist.refl _)))) ⟨rfl, rfl⟩
  have hc17 : decide ((i17 : Int) < (r6.1.length : Int)) = true := decide_eq_true (by omega)
  obtain ⟨c17, H, hgo17⟩ := rangeF_go H
  unfold pred_Must_B0 at H
  try dsimp only at H
  refine Cd.seq ?_
  refine Cd.region ?_
  refine Lst.run rfl rfl (by decide) (Ev.lss rfl rfl) ?_
  refine Lst.nil ?_
  refine At.then ?_
  refine Cd.seq ?_
  refine Cd.condT rfl hc17 ?_
  refine Cd.skip ?_
  refine At.then ?_
  obtain ⟨o24, H, HKo24⟩ := bind_some H
  refine Cd.join (σ := (Vector Int 6) × (List ((Vector Int 6) × Bool))) (fun (y22, l23) => [(1, Sl.v s_a1), (9, .map (some b13)), (10, .pointer (some ⟨b15, 0, none⟩)), (30, Sl.v s8), (31, .int .i64 (r6.1.length : Int)), (32, .int .i64 (i17 : Int))]) (fun (y22, l23) => (.blk b15 (enc y22) 23) :: (mitem b13 (fun x : Vector Int 6 => (.agg (enc x).toArray : Value)) (fun x : Bool => (.bool x : Value)) l23) :: (.own s8 23 6 (encs r6.1)) :: L) (fun _ (y22, l23) => (y22, l23) = o24) ?_ ?_
  · refine Cd.block ?_
    refine Cd.seq ?_
    refine Cd.region ?_
    obtain ⟨x25, h26, H⟩ := bind_some H
    have g27 := lat_some h26
    refine Lst.run rfl rfl (by decide) (Ev.indexS (α := Vector Int 6) (xs := r6.1) rfl rfl Try.runUnderlying28 Try.sizeOf23 rfl (by decide) (Rd.own (i := 2) rfl rfl rfl) g27.1 g27.2.1) ?_
    refine Lst.run rfl rfl (by decide) (Ev.loadSA (α := Vector Int 6) rfl (Rd.own (i := 2) rfl rfl rfl) Try.isAgg23 Try.sizeOf23 (ch := enc x25) (Enc.len _) (by decide) ((Get.elemN (s := 6) (x := x25) rfl g27.2.2 (Get.here _)).off (by omega))) ?_
    refine Lst.alloc (cs := enc (Vector.replicate 6 (0 : Int))) rfl rfl (by decide) Try.zeroValue23 rfl (fun b28 => ?_)
    refine Lst.store (i := 0) rfl rfl rfl rfl rfl Try.sizeOf23 (vs := enc x25) rfl (Enc.len _) (Enc.one _) (cs' := enc x25) (Put.here ((Enc.len _).trans (Enc.len _).symm)) (L' := (.blk b28 (enc x25) 23) :: (.blk b15 (enc y18) 23) :: (mitem b13 (fun x : Vector Int 6 => (.agg (enc x).toArray : Value)) (fun x : Bool => (.bool x : Value)) l19) :: (.own s8 23 6 (encs r6.1)) :: L) rfl ?_
    refine Lst.nil ?_
    refine At.then ?_
    refine Cd.seq ?_
    refine Cd.region ?_
    refine Lst.run rfl rfl (by decide) (Ev.loadA (i := 0) rfl rfl Try.isAgg23 Try.sizeOf23 (ch := enc x25) (Enc.len _) (Get.here _)) ?_
    refine Lst.store (i := 1) rfl rfl rfl rfl rfl Try.sizeOf23 (vs := enc x25) rfl (Enc.len _) (Enc.one _) (cs' := enc x25) (Put.here ((Enc.len _).trans (Enc.len _).symm)) (L' := (.blk b28 (enc x25) 23) :: (.blk b15 (enc x25) 23) :: (mitem b13 (fun x : Vector Int 6 => (.agg (enc x).toArray : Value)) (fun x : Bool => (.bool x : Value)) l19) :: (.own s8 23 6 (encs r6.1)) :: L) rfl ?_
    refine Lst.nil ?_
    refine At.then ?_
    refine Cd.seq ?_
    refine Cd.seq ?_
    refine Cd.region ?_
    refine Lst.run rfl rfl (by decide) (Ev.move rfl) ?_
    refine Lst.run rfl rfl (by decide) (Ev.loadA (i := 0) rfl rfl Try.isAgg23 Try.sizeOf23 (ch := enc x25) (Enc.len _) (Get.here _)) ?_
    obtain ⟨r30, h31, H⟩ := bind_some H
    refine Lst.call1 rfl rfl (by decide) (vs := [Sl.v s_a1, .agg (enc x25).toArray]) ⟨rfl, rfl, trivial⟩ Try.call63 (pred_holds_sim h31 w0 _ M _ (List.Sublist.cons _ (List.Sublist.cons _ (List.Sublist.cons _ (List.Sublist.cons _ hM)))) hm_a1 (hs_a1.mono (FLe.trans hF11 hF21) (List.Sublist.refl _)) (All.monoLR ha_a1 (FLe.trans hF11 hF21) (List.Sublist.refl _))) ?_
    refine Lst.nil ?_
    refine At.then ?_
    rcases Bool.eq_false_or_eq_true r30 with hb34 | hb34
    · replace H := ite_t hb34 H
      refine Cd.condT rfl hb34 ?_
      refine Cd.exit ?_
      refine At.then_exit ?_
      refine At.in_exit ?_
      refine At.less (L' := (.blk b15 (enc x25) 23) :: (mitem b13 (fun x : Vector Int 6 => (.agg (enc x).toArray : Value)) (fun x : Bool => (.bool x : Value)) l19) :: (.own s8 23 6 (encs r6.1)) :: L) (List.Sublist.cons _ (List.Sublist.cons_cons _ (List.Sublist.cons_cons _ (List.Sublist.cons_cons _ (List.Sublist.refl _))))) ?_
      exact At.meet (x25, l19) (FLe.refl _) ⟨rfl, rfl, rfl, rfl, rfl, rfl, trivial⟩ rfl (some_inj H)
    replace H := ite_f hb34 H
    refine Cd.condF rfl hb34 ?_
    refine Cd.skip ?_
    refine At.then ?_
    refine Cd.seq ?_
    refine Cd.seq ?_
    refine Cd.region ?_
    refine Lst.run rfl rfl (by decide) (Ev.loadA (i := 0) rfl rfl Try.isAgg23 Try.sizeOf23 (ch := enc x25) (Enc.len _) (Get.here _)) ?_
    refine Lst.run rfl rfl (by decide) (Ev.build (v := .agg (enc ((Vector.replicate 6 (0 : Int)) : Vector Int 6)).toArray) (pv := []) trivial (fun w => by kernel_rfl)) ?_
    refine Lst.run rfl rfl (by decide) (Ev.eqlA rfl rfl (by kernel_rfl) (eq23 _ _)) ?_
    refine Lst.nil ?_
    refine At.then ?_
    rcases Bool.eq_false_or_eq_true (decide (x25 = ((Vector.replicate 6 (0 : Int)) : Vector Int 6))) with hb35 | hb35
    · replace H := ite_t hb35 H
      refine Cd.condT rfl hb35 ?_
      refine Cd.seq ?_
      refine Cd.region ?_
      refine Lst.run rfl rfl (by decide) (Ev.move rfl) ?_
      refine Lst.run rfl rfl (by decide) (Ev.loadA (i := 0) rfl rfl Try.isAgg23 Try.sizeOf23 (ch := enc x25) (Enc.len _) (Get.here _)) ?_
      obtain ⟨m36, h37, H⟩ := Let_some H
      refine Lst.mapUpdate (i := 2) (kf := (fun x : Vector Int 6 => (.agg (enc x).toArray : Value))) (vf := (fun x : Bool => (.bool x : Value))) (m := l19) (k := x25) (v := true) rfl rfl rfl rfl rfl rfl (KeyOk.ints Try.runUnderlying23 Try.runUnderlying3 Try.sizeOf3 Try.isAgg3 (fun x y w => eq23 x y w)) Try.runUnderlying98 ?_
      refine Lst.its (L' := (.blk b28 (enc x25) 23) :: (.blk b15 (enc x25) 23) :: (mitem b13 (fun x : Vector Int 6 => (.agg (enc x).toArray : Value)) (fun x : Bool => (.bool x : Value)) m36) :: (.own s8 23 6 (encs r6.1)) :: L) (by rw [← h37]; rfl) ?_
      refine Lst.nil ?_
      refine At.then ?_
      refine Cd.exit ?_
      refine At.then_exit ?_
      refine At.in_exit ?_
      refine At.less (L' := (.blk b15 (enc x25) 23) :: (mitem b13 (fun x : Vector Int 6 => (.agg (enc x).toArray : Value)) (fun x : Bool => (.bool x : Value)) m36) :: (.own s8 23 6 (encs r6.1)) :: L) (List.Sublist.cons _ (List.Sublist.cons_cons _ (List.Sublist.cons_cons _ (List.Sublist.cons_cons _ (List.Sublist.refl _))))) ?_
      exact At.meet (x25, m36) (FLe.refl _) ⟨rfl, rfl, rfl, rfl, rfl, rfl, trivial⟩ rfl (some_inj H)
    replace H := ite_f hb35 H
    refine Cd.condF rfl hb35 ?_
    refine Cd.skip ?_
    refine At.then ?_
    refine Cd.seq ?_
    refine Cd.region ?_
    refine Lst.run rfl rfl (by decide) (Ev.move rfl) ?_
    refine Lst.nil ?_
    refine At.then ?_
    refine Cd.block ?_
    obtain ⟨ol38, H, HKl38⟩ := bind_some H
    refine Cd.loop (σ := Nat × Nat × (List ((Vector Int 6) × Bool))) (fun (i38, k38, l39) => [(1, Sl.v s_a1), (9, .map (some b13)), (10, .pointer (some ⟨b15, 0, none⟩)), (12, .pointer (some ⟨b28, 0, none⟩)), (30, Sl.v s8), (31, .int .i64 (r6.1.length : Int)), (32, .int .i64 (i17 : Int)), (45, .int .i64 (i38 : Int))]) (fun (i38, k38, l39) => (.blk b28 (enc x25) 23) :: (.blk b15 (enc x25) 23) :: (mitem b13 (fun x : Vector Int 6 => (.agg (enc x).toArray : Value)) (fun x : Bool => (.bool x : Value)) l39) :: (.own s8 23 6 (encs r6.1)) :: L) (fun _ => (fun (i38, k38, l39) => rangeF (pred_Must_B2 x25) k38 i38 l39 = some ol38 ∧ i38 + k38 = 6)) (fun (i38, k38, l39) => k38) (0, 6, l19) ⟨rfl, rfl, rfl, rfl, rfl, rfl, rfl, rfl, trivial⟩ rfl ⟨H, by omega⟩ ?_
    rintro F40 ⟨i38, k38, l39⟩ hF41 ⟨H, hik38⟩
    refine Cd.as (e' := [(1, Sl.v s_a1), (9, .map (some b13)), (10, .pointer (some ⟨b15, 0, none⟩)), (12, .pointer (some ⟨b28, 0, none⟩)), (30, Sl.v s8), (31, .int .i64 (r6.1.length : Int)), (32, .int .i64 (i17 : Int)), (45, .int .i64 (i38 : Int))]) (L' := (.blk b28 (enc x25) 23) :: (.blk b15 (enc x25) 23) :: (mitem b13 (fun x : Vector Int 6 => (.agg (enc x).toArray : Value)) (fun x : Bool => (.bool x : Value)) l39) :: (.own s8 23 6 (encs r6.1)) :: L) ⟨rfl, rfl, rfl, rfl, rfl, rfl, rfl, rfl, trivial⟩ rfl ?_
    rcases k38 with _ | k38
    · have hc38 : decide ((i38 : Int) < (6 : Int)) = false := decide_eq_false (by omega)
      replace H := rangeF_end H
      refine Cd.seq ?_
      refine Cd.region ?_
      refine Lst.run rfl rfl (by decide) (Ev.lss rfl rfl) ?_
      refine Lst.nil ?_
      refine At.then ?_
      refine Cd.seq ?_
      refine Cd.condF rfl hc38 ?_
      refine Cd.exit ?_
      refine At.then_exit ?_
      refine At.then_exit ?_
      refine At.in_exit ?_
      subst H
      replace H := HKl38
      refine At.in_normal ?_
      refine At.less (L' := (.blk b15 (enc x25) 23) :: (mitem b13 (fun x : Vector Int 6 => (.agg (enc x).toArray : Value)) (fun x : Bool => (.bool x : Value)) l39) :: (.own s8 23 6 (encs r6.1)) :: L) (List.Sublist.cons _ (List.Sublist.cons_cons _ (List.Sublist.cons_cons _ (List.Sublist.cons_cons _ (List.Sublist.refl _))))) ?_
      exact At.meet (x25, l39) hF41 ⟨rfl, rfl, rfl, rfl, rfl, rfl, trivial⟩ rfl (some_inj H)
    have hc38 : decide ((i38 : Int) < (6 : Int)) = true := decide_eq_true (by omega)
    obtain ⟨c38, H, hgo38⟩ := rangeF_go H
    unfold pred_Must_B2 at H
    try dsimp only at H
    refine Cd.seq ?_
    refine Cd.region ?_
    refine Lst.run rfl rfl (by decide) (Ev.lss rfl rfl) ?_
    refine Lst.nil ?_
    refine At.then ?_
    refine Cd.seq ?_
    refine Cd.condT rfl hc38 ?_
    refine Cd.skip ?_
    refine At.then ?_
    refine Cd.seq ?_
    refine Cd.block ?_
    refine Cd.seq ?_
    refine Cd.region ?_
    refine Lst.run rfl rfl (by decide) (Ev.move rfl) ?_
    refine Lst.run rfl rfl (by decide) (Ev.assign rfl) ?_
    refine Lst.nil ?_
    refine At.then ?_
    refine Cd.seq ?_
    refine Cd.region ?_
    refine Lst.run rfl rfl (by decide) (Ev.loadA (i := 0) rfl rfl Try.isAgg23 Try.sizeOf23 (ch := enc x25) (Enc.len _) (Get.here _)) ?_
    refine Lst.alloc (cs := enc (Vector.replicate 6 (0 : Int))) rfl rfl (by decide) Try.zeroValue23 rfl (fun b42 => ?_)
    refine Lst.store (i := 0) rfl rfl rfl rfl rfl Try.sizeOf23 (vs := enc x25) rfl (Enc.len _) (Enc.one _) (cs' := enc x25) (Put.here ((Enc.len _).trans (Enc.len _).symm)) (L' := (.blk b42 (enc x25) 23) :: (.blk b28 (enc x25) 23) :: (.blk b15 (enc x25) 23) :: (mitem b13 (fun x : Vector Int 6 => (.agg (enc x).toArray : Value)) (fun x : Bool => (.bool x : Value)) l39) :: (.own s8 23 6 (encs r6.1)) :: L) rfl ?_
    refine Lst.nil ?_
    refine At.then ?_
    refine Cd.seq ?_
    refine Cd.region ?_
    refine Lst.run rfl rfl (by decide) (Ev.move rfl) ?_
    obtain ⟨x44, h45, H⟩ := bind_some H
    have g46 := vat_some h45
    refine Lst.run rfl rfl (by decide) (Ev.indexAddr (off' := 0 + (i38 : Int).toNat * 1) rfl rfl Try.runUnderlying23 Try.sizeOf3 g46.1 g46.2.1 rfl) ?_
    refine Lst.run rfl rfl (by decide) (Ev.load (i := 0) rfl rfl Try.isAgg3 (v := .int .i64 x44) ((Get.vecN (s := 1) (x := x44) rfl g46.2.2 (Get.here _)).off (by omega))) ?_
    refine Lst.run rfl rfl (by decide) (Ev.sub rfl rfl) ?_
    obtain ⟨x47, h48, H⟩ := bind_some H
    have g49 := vat_some h48
    refine Lst.run rfl rfl (by decide) (Ev.indexAddr (off' := 0 + (i38 : Int).toNat * 1) rfl rfl Try.runUnderlying23 Try.sizeOf3 g49.1 g49.2.1 rfl) ?_
    obtain ⟨p50, h51, H⟩ := Let_some H
    refine Lst.store (i := 0) rfl rfl rfl rfl rfl Try.sizeOf3 (vs := [.int .i64 (w64 (x44 - (1 : Int)))]) rfl rfl rfl (cs' := enc p50) (by rw [← h51]; exact (Put.vecN (s := 1) (x := x47) rfl g49.2.2 (Put.here (vs := [.int .i64 (w64 (x44 - (1 : Int)))]) rfl)).off (by omega)) (L' := (.blk b42 (enc p50) 23) :: (.blk b28 (enc x25) 23) :: (.blk b15 (enc x25) 23) :: (mitem b13 (fun x : Vector Int 6 => (.agg (enc x).toArray : Value)) (fun x : Bool => (.bool x : Value)) l39) :: (.own s8 23 6 (encs r6.1)) :: L) rfl ?_
    refine Lst.nil ?_
    refine At.then ?_
    refine Cd.seq ?_
    refine Cd.region ?_
    refine Lst.run rfl rfl (by decide) (Ev.move rfl) ?_
    refine Lst.run rfl rfl (by decide) (Ev.loadA (i := 0) rfl rfl Try.isAgg23 Try.sizeOf23 (ch := enc p50) (Enc.len _) (Get.here _)) ?_
    refine Lst.run rfl rfl (by decide) (Ev.lookup (i := 3) (kf := (fun x : Vector Int 6 => (.agg (enc x).toArray : Value))) (vf := (fun x : Bool => (.bool x : Value))) (m := l39) (k := p50) (z0 := false) rfl rfl rfl (KeyOk.ints Try.runUnderlying23 Try.runUnderlying3 Try.sizeOf3 Try.isAgg3 (fun x y w => eq23 x y w)) Try.runUnderlying98 Try.zeroValue4) ?_
    refine Lst.nil ?_
    refine At.then ?_
    rcases (Bool.eq_false_or_eq_true ((mget l39 p50).getD false)).symm with hb52 | hb52
    · replace H := ite_f hb52 H
      refine Cd.condF rfl hb52 ?_
      refine Cd.skip ?_
      refine At.in_normal ?_
      refine At.then ?_
      refine Cd.region ?_
      refine Lst.run rfl rfl (by decide) (Ev.incr (by omega) rfl rfl) ?_
      refine Lst.run rfl rfl (by decide) (Ev.move rfl) ?_
      refine Lst.nil ?_
      refine At.less (L' := (.blk b28 (enc x25) 23) :: (.blk b15 (enc x25) 23) :: (mitem b13 (fun x : Vector Int 6 => (.agg (enc x).toArray : Value)) (fun x : Bool => (.bool x : Value)) l39) :: (.own s8 23 6 (encs r6.1)) :: L) (List.Sublist.cons _ (List.Sublist.cons_cons _ (List.Sublist.cons_cons _ (List.Sublist.cons_cons _ (List.Sublist.cons_cons _ (List.Sublist.refl _)))))) ?_
      exact At.meet (i38 + 1, k38, l39) hF41 ⟨rfl, rfl, rfl, rfl, rfl, rfl, rfl, rfl, trivial⟩ rfl ⟨⟨hgo38 _ (some_inj H).symm, by omega⟩, Nat.lt_succ_self _⟩
    replace H := ite_t hb52 H
    refine Cd.condT rfl hb52 ?_
    refine Cd.region ?_
    refine Lst.run rfl rfl (by decide) (Ev.move rfl) ?_
    refine Lst.run rfl rfl (by decide) (Ev.loadA (i := 1) rfl rfl Try.isAgg23 Try.sizeOf23 (ch := enc x25) (Enc.len _) (Get.here _)) ?_
    obtain ⟨m53, h54, H⟩ := Let_some H
    refine Lst.mapUpdate (i := 3) (kf := (fun x : Vector Int 6 => (.agg (enc x).toArray : Value))) (vf := (fun x : Bool => (.bool x : Value))) (m := l39) (k := x25) (v := true) rfl rfl rfl rfl rfl rfl (KeyOk.ints Try.runUnderlying23 Try.runUnderlying3 Try.sizeOf3 Try.isAgg3 (fun x y w => eq23 x y w)) Try.runUnderlying98 ?_
    refine Lst.its (L' := (.blk b42 (enc p50) 23) :: (.blk b28 (enc x25) 23) :: (.blk b15 (enc x25) 23) :: (mitem b13 (fun x : Vector Int 6 => (.agg (enc x).toArray : Value)) (fun x : Bool => (.bool x : Value)) m53) :: (.own s8 23 6 (encs r6.1)) :: L) (by rw [← h54]; rfl) ?_
    refine Lst.nil ?_
    refine At.in_normal ?_
    refine At.then ?_
    refine Cd.as (e' := [(1, Sl.v s_a1), (9, .map (some b13)), (10, .pointer (some ⟨b15, 0, none⟩)), (12, .pointer (some ⟨b28, 0, none⟩)), (30, Sl.v s8), (31, .int .i64 (r6.1.length : Int)), (32, .int .i64 (i17 : Int)), (45, .int .i64 (i38 : Int))]) (L' := (.blk b42 (enc p50) 23) :: (.blk b28 (enc x25) 23) :: (.blk b15 (enc x25) 23) :: (mitem b13 (fun x : Vector Int 6 => (.agg (enc x).toArray : Value)) (fun x : Bool => (.bool x : Value)) m53) :: (.own s8 23 6 (encs r6.1)) :: L) ⟨rfl, rfl, rfl, rfl, rfl, rfl, rfl, rfl, trivial⟩ rfl ?_
    refine Cd.region ?_
    refine Lst.run rfl rfl (by decide) (Ev.incr (by omega) rfl rfl) ?_
    refine Lst.run rfl rfl (by decide) (Ev.move rfl) ?_
    refine Lst.nil ?_
    refine At.less (L' := (.blk b28 (enc x25) 23) :: (.blk b15 (enc x25) 23) :: (mitem b13 (fun x : Vector Int 6 => (.agg (enc x).toArray : Value)) (fun x : Bool => (.bool x : Value)) m53) :: (.own s8 23 6 (encs r6.1)) :: L) (List.Sublist.cons _ (List.Sublist.cons_cons _ (List.Sublist.cons_cons _ (List.Sublist.cons_cons _ (List.Sublist.cons_cons _ (List.Sublist.refl _)))))) ?_
    exact At.meet (i38 + 1, k38, m53) hF41 ⟨rfl, rfl, rfl, rfl, rfl, rfl, rfl, rfl, trivial⟩ rfl ⟨⟨hgo38 _ (some_inj H).symm, by omega⟩, Nat.lt_succ_self _⟩
  rintro F55 ⟨y22, l23⟩ hF56 hy
  subst hy
  refine Cd.as (e' := [(1, Sl.v s_a1), (9, .map (some b13)), (10, .pointer (some ⟨b15, 0, none⟩)), (30, Sl.v s8), (31, .int .i64 (r6.1.length : Int)), (32, .int .i64 (i17 : Int))]) (L' := (.blk b15 (enc y22) 23) :: (mitem b13 (fun x : Vector Int 6 => (.agg (enc x).toArray : Value)) (fun x : Bool => (.bool x : Value)) l23) :: (.own s8 23 6 (encs r6.1)) :: L) ⟨rfl, rfl, rfl, rfl, rfl, rfl, trivial⟩ rfl ?_
  replace H := HKo24
  refine Cd.region ?_
  refine Lst.run rfl rfl (by decide) (Ev.incr (by omega) rfl rfl) ?_
  refine Lst.run rfl rfl (by decide) (Ev.move rfl) ?_
  refine Lst.nil ?_
  exact At.meet (i17 + 1, k17, y22, l23) (FLe.trans hF21 hF56) ⟨rfl, rfl, rfl, rfl, rfl, rfl, trivial⟩ rfl ⟨⟨hgo17 _ (some_inj H).symm, by omega⟩, Nat.lt_succ_self _⟩
set_option maxRecDepth 20000 in
theorem partref_So_sim {a0 : List (List Bool)} {a1 : Vector Int 6} {s_a0 : Sl} {rs_a0 : List (LR Bool)} {r : Bool} (H : partref_So a0 a1 = some r) (w0 : World) (F : Frz) (M L : List Item) (hM : M.Sublist L) (hm_a0 : rs_a0.map LR.v = a0) (hs_a0 : Rd w0 F M s_a0 rs_a0) (ha_a0 : All LR.rel w0 F M rs_a0) : Ok Try.prog w0 64 [Sl.v s_a0, .agg (enc a1).toArray] F (L) (Is (.bool r) (L)) := by
  unfold partref_So at H
  refine Ok.enter (m := 2) (n := 21) Try.func64 rfl rfl rfl (by decide) ?_
  refine Cd.env (e' := [(0, Sl.v s_a0), (1, .agg (enc a1).toArray)]) rfl ?_
  refine Cd.seq ?_
  refine Cd.region ?_
  refine Lst.box rfl rfl (by decide) rfl (cs := enc a1) rfl (fun b1 => ?_)
  refine Lst.run rfl rfl (by decide) (Ev.assign rfl) ?_
  refine Lst.nil ?_
  refine At.then ?_
  refine Cd.seq ?_
  refine Cd.seq ?_
  refine Cd.region ?_
  refine Lst.run rfl rfl (by decide) (Ev.loadA (i := 0) rfl rfl Try.isAgg23 Try.sizeOf23 (ch := enc a1) (Enc.len _) (Get.here _)) ?_
  refine Lst.run rfl rfl (by decide) (Ev.move rfl) ?_
  refine Lst.nil ?_
  refine At.then ?_
  refine Cd.block ?_
  obtain ⟨ol3, H, HKl3⟩ := andThen_some H
  refine Cd.loop (σ := Nat × Nat × Unit) (fun (i3, k3, _u) => [(0, Sl.v s_a0), (7, .agg (enc a1).toArray), (8, .int .i64 (i3 : Int))]) (fun (i3, k3, _u) => (.blk b1 (enc a1) 23) :: L) (fun _ => (fun (i3, k3, _u) => rangeM (partref_So_B0 a0 a1) k3 i3 () = some ol3 ∧ i3 + k3 = 6)) (fun (i3, k3, _u) => k3) (0, 6, ()) ⟨rfl, rfl, rfl, trivial⟩ rfl ⟨H, by omega⟩ ?_
  rintro F4 ⟨i3, k3, _u⟩ hF5 ⟨H, hik3⟩
  refine Cd.as (e' := [(0, Sl.v s_a0), (7, .agg (enc a1).toArray), (8, .int .i64 (i3 : Int))]) (L' := (.blk b1 (enc a1) 23) :: L) ⟨rfl, rfl, rfl, trivial⟩ rfl ?_
  rcases k3 with _ | k3
  · have hc3 : decide ((i3 : Int) < (6 : Int)) = false := decide_eq_false (by omega)
    replace H := rangeM_end H
    refine Cd.seq ?_
    refine Cd.region ?_
    refine Lst.run rfl rfl (by decide) (Ev.lss rfl rfl) ?_
    refine Lst.nil ?_
    refine At.then ?_
    refine Cd.seq ?_
    refine Cd.condF rfl hc3 ?_
    refine Cd.exit ?_
    refine At.then_exit ?_
    refine At.then_exit ?_
    refine At.in_exit ?_
    subst H
    replace H := HKl3
    refine At.then ?_
    refine Cd.seq ?_
    refine Cd.region ?_
    refine Lst.run rfl rfl (by decide) (Ev.assign rfl) ?_
    refine Lst.nil ?_
    refine At.then ?_
    obtain rfl := some_inj H
    refine Cd.ret ?_
    exact At.ret1 rfl (Res.tmp rfl) hF5 (List.Sublist.cons _ (List.Sublist.refl _)) ⟨rfl, rfl⟩
  have hc3 : decide ((i3 : Int) < (6 : Int)) = true := decide_eq_true (by omega)
  obtain ⟨c3, H, hgo3, hbrk3, hret3⟩ := rangeM_go H
  unfold partref_So_B0 at H
  try dsimp only at H
  refine Cd.seq ?_
  refine Cd.region ?_
  refine Lst.run rfl rfl (by decide) (Ev.lss rfl rfl) ?_
  refine Lst.nil ?_
  refine At.then ?_
  refine Cd.seq ?_
  refine Cd.condT rfl hc3 ?_
  refine Cd.skip ?_
  refine At.then ?_
  refine Cd.seq ?_
  refine Cd.block ?_
  refine Cd.seq ?_
  refine Cd.region ?_
  refine Lst.run rfl rfl (by decide) (Ev.move rfl) ?_
  obtain ⟨x6, h7, H⟩ := bind_some H
  have g8 := vat_some h7
  refine Lst.run rfl rfl (by decide) (Ev.index1 rfl rfl Try.runUnderlying23 Try.isAgg3 Try.sizeOf3 g8.1 g8.2.1 rfl ((Get.vecN (s := 1) rfl g8.2.2 (Get.here _)).off (by omega))) ?_
  refine Lst.run rfl rfl (by decide) (Ev.assign rfl) ?_
  refine Lst.run rfl rfl (by decide) (Ev.assign rfl) ?_
  refine Lst.nil ?_
  refine At.then ?_
  refine Cd.seq ?_
  refine Cd.region ?_
  refine Lst.run rfl rfl (by decide) (Ev.move rfl) ?_
  refine Lst.run rfl rfl (by decide) (Ev.move rfl) ?_
  obtain ⟨x9, h10, H⟩ := bind_some H
  have g11 := lat_some h10
  obtain ⟨⟨r12v, r12h⟩, r12g, r12e, r12m⟩ := map_get hm_a0 g11.2.2
  obtain rfl : x9 = r12v := r12e.symm
  have r12q : Rd w0 _ _ r12h x9 := ha_a0 _ r12m
  refine Lst.run rfl rfl (by decide) (Ev.indexS (α := LR Bool) (xs := rs_a0) rfl rfl Try.runUnderlying42 Try.sizeOf44 rfl (by decide) (hs_a0.mono hF5 (List.Sublist.cons _ hM)) g11.1 (by have := map_len hm_a0; omega)) ?_
  refine Lst.run rfl rfl (by decide) (Ev.loadS (α := LR Bool) rfl (hs_a0.mono hF5 (List.Sublist.cons _ hM)) Try.isAgg44 (v := Sl.v r12h) ((Get.elemN (s := 1) rfl r12g (Get.here _)).off (by omega))) ?_
  refine Lst.run rfl rfl (by decide) (Ev.move rfl) ?_
  obtain ⟨x13, h14, H⟩ := bind_some H
  have g15 := lat_some h14
  refine Lst.run rfl rfl (by decide) (Ev.indexS (α := Bool) (xs := x9) rfl rfl Try.runUnderlying44 Try.sizeOf4 rfl (by decide) (r12q.mono hF5 (List.Sublist.cons _ hM)) g15.1 g15.2.1) ?_
  refine Lst.run rfl rfl (by decide) (Ev.loadS (α := Bool) rfl (r12q.mono hF5 (List.Sublist.cons _ hM)) Try.isAgg4 (v := .bool x13) ((Get.elemN (s := 1) (x := x13) rfl g15.2.2 (Get.here _)).off (by omega))) ?_
  refine Lst.run rfl rfl (by decide) (Ev.not rfl) ?_
  refine Lst.nil ?_
  refine At.then ?_
  rcases Bool.eq_false_or_eq_true (!x13) with hb16 | hb16
  · replace H := ite_t hb16 H
    refine Cd.condT rfl hb16 ?_
    refine Cd.seq ?_
    refine Cd.as (e' := []) (L' := (.blk b1 (enc a1) 23) :: L) trivial rfl ?_
    refine Cd.region ?_
    refine Lst.run rfl rfl (by decide) (Ev.assign rfl) ?_
    refine Lst.nil ?_
    refine At.then ?_
    have H := hret3 _ (some_inj H).symm
    subst H
    replace H := HKl3
    obtain rfl := some_inj H
    refine Cd.ret ?_
    refine At.in_ret ?_
    refine At.then_ret ?_
    refine At.then_ret ?_
    refine At.in_ret ?_
    refine At.then_ret ?_
    exact At.ret1 rfl (Res.tmp rfl) hF5 (List.Sublist.cons _ (List.Sublist.refl _)) ⟨rfl, rfl⟩
  replace H := ite_f hb16 H
  refine Cd.condF rfl hb16 ?_
  refine Cd.skip ?_
  refine At.in_normal ?_
  refine At.then ?_
  refine Cd.region ?_
  refine Lst.run rfl rfl (by decide) (Ev.incr (by omega) rfl rfl) ?_
  refine Lst.run rfl rfl (by decide) (Ev.move rfl) ?_
  refine Lst.nil ?_
  exact At.meet (i3 + 1, k3, ()) hF5 ⟨rfl, rfl, rfl, trivial⟩ rfl ⟨⟨hgo3 _ (some_inj H).symm, by omega⟩, Nat.lt_succ_self _⟩
end Go.Proofs.Ytclmlddmgccfjaa
