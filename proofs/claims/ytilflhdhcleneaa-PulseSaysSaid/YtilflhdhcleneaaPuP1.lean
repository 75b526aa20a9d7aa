/-
  The functions compute their specs; printed by a program.
-/
import Derived.Test.YtilflhdhcleneaaPuSp
import Derived.Test.YtilflhdhcleneaaGoL
import Derived.Test.YtilflhdhcleneaaProg
namespace Go.Proofs.Ytilflhdhcleneaa
open Go.RowKit Enc
set_option linter.unusedVariables false
set_option linter.unusedSimpArgs false
theorem eq54 (x y : Pulse) : ∀ w, (Op.equal 54 (.agg (enc x).toArray) (.agg (enc y).toArray)).run Try.prog w = .ok (decide (x = y)) w :=
  EqT.top (d := 10000) Try.isAgg54 Try.sizeOf54 rfl rfl (EqT.struct Try.isAgg54 Try.sizeOf54 rfl Try.runUnderlying54 (by kernel_rfl) (fun x y w => by
  refine Eq.trans (eqField (p := x.Me) (q := y.Me) rfl (EqT.int Try.isAgg3 Try.runUnderlying3) rfl ((Pulse.get_Me (Get.here _)).off rfl) ((Pulse.get_Me (Get.here _)).off rfl) (eqField (p := x.Now) (q := y.Now) rfl (EqT.int Try.isAgg3 Try.runUnderlying3) rfl ((Pulse.get_Now (Get.here _)).off rfl) ((Pulse.get_Now (Get.here _)).off rfl) (eqField (p := x.Last) (q := y.Last) rfl (EqT.array (inf := Try.t3) Try.isAgg37 Try.sizeOf37 rfl Try.runUnderlying37 rfl (by kernel_rfl) (EqT.int Try.isAgg3 Try.runUnderlying3)) rfl ((Pulse.get_Last (Get.here _)).off rfl) ((Pulse.get_Last (Get.here _)).off rfl) (eqField (p := x.Wait) (q := y.Wait) rfl (EqT.array (inf := Try.t3) Try.isAgg37 Try.sizeOf37 rfl Try.runUnderlying37 rfl (by kernel_rfl) (EqT.int Try.isAgg3 Try.runUnderlying3)) rfl ((Pulse.get_Wait (Get.here _)).off rfl) ((Pulse.get_Wait (Get.here _)).off rfl) (eqField (p := x.Doubt) (q := y.Doubt) rfl (EqT.array (inf := Try.t4) Try.isAgg52 Try.sizeOf52 rfl Try.runUnderlying52 rfl (by kernel_rfl) (EqT.bool Try.isAgg4 Try.runUnderlying4)) rfl ((Pulse.get_Doubt (Get.here _)).off rfl) ((Pulse.get_Doubt (Get.here _)).off rfl) (by rfl)))))) ?_
  congr 1
  rw [Bool.eq_iff_iff]; cases x; cases y; simp)) x y
set_option maxRecDepth 20000 in
theorem partref_PulseErr_sim {a0 : Pulse} {r : Int} (H : partref_PulseErr a0 = some r) (w0 : World) (F : Frz) (L : List Item) : Ok Try.prog w0 21 [.agg (enc a0).toArray] F L (Is (.int .i64 r) L) := by
  unfold partref_PulseErr at H
  refine Ok.enter (m := 1) (n := 64) Try.func21 rfl rfl rfl (by decide) ?_
  refine Cd.env (e' := [(0, .agg (enc a0).toArray)]) rfl ?_
  refine Cd.seq ?_
  refine Cd.region ?_
  refine Lst.box rfl rfl (by decide) rfl (cs := enc a0) rfl (fun b1 => ?_)
  refine Lst.run rfl rfl (by decide) (Ev.assign rfl) ?_
  refine Lst.nil ?_
  refine At.then ?_
  refine Cd.seq ?_
  obtain ⟨o3, H, HKo3⟩ := bind_some H
  refine Cd.join (σ := Bool) (fun y11 => [(1, .pointer (some ⟨b1, 0, none⟩)), (21, .bool y11)]) (fun y11 => (.blk b1 (enc a0) 54) :: L) (fun _ y11 => y11 = o3) ?_ ?_
  · refine Cd.region ?_
    refine Lst.run rfl rfl (by decide) (Ev.fieldAddr (off' := 0) rfl Try.runUnderlying54 rfl Try.sizeOf3 rfl rfl) ?_
    refine Lst.run rfl rfl (by decide) (Ev.load (i := 0) rfl rfl Try.isAgg3 ((Pulse.get_Me (Get.here _)).off (by rfl))) ?_
    refine Lst.run rfl rfl (by decide) (Ev.lss rfl rfl) ?_
    refine Lst.run rfl rfl (by decide) (Ev.move rfl) ?_
    rcases Bool.eq_false_or_eq_true (decide (a0.Me < (0 : Int))) with hb4 | hb4
    · replace H := ite_t hb4 H
      refine Lst.skip rfl rfl rfl hb4 rfl (by decide) ?_
      refine Lst.skip rfl rfl rfl hb4 rfl (by decide) ?_
      refine Lst.skip rfl rfl rfl hb4 rfl (by decide) ?_
      refine Lst.run rfl rfl (by decide) (Ev.pickT rfl hb4 rfl) ?_
      refine Lst.run rfl rfl (by decide) (Ev.move rfl) ?_
      refine Lst.skip rfl rfl rfl rfl rfl (by decide) ?_
      refine Lst.skip rfl rfl rfl rfl rfl (by decide) ?_
      refine Lst.skip rfl rfl rfl rfl rfl (by decide) ?_
      refine Lst.run rfl rfl (by decide) (Ev.pickT rfl rfl rfl) ?_
      refine Lst.run rfl rfl (by decide) (Ev.move rfl) ?_
      refine Lst.skip rfl rfl rfl rfl rfl (by decide) ?_
      refine Lst.skip rfl rfl rfl rfl rfl (by decide) ?_
      refine Lst.skip rfl rfl rfl rfl rfl (by decide) ?_
      refine Lst.run rfl rfl (by decide) (Ev.pickT rfl rfl rfl) ?_
      refine Lst.nil ?_
      exact At.meet true (FLe.refl _) ⟨rfl, rfl, trivial⟩ rfl (some_inj H)
    replace H := ite_f hb4 H
    refine Lst.runG rfl rfl rfl hb4 rfl (by decide) (Ev.fieldAddr (off' := 0) rfl Try.runUnderlying54 rfl Try.sizeOf3 rfl rfl) ?_
    refine Lst.runG rfl rfl rfl hb4 rfl (by decide) (Ev.load (i := 0) rfl rfl Try.isAgg3 ((Pulse.get_Me (Get.here _)).off (by rfl))) ?_
    refine Lst.runG rfl rfl rfl hb4 rfl (by decide) (Ev.gtr rfl rfl) ?_
    refine Lst.run rfl rfl (by decide) (Ev.pickF rfl hb4 rfl) ?_
    refine Lst.run rfl rfl (by decide) (Ev.move rfl) ?_
    rcases Bool.eq_false_or_eq_true (decide (a0.Me > (5 : Int))) with hb6 | hb6
    · replace H := ite_t hb6 H
      refine Lst.skip rfl rfl rfl hb6 rfl (by decide) ?_
      refine Lst.skip rfl rfl rfl hb6 rfl (by decide) ?_
      refine Lst.skip rfl rfl rfl hb6 rfl (by decide) ?_
      refine Lst.run rfl rfl (by decide) (Ev.pickT rfl hb6 rfl) ?_
      refine Lst.run rfl rfl (by decide) (Ev.move rfl) ?_
      refine Lst.skip rfl rfl rfl rfl rfl (by decide) ?_
      refine Lst.skip rfl rfl rfl rfl rfl (by decide) ?_
      refine Lst.skip rfl rfl rfl rfl rfl (by decide) ?_
      refine Lst.run rfl rfl (by decide) (Ev.pickT rfl rfl rfl) ?_
      refine Lst.nil ?_
      exact At.meet true (FLe.refl _) ⟨rfl, rfl, trivial⟩ rfl (some_inj H)
    replace H := ite_f hb6 H
    refine Lst.runG rfl rfl rfl hb6 rfl (by decide) (Ev.fieldAddr (off' := 1) rfl Try.runUnderlying54 rfl Try.sizeOf3 rfl rfl) ?_
    refine Lst.runG rfl rfl rfl hb6 rfl (by decide) (Ev.load (i := 0) rfl rfl Try.isAgg3 ((Pulse.get_Now (Get.here _)).off (by rfl))) ?_
    refine Lst.runG rfl rfl rfl hb6 rfl (by decide) (Ev.lss rfl rfl) ?_
    refine Lst.run rfl rfl (by decide) (Ev.pickF rfl hb6 rfl) ?_
    refine Lst.run rfl rfl (by decide) (Ev.move rfl) ?_
    rcases Bool.eq_false_or_eq_true (decide (a0.Now < (0 : Int))) with hb8 | hb8
    · replace H := ite_t hb8 H
      refine Lst.skip rfl rfl rfl hb8 rfl (by decide) ?_
      refine Lst.skip rfl rfl rfl hb8 rfl (by decide) ?_
      refine Lst.skip rfl rfl rfl hb8 rfl (by decide) ?_
      refine Lst.run rfl rfl (by decide) (Ev.pickT rfl hb8 rfl) ?_
      refine Lst.nil ?_
      exact At.meet true (FLe.refl _) ⟨rfl, rfl, trivial⟩ rfl (some_inj H)
    replace H := ite_f hb8 H
    refine Lst.runG rfl rfl rfl hb8 rfl (by decide) (Ev.fieldAddr (off' := 1) rfl Try.runUnderlying54 rfl Try.sizeOf3 rfl rfl) ?_
    refine Lst.runG rfl rfl rfl hb8 rfl (by decide) (Ev.load (i := 0) rfl rfl Try.isAgg3 ((Pulse.get_Now (Get.here _)).off (by rfl))) ?_
    refine Lst.runG rfl rfl rfl hb8 rfl (by decide) (Ev.gtr rfl rfl) ?_
    refine Lst.run rfl rfl (by decide) (Ev.pickF rfl hb8 rfl) ?_
    refine Lst.nil ?_
    exact At.meet (decide (a0.Now > (16777215 : Int))) (FLe.refl _) ⟨rfl, rfl, trivial⟩ rfl (some_inj H)
  rintro F' y11 hF' hy
  subst hy
  refine Cd.fle hF' ?_
  refine Cd.as (e' := [(1, .pointer (some ⟨b1, 0, none⟩)), (21, .bool y11)]) (L' := (.blk b1 (enc a0) 54) :: L) ⟨rfl, rfl, trivial⟩ rfl ?_
  replace H := HKo3
  rcases Bool.eq_false_or_eq_true y11 with hb13 | hb13
  · replace H := ite_t hb13 H
    refine Cd.condT rfl hb13 ?_
    refine Cd.seq ?_
    refine Cd.region ?_
    refine Lst.run rfl rfl (by decide) (Ev.assign rfl) ?_
    refine Lst.nil ?_
    refine At.then ?_
    obtain rfl := some_inj H
    refine Cd.ret ?_
    refine At.then_ret ?_
    exact At.ret1 rfl (Res.tmp rfl) (FLe.refl _) (List.Sublist.cons _ (List.Sublist.refl _)) ⟨rfl, rfl⟩
  replace H := ite_f hb13 H
  refine Cd.condF rfl hb13 ?_
  refine Cd.skip ?_
  refine At.then ?_
  refine Cd.seq ?_
  refine Cd.seq ?_
  refine Cd.region ?_
  refine Lst.run rfl rfl (by decide) (Ev.move rfl) ?_
  refine Lst.nil ?_
  refine At.then ?_
  refine Cd.block ?_
  obtain ⟨ol14, H, HKl14⟩ := andThen_some H
  refine Cd.loop (σ := Nat × Nat × Unit) (fun (i14, k14, _u) => [(1, .pointer (some ⟨b1, 0, none⟩)), (22, .int .i64 (i14 : Int))]) (fun (i14, k14, _u) => (.blk b1 (enc a0) 54) :: L) (fun _ => (fun (i14, k14, _u) => rangeM (partref_PulseErr_L14 a0) k14 i14 () = some ol14 ∧ i14 + k14 = 6)) (fun (i14, k14, _u) => k14) (0, 6, ()) ⟨rfl, rfl, trivial⟩ rfl ⟨H, by omega⟩ ?_
  rintro F' ⟨i14, k14, _u⟩ hF' ⟨H, hik14⟩
  refine Cd.fle hF' ?_
  refine Cd.as (e' := [(1, .pointer (some ⟨b1, 0, none⟩)), (22, .int .i64 (i14 : Int))]) (L' := (.blk b1 (enc a0) 54) :: L) ⟨rfl, rfl, trivial⟩ rfl ?_
  rcases k14 with _ | k14
  · have hc14 : decide ((i14 : Int) < (6 : Int)) = false := decide_eq_false (by omega)
    replace H := rangeM_end H
    refine Cd.seq ?_
    refine Cd.region ?_
    refine Lst.run rfl rfl (by decide) (Ev.lss rfl rfl) ?_
    refine Lst.nil ?_
    refine At.then ?_
    refine Cd.seq ?_
    refine Cd.condF rfl hc14 ?_
    refine Cd.exit ?_
    refine At.then_exit ?_
    refine At.then_exit ?_
    refine At.in_exit ?_
    subst H
    replace H := HKl14
    refine At.then ?_
    refine Cd.seq ?_
    refine Cd.region ?_
    refine Lst.run rfl rfl (by decide) (Ev.assign rfl) ?_
    refine Lst.nil ?_
    refine At.then ?_
    obtain rfl := some_inj H
    refine Cd.ret ?_
    exact At.ret1 rfl (Res.tmp rfl) (FLe.refl _) (List.Sublist.cons _ (List.Sublist.refl _)) ⟨rfl, rfl⟩
  have hc14 : decide ((i14 : Int) < (6 : Int)) = true := decide_eq_true (by omega)
  obtain ⟨c14, H, hgo14, hbrk14, hret14⟩ := rangeM_go H
  unfold partref_PulseErr_L14 at H
  try dsimp only at H
  refine Cd.seq ?_
  refine Cd.region ?_
  refine Lst.run rfl rfl (by decide) (Ev.lss rfl rfl) ?_
  refine Lst.nil ?_
  refine At.then ?_
  refine Cd.seq ?_
  refine Cd.condT rfl hc14 ?_
  refine Cd.skip ?_
  refine At.then ?_
  refine Cd.seq ?_
  refine Cd.block ?_
  refine Cd.seq ?_
  refine Cd.region ?_
  refine Lst.run rfl rfl (by decide) (Ev.move rfl) ?_
  refine Lst.run rfl rfl (by decide) (Ev.assign rfl) ?_
  refine Lst.nil ?_
  refine At.then ?_
  refine Cd.seq ?_
  obtain ⟨o15, H, HKo15⟩ := bind_some H
  refine Cd.join (σ := Bool) (fun y35 => [(1, .pointer (some ⟨b1, 0, none⟩)), (22, .int .i64 (i14 : Int)), (3, .int .i64 (i14 : Int)), (52, .bool y35)]) (fun y35 => (.blk b1 (enc a0) 54) :: L) (fun _ y35 => y35 = o15) ?_ ?_
  · refine Cd.quiet (by kernel_rfl) (by kernel_rfl) ?_
    refine Qt.run rfl rfl (by decide) (Ev.move rfl) ?_
    refine Qt.run rfl rfl (by decide) (Ev.fieldAddr (off' := 2) rfl Try.runUnderlying54 rfl Try.sizeOf37 rfl rfl) ?_
    obtain ⟨x16, h17, H⟩ := bind_some H
    have g18 := vat_some h17
    refine Qt.run rfl rfl (by decide) (Ev.indexAddr (off' := 2 + (i14 : Int).toNat * 1) rfl rfl Try.runUnderlying37 Try.sizeOf3 g18.1 g18.2.1 rfl) ?_
    refine Qt.run rfl rfl (by decide) (Ev.load (i := 0) rfl rfl Try.isAgg3 ((Pulse.get_Last (Get.vecN (s := 1) rfl g18.2.2 (Get.here _))).off (by omega))) ?_
    refine Qt.run rfl rfl (by decide) (Ev.lss rfl rfl) ?_
    refine Qt.run rfl rfl (by decide) (Ev.move rfl) ?_
    rcases Bool.eq_false_or_eq_true (decide (x16 < (0 : Int))) with hb19 | hb19
    · replace H := ite_t hb19 H
      refine Qt.skip rfl rfl rfl hb19 rfl (by decide) ?_
      refine Qt.skip rfl rfl rfl hb19 rfl (by decide) ?_
      refine Qt.skip rfl rfl rfl hb19 rfl (by decide) ?_
      refine Qt.skip rfl rfl rfl hb19 rfl (by decide) ?_
      refine Qt.skip rfl rfl rfl hb19 rfl (by decide) ?_
      refine Qt.skip rfl rfl rfl hb19 rfl (by decide) ?_
      refine Qt.skip rfl rfl rfl hb19 rfl (by decide) ?_
      refine Qt.run rfl rfl (by decide) (Ev.pickT rfl hb19 rfl) ?_
      refine Qt.run rfl rfl (by decide) (Ev.move rfl) ?_
      refine Qt.skip rfl rfl rfl rfl rfl (by decide) ?_
      refine Qt.skip rfl rfl rfl rfl rfl (by decide) ?_
      refine Qt.skip rfl rfl rfl rfl rfl (by decide) ?_
      refine Qt.skip rfl rfl rfl rfl rfl (by decide) ?_
      refine Qt.skip rfl rfl rfl rfl rfl (by decide) ?_
      refine Qt.run rfl rfl (by decide) (Ev.pickT rfl rfl rfl) ?_
      refine Qt.run rfl rfl (by decide) (Ev.move rfl) ?_
      refine Qt.skip rfl rfl rfl rfl rfl (by decide) ?_
      refine Qt.skip rfl rfl rfl rfl rfl (by decide) ?_
      refine Qt.skip rfl rfl rfl rfl rfl (by decide) ?_
      refine Qt.skip rfl rfl rfl rfl rfl (by decide) ?_
      refine Qt.skip rfl rfl rfl rfl rfl (by decide) ?_
      refine Qt.run rfl rfl (by decide) (Ev.pickT rfl rfl rfl) ?_
      refine Qt.done ?_
      exact At.meet true (FLe.refl _) ⟨rfl, rfl, rfl, rfl, trivial⟩ rfl (some_inj H)
    replace H := ite_f hb19 H
    refine Qt.runG rfl rfl rfl hb19 rfl (by decide) (Ev.move rfl) ?_
    refine Qt.runG rfl rfl rfl hb19 rfl (by decide) (Ev.fieldAddr (off' := 2) rfl Try.runUnderlying54 rfl Try.sizeOf37 rfl rfl) ?_
    obtain ⟨x21, h22, H⟩ := bind_some H
    have g23 := vat_some h22
    refine Qt.runG rfl rfl rfl hb19 rfl (by decide) (Ev.indexAddr (off' := 2 + (i14 : Int).toNat * 1) rfl rfl Try.runUnderlying37 Try.sizeOf3 g23.1 g23.2.1 rfl) ?_
    refine Qt.runG rfl rfl rfl hb19 rfl (by decide) (Ev.load (i := 0) rfl rfl Try.isAgg3 ((Pulse.get_Last (Get.vecN (s := 1) rfl g23.2.2 (Get.here _))).off (by omega))) ?_
    refine Qt.runG rfl rfl rfl hb19 rfl (by decide) (Ev.fieldAddr (off' := 1) rfl Try.runUnderlying54 rfl Try.sizeOf3 rfl rfl) ?_
    refine Qt.runG rfl rfl rfl hb19 rfl (by decide) (Ev.load (i := 0) rfl rfl Try.isAgg3 ((Pulse.get_Now (Get.here _)).off (by rfl))) ?_
    refine Qt.runG rfl rfl rfl hb19 rfl (by decide) (Ev.gtr rfl rfl) ?_
    refine Qt.run rfl rfl (by decide) (Ev.pickF rfl hb19 rfl) ?_
    refine Qt.run rfl rfl (by decide) (Ev.move rfl) ?_
    rcases Bool.eq_false_or_eq_true (decide (x21 > a0.Now)) with hb24 | hb24
    · replace H := ite_t hb24 H
      refine Qt.skip rfl rfl rfl hb24 rfl (by decide) ?_
      refine Qt.skip rfl rfl rfl hb24 rfl (by decide) ?_
      refine Qt.skip rfl rfl rfl hb24 rfl (by decide) ?_
      refine Qt.skip rfl rfl rfl hb24 rfl (by decide) ?_
      refine Qt.skip rfl rfl rfl hb24 rfl (by decide) ?_
      refine Qt.run rfl rfl (by decide) (Ev.pickT rfl hb24 rfl) ?_
      refine Qt.run rfl rfl (by decide) (Ev.move rfl) ?_
      refine Qt.skip rfl rfl rfl rfl rfl (by decide) ?_
      refine Qt.skip rfl rfl rfl rfl rfl (by decide) ?_
      refine Qt.skip rfl rfl rfl rfl rfl (by decide) ?_
      refine Qt.skip rfl rfl rfl rfl rfl (by decide) ?_
      refine Qt.skip rfl rfl rfl rfl rfl (by decide) ?_
      refine Qt.run rfl rfl (by decide) (Ev.pickT rfl rfl rfl) ?_
      refine Qt.done ?_
      exact At.meet true (FLe.refl _) ⟨rfl, rfl, rfl, rfl, trivial⟩ rfl (some_inj H)
    replace H := ite_f hb24 H
    refine Qt.runG rfl rfl rfl hb24 rfl (by decide) (Ev.move rfl) ?_
    refine Qt.runG rfl rfl rfl hb24 rfl (by decide) (Ev.fieldAddr (off' := 8) rfl Try.runUnderlying54 rfl Try.sizeOf37 rfl rfl) ?_
    obtain ⟨x26, h27, H⟩ := bind_some H
    have g28 := vat_some h27
    refine Qt.runG rfl rfl rfl hb24 rfl (by decide) (Ev.indexAddr (off' := 8 + (i14 : Int).toNat * 1) rfl rfl Try.runUnderlying37 Try.sizeOf3 g28.1 g28.2.1 rfl) ?_
    refine Qt.runG rfl rfl rfl hb24 rfl (by decide) (Ev.load (i := 0) rfl rfl Try.isAgg3 ((Pulse.get_Wait (Get.vecN (s := 1) rfl g28.2.2 (Get.here _))).off (by omega))) ?_
    refine Qt.runG rfl rfl rfl hb24 rfl (by decide) (Ev.lss rfl rfl) ?_
    refine Qt.run rfl rfl (by decide) (Ev.pickF rfl hb24 rfl) ?_
    refine Qt.run rfl rfl (by decide) (Ev.move rfl) ?_
    rcases Bool.eq_false_or_eq_true (decide (x26 < (1 : Int))) with hb29 | hb29
    · replace H := ite_t hb29 H
      refine Qt.skip rfl rfl rfl hb29 rfl (by decide) ?_
      refine Qt.skip rfl rfl rfl hb29 rfl (by decide) ?_
      refine Qt.skip rfl rfl rfl hb29 rfl (by decide) ?_
      refine Qt.skip rfl rfl rfl hb29 rfl (by decide) ?_
      refine Qt.skip rfl rfl rfl hb29 rfl (by decide) ?_
      refine Qt.run rfl rfl (by decide) (Ev.pickT rfl hb29 rfl) ?_
      refine Qt.done ?_
      exact At.meet true (FLe.refl _) ⟨rfl, rfl, rfl, rfl, trivial⟩ rfl (some_inj H)
    replace H := ite_f hb29 H
    refine Qt.runG rfl rfl rfl hb29 rfl (by decide) (Ev.move rfl) ?_
    refine Qt.runG rfl rfl rfl hb29 rfl (by decide) (Ev.fieldAddr (off' := 8) rfl Try.runUnderlying54 rfl Try.sizeOf37 rfl rfl) ?_
    obtain ⟨x31, h32, H⟩ := bind_some H
    have g33 := vat_some h32
    refine Qt.runG rfl rfl rfl hb29 rfl (by decide) (Ev.indexAddr (off' := 8 + (i14 : Int).toNat * 1) rfl rfl Try.runUnderlying37 Try.sizeOf3 g33.1 g33.2.1 rfl) ?_
    refine Qt.runG rfl rfl rfl hb29 rfl (by decide) (Ev.load (i := 0) rfl rfl Try.isAgg3 ((Pulse.get_Wait (Get.vecN (s := 1) rfl g33.2.2 (Get.here _))).off (by omega))) ?_
    refine Qt.runG rfl rfl rfl hb29 rfl (by decide) (Ev.gtr rfl rfl) ?_
    refine Qt.run rfl rfl (by decide) (Ev.pickF rfl hb29 rfl) ?_
    refine Qt.done ?_
    exact At.meet (decide (x31 > (1000 : Int))) (FLe.refl _) ⟨rfl, rfl, rfl, rfl, trivial⟩ rfl (some_inj H)
  rintro F' y35 hF' hy
  subst hy
  refine Cd.fle hF' ?_
  refine Cd.as (e' := [(1, .pointer (some ⟨b1, 0, none⟩)), (22, .int .i64 (i14 : Int)), (3, .int .i64 (i14 : Int)), (52, .bool y35)]) (L' := (.blk b1 (enc a0) 54) :: L) ⟨rfl, rfl, rfl, rfl, trivial⟩ rfl ?_
  replace H := HKo15
  rcases Bool.eq_false_or_eq_true y35 with hb37 | hb37
  · replace H := ite_t hb37 H
    refine Cd.condT rfl hb37 ?_
    refine Cd.seq ?_
    refine Cd.region ?_
    refine Lst.run rfl rfl (by decide) (Ev.assign rfl) ?_
    refine Lst.nil ?_
    refine At.then ?_
    have H := hret14 _ (some_inj H).symm
    subst H
    replace H := HKl14
    obtain rfl := some_inj H
    refine Cd.ret ?_
    refine At.then_ret ?_
    refine At.in_ret ?_
    refine At.then_ret ?_
    refine At.then_ret ?_
    refine At.in_ret ?_
    refine At.then_ret ?_
    exact At.ret1 rfl (Res.tmp rfl) (FLe.refl _) (List.Sublist.cons _ (List.Sublist.refl _)) ⟨rfl, rfl⟩
  replace H := ite_f hb37 H
  refine Cd.condF rfl hb37 ?_
  refine Cd.skip ?_
  refine At.then ?_
  obtain ⟨o38, H, HKo38⟩ := bind_some H
  refine Cd.join (σ := Bool) (fun y45 => [(1, .pointer (some ⟨b1, 0, none⟩)), (22, .int .i64 (i14 : Int)), (62, .bool y45)]) (fun y45 => (.blk b1 (enc a0) 54) :: L) (fun _ y45 => y45 = o38) ?_ ?_
  · refine Cd.region ?_
    refine Lst.run rfl rfl (by decide) (Ev.move rfl) ?_
    refine Lst.run rfl rfl (by decide) (Ev.fieldAddr (off' := 14) rfl Try.runUnderlying54 rfl Try.sizeOf52 rfl rfl) ?_
    obtain ⟨x39, h40, H⟩ := bind_some H
    have g41 := vat_some h40
    refine Lst.run rfl rfl (by decide) (Ev.indexAddr (off' := 14 + (i14 : Int).toNat * 1) rfl rfl Try.runUnderlying52 Try.sizeOf4 g41.1 g41.2.1 rfl) ?_
    refine Lst.run rfl rfl (by decide) (Ev.load (i := 0) rfl rfl Try.isAgg4 ((Pulse.get_Doubt (Get.vecN (s := 1) rfl g41.2.2 (Get.here _))).off (by omega))) ?_
    refine Lst.run rfl rfl (by decide) (Ev.move rfl) ?_
    rcases (Bool.eq_false_or_eq_true x39).symm with hb42 | hb42
    · replace H := ite_f hb42 H
      refine Lst.skip rfl rfl rfl hb42 rfl (by decide) ?_
      refine Lst.skip rfl rfl rfl hb42 rfl (by decide) ?_
      refine Lst.skip rfl rfl rfl hb42 rfl (by decide) ?_
      refine Lst.skip rfl rfl rfl hb42 rfl (by decide) ?_
      refine Lst.run rfl rfl (by decide) (Ev.pickF rfl hb42 rfl) ?_
      refine Lst.nil ?_
      exact At.meet false (FLe.refl _) ⟨rfl, rfl, rfl, trivial⟩ rfl (some_inj H)
    replace H := ite_t hb42 H
    refine Lst.runG rfl rfl rfl hb42 rfl (by decide) (Ev.move rfl) ?_
    refine Lst.runG rfl rfl rfl hb42 rfl (by decide) (Ev.fieldAddr (off' := 0) rfl Try.runUnderlying54 rfl Try.sizeOf3 rfl rfl) ?_
    refine Lst.runG rfl rfl rfl hb42 rfl (by decide) (Ev.load (i := 0) rfl rfl Try.isAgg3 ((Pulse.get_Me (Get.here _)).off (by rfl))) ?_
    refine Lst.runG rfl rfl rfl hb42 rfl (by decide) (Ev.eql rfl rfl) ?_
    refine Lst.run rfl rfl (by decide) (Ev.pickT rfl hb42 rfl) ?_
    refine Lst.nil ?_
    exact At.meet ((i14 : Int) == a0.Me) (FLe.refl _) ⟨rfl, rfl, rfl, trivial⟩ rfl (some_inj H)
  rintro F' y45 hF' hy
  subst hy
  refine Cd.fle hF' ?_
  refine Cd.as (e' := [(1, .pointer (some ⟨b1, 0, none⟩)), (22, .int .i64 (i14 : Int)), (62, .bool y45)]) (L' := (.blk b1 (enc a0) 54) :: L) ⟨rfl, rfl, rfl, trivial⟩ rfl ?_
  replace H := HKo38
  rcases Bool.eq_false_or_eq_true y45 with hb47 | hb47
  · replace H := ite_t hb47 H
    refine Cd.condT rfl hb47 ?_
    refine Cd.seq ?_
    refine Cd.region ?_
    refine Lst.run rfl rfl (by decide) (Ev.assign rfl) ?_
    refine Lst.nil ?_
    refine At.then ?_
    have H := hret14 _ (some_inj H).symm
    subst H
    replace H := HKl14
    obtain rfl := some_inj H
    refine Cd.ret ?_
    refine At.in_ret ?_
    refine At.then_ret ?_
    refine At.then_ret ?_
    refine At.in_ret ?_
    refine At.then_ret ?_
    exact At.ret1 rfl (Res.tmp rfl) (FLe.refl _) (List.Sublist.cons _ (List.Sublist.refl _)) ⟨rfl, rfl⟩
  replace H := ite_f hb47 H
  refine Cd.condF rfl hb47 ?_
  refine Cd.skip ?_
  refine At.in_normal ?_
  refine At.then ?_
  refine Cd.region ?_
  refine Lst.run rfl rfl (by decide) (Ev.incr (by omega) rfl rfl) ?_
  refine Lst.run rfl rfl (by decide) (Ev.move rfl) ?_
  refine Lst.nil ?_
  exact At.meet (i14 + 1, k14, ()) (FLe.refl _) ⟨rfl, rfl, trivial⟩ rfl ⟨⟨hgo14 _ (some_inj H).symm, by omega⟩, Nat.lt_succ_self _⟩
set_option maxRecDepth 20000 in
theorem pulse_in_sim {a0 : Int} {a1 : Int} {a2 : Int} {r : Bool} (H : pulse_in a0 a1 a2 = some r) (w0 : World) (F : Frz) (L : List Item) : Ok Try.prog w0 36 [.int .i64 a0, .int .i64 a1, .int .i64 a2] F L (Is (.bool r) L) := by
  unfold pulse_in at H
  refine Ok.enter (m := 3) (n := 15) Try.func36 rfl rfl rfl (by decide) ?_
  refine Cd.env (e' := [(0, .int .i64 a0), (1, .int .i64 a1), (2, .int .i64 a2)]) rfl ?_
  refine Cd.seq ?_
  refine Cd.region ?_
  refine Lst.run rfl rfl (by decide) (Ev.assign rfl) ?_
  refine Lst.nil ?_
  refine At.then ?_
  obtain ⟨o1, H, HKo1⟩ := bind_some H
  refine Cd.join (σ := Bool) (fun y5 => [(6, .bool y5)]) (fun y5 => L) (fun _ y5 => y5 = o1) ?_ ?_
  · refine Cd.region ?_
    refine Lst.run rfl rfl (by decide) (Ev.move rfl) ?_
    refine Lst.run rfl rfl (by decide) (Ev.move rfl) ?_
    refine Lst.run rfl rfl (by decide) (Ev.geq rfl rfl) ?_
    refine Lst.run rfl rfl (by decide) (Ev.move rfl) ?_
    rcases (Bool.eq_false_or_eq_true (decide (a0 ≥ a1))).symm with hb2 | hb2
    · replace H := ite_f hb2 H
      refine Lst.skip rfl rfl rfl hb2 rfl (by decide) ?_
      refine Lst.skip rfl rfl rfl hb2 rfl (by decide) ?_
      refine Lst.skip rfl rfl rfl hb2 rfl (by decide) ?_
      refine Lst.run rfl rfl (by decide) (Ev.pickF rfl hb2 rfl) ?_
      refine Lst.run rfl rfl (by decide) (Ev.assign rfl) ?_
      refine Lst.nil ?_
      exact At.meet false (FLe.refl _) ⟨rfl, trivial⟩ rfl (some_inj H)
    replace H := ite_t hb2 H
    refine Lst.runG rfl rfl rfl hb2 rfl (by decide) (Ev.move rfl) ?_
    refine Lst.runG rfl rfl rfl hb2 rfl (by decide) (Ev.move rfl) ?_
    refine Lst.runG rfl rfl rfl hb2 rfl (by decide) (Ev.leq rfl rfl) ?_
    refine Lst.run rfl rfl (by decide) (Ev.pickT rfl hb2 rfl) ?_
    refine Lst.run rfl rfl (by decide) (Ev.assign rfl) ?_
    refine Lst.nil ?_
    exact At.meet (decide (a0 ≤ a2)) (FLe.refl _) ⟨rfl, trivial⟩ rfl (some_inj H)
  rintro F' y5 hF' hy
  subst hy
  refine Cd.fle hF' ?_
  refine Cd.as (e' := [(6, .bool y5)]) (L' := L) ⟨rfl, trivial⟩ rfl ?_
  replace H := HKo1
  obtain rfl := some_inj H
  refine Cd.ret ?_
  exact At.ret1 rfl (Res.tmp rfl) (FLe.refl _) (List.Sublist.refl _) ⟨rfl, rfl⟩
set_option maxRecDepth 20000 in
theorem pulse_Check_sim {a0 : Pulse} {r : Int} (H : pulse_Check a0 = some r) (w0 : World) (F : Frz) (L : List Item) : Ok Try.prog w0 26 [.agg (enc a0).toArray] F L (Is (.int .i64 r) L) := by
  unfold pulse_Check at H
  refine Ok.enter (m := 1) (n := 46) Try.func26 rfl rfl rfl (by decide) ?_
  refine Cd.env (e' := [(0, .agg (enc a0).toArray)]) rfl ?_
  refine Cd.seq ?_
  refine Cd.region ?_
  refine Lst.box rfl rfl (by decide) rfl (cs := enc a0) rfl (fun b1 => ?_)
  refine Lst.run rfl rfl (by decide) (Ev.assign rfl) ?_
  refine Lst.nil ?_
  refine At.then ?_
  refine Cd.seq ?_
  obtain ⟨o3, H, HKo3⟩ := bind_some H
  refine Cd.join (σ := Bool) (fun y11 => [(1, .pointer (some ⟨b1, 0, none⟩)), (13, .bool y11)]) (fun y11 => (.blk b1 (enc a0) 54) :: L) (fun _ y11 => y11 = o3) ?_ ?_
  · refine Cd.region ?_
    refine Lst.run rfl rfl (by decide) (Ev.fieldAddr (off' := 0) rfl Try.runUnderlying54 rfl Try.sizeOf3 rfl rfl) ?_
    refine Lst.run rfl rfl (by decide) (Ev.load (i := 0) rfl rfl Try.isAgg3 ((Pulse.get_Me (Get.here _)).off (by rfl))) ?_
    obtain ⟨r4, h5, H⟩ := bind_some H
    refine Lst.call1 rfl rfl (by decide) (vs := [.int .i64 a0.Me, .int .i64 (0 : Int), .int .i64 (5 : Int)]) ⟨rfl, rfl, rfl, trivial⟩ Try.call36 (pulse_in_sim h5 w0 _ _) ?_
    refine Lst.run rfl rfl (by decide) (Ev.not rfl) ?_
    refine Lst.run rfl rfl (by decide) (Ev.move rfl) ?_
    rcases Bool.eq_false_or_eq_true (!r4) with hb6 | hb6
    · replace H := ite_t hb6 H
      refine Lst.skip rfl rfl rfl hb6 rfl (by decide) ?_
      refine Lst.skip rfl rfl rfl hb6 rfl (by decide) ?_
      refine Lst.skip rfl rfl rfl hb6 rfl (by decide) ?_
      refine Lst.skip rfl rfl rfl hb6 rfl (by decide) ?_
      refine Lst.run rfl rfl (by decide) (Ev.pickT rfl hb6 rfl) ?_
      refine Lst.nil ?_
      exact At.meet true (FLe.refl _) ⟨rfl, rfl, trivial⟩ rfl (some_inj H)
    replace H := ite_f hb6 H
    refine Lst.runG rfl rfl rfl hb6 rfl (by decide) (Ev.fieldAddr (off' := 1) rfl Try.runUnderlying54 rfl Try.sizeOf3 rfl rfl) ?_
    refine Lst.runG rfl rfl rfl hb6 rfl (by decide) (Ev.load (i := 0) rfl rfl Try.isAgg3 ((Pulse.get_Now (Get.here _)).off (by rfl))) ?_
    obtain ⟨r8, h9, H⟩ := bind_some H
    refine Lst.call1G rfl rfl rfl hb6 rfl (by decide) (vs := [.int .i64 a0.Now, .int .i64 (0 : Int), .int .i64 (16777215 : Int)]) ⟨rfl, rfl, rfl, trivial⟩ Try.call36 (pulse_in_sim h9 w0 _ _) ?_
    refine Lst.runG rfl rfl rfl hb6 rfl (by decide) (Ev.not rfl) ?_
    refine Lst.run rfl rfl (by decide) (Ev.pickF rfl hb6 rfl) ?_
    refine Lst.nil ?_
    exact At.meet (!r8) (FLe.refl _) ⟨rfl, rfl, trivial⟩ rfl (some_inj H)
  rintro F' y11 hF' hy
  subst hy
  refine Cd.fle hF' ?_
  refine Cd.as (e' := [(1, .pointer (some ⟨b1, 0, none⟩)), (13, .bool y11)]) (L' := (.blk b1 (enc a0) 54) :: L) ⟨rfl, rfl, trivial⟩ rfl ?_
  replace H := HKo3
  rcases Bool.eq_false_or_eq_true y11 with hb13 | hb13
  · replace H := ite_t hb13 H
    refine Cd.condT rfl hb13 ?_
    refine Cd.seq ?_
    refine Cd.region ?_
    refine Lst.run rfl rfl (by decide) (Ev.assign rfl) ?_
    refine Lst.nil ?_
    refine At.then ?_
    obtain rfl := some_inj H
    refine Cd.ret ?_
    refine At.then_ret ?_
    exact At.ret1 rfl (Res.tmp rfl) (FLe.refl _) (List.Sublist.cons _ (List.Sublist.refl _)) ⟨rfl, rfl⟩
  replace H := ite_f hb13 H
  refine Cd.condF rfl hb13 ?_
  refine Cd.skip ?_
  refine At.then ?_
  refine Cd.seq ?_
  refine Cd.seq ?_
  refine Cd.region ?_
  refine Lst.run rfl rfl (by decide) (Ev.move rfl) ?_
  refine Lst.nil ?_
  refine At.then ?_
  refine Cd.block ?_
  obtain ⟨ol14, H, HKl14⟩ := andThen_some H
  refine Cd.loop (σ := Nat × Nat × Unit) (fun (i14, k14, _u) => [(1, .pointer (some ⟨b1, 0, none⟩)), (14, .int .i64 (i14 : Int))]) (fun (i14, k14, _u) => (.blk b1 (enc a0) 54) :: L) (fun _ => (fun (i14, k14, _u) => rangeM (pulse_Check_L14 a0) k14 i14 () = some ol14 ∧ i14 + k14 = 6)) (fun (i14, k14, _u) => k14) (0, 6, ()) ⟨rfl, rfl, trivial⟩ rfl ⟨H, by omega⟩ ?_
  rintro F' ⟨i14, k14, _u⟩ hF' ⟨H, hik14⟩
  refine Cd.fle hF' ?_
  refine Cd.as (e' := [(1, .pointer (some ⟨b1, 0, none⟩)), (14, .int .i64 (i14 : Int))]) (L' := (.blk b1 (enc a0) 54) :: L) ⟨rfl, rfl, trivial⟩ rfl ?_
  rcases k14 with _ | k14
  · have hc14 : decide ((i14 : Int) < (6 : Int)) = false := decide_eq_false (by omega)
    replace H := rangeM_end H
    refine Cd.seq ?_
    refine Cd.region ?_
    refine Lst.run rfl rfl (by decide) (Ev.lss rfl rfl) ?_
    refine Lst.nil ?_
    refine At.then ?_
    refine Cd.seq ?_
    refine Cd.condF rfl hc14 ?_
    refine Cd.exit ?_
    refine At.then_exit ?_
    refine At.then_exit ?_
    refine At.in_exit ?_
    subst H
    replace H := HKl14
    refine At.then ?_
    refine Cd.seq ?_
    refine Cd.region ?_
    refine Lst.run rfl rfl (by decide) (Ev.assign rfl) ?_
    refine Lst.nil ?_
    refine At.then ?_
    obtain rfl := some_inj H
    refine Cd.ret ?_
    exact At.ret1 rfl (Res.tmp rfl) (FLe.refl _) (List.Sublist.cons _ (List.Sublist.refl _)) ⟨rfl, rfl⟩
  have hc14 : decide ((i14 : Int) < (6 : Int)) = true := decide_eq_true (by omega)
  obtain ⟨c14, H, hgo14, hbrk14, hret14⟩ := rangeM_go H
  unfold pulse_Check_L14 at H
  try dsimp only at H
  refine Cd.seq ?_
  refine Cd.region ?_
  refine Lst.run rfl rfl (by decide) (Ev.lss rfl rfl) ?_
  refine Lst.nil ?_
  refine At.then ?_
  refine Cd.seq ?_
  refine Cd.condT rfl hc14 ?_
  refine Cd.skip ?_
  refine At.then ?_
  refine Cd.seq ?_
  refine Cd.block ?_
  refine Cd.seq ?_
  refine Cd.region ?_
  refine Lst.run rfl rfl (by decide) (Ev.move rfl) ?_
  refine Lst.run rfl rfl (by decide) (Ev.assign rfl) ?_
  refine Lst.nil ?_
  refine At.then ?_
  refine Cd.block ?_
  obtain ⟨o15, H, HKo15⟩ := bind_some H
  refine Cd.join (σ := Bool) (fun y29 => [(1, .pointer (some ⟨b1, 0, none⟩)), (14, .int .i64 (i14 : Int)), (3, .int .i64 (i14 : Int)), (17, .bool y29)]) (fun y29 => (.blk b1 (enc a0) 54) :: L) (fun _ y29 => y29 = o15) ?_ ?_
  · refine Cd.quiet (by kernel_rfl) (by kernel_rfl) ?_
    refine Qt.run rfl rfl (by decide) (Ev.move rfl) ?_
    refine Qt.run rfl rfl (by decide) (Ev.fieldAddr (off' := 2) rfl Try.runUnderlying54 rfl Try.sizeOf37 rfl rfl) ?_
    obtain ⟨x16, h17, H⟩ := bind_some H
    have g18 := vat_some h17
    refine Qt.run rfl rfl (by decide) (Ev.indexAddr (off' := 2 + (i14 : Int).toNat * 1) rfl rfl Try.runUnderlying37 Try.sizeOf3 g18.1 g18.2.1 rfl) ?_
    refine Qt.run rfl rfl (by decide) (Ev.load (i := 0) rfl rfl Try.isAgg3 ((Pulse.get_Last (Get.vecN (s := 1) rfl g18.2.2 (Get.here _))).off (by omega))) ?_
    refine Qt.run rfl rfl (by decide) (Ev.fieldAddr (off' := 1) rfl Try.runUnderlying54 rfl Try.sizeOf3 rfl rfl) ?_
    refine Qt.run rfl rfl (by decide) (Ev.load (i := 0) rfl rfl Try.isAgg3 ((Pulse.get_Now (Get.here _)).off (by rfl))) ?_
    obtain ⟨r19, h20, H⟩ := bind_some H
    refine Qt.call rfl rfl (by decide) (vs := [.int .i64 x16, .int .i64 (0 : Int), .int .i64 a0.Now]) ⟨rfl, rfl, rfl, trivial⟩ Try.call36 (pulse_in_sim h20 w0 _ _) ?_
    refine Qt.run rfl rfl (by decide) (Ev.not rfl) ?_
    refine Qt.run rfl rfl (by decide) (Ev.move rfl) ?_
    rcases Bool.eq_false_or_eq_true (!r19) with hb21 | hb21
    · replace H := ite_t hb21 H
      refine Qt.skip rfl rfl rfl hb21 rfl (by decide) ?_
      refine Qt.skip rfl rfl rfl hb21 rfl (by decide) ?_
      refine Qt.skip rfl rfl rfl hb21 rfl (by decide) ?_
      refine Qt.skip rfl rfl rfl hb21 rfl (by decide) ?_
      refine Qt.skip rfl rfl rfl hb21 rfl (by decide) ?_
      refine Qt.skip rfl rfl rfl hb21 rfl (by decide) ?_
      refine Qt.run rfl rfl (by decide) (Ev.pickT rfl hb21 rfl) ?_
      refine Qt.run rfl rfl (by decide) (Ev.assign rfl) ?_
      refine Qt.done ?_
      exact At.meet true (FLe.refl _) ⟨rfl, rfl, rfl, rfl, trivial⟩ rfl (some_inj H)
    replace H := ite_f hb21 H
    refine Qt.runG rfl rfl rfl hb21 rfl (by decide) (Ev.move rfl) ?_
    refine Qt.runG rfl rfl rfl hb21 rfl (by decide) (Ev.fieldAddr (off' := 8) rfl Try.runUnderlying54 rfl Try.sizeOf37 rfl rfl) ?_
    obtain ⟨x23, h24, H⟩ := bind_some H
    have g25 := vat_some h24
    refine Qt.runG rfl rfl rfl hb21 rfl (by decide) (Ev.indexAddr (off' := 8 + (i14 : Int).toNat * 1) rfl rfl Try.runUnderlying37 Try.sizeOf3 g25.1 g25.2.1 rfl) ?_
    refine Qt.runG rfl rfl rfl hb21 rfl (by decide) (Ev.load (i := 0) rfl rfl Try.isAgg3 ((Pulse.get_Wait (Get.vecN (s := 1) rfl g25.2.2 (Get.here _))).off (by omega))) ?_
    obtain ⟨r26, h27, H⟩ := bind_some H
    refine Qt.callG rfl rfl rfl hb21 rfl (by decide) (vs := [.int .i64 x23, .int .i64 (1 : Int), .int .i64 (1000 : Int)]) ⟨rfl, rfl, rfl, trivial⟩ Try.call36 (pulse_in_sim h27 w0 _ _) ?_
    refine Qt.runG rfl rfl rfl hb21 rfl (by decide) (Ev.not rfl) ?_
    refine Qt.run rfl rfl (by decide) (Ev.pickF rfl hb21 rfl) ?_
    refine Qt.run rfl rfl (by decide) (Ev.assign rfl) ?_
    refine Qt.done ?_
    exact At.meet (!r26) (FLe.refl _) ⟨rfl, rfl, rfl, rfl, trivial⟩ rfl (some_inj H)
  rintro F' y29 hF' hy
  subst hy
  refine Cd.fle hF' ?_
  refine Cd.as (e' := [(1, .pointer (some ⟨b1, 0, none⟩)), (14, .int .i64 (i14 : Int)), (3, .int .i64 (i14 : Int)), (17, .bool y29)]) (L' := (.blk b1 (enc a0) 54) :: L) ⟨rfl, rfl, rfl, rfl, trivial⟩ rfl ?_
  replace H := HKo15
  rcases Bool.eq_false_or_eq_true y29 with hb31 | hb31
  · replace H := ite_t hb31 H
    refine Cd.condT rfl hb31 ?_
    refine Cd.seq ?_
    refine Cd.region ?_
    refine Lst.run rfl rfl (by decide) (Ev.assign rfl) ?_
    refine Lst.nil ?_
    refine At.then ?_
    have H := hret14 _ (some_inj H).symm
    subst H
    replace H := HKl14
    obtain rfl := some_inj H
    refine Cd.ret ?_
    refine At.in_ret ?_
    refine At.in_ret ?_
    refine At.then_ret ?_
    refine At.then_ret ?_
    refine At.in_ret ?_
    refine At.then_ret ?_
    exact At.ret1 rfl (Res.tmp rfl) (FLe.refl _) (List.Sublist.cons _ (List.Sublist.refl _)) ⟨rfl, rfl⟩
  replace H := ite_f hb31 H
  refine Cd.condF rfl hb31 ?_
  obtain ⟨o32, H, HKo32⟩ := bind_some H
  refine Cd.join (σ := Bool) (fun y39 => [(1, .pointer (some ⟨b1, 0, none⟩)), (14, .int .i64 (i14 : Int)), (34, .bool y39)]) (fun y39 => (.blk b1 (enc a0) 54) :: L) (fun _ y39 => y39 = o32) ?_ ?_
  · refine Cd.region ?_
    refine Lst.run rfl rfl (by decide) (Ev.move rfl) ?_
    refine Lst.run rfl rfl (by decide) (Ev.fieldAddr (off' := 0) rfl Try.runUnderlying54 rfl Try.sizeOf3 rfl rfl) ?_
    refine Lst.run rfl rfl (by decide) (Ev.load (i := 0) rfl rfl Try.isAgg3 ((Pulse.get_Me (Get.here _)).off (by rfl))) ?_
    refine Lst.run rfl rfl (by decide) (Ev.eql rfl rfl) ?_
    refine Lst.run rfl rfl (by decide) (Ev.move rfl) ?_
    rcases (Bool.eq_false_or_eq_true ((i14 : Int) == a0.Me)).symm with hb33 | hb33
    · replace H := ite_f hb33 H
      refine Lst.skip rfl rfl rfl hb33 rfl (by decide) ?_
      refine Lst.skip rfl rfl rfl hb33 rfl (by decide) ?_
      refine Lst.skip rfl rfl rfl hb33 rfl (by decide) ?_
      refine Lst.skip rfl rfl rfl hb33 rfl (by decide) ?_
      refine Lst.run rfl rfl (by decide) (Ev.pickF rfl hb33 rfl) ?_
      refine Lst.run rfl rfl (by decide) (Ev.assign rfl) ?_
      refine Lst.nil ?_
      exact At.meet false (FLe.refl _) ⟨rfl, rfl, rfl, trivial⟩ rfl (some_inj H)
    replace H := ite_t hb33 H
    refine Lst.runG rfl rfl rfl hb33 rfl (by decide) (Ev.move rfl) ?_
    refine Lst.runG rfl rfl rfl hb33 rfl (by decide) (Ev.fieldAddr (off' := 14) rfl Try.runUnderlying54 rfl Try.sizeOf52 rfl rfl) ?_
    obtain ⟨x35, h36, H⟩ := bind_some H
    have g37 := vat_some h36
    refine Lst.runG rfl rfl rfl hb33 rfl (by decide) (Ev.indexAddr (off' := 14 + (i14 : Int).toNat * 1) rfl rfl Try.runUnderlying52 Try.sizeOf4 g37.1 g37.2.1 rfl) ?_
    refine Lst.runG rfl rfl rfl hb33 rfl (by decide) (Ev.load (i := 0) rfl rfl Try.isAgg4 ((Pulse.get_Doubt (Get.vecN (s := 1) rfl g37.2.2 (Get.here _))).off (by omega))) ?_
    refine Lst.run rfl rfl (by decide) (Ev.pickT rfl hb33 rfl) ?_
    refine Lst.run rfl rfl (by decide) (Ev.assign rfl) ?_
    refine Lst.nil ?_
    exact At.meet x35 (FLe.refl _) ⟨rfl, rfl, rfl, trivial⟩ rfl (some_inj H)
  rintro F' y39 hF' hy
  subst hy
  refine Cd.fle hF' ?_
  refine Cd.as (e' := [(1, .pointer (some ⟨b1, 0, none⟩)), (14, .int .i64 (i14 : Int)), (34, .bool y39)]) (L' := (.blk b1 (enc a0) 54) :: L) ⟨rfl, rfl, rfl, trivial⟩ rfl ?_
  replace H := HKo32
  rcases Bool.eq_false_or_eq_true y39 with hb41 | hb41
  · replace H := ite_t hb41 H
    refine Cd.condT rfl hb41 ?_
    refine Cd.seq ?_
    refine Cd.region ?_
    refine Lst.run rfl rfl (by decide) (Ev.assign rfl) ?_
    refine Lst.nil ?_
    refine At.then ?_
    have H := hret14 _ (some_inj H).symm
    subst H
    replace H := HKl14
    obtain rfl := some_inj H
    refine Cd.ret ?_
    refine At.in_ret ?_
    refine At.in_ret ?_
    refine At.then_ret ?_
    refine At.then_ret ?_
    refine At.in_ret ?_
    refine At.then_ret ?_
    exact At.ret1 rfl (Res.tmp rfl) (FLe.refl _) (List.Sublist.cons _ (List.Sublist.refl _)) ⟨rfl, rfl⟩
  replace H := ite_f hb41 H
  refine Cd.condF rfl hb41 ?_
  refine Cd.skip ?_
  refine At.in_normal ?_
  refine At.in_normal ?_
  refine At.then ?_
  refine Cd.region ?_
  refine Lst.run rfl rfl (by decide) (Ev.incr (by omega) rfl rfl) ?_
  refine Lst.run rfl rfl (by decide) (Ev.move rfl) ?_
  refine Lst.nil ?_
  exact At.meet (i14 + 1, k14, ()) (FLe.refl _) ⟨rfl, rfl, trivial⟩ rfl ⟨⟨hgo14 _ (some_inj H).symm, by omega⟩, Nat.lt_succ_self _⟩
set_option maxRecDepth 20000 in
theorem pulse_New_sim {a0 : Int} {a1 : Int} {r : Pulse × Int} (H : pulse_New a0 a1 = some r) (w0 : World) (F : Frz) (L : List Item) : Ok Try.prog w0 22 [.int .i64 a0, .int .i64 a1] F L (Is (.tuple #[.agg (enc r.1).toArray, .int .i64 r.2]) L) := by
  unfold pulse_New at H
  refine Ok.enter (m := 2) (n := 26) Try.func22 rfl rfl rfl (by decide) ?_
  refine Cd.env (e' := [(0, .int .i64 a0), (1, .int .i64 a1)]) rfl ?_
  refine Cd.seq ?_
  refine Cd.region ?_
  refine Lst.alloc rfl rfl (by decide) Try.zeroValue54 (cs := enc Pulse.zero) rfl (fun b1 => ?_)
  refine Lst.run rfl rfl (by decide) (Ev.assign rfl) ?_
  refine Lst.nil ?_
  refine At.then ?_
  refine Cd.seq ?_
  refine Cd.region ?_
  refine Lst.run rfl rfl (by decide) (Ev.move rfl) ?_
  refine Lst.run rfl rfl (by decide) (Ev.build (v := .agg (enc ({ Pulse.zero with Me := a0 } : Pulse)).toArray) (pv := [(0, .int .i64 a0)]) ⟨rfl, rfl, trivial⟩ (fun w => by kernel_rfl)) ?_
  refine Lst.alloc rfl rfl (by decide) Try.zeroValue54 (cs := enc Pulse.zero) rfl (fun b3 => ?_)
  refine Lst.store (i := 0) rfl rfl rfl rfl rfl Try.sizeOf54 (vs := enc ({ Pulse.zero with Me := a0 } : Pulse)) rfl (Enc.len _) (Enc.one _) (cs' := enc ({ Pulse.zero with Me := a0 } : Pulse)) (Put.here ((Enc.len _).trans (Enc.len _).symm)) (L' := (.blk b3 (enc ({ Pulse.zero with Me := a0 } : Pulse)) 54) :: (.blk b1 (enc Pulse.zero) 54) :: L) rfl ?_
  refine Lst.nil ?_
  refine At.then ?_
  refine Cd.seq ?_
  refine Cd.seq ?_
  refine Cd.region ?_
  refine Lst.run rfl rfl (by decide) (Ev.move rfl) ?_
  refine Lst.nil ?_
  refine At.then ?_
  refine Cd.block ?_
  obtain ⟨ol5, H, HKl5⟩ := bind_some H
  refine Cd.loop (σ := Nat × Nat × Pulse) (fun (i5, k5, y6) => [(1, .int .i64 a1), (4, .pointer (some ⟨b1, 0, none⟩)), (6, .pointer (some ⟨b3, 0, none⟩)), (11, .int .i64 (i5 : Int))]) (fun (i5, k5, y6) => (.blk b3 (enc y6) 54) :: (.blk b1 (enc Pulse.zero) 54) :: L) (fun _ => (fun (i5, k5, y6) => rangeF (pulse_New_L5 a1) k5 i5 y6 = some ol5 ∧ i5 + k5 = 6)) (fun (i5, k5, y6) => k5) (0, 6, ({ Pulse.zero with Me := a0 } : Pulse)) ⟨rfl, rfl, rfl, rfl, trivial⟩ rfl ⟨H, by omega⟩ ?_
  rintro F' ⟨i5, k5, y6⟩ hF' ⟨H, hik5⟩
  refine Cd.fle hF' ?_
  refine Cd.as (e' := [(1, .int .i64 a1), (4, .pointer (some ⟨b1, 0, none⟩)), (6, .pointer (some ⟨b3, 0, none⟩)), (11, .int .i64 (i5 : Int))]) (L' := (.blk b3 (enc y6) 54) :: (.blk b1 (enc Pulse.zero) 54) :: L) ⟨rfl, rfl, rfl, rfl, trivial⟩ rfl ?_
  rcases k5 with _ | k5
  · have hc5 : decide ((i5 : Int) < (6 : Int)) = false := decide_eq_false (by omega)
    replace H := rangeF_end H
    refine Cd.seq ?_
    refine Cd.region ?_
    refine Lst.run rfl rfl (by decide) (Ev.lss rfl rfl) ?_
    refine Lst.nil ?_
    refine At.then ?_
    refine Cd.seq ?_
    refine Cd.condF rfl hc5 ?_
    refine Cd.exit ?_
    refine At.then_exit ?_
    refine At.then_exit ?_
    refine At.in_exit ?_
    subst H
    replace H := HKl5
    refine At.then ?_
    refine Cd.seq ?_
    refine Cd.seq ?_
    refine Cd.region ?_
    refine Lst.run rfl rfl (by decide) (Ev.loadA (i := 0) rfl rfl Try.isAgg54 Try.sizeOf54 (ch := enc y6) (Enc.len _) (Get.here _)) ?_
    obtain ⟨r12, h13, H⟩ := bind_some H
    refine Lst.call1 rfl rfl (by decide) (vs := [.agg (enc y6).toArray]) ⟨rfl, trivial⟩ Try.call26 (pulse_Check_sim h13 w0 _ _) ?_
    refine Lst.run rfl rfl (by decide) (Ev.assign rfl) ?_
    refine Lst.nil ?_
    refine At.then ?_
    refine Cd.seq ?_
    refine Cd.region ?_
    refine Lst.run rfl rfl (by decide) (Ev.move rfl) ?_
    refine Lst.run rfl rfl (by decide) (Ev.neq rfl rfl) ?_
    refine Lst.nil ?_
    refine At.then ?_
    rcases Bool.eq_false_or_eq_true (r12 != (0 : Int)) with hb14 | hb14
    · replace H := ite_t hb14 H
      refine Cd.condT rfl hb14 ?_
      refine Cd.seq ?_
      refine Cd.region ?_
      refine Lst.run rfl rfl (by decide) (Ev.build (v := .agg (enc (Pulse.zero : Pulse)).toArray) (pv := []) trivial (fun w => by kernel_rfl)) ?_
      refine Lst.run rfl rfl (by decide) (Ev.move rfl) ?_
      refine Lst.store (i := 1) rfl rfl rfl rfl rfl Try.sizeOf54 (vs := enc (Pulse.zero : Pulse)) rfl (Enc.len _) (Enc.one _) (cs' := enc (Pulse.zero : Pulse)) (Put.here ((Enc.len _).trans (Enc.len _).symm)) (L' := (.blk b3 (enc y6) 54) :: (.blk b1 (enc (Pulse.zero : Pulse)) 54) :: L) rfl ?_
      refine Lst.run rfl rfl (by decide) (Ev.assign rfl) ?_
      refine Lst.nil ?_
      refine At.then ?_
      obtain rfl := some_inj H
      refine Cd.ret ?_
      refine At.then_ret ?_
      exact At.ret2 rfl (Res.cellA (i := 1) rfl rfl Try.isAgg54 Try.sizeOf54 (Enc.len _)) (Res.tmp rfl) (FLe.refl _) (List.Sublist.cons _ (List.Sublist.cons _ (List.Sublist.refl _))) ⟨rfl, rfl⟩
    replace H := ite_f hb14 H
    refine Cd.condF rfl hb14 ?_
    refine Cd.skip ?_
    refine At.then ?_
    refine Cd.seq ?_
    refine Cd.region ?_
    refine Lst.run rfl rfl (by decide) (Ev.loadA (i := 0) rfl rfl Try.isAgg54 Try.sizeOf54 (ch := enc y6) (Enc.len _) (Get.here _)) ?_
    refine Lst.store (i := 1) rfl rfl rfl rfl rfl Try.sizeOf54 (vs := enc y6) rfl (Enc.len _) (Enc.one _) (cs' := enc y6) (Put.here ((Enc.len _).trans (Enc.len _).symm)) (L' := (.blk b3 (enc y6) 54) :: (.blk b1 (enc y6) 54) :: L) rfl ?_
    refine Lst.run rfl rfl (by decide) (Ev.assign rfl) ?_
    refine Lst.nil ?_
    refine At.then ?_
    obtain rfl := some_inj H
    refine Cd.ret ?_
    exact At.ret2 rfl (Res.cellA (i := 1) rfl rfl Try.isAgg54 Try.sizeOf54 (Enc.len _)) (Res.tmp rfl) (FLe.refl _) (List.Sublist.cons _ (List.Sublist.cons _ (List.Sublist.refl _))) ⟨rfl, rfl⟩
  have hc5 : decide ((i5 : Int) < (6 : Int)) = true := decide_eq_true (by omega)
  obtain ⟨c5, H, hgo5⟩ := rangeF_go H
  unfold pulse_New_L5 at H
  try dsimp only at H
  refine Cd.seq ?_
  refine Cd.region ?_
  refine Lst.run rfl rfl (by decide) (Ev.lss rfl rfl) ?_
  refine Lst.nil ?_
  refine At.then ?_
  refine Cd.seq ?_
  refine Cd.condT rfl hc5 ?_
  refine Cd.skip ?_
  refine At.then ?_
  refine Cd.seq ?_
  refine Cd.block ?_
  refine Cd.seq ?_
  refine Cd.region ?_
  refine Lst.run rfl rfl (by decide) (Ev.move rfl) ?_
  refine Lst.run rfl rfl (by decide) (Ev.assign rfl) ?_
  refine Lst.nil ?_
  refine At.then ?_
  refine Cd.region ?_
  refine Lst.run rfl rfl (by decide) (Ev.move rfl) ?_
  refine Lst.run rfl rfl (by decide) (Ev.move rfl) ?_
  refine Lst.run rfl rfl (by decide) (Ev.fieldAddr (off' := 8) rfl Try.runUnderlying54 rfl Try.sizeOf37 rfl rfl) ?_
  obtain ⟨x7, h8, H⟩ := bind_some H
  have g9 := vat_some h8
  refine Lst.run rfl rfl (by decide) (Ev.indexAddr (off' := 8 + (i5 : Int).toNat * 1) rfl rfl Try.runUnderlying37 Try.sizeOf3 g9.1 g9.2.1 rfl) ?_
  obtain ⟨p10, h11, H⟩ := Let_some H
  refine Lst.store (i := 0) rfl rfl rfl rfl rfl Try.sizeOf3 (vs := [.int .i64 a1]) rfl rfl rfl (cs' := enc p10) (by rw [← h11]; exact (Pulse.put_Wait (Put.vecN (s := 1) rfl g9.2.2 (Put.here (vs := [.int .i64 a1]) (by rfl)))).off (by omega)) (L' := (.blk b3 (enc p10) 54) :: (.blk b1 (enc Pulse.zero) 54) :: L) rfl ?_
  refine Lst.nil ?_
  refine At.in_normal ?_
  refine At.then ?_
  refine Cd.region ?_
  refine Lst.run rfl rfl (by decide) (Ev.incr (by omega) rfl rfl) ?_
  refine Lst.run rfl rfl (by decide) (Ev.move rfl) ?_
  refine Lst.nil ?_
  exact At.meet (i5 + 1, k5, p10) (FLe.refl _) ⟨rfl, rfl, rfl, rfl, trivial⟩ rfl ⟨⟨hgo5 _ (some_inj H).symm, by omega⟩, Nat.lt_succ_self _⟩
set_option maxRecDepth 20000 in
theorem pulse_Tick_sim {a0 : Pulse} {r : Pulse × (List Int) × Int} (H : pulse_Tick a0 = some r) (w0 : World) (F : Frz) (L : List Item) : Ok Try.prog w0 23 [.agg (enc a0).toArray] F L (fun _ L' v => ∃ q1 : Sl, v = .tuple #[.agg (enc r.1).toArray, Sl.v q1, .int .i64 r.2.2] ∧ L' = (.own q1 3 1 (encs r.2.1)) :: L) := by
  unfold pulse_Tick at H
  refine Ok.enter (m := 1) (n := 66) Try.func23 rfl rfl rfl (by decide) ?_
  refine Cd.env (e' := [(0, .agg (enc a0).toArray)]) rfl ?_
  refine Cd.seq ?_
  refine Cd.region ?_
  refine Lst.box rfl rfl (by decide) rfl (cs := enc a0) rfl (fun b1 => ?_)
  refine Lst.alloc rfl rfl (by decide) Try.zeroValue54 (cs := enc Pulse.zero) rfl (fun b3 => ?_)
  refine Lst.addNil 3 1 ?_
  refine Lst.run rfl rfl (by decide) (Ev.assign rfl) ?_
  refine Lst.run rfl rfl (by decide) (Ev.assign rfl) ?_
  refine Lst.nil ?_
  refine At.then ?_
  refine Cd.seq ?_
  refine Cd.seq ?_
  refine Cd.region ?_
  refine Lst.run rfl rfl (by decide) (Ev.loadA (i := 2) rfl rfl Try.isAgg54 Try.sizeOf54 (ch := enc a0) (Enc.len _) (Get.here _)) ?_
  obtain ⟨r6, h7, H⟩ := bind_some H
  refine Lst.call1 rfl rfl (by decide) (vs := [.agg (enc a0).toArray]) ⟨rfl, trivial⟩ Try.call26 (pulse_Check_sim h7 w0 _ _) ?_
  refine Lst.run rfl rfl (by decide) (Ev.assign rfl) ?_
  refine Lst.nil ?_
  refine At.then ?_
  refine Cd.seq ?_
  refine Cd.region ?_
  refine Lst.run rfl rfl (by decide) (Ev.move rfl) ?_
  refine Lst.run rfl rfl (by decide) (Ev.neq rfl rfl) ?_
  refine Lst.nil ?_
  refine At.then ?_
  rcases Bool.eq_false_or_eq_true (r6 != (0 : Int)) with hb8 | hb8
  · replace H := ite_t hb8 H
    refine Cd.condT rfl hb8 ?_
    refine Cd.seq ?_
    refine Cd.region ?_
    refine Lst.run rfl rfl (by decide) (Ev.build (v := .agg (enc (Pulse.zero : Pulse)).toArray) (pv := []) trivial (fun w => by kernel_rfl)) ?_
    refine Lst.run rfl rfl (by decide) (Ev.move rfl) ?_
    refine Lst.store (i := 1) rfl rfl rfl rfl rfl Try.sizeOf54 (vs := enc (Pulse.zero : Pulse)) rfl (Enc.len _) (Enc.one _) (cs' := enc (Pulse.zero : Pulse)) (Put.here ((Enc.len _).trans (Enc.len _).symm)) (L' := (.own Sl.nil 3 1 (encs ([] : List Int))) :: (.blk b3 (enc (Pulse.zero : Pulse)) 54) :: (.blk b1 (enc a0) 54) :: L) rfl ?_
    refine Lst.addNil 3 1 ?_
    refine Lst.run rfl rfl (by decide) (Ev.assign rfl) ?_
    refine Lst.run rfl rfl (by decide) (Ev.assign rfl) ?_
    refine Lst.nil ?_
    refine At.then ?_
    obtain rfl := some_inj H
    refine Cd.ret ?_
    refine At.then_ret ?_
    exact At.ret3 rfl (Res.cellA (i := 2) rfl rfl Try.isAgg54 Try.sizeOf54 (Enc.len _)) (Res.tmp rfl) (Res.tmp rfl) (FLe.refl _) (List.Sublist.cons_cons _ (List.Sublist.cons _ (List.Sublist.cons _ (List.Sublist.cons _ (List.Sublist.refl _))))) ⟨_, rfl, rfl⟩
  replace H := ite_f hb8 H
  refine Cd.condF rfl hb8 ?_
  refine Cd.skip ?_
  refine At.then ?_
  refine Cd.seq ?_
  refine Cd.seq ?_
  refine Cd.region ?_
  refine Lst.run rfl rfl (by decide) (Ev.fieldAddr (off' := 1) rfl Try.runUnderlying54 rfl Try.sizeOf3 rfl rfl) ?_
  refine Lst.run rfl rfl (by decide) (Ev.load (i := 2) rfl rfl Try.isAgg3 ((Pulse.get_Now (Get.here _)).off (by rfl))) ?_
  refine Lst.run rfl rfl (by decide) (Ev.eql rfl rfl) ?_
  refine Lst.nil ?_
  refine At.then ?_
  rcases Bool.eq_false_or_eq_true (a0.Now == (16777215 : Int)) with hb10 | hb10
  · replace H := ite_t hb10 H
    refine Cd.condT rfl hb10 ?_
    refine Cd.seq ?_
    refine Cd.region ?_
    refine Lst.run rfl rfl (by decide) (Ev.build (v := .agg (enc (Pulse.zero : Pulse)).toArray) (pv := []) trivial (fun w => by kernel_rfl)) ?_
    refine Lst.store (i := 1) rfl rfl rfl rfl rfl Try.sizeOf54 (vs := enc (Pulse.zero : Pulse)) rfl (Enc.len _) (Enc.one _) (cs' := enc (Pulse.zero : Pulse)) (Put.here ((Enc.len _).trans (Enc.len _).symm)) (L' := (.own Sl.nil 3 1 (encs ([] : List Int))) :: (.blk b3 (enc (Pulse.zero : Pulse)) 54) :: (.blk b1 (enc a0) 54) :: L) rfl ?_
    refine Lst.addNil 3 1 ?_
    refine Lst.run rfl rfl (by decide) (Ev.assign rfl) ?_
    refine Lst.run rfl rfl (by decide) (Ev.assign rfl) ?_
    refine Lst.nil ?_
    refine At.then ?_
    obtain rfl := some_inj H
    refine Cd.ret ?_
    refine At.then_ret ?_
    exact At.ret3 rfl (Res.cellA (i := 2) rfl rfl Try.isAgg54 Try.sizeOf54 (Enc.len _)) (Res.tmp rfl) (Res.tmp rfl) (FLe.refl _) (List.Sublist.cons_cons _ (List.Sublist.cons _ (List.Sublist.cons _ (List.Sublist.cons _ (List.Sublist.refl _))))) ⟨_, rfl, rfl⟩
  replace H := ite_f hb10 H
  refine Cd.condF rfl hb10 ?_
  refine Cd.skip ?_
  refine At.then ?_
  refine Cd.seq ?_
  refine Cd.region ?_
  refine Lst.run rfl rfl (by decide) (Ev.fieldAddr (off' := 1) rfl Try.runUnderlying54 rfl Try.sizeOf3 rfl rfl) ?_
  refine Lst.run rfl rfl (by decide) (Ev.load (i := 2) rfl rfl Try.isAgg3 ((Pulse.get_Now (Get.here _)).off (by rfl))) ?_
  refine Lst.run rfl rfl (by decide) (Ev.add rfl rfl) ?_
  refine Lst.run rfl rfl (by decide) (Ev.fieldAddr (off' := 1) rfl Try.runUnderlying54 rfl Try.sizeOf3 rfl rfl) ?_
  obtain ⟨p12, h13, H⟩ := Let_some H
  refine Lst.store (i := 2) rfl rfl rfl rfl rfl Try.sizeOf3 (vs := [.int .i64 (w64 (a0.Now + (1 : Int)))]) rfl rfl rfl (cs' := enc p12) (by rw [← h13]; exact (Pulse.put_Now (Put.here (vs := [.int .i64 (w64 (a0.Now + (1 : Int)))]) (by rfl))).off (by rfl)) (L' := (.own Sl.nil 3 1 (encs ([] : List Int))) :: (.blk b3 (enc Pulse.zero) 54) :: (.blk b1 (enc p12) 54) :: L) rfl ?_
  refine Lst.nil ?_
  refine At.then ?_
  refine Cd.seq ?_
  refine Cd.as (e' := [(1, .pointer (some ⟨b1, 0, none⟩)), (2, .pointer (some ⟨b3, 0, none⟩))]) (L' := (.own Sl.nil 3 1 (encs ([] : List Int))) :: (.blk b3 (enc Pulse.zero) 54) :: (.blk b1 (enc p12) 54) :: L) ⟨rfl, rfl, trivial⟩ rfl ?_
  refine Cd.region ?_
  refine Lst.run rfl rfl (by decide) (Ev.fieldAddr (off' := 0) rfl Try.runUnderlying54 rfl Try.sizeOf3 rfl rfl) ?_
  refine Lst.run rfl rfl (by decide) (Ev.load (i := 2) rfl rfl Try.isAgg3 ((Pulse.get_Me (Get.here _)).off (by rfl))) ?_
  refine Lst.run rfl rfl (by decide) (Ev.fieldAddr (off' := 1) rfl Try.runUnderlying54 rfl Try.sizeOf3 rfl rfl) ?_
  refine Lst.run rfl rfl (by decide) (Ev.load (i := 2) rfl rfl Try.isAgg3 ((Pulse.get_Now (Get.here _)).off (by rfl))) ?_
  refine Lst.run rfl rfl (by decide) (Ev.fieldAddr (off' := 2) rfl Try.runUnderlying54 rfl Try.sizeOf37 rfl rfl) ?_
  obtain ⟨x14, h15, H⟩ := bind_some H
  have g16 := vat_some h15
  refine Lst.run rfl rfl (by decide) (Ev.indexAddr (off' := 2 + p12.Me.toNat * 1) rfl rfl Try.runUnderlying37 Try.sizeOf3 g16.1 g16.2.1 rfl) ?_
  obtain ⟨p17, h18, H⟩ := Let_some H
  refine Lst.store (i := 2) rfl rfl rfl rfl rfl Try.sizeOf3 (vs := [.int .i64 p12.Now]) rfl rfl rfl (cs' := enc p17) (by rw [← h18]; exact (Pulse.put_Last (Put.vecN (s := 1) rfl g16.2.2 (Put.here (vs := [.int .i64 p12.Now]) (by rfl)))).off (by omega)) (L' := (.own Sl.nil 3 1 (encs ([] : List Int))) :: (.blk b3 (enc Pulse.zero) 54) :: (.blk b1 (enc p17) 54) :: L) rfl ?_
  refine Lst.nil ?_
  refine At.then ?_
  refine Cd.seq ?_
  refine Cd.region ?_
  refine Lst.addNil 3 1 ?_
  refine Lst.run rfl rfl (by decide) (Ev.assign rfl) ?_
  refine Lst.nil ?_
  refine At.then ?_
  refine Cd.seq ?_
  refine Cd.seq ?_
  refine Cd.region ?_
  refine Lst.run rfl rfl (by decide) (Ev.move rfl) ?_
  refine Lst.nil ?_
  refine At.then ?_
  refine Cd.block ?_
  obtain ⟨ol20, H, HKl20⟩ := bind_some H
  refine Cd.loop (σ := Nat × Nat × Sl × (List Int) × Pulse) (fun (i20, k20, s21, l22, y23) => [(1, .pointer (some ⟨b1, 0, none⟩)), (2, .pointer (some ⟨b3, 0, none⟩)), (6, Sl.v s21), (28, .int .i64 (i20 : Int))]) (fun (i20, k20, s21, l22, y23) => (.own s21 3 1 (encs l22)) :: (.own Sl.nil 3 1 (encs ([] : List Int))) :: (.blk b3 (enc Pulse.zero) 54) :: (.blk b1 (enc y23) 54) :: L) (fun _ => (fun (i20, k20, s21, l22, y23) => rangeF (pulse_Tick_L20) k20 i20 (l22, y23) = some ol20 ∧ i20 + k20 = 6)) (fun (i20, k20, s21, l22, y23) => k20) (0, 6, Sl.nil, ([] : List Int), p17) ⟨rfl, rfl, rfl, rfl, trivial⟩ rfl ⟨H, by omega⟩ ?_
  rintro F' ⟨i20, k20, s21, l22, y23⟩ hF' ⟨H, hik20⟩
  refine Cd.fle hF' ?_
  refine Cd.as (e' := [(1, .pointer (some ⟨b1, 0, none⟩)), (2, .pointer (some ⟨b3, 0, none⟩)), (6, Sl.v s21), (28, .int .i64 (i20 : Int))]) (L' := (.own s21 3 1 (encs l22)) :: (.own Sl.nil 3 1 (encs ([] : List Int))) :: (.blk b3 (enc Pulse.zero) 54) :: (.blk b1 (enc y23) 54) :: L) ⟨rfl, rfl, rfl, rfl, trivial⟩ rfl ?_
  rcases k20 with _ | k20
  · have hc20 : decide ((i20 : Int) < (6 : Int)) = false := decide_eq_false (by omega)
    replace H := rangeF_end H
    refine Cd.seq ?_
    refine Cd.region ?_
    refine Lst.run rfl rfl (by decide) (Ev.lss rfl rfl) ?_
    refine Lst.nil ?_
    refine At.then ?_
    refine Cd.seq ?_
    refine Cd.condF rfl hc20 ?_
    refine Cd.exit ?_
    refine At.then_exit ?_
    refine At.then_exit ?_
    refine At.in_exit ?_
    subst H
    replace H := HKl20
    refine At.then ?_
    refine Cd.seq ?_
    refine Cd.region ?_
    refine Lst.run rfl rfl (by decide) (Ev.loadA (i := 3) rfl rfl Try.isAgg54 Try.sizeOf54 (ch := enc y23) (Enc.len _) (Get.here _)) ?_
    refine Lst.run rfl rfl (by decide) (Ev.move rfl) ?_
    refine Lst.store (i := 2) rfl rfl rfl rfl rfl Try.sizeOf54 (vs := enc y23) rfl (Enc.len _) (Enc.one _) (cs' := enc y23) (Put.here ((Enc.len _).trans (Enc.len _).symm)) (L' := (.own s21 3 1 (encs l22)) :: (.own Sl.nil 3 1 (encs ([] : List Int))) :: (.blk b3 (enc y23) 54) :: (.blk b1 (enc y23) 54) :: L) rfl ?_
    refine Lst.run rfl rfl (by decide) (Ev.assign rfl) ?_
    refine Lst.run rfl rfl (by decide) (Ev.assign rfl) ?_
    refine Lst.nil ?_
    refine At.then ?_
    obtain rfl := some_inj H
    refine Cd.ret ?_
    exact At.ret3 rfl (Res.cellA (i := 2) rfl rfl Try.isAgg54 Try.sizeOf54 (Enc.len _)) (Res.tmp rfl) (Res.tmp rfl) (FLe.refl _) (List.Sublist.cons_cons _ (List.Sublist.cons _ (List.Sublist.cons _ (List.Sublist.cons _ (List.Sublist.refl _))))) ⟨_, rfl, rfl⟩
  have hc20 : decide ((i20 : Int) < (6 : Int)) = true := decide_eq_true (by omega)
  obtain ⟨c20, H, hgo20⟩ := rangeF_go H
  unfold pulse_Tick_L20 at H
  try dsimp only at H
  refine Cd.seq ?_
  refine Cd.region ?_
  refine Lst.run rfl rfl (by decide) (Ev.lss rfl rfl) ?_
  refine Lst.nil ?_
  refine At.then ?_
  refine Cd.seq ?_
  refine Cd.condT rfl hc20 ?_
  refine Cd.skip ?_
  refine At.then ?_
  refine Cd.seq ?_
  refine Cd.block ?_
  refine Cd.seq ?_
  refine Cd.region ?_
  refine Lst.run rfl rfl (by decide) (Ev.move rfl) ?_
  refine Lst.run rfl rfl (by decide) (Ev.assign rfl) ?_
  refine Lst.nil ?_
  refine At.then ?_
  obtain ⟨o24, H, HKo24⟩ := bind_some H
  refine Cd.join (σ := Bool) (fun y39 => [(1, .pointer (some ⟨b1, 0, none⟩)), (2, .pointer (some ⟨b3, 0, none⟩)), (6, Sl.v s21), (28, .int .i64 (i20 : Int)), (7, .int .i64 (i20 : Int)), (55, .bool y39)]) (fun y39 => (.own s21 3 1 (encs l22)) :: (.own Sl.nil 3 1 (encs ([] : List Int))) :: (.blk b3 (enc Pulse.zero) 54) :: (.blk b1 (enc y23) 54) :: L) (fun _ y39 => y39 = o24) ?_ ?_
  · refine Cd.quiet (by kernel_rfl) (by kernel_rfl) ?_
    refine Qt.run rfl rfl (by decide) (Ev.move rfl) ?_
    refine Qt.run rfl rfl (by decide) (Ev.fieldAddr (off' := 0) rfl Try.runUnderlying54 rfl Try.sizeOf3 rfl rfl) ?_
    refine Qt.run rfl rfl (by decide) (Ev.load (i := 3) rfl rfl Try.isAgg3 ((Pulse.get_Me (Get.here _)).off (by rfl))) ?_
    refine Qt.run rfl rfl (by decide) (Ev.neq rfl rfl) ?_
    refine Qt.run rfl rfl (by decide) (Ev.move rfl) ?_
    rcases (Bool.eq_false_or_eq_true ((i20 : Int) != y23.Me)).symm with hb25 | hb25
    · replace H := ite_f hb25 H
      refine Qt.skip rfl rfl rfl hb25 rfl (by decide) ?_
      refine Qt.skip rfl rfl rfl hb25 rfl (by decide) ?_
      refine Qt.skip rfl rfl rfl hb25 rfl (by decide) ?_
      refine Qt.skip rfl rfl rfl hb25 rfl (by decide) ?_
      refine Qt.skip rfl rfl rfl hb25 rfl (by decide) ?_
      refine Qt.run rfl rfl (by decide) (Ev.pickF rfl hb25 rfl) ?_
      refine Qt.run rfl rfl (by decide) (Ev.move rfl) ?_
      refine Qt.skip rfl rfl rfl rfl rfl (by decide) ?_
      refine Qt.skip rfl rfl rfl rfl rfl (by decide) ?_
      refine Qt.skip rfl rfl rfl rfl rfl (by decide) ?_
      refine Qt.skip rfl rfl rfl rfl rfl (by decide) ?_
      refine Qt.skip rfl rfl rfl rfl rfl (by decide) ?_
      refine Qt.skip rfl rfl rfl rfl rfl (by decide) ?_
      refine Qt.skip rfl rfl rfl rfl rfl (by decide) ?_
      refine Qt.skip rfl rfl rfl rfl rfl (by decide) ?_
      refine Qt.skip rfl rfl rfl rfl rfl (by decide) ?_
      refine Qt.skip rfl rfl rfl rfl rfl (by decide) ?_
      refine Qt.skip rfl rfl rfl rfl rfl (by decide) ?_
      refine Qt.skip rfl rfl rfl rfl rfl (by decide) ?_
      refine Qt.run rfl rfl (by decide) (Ev.pickF rfl rfl rfl) ?_
      refine Qt.done ?_
      exact At.meet false (FLe.refl _) ⟨rfl, rfl, rfl, rfl, rfl, rfl, trivial⟩ rfl (some_inj H)
    replace H := ite_t hb25 H
    refine Qt.runG rfl rfl rfl hb25 rfl (by decide) (Ev.move rfl) ?_
    refine Qt.runG rfl rfl rfl hb25 rfl (by decide) (Ev.fieldAddr (off' := 14) rfl Try.runUnderlying54 rfl Try.sizeOf52 rfl rfl) ?_
    obtain ⟨x27, h28, H⟩ := bind_some H
    have g29 := vat_some h28
    refine Qt.runG rfl rfl rfl hb25 rfl (by decide) (Ev.indexAddr (off' := 14 + (i20 : Int).toNat * 1) rfl rfl Try.runUnderlying52 Try.sizeOf4 g29.1 g29.2.1 rfl) ?_
    refine Qt.runG rfl rfl rfl hb25 rfl (by decide) (Ev.load (i := 3) rfl rfl Try.isAgg4 ((Pulse.get_Doubt (Get.vecN (s := 1) rfl g29.2.2 (Get.here _))).off (by omega))) ?_
    refine Qt.runG rfl rfl rfl hb25 rfl (by decide) (Ev.not rfl) ?_
    refine Qt.run rfl rfl (by decide) (Ev.pickT rfl hb25 rfl) ?_
    refine Qt.run rfl rfl (by decide) (Ev.move rfl) ?_
    rcases (Bool.eq_false_or_eq_true (!x27)).symm with hb30 | hb30
    · replace H := ite_f hb30 H
      refine Qt.skip rfl rfl rfl hb30 rfl (by decide) ?_
      refine Qt.skip rfl rfl rfl hb30 rfl (by decide) ?_
      refine Qt.skip rfl rfl rfl hb30 rfl (by decide) ?_
      refine Qt.skip rfl rfl rfl hb30 rfl (by decide) ?_
      refine Qt.skip rfl rfl rfl hb30 rfl (by decide) ?_
      refine Qt.skip rfl rfl rfl hb30 rfl (by decide) ?_
      refine Qt.skip rfl rfl rfl hb30 rfl (by decide) ?_
      refine Qt.skip rfl rfl rfl hb30 rfl (by decide) ?_
      refine Qt.skip rfl rfl rfl hb30 rfl (by decide) ?_
      refine Qt.skip rfl rfl rfl hb30 rfl (by decide) ?_
      refine Qt.skip rfl rfl rfl hb30 rfl (by decide) ?_
      refine Qt.skip rfl rfl rfl hb30 rfl (by decide) ?_
      refine Qt.run rfl rfl (by decide) (Ev.pickF rfl hb30 rfl) ?_
      refine Qt.done ?_
      exact At.meet false (FLe.refl _) ⟨rfl, rfl, rfl, rfl, rfl, rfl, trivial⟩ rfl (some_inj H)
    replace H := ite_t hb30 H
    refine Qt.runG rfl rfl rfl hb30 rfl (by decide) (Ev.fieldAddr (off' := 1) rfl Try.runUnderlying54 rfl Try.sizeOf3 rfl rfl) ?_
    refine Qt.runG rfl rfl rfl hb30 rfl (by decide) (Ev.load (i := 3) rfl rfl Try.isAgg3 ((Pulse.get_Now (Get.here _)).off (by rfl))) ?_
    refine Qt.runG rfl rfl rfl hb30 rfl (by decide) (Ev.move rfl) ?_
    refine Qt.runG rfl rfl rfl hb30 rfl (by decide) (Ev.fieldAddr (off' := 2) rfl Try.runUnderlying54 rfl Try.sizeOf37 rfl rfl) ?_
    obtain ⟨x32, h33, H⟩ := bind_some H
    have g34 := vat_some h33
    refine Qt.runG rfl rfl rfl hb30 rfl (by decide) (Ev.indexAddr (off' := 2 + (i20 : Int).toNat * 1) rfl rfl Try.runUnderlying37 Try.sizeOf3 g34.1 g34.2.1 rfl) ?_
    refine Qt.runG rfl rfl rfl hb30 rfl (by decide) (Ev.load (i := 3) rfl rfl Try.isAgg3 ((Pulse.get_Last (Get.vecN (s := 1) rfl g34.2.2 (Get.here _))).off (by omega))) ?_
    refine Qt.runG rfl rfl rfl hb30 rfl (by decide) (Ev.sub rfl rfl) ?_
    refine Qt.runG rfl rfl rfl hb30 rfl (by decide) (Ev.move rfl) ?_
    refine Qt.runG rfl rfl rfl hb30 rfl (by decide) (Ev.fieldAddr (off' := 8) rfl Try.runUnderlying54 rfl Try.sizeOf37 rfl rfl) ?_
    obtain ⟨x35, h36, H⟩ := bind_some H
    have g37 := vat_some h36
    refine Qt.runG rfl rfl rfl hb30 rfl (by decide) (Ev.indexAddr (off' := 8 + (i20 : Int).toNat * 1) rfl rfl Try.runUnderlying37 Try.sizeOf3 g37.1 g37.2.1 rfl) ?_
    refine Qt.runG rfl rfl rfl hb30 rfl (by decide) (Ev.load (i := 3) rfl rfl Try.isAgg3 ((Pulse.get_Wait (Get.vecN (s := 1) rfl g37.2.2 (Get.here _))).off (by omega))) ?_
    refine Qt.runG rfl rfl rfl hb30 rfl (by decide) (Ev.gtr rfl rfl) ?_
    refine Qt.run rfl rfl (by decide) (Ev.pickT rfl hb30 rfl) ?_
    refine Qt.done ?_
    exact At.meet (decide ((w64 (y23.Now - x32)) > x35)) (FLe.refl _) ⟨rfl, rfl, rfl, rfl, rfl, rfl, trivial⟩ rfl (some_inj H)
  rintro F' y39 hF' hy
  subst hy
  refine Cd.fle hF' ?_
  refine Cd.as (e' := [(1, .pointer (some ⟨b1, 0, none⟩)), (2, .pointer (some ⟨b3, 0, none⟩)), (6, Sl.v s21), (28, .int .i64 (i20 : Int)), (7, .int .i64 (i20 : Int)), (55, .bool y39)]) (L' := (.own s21 3 1 (encs l22)) :: (.own Sl.nil 3 1 (encs ([] : List Int))) :: (.blk b3 (enc Pulse.zero) 54) :: (.blk b1 (enc y23) 54) :: L) ⟨rfl, rfl, rfl, rfl, rfl, rfl, trivial⟩ rfl ?_
  replace H := HKo24
  rcases (Bool.eq_false_or_eq_true y39).symm with hb41 | hb41
  · replace H := ite_f hb41 H
    refine Cd.condF rfl hb41 ?_
    refine Cd.skip ?_
    refine At.in_normal ?_
    refine At.then ?_
    refine Cd.region ?_
    refine Lst.run rfl rfl (by decide) (Ev.incr (by omega) rfl rfl) ?_
    refine Lst.run rfl rfl (by decide) (Ev.move rfl) ?_
    refine Lst.nil ?_
    exact At.meet (i20 + 1, k20, s21, l22, y23) (FLe.refl _) ⟨rfl, rfl, rfl, rfl, trivial⟩ rfl ⟨⟨hgo20 _ (some_inj H).symm, by omega⟩, Nat.lt_succ_self _⟩
  replace H := ite_t hb41 H
  refine Cd.condT rfl hb41 ?_
  refine Cd.seq ?_
  refine Cd.region ?_
  refine Lst.run rfl rfl (by decide) (Ev.move rfl) ?_
  refine Lst.run rfl rfl (by decide) (Ev.fieldAddr (off' := 14) rfl Try.runUnderlying54 rfl Try.sizeOf52 rfl rfl) ?_
  obtain ⟨x42, h43, H⟩ := bind_some H
  have g44 := vat_some h43
  refine Lst.run rfl rfl (by decide) (Ev.indexAddr (off' := 14 + (i20 : Int).toNat * 1) rfl rfl Try.runUnderlying52 Try.sizeOf4 g44.1 g44.2.1 rfl) ?_
  obtain ⟨p45, h46, H⟩ := Let_some H
  refine Lst.store (i := 3) rfl rfl rfl rfl rfl Try.sizeOf4 (vs := [.bool true]) rfl rfl rfl (cs' := enc p45) (by rw [← h46]; exact (Pulse.put_Doubt (Put.vecN (s := 1) rfl g44.2.2 (Put.here (vs := [.bool true]) (by rfl)))).off (by omega)) (L' := (.own s21 3 1 (encs l22)) :: (.own Sl.nil 3 1 (encs ([] : List Int))) :: (.blk b3 (enc Pulse.zero) 54) :: (.blk b1 (enc p45) 54) :: L) rfl ?_
  refine Lst.nil ?_
  refine At.then ?_
  refine Cd.region ?_
  refine Lst.run rfl rfl (by decide) (Ev.move rfl) ?_
  refine Lst.run rfl rfl (by decide) (Ev.move rfl) ?_
  refine Lst.buildSlice (α := Int) (xs := ([(i20 : Int)] : List Int)) (pv := [(0, .int .i64 (i20 : Int))]) rfl rfl (by decide) ⟨rfl, rfl, trivial⟩ (run_buildSlice (α := Int) (z0 := (0 : Int)) (xs := ([(i20 : Int)] : List Int)) Try.runUnderlying24 Try.sizeOf3 Try.zeroValue3 rfl rfl rfl (by decide) rfl (fill_cons (cs := encs (List.replicate 1 (0 : Int))) (cs' := encs ((List.replicate 1 (0 : Int)).set 0 (i20 : Int))) (vs := [.int .i64 (i20 : Int)]) rfl rfl rfl ((Put.elemN (s := 1) (i := 0) (x := (0 : Int)) (y := (i20 : Int)) rfl rfl (Put.here (vs := [.int .i64 (i20 : Int)]) rfl)).off rfl) fill_nil)) rfl rfl (by decide) (fun s47 _ => ?_)
  obtain ⟨u49, h50, H⟩ := bind_some H
  refine Lst.append (i := 1) (α := Int) rfl rfl (by decide) rfl rfl Try.runUnderlying24 Try.typeInfo3 rfl rfl rfl rfl rfl rfl (Rd.own (i := 0) rfl rfl rfl) rfl (room_some h50) rfl (fun s51 => ?_)
  refine Lst.its (L' := (.own s47 3 1 (encs ([(i20 : Int)] : List Int))) :: (.own s51 3 1 (encs (l22 ++ ([(i20 : Int)] : List Int)))) :: (.own Sl.nil 3 1 (encs ([] : List Int))) :: (.blk b3 (enc Pulse.zero) 54) :: (.blk b1 (enc p45) 54) :: L) rfl ?_
  refine Lst.run rfl rfl (by decide) (Ev.assign rfl) ?_
  refine Lst.nil ?_
  refine At.in_normal ?_
  refine At.then ?_
  refine Cd.region ?_
  refine Lst.run rfl rfl (by decide) (Ev.incr (by omega) rfl rfl) ?_
  refine Lst.run rfl rfl (by decide) (Ev.move rfl) ?_
  refine Lst.nil ?_
  refine At.less (L' := (.own s51 3 1 (encs (l22 ++ ([(i20 : Int)] : List Int)))) :: (.own Sl.nil 3 1 (encs ([] : List Int))) :: (.blk b3 (enc Pulse.zero) 54) :: (.blk b1 (enc p45) 54) :: L) (List.Sublist.cons _ (List.Sublist.cons_cons _ (List.Sublist.cons_cons _ (List.Sublist.cons_cons _ (List.Sublist.cons_cons _ (List.Sublist.refl _)))))) ?_
  exact At.meet (i20 + 1, k20, s51, l22 ++ ([(i20 : Int)] : List Int), p45) (FLe.refl _) ⟨rfl, rfl, rfl, rfl, trivial⟩ rfl ⟨⟨hgo20 _ (some_inj H).symm, by omega⟩, Nat.lt_succ_self _⟩
set_option maxRecDepth 20000 in
theorem pulse_Hear_sim {a0 : Pulse} {a1 : Int} {r : Pulse × Bool × Int} (H : pulse_Hear a0 a1 = some r) (w0 : World) (F : Frz) (L : List Item) : Ok Try.prog w0 24 [.agg (enc a0).toArray, .int .i64 a1] F L (Is (.tuple #[.agg (enc r.1).toArray, .bool r.2.1, .int .i64 r.2.2]) L) := by
  unfold pulse_Hear at H
  refine Ok.enter (m := 2) (n := 48) Try.func24 rfl rfl rfl (by decide) ?_
  refine Cd.env (e' := [(0, .agg (enc a0).toArray), (1, .int .i64 a1)]) rfl ?_
  refine Cd.seq ?_
  refine Cd.region ?_
  refine Lst.box rfl rfl (by decide) rfl (cs := enc a0) rfl (fun b1 => ?_)
  refine Lst.alloc rfl rfl (by decide) Try.zeroValue54 (cs := enc Pulse.zero) rfl (fun b3 => ?_)
  refine Lst.run rfl rfl (by decide) (Ev.assign rfl) ?_
  refine Lst.run rfl rfl (by decide) (Ev.assign rfl) ?_
  refine Lst.nil ?_
  refine At.then ?_
  refine Cd.seq ?_
  refine Cd.seq ?_
  refine Cd.region ?_
  refine Lst.run rfl rfl (by decide) (Ev.loadA (i := 1) rfl rfl Try.isAgg54 Try.sizeOf54 (ch := enc a0) (Enc.len _) (Get.here _)) ?_
  obtain ⟨r5, h6, H⟩ := bind_some H
  refine Lst.call1 rfl rfl (by decide) (vs := [.agg (enc a0).toArray]) ⟨rfl, trivial⟩ Try.call26 (pulse_Check_sim h6 w0 _ _) ?_
  refine Lst.run rfl rfl (by decide) (Ev.assign rfl) ?_
  refine Lst.nil ?_
  refine At.then ?_
  refine Cd.seq ?_
  refine Cd.region ?_
  refine Lst.run rfl rfl (by decide) (Ev.move rfl) ?_
  refine Lst.run rfl rfl (by decide) (Ev.neq rfl rfl) ?_
  refine Lst.nil ?_
  refine At.then ?_
  rcases Bool.eq_false_or_eq_true (r5 != (0 : Int)) with hb7 | hb7
  · replace H := ite_t hb7 H
    refine Cd.condT rfl hb7 ?_
    refine Cd.seq ?_
    refine Cd.region ?_
    refine Lst.run rfl rfl (by decide) (Ev.build (v := .agg (enc (Pulse.zero : Pulse)).toArray) (pv := []) trivial (fun w => by kernel_rfl)) ?_
    refine Lst.run rfl rfl (by decide) (Ev.move rfl) ?_
    refine Lst.store (i := 0) rfl rfl rfl rfl rfl Try.sizeOf54 (vs := enc (Pulse.zero : Pulse)) rfl (Enc.len _) (Enc.one _) (cs' := enc (Pulse.zero : Pulse)) (Put.here ((Enc.len _).trans (Enc.len _).symm)) (L' := (.blk b3 (enc (Pulse.zero : Pulse)) 54) :: (.blk b1 (enc a0) 54) :: L) rfl ?_
    refine Lst.run rfl rfl (by decide) (Ev.assign rfl) ?_
    refine Lst.run rfl rfl (by decide) (Ev.assign rfl) ?_
    refine Lst.nil ?_
    refine At.then ?_
    obtain rfl := some_inj H
    refine Cd.ret ?_
    refine At.then_ret ?_
    exact At.ret3 rfl (Res.cellA (i := 0) rfl rfl Try.isAgg54 Try.sizeOf54 (Enc.len _)) (Res.tmp rfl) (Res.tmp rfl) (FLe.refl _) (List.Sublist.cons _ (List.Sublist.cons _ (List.Sublist.refl _))) ⟨rfl, rfl⟩
  replace H := ite_f hb7 H
  refine Cd.condF rfl hb7 ?_
  refine Cd.skip ?_
  refine At.then ?_
  refine Cd.seq ?_
  obtain ⟨o8, H, HKo8⟩ := bind_some H
  refine Cd.join (σ := Bool) (fun y14 => [(1, .int .i64 a1), (2, .pointer (some ⟨b1, 0, none⟩)), (4, .pointer (some ⟨b3, 0, none⟩)), (22, .bool y14)]) (fun y14 => (.blk b3 (enc Pulse.zero) 54) :: (.blk b1 (enc a0) 54) :: L) (fun _ y14 => y14 = o8) ?_ ?_
  · refine Cd.region ?_
    refine Lst.run rfl rfl (by decide) (Ev.move rfl) ?_
    obtain ⟨r9, h10, H⟩ := bind_some H
    refine Lst.call1 rfl rfl (by decide) (vs := [.int .i64 a1, .int .i64 (0 : Int), .int .i64 (5 : Int)]) ⟨rfl, rfl, rfl, trivial⟩ Try.call36 (pulse_in_sim h10 w0 _ _) ?_
    refine Lst.run rfl rfl (by decide) (Ev.not rfl) ?_
    refine Lst.run rfl rfl (by decide) (Ev.move rfl) ?_
    rcases Bool.eq_false_or_eq_true (!r9) with hb11 | hb11
    · replace H := ite_t hb11 H
      refine Lst.skip rfl rfl rfl hb11 rfl (by decide) ?_
      refine Lst.skip rfl rfl rfl hb11 rfl (by decide) ?_
      refine Lst.skip rfl rfl rfl hb11 rfl (by decide) ?_
      refine Lst.skip rfl rfl rfl hb11 rfl (by decide) ?_
      refine Lst.run rfl rfl (by decide) (Ev.pickT rfl hb11 rfl) ?_
      refine Lst.nil ?_
      exact At.meet true (FLe.refl _) ⟨rfl, rfl, rfl, rfl, trivial⟩ rfl (some_inj H)
    replace H := ite_f hb11 H
    refine Lst.runG rfl rfl rfl hb11 rfl (by decide) (Ev.move rfl) ?_
    refine Lst.runG rfl rfl rfl hb11 rfl (by decide) (Ev.fieldAddr (off' := 0) rfl Try.runUnderlying54 rfl Try.sizeOf3 rfl rfl) ?_
    refine Lst.runG rfl rfl rfl hb11 rfl (by decide) (Ev.load (i := 1) rfl rfl Try.isAgg3 ((Pulse.get_Me (Get.here _)).off (by rfl))) ?_
    refine Lst.runG rfl rfl rfl hb11 rfl (by decide) (Ev.eql rfl rfl) ?_
    refine Lst.run rfl rfl (by decide) (Ev.pickF rfl hb11 rfl) ?_
    refine Lst.nil ?_
    exact At.meet (a1 == a0.Me) (FLe.refl _) ⟨rfl, rfl, rfl, rfl, trivial⟩ rfl (some_inj H)
  rintro F' y14 hF' hy
  subst hy
  refine Cd.fle hF' ?_
  refine Cd.as (e' := [(1, .int .i64 a1), (2, .pointer (some ⟨b1, 0, none⟩)), (4, .pointer (some ⟨b3, 0, none⟩)), (22, .bool y14)]) (L' := (.blk b3 (enc Pulse.zero) 54) :: (.blk b1 (enc a0) 54) :: L) ⟨rfl, rfl, rfl, rfl, trivial⟩ rfl ?_
  replace H := HKo8
  rcases Bool.eq_false_or_eq_true y14 with hb16 | hb16
  · replace H := ite_t hb16 H
    refine Cd.condT rfl hb16 ?_
    refine Cd.seq ?_
    refine Cd.region ?_
    refine Lst.run rfl rfl (by decide) (Ev.build (v := .agg (enc (Pulse.zero : Pulse)).toArray) (pv := []) trivial (fun w => by kernel_rfl)) ?_
    refine Lst.store (i := 0) rfl rfl rfl rfl rfl Try.sizeOf54 (vs := enc (Pulse.zero : Pulse)) rfl (Enc.len _) (Enc.one _) (cs' := enc (Pulse.zero : Pulse)) (Put.here ((Enc.len _).trans (Enc.len _).symm)) (L' := (.blk b3 (enc (Pulse.zero : Pulse)) 54) :: (.blk b1 (enc a0) 54) :: L) rfl ?_
    refine Lst.run rfl rfl (by decide) (Ev.assign rfl) ?_
    refine Lst.run rfl rfl (by decide) (Ev.assign rfl) ?_
    refine Lst.nil ?_
    refine At.then ?_
    obtain rfl := some_inj H
    refine Cd.ret ?_
    refine At.then_ret ?_
    exact At.ret3 rfl (Res.cellA (i := 0) rfl rfl Try.isAgg54 Try.sizeOf54 (Enc.len _)) (Res.tmp rfl) (Res.tmp rfl) (FLe.refl _) (List.Sublist.cons _ (List.Sublist.cons _ (List.Sublist.refl _))) ⟨rfl, rfl⟩
  replace H := ite_f hb16 H
  refine Cd.condF rfl hb16 ?_
  refine Cd.skip ?_
  refine At.then ?_
  refine Cd.seq ?_
  refine Cd.region ?_
  refine Lst.run rfl rfl (by decide) (Ev.move rfl) ?_
  refine Lst.run rfl rfl (by decide) (Ev.fieldAddr (off' := 1) rfl Try.runUnderlying54 rfl Try.sizeOf3 rfl rfl) ?_
  refine Lst.run rfl rfl (by decide) (Ev.load (i := 1) rfl rfl Try.isAgg3 ((Pulse.get_Now (Get.here _)).off (by rfl))) ?_
  refine Lst.run rfl rfl (by decide) (Ev.fieldAddr (off' := 2) rfl Try.runUnderlying54 rfl Try.sizeOf37 rfl rfl) ?_
  obtain ⟨x17, h18, H⟩ := bind_some H
  have g19 := vat_some h18
  refine Lst.run rfl rfl (by decide) (Ev.indexAddr (off' := 2 + a1.toNat * 1) rfl rfl Try.runUnderlying37 Try.sizeOf3 g19.1 g19.2.1 rfl) ?_
  obtain ⟨p20, h21, H⟩ := Let_some H
  refine Lst.store (i := 1) rfl rfl rfl rfl rfl Try.sizeOf3 (vs := [.int .i64 a0.Now]) rfl rfl rfl (cs' := enc p20) (by rw [← h21]; exact (Pulse.put_Last (Put.vecN (s := 1) rfl g19.2.2 (Put.here (vs := [.int .i64 a0.Now]) (by rfl)))).off (by omega)) (L' := (.blk b3 (enc Pulse.zero) 54) :: (.blk b1 (enc p20) 54) :: L) rfl ?_
  refine Lst.nil ?_
  refine At.then ?_
  refine Cd.seq ?_
  refine Cd.seq ?_
  refine Cd.region ?_
  refine Lst.run rfl rfl (by decide) (Ev.move rfl) ?_
  refine Lst.run rfl rfl (by decide) (Ev.fieldAddr (off' := 14) rfl Try.runUnderlying54 rfl Try.sizeOf52 rfl rfl) ?_
  obtain ⟨x22, h23, H⟩ := bind_some H
  have g24 := vat_some h23
  refine Lst.run rfl rfl (by decide) (Ev.indexAddr (off' := 14 + a1.toNat * 1) rfl rfl Try.runUnderlying52 Try.sizeOf4 g24.1 g24.2.1 rfl) ?_
  refine Lst.run rfl rfl (by decide) (Ev.load (i := 1) rfl rfl Try.isAgg4 ((Pulse.get_Doubt (Get.vecN (s := 1) rfl g24.2.2 (Get.here _))).off (by omega))) ?_
  refine Lst.run rfl rfl (by decide) (Ev.not rfl) ?_
  refine Lst.nil ?_
  refine At.then ?_
  rcases Bool.eq_false_or_eq_true (!x22) with hb25 | hb25
  · replace H := ite_t hb25 H
    refine Cd.condT rfl hb25 ?_
    refine Cd.seq ?_
    refine Cd.region ?_
    refine Lst.run rfl rfl (by decide) (Ev.loadA (i := 1) rfl rfl Try.isAgg54 Try.sizeOf54 (ch := enc p20) (Enc.len _) (Get.here _)) ?_
    refine Lst.store (i := 0) rfl rfl rfl rfl rfl Try.sizeOf54 (vs := enc p20) rfl (Enc.len _) (Enc.one _) (cs' := enc p20) (Put.here ((Enc.len _).trans (Enc.len _).symm)) (L' := (.blk b3 (enc p20) 54) :: (.blk b1 (enc p20) 54) :: L) rfl ?_
    refine Lst.run rfl rfl (by decide) (Ev.assign rfl) ?_
    refine Lst.run rfl rfl (by decide) (Ev.assign rfl) ?_
    refine Lst.nil ?_
    refine At.then ?_
    obtain rfl := some_inj H
    refine Cd.ret ?_
    refine At.then_ret ?_
    exact At.ret3 rfl (Res.cellA (i := 0) rfl rfl Try.isAgg54 Try.sizeOf54 (Enc.len _)) (Res.tmp rfl) (Res.tmp rfl) (FLe.refl _) (List.Sublist.cons _ (List.Sublist.cons _ (List.Sublist.refl _))) ⟨rfl, rfl⟩
  replace H := ite_f hb25 H
  refine Cd.condF rfl hb25 ?_
  refine Cd.skip ?_
  refine At.then ?_
  refine Cd.seq ?_
  refine Cd.region ?_
  refine Lst.run rfl rfl (by decide) (Ev.move rfl) ?_
  refine Lst.run rfl rfl (by decide) (Ev.fieldAddr (off' := 14) rfl Try.runUnderlying54 rfl Try.sizeOf52 rfl rfl) ?_
  obtain ⟨x26, h27, H⟩ := bind_some H
  have g28 := vat_some h27
  refine Lst.run rfl rfl (by decide) (Ev.indexAddr (off' := 14 + a1.toNat * 1) rfl rfl Try.runUnderlying52 Try.sizeOf4 g28.1 g28.2.1 rfl) ?_
  obtain ⟨p29, h30, H⟩ := Let_some H
  refine Lst.store (i := 1) rfl rfl rfl rfl rfl Try.sizeOf4 (vs := [.bool false]) rfl rfl rfl (cs' := enc p29) (by rw [← h30]; exact (Pulse.put_Doubt (Put.vecN (s := 1) rfl g28.2.2 (Put.here (vs := [.bool false]) (by rfl)))).off (by omega)) (L' := (.blk b3 (enc Pulse.zero) 54) :: (.blk b1 (enc p29) 54) :: L) rfl ?_
  refine Lst.nil ?_
  refine At.then ?_
  refine Cd.seq ?_
  refine Cd.region ?_
  refine Lst.run rfl rfl (by decide) (Ev.move rfl) ?_
  refine Lst.run rfl rfl (by decide) (Ev.move rfl) ?_
  refine Lst.run rfl rfl (by decide) (Ev.fieldAddr (off' := 8) rfl Try.runUnderlying54 rfl Try.sizeOf37 rfl rfl) ?_
  obtain ⟨x31, h32, H⟩ := bind_some H
  have g33 := vat_some h32
  refine Lst.run rfl rfl (by decide) (Ev.indexAddr (off' := 8 + a1.toNat * 1) rfl rfl Try.runUnderlying37 Try.sizeOf3 g33.1 g33.2.1 rfl) ?_
  refine Lst.run rfl rfl (by decide) (Ev.load (i := 1) rfl rfl Try.isAgg3 ((Pulse.get_Wait (Get.vecN (s := 1) rfl g33.2.2 (Get.here _))).off (by omega))) ?_
  refine Lst.run rfl rfl (by decide) (Ev.add rfl rfl) ?_
  refine Lst.run rfl rfl (by decide) (Ev.min2 rfl rfl) ?_
  refine Lst.run rfl rfl (by decide) (Ev.fieldAddr (off' := 8) rfl Try.runUnderlying54 rfl Try.sizeOf37 rfl rfl) ?_
  obtain ⟨x34, h35, H⟩ := bind_some H
  have g36 := vat_some h35
  refine Lst.run rfl rfl (by decide) (Ev.indexAddr (off' := 8 + a1.toNat * 1) rfl rfl Try.runUnderlying37 Try.sizeOf3 g36.1 g36.2.1 rfl) ?_
  obtain ⟨p37, h38, H⟩ := Let_some H
  refine Lst.store (i := 1) rfl rfl rfl rfl rfl Try.sizeOf3 (vs := [.int .i64 (min (w64 (x31 + (1 : Int))) (1000 : Int))]) rfl rfl rfl (cs' := enc p37) (by rw [← h38]; exact (Pulse.put_Wait (Put.vecN (s := 1) rfl g36.2.2 (Put.here (vs := [.int .i64 (min (w64 (x31 + (1 : Int))) (1000 : Int))]) (by rfl)))).off (by omega)) (L' := (.blk b3 (enc Pulse.zero) 54) :: (.blk b1 (enc p37) 54) :: L) rfl ?_
  refine Lst.nil ?_
  refine At.then ?_
  refine Cd.seq ?_
  refine Cd.as (e' := [(2, .pointer (some ⟨b1, 0, none⟩)), (4, .pointer (some ⟨b3, 0, none⟩))]) (L' := (.blk b3 (enc Pulse.zero) 54) :: (.blk b1 (enc p37) 54) :: L) ⟨rfl, rfl, trivial⟩ rfl ?_
  refine Cd.region ?_
  refine Lst.run rfl rfl (by decide) (Ev.loadA (i := 1) rfl rfl Try.isAgg54 Try.sizeOf54 (ch := enc p37) (Enc.len _) (Get.here _)) ?_
  refine Lst.store (i := 0) rfl rfl rfl rfl rfl Try.sizeOf54 (vs := enc p37) rfl (Enc.len _) (Enc.one _) (cs' := enc p37) (Put.here ((Enc.len _).trans (Enc.len _).symm)) (L' := (.blk b3 (enc p37) 54) :: (.blk b1 (enc p37) 54) :: L) rfl ?_
  refine Lst.run rfl rfl (by decide) (Ev.assign rfl) ?_
  refine Lst.run rfl rfl (by decide) (Ev.assign rfl) ?_
  refine Lst.nil ?_
  refine At.then ?_
  obtain rfl := some_inj H
  refine Cd.ret ?_
  exact At.ret3 rfl (Res.cellA (i := 0) rfl rfl Try.isAgg54 Try.sizeOf54 (Enc.len _)) (Res.tmp rfl) (Res.tmp rfl) (FLe.refl _) (List.Sublist.cons _ (List.Sublist.cons _ (List.Sublist.refl _))) ⟨rfl, rfl⟩
set_option maxRecDepth 20000 in
theorem pulse_Lead_sim {fu : Nat} {a0 : Pulse} {r : Int × Int} (H : pulse_Lead fu a0 = some r) (w0 : World) (F : Frz) (L : List Item) : Ok Try.prog w0 25 [.agg (enc a0).toArray] F L (Is (.tuple #[.int .i64 r.1, .int .i64 r.2]) L) := by
  unfold pulse_Lead at H
  refine Ok.enter (m := 1) (n := 18) Try.func25 rfl rfl rfl (by decide) ?_
  refine Cd.env (e' := [(0, .agg (enc a0).toArray)]) rfl ?_
  refine Cd.seq ?_
  refine Cd.region ?_
  refine Lst.box rfl rfl (by decide) rfl (cs := enc a0) rfl (fun b1 => ?_)
  refine Lst.run rfl rfl (by decide) (Ev.assign rfl) ?_
  refine Lst.run rfl rfl (by decide) (Ev.assign rfl) ?_
  refine Lst.nil ?_
  refine At.then ?_
  refine Cd.seq ?_
  refine Cd.seq ?_
  refine Cd.region ?_
  refine Lst.run rfl rfl (by decide) (Ev.loadA (i := 0) rfl rfl Try.isAgg54 Try.sizeOf54 (ch := enc a0) (Enc.len _) (Get.here _)) ?_
  obtain ⟨r3, h4, H⟩ := bind_some H
  refine Lst.call1 rfl rfl (by decide) (vs := [.agg (enc a0).toArray]) ⟨rfl, trivial⟩ Try.call26 (pulse_Check_sim h4 w0 _ _) ?_
  refine Lst.run rfl rfl (by decide) (Ev.assign rfl) ?_
  refine Lst.nil ?_
  refine At.then ?_
  refine Cd.seq ?_
  refine Cd.region ?_
  refine Lst.run rfl rfl (by decide) (Ev.move rfl) ?_
  refine Lst.run rfl rfl (by decide) (Ev.neq rfl rfl) ?_
  refine Lst.nil ?_
  refine At.then ?_
  rcases Bool.eq_false_or_eq_true (r3 != (0 : Int)) with hb5 | hb5
  · replace H := ite_t hb5 H
    refine Cd.condT rfl hb5 ?_
    refine Cd.seq ?_
    refine Cd.region ?_
    refine Lst.run rfl rfl (by decide) (Ev.move rfl) ?_
    refine Lst.run rfl rfl (by decide) (Ev.assign rfl) ?_
    refine Lst.run rfl rfl (by decide) (Ev.assign rfl) ?_
    refine Lst.nil ?_
    refine At.then ?_
    obtain rfl := some_inj H
    refine Cd.ret ?_
    refine At.then_ret ?_
    exact At.ret2 rfl (Res.tmp rfl) (Res.tmp rfl) (FLe.refl _) (List.Sublist.cons _ (List.Sublist.refl _)) ⟨rfl, rfl⟩
  replace H := ite_f hb5 H
  refine Cd.condF rfl hb5 ?_
  refine Cd.skip ?_
  refine At.then ?_
  refine Cd.seq ?_
  refine Cd.region ?_
  refine Lst.run rfl rfl (by decide) (Ev.assign rfl) ?_
  refine Lst.nil ?_
  refine At.then ?_
  refine Cd.seq ?_
  refine Cd.block ?_
  obtain ⟨ol6, H, HKl6⟩ := andThen_some H
  refine Cd.loop (σ := Nat × Int) (fun (k6, y7) => [(1, .pointer (some ⟨b1, 0, none⟩)), (5, .int .i64 y7)]) (fun (k6, y7) => (.blk b1 (enc a0) 54) :: L) (fun _ => (fun (k6, y7) => whileM (pulse_Lead_L6 a0) k6 y7 = some ol6)) (fun (k6, y7) => k6) (fu, (0 : Int)) ⟨rfl, rfl, trivial⟩ rfl H ?_
  rintro F' ⟨k6, y7⟩ hF' H
  refine Cd.fle hF' ?_
  refine Cd.as (e' := [(1, .pointer (some ⟨b1, 0, none⟩)), (5, .int .i64 y7)]) (L' := (.blk b1 (enc a0) 54) :: L) ⟨rfl, rfl, trivial⟩ rfl ?_
  rcases k6 with _ | k6
  · cases H
  obtain ⟨c6, H, hgo6, hbrk6, hret6⟩ := whileM_go H
  unfold pulse_Lead_L6 at H
  try dsimp only at H
  refine Cd.seq ?_
  refine Cd.seq ?_
  refine Cd.region ?_
  refine Lst.run rfl rfl (by decide) (Ev.move rfl) ?_
  refine Lst.run rfl rfl (by decide) (Ev.fieldAddr (off' := 14) rfl Try.runUnderlying54 rfl Try.sizeOf52 rfl rfl) ?_
  obtain ⟨x8, h9, H⟩ := bind_some H
  have g10 := vat_some h9
  refine Lst.run rfl rfl (by decide) (Ev.indexAddr (off' := 14 + y7.toNat * 1) rfl rfl Try.runUnderlying52 Try.sizeOf4 g10.1 g10.2.1 rfl) ?_
  refine Lst.run rfl rfl (by decide) (Ev.load (i := 0) rfl rfl Try.isAgg4 ((Pulse.get_Doubt (Get.vecN (s := 1) rfl g10.2.2 (Get.here _))).off (by omega))) ?_
  refine Lst.nil ?_
  refine At.then ?_
  rcases (Bool.eq_false_or_eq_true x8).symm with hb11 | hb11
  · replace H := ite_f hb11 H
    refine Cd.condF rfl hb11 ?_
    refine Cd.exit ?_
    refine At.then_exit ?_
    refine At.then_exit ?_
    refine At.in_exit ?_
    have H := hbrk6 _ (some_inj H).symm
    subst H
    replace H := HKl6
    refine At.then ?_
    refine Cd.seq ?_
    refine Cd.region ?_
    refine Lst.run rfl rfl (by decide) (Ev.move rfl) ?_
    refine Lst.run rfl rfl (by decide) (Ev.assign rfl) ?_
    refine Lst.run rfl rfl (by decide) (Ev.assign rfl) ?_
    refine Lst.nil ?_
    refine At.then ?_
    obtain rfl := some_inj H
    refine Cd.ret ?_
    exact At.ret2 rfl (Res.tmp rfl) (Res.tmp rfl) (FLe.refl _) (List.Sublist.cons _ (List.Sublist.refl _)) ⟨rfl, rfl⟩
  replace H := ite_t hb11 H
  refine Cd.condT rfl hb11 ?_
  refine Cd.skip ?_
  refine At.then ?_
  refine Cd.block ?_
  refine Cd.region ?_
  refine Lst.run rfl rfl (by decide) (Ev.move rfl) ?_
  refine Lst.run rfl rfl (by decide) (Ev.add rfl rfl) ?_
  refine Lst.run rfl rfl (by decide) (Ev.assign rfl) ?_
  refine Lst.nil ?_
  refine At.in_normal ?_
  exact At.meet (k6, w64 (y7 + (1 : Int))) (FLe.refl _) ⟨rfl, rfl, trivial⟩ rfl ⟨hgo6 _ (some_inj H).symm, Nat.lt_succ_self _⟩
set_option maxRecDepth 20000 in
theorem slices_Index_bool_bool_sim {a0 : List Bool} {a1 : Bool} {s_0 : Sl} {r : Int} (H : slices_Index_bool_bool a0 a1 = some r) (w0 : World) (F : Frz) (L : List Item) (hs0 : Rd w0 F L s_0 a0) : Ok Try.prog w0 27 [Sl.v s_0, .bool a1] F L (Is (.int .i64 r) L) := by
  unfold slices_Index_bool_bool at H
  refine Ok.enter (m := 2) (n := 19) Try.func27 rfl rfl rfl (by decide) ?_
  refine Cd.env (e' := [(0, Sl.v s_0), (1, .bool a1)]) rfl ?_
  refine Cd.seq ?_
  refine Cd.region ?_
  refine Lst.run rfl rfl (by decide) (Ev.assign rfl) ?_
  refine Lst.nil ?_
  refine At.then ?_
  refine Cd.seq ?_
  refine Cd.seq ?_
  refine Cd.region ?_
  refine Lst.run rfl rfl (by decide) (Ev.move rfl) ?_
  refine Lst.run rfl rfl (by decide) (Ev.lenS (α := Bool) (by decide) rfl rfl Try.runUnderlying64 (hs0.mono (FLe.refl _) (List.Sublist.refl _))) ?_
  refine Lst.run rfl rfl (by decide) (Ev.move rfl) ?_
  refine Lst.nil ?_
  refine At.then ?_
  refine Cd.block ?_
  refine Cd.bound (Rd.le (by decide) (hs0.mono (FLe.refl _) (List.Sublist.refl _))) (fun hN6 => ?_)
  obtain ⟨ol1, H, HKl1⟩ := andThen_some H
  refine Cd.loop (σ := Nat × Nat × Unit) (fun (i1, k1, _u) => [(0, Sl.v s_0), (1, .bool a1), (7, .int .i64 (a0.length : Int)), (8, .int .i64 (i1 : Int))]) (fun (i1, k1, _u) => L) (fun _ => (fun (i1, k1, _u) => rangeM (slices_Index_bool_bool_L1 a0 a1) k1 i1 () = some ol1 ∧ i1 + k1 = a0.length)) (fun (i1, k1, _u) => k1) (0, a0.length, ()) ⟨rfl, rfl, rfl, rfl, trivial⟩ rfl ⟨H, by omega⟩ ?_
  rintro F' ⟨i1, k1, _u⟩ hF' ⟨H, hik1⟩
  refine Cd.fle hF' ?_
  refine Cd.as (e' := [(0, Sl.v s_0), (1, .bool a1), (7, .int .i64 (a0.length : Int)), (8, .int .i64 (i1 : Int))]) (L' := L) ⟨rfl, rfl, rfl, rfl, trivial⟩ rfl ?_
  rcases k1 with _ | k1
  · have hc1 : decide ((i1 : Int) < (a0.length : Int)) = false := decide_eq_false (by omega)
    replace H := rangeM_end H
    refine Cd.seq ?_
    refine Cd.region ?_
    refine Lst.run rfl rfl (by decide) (Ev.lss rfl rfl) ?_
    refine Lst.nil ?_
    refine At.then ?_
    refine Cd.seq ?_
    refine Cd.condF rfl hc1 ?_
    refine Cd.exit ?_
    refine At.then_exit ?_
    refine At.then_exit ?_
    refine At.in_exit ?_
    subst H
    replace H := HKl1
    refine At.then ?_
    refine Cd.seq ?_
    refine Cd.region ?_
    refine Lst.run rfl rfl (by decide) (Ev.assign rfl) ?_
    refine Lst.nil ?_
    refine At.then ?_
    obtain rfl := some_inj H
    refine Cd.ret ?_
    exact At.ret1 rfl (Res.tmp rfl) (FLe.refl _) (List.Sublist.refl _) ⟨rfl, rfl⟩
  have hc1 : decide ((i1 : Int) < (a0.length : Int)) = true := decide_eq_true (by omega)
  obtain ⟨c1, H, hgo1, hbrk1, hret1⟩ := rangeM_go H
  unfold slices_Index_bool_bool_L1 at H
  try dsimp only at H
  refine Cd.seq ?_
  refine Cd.region ?_
  refine Lst.run rfl rfl (by decide) (Ev.lss rfl rfl) ?_
  refine Lst.nil ?_
  refine At.then ?_
  refine Cd.seq ?_
  refine Cd.condT rfl hc1 ?_
  refine Cd.skip ?_
  refine At.then ?_
  refine Cd.seq ?_
  refine Cd.block ?_
  refine Cd.seq ?_
  refine Cd.region ?_
  refine Lst.run rfl rfl (by decide) (Ev.move rfl) ?_
  refine Lst.run rfl rfl (by decide) (Ev.assign rfl) ?_
  refine Lst.nil ?_
  refine At.then ?_
  refine Cd.seq ?_
  refine Cd.region ?_
  refine Lst.run rfl rfl (by decide) (Ev.move rfl) ?_
  refine Lst.run rfl rfl (by decide) (Ev.move rfl) ?_
  refine Lst.run rfl rfl (by decide) (Ev.move rfl) ?_
  obtain ⟨x2, h3, H⟩ := bind_some H
  have g4 := lat_some h3
  refine Lst.run rfl rfl (by decide) (Ev.indexS (α := Bool) (xs := a0) rfl rfl Try.runUnderlying64 Try.sizeOf4 rfl (by decide) (hs0.mono (FLe.refl _) (List.Sublist.refl _)) g4.1 g4.2.1) ?_
  refine Lst.run rfl rfl (by decide) (Ev.loadS (α := Bool) rfl (hs0.mono (FLe.refl _) (List.Sublist.refl _)) Try.isAgg4 ((Get.elemN (s := 1) rfl g4.2.2 (Get.here _)).off (by omega))) ?_
  refine Lst.run rfl rfl (by decide) (Ev.eqlB rfl rfl Try.runUnderlying4) ?_
  refine Lst.nil ?_
  refine At.then ?_
  rcases Bool.eq_false_or_eq_true (a1 == x2) with hb5 | hb5
  · replace H := ite_t hb5 H
    refine Cd.condT rfl hb5 ?_
    refine Cd.seq ?_
    refine Cd.region ?_
    refine Lst.run rfl rfl (by decide) (Ev.move rfl) ?_
    refine Lst.run rfl rfl (by decide) (Ev.assign rfl) ?_
    refine Lst.nil ?_
    refine At.then ?_
    have H := hret1 _ (some_inj H).symm
    subst H
    replace H := HKl1
    obtain rfl := some_inj H
    refine Cd.ret ?_
    refine At.in_ret ?_
    refine At.then_ret ?_
    refine At.then_ret ?_
    refine At.in_ret ?_
    refine At.then_ret ?_
    exact At.ret1 rfl (Res.tmp rfl) (FLe.refl _) (List.Sublist.refl _) ⟨rfl, rfl⟩
  replace H := ite_f hb5 H
  refine Cd.condF rfl hb5 ?_
  refine Cd.skip ?_
  refine At.in_normal ?_
  refine At.then ?_
  refine Cd.region ?_
  refine Lst.run rfl rfl (by decide) (Ev.incr (by omega) rfl rfl) ?_
  refine Lst.run rfl rfl (by decide) (Ev.move rfl) ?_
  refine Lst.nil ?_
  exact At.meet (i1 + 1, k1, ()) (FLe.refl _) ⟨rfl, rfl, rfl, rfl, trivial⟩ rfl ⟨⟨hgo1 _ (some_inj H).symm, by omega⟩, Nat.lt_succ_self _⟩
set_option maxRecDepth 20000 in
theorem slices_Equal_int_int_sim {a0 : List Int} {a1 : List Int} {s_0 : Sl} {s_1 : Sl} {r : Bool} (H : slices_Equal_int_int a0 a1 = some r) (w0 : World) (F : Frz) (L : List Item) (hs0 : Rd w0 F L s_0 a0) (hs1 : Rd w0 F L s_1 a1) : Ok Try.prog w0 28 [Sl.v s_0, Sl.v s_1] F L (Is (.bool r) L) := by
  unfold slices_Equal_int_int at H
  refine Ok.enter (m := 2) (n := 26) Try.func28 rfl rfl rfl (by decide) ?_
  refine Cd.env (e' := [(0, Sl.v s_0), (1, Sl.v s_1)]) rfl ?_
  refine Cd.seq ?_
  refine Cd.region ?_
  refine Lst.run rfl rfl (by decide) (Ev.assign rfl) ?_
  refine Lst.nil ?_
  refine At.then ?_
  refine Cd.seq ?_
  refine Cd.seq ?_
  refine Cd.region ?_
  refine Lst.run rfl rfl (by decide) (Ev.move rfl) ?_
  refine Lst.run rfl rfl (by decide) (Ev.lenS (α := Int) (by decide) rfl rfl Try.runUnderlying24 (hs0.mono (FLe.refl _) (List.Sublist.refl _))) ?_
  refine Lst.run rfl rfl (by decide) (Ev.move rfl) ?_
  refine Lst.run rfl rfl (by decide) (Ev.lenS (α := Int) (by decide) rfl rfl Try.runUnderlying24 (hs1.mono (FLe.refl _) (List.Sublist.refl _))) ?_
  refine Lst.run rfl rfl (by decide) (Ev.neq rfl rfl) ?_
  refine Lst.nil ?_
  refine At.then ?_
  rcases Bool.eq_false_or_eq_true ((a0.length : Int) != (a1.length : Int)) with hb1 | hb1
  · replace H := ite_t hb1 H
    refine Cd.condT rfl hb1 ?_
    refine Cd.seq ?_
    refine Cd.region ?_
    refine Lst.run rfl rfl (by decide) (Ev.assign rfl) ?_
    refine Lst.nil ?_
    refine At.then ?_
    obtain rfl := some_inj H
    refine Cd.ret ?_
    refine At.then_ret ?_
    exact At.ret1 rfl (Res.tmp rfl) (FLe.refl _) (List.Sublist.refl _) ⟨rfl, rfl⟩
  replace H := ite_f hb1 H
  refine Cd.condF rfl hb1 ?_
  refine Cd.skip ?_
  refine At.then ?_
  refine Cd.seq ?_
  refine Cd.seq ?_
  refine Cd.region ?_
  refine Lst.run rfl rfl (by decide) (Ev.move rfl) ?_
  refine Lst.run rfl rfl (by decide) (Ev.lenS (α := Int) (by decide) rfl rfl Try.runUnderlying24 (hs0.mono (FLe.refl _) (List.Sublist.refl _))) ?_
  refine Lst.run rfl rfl (by decide) (Ev.move rfl) ?_
  refine Lst.nil ?_
  refine At.then ?_
  refine Cd.block ?_
  refine Cd.bound (Rd.le (by decide) (hs0.mono (FLe.refl _) (List.Sublist.refl _))) (fun hN10 => ?_)
  obtain ⟨ol2, H, HKl2⟩ := andThen_some H
  refine Cd.loop (σ := Nat × Nat × Unit) (fun (i2, k2, _u) => [(0, Sl.v s_0), (1, Sl.v s_1), (12, .int .i64 (a0.length : Int)), (13, .int .i64 (i2 : Int))]) (fun (i2, k2, _u) => L) (fun _ => (fun (i2, k2, _u) => rangeM (slices_Equal_int_int_L2 a0 a1) k2 i2 () = some ol2 ∧ i2 + k2 = a0.length)) (fun (i2, k2, _u) => k2) (0, a0.length, ()) ⟨rfl, rfl, rfl, rfl, trivial⟩ rfl ⟨H, by omega⟩ ?_
  rintro F' ⟨i2, k2, _u⟩ hF' ⟨H, hik2⟩
  refine Cd.fle hF' ?_
  refine Cd.as (e' := [(0, Sl.v s_0), (1, Sl.v s_1), (12, .int .i64 (a0.length : Int)), (13, .int .i64 (i2 : Int))]) (L' := L) ⟨rfl, rfl, rfl, rfl, trivial⟩ rfl ?_
  rcases k2 with _ | k2
  · have hc2 : decide ((i2 : Int) < (a0.length : Int)) = false := decide_eq_false (by omega)
    replace H := rangeM_end H
    refine Cd.seq ?_
    refine Cd.region ?_
    refine Lst.run rfl rfl (by decide) (Ev.lss rfl rfl) ?_
    refine Lst.nil ?_
    refine At.then ?_
    refine Cd.seq ?_
    refine Cd.condF rfl hc2 ?_
    refine Cd.exit ?_
    refine At.then_exit ?_
    refine At.then_exit ?_
    refine At.in_exit ?_
    subst H
    replace H := HKl2
    refine At.then ?_
    refine Cd.seq ?_
    refine Cd.region ?_
    refine Lst.run rfl rfl (by decide) (Ev.assign rfl) ?_
    refine Lst.nil ?_
    refine At.then ?_
    obtain rfl := some_inj H
    refine Cd.ret ?_
    exact At.ret1 rfl (Res.tmp rfl) (FLe.refl _) (List.Sublist.refl _) ⟨rfl, rfl⟩
  have hc2 : decide ((i2 : Int) < (a0.length : Int)) = true := decide_eq_true (by omega)
  obtain ⟨c2, H, hgo2, hbrk2, hret2⟩ := rangeM_go H
  unfold slices_Equal_int_int_L2 at H
  try dsimp only at H
  refine Cd.seq ?_
  refine Cd.region ?_
  refine Lst.run rfl rfl (by decide) (Ev.lss rfl rfl) ?_
  refine Lst.nil ?_
  refine At.then ?_
  refine Cd.seq ?_
  refine Cd.condT rfl hc2 ?_
  refine Cd.skip ?_
  refine At.then ?_
  refine Cd.seq ?_
  refine Cd.block ?_
  refine Cd.seq ?_
  refine Cd.region ?_
  refine Lst.run rfl rfl (by decide) (Ev.move rfl) ?_
  refine Lst.run rfl rfl (by decide) (Ev.assign rfl) ?_
  refine Lst.nil ?_
  refine At.then ?_
  refine Cd.seq ?_
  refine Cd.quiet (by kernel_rfl) (by kernel_rfl) ?_
  refine Qt.run rfl rfl (by decide) (Ev.move rfl) ?_
  refine Qt.run rfl rfl (by decide) (Ev.move rfl) ?_
  obtain ⟨x3, h4, H⟩ := bind_some H
  have g5 := lat_some h4
  refine Qt.run rfl rfl (by decide) (Ev.indexS (α := Int) (xs := a0) rfl rfl Try.runUnderlying24 Try.sizeOf3 rfl (by decide) (hs0.mono (FLe.refl _) (List.Sublist.refl _)) g5.1 g5.2.1) ?_
  refine Qt.run rfl rfl (by decide) (Ev.loadS (α := Int) rfl (hs0.mono (FLe.refl _) (List.Sublist.refl _)) Try.isAgg3 ((Get.elemN (s := 1) rfl g5.2.2 (Get.here _)).off (by omega))) ?_
  refine Qt.run rfl rfl (by decide) (Ev.move rfl) ?_
  refine Qt.run rfl rfl (by decide) (Ev.move rfl) ?_
  obtain ⟨x6, h7, H⟩ := bind_some H
  have g8 := lat_some h7
  refine Qt.run rfl rfl (by decide) (Ev.indexS (α := Int) (xs := a1) rfl rfl Try.runUnderlying24 Try.sizeOf3 rfl (by decide) (hs1.mono (FLe.refl _) (List.Sublist.refl _)) g8.1 g8.2.1) ?_
  refine Qt.run rfl rfl (by decide) (Ev.loadS (α := Int) rfl (hs1.mono (FLe.refl _) (List.Sublist.refl _)) Try.isAgg3 ((Get.elemN (s := 1) rfl g8.2.2 (Get.here _)).off (by omega))) ?_
  refine Qt.run rfl rfl (by decide) (Ev.neq rfl rfl) ?_
  refine Qt.done ?_
  refine At.then ?_
  rcases Bool.eq_false_or_eq_true (x3 != x6) with hb9 | hb9
  · replace H := ite_t hb9 H
    refine Cd.condT rfl hb9 ?_
    refine Cd.seq ?_
    refine Cd.as (e' := []) (L' := L) trivial rfl ?_
    refine Cd.region ?_
    refine Lst.run rfl rfl (by decide) (Ev.assign rfl) ?_
    refine Lst.nil ?_
    refine At.then ?_
    have H := hret2 _ (some_inj H).symm
    subst H
    replace H := HKl2
    obtain rfl := some_inj H
    refine Cd.ret ?_
    refine At.in_ret ?_
    refine At.then_ret ?_
    refine At.then_ret ?_
    refine At.in_ret ?_
    refine At.then_ret ?_
    exact At.ret1 rfl (Res.tmp rfl) (FLe.refl _) (List.Sublist.refl _) ⟨rfl, rfl⟩
  replace H := ite_f hb9 H
  refine Cd.condF rfl hb9 ?_
  refine Cd.skip ?_
  refine At.in_normal ?_
  refine At.then ?_
  refine Cd.region ?_
  refine Lst.run rfl rfl (by decide) (Ev.incr (by omega) rfl rfl) ?_
  refine Lst.run rfl rfl (by decide) (Ev.move rfl) ?_
  refine Lst.nil ?_
  exact At.meet (i2 + 1, k2, ()) (FLe.refl _) ⟨rfl, rfl, rfl, rfl, trivial⟩ rfl ⟨⟨hgo2 _ (some_inj H).symm, by omega⟩, Nat.lt_succ_self _⟩
set_option maxRecDepth 20000 in
theorem partlaw_PulseSays_sim {fu : Nat} {a0 : Pulse} {a1 : Int} {a2 : Int} {a3 : Int} {r : Bool} (H : partlaw_PulseSays fu a0 a1 a2 a3 = some r) (w0 : World) (F : Frz) (L : List Item) : Ok Try.prog w0 6 [.agg (enc a0).toArray, .int .i64 a1, .int .i64 a2, .int .i64 a3] F L (Is (.bool r) L) := by
  unfold partlaw_PulseSays at H
  refine Ok.enter (m := 4) (n := 267) Try.func6 rfl rfl rfl (by decide) ?_
  refine Cd.env (e' := [(0, .agg (enc a0).toArray), (1, .int .i64 a1), (2, .int .i64 a2), (3, .int .i64 a3)]) rfl ?_
  refine Cd.seq ?_
  refine Cd.region ?_
  refine Lst.box rfl rfl (by decide) rfl (cs := enc a0) rfl (fun b1 => ?_)
  refine Lst.run rfl rfl (by decide) (Ev.assign rfl) ?_
  refine Lst.nil ?_
  refine At.then ?_
  refine Cd.seq ?_
  refine Cd.region ?_
  refine Lst.run rfl rfl (by decide) (Ev.loadA (i := 0) rfl rfl Try.isAgg54 Try.sizeOf54 (ch := enc a0) (Enc.len _) (Get.here _)) ?_
  obtain ⟨r3, h4, H⟩ := bind_some H
  refine Lst.call1 rfl rfl (by decide) (vs := [.agg (enc a0).toArray]) ⟨rfl, trivial⟩ Try.call21 (partref_PulseErr_sim h4 w0 _ _) ?_
  refine Lst.run rfl rfl (by decide) (Ev.assign rfl) ?_
  refine Lst.nil ?_
  refine At.then ?_
  refine Cd.seq ?_
  refine Cd.region ?_
  refine Lst.run rfl rfl (by decide) (Ev.build (v := .agg (enc (Pulse.zero : Pulse)).toArray) (pv := []) trivial (fun w => by kernel_rfl)) ?_
  refine Lst.alloc rfl rfl (by decide) Try.zeroValue54 (cs := enc Pulse.zero) rfl (fun b5 => ?_)
  refine Lst.store (i := 0) rfl rfl rfl rfl rfl Try.sizeOf54 (vs := enc (Pulse.zero : Pulse)) rfl (Enc.len _) (Enc.one _) (cs' := enc (Pulse.zero : Pulse)) (Put.here ((Enc.len _).trans (Enc.len _).symm)) (L' := (.blk b5 (enc (Pulse.zero : Pulse)) 54) :: (.blk b1 (enc a0) 54) :: L) rfl ?_
  refine Lst.nil ?_
  refine At.then ?_
  refine Cd.seq ?_
  refine Cd.region ?_
  refine Lst.run rfl rfl (by decide) (Ev.move rfl) ?_
  refine Lst.run rfl rfl (by decide) (Ev.move rfl) ?_
  obtain ⟨r7, h8, H⟩ := bind_some H
  refine Lst.call1 rfl rfl (by decide) (vs := [.int .i64 a1, .int .i64 a2]) ⟨rfl, rfl, trivial⟩ Try.call22 (pulse_New_sim h8 w0 _ _) ?_
  refine Lst.run rfl rfl (by decide) (Ev.move rfl) ?_
  refine Lst.run rfl rfl (by decide) (Ev.extract rfl rfl) ?_
  refine Lst.run rfl rfl (by decide) (Ev.extract rfl rfl) ?_
  refine Lst.alloc rfl rfl (by decide) Try.zeroValue54 (cs := enc Pulse.zero) rfl (fun b9 => ?_)
  refine Lst.store (i := 0) rfl rfl rfl rfl rfl Try.sizeOf54 (vs := enc r7.1) rfl (Enc.len _) (Enc.one _) (cs' := enc r7.1) (Put.here ((Enc.len _).trans (Enc.len _).symm)) (L' := (.blk b9 (enc r7.1) 54) :: (.blk b5 (enc (Pulse.zero : Pulse)) 54) :: (.blk b1 (enc a0) 54) :: L) rfl ?_
  refine Lst.run rfl rfl (by decide) (Ev.assign rfl) ?_
  refine Lst.nil ?_
  refine At.then ?_
  refine Cd.seq ?_
  refine Cd.region ?_
  refine Lst.run rfl rfl (by decide) (Ev.loadA (i := 2) rfl rfl Try.isAgg54 Try.sizeOf54 (ch := enc a0) (Enc.len _) (Get.here _)) ?_
  obtain ⟨r11, h12, H⟩ := bind_some H
  refine Lst.call rfl rfl (by decide) (vs := [.agg (enc a0).toArray]) ⟨rfl, trivial⟩ Try.call23 (pulse_Tick_sim h12 w0 _ _) (fun F' L' v hF hv => ?_)
  obtain ⟨s13, rfl, rfl⟩ := hv
  refine Lst.fle hF ?_
  refine Lst.run rfl rfl (by decide) (Ev.move rfl) ?_
  refine Lst.run rfl rfl (by decide) (Ev.extract rfl rfl) ?_
  refine Lst.run rfl rfl (by decide) (Ev.extract rfl rfl) ?_
  refine Lst.run rfl rfl (by decide) (Ev.extract rfl rfl) ?_
  refine Lst.alloc rfl rfl (by decide) Try.zeroValue54 (cs := enc Pulse.zero) rfl (fun b15 => ?_)
  refine Lst.store (i := 0) rfl rfl rfl rfl rfl Try.sizeOf54 (vs := enc r11.1) rfl (Enc.len _) (Enc.one _) (cs' := enc r11.1) (Put.here ((Enc.len _).trans (Enc.len _).symm)) (L' := (.blk b15 (enc r11.1) 54) :: (.own s13 3 1 (encs r11.2.1)) :: (.blk b9 (enc r7.1) 54) :: (.blk b5 (enc (Pulse.zero : Pulse)) 54) :: (.blk b1 (enc a0) 54) :: L) rfl ?_
  refine Lst.run rfl rfl (by decide) (Ev.assign rfl) ?_
  refine Lst.run rfl rfl (by decide) (Ev.assign rfl) ?_
  refine Lst.nil ?_
  refine At.then ?_
  refine Cd.seq ?_
  refine Cd.as (e' := [(1, .int .i64 a1), (2, .int .i64 a2), (3, .int .i64 a3), (4, .pointer (some ⟨b1, 0, none⟩)), (9, .int .i64 r3), (10, .pointer (some ⟨b5, 0, none⟩)), (11, .pointer (some ⟨b9, 0, none⟩)), (12, .int .i64 r7.2), (13, .pointer (some ⟨b15, 0, none⟩)), (14, Sl.v s13), (15, .int .i64 r11.2.2)]) (L' := (.blk b15 (enc r11.1) 54) :: (.own s13 3 1 (encs r11.2.1)) :: (.blk b9 (enc r7.1) 54) :: (.blk b5 (enc (Pulse.zero : Pulse)) 54) :: (.blk b1 (enc a0) 54) :: L) ⟨rfl, rfl, rfl, rfl, rfl, rfl, rfl, rfl, rfl, rfl, rfl, trivial⟩ rfl ?_
  refine Cd.region ?_
  refine Lst.run rfl rfl (by decide) (Ev.loadA (i := 4) rfl rfl Try.isAgg54 Try.sizeOf54 (ch := enc a0) (Enc.len _) (Get.here _)) ?_
  refine Lst.run rfl rfl (by decide) (Ev.move rfl) ?_
  obtain ⟨r17, h18, H⟩ := bind_some H
  refine Lst.call1 rfl rfl (by decide) (vs := [.agg (enc a0).toArray, .int .i64 a3]) ⟨rfl, rfl, trivial⟩ Try.call24 (pulse_Hear_sim h18 w0 _ _) ?_
  refine Lst.run rfl rfl (by decide) (Ev.move rfl) ?_
  refine Lst.run rfl rfl (by decide) (Ev.extract rfl rfl) ?_
  refine Lst.run rfl rfl (by decide) (Ev.extract rfl rfl) ?_
  refine Lst.run rfl rfl (by decide) (Ev.extract rfl rfl) ?_
  refine Lst.alloc rfl rfl (by decide) Try.zeroValue54 (cs := enc Pulse.zero) rfl (fun b19 => ?_)
  refine Lst.store (i := 0) rfl rfl rfl rfl rfl Try.sizeOf54 (vs := enc r17.1) rfl (Enc.len _) (Enc.one _) (cs' := enc r17.1) (Put.here ((Enc.len _).trans (Enc.len _).symm)) (L' := (.blk b19 (enc r17.1) 54) :: (.blk b15 (enc r11.1) 54) :: (.own s13 3 1 (encs r11.2.1)) :: (.blk b9 (enc r7.1) 54) :: (.blk b5 (enc (Pulse.zero : Pulse)) 54) :: (.blk b1 (enc a0) 54) :: L) rfl ?_
  refine Lst.run rfl rfl (by decide) (Ev.assign rfl) ?_
  refine Lst.run rfl rfl (by decide) (Ev.assign rfl) ?_
  refine Lst.nil ?_
  refine At.then ?_
  refine Cd.seq ?_
  refine Cd.region ?_
  refine Lst.run rfl rfl (by decide) (Ev.loadA (i := 5) rfl rfl Try.isAgg54 Try.sizeOf54 (ch := enc a0) (Enc.len _) (Get.here _)) ?_
  obtain ⟨r21, h22, H⟩ := bind_some H
  refine Lst.call1 rfl rfl (by decide) (vs := [.agg (enc a0).toArray]) ⟨rfl, trivial⟩ Try.call25 (pulse_Lead_sim h22 w0 _ _) ?_
  refine Lst.run rfl rfl (by decide) (Ev.move rfl) ?_
  refine Lst.run rfl rfl (by decide) (Ev.extract rfl rfl) ?_
  refine Lst.run rfl rfl (by decide) (Ev.extract rfl rfl) ?_
  refine Lst.run rfl rfl (by decide) (Ev.assign rfl) ?_
  refine Lst.run rfl rfl (by decide) (Ev.assign rfl) ?_
  refine Lst.nil ?_
  refine At.then ?_
  refine Cd.seq ?_
  refine Cd.region ?_
  refine Lst.run rfl rfl (by decide) (Ev.move rfl) ?_
  refine Lst.run rfl rfl (by decide) (Ev.move rfl) ?_
  refine Lst.run rfl rfl (by decide) (Ev.move rfl) ?_
  refine Lst.run rfl rfl (by decide) (Ev.move rfl) ?_
  refine Lst.run rfl rfl (by decide) (Ev.move rfl) ?_
  refine Lst.run rfl rfl (by decide) (Ev.move rfl) ?_
  refine Lst.run rfl rfl (by decide) (Ev.move rfl) ?_
  refine Lst.run rfl rfl (by decide) (Ev.build (v := .agg (enc (#v[a2, a2, a2, a2, a2, a2] : Vector Int 6)).toArray) (pv := [(0, .int .i64 a2), (1, .int .i64 a2), (2, .int .i64 a2), (3, .int .i64 a2), (4, .int .i64 a2), (5, .int .i64 a2)]) ⟨rfl, rfl, ⟨rfl, rfl, ⟨rfl, rfl, ⟨rfl, rfl, ⟨rfl, rfl, ⟨rfl, rfl, trivial⟩⟩⟩⟩⟩⟩ (fun w => by kernel_rfl)) ?_
  refine Lst.run rfl rfl (by decide) (Ev.build (v := .agg (enc ({ ({ Pulse.zero with Me := a1 } : Pulse) with Wait := (#v[a2, a2, a2, a2, a2, a2] : Vector Int 6) } : Pulse)).toArray) (pv := [(0, .int .i64 a1), (3, .agg (enc (#v[a2, a2, a2, a2, a2, a2] : Vector Int 6)).toArray)]) ⟨rfl, rfl, ⟨rfl, rfl, trivial⟩⟩ (run_buildStruct (places := #[(0, 1), (1, 1), (2, 6), (8, 6), (14, 6)]) Try.zeroValue54 (zs := enc Pulse.zero) rfl Try.runUnderlying54 (fun w => by kernel_rfl) (fill_cons (cs := enc Pulse.zero) (cs' := enc ({ Pulse.zero with Me := a1 } : Pulse)) (vs := [.int .i64 a1]) rfl rfl rfl ((Pulse.put_Me (p := Pulse.zero) (y := a1) (Put.here (vs := [.int .i64 a1]) rfl)).off rfl) (fill_cons (cs := enc ({ Pulse.zero with Me := a1 } : Pulse)) (cs' := enc ({ ({ Pulse.zero with Me := a1 } : Pulse) with Wait := (#v[a2, a2, a2, a2, a2, a2] : Vector Int 6) } : Pulse)) (vs := enc (#v[a2, a2, a2, a2, a2, a2] : Vector Int 6)) rfl rfl (Enc.len _) ((Pulse.put_Wait (p := ({ Pulse.zero with Me := a1 } : Pulse)) (y := (#v[a2, a2, a2, a2, a2, a2] : Vector Int 6)) (Put.here ((Enc.len _).trans (Enc.len _).symm))).off rfl) fill_nil)))) ?_
  refine Lst.alloc rfl rfl (by decide) Try.zeroValue54 (cs := enc Pulse.zero) rfl (fun b23 => ?_)
  refine Lst.store (i := 0) rfl rfl rfl rfl rfl Try.sizeOf54 (vs := enc ({ ({ Pulse.zero with Me := a1 } : Pulse) with Wait := (#v[a2, a2, a2, a2, a2, a2] : Vector Int 6) } : Pulse)) rfl (Enc.len _) (Enc.one _) (cs' := enc ({ ({ Pulse.zero with Me := a1 } : Pulse) with Wait := (#v[a2, a2, a2, a2, a2, a2] : Vector Int 6) } : Pulse)) (Put.here ((Enc.len _).trans (Enc.len _).symm)) (L' := (.blk b23 (enc ({ ({ Pulse.zero with Me := a1 } : Pulse) with Wait := (#v[a2, a2, a2, a2, a2, a2] : Vector Int 6) } : Pulse)) 54) :: (.blk b19 (enc r17.1) 54) :: (.blk b15 (enc r11.1) 54) :: (.own s13 3 1 (encs r11.2.1)) :: (.blk b9 (enc r7.1) 54) :: (.blk b5 (enc (Pulse.zero : Pulse)) 54) :: (.blk b1 (enc a0) 54) :: L) rfl ?_
  refine Lst.nil ?_
  refine At.then ?_
  obtain ⟨o25, H, HKo25⟩ := andThen_some H
  refine Cd.join (σ := Unit) (fun (_ : Unit) => [(3, .int .i64 a3), (4, .pointer (some ⟨b1, 0, none⟩)), (9, .int .i64 r3), (10, .pointer (some ⟨b5, 0, none⟩)), (13, .pointer (some ⟨b15, 0, none⟩)), (14, Sl.v s13), (15, .int .i64 r11.2.2), (16, .pointer (some ⟨b19, 0, none⟩)), (17, .bool r17.2.1), (18, .int .i64 r17.2.2), (19, .int .i64 r21.1), (20, .int .i64 r21.2)]) (fun (_ : Unit) => (.blk b23 (enc ({ ({ Pulse.zero with Me := a1 } : Pulse) with Wait := (#v[a2, a2, a2, a2, a2, a2] : Vector Int 6) } : Pulse)) 54) :: (.blk b19 (enc r17.1) 54) :: (.blk b15 (enc r11.1) 54) :: (.own s13 3 1 (encs r11.2.1)) :: (.blk b9 (enc r7.1) 54) :: (.blk b5 (enc (Pulse.zero : Pulse)) 54) :: (.blk b1 (enc a0) 54) :: L) (fun _ (_ : Unit) => .inl () = o25) ?_ ?_
  · refine Cd.seq ?_
    refine Cd.as (e' := [(3, .int .i64 a3), (4, .pointer (some ⟨b1, 0, none⟩)), (9, .int .i64 r3), (10, .pointer (some ⟨b5, 0, none⟩)), (11, .pointer (some ⟨b9, 0, none⟩)), (12, .int .i64 r7.2), (13, .pointer (some ⟨b15, 0, none⟩)), (14, Sl.v s13), (15, .int .i64 r11.2.2), (16, .pointer (some ⟨b19, 0, none⟩)), (17, .bool r17.2.1), (18, .int .i64 r17.2.2), (19, .int .i64 r21.1), (20, .int .i64 r21.2), (21, .pointer (some ⟨b23, 0, none⟩))]) (L' := (.blk b23 (enc ({ ({ Pulse.zero with Me := a1 } : Pulse) with Wait := (#v[a2, a2, a2, a2, a2, a2] : Vector Int 6) } : Pulse)) 54) :: (.blk b19 (enc r17.1) 54) :: (.blk b15 (enc r11.1) 54) :: (.own s13 3 1 (encs r11.2.1)) :: (.blk b9 (enc r7.1) 54) :: (.blk b5 (enc (Pulse.zero : Pulse)) 54) :: (.blk b1 (enc a0) 54) :: L) ⟨rfl, rfl, rfl, rfl, rfl, rfl, rfl, rfl, rfl, rfl, rfl, rfl, rfl, rfl, rfl, trivial⟩ rfl ?_
    refine Cd.region ?_
    refine Lst.run rfl rfl (by decide) (Ev.loadA (i := 0) rfl rfl Try.isAgg54 Try.sizeOf54 (ch := enc ({ ({ Pulse.zero with Me := a1 } : Pulse) with Wait := (#v[a2, a2, a2, a2, a2, a2] : Vector Int 6) } : Pulse)) (Enc.len _) (Get.here _)) ?_
    obtain ⟨r26, h27, H⟩ := bind_some H
    refine Lst.call1 rfl rfl (by decide) (vs := [.agg (enc ({ ({ Pulse.zero with Me := a1 } : Pulse) with Wait := (#v[a2, a2, a2, a2, a2, a2] : Vector Int 6) } : Pulse)).toArray]) ⟨rfl, trivial⟩ Try.call21 (partref_PulseErr_sim h27 w0 _ _) ?_
    refine Lst.run rfl rfl (by decide) (Ev.neq rfl rfl) ?_
    refine Lst.nil ?_
    refine At.then ?_
    rcases Bool.eq_false_or_eq_true (r26 != (0 : Int)) with hb28 | hb28
    · replace H := ite_t hb28 H
      refine Cd.condT rfl hb28 ?_
      obtain ⟨o29, H, HKo29⟩ := bind_some H
      refine Cd.join (σ := Bool) (fun y33 => [(3, .int .i64 a3), (4, .pointer (some ⟨b1, 0, none⟩)), (9, .int .i64 r3), (10, .pointer (some ⟨b5, 0, none⟩)), (13, .pointer (some ⟨b15, 0, none⟩)), (14, Sl.v s13), (15, .int .i64 r11.2.2), (16, .pointer (some ⟨b19, 0, none⟩)), (17, .bool r17.2.1), (18, .int .i64 r17.2.2), (19, .int .i64 r21.1), (20, .int .i64 r21.2), (72, .bool y33)]) (fun y33 => (.blk b23 (enc ({ ({ Pulse.zero with Me := a1 } : Pulse) with Wait := (#v[a2, a2, a2, a2, a2, a2] : Vector Int 6) } : Pulse)) 54) :: (.blk b19 (enc r17.1) 54) :: (.blk b15 (enc r11.1) 54) :: (.own s13 3 1 (encs r11.2.1)) :: (.blk b9 (enc r7.1) 54) :: (.blk b5 (enc (Pulse.zero : Pulse)) 54) :: (.blk b1 (enc a0) 54) :: L) (fun _ y33 => y33 = o29) ?_ ?_
      · refine Cd.region ?_
        refine Lst.run rfl rfl (by decide) (Ev.loadA (i := 4) rfl rfl Try.isAgg54 Try.sizeOf54 (ch := enc r7.1) (Enc.len _) (Get.here _)) ?_
        refine Lst.run rfl rfl (by decide) (Ev.loadA (i := 5) rfl rfl Try.isAgg54 Try.sizeOf54 (ch := enc (Pulse.zero : Pulse)) (Enc.len _) (Get.here _)) ?_
        refine Lst.run rfl rfl (by decide) (Ev.neqA rfl rfl (by kernel_rfl) (eq54 _ _)) ?_
        refine Lst.run rfl rfl (by decide) (Ev.move rfl) ?_
        rcases Bool.eq_false_or_eq_true (!(decide (r7.1 = (Pulse.zero : Pulse)))) with hb30 | hb30
        · replace H := ite_t hb30 H
          refine Lst.skip rfl rfl rfl hb30 rfl (by decide) ?_
          refine Lst.skip rfl rfl rfl hb30 rfl (by decide) ?_
          refine Lst.run rfl rfl (by decide) (Ev.pickT rfl hb30 rfl) ?_
          refine Lst.nil ?_
          exact At.meet true (FLe.refl _) ⟨rfl, rfl, rfl, rfl, rfl, rfl, rfl, rfl, rfl, rfl, rfl, rfl, rfl, trivial⟩ rfl (some_inj H)
        replace H := ite_f hb30 H
        refine Lst.runG rfl rfl rfl hb30 rfl (by decide) (Ev.move rfl) ?_
        refine Lst.runG rfl rfl rfl hb30 rfl (by decide) (Ev.neq rfl rfl) ?_
        refine Lst.run rfl rfl (by decide) (Ev.pickF rfl hb30 rfl) ?_
        refine Lst.nil ?_
        exact At.meet (r7.2 != (1 : Int)) (FLe.refl _) ⟨rfl, rfl, rfl, rfl, rfl, rfl, rfl, rfl, rfl, rfl, rfl, rfl, rfl, trivial⟩ rfl (some_inj H)
      rintro F' y33 hF' hy
      subst hy
      refine Cd.fle hF' ?_
      refine Cd.as (e' := [(3, .int .i64 a3), (4, .pointer (some ⟨b1, 0, none⟩)), (9, .int .i64 r3), (10, .pointer (some ⟨b5, 0, none⟩)), (13, .pointer (some ⟨b15, 0, none⟩)), (14, Sl.v s13), (15, .int .i64 r11.2.2), (16, .pointer (some ⟨b19, 0, none⟩)), (17, .bool r17.2.1), (18, .int .i64 r17.2.2), (19, .int .i64 r21.1), (20, .int .i64 r21.2), (72, .bool y33)]) (L' := (.blk b23 (enc ({ ({ Pulse.zero with Me := a1 } : Pulse) with Wait := (#v[a2, a2, a2, a2, a2, a2] : Vector Int 6) } : Pulse)) 54) :: (.blk b19 (enc r17.1) 54) :: (.blk b15 (enc r11.1) 54) :: (.own s13 3 1 (encs r11.2.1)) :: (.blk b9 (enc r7.1) 54) :: (.blk b5 (enc (Pulse.zero : Pulse)) 54) :: (.blk b1 (enc a0) 54) :: L) ⟨rfl, rfl, rfl, rfl, rfl, rfl, rfl, rfl, rfl, rfl, rfl, rfl, rfl, trivial⟩ rfl ?_
      replace H := HKo29
      rcases Bool.eq_false_or_eq_true y33 with hb35 | hb35
      · replace H := ite_t hb35 H
        refine Cd.condT rfl hb35 ?_
        refine Cd.seq ?_
        refine Cd.region ?_
        refine Lst.run rfl rfl (by decide) (Ev.assign rfl) ?_
        refine Lst.nil ?_
        refine At.then ?_
        obtain rfl := some_inj H
        replace H := HKo25
        obtain rfl := some_inj H
        refine Cd.ret ?_
        refine At.then_ret ?_
        exact At.ret1 rfl (Res.tmp rfl) (FLe.refl _) (List.Sublist.cons _ (List.Sublist.cons _ (List.Sublist.cons _ (List.Sublist.cons _ (List.Sublist.cons _ (List.Sublist.cons _ (List.Sublist.cons _ (List.Sublist.refl _)))))))) ⟨rfl, rfl⟩
      replace H := ite_f hb35 H
      refine Cd.condF rfl hb35 ?_
      refine Cd.skip ?_
      exact At.meet () (FLe.refl _) ⟨rfl, rfl, rfl, rfl, rfl, rfl, rfl, rfl, rfl, rfl, rfl, rfl, trivial⟩ rfl (some_inj H)
    replace H := ite_f hb28 H
    refine Cd.condF rfl hb28 ?_
    obtain ⟨o36, H, HKo36⟩ := bind_some H
    refine Cd.join (σ := Bool) (fun y40 => [(3, .int .i64 a3), (4, .pointer (some ⟨b1, 0, none⟩)), (9, .int .i64 r3), (10, .pointer (some ⟨b5, 0, none⟩)), (13, .pointer (some ⟨b15, 0, none⟩)), (14, Sl.v s13), (15, .int .i64 r11.2.2), (16, .pointer (some ⟨b19, 0, none⟩)), (17, .bool r17.2.1), (18, .int .i64 r17.2.2), (19, .int .i64 r21.1), (20, .int .i64 r21.2), (79, .bool y40)]) (fun y40 => (.blk b23 (enc ({ ({ Pulse.zero with Me := a1 } : Pulse) with Wait := (#v[a2, a2, a2, a2, a2, a2] : Vector Int 6) } : Pulse)) 54) :: (.blk b19 (enc r17.1) 54) :: (.blk b15 (enc r11.1) 54) :: (.own s13 3 1 (encs r11.2.1)) :: (.blk b9 (enc r7.1) 54) :: (.blk b5 (enc (Pulse.zero : Pulse)) 54) :: (.blk b1 (enc a0) 54) :: L) (fun _ y40 => y40 = o36) ?_ ?_
    · refine Cd.region ?_
      refine Lst.run rfl rfl (by decide) (Ev.loadA (i := 4) rfl rfl Try.isAgg54 Try.sizeOf54 (ch := enc r7.1) (Enc.len _) (Get.here _)) ?_
      refine Lst.run rfl rfl (by decide) (Ev.loadA (i := 0) rfl rfl Try.isAgg54 Try.sizeOf54 (ch := enc ({ ({ Pulse.zero with Me := a1 } : Pulse) with Wait := (#v[a2, a2, a2, a2, a2, a2] : Vector Int 6) } : Pulse)) (Enc.len _) (Get.here _)) ?_
      refine Lst.run rfl rfl (by decide) (Ev.neqA rfl rfl (by kernel_rfl) (eq54 _ _)) ?_
      refine Lst.run rfl rfl (by decide) (Ev.move rfl) ?_
      rcases Bool.eq_false_or_eq_true (!(decide (r7.1 = ({ ({ Pulse.zero with Me := a1 } : Pulse) with Wait := (#v[a2, a2, a2, a2, a2, a2] : Vector Int 6) } : Pulse)))) with hb37 | hb37
      · replace H := ite_t hb37 H
        refine Lst.skip rfl rfl rfl hb37 rfl (by decide) ?_
        refine Lst.skip rfl rfl rfl hb37 rfl (by decide) ?_
        refine Lst.run rfl rfl (by decide) (Ev.pickT rfl hb37 rfl) ?_
        refine Lst.nil ?_
        exact At.meet true (FLe.refl _) ⟨rfl, rfl, rfl, rfl, rfl, rfl, rfl, rfl, rfl, rfl, rfl, rfl, rfl, trivial⟩ rfl (some_inj H)
      replace H := ite_f hb37 H
      refine Lst.runG rfl rfl rfl hb37 rfl (by decide) (Ev.move rfl) ?_
      refine Lst.runG rfl rfl rfl hb37 rfl (by decide) (Ev.neq rfl rfl) ?_
      refine Lst.run rfl rfl (by decide) (Ev.pickF rfl hb37 rfl) ?_
      refine Lst.nil ?_
      exact At.meet (r7.2 != (0 : Int)) (FLe.refl _) ⟨rfl, rfl, rfl, rfl, rfl, rfl, rfl, rfl, rfl, rfl, rfl, rfl, rfl, trivial⟩ rfl (some_inj H)
    rintro F' y40 hF' hy
    subst hy
    refine Cd.fle hF' ?_
    refine Cd.as (e' := [(3, .int .i64 a3), (4, .pointer (some ⟨b1, 0, none⟩)), (9, .int .i64 r3), (10, .pointer (some ⟨b5, 0, none⟩)), (13, .pointer (some ⟨b15, 0, none⟩)), (14, Sl.v s13), (15, .int .i64 r11.2.2), (16, .pointer (some ⟨b19, 0, none⟩)), (17, .bool r17.2.1), (18, .int .i64 r17.2.2), (19, .int .i64 r21.1), (20, .int .i64 r21.2), (79, .bool y40)]) (L' := (.blk b23 (enc ({ ({ Pulse.zero with Me := a1 } : Pulse) with Wait := (#v[a2, a2, a2, a2, a2, a2] : Vector Int 6) } : Pulse)) 54) :: (.blk b19 (enc r17.1) 54) :: (.blk b15 (enc r11.1) 54) :: (.own s13 3 1 (encs r11.2.1)) :: (.blk b9 (enc r7.1) 54) :: (.blk b5 (enc (Pulse.zero : Pulse)) 54) :: (.blk b1 (enc a0) 54) :: L) ⟨rfl, rfl, rfl, rfl, rfl, rfl, rfl, rfl, rfl, rfl, rfl, rfl, rfl, trivial⟩ rfl ?_
    replace H := HKo36
    rcases Bool.eq_false_or_eq_true y40 with hb42 | hb42
    · replace H := ite_t hb42 H
      refine Cd.condT rfl hb42 ?_
      refine Cd.seq ?_
      refine Cd.region ?_
      refine Lst.run rfl rfl (by decide) (Ev.assign rfl) ?_
      refine Lst.nil ?_
      refine At.then ?_
      obtain rfl := some_inj H
      replace H := HKo25
      obtain rfl := some_inj H
      refine Cd.ret ?_
      refine At.then_ret ?_
      exact At.ret1 rfl (Res.tmp rfl) (FLe.refl _) (List.Sublist.cons _ (List.Sublist.cons _ (List.Sublist.cons _ (List.Sublist.cons _ (List.Sublist.cons _ (List.Sublist.cons _ (List.Sublist.cons _ (List.Sublist.refl _)))))))) ⟨rfl, rfl⟩
    replace H := ite_f hb42 H
    refine Cd.condF rfl hb42 ?_
    refine Cd.skip ?_
    exact At.meet () (FLe.refl _) ⟨rfl, rfl, rfl, rfl, rfl, rfl, rfl, rfl, rfl, rfl, rfl, rfl, trivial⟩ rfl (some_inj H)
  rintro F' _u hF' hy
  subst hy
  refine Cd.fle hF' ?_
  refine Cd.as (e' := [(3, .int .i64 a3), (4, .pointer (some ⟨b1, 0, none⟩)), (9, .int .i64 r3), (10, .pointer (some ⟨b5, 0, none⟩)), (13, .pointer (some ⟨b15, 0, none⟩)), (14, Sl.v s13), (15, .int .i64 r11.2.2), (16, .pointer (some ⟨b19, 0, none⟩)), (17, .bool r17.2.1), (18, .int .i64 r17.2.2), (19, .int .i64 r21.1), (20, .int .i64 r21.2)]) (L' := (.blk b23 (enc ({ ({ Pulse.zero with Me := a1 } : Pulse) with Wait := (#v[a2, a2, a2, a2, a2, a2] : Vector Int 6) } : Pulse)) 54) :: (.blk b19 (enc r17.1) 54) :: (.blk b15 (enc r11.1) 54) :: (.own s13 3 1 (encs r11.2.1)) :: (.blk b9 (enc r7.1) 54) :: (.blk b5 (enc (Pulse.zero : Pulse)) 54) :: (.blk b1 (enc a0) 54) :: L) ⟨rfl, rfl, rfl, rfl, rfl, rfl, rfl, rfl, rfl, rfl, rfl, rfl, trivial⟩ rfl ?_
  replace H := HKo25
  refine Cd.seq ?_
  refine Cd.seq ?_
  refine Cd.region ?_
  refine Lst.run rfl rfl (by decide) (Ev.loadA (i := 6) rfl rfl Try.isAgg54 Try.sizeOf54 (ch := enc a0) (Enc.len _) (Get.here _)) ?_
  obtain ⟨r44, h45, H⟩ := bind_some H
  refine Lst.call1 rfl rfl (by decide) (vs := [.agg (enc a0).toArray]) ⟨rfl, trivial⟩ Try.call26 (pulse_Check_sim h45 w0 _ _) ?_
  refine Lst.run rfl rfl (by decide) (Ev.move rfl) ?_
  refine Lst.run rfl rfl (by decide) (Ev.neq rfl rfl) ?_
  refine Lst.nil ?_
  refine At.then ?_
  rcases Bool.eq_false_or_eq_true (r44 != r3) with hb46 | hb46
  · replace H := ite_t hb46 H
    refine Cd.condT rfl hb46 ?_
    refine Cd.seq ?_
    refine Cd.as (e' := []) (L' := (.blk b23 (enc ({ ({ Pulse.zero with Me := a1 } : Pulse) with Wait := (#v[a2, a2, a2, a2, a2, a2] : Vector Int 6) } : Pulse)) 54) :: (.blk b19 (enc r17.1) 54) :: (.blk b15 (enc r11.1) 54) :: (.own s13 3 1 (encs r11.2.1)) :: (.blk b9 (enc r7.1) 54) :: (.blk b5 (enc (Pulse.zero : Pulse)) 54) :: (.blk b1 (enc a0) 54) :: L) trivial rfl ?_
    refine Cd.region ?_
    refine Lst.run rfl rfl (by decide) (Ev.assign rfl) ?_
    refine Lst.nil ?_
    refine At.then ?_
    obtain rfl := some_inj H
    refine Cd.ret ?_
    refine At.then_ret ?_
    exact At.ret1 rfl (Res.tmp rfl) (FLe.refl _) (List.Sublist.cons _ (List.Sublist.cons _ (List.Sublist.cons _ (List.Sublist.cons _ (List.Sublist.cons _ (List.Sublist.cons _ (List.Sublist.cons _ (List.Sublist.refl _)))))))) ⟨rfl, rfl⟩
  replace H := ite_f hb46 H
  refine Cd.condF rfl hb46 ?_
  refine Cd.skip ?_
  refine At.then ?_
  refine Cd.seq ?_
  refine Cd.seq ?_
  refine Cd.region ?_
  refine Lst.run rfl rfl (by decide) (Ev.move rfl) ?_
  refine Lst.run rfl rfl (by decide) (Ev.neq rfl rfl) ?_
  refine Lst.nil ?_
  refine At.then ?_
  rcases Bool.eq_false_or_eq_true (r3 != (0 : Int)) with hb47 | hb47
  · replace H := ite_t hb47 H
    refine Cd.condT rfl hb47 ?_
    obtain ⟨o48, H, HKo48⟩ := bind_some H
    refine Cd.join (σ := Bool) (fun y64 => [(8, .bool y64)]) (fun y64 => (.blk b23 (enc ({ ({ Pulse.zero with Me := a1 } : Pulse) with Wait := (#v[a2, a2, a2, a2, a2, a2] : Vector Int 6) } : Pulse)) 54) :: (.blk b19 (enc r17.1) 54) :: (.blk b15 (enc r11.1) 54) :: (.own s13 3 1 (encs r11.2.1)) :: (.blk b9 (enc r7.1) 54) :: (.blk b5 (enc (Pulse.zero : Pulse)) 54) :: (.blk b1 (enc a0) 54) :: L) (fun _ y64 => y64 = o48) ?_ ?_
    · refine Cd.region ?_
      refine Lst.run rfl rfl (by decide) (Ev.loadA (i := 2) rfl rfl Try.isAgg54 Try.sizeOf54 (ch := enc r11.1) (Enc.len _) (Get.here _)) ?_
      refine Lst.run rfl rfl (by decide) (Ev.loadA (i := 5) rfl rfl Try.isAgg54 Try.sizeOf54 (ch := enc (Pulse.zero : Pulse)) (Enc.len _) (Get.here _)) ?_
      refine Lst.run rfl rfl (by decide) (Ev.eqlA rfl rfl (by kernel_rfl) (eq54 _ _)) ?_
      refine Lst.run rfl rfl (by decide) (Ev.move rfl) ?_
      rcases (Bool.eq_false_or_eq_true (decide (r11.1 = (Pulse.zero : Pulse)))).symm with hb49 | hb49
      · replace H := ite_f hb49 H
        refine Lst.skip rfl rfl rfl hb49 rfl (by decide) ?_
        refine Lst.skip rfl rfl rfl hb49 rfl (by decide) ?_
        refine Lst.skip rfl rfl rfl hb49 rfl (by decide) ?_
        refine Lst.run rfl rfl (by decide) (Ev.pickF rfl hb49 rfl) ?_
        refine Lst.run rfl rfl (by decide) (Ev.move rfl) ?_
        refine Lst.skip rfl rfl rfl rfl rfl (by decide) ?_
        refine Lst.skip rfl rfl rfl rfl rfl (by decide) ?_
        refine Lst.skip rfl rfl rfl rfl rfl (by decide) ?_
        refine Lst.run rfl rfl (by decide) (Ev.pickF rfl rfl rfl) ?_
        refine Lst.run rfl rfl (by decide) (Ev.move rfl) ?_
        refine Lst.skip rfl rfl rfl rfl rfl (by decide) ?_
        refine Lst.skip rfl rfl rfl rfl rfl (by decide) ?_
        refine Lst.skip rfl rfl rfl rfl rfl (by decide) ?_
        refine Lst.run rfl rfl (by decide) (Ev.pickF rfl rfl rfl) ?_
        refine Lst.run rfl rfl (by decide) (Ev.move rfl) ?_
        refine Lst.skip rfl rfl rfl rfl rfl (by decide) ?_
        refine Lst.skip rfl rfl rfl rfl rfl (by decide) ?_
        refine Lst.run rfl rfl (by decide) (Ev.pickF rfl rfl rfl) ?_
        refine Lst.run rfl rfl (by decide) (Ev.move rfl) ?_
        refine Lst.skip rfl rfl rfl rfl rfl (by decide) ?_
        refine Lst.skip rfl rfl rfl rfl rfl (by decide) ?_
        refine Lst.skip rfl rfl rfl rfl rfl (by decide) ?_
        refine Lst.run rfl rfl (by decide) (Ev.pickF rfl rfl rfl) ?_
        refine Lst.run rfl rfl (by decide) (Ev.move rfl) ?_
        refine Lst.skip rfl rfl rfl rfl rfl (by decide) ?_
        refine Lst.skip rfl rfl rfl rfl rfl (by decide) ?_
        refine Lst.run rfl rfl (by decide) (Ev.pickF rfl rfl rfl) ?_
        refine Lst.run rfl rfl (by decide) (Ev.move rfl) ?_
        refine Lst.skip rfl rfl rfl rfl rfl (by decide) ?_
        refine Lst.skip rfl rfl rfl rfl rfl (by decide) ?_
        refine Lst.skip rfl rfl rfl rfl rfl (by decide) ?_
        refine Lst.run rfl rfl (by decide) (Ev.pickF rfl rfl rfl) ?_
        refine Lst.run rfl rfl (by decide) (Ev.assign rfl) ?_
        refine Lst.nil ?_
        exact At.meet false (FLe.refl _) ⟨rfl, trivial⟩ rfl (some_inj H)
      replace H := ite_t hb49 H
      refine Lst.runG rfl rfl rfl hb49 rfl (by decide) (Ev.move rfl) ?_
      refine Lst.runG rfl rfl rfl hb49 rfl (by decide) (Ev.lenS (α := Int) (by decide) rfl rfl Try.runUnderlying24 (Rd.own (i := 3) rfl rfl rfl)) ?_
      refine Lst.runG rfl rfl rfl hb49 rfl (by decide) (Ev.eql rfl rfl) ?_
      refine Lst.run rfl rfl (by decide) (Ev.pickT rfl hb49 rfl) ?_
      refine Lst.run rfl rfl (by decide) (Ev.move rfl) ?_
      rcases (Bool.eq_false_or_eq_true ((r11.2.1.length : Int) == (0 : Int))).symm with hb51 | hb51
      · replace H := ite_f hb51 H
        refine Lst.skip rfl rfl rfl hb51 rfl (by decide) ?_
        refine Lst.skip rfl rfl rfl hb51 rfl (by decide) ?_
        refine Lst.skip rfl rfl rfl hb51 rfl (by decide) ?_
        refine Lst.run rfl rfl (by decide) (Ev.pickF rfl hb51 rfl) ?_
        refine Lst.run rfl rfl (by decide) (Ev.move rfl) ?_
        refine Lst.skip rfl rfl rfl rfl rfl (by decide) ?_
        refine Lst.skip rfl rfl rfl rfl rfl (by decide) ?_
        refine Lst.skip rfl rfl rfl rfl rfl (by decide) ?_
        refine Lst.run rfl rfl (by decide) (Ev.pickF rfl rfl rfl) ?_
        refine Lst.run rfl rfl (by decide) (Ev.move rfl) ?_
        refine Lst.skip rfl rfl rfl rfl rfl (by decide) ?_
        refine Lst.skip rfl rfl rfl rfl rfl (by decide) ?_
        refine Lst.run rfl rfl (by decide) (Ev.pickF rfl rfl rfl) ?_
        refine Lst.run rfl rfl (by decide) (Ev.move rfl) ?_
        refine Lst.skip rfl rfl rfl rfl rfl (by decide) ?_
        refine Lst.skip rfl rfl rfl rfl rfl (by decide) ?_
        refine Lst.skip rfl rfl rfl rfl rfl (by decide) ?_
        refine Lst.run rfl rfl (by decide) (Ev.pickF rfl rfl rfl) ?_
        refine Lst.run rfl rfl (by decide) (Ev.move rfl) ?_
        refine Lst.skip rfl rfl rfl rfl rfl (by decide) ?_
        refine Lst.skip rfl rfl rfl rfl rfl (by decide) ?_
        refine Lst.run rfl rfl (by decide) (Ev.pickF rfl rfl rfl) ?_
        refine Lst.run rfl rfl (by decide) (Ev.move rfl) ?_
        refine Lst.skip rfl rfl rfl rfl rfl (by decide) ?_
        refine Lst.skip rfl rfl rfl rfl rfl (by decide) ?_
        refine Lst.skip rfl rfl rfl rfl rfl (by decide) ?_
        refine Lst.run rfl rfl (by decide) (Ev.pickF rfl rfl rfl) ?_
        refine Lst.run rfl rfl (by decide) (Ev.assign rfl) ?_
        refine Lst.nil ?_
        exact At.meet false (FLe.refl _) ⟨rfl, trivial⟩ rfl (some_inj H)
      replace H := ite_t hb51 H
      refine Lst.runG rfl rfl rfl hb51 rfl (by decide) (Ev.move rfl) ?_
      refine Lst.runG rfl rfl rfl hb51 rfl (by decide) (Ev.move rfl) ?_
      refine Lst.runG rfl rfl rfl hb51 rfl (by decide) (Ev.eql rfl rfl) ?_
      refine Lst.run rfl rfl (by decide) (Ev.pickT rfl hb51 rfl) ?_
      refine Lst.run rfl rfl (by decide) (Ev.move rfl) ?_
      rcases (Bool.eq_false_or_eq_true (r11.2.2 == r3)).symm with hb53 | hb53
      · replace H := ite_f hb53 H
        refine Lst.skip rfl rfl rfl hb53 rfl (by decide) ?_
        refine Lst.skip rfl rfl rfl hb53 rfl (by decide) ?_
        refine Lst.skip rfl rfl rfl hb53 rfl (by decide) ?_
        refine Lst.run rfl rfl (by decide) (Ev.pickF rfl hb53 rfl) ?_
        refine Lst.run rfl rfl (by decide) (Ev.move rfl) ?_
        refine Lst.skip rfl rfl rfl rfl rfl (by decide) ?_
        refine Lst.skip rfl rfl rfl rfl rfl (by decide) ?_
        refine Lst.run rfl rfl (by decide) (Ev.pickF rfl rfl rfl) ?_
        refine Lst.run rfl rfl (by decide) (Ev.move rfl) ?_
        refine Lst.skip rfl rfl rfl rfl rfl (by decide) ?_
        refine Lst.skip rfl rfl rfl rfl rfl (by decide) ?_
        refine Lst.skip rfl rfl rfl rfl rfl (by decide) ?_
        refine Lst.run rfl rfl (by decide) (Ev.pickF rfl rfl rfl) ?_
        refine Lst.run rfl rfl (by decide) (Ev.move rfl) ?_
        refine Lst.skip rfl rfl rfl rfl rfl (by decide) ?_
        refine Lst.skip rfl rfl rfl rfl rfl (by decide) ?_
        refine Lst.run rfl rfl (by decide) (Ev.pickF rfl rfl rfl) ?_
        refine Lst.run rfl rfl (by decide) (Ev.move rfl) ?_
        refine Lst.skip rfl rfl rfl rfl rfl (by decide) ?_
        refine Lst.skip rfl rfl rfl rfl rfl (by decide) ?_
        refine Lst.skip rfl rfl rfl rfl rfl (by decide) ?_
        refine Lst.run rfl rfl (by decide) (Ev.pickF rfl rfl rfl) ?_
        refine Lst.run rfl rfl (by decide) (Ev.assign rfl) ?_
        refine Lst.nil ?_
        exact At.meet false (FLe.refl _) ⟨rfl, trivial⟩ rfl (some_inj H)
      replace H := ite_t hb53 H
      refine Lst.runG rfl rfl rfl hb53 rfl (by decide) (Ev.loadA (i := 1) rfl rfl Try.isAgg54 Try.sizeOf54 (ch := enc r17.1) (Enc.len _) (Get.here _)) ?_
      refine Lst.runG rfl rfl rfl hb53 rfl (by decide) (Ev.loadA (i := 5) rfl rfl Try.isAgg54 Try.sizeOf54 (ch := enc (Pulse.zero : Pulse)) (Enc.len _) (Get.here _)) ?_
      refine Lst.runG rfl rfl rfl hb53 rfl (by decide) (Ev.eqlA rfl rfl (by kernel_rfl) (eq54 _ _)) ?_
      refine Lst.run rfl rfl (by decide) (Ev.pickT rfl hb53 rfl) ?_
      refine Lst.run rfl rfl (by decide) (Ev.move rfl) ?_
      rcases (Bool.eq_false_or_eq_true (decide (r17.1 = (Pulse.zero : Pulse)))).symm with hb55 | hb55
      · replace H := ite_f hb55 H
        refine Lst.skip rfl rfl rfl hb55 rfl (by decide) ?_
        refine Lst.skip rfl rfl rfl hb55 rfl (by decide) ?_
        refine Lst.run rfl rfl (by decide) (Ev.pickF rfl hb55 rfl) ?_
        refine Lst.run rfl rfl (by decide) (Ev.move rfl) ?_
        refine Lst.skip rfl rfl rfl rfl rfl (by decide) ?_
        refine Lst.skip rfl rfl rfl rfl rfl (by decide) ?_
        refine Lst.skip rfl rfl rfl rfl rfl (by decide) ?_
        refine Lst.run rfl rfl (by decide) (Ev.pickF rfl rfl rfl) ?_
        refine Lst.run rfl rfl (by decide) (Ev.move rfl) ?_
        refine Lst.skip rfl rfl rfl rfl rfl (by decide) ?_
        refine Lst.skip rfl rfl rfl rfl rfl (by decide) ?_
        refine Lst.run rfl rfl (by decide) (Ev.pickF rfl rfl rfl) ?_
        refine Lst.run rfl rfl (by decide) (Ev.move rfl) ?_
        refine Lst.skip rfl rfl rfl rfl rfl (by decide) ?_
        refine Lst.skip rfl rfl rfl rfl rfl (by decide) ?_
        refine Lst.skip rfl rfl rfl rfl rfl (by decide) ?_
        refine Lst.run rfl rfl (by decide) (Ev.pickF rfl rfl rfl) ?_
        refine Lst.run rfl rfl (by decide) (Ev.assign rfl) ?_
        refine Lst.nil ?_
        exact At.meet false (FLe.refl _) ⟨rfl, trivial⟩ rfl (some_inj H)
      replace H := ite_t hb55 H
      refine Lst.runG rfl rfl rfl hb55 rfl (by decide) (Ev.move rfl) ?_
      refine Lst.runG rfl rfl rfl hb55 rfl (by decide) (Ev.not rfl) ?_
      refine Lst.run rfl rfl (by decide) (Ev.pickT rfl hb55 rfl) ?_
      refine Lst.run rfl rfl (by decide) (Ev.move rfl) ?_
      rcases (Bool.eq_false_or_eq_true (!r17.2.1)).symm with hb57 | hb57
      · replace H := ite_f hb57 H
        refine Lst.skip rfl rfl rfl hb57 rfl (by decide) ?_
        refine Lst.skip rfl rfl rfl hb57 rfl (by decide) ?_
        refine Lst.skip rfl rfl rfl hb57 rfl (by decide) ?_
        refine Lst.run rfl rfl (by decide) (Ev.pickF rfl hb57 rfl) ?_
        refine Lst.run rfl rfl (by decide) (Ev.move rfl) ?_
        refine Lst.skip rfl rfl rfl rfl rfl (by decide) ?_
        refine Lst.skip rfl rfl rfl rfl rfl (by decide) ?_
        refine Lst.run rfl rfl (by decide) (Ev.pickF rfl rfl rfl) ?_
        refine Lst.run rfl rfl (by decide) (Ev.move rfl) ?_
        refine Lst.skip rfl rfl rfl rfl rfl (by decide) ?_
        refine Lst.skip rfl rfl rfl rfl rfl (by decide) ?_
        refine Lst.skip rfl rfl rfl rfl rfl (by decide) ?_
        refine Lst.run rfl rfl (by decide) (Ev.pickF rfl rfl rfl) ?_
        refine Lst.run rfl rfl (by decide) (Ev.assign rfl) ?_
        refine Lst.nil ?_
        exact At.meet false (FLe.refl _) ⟨rfl, trivial⟩ rfl (some_inj H)
      replace H := ite_t hb57 H
      refine Lst.runG rfl rfl rfl hb57 rfl (by decide) (Ev.move rfl) ?_
      refine Lst.runG rfl rfl rfl hb57 rfl (by decide) (Ev.move rfl) ?_
      refine Lst.runG rfl rfl rfl hb57 rfl (by decide) (Ev.eql rfl rfl) ?_
      refine Lst.run rfl rfl (by decide) (Ev.pickT rfl hb57 rfl) ?_
      refine Lst.run rfl rfl (by decide) (Ev.move rfl) ?_
      rcases (Bool.eq_false_or_eq_true (r17.2.2 == r3)).symm with hb59 | hb59
      · replace H := ite_f hb59 H
        refine Lst.skip rfl rfl rfl hb59 rfl (by decide) ?_
        refine Lst.skip rfl rfl rfl hb59 rfl (by decide) ?_
        refine Lst.run rfl rfl (by decide) (Ev.pickF rfl hb59 rfl) ?_
        refine Lst.run rfl rfl (by decide) (Ev.move rfl) ?_
        refine Lst.skip rfl rfl rfl rfl rfl (by decide) ?_
        refine Lst.skip rfl rfl rfl rfl rfl (by decide) ?_
        refine Lst.skip rfl rfl rfl rfl rfl (by decide) ?_
        refine Lst.run rfl rfl (by decide) (Ev.pickF rfl rfl rfl) ?_
        refine Lst.run rfl rfl (by decide) (Ev.assign rfl) ?_
        refine Lst.nil ?_
        exact At.meet false (FLe.refl _) ⟨rfl, trivial⟩ rfl (some_inj H)
      replace H := ite_t hb59 H
      refine Lst.runG rfl rfl rfl hb59 rfl (by decide) (Ev.move rfl) ?_
      refine Lst.runG rfl rfl rfl hb59 rfl (by decide) (Ev.eql rfl rfl) ?_
      refine Lst.run rfl rfl (by decide) (Ev.pickT rfl hb59 rfl) ?_
      refine Lst.run rfl rfl (by decide) (Ev.move rfl) ?_
      rcases (Bool.eq_false_or_eq_true (r21.1 == (0 : Int))).symm with hb61 | hb61
      · replace H := ite_f hb61 H
        refine Lst.skip rfl rfl rfl hb61 rfl (by decide) ?_
        refine Lst.skip rfl rfl rfl hb61 rfl (by decide) ?_
        refine Lst.skip rfl rfl rfl hb61 rfl (by decide) ?_
        refine Lst.run rfl rfl (by decide) (Ev.pickF rfl hb61 rfl) ?_
        refine Lst.run rfl rfl (by decide) (Ev.assign rfl) ?_
        refine Lst.nil ?_
        exact At.meet false (FLe.refl _) ⟨rfl, trivial⟩ rfl (some_inj H)
      replace H := ite_t hb61 H
      refine Lst.runG rfl rfl rfl hb61 rfl (by decide) (Ev.move rfl) ?_
      refine Lst.runG rfl rfl rfl hb61 rfl (by decide) (Ev.move rfl) ?_
      refine Lst.runG rfl rfl rfl hb61 rfl (by decide) (Ev.eql rfl rfl) ?_
      refine Lst.run rfl rfl (by decide) (Ev.pickT rfl hb61 rfl) ?_
      refine Lst.run rfl rfl (by decide) (Ev.assign rfl) ?_
      refine Lst.nil ?_
      exact At.meet (r21.2 == r3) (FLe.refl _) ⟨rfl, trivial⟩ rfl (some_inj H)
    rintro F' y64 hF' hy
    subst hy
    refine Cd.fle hF' ?_
    refine Cd.as (e' := [(8, .bool y64)]) (L' := (.blk b23 (enc ({ ({ Pulse.zero with Me := a1 } : Pulse) with Wait := (#v[a2, a2, a2, a2, a2, a2] : Vector Int 6) } : Pulse)) 54) :: (.blk b19 (enc r17.1) 54) :: (.blk b15 (enc r11.1) 54) :: (.own s13 3 1 (encs r11.2.1)) :: (.blk b9 (enc r7.1) 54) :: (.blk b5 (enc (Pulse.zero : Pulse)) 54) :: (.blk b1 (enc a0) 54) :: L) ⟨rfl, trivial⟩ rfl ?_
    replace H := HKo48
    obtain rfl := some_inj H
    refine Cd.ret ?_
    refine At.then_ret ?_
    exact At.ret1 rfl (Res.tmp rfl) (FLe.refl _) (List.Sublist.cons _ (List.Sublist.cons _ (List.Sublist.cons _ (List.Sublist.cons _ (List.Sublist.cons _ (List.Sublist.cons _ (List.Sublist.cons _ (List.Sublist.refl _)))))))) ⟨rfl, rfl⟩
  replace H := ite_f hb47 H
  refine Cd.condF rfl hb47 ?_
  refine Cd.skip ?_
  refine At.then ?_
  refine Cd.seq ?_
  refine Cd.region ?_
  refine Lst.run rfl rfl (by decide) (Ev.fieldAddr (off' := 14) rfl Try.runUnderlying54 rfl Try.sizeOf52 rfl rfl) ?_
  refine Lst.run rfl rfl (by decide) (Ev.sliceAll rfl Try.runUnderlying52 Try.sizeOf4) ?_
  obtain ⟨r66, h67, H⟩ := bind_some H
  refine Lst.call1 rfl rfl (by decide) (vs := [Sl.v (Sl.mk (some ⟨b1, 14, none⟩) 6 6), .bool false]) ⟨rfl, rfl, trivial⟩ Try.call27 (slices_Index_bool_bool_sim h67 w0 _ _ (Rd.blk (i := 6) (xs := a0.Doubt.toList) rfl ((Pulse.get_Doubt (Get.here _)).off (by rfl)) (by simp) (by decide))) ?_
  refine Lst.run rfl rfl (by decide) (Ev.assign rfl) ?_
  refine Lst.nil ?_
  refine At.then ?_
  refine Cd.seq ?_
  obtain ⟨o68, H, HKo68⟩ := bind_some H
  refine Cd.join (σ := Bool) (fun y72 => [(3, .int .i64 a3), (4, .pointer (some ⟨b1, 0, none⟩)), (10, .pointer (some ⟨b5, 0, none⟩)), (13, .pointer (some ⟨b15, 0, none⟩)), (14, Sl.v s13), (15, .int .i64 r11.2.2), (16, .pointer (some ⟨b19, 0, none⟩)), (17, .bool r17.2.1), (18, .int .i64 r17.2.2), (131, .bool y72)]) (fun y72 => (.blk b23 (enc ({ ({ Pulse.zero with Me := a1 } : Pulse) with Wait := (#v[a2, a2, a2, a2, a2, a2] : Vector Int 6) } : Pulse)) 54) :: (.blk b19 (enc r17.1) 54) :: (.blk b15 (enc r11.1) 54) :: (.own s13 3 1 (encs r11.2.1)) :: (.blk b9 (enc r7.1) 54) :: (.blk b5 (enc (Pulse.zero : Pulse)) 54) :: (.blk b1 (enc a0) 54) :: L) (fun _ y72 => y72 = o68) ?_ ?_
  · refine Cd.region ?_
    refine Lst.run rfl rfl (by decide) (Ev.move rfl) ?_
    refine Lst.run rfl rfl (by decide) (Ev.move rfl) ?_
    refine Lst.run rfl rfl (by decide) (Ev.neq rfl rfl) ?_
    refine Lst.run rfl rfl (by decide) (Ev.move rfl) ?_
    rcases Bool.eq_false_or_eq_true (r21.1 != r66) with hb69 | hb69
    · replace H := ite_t hb69 H
      refine Lst.skip rfl rfl rfl hb69 rfl (by decide) ?_
      refine Lst.skip rfl rfl rfl hb69 rfl (by decide) ?_
      refine Lst.run rfl rfl (by decide) (Ev.pickT rfl hb69 rfl) ?_
      refine Lst.nil ?_
      exact At.meet true (FLe.refl _) ⟨rfl, rfl, rfl, rfl, rfl, rfl, rfl, rfl, rfl, rfl, trivial⟩ rfl (some_inj H)
    replace H := ite_f hb69 H
    refine Lst.runG rfl rfl rfl hb69 rfl (by decide) (Ev.move rfl) ?_
    refine Lst.runG rfl rfl rfl hb69 rfl (by decide) (Ev.neq rfl rfl) ?_
    refine Lst.run rfl rfl (by decide) (Ev.pickF rfl hb69 rfl) ?_
    refine Lst.nil ?_
    exact At.meet (r21.2 != (0 : Int)) (FLe.refl _) ⟨rfl, rfl, rfl, rfl, rfl, rfl, rfl, rfl, rfl, rfl, trivial⟩ rfl (some_inj H)
  rintro F' y72 hF' hy
  subst hy
  refine Cd.fle hF' ?_
  refine Cd.as (e' := [(3, .int .i64 a3), (4, .pointer (some ⟨b1, 0, none⟩)), (10, .pointer (some ⟨b5, 0, none⟩)), (13, .pointer (some ⟨b15, 0, none⟩)), (14, Sl.v s13), (15, .int .i64 r11.2.2), (16, .pointer (some ⟨b19, 0, none⟩)), (17, .bool r17.2.1), (18, .int .i64 r17.2.2), (131, .bool y72)]) (L' := (.blk b23 (enc ({ ({ Pulse.zero with Me := a1 } : Pulse) with Wait := (#v[a2, a2, a2, a2, a2, a2] : Vector Int 6) } : Pulse)) 54) :: (.blk b19 (enc r17.1) 54) :: (.blk b15 (enc r11.1) 54) :: (.own s13 3 1 (encs r11.2.1)) :: (.blk b9 (enc r7.1) 54) :: (.blk b5 (enc (Pulse.zero : Pulse)) 54) :: (.blk b1 (enc a0) 54) :: L) ⟨rfl, rfl, rfl, rfl, rfl, rfl, rfl, rfl, rfl, rfl, trivial⟩ rfl ?_
  replace H := HKo68
  rcases Bool.eq_false_or_eq_true y72 with hb74 | hb74
  · replace H := ite_t hb74 H
    refine Cd.condT rfl hb74 ?_
    refine Cd.seq ?_
    refine Cd.region ?_
    refine Lst.run rfl rfl (by decide) (Ev.assign rfl) ?_
    refine Lst.nil ?_
    refine At.then ?_
    obtain rfl := some_inj H
    refine Cd.ret ?_
    refine At.then_ret ?_
    exact At.ret1 rfl (Res.tmp rfl) (FLe.refl _) (List.Sublist.cons _ (List.Sublist.cons _ (List.Sublist.cons _ (List.Sublist.cons _ (List.Sublist.cons _ (List.Sublist.cons _ (List.Sublist.cons _ (List.Sublist.refl _)))))))) ⟨rfl, rfl⟩
  replace H := ite_f hb74 H
  refine Cd.condF rfl hb74 ?_
  refine Cd.skip ?_
  refine At.then ?_
  refine Cd.seq ?_
  refine Cd.region ?_
  refine Lst.run rfl rfl (by decide) (Ev.loadA (i := 6) rfl rfl Try.isAgg54 Try.sizeOf54 (ch := enc a0) (Enc.len _) (Get.here _)) ?_
  refine Lst.alloc rfl rfl (by decide) Try.zeroValue54 (cs := enc Pulse.zero) rfl (fun b75 => ?_)
  refine Lst.store (i := 0) rfl rfl rfl rfl rfl Try.sizeOf54 (vs := enc a0) rfl (Enc.len _) (Enc.one _) (cs' := enc a0) (Put.here ((Enc.len _).trans (Enc.len _).symm)) (L' := (.blk b75 (enc a0) 54) :: (.blk b23 (enc ({ ({ Pulse.zero with Me := a1 } : Pulse) with Wait := (#v[a2, a2, a2, a2, a2, a2] : Vector Int 6) } : Pulse)) 54) :: (.blk b19 (enc r17.1) 54) :: (.blk b15 (enc r11.1) 54) :: (.own s13 3 1 (encs r11.2.1)) :: (.blk b9 (enc r7.1) 54) :: (.blk b5 (enc (Pulse.zero : Pulse)) 54) :: (.blk b1 (enc a0) 54) :: L) rfl ?_
  refine Lst.nil ?_
  refine At.then ?_
  refine Cd.seq ?_
  refine Cd.region ?_
  refine Lst.run rfl rfl (by decide) (Ev.fieldAddr (off' := 1) rfl Try.runUnderlying54 rfl Try.sizeOf3 rfl rfl) ?_
  refine Lst.run rfl rfl (by decide) (Ev.load (i := 0) rfl rfl Try.isAgg3 ((Pulse.get_Now (Get.here _)).off (by rfl))) ?_
  refine Lst.run rfl rfl (by decide) (Ev.add rfl rfl) ?_
  refine Lst.run rfl rfl (by decide) (Ev.fieldAddr (off' := 1) rfl Try.runUnderlying54 rfl Try.sizeOf3 rfl rfl) ?_
  obtain ⟨p77, h78, H⟩ := Let_some H
  refine Lst.store (i := 0) rfl rfl rfl rfl rfl Try.sizeOf3 (vs := [.int .i64 (w64 (a0.Now + (1 : Int)))]) rfl rfl rfl (cs' := enc p77) (by rw [← h78]; exact (Pulse.put_Now (Put.here (vs := [.int .i64 (w64 (a0.Now + (1 : Int)))]) (by rfl))).off (by rfl)) (L' := (.blk b75 (enc p77) 54) :: (.blk b23 (enc ({ ({ Pulse.zero with Me := a1 } : Pulse) with Wait := (#v[a2, a2, a2, a2, a2, a2] : Vector Int 6) } : Pulse)) 54) :: (.blk b19 (enc r17.1) 54) :: (.blk b15 (enc r11.1) 54) :: (.own s13 3 1 (encs r11.2.1)) :: (.blk b9 (enc r7.1) 54) :: (.blk b5 (enc (Pulse.zero : Pulse)) 54) :: (.blk b1 (enc a0) 54) :: L) rfl ?_
  refine Lst.nil ?_
  refine At.then ?_
  refine Cd.seq ?_
  refine Cd.region ?_
  refine Lst.run rfl rfl (by decide) (Ev.fieldAddr (off' := 0) rfl Try.runUnderlying54 rfl Try.sizeOf3 rfl rfl) ?_
  refine Lst.run rfl rfl (by decide) (Ev.load (i := 7) rfl rfl Try.isAgg3 ((Pulse.get_Me (Get.here _)).off (by rfl))) ?_
  refine Lst.run rfl rfl (by decide) (Ev.fieldAddr (off' := 1) rfl Try.runUnderlying54 rfl Try.sizeOf3 rfl rfl) ?_
  refine Lst.run rfl rfl (by decide) (Ev.load (i := 0) rfl rfl Try.isAgg3 ((Pulse.get_Now (Get.here _)).off (by rfl))) ?_
  refine Lst.run rfl rfl (by decide) (Ev.fieldAddr (off' := 2) rfl Try.runUnderlying54 rfl Try.sizeOf37 rfl rfl) ?_
  obtain ⟨x79, h80, H⟩ := bind_some H
  have g81 := vat_some h80
  refine Lst.run rfl rfl (by decide) (Ev.indexAddr (off' := 2 + a0.Me.toNat * 1) rfl rfl Try.runUnderlying37 Try.sizeOf3 g81.1 g81.2.1 rfl) ?_
  obtain ⟨p82, h83, H⟩ := Let_some H
  refine Lst.store (i := 0) rfl rfl rfl rfl rfl Try.sizeOf3 (vs := [.int .i64 p77.Now]) rfl rfl rfl (cs' := enc p82) (by rw [← h83]; exact (Pulse.put_Last (Put.vecN (s := 1) rfl g81.2.2 (Put.here (vs := [.int .i64 p77.Now]) (by rfl)))).off (by omega)) (L' := (.blk b75 (enc p82) 54) :: (.blk b23 (enc ({ ({ Pulse.zero with Me := a1 } : Pulse) with Wait := (#v[a2, a2, a2, a2, a2, a2] : Vector Int 6) } : Pulse)) 54) :: (.blk b19 (enc r17.1) 54) :: (.blk b15 (enc r11.1) 54) :: (.own s13 3 1 (encs r11.2.1)) :: (.blk b9 (enc r7.1) 54) :: (.blk b5 (enc (Pulse.zero : Pulse)) 54) :: (.blk b1 (enc a0) 54) :: L) rfl ?_
  refine Lst.nil ?_
  refine At.then ?_
  refine Cd.seq ?_
  refine Cd.region ?_
  refine Lst.addNil 3 1 ?_
  refine Lst.run rfl rfl (by decide) (Ev.assign rfl) ?_
  refine Lst.nil ?_
  refine At.then ?_
  refine Cd.seq ?_
  refine Cd.seq ?_
  refine Cd.region ?_
  refine Lst.run rfl rfl (by decide) (Ev.move rfl) ?_
  refine Lst.nil ?_
  refine At.then ?_
  refine Cd.block ?_
  obtain ⟨ol85, H, HKl85⟩ := bind_some H
  refine Cd.loop (σ := Nat × Nat × Sl × (List Int) × Pulse) (fun (i85, k85, s86, l87, y88) => [(3, .int .i64 a3), (4, .pointer (some ⟨b1, 0, none⟩)), (10, .pointer (some ⟨b5, 0, none⟩)), (13, .pointer (some ⟨b15, 0, none⟩)), (14, Sl.v s13), (15, .int .i64 r11.2.2), (16, .pointer (some ⟨b19, 0, none⟩)), (17, .bool r17.2.1), (18, .int .i64 r17.2.2), (23, .pointer (some ⟨b75, 0, none⟩)), (24, Sl.v s86), (143, .int .i64 (i85 : Int))]) (fun (i85, k85, s86, l87, y88) => (.own s86 3 1 (encs l87)) :: (.blk b75 (enc y88) 54) :: (.blk b23 (enc ({ ({ Pulse.zero with Me := a1 } : Pulse) with Wait := (#v[a2, a2, a2, a2, a2, a2] : Vector Int 6) } : Pulse)) 54) :: (.blk b19 (enc r17.1) 54) :: (.blk b15 (enc r11.1) 54) :: (.own s13 3 1 (encs r11.2.1)) :: (.blk b9 (enc r7.1) 54) :: (.blk b5 (enc (Pulse.zero : Pulse)) 54) :: (.blk b1 (enc a0) 54) :: L) (fun _ => (fun (i85, k85, s86, l87, y88) => rangeF (partlaw_PulseSays_L85 a0) k85 i85 (l87, y88) = some ol85 ∧ i85 + k85 = 6)) (fun (i85, k85, s86, l87, y88) => k85) (0, 6, Sl.nil, ([] : List Int), p82) ⟨rfl, rfl, rfl, rfl, rfl, rfl, rfl, rfl, rfl, rfl, rfl, rfl, trivial⟩ rfl ⟨H, by omega⟩ ?_
  rintro F' ⟨i85, k85, s86, l87, y88⟩ hF' ⟨H, hik85⟩
  refine Cd.fle hF' ?_
  refine Cd.as (e' := [(3, .int .i64 a3), (4, .pointer (some ⟨b1, 0, none⟩)), (10, .pointer (some ⟨b5, 0, none⟩)), (13, .pointer (some ⟨b15, 0, none⟩)), (14, Sl.v s13), (15, .int .i64 r11.2.2), (16, .pointer (some ⟨b19, 0, none⟩)), (17, .bool r17.2.1), (18, .int .i64 r17.2.2), (23, .pointer (some ⟨b75, 0, none⟩)), (24, Sl.v s86), (143, .int .i64 (i85 : Int))]) (L' := (.own s86 3 1 (encs l87)) :: (.blk b75 (enc y88) 54) :: (.blk b23 (enc ({ ({ Pulse.zero with Me := a1 } : Pulse) with Wait := (#v[a2, a2, a2, a2, a2, a2] : Vector Int 6) } : Pulse)) 54) :: (.blk b19 (enc r17.1) 54) :: (.blk b15 (enc r11.1) 54) :: (.own s13 3 1 (encs r11.2.1)) :: (.blk b9 (enc r7.1) 54) :: (.blk b5 (enc (Pulse.zero : Pulse)) 54) :: (.blk b1 (enc a0) 54) :: L) ⟨rfl, rfl, rfl, rfl, rfl, rfl, rfl, rfl, rfl, rfl, rfl, rfl, trivial⟩ rfl ?_
  rcases k85 with _ | k85
  · have hc85 : decide ((i85 : Int) < (6 : Int)) = false := decide_eq_false (by omega)
    replace H := rangeF_end H
    refine Cd.seq ?_
    refine Cd.region ?_
    refine Lst.run rfl rfl (by decide) (Ev.lss rfl rfl) ?_
    refine Lst.nil ?_
    refine At.then ?_
    refine Cd.seq ?_
    refine Cd.condF rfl hc85 ?_
    refine Cd.exit ?_
    refine At.then_exit ?_
    refine At.then_exit ?_
    refine At.in_exit ?_
    subst H
    replace H := HKl85
    refine At.then ?_
    obtain ⟨o117, H, HKo117⟩ := andThen_some H
    refine Cd.join (σ := Unit) (fun (_ : Unit) => [(3, .int .i64 a3), (4, .pointer (some ⟨b1, 0, none⟩)), (10, .pointer (some ⟨b5, 0, none⟩)), (16, .pointer (some ⟨b19, 0, none⟩)), (17, .bool r17.2.1), (18, .int .i64 r17.2.2)]) (fun (_ : Unit) => (.own s86 3 1 (encs l87)) :: (.blk b75 (enc y88) 54) :: (.blk b23 (enc ({ ({ Pulse.zero with Me := a1 } : Pulse) with Wait := (#v[a2, a2, a2, a2, a2, a2] : Vector Int 6) } : Pulse)) 54) :: (.blk b19 (enc r17.1) 54) :: (.blk b15 (enc r11.1) 54) :: (.own s13 3 1 (encs r11.2.1)) :: (.blk b9 (enc r7.1) 54) :: (.blk b5 (enc (Pulse.zero : Pulse)) 54) :: (.blk b1 (enc a0) 54) :: L) (fun _ (_ : Unit) => .inl () = o117) ?_ ?_
    · refine Cd.seq ?_
      refine Cd.region ?_
      refine Lst.run rfl rfl (by decide) (Ev.fieldAddr (off' := 1) rfl Try.runUnderlying54 rfl Try.sizeOf3 rfl rfl) ?_
      refine Lst.run rfl rfl (by decide) (Ev.load (i := 8) rfl rfl Try.isAgg3 ((Pulse.get_Now (Get.here _)).off (by rfl))) ?_
      refine Lst.run rfl rfl (by decide) (Ev.eql rfl rfl) ?_
      refine Lst.nil ?_
      refine At.then ?_
      rcases Bool.eq_false_or_eq_true (a0.Now == (16777215 : Int)) with hb118 | hb118
      · replace H := ite_t hb118 H
        refine Cd.condT rfl hb118 ?_
        obtain ⟨o119, H, HKo119⟩ := bind_some H
        refine Cd.join (σ := Bool) (fun y125 => [(3, .int .i64 a3), (4, .pointer (some ⟨b1, 0, none⟩)), (10, .pointer (some ⟨b5, 0, none⟩)), (16, .pointer (some ⟨b19, 0, none⟩)), (17, .bool r17.2.1), (18, .int .i64 r17.2.2), (193, .bool y125)]) (fun y125 => (.own s86 3 1 (encs l87)) :: (.blk b75 (enc y88) 54) :: (.blk b23 (enc ({ ({ Pulse.zero with Me := a1 } : Pulse) with Wait := (#v[a2, a2, a2, a2, a2, a2] : Vector Int 6) } : Pulse)) 54) :: (.blk b19 (enc r17.1) 54) :: (.blk b15 (enc r11.1) 54) :: (.own s13 3 1 (encs r11.2.1)) :: (.blk b9 (enc r7.1) 54) :: (.blk b5 (enc (Pulse.zero : Pulse)) 54) :: (.blk b1 (enc a0) 54) :: L) (fun _ y125 => y125 = o119) ?_ ?_
        · refine Cd.region ?_
          refine Lst.run rfl rfl (by decide) (Ev.loadA (i := 4) rfl rfl Try.isAgg54 Try.sizeOf54 (ch := enc r11.1) (Enc.len _) (Get.here _)) ?_
          refine Lst.run rfl rfl (by decide) (Ev.loadA (i := 7) rfl rfl Try.isAgg54 Try.sizeOf54 (ch := enc (Pulse.zero : Pulse)) (Enc.len _) (Get.here _)) ?_
          refine Lst.run rfl rfl (by decide) (Ev.neqA rfl rfl (by kernel_rfl) (eq54 _ _)) ?_
          refine Lst.run rfl rfl (by decide) (Ev.move rfl) ?_
          rcases Bool.eq_false_or_eq_true (!(decide (r11.1 = (Pulse.zero : Pulse)))) with hb120 | hb120
          · replace H := ite_t hb120 H
            refine Lst.skip rfl rfl rfl hb120 rfl (by decide) ?_
            refine Lst.skip rfl rfl rfl hb120 rfl (by decide) ?_
            refine Lst.skip rfl rfl rfl hb120 rfl (by decide) ?_
            refine Lst.run rfl rfl (by decide) (Ev.pickT rfl hb120 rfl) ?_
            refine Lst.run rfl rfl (by decide) (Ev.move rfl) ?_
            refine Lst.skip rfl rfl rfl rfl rfl (by decide) ?_
            refine Lst.skip rfl rfl rfl rfl rfl (by decide) ?_
            refine Lst.run rfl rfl (by decide) (Ev.pickT rfl rfl rfl) ?_
            refine Lst.nil ?_
            exact At.meet true (FLe.refl _) ⟨rfl, rfl, rfl, rfl, rfl, rfl, rfl, trivial⟩ rfl (some_inj H)
          replace H := ite_f hb120 H
          refine Lst.runG rfl rfl rfl hb120 rfl (by decide) (Ev.move rfl) ?_
          refine Lst.runG rfl rfl rfl hb120 rfl (by decide) (Ev.lenS (α := Int) (by decide) rfl rfl Try.runUnderlying24 (Rd.own (i := 5) rfl rfl rfl)) ?_
          refine Lst.runG rfl rfl rfl hb120 rfl (by decide) (Ev.gtr rfl rfl) ?_
          refine Lst.run rfl rfl (by decide) (Ev.pickF rfl hb120 rfl) ?_
          refine Lst.run rfl rfl (by decide) (Ev.move rfl) ?_
          rcases Bool.eq_false_or_eq_true (decide ((r11.2.1.length : Int) > (0 : Int))) with hb122 | hb122
          · replace H := ite_t hb122 H
            refine Lst.skip rfl rfl rfl hb122 rfl (by decide) ?_
            refine Lst.skip rfl rfl rfl hb122 rfl (by decide) ?_
            refine Lst.run rfl rfl (by decide) (Ev.pickT rfl hb122 rfl) ?_
            refine Lst.nil ?_
            exact At.meet true (FLe.refl _) ⟨rfl, rfl, rfl, rfl, rfl, rfl, rfl, trivial⟩ rfl (some_inj H)
          replace H := ite_f hb122 H
          refine Lst.runG rfl rfl rfl hb122 rfl (by decide) (Ev.move rfl) ?_
          refine Lst.runG rfl rfl rfl hb122 rfl (by decide) (Ev.neq rfl rfl) ?_
          refine Lst.run rfl rfl (by decide) (Ev.pickF rfl hb122 rfl) ?_
          refine Lst.nil ?_
          exact At.meet (r11.2.2 != (8 : Int)) (FLe.refl _) ⟨rfl, rfl, rfl, rfl, rfl, rfl, rfl, trivial⟩ rfl (some_inj H)
        rintro F' y125 hF' hy
        subst hy
        refine Cd.fle hF' ?_
        refine Cd.as (e' := [(3, .int .i64 a3), (4, .pointer (some ⟨b1, 0, none⟩)), (10, .pointer (some ⟨b5, 0, none⟩)), (16, .pointer (some ⟨b19, 0, none⟩)), (17, .bool r17.2.1), (18, .int .i64 r17.2.2), (193, .bool y125)]) (L' := (.own s86 3 1 (encs l87)) :: (.blk b75 (enc y88) 54) :: (.blk b23 (enc ({ ({ Pulse.zero with Me := a1 } : Pulse) with Wait := (#v[a2, a2, a2, a2, a2, a2] : Vector Int 6) } : Pulse)) 54) :: (.blk b19 (enc r17.1) 54) :: (.blk b15 (enc r11.1) 54) :: (.own s13 3 1 (encs r11.2.1)) :: (.blk b9 (enc r7.1) 54) :: (.blk b5 (enc (Pulse.zero : Pulse)) 54) :: (.blk b1 (enc a0) 54) :: L) ⟨rfl, rfl, rfl, rfl, rfl, rfl, rfl, trivial⟩ rfl ?_
        replace H := HKo119
        rcases Bool.eq_false_or_eq_true y125 with hb127 | hb127
        · replace H := ite_t hb127 H
          refine Cd.condT rfl hb127 ?_
          refine Cd.seq ?_
          refine Cd.region ?_
          refine Lst.run rfl rfl (by decide) (Ev.assign rfl) ?_
          refine Lst.nil ?_
          refine At.then ?_
          obtain rfl := some_inj H
          replace H := HKo117
          obtain rfl := some_inj H
          refine Cd.ret ?_
          refine At.then_ret ?_
          exact At.ret1 rfl (Res.tmp rfl) (FLe.refl _) (List.Sublist.cons _ (List.Sublist.cons _ (List.Sublist.cons _ (List.Sublist.cons _ (List.Sublist.cons _ (List.Sublist.cons _ (List.Sublist.cons _ (List.Sublist.cons _ (List.Sublist.cons _ (List.Sublist.refl _)))))))))) ⟨rfl, rfl⟩
        replace H := ite_f hb127 H
        refine Cd.condF rfl hb127 ?_
        refine Cd.skip ?_
        exact At.meet () (FLe.refl _) ⟨rfl, rfl, rfl, rfl, rfl, rfl, trivial⟩ rfl (some_inj H)
      replace H := ite_f hb118 H
      refine Cd.condF rfl hb118 ?_
      obtain ⟨o128, H, HKo128⟩ := bind_some H
      refine Cd.join (σ := Bool) (fun y136 => [(3, .int .i64 a3), (4, .pointer (some ⟨b1, 0, none⟩)), (10, .pointer (some ⟨b5, 0, none⟩)), (16, .pointer (some ⟨b19, 0, none⟩)), (17, .bool r17.2.1), (18, .int .i64 r17.2.2), (206, .bool y136)]) (fun y136 => (.own s86 3 1 (encs l87)) :: (.blk b75 (enc y88) 54) :: (.blk b23 (enc ({ ({ Pulse.zero with Me := a1 } : Pulse) with Wait := (#v[a2, a2, a2, a2, a2, a2] : Vector Int 6) } : Pulse)) 54) :: (.blk b19 (enc r17.1) 54) :: (.blk b15 (enc r11.1) 54) :: (.own s13 3 1 (encs r11.2.1)) :: (.blk b9 (enc r7.1) 54) :: (.blk b5 (enc (Pulse.zero : Pulse)) 54) :: (.blk b1 (enc a0) 54) :: L) (fun _ y136 => y136 = o128) ?_ ?_
      · refine Cd.region ?_
        refine Lst.run rfl rfl (by decide) (Ev.loadA (i := 4) rfl rfl Try.isAgg54 Try.sizeOf54 (ch := enc r11.1) (Enc.len _) (Get.here _)) ?_
        refine Lst.run rfl rfl (by decide) (Ev.loadA (i := 1) rfl rfl Try.isAgg54 Try.sizeOf54 (ch := enc y88) (Enc.len _) (Get.here _)) ?_
        refine Lst.run rfl rfl (by decide) (Ev.neqA rfl rfl (by kernel_rfl) (eq54 _ _)) ?_
        refine Lst.run rfl rfl (by decide) (Ev.move rfl) ?_
        rcases Bool.eq_false_or_eq_true (!(decide (r11.1 = y88))) with hb129 | hb129
        · replace H := ite_t hb129 H
          refine Lst.skip rfl rfl rfl hb129 rfl (by decide) ?_
          refine Lst.skip rfl rfl rfl hb129 rfl (by decide) ?_
          refine Lst.skip rfl rfl rfl hb129 rfl (by decide) ?_
          refine Lst.skip rfl rfl rfl hb129 rfl (by decide) ?_
          refine Lst.run rfl rfl (by decide) (Ev.pickT rfl hb129 rfl) ?_
          refine Lst.run rfl rfl (by decide) (Ev.move rfl) ?_
          refine Lst.skip rfl rfl rfl rfl rfl (by decide) ?_
          refine Lst.skip rfl rfl rfl rfl rfl (by decide) ?_
          refine Lst.run rfl rfl (by decide) (Ev.pickT rfl rfl rfl) ?_
          refine Lst.nil ?_
          exact At.meet true (FLe.refl _) ⟨rfl, rfl, rfl, rfl, rfl, rfl, rfl, trivial⟩ rfl (some_inj H)
        replace H := ite_f hb129 H
        refine Lst.runG rfl rfl rfl hb129 rfl (by decide) (Ev.move rfl) ?_
        refine Lst.runG rfl rfl rfl hb129 rfl (by decide) (Ev.move rfl) ?_
        obtain ⟨r131, h132, H⟩ := bind_some H
        refine Lst.call1G rfl rfl rfl hb129 rfl (by decide) (vs := [Sl.v s13, Sl.v s86]) ⟨rfl, rfl, trivial⟩ Try.call28 (slices_Equal_int_int_sim h132 w0 _ _ (Rd.own (i := 5) rfl rfl rfl) (Rd.own (i := 0) rfl rfl rfl)) ?_
        refine Lst.runG rfl rfl rfl hb129 rfl (by decide) (Ev.not rfl) ?_
        refine Lst.run rfl rfl (by decide) (Ev.pickF rfl hb129 rfl) ?_
        refine Lst.run rfl rfl (by decide) (Ev.move rfl) ?_
        rcases Bool.eq_false_or_eq_true (!r131) with hb133 | hb133
        · replace H := ite_t hb133 H
          refine Lst.skip rfl rfl rfl hb133 rfl (by decide) ?_
          refine Lst.skip rfl rfl rfl hb133 rfl (by decide) ?_
          refine Lst.run rfl rfl (by decide) (Ev.pickT rfl hb133 rfl) ?_
          refine Lst.nil ?_
          exact At.meet true (FLe.refl _) ⟨rfl, rfl, rfl, rfl, rfl, rfl, rfl, trivial⟩ rfl (some_inj H)
        replace H := ite_f hb133 H
        refine Lst.runG rfl rfl rfl hb133 rfl (by decide) (Ev.move rfl) ?_
        refine Lst.runG rfl rfl rfl hb133 rfl (by decide) (Ev.neq rfl rfl) ?_
        refine Lst.run rfl rfl (by decide) (Ev.pickF rfl hb133 rfl) ?_
        refine Lst.nil ?_
        exact At.meet (r11.2.2 != (0 : Int)) (FLe.refl _) ⟨rfl, rfl, rfl, rfl, rfl, rfl, rfl, trivial⟩ rfl (some_inj H)
      rintro F' y136 hF' hy
      subst hy
      refine Cd.fle hF' ?_
      refine Cd.as (e' := [(3, .int .i64 a3), (4, .pointer (some ⟨b1, 0, none⟩)), (10, .pointer (some ⟨b5, 0, none⟩)), (16, .pointer (some ⟨b19, 0, none⟩)), (17, .bool r17.2.1), (18, .int .i64 r17.2.2), (206, .bool y136)]) (L' := (.own s86 3 1 (encs l87)) :: (.blk b75 (enc y88) 54) :: (.blk b23 (enc ({ ({ Pulse.zero with Me := a1 } : Pulse) with Wait := (#v[a2, a2, a2, a2, a2, a2] : Vector Int 6) } : Pulse)) 54) :: (.blk b19 (enc r17.1) 54) :: (.blk b15 (enc r11.1) 54) :: (.own s13 3 1 (encs r11.2.1)) :: (.blk b9 (enc r7.1) 54) :: (.blk b5 (enc (Pulse.zero : Pulse)) 54) :: (.blk b1 (enc a0) 54) :: L) ⟨rfl, rfl, rfl, rfl, rfl, rfl, rfl, trivial⟩ rfl ?_
      replace H := HKo128
      rcases Bool.eq_false_or_eq_true y136 with hb138 | hb138
      · replace H := ite_t hb138 H
        refine Cd.condT rfl hb138 ?_
        refine Cd.seq ?_
        refine Cd.region ?_
        refine Lst.run rfl rfl (by decide) (Ev.assign rfl) ?_
        refine Lst.nil ?_
        refine At.then ?_
        obtain rfl := some_inj H
        replace H := HKo117
        obtain rfl := some_inj H
        refine Cd.ret ?_
        refine At.then_ret ?_
        exact At.ret1 rfl (Res.tmp rfl) (FLe.refl _) (List.Sublist.cons _ (List.Sublist.cons _ (List.Sublist.cons _ (List.Sublist.cons _ (List.Sublist.cons _ (List.Sublist.cons _ (List.Sublist.cons _ (List.Sublist.cons _ (List.Sublist.cons _ (List.Sublist.refl _)))))))))) ⟨rfl, rfl⟩
      replace H := ite_f hb138 H
      refine Cd.condF rfl hb138 ?_
      refine Cd.skip ?_
      exact At.meet () (FLe.refl _) ⟨rfl, rfl, rfl, rfl, rfl, rfl, trivial⟩ rfl (some_inj H)
    rintro F' _u hF' hy
    subst hy
    refine Cd.fle hF' ?_
    refine Cd.as (e' := [(3, .int .i64 a3), (4, .pointer (some ⟨b1, 0, none⟩)), (10, .pointer (some ⟨b5, 0, none⟩)), (16, .pointer (some ⟨b19, 0, none⟩)), (17, .bool r17.2.1), (18, .int .i64 r17.2.2)]) (L' := (.own s86 3 1 (encs l87)) :: (.blk b75 (enc y88) 54) :: (.blk b23 (enc ({ ({ Pulse.zero with Me := a1 } : Pulse) with Wait := (#v[a2, a2, a2, a2, a2, a2] : Vector Int 6) } : Pulse)) 54) :: (.blk b19 (enc r17.1) 54) :: (.blk b15 (enc r11.1) 54) :: (.own s13 3 1 (encs r11.2.1)) :: (.blk b9 (enc r7.1) 54) :: (.blk b5 (enc (Pulse.zero : Pulse)) 54) :: (.blk b1 (enc a0) 54) :: L) ⟨rfl, rfl, rfl, rfl, rfl, rfl, trivial⟩ rfl ?_
    replace H := HKo117
    refine Cd.seq ?_
    obtain ⟨o140, H, HKo140⟩ := bind_some H
    refine Cd.join (σ := Bool) (fun y146 => [(3, .int .i64 a3), (4, .pointer (some ⟨b1, 0, none⟩)), (10, .pointer (some ⟨b5, 0, none⟩)), (16, .pointer (some ⟨b19, 0, none⟩)), (17, .bool r17.2.1), (18, .int .i64 r17.2.2), (218, .bool y146)]) (fun y146 => (.own s86 3 1 (encs l87)) :: (.blk b75 (enc y88) 54) :: (.blk b23 (enc ({ ({ Pulse.zero with Me := a1 } : Pulse) with Wait := (#v[a2, a2, a2, a2, a2, a2] : Vector Int 6) } : Pulse)) 54) :: (.blk b19 (enc r17.1) 54) :: (.blk b15 (enc r11.1) 54) :: (.own s13 3 1 (encs r11.2.1)) :: (.blk b9 (enc r7.1) 54) :: (.blk b5 (enc (Pulse.zero : Pulse)) 54) :: (.blk b1 (enc a0) 54) :: L) (fun _ y146 => y146 = o140) ?_ ?_
    · refine Cd.region ?_
      refine Lst.run rfl rfl (by decide) (Ev.move rfl) ?_
      refine Lst.run rfl rfl (by decide) (Ev.lss rfl rfl) ?_
      refine Lst.run rfl rfl (by decide) (Ev.move rfl) ?_
      rcases Bool.eq_false_or_eq_true (decide (a3 < (0 : Int))) with hb141 | hb141
      · replace H := ite_t hb141 H
        refine Lst.skip rfl rfl rfl hb141 rfl (by decide) ?_
        refine Lst.skip rfl rfl rfl hb141 rfl (by decide) ?_
        refine Lst.run rfl rfl (by decide) (Ev.pickT rfl hb141 rfl) ?_
        refine Lst.run rfl rfl (by decide) (Ev.move rfl) ?_
        refine Lst.skip rfl rfl rfl rfl rfl (by decide) ?_
        refine Lst.skip rfl rfl rfl rfl rfl (by decide) ?_
        refine Lst.skip rfl rfl rfl rfl rfl (by decide) ?_
        refine Lst.skip rfl rfl rfl rfl rfl (by decide) ?_
        refine Lst.run rfl rfl (by decide) (Ev.pickT rfl rfl rfl) ?_
        refine Lst.nil ?_
        exact At.meet true (FLe.refl _) ⟨rfl, rfl, rfl, rfl, rfl, rfl, rfl, trivial⟩ rfl (some_inj H)
      replace H := ite_f hb141 H
      refine Lst.runG rfl rfl rfl hb141 rfl (by decide) (Ev.move rfl) ?_
      refine Lst.runG rfl rfl rfl hb141 rfl (by decide) (Ev.gtr rfl rfl) ?_
      refine Lst.run rfl rfl (by decide) (Ev.pickF rfl hb141 rfl) ?_
      refine Lst.run rfl rfl (by decide) (Ev.move rfl) ?_
      rcases Bool.eq_false_or_eq_true (decide (a3 > (5 : Int))) with hb143 | hb143
      · replace H := ite_t hb143 H
        refine Lst.skip rfl rfl rfl hb143 rfl (by decide) ?_
        refine Lst.skip rfl rfl rfl hb143 rfl (by decide) ?_
        refine Lst.skip rfl rfl rfl hb143 rfl (by decide) ?_
        refine Lst.skip rfl rfl rfl hb143 rfl (by decide) ?_
        refine Lst.run rfl rfl (by decide) (Ev.pickT rfl hb143 rfl) ?_
        refine Lst.nil ?_
        exact At.meet true (FLe.refl _) ⟨rfl, rfl, rfl, rfl, rfl, rfl, rfl, trivial⟩ rfl (some_inj H)
      replace H := ite_f hb143 H
      refine Lst.runG rfl rfl rfl hb143 rfl (by decide) (Ev.move rfl) ?_
      refine Lst.runG rfl rfl rfl hb143 rfl (by decide) (Ev.fieldAddr (off' := 0) rfl Try.runUnderlying54 rfl Try.sizeOf3 rfl rfl) ?_
      refine Lst.runG rfl rfl rfl hb143 rfl (by decide) (Ev.load (i := 8) rfl rfl Try.isAgg3 ((Pulse.get_Me (Get.here _)).off (by rfl))) ?_
      refine Lst.runG rfl rfl rfl hb143 rfl (by decide) (Ev.eql rfl rfl) ?_
      refine Lst.run rfl rfl (by decide) (Ev.pickF rfl hb143 rfl) ?_
      refine Lst.nil ?_
      exact At.meet (a3 == a0.Me) (FLe.refl _) ⟨rfl, rfl, rfl, rfl, rfl, rfl, rfl, trivial⟩ rfl (some_inj H)
    rintro F' y146 hF' hy
    subst hy
    refine Cd.fle hF' ?_
    refine Cd.as (e' := [(3, .int .i64 a3), (4, .pointer (some ⟨b1, 0, none⟩)), (10, .pointer (some ⟨b5, 0, none⟩)), (16, .pointer (some ⟨b19, 0, none⟩)), (17, .bool r17.2.1), (18, .int .i64 r17.2.2), (218, .bool y146)]) (L' := (.own s86 3 1 (encs l87)) :: (.blk b75 (enc y88) 54) :: (.blk b23 (enc ({ ({ Pulse.zero with Me := a1 } : Pulse) with Wait := (#v[a2, a2, a2, a2, a2, a2] : Vector Int 6) } : Pulse)) 54) :: (.blk b19 (enc r17.1) 54) :: (.blk b15 (enc r11.1) 54) :: (.own s13 3 1 (encs r11.2.1)) :: (.blk b9 (enc r7.1) 54) :: (.blk b5 (enc (Pulse.zero : Pulse)) 54) :: (.blk b1 (enc a0) 54) :: L) ⟨rfl, rfl, rfl, rfl, rfl, rfl, rfl, trivial⟩ rfl ?_
    replace H := HKo140
    rcases Bool.eq_false_or_eq_true y146 with hb148 | hb148
    · replace H := ite_t hb148 H
      refine Cd.condT rfl hb148 ?_
      obtain ⟨o149, H, HKo149⟩ := bind_some H
      refine Cd.join (σ := Bool) (fun y155 => [(8, .bool y155)]) (fun y155 => (.own s86 3 1 (encs l87)) :: (.blk b75 (enc y88) 54) :: (.blk b23 (enc ({ ({ Pulse.zero with Me := a1 } : Pulse) with Wait := (#v[a2, a2, a2, a2, a2, a2] : Vector Int 6) } : Pulse)) 54) :: (.blk b19 (enc r17.1) 54) :: (.blk b15 (enc r11.1) 54) :: (.own s13 3 1 (encs r11.2.1)) :: (.blk b9 (enc r7.1) 54) :: (.blk b5 (enc (Pulse.zero : Pulse)) 54) :: (.blk b1 (enc a0) 54) :: L) (fun _ y155 => y155 = o149) ?_ ?_
      · refine Cd.region ?_
        refine Lst.run rfl rfl (by decide) (Ev.loadA (i := 3) rfl rfl Try.isAgg54 Try.sizeOf54 (ch := enc r17.1) (Enc.len _) (Get.here _)) ?_
        refine Lst.run rfl rfl (by decide) (Ev.loadA (i := 7) rfl rfl Try.isAgg54 Try.sizeOf54 (ch := enc (Pulse.zero : Pulse)) (Enc.len _) (Get.here _)) ?_
        refine Lst.run rfl rfl (by decide) (Ev.eqlA rfl rfl (by kernel_rfl) (eq54 _ _)) ?_
        refine Lst.run rfl rfl (by decide) (Ev.move rfl) ?_
        rcases (Bool.eq_false_or_eq_true (decide (r17.1 = (Pulse.zero : Pulse)))).symm with hb150 | hb150
        · replace H := ite_f hb150 H
          refine Lst.skip rfl rfl rfl hb150 rfl (by decide) ?_
          refine Lst.skip rfl rfl rfl hb150 rfl (by decide) ?_
          refine Lst.run rfl rfl (by decide) (Ev.pickF rfl hb150 rfl) ?_
          refine Lst.run rfl rfl (by decide) (Ev.move rfl) ?_
          refine Lst.skip rfl rfl rfl rfl rfl (by decide) ?_
          refine Lst.skip rfl rfl rfl rfl rfl (by decide) ?_
          refine Lst.run rfl rfl (by decide) (Ev.pickF rfl rfl rfl) ?_
          refine Lst.run rfl rfl (by decide) (Ev.assign rfl) ?_
          refine Lst.nil ?_
          exact At.meet false (FLe.refl _) ⟨rfl, trivial⟩ rfl (some_inj H)
        replace H := ite_t hb150 H
        refine Lst.runG rfl rfl rfl hb150 rfl (by decide) (Ev.move rfl) ?_
        refine Lst.runG rfl rfl rfl hb150 rfl (by decide) (Ev.not rfl) ?_
        refine Lst.run rfl rfl (by decide) (Ev.pickT rfl hb150 rfl) ?_
        refine Lst.run rfl rfl (by decide) (Ev.move rfl) ?_
        rcases (Bool.eq_false_or_eq_true (!r17.2.1)).symm with hb152 | hb152
        · replace H := ite_f hb152 H
          refine Lst.skip rfl rfl rfl hb152 rfl (by decide) ?_
          refine Lst.skip rfl rfl rfl hb152 rfl (by decide) ?_
          refine Lst.run rfl rfl (by decide) (Ev.pickF rfl hb152 rfl) ?_
          refine Lst.run rfl rfl (by decide) (Ev.assign rfl) ?_
          refine Lst.nil ?_
          exact At.meet false (FLe.refl _) ⟨rfl, trivial⟩ rfl (some_inj H)
        replace H := ite_t hb152 H
        refine Lst.runG rfl rfl rfl hb152 rfl (by decide) (Ev.move rfl) ?_
        refine Lst.runG rfl rfl rfl hb152 rfl (by decide) (Ev.eql rfl rfl) ?_
        refine Lst.run rfl rfl (by decide) (Ev.pickT rfl hb152 rfl) ?_
        refine Lst.run rfl rfl (by decide) (Ev.assign rfl) ?_
        refine Lst.nil ?_
        exact At.meet (r17.2.2 == (1 : Int)) (FLe.refl _) ⟨rfl, trivial⟩ rfl (some_inj H)
      rintro F' y155 hF' hy
      subst hy
      refine Cd.fle hF' ?_
      refine Cd.as (e' := [(8, .bool y155)]) (L' := (.own s86 3 1 (encs l87)) :: (.blk b75 (enc y88) 54) :: (.blk b23 (enc ({ ({ Pulse.zero with Me := a1 } : Pulse) with Wait := (#v[a2, a2, a2, a2, a2, a2] : Vector Int 6) } : Pulse)) 54) :: (.blk b19 (enc r17.1) 54) :: (.blk b15 (enc r11.1) 54) :: (.own s13 3 1 (encs r11.2.1)) :: (.blk b9 (enc r7.1) 54) :: (.blk b5 (enc (Pulse.zero : Pulse)) 54) :: (.blk b1 (enc a0) 54) :: L) ⟨rfl, trivial⟩ rfl ?_
      replace H := HKo149
      obtain rfl := some_inj H
      refine Cd.ret ?_
      refine At.then_ret ?_
      exact At.ret1 rfl (Res.tmp rfl) (FLe.refl _) (List.Sublist.cons _ (List.Sublist.cons _ (List.Sublist.cons _ (List.Sublist.cons _ (List.Sublist.cons _ (List.Sublist.cons _ (List.Sublist.cons _ (List.Sublist.cons _ (List.Sublist.cons _ (List.Sublist.refl _)))))))))) ⟨rfl, rfl⟩
    replace H := ite_f hb148 H
    refine Cd.condF rfl hb148 ?_
    refine Cd.skip ?_
    refine At.then ?_
    refine Cd.seq ?_
    refine Cd.region ?_
    refine Lst.run rfl rfl (by decide) (Ev.loadA (i := 8) rfl rfl Try.isAgg54 Try.sizeOf54 (ch := enc a0) (Enc.len _) (Get.here _)) ?_
    refine Lst.alloc rfl rfl (by decide) Try.zeroValue54 (cs := enc Pulse.zero) rfl (fun b157 => ?_)
    refine Lst.store (i := 0) rfl rfl rfl rfl rfl Try.sizeOf54 (vs := enc a0) rfl (Enc.len _) (Enc.one _) (cs' := enc a0) (Put.here ((Enc.len _).trans (Enc.len _).symm)) (L' := (.blk b157 (enc a0) 54) :: (.own s86 3 1 (encs l87)) :: (.blk b75 (enc y88) 54) :: (.blk b23 (enc ({ ({ Pulse.zero with Me := a1 } : Pulse) with Wait := (#v[a2, a2, a2, a2, a2, a2] : Vector Int 6) } : Pulse)) 54) :: (.blk b19 (enc r17.1) 54) :: (.blk b15 (enc r11.1) 54) :: (.own s13 3 1 (encs r11.2.1)) :: (.blk b9 (enc r7.1) 54) :: (.blk b5 (enc (Pulse.zero : Pulse)) 54) :: (.blk b1 (enc a0) 54) :: L) rfl ?_
    refine Lst.nil ?_
    refine At.then ?_
    refine Cd.seq ?_
    refine Cd.region ?_
    refine Lst.run rfl rfl (by decide) (Ev.move rfl) ?_
    refine Lst.run rfl rfl (by decide) (Ev.fieldAddr (off' := 1) rfl Try.runUnderlying54 rfl Try.sizeOf3 rfl rfl) ?_
    refine Lst.run rfl rfl (by decide) (Ev.load (i := 9) rfl rfl Try.isAgg3 ((Pulse.get_Now (Get.here _)).off (by rfl))) ?_
    refine Lst.run rfl rfl (by decide) (Ev.fieldAddr (off' := 2) rfl Try.runUnderlying54 rfl Try.sizeOf37 rfl rfl) ?_
    obtain ⟨x159, h160, H⟩ := bind_some H
    have g161 := vat_some h160
    refine Lst.run rfl rfl (by decide) (Ev.indexAddr (off' := 2 + a3.toNat * 1) rfl rfl Try.runUnderlying37 Try.sizeOf3 g161.1 g161.2.1 rfl) ?_
    obtain ⟨p162, h163, H⟩ := Let_some H
    refine Lst.store (i := 0) rfl rfl rfl rfl rfl Try.sizeOf3 (vs := [.int .i64 a0.Now]) rfl rfl rfl (cs' := enc p162) (by rw [← h163]; exact (Pulse.put_Last (Put.vecN (s := 1) rfl g161.2.2 (Put.here (vs := [.int .i64 a0.Now]) (by rfl)))).off (by omega)) (L' := (.blk b157 (enc p162) 54) :: (.own s86 3 1 (encs l87)) :: (.blk b75 (enc y88) 54) :: (.blk b23 (enc ({ ({ Pulse.zero with Me := a1 } : Pulse) with Wait := (#v[a2, a2, a2, a2, a2, a2] : Vector Int 6) } : Pulse)) 54) :: (.blk b19 (enc r17.1) 54) :: (.blk b15 (enc r11.1) 54) :: (.own s13 3 1 (encs r11.2.1)) :: (.blk b9 (enc r7.1) 54) :: (.blk b5 (enc (Pulse.zero : Pulse)) 54) :: (.blk b1 (enc a0) 54) :: L) rfl ?_
    refine Lst.nil ?_
    refine At.then ?_
    obtain ⟨o164, H, HKo164⟩ := bind_some H
    refine Cd.join (σ := Pulse) (fun y184 => [(3, .int .i64 a3), (4, .pointer (some ⟨b1, 0, none⟩)), (16, .pointer (some ⟨b19, 0, none⟩)), (17, .bool r17.2.1), (18, .int .i64 r17.2.2), (26, .pointer (some ⟨b157, 0, none⟩))]) (fun y184 => (.blk b157 (enc y184) 54) :: (.own s86 3 1 (encs l87)) :: (.blk b75 (enc y88) 54) :: (.blk b23 (enc ({ ({ Pulse.zero with Me := a1 } : Pulse) with Wait := (#v[a2, a2, a2, a2, a2, a2] : Vector Int 6) } : Pulse)) 54) :: (.blk b19 (enc r17.1) 54) :: (.blk b15 (enc r11.1) 54) :: (.own s13 3 1 (encs r11.2.1)) :: (.blk b9 (enc r7.1) 54) :: (.blk b5 (enc (Pulse.zero : Pulse)) 54) :: (.blk b1 (enc a0) 54) :: L) (fun _ y184 => y184 = o164) ?_ ?_
    · refine Cd.seq ?_
      refine Cd.region ?_
      refine Lst.run rfl rfl (by decide) (Ev.move rfl) ?_
      refine Lst.run rfl rfl (by decide) (Ev.fieldAddr (off' := 14) rfl Try.runUnderlying54 rfl Try.sizeOf52 rfl rfl) ?_
      obtain ⟨x165, h166, H⟩ := bind_some H
      have g167 := vat_some h166
      refine Lst.run rfl rfl (by decide) (Ev.indexAddr (off' := 14 + a3.toNat * 1) rfl rfl Try.runUnderlying52 Try.sizeOf4 g167.1 g167.2.1 rfl) ?_
      refine Lst.run rfl rfl (by decide) (Ev.load (i := 9) rfl rfl Try.isAgg4 ((Pulse.get_Doubt (Get.vecN (s := 1) rfl g167.2.2 (Get.here _))).off (by omega))) ?_
      refine Lst.nil ?_
      refine At.then ?_
      rcases (Bool.eq_false_or_eq_true x165).symm with hb168 | hb168
      · replace H := ite_f hb168 H
        refine Cd.condF rfl hb168 ?_
        refine Cd.skip ?_
        exact At.meet p162 (FLe.refl _) ⟨rfl, rfl, rfl, rfl, rfl, rfl, trivial⟩ rfl (some_inj H)
      replace H := ite_t hb168 H
      refine Cd.condT rfl hb168 ?_
      refine Cd.seq ?_
      refine Cd.region ?_
      refine Lst.run rfl rfl (by decide) (Ev.move rfl) ?_
      refine Lst.run rfl rfl (by decide) (Ev.fieldAddr (off' := 14) rfl Try.runUnderlying54 rfl Try.sizeOf52 rfl rfl) ?_
      obtain ⟨x170, h171, H⟩ := bind_some H
      have g172 := vat_some h171
      refine Lst.run rfl rfl (by decide) (Ev.indexAddr (off' := 14 + a3.toNat * 1) rfl rfl Try.runUnderlying52 Try.sizeOf4 g172.1 g172.2.1 rfl) ?_
      obtain ⟨p173, h174, H⟩ := Let_some H
      refine Lst.store (i := 0) rfl rfl rfl rfl rfl Try.sizeOf4 (vs := [.bool false]) rfl rfl rfl (cs' := enc p173) (by rw [← h174]; exact (Pulse.put_Doubt (Put.vecN (s := 1) rfl g172.2.2 (Put.here (vs := [.bool false]) (by rfl)))).off (by omega)) (L' := (.blk b157 (enc p173) 54) :: (.own s86 3 1 (encs l87)) :: (.blk b75 (enc y88) 54) :: (.blk b23 (enc ({ ({ Pulse.zero with Me := a1 } : Pulse) with Wait := (#v[a2, a2, a2, a2, a2, a2] : Vector Int 6) } : Pulse)) 54) :: (.blk b19 (enc r17.1) 54) :: (.blk b15 (enc r11.1) 54) :: (.own s13 3 1 (encs r11.2.1)) :: (.blk b9 (enc r7.1) 54) :: (.blk b5 (enc (Pulse.zero : Pulse)) 54) :: (.blk b1 (enc a0) 54) :: L) rfl ?_
      refine Lst.nil ?_
      refine At.then ?_
      refine Cd.as (e' := [(3, .int .i64 a3), (4, .pointer (some ⟨b1, 0, none⟩)), (16, .pointer (some ⟨b19, 0, none⟩)), (17, .bool r17.2.1), (18, .int .i64 r17.2.2), (26, .pointer (some ⟨b157, 0, none⟩))]) (L' := (.blk b157 (enc p173) 54) :: (.own s86 3 1 (encs l87)) :: (.blk b75 (enc y88) 54) :: (.blk b23 (enc ({ ({ Pulse.zero with Me := a1 } : Pulse) with Wait := (#v[a2, a2, a2, a2, a2, a2] : Vector Int 6) } : Pulse)) 54) :: (.blk b19 (enc r17.1) 54) :: (.blk b15 (enc r11.1) 54) :: (.own s13 3 1 (encs r11.2.1)) :: (.blk b9 (enc r7.1) 54) :: (.blk b5 (enc (Pulse.zero : Pulse)) 54) :: (.blk b1 (enc a0) 54) :: L) ⟨rfl, rfl, rfl, rfl, rfl, rfl, trivial⟩ rfl ?_
      refine Cd.region ?_
      refine Lst.run rfl rfl (by decide) (Ev.move rfl) ?_
      refine Lst.run rfl rfl (by decide) (Ev.move rfl) ?_
      refine Lst.run rfl rfl (by decide) (Ev.fieldAddr (off' := 8) rfl Try.runUnderlying54 rfl Try.sizeOf37 rfl rfl) ?_
      obtain ⟨x175, h176, H⟩ := bind_some H
      have g177 := vat_some h176
      refine Lst.run rfl rfl (by decide) (Ev.indexAddr (off' := 8 + a3.toNat * 1) rfl rfl Try.runUnderlying37 Try.sizeOf3 g177.1 g177.2.1 rfl) ?_
      refine Lst.run rfl rfl (by decide) (Ev.load (i := 9) rfl rfl Try.isAgg3 ((Pulse.get_Wait (Get.vecN (s := 1) rfl g177.2.2 (Get.here _))).off (by omega))) ?_
      refine Lst.run rfl rfl (by decide) (Ev.add rfl rfl) ?_
      refine Lst.run rfl rfl (by decide) (Ev.min2 rfl rfl) ?_
      refine Lst.run rfl rfl (by decide) (Ev.fieldAddr (off' := 8) rfl Try.runUnderlying54 rfl Try.sizeOf37 rfl rfl) ?_
      obtain ⟨x178, h179, H⟩ := bind_some H
      have g180 := vat_some h179
      refine Lst.run rfl rfl (by decide) (Ev.indexAddr (off' := 8 + a3.toNat * 1) rfl rfl Try.runUnderlying37 Try.sizeOf3 g180.1 g180.2.1 rfl) ?_
      obtain ⟨p181, h182, H⟩ := Let_some H
      refine Lst.store (i := 0) rfl rfl rfl rfl rfl Try.sizeOf3 (vs := [.int .i64 (min (w64 (x175 + (1 : Int))) (1000 : Int))]) rfl rfl rfl (cs' := enc p181) (by rw [← h182]; exact (Pulse.put_Wait (Put.vecN (s := 1) rfl g180.2.2 (Put.here (vs := [.int .i64 (min (w64 (x175 + (1 : Int))) (1000 : Int))]) (by rfl)))).off (by omega)) (L' := (.blk b157 (enc p181) 54) :: (.own s86 3 1 (encs l87)) :: (.blk b75 (enc y88) 54) :: (.blk b23 (enc ({ ({ Pulse.zero with Me := a1 } : Pulse) with Wait := (#v[a2, a2, a2, a2, a2, a2] : Vector Int 6) } : Pulse)) 54) :: (.blk b19 (enc r17.1) 54) :: (.blk b15 (enc r11.1) 54) :: (.own s13 3 1 (encs r11.2.1)) :: (.blk b9 (enc r7.1) 54) :: (.blk b5 (enc (Pulse.zero : Pulse)) 54) :: (.blk b1 (enc a0) 54) :: L) rfl ?_
      refine Lst.nil ?_
      exact At.meet p181 (FLe.refl _) ⟨rfl, rfl, rfl, rfl, rfl, rfl, trivial⟩ rfl (some_inj H)
    rintro F' y184 hF' hy
    subst hy
    refine Cd.fle hF' ?_
    refine Cd.as (e' := [(3, .int .i64 a3), (4, .pointer (some ⟨b1, 0, none⟩)), (16, .pointer (some ⟨b19, 0, none⟩)), (17, .bool r17.2.1), (18, .int .i64 r17.2.2), (26, .pointer (some ⟨b157, 0, none⟩))]) (L' := (.blk b157 (enc y184) 54) :: (.own s86 3 1 (encs l87)) :: (.blk b75 (enc y88) 54) :: (.blk b23 (enc ({ ({ Pulse.zero with Me := a1 } : Pulse) with Wait := (#v[a2, a2, a2, a2, a2, a2] : Vector Int 6) } : Pulse)) 54) :: (.blk b19 (enc r17.1) 54) :: (.blk b15 (enc r11.1) 54) :: (.own s13 3 1 (encs r11.2.1)) :: (.blk b9 (enc r7.1) 54) :: (.blk b5 (enc (Pulse.zero : Pulse)) 54) :: (.blk b1 (enc a0) 54) :: L) ⟨rfl, rfl, rfl, rfl, rfl, rfl, trivial⟩ rfl ?_
    replace H := HKo164
    obtain ⟨o186, H, HKo186⟩ := bind_some H
    refine Cd.join (σ := Bool) (fun y195 => [(8, .bool y195)]) (fun y195 => (.blk b157 (enc y184) 54) :: (.own s86 3 1 (encs l87)) :: (.blk b75 (enc y88) 54) :: (.blk b23 (enc ({ ({ Pulse.zero with Me := a1 } : Pulse) with Wait := (#v[a2, a2, a2, a2, a2, a2] : Vector Int 6) } : Pulse)) 54) :: (.blk b19 (enc r17.1) 54) :: (.blk b15 (enc r11.1) 54) :: (.own s13 3 1 (encs r11.2.1)) :: (.blk b9 (enc r7.1) 54) :: (.blk b5 (enc (Pulse.zero : Pulse)) 54) :: (.blk b1 (enc a0) 54) :: L) (fun _ y195 => y195 = o186) ?_ ?_
    · refine Cd.region ?_
      refine Lst.run rfl rfl (by decide) (Ev.loadA (i := 4) rfl rfl Try.isAgg54 Try.sizeOf54 (ch := enc r17.1) (Enc.len _) (Get.here _)) ?_
      refine Lst.run rfl rfl (by decide) (Ev.loadA (i := 0) rfl rfl Try.isAgg54 Try.sizeOf54 (ch := enc y184) (Enc.len _) (Get.here _)) ?_
      refine Lst.run rfl rfl (by decide) (Ev.eqlA rfl rfl (by kernel_rfl) (eq54 _ _)) ?_
      refine Lst.run rfl rfl (by decide) (Ev.move rfl) ?_
      rcases (Bool.eq_false_or_eq_true (decide (r17.1 = y184))).symm with hb187 | hb187
      · replace H := ite_f hb187 H
        refine Lst.skip rfl rfl rfl hb187 rfl (by decide) ?_
        refine Lst.skip rfl rfl rfl hb187 rfl (by decide) ?_
        refine Lst.skip rfl rfl rfl hb187 rfl (by decide) ?_
        refine Lst.skip rfl rfl rfl hb187 rfl (by decide) ?_
        refine Lst.skip rfl rfl rfl hb187 rfl (by decide) ?_
        refine Lst.skip rfl rfl rfl hb187 rfl (by decide) ?_
        refine Lst.run rfl rfl (by decide) (Ev.pickF rfl hb187 rfl) ?_
        refine Lst.run rfl rfl (by decide) (Ev.move rfl) ?_
        refine Lst.skip rfl rfl rfl rfl rfl (by decide) ?_
        refine Lst.skip rfl rfl rfl rfl rfl (by decide) ?_
        refine Lst.run rfl rfl (by decide) (Ev.pickF rfl rfl rfl) ?_
        refine Lst.run rfl rfl (by decide) (Ev.assign rfl) ?_
        refine Lst.nil ?_
        exact At.meet false (FLe.refl _) ⟨rfl, trivial⟩ rfl (some_inj H)
      replace H := ite_t hb187 H
      refine Lst.runG rfl rfl rfl hb187 rfl (by decide) (Ev.move rfl) ?_
      refine Lst.runG rfl rfl rfl hb187 rfl (by decide) (Ev.move rfl) ?_
      refine Lst.runG rfl rfl rfl hb187 rfl (by decide) (Ev.fieldAddr (off' := 14) rfl Try.runUnderlying54 rfl Try.sizeOf52 rfl rfl) ?_
      obtain ⟨x189, h190, H⟩ := bind_some H
      have g191 := vat_some h190
      refine Lst.runG rfl rfl rfl hb187 rfl (by decide) (Ev.indexAddr (off' := 14 + a3.toNat * 1) rfl rfl Try.runUnderlying52 Try.sizeOf4 g191.1 g191.2.1 rfl) ?_
      refine Lst.runG rfl rfl rfl hb187 rfl (by decide) (Ev.load (i := 9) rfl rfl Try.isAgg4 ((Pulse.get_Doubt (Get.vecN (s := 1) rfl g191.2.2 (Get.here _))).off (by omega))) ?_
      refine Lst.runG rfl rfl rfl hb187 rfl (by decide) (Ev.eqlB rfl rfl Try.runUnderlying4) ?_
      refine Lst.run rfl rfl (by decide) (Ev.pickT rfl hb187 rfl) ?_
      refine Lst.run rfl rfl (by decide) (Ev.move rfl) ?_
      rcases (Bool.eq_false_or_eq_true (r17.2.1 == x189)).symm with hb192 | hb192
      · replace H := ite_f hb192 H
        refine Lst.skip rfl rfl rfl hb192 rfl (by decide) ?_
        refine Lst.skip rfl rfl rfl hb192 rfl (by decide) ?_
        refine Lst.run rfl rfl (by decide) (Ev.pickF rfl hb192 rfl) ?_
        refine Lst.run rfl rfl (by decide) (Ev.assign rfl) ?_
        refine Lst.nil ?_
        exact At.meet false (FLe.refl _) ⟨rfl, trivial⟩ rfl (some_inj H)
      replace H := ite_t hb192 H
      refine Lst.runG rfl rfl rfl hb192 rfl (by decide) (Ev.move rfl) ?_
      refine Lst.runG rfl rfl rfl hb192 rfl (by decide) (Ev.eql rfl rfl) ?_
      refine Lst.run rfl rfl (by decide) (Ev.pickT rfl hb192 rfl) ?_
      refine Lst.run rfl rfl (by decide) (Ev.assign rfl) ?_
      refine Lst.nil ?_
      exact At.meet (r17.2.2 == (0 : Int)) (FLe.refl _) ⟨rfl, trivial⟩ rfl (some_inj H)
    rintro F' y195 hF' hy
    subst hy
    refine Cd.fle hF' ?_
    refine Cd.as (e' := [(8, .bool y195)]) (L' := (.blk b157 (enc y184) 54) :: (.own s86 3 1 (encs l87)) :: (.blk b75 (enc y88) 54) :: (.blk b23 (enc ({ ({ Pulse.zero with Me := a1 } : Pulse) with Wait := (#v[a2, a2, a2, a2, a2, a2] : Vector Int 6) } : Pulse)) 54) :: (.blk b19 (enc r17.1) 54) :: (.blk b15 (enc r11.1) 54) :: (.own s13 3 1 (encs r11.2.1)) :: (.blk b9 (enc r7.1) 54) :: (.blk b5 (enc (Pulse.zero : Pulse)) 54) :: (.blk b1 (enc a0) 54) :: L) ⟨rfl, trivial⟩ rfl ?_
    replace H := HKo186
    obtain rfl := some_inj H
    refine Cd.ret ?_
    exact At.ret1 rfl (Res.tmp rfl) (FLe.refl _) (List.Sublist.cons _ (List.Sublist.cons _ (List.Sublist.cons _ (List.Sublist.cons _ (List.Sublist.cons _ (List.Sublist.cons _ (List.Sublist.cons _ (List.Sublist.cons _ (List.Sublist.cons _ (List.Sublist.cons _ (List.Sublist.refl _))))))))))) ⟨rfl, rfl⟩
  have hc85 : decide ((i85 : Int) < (6 : Int)) = true := decide_eq_true (by omega)
  obtain ⟨c85, H, hgo85⟩ := rangeF_go H
  unfold partlaw_PulseSays_L85 at H
  try dsimp only at H
  refine Cd.seq ?_
  refine Cd.region ?_
  refine Lst.run rfl rfl (by decide) (Ev.lss rfl rfl) ?_
  refine Lst.nil ?_
  refine At.then ?_
  refine Cd.seq ?_
  refine Cd.condT rfl hc85 ?_
  refine Cd.skip ?_
  refine At.then ?_
  refine Cd.seq ?_
  refine Cd.block ?_
  refine Cd.seq ?_
  refine Cd.region ?_
  refine Lst.run rfl rfl (by decide) (Ev.move rfl) ?_
  refine Lst.run rfl rfl (by decide) (Ev.assign rfl) ?_
  refine Lst.nil ?_
  refine At.then ?_
  obtain ⟨o89, H, HKo89⟩ := bind_some H
  refine Cd.join (σ := Bool) (fun y104 => [(3, .int .i64 a3), (4, .pointer (some ⟨b1, 0, none⟩)), (10, .pointer (some ⟨b5, 0, none⟩)), (13, .pointer (some ⟨b15, 0, none⟩)), (14, Sl.v s13), (15, .int .i64 r11.2.2), (16, .pointer (some ⟨b19, 0, none⟩)), (17, .bool r17.2.1), (18, .int .i64 r17.2.2), (23, .pointer (some ⟨b75, 0, none⟩)), (24, Sl.v s86), (143, .int .i64 (i85 : Int)), (25, .int .i64 (i85 : Int)), (170, .bool y104)]) (fun y104 => (.own s86 3 1 (encs l87)) :: (.blk b75 (enc y88) 54) :: (.blk b23 (enc ({ ({ Pulse.zero with Me := a1 } : Pulse) with Wait := (#v[a2, a2, a2, a2, a2, a2] : Vector Int 6) } : Pulse)) 54) :: (.blk b19 (enc r17.1) 54) :: (.blk b15 (enc r11.1) 54) :: (.own s13 3 1 (encs r11.2.1)) :: (.blk b9 (enc r7.1) 54) :: (.blk b5 (enc (Pulse.zero : Pulse)) 54) :: (.blk b1 (enc a0) 54) :: L) (fun _ y104 => y104 = o89) ?_ ?_
  · refine Cd.quiet (by kernel_rfl) (by kernel_rfl) ?_
    refine Qt.run rfl rfl (by decide) (Ev.move rfl) ?_
    refine Qt.run rfl rfl (by decide) (Ev.fieldAddr (off' := 0) rfl Try.runUnderlying54 rfl Try.sizeOf3 rfl rfl) ?_
    refine Qt.run rfl rfl (by decide) (Ev.load (i := 8) rfl rfl Try.isAgg3 ((Pulse.get_Me (Get.here _)).off (by rfl))) ?_
    refine Qt.run rfl rfl (by decide) (Ev.neq rfl rfl) ?_
    refine Qt.run rfl rfl (by decide) (Ev.move rfl) ?_
    rcases (Bool.eq_false_or_eq_true ((i85 : Int) != a0.Me)).symm with hb90 | hb90
    · replace H := ite_f hb90 H
      refine Qt.skip rfl rfl rfl hb90 rfl (by decide) ?_
      refine Qt.skip rfl rfl rfl hb90 rfl (by decide) ?_
      refine Qt.skip rfl rfl rfl hb90 rfl (by decide) ?_
      refine Qt.skip rfl rfl rfl hb90 rfl (by decide) ?_
      refine Qt.skip rfl rfl rfl hb90 rfl (by decide) ?_
      refine Qt.run rfl rfl (by decide) (Ev.pickF rfl hb90 rfl) ?_
      refine Qt.run rfl rfl (by decide) (Ev.move rfl) ?_
      refine Qt.skip rfl rfl rfl rfl rfl (by decide) ?_
      refine Qt.skip rfl rfl rfl rfl rfl (by decide) ?_
      refine Qt.skip rfl rfl rfl rfl rfl (by decide) ?_
      refine Qt.skip rfl rfl rfl rfl rfl (by decide) ?_
      refine Qt.skip rfl rfl rfl rfl rfl (by decide) ?_
      refine Qt.skip rfl rfl rfl rfl rfl (by decide) ?_
      refine Qt.skip rfl rfl rfl rfl rfl (by decide) ?_
      refine Qt.skip rfl rfl rfl rfl rfl (by decide) ?_
      refine Qt.skip rfl rfl rfl rfl rfl (by decide) ?_
      refine Qt.skip rfl rfl rfl rfl rfl (by decide) ?_
      refine Qt.skip rfl rfl rfl rfl rfl (by decide) ?_
      refine Qt.skip rfl rfl rfl rfl rfl (by decide) ?_
      refine Qt.run rfl rfl (by decide) (Ev.pickF rfl rfl rfl) ?_
      refine Qt.done ?_
      exact At.meet false (FLe.refl _) ⟨rfl, rfl, rfl, rfl, rfl, rfl, rfl, rfl, rfl, rfl, rfl, rfl, rfl, rfl, trivial⟩ rfl (some_inj H)
    replace H := ite_t hb90 H
    refine Qt.runG rfl rfl rfl hb90 rfl (by decide) (Ev.move rfl) ?_
    refine Qt.runG rfl rfl rfl hb90 rfl (by decide) (Ev.fieldAddr (off' := 14) rfl Try.runUnderlying54 rfl Try.sizeOf52 rfl rfl) ?_
    obtain ⟨x92, h93, H⟩ := bind_some H
    have g94 := vat_some h93
    refine Qt.runG rfl rfl rfl hb90 rfl (by decide) (Ev.indexAddr (off' := 14 + (i85 : Int).toNat * 1) rfl rfl Try.runUnderlying52 Try.sizeOf4 g94.1 g94.2.1 rfl) ?_
    refine Qt.runG rfl rfl rfl hb90 rfl (by decide) (Ev.load (i := 8) rfl rfl Try.isAgg4 ((Pulse.get_Doubt (Get.vecN (s := 1) rfl g94.2.2 (Get.here _))).off (by omega))) ?_
    refine Qt.runG rfl rfl rfl hb90 rfl (by decide) (Ev.not rfl) ?_
    refine Qt.run rfl rfl (by decide) (Ev.pickT rfl hb90 rfl) ?_
    refine Qt.run rfl rfl (by decide) (Ev.move rfl) ?_
    rcases (Bool.eq_false_or_eq_true (!x92)).symm with hb95 | hb95
    · replace H := ite_f hb95 H
      refine Qt.skip rfl rfl rfl hb95 rfl (by decide) ?_
      refine Qt.skip rfl rfl rfl hb95 rfl (by decide) ?_
      refine Qt.skip rfl rfl rfl hb95 rfl (by decide) ?_
      refine Qt.skip rfl rfl rfl hb95 rfl (by decide) ?_
      refine Qt.skip rfl rfl rfl hb95 rfl (by decide) ?_
      refine Qt.skip rfl rfl rfl hb95 rfl (by decide) ?_
      refine Qt.skip rfl rfl rfl hb95 rfl (by decide) ?_
      refine Qt.skip rfl rfl rfl hb95 rfl (by decide) ?_
      refine Qt.skip rfl rfl rfl hb95 rfl (by decide) ?_
      refine Qt.skip rfl rfl rfl hb95 rfl (by decide) ?_
      refine Qt.skip rfl rfl rfl hb95 rfl (by decide) ?_
      refine Qt.skip rfl rfl rfl hb95 rfl (by decide) ?_
      refine Qt.run rfl rfl (by decide) (Ev.pickF rfl hb95 rfl) ?_
      refine Qt.done ?_
      exact At.meet false (FLe.refl _) ⟨rfl, rfl, rfl, rfl, rfl, rfl, rfl, rfl, rfl, rfl, rfl, rfl, rfl, rfl, trivial⟩ rfl (some_inj H)
    replace H := ite_t hb95 H
    refine Qt.runG rfl rfl rfl hb95 rfl (by decide) (Ev.fieldAddr (off' := 1) rfl Try.runUnderlying54 rfl Try.sizeOf3 rfl rfl) ?_
    refine Qt.runG rfl rfl rfl hb95 rfl (by decide) (Ev.load (i := 1) rfl rfl Try.isAgg3 ((Pulse.get_Now (Get.here _)).off (by rfl))) ?_
    refine Qt.runG rfl rfl rfl hb95 rfl (by decide) (Ev.move rfl) ?_
    refine Qt.runG rfl rfl rfl hb95 rfl (by decide) (Ev.fieldAddr (off' := 2) rfl Try.runUnderlying54 rfl Try.sizeOf37 rfl rfl) ?_
    obtain ⟨x97, h98, H⟩ := bind_some H
    have g99 := vat_some h98
    refine Qt.runG rfl rfl rfl hb95 rfl (by decide) (Ev.indexAddr (off' := 2 + (i85 : Int).toNat * 1) rfl rfl Try.runUnderlying37 Try.sizeOf3 g99.1 g99.2.1 rfl) ?_
    refine Qt.runG rfl rfl rfl hb95 rfl (by decide) (Ev.load (i := 8) rfl rfl Try.isAgg3 ((Pulse.get_Last (Get.vecN (s := 1) rfl g99.2.2 (Get.here _))).off (by omega))) ?_
    refine Qt.runG rfl rfl rfl hb95 rfl (by decide) (Ev.sub rfl rfl) ?_
    refine Qt.runG rfl rfl rfl hb95 rfl (by decide) (Ev.move rfl) ?_
    refine Qt.runG rfl rfl rfl hb95 rfl (by decide) (Ev.fieldAddr (off' := 8) rfl Try.runUnderlying54 rfl Try.sizeOf37 rfl rfl) ?_
    obtain ⟨x100, h101, H⟩ := bind_some H
    have g102 := vat_some h101
    refine Qt.runG rfl rfl rfl hb95 rfl (by decide) (Ev.indexAddr (off' := 8 + (i85 : Int).toNat * 1) rfl rfl Try.runUnderlying37 Try.sizeOf3 g102.1 g102.2.1 rfl) ?_
    refine Qt.runG rfl rfl rfl hb95 rfl (by decide) (Ev.load (i := 8) rfl rfl Try.isAgg3 ((Pulse.get_Wait (Get.vecN (s := 1) rfl g102.2.2 (Get.here _))).off (by omega))) ?_
    refine Qt.runG rfl rfl rfl hb95 rfl (by decide) (Ev.gtr rfl rfl) ?_
    refine Qt.run rfl rfl (by decide) (Ev.pickT rfl hb95 rfl) ?_
    refine Qt.done ?_
    exact At.meet (decide ((w64 (y88.Now - x97)) > x100)) (FLe.refl _) ⟨rfl, rfl, rfl, rfl, rfl, rfl, rfl, rfl, rfl, rfl, rfl, rfl, rfl, rfl, trivial⟩ rfl (some_inj H)
  rintro F' y104 hF' hy
  subst hy
  refine Cd.fle hF' ?_
  refine Cd.as (e' := [(3, .int .i64 a3), (4, .pointer (some ⟨b1, 0, none⟩)), (10, .pointer (some ⟨b5, 0, none⟩)), (13, .pointer (some ⟨b15, 0, none⟩)), (14, Sl.v s13), (15, .int .i64 r11.2.2), (16, .pointer (some ⟨b19, 0, none⟩)), (17, .bool r17.2.1), (18, .int .i64 r17.2.2), (23, .pointer (some ⟨b75, 0, none⟩)), (24, Sl.v s86), (143, .int .i64 (i85 : Int)), (25, .int .i64 (i85 : Int)), (170, .bool y104)]) (L' := (.own s86 3 1 (encs l87)) :: (.blk b75 (enc y88) 54) :: (.blk b23 (enc ({ ({ Pulse.zero with Me := a1 } : Pulse) with Wait := (#v[a2, a2, a2, a2, a2, a2] : Vector Int 6) } : Pulse)) 54) :: (.blk b19 (enc r17.1) 54) :: (.blk b15 (enc r11.1) 54) :: (.own s13 3 1 (encs r11.2.1)) :: (.blk b9 (enc r7.1) 54) :: (.blk b5 (enc (Pulse.zero : Pulse)) 54) :: (.blk b1 (enc a0) 54) :: L) ⟨rfl, rfl, rfl, rfl, rfl, rfl, rfl, rfl, rfl, rfl, rfl, rfl, rfl, rfl, trivial⟩ rfl ?_
  replace H := HKo89
  rcases (Bool.eq_false_or_eq_true y104).symm with hb106 | hb106
  · replace H := ite_f hb106 H
    refine Cd.condF rfl hb106 ?_
    refine Cd.skip ?_
    refine At.in_normal ?_
    refine At.then ?_
    refine Cd.region ?_
    refine Lst.run rfl rfl (by decide) (Ev.incr (by omega) rfl rfl) ?_
    refine Lst.run rfl rfl (by decide) (Ev.move rfl) ?_
    refine Lst.nil ?_
    exact At.meet (i85 + 1, k85, s86, l87, y88) (FLe.refl _) ⟨rfl, rfl, rfl, rfl, rfl, rfl, rfl, rfl, rfl, rfl, rfl, rfl, trivial⟩ rfl ⟨⟨hgo85 _ (some_inj H).symm, by omega⟩, Nat.lt_succ_self _⟩
  replace H := ite_t hb106 H
  refine Cd.condT rfl hb106 ?_
  refine Cd.seq ?_
  refine Cd.region ?_
  refine Lst.run rfl rfl (by decide) (Ev.move rfl) ?_
  refine Lst.run rfl rfl (by decide) (Ev.fieldAddr (off' := 14) rfl Try.runUnderlying54 rfl Try.sizeOf52 rfl rfl) ?_
  obtain ⟨x107, h108, H⟩ := bind_some H
  have g109 := vat_some h108
  refine Lst.run rfl rfl (by decide) (Ev.indexAddr (off' := 14 + (i85 : Int).toNat * 1) rfl rfl Try.runUnderlying52 Try.sizeOf4 g109.1 g109.2.1 rfl) ?_
  obtain ⟨p110, h111, H⟩ := Let_some H
  refine Lst.store (i := 1) rfl rfl rfl rfl rfl Try.sizeOf4 (vs := [.bool true]) rfl rfl rfl (cs' := enc p110) (by rw [← h111]; exact (Pulse.put_Doubt (Put.vecN (s := 1) rfl g109.2.2 (Put.here (vs := [.bool true]) (by rfl)))).off (by omega)) (L' := (.own s86 3 1 (encs l87)) :: (.blk b75 (enc p110) 54) :: (.blk b23 (enc ({ ({ Pulse.zero with Me := a1 } : Pulse) with Wait := (#v[a2, a2, a2, a2, a2, a2] : Vector Int 6) } : Pulse)) 54) :: (.blk b19 (enc r17.1) 54) :: (.blk b15 (enc r11.1) 54) :: (.own s13 3 1 (encs r11.2.1)) :: (.blk b9 (enc r7.1) 54) :: (.blk b5 (enc (Pulse.zero : Pulse)) 54) :: (.blk b1 (enc a0) 54) :: L) rfl ?_
  refine Lst.nil ?_
  refine At.then ?_
  refine Cd.region ?_
  refine Lst.run rfl rfl (by decide) (Ev.move rfl) ?_
  refine Lst.run rfl rfl (by decide) (Ev.move rfl) ?_
  refine Lst.buildSlice (α := Int) (xs := ([(i85 : Int)] : List Int)) (pv := [(0, .int .i64 (i85 : Int))]) rfl rfl (by decide) ⟨rfl, rfl, trivial⟩ (run_buildSlice (α := Int) (z0 := (0 : Int)) (xs := ([(i85 : Int)] : List Int)) Try.runUnderlying24 Try.sizeOf3 Try.zeroValue3 rfl rfl rfl (by decide) rfl (fill_cons (cs := encs (List.replicate 1 (0 : Int))) (cs' := encs ((List.replicate 1 (0 : Int)).set 0 (i85 : Int))) (vs := [.int .i64 (i85 : Int)]) rfl rfl rfl ((Put.elemN (s := 1) (i := 0) (x := (0 : Int)) (y := (i85 : Int)) rfl rfl (Put.here (vs := [.int .i64 (i85 : Int)]) rfl)).off rfl) fill_nil)) rfl rfl (by decide) (fun s112 _ => ?_)
  obtain ⟨u114, h115, H⟩ := bind_some H
  refine Lst.append (i := 1) (α := Int) rfl rfl (by decide) rfl rfl Try.runUnderlying24 Try.typeInfo3 rfl rfl rfl rfl rfl rfl (Rd.own (i := 0) rfl rfl rfl) rfl (room_some h115) rfl (fun s116 => ?_)
  refine Lst.its (L' := (.own s112 3 1 (encs ([(i85 : Int)] : List Int))) :: (.own s116 3 1 (encs (l87 ++ ([(i85 : Int)] : List Int)))) :: (.blk b75 (enc p110) 54) :: (.blk b23 (enc ({ ({ Pulse.zero with Me := a1 } : Pulse) with Wait := (#v[a2, a2, a2, a2, a2, a2] : Vector Int 6) } : Pulse)) 54) :: (.blk b19 (enc r17.1) 54) :: (.blk b15 (enc r11.1) 54) :: (.own s13 3 1 (encs r11.2.1)) :: (.blk b9 (enc r7.1) 54) :: (.blk b5 (enc (Pulse.zero : Pulse)) 54) :: (.blk b1 (enc a0) 54) :: L) rfl ?_
  refine Lst.run rfl rfl (by decide) (Ev.assign rfl) ?_
  refine Lst.nil ?_
  refine At.in_normal ?_
  refine At.then ?_
  refine Cd.region ?_
  refine Lst.run rfl rfl (by decide) (Ev.incr (by omega) rfl rfl) ?_
  refine Lst.run rfl rfl (by decide) (Ev.move rfl) ?_
  refine Lst.nil ?_
  refine At.less (L' := (.own s116 3 1 (encs (l87 ++ ([(i85 : Int)] : List Int)))) :: (.blk b75 (enc p110) 54) :: (.blk b23 (enc ({ ({ Pulse.zero with Me := a1 } : Pulse) with Wait := (#v[a2, a2, a2, a2, a2, a2] : Vector Int 6) } : Pulse)) 54) :: (.blk b19 (enc r17.1) 54) :: (.blk b15 (enc r11.1) 54) :: (.own s13 3 1 (encs r11.2.1)) :: (.blk b9 (enc r7.1) 54) :: (.blk b5 (enc (Pulse.zero : Pulse)) 54) :: (.blk b1 (enc a0) 54) :: L) (List.Sublist.cons _ (List.Sublist.cons_cons _ (List.Sublist.cons_cons _ (List.Sublist.cons_cons _ (List.Sublist.cons_cons _ (List.Sublist.cons_cons _ (List.Sublist.cons_cons _ (List.Sublist.cons_cons _ (List.Sublist.cons_cons _ (List.Sublist.cons_cons _ (List.Sublist.refl _))))))))))) ?_
  exact At.meet (i85 + 1, k85, s116, l87 ++ ([(i85 : Int)] : List Int), p110) (FLe.refl _) ⟨rfl, rfl, rfl, rfl, rfl, rfl, rfl, rfl, rfl, rfl, rfl, rfl, trivial⟩ rfl ⟨⟨hgo85 _ (some_inj H).symm, by omega⟩, Nat.lt_succ_self _⟩
end Go.Proofs.Ytilflhdhcleneaa
