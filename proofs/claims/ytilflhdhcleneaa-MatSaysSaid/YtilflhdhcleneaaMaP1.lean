/-
  The functions compute their specs; printed by a program.
-/
import Derived.Test.YtilflhdhcleneaaMaSp
import Derived.Test.YtilflhdhcleneaaGoL
import Derived.Test.YtilflhdhcleneaaProg
namespace Go.Proofs.Ytilflhdhcleneaa
open Go.RowKit Enc
set_option linter.unusedVariables false
set_option linter.unusedSimpArgs false
theorem eq38 (x y : Vector Int 6) : ∀ w, (Op.equal 38 (.agg (enc x).toArray) (.agg (enc y).toArray)).run Try.prog w = .ok (decide (x = y)) w :=
  EqT.top (d := 10000) Try.isAgg38 Try.sizeOf38 rfl rfl (EqT.array (inf := Try.t3) Try.isAgg38 Try.sizeOf38 rfl Try.runUnderlying38 rfl (by kernel_rfl) (EqT.int Try.isAgg3 Try.runUnderlying3)) x y
theorem eq41 (x y : Matrix) : ∀ w, (Op.equal 41 (.agg (enc x).toArray) (.agg (enc y).toArray)).run Try.prog w = .ok (decide (x = y)) w :=
  EqT.top (d := 10000) Try.isAgg41 Try.sizeOf41 rfl rfl (EqT.struct Try.isAgg41 Try.sizeOf41 rfl Try.runUnderlying41 (by kernel_rfl) (fun x y w => by
  refine Eq.trans (eqField (p := x.N) (q := y.N) rfl (EqT.int Try.isAgg3 Try.runUnderlying3) rfl ((Matrix.get_N (Get.here _)).off rfl) ((Matrix.get_N (Get.here _)).off rfl) (eqField (p := x.Me) (q := y.Me) rfl (EqT.int Try.isAgg3 Try.runUnderlying3) rfl ((Matrix.get_Me (Get.here _)).off rfl) ((Matrix.get_Me (Get.here _)).off rfl) (eqField (p := x.Rows) (q := y.Rows) rfl (EqT.array (inf := Try.t38) Try.isAgg39 Try.sizeOf39 rfl Try.runUnderlying39 rfl (by kernel_rfl) (EqT.array (inf := Try.t3) Try.isAgg38 Try.sizeOf38 rfl Try.runUnderlying38 rfl (by kernel_rfl) (EqT.int Try.isAgg3 Try.runUnderlying3))) rfl ((Matrix.get_Rows (Get.here _)).off rfl) ((Matrix.get_Rows (Get.here _)).off rfl) (by rfl)))) ?_
  congr 1
  rw [Bool.eq_iff_iff]; cases x; cases y; simp)) x y
set_option maxRecDepth 20000 in
theorem partref_MatrixErr_sim {a0 : Matrix} {r : Int} (H : partref_MatrixErr a0 = some r) (w0 : World) (F : Frz) (L : List Item) : Ok Try.prog w0 13 [.agg (enc a0).toArray] F L (Is (.int .i64 r) L) := by
  unfold partref_MatrixErr at H
  refine Ok.enter (m := 1) (n := 67) Try.func13 rfl rfl rfl (by decide) ?_
  refine Cd.env (e' := [(0, .agg (enc a0).toArray)]) rfl ?_
  refine Cd.seq ?_
  refine Cd.region ?_
  refine Lst.box rfl rfl (by decide) rfl (cs := enc a0) rfl (fun b1 => ?_)
  refine Lst.run rfl rfl (by decide) (Ev.assign rfl) ?_
  refine Lst.nil ?_
  refine At.then ?_
  refine Cd.seq ?_
  obtain ⟨o3, H, HKo3⟩ := bind_some H
  refine Cd.join (σ := Bool) (fun y11 => [(1, .pointer (some ⟨b1, 0, none⟩)), (25, .bool y11)]) (fun y11 => (.blk b1 (enc a0) 41) :: L) (fun _ y11 => y11 = o3) ?_ ?_
  · refine Cd.region ?_
    refine Lst.run rfl rfl (by decide) (Ev.fieldAddr (off' := 0) rfl Try.runUnderlying41 rfl Try.sizeOf3 rfl rfl) ?_
    refine Lst.run rfl rfl (by decide) (Ev.load (i := 0) rfl rfl Try.isAgg3 ((Matrix.get_N (Get.here _)).off (by rfl))) ?_
    refine Lst.run rfl rfl (by decide) (Ev.lss rfl rfl) ?_
    refine Lst.run rfl rfl (by decide) (Ev.move rfl) ?_
    rcases Bool.eq_false_or_eq_true (decide (a0.N < (1 : Int))) with hb4 | hb4
    · replace H := ite_t hb4 H
      refine Lst.skip rfl rfl rfl hb4 rfl (by decide) ?_
      refine Lst.skip rfl rfl rfl hb4 rfl (by decide) ?_
      refine Lst.skip rfl rfl rfl hb4 rfl (by decide) ?_
      refine Lst.run rfl rfl (by decide) (Ev.pickT rfl hb4 rfl) ?_
      refine Lst.run rfl rfl (by decide) (Ev.move rfl) ?_
      refine Lst.skip rfl rfl rfl rfl rfl (by decide) ?_
      refine Lst.skip rfl rfl rfl rfl rfl (by decide) ?_
      refine Lst.skip rfl rfl rfl rfl rfl (by decide) ?_
      refine Lst.run rfl rfl (by decide) (Ev.pickT rfl rfl rfl) ?_
      refine Lst.run rfl rfl (by decide) (Ev.move rfl) ?_
      refine Lst.skip rfl rfl rfl rfl rfl (by decide) ?_
      refine Lst.skip rfl rfl rfl rfl rfl (by decide) ?_
      refine Lst.skip rfl rfl rfl rfl rfl (by decide) ?_
      refine Lst.skip rfl rfl rfl rfl rfl (by decide) ?_
      refine Lst.skip rfl rfl rfl rfl rfl (by decide) ?_
      refine Lst.run rfl rfl (by decide) (Ev.pickT rfl rfl rfl) ?_
      refine Lst.nil ?_
      exact At.meet true (FLe.refl _) ⟨rfl, rfl, trivial⟩ rfl (some_inj H)
    replace H := ite_f hb4 H
    refine Lst.runG rfl rfl rfl hb4 rfl (by decide) (Ev.fieldAddr (off' := 0) rfl Try.runUnderlying41 rfl Try.sizeOf3 rfl rfl) ?_
    refine Lst.runG rfl rfl rfl hb4 rfl (by decide) (Ev.load (i := 0) rfl rfl Try.isAgg3 ((Matrix.get_N (Get.here _)).off (by rfl))) ?_
    refine Lst.runG rfl rfl rfl hb4 rfl (by decide) (Ev.gtr rfl rfl) ?_
    refine Lst.run rfl rfl (by decide) (Ev.pickF rfl hb4 rfl) ?_
    refine Lst.run rfl rfl (by decide) (Ev.move rfl) ?_
    rcases Bool.eq_false_or_eq_true (decide (a0.N > (6 : Int))) with hb6 | hb6
    · replace H := ite_t hb6 H
      refine Lst.skip rfl rfl rfl hb6 rfl (by decide) ?_
      refine Lst.skip rfl rfl rfl hb6 rfl (by decide) ?_
      refine Lst.skip rfl rfl rfl hb6 rfl (by decide) ?_
      refine Lst.run rfl rfl (by decide) (Ev.pickT rfl hb6 rfl) ?_
      refine Lst.run rfl rfl (by decide) (Ev.move rfl) ?_
      refine Lst.skip rfl rfl rfl rfl rfl (by decide) ?_
      refine Lst.skip rfl rfl rfl rfl rfl (by decide) ?_
      refine Lst.skip rfl rfl rfl rfl rfl (by decide) ?_
      refine Lst.skip rfl rfl rfl rfl rfl (by decide) ?_
      refine Lst.skip rfl rfl rfl rfl rfl (by decide) ?_
      refine Lst.run rfl rfl (by decide) (Ev.pickT rfl rfl rfl) ?_
      refine Lst.nil ?_
      exact At.meet true (FLe.refl _) ⟨rfl, rfl, trivial⟩ rfl (some_inj H)
    replace H := ite_f hb6 H
    refine Lst.runG rfl rfl rfl hb6 rfl (by decide) (Ev.fieldAddr (off' := 1) rfl Try.runUnderlying41 rfl Try.sizeOf3 rfl rfl) ?_
    refine Lst.runG rfl rfl rfl hb6 rfl (by decide) (Ev.load (i := 0) rfl rfl Try.isAgg3 ((Matrix.get_Me (Get.here _)).off (by rfl))) ?_
    refine Lst.runG rfl rfl rfl hb6 rfl (by decide) (Ev.lss rfl rfl) ?_
    refine Lst.run rfl rfl (by decide) (Ev.pickF rfl hb6 rfl) ?_
    refine Lst.run rfl rfl (by decide) (Ev.move rfl) ?_
    rcases Bool.eq_false_or_eq_true (decide (a0.Me < (0 : Int))) with hb8 | hb8
    · replace H := ite_t hb8 H
      refine Lst.skip rfl rfl rfl hb8 rfl (by decide) ?_
      refine Lst.skip rfl rfl rfl hb8 rfl (by decide) ?_
      refine Lst.skip rfl rfl rfl hb8 rfl (by decide) ?_
      refine Lst.skip rfl rfl rfl hb8 rfl (by decide) ?_
      refine Lst.skip rfl rfl rfl hb8 rfl (by decide) ?_
      refine Lst.run rfl rfl (by decide) (Ev.pickT rfl hb8 rfl) ?_
      refine Lst.nil ?_
      exact At.meet true (FLe.refl _) ⟨rfl, rfl, trivial⟩ rfl (some_inj H)
    replace H := ite_f hb8 H
    refine Lst.runG rfl rfl rfl hb8 rfl (by decide) (Ev.fieldAddr (off' := 1) rfl Try.runUnderlying41 rfl Try.sizeOf3 rfl rfl) ?_
    refine Lst.runG rfl rfl rfl hb8 rfl (by decide) (Ev.load (i := 0) rfl rfl Try.isAgg3 ((Matrix.get_Me (Get.here _)).off (by rfl))) ?_
    refine Lst.runG rfl rfl rfl hb8 rfl (by decide) (Ev.fieldAddr (off' := 0) rfl Try.runUnderlying41 rfl Try.sizeOf3 rfl rfl) ?_
    refine Lst.runG rfl rfl rfl hb8 rfl (by decide) (Ev.load (i := 0) rfl rfl Try.isAgg3 ((Matrix.get_N (Get.here _)).off (by rfl))) ?_
    refine Lst.runG rfl rfl rfl hb8 rfl (by decide) (Ev.geq rfl rfl) ?_
    refine Lst.run rfl rfl (by decide) (Ev.pickF rfl hb8 rfl) ?_
    refine Lst.nil ?_
    exact At.meet (decide (a0.Me ≥ a0.N)) (FLe.refl _) ⟨rfl, rfl, trivial⟩ rfl (some_inj H)
  rintro F' y11 hF' hy
  subst hy
  refine Cd.fle hF' ?_
  refine Cd.as (e' := [(1, .pointer (some ⟨b1, 0, none⟩)), (25, .bool y11)]) (L' := (.blk b1 (enc a0) 41) :: L) ⟨rfl, rfl, trivial⟩ rfl ?_
  replace H := HKo3
  rcases Bool.eq_false_or_eq_true y11 with hb13 | hb13
  · replace H := ite_t hb13 H
    refine Cd.condT rfl hb13 ?_
    refine Cd.seq ?_
    refine Cd.region ?_
    refine Lst.run rfl rfl (by decide) (Ev.assign rfl) ?_
    refine Lst.nil ?_
    refine At.then ?_
    obtain rfl := some_inj H
    refine Cd.ret ?_
    refine At.then_ret ?_
    exact At.ret1 rfl (Res.tmp rfl) (FLe.refl _) (List.Sublist.cons _ (List.Sublist.refl _)) ⟨rfl, rfl⟩
  replace H := ite_f hb13 H
  refine Cd.condF rfl hb13 ?_
  refine Cd.skip ?_
  refine At.then ?_
  refine Cd.seq ?_
  refine Cd.seq ?_
  refine Cd.region ?_
  refine Lst.run rfl rfl (by decide) (Ev.move rfl) ?_
  refine Lst.nil ?_
  refine At.then ?_
  refine Cd.block ?_
  obtain ⟨ol14, H, HKl14⟩ := andThen_some H
  refine Cd.loop (σ := Nat × Nat × Unit) (fun (i14, k14, _u) => [(1, .pointer (some ⟨b1, 0, none⟩)), (26, .int .i64 (i14 : Int))]) (fun (i14, k14, _u) => (.blk b1 (enc a0) 41) :: L) (fun _ => (fun (i14, k14, _u) => rangeM (partref_MatrixErr_L14 a0) k14 i14 () = some ol14 ∧ i14 + k14 = 6)) (fun (i14, k14, _u) => k14) (0, 6, ()) ⟨rfl, rfl, trivial⟩ rfl ⟨H, by omega⟩ ?_
  rintro F' ⟨i14, k14, _u⟩ hF' ⟨H, hik14⟩
  refine Cd.fle hF' ?_
  refine Cd.as (e' := [(1, .pointer (some ⟨b1, 0, none⟩)), (26, .int .i64 (i14 : Int))]) (L' := (.blk b1 (enc a0) 41) :: L) ⟨rfl, rfl, trivial⟩ rfl ?_
  rcases k14 with _ | k14
  · have hc14 : decide ((i14 : Int) < (6 : Int)) = false := decide_eq_false (by omega)
    replace H := rangeM_end H
    refine Cd.seq ?_
    refine Cd.region ?_
    refine Lst.run rfl rfl (by decide) (Ev.lss rfl rfl) ?_
    refine Lst.nil ?_
    refine At.then ?_
    refine Cd.seq ?_
    refine Cd.condF rfl hc14 ?_
    refine Cd.exit ?_
    refine At.then_exit ?_
    refine At.then_exit ?_
    refine At.in_exit ?_
    subst H
    replace H := HKl14
    refine At.then ?_
    refine Cd.seq ?_
    refine Cd.region ?_
    refine Lst.run rfl rfl (by decide) (Ev.assign rfl) ?_
    refine Lst.nil ?_
    refine At.then ?_
    obtain rfl := some_inj H
    refine Cd.ret ?_
    exact At.ret1 rfl (Res.tmp rfl) (FLe.refl _) (List.Sublist.cons _ (List.Sublist.refl _)) ⟨rfl, rfl⟩
  have hc14 : decide ((i14 : Int) < (6 : Int)) = true := decide_eq_true (by omega)
  obtain ⟨c14, H, hgo14, hbrk14, hret14⟩ := rangeM_go H
  unfold partref_MatrixErr_L14 at H
  try dsimp only at H
  refine Cd.seq ?_
  refine Cd.region ?_
  refine Lst.run rfl rfl (by decide) (Ev.lss rfl rfl) ?_
  refine Lst.nil ?_
  refine At.then ?_
  refine Cd.seq ?_
  refine Cd.condT rfl hc14 ?_
  refine Cd.skip ?_
  refine At.then ?_
  refine Cd.seq ?_
  refine Cd.block ?_
  refine Cd.seq ?_
  refine Cd.region ?_
  refine Lst.run rfl rfl (by decide) (Ev.move rfl) ?_
  refine Lst.run rfl rfl (by decide) (Ev.assign rfl) ?_
  refine Lst.nil ?_
  refine At.then ?_
  refine Cd.seq ?_
  refine Cd.region ?_
  refine Lst.run rfl rfl (by decide) (Ev.move rfl) ?_
  refine Lst.nil ?_
  refine At.then ?_
  refine Cd.block ?_
  obtain ⟨ol15, H, HKl15⟩ := andThen_some H
  refine Cd.loop (σ := Nat × Nat × Unit) (fun (i15, k15, _u) => [(1, .pointer (some ⟨b1, 0, none⟩)), (26, .int .i64 (i14 : Int)), (3, .int .i64 (i14 : Int)), (29, .int .i64 (i15 : Int))]) (fun (i15, k15, _u) => (.blk b1 (enc a0) 41) :: L) (fun _ => (fun (i15, k15, _u) => rangeM (partref_MatrixErr_L15 a0 i14) k15 i15 () = some ol15 ∧ i15 + k15 = 6)) (fun (i15, k15, _u) => k15) (0, 6, ()) ⟨rfl, rfl, rfl, rfl, trivial⟩ rfl ⟨H, by omega⟩ ?_
  rintro F' ⟨i15, k15, _u⟩ hF' ⟨H, hik15⟩
  refine Cd.fle hF' ?_
  refine Cd.as (e' := [(1, .pointer (some ⟨b1, 0, none⟩)), (26, .int .i64 (i14 : Int)), (3, .int .i64 (i14 : Int)), (29, .int .i64 (i15 : Int))]) (L' := (.blk b1 (enc a0) 41) :: L) ⟨rfl, rfl, rfl, rfl, trivial⟩ rfl ?_
  rcases k15 with _ | k15
  · have hc15 : decide ((i15 : Int) < (6 : Int)) = false := decide_eq_false (by omega)
    replace H := rangeM_end H
    refine Cd.seq ?_
    refine Cd.region ?_
    refine Lst.run rfl rfl (by decide) (Ev.lss rfl rfl) ?_
    refine Lst.nil ?_
    refine At.then ?_
    refine Cd.seq ?_
    refine Cd.condF rfl hc15 ?_
    refine Cd.exit ?_
    refine At.then_exit ?_
    refine At.then_exit ?_
    refine At.in_exit ?_
    subst H
    replace H := HKl15
    refine At.in_normal ?_
    refine At.then ?_
    refine Cd.region ?_
    refine Lst.run rfl rfl (by decide) (Ev.incr (by omega) rfl rfl) ?_
    refine Lst.run rfl rfl (by decide) (Ev.move rfl) ?_
    refine Lst.nil ?_
    exact At.meet (i14 + 1, k14, ()) (FLe.refl _) ⟨rfl, rfl, trivial⟩ rfl ⟨⟨hgo14 _ (some_inj H).symm, by omega⟩, Nat.lt_succ_self _⟩
  have hc15 : decide ((i15 : Int) < (6 : Int)) = true := decide_eq_true (by omega)
  obtain ⟨c15, H, hgo15, hbrk15, hret15⟩ := rangeM_go H
  unfold partref_MatrixErr_L15 at H
  try dsimp only at H
  refine Cd.seq ?_
  refine Cd.region ?_
  refine Lst.run rfl rfl (by decide) (Ev.lss rfl rfl) ?_
  refine Lst.nil ?_
  refine At.then ?_
  refine Cd.seq ?_
  refine Cd.condT rfl hc15 ?_
  refine Cd.skip ?_
  refine At.then ?_
  refine Cd.seq ?_
  refine Cd.block ?_
  refine Cd.seq ?_
  refine Cd.region ?_
  refine Lst.run rfl rfl (by decide) (Ev.move rfl) ?_
  refine Lst.run rfl rfl (by decide) (Ev.assign rfl) ?_
  refine Lst.nil ?_
  refine At.then ?_
  refine Cd.seq ?_
  refine Cd.region ?_
  refine Lst.run rfl rfl (by decide) (Ev.move rfl) ?_
  refine Lst.run rfl rfl (by decide) (Ev.move rfl) ?_
  refine Lst.run rfl rfl (by decide) (Ev.fieldAddr (off' := 2) rfl Try.runUnderlying41 rfl Try.sizeOf39 rfl rfl) ?_
  obtain ⟨x16, h17, H⟩ := bind_some H
  have g18 := vat_some h17
  refine Lst.run rfl rfl (by decide) (Ev.indexAddr (off' := 2 + (i14 : Int).toNat * 6) rfl rfl Try.runUnderlying39 Try.sizeOf38 g18.1 g18.2.1 rfl) ?_
  obtain ⟨x19, h20, H⟩ := bind_some H
  have g21 := vat_some h20
  refine Lst.run rfl rfl (by decide) (Ev.indexAddr (off' := 2 + (i14 : Int).toNat * 6 + (i15 : Int).toNat * 1) rfl rfl Try.runUnderlying38 Try.sizeOf3 g21.1 g21.2.1 rfl) ?_
  refine Lst.run rfl rfl (by decide) (Ev.load (i := 0) rfl rfl Try.isAgg3 ((Matrix.get_Rows (Get.vecN (s := 6) rfl g18.2.2 (Get.vecN (s := 1) rfl g21.2.2 (Get.here _)))).off (by omega))) ?_
  refine Lst.run rfl rfl (by decide) (Ev.assign rfl) ?_
  refine Lst.nil ?_
  refine At.then ?_
  refine Cd.seq ?_
  obtain ⟨o22, H, HKo22⟩ := bind_some H
  refine Cd.join (σ := Bool) (fun y26 => [(1, .pointer (some ⟨b1, 0, none⟩)), (26, .int .i64 (i14 : Int)), (3, .int .i64 (i14 : Int)), (29, .int .i64 (i15 : Int)), (4, .int .i64 (i15 : Int)), (5, .int .i64 x19), (43, .bool y26)]) (fun y26 => (.blk b1 (enc a0) 41) :: L) (fun _ y26 => y26 = o22) ?_ ?_
  · refine Cd.region ?_
    refine Lst.run rfl rfl (by decide) (Ev.move rfl) ?_
    refine Lst.run rfl rfl (by decide) (Ev.lss rfl rfl) ?_
    refine Lst.run rfl rfl (by decide) (Ev.move rfl) ?_
    rcases Bool.eq_false_or_eq_true (decide (x19 < (0 : Int))) with hb23 | hb23
    · replace H := ite_t hb23 H
      refine Lst.skip rfl rfl rfl hb23 rfl (by decide) ?_
      refine Lst.skip rfl rfl rfl hb23 rfl (by decide) ?_
      refine Lst.run rfl rfl (by decide) (Ev.pickT rfl hb23 rfl) ?_
      refine Lst.nil ?_
      exact At.meet true (FLe.refl _) ⟨rfl, rfl, rfl, rfl, rfl, rfl, rfl, trivial⟩ rfl (some_inj H)
    replace H := ite_f hb23 H
    refine Lst.runG rfl rfl rfl hb23 rfl (by decide) (Ev.move rfl) ?_
    refine Lst.runG rfl rfl rfl hb23 rfl (by decide) (Ev.gtr rfl rfl) ?_
    refine Lst.run rfl rfl (by decide) (Ev.pickF rfl hb23 rfl) ?_
    refine Lst.nil ?_
    exact At.meet (decide (x19 > (16777215 : Int))) (FLe.refl _) ⟨rfl, rfl, rfl, rfl, rfl, rfl, rfl, trivial⟩ rfl (some_inj H)
  rintro F' y26 hF' hy
  subst hy
  refine Cd.fle hF' ?_
  refine Cd.as (e' := [(1, .pointer (some ⟨b1, 0, none⟩)), (26, .int .i64 (i14 : Int)), (3, .int .i64 (i14 : Int)), (29, .int .i64 (i15 : Int)), (4, .int .i64 (i15 : Int)), (5, .int .i64 x19), (43, .bool y26)]) (L' := (.blk b1 (enc a0) 41) :: L) ⟨rfl, rfl, rfl, rfl, rfl, rfl, rfl, trivial⟩ rfl ?_
  replace H := HKo22
  rcases Bool.eq_false_or_eq_true y26 with hb28 | hb28
  · replace H := ite_t hb28 H
    refine Cd.condT rfl hb28 ?_
    refine Cd.seq ?_
    refine Cd.region ?_
    refine Lst.run rfl rfl (by decide) (Ev.assign rfl) ?_
    refine Lst.nil ?_
    refine At.then ?_
    have H := hret15 _ (some_inj H).symm
    subst H
    replace H := HKl15
    have H := hret14 _ (some_inj H).symm
    subst H
    replace H := HKl14
    obtain rfl := some_inj H
    refine Cd.ret ?_
    refine At.then_ret ?_
    refine At.in_ret ?_
    refine At.then_ret ?_
    refine At.then_ret ?_
    refine At.in_ret ?_
    refine At.in_ret ?_
    refine At.then_ret ?_
    refine At.then_ret ?_
    refine At.in_ret ?_
    refine At.then_ret ?_
    exact At.ret1 rfl (Res.tmp rfl) (FLe.refl _) (List.Sublist.cons _ (List.Sublist.refl _)) ⟨rfl, rfl⟩
  replace H := ite_f hb28 H
  refine Cd.condF rfl hb28 ?_
  refine Cd.skip ?_
  refine At.then ?_
  obtain ⟨o29, H, HKo29⟩ := bind_some H
  refine Cd.join (σ := Bool) (fun y47 => [(1, .pointer (some ⟨b1, 0, none⟩)), (26, .int .i64 (i14 : Int)), (3, .int .i64 (i14 : Int)), (29, .int .i64 (i15 : Int)), (64, .bool y47)]) (fun y47 => (.blk b1 (enc a0) 41) :: L) (fun _ y47 => y47 = o29) ?_ ?_
  · refine Cd.region ?_
    refine Lst.run rfl rfl (by decide) (Ev.move rfl) ?_
    refine Lst.run rfl rfl (by decide) (Ev.move rfl) ?_
    refine Lst.run rfl rfl (by decide) (Ev.max2 rfl rfl) ?_
    refine Lst.run rfl rfl (by decide) (Ev.fieldAddr (off' := 0) rfl Try.runUnderlying41 rfl Try.sizeOf3 rfl rfl) ?_
    refine Lst.run rfl rfl (by decide) (Ev.load (i := 0) rfl rfl Try.isAgg3 ((Matrix.get_N (Get.here _)).off (by rfl))) ?_
    refine Lst.run rfl rfl (by decide) (Ev.geq rfl rfl) ?_
    refine Lst.run rfl rfl (by decide) (Ev.move rfl) ?_
    rcases (Bool.eq_false_or_eq_true (decide ((max (i14 : Int) (i15 : Int)) ≥ a0.N))).symm with hb30 | hb30
    · replace H := ite_f hb30 H
      refine Lst.skip rfl rfl rfl hb30 rfl (by decide) ?_
      refine Lst.skip rfl rfl rfl hb30 rfl (by decide) ?_
      refine Lst.run rfl rfl (by decide) (Ev.pickF rfl hb30 rfl) ?_
      refine Lst.run rfl rfl (by decide) (Ev.move rfl) ?_
      refine Lst.runG rfl rfl rfl rfl rfl (by decide) (Ev.move rfl) ?_
      refine Lst.runG rfl rfl rfl rfl rfl (by decide) (Ev.fieldAddr (off' := 1) rfl Try.runUnderlying41 rfl Try.sizeOf3 rfl rfl) ?_
      refine Lst.runG rfl rfl rfl rfl rfl (by decide) (Ev.load (i := 0) rfl rfl Try.isAgg3 ((Matrix.get_Me (Get.here _)).off (by rfl))) ?_
      refine Lst.runG rfl rfl rfl rfl rfl (by decide) (Ev.move rfl) ?_
      refine Lst.runG rfl rfl rfl rfl rfl (by decide) (Ev.fieldAddr (off' := 2) rfl Try.runUnderlying41 rfl Try.sizeOf39 rfl rfl) ?_
      obtain ⟨x31, h32, H⟩ := bind_some H
      have g33 := vat_some h32
      refine Lst.runG rfl rfl rfl rfl rfl (by decide) (Ev.indexAddr (off' := 2 + a0.Me.toNat * 6) rfl rfl Try.runUnderlying39 Try.sizeOf38 g33.1 g33.2.1 rfl) ?_
      obtain ⟨x34, h35, H⟩ := bind_some H
      have g36 := vat_some h35
      refine Lst.runG rfl rfl rfl rfl rfl (by decide) (Ev.indexAddr (off' := 2 + a0.Me.toNat * 6 + (i15 : Int).toNat * 1) rfl rfl Try.runUnderlying38 Try.sizeOf3 g36.1 g36.2.1 rfl) ?_
      refine Lst.runG rfl rfl rfl rfl rfl (by decide) (Ev.load (i := 0) rfl rfl Try.isAgg3 ((Matrix.get_Rows (Get.vecN (s := 6) rfl g33.2.2 (Get.vecN (s := 1) rfl g36.2.2 (Get.here _)))).off (by omega))) ?_
      refine Lst.runG rfl rfl rfl rfl rfl (by decide) (Ev.gtr rfl rfl) ?_
      refine Lst.run rfl rfl (by decide) (Ev.pickF rfl rfl rfl) ?_
      refine Lst.nil ?_
      exact At.meet (decide (x19 > x34)) (FLe.refl _) ⟨rfl, rfl, rfl, rfl, rfl, trivial⟩ rfl (some_inj H)
    replace H := ite_t hb30 H
    refine Lst.runG rfl rfl rfl hb30 rfl (by decide) (Ev.move rfl) ?_
    refine Lst.runG rfl rfl rfl hb30 rfl (by decide) (Ev.neq rfl rfl) ?_
    refine Lst.run rfl rfl (by decide) (Ev.pickT rfl hb30 rfl) ?_
    refine Lst.run rfl rfl (by decide) (Ev.move rfl) ?_
    rcases Bool.eq_false_or_eq_true (x19 != (0 : Int)) with hb38 | hb38
    · replace H := ite_t hb38 H
      refine Lst.skip rfl rfl rfl hb38 rfl (by decide) ?_
      refine Lst.skip rfl rfl rfl hb38 rfl (by decide) ?_
      refine Lst.skip rfl rfl rfl hb38 rfl (by decide) ?_
      refine Lst.skip rfl rfl rfl hb38 rfl (by decide) ?_
      refine Lst.skip rfl rfl rfl hb38 rfl (by decide) ?_
      refine Lst.skip rfl rfl rfl hb38 rfl (by decide) ?_
      refine Lst.skip rfl rfl rfl hb38 rfl (by decide) ?_
      refine Lst.skip rfl rfl rfl hb38 rfl (by decide) ?_
      refine Lst.skip rfl rfl rfl hb38 rfl (by decide) ?_
      refine Lst.run rfl rfl (by decide) (Ev.pickT rfl hb38 rfl) ?_
      refine Lst.nil ?_
      exact At.meet true (FLe.refl _) ⟨rfl, rfl, rfl, rfl, rfl, trivial⟩ rfl (some_inj H)
    replace H := ite_f hb38 H
    refine Lst.runG rfl rfl rfl hb38 rfl (by decide) (Ev.move rfl) ?_
    refine Lst.runG rfl rfl rfl hb38 rfl (by decide) (Ev.fieldAddr (off' := 1) rfl Try.runUnderlying41 rfl Try.sizeOf3 rfl rfl) ?_
    refine Lst.runG rfl rfl rfl hb38 rfl (by decide) (Ev.load (i := 0) rfl rfl Try.isAgg3 ((Matrix.get_Me (Get.here _)).off (by rfl))) ?_
    refine Lst.runG rfl rfl rfl hb38 rfl (by decide) (Ev.move rfl) ?_
    refine Lst.runG rfl rfl rfl hb38 rfl (by decide) (Ev.fieldAddr (off' := 2) rfl Try.runUnderlying41 rfl Try.sizeOf39 rfl rfl) ?_
    obtain ⟨x40, h41, H⟩ := bind_some H
    have g42 := vat_some h41
    refine Lst.runG rfl rfl rfl hb38 rfl (by decide) (Ev.indexAddr (off' := 2 + a0.Me.toNat * 6) rfl rfl Try.runUnderlying39 Try.sizeOf38 g42.1 g42.2.1 rfl) ?_
    obtain ⟨x43, h44, H⟩ := bind_some H
    have g45 := vat_some h44
    refine Lst.runG rfl rfl rfl hb38 rfl (by decide) (Ev.indexAddr (off' := 2 + a0.Me.toNat * 6 + (i15 : Int).toNat * 1) rfl rfl Try.runUnderlying38 Try.sizeOf3 g45.1 g45.2.1 rfl) ?_
    refine Lst.runG rfl rfl rfl hb38 rfl (by decide) (Ev.load (i := 0) rfl rfl Try.isAgg3 ((Matrix.get_Rows (Get.vecN (s := 6) rfl g42.2.2 (Get.vecN (s := 1) rfl g45.2.2 (Get.here _)))).off (by omega))) ?_
    refine Lst.runG rfl rfl rfl hb38 rfl (by decide) (Ev.gtr rfl rfl) ?_
    refine Lst.run rfl rfl (by decide) (Ev.pickF rfl hb38 rfl) ?_
    refine Lst.nil ?_
    exact At.meet (decide (x19 > x43)) (FLe.refl _) ⟨rfl, rfl, rfl, rfl, rfl, trivial⟩ rfl (some_inj H)
  rintro F' y47 hF' hy
  subst hy
  refine Cd.fle hF' ?_
  refine Cd.as (e' := [(1, .pointer (some ⟨b1, 0, none⟩)), (26, .int .i64 (i14 : Int)), (3, .int .i64 (i14 : Int)), (29, .int .i64 (i15 : Int)), (64, .bool y47)]) (L' := (.blk b1 (enc a0) 41) :: L) ⟨rfl, rfl, rfl, rfl, rfl, trivial⟩ rfl ?_
  replace H := HKo29
  rcases Bool.eq_false_or_eq_true y47 with hb49 | hb49
  · replace H := ite_t hb49 H
    refine Cd.condT rfl hb49 ?_
    refine Cd.seq ?_
    refine Cd.region ?_
    refine Lst.run rfl rfl (by decide) (Ev.assign rfl) ?_
    refine Lst.nil ?_
    refine At.then ?_
    have H := hret15 _ (some_inj H).symm
    subst H
    replace H := HKl15
    have H := hret14 _ (some_inj H).symm
    subst H
    replace H := HKl14
    obtain rfl := some_inj H
    refine Cd.ret ?_
    refine At.in_ret ?_
    refine At.then_ret ?_
    refine At.then_ret ?_
    refine At.in_ret ?_
    refine At.in_ret ?_
    refine At.then_ret ?_
    refine At.then_ret ?_
    refine At.in_ret ?_
    refine At.then_ret ?_
    exact At.ret1 rfl (Res.tmp rfl) (FLe.refl _) (List.Sublist.cons _ (List.Sublist.refl _)) ⟨rfl, rfl⟩
  replace H := ite_f hb49 H
  refine Cd.condF rfl hb49 ?_
  refine Cd.skip ?_
  refine At.in_normal ?_
  refine At.then ?_
  refine Cd.region ?_
  refine Lst.run rfl rfl (by decide) (Ev.incr (by omega) rfl rfl) ?_
  refine Lst.run rfl rfl (by decide) (Ev.move rfl) ?_
  refine Lst.nil ?_
  exact At.meet (i15 + 1, k15, ()) (FLe.refl _) ⟨rfl, rfl, rfl, rfl, trivial⟩ rfl ⟨⟨hgo15 _ (some_inj H).symm, by omega⟩, Nat.lt_succ_self _⟩
set_option maxRecDepth 20000 in
theorem mat_in_sim {a0 : Int} {a1 : Int} {a2 : Int} {r : Bool} (H : mat_in a0 a1 a2 = some r) (w0 : World) (F : Frz) (L : List Item) : Ok Try.prog w0 35 [.int .i64 a0, .int .i64 a1, .int .i64 a2] F L (Is (.bool r) L) := by
  unfold mat_in at H
  refine Ok.enter (m := 3) (n := 15) Try.func35 rfl rfl rfl (by decide) ?_
  refine Cd.env (e' := [(0, .int .i64 a0), (1, .int .i64 a1), (2, .int .i64 a2)]) rfl ?_
  refine Cd.seq ?_
  refine Cd.region ?_
  refine Lst.run rfl rfl (by decide) (Ev.assign rfl) ?_
  refine Lst.nil ?_
  refine At.then ?_
  obtain ⟨o1, H, HKo1⟩ := bind_some H
  refine Cd.join (σ := Bool) (fun y5 => [(6, .bool y5)]) (fun y5 => L) (fun _ y5 => y5 = o1) ?_ ?_
  · refine Cd.region ?_
    refine Lst.run rfl rfl (by decide) (Ev.move rfl) ?_
    refine Lst.run rfl rfl (by decide) (Ev.move rfl) ?_
    refine Lst.run rfl rfl (by decide) (Ev.geq rfl rfl) ?_
    refine Lst.run rfl rfl (by decide) (Ev.move rfl) ?_
    rcases (Bool.eq_false_or_eq_true (decide (a0 ≥ a1))).symm with hb2 | hb2
    · replace H := ite_f hb2 H
      refine Lst.skip rfl rfl rfl hb2 rfl (by decide) ?_
      refine Lst.skip rfl rfl rfl hb2 rfl (by decide) ?_
      refine Lst.skip rfl rfl rfl hb2 rfl (by decide) ?_
      refine Lst.run rfl rfl (by decide) (Ev.pickF rfl hb2 rfl) ?_
      refine Lst.run rfl rfl (by decide) (Ev.assign rfl) ?_
      refine Lst.nil ?_
      exact At.meet false (FLe.refl _) ⟨rfl, trivial⟩ rfl (some_inj H)
    replace H := ite_t hb2 H
    refine Lst.runG rfl rfl rfl hb2 rfl (by decide) (Ev.move rfl) ?_
    refine Lst.runG rfl rfl rfl hb2 rfl (by decide) (Ev.move rfl) ?_
    refine Lst.runG rfl rfl rfl hb2 rfl (by decide) (Ev.leq rfl rfl) ?_
    refine Lst.run rfl rfl (by decide) (Ev.pickT rfl hb2 rfl) ?_
    refine Lst.run rfl rfl (by decide) (Ev.assign rfl) ?_
    refine Lst.nil ?_
    exact At.meet (decide (a0 ≤ a2)) (FLe.refl _) ⟨rfl, trivial⟩ rfl (some_inj H)
  rintro F' y5 hF' hy
  subst hy
  refine Cd.fle hF' ?_
  refine Cd.as (e' := [(6, .bool y5)]) (L' := L) ⟨rfl, trivial⟩ rfl ?_
  replace H := HKo1
  obtain rfl := some_inj H
  refine Cd.ret ?_
  exact At.ret1 rfl (Res.tmp rfl) (FLe.refl _) (List.Sublist.refl _) ⟨rfl, rfl⟩
set_option maxRecDepth 20000 in
theorem mat_Check_sim {a0 : Matrix} {r : Int} (H : mat_Check a0 = some r) (w0 : World) (F : Frz) (L : List Item) : Ok Try.prog w0 18 [.agg (enc a0).toArray] F L (Is (.int .i64 r) L) := by
  unfold mat_Check at H
  refine Ok.enter (m := 1) (n := 63) Try.func18 rfl rfl rfl (by decide) ?_
  refine Cd.env (e' := [(0, .agg (enc a0).toArray)]) rfl ?_
  refine Cd.seq ?_
  refine Cd.region ?_
  refine Lst.box rfl rfl (by decide) rfl (cs := enc a0) rfl (fun b1 => ?_)
  refine Lst.run rfl rfl (by decide) (Ev.assign rfl) ?_
  refine Lst.nil ?_
  refine At.then ?_
  refine Cd.seq ?_
  obtain ⟨o3, H, HKo3⟩ := bind_some H
  refine Cd.join (σ := Bool) (fun y11 => [(1, .pointer (some ⟨b1, 0, none⟩)), (19, .bool y11)]) (fun y11 => (.blk b1 (enc a0) 41) :: L) (fun _ y11 => y11 = o3) ?_ ?_
  · refine Cd.region ?_
    refine Lst.run rfl rfl (by decide) (Ev.fieldAddr (off' := 0) rfl Try.runUnderlying41 rfl Try.sizeOf3 rfl rfl) ?_
    refine Lst.run rfl rfl (by decide) (Ev.load (i := 0) rfl rfl Try.isAgg3 ((Matrix.get_N (Get.here _)).off (by rfl))) ?_
    obtain ⟨r4, h5, H⟩ := bind_some H
    refine Lst.call1 rfl rfl (by decide) (vs := [.int .i64 a0.N, .int .i64 (1 : Int), .int .i64 (6 : Int)]) ⟨rfl, rfl, rfl, trivial⟩ Try.call35 (mat_in_sim h5 w0 _ _) ?_
    refine Lst.run rfl rfl (by decide) (Ev.not rfl) ?_
    refine Lst.run rfl rfl (by decide) (Ev.move rfl) ?_
    rcases Bool.eq_false_or_eq_true (!r4) with hb6 | hb6
    · replace H := ite_t hb6 H
      refine Lst.skip rfl rfl rfl hb6 rfl (by decide) ?_
      refine Lst.skip rfl rfl rfl hb6 rfl (by decide) ?_
      refine Lst.skip rfl rfl rfl hb6 rfl (by decide) ?_
      refine Lst.skip rfl rfl rfl hb6 rfl (by decide) ?_
      refine Lst.skip rfl rfl rfl hb6 rfl (by decide) ?_
      refine Lst.skip rfl rfl rfl hb6 rfl (by decide) ?_
      refine Lst.skip rfl rfl rfl hb6 rfl (by decide) ?_
      refine Lst.run rfl rfl (by decide) (Ev.pickT rfl hb6 rfl) ?_
      refine Lst.nil ?_
      exact At.meet true (FLe.refl _) ⟨rfl, rfl, trivial⟩ rfl (some_inj H)
    replace H := ite_f hb6 H
    refine Lst.runG rfl rfl rfl hb6 rfl (by decide) (Ev.fieldAddr (off' := 1) rfl Try.runUnderlying41 rfl Try.sizeOf3 rfl rfl) ?_
    refine Lst.runG rfl rfl rfl hb6 rfl (by decide) (Ev.load (i := 0) rfl rfl Try.isAgg3 ((Matrix.get_Me (Get.here _)).off (by rfl))) ?_
    refine Lst.runG rfl rfl rfl hb6 rfl (by decide) (Ev.fieldAddr (off' := 0) rfl Try.runUnderlying41 rfl Try.sizeOf3 rfl rfl) ?_
    refine Lst.runG rfl rfl rfl hb6 rfl (by decide) (Ev.load (i := 0) rfl rfl Try.isAgg3 ((Matrix.get_N (Get.here _)).off (by rfl))) ?_
    refine Lst.runG rfl rfl rfl hb6 rfl (by decide) (Ev.sub rfl rfl) ?_
    obtain ⟨r8, h9, H⟩ := bind_some H
    refine Lst.call1G rfl rfl rfl hb6 rfl (by decide) (vs := [.int .i64 a0.Me, .int .i64 (0 : Int), .int .i64 (w64 (a0.N - (1 : Int)))]) ⟨rfl, rfl, rfl, trivial⟩ Try.call35 (mat_in_sim h9 w0 _ _) ?_
    refine Lst.runG rfl rfl rfl hb6 rfl (by decide) (Ev.not rfl) ?_
    refine Lst.run rfl rfl (by decide) (Ev.pickF rfl hb6 rfl) ?_
    refine Lst.nil ?_
    exact At.meet (!r8) (FLe.refl _) ⟨rfl, rfl, trivial⟩ rfl (some_inj H)
  rintro F' y11 hF' hy
  subst hy
  refine Cd.fle hF' ?_
  refine Cd.as (e' := [(1, .pointer (some ⟨b1, 0, none⟩)), (19, .bool y11)]) (L' := (.blk b1 (enc a0) 41) :: L) ⟨rfl, rfl, trivial⟩ rfl ?_
  replace H := HKo3
  rcases Bool.eq_false_or_eq_true y11 with hb13 | hb13
  · replace H := ite_t hb13 H
    refine Cd.condT rfl hb13 ?_
    refine Cd.seq ?_
    refine Cd.region ?_
    refine Lst.run rfl rfl (by decide) (Ev.assign rfl) ?_
    refine Lst.nil ?_
    refine At.then ?_
    obtain rfl := some_inj H
    refine Cd.ret ?_
    refine At.then_ret ?_
    exact At.ret1 rfl (Res.tmp rfl) (FLe.refl _) (List.Sublist.cons _ (List.Sublist.refl _)) ⟨rfl, rfl⟩
  replace H := ite_f hb13 H
  refine Cd.condF rfl hb13 ?_
  refine Cd.skip ?_
  refine At.then ?_
  refine Cd.seq ?_
  refine Cd.seq ?_
  refine Cd.region ?_
  refine Lst.run rfl rfl (by decide) (Ev.fieldAddr (off' := 2) rfl Try.runUnderlying41 rfl Try.sizeOf39 rfl rfl) ?_
  refine Lst.run rfl rfl (by decide) (Ev.loadA (i := 0) rfl rfl Try.isAgg39 Try.sizeOf39 (ch := enc a0.Rows) (Enc.len _) ((Matrix.get_Rows (Get.here _)).off (by rfl))) ?_
  refine Lst.run rfl rfl (by decide) (Ev.move rfl) ?_
  refine Lst.nil ?_
  refine At.then ?_
  refine Cd.block ?_
  obtain ⟨ol14, H, HKl14⟩ := andThen_some H
  refine Cd.loop (σ := Nat × Nat × Unit) (fun (i14, k14, _u) => [(1, .pointer (some ⟨b1, 0, none⟩)), (21, .agg (enc a0.Rows).toArray), (22, .int .i64 (i14 : Int))]) (fun (i14, k14, _u) => (.blk b1 (enc a0) 41) :: L) (fun _ => (fun (i14, k14, _u) => rangeM (mat_Check_L14 a0) k14 i14 () = some ol14 ∧ i14 + k14 = 6)) (fun (i14, k14, _u) => k14) (0, 6, ()) ⟨rfl, rfl, rfl, trivial⟩ rfl ⟨H, by omega⟩ ?_
  rintro F' ⟨i14, k14, _u⟩ hF' ⟨H, hik14⟩
  refine Cd.fle hF' ?_
  refine Cd.as (e' := [(1, .pointer (some ⟨b1, 0, none⟩)), (21, .agg (enc a0.Rows).toArray), (22, .int .i64 (i14 : Int))]) (L' := (.blk b1 (enc a0) 41) :: L) ⟨rfl, rfl, rfl, trivial⟩ rfl ?_
  rcases k14 with _ | k14
  · have hc14 : decide ((i14 : Int) < (6 : Int)) = false := decide_eq_false (by omega)
    replace H := rangeM_end H
    refine Cd.seq ?_
    refine Cd.region ?_
    refine Lst.run rfl rfl (by decide) (Ev.lss rfl rfl) ?_
    refine Lst.nil ?_
    refine At.then ?_
    refine Cd.seq ?_
    refine Cd.condF rfl hc14 ?_
    refine Cd.exit ?_
    refine At.then_exit ?_
    refine At.then_exit ?_
    refine At.in_exit ?_
    subst H
    replace H := HKl14
    refine At.then ?_
    refine Cd.seq ?_
    refine Cd.region ?_
    refine Lst.run rfl rfl (by decide) (Ev.assign rfl) ?_
    refine Lst.nil ?_
    refine At.then ?_
    obtain rfl := some_inj H
    refine Cd.ret ?_
    exact At.ret1 rfl (Res.tmp rfl) (FLe.refl _) (List.Sublist.cons _ (List.Sublist.refl _)) ⟨rfl, rfl⟩
  have hc14 : decide ((i14 : Int) < (6 : Int)) = true := decide_eq_true (by omega)
  obtain ⟨c14, H, hgo14, hbrk14, hret14⟩ := rangeM_go H
  unfold mat_Check_L14 at H
  try dsimp only at H
  refine Cd.seq ?_
  refine Cd.region ?_
  refine Lst.run rfl rfl (by decide) (Ev.lss rfl rfl) ?_
  refine Lst.nil ?_
  refine At.then ?_
  refine Cd.seq ?_
  refine Cd.condT rfl hc14 ?_
  refine Cd.skip ?_
  refine At.then ?_
  refine Cd.seq ?_
  refine Cd.block ?_
  refine Cd.seq ?_
  refine Cd.region ?_
  refine Lst.run rfl rfl (by decide) (Ev.move rfl) ?_
  obtain ⟨x15, h16, H⟩ := bind_some H
  have g17 := vat_some h16
  refine Lst.run rfl rfl (by decide) (Ev.indexA rfl rfl Try.runUnderlying39 Try.isAgg38 Try.sizeOf38 g17.1 g17.2.1 rfl (ch := enc x15) (Enc.len _) ((Get.vecN (s := 6) rfl g17.2.2 (Get.here _)).off (by omega))) ?_
  refine Lst.alloc rfl rfl (by decide) Try.zeroValue38 (cs := enc (Vector.replicate 6 (0 : Int))) rfl (fun b18 => ?_)
  refine Lst.run rfl rfl (by decide) (Ev.assign rfl) ?_
  refine Lst.store (i := 0) rfl rfl rfl rfl rfl Try.sizeOf38 (vs := enc x15) rfl (Enc.len _) (Enc.one _) (cs' := enc x15) (Put.here ((Enc.len _).trans (Enc.len _).symm)) (L' := (.blk b18 (enc x15) 38) :: (.blk b1 (enc a0) 41) :: L) rfl ?_
  refine Lst.nil ?_
  refine At.then ?_
  refine Cd.seq ?_
  refine Cd.region ?_
  refine Lst.run rfl rfl (by decide) (Ev.loadA (i := 0) rfl rfl Try.isAgg38 Try.sizeOf38 (ch := enc x15) (Enc.len _) (Get.here _)) ?_
  refine Lst.run rfl rfl (by decide) (Ev.move rfl) ?_
  refine Lst.nil ?_
  refine At.then ?_
  refine Cd.block ?_
  obtain ⟨ol20, H, HKl20⟩ := andThen_some H
  refine Cd.loop (σ := Nat × Nat × Unit) (fun (i20, k20, _u) => [(1, .pointer (some ⟨b1, 0, none⟩)), (21, .agg (enc a0.Rows).toArray), (22, .int .i64 (i14 : Int)), (3, .int .i64 (i14 : Int)), (26, .agg (enc x15).toArray), (27, .int .i64 (i20 : Int))]) (fun (i20, k20, _u) => (.blk b18 (enc x15) 38) :: (.blk b1 (enc a0) 41) :: L) (fun _ => (fun (i20, k20, _u) => rangeM (mat_Check_L20 a0 i14 x15) k20 i20 () = some ol20 ∧ i20 + k20 = 6)) (fun (i20, k20, _u) => k20) (0, 6, ()) ⟨rfl, rfl, rfl, rfl, rfl, rfl, trivial⟩ rfl ⟨H, by omega⟩ ?_
  rintro F' ⟨i20, k20, _u⟩ hF' ⟨H, hik20⟩
  refine Cd.fle hF' ?_
  refine Cd.as (e' := [(1, .pointer (some ⟨b1, 0, none⟩)), (21, .agg (enc a0.Rows).toArray), (22, .int .i64 (i14 : Int)), (3, .int .i64 (i14 : Int)), (26, .agg (enc x15).toArray), (27, .int .i64 (i20 : Int))]) (L' := (.blk b18 (enc x15) 38) :: (.blk b1 (enc a0) 41) :: L) ⟨rfl, rfl, rfl, rfl, rfl, rfl, trivial⟩ rfl ?_
  rcases k20 with _ | k20
  · have hc20 : decide ((i20 : Int) < (6 : Int)) = false := decide_eq_false (by omega)
    replace H := rangeM_end H
    refine Cd.seq ?_
    refine Cd.region ?_
    refine Lst.run rfl rfl (by decide) (Ev.lss rfl rfl) ?_
    refine Lst.nil ?_
    refine At.then ?_
    refine Cd.seq ?_
    refine Cd.condF rfl hc20 ?_
    refine Cd.exit ?_
    refine At.then_exit ?_
    refine At.then_exit ?_
    refine At.in_exit ?_
    subst H
    replace H := HKl20
    refine At.in_normal ?_
    refine At.then ?_
    refine Cd.region ?_
    refine Lst.run rfl rfl (by decide) (Ev.incr (by omega) rfl rfl) ?_
    refine Lst.run rfl rfl (by decide) (Ev.move rfl) ?_
    refine Lst.nil ?_
    refine At.less (L' := (.blk b1 (enc a0) 41) :: L) (List.Sublist.cons _ (List.Sublist.cons_cons _ (List.Sublist.refl _))) ?_
    exact At.meet (i14 + 1, k14, ()) (FLe.refl _) ⟨rfl, rfl, rfl, trivial⟩ rfl ⟨⟨hgo14 _ (some_inj H).symm, by omega⟩, Nat.lt_succ_self _⟩
  have hc20 : decide ((i20 : Int) < (6 : Int)) = true := decide_eq_true (by omega)
  obtain ⟨c20, H, hgo20, hbrk20, hret20⟩ := rangeM_go H
  unfold mat_Check_L20 at H
  try dsimp only at H
  refine Cd.seq ?_
  refine Cd.region ?_
  refine Lst.run rfl rfl (by decide) (Ev.lss rfl rfl) ?_
  refine Lst.nil ?_
  refine At.then ?_
  refine Cd.seq ?_
  refine Cd.condT rfl hc20 ?_
  refine Cd.skip ?_
  refine At.then ?_
  refine Cd.seq ?_
  refine Cd.block ?_
  refine Cd.seq ?_
  refine Cd.region ?_
  refine Lst.run rfl rfl (by decide) (Ev.move rfl) ?_
  obtain ⟨x21, h22, H⟩ := bind_some H
  have g23 := vat_some h22
  refine Lst.run rfl rfl (by decide) (Ev.index1 rfl rfl Try.runUnderlying38 Try.isAgg3 Try.sizeOf3 g23.1 g23.2.1 rfl ((Get.vecN (s := 1) rfl g23.2.2 (Get.here _)).off (by omega))) ?_
  refine Lst.run rfl rfl (by decide) (Ev.assign rfl) ?_
  refine Lst.run rfl rfl (by decide) (Ev.assign rfl) ?_
  refine Lst.nil ?_
  refine At.then ?_
  refine Cd.block ?_
  refine Cd.seq ?_
  refine Cd.region ?_
  refine Lst.run rfl rfl (by decide) (Ev.move rfl) ?_
  obtain ⟨r24, h25, H⟩ := bind_some H
  refine Lst.call1 rfl rfl (by decide) (vs := [.int .i64 x21, .int .i64 (0 : Int), .int .i64 (16777215 : Int)]) ⟨rfl, rfl, rfl, trivial⟩ Try.call35 (mat_in_sim h25 w0 _ _) ?_
  refine Lst.run rfl rfl (by decide) (Ev.not rfl) ?_
  refine Lst.run rfl rfl (by decide) (Ev.assign rfl) ?_
  refine Lst.nil ?_
  refine At.then ?_
  rcases Bool.eq_false_or_eq_true (!r24) with hb26 | hb26
  · replace H := ite_t hb26 H
    refine Cd.condT rfl hb26 ?_
    refine Cd.seq ?_
    refine Cd.as (e' := []) (L' := (.blk b18 (enc x15) 38) :: (.blk b1 (enc a0) 41) :: L) trivial rfl ?_
    refine Cd.region ?_
    refine Lst.run rfl rfl (by decide) (Ev.assign rfl) ?_
    refine Lst.nil ?_
    refine At.then ?_
    have H := hret20 _ (some_inj H).symm
    subst H
    replace H := HKl20
    have H := hret14 _ (some_inj H).symm
    subst H
    replace H := HKl14
    obtain rfl := some_inj H
    refine Cd.ret ?_
    refine At.in_ret ?_
    refine At.in_ret ?_
    refine At.then_ret ?_
    refine At.then_ret ?_
    refine At.in_ret ?_
    refine At.in_ret ?_
    refine At.then_ret ?_
    refine At.then_ret ?_
    refine At.in_ret ?_
    refine At.then_ret ?_
    exact At.ret1 rfl (Res.tmp rfl) (FLe.refl _) (List.Sublist.cons _ (List.Sublist.cons _ (List.Sublist.refl _))) ⟨rfl, rfl⟩
  replace H := ite_f hb26 H
  refine Cd.condF rfl hb26 ?_
  obtain ⟨o27, H, HKo27⟩ := bind_some H
  refine Cd.join (σ := Bool) (fun y47 => [(1, .pointer (some ⟨b1, 0, none⟩)), (21, .agg (enc a0.Rows).toArray), (22, .int .i64 (i14 : Int)), (3, .int .i64 (i14 : Int)), (26, .agg (enc x15).toArray), (27, .int .i64 (i20 : Int)), (35, .bool y47)]) (fun y47 => (.blk b18 (enc x15) 38) :: (.blk b1 (enc a0) 41) :: L) (fun _ y47 => y47 = o27) ?_ ?_
  · refine Cd.region ?_
    refine Lst.run rfl rfl (by decide) (Ev.move rfl) ?_
    refine Lst.run rfl rfl (by decide) (Ev.gtr rfl rfl) ?_
    refine Lst.run rfl rfl (by decide) (Ev.move rfl) ?_
    rcases (Bool.eq_false_or_eq_true (decide (x21 > (0 : Int)))).symm with hb28 | hb28
    · replace H := ite_f hb28 H
      refine Lst.skip rfl rfl rfl hb28 rfl (by decide) ?_
      refine Lst.skip rfl rfl rfl hb28 rfl (by decide) ?_
      refine Lst.skip rfl rfl rfl hb28 rfl (by decide) ?_
      refine Lst.skip rfl rfl rfl hb28 rfl (by decide) ?_
      refine Lst.skip rfl rfl rfl hb28 rfl (by decide) ?_
      refine Lst.skipU rfl rfl rfl rfl (by decide) ?_
      refine Lst.skipU rfl rfl rfl rfl (by decide) ?_
      refine Lst.skipU rfl rfl rfl rfl (by decide) ?_
      refine Lst.skipU rfl rfl rfl rfl (by decide) ?_
      refine Lst.skip rfl rfl rfl hb28 rfl (by decide) ?_
      refine Lst.run rfl rfl (by decide) (Ev.pickF rfl hb28 rfl) ?_
      refine Lst.run rfl rfl (by decide) (Ev.move rfl) ?_
      refine Lst.runG rfl rfl rfl rfl rfl (by decide) (Ev.move rfl) ?_
      refine Lst.runG rfl rfl rfl rfl rfl (by decide) (Ev.fieldAddr (off' := 1) rfl Try.runUnderlying41 rfl Try.sizeOf3 rfl rfl) ?_
      refine Lst.runG rfl rfl rfl rfl rfl (by decide) (Ev.load (i := 1) rfl rfl Try.isAgg3 ((Matrix.get_Me (Get.here _)).off (by rfl))) ?_
      refine Lst.runG rfl rfl rfl rfl rfl (by decide) (Ev.move rfl) ?_
      refine Lst.runG rfl rfl rfl rfl rfl (by decide) (Ev.fieldAddr (off' := 2) rfl Try.runUnderlying41 rfl Try.sizeOf39 rfl rfl) ?_
      obtain ⟨x29, h30, H⟩ := bind_some H
      have g31 := vat_some h30
      refine Lst.runG rfl rfl rfl rfl rfl (by decide) (Ev.indexAddr (off' := 2 + a0.Me.toNat * 6) rfl rfl Try.runUnderlying39 Try.sizeOf38 g31.1 g31.2.1 rfl) ?_
      obtain ⟨x32, h33, H⟩ := bind_some H
      have g34 := vat_some h33
      refine Lst.runG rfl rfl rfl rfl rfl (by decide) (Ev.indexAddr (off' := 2 + a0.Me.toNat * 6 + (i20 : Int).toNat * 1) rfl rfl Try.runUnderlying38 Try.sizeOf3 g34.1 g34.2.1 rfl) ?_
      refine Lst.runG rfl rfl rfl rfl rfl (by decide) (Ev.load (i := 1) rfl rfl Try.isAgg3 ((Matrix.get_Rows (Get.vecN (s := 6) rfl g31.2.2 (Get.vecN (s := 1) rfl g34.2.2 (Get.here _)))).off (by omega))) ?_
      refine Lst.runG rfl rfl rfl rfl rfl (by decide) (Ev.gtr rfl rfl) ?_
      refine Lst.run rfl rfl (by decide) (Ev.pickF rfl rfl rfl) ?_
      refine Lst.run rfl rfl (by decide) (Ev.assign rfl) ?_
      refine Lst.nil ?_
      exact At.meet (decide (x21 > x32)) (FLe.refl _) ⟨rfl, rfl, rfl, rfl, rfl, rfl, rfl, trivial⟩ rfl (some_inj H)
    replace H := ite_t hb28 H
    refine Lst.runG rfl rfl rfl hb28 rfl (by decide) (Ev.move rfl) ?_
    refine Lst.runG rfl rfl rfl hb28 rfl (by decide) (Ev.fieldAddr (off' := 0) rfl Try.runUnderlying41 rfl Try.sizeOf3 rfl rfl) ?_
    refine Lst.runG rfl rfl rfl hb28 rfl (by decide) (Ev.load (i := 1) rfl rfl Try.isAgg3 ((Matrix.get_N (Get.here _)).off (by rfl))) ?_
    refine Lst.runG rfl rfl rfl hb28 rfl (by decide) (Ev.geq rfl rfl) ?_
    refine Lst.runG rfl rfl rfl hb28 rfl (by decide) (Ev.move rfl) ?_
    rcases Bool.eq_false_or_eq_true (decide ((i14 : Int) ≥ a0.N)) with hb36 | hb36
    · replace H := ite_t hb36 H
      refine Lst.skip rfl rfl rfl hb36 rfl (by decide) ?_
      refine Lst.skip rfl rfl rfl hb36 rfl (by decide) ?_
      refine Lst.skip rfl rfl rfl hb36 rfl (by decide) ?_
      refine Lst.skip rfl rfl rfl hb36 rfl (by decide) ?_
      refine Lst.runG rfl rfl rfl hb28 rfl (by decide) (Ev.pickT rfl hb36 rfl) ?_
      refine Lst.run rfl rfl (by decide) (Ev.pickT rfl hb28 rfl) ?_
      refine Lst.run rfl rfl (by decide) (Ev.move rfl) ?_
      refine Lst.skip rfl rfl rfl rfl rfl (by decide) ?_
      refine Lst.skip rfl rfl rfl rfl rfl (by decide) ?_
      refine Lst.skip rfl rfl rfl rfl rfl (by decide) ?_
      refine Lst.skip rfl rfl rfl rfl rfl (by decide) ?_
      refine Lst.skip rfl rfl rfl rfl rfl (by decide) ?_
      refine Lst.skip rfl rfl rfl rfl rfl (by decide) ?_
      refine Lst.skip rfl rfl rfl rfl rfl (by decide) ?_
      refine Lst.skip rfl rfl rfl rfl rfl (by decide) ?_
      refine Lst.skip rfl rfl rfl rfl rfl (by decide) ?_
      refine Lst.run rfl rfl (by decide) (Ev.pickT rfl rfl rfl) ?_
      refine Lst.run rfl rfl (by decide) (Ev.assign rfl) ?_
      refine Lst.nil ?_
      exact At.meet true (FLe.refl _) ⟨rfl, rfl, rfl, rfl, rfl, rfl, rfl, trivial⟩ rfl (some_inj H)
    replace H := ite_f hb36 H
    refine Lst.runG rfl rfl rfl hb36 rfl (by decide) (Ev.move rfl) ?_
    refine Lst.runG rfl rfl rfl hb36 rfl (by decide) (Ev.fieldAddr (off' := 0) rfl Try.runUnderlying41 rfl Try.sizeOf3 rfl rfl) ?_
    refine Lst.runG rfl rfl rfl hb36 rfl (by decide) (Ev.load (i := 1) rfl rfl Try.isAgg3 ((Matrix.get_N (Get.here _)).off (by rfl))) ?_
    refine Lst.runG rfl rfl rfl hb36 rfl (by decide) (Ev.geq rfl rfl) ?_
    refine Lst.runG rfl rfl rfl hb28 rfl (by decide) (Ev.pickF rfl hb36 rfl) ?_
    refine Lst.run rfl rfl (by decide) (Ev.pickT rfl hb28 rfl) ?_
    refine Lst.run rfl rfl (by decide) (Ev.move rfl) ?_
    rcases Bool.eq_false_or_eq_true (decide ((i20 : Int) ≥ a0.N)) with hb38 | hb38
    · replace H := ite_t hb38 H
      refine Lst.skip rfl rfl rfl hb38 rfl (by decide) ?_
      refine Lst.skip rfl rfl rfl hb38 rfl (by decide) ?_
      refine Lst.skip rfl rfl rfl hb38 rfl (by decide) ?_
      refine Lst.skip rfl rfl rfl hb38 rfl (by decide) ?_
      refine Lst.skip rfl rfl rfl hb38 rfl (by decide) ?_
      refine Lst.skip rfl rfl rfl hb38 rfl (by decide) ?_
      refine Lst.skip rfl rfl rfl hb38 rfl (by decide) ?_
      refine Lst.skip rfl rfl rfl hb38 rfl (by decide) ?_
      refine Lst.skip rfl rfl rfl hb38 rfl (by decide) ?_
      refine Lst.run rfl rfl (by decide) (Ev.pickT rfl hb38 rfl) ?_
      refine Lst.run rfl rfl (by decide) (Ev.assign rfl) ?_
      refine Lst.nil ?_
      exact At.meet true (FLe.refl _) ⟨rfl, rfl, rfl, rfl, rfl, rfl, rfl, trivial⟩ rfl (some_inj H)
    replace H := ite_f hb38 H
    refine Lst.runG rfl rfl rfl hb38 rfl (by decide) (Ev.move rfl) ?_
    refine Lst.runG rfl rfl rfl hb38 rfl (by decide) (Ev.fieldAddr (off' := 1) rfl Try.runUnderlying41 rfl Try.sizeOf3 rfl rfl) ?_
    refine Lst.runG rfl rfl rfl hb38 rfl (by decide) (Ev.load (i := 1) rfl rfl Try.isAgg3 ((Matrix.get_Me (Get.here _)).off (by rfl))) ?_
    refine Lst.runG rfl rfl rfl hb38 rfl (by decide) (Ev.move rfl) ?_
    refine Lst.runG rfl rfl rfl hb38 rfl (by decide) (Ev.fieldAddr (off' := 2) rfl Try.runUnderlying41 rfl Try.sizeOf39 rfl rfl) ?_
    obtain ⟨x40, h41, H⟩ := bind_some H
    have g42 := vat_some h41
    refine Lst.runG rfl rfl rfl hb38 rfl (by decide) (Ev.indexAddr (off' := 2 + a0.Me.toNat * 6) rfl rfl Try.runUnderlying39 Try.sizeOf38 g42.1 g42.2.1 rfl) ?_
    obtain ⟨x43, h44, H⟩ := bind_some H
    have g45 := vat_some h44
    refine Lst.runG rfl rfl rfl hb38 rfl (by decide) (Ev.indexAddr (off' := 2 + a0.Me.toNat * 6 + (i20 : Int).toNat * 1) rfl rfl Try.runUnderlying38 Try.sizeOf3 g45.1 g45.2.1 rfl) ?_
    refine Lst.runG rfl rfl rfl hb38 rfl (by decide) (Ev.load (i := 1) rfl rfl Try.isAgg3 ((Matrix.get_Rows (Get.vecN (s := 6) rfl g42.2.2 (Get.vecN (s := 1) rfl g45.2.2 (Get.here _)))).off (by omega))) ?_
    refine Lst.runG rfl rfl rfl hb38 rfl (by decide) (Ev.gtr rfl rfl) ?_
    refine Lst.run rfl rfl (by decide) (Ev.pickF rfl hb38 rfl) ?_
    refine Lst.run rfl rfl (by decide) (Ev.assign rfl) ?_
    refine Lst.nil ?_
    exact At.meet (decide (x21 > x43)) (FLe.refl _) ⟨rfl, rfl, rfl, rfl, rfl, rfl, rfl, trivial⟩ rfl (some_inj H)
  rintro F' y47 hF' hy
  subst hy
  refine Cd.fle hF' ?_
  refine Cd.as (e' := [(1, .pointer (some ⟨b1, 0, none⟩)), (21, .agg (enc a0.Rows).toArray), (22, .int .i64 (i14 : Int)), (3, .int .i64 (i14 : Int)), (26, .agg (enc x15).toArray), (27, .int .i64 (i20 : Int)), (35, .bool y47)]) (L' := (.blk b18 (enc x15) 38) :: (.blk b1 (enc a0) 41) :: L) ⟨rfl, rfl, rfl, rfl, rfl, rfl, rfl, trivial⟩ rfl ?_
  replace H := HKo27
  rcases Bool.eq_false_or_eq_true y47 with hb49 | hb49
  · replace H := ite_t hb49 H
    refine Cd.condT rfl hb49 ?_
    refine Cd.seq ?_
    refine Cd.region ?_
    refine Lst.run rfl rfl (by decide) (Ev.assign rfl) ?_
    refine Lst.nil ?_
    refine At.then ?_
    have H := hret20 _ (some_inj H).symm
    subst H
    replace H := HKl20
    have H := hret14 _ (some_inj H).symm
    subst H
    replace H := HKl14
    obtain rfl := some_inj H
    refine Cd.ret ?_
    refine At.in_ret ?_
    refine At.in_ret ?_
    refine At.then_ret ?_
    refine At.then_ret ?_
    refine At.in_ret ?_
    refine At.in_ret ?_
    refine At.then_ret ?_
    refine At.then_ret ?_
    refine At.in_ret ?_
    refine At.then_ret ?_
    exact At.ret1 rfl (Res.tmp rfl) (FLe.refl _) (List.Sublist.cons _ (List.Sublist.cons _ (List.Sublist.refl _))) ⟨rfl, rfl⟩
  replace H := ite_f hb49 H
  refine Cd.condF rfl hb49 ?_
  refine Cd.skip ?_
  refine At.in_normal ?_
  refine At.in_normal ?_
  refine At.then ?_
  refine Cd.region ?_
  refine Lst.run rfl rfl (by decide) (Ev.incr (by omega) rfl rfl) ?_
  refine Lst.run rfl rfl (by decide) (Ev.move rfl) ?_
  refine Lst.nil ?_
  exact At.meet (i20 + 1, k20, ()) (FLe.refl _) ⟨rfl, rfl, rfl, rfl, rfl, rfl, trivial⟩ rfl ⟨⟨hgo20 _ (some_inj H).symm, by omega⟩, Nat.lt_succ_self _⟩
set_option maxRecDepth 20000 in
theorem mat_New_sim {a0 : Int} {a1 : Int} {r : Matrix × Int} (H : mat_New a0 a1 = some r) (w0 : World) (F : Frz) (L : List Item) : Ok Try.prog w0 14 [.int .i64 a0, .int .i64 a1] F L (Is (.tuple #[.agg (enc r.1).toArray, .int .i64 r.2]) L) := by
  unfold mat_New at H
  refine Ok.enter (m := 2) (n := 18) Try.func14 rfl rfl rfl (by decide) ?_
  refine Cd.env (e' := [(0, .int .i64 a0), (1, .int .i64 a1)]) rfl ?_
  refine Cd.seq ?_
  refine Cd.region ?_
  refine Lst.alloc rfl rfl (by decide) Try.zeroValue41 (cs := enc Matrix.zero) rfl (fun b1 => ?_)
  refine Lst.run rfl rfl (by decide) (Ev.assign rfl) ?_
  refine Lst.nil ?_
  refine At.then ?_
  refine Cd.seq ?_
  refine Cd.region ?_
  refine Lst.run rfl rfl (by decide) (Ev.move rfl) ?_
  refine Lst.run rfl rfl (by decide) (Ev.move rfl) ?_
  refine Lst.run rfl rfl (by decide) (Ev.build (v := .agg (enc ({ Matrix.zero with N := a0, Me := a1 } : Matrix)).toArray) (pv := [(0, .int .i64 a0), (1, .int .i64 a1)]) ⟨rfl, rfl, ⟨rfl, rfl, trivial⟩⟩ (fun w => by kernel_rfl)) ?_
  refine Lst.alloc rfl rfl (by decide) Try.zeroValue41 (cs := enc Matrix.zero) rfl (fun b3 => ?_)
  refine Lst.store (i := 0) rfl rfl rfl rfl rfl Try.sizeOf41 (vs := enc ({ Matrix.zero with N := a0, Me := a1 } : Matrix)) rfl (Enc.len _) (Enc.one _) (cs' := enc ({ Matrix.zero with N := a0, Me := a1 } : Matrix)) (Put.here ((Enc.len _).trans (Enc.len _).symm)) (L' := (.blk b3 (enc ({ Matrix.zero with N := a0, Me := a1 } : Matrix)) 41) :: (.blk b1 (enc Matrix.zero) 41) :: L) rfl ?_
  refine Lst.nil ?_
  refine At.then ?_
  refine Cd.seq ?_
  refine Cd.seq ?_
  refine Cd.region ?_
  refine Lst.run rfl rfl (by decide) (Ev.loadA (i := 0) rfl rfl Try.isAgg41 Try.sizeOf41 (ch := enc ({ Matrix.zero with N := a0, Me := a1 } : Matrix)) (Enc.len _) (Get.here _)) ?_
  obtain ⟨r5, h6, H⟩ := bind_some H
  refine Lst.call1 rfl rfl (by decide) (vs := [.agg (enc ({ Matrix.zero with N := a0, Me := a1 } : Matrix)).toArray]) ⟨rfl, trivial⟩ Try.call18 (mat_Check_sim h6 w0 _ _) ?_
  refine Lst.run rfl rfl (by decide) (Ev.assign rfl) ?_
  refine Lst.nil ?_
  refine At.then ?_
  refine Cd.seq ?_
  refine Cd.region ?_
  refine Lst.run rfl rfl (by decide) (Ev.move rfl) ?_
  refine Lst.run rfl rfl (by decide) (Ev.neq rfl rfl) ?_
  refine Lst.nil ?_
  refine At.then ?_
  rcases Bool.eq_false_or_eq_true (r5 != (0 : Int)) with hb7 | hb7
  · replace H := ite_t hb7 H
    refine Cd.condT rfl hb7 ?_
    refine Cd.seq ?_
    refine Cd.region ?_
    refine Lst.run rfl rfl (by decide) (Ev.build (v := .agg (enc (Matrix.zero : Matrix)).toArray) (pv := []) trivial (fun w => by kernel_rfl)) ?_
    refine Lst.run rfl rfl (by decide) (Ev.move rfl) ?_
    refine Lst.store (i := 1) rfl rfl rfl rfl rfl Try.sizeOf41 (vs := enc (Matrix.zero : Matrix)) rfl (Enc.len _) (Enc.one _) (cs' := enc (Matrix.zero : Matrix)) (Put.here ((Enc.len _).trans (Enc.len _).symm)) (L' := (.blk b3 (enc ({ Matrix.zero with N := a0, Me := a1 } : Matrix)) 41) :: (.blk b1 (enc (Matrix.zero : Matrix)) 41) :: L) rfl ?_
    refine Lst.run rfl rfl (by decide) (Ev.assign rfl) ?_
    refine Lst.nil ?_
    refine At.then ?_
    obtain rfl := some_inj H
    refine Cd.ret ?_
    refine At.then_ret ?_
    exact At.ret2 rfl (Res.cellA (i := 1) rfl rfl Try.isAgg41 Try.sizeOf41 (Enc.len _)) (Res.tmp rfl) (FLe.refl _) (List.Sublist.cons _ (List.Sublist.cons _ (List.Sublist.refl _))) ⟨rfl, rfl⟩
  replace H := ite_f hb7 H
  refine Cd.condF rfl hb7 ?_
  refine Cd.skip ?_
  refine At.then ?_
  refine Cd.seq ?_
  refine Cd.region ?_
  refine Lst.run rfl rfl (by decide) (Ev.loadA (i := 0) rfl rfl Try.isAgg41 Try.sizeOf41 (ch := enc ({ Matrix.zero with N := a0, Me := a1 } : Matrix)) (Enc.len _) (Get.here _)) ?_
  refine Lst.store (i := 1) rfl rfl rfl rfl rfl Try.sizeOf41 (vs := enc ({ Matrix.zero with N := a0, Me := a1 } : Matrix)) rfl (Enc.len _) (Enc.one _) (cs' := enc ({ Matrix.zero with N := a0, Me := a1 } : Matrix)) (Put.here ((Enc.len _).trans (Enc.len _).symm)) (L' := (.blk b3 (enc ({ Matrix.zero with N := a0, Me := a1 } : Matrix)) 41) :: (.blk b1 (enc ({ Matrix.zero with N := a0, Me := a1 } : Matrix)) 41) :: L) rfl ?_
  refine Lst.run rfl rfl (by decide) (Ev.assign rfl) ?_
  refine Lst.nil ?_
  refine At.then ?_
  obtain rfl := some_inj H
  refine Cd.ret ?_
  exact At.ret2 rfl (Res.cellA (i := 1) rfl rfl Try.isAgg41 Try.sizeOf41 (Enc.len _)) (Res.tmp rfl) (FLe.refl _) (List.Sublist.cons _ (List.Sublist.cons _ (List.Sublist.refl _))) ⟨rfl, rfl⟩
set_option maxRecDepth 20000 in
theorem mat_Did_sim {a0 : Matrix} {r : Matrix × Int} (H : mat_Did a0 = some r) (w0 : World) (F : Frz) (L : List Item) : Ok Try.prog w0 15 [.agg (enc a0).toArray] F L (Is (.tuple #[.agg (enc r.1).toArray, .int .i64 r.2]) L) := by
  unfold mat_Did at H
  refine Ok.enter (m := 1) (n := 34) Try.func15 rfl rfl rfl (by decide) ?_
  refine Cd.env (e' := [(0, .agg (enc a0).toArray)]) rfl ?_
  refine Cd.seq ?_
  refine Cd.region ?_
  refine Lst.box rfl rfl (by decide) rfl (cs := enc a0) rfl (fun b1 => ?_)
  refine Lst.alloc rfl rfl (by decide) Try.zeroValue41 (cs := enc Matrix.zero) rfl (fun b3 => ?_)
  refine Lst.run rfl rfl (by decide) (Ev.assign rfl) ?_
  refine Lst.nil ?_
  refine At.then ?_
  refine Cd.seq ?_
  refine Cd.seq ?_
  refine Cd.region ?_
  refine Lst.run rfl rfl (by decide) (Ev.loadA (i := 1) rfl rfl Try.isAgg41 Try.sizeOf41 (ch := enc a0) (Enc.len _) (Get.here _)) ?_
  obtain ⟨r5, h6, H⟩ := bind_some H
  refine Lst.call1 rfl rfl (by decide) (vs := [.agg (enc a0).toArray]) ⟨rfl, trivial⟩ Try.call18 (mat_Check_sim h6 w0 _ _) ?_
  refine Lst.run rfl rfl (by decide) (Ev.assign rfl) ?_
  refine Lst.nil ?_
  refine At.then ?_
  refine Cd.seq ?_
  refine Cd.region ?_
  refine Lst.run rfl rfl (by decide) (Ev.move rfl) ?_
  refine Lst.run rfl rfl (by decide) (Ev.neq rfl rfl) ?_
  refine Lst.nil ?_
  refine At.then ?_
  rcases Bool.eq_false_or_eq_true (r5 != (0 : Int)) with hb7 | hb7
  · replace H := ite_t hb7 H
    refine Cd.condT rfl hb7 ?_
    refine Cd.seq ?_
    refine Cd.region ?_
    refine Lst.run rfl rfl (by decide) (Ev.build (v := .agg (enc (Matrix.zero : Matrix)).toArray) (pv := []) trivial (fun w => by kernel_rfl)) ?_
    refine Lst.run rfl rfl (by decide) (Ev.move rfl) ?_
    refine Lst.store (i := 0) rfl rfl rfl rfl rfl Try.sizeOf41 (vs := enc (Matrix.zero : Matrix)) rfl (Enc.len _) (Enc.one _) (cs' := enc (Matrix.zero : Matrix)) (Put.here ((Enc.len _).trans (Enc.len _).symm)) (L' := (.blk b3 (enc (Matrix.zero : Matrix)) 41) :: (.blk b1 (enc a0) 41) :: L) rfl ?_
    refine Lst.run rfl rfl (by decide) (Ev.assign rfl) ?_
    refine Lst.nil ?_
    refine At.then ?_
    obtain rfl := some_inj H
    refine Cd.ret ?_
    refine At.then_ret ?_
    exact At.ret2 rfl (Res.cellA (i := 0) rfl rfl Try.isAgg41 Try.sizeOf41 (Enc.len _)) (Res.tmp rfl) (FLe.refl _) (List.Sublist.cons _ (List.Sublist.cons _ (List.Sublist.refl _))) ⟨rfl, rfl⟩
  replace H := ite_f hb7 H
  refine Cd.condF rfl hb7 ?_
  refine Cd.skip ?_
  refine At.then ?_
  refine Cd.seq ?_
  refine Cd.seq ?_
  refine Cd.quiet (by kernel_rfl) (by kernel_rfl) ?_
  refine Qt.run rfl rfl (by decide) (Ev.fieldAddr (off' := 1) rfl Try.runUnderlying41 rfl Try.sizeOf3 rfl rfl) ?_
  refine Qt.run rfl rfl (by decide) (Ev.load (i := 1) rfl rfl Try.isAgg3 ((Matrix.get_Me (Get.here _)).off (by rfl))) ?_
  refine Qt.run rfl rfl (by decide) (Ev.fieldAddr (off' := 1) rfl Try.runUnderlying41 rfl Try.sizeOf3 rfl rfl) ?_
  refine Qt.run rfl rfl (by decide) (Ev.load (i := 1) rfl rfl Try.isAgg3 ((Matrix.get_Me (Get.here _)).off (by rfl))) ?_
  refine Qt.run rfl rfl (by decide) (Ev.fieldAddr (off' := 2) rfl Try.runUnderlying41 rfl Try.sizeOf39 rfl rfl) ?_
  obtain ⟨x8, h9, H⟩ := bind_some H
  have g10 := vat_some h9
  refine Qt.run rfl rfl (by decide) (Ev.indexAddr (off' := 2 + a0.Me.toNat * 6) rfl rfl Try.runUnderlying39 Try.sizeOf38 g10.1 g10.2.1 rfl) ?_
  obtain ⟨x11, h12, H⟩ := bind_some H
  have g13 := vat_some h12
  refine Qt.run rfl rfl (by decide) (Ev.indexAddr (off' := 2 + a0.Me.toNat * 6 + a0.Me.toNat * 1) rfl rfl Try.runUnderlying38 Try.sizeOf3 g13.1 g13.2.1 rfl) ?_
  refine Qt.run rfl rfl (by decide) (Ev.load (i := 1) rfl rfl Try.isAgg3 ((Matrix.get_Rows (Get.vecN (s := 6) rfl g10.2.2 (Get.vecN (s := 1) rfl g13.2.2 (Get.here _)))).off (by omega))) ?_
  refine Qt.run rfl rfl (by decide) (Ev.eql rfl rfl) ?_
  refine Qt.done ?_
  refine At.then ?_
  rcases Bool.eq_false_or_eq_true (x11 == (16777215 : Int)) with hb14 | hb14
  · replace H := ite_t hb14 H
    refine Cd.condT rfl hb14 ?_
    refine Cd.seq ?_
    refine Cd.as (e' := [(2, .pointer (some ⟨b3, 0, none⟩))]) (L' := (.blk b3 (enc Matrix.zero) 41) :: (.blk b1 (enc a0) 41) :: L) ⟨rfl, trivial⟩ rfl ?_
    refine Cd.region ?_
    refine Lst.run rfl rfl (by decide) (Ev.build (v := .agg (enc (Matrix.zero : Matrix)).toArray) (pv := []) trivial (fun w => by kernel_rfl)) ?_
    refine Lst.store (i := 0) rfl rfl rfl rfl rfl Try.sizeOf41 (vs := enc (Matrix.zero : Matrix)) rfl (Enc.len _) (Enc.one _) (cs' := enc (Matrix.zero : Matrix)) (Put.here ((Enc.len _).trans (Enc.len _).symm)) (L' := (.blk b3 (enc (Matrix.zero : Matrix)) 41) :: (.blk b1 (enc a0) 41) :: L) rfl ?_
    refine Lst.run rfl rfl (by decide) (Ev.assign rfl) ?_
    refine Lst.nil ?_
    refine At.then ?_
    obtain rfl := some_inj H
    refine Cd.ret ?_
    refine At.then_ret ?_
    exact At.ret2 rfl (Res.cellA (i := 0) rfl rfl Try.isAgg41 Try.sizeOf41 (Enc.len _)) (Res.tmp rfl) (FLe.refl _) (List.Sublist.cons _ (List.Sublist.cons _ (List.Sublist.refl _))) ⟨rfl, rfl⟩
  replace H := ite_f hb14 H
  refine Cd.condF rfl hb14 ?_
  refine Cd.skip ?_
  refine At.then ?_
  refine Cd.seq ?_
  refine Cd.as (e' := [(1, .pointer (some ⟨b1, 0, none⟩)), (2, .pointer (some ⟨b3, 0, none⟩))]) (L' := (.blk b3 (enc Matrix.zero) 41) :: (.blk b1 (enc a0) 41) :: L) ⟨rfl, rfl, trivial⟩ rfl ?_
  refine Cd.tail 12 (by kernel_rfl) (by kernel_rfl) ?_
  refine Qt.run rfl rfl (by decide) (Ev.fieldAddr (off' := 1) rfl Try.runUnderlying41 rfl Try.sizeOf3 rfl rfl) ?_
  refine Qt.run rfl rfl (by decide) (Ev.load (i := 1) rfl rfl Try.isAgg3 ((Matrix.get_Me (Get.here _)).off (by rfl))) ?_
  refine Qt.run rfl rfl (by decide) (Ev.fieldAddr (off' := 1) rfl Try.runUnderlying41 rfl Try.sizeOf3 rfl rfl) ?_
  refine Qt.run rfl rfl (by decide) (Ev.load (i := 1) rfl rfl Try.isAgg3 ((Matrix.get_Me (Get.here _)).off (by rfl))) ?_
  refine Qt.run rfl rfl (by decide) (Ev.fieldAddr (off' := 2) rfl Try.runUnderlying41 rfl Try.sizeOf39 rfl rfl) ?_
  obtain ⟨x15, h16, H⟩ := bind_some H
  have g17 := vat_some h16
  refine Qt.run rfl rfl (by decide) (Ev.indexAddr (off' := 2 + a0.Me.toNat * 6) rfl rfl Try.runUnderlying39 Try.sizeOf38 g17.1 g17.2.1 rfl) ?_
  obtain ⟨x18, h19, H⟩ := bind_some H
  have g20 := vat_some h19
  refine Qt.run rfl rfl (by decide) (Ev.indexAddr (off' := 2 + a0.Me.toNat * 6 + a0.Me.toNat * 1) rfl rfl Try.runUnderlying38 Try.sizeOf3 g20.1 g20.2.1 rfl) ?_
  refine Qt.run rfl rfl (by decide) (Ev.load (i := 1) rfl rfl Try.isAgg3 ((Matrix.get_Rows (Get.vecN (s := 6) rfl g17.2.2 (Get.vecN (s := 1) rfl g20.2.2 (Get.here _)))).off (by omega))) ?_
  refine Qt.run rfl rfl (by decide) (Ev.add rfl rfl) ?_
  refine Qt.run rfl rfl (by decide) (Ev.fieldAddr (off' := 2) rfl Try.runUnderlying41 rfl Try.sizeOf39 rfl rfl) ?_
  obtain ⟨x21, h22, H⟩ := bind_some H
  have g23 := vat_some h22
  refine Qt.run rfl rfl (by decide) (Ev.indexAddr (off' := 2 + a0.Me.toNat * 6) rfl rfl Try.runUnderlying39 Try.sizeOf38 g23.1 g23.2.1 rfl) ?_
  obtain ⟨x24, h25, H⟩ := bind_some H
  have g26 := vat_some h25
  refine Qt.run rfl rfl (by decide) (Ev.indexAddr (off' := 2 + a0.Me.toNat * 6 + a0.Me.toNat * 1) rfl rfl Try.runUnderlying38 Try.sizeOf3 g26.1 g26.2.1 rfl) ?_
  refine Qt.tail ?_
  obtain ⟨p27, h28, H⟩ := Let_some H
  refine Lst.store (i := 1) rfl rfl rfl rfl rfl Try.sizeOf3 (vs := [.int .i64 (w64 (x18 + (1 : Int)))]) rfl rfl rfl (cs' := enc p27) (by rw [← h28]; exact (Matrix.put_Rows (Put.vecN (s := 6) rfl g23.2.2 (Put.vecN (s := 1) rfl g26.2.2 (Put.here (vs := [.int .i64 (w64 (x18 + (1 : Int)))]) (by rfl))))).off (by omega)) (L' := (.blk b3 (enc Matrix.zero) 41) :: (.blk b1 (enc p27) 41) :: L) rfl ?_
  refine Lst.nil ?_
  refine At.then ?_
  refine Cd.seq ?_
  refine Cd.region ?_
  refine Lst.run rfl rfl (by decide) (Ev.loadA (i := 1) rfl rfl Try.isAgg41 Try.sizeOf41 (ch := enc p27) (Enc.len _) (Get.here _)) ?_
  refine Lst.store (i := 0) rfl rfl rfl rfl rfl Try.sizeOf41 (vs := enc p27) rfl (Enc.len _) (Enc.one _) (cs' := enc p27) (Put.here ((Enc.len _).trans (Enc.len _).symm)) (L' := (.blk b3 (enc p27) 41) :: (.blk b1 (enc p27) 41) :: L) rfl ?_
  refine Lst.run rfl rfl (by decide) (Ev.assign rfl) ?_
  refine Lst.nil ?_
  refine At.then ?_
  obtain rfl := some_inj H
  refine Cd.ret ?_
  exact At.ret2 rfl (Res.cellA (i := 0) rfl rfl Try.isAgg41 Try.sizeOf41 (Enc.len _)) (Res.tmp rfl) (FLe.refl _) (List.Sublist.cons _ (List.Sublist.cons _ (List.Sublist.refl _))) ⟨rfl, rfl⟩
set_option maxRecDepth 20000 in
theorem vect_Max_sim {a0 : Vector Int 6} {a1 : Vector Int 6} {r : (Vector Int 6)} (H : vect_Max a0 a1 = some r) (w0 : World) (F : Frz) (L : List Item) : Ok Try.prog w0 33 [.agg (enc a0).toArray, .agg (enc a1).toArray] F L (Is (.agg (enc r).toArray) L) := by
  unfold vect_Max at H
  refine Ok.enter (m := 2) (n := 20) Try.func33 rfl rfl rfl (by decide) ?_
  refine Cd.env (e' := [(0, .agg (enc a0).toArray), (1, .agg (enc a1).toArray)]) rfl ?_
  refine Cd.seq ?_
  refine Cd.region ?_
  refine Lst.box rfl rfl (by decide) rfl (cs := enc a0) rfl (fun b1 => ?_)
  refine Lst.box rfl rfl (by decide) rfl (cs := enc a1) rfl (fun b3 => ?_)
  refine Lst.alloc rfl rfl (by decide) Try.zeroValue38 (cs := enc (Vector.replicate 6 (0 : Int))) rfl (fun b5 => ?_)
  refine Lst.nil ?_
  refine At.then ?_
  refine Cd.seq ?_
  refine Cd.seq ?_
  refine Cd.region ?_
  refine Lst.run rfl rfl (by decide) (Ev.move rfl) ?_
  refine Lst.nil ?_
  refine At.then ?_
  refine Cd.block ?_
  obtain ⟨ol7, H, HKl7⟩ := bind_some H
  refine Cd.loop (σ := Nat × Nat × (Vector Int 6)) (fun (i7, k7, y8) => [(2, .pointer (some ⟨b1, 0, none⟩)), (3, .pointer (some ⟨b3, 0, none⟩)), (4, .pointer (some ⟨b5, 0, none⟩)), (6, .int .i64 (i7 : Int))]) (fun (i7, k7, y8) => (.blk b5 (enc (Vector.replicate 6 (0 : Int))) 38) :: (.blk b3 (enc a1) 38) :: (.blk b1 (enc y8) 38) :: L) (fun _ => (fun (i7, k7, y8) => rangeF (vect_Max_L7 a1) k7 i7 y8 = some ol7 ∧ i7 + k7 = 6)) (fun (i7, k7, y8) => k7) (0, 6, a0) ⟨rfl, rfl, rfl, rfl, trivial⟩ rfl ⟨H, by omega⟩ ?_
  rintro F' ⟨i7, k7, y8⟩ hF' ⟨H, hik7⟩
  refine Cd.fle hF' ?_
  refine Cd.as (e' := [(2, .pointer (some ⟨b1, 0, none⟩)), (3, .pointer (some ⟨b3, 0, none⟩)), (4, .pointer (some ⟨b5, 0, none⟩)), (6, .int .i64 (i7 : Int))]) (L' := (.blk b5 (enc (Vector.replicate 6 (0 : Int))) 38) :: (.blk b3 (enc a1) 38) :: (.blk b1 (enc y8) 38) :: L) ⟨rfl, rfl, rfl, rfl, trivial⟩ rfl ?_
  rcases k7 with _ | k7
  · have hc7 : decide ((i7 : Int) < (6 : Int)) = false := decide_eq_false (by omega)
    replace H := rangeF_end H
    refine Cd.seq ?_
    refine Cd.region ?_
    refine Lst.run rfl rfl (by decide) (Ev.lss rfl rfl) ?_
    refine Lst.nil ?_
    refine At.then ?_
    refine Cd.seq ?_
    refine Cd.condF rfl hc7 ?_
    refine Cd.exit ?_
    refine At.then_exit ?_
    refine At.then_exit ?_
    refine At.in_exit ?_
    subst H
    replace H := HKl7
    refine At.then ?_
    refine Cd.seq ?_
    refine Cd.region ?_
    refine Lst.run rfl rfl (by decide) (Ev.loadA (i := 2) rfl rfl Try.isAgg38 Try.sizeOf38 (ch := enc y8) (Enc.len _) (Get.here _)) ?_
    refine Lst.store (i := 0) rfl rfl rfl rfl rfl Try.sizeOf38 (vs := enc y8) rfl (Enc.len _) (Enc.one _) (cs' := enc y8) (Put.here ((Enc.len _).trans (Enc.len _).symm)) (L' := (.blk b5 (enc y8) 38) :: (.blk b3 (enc a1) 38) :: (.blk b1 (enc y8) 38) :: L) rfl ?_
    refine Lst.nil ?_
    refine At.then ?_
    obtain rfl := some_inj H
    refine Cd.ret ?_
    exact At.ret1 rfl (Res.cellA (i := 0) rfl rfl Try.isAgg38 Try.sizeOf38 (Enc.len _)) (FLe.refl _) (List.Sublist.cons _ (List.Sublist.cons _ (List.Sublist.cons _ (List.Sublist.refl _)))) ⟨rfl, rfl⟩
  have hc7 : decide ((i7 : Int) < (6 : Int)) = true := decide_eq_true (by omega)
  obtain ⟨c7, H, hgo7⟩ := rangeF_go H
  unfold vect_Max_L7 at H
  try dsimp only at H
  refine Cd.seq ?_
  refine Cd.region ?_
  refine Lst.run rfl rfl (by decide) (Ev.lss rfl rfl) ?_
  refine Lst.nil ?_
  refine At.then ?_
  refine Cd.seq ?_
  refine Cd.condT rfl hc7 ?_
  refine Cd.skip ?_
  refine At.then ?_
  refine Cd.seq ?_
  refine Cd.block ?_
  refine Cd.seq ?_
  refine Cd.region ?_
  refine Lst.run rfl rfl (by decide) (Ev.move rfl) ?_
  refine Lst.run rfl rfl (by decide) (Ev.assign rfl) ?_
  refine Lst.nil ?_
  refine At.then ?_
  refine Cd.tail 9 (by kernel_rfl) (by kernel_rfl) ?_
  refine Qt.run rfl rfl (by decide) (Ev.move rfl) ?_
  refine Qt.run rfl rfl (by decide) (Ev.move rfl) ?_
  obtain ⟨x9, h10, H⟩ := bind_some H
  have g11 := vat_some h10
  refine Qt.run rfl rfl (by decide) (Ev.indexAddr (off' := 0 + (i7 : Int).toNat * 1) rfl rfl Try.runUnderlying38 Try.sizeOf3 g11.1 g11.2.1 rfl) ?_
  refine Qt.run rfl rfl (by decide) (Ev.load (i := 2) rfl rfl Try.isAgg3 ((Get.vecN (s := 1) rfl g11.2.2 (Get.here _)).off (by omega))) ?_
  refine Qt.run rfl rfl (by decide) (Ev.move rfl) ?_
  obtain ⟨x12, h13, H⟩ := bind_some H
  have g14 := vat_some h13
  refine Qt.run rfl rfl (by decide) (Ev.indexAddr (off' := 0 + (i7 : Int).toNat * 1) rfl rfl Try.runUnderlying38 Try.sizeOf3 g14.1 g14.2.1 rfl) ?_
  refine Qt.run rfl rfl (by decide) (Ev.load (i := 1) rfl rfl Try.isAgg3 ((Get.vecN (s := 1) rfl g14.2.2 (Get.here _)).off (by omega))) ?_
  refine Qt.run rfl rfl (by decide) (Ev.max2 rfl rfl) ?_
  obtain ⟨x15, h16, H⟩ := bind_some H
  have g17 := vat_some h16
  refine Qt.run rfl rfl (by decide) (Ev.indexAddr (off' := 0 + (i7 : Int).toNat * 1) rfl rfl Try.runUnderlying38 Try.sizeOf3 g17.1 g17.2.1 rfl) ?_
  refine Qt.tail ?_
  obtain ⟨p18, h19, H⟩ := Let_some H
  refine Lst.store (i := 2) rfl rfl rfl rfl rfl Try.sizeOf3 (vs := [.int .i64 (max x9 x12)]) rfl rfl rfl (cs' := enc p18) (by rw [← h19]; exact (Put.vecN (s := 1) rfl g17.2.2 (Put.here (vs := [.int .i64 (max x9 x12)]) (by rfl))).off (by omega)) (L' := (.blk b5 (enc (Vector.replicate 6 (0 : Int))) 38) :: (.blk b3 (enc a1) 38) :: (.blk b1 (enc p18) 38) :: L) rfl ?_
  refine Lst.nil ?_
  refine At.in_normal ?_
  refine At.then ?_
  refine Cd.region ?_
  refine Lst.run rfl rfl (by decide) (Ev.incr (by omega) rfl rfl) ?_
  refine Lst.run rfl rfl (by decide) (Ev.move rfl) ?_
  refine Lst.nil ?_
  exact At.meet (i7 + 1, k7, p18) (FLe.refl _) ⟨rfl, rfl, rfl, rfl, trivial⟩ rfl ⟨⟨hgo7 _ (some_inj H).symm, by omega⟩, Nat.lt_succ_self _⟩
set_option maxRecDepth 20000 in
theorem mat_Meet_sim {a0 : Matrix} {a1 : Matrix} {r : Matrix × Int} (H : mat_Meet a0 a1 = some r) (w0 : World) (F : Frz) (L : List Item) : Ok Try.prog w0 16 [.agg (enc a0).toArray, .agg (enc a1).toArray] F L (Is (.tuple #[.agg (enc r.1).toArray, .int .i64 r.2]) L) := by
  unfold mat_Meet at H
  refine Ok.enter (m := 2) (n := 70) Try.func16 rfl rfl rfl (by decide) ?_
  refine Cd.env (e' := [(0, .agg (enc a0).toArray), (1, .agg (enc a1).toArray)]) rfl ?_
  refine Cd.seq ?_
  refine Cd.region ?_
  refine Lst.box rfl rfl (by decide) rfl (cs := enc a0) rfl (fun b1 => ?_)
  refine Lst.box rfl rfl (by decide) rfl (cs := enc a1) rfl (fun b3 => ?_)
  refine Lst.alloc rfl rfl (by decide) Try.zeroValue41 (cs := enc Matrix.zero) rfl (fun b5 => ?_)
  refine Lst.run rfl rfl (by decide) (Ev.assign rfl) ?_
  refine Lst.nil ?_
  refine At.then ?_
  refine Cd.seq ?_
  refine Cd.seq ?_
  refine Cd.region ?_
  refine Lst.run rfl rfl (by decide) (Ev.loadA (i := 2) rfl rfl Try.isAgg41 Try.sizeOf41 (ch := enc a0) (Enc.len _) (Get.here _)) ?_
  refine Lst.run rfl rfl (by decide) (Ev.loadA (i := 1) rfl rfl Try.isAgg41 Try.sizeOf41 (ch := enc a1) (Enc.len _) (Get.here _)) ?_
  refine Lst.buildSlice (α := Matrix) (xs := ([a0, a1] : List Matrix)) (pv := [(0, .agg (enc a0).toArray), (1, .agg (enc a1).toArray)]) rfl rfl (by decide) ⟨rfl, rfl, ⟨rfl, rfl, trivial⟩⟩ (run_buildSlice (α := Matrix) (z0 := Matrix.zero) (xs := ([a0, a1] : List Matrix)) Try.runUnderlying73 Try.sizeOf41 Try.zeroValue41 rfl rfl rfl (by decide) rfl (fill_cons (cs := encs (List.replicate 2 Matrix.zero)) (cs' := encs ((List.replicate 2 Matrix.zero).set 0 a0)) (vs := enc a0) rfl rfl (Enc.len _) ((Put.elemN (s := 38) (i := 0) (x := Matrix.zero) (y := a0) rfl rfl (Put.here ((Enc.len _).trans (Enc.len _).symm))).off rfl) (fill_cons (cs := encs ((List.replicate 2 Matrix.zero).set 0 a0)) (cs' := encs (((List.replicate 2 Matrix.zero).set 0 a0).set 1 a1)) (vs := enc a1) rfl rfl (Enc.len _) ((Put.elemN (s := 38) (i := 1) (x := Matrix.zero) (y := a1) rfl rfl (Put.here ((Enc.len _).trans (Enc.len _).symm))).off rfl) fill_nil))) rfl rfl (by decide) (fun s7 _ => ?_)
  refine Lst.run rfl rfl (by decide) (Ev.lenS (α := Matrix) (by decide) rfl rfl Try.runUnderlying73 (Rd.own (i := 0) rfl rfl rfl)) ?_
  refine Lst.run rfl rfl (by decide) (Ev.move rfl) ?_
  refine Lst.nil ?_
  refine At.then ?_
  refine Cd.block ?_
  refine Cd.bound (Rd.le (by decide) (Rd.own (i := 0) rfl rfl rfl)) (fun hN53 => ?_)
  obtain ⟨ol9, H, HKl9⟩ := andThen_some H
  refine Cd.loop (σ := Nat × Nat × Unit) (fun (i9, k9, _u) => [(2, .pointer (some ⟨b1, 0, none⟩)), (3, .pointer (some ⟨b3, 0, none⟩)), (4, .pointer (some ⟨b5, 0, none⟩)), (12, Sl.v s7), (13, .int .i64 (([a0, a1] : List Matrix).length : Int)), (14, .int .i64 (i9 : Int))]) (fun (i9, k9, _u) => (.own s7 41 38 (encs ([a0, a1] : List Matrix))) :: (.blk b5 (enc Matrix.zero) 41) :: (.blk b3 (enc a1) 41) :: (.blk b1 (enc a0) 41) :: L) (fun _ => (fun (i9, k9, _u) => rangeM (mat_Meet_L9 a0 a1) k9 i9 () = some ol9 ∧ i9 + k9 = ([a0, a1] : List Matrix).length)) (fun (i9, k9, _u) => k9) (0, ([a0, a1] : List Matrix).length, ()) ⟨rfl, rfl, rfl, rfl, rfl, rfl, trivial⟩ rfl ⟨H, by omega⟩ ?_
  rintro F' ⟨i9, k9, _u⟩ hF' ⟨H, hik9⟩
  refine Cd.fle hF' ?_
  refine Cd.as (e' := [(2, .pointer (some ⟨b1, 0, none⟩)), (3, .pointer (some ⟨b3, 0, none⟩)), (4, .pointer (some ⟨b5, 0, none⟩)), (12, Sl.v s7), (13, .int .i64 (([a0, a1] : List Matrix).length : Int)), (14, .int .i64 (i9 : Int))]) (L' := (.own s7 41 38 (encs ([a0, a1] : List Matrix))) :: (.blk b5 (enc Matrix.zero) 41) :: (.blk b3 (enc a1) 41) :: (.blk b1 (enc a0) 41) :: L) ⟨rfl, rfl, rfl, rfl, rfl, rfl, trivial⟩ rfl ?_
  rcases k9 with _ | k9
  · have hc9 : decide ((i9 : Int) < (([a0, a1] : List Matrix).length : Int)) = false := decide_eq_false (by omega)
    replace H := rangeM_end H
    refine Cd.seq ?_
    refine Cd.region ?_
    refine Lst.run rfl rfl (by decide) (Ev.lss rfl rfl) ?_
    refine Lst.nil ?_
    refine At.then ?_
    refine Cd.seq ?_
    refine Cd.condF rfl hc9 ?_
    refine Cd.exit ?_
    refine At.then_exit ?_
    refine At.then_exit ?_
    refine At.in_exit ?_
    subst H
    replace H := HKl9
    refine At.then ?_
    refine Cd.seq ?_
    obtain ⟨o18, H, HKo18⟩ := bind_some H
    refine Cd.join (σ := Bool) (fun y22 => [(2, .pointer (some ⟨b1, 0, none⟩)), (3, .pointer (some ⟨b3, 0, none⟩)), (4, .pointer (some ⟨b5, 0, none⟩)), (36, .bool y22)]) (fun y22 => (.own s7 41 38 (encs ([a0, a1] : List Matrix))) :: (.blk b5 (enc Matrix.zero) 41) :: (.blk b3 (enc a1) 41) :: (.blk b1 (enc a0) 41) :: L) (fun _ y22 => y22 = o18) ?_ ?_
    · refine Cd.region ?_
      refine Lst.run rfl rfl (by decide) (Ev.fieldAddr (off' := 0) rfl Try.runUnderlying41 rfl Try.sizeOf3 rfl rfl) ?_
      refine Lst.run rfl rfl (by decide) (Ev.load (i := 3) rfl rfl Try.isAgg3 ((Matrix.get_N (Get.here _)).off (by rfl))) ?_
      refine Lst.run rfl rfl (by decide) (Ev.fieldAddr (off' := 0) rfl Try.runUnderlying41 rfl Try.sizeOf3 rfl rfl) ?_
      refine Lst.run rfl rfl (by decide) (Ev.load (i := 2) rfl rfl Try.isAgg3 ((Matrix.get_N (Get.here _)).off (by rfl))) ?_
      refine Lst.run rfl rfl (by decide) (Ev.neq rfl rfl) ?_
      refine Lst.run rfl rfl (by decide) (Ev.move rfl) ?_
      rcases Bool.eq_false_or_eq_true (a0.N != a1.N) with hb19 | hb19
      · replace H := ite_t hb19 H
        refine Lst.skip rfl rfl rfl hb19 rfl (by decide) ?_
        refine Lst.skip rfl rfl rfl hb19 rfl (by decide) ?_
        refine Lst.skip rfl rfl rfl hb19 rfl (by decide) ?_
        refine Lst.skip rfl rfl rfl hb19 rfl (by decide) ?_
        refine Lst.skip rfl rfl rfl hb19 rfl (by decide) ?_
        refine Lst.run rfl rfl (by decide) (Ev.pickT rfl hb19 rfl) ?_
        refine Lst.nil ?_
        exact At.meet true (FLe.refl _) ⟨rfl, rfl, rfl, rfl, trivial⟩ rfl (some_inj H)
      replace H := ite_f hb19 H
      refine Lst.runG rfl rfl rfl hb19 rfl (by decide) (Ev.fieldAddr (off' := 1) rfl Try.runUnderlying41 rfl Try.sizeOf3 rfl rfl) ?_
      refine Lst.runG rfl rfl rfl hb19 rfl (by decide) (Ev.load (i := 3) rfl rfl Try.isAgg3 ((Matrix.get_Me (Get.here _)).off (by rfl))) ?_
      refine Lst.runG rfl rfl rfl hb19 rfl (by decide) (Ev.fieldAddr (off' := 1) rfl Try.runUnderlying41 rfl Try.sizeOf3 rfl rfl) ?_
      refine Lst.runG rfl rfl rfl hb19 rfl (by decide) (Ev.load (i := 2) rfl rfl Try.isAgg3 ((Matrix.get_Me (Get.here _)).off (by rfl))) ?_
      refine Lst.runG rfl rfl rfl hb19 rfl (by decide) (Ev.eql rfl rfl) ?_
      refine Lst.run rfl rfl (by decide) (Ev.pickF rfl hb19 rfl) ?_
      refine Lst.nil ?_
      exact At.meet (a0.Me == a1.Me) (FLe.refl _) ⟨rfl, rfl, rfl, rfl, trivial⟩ rfl (some_inj H)
    rintro F' y22 hF' hy
    subst hy
    refine Cd.fle hF' ?_
    refine Cd.as (e' := [(2, .pointer (some ⟨b1, 0, none⟩)), (3, .pointer (some ⟨b3, 0, none⟩)), (4, .pointer (some ⟨b5, 0, none⟩)), (36, .bool y22)]) (L' := (.own s7 41 38 (encs ([a0, a1] : List Matrix))) :: (.blk b5 (enc Matrix.zero) 41) :: (.blk b3 (enc a1) 41) :: (.blk b1 (enc a0) 41) :: L) ⟨rfl, rfl, rfl, rfl, trivial⟩ rfl ?_
    replace H := HKo18
    rcases Bool.eq_false_or_eq_true y22 with hb24 | hb24
    · replace H := ite_t hb24 H
      refine Cd.condT rfl hb24 ?_
      refine Cd.seq ?_
      refine Cd.region ?_
      refine Lst.run rfl rfl (by decide) (Ev.build (v := .agg (enc (Matrix.zero : Matrix)).toArray) (pv := []) trivial (fun w => by kernel_rfl)) ?_
      refine Lst.store (i := 1) rfl rfl rfl rfl rfl Try.sizeOf41 (vs := enc (Matrix.zero : Matrix)) rfl (Enc.len _) (Enc.one _) (cs' := enc (Matrix.zero : Matrix)) (Put.here ((Enc.len _).trans (Enc.len _).symm)) (L' := (.own s7 41 38 (encs ([a0, a1] : List Matrix))) :: (.blk b5 (enc (Matrix.zero : Matrix)) 41) :: (.blk b3 (enc a1) 41) :: (.blk b1 (enc a0) 41) :: L) rfl ?_
      refine Lst.run rfl rfl (by decide) (Ev.assign rfl) ?_
      refine Lst.nil ?_
      refine At.then ?_
      obtain rfl := some_inj H
      refine Cd.ret ?_
      refine At.then_ret ?_
      exact At.ret2 rfl (Res.cellA (i := 1) rfl rfl Try.isAgg41 Try.sizeOf41 (Enc.len _)) (Res.tmp rfl) (FLe.refl _) (List.Sublist.cons _ (List.Sublist.cons _ (List.Sublist.cons _ (List.Sublist.cons _ (List.Sublist.refl _))))) ⟨rfl, rfl⟩
    replace H := ite_f hb24 H
    refine Cd.condF rfl hb24 ?_
    refine Cd.skip ?_
    refine At.then ?_
    refine Cd.seq ?_
    refine Cd.seq ?_
    refine Cd.region ?_
    refine Lst.run rfl rfl (by decide) (Ev.move rfl) ?_
    refine Lst.nil ?_
    refine At.then ?_
    refine Cd.block ?_
    obtain ⟨ol25, H, HKl25⟩ := bind_some H
    refine Cd.loop (σ := Nat × Nat × Matrix) (fun (i25, k25, y26) => [(2, .pointer (some ⟨b1, 0, none⟩)), (3, .pointer (some ⟨b3, 0, none⟩)), (4, .pointer (some ⟨b5, 0, none⟩)), (38, .int .i64 (i25 : Int))]) (fun (i25, k25, y26) => (.own s7 41 38 (encs ([a0, a1] : List Matrix))) :: (.blk b5 (enc Matrix.zero) 41) :: (.blk b3 (enc a1) 41) :: (.blk b1 (enc y26) 41) :: L) (fun _ => (fun (i25, k25, y26) => rangeF (mat_Meet_L25 a1) k25 i25 y26 = some ol25 ∧ i25 + k25 = 6)) (fun (i25, k25, y26) => k25) (0, 6, a0) ⟨rfl, rfl, rfl, rfl, trivial⟩ rfl ⟨H, by omega⟩ ?_
    rintro F' ⟨i25, k25, y26⟩ hF' ⟨H, hik25⟩
    refine Cd.fle hF' ?_
    refine Cd.as (e' := [(2, .pointer (some ⟨b1, 0, none⟩)), (3, .pointer (some ⟨b3, 0, none⟩)), (4, .pointer (some ⟨b5, 0, none⟩)), (38, .int .i64 (i25 : Int))]) (L' := (.own s7 41 38 (encs ([a0, a1] : List Matrix))) :: (.blk b5 (enc Matrix.zero) 41) :: (.blk b3 (enc a1) 41) :: (.blk b1 (enc y26) 41) :: L) ⟨rfl, rfl, rfl, rfl, trivial⟩ rfl ?_
    rcases k25 with _ | k25
    · have hc25 : decide ((i25 : Int) < (6 : Int)) = false := decide_eq_false (by omega)
      replace H := rangeF_end H
      refine Cd.seq ?_
      refine Cd.region ?_
      refine Lst.run rfl rfl (by decide) (Ev.lss rfl rfl) ?_
      refine Lst.nil ?_
      refine At.then ?_
      refine Cd.seq ?_
      refine Cd.condF rfl hc25 ?_
      refine Cd.exit ?_
      refine At.then_exit ?_
      refine At.then_exit ?_
      refine At.in_exit ?_
      subst H
      replace H := HKl25
      refine At.then ?_
      refine Cd.seq ?_
      refine Cd.tail 15 (by kernel_rfl) (by kernel_rfl) ?_
      refine Qt.run rfl rfl (by decide) (Ev.fieldAddr (off' := 1) rfl Try.runUnderlying41 rfl Try.sizeOf3 rfl rfl) ?_
      refine Qt.run rfl rfl (by decide) (Ev.load (i := 3) rfl rfl Try.isAgg3 ((Matrix.get_Me (Get.here _)).off (by rfl))) ?_
      refine Qt.run rfl rfl (by decide) (Ev.fieldAddr (off' := 1) rfl Try.runUnderlying41 rfl Try.sizeOf3 rfl rfl) ?_
      refine Qt.run rfl rfl (by decide) (Ev.load (i := 3) rfl rfl Try.isAgg3 ((Matrix.get_Me (Get.here _)).off (by rfl))) ?_
      refine Qt.run rfl rfl (by decide) (Ev.fieldAddr (off' := 2) rfl Try.runUnderlying41 rfl Try.sizeOf39 rfl rfl) ?_
      obtain ⟨x40, h41, H⟩ := bind_some H
      have g42 := vat_some h41
      refine Qt.run rfl rfl (by decide) (Ev.indexAddr (off' := 2 + y26.Me.toNat * 6) rfl rfl Try.runUnderlying39 Try.sizeOf38 g42.1 g42.2.1 rfl) ?_
      refine Qt.run rfl rfl (by decide) (Ev.loadA (i := 3) rfl rfl Try.isAgg38 Try.sizeOf38 (ch := enc x40) (Enc.len _) ((Matrix.get_Rows (Get.vecN (s := 6) rfl g42.2.2 (Get.here _))).off (by omega))) ?_
      refine Qt.run rfl rfl (by decide) (Ev.fieldAddr (off' := 1) rfl Try.runUnderlying41 rfl Try.sizeOf3 rfl rfl) ?_
      refine Qt.run rfl rfl (by decide) (Ev.load (i := 2) rfl rfl Try.isAgg3 ((Matrix.get_Me (Get.here _)).off (by rfl))) ?_
      refine Qt.run rfl rfl (by decide) (Ev.fieldAddr (off' := 2) rfl Try.runUnderlying41 rfl Try.sizeOf39 rfl rfl) ?_
      obtain ⟨x43, h44, H⟩ := bind_some H
      have g45 := vat_some h44
      refine Qt.run rfl rfl (by decide) (Ev.indexAddr (off' := 2 + a1.Me.toNat * 6) rfl rfl Try.runUnderlying39 Try.sizeOf38 g45.1 g45.2.1 rfl) ?_
      refine Qt.run rfl rfl (by decide) (Ev.loadA (i := 2) rfl rfl Try.isAgg38 Try.sizeOf38 (ch := enc x43) (Enc.len _) ((Matrix.get_Rows (Get.vecN (s := 6) rfl g45.2.2 (Get.here _))).off (by omega))) ?_
      obtain ⟨r46, h47, H⟩ := bind_some H
      refine Qt.call rfl rfl (by decide) (vs := [.agg (enc x40).toArray, .agg (enc x43).toArray]) ⟨rfl, rfl, trivial⟩ Try.call33 (vect_Max_sim h47 w0 _ _) ?_
      refine Qt.run rfl rfl (by decide) (Ev.fieldAddr (off' := 2) rfl Try.runUnderlying41 rfl Try.sizeOf39 rfl rfl) ?_
      obtain ⟨x48, h49, H⟩ := bind_some H
      have g50 := vat_some h49
      refine Qt.run rfl rfl (by decide) (Ev.indexAddr (off' := 2 + y26.Me.toNat * 6) rfl rfl Try.runUnderlying39 Try.sizeOf38 g50.1 g50.2.1 rfl) ?_
      refine Qt.tail ?_
      obtain ⟨p51, h52, H⟩ := Let_some H
      refine Lst.store (i := 3) rfl rfl rfl rfl rfl Try.sizeOf38 (vs := enc r46) rfl (Enc.len _) (Enc.one _) (cs' := enc p51) (by rw [← h52]; exact (Matrix.put_Rows (Put.vecN (s := 6) rfl g50.2.2 (Put.here ((Enc.len _).trans (Enc.len _).symm)))).off (by omega)) (L' := (.own s7 41 38 (encs ([a0, a1] : List Matrix))) :: (.blk b5 (enc Matrix.zero) 41) :: (.blk b3 (enc a1) 41) :: (.blk b1 (enc p51) 41) :: L) rfl ?_
      refine Lst.nil ?_
      refine At.then ?_
      refine Cd.seq ?_
      refine Cd.as (e' := [(2, .pointer (some ⟨b1, 0, none⟩)), (4, .pointer (some ⟨b5, 0, none⟩))]) (L' := (.own s7 41 38 (encs ([a0, a1] : List Matrix))) :: (.blk b5 (enc Matrix.zero) 41) :: (.blk b3 (enc a1) 41) :: (.blk b1 (enc p51) 41) :: L) ⟨rfl, rfl, trivial⟩ rfl ?_
      refine Cd.region ?_
      refine Lst.run rfl rfl (by decide) (Ev.loadA (i := 3) rfl rfl Try.isAgg41 Try.sizeOf41 (ch := enc p51) (Enc.len _) (Get.here _)) ?_
      refine Lst.store (i := 1) rfl rfl rfl rfl rfl Try.sizeOf41 (vs := enc p51) rfl (Enc.len _) (Enc.one _) (cs' := enc p51) (Put.here ((Enc.len _).trans (Enc.len _).symm)) (L' := (.own s7 41 38 (encs ([a0, a1] : List Matrix))) :: (.blk b5 (enc p51) 41) :: (.blk b3 (enc a1) 41) :: (.blk b1 (enc p51) 41) :: L) rfl ?_
      refine Lst.run rfl rfl (by decide) (Ev.assign rfl) ?_
      refine Lst.nil ?_
      refine At.then ?_
      obtain rfl := some_inj H
      refine Cd.ret ?_
      exact At.ret2 rfl (Res.cellA (i := 1) rfl rfl Try.isAgg41 Try.sizeOf41 (Enc.len _)) (Res.tmp rfl) (FLe.refl _) (List.Sublist.cons _ (List.Sublist.cons _ (List.Sublist.cons _ (List.Sublist.cons _ (List.Sublist.refl _))))) ⟨rfl, rfl⟩
    have hc25 : decide ((i25 : Int) < (6 : Int)) = true := decide_eq_true (by omega)
    obtain ⟨c25, H, hgo25⟩ := rangeF_go H
    unfold mat_Meet_L25 at H
    try dsimp only at H
    refine Cd.seq ?_
    refine Cd.region ?_
    refine Lst.run rfl rfl (by decide) (Ev.lss rfl rfl) ?_
    refine Lst.nil ?_
    refine At.then ?_
    refine Cd.seq ?_
    refine Cd.condT rfl hc25 ?_
    refine Cd.skip ?_
    refine At.then ?_
    refine Cd.seq ?_
    refine Cd.block ?_
    refine Cd.seq ?_
    refine Cd.region ?_
    refine Lst.run rfl rfl (by decide) (Ev.move rfl) ?_
    refine Lst.run rfl rfl (by decide) (Ev.assign rfl) ?_
    refine Lst.nil ?_
    refine At.then ?_
    refine Cd.tail 12 (by kernel_rfl) (by kernel_rfl) ?_
    refine Qt.run rfl rfl (by decide) (Ev.move rfl) ?_
    refine Qt.run rfl rfl (by decide) (Ev.move rfl) ?_
    refine Qt.run rfl rfl (by decide) (Ev.fieldAddr (off' := 2) rfl Try.runUnderlying41 rfl Try.sizeOf39 rfl rfl) ?_
    obtain ⟨x27, h28, H⟩ := bind_some H
    have g29 := vat_some h28
    refine Qt.run rfl rfl (by decide) (Ev.indexAddr (off' := 2 + (i25 : Int).toNat * 6) rfl rfl Try.runUnderlying39 Try.sizeOf38 g29.1 g29.2.1 rfl) ?_
    refine Qt.run rfl rfl (by decide) (Ev.loadA (i := 3) rfl rfl Try.isAgg38 Try.sizeOf38 (ch := enc x27) (Enc.len _) ((Matrix.get_Rows (Get.vecN (s := 6) rfl g29.2.2 (Get.here _))).off (by omega))) ?_
    refine Qt.run rfl rfl (by decide) (Ev.move rfl) ?_
    refine Qt.run rfl rfl (by decide) (Ev.fieldAddr (off' := 2) rfl Try.runUnderlying41 rfl Try.sizeOf39 rfl rfl) ?_
    obtain ⟨x30, h31, H⟩ := bind_some H
    have g32 := vat_some h31
    refine Qt.run rfl rfl (by decide) (Ev.indexAddr (off' := 2 + (i25 : Int).toNat * 6) rfl rfl Try.runUnderlying39 Try.sizeOf38 g32.1 g32.2.1 rfl) ?_
    refine Qt.run rfl rfl (by decide) (Ev.loadA (i := 2) rfl rfl Try.isAgg38 Try.sizeOf38 (ch := enc x30) (Enc.len _) ((Matrix.get_Rows (Get.vecN (s := 6) rfl g32.2.2 (Get.here _))).off (by omega))) ?_
    obtain ⟨r33, h34, H⟩ := bind_some H
    refine Qt.call rfl rfl (by decide) (vs := [.agg (enc x27).toArray, .agg (enc x30).toArray]) ⟨rfl, rfl, trivial⟩ Try.call33 (vect_Max_sim h34 w0 _ _) ?_
    refine Qt.run rfl rfl (by decide) (Ev.fieldAddr (off' := 2) rfl Try.runUnderlying41 rfl Try.sizeOf39 rfl rfl) ?_
    obtain ⟨x35, h36, H⟩ := bind_some H
    have g37 := vat_some h36
    refine Qt.run rfl rfl (by decide) (Ev.indexAddr (off' := 2 + (i25 : Int).toNat * 6) rfl rfl Try.runUnderlying39 Try.sizeOf38 g37.1 g37.2.1 rfl) ?_
    refine Qt.tail ?_
    obtain ⟨p38, h39, H⟩ := Let_some H
    refine Lst.store (i := 3) rfl rfl rfl rfl rfl Try.sizeOf38 (vs := enc r33) rfl (Enc.len _) (Enc.one _) (cs' := enc p38) (by rw [← h39]; exact (Matrix.put_Rows (Put.vecN (s := 6) rfl g37.2.2 (Put.here ((Enc.len _).trans (Enc.len _).symm)))).off (by omega)) (L' := (.own s7 41 38 (encs ([a0, a1] : List Matrix))) :: (.blk b5 (enc Matrix.zero) 41) :: (.blk b3 (enc a1) 41) :: (.blk b1 (enc p38) 41) :: L) rfl ?_
    refine Lst.nil ?_
    refine At.in_normal ?_
    refine At.then ?_
    refine Cd.as (e' := [(2, .pointer (some ⟨b1, 0, none⟩)), (3, .pointer (some ⟨b3, 0, none⟩)), (4, .pointer (some ⟨b5, 0, none⟩)), (38, .int .i64 (i25 : Int))]) (L' := (.own s7 41 38 (encs ([a0, a1] : List Matrix))) :: (.blk b5 (enc Matrix.zero) 41) :: (.blk b3 (enc a1) 41) :: (.blk b1 (enc p38) 41) :: L) ⟨rfl, rfl, rfl, rfl, trivial⟩ rfl ?_
    refine Cd.region ?_
    refine Lst.run rfl rfl (by decide) (Ev.incr (by omega) rfl rfl) ?_
    refine Lst.run rfl rfl (by decide) (Ev.move rfl) ?_
    refine Lst.nil ?_
    exact At.meet (i25 + 1, k25, p38) (FLe.refl _) ⟨rfl, rfl, rfl, rfl, trivial⟩ rfl ⟨⟨hgo25 _ (some_inj H).symm, by omega⟩, Nat.lt_succ_self _⟩
  have hc9 : decide ((i9 : Int) < (([a0, a1] : List Matrix).length : Int)) = true := decide_eq_true (by omega)
  obtain ⟨c9, H, hgo9, hbrk9, hret9⟩ := rangeM_go H
  unfold mat_Meet_L9 at H
  try dsimp only at H
  refine Cd.seq ?_
  refine Cd.region ?_
  refine Lst.run rfl rfl (by decide) (Ev.lss rfl rfl) ?_
  refine Lst.nil ?_
  refine At.then ?_
  refine Cd.seq ?_
  refine Cd.condT rfl hc9 ?_
  refine Cd.skip ?_
  refine At.then ?_
  refine Cd.seq ?_
  refine Cd.block ?_
  refine Cd.seq ?_
  refine Cd.region ?_
  obtain ⟨x10, h11, H⟩ := bind_some H
  have g12 := lat_some h11
  refine Lst.run rfl rfl (by decide) (Ev.indexS (α := Matrix) (xs := ([a0, a1] : List Matrix)) rfl rfl Try.runUnderlying73 Try.sizeOf41 rfl (by decide) (Rd.own (i := 0) rfl rfl rfl) g12.1 g12.2.1) ?_
  refine Lst.run rfl rfl (by decide) (Ev.loadSA (α := Matrix) rfl (Rd.own (i := 0) rfl rfl rfl) Try.isAgg41 Try.sizeOf41 (ch := enc x10) (Enc.len _) (by decide) ((Get.elemN (s := 38) rfl g12.2.2 (Get.here _)).off (by omega))) ?_
  refine Lst.alloc rfl rfl (by decide) Try.zeroValue41 (cs := enc Matrix.zero) rfl (fun b13 => ?_)
  refine Lst.store (i := 0) rfl rfl rfl rfl rfl Try.sizeOf41 (vs := enc x10) rfl (Enc.len _) (Enc.one _) (cs' := enc x10) (Put.here ((Enc.len _).trans (Enc.len _).symm)) (L' := (.blk b13 (enc x10) 41) :: (.own s7 41 38 (encs ([a0, a1] : List Matrix))) :: (.blk b5 (enc Matrix.zero) 41) :: (.blk b3 (enc a1) 41) :: (.blk b1 (enc a0) 41) :: L) rfl ?_
  refine Lst.nil ?_
  refine At.then ?_
  refine Cd.seq ?_
  refine Cd.region ?_
  refine Lst.run rfl rfl (by decide) (Ev.loadA (i := 0) rfl rfl Try.isAgg41 Try.sizeOf41 (ch := enc x10) (Enc.len _) (Get.here _)) ?_
  obtain ⟨r15, h16, H⟩ := bind_some H
  refine Lst.call1 rfl rfl (by decide) (vs := [.agg (enc x10).toArray]) ⟨rfl, trivial⟩ Try.call18 (mat_Check_sim h16 w0 _ _) ?_
  refine Lst.run rfl rfl (by decide) (Ev.assign rfl) ?_
  refine Lst.nil ?_
  refine At.then ?_
  refine Cd.seq ?_
  refine Cd.region ?_
  refine Lst.run rfl rfl (by decide) (Ev.move rfl) ?_
  refine Lst.run rfl rfl (by decide) (Ev.neq rfl rfl) ?_
  refine Lst.nil ?_
  refine At.then ?_
  rcases Bool.eq_false_or_eq_true (r15 != (0 : Int)) with hb17 | hb17
  · replace H := ite_t hb17 H
    refine Cd.condT rfl hb17 ?_
    refine Cd.seq ?_
    refine Cd.region ?_
    refine Lst.run rfl rfl (by decide) (Ev.build (v := .agg (enc (Matrix.zero : Matrix)).toArray) (pv := []) trivial (fun w => by kernel_rfl)) ?_
    refine Lst.run rfl rfl (by decide) (Ev.move rfl) ?_
    refine Lst.store (i := 2) rfl rfl rfl rfl rfl Try.sizeOf41 (vs := enc (Matrix.zero : Matrix)) rfl (Enc.len _) (Enc.one _) (cs' := enc (Matrix.zero : Matrix)) (Put.here ((Enc.len _).trans (Enc.len _).symm)) (L' := (.blk b13 (enc x10) 41) :: (.own s7 41 38 (encs ([a0, a1] : List Matrix))) :: (.blk b5 (enc (Matrix.zero : Matrix)) 41) :: (.blk b3 (enc a1) 41) :: (.blk b1 (enc a0) 41) :: L) rfl ?_
    refine Lst.run rfl rfl (by decide) (Ev.assign rfl) ?_
    refine Lst.nil ?_
    refine At.then ?_
    have H := hret9 _ (some_inj H).symm
    subst H
    replace H := HKl9
    obtain rfl := some_inj H
    refine Cd.ret ?_
    refine At.in_ret ?_
    refine At.then_ret ?_
    refine At.then_ret ?_
    refine At.in_ret ?_
    refine At.then_ret ?_
    exact At.ret2 rfl (Res.cellA (i := 2) rfl rfl Try.isAgg41 Try.sizeOf41 (Enc.len _)) (Res.tmp rfl) (FLe.refl _) (List.Sublist.cons _ (List.Sublist.cons _ (List.Sublist.cons _ (List.Sublist.cons _ (List.Sublist.cons _ (List.Sublist.refl _)))))) ⟨rfl, rfl⟩
  replace H := ite_f hb17 H
  refine Cd.condF rfl hb17 ?_
  refine Cd.skip ?_
  refine At.in_normal ?_
  refine At.then ?_
  refine Cd.region ?_
  refine Lst.run rfl rfl (by decide) (Ev.incr (by omega) rfl rfl) ?_
  refine Lst.run rfl rfl (by decide) (Ev.move rfl) ?_
  refine Lst.nil ?_
  refine At.less (L' := (.own s7 41 38 (encs ([a0, a1] : List Matrix))) :: (.blk b5 (enc Matrix.zero) 41) :: (.blk b3 (enc a1) 41) :: (.blk b1 (enc a0) 41) :: L) (List.Sublist.cons _ (List.Sublist.cons_cons _ (List.Sublist.cons_cons _ (List.Sublist.cons_cons _ (List.Sublist.cons_cons _ (List.Sublist.refl _)))))) ?_
  exact At.meet (i9 + 1, k9, ()) (FLe.refl _) ⟨rfl, rfl, rfl, rfl, rfl, rfl, trivial⟩ rfl ⟨⟨hgo9 _ (some_inj H).symm, by omega⟩, Nat.lt_succ_self _⟩
set_option maxRecDepth 20000 in
theorem vect_Min_sim {a0 : Vector Int 6} {a1 : Vector Int 6} {r : (Vector Int 6)} (H : vect_Min a0 a1 = some r) (w0 : World) (F : Frz) (L : List Item) : Ok Try.prog w0 34 [.agg (enc a0).toArray, .agg (enc a1).toArray] F L (Is (.agg (enc r).toArray) L) := by
  unfold vect_Min at H
  refine Ok.enter (m := 2) (n := 20) Try.func34 rfl rfl rfl (by decide) ?_
  refine Cd.env (e' := [(0, .agg (enc a0).toArray), (1, .agg (enc a1).toArray)]) rfl ?_
  refine Cd.seq ?_
  refine Cd.region ?_
  refine Lst.box rfl rfl (by decide) rfl (cs := enc a0) rfl (fun b1 => ?_)
  refine Lst.box rfl rfl (by decide) rfl (cs := enc a1) rfl (fun b3 => ?_)
  refine Lst.alloc rfl rfl (by decide) Try.zeroValue38 (cs := enc (Vector.replicate 6 (0 : Int))) rfl (fun b5 => ?_)
  refine Lst.nil ?_
  refine At.then ?_
  refine Cd.seq ?_
  refine Cd.seq ?_
  refine Cd.region ?_
  refine Lst.run rfl rfl (by decide) (Ev.move rfl) ?_
  refine Lst.nil ?_
  refine At.then ?_
  refine Cd.block ?_
  obtain ⟨ol7, H, HKl7⟩ := bind_some H
  refine Cd.loop (σ := Nat × Nat × (Vector Int 6)) (fun (i7, k7, y8) => [(2, .pointer (some ⟨b1, 0, none⟩)), (3, .pointer (some ⟨b3, 0, none⟩)), (4, .pointer (some ⟨b5, 0, none⟩)), (6, .int .i64 (i7 : Int))]) (fun (i7, k7, y8) => (.blk b5 (enc (Vector.replicate 6 (0 : Int))) 38) :: (.blk b3 (enc a1) 38) :: (.blk b1 (enc y8) 38) :: L) (fun _ => (fun (i7, k7, y8) => rangeF (vect_Min_L7 a1) k7 i7 y8 = some ol7 ∧ i7 + k7 = 6)) (fun (i7, k7, y8) => k7) (0, 6, a0) ⟨rfl, rfl, rfl, rfl, trivial⟩ rfl ⟨H, by omega⟩ ?_
  rintro F' ⟨i7, k7, y8⟩ hF' ⟨H, hik7⟩
  refine Cd.fle hF' ?_
  refine Cd.as (e' := [(2, .pointer (some ⟨b1, 0, none⟩)), (3, .pointer (some ⟨b3, 0, none⟩)), (4, .pointer (some ⟨b5, 0, none⟩)), (6, .int .i64 (i7 : Int))]) (L' := (.blk b5 (enc (Vector.replicate 6 (0 : Int))) 38) :: (.blk b3 (enc a1) 38) :: (.blk b1 (enc y8) 38) :: L) ⟨rfl, rfl, rfl, rfl, trivial⟩ rfl ?_
  rcases k7 with _ | k7
  · have hc7 : decide ((i7 : Int) < (6 : Int)) = false := decide_eq_false (by omega)
    replace H := rangeF_end H
    refine Cd.seq ?_
    refine Cd.region ?_
    refine Lst.run rfl rfl (by decide) (Ev.lss rfl rfl) ?_
    refine Lst.nil ?_
    refine At.then ?_
    refine Cd.seq ?_
    refine Cd.condF rfl hc7 ?_
    refine Cd.exit ?_
    refine At.then_exit ?_
    refine At.then_exit ?_
    refine At.in_exit ?_
    subst H
    replace H := HKl7
    refine At.then ?_
    refine Cd.seq ?_
    refine Cd.region ?_
    refine Lst.run rfl rfl (by decide) (Ev.loadA (i := 2) rfl rfl Try.isAgg38 Try.sizeOf38 (ch := enc y8) (Enc.len _) (Get.here _)) ?_
    refine Lst.store (i := 0) rfl rfl rfl rfl rfl Try.sizeOf38 (vs := enc y8) rfl (Enc.len _) (Enc.one _) (cs' := enc y8) (Put.here ((Enc.len _).trans (Enc.len _).symm)) (L' := (.blk b5 (enc y8) 38) :: (.blk b3 (enc a1) 38) :: (.blk b1 (enc y8) 38) :: L) rfl ?_
    refine Lst.nil ?_
    refine At.then ?_
    obtain rfl := some_inj H
    refine Cd.ret ?_
    exact At.ret1 rfl (Res.cellA (i := 0) rfl rfl Try.isAgg38 Try.sizeOf38 (Enc.len _)) (FLe.refl _) (List.Sublist.cons _ (List.Sublist.cons _ (List.Sublist.cons _ (List.Sublist.refl _)))) ⟨rfl, rfl⟩
  have hc7 : decide ((i7 : Int) < (6 : Int)) = true := decide_eq_true (by omega)
  obtain ⟨c7, H, hgo7⟩ := rangeF_go H
  unfold vect_Min_L7 at H
  try dsimp only at H
  refine Cd.seq ?_
  refine Cd.region ?_
  refine Lst.run rfl rfl (by decide) (Ev.lss rfl rfl) ?_
  refine Lst.nil ?_
  refine At.then ?_
  refine Cd.seq ?_
  refine Cd.condT rfl hc7 ?_
  refine Cd.skip ?_
  refine At.then ?_
  refine Cd.seq ?_
  refine Cd.block ?_
  refine Cd.seq ?_
  refine Cd.region ?_
  refine Lst.run rfl rfl (by decide) (Ev.move rfl) ?_
  refine Lst.run rfl rfl (by decide) (Ev.assign rfl) ?_
  refine Lst.nil ?_
  refine At.then ?_
  refine Cd.tail 9 (by kernel_rfl) (by kernel_rfl) ?_
  refine Qt.run rfl rfl (by decide) (Ev.move rfl) ?_
  refine Qt.run rfl rfl (by decide) (Ev.move rfl) ?_
  obtain ⟨x9, h10, H⟩ := bind_some H
  have g11 := vat_some h10
  refine Qt.run rfl rfl (by decide) (Ev.indexAddr (off' := 0 + (i7 : Int).toNat * 1) rfl rfl Try.runUnderlying38 Try.sizeOf3 g11.1 g11.2.1 rfl) ?_
  refine Qt.run rfl rfl (by decide) (Ev.load (i := 2) rfl rfl Try.isAgg3 ((Get.vecN (s := 1) rfl g11.2.2 (Get.here _)).off (by omega))) ?_
  refine Qt.run rfl rfl (by decide) (Ev.move rfl) ?_
  obtain ⟨x12, h13, H⟩ := bind_some H
  have g14 := vat_some h13
  refine Qt.run rfl rfl (by decide) (Ev.indexAddr (off' := 0 + (i7 : Int).toNat * 1) rfl rfl Try.runUnderlying38 Try.sizeOf3 g14.1 g14.2.1 rfl) ?_
  refine Qt.run rfl rfl (by decide) (Ev.load (i := 1) rfl rfl Try.isAgg3 ((Get.vecN (s := 1) rfl g14.2.2 (Get.here _)).off (by omega))) ?_
  refine Qt.run rfl rfl (by decide) (Ev.min2 rfl rfl) ?_
  obtain ⟨x15, h16, H⟩ := bind_some H
  have g17 := vat_some h16
  refine Qt.run rfl rfl (by decide) (Ev.indexAddr (off' := 0 + (i7 : Int).toNat * 1) rfl rfl Try.runUnderlying38 Try.sizeOf3 g17.1 g17.2.1 rfl) ?_
  refine Qt.tail ?_
  obtain ⟨p18, h19, H⟩ := Let_some H
  refine Lst.store (i := 2) rfl rfl rfl rfl rfl Try.sizeOf3 (vs := [.int .i64 (min x9 x12)]) rfl rfl rfl (cs' := enc p18) (by rw [← h19]; exact (Put.vecN (s := 1) rfl g17.2.2 (Put.here (vs := [.int .i64 (min x9 x12)]) (by rfl))).off (by omega)) (L' := (.blk b5 (enc (Vector.replicate 6 (0 : Int))) 38) :: (.blk b3 (enc a1) 38) :: (.blk b1 (enc p18) 38) :: L) rfl ?_
  refine Lst.nil ?_
  refine At.in_normal ?_
  refine At.then ?_
  refine Cd.region ?_
  refine Lst.run rfl rfl (by decide) (Ev.incr (by omega) rfl rfl) ?_
  refine Lst.run rfl rfl (by decide) (Ev.move rfl) ?_
  refine Lst.nil ?_
  exact At.meet (i7 + 1, k7, p18) (FLe.refl _) ⟨rfl, rfl, rfl, rfl, trivial⟩ rfl ⟨⟨hgo7 _ (some_inj H).symm, by omega⟩, Nat.lt_succ_self _⟩
set_option maxRecDepth 20000 in
theorem mat_Firm_sim {a0 : Matrix} {r : (Vector Int 6) × Int} (H : mat_Firm a0 = some r) (w0 : World) (F : Frz) (L : List Item) : Ok Try.prog w0 17 [.agg (enc a0).toArray] F L (Is (.tuple #[.agg (enc r.1).toArray, .int .i64 r.2]) L) := by
  unfold mat_Firm at H
  refine Ok.enter (m := 1) (n := 29) Try.func17 rfl rfl rfl (by decide) ?_
  refine Cd.env (e' := [(0, .agg (enc a0).toArray)]) rfl ?_
  refine Cd.seq ?_
  refine Cd.region ?_
  refine Lst.box rfl rfl (by decide) rfl (cs := enc a0) rfl (fun b1 => ?_)
  refine Lst.alloc rfl rfl (by decide) Try.zeroValue38 (cs := enc (Vector.replicate 6 (0 : Int))) rfl (fun b3 => ?_)
  refine Lst.run rfl rfl (by decide) (Ev.assign rfl) ?_
  refine Lst.nil ?_
  refine At.then ?_
  refine Cd.seq ?_
  refine Cd.seq ?_
  refine Cd.region ?_
  refine Lst.run rfl rfl (by decide) (Ev.loadA (i := 1) rfl rfl Try.isAgg41 Try.sizeOf41 (ch := enc a0) (Enc.len _) (Get.here _)) ?_
  obtain ⟨r5, h6, H⟩ := bind_some H
  refine Lst.call1 rfl rfl (by decide) (vs := [.agg (enc a0).toArray]) ⟨rfl, trivial⟩ Try.call18 (mat_Check_sim h6 w0 _ _) ?_
  refine Lst.run rfl rfl (by decide) (Ev.assign rfl) ?_
  refine Lst.nil ?_
  refine At.then ?_
  refine Cd.seq ?_
  refine Cd.region ?_
  refine Lst.run rfl rfl (by decide) (Ev.move rfl) ?_
  refine Lst.run rfl rfl (by decide) (Ev.neq rfl rfl) ?_
  refine Lst.nil ?_
  refine At.then ?_
  rcases Bool.eq_false_or_eq_true (r5 != (0 : Int)) with hb7 | hb7
  · replace H := ite_t hb7 H
    refine Cd.condT rfl hb7 ?_
    refine Cd.seq ?_
    refine Cd.region ?_
    refine Lst.run rfl rfl (by decide) (Ev.build (v := .agg (enc ((Vector.replicate 6 (0 : Int)) : Vector Int 6)).toArray) (pv := []) trivial (fun w => by kernel_rfl)) ?_
    refine Lst.run rfl rfl (by decide) (Ev.move rfl) ?_
    refine Lst.store (i := 0) rfl rfl rfl rfl rfl Try.sizeOf38 (vs := enc ((Vector.replicate 6 (0 : Int)) : Vector Int 6)) rfl (Enc.len _) (Enc.one _) (cs' := enc ((Vector.replicate 6 (0 : Int)) : Vector Int 6)) (Put.here ((Enc.len _).trans (Enc.len _).symm)) (L' := (.blk b3 (enc ((Vector.replicate 6 (0 : Int)) : Vector Int 6)) 38) :: (.blk b1 (enc a0) 41) :: L) rfl ?_
    refine Lst.run rfl rfl (by decide) (Ev.assign rfl) ?_
    refine Lst.nil ?_
    refine At.then ?_
    obtain rfl := some_inj H
    refine Cd.ret ?_
    refine At.then_ret ?_
    exact At.ret2 rfl (Res.cellA (i := 0) rfl rfl Try.isAgg38 Try.sizeOf38 (Enc.len _)) (Res.tmp rfl) (FLe.refl _) (List.Sublist.cons _ (List.Sublist.cons _ (List.Sublist.refl _))) ⟨rfl, rfl⟩
  replace H := ite_f hb7 H
  refine Cd.condF rfl hb7 ?_
  refine Cd.skip ?_
  refine At.then ?_
  refine Cd.seq ?_
  refine Cd.region ?_
  refine Lst.run rfl rfl (by decide) (Ev.fieldAddr (off' := 2) rfl Try.runUnderlying41 rfl Try.sizeOf39 rfl rfl) ?_
  obtain ⟨x8, h9, H⟩ := bind_some H
  have g10 := vat_some h9
  refine Lst.run rfl rfl (by decide) (Ev.indexAddr (off' := 2 + (0 : Int).toNat * 6) rfl rfl Try.runUnderlying39 Try.sizeOf38 g10.1 g10.2.1 rfl) ?_
  refine Lst.run rfl rfl (by decide) (Ev.loadA (i := 1) rfl rfl Try.isAgg38 Try.sizeOf38 (ch := enc x8) (Enc.len _) ((Matrix.get_Rows (Get.vecN (s := 6) rfl g10.2.2 (Get.here _))).off (by omega))) ?_
  refine Lst.alloc rfl rfl (by decide) Try.zeroValue38 (cs := enc (Vector.replicate 6 (0 : Int))) rfl (fun b11 => ?_)
  refine Lst.store (i := 0) rfl rfl rfl rfl rfl Try.sizeOf38 (vs := enc x8) rfl (Enc.len _) (Enc.one _) (cs' := enc x8) (Put.here ((Enc.len _).trans (Enc.len _).symm)) (L' := (.blk b11 (enc x8) 38) :: (.blk b3 (enc (Vector.replicate 6 (0 : Int))) 38) :: (.blk b1 (enc a0) 41) :: L) rfl ?_
  refine Lst.nil ?_
  refine At.then ?_
  refine Cd.seq ?_
  refine Cd.seq ?_
  refine Cd.region ?_
  refine Lst.run rfl rfl (by decide) (Ev.fieldAddr (off' := 0) rfl Try.runUnderlying41 rfl Try.sizeOf3 rfl rfl) ?_
  refine Lst.run rfl rfl (by decide) (Ev.load (i := 2) rfl rfl Try.isAgg3 ((Matrix.get_N (Get.here _)).off (by rfl))) ?_
  refine Lst.run rfl rfl (by decide) (Ev.move rfl) ?_
  refine Lst.nil ?_
  refine At.then ?_
  refine Cd.block ?_
  obtain ⟨nn15, hN21, H⟩ := bind_some H
  replace hN21 := upTo_some hN21
  obtain ⟨ol13, H, HKl13⟩ := bind_some H
  refine Cd.loop (σ := Nat × Nat × (Vector Int 6)) (fun (i13, k13, y14) => [(1, .pointer (some ⟨b1, 0, none⟩)), (2, .pointer (some ⟨b3, 0, none⟩)), (5, .pointer (some ⟨b11, 0, none⟩)), (17, .int .i64 a0.N), (18, .int .i64 (i13 : Int))]) (fun (i13, k13, y14) => (.blk b11 (enc y14) 38) :: (.blk b3 (enc (Vector.replicate 6 (0 : Int))) 38) :: (.blk b1 (enc a0) 41) :: L) (fun _ => (fun (i13, k13, y14) => rangeF (mat_Firm_L13 a0) k13 i13 y14 = some ol13 ∧ i13 + k13 = nn15)) (fun (i13, k13, y14) => k13) (0, nn15, x8) ⟨rfl, rfl, rfl, rfl, rfl, trivial⟩ rfl ⟨H, by omega⟩ ?_
  rintro F' ⟨i13, k13, y14⟩ hF' ⟨H, hik13⟩
  refine Cd.fle hF' ?_
  refine Cd.as (e' := [(1, .pointer (some ⟨b1, 0, none⟩)), (2, .pointer (some ⟨b3, 0, none⟩)), (5, .pointer (some ⟨b11, 0, none⟩)), (17, .int .i64 a0.N), (18, .int .i64 (i13 : Int))]) (L' := (.blk b11 (enc y14) 38) :: (.blk b3 (enc (Vector.replicate 6 (0 : Int))) 38) :: (.blk b1 (enc a0) 41) :: L) ⟨rfl, rfl, rfl, rfl, rfl, trivial⟩ rfl ?_
  rcases k13 with _ | k13
  · have hc13 : decide ((i13 : Int) < a0.N) = false := decide_eq_false (by omega)
    replace H := rangeF_end H
    refine Cd.seq ?_
    refine Cd.region ?_
    refine Lst.run rfl rfl (by decide) (Ev.lss rfl rfl) ?_
    refine Lst.nil ?_
    refine At.then ?_
    refine Cd.seq ?_
    refine Cd.condF rfl hc13 ?_
    refine Cd.exit ?_
    refine At.then_exit ?_
    refine At.then_exit ?_
    refine At.in_exit ?_
    subst H
    replace H := HKl13
    refine At.then ?_
    refine Cd.seq ?_
    refine Cd.region ?_
    refine Lst.run rfl rfl (by decide) (Ev.loadA (i := 0) rfl rfl Try.isAgg38 Try.sizeOf38 (ch := enc y14) (Enc.len _) (Get.here _)) ?_
    refine Lst.store (i := 1) rfl rfl rfl rfl rfl Try.sizeOf38 (vs := enc y14) rfl (Enc.len _) (Enc.one _) (cs' := enc y14) (Put.here ((Enc.len _).trans (Enc.len _).symm)) (L' := (.blk b11 (enc y14) 38) :: (.blk b3 (enc y14) 38) :: (.blk b1 (enc a0) 41) :: L) rfl ?_
    refine Lst.run rfl rfl (by decide) (Ev.assign rfl) ?_
    refine Lst.nil ?_
    refine At.then ?_
    obtain rfl := some_inj H
    refine Cd.ret ?_
    exact At.ret2 rfl (Res.cellA (i := 1) rfl rfl Try.isAgg38 Try.sizeOf38 (Enc.len _)) (Res.tmp rfl) (FLe.refl _) (List.Sublist.cons _ (List.Sublist.cons _ (List.Sublist.cons _ (List.Sublist.refl _)))) ⟨rfl, rfl⟩
  have hc13 : decide ((i13 : Int) < a0.N) = true := decide_eq_true (by omega)
  obtain ⟨c13, H, hgo13⟩ := rangeF_go H
  unfold mat_Firm_L13 at H
  try dsimp only at H
  refine Cd.seq ?_
  refine Cd.region ?_
  refine Lst.run rfl rfl (by decide) (Ev.lss rfl rfl) ?_
  refine Lst.nil ?_
  refine At.then ?_
  refine Cd.seq ?_
  refine Cd.condT rfl hc13 ?_
  refine Cd.skip ?_
  refine At.then ?_
  refine Cd.seq ?_
  refine Cd.block ?_
  refine Cd.seq ?_
  refine Cd.region ?_
  refine Lst.run rfl rfl (by decide) (Ev.move rfl) ?_
  refine Lst.run rfl rfl (by decide) (Ev.assign rfl) ?_
  refine Lst.nil ?_
  refine At.then ?_
  refine Cd.tail 6 (by kernel_rfl) (by kernel_rfl) ?_
  refine Qt.run rfl rfl (by decide) (Ev.loadA (i := 0) rfl rfl Try.isAgg38 Try.sizeOf38 (ch := enc y14) (Enc.len _) (Get.here _)) ?_
  refine Qt.run rfl rfl (by decide) (Ev.move rfl) ?_
  refine Qt.run rfl rfl (by decide) (Ev.fieldAddr (off' := 2) rfl Try.runUnderlying41 rfl Try.sizeOf39 rfl rfl) ?_
  obtain ⟨x16, h17, H⟩ := bind_some H
  have g18 := vat_some h17
  refine Qt.run rfl rfl (by decide) (Ev.indexAddr (off' := 2 + (i13 : Int).toNat * 6) rfl rfl Try.runUnderlying39 Try.sizeOf38 g18.1 g18.2.1 rfl) ?_
  refine Qt.run rfl rfl (by decide) (Ev.loadA (i := 2) rfl rfl Try.isAgg38 Try.sizeOf38 (ch := enc x16) (Enc.len _) ((Matrix.get_Rows (Get.vecN (s := 6) rfl g18.2.2 (Get.here _))).off (by omega))) ?_
  obtain ⟨r19, h20, H⟩ := bind_some H
  refine Qt.call rfl rfl (by decide) (vs := [.agg (enc y14).toArray, .agg (enc x16).toArray]) ⟨rfl, rfl, trivial⟩ Try.call34 (vect_Min_sim h20 w0 _ _) ?_
  refine Qt.tail ?_
  refine Lst.store (i := 0) rfl rfl rfl rfl rfl Try.sizeOf38 (vs := enc r19) rfl (Enc.len _) (Enc.one _) (cs' := enc r19) (Put.here ((Enc.len _).trans (Enc.len _).symm)) (L' := (.blk b11 (enc r19) 38) :: (.blk b3 (enc (Vector.replicate 6 (0 : Int))) 38) :: (.blk b1 (enc a0) 41) :: L) rfl ?_
  refine Lst.nil ?_
  refine At.in_normal ?_
  refine At.then ?_
  refine Cd.region ?_
  refine Lst.run rfl rfl (by decide) (Ev.incr (by omega) rfl rfl) ?_
  refine Lst.run rfl rfl (by decide) (Ev.move rfl) ?_
  refine Lst.nil ?_
  exact At.meet (i13 + 1, k13, r19) (FLe.refl _) ⟨rfl, rfl, rfl, rfl, rfl, trivial⟩ rfl ⟨⟨hgo13 _ (some_inj H).symm, by omega⟩, Nat.lt_succ_self _⟩
set_option maxRecDepth 20000 in
theorem partref_FirmRow_sim {a0 : Matrix} {r : (Vector Int 6)} (H : partref_FirmRow a0 = some r) (w0 : World) (F : Frz) (L : List Item) : Ok Try.prog w0 19 [.agg (enc a0).toArray] F L (Is (.agg (enc r).toArray) L) := by
  unfold partref_FirmRow at H
  refine Ok.enter (m := 1) (n := 34) Try.func19 rfl rfl rfl (by decide) ?_
  refine Cd.env (e' := [(0, .agg (enc a0).toArray)]) rfl ?_
  refine Cd.seq ?_
  refine Cd.region ?_
  refine Lst.box rfl rfl (by decide) rfl (cs := enc a0) rfl (fun b1 => ?_)
  refine Lst.alloc rfl rfl (by decide) Try.zeroValue38 (cs := enc (Vector.replicate 6 (0 : Int))) rfl (fun b3 => ?_)
  refine Lst.nil ?_
  refine At.then ?_
  refine Cd.seq ?_
  refine Cd.region ?_
  refine Lst.alloc rfl rfl (by decide) Try.zeroValue38 (cs := enc (Vector.replicate 6 (0 : Int))) rfl (fun b5 => ?_)
  refine Lst.nil ?_
  refine At.then ?_
  refine Cd.seq ?_
  refine Cd.seq ?_
  refine Cd.region ?_
  refine Lst.run rfl rfl (by decide) (Ev.move rfl) ?_
  refine Lst.nil ?_
  refine At.then ?_
  refine Cd.block ?_
  obtain ⟨ol7, H, HKl7⟩ := bind_some H
  refine Cd.loop (σ := Nat × Nat × (Vector Int 6)) (fun (i7, k7, y8) => [(1, .pointer (some ⟨b1, 0, none⟩)), (2, .pointer (some ⟨b3, 0, none⟩)), (3, .pointer (some ⟨b5, 0, none⟩)), (7, .int .i64 (i7 : Int))]) (fun (i7, k7, y8) => (.blk b5 (enc y8) 38) :: (.blk b3 (enc (Vector.replicate 6 (0 : Int))) 38) :: (.blk b1 (enc a0) 41) :: L) (fun _ => (fun (i7, k7, y8) => rangeF (partref_FirmRow_L7 a0) k7 i7 y8 = some ol7 ∧ i7 + k7 = 6)) (fun (i7, k7, y8) => k7) (0, 6, (Vector.replicate 6 (0 : Int))) ⟨rfl, rfl, rfl, rfl, trivial⟩ rfl ⟨H, by omega⟩ ?_
  rintro F' ⟨i7, k7, y8⟩ hF' ⟨H, hik7⟩
  refine Cd.fle hF' ?_
  refine Cd.as (e' := [(1, .pointer (some ⟨b1, 0, none⟩)), (2, .pointer (some ⟨b3, 0, none⟩)), (3, .pointer (some ⟨b5, 0, none⟩)), (7, .int .i64 (i7 : Int))]) (L' := (.blk b5 (enc y8) 38) :: (.blk b3 (enc (Vector.replicate 6 (0 : Int))) 38) :: (.blk b1 (enc a0) 41) :: L) ⟨rfl, rfl, rfl, rfl, trivial⟩ rfl ?_
  rcases k7 with _ | k7
  · have hc7 : decide ((i7 : Int) < (6 : Int)) = false := decide_eq_false (by omega)
    replace H := rangeF_end H
    refine Cd.seq ?_
    refine Cd.region ?_
    refine Lst.run rfl rfl (by decide) (Ev.lss rfl rfl) ?_
    refine Lst.nil ?_
    refine At.then ?_
    refine Cd.seq ?_
    refine Cd.condF rfl hc7 ?_
    refine Cd.exit ?_
    refine At.then_exit ?_
    refine At.then_exit ?_
    refine At.in_exit ?_
    subst H
    replace H := HKl7
    refine At.then ?_
    refine Cd.seq ?_
    refine Cd.region ?_
    refine Lst.run rfl rfl (by decide) (Ev.loadA (i := 0) rfl rfl Try.isAgg38 Try.sizeOf38 (ch := enc y8) (Enc.len _) (Get.here _)) ?_
    refine Lst.store (i := 1) rfl rfl rfl rfl rfl Try.sizeOf38 (vs := enc y8) rfl (Enc.len _) (Enc.one _) (cs' := enc y8) (Put.here ((Enc.len _).trans (Enc.len _).symm)) (L' := (.blk b5 (enc y8) 38) :: (.blk b3 (enc y8) 38) :: (.blk b1 (enc a0) 41) :: L) rfl ?_
    refine Lst.nil ?_
    refine At.then ?_
    obtain rfl := some_inj H
    refine Cd.ret ?_
    exact At.ret1 rfl (Res.cellA (i := 1) rfl rfl Try.isAgg38 Try.sizeOf38 (Enc.len _)) (FLe.refl _) (List.Sublist.cons _ (List.Sublist.cons _ (List.Sublist.cons _ (List.Sublist.refl _)))) ⟨rfl, rfl⟩
  have hc7 : decide ((i7 : Int) < (6 : Int)) = true := decide_eq_true (by omega)
  obtain ⟨c7, H, hgo7⟩ := rangeF_go H
  unfold partref_FirmRow_L7 at H
  try dsimp only at H
  refine Cd.seq ?_
  refine Cd.region ?_
  refine Lst.run rfl rfl (by decide) (Ev.lss rfl rfl) ?_
  refine Lst.nil ?_
  refine At.then ?_
  refine Cd.seq ?_
  refine Cd.condT rfl hc7 ?_
  refine Cd.skip ?_
  refine At.then ?_
  refine Cd.seq ?_
  refine Cd.block ?_
  refine Cd.seq ?_
  refine Cd.region ?_
  refine Lst.run rfl rfl (by decide) (Ev.move rfl) ?_
  refine Lst.run rfl rfl (by decide) (Ev.assign rfl) ?_
  refine Lst.nil ?_
  refine At.then ?_
  refine Cd.seq ?_
  refine Cd.region ?_
  refine Lst.run rfl rfl (by decide) (Ev.move rfl) ?_
  refine Lst.run rfl rfl (by decide) (Ev.fieldAddr (off' := 2) rfl Try.runUnderlying41 rfl Try.sizeOf39 rfl rfl) ?_
  obtain ⟨x9, h10, H⟩ := bind_some H
  have g11 := vat_some h10
  refine Lst.run rfl rfl (by decide) (Ev.indexAddr (off' := 2 + (0 : Int).toNat * 6) rfl rfl Try.runUnderlying39 Try.sizeOf38 g11.1 g11.2.1 rfl) ?_
  obtain ⟨x12, h13, H⟩ := bind_some H
  have g14 := vat_some h13
  refine Lst.run rfl rfl (by decide) (Ev.indexAddr (off' := 2 + (0 : Int).toNat * 6 + (i7 : Int).toNat * 1) rfl rfl Try.runUnderlying38 Try.sizeOf3 g14.1 g14.2.1 rfl) ?_
  refine Lst.run rfl rfl (by decide) (Ev.load (i := 2) rfl rfl Try.isAgg3 ((Matrix.get_Rows (Get.vecN (s := 6) rfl g11.2.2 (Get.vecN (s := 1) rfl g14.2.2 (Get.here _)))).off (by omega))) ?_
  refine Lst.run rfl rfl (by decide) (Ev.assign rfl) ?_
  refine Lst.nil ?_
  refine At.then ?_
  refine Cd.seq ?_
  refine Cd.seq ?_
  refine Cd.region ?_
  refine Lst.run rfl rfl (by decide) (Ev.fieldAddr (off' := 0) rfl Try.runUnderlying41 rfl Try.sizeOf3 rfl rfl) ?_
  refine Lst.run rfl rfl (by decide) (Ev.load (i := 2) rfl rfl Try.isAgg3 ((Matrix.get_N (Get.here _)).off (by rfl))) ?_
  refine Lst.run rfl rfl (by decide) (Ev.move rfl) ?_
  refine Lst.nil ?_
  refine At.then ?_
  refine Cd.block ?_
  obtain ⟨nn17, hN29, H⟩ := bind_some H
  replace hN29 := upTo_some hN29
  obtain ⟨ol15, H, HKl15⟩ := bind_some H
  refine Cd.loop (σ := Nat × Nat × Int) (fun (i15, k15, y16) => [(1, .pointer (some ⟨b1, 0, none⟩)), (2, .pointer (some ⟨b3, 0, none⟩)), (3, .pointer (some ⟨b5, 0, none⟩)), (7, .int .i64 (i7 : Int)), (4, .int .i64 (i7 : Int)), (5, .int .i64 y16), (16, .int .i64 a0.N), (17, .int .i64 (i15 : Int))]) (fun (i15, k15, y16) => (.blk b5 (enc y8) 38) :: (.blk b3 (enc (Vector.replicate 6 (0 : Int))) 38) :: (.blk b1 (enc a0) 41) :: L) (fun _ => (fun (i15, k15, y16) => rangeF (partref_FirmRow_L15 a0 i7) k15 i15 y16 = some ol15 ∧ i15 + k15 = nn17)) (fun (i15, k15, y16) => k15) (0, nn17, x12) ⟨rfl, rfl, rfl, rfl, rfl, rfl, rfl, rfl, trivial⟩ rfl ⟨H, by omega⟩ ?_
  rintro F' ⟨i15, k15, y16⟩ hF' ⟨H, hik15⟩
  refine Cd.fle hF' ?_
  refine Cd.as (e' := [(1, .pointer (some ⟨b1, 0, none⟩)), (2, .pointer (some ⟨b3, 0, none⟩)), (3, .pointer (some ⟨b5, 0, none⟩)), (7, .int .i64 (i7 : Int)), (4, .int .i64 (i7 : Int)), (5, .int .i64 y16), (16, .int .i64 a0.N), (17, .int .i64 (i15 : Int))]) (L' := (.blk b5 (enc y8) 38) :: (.blk b3 (enc (Vector.replicate 6 (0 : Int))) 38) :: (.blk b1 (enc a0) 41) :: L) ⟨rfl, rfl, rfl, rfl, rfl, rfl, rfl, rfl, trivial⟩ rfl ?_
  rcases k15 with _ | k15
  · have hc15 : decide ((i15 : Int) < a0.N) = false := decide_eq_false (by omega)
    replace H := rangeF_end H
    refine Cd.seq ?_
    refine Cd.region ?_
    refine Lst.run rfl rfl (by decide) (Ev.lss rfl rfl) ?_
    refine Lst.nil ?_
    refine At.then ?_
    refine Cd.seq ?_
    refine Cd.condF rfl hc15 ?_
    refine Cd.exit ?_
    refine At.then_exit ?_
    refine At.then_exit ?_
    refine At.in_exit ?_
    subst H
    replace H := HKl15
    refine At.then ?_
    refine Cd.region ?_
    refine Lst.run rfl rfl (by decide) (Ev.move rfl) ?_
    refine Lst.run rfl rfl (by decide) (Ev.move rfl) ?_
    obtain ⟨x24, h25, H⟩ := bind_some H
    have g26 := vat_some h25
    refine Lst.run rfl rfl (by decide) (Ev.indexAddr (off' := 0 + (i7 : Int).toNat * 1) rfl rfl Try.runUnderlying38 Try.sizeOf3 g26.1 g26.2.1 rfl) ?_
    obtain ⟨p27, h28, H⟩ := Let_some H
    refine Lst.store (i := 0) rfl rfl rfl rfl rfl Try.sizeOf3 (vs := [.int .i64 y16]) rfl rfl rfl (cs' := enc p27) (by rw [← h28]; exact (Put.vecN (s := 1) rfl g26.2.2 (Put.here (vs := [.int .i64 y16]) (by rfl))).off (by omega)) (L' := (.blk b5 (enc p27) 38) :: (.blk b3 (enc (Vector.replicate 6 (0 : Int))) 38) :: (.blk b1 (enc a0) 41) :: L) rfl ?_
    refine Lst.nil ?_
    refine At.in_normal ?_
    refine At.then ?_
    refine Cd.region ?_
    refine Lst.run rfl rfl (by decide) (Ev.incr (by omega) rfl rfl) ?_
    refine Lst.run rfl rfl (by decide) (Ev.move rfl) ?_
    refine Lst.nil ?_
    exact At.meet (i7 + 1, k7, p27) (FLe.refl _) ⟨rfl, rfl, rfl, rfl, trivial⟩ rfl ⟨⟨hgo7 _ (some_inj H).symm, by omega⟩, Nat.lt_succ_self _⟩
  have hc15 : decide ((i15 : Int) < a0.N) = true := decide_eq_true (by omega)
  obtain ⟨c15, H, hgo15⟩ := rangeF_go H
  unfold partref_FirmRow_L15 at H
  try dsimp only at H
  refine Cd.seq ?_
  refine Cd.region ?_
  refine Lst.run rfl rfl (by decide) (Ev.lss rfl rfl) ?_
  refine Lst.nil ?_
  refine At.then ?_
  refine Cd.seq ?_
  refine Cd.condT rfl hc15 ?_
  refine Cd.skip ?_
  refine At.then ?_
  refine Cd.seq ?_
  refine Cd.block ?_
  refine Cd.seq ?_
  refine Cd.region ?_
  refine Lst.run rfl rfl (by decide) (Ev.move rfl) ?_
  refine Lst.run rfl rfl (by decide) (Ev.assign rfl) ?_
  refine Lst.nil ?_
  refine At.then ?_
  refine Cd.region ?_
  refine Lst.run rfl rfl (by decide) (Ev.move rfl) ?_
  refine Lst.run rfl rfl (by decide) (Ev.move rfl) ?_
  refine Lst.run rfl rfl (by decide) (Ev.move rfl) ?_
  refine Lst.run rfl rfl (by decide) (Ev.fieldAddr (off' := 2) rfl Try.runUnderlying41 rfl Try.sizeOf39 rfl rfl) ?_
  obtain ⟨x18, h19, H⟩ := bind_some H
  have g20 := vat_some h19
  refine Lst.run rfl rfl (by decide) (Ev.indexAddr (off' := 2 + (i15 : Int).toNat * 6) rfl rfl Try.runUnderlying39 Try.sizeOf38 g20.1 g20.2.1 rfl) ?_
  obtain ⟨x21, h22, H⟩ := bind_some H
  have g23 := vat_some h22
  refine Lst.run rfl rfl (by decide) (Ev.indexAddr (off' := 2 + (i15 : Int).toNat * 6 + (i7 : Int).toNat * 1) rfl rfl Try.runUnderlying38 Try.sizeOf3 g23.1 g23.2.1 rfl) ?_
  refine Lst.run rfl rfl (by decide) (Ev.load (i := 2) rfl rfl Try.isAgg3 ((Matrix.get_Rows (Get.vecN (s := 6) rfl g20.2.2 (Get.vecN (s := 1) rfl g23.2.2 (Get.here _)))).off (by omega))) ?_
  refine Lst.run rfl rfl (by decide) (Ev.min2 rfl rfl) ?_
  refine Lst.run rfl rfl (by decide) (Ev.assign rfl) ?_
  refine Lst.nil ?_
  refine At.in_normal ?_
  refine At.then ?_
  refine Cd.region ?_
  refine Lst.run rfl rfl (by decide) (Ev.incr (by omega) rfl rfl) ?_
  refine Lst.run rfl rfl (by decide) (Ev.move rfl) ?_
  refine Lst.nil ?_
  exact At.meet (i15 + 1, k15, min y16 x21) (FLe.refl _) ⟨rfl, rfl, rfl, rfl, rfl, rfl, rfl, rfl, trivial⟩ rfl ⟨⟨hgo15 _ (some_inj H).symm, by omega⟩, Nat.lt_succ_self _⟩
set_option maxRecDepth 20000 in
theorem partref_Meet_sim {a0 : Matrix} {a1 : Matrix} {r : Matrix} (H : partref_Meet a0 a1 = some r) (w0 : World) (F : Frz) (L : List Item) : Ok Try.prog w0 20 [.agg (enc a0).toArray, .agg (enc a1).toArray] F L (Is (.agg (enc r).toArray) L) := by
  unfold partref_Meet at H
  refine Ok.enter (m := 2) (n := 60) Try.func20 rfl rfl rfl (by decide) ?_
  refine Cd.env (e' := [(0, .agg (enc a0).toArray), (1, .agg (enc a1).toArray)]) rfl ?_
  refine Cd.seq ?_
  refine Cd.region ?_
  refine Lst.box rfl rfl (by decide) rfl (cs := enc a0) rfl (fun b1 => ?_)
  refine Lst.box rfl rfl (by decide) rfl (cs := enc a1) rfl (fun b3 => ?_)
  refine Lst.alloc rfl rfl (by decide) Try.zeroValue41 (cs := enc Matrix.zero) rfl (fun b5 => ?_)
  refine Lst.nil ?_
  refine At.then ?_
  refine Cd.seq ?_
  refine Cd.seq ?_
  refine Cd.region ?_
  refine Lst.run rfl rfl (by decide) (Ev.move rfl) ?_
  refine Lst.nil ?_
  refine At.then ?_
  refine Cd.block ?_
  obtain ⟨ol7, H, HKl7⟩ := bind_some H
  refine Cd.loop (σ := Nat × Nat × Matrix) (fun (i7, k7, y8) => [(2, .pointer (some ⟨b1, 0, none⟩)), (3, .pointer (some ⟨b3, 0, none⟩)), (4, .pointer (some ⟨b5, 0, none⟩)), (8, .int .i64 (i7 : Int))]) (fun (i7, k7, y8) => (.blk b5 (enc Matrix.zero) 41) :: (.blk b3 (enc a1) 41) :: (.blk b1 (enc y8) 41) :: L) (fun _ => (fun (i7, k7, y8) => rangeF (partref_Meet_L7 a1) k7 i7 y8 = some ol7 ∧ i7 + k7 = 6)) (fun (i7, k7, y8) => k7) (0, 6, a0) ⟨rfl, rfl, rfl, rfl, trivial⟩ rfl ⟨H, by omega⟩ ?_
  rintro F' ⟨i7, k7, y8⟩ hF' ⟨H, hik7⟩
  refine Cd.fle hF' ?_
  refine Cd.as (e' := [(2, .pointer (some ⟨b1, 0, none⟩)), (3, .pointer (some ⟨b3, 0, none⟩)), (4, .pointer (some ⟨b5, 0, none⟩)), (8, .int .i64 (i7 : Int))]) (L' := (.blk b5 (enc Matrix.zero) 41) :: (.blk b3 (enc a1) 41) :: (.blk b1 (enc y8) 41) :: L) ⟨rfl, rfl, rfl, rfl, trivial⟩ rfl ?_
  rcases k7 with _ | k7
  · have hc7 : decide ((i7 : Int) < (6 : Int)) = false := decide_eq_false (by omega)
    replace H := rangeF_end H
    refine Cd.seq ?_
    refine Cd.region ?_
    refine Lst.run rfl rfl (by decide) (Ev.lss rfl rfl) ?_
    refine Lst.nil ?_
    refine At.then ?_
    refine Cd.seq ?_
    refine Cd.condF rfl hc7 ?_
    refine Cd.exit ?_
    refine At.then_exit ?_
    refine At.then_exit ?_
    refine At.in_exit ?_
    subst H
    replace H := HKl7
    refine At.then ?_
    refine Cd.seq ?_
    refine Cd.seq ?_
    refine Cd.region ?_
    refine Lst.run rfl rfl (by decide) (Ev.move rfl) ?_
    refine Lst.nil ?_
    refine At.then ?_
    refine Cd.block ?_
    obtain ⟨ol31, H, HKl31⟩ := bind_some H
    refine Cd.loop (σ := Nat × Nat × Matrix) (fun (i31, k31, y32) => [(2, .pointer (some ⟨b1, 0, none⟩)), (3, .pointer (some ⟨b3, 0, none⟩)), (4, .pointer (some ⟨b5, 0, none⟩)), (34, .int .i64 (i31 : Int))]) (fun (i31, k31, y32) => (.blk b5 (enc Matrix.zero) 41) :: (.blk b3 (enc a1) 41) :: (.blk b1 (enc y32) 41) :: L) (fun _ => (fun (i31, k31, y32) => rangeF (partref_Meet_L31 a1) k31 i31 y32 = some ol31 ∧ i31 + k31 = 6)) (fun (i31, k31, y32) => k31) (0, 6, y8) ⟨rfl, rfl, rfl, rfl, trivial⟩ rfl ⟨H, by omega⟩ ?_
    rintro F' ⟨i31, k31, y32⟩ hF' ⟨H, hik31⟩
    refine Cd.fle hF' ?_
    refine Cd.as (e' := [(2, .pointer (some ⟨b1, 0, none⟩)), (3, .pointer (some ⟨b3, 0, none⟩)), (4, .pointer (some ⟨b5, 0, none⟩)), (34, .int .i64 (i31 : Int))]) (L' := (.blk b5 (enc Matrix.zero) 41) :: (.blk b3 (enc a1) 41) :: (.blk b1 (enc y32) 41) :: L) ⟨rfl, rfl, rfl, rfl, trivial⟩ rfl ?_
    rcases k31 with _ | k31
    · have hc31 : decide ((i31 : Int) < (6 : Int)) = false := decide_eq_false (by omega)
      replace H := rangeF_end H
      refine Cd.seq ?_
      refine Cd.region ?_
      refine Lst.run rfl rfl (by decide) (Ev.lss rfl rfl) ?_
      refine Lst.nil ?_
      refine At.then ?_
      refine Cd.seq ?_
      refine Cd.condF rfl hc31 ?_
      refine Cd.exit ?_
      refine At.then_exit ?_
      refine At.then_exit ?_
      refine At.in_exit ?_
      subst H
      replace H := HKl31
      refine At.then ?_
      refine Cd.seq ?_
      refine Cd.region ?_
      refine Lst.run rfl rfl (by decide) (Ev.loadA (i := 2) rfl rfl Try.isAgg41 Try.sizeOf41 (ch := enc y32) (Enc.len _) (Get.here _)) ?_
      refine Lst.store (i := 0) rfl rfl rfl rfl rfl Try.sizeOf41 (vs := enc y32) rfl (Enc.len _) (Enc.one _) (cs' := enc y32) (Put.here ((Enc.len _).trans (Enc.len _).symm)) (L' := (.blk b5 (enc y32) 41) :: (.blk b3 (enc a1) 41) :: (.blk b1 (enc y32) 41) :: L) rfl ?_
      refine Lst.nil ?_
      refine At.then ?_
      obtain rfl := some_inj H
      refine Cd.ret ?_
      exact At.ret1 rfl (Res.cellA (i := 0) rfl rfl Try.isAgg41 Try.sizeOf41 (Enc.len _)) (FLe.refl _) (List.Sublist.cons _ (List.Sublist.cons _ (List.Sublist.cons _ (List.Sublist.refl _)))) ⟨rfl, rfl⟩
    have hc31 : decide ((i31 : Int) < (6 : Int)) = true := decide_eq_true (by omega)
    obtain ⟨c31, H, hgo31⟩ := rangeF_go H
    unfold partref_Meet_L31 at H
    try dsimp only at H
    refine Cd.seq ?_
    refine Cd.region ?_
    refine Lst.run rfl rfl (by decide) (Ev.lss rfl rfl) ?_
    refine Lst.nil ?_
    refine At.then ?_
    refine Cd.seq ?_
    refine Cd.condT rfl hc31 ?_
    refine Cd.skip ?_
    refine At.then ?_
    refine Cd.seq ?_
    refine Cd.block ?_
    refine Cd.seq ?_
    refine Cd.region ?_
    refine Lst.run rfl rfl (by decide) (Ev.move rfl) ?_
    refine Lst.run rfl rfl (by decide) (Ev.assign rfl) ?_
    refine Lst.nil ?_
    refine At.then ?_
    refine Cd.tail 21 (by kernel_rfl) (by kernel_rfl) ?_
    refine Qt.run rfl rfl (by decide) (Ev.fieldAddr (off' := 1) rfl Try.runUnderlying41 rfl Try.sizeOf3 rfl rfl) ?_
    refine Qt.run rfl rfl (by decide) (Ev.load (i := 2) rfl rfl Try.isAgg3 ((Matrix.get_Me (Get.here _)).off (by rfl))) ?_
    refine Qt.run rfl rfl (by decide) (Ev.move rfl) ?_
    refine Qt.run rfl rfl (by decide) (Ev.fieldAddr (off' := 1) rfl Try.runUnderlying41 rfl Try.sizeOf3 rfl rfl) ?_
    refine Qt.run rfl rfl (by decide) (Ev.load (i := 2) rfl rfl Try.isAgg3 ((Matrix.get_Me (Get.here _)).off (by rfl))) ?_
    refine Qt.run rfl rfl (by decide) (Ev.move rfl) ?_
    refine Qt.run rfl rfl (by decide) (Ev.fieldAddr (off' := 2) rfl Try.runUnderlying41 rfl Try.sizeOf39 rfl rfl) ?_
    obtain ⟨x33, h34, H⟩ := bind_some H
    have g35 := vat_some h34
    refine Qt.run rfl rfl (by decide) (Ev.indexAddr (off' := 2 + y32.Me.toNat * 6) rfl rfl Try.runUnderlying39 Try.sizeOf38 g35.1 g35.2.1 rfl) ?_
    obtain ⟨x36, h37, H⟩ := bind_some H
    have g38 := vat_some h37
    refine Qt.run rfl rfl (by decide) (Ev.indexAddr (off' := 2 + y32.Me.toNat * 6 + (i31 : Int).toNat * 1) rfl rfl Try.runUnderlying38 Try.sizeOf3 g38.1 g38.2.1 rfl) ?_
    refine Qt.run rfl rfl (by decide) (Ev.load (i := 2) rfl rfl Try.isAgg3 ((Matrix.get_Rows (Get.vecN (s := 6) rfl g35.2.2 (Get.vecN (s := 1) rfl g38.2.2 (Get.here _)))).off (by omega))) ?_
    refine Qt.run rfl rfl (by decide) (Ev.fieldAddr (off' := 1) rfl Try.runUnderlying41 rfl Try.sizeOf3 rfl rfl) ?_
    refine Qt.run rfl rfl (by decide) (Ev.load (i := 1) rfl rfl Try.isAgg3 ((Matrix.get_Me (Get.here _)).off (by rfl))) ?_
    refine Qt.run rfl rfl (by decide) (Ev.move rfl) ?_
    refine Qt.run rfl rfl (by decide) (Ev.fieldAddr (off' := 2) rfl Try.runUnderlying41 rfl Try.sizeOf39 rfl rfl) ?_
    obtain ⟨x39, h40, H⟩ := bind_some H
    have g41 := vat_some h40
    refine Qt.run rfl rfl (by decide) (Ev.indexAddr (off' := 2 + a1.Me.toNat * 6) rfl rfl Try.runUnderlying39 Try.sizeOf38 g41.1 g41.2.1 rfl) ?_
    obtain ⟨x42, h43, H⟩ := bind_some H
    have g44 := vat_some h43
    refine Qt.run rfl rfl (by decide) (Ev.indexAddr (off' := 2 + a1.Me.toNat * 6 + (i31 : Int).toNat * 1) rfl rfl Try.runUnderlying38 Try.sizeOf3 g44.1 g44.2.1 rfl) ?_
    refine Qt.run rfl rfl (by decide) (Ev.load (i := 1) rfl rfl Try.isAgg3 ((Matrix.get_Rows (Get.vecN (s := 6) rfl g41.2.2 (Get.vecN (s := 1) rfl g44.2.2 (Get.here _)))).off (by omega))) ?_
    refine Qt.run rfl rfl (by decide) (Ev.max2 rfl rfl) ?_
    refine Qt.run rfl rfl (by decide) (Ev.fieldAddr (off' := 2) rfl Try.runUnderlying41 rfl Try.sizeOf39 rfl rfl) ?_
    obtain ⟨x45, h46, H⟩ := bind_some H
    have g47 := vat_some h46
    refine Qt.run rfl rfl (by decide) (Ev.indexAddr (off' := 2 + y32.Me.toNat * 6) rfl rfl Try.runUnderlying39 Try.sizeOf38 g47.1 g47.2.1 rfl) ?_
    obtain ⟨x48, h49, H⟩ := bind_some H
    have g50 := vat_some h49
    refine Qt.run rfl rfl (by decide) (Ev.indexAddr (off' := 2 + y32.Me.toNat * 6 + (i31 : Int).toNat * 1) rfl rfl Try.runUnderlying38 Try.sizeOf3 g50.1 g50.2.1 rfl) ?_
    refine Qt.tail ?_
    obtain ⟨p51, h52, H⟩ := Let_some H
    refine Lst.store (i := 2) rfl rfl rfl rfl rfl Try.sizeOf3 (vs := [.int .i64 (max x36 x42)]) rfl rfl rfl (cs' := enc p51) (by rw [← h52]; exact (Matrix.put_Rows (Put.vecN (s := 6) rfl g47.2.2 (Put.vecN (s := 1) rfl g50.2.2 (Put.here (vs := [.int .i64 (max x36 x42)]) (by rfl))))).off (by omega)) (L' := (.blk b5 (enc Matrix.zero) 41) :: (.blk b3 (enc a1) 41) :: (.blk b1 (enc p51) 41) :: L) rfl ?_
    refine Lst.nil ?_
    refine At.in_normal ?_
    refine At.then ?_
    refine Cd.as (e' := [(2, .pointer (some ⟨b1, 0, none⟩)), (3, .pointer (some ⟨b3, 0, none⟩)), (4, .pointer (some ⟨b5, 0, none⟩)), (34, .int .i64 (i31 : Int))]) (L' := (.blk b5 (enc Matrix.zero) 41) :: (.blk b3 (enc a1) 41) :: (.blk b1 (enc p51) 41) :: L) ⟨rfl, rfl, rfl, rfl, trivial⟩ rfl ?_
    refine Cd.region ?_
    refine Lst.run rfl rfl (by decide) (Ev.incr (by omega) rfl rfl) ?_
    refine Lst.run rfl rfl (by decide) (Ev.move rfl) ?_
    refine Lst.nil ?_
    exact At.meet (i31 + 1, k31, p51) (FLe.refl _) ⟨rfl, rfl, rfl, rfl, trivial⟩ rfl ⟨⟨hgo31 _ (some_inj H).symm, by omega⟩, Nat.lt_succ_self _⟩
  have hc7 : decide ((i7 : Int) < (6 : Int)) = true := decide_eq_true (by omega)
  obtain ⟨c7, H, hgo7⟩ := rangeF_go H
  unfold partref_Meet_L7 at H
  try dsimp only at H
  refine Cd.seq ?_
  refine Cd.region ?_
  refine Lst.run rfl rfl (by decide) (Ev.lss rfl rfl) ?_
  refine Lst.nil ?_
  refine At.then ?_
  refine Cd.seq ?_
  refine Cd.condT rfl hc7 ?_
  refine Cd.skip ?_
  refine At.then ?_
  refine Cd.seq ?_
  refine Cd.block ?_
  refine Cd.seq ?_
  refine Cd.region ?_
  refine Lst.run rfl rfl (by decide) (Ev.move rfl) ?_
  refine Lst.run rfl rfl (by decide) (Ev.assign rfl) ?_
  refine Lst.nil ?_
  refine At.then ?_
  refine Cd.seq ?_
  refine Cd.region ?_
  refine Lst.run rfl rfl (by decide) (Ev.move rfl) ?_
  refine Lst.nil ?_
  refine At.then ?_
  refine Cd.block ?_
  obtain ⟨ol9, H, HKl9⟩ := bind_some H
  refine Cd.loop (σ := Nat × Nat × Matrix) (fun (i9, k9, y10) => [(2, .pointer (some ⟨b1, 0, none⟩)), (3, .pointer (some ⟨b3, 0, none⟩)), (4, .pointer (some ⟨b5, 0, none⟩)), (8, .int .i64 (i7 : Int)), (5, .int .i64 (i7 : Int)), (11, .int .i64 (i9 : Int))]) (fun (i9, k9, y10) => (.blk b5 (enc Matrix.zero) 41) :: (.blk b3 (enc a1) 41) :: (.blk b1 (enc y10) 41) :: L) (fun _ => (fun (i9, k9, y10) => rangeF (partref_Meet_L9 a1 i7) k9 i9 y10 = some ol9 ∧ i9 + k9 = 6)) (fun (i9, k9, y10) => k9) (0, 6, y8) ⟨rfl, rfl, rfl, rfl, rfl, rfl, trivial⟩ rfl ⟨H, by omega⟩ ?_
  rintro F' ⟨i9, k9, y10⟩ hF' ⟨H, hik9⟩
  refine Cd.fle hF' ?_
  refine Cd.as (e' := [(2, .pointer (some ⟨b1, 0, none⟩)), (3, .pointer (some ⟨b3, 0, none⟩)), (4, .pointer (some ⟨b5, 0, none⟩)), (8, .int .i64 (i7 : Int)), (5, .int .i64 (i7 : Int)), (11, .int .i64 (i9 : Int))]) (L' := (.blk b5 (enc Matrix.zero) 41) :: (.blk b3 (enc a1) 41) :: (.blk b1 (enc y10) 41) :: L) ⟨rfl, rfl, rfl, rfl, rfl, rfl, trivial⟩ rfl ?_
  rcases k9 with _ | k9
  · have hc9 : decide ((i9 : Int) < (6 : Int)) = false := decide_eq_false (by omega)
    replace H := rangeF_end H
    refine Cd.seq ?_
    refine Cd.region ?_
    refine Lst.run rfl rfl (by decide) (Ev.lss rfl rfl) ?_
    refine Lst.nil ?_
    refine At.then ?_
    refine Cd.seq ?_
    refine Cd.condF rfl hc9 ?_
    refine Cd.exit ?_
    refine At.then_exit ?_
    refine At.then_exit ?_
    refine At.in_exit ?_
    subst H
    replace H := HKl9
    refine At.in_normal ?_
    refine At.then ?_
    refine Cd.region ?_
    refine Lst.run rfl rfl (by decide) (Ev.incr (by omega) rfl rfl) ?_
    refine Lst.run rfl rfl (by decide) (Ev.move rfl) ?_
    refine Lst.nil ?_
    exact At.meet (i7 + 1, k7, y10) (FLe.refl _) ⟨rfl, rfl, rfl, rfl, trivial⟩ rfl ⟨⟨hgo7 _ (some_inj H).symm, by omega⟩, Nat.lt_succ_self _⟩
  have hc9 : decide ((i9 : Int) < (6 : Int)) = true := decide_eq_true (by omega)
  obtain ⟨c9, H, hgo9⟩ := rangeF_go H
  unfold partref_Meet_L9 at H
  try dsimp only at H
  refine Cd.seq ?_
  refine Cd.region ?_
  refine Lst.run rfl rfl (by decide) (Ev.lss rfl rfl) ?_
  refine Lst.nil ?_
  refine At.then ?_
  refine Cd.seq ?_
  refine Cd.condT rfl hc9 ?_
  refine Cd.skip ?_
  refine At.then ?_
  refine Cd.seq ?_
  refine Cd.block ?_
  refine Cd.seq ?_
  refine Cd.region ?_
  refine Lst.run rfl rfl (by decide) (Ev.move rfl) ?_
  refine Lst.run rfl rfl (by decide) (Ev.assign rfl) ?_
  refine Lst.nil ?_
  refine At.then ?_
  refine Cd.tail 18 (by kernel_rfl) (by kernel_rfl) ?_
  refine Qt.run rfl rfl (by decide) (Ev.move rfl) ?_
  refine Qt.run rfl rfl (by decide) (Ev.move rfl) ?_
  refine Qt.run rfl rfl (by decide) (Ev.move rfl) ?_
  refine Qt.run rfl rfl (by decide) (Ev.move rfl) ?_
  refine Qt.run rfl rfl (by decide) (Ev.fieldAddr (off' := 2) rfl Try.runUnderlying41 rfl Try.sizeOf39 rfl rfl) ?_
  obtain ⟨x11, h12, H⟩ := bind_some H
  have g13 := vat_some h12
  refine Qt.run rfl rfl (by decide) (Ev.indexAddr (off' := 2 + (i7 : Int).toNat * 6) rfl rfl Try.runUnderlying39 Try.sizeOf38 g13.1 g13.2.1 rfl) ?_
  obtain ⟨x14, h15, H⟩ := bind_some H
  have g16 := vat_some h15
  refine Qt.run rfl rfl (by decide) (Ev.indexAddr (off' := 2 + (i7 : Int).toNat * 6 + (i9 : Int).toNat * 1) rfl rfl Try.runUnderlying38 Try.sizeOf3 g16.1 g16.2.1 rfl) ?_
  refine Qt.run rfl rfl (by decide) (Ev.load (i := 2) rfl rfl Try.isAgg3 ((Matrix.get_Rows (Get.vecN (s := 6) rfl g13.2.2 (Get.vecN (s := 1) rfl g16.2.2 (Get.here _)))).off (by omega))) ?_
  refine Qt.run rfl rfl (by decide) (Ev.move rfl) ?_
  refine Qt.run rfl rfl (by decide) (Ev.move rfl) ?_
  refine Qt.run rfl rfl (by decide) (Ev.fieldAddr (off' := 2) rfl Try.runUnderlying41 rfl Try.sizeOf39 rfl rfl) ?_
  obtain ⟨x17, h18, H⟩ := bind_some H
  have g19 := vat_some h18
  refine Qt.run rfl rfl (by decide) (Ev.indexAddr (off' := 2 + (i7 : Int).toNat * 6) rfl rfl Try.runUnderlying39 Try.sizeOf38 g19.1 g19.2.1 rfl) ?_
  obtain ⟨x20, h21, H⟩ := bind_some H
  have g22 := vat_some h21
  refine Qt.run rfl rfl (by decide) (Ev.indexAddr (off' := 2 + (i7 : Int).toNat * 6 + (i9 : Int).toNat * 1) rfl rfl Try.runUnderlying38 Try.sizeOf3 g22.1 g22.2.1 rfl) ?_
  refine Qt.run rfl rfl (by decide) (Ev.load (i := 1) rfl rfl Try.isAgg3 ((Matrix.get_Rows (Get.vecN (s := 6) rfl g19.2.2 (Get.vecN (s := 1) rfl g22.2.2 (Get.here _)))).off (by omega))) ?_
  refine Qt.run rfl rfl (by decide) (Ev.max2 rfl rfl) ?_
  refine Qt.run rfl rfl (by decide) (Ev.fieldAddr (off' := 2) rfl Try.runUnderlying41 rfl Try.sizeOf39 rfl rfl) ?_
  obtain ⟨x23, h24, H⟩ := bind_some H
  have g25 := vat_some h24
  refine Qt.run rfl rfl (by decide) (Ev.indexAddr (off' := 2 + (i7 : Int).toNat * 6) rfl rfl Try.runUnderlying39 Try.sizeOf38 g25.1 g25.2.1 rfl) ?_
  obtain ⟨x26, h27, H⟩ := bind_some H
  have g28 := vat_some h27
  refine Qt.run rfl rfl (by decide) (Ev.indexAddr (off' := 2 + (i7 : Int).toNat * 6 + (i9 : Int).toNat * 1) rfl rfl Try.runUnderlying38 Try.sizeOf3 g28.1 g28.2.1 rfl) ?_
  refine Qt.tail ?_
  obtain ⟨p29, h30, H⟩ := Let_some H
  refine Lst.store (i := 2) rfl rfl rfl rfl rfl Try.sizeOf3 (vs := [.int .i64 (max x14 x20)]) rfl rfl rfl (cs' := enc p29) (by rw [← h30]; exact (Matrix.put_Rows (Put.vecN (s := 6) rfl g25.2.2 (Put.vecN (s := 1) rfl g28.2.2 (Put.here (vs := [.int .i64 (max x14 x20)]) (by rfl))))).off (by omega)) (L' := (.blk b5 (enc Matrix.zero) 41) :: (.blk b3 (enc a1) 41) :: (.blk b1 (enc p29) 41) :: L) rfl ?_
  refine Lst.nil ?_
  refine At.in_normal ?_
  refine At.then ?_
  refine Cd.as (e' := [(2, .pointer (some ⟨b1, 0, none⟩)), (3, .pointer (some ⟨b3, 0, none⟩)), (4, .pointer (some ⟨b5, 0, none⟩)), (8, .int .i64 (i7 : Int)), (5, .int .i64 (i7 : Int)), (11, .int .i64 (i9 : Int))]) (L' := (.blk b5 (enc Matrix.zero) 41) :: (.blk b3 (enc a1) 41) :: (.blk b1 (enc p29) 41) :: L) ⟨rfl, rfl, rfl, rfl, rfl, rfl, trivial⟩ rfl ?_
  refine Cd.region ?_
  refine Lst.run rfl rfl (by decide) (Ev.incr (by omega) rfl rfl) ?_
  refine Lst.run rfl rfl (by decide) (Ev.move rfl) ?_
  refine Lst.nil ?_
  exact At.meet (i9 + 1, k9, p29) (FLe.refl _) ⟨rfl, rfl, rfl, rfl, rfl, rfl, trivial⟩ rfl ⟨⟨hgo9 _ (some_inj H).symm, by omega⟩, Nat.lt_succ_self _⟩
set_option maxRecDepth 20000 in
theorem partlaw_MatSays_sim {a0 : Matrix} {a1 : Matrix} {a2 : Int} {a3 : Int} {r : Bool} (H : partlaw_MatSays a0 a1 a2 a3 = some r) (w0 : World) (F : Frz) (L : List Item) : Ok Try.prog w0 5 [.agg (enc a0).toArray, .agg (enc a1).toArray, .int .i64 a2, .int .i64 a3] F L (Is (.bool r) L) := by
  unfold partlaw_MatSays at H
  refine Ok.enter (m := 4) (n := 207) Try.func5 rfl rfl rfl (by decide) ?_
  refine Cd.env (e' := [(0, .agg (enc a0).toArray), (1, .agg (enc a1).toArray), (2, .int .i64 a2), (3, .int .i64 a3)]) rfl ?_
  refine Cd.seq ?_
  refine Cd.region ?_
  refine Lst.box rfl rfl (by decide) rfl (cs := enc a0) rfl (fun b1 => ?_)
  refine Lst.box rfl rfl (by decide) rfl (cs := enc a1) rfl (fun b3 => ?_)
  refine Lst.run rfl rfl (by decide) (Ev.assign rfl) ?_
  refine Lst.nil ?_
  refine At.then ?_
  refine Cd.seq ?_
  refine Cd.quiet (by kernel_rfl) (by kernel_rfl) ?_
  refine Qt.run rfl rfl (by decide) (Ev.loadA (i := 1) rfl rfl Try.isAgg41 Try.sizeOf41 (ch := enc a0) (Enc.len _) (Get.here _)) ?_
  obtain ⟨r5, h6, H⟩ := bind_some H
  refine Qt.call rfl rfl (by decide) (vs := [.agg (enc a0).toArray]) ⟨rfl, trivial⟩ Try.call13 (partref_MatrixErr_sim h6 w0 _ _) ?_
  refine Qt.run rfl rfl (by decide) (Ev.loadA (i := 0) rfl rfl Try.isAgg41 Try.sizeOf41 (ch := enc a1) (Enc.len _) (Get.here _)) ?_
  obtain ⟨r7, h8, H⟩ := bind_some H
  refine Qt.call rfl rfl (by decide) (vs := [.agg (enc a1).toArray]) ⟨rfl, trivial⟩ Try.call13 (partref_MatrixErr_sim h8 w0 _ _) ?_
  refine Qt.run rfl rfl (by decide) (Ev.assign rfl) ?_
  refine Qt.run rfl rfl (by decide) (Ev.assign rfl) ?_
  refine Qt.done ?_
  refine At.then ?_
  refine Cd.seq ?_
  refine Cd.region ?_
  refine Lst.run rfl rfl (by decide) (Ev.build (v := .agg (enc (Matrix.zero : Matrix)).toArray) (pv := []) trivial (fun w => by kernel_rfl)) ?_
  refine Lst.alloc rfl rfl (by decide) Try.zeroValue41 (cs := enc Matrix.zero) rfl (fun b9 => ?_)
  refine Lst.store (i := 0) rfl rfl rfl rfl rfl Try.sizeOf41 (vs := enc (Matrix.zero : Matrix)) rfl (Enc.len _) (Enc.one _) (cs' := enc (Matrix.zero : Matrix)) (Put.here ((Enc.len _).trans (Enc.len _).symm)) (L' := (.blk b9 (enc (Matrix.zero : Matrix)) 41) :: (.blk b3 (enc a1) 41) :: (.blk b1 (enc a0) 41) :: L) rfl ?_
  refine Lst.nil ?_
  refine At.then ?_
  refine Cd.seq ?_
  refine Cd.region ?_
  refine Lst.run rfl rfl (by decide) (Ev.move rfl) ?_
  refine Lst.run rfl rfl (by decide) (Ev.move rfl) ?_
  obtain ⟨r11, h12, H⟩ := bind_some H
  refine Lst.call1 rfl rfl (by decide) (vs := [.int .i64 a2, .int .i64 a3]) ⟨rfl, rfl, trivial⟩ Try.call14 (mat_New_sim h12 w0 _ _) ?_
  refine Lst.run rfl rfl (by decide) (Ev.move rfl) ?_
  refine Lst.run rfl rfl (by decide) (Ev.extract rfl rfl) ?_
  refine Lst.run rfl rfl (by decide) (Ev.extract rfl rfl) ?_
  refine Lst.alloc rfl rfl (by decide) Try.zeroValue41 (cs := enc Matrix.zero) rfl (fun b13 => ?_)
  refine Lst.store (i := 0) rfl rfl rfl rfl rfl Try.sizeOf41 (vs := enc r11.1) rfl (Enc.len _) (Enc.one _) (cs' := enc r11.1) (Put.here ((Enc.len _).trans (Enc.len _).symm)) (L' := (.blk b13 (enc r11.1) 41) :: (.blk b9 (enc (Matrix.zero : Matrix)) 41) :: (.blk b3 (enc a1) 41) :: (.blk b1 (enc a0) 41) :: L) rfl ?_
  refine Lst.run rfl rfl (by decide) (Ev.assign rfl) ?_
  refine Lst.nil ?_
  refine At.then ?_
  refine Cd.seq ?_
  refine Cd.region ?_
  refine Lst.run rfl rfl (by decide) (Ev.loadA (i := 3) rfl rfl Try.isAgg41 Try.sizeOf41 (ch := enc a0) (Enc.len _) (Get.here _)) ?_
  obtain ⟨r15, h16, H⟩ := bind_some H
  refine Lst.call1 rfl rfl (by decide) (vs := [.agg (enc a0).toArray]) ⟨rfl, trivial⟩ Try.call15 (mat_Did_sim h16 w0 _ _) ?_
  refine Lst.run rfl rfl (by decide) (Ev.move rfl) ?_
  refine Lst.run rfl rfl (by decide) (Ev.extract rfl rfl) ?_
  refine Lst.run rfl rfl (by decide) (Ev.extract rfl rfl) ?_
  refine Lst.alloc rfl rfl (by decide) Try.zeroValue41 (cs := enc Matrix.zero) rfl (fun b17 => ?_)
  refine Lst.store (i := 0) rfl rfl rfl rfl rfl Try.sizeOf41 (vs := enc r15.1) rfl (Enc.len _) (Enc.one _) (cs' := enc r15.1) (Put.here ((Enc.len _).trans (Enc.len _).symm)) (L' := (.blk b17 (enc r15.1) 41) :: (.blk b13 (enc r11.1) 41) :: (.blk b9 (enc (Matrix.zero : Matrix)) 41) :: (.blk b3 (enc a1) 41) :: (.blk b1 (enc a0) 41) :: L) rfl ?_
  refine Lst.run rfl rfl (by decide) (Ev.assign rfl) ?_
  refine Lst.nil ?_
  refine At.then ?_
  refine Cd.seq ?_
  refine Cd.as (e' := [(2, .int .i64 a2), (3, .int .i64 a3), (4, .pointer (some ⟨b1, 0, none⟩)), (5, .pointer (some ⟨b3, 0, none⟩)), (9, .int .i64 r5), (10, .int .i64 r7), (11, .pointer (some ⟨b9, 0, none⟩)), (12, .pointer (some ⟨b13, 0, none⟩)), (13, .int .i64 r11.2), (14, .pointer (some ⟨b17, 0, none⟩)), (15, .int .i64 r15.2)]) (L' := (.blk b17 (enc r15.1) 41) :: (.blk b13 (enc r11.1) 41) :: (.blk b9 (enc (Matrix.zero : Matrix)) 41) :: (.blk b3 (enc a1) 41) :: (.blk b1 (enc a0) 41) :: L) ⟨rfl, rfl, rfl, rfl, rfl, rfl, rfl, rfl, rfl, rfl, rfl, trivial⟩ rfl ?_
  refine Cd.region ?_
  refine Lst.run rfl rfl (by decide) (Ev.loadA (i := 4) rfl rfl Try.isAgg41 Try.sizeOf41 (ch := enc a0) (Enc.len _) (Get.here _)) ?_
  refine Lst.run rfl rfl (by decide) (Ev.loadA (i := 3) rfl rfl Try.isAgg41 Try.sizeOf41 (ch := enc a1) (Enc.len _) (Get.here _)) ?_
  obtain ⟨r19, h20, H⟩ := bind_some H
  refine Lst.call1 rfl rfl (by decide) (vs := [.agg (enc a0).toArray, .agg (enc a1).toArray]) ⟨rfl, rfl, trivial⟩ Try.call16 (mat_Meet_sim h20 w0 _ _) ?_
  refine Lst.run rfl rfl (by decide) (Ev.move rfl) ?_
  refine Lst.run rfl rfl (by decide) (Ev.extract rfl rfl) ?_
  refine Lst.run rfl rfl (by decide) (Ev.extract rfl rfl) ?_
  refine Lst.alloc rfl rfl (by decide) Try.zeroValue41 (cs := enc Matrix.zero) rfl (fun b21 => ?_)
  refine Lst.store (i := 0) rfl rfl rfl rfl rfl Try.sizeOf41 (vs := enc r19.1) rfl (Enc.len _) (Enc.one _) (cs' := enc r19.1) (Put.here ((Enc.len _).trans (Enc.len _).symm)) (L' := (.blk b21 (enc r19.1) 41) :: (.blk b17 (enc r15.1) 41) :: (.blk b13 (enc r11.1) 41) :: (.blk b9 (enc (Matrix.zero : Matrix)) 41) :: (.blk b3 (enc a1) 41) :: (.blk b1 (enc a0) 41) :: L) rfl ?_
  refine Lst.run rfl rfl (by decide) (Ev.assign rfl) ?_
  refine Lst.nil ?_
  refine At.then ?_
  refine Cd.seq ?_
  refine Cd.region ?_
  refine Lst.run rfl rfl (by decide) (Ev.loadA (i := 5) rfl rfl Try.isAgg41 Try.sizeOf41 (ch := enc a0) (Enc.len _) (Get.here _)) ?_
  obtain ⟨r23, h24, H⟩ := bind_some H
  refine Lst.call1 rfl rfl (by decide) (vs := [.agg (enc a0).toArray]) ⟨rfl, trivial⟩ Try.call17 (mat_Firm_sim h24 w0 _ _) ?_
  refine Lst.run rfl rfl (by decide) (Ev.move rfl) ?_
  refine Lst.run rfl rfl (by decide) (Ev.extract rfl rfl) ?_
  refine Lst.run rfl rfl (by decide) (Ev.extract rfl rfl) ?_
  refine Lst.alloc rfl rfl (by decide) Try.zeroValue38 (cs := enc (Vector.replicate 6 (0 : Int))) rfl (fun b25 => ?_)
  refine Lst.store (i := 0) rfl rfl rfl rfl rfl Try.sizeOf38 (vs := enc r23.1) rfl (Enc.len _) (Enc.one _) (cs' := enc r23.1) (Put.here ((Enc.len _).trans (Enc.len _).symm)) (L' := (.blk b25 (enc r23.1) 38) :: (.blk b21 (enc r19.1) 41) :: (.blk b17 (enc r15.1) 41) :: (.blk b13 (enc r11.1) 41) :: (.blk b9 (enc (Matrix.zero : Matrix)) 41) :: (.blk b3 (enc a1) 41) :: (.blk b1 (enc a0) 41) :: L) rfl ?_
  refine Lst.run rfl rfl (by decide) (Ev.assign rfl) ?_
  refine Lst.nil ?_
  refine At.then ?_
  refine Cd.seq ?_
  refine Cd.region ?_
  refine Lst.run rfl rfl (by decide) (Ev.move rfl) ?_
  refine Lst.run rfl rfl (by decide) (Ev.move rfl) ?_
  refine Lst.run rfl rfl (by decide) (Ev.build (v := .agg (enc ({ Matrix.zero with N := a2, Me := a3 } : Matrix)).toArray) (pv := [(0, .int .i64 a2), (1, .int .i64 a3)]) ⟨rfl, rfl, ⟨rfl, rfl, trivial⟩⟩ (fun w => by kernel_rfl)) ?_
  refine Lst.alloc rfl rfl (by decide) Try.zeroValue41 (cs := enc Matrix.zero) rfl (fun b27 => ?_)
  refine Lst.store (i := 0) rfl rfl rfl rfl rfl Try.sizeOf41 (vs := enc ({ Matrix.zero with N := a2, Me := a3 } : Matrix)) rfl (Enc.len _) (Enc.one _) (cs' := enc ({ Matrix.zero with N := a2, Me := a3 } : Matrix)) (Put.here ((Enc.len _).trans (Enc.len _).symm)) (L' := (.blk b27 (enc ({ Matrix.zero with N := a2, Me := a3 } : Matrix)) 41) :: (.blk b25 (enc r23.1) 38) :: (.blk b21 (enc r19.1) 41) :: (.blk b17 (enc r15.1) 41) :: (.blk b13 (enc r11.1) 41) :: (.blk b9 (enc (Matrix.zero : Matrix)) 41) :: (.blk b3 (enc a1) 41) :: (.blk b1 (enc a0) 41) :: L) rfl ?_
  refine Lst.nil ?_
  refine At.then ?_
  obtain ⟨o29, H, HKo29⟩ := bind_some H
  refine Cd.join (σ := Matrix) (fun y35 => [(2, .int .i64 a2), (3, .int .i64 a3), (4, .pointer (some ⟨b1, 0, none⟩)), (5, .pointer (some ⟨b3, 0, none⟩)), (9, .int .i64 r5), (10, .int .i64 r7), (11, .pointer (some ⟨b9, 0, none⟩)), (12, .pointer (some ⟨b13, 0, none⟩)), (13, .int .i64 r11.2), (14, .pointer (some ⟨b17, 0, none⟩)), (15, .int .i64 r15.2), (16, .pointer (some ⟨b21, 0, none⟩)), (17, .int .i64 r19.2), (18, .pointer (some ⟨b25, 0, none⟩)), (19, .int .i64 r23.2), (20, .pointer (some ⟨b27, 0, none⟩))]) (fun y35 => (.blk b27 (enc y35) 41) :: (.blk b25 (enc r23.1) 38) :: (.blk b21 (enc r19.1) 41) :: (.blk b17 (enc r15.1) 41) :: (.blk b13 (enc r11.1) 41) :: (.blk b9 (enc (Matrix.zero : Matrix)) 41) :: (.blk b3 (enc a1) 41) :: (.blk b1 (enc a0) 41) :: L) (fun _ y35 => y35 = o29) ?_ ?_
  · refine Cd.seq ?_
    refine Cd.region ?_
    refine Lst.run rfl rfl (by decide) (Ev.loadA (i := 0) rfl rfl Try.isAgg41 Try.sizeOf41 (ch := enc ({ Matrix.zero with N := a2, Me := a3 } : Matrix)) (Enc.len _) (Get.here _)) ?_
    obtain ⟨r30, h31, H⟩ := bind_some H
    refine Lst.call1 rfl rfl (by decide) (vs := [.agg (enc ({ Matrix.zero with N := a2, Me := a3 } : Matrix)).toArray]) ⟨rfl, trivial⟩ Try.call13 (partref_MatrixErr_sim h31 w0 _ _) ?_
    refine Lst.run rfl rfl (by decide) (Ev.neq rfl rfl) ?_
    refine Lst.nil ?_
    refine At.then ?_
    rcases (Bool.eq_false_or_eq_true (r30 != (0 : Int))).symm with hb32 | hb32
    · replace H := ite_f hb32 H
      refine Cd.condF rfl hb32 ?_
      refine Cd.skip ?_
      exact At.meet ({ Matrix.zero with N := a2, Me := a3 } : Matrix) (FLe.refl _) ⟨rfl, rfl, rfl, rfl, rfl, rfl, rfl, rfl, rfl, rfl, rfl, rfl, rfl, rfl, rfl, rfl, trivial⟩ rfl (some_inj H)
    replace H := ite_t hb32 H
    refine Cd.condT rfl hb32 ?_
    refine Cd.as (e' := [(2, .int .i64 a2), (3, .int .i64 a3), (4, .pointer (some ⟨b1, 0, none⟩)), (5, .pointer (some ⟨b3, 0, none⟩)), (9, .int .i64 r5), (10, .int .i64 r7), (11, .pointer (some ⟨b9, 0, none⟩)), (12, .pointer (some ⟨b13, 0, none⟩)), (13, .int .i64 r11.2), (14, .pointer (some ⟨b17, 0, none⟩)), (15, .int .i64 r15.2), (16, .pointer (some ⟨b21, 0, none⟩)), (17, .int .i64 r19.2), (18, .pointer (some ⟨b25, 0, none⟩)), (19, .int .i64 r23.2), (20, .pointer (some ⟨b27, 0, none⟩))]) (L' := (.blk b27 (enc ({ Matrix.zero with N := a2, Me := a3 } : Matrix)) 41) :: (.blk b25 (enc r23.1) 38) :: (.blk b21 (enc r19.1) 41) :: (.blk b17 (enc r15.1) 41) :: (.blk b13 (enc r11.1) 41) :: (.blk b9 (enc (Matrix.zero : Matrix)) 41) :: (.blk b3 (enc a1) 41) :: (.blk b1 (enc a0) 41) :: L) ⟨rfl, rfl, rfl, rfl, rfl, rfl, rfl, rfl, rfl, rfl, rfl, rfl, rfl, rfl, rfl, rfl, trivial⟩ rfl ?_
    refine Cd.region ?_
    refine Lst.run rfl rfl (by decide) (Ev.loadA (i := 5) rfl rfl Try.isAgg41 Try.sizeOf41 (ch := enc (Matrix.zero : Matrix)) (Enc.len _) (Get.here _)) ?_
    refine Lst.store (i := 0) rfl rfl rfl rfl rfl Try.sizeOf41 (vs := enc (Matrix.zero : Matrix)) rfl (Enc.len _) (Enc.one _) (cs' := enc (Matrix.zero : Matrix)) (Put.here ((Enc.len _).trans (Enc.len _).symm)) (L' := (.blk b27 (enc (Matrix.zero : Matrix)) 41) :: (.blk b25 (enc r23.1) 38) :: (.blk b21 (enc r19.1) 41) :: (.blk b17 (enc r15.1) 41) :: (.blk b13 (enc r11.1) 41) :: (.blk b9 (enc (Matrix.zero : Matrix)) 41) :: (.blk b3 (enc a1) 41) :: (.blk b1 (enc a0) 41) :: L) rfl ?_
    refine Lst.nil ?_
    exact At.meet (Matrix.zero : Matrix) (FLe.refl _) ⟨rfl, rfl, rfl, rfl, rfl, rfl, rfl, rfl, rfl, rfl, rfl, rfl, rfl, rfl, rfl, rfl, trivial⟩ rfl (some_inj H)
  rintro F' y35 hF' hy
  subst hy
  refine Cd.fle hF' ?_
  refine Cd.as (e' := [(2, .int .i64 a2), (3, .int .i64 a3), (4, .pointer (some ⟨b1, 0, none⟩)), (5, .pointer (some ⟨b3, 0, none⟩)), (9, .int .i64 r5), (10, .int .i64 r7), (11, .pointer (some ⟨b9, 0, none⟩)), (12, .pointer (some ⟨b13, 0, none⟩)), (13, .int .i64 r11.2), (14, .pointer (some ⟨b17, 0, none⟩)), (15, .int .i64 r15.2), (16, .pointer (some ⟨b21, 0, none⟩)), (17, .int .i64 r19.2), (18, .pointer (some ⟨b25, 0, none⟩)), (19, .int .i64 r23.2), (20, .pointer (some ⟨b27, 0, none⟩))]) (L' := (.blk b27 (enc y35) 41) :: (.blk b25 (enc r23.1) 38) :: (.blk b21 (enc r19.1) 41) :: (.blk b17 (enc r15.1) 41) :: (.blk b13 (enc r11.1) 41) :: (.blk b9 (enc (Matrix.zero : Matrix)) 41) :: (.blk b3 (enc a1) 41) :: (.blk b1 (enc a0) 41) :: L) ⟨rfl, rfl, rfl, rfl, rfl, rfl, rfl, rfl, rfl, rfl, rfl, rfl, rfl, rfl, rfl, rfl, trivial⟩ rfl ?_
  replace H := HKo29
  refine Cd.seq ?_
  obtain ⟨o37, H, HKo37⟩ := bind_some H
  refine Cd.join (σ := Bool) (fun y87 => [(4, .pointer (some ⟨b1, 0, none⟩)), (5, .pointer (some ⟨b3, 0, none⟩)), (9, .int .i64 r5), (10, .int .i64 r7), (11, .pointer (some ⟨b9, 0, none⟩)), (14, .pointer (some ⟨b17, 0, none⟩)), (15, .int .i64 r15.2), (16, .pointer (some ⟨b21, 0, none⟩)), (17, .int .i64 r19.2), (18, .pointer (some ⟨b25, 0, none⟩)), (19, .int .i64 r23.2), (92, .bool y87)]) (fun y87 => (.blk b27 (enc y35) 41) :: (.blk b25 (enc r23.1) 38) :: (.blk b21 (enc r19.1) 41) :: (.blk b17 (enc r15.1) 41) :: (.blk b13 (enc r11.1) 41) :: (.blk b9 (enc (Matrix.zero : Matrix)) 41) :: (.blk b3 (enc a1) 41) :: (.blk b1 (enc a0) 41) :: L) (fun _ y87 => y87 = o37) ?_ ?_
  · refine Cd.region ?_
    refine Lst.run rfl rfl (by decide) (Ev.loadA (i := 4) rfl rfl Try.isAgg41 Try.sizeOf41 (ch := enc r11.1) (Enc.len _) (Get.here _)) ?_
    refine Lst.run rfl rfl (by decide) (Ev.loadA (i := 0) rfl rfl Try.isAgg41 Try.sizeOf41 (ch := enc y35) (Enc.len _) (Get.here _)) ?_
    refine Lst.run rfl rfl (by decide) (Ev.neqA rfl rfl (by kernel_rfl) (eq41 _ _)) ?_
    refine Lst.run rfl rfl (by decide) (Ev.move rfl) ?_
    rcases Bool.eq_false_or_eq_true (!(decide (r11.1 = y35))) with hb38 | hb38
    · replace H := ite_t hb38 H
      refine Lst.skip rfl rfl rfl hb38 rfl (by decide) ?_
      refine Lst.skip rfl rfl rfl hb38 rfl (by decide) ?_
      refine Lst.skip rfl rfl rfl hb38 rfl (by decide) ?_
      refine Lst.skip rfl rfl rfl hb38 rfl (by decide) ?_
      refine Lst.skip rfl rfl rfl hb38 rfl (by decide) ?_
      refine Lst.skipU rfl rfl rfl rfl (by decide) ?_
      refine Lst.skipU rfl rfl rfl rfl (by decide) ?_
      refine Lst.skip rfl rfl rfl hb38 rfl (by decide) ?_
      refine Lst.skip rfl rfl rfl hb38 rfl (by decide) ?_
      refine Lst.skipU rfl rfl rfl rfl (by decide) ?_
      refine Lst.skipU rfl rfl rfl rfl (by decide) ?_
      refine Lst.skip rfl rfl rfl hb38 rfl (by decide) ?_
      refine Lst.skip rfl rfl rfl hb38 rfl (by decide) ?_
      refine Lst.skipU rfl rfl rfl rfl (by decide) ?_
      refine Lst.skipU rfl rfl rfl rfl (by decide) ?_
      refine Lst.skipU rfl rfl rfl rfl (by decide) ?_
      refine Lst.skip rfl rfl rfl hb38 rfl (by decide) ?_
      refine Lst.skip rfl rfl rfl hb38 rfl (by decide) ?_
      refine Lst.run rfl rfl (by decide) (Ev.pickT rfl hb38 rfl) ?_
      refine Lst.run rfl rfl (by decide) (Ev.move rfl) ?_
      refine Lst.skip rfl rfl rfl rfl rfl (by decide) ?_
      refine Lst.skip rfl rfl rfl rfl rfl (by decide) ?_
      refine Lst.skip rfl rfl rfl rfl rfl (by decide) ?_
      refine Lst.skipU rfl rfl rfl rfl (by decide) ?_
      refine Lst.skipU rfl rfl rfl rfl (by decide) ?_
      refine Lst.skip rfl rfl rfl rfl rfl (by decide) ?_
      refine Lst.run rfl rfl (by decide) (Ev.pickT rfl rfl rfl) ?_
      refine Lst.run rfl rfl (by decide) (Ev.move rfl) ?_
      refine Lst.skip rfl rfl rfl rfl rfl (by decide) ?_
      refine Lst.skip rfl rfl rfl rfl rfl (by decide) ?_
      refine Lst.skip rfl rfl rfl rfl rfl (by decide) ?_
      refine Lst.skip rfl rfl rfl rfl rfl (by decide) ?_
      refine Lst.run rfl rfl (by decide) (Ev.pickT rfl rfl rfl) ?_
      refine Lst.nil ?_
      exact At.meet true (FLe.refl _) ⟨rfl, rfl, rfl, rfl, rfl, rfl, rfl, rfl, rfl, rfl, rfl, rfl, trivial⟩ rfl (some_inj H)
    replace H := ite_f hb38 H
    refine Lst.runG rfl rfl rfl hb38 rfl (by decide) (Ev.move rfl) ?_
    refine Lst.runG rfl rfl rfl hb38 rfl (by decide) (Ev.eql rfl rfl) ?_
    refine Lst.runG rfl rfl rfl hb38 rfl (by decide) (Ev.move rfl) ?_
    refine Lst.runG rfl rfl rfl hb38 rfl (by decide) (Ev.gtr rfl rfl) ?_
    refine Lst.runG rfl rfl rfl hb38 rfl (by decide) (Ev.move rfl) ?_
    rcases (Bool.eq_false_or_eq_true (decide (a2 > (0 : Int)))).symm with hb40 | hb40
    · replace H := ite_f hb40 H
      refine Lst.skip rfl rfl rfl hb40 rfl (by decide) ?_
      refine Lst.skip rfl rfl rfl hb40 rfl (by decide) ?_
      refine Lst.runG rfl rfl rfl hb38 rfl (by decide) (Ev.pickF rfl hb40 rfl) ?_
      refine Lst.runG rfl rfl rfl hb38 rfl (by decide) (Ev.move rfl) ?_
      refine Lst.skip rfl rfl rfl rfl rfl (by decide) ?_
      refine Lst.skip rfl rfl rfl rfl rfl (by decide) ?_
      refine Lst.runG rfl rfl rfl hb38 rfl (by decide) (Ev.pickF rfl rfl rfl) ?_
      refine Lst.runG rfl rfl rfl hb38 rfl (by decide) (Ev.move rfl) ?_
      refine Lst.skip rfl rfl rfl rfl rfl (by decide) ?_
      refine Lst.skip rfl rfl rfl rfl rfl (by decide) ?_
      refine Lst.skip rfl rfl rfl rfl rfl (by decide) ?_
      refine Lst.runG rfl rfl rfl hb38 rfl (by decide) (Ev.pickF rfl rfl rfl) ?_
      refine Lst.runG rfl rfl rfl hb38 rfl (by decide) (Ev.neqB rfl rfl Try.runUnderlying4) ?_
      refine Lst.run rfl rfl (by decide) (Ev.pickF rfl hb38 rfl) ?_
      refine Lst.run rfl rfl (by decide) (Ev.move rfl) ?_
      rcases Bool.eq_false_or_eq_true ((r11.2 == (0 : Int)) != false) with hb41 | hb41
      · replace H := ite_t hb41 H
        refine Lst.skip rfl rfl rfl hb41 rfl (by decide) ?_
        refine Lst.skip rfl rfl rfl hb41 rfl (by decide) ?_
        refine Lst.skip rfl rfl rfl hb41 rfl (by decide) ?_
        refine Lst.skipU rfl rfl rfl rfl (by decide) ?_
        refine Lst.skipU rfl rfl rfl rfl (by decide) ?_
        refine Lst.skip rfl rfl rfl hb41 rfl (by decide) ?_
        refine Lst.run rfl rfl (by decide) (Ev.pickT rfl hb41 rfl) ?_
        refine Lst.run rfl rfl (by decide) (Ev.move rfl) ?_
        refine Lst.skip rfl rfl rfl rfl rfl (by decide) ?_
        refine Lst.skip rfl rfl rfl rfl rfl (by decide) ?_
        refine Lst.skip rfl rfl rfl rfl rfl (by decide) ?_
        refine Lst.skip rfl rfl rfl rfl rfl (by decide) ?_
        refine Lst.run rfl rfl (by decide) (Ev.pickT rfl rfl rfl) ?_
        refine Lst.nil ?_
        exact At.meet true (FLe.refl _) ⟨rfl, rfl, rfl, rfl, rfl, rfl, rfl, rfl, rfl, rfl, rfl, rfl, trivial⟩ rfl (some_inj H)
      replace H := ite_f hb41 H
      refine Lst.runG rfl rfl rfl hb41 rfl (by decide) (Ev.move rfl) ?_
      refine Lst.runG rfl rfl rfl hb41 rfl (by decide) (Ev.neq rfl rfl) ?_
      refine Lst.runG rfl rfl rfl hb41 rfl (by decide) (Ev.move rfl) ?_
      rcases (Bool.eq_false_or_eq_true (r11.2 != (0 : Int))).symm with hb43 | hb43
      · replace H := ite_f hb43 H
        refine Lst.skip rfl rfl rfl hb43 rfl (by decide) ?_
        refine Lst.skip rfl rfl rfl hb43 rfl (by decide) ?_
        refine Lst.runG rfl rfl rfl hb41 rfl (by decide) (Ev.pickF rfl hb43 rfl) ?_
        refine Lst.run rfl rfl (by decide) (Ev.pickF rfl hb41 rfl) ?_
        refine Lst.run rfl rfl (by decide) (Ev.move rfl) ?_
        refine Lst.runG rfl rfl rfl rfl rfl (by decide) (Ev.loadA (i := 7) rfl rfl Try.isAgg41 Try.sizeOf41 (ch := enc a0) (Enc.len _) (Get.here _)) ?_
        obtain ⟨r44, h45, H⟩ := bind_some H
        refine Lst.call1G rfl rfl rfl rfl rfl (by decide) (vs := [.agg (enc a0).toArray]) ⟨rfl, trivial⟩ Try.call18 (mat_Check_sim h45 w0 _ _) ?_
        refine Lst.runG rfl rfl rfl rfl rfl (by decide) (Ev.move rfl) ?_
        refine Lst.runG rfl rfl rfl rfl rfl (by decide) (Ev.neq rfl rfl) ?_
        refine Lst.run rfl rfl (by decide) (Ev.pickF rfl rfl rfl) ?_
        refine Lst.nil ?_
        exact At.meet (r44 != r5) (FLe.refl _) ⟨rfl, rfl, rfl, rfl, rfl, rfl, rfl, rfl, rfl, rfl, rfl, rfl, trivial⟩ rfl (some_inj H)
      replace H := ite_t hb43 H
      refine Lst.runG rfl rfl rfl hb43 rfl (by decide) (Ev.move rfl) ?_
      refine Lst.runG rfl rfl rfl hb43 rfl (by decide) (Ev.neq rfl rfl) ?_
      refine Lst.runG rfl rfl rfl hb41 rfl (by decide) (Ev.pickT rfl hb43 rfl) ?_
      refine Lst.run rfl rfl (by decide) (Ev.pickF rfl hb41 rfl) ?_
      refine Lst.run rfl rfl (by decide) (Ev.move rfl) ?_
      rcases Bool.eq_false_or_eq_true (r11.2 != (1 : Int)) with hb47 | hb47
      · replace H := ite_t hb47 H
        refine Lst.skip rfl rfl rfl hb47 rfl (by decide) ?_
        refine Lst.skip rfl rfl rfl hb47 rfl (by decide) ?_
        refine Lst.skip rfl rfl rfl hb47 rfl (by decide) ?_
        refine Lst.skip rfl rfl rfl hb47 rfl (by decide) ?_
        refine Lst.run rfl rfl (by decide) (Ev.pickT rfl hb47 rfl) ?_
        refine Lst.nil ?_
        exact At.meet true (FLe.refl _) ⟨rfl, rfl, rfl, rfl, rfl, rfl, rfl, rfl, rfl, rfl, rfl, rfl, trivial⟩ rfl (some_inj H)
      replace H := ite_f hb47 H
      refine Lst.runG rfl rfl rfl hb47 rfl (by decide) (Ev.loadA (i := 7) rfl rfl Try.isAgg41 Try.sizeOf41 (ch := enc a0) (Enc.len _) (Get.here _)) ?_
      obtain ⟨r49, h50, H⟩ := bind_some H
      refine Lst.call1G rfl rfl rfl hb47 rfl (by decide) (vs := [.agg (enc a0).toArray]) ⟨rfl, trivial⟩ Try.call18 (mat_Check_sim h50 w0 _ _) ?_
      refine Lst.runG rfl rfl rfl hb47 rfl (by decide) (Ev.move rfl) ?_
      refine Lst.runG rfl rfl rfl hb47 rfl (by decide) (Ev.neq rfl rfl) ?_
      refine Lst.run rfl rfl (by decide) (Ev.pickF rfl hb47 rfl) ?_
      refine Lst.nil ?_
      exact At.meet (r49 != r5) (FLe.refl _) ⟨rfl, rfl, rfl, rfl, rfl, rfl, rfl, rfl, rfl, rfl, rfl, rfl, trivial⟩ rfl (some_inj H)
    replace H := ite_t hb40 H
    refine Lst.runG rfl rfl rfl hb40 rfl (by decide) (Ev.move rfl) ?_
    refine Lst.runG rfl rfl rfl hb40 rfl (by decide) (Ev.lss rfl rfl) ?_
    refine Lst.runG rfl rfl rfl hb38 rfl (by decide) (Ev.pickT rfl hb40 rfl) ?_
    refine Lst.runG rfl rfl rfl hb38 rfl (by decide) (Ev.move rfl) ?_
    rcases (Bool.eq_false_or_eq_true (decide (a2 < (7 : Int)))).symm with hb52 | hb52
    · replace H := ite_f hb52 H
      refine Lst.skip rfl rfl rfl hb52 rfl (by decide) ?_
      refine Lst.skip rfl rfl rfl hb52 rfl (by decide) ?_
      refine Lst.runG rfl rfl rfl hb38 rfl (by decide) (Ev.pickF rfl hb52 rfl) ?_
      refine Lst.runG rfl rfl rfl hb38 rfl (by decide) (Ev.move rfl) ?_
      refine Lst.skip rfl rfl rfl rfl rfl (by decide) ?_
      refine Lst.skip rfl rfl rfl rfl rfl (by decide) ?_
      refine Lst.skip rfl rfl rfl rfl rfl (by decide) ?_
      refine Lst.runG rfl rfl rfl hb38 rfl (by decide) (Ev.pickF rfl rfl rfl) ?_
      refine Lst.runG rfl rfl rfl hb38 rfl (by decide) (Ev.neqB rfl rfl Try.runUnderlying4) ?_
      refine Lst.run rfl rfl (by decide) (Ev.pickF rfl hb38 rfl) ?_
      refine Lst.run rfl rfl (by decide) (Ev.move rfl) ?_
      rcases Bool.eq_false_or_eq_true ((r11.2 == (0 : Int)) != false) with hb53 | hb53
      · replace H := ite_t hb53 H
        refine Lst.skip rfl rfl rfl hb53 rfl (by decide) ?_
        refine Lst.skip rfl rfl rfl hb53 rfl (by decide) ?_
        refine Lst.skip rfl rfl rfl hb53 rfl (by decide) ?_
        refine Lst.skipU rfl rfl rfl rfl (by decide) ?_
        refine Lst.skipU rfl rfl rfl rfl (by decide) ?_
        refine Lst.skip rfl rfl rfl hb53 rfl (by decide) ?_
        refine Lst.run rfl rfl (by decide) (Ev.pickT rfl hb53 rfl) ?_
        refine Lst.run rfl rfl (by decide) (Ev.move rfl) ?_
        refine Lst.skip rfl rfl rfl rfl rfl (by decide) ?_
        refine Lst.skip rfl rfl rfl rfl rfl (by decide) ?_
        refine Lst.skip rfl rfl rfl rfl rfl (by decide) ?_
        refine Lst.skip rfl rfl rfl rfl rfl (by decide) ?_
        refine Lst.run rfl rfl (by decide) (Ev.pickT rfl rfl rfl) ?_
        refine Lst.nil ?_
        exact At.meet true (FLe.refl _) ⟨rfl, rfl, rfl, rfl, rfl, rfl, rfl, rfl, rfl, rfl, rfl, rfl, trivial⟩ rfl (some_inj H)
      replace H := ite_f hb53 H
      refine Lst.runG rfl rfl rfl hb53 rfl (by decide) (Ev.move rfl) ?_
      refine Lst.runG rfl rfl rfl hb53 rfl (by decide) (Ev.neq rfl rfl) ?_
      refine Lst.runG rfl rfl rfl hb53 rfl (by decide) (Ev.move rfl) ?_
      rcases (Bool.eq_false_or_eq_true (r11.2 != (0 : Int))).symm with hb55 | hb55
      · replace H := ite_f hb55 H
        refine Lst.skip rfl rfl rfl hb55 rfl (by decide) ?_
        refine Lst.skip rfl rfl rfl hb55 rfl (by decide) ?_
        refine Lst.runG rfl rfl rfl hb53 rfl (by decide) (Ev.pickF rfl hb55 rfl) ?_
        refine Lst.run rfl rfl (by decide) (Ev.pickF rfl hb53 rfl) ?_
        refine Lst.run rfl rfl (by decide) (Ev.move rfl) ?_
        refine Lst.runG rfl rfl rfl rfl rfl (by decide) (Ev.loadA (i := 7) rfl rfl Try.isAgg41 Try.sizeOf41 (ch := enc a0) (Enc.len _) (Get.here _)) ?_
        obtain ⟨r56, h57, H⟩ := bind_some H
        refine Lst.call1G rfl rfl rfl rfl rfl (by decide) (vs := [.agg (enc a0).toArray]) ⟨rfl, trivial⟩ Try.call18 (mat_Check_sim h57 w0 _ _) ?_
        refine Lst.runG rfl rfl rfl rfl rfl (by decide) (Ev.move rfl) ?_
        refine Lst.runG rfl rfl rfl rfl rfl (by decide) (Ev.neq rfl rfl) ?_
        refine Lst.run rfl rfl (by decide) (Ev.pickF rfl rfl rfl) ?_
        refine Lst.nil ?_
        exact At.meet (r56 != r5) (FLe.refl _) ⟨rfl, rfl, rfl, rfl, rfl, rfl, rfl, rfl, rfl, rfl, rfl, rfl, trivial⟩ rfl (some_inj H)
      replace H := ite_t hb55 H
      refine Lst.runG rfl rfl rfl hb55 rfl (by decide) (Ev.move rfl) ?_
      refine Lst.runG rfl rfl rfl hb55 rfl (by decide) (Ev.neq rfl rfl) ?_
      refine Lst.runG rfl rfl rfl hb53 rfl (by decide) (Ev.pickT rfl hb55 rfl) ?_
      refine Lst.run rfl rfl (by decide) (Ev.pickF rfl hb53 rfl) ?_
      refine Lst.run rfl rfl (by decide) (Ev.move rfl) ?_
      rcases Bool.eq_false_or_eq_true (r11.2 != (1 : Int)) with hb59 | hb59
      · replace H := ite_t hb59 H
        refine Lst.skip rfl rfl rfl hb59 rfl (by decide) ?_
        refine Lst.skip rfl rfl rfl hb59 rfl (by decide) ?_
        refine Lst.skip rfl rfl rfl hb59 rfl (by decide) ?_
        refine Lst.skip rfl rfl rfl hb59 rfl (by decide) ?_
        refine Lst.run rfl rfl (by decide) (Ev.pickT rfl hb59 rfl) ?_
        refine Lst.nil ?_
        exact At.meet true (FLe.refl _) ⟨rfl, rfl, rfl, rfl, rfl, rfl, rfl, rfl, rfl, rfl, rfl, rfl, trivial⟩ rfl (some_inj H)
      replace H := ite_f hb59 H
      refine Lst.runG rfl rfl rfl hb59 rfl (by decide) (Ev.loadA (i := 7) rfl rfl Try.isAgg41 Try.sizeOf41 (ch := enc a0) (Enc.len _) (Get.here _)) ?_
      obtain ⟨r61, h62, H⟩ := bind_some H
      refine Lst.call1G rfl rfl rfl hb59 rfl (by decide) (vs := [.agg (enc a0).toArray]) ⟨rfl, trivial⟩ Try.call18 (mat_Check_sim h62 w0 _ _) ?_
      refine Lst.runG rfl rfl rfl hb59 rfl (by decide) (Ev.move rfl) ?_
      refine Lst.runG rfl rfl rfl hb59 rfl (by decide) (Ev.neq rfl rfl) ?_
      refine Lst.run rfl rfl (by decide) (Ev.pickF rfl hb59 rfl) ?_
      refine Lst.nil ?_
      exact At.meet (r61 != r5) (FLe.refl _) ⟨rfl, rfl, rfl, rfl, rfl, rfl, rfl, rfl, rfl, rfl, rfl, rfl, trivial⟩ rfl (some_inj H)
    replace H := ite_t hb52 H
    refine Lst.runG rfl rfl rfl hb52 rfl (by decide) (Ev.move rfl) ?_
    refine Lst.runG rfl rfl rfl hb52 rfl (by decide) (Ev.geq rfl rfl) ?_
    refine Lst.runG rfl rfl rfl hb38 rfl (by decide) (Ev.pickT rfl hb52 rfl) ?_
    refine Lst.runG rfl rfl rfl hb38 rfl (by decide) (Ev.move rfl) ?_
    rcases (Bool.eq_false_or_eq_true (decide (a3 ≥ (0 : Int)))).symm with hb64 | hb64
    · replace H := ite_f hb64 H
      refine Lst.skip rfl rfl rfl hb64 rfl (by decide) ?_
      refine Lst.skip rfl rfl rfl hb64 rfl (by decide) ?_
      refine Lst.skip rfl rfl rfl hb64 rfl (by decide) ?_
      refine Lst.runG rfl rfl rfl hb38 rfl (by decide) (Ev.pickF rfl hb64 rfl) ?_
      refine Lst.runG rfl rfl rfl hb38 rfl (by decide) (Ev.neqB rfl rfl Try.runUnderlying4) ?_
      refine Lst.run rfl rfl (by decide) (Ev.pickF rfl hb38 rfl) ?_
      refine Lst.run rfl rfl (by decide) (Ev.move rfl) ?_
      rcases Bool.eq_false_or_eq_true ((r11.2 == (0 : Int)) != false) with hb65 | hb65
      · replace H := ite_t hb65 H
        refine Lst.skip rfl rfl rfl hb65 rfl (by decide) ?_
        refine Lst.skip rfl rfl rfl hb65 rfl (by decide) ?_
        refine Lst.skip rfl rfl rfl hb65 rfl (by decide) ?_
        refine Lst.skipU rfl rfl rfl rfl (by decide) ?_
        refine Lst.skipU rfl rfl rfl rfl (by decide) ?_
        refine Lst.skip rfl rfl rfl hb65 rfl (by decide) ?_
        refine Lst.run rfl rfl (by decide) (Ev.pickT rfl hb65 rfl) ?_
        refine Lst.run rfl rfl (by decide) (Ev.move rfl) ?_
        refine Lst.skip rfl rfl rfl rfl rfl (by decide) ?_
        refine Lst.skip rfl rfl rfl rfl rfl (by decide) ?_
        refine Lst.skip rfl rfl rfl rfl rfl (by decide) ?_
        refine Lst.skip rfl rfl rfl rfl rfl (by decide) ?_
        refine Lst.run rfl rfl (by decide) (Ev.pickT rfl rfl rfl) ?_
        refine Lst.nil ?_
        exact At.meet true (FLe.refl _) ⟨rfl, rfl, rfl, rfl, rfl, rfl, rfl, rfl, rfl, rfl, rfl, rfl, trivial⟩ rfl (some_inj H)
      replace H := ite_f hb65 H
      refine Lst.runG rfl rfl rfl hb65 rfl (by decide) (Ev.move rfl) ?_
      refine Lst.runG rfl rfl rfl hb65 rfl (by decide) (Ev.neq rfl rfl) ?_
      refine Lst.runG rfl rfl rfl hb65 rfl (by decide) (Ev.move rfl) ?_
      rcases (Bool.eq_false_or_eq_true (r11.2 != (0 : Int))).symm with hb67 | hb67
      · replace H := ite_f hb67 H
        refine Lst.skip rfl rfl rfl hb67 rfl (by decide) ?_
        refine Lst.skip rfl rfl rfl hb67 rfl (by decide) ?_
        refine Lst.runG rfl rfl rfl hb65 rfl (by decide) (Ev.pickF rfl hb67 rfl) ?_
        refine Lst.run rfl rfl (by decide) (Ev.pickF rfl hb65 rfl) ?_
        refine Lst.run rfl rfl (by decide) (Ev.move rfl) ?_
        refine Lst.runG rfl rfl rfl rfl rfl (by decide) (Ev.loadA (i := 7) rfl rfl Try.isAgg41 Try.sizeOf41 (ch := enc a0) (Enc.len _) (Get.here _)) ?_
        obtain ⟨r68, h69, H⟩ := bind_some H
        refine Lst.call1G rfl rfl rfl rfl rfl (by decide) (vs := [.agg (enc a0).toArray]) ⟨rfl, trivial⟩ Try.call18 (mat_Check_sim h69 w0 _ _) ?_
        refine Lst.runG rfl rfl rfl rfl rfl (by decide) (Ev.move rfl) ?_
        refine Lst.runG rfl rfl rfl rfl rfl (by decide) (Ev.neq rfl rfl) ?_
        refine Lst.run rfl rfl (by decide) (Ev.pickF rfl rfl rfl) ?_
        refine Lst.nil ?_
        exact At.meet (r68 != r5) (FLe.refl _) ⟨rfl, rfl, rfl, rfl, rfl, rfl, rfl, rfl, rfl, rfl, rfl, rfl, trivial⟩ rfl (some_inj H)
      replace H := ite_t hb67 H
      refine Lst.runG rfl rfl rfl hb67 rfl (by decide) (Ev.move rfl) ?_
      refine Lst.runG rfl rfl rfl hb67 rfl (by decide) (Ev.neq rfl rfl) ?_
      refine Lst.runG rfl rfl rfl hb65 rfl (by decide) (Ev.pickT rfl hb67 rfl) ?_
      refine Lst.run rfl rfl (by decide) (Ev.pickF rfl hb65 rfl) ?_
      refine Lst.run rfl rfl (by decide) (Ev.move rfl) ?_
      rcases Bool.eq_false_or_eq_true (r11.2 != (1 : Int)) with hb71 | hb71
      · replace H := ite_t hb71 H
        refine Lst.skip rfl rfl rfl hb71 rfl (by decide) ?_
        refine Lst.skip rfl rfl rfl hb71 rfl (by decide) ?_
        refine Lst.skip rfl rfl rfl hb71 rfl (by decide) ?_
        refine Lst.skip rfl rfl rfl hb71 rfl (by decide) ?_
        refine Lst.run rfl rfl (by decide) (Ev.pickT rfl hb71 rfl) ?_
        refine Lst.nil ?_
        exact At.meet true (FLe.refl _) ⟨rfl, rfl, rfl, rfl, rfl, rfl, rfl, rfl, rfl, rfl, rfl, rfl, trivial⟩ rfl (some_inj H)
      replace H := ite_f hb71 H
      refine Lst.runG rfl rfl rfl hb71 rfl (by decide) (Ev.loadA (i := 7) rfl rfl Try.isAgg41 Try.sizeOf41 (ch := enc a0) (Enc.len _) (Get.here _)) ?_
      obtain ⟨r73, h74, H⟩ := bind_some H
      refine Lst.call1G rfl rfl rfl hb71 rfl (by decide) (vs := [.agg (enc a0).toArray]) ⟨rfl, trivial⟩ Try.call18 (mat_Check_sim h74 w0 _ _) ?_
      refine Lst.runG rfl rfl rfl hb71 rfl (by decide) (Ev.move rfl) ?_
      refine Lst.runG rfl rfl rfl hb71 rfl (by decide) (Ev.neq rfl rfl) ?_
      refine Lst.run rfl rfl (by decide) (Ev.pickF rfl hb71 rfl) ?_
      refine Lst.nil ?_
      exact At.meet (r73 != r5) (FLe.refl _) ⟨rfl, rfl, rfl, rfl, rfl, rfl, rfl, rfl, rfl, rfl, rfl, rfl, trivial⟩ rfl (some_inj H)
    replace H := ite_t hb64 H
    refine Lst.runG rfl rfl rfl hb64 rfl (by decide) (Ev.move rfl) ?_
    refine Lst.runG rfl rfl rfl hb64 rfl (by decide) (Ev.move rfl) ?_
    refine Lst.runG rfl rfl rfl hb64 rfl (by decide) (Ev.lss rfl rfl) ?_
    refine Lst.runG rfl rfl rfl hb38 rfl (by decide) (Ev.pickT rfl hb64 rfl) ?_
    refine Lst.runG rfl rfl rfl hb38 rfl (by decide) (Ev.neqB rfl rfl Try.runUnderlying4) ?_
    refine Lst.run rfl rfl (by decide) (Ev.pickF rfl hb38 rfl) ?_
    refine Lst.run rfl rfl (by decide) (Ev.move rfl) ?_
    rcases Bool.eq_false_or_eq_true ((r11.2 == (0 : Int)) != (decide (a3 < a2))) with hb76 | hb76
    · replace H := ite_t hb76 H
      refine Lst.skip rfl rfl rfl hb76 rfl (by decide) ?_
      refine Lst.skip rfl rfl rfl hb76 rfl (by decide) ?_
      refine Lst.skip rfl rfl rfl hb76 rfl (by decide) ?_
      refine Lst.skipU rfl rfl rfl rfl (by decide) ?_
      refine Lst.skipU rfl rfl rfl rfl (by decide) ?_
      refine Lst.skip rfl rfl rfl hb76 rfl (by decide) ?_
      refine Lst.run rfl rfl (by decide) (Ev.pickT rfl hb76 rfl) ?_
      refine Lst.run rfl rfl (by decide) (Ev.move rfl) ?_
      refine Lst.skip rfl rfl rfl rfl rfl (by decide) ?_
      refine Lst.skip rfl rfl rfl rfl rfl (by decide) ?_
      refine Lst.skip rfl rfl rfl rfl rfl (by decide) ?_
      refine Lst.skip rfl rfl rfl rfl rfl (by decide) ?_
      refine Lst.run rfl rfl (by decide) (Ev.pickT rfl rfl rfl) ?_
      refine Lst.nil ?_
      exact At.meet true (FLe.refl _) ⟨rfl, rfl, rfl, rfl, rfl, rfl, rfl, rfl, rfl, rfl, rfl, rfl, trivial⟩ rfl (some_inj H)
    replace H := ite_f hb76 H
    refine Lst.runG rfl rfl rfl hb76 rfl (by decide) (Ev.move rfl) ?_
    refine Lst.runG rfl rfl rfl hb76 rfl (by decide) (Ev.neq rfl rfl) ?_
    refine Lst.runG rfl rfl rfl hb76 rfl (by decide) (Ev.move rfl) ?_
    rcases (Bool.eq_false_or_eq_true (r11.2 != (0 : Int))).symm with hb78 | hb78
    · replace H := ite_f hb78 H
      refine Lst.skip rfl rfl rfl hb78 rfl (by decide) ?_
      refine Lst.skip rfl rfl rfl hb78 rfl (by decide) ?_
      refine Lst.runG rfl rfl rfl hb76 rfl (by decide) (Ev.pickF rfl hb78 rfl) ?_
      refine Lst.run rfl rfl (by decide) (Ev.pickF rfl hb76 rfl) ?_
      refine Lst.run rfl rfl (by decide) (Ev.move rfl) ?_
      refine Lst.runG rfl rfl rfl rfl rfl (by decide) (Ev.loadA (i := 7) rfl rfl Try.isAgg41 Try.sizeOf41 (ch := enc a0) (Enc.len _) (Get.here _)) ?_
      obtain ⟨r79, h80, H⟩ := bind_some H
      refine Lst.call1G rfl rfl rfl rfl rfl (by decide) (vs := [.agg (enc a0).toArray]) ⟨rfl, trivial⟩ Try.call18 (mat_Check_sim h80 w0 _ _) ?_
      refine Lst.runG rfl rfl rfl rfl rfl (by decide) (Ev.move rfl) ?_
      refine Lst.runG rfl rfl rfl rfl rfl (by decide) (Ev.neq rfl rfl) ?_
      refine Lst.run rfl rfl (by decide) (Ev.pickF rfl rfl rfl) ?_
      refine Lst.nil ?_
      exact At.meet (r79 != r5) (FLe.refl _) ⟨rfl, rfl, rfl, rfl, rfl, rfl, rfl, rfl, rfl, rfl, rfl, rfl, trivial⟩ rfl (some_inj H)
    replace H := ite_t hb78 H
    refine Lst.runG rfl rfl rfl hb78 rfl (by decide) (Ev.move rfl) ?_
    refine Lst.runG rfl rfl rfl hb78 rfl (by decide) (Ev.neq rfl rfl) ?_
    refine Lst.runG rfl rfl rfl hb76 rfl (by decide) (Ev.pickT rfl hb78 rfl) ?_
    refine Lst.run rfl rfl (by decide) (Ev.pickF rfl hb76 rfl) ?_
    refine Lst.run rfl rfl (by decide) (Ev.move rfl) ?_
    rcases Bool.eq_false_or_eq_true (r11.2 != (1 : Int)) with hb82 | hb82
    · replace H := ite_t hb82 H
      refine Lst.skip rfl rfl rfl hb82 rfl (by decide) ?_
      refine Lst.skip rfl rfl rfl hb82 rfl (by decide) ?_
      refine Lst.skip rfl rfl rfl hb82 rfl (by decide) ?_
      refine Lst.skip rfl rfl rfl hb82 rfl (by decide) ?_
      refine Lst.run rfl rfl (by decide) (Ev.pickT rfl hb82 rfl) ?_
      refine Lst.nil ?_
      exact At.meet true (FLe.refl _) ⟨rfl, rfl, rfl, rfl, rfl, rfl, rfl, rfl, rfl, rfl, rfl, rfl, trivial⟩ rfl (some_inj H)
    replace H := ite_f hb82 H
    refine Lst.runG rfl rfl rfl hb82 rfl (by decide) (Ev.loadA (i := 7) rfl rfl Try.isAgg41 Try.sizeOf41 (ch := enc a0) (Enc.len _) (Get.here _)) ?_
    obtain ⟨r84, h85, H⟩ := bind_some H
    refine Lst.call1G rfl rfl rfl hb82 rfl (by decide) (vs := [.agg (enc a0).toArray]) ⟨rfl, trivial⟩ Try.call18 (mat_Check_sim h85 w0 _ _) ?_
    refine Lst.runG rfl rfl rfl hb82 rfl (by decide) (Ev.move rfl) ?_
    refine Lst.runG rfl rfl rfl hb82 rfl (by decide) (Ev.neq rfl rfl) ?_
    refine Lst.run rfl rfl (by decide) (Ev.pickF rfl hb82 rfl) ?_
    refine Lst.nil ?_
    exact At.meet (r84 != r5) (FLe.refl _) ⟨rfl, rfl, rfl, rfl, rfl, rfl, rfl, rfl, rfl, rfl, rfl, rfl, trivial⟩ rfl (some_inj H)
  rintro F' y87 hF' hy
  subst hy
  refine Cd.fle hF' ?_
  refine Cd.as (e' := [(4, .pointer (some ⟨b1, 0, none⟩)), (5, .pointer (some ⟨b3, 0, none⟩)), (9, .int .i64 r5), (10, .int .i64 r7), (11, .pointer (some ⟨b9, 0, none⟩)), (14, .pointer (some ⟨b17, 0, none⟩)), (15, .int .i64 r15.2), (16, .pointer (some ⟨b21, 0, none⟩)), (17, .int .i64 r19.2), (18, .pointer (some ⟨b25, 0, none⟩)), (19, .int .i64 r23.2), (92, .bool y87)]) (L' := (.blk b27 (enc y35) 41) :: (.blk b25 (enc r23.1) 38) :: (.blk b21 (enc r19.1) 41) :: (.blk b17 (enc r15.1) 41) :: (.blk b13 (enc r11.1) 41) :: (.blk b9 (enc (Matrix.zero : Matrix)) 41) :: (.blk b3 (enc a1) 41) :: (.blk b1 (enc a0) 41) :: L) ⟨rfl, rfl, rfl, rfl, rfl, rfl, rfl, rfl, rfl, rfl, rfl, rfl, trivial⟩ rfl ?_
  replace H := HKo37
  rcases Bool.eq_false_or_eq_true y87 with hb89 | hb89
  · replace H := ite_t hb89 H
    refine Cd.condT rfl hb89 ?_
    refine Cd.seq ?_
    refine Cd.region ?_
    refine Lst.run rfl rfl (by decide) (Ev.assign rfl) ?_
    refine Lst.nil ?_
    refine At.then ?_
    obtain rfl := some_inj H
    refine Cd.ret ?_
    refine At.then_ret ?_
    exact At.ret1 rfl (Res.tmp rfl) (FLe.refl _) (List.Sublist.cons _ (List.Sublist.cons _ (List.Sublist.cons _ (List.Sublist.cons _ (List.Sublist.cons _ (List.Sublist.cons _ (List.Sublist.cons _ (List.Sublist.cons _ (List.Sublist.refl _))))))))) ⟨rfl, rfl⟩
  replace H := ite_f hb89 H
  refine Cd.condF rfl hb89 ?_
  refine Cd.skip ?_
  refine At.then ?_
  refine Cd.seq ?_
  refine Cd.seq ?_
  refine Cd.region ?_
  refine Lst.run rfl rfl (by decide) (Ev.move rfl) ?_
  refine Lst.run rfl rfl (by decide) (Ev.neq rfl rfl) ?_
  refine Lst.nil ?_
  refine At.then ?_
  rcases Bool.eq_false_or_eq_true (r5 != (0 : Int)) with hb90 | hb90
  · replace H := ite_t hb90 H
    refine Cd.condT rfl hb90 ?_
    obtain ⟨o91, H, HKo91⟩ := bind_some H
    refine Cd.join (σ := Bool) (fun y103 => [(8, .bool y103)]) (fun y103 => (.blk b27 (enc y35) 41) :: (.blk b25 (enc r23.1) 38) :: (.blk b21 (enc r19.1) 41) :: (.blk b17 (enc r15.1) 41) :: (.blk b13 (enc r11.1) 41) :: (.blk b9 (enc (Matrix.zero : Matrix)) 41) :: (.blk b3 (enc a1) 41) :: (.blk b1 (enc a0) 41) :: L) (fun _ y103 => y103 = o91) ?_ ?_
    · refine Cd.region ?_
      refine Lst.run rfl rfl (by decide) (Ev.loadA (i := 3) rfl rfl Try.isAgg41 Try.sizeOf41 (ch := enc r15.1) (Enc.len _) (Get.here _)) ?_
      refine Lst.run rfl rfl (by decide) (Ev.loadA (i := 5) rfl rfl Try.isAgg41 Try.sizeOf41 (ch := enc (Matrix.zero : Matrix)) (Enc.len _) (Get.here _)) ?_
      refine Lst.run rfl rfl (by decide) (Ev.eqlA rfl rfl (by kernel_rfl) (eq41 _ _)) ?_
      refine Lst.run rfl rfl (by decide) (Ev.move rfl) ?_
      rcases (Bool.eq_false_or_eq_true (decide (r15.1 = (Matrix.zero : Matrix)))).symm with hb92 | hb92
      · replace H := ite_f hb92 H
        refine Lst.skip rfl rfl rfl hb92 rfl (by decide) ?_
        refine Lst.skip rfl rfl rfl hb92 rfl (by decide) ?_
        refine Lst.skip rfl rfl rfl hb92 rfl (by decide) ?_
        refine Lst.run rfl rfl (by decide) (Ev.pickF rfl hb92 rfl) ?_
        refine Lst.run rfl rfl (by decide) (Ev.move rfl) ?_
        refine Lst.skip rfl rfl rfl rfl rfl (by decide) ?_
        refine Lst.skip rfl rfl rfl rfl rfl (by decide) ?_
        refine Lst.skip rfl rfl rfl rfl rfl (by decide) ?_
        refine Lst.run rfl rfl (by decide) (Ev.pickF rfl rfl rfl) ?_
        refine Lst.run rfl rfl (by decide) (Ev.move rfl) ?_
        refine Lst.skip rfl rfl rfl rfl rfl (by decide) ?_
        refine Lst.skip rfl rfl rfl rfl rfl (by decide) ?_
        refine Lst.skip rfl rfl rfl rfl rfl (by decide) ?_
        refine Lst.run rfl rfl (by decide) (Ev.pickF rfl rfl rfl) ?_
        refine Lst.run rfl rfl (by decide) (Ev.move rfl) ?_
        refine Lst.skip rfl rfl rfl rfl rfl (by decide) ?_
        refine Lst.skip rfl rfl rfl rfl rfl (by decide) ?_
        refine Lst.skip rfl rfl rfl rfl rfl (by decide) ?_
        refine Lst.run rfl rfl (by decide) (Ev.pickF rfl rfl rfl) ?_
        refine Lst.run rfl rfl (by decide) (Ev.move rfl) ?_
        refine Lst.skip rfl rfl rfl rfl rfl (by decide) ?_
        refine Lst.skip rfl rfl rfl rfl rfl (by decide) ?_
        refine Lst.skip rfl rfl rfl rfl rfl (by decide) ?_
        refine Lst.run rfl rfl (by decide) (Ev.pickF rfl rfl rfl) ?_
        refine Lst.run rfl rfl (by decide) (Ev.assign rfl) ?_
        refine Lst.nil ?_
        exact At.meet false (FLe.refl _) ⟨rfl, trivial⟩ rfl (some_inj H)
      replace H := ite_t hb92 H
      refine Lst.runG rfl rfl rfl hb92 rfl (by decide) (Ev.move rfl) ?_
      refine Lst.runG rfl rfl rfl hb92 rfl (by decide) (Ev.move rfl) ?_
      refine Lst.runG rfl rfl rfl hb92 rfl (by decide) (Ev.eql rfl rfl) ?_
      refine Lst.run rfl rfl (by decide) (Ev.pickT rfl hb92 rfl) ?_
      refine Lst.run rfl rfl (by decide) (Ev.move rfl) ?_
      rcases (Bool.eq_false_or_eq_true (r15.2 == r5)).symm with hb94 | hb94
      · replace H := ite_f hb94 H
        refine Lst.skip rfl rfl rfl hb94 rfl (by decide) ?_
        refine Lst.skip rfl rfl rfl hb94 rfl (by decide) ?_
        refine Lst.skip rfl rfl rfl hb94 rfl (by decide) ?_
        refine Lst.run rfl rfl (by decide) (Ev.pickF rfl hb94 rfl) ?_
        refine Lst.run rfl rfl (by decide) (Ev.move rfl) ?_
        refine Lst.skip rfl rfl rfl rfl rfl (by decide) ?_
        refine Lst.skip rfl rfl rfl rfl rfl (by decide) ?_
        refine Lst.skip rfl rfl rfl rfl rfl (by decide) ?_
        refine Lst.run rfl rfl (by decide) (Ev.pickF rfl rfl rfl) ?_
        refine Lst.run rfl rfl (by decide) (Ev.move rfl) ?_
        refine Lst.skip rfl rfl rfl rfl rfl (by decide) ?_
        refine Lst.skip rfl rfl rfl rfl rfl (by decide) ?_
        refine Lst.skip rfl rfl rfl rfl rfl (by decide) ?_
        refine Lst.run rfl rfl (by decide) (Ev.pickF rfl rfl rfl) ?_
        refine Lst.run rfl rfl (by decide) (Ev.move rfl) ?_
        refine Lst.skip rfl rfl rfl rfl rfl (by decide) ?_
        refine Lst.skip rfl rfl rfl rfl rfl (by decide) ?_
        refine Lst.skip rfl rfl rfl rfl rfl (by decide) ?_
        refine Lst.run rfl rfl (by decide) (Ev.pickF rfl rfl rfl) ?_
        refine Lst.run rfl rfl (by decide) (Ev.assign rfl) ?_
        refine Lst.nil ?_
        exact At.meet false (FLe.refl _) ⟨rfl, trivial⟩ rfl (some_inj H)
      replace H := ite_t hb94 H
      refine Lst.runG rfl rfl rfl hb94 rfl (by decide) (Ev.loadA (i := 2) rfl rfl Try.isAgg41 Try.sizeOf41 (ch := enc r19.1) (Enc.len _) (Get.here _)) ?_
      refine Lst.runG rfl rfl rfl hb94 rfl (by decide) (Ev.loadA (i := 5) rfl rfl Try.isAgg41 Try.sizeOf41 (ch := enc (Matrix.zero : Matrix)) (Enc.len _) (Get.here _)) ?_
      refine Lst.runG rfl rfl rfl hb94 rfl (by decide) (Ev.eqlA rfl rfl (by kernel_rfl) (eq41 _ _)) ?_
      refine Lst.run rfl rfl (by decide) (Ev.pickT rfl hb94 rfl) ?_
      refine Lst.run rfl rfl (by decide) (Ev.move rfl) ?_
      rcases (Bool.eq_false_or_eq_true (decide (r19.1 = (Matrix.zero : Matrix)))).symm with hb96 | hb96
      · replace H := ite_f hb96 H
        refine Lst.skip rfl rfl rfl hb96 rfl (by decide) ?_
        refine Lst.skip rfl rfl rfl hb96 rfl (by decide) ?_
        refine Lst.skip rfl rfl rfl hb96 rfl (by decide) ?_
        refine Lst.run rfl rfl (by decide) (Ev.pickF rfl hb96 rfl) ?_
        refine Lst.run rfl rfl (by decide) (Ev.move rfl) ?_
        refine Lst.skip rfl rfl rfl rfl rfl (by decide) ?_
        refine Lst.skip rfl rfl rfl rfl rfl (by decide) ?_
        refine Lst.skip rfl rfl rfl rfl rfl (by decide) ?_
        refine Lst.run rfl rfl (by decide) (Ev.pickF rfl rfl rfl) ?_
        refine Lst.run rfl rfl (by decide) (Ev.move rfl) ?_
        refine Lst.skip rfl rfl rfl rfl rfl (by decide) ?_
        refine Lst.skip rfl rfl rfl rfl rfl (by decide) ?_
        refine Lst.skip rfl rfl rfl rfl rfl (by decide) ?_
        refine Lst.run rfl rfl (by decide) (Ev.pickF rfl rfl rfl) ?_
        refine Lst.run rfl rfl (by decide) (Ev.assign rfl) ?_
        refine Lst.nil ?_
        exact At.meet false (FLe.refl _) ⟨rfl, trivial⟩ rfl (some_inj H)
      replace H := ite_t hb96 H
      refine Lst.runG rfl rfl rfl hb96 rfl (by decide) (Ev.move rfl) ?_
      refine Lst.runG rfl rfl rfl hb96 rfl (by decide) (Ev.move rfl) ?_
      refine Lst.runG rfl rfl rfl hb96 rfl (by decide) (Ev.eql rfl rfl) ?_
      refine Lst.run rfl rfl (by decide) (Ev.pickT rfl hb96 rfl) ?_
      refine Lst.run rfl rfl (by decide) (Ev.move rfl) ?_
      rcases (Bool.eq_false_or_eq_true (r19.2 == r5)).symm with hb98 | hb98
      · replace H := ite_f hb98 H
        refine Lst.skip rfl rfl rfl hb98 rfl (by decide) ?_
        refine Lst.skip rfl rfl rfl hb98 rfl (by decide) ?_
        refine Lst.skip rfl rfl rfl hb98 rfl (by decide) ?_
        refine Lst.run rfl rfl (by decide) (Ev.pickF rfl hb98 rfl) ?_
        refine Lst.run rfl rfl (by decide) (Ev.move rfl) ?_
        refine Lst.skip rfl rfl rfl rfl rfl (by decide) ?_
        refine Lst.skip rfl rfl rfl rfl rfl (by decide) ?_
        refine Lst.skip rfl rfl rfl rfl rfl (by decide) ?_
        refine Lst.run rfl rfl (by decide) (Ev.pickF rfl rfl rfl) ?_
        refine Lst.run rfl rfl (by decide) (Ev.assign rfl) ?_
        refine Lst.nil ?_
        exact At.meet false (FLe.refl _) ⟨rfl, trivial⟩ rfl (some_inj H)
      replace H := ite_t hb98 H
      refine Lst.runG rfl rfl rfl hb98 rfl (by decide) (Ev.loadA (i := 1) rfl rfl Try.isAgg38 Try.sizeOf38 (ch := enc r23.1) (Enc.len _) (Get.here _)) ?_
      refine Lst.runG rfl rfl rfl hb98 rfl (by decide) (Ev.build (v := .agg (enc ((Vector.replicate 6 (0 : Int)) : Vector Int 6)).toArray) (pv := []) trivial (fun w => by kernel_rfl)) ?_
      refine Lst.runG rfl rfl rfl hb98 rfl (by decide) (Ev.eqlA rfl rfl (by kernel_rfl) (eq38 _ _)) ?_
      refine Lst.run rfl rfl (by decide) (Ev.pickT rfl hb98 rfl) ?_
      refine Lst.run rfl rfl (by decide) (Ev.move rfl) ?_
      rcases (Bool.eq_false_or_eq_true (decide (r23.1 = ((Vector.replicate 6 (0 : Int)) : Vector Int 6)))).symm with hb100 | hb100
      · replace H := ite_f hb100 H
        refine Lst.skip rfl rfl rfl hb100 rfl (by decide) ?_
        refine Lst.skip rfl rfl rfl hb100 rfl (by decide) ?_
        refine Lst.skip rfl rfl rfl hb100 rfl (by decide) ?_
        refine Lst.run rfl rfl (by decide) (Ev.pickF rfl hb100 rfl) ?_
        refine Lst.run rfl rfl (by decide) (Ev.assign rfl) ?_
        refine Lst.nil ?_
        exact At.meet false (FLe.refl _) ⟨rfl, trivial⟩ rfl (some_inj H)
      replace H := ite_t hb100 H
      refine Lst.runG rfl rfl rfl hb100 rfl (by decide) (Ev.move rfl) ?_
      refine Lst.runG rfl rfl rfl hb100 rfl (by decide) (Ev.move rfl) ?_
      refine Lst.runG rfl rfl rfl hb100 rfl (by decide) (Ev.eql rfl rfl) ?_
      refine Lst.run rfl rfl (by decide) (Ev.pickT rfl hb100 rfl) ?_
      refine Lst.run rfl rfl (by decide) (Ev.assign rfl) ?_
      refine Lst.nil ?_
      exact At.meet (r23.2 == r5) (FLe.refl _) ⟨rfl, trivial⟩ rfl (some_inj H)
    rintro F' y103 hF' hy
    subst hy
    refine Cd.fle hF' ?_
    refine Cd.as (e' := [(8, .bool y103)]) (L' := (.blk b27 (enc y35) 41) :: (.blk b25 (enc r23.1) 38) :: (.blk b21 (enc r19.1) 41) :: (.blk b17 (enc r15.1) 41) :: (.blk b13 (enc r11.1) 41) :: (.blk b9 (enc (Matrix.zero : Matrix)) 41) :: (.blk b3 (enc a1) 41) :: (.blk b1 (enc a0) 41) :: L) ⟨rfl, trivial⟩ rfl ?_
    replace H := HKo91
    obtain rfl := some_inj H
    refine Cd.ret ?_
    refine At.then_ret ?_
    exact At.ret1 rfl (Res.tmp rfl) (FLe.refl _) (List.Sublist.cons _ (List.Sublist.cons _ (List.Sublist.cons _ (List.Sublist.cons _ (List.Sublist.cons _ (List.Sublist.cons _ (List.Sublist.cons _ (List.Sublist.cons _ (List.Sublist.refl _))))))))) ⟨rfl, rfl⟩
  replace H := ite_f hb90 H
  refine Cd.condF rfl hb90 ?_
  refine Cd.skip ?_
  refine At.then ?_
  refine Cd.seq ?_
  obtain ⟨o105, H, HKo105⟩ := bind_some H
  refine Cd.join (σ := Bool) (fun y111 => [(4, .pointer (some ⟨b1, 0, none⟩)), (5, .pointer (some ⟨b3, 0, none⟩)), (10, .int .i64 r7), (11, .pointer (some ⟨b9, 0, none⟩)), (14, .pointer (some ⟨b17, 0, none⟩)), (15, .int .i64 r15.2), (16, .pointer (some ⟨b21, 0, none⟩)), (17, .int .i64 r19.2), (130, .bool y111)]) (fun y111 => (.blk b27 (enc y35) 41) :: (.blk b25 (enc r23.1) 38) :: (.blk b21 (enc r19.1) 41) :: (.blk b17 (enc r15.1) 41) :: (.blk b13 (enc r11.1) 41) :: (.blk b9 (enc (Matrix.zero : Matrix)) 41) :: (.blk b3 (enc a1) 41) :: (.blk b1 (enc a0) 41) :: L) (fun _ y111 => y111 = o105) ?_ ?_
  · refine Cd.quiet (by kernel_rfl) (by kernel_rfl) ?_
    refine Qt.run rfl rfl (by decide) (Ev.loadA (i := 1) rfl rfl Try.isAgg38 Try.sizeOf38 (ch := enc r23.1) (Enc.len _) (Get.here _)) ?_
    refine Qt.run rfl rfl (by decide) (Ev.loadA (i := 7) rfl rfl Try.isAgg41 Try.sizeOf41 (ch := enc a0) (Enc.len _) (Get.here _)) ?_
    obtain ⟨r106, h107, H⟩ := bind_some H
    refine Qt.call rfl rfl (by decide) (vs := [.agg (enc a0).toArray]) ⟨rfl, trivial⟩ Try.call19 (partref_FirmRow_sim h107 w0 _ _) ?_
    refine Qt.run rfl rfl (by decide) (Ev.neqA rfl rfl (by kernel_rfl) (eq38 _ _)) ?_
    refine Qt.run rfl rfl (by decide) (Ev.move rfl) ?_
    rcases Bool.eq_false_or_eq_true (!(decide (r23.1 = r106))) with hb108 | hb108
    · replace H := ite_t hb108 H
      refine Qt.skip rfl rfl rfl hb108 rfl (by decide) ?_
      refine Qt.skip rfl rfl rfl hb108 rfl (by decide) ?_
      refine Qt.run rfl rfl (by decide) (Ev.pickT rfl hb108 rfl) ?_
      refine Qt.done ?_
      exact At.meet true (FLe.refl _) ⟨rfl, rfl, rfl, rfl, rfl, rfl, rfl, rfl, rfl, trivial⟩ rfl (some_inj H)
    replace H := ite_f hb108 H
    refine Qt.runG rfl rfl rfl hb108 rfl (by decide) (Ev.move rfl) ?_
    refine Qt.runG rfl rfl rfl hb108 rfl (by decide) (Ev.neq rfl rfl) ?_
    refine Qt.run rfl rfl (by decide) (Ev.pickF rfl hb108 rfl) ?_
    refine Qt.done ?_
    exact At.meet (r23.2 != (0 : Int)) (FLe.refl _) ⟨rfl, rfl, rfl, rfl, rfl, rfl, rfl, rfl, rfl, trivial⟩ rfl (some_inj H)
  rintro F' y111 hF' hy
  subst hy
  refine Cd.fle hF' ?_
  refine Cd.as (e' := [(4, .pointer (some ⟨b1, 0, none⟩)), (5, .pointer (some ⟨b3, 0, none⟩)), (10, .int .i64 r7), (11, .pointer (some ⟨b9, 0, none⟩)), (14, .pointer (some ⟨b17, 0, none⟩)), (15, .int .i64 r15.2), (16, .pointer (some ⟨b21, 0, none⟩)), (17, .int .i64 r19.2), (130, .bool y111)]) (L' := (.blk b27 (enc y35) 41) :: (.blk b25 (enc r23.1) 38) :: (.blk b21 (enc r19.1) 41) :: (.blk b17 (enc r15.1) 41) :: (.blk b13 (enc r11.1) 41) :: (.blk b9 (enc (Matrix.zero : Matrix)) 41) :: (.blk b3 (enc a1) 41) :: (.blk b1 (enc a0) 41) :: L) ⟨rfl, rfl, rfl, rfl, rfl, rfl, rfl, rfl, rfl, trivial⟩ rfl ?_
  replace H := HKo105
  rcases Bool.eq_false_or_eq_true y111 with hb113 | hb113
  · replace H := ite_t hb113 H
    refine Cd.condT rfl hb113 ?_
    refine Cd.seq ?_
    refine Cd.region ?_
    refine Lst.run rfl rfl (by decide) (Ev.assign rfl) ?_
    refine Lst.nil ?_
    refine At.then ?_
    obtain rfl := some_inj H
    refine Cd.ret ?_
    refine At.then_ret ?_
    exact At.ret1 rfl (Res.tmp rfl) (FLe.refl _) (List.Sublist.cons _ (List.Sublist.cons _ (List.Sublist.cons _ (List.Sublist.cons _ (List.Sublist.cons _ (List.Sublist.cons _ (List.Sublist.cons _ (List.Sublist.cons _ (List.Sublist.refl _))))))))) ⟨rfl, rfl⟩
  replace H := ite_f hb113 H
  refine Cd.condF rfl hb113 ?_
  refine Cd.skip ?_
  refine At.then ?_
  obtain ⟨o114, H, HKo114⟩ := andThen_some H
  refine Cd.join (σ := Unit) (fun (_ : Unit) => [(4, .pointer (some ⟨b1, 0, none⟩)), (5, .pointer (some ⟨b3, 0, none⟩)), (10, .int .i64 r7), (11, .pointer (some ⟨b9, 0, none⟩)), (16, .pointer (some ⟨b21, 0, none⟩)), (17, .int .i64 r19.2)]) (fun (_ : Unit) => (.blk b27 (enc y35) 41) :: (.blk b25 (enc r23.1) 38) :: (.blk b21 (enc r19.1) 41) :: (.blk b17 (enc r15.1) 41) :: (.blk b13 (enc r11.1) 41) :: (.blk b9 (enc (Matrix.zero : Matrix)) 41) :: (.blk b3 (enc a1) 41) :: (.blk b1 (enc a0) 41) :: L) (fun _ (_ : Unit) => .inl () = o114) ?_ ?_
  · refine Cd.seq ?_
    refine Cd.quiet (by kernel_rfl) (by kernel_rfl) ?_
    refine Qt.run rfl rfl (by decide) (Ev.fieldAddr (off' := 1) rfl Try.runUnderlying41 rfl Try.sizeOf3 rfl rfl) ?_
    refine Qt.run rfl rfl (by decide) (Ev.load (i := 7) rfl rfl Try.isAgg3 ((Matrix.get_Me (Get.here _)).off (by rfl))) ?_
    refine Qt.run rfl rfl (by decide) (Ev.fieldAddr (off' := 1) rfl Try.runUnderlying41 rfl Try.sizeOf3 rfl rfl) ?_
    refine Qt.run rfl rfl (by decide) (Ev.load (i := 7) rfl rfl Try.isAgg3 ((Matrix.get_Me (Get.here _)).off (by rfl))) ?_
    refine Qt.run rfl rfl (by decide) (Ev.fieldAddr (off' := 2) rfl Try.runUnderlying41 rfl Try.sizeOf39 rfl rfl) ?_
    obtain ⟨x115, h116, H⟩ := bind_some H
    have g117 := vat_some h116
    refine Qt.run rfl rfl (by decide) (Ev.indexAddr (off' := 2 + a0.Me.toNat * 6) rfl rfl Try.runUnderlying39 Try.sizeOf38 g117.1 g117.2.1 rfl) ?_
    obtain ⟨x118, h119, H⟩ := bind_some H
    have g120 := vat_some h119
    refine Qt.run rfl rfl (by decide) (Ev.indexAddr (off' := 2 + a0.Me.toNat * 6 + a0.Me.toNat * 1) rfl rfl Try.runUnderlying38 Try.sizeOf3 g120.1 g120.2.1 rfl) ?_
    refine Qt.run rfl rfl (by decide) (Ev.load (i := 7) rfl rfl Try.isAgg3 ((Matrix.get_Rows (Get.vecN (s := 6) rfl g117.2.2 (Get.vecN (s := 1) rfl g120.2.2 (Get.here _)))).off (by omega))) ?_
    refine Qt.run rfl rfl (by decide) (Ev.eql rfl rfl) ?_
    refine Qt.done ?_
    refine At.then ?_
    rcases Bool.eq_false_or_eq_true (x118 == (16777215 : Int)) with hb121 | hb121
    · replace H := ite_t hb121 H
      refine Cd.condT rfl hb121 ?_
      obtain ⟨o122, H, HKo122⟩ := bind_some H
      refine Cd.join (σ := Bool) (fun y126 => [(4, .pointer (some ⟨b1, 0, none⟩)), (5, .pointer (some ⟨b3, 0, none⟩)), (10, .int .i64 r7), (11, .pointer (some ⟨b9, 0, none⟩)), (16, .pointer (some ⟨b21, 0, none⟩)), (17, .int .i64 r19.2), (146, .bool y126)]) (fun y126 => (.blk b27 (enc y35) 41) :: (.blk b25 (enc r23.1) 38) :: (.blk b21 (enc r19.1) 41) :: (.blk b17 (enc r15.1) 41) :: (.blk b13 (enc r11.1) 41) :: (.blk b9 (enc (Matrix.zero : Matrix)) 41) :: (.blk b3 (enc a1) 41) :: (.blk b1 (enc a0) 41) :: L) (fun _ y126 => y126 = o122) ?_ ?_
      · refine Cd.region ?_
        refine Lst.run rfl rfl (by decide) (Ev.loadA (i := 3) rfl rfl Try.isAgg41 Try.sizeOf41 (ch := enc r15.1) (Enc.len _) (Get.here _)) ?_
        refine Lst.run rfl rfl (by decide) (Ev.loadA (i := 5) rfl rfl Try.isAgg41 Try.sizeOf41 (ch := enc (Matrix.zero : Matrix)) (Enc.len _) (Get.here _)) ?_
        refine Lst.run rfl rfl (by decide) (Ev.neqA rfl rfl (by kernel_rfl) (eq41 _ _)) ?_
        refine Lst.run rfl rfl (by decide) (Ev.move rfl) ?_
        rcases Bool.eq_false_or_eq_true (!(decide (r15.1 = (Matrix.zero : Matrix)))) with hb123 | hb123
        · replace H := ite_t hb123 H
          refine Lst.skip rfl rfl rfl hb123 rfl (by decide) ?_
          refine Lst.skip rfl rfl rfl hb123 rfl (by decide) ?_
          refine Lst.run rfl rfl (by decide) (Ev.pickT rfl hb123 rfl) ?_
          refine Lst.nil ?_
          exact At.meet true (FLe.refl _) ⟨rfl, rfl, rfl, rfl, rfl, rfl, rfl, trivial⟩ rfl (some_inj H)
        replace H := ite_f hb123 H
        refine Lst.runG rfl rfl rfl hb123 rfl (by decide) (Ev.move rfl) ?_
        refine Lst.runG rfl rfl rfl hb123 rfl (by decide) (Ev.neq rfl rfl) ?_
        refine Lst.run rfl rfl (by decide) (Ev.pickF rfl hb123 rfl) ?_
        refine Lst.nil ?_
        exact At.meet (r15.2 != (8 : Int)) (FLe.refl _) ⟨rfl, rfl, rfl, rfl, rfl, rfl, rfl, trivial⟩ rfl (some_inj H)
      rintro F' y126 hF' hy
      subst hy
      refine Cd.fle hF' ?_
      refine Cd.as (e' := [(4, .pointer (some ⟨b1, 0, none⟩)), (5, .pointer (some ⟨b3, 0, none⟩)), (10, .int .i64 r7), (11, .pointer (some ⟨b9, 0, none⟩)), (16, .pointer (some ⟨b21, 0, none⟩)), (17, .int .i64 r19.2), (146, .bool y126)]) (L' := (.blk b27 (enc y35) 41) :: (.blk b25 (enc r23.1) 38) :: (.blk b21 (enc r19.1) 41) :: (.blk b17 (enc r15.1) 41) :: (.blk b13 (enc r11.1) 41) :: (.blk b9 (enc (Matrix.zero : Matrix)) 41) :: (.blk b3 (enc a1) 41) :: (.blk b1 (enc a0) 41) :: L) ⟨rfl, rfl, rfl, rfl, rfl, rfl, rfl, trivial⟩ rfl ?_
      replace H := HKo122
      rcases Bool.eq_false_or_eq_true y126 with hb128 | hb128
      · replace H := ite_t hb128 H
        refine Cd.condT rfl hb128 ?_
        refine Cd.seq ?_
        refine Cd.region ?_
        refine Lst.run rfl rfl (by decide) (Ev.assign rfl) ?_
        refine Lst.nil ?_
        refine At.then ?_
        obtain rfl := some_inj H
        replace H := HKo114
        obtain rfl := some_inj H
        refine Cd.ret ?_
        refine At.then_ret ?_
        exact At.ret1 rfl (Res.tmp rfl) (FLe.refl _) (List.Sublist.cons _ (List.Sublist.cons _ (List.Sublist.cons _ (List.Sublist.cons _ (List.Sublist.cons _ (List.Sublist.cons _ (List.Sublist.cons _ (List.Sublist.cons _ (List.Sublist.refl _))))))))) ⟨rfl, rfl⟩
      replace H := ite_f hb128 H
      refine Cd.condF rfl hb128 ?_
      refine Cd.skip ?_
      exact At.meet () (FLe.refl _) ⟨rfl, rfl, rfl, rfl, rfl, rfl, trivial⟩ rfl (some_inj H)
    replace H := ite_f hb121 H
    refine Cd.condF rfl hb121 ?_
    refine Cd.seq ?_
    refine Cd.region ?_
    refine Lst.run rfl rfl (by decide) (Ev.loadA (i := 7) rfl rfl Try.isAgg41 Try.sizeOf41 (ch := enc a0) (Enc.len _) (Get.here _)) ?_
    refine Lst.alloc rfl rfl (by decide) Try.zeroValue41 (cs := enc Matrix.zero) rfl (fun b129 => ?_)
    refine Lst.store (i := 0) rfl rfl rfl rfl rfl Try.sizeOf41 (vs := enc a0) rfl (Enc.len _) (Enc.one _) (cs' := enc a0) (Put.here ((Enc.len _).trans (Enc.len _).symm)) (L' := (.blk b129 (enc a0) 41) :: (.blk b27 (enc y35) 41) :: (.blk b25 (enc r23.1) 38) :: (.blk b21 (enc r19.1) 41) :: (.blk b17 (enc r15.1) 41) :: (.blk b13 (enc r11.1) 41) :: (.blk b9 (enc (Matrix.zero : Matrix)) 41) :: (.blk b3 (enc a1) 41) :: (.blk b1 (enc a0) 41) :: L) rfl ?_
    refine Lst.nil ?_
    refine At.then ?_
    refine Cd.seq ?_
    refine Cd.tail 12 (by kernel_rfl) (by kernel_rfl) ?_
    refine Qt.run rfl rfl (by decide) (Ev.fieldAddr (off' := 1) rfl Try.runUnderlying41 rfl Try.sizeOf3 rfl rfl) ?_
    refine Qt.run rfl rfl (by decide) (Ev.load (i := 8) rfl rfl Try.isAgg3 ((Matrix.get_Me (Get.here _)).off (by rfl))) ?_
    refine Qt.run rfl rfl (by decide) (Ev.fieldAddr (off' := 1) rfl Try.runUnderlying41 rfl Try.sizeOf3 rfl rfl) ?_
    refine Qt.run rfl rfl (by decide) (Ev.load (i := 8) rfl rfl Try.isAgg3 ((Matrix.get_Me (Get.here _)).off (by rfl))) ?_
    refine Qt.run rfl rfl (by decide) (Ev.fieldAddr (off' := 2) rfl Try.runUnderlying41 rfl Try.sizeOf39 rfl rfl) ?_
    obtain ⟨x131, h132, H⟩ := bind_some H
    have g133 := vat_some h132
    refine Qt.run rfl rfl (by decide) (Ev.indexAddr (off' := 2 + a0.Me.toNat * 6) rfl rfl Try.runUnderlying39 Try.sizeOf38 g133.1 g133.2.1 rfl) ?_
    obtain ⟨x134, h135, H⟩ := bind_some H
    have g136 := vat_some h135
    refine Qt.run rfl rfl (by decide) (Ev.indexAddr (off' := 2 + a0.Me.toNat * 6 + a0.Me.toNat * 1) rfl rfl Try.runUnderlying38 Try.sizeOf3 g136.1 g136.2.1 rfl) ?_
    refine Qt.run rfl rfl (by decide) (Ev.load (i := 0) rfl rfl Try.isAgg3 ((Matrix.get_Rows (Get.vecN (s := 6) rfl g133.2.2 (Get.vecN (s := 1) rfl g136.2.2 (Get.here _)))).off (by omega))) ?_
    refine Qt.run rfl rfl (by decide) (Ev.add rfl rfl) ?_
    refine Qt.run rfl rfl (by decide) (Ev.fieldAddr (off' := 2) rfl Try.runUnderlying41 rfl Try.sizeOf39 rfl rfl) ?_
    obtain ⟨x137, h138, H⟩ := bind_some H
    have g139 := vat_some h138
    refine Qt.run rfl rfl (by decide) (Ev.indexAddr (off' := 2 + a0.Me.toNat * 6) rfl rfl Try.runUnderlying39 Try.sizeOf38 g139.1 g139.2.1 rfl) ?_
    obtain ⟨x140, h141, H⟩ := bind_some H
    have g142 := vat_some h141
    refine Qt.run rfl rfl (by decide) (Ev.indexAddr (off' := 2 + a0.Me.toNat * 6 + a0.Me.toNat * 1) rfl rfl Try.runUnderlying38 Try.sizeOf3 g142.1 g142.2.1 rfl) ?_
    refine Qt.tail ?_
    obtain ⟨p143, h144, H⟩ := Let_some H
    refine Lst.store (i := 0) rfl rfl rfl rfl rfl Try.sizeOf3 (vs := [.int .i64 (w64 (x134 + (1 : Int)))]) rfl rfl rfl (cs' := enc p143) (by rw [← h144]; exact (Matrix.put_Rows (Put.vecN (s := 6) rfl g139.2.2 (Put.vecN (s := 1) rfl g142.2.2 (Put.here (vs := [.int .i64 (w64 (x134 + (1 : Int)))]) (by rfl))))).off (by omega)) (L' := (.blk b129 (enc p143) 41) :: (.blk b27 (enc y35) 41) :: (.blk b25 (enc r23.1) 38) :: (.blk b21 (enc r19.1) 41) :: (.blk b17 (enc r15.1) 41) :: (.blk b13 (enc r11.1) 41) :: (.blk b9 (enc (Matrix.zero : Matrix)) 41) :: (.blk b3 (enc a1) 41) :: (.blk b1 (enc a0) 41) :: L) rfl ?_
    refine Lst.nil ?_
    refine At.then ?_
    obtain ⟨o145, H, HKo145⟩ := bind_some H
    refine Cd.join (σ := Bool) (fun y149 => [(4, .pointer (some ⟨b1, 0, none⟩)), (5, .pointer (some ⟨b3, 0, none⟩)), (10, .int .i64 r7), (11, .pointer (some ⟨b9, 0, none⟩)), (16, .pointer (some ⟨b21, 0, none⟩)), (17, .int .i64 r19.2), (166, .bool y149)]) (fun y149 => (.blk b129 (enc p143) 41) :: (.blk b27 (enc y35) 41) :: (.blk b25 (enc r23.1) 38) :: (.blk b21 (enc r19.1) 41) :: (.blk b17 (enc r15.1) 41) :: (.blk b13 (enc r11.1) 41) :: (.blk b9 (enc (Matrix.zero : Matrix)) 41) :: (.blk b3 (enc a1) 41) :: (.blk b1 (enc a0) 41) :: L) (fun _ y149 => y149 = o145) ?_ ?_
    · refine Cd.as (e' := [(4, .pointer (some ⟨b1, 0, none⟩)), (5, .pointer (some ⟨b3, 0, none⟩)), (10, .int .i64 r7), (11, .pointer (some ⟨b9, 0, none⟩)), (14, .pointer (some ⟨b17, 0, none⟩)), (15, .int .i64 r15.2), (16, .pointer (some ⟨b21, 0, none⟩)), (17, .int .i64 r19.2), (21, .pointer (some ⟨b129, 0, none⟩))]) (L' := (.blk b129 (enc p143) 41) :: (.blk b27 (enc y35) 41) :: (.blk b25 (enc r23.1) 38) :: (.blk b21 (enc r19.1) 41) :: (.blk b17 (enc r15.1) 41) :: (.blk b13 (enc r11.1) 41) :: (.blk b9 (enc (Matrix.zero : Matrix)) 41) :: (.blk b3 (enc a1) 41) :: (.blk b1 (enc a0) 41) :: L) ⟨rfl, rfl, rfl, rfl, rfl, rfl, rfl, rfl, rfl, trivial⟩ rfl ?_
      refine Cd.region ?_
      refine Lst.run rfl rfl (by decide) (Ev.loadA (i := 4) rfl rfl Try.isAgg41 Try.sizeOf41 (ch := enc r15.1) (Enc.len _) (Get.here _)) ?_
      refine Lst.run rfl rfl (by decide) (Ev.loadA (i := 0) rfl rfl Try.isAgg41 Try.sizeOf41 (ch := enc p143) (Enc.len _) (Get.here _)) ?_
      refine Lst.run rfl rfl (by decide) (Ev.neqA rfl rfl (by kernel_rfl) (eq41 _ _)) ?_
      refine Lst.run rfl rfl (by decide) (Ev.move rfl) ?_
      rcases Bool.eq_false_or_eq_true (!(decide (r15.1 = p143))) with hb146 | hb146
      · replace H := ite_t hb146 H
        refine Lst.skip rfl rfl rfl hb146 rfl (by decide) ?_
        refine Lst.skip rfl rfl rfl hb146 rfl (by decide) ?_
        refine Lst.run rfl rfl (by decide) (Ev.pickT rfl hb146 rfl) ?_
        refine Lst.nil ?_
        exact At.meet true (FLe.refl _) ⟨rfl, rfl, rfl, rfl, rfl, rfl, rfl, trivial⟩ rfl (some_inj H)
      replace H := ite_f hb146 H
      refine Lst.runG rfl rfl rfl hb146 rfl (by decide) (Ev.move rfl) ?_
      refine Lst.runG rfl rfl rfl hb146 rfl (by decide) (Ev.neq rfl rfl) ?_
      refine Lst.run rfl rfl (by decide) (Ev.pickF rfl hb146 rfl) ?_
      refine Lst.nil ?_
      exact At.meet (r15.2 != (0 : Int)) (FLe.refl _) ⟨rfl, rfl, rfl, rfl, rfl, rfl, rfl, trivial⟩ rfl (some_inj H)
    rintro F' y149 hF' hy
    subst hy
    refine Cd.fle hF' ?_
    refine Cd.as (e' := [(4, .pointer (some ⟨b1, 0, none⟩)), (5, .pointer (some ⟨b3, 0, none⟩)), (10, .int .i64 r7), (11, .pointer (some ⟨b9, 0, none⟩)), (16, .pointer (some ⟨b21, 0, none⟩)), (17, .int .i64 r19.2), (166, .bool y149)]) (L' := (.blk b129 (enc p143) 41) :: (.blk b27 (enc y35) 41) :: (.blk b25 (enc r23.1) 38) :: (.blk b21 (enc r19.1) 41) :: (.blk b17 (enc r15.1) 41) :: (.blk b13 (enc r11.1) 41) :: (.blk b9 (enc (Matrix.zero : Matrix)) 41) :: (.blk b3 (enc a1) 41) :: (.blk b1 (enc a0) 41) :: L) ⟨rfl, rfl, rfl, rfl, rfl, rfl, rfl, trivial⟩ rfl ?_
    replace H := HKo145
    rcases Bool.eq_false_or_eq_true y149 with hb151 | hb151
    · replace H := ite_t hb151 H
      refine Cd.condT rfl hb151 ?_
      refine Cd.seq ?_
      refine Cd.region ?_
      refine Lst.run rfl rfl (by decide) (Ev.assign rfl) ?_
      refine Lst.nil ?_
      refine At.then ?_
      obtain rfl := some_inj H
      replace H := HKo114
      obtain rfl := some_inj H
      refine Cd.ret ?_
      refine At.then_ret ?_
      exact At.ret1 rfl (Res.tmp rfl) (FLe.refl _) (List.Sublist.cons _ (List.Sublist.cons _ (List.Sublist.cons _ (List.Sublist.cons _ (List.Sublist.cons _ (List.Sublist.cons _ (List.Sublist.cons _ (List.Sublist.cons _ (List.Sublist.cons _ (List.Sublist.refl _)))))))))) ⟨rfl, rfl⟩
    replace H := ite_f hb151 H
    refine Cd.condF rfl hb151 ?_
    refine Cd.skip ?_
    refine At.less (L' := (.blk b27 (enc y35) 41) :: (.blk b25 (enc r23.1) 38) :: (.blk b21 (enc r19.1) 41) :: (.blk b17 (enc r15.1) 41) :: (.blk b13 (enc r11.1) 41) :: (.blk b9 (enc (Matrix.zero : Matrix)) 41) :: (.blk b3 (enc a1) 41) :: (.blk b1 (enc a0) 41) :: L) (List.Sublist.cons _ (List.Sublist.cons_cons _ (List.Sublist.cons_cons _ (List.Sublist.cons_cons _ (List.Sublist.cons_cons _ (List.Sublist.cons_cons _ (List.Sublist.cons_cons _ (List.Sublist.cons_cons _ (List.Sublist.cons_cons _ (List.Sublist.refl _)))))))))) ?_
    exact At.meet () (FLe.refl _) ⟨rfl, rfl, rfl, rfl, rfl, rfl, trivial⟩ rfl (some_inj H)
  rintro F' _u hF' hy
  subst hy
  refine Cd.fle hF' ?_
  refine Cd.as (e' := [(4, .pointer (some ⟨b1, 0, none⟩)), (5, .pointer (some ⟨b3, 0, none⟩)), (10, .int .i64 r7), (11, .pointer (some ⟨b9, 0, none⟩)), (16, .pointer (some ⟨b21, 0, none⟩)), (17, .int .i64 r19.2)]) (L' := (.blk b27 (enc y35) 41) :: (.blk b25 (enc r23.1) 38) :: (.blk b21 (enc r19.1) 41) :: (.blk b17 (enc r15.1) 41) :: (.blk b13 (enc r11.1) 41) :: (.blk b9 (enc (Matrix.zero : Matrix)) 41) :: (.blk b3 (enc a1) 41) :: (.blk b1 (enc a0) 41) :: L) ⟨rfl, rfl, rfl, rfl, rfl, rfl, trivial⟩ rfl ?_
  replace H := HKo114
  refine Cd.seq ?_
  refine Cd.block ?_
  refine Cd.seq ?_
  refine Cd.region ?_
  refine Lst.run rfl rfl (by decide) (Ev.move rfl) ?_
  refine Lst.run rfl rfl (by decide) (Ev.neq rfl rfl) ?_
  refine Lst.run rfl rfl (by decide) (Ev.assign rfl) ?_
  refine Lst.nil ?_
  refine At.then ?_
  rcases Bool.eq_false_or_eq_true (r7 != (0 : Int)) with hb153 | hb153
  · replace H := ite_t hb153 H
    refine Cd.condT rfl hb153 ?_
    obtain ⟨o154, H, HKo154⟩ := bind_some H
    refine Cd.join (σ := Bool) (fun y158 => [(8, .bool y158)]) (fun y158 => (.blk b27 (enc y35) 41) :: (.blk b25 (enc r23.1) 38) :: (.blk b21 (enc r19.1) 41) :: (.blk b17 (enc r15.1) 41) :: (.blk b13 (enc r11.1) 41) :: (.blk b9 (enc (Matrix.zero : Matrix)) 41) :: (.blk b3 (enc a1) 41) :: (.blk b1 (enc a0) 41) :: L) (fun _ y158 => y158 = o154) ?_ ?_
    · refine Cd.region ?_
      refine Lst.run rfl rfl (by decide) (Ev.loadA (i := 2) rfl rfl Try.isAgg41 Try.sizeOf41 (ch := enc r19.1) (Enc.len _) (Get.here _)) ?_
      refine Lst.run rfl rfl (by decide) (Ev.loadA (i := 5) rfl rfl Try.isAgg41 Try.sizeOf41 (ch := enc (Matrix.zero : Matrix)) (Enc.len _) (Get.here _)) ?_
      refine Lst.run rfl rfl (by decide) (Ev.eqlA rfl rfl (by kernel_rfl) (eq41 _ _)) ?_
      refine Lst.run rfl rfl (by decide) (Ev.move rfl) ?_
      rcases (Bool.eq_false_or_eq_true (decide (r19.1 = (Matrix.zero : Matrix)))).symm with hb155 | hb155
      · replace H := ite_f hb155 H
        refine Lst.skip rfl rfl rfl hb155 rfl (by decide) ?_
        refine Lst.skip rfl rfl rfl hb155 rfl (by decide) ?_
        refine Lst.skip rfl rfl rfl hb155 rfl (by decide) ?_
        refine Lst.run rfl rfl (by decide) (Ev.pickF rfl hb155 rfl) ?_
        refine Lst.run rfl rfl (by decide) (Ev.assign rfl) ?_
        refine Lst.nil ?_
        exact At.meet false (FLe.refl _) ⟨rfl, trivial⟩ rfl (some_inj H)
      replace H := ite_t hb155 H
      refine Lst.runG rfl rfl rfl hb155 rfl (by decide) (Ev.move rfl) ?_
      refine Lst.runG rfl rfl rfl hb155 rfl (by decide) (Ev.move rfl) ?_
      refine Lst.runG rfl rfl rfl hb155 rfl (by decide) (Ev.eql rfl rfl) ?_
      refine Lst.run rfl rfl (by decide) (Ev.pickT rfl hb155 rfl) ?_
      refine Lst.run rfl rfl (by decide) (Ev.assign rfl) ?_
      refine Lst.nil ?_
      exact At.meet (r19.2 == r7) (FLe.refl _) ⟨rfl, trivial⟩ rfl (some_inj H)
    rintro F' y158 hF' hy
    subst hy
    refine Cd.fle hF' ?_
    refine Cd.as (e' := [(8, .bool y158)]) (L' := (.blk b27 (enc y35) 41) :: (.blk b25 (enc r23.1) 38) :: (.blk b21 (enc r19.1) 41) :: (.blk b17 (enc r15.1) 41) :: (.blk b13 (enc r11.1) 41) :: (.blk b9 (enc (Matrix.zero : Matrix)) 41) :: (.blk b3 (enc a1) 41) :: (.blk b1 (enc a0) 41) :: L) ⟨rfl, trivial⟩ rfl ?_
    replace H := HKo154
    obtain rfl := some_inj H
    refine Cd.ret ?_
    refine At.in_ret ?_
    refine At.then_ret ?_
    exact At.ret1 rfl (Res.tmp rfl) (FLe.refl _) (List.Sublist.cons _ (List.Sublist.cons _ (List.Sublist.cons _ (List.Sublist.cons _ (List.Sublist.cons _ (List.Sublist.cons _ (List.Sublist.cons _ (List.Sublist.cons _ (List.Sublist.refl _))))))))) ⟨rfl, rfl⟩
  replace H := ite_f hb153 H
  refine Cd.condF rfl hb153 ?_
  obtain ⟨o160, H, HKo160⟩ := bind_some H
  refine Cd.join (σ := Bool) (fun y164 => [(4, .pointer (some ⟨b1, 0, none⟩)), (5, .pointer (some ⟨b3, 0, none⟩)), (11, .pointer (some ⟨b9, 0, none⟩)), (16, .pointer (some ⟨b21, 0, none⟩)), (17, .int .i64 r19.2), (178, .bool y164)]) (fun y164 => (.blk b27 (enc y35) 41) :: (.blk b25 (enc r23.1) 38) :: (.blk b21 (enc r19.1) 41) :: (.blk b17 (enc r15.1) 41) :: (.blk b13 (enc r11.1) 41) :: (.blk b9 (enc (Matrix.zero : Matrix)) 41) :: (.blk b3 (enc a1) 41) :: (.blk b1 (enc a0) 41) :: L) (fun _ y164 => y164 = o160) ?_ ?_
  · refine Cd.region ?_
    refine Lst.run rfl rfl (by decide) (Ev.fieldAddr (off' := 0) rfl Try.runUnderlying41 rfl Try.sizeOf3 rfl rfl) ?_
    refine Lst.run rfl rfl (by decide) (Ev.load (i := 7) rfl rfl Try.isAgg3 ((Matrix.get_N (Get.here _)).off (by rfl))) ?_
    refine Lst.run rfl rfl (by decide) (Ev.fieldAddr (off' := 0) rfl Try.runUnderlying41 rfl Try.sizeOf3 rfl rfl) ?_
    refine Lst.run rfl rfl (by decide) (Ev.load (i := 6) rfl rfl Try.isAgg3 ((Matrix.get_N (Get.here _)).off (by rfl))) ?_
    refine Lst.run rfl rfl (by decide) (Ev.neq rfl rfl) ?_
    refine Lst.run rfl rfl (by decide) (Ev.move rfl) ?_
    rcases Bool.eq_false_or_eq_true (a0.N != a1.N) with hb161 | hb161
    · replace H := ite_t hb161 H
      refine Lst.skip rfl rfl rfl hb161 rfl (by decide) ?_
      refine Lst.skip rfl rfl rfl hb161 rfl (by decide) ?_
      refine Lst.skip rfl rfl rfl hb161 rfl (by decide) ?_
      refine Lst.skip rfl rfl rfl hb161 rfl (by decide) ?_
      refine Lst.skip rfl rfl rfl hb161 rfl (by decide) ?_
      refine Lst.run rfl rfl (by decide) (Ev.pickT rfl hb161 rfl) ?_
      refine Lst.run rfl rfl (by decide) (Ev.assign rfl) ?_
      refine Lst.nil ?_
      exact At.meet true (FLe.refl _) ⟨rfl, rfl, rfl, rfl, rfl, rfl, trivial⟩ rfl (some_inj H)
    replace H := ite_f hb161 H
    refine Lst.runG rfl rfl rfl hb161 rfl (by decide) (Ev.fieldAddr (off' := 1) rfl Try.runUnderlying41 rfl Try.sizeOf3 rfl rfl) ?_
    refine Lst.runG rfl rfl rfl hb161 rfl (by decide) (Ev.load (i := 7) rfl rfl Try.isAgg3 ((Matrix.get_Me (Get.here _)).off (by rfl))) ?_
    refine Lst.runG rfl rfl rfl hb161 rfl (by decide) (Ev.fieldAddr (off' := 1) rfl Try.runUnderlying41 rfl Try.sizeOf3 rfl rfl) ?_
    refine Lst.runG rfl rfl rfl hb161 rfl (by decide) (Ev.load (i := 6) rfl rfl Try.isAgg3 ((Matrix.get_Me (Get.here _)).off (by rfl))) ?_
    refine Lst.runG rfl rfl rfl hb161 rfl (by decide) (Ev.eql rfl rfl) ?_
    refine Lst.run rfl rfl (by decide) (Ev.pickF rfl hb161 rfl) ?_
    refine Lst.run rfl rfl (by decide) (Ev.assign rfl) ?_
    refine Lst.nil ?_
    exact At.meet (a0.Me == a1.Me) (FLe.refl _) ⟨rfl, rfl, rfl, rfl, rfl, rfl, trivial⟩ rfl (some_inj H)
  rintro F' y164 hF' hy
  subst hy
  refine Cd.fle hF' ?_
  refine Cd.as (e' := [(4, .pointer (some ⟨b1, 0, none⟩)), (5, .pointer (some ⟨b3, 0, none⟩)), (11, .pointer (some ⟨b9, 0, none⟩)), (16, .pointer (some ⟨b21, 0, none⟩)), (17, .int .i64 r19.2), (178, .bool y164)]) (L' := (.blk b27 (enc y35) 41) :: (.blk b25 (enc r23.1) 38) :: (.blk b21 (enc r19.1) 41) :: (.blk b17 (enc r15.1) 41) :: (.blk b13 (enc r11.1) 41) :: (.blk b9 (enc (Matrix.zero : Matrix)) 41) :: (.blk b3 (enc a1) 41) :: (.blk b1 (enc a0) 41) :: L) ⟨rfl, rfl, rfl, rfl, rfl, rfl, trivial⟩ rfl ?_
  replace H := HKo160
  rcases Bool.eq_false_or_eq_true y164 with hb166 | hb166
  · replace H := ite_t hb166 H
    refine Cd.condT rfl hb166 ?_
    obtain ⟨o167, H, HKo167⟩ := bind_some H
    refine Cd.join (σ := Bool) (fun y171 => [(8, .bool y171)]) (fun y171 => (.blk b27 (enc y35) 41) :: (.blk b25 (enc r23.1) 38) :: (.blk b21 (enc r19.1) 41) :: (.blk b17 (enc r15.1) 41) :: (.blk b13 (enc r11.1) 41) :: (.blk b9 (enc (Matrix.zero : Matrix)) 41) :: (.blk b3 (enc a1) 41) :: (.blk b1 (enc a0) 41) :: L) (fun _ y171 => y171 = o167) ?_ ?_
    · refine Cd.region ?_
      refine Lst.run rfl rfl (by decide) (Ev.loadA (i := 2) rfl rfl Try.isAgg41 Try.sizeOf41 (ch := enc r19.1) (Enc.len _) (Get.here _)) ?_
      refine Lst.run rfl rfl (by decide) (Ev.loadA (i := 5) rfl rfl Try.isAgg41 Try.sizeOf41 (ch := enc (Matrix.zero : Matrix)) (Enc.len _) (Get.here _)) ?_
      refine Lst.run rfl rfl (by decide) (Ev.eqlA rfl rfl (by kernel_rfl) (eq41 _ _)) ?_
      refine Lst.run rfl rfl (by decide) (Ev.move rfl) ?_
      rcases (Bool.eq_false_or_eq_true (decide (r19.1 = (Matrix.zero : Matrix)))).symm with hb168 | hb168
      · replace H := ite_f hb168 H
        refine Lst.skip rfl rfl rfl hb168 rfl (by decide) ?_
        refine Lst.skip rfl rfl rfl hb168 rfl (by decide) ?_
        refine Lst.run rfl rfl (by decide) (Ev.pickF rfl hb168 rfl) ?_
        refine Lst.run rfl rfl (by decide) (Ev.assign rfl) ?_
        refine Lst.nil ?_
        exact At.meet false (FLe.refl _) ⟨rfl, trivial⟩ rfl (some_inj H)
      replace H := ite_t hb168 H
      refine Lst.runG rfl rfl rfl hb168 rfl (by decide) (Ev.move rfl) ?_
      refine Lst.runG rfl rfl rfl hb168 rfl (by decide) (Ev.eql rfl rfl) ?_
      refine Lst.run rfl rfl (by decide) (Ev.pickT rfl hb168 rfl) ?_
      refine Lst.run rfl rfl (by decide) (Ev.assign rfl) ?_
      refine Lst.nil ?_
      exact At.meet (r19.2 == (1 : Int)) (FLe.refl _) ⟨rfl, trivial⟩ rfl (some_inj H)
    rintro F' y171 hF' hy
    subst hy
    refine Cd.fle hF' ?_
    refine Cd.as (e' := [(8, .bool y171)]) (L' := (.blk b27 (enc y35) 41) :: (.blk b25 (enc r23.1) 38) :: (.blk b21 (enc r19.1) 41) :: (.blk b17 (enc r15.1) 41) :: (.blk b13 (enc r11.1) 41) :: (.blk b9 (enc (Matrix.zero : Matrix)) 41) :: (.blk b3 (enc a1) 41) :: (.blk b1 (enc a0) 41) :: L) ⟨rfl, trivial⟩ rfl ?_
    replace H := HKo167
    obtain rfl := some_inj H
    refine Cd.ret ?_
    refine At.in_ret ?_
    refine At.then_ret ?_
    exact At.ret1 rfl (Res.tmp rfl) (FLe.refl _) (List.Sublist.cons _ (List.Sublist.cons _ (List.Sublist.cons _ (List.Sublist.cons _ (List.Sublist.cons _ (List.Sublist.cons _ (List.Sublist.cons _ (List.Sublist.cons _ (List.Sublist.refl _))))))))) ⟨rfl, rfl⟩
  replace H := ite_f hb166 H
  refine Cd.condF rfl hb166 ?_
  refine Cd.skip ?_
  refine At.in_normal ?_
  refine At.then ?_
  obtain ⟨o173, H, HKo173⟩ := bind_some H
  refine Cd.join (σ := Bool) (fun y179 => [(8, .bool y179)]) (fun y179 => (.blk b27 (enc y35) 41) :: (.blk b25 (enc r23.1) 38) :: (.blk b21 (enc r19.1) 41) :: (.blk b17 (enc r15.1) 41) :: (.blk b13 (enc r11.1) 41) :: (.blk b9 (enc (Matrix.zero : Matrix)) 41) :: (.blk b3 (enc a1) 41) :: (.blk b1 (enc a0) 41) :: L) (fun _ y179 => y179 = o173) ?_ ?_
  · refine Cd.quiet (by kernel_rfl) (by kernel_rfl) ?_
    refine Qt.run rfl rfl (by decide) (Ev.loadA (i := 2) rfl rfl Try.isAgg41 Try.sizeOf41 (ch := enc r19.1) (Enc.len _) (Get.here _)) ?_
    refine Qt.run rfl rfl (by decide) (Ev.loadA (i := 7) rfl rfl Try.isAgg41 Try.sizeOf41 (ch := enc a0) (Enc.len _) (Get.here _)) ?_
    refine Qt.run rfl rfl (by decide) (Ev.loadA (i := 6) rfl rfl Try.isAgg41 Try.sizeOf41 (ch := enc a1) (Enc.len _) (Get.here _)) ?_
    obtain ⟨r174, h175, H⟩ := bind_some H
    refine Qt.call rfl rfl (by decide) (vs := [.agg (enc a0).toArray, .agg (enc a1).toArray]) ⟨rfl, rfl, trivial⟩ Try.call20 (partref_Meet_sim h175 w0 _ _) ?_
    refine Qt.run rfl rfl (by decide) (Ev.eqlA rfl rfl (by kernel_rfl) (eq41 _ _)) ?_
    refine Qt.run rfl rfl (by decide) (Ev.move rfl) ?_
    rcases (Bool.eq_false_or_eq_true (decide (r19.1 = r174))).symm with hb176 | hb176
    · replace H := ite_f hb176 H
      refine Qt.skip rfl rfl rfl hb176 rfl (by decide) ?_
      refine Qt.skip rfl rfl rfl hb176 rfl (by decide) ?_
      refine Qt.run rfl rfl (by decide) (Ev.pickF rfl hb176 rfl) ?_
      refine Qt.run rfl rfl (by decide) (Ev.assign rfl) ?_
      refine Qt.done ?_
      exact At.meet false (FLe.refl _) ⟨rfl, trivial⟩ rfl (some_inj H)
    replace H := ite_t hb176 H
    refine Qt.runG rfl rfl rfl hb176 rfl (by decide) (Ev.move rfl) ?_
    refine Qt.runG rfl rfl rfl hb176 rfl (by decide) (Ev.eql rfl rfl) ?_
    refine Qt.run rfl rfl (by decide) (Ev.pickT rfl hb176 rfl) ?_
    refine Qt.run rfl rfl (by decide) (Ev.assign rfl) ?_
    refine Qt.done ?_
    exact At.meet (r19.2 == (0 : Int)) (FLe.refl _) ⟨rfl, trivial⟩ rfl (some_inj H)
  rintro F' y179 hF' hy
  subst hy
  refine Cd.fle hF' ?_
  refine Cd.as (e' := [(8, .bool y179)]) (L' := (.blk b27 (enc y35) 41) :: (.blk b25 (enc r23.1) 38) :: (.blk b21 (enc r19.1) 41) :: (.blk b17 (enc r15.1) 41) :: (.blk b13 (enc r11.1) 41) :: (.blk b9 (enc (Matrix.zero : Matrix)) 41) :: (.blk b3 (enc a1) 41) :: (.blk b1 (enc a0) 41) :: L) ⟨rfl, trivial⟩ rfl ?_
  replace H := HKo173
  obtain rfl := some_inj H
  refine Cd.ret ?_
  exact At.ret1 rfl (Res.tmp rfl) (FLe.refl _) (List.Sublist.cons _ (List.Sublist.cons _ (List.Sublist.cons _ (List.Sublist.cons _ (List.Sublist.cons _ (List.Sublist.cons _ (List.Sublist.cons _ (List.Sublist.cons _ (List.Sublist.refl _))))))))) ⟨rfl, rfl⟩
end Go.Proofs.Ytilflhdhcleneaa
