/-
  The functions compute their specs; printed by a program.
-/
import Derived.Test.YtclmlddmgccfjaaVdSp
import Derived.Test.YtclmlddmgccfjaaGoL
import Derived.Test.YtclmlddmgccfjaaGoH
import Derived.Test.YtclmlddmgccfjaaGoI
import Derived.Test.YtclmlddmgccfjaaGoU
import Derived.Test.YtclmlddmgccfjaaProg
namespace Go.Proofs.Ytclmlddmgccfjaa
open Go.RowKit Enc
set_option linter.unusedVariables false
set_option linter.unusedSimpArgs false
set_option maxRecDepth 20000 in
theorem eq23 (x y : Vector Int 6) : ∀ w, (Op.equal 23 (.agg (enc x).toArray) (.agg (enc y).toArray)).run Try.prog w = .ok (decide (x = y)) w :=
  EqT.top (d := 10000) Try.isAgg23 Try.sizeOf23 rfl rfl (EqT.array (inf := Try.t3) Try.isAgg23 Try.sizeOf23 rfl Try.runUnderlying23 rfl (by kernel_rfl) (EqT.int Try.isAgg3 Try.runUnderlying3)) x y
set_option maxRecDepth 20000 in
theorem eq75 (x y : Event) : ∀ w, (Op.equal 75 (.agg (enc x).toArray) (.agg (enc y).toArray)).run Try.prog w = .ok (decide (x = y)) w :=
  EqT.top (d := 10000) Try.isAgg75 Try.sizeOf75 rfl rfl (EqT.struct Try.isAgg75 Try.sizeOf75 rfl Try.runUnderlying75 (by kernel_rfl) (fun x y w => by
  refine Eq.trans (eqField (p := x.Proc) (q := y.Proc) rfl (EqT.int Try.isAgg3 Try.runUnderlying3) rfl ((Event.get_Proc (Get.here _)).off rfl) ((Event.get_Proc (Get.here _)).off rfl) (eqField (p := x.Kind) (q := y.Kind) rfl (EqT.int Try.isAgg3 Try.runUnderlying3) rfl ((Event.get_Kind (Get.here _)).off rfl) ((Event.get_Kind (Get.here _)).off rfl) (eqField (p := x.Msg) (q := y.Msg) rfl (EqT.int Try.isAgg3 Try.runUnderlying3) rfl ((Event.get_Msg (Get.here _)).off rfl) ((Event.get_Msg (Get.here _)).off rfl) (by rfl)))) ?_
  congr 1
  rw [Bool.eq_iff_iff]; cases x; cases y; simp)) x y
set_option maxRecDepth 20000 in
theorem vect_Max_sim {a0 : Vector Int 6} {a1 : Vector Int 6} {r : (Vector Int 6)} (H : vect_Max a0 a1 = some r) (w0 : World) (F : Frz) (M L : List Item) (hM : M.Sublist L) : Ok Try.prog w0 10 [.agg (enc a0).toArray, .agg (enc a1).toArray] F (L) (Is (.agg (enc r).toArray) (L)) := by
  unfold vect_Max at H
  refine Ok.enter (m := 2) (n := 20) Try.func10 rfl rfl rfl (by decide) ?_
  refine Cd.env (e' := [(0, .agg (enc a0).toArray), (1, .agg (enc a1).toArray)]) rfl ?_
  refine Cd.seq ?_
  refine Cd.region ?_
  refine Lst.box rfl rfl (by decide) rfl (cs := enc a0) rfl (fun b1 => ?_)
  refine Lst.box rfl rfl (by decide) rfl (cs := enc a1) rfl (fun b3 => ?_)
  refine Lst.alloc (cs := enc (Vector.replicate 6 (0 : Int))) rfl rfl (by decide) Try.zeroValue23 rfl (fun b5 => ?_)
  refine Lst.nil ?_
  refine At.then ?_
  refine Cd.seq ?_
  refine Cd.seq ?_
  refine Cd.region ?_
  refine Lst.run rfl rfl (by decide) (Ev.move rfl) ?_
  refine Lst.nil ?_
  refine At.then ?_
  refine Cd.block ?_
  obtain ⟨ol7, H, HKl7⟩ := bind_some H
  refine Cd.loop (σ := Nat × Nat × (Vector Int 6)) (fun (i7, k7, y8) => [(2, .pointer (some ⟨b1, 0, none⟩)), (3, .pointer (some ⟨b3, 0, none⟩)), (4, .pointer (some ⟨b5, 0, none⟩)), (6, .int .i64 (i7 : Int))]) (fun (i7, k7, y8) => (.blk b5 (enc (Vector.replicate 6 (0 : Int))) 23) :: (.blk b3 (enc a1) 23) :: (.blk b1 (enc y8) 23) :: L) (fun _ => (fun (i7, k7, y8) => rangeF (vect_Max_B0 a1) k7 i7 y8 = some ol7 ∧ i7 + k7 = 6)) (fun (i7, k7, y8) => k7) (0, 6, a0) ⟨rfl, rfl, rfl, rfl, trivial⟩ rfl ⟨H, by omega⟩ ?_
  rintro F9 ⟨i7, k7, y8⟩ hF10 ⟨H, hik7⟩
  refine Cd.as (e' := [(2, .pointer (some ⟨b1, 0, none⟩)), (3, .pointer (some ⟨b3, 0, none⟩)), (4, .pointer (some ⟨b5, 0, none⟩)), (6, .int .i64 (i7 : Int))]) (L' := (.blk b5 (enc (Vector.replicate 6 (0 : Int))) 23) :: (.blk b3 (enc a1) 23) :: (.blk b1 (enc y8) 23) :: L) ⟨rfl, rfl, rfl, rfl, trivial⟩ rfl ?_
  rcases k7 with _ | k7
  · have hc7 : decide ((i7 : Int) < (6 : Int)) = false := decide_eq_false (by omega)
    replace H := rangeF_end H
    refine Cd.seq ?_
    refine Cd.region ?_
    refine Lst.run rfl rfl (by decide) (Ev.lss rfl rfl) ?_
    refine Lst.nil ?_
    refine At.then ?_
    refine Cd.seq ?_
    refine Cd.condF rfl hc7 ?_
    refine Cd.exit ?_
    refine At.then_exit ?_
    refine At.then_exit ?_
    refine At.in_exit ?_
    subst H
    replace H := HKl7
    refine At.then ?_
    refine Cd.seq ?_
    refine Cd.region ?_
    refine Lst.run rfl rfl (by decide) (Ev.loadA (i := 2) rfl rfl Try.isAgg23 Try.sizeOf23 (ch := enc y8) (Enc.len _) (Get.here _)) ?_
    refine Lst.store (i := 0) rfl rfl rfl rfl rfl Try.sizeOf23 (vs := enc y8) rfl (Enc.len _) (Enc.one _) (cs' := enc y8) (Put.here ((Enc.len _).trans (Enc.len _).symm)) (L' := (.blk b5 (enc y8) 23) :: (.blk b3 (enc a1) 23) :: (.blk b1 (enc y8) 23) :: L) rfl ?_
    refine Lst.nil ?_
    refine At.then ?_
    obtain rfl := some_inj H
    refine Cd.ret ?_
    exact At.ret1 rfl (Res.cellA (i := 0) rfl rfl Try.isAgg23 Try.sizeOf23 (Enc.len _)) hF10 (List.Sublist.cons _ (List.Sublist.cons _ (List.Sublist.cons _ (List.Sublist.refl _)))) ⟨rfl, rfl⟩
  have hc7 : decide ((i7 : Int) < (6 : Int)) = true := decide_eq_true (by omega)
  obtain ⟨c7, H, hgo7⟩ := rangeF_go H
  unfold vect_Max_B0 at H
  try dsimp only at H
  refine Cd.seq ?_
  refine Cd.region ?_
  refine Lst.run rfl rfl (by decide) (Ev.lss rfl rfl) ?_
  refine Lst.nil ?_
  refine At.then ?_
  refine Cd.seq ?_
  refine Cd.condT rfl hc7 ?_
  refine Cd.skip ?_
  refine At.then ?_
  refine Cd.seq ?_
  refine Cd.block ?_
  refine Cd.seq ?_
  refine Cd.region ?_
  refine Lst.run rfl rfl (by decide) (Ev.move rfl) ?_
  refine Lst.run rfl rfl (by decide) (Ev.assign rfl) ?_
  refine Lst.nil ?_
  refine At.then ?_
  refine Cd.tail 9 (by kernel_rfl) (by kernel_rfl) ?_
  refine Qt.run rfl rfl (by decide) (Ev.move rfl) ?_
  refine Qt.run rfl rfl (by decide) (Ev.move rfl) ?_
  obtain ⟨x11, h12, H⟩ := bind_some H
  have g13 := vat_some h12
  refine Qt.run rfl rfl (by decide) (Ev.indexAddr (off' := 0 + (i7 : Int).toNat * 1) rfl rfl Try.runUnderlying23 Try.sizeOf3 g13.1 g13.2.1 rfl) ?_
  refine Qt.run rfl rfl (by decide) (Ev.load (i := 2) rfl rfl Try.isAgg3 (v := .int .i64 x11) ((Get.vecN (s := 1) rfl g13.2.2 (Get.here _)).off (by omega))) ?_
  refine Qt.run rfl rfl (by decide) (Ev.move rfl) ?_
  obtain ⟨x14, h15, H⟩ := bind_some H
  have g16 := vat_some h15
  refine Qt.run rfl rfl (by decide) (Ev.indexAddr (off' := 0 + (i7 : Int).toNat * 1) rfl rfl Try.runUnderlying23 Try.sizeOf3 g16.1 g16.2.1 rfl) ?_
  refine Qt.run rfl rfl (by decide) (Ev.load (i := 1) rfl rfl Try.isAgg3 (v := .int .i64 x14) ((Get.vecN (s := 1) rfl g16.2.2 (Get.here _)).off (by omega))) ?_
  refine Qt.run rfl rfl (by decide) (Ev.max2 rfl rfl) ?_
  obtain ⟨x17, h18, H⟩ := bind_some H
  have g19 := vat_some h18
  refine Qt.run rfl rfl (by decide) (Ev.indexAddr (off' := 0 + (i7 : Int).toNat * 1) rfl rfl Try.runUnderlying23 Try.sizeOf3 g19.1 g19.2.1 rfl) ?_
  refine Qt.tail ?_
  obtain ⟨p20, h21, H⟩ := Let_some H
  refine Lst.store (i := 2) rfl rfl rfl rfl rfl Try.sizeOf3 (vs := [.int .i64 (max x11 x14)]) rfl rfl rfl (cs' := enc p20) (by rw [← h21]; exact (Put.vecN (s := 1) rfl g19.2.2 (Put.here (vs := [.int .i64 (max x11 x14)]) rfl)).off (by omega)) (L' := (.blk b5 (enc (Vector.replicate 6 (0 : Int))) 23) :: (.blk b3 (enc a1) 23) :: (.blk b1 (enc p20) 23) :: L) rfl ?_
  refine Lst.nil ?_
  refine At.in_normal ?_
  refine At.then ?_
  refine Cd.region ?_
  refine Lst.run rfl rfl (by decide) (Ev.incr (by omega) rfl rfl) ?_
  refine Lst.run rfl rfl (by decide) (Ev.move rfl) ?_
  refine Lst.nil ?_
  exact At.meet (i7 + 1, k7, p20) hF10 ⟨rfl, rfl, rfl, rfl, trivial⟩ rfl ⟨⟨hgo7 _ (some_inj H).symm, by omega⟩, Nat.lt_succ_self _⟩
set_option maxRecDepth 20000 in
theorem vect_Min_sim {a0 : Vector Int 6} {a1 : Vector Int 6} {r : (Vector Int 6)} (H : vect_Min a0 a1 = some r) (w0 : World) (F : Frz) (M L : List Item) (hM : M.Sublist L) : Ok Try.prog w0 11 [.agg (enc a0).toArray, .agg (enc a1).toArray] F (L) (Is (.agg (enc r).toArray) (L)) := by
  unfold vect_Min at H
  refine Ok.enter (m := 2) (n := 20) Try.func11 rfl rfl rfl (by decide) ?_
  refine Cd.env (e' := [(0, .agg (enc a0).toArray), (1, .agg (enc a1).toArray)]) rfl ?_
  refine Cd.seq ?_
  refine Cd.region ?_
  refine Lst.box rfl rfl (by decide) rfl (cs := enc a0) rfl (fun b1 => ?_)
  refine Lst.box rfl rfl (by decide) rfl (cs := enc a1) rfl (fun b3 => ?_)
  refine Lst.alloc (cs := enc (Vector.replicate 6 (0 : Int))) rfl rfl (by decide) Try.zeroValue23 rfl (fun b5 => ?_)
  refine Lst.nil ?_
  refine At.then ?_
  refine Cd.seq ?_
  refine Cd.seq ?_
  refine Cd.region ?_
  refine Lst.run rfl rfl (by decide) (Ev.move rfl) ?_
  refine Lst.nil ?_
  refine At.then ?_
  refine Cd.block ?_
  obtain ⟨ol7, H, HKl7⟩ := bind_some H
  refine Cd.loop (σ := Nat × Nat × (Vector Int 6)) (fun (i7, k7, y8) => [(2, .pointer (some ⟨b1, 0, none⟩)), (3, .pointer (some ⟨b3, 0, none⟩)), (4, .pointer (some ⟨b5, 0, none⟩)), (6, .int .i64 (i7 : Int))]) (fun (i7, k7, y8) => (.blk b5 (enc (Vector.replicate 6 (0 : Int))) 23) :: (.blk b3 (enc a1) 23) :: (.blk b1 (enc y8) 23) :: L) (fun _ => (fun (i7, k7, y8) => rangeF (vect_Min_B0 a1) k7 i7 y8 = some ol7 ∧ i7 + k7 = 6)) (fun (i7, k7, y8) => k7) (0, 6, a0) ⟨rfl, rfl, rfl, rfl, trivial⟩ rfl ⟨H, by omega⟩ ?_
  rintro F9 ⟨i7, k7, y8⟩ hF10 ⟨H, hik7⟩
  refine Cd.as (e' := [(2, .pointer (some ⟨b1, 0, none⟩)), (3, .pointer (some ⟨b3, 0, none⟩)), (4, .pointer (some ⟨b5, 0, none⟩)), (6, .int .i64 (i7 : Int))]) (L' := (.blk b5 (enc (Vector.replicate 6 (0 : Int))) 23) :: (.blk b3 (enc a1) 23) :: (.blk b1 (enc y8) 23) :: L) ⟨rfl, rfl, rfl, rfl, trivial⟩ rfl ?_
  rcases k7 with _ | k7
  · have hc7 : decide ((i7 : Int) < (6 : Int)) = false := decide_eq_false (by omega)
    replace H := rangeF_end H
    refine Cd.seq ?_
    refine Cd.region ?_
    refine Lst.run rfl rfl (by decide) (Ev.lss rfl rfl) ?_
    refine Lst.nil ?_
    refine At.then ?_
    refine Cd.seq ?_
    refine Cd.condF rfl hc7 ?_
    refine Cd.exit ?_
    refine At.then_exit ?_
    refine At.then_exit ?_
    refine At.in_exit ?_
    subst H
    replace H := HKl7
    refine At.then ?_
    refine Cd.seq ?_
    refine Cd.region ?_
    refine Lst.run rfl rfl (by decide) (Ev.loadA (i := 2) rfl rfl Try.isAgg23 Try.sizeOf23 (ch := enc y8) (Enc.len _) (Get.here _)) ?_
    refine Lst.store (i := 0) rfl rfl rfl rfl rfl Try.sizeOf23 (vs := enc y8) rfl (Enc.len _) (Enc.one _) (cs' := enc y8) (Put.here ((Enc.len _).trans (Enc.len _).symm)) (L' := (.blk b5 (enc y8) 23) :: (.blk b3 (enc a1) 23) :: (.blk b1 (enc y8) 23) :: L) rfl ?_
    refine Lst.nil ?_
    refine At.then ?_
    obtain rfl := some_inj H
    refine Cd.ret ?_
    exact At.ret1 rfl (Res.cellA (i := 0) rfl rfl Try.isAgg23 Try.sizeOf23 (Enc.len _)) hF10 (List.Sublist.cons _ (List.Sublist.cons _ (List.Sublist.cons _ (List.Sublist.refl _)))) ⟨rfl, rfl⟩
  have hc7 : decide ((i7 : Int) < (6 : Int)) = true := decide_eq_true (by omega)
  obtain ⟨c7, H, hgo7⟩ := rangeF_go H
  unfold vect_Min_B0 at H
  try dsimp only at H
  refine Cd.seq ?_
  refine Cd.region ?_
  refine Lst.run rfl rfl (by decide) (Ev.lss rfl rfl) ?_
  refine Lst.nil ?_
  refine At.then ?_
  refine Cd.seq ?_
  refine Cd.condT rfl hc7 ?_
  refine Cd.skip ?_
  refine At.then ?_
  refine Cd.seq ?_
  refine Cd.block ?_
  refine Cd.seq ?_
  refine Cd.region ?_
  refine Lst.run rfl rfl (by decide) (Ev.move rfl) ?_
  refine Lst.run rfl rfl (by decide) (Ev.assign rfl) ?_
  refine Lst.nil ?_
  refine At.then ?_
  refine Cd.tail 9 (by kernel_rfl) (by kernel_rfl) ?_
  refine Qt.run rfl rfl (by decide) (Ev.move rfl) ?_
  refine Qt.run rfl rfl (by decide) (Ev.move rfl) ?_
  obtain ⟨x11, h12, H⟩ := bind_some H
  have g13 := vat_some h12
  refine Qt.run rfl rfl (by decide) (Ev.indexAddr (off' := 0 + (i7 : Int).toNat * 1) rfl rfl Try.runUnderlying23 Try.sizeOf3 g13.1 g13.2.1 rfl) ?_
  refine Qt.run rfl rfl (by decide) (Ev.load (i := 2) rfl rfl Try.isAgg3 (v := .int .i64 x11) ((Get.vecN (s := 1) rfl g13.2.2 (Get.here _)).off (by omega))) ?_
  refine Qt.run rfl rfl (by decide) (Ev.move rfl) ?_
  obtain ⟨x14, h15, H⟩ := bind_some H
  have g16 := vat_some h15
  refine Qt.run rfl rfl (by decide) (Ev.indexAddr (off' := 0 + (i7 : Int).toNat * 1) rfl rfl Try.runUnderlying23 Try.sizeOf3 g16.1 g16.2.1 rfl) ?_
  refine Qt.run rfl rfl (by decide) (Ev.load (i := 1) rfl rfl Try.isAgg3 (v := .int .i64 x14) ((Get.vecN (s := 1) rfl g16.2.2 (Get.here _)).off (by omega))) ?_
  refine Qt.run rfl rfl (by decide) (Ev.min2 rfl rfl) ?_
  obtain ⟨x17, h18, H⟩ := bind_some H
  have g19 := vat_some h18
  refine Qt.run rfl rfl (by decide) (Ev.indexAddr (off' := 0 + (i7 : Int).toNat * 1) rfl rfl Try.runUnderlying23 Try.sizeOf3 g19.1 g19.2.1 rfl) ?_
  refine Qt.tail ?_
  obtain ⟨p20, h21, H⟩ := Let_some H
  refine Lst.store (i := 2) rfl rfl rfl rfl rfl Try.sizeOf3 (vs := [.int .i64 (min x11 x14)]) rfl rfl rfl (cs' := enc p20) (by rw [← h21]; exact (Put.vecN (s := 1) rfl g19.2.2 (Put.here (vs := [.int .i64 (min x11 x14)]) rfl)).off (by omega)) (L' := (.blk b5 (enc (Vector.replicate 6 (0 : Int))) 23) :: (.blk b3 (enc a1) 23) :: (.blk b1 (enc p20) 23) :: L) rfl ?_
  refine Lst.nil ?_
  refine At.in_normal ?_
  refine At.then ?_
  refine Cd.region ?_
  refine Lst.run rfl rfl (by decide) (Ev.incr (by omega) rfl rfl) ?_
  refine Lst.run rfl rfl (by decide) (Ev.move rfl) ?_
  refine Lst.nil ?_
  exact At.meet (i7 + 1, k7, p20) hF10 ⟨rfl, rfl, rfl, rfl, trivial⟩ rfl ⟨⟨hgo7 _ (some_inj H).symm, by omega⟩, Nat.lt_succ_self _⟩
set_option maxRecDepth 20000 in
theorem vect_Within_sim {a0 : Vector Int 6} {a1 : Vector Int 6} {r : Bool} (H : vect_Within a0 a1 = some r) (w0 : World) (F : Frz) (M L : List Item) (hM : M.Sublist L) : Ok Try.prog w0 14 [.agg (enc a0).toArray, .agg (enc a1).toArray] F (L) (Is (.bool r) (L)) := by
  unfold vect_Within at H
  refine Ok.enter (m := 2) (n := 10) Try.func14 rfl rfl rfl (by decide) ?_
  refine Cd.env (e' := [(0, .agg (enc a0).toArray), (1, .agg (enc a1).toArray)]) rfl ?_
  refine Cd.seq ?_
  refine Cd.region ?_
  refine Lst.box rfl rfl (by decide) rfl (cs := enc a0) rfl (fun b1 => ?_)
  refine Lst.box rfl rfl (by decide) rfl (cs := enc a1) rfl (fun b3 => ?_)
  refine Lst.run rfl rfl (by decide) (Ev.assign rfl) ?_
  refine Lst.nil ?_
  refine At.then ?_
  refine Cd.seq ?_
  refine Cd.quiet (by kernel_rfl) (by kernel_rfl) ?_
  refine Qt.run rfl rfl (by decide) (Ev.loadA (i := 1) rfl rfl Try.isAgg23 Try.sizeOf23 (ch := enc a0) (Enc.len _) (Get.here _)) ?_
  refine Qt.run rfl rfl (by decide) (Ev.loadA (i := 0) rfl rfl Try.isAgg23 Try.sizeOf23 (ch := enc a1) (Enc.len _) (Get.here _)) ?_
  obtain ⟨r5, h6, H⟩ := bind_some H
  refine Qt.call rfl rfl (by decide) (vs := [.agg (enc a0).toArray, .agg (enc a1).toArray]) ⟨rfl, rfl, trivial⟩ Try.call10 (vect_Max_sim h6 w0 _ M _ (List.Sublist.cons _ (List.Sublist.cons _ hM))) ?_
  refine Qt.run rfl rfl (by decide) (Ev.loadA (i := 0) rfl rfl Try.isAgg23 Try.sizeOf23 (ch := enc a1) (Enc.len _) (Get.here _)) ?_
  refine Qt.run rfl rfl (by decide) (Ev.eqlA rfl rfl (by kernel_rfl) (eq23 _ _)) ?_
  refine Qt.run rfl rfl (by decide) (Ev.assign rfl) ?_
  refine Qt.done ?_
  refine At.then ?_
  obtain rfl := some_inj H
  refine Cd.ret ?_
  exact At.ret1 rfl (Res.tmp rfl) (FLe.refl _) (List.Sublist.cons _ (List.Sublist.cons _ (List.Sublist.refl _))) ⟨rfl, rfl⟩
set_option maxRecDepth 20000 in
theorem vect_Compare_sim {a0 : Vector Int 6} {a1 : Vector Int 6} {r : Int} (H : vect_Compare a0 a1 = some r) (w0 : World) (F : Frz) (M L : List Item) (hM : M.Sublist L) : Ok Try.prog w0 12 [.agg (enc a0).toArray, .agg (enc a1).toArray] F (L) (Is (.int .i64 r) (L)) := by
  unfold vect_Compare at H
  refine Ok.enter (m := 2) (n := 17) Try.func12 rfl rfl rfl (by decide) ?_
  refine Cd.env (e' := [(0, .agg (enc a0).toArray), (1, .agg (enc a1).toArray)]) rfl ?_
  refine Cd.seq ?_
  refine Cd.region ?_
  refine Lst.box rfl rfl (by decide) rfl (cs := enc a0) rfl (fun b1 => ?_)
  refine Lst.box rfl rfl (by decide) rfl (cs := enc a1) rfl (fun b3 => ?_)
  refine Lst.run rfl rfl (by decide) (Ev.assign rfl) ?_
  refine Lst.nil ?_
  refine At.then ?_
  refine Cd.seq ?_
  refine Cd.block ?_
  refine Cd.seq ?_
  refine Cd.region ?_
  refine Lst.run rfl rfl (by decide) (Ev.loadA (i := 1) rfl rfl Try.isAgg23 Try.sizeOf23 (ch := enc a0) (Enc.len _) (Get.here _)) ?_
  refine Lst.run rfl rfl (by decide) (Ev.loadA (i := 0) rfl rfl Try.isAgg23 Try.sizeOf23 (ch := enc a1) (Enc.len _) (Get.here _)) ?_
  refine Lst.run rfl rfl (by decide) (Ev.eqlA rfl rfl (by kernel_rfl) (eq23 _ _)) ?_
  refine Lst.run rfl rfl (by decide) (Ev.assign rfl) ?_
  refine Lst.nil ?_
  refine At.then ?_
  rcases Bool.eq_false_or_eq_true (decide (a0 = a1)) with hb5 | hb5
  · replace H := ite_t hb5 H
    refine Cd.condT rfl hb5 ?_
    refine Cd.seq ?_
    refine Cd.region ?_
    refine Lst.run rfl rfl (by decide) (Ev.assign rfl) ?_
    refine Lst.nil ?_
    refine At.then ?_
    obtain rfl := some_inj H
    refine Cd.ret ?_
    refine At.in_ret ?_
    refine At.then_ret ?_
    exact At.ret1 rfl (Res.tmp rfl) (FLe.refl _) (List.Sublist.cons _ (List.Sublist.cons _ (List.Sublist.refl _))) ⟨rfl, rfl⟩
  replace H := ite_f hb5 H
  refine Cd.condF rfl hb5 ?_
  refine Cd.seq ?_
  refine Cd.region ?_
  refine Lst.run rfl rfl (by decide) (Ev.loadA (i := 1) rfl rfl Try.isAgg23 Try.sizeOf23 (ch := enc a0) (Enc.len _) (Get.here _)) ?_
  refine Lst.run rfl rfl (by decide) (Ev.loadA (i := 0) rfl rfl Try.isAgg23 Try.sizeOf23 (ch := enc a1) (Enc.len _) (Get.here _)) ?_
  obtain ⟨r6, h7, H⟩ := bind_some H
  refine Lst.call1 rfl rfl (by decide) (vs := [.agg (enc a0).toArray, .agg (enc a1).toArray]) ⟨rfl, rfl, trivial⟩ Try.call14 (vect_Within_sim h7 w0 _ M _ (List.Sublist.cons _ (List.Sublist.cons _ hM))) ?_
  refine Lst.run rfl rfl (by decide) (Ev.assign rfl) ?_
  refine Lst.nil ?_
  refine At.then ?_
  rcases Bool.eq_false_or_eq_true r6 with hb10 | hb10
  · replace H := ite_t hb10 H
    refine Cd.condT rfl hb10 ?_
    refine Cd.seq ?_
    refine Cd.region ?_
    refine Lst.run rfl rfl (by decide) (Ev.assign rfl) ?_
    refine Lst.nil ?_
    refine At.then ?_
    obtain rfl := some_inj H
    refine Cd.ret ?_
    refine At.in_ret ?_
    refine At.then_ret ?_
    exact At.ret1 rfl (Res.tmp rfl) (FLe.refl _) (List.Sublist.cons _ (List.Sublist.cons _ (List.Sublist.refl _))) ⟨rfl, rfl⟩
  replace H := ite_f hb10 H
  refine Cd.condF rfl hb10 ?_
  refine Cd.seq ?_
  refine Cd.region ?_
  refine Lst.run rfl rfl (by decide) (Ev.loadA (i := 0) rfl rfl Try.isAgg23 Try.sizeOf23 (ch := enc a1) (Enc.len _) (Get.here _)) ?_
  refine Lst.run rfl rfl (by decide) (Ev.loadA (i := 1) rfl rfl Try.isAgg23 Try.sizeOf23 (ch := enc a0) (Enc.len _) (Get.here _)) ?_
  obtain ⟨r11, h12, H⟩ := bind_some H
  refine Lst.call1 rfl rfl (by decide) (vs := [.agg (enc a1).toArray, .agg (enc a0).toArray]) ⟨rfl, rfl, trivial⟩ Try.call14 (vect_Within_sim h12 w0 _ M _ (List.Sublist.cons _ (List.Sublist.cons _ hM))) ?_
  refine Lst.run rfl rfl (by decide) (Ev.assign rfl) ?_
  refine Lst.nil ?_
  refine At.then ?_
  rcases Bool.eq_false_or_eq_true r11 with hb15 | hb15
  · replace H := ite_t hb15 H
    refine Cd.condT rfl hb15 ?_
    refine Cd.seq ?_
    refine Cd.as (e' := []) (L' := (.blk b3 (enc a1) 23) :: (.blk b1 (enc a0) 23) :: L) trivial rfl ?_
    refine Cd.region ?_
    refine Lst.run rfl rfl (by decide) (Ev.assign rfl) ?_
    refine Lst.nil ?_
    refine At.then ?_
    obtain rfl := some_inj H
    refine Cd.ret ?_
    refine At.in_ret ?_
    refine At.then_ret ?_
    exact At.ret1 rfl (Res.tmp rfl) (FLe.refl _) (List.Sublist.cons _ (List.Sublist.cons _ (List.Sublist.refl _))) ⟨rfl, rfl⟩
  replace H := ite_f hb15 H
  refine Cd.condF rfl hb15 ?_
  refine Cd.skip ?_
  refine At.in_normal ?_
  refine At.then ?_
  refine Cd.seq ?_
  refine Cd.as (e' := []) (L' := (.blk b3 (enc a1) 23) :: (.blk b1 (enc a0) 23) :: L) trivial rfl ?_
  refine Cd.region ?_
  refine Lst.run rfl rfl (by decide) (Ev.assign rfl) ?_
  refine Lst.nil ?_
  refine At.then ?_
  obtain rfl := some_inj H
  refine Cd.ret ?_
  exact At.ret1 rfl (Res.tmp rfl) (FLe.refl _) (List.Sublist.cons _ (List.Sublist.cons _ (List.Sublist.refl _))) ⟨rfl, rfl⟩
set_option maxRecDepth 20000 in
theorem partref_Compare_sim {a0 : Vector Int 6} {a1 : Vector Int 6} {r : Int} (H : partref_Compare a0 a1 = some r) (w0 : World) (F : Frz) (M L : List Item) (hM : M.Sublist L) : Ok Try.prog w0 13 [.agg (enc a0).toArray, .agg (enc a1).toArray] F (L) (Is (.int .i64 r) (L)) := by
  unfold partref_Compare at H
  refine Ok.enter (m := 2) (n := 41) Try.func13 rfl rfl rfl (by decide) ?_
  refine Cd.env (e' := [(0, .agg (enc a0).toArray), (1, .agg (enc a1).toArray)]) rfl ?_
  refine Cd.seq ?_
  refine Cd.region ?_
  refine Lst.box rfl rfl (by decide) rfl (cs := enc a0) rfl (fun b1 => ?_)
  refine Lst.box rfl rfl (by decide) rfl (cs := enc a1) rfl (fun b3 => ?_)
  refine Lst.run rfl rfl (by decide) (Ev.assign rfl) ?_
  refine Lst.nil ?_
  refine At.then ?_
  refine Cd.seq ?_
  refine Cd.region ?_
  refine Lst.run rfl rfl (by decide) (Ev.assign rfl) ?_
  refine Lst.run rfl rfl (by decide) (Ev.assign rfl) ?_
  refine Lst.nil ?_
  refine At.then ?_
  refine Cd.seq ?_
  refine Cd.seq ?_
  refine Cd.region ?_
  refine Lst.run rfl rfl (by decide) (Ev.move rfl) ?_
  refine Lst.nil ?_
  refine At.then ?_
  refine Cd.block ?_
  obtain ⟨ol5, H, HKl5⟩ := bind_some H
  refine Cd.loop (σ := Nat × Nat × Bool × Bool) (fun (i5, k5, y6, y7) => [(2, .pointer (some ⟨b1, 0, none⟩)), (3, .pointer (some ⟨b3, 0, none⟩)), (5, .bool y6), (6, .bool y7), (8, .int .i64 (i5 : Int))]) (fun (i5, k5, y6, y7) => (.blk b3 (enc a1) 23) :: (.blk b1 (enc a0) 23) :: L) (fun _ => (fun (i5, k5, y6, y7) => rangeF (partref_Compare_B0 a0 a1) k5 i5 (y6, y7) = some ol5 ∧ i5 + k5 = 6)) (fun (i5, k5, y6, y7) => k5) (0, 6, false, false) ⟨rfl, rfl, rfl, rfl, rfl, trivial⟩ rfl ⟨H, by omega⟩ ?_
  rintro F8 ⟨i5, k5, y6, y7⟩ hF9 ⟨H, hik5⟩
  refine Cd.as (e' := [(2, .pointer (some ⟨b1, 0, none⟩)), (3, .pointer (some ⟨b3, 0, none⟩)), (5, .bool y6), (6, .bool y7), (8, .int .i64 (i5 : Int))]) (L' := (.blk b3 (enc a1) 23) :: (.blk b1 (enc a0) 23) :: L) ⟨rfl, rfl, rfl, rfl, rfl, trivial⟩ rfl ?_
  rcases k5 with _ | k5
  · have hc5 : decide ((i5 : Int) < (6 : Int)) = false := decide_eq_false (by omega)
    replace H := rangeF_end H
    refine Cd.seq ?_
    refine Cd.region ?_
    refine Lst.run rfl rfl (by decide) (Ev.lss rfl rfl) ?_
    refine Lst.nil ?_
    refine At.then ?_
    refine Cd.seq ?_
    refine Cd.condF rfl hc5 ?_
    refine Cd.exit ?_
    refine At.then_exit ?_
    refine At.then_exit ?_
    refine At.in_exit ?_
    subst H
    replace H := HKl5
    refine At.then ?_
    refine Cd.seq ?_
    refine Cd.block ?_
    refine Cd.seq ?_
    refine Cd.region ?_
    refine Lst.run rfl rfl (by decide) (Ev.move rfl) ?_
    refine Lst.run rfl rfl (by decide) (Ev.move rfl) ?_
    obtain ⟨o28, H, HKo28⟩ := bind_some H
    refine Lst.join (σ := Bool) 2 (fun y29 => [(5, .bool y6), (6, .bool y7), (36, .bool y29)]) (fun y29 => (.blk b3 (enc a1) 23) :: (.blk b1 (enc a0) 23) :: L) (fun _ y29 => y29 = o28) ?_ ?_
    · rcases (Bool.eq_false_or_eq_true y6).symm with hb30 | hb30
      · replace H := ite_f hb30 H
        refine Lst.skip rfl rfl rfl hb30 rfl (by decide) ?_
        refine Lst.run rfl rfl (by decide) (Ev.pickF rfl hb30 rfl) ?_
        refine Lst.nil ?_
        exact At.meet false (FLe.refl _) ⟨rfl, rfl, rfl, trivial⟩ rfl (some_inj H)
      replace H := ite_t hb30 H
      refine Lst.runG rfl rfl rfl hb30 rfl (by decide) (Ev.move rfl) ?_
      refine Lst.run rfl rfl (by decide) (Ev.pickT rfl hb30 rfl) ?_
      refine Lst.nil ?_
      exact At.meet y7 (FLe.refl _) ⟨rfl, rfl, rfl, trivial⟩ rfl (some_inj H)
    rintro F31 y29 hF32 hy
    subst hy
    refine Lst.as (e' := [(5, .bool y6), (6, .bool y7), (36, .bool y29)]) (L' := (.blk b3 (enc a1) 23) :: (.blk b1 (enc a0) 23) :: L) ⟨rfl, rfl, rfl, trivial⟩ rfl ?_
    replace H := HKo28
    refine Lst.run rfl rfl (by decide) (Ev.assign rfl) ?_
    refine Lst.nil ?_
    refine At.then ?_
    rcases Bool.eq_false_or_eq_true y29 with hb33 | hb33
    · replace H := ite_t hb33 H
      refine Cd.condT rfl hb33 ?_
      refine Cd.seq ?_
      refine Cd.region ?_
      refine Lst.run rfl rfl (by decide) (Ev.assign rfl) ?_
      refine Lst.nil ?_
      refine At.then ?_
      obtain rfl := some_inj H
      refine Cd.ret ?_
      refine At.in_ret ?_
      refine At.then_ret ?_
      exact At.ret1 rfl (Res.tmp rfl) (FLe.trans hF9 hF32) (List.Sublist.cons _ (List.Sublist.cons _ (List.Sublist.refl _))) ⟨rfl, rfl⟩
    replace H := ite_f hb33 H
    refine Cd.condF rfl hb33 ?_
    refine Cd.seq ?_
    refine Cd.region ?_
    refine Lst.run rfl rfl (by decide) (Ev.move rfl) ?_
    refine Lst.run rfl rfl (by decide) (Ev.assign rfl) ?_
    refine Lst.nil ?_
    refine At.then ?_
    rcases Bool.eq_false_or_eq_true y7 with hb34 | hb34
    · replace H := ite_t hb34 H
      refine Cd.condT rfl hb34 ?_
      refine Cd.seq ?_
      refine Cd.region ?_
      refine Lst.run rfl rfl (by decide) (Ev.assign rfl) ?_
      refine Lst.nil ?_
      refine At.then ?_
      obtain rfl := some_inj H
      refine Cd.ret ?_
      refine At.in_ret ?_
      refine At.then_ret ?_
      exact At.ret1 rfl (Res.tmp rfl) (FLe.trans hF9 hF32) (List.Sublist.cons _ (List.Sublist.cons _ (List.Sublist.refl _))) ⟨rfl, rfl⟩
    replace H := ite_f hb34 H
    refine Cd.condF rfl hb34 ?_
    refine Cd.seq ?_
    refine Cd.region ?_
    refine Lst.run rfl rfl (by decide) (Ev.move rfl) ?_
    refine Lst.run rfl rfl (by decide) (Ev.assign rfl) ?_
    refine Lst.nil ?_
    refine At.then ?_
    rcases Bool.eq_false_or_eq_true y6 with hb35 | hb35
    · replace H := ite_t hb35 H
      refine Cd.condT rfl hb35 ?_
      refine Cd.seq ?_
      refine Cd.region ?_
      refine Lst.run rfl rfl (by decide) (Ev.assign rfl) ?_
      refine Lst.nil ?_
      refine At.then ?_
      obtain rfl := some_inj H
      refine Cd.ret ?_
      refine At.in_ret ?_
      refine At.then_ret ?_
      exact At.ret1 rfl (Res.tmp rfl) (FLe.trans hF9 hF32) (List.Sublist.cons _ (List.Sublist.cons _ (List.Sublist.refl _))) ⟨rfl, rfl⟩
    replace H := ite_f hb35 H
    refine Cd.condF rfl hb35 ?_
    refine Cd.skip ?_
    refine At.in_normal ?_
    refine At.then ?_
    refine Cd.seq ?_
    refine Cd.region ?_
    refine Lst.run rfl rfl (by decide) (Ev.assign rfl) ?_
    refine Lst.nil ?_
    refine At.then ?_
    obtain rfl := some_inj H
    refine Cd.ret ?_
    exact At.ret1 rfl (Res.tmp rfl) (FLe.trans hF9 hF32) (List.Sublist.cons _ (List.Sublist.cons _ (List.Sublist.refl _))) ⟨rfl, rfl⟩
  have hc5 : decide ((i5 : Int) < (6 : Int)) = true := decide_eq_true (by omega)
  obtain ⟨c5, H, hgo5⟩ := rangeF_go H
  unfold partref_Compare_B0 at H
  try dsimp only at H
  refine Cd.seq ?_
  refine Cd.region ?_
  refine Lst.run rfl rfl (by decide) (Ev.lss rfl rfl) ?_
  refine Lst.nil ?_
  refine At.then ?_
  refine Cd.seq ?_
  refine Cd.condT rfl hc5 ?_
  refine Cd.skip ?_
  refine At.then ?_
  refine Cd.seq ?_
  refine Cd.block ?_
  refine Cd.seq ?_
  refine Cd.region ?_
  refine Lst.run rfl rfl (by decide) (Ev.move rfl) ?_
  refine Lst.run rfl rfl (by decide) (Ev.assign rfl) ?_
  refine Lst.nil ?_
  refine At.then ?_
  refine Cd.seq ?_
  refine Cd.quiet (by kernel_rfl) (by kernel_rfl) ?_
  refine Qt.run rfl rfl (by decide) (Ev.move rfl) ?_
  refine Qt.run rfl rfl (by decide) (Ev.move rfl) ?_
  obtain ⟨o10, H, HKo10⟩ := bind_some H
  refine Qt.join (σ := Bool) 8 (fun y11 => [(2, .pointer (some ⟨b1, 0, none⟩)), (3, .pointer (some ⟨b3, 0, none⟩)), (5, .bool y6), (6, .bool y7), (7, .int .i64 (i5 : Int)), (8, .int .i64 (i5 : Int)), (20, .bool y11)]) (fun y11 => y11 = o10) ?_ ?_
  · rcases Bool.eq_false_or_eq_true y6 with hb12 | hb12
    · replace H := ite_t hb12 H
      refine Qt.skip rfl rfl rfl hb12 rfl (by decide) ?_
      refine Qt.skip rfl rfl rfl hb12 rfl (by decide) ?_
      refine Qt.skip rfl rfl rfl hb12 rfl (by decide) ?_
      refine Qt.skip rfl rfl rfl hb12 rfl (by decide) ?_
      refine Qt.skip rfl rfl rfl hb12 rfl (by decide) ?_
      refine Qt.skip rfl rfl rfl hb12 rfl (by decide) ?_
      refine Qt.skip rfl rfl rfl hb12 rfl (by decide) ?_
      refine Qt.run rfl rfl (by decide) (Ev.pickT rfl hb12 rfl) ?_
      exact Qt.meet true ⟨rfl, rfl, rfl, rfl, rfl, rfl, rfl, trivial⟩ (some_inj H)
    replace H := ite_f hb12 H
    refine Qt.runG rfl rfl rfl hb12 rfl (by decide) (Ev.move rfl) ?_
    obtain ⟨x13, h14, H⟩ := bind_some H
    have g15 := vat_some h14
    refine Qt.runG rfl rfl rfl hb12 rfl (by decide) (Ev.indexAddr (off' := 0 + (i5 : Int).toNat * 1) rfl rfl Try.runUnderlying23 Try.sizeOf3 g15.1 g15.2.1 rfl) ?_
    refine Qt.runG rfl rfl rfl hb12 rfl (by decide) (Ev.load (i := 1) rfl rfl Try.isAgg3 (v := .int .i64 x13) ((Get.vecN (s := 1) rfl g15.2.2 (Get.here _)).off (by omega))) ?_
    refine Qt.runG rfl rfl rfl hb12 rfl (by decide) (Ev.move rfl) ?_
    obtain ⟨x16, h17, H⟩ := bind_some H
    have g18 := vat_some h17
    refine Qt.runG rfl rfl rfl hb12 rfl (by decide) (Ev.indexAddr (off' := 0 + (i5 : Int).toNat * 1) rfl rfl Try.runUnderlying23 Try.sizeOf3 g18.1 g18.2.1 rfl) ?_
    refine Qt.runG rfl rfl rfl hb12 rfl (by decide) (Ev.load (i := 0) rfl rfl Try.isAgg3 (v := .int .i64 x16) ((Get.vecN (s := 1) rfl g18.2.2 (Get.here _)).off (by omega))) ?_
    refine Qt.runG rfl rfl rfl hb12 rfl (by decide) (Ev.lss rfl rfl) ?_
    refine Qt.run rfl rfl (by decide) (Ev.pickF rfl hb12 rfl) ?_
    exact Qt.meet (decide (x13 < x16)) ⟨rfl, rfl, rfl, rfl, rfl, rfl, rfl, trivial⟩ (some_inj H)
  rintro y11 hy
  subst hy
  refine Qt.as (e' := [(2, .pointer (some ⟨b1, 0, none⟩)), (3, .pointer (some ⟨b3, 0, none⟩)), (5, .bool y6), (6, .bool y7), (7, .int .i64 (i5 : Int)), (8, .int .i64 (i5 : Int)), (20, .bool y11)]) ⟨rfl, rfl, rfl, rfl, rfl, rfl, rfl, trivial⟩ ?_
  replace H := HKo10
  refine Qt.run rfl rfl (by decide) (Ev.assign rfl) ?_
  refine Qt.done ?_
  refine At.then ?_
  refine Cd.quiet (by kernel_rfl) (by kernel_rfl) ?_
  refine Qt.run rfl rfl (by decide) (Ev.move rfl) ?_
  refine Qt.run rfl rfl (by decide) (Ev.move rfl) ?_
  obtain ⟨o19, H, HKo19⟩ := bind_some H
  refine Qt.join (σ := Bool) 8 (fun y20 => [(2, .pointer (some ⟨b1, 0, none⟩)), (3, .pointer (some ⟨b3, 0, none⟩)), (5, .bool y11), (6, .bool y7), (8, .int .i64 (i5 : Int)), (30, .bool y20)]) (fun y20 => y20 = o19) ?_ ?_
  · rcases Bool.eq_false_or_eq_true y7 with hb21 | hb21
    · replace H := ite_t hb21 H
      refine Qt.skip rfl rfl rfl hb21 rfl (by decide) ?_
      refine Qt.skip rfl rfl rfl hb21 rfl (by decide) ?_
      refine Qt.skip rfl rfl rfl hb21 rfl (by decide) ?_
      refine Qt.skip rfl rfl rfl hb21 rfl (by decide) ?_
      refine Qt.skip rfl rfl rfl hb21 rfl (by decide) ?_
      refine Qt.skip rfl rfl rfl hb21 rfl (by decide) ?_
      refine Qt.skip rfl rfl rfl hb21 rfl (by decide) ?_
      refine Qt.run rfl rfl (by decide) (Ev.pickT rfl hb21 rfl) ?_
      exact Qt.meet true ⟨rfl, rfl, rfl, rfl, rfl, rfl, trivial⟩ (some_inj H)
    replace H := ite_f hb21 H
    refine Qt.runG rfl rfl rfl hb21 rfl (by decide) (Ev.move rfl) ?_
    obtain ⟨x22, h23, H⟩ := bind_some H
    have g24 := vat_some h23
    refine Qt.runG rfl rfl rfl hb21 rfl (by decide) (Ev.indexAddr (off' := 0 + (i5 : Int).toNat * 1) rfl rfl Try.runUnderlying23 Try.sizeOf3 g24.1 g24.2.1 rfl) ?_
    refine Qt.runG rfl rfl rfl hb21 rfl (by decide) (Ev.load (i := 1) rfl rfl Try.isAgg3 (v := .int .i64 x22) ((Get.vecN (s := 1) rfl g24.2.2 (Get.here _)).off (by omega))) ?_
    refine Qt.runG rfl rfl rfl hb21 rfl (by decide) (Ev.move rfl) ?_
    obtain ⟨x25, h26, H⟩ := bind_some H
    have g27 := vat_some h26
    refine Qt.runG rfl rfl rfl hb21 rfl (by decide) (Ev.indexAddr (off' := 0 + (i5 : Int).toNat * 1) rfl rfl Try.runUnderlying23 Try.sizeOf3 g27.1 g27.2.1 rfl) ?_
    refine Qt.runG rfl rfl rfl hb21 rfl (by decide) (Ev.load (i := 0) rfl rfl Try.isAgg3 (v := .int .i64 x25) ((Get.vecN (s := 1) rfl g27.2.2 (Get.here _)).off (by omega))) ?_
    refine Qt.runG rfl rfl rfl hb21 rfl (by decide) (Ev.gtr rfl rfl) ?_
    refine Qt.run rfl rfl (by decide) (Ev.pickF rfl hb21 rfl) ?_
    exact Qt.meet (decide (x22 > x25)) ⟨rfl, rfl, rfl, rfl, rfl, rfl, trivial⟩ (some_inj H)
  rintro y20 hy
  subst hy
  refine Qt.as (e' := [(2, .pointer (some ⟨b1, 0, none⟩)), (3, .pointer (some ⟨b3, 0, none⟩)), (5, .bool y11), (6, .bool y7), (8, .int .i64 (i5 : Int)), (30, .bool y20)]) ⟨rfl, rfl, rfl, rfl, rfl, rfl, trivial⟩ ?_
  replace H := HKo19
  refine Qt.run rfl rfl (by decide) (Ev.assign rfl) ?_
  refine Qt.done ?_
  refine At.in_normal ?_
  refine At.then ?_
  refine Cd.region ?_
  refine Lst.run rfl rfl (by decide) (Ev.incr (by omega) rfl rfl) ?_
  refine Lst.run rfl rfl (by decide) (Ev.move rfl) ?_
  refine Lst.nil ?_
  exact At.meet (i5 + 1, k5, y11, y20) hF9 ⟨rfl, rfl, rfl, rfl, rfl, trivial⟩ rfl ⟨⟨hgo5 _ (some_inj H).symm, by omega⟩, Nat.lt_succ_self _⟩
set_option maxRecDepth 20000 in
theorem stamp_in_sim {a0 : Int} {a1 : Int} {a2 : Int} {r : Bool} (H : stamp_in a0 a1 a2 = some r) (w0 : World) (F : Frz) (M L : List Item) (hM : M.Sublist L) : Ok Try.prog w0 69 [.int .i64 a0, .int .i64 a1, .int .i64 a2] F (L) (Is (.bool r) (L)) := by
  unfold stamp_in at H
  refine Ok.enter (m := 3) (n := 15) Try.func69 rfl rfl rfl (by decide) ?_
  refine Cd.env (e' := [(0, .int .i64 a0), (1, .int .i64 a1), (2, .int .i64 a2)]) rfl ?_
  refine Cd.seq ?_
  refine Cd.region ?_
  refine Lst.run rfl rfl (by decide) (Ev.assign rfl) ?_
  refine Lst.nil ?_
  refine At.then ?_
  refine Cd.seq ?_
  refine Cd.region ?_
  refine Lst.run rfl rfl (by decide) (Ev.move rfl) ?_
  refine Lst.run rfl rfl (by decide) (Ev.move rfl) ?_
  refine Lst.run rfl rfl (by decide) (Ev.geq rfl rfl) ?_
  refine Lst.run rfl rfl (by decide) (Ev.move rfl) ?_
  obtain ⟨o1, H, HKo1⟩ := bind_some H
  refine Lst.join (σ := Bool) 4 (fun y2 => [(14, .bool y2)]) (fun y2 => L) (fun _ y2 => y2 = o1) ?_ ?_
  · rcases (Bool.eq_false_or_eq_true (decide (a0 ≥ a1))).symm with hb3 | hb3
    · replace H := ite_f hb3 H
      refine Lst.skip rfl rfl rfl hb3 rfl (by decide) ?_
      refine Lst.skip rfl rfl rfl hb3 rfl (by decide) ?_
      refine Lst.skip rfl rfl rfl hb3 rfl (by decide) ?_
      refine Lst.run rfl rfl (by decide) (Ev.pickF rfl hb3 rfl) ?_
      refine Lst.nil ?_
      exact At.meet false (FLe.refl _) ⟨rfl, trivial⟩ rfl (some_inj H)
    replace H := ite_t hb3 H
    refine Lst.runG rfl rfl rfl hb3 rfl (by decide) (Ev.move rfl) ?_
    refine Lst.runG rfl rfl rfl hb3 rfl (by decide) (Ev.move rfl) ?_
    refine Lst.runG rfl rfl rfl hb3 rfl (by decide) (Ev.leq rfl rfl) ?_
    refine Lst.run rfl rfl (by decide) (Ev.pickT rfl hb3 rfl) ?_
    refine Lst.nil ?_
    exact At.meet (decide (a0 ≤ a2)) (FLe.refl _) ⟨rfl, trivial⟩ rfl (some_inj H)
  rintro F4 y2 hF5 hy
  subst hy
  refine Lst.as (e' := [(14, .bool y2)]) (L' := L) ⟨rfl, trivial⟩ rfl ?_
  replace H := HKo1
  refine Lst.run rfl rfl (by decide) (Ev.assign rfl) ?_
  refine Lst.nil ?_
  refine At.then ?_
  obtain rfl := some_inj H
  refine Cd.ret ?_
  exact At.ret1 rfl (Res.tmp rfl) hF5 (List.Sublist.refl _) ⟨rfl, rfl⟩
set_option maxRecDepth 20000 in
theorem stamp_checker_event_sim {a0 : Checker} {a1 : Event} {b_a0 : Nat} {r : Checker × Int} (H : stamp_checker_event a0 a1 = some r) (w0 : World) (F : Frz) (M L : List Item) (hM : M.Sublist L) : Ok Try.prog w0 51 [.pointer (some ⟨b_a0, 0, none⟩), .agg (enc a1).toArray] F ((.blk b_a0 (enc a0) 84) :: L) (fun _ L' v => v = .int .i64 r.2 ∧ L' = (.blk b_a0 (enc r.1) 84) :: L) := by
  unfold stamp_checker_event at H
  refine Ok.enter (m := 2) (n := 85) Try.func51 rfl rfl rfl (by decide) ?_
  refine Cd.env (e' := [(0, .pointer (some ⟨b_a0, 0, none⟩)), (1, .agg (enc a1).toArray)]) rfl ?_
  refine Cd.seq ?_
  refine Cd.region ?_
  refine Lst.box rfl rfl (by decide) rfl (cs := enc a1) rfl (fun b2 => ?_)
  refine Lst.run rfl rfl (by decide) (Ev.assign rfl) ?_
  refine Lst.nil ?_
  refine At.then ?_
  refine Cd.seq ?_
  refine Cd.seq ?_
  refine Cd.region ?_
  refine Lst.run rfl rfl (by decide) (Ev.fieldAddr (off' := 0) rfl Try.runUnderlying75 rfl Try.sizeOf3 rfl rfl) ?_
  refine Lst.run rfl rfl (by decide) (Ev.load (i := 0) rfl rfl Try.isAgg3 (v := .int .i64 a1.Proc) ((Event.get_Proc (Get.here _)).off (by rfl))) ?_
  obtain ⟨r4, h5, H⟩ := bind_some H
  refine Lst.call1 rfl rfl (by decide) (vs := [.int .i64 a1.Proc, .int .i64 (0 : Int), .int .i64 (5 : Int)]) ⟨rfl, rfl, rfl, trivial⟩ Try.call69 (stamp_in_sim h5 w0 _ M _ (List.Sublist.cons _ (List.Sublist.cons _ hM))) ?_
  refine Lst.run rfl rfl (by decide) (Ev.not rfl) ?_
  refine Lst.run rfl rfl (by decide) (Ev.move rfl) ?_
  obtain ⟨o8, H, HKo8⟩ := bind_some H
  refine Lst.join (σ := Bool) 5 (fun y9 => [(0, .pointer (some ⟨b_a0, 0, none⟩)), (3, .pointer (some ⟨b2, 0, none⟩)), (14, .bool y9)]) (fun y9 => (.blk b2 (enc a1) 75) :: (.blk b_a0 (enc a0) 84) :: L) (fun _ y9 => y9 = o8) ?_ ?_
  · rcases Bool.eq_false_or_eq_true (!r4) with hb10 | hb10
    · replace H := ite_t hb10 H
      refine Lst.skip rfl rfl rfl hb10 rfl (by decide) ?_
      refine Lst.skip rfl rfl rfl hb10 rfl (by decide) ?_
      refine Lst.skip rfl rfl rfl hb10 rfl (by decide) ?_
      refine Lst.skip rfl rfl rfl hb10 rfl (by decide) ?_
      refine Lst.run rfl rfl (by decide) (Ev.pickT rfl hb10 rfl) ?_
      refine Lst.nil ?_
      exact At.meet true (FLe.refl _) ⟨rfl, rfl, rfl, trivial⟩ rfl (some_inj H)
    replace H := ite_f hb10 H
    refine Lst.runG rfl rfl rfl hb10 rfl (by decide) (Ev.fieldAddr (off' := 2) rfl Try.runUnderlying75 rfl Try.sizeOf3 rfl rfl) ?_
    refine Lst.runG rfl rfl rfl hb10 rfl (by decide) (Ev.load (i := 0) rfl rfl Try.isAgg3 (v := .int .i64 a1.Msg) ((Event.get_Msg (Get.here _)).off (by rfl))) ?_
    obtain ⟨r11, h12, H⟩ := bind_some H
    refine Lst.call1G rfl rfl rfl hb10 rfl (by decide) (vs := [.int .i64 a1.Msg, .int .i64 (0 : Int), .int .i64 (29 : Int)]) ⟨rfl, rfl, rfl, trivial⟩ Try.call69 (stamp_in_sim h12 w0 _ M _ (List.Sublist.cons _ (List.Sublist.cons _ hM))) ?_
    refine Lst.runG rfl rfl rfl hb10 rfl (by decide) (Ev.not rfl) ?_
    refine Lst.run rfl rfl (by decide) (Ev.pickF rfl hb10 rfl) ?_
    refine Lst.nil ?_
    exact At.meet (!r11) (FLe.refl _) ⟨rfl, rfl, rfl, trivial⟩ rfl (some_inj H)
  rintro F15 y9 hF16 hy
  subst hy
  refine Lst.as (e' := [(0, .pointer (some ⟨b_a0, 0, none⟩)), (3, .pointer (some ⟨b2, 0, none⟩)), (14, .bool y9)]) (L' := (.blk b2 (enc a1) 75) :: (.blk b_a0 (enc a0) 84) :: L) ⟨rfl, rfl, rfl, trivial⟩ rfl ?_
  replace H := HKo8
  refine Lst.nil ?_
  refine At.then ?_
  rcases Bool.eq_false_or_eq_true y9 with hb17 | hb17
  · replace H := ite_t hb17 H
    refine Cd.condT rfl hb17 ?_
    refine Cd.seq ?_
    refine Cd.region ?_
    refine Lst.run rfl rfl (by decide) (Ev.assign rfl) ?_
    refine Lst.nil ?_
    refine At.then ?_
    obtain rfl := some_inj H
    refine Cd.ret ?_
    refine At.then_ret ?_
    exact At.ret1 rfl (Res.tmp rfl) hF16 (List.Sublist.cons _ (List.Sublist.cons_cons _ (List.Sublist.refl _))) ⟨rfl, rfl⟩
  replace H := ite_f hb17 H
  refine Cd.condF rfl hb17 ?_
  refine Cd.skip ?_
  refine At.then ?_
  obtain ⟨o19, H, HKo19⟩ := andThen_some H
  refine Cd.join (σ := Checker) (fun y18 => []) (fun y18 => (.blk b2 (enc a1) 75) :: (.blk b_a0 (enc y18) 84) :: L) (fun _ y18 => .inl y18 = o19) ?_ ?_
  · refine Cd.seq ?_
    refine Cd.region ?_
    refine Lst.run rfl rfl (by decide) (Ev.fieldAddr (off' := 1) rfl Try.runUnderlying75 rfl Try.sizeOf3 rfl rfl) ?_
    refine Lst.run rfl rfl (by decide) (Ev.load (i := 0) rfl rfl Try.isAgg3 (v := .int .i64 a1.Kind) ((Event.get_Kind (Get.here _)).off (by rfl))) ?_
    refine Lst.nil ?_
    refine At.then ?_
    refine Cd.block ?_
    refine Cd.seq ?_
    refine Cd.region ?_
    refine Lst.run rfl rfl (by decide) (Ev.eql rfl rfl) ?_
    refine Lst.run rfl rfl (by decide) (Ev.assign rfl) ?_
    refine Lst.nil ?_
    refine At.then ?_
    rcases Bool.eq_false_or_eq_true (a1.Kind == (1 : Int)) with hb20 | hb20
    · replace H := ite_t hb20 H
      refine Cd.condT rfl hb20 ?_
      refine Cd.seq ?_
      refine Cd.region ?_
      refine Lst.run rfl rfl (by decide) (Ev.fieldAddr (off' := 2) rfl Try.runUnderlying75 rfl Try.sizeOf3 rfl rfl) ?_
      refine Lst.run rfl rfl (by decide) (Ev.load (i := 0) rfl rfl Try.isAgg3 (v := .int .i64 a1.Msg) ((Event.get_Msg (Get.here _)).off (by rfl))) ?_
      refine Lst.run rfl rfl (by decide) (Ev.neq rfl rfl) ?_
      refine Lst.nil ?_
      refine At.then ?_
      rcases Bool.eq_false_or_eq_true (a1.Msg != (0 : Int)) with hb21 | hb21
      · replace H := ite_t hb21 H
        refine Cd.condT rfl hb21 ?_
        refine Cd.seq ?_
        refine Cd.region ?_
        refine Lst.run rfl rfl (by decide) (Ev.assign rfl) ?_
        refine Lst.nil ?_
        refine At.then ?_
        obtain rfl := some_inj H
        replace H := HKo19
        obtain rfl := some_inj H
        refine Cd.ret ?_
        refine At.in_ret ?_
        refine At.then_ret ?_
        exact At.ret1 rfl (Res.tmp rfl) hF16 (List.Sublist.cons _ (List.Sublist.cons_cons _ (List.Sublist.refl _))) ⟨rfl, rfl⟩
      replace H := ite_f hb21 H
      refine Cd.condF rfl hb21 ?_
      refine Cd.skip ?_
      refine At.in_normal ?_
      exact At.meet a0 (FLe.refl _) trivial rfl (some_inj H)
    replace H := ite_f hb20 H
    refine Cd.condF rfl hb20 ?_
    refine Cd.seq ?_
    refine Cd.region ?_
    refine Lst.run rfl rfl (by decide) (Ev.eql rfl rfl) ?_
    refine Lst.run rfl rfl (by decide) (Ev.assign rfl) ?_
    refine Lst.nil ?_
    refine At.then ?_
    rcases Bool.eq_false_or_eq_true (a1.Kind == (2 : Int)) with hb22 | hb22
    · replace H := ite_t hb22 H
      refine Cd.condT rfl hb22 ?_
      refine Cd.seq ?_
      refine Cd.seq ?_
      refine Cd.quiet (by kernel_rfl) (by kernel_rfl) ?_
      refine Qt.run rfl rfl (by decide) (Ev.move rfl) ?_
      refine Qt.run rfl rfl (by decide) (Ev.fieldAddr (off' := 2) rfl Try.runUnderlying75 rfl Try.sizeOf3 rfl rfl) ?_
      refine Qt.run rfl rfl (by decide) (Ev.load (i := 0) rfl rfl Try.isAgg3 (v := .int .i64 a1.Msg) ((Event.get_Msg (Get.here _)).off (by rfl))) ?_
      refine Qt.run rfl rfl (by decide) (Ev.nilCheck rfl) ?_
      refine Qt.run rfl rfl (by decide) (Ev.fieldAddr (off' := 0) rfl Try.runUnderlying84 rfl Try.sizeOf76 rfl rfl) ?_
      obtain ⟨x23, h24, H⟩ := bind_some H
      have g25 := vat_some h24
      refine Qt.run rfl rfl (by decide) (Ev.indexAddr (off' := 0 + a1.Msg.toNat * 1) rfl rfl Try.runUnderlying76 Try.sizeOf3 g25.1 g25.2.1 rfl) ?_
      refine Qt.run rfl rfl (by decide) (Ev.load (i := 1) rfl rfl Try.isAgg3 (v := .int .i64 x23) ((Checker.get_sender (Get.vecN (s := 1) rfl g25.2.2 (Get.here _))).off (by omega))) ?_
      refine Qt.run rfl rfl (by decide) (Ev.gtr rfl rfl) ?_
      refine Qt.done ?_
      refine At.then ?_
      rcases Bool.eq_false_or_eq_true (decide (x23 > (0 : Int))) with hb26 | hb26
      · replace H := ite_t hb26 H
        refine Cd.condT rfl hb26 ?_
        refine Cd.seq ?_
        refine Cd.as (e' := []) (L' := (.blk b2 (enc a1) 75) :: (.blk b_a0 (enc a0) 84) :: L) trivial rfl ?_
        refine Cd.region ?_
        refine Lst.run rfl rfl (by decide) (Ev.assign rfl) ?_
        refine Lst.nil ?_
        refine At.then ?_
        obtain rfl := some_inj H
        replace H := HKo19
        obtain rfl := some_inj H
        refine Cd.ret ?_
        refine At.then_ret ?_
        refine At.in_ret ?_
        refine At.then_ret ?_
        exact At.ret1 rfl (Res.tmp rfl) hF16 (List.Sublist.cons _ (List.Sublist.cons_cons _ (List.Sublist.refl _))) ⟨rfl, rfl⟩
      replace H := ite_f hb26 H
      refine Cd.condF rfl hb26 ?_
      refine Cd.skip ?_
      refine At.then ?_
      refine Cd.as (e' := [(0, .pointer (some ⟨b_a0, 0, none⟩)), (3, .pointer (some ⟨b2, 0, none⟩))]) (L' := (.blk b2 (enc a1) 75) :: (.blk b_a0 (enc a0) 84) :: L) ⟨rfl, rfl, trivial⟩ rfl ?_
      refine Cd.tail 9 (by kernel_rfl) (by kernel_rfl) ?_
      refine Qt.run rfl rfl (by decide) (Ev.move rfl) ?_
      refine Qt.run rfl rfl (by decide) (Ev.fieldAddr (off' := 2) rfl Try.runUnderlying75 rfl Try.sizeOf3 rfl rfl) ?_
      refine Qt.run rfl rfl (by decide) (Ev.load (i := 0) rfl rfl Try.isAgg3 (v := .int .i64 a1.Msg) ((Event.get_Msg (Get.here _)).off (by rfl))) ?_
      refine Qt.run rfl rfl (by decide) (Ev.fieldAddr (off' := 0) rfl Try.runUnderlying75 rfl Try.sizeOf3 rfl rfl) ?_
      refine Qt.run rfl rfl (by decide) (Ev.load (i := 0) rfl rfl Try.isAgg3 (v := .int .i64 a1.Proc) ((Event.get_Proc (Get.here _)).off (by rfl))) ?_
      refine Qt.run rfl rfl (by decide) (Ev.add rfl rfl) ?_
      refine Qt.run rfl rfl (by decide) (Ev.nilCheck rfl) ?_
      refine Qt.run rfl rfl (by decide) (Ev.fieldAddr (off' := 0) rfl Try.runUnderlying84 rfl Try.sizeOf76 rfl rfl) ?_
      obtain ⟨x27, h28, H⟩ := bind_some H
      have g29 := vat_some h28
      refine Qt.run rfl rfl (by decide) (Ev.indexAddr (off' := 0 + a1.Msg.toNat * 1) rfl rfl Try.runUnderlying76 Try.sizeOf3 g29.1 g29.2.1 rfl) ?_
      refine Qt.tail ?_
      obtain ⟨p30, h31, H⟩ := Let_some H
      refine Lst.store (i := 1) rfl rfl rfl rfl rfl Try.sizeOf3 (vs := [.int .i64 (w64 (a1.Proc + (1 : Int)))]) rfl rfl rfl (cs' := enc p30) (by rw [← h31]; exact (Checker.put_sender (Put.vecN (s := 1) rfl g29.2.2 (Put.here (vs := [.int .i64 (w64 (a1.Proc + (1 : Int)))]) rfl))).off (by omega)) (L' := (.blk b2 (enc a1) 75) :: (.blk b_a0 (enc p30) 84) :: L) rfl ?_
      refine Lst.nil ?_
      refine At.in_normal ?_
      exact At.meet p30 (FLe.refl _) trivial rfl (some_inj H)
    replace H := ite_f hb22 H
    refine Cd.condF rfl hb22 ?_
    refine Cd.seq ?_
    refine Cd.region ?_
    refine Lst.run rfl rfl (by decide) (Ev.eql rfl rfl) ?_
    refine Lst.run rfl rfl (by decide) (Ev.assign rfl) ?_
    refine Lst.nil ?_
    refine At.then ?_
    rcases (Bool.eq_false_or_eq_true (a1.Kind == (3 : Int))).symm with hb32 | hb32
    · replace H := ite_f hb32 H
      refine Cd.condF rfl hb32 ?_
      refine Cd.seq ?_
      refine Cd.region ?_
      refine Lst.run rfl rfl (by decide) (Ev.assign rfl) ?_
      refine Lst.nil ?_
      refine At.then ?_
      obtain rfl := some_inj H
      replace H := HKo19
      obtain rfl := some_inj H
      refine Cd.ret ?_
      refine At.in_ret ?_
      refine At.then_ret ?_
      exact At.ret1 rfl (Res.tmp rfl) hF16 (List.Sublist.cons _ (List.Sublist.cons_cons _ (List.Sublist.refl _))) ⟨rfl, rfl⟩
    replace H := ite_t hb32 H
    refine Cd.condT rfl hb32 ?_
    refine Cd.seq ?_
    refine Cd.seq ?_
    refine Cd.quiet (by kernel_rfl) (by kernel_rfl) ?_
    refine Qt.run rfl rfl (by decide) (Ev.move rfl) ?_
    refine Qt.run rfl rfl (by decide) (Ev.fieldAddr (off' := 2) rfl Try.runUnderlying75 rfl Try.sizeOf3 rfl rfl) ?_
    refine Qt.run rfl rfl (by decide) (Ev.load (i := 0) rfl rfl Try.isAgg3 (v := .int .i64 a1.Msg) ((Event.get_Msg (Get.here _)).off (by rfl))) ?_
    refine Qt.run rfl rfl (by decide) (Ev.nilCheck rfl) ?_
    refine Qt.run rfl rfl (by decide) (Ev.fieldAddr (off' := 0) rfl Try.runUnderlying84 rfl Try.sizeOf76 rfl rfl) ?_
    obtain ⟨x33, h34, H⟩ := bind_some H
    have g35 := vat_some h34
    refine Qt.run rfl rfl (by decide) (Ev.indexAddr (off' := 0 + a1.Msg.toNat * 1) rfl rfl Try.runUnderlying76 Try.sizeOf3 g35.1 g35.2.1 rfl) ?_
    refine Qt.run rfl rfl (by decide) (Ev.load (i := 1) rfl rfl Try.isAgg3 (v := .int .i64 x33) ((Checker.get_sender (Get.vecN (s := 1) rfl g35.2.2 (Get.here _))).off (by omega))) ?_
    refine Qt.run rfl rfl (by decide) (Ev.eql rfl rfl) ?_
    refine Qt.run rfl rfl (by decide) (Ev.move rfl) ?_
    obtain ⟨o36, H, HKo36⟩ := bind_some H
    refine Qt.join (σ := Bool) 12 (fun y37 => [(0, .pointer (some ⟨b_a0, 0, none⟩)), (3, .pointer (some ⟨b2, 0, none⟩)), (63, .bool y37)]) (fun y37 => y37 = o36) ?_ ?_
    · rcases Bool.eq_false_or_eq_true (x33 == (0 : Int)) with hb38 | hb38
      · replace H := ite_t hb38 H
        refine Qt.skip rfl rfl rfl hb38 rfl (by decide) ?_
        refine Qt.skip rfl rfl rfl hb38 rfl (by decide) ?_
        refine Qt.skip rfl rfl rfl hb38 rfl (by decide) ?_
        refine Qt.skip rfl rfl rfl hb38 rfl (by decide) ?_
        refine Qt.skip rfl rfl rfl hb38 rfl (by decide) ?_
        refine Qt.skip rfl rfl rfl hb38 rfl (by decide) ?_
        refine Qt.skip rfl rfl rfl hb38 rfl (by decide) ?_
        refine Qt.skip rfl rfl rfl hb38 rfl (by decide) ?_
        refine Qt.skip rfl rfl rfl hb38 rfl (by decide) ?_
        refine Qt.skip rfl rfl rfl hb38 rfl (by decide) ?_
        refine Qt.skip rfl rfl rfl hb38 rfl (by decide) ?_
        refine Qt.run rfl rfl (by decide) (Ev.pickT rfl hb38 rfl) ?_
        exact Qt.meet true ⟨rfl, rfl, rfl, trivial⟩ (some_inj H)
      replace H := ite_f hb38 H
      refine Qt.runG rfl rfl rfl hb38 rfl (by decide) (Ev.move rfl) ?_
      refine Qt.runG rfl rfl rfl hb38 rfl (by decide) (Ev.fieldAddr (off' := 2) rfl Try.runUnderlying75 rfl Try.sizeOf3 rfl rfl) ?_
      refine Qt.runG rfl rfl rfl hb38 rfl (by decide) (Ev.load (i := 0) rfl rfl Try.isAgg3 (v := .int .i64 a1.Msg) ((Event.get_Msg (Get.here _)).off (by rfl))) ?_
      refine Qt.runG rfl rfl rfl hb38 rfl (by decide) (Ev.nilCheck rfl) ?_
      refine Qt.runG rfl rfl rfl hb38 rfl (by decide) (Ev.fieldAddr (off' := 0) rfl Try.runUnderlying84 rfl Try.sizeOf76 rfl rfl) ?_
      obtain ⟨x39, h40, H⟩ := bind_some H
      have g41 := vat_some h40
      refine Qt.runG rfl rfl rfl hb38 rfl (by decide) (Ev.indexAddr (off' := 0 + a1.Msg.toNat * 1) rfl rfl Try.runUnderlying76 Try.sizeOf3 g41.1 g41.2.1 rfl) ?_
      refine Qt.runG rfl rfl rfl hb38 rfl (by decide) (Ev.load (i := 1) rfl rfl Try.isAgg3 (v := .int .i64 x39) ((Checker.get_sender (Get.vecN (s := 1) rfl g41.2.2 (Get.here _))).off (by omega))) ?_
      refine Qt.runG rfl rfl rfl hb38 rfl (by decide) (Ev.fieldAddr (off' := 0) rfl Try.runUnderlying75 rfl Try.sizeOf3 rfl rfl) ?_
      refine Qt.runG rfl rfl rfl hb38 rfl (by decide) (Ev.load (i := 0) rfl rfl Try.isAgg3 (v := .int .i64 a1.Proc) ((Event.get_Proc (Get.here _)).off (by rfl))) ?_
      refine Qt.runG rfl rfl rfl hb38 rfl (by decide) (Ev.add rfl rfl) ?_
      refine Qt.runG rfl rfl rfl hb38 rfl (by decide) (Ev.eql rfl rfl) ?_
      refine Qt.run rfl rfl (by decide) (Ev.pickF rfl hb38 rfl) ?_
      exact Qt.meet (x39 == (w64 (a1.Proc + (1 : Int)))) ⟨rfl, rfl, rfl, trivial⟩ (some_inj H)
    rintro y37 hy
    subst hy
    refine Qt.as (e' := [(0, .pointer (some ⟨b_a0, 0, none⟩)), (3, .pointer (some ⟨b2, 0, none⟩)), (63, .bool y37)]) ⟨rfl, rfl, rfl, trivial⟩ ?_
    replace H := HKo36
    refine Qt.run rfl rfl (by decide) (Ev.move rfl) ?_
    obtain ⟨o42, H, HKo42⟩ := bind_some H
    refine Qt.join (σ := Bool) 11 (fun y43 => [(0, .pointer (some ⟨b_a0, 0, none⟩)), (3, .pointer (some ⟨b2, 0, none⟩)), (75, .bool y43)]) (fun y43 => y43 = o42) ?_ ?_
    · rcases Bool.eq_false_or_eq_true y37 with hb44 | hb44
      · replace H := ite_t hb44 H
        refine Qt.skip rfl rfl rfl hb44 rfl (by decide) ?_
        refine Qt.skip rfl rfl rfl hb44 rfl (by decide) ?_
        refine Qt.skip rfl rfl rfl hb44 rfl (by decide) ?_
        refine Qt.skip rfl rfl rfl hb44 rfl (by decide) ?_
        refine Qt.skip rfl rfl rfl hb44 rfl (by decide) ?_
        refine Qt.skip rfl rfl rfl hb44 rfl (by decide) ?_
        refine Qt.skip rfl rfl rfl hb44 rfl (by decide) ?_
        refine Qt.skip rfl rfl rfl hb44 rfl (by decide) ?_
        refine Qt.skip rfl rfl rfl hb44 rfl (by decide) ?_
        refine Qt.skip rfl rfl rfl hb44 rfl (by decide) ?_
        refine Qt.run rfl rfl (by decide) (Ev.pickT rfl hb44 rfl) ?_
        exact Qt.meet true ⟨rfl, rfl, rfl, trivial⟩ (some_inj H)
      replace H := ite_f hb44 H
      refine Qt.runG rfl rfl rfl hb44 rfl (by decide) (Ev.move rfl) ?_
      refine Qt.runG rfl rfl rfl hb44 rfl (by decide) (Ev.fieldAddr (off' := 2) rfl Try.runUnderlying75 rfl Try.sizeOf3 rfl rfl) ?_
      refine Qt.runG rfl rfl rfl hb44 rfl (by decide) (Ev.load (i := 0) rfl rfl Try.isAgg3 (v := .int .i64 a1.Msg) ((Event.get_Msg (Get.here _)).off (by rfl))) ?_
      refine Qt.runG rfl rfl rfl hb44 rfl (by decide) (Ev.fieldAddr (off' := 0) rfl Try.runUnderlying75 rfl Try.sizeOf3 rfl rfl) ?_
      refine Qt.runG rfl rfl rfl hb44 rfl (by decide) (Ev.load (i := 0) rfl rfl Try.isAgg3 (v := .int .i64 a1.Proc) ((Event.get_Proc (Get.here _)).off (by rfl))) ?_
      refine Qt.runG rfl rfl rfl hb44 rfl (by decide) (Ev.nilCheck rfl) ?_
      refine Qt.runG rfl rfl rfl hb44 rfl (by decide) (Ev.fieldAddr (off' := 30) rfl Try.runUnderlying84 rfl Try.sizeOf82 rfl rfl) ?_
      obtain ⟨x45, h46, H⟩ := bind_some H
      have g47 := vat_some h46
      refine Qt.runG rfl rfl rfl hb44 rfl (by decide) (Ev.indexAddr (off' := 30 + a1.Msg.toNat * 6) rfl rfl Try.runUnderlying82 Try.sizeOf81 g47.1 g47.2.1 rfl) ?_
      obtain ⟨x48, h49, H⟩ := bind_some H
      have g50 := vat_some h49
      refine Qt.runG rfl rfl rfl hb44 rfl (by decide) (Ev.indexAddr (off' := 30 + a1.Msg.toNat * 6 + a1.Proc.toNat * 1) rfl rfl Try.runUnderlying81 Try.sizeOf4 g50.1 g50.2.1 rfl) ?_
      refine Qt.runG rfl rfl rfl hb44 rfl (by decide) (Ev.load (i := 1) rfl rfl Try.isAgg4 (v := .bool x48) ((Checker.get_taken (Get.vecN (s := 6) rfl g47.2.2 (Get.vecN (s := 1) rfl g50.2.2 (Get.here _)))).off (by omega))) ?_
      refine Qt.run rfl rfl (by decide) (Ev.pickF rfl hb44 rfl) ?_
      exact Qt.meet x48 ⟨rfl, rfl, rfl, trivial⟩ (some_inj H)
    rintro y43 hy
    subst hy
    refine Qt.as (e' := [(0, .pointer (some ⟨b_a0, 0, none⟩)), (3, .pointer (some ⟨b2, 0, none⟩)), (75, .bool y43)]) ⟨rfl, rfl, rfl, trivial⟩ ?_
    replace H := HKo42
    refine Qt.done ?_
    refine At.then ?_
    rcases Bool.eq_false_or_eq_true y43 with hb51 | hb51
    · replace H := ite_t hb51 H
      refine Cd.condT rfl hb51 ?_
      refine Cd.seq ?_
      refine Cd.region ?_
      refine Lst.run rfl rfl (by decide) (Ev.assign rfl) ?_
      refine Lst.nil ?_
      refine At.then ?_
      obtain rfl := some_inj H
      replace H := HKo19
      obtain rfl := some_inj H
      refine Cd.ret ?_
      refine At.then_ret ?_
      refine At.in_ret ?_
      refine At.then_ret ?_
      exact At.ret1 rfl (Res.tmp rfl) hF16 (List.Sublist.cons _ (List.Sublist.cons_cons _ (List.Sublist.refl _))) ⟨rfl, rfl⟩
    replace H := ite_f hb51 H
    refine Cd.condF rfl hb51 ?_
    refine Cd.skip ?_
    refine At.then ?_
    refine Cd.tail 9 (by kernel_rfl) (by kernel_rfl) ?_
    refine Qt.run rfl rfl (by decide) (Ev.move rfl) ?_
    refine Qt.run rfl rfl (by decide) (Ev.fieldAddr (off' := 2) rfl Try.runUnderlying75 rfl Try.sizeOf3 rfl rfl) ?_
    refine Qt.run rfl rfl (by decide) (Ev.load (i := 0) rfl rfl Try.isAgg3 (v := .int .i64 a1.Msg) ((Event.get_Msg (Get.here _)).off (by rfl))) ?_
    refine Qt.run rfl rfl (by decide) (Ev.fieldAddr (off' := 0) rfl Try.runUnderlying75 rfl Try.sizeOf3 rfl rfl) ?_
    refine Qt.run rfl rfl (by decide) (Ev.load (i := 0) rfl rfl Try.isAgg3 (v := .int .i64 a1.Proc) ((Event.get_Proc (Get.here _)).off (by rfl))) ?_
    refine Qt.run rfl rfl (by decide) (Ev.nilCheck rfl) ?_
    refine Qt.run rfl rfl (by decide) (Ev.fieldAddr (off' := 30) rfl Try.runUnderlying84 rfl Try.sizeOf82 rfl rfl) ?_
    obtain ⟨x52, h53, H⟩ := bind_some H
    have g54 := vat_some h53
    refine Qt.run rfl rfl (by decide) (Ev.indexAddr (off' := 30 + a1.Msg.toNat * 6) rfl rfl Try.runUnderlying82 Try.sizeOf81 g54.1 g54.2.1 rfl) ?_
    obtain ⟨x55, h56, H⟩ := bind_some H
    have g57 := vat_some h56
    refine Qt.run rfl rfl (by decide) (Ev.indexAddr (off' := 30 + a1.Msg.toNat * 6 + a1.Proc.toNat * 1) rfl rfl Try.runUnderlying81 Try.sizeOf4 g57.1 g57.2.1 rfl) ?_
    refine Qt.tail ?_
    obtain ⟨p58, h59, H⟩ := Let_some H
    refine Lst.store (i := 1) rfl rfl rfl rfl rfl Try.sizeOf4 (vs := [.bool true]) rfl rfl rfl (cs' := enc p58) (by rw [← h59]; exact (Checker.put_taken (Put.vecN (s := 6) rfl g54.2.2 (Put.vecN (s := 1) rfl g57.2.2 (Put.here (vs := [.bool true]) rfl)))).off (by omega)) (L' := (.blk b2 (enc a1) 75) :: (.blk b_a0 (enc p58) 84) :: L) rfl ?_
    refine Lst.nil ?_
    refine At.in_normal ?_
    exact At.meet p58 (FLe.refl _) trivial rfl (some_inj H)
  rintro F60 y18 hF61 hy
  subst hy
  refine Cd.as (e' := []) (L' := (.blk b2 (enc a1) 75) :: (.blk b_a0 (enc y18) 84) :: L) trivial rfl ?_
  replace H := HKo19
  refine Cd.seq ?_
  refine Cd.region ?_
  refine Lst.run rfl rfl (by decide) (Ev.assign rfl) ?_
  refine Lst.nil ?_
  refine At.then ?_
  obtain rfl := some_inj H
  refine Cd.ret ?_
  exact At.ret1 rfl (Res.tmp rfl) (FLe.trans hF16 hF61) (List.Sublist.cons _ (List.Sublist.cons_cons _ (List.Sublist.refl _))) ⟨rfl, rfl⟩
set_option maxRecDepth 20000 in
theorem stamp_Check_sim {a0 : List Event} {s_a0 : Sl} {r : Int} (H : stamp_Check a0 = some r) (w0 : World) (F : Frz) (M L : List Item) (hM : M.Sublist L) (hs_a0 : Rd w0 F M s_a0 a0) : Ok Try.prog w0 22 [Sl.v s_a0] F (L) (Is (.int .i64 r) (L)) := by
  unfold stamp_Check at H
  refine Ok.enter (m := 1) (n := 25) Try.func22 rfl rfl rfl (by decide) ?_
  refine Cd.env (e' := [(0, Sl.v s_a0)]) rfl ?_
  refine Cd.seq ?_
  refine Cd.region ?_
  refine Lst.run rfl rfl (by decide) (Ev.assign rfl) ?_
  refine Lst.nil ?_
  refine At.then ?_
  refine Cd.seq ?_
  refine Cd.seq ?_
  refine Cd.region ?_
  refine Lst.run rfl rfl (by decide) (Ev.move rfl) ?_
  refine Lst.run rfl rfl (by decide) (Ev.lenS (α := Event) (xs := a0) (by decide) rfl rfl Try.runUnderlying24 (hs_a0.mono (FLe.refl _) hM)) ?_
  refine Lst.run rfl rfl (by decide) (Ev.gtr rfl rfl) ?_
  refine Lst.nil ?_
  refine At.then ?_
  rcases Bool.eq_false_or_eq_true (decide ((a0.length : Int) > (60 : Int))) with hb1 | hb1
  · replace H := ite_t hb1 H
    refine Cd.condT rfl hb1 ?_
    refine Cd.seq ?_
    refine Cd.region ?_
    refine Lst.run rfl rfl (by decide) (Ev.assign rfl) ?_
    refine Lst.nil ?_
    refine At.then ?_
    obtain rfl := some_inj H
    refine Cd.ret ?_
    refine At.then_ret ?_
    exact At.ret1 rfl (Res.tmp rfl) (FLe.refl _) (List.Sublist.refl _) ⟨rfl, rfl⟩
  replace H := ite_f hb1 H
  refine Cd.condF rfl hb1 ?_
  refine Cd.skip ?_
  refine At.then ?_
  refine Cd.seq ?_
  refine Cd.region ?_
  refine Lst.run rfl rfl (by decide) (Ev.build (v := .agg (enc Checker.zero).toArray) (pv := []) trivial (fun w => by kernel_rfl)) ?_
  refine Lst.box rfl rfl (by decide) rfl (cs := enc Checker.zero) rfl (fun b2 => ?_)
  refine Lst.run rfl rfl (by decide) (Ev.assign rfl) ?_
  refine Lst.nil ?_
  refine At.then ?_
  refine Cd.seq ?_
  refine Cd.seq ?_
  refine Cd.region ?_
  refine Lst.run rfl rfl (by decide) (Ev.move rfl) ?_
  refine Lst.run rfl rfl (by decide) (Ev.lenS (α := Event) (xs := a0) (by decide) rfl rfl Try.runUnderlying24 (hs_a0.mono (FLe.refl _) (List.Sublist.cons _ hM))) ?_
  refine Lst.run rfl rfl (by decide) (Ev.move rfl) ?_
  refine Lst.nil ?_
  refine At.then ?_
  refine Cd.block ?_
  refine Cd.bound (Rd.le (α := Event) (xs := a0) (by decide) (hs_a0.mono (FLe.refl _) (List.Sublist.cons _ hM))) (fun hN18 => ?_)
  obtain ⟨ol4, H, HKl4⟩ := andThen_some H
  refine Cd.loop (σ := Nat × Nat × Checker) (fun (i4, k4, y5) => [(3, .pointer (some ⟨b2, 0, none⟩)), (12, Sl.v s_a0), (13, .int .i64 (a0.length : Int)), (14, .int .i64 (i4 : Int))]) (fun (i4, k4, y5) => (.blk b2 (enc y5) 84) :: L) (fun _ => (fun (i4, k4, y5) => rangeM (stamp_Check_B0 a0) k4 i4 y5 = some ol4 ∧ i4 + k4 = a0.length)) (fun (i4, k4, y5) => k4) (0, a0.length, Checker.zero) ⟨rfl, rfl, rfl, rfl, trivial⟩ rfl ⟨H, by omega⟩ ?_
  rintro F6 ⟨i4, k4, y5⟩ hF7 ⟨H, hik4⟩
  refine Cd.as (e' := [(3, .pointer (some ⟨b2, 0, none⟩)), (12, Sl.v s_a0), (13, .int .i64 (a0.length : Int)), (14, .int .i64 (i4 : Int))]) (L' := (.blk b2 (enc y5) 84) :: L) ⟨rfl, rfl, rfl, rfl, trivial⟩ rfl ?_
  rcases k4 with _ | k4
  · have hc4 : decide ((i4 : Int) < (a0.length : Int)) = false := decide_eq_false (by omega)
    replace H := rangeM_end H
    refine Cd.seq ?_
    refine Cd.region ?_
    refine Lst.run rfl rfl (by decide) (Ev.lss rfl rfl) ?_
    refine Lst.nil ?_
    refine At.then ?_
    refine Cd.seq ?_
    refine Cd.condF rfl hc4 ?_
    refine Cd.exit ?_
    refine At.then_exit ?_
    refine At.then_exit ?_
    refine At.in_exit ?_
    subst H
    replace H := HKl4
    refine At.then ?_
    refine Cd.seq ?_
    refine Cd.region ?_
    refine Lst.run rfl rfl (by decide) (Ev.assign rfl) ?_
    refine Lst.nil ?_
    refine At.then ?_
    obtain rfl := some_inj H
    refine Cd.ret ?_
    exact At.ret1 rfl (Res.tmp rfl) hF7 (List.Sublist.cons _ (List.Sublist.refl _)) ⟨rfl, rfl⟩
  have hc4 : decide ((i4 : Int) < (a0.length : Int)) = true := decide_eq_true (by omega)
  obtain ⟨c4, H, hgo4, hbrk4, hret4⟩ := rangeM_go H
  unfold stamp_Check_B0 at H
  try dsimp only at H
  refine Cd.seq ?_
  refine Cd.region ?_
  refine Lst.run rfl rfl (by decide) (Ev.lss rfl rfl) ?_
  refine Lst.nil ?_
  refine At.then ?_
  refine Cd.seq ?_
  refine Cd.condT rfl hc4 ?_
  refine Cd.skip ?_
  refine At.then ?_
  refine Cd.seq ?_
  refine Cd.block ?_
  refine Cd.seq ?_
  refine Cd.region ?_
  obtain ⟨x8, h9, H⟩ := bind_some H
  have g10 := lat_some h9
  refine Lst.run rfl rfl (by decide) (Ev.indexS (α := Event) (xs := a0) rfl rfl Try.runUnderlying24 Try.sizeOf75 rfl (by decide) (hs_a0.mono hF7 (List.Sublist.cons _ hM)) g10.1 g10.2.1) ?_
  refine Lst.run rfl rfl (by decide) (Ev.loadSA (α := Event) rfl (hs_a0.mono hF7 (List.Sublist.cons _ hM)) Try.isAgg75 Try.sizeOf75 (ch := enc x8) (Enc.len _) (by decide) ((Get.elemN (s := 3) rfl g10.2.2 (Get.here _)).off (by omega))) ?_
  refine Lst.alloc (cs := enc Event.zero) rfl rfl (by decide) Try.zeroValue75 rfl (fun b11 => ?_)
  refine Lst.store (i := 0) rfl rfl rfl rfl rfl Try.sizeOf75 (vs := enc x8) rfl (Enc.len _) (Enc.one _) (cs' := enc x8) (Put.here ((Enc.len _).trans (Enc.len _).symm)) (L' := (.blk b11 (enc x8) 75) :: (.blk b2 (enc y5) 84) :: L) rfl ?_
  refine Lst.nil ?_
  refine At.then ?_
  refine Cd.seq ?_
  refine Cd.region ?_
  refine Lst.run rfl rfl (by decide) (Ev.move rfl) ?_
  refine Lst.run rfl rfl (by decide) (Ev.loadA (i := 0) rfl rfl Try.isAgg75 Try.sizeOf75 (ch := enc x8) (Enc.len _) (Get.here _)) ?_
  obtain ⟨r13, h14, H⟩ := bind_some H
  refine Lst.front (i := 1) rfl (L' := (.blk b2 (enc y5) 84) :: (.blk b11 (enc x8) 75) :: L) rfl ?_
  refine Lst.call rfl rfl (by decide) (vs := [.pointer (some ⟨b2, 0, none⟩), .agg (enc x8).toArray]) ⟨rfl, rfl, trivial⟩ Try.call51 (stamp_checker_event_sim h14 w0 _ M _ (List.Sublist.cons _ hM)) (fun F15 L' v hF16 hv => ?_)
  obtain ⟨rfl, rfl⟩ := hv
  refine Lst.run rfl rfl (by decide) (Ev.assign rfl) ?_
  refine Lst.nil ?_
  refine At.then ?_
  refine Cd.seq ?_
  refine Cd.region ?_
  refine Lst.run rfl rfl (by decide) (Ev.move rfl) ?_
  refine Lst.run rfl rfl (by decide) (Ev.neq rfl rfl) ?_
  refine Lst.nil ?_
  refine At.then ?_
  rcases Bool.eq_false_or_eq_true (r13.2 != (0 : Int)) with hb17 | hb17
  · replace H := ite_t hb17 H
    refine Cd.condT rfl hb17 ?_
    refine Cd.seq ?_
    refine Cd.region ?_
    refine Lst.run rfl rfl (by decide) (Ev.move rfl) ?_
    refine Lst.run rfl rfl (by decide) (Ev.assign rfl) ?_
    refine Lst.nil ?_
    refine At.then ?_
    have H := hret4 _ (some_inj H).symm
    subst H
    replace H := HKl4
    obtain rfl := some_inj H
    refine Cd.ret ?_
    refine At.in_ret ?_
    refine At.then_ret ?_
    refine At.then_ret ?_
    refine At.in_ret ?_
    refine At.then_ret ?_
    exact At.ret1 rfl (Res.tmp rfl) (FLe.trans hF7 hF16) (List.Sublist.cons _ (List.Sublist.cons _ (List.Sublist.refl _))) ⟨rfl, rfl⟩
  replace H := ite_f hb17 H
  refine Cd.condF rfl hb17 ?_
  refine Cd.skip ?_
  refine At.in_normal ?_
  refine At.then ?_
  refine Cd.region ?_
  refine Lst.run rfl rfl (by decide) (Ev.incr (by omega) rfl rfl) ?_
  refine Lst.run rfl rfl (by decide) (Ev.move rfl) ?_
  refine Lst.nil ?_
  refine At.less (L' := (.blk b2 (enc r13.1) 84) :: L) (List.Sublist.cons_cons _ (List.Sublist.cons _ (List.Sublist.refl _))) ?_
  exact At.meet (i4 + 1, k4, r13.1) (FLe.trans hF7 hF16) ⟨rfl, rfl, rfl, rfl, trivial⟩ rfl ⟨⟨hgo4 _ (some_inj H).symm, by omega⟩, Nat.lt_succ_self _⟩
set_option maxRecDepth 20000 in
theorem vect_Vectors_sim {a0 : List Event} {s_a0 : Sl} {r : (List (Vector Int 6)) × Int} (H : vect_Vectors a0 = some r) (w0 : World) (F : Frz) (M L : List Item) (hM : M.Sublist L) (hs_a0 : Rd w0 F M s_a0 a0) : Ok Try.prog w0 15 [Sl.v s_a0] F (L) (fun _ L' v => ∃ (s82 : Sl), v = .tuple #[Sl.v s82, .int .i64 r.2] ∧ L' = (.own s82 23 6 (encs r.1)) :: L) := by
  unfold vect_Vectors at H
  refine Ok.enter (m := 1) (n := 66) Try.func15 rfl rfl rfl (by decide) ?_
  refine Cd.env (e' := [(0, Sl.v s_a0)]) rfl ?_
  refine Cd.seq ?_
  refine Cd.region ?_
  refine Lst.addNil 23 6 ?_
  refine Lst.run rfl rfl (by decide) (Ev.assign rfl) ?_
  refine Lst.run rfl rfl (by decide) (Ev.assign rfl) ?_
  refine Lst.nil ?_
  refine At.then ?_
  refine Cd.seq ?_
  refine Cd.seq ?_
  refine Cd.region ?_
  refine Lst.run rfl rfl (by decide) (Ev.move rfl) ?_
  obtain ⟨r2, h3, H⟩ := bind_some H
  refine Lst.call1 rfl rfl (by decide) (vs := [Sl.v s_a0]) ⟨rfl, trivial⟩ Try.call22 (stamp_Check_sim h3 w0 _ M _ (List.Sublist.cons _ hM) (hs_a0.mono (FLe.refl _) (List.Sublist.refl _))) ?_
  refine Lst.run rfl rfl (by decide) (Ev.assign rfl) ?_
  refine Lst.nil ?_
  refine At.then ?_
  refine Cd.seq ?_
  refine Cd.region ?_
  refine Lst.run rfl rfl (by decide) (Ev.move rfl) ?_
  refine Lst.run rfl rfl (by decide) (Ev.neq rfl rfl) ?_
  refine Lst.nil ?_
  refine At.then ?_
  rcases Bool.eq_false_or_eq_true (r2 != (0 : Int)) with hb6 | hb6
  · replace H := ite_t hb6 H
    refine Cd.condT rfl hb6 ?_
    refine Cd.seq ?_
    refine Cd.region ?_
    refine Lst.run rfl rfl (by decide) (Ev.move rfl) ?_
    refine Lst.addNil 23 6 ?_
    refine Lst.run rfl rfl (by decide) (Ev.assign rfl) ?_
    refine Lst.run rfl rfl (by decide) (Ev.assign rfl) ?_
    refine Lst.nil ?_
    refine At.then ?_
    obtain rfl := some_inj H
    refine Cd.ret ?_
    refine At.then_ret ?_
    exact At.ret2 rfl (Res.tmp rfl) (Res.tmp rfl) (FLe.refl _) (List.Sublist.cons_cons _ (List.Sublist.cons _ (List.Sublist.refl _))) ⟨Sl.nil, rfl, rfl⟩
  replace H := ite_f hb6 H
  refine Cd.condF rfl hb6 ?_
  refine Cd.skip ?_
  refine At.then ?_
  refine Cd.seq ?_
  refine Cd.region ?_
  refine Lst.addNil 23 6 ?_
  refine Lst.run rfl rfl (by decide) (Ev.assign rfl) ?_
  refine Lst.nil ?_
  refine At.then ?_
  refine Cd.seq ?_
  refine Cd.region ?_
  refine Lst.alloc (cs := enc (Vector.replicate 6 (0 : Int))) rfl rfl (by decide) Try.zeroValue23 rfl (fun b9 => ?_)
  refine Lst.nil ?_
  refine At.then ?_
  refine Cd.seq ?_
  refine Cd.region ?_
  refine Lst.alloc (cs := enc (Vector.replicate 6 (Vector.replicate 6 (0 : Int)))) rfl rfl (by decide) Try.zeroValue72 rfl (fun b11 => ?_)
  refine Lst.nil ?_
  refine At.then ?_
  refine Cd.seq ?_
  refine Cd.region ?_
  refine Lst.alloc (z := .agg (enc (Vector.replicate 30 (Vector.replicate 6 (0 : Int)))).toArray) (cs := enc (Vector.replicate 30 (Vector.replicate 6 (0 : Int)))) rfl rfl (by decide) (fun _ => by kernel_rfl) rfl (fun b13 => ?_)
  refine Lst.nil ?_
  refine At.then ?_
  refine Cd.seq ?_
  refine Cd.seq ?_
  refine Cd.region ?_
  refine Lst.run rfl rfl (by decide) (Ev.move rfl) ?_
  refine Lst.run rfl rfl (by decide) (Ev.lenS (α := Event) (xs := a0) (by decide) rfl rfl Try.runUnderlying24 (hs_a0.mono (FLe.refl _) (List.Sublist.cons _ (List.Sublist.cons _ (List.Sublist.cons _ (List.Sublist.cons _ (List.Sublist.cons _ hM))))))) ?_
  refine Lst.run rfl rfl (by decide) (Ev.move rfl) ?_
  refine Lst.nil ?_
  refine At.then ?_
  refine Cd.block ?_
  refine Cd.bound (Rd.le (α := Event) (xs := a0) (by decide) (hs_a0.mono (FLe.refl _) (List.Sublist.cons _ (List.Sublist.cons _ (List.Sublist.cons _ (List.Sublist.cons _ (List.Sublist.cons _ hM))))))) (fun hN81 => ?_)
  obtain ⟨ol15, H, HKl15⟩ := bind_some H
  refine Cd.loop (σ := Nat × Nat × (Vector (Vector Int 6) 30) × (Vector (Vector Int 6) 6) × (Vector Int 6) × Sl × (List (Vector Int 6))) (fun (i15, k15, y16, y17, y18, s19, l20) => [(5, Sl.v s19), (6, .pointer (some ⟨b9, 0, none⟩)), (7, .pointer (some ⟨b11, 0, none⟩)), (8, .pointer (some ⟨b13, 0, none⟩)), (17, Sl.v s_a0), (18, .int .i64 (a0.length : Int)), (19, .int .i64 (i15 : Int))]) (fun (i15, k15, y16, y17, y18, s19, l20) => (.blk b13 (enc y16) 73) :: (.blk b11 (enc y17) 72) :: (.blk b9 (enc y18) 23) :: (.own s19 23 6 (encs l20)) :: (.own Sl.nil 23 6 (encs ([] : List (Vector Int 6)))) :: L) (fun _ => (fun (i15, k15, y16, y17, y18, s19, l20) => rangeF (vect_Vectors_B0 a0) k15 i15 (y16, y17, y18, l20) = some ol15 ∧ i15 + k15 = a0.length)) (fun (i15, k15, y16, y17, y18, s19, l20) => k15) (0, a0.length, (Vector.replicate 30 (Vector.replicate 6 (0 : Int))), (Vector.replicate 6 (Vector.replicate 6 (0 : Int))), (Vector.replicate 6 (0 : Int)), Sl.nil, ([] : List (Vector Int 6))) ⟨rfl, rfl, rfl, rfl, rfl, rfl, rfl, trivial⟩ rfl ⟨H, by omega⟩ ?_
  rintro F21 ⟨i15, k15, y16, y17, y18, s19, l20⟩ hF22 ⟨H, hik15⟩
  refine Cd.as (e' := [(5, Sl.v s19), (6, .pointer (some ⟨b9, 0, none⟩)), (7, .pointer (some ⟨b11, 0, none⟩)), (8, .pointer (some ⟨b13, 0, none⟩)), (17, Sl.v s_a0), (18, .int .i64 (a0.length : Int)), (19, .int .i64 (i15 : Int))]) (L' := (.blk b13 (enc y16) 73) :: (.blk b11 (enc y17) 72) :: (.blk b9 (enc y18) 23) :: (.own s19 23 6 (encs l20)) :: (.own Sl.nil 23 6 (encs ([] : List (Vector Int 6)))) :: L) ⟨rfl, rfl, rfl, rfl, rfl, rfl, rfl, trivial⟩ rfl ?_
  rcases k15 with _ | k15
  · have hc15 : decide ((i15 : Int) < (a0.length : Int)) = false := decide_eq_false (by omega)
    replace H := rangeF_end H
    refine Cd.seq ?_
    refine Cd.region ?_
    refine Lst.run rfl rfl (by decide) (Ev.lss rfl rfl) ?_
    refine Lst.nil ?_
    refine At.then ?_
    refine Cd.seq ?_
    refine Cd.condF rfl hc15 ?_
    refine Cd.exit ?_
    refine At.then_exit ?_
    refine At.then_exit ?_
    refine At.in_exit ?_
    subst H
    replace H := HKl15
    refine At.then ?_
    refine Cd.seq ?_
    refine Cd.region ?_
    refine Lst.run rfl rfl (by decide) (Ev.move rfl) ?_
    refine Lst.run rfl rfl (by decide) (Ev.assign rfl) ?_
    refine Lst.run rfl rfl (by decide) (Ev.assign rfl) ?_
    refine Lst.nil ?_
    refine At.then ?_
    obtain rfl := some_inj H
    refine Cd.ret ?_
    exact At.ret2 rfl (Res.tmp rfl) (Res.tmp rfl) hF22 (List.Sublist.cons _ (List.Sublist.cons _ (List.Sublist.cons _ (List.Sublist.cons_cons _ (List.Sublist.cons _ (List.Sublist.refl _)))))) ⟨s19, rfl, rfl⟩
  have hc15 : decide ((i15 : Int) < (a0.length : Int)) = true := decide_eq_true (by omega)
  obtain ⟨c15, H, hgo15⟩ := rangeF_go H
  unfold vect_Vectors_B0 at H
  try dsimp only at H
  refine Cd.seq ?_
  refine Cd.region ?_
  refine Lst.run rfl rfl (by decide) (Ev.lss rfl rfl) ?_
  refine Lst.nil ?_
  refine At.then ?_
  refine Cd.seq ?_
  refine Cd.condT rfl hc15 ?_
  refine Cd.skip ?_
  refine At.then ?_
  refine Cd.seq ?_
  refine Cd.block ?_
  refine Cd.seq ?_
  refine Cd.region ?_
  obtain ⟨x23, h24, H⟩ := bind_some H
  have g25 := lat_some h24
  refine Lst.run rfl rfl (by decide) (Ev.indexS (α := Event) (xs := a0) rfl rfl Try.runUnderlying24 Try.sizeOf75 rfl (by decide) (hs_a0.mono hF22 (List.Sublist.cons _ (List.Sublist.cons _ (List.Sublist.cons _ (List.Sublist.cons _ (List.Sublist.cons _ hM)))))) g25.1 g25.2.1) ?_
  refine Lst.run rfl rfl (by decide) (Ev.loadSA (α := Event) rfl (hs_a0.mono hF22 (List.Sublist.cons _ (List.Sublist.cons _ (List.Sublist.cons _ (List.Sublist.cons _ (List.Sublist.cons _ hM)))))) Try.isAgg75 Try.sizeOf75 (ch := enc x23) (Enc.len _) (by decide) ((Get.elemN (s := 3) rfl g25.2.2 (Get.here _)).off (by omega))) ?_
  refine Lst.alloc (cs := enc Event.zero) rfl rfl (by decide) Try.zeroValue75 rfl (fun b26 => ?_)
  refine Lst.store (i := 0) rfl rfl rfl rfl rfl Try.sizeOf75 (vs := enc x23) rfl (Enc.len _) (Enc.one _) (cs' := enc x23) (Put.here ((Enc.len _).trans (Enc.len _).symm)) (L' := (.blk b26 (enc x23) 75) :: (.blk b13 (enc y16) 73) :: (.blk b11 (enc y17) 72) :: (.blk b9 (enc y18) 23) :: (.own s19 23 6 (encs l20)) :: (.own Sl.nil 23 6 (encs ([] : List (Vector Int 6)))) :: L) rfl ?_
  refine Lst.nil ?_
  refine At.then ?_
  refine Cd.seq ?_
  refine Cd.region ?_
  refine Lst.run rfl rfl (by decide) (Ev.fieldAddr (off' := 0) rfl Try.runUnderlying75 rfl Try.sizeOf3 rfl rfl) ?_
  refine Lst.run rfl rfl (by decide) (Ev.load (i := 0) rfl rfl Try.isAgg3 (v := .int .i64 x23.Proc) ((Event.get_Proc (Get.here _)).off (by rfl))) ?_
  obtain ⟨x28, h29, H⟩ := bind_some H
  have g30 := vat_some h29
  refine Lst.run rfl rfl (by decide) (Ev.indexAddr (off' := 0 + x23.Proc.toNat * 6) rfl rfl Try.runUnderlying72 Try.sizeOf23 g30.1 g30.2.1 rfl) ?_
  refine Lst.run rfl rfl (by decide) (Ev.loadA (i := 2) rfl rfl Try.isAgg23 Try.sizeOf23 (ch := enc x28) (Enc.len _) ((Get.vecN (s := 6) rfl g30.2.2 (Get.here _)).off (by omega))) ?_
  refine Lst.alloc (cs := enc (Vector.replicate 6 (0 : Int))) rfl rfl (by decide) Try.zeroValue23 rfl (fun b31 => ?_)
  refine Lst.store (i := 0) rfl rfl rfl rfl rfl Try.sizeOf23 (vs := enc x28) rfl (Enc.len _) (Enc.one _) (cs' := enc x28) (Put.here ((Enc.len _).trans (Enc.len _).symm)) (L' := (.blk b31 (enc x28) 23) :: (.blk b26 (enc x23) 75) :: (.blk b13 (enc y16) 73) :: (.blk b11 (enc y17) 72) :: (.blk b9 (enc y18) 23) :: (.own s19 23 6 (encs l20)) :: (.own Sl.nil 23 6 (encs ([] : List (Vector Int 6)))) :: L) rfl ?_
  refine Lst.nil ?_
  refine At.then ?_
  obtain ⟨o34, H, HKo34⟩ := bind_some H
  refine Cd.join (σ := (Vector Int 6)) (fun y33 => [(5, Sl.v s19), (6, .pointer (some ⟨b9, 0, none⟩)), (7, .pointer (some ⟨b11, 0, none⟩)), (8, .pointer (some ⟨b13, 0, none⟩)), (10, .pointer (some ⟨b26, 0, none⟩)), (11, .pointer (some ⟨b31, 0, none⟩)), (17, Sl.v s_a0), (18, .int .i64 (a0.length : Int)), (19, .int .i64 (i15 : Int))]) (fun y33 => (.blk b31 (enc y33) 23) :: (.blk b26 (enc x23) 75) :: (.blk b13 (enc y16) 73) :: (.blk b11 (enc y17) 72) :: (.blk b9 (enc y18) 23) :: (.own s19 23 6 (encs l20)) :: (.own Sl.nil 23 6 (encs ([] : List (Vector Int 6)))) :: L) (fun _ y33 => y33 = o34) ?_ ?_
  · refine Cd.seq ?_
    refine Cd.region ?_
    refine Lst.run rfl rfl (by decide) (Ev.fieldAddr (off' := 1) rfl Try.runUnderlying75 rfl Try.sizeOf3 rfl rfl) ?_
    refine Lst.run rfl rfl (by decide) (Ev.load (i := 1) rfl rfl Try.isAgg3 (v := .int .i64 x23.Kind) ((Event.get_Kind (Get.here _)).off (by rfl))) ?_
    refine Lst.run rfl rfl (by decide) (Ev.eql rfl rfl) ?_
    refine Lst.nil ?_
    refine At.then ?_
    rcases (Bool.eq_false_or_eq_true (x23.Kind == (3 : Int))).symm with hb35 | hb35
    · replace H := ite_f hb35 H
      refine Cd.condF rfl hb35 ?_
      refine Cd.skip ?_
      exact At.meet x28 (FLe.refl _) ⟨rfl, rfl, rfl, rfl, rfl, rfl, rfl, rfl, rfl, trivial⟩ rfl (some_inj H)
    replace H := ite_t hb35 H
    refine Cd.condT rfl hb35 ?_
    refine Cd.tail 6 (by kernel_rfl) (by kernel_rfl) ?_
    refine Qt.run rfl rfl (by decide) (Ev.loadA (i := 0) rfl rfl Try.isAgg23 Try.sizeOf23 (ch := enc x28) (Enc.len _) (Get.here _)) ?_
    refine Qt.run rfl rfl (by decide) (Ev.fieldAddr (off' := 2) rfl Try.runUnderlying75 rfl Try.sizeOf3 rfl rfl) ?_
    refine Qt.run rfl rfl (by decide) (Ev.load (i := 1) rfl rfl Try.isAgg3 (v := .int .i64 x23.Msg) ((Event.get_Msg (Get.here _)).off (by rfl))) ?_
    obtain ⟨x36, h37, H⟩ := bind_some H
    have g38 := vat_some h37
    refine Qt.run rfl rfl (by decide) (Ev.indexAddr (off' := 0 + x23.Msg.toNat * 6) rfl rfl Try.runUnderlying73 Try.sizeOf23 g38.1 g38.2.1 rfl) ?_
    refine Qt.run rfl rfl (by decide) (Ev.loadA (i := 2) rfl rfl Try.isAgg23 Try.sizeOf23 (ch := enc x36) (Enc.len _) ((Get.vecN (s := 6) rfl g38.2.2 (Get.here _)).off (by omega))) ?_
    obtain ⟨r39, h40, H⟩ := bind_some H
    refine Qt.call rfl rfl (by decide) (vs := [.agg (enc x28).toArray, .agg (enc x36).toArray]) ⟨rfl, rfl, trivial⟩ Try.call10 (vect_Max_sim h40 w0 _ M _ (List.Sublist.cons _ (List.Sublist.cons _ (List.Sublist.cons _ (List.Sublist.cons _ (List.Sublist.cons _ (List.Sublist.cons _ (List.Sublist.cons _ hM)))))))) ?_
    refine Qt.tail ?_
    refine Lst.store (i := 0) rfl rfl rfl rfl rfl Try.sizeOf23 (vs := enc r39) rfl (Enc.len _) (Enc.one _) (cs' := enc r39) (Put.here ((Enc.len _).trans (Enc.len _).symm)) (L' := (.blk b31 (enc r39) 23) :: (.blk b26 (enc x23) 75) :: (.blk b13 (enc y16) 73) :: (.blk b11 (enc y17) 72) :: (.blk b9 (enc y18) 23) :: (.own s19 23 6 (encs l20)) :: (.own Sl.nil 23 6 (encs ([] : List (Vector Int 6)))) :: L) rfl ?_
    refine Lst.nil ?_
    exact At.meet r39 (FLe.refl _) ⟨rfl, rfl, rfl, rfl, rfl, rfl, rfl, rfl, rfl, trivial⟩ rfl (some_inj H)
  rintro F43 y33 hF44 hy
  subst hy
  refine Cd.as (e' := [(5, Sl.v s19), (6, .pointer (some ⟨b9, 0, none⟩)), (7, .pointer (some ⟨b11, 0, none⟩)), (8, .pointer (some ⟨b13, 0, none⟩)), (10, .pointer (some ⟨b26, 0, none⟩)), (11, .pointer (some ⟨b31, 0, none⟩)), (17, Sl.v s_a0), (18, .int .i64 (a0.length : Int)), (19, .int .i64 (i15 : Int))]) (L' := (.blk b31 (enc y33) 23) :: (.blk b26 (enc x23) 75) :: (.blk b13 (enc y16) 73) :: (.blk b11 (enc y17) 72) :: (.blk b9 (enc y18) 23) :: (.own s19 23 6 (encs l20)) :: (.own Sl.nil 23 6 (encs ([] : List (Vector Int 6)))) :: L) ⟨rfl, rfl, rfl, rfl, rfl, rfl, rfl, rfl, rfl, trivial⟩ rfl ?_
  replace H := HKo34
  refine Cd.seq ?_
  refine Cd.region ?_
  refine Lst.run rfl rfl (by decide) (Ev.fieldAddr (off' := 0) rfl Try.runUnderlying75 rfl Try.sizeOf3 rfl rfl) ?_
  refine Lst.run rfl rfl (by decide) (Ev.load (i := 1) rfl rfl Try.isAgg3 (v := .int .i64 x23.Proc) ((Event.get_Proc (Get.here _)).off (by rfl))) ?_
  obtain ⟨x45, h46, H⟩ := bind_some H
  have g47 := vat_some h46
  refine Lst.run rfl rfl (by decide) (Ev.indexAddr (off' := 0 + x23.Proc.toNat * 1) rfl rfl Try.runUnderlying23 Try.sizeOf3 g47.1 g47.2.1 rfl) ?_
  refine Lst.run rfl rfl (by decide) (Ev.load (i := 4) rfl rfl Try.isAgg3 (v := .int .i64 x45) ((Get.vecN (s := 1) rfl g47.2.2 (Get.here _)).off (by omega))) ?_
  refine Lst.run rfl rfl (by decide) (Ev.add rfl rfl) ?_
  obtain ⟨x48, h49, H⟩ := bind_some H
  have g50 := vat_some h49
  refine Lst.run rfl rfl (by decide) (Ev.indexAddr (off' := 0 + x23.Proc.toNat * 1) rfl rfl Try.runUnderlying23 Try.sizeOf3 g50.1 g50.2.1 rfl) ?_
  obtain ⟨p51, h52, H⟩ := Let_some H
  refine Lst.store (i := 4) rfl rfl rfl rfl rfl Try.sizeOf3 (vs := [.int .i64 (w64 (x45 + (1 : Int)))]) rfl rfl rfl (cs' := enc p51) (by rw [← h52]; exact (Put.vecN (s := 1) rfl g50.2.2 (Put.here (vs := [.int .i64 (w64 (x45 + (1 : Int)))]) rfl)).off (by omega)) (L' := (.blk b31 (enc y33) 23) :: (.blk b26 (enc x23) 75) :: (.blk b13 (enc y16) 73) :: (.blk b11 (enc y17) 72) :: (.blk b9 (enc p51) 23) :: (.own s19 23 6 (encs l20)) :: (.own Sl.nil 23 6 (encs ([] : List (Vector Int 6)))) :: L) rfl ?_
  refine Lst.nil ?_
  refine At.then ?_
  refine Cd.seq ?_
  refine Cd.tail 7 (by kernel_rfl) (by kernel_rfl) ?_
  refine Qt.run rfl rfl (by decide) (Ev.fieldAddr (off' := 0) rfl Try.runUnderlying75 rfl Try.sizeOf3 rfl rfl) ?_
  refine Qt.run rfl rfl (by decide) (Ev.load (i := 1) rfl rfl Try.isAgg3 (v := .int .i64 x23.Proc) ((Event.get_Proc (Get.here _)).off (by rfl))) ?_
  refine Qt.run rfl rfl (by decide) (Ev.fieldAddr (off' := 0) rfl Try.runUnderlying75 rfl Try.sizeOf3 rfl rfl) ?_
  refine Qt.run rfl rfl (by decide) (Ev.load (i := 1) rfl rfl Try.isAgg3 (v := .int .i64 x23.Proc) ((Event.get_Proc (Get.here _)).off (by rfl))) ?_
  obtain ⟨x53, h54, H⟩ := bind_some H
  have g55 := vat_some h54
  refine Qt.run rfl rfl (by decide) (Ev.indexAddr (off' := 0 + x23.Proc.toNat * 1) rfl rfl Try.runUnderlying23 Try.sizeOf3 g55.1 g55.2.1 rfl) ?_
  refine Qt.run rfl rfl (by decide) (Ev.load (i := 4) rfl rfl Try.isAgg3 (v := .int .i64 x53) ((Get.vecN (s := 1) rfl g55.2.2 (Get.here _)).off (by omega))) ?_
  obtain ⟨x56, h57, H⟩ := bind_some H
  have g58 := vat_some h57
  refine Qt.run rfl rfl (by decide) (Ev.indexAddr (off' := 0 + x23.Proc.toNat * 1) rfl rfl Try.runUnderlying23 Try.sizeOf3 g58.1 g58.2.1 rfl) ?_
  refine Qt.tail ?_
  obtain ⟨p59, h60, H⟩ := Let_some H
  refine Lst.store (i := 0) rfl rfl rfl rfl rfl Try.sizeOf3 (vs := [.int .i64 x53]) rfl rfl rfl (cs' := enc p59) (by rw [← h60]; exact (Put.vecN (s := 1) rfl g58.2.2 (Put.here (vs := [.int .i64 x53]) rfl)).off (by omega)) (L' := (.blk b31 (enc p59) 23) :: (.blk b26 (enc x23) 75) :: (.blk b13 (enc y16) 73) :: (.blk b11 (enc y17) 72) :: (.blk b9 (enc p51) 23) :: (.own s19 23 6 (encs l20)) :: (.own Sl.nil 23 6 (encs ([] : List (Vector Int 6)))) :: L) rfl ?_
  refine Lst.nil ?_
  refine At.then ?_
  refine Cd.seq ?_
  refine Cd.region ?_
  refine Lst.run rfl rfl (by decide) (Ev.fieldAddr (off' := 0) rfl Try.runUnderlying75 rfl Try.sizeOf3 rfl rfl) ?_
  refine Lst.run rfl rfl (by decide) (Ev.load (i := 1) rfl rfl Try.isAgg3 (v := .int .i64 x23.Proc) ((Event.get_Proc (Get.here _)).off (by rfl))) ?_
  refine Lst.run rfl rfl (by decide) (Ev.loadA (i := 0) rfl rfl Try.isAgg23 Try.sizeOf23 (ch := enc p59) (Enc.len _) (Get.here _)) ?_
  obtain ⟨x61, h62, H⟩ := bind_some H
  have g63 := vat_some h62
  refine Lst.run rfl rfl (by decide) (Ev.indexAddr (off' := 0 + x23.Proc.toNat * 6) rfl rfl Try.runUnderlying72 Try.sizeOf23 g63.1 g63.2.1 rfl) ?_
  obtain ⟨p64, h65, H⟩ := Let_some H
  refine Lst.store (i := 3) rfl rfl rfl rfl rfl Try.sizeOf23 (vs := enc p59) rfl (Enc.len _) (Enc.one _) (cs' := enc p64) (by rw [← h65]; exact (Put.vecN (s := 6) rfl g63.2.2 (Put.here ((Enc.len _).trans (Enc.len _).symm))).off (by omega)) (L' := (.blk b31 (enc p59) 23) :: (.blk b26 (enc x23) 75) :: (.blk b13 (enc y16) 73) :: (.blk b11 (enc p64) 72) :: (.blk b9 (enc p51) 23) :: (.own s19 23 6 (encs l20)) :: (.own Sl.nil 23 6 (encs ([] : List (Vector Int 6)))) :: L) rfl ?_
  refine Lst.nil ?_
  refine At.then ?_
  obtain ⟨o67, H, HKo67⟩ := bind_some H
  refine Cd.join (σ := (Vector (Vector Int 6) 30)) (fun y66 => [(5, Sl.v s19), (6, .pointer (some ⟨b9, 0, none⟩)), (7, .pointer (some ⟨b11, 0, none⟩)), (8, .pointer (some ⟨b13, 0, none⟩)), (11, .pointer (some ⟨b31, 0, none⟩)), (17, Sl.v s_a0), (18, .int .i64 (a0.length : Int)), (19, .int .i64 (i15 : Int))]) (fun y66 => (.blk b31 (enc p59) 23) :: (.blk b26 (enc x23) 75) :: (.blk b13 (enc y66) 73) :: (.blk b11 (enc p64) 72) :: (.blk b9 (enc p51) 23) :: (.own s19 23 6 (encs l20)) :: (.own Sl.nil 23 6 (encs ([] : List (Vector Int 6)))) :: L) (fun _ y66 => y66 = o67) ?_ ?_
  · refine Cd.seq ?_
    refine Cd.as (e' := [(5, Sl.v s19), (6, .pointer (some ⟨b9, 0, none⟩)), (7, .pointer (some ⟨b11, 0, none⟩)), (8, .pointer (some ⟨b13, 0, none⟩)), (10, .pointer (some ⟨b26, 0, none⟩)), (11, .pointer (some ⟨b31, 0, none⟩)), (17, Sl.v s_a0), (18, .int .i64 (a0.length : Int)), (19, .int .i64 (i15 : Int))]) (L' := (.blk b31 (enc p59) 23) :: (.blk b26 (enc x23) 75) :: (.blk b13 (enc y16) 73) :: (.blk b11 (enc p64) 72) :: (.blk b9 (enc p51) 23) :: (.own s19 23 6 (encs l20)) :: (.own Sl.nil 23 6 (encs ([] : List (Vector Int 6)))) :: L) ⟨rfl, rfl, rfl, rfl, rfl, rfl, rfl, rfl, rfl, trivial⟩ rfl ?_
    refine Cd.region ?_
    refine Lst.run rfl rfl (by decide) (Ev.fieldAddr (off' := 1) rfl Try.runUnderlying75 rfl Try.sizeOf3 rfl rfl) ?_
    refine Lst.run rfl rfl (by decide) (Ev.load (i := 1) rfl rfl Try.isAgg3 (v := .int .i64 x23.Kind) ((Event.get_Kind (Get.here _)).off (by rfl))) ?_
    refine Lst.run rfl rfl (by decide) (Ev.eql rfl rfl) ?_
    refine Lst.nil ?_
    refine At.then ?_
    rcases (Bool.eq_false_or_eq_true (x23.Kind == (2 : Int))).symm with hb68 | hb68
    · replace H := ite_f hb68 H
      refine Cd.condF rfl hb68 ?_
      refine Cd.skip ?_
      exact At.meet y16 (FLe.refl _) ⟨rfl, rfl, rfl, rfl, rfl, rfl, rfl, rfl, trivial⟩ rfl (some_inj H)
    replace H := ite_t hb68 H
    refine Cd.condT rfl hb68 ?_
    refine Cd.region ?_
    refine Lst.run rfl rfl (by decide) (Ev.fieldAddr (off' := 2) rfl Try.runUnderlying75 rfl Try.sizeOf3 rfl rfl) ?_
    refine Lst.run rfl rfl (by decide) (Ev.load (i := 1) rfl rfl Try.isAgg3 (v := .int .i64 x23.Msg) ((Event.get_Msg (Get.here _)).off (by rfl))) ?_
    refine Lst.run rfl rfl (by decide) (Ev.loadA (i := 0) rfl rfl Try.isAgg23 Try.sizeOf23 (ch := enc p59) (Enc.len _) (Get.here _)) ?_
    obtain ⟨x69, h70, H⟩ := bind_some H
    have g71 := vat_some h70
    refine Lst.run rfl rfl (by decide) (Ev.indexAddr (off' := 0 + x23.Msg.toNat * 6) rfl rfl Try.runUnderlying73 Try.sizeOf23 g71.1 g71.2.1 rfl) ?_
    obtain ⟨p72, h73, H⟩ := Let_some H
    refine Lst.store (i := 2) rfl rfl rfl rfl rfl Try.sizeOf23 (vs := enc p59) rfl (Enc.len _) (Enc.one _) (cs' := enc p72) (by rw [← h73]; exact (Put.vecN (s := 6) rfl g71.2.2 (Put.here ((Enc.len _).trans (Enc.len _).symm))).off (by omega)) (L' := (.blk b31 (enc p59) 23) :: (.blk b26 (enc x23) 75) :: (.blk b13 (enc p72) 73) :: (.blk b11 (enc p64) 72) :: (.blk b9 (enc p51) 23) :: (.own s19 23 6 (encs l20)) :: (.own Sl.nil 23 6 (encs ([] : List (Vector Int 6)))) :: L) rfl ?_
    refine Lst.nil ?_
    exact At.meet p72 (FLe.refl _) ⟨rfl, rfl, rfl, rfl, rfl, rfl, rfl, rfl, trivial⟩ rfl (some_inj H)
  rintro F74 y66 hF75 hy
  subst hy
  refine Cd.as (e' := [(5, Sl.v s19), (6, .pointer (some ⟨b9, 0, none⟩)), (7, .pointer (some ⟨b11, 0, none⟩)), (8, .pointer (some ⟨b13, 0, none⟩)), (11, .pointer (some ⟨b31, 0, none⟩)), (17, Sl.v s_a0), (18, .int .i64 (a0.length : Int)), (19, .int .i64 (i15 : Int))]) (L' := (.blk b31 (enc p59) 23) :: (.blk b26 (enc x23) 75) :: (.blk b13 (enc y66) 73) :: (.blk b11 (enc p64) 72) :: (.blk b9 (enc p51) 23) :: (.own s19 23 6 (encs l20)) :: (.own Sl.nil 23 6 (encs ([] : List (Vector Int 6)))) :: L) ⟨rfl, rfl, rfl, rfl, rfl, rfl, rfl, rfl, trivial⟩ rfl ?_
  replace H := HKo67
  refine Cd.region ?_
  refine Lst.run rfl rfl (by decide) (Ev.move rfl) ?_
  refine Lst.run rfl rfl (by decide) (Ev.loadA (i := 0) rfl rfl Try.isAgg23 Try.sizeOf23 (ch := enc p59) (Enc.len _) (Get.here _)) ?_
  refine Lst.buildSlice (α := Vector Int 6) (xs := ([p59] : List (Vector Int 6))) (pv := [(0, .agg (enc p59).toArray)]) rfl rfl (by decide) ⟨rfl, rfl, trivial⟩ (run_buildSlice (α := Vector Int 6) (z0 := (Vector.replicate 6 (0 : Int))) (xs := ([p59] : List (Vector Int 6))) Try.runUnderlying28 Try.sizeOf23 Try.zeroValue23 rfl rfl rfl (by decide) rfl (fill_cons (cs := encs (List.replicate 1 (Vector.replicate 6 (0 : Int)))) (cs' := encs ((List.replicate 1 (Vector.replicate 6 (0 : Int))).set 0 p59)) (vs := enc p59) rfl rfl (Enc.len _) ((Put.elemN (s := 6) (i := 0) (x := (Vector.replicate 6 (0 : Int))) (y := p59) rfl rfl (Put.here ((Enc.len _).trans (Enc.len _).symm))).off rfl) fill_nil)) rfl rfl (by decide) (fun s76 _ => ?_)
  obtain ⟨u78, h79, H⟩ := bind_some H
  refine Lst.append (i := 6) (α := Vector Int 6) (xs := l20) (ys := ([p59] : List (Vector Int 6))) rfl rfl (by decide) rfl rfl Try.runUnderlying28 Try.typeInfo23 rfl rfl rfl rfl rfl rfl (Rd.own (i := 0) rfl rfl rfl) rfl (room_some h79) rfl (fun s80 => ?_)
  refine Lst.its (L' := (.own s76 23 6 (encs ([p59] : List (Vector Int 6)))) :: (.blk b31 (enc p59) 23) :: (.blk b26 (enc x23) 75) :: (.blk b13 (enc y66) 73) :: (.blk b11 (enc p64) 72) :: (.blk b9 (enc p51) 23) :: (.own s80 23 6 (encs (l20 ++ ([p59] : List (Vector Int 6))))) :: (.own Sl.nil 23 6 (encs ([] : List (Vector Int 6)))) :: L) rfl ?_
  refine Lst.run rfl rfl (by decide) (Ev.assign rfl) ?_
  refine Lst.nil ?_
  refine At.in_normal ?_
  refine At.then ?_
  refine Cd.region ?_
  refine Lst.run rfl rfl (by decide) (Ev.incr (by omega) rfl rfl) ?_
  refine Lst.run rfl rfl (by decide) (Ev.move rfl) ?_
  refine Lst.nil ?_
  refine At.less (L' := (.blk b13 (enc y66) 73) :: (.blk b11 (enc p64) 72) :: (.blk b9 (enc p51) 23) :: (.own s80 23 6 (encs (l20 ++ ([p59] : List (Vector Int 6))))) :: (.own Sl.nil 23 6 (encs ([] : List (Vector Int 6)))) :: L) (List.Sublist.cons _ (List.Sublist.cons _ (List.Sublist.cons _ (List.Sublist.cons_cons _ (List.Sublist.cons_cons _ (List.Sublist.cons_cons _ (List.Sublist.cons_cons _ (List.Sublist.cons_cons _ (List.Sublist.refl _))))))))) ?_
  exact At.meet (i15 + 1, k15, y66, p64, p51, s80, l20 ++ ([p59] : List (Vector Int 6))) (FLe.trans (FLe.trans hF22 hF44) hF75) ⟨rfl, rfl, rfl, rfl, rfl, rfl, rfl, trivial⟩ rfl ⟨⟨hgo15 _ (some_inj H).symm, by omega⟩, Nat.lt_succ_self _⟩
set_option maxRecDepth 20000 in
theorem partref_HistoryErr_sim {a0 : List Event} {s_a0 : Sl} {r : Int} (H : partref_HistoryErr a0 = some r) (w0 : World) (F : Frz) (M L : List Item) (hM : M.Sublist L) (hs_a0 : Rd w0 F M s_a0 a0) : Ok Try.prog w0 16 [Sl.v s_a0] F (L) (Is (.int .i64 r) (L)) := by
  unfold partref_HistoryErr at H
  refine Ok.enter (m := 1) (n := 100) Try.func16 rfl rfl rfl (by decide) ?_
  refine Cd.env (e' := [(0, Sl.v s_a0)]) rfl ?_
  refine Cd.seq ?_
  refine Cd.region ?_
  refine Lst.run rfl rfl (by decide) (Ev.assign rfl) ?_
  refine Lst.nil ?_
  refine At.then ?_
  refine Cd.seq ?_
  refine Cd.seq ?_
  refine Cd.region ?_
  refine Lst.run rfl rfl (by decide) (Ev.move rfl) ?_
  refine Lst.run rfl rfl (by decide) (Ev.lenS (α := Event) (xs := a0) (by decide) rfl rfl Try.runUnderlying24 (hs_a0.mono (FLe.refl _) hM)) ?_
  refine Lst.run rfl rfl (by decide) (Ev.gtr rfl rfl) ?_
  refine Lst.nil ?_
  refine At.then ?_
  rcases Bool.eq_false_or_eq_true (decide ((a0.length : Int) > (60 : Int))) with hb1 | hb1
  · replace H := ite_t hb1 H
    refine Cd.condT rfl hb1 ?_
    refine Cd.seq ?_
    refine Cd.region ?_
    refine Lst.run rfl rfl (by decide) (Ev.assign rfl) ?_
    refine Lst.nil ?_
    refine At.then ?_
    obtain rfl := some_inj H
    refine Cd.ret ?_
    refine At.then_ret ?_
    exact At.ret1 rfl (Res.tmp rfl) (FLe.refl _) (List.Sublist.refl _) ⟨rfl, rfl⟩
  replace H := ite_f hb1 H
  refine Cd.condF rfl hb1 ?_
  refine Cd.skip ?_
  refine At.then ?_
  refine Cd.seq ?_
  refine Cd.seq ?_
  refine Cd.region ?_
  refine Lst.run rfl rfl (by decide) (Ev.move rfl) ?_
  refine Lst.run rfl rfl (by decide) (Ev.lenS (α := Event) (xs := a0) (by decide) rfl rfl Try.runUnderlying24 (hs_a0.mono (FLe.refl _) hM)) ?_
  refine Lst.run rfl rfl (by decide) (Ev.move rfl) ?_
  refine Lst.nil ?_
  refine At.then ?_
  refine Cd.block ?_
  refine Cd.bound (Rd.le (α := Event) (xs := a0) (by decide) (hs_a0.mono (FLe.refl _) hM)) (fun hN85 => ?_)
  obtain ⟨ol2, H, HKl2⟩ := andThen_some H
  refine Cd.loop (σ := Nat × Nat × Unit) (fun (i2, k2, _u) => [(0, Sl.v s_a0), (12, Sl.v s_a0), (13, .int .i64 (a0.length : Int)), (14, .int .i64 (i2 : Int))]) (fun (i2, k2, _u) => L) (fun _ => (fun (i2, k2, _u) => rangeM (partref_HistoryErr_B0 a0) k2 i2 () = some ol2 ∧ i2 + k2 = a0.length)) (fun (i2, k2, _u) => k2) (0, a0.length, ()) ⟨rfl, rfl, rfl, rfl, trivial⟩ rfl ⟨H, by omega⟩ ?_
  rintro F3 ⟨i2, k2, _u⟩ hF4 ⟨H, hik2⟩
  refine Cd.as (e' := [(0, Sl.v s_a0), (12, Sl.v s_a0), (13, .int .i64 (a0.length : Int)), (14, .int .i64 (i2 : Int))]) (L' := L) ⟨rfl, rfl, rfl, rfl, trivial⟩ rfl ?_
  rcases k2 with _ | k2
  · have hc2 : decide ((i2 : Int) < (a0.length : Int)) = false := decide_eq_false (by omega)
    replace H := rangeM_end H
    refine Cd.seq ?_
    refine Cd.region ?_
    refine Lst.run rfl rfl (by decide) (Ev.lss rfl rfl) ?_
    refine Lst.nil ?_
    refine At.then ?_
    refine Cd.seq ?_
    refine Cd.condF rfl hc2 ?_
    refine Cd.exit ?_
    refine At.then_exit ?_
    refine At.then_exit ?_
    refine At.in_exit ?_
    subst H
    replace H := HKl2
    refine At.then ?_
    refine Cd.seq ?_
    refine Cd.region ?_
    refine Lst.run rfl rfl (by decide) (Ev.assign rfl) ?_
    refine Lst.nil ?_
    refine At.then ?_
    obtain rfl := some_inj H
    refine Cd.ret ?_
    exact At.ret1 rfl (Res.tmp rfl) hF4 (List.Sublist.refl _) ⟨rfl, rfl⟩
  have hc2 : decide ((i2 : Int) < (a0.length : Int)) = true := decide_eq_true (by omega)
  obtain ⟨c2, H, hgo2, hbrk2, hret2⟩ := rangeM_go H
  unfold partref_HistoryErr_B0 at H
  try dsimp only at H
  refine Cd.seq ?_
  refine Cd.region ?_
  refine Lst.run rfl rfl (by decide) (Ev.lss rfl rfl) ?_
  refine Lst.nil ?_
  refine At.then ?_
  refine Cd.seq ?_
  refine Cd.condT rfl hc2 ?_
  refine Cd.skip ?_
  refine At.then ?_
  refine Cd.seq ?_
  refine Cd.block ?_
  refine Cd.seq ?_
  refine Cd.region ?_
  refine Lst.run rfl rfl (by decide) (Ev.move rfl) ?_
  obtain ⟨x5, h6, H⟩ := bind_some H
  have g7 := lat_some h6
  refine Lst.run rfl rfl (by decide) (Ev.indexS (α := Event) (xs := a0) rfl rfl Try.runUnderlying24 Try.sizeOf75 rfl (by decide) (hs_a0.mono hF4 hM) g7.1 g7.2.1) ?_
  refine Lst.run rfl rfl (by decide) (Ev.loadSA (α := Event) rfl (hs_a0.mono hF4 hM) Try.isAgg75 Try.sizeOf75 (ch := enc x5) (Enc.len _) (by decide) ((Get.elemN (s := 3) rfl g7.2.2 (Get.here _)).off (by omega))) ?_
  refine Lst.alloc (cs := enc Event.zero) rfl rfl (by decide) Try.zeroValue75 rfl (fun b8 => ?_)
  refine Lst.run rfl rfl (by decide) (Ev.assign rfl) ?_
  refine Lst.store (i := 0) rfl rfl rfl rfl rfl Try.sizeOf75 (vs := enc x5) rfl (Enc.len _) (Enc.one _) (cs' := enc x5) (Put.here ((Enc.len _).trans (Enc.len _).symm)) (L' := (.blk b8 (enc x5) 75) :: L) rfl ?_
  refine Lst.nil ?_
  refine At.then ?_
  refine Cd.seq ?_
  refine Cd.seq ?_
  refine Cd.region ?_
  refine Lst.run rfl rfl (by decide) (Ev.fieldAddr (off' := 0) rfl Try.runUnderlying75 rfl Try.sizeOf3 rfl rfl) ?_
  refine Lst.run rfl rfl (by decide) (Ev.load (i := 0) rfl rfl Try.isAgg3 (v := .int .i64 x5.Proc) ((Event.get_Proc (Get.here _)).off (by rfl))) ?_
  refine Lst.run rfl rfl (by decide) (Ev.lss rfl rfl) ?_
  refine Lst.run rfl rfl (by decide) (Ev.move rfl) ?_
  obtain ⟨o10, H, HKo10⟩ := bind_some H
  refine Lst.join (σ := Bool) 4 (fun y11 => [(0, Sl.v s_a0), (3, .int .i64 (i2 : Int)), (4, .pointer (some ⟨b8, 0, none⟩)), (12, Sl.v s_a0), (13, .int .i64 (a0.length : Int)), (14, .int .i64 (i2 : Int)), (26, .bool y11)]) (fun y11 => (.blk b8 (enc x5) 75) :: L) (fun _ y11 => y11 = o10) ?_ ?_
  · rcases Bool.eq_false_or_eq_true (decide (x5.Proc < (0 : Int))) with hb12 | hb12
    · replace H := ite_t hb12 H
      refine Lst.skip rfl rfl rfl hb12 rfl (by decide) ?_
      refine Lst.skip rfl rfl rfl hb12 rfl (by decide) ?_
      refine Lst.skip rfl rfl rfl hb12 rfl (by decide) ?_
      refine Lst.run rfl rfl (by decide) (Ev.pickT rfl hb12 rfl) ?_
      refine Lst.nil ?_
      exact At.meet true (FLe.refl _) ⟨rfl, rfl, rfl, rfl, rfl, rfl, rfl, trivial⟩ rfl (some_inj H)
    replace H := ite_f hb12 H
    refine Lst.runG rfl rfl rfl hb12 rfl (by decide) (Ev.fieldAddr (off' := 0) rfl Try.runUnderlying75 rfl Try.sizeOf3 rfl rfl) ?_
    refine Lst.runG rfl rfl rfl hb12 rfl (by decide) (Ev.load (i := 0) rfl rfl Try.isAgg3 (v := .int .i64 x5.Proc) ((Event.get_Proc (Get.here _)).off (by rfl))) ?_
    refine Lst.runG rfl rfl rfl hb12 rfl (by decide) (Ev.gtr rfl rfl) ?_
    refine Lst.run rfl rfl (by decide) (Ev.pickF rfl hb12 rfl) ?_
    refine Lst.nil ?_
    exact At.meet (decide (x5.Proc > (5 : Int))) (FLe.refl _) ⟨rfl, rfl, rfl, rfl, rfl, rfl, rfl, trivial⟩ rfl (some_inj H)
  rintro F13 y11 hF14 hy
  subst hy
  refine Lst.as (e' := [(0, Sl.v s_a0), (3, .int .i64 (i2 : Int)), (4, .pointer (some ⟨b8, 0, none⟩)), (12, Sl.v s_a0), (13, .int .i64 (a0.length : Int)), (14, .int .i64 (i2 : Int)), (26, .bool y11)]) (L' := (.blk b8 (enc x5) 75) :: L) ⟨rfl, rfl, rfl, rfl, rfl, rfl, rfl, trivial⟩ rfl ?_
  replace H := HKo10
  refine Lst.run rfl rfl (by decide) (Ev.move rfl) ?_
  obtain ⟨o15, H, HKo15⟩ := bind_some H
  refine Lst.join (σ := Bool) 4 (fun y16 => [(0, Sl.v s_a0), (3, .int .i64 (i2 : Int)), (4, .pointer (some ⟨b8, 0, none⟩)), (12, Sl.v s_a0), (13, .int .i64 (a0.length : Int)), (14, .int .i64 (i2 : Int)), (31, .bool y16)]) (fun y16 => (.blk b8 (enc x5) 75) :: L) (fun _ y16 => y16 = o15) ?_ ?_
  · rcases Bool.eq_false_or_eq_true y11 with hb17 | hb17
    · replace H := ite_t hb17 H
      refine Lst.skip rfl rfl rfl hb17 rfl (by decide) ?_
      refine Lst.skip rfl rfl rfl hb17 rfl (by decide) ?_
      refine Lst.skip rfl rfl rfl hb17 rfl (by decide) ?_
      refine Lst.run rfl rfl (by decide) (Ev.pickT rfl hb17 rfl) ?_
      refine Lst.nil ?_
      exact At.meet true (FLe.refl _) ⟨rfl, rfl, rfl, rfl, rfl, rfl, rfl, trivial⟩ rfl (some_inj H)
    replace H := ite_f hb17 H
    refine Lst.runG rfl rfl rfl hb17 rfl (by decide) (Ev.fieldAddr (off' := 2) rfl Try.runUnderlying75 rfl Try.sizeOf3 rfl rfl) ?_
    refine Lst.runG rfl rfl rfl hb17 rfl (by decide) (Ev.load (i := 0) rfl rfl Try.isAgg3 (v := .int .i64 x5.Msg) ((Event.get_Msg (Get.here _)).off (by rfl))) ?_
    refine Lst.runG rfl rfl rfl hb17 rfl (by decide) (Ev.lss rfl rfl) ?_
    refine Lst.run rfl rfl (by decide) (Ev.pickF rfl hb17 rfl) ?_
    refine Lst.nil ?_
    exact At.meet (decide (x5.Msg < (0 : Int))) (FLe.refl _) ⟨rfl, rfl, rfl, rfl, rfl, rfl, rfl, trivial⟩ rfl (some_inj H)
  rintro F18 y16 hF19 hy
  subst hy
  refine Lst.as (e' := [(0, Sl.v s_a0), (3, .int .i64 (i2 : Int)), (4, .pointer (some ⟨b8, 0, none⟩)), (12, Sl.v s_a0), (13, .int .i64 (a0.length : Int)), (14, .int .i64 (i2 : Int)), (31, .bool y16)]) (L' := (.blk b8 (enc x5) 75) :: L) ⟨rfl, rfl, rfl, rfl, rfl, rfl, rfl, trivial⟩ rfl ?_
  replace H := HKo15
  refine Lst.run rfl rfl (by decide) (Ev.move rfl) ?_
  obtain ⟨o20, H, HKo20⟩ := bind_some H
  refine Lst.join (σ := Bool) 4 (fun y21 => [(0, Sl.v s_a0), (3, .int .i64 (i2 : Int)), (4, .pointer (some ⟨b8, 0, none⟩)), (12, Sl.v s_a0), (13, .int .i64 (a0.length : Int)), (14, .int .i64 (i2 : Int)), (36, .bool y21)]) (fun y21 => (.blk b8 (enc x5) 75) :: L) (fun _ y21 => y21 = o20) ?_ ?_
  · rcases Bool.eq_false_or_eq_true y16 with hb22 | hb22
    · replace H := ite_t hb22 H
      refine Lst.skip rfl rfl rfl hb22 rfl (by decide) ?_
      refine Lst.skip rfl rfl rfl hb22 rfl (by decide) ?_
      refine Lst.skip rfl rfl rfl hb22 rfl (by decide) ?_
      refine Lst.run rfl rfl (by decide) (Ev.pickT rfl hb22 rfl) ?_
      refine Lst.nil ?_
      exact At.meet true (FLe.refl _) ⟨rfl, rfl, rfl, rfl, rfl, rfl, rfl, trivial⟩ rfl (some_inj H)
    replace H := ite_f hb22 H
    refine Lst.runG rfl rfl rfl hb22 rfl (by decide) (Ev.fieldAddr (off' := 2) rfl Try.runUnderlying75 rfl Try.sizeOf3 rfl rfl) ?_
    refine Lst.runG rfl rfl rfl hb22 rfl (by decide) (Ev.load (i := 0) rfl rfl Try.isAgg3 (v := .int .i64 x5.Msg) ((Event.get_Msg (Get.here _)).off (by rfl))) ?_
    refine Lst.runG rfl rfl rfl hb22 rfl (by decide) (Ev.gtr rfl rfl) ?_
    refine Lst.run rfl rfl (by decide) (Ev.pickF rfl hb22 rfl) ?_
    refine Lst.nil ?_
    exact At.meet (decide (x5.Msg > (29 : Int))) (FLe.refl _) ⟨rfl, rfl, rfl, rfl, rfl, rfl, rfl, trivial⟩ rfl (some_inj H)
  rintro F23 y21 hF24 hy
  subst hy
  refine Lst.as (e' := [(0, Sl.v s_a0), (3, .int .i64 (i2 : Int)), (4, .pointer (some ⟨b8, 0, none⟩)), (12, Sl.v s_a0), (13, .int .i64 (a0.length : Int)), (14, .int .i64 (i2 : Int)), (36, .bool y21)]) (L' := (.blk b8 (enc x5) 75) :: L) ⟨rfl, rfl, rfl, rfl, rfl, rfl, rfl, trivial⟩ rfl ?_
  replace H := HKo20
  refine Lst.nil ?_
  refine At.then ?_
  rcases Bool.eq_false_or_eq_true y21 with hb25 | hb25
  · replace H := ite_t hb25 H
    refine Cd.condT rfl hb25 ?_
    refine Cd.seq ?_
    refine Cd.region ?_
    refine Lst.run rfl rfl (by decide) (Ev.assign rfl) ?_
    refine Lst.nil ?_
    refine At.then ?_
    have H := hret2 _ (some_inj H).symm
    subst H
    replace H := HKl2
    obtain rfl := some_inj H
    refine Cd.ret ?_
    refine At.then_ret ?_
    refine At.in_ret ?_
    refine At.then_ret ?_
    refine At.then_ret ?_
    refine At.in_ret ?_
    refine At.then_ret ?_
    exact At.ret1 rfl (Res.tmp rfl) (FLe.trans (FLe.trans (FLe.trans hF4 hF14) hF19) hF24) (List.Sublist.cons _ (List.Sublist.refl _)) ⟨rfl, rfl⟩
  replace H := ite_f hb25 H
  refine Cd.condF rfl hb25 ?_
  refine Cd.skip ?_
  refine At.then ?_
  refine Cd.seq ?_
  refine Cd.region ?_
  refine Lst.run rfl rfl (by decide) (Ev.assign rfl) ?_
  refine Lst.run rfl rfl (by decide) (Ev.assign rfl) ?_
  refine Lst.nil ?_
  refine At.then ?_
  refine Cd.seq ?_
  refine Cd.seq ?_
  refine Cd.region ?_
  refine Lst.run rfl rfl (by decide) (Ev.move rfl) ?_
  refine Lst.run rfl rfl (by decide) (Ev.move rfl) ?_
  obtain ⟨m26, h27, H⟩ := bind_some H
  obtain ⟨g28, gl29⟩ := cutL_some h27
  have hq30 : Rd w0 F M (s_a0.cut (0 : Int).toNat ((i2 : Int) : Int).toNat 3) m26 := by rw [← gl29]; exact Rd.cut (by decide) hs_a0 (by omega) (by omega)
  refine Lst.run rfl rfl (by decide) (Ev.cut (α := Event) (xs := a0) (i := 0) (j := (i2 : Int)) rfl rfl rfl Try.runUnderlying24 Try.sizeOf75 rfl (by decide) (hs_a0.mono (FLe.trans (FLe.trans (FLe.trans hF4 hF14) hF19) hF24) (List.Sublist.cons _ hM)) g28.1 g28.2.1 g28.2.2) ?_
  refine Lst.run rfl rfl (by decide) (Ev.lenS (α := Event) (xs := m26) (by decide) rfl rfl Try.runUnderlying24 (hq30.mono (FLe.trans (FLe.trans (FLe.trans hF4 hF14) hF19) hF24) (List.Sublist.cons _ hM))) ?_
  refine Lst.run rfl rfl (by decide) (Ev.move rfl) ?_
  refine Lst.nil ?_
  refine At.then ?_
  refine Cd.block ?_
  refine Cd.bound (Rd.le (α := Event) (xs := m26) (by decide) (hq30.mono (FLe.trans (FLe.trans (FLe.trans hF4 hF14) hF19) hF24) (List.Sublist.cons _ hM))) (fun hN84 => ?_)
  obtain ⟨ol31, H, HKl31⟩ := bind_some H
  refine Cd.loop (σ := Nat × Nat × Int × Bool) (fun (i31, k31, y32, y33) => [(0, Sl.v s_a0), (4, .pointer (some ⟨b8, 0, none⟩)), (5, .int .i64 y32), (6, .bool y33), (12, Sl.v s_a0), (13, .int .i64 (a0.length : Int)), (14, .int .i64 (i2 : Int)), (39, Sl.v (s_a0.cut (0 : Int).toNat ((i2 : Int) : Int).toNat 3)), (40, .int .i64 (m26.length : Int)), (41, .int .i64 (i31 : Int))]) (fun (i31, k31, y32, y33) => (.blk b8 (enc x5) 75) :: L) (fun _ => (fun (i31, k31, y32, y33) => rangeF (partref_HistoryErr_B2 x5 m26) k31 i31 (y32, y33) = some ol31 ∧ i31 + k31 = m26.length)) (fun (i31, k31, y32, y33) => k31) (0, m26.length, (-1 : Int), false) ⟨rfl, rfl, rfl, rfl, rfl, rfl, rfl, rfl, rfl, rfl, trivial⟩ rfl ⟨H, by omega⟩ ?_
  rintro F34 ⟨i31, k31, y32, y33⟩ hF35 ⟨H, hik31⟩
  refine Cd.as (e' := [(0, Sl.v s_a0), (4, .pointer (some ⟨b8, 0, none⟩)), (5, .int .i64 y32), (6, .bool y33), (12, Sl.v s_a0), (13, .int .i64 (a0.length : Int)), (14, .int .i64 (i2 : Int)), (39, Sl.v (s_a0.cut (0 : Int).toNat ((i2 : Int) : Int).toNat 3)), (40, .int .i64 (m26.length : Int)), (41, .int .i64 (i31 : Int))]) (L' := (.blk b8 (enc x5) 75) :: L) ⟨rfl, rfl, rfl, rfl, rfl, rfl, rfl, rfl, rfl, rfl, trivial⟩ rfl ?_
  rcases k31 with _ | k31
  · have hc31 : decide ((i31 : Int) < (m26.length : Int)) = false := decide_eq_false (by omega)
    replace H := rangeF_end H
    refine Cd.seq ?_
    refine Cd.region ?_
    refine Lst.run rfl rfl (by decide) (Ev.lss rfl rfl) ?_
    refine Lst.nil ?_
    refine At.then ?_
    refine Cd.seq ?_
    refine Cd.condF rfl hc31 ?_
    refine Cd.exit ?_
    refine At.then_exit ?_
    refine At.then_exit ?_
    refine At.in_exit ?_
    subst H
    replace H := HKl31
    refine At.then ?_
    refine Cd.block ?_
    refine Cd.seq ?_
    refine Cd.region ?_
    refine Lst.run rfl rfl (by decide) (Ev.fieldAddr (off' := 1) rfl Try.runUnderlying75 rfl Try.sizeOf3 rfl rfl) ?_
    refine Lst.run rfl rfl (by decide) (Ev.load (i := 0) rfl rfl Try.isAgg3 (v := .int .i64 x5.Kind) ((Event.get_Kind (Get.here _)).off (by rfl))) ?_
    refine Lst.run rfl rfl (by decide) (Ev.eql rfl rfl) ?_
    refine Lst.run rfl rfl (by decide) (Ev.move rfl) ?_
    obtain ⟨o56, H, HKo56⟩ := bind_some H
    refine Lst.join (σ := Bool) 4 (fun y57 => [(0, Sl.v s_a0), (4, .pointer (some ⟨b8, 0, none⟩)), (5, .int .i64 y32), (6, .bool y33), (12, Sl.v s_a0), (13, .int .i64 (a0.length : Int)), (14, .int .i64 (i2 : Int)), (72, .bool y57)]) (fun y57 => (.blk b8 (enc x5) 75) :: L) (fun _ y57 => y57 = o56) ?_ ?_
    · rcases (Bool.eq_false_or_eq_true (x5.Kind == (1 : Int))).symm with hb58 | hb58
      · replace H := ite_f hb58 H
        refine Lst.skip rfl rfl rfl hb58 rfl (by decide) ?_
        refine Lst.skip rfl rfl rfl hb58 rfl (by decide) ?_
        refine Lst.skip rfl rfl rfl hb58 rfl (by decide) ?_
        refine Lst.run rfl rfl (by decide) (Ev.pickF rfl hb58 rfl) ?_
        refine Lst.nil ?_
        exact At.meet false (FLe.refl _) ⟨rfl, rfl, rfl, rfl, rfl, rfl, rfl, rfl, trivial⟩ rfl (some_inj H)
      replace H := ite_t hb58 H
      refine Lst.runG rfl rfl rfl hb58 rfl (by decide) (Ev.fieldAddr (off' := 2) rfl Try.runUnderlying75 rfl Try.sizeOf3 rfl rfl) ?_
      refine Lst.runG rfl rfl rfl hb58 rfl (by decide) (Ev.load (i := 0) rfl rfl Try.isAgg3 (v := .int .i64 x5.Msg) ((Event.get_Msg (Get.here _)).off (by rfl))) ?_
      refine Lst.runG rfl rfl rfl hb58 rfl (by decide) (Ev.eql rfl rfl) ?_
      refine Lst.run rfl rfl (by decide) (Ev.pickT rfl hb58 rfl) ?_
      refine Lst.nil ?_
      exact At.meet (x5.Msg == (0 : Int)) (FLe.refl _) ⟨rfl, rfl, rfl, rfl, rfl, rfl, rfl, rfl, trivial⟩ rfl (some_inj H)
    rintro F59 y57 hF60 hy
    subst hy
    refine Lst.as (e' := [(0, Sl.v s_a0), (4, .pointer (some ⟨b8, 0, none⟩)), (5, .int .i64 y32), (6, .bool y33), (12, Sl.v s_a0), (13, .int .i64 (a0.length : Int)), (14, .int .i64 (i2 : Int)), (72, .bool y57)]) (L' := (.blk b8 (enc x5) 75) :: L) ⟨rfl, rfl, rfl, rfl, rfl, rfl, rfl, rfl, trivial⟩ rfl ?_
    replace H := HKo56
    refine Lst.run rfl rfl (by decide) (Ev.assign rfl) ?_
    refine Lst.nil ?_
    refine At.then ?_
    rcases Bool.eq_false_or_eq_true y57 with hb61 | hb61
    · replace H := ite_t hb61 H
      refine Cd.condT rfl hb61 ?_
      refine Cd.skip ?_
      refine At.in_normal ?_
      refine At.in_normal ?_
      refine At.then ?_
      refine Cd.region ?_
      refine Lst.run rfl rfl (by decide) (Ev.incr (by omega) rfl rfl) ?_
      refine Lst.run rfl rfl (by decide) (Ev.move rfl) ?_
      refine Lst.nil ?_
      refine At.less (L' := L) (List.Sublist.cons _ (List.Sublist.refl _)) ?_
      exact At.meet (i2 + 1, k2, ()) (FLe.trans (FLe.trans (FLe.trans (FLe.trans (FLe.trans hF4 hF14) hF19) hF24) hF35) hF60) ⟨rfl, rfl, rfl, rfl, trivial⟩ rfl ⟨⟨hgo2 _ (some_inj H).symm, by omega⟩, Nat.lt_succ_self _⟩
    replace H := ite_f hb61 H
    refine Cd.condF rfl hb61 ?_
    refine Cd.seq ?_
    refine Cd.region ?_
    refine Lst.run rfl rfl (by decide) (Ev.fieldAddr (off' := 1) rfl Try.runUnderlying75 rfl Try.sizeOf3 rfl rfl) ?_
    refine Lst.run rfl rfl (by decide) (Ev.load (i := 0) rfl rfl Try.isAgg3 (v := .int .i64 x5.Kind) ((Event.get_Kind (Get.here _)).off (by rfl))) ?_
    refine Lst.run rfl rfl (by decide) (Ev.eql rfl rfl) ?_
    refine Lst.run rfl rfl (by decide) (Ev.move rfl) ?_
    obtain ⟨o62, H, HKo62⟩ := bind_some H
    refine Lst.join (σ := Bool) 3 (fun y63 => [(0, Sl.v s_a0), (4, .pointer (some ⟨b8, 0, none⟩)), (5, .int .i64 y32), (6, .bool y33), (12, Sl.v s_a0), (13, .int .i64 (a0.length : Int)), (14, .int .i64 (i2 : Int)), (80, .bool y63)]) (fun y63 => (.blk b8 (enc x5) 75) :: L) (fun _ y63 => y63 = o62) ?_ ?_
    · rcases (Bool.eq_false_or_eq_true (x5.Kind == (2 : Int))).symm with hb64 | hb64
      · replace H := ite_f hb64 H
        refine Lst.skip rfl rfl rfl hb64 rfl (by decide) ?_
        refine Lst.skip rfl rfl rfl hb64 rfl (by decide) ?_
        refine Lst.run rfl rfl (by decide) (Ev.pickF rfl hb64 rfl) ?_
        refine Lst.nil ?_
        exact At.meet false (FLe.refl _) ⟨rfl, rfl, rfl, rfl, rfl, rfl, rfl, rfl, trivial⟩ rfl (some_inj H)
      replace H := ite_t hb64 H
      refine Lst.runG rfl rfl rfl hb64 rfl (by decide) (Ev.move rfl) ?_
      refine Lst.runG rfl rfl rfl hb64 rfl (by decide) (Ev.lss rfl rfl) ?_
      refine Lst.run rfl rfl (by decide) (Ev.pickT rfl hb64 rfl) ?_
      refine Lst.nil ?_
      exact At.meet (decide (y32 < (0 : Int))) (FLe.refl _) ⟨rfl, rfl, rfl, rfl, rfl, rfl, rfl, rfl, trivial⟩ rfl (some_inj H)
    rintro F65 y63 hF66 hy
    subst hy
    refine Lst.as (e' := [(0, Sl.v s_a0), (4, .pointer (some ⟨b8, 0, none⟩)), (5, .int .i64 y32), (6, .bool y33), (12, Sl.v s_a0), (13, .int .i64 (a0.length : Int)), (14, .int .i64 (i2 : Int)), (80, .bool y63)]) (L' := (.blk b8 (enc x5) 75) :: L) ⟨rfl, rfl, rfl, rfl, rfl, rfl, rfl, rfl, trivial⟩ rfl ?_
    replace H := HKo62
    refine Lst.run rfl rfl (by decide) (Ev.assign rfl) ?_
    refine Lst.nil ?_
    refine At.then ?_
    rcases Bool.eq_false_or_eq_true y63 with hb67 | hb67
    · replace H := ite_t hb67 H
      refine Cd.condT rfl hb67 ?_
      refine Cd.skip ?_
      refine At.in_normal ?_
      refine At.in_normal ?_
      refine At.then ?_
      refine Cd.region ?_
      refine Lst.run rfl rfl (by decide) (Ev.incr (by omega) rfl rfl) ?_
      refine Lst.run rfl rfl (by decide) (Ev.move rfl) ?_
      refine Lst.nil ?_
      refine At.less (L' := L) (List.Sublist.cons _ (List.Sublist.refl _)) ?_
      exact At.meet (i2 + 1, k2, ()) (FLe.trans (FLe.trans (FLe.trans (FLe.trans (FLe.trans (FLe.trans hF4 hF14) hF19) hF24) hF35) hF60) hF66) ⟨rfl, rfl, rfl, rfl, trivial⟩ rfl ⟨⟨hgo2 _ (some_inj H).symm, by omega⟩, Nat.lt_succ_self _⟩
    replace H := ite_f hb67 H
    refine Cd.condF rfl hb67 ?_
    refine Cd.seq ?_
    refine Cd.region ?_
    refine Lst.run rfl rfl (by decide) (Ev.fieldAddr (off' := 1) rfl Try.runUnderlying75 rfl Try.sizeOf3 rfl rfl) ?_
    refine Lst.run rfl rfl (by decide) (Ev.load (i := 0) rfl rfl Try.isAgg3 (v := .int .i64 x5.Kind) ((Event.get_Kind (Get.here _)).off (by rfl))) ?_
    refine Lst.run rfl rfl (by decide) (Ev.eql rfl rfl) ?_
    refine Lst.run rfl rfl (by decide) (Ev.move rfl) ?_
    obtain ⟨o68, H, HKo68⟩ := bind_some H
    refine Lst.join (σ := Bool) 3 (fun y69 => [(0, Sl.v s_a0), (4, .pointer (some ⟨b8, 0, none⟩)), (5, .int .i64 y32), (6, .bool y33), (12, Sl.v s_a0), (13, .int .i64 (a0.length : Int)), (14, .int .i64 (i2 : Int)), (88, .bool y69)]) (fun y69 => (.blk b8 (enc x5) 75) :: L) (fun _ y69 => y69 = o68) ?_ ?_
    · rcases (Bool.eq_false_or_eq_true (x5.Kind == (3 : Int))).symm with hb70 | hb70
      · replace H := ite_f hb70 H
        refine Lst.skip rfl rfl rfl hb70 rfl (by decide) ?_
        refine Lst.skip rfl rfl rfl hb70 rfl (by decide) ?_
        refine Lst.run rfl rfl (by decide) (Ev.pickF rfl hb70 rfl) ?_
        refine Lst.nil ?_
        exact At.meet false (FLe.refl _) ⟨rfl, rfl, rfl, rfl, rfl, rfl, rfl, rfl, trivial⟩ rfl (some_inj H)
      replace H := ite_t hb70 H
      refine Lst.runG rfl rfl rfl hb70 rfl (by decide) (Ev.move rfl) ?_
      refine Lst.runG rfl rfl rfl hb70 rfl (by decide) (Ev.geq rfl rfl) ?_
      refine Lst.run rfl rfl (by decide) (Ev.pickT rfl hb70 rfl) ?_
      refine Lst.nil ?_
      exact At.meet (decide (y32 ≥ (0 : Int))) (FLe.refl _) ⟨rfl, rfl, rfl, rfl, rfl, rfl, rfl, rfl, trivial⟩ rfl (some_inj H)
    rintro F71 y69 hF72 hy
    subst hy
    refine Lst.as (e' := [(0, Sl.v s_a0), (4, .pointer (some ⟨b8, 0, none⟩)), (5, .int .i64 y32), (6, .bool y33), (12, Sl.v s_a0), (13, .int .i64 (a0.length : Int)), (14, .int .i64 (i2 : Int)), (88, .bool y69)]) (L' := (.blk b8 (enc x5) 75) :: L) ⟨rfl, rfl, rfl, rfl, rfl, rfl, rfl, rfl, trivial⟩ rfl ?_
    replace H := HKo68
    refine Lst.run rfl rfl (by decide) (Ev.move rfl) ?_
    obtain ⟨o73, H, HKo73⟩ := bind_some H
    refine Lst.join (σ := Bool) 5 (fun y74 => [(0, Sl.v s_a0), (6, .bool y33), (12, Sl.v s_a0), (13, .int .i64 (a0.length : Int)), (14, .int .i64 (i2 : Int)), (94, .bool y74)]) (fun y74 => (.blk b8 (enc x5) 75) :: L) (fun _ y74 => y74 = o73) ?_ ?_
    · rcases (Bool.eq_false_or_eq_true y69).symm with hb75 | hb75
      · replace H := ite_f hb75 H
        refine Lst.skip rfl rfl rfl hb75 rfl (by decide) ?_
        refine Lst.skip rfl rfl rfl hb75 rfl (by decide) ?_
        refine Lst.skip rfl rfl rfl hb75 rfl (by decide) ?_
        refine Lst.skip rfl rfl rfl hb75 rfl (by decide) ?_
        refine Lst.run rfl rfl (by decide) (Ev.pickF rfl hb75 rfl) ?_
        refine Lst.nil ?_
        exact At.meet false (FLe.refl _) ⟨rfl, rfl, rfl, rfl, rfl, rfl, trivial⟩ rfl (some_inj H)
      replace H := ite_t hb75 H
      refine Lst.runG rfl rfl rfl hb75 rfl (by decide) (Ev.move rfl) ?_
      refine Lst.runG rfl rfl rfl hb75 rfl (by decide) (Ev.fieldAddr (off' := 0) rfl Try.runUnderlying75 rfl Try.sizeOf3 rfl rfl) ?_
      refine Lst.runG rfl rfl rfl hb75 rfl (by decide) (Ev.load (i := 0) rfl rfl Try.isAgg3 (v := .int .i64 x5.Proc) ((Event.get_Proc (Get.here _)).off (by rfl))) ?_
      refine Lst.runG rfl rfl rfl hb75 rfl (by decide) (Ev.neq rfl rfl) ?_
      refine Lst.run rfl rfl (by decide) (Ev.pickT rfl hb75 rfl) ?_
      refine Lst.nil ?_
      exact At.meet (y32 != x5.Proc) (FLe.refl _) ⟨rfl, rfl, rfl, rfl, rfl, rfl, trivial⟩ rfl (some_inj H)
    rintro F76 y74 hF77 hy
    subst hy
    refine Lst.as (e' := [(0, Sl.v s_a0), (6, .bool y33), (12, Sl.v s_a0), (13, .int .i64 (a0.length : Int)), (14, .int .i64 (i2 : Int)), (94, .bool y74)]) (L' := (.blk b8 (enc x5) 75) :: L) ⟨rfl, rfl, rfl, rfl, rfl, rfl, trivial⟩ rfl ?_
    replace H := HKo73
    refine Lst.run rfl rfl (by decide) (Ev.move rfl) ?_
    obtain ⟨o78, H, HKo78⟩ := bind_some H
    refine Lst.join (σ := Bool) 3 (fun y79 => [(0, Sl.v s_a0), (12, Sl.v s_a0), (13, .int .i64 (a0.length : Int)), (14, .int .i64 (i2 : Int)), (98, .bool y79)]) (fun y79 => (.blk b8 (enc x5) 75) :: L) (fun _ y79 => y79 = o78) ?_ ?_
    · rcases (Bool.eq_false_or_eq_true y74).symm with hb80 | hb80
      · replace H := ite_f hb80 H
        refine Lst.skip rfl rfl rfl hb80 rfl (by decide) ?_
        refine Lst.skip rfl rfl rfl hb80 rfl (by decide) ?_
        refine Lst.run rfl rfl (by decide) (Ev.pickF rfl hb80 rfl) ?_
        refine Lst.nil ?_
        exact At.meet false (FLe.refl _) ⟨rfl, rfl, rfl, rfl, rfl, trivial⟩ rfl (some_inj H)
      replace H := ite_t hb80 H
      refine Lst.runG rfl rfl rfl hb80 rfl (by decide) (Ev.move rfl) ?_
      refine Lst.runG rfl rfl rfl hb80 rfl (by decide) (Ev.not rfl) ?_
      refine Lst.run rfl rfl (by decide) (Ev.pickT rfl hb80 rfl) ?_
      refine Lst.nil ?_
      exact At.meet (!y33) (FLe.refl _) ⟨rfl, rfl, rfl, rfl, rfl, trivial⟩ rfl (some_inj H)
    rintro F81 y79 hF82 hy
    subst hy
    refine Lst.as (e' := [(0, Sl.v s_a0), (12, Sl.v s_a0), (13, .int .i64 (a0.length : Int)), (14, .int .i64 (i2 : Int)), (98, .bool y79)]) (L' := (.blk b8 (enc x5) 75) :: L) ⟨rfl, rfl, rfl, rfl, rfl, trivial⟩ rfl ?_
    replace H := HKo78
    refine Lst.run rfl rfl (by decide) (Ev.assign rfl) ?_
    refine Lst.nil ?_
    refine At.then ?_
    rcases (Bool.eq_false_or_eq_true y79).symm with hb83 | hb83
    · replace H := ite_f hb83 H
      refine Cd.condF rfl hb83 ?_
      refine Cd.seq ?_
      refine Cd.region ?_
      refine Lst.run rfl rfl (by decide) (Ev.assign rfl) ?_
      refine Lst.nil ?_
      refine At.then ?_
      have H := hret2 _ (some_inj H).symm
      subst H
      replace H := HKl2
      obtain rfl := some_inj H
      refine Cd.ret ?_
      refine At.in_ret ?_
      refine At.in_ret ?_
      refine At.then_ret ?_
      refine At.then_ret ?_
      refine At.in_ret ?_
      refine At.then_ret ?_
      exact At.ret1 rfl (Res.tmp rfl) (FLe.trans (FLe.trans (FLe.trans (FLe.trans (FLe.trans (FLe.trans (FLe.trans (FLe.trans (FLe.trans hF4 hF14) hF19) hF24) hF35) hF60) hF66) hF72) hF77) hF82) (List.Sublist.cons _ (List.Sublist.refl _)) ⟨rfl, rfl⟩
    replace H := ite_t hb83 H
    refine Cd.condT rfl hb83 ?_
    refine Cd.skip ?_
    refine At.in_normal ?_
    refine At.in_normal ?_
    refine At.then ?_
    refine Cd.region ?_
    refine Lst.run rfl rfl (by decide) (Ev.incr (by omega) rfl rfl) ?_
    refine Lst.run rfl rfl (by decide) (Ev.move rfl) ?_
    refine Lst.nil ?_
    refine At.less (L' := L) (List.Sublist.cons _ (List.Sublist.refl _)) ?_
    exact At.meet (i2 + 1, k2, ()) (FLe.trans (FLe.trans (FLe.trans (FLe.trans (FLe.trans (FLe.trans (FLe.trans (FLe.trans (FLe.trans hF4 hF14) hF19) hF24) hF35) hF60) hF66) hF72) hF77) hF82) ⟨rfl, rfl, rfl, rfl, trivial⟩ rfl ⟨⟨hgo2 _ (some_inj H).symm, by omega⟩, Nat.lt_succ_self _⟩
  have hc31 : decide ((i31 : Int) < (m26.length : Int)) = true := decide_eq_true (by omega)
  obtain ⟨c31, H, hgo31⟩ := rangeF_go H
  unfold partref_HistoryErr_B2 at H
  try dsimp only at H
  refine Cd.seq ?_
  refine Cd.region ?_
  refine Lst.run rfl rfl (by decide) (Ev.lss rfl rfl) ?_
  refine Lst.nil ?_
  refine At.then ?_
  refine Cd.seq ?_
  refine Cd.condT rfl hc31 ?_
  refine Cd.skip ?_
  refine At.then ?_
  refine Cd.seq ?_
  refine Cd.block ?_
  refine Cd.seq ?_
  refine Cd.region ?_
  obtain ⟨x36, h37, H⟩ := bind_some H
  have g38 := lat_some h37
  refine Lst.run rfl rfl (by decide) (Ev.indexS (α := Event) (xs := m26) rfl rfl Try.runUnderlying24 Try.sizeOf75 rfl (by decide) (hq30.mono (FLe.trans (FLe.trans (FLe.trans (FLe.trans hF4 hF14) hF19) hF24) hF35) (List.Sublist.cons _ hM)) g38.1 g38.2.1) ?_
  refine Lst.run rfl rfl (by decide) (Ev.loadSA (α := Event) rfl (hq30.mono (FLe.trans (FLe.trans (FLe.trans (FLe.trans hF4 hF14) hF19) hF24) hF35) (List.Sublist.cons _ hM)) Try.isAgg75 Try.sizeOf75 (ch := enc x36) (Enc.len _) (by decide) ((Get.elemN (s := 3) rfl g38.2.2 (Get.here _)).off (by omega))) ?_
  refine Lst.alloc (cs := enc Event.zero) rfl rfl (by decide) Try.zeroValue75 rfl (fun b39 => ?_)
  refine Lst.store (i := 0) rfl rfl rfl rfl rfl Try.sizeOf75 (vs := enc x36) rfl (Enc.len _) (Enc.one _) (cs' := enc x36) (Put.here ((Enc.len _).trans (Enc.len _).symm)) (L' := (.blk b39 (enc x36) 75) :: (.blk b8 (enc x5) 75) :: L) rfl ?_
  refine Lst.nil ?_
  refine At.then ?_
  obtain ⟨o42, H, HKo42⟩ := bind_some H
  refine Cd.join (σ := Int) (fun y41 => [(0, Sl.v s_a0), (4, .pointer (some ⟨b8, 0, none⟩)), (5, .int .i64 y41), (6, .bool y33), (8, .pointer (some ⟨b39, 0, none⟩)), (12, Sl.v s_a0), (13, .int .i64 (a0.length : Int)), (14, .int .i64 (i2 : Int)), (39, Sl.v (s_a0.cut (0 : Int).toNat ((i2 : Int) : Int).toNat 3)), (40, .int .i64 (m26.length : Int)), (41, .int .i64 (i31 : Int))]) (fun y41 => (.blk b39 (enc x36) 75) :: (.blk b8 (enc x5) 75) :: L) (fun _ y41 => y41 = o42) ?_ ?_
  · refine Cd.seq ?_
    refine Cd.region ?_
    refine Lst.run rfl rfl (by decide) (Ev.fieldAddr (off' := 1) rfl Try.runUnderlying75 rfl Try.sizeOf3 rfl rfl) ?_
    refine Lst.run rfl rfl (by decide) (Ev.load (i := 0) rfl rfl Try.isAgg3 (v := .int .i64 x36.Kind) ((Event.get_Kind (Get.here _)).off (by rfl))) ?_
    refine Lst.run rfl rfl (by decide) (Ev.eql rfl rfl) ?_
    refine Lst.run rfl rfl (by decide) (Ev.move rfl) ?_
    obtain ⟨o43, H, HKo43⟩ := bind_some H
    refine Lst.join (σ := Bool) 6 (fun y44 => [(0, Sl.v s_a0), (4, .pointer (some ⟨b8, 0, none⟩)), (5, .int .i64 y32), (6, .bool y33), (8, .pointer (some ⟨b39, 0, none⟩)), (12, Sl.v s_a0), (13, .int .i64 (a0.length : Int)), (14, .int .i64 (i2 : Int)), (39, Sl.v (s_a0.cut (0 : Int).toNat ((i2 : Int) : Int).toNat 3)), (40, .int .i64 (m26.length : Int)), (41, .int .i64 (i31 : Int)), (54, .bool y44)]) (fun y44 => (.blk b39 (enc x36) 75) :: (.blk b8 (enc x5) 75) :: L) (fun _ y44 => y44 = o43) ?_ ?_
    · rcases (Bool.eq_false_or_eq_true (x36.Kind == (2 : Int))).symm with hb45 | hb45
      · replace H := ite_f hb45 H
        refine Lst.skip rfl rfl rfl hb45 rfl (by decide) ?_
        refine Lst.skip rfl rfl rfl hb45 rfl (by decide) ?_
        refine Lst.skip rfl rfl rfl hb45 rfl (by decide) ?_
        refine Lst.skip rfl rfl rfl hb45 rfl (by decide) ?_
        refine Lst.skip rfl rfl rfl hb45 rfl (by decide) ?_
        refine Lst.run rfl rfl (by decide) (Ev.pickF rfl hb45 rfl) ?_
        refine Lst.nil ?_
        exact At.meet false (FLe.refl _) ⟨rfl, rfl, rfl, rfl, rfl, rfl, rfl, rfl, rfl, rfl, rfl, rfl, trivial⟩ rfl (some_inj H)
      replace H := ite_t hb45 H
      refine Lst.runG rfl rfl rfl hb45 rfl (by decide) (Ev.fieldAddr (off' := 2) rfl Try.runUnderlying75 rfl Try.sizeOf3 rfl rfl) ?_
      refine Lst.runG rfl rfl rfl hb45 rfl (by decide) (Ev.load (i := 0) rfl rfl Try.isAgg3 (v := .int .i64 x36.Msg) ((Event.get_Msg (Get.here _)).off (by rfl))) ?_
      refine Lst.runG rfl rfl rfl hb45 rfl (by decide) (Ev.fieldAddr (off' := 2) rfl Try.runUnderlying75 rfl Try.sizeOf3 rfl rfl) ?_
      refine Lst.runG rfl rfl rfl hb45 rfl (by decide) (Ev.load (i := 1) rfl rfl Try.isAgg3 (v := .int .i64 x5.Msg) ((Event.get_Msg (Get.here _)).off (by rfl))) ?_
      refine Lst.runG rfl rfl rfl hb45 rfl (by decide) (Ev.eql rfl rfl) ?_
      refine Lst.run rfl rfl (by decide) (Ev.pickT rfl hb45 rfl) ?_
      refine Lst.nil ?_
      exact At.meet (x36.Msg == x5.Msg) (FLe.refl _) ⟨rfl, rfl, rfl, rfl, rfl, rfl, rfl, rfl, rfl, rfl, rfl, rfl, trivial⟩ rfl (some_inj H)
    rintro F46 y44 hF47 hy
    subst hy
    refine Lst.as (e' := [(0, Sl.v s_a0), (4, .pointer (some ⟨b8, 0, none⟩)), (5, .int .i64 y32), (6, .bool y33), (8, .pointer (some ⟨b39, 0, none⟩)), (12, Sl.v s_a0), (13, .int .i64 (a0.length : Int)), (14, .int .i64 (i2 : Int)), (39, Sl.v (s_a0.cut (0 : Int).toNat ((i2 : Int) : Int).toNat 3)), (40, .int .i64 (m26.length : Int)), (41, .int .i64 (i31 : Int)), (54, .bool y44)]) (L' := (.blk b39 (enc x36) 75) :: (.blk b8 (enc x5) 75) :: L) ⟨rfl, rfl, rfl, rfl, rfl, rfl, rfl, rfl, rfl, rfl, rfl, rfl, trivial⟩ rfl ?_
    replace H := HKo43
    refine Lst.nil ?_
    refine At.then ?_
    rcases (Bool.eq_false_or_eq_true y44).symm with hb48 | hb48
    · replace H := ite_f hb48 H
      refine Cd.condF rfl hb48 ?_
      refine Cd.skip ?_
      exact At.meet y32 hF47 ⟨rfl, rfl, rfl, rfl, rfl, rfl, rfl, rfl, rfl, rfl, rfl, trivial⟩ rfl (some_inj H)
    replace H := ite_t hb48 H
    refine Cd.condT rfl hb48 ?_
    refine Cd.region ?_
    refine Lst.run rfl rfl (by decide) (Ev.fieldAddr (off' := 0) rfl Try.runUnderlying75 rfl Try.sizeOf3 rfl rfl) ?_
    refine Lst.run rfl rfl (by decide) (Ev.load (i := 0) rfl rfl Try.isAgg3 (v := .int .i64 x36.Proc) ((Event.get_Proc (Get.here _)).off (by rfl))) ?_
    refine Lst.run rfl rfl (by decide) (Ev.assign rfl) ?_
    refine Lst.nil ?_
    exact At.meet x36.Proc hF47 ⟨rfl, rfl, rfl, rfl, rfl, rfl, rfl, rfl, rfl, rfl, rfl, trivial⟩ rfl (some_inj H)
  rintro F49 y41 hF50 hy
  subst hy
  refine Cd.as (e' := [(0, Sl.v s_a0), (4, .pointer (some ⟨b8, 0, none⟩)), (5, .int .i64 y41), (6, .bool y33), (8, .pointer (some ⟨b39, 0, none⟩)), (12, Sl.v s_a0), (13, .int .i64 (a0.length : Int)), (14, .int .i64 (i2 : Int)), (39, Sl.v (s_a0.cut (0 : Int).toNat ((i2 : Int) : Int).toNat 3)), (40, .int .i64 (m26.length : Int)), (41, .int .i64 (i31 : Int))]) (L' := (.blk b39 (enc x36) 75) :: (.blk b8 (enc x5) 75) :: L) ⟨rfl, rfl, rfl, rfl, rfl, rfl, rfl, rfl, rfl, rfl, rfl, trivial⟩ rfl ?_
  replace H := HKo42
  refine Cd.region ?_
  refine Lst.run rfl rfl (by decide) (Ev.move rfl) ?_
  refine Lst.run rfl rfl (by decide) (Ev.move rfl) ?_
  obtain ⟨o51, H, HKo51⟩ := bind_some H
  refine Lst.join (σ := Bool) 4 (fun y52 => [(0, Sl.v s_a0), (4, .pointer (some ⟨b8, 0, none⟩)), (5, .int .i64 y41), (6, .bool y33), (12, Sl.v s_a0), (13, .int .i64 (a0.length : Int)), (14, .int .i64 (i2 : Int)), (39, Sl.v (s_a0.cut (0 : Int).toNat ((i2 : Int) : Int).toNat 3)), (40, .int .i64 (m26.length : Int)), (41, .int .i64 (i31 : Int)), (62, .bool y52)]) (fun y52 => (.blk b39 (enc x36) 75) :: (.blk b8 (enc x5) 75) :: L) (fun _ y52 => y52 = o51) ?_ ?_
  · rcases Bool.eq_false_or_eq_true y33 with hb53 | hb53
    · replace H := ite_t hb53 H
      refine Lst.skip rfl rfl rfl hb53 rfl (by decide) ?_
      refine Lst.skip rfl rfl rfl hb53 rfl (by decide) ?_
      refine Lst.skip rfl rfl rfl hb53 rfl (by decide) ?_
      refine Lst.run rfl rfl (by decide) (Ev.pickT rfl hb53 rfl) ?_
      refine Lst.nil ?_
      exact At.meet true (FLe.refl _) ⟨rfl, rfl, rfl, rfl, rfl, rfl, rfl, rfl, rfl, rfl, rfl, trivial⟩ rfl (some_inj H)
    replace H := ite_f hb53 H
    refine Lst.runG rfl rfl rfl hb53 rfl (by decide) (Ev.loadA (i := 0) rfl rfl Try.isAgg75 Try.sizeOf75 (ch := enc x36) (Enc.len _) (Get.here _)) ?_
    refine Lst.runG rfl rfl rfl hb53 rfl (by decide) (Ev.loadA (i := 1) rfl rfl Try.isAgg75 Try.sizeOf75 (ch := enc x5) (Enc.len _) (Get.here _)) ?_
    refine Lst.runG rfl rfl rfl hb53 rfl (by decide) (Ev.eqlA rfl rfl (by kernel_rfl) (eq75 _ _)) ?_
    refine Lst.run rfl rfl (by decide) (Ev.pickF rfl hb53 rfl) ?_
    refine Lst.nil ?_
    exact At.meet (decide (x36 = x5)) (FLe.refl _) ⟨rfl, rfl, rfl, rfl, rfl, rfl, rfl, rfl, rfl, rfl, rfl, trivial⟩ rfl (some_inj H)
  rintro F54 y52 hF55 hy
  subst hy
  refine Lst.as (e' := [(0, Sl.v s_a0), (4, .pointer (some ⟨b8, 0, none⟩)), (5, .int .i64 y41), (6, .bool y33), (12, Sl.v s_a0), (13, .int .i64 (a0.length : Int)), (14, .int .i64 (i2 : Int)), (39, Sl.v (s_a0.cut (0 : Int).toNat ((i2 : Int) : Int).toNat 3)), (40, .int .i64 (m26.length : Int)), (41, .int .i64 (i31 : Int)), (62, .bool y52)]) (L' := (.blk b39 (enc x36) 75) :: (.blk b8 (enc x5) 75) :: L) ⟨rfl, rfl, rfl, rfl, rfl, rfl, rfl, rfl, rfl, rfl, rfl, trivial⟩ rfl ?_
  replace H := HKo51
  refine Lst.run rfl rfl (by decide) (Ev.assign rfl) ?_
  refine Lst.nil ?_
  refine At.in_normal ?_
  refine At.then ?_
  refine Cd.region ?_
  refine Lst.run rfl rfl (by decide) (Ev.incr (by omega) rfl rfl) ?_
  refine Lst.run rfl rfl (by decide) (Ev.move rfl) ?_
  refine Lst.nil ?_
  refine At.less (L' := (.blk b8 (enc x5) 75) :: L) (List.Sublist.cons _ (List.Sublist.cons_cons _ (List.Sublist.refl _))) ?_
  exact At.meet (i31 + 1, k31, y41, y52) (FLe.trans (FLe.trans hF35 hF50) hF55) ⟨rfl, rfl, rfl, rfl, rfl, rfl, rfl, rfl, rfl, rfl, trivial⟩ rfl ⟨⟨hgo31 _ (some_inj H).symm, by omega⟩, Nat.lt_succ_self _⟩
set_option maxRecDepth 20000 in
theorem partref_Closure_sim {fu : Nat} {a0 : Int} {a1 : List Pair} {s_a1 : Sl} {r : (List (List Bool))} (H : partref_Closure fu a0 a1 = some r) (w0 : World) (F : Frz) (M L : List Item) (hM : M.Sublist L) (hs_a1 : Rd w0 F M s_a1 a1) : Ok Try.prog w0 52 [.int .i64 a0, Sl.v s_a1] F (L) (fun Fx L' v => ∃ (s94 : Sl) (rs95 : List (LR Bool)), v = Sl.v s94 ∧ L' = (.rows (α := Bool) 4 rs95) :: (.own s94 44 1 (encs rs95)) :: L ∧ rs95.map LR.v = r) := by
  unfold partref_Closure at H
  refine Ok.enter (m := 2) (n := 68) Try.func52 rfl rfl rfl (by decide) ?_
  refine Cd.env (e' := [(0, .int .i64 a0), (1, Sl.v s_a1)]) rfl ?_
  refine Cd.seq ?_
  refine Cd.region ?_
  have ha2 : All LR.rel w0 F [] ([] : List (LR Bool)) := All.nil
  have ha2m : List.map LR.v ([] : List (LR Bool)) = ([] : List (List Bool)) := rfl
  refine Lst.addNil 44 1 ?_
  refine Lst.run rfl rfl (by decide) (Ev.assign rfl) ?_
  refine Lst.nil ?_
  refine At.then ?_
  refine Cd.seq ?_
  refine Cd.region ?_
  refine Lst.run rfl rfl (by decide) (Ev.move rfl) ?_
  obtain ⟨n3, h4, H⟩ := bind_some H
  have g5 := mkLen_some h4
  have hm8 : (List.replicate n3 ((LR.mk [] Sl.nil) : LR Bool)).map LR.v = (List.replicate n3 ([] : List Bool)) := map_rep _ _
  refine Lst.make (α := LR Bool) (z0 := ((LR.mk [] Sl.nil) : LR Bool)) (k := n3) rfl rfl (by decide) (congrArg some (congrArg (Value.int .i64) g5.1)) (congrArg some (congrArg (Value.int .i64) g5.1)) Try.runUnderlying42 Try.typeInfo44 rfl rfl rfl rfl rfl g5.2 rfl (fun s6 => ?_)
  refine Lst.rowsNil Bool 4 n3 ?_
  refine Lst.its (L' := (.rows (α := Bool) 4 (List.replicate n3 ((LR.mk [] Sl.nil) : LR Bool))) :: (.own s6 44 1 (encs (List.replicate n3 ((LR.mk [] Sl.nil) : LR Bool)))) :: (.own Sl.nil 44 1 (encs ([] : List (LR Bool)))) :: L) rfl ?_
  refine Lst.run rfl rfl (by decide) (Ev.assign rfl) ?_
  refine Lst.nil ?_
  refine At.then ?_
  refine Cd.seq ?_
  refine Cd.seq ?_
  refine Cd.region ?_
  refine Lst.run rfl rfl (by decide) (Ev.move rfl) ?_
  refine Lst.run rfl rfl (by decide) (Ev.move rfl) ?_
  refine Lst.nil ?_
  refine At.then ?_
  refine Cd.block ?_
  obtain ⟨nn18, hN93, H⟩ := bind_some H
  replace hN93 := upTo_some hN93
  obtain ⟨ol11, H, HKl11⟩ := bind_some H
  refine Cd.loop (σ := Nat × Nat × Sl × (List (List Bool)) × (List (LR Bool))) (fun (i11, k11, s12, l13, rs14) => [(0, .int .i64 a0), (1, Sl.v s_a1), (5, Sl.v s12), (13, .int .i64 a0), (14, .int .i64 (i11 : Int))]) (fun (i11, k11, s12, l13, rs14) => (.rows (α := Bool) 4 rs14) :: (.own s12 44 1 (encs rs14)) :: (.own Sl.nil 44 1 (encs ([] : List (LR Bool)))) :: L) (fun Fx => (fun (i11, k11, s12, l13, rs14) => rangeF (partref_Closure_B0 fu a0 a1) k11 i11 l13 = some ol11 ∧ i11 + k11 = nn18 ∧ rs14.map LR.v = l13)) (fun (i11, k11, s12, l13, rs14) => k11) (0, nn18, s6, (List.replicate n3 ([] : List Bool)), (List.replicate n3 ((LR.mk [] Sl.nil) : LR Bool))) ⟨rfl, rfl, rfl, rfl, rfl, trivial⟩ rfl ⟨H, by omega, hm8⟩ ?_
  rintro F16 ⟨i11, k11, s12, l13, rs14⟩ hF17 ⟨H, hik11, fm15⟩
  refine Cd.as (e' := [(0, .int .i64 a0), (1, Sl.v s_a1), (5, Sl.v s12), (13, .int .i64 a0), (14, .int .i64 (i11 : Int))]) (L' := (.rows (α := Bool) 4 rs14) :: (.own s12 44 1 (encs rs14)) :: (.own Sl.nil 44 1 (encs ([] : List (LR Bool)))) :: L) ⟨rfl, rfl, rfl, rfl, rfl, trivial⟩ rfl ?_
  rcases k11 with _ | k11
  · have hc11 : decide ((i11 : Int) < a0) = false := decide_eq_false (by omega)
    replace H := rangeF_end H
    refine Cd.seq ?_
    refine Cd.region ?_
    refine Lst.run rfl rfl (by decide) (Ev.lss rfl rfl) ?_
    refine Lst.nil ?_
    refine At.then ?_
    refine Cd.seq ?_
    refine Cd.condF rfl hc11 ?_
    refine Cd.exit ?_
    refine At.then_exit ?_
    refine At.then_exit ?_
    refine At.in_exit ?_
    subst H
    replace H := HKl11
    refine At.then ?_
    refine Cd.seq ?_
    refine Cd.region ?_
    refine Lst.run rfl rfl (by decide) (Ev.move rfl) ?_
    refine Lst.run rfl rfl (by decide) (Ev.assign rfl) ?_
    refine Lst.nil ?_
    refine At.then ?_
    obtain rfl := some_inj H
    refine Cd.ret ?_
    exact At.ret1 rfl (Res.tmp rfl) hF17 (List.Sublist.cons_cons _ (List.Sublist.cons_cons _ (List.Sublist.cons _ (List.Sublist.refl _)))) ⟨s12, rs14, rfl, rfl, fm15⟩
  have hc11 : decide ((i11 : Int) < a0) = true := decide_eq_true (by omega)
  obtain ⟨c11, H, hgo11⟩ := rangeF_go H
  unfold partref_Closure_B0 at H
  try dsimp only at H
  refine Cd.seq ?_
  refine Cd.region ?_
  refine Lst.run rfl rfl (by decide) (Ev.lss rfl rfl) ?_
  refine Lst.nil ?_
  refine At.then ?_
  refine Cd.seq ?_
  refine Cd.condT rfl hc11 ?_
  refine Cd.skip ?_
  refine At.then ?_
  refine Cd.seq ?_
  refine Cd.block ?_
  refine Cd.seq ?_
  refine Cd.region ?_
  refine Lst.run rfl rfl (by decide) (Ev.move rfl) ?_
  refine Lst.run rfl rfl (by decide) (Ev.assign rfl) ?_
  refine Lst.nil ?_
  refine At.then ?_
  refine Cd.seq ?_
  refine Cd.region ?_
  refine Lst.run rfl rfl (by decide) (Ev.move rfl) ?_
  refine Lst.run rfl rfl (by decide) (Ev.move rfl) ?_
  refine Lst.run rfl rfl (by decide) (Ev.move rfl) ?_
  obtain ⟨n19, h20, H⟩ := bind_some H
  have g21 := mkLen_some h20
  refine Lst.make (α := Bool) (z0 := false) (k := n19) rfl rfl (by decide) (congrArg some (congrArg (Value.int .i64) g21.1)) (congrArg some (congrArg (Value.int .i64) g21.1)) Try.runUnderlying44 Try.typeInfo4 rfl rfl rfl rfl rfl g21.2 rfl (fun s22 => ?_)
  obtain ⟨x24, h25, H⟩ := bind_some H
  have g26 := lat_some h25
  obtain ⟨⟨r27v, r27h⟩, r27g, r27e, r27m⟩ := map_get fm15 g26.2.2
  obtain rfl : x24 = r27v := r27e.symm
  refine Lst.run rfl rfl (by decide) (Ev.indexS (α := LR Bool) (xs := rs14) rfl rfl Try.runUnderlying42 Try.sizeOf44 rfl (by decide) (Rd.own (i := 2) rfl rfl rfl) g26.1 (by have := map_len fm15; omega)) ?_
  obtain ⟨p28, h29, H⟩ := Let_some H
  have hm30 : (rs14.set (i11 : Int).toNat (LR.mk (List.replicate n19 false) s22)).map LR.v = p28 := (map_set fm15 _ _).trans h29
  refine Lst.storeS (i := 2) rfl rfl rfl rfl rfl Try.sizeOf44 (vs := [Sl.v s22]) rfl rfl (by decide) rfl (xs' := encs (rs14.set (i11 : Int).toNat (LR.mk (List.replicate n19 false) s22))) ((Put.elemN (s := 1) (y := (LR.mk (List.replicate n19 false) s22)) rfl r27g (Put.here (vs := [Sl.v s22]) rfl)).off (by omega)) (L' := (.own s22 4 1 (encs (List.replicate n19 false))) :: (.rows (α := Bool) 4 rs14) :: (.own s12 44 1 (encs (rs14.set (i11 : Int).toNat (LR.mk (List.replicate n19 false) s22)))) :: (.own Sl.nil 44 1 (encs ([] : List (LR Bool)))) :: L) rfl ?_
  refine Lst.rowIn (k := (i11 : Int).toNat) r27g rfl ?_
  refine Lst.its (L' := (.rows (α := Bool) 4 (rs14.set (i11 : Int).toNat (LR.mk (List.replicate n19 false) s22))) :: (.own s12 44 1 (encs (rs14.set (i11 : Int).toNat (LR.mk (List.replicate n19 false) s22)))) :: (.own Sl.nil 44 1 (encs ([] : List (LR Bool)))) :: L) rfl ?_
  refine Lst.nil ?_
  refine At.then ?_
  refine Cd.seq ?_
  refine Cd.region ?_
  refine Lst.run rfl rfl (by decide) (Ev.move rfl) ?_
  refine Lst.buildSlice (α := Int) (xs := ([(i11 : Int)] : List Int)) (pv := [(0, .int .i64 (i11 : Int))]) rfl rfl (by decide) ⟨rfl, rfl, trivial⟩ (run_buildSlice (α := Int) (z0 := (0 : Int)) (xs := ([(i11 : Int)] : List Int)) Try.runUnderlying36 Try.sizeOf3 Try.zeroValue3 rfl rfl rfl (by decide) rfl (fill_cons (cs := encs (List.replicate 1 (0 : Int))) (cs' := encs ((List.replicate 1 (0 : Int)).set 0 (i11 : Int))) (vs := [.int .i64 (i11 : Int)]) rfl rfl rfl ((Put.elemN (s := 1) (i := 0) (x := (0 : Int)) (y := (i11 : Int)) rfl rfl (Put.here (vs := [.int .i64 (i11 : Int)]) rfl)).off rfl) fill_nil)) rfl rfl (by decide) (fun s31 _ => ?_)
  refine Lst.run rfl rfl (by decide) (Ev.assign rfl) ?_
  refine Lst.nil ?_
  refine At.then ?_
  refine Cd.block ?_
  obtain ⟨ol33, H, HKl33⟩ := andThen_some H
  refine Cd.loop (σ := Nat × Sl × (List Int) × Sl × (List (List Bool)) × (List (LR Bool))) (fun (k33, s34, l35, s36, l37, rs38) => [(0, .int .i64 a0), (1, Sl.v s_a1), (5, Sl.v s36), (6, .int .i64 (i11 : Int)), (7, Sl.v s34), (13, .int .i64 a0), (14, .int .i64 (i11 : Int))]) (fun (k33, s34, l35, s36, l37, rs38) => (.own s34 3 1 (encs l35)) :: (.rows (α := Bool) 4 rs38) :: (.own s36 44 1 (encs rs38)) :: (.own Sl.nil 44 1 (encs ([] : List (LR Bool)))) :: L) (fun Fx => (fun (k33, s34, l35, s36, l37, rs38) => whileM (partref_Closure_B2 a1 i11) k33 (l35, l37) = some ol33 ∧ rs38.map LR.v = l37)) (fun (k33, s34, l35, s36, l37, rs38) => k33) (fu, s31, ([(i11 : Int)] : List Int), s12, p28, (rs14.set (i11 : Int).toNat (LR.mk (List.replicate n19 false) s22))) ⟨rfl, rfl, rfl, rfl, rfl, rfl, rfl, trivial⟩ rfl ⟨H, hm30⟩ ?_
  rintro F40 ⟨k33, s34, l35, s36, l37, rs38⟩ hF41 ⟨H, fm39⟩
  refine Cd.as (e' := [(0, .int .i64 a0), (1, Sl.v s_a1), (5, Sl.v s36), (6, .int .i64 (i11 : Int)), (7, Sl.v s34), (13, .int .i64 a0), (14, .int .i64 (i11 : Int))]) (L' := (.own s34 3 1 (encs l35)) :: (.rows (α := Bool) 4 rs38) :: (.own s36 44 1 (encs rs38)) :: (.own Sl.nil 44 1 (encs ([] : List (LR Bool)))) :: L) ⟨rfl, rfl, rfl, rfl, rfl, rfl, rfl, trivial⟩ rfl ?_
  rcases k33 with _ | k33
  · cases H
  obtain ⟨c33, H, hgo33, hbrk33, hret33⟩ := whileM_go H
  unfold partref_Closure_B2 at H
  try dsimp only at H
  refine Cd.seq ?_
  refine Cd.seq ?_
  refine Cd.region ?_
  refine Lst.run rfl rfl (by decide) (Ev.move rfl) ?_
  refine Lst.run rfl rfl (by decide) (Ev.lenS (α := Int) (xs := l35) (by decide) rfl rfl Try.runUnderlying36 (Rd.own (i := 0) rfl rfl rfl)) ?_
  refine Lst.run rfl rfl (by decide) (Ev.gtr rfl rfl) ?_
  refine Lst.nil ?_
  refine At.then ?_
  rcases (Bool.eq_false_or_eq_true (decide ((l35.length : Int) > (0 : Int)))).symm with hb42 | hb42
  · replace H := ite_f hb42 H
    refine Cd.condF rfl hb42 ?_
    refine Cd.exit ?_
    refine At.then_exit ?_
    refine At.then_exit ?_
    refine At.in_exit ?_
    have H := hbrk33 _ (some_inj H).symm
    subst H
    replace H := HKl33
    refine At.in_normal ?_
    refine At.then ?_
    refine Cd.region ?_
    refine Lst.run rfl rfl (by decide) (Ev.incr (by omega) rfl rfl) ?_
    refine Lst.run rfl rfl (by decide) (Ev.move rfl) ?_
    refine Lst.nil ?_
    refine At.less (L' := (.rows (α := Bool) 4 rs38) :: (.own s36 44 1 (encs rs38)) :: (.own Sl.nil 44 1 (encs ([] : List (LR Bool)))) :: L) (List.Sublist.cons _ (List.Sublist.cons_cons _ (List.Sublist.cons_cons _ (List.Sublist.cons_cons _ (List.Sublist.refl _))))) ?_
    exact At.meet (i11 + 1, k11, s36, l37, rs38) (FLe.trans hF17 hF41) ⟨rfl, rfl, rfl, rfl, rfl, trivial⟩ rfl ⟨⟨hgo11 _ (some_inj H).symm, by omega, fm39⟩, Nat.lt_succ_self _⟩
  replace H := ite_t hb42 H
  refine Cd.condT rfl hb42 ?_
  refine Cd.skip ?_
  refine At.then ?_
  refine Cd.block ?_
  refine Cd.seq ?_
  refine Cd.region ?_
  refine Lst.run rfl rfl (by decide) (Ev.move rfl) ?_
  obtain ⟨x43, h44, H⟩ := bind_some H
  have g45 := lat_some h44
  refine Lst.run rfl rfl (by decide) (Ev.indexS (α := Int) (xs := l35) rfl rfl Try.runUnderlying36 Try.sizeOf3 rfl (by decide) (Rd.own (i := 0) rfl rfl rfl) g45.1 g45.2.1) ?_
  refine Lst.run rfl rfl (by decide) (Ev.loadS (α := Int) rfl (Rd.own (i := 0) rfl rfl rfl) Try.isAgg3 (v := .int .i64 x43) ((Get.elemN (s := 1) rfl g45.2.2 (Get.here _)).off (by omega))) ?_
  refine Lst.run rfl rfl (by decide) (Ev.assign rfl) ?_
  refine Lst.nil ?_
  refine At.then ?_
  refine Cd.seq ?_
  refine Cd.region ?_
  refine Lst.run rfl rfl (by decide) (Ev.move rfl) ?_
  obtain ⟨m46, h47, H⟩ := bind_some H
  obtain ⟨g48, gl49⟩ := cutL_some h47
  refine Lst.run rfl rfl (by decide) (Ev.cut (α := Int) (xs := l35) (i := (1 : Int)) (j := (l35.length : Int)) rfl rfl rfl Try.runUnderlying36 Try.sizeOf3 rfl (by decide) (Rd.own (i := 0) rfl rfl rfl) g48.1 g48.2.1 g48.2.2) ?_
  refine Lst.cutOwn (i := 0) (α := Int) (lo := ((1 : Int) : Int).toNat) (hi := ((l35.length : Int) : Int).toNat) rfl rfl rfl (by decide) (by omega) (by omega) (L' := (.own (s34.cut ((1 : Int) : Int).toNat ((l35.length : Int) : Int).toNat 1) 3 1 (encs m46)) :: (.rows (α := Bool) 4 rs38) :: (.own s36 44 1 (encs rs38)) :: (.own Sl.nil 44 1 (encs ([] : List (LR Bool)))) :: L) (by subst gl49; rfl) ?_
  refine Lst.run rfl rfl (by decide) (Ev.assign rfl) ?_
  refine Lst.nil ?_
  refine At.then ?_
  refine Cd.seq ?_
  refine Cd.region ?_
  refine Lst.run rfl rfl (by decide) (Ev.move rfl) ?_
  refine Lst.run rfl rfl (by decide) (Ev.lenS (α := Pair) (xs := a1) (by decide) rfl rfl Try.runUnderlying39 (hs_a1.mono (FLe.trans hF17 hF41) (List.Sublist.cons _ (List.Sublist.cons _ (List.Sublist.cons _ (List.Sublist.cons _ hM)))))) ?_
  refine Lst.run rfl rfl (by decide) (Ev.move rfl) ?_
  refine Lst.nil ?_
  refine At.then ?_
  refine Cd.block ?_
  refine Cd.bound (Rd.le (α := Pair) (xs := a1) (by decide) (hs_a1.mono (FLe.trans hF17 hF41) (List.Sublist.cons _ (List.Sublist.cons _ (List.Sublist.cons _ (List.Sublist.cons _ hM)))))) (fun hN92 => ?_)
  obtain ⟨ol51, H, HKl51⟩ := bind_some H
  refine Cd.loop (σ := Nat × Nat × Sl × (List Int) × Sl × (List (List Bool)) × (List (LR Bool))) (fun (i51, k51, s52, l53, s54, l55, rs56) => [(0, .int .i64 a0), (1, Sl.v s_a1), (5, Sl.v s54), (6, .int .i64 (i11 : Int)), (7, Sl.v s52), (8, .int .i64 x43), (13, .int .i64 a0), (14, .int .i64 (i11 : Int)), (32, Sl.v s_a1), (33, .int .i64 (a1.length : Int)), (34, .int .i64 (i51 : Int))]) (fun (i51, k51, s52, l53, s54, l55, rs56) => (.own s52 3 1 (encs l53)) :: (.rows (α := Bool) 4 rs56) :: (.own s54 44 1 (encs rs56)) :: (.own Sl.nil 44 1 (encs ([] : List (LR Bool)))) :: L) (fun Fx => (fun (i51, k51, s52, l53, s54, l55, rs56) => rangeF (partref_Closure_B4 a1 i11 x43) k51 i51 (l53, l55) = some ol51 ∧ i51 + k51 = a1.length ∧ rs56.map LR.v = l55)) (fun (i51, k51, s52, l53, s54, l55, rs56) => k51) (0, a1.length, (s34.cut ((1 : Int) : Int).toNat ((l35.length : Int) : Int).toNat 1), m46, s36, l37, rs38) ⟨rfl, rfl, rfl, rfl, rfl, rfl, rfl, rfl, rfl, rfl, rfl, trivial⟩ rfl ⟨H, by omega, fm39⟩ ?_
  rintro F58 ⟨i51, k51, s52, l53, s54, l55, rs56⟩ hF59 ⟨H, hik51, fm57⟩
  refine Cd.as (e' := [(0, .int .i64 a0), (1, Sl.v s_a1), (5, Sl.v s54), (6, .int .i64 (i11 : Int)), (7, Sl.v s52), (8, .int .i64 x43), (13, .int .i64 a0), (14, .int .i64 (i11 : Int)), (32, Sl.v s_a1), (33, .int .i64 (a1.length : Int)), (34, .int .i64 (i51 : Int))]) (L' := (.own s52 3 1 (encs l53)) :: (.rows (α := Bool) 4 rs56) :: (.own s54 44 1 (encs rs56)) :: (.own Sl.nil 44 1 (encs ([] : List (LR Bool)))) :: L) ⟨rfl, rfl, rfl, rfl, rfl, rfl, rfl, rfl, rfl, rfl, rfl, trivial⟩ rfl ?_
  rcases k51 with _ | k51
  · have hc51 : decide ((i51 : Int) < (a1.length : Int)) = false := decide_eq_false (by omega)
    replace H := rangeF_end H
    refine Cd.seq ?_
    refine Cd.region ?_
    refine Lst.run rfl rfl (by decide) (Ev.lss rfl rfl) ?_
    refine Lst.nil ?_
    refine At.then ?_
    refine Cd.seq ?_
    refine Cd.condF rfl hc51 ?_
    refine Cd.exit ?_
    refine At.then_exit ?_
    refine At.then_exit ?_
    refine At.in_exit ?_
    subst H
    replace H := HKl51
    refine At.in_normal ?_
    exact At.meet (k33, s52, l53, s54, l55, rs56) (FLe.trans hF41 hF59) ⟨rfl, rfl, rfl, rfl, rfl, rfl, rfl, trivial⟩ rfl ⟨⟨hgo33 _ (some_inj H).symm, fm57⟩, Nat.lt_succ_self _⟩
  have hc51 : decide ((i51 : Int) < (a1.length : Int)) = true := decide_eq_true (by omega)
  obtain ⟨c51, H, hgo51⟩ := rangeF_go H
  unfold partref_Closure_B4 at H
  try dsimp only at H
  refine Cd.seq ?_
  refine Cd.region ?_
  refine Lst.run rfl rfl (by decide) (Ev.lss rfl rfl) ?_
  refine Lst.nil ?_
  refine At.then ?_
  refine Cd.seq ?_
  refine Cd.condT rfl hc51 ?_
  refine Cd.skip ?_
  refine At.then ?_
  refine Cd.seq ?_
  refine Cd.block ?_
  refine Cd.seq ?_
  refine Cd.region ?_
  obtain ⟨x60, h61, H⟩ := bind_some H
  have g62 := lat_some h61
  refine Lst.run rfl rfl (by decide) (Ev.indexS (α := Pair) (xs := a1) rfl rfl Try.runUnderlying39 Try.sizeOf46 rfl (by decide) (hs_a1.mono (FLe.trans (FLe.trans hF17 hF41) hF59) (List.Sublist.cons _ (List.Sublist.cons _ (List.Sublist.cons _ (List.Sublist.cons _ hM))))) g62.1 g62.2.1) ?_
  refine Lst.run rfl rfl (by decide) (Ev.loadSA (α := Pair) rfl (hs_a1.mono (FLe.trans (FLe.trans hF17 hF41) hF59) (List.Sublist.cons _ (List.Sublist.cons _ (List.Sublist.cons _ (List.Sublist.cons _ hM))))) Try.isAgg46 Try.sizeOf46 (ch := enc x60) (Enc.len _) (by decide) ((Get.elemN (s := 2) rfl g62.2.2 (Get.here _)).off (by omega))) ?_
  refine Lst.alloc (cs := enc Pair.zero) rfl rfl (by decide) Try.zeroValue46 rfl (fun b63 => ?_)
  refine Lst.store (i := 0) rfl rfl rfl rfl rfl Try.sizeOf46 (vs := enc x60) rfl (Enc.len _) (Enc.one _) (cs' := enc x60) (Put.here ((Enc.len _).trans (Enc.len _).symm)) (L' := (.blk b63 (enc x60) 46) :: (.own s52 3 1 (encs l53)) :: (.rows (α := Bool) 4 rs56) :: (.own s54 44 1 (encs rs56)) :: (.own Sl.nil 44 1 (encs ([] : List (LR Bool)))) :: L) rfl ?_
  refine Lst.nil ?_
  refine At.then ?_
  refine Cd.seq ?_
  refine Cd.quiet (by kernel_rfl) (by kernel_rfl) ?_
  refine Qt.run rfl rfl (by decide) (Ev.fieldAddr (off' := 0) rfl Try.runUnderlying46 rfl Try.sizeOf3 rfl rfl) ?_
  refine Qt.run rfl rfl (by decide) (Ev.load (i := 0) rfl rfl Try.isAgg3 (v := .int .i64 x60.A) ((Pair.get_A (Get.here _)).off (by rfl))) ?_
  refine Qt.run rfl rfl (by decide) (Ev.move rfl) ?_
  refine Qt.run rfl rfl (by decide) (Ev.eql rfl rfl) ?_
  refine Qt.run rfl rfl (by decide) (Ev.move rfl) ?_
  obtain ⟨o65, H, HKo65⟩ := bind_some H
  refine Qt.join (σ := Bool) 10 (fun y66 => [(0, .int .i64 a0), (1, Sl.v s_a1), (5, Sl.v s54), (6, .int .i64 (i11 : Int)), (7, Sl.v s52), (8, .int .i64 x43), (10, .pointer (some ⟨b63, 0, none⟩)), (13, .int .i64 a0), (14, .int .i64 (i11 : Int)), (32, Sl.v s_a1), (33, .int .i64 (a1.length : Int)), (34, .int .i64 (i51 : Int)), (52, .bool y66)]) (fun y66 => y66 = o65) ?_ ?_
  · rcases (Bool.eq_false_or_eq_true (x60.A == x43)).symm with hb67 | hb67
    · replace H := ite_f hb67 H
      refine Qt.skip rfl rfl rfl hb67 rfl (by decide) ?_
      refine Qt.skip rfl rfl rfl hb67 rfl (by decide) ?_
      refine Qt.skip rfl rfl rfl hb67 rfl (by decide) ?_
      refine Qt.skip rfl rfl rfl hb67 rfl (by decide) ?_
      refine Qt.skip rfl rfl rfl hb67 rfl (by decide) ?_
      refine Qt.skip rfl rfl rfl hb67 rfl (by decide) ?_
      refine Qt.skip rfl rfl rfl hb67 rfl (by decide) ?_
      refine Qt.skip rfl rfl rfl hb67 rfl (by decide) ?_
      refine Qt.skip rfl rfl rfl hb67 rfl (by decide) ?_
      refine Qt.run rfl rfl (by decide) (Ev.pickF rfl hb67 rfl) ?_
      exact Qt.meet false ⟨rfl, rfl, rfl, rfl, rfl, rfl, rfl, rfl, rfl, rfl, rfl, rfl, rfl, trivial⟩ (some_inj H)
    replace H := ite_t hb67 H
    refine Qt.runG rfl rfl rfl hb67 rfl (by decide) (Ev.move rfl) ?_
    refine Qt.runG rfl rfl rfl hb67 rfl (by decide) (Ev.move rfl) ?_
    obtain ⟨x68, h69, H⟩ := bind_some H
    have g70 := lat_some h69
    obtain ⟨⟨r71v, r71h⟩, r71g, r71e, r71m⟩ := map_get fm57 g70.2.2
    obtain rfl : x68 = r71v := r71e.symm
    refine Qt.runG rfl rfl rfl hb67 rfl (by decide) (Ev.indexS (α := LR Bool) (xs := rs56) rfl rfl Try.runUnderlying42 Try.sizeOf44 rfl (by decide) (Rd.own (i := 3) rfl rfl rfl) g70.1 (by have := map_len fm57; omega)) ?_
    refine Qt.runG rfl rfl rfl hb67 rfl (by decide) (Ev.loadS (α := LR Bool) rfl (Rd.own (i := 3) rfl rfl rfl) Try.isAgg44 (v := Sl.v r71h) ((Get.elemN (s := 1) rfl r71g (Get.here _)).off (by omega))) ?_
    refine Qt.runG rfl rfl rfl hb67 rfl (by decide) (Ev.fieldAddr (off' := 1) rfl Try.runUnderlying46 rfl Try.sizeOf3 rfl rfl) ?_
    refine Qt.runG rfl rfl rfl hb67 rfl (by decide) (Ev.load (i := 0) rfl rfl Try.isAgg3 (v := .int .i64 x60.B) ((Pair.get_B (Get.here _)).off (by rfl))) ?_
    obtain ⟨x72, h73, H⟩ := bind_some H
    have g74 := lat_some h73
    refine Qt.runG rfl rfl rfl hb67 rfl (by decide) (Ev.indexS (α := Bool) (xs := x68) rfl rfl Try.runUnderlying44 Try.sizeOf4 rfl (by decide) (Rd.row (j := 2) rfl r71g) g74.1 g74.2.1) ?_
    refine Qt.runG rfl rfl rfl hb67 rfl (by decide) (Ev.loadS (α := Bool) rfl (Rd.row (j := 2) rfl r71g) Try.isAgg4 (v := .bool x72) ((Get.elemN (s := 1) rfl g74.2.2 (Get.here _)).off (by omega))) ?_
    refine Qt.runG rfl rfl rfl hb67 rfl (by decide) (Ev.not rfl) ?_
    refine Qt.run rfl rfl (by decide) (Ev.pickT rfl hb67 rfl) ?_
    exact Qt.meet (!x72) ⟨rfl, rfl, rfl, rfl, rfl, rfl, rfl, rfl, rfl, rfl, rfl, rfl, rfl, trivial⟩ (some_inj H)
  rintro y66 hy
  subst hy
  refine Qt.as (e' := [(0, .int .i64 a0), (1, Sl.v s_a1), (5, Sl.v s54), (6, .int .i64 (i11 : Int)), (7, Sl.v s52), (8, .int .i64 x43), (10, .pointer (some ⟨b63, 0, none⟩)), (13, .int .i64 a0), (14, .int .i64 (i11 : Int)), (32, Sl.v s_a1), (33, .int .i64 (a1.length : Int)), (34, .int .i64 (i51 : Int)), (52, .bool y66)]) ⟨rfl, rfl, rfl, rfl, rfl, rfl, rfl, rfl, rfl, rfl, rfl, rfl, rfl, trivial⟩ ?_
  replace H := HKo65
  refine Qt.done ?_
  refine At.then ?_
  rcases (Bool.eq_false_or_eq_true y66).symm with hb75 | hb75
  · replace H := ite_f hb75 H
    refine Cd.condF rfl hb75 ?_
    refine Cd.skip ?_
    refine At.in_normal ?_
    refine At.then ?_
    refine Cd.region ?_
    refine Lst.run rfl rfl (by decide) (Ev.incr (by omega) rfl rfl) ?_
    refine Lst.run rfl rfl (by decide) (Ev.move rfl) ?_
    refine Lst.nil ?_
    refine At.less (L' := (.own s52 3 1 (encs l53)) :: (.rows (α := Bool) 4 rs56) :: (.own s54 44 1 (encs rs56)) :: (.own Sl.nil 44 1 (encs ([] : List (LR Bool)))) :: L) (List.Sublist.cons _ (List.Sublist.cons_cons _ (List.Sublist.cons_cons _ (List.Sublist.cons_cons _ (List.Sublist.cons_cons _ (List.Sublist.refl _)))))) ?_
    exact At.meet (i51 + 1, k51, s52, l53, s54, l55, rs56) hF59 ⟨rfl, rfl, rfl, rfl, rfl, rfl, rfl, rfl, rfl, rfl, rfl, trivial⟩ rfl ⟨⟨hgo51 _ (some_inj H).symm, by omega, fm57⟩, Nat.lt_succ_self _⟩
  replace H := ite_t hb75 H
  refine Cd.condT rfl hb75 ?_
  refine Cd.seq ?_
  refine Cd.tail 7 (by kernel_rfl) (by kernel_rfl) ?_
  refine Qt.run rfl rfl (by decide) (Ev.move rfl) ?_
  refine Qt.run rfl rfl (by decide) (Ev.move rfl) ?_
  obtain ⟨x76, h77, H⟩ := bind_some H
  have g78 := lat_some h77
  obtain ⟨⟨r79v, r79h⟩, r79g, r79e, r79m⟩ := map_get fm57 g78.2.2
  obtain rfl : x76 = r79v := r79e.symm
  refine Qt.run rfl rfl (by decide) (Ev.indexS (α := LR Bool) (xs := rs56) rfl rfl Try.runUnderlying42 Try.sizeOf44 rfl (by decide) (Rd.own (i := 3) rfl rfl rfl) g78.1 (by have := map_len fm57; omega)) ?_
  refine Qt.run rfl rfl (by decide) (Ev.loadS (α := LR Bool) rfl (Rd.own (i := 3) rfl rfl rfl) Try.isAgg44 (v := Sl.v r79h) ((Get.elemN (s := 1) rfl r79g (Get.here _)).off (by omega))) ?_
  refine Qt.run rfl rfl (by decide) (Ev.fieldAddr (off' := 1) rfl Try.runUnderlying46 rfl Try.sizeOf3 rfl rfl) ?_
  refine Qt.run rfl rfl (by decide) (Ev.load (i := 0) rfl rfl Try.isAgg3 (v := .int .i64 x60.B) ((Pair.get_B (Get.here _)).off (by rfl))) ?_
  obtain ⟨x80, h81, H⟩ := bind_some H
  have g82 := lat_some h81
  refine Qt.run rfl rfl (by decide) (Ev.indexS (α := Bool) (xs := x76) rfl rfl Try.runUnderlying44 Try.sizeOf4 rfl (by decide) (Rd.row (j := 2) rfl r79g) g82.1 g82.2.1) ?_
  refine Qt.tail ?_
  obtain ⟨p83, h84, H⟩ := Let_some H
  have hm85 : (rs56.set (i11 : Int).toNat (LR.mk (x76.set x60.B.toNat true) r79h)).map LR.v = p83 := (map_set fm57 _ _).trans h84
  refine Lst.front (i := 2) rfl (L' := (.rows (α := Bool) 4 rs56) :: (.blk b63 (enc x60) 46) :: (.own s52 3 1 (encs l53)) :: (.own s54 44 1 (encs rs56)) :: (.own Sl.nil 44 1 (encs ([] : List (LR Bool)))) :: L) rfl ?_
  refine Lst.storeR (α := Bool) rfl rfl rfl rfl r79g Try.sizeOf4 (vs := [.bool true]) rfl rfl (by decide) rfl (xs' := (x76.set x60.B.toNat true)) ((Put.elemN (s := 1) rfl g82.2.2 (Put.here (vs := [.bool true]) rfl)).off (by omega)) ?_
  refine Lst.its (L' := (.rows (α := Bool) 4 (rs56.set (i11 : Int).toNat (LR.mk (x76.set x60.B.toNat true) r79h))) :: (.blk b63 (enc x60) 46) :: (.own s52 3 1 (encs l53)) :: (.own s54 44 1 (encs (rs56.set (i11 : Int).toNat (LR.mk (x76.set x60.B.toNat true) r79h)))) :: (.own Sl.nil 44 1 (encs ([] : List (LR Bool)))) :: L) (by rw [show encs (rs56.set (i11 : Int).toNat (LR.mk (x76.set x60.B.toNat true) r79h)) = encs rs56 from encs_rowv r79g]) ?_
  refine Lst.nil ?_
  refine At.then ?_
  refine Cd.region ?_
  refine Lst.run rfl rfl (by decide) (Ev.move rfl) ?_
  refine Lst.run rfl rfl (by decide) (Ev.fieldAddr (off' := 1) rfl Try.runUnderlying46 rfl Try.sizeOf3 rfl rfl) ?_
  refine Lst.run rfl rfl (by decide) (Ev.load (i := 1) rfl rfl Try.isAgg3 (v := .int .i64 x60.B) ((Pair.get_B (Get.here _)).off (by rfl))) ?_
  refine Lst.buildSlice (α := Int) (xs := ([x60.B] : List Int)) (pv := [(0, .int .i64 x60.B)]) rfl rfl (by decide) ⟨rfl, rfl, trivial⟩ (run_buildSlice (α := Int) (z0 := (0 : Int)) (xs := ([x60.B] : List Int)) Try.runUnderlying36 Try.sizeOf3 Try.zeroValue3 rfl rfl rfl (by decide) rfl (fill_cons (cs := encs (List.replicate 1 (0 : Int))) (cs' := encs ((List.replicate 1 (0 : Int)).set 0 x60.B)) (vs := [.int .i64 x60.B]) rfl rfl rfl ((Put.elemN (s := 1) (i := 0) (x := (0 : Int)) (y := x60.B) rfl rfl (Put.here (vs := [.int .i64 x60.B]) rfl)).off rfl) fill_nil)) rfl rfl (by decide) (fun s87 _ => ?_)
  obtain ⟨u89, h90, H⟩ := bind_some H
  refine Lst.append (i := 3) (α := Int) (xs := l53) (ys := ([x60.B] : List Int)) rfl rfl (by decide) rfl rfl Try.runUnderlying36 Try.typeInfo3 rfl rfl rfl rfl rfl rfl (Rd.own (i := 0) rfl rfl rfl) rfl (room_some h90) rfl (fun s91 => ?_)
  refine Lst.its (L' := (.own s87 3 1 (encs ([x60.B] : List Int))) :: (.rows (α := Bool) 4 (rs56.set (i11 : Int).toNat (LR.mk (x76.set x60.B.toNat true) r79h))) :: (.blk b63 (enc x60) 46) :: (.own s91 3 1 (encs (l53 ++ ([x60.B] : List Int)))) :: (.own s54 44 1 (encs (rs56.set (i11 : Int).toNat (LR.mk (x76.set x60.B.toNat true) r79h)))) :: (.own Sl.nil 44 1 (encs ([] : List (LR Bool)))) :: L) rfl ?_
  refine Lst.run rfl rfl (by decide) (Ev.assign rfl) ?_
  refine Lst.nil ?_
  refine At.in_normal ?_
  refine At.then ?_
  refine Cd.as (e' := [(0, .int .i64 a0), (1, Sl.v s_a1), (5, Sl.v s54), (6, .int .i64 (i11 : Int)), (8, .int .i64 x43), (13, .int .i64 a0), (14, .int .i64 (i11 : Int)), (32, Sl.v s_a1), (33, .int .i64 (a1.length : Int)), (34, .int .i64 (i51 : Int)), (7, Sl.v s91)]) (L' := (.own s87 3 1 (encs ([x60.B] : List Int))) :: (.rows (α := Bool) 4 (rs56.set (i11 : Int).toNat (LR.mk (x76.set x60.B.toNat true) r79h))) :: (.blk b63 (enc x60) 46) :: (.own s91 3 1 (encs (l53 ++ ([x60.B] : List Int)))) :: (.own s54 44 1 (encs (rs56.set (i11 : Int).toNat (LR.mk (x76.set x60.B.toNat true) r79h)))) :: (.own Sl.nil 44 1 (encs ([] : List (LR Bool)))) :: L) ⟨rfl, rfl, rfl, rfl, rfl, rfl, rfl, rfl, rfl, rfl, rfl, trivial⟩ rfl ?_
  refine Cd.region ?_
  refine Lst.run rfl rfl (by decide) (Ev.incr (by omega) rfl rfl) ?_
  refine Lst.run rfl rfl (by decide) (Ev.move rfl) ?_
  refine Lst.nil ?_
  refine At.front (i := 5) rfl (L' := (.own Sl.nil 44 1 (encs ([] : List (LR Bool)))) :: (.own s87 3 1 (encs ([x60.B] : List Int))) :: (.rows (α := Bool) 4 (rs56.set (i11 : Int).toNat (LR.mk (x76.set x60.B.toNat true) r79h))) :: (.blk b63 (enc x60) 46) :: (.own s91 3 1 (encs (l53 ++ ([x60.B] : List Int)))) :: (.own s54 44 1 (encs (rs56.set (i11 : Int).toNat (LR.mk (x76.set x60.B.toNat true) r79h)))) :: L) rfl ?_
  refine At.front (i := 5) rfl (L' := (.own s54 44 1 (encs (rs56.set (i11 : Int).toNat (LR.mk (x76.set x60.B.toNat true) r79h)))) :: (.own Sl.nil 44 1 (encs ([] : List (LR Bool)))) :: (.own s87 3 1 (encs ([x60.B] : List Int))) :: (.rows (α := Bool) 4 (rs56.set (i11 : Int).toNat (LR.mk (x76.set x60.B.toNat true) r79h))) :: (.blk b63 (enc x60) 46) :: (.own s91 3 1 (encs (l53 ++ ([x60.B] : List Int)))) :: L) rfl ?_
  refine At.front (i := 3) rfl (L' := (.rows (α := Bool) 4 (rs56.set (i11 : Int).toNat (LR.mk (x76.set x60.B.toNat true) r79h))) :: (.own s54 44 1 (encs (rs56.set (i11 : Int).toNat (LR.mk (x76.set x60.B.toNat true) r79h)))) :: (.own Sl.nil 44 1 (encs ([] : List (LR Bool)))) :: (.own s87 3 1 (encs ([x60.B] : List Int))) :: (.blk b63 (enc x60) 46) :: (.own s91 3 1 (encs (l53 ++ ([x60.B] : List Int)))) :: L) rfl ?_
  refine At.front (i := 5) rfl (L' := (.own s91 3 1 (encs (l53 ++ ([x60.B] : List Int)))) :: (.rows (α := Bool) 4 (rs56.set (i11 : Int).toNat (LR.mk (x76.set x60.B.toNat true) r79h))) :: (.own s54 44 1 (encs (rs56.set (i11 : Int).toNat (LR.mk (x76.set x60.B.toNat true) r79h)))) :: (.own Sl.nil 44 1 (encs ([] : List (LR Bool)))) :: (.own s87 3 1 (encs ([x60.B] : List Int))) :: (.blk b63 (enc x60) 46) :: L) rfl ?_
  refine At.less (L' := (.own s91 3 1 (encs (l53 ++ ([x60.B] : List Int)))) :: (.rows (α := Bool) 4 (rs56.set (i11 : Int).toNat (LR.mk (x76.set x60.B.toNat true) r79h))) :: (.own s54 44 1 (encs (rs56.set (i11 : Int).toNat (LR.mk (x76.set x60.B.toNat true) r79h)))) :: (.own Sl.nil 44 1 (encs ([] : List (LR Bool)))) :: L) (List.Sublist.cons_cons _ (List.Sublist.cons_cons _ (List.Sublist.cons_cons _ (List.Sublist.cons_cons _ (List.Sublist.cons _ (List.Sublist.cons _ (List.Sublist.refl _))))))) ?_
  exact At.meet (i51 + 1, k51, s91, l53 ++ ([x60.B] : List Int), s54, p83, (rs56.set (i11 : Int).toNat (LR.mk (x76.set x60.B.toNat true) r79h))) hF59 ⟨rfl, rfl, rfl, rfl, rfl, rfl, rfl, rfl, rfl, rfl, rfl, trivial⟩ rfl ⟨⟨hgo51 _ (some_inj H).symm, by omega, hm85⟩, Nat.lt_succ_self _⟩
set_option maxRecDepth 20000 in
theorem partref_Causes_sim {fu : Nat} {a0 : List Event} {s_a0 : Sl} {r : (List (List Bool))} (H : partref_Causes fu a0 = some r) (w0 : World) (F : Frz) (M L : List Item) (hM : M.Sublist L) (hs_a0 : Rd w0 F M s_a0 a0) : Ok Try.prog w0 23 [Sl.v s_a0] F (L) (fun Fx L' v => ∃ (s58 : Sl) (rs59 : List (LR Bool)), v = Sl.v s58 ∧ L' = (.rows (α := Bool) 4 rs59) :: (.own s58 44 1 (encs rs59)) :: L ∧ rs59.map LR.v = r) := by
  unfold partref_Causes at H
  refine Ok.enter (m := 1) (n := 60) Try.func23 rfl rfl rfl (by decide) ?_
  refine Cd.env (e' := [(0, Sl.v s_a0)]) rfl ?_
  refine Cd.seq ?_
  refine Cd.region ?_
  have ha2 : All LR.rel w0 F [] ([] : List (LR Bool)) := All.nil
  have ha2m : List.map LR.v ([] : List (LR Bool)) = ([] : List (List Bool)) := rfl
  refine Lst.addNil 44 1 ?_
  refine Lst.run rfl rfl (by decide) (Ev.assign rfl) ?_
  refine Lst.nil ?_
  refine At.then ?_
  refine Cd.seq ?_
  refine Cd.region ?_
  refine Lst.addNil 46 2 ?_
  refine Lst.run rfl rfl (by decide) (Ev.assign rfl) ?_
  refine Lst.nil ?_
  refine At.then ?_
  refine Cd.seq ?_
  refine Cd.seq ?_
  refine Cd.region ?_
  refine Lst.run rfl rfl (by decide) (Ev.move rfl) ?_
  refine Lst.run rfl rfl (by decide) (Ev.lenS (α := Event) (xs := a0) (by decide) rfl rfl Try.runUnderlying24 (hs_a0.mono (FLe.refl _) (List.Sublist.cons _ (List.Sublist.cons _ hM)))) ?_
  refine Lst.run rfl rfl (by decide) (Ev.move rfl) ?_
  refine Lst.nil ?_
  refine At.then ?_
  refine Cd.block ?_
  refine Cd.bound (Rd.le (α := Event) (xs := a0) (by decide) (hs_a0.mono (FLe.refl _) (List.Sublist.cons _ (List.Sublist.cons _ hM)))) (fun hN57 => ?_)
  obtain ⟨ol4, H, HKl4⟩ := bind_some H
  refine Cd.loop (σ := Nat × Nat × Sl × (List Pair)) (fun (i4, k4, s5, l6) => [(0, Sl.v s_a0), (3, Sl.v s5), (8, Sl.v s_a0), (9, .int .i64 (a0.length : Int)), (10, .int .i64 (i4 : Int))]) (fun (i4, k4, s5, l6) => (.own s5 46 2 (encs l6)) :: (.own Sl.nil 44 1 (encs ([] : List (LR Bool)))) :: L) (fun _ => (fun (i4, k4, s5, l6) => rangeF (partref_Causes_B0 fu a0) k4 i4 l6 = some ol4 ∧ i4 + k4 = a0.length)) (fun (i4, k4, s5, l6) => k4) (0, a0.length, Sl.nil, ([] : List Pair)) ⟨rfl, rfl, rfl, rfl, rfl, trivial⟩ rfl ⟨H, by omega⟩ ?_
  rintro F7 ⟨i4, k4, s5, l6⟩ hF8 ⟨H, hik4⟩
  refine Cd.as (e' := [(0, Sl.v s_a0), (3, Sl.v s5), (8, Sl.v s_a0), (9, .int .i64 (a0.length : Int)), (10, .int .i64 (i4 : Int))]) (L' := (.own s5 46 2 (encs l6)) :: (.own Sl.nil 44 1 (encs ([] : List (LR Bool)))) :: L) ⟨rfl, rfl, rfl, rfl, rfl, trivial⟩ rfl ?_
  rcases k4 with _ | k4
  · have hc4 : decide ((i4 : Int) < (a0.length : Int)) = false := decide_eq_false (by omega)
    replace H := rangeF_end H
    refine Cd.seq ?_
    refine Cd.region ?_
    refine Lst.run rfl rfl (by decide) (Ev.lss rfl rfl) ?_
    refine Lst.nil ?_
    refine At.then ?_
    refine Cd.seq ?_
    refine Cd.condF rfl hc4 ?_
    refine Cd.exit ?_
    refine At.then_exit ?_
    refine At.then_exit ?_
    refine At.in_exit ?_
    subst H
    replace H := HKl4
    refine At.then ?_
    refine Cd.seq ?_
    refine Cd.region ?_
    refine Lst.run rfl rfl (by decide) (Ev.move rfl) ?_
    refine Lst.run rfl rfl (by decide) (Ev.lenS (α := Event) (xs := a0) (by decide) rfl rfl Try.runUnderlying24 (hs_a0.mono hF8 (List.Sublist.cons _ (List.Sublist.cons _ hM)))) ?_
    refine Lst.run rfl rfl (by decide) (Ev.move rfl) ?_
    obtain ⟨r48, h49, H⟩ := bind_some H
    refine Lst.call rfl rfl (by decide) (vs := [.int .i64 (a0.length : Int), Sl.v s5]) ⟨rfl, rfl, trivial⟩ Try.call52 (partref_Closure_sim h49 w0 _ _ _ (List.Sublist.refl _) (Rd.own (i := 0) rfl rfl rfl)) (fun F55 L' v hF56 hv => ?_)
    obtain ⟨s50, rs51, rfl, rfl, fm52⟩ := hv
    refine Lst.run rfl rfl (by decide) (Ev.assign rfl) ?_
    refine Lst.nil ?_
    refine At.then ?_
    obtain rfl := some_inj H
    refine Cd.ret ?_
    exact At.ret1 rfl (Res.tmp rfl) (FLe.trans hF8 hF56) (List.Sublist.cons_cons _ (List.Sublist.cons_cons _ (List.Sublist.cons _ (List.Sublist.cons _ (List.Sublist.refl _))))) ⟨s50, rs51, rfl, rfl, fm52⟩
  have hc4 : decide ((i4 : Int) < (a0.length : Int)) = true := decide_eq_true (by omega)
  obtain ⟨c4, H, hgo4⟩ := rangeF_go H
  unfold partref_Causes_B0 at H
  try dsimp only at H
  refine Cd.seq ?_
  refine Cd.region ?_
  refine Lst.run rfl rfl (by decide) (Ev.lss rfl rfl) ?_
  refine Lst.nil ?_
  refine At.then ?_
  refine Cd.seq ?_
  refine Cd.condT rfl hc4 ?_
  refine Cd.skip ?_
  refine At.then ?_
  refine Cd.seq ?_
  refine Cd.block ?_
  refine Cd.seq ?_
  refine Cd.region ?_
  refine Lst.run rfl rfl (by decide) (Ev.move rfl) ?_
  obtain ⟨x9, h10, H⟩ := bind_some H
  have g11 := lat_some h10
  refine Lst.run rfl rfl (by decide) (Ev.indexS (α := Event) (xs := a0) rfl rfl Try.runUnderlying24 Try.sizeOf75 rfl (by decide) (hs_a0.mono hF8 (List.Sublist.cons _ (List.Sublist.cons _ hM))) g11.1 g11.2.1) ?_
  refine Lst.run rfl rfl (by decide) (Ev.loadSA (α := Event) rfl (hs_a0.mono hF8 (List.Sublist.cons _ (List.Sublist.cons _ hM))) Try.isAgg75 Try.sizeOf75 (ch := enc x9) (Enc.len _) (by decide) ((Get.elemN (s := 3) rfl g11.2.2 (Get.here _)).off (by omega))) ?_
  refine Lst.alloc (cs := enc Event.zero) rfl rfl (by decide) Try.zeroValue75 rfl (fun b12 => ?_)
  refine Lst.run rfl rfl (by decide) (Ev.assign rfl) ?_
  refine Lst.store (i := 0) rfl rfl rfl rfl rfl Try.sizeOf75 (vs := enc x9) rfl (Enc.len _) (Enc.one _) (cs' := enc x9) (Put.here ((Enc.len _).trans (Enc.len _).symm)) (L' := (.blk b12 (enc x9) 75) :: (.own s5 46 2 (encs l6)) :: (.own Sl.nil 44 1 (encs ([] : List (LR Bool)))) :: L) rfl ?_
  refine Lst.nil ?_
  refine At.then ?_
  refine Cd.seq ?_
  refine Cd.region ?_
  refine Lst.run rfl rfl (by decide) (Ev.move rfl) ?_
  refine Lst.run rfl rfl (by decide) (Ev.add rfl rfl) ?_
  refine Lst.run rfl rfl (by decide) (Ev.assign rfl) ?_
  refine Lst.nil ?_
  refine At.then ?_
  refine Cd.block ?_
  obtain ⟨ol14, H, HKl14⟩ := andThen_some H
  refine Cd.loop (σ := Nat × Int × Sl × (List Pair)) (fun (k14, y15, s16, l17) => [(0, Sl.v s_a0), (3, Sl.v s16), (4, .int .i64 (i4 : Int)), (5, .pointer (some ⟨b12, 0, none⟩)), (6, .int .i64 y15), (8, Sl.v s_a0), (9, .int .i64 (a0.length : Int)), (10, .int .i64 (i4 : Int))]) (fun (k14, y15, s16, l17) => (.blk b12 (enc x9) 75) :: (.own s16 46 2 (encs l17)) :: (.own Sl.nil 44 1 (encs ([] : List (LR Bool)))) :: L) (fun _ => (fun (k14, y15, s16, l17) => whileM (partref_Causes_B2 a0 i4 x9) k14 (y15, l17) = some ol14)) (fun (k14, y15, s16, l17) => k14) (fu, w64 ((i4 : Int) + (1 : Int)), s5, l6) ⟨rfl, rfl, rfl, rfl, rfl, rfl, rfl, rfl, trivial⟩ rfl H ?_
  rintro F18 ⟨k14, y15, s16, l17⟩ hF19 H
  refine Cd.as (e' := [(0, Sl.v s_a0), (3, Sl.v s16), (4, .int .i64 (i4 : Int)), (5, .pointer (some ⟨b12, 0, none⟩)), (6, .int .i64 y15), (8, Sl.v s_a0), (9, .int .i64 (a0.length : Int)), (10, .int .i64 (i4 : Int))]) (L' := (.blk b12 (enc x9) 75) :: (.own s16 46 2 (encs l17)) :: (.own Sl.nil 44 1 (encs ([] : List (LR Bool)))) :: L) ⟨rfl, rfl, rfl, rfl, rfl, rfl, rfl, rfl, trivial⟩ rfl ?_
  rcases k14 with _ | k14
  · cases H
  obtain ⟨c14, H, hgo14, hbrk14, hret14⟩ := whileM_go H
  unfold partref_Causes_B2 at H
  try dsimp only at H
  refine Cd.seq ?_
  refine Cd.seq ?_
  refine Cd.region ?_
  refine Lst.run rfl rfl (by decide) (Ev.move rfl) ?_
  refine Lst.run rfl rfl (by decide) (Ev.move rfl) ?_
  refine Lst.run rfl rfl (by decide) (Ev.lenS (α := Event) (xs := a0) (by decide) rfl rfl Try.runUnderlying24 (hs_a0.mono (FLe.trans hF8 hF19) (List.Sublist.cons _ (List.Sublist.cons _ (List.Sublist.cons _ hM))))) ?_
  refine Lst.run rfl rfl (by decide) (Ev.lss rfl rfl) ?_
  refine Lst.nil ?_
  refine At.then ?_
  rcases (Bool.eq_false_or_eq_true (decide (y15 < (a0.length : Int)))).symm with hb20 | hb20
  · replace H := ite_f hb20 H
    refine Cd.condF rfl hb20 ?_
    refine Cd.exit ?_
    refine At.then_exit ?_
    refine At.then_exit ?_
    refine At.in_exit ?_
    have H := hbrk14 _ (some_inj H).symm
    subst H
    replace H := HKl14
    refine At.in_normal ?_
    refine At.then ?_
    refine Cd.region ?_
    refine Lst.run rfl rfl (by decide) (Ev.incr (by omega) rfl rfl) ?_
    refine Lst.run rfl rfl (by decide) (Ev.move rfl) ?_
    refine Lst.nil ?_
    refine At.less (L' := (.own s16 46 2 (encs l17)) :: (.own Sl.nil 44 1 (encs ([] : List (LR Bool)))) :: L) (List.Sublist.cons _ (List.Sublist.cons_cons _ (List.Sublist.cons_cons _ (List.Sublist.refl _)))) ?_
    exact At.meet (i4 + 1, k4, s16, l17) (FLe.trans hF8 hF19) ⟨rfl, rfl, rfl, rfl, rfl, trivial⟩ rfl ⟨⟨hgo4 _ (some_inj H).symm, by omega⟩, Nat.lt_succ_self _⟩
  replace H := ite_t hb20 H
  refine Cd.condT rfl hb20 ?_
  refine Cd.skip ?_
  refine At.then ?_
  refine Cd.seq ?_
  refine Cd.block ?_
  refine Cd.seq ?_
  refine Cd.region ?_
  refine Lst.run rfl rfl (by decide) (Ev.move rfl) ?_
  refine Lst.run rfl rfl (by decide) (Ev.move rfl) ?_
  obtain ⟨x21, h22, H⟩ := bind_some H
  have g23 := lat_some h22
  refine Lst.run rfl rfl (by decide) (Ev.indexS (α := Event) (xs := a0) rfl rfl Try.runUnderlying24 Try.sizeOf75 rfl (by decide) (hs_a0.mono (FLe.trans hF8 hF19) (List.Sublist.cons _ (List.Sublist.cons _ (List.Sublist.cons _ hM)))) g23.1 g23.2.1) ?_
  refine Lst.run rfl rfl (by decide) (Ev.loadSA (α := Event) rfl (hs_a0.mono (FLe.trans hF8 hF19) (List.Sublist.cons _ (List.Sublist.cons _ (List.Sublist.cons _ hM)))) Try.isAgg75 Try.sizeOf75 (ch := enc x21) (Enc.len _) (by decide) ((Get.elemN (s := 3) rfl g23.2.2 (Get.here _)).off (by omega))) ?_
  refine Lst.alloc (cs := enc Event.zero) rfl rfl (by decide) Try.zeroValue75 rfl (fun b24 => ?_)
  refine Lst.store (i := 0) rfl rfl rfl rfl rfl Try.sizeOf75 (vs := enc x21) rfl (Enc.len _) (Enc.one _) (cs' := enc x21) (Put.here ((Enc.len _).trans (Enc.len _).symm)) (L' := (.blk b24 (enc x21) 75) :: (.blk b12 (enc x9) 75) :: (.own s16 46 2 (encs l17)) :: (.own Sl.nil 44 1 (encs ([] : List (LR Bool)))) :: L) rfl ?_
  refine Lst.nil ?_
  refine At.then ?_
  refine Cd.seq ?_
  refine Cd.region ?_
  refine Lst.run rfl rfl (by decide) (Ev.fieldAddr (off' := 0) rfl Try.runUnderlying75 rfl Try.sizeOf3 rfl rfl) ?_
  refine Lst.run rfl rfl (by decide) (Ev.load (i := 1) rfl rfl Try.isAgg3 (v := .int .i64 x9.Proc) ((Event.get_Proc (Get.here _)).off (by rfl))) ?_
  refine Lst.run rfl rfl (by decide) (Ev.fieldAddr (off' := 0) rfl Try.runUnderlying75 rfl Try.sizeOf3 rfl rfl) ?_
  refine Lst.run rfl rfl (by decide) (Ev.load (i := 0) rfl rfl Try.isAgg3 (v := .int .i64 x21.Proc) ((Event.get_Proc (Get.here _)).off (by rfl))) ?_
  refine Lst.run rfl rfl (by decide) (Ev.eql rfl rfl) ?_
  refine Lst.run rfl rfl (by decide) (Ev.move rfl) ?_
  rcases Bool.eq_false_or_eq_true (x9.Proc == x21.Proc) with hb26 | hb26
  · replace H := ite_t hb26 H
    refine Lst.skip rfl rfl rfl hb26 rfl (by decide) ?_
    refine Lst.skip rfl rfl rfl hb26 rfl (by decide) ?_
    refine Lst.skip rfl rfl rfl hb26 rfl (by decide) ?_
    refine Lst.skip rfl rfl rfl hb26 rfl (by decide) ?_
    refine Lst.skipU rfl rfl rfl rfl (by decide) ?_
    refine Lst.skipU rfl rfl rfl rfl (by decide) ?_
    refine Lst.skipU rfl rfl rfl rfl (by decide) ?_
    refine Lst.skip rfl rfl rfl hb26 rfl (by decide) ?_
    refine Lst.skip rfl rfl rfl hb26 rfl (by decide) ?_
    refine Lst.skipU rfl rfl rfl rfl (by decide) ?_
    refine Lst.skipU rfl rfl rfl rfl (by decide) ?_
    refine Lst.skipU rfl rfl rfl rfl (by decide) ?_
    refine Lst.skipU rfl rfl rfl rfl (by decide) ?_
    refine Lst.skipU rfl rfl rfl rfl (by decide) ?_
    refine Lst.skip rfl rfl rfl hb26 rfl (by decide) ?_
    refine Lst.run rfl rfl (by decide) (Ev.pickT rfl hb26 rfl) ?_
    refine Lst.nil ?_
    refine At.then ?_
    refine Cd.condT rfl rfl ?_
    refine Cd.as (e' := [(0, Sl.v s_a0), (3, Sl.v s16), (4, .int .i64 (i4 : Int)), (5, .pointer (some ⟨b12, 0, none⟩)), (6, .int .i64 y15), (8, Sl.v s_a0), (9, .int .i64 (a0.length : Int)), (10, .int .i64 (i4 : Int))]) (L' := (.blk b24 (enc x21) 75) :: (.blk b12 (enc x9) 75) :: (.own s16 46 2 (encs l17)) :: (.own Sl.nil 44 1 (encs ([] : List (LR Bool)))) :: L) ⟨rfl, rfl, rfl, rfl, rfl, rfl, rfl, rfl, trivial⟩ rfl ?_
    refine Cd.region ?_
    refine Lst.run rfl rfl (by decide) (Ev.move rfl) ?_
    refine Lst.run rfl rfl (by decide) (Ev.move rfl) ?_
    refine Lst.run rfl rfl (by decide) (Ev.move rfl) ?_
    refine Lst.run rfl rfl (by decide) (Ev.build (v := .agg (enc ({ Pair.zero with A := (i4 : Int), B := y15 } : Pair)).toArray) (pv := [(0, .int .i64 (i4 : Int)), (1, .int .i64 y15)]) ⟨rfl, rfl, ⟨rfl, rfl, trivial⟩⟩ (fun w => by kernel_rfl)) ?_
    refine Lst.buildSlice (α := Pair) (xs := ([({ Pair.zero with A := (i4 : Int), B := y15 } : Pair)] : List Pair)) (pv := [(0, .agg (enc ({ Pair.zero with A := (i4 : Int), B := y15 } : Pair)).toArray)]) rfl rfl (by decide) ⟨rfl, rfl, trivial⟩ (run_buildSlice (α := Pair) (z0 := Pair.zero) (xs := ([({ Pair.zero with A := (i4 : Int), B := y15 } : Pair)] : List Pair)) Try.runUnderlying39 Try.sizeOf46 Try.zeroValue46 rfl rfl rfl (by decide) rfl (fill_cons (cs := encs (List.replicate 1 Pair.zero)) (cs' := encs ((List.replicate 1 Pair.zero).set 0 ({ Pair.zero with A := (i4 : Int), B := y15 } : Pair))) (vs := enc ({ Pair.zero with A := (i4 : Int), B := y15 } : Pair)) rfl rfl (Enc.len _) ((Put.elemN (s := 2) (i := 0) (x := Pair.zero) (y := ({ Pair.zero with A := (i4 : Int), B := y15 } : Pair)) rfl rfl (Put.here ((Enc.len _).trans (Enc.len _).symm))).off rfl) fill_nil)) rfl rfl (by decide) (fun s27 _ => ?_)
    obtain ⟨u29, h30, H⟩ := bind_some H
    refine Lst.append (i := 3) (α := Pair) (xs := l17) (ys := ([({ Pair.zero with A := (i4 : Int), B := y15 } : Pair)] : List Pair)) rfl rfl (by decide) rfl rfl Try.runUnderlying39 Try.typeInfo46 rfl rfl rfl rfl rfl rfl (Rd.own (i := 0) rfl rfl rfl) rfl (room_some h30) rfl (fun s31 => ?_)
    refine Lst.its (L' := (.own s27 46 2 (encs ([({ Pair.zero with A := (i4 : Int), B := y15 } : Pair)] : List Pair))) :: (.blk b24 (enc x21) 75) :: (.blk b12 (enc x9) 75) :: (.own s31 46 2 (encs (l17 ++ ([({ Pair.zero with A := (i4 : Int), B := y15 } : Pair)] : List Pair)))) :: (.own Sl.nil 44 1 (encs ([] : List (LR Bool)))) :: L) rfl ?_
    refine Lst.run rfl rfl (by decide) (Ev.assign rfl) ?_
    refine Lst.nil ?_
    refine At.in_normal ?_
    refine At.then ?_
    refine Cd.region ?_
    refine Lst.run rfl rfl (by decide) (Ev.move rfl) ?_
    refine Lst.run rfl rfl (by decide) (Ev.add rfl rfl) ?_
    refine Lst.run rfl rfl (by decide) (Ev.assign rfl) ?_
    refine Lst.nil ?_
    refine At.less (L' := (.blk b12 (enc x9) 75) :: (.own s31 46 2 (encs (l17 ++ ([({ Pair.zero with A := (i4 : Int), B := y15 } : Pair)] : List Pair)))) :: (.own Sl.nil 44 1 (encs ([] : List (LR Bool)))) :: L) (List.Sublist.cons _ (List.Sublist.cons _ (List.Sublist.cons_cons _ (List.Sublist.cons_cons _ (List.Sublist.cons_cons _ (List.Sublist.refl _)))))) ?_
    exact At.meet (k14, w64 (y15 + (1 : Int)), s31, l17 ++ ([({ Pair.zero with A := (i4 : Int), B := y15 } : Pair)] : List Pair)) hF19 ⟨rfl, rfl, rfl, rfl, rfl, rfl, rfl, rfl, trivial⟩ rfl ⟨hgo14 _ (some_inj H).symm, Nat.lt_succ_self _⟩
  replace H := ite_f hb26 H
  refine Lst.runG rfl rfl rfl hb26 rfl (by decide) (Ev.fieldAddr (off' := 1) rfl Try.runUnderlying75 rfl Try.sizeOf3 rfl rfl) ?_
  refine Lst.runG rfl rfl rfl hb26 rfl (by decide) (Ev.load (i := 1) rfl rfl Try.isAgg3 (v := .int .i64 x9.Kind) ((Event.get_Kind (Get.here _)).off (by rfl))) ?_
  refine Lst.runG rfl rfl rfl hb26 rfl (by decide) (Ev.eql rfl rfl) ?_
  refine Lst.runG rfl rfl rfl hb26 rfl (by decide) (Ev.move rfl) ?_
  obtain ⟨o32, H, HKo32⟩ := bind_some H
  refine Lst.join (σ := Bool) 4 (fun y33 => [(0, Sl.v s_a0), (3, Sl.v s16), (4, .int .i64 (i4 : Int)), (5, .pointer (some ⟨b12, 0, none⟩)), (6, .int .i64 y15), (7, .pointer (some ⟨b24, 0, none⟩)), (8, Sl.v s_a0), (9, .int .i64 (a0.length : Int)), (10, .int .i64 (i4 : Int)), (32, .bool (x9.Proc == x21.Proc)), (40, .bool y33)]) (fun y33 => (.blk b24 (enc x21) 75) :: (.blk b12 (enc x9) 75) :: (.own s16 46 2 (encs l17)) :: (.own Sl.nil 44 1 (encs ([] : List (LR Bool)))) :: L) (fun _ y33 => y33 = o32) ?_ ?_
  · rcases (Bool.eq_false_or_eq_true (x9.Kind == (2 : Int))).symm with hb34 | hb34
    · replace H := ite_f hb34 H
      refine Lst.skip rfl rfl rfl hb34 rfl (by decide) ?_
      refine Lst.skip rfl rfl rfl hb34 rfl (by decide) ?_
      refine Lst.skip rfl rfl rfl hb34 rfl (by decide) ?_
      refine Lst.runG rfl rfl rfl hb26 rfl (by decide) (Ev.pickF rfl hb34 rfl) ?_
      refine Lst.nil ?_
      exact At.meet false (FLe.refl _) ⟨rfl, rfl, rfl, rfl, rfl, rfl, rfl, rfl, rfl, rfl, rfl, trivial⟩ rfl (some_inj H)
    replace H := ite_t hb34 H
    refine Lst.runG rfl rfl rfl hb34 rfl (by decide) (Ev.fieldAddr (off' := 1) rfl Try.runUnderlying75 rfl Try.sizeOf3 rfl rfl) ?_
    refine Lst.runG rfl rfl rfl hb34 rfl (by decide) (Ev.load (i := 0) rfl rfl Try.isAgg3 (v := .int .i64 x21.Kind) ((Event.get_Kind (Get.here _)).off (by rfl))) ?_
    refine Lst.runG rfl rfl rfl hb34 rfl (by decide) (Ev.eql rfl rfl) ?_
    refine Lst.runG rfl rfl rfl hb26 rfl (by decide) (Ev.pickT rfl hb34 rfl) ?_
    refine Lst.nil ?_
    exact At.meet (x21.Kind == (3 : Int)) (FLe.refl _) ⟨rfl, rfl, rfl, rfl, rfl, rfl, rfl, rfl, rfl, rfl, rfl, trivial⟩ rfl (some_inj H)
  rintro F35 y33 hF36 hy
  subst hy
  refine Lst.as (e' := [(0, Sl.v s_a0), (3, Sl.v s16), (4, .int .i64 (i4 : Int)), (5, .pointer (some ⟨b12, 0, none⟩)), (6, .int .i64 y15), (7, .pointer (some ⟨b24, 0, none⟩)), (8, Sl.v s_a0), (9, .int .i64 (a0.length : Int)), (10, .int .i64 (i4 : Int)), (32, .bool (x9.Proc == x21.Proc)), (40, .bool y33)]) (L' := (.blk b24 (enc x21) 75) :: (.blk b12 (enc x9) 75) :: (.own s16 46 2 (encs l17)) :: (.own Sl.nil 44 1 (encs ([] : List (LR Bool)))) :: L) ⟨rfl, rfl, rfl, rfl, rfl, rfl, rfl, rfl, rfl, rfl, rfl, trivial⟩ rfl ?_
  replace H := HKo32
  refine Lst.runG rfl rfl rfl hb26 rfl (by decide) (Ev.move rfl) ?_
  obtain ⟨o37, H, HKo37⟩ := bind_some H
  refine Lst.join (σ := Bool) 6 (fun y38 => [(0, Sl.v s_a0), (3, Sl.v s16), (4, .int .i64 (i4 : Int)), (5, .pointer (some ⟨b12, 0, none⟩)), (6, .int .i64 y15), (8, Sl.v s_a0), (9, .int .i64 (a0.length : Int)), (10, .int .i64 (i4 : Int)), (32, .bool (x9.Proc == x21.Proc)), (47, .bool y38)]) (fun y38 => (.blk b24 (enc x21) 75) :: (.blk b12 (enc x9) 75) :: (.own s16 46 2 (encs l17)) :: (.own Sl.nil 44 1 (encs ([] : List (LR Bool)))) :: L) (fun _ y38 => y38 = o37) ?_ ?_
  · rcases (Bool.eq_false_or_eq_true y33).symm with hb39 | hb39
    · replace H := ite_f hb39 H
      refine Lst.skip rfl rfl rfl hb39 rfl (by decide) ?_
      refine Lst.skip rfl rfl rfl hb39 rfl (by decide) ?_
      refine Lst.skip rfl rfl rfl hb39 rfl (by decide) ?_
      refine Lst.skip rfl rfl rfl hb39 rfl (by decide) ?_
      refine Lst.skip rfl rfl rfl hb39 rfl (by decide) ?_
      refine Lst.runG rfl rfl rfl hb26 rfl (by decide) (Ev.pickF rfl hb39 rfl) ?_
      refine Lst.nil ?_
      exact At.meet false (FLe.refl _) ⟨rfl, rfl, rfl, rfl, rfl, rfl, rfl, rfl, rfl, rfl, trivial⟩ rfl (some_inj H)
    replace H := ite_t hb39 H
    refine Lst.runG rfl rfl rfl hb39 rfl (by decide) (Ev.fieldAddr (off' := 2) rfl Try.runUnderlying75 rfl Try.sizeOf3 rfl rfl) ?_
    refine Lst.runG rfl rfl rfl hb39 rfl (by decide) (Ev.load (i := 1) rfl rfl Try.isAgg3 (v := .int .i64 x9.Msg) ((Event.get_Msg (Get.here _)).off (by rfl))) ?_
    refine Lst.runG rfl rfl rfl hb39 rfl (by decide) (Ev.fieldAddr (off' := 2) rfl Try.runUnderlying75 rfl Try.sizeOf3 rfl rfl) ?_
    refine Lst.runG rfl rfl rfl hb39 rfl (by decide) (Ev.load (i := 0) rfl rfl Try.isAgg3 (v := .int .i64 x21.Msg) ((Event.get_Msg (Get.here _)).off (by rfl))) ?_
    refine Lst.runG rfl rfl rfl hb39 rfl (by decide) (Ev.eql rfl rfl) ?_
    refine Lst.runG rfl rfl rfl hb26 rfl (by decide) (Ev.pickT rfl hb39 rfl) ?_
    refine Lst.nil ?_
    exact At.meet (x9.Msg == x21.Msg) (FLe.refl _) ⟨rfl, rfl, rfl, rfl, rfl, rfl, rfl, rfl, rfl, rfl, trivial⟩ rfl (some_inj H)
  rintro F40 y38 hF41 hy
  subst hy
  refine Lst.as (e' := [(0, Sl.v s_a0), (3, Sl.v s16), (4, .int .i64 (i4 : Int)), (5, .pointer (some ⟨b12, 0, none⟩)), (6, .int .i64 y15), (8, Sl.v s_a0), (9, .int .i64 (a0.length : Int)), (10, .int .i64 (i4 : Int)), (32, .bool (x9.Proc == x21.Proc)), (47, .bool y38)]) (L' := (.blk b24 (enc x21) 75) :: (.blk b12 (enc x9) 75) :: (.own s16 46 2 (encs l17)) :: (.own Sl.nil 44 1 (encs ([] : List (LR Bool)))) :: L) ⟨rfl, rfl, rfl, rfl, rfl, rfl, rfl, rfl, rfl, rfl, trivial⟩ rfl ?_
  replace H := HKo37
  refine Lst.run rfl rfl (by decide) (Ev.pickF rfl hb26 rfl) ?_
  refine Lst.nil ?_
  refine At.then ?_
  rcases (Bool.eq_false_or_eq_true y38).symm with hb42 | hb42
  · replace H := ite_f hb42 H
    refine Cd.condF rfl hb42 ?_
    refine Cd.skip ?_
    refine At.in_normal ?_
    refine At.then ?_
    refine Cd.region ?_
    refine Lst.run rfl rfl (by decide) (Ev.move rfl) ?_
    refine Lst.run rfl rfl (by decide) (Ev.add rfl rfl) ?_
    refine Lst.run rfl rfl (by decide) (Ev.assign rfl) ?_
    refine Lst.nil ?_
    refine At.less (L' := (.blk b12 (enc x9) 75) :: (.own s16 46 2 (encs l17)) :: (.own Sl.nil 44 1 (encs ([] : List (LR Bool)))) :: L) (List.Sublist.cons _ (List.Sublist.cons_cons _ (List.Sublist.cons_cons _ (List.Sublist.cons_cons _ (List.Sublist.refl _))))) ?_
    exact At.meet (k14, w64 (y15 + (1 : Int)), s16, l17) (FLe.trans (FLe.trans hF19 hF36) hF41) ⟨rfl, rfl, rfl, rfl, rfl, rfl, rfl, rfl, trivial⟩ rfl ⟨hgo14 _ (some_inj H).symm, Nat.lt_succ_self _⟩
  replace H := ite_t hb42 H
  refine Cd.condT rfl hb42 ?_
  refine Cd.region ?_
  refine Lst.run rfl rfl (by decide) (Ev.move rfl) ?_
  refine Lst.run rfl rfl (by decide) (Ev.move rfl) ?_
  refine Lst.run rfl rfl (by decide) (Ev.move rfl) ?_
  refine Lst.run rfl rfl (by decide) (Ev.build (v := .agg (enc ({ Pair.zero with A := (i4 : Int), B := y15 } : Pair)).toArray) (pv := [(0, .int .i64 (i4 : Int)), (1, .int .i64 y15)]) ⟨rfl, rfl, ⟨rfl, rfl, trivial⟩⟩ (fun w => by kernel_rfl)) ?_
  refine Lst.buildSlice (α := Pair) (xs := ([({ Pair.zero with A := (i4 : Int), B := y15 } : Pair)] : List Pair)) (pv := [(0, .agg (enc ({ Pair.zero with A := (i4 : Int), B := y15 } : Pair)).toArray)]) rfl rfl (by decide) ⟨rfl, rfl, trivial⟩ (run_buildSlice (α := Pair) (z0 := Pair.zero) (xs := ([({ Pair.zero with A := (i4 : Int), B := y15 } : Pair)] : List Pair)) Try.runUnderlying39 Try.sizeOf46 Try.zeroValue46 rfl rfl rfl (by decide) rfl (fill_cons (cs := encs (List.replicate 1 Pair.zero)) (cs' := encs ((List.replicate 1 Pair.zero).set 0 ({ Pair.zero with A := (i4 : Int), B := y15 } : Pair))) (vs := enc ({ Pair.zero with A := (i4 : Int), B := y15 } : Pair)) rfl rfl (Enc.len _) ((Put.elemN (s := 2) (i := 0) (x := Pair.zero) (y := ({ Pair.zero with A := (i4 : Int), B := y15 } : Pair)) rfl rfl (Put.here ((Enc.len _).trans (Enc.len _).symm))).off rfl) fill_nil)) rfl rfl (by decide) (fun s43 _ => ?_)
  obtain ⟨u45, h46, H⟩ := bind_some H
  refine Lst.append (i := 3) (α := Pair) (xs := l17) (ys := ([({ Pair.zero with A := (i4 : Int), B := y15 } : Pair)] : List Pair)) rfl rfl (by decide) rfl rfl Try.runUnderlying39 Try.typeInfo46 rfl rfl rfl rfl rfl rfl (Rd.own (i := 0) rfl rfl rfl) rfl (room_some h46) rfl (fun s47 => ?_)
  refine Lst.its (L' := (.own s43 46 2 (encs ([({ Pair.zero with A := (i4 : Int), B := y15 } : Pair)] : List Pair))) :: (.blk b24 (enc x21) 75) :: (.blk b12 (enc x9) 75) :: (.own s47 46 2 (encs (l17 ++ ([({ Pair.zero with A := (i4 : Int), B := y15 } : Pair)] : List Pair)))) :: (.own Sl.nil 44 1 (encs ([] : List (LR Bool)))) :: L) rfl ?_
  refine Lst.run rfl rfl (by decide) (Ev.assign rfl) ?_
  refine Lst.nil ?_
  refine At.in_normal ?_
  refine At.then ?_
  refine Cd.region ?_
  refine Lst.run rfl rfl (by decide) (Ev.move rfl) ?_
  refine Lst.run rfl rfl (by decide) (Ev.add rfl rfl) ?_
  refine Lst.run rfl rfl (by decide) (Ev.assign rfl) ?_
  refine Lst.nil ?_
  refine At.less (L' := (.blk b12 (enc x9) 75) :: (.own s47 46 2 (encs (l17 ++ ([({ Pair.zero with A := (i4 : Int), B := y15 } : Pair)] : List Pair)))) :: (.own Sl.nil 44 1 (encs ([] : List (LR Bool)))) :: L) (List.Sublist.cons _ (List.Sublist.cons _ (List.Sublist.cons_cons _ (List.Sublist.cons_cons _ (List.Sublist.cons_cons _ (List.Sublist.refl _)))))) ?_
  exact At.meet (k14, w64 (y15 + (1 : Int)), s47, l17 ++ ([({ Pair.zero with A := (i4 : Int), B := y15 } : Pair)] : List Pair)) (FLe.trans (FLe.trans hF19 hF36) hF41) ⟨rfl, rfl, rfl, rfl, rfl, rfl, rfl, rfl, trivial⟩ rfl ⟨hgo14 _ (some_inj H).symm, Nat.lt_succ_self _⟩
set_option maxRecDepth 20000 in
theorem partref_Vectors_sim {fu : Nat} {a0 : List Event} {s_a0 : Sl} {r : (List (Vector Int 6))} (H : partref_Vectors fu a0 = some r) (w0 : World) (F : Frz) (M L : List Item) (hM : M.Sublist L) (hs_a0 : Rd w0 F M s_a0 a0) : Ok Try.prog w0 18 [Sl.v s_a0] F (L) (fun _ L' v => ∃ (s58 : Sl), v = Sl.v s58 ∧ L' = (.own s58 23 6 (encs r)) :: L) := by
  unfold partref_Vectors at H
  refine Ok.enter (m := 1) (n := 50) Try.func18 rfl rfl rfl (by decide) ?_
  refine Cd.env (e' := [(0, Sl.v s_a0)]) rfl ?_
  refine Cd.seq ?_
  refine Cd.region ?_
  refine Lst.addNil 23 6 ?_
  refine Lst.run rfl rfl (by decide) (Ev.assign rfl) ?_
  refine Lst.nil ?_
  refine At.then ?_
  refine Cd.seq ?_
  refine Cd.region ?_
  refine Lst.run rfl rfl (by decide) (Ev.move rfl) ?_
  obtain ⟨r2, h3, H⟩ := bind_some H
  refine Lst.call rfl rfl (by decide) (vs := [Sl.v s_a0]) ⟨rfl, trivial⟩ Try.call23 (partref_Causes_sim h3 w0 _ M _ (List.Sublist.cons _ hM) (hs_a0.mono (FLe.refl _) (List.Sublist.refl _))) (fun F9 L' v hF10 hv => ?_)
  obtain ⟨s4, rs5, rfl, rfl, fm6⟩ := hv
  refine Lst.run rfl rfl (by decide) (Ev.assign rfl) ?_
  refine Lst.nil ?_
  refine At.then ?_
  refine Cd.seq ?_
  refine Cd.region ?_
  refine Lst.run rfl rfl (by decide) (Ev.move rfl) ?_
  refine Lst.run rfl rfl (by decide) (Ev.lenS (α := Event) (xs := a0) (by decide) rfl rfl Try.runUnderlying24 (hs_a0.mono hF10 (List.Sublist.cons _ (List.Sublist.cons _ (List.Sublist.cons _ hM))))) ?_
  obtain ⟨n11, h12, H⟩ := bind_some H
  have g13 := mkLen_some h12
  refine Lst.make (α := Vector Int 6) (z0 := (Vector.replicate 6 (0 : Int))) (k := n11) rfl rfl (by decide) (congrArg some (congrArg (Value.int .i64) g13.1)) (congrArg some (congrArg (Value.int .i64) g13.1)) Try.runUnderlying28 Try.typeInfo23 rfl rfl rfl rfl rfl g13.2 rfl (fun s14 => ?_)
  refine Lst.run rfl rfl (by decide) (Ev.assign rfl) ?_
  refine Lst.nil ?_
  refine At.then ?_
  refine Cd.seq ?_
  refine Cd.seq ?_
  refine Cd.region ?_
  refine Lst.run rfl rfl (by decide) (Ev.move rfl) ?_
  refine Lst.run rfl rfl (by decide) (Ev.lenS (α := Event) (xs := a0) (by decide) rfl rfl Try.runUnderlying24 (hs_a0.mono hF10 (List.Sublist.cons _ (List.Sublist.cons _ (List.Sublist.cons _ (List.Sublist.cons _ hM)))))) ?_
  refine Lst.run rfl rfl (by decide) (Ev.move rfl) ?_
  refine Lst.nil ?_
  refine At.then ?_
  refine Cd.block ?_
  refine Cd.bound (Rd.le (α := Event) (xs := a0) (by decide) (hs_a0.mono hF10 (List.Sublist.cons _ (List.Sublist.cons _ (List.Sublist.cons _ (List.Sublist.cons _ hM)))))) (fun hN57 => ?_)
  obtain ⟨ol16, H, HKl16⟩ := bind_some H
  refine Cd.loop (σ := Nat × Nat × Sl × (List (Vector Int 6))) (fun (i16, k16, s17, l18) => [(0, Sl.v s_a0), (3, Sl.v s4), (4, Sl.v s17), (13, .int .i64 (a0.length : Int)), (14, .int .i64 (i16 : Int))]) (fun (i16, k16, s17, l18) => (.own s17 23 6 (encs l18)) :: (.rows (α := Bool) 4 rs5) :: (.own s4 44 1 (encs rs5)) :: (.own Sl.nil 23 6 (encs ([] : List (Vector Int 6)))) :: L) (fun _ => (fun (i16, k16, s17, l18) => rangeF (partref_Vectors_B0 a0 r2) k16 i16 l18 = some ol16 ∧ i16 + k16 = a0.length)) (fun (i16, k16, s17, l18) => k16) (0, a0.length, s14, (List.replicate n11 (Vector.replicate 6 (0 : Int)))) ⟨rfl, rfl, rfl, rfl, rfl, trivial⟩ rfl ⟨H, by omega⟩ ?_
  rintro F19 ⟨i16, k16, s17, l18⟩ hF20 ⟨H, hik16⟩
  refine Cd.as (e' := [(0, Sl.v s_a0), (3, Sl.v s4), (4, Sl.v s17), (13, .int .i64 (a0.length : Int)), (14, .int .i64 (i16 : Int))]) (L' := (.own s17 23 6 (encs l18)) :: (.rows (α := Bool) 4 rs5) :: (.own s4 44 1 (encs rs5)) :: (.own Sl.nil 23 6 (encs ([] : List (Vector Int 6)))) :: L) ⟨rfl, rfl, rfl, rfl, rfl, trivial⟩ rfl ?_
  rcases k16 with _ | k16
  · have hc16 : decide ((i16 : Int) < (a0.length : Int)) = false := decide_eq_false (by omega)
    replace H := rangeF_end H
    refine Cd.seq ?_
    refine Cd.region ?_
    refine Lst.run rfl rfl (by decide) (Ev.lss rfl rfl) ?_
    refine Lst.nil ?_
    refine At.then ?_
    refine Cd.seq ?_
    refine Cd.condF rfl hc16 ?_
    refine Cd.exit ?_
    refine At.then_exit ?_
    refine At.then_exit ?_
    refine At.in_exit ?_
    subst H
    replace H := HKl16
    refine At.then ?_
    refine Cd.seq ?_
    refine Cd.region ?_
    refine Lst.run rfl rfl (by decide) (Ev.move rfl) ?_
    refine Lst.run rfl rfl (by decide) (Ev.assign rfl) ?_
    refine Lst.nil ?_
    refine At.then ?_
    obtain rfl := some_inj H
    refine Cd.ret ?_
    exact At.ret1 rfl (Res.tmp rfl) (FLe.trans hF10 hF20) (List.Sublist.cons_cons _ (List.Sublist.cons _ (List.Sublist.cons _ (List.Sublist.cons _ (List.Sublist.refl _))))) ⟨s17, rfl, rfl⟩
  have hc16 : decide ((i16 : Int) < (a0.length : Int)) = true := decide_eq_true (by omega)
  obtain ⟨c16, H, hgo16⟩ := rangeF_go H
  unfold partref_Vectors_B0 at H
  try dsimp only at H
  refine Cd.seq ?_
  refine Cd.region ?_
  refine Lst.run rfl rfl (by decide) (Ev.lss rfl rfl) ?_
  refine Lst.nil ?_
  refine At.then ?_
  refine Cd.seq ?_
  refine Cd.condT rfl hc16 ?_
  refine Cd.skip ?_
  refine At.then ?_
  refine Cd.seq ?_
  refine Cd.block ?_
  refine Cd.seq ?_
  refine Cd.region ?_
  refine Lst.run rfl rfl (by decide) (Ev.move rfl) ?_
  refine Lst.run rfl rfl (by decide) (Ev.assign rfl) ?_
  refine Lst.nil ?_
  refine At.then ?_
  refine Cd.seq ?_
  refine Cd.region ?_
  refine Lst.run rfl rfl (by decide) (Ev.move rfl) ?_
  refine Lst.run rfl rfl (by decide) (Ev.lenS (α := Event) (xs := a0) (by decide) rfl rfl Try.runUnderlying24 (hs_a0.mono (FLe.trans hF10 hF20) (List.Sublist.cons _ (List.Sublist.cons _ (List.Sublist.cons _ (List.Sublist.cons _ hM)))))) ?_
  refine Lst.run rfl rfl (by decide) (Ev.move rfl) ?_
  refine Lst.nil ?_
  refine At.then ?_
  refine Cd.block ?_
  refine Cd.bound (Rd.le (α := Event) (xs := a0) (by decide) (hs_a0.mono (FLe.trans hF10 hF20) (List.Sublist.cons _ (List.Sublist.cons _ (List.Sublist.cons _ (List.Sublist.cons _ hM)))))) (fun hN56 => ?_)
  obtain ⟨ol21, H, HKl21⟩ := bind_some H
  refine Cd.loop (σ := Nat × Nat × Sl × (List (Vector Int 6))) (fun (i21, k21, s22, l23) => [(0, Sl.v s_a0), (3, Sl.v s4), (4, Sl.v s22), (5, .int .i64 (i16 : Int)), (13, .int .i64 (a0.length : Int)), (14, .int .i64 (i16 : Int)), (18, .int .i64 (a0.length : Int)), (19, .int .i64 (i21 : Int))]) (fun (i21, k21, s22, l23) => (.own s22 23 6 (encs l23)) :: (.rows (α := Bool) 4 rs5) :: (.own s4 44 1 (encs rs5)) :: (.own Sl.nil 23 6 (encs ([] : List (Vector Int 6)))) :: L) (fun _ => (fun (i21, k21, s22, l23) => rangeF (partref_Vectors_B2 a0 r2 i16) k21 i21 l23 = some ol21 ∧ i21 + k21 = a0.length)) (fun (i21, k21, s22, l23) => k21) (0, a0.length, s17, l18) ⟨rfl, rfl, rfl, rfl, rfl, rfl, rfl, rfl, trivial⟩ rfl ⟨H, by omega⟩ ?_
  rintro F24 ⟨i21, k21, s22, l23⟩ hF25 ⟨H, hik21⟩
  refine Cd.as (e' := [(0, Sl.v s_a0), (3, Sl.v s4), (4, Sl.v s22), (5, .int .i64 (i16 : Int)), (13, .int .i64 (a0.length : Int)), (14, .int .i64 (i16 : Int)), (18, .int .i64 (a0.length : Int)), (19, .int .i64 (i21 : Int))]) (L' := (.own s22 23 6 (encs l23)) :: (.rows (α := Bool) 4 rs5) :: (.own s4 44 1 (encs rs5)) :: (.own Sl.nil 23 6 (encs ([] : List (Vector Int 6)))) :: L) ⟨rfl, rfl, rfl, rfl, rfl, rfl, rfl, rfl, trivial⟩ rfl ?_
  rcases k21 with _ | k21
  · have hc21 : decide ((i21 : Int) < (a0.length : Int)) = false := decide_eq_false (by omega)
    replace H := rangeF_end H
    refine Cd.seq ?_
    refine Cd.region ?_
    refine Lst.run rfl rfl (by decide) (Ev.lss rfl rfl) ?_
    refine Lst.nil ?_
    refine At.then ?_
    refine Cd.seq ?_
    refine Cd.condF rfl hc21 ?_
    refine Cd.exit ?_
    refine At.then_exit ?_
    refine At.then_exit ?_
    refine At.in_exit ?_
    subst H
    replace H := HKl21
    refine At.in_normal ?_
    refine At.then ?_
    refine Cd.region ?_
    refine Lst.run rfl rfl (by decide) (Ev.incr (by omega) rfl rfl) ?_
    refine Lst.run rfl rfl (by decide) (Ev.move rfl) ?_
    refine Lst.nil ?_
    exact At.meet (i16 + 1, k16, s22, l23) (FLe.trans hF20 hF25) ⟨rfl, rfl, rfl, rfl, rfl, trivial⟩ rfl ⟨⟨hgo16 _ (some_inj H).symm, by omega⟩, Nat.lt_succ_self _⟩
  have hc21 : decide ((i21 : Int) < (a0.length : Int)) = true := decide_eq_true (by omega)
  obtain ⟨c21, H, hgo21⟩ := rangeF_go H
  unfold partref_Vectors_B2 at H
  try dsimp only at H
  refine Cd.seq ?_
  refine Cd.region ?_
  refine Lst.run rfl rfl (by decide) (Ev.lss rfl rfl) ?_
  refine Lst.nil ?_
  refine At.then ?_
  refine Cd.seq ?_
  refine Cd.condT rfl hc21 ?_
  refine Cd.skip ?_
  refine At.then ?_
  refine Cd.seq ?_
  refine Cd.block ?_
  refine Cd.seq ?_
  refine Cd.region ?_
  refine Lst.run rfl rfl (by decide) (Ev.move rfl) ?_
  refine Lst.run rfl rfl (by decide) (Ev.assign rfl) ?_
  refine Lst.nil ?_
  refine At.then ?_
  refine Cd.seq ?_
  refine Cd.region ?_
  refine Lst.run rfl rfl (by decide) (Ev.move rfl) ?_
  refine Lst.run rfl rfl (by decide) (Ev.move rfl) ?_
  obtain ⟨x26, h27, H⟩ := bind_some H
  have g28 := lat_some h27
  obtain ⟨⟨r29v, r29h⟩, r29g, r29e, r29m⟩ := map_get fm6 g28.2.2
  obtain rfl : x26 = r29v := r29e.symm
  refine Lst.run rfl rfl (by decide) (Ev.indexS (α := LR Bool) (xs := rs5) rfl rfl Try.runUnderlying42 Try.sizeOf44 rfl (by decide) (Rd.own (i := 2) rfl rfl rfl) g28.1 (by have := map_len fm6; omega)) ?_
  refine Lst.run rfl rfl (by decide) (Ev.loadS (α := LR Bool) rfl (Rd.own (i := 2) rfl rfl rfl) Try.isAgg44 (v := Sl.v r29h) ((Get.elemN (s := 1) rfl r29g (Get.here _)).off (by omega))) ?_
  refine Lst.run rfl rfl (by decide) (Ev.move rfl) ?_
  obtain ⟨x30, h31, H⟩ := bind_some H
  have g32 := lat_some h31
  refine Lst.run rfl rfl (by decide) (Ev.indexS (α := Bool) (xs := x26) rfl rfl Try.runUnderlying44 Try.sizeOf4 rfl (by decide) (Rd.row (j := 1) rfl r29g) g32.1 g32.2.1) ?_
  refine Lst.run rfl rfl (by decide) (Ev.loadS (α := Bool) rfl (Rd.row (j := 1) rfl r29g) Try.isAgg4 (v := .bool x30) ((Get.elemN (s := 1) rfl g32.2.2 (Get.here _)).off (by omega))) ?_
  refine Lst.run rfl rfl (by decide) (Ev.move rfl) ?_
  obtain ⟨o33, H, HKo33⟩ := bind_some H
  refine Lst.join (σ := Bool) 4 (fun y34 => [(0, Sl.v s_a0), (3, Sl.v s4), (4, Sl.v s22), (5, .int .i64 (i16 : Int)), (6, .int .i64 (i21 : Int)), (13, .int .i64 (a0.length : Int)), (14, .int .i64 (i16 : Int)), (18, .int .i64 (a0.length : Int)), (19, .int .i64 (i21 : Int)), (33, .bool y34)]) (fun y34 => (.own s22 23 6 (encs l23)) :: (.rows (α := Bool) 4 rs5) :: (.own s4 44 1 (encs rs5)) :: (.own Sl.nil 23 6 (encs ([] : List (Vector Int 6)))) :: L) (fun _ y34 => y34 = o33) ?_ ?_
  · rcases Bool.eq_false_or_eq_true x30 with hb35 | hb35
    · replace H := ite_t hb35 H
      refine Lst.skip rfl rfl rfl hb35 rfl (by decide) ?_
      refine Lst.skip rfl rfl rfl hb35 rfl (by decide) ?_
      refine Lst.skip rfl rfl rfl hb35 rfl (by decide) ?_
      refine Lst.run rfl rfl (by decide) (Ev.pickT rfl hb35 rfl) ?_
      refine Lst.nil ?_
      exact At.meet true (FLe.refl _) ⟨rfl, rfl, rfl, rfl, rfl, rfl, rfl, rfl, rfl, rfl, trivial⟩ rfl (some_inj H)
    replace H := ite_f hb35 H
    refine Lst.runG rfl rfl rfl hb35 rfl (by decide) (Ev.move rfl) ?_
    refine Lst.runG rfl rfl rfl hb35 rfl (by decide) (Ev.move rfl) ?_
    refine Lst.runG rfl rfl rfl hb35 rfl (by decide) (Ev.eql rfl rfl) ?_
    refine Lst.run rfl rfl (by decide) (Ev.pickF rfl hb35 rfl) ?_
    refine Lst.nil ?_
    exact At.meet ((i21 : Int) == (i16 : Int)) (FLe.refl _) ⟨rfl, rfl, rfl, rfl, rfl, rfl, rfl, rfl, rfl, rfl, trivial⟩ rfl (some_inj H)
  rintro F36 y34 hF37 hy
  subst hy
  refine Lst.as (e' := [(0, Sl.v s_a0), (3, Sl.v s4), (4, Sl.v s22), (5, .int .i64 (i16 : Int)), (6, .int .i64 (i21 : Int)), (13, .int .i64 (a0.length : Int)), (14, .int .i64 (i16 : Int)), (18, .int .i64 (a0.length : Int)), (19, .int .i64 (i21 : Int)), (33, .bool y34)]) (L' := (.own s22 23 6 (encs l23)) :: (.rows (α := Bool) 4 rs5) :: (.own s4 44 1 (encs rs5)) :: (.own Sl.nil 23 6 (encs ([] : List (Vector Int 6)))) :: L) ⟨rfl, rfl, rfl, rfl, rfl, rfl, rfl, rfl, rfl, rfl, trivial⟩ rfl ?_
  replace H := HKo33
  refine Lst.nil ?_
  refine At.then ?_
  rcases (Bool.eq_false_or_eq_true y34).symm with hb38 | hb38
  · replace H := ite_f hb38 H
    refine Cd.condF rfl hb38 ?_
    refine Cd.skip ?_
    refine At.in_normal ?_
    refine At.then ?_
    refine Cd.region ?_
    refine Lst.run rfl rfl (by decide) (Ev.incr (by omega) rfl rfl) ?_
    refine Lst.run rfl rfl (by decide) (Ev.move rfl) ?_
    refine Lst.nil ?_
    exact At.meet (i21 + 1, k21, s22, l23) (FLe.trans hF25 hF37) ⟨rfl, rfl, rfl, rfl, rfl, rfl, rfl, rfl, trivial⟩ rfl ⟨⟨hgo21 _ (some_inj H).symm, by omega⟩, Nat.lt_succ_self _⟩
  replace H := ite_t hb38 H
  refine Cd.condT rfl hb38 ?_
  refine Cd.tail 13 (by kernel_rfl) (by kernel_rfl) ?_
  refine Qt.run rfl rfl (by decide) (Ev.move rfl) ?_
  refine Qt.run rfl rfl (by decide) (Ev.move rfl) ?_
  refine Qt.run rfl rfl (by decide) (Ev.move rfl) ?_
  refine Qt.run rfl rfl (by decide) (Ev.move rfl) ?_
  obtain ⟨x39, h40, H⟩ := bind_some H
  have g41 := lat_some h40
  refine Qt.run rfl rfl (by decide) (Ev.indexS (α := Event) (xs := a0) rfl rfl Try.runUnderlying24 Try.sizeOf75 rfl (by decide) (hs_a0.mono (FLe.trans (FLe.trans (FLe.trans hF10 hF20) hF25) hF37) (List.Sublist.cons _ (List.Sublist.cons _ (List.Sublist.cons _ (List.Sublist.cons _ hM))))) g41.1 g41.2.1) ?_
  refine Qt.run rfl rfl (by decide) (Ev.fieldS (α := Event) (f' := (i21 : Int).toNat * 3 + 0) rfl (hs_a0.mono (FLe.trans (FLe.trans (FLe.trans hF10 hF20) hF25) hF37) (List.Sublist.cons _ (List.Sublist.cons _ (List.Sublist.cons _ (List.Sublist.cons _ hM))))) ((Get.elemN (s := 3) rfl g41.2.2 (Get.here _)).off (by omega)) rfl Try.runUnderlying75 rfl Try.sizeOf3 rfl rfl rfl) ?_
  refine Qt.run rfl rfl (by decide) (Ev.loadS (α := Event) rfl (hs_a0.mono (FLe.trans (FLe.trans (FLe.trans hF10 hF20) hF25) hF37) (List.Sublist.cons _ (List.Sublist.cons _ (List.Sublist.cons _ (List.Sublist.cons _ hM))))) Try.isAgg3 (v := .int .i64 x39.Proc) ((Get.elemN (s := 3) rfl g41.2.2 (Event.get_Proc (Get.here _))).off (by omega))) ?_
  obtain ⟨x42, h43, H⟩ := bind_some H
  have g44 := lat_some h43
  refine Qt.run rfl rfl (by decide) (Ev.indexS (α := Vector Int 6) (xs := l23) rfl rfl Try.runUnderlying28 Try.sizeOf23 rfl (by decide) (Rd.own (i := 0) rfl rfl rfl) g44.1 g44.2.1) ?_
  obtain ⟨x45, h46, H⟩ := bind_some H
  have g47 := vat_some h46
  refine Qt.run rfl rfl (by decide) (Ev.indexAS (α := Vector Int 6) (off' := (i16 : Int).toNat * 6 + x39.Proc.toNat * 1) rfl rfl (Rd.own (i := 0) rfl rfl rfl) ((Get.elemN (s := 6) rfl g44.2.2 (Get.here _)).off (by omega)) (by rw [Enc.len]; rfl) Try.runUnderlying23 Try.sizeOf3 g47.1 g47.2.1 rfl) ?_
  refine Qt.run rfl rfl (by decide) (Ev.loadS (α := Vector Int 6) rfl (Rd.own (i := 0) rfl rfl rfl) Try.isAgg3 (v := .int .i64 x45) ((Get.elemN (s := 6) rfl g44.2.2 (Get.vecN (s := 1) rfl g47.2.2 (Get.here _))).off (by omega))) ?_
  refine Qt.run rfl rfl (by decide) (Ev.add rfl rfl) ?_
  obtain ⟨x48, h49, H⟩ := bind_some H
  have g50 := lat_some h49
  refine Qt.run rfl rfl (by decide) (Ev.indexS (α := Vector Int 6) (xs := l23) rfl rfl Try.runUnderlying28 Try.sizeOf23 rfl (by decide) (Rd.own (i := 0) rfl rfl rfl) g50.1 g50.2.1) ?_
  obtain ⟨x51, h52, H⟩ := bind_some H
  have g53 := vat_some h52
  refine Qt.run rfl rfl (by decide) (Ev.indexAS (α := Vector Int 6) (off' := (i16 : Int).toNat * 6 + x39.Proc.toNat * 1) rfl rfl (Rd.own (i := 0) rfl rfl rfl) ((Get.elemN (s := 6) rfl g50.2.2 (Get.here _)).off (by omega)) (by rw [Enc.len]; rfl) Try.runUnderlying23 Try.sizeOf3 g53.1 g53.2.1 rfl) ?_
  refine Qt.tail ?_
  obtain ⟨p54, h55, H⟩ := Let_some H
  refine Lst.storeS (i := 0) rfl rfl rfl rfl rfl Try.sizeOf3 (vs := [.int .i64 (w64 (x45 + (1 : Int)))]) rfl rfl (by decide) rfl (xs' := encs p54) (by rw [← h55]; exact (Put.elemN (s := 6) rfl g50.2.2 (Put.vecN (s := 1) rfl g53.2.2 (Put.here (vs := [.int .i64 (w64 (x45 + (1 : Int)))]) rfl))).off (by omega)) (L' := (.own s22 23 6 (encs p54)) :: (.rows (α := Bool) 4 rs5) :: (.own s4 44 1 (encs rs5)) :: (.own Sl.nil 23 6 (encs ([] : List (Vector Int 6)))) :: L) rfl ?_
  refine Lst.nil ?_
  refine At.in_normal ?_
  refine At.then ?_
  refine Cd.as (e' := [(0, Sl.v s_a0), (3, Sl.v s4), (4, Sl.v s22), (5, .int .i64 (i16 : Int)), (13, .int .i64 (a0.length : Int)), (14, .int .i64 (i16 : Int)), (18, .int .i64 (a0.length : Int)), (19, .int .i64 (i21 : Int))]) (L' := (.own s22 23 6 (encs p54)) :: (.rows (α := Bool) 4 rs5) :: (.own s4 44 1 (encs rs5)) :: (.own Sl.nil 23 6 (encs ([] : List (Vector Int 6)))) :: L) ⟨rfl, rfl, rfl, rfl, rfl, rfl, rfl, rfl, trivial⟩ rfl ?_
  refine Cd.region ?_
  refine Lst.run rfl rfl (by decide) (Ev.incr (by omega) rfl rfl) ?_
  refine Lst.run rfl rfl (by decide) (Ev.move rfl) ?_
  refine Lst.nil ?_
  exact At.meet (i21 + 1, k21, s22, p54) (FLe.trans hF25 hF37) ⟨rfl, rfl, rfl, rfl, rfl, rfl, rfl, rfl, trivial⟩ rfl ⟨⟨hgo21 _ (some_inj H).symm, by omega⟩, Nat.lt_succ_self _⟩
set_option maxRecDepth 20000 in
theorem slices_Equal_api_Vector_api_Vector_sim {a0 : List (Vector Int 6)} {a1 : List (Vector Int 6)} {s_a0 : Sl} {s_a1 : Sl} {r : Bool} (H : slices_Equal_api_Vector_api_Vector a0 a1 = some r) (w0 : World) (F : Frz) (M L : List Item) (hM : M.Sublist L) (hs_a0 : Rd w0 F M s_a0 a0) (hs_a1 : Rd w0 F M s_a1 a1) : Ok Try.prog w0 17 [Sl.v s_a0, Sl.v s_a1] F (L) (Is (.bool r) (L)) := by
  unfold slices_Equal_api_Vector_api_Vector at H
  refine Ok.enter (m := 2) (n := 26) Try.func17 rfl rfl rfl (by decide) ?_
  refine Cd.env (e' := [(0, Sl.v s_a0), (1, Sl.v s_a1)]) rfl ?_
  refine Cd.seq ?_
  refine Cd.region ?_
  refine Lst.run rfl rfl (by decide) (Ev.assign rfl) ?_
  refine Lst.nil ?_
  refine At.then ?_
  refine Cd.seq ?_
  refine Cd.seq ?_
  refine Cd.region ?_
  refine Lst.run rfl rfl (by decide) (Ev.move rfl) ?_
  refine Lst.run rfl rfl (by decide) (Ev.lenS (α := Vector Int 6) (xs := a0) (by decide) rfl rfl Try.runUnderlying28 (hs_a0.mono (FLe.refl _) hM)) ?_
  refine Lst.run rfl rfl (by decide) (Ev.move rfl) ?_
  refine Lst.run rfl rfl (by decide) (Ev.lenS (α := Vector Int 6) (xs := a1) (by decide) rfl rfl Try.runUnderlying28 (hs_a1.mono (FLe.refl _) hM)) ?_
  refine Lst.run rfl rfl (by decide) (Ev.neq rfl rfl) ?_
  refine Lst.nil ?_
  refine At.then ?_
  rcases Bool.eq_false_or_eq_true ((a0.length : Int) != (a1.length : Int)) with hb1 | hb1
  · replace H := ite_t hb1 H
    refine Cd.condT rfl hb1 ?_
    refine Cd.seq ?_
    refine Cd.region ?_
    refine Lst.run rfl rfl (by decide) (Ev.assign rfl) ?_
    refine Lst.nil ?_
    refine At.then ?_
    obtain rfl := some_inj H
    refine Cd.ret ?_
    refine At.then_ret ?_
    exact At.ret1 rfl (Res.tmp rfl) (FLe.refl _) (List.Sublist.refl _) ⟨rfl, rfl⟩
  replace H := ite_f hb1 H
  refine Cd.condF rfl hb1 ?_
  refine Cd.skip ?_
  refine At.then ?_
  refine Cd.seq ?_
  refine Cd.seq ?_
  refine Cd.region ?_
  refine Lst.run rfl rfl (by decide) (Ev.move rfl) ?_
  refine Lst.run rfl rfl (by decide) (Ev.lenS (α := Vector Int 6) (xs := a0) (by decide) rfl rfl Try.runUnderlying28 (hs_a0.mono (FLe.refl _) hM)) ?_
  refine Lst.run rfl rfl (by decide) (Ev.move rfl) ?_
  refine Lst.nil ?_
  refine At.then ?_
  refine Cd.block ?_
  refine Cd.bound (Rd.le (α := Vector Int 6) (xs := a0) (by decide) (hs_a0.mono (FLe.refl _) hM)) (fun hN12 => ?_)
  obtain ⟨ol2, H, HKl2⟩ := andThen_some H
  refine Cd.loop (σ := Nat × Nat × Unit) (fun (i2, k2, _u) => [(0, Sl.v s_a0), (1, Sl.v s_a1), (12, .int .i64 (a0.length : Int)), (13, .int .i64 (i2 : Int))]) (fun (i2, k2, _u) => L) (fun _ => (fun (i2, k2, _u) => rangeM (slices_Equal_api_Vector_api_Vector_B0 a0 a1) k2 i2 () = some ol2 ∧ i2 + k2 = a0.length)) (fun (i2, k2, _u) => k2) (0, a0.length, ()) ⟨rfl, rfl, rfl, rfl, trivial⟩ rfl ⟨H, by omega⟩ ?_
  rintro F3 ⟨i2, k2, _u⟩ hF4 ⟨H, hik2⟩
  refine Cd.as (e' := [(0, Sl.v s_a0), (1, Sl.v s_a1), (12, .int .i64 (a0.length : Int)), (13, .int .i64 (i2 : Int))]) (L' := L) ⟨rfl, rfl, rfl, rfl, trivial⟩ rfl ?_
  rcases k2 with _ | k2
  · have hc2 : decide ((i2 : Int) < (a0.length : Int)) = false := decide_eq_false (by omega)
    replace H := rangeM_end H
    refine Cd.seq ?_
    refine Cd.region ?_
    refine Lst.run rfl rfl (by decide) (Ev.lss rfl rfl) ?_
    refine Lst.nil ?_
    refine At.then ?_
    refine Cd.seq ?_
    refine Cd.condF rfl hc2 ?_
    refine Cd.exit ?_
    refine At.then_exit ?_
    refine At.then_exit ?_
    refine At.in_exit ?_
    subst H
    replace H := HKl2
    refine At.then ?_
    refine Cd.seq ?_
    refine Cd.region ?_
    refine Lst.run rfl rfl (by decide) (Ev.assign rfl) ?_
    refine Lst.nil ?_
    refine At.then ?_
    obtain rfl := some_inj H
    refine Cd.ret ?_
    exact At.ret1 rfl (Res.tmp rfl) hF4 (List.Sublist.refl _) ⟨rfl, rfl⟩
  have hc2 : decide ((i2 : Int) < (a0.length : Int)) = true := decide_eq_true (by omega)
  obtain ⟨c2, H, hgo2, hbrk2, hret2⟩ := rangeM_go H
  unfold slices_Equal_api_Vector_api_Vector_B0 at H
  try dsimp only at H
  refine Cd.seq ?_
  refine Cd.region ?_
  refine Lst.run rfl rfl (by decide) (Ev.lss rfl rfl) ?_
  refine Lst.nil ?_
  refine At.then ?_
  refine Cd.seq ?_
  refine Cd.condT rfl hc2 ?_
  refine Cd.skip ?_
  refine At.then ?_
  refine Cd.seq ?_
  refine Cd.block ?_
  refine Cd.seq ?_
  refine Cd.region ?_
  refine Lst.run rfl rfl (by decide) (Ev.move rfl) ?_
  refine Lst.run rfl rfl (by decide) (Ev.assign rfl) ?_
  refine Lst.nil ?_
  refine At.then ?_
  refine Cd.seq ?_
  refine Cd.quiet (by kernel_rfl) (by kernel_rfl) ?_
  refine Qt.run rfl rfl (by decide) (Ev.move rfl) ?_
  refine Qt.run rfl rfl (by decide) (Ev.move rfl) ?_
  obtain ⟨x5, h6, H⟩ := bind_some H
  have g7 := lat_some h6
  refine Qt.run rfl rfl (by decide) (Ev.indexS (α := Vector Int 6) (xs := a0) rfl rfl Try.runUnderlying28 Try.sizeOf23 rfl (by decide) (hs_a0.mono hF4 hM) g7.1 g7.2.1) ?_
  refine Qt.run rfl rfl (by decide) (Ev.loadSA (α := Vector Int 6) rfl (hs_a0.mono hF4 hM) Try.isAgg23 Try.sizeOf23 (ch := enc x5) (Enc.len _) (by decide) ((Get.elemN (s := 6) rfl g7.2.2 (Get.here _)).off (by omega))) ?_
  refine Qt.run rfl rfl (by decide) (Ev.move rfl) ?_
  refine Qt.run rfl rfl (by decide) (Ev.move rfl) ?_
  obtain ⟨x8, h9, H⟩ := bind_some H
  have g10 := lat_some h9
  refine Qt.run rfl rfl (by decide) (Ev.indexS (α := Vector Int 6) (xs := a1) rfl rfl Try.runUnderlying28 Try.sizeOf23 rfl (by decide) (hs_a1.mono hF4 hM) g10.1 g10.2.1) ?_
  refine Qt.run rfl rfl (by decide) (Ev.loadSA (α := Vector Int 6) rfl (hs_a1.mono hF4 hM) Try.isAgg23 Try.sizeOf23 (ch := enc x8) (Enc.len _) (by decide) ((Get.elemN (s := 6) rfl g10.2.2 (Get.here _)).off (by omega))) ?_
  refine Qt.run rfl rfl (by decide) (Ev.neqA rfl rfl (by kernel_rfl) (eq23 _ _)) ?_
  refine Qt.done ?_
  refine At.then ?_
  rcases Bool.eq_false_or_eq_true (!(decide (x5 = x8))) with hb11 | hb11
  · replace H := ite_t hb11 H
    refine Cd.condT rfl hb11 ?_
    refine Cd.seq ?_
    refine Cd.as (e' := []) (L' := L) trivial rfl ?_
    refine Cd.region ?_
    refine Lst.run rfl rfl (by decide) (Ev.assign rfl) ?_
    refine Lst.nil ?_
    refine At.then ?_
    have H := hret2 _ (some_inj H).symm
    subst H
    replace H := HKl2
    obtain rfl := some_inj H
    refine Cd.ret ?_
    refine At.in_ret ?_
    refine At.then_ret ?_
    refine At.then_ret ?_
    refine At.in_ret ?_
    refine At.then_ret ?_
    exact At.ret1 rfl (Res.tmp rfl) hF4 (List.Sublist.refl _) ⟨rfl, rfl⟩
  replace H := ite_f hb11 H
  refine Cd.condF rfl hb11 ?_
  refine Cd.skip ?_
  refine At.in_normal ?_
  refine At.then ?_
  refine Cd.region ?_
  refine Lst.run rfl rfl (by decide) (Ev.incr (by omega) rfl rfl) ?_
  refine Lst.run rfl rfl (by decide) (Ev.move rfl) ?_
  refine Lst.nil ?_
  exact At.meet (i2 + 1, k2, ()) hF4 ⟨rfl, rfl, rfl, rfl, trivial⟩ rfl ⟨⟨hgo2 _ (some_inj H).symm, by omega⟩, Nat.lt_succ_self _⟩
set_option maxRecDepth 20000 in
theorem partlaw_VectSays_sim {fu : Nat} {a0 : Vector Int 6} {a1 : Vector Int 6} {a2 : List Event} {s_a2 : Sl} {r : Bool} (H : partlaw_VectSays fu a0 a1 a2 = some r) (w0 : World) (F : Frz) (M L : List Item) (hM : M.Sublist L) (hs_a2 : Rd w0 F M s_a2 a2) : Ok Try.prog w0 3 [.agg (enc a0).toArray, .agg (enc a1).toArray, Sl.v s_a2] F (L) (Is (.bool r) (L)) := by
  unfold partlaw_VectSays at H
  refine Ok.enter (m := 3) (n := 89) Try.func3 rfl rfl rfl (by decide) ?_
  refine Cd.env (e' := [(0, .agg (enc a0).toArray), (1, .agg (enc a1).toArray), (2, Sl.v s_a2)]) rfl ?_
  refine Cd.seq ?_
  refine Cd.region ?_
  refine Lst.box rfl rfl (by decide) rfl (cs := enc a0) rfl (fun b1 => ?_)
  refine Lst.box rfl rfl (by decide) rfl (cs := enc a1) rfl (fun b3 => ?_)
  refine Lst.run rfl rfl (by decide) (Ev.assign rfl) ?_
  refine Lst.nil ?_
  refine At.then ?_
  refine Cd.seq ?_
  obtain ⟨r5, h6, H⟩ := bind_some H
  obtain ⟨r9, h10, H⟩ := bind_some H
  refine Cd.headMeet (σ := Nat × Nat) 8 (fun (b18, b19) => [(2, Sl.v s_a2), (3, .pointer (some ⟨b1, 0, none⟩)), (4, .pointer (some ⟨b3, 0, none⟩)), (7, .pointer (some ⟨b19, 0, none⟩)), (8, .pointer (some ⟨b18, 0, none⟩)), (15, .agg (enc r5).toArray), (18, .agg (enc r9).toArray)]) (fun (b18, b19) => (.blk b18 (enc (Vector.replicate 6 (0 : Int))) 23) :: (.blk b19 (enc (Vector.replicate 6 (0 : Int))) 23) :: (.blk b3 (enc a1) 23) :: (.blk b1 (enc a0) 23) :: L) (fun _ (b18, b19) => True) (by kernel_rfl) (by kernel_rfl) ?_ ?_
  · refine HdJ.keep (fun w => St w0 F ((.blk b3 (enc a1) 23) :: (.blk b1 (enc a0) 23) :: L) w) (fun w h => trivial) ?_
    refine HdJ.take (i := 0) (Lp := (.blk b3 (enc a1) 23) :: (.blk b1 (enc a0) 23) :: L) (Fp := F) rfl rfl (by decide) (by kernel_rfl) (behind_sink (by kernel_rfl) (by kernel_rfl) (by kernel_rfl)) (by decide) (by kernel_rfl) (by kernel_rfl) (fun w h => h.sublist (List.Sublist.cons_cons _ (List.Sublist.cons_cons _ (List.Sublist.refl _)))) rfl (fun w h => h) (Ev.loadA (i := 1) rfl rfl Try.isAgg23 Try.sizeOf23 (ch := enc a0) (Enc.len _) (Get.here _)) ?_
    refine HdJ.take (i := 1) (Lp := (.blk b3 (enc a1) 23) :: (.blk b1 (enc a0) 23) :: L) (Fp := F) rfl rfl (by decide) (by kernel_rfl) (behind_sink (by kernel_rfl) (by kernel_rfl) (by kernel_rfl)) (by decide) (by kernel_rfl) (by kernel_rfl) (fun w h => h.sublist (List.Sublist.cons_cons _ (List.Sublist.cons_cons _ (List.Sublist.refl _)))) rfl (fun w h => h) (Ev.loadA (i := 0) rfl rfl Try.isAgg23 Try.sizeOf23 (ch := enc a1) (Enc.len _) (Get.here _)) ?_
    refine HdJ.take (i := 3) (Lp := (.blk b3 (enc a1) 23) :: (.blk b1 (enc a0) 23) :: L) (Fp := F) rfl rfl (by decide) (by kernel_rfl) (behind_sink (by kernel_rfl) (by kernel_rfl) (by kernel_rfl)) (by decide) (by kernel_rfl) (by kernel_rfl) (fun w h => h.sublist (List.Sublist.cons_cons _ (List.Sublist.cons_cons _ (List.Sublist.refl _)))) rfl (fun w h => h) (Ev.loadA (i := 1) rfl rfl Try.isAgg23 Try.sizeOf23 (ch := enc a0) (Enc.len _) (Get.here _)) ?_
    refine HdJ.take (i := 4) (Lp := (.blk b3 (enc a1) 23) :: (.blk b1 (enc a0) 23) :: L) (Fp := F) rfl rfl (by decide) (by kernel_rfl) (behind_sink (by kernel_rfl) (by kernel_rfl) (by kernel_rfl)) (by decide) (by kernel_rfl) (by kernel_rfl) (fun w h => h.sublist (List.Sublist.cons_cons _ (List.Sublist.cons_cons _ (List.Sublist.refl _)))) rfl (fun w h => h) (Ev.loadA (i := 0) rfl rfl Try.isAgg23 Try.sizeOf23 (ch := enc a1) (Enc.len _) (Get.here _)) ?_
    refine HdJ.step [2, 6, 7] (by kernel_rfl) rfl ?_
    refine HdStep.cons (by decide) rfl (fun inv => ?_) ?_
    · refine Lst.call1 rfl rfl (by decide) (vs := [.agg (enc a0).toArray, .agg (enc a1).toArray]) ⟨rfl, rfl, trivial⟩ Try.call10 (vect_Max_sim h6 w0 _ M _ (List.Sublist.cons _ (List.Sublist.cons _ hM))) ?_
      refine Lst.nil ?_
      refine At.hd inv (fun w h => (h.weaken (FLe.refl _)).sublist (List.Sublist.cons_cons _ (List.Sublist.cons_cons _ (List.Sublist.refl _)))) ?_
      refine HdJ.step [5, 6, 7] (by kernel_rfl) rfl ?_
      refine HdStep.cons (by decide) rfl (fun inv => ?_) ?_
      · refine Lst.call1 rfl rfl (by decide) (vs := [.agg (enc a0).toArray, .agg (enc a1).toArray]) ⟨rfl, rfl, trivial⟩ Try.call11 (vect_Min_sim h10 w0 _ M _ (List.Sublist.cons _ (List.Sublist.cons _ hM))) ?_
        refine Lst.nil ?_
        refine At.hd inv (fun w h => (h.weaken (FLe.refl _)).sublist (List.Sublist.cons_cons _ (List.Sublist.cons_cons _ (List.Sublist.refl _)))) ?_
        refine HdJ.step [6, 7] (by kernel_rfl) rfl ?_
        refine HdStep.cons (by decide) rfl (fun inv => ?_) ?_
        · refine Lst.alloc (cs := enc (Vector.replicate 6 (0 : Int))) rfl rfl (by decide) Try.zeroValue23 rfl (fun b26 => ?_)
          refine Lst.nil ?_
          refine At.hd inv (fun w h => (h.weaken (FLe.refl _)).sublist (List.Sublist.cons _ (List.Sublist.cons_cons _ (List.Sublist.cons_cons _ (List.Sublist.refl _))))) ?_
          refine HdJ.step [7] (by kernel_rfl) rfl ?_
          refine HdStep.cons (by decide) rfl (fun inv => ?_) ?_
          · refine Lst.alloc (cs := enc (Vector.replicate 6 (0 : Int))) rfl rfl (by decide) Try.zeroValue23 rfl (fun b27 => ?_)
            refine Lst.nil ?_
            refine At.hd inv (fun w h => (h.weaken (FLe.refl _)).sublist (List.Sublist.cons _ (List.Sublist.cons _ (List.Sublist.cons_cons _ (List.Sublist.cons_cons _ (List.Sublist.refl _)))))) ?_
            refine HdJ.done (by kernel_rfl) ?_
            exact At.meetN (b27, b26) (FLe.refl _) ⟨rfl, rfl, rfl, rfl, rfl, rfl, rfl, trivial⟩ rfl trivial
          exact trivial
        refine HdStep.cons (by decide) rfl (fun inv => ?_) ?_
        · refine Lst.alloc (cs := enc (Vector.replicate 6 (0 : Int))) rfl rfl (by decide) Try.zeroValue23 rfl (fun b28 => ?_)
          refine Lst.nil ?_
          refine At.hd inv (fun w h => (h.weaken (FLe.refl _)).sublist (List.Sublist.cons _ (List.Sublist.cons_cons _ (List.Sublist.cons_cons _ (List.Sublist.refl _))))) ?_
          refine HdJ.step [6] (by kernel_rfl) rfl ?_
          refine HdStep.cons (by decide) rfl (fun inv => ?_) ?_
          · refine Lst.alloc (cs := enc (Vector.replicate 6 (0 : Int))) rfl rfl (by decide) Try.zeroValue23 rfl (fun b29 => ?_)
            refine Lst.nil ?_
            refine At.hd inv (fun w h => (h.weaken (FLe.refl _)).sublist (List.Sublist.cons _ (List.Sublist.cons _ (List.Sublist.cons_cons _ (List.Sublist.cons_cons _ (List.Sublist.refl _)))))) ?_
            refine HdJ.done (by kernel_rfl) ?_
            refine At.front (i := 3) rfl (L' := (.blk b1 (enc a0) 23) :: (.blk b29 (enc (Vector.replicate 6 (0 : Int))) 23) :: (.blk b28 (enc (Vector.replicate 6 (0 : Int))) 23) :: (.blk b3 (enc a1) 23) :: L) rfl ?_
            refine At.front (i := 3) rfl (L' := (.blk b3 (enc a1) 23) :: (.blk b1 (enc a0) 23) :: (.blk b29 (enc (Vector.replicate 6 (0 : Int))) 23) :: (.blk b28 (enc (Vector.replicate 6 (0 : Int))) 23) :: L) rfl ?_
            refine At.front (i := 2) rfl (L' := (.blk b29 (enc (Vector.replicate 6 (0 : Int))) 23) :: (.blk b3 (enc a1) 23) :: (.blk b1 (enc a0) 23) :: (.blk b28 (enc (Vector.replicate 6 (0 : Int))) 23) :: L) rfl ?_
            refine At.front (i := 3) rfl (L' := (.blk b28 (enc (Vector.replicate 6 (0 : Int))) 23) :: (.blk b29 (enc (Vector.replicate 6 (0 : Int))) 23) :: (.blk b3 (enc a1) 23) :: (.blk b1 (enc a0) 23) :: L) rfl ?_
            exact At.meetN (b28, b29) (FLe.refl _) ⟨rfl, rfl, rfl, rfl, rfl, rfl, rfl, trivial⟩ rfl trivial
          exact trivial
        exact trivial
      refine HdStep.cons (by decide) rfl (fun inv => ?_) ?_
      · refine Lst.alloc (cs := enc (Vector.replicate 6 (0 : Int))) rfl rfl (by decide) Try.zeroValue23 rfl (fun b30 => ?_)
        refine Lst.nil ?_
        refine At.hd inv (fun w h => (h.weaken (FLe.refl _)).sublist (List.Sublist.cons _ (List.Sublist.cons_cons _ (List.Sublist.cons_cons _ (List.Sublist.refl _))))) ?_
        refine HdJ.step [5, 7] (by kernel_rfl) rfl ?_
        refine HdStep.cons (by decide) rfl (fun inv => ?_) ?_
        · refine Lst.call1 rfl rfl (by decide) (vs := [.agg (enc a0).toArray, .agg (enc a1).toArray]) ⟨rfl, rfl, trivial⟩ Try.call11 (vect_Min_sim h10 w0 _ M _ (List.Sublist.cons _ (List.Sublist.cons _ (List.Sublist.cons _ hM)))) ?_
          refine Lst.nil ?_
          refine At.hd inv (fun w h => (h.weaken (FLe.refl _)).sublist (List.Sublist.cons _ (List.Sublist.cons_cons _ (List.Sublist.cons_cons _ (List.Sublist.refl _))))) ?_
          refine HdJ.step [7] (by kernel_rfl) rfl ?_
          refine HdStep.cons (by decide) rfl (fun inv => ?_) ?_
          · refine Lst.alloc (cs := enc (Vector.replicate 6 (0 : Int))) rfl rfl (by decide) Try.zeroValue23 rfl (fun b33 => ?_)
            refine Lst.nil ?_
            refine At.hd inv (fun w h => (h.weaken (FLe.refl _)).sublist (List.Sublist.cons _ (List.Sublist.cons _ (List.Sublist.cons_cons _ (List.Sublist.cons_cons _ (List.Sublist.refl _)))))) ?_
            refine HdJ.done (by kernel_rfl) ?_
            exact At.meetN (b33, b30) (FLe.refl _) ⟨rfl, rfl, rfl, rfl, rfl, rfl, rfl, trivial⟩ rfl trivial
          exact trivial
        refine HdStep.cons (by decide) rfl (fun inv => ?_) ?_
        · refine Lst.alloc (cs := enc (Vector.replicate 6 (0 : Int))) rfl rfl (by decide) Try.zeroValue23 rfl (fun b34 => ?_)
          refine Lst.nil ?_
          refine At.hd inv (fun w h => (h.weaken (FLe.refl _)).sublist (List.Sublist.cons _ (List.Sublist.cons _ (List.Sublist.cons_cons _ (List.Sublist.cons_cons _ (List.Sublist.refl _)))))) ?_
          refine HdJ.step [5] (by kernel_rfl) rfl ?_
          refine HdStep.cons (by decide) rfl (fun inv => ?_) ?_
          · refine Lst.call1 rfl rfl (by decide) (vs := [.agg (enc a0).toArray, .agg (enc a1).toArray]) ⟨rfl, rfl, trivial⟩ Try.call11 (vect_Min_sim h10 w0 _ M _ (List.Sublist.cons _ (List.Sublist.cons _ (List.Sublist.cons _ (List.Sublist.cons _ hM))))) ?_
            refine Lst.nil ?_
            refine At.hd inv (fun w h => (h.weaken (FLe.refl _)).sublist (List.Sublist.cons _ (List.Sublist.cons _ (List.Sublist.cons_cons _ (List.Sublist.cons_cons _ (List.Sublist.refl _)))))) ?_
            refine HdJ.done (by kernel_rfl) ?_
            exact At.meetN (b34, b30) (FLe.refl _) ⟨rfl, rfl, rfl, rfl, rfl, rfl, rfl, trivial⟩ rfl trivial
          exact trivial
        exact trivial
      refine HdStep.cons (by decide) rfl (fun inv => ?_) ?_
      · refine Lst.alloc (cs := enc (Vector.replicate 6 (0 : Int))) rfl rfl (by decide) Try.zeroValue23 rfl (fun b37 => ?_)
        refine Lst.nil ?_
        refine At.hd inv (fun w h => (h.weaken (FLe.refl _)).sublist (List.Sublist.cons _ (List.Sublist.cons_cons _ (List.Sublist.cons_cons _ (List.Sublist.refl _))))) ?_
        refine HdJ.step [5, 6] (by kernel_rfl) rfl ?_
        refine HdStep.cons (by decide) rfl (fun inv => ?_) ?_
        · refine Lst.call1 rfl rfl (by decide) (vs := [.agg (enc a0).toArray, .agg (enc a1).toArray]) ⟨rfl, rfl, trivial⟩ Try.call11 (vect_Min_sim h10 w0 _ M _ (List.Sublist.cons _ (List.Sublist.cons _ (List.Sublist.cons _ hM)))) ?_
          refine Lst.nil ?_
          refine At.hd inv (fun w h => (h.weaken (FLe.refl _)).sublist (List.Sublist.cons _ (List.Sublist.cons_cons _ (List.Sublist.cons_cons _ (List.Sublist.refl _))))) ?_
          refine HdJ.step [6] (by kernel_rfl) rfl ?_
          refine HdStep.cons (by decide) rfl (fun inv => ?_) ?_
          · refine Lst.alloc (cs := enc (Vector.replicate 6 (0 : Int))) rfl rfl (by decide) Try.zeroValue23 rfl (fun b40 => ?_)
            refine Lst.nil ?_
            refine At.hd inv (fun w h => (h.weaken (FLe.refl _)).sublist (List.Sublist.cons _ (List.Sublist.cons _ (List.Sublist.cons_cons _ (List.Sublist.cons_cons _ (List.Sublist.refl _)))))) ?_
            refine HdJ.done (by kernel_rfl) ?_
            refine At.front (i := 3) rfl (L' := (.blk b1 (enc a0) 23) :: (.blk b40 (enc (Vector.replicate 6 (0 : Int))) 23) :: (.blk b37 (enc (Vector.replicate 6 (0 : Int))) 23) :: (.blk b3 (enc a1) 23) :: L) rfl ?_
            refine At.front (i := 3) rfl (L' := (.blk b3 (enc a1) 23) :: (.blk b1 (enc a0) 23) :: (.blk b40 (enc (Vector.replicate 6 (0 : Int))) 23) :: (.blk b37 (enc (Vector.replicate 6 (0 : Int))) 23) :: L) rfl ?_
            refine At.front (i := 2) rfl (L' := (.blk b40 (enc (Vector.replicate 6 (0 : Int))) 23) :: (.blk b3 (enc a1) 23) :: (.blk b1 (enc a0) 23) :: (.blk b37 (enc (Vector.replicate 6 (0 : Int))) 23) :: L) rfl ?_
            refine At.front (i := 3) rfl (L' := (.blk b37 (enc (Vector.replicate 6 (0 : Int))) 23) :: (.blk b40 (enc (Vector.replicate 6 (0 : Int))) 23) :: (.blk b3 (enc a1) 23) :: (.blk b1 (enc a0) 23) :: L) rfl ?_
            exact At.meetN (b37, b40) (FLe.refl _) ⟨rfl, rfl, rfl, rfl, rfl, rfl, rfl, trivial⟩ rfl trivial
          exact trivial
        refine HdStep.cons (by decide) rfl (fun inv => ?_) ?_
        · refine Lst.alloc (cs := enc (Vector.replicate 6 (0 : Int))) rfl rfl (by decide) Try.zeroValue23 rfl (fun b41 => ?_)
          refine Lst.nil ?_
          refine At.hd inv (fun w h => (h.weaken (FLe.refl _)).sublist (List.Sublist.cons _ (List.Sublist.cons _ (List.Sublist.cons_cons _ (List.Sublist.cons_cons _ (List.Sublist.refl _)))))) ?_
          refine HdJ.step [5] (by kernel_rfl) rfl ?_
          refine HdStep.cons (by decide) rfl (fun inv => ?_) ?_
          · refine Lst.call1 rfl rfl (by decide) (vs := [.agg (enc a0).toArray, .agg (enc a1).toArray]) ⟨rfl, rfl, trivial⟩ Try.call11 (vect_Min_sim h10 w0 _ M _ (List.Sublist.cons _ (List.Sublist.cons _ (List.Sublist.cons _ (List.Sublist.cons _ hM))))) ?_
            refine Lst.nil ?_
            refine At.hd inv (fun w h => (h.weaken (FLe.refl _)).sublist (List.Sublist.cons _ (List.Sublist.cons _ (List.Sublist.cons_cons _ (List.Sublist.cons_cons _ (List.Sublist.refl _)))))) ?_
            refine HdJ.done (by kernel_rfl) ?_
            refine At.front (i := 3) rfl (L' := (.blk b1 (enc a0) 23) :: (.blk b41 (enc (Vector.replicate 6 (0 : Int))) 23) :: (.blk b37 (enc (Vector.replicate 6 (0 : Int))) 23) :: (.blk b3 (enc a1) 23) :: L) rfl ?_
            refine At.front (i := 3) rfl (L' := (.blk b3 (enc a1) 23) :: (.blk b1 (enc a0) 23) :: (.blk b41 (enc (Vector.replicate 6 (0 : Int))) 23) :: (.blk b37 (enc (Vector.replicate 6 (0 : Int))) 23) :: L) rfl ?_
            refine At.front (i := 2) rfl (L' := (.blk b41 (enc (Vector.replicate 6 (0 : Int))) 23) :: (.blk b3 (enc a1) 23) :: (.blk b1 (enc a0) 23) :: (.blk b37 (enc (Vector.replicate 6 (0 : Int))) 23) :: L) rfl ?_
            refine At.front (i := 3) rfl (L' := (.blk b37 (enc (Vector.replicate 6 (0 : Int))) 23) :: (.blk b41 (enc (Vector.replicate 6 (0 : Int))) 23) :: (.blk b3 (enc a1) 23) :: (.blk b1 (enc a0) 23) :: L) rfl ?_
            exact At.meetN (b37, b41) (FLe.refl _) ⟨rfl, rfl, rfl, rfl, rfl, rfl, rfl, trivial⟩ rfl trivial
          exact trivial
        exact trivial
      exact trivial
    refine HdStep.cons (by decide) rfl (fun inv => ?_) ?_
    · refine Lst.alloc (cs := enc (Vector.replicate 6 (0 : Int))) rfl rfl (by decide) Try.zeroValue23 rfl (fun b44 => ?_)
      refine Lst.nil ?_
      refine At.hd inv (fun w h => (h.weaken (FLe.refl _)).sublist (List.Sublist.cons _ (List.Sublist.cons_cons _ (List.Sublist.cons_cons _ (List.Sublist.refl _))))) ?_
      refine HdJ.step [2, 7] (by kernel_rfl) rfl ?_
      refine HdStep.cons (by decide) rfl (fun inv => ?_) ?_
      · refine Lst.call1 rfl rfl (by decide) (vs := [.agg (enc a0).toArray, .agg (enc a1).toArray]) ⟨rfl, rfl, trivial⟩ Try.call10 (vect_Max_sim h6 w0 _ M _ (List.Sublist.cons _ (List.Sublist.cons _ (List.Sublist.cons _ hM)))) ?_
        refine Lst.nil ?_
        refine At.hd inv (fun w h => (h.weaken (FLe.refl _)).sublist (List.Sublist.cons _ (List.Sublist.cons_cons _ (List.Sublist.cons_cons _ (List.Sublist.refl _))))) ?_
        refine HdJ.step [5, 7] (by kernel_rfl) rfl ?_
        refine HdStep.cons (by decide) rfl (fun inv => ?_) ?_
        · refine Lst.call1 rfl rfl (by decide) (vs := [.agg (enc a0).toArray, .agg (enc a1).toArray]) ⟨rfl, rfl, trivial⟩ Try.call11 (vect_Min_sim h10 w0 _ M _ (List.Sublist.cons _ (List.Sublist.cons _ (List.Sublist.cons _ hM)))) ?_
          refine Lst.nil ?_
          refine At.hd inv (fun w h => (h.weaken (FLe.refl _)).sublist (List.Sublist.cons _ (List.Sublist.cons_cons _ (List.Sublist.cons_cons _ (List.Sublist.refl _))))) ?_
          refine HdJ.step [7] (by kernel_rfl) rfl ?_
          refine HdStep.cons (by decide) rfl (fun inv => ?_) ?_
          · refine Lst.alloc (cs := enc (Vector.replicate 6 (0 : Int))) rfl rfl (by decide) Try.zeroValue23 rfl (fun b49 => ?_)
            refine Lst.nil ?_
            refine At.hd inv (fun w h => (h.weaken (FLe.refl _)).sublist (List.Sublist.cons _ (List.Sublist.cons _ (List.Sublist.cons_cons _ (List.Sublist.cons_cons _ (List.Sublist.refl _)))))) ?_
            refine HdJ.done (by kernel_rfl) ?_
            exact At.meetN (b49, b44) (FLe.refl _) ⟨rfl, rfl, rfl, rfl, rfl, rfl, rfl, trivial⟩ rfl trivial
          exact trivial
        refine HdStep.cons (by decide) rfl (fun inv => ?_) ?_
        · refine Lst.alloc (cs := enc (Vector.replicate 6 (0 : Int))) rfl rfl (by decide) Try.zeroValue23 rfl (fun b50 => ?_)
          refine Lst.nil ?_
          refine At.hd inv (fun w h => (h.weaken (FLe.refl _)).sublist (List.Sublist.cons _ (List.Sublist.cons _ (List.Sublist.cons_cons _ (List.Sublist.cons_cons _ (List.Sublist.refl _)))))) ?_
          refine HdJ.step [5] (by kernel_rfl) rfl ?_
          refine HdStep.cons (by decide) rfl (fun inv => ?_) ?_
          · refine Lst.call1 rfl rfl (by decide) (vs := [.agg (enc a0).toArray, .agg (enc a1).toArray]) ⟨rfl, rfl, trivial⟩ Try.call11 (vect_Min_sim h10 w0 _ M _ (List.Sublist.cons _ (List.Sublist.cons _ (List.Sublist.cons _ (List.Sublist.cons _ hM))))) ?_
            refine Lst.nil ?_
            refine At.hd inv (fun w h => (h.weaken (FLe.refl _)).sublist (List.Sublist.cons _ (List.Sublist.cons _ (List.Sublist.cons_cons _ (List.Sublist.cons_cons _ (List.Sublist.refl _)))))) ?_
            refine HdJ.done (by kernel_rfl) ?_
            exact At.meetN (b50, b44) (FLe.refl _) ⟨rfl, rfl, rfl, rfl, rfl, rfl, rfl, trivial⟩ rfl trivial
          exact trivial
        exact trivial
      refine HdStep.cons (by decide) rfl (fun inv => ?_) ?_
      · refine Lst.alloc (cs := enc (Vector.replicate 6 (0 : Int))) rfl rfl (by decide) Try.zeroValue23 rfl (fun b53 => ?_)
        refine Lst.nil ?_
        refine At.hd inv (fun w h => (h.weaken (FLe.refl _)).sublist (List.Sublist.cons _ (List.Sublist.cons _ (List.Sublist.cons_cons _ (List.Sublist.cons_cons _ (List.Sublist.refl _)))))) ?_
        refine HdJ.step [2] (by kernel_rfl) rfl ?_
        refine HdStep.cons (by decide) rfl (fun inv => ?_) ?_
        · refine Lst.call1 rfl rfl (by decide) (vs := [.agg (enc a0).toArray, .agg (enc a1).toArray]) ⟨rfl, rfl, trivial⟩ Try.call10 (vect_Max_sim h6 w0 _ M _ (List.Sublist.cons _ (List.Sublist.cons _ (List.Sublist.cons _ (List.Sublist.cons _ hM))))) ?_
          refine Lst.nil ?_
          refine At.hd inv (fun w h => (h.weaken (FLe.refl _)).sublist (List.Sublist.cons _ (List.Sublist.cons _ (List.Sublist.cons_cons _ (List.Sublist.cons_cons _ (List.Sublist.refl _)))))) ?_
          refine HdJ.step [5] (by kernel_rfl) rfl ?_
          refine HdStep.cons (by decide) rfl (fun inv => ?_) ?_
          · refine Lst.call1 rfl rfl (by decide) (vs := [.agg (enc a0).toArray, .agg (enc a1).toArray]) ⟨rfl, rfl, trivial⟩ Try.call11 (vect_Min_sim h10 w0 _ M _ (List.Sublist.cons _ (List.Sublist.cons _ (List.Sublist.cons _ (List.Sublist.cons _ hM))))) ?_
            refine Lst.nil ?_
            refine At.hd inv (fun w h => (h.weaken (FLe.refl _)).sublist (List.Sublist.cons _ (List.Sublist.cons _ (List.Sublist.cons_cons _ (List.Sublist.cons_cons _ (List.Sublist.refl _)))))) ?_
            refine HdJ.done (by kernel_rfl) ?_
            exact At.meetN (b53, b44) (FLe.refl _) ⟨rfl, rfl, rfl, rfl, rfl, rfl, rfl, trivial⟩ rfl trivial
          exact trivial
        exact trivial
      exact trivial
    refine HdStep.cons (by decide) rfl (fun inv => ?_) ?_
    · refine Lst.alloc (cs := enc (Vector.replicate 6 (0 : Int))) rfl rfl (by decide) Try.zeroValue23 rfl (fun b58 => ?_)
      refine Lst.nil ?_
      refine At.hd inv (fun w h => (h.weaken (FLe.refl _)).sublist (List.Sublist.cons _ (List.Sublist.cons_cons _ (List.Sublist.cons_cons _ (List.Sublist.refl _))))) ?_
      refine HdJ.step [2, 6] (by kernel_rfl) rfl ?_
      refine HdStep.cons (by decide) rfl (fun inv => ?_) ?_
      · refine Lst.call1 rfl rfl (by decide) (vs := [.agg (enc a0).toArray, .agg (enc a1).toArray]) ⟨rfl, rfl, trivial⟩ Try.call10 (vect_Max_sim h6 w0 _ M _ (List.Sublist.cons _ (List.Sublist.cons _ (List.Sublist.cons _ hM)))) ?_
        refine Lst.nil ?_
        refine At.hd inv (fun w h => (h.weaken (FLe.refl _)).sublist (List.Sublist.cons _ (List.Sublist.cons_cons _ (List.Sublist.cons_cons _ (List.Sublist.refl _))))) ?_
        refine HdJ.step [5, 6] (by kernel_rfl) rfl ?_
        refine HdStep.cons (by decide) rfl (fun inv => ?_) ?_
        · refine Lst.call1 rfl rfl (by decide) (vs := [.agg (enc a0).toArray, .agg (enc a1).toArray]) ⟨rfl, rfl, trivial⟩ Try.call11 (vect_Min_sim h10 w0 _ M _ (List.Sublist.cons _ (List.Sublist.cons _ (List.Sublist.cons _ hM)))) ?_
          refine Lst.nil ?_
          refine At.hd inv (fun w h => (h.weaken (FLe.refl _)).sublist (List.Sublist.cons _ (List.Sublist.cons_cons _ (List.Sublist.cons_cons _ (List.Sublist.refl _))))) ?_
          refine HdJ.step [6] (by kernel_rfl) rfl ?_
          refine HdStep.cons (by decide) rfl (fun inv => ?_) ?_
          · refine Lst.alloc (cs := enc (Vector.replicate 6 (0 : Int))) rfl rfl (by decide) Try.zeroValue23 rfl (fun b63 => ?_)
            refine Lst.nil ?_
            refine At.hd inv (fun w h => (h.weaken (FLe.refl _)).sublist (List.Sublist.cons _ (List.Sublist.cons _ (List.Sublist.cons_cons _ (List.Sublist.cons_cons _ (List.Sublist.refl _)))))) ?_
            refine HdJ.done (by kernel_rfl) ?_
            refine At.front (i := 3) rfl (L' := (.blk b1 (enc a0) 23) :: (.blk b63 (enc (Vector.replicate 6 (0 : Int))) 23) :: (.blk b58 (enc (Vector.replicate 6 (0 : Int))) 23) :: (.blk b3 (enc a1) 23) :: L) rfl ?_
            refine At.front (i := 3) rfl (L' := (.blk b3 (enc a1) 23) :: (.blk b1 (enc a0) 23) :: (.blk b63 (enc (Vector.replicate 6 (0 : Int))) 23) :: (.blk b58 (enc (Vector.replicate 6 (0 : Int))) 23) :: L) rfl ?_
            refine At.front (i := 2) rfl (L' := (.blk b63 (enc (Vector.replicate 6 (0 : Int))) 23) :: (.blk b3 (enc a1) 23) :: (.blk b1 (enc a0) 23) :: (.blk b58 (enc (Vector.replicate 6 (0 : Int))) 23) :: L) rfl ?_
            refine At.front (i := 3) rfl (L' := (.blk b58 (enc (Vector.replicate 6 (0 : Int))) 23) :: (.blk b63 (enc (Vector.replicate 6 (0 : Int))) 23) :: (.blk b3 (enc a1) 23) :: (.blk b1 (enc a0) 23) :: L) rfl ?_
            exact At.meetN (b58, b63) (FLe.refl _) ⟨rfl, rfl, rfl, rfl, rfl, rfl, rfl, trivial⟩ rfl trivial
          exact trivial
        refine HdStep.cons (by decide) rfl (fun inv => ?_) ?_
        · refine Lst.alloc (cs := enc (Vector.replicate 6 (0 : Int))) rfl rfl (by decide) Try.zeroValue23 rfl (fun b64 => ?_)
          refine Lst.nil ?_
          refine At.hd inv (fun w h => (h.weaken (FLe.refl _)).sublist (List.Sublist.cons _ (List.Sublist.cons _ (List.Sublist.cons_cons _ (List.Sublist.cons_cons _ (List.Sublist.refl _)))))) ?_
          refine HdJ.step [5] (by kernel_rfl) rfl ?_
          refine HdStep.cons (by decide) rfl (fun inv => ?_) ?_
          · refine Lst.call1 rfl rfl (by decide) (vs := [.agg (enc a0).toArray, .agg (enc a1).toArray]) ⟨rfl, rfl, trivial⟩ Try.call11 (vect_Min_sim h10 w0 _ M _ (List.Sublist.cons _ (List.Sublist.cons _ (List.Sublist.cons _ (List.Sublist.cons _ hM))))) ?_
            refine Lst.nil ?_
            refine At.hd inv (fun w h => (h.weaken (FLe.refl _)).sublist (List.Sublist.cons _ (List.Sublist.cons _ (List.Sublist.cons_cons _ (List.Sublist.cons_cons _ (List.Sublist.refl _)))))) ?_
            refine HdJ.done (by kernel_rfl) ?_
            refine At.front (i := 3) rfl (L' := (.blk b1 (enc a0) 23) :: (.blk b64 (enc (Vector.replicate 6 (0 : Int))) 23) :: (.blk b58 (enc (Vector.replicate 6 (0 : Int))) 23) :: (.blk b3 (enc a1) 23) :: L) rfl ?_
            refine At.front (i := 3) rfl (L' := (.blk b3 (enc a1) 23) :: (.blk b1 (enc a0) 23) :: (.blk b64 (enc (Vector.replicate 6 (0 : Int))) 23) :: (.blk b58 (enc (Vector.replicate 6 (0 : Int))) 23) :: L) rfl ?_
            refine At.front (i := 2) rfl (L' := (.blk b64 (enc (Vector.replicate 6 (0 : Int))) 23) :: (.blk b3 (enc a1) 23) :: (.blk b1 (enc a0) 23) :: (.blk b58 (enc (Vector.replicate 6 (0 : Int))) 23) :: L) rfl ?_
            refine At.front (i := 3) rfl (L' := (.blk b58 (enc (Vector.replicate 6 (0 : Int))) 23) :: (.blk b64 (enc (Vector.replicate 6 (0 : Int))) 23) :: (.blk b3 (enc a1) 23) :: (.blk b1 (enc a0) 23) :: L) rfl ?_
            exact At.meetN (b58, b64) (FLe.refl _) ⟨rfl, rfl, rfl, rfl, rfl, rfl, rfl, trivial⟩ rfl trivial
          exact trivial
        exact trivial
      refine HdStep.cons (by decide) rfl (fun inv => ?_) ?_
      · refine Lst.alloc (cs := enc (Vector.replicate 6 (0 : Int))) rfl rfl (by decide) Try.zeroValue23 rfl (fun b67 => ?_)
        refine Lst.nil ?_
        refine At.hd inv (fun w h => (h.weaken (FLe.refl _)).sublist (List.Sublist.cons _ (List.Sublist.cons _ (List.Sublist.cons_cons _ (List.Sublist.cons_cons _ (List.Sublist.refl _)))))) ?_
        refine HdJ.step [2] (by kernel_rfl) rfl ?_
        refine HdStep.cons (by decide) rfl (fun inv => ?_) ?_
        · refine Lst.call1 rfl rfl (by decide) (vs := [.agg (enc a0).toArray, .agg (enc a1).toArray]) ⟨rfl, rfl, trivial⟩ Try.call10 (vect_Max_sim h6 w0 _ M _ (List.Sublist.cons _ (List.Sublist.cons _ (List.Sublist.cons _ (List.Sublist.cons _ hM))))) ?_
          refine Lst.nil ?_
          refine At.hd inv (fun w h => (h.weaken (FLe.refl _)).sublist (List.Sublist.cons _ (List.Sublist.cons _ (List.Sublist.cons_cons _ (List.Sublist.cons_cons _ (List.Sublist.refl _)))))) ?_
          refine HdJ.step [5] (by kernel_rfl) rfl ?_
          refine HdStep.cons (by decide) rfl (fun inv => ?_) ?_
          · refine Lst.call1 rfl rfl (by decide) (vs := [.agg (enc a0).toArray, .agg (enc a1).toArray]) ⟨rfl, rfl, trivial⟩ Try.call11 (vect_Min_sim h10 w0 _ M _ (List.Sublist.cons _ (List.Sublist.cons _ (List.Sublist.cons _ (List.Sublist.cons _ hM))))) ?_
            refine Lst.nil ?_
            refine At.hd inv (fun w h => (h.weaken (FLe.refl _)).sublist (List.Sublist.cons _ (List.Sublist.cons _ (List.Sublist.cons_cons _ (List.Sublist.cons_cons _ (List.Sublist.refl _)))))) ?_
            refine HdJ.done (by kernel_rfl) ?_
            refine At.front (i := 3) rfl (L' := (.blk b1 (enc a0) 23) :: (.blk b67 (enc (Vector.replicate 6 (0 : Int))) 23) :: (.blk b58 (enc (Vector.replicate 6 (0 : Int))) 23) :: (.blk b3 (enc a1) 23) :: L) rfl ?_
            refine At.front (i := 3) rfl (L' := (.blk b3 (enc a1) 23) :: (.blk b1 (enc a0) 23) :: (.blk b67 (enc (Vector.replicate 6 (0 : Int))) 23) :: (.blk b58 (enc (Vector.replicate 6 (0 : Int))) 23) :: L) rfl ?_
            refine At.front (i := 2) rfl (L' := (.blk b67 (enc (Vector.replicate 6 (0 : Int))) 23) :: (.blk b3 (enc a1) 23) :: (.blk b1 (enc a0) 23) :: (.blk b58 (enc (Vector.replicate 6 (0 : Int))) 23) :: L) rfl ?_
            refine At.front (i := 3) rfl (L' := (.blk b58 (enc (Vector.replicate 6 (0 : Int))) 23) :: (.blk b67 (enc (Vector.replicate 6 (0 : Int))) 23) :: (.blk b3 (enc a1) 23) :: (.blk b1 (enc a0) 23) :: L) rfl ?_
            exact At.meetN (b58, b67) (FLe.refl _) ⟨rfl, rfl, rfl, rfl, rfl, rfl, rfl, trivial⟩ rfl trivial
          exact trivial
        exact trivial
      exact trivial
    exact trivial
  rintro F72 ⟨b18, b19⟩ hF73 hy
  refine Lst.as (e' := [(2, Sl.v s_a2), (3, .pointer (some ⟨b1, 0, none⟩)), (4, .pointer (some ⟨b3, 0, none⟩)), (7, .pointer (some ⟨b19, 0, none⟩)), (8, .pointer (some ⟨b18, 0, none⟩)), (15, .agg (enc r5).toArray), (18, .agg (enc r9).toArray)]) (L' := (.blk b18 (enc (Vector.replicate 6 (0 : Int))) 23) :: (.blk b19 (enc (Vector.replicate 6 (0 : Int))) 23) :: (.blk b3 (enc a1) 23) :: (.blk b1 (enc a0) 23) :: L) ⟨rfl, rfl, rfl, rfl, rfl, rfl, rfl, trivial⟩ rfl ?_
  refine Lst.store (i := 1) rfl rfl rfl rfl rfl Try.sizeOf23 (vs := enc r5) rfl (Enc.len _) (Enc.one _) (cs' := enc r5) (Put.here ((Enc.len _).trans (Enc.len _).symm)) (L' := (.blk b18 (enc (Vector.replicate 6 (0 : Int))) 23) :: (.blk b19 (enc r5) 23) :: (.blk b3 (enc a1) 23) :: (.blk b1 (enc a0) 23) :: L) rfl ?_
  refine Lst.store (i := 0) rfl rfl rfl rfl rfl Try.sizeOf23 (vs := enc r9) rfl (Enc.len _) (Enc.one _) (cs' := enc r9) (Put.here ((Enc.len _).trans (Enc.len _).symm)) (L' := (.blk b18 (enc r9) 23) :: (.blk b19 (enc r5) 23) :: (.blk b3 (enc a1) 23) :: (.blk b1 (enc a0) 23) :: L) rfl ?_
  refine Lst.nil ?_
  refine At.then ?_
  refine Cd.seq ?_
  refine Cd.seq ?_
  refine Cd.region ?_
  refine Lst.run rfl rfl (by decide) (Ev.move rfl) ?_
  refine Lst.nil ?_
  refine At.then ?_
  refine Cd.block ?_
  obtain ⟨ol74, H, HKl74⟩ := andThen_some H
  refine Cd.loop (σ := Nat × Nat × Unit) (fun (i74, k74, _u) => [(2, Sl.v s_a2), (3, .pointer (some ⟨b1, 0, none⟩)), (4, .pointer (some ⟨b3, 0, none⟩)), (7, .pointer (some ⟨b19, 0, none⟩)), (8, .pointer (some ⟨b18, 0, none⟩)), (19, .int .i64 (i74 : Int))]) (fun (i74, k74, _u) => (.blk b18 (enc r9) 23) :: (.blk b19 (enc r5) 23) :: (.blk b3 (enc a1) 23) :: (.blk b1 (enc a0) 23) :: L) (fun _ => (fun (i74, k74, _u) => rangeM (partlaw_VectSays_B0 a0 a1 r5 r9) k74 i74 () = some ol74 ∧ i74 + k74 = 6)) (fun (i74, k74, _u) => k74) (0, 6, ()) ⟨rfl, rfl, rfl, rfl, rfl, rfl, trivial⟩ rfl ⟨H, by omega⟩ ?_
  rintro F75 ⟨i74, k74, _u⟩ hF76 ⟨H, hik74⟩
  refine Cd.as (e' := [(2, Sl.v s_a2), (3, .pointer (some ⟨b1, 0, none⟩)), (4, .pointer (some ⟨b3, 0, none⟩)), (7, .pointer (some ⟨b19, 0, none⟩)), (8, .pointer (some ⟨b18, 0, none⟩)), (19, .int .i64 (i74 : Int))]) (L' := (.blk b18 (enc r9) 23) :: (.blk b19 (enc r5) 23) :: (.blk b3 (enc a1) 23) :: (.blk b1 (enc a0) 23) :: L) ⟨rfl, rfl, rfl, rfl, rfl, rfl, trivial⟩ rfl ?_
  rcases k74 with _ | k74
  · have hc74 : decide ((i74 : Int) < (6 : Int)) = false := decide_eq_false (by omega)
    replace H := rangeM_end H
    refine Cd.seq ?_
    refine Cd.region ?_
    refine Lst.run rfl rfl (by decide) (Ev.lss rfl rfl) ?_
    refine Lst.nil ?_
    refine At.then ?_
    refine Cd.seq ?_
    refine Cd.condF rfl hc74 ?_
    refine Cd.exit ?_
    refine At.then_exit ?_
    refine At.then_exit ?_
    refine At.in_exit ?_
    subst H
    replace H := HKl74
    refine At.then ?_
    refine Cd.seq ?_
    refine Cd.seq ?_
    refine Cd.quiet (by kernel_rfl) (by kernel_rfl) ?_
    refine Qt.run rfl rfl (by decide) (Ev.loadA (i := 3) rfl rfl Try.isAgg23 Try.sizeOf23 (ch := enc a0) (Enc.len _) (Get.here _)) ?_
    refine Qt.run rfl rfl (by decide) (Ev.loadA (i := 2) rfl rfl Try.isAgg23 Try.sizeOf23 (ch := enc a1) (Enc.len _) (Get.here _)) ?_
    obtain ⟨r99, h100, H⟩ := bind_some H
    refine Qt.call rfl rfl (by decide) (vs := [.agg (enc a0).toArray, .agg (enc a1).toArray]) ⟨rfl, rfl, trivial⟩ Try.call12 (vect_Compare_sim h100 w0 _ M _ (List.Sublist.cons _ (List.Sublist.cons _ (List.Sublist.cons _ (List.Sublist.cons _ hM))))) ?_
    refine Qt.run rfl rfl (by decide) (Ev.loadA (i := 3) rfl rfl Try.isAgg23 Try.sizeOf23 (ch := enc a0) (Enc.len _) (Get.here _)) ?_
    refine Qt.run rfl rfl (by decide) (Ev.loadA (i := 2) rfl rfl Try.isAgg23 Try.sizeOf23 (ch := enc a1) (Enc.len _) (Get.here _)) ?_
    obtain ⟨r103, h104, H⟩ := bind_some H
    refine Qt.call rfl rfl (by decide) (vs := [.agg (enc a0).toArray, .agg (enc a1).toArray]) ⟨rfl, rfl, trivial⟩ Try.call13 (partref_Compare_sim h104 w0 _ M _ (List.Sublist.cons _ (List.Sublist.cons _ (List.Sublist.cons _ (List.Sublist.cons _ hM))))) ?_
    refine Qt.run rfl rfl (by decide) (Ev.neq rfl rfl) ?_
    refine Qt.run rfl rfl (by decide) (Ev.move rfl) ?_
    obtain ⟨o107, H, HKo107⟩ := bind_some H
    refine Qt.join (σ := Bool) 9 (fun y108 => [(2, Sl.v s_a2), (63, .bool y108)]) (fun y108 => y108 = o107) ?_ ?_
    · rcases Bool.eq_false_or_eq_true (r99 != r103) with hb109 | hb109
      · replace H := ite_t hb109 H
        refine Qt.skip rfl rfl rfl hb109 rfl (by decide) ?_
        refine Qt.skip rfl rfl rfl hb109 rfl (by decide) ?_
        refine Qt.skip rfl rfl rfl hb109 rfl (by decide) ?_
        refine Qt.skip rfl rfl rfl hb109 rfl (by decide) ?_
        refine Qt.skip rfl rfl rfl hb109 rfl (by decide) ?_
        refine Qt.skip rfl rfl rfl hb109 rfl (by decide) ?_
        refine Qt.skip rfl rfl rfl hb109 rfl (by decide) ?_
        refine Qt.skip rfl rfl rfl hb109 rfl (by decide) ?_
        refine Qt.run rfl rfl (by decide) (Ev.pickT rfl hb109 rfl) ?_
        exact Qt.meet true ⟨rfl, rfl, trivial⟩ (some_inj H)
      replace H := ite_f hb109 H
      refine Qt.runG rfl rfl rfl hb109 rfl (by decide) (Ev.loadA (i := 3) rfl rfl Try.isAgg23 Try.sizeOf23 (ch := enc a0) (Enc.len _) (Get.here _)) ?_
      refine Qt.runG rfl rfl rfl hb109 rfl (by decide) (Ev.loadA (i := 2) rfl rfl Try.isAgg23 Try.sizeOf23 (ch := enc a1) (Enc.len _) (Get.here _)) ?_
      obtain ⟨r110, h111, H⟩ := bind_some H
      refine Qt.callG rfl rfl rfl hb109 rfl (by decide) (vs := [.agg (enc a0).toArray, .agg (enc a1).toArray]) ⟨rfl, rfl, trivial⟩ Try.call14 (vect_Within_sim h111 w0 _ M _ (List.Sublist.cons _ (List.Sublist.cons _ (List.Sublist.cons _ (List.Sublist.cons _ hM))))) ?_
      refine Qt.runG rfl rfl rfl hb109 rfl (by decide) (Ev.loadA (i := 3) rfl rfl Try.isAgg23 Try.sizeOf23 (ch := enc a0) (Enc.len _) (Get.here _)) ?_
      refine Qt.runG rfl rfl rfl hb109 rfl (by decide) (Ev.loadA (i := 2) rfl rfl Try.isAgg23 Try.sizeOf23 (ch := enc a1) (Enc.len _) (Get.here _)) ?_
      obtain ⟨r114, h115, H⟩ := bind_some H
      refine Qt.callG rfl rfl rfl hb109 rfl (by decide) (vs := [.agg (enc a0).toArray, .agg (enc a1).toArray]) ⟨rfl, rfl, trivial⟩ Try.call13 (partref_Compare_sim h115 w0 _ M _ (List.Sublist.cons _ (List.Sublist.cons _ (List.Sublist.cons _ (List.Sublist.cons _ hM))))) ?_
      refine Qt.runG rfl rfl rfl hb109 rfl (by decide) (Ev.lss rfl rfl) ?_
      refine Qt.runG rfl rfl rfl hb109 rfl (by decide) (Ev.neqB rfl rfl Try.runUnderlying4) ?_
      refine Qt.run rfl rfl (by decide) (Ev.pickF rfl hb109 rfl) ?_
      exact Qt.meet (r110 != (decide (r114 < (2 : Int)))) ⟨rfl, rfl, trivial⟩ (some_inj H)
    rintro y108 hy
    subst hy
    refine Qt.as (e' := [(2, Sl.v s_a2), (63, .bool y108)]) ⟨rfl, rfl, trivial⟩ ?_
    replace H := HKo107
    refine Qt.done ?_
    refine At.then ?_
    rcases Bool.eq_false_or_eq_true y108 with hb118 | hb118
    · replace H := ite_t hb118 H
      refine Cd.condT rfl hb118 ?_
      refine Cd.seq ?_
      refine Cd.region ?_
      refine Lst.run rfl rfl (by decide) (Ev.assign rfl) ?_
      refine Lst.nil ?_
      refine At.then ?_
      obtain rfl := some_inj H
      refine Cd.ret ?_
      refine At.then_ret ?_
      exact At.ret1 rfl (Res.tmp rfl) (FLe.trans hF73 hF76) (List.Sublist.cons _ (List.Sublist.cons _ (List.Sublist.cons _ (List.Sublist.cons _ (List.Sublist.refl _))))) ⟨rfl, rfl⟩
    replace H := ite_f hb118 H
    refine Cd.condF rfl hb118 ?_
    refine Cd.skip ?_
    refine At.then ?_
    refine Cd.seq ?_
    refine Cd.region ?_
    refine Lst.run rfl rfl (by decide) (Ev.move rfl) ?_
    obtain ⟨r119, h120, H⟩ := bind_some H
    refine Lst.call rfl rfl (by decide) (vs := [Sl.v s_a2]) ⟨rfl, trivial⟩ Try.call15 (vect_Vectors_sim h120 w0 _ M _ (List.Sublist.cons _ (List.Sublist.cons _ (List.Sublist.cons _ (List.Sublist.cons _ hM)))) (hs_a2.mono (FLe.trans hF73 hF76) (List.Sublist.refl _))) (fun F123 L' v hF124 hv => ?_)
    obtain ⟨s121, rfl, rfl⟩ := hv
    refine Lst.run rfl rfl (by decide) (Ev.move rfl) ?_
    refine Lst.run rfl rfl (by decide) (Ev.extract rfl rfl) ?_
    refine Lst.run rfl rfl (by decide) (Ev.extract rfl rfl) ?_
    refine Lst.run rfl rfl (by decide) (Ev.assign rfl) ?_
    refine Lst.run rfl rfl (by decide) (Ev.assign rfl) ?_
    refine Lst.nil ?_
    refine At.then ?_
    refine Cd.seq ?_
    refine Cd.seq ?_
    refine Cd.region ?_
    refine Lst.run rfl rfl (by decide) (Ev.move rfl) ?_
    obtain ⟨r125, h126, H⟩ := bind_some H
    refine Lst.call1 rfl rfl (by decide) (vs := [Sl.v s_a2]) ⟨rfl, trivial⟩ Try.call16 (partref_HistoryErr_sim h126 w0 _ M _ (List.Sublist.cons _ (List.Sublist.cons _ (List.Sublist.cons _ (List.Sublist.cons _ (List.Sublist.cons _ hM))))) (hs_a2.mono (FLe.trans (FLe.trans hF73 hF76) hF124) (List.Sublist.refl _))) ?_
    refine Lst.run rfl rfl (by decide) (Ev.assign rfl) ?_
    refine Lst.nil ?_
    refine At.then ?_
    refine Cd.seq ?_
    refine Cd.region ?_
    refine Lst.run rfl rfl (by decide) (Ev.move rfl) ?_
    refine Lst.run rfl rfl (by decide) (Ev.neq rfl rfl) ?_
    refine Lst.nil ?_
    refine At.then ?_
    rcases Bool.eq_false_or_eq_true (r125 != (0 : Int)) with hb129 | hb129
    · replace H := ite_t hb129 H
      refine Cd.condT rfl hb129 ?_
      refine Cd.seq ?_
      refine Cd.region ?_
      refine Lst.run rfl rfl (by decide) (Ev.move rfl) ?_
      refine Lst.run rfl rfl (by decide) (Ev.lenS (α := Vector Int 6) (xs := r119.1) (by decide) rfl rfl Try.runUnderlying28 (Rd.own (i := 0) rfl rfl rfl)) ?_
      refine Lst.run rfl rfl (by decide) (Ev.eql rfl rfl) ?_
      refine Lst.run rfl rfl (by decide) (Ev.move rfl) ?_
      obtain ⟨o130, H, HKo130⟩ := bind_some H
      refine Lst.join (σ := Bool) 4 (fun y131 => [(80, .bool y131)]) (fun y131 => (.own s121 23 6 (encs r119.1)) :: (.blk b18 (enc r9) 23) :: (.blk b19 (enc r5) 23) :: (.blk b3 (enc a1) 23) :: (.blk b1 (enc a0) 23) :: L) (fun _ y131 => y131 = o130) ?_ ?_
      · rcases (Bool.eq_false_or_eq_true ((r119.1.length : Int) == (0 : Int))).symm with hb132 | hb132
        · replace H := ite_f hb132 H
          refine Lst.skip rfl rfl rfl hb132 rfl (by decide) ?_
          refine Lst.skip rfl rfl rfl hb132 rfl (by decide) ?_
          refine Lst.skip rfl rfl rfl hb132 rfl (by decide) ?_
          refine Lst.run rfl rfl (by decide) (Ev.pickF rfl hb132 rfl) ?_
          refine Lst.nil ?_
          exact At.meet false (FLe.refl _) ⟨rfl, trivial⟩ rfl (some_inj H)
        replace H := ite_t hb132 H
        refine Lst.runG rfl rfl rfl hb132 rfl (by decide) (Ev.move rfl) ?_
        refine Lst.runG rfl rfl rfl hb132 rfl (by decide) (Ev.move rfl) ?_
        refine Lst.runG rfl rfl rfl hb132 rfl (by decide) (Ev.eql rfl rfl) ?_
        refine Lst.run rfl rfl (by decide) (Ev.pickT rfl hb132 rfl) ?_
        refine Lst.nil ?_
        exact At.meet (r119.2 == r125) (FLe.refl _) ⟨rfl, trivial⟩ rfl (some_inj H)
      rintro F133 y131 hF134 hy
      subst hy
      refine Lst.as (e' := [(80, .bool y131)]) (L' := (.own s121 23 6 (encs r119.1)) :: (.blk b18 (enc r9) 23) :: (.blk b19 (enc r5) 23) :: (.blk b3 (enc a1) 23) :: (.blk b1 (enc a0) 23) :: L) ⟨rfl, trivial⟩ rfl ?_
      replace H := HKo130
      refine Lst.run rfl rfl (by decide) (Ev.assign rfl) ?_
      refine Lst.nil ?_
      refine At.then ?_
      obtain rfl := some_inj H
      refine Cd.ret ?_
      refine At.then_ret ?_
      exact At.ret1 rfl (Res.tmp rfl) (FLe.trans (FLe.trans (FLe.trans hF73 hF76) hF124) hF134) (List.Sublist.cons _ (List.Sublist.cons _ (List.Sublist.cons _ (List.Sublist.cons _ (List.Sublist.cons _ (List.Sublist.refl _)))))) ⟨rfl, rfl⟩
    replace H := ite_f hb129 H
    refine Cd.condF rfl hb129 ?_
    refine Cd.skip ?_
    refine At.then ?_
    refine Cd.seq ?_
    refine Cd.region ?_
    refine Lst.run rfl rfl (by decide) (Ev.move rfl) ?_
    refine Lst.run rfl rfl (by decide) (Ev.move rfl) ?_
    obtain ⟨r135, h136, H⟩ := bind_some H
    refine Lst.call rfl rfl (by decide) (vs := [Sl.v s_a2]) ⟨rfl, trivial⟩ Try.call18 (partref_Vectors_sim h136 w0 _ M _ (List.Sublist.cons _ (List.Sublist.cons _ (List.Sublist.cons _ (List.Sublist.cons _ (List.Sublist.cons _ hM))))) (hs_a2.mono (FLe.trans (FLe.trans hF73 hF76) hF124) (List.Sublist.refl _))) (fun F139 L' v hF140 hv => ?_)
    obtain ⟨s137, rfl, rfl⟩ := hv
    obtain ⟨r141, h142, H⟩ := bind_some H
    refine Lst.call1 rfl rfl (by decide) (vs := [Sl.v s121, Sl.v s137]) ⟨rfl, rfl, trivial⟩ Try.call17 (slices_Equal_api_Vector_api_Vector_sim h142 w0 _ _ _ (List.Sublist.refl _) (Rd.own (i := 1) rfl rfl rfl) (Rd.own (i := 0) rfl rfl rfl)) ?_
    refine Lst.run rfl rfl (by decide) (Ev.move rfl) ?_
    obtain ⟨o145, H, HKo145⟩ := bind_some H
    refine Lst.join (σ := Bool) 3 (fun y146 => [(88, .bool y146)]) (fun y146 => (.own s137 23 6 (encs r135)) :: (.own s121 23 6 (encs r119.1)) :: (.blk b18 (enc r9) 23) :: (.blk b19 (enc r5) 23) :: (.blk b3 (enc a1) 23) :: (.blk b1 (enc a0) 23) :: L) (fun _ y146 => y146 = o145) ?_ ?_
    · rcases (Bool.eq_false_or_eq_true r141).symm with hb147 | hb147
      · replace H := ite_f hb147 H
        refine Lst.skip rfl rfl rfl hb147 rfl (by decide) ?_
        refine Lst.skip rfl rfl rfl hb147 rfl (by decide) ?_
        refine Lst.run rfl rfl (by decide) (Ev.pickF rfl hb147 rfl) ?_
        refine Lst.nil ?_
        exact At.meet false (FLe.refl _) ⟨rfl, trivial⟩ rfl (some_inj H)
      replace H := ite_t hb147 H
      refine Lst.runG rfl rfl rfl hb147 rfl (by decide) (Ev.move rfl) ?_
      refine Lst.runG rfl rfl rfl hb147 rfl (by decide) (Ev.eql rfl rfl) ?_
      refine Lst.run rfl rfl (by decide) (Ev.pickT rfl hb147 rfl) ?_
      refine Lst.nil ?_
      exact At.meet (r119.2 == (0 : Int)) (FLe.refl _) ⟨rfl, trivial⟩ rfl (some_inj H)
    rintro F148 y146 hF149 hy
    subst hy
    refine Lst.as (e' := [(88, .bool y146)]) (L' := (.own s137 23 6 (encs r135)) :: (.own s121 23 6 (encs r119.1)) :: (.blk b18 (enc r9) 23) :: (.blk b19 (enc r5) 23) :: (.blk b3 (enc a1) 23) :: (.blk b1 (enc a0) 23) :: L) ⟨rfl, trivial⟩ rfl ?_
    replace H := HKo145
    refine Lst.run rfl rfl (by decide) (Ev.assign rfl) ?_
    refine Lst.nil ?_
    refine At.then ?_
    obtain rfl := some_inj H
    refine Cd.ret ?_
    exact At.ret1 rfl (Res.tmp rfl) (FLe.trans (FLe.trans (FLe.trans (FLe.trans hF73 hF76) hF124) hF140) hF149) (List.Sublist.cons _ (List.Sublist.cons _ (List.Sublist.cons _ (List.Sublist.cons _ (List.Sublist.cons _ (List.Sublist.cons _ (List.Sublist.refl _))))))) ⟨rfl, rfl⟩
  have hc74 : decide ((i74 : Int) < (6 : Int)) = true := decide_eq_true (by omega)
  obtain ⟨c74, H, hgo74, hbrk74, hret74⟩ := rangeM_go H
  unfold partlaw_VectSays_B0 at H
  try dsimp only at H
  refine Cd.seq ?_
  refine Cd.region ?_
  refine Lst.run rfl rfl (by decide) (Ev.lss rfl rfl) ?_
  refine Lst.nil ?_
  refine At.then ?_
  refine Cd.seq ?_
  refine Cd.condT rfl hc74 ?_
  refine Cd.skip ?_
  refine At.then ?_
  refine Cd.seq ?_
  refine Cd.block ?_
  refine Cd.seq ?_
  refine Cd.region ?_
  refine Lst.run rfl rfl (by decide) (Ev.move rfl) ?_
  refine Lst.run rfl rfl (by decide) (Ev.assign rfl) ?_
  refine Lst.nil ?_
  refine At.then ?_
  refine Cd.seq ?_
  refine Cd.quiet (by kernel_rfl) (by kernel_rfl) ?_
  refine Qt.run rfl rfl (by decide) (Ev.move rfl) ?_
  obtain ⟨x77, h78, H⟩ := bind_some H
  have g79 := vat_some h78
  refine Qt.run rfl rfl (by decide) (Ev.indexAddr (off' := 0 + (i74 : Int).toNat * 1) rfl rfl Try.runUnderlying23 Try.sizeOf3 g79.1 g79.2.1 rfl) ?_
  refine Qt.run rfl rfl (by decide) (Ev.load (i := 1) rfl rfl Try.isAgg3 (v := .int .i64 x77) ((Get.vecN (s := 1) rfl g79.2.2 (Get.here _)).off (by omega))) ?_
  refine Qt.run rfl rfl (by decide) (Ev.move rfl) ?_
  obtain ⟨x80, h81, H⟩ := bind_some H
  have g82 := vat_some h81
  refine Qt.run rfl rfl (by decide) (Ev.indexAddr (off' := 0 + (i74 : Int).toNat * 1) rfl rfl Try.runUnderlying23 Try.sizeOf3 g82.1 g82.2.1 rfl) ?_
  refine Qt.run rfl rfl (by decide) (Ev.load (i := 3) rfl rfl Try.isAgg3 (v := .int .i64 x80) ((Get.vecN (s := 1) rfl g82.2.2 (Get.here _)).off (by omega))) ?_
  refine Qt.run rfl rfl (by decide) (Ev.move rfl) ?_
  obtain ⟨x83, h84, H⟩ := bind_some H
  have g85 := vat_some h84
  refine Qt.run rfl rfl (by decide) (Ev.indexAddr (off' := 0 + (i74 : Int).toNat * 1) rfl rfl Try.runUnderlying23 Try.sizeOf3 g85.1 g85.2.1 rfl) ?_
  refine Qt.run rfl rfl (by decide) (Ev.load (i := 2) rfl rfl Try.isAgg3 (v := .int .i64 x83) ((Get.vecN (s := 1) rfl g85.2.2 (Get.here _)).off (by omega))) ?_
  refine Qt.run rfl rfl (by decide) (Ev.max2 rfl rfl) ?_
  refine Qt.run rfl rfl (by decide) (Ev.neq rfl rfl) ?_
  refine Qt.run rfl rfl (by decide) (Ev.move rfl) ?_
  obtain ⟨o86, H, HKo86⟩ := bind_some H
  refine Qt.join (σ := Bool) 12 (fun y87 => [(2, Sl.v s_a2), (3, .pointer (some ⟨b1, 0, none⟩)), (4, .pointer (some ⟨b3, 0, none⟩)), (7, .pointer (some ⟨b19, 0, none⟩)), (8, .pointer (some ⟨b18, 0, none⟩)), (19, .int .i64 (i74 : Int)), (45, .bool y87)]) (fun y87 => y87 = o86) ?_ ?_
  · rcases Bool.eq_false_or_eq_true (x77 != (max x80 x83)) with hb88 | hb88
    · replace H := ite_t hb88 H
      refine Qt.skip rfl rfl rfl hb88 rfl (by decide) ?_
      refine Qt.skip rfl rfl rfl hb88 rfl (by decide) ?_
      refine Qt.skip rfl rfl rfl hb88 rfl (by decide) ?_
      refine Qt.skip rfl rfl rfl hb88 rfl (by decide) ?_
      refine Qt.skip rfl rfl rfl hb88 rfl (by decide) ?_
      refine Qt.skip rfl rfl rfl hb88 rfl (by decide) ?_
      refine Qt.skip rfl rfl rfl hb88 rfl (by decide) ?_
      refine Qt.skip rfl rfl rfl hb88 rfl (by decide) ?_
      refine Qt.skip rfl rfl rfl hb88 rfl (by decide) ?_
      refine Qt.skip rfl rfl rfl hb88 rfl (by decide) ?_
      refine Qt.skip rfl rfl rfl hb88 rfl (by decide) ?_
      refine Qt.run rfl rfl (by decide) (Ev.pickT rfl hb88 rfl) ?_
      exact Qt.meet true ⟨rfl, rfl, rfl, rfl, rfl, rfl, rfl, trivial⟩ (some_inj H)
    replace H := ite_f hb88 H
    refine Qt.runG rfl rfl rfl hb88 rfl (by decide) (Ev.move rfl) ?_
    obtain ⟨x89, h90, H⟩ := bind_some H
    have g91 := vat_some h90
    refine Qt.runG rfl rfl rfl hb88 rfl (by decide) (Ev.indexAddr (off' := 0 + (i74 : Int).toNat * 1) rfl rfl Try.runUnderlying23 Try.sizeOf3 g91.1 g91.2.1 rfl) ?_
    refine Qt.runG rfl rfl rfl hb88 rfl (by decide) (Ev.load (i := 0) rfl rfl Try.isAgg3 (v := .int .i64 x89) ((Get.vecN (s := 1) rfl g91.2.2 (Get.here _)).off (by omega))) ?_
    refine Qt.runG rfl rfl rfl hb88 rfl (by decide) (Ev.move rfl) ?_
    obtain ⟨x92, h93, H⟩ := bind_some H
    have g94 := vat_some h93
    refine Qt.runG rfl rfl rfl hb88 rfl (by decide) (Ev.indexAddr (off' := 0 + (i74 : Int).toNat * 1) rfl rfl Try.runUnderlying23 Try.sizeOf3 g94.1 g94.2.1 rfl) ?_
    refine Qt.runG rfl rfl rfl hb88 rfl (by decide) (Ev.load (i := 3) rfl rfl Try.isAgg3 (v := .int .i64 x92) ((Get.vecN (s := 1) rfl g94.2.2 (Get.here _)).off (by omega))) ?_
    refine Qt.runG rfl rfl rfl hb88 rfl (by decide) (Ev.move rfl) ?_
    obtain ⟨x95, h96, H⟩ := bind_some H
    have g97 := vat_some h96
    refine Qt.runG rfl rfl rfl hb88 rfl (by decide) (Ev.indexAddr (off' := 0 + (i74 : Int).toNat * 1) rfl rfl Try.runUnderlying23 Try.sizeOf3 g97.1 g97.2.1 rfl) ?_
    refine Qt.runG rfl rfl rfl hb88 rfl (by decide) (Ev.load (i := 2) rfl rfl Try.isAgg3 (v := .int .i64 x95) ((Get.vecN (s := 1) rfl g97.2.2 (Get.here _)).off (by omega))) ?_
    refine Qt.runG rfl rfl rfl hb88 rfl (by decide) (Ev.min2 rfl rfl) ?_
    refine Qt.runG rfl rfl rfl hb88 rfl (by decide) (Ev.neq rfl rfl) ?_
    refine Qt.run rfl rfl (by decide) (Ev.pickF rfl hb88 rfl) ?_
    exact Qt.meet (x89 != (min x92 x95)) ⟨rfl, rfl, rfl, rfl, rfl, rfl, rfl, trivial⟩ (some_inj H)
  rintro y87 hy
  subst hy
  refine Qt.as (e' := [(2, Sl.v s_a2), (3, .pointer (some ⟨b1, 0, none⟩)), (4, .pointer (some ⟨b3, 0, none⟩)), (7, .pointer (some ⟨b19, 0, none⟩)), (8, .pointer (some ⟨b18, 0, none⟩)), (19, .int .i64 (i74 : Int)), (45, .bool y87)]) ⟨rfl, rfl, rfl, rfl, rfl, rfl, rfl, trivial⟩ ?_
  replace H := HKo86
  refine Qt.done ?_
  refine At.then ?_
  rcases Bool.eq_false_or_eq_true y87 with hb98 | hb98
  · replace H := ite_t hb98 H
    refine Cd.condT rfl hb98 ?_
    refine Cd.seq ?_
    refine Cd.region ?_
    refine Lst.run rfl rfl (by decide) (Ev.assign rfl) ?_
    refine Lst.nil ?_
    refine At.then ?_
    have H := hret74 _ (some_inj H).symm
    subst H
    replace H := HKl74
    obtain rfl := some_inj H
    refine Cd.ret ?_
    refine At.in_ret ?_
    refine At.then_ret ?_
    refine At.then_ret ?_
    refine At.in_ret ?_
    refine At.then_ret ?_
    exact At.ret1 rfl (Res.tmp rfl) (FLe.trans hF73 hF76) (List.Sublist.cons _ (List.Sublist.cons _ (List.Sublist.cons _ (List.Sublist.cons _ (List.Sublist.refl _))))) ⟨rfl, rfl⟩
  replace H := ite_f hb98 H
  refine Cd.condF rfl hb98 ?_
  refine Cd.skip ?_
  refine At.in_normal ?_
  refine At.then ?_
  refine Cd.region ?_
  refine Lst.run rfl rfl (by decide) (Ev.incr (by omega) rfl rfl) ?_
  refine Lst.run rfl rfl (by decide) (Ev.move rfl) ?_
  refine Lst.nil ?_
  exact At.meet (i74 + 1, k74, ()) hF76 ⟨rfl, rfl, rfl, rfl, rfl, rfl, trivial⟩ rfl ⟨⟨hgo74 _ (some_inj H).symm, by omega⟩, Nat.lt_succ_self _⟩
end Go.Proofs.Ytclmlddmgccfjaa
