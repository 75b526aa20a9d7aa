/-
  The functions compute their specs; printed by a program.
-/
import Derived.Test.YtobikknjaomalaaWiSp
import Derived.Test.YtobikknjaomalaaGoL
import Derived.Test.YtobikknjaomalaaGoK
import Derived.Test.YtobikknjaomalaaGoI
import Derived.Test.YtobikknjaomalaaGoU
import Derived.Test.YtobikknjaomalaaGoM
import Derived.Test.YtobikknjaomalaaGoS
import Derived.Test.YtobikknjaomalaaProg
namespace Go.Proofs.Ytobikknjaomalaa
open Go.RowKit Enc
set_option linter.unusedVariables false
set_option linter.unusedSimpArgs false
set_option maxRecDepth 20000 in
theorem eq25 (x y : Note) : ∀ w, (Op.equal 25 (.agg (enc x).toArray) (.agg (enc y).toArray)).run Try.prog w = .ok (decide (x = y)) w :=
  EqT.top (d := 10000) Try.isAgg25 Try.sizeOf25 rfl rfl (EqT.struct Try.isAgg25 Try.sizeOf25 rfl Try.runUnderlying25 (by kernel_rfl) (fun x y w => by
  refine Eq.trans (eqField (p := x.Kind) (q := y.Kind) rfl (EqT.int Try.isAgg3 Try.runUnderlying3) rfl ((Note.get_Kind (Get.here _)).off rfl) ((Note.get_Kind (Get.here _)).off rfl) (eqField (p := x.From) (q := y.From) rfl (EqT.int Try.isAgg3 Try.runUnderlying3) rfl ((Note.get_From (Get.here _)).off rfl) ((Note.get_From (Get.here _)).off rfl) (eqField (p := x.To) (q := y.To) rfl (EqT.int Try.isAgg3 Try.runUnderlying3) rfl ((Note.get_To (Get.here _)).off rfl) ((Note.get_To (Get.here _)).off rfl) (eqField (p := x.View) (q := y.View) rfl (EqT.int Try.isAgg3 Try.runUnderlying3) rfl ((Note.get_View (Get.here _)).off rfl) ((Note.get_View (Get.here _)).off rfl) (eqField (p := x.Seq) (q := y.Seq) rfl (EqT.int Try.isAgg3 Try.runUnderlying3) rfl ((Note.get_Seq (Get.here _)).off rfl) ((Note.get_Seq (Get.here _)).off rfl) (eqField (p := x.At) (q := y.At) rfl (EqT.array (inf := Try.t3) Try.isAgg23 Try.sizeOf23 rfl Try.runUnderlying23 rfl (by kernel_rfl) (EqT.int Try.isAgg3 Try.runUnderlying3)) rfl ((Note.get_At (Get.here _)).off rfl) ((Note.get_At (Get.here _)).off rfl) (eqField (p := x.Text) (q := y.Text) rfl (EqT.str Try.isAgg9 Try.runUnderlying9) rfl ((Note.get_Text (Get.here _)).off rfl) ((Note.get_Text (Get.here _)).off rfl) (by rfl)))))))) ?_
  congr 1
  rw [Bool.eq_iff_iff]; cases x; cases y; simp)) x y
set_option maxRecDepth 20000 in
theorem slices_Min_int_int_sim {fu : Nat} {a0 : List Int} {s_a0 : Sl} {r : Int} (H : slices_Min_int_int fu a0 = some r) (w0 : World) (F : Frz) (M L : List Item) (hM : M.Sublist L) (hs_a0 : Rd w0 F M s_a0 a0) : Ok Try.prog w0 85 [Sl.v s_a0] F (L) (Is (.int .i64 r) (L)) := by
  unfold slices_Min_int_int at H
  refine Ok.enter (m := 1) (n := 25) Try.func85 rfl rfl rfl (by decide) ?_
  refine Cd.env (e' := [(0, Sl.v s_a0)]) rfl ?_
  refine Cd.seq ?_
  refine Cd.region ?_
  refine Lst.run rfl rfl (by decide) (Ev.assign rfl) ?_
  refine Lst.nil ?_
  refine At.then ?_
  refine Cd.seq ?_
  refine Cd.seq ?_
  refine Cd.region ?_
  refine Lst.run rfl rfl (by decide) (Ev.move rfl) ?_
  refine Lst.run rfl rfl (by decide) (Ev.lenS (α := Int) (xs := a0) (by decide) rfl rfl Try.runUnderlying36 (hs_a0.mono (FLe.refl _) hM)) ?_
  refine Lst.run rfl rfl (by decide) (Ev.lss rfl rfl) ?_
  refine Lst.nil ?_
  refine At.then ?_
  rcases Bool.eq_false_or_eq_true (decide ((a0.length : Int) < (1 : Int))) with hb1 | hb1
  · replace H := ite_t hb1 H
    cases H
  replace H := ite_f hb1 H
  refine Cd.condF rfl hb1 ?_
  refine Cd.skip ?_
  refine At.then ?_
  refine Cd.seq ?_
  refine Cd.region ?_
  refine Lst.run rfl rfl (by decide) (Ev.move rfl) ?_
  obtain ⟨x2, h3, H⟩ := bind_some H
  have g4 := lat_some h3
  refine Lst.run rfl rfl (by decide) (Ev.indexS (α := Int) (xs := a0) rfl rfl Try.runUnderlying36 Try.sizeOf3 rfl (by decide) (hs_a0.mono (FLe.refl _) hM) g4.1 g4.2.1) ?_
  refine Lst.run rfl rfl (by decide) (Ev.loadS (α := Int) rfl (hs_a0.mono (FLe.refl _) hM) Try.isAgg3 (v := .int .i64 x2) ((Get.elemN (s := 1) (x := x2) rfl g4.2.2 (Get.here _)).off (by omega))) ?_
  refine Lst.run rfl rfl (by decide) (Ev.assign rfl) ?_
  refine Lst.nil ?_
  refine At.then ?_
  refine Cd.seq ?_
  refine Cd.seq ?_
  refine Cd.region ?_
  refine Lst.run rfl rfl (by decide) (Ev.assign rfl) ?_
  refine Lst.nil ?_
  refine At.then ?_
  refine Cd.block ?_
  obtain ⟨ol5, H, HKl5⟩ := andThen_some H
  refine Cd.loop (σ := Nat × Int × Int) (fun (k5, y6, y7) => [(0, Sl.v s_a0), (3, .int .i64 y6), (4, .int .i64 y7)]) (fun (k5, y6, y7) => L) (fun _ => (fun (k5, y6, y7) => whileM (slices_Min_int_int_B0 a0) k5 (y6, y7) = some ol5)) (fun (k5, y6, y7) => k5) (fu, x2, (1 : Int)) ⟨rfl, rfl, rfl, trivial⟩ rfl H ?_
  rintro F8 ⟨k5, y6, y7⟩ hF9 H
  refine Cd.as (e' := [(0, Sl.v s_a0), (3, .int .i64 y6), (4, .int .i64 y7)]) (L' := L) ⟨rfl, rfl, rfl, trivial⟩ rfl ?_
  rcases k5 with _ | k5
  · cases H
  obtain ⟨c5, H, hgo5, hbrk5, hret5⟩ := whileM_go H
  unfold slices_Min_int_int_B0 at H
  try dsimp only at H
  refine Cd.seq ?_
  refine Cd.seq ?_
  refine Cd.region ?_
  refine Lst.run rfl rfl (by decide) (Ev.move rfl) ?_
  refine Lst.run rfl rfl (by decide) (Ev.move rfl) ?_
  refine Lst.run rfl rfl (by decide) (Ev.lenS (α := Int) (xs := a0) (by decide) rfl rfl Try.runUnderlying36 (hs_a0.mono hF9 hM)) ?_
  refine Lst.run rfl rfl (by decide) (Ev.lss rfl rfl) ?_
  refine Lst.nil ?_
  refine At.then ?_
  rcases (Bool.eq_false_or_eq_true (decide (y7 < (a0.length : Int)))).symm with hb10 | hb10
  · replace H := ite_f hb10 H
    refine Cd.condF rfl hb10 ?_
    refine Cd.exit ?_
    refine At.then_exit ?_
    refine At.then_exit ?_
    refine At.in_exit ?_
    have H := hbrk5 _ (some_inj H).symm
    subst H
    replace H := HKl5
    refine At.then ?_
    refine Cd.seq ?_
    refine Cd.region ?_
    refine Lst.run rfl rfl (by decide) (Ev.move rfl) ?_
    refine Lst.run rfl rfl (by decide) (Ev.assign rfl) ?_
    refine Lst.nil ?_
    refine At.then ?_
    obtain rfl := some_inj H
    refine Cd.ret ?_
    exact At.ret1 rfl (Res.tmp rfl) hF9 (List.Sublist.refl _) ⟨rfl, rfl⟩
  replace H := ite_t hb10 H
  refine Cd.condT rfl hb10 ?_
  refine Cd.skip ?_
  refine At.then ?_
  refine Cd.seq ?_
  refine Cd.block ?_
  refine Cd.region ?_
  refine Lst.run rfl rfl (by decide) (Ev.move rfl) ?_
  refine Lst.run rfl rfl (by decide) (Ev.move rfl) ?_
  refine Lst.run rfl rfl (by decide) (Ev.move rfl) ?_
  obtain ⟨x11, h12, H⟩ := bind_some H
  have g13 := lat_some h12
  refine Lst.run rfl rfl (by decide) (Ev.indexS (α := Int) (xs := a0) rfl rfl Try.runUnderlying36 Try.sizeOf3 rfl (by decide) (hs_a0.mono hF9 hM) g13.1 g13.2.1) ?_
  refine Lst.run rfl rfl (by decide) (Ev.loadS (α := Int) rfl (hs_a0.mono hF9 hM) Try.isAgg3 (v := .int .i64 x11) ((Get.elemN (s := 1) (x := x11) rfl g13.2.2 (Get.here _)).off (by omega))) ?_
  refine Lst.run rfl rfl (by decide) (Ev.min2 rfl rfl) ?_
  refine Lst.run rfl rfl (by decide) (Ev.assign rfl) ?_
  refine Lst.nil ?_
  refine At.in_normal ?_
  refine At.then ?_
  refine Cd.region ?_
  refine Lst.run rfl rfl (by decide) (Ev.move rfl) ?_
  refine Lst.run rfl rfl (by decide) (Ev.add rfl rfl) ?_
  refine Lst.run rfl rfl (by decide) (Ev.assign rfl) ?_
  refine Lst.nil ?_
  exact At.meet (k5, min y6 x11, w64 (y7 + (1 : Int))) hF9 ⟨rfl, rfl, rfl, trivial⟩ rfl ⟨hgo5 _ (some_inj H).symm, Nat.lt_succ_self _⟩
set_option maxRecDepth 20000 in
theorem slices_Max_int_int_sim {fu : Nat} {a0 : List Int} {s_a0 : Sl} {r : Int} (H : slices_Max_int_int fu a0 = some r) (w0 : World) (F : Frz) (M L : List Item) (hM : M.Sublist L) (hs_a0 : Rd w0 F M s_a0 a0) : Ok Try.prog w0 86 [Sl.v s_a0] F (L) (Is (.int .i64 r) (L)) := by
  unfold slices_Max_int_int at H
  refine Ok.enter (m := 1) (n := 25) Try.func86 rfl rfl rfl (by decide) ?_
  refine Cd.env (e' := [(0, Sl.v s_a0)]) rfl ?_
  refine Cd.seq ?_
  refine Cd.region ?_
  refine Lst.run rfl rfl (by decide) (Ev.assign rfl) ?_
  refine Lst.nil ?_
  refine At.then ?_
  refine Cd.seq ?_
  refine Cd.seq ?_
  refine Cd.region ?_
  refine Lst.run rfl rfl (by decide) (Ev.move rfl) ?_
  refine Lst.run rfl rfl (by decide) (Ev.lenS (α := Int) (xs := a0) (by decide) rfl rfl Try.runUnderlying36 (hs_a0.mono (FLe.refl _) hM)) ?_
  refine Lst.run rfl rfl (by decide) (Ev.lss rfl rfl) ?_
  refine Lst.nil ?_
  refine At.then ?_
  rcases Bool.eq_false_or_eq_true (decide ((a0.length : Int) < (1 : Int))) with hb1 | hb1
  · replace H := ite_t hb1 H
    cases H
  replace H := ite_f hb1 H
  refine Cd.condF rfl hb1 ?_
  refine Cd.skip ?_
  refine At.then ?_
  refine Cd.seq ?_
  refine Cd.region ?_
  refine Lst.run rfl rfl (by decide) (Ev.move rfl) ?_
  obtain ⟨x2, h3, H⟩ := bind_some H
  have g4 := lat_some h3
  refine Lst.run rfl rfl (by decide) (Ev.indexS (α := Int) (xs := a0) rfl rfl Try.runUnderlying36 Try.sizeOf3 rfl (by decide) (hs_a0.mono (FLe.refl _) hM) g4.1 g4.2.1) ?_
  refine Lst.run rfl rfl (by decide) (Ev.loadS (α := Int) rfl (hs_a0.mono (FLe.refl _) hM) Try.isAgg3 (v := .int .i64 x2) ((Get.elemN (s := 1) (x := x2) rfl g4.2.2 (Get.here _)).off (by omega))) ?_
  refine Lst.run rfl rfl (by decide) (Ev.assign rfl) ?_
  refine Lst.nil ?_
  refine At.then ?_
  refine Cd.seq ?_
  refine Cd.seq ?_
  refine Cd.region ?_
  refine Lst.run rfl rfl (by decide) (Ev.assign rfl) ?_
  refine Lst.nil ?_
  refine At.then ?_
  refine Cd.block ?_
  obtain ⟨ol5, H, HKl5⟩ := andThen_some H
  refine Cd.loop (σ := Nat × Int × Int) (fun (k5, y6, y7) => [(0, Sl.v s_a0), (3, .int .i64 y6), (4, .int .i64 y7)]) (fun (k5, y6, y7) => L) (fun _ => (fun (k5, y6, y7) => whileM (slices_Max_int_int_B0 a0) k5 (y6, y7) = some ol5)) (fun (k5, y6, y7) => k5) (fu, x2, (1 : Int)) ⟨rfl, rfl, rfl, trivial⟩ rfl H ?_
  rintro F8 ⟨k5, y6, y7⟩ hF9 H
  refine Cd.as (e' := [(0, Sl.v s_a0), (3, .int .i64 y6), (4, .int .i64 y7)]) (L' := L) ⟨rfl, rfl, rfl, trivial⟩ rfl ?_
  rcases k5 with _ | k5
  · cases H
  obtain ⟨c5, H, hgo5, hbrk5, hret5⟩ := whileM_go H
  unfold slices_Max_int_int_B0 at H
  try dsimp only at H
  refine Cd.seq ?_
  refine Cd.seq ?_
  refine Cd.region ?_
  refine Lst.run rfl rfl (by decide) (Ev.move rfl) ?_
  refine Lst.run rfl rfl (by decide) (Ev.move rfl) ?_
  refine Lst.run rfl rfl (by decide) (Ev.lenS (α := Int) (xs := a0) (by decide) rfl rfl Try.runUnderlying36 (hs_a0.mono hF9 hM)) ?_
  refine Lst.run rfl rfl (by decide) (Ev.lss rfl rfl) ?_
  refine Lst.nil ?_
  refine At.then ?_
  rcases (Bool.eq_false_or_eq_true (decide (y7 < (a0.length : Int)))).symm with hb10 | hb10
  · replace H := ite_f hb10 H
    refine Cd.condF rfl hb10 ?_
    refine Cd.exit ?_
    refine At.then_exit ?_
    refine At.then_exit ?_
    refine At.in_exit ?_
    have H := hbrk5 _ (some_inj H).symm
    subst H
    replace H := HKl5
    refine At.then ?_
    refine Cd.seq ?_
    refine Cd.region ?_
    refine Lst.run rfl rfl (by decide) (Ev.move rfl) ?_
    refine Lst.run rfl rfl (by decide) (Ev.assign rfl) ?_
    refine Lst.nil ?_
    refine At.then ?_
    obtain rfl := some_inj H
    refine Cd.ret ?_
    exact At.ret1 rfl (Res.tmp rfl) hF9 (List.Sublist.refl _) ⟨rfl, rfl⟩
  replace H := ite_t hb10 H
  refine Cd.condT rfl hb10 ?_
  refine Cd.skip ?_
  refine At.then ?_
  refine Cd.seq ?_
  refine Cd.block ?_
  refine Cd.region ?_
  refine Lst.run rfl rfl (by decide) (Ev.move rfl) ?_
  refine Lst.run rfl rfl (by decide) (Ev.move rfl) ?_
  refine Lst.run rfl rfl (by decide) (Ev.move rfl) ?_
  obtain ⟨x11, h12, H⟩ := bind_some H
  have g13 := lat_some h12
  refine Lst.run rfl rfl (by decide) (Ev.indexS (α := Int) (xs := a0) rfl rfl Try.runUnderlying36 Try.sizeOf3 rfl (by decide) (hs_a0.mono hF9 hM) g13.1 g13.2.1) ?_
  refine Lst.run rfl rfl (by decide) (Ev.loadS (α := Int) rfl (hs_a0.mono hF9 hM) Try.isAgg3 (v := .int .i64 x11) ((Get.elemN (s := 1) (x := x11) rfl g13.2.2 (Get.here _)).off (by omega))) ?_
  refine Lst.run rfl rfl (by decide) (Ev.max2 rfl rfl) ?_
  refine Lst.run rfl rfl (by decide) (Ev.assign rfl) ?_
  refine Lst.nil ?_
  refine At.in_normal ?_
  refine At.then ?_
  refine Cd.region ?_
  refine Lst.run rfl rfl (by decide) (Ev.move rfl) ?_
  refine Lst.run rfl rfl (by decide) (Ev.add rfl rfl) ?_
  refine Lst.run rfl rfl (by decide) (Ev.assign rfl) ?_
  refine Lst.nil ?_
  exact At.meet (k5, max y6 x11, w64 (y7 + (1 : Int))) hF9 ⟨rfl, rfl, rfl, trivial⟩ rfl ⟨hgo5 _ (some_inj H).symm, Nat.lt_succ_self _⟩
set_option maxRecDepth 20000 in
theorem partref_NoteErr_sim {fu : Nat} {a0 : Note} {r : Int} (H : partref_NoteErr fu a0 = some r) (w0 : World) (F : Frz) (M L : List Item) (hM : M.Sublist L) : Ok Try.prog w0 12 [.agg (enc a0).toArray] F (L) (Is (.int .i64 r) (L)) := by
  unfold partref_NoteErr at H
  refine Ok.enter (m := 1) (n := 53) Try.func12 rfl rfl rfl (by decide) ?_
  refine Cd.env (e' := [(0, .agg (enc a0).toArray)]) rfl ?_
  refine Cd.seq ?_
  refine Cd.region ?_
  refine Lst.box rfl rfl (by decide) rfl (cs := enc a0) rfl (fun b1 => ?_)
  refine Lst.run rfl rfl (by decide) (Ev.assign rfl) ?_
  refine Lst.nil ?_
  refine At.then ?_
  refine Cd.seq ?_
  refine Cd.seq ?_
  refine Cd.region ?_
  refine Lst.run rfl rfl (by decide) (Ev.fieldAddr (off' := 0) rfl Try.runUnderlying25 rfl Try.sizeOf3 rfl rfl) ?_
  refine Lst.run rfl rfl (by decide) (Ev.load (i := 0) rfl rfl Try.isAgg3 (v := .int .i64 a0.Kind) ((Note.get_Kind (Get.here _)).off (by rfl))) ?_
  refine Lst.run rfl rfl (by decide) (Ev.lss rfl rfl) ?_
  refine Lst.run rfl rfl (by decide) (Ev.move rfl) ?_
  obtain ⟨o3, H, HKo3⟩ := bind_some H
  refine Lst.join (σ := Bool) 4 (fun y4 => [(1, .pointer (some ⟨b1, 0, none⟩)), (10, .bool y4)]) (fun y4 => (.blk b1 (enc a0) 25) :: L) (fun _ y4 => y4 = o3) ?_ ?_
  · rcases Bool.eq_false_or_eq_true (decide (a0.Kind < (0 : Int))) with hb5 | hb5
    · replace H := ite_t hb5 H
      refine Lst.skip rfl rfl rfl hb5 rfl (by decide) ?_
      refine Lst.skip rfl rfl rfl hb5 rfl (by decide) ?_
      refine Lst.skip rfl rfl rfl hb5 rfl (by decide) ?_
      refine Lst.run rfl rfl (by decide) (Ev.pickT rfl hb5 rfl) ?_
      refine Lst.nil ?_
      exact At.meet true (FLe.refl _) ⟨rfl, rfl, trivial⟩ rfl (some_inj H)
    replace H := ite_f hb5 H
    refine Lst.runG rfl rfl rfl hb5 rfl (by decide) (Ev.fieldAddr (off' := 0) rfl Try.runUnderlying25 rfl Try.sizeOf3 rfl rfl) ?_
    refine Lst.runG rfl rfl rfl hb5 rfl (by decide) (Ev.load (i := 0) rfl rfl Try.isAgg3 (v := .int .i64 a0.Kind) ((Note.get_Kind (Get.here _)).off (by rfl))) ?_
    refine Lst.runG rfl rfl rfl hb5 rfl (by decide) (Ev.gtr rfl rfl) ?_
    refine Lst.run rfl rfl (by decide) (Ev.pickF rfl hb5 rfl) ?_
    refine Lst.nil ?_
    exact At.meet (decide (a0.Kind > (255 : Int))) (FLe.refl _) ⟨rfl, rfl, trivial⟩ rfl (some_inj H)
  rintro F6 y4 hF7 hy
  subst hy
  refine Lst.as (e' := [(1, .pointer (some ⟨b1, 0, none⟩)), (10, .bool y4)]) (L' := (.blk b1 (enc a0) 25) :: L) ⟨rfl, rfl, trivial⟩ rfl ?_
  replace H := HKo3
  refine Lst.run rfl rfl (by decide) (Ev.move rfl) ?_
  obtain ⟨o8, H, HKo8⟩ := bind_some H
  refine Lst.join (σ := Bool) 11 (fun y9 => [(1, .pointer (some ⟨b1, 0, none⟩)), (22, .bool y9)]) (fun y9 => (.blk b1 (enc a0) 25) :: L) (fun _ y9 => y9 = o8) ?_ ?_
  · rcases Bool.eq_false_or_eq_true y4 with hb10 | hb10
    · replace H := ite_t hb10 H
      refine Lst.skip rfl rfl rfl hb10 rfl (by decide) ?_
      refine Lst.skip rfl rfl rfl hb10 rfl (by decide) ?_
      refine Lst.skip rfl rfl rfl hb10 rfl (by decide) ?_
      refine Lst.skip rfl rfl rfl hb10 rfl (by decide) ?_
      refine Lst.skip rfl rfl rfl hb10 rfl (by decide) ?_
      refine Lst.skip rfl rfl rfl hb10 rfl (by decide) ?_
      refine Lst.skip rfl rfl rfl hb10 rfl (by decide) ?_
      refine Lst.skip rfl rfl rfl hb10 rfl (by decide) ?_
      refine Lst.skip rfl rfl rfl hb10 rfl (by decide) ?_
      refine Lst.skip rfl rfl rfl hb10 rfl (by decide) ?_
      refine Lst.run rfl rfl (by decide) (Ev.pickT rfl hb10 rfl) ?_
      refine Lst.nil ?_
      exact At.meet true (FLe.refl _) ⟨rfl, rfl, trivial⟩ rfl (some_inj H)
    replace H := ite_f hb10 H
    refine Lst.runG rfl rfl rfl hb10 rfl (by decide) (Ev.fieldAddr (off' := 1) rfl Try.runUnderlying25 rfl Try.sizeOf3 rfl rfl) ?_
    refine Lst.runG rfl rfl rfl hb10 rfl (by decide) (Ev.load (i := 0) rfl rfl Try.isAgg3 (v := .int .i64 a0.From) ((Note.get_From (Get.here _)).off (by rfl))) ?_
    refine Lst.runG rfl rfl rfl hb10 rfl (by decide) (Ev.fieldAddr (off' := 2) rfl Try.runUnderlying25 rfl Try.sizeOf3 rfl rfl) ?_
    refine Lst.runG rfl rfl rfl hb10 rfl (by decide) (Ev.load (i := 0) rfl rfl Try.isAgg3 (v := .int .i64 a0.To) ((Note.get_To (Get.here _)).off (by rfl))) ?_
    refine Lst.runG rfl rfl rfl hb10 rfl (by decide) (Ev.fieldAddr (off' := 3) rfl Try.runUnderlying25 rfl Try.sizeOf3 rfl rfl) ?_
    refine Lst.runG rfl rfl rfl hb10 rfl (by decide) (Ev.load (i := 0) rfl rfl Try.isAgg3 (v := .int .i64 a0.View) ((Note.get_View (Get.here _)).off (by rfl))) ?_
    refine Lst.runG rfl rfl rfl hb10 rfl (by decide) (Ev.fieldAddr (off' := 4) rfl Try.runUnderlying25 rfl Try.sizeOf3 rfl rfl) ?_
    refine Lst.runG rfl rfl rfl hb10 rfl (by decide) (Ev.load (i := 0) rfl rfl Try.isAgg3 (v := .int .i64 a0.Seq) ((Note.get_Seq (Get.here _)).off (by rfl))) ?_
    refine Lst.runG rfl rfl rfl hb10 rfl (by decide) (Ev.min4 rfl rfl rfl rfl) ?_
    refine Lst.runG rfl rfl rfl hb10 rfl (by decide) (Ev.lss rfl rfl) ?_
    refine Lst.run rfl rfl (by decide) (Ev.pickF rfl hb10 rfl) ?_
    refine Lst.nil ?_
    exact At.meet (decide ((min (min (min a0.From a0.To) a0.View) a0.Seq) < (0 : Int))) (FLe.refl _) ⟨rfl, rfl, trivial⟩ rfl (some_inj H)
  rintro F11 y9 hF12 hy
  subst hy
  refine Lst.as (e' := [(1, .pointer (some ⟨b1, 0, none⟩)), (22, .bool y9)]) (L' := (.blk b1 (enc a0) 25) :: L) ⟨rfl, rfl, trivial⟩ rfl ?_
  replace H := HKo8
  refine Lst.run rfl rfl (by decide) (Ev.move rfl) ?_
  obtain ⟨o13, H, HKo13⟩ := bind_some H
  refine Lst.join (σ := Bool) 7 (fun y14 => [(1, .pointer (some ⟨b1, 0, none⟩)), (30, .bool y14)]) (fun y14 => (.blk b1 (enc a0) 25) :: L) (fun _ y14 => y14 = o13) ?_ ?_
  · rcases Bool.eq_false_or_eq_true y9 with hb15 | hb15
    · replace H := ite_t hb15 H
      refine Lst.skip rfl rfl rfl hb15 rfl (by decide) ?_
      refine Lst.skip rfl rfl rfl hb15 rfl (by decide) ?_
      refine Lst.skip rfl rfl rfl hb15 rfl (by decide) ?_
      refine Lst.skip rfl rfl rfl hb15 rfl (by decide) ?_
      refine Lst.skip rfl rfl rfl hb15 rfl (by decide) ?_
      refine Lst.skip rfl rfl rfl hb15 rfl (by decide) ?_
      refine Lst.run rfl rfl (by decide) (Ev.pickT rfl hb15 rfl) ?_
      refine Lst.nil ?_
      exact At.meet true (FLe.refl _) ⟨rfl, rfl, trivial⟩ rfl (some_inj H)
    replace H := ite_f hb15 H
    refine Lst.runG rfl rfl rfl hb15 rfl (by decide) (Ev.fieldAddr (off' := 1) rfl Try.runUnderlying25 rfl Try.sizeOf3 rfl rfl) ?_
    refine Lst.runG rfl rfl rfl hb15 rfl (by decide) (Ev.load (i := 0) rfl rfl Try.isAgg3 (v := .int .i64 a0.From) ((Note.get_From (Get.here _)).off (by rfl))) ?_
    refine Lst.runG rfl rfl rfl hb15 rfl (by decide) (Ev.fieldAddr (off' := 2) rfl Try.runUnderlying25 rfl Try.sizeOf3 rfl rfl) ?_
    refine Lst.runG rfl rfl rfl hb15 rfl (by decide) (Ev.load (i := 0) rfl rfl Try.isAgg3 (v := .int .i64 a0.To) ((Note.get_To (Get.here _)).off (by rfl))) ?_
    refine Lst.runG rfl rfl rfl hb15 rfl (by decide) (Ev.max2 rfl rfl) ?_
    refine Lst.runG rfl rfl rfl hb15 rfl (by decide) (Ev.gtr rfl rfl) ?_
    refine Lst.run rfl rfl (by decide) (Ev.pickF rfl hb15 rfl) ?_
    refine Lst.nil ?_
    exact At.meet (decide ((max a0.From a0.To) > (5 : Int))) (FLe.refl _) ⟨rfl, rfl, trivial⟩ rfl (some_inj H)
  rintro F16 y14 hF17 hy
  subst hy
  refine Lst.as (e' := [(1, .pointer (some ⟨b1, 0, none⟩)), (30, .bool y14)]) (L' := (.blk b1 (enc a0) 25) :: L) ⟨rfl, rfl, trivial⟩ rfl ?_
  replace H := HKo13
  refine Lst.run rfl rfl (by decide) (Ev.move rfl) ?_
  obtain ⟨o18, H, HKo18⟩ := bind_some H
  refine Lst.join (σ := Bool) 7 (fun y19 => [(1, .pointer (some ⟨b1, 0, none⟩)), (38, .bool y19)]) (fun y19 => (.blk b1 (enc a0) 25) :: L) (fun _ y19 => y19 = o18) ?_ ?_
  · rcases Bool.eq_false_or_eq_true y14 with hb20 | hb20
    · replace H := ite_t hb20 H
      refine Lst.skip rfl rfl rfl hb20 rfl (by decide) ?_
      refine Lst.skip rfl rfl rfl hb20 rfl (by decide) ?_
      refine Lst.skip rfl rfl rfl hb20 rfl (by decide) ?_
      refine Lst.skip rfl rfl rfl hb20 rfl (by decide) ?_
      refine Lst.skip rfl rfl rfl hb20 rfl (by decide) ?_
      refine Lst.skip rfl rfl rfl hb20 rfl (by decide) ?_
      refine Lst.run rfl rfl (by decide) (Ev.pickT rfl hb20 rfl) ?_
      refine Lst.nil ?_
      exact At.meet true (FLe.refl _) ⟨rfl, rfl, trivial⟩ rfl (some_inj H)
    replace H := ite_f hb20 H
    refine Lst.runG rfl rfl rfl hb20 rfl (by decide) (Ev.fieldAddr (off' := 3) rfl Try.runUnderlying25 rfl Try.sizeOf3 rfl rfl) ?_
    refine Lst.runG rfl rfl rfl hb20 rfl (by decide) (Ev.load (i := 0) rfl rfl Try.isAgg3 (v := .int .i64 a0.View) ((Note.get_View (Get.here _)).off (by rfl))) ?_
    refine Lst.runG rfl rfl rfl hb20 rfl (by decide) (Ev.fieldAddr (off' := 4) rfl Try.runUnderlying25 rfl Try.sizeOf3 rfl rfl) ?_
    refine Lst.runG rfl rfl rfl hb20 rfl (by decide) (Ev.load (i := 0) rfl rfl Try.isAgg3 (v := .int .i64 a0.Seq) ((Note.get_Seq (Get.here _)).off (by rfl))) ?_
    refine Lst.runG rfl rfl rfl hb20 rfl (by decide) (Ev.max2 rfl rfl) ?_
    refine Lst.runG rfl rfl rfl hb20 rfl (by decide) (Ev.gtr rfl rfl) ?_
    refine Lst.run rfl rfl (by decide) (Ev.pickF rfl hb20 rfl) ?_
    refine Lst.nil ?_
    exact At.meet (decide ((max a0.View a0.Seq) > (16777215 : Int))) (FLe.refl _) ⟨rfl, rfl, trivial⟩ rfl (some_inj H)
  rintro F21 y19 hF22 hy
  subst hy
  refine Lst.as (e' := [(1, .pointer (some ⟨b1, 0, none⟩)), (38, .bool y19)]) (L' := (.blk b1 (enc a0) 25) :: L) ⟨rfl, rfl, trivial⟩ rfl ?_
  replace H := HKo18
  refine Lst.nil ?_
  refine At.then ?_
  rcases Bool.eq_false_or_eq_true y19 with hb23 | hb23
  · replace H := ite_t hb23 H
    refine Cd.condT rfl hb23 ?_
    refine Cd.seq ?_
    refine Cd.region ?_
    refine Lst.run rfl rfl (by decide) (Ev.assign rfl) ?_
    refine Lst.nil ?_
    refine At.then ?_
    obtain rfl := some_inj H
    refine Cd.ret ?_
    refine At.then_ret ?_
    exact At.ret1 rfl (Res.tmp rfl) (FLe.trans (FLe.trans (FLe.trans hF7 hF12) hF17) hF22) (List.Sublist.cons _ (List.Sublist.refl _)) ⟨rfl, rfl⟩
  replace H := ite_f hb23 H
  refine Cd.condF rfl hb23 ?_
  refine Cd.skip ?_
  refine At.then ?_
  refine Cd.seq ?_
  refine Cd.seq ?_
  refine Cd.region ?_
  refine Lst.run rfl rfl (by decide) (Ev.fieldAddr (off' := 5) rfl Try.runUnderlying25 rfl Try.sizeOf23 rfl rfl) ?_
  refine Lst.run rfl rfl (by decide) (Ev.sliceAll rfl Try.runUnderlying23 Try.sizeOf3) ?_
  obtain ⟨r24, h25, H⟩ := bind_some H
  refine Lst.call1 rfl rfl (by decide) (vs := [Sl.v (Sl.mk (some ⟨b1, 5, none⟩) 6 6)]) ⟨rfl, trivial⟩ Try.call85 (slices_Min_int_int_sim h25 w0 _ _ _ (List.Sublist.refl _) (Rd.blk (i := 0) (xs := a0.At.toList) rfl ((Note.get_At (Get.here _)).off (by rfl)) (by simp) (by decide))) ?_
  refine Lst.run rfl rfl (by decide) (Ev.lss rfl rfl) ?_
  refine Lst.run rfl rfl (by decide) (Ev.move rfl) ?_
  obtain ⟨o28, H, HKo28⟩ := bind_some H
  refine Lst.join (σ := Bool) 5 (fun y29 => [(1, .pointer (some ⟨b1, 0, none⟩)), (48, .bool y29)]) (fun y29 => (.blk b1 (enc a0) 25) :: L) (fun _ y29 => y29 = o28) ?_ ?_
  · rcases Bool.eq_false_or_eq_true (decide (r24 < (0 : Int))) with hb30 | hb30
    · replace H := ite_t hb30 H
      refine Lst.skip rfl rfl rfl hb30 rfl (by decide) ?_
      refine Lst.skip rfl rfl rfl hb30 rfl (by decide) ?_
      refine Lst.skip rfl rfl rfl hb30 rfl (by decide) ?_
      refine Lst.skip rfl rfl rfl hb30 rfl (by decide) ?_
      refine Lst.run rfl rfl (by decide) (Ev.pickT rfl hb30 rfl) ?_
      refine Lst.nil ?_
      exact At.meet true (FLe.refl _) ⟨rfl, rfl, trivial⟩ rfl (some_inj H)
    replace H := ite_f hb30 H
    refine Lst.runG rfl rfl rfl hb30 rfl (by decide) (Ev.fieldAddr (off' := 5) rfl Try.runUnderlying25 rfl Try.sizeOf23 rfl rfl) ?_
    refine Lst.runG rfl rfl rfl hb30 rfl (by decide) (Ev.sliceAll rfl Try.runUnderlying23 Try.sizeOf3) ?_
    obtain ⟨r31, h32, H⟩ := bind_some H
    refine Lst.call1G rfl rfl rfl hb30 rfl (by decide) (vs := [Sl.v (Sl.mk (some ⟨b1, 5, none⟩) 6 6)]) ⟨rfl, trivial⟩ Try.call86 (slices_Max_int_int_sim h32 w0 _ _ _ (List.Sublist.refl _) (Rd.blk (i := 0) (xs := a0.At.toList) rfl ((Note.get_At (Get.here _)).off (by rfl)) (by simp) (by decide))) ?_
    refine Lst.runG rfl rfl rfl hb30 rfl (by decide) (Ev.gtr rfl rfl) ?_
    refine Lst.run rfl rfl (by decide) (Ev.pickF rfl hb30 rfl) ?_
    refine Lst.nil ?_
    exact At.meet (decide (r31 > (16777215 : Int))) (FLe.refl _) ⟨rfl, rfl, trivial⟩ rfl (some_inj H)
  rintro F35 y29 hF36 hy
  subst hy
  refine Lst.as (e' := [(1, .pointer (some ⟨b1, 0, none⟩)), (48, .bool y29)]) (L' := (.blk b1 (enc a0) 25) :: L) ⟨rfl, rfl, trivial⟩ rfl ?_
  replace H := HKo28
  refine Lst.nil ?_
  refine At.then ?_
  rcases Bool.eq_false_or_eq_true y29 with hb37 | hb37
  · replace H := ite_t hb37 H
    refine Cd.condT rfl hb37 ?_
    refine Cd.seq ?_
    refine Cd.region ?_
    refine Lst.run rfl rfl (by decide) (Ev.assign rfl) ?_
    refine Lst.nil ?_
    refine At.then ?_
    obtain rfl := some_inj H
    refine Cd.ret ?_
    refine At.then_ret ?_
    exact At.ret1 rfl (Res.tmp rfl) (FLe.trans (FLe.trans (FLe.trans (FLe.trans hF7 hF12) hF17) hF22) hF36) (List.Sublist.cons _ (List.Sublist.refl _)) ⟨rfl, rfl⟩
  replace H := ite_f hb37 H
  refine Cd.condF rfl hb37 ?_
  refine Cd.skip ?_
  refine At.then ?_
  refine Cd.seq ?_
  refine Cd.seq ?_
  refine Cd.region ?_
  refine Lst.run rfl rfl (by decide) (Ev.fieldAddr (off' := 11) rfl Try.runUnderlying25 rfl Try.sizeOf9 rfl rfl) ?_
  refine Lst.run rfl rfl (by decide) (Ev.load (i := 0) rfl rfl Try.isAgg9 (v := Str.v a0.Text) ((Note.get_Text (Get.here _)).off (by rfl))) ?_
  refine Lst.run rfl rfl (by decide) (Ev.lenStr rfl rfl Try.runUnderlying9) ?_
  refine Lst.run rfl rfl (by decide) (Ev.gtr rfl rfl) ?_
  refine Lst.nil ?_
  refine At.then ?_
  rcases Bool.eq_false_or_eq_true (decide ((a0.Text.length : Int) > (200 : Int))) with hb38 | hb38
  · replace H := ite_t hb38 H
    refine Cd.condT rfl hb38 ?_
    refine Cd.seq ?_
    refine Cd.region ?_
    refine Lst.run rfl rfl (by decide) (Ev.assign rfl) ?_
    refine Lst.nil ?_
    refine At.then ?_
    obtain rfl := some_inj H
    refine Cd.ret ?_
    refine At.then_ret ?_
    exact At.ret1 rfl (Res.tmp rfl) (FLe.trans (FLe.trans (FLe.trans (FLe.trans hF7 hF12) hF17) hF22) hF36) (List.Sublist.cons _ (List.Sublist.refl _)) ⟨rfl, rfl⟩
  replace H := ite_f hb38 H
  refine Cd.condF rfl hb38 ?_
  refine Cd.skip ?_
  refine At.then ?_
  refine Cd.seq ?_
  refine Cd.region ?_
  refine Lst.run rfl rfl (by decide) (Ev.assign rfl) ?_
  refine Lst.nil ?_
  refine At.then ?_
  obtain rfl := some_inj H
  refine Cd.ret ?_
  exact At.ret1 rfl (Res.tmp rfl) (FLe.trans (FLe.trans (FLe.trans (FLe.trans hF7 hF12) hF17) hF22) hF36) (List.Sublist.cons _ (List.Sublist.refl _)) ⟨rfl, rfl⟩
set_option maxRecDepth 20000 in
theorem wire_in_sim {a0 : Int} {a1 : Int} {a2 : Int} {r : Bool} (H : wire_in a0 a1 a2 = some r) (w0 : World) (F : Frz) (M L : List Item) (hM : M.Sublist L) : Ok Try.prog w0 92 [.int .i64 a0, .int .i64 a1, .int .i64 a2] F (L) (Is (.bool r) (L)) := by
  unfold wire_in at H
  refine Ok.enter (m := 3) (n := 15) Try.func92 rfl rfl rfl (by decide) ?_
  refine Cd.env (e' := [(0, .int .i64 a0), (1, .int .i64 a1), (2, .int .i64 a2)]) rfl ?_
  refine Cd.seq ?_
  refine Cd.region ?_
  refine Lst.run rfl rfl (by decide) (Ev.assign rfl) ?_
  refine Lst.nil ?_
  refine At.then ?_
  refine Cd.seq ?_
  refine Cd.region ?_
  refine Lst.run rfl rfl (by decide) (Ev.move rfl) ?_
  refine Lst.run rfl rfl (by decide) (Ev.move rfl) ?_
  refine Lst.run rfl rfl (by decide) (Ev.geq rfl rfl) ?_
  refine Lst.run rfl rfl (by decide) (Ev.move rfl) ?_
  obtain ⟨o1, H, HKo1⟩ := bind_some H
  refine Lst.join (σ := Bool) 4 (fun y2 => [(14, .bool y2)]) (fun y2 => L) (fun _ y2 => y2 = o1) ?_ ?_
  · rcases (Bool.eq_false_or_eq_true (decide (a0 ≥ a1))).symm with hb3 | hb3
    · replace H := ite_f hb3 H
      refine Lst.skip rfl rfl rfl hb3 rfl (by decide) ?_
      refine Lst.skip rfl rfl rfl hb3 rfl (by decide) ?_
      refine Lst.skip rfl rfl rfl hb3 rfl (by decide) ?_
      refine Lst.run rfl rfl (by decide) (Ev.pickF rfl hb3 rfl) ?_
      refine Lst.nil ?_
      exact At.meet false (FLe.refl _) ⟨rfl, trivial⟩ rfl (some_inj H)
    replace H := ite_t hb3 H
    refine Lst.runG rfl rfl rfl hb3 rfl (by decide) (Ev.move rfl) ?_
    refine Lst.runG rfl rfl rfl hb3 rfl (by decide) (Ev.move rfl) ?_
    refine Lst.runG rfl rfl rfl hb3 rfl (by decide) (Ev.leq rfl rfl) ?_
    refine Lst.run rfl rfl (by decide) (Ev.pickT rfl hb3 rfl) ?_
    refine Lst.nil ?_
    exact At.meet (decide (a0 ≤ a2)) (FLe.refl _) ⟨rfl, trivial⟩ rfl (some_inj H)
  rintro F4 y2 hF5 hy
  subst hy
  refine Lst.as (e' := [(14, .bool y2)]) (L' := L) ⟨rfl, trivial⟩ rfl ?_
  replace H := HKo1
  refine Lst.run rfl rfl (by decide) (Ev.assign rfl) ?_
  refine Lst.nil ?_
  refine At.then ?_
  obtain rfl := some_inj H
  refine Cd.ret ?_
  exact At.ret1 rfl (Res.tmp rfl) hF5 (List.Sublist.refl _) ⟨rfl, rfl⟩
set_option maxRecDepth 20000 in
theorem wire_Check_1_sim {a0 : Int} {r : Bool} (H : wire_Check_1 a0 = some r) (w0 : World) (F : Frz) (M L : List Item) (hM : M.Sublist L) : Ok Try.prog w0 91 [.int .i64 a0] F (L) (Is (.bool r) (L)) := by
  unfold wire_Check_1 at H
  refine Ok.enter (m := 1) (n := 5) Try.func91 rfl rfl rfl (by decide) ?_
  refine Cd.env (e' := [(0, .int .i64 a0)]) rfl ?_
  refine Cd.seq ?_
  refine Cd.region ?_
  refine Lst.run rfl rfl (by decide) (Ev.assign rfl) ?_
  refine Lst.nil ?_
  refine At.then ?_
  refine Cd.seq ?_
  refine Cd.region ?_
  refine Lst.run rfl rfl (by decide) (Ev.move rfl) ?_
  obtain ⟨r1, h2, H⟩ := bind_some H
  refine Lst.call1 rfl rfl (by decide) (vs := [.int .i64 a0, .int .i64 (0 : Int), .int .i64 (16777215 : Int)]) ⟨rfl, rfl, rfl, trivial⟩ Try.call92 (wire_in_sim h2 w0 _ M _ hM) ?_
  refine Lst.run rfl rfl (by decide) (Ev.assign rfl) ?_
  refine Lst.nil ?_
  refine At.then ?_
  obtain rfl := some_inj H
  refine Cd.ret ?_
  exact At.ret1 rfl (Res.tmp rfl) (FLe.refl _) (List.Sublist.refl _) ⟨rfl, rfl⟩
set_option maxRecDepth 20000 in
theorem wire_Check_2_sim {a0 : Int} {b_a1 : Nat} {r : Bool} (H : wire_Check_2 a0 = some r) (w0 : World) (F : Frz) (M L : List Item) (hM : M.Sublist L) : Ok Try.prog w0 94 [.int .i64 a0, .pointer (some ⟨b_a1, 0, none⟩)] F ((.blk b_a1 [.func (.func 91) #[] #[]] 146) :: L) (Is (.bool r) ((.blk b_a1 [.func (.func 91) #[] #[]] 146) :: L)) := by
  unfold wire_Check_2 at H
  refine Ok.enter (m := 2) (n := 8) Try.func94 rfl rfl rfl (by decide) ?_
  refine Cd.env (e' := [(0, .int .i64 a0), (1, .pointer (some ⟨b_a1, 0, none⟩))]) rfl ?_
  refine Cd.seq ?_
  refine Cd.region ?_
  refine Lst.run rfl rfl (by decide) (Ev.assign rfl) ?_
  refine Lst.nil ?_
  refine At.then ?_
  refine Cd.seq ?_
  refine Cd.region ?_
  refine Lst.run rfl rfl (by decide) (Ev.load (i := 0) rfl rfl Try.isAgg146 (v := .func (.func 91) #[] #[]) (Get.here _)) ?_
  refine Lst.run rfl rfl (by decide) (Ev.move rfl) ?_
  obtain ⟨r2, h3, H⟩ := bind_some H
  refine Lst.callV1 rfl rfl (by decide) (vs := [.int .i64 a0]) (cs := []) rfl ⟨rfl, trivial⟩ Try.call91 (wire_Check_1_sim h3 w0 _ M _ (List.Sublist.cons _ hM)) ?_
  refine Lst.run rfl rfl (by decide) (Ev.not rfl) ?_
  refine Lst.run rfl rfl (by decide) (Ev.assign rfl) ?_
  refine Lst.nil ?_
  refine At.then ?_
  obtain rfl := some_inj H
  refine Cd.ret ?_
  exact At.ret1 rfl (Res.tmp rfl) (FLe.refl _) (List.Sublist.cons_cons _ (List.Sublist.refl _)) ⟨rfl, rfl⟩
set_option maxRecDepth 20000 in
theorem slices_IndexFunc_int_int_Check_2_sim {a0 : List Int} {s_a0 : Sl} {b_a1_c0 : Nat} {r : Int} (H : slices_IndexFunc_int_int_Check_2 a0 = some r) (w0 : World) (F : Frz) (M L : List Item) (hM : M.Sublist L) (hs_a0 : Rd w0 F M s_a0 a0) : Ok Try.prog w0 174 [Sl.v s_a0, .func (.func 94) #[] #[.pointer (some ⟨b_a1_c0, 0, none⟩)]] F ((.blk b_a1_c0 [.func (.func 91) #[] #[]] 146) :: L) (Is (.int .i64 r) ((.blk b_a1_c0 [.func (.func 91) #[] #[]] 146) :: L)) := by
  unfold slices_IndexFunc_int_int_Check_2 at H
  refine Ok.enter (m := 2) (n := 19) Try.func174 rfl rfl rfl (by decide) ?_
  refine Cd.env (e' := [(0, Sl.v s_a0), (1, .func (.func 94) #[] #[.pointer (some ⟨b_a1_c0, 0, none⟩)])]) rfl ?_
  refine Cd.seq ?_
  refine Cd.region ?_
  refine Lst.run rfl rfl (by decide) (Ev.assign rfl) ?_
  refine Lst.nil ?_
  refine At.then ?_
  refine Cd.seq ?_
  refine Cd.seq ?_
  refine Cd.region ?_
  refine Lst.run rfl rfl (by decide) (Ev.move rfl) ?_
  refine Lst.run rfl rfl (by decide) (Ev.lenS (α := Int) (xs := a0) (by decide) rfl rfl Try.runUnderlying36 (hs_a0.mono (FLe.refl _) (List.Sublist.cons _ hM))) ?_
  refine Lst.run rfl rfl (by decide) (Ev.move rfl) ?_
  refine Lst.nil ?_
  refine At.then ?_
  refine Cd.block ?_
  refine Cd.bound (Rd.le (α := Int) (xs := a0) (by decide) (hs_a0.mono (FLe.refl _) (List.Sublist.cons _ hM))) (fun hN13 => ?_)
  obtain ⟨ol2, H, HKl2⟩ := andThen_some H
  refine Cd.loop (σ := Nat × Nat × Unit) (fun (i2, k2, _u) => [(0, Sl.v s_a0), (1, .func (.func 94) #[] #[.pointer (some ⟨b_a1_c0, 0, none⟩)]), (7, .int .i64 (a0.length : Int)), (8, .int .i64 (i2 : Int))]) (fun (i2, k2, _u) => (.blk b_a1_c0 [.func (.func 91) #[] #[]] 146) :: L) (fun _ => (fun (i2, k2, _u) => rangeM (slices_IndexFunc_int_int_Check_2_B0 a0) k2 i2 () = some ol2 ∧ i2 + k2 = a0.length)) (fun (i2, k2, _u) => k2) (0, a0.length, ()) ⟨rfl, rfl, rfl, rfl, trivial⟩ rfl ⟨H, by omega⟩ ?_
  rintro F3 ⟨i2, k2, _u⟩ hF4 ⟨H, hik2⟩
  refine Cd.as (e' := [(0, Sl.v s_a0), (1, .func (.func 94) #[] #[.pointer (some ⟨b_a1_c0, 0, none⟩)]), (7, .int .i64 (a0.length : Int)), (8, .int .i64 (i2 : Int))]) (L' := (.blk b_a1_c0 [.func (.func 91) #[] #[]] 146) :: L) ⟨rfl, rfl, rfl, rfl, trivial⟩ rfl ?_
  rcases k2 with _ | k2
  · have hc2 : decide ((i2 : Int) < (a0.length : Int)) = false := decide_eq_false (by omega)
    replace H := rangeM_end H
    refine Cd.seq ?_
    refine Cd.region ?_
    refine Lst.run rfl rfl (by decide) (Ev.lss rfl rfl) ?_
    refine Lst.nil ?_
    refine At.then ?_
    refine Cd.seq ?_
    refine Cd.condF rfl hc2 ?_
    refine Cd.exit ?_
    refine At.then_exit ?_
    refine At.then_exit ?_
    refine At.in_exit ?_
    subst H
    replace H := HKl2
    refine At.then ?_
    refine Cd.seq ?_
    refine Cd.region ?_
    refine Lst.run rfl rfl (by decide) (Ev.assign rfl) ?_
    refine Lst.nil ?_
    refine At.then ?_
    obtain rfl := some_inj H
    refine Cd.ret ?_
    exact At.ret1 rfl (Res.tmp rfl) hF4 (List.Sublist.cons_cons _ (List.Sublist.refl _)) ⟨rfl, rfl⟩
  have hc2 : decide ((i2 : Int) < (a0.length : Int)) = true := decide_eq_true (by omega)
  obtain ⟨c2, H, hgo2, hbrk2, hret2⟩ := rangeM_go H
  unfold slices_IndexFunc_int_int_Check_2_B0 at H
  try dsimp only at H
  refine Cd.seq ?_
  refine Cd.region ?_
  refine Lst.run rfl rfl (by decide) (Ev.lss rfl rfl) ?_
  refine Lst.nil ?_
  refine At.then ?_
  refine Cd.seq ?_
  refine Cd.condT rfl hc2 ?_
  refine Cd.skip ?_
  refine At.then ?_
  refine Cd.seq ?_
  refine Cd.block ?_
  refine Cd.seq ?_
  refine Cd.region ?_
  refine Lst.run rfl rfl (by decide) (Ev.move rfl) ?_
  refine Lst.run rfl rfl (by decide) (Ev.assign rfl) ?_
  refine Lst.nil ?_
  refine At.then ?_
  refine Cd.seq ?_
  refine Cd.region ?_
  refine Lst.run rfl rfl (by decide) (Ev.move rfl) ?_
  refine Lst.run rfl rfl (by decide) (Ev.move rfl) ?_
  refine Lst.run rfl rfl (by decide) (Ev.move rfl) ?_
  obtain ⟨x5, h6, H⟩ := bind_some H
  have g7 := lat_some h6
  refine Lst.run rfl rfl (by decide) (Ev.indexS (α := Int) (xs := a0) rfl rfl Try.runUnderlying36 Try.sizeOf3 rfl (by decide) (hs_a0.mono hF4 (List.Sublist.cons _ hM)) g7.1 g7.2.1) ?_
  refine Lst.run rfl rfl (by decide) (Ev.loadS (α := Int) rfl (hs_a0.mono hF4 (List.Sublist.cons _ hM)) Try.isAgg3 (v := .int .i64 x5) ((Get.elemN (s := 1) (x := x5) rfl g7.2.2 (Get.here _)).off (by omega))) ?_
  obtain ⟨r8, h9, H⟩ := bind_some H
  refine Lst.callV1 rfl rfl (by decide) (vs := [.int .i64 x5]) (cs := [.pointer (some ⟨b_a1_c0, 0, none⟩)]) rfl ⟨rfl, trivial⟩ Try.call94 (wire_Check_2_sim h9 w0 _ M _ hM) ?_
  refine Lst.nil ?_
  refine At.then ?_
  rcases Bool.eq_false_or_eq_true r8 with hb12 | hb12
  · replace H := ite_t hb12 H
    refine Cd.condT rfl hb12 ?_
    refine Cd.seq ?_
    refine Cd.region ?_
    refine Lst.run rfl rfl (by decide) (Ev.move rfl) ?_
    refine Lst.run rfl rfl (by decide) (Ev.assign rfl) ?_
    refine Lst.nil ?_
    refine At.then ?_
    have H := hret2 _ (some_inj H).symm
    subst H
    replace H := HKl2
    obtain rfl := some_inj H
    refine Cd.ret ?_
    refine At.in_ret ?_
    refine At.then_ret ?_
    refine At.then_ret ?_
    refine At.in_ret ?_
    refine At.then_ret ?_
    exact At.ret1 rfl (Res.tmp rfl) hF4 (List.Sublist.cons_cons _ (List.Sublist.refl _)) ⟨rfl, rfl⟩
  replace H := ite_f hb12 H
  refine Cd.condF rfl hb12 ?_
  refine Cd.skip ?_
  refine At.in_normal ?_
  refine At.then ?_
  refine Cd.region ?_
  refine Lst.run rfl rfl (by decide) (Ev.incr (by omega) rfl rfl) ?_
  refine Lst.run rfl rfl (by decide) (Ev.move rfl) ?_
  refine Lst.nil ?_
  exact At.meet (i2 + 1, k2, ()) hF4 ⟨rfl, rfl, rfl, rfl, trivial⟩ rfl ⟨⟨hgo2 _ (some_inj H).symm, by omega⟩, Nat.lt_succ_self _⟩
set_option maxRecDepth 20000 in
theorem slices_ContainsFunc_int_int_Check_2_sim {a0 : List Int} {s_a0 : Sl} {b_a1_c0 : Nat} {r : Bool} (H : slices_ContainsFunc_int_int_Check_2 a0 = some r) (w0 : World) (F : Frz) (M L : List Item) (hM : M.Sublist L) (hs_a0 : Rd w0 F M s_a0 a0) : Ok Try.prog w0 93 [Sl.v s_a0, .func (.func 94) #[] #[.pointer (some ⟨b_a1_c0, 0, none⟩)]] F ((.blk b_a1_c0 [.func (.func 91) #[] #[]] 146) :: L) (Is (.bool r) ((.blk b_a1_c0 [.func (.func 91) #[] #[]] 146) :: L)) := by
  unfold slices_ContainsFunc_int_int_Check_2 at H
  refine Ok.enter (m := 2) (n := 9) Try.func93 rfl rfl rfl (by decide) ?_
  refine Cd.env (e' := [(0, Sl.v s_a0), (1, .func (.func 94) #[] #[.pointer (some ⟨b_a1_c0, 0, none⟩)])]) rfl ?_
  refine Cd.seq ?_
  refine Cd.region ?_
  refine Lst.run rfl rfl (by decide) (Ev.assign rfl) ?_
  refine Lst.nil ?_
  refine At.then ?_
  refine Cd.seq ?_
  refine Cd.region ?_
  refine Lst.run rfl rfl (by decide) (Ev.move rfl) ?_
  refine Lst.run rfl rfl (by decide) (Ev.move rfl) ?_
  obtain ⟨r2, h3, H⟩ := bind_some H
  refine Lst.call1 rfl rfl (by decide) (vs := [Sl.v s_a0, .func (.func 94) #[] #[.pointer (some ⟨b_a1_c0, 0, none⟩)]]) ⟨rfl, rfl, trivial⟩ Try.call174 (slices_IndexFunc_int_int_Check_2_sim h3 w0 _ M _ hM (hs_a0.mono (FLe.refl _) (List.Sublist.refl _))) ?_
  refine Lst.run rfl rfl (by decide) (Ev.geq rfl rfl) ?_
  refine Lst.run rfl rfl (by decide) (Ev.assign rfl) ?_
  refine Lst.nil ?_
  refine At.then ?_
  obtain rfl := some_inj H
  refine Cd.ret ?_
  exact At.ret1 rfl (Res.tmp rfl) (FLe.refl _) (List.Sublist.cons_cons _ (List.Sublist.refl _)) ⟨rfl, rfl⟩
set_option maxRecDepth 20000 in
theorem wire_Check_sim {a0 : Note} {r : Int} (H : wire_Check a0 = some r) (w0 : World) (F : Frz) (M L : List Item) (hM : M.Sublist L) : Ok Try.prog w0 19 [.agg (enc a0).toArray] F (L) (Is (.int .i64 r) (L)) := by
  unfold wire_Check at H
  refine Ok.enter (m := 1) (n := 45) Try.func19 rfl rfl rfl (by decide) ?_
  refine Cd.env (e' := [(0, .agg (enc a0).toArray)]) rfl ?_
  refine Cd.seq ?_
  refine Cd.region ?_
  refine Lst.box rfl rfl (by decide) rfl (cs := enc a0) rfl (fun b1 => ?_)
  refine Lst.run rfl rfl (by decide) (Ev.assign rfl) ?_
  refine Lst.nil ?_
  refine At.then ?_
  refine Cd.seq ?_
  refine Cd.region ?_
  refine Lst.alloc (cs := [.nilFunc]) rfl rfl (by decide) Try.zeroValue146 rfl (fun b3 => ?_)
  refine Lst.store (i := 0) rfl rfl rfl rfl rfl Try.sizeOf146 (vs := [.func (.func 91) #[] #[]]) rfl rfl rfl (cs' := [.func (.func 91) #[] #[]]) (Put.here (vs := [.func (.func 91) #[] #[]]) rfl) (L' := (.blk b3 [.func (.func 91) #[] #[]] 146) :: (.blk b1 (enc a0) 25) :: L) rfl ?_
  refine Lst.nil ?_
  refine At.then ?_
  refine Cd.seq ?_
  refine Cd.block ?_
  refine Cd.seq ?_
  refine Cd.region ?_
  refine Lst.run rfl rfl (by decide) (Ev.fieldAddr (off' := 0) rfl Try.runUnderlying25 rfl Try.sizeOf3 rfl rfl) ?_
  refine Lst.run rfl rfl (by decide) (Ev.load (i := 1) rfl rfl Try.isAgg3 (v := .int .i64 a0.Kind) ((Note.get_Kind (Get.here _)).off (by rfl))) ?_
  obtain ⟨r5, h6, H⟩ := bind_some H
  refine Lst.call1 rfl rfl (by decide) (vs := [.int .i64 a0.Kind, .int .i64 (0 : Int), .int .i64 (255 : Int)]) ⟨rfl, rfl, rfl, trivial⟩ Try.call92 (wire_in_sim h6 w0 _ M _ (List.Sublist.cons _ (List.Sublist.cons _ hM))) ?_
  refine Lst.run rfl rfl (by decide) (Ev.not rfl) ?_
  refine Lst.run rfl rfl (by decide) (Ev.move rfl) ?_
  obtain ⟨o9, H, HKo9⟩ := bind_some H
  refine Lst.join (σ := Bool) 5 (fun y10 => [(1, .pointer (some ⟨b1, 0, none⟩)), (3, .pointer (some ⟨b3, 0, none⟩)), (14, .bool y10)]) (fun y10 => (.blk b3 [.func (.func 91) #[] #[]] 146) :: (.blk b1 (enc a0) 25) :: L) (fun _ y10 => y10 = o9) ?_ ?_
  · rcases Bool.eq_false_or_eq_true (!r5) with hb11 | hb11
    · replace H := ite_t hb11 H
      refine Lst.skip rfl rfl rfl hb11 rfl (by decide) ?_
      refine Lst.skip rfl rfl rfl hb11 rfl (by decide) ?_
      refine Lst.skip rfl rfl rfl hb11 rfl (by decide) ?_
      refine Lst.skip rfl rfl rfl hb11 rfl (by decide) ?_
      refine Lst.run rfl rfl (by decide) (Ev.pickT rfl hb11 rfl) ?_
      refine Lst.nil ?_
      exact At.meet true (FLe.refl _) ⟨rfl, rfl, rfl, trivial⟩ rfl (some_inj H)
    replace H := ite_f hb11 H
    refine Lst.runG rfl rfl rfl hb11 rfl (by decide) (Ev.fieldAddr (off' := 1) rfl Try.runUnderlying25 rfl Try.sizeOf3 rfl rfl) ?_
    refine Lst.runG rfl rfl rfl hb11 rfl (by decide) (Ev.load (i := 1) rfl rfl Try.isAgg3 (v := .int .i64 a0.From) ((Note.get_From (Get.here _)).off (by rfl))) ?_
    obtain ⟨r12, h13, H⟩ := bind_some H
    refine Lst.call1G rfl rfl rfl hb11 rfl (by decide) (vs := [.int .i64 a0.From, .int .i64 (0 : Int), .int .i64 (5 : Int)]) ⟨rfl, rfl, rfl, trivial⟩ Try.call92 (wire_in_sim h13 w0 _ M _ (List.Sublist.cons _ (List.Sublist.cons _ hM))) ?_
    refine Lst.runG rfl rfl rfl hb11 rfl (by decide) (Ev.not rfl) ?_
    refine Lst.run rfl rfl (by decide) (Ev.pickF rfl hb11 rfl) ?_
    refine Lst.nil ?_
    exact At.meet (!r12) (FLe.refl _) ⟨rfl, rfl, rfl, trivial⟩ rfl (some_inj H)
  rintro F16 y10 hF17 hy
  subst hy
  refine Lst.as (e' := [(1, .pointer (some ⟨b1, 0, none⟩)), (3, .pointer (some ⟨b3, 0, none⟩)), (14, .bool y10)]) (L' := (.blk b3 [.func (.func 91) #[] #[]] 146) :: (.blk b1 (enc a0) 25) :: L) ⟨rfl, rfl, rfl, trivial⟩ rfl ?_
  replace H := HKo9
  refine Lst.run rfl rfl (by decide) (Ev.move rfl) ?_
  obtain ⟨o18, H, HKo18⟩ := bind_some H
  refine Lst.join (σ := Bool) 5 (fun y19 => [(1, .pointer (some ⟨b1, 0, none⟩)), (3, .pointer (some ⟨b3, 0, none⟩)), (20, .bool y19)]) (fun y19 => (.blk b3 [.func (.func 91) #[] #[]] 146) :: (.blk b1 (enc a0) 25) :: L) (fun _ y19 => y19 = o18) ?_ ?_
  · rcases Bool.eq_false_or_eq_true y10 with hb20 | hb20
    · replace H := ite_t hb20 H
      refine Lst.skip rfl rfl rfl hb20 rfl (by decide) ?_
      refine Lst.skip rfl rfl rfl hb20 rfl (by decide) ?_
      refine Lst.skip rfl rfl rfl hb20 rfl (by decide) ?_
      refine Lst.skip rfl rfl rfl hb20 rfl (by decide) ?_
      refine Lst.run rfl rfl (by decide) (Ev.pickT rfl hb20 rfl) ?_
      refine Lst.nil ?_
      exact At.meet true (FLe.refl _) ⟨rfl, rfl, rfl, trivial⟩ rfl (some_inj H)
    replace H := ite_f hb20 H
    refine Lst.runG rfl rfl rfl hb20 rfl (by decide) (Ev.fieldAddr (off' := 2) rfl Try.runUnderlying25 rfl Try.sizeOf3 rfl rfl) ?_
    refine Lst.runG rfl rfl rfl hb20 rfl (by decide) (Ev.load (i := 1) rfl rfl Try.isAgg3 (v := .int .i64 a0.To) ((Note.get_To (Get.here _)).off (by rfl))) ?_
    obtain ⟨r21, h22, H⟩ := bind_some H
    refine Lst.call1G rfl rfl rfl hb20 rfl (by decide) (vs := [.int .i64 a0.To, .int .i64 (0 : Int), .int .i64 (5 : Int)]) ⟨rfl, rfl, rfl, trivial⟩ Try.call92 (wire_in_sim h22 w0 _ M _ (List.Sublist.cons _ (List.Sublist.cons _ hM))) ?_
    refine Lst.runG rfl rfl rfl hb20 rfl (by decide) (Ev.not rfl) ?_
    refine Lst.run rfl rfl (by decide) (Ev.pickF rfl hb20 rfl) ?_
    refine Lst.nil ?_
    exact At.meet (!r21) (FLe.refl _) ⟨rfl, rfl, rfl, trivial⟩ rfl (some_inj H)
  rintro F25 y19 hF26 hy
  subst hy
  refine Lst.as (e' := [(1, .pointer (some ⟨b1, 0, none⟩)), (3, .pointer (some ⟨b3, 0, none⟩)), (20, .bool y19)]) (L' := (.blk b3 [.func (.func 91) #[] #[]] 146) :: (.blk b1 (enc a0) 25) :: L) ⟨rfl, rfl, rfl, trivial⟩ rfl ?_
  replace H := HKo18
  refine Lst.run rfl rfl (by decide) (Ev.move rfl) ?_
  obtain ⟨o27, H, HKo27⟩ := bind_some H
  refine Lst.join (σ := Bool) 6 (fun y28 => [(1, .pointer (some ⟨b1, 0, none⟩)), (3, .pointer (some ⟨b3, 0, none⟩)), (27, .bool y28)]) (fun y28 => (.blk b3 [.func (.func 91) #[] #[]] 146) :: (.blk b1 (enc a0) 25) :: L) (fun _ y28 => y28 = o27) ?_ ?_
  · rcases Bool.eq_false_or_eq_true y19 with hb29 | hb29
    · replace H := ite_t hb29 H
      refine Lst.skip rfl rfl rfl hb29 rfl (by decide) ?_
      refine Lst.skip rfl rfl rfl hb29 rfl (by decide) ?_
      refine Lst.skip rfl rfl rfl hb29 rfl (by decide) ?_
      refine Lst.skip rfl rfl rfl hb29 rfl (by decide) ?_
      refine Lst.skip rfl rfl rfl hb29 rfl (by decide) ?_
      refine Lst.run rfl rfl (by decide) (Ev.pickT rfl hb29 rfl) ?_
      refine Lst.nil ?_
      exact At.meet true (FLe.refl _) ⟨rfl, rfl, rfl, trivial⟩ rfl (some_inj H)
    replace H := ite_f hb29 H
    refine Lst.runG rfl rfl rfl hb29 rfl (by decide) (Ev.load (i := 0) rfl rfl Try.isAgg146 (v := .func (.func 91) #[] #[]) (Get.here _)) ?_
    refine Lst.runG rfl rfl rfl hb29 rfl (by decide) (Ev.fieldAddr (off' := 3) rfl Try.runUnderlying25 rfl Try.sizeOf3 rfl rfl) ?_
    refine Lst.runG rfl rfl rfl hb29 rfl (by decide) (Ev.load (i := 1) rfl rfl Try.isAgg3 (v := .int .i64 a0.View) ((Note.get_View (Get.here _)).off (by rfl))) ?_
    obtain ⟨r30, h31, H⟩ := bind_some H
    refine Lst.callV1G rfl rfl rfl hb29 rfl (by decide) (vs := [.int .i64 a0.View]) (cs := []) rfl ⟨rfl, trivial⟩ Try.call91 (wire_Check_1_sim h31 w0 _ M _ (List.Sublist.cons _ (List.Sublist.cons _ hM))) ?_
    refine Lst.runG rfl rfl rfl hb29 rfl (by decide) (Ev.not rfl) ?_
    refine Lst.run rfl rfl (by decide) (Ev.pickF rfl hb29 rfl) ?_
    refine Lst.nil ?_
    exact At.meet (!r30) (FLe.refl _) ⟨rfl, rfl, rfl, trivial⟩ rfl (some_inj H)
  rintro F34 y28 hF35 hy
  subst hy
  refine Lst.as (e' := [(1, .pointer (some ⟨b1, 0, none⟩)), (3, .pointer (some ⟨b3, 0, none⟩)), (27, .bool y28)]) (L' := (.blk b3 [.func (.func 91) #[] #[]] 146) :: (.blk b1 (enc a0) 25) :: L) ⟨rfl, rfl, rfl, trivial⟩ rfl ?_
  replace H := HKo27
  refine Lst.run rfl rfl (by decide) (Ev.move rfl) ?_
  obtain ⟨o36, H, HKo36⟩ := bind_some H
  refine Lst.join (σ := Bool) 6 (fun y37 => [(1, .pointer (some ⟨b1, 0, none⟩)), (3, .pointer (some ⟨b3, 0, none⟩)), (34, .bool y37)]) (fun y37 => (.blk b3 [.func (.func 91) #[] #[]] 146) :: (.blk b1 (enc a0) 25) :: L) (fun _ y37 => y37 = o36) ?_ ?_
  · rcases Bool.eq_false_or_eq_true y28 with hb38 | hb38
    · replace H := ite_t hb38 H
      refine Lst.skip rfl rfl rfl hb38 rfl (by decide) ?_
      refine Lst.skip rfl rfl rfl hb38 rfl (by decide) ?_
      refine Lst.skip rfl rfl rfl hb38 rfl (by decide) ?_
      refine Lst.skip rfl rfl rfl hb38 rfl (by decide) ?_
      refine Lst.skip rfl rfl rfl hb38 rfl (by decide) ?_
      refine Lst.run rfl rfl (by decide) (Ev.pickT rfl hb38 rfl) ?_
      refine Lst.nil ?_
      exact At.meet true (FLe.refl _) ⟨rfl, rfl, rfl, trivial⟩ rfl (some_inj H)
    replace H := ite_f hb38 H
    refine Lst.runG rfl rfl rfl hb38 rfl (by decide) (Ev.load (i := 0) rfl rfl Try.isAgg146 (v := .func (.func 91) #[] #[]) (Get.here _)) ?_
    refine Lst.runG rfl rfl rfl hb38 rfl (by decide) (Ev.fieldAddr (off' := 4) rfl Try.runUnderlying25 rfl Try.sizeOf3 rfl rfl) ?_
    refine Lst.runG rfl rfl rfl hb38 rfl (by decide) (Ev.load (i := 1) rfl rfl Try.isAgg3 (v := .int .i64 a0.Seq) ((Note.get_Seq (Get.here _)).off (by rfl))) ?_
    obtain ⟨r39, h40, H⟩ := bind_some H
    refine Lst.callV1G rfl rfl rfl hb38 rfl (by decide) (vs := [.int .i64 a0.Seq]) (cs := []) rfl ⟨rfl, trivial⟩ Try.call91 (wire_Check_1_sim h40 w0 _ M _ (List.Sublist.cons _ (List.Sublist.cons _ hM))) ?_
    refine Lst.runG rfl rfl rfl hb38 rfl (by decide) (Ev.not rfl) ?_
    refine Lst.run rfl rfl (by decide) (Ev.pickF rfl hb38 rfl) ?_
    refine Lst.nil ?_
    exact At.meet (!r39) (FLe.refl _) ⟨rfl, rfl, rfl, trivial⟩ rfl (some_inj H)
  rintro F43 y37 hF44 hy
  subst hy
  refine Lst.as (e' := [(1, .pointer (some ⟨b1, 0, none⟩)), (3, .pointer (some ⟨b3, 0, none⟩)), (34, .bool y37)]) (L' := (.blk b3 [.func (.func 91) #[] #[]] 146) :: (.blk b1 (enc a0) 25) :: L) ⟨rfl, rfl, rfl, trivial⟩ rfl ?_
  replace H := HKo36
  refine Lst.run rfl rfl (by decide) (Ev.assign rfl) ?_
  refine Lst.nil ?_
  refine At.then ?_
  rcases Bool.eq_false_or_eq_true y37 with hb45 | hb45
  · replace H := ite_t hb45 H
    refine Cd.condT rfl hb45 ?_
    refine Cd.seq ?_
    refine Cd.region ?_
    refine Lst.run rfl rfl (by decide) (Ev.assign rfl) ?_
    refine Lst.nil ?_
    refine At.then ?_
    obtain rfl := some_inj H
    refine Cd.ret ?_
    refine At.in_ret ?_
    refine At.then_ret ?_
    exact At.ret1 rfl (Res.tmp rfl) (FLe.trans (FLe.trans (FLe.trans hF17 hF26) hF35) hF44) (List.Sublist.cons _ (List.Sublist.cons _ (List.Sublist.refl _))) ⟨rfl, rfl⟩
  replace H := ite_f hb45 H
  refine Cd.condF rfl hb45 ?_
  refine Cd.seq ?_
  refine Cd.region ?_
  refine Lst.run rfl rfl (by decide) (Ev.fieldAddr (off' := 5) rfl Try.runUnderlying25 rfl Try.sizeOf23 rfl rfl) ?_
  refine Lst.run rfl rfl (by decide) (Ev.sliceAll rfl Try.runUnderlying23 Try.sizeOf3) ?_
  refine Lst.run rfl rfl (by decide) (Ev.makeFunc (us := []) (vs := [.pointer (some ⟨b3, 0, none⟩)]) trivial ⟨rfl, trivial⟩) ?_
  obtain ⟨r46, h47, H⟩ := bind_some H
  refine Lst.call1 rfl rfl (by decide) (vs := [Sl.v (Sl.mk (some ⟨b1, 5, none⟩) 6 6), .func (.func 94) #[] #[.pointer (some ⟨b3, 0, none⟩)]]) ⟨rfl, rfl, trivial⟩ Try.call93 (slices_ContainsFunc_int_int_Check_2_sim h47 w0 _ _ _ (List.Sublist.refl _) (Rd.blk (i := 0) (xs := a0.At.toList) rfl ((Note.get_At (Get.here _)).off (by rfl)) (by simp) (by decide))) ?_
  refine Lst.run rfl rfl (by decide) (Ev.assign rfl) ?_
  refine Lst.nil ?_
  refine At.then ?_
  rcases Bool.eq_false_or_eq_true r46 with hb50 | hb50
  · replace H := ite_t hb50 H
    refine Cd.condT rfl hb50 ?_
    refine Cd.seq ?_
    refine Cd.region ?_
    refine Lst.run rfl rfl (by decide) (Ev.assign rfl) ?_
    refine Lst.nil ?_
    refine At.then ?_
    obtain rfl := some_inj H
    refine Cd.ret ?_
    refine At.in_ret ?_
    refine At.then_ret ?_
    exact At.ret1 rfl (Res.tmp rfl) (FLe.trans (FLe.trans (FLe.trans hF17 hF26) hF35) hF44) (List.Sublist.cons _ (List.Sublist.cons _ (List.Sublist.refl _))) ⟨rfl, rfl⟩
  replace H := ite_f hb50 H
  refine Cd.condF rfl hb50 ?_
  refine Cd.seq ?_
  refine Cd.region ?_
  refine Lst.run rfl rfl (by decide) (Ev.fieldAddr (off' := 11) rfl Try.runUnderlying25 rfl Try.sizeOf9 rfl rfl) ?_
  refine Lst.run rfl rfl (by decide) (Ev.load (i := 1) rfl rfl Try.isAgg9 (v := Str.v a0.Text) ((Note.get_Text (Get.here _)).off (by rfl))) ?_
  refine Lst.run rfl rfl (by decide) (Ev.lenStr rfl rfl Try.runUnderlying9) ?_
  refine Lst.run rfl rfl (by decide) (Ev.gtr rfl rfl) ?_
  refine Lst.run rfl rfl (by decide) (Ev.assign rfl) ?_
  refine Lst.nil ?_
  refine At.then ?_
  rcases Bool.eq_false_or_eq_true (decide ((a0.Text.length : Int) > (200 : Int))) with hb51 | hb51
  · replace H := ite_t hb51 H
    refine Cd.condT rfl hb51 ?_
    refine Cd.seq ?_
    refine Cd.region ?_
    refine Lst.run rfl rfl (by decide) (Ev.assign rfl) ?_
    refine Lst.nil ?_
    refine At.then ?_
    obtain rfl := some_inj H
    refine Cd.ret ?_
    refine At.in_ret ?_
    refine At.then_ret ?_
    exact At.ret1 rfl (Res.tmp rfl) (FLe.trans (FLe.trans (FLe.trans hF17 hF26) hF35) hF44) (List.Sublist.cons _ (List.Sublist.cons _ (List.Sublist.refl _))) ⟨rfl, rfl⟩
  replace H := ite_f hb51 H
  refine Cd.condF rfl hb51 ?_
  refine Cd.skip ?_
  refine At.in_normal ?_
  refine At.then ?_
  refine Cd.seq ?_
  refine Cd.region ?_
  refine Lst.run rfl rfl (by decide) (Ev.assign rfl) ?_
  refine Lst.nil ?_
  refine At.then ?_
  obtain rfl := some_inj H
  refine Cd.ret ?_
  exact At.ret1 rfl (Res.tmp rfl) (FLe.trans (FLe.trans (FLe.trans hF17 hF26) hF35) hF44) (List.Sublist.cons _ (List.Sublist.cons _ (List.Sublist.refl _))) ⟨rfl, rfl⟩
set_option maxRecDepth 20000 in
theorem wire_three_sim {a0 : Int} {r : (List (BitVec 8))} (H : wire_three a0 = some r) (w0 : World) (F : Frz) (M L : List Item) (hM : M.Sublist L) : Ok Try.prog w0 87 [.int .i64 a0] F (L) (fun _ L' v => ∃ (s4 : Sl), v = Sl.v s4 ∧ L' = (.own s4 5 1 (encs r)) :: L) := by
  unfold wire_three at H
  refine Ok.enter (m := 1) (n := 12) Try.func87 rfl rfl rfl (by decide) ?_
  refine Cd.env (e' := [(0, .int .i64 a0)]) rfl ?_
  refine Cd.seq ?_
  refine Cd.region ?_
  refine Lst.addNil 5 1 ?_
  refine Lst.run rfl rfl (by decide) (Ev.assign rfl) ?_
  refine Lst.nil ?_
  refine At.then ?_
  refine Cd.seq ?_
  refine Cd.region ?_
  refine Lst.run rfl rfl (by decide) (Ev.move rfl) ?_
  refine Lst.run rfl rfl (by decide) (Ev.convTo8 rfl Try.runUnderlying3 Try.runUnderlying5) ?_
  refine Lst.run rfl rfl (by decide) (Ev.move rfl) ?_
  refine Lst.run rfl rfl (by decide) (Ev.shr64 (i := a0) (m := 8) rfl rfl) ?_
  refine Lst.run rfl rfl (by decide) (Ev.convTo8 rfl Try.runUnderlying3 Try.runUnderlying5) ?_
  refine Lst.run rfl rfl (by decide) (Ev.move rfl) ?_
  refine Lst.run rfl rfl (by decide) (Ev.shr64 (i := a0) (m := 16) rfl rfl) ?_
  refine Lst.run rfl rfl (by decide) (Ev.convTo8 rfl Try.runUnderlying3 Try.runUnderlying5) ?_
  refine Lst.buildSlice (α := BitVec 8) (xs := ([BitVec.ofInt 8 a0, BitVec.ofInt 8 (a0.fdiv (2 ^ (min 8 64)) : Int), BitVec.ofInt 8 (a0.fdiv (2 ^ (min 16 64)) : Int)] : List (BitVec 8))) (pv := [(0, .int .u8 (BitVec.ofInt 8 a0).toNat), (1, .int .u8 (BitVec.ofInt 8 (a0.fdiv (2 ^ (min 8 64)) : Int)).toNat), (2, .int .u8 (BitVec.ofInt 8 (a0.fdiv (2 ^ (min 16 64)) : Int)).toNat)]) rfl rfl (by decide) ⟨rfl, rfl, ⟨rfl, rfl, ⟨rfl, rfl, trivial⟩⟩⟩ (run_buildSlice (α := BitVec 8) (z0 := (0 : BitVec 8)) (xs := ([BitVec.ofInt 8 a0, BitVec.ofInt 8 (a0.fdiv (2 ^ (min 8 64)) : Int), BitVec.ofInt 8 (a0.fdiv (2 ^ (min 16 64)) : Int)] : List (BitVec 8))) Try.runUnderlying139 Try.sizeOf5 Try.zeroValue5 rfl rfl rfl (by decide) rfl (fill_cons (cs := encs (List.replicate 3 (0 : BitVec 8))) (cs' := encs ((List.replicate 3 (0 : BitVec 8)).set 0 (BitVec.ofInt 8 a0))) (vs := [.int .u8 (BitVec.ofInt 8 a0).toNat]) rfl rfl rfl ((Put.elemN (s := 1) (i := 0) (x := (0 : BitVec 8)) (y := (BitVec.ofInt 8 a0)) rfl rfl (Put.here (vs := [.int .u8 (BitVec.ofInt 8 a0).toNat]) rfl)).off rfl) (fill_cons (cs := encs ((List.replicate 3 (0 : BitVec 8)).set 0 (BitVec.ofInt 8 a0))) (cs' := encs (((List.replicate 3 (0 : BitVec 8)).set 0 (BitVec.ofInt 8 a0)).set 1 (BitVec.ofInt 8 (a0.fdiv (2 ^ (min 8 64)) : Int)))) (vs := [.int .u8 (BitVec.ofInt 8 (a0.fdiv (2 ^ (min 8 64)) : Int)).toNat]) rfl rfl rfl ((Put.elemN (s := 1) (i := 1) (x := (0 : BitVec 8)) (y := (BitVec.ofInt 8 (a0.fdiv (2 ^ (min 8 64)) : Int))) rfl rfl (Put.here (vs := [.int .u8 (BitVec.ofInt 8 (a0.fdiv (2 ^ (min 8 64)) : Int)).toNat]) rfl)).off rfl) (fill_cons (cs := encs (((List.replicate 3 (0 : BitVec 8)).set 0 (BitVec.ofInt 8 a0)).set 1 (BitVec.ofInt 8 (a0.fdiv (2 ^ (min 8 64)) : Int)))) (cs' := encs ((((List.replicate 3 (0 : BitVec 8)).set 0 (BitVec.ofInt 8 a0)).set 1 (BitVec.ofInt 8 (a0.fdiv (2 ^ (min 8 64)) : Int))).set 2 (BitVec.ofInt 8 (a0.fdiv (2 ^ (min 16 64)) : Int)))) (vs := [.int .u8 (BitVec.ofInt 8 (a0.fdiv (2 ^ (min 16 64)) : Int)).toNat]) rfl rfl rfl ((Put.elemN (s := 1) (i := 2) (x := (0 : BitVec 8)) (y := (BitVec.ofInt 8 (a0.fdiv (2 ^ (min 16 64)) : Int))) rfl rfl (Put.here (vs := [.int .u8 (BitVec.ofInt 8 (a0.fdiv (2 ^ (min 16 64)) : Int)).toNat]) rfl)).off rfl) fill_nil)))) rfl rfl (by decide) (fun s2 _ => ?_)
  refine Lst.run rfl rfl (by decide) (Ev.assign rfl) ?_
  refine Lst.nil ?_
  refine At.then ?_
  obtain rfl := some_inj H
  refine Cd.ret ?_
  exact At.ret1 rfl (Res.tmp rfl) (FLe.refl _) (List.Sublist.cons_cons _ (List.Sublist.cons _ (List.Sublist.refl _))) ⟨s2, rfl, rfl⟩
set_option maxRecDepth 20000 in
theorem wire_Sum_sim {a0 : Str} {r : (BitVec 32)} (H : wire_Sum a0 = some r) (w0 : World) (F : Frz) (M L : List Item) (hM : M.Sublist L) : Ok Try.prog w0 17 [Str.v a0] F (L) (Is (.int .u32 r.toNat) (L)) := by
  unfold wire_Sum at H
  refine Ok.enter (m := 1) (n := 31) Try.func17 rfl rfl rfl (by decide) ?_
  refine Cd.env (e' := [(0, Str.v a0)]) rfl ?_
  refine Cd.seq ?_
  refine Cd.region ?_
  refine Lst.run rfl rfl (by decide) (Ev.assign rfl) ?_
  refine Lst.nil ?_
  refine At.then ?_
  refine Cd.seq ?_
  refine Cd.region ?_
  refine Lst.run rfl rfl (by decide) (Ev.assign rfl) ?_
  refine Lst.nil ?_
  refine At.then ?_
  refine Cd.seq ?_
  refine Cd.seq ?_
  refine Cd.region ?_
  refine Lst.run rfl rfl (by decide) (Ev.move rfl) ?_
  refine Lst.run rfl rfl (by decide) (Ev.lenStr rfl rfl Try.runUnderlying9) ?_
  refine Lst.run rfl rfl (by decide) (Ev.move rfl) ?_
  refine Lst.nil ?_
  refine At.then ?_
  refine Cd.block ?_
  obtain ⟨nn5, hN13, H⟩ := bind_some H
  replace hN13 := upTo_some hN13
  obtain ⟨ol1, H, HKl1⟩ := bind_some H
  refine Cd.loop (σ := Nat × Nat × (BitVec 32)) (fun (i1, k1, y2) => [(0, Str.v a0), (3, .int .u32 y2.toNat), (7, .int .i64 (a0.length : Int)), (8, .int .i64 (i1 : Int))]) (fun (i1, k1, y2) => L) (fun _ => (fun (i1, k1, y2) => rangeF (wire_Sum_B0 a0) k1 i1 y2 = some ol1 ∧ i1 + k1 = nn5)) (fun (i1, k1, y2) => k1) (0, nn5, (4294967295 : BitVec 32)) ⟨rfl, rfl, rfl, rfl, trivial⟩ rfl ⟨H, by omega⟩ ?_
  rintro F3 ⟨i1, k1, y2⟩ hF4 ⟨H, hik1⟩
  refine Cd.as (e' := [(0, Str.v a0), (3, .int .u32 y2.toNat), (7, .int .i64 (a0.length : Int)), (8, .int .i64 (i1 : Int))]) (L' := L) ⟨rfl, rfl, rfl, rfl, trivial⟩ rfl ?_
  rcases k1 with _ | k1
  · have hc1 : decide ((i1 : Int) < (a0.length : Int)) = false := decide_eq_false (by omega)
    replace H := rangeF_end H
    refine Cd.seq ?_
    refine Cd.region ?_
    refine Lst.run rfl rfl (by decide) (Ev.lss rfl rfl) ?_
    refine Lst.nil ?_
    refine At.then ?_
    refine Cd.seq ?_
    refine Cd.condF rfl hc1 ?_
    refine Cd.exit ?_
    refine At.then_exit ?_
    refine At.then_exit ?_
    refine At.in_exit ?_
    subst H
    replace H := HKl1
    refine At.then ?_
    refine Cd.seq ?_
    refine Cd.region ?_
    refine Lst.run rfl rfl (by decide) (Ev.move rfl) ?_
    refine Lst.run rfl rfl (by decide) (Ev.complU32 (i := y2) rfl) ?_
    refine Lst.run rfl rfl (by decide) (Ev.assign rfl) ?_
    refine Lst.nil ?_
    refine At.then ?_
    obtain rfl := some_inj H
    refine Cd.ret ?_
    exact At.ret1 rfl (Res.tmp rfl) hF4 (List.Sublist.refl _) ⟨rfl, rfl⟩
  have hc1 : decide ((i1 : Int) < (a0.length : Int)) = true := decide_eq_true (by omega)
  obtain ⟨c1, H, hgo1⟩ := rangeF_go H
  unfold wire_Sum_B0 at H
  try dsimp only at H
  refine Cd.seq ?_
  refine Cd.region ?_
  refine Lst.run rfl rfl (by decide) (Ev.lss rfl rfl) ?_
  refine Lst.nil ?_
  refine At.then ?_
  refine Cd.seq ?_
  refine Cd.condT rfl hc1 ?_
  refine Cd.skip ?_
  refine At.then ?_
  refine Cd.seq ?_
  refine Cd.block ?_
  refine Cd.seq ?_
  refine Cd.region ?_
  refine Lst.run rfl rfl (by decide) (Ev.move rfl) ?_
  refine Lst.run rfl rfl (by decide) (Ev.assign rfl) ?_
  refine Lst.nil ?_
  refine At.then ?_
  refine Cd.seq ?_
  refine Cd.region ?_
  refine Lst.run rfl rfl (by decide) (Ev.move rfl) ?_
  refine Lst.run rfl rfl (by decide) (Ev.move rfl) ?_
  refine Lst.run rfl rfl (by decide) (Ev.move rfl) ?_
  obtain ⟨x6, h7, H⟩ := bind_some H
  refine Lst.run rfl rfl (by decide) (Ev.indexStr rfl rfl Try.runUnderlying9 h7) ?_
  refine Lst.run rfl rfl (by decide) (Ev.convTo32 rfl Try.runUnderlying5 Try.runUnderlying33) ?_
  refine Lst.run rfl rfl (by decide) (Ev.xorU32 (i := y2) (j := BitVec.ofInt 32 (x6.toBitVec.toNat : Int)) rfl rfl) ?_
  refine Lst.run rfl rfl (by decide) (Ev.assign rfl) ?_
  refine Lst.nil ?_
  refine At.then ?_
  refine Cd.seq ?_
  refine Cd.region ?_
  refine Lst.run rfl rfl (by decide) (Ev.move rfl) ?_
  refine Lst.nil ?_
  refine At.then ?_
  refine Cd.block ?_
  obtain ⟨ol8, H, HKl8⟩ := bind_some H
  refine Cd.loop (σ := Nat × Nat × (BitVec 32)) (fun (i8, k8, y9) => [(0, Str.v a0), (3, .int .u32 y9.toNat), (7, .int .i64 (a0.length : Int)), (8, .int .i64 (i1 : Int)), (17, .int .i64 (i8 : Int))]) (fun (i8, k8, y9) => L) (fun _ => (fun (i8, k8, y9) => rangeF (wire_Sum_B2) k8 i8 y9 = some ol8 ∧ i8 + k8 = 8)) (fun (i8, k8, y9) => k8) (0, 8, y2 ^^^ (BitVec.ofInt 32 (x6.toBitVec.toNat : Int))) ⟨rfl, rfl, rfl, rfl, rfl, trivial⟩ rfl ⟨H, by omega⟩ ?_
  rintro F10 ⟨i8, k8, y9⟩ hF11 ⟨H, hik8⟩
  refine Cd.as (e' := [(0, Str.v a0), (3, .int .u32 y9.toNat), (7, .int .i64 (a0.length : Int)), (8, .int .i64 (i1 : Int)), (17, .int .i64 (i8 : Int))]) (L' := L) ⟨rfl, rfl, rfl, rfl, rfl, trivial⟩ rfl ?_
  rcases k8 with _ | k8
  · have hc8 : decide ((i8 : Int) < (8 : Int)) = false := decide_eq_false (by omega)
    replace H := rangeF_end H
    refine Cd.seq ?_
    refine Cd.region ?_
    refine Lst.run rfl rfl (by decide) (Ev.lss rfl rfl) ?_
    refine Lst.nil ?_
    refine At.then ?_
    refine Cd.seq ?_
    refine Cd.condF rfl hc8 ?_
    refine Cd.exit ?_
    refine At.then_exit ?_
    refine At.then_exit ?_
    refine At.in_exit ?_
    subst H
    replace H := HKl8
    refine At.in_normal ?_
    refine At.then ?_
    refine Cd.region ?_
    refine Lst.run rfl rfl (by decide) (Ev.incr (by omega) rfl rfl) ?_
    refine Lst.run rfl rfl (by decide) (Ev.move rfl) ?_
    refine Lst.nil ?_
    exact At.meet (i1 + 1, k1, y9) (FLe.trans hF4 hF11) ⟨rfl, rfl, rfl, rfl, trivial⟩ rfl ⟨⟨hgo1 _ (some_inj H).symm, by omega⟩, Nat.lt_succ_self _⟩
  have hc8 : decide ((i8 : Int) < (8 : Int)) = true := decide_eq_true (by omega)
  obtain ⟨c8, H, hgo8⟩ := rangeF_go H
  unfold wire_Sum_B2 at H
  try dsimp only at H
  refine Cd.seq ?_
  refine Cd.region ?_
  refine Lst.run rfl rfl (by decide) (Ev.lss rfl rfl) ?_
  refine Lst.nil ?_
  refine At.then ?_
  refine Cd.seq ?_
  refine Cd.condT rfl hc8 ?_
  refine Cd.skip ?_
  refine At.then ?_
  refine Cd.seq ?_
  refine Cd.block ?_
  refine Cd.seq ?_
  refine Cd.region ?_
  refine Lst.run rfl rfl (by decide) (Ev.move rfl) ?_
  refine Lst.run rfl rfl (by decide) (Ev.andU32 (i := y9) (j := (1 : BitVec 32)) rfl rfl) ?_
  refine Lst.run rfl rfl (by decide) (Ev.assign rfl) ?_
  refine Lst.nil ?_
  refine At.then ?_
  refine Cd.seq ?_
  refine Cd.region ?_
  refine Lst.run rfl rfl (by decide) (Ev.move rfl) ?_
  refine Lst.run rfl rfl (by decide) (Ev.shrU32 (i := y9) (m := 1) rfl rfl) ?_
  refine Lst.run rfl rfl (by decide) (Ev.assign rfl) ?_
  refine Lst.nil ?_
  refine At.then ?_
  refine Cd.seq ?_
  refine Cd.region ?_
  refine Lst.run rfl rfl (by decide) (Ev.move rfl) ?_
  refine Lst.run rfl rfl (by decide) (Ev.eql rfl rfl) ?_
  refine Lst.nil ?_
  refine At.then ?_
  rcases (Bool.eq_false_or_eq_true (((y9 &&& (1 : BitVec 32)).toNat : Int) == ((1 : BitVec 32).toNat : Int))).symm with hb12 | hb12
  · replace H := ite_f hb12 H
    refine Cd.condF rfl hb12 ?_
    refine Cd.skip ?_
    refine At.in_normal ?_
    refine At.then ?_
    refine Cd.region ?_
    refine Lst.run rfl rfl (by decide) (Ev.incr (by omega) rfl rfl) ?_
    refine Lst.run rfl rfl (by decide) (Ev.move rfl) ?_
    refine Lst.nil ?_
    exact At.meet (i8 + 1, k8, y9 >>> 1) hF11 ⟨rfl, rfl, rfl, rfl, rfl, trivial⟩ rfl ⟨⟨hgo8 _ (some_inj H).symm, by omega⟩, Nat.lt_succ_self _⟩
  replace H := ite_t hb12 H
  refine Cd.condT rfl hb12 ?_
  refine Cd.region ?_
  refine Lst.run rfl rfl (by decide) (Ev.move rfl) ?_
  refine Lst.run rfl rfl (by decide) (Ev.xorU32 (i := y9 >>> 1) (j := (2197175160 : BitVec 32)) rfl rfl) ?_
  refine Lst.run rfl rfl (by decide) (Ev.assign rfl) ?_
  refine Lst.nil ?_
  refine At.in_normal ?_
  refine At.then ?_
  refine Cd.region ?_
  refine Lst.run rfl rfl (by decide) (Ev.incr (by omega) rfl rfl) ?_
  refine Lst.run rfl rfl (by decide) (Ev.move rfl) ?_
  refine Lst.nil ?_
  exact At.meet (i8 + 1, k8, (y9 >>> 1) ^^^ (2197175160 : BitVec 32)) hF11 ⟨rfl, rfl, rfl, rfl, rfl, trivial⟩ rfl ⟨⟨hgo8 _ (some_inj H).symm, by omega⟩, Nat.lt_succ_self _⟩
set_option maxRecDepth 20000 in
theorem wire_four_sim {a0 : BitVec 32} {r : (List (BitVec 8))} (H : wire_four a0 = some r) (w0 : World) (F : Frz) (M L : List Item) (hM : M.Sublist L) : Ok Try.prog w0 88 [.int .u32 a0.toNat] F (L) (fun _ L' v => ∃ (s13 : Sl), v = Sl.v s13 ∧ L' = (.own s13 5 1 (encs r)) :: L) := by
  unfold wire_four at H
  refine Ok.enter (m := 1) (n := 11) Try.func88 rfl rfl rfl (by decide) ?_
  refine Cd.env (e' := [(0, .int .u32 a0.toNat)]) rfl ?_
  refine Cd.seq ?_
  refine Cd.region ?_
  refine Lst.addNil 5 1 ?_
  refine Lst.run rfl rfl (by decide) (Ev.assign rfl) ?_
  refine Lst.nil ?_
  refine At.then ?_
  refine Cd.seq ?_
  refine Cd.region ?_
  refine Lst.run rfl rfl (by decide) (Ev.move rfl) ?_
  refine Lst.run rfl rfl (by decide) (Ev.convIS (j := (a0.toNat : Int)) rfl Try.runUnderlying33 Try.runUnderlying3 (w64_id (by omega) (by omega))) ?_
  obtain ⟨r2, h3, H⟩ := bind_some H
  refine Lst.call rfl rfl (by decide) (vs := [.int .i64 (a0.toNat : Int)]) ⟨rfl, trivial⟩ Try.call87 (wire_three_sim h3 w0 _ M _ (List.Sublist.cons _ hM)) (fun F6 L' v hF7 hv => ?_)
  obtain ⟨s4, rfl, rfl⟩ := hv
  refine Lst.run rfl rfl (by decide) (Ev.move rfl) ?_
  refine Lst.run rfl rfl (by decide) (Ev.shrU32 (i := a0) (m := 24) rfl rfl) ?_
  refine Lst.run rfl rfl (by decide) (Ev.convTo8 rfl Try.runUnderlying33 Try.runUnderlying5) ?_
  refine Lst.buildSlice (α := BitVec 8) (xs := ([BitVec.ofInt 8 ((a0 >>> 24).toNat : Int)] : List (BitVec 8))) (pv := [(0, .int .u8 (BitVec.ofInt 8 ((a0 >>> 24).toNat : Int)).toNat)]) rfl rfl (by decide) ⟨rfl, rfl, trivial⟩ (run_buildSlice (α := BitVec 8) (z0 := (0 : BitVec 8)) (xs := ([BitVec.ofInt 8 ((a0 >>> 24).toNat : Int)] : List (BitVec 8))) Try.runUnderlying139 Try.sizeOf5 Try.zeroValue5 rfl rfl rfl (by decide) rfl (fill_cons (cs := encs (List.replicate 1 (0 : BitVec 8))) (cs' := encs ((List.replicate 1 (0 : BitVec 8)).set 0 (BitVec.ofInt 8 ((a0 >>> 24).toNat : Int)))) (vs := [.int .u8 (BitVec.ofInt 8 ((a0 >>> 24).toNat : Int)).toNat]) rfl rfl rfl ((Put.elemN (s := 1) (i := 0) (x := (0 : BitVec 8)) (y := (BitVec.ofInt 8 ((a0 >>> 24).toNat : Int))) rfl rfl (Put.here (vs := [.int .u8 (BitVec.ofInt 8 ((a0 >>> 24).toNat : Int)).toNat]) rfl)).off rfl) fill_nil)) rfl rfl (by decide) (fun s8 _ => ?_)
  obtain ⟨u10, h11, H⟩ := bind_some H
  refine Lst.append (i := 1) (α := BitVec 8) (xs := r2) (ys := ([BitVec.ofInt 8 ((a0 >>> 24).toNat : Int)] : List (BitVec 8))) rfl rfl (by decide) rfl rfl Try.runUnderlying139 Try.typeInfo5 rfl rfl rfl rfl rfl rfl (Rd.own (i := 0) rfl rfl rfl) rfl (room_some h11) rfl (fun s12 => ?_)
  refine Lst.its (L' := (.own s8 5 1 (encs ([BitVec.ofInt 8 ((a0 >>> 24).toNat : Int)] : List (BitVec 8)))) :: (.own s12 5 1 (encs (r2 ++ ([BitVec.ofInt 8 ((a0 >>> 24).toNat : Int)] : List (BitVec 8))))) :: (.own Sl.nil 5 1 (encs ([] : List (BitVec 8)))) :: L) rfl ?_
  refine Lst.run rfl rfl (by decide) (Ev.assign rfl) ?_
  refine Lst.nil ?_
  refine At.then ?_
  obtain rfl := some_inj H
  refine Cd.ret ?_
  exact At.ret1 rfl (Res.tmp rfl) hF7 (List.Sublist.cons _ (List.Sublist.cons_cons _ (List.Sublist.cons _ (List.Sublist.refl _)))) ⟨s12, rfl, rfl⟩
set_option maxRecDepth 20000 in
theorem wire_Pack_sim {a0 : Note} {r : Str × Int} (H : wire_Pack a0 = some r) (w0 : World) (F : Frz) (M L : List Item) (hM : M.Sublist L) : Ok Try.prog w0 13 [.agg (enc a0).toArray] F (L) (Is (.tuple #[Str.v r.1, .int .i64 r.2]) (L)) := by
  unfold wire_Pack at H
  refine Ok.enter (m := 1) (n := 52) Try.func13 rfl rfl rfl (by decide) ?_
  refine Cd.env (e' := [(0, .agg (enc a0).toArray)]) rfl ?_
  refine Cd.seq ?_
  refine Cd.region ?_
  refine Lst.box rfl rfl (by decide) rfl (cs := enc a0) rfl (fun b1 => ?_)
  refine Lst.run rfl rfl (by decide) (Ev.assign rfl) ?_
  refine Lst.run rfl rfl (by decide) (Ev.assign rfl) ?_
  refine Lst.nil ?_
  refine At.then ?_
  refine Cd.seq ?_
  refine Cd.seq ?_
  refine Cd.region ?_
  refine Lst.run rfl rfl (by decide) (Ev.loadA (i := 0) rfl rfl Try.isAgg25 Try.sizeOf25 (ch := enc a0) (Enc.len _) (Get.here _)) ?_
  obtain ⟨r3, h4, H⟩ := bind_some H
  refine Lst.call1 rfl rfl (by decide) (vs := [.agg (enc a0).toArray]) ⟨rfl, trivial⟩ Try.call19 (wire_Check_sim h4 w0 _ M _ (List.Sublist.cons _ hM)) ?_
  refine Lst.run rfl rfl (by decide) (Ev.assign rfl) ?_
  refine Lst.nil ?_
  refine At.then ?_
  refine Cd.seq ?_
  refine Cd.region ?_
  refine Lst.run rfl rfl (by decide) (Ev.move rfl) ?_
  refine Lst.run rfl rfl (by decide) (Ev.neq rfl rfl) ?_
  refine Lst.nil ?_
  refine At.then ?_
  rcases Bool.eq_false_or_eq_true (r3 != (0 : Int)) with hb7 | hb7
  · replace H := ite_t hb7 H
    refine Cd.condT rfl hb7 ?_
    refine Cd.seq ?_
    refine Cd.region ?_
    refine Lst.run rfl rfl (by decide) (Ev.move rfl) ?_
    refine Lst.run rfl rfl (by decide) (Ev.assign rfl) ?_
    refine Lst.run rfl rfl (by decide) (Ev.assign rfl) ?_
    refine Lst.nil ?_
    refine At.then ?_
    obtain rfl := some_inj H
    refine Cd.ret ?_
    refine At.then_ret ?_
    exact At.ret2 rfl (Res.tmp rfl) (Res.tmp rfl) (FLe.refl _) (List.Sublist.cons _ (List.Sublist.refl _)) ⟨rfl, rfl⟩
  replace H := ite_f hb7 H
  refine Cd.condF rfl hb7 ?_
  refine Cd.skip ?_
  refine At.then ?_
  refine Cd.seq ?_
  refine Cd.region ?_
  refine Lst.run rfl rfl (by decide) (Ev.fieldAddr (off' := 0) rfl Try.runUnderlying25 rfl Try.sizeOf3 rfl rfl) ?_
  refine Lst.run rfl rfl (by decide) (Ev.load (i := 0) rfl rfl Try.isAgg3 (v := .int .i64 a0.Kind) ((Note.get_Kind (Get.here _)).off (by rfl))) ?_
  refine Lst.run rfl rfl (by decide) (Ev.convTo8 rfl Try.runUnderlying3 Try.runUnderlying5) ?_
  refine Lst.run rfl rfl (by decide) (Ev.fieldAddr (off' := 1) rfl Try.runUnderlying25 rfl Try.sizeOf3 rfl rfl) ?_
  refine Lst.run rfl rfl (by decide) (Ev.load (i := 0) rfl rfl Try.isAgg3 (v := .int .i64 a0.From) ((Note.get_From (Get.here _)).off (by rfl))) ?_
  refine Lst.run rfl rfl (by decide) (Ev.convTo8 rfl Try.runUnderlying3 Try.runUnderlying5) ?_
  refine Lst.run rfl rfl (by decide) (Ev.fieldAddr (off' := 2) rfl Try.runUnderlying25 rfl Try.sizeOf3 rfl rfl) ?_
  refine Lst.run rfl rfl (by decide) (Ev.load (i := 0) rfl rfl Try.isAgg3 (v := .int .i64 a0.To) ((Note.get_To (Get.here _)).off (by rfl))) ?_
  refine Lst.run rfl rfl (by decide) (Ev.convTo8 rfl Try.runUnderlying3 Try.runUnderlying5) ?_
  refine Lst.buildSlice (α := BitVec 8) (xs := ([BitVec.ofInt 8 a0.Kind, BitVec.ofInt 8 a0.From, BitVec.ofInt 8 a0.To] : List (BitVec 8))) (pv := [(0, .int .u8 (BitVec.ofInt 8 a0.Kind).toNat), (1, .int .u8 (BitVec.ofInt 8 a0.From).toNat), (2, .int .u8 (BitVec.ofInt 8 a0.To).toNat)]) rfl rfl (by decide) ⟨rfl, rfl, ⟨rfl, rfl, ⟨rfl, rfl, trivial⟩⟩⟩ (run_buildSlice (α := BitVec 8) (z0 := (0 : BitVec 8)) (xs := ([BitVec.ofInt 8 a0.Kind, BitVec.ofInt 8 a0.From, BitVec.ofInt 8 a0.To] : List (BitVec 8))) Try.runUnderlying139 Try.sizeOf5 Try.zeroValue5 rfl rfl rfl (by decide) rfl (fill_cons (cs := encs (List.replicate 3 (0 : BitVec 8))) (cs' := encs ((List.replicate 3 (0 : BitVec 8)).set 0 (BitVec.ofInt 8 a0.Kind))) (vs := [.int .u8 (BitVec.ofInt 8 a0.Kind).toNat]) rfl rfl rfl ((Put.elemN (s := 1) (i := 0) (x := (0 : BitVec 8)) (y := (BitVec.ofInt 8 a0.Kind)) rfl rfl (Put.here (vs := [.int .u8 (BitVec.ofInt 8 a0.Kind).toNat]) rfl)).off rfl) (fill_cons (cs := encs ((List.replicate 3 (0 : BitVec 8)).set 0 (BitVec.ofInt 8 a0.Kind))) (cs' := encs (((List.replicate 3 (0 : BitVec 8)).set 0 (BitVec.ofInt 8 a0.Kind)).set 1 (BitVec.ofInt 8 a0.From))) (vs := [.int .u8 (BitVec.ofInt 8 a0.From).toNat]) rfl rfl rfl ((Put.elemN (s := 1) (i := 1) (x := (0 : BitVec 8)) (y := (BitVec.ofInt 8 a0.From)) rfl rfl (Put.here (vs := [.int .u8 (BitVec.ofInt 8 a0.From).toNat]) rfl)).off rfl) (fill_cons (cs := encs (((List.replicate 3 (0 : BitVec 8)).set 0 (BitVec.ofInt 8 a0.Kind)).set 1 (BitVec.ofInt 8 a0.From))) (cs' := encs ((((List.replicate 3 (0 : BitVec 8)).set 0 (BitVec.ofInt 8 a0.Kind)).set 1 (BitVec.ofInt 8 a0.From)).set 2 (BitVec.ofInt 8 a0.To))) (vs := [.int .u8 (BitVec.ofInt 8 a0.To).toNat]) rfl rfl rfl ((Put.elemN (s := 1) (i := 2) (x := (0 : BitVec 8)) (y := (BitVec.ofInt 8 a0.To)) rfl rfl (Put.here (vs := [.int .u8 (BitVec.ofInt 8 a0.To).toNat]) rfl)).off rfl) fill_nil)))) rfl rfl (by decide) (fun s8 _ => ?_)
  refine Lst.run rfl rfl (by decide) (Ev.assign rfl) ?_
  refine Lst.nil ?_
  refine At.then ?_
  refine Cd.seq ?_
  refine Cd.seq ?_
  refine Cd.as (e' := [(1, .pointer (some ⟨b1, 0, none⟩)), (5, Sl.v s8)]) (L' := (.own s8 5 1 (encs ([BitVec.ofInt 8 a0.Kind, BitVec.ofInt 8 a0.From, BitVec.ofInt 8 a0.To] : List (BitVec 8)))) :: (.blk b1 (enc a0) 25) :: L) ⟨rfl, rfl, trivial⟩ rfl ?_
  obtain ⟨u12, h13, H⟩ := bind_some H
  obtain ⟨o18, h19, H⟩ := Let_some H
  refine Cd.headMeet (σ := Sl × (List Int)) 10 (fun (s16, l17) => [(1, .pointer (some ⟨b1, 0, none⟩)), (5, Sl.v s8), (30, Sl.v s16), (31, .int .i64 ((([a0.View, a0.Seq] : List Int) ++ a0.At.toList).length : Int)), (32, .int .i64 (0 : Int))]) (fun (s16, l17) => (.own s16 3 1 (encs l17)) :: (.own s8 5 1 (encs ([BitVec.ofInt 8 a0.Kind, BitVec.ofInt 8 a0.From, BitVec.ofInt 8 a0.To] : List (BitVec 8)))) :: (.blk b1 (enc a0) 25) :: L) (fun _ (s16, l17) => l17 = o18) (by kernel_rfl) (by kernel_rfl) (behind_all rfl) (by kernel_rfl) (fun hsel hlt => ?_) ?_
  · refine HdJ.keep (fun w => St w0 F ((.own s8 5 1 (encs ([BitVec.ofInt 8 a0.Kind, BitVec.ofInt 8 a0.From, BitVec.ofInt 8 a0.To] : List (BitVec 8)))) :: (.blk b1 (enc a0) 25) :: L) w) (fun w h => trivial) ?_
    refine HdJ.takeK hsel hlt 0 (fun w h => h.sublist (List.Sublist.cons_cons _ (List.Sublist.cons_cons _ (List.Sublist.refl _)))) rfl rfl (by decide) (by decide) (by kernel_rfl) (by kernel_rfl) rfl (Ev.fieldAddr (off' := 3) rfl Try.runUnderlying25 rfl Try.sizeOf3 rfl rfl) ?_
    refine HdJ.takeK hsel hlt 1 (fun w h => h.sublist (List.Sublist.cons_cons _ (List.Sublist.cons_cons _ (List.Sublist.refl _)))) rfl rfl (by decide) (by decide) (by kernel_rfl) (by kernel_rfl) rfl (Ev.load (i := 1) rfl rfl Try.isAgg3 (v := .int .i64 a0.View) ((Note.get_View (Get.here _)).off (by rfl))) ?_
    refine HdJ.takeK hsel hlt 2 (fun w h => h.sublist (List.Sublist.cons_cons _ (List.Sublist.cons_cons _ (List.Sublist.refl _)))) rfl rfl (by decide) (by decide) (by kernel_rfl) (by kernel_rfl) rfl (Ev.fieldAddr (off' := 4) rfl Try.runUnderlying25 rfl Try.sizeOf3 rfl rfl) ?_
    refine HdJ.takeK hsel hlt 3 (fun w h => h.sublist (List.Sublist.cons_cons _ (List.Sublist.cons_cons _ (List.Sublist.refl _)))) rfl rfl (by decide) (by decide) (by kernel_rfl) (by kernel_rfl) rfl (Ev.load (i := 1) rfl rfl Try.isAgg3 (v := .int .i64 a0.Seq) ((Note.get_Seq (Get.here _)).off (by rfl))) ?_
    refine HdJ.takeK hsel hlt 5 (fun w h => h.sublist (List.Sublist.cons_cons _ (List.Sublist.cons_cons _ (List.Sublist.refl _)))) rfl rfl (by decide) (by decide) (by kernel_rfl) (by kernel_rfl) rfl (Ev.fieldAddr (off' := 5) rfl Try.runUnderlying25 rfl Try.sizeOf23 rfl rfl) ?_
    refine HdJ.takeK hsel hlt 6 (fun w h => h.sublist (List.Sublist.cons_cons _ (List.Sublist.cons_cons _ (List.Sublist.refl _)))) rfl rfl (by decide) (by decide) (by kernel_rfl) (by kernel_rfl) rfl (Ev.sliceAll rfl Try.runUnderlying23 Try.sizeOf3) ?_
    refine HdJ.takeK hsel hlt 9 (fun w h => h.sublist (List.Sublist.cons_cons _ (List.Sublist.cons_cons _ (List.Sublist.refl _)))) rfl rfl (by decide) (by decide) (by kernel_rfl) (by kernel_rfl) rfl (Ev.move rfl) ?_
    refine HdJ.step [4] (by kernel_rfl) rfl ?_
    refine HdStep.cons (by decide) rfl (fun inv => ?_) ?_
    · refine Lst.buildSlice (α := Int) (xs := ([a0.View, a0.Seq] : List Int)) (pv := [(0, .int .i64 a0.View), (1, .int .i64 a0.Seq)]) rfl rfl (by decide) ⟨rfl, rfl, ⟨rfl, rfl, trivial⟩⟩ (run_buildSlice (α := Int) (z0 := (0 : Int)) (xs := ([a0.View, a0.Seq] : List Int)) Try.runUnderlying36 Try.sizeOf3 Try.zeroValue3 rfl rfl rfl (by decide) rfl (fill_cons (cs := encs (List.replicate 2 (0 : Int))) (cs' := encs ((List.replicate 2 (0 : Int)).set 0 a0.View)) (vs := [.int .i64 a0.View]) rfl rfl rfl ((Put.elemN (s := 1) (i := 0) (x := (0 : Int)) (y := a0.View) rfl rfl (Put.here (vs := [.int .i64 a0.View]) rfl)).off rfl) (fill_cons (cs := encs ((List.replicate 2 (0 : Int)).set 0 a0.View)) (cs' := encs (((List.replicate 2 (0 : Int)).set 0 a0.View).set 1 a0.Seq)) (vs := [.int .i64 a0.Seq]) rfl rfl rfl ((Put.elemN (s := 1) (i := 1) (x := (0 : Int)) (y := a0.Seq) rfl rfl (Put.here (vs := [.int .i64 a0.Seq]) rfl)).off rfl) fill_nil))) rfl rfl (by decide) (fun s20 _ => ?_)
      refine Lst.nil ?_
      refine At.hd inv (fun w h => (h.weaken (FLe.refl _)).sublist (List.Sublist.cons _ (List.Sublist.cons_cons _ (List.Sublist.cons_cons _ (List.Sublist.refl _))))) ?_
      refine HdJ.step [7] (by kernel_rfl) rfl ?_
      refine HdStep.cons (by decide) rfl (fun inv => ?_) ?_
      · refine Lst.append (i := 0) (α := Int) (xs := ([a0.View, a0.Seq] : List Int)) (ys := a0.At.toList) rfl rfl (by decide) rfl rfl Try.runUnderlying36 Try.typeInfo3 rfl rfl rfl rfl rfl rfl (Rd.blk (i := 2) (xs := a0.At.toList) rfl ((Note.get_At (Get.here _)).off (by rfl)) (by simp) (by decide)) rfl (room_some h13) rfl (fun s21 => ?_)
        refine Lst.its (L' := (.own s21 3 1 (encs (([a0.View, a0.Seq] : List Int) ++ a0.At.toList))) :: (.own s8 5 1 (encs ([BitVec.ofInt 8 a0.Kind, BitVec.ofInt 8 a0.From, BitVec.ofInt 8 a0.To] : List (BitVec 8)))) :: (.blk b1 (enc a0) 25) :: L) rfl ?_
        refine Lst.nil ?_
        refine At.hd inv (fun w h => (h.weaken (FLe.refl _)).sublist (List.Sublist.cons _ (List.Sublist.cons_cons _ (List.Sublist.cons_cons _ (List.Sublist.refl _))))) ?_
        refine HdJ.keep (fun w => St w0 F ((.own s21 3 1 (encs (([a0.View, a0.Seq] : List Int) ++ a0.At.toList))) :: (.own s8 5 1 (encs ([BitVec.ofInt 8 a0.Kind, BitVec.ofInt 8 a0.From, BitVec.ofInt 8 a0.To] : List (BitVec 8)))) :: (.blk b1 (enc a0) 25) :: L) w) (fun w h => (h.weaken (FLe.refl _)).sublist (List.Sublist.cons _ (List.Sublist.cons_cons _ (List.Sublist.cons_cons _ (List.Sublist.refl _))))) ?_
        refine HdJ.takeK hsel hlt 8 (fun w h => h.sublist (List.Sublist.cons_cons _ (List.Sublist.cons_cons _ (List.Sublist.cons_cons _ (List.Sublist.refl _))))) rfl rfl (by decide) (by decide) (by kernel_rfl) (by kernel_rfl) rfl (Ev.lenS (α := Int) (xs := (([a0.View, a0.Seq] : List Int) ++ a0.At.toList)) (by decide) rfl rfl Try.runUnderlying36 (Rd.own (i := 0) rfl rfl rfl)) ?_
        refine HdJ.done (by kernel_rfl) ?_
        exact At.meetN (s21, ([a0.View, a0.Seq] : List Int) ++ a0.At.toList) (FLe.refl _) ⟨rfl, rfl, rfl, rfl, rfl, trivial⟩ rfl h19
      exact trivial
    exact trivial
  rintro F22 ⟨s16, l17⟩ hF23 hy
  subst hy
  refine Lst.as (e' := [(1, .pointer (some ⟨b1, 0, none⟩)), (5, Sl.v s8), (30, Sl.v s16), (31, .int .i64 ((([a0.View, a0.Seq] : List Int) ++ a0.At.toList).length : Int)), (32, .int .i64 (0 : Int))]) (L' := (.own s16 3 1 (encs l17)) :: (.own s8 5 1 (encs ([BitVec.ofInt 8 a0.Kind, BitVec.ofInt 8 a0.From, BitVec.ofInt 8 a0.To] : List (BitVec 8)))) :: (.blk b1 (enc a0) 25) :: L) ⟨rfl, rfl, rfl, rfl, rfl, trivial⟩ rfl ?_
  refine Lst.nil ?_
  refine At.then ?_
  refine Cd.block ?_
  obtain ⟨nn29, hN58, H⟩ := bind_some H
  replace hN58 := upTo_some hN58
  obtain ⟨ol24, H, HKl24⟩ := bind_some H
  refine Cd.loop (σ := Nat × Nat × Sl × (List (BitVec 8))) (fun (i24, k24, s25, l26) => [(1, .pointer (some ⟨b1, 0, none⟩)), (5, Sl.v s25), (30, Sl.v s16), (31, .int .i64 ((([a0.View, a0.Seq] : List Int) ++ a0.At.toList).length : Int)), (32, .int .i64 (i24 : Int))]) (fun (i24, k24, s25, l26) => (.own s16 3 1 (encs l17)) :: (.own s25 5 1 (encs l26)) :: (.blk b1 (enc a0) 25) :: L) (fun _ => (fun (i24, k24, s25, l26) => rangeF (wire_Pack_B0 l17) k24 i24 l26 = some ol24 ∧ i24 + k24 = nn29)) (fun (i24, k24, s25, l26) => k24) (0, nn29, s8, ([BitVec.ofInt 8 a0.Kind, BitVec.ofInt 8 a0.From, BitVec.ofInt 8 a0.To] : List (BitVec 8))) ⟨rfl, rfl, rfl, rfl, rfl, trivial⟩ rfl ⟨H, by omega⟩ ?_
  rintro F27 ⟨i24, k24, s25, l26⟩ hF28 ⟨H, hik24⟩
  refine Cd.as (e' := [(1, .pointer (some ⟨b1, 0, none⟩)), (5, Sl.v s25), (30, Sl.v s16), (31, .int .i64 ((([a0.View, a0.Seq] : List Int) ++ a0.At.toList).length : Int)), (32, .int .i64 (i24 : Int))]) (L' := (.own s16 3 1 (encs l17)) :: (.own s25 5 1 (encs l26)) :: (.blk b1 (enc a0) 25) :: L) ⟨rfl, rfl, rfl, rfl, rfl, trivial⟩ rfl ?_
  rcases k24 with _ | k24
  · have hc24 : decide ((i24 : Int) < ((([a0.View, a0.Seq] : List Int) ++ a0.At.toList).length : Int)) = false := decide_eq_false (by omega)
    replace H := rangeF_end H
    refine Cd.seq ?_
    refine Cd.region ?_
    refine Lst.run rfl rfl (by decide) (Ev.lss rfl rfl) ?_
    refine Lst.nil ?_
    refine At.then ?_
    refine Cd.seq ?_
    refine Cd.condF rfl hc24 ?_
    refine Cd.exit ?_
    refine At.then_exit ?_
    refine At.then_exit ?_
    refine At.in_exit ?_
    subst H
    replace H := HKl24
    refine At.then ?_
    refine Cd.seq ?_
    refine Cd.region ?_
    refine Lst.run rfl rfl (by decide) (Ev.move rfl) ?_
    refine Lst.run rfl rfl (by decide) (Ev.fieldAddr (off' := 11) rfl Try.runUnderlying25 rfl Try.sizeOf9 rfl rfl) ?_
    refine Lst.run rfl rfl (by decide) (Ev.load (i := 2) rfl rfl Try.isAgg9 (v := Str.v a0.Text) ((Note.get_Text (Get.here _)).off (by rfl))) ?_
    obtain ⟨u42, h43, H⟩ := bind_some H
    refine Lst.appendStr (i := 1) (xs := l26) (m := a0.Text) rfl rfl (by decide) rfl rfl Try.runUnderlying139 Try.runUnderlying9 Try.typeInfo5 rfl rfl rfl rfl rfl (room_some h43) rfl (fun s44 => ?_)
    refine Lst.its (L' := (.own s16 3 1 (encs l17)) :: (.own s44 5 1 (encs (l26 ++ (Str.bytes a0.Text)))) :: (.blk b1 (enc a0) 25) :: L) rfl ?_
    refine Lst.run rfl rfl (by decide) (Ev.assign rfl) ?_
    refine Lst.nil ?_
    refine At.then ?_
    refine Cd.seq ?_
    refine Cd.region ?_
    refine Lst.run rfl rfl (by decide) (Ev.move rfl) ?_
    refine Lst.run rfl rfl (by decide) (Ev.move rfl) ?_
    refine Lst.run rfl rfl (by decide) (Ev.bytesStr (ys := (l26 ++ (Str.bytes a0.Text))) rfl Try.runUnderlying139 Try.runUnderlying5 Try.runUnderlying9 (Rd.own (i := 1) rfl rfl rfl)) ?_
    obtain ⟨r45, h46, H⟩ := bind_some H
    refine Lst.call1 rfl rfl (by decide) (vs := [Str.v (Str.ofBytes (l26 ++ (Str.bytes a0.Text)))]) ⟨rfl, trivial⟩ Try.call17 (wire_Sum_sim h46 w0 _ M _ (List.Sublist.cons _ (List.Sublist.cons _ (List.Sublist.cons _ hM)))) ?_
    obtain ⟨r49, h50, H⟩ := bind_some H
    refine Lst.call rfl rfl (by decide) (vs := [.int .u32 r45.toNat]) ⟨rfl, trivial⟩ Try.call88 (wire_four_sim h50 w0 _ M _ (List.Sublist.cons _ (List.Sublist.cons _ (List.Sublist.cons _ hM)))) (fun F53 L' v hF54 hv => ?_)
    obtain ⟨s51, rfl, rfl⟩ := hv
    obtain ⟨u55, h56, H⟩ := bind_some H
    refine Lst.append (i := 2) (α := BitVec 8) (xs := (l26 ++ (Str.bytes a0.Text))) (ys := r49) rfl rfl (by decide) rfl rfl Try.runUnderlying139 Try.typeInfo5 rfl rfl rfl rfl rfl rfl (Rd.own (i := 0) rfl rfl rfl) rfl (room_some h56) rfl (fun s57 => ?_)
    refine Lst.its (L' := (.own s51 5 1 (encs r49)) :: (.own s16 3 1 (encs l17)) :: (.own s57 5 1 (encs ((l26 ++ (Str.bytes a0.Text)) ++ r49))) :: (.blk b1 (enc a0) 25) :: L) rfl ?_
    refine Lst.run rfl rfl (by decide) (Ev.bytesStr (ys := ((l26 ++ (Str.bytes a0.Text)) ++ r49)) rfl Try.runUnderlying139 Try.runUnderlying5 Try.runUnderlying9 (Rd.own (i := 2) rfl rfl rfl)) ?_
    refine Lst.run rfl rfl (by decide) (Ev.assign rfl) ?_
    refine Lst.run rfl rfl (by decide) (Ev.assign rfl) ?_
    refine Lst.nil ?_
    refine At.then ?_
    obtain rfl := some_inj H
    refine Cd.ret ?_
    exact At.ret2 rfl (Res.tmp rfl) (Res.tmp rfl) (FLe.trans (FLe.trans hF23 hF28) hF54) (List.Sublist.cons _ (List.Sublist.cons _ (List.Sublist.cons _ (List.Sublist.cons _ (List.Sublist.refl _))))) ⟨rfl, rfl⟩
  have hc24 : decide ((i24 : Int) < ((([a0.View, a0.Seq] : List Int) ++ a0.At.toList).length : Int)) = true := decide_eq_true (by omega)
  obtain ⟨c24, H, hgo24⟩ := rangeF_go H
  unfold wire_Pack_B0 at H
  try dsimp only at H
  refine Cd.seq ?_
  refine Cd.region ?_
  refine Lst.run rfl rfl (by decide) (Ev.lss rfl rfl) ?_
  refine Lst.nil ?_
  refine At.then ?_
  refine Cd.seq ?_
  refine Cd.condT rfl hc24 ?_
  refine Cd.skip ?_
  refine At.then ?_
  refine Cd.seq ?_
  refine Cd.block ?_
  refine Cd.seq ?_
  refine Cd.region ?_
  obtain ⟨x30, h31, H⟩ := bind_some H
  have g32 := lat_some h31
  refine Lst.run rfl rfl (by decide) (Ev.indexS (α := Int) (xs := l17) rfl rfl Try.runUnderlying36 Try.sizeOf3 rfl (by decide) (Rd.own (i := 0) rfl rfl rfl) g32.1 g32.2.1) ?_
  refine Lst.run rfl rfl (by decide) (Ev.loadS (α := Int) rfl (Rd.own (i := 0) rfl rfl rfl) Try.isAgg3 (v := .int .i64 x30) ((Get.elemN (s := 1) (x := x30) rfl g32.2.2 (Get.here _)).off (by omega))) ?_
  refine Lst.run rfl rfl (by decide) (Ev.assign rfl) ?_
  refine Lst.nil ?_
  refine At.then ?_
  refine Cd.region ?_
  refine Lst.run rfl rfl (by decide) (Ev.move rfl) ?_
  refine Lst.run rfl rfl (by decide) (Ev.move rfl) ?_
  obtain ⟨r33, h34, H⟩ := bind_some H
  refine Lst.call rfl rfl (by decide) (vs := [.int .i64 x30]) ⟨rfl, trivial⟩ Try.call87 (wire_three_sim h34 w0 _ M _ (List.Sublist.cons _ (List.Sublist.cons _ (List.Sublist.cons _ hM)))) (fun F37 L' v hF38 hv => ?_)
  obtain ⟨s35, rfl, rfl⟩ := hv
  obtain ⟨u39, h40, H⟩ := bind_some H
  refine Lst.append (i := 2) (α := BitVec 8) (xs := l26) (ys := r33) rfl rfl (by decide) rfl rfl Try.runUnderlying139 Try.typeInfo5 rfl rfl rfl rfl rfl rfl (Rd.own (i := 0) rfl rfl rfl) rfl (room_some h40) rfl (fun s41 => ?_)
  refine Lst.its (L' := (.own s35 5 1 (encs r33)) :: (.own s16 3 1 (encs l17)) :: (.own s41 5 1 (encs (l26 ++ r33))) :: (.blk b1 (enc a0) 25) :: L) rfl ?_
  refine Lst.run rfl rfl (by decide) (Ev.assign rfl) ?_
  refine Lst.nil ?_
  refine At.in_normal ?_
  refine At.then ?_
  refine Cd.region ?_
  refine Lst.run rfl rfl (by decide) (Ev.incr (by omega) rfl rfl) ?_
  refine Lst.run rfl rfl (by decide) (Ev.move rfl) ?_
  refine Lst.nil ?_
  refine At.less (L' := (.own s16 3 1 (encs l17)) :: (.own s41 5 1 (encs (l26 ++ r33))) :: (.blk b1 (enc a0) 25) :: L) (List.Sublist.cons _ (List.Sublist.cons_cons _ (List.Sublist.cons_cons _ (List.Sublist.cons_cons _ (List.Sublist.refl _))))) ?_
  exact At.meet (i24 + 1, k24, s41, l26 ++ r33) (FLe.trans hF28 hF38) ⟨rfl, rfl, rfl, rfl, rfl, trivial⟩ rfl ⟨⟨hgo24 _ (some_inj H).symm, by omega⟩, Nat.lt_succ_self _⟩
set_option maxRecDepth 20000 in
theorem slices_Grow_int_int_sim {a1 : Int} {r : (List Int)} (H : slices_Grow_int_int a1 = some r) (w0 : World) (F : Frz) (M L : List Item) (hM : M.Sublist L) : Ok Try.prog w0 137 [Sl.v Sl.nil, .int .i64 a1] F (L) (fun _ L' v => ∃ (s21 : Sl), v = Sl.v s21 ∧ L' = (.own s21 3 1 (encs r)) :: L) := by
  unfold slices_Grow_int_int at H
  refine Ok.enter (m := 2) (n := 27) Try.func137 rfl rfl rfl (by decide) ?_
  refine Cd.env (e' := [(0, Sl.v Sl.nil), (1, .int .i64 a1)]) rfl ?_
  refine Cd.seq ?_
  refine Cd.region ?_
  refine Lst.addNil 3 1 ?_
  refine Lst.run rfl rfl (by decide) (Ev.assign rfl) ?_
  refine Lst.nil ?_
  refine At.then ?_
  refine Cd.seq ?_
  refine Cd.seq ?_
  refine Cd.region ?_
  refine Lst.run rfl rfl (by decide) (Ev.move rfl) ?_
  refine Lst.run rfl rfl (by decide) (Ev.lss rfl rfl) ?_
  refine Lst.nil ?_
  refine At.then ?_
  rcases Bool.eq_false_or_eq_true (decide (a1 < (0 : Int))) with hb2 | hb2
  · replace H := ite_t hb2 H
    cases H
  replace H := ite_f hb2 H
  refine Cd.condF rfl hb2 ?_
  refine Cd.skip ?_
  refine At.then ?_
  obtain ⟨o6, H, HKo6⟩ := bind_some H
  refine Cd.join (σ := Sl × (List Int)) (fun (s3, l4) => [(0, Sl.v s3)]) (fun (s3, l4) => (.own s3 3 1 (encs l4)) :: (.own Sl.nil 3 1 (encs ([] : List Int))) :: L) (fun _ (s3, l4) => l4 = o6) ?_ ?_
  · refine Cd.seq ?_
    refine Cd.region ?_
    refine Lst.run rfl rfl (by decide) (Ev.move rfl) ?_
    refine Lst.run rfl rfl (by decide) (Ev.move rfl) ?_
    refine Lst.run rfl rfl (by decide) (Ev.capNil rfl rfl Try.runUnderlying36) ?_
    refine Lst.run rfl rfl (by decide) (Ev.move rfl) ?_
    refine Lst.run rfl rfl (by decide) (Ev.lenNil rfl rfl Try.runUnderlying36) ?_
    refine Lst.run rfl rfl (by decide) (Ev.sub rfl rfl) ?_
    refine Lst.run rfl rfl (by decide) (Ev.sub rfl rfl) ?_
    refine Lst.run rfl rfl (by decide) (Ev.assign rfl) ?_
    refine Lst.nil ?_
    refine At.then ?_
    refine Cd.seq ?_
    refine Cd.region ?_
    refine Lst.run rfl rfl (by decide) (Ev.move rfl) ?_
    refine Lst.run rfl rfl (by decide) (Ev.gtr rfl rfl) ?_
    refine Lst.nil ?_
    refine At.then ?_
    rcases (Bool.eq_false_or_eq_true (decide ((w64 (a1 - (w64 ((0 : Int) - (0 : Int))))) > (0 : Int)))).symm with hb7 | hb7
    · replace H := ite_f hb7 H
      refine Cd.condF rfl hb7 ?_
      refine Cd.skip ?_
      refine At.addNil 3 1 ?_
      exact At.meet (Sl.nil, ([] : List Int)) (FLe.refl _) ⟨rfl, trivial⟩ rfl (some_inj H)
    replace H := ite_t hb7 H
    refine Cd.condT rfl hb7 ?_
    refine Cd.region ?_
    refine Lst.run rfl rfl (by decide) (Ev.move rfl) ?_
    refine Lst.run rfl rfl (by decide) (Ev.move rfl) ?_
    refine Lst.run rfl rfl (by decide) (Ev.capNil rfl rfl Try.runUnderlying36) ?_
    refine Lst.run rfl rfl (by decide) (Ev.cutNil rfl rfl Try.runUnderlying36 Try.sizeOf3) ?_
    refine Lst.run rfl rfl (by decide) (Ev.move rfl) ?_
    obtain ⟨n10, h11, H⟩ := bind_some H
    have g12 := mkLen_some h11
    refine Lst.addNil 3 1 ?_
    refine Lst.appendZeros (α := Int) (i := 0) (k := n10) (0 : Int) rfl rfl (by decide) rfl (congrArg some (congrArg (Value.int .i64) g12.1)) Try.runUnderlying36 Try.runUnderlying3 Try.typeInfo3 rfl rfl rfl rfl rfl g12.2 rfl rfl (fun s13 => ?_)
    refine Lst.its (L' := (.own s13 3 1 (encs (List.replicate n10 (0 : Int)))) :: (.own Sl.nil 3 1 (encs ([] : List Int))) :: L) rfl ?_
    refine Lst.run rfl rfl (by decide) (Ev.move rfl) ?_
    refine Lst.run rfl rfl (by decide) (Ev.lenNil rfl rfl Try.runUnderlying36) ?_
    obtain ⟨m14, h15, H⟩ := bind_some H
    obtain ⟨g16, gl17⟩ := cutL_some h15
    refine Lst.run rfl rfl (by decide) (Ev.cut (α := Int) (xs := (List.replicate n10 (0 : Int))) (i := 0) (j := (0 : Int)) rfl rfl rfl Try.runUnderlying36 Try.sizeOf3 rfl (by decide) (Rd.own (i := 0) rfl rfl rfl) g16.1 g16.2.1 g16.2.2) ?_
    refine Lst.cutOwn (i := 0) (α := Int) (lo := (0 : Int).toNat) (hi := ((0 : Int) : Int).toNat) rfl rfl rfl (by decide) (by omega) (by omega) (L' := (.own (s13.cut (0 : Int).toNat ((0 : Int) : Int).toNat 1) 3 1 (encs m14)) :: (.own Sl.nil 3 1 (encs ([] : List Int))) :: L) (by subst gl17; rfl) ?_
    refine Lst.run rfl rfl (by decide) (Ev.assign rfl) ?_
    refine Lst.nil ?_
    exact At.meet ((s13.cut (0 : Int).toNat ((0 : Int) : Int).toNat 1), m14) (FLe.refl _) ⟨rfl, trivial⟩ rfl (some_inj H)
  rintro F19 ⟨s3, l4⟩ hF20 hy
  subst hy
  refine Cd.as (e' := [(0, Sl.v s3)]) (L' := (.own s3 3 1 (encs l4)) :: (.own Sl.nil 3 1 (encs ([] : List Int))) :: L) ⟨rfl, trivial⟩ rfl ?_
  replace H := HKo6
  refine Cd.seq ?_
  refine Cd.region ?_
  refine Lst.run rfl rfl (by decide) (Ev.move rfl) ?_
  refine Lst.run rfl rfl (by decide) (Ev.assign rfl) ?_
  refine Lst.nil ?_
  refine At.then ?_
  obtain rfl := some_inj H
  refine Cd.ret ?_
  exact At.ret1 rfl (Res.tmp rfl) hF20 (List.Sublist.cons_cons _ (List.Sublist.cons _ (List.Sublist.refl _))) ⟨s3, rfl, rfl⟩
set_option maxRecDepth 20000 in
theorem slices_Concat_int_int_sim {a0 : List (List Int)} {s_a0 : Sl} {rs_a0 : List (LR Int)} {r : (List Int)} (H : slices_Concat_int_int a0 = some r) (w0 : World) (F : Frz) (M L : List Item) (hM : M.Sublist L) (hm_a0 : rs_a0.map LR.v = a0) (hs_a0 : Rd w0 F M s_a0 rs_a0) (ha_a0 : All LR.rel w0 F M rs_a0) : Ok Try.prog w0 51 [Sl.v s_a0] F (L) (fun _ L' v => ∃ (s33 : Sl), v = Sl.v s33 ∧ L' = (.own s33 3 1 (encs r)) :: L) := by
  unfold slices_Concat_int_int at H
  refine Ok.enter (m := 1) (n := 36) Try.func51 rfl rfl rfl (by decide) ?_
  refine Cd.env (e' := [(0, Sl.v s_a0)]) rfl ?_
  refine Cd.seq ?_
  refine Cd.region ?_
  refine Lst.addNil 3 1 ?_
  refine Lst.run rfl rfl (by decide) (Ev.assign rfl) ?_
  refine Lst.nil ?_
  refine At.then ?_
  refine Cd.seq ?_
  refine Cd.region ?_
  refine Lst.run rfl rfl (by decide) (Ev.assign rfl) ?_
  refine Lst.nil ?_
  refine At.then ?_
  refine Cd.seq ?_
  refine Cd.seq ?_
  refine Cd.region ?_
  refine Lst.run rfl rfl (by decide) (Ev.move rfl) ?_
  refine Lst.run rfl rfl (by decide) (Ev.lenM (map_len hm_a0) (Ev.lenS (α := LR Int) (xs := rs_a0) (by decide) rfl rfl Try.runUnderlying57 (hs_a0.mono (FLe.refl _) (List.Sublist.cons _ hM)))) ?_
  refine Lst.run rfl rfl (by decide) (Ev.move rfl) ?_
  refine Lst.nil ?_
  refine At.then ?_
  refine Cd.block ?_
  refine Cd.bound (Rd.le (α := LR Int) (xs := rs_a0) (by decide) (hs_a0.mono (FLe.refl _) (List.Sublist.cons _ hM))) (fun hN32 => ?_)
  rw [map_len hm_a0] at hN32
  obtain ⟨ol3, H, HKl3⟩ := bind_some H
  refine Cd.loop (σ := Nat × Nat × Int) (fun (i3, k3, y4) => [(0, Sl.v s_a0), (3, .int .i64 y4), (9, Sl.v s_a0), (10, .int .i64 (a0.length : Int)), (11, .int .i64 (i3 : Int))]) (fun (i3, k3, y4) => (.own Sl.nil 3 1 (encs ([] : List Int))) :: L) (fun _ => (fun (i3, k3, y4) => rangeF (slices_Concat_int_int_B0 a0) k3 i3 y4 = some ol3 ∧ i3 + k3 = a0.length)) (fun (i3, k3, y4) => k3) (0, a0.length, (0 : Int)) ⟨rfl, rfl, rfl, rfl, rfl, trivial⟩ rfl ⟨H, by omega⟩ ?_
  rintro F5 ⟨i3, k3, y4⟩ hF6 ⟨H, hik3⟩
  refine Cd.as (e' := [(0, Sl.v s_a0), (3, .int .i64 y4), (9, Sl.v s_a0), (10, .int .i64 (a0.length : Int)), (11, .int .i64 (i3 : Int))]) (L' := (.own Sl.nil 3 1 (encs ([] : List Int))) :: L) ⟨rfl, rfl, rfl, rfl, rfl, trivial⟩ rfl ?_
  rcases k3 with _ | k3
  · have hc3 : decide ((i3 : Int) < (a0.length : Int)) = false := decide_eq_false (by omega)
    replace H := rangeF_end H
    refine Cd.seq ?_
    refine Cd.region ?_
    refine Lst.run rfl rfl (by decide) (Ev.lss rfl rfl) ?_
    refine Lst.nil ?_
    refine At.then ?_
    refine Cd.seq ?_
    refine Cd.condF rfl hc3 ?_
    refine Cd.exit ?_
    refine At.then_exit ?_
    refine At.then_exit ?_
    refine At.in_exit ?_
    subst H
    replace H := HKl3
    refine At.then ?_
    refine Cd.seq ?_
    refine Cd.region ?_
    refine Lst.run rfl rfl (by decide) (Ev.move rfl) ?_
    obtain ⟨r12, h13, H⟩ := bind_some H
    refine Lst.call rfl rfl (by decide) (vs := [Sl.v Sl.nil, .int .i64 y4]) ⟨rfl, rfl, trivial⟩ Try.call137 (slices_Grow_int_int_sim h13 w0 _ M _ (List.Sublist.cons _ hM)) (fun F16 L' v hF17 hv => ?_)
    obtain ⟨s14, rfl, rfl⟩ := hv
    refine Lst.run rfl rfl (by decide) (Ev.assign rfl) ?_
    refine Lst.nil ?_
    refine At.then ?_
    refine Cd.seq ?_
    refine Cd.seq ?_
    refine Cd.region ?_
    refine Lst.run rfl rfl (by decide) (Ev.move rfl) ?_
    refine Lst.run rfl rfl (by decide) (Ev.lenM (map_len hm_a0) (Ev.lenS (α := LR Int) (xs := rs_a0) (by decide) rfl rfl Try.runUnderlying57 (hs_a0.mono (FLe.trans hF6 hF17) (List.Sublist.cons _ (List.Sublist.cons _ hM))))) ?_
    refine Lst.run rfl rfl (by decide) (Ev.move rfl) ?_
    refine Lst.nil ?_
    refine At.then ?_
    refine Cd.block ?_
    refine Cd.bound (Rd.le (α := LR Int) (xs := rs_a0) (by decide) (hs_a0.mono (FLe.trans hF6 hF17) (List.Sublist.cons _ (List.Sublist.cons _ hM)))) (fun hN31 => ?_)
    rw [map_len hm_a0] at hN31
    obtain ⟨ol19, H, HKl19⟩ := bind_some H
    refine Cd.loop (σ := Nat × Nat × Sl × (List Int)) (fun (i19, k19, s20, l21) => [(6, Sl.v s20), (25, Sl.v s_a0), (26, .int .i64 (a0.length : Int)), (27, .int .i64 (i19 : Int))]) (fun (i19, k19, s20, l21) => (.own s20 3 1 (encs l21)) :: (.own Sl.nil 3 1 (encs ([] : List Int))) :: L) (fun _ => (fun (i19, k19, s20, l21) => rangeF (slices_Concat_int_int_B2 a0) k19 i19 l21 = some ol19 ∧ i19 + k19 = a0.length)) (fun (i19, k19, s20, l21) => k19) (0, a0.length, s14, r12) ⟨rfl, rfl, rfl, rfl, trivial⟩ rfl ⟨H, by omega⟩ ?_
    rintro F22 ⟨i19, k19, s20, l21⟩ hF23 ⟨H, hik19⟩
    refine Cd.as (e' := [(6, Sl.v s20), (25, Sl.v s_a0), (26, .int .i64 (a0.length : Int)), (27, .int .i64 (i19 : Int))]) (L' := (.own s20 3 1 (encs l21)) :: (.own Sl.nil 3 1 (encs ([] : List Int))) :: L) ⟨rfl, rfl, rfl, rfl, trivial⟩ rfl ?_
    rcases k19 with _ | k19
    · have hc19 : decide ((i19 : Int) < (a0.length : Int)) = false := decide_eq_false (by omega)
      replace H := rangeF_end H
      refine Cd.seq ?_
      refine Cd.region ?_
      refine Lst.run rfl rfl (by decide) (Ev.lss rfl rfl) ?_
      refine Lst.nil ?_
      refine At.then ?_
      refine Cd.seq ?_
      refine Cd.condF rfl hc19 ?_
      refine Cd.exit ?_
      refine At.then_exit ?_
      refine At.then_exit ?_
      refine At.in_exit ?_
      subst H
      replace H := HKl19
      refine At.then ?_
      refine Cd.seq ?_
      refine Cd.region ?_
      refine Lst.run rfl rfl (by decide) (Ev.move rfl) ?_
      refine Lst.run rfl rfl (by decide) (Ev.assign rfl) ?_
      refine Lst.nil ?_
      refine At.then ?_
      obtain rfl := some_inj H
      refine Cd.ret ?_
      exact At.ret1 rfl (Res.tmp rfl) (FLe.trans (FLe.trans hF6 hF17) hF23) (List.Sublist.cons_cons _ (List.Sublist.cons _ (List.Sublist.refl _))) ⟨s20, rfl, rfl⟩
    have hc19 : decide ((i19 : Int) < (a0.length : Int)) = true := decide_eq_true (by omega)
    obtain ⟨c19, H, hgo19⟩ := rangeF_go H
    unfold slices_Concat_int_int_B2 at H
    try dsimp only at H
    refine Cd.seq ?_
    refine Cd.region ?_
    refine Lst.run rfl rfl (by decide) (Ev.lss rfl rfl) ?_
    refine Lst.nil ?_
    refine At.then ?_
    refine Cd.seq ?_
    refine Cd.condT rfl hc19 ?_
    refine Cd.skip ?_
    refine At.then ?_
    refine Cd.seq ?_
    refine Cd.block ?_
    refine Cd.seq ?_
    refine Cd.region ?_
    obtain ⟨x24, h25, H⟩ := bind_some H
    have g26 := lat_some h25
    obtain ⟨⟨r27v, r27h⟩, r27g, r27e, r27m⟩ := map_get hm_a0 g26.2.2
    obtain rfl : x24 = r27v := r27e.symm
    have r27q : Rd w0 _ _ r27h x24 := ha_a0 _ r27m
    refine Lst.run rfl rfl (by decide) (Ev.indexS (α := LR Int) (xs := rs_a0) rfl rfl Try.runUnderlying57 Try.sizeOf36 rfl (by decide) (hs_a0.mono (FLe.trans (FLe.trans hF6 hF17) hF23) (List.Sublist.cons _ (List.Sublist.cons _ hM))) g26.1 (by have := map_len hm_a0; omega)) ?_
    refine Lst.run rfl rfl (by decide) (Ev.loadS (α := LR Int) rfl (hs_a0.mono (FLe.trans (FLe.trans hF6 hF17) hF23) (List.Sublist.cons _ (List.Sublist.cons _ hM))) Try.isAgg36 (v := Sl.v r27h) ((Get.elemN (s := 1) rfl r27g (Get.here _)).off (by omega))) ?_
    refine Lst.run rfl rfl (by decide) (Ev.assign rfl) ?_
    refine Lst.nil ?_
    refine At.then ?_
    refine Cd.region ?_
    refine Lst.run rfl rfl (by decide) (Ev.move rfl) ?_
    refine Lst.run rfl rfl (by decide) (Ev.move rfl) ?_
    obtain ⟨u28, h29, H⟩ := bind_some H
    refine Lst.append (i := 0) (α := Int) (xs := l21) (ys := x24) rfl rfl (by decide) rfl rfl Try.runUnderlying36 Try.typeInfo3 rfl rfl rfl rfl rfl rfl (r27q.mono (FLe.trans (FLe.trans hF6 hF17) hF23) (List.Sublist.cons _ (List.Sublist.cons _ hM))) rfl (room_some h29) rfl (fun s30 => ?_)
    refine Lst.its (L' := (.own s30 3 1 (encs (l21 ++ x24))) :: (.own Sl.nil 3 1 (encs ([] : List Int))) :: L) rfl ?_
    refine Lst.run rfl rfl (by decide) (Ev.assign rfl) ?_
    refine Lst.nil ?_
    refine At.in_normal ?_
    refine At.then ?_
    refine Cd.region ?_
    refine Lst.run rfl rfl (by decide) (Ev.incr (by omega) rfl rfl) ?_
    refine Lst.run rfl rfl (by decide) (Ev.move rfl) ?_
    refine Lst.nil ?_
    exact At.meet (i19 + 1, k19, s30, l21 ++ x24) hF23 ⟨rfl, rfl, rfl, rfl, trivial⟩ rfl ⟨⟨hgo19 _ (some_inj H).symm, by omega⟩, Nat.lt_succ_self _⟩
  have hc3 : decide ((i3 : Int) < (a0.length : Int)) = true := decide_eq_true (by omega)
  obtain ⟨c3, H, hgo3⟩ := rangeF_go H
  unfold slices_Concat_int_int_B0 at H
  try dsimp only at H
  refine Cd.seq ?_
  refine Cd.region ?_
  refine Lst.run rfl rfl (by decide) (Ev.lss rfl rfl) ?_
  refine Lst.nil ?_
  refine At.then ?_
  refine Cd.seq ?_
  refine Cd.condT rfl hc3 ?_
  refine Cd.skip ?_
  refine At.then ?_
  refine Cd.seq ?_
  refine Cd.block ?_
  refine Cd.seq ?_
  refine Cd.region ?_
  obtain ⟨x7, h8, H⟩ := bind_some H
  have g9 := lat_some h8
  obtain ⟨⟨r10v, r10h⟩, r10g, r10e, r10m⟩ := map_get hm_a0 g9.2.2
  obtain rfl : x7 = r10v := r10e.symm
  have r10q : Rd w0 _ _ r10h x7 := ha_a0 _ r10m
  refine Lst.run rfl rfl (by decide) (Ev.indexS (α := LR Int) (xs := rs_a0) rfl rfl Try.runUnderlying57 Try.sizeOf36 rfl (by decide) (hs_a0.mono hF6 (List.Sublist.cons _ hM)) g9.1 (by have := map_len hm_a0; omega)) ?_
  refine Lst.run rfl rfl (by decide) (Ev.loadS (α := LR Int) rfl (hs_a0.mono hF6 (List.Sublist.cons _ hM)) Try.isAgg36 (v := Sl.v r10h) ((Get.elemN (s := 1) rfl r10g (Get.here _)).off (by omega))) ?_
  refine Lst.run rfl rfl (by decide) (Ev.assign rfl) ?_
  refine Lst.nil ?_
  refine At.then ?_
  refine Cd.seq ?_
  refine Cd.region ?_
  refine Lst.run rfl rfl (by decide) (Ev.move rfl) ?_
  refine Lst.run rfl rfl (by decide) (Ev.move rfl) ?_
  refine Lst.run rfl rfl (by decide) (Ev.lenS (α := Int) (xs := x7) (by decide) rfl rfl Try.runUnderlying36 (r10q.mono hF6 (List.Sublist.cons _ hM))) ?_
  refine Lst.run rfl rfl (by decide) (Ev.add rfl rfl) ?_
  refine Lst.run rfl rfl (by decide) (Ev.assign rfl) ?_
  refine Lst.nil ?_
  refine At.then ?_
  refine Cd.seq ?_
  refine Cd.region ?_
  refine Lst.run rfl rfl (by decide) (Ev.move rfl) ?_
  refine Lst.run rfl rfl (by decide) (Ev.lss rfl rfl) ?_
  refine Lst.nil ?_
  refine At.then ?_
  rcases Bool.eq_false_or_eq_true (decide ((w64 (y4 + (x7.length : Int))) < (0 : Int))) with hb11 | hb11
  · replace H := ite_t hb11 H
    cases H
  replace H := ite_f hb11 H
  refine Cd.condF rfl hb11 ?_
  refine Cd.skip ?_
  refine At.in_normal ?_
  refine At.then ?_
  refine Cd.region ?_
  refine Lst.run rfl rfl (by decide) (Ev.incr (by omega) rfl rfl) ?_
  refine Lst.run rfl rfl (by decide) (Ev.move rfl) ?_
  refine Lst.nil ?_
  exact At.meet (i3 + 1, k3, w64 (y4 + (x7.length : Int))) hF6 ⟨rfl, rfl, rfl, rfl, rfl, trivial⟩ rfl ⟨⟨hgo3 _ (some_inj H).symm, by omega⟩, Nat.lt_succ_self _⟩
set_option maxRecDepth 20000 in
theorem partref_Sum_sim {a0 : Str} {r : (BitVec 32)} (H : partref_Sum a0 = some r) (w0 : World) (F : Frz) (M L : List Item) (hM : M.Sublist L) : Ok Try.prog w0 18 [Str.v a0] F (L) (Is (.int .u32 r.toNat) (L)) := by
  unfold partref_Sum at H
  refine Ok.enter (m := 1) (n := 35) Try.func18 rfl rfl rfl (by decide) ?_
  refine Cd.env (e' := [(0, Str.v a0)]) rfl ?_
  refine Cd.seq ?_
  refine Cd.region ?_
  refine Lst.run rfl rfl (by decide) (Ev.assign rfl) ?_
  refine Lst.nil ?_
  refine At.then ?_
  refine Cd.seq ?_
  refine Cd.region ?_
  refine Lst.run rfl rfl (by decide) (Ev.assign rfl) ?_
  refine Lst.nil ?_
  refine At.then ?_
  refine Cd.seq ?_
  refine Cd.seq ?_
  refine Cd.region ?_
  refine Lst.run rfl rfl (by decide) (Ev.move rfl) ?_
  refine Lst.run rfl rfl (by decide) (Ev.lenStr rfl rfl Try.runUnderlying9) ?_
  refine Lst.run rfl rfl (by decide) (Ev.move rfl) ?_
  refine Lst.nil ?_
  refine At.then ?_
  refine Cd.block ?_
  obtain ⟨nn5, hN16, H⟩ := bind_some H
  replace hN16 := upTo_some hN16
  obtain ⟨ol1, H, HKl1⟩ := bind_some H
  refine Cd.loop (σ := Nat × Nat × (BitVec 64)) (fun (i1, k1, y2) => [(0, Str.v a0), (3, .int .u64 y2.toNat), (8, .int .i64 (a0.length : Int)), (9, .int .i64 (i1 : Int))]) (fun (i1, k1, y2) => L) (fun _ => (fun (i1, k1, y2) => rangeF (partref_Sum_B0 a0) k1 i1 y2 = some ol1 ∧ i1 + k1 = nn5)) (fun (i1, k1, y2) => k1) (0, nn5, (4294967295 : BitVec 64)) ⟨rfl, rfl, rfl, rfl, trivial⟩ rfl ⟨H, by omega⟩ ?_
  rintro F3 ⟨i1, k1, y2⟩ hF4 ⟨H, hik1⟩
  refine Cd.as (e' := [(0, Str.v a0), (3, .int .u64 y2.toNat), (8, .int .i64 (a0.length : Int)), (9, .int .i64 (i1 : Int))]) (L' := L) ⟨rfl, rfl, rfl, rfl, trivial⟩ rfl ?_
  rcases k1 with _ | k1
  · have hc1 : decide ((i1 : Int) < (a0.length : Int)) = false := decide_eq_false (by omega)
    replace H := rangeF_end H
    refine Cd.seq ?_
    refine Cd.region ?_
    refine Lst.run rfl rfl (by decide) (Ev.lss rfl rfl) ?_
    refine Lst.nil ?_
    refine At.then ?_
    refine Cd.seq ?_
    refine Cd.condF rfl hc1 ?_
    refine Cd.exit ?_
    refine At.then_exit ?_
    refine At.then_exit ?_
    refine At.in_exit ?_
    subst H
    replace H := HKl1
    refine At.then ?_
    refine Cd.seq ?_
    refine Cd.region ?_
    refine Lst.run rfl rfl (by decide) (Ev.move rfl) ?_
    refine Lst.run rfl rfl (by decide) (Ev.subU64 (i := (4294967295 : BitVec 64)) (j := y2) rfl rfl) ?_
    refine Lst.run rfl rfl (by decide) (Ev.convTo32 rfl Try.runUnderlying144 Try.runUnderlying33) ?_
    refine Lst.run rfl rfl (by decide) (Ev.assign rfl) ?_
    refine Lst.nil ?_
    refine At.then ?_
    obtain rfl := some_inj H
    refine Cd.ret ?_
    exact At.ret1 rfl (Res.tmp rfl) hF4 (List.Sublist.refl _) ⟨rfl, rfl⟩
  have hc1 : decide ((i1 : Int) < (a0.length : Int)) = true := decide_eq_true (by omega)
  obtain ⟨c1, H, hgo1⟩ := rangeF_go H
  unfold partref_Sum_B0 at H
  try dsimp only at H
  refine Cd.seq ?_
  refine Cd.region ?_
  refine Lst.run rfl rfl (by decide) (Ev.lss rfl rfl) ?_
  refine Lst.nil ?_
  refine At.then ?_
  refine Cd.seq ?_
  refine Cd.condT rfl hc1 ?_
  refine Cd.skip ?_
  refine At.then ?_
  refine Cd.seq ?_
  refine Cd.block ?_
  refine Cd.seq ?_
  refine Cd.region ?_
  refine Lst.run rfl rfl (by decide) (Ev.move rfl) ?_
  refine Lst.run rfl rfl (by decide) (Ev.assign rfl) ?_
  refine Lst.nil ?_
  refine At.then ?_
  refine Cd.seq ?_
  refine Cd.region ?_
  refine Lst.run rfl rfl (by decide) (Ev.move rfl) ?_
  refine Lst.nil ?_
  refine At.then ?_
  refine Cd.block ?_
  obtain ⟨ol6, H, HKl6⟩ := bind_some H
  refine Cd.loop (σ := Nat × Nat × (BitVec 64)) (fun (i6, k6, y7) => [(0, Str.v a0), (3, .int .u64 y7.toNat), (4, .int .i64 (i1 : Int)), (8, .int .i64 (a0.length : Int)), (9, .int .i64 (i1 : Int)), (12, .int .i64 (i6 : Int))]) (fun (i6, k6, y7) => L) (fun _ => (fun (i6, k6, y7) => rangeF (partref_Sum_B2 a0 i1) k6 i6 y7 = some ol6 ∧ i6 + k6 = 8)) (fun (i6, k6, y7) => k6) (0, 8, y2) ⟨rfl, rfl, rfl, rfl, rfl, rfl, trivial⟩ rfl ⟨H, by omega⟩ ?_
  rintro F8 ⟨i6, k6, y7⟩ hF9 ⟨H, hik6⟩
  refine Cd.as (e' := [(0, Str.v a0), (3, .int .u64 y7.toNat), (4, .int .i64 (i1 : Int)), (8, .int .i64 (a0.length : Int)), (9, .int .i64 (i1 : Int)), (12, .int .i64 (i6 : Int))]) (L' := L) ⟨rfl, rfl, rfl, rfl, rfl, rfl, trivial⟩ rfl ?_
  rcases k6 with _ | k6
  · have hc6 : decide ((i6 : Int) < (8 : Int)) = false := decide_eq_false (by omega)
    replace H := rangeF_end H
    refine Cd.seq ?_
    refine Cd.region ?_
    refine Lst.run rfl rfl (by decide) (Ev.lss rfl rfl) ?_
    refine Lst.nil ?_
    refine At.then ?_
    refine Cd.seq ?_
    refine Cd.condF rfl hc6 ?_
    refine Cd.exit ?_
    refine At.then_exit ?_
    refine At.then_exit ?_
    refine At.in_exit ?_
    subst H
    replace H := HKl6
    refine At.in_normal ?_
    refine At.then ?_
    refine Cd.region ?_
    refine Lst.run rfl rfl (by decide) (Ev.incr (by omega) rfl rfl) ?_
    refine Lst.run rfl rfl (by decide) (Ev.move rfl) ?_
    refine Lst.nil ?_
    exact At.meet (i1 + 1, k1, y7) (FLe.trans hF4 hF9) ⟨rfl, rfl, rfl, rfl, trivial⟩ rfl ⟨⟨hgo1 _ (some_inj H).symm, by omega⟩, Nat.lt_succ_self _⟩
  have hc6 : decide ((i6 : Int) < (8 : Int)) = true := decide_eq_true (by omega)
  obtain ⟨c6, H, hgo6⟩ := rangeF_go H
  unfold partref_Sum_B2 at H
  try dsimp only at H
  refine Cd.seq ?_
  refine Cd.region ?_
  refine Lst.run rfl rfl (by decide) (Ev.lss rfl rfl) ?_
  refine Lst.nil ?_
  refine At.then ?_
  refine Cd.seq ?_
  refine Cd.condT rfl hc6 ?_
  refine Cd.skip ?_
  refine At.then ?_
  refine Cd.seq ?_
  refine Cd.block ?_
  refine Cd.seq ?_
  refine Cd.region ?_
  refine Lst.run rfl rfl (by decide) (Ev.move rfl) ?_
  refine Lst.run rfl rfl (by decide) (Ev.assign rfl) ?_
  refine Lst.nil ?_
  refine At.then ?_
  refine Cd.seq ?_
  refine Cd.region ?_
  refine Lst.run rfl rfl (by decide) (Ev.move rfl) ?_
  refine Lst.run rfl rfl (by decide) (Ev.remU64 (i := y7) (j := (2 : BitVec 64)) rfl rfl (by decide)) ?_
  refine Lst.run rfl rfl (by decide) (Ev.move rfl) ?_
  refine Lst.run rfl rfl (by decide) (Ev.move rfl) ?_
  obtain ⟨x10, h11, H⟩ := bind_some H
  refine Lst.run rfl rfl (by decide) (Ev.indexStr rfl rfl Try.runUnderlying9 h11) ?_
  refine Lst.run rfl rfl (by decide) (Ev.convTo64 rfl Try.runUnderlying5 Try.runUnderlying144) ?_
  refine Lst.run rfl rfl (by decide) (Ev.move rfl) ?_
  obtain ⟨n12, h13, H⟩ := bind_some H
  refine Lst.run rfl rfl (by decide) (Ev.shrU64 (i := BitVec.ofInt 64 (x10.toBitVec.toNat : Int)) (m := n12) rfl (congrArg some (congrArg (Value.int .i64) (cnt_some h13)))) ?_
  refine Lst.run rfl rfl (by decide) (Ev.remU64 (i := (BitVec.ofInt 64 (x10.toBitVec.toNat : Int)) >>> n12) (j := (2 : BitVec 64)) rfl rfl (by decide)) ?_
  refine Lst.run rfl rfl (by decide) (Ev.neq rfl rfl) ?_
  refine Lst.run rfl rfl (by decide) (Ev.assign rfl) ?_
  refine Lst.nil ?_
  refine At.then ?_
  refine Cd.seq ?_
  refine Cd.region ?_
  refine Lst.run rfl rfl (by decide) (Ev.move rfl) ?_
  refine Lst.run rfl rfl (by decide) (Ev.quoU64 (i := y7) (j := (2 : BitVec 64)) rfl rfl (by decide)) ?_
  refine Lst.run rfl rfl (by decide) (Ev.assign rfl) ?_
  refine Lst.nil ?_
  refine At.then ?_
  refine Cd.seq ?_
  refine Cd.as (e' := [(0, Str.v a0), (3, .int .u64 (y7 / (2 : BitVec 64)).toNat), (4, .int .i64 (i1 : Int)), (8, .int .i64 (a0.length : Int)), (9, .int .i64 (i1 : Int)), (12, .int .i64 (i6 : Int)), (6, .bool (((y7 % (2 : BitVec 64)).toNat : Int) != ((((BitVec.ofInt 64 (x10.toBitVec.toNat : Int)) >>> n12) % (2 : BitVec 64)).toNat : Int)))]) (L' := L) ⟨rfl, rfl, rfl, rfl, rfl, rfl, rfl, trivial⟩ rfl ?_
  refine Cd.region ?_
  refine Lst.run rfl rfl (by decide) (Ev.move rfl) ?_
  refine Lst.nil ?_
  refine At.then ?_
  rcases (Bool.eq_false_or_eq_true (((y7 % (2 : BitVec 64)).toNat : Int) != ((((BitVec.ofInt 64 (x10.toBitVec.toNat : Int)) >>> n12) % (2 : BitVec 64)).toNat : Int))).symm with hb15 | hb15
  · replace H := ite_f hb15 H
    refine Cd.condF rfl hb15 ?_
    refine Cd.skip ?_
    refine At.in_normal ?_
    refine At.then ?_
    refine Cd.region ?_
    refine Lst.run rfl rfl (by decide) (Ev.incr (by omega) rfl rfl) ?_
    refine Lst.run rfl rfl (by decide) (Ev.move rfl) ?_
    refine Lst.nil ?_
    exact At.meet (i6 + 1, k6, y7 / (2 : BitVec 64)) hF9 ⟨rfl, rfl, rfl, rfl, rfl, rfl, trivial⟩ rfl ⟨⟨hgo6 _ (some_inj H).symm, by omega⟩, Nat.lt_succ_self _⟩
  replace H := ite_t hb15 H
  refine Cd.condT rfl hb15 ?_
  refine Cd.region ?_
  refine Lst.run rfl rfl (by decide) (Ev.move rfl) ?_
  refine Lst.run rfl rfl (by decide) (Ev.xorU64 (i := y7 / (2 : BitVec 64)) (j := (2197175160 : BitVec 64)) rfl rfl) ?_
  refine Lst.run rfl rfl (by decide) (Ev.assign rfl) ?_
  refine Lst.nil ?_
  refine At.in_normal ?_
  refine At.then ?_
  refine Cd.region ?_
  refine Lst.run rfl rfl (by decide) (Ev.incr (by omega) rfl rfl) ?_
  refine Lst.run rfl rfl (by decide) (Ev.move rfl) ?_
  refine Lst.nil ?_
  exact At.meet (i6 + 1, k6, (y7 / (2 : BitVec 64)) ^^^ (2197175160 : BitVec 64)) hF9 ⟨rfl, rfl, rfl, rfl, rfl, rfl, trivial⟩ rfl ⟨⟨hgo6 _ (some_inj H).symm, by omega⟩, Nat.lt_succ_self _⟩
set_option maxRecDepth 20000 in
theorem partref_NoteText_sim {a0 : Note} {r : Str} (H : partref_NoteText a0 = some r) (w0 : World) (F : Frz) (M L : List Item) (hM : M.Sublist L) : Ok Try.prog w0 14 [.agg (enc a0).toArray] F (L) (Is (Str.v r) (L)) := by
  unfold partref_NoteText at H
  refine Ok.enter (m := 1) (n := 71) Try.func14 rfl rfl rfl (by decide) ?_
  refine Cd.env (e' := [(0, .agg (enc a0).toArray)]) rfl ?_
  refine Cd.seq ?_
  refine Cd.region ?_
  refine Lst.box rfl rfl (by decide) rfl (cs := enc a0) rfl (fun b1 => ?_)
  refine Lst.run rfl rfl (by decide) (Ev.assign rfl) ?_
  refine Lst.nil ?_
  refine At.then ?_
  refine Cd.seq ?_
  refine Cd.region ?_
  refine Lst.run rfl rfl (by decide) (Ev.fieldAddr (off' := 0) rfl Try.runUnderlying25 rfl Try.sizeOf3 rfl rfl) ?_
  refine Lst.run rfl rfl (by decide) (Ev.load (i := 0) rfl rfl Try.isAgg3 (v := .int .i64 a0.Kind) ((Note.get_Kind (Get.here _)).off (by rfl))) ?_
  refine Lst.run rfl rfl (by decide) (Ev.convTo8 rfl Try.runUnderlying3 Try.runUnderlying5) ?_
  refine Lst.run rfl rfl (by decide) (Ev.fieldAddr (off' := 1) rfl Try.runUnderlying25 rfl Try.sizeOf3 rfl rfl) ?_
  refine Lst.run rfl rfl (by decide) (Ev.load (i := 0) rfl rfl Try.isAgg3 (v := .int .i64 a0.From) ((Note.get_From (Get.here _)).off (by rfl))) ?_
  refine Lst.run rfl rfl (by decide) (Ev.convTo8 rfl Try.runUnderlying3 Try.runUnderlying5) ?_
  refine Lst.run rfl rfl (by decide) (Ev.fieldAddr (off' := 2) rfl Try.runUnderlying25 rfl Try.sizeOf3 rfl rfl) ?_
  refine Lst.run rfl rfl (by decide) (Ev.load (i := 0) rfl rfl Try.isAgg3 (v := .int .i64 a0.To) ((Note.get_To (Get.here _)).off (by rfl))) ?_
  refine Lst.run rfl rfl (by decide) (Ev.convTo8 rfl Try.runUnderlying3 Try.runUnderlying5) ?_
  refine Lst.buildSlice (α := BitVec 8) (xs := ([BitVec.ofInt 8 a0.Kind, BitVec.ofInt 8 a0.From, BitVec.ofInt 8 a0.To] : List (BitVec 8))) (pv := [(0, .int .u8 (BitVec.ofInt 8 a0.Kind).toNat), (1, .int .u8 (BitVec.ofInt 8 a0.From).toNat), (2, .int .u8 (BitVec.ofInt 8 a0.To).toNat)]) rfl rfl (by decide) ⟨rfl, rfl, ⟨rfl, rfl, ⟨rfl, rfl, trivial⟩⟩⟩ (run_buildSlice (α := BitVec 8) (z0 := (0 : BitVec 8)) (xs := ([BitVec.ofInt 8 a0.Kind, BitVec.ofInt 8 a0.From, BitVec.ofInt 8 a0.To] : List (BitVec 8))) Try.runUnderlying139 Try.sizeOf5 Try.zeroValue5 rfl rfl rfl (by decide) rfl (fill_cons (cs := encs (List.replicate 3 (0 : BitVec 8))) (cs' := encs ((List.replicate 3 (0 : BitVec 8)).set 0 (BitVec.ofInt 8 a0.Kind))) (vs := [.int .u8 (BitVec.ofInt 8 a0.Kind).toNat]) rfl rfl rfl ((Put.elemN (s := 1) (i := 0) (x := (0 : BitVec 8)) (y := (BitVec.ofInt 8 a0.Kind)) rfl rfl (Put.here (vs := [.int .u8 (BitVec.ofInt 8 a0.Kind).toNat]) rfl)).off rfl) (fill_cons (cs := encs ((List.replicate 3 (0 : BitVec 8)).set 0 (BitVec.ofInt 8 a0.Kind))) (cs' := encs (((List.replicate 3 (0 : BitVec 8)).set 0 (BitVec.ofInt 8 a0.Kind)).set 1 (BitVec.ofInt 8 a0.From))) (vs := [.int .u8 (BitVec.ofInt 8 a0.From).toNat]) rfl rfl rfl ((Put.elemN (s := 1) (i := 1) (x := (0 : BitVec 8)) (y := (BitVec.ofInt 8 a0.From)) rfl rfl (Put.here (vs := [.int .u8 (BitVec.ofInt 8 a0.From).toNat]) rfl)).off rfl) (fill_cons (cs := encs (((List.replicate 3 (0 : BitVec 8)).set 0 (BitVec.ofInt 8 a0.Kind)).set 1 (BitVec.ofInt 8 a0.From))) (cs' := encs ((((List.replicate 3 (0 : BitVec 8)).set 0 (BitVec.ofInt 8 a0.Kind)).set 1 (BitVec.ofInt 8 a0.From)).set 2 (BitVec.ofInt 8 a0.To))) (vs := [.int .u8 (BitVec.ofInt 8 a0.To).toNat]) rfl rfl rfl ((Put.elemN (s := 1) (i := 2) (x := (0 : BitVec 8)) (y := (BitVec.ofInt 8 a0.To)) rfl rfl (Put.here (vs := [.int .u8 (BitVec.ofInt 8 a0.To).toNat]) rfl)).off rfl) fill_nil)))) rfl rfl (by decide) (fun s3 _ => ?_)
  refine Lst.run rfl rfl (by decide) (Ev.assign rfl) ?_
  refine Lst.nil ?_
  refine At.then ?_
  refine Cd.seq ?_
  refine Cd.seq ?_
  obtain ⟨r15, h16, H⟩ := bind_some H
  obtain ⟨o24, h25, H⟩ := Let_some H
  refine Cd.headMeet (σ := Sl × (List Int)) 11 (fun (s22, l23) => [(1, .pointer (some ⟨b1, 0, none⟩)), (3, Sl.v s3), (26, Sl.v s22), (27, .int .i64 (r15.length : Int)), (28, .int .i64 (0 : Int))]) (fun (s22, l23) => (.own s22 3 1 (encs l23)) :: (.own s3 5 1 (encs ([BitVec.ofInt 8 a0.Kind, BitVec.ofInt 8 a0.From, BitVec.ofInt 8 a0.To] : List (BitVec 8)))) :: (.blk b1 (enc a0) 25) :: L) (fun _ (s22, l23) => l23 = o24) (by kernel_rfl) (by kernel_rfl) (behind_all rfl) (by kernel_rfl) (fun hsel hlt => ?_) ?_
  · refine HdJ.keep (fun w => St w0 F ((.own s3 5 1 (encs ([BitVec.ofInt 8 a0.Kind, BitVec.ofInt 8 a0.From, BitVec.ofInt 8 a0.To] : List (BitVec 8)))) :: (.blk b1 (enc a0) 25) :: L) w) (fun w h => trivial) ?_
    refine HdJ.takeK hsel hlt 0 (fun w h => h.sublist (List.Sublist.cons_cons _ (List.Sublist.cons_cons _ (List.Sublist.refl _)))) rfl rfl (by decide) (by decide) (by kernel_rfl) (by kernel_rfl) rfl (Ev.fieldAddr (off' := 3) rfl Try.runUnderlying25 rfl Try.sizeOf3 rfl rfl) ?_
    refine HdJ.takeK hsel hlt 1 (fun w h => h.sublist (List.Sublist.cons_cons _ (List.Sublist.cons_cons _ (List.Sublist.refl _)))) rfl rfl (by decide) (by decide) (by kernel_rfl) (by kernel_rfl) rfl (Ev.load (i := 1) rfl rfl Try.isAgg3 (v := .int .i64 a0.View) ((Note.get_View (Get.here _)).off (by rfl))) ?_
    refine HdJ.takeK hsel hlt 2 (fun w h => h.sublist (List.Sublist.cons_cons _ (List.Sublist.cons_cons _ (List.Sublist.refl _)))) rfl rfl (by decide) (by decide) (by kernel_rfl) (by kernel_rfl) rfl (Ev.fieldAddr (off' := 4) rfl Try.runUnderlying25 rfl Try.sizeOf3 rfl rfl) ?_
    refine HdJ.takeK hsel hlt 3 (fun w h => h.sublist (List.Sublist.cons_cons _ (List.Sublist.cons_cons _ (List.Sublist.refl _)))) rfl rfl (by decide) (by decide) (by kernel_rfl) (by kernel_rfl) rfl (Ev.load (i := 1) rfl rfl Try.isAgg3 (v := .int .i64 a0.Seq) ((Note.get_Seq (Get.here _)).off (by rfl))) ?_
    refine HdJ.takeK hsel hlt 5 (fun w h => h.sublist (List.Sublist.cons_cons _ (List.Sublist.cons_cons _ (List.Sublist.refl _)))) rfl rfl (by decide) (by decide) (by kernel_rfl) (by kernel_rfl) rfl (Ev.fieldAddr (off' := 5) rfl Try.runUnderlying25 rfl Try.sizeOf23 rfl rfl) ?_
    refine HdJ.takeK hsel hlt 6 (fun w h => h.sublist (List.Sublist.cons_cons _ (List.Sublist.cons_cons _ (List.Sublist.refl _)))) rfl rfl (by decide) (by decide) (by kernel_rfl) (by kernel_rfl) rfl (Ev.sliceAll rfl Try.runUnderlying23 Try.sizeOf3) ?_
    refine HdJ.takeK hsel hlt 10 (fun w h => h.sublist (List.Sublist.cons_cons _ (List.Sublist.cons_cons _ (List.Sublist.refl _)))) rfl rfl (by decide) (by decide) (by kernel_rfl) (by kernel_rfl) rfl (Ev.move rfl) ?_
    refine HdJ.step [4] (by kernel_rfl) rfl ?_
    refine HdStep.cons (by decide) rfl (fun inv => ?_) ?_
    · refine Lst.buildSlice (α := Int) (xs := ([a0.View, a0.Seq] : List Int)) (pv := [(0, .int .i64 a0.View), (1, .int .i64 a0.Seq)]) rfl rfl (by decide) ⟨rfl, rfl, ⟨rfl, rfl, trivial⟩⟩ (run_buildSlice (α := Int) (z0 := (0 : Int)) (xs := ([a0.View, a0.Seq] : List Int)) Try.runUnderlying36 Try.sizeOf3 Try.zeroValue3 rfl rfl rfl (by decide) rfl (fill_cons (cs := encs (List.replicate 2 (0 : Int))) (cs' := encs ((List.replicate 2 (0 : Int)).set 0 a0.View)) (vs := [.int .i64 a0.View]) rfl rfl rfl ((Put.elemN (s := 1) (i := 0) (x := (0 : Int)) (y := a0.View) rfl rfl (Put.here (vs := [.int .i64 a0.View]) rfl)).off rfl) (fill_cons (cs := encs ((List.replicate 2 (0 : Int)).set 0 a0.View)) (cs' := encs (((List.replicate 2 (0 : Int)).set 0 a0.View).set 1 a0.Seq)) (vs := [.int .i64 a0.Seq]) rfl rfl rfl ((Put.elemN (s := 1) (i := 1) (x := (0 : Int)) (y := a0.Seq) rfl rfl (Put.here (vs := [.int .i64 a0.Seq]) rfl)).off rfl) fill_nil))) rfl rfl (by decide) (fun s26 _ => ?_)
      refine Lst.nil ?_
      refine At.hd inv (fun w h => (h.weaken (FLe.refl _)).sublist (List.Sublist.cons _ (List.Sublist.cons_cons _ (List.Sublist.cons_cons _ (List.Sublist.refl _))))) ?_
      refine HdJ.step [7] (by kernel_rfl) rfl ?_
      refine HdStep.cons (by decide) rfl (fun inv => ?_) ?_
      · refine Lst.freeze (i := 0) rfl (fun F27 hF28 hz29 => ?_)
        have hq30 : Rd w0 F27 [] s26 ([a0.View, a0.Seq] : List Int) := Rd.frozen hz29 rfl rfl
        refine Lst.its (L' := (.own s3 5 1 (encs ([BitVec.ofInt 8 a0.Kind, BitVec.ofInt 8 a0.From, BitVec.ofInt 8 a0.To] : List (BitVec 8)))) :: (.blk b1 (enc a0) 25) :: L) rfl ?_
        have hm32 : ([(LR.mk ([a0.View, a0.Seq] : List Int) s26), (LR.mk a0.At.toList (Sl.mk (some ⟨b1, 5, none⟩) 6 6))] : List (LR Int)).map LR.v = ([([a0.View, a0.Seq] : List Int), a0.At.toList] : List (List Int)) := rfl
        have ha33 : All LR.rel w0 F27 ((.own s3 5 1 (encs ([BitVec.ofInt 8 a0.Kind, BitVec.ofInt 8 a0.From, BitVec.ofInt 8 a0.To] : List (BitVec 8)))) :: (.blk b1 (enc a0) 25) :: L) ([(LR.mk ([a0.View, a0.Seq] : List Int) s26), (LR.mk a0.At.toList (Sl.mk (some ⟨b1, 5, none⟩) 6 6))] : List (LR Int)) := All.of2 (hq30.mono (FLe.refl _) (List.nil_sublist _)) (Rd.blk (i := 1) (xs := a0.At.toList) rfl ((Note.get_At (Get.here _)).off (by rfl)) (by simp) (by decide))
        refine Lst.buildSlice (α := LR Int) (xs := ([(LR.mk ([a0.View, a0.Seq] : List Int) s26), (LR.mk a0.At.toList (Sl.mk (some ⟨b1, 5, none⟩) 6 6))] : List (LR Int))) (pv := [(0, Sl.v s26), (1, Sl.v (Sl.mk (some ⟨b1, 5, none⟩) 6 6))]) rfl rfl (by decide) ⟨rfl, rfl, ⟨rfl, rfl, trivial⟩⟩ (run_buildSlice (α := LR Int) (z0 := ((LR.mk [] Sl.nil) : LR Int)) (xs := ([(LR.mk ([a0.View, a0.Seq] : List Int) s26), (LR.mk a0.At.toList (Sl.mk (some ⟨b1, 5, none⟩) 6 6))] : List (LR Int))) Try.runUnderlying57 Try.sizeOf36 Try.zeroValue36 rfl rfl rfl (by decide) rfl (fill_cons (cs := encs (List.replicate 2 ((LR.mk [] Sl.nil) : LR Int))) (cs' := encs ((List.replicate 2 ((LR.mk [] Sl.nil) : LR Int)).set 0 (LR.mk ([a0.View, a0.Seq] : List Int) s26))) (vs := [Sl.v s26]) rfl rfl rfl ((Put.elemN (s := 1) (i := 0) (x := ((LR.mk [] Sl.nil) : LR Int)) (y := (LR.mk ([a0.View, a0.Seq] : List Int) s26)) rfl rfl (Put.here (vs := [Sl.v s26]) rfl)).off rfl) (fill_cons (cs := encs ((List.replicate 2 ((LR.mk [] Sl.nil) : LR Int)).set 0 (LR.mk ([a0.View, a0.Seq] : List Int) s26))) (cs' := encs (((List.replicate 2 ((LR.mk [] Sl.nil) : LR Int)).set 0 (LR.mk ([a0.View, a0.Seq] : List Int) s26)).set 1 (LR.mk a0.At.toList (Sl.mk (some ⟨b1, 5, none⟩) 6 6)))) (vs := [Sl.v (Sl.mk (some ⟨b1, 5, none⟩) 6 6)]) rfl rfl rfl ((Put.elemN (s := 1) (i := 1) (x := ((LR.mk [] Sl.nil) : LR Int)) (y := (LR.mk a0.At.toList (Sl.mk (some ⟨b1, 5, none⟩) 6 6))) rfl rfl (Put.here (vs := [Sl.v (Sl.mk (some ⟨b1, 5, none⟩) 6 6)]) rfl)).off rfl) fill_nil))) rfl rfl (by decide) (fun s31 _ => ?_)
        refine Lst.nil ?_
        refine At.hd inv (fun w h => (h.weaken hF28).sublist (List.Sublist.cons _ (List.Sublist.cons_cons _ (List.Sublist.cons_cons _ (List.Sublist.refl _))))) ?_
        refine HdJ.step [8] (by kernel_rfl) rfl ?_
        refine HdStep.cons (by decide) rfl (fun inv => ?_) ?_
        · refine Lst.call rfl rfl (by decide) (vs := [Sl.v s31]) ⟨rfl, trivial⟩ Try.call51 (slices_Concat_int_int_sim h16 w0 _ _ _ (List.Sublist.refl _) hm32 (Rd.own (i := 0) rfl rfl rfl) (All.monoLR ha33 (FLe.refl _) (List.Sublist.cons _ (List.Sublist.refl _)))) (fun F35 L' v hF36 hv => ?_)
          obtain ⟨s34, rfl, rfl⟩ := hv
          refine Lst.nil ?_
          refine At.hd inv (fun w h => (h.weaken (FLe.trans hF28 hF36)).sublist (List.Sublist.cons _ (List.Sublist.cons _ (List.Sublist.cons_cons _ (List.Sublist.cons_cons _ (List.Sublist.refl _)))))) ?_
          refine HdJ.keep (fun w => St w0 F35 ((.own s34 3 1 (encs r15)) :: (.own s31 36 1 (encs ([(LR.mk ([a0.View, a0.Seq] : List Int) s26), (LR.mk a0.At.toList (Sl.mk (some ⟨b1, 5, none⟩) 6 6))] : List (LR Int)))) :: (.own s3 5 1 (encs ([BitVec.ofInt 8 a0.Kind, BitVec.ofInt 8 a0.From, BitVec.ofInt 8 a0.To] : List (BitVec 8)))) :: (.blk b1 (enc a0) 25) :: L) w) (fun w h => (h.weaken (FLe.trans hF28 hF36)).sublist (List.Sublist.cons _ (List.Sublist.cons _ (List.Sublist.cons_cons _ (List.Sublist.cons_cons _ (List.Sublist.refl _)))))) ?_
          refine HdJ.takeK hsel hlt 9 (fun w h => h.sublist (List.Sublist.cons_cons _ (List.Sublist.cons_cons _ (List.Sublist.cons_cons _ (List.Sublist.cons_cons _ (List.Sublist.refl _)))))) rfl rfl (by decide) (by decide) (by kernel_rfl) (by kernel_rfl) rfl (Ev.lenS (α := Int) (xs := r15) (by decide) rfl rfl Try.runUnderlying36 (Rd.own (i := 0) rfl rfl rfl)) ?_
          refine HdJ.done (by kernel_rfl) ?_
          refine At.less (L' := (.own s34 3 1 (encs r15)) :: (.own s3 5 1 (encs ([BitVec.ofInt 8 a0.Kind, BitVec.ofInt 8 a0.From, BitVec.ofInt 8 a0.To] : List (BitVec 8)))) :: (.blk b1 (enc a0) 25) :: L) (List.Sublist.cons_cons _ (List.Sublist.cons _ (List.Sublist.cons_cons _ (List.Sublist.cons_cons _ (List.Sublist.refl _))))) ?_
          exact At.meetN (s34, r15) (FLe.trans hF28 hF36) ⟨rfl, rfl, rfl, rfl, rfl, trivial⟩ rfl h25
        exact trivial
      exact trivial
    exact trivial
  rintro F37 ⟨s22, l23⟩ hF38 hy
  subst hy
  refine Lst.as (e' := [(1, .pointer (some ⟨b1, 0, none⟩)), (3, Sl.v s3), (26, Sl.v s22), (27, .int .i64 (r15.length : Int)), (28, .int .i64 (0 : Int))]) (L' := (.own s22 3 1 (encs l23)) :: (.own s3 5 1 (encs ([BitVec.ofInt 8 a0.Kind, BitVec.ofInt 8 a0.From, BitVec.ofInt 8 a0.To] : List (BitVec 8)))) :: (.blk b1 (enc a0) 25) :: L) ⟨rfl, rfl, rfl, rfl, rfl, trivial⟩ rfl ?_
  refine Lst.nil ?_
  refine At.then ?_
  refine Cd.block ?_
  obtain ⟨nn44, hN63, H⟩ := bind_some H
  replace hN63 := upTo_some hN63
  obtain ⟨ol39, H, HKl39⟩ := bind_some H
  refine Cd.loop (σ := Nat × Nat × Sl × (List (BitVec 8))) (fun (i39, k39, s40, l41) => [(1, .pointer (some ⟨b1, 0, none⟩)), (3, Sl.v s40), (26, Sl.v s22), (27, .int .i64 (r15.length : Int)), (28, .int .i64 (i39 : Int))]) (fun (i39, k39, s40, l41) => (.own s22 3 1 (encs l23)) :: (.own s40 5 1 (encs l41)) :: (.blk b1 (enc a0) 25) :: L) (fun _ => (fun (i39, k39, s40, l41) => rangeF (partref_NoteText_B0 l23) k39 i39 l41 = some ol39 ∧ i39 + k39 = nn44)) (fun (i39, k39, s40, l41) => k39) (0, nn44, s3, ([BitVec.ofInt 8 a0.Kind, BitVec.ofInt 8 a0.From, BitVec.ofInt 8 a0.To] : List (BitVec 8))) ⟨rfl, rfl, rfl, rfl, rfl, trivial⟩ rfl ⟨H, by omega⟩ ?_
  rintro F42 ⟨i39, k39, s40, l41⟩ hF43 ⟨H, hik39⟩
  refine Cd.as (e' := [(1, .pointer (some ⟨b1, 0, none⟩)), (3, Sl.v s40), (26, Sl.v s22), (27, .int .i64 (r15.length : Int)), (28, .int .i64 (i39 : Int))]) (L' := (.own s22 3 1 (encs l23)) :: (.own s40 5 1 (encs l41)) :: (.blk b1 (enc a0) 25) :: L) ⟨rfl, rfl, rfl, rfl, rfl, trivial⟩ rfl ?_
  rcases k39 with _ | k39
  · have hc39 : decide ((i39 : Int) < (r15.length : Int)) = false := decide_eq_false (by omega)
    replace H := rangeF_end H
    refine Cd.seq ?_
    refine Cd.region ?_
    refine Lst.run rfl rfl (by decide) (Ev.lss rfl rfl) ?_
    refine Lst.nil ?_
    refine At.then ?_
    refine Cd.seq ?_
    refine Cd.condF rfl hc39 ?_
    refine Cd.exit ?_
    refine At.then_exit ?_
    refine At.then_exit ?_
    refine At.in_exit ?_
    subst H
    replace H := HKl39
    refine At.then ?_
    refine Cd.seq ?_
    refine Cd.region ?_
    refine Lst.run rfl rfl (by decide) (Ev.move rfl) ?_
    refine Lst.run rfl rfl (by decide) (Ev.bytesStr (ys := l41) rfl Try.runUnderlying139 Try.runUnderlying5 Try.runUnderlying9 (Rd.own (i := 1) rfl rfl rfl)) ?_
    refine Lst.run rfl rfl (by decide) (Ev.fieldAddr (off' := 11) rfl Try.runUnderlying25 rfl Try.sizeOf9 rfl rfl) ?_
    refine Lst.run rfl rfl (by decide) (Ev.load (i := 2) rfl rfl Try.isAgg9 (v := Str.v a0.Text) ((Note.get_Text (Get.here _)).off (by rfl))) ?_
    obtain ⟨u53, h54, H⟩ := bind_some H
    refine Lst.run rfl rfl (by decide) (Ev.addStr (s := Str.ofBytes l41) (m := a0.Text) rfl rfl (room_some h54)) ?_
    refine Lst.run rfl rfl (by decide) (Ev.assign rfl) ?_
    refine Lst.nil ?_
    refine At.then ?_
    refine Cd.seq ?_
    refine Cd.region ?_
    refine Lst.run rfl rfl (by decide) (Ev.move rfl) ?_
    obtain ⟨r55, h56, H⟩ := bind_some H
    refine Lst.call1 rfl rfl (by decide) (vs := [Str.v ((Str.ofBytes l41) ++ a0.Text)]) ⟨rfl, trivial⟩ Try.call18 (partref_Sum_sim h56 w0 _ M _ (List.Sublist.cons _ (List.Sublist.cons _ (List.Sublist.cons _ hM)))) ?_
    refine Lst.run rfl rfl (by decide) (Ev.assign rfl) ?_
    refine Lst.nil ?_
    refine At.then ?_
    refine Cd.seq ?_
    refine Cd.region ?_
    refine Lst.run rfl rfl (by decide) (Ev.move rfl) ?_
    refine Lst.run rfl rfl (by decide) (Ev.move rfl) ?_
    refine Lst.run rfl rfl (by decide) (Ev.remU32 (i := r55) (j := (256 : BitVec 32)) rfl rfl (by decide)) ?_
    refine Lst.run rfl rfl (by decide) (Ev.convTo8 rfl Try.runUnderlying33 Try.runUnderlying5) ?_
    refine Lst.run rfl rfl (by decide) (Ev.move rfl) ?_
    refine Lst.run rfl rfl (by decide) (Ev.quoU32 (i := r55) (j := (256 : BitVec 32)) rfl rfl (by decide)) ?_
    refine Lst.run rfl rfl (by decide) (Ev.remU32 (i := r55 / (256 : BitVec 32)) (j := (256 : BitVec 32)) rfl rfl (by decide)) ?_
    refine Lst.run rfl rfl (by decide) (Ev.convTo8 rfl Try.runUnderlying33 Try.runUnderlying5) ?_
    refine Lst.run rfl rfl (by decide) (Ev.move rfl) ?_
    refine Lst.run rfl rfl (by decide) (Ev.quoU32 (i := r55) (j := (65536 : BitVec 32)) rfl rfl (by decide)) ?_
    refine Lst.run rfl rfl (by decide) (Ev.remU32 (i := r55 / (65536 : BitVec 32)) (j := (256 : BitVec 32)) rfl rfl (by decide)) ?_
    refine Lst.run rfl rfl (by decide) (Ev.convTo8 rfl Try.runUnderlying33 Try.runUnderlying5) ?_
    refine Lst.run rfl rfl (by decide) (Ev.move rfl) ?_
    refine Lst.run rfl rfl (by decide) (Ev.quoU32 (i := r55) (j := (16777216 : BitVec 32)) rfl rfl (by decide)) ?_
    refine Lst.run rfl rfl (by decide) (Ev.convTo8 rfl Try.runUnderlying33 Try.runUnderlying5) ?_
    refine Lst.buildSlice (α := BitVec 8) (xs := ([BitVec.ofInt 8 ((r55 % (256 : BitVec 32)).toNat : Int), BitVec.ofInt 8 (((r55 / (256 : BitVec 32)) % (256 : BitVec 32)).toNat : Int), BitVec.ofInt 8 (((r55 / (65536 : BitVec 32)) % (256 : BitVec 32)).toNat : Int), BitVec.ofInt 8 ((r55 / (16777216 : BitVec 32)).toNat : Int)] : List (BitVec 8))) (pv := [(0, .int .u8 (BitVec.ofInt 8 ((r55 % (256 : BitVec 32)).toNat : Int)).toNat), (1, .int .u8 (BitVec.ofInt 8 (((r55 / (256 : BitVec 32)) % (256 : BitVec 32)).toNat : Int)).toNat), (2, .int .u8 (BitVec.ofInt 8 (((r55 / (65536 : BitVec 32)) % (256 : BitVec 32)).toNat : Int)).toNat), (3, .int .u8 (BitVec.ofInt 8 ((r55 / (16777216 : BitVec 32)).toNat : Int)).toNat)]) rfl rfl (by decide) ⟨rfl, rfl, ⟨rfl, rfl, ⟨rfl, rfl, ⟨rfl, rfl, trivial⟩⟩⟩⟩ (run_buildSlice (α := BitVec 8) (z0 := (0 : BitVec 8)) (xs := ([BitVec.ofInt 8 ((r55 % (256 : BitVec 32)).toNat : Int), BitVec.ofInt 8 (((r55 / (256 : BitVec 32)) % (256 : BitVec 32)).toNat : Int), BitVec.ofInt 8 (((r55 / (65536 : BitVec 32)) % (256 : BitVec 32)).toNat : Int), BitVec.ofInt 8 ((r55 / (16777216 : BitVec 32)).toNat : Int)] : List (BitVec 8))) Try.runUnderlying139 Try.sizeOf5 Try.zeroValue5 rfl rfl rfl (by decide) rfl (fill_cons (cs := encs (List.replicate 4 (0 : BitVec 8))) (cs' := encs ((List.replicate 4 (0 : BitVec 8)).set 0 (BitVec.ofInt 8 ((r55 % (256 : BitVec 32)).toNat : Int)))) (vs := [.int .u8 (BitVec.ofInt 8 ((r55 % (256 : BitVec 32)).toNat : Int)).toNat]) rfl rfl rfl ((Put.elemN (s := 1) (i := 0) (x := (0 : BitVec 8)) (y := (BitVec.ofInt 8 ((r55 % (256 : BitVec 32)).toNat : Int))) rfl rfl (Put.here (vs := [.int .u8 (BitVec.ofInt 8 ((r55 % (256 : BitVec 32)).toNat : Int)).toNat]) rfl)).off rfl) (fill_cons (cs := encs ((List.replicate 4 (0 : BitVec 8)).set 0 (BitVec.ofInt 8 ((r55 % (256 : BitVec 32)).toNat : Int)))) (cs' := encs (((List.replicate 4 (0 : BitVec 8)).set 0 (BitVec.ofInt 8 ((r55 % (256 : BitVec 32)).toNat : Int))).set 1 (BitVec.ofInt 8 (((r55 / (256 : BitVec 32)) % (256 : BitVec 32)).toNat : Int)))) (vs := [.int .u8 (BitVec.ofInt 8 (((r55 / (256 : BitVec 32)) % (256 : BitVec 32)).toNat : Int)).toNat]) rfl rfl rfl ((Put.elemN (s := 1) (i := 1) (x := (0 : BitVec 8)) (y := (BitVec.ofInt 8 (((r55 / (256 : BitVec 32)) % (256 : BitVec 32)).toNat : Int))) rfl rfl (Put.here (vs := [.int .u8 (BitVec.ofInt 8 (((r55 / (256 : BitVec 32)) % (256 : BitVec 32)).toNat : Int)).toNat]) rfl)).off rfl) (fill_cons (cs := encs (((List.replicate 4 (0 : BitVec 8)).set 0 (BitVec.ofInt 8 ((r55 % (256 : BitVec 32)).toNat : Int))).set 1 (BitVec.ofInt 8 (((r55 / (256 : BitVec 32)) % (256 : BitVec 32)).toNat : Int)))) (cs' := encs ((((List.replicate 4 (0 : BitVec 8)).set 0 (BitVec.ofInt 8 ((r55 % (256 : BitVec 32)).toNat : Int))).set 1 (BitVec.ofInt 8 (((r55 / (256 : BitVec 32)) % (256 : BitVec 32)).toNat : Int))).set 2 (BitVec.ofInt 8 (((r55 / (65536 : BitVec 32)) % (256 : BitVec 32)).toNat : Int)))) (vs := [.int .u8 (BitVec.ofInt 8 (((r55 / (65536 : BitVec 32)) % (256 : BitVec 32)).toNat : Int)).toNat]) rfl rfl rfl ((Put.elemN (s := 1) (i := 2) (x := (0 : BitVec 8)) (y := (BitVec.ofInt 8 (((r55 / (65536 : BitVec 32)) % (256 : BitVec 32)).toNat : Int))) rfl rfl (Put.here (vs := [.int .u8 (BitVec.ofInt 8 (((r55 / (65536 : BitVec 32)) % (256 : BitVec 32)).toNat : Int)).toNat]) rfl)).off rfl) (fill_cons (cs := encs ((((List.replicate 4 (0 : BitVec 8)).set 0 (BitVec.ofInt 8 ((r55 % (256 : BitVec 32)).toNat : Int))).set 1 (BitVec.ofInt 8 (((r55 / (256 : BitVec 32)) % (256 : BitVec 32)).toNat : Int))).set 2 (BitVec.ofInt 8 (((r55 / (65536 : BitVec 32)) % (256 : BitVec 32)).toNat : Int)))) (cs' := encs (((((List.replicate 4 (0 : BitVec 8)).set 0 (BitVec.ofInt 8 ((r55 % (256 : BitVec 32)).toNat : Int))).set 1 (BitVec.ofInt 8 (((r55 / (256 : BitVec 32)) % (256 : BitVec 32)).toNat : Int))).set 2 (BitVec.ofInt 8 (((r55 / (65536 : BitVec 32)) % (256 : BitVec 32)).toNat : Int))).set 3 (BitVec.ofInt 8 ((r55 / (16777216 : BitVec 32)).toNat : Int)))) (vs := [.int .u8 (BitVec.ofInt 8 ((r55 / (16777216 : BitVec 32)).toNat : Int)).toNat]) rfl rfl rfl ((Put.elemN (s := 1) (i := 3) (x := (0 : BitVec 8)) (y := (BitVec.ofInt 8 ((r55 / (16777216 : BitVec 32)).toNat : Int))) rfl rfl (Put.here (vs := [.int .u8 (BitVec.ofInt 8 ((r55 / (16777216 : BitVec 32)).toNat : Int)).toNat]) rfl)).off rfl) fill_nil))))) rfl rfl (by decide) (fun s59 _ => ?_)
    refine Lst.run rfl rfl (by decide) (Ev.bytesStr (ys := ([BitVec.ofInt 8 ((r55 % (256 : BitVec 32)).toNat : Int), BitVec.ofInt 8 (((r55 / (256 : BitVec 32)) % (256 : BitVec 32)).toNat : Int), BitVec.ofInt 8 (((r55 / (65536 : BitVec 32)) % (256 : BitVec 32)).toNat : Int), BitVec.ofInt 8 ((r55 / (16777216 : BitVec 32)).toNat : Int)] : List (BitVec 8))) rfl Try.runUnderlying139 Try.runUnderlying5 Try.runUnderlying9 (Rd.own (i := 0) rfl rfl rfl)) ?_
    obtain ⟨u61, h62, H⟩ := bind_some H
    refine Lst.run rfl rfl (by decide) (Ev.addStr (s := (Str.ofBytes l41) ++ a0.Text) (m := Str.ofBytes ([BitVec.ofInt 8 ((r55 % (256 : BitVec 32)).toNat : Int), BitVec.ofInt 8 (((r55 / (256 : BitVec 32)) % (256 : BitVec 32)).toNat : Int), BitVec.ofInt 8 (((r55 / (65536 : BitVec 32)) % (256 : BitVec 32)).toNat : Int), BitVec.ofInt 8 ((r55 / (16777216 : BitVec 32)).toNat : Int)] : List (BitVec 8))) rfl rfl (room_some h62)) ?_
    refine Lst.run rfl rfl (by decide) (Ev.assign rfl) ?_
    refine Lst.nil ?_
    refine At.then ?_
    obtain rfl := some_inj H
    refine Cd.ret ?_
    exact At.ret1 rfl (Res.tmp rfl) (FLe.trans hF38 hF43) (List.Sublist.cons _ (List.Sublist.cons _ (List.Sublist.cons _ (List.Sublist.cons _ (List.Sublist.refl _))))) ⟨rfl, rfl⟩
  have hc39 : decide ((i39 : Int) < (r15.length : Int)) = true := decide_eq_true (by omega)
  obtain ⟨c39, H, hgo39⟩ := rangeF_go H
  unfold partref_NoteText_B0 at H
  try dsimp only at H
  refine Cd.seq ?_
  refine Cd.region ?_
  refine Lst.run rfl rfl (by decide) (Ev.lss rfl rfl) ?_
  refine Lst.nil ?_
  refine At.then ?_
  refine Cd.seq ?_
  refine Cd.condT rfl hc39 ?_
  refine Cd.skip ?_
  refine At.then ?_
  refine Cd.seq ?_
  refine Cd.block ?_
  refine Cd.seq ?_
  refine Cd.region ?_
  obtain ⟨x45, h46, H⟩ := bind_some H
  have g47 := lat_some h46
  refine Lst.run rfl rfl (by decide) (Ev.indexS (α := Int) (xs := l23) rfl rfl Try.runUnderlying36 Try.sizeOf3 rfl (by decide) (Rd.own (i := 0) rfl rfl rfl) g47.1 g47.2.1) ?_
  refine Lst.run rfl rfl (by decide) (Ev.loadS (α := Int) rfl (Rd.own (i := 0) rfl rfl rfl) Try.isAgg3 (v := .int .i64 x45) ((Get.elemN (s := 1) (x := x45) rfl g47.2.2 (Get.here _)).off (by omega))) ?_
  refine Lst.run rfl rfl (by decide) (Ev.assign rfl) ?_
  refine Lst.nil ?_
  refine At.then ?_
  refine Cd.region ?_
  refine Lst.run rfl rfl (by decide) (Ev.move rfl) ?_
  refine Lst.run rfl rfl (by decide) (Ev.move rfl) ?_
  refine Lst.run rfl rfl (by decide) (Ev.rem (i := x45) (j := (256 : Int)) rfl rfl (by decide)) ?_
  refine Lst.run rfl rfl (by decide) (Ev.convTo8 rfl Try.runUnderlying3 Try.runUnderlying5) ?_
  refine Lst.run rfl rfl (by decide) (Ev.move rfl) ?_
  refine Lst.run rfl rfl (by decide) (Ev.quo (i := x45) (j := (256 : Int)) rfl rfl (by decide)) ?_
  refine Lst.run rfl rfl (by decide) (Ev.rem (i := w64 (x45.tdiv (256 : Int))) (j := (256 : Int)) rfl rfl (by decide)) ?_
  refine Lst.run rfl rfl (by decide) (Ev.convTo8 rfl Try.runUnderlying3 Try.runUnderlying5) ?_
  refine Lst.run rfl rfl (by decide) (Ev.move rfl) ?_
  refine Lst.run rfl rfl (by decide) (Ev.quo (i := x45) (j := (65536 : Int)) rfl rfl (by decide)) ?_
  refine Lst.run rfl rfl (by decide) (Ev.convTo8 rfl Try.runUnderlying3 Try.runUnderlying5) ?_
  refine Lst.buildSlice (α := BitVec 8) (xs := ([BitVec.ofInt 8 (x45.tmod (256 : Int) : Int), BitVec.ofInt 8 ((w64 (x45.tdiv (256 : Int))).tmod (256 : Int) : Int), BitVec.ofInt 8 (w64 (x45.tdiv (65536 : Int)))] : List (BitVec 8))) (pv := [(0, .int .u8 (BitVec.ofInt 8 (x45.tmod (256 : Int) : Int)).toNat), (1, .int .u8 (BitVec.ofInt 8 ((w64 (x45.tdiv (256 : Int))).tmod (256 : Int) : Int)).toNat), (2, .int .u8 (BitVec.ofInt 8 (w64 (x45.tdiv (65536 : Int)))).toNat)]) rfl rfl (by decide) ⟨rfl, rfl, ⟨rfl, rfl, ⟨rfl, rfl, trivial⟩⟩⟩ (run_buildSlice (α := BitVec 8) (z0 := (0 : BitVec 8)) (xs := ([BitVec.ofInt 8 (x45.tmod (256 : Int) : Int), BitVec.ofInt 8 ((w64 (x45.tdiv (256 : Int))).tmod (256 : Int) : Int), BitVec.ofInt 8 (w64 (x45.tdiv (65536 : Int)))] : List (BitVec 8))) Try.runUnderlying139 Try.sizeOf5 Try.zeroValue5 rfl rfl rfl (by decide) rfl (fill_cons (cs := encs (List.replicate 3 (0 : BitVec 8))) (cs' := encs ((List.replicate 3 (0 : BitVec 8)).set 0 (BitVec.ofInt 8 (x45.tmod (256 : Int) : Int)))) (vs := [.int .u8 (BitVec.ofInt 8 (x45.tmod (256 : Int) : Int)).toNat]) rfl rfl rfl ((Put.elemN (s := 1) (i := 0) (x := (0 : BitVec 8)) (y := (BitVec.ofInt 8 (x45.tmod (256 : Int) : Int))) rfl rfl (Put.here (vs := [.int .u8 (BitVec.ofInt 8 (x45.tmod (256 : Int) : Int)).toNat]) rfl)).off rfl) (fill_cons (cs := encs ((List.replicate 3 (0 : BitVec 8)).set 0 (BitVec.ofInt 8 (x45.tmod (256 : Int) : Int)))) (cs' := encs (((List.replicate 3 (0 : BitVec 8)).set 0 (BitVec.ofInt 8 (x45.tmod (256 : Int) : Int))).set 1 (BitVec.ofInt 8 ((w64 (x45.tdiv (256 : Int))).tmod (256 : Int) : Int)))) (vs := [.int .u8 (BitVec.ofInt 8 ((w64 (x45.tdiv (256 : Int))).tmod (256 : Int) : Int)).toNat]) rfl rfl rfl ((Put.elemN (s := 1) (i := 1) (x := (0 : BitVec 8)) (y := (BitVec.ofInt 8 ((w64 (x45.tdiv (256 : Int))).tmod (256 : Int) : Int))) rfl rfl (Put.here (vs := [.int .u8 (BitVec.ofInt 8 ((w64 (x45.tdiv (256 : Int))).tmod (256 : Int) : Int)).toNat]) rfl)).off rfl) (fill_cons (cs := encs (((List.replicate 3 (0 : BitVec 8)).set 0 (BitVec.ofInt 8 (x45.tmod (256 : Int) : Int))).set 1 (BitVec.ofInt 8 ((w64 (x45.tdiv (256 : Int))).tmod (256 : Int) : Int)))) (cs' := encs ((((List.replicate 3 (0 : BitVec 8)).set 0 (BitVec.ofInt 8 (x45.tmod (256 : Int) : Int))).set 1 (BitVec.ofInt 8 ((w64 (x45.tdiv (256 : Int))).tmod (256 : Int) : Int))).set 2 (BitVec.ofInt 8 (w64 (x45.tdiv (65536 : Int)))))) (vs := [.int .u8 (BitVec.ofInt 8 (w64 (x45.tdiv (65536 : Int)))).toNat]) rfl rfl rfl ((Put.elemN (s := 1) (i := 2) (x := (0 : BitVec 8)) (y := (BitVec.ofInt 8 (w64 (x45.tdiv (65536 : Int))))) rfl rfl (Put.here (vs := [.int .u8 (BitVec.ofInt 8 (w64 (x45.tdiv (65536 : Int)))).toNat]) rfl)).off rfl) fill_nil)))) rfl rfl (by decide) (fun s48 _ => ?_)
  obtain ⟨u50, h51, H⟩ := bind_some H
  refine Lst.append (i := 2) (α := BitVec 8) (xs := l41) (ys := ([BitVec.ofInt 8 (x45.tmod (256 : Int) : Int), BitVec.ofInt 8 ((w64 (x45.tdiv (256 : Int))).tmod (256 : Int) : Int), BitVec.ofInt 8 (w64 (x45.tdiv (65536 : Int)))] : List (BitVec 8))) rfl rfl (by decide) rfl rfl Try.runUnderlying139 Try.typeInfo5 rfl rfl rfl rfl rfl rfl (Rd.own (i := 0) rfl rfl rfl) rfl (room_some h51) rfl (fun s52 => ?_)
  refine Lst.its (L' := (.own s48 5 1 (encs ([BitVec.ofInt 8 (x45.tmod (256 : Int) : Int), BitVec.ofInt 8 ((w64 (x45.tdiv (256 : Int))).tmod (256 : Int) : Int), BitVec.ofInt 8 (w64 (x45.tdiv (65536 : Int)))] : List (BitVec 8)))) :: (.own s22 3 1 (encs l23)) :: (.own s52 5 1 (encs (l41 ++ ([BitVec.ofInt 8 (x45.tmod (256 : Int) : Int), BitVec.ofInt 8 ((w64 (x45.tdiv (256 : Int))).tmod (256 : Int) : Int), BitVec.ofInt 8 (w64 (x45.tdiv (65536 : Int)))] : List (BitVec 8))))) :: (.blk b1 (enc a0) 25) :: L) rfl ?_
  refine Lst.run rfl rfl (by decide) (Ev.assign rfl) ?_
  refine Lst.nil ?_
  refine At.in_normal ?_
  refine At.then ?_
  refine Cd.as (e' := [(1, .pointer (some ⟨b1, 0, none⟩)), (26, Sl.v s22), (27, .int .i64 (r15.length : Int)), (28, .int .i64 (i39 : Int)), (3, Sl.v s52)]) (L' := (.own s48 5 1 (encs ([BitVec.ofInt 8 (x45.tmod (256 : Int) : Int), BitVec.ofInt 8 ((w64 (x45.tdiv (256 : Int))).tmod (256 : Int) : Int), BitVec.ofInt 8 (w64 (x45.tdiv (65536 : Int)))] : List (BitVec 8)))) :: (.own s22 3 1 (encs l23)) :: (.own s52 5 1 (encs (l41 ++ ([BitVec.ofInt 8 (x45.tmod (256 : Int) : Int), BitVec.ofInt 8 ((w64 (x45.tdiv (256 : Int))).tmod (256 : Int) : Int), BitVec.ofInt 8 (w64 (x45.tdiv (65536 : Int)))] : List (BitVec 8))))) :: (.blk b1 (enc a0) 25) :: L) ⟨rfl, rfl, rfl, rfl, rfl, trivial⟩ rfl ?_
  refine Cd.region ?_
  refine Lst.run rfl rfl (by decide) (Ev.incr (by omega) rfl rfl) ?_
  refine Lst.run rfl rfl (by decide) (Ev.move rfl) ?_
  refine Lst.nil ?_
  refine At.less (L' := (.own s22 3 1 (encs l23)) :: (.own s52 5 1 (encs (l41 ++ ([BitVec.ofInt 8 (x45.tmod (256 : Int) : Int), BitVec.ofInt 8 ((w64 (x45.tdiv (256 : Int))).tmod (256 : Int) : Int), BitVec.ofInt 8 (w64 (x45.tdiv (65536 : Int)))] : List (BitVec 8))))) :: (.blk b1 (enc a0) 25) :: L) (List.Sublist.cons _ (List.Sublist.cons_cons _ (List.Sublist.cons_cons _ (List.Sublist.cons_cons _ (List.Sublist.refl _))))) ?_
  exact At.meet (i39 + 1, k39, s52, l41 ++ ([BitVec.ofInt 8 (x45.tmod (256 : Int) : Int), BitVec.ofInt 8 ((w64 (x45.tdiv (256 : Int))).tmod (256 : Int) : Int), BitVec.ofInt 8 (w64 (x45.tdiv (65536 : Int)))] : List (BitVec 8))) hF43 ⟨rfl, rfl, rfl, rfl, rfl, trivial⟩ rfl ⟨⟨hgo39 _ (some_inj H).symm, by omega⟩, Nat.lt_succ_self _⟩
set_option maxRecDepth 20000 in
theorem wire_Read_1_sim {a0 : Int} {a1 : Str} {b_a1 : Nat} {r : Int} (H : wire_Read_1 a0 a1 = some r) (w0 : World) (F : Frz) (M L : List Item) (hM : M.Sublist L) : Ok Try.prog w0 89 [.int .i64 a0, .pointer (some ⟨b_a1, 0, none⟩)] F ((.blk b_a1 (enc a1) 9) :: L) (Is (.int .i64 r) ((.blk b_a1 (enc a1) 9) :: L)) := by
  unfold wire_Read_1 at H
  refine Ok.enter (m := 2) (n := 26) Try.func89 rfl rfl rfl (by decide) ?_
  refine Cd.env (e' := [(0, .int .i64 a0), (1, .pointer (some ⟨b_a1, 0, none⟩))]) rfl ?_
  refine Cd.seq ?_
  refine Cd.region ?_
  refine Lst.run rfl rfl (by decide) (Ev.assign rfl) ?_
  refine Lst.nil ?_
  refine At.then ?_
  refine Cd.seq ?_
  refine Cd.region ?_
  refine Lst.run rfl rfl (by decide) (Ev.move rfl) ?_
  refine Lst.run rfl rfl (by decide) (Ev.mul rfl rfl) ?_
  refine Lst.run rfl rfl (by decide) (Ev.add rfl rfl) ?_
  refine Lst.run rfl rfl (by decide) (Ev.assign rfl) ?_
  refine Lst.nil ?_
  refine At.then ?_
  refine Cd.seq ?_
  refine Cd.quiet (by kernel_rfl) (by kernel_rfl) ?_
  refine Qt.run rfl rfl (by decide) (Ev.load (i := 0) rfl rfl Try.isAgg9 (v := Str.v a1) (Get.here _)) ?_
  refine Qt.run rfl rfl (by decide) (Ev.move rfl) ?_
  obtain ⟨x2, h3, H⟩ := bind_some H
  refine Qt.run rfl rfl (by decide) (Ev.indexStr rfl rfl Try.runUnderlying9 h3) ?_
  refine Qt.run rfl rfl (by decide) (Ev.convIS (j := (x2.toBitVec.toNat : Int)) rfl Try.runUnderlying5 Try.runUnderlying3 (w64_id (by omega) (by omega))) ?_
  refine Qt.run rfl rfl (by decide) (Ev.load (i := 0) rfl rfl Try.isAgg9 (v := Str.v a1) (Get.here _)) ?_
  refine Qt.run rfl rfl (by decide) (Ev.move rfl) ?_
  refine Qt.run rfl rfl (by decide) (Ev.add rfl rfl) ?_
  obtain ⟨x4, h5, H⟩ := bind_some H
  refine Qt.run rfl rfl (by decide) (Ev.indexStr rfl rfl Try.runUnderlying9 h5) ?_
  refine Qt.run rfl rfl (by decide) (Ev.convIS (j := (x4.toBitVec.toNat : Int)) rfl Try.runUnderlying5 Try.runUnderlying3 (w64_id (by omega) (by omega))) ?_
  refine Qt.run rfl rfl (by decide) (Ev.shl64 (i := (x4.toBitVec.toNat : Int)) (m := 8) rfl rfl) ?_
  refine Qt.run rfl rfl (by decide) (Ev.orI (i := (x2.toBitVec.toNat : Int)) (j := w64 ((x4.toBitVec.toNat : Int) * 2 ^ (min 8 64))) rfl rfl) ?_
  refine Qt.run rfl rfl (by decide) (Ev.load (i := 0) rfl rfl Try.isAgg9 (v := Str.v a1) (Get.here _)) ?_
  refine Qt.run rfl rfl (by decide) (Ev.move rfl) ?_
  refine Qt.run rfl rfl (by decide) (Ev.add rfl rfl) ?_
  obtain ⟨x6, h7, H⟩ := bind_some H
  refine Qt.run rfl rfl (by decide) (Ev.indexStr rfl rfl Try.runUnderlying9 h7) ?_
  refine Qt.run rfl rfl (by decide) (Ev.convIS (j := (x6.toBitVec.toNat : Int)) rfl Try.runUnderlying5 Try.runUnderlying3 (w64_id (by omega) (by omega))) ?_
  refine Qt.run rfl rfl (by decide) (Ev.shl64 (i := (x6.toBitVec.toNat : Int)) (m := 16) rfl rfl) ?_
  refine Qt.run rfl rfl (by decide) (Ev.orI (i := w64 ((BitVec.ofInt 64 (x2.toBitVec.toNat : Int) ||| BitVec.ofInt 64 (w64 ((x4.toBitVec.toNat : Int) * 2 ^ (min 8 64)))).toNat : Int)) (j := w64 ((x6.toBitVec.toNat : Int) * 2 ^ (min 16 64))) rfl rfl) ?_
  refine Qt.run rfl rfl (by decide) (Ev.assign rfl) ?_
  refine Qt.done ?_
  refine At.then ?_
  obtain rfl := some_inj H
  refine Cd.ret ?_
  exact At.ret1 rfl (Res.tmp rfl) (FLe.refl _) (List.Sublist.cons_cons _ (List.Sublist.refl _)) ⟨rfl, rfl⟩
set_option maxRecDepth 20000 in
theorem wire_Read_sim {a0 : Str} {r : Note × Int} (H : wire_Read a0 = some r) (w0 : World) (F : Frz) (M L : List Item) (hM : M.Sublist L) : Ok Try.prog w0 15 [Str.v a0] F (L) (Is (.tuple #[.agg (enc r.1).toArray, .int .i64 r.2]) (L)) := by
  unfold wire_Read at H
  refine Ok.enter (m := 1) (n := 72) Try.func15 rfl rfl rfl (by decide) ?_
  refine Cd.env (e' := [(0, Str.v a0)]) rfl ?_
  refine Cd.seq ?_
  refine Cd.region ?_
  refine Lst.alloc (cs := enc Note.zero) rfl rfl (by decide) Try.zeroValue25 rfl (fun b1 => ?_)
  refine Lst.run rfl rfl (by decide) (Ev.assign rfl) ?_
  refine Lst.nil ?_
  refine At.then ?_
  refine Cd.seq ?_
  refine Cd.block ?_
  refine Cd.seq ?_
  refine Cd.region ?_
  refine Lst.run rfl rfl (by decide) (Ev.move rfl) ?_
  refine Lst.run rfl rfl (by decide) (Ev.lenStr rfl rfl Try.runUnderlying9) ?_
  refine Lst.run rfl rfl (by decide) (Ev.gtr rfl rfl) ?_
  refine Lst.run rfl rfl (by decide) (Ev.assign rfl) ?_
  refine Lst.nil ?_
  refine At.then ?_
  rcases Bool.eq_false_or_eq_true (decide ((a0.length : Int) > (231 : Int))) with hb3 | hb3
  · replace H := ite_t hb3 H
    refine Cd.condT rfl hb3 ?_
    refine Cd.seq ?_
    refine Cd.region ?_
    refine Lst.run rfl rfl (by decide) (Ev.build (v := .agg (enc Note.zero).toArray) (pv := []) trivial (fun w => by kernel_rfl)) ?_
    refine Lst.store (i := 0) rfl rfl rfl rfl rfl Try.sizeOf25 (vs := enc Note.zero) rfl (Enc.len _) (Enc.one _) (cs' := enc Note.zero) (Put.here ((Enc.len _).trans (Enc.len _).symm)) (L' := (.blk b1 (enc Note.zero) 25) :: L) rfl ?_
    refine Lst.run rfl rfl (by decide) (Ev.assign rfl) ?_
    refine Lst.nil ?_
    refine At.then ?_
    obtain rfl := some_inj H
    refine Cd.ret ?_
    refine At.in_ret ?_
    refine At.then_ret ?_
    exact At.ret2 rfl (Res.cellA (i := 0) rfl rfl Try.isAgg25 Try.sizeOf25 (Enc.len _)) (Res.tmp rfl) (FLe.refl _) (List.Sublist.cons _ (List.Sublist.refl _)) ⟨rfl, rfl⟩
  replace H := ite_f hb3 H
  refine Cd.condF rfl hb3 ?_
  refine Cd.seq ?_
  refine Cd.region ?_
  refine Lst.run rfl rfl (by decide) (Ev.move rfl) ?_
  refine Lst.run rfl rfl (by decide) (Ev.lenStr rfl rfl Try.runUnderlying9) ?_
  refine Lst.run rfl rfl (by decide) (Ev.lss rfl rfl) ?_
  refine Lst.run rfl rfl (by decide) (Ev.assign rfl) ?_
  refine Lst.nil ?_
  refine At.then ?_
  rcases Bool.eq_false_or_eq_true (decide ((a0.length : Int) < (31 : Int))) with hb4 | hb4
  · replace H := ite_t hb4 H
    refine Cd.condT rfl hb4 ?_
    refine Cd.seq ?_
    refine Cd.region ?_
    refine Lst.run rfl rfl (by decide) (Ev.build (v := .agg (enc Note.zero).toArray) (pv := []) trivial (fun w => by kernel_rfl)) ?_
    refine Lst.store (i := 0) rfl rfl rfl rfl rfl Try.sizeOf25 (vs := enc Note.zero) rfl (Enc.len _) (Enc.one _) (cs' := enc Note.zero) (Put.here ((Enc.len _).trans (Enc.len _).symm)) (L' := (.blk b1 (enc Note.zero) 25) :: L) rfl ?_
    refine Lst.run rfl rfl (by decide) (Ev.assign rfl) ?_
    refine Lst.nil ?_
    refine At.then ?_
    obtain rfl := some_inj H
    refine Cd.ret ?_
    refine At.in_ret ?_
    refine At.then_ret ?_
    exact At.ret2 rfl (Res.cellA (i := 0) rfl rfl Try.isAgg25 Try.sizeOf25 (Enc.len _)) (Res.tmp rfl) (FLe.refl _) (List.Sublist.cons _ (List.Sublist.refl _)) ⟨rfl, rfl⟩
  replace H := ite_f hb4 H
  refine Cd.condF rfl hb4 ?_
  refine Cd.skip ?_
  refine At.in_normal ?_
  refine At.then ?_
  refine Cd.seq ?_
  obtain ⟨m5, h6, H⟩ := bind_some H
  obtain ⟨m7, h8, H⟩ := bind_some H
  refine Cd.headMeet (σ := Nat) 12 (fun b12 => [(2, .pointer (some ⟨b1, 0, none⟩)), (4, .pointer (some ⟨b12, 0, none⟩)), (29, Str.v m7)]) (fun b12 => (.blk b12 (enc m5) 9) :: (.blk b1 (enc Note.zero) 25) :: L) (fun _ b12 => True) (by kernel_rfl) (by kernel_rfl) (behind_sink (by kernel_rfl) (by kernel_rfl) (by kernel_rfl)) (by kernel_rfl) (fun hsel hlt => ?_) ?_
  · refine HdJ.keep (fun w => St w0 F ((.blk b1 (enc Note.zero) 25) :: L) w) (fun w h => trivial) ?_
    refine HdJ.takeK hsel hlt 0 (fun w h => h.sublist (List.Sublist.cons_cons _ (List.Sublist.refl _))) rfl rfl (by decide) (by decide) (by kernel_rfl) (by kernel_rfl) rfl (Ev.move rfl) ?_
    refine HdJ.takeK hsel hlt 1 (fun w h => h.sublist (List.Sublist.cons_cons _ (List.Sublist.refl _))) rfl rfl (by decide) (by decide) (by kernel_rfl) (by kernel_rfl) rfl (Ev.move rfl) ?_
    refine HdJ.takeK hsel hlt 2 (fun w h => h.sublist (List.Sublist.cons_cons _ (List.Sublist.refl _))) rfl rfl (by decide) (by decide) (by kernel_rfl) (by kernel_rfl) rfl (Ev.lenStr rfl rfl Try.runUnderlying9) ?_
    refine HdJ.takeK hsel hlt 3 (fun w h => h.sublist (List.Sublist.cons_cons _ (List.Sublist.refl _))) rfl rfl (by decide) (by decide) (by kernel_rfl) (by kernel_rfl) rfl (Ev.sub rfl rfl) ?_
    refine HdJ.takeK hsel hlt 4 (fun w h => h.sublist (List.Sublist.cons_cons _ (List.Sublist.refl _))) rfl rfl (by decide) (by decide) (by kernel_rfl) (by kernel_rfl) rfl (Ev.sliceStrTo rfl rfl  Try.runUnderlying9 h6) ?_
    refine HdJ.takeK hsel hlt 5 (fun w h => h.sublist (List.Sublist.cons_cons _ (List.Sublist.refl _))) rfl rfl (by decide) (by decide) (by kernel_rfl) (by kernel_rfl) rfl (Ev.move rfl) ?_
    refine HdJ.takeK hsel hlt 6 (fun w h => h.sublist (List.Sublist.cons_cons _ (List.Sublist.refl _))) rfl rfl (by decide) (by decide) (by kernel_rfl) (by kernel_rfl) rfl (Ev.move rfl) ?_
    refine HdJ.takeK hsel hlt 7 (fun w h => h.sublist (List.Sublist.cons_cons _ (List.Sublist.refl _))) rfl rfl (by decide) (by decide) (by kernel_rfl) (by kernel_rfl) rfl (Ev.lenStr rfl rfl Try.runUnderlying9) ?_
    refine HdJ.takeK hsel hlt 8 (fun w h => h.sublist (List.Sublist.cons_cons _ (List.Sublist.refl _))) rfl rfl (by decide) (by decide) (by kernel_rfl) (by kernel_rfl) rfl (Ev.sub rfl rfl) ?_
    refine HdJ.takeK hsel hlt 9 (fun w h => h.sublist (List.Sublist.cons_cons _ (List.Sublist.refl _))) rfl rfl (by decide) (by decide) (by kernel_rfl) (by kernel_rfl) rfl (Ev.sliceStrFrom rfl rfl  Try.runUnderlying9 h8) ?_
    refine HdJ.step [10] (by kernel_rfl) rfl ?_
    refine HdStep.cons (by decide) rfl (fun inv => ?_) ?_
    · refine Lst.alloc (cs := enc ([] : Str)) rfl rfl (by decide) Try.zeroValue9 rfl (fun b15 => ?_)
      refine Lst.nil ?_
      refine At.hd inv (fun w h => (h.weaken (FLe.refl _)).sublist (List.Sublist.cons _ (List.Sublist.cons_cons _ (List.Sublist.refl _)))) ?_
      refine HdJ.step [11] (by kernel_rfl) rfl ?_
      refine HdStep.cons (by decide) rfl (fun inv => ?_) ?_
      · refine Lst.store (i := 0) rfl rfl rfl rfl rfl Try.sizeOf9 (vs := [Str.v m5]) rfl rfl rfl (cs' := enc m5) (Put.here (vs := [Str.v m5]) rfl) (L' := (.blk b15 (enc m5) 9) :: (.blk b1 (enc Note.zero) 25) :: L) rfl ?_
        refine Lst.nil ?_
        refine At.hd inv (fun w h => (h.weaken (FLe.refl _)).sublist (List.Sublist.cons _ (List.Sublist.cons_cons _ (List.Sublist.refl _)))) ?_
        refine HdJ.done (by kernel_rfl) ?_
        exact At.meetN b15 (FLe.refl _) ⟨rfl, rfl, rfl, trivial⟩ rfl trivial
      exact trivial
    exact trivial
  rintro F16 b12 hF17 hy
  refine Lst.as (e' := [(2, .pointer (some ⟨b1, 0, none⟩)), (4, .pointer (some ⟨b12, 0, none⟩)), (29, Str.v m7)]) (L' := (.blk b12 (enc m5) 9) :: (.blk b1 (enc Note.zero) 25) :: L) ⟨rfl, rfl, rfl, trivial⟩ rfl ?_
  refine Lst.run rfl rfl (by decide) (Ev.assign rfl) ?_
  refine Lst.nil ?_
  refine At.then ?_
  refine Cd.seq ?_
  refine Cd.seq ?_
  refine Cd.region ?_
  refine Lst.run rfl rfl (by decide) (Ev.load (i := 0) rfl rfl Try.isAgg9 (v := Str.v m5) (Get.here _)) ?_
  obtain ⟨r18, h19, H⟩ := bind_some H
  refine Lst.call1 rfl rfl (by decide) (vs := [Str.v m5]) ⟨rfl, trivial⟩ Try.call17 (wire_Sum_sim h19 w0 _ M _ (List.Sublist.cons _ (List.Sublist.cons _ hM))) ?_
  obtain ⟨r22, h23, H⟩ := bind_some H
  refine Lst.call rfl rfl (by decide) (vs := [.int .u32 r18.toNat]) ⟨rfl, trivial⟩ Try.call88 (wire_four_sim h23 w0 _ M _ (List.Sublist.cons _ (List.Sublist.cons _ hM))) (fun F26 L' v hF27 hv => ?_)
  obtain ⟨s24, rfl, rfl⟩ := hv
  refine Lst.run rfl rfl (by decide) (Ev.bytesStr (ys := r22) rfl Try.runUnderlying139 Try.runUnderlying5 Try.runUnderlying9 (Rd.own (i := 0) rfl rfl rfl)) ?_
  refine Lst.run rfl rfl (by decide) (Ev.move rfl) ?_
  refine Lst.run rfl rfl (by decide) (Ev.neqStr (s := Str.ofBytes r22) (m := m7) rfl rfl) ?_
  refine Lst.nil ?_
  refine At.then ?_
  rcases Bool.eq_false_or_eq_true (!(decide (Str.ofBytes r22 = m7))) with hb28 | hb28
  · replace H := ite_t hb28 H
    refine Cd.condT rfl hb28 ?_
    refine Cd.seq ?_
    refine Cd.region ?_
    refine Lst.run rfl rfl (by decide) (Ev.build (v := .agg (enc Note.zero).toArray) (pv := []) trivial (fun w => by kernel_rfl)) ?_
    refine Lst.store (i := 2) rfl rfl rfl rfl rfl Try.sizeOf25 (vs := enc Note.zero) rfl (Enc.len _) (Enc.one _) (cs' := enc Note.zero) (Put.here ((Enc.len _).trans (Enc.len _).symm)) (L' := (.own s24 5 1 (encs r22)) :: (.blk b12 (enc m5) 9) :: (.blk b1 (enc Note.zero) 25) :: L) rfl ?_
    refine Lst.run rfl rfl (by decide) (Ev.assign rfl) ?_
    refine Lst.nil ?_
    refine At.then ?_
    obtain rfl := some_inj H
    refine Cd.ret ?_
    refine At.then_ret ?_
    exact At.ret2 rfl (Res.cellA (i := 2) rfl rfl Try.isAgg25 Try.sizeOf25 (Enc.len _)) (Res.tmp rfl) (FLe.trans hF17 hF27) (List.Sublist.cons _ (List.Sublist.cons _ (List.Sublist.cons _ (List.Sublist.refl _)))) ⟨rfl, rfl⟩
  replace H := ite_f hb28 H
  refine Cd.condF rfl hb28 ?_
  refine Cd.skip ?_
  refine At.then ?_
  refine Cd.seq ?_
  refine Cd.region ?_
  refine Lst.run rfl rfl (by decide) (Ev.makeFunc (us := []) (vs := [.pointer (some ⟨b12, 0, none⟩)]) trivial ⟨rfl, trivial⟩) ?_
  refine Lst.run rfl rfl (by decide) (Ev.assign rfl) ?_
  refine Lst.nil ?_
  refine At.then ?_
  refine Cd.seq ?_
  obtain ⟨x29, h30, H⟩ := bind_some H
  obtain ⟨x31, h32, H⟩ := bind_some H
  obtain ⟨x33, h34, H⟩ := bind_some H
  obtain ⟨r35, h36, H⟩ := bind_some H
  obtain ⟨r39, h40, H⟩ := bind_some H
  obtain ⟨m43, h44, H⟩ := bind_some H
  refine Cd.headMeet (σ := Nat) 17 (fun b48 => [(2, .pointer (some ⟨b1, 0, none⟩)), (6, .func (.func 89) #[] #[.pointer (some ⟨b12, 0, none⟩)]), (7, .pointer (some ⟨b48, 0, none⟩)), (53, .agg (enc ({ Note.zero with Kind := (x29.toBitVec.toNat : Int), From := (x31.toBitVec.toNat : Int), To := (x33.toBitVec.toNat : Int), View := r35, Seq := r39, Text := m43 } : Note)).toArray)]) (fun b48 => (.blk b48 (enc Note.zero) 25) :: (.own s24 5 1 (encs r22)) :: (.blk b12 (enc m5) 9) :: (.blk b1 (enc Note.zero) 25) :: L) (fun _ b48 => True) (by kernel_rfl) (by kernel_rfl) (behind_sink (by kernel_rfl) (by kernel_rfl) (by kernel_rfl)) (by kernel_rfl) (fun hsel hlt => ?_) ?_
  · refine HdJ.keep (fun w => St w0 F26 ((.own s24 5 1 (encs r22)) :: (.blk b12 (enc m5) 9) :: (.blk b1 (enc Note.zero) 25) :: L) w) (fun w h => trivial) ?_
    refine HdJ.takeK hsel hlt 0 (fun w h => h.sublist (List.Sublist.cons_cons _ (List.Sublist.cons_cons _ (List.Sublist.cons_cons _ (List.Sublist.refl _))))) rfl rfl (by decide) (by decide) (by kernel_rfl) (by kernel_rfl) rfl (Ev.load (i := 1) rfl rfl Try.isAgg9 (v := Str.v m5) (Get.here _)) ?_
    refine HdJ.takeK hsel hlt 1 (fun w h => h.sublist (List.Sublist.cons_cons _ (List.Sublist.cons_cons _ (List.Sublist.cons_cons _ (List.Sublist.refl _))))) rfl rfl (by decide) (by decide) (by kernel_rfl) (by kernel_rfl) rfl (Ev.indexStr rfl rfl Try.runUnderlying9 h30) ?_
    refine HdJ.takeK hsel hlt 2 (fun w h => h.sublist (List.Sublist.cons_cons _ (List.Sublist.cons_cons _ (List.Sublist.cons_cons _ (List.Sublist.refl _))))) rfl rfl (by decide) (by decide) (by kernel_rfl) (by kernel_rfl) rfl (Ev.convIS (j := (x29.toBitVec.toNat : Int)) rfl Try.runUnderlying5 Try.runUnderlying3 (w64_id (by omega) (by omega))) ?_
    refine HdJ.takeK hsel hlt 3 (fun w h => h.sublist (List.Sublist.cons_cons _ (List.Sublist.cons_cons _ (List.Sublist.cons_cons _ (List.Sublist.refl _))))) rfl rfl (by decide) (by decide) (by kernel_rfl) (by kernel_rfl) rfl (Ev.load (i := 1) rfl rfl Try.isAgg9 (v := Str.v m5) (Get.here _)) ?_
    refine HdJ.takeK hsel hlt 4 (fun w h => h.sublist (List.Sublist.cons_cons _ (List.Sublist.cons_cons _ (List.Sublist.cons_cons _ (List.Sublist.refl _))))) rfl rfl (by decide) (by decide) (by kernel_rfl) (by kernel_rfl) rfl (Ev.indexStr rfl rfl Try.runUnderlying9 h32) ?_
    refine HdJ.takeK hsel hlt 5 (fun w h => h.sublist (List.Sublist.cons_cons _ (List.Sublist.cons_cons _ (List.Sublist.cons_cons _ (List.Sublist.refl _))))) rfl rfl (by decide) (by decide) (by kernel_rfl) (by kernel_rfl) rfl (Ev.convIS (j := (x31.toBitVec.toNat : Int)) rfl Try.runUnderlying5 Try.runUnderlying3 (w64_id (by omega) (by omega))) ?_
    refine HdJ.takeK hsel hlt 6 (fun w h => h.sublist (List.Sublist.cons_cons _ (List.Sublist.cons_cons _ (List.Sublist.cons_cons _ (List.Sublist.refl _))))) rfl rfl (by decide) (by decide) (by kernel_rfl) (by kernel_rfl) rfl (Ev.load (i := 1) rfl rfl Try.isAgg9 (v := Str.v m5) (Get.here _)) ?_
    refine HdJ.takeK hsel hlt 7 (fun w h => h.sublist (List.Sublist.cons_cons _ (List.Sublist.cons_cons _ (List.Sublist.cons_cons _ (List.Sublist.refl _))))) rfl rfl (by decide) (by decide) (by kernel_rfl) (by kernel_rfl) rfl (Ev.indexStr rfl rfl Try.runUnderlying9 h34) ?_
    refine HdJ.takeK hsel hlt 8 (fun w h => h.sublist (List.Sublist.cons_cons _ (List.Sublist.cons_cons _ (List.Sublist.cons_cons _ (List.Sublist.refl _))))) rfl rfl (by decide) (by decide) (by kernel_rfl) (by kernel_rfl) rfl (Ev.convIS (j := (x33.toBitVec.toNat : Int)) rfl Try.runUnderlying5 Try.runUnderlying3 (w64_id (by omega) (by omega))) ?_
    refine HdJ.takeK hsel hlt 9 (fun w h => h.sublist (List.Sublist.cons_cons _ (List.Sublist.cons_cons _ (List.Sublist.cons_cons _ (List.Sublist.refl _))))) rfl rfl (by decide) (by decide) (by kernel_rfl) (by kernel_rfl) rfl (Ev.move rfl) ?_
    refine HdJ.takeK hsel hlt 11 (fun w h => h.sublist (List.Sublist.cons_cons _ (List.Sublist.cons_cons _ (List.Sublist.cons_cons _ (List.Sublist.refl _))))) rfl rfl (by decide) (by decide) (by kernel_rfl) (by kernel_rfl) rfl (Ev.move rfl) ?_
    refine HdJ.takeK hsel hlt 13 (fun w h => h.sublist (List.Sublist.cons_cons _ (List.Sublist.cons_cons _ (List.Sublist.cons_cons _ (List.Sublist.refl _))))) rfl rfl (by decide) (by decide) (by kernel_rfl) (by kernel_rfl) rfl (Ev.load (i := 1) rfl rfl Try.isAgg9 (v := Str.v m5) (Get.here _)) ?_
    refine HdJ.takeK hsel hlt 14 (fun w h => h.sublist (List.Sublist.cons_cons _ (List.Sublist.cons_cons _ (List.Sublist.cons_cons _ (List.Sublist.refl _))))) rfl rfl (by decide) (by decide) (by kernel_rfl) (by kernel_rfl) rfl (Ev.sliceStrFrom rfl rfl  Try.runUnderlying9 h44) ?_
    refine HdJ.step [10, 16] (by kernel_rfl) rfl ?_
    refine HdStep.cons (by decide) rfl (fun inv => ?_) ?_
    · refine Lst.front (i := 1) rfl (L' := (.blk b12 (enc m5) 9) :: (.own s24 5 1 (encs r22)) :: (.blk b1 (enc Note.zero) 25) :: L) rfl ?_
      refine Lst.callV1 rfl rfl (by decide) (vs := [.int .i64 (0 : Int)]) (cs := [.pointer (some ⟨b12, 0, none⟩)]) rfl ⟨rfl, trivial⟩ Try.call89 (wire_Read_1_sim h36 w0 _ M _ (List.Sublist.cons _ (List.Sublist.cons _ hM))) ?_
      refine Lst.front (i := 2) rfl (L' := (.blk b1 (enc Note.zero) 25) :: (.blk b12 (enc m5) 9) :: (.own s24 5 1 (encs r22)) :: L) rfl ?_
      refine Lst.front (i := 1) rfl (L' := (.blk b12 (enc m5) 9) :: (.blk b1 (enc Note.zero) 25) :: (.own s24 5 1 (encs r22)) :: L) rfl ?_
      refine Lst.front (i := 2) rfl (L' := (.own s24 5 1 (encs r22)) :: (.blk b12 (enc m5) 9) :: (.blk b1 (enc Note.zero) 25) :: L) rfl ?_
      refine Lst.nil ?_
      refine At.hd inv (fun w h => (h.weaken (FLe.refl _)).sublist (List.Sublist.cons_cons _ (List.Sublist.cons_cons _ (List.Sublist.cons_cons _ (List.Sublist.refl _))))) ?_
      refine HdJ.step [12, 16] (by kernel_rfl) rfl ?_
      refine HdStep.cons (by decide) rfl (fun inv => ?_) ?_
      · refine Lst.front (i := 1) rfl (L' := (.blk b12 (enc m5) 9) :: (.own s24 5 1 (encs r22)) :: (.blk b1 (enc Note.zero) 25) :: L) rfl ?_
        refine Lst.callV1 rfl rfl (by decide) (vs := [.int .i64 (1 : Int)]) (cs := [.pointer (some ⟨b12, 0, none⟩)]) rfl ⟨rfl, trivial⟩ Try.call89 (wire_Read_1_sim h40 w0 _ M _ (List.Sublist.cons _ (List.Sublist.cons _ hM))) ?_
        refine Lst.front (i := 2) rfl (L' := (.blk b1 (enc Note.zero) 25) :: (.blk b12 (enc m5) 9) :: (.own s24 5 1 (encs r22)) :: L) rfl ?_
        refine Lst.front (i := 1) rfl (L' := (.blk b12 (enc m5) 9) :: (.blk b1 (enc Note.zero) 25) :: (.own s24 5 1 (encs r22)) :: L) rfl ?_
        refine Lst.front (i := 2) rfl (L' := (.own s24 5 1 (encs r22)) :: (.blk b12 (enc m5) 9) :: (.blk b1 (enc Note.zero) 25) :: L) rfl ?_
        refine Lst.nil ?_
        refine At.hd inv (fun w h => (h.weaken (FLe.refl _)).sublist (List.Sublist.cons_cons _ (List.Sublist.cons_cons _ (List.Sublist.cons_cons _ (List.Sublist.refl _))))) ?_
        refine HdJ.takeK hsel hlt 15 (fun w h => h.sublist (List.Sublist.cons_cons _ (List.Sublist.cons_cons _ (List.Sublist.cons_cons _ (List.Sublist.refl _))))) rfl rfl (by decide) (by decide) (by kernel_rfl) (by kernel_rfl) rfl (Ev.build (v := .agg (enc ({ Note.zero with Kind := (x29.toBitVec.toNat : Int), From := (x31.toBitVec.toNat : Int), To := (x33.toBitVec.toNat : Int), View := r35, Seq := r39, Text := m43 } : Note)).toArray) (pv := [(0, .int .i64 (x29.toBitVec.toNat : Int)), (1, .int .i64 (x31.toBitVec.toNat : Int)), (2, .int .i64 (x33.toBitVec.toNat : Int)), (3, .int .i64 r35), (4, .int .i64 r39), (6, Str.v m43)]) ⟨rfl, rfl, ⟨rfl, rfl, ⟨rfl, rfl, ⟨rfl, rfl, ⟨rfl, rfl, ⟨rfl, rfl, trivial⟩⟩⟩⟩⟩⟩ (fun w => by kernel_rfl)) ?_
        refine HdJ.step [16] (by kernel_rfl) rfl ?_
        refine HdStep.cons (by decide) rfl (fun inv => ?_) ?_
        · refine Lst.alloc (cs := enc Note.zero) rfl rfl (by decide) Try.zeroValue25 rfl (fun b55 => ?_)
          refine Lst.nil ?_
          refine At.hd inv (fun w h => (h.weaken (FLe.refl _)).sublist (List.Sublist.cons _ (List.Sublist.cons_cons _ (List.Sublist.cons_cons _ (List.Sublist.cons_cons _ (List.Sublist.refl _)))))) ?_
          refine HdJ.done (by kernel_rfl) ?_
          exact At.meetN b55 (FLe.refl _) ⟨rfl, rfl, rfl, rfl, trivial⟩ rfl trivial
        exact trivial
      refine HdStep.cons (by decide) rfl (fun inv => ?_) ?_
      · refine Lst.alloc (cs := enc Note.zero) rfl rfl (by decide) Try.zeroValue25 rfl (fun b56 => ?_)
        refine Lst.nil ?_
        refine At.hd inv (fun w h => (h.weaken (FLe.refl _)).sublist (List.Sublist.cons _ (List.Sublist.cons_cons _ (List.Sublist.cons_cons _ (List.Sublist.cons_cons _ (List.Sublist.refl _)))))) ?_
        refine HdJ.step [12] (by kernel_rfl) rfl ?_
        refine HdStep.cons (by decide) rfl (fun inv => ?_) ?_
        · refine Lst.front (i := 2) rfl (L' := (.blk b12 (enc m5) 9) :: (.blk b56 (enc Note.zero) 25) :: (.own s24 5 1 (encs r22)) :: (.blk b1 (enc Note.zero) 25) :: L) rfl ?_
          refine Lst.callV1 rfl rfl (by decide) (vs := [.int .i64 (1 : Int)]) (cs := [.pointer (some ⟨b12, 0, none⟩)]) rfl ⟨rfl, trivial⟩ Try.call89 (wire_Read_1_sim h40 w0 _ M _ (List.Sublist.cons _ (List.Sublist.cons _ (List.Sublist.cons _ hM)))) ?_
          refine Lst.front (i := 3) rfl (L' := (.blk b1 (enc Note.zero) 25) :: (.blk b12 (enc m5) 9) :: (.blk b56 (enc Note.zero) 25) :: (.own s24 5 1 (encs r22)) :: L) rfl ?_
          refine Lst.front (i := 1) rfl (L' := (.blk b12 (enc m5) 9) :: (.blk b1 (enc Note.zero) 25) :: (.blk b56 (enc Note.zero) 25) :: (.own s24 5 1 (encs r22)) :: L) rfl ?_
          refine Lst.front (i := 3) rfl (L' := (.own s24 5 1 (encs r22)) :: (.blk b12 (enc m5) 9) :: (.blk b1 (enc Note.zero) 25) :: (.blk b56 (enc Note.zero) 25) :: L) rfl ?_
          refine Lst.front (i := 3) rfl (L' := (.blk b56 (enc Note.zero) 25) :: (.own s24 5 1 (encs r22)) :: (.blk b12 (enc m5) 9) :: (.blk b1 (enc Note.zero) 25) :: L) rfl ?_
          refine Lst.nil ?_
          refine At.hd inv (fun w h => (h.weaken (FLe.refl _)).sublist (List.Sublist.cons _ (List.Sublist.cons_cons _ (List.Sublist.cons_cons _ (List.Sublist.cons_cons _ (List.Sublist.refl _)))))) ?_
          refine HdJ.keep (fun w => St w0 F26 ((.blk b56 (enc Note.zero) 25) :: (.own s24 5 1 (encs r22)) :: (.blk b12 (enc m5) 9) :: (.blk b1 (enc Note.zero) 25) :: L) w) (fun w h => (h.weaken (FLe.refl _)).sublist (List.Sublist.cons _ (List.Sublist.cons_cons _ (List.Sublist.cons_cons _ (List.Sublist.cons_cons _ (List.Sublist.refl _)))))) ?_
          refine HdJ.takeK hsel hlt 15 (fun w h => h.sublist (List.Sublist.cons_cons _ (List.Sublist.cons_cons _ (List.Sublist.cons_cons _ (List.Sublist.cons_cons _ (List.Sublist.refl _)))))) rfl rfl (by decide) (by decide) (by kernel_rfl) (by kernel_rfl) rfl (Ev.build (v := .agg (enc ({ Note.zero with Kind := (x29.toBitVec.toNat : Int), From := (x31.toBitVec.toNat : Int), To := (x33.toBitVec.toNat : Int), View := r35, Seq := r39, Text := m43 } : Note)).toArray) (pv := [(0, .int .i64 (x29.toBitVec.toNat : Int)), (1, .int .i64 (x31.toBitVec.toNat : Int)), (2, .int .i64 (x33.toBitVec.toNat : Int)), (3, .int .i64 r35), (4, .int .i64 r39), (6, Str.v m43)]) ⟨rfl, rfl, ⟨rfl, rfl, ⟨rfl, rfl, ⟨rfl, rfl, ⟨rfl, rfl, ⟨rfl, rfl, trivial⟩⟩⟩⟩⟩⟩ (fun w => by kernel_rfl)) ?_
          refine HdJ.done (by kernel_rfl) ?_
          exact At.meetN b56 (FLe.refl _) ⟨rfl, rfl, rfl, rfl, trivial⟩ rfl trivial
        exact trivial
      exact trivial
    refine HdStep.cons (by decide) rfl (fun inv => ?_) ?_
    · refine Lst.alloc (cs := enc Note.zero) rfl rfl (by decide) Try.zeroValue25 rfl (fun b59 => ?_)
      refine Lst.nil ?_
      refine At.hd inv (fun w h => (h.weaken (FLe.refl _)).sublist (List.Sublist.cons _ (List.Sublist.cons_cons _ (List.Sublist.cons_cons _ (List.Sublist.cons_cons _ (List.Sublist.refl _)))))) ?_
      refine HdJ.step [10] (by kernel_rfl) rfl ?_
      refine HdStep.cons (by decide) rfl (fun inv => ?_) ?_
      · refine Lst.front (i := 2) rfl (L' := (.blk b12 (enc m5) 9) :: (.blk b59 (enc Note.zero) 25) :: (.own s24 5 1 (encs r22)) :: (.blk b1 (enc Note.zero) 25) :: L) rfl ?_
        refine Lst.callV1 rfl rfl (by decide) (vs := [.int .i64 (0 : Int)]) (cs := [.pointer (some ⟨b12, 0, none⟩)]) rfl ⟨rfl, trivial⟩ Try.call89 (wire_Read_1_sim h36 w0 _ M _ (List.Sublist.cons _ (List.Sublist.cons _ (List.Sublist.cons _ hM)))) ?_
        refine Lst.front (i := 3) rfl (L' := (.blk b1 (enc Note.zero) 25) :: (.blk b12 (enc m5) 9) :: (.blk b59 (enc Note.zero) 25) :: (.own s24 5 1 (encs r22)) :: L) rfl ?_
        refine Lst.front (i := 1) rfl (L' := (.blk b12 (enc m5) 9) :: (.blk b1 (enc Note.zero) 25) :: (.blk b59 (enc Note.zero) 25) :: (.own s24 5 1 (encs r22)) :: L) rfl ?_
        refine Lst.front (i := 3) rfl (L' := (.own s24 5 1 (encs r22)) :: (.blk b12 (enc m5) 9) :: (.blk b1 (enc Note.zero) 25) :: (.blk b59 (enc Note.zero) 25) :: L) rfl ?_
        refine Lst.front (i := 3) rfl (L' := (.blk b59 (enc Note.zero) 25) :: (.own s24 5 1 (encs r22)) :: (.blk b12 (enc m5) 9) :: (.blk b1 (enc Note.zero) 25) :: L) rfl ?_
        refine Lst.nil ?_
        refine At.hd inv (fun w h => (h.weaken (FLe.refl _)).sublist (List.Sublist.cons _ (List.Sublist.cons_cons _ (List.Sublist.cons_cons _ (List.Sublist.cons_cons _ (List.Sublist.refl _)))))) ?_
        refine HdJ.step [12] (by kernel_rfl) rfl ?_
        refine HdStep.cons (by decide) rfl (fun inv => ?_) ?_
        · refine Lst.front (i := 2) rfl (L' := (.blk b12 (enc m5) 9) :: (.blk b59 (enc Note.zero) 25) :: (.own s24 5 1 (encs r22)) :: (.blk b1 (enc Note.zero) 25) :: L) rfl ?_
          refine Lst.callV1 rfl rfl (by decide) (vs := [.int .i64 (1 : Int)]) (cs := [.pointer (some ⟨b12, 0, none⟩)]) rfl ⟨rfl, trivial⟩ Try.call89 (wire_Read_1_sim h40 w0 _ M _ (List.Sublist.cons _ (List.Sublist.cons _ (List.Sublist.cons _ hM)))) ?_
          refine Lst.front (i := 3) rfl (L' := (.blk b1 (enc Note.zero) 25) :: (.blk b12 (enc m5) 9) :: (.blk b59 (enc Note.zero) 25) :: (.own s24 5 1 (encs r22)) :: L) rfl ?_
          refine Lst.front (i := 1) rfl (L' := (.blk b12 (enc m5) 9) :: (.blk b1 (enc Note.zero) 25) :: (.blk b59 (enc Note.zero) 25) :: (.own s24 5 1 (encs r22)) :: L) rfl ?_
          refine Lst.front (i := 3) rfl (L' := (.own s24 5 1 (encs r22)) :: (.blk b12 (enc m5) 9) :: (.blk b1 (enc Note.zero) 25) :: (.blk b59 (enc Note.zero) 25) :: L) rfl ?_
          refine Lst.front (i := 3) rfl (L' := (.blk b59 (enc Note.zero) 25) :: (.own s24 5 1 (encs r22)) :: (.blk b12 (enc m5) 9) :: (.blk b1 (enc Note.zero) 25) :: L) rfl ?_
          refine Lst.nil ?_
          refine At.hd inv (fun w h => (h.weaken (FLe.refl _)).sublist (List.Sublist.cons _ (List.Sublist.cons_cons _ (List.Sublist.cons_cons _ (List.Sublist.cons_cons _ (List.Sublist.refl _)))))) ?_
          refine HdJ.keep (fun w => St w0 F26 ((.blk b59 (enc Note.zero) 25) :: (.own s24 5 1 (encs r22)) :: (.blk b12 (enc m5) 9) :: (.blk b1 (enc Note.zero) 25) :: L) w) (fun w h => (h.weaken (FLe.refl _)).sublist (List.Sublist.cons _ (List.Sublist.cons_cons _ (List.Sublist.cons_cons _ (List.Sublist.cons_cons _ (List.Sublist.refl _)))))) ?_
          refine HdJ.takeK hsel hlt 15 (fun w h => h.sublist (List.Sublist.cons_cons _ (List.Sublist.cons_cons _ (List.Sublist.cons_cons _ (List.Sublist.cons_cons _ (List.Sublist.refl _)))))) rfl rfl (by decide) (by decide) (by kernel_rfl) (by kernel_rfl) rfl (Ev.build (v := .agg (enc ({ Note.zero with Kind := (x29.toBitVec.toNat : Int), From := (x31.toBitVec.toNat : Int), To := (x33.toBitVec.toNat : Int), View := r35, Seq := r39, Text := m43 } : Note)).toArray) (pv := [(0, .int .i64 (x29.toBitVec.toNat : Int)), (1, .int .i64 (x31.toBitVec.toNat : Int)), (2, .int .i64 (x33.toBitVec.toNat : Int)), (3, .int .i64 r35), (4, .int .i64 r39), (6, Str.v m43)]) ⟨rfl, rfl, ⟨rfl, rfl, ⟨rfl, rfl, ⟨rfl, rfl, ⟨rfl, rfl, ⟨rfl, rfl, trivial⟩⟩⟩⟩⟩⟩ (fun w => by kernel_rfl)) ?_
          refine HdJ.done (by kernel_rfl) ?_
          exact At.meetN b59 (FLe.refl _) ⟨rfl, rfl, rfl, rfl, trivial⟩ rfl trivial
        exact trivial
      exact trivial
    exact trivial
  rintro F64 b48 hF65 hy
  refine Lst.as (e' := [(2, .pointer (some ⟨b1, 0, none⟩)), (6, .func (.func 89) #[] #[.pointer (some ⟨b12, 0, none⟩)]), (7, .pointer (some ⟨b48, 0, none⟩)), (53, .agg (enc ({ Note.zero with Kind := (x29.toBitVec.toNat : Int), From := (x31.toBitVec.toNat : Int), To := (x33.toBitVec.toNat : Int), View := r35, Seq := r39, Text := m43 } : Note)).toArray)]) (L' := (.blk b48 (enc Note.zero) 25) :: (.own s24 5 1 (encs r22)) :: (.blk b12 (enc m5) 9) :: (.blk b1 (enc Note.zero) 25) :: L) ⟨rfl, rfl, rfl, rfl, trivial⟩ rfl ?_
  refine Lst.store (i := 0) rfl rfl rfl rfl rfl Try.sizeOf25 (vs := enc ({ Note.zero with Kind := (x29.toBitVec.toNat : Int), From := (x31.toBitVec.toNat : Int), To := (x33.toBitVec.toNat : Int), View := r35, Seq := r39, Text := m43 } : Note)) rfl (Enc.len _) (Enc.one _) (cs' := enc ({ Note.zero with Kind := (x29.toBitVec.toNat : Int), From := (x31.toBitVec.toNat : Int), To := (x33.toBitVec.toNat : Int), View := r35, Seq := r39, Text := m43 } : Note)) (Put.here ((Enc.len _).trans (Enc.len _).symm)) (L' := (.blk b48 (enc ({ Note.zero with Kind := (x29.toBitVec.toNat : Int), From := (x31.toBitVec.toNat : Int), To := (x33.toBitVec.toNat : Int), View := r35, Seq := r39, Text := m43 } : Note)) 25) :: (.own s24 5 1 (encs r22)) :: (.blk b12 (enc m5) 9) :: (.blk b1 (enc Note.zero) 25) :: L) rfl ?_
  refine Lst.nil ?_
  refine At.then ?_
  refine Cd.seq ?_
  refine Cd.seq ?_
  refine Cd.region ?_
  refine Lst.run rfl rfl (by decide) (Ev.move rfl) ?_
  refine Lst.nil ?_
  refine At.then ?_
  refine Cd.block ?_
  obtain ⟨ol66, H, HKl66⟩ := bind_some H
  refine Cd.loop (σ := Nat × Nat × Note) (fun (i66, k66, y67) => [(2, .pointer (some ⟨b1, 0, none⟩)), (6, .func (.func 89) #[] #[.pointer (some ⟨b12, 0, none⟩)]), (7, .pointer (some ⟨b48, 0, none⟩)), (54, .int .i64 (i66 : Int))]) (fun (i66, k66, y67) => (.blk b48 (enc y67) 25) :: (.own s24 5 1 (encs r22)) :: (.blk b12 (enc m5) 9) :: (.blk b1 (enc Note.zero) 25) :: L) (fun _ => (fun (i66, k66, y67) => rangeF (wire_Read_B1 m5) k66 i66 y67 = some ol66 ∧ i66 + k66 = 6)) (fun (i66, k66, y67) => k66) (0, 6, ({ Note.zero with Kind := (x29.toBitVec.toNat : Int), From := (x31.toBitVec.toNat : Int), To := (x33.toBitVec.toNat : Int), View := r35, Seq := r39, Text := m43 } : Note)) ⟨rfl, rfl, rfl, rfl, trivial⟩ rfl ⟨H, by omega⟩ ?_
  rintro F68 ⟨i66, k66, y67⟩ hF69 ⟨H, hik66⟩
  refine Cd.as (e' := [(2, .pointer (some ⟨b1, 0, none⟩)), (6, .func (.func 89) #[] #[.pointer (some ⟨b12, 0, none⟩)]), (7, .pointer (some ⟨b48, 0, none⟩)), (54, .int .i64 (i66 : Int))]) (L' := (.blk b48 (enc y67) 25) :: (.own s24 5 1 (encs r22)) :: (.blk b12 (enc m5) 9) :: (.blk b1 (enc Note.zero) 25) :: L) ⟨rfl, rfl, rfl, rfl, trivial⟩ rfl ?_
  rcases k66 with _ | k66
  · have hc66 : decide ((i66 : Int) < (6 : Int)) = false := decide_eq_false (by omega)
    replace H := rangeF_end H
    refine Cd.seq ?_
    refine Cd.region ?_
    refine Lst.run rfl rfl (by decide) (Ev.lss rfl rfl) ?_
    refine Lst.nil ?_
    refine At.then ?_
    refine Cd.seq ?_
    refine Cd.condF rfl hc66 ?_
    refine Cd.exit ?_
    refine At.then_exit ?_
    refine At.then_exit ?_
    refine At.in_exit ?_
    subst H
    replace H := HKl66
    refine At.then ?_
    refine Cd.seq ?_
    refine Cd.seq ?_
    refine Cd.region ?_
    refine Lst.run rfl rfl (by decide) (Ev.loadA (i := 0) rfl rfl Try.isAgg25 Try.sizeOf25 (ch := enc y67) (Enc.len _) (Get.here _)) ?_
    obtain ⟨r79, h80, H⟩ := bind_some H
    refine Lst.call1 rfl rfl (by decide) (vs := [.agg (enc y67).toArray]) ⟨rfl, trivial⟩ Try.call19 (wire_Check_sim h80 w0 _ M _ (List.Sublist.cons _ (List.Sublist.cons _ (List.Sublist.cons _ (List.Sublist.cons _ hM))))) ?_
    refine Lst.run rfl rfl (by decide) (Ev.assign rfl) ?_
    refine Lst.nil ?_
    refine At.then ?_
    refine Cd.seq ?_
    refine Cd.region ?_
    refine Lst.run rfl rfl (by decide) (Ev.move rfl) ?_
    refine Lst.run rfl rfl (by decide) (Ev.neq rfl rfl) ?_
    refine Lst.nil ?_
    refine At.then ?_
    rcases Bool.eq_false_or_eq_true (r79 != (0 : Int)) with hb83 | hb83
    · replace H := ite_t hb83 H
      refine Cd.condT rfl hb83 ?_
      refine Cd.seq ?_
      refine Cd.region ?_
      refine Lst.run rfl rfl (by decide) (Ev.build (v := .agg (enc Note.zero).toArray) (pv := []) trivial (fun w => by kernel_rfl)) ?_
      refine Lst.run rfl rfl (by decide) (Ev.move rfl) ?_
      refine Lst.store (i := 3) rfl rfl rfl rfl rfl Try.sizeOf25 (vs := enc Note.zero) rfl (Enc.len _) (Enc.one _) (cs' := enc Note.zero) (Put.here ((Enc.len _).trans (Enc.len _).symm)) (L' := (.blk b48 (enc y67) 25) :: (.own s24 5 1 (encs r22)) :: (.blk b12 (enc m5) 9) :: (.blk b1 (enc Note.zero) 25) :: L) rfl ?_
      refine Lst.run rfl rfl (by decide) (Ev.assign rfl) ?_
      refine Lst.nil ?_
      refine At.then ?_
      obtain rfl := some_inj H
      refine Cd.ret ?_
      refine At.then_ret ?_
      exact At.ret2 rfl (Res.cellA (i := 3) rfl rfl Try.isAgg25 Try.sizeOf25 (Enc.len _)) (Res.tmp rfl) (FLe.trans (FLe.trans (FLe.trans hF17 hF27) hF65) hF69) (List.Sublist.cons _ (List.Sublist.cons _ (List.Sublist.cons _ (List.Sublist.cons _ (List.Sublist.refl _))))) ⟨rfl, rfl⟩
    replace H := ite_f hb83 H
    refine Cd.condF rfl hb83 ?_
    refine Cd.skip ?_
    refine At.then ?_
    refine Cd.seq ?_
    refine Cd.region ?_
    refine Lst.run rfl rfl (by decide) (Ev.loadA (i := 0) rfl rfl Try.isAgg25 Try.sizeOf25 (ch := enc y67) (Enc.len _) (Get.here _)) ?_
    refine Lst.store (i := 3) rfl rfl rfl rfl rfl Try.sizeOf25 (vs := enc y67) rfl (Enc.len _) (Enc.one _) (cs' := enc y67) (Put.here ((Enc.len _).trans (Enc.len _).symm)) (L' := (.blk b48 (enc y67) 25) :: (.own s24 5 1 (encs r22)) :: (.blk b12 (enc m5) 9) :: (.blk b1 (enc y67) 25) :: L) rfl ?_
    refine Lst.run rfl rfl (by decide) (Ev.assign rfl) ?_
    refine Lst.nil ?_
    refine At.then ?_
    obtain rfl := some_inj H
    refine Cd.ret ?_
    exact At.ret2 rfl (Res.cellA (i := 3) rfl rfl Try.isAgg25 Try.sizeOf25 (Enc.len _)) (Res.tmp rfl) (FLe.trans (FLe.trans (FLe.trans hF17 hF27) hF65) hF69) (List.Sublist.cons _ (List.Sublist.cons _ (List.Sublist.cons _ (List.Sublist.cons _ (List.Sublist.refl _))))) ⟨rfl, rfl⟩
  have hc66 : decide ((i66 : Int) < (6 : Int)) = true := decide_eq_true (by omega)
  obtain ⟨c66, H, hgo66⟩ := rangeF_go H
  unfold wire_Read_B1 at H
  try dsimp only at H
  refine Cd.seq ?_
  refine Cd.region ?_
  refine Lst.run rfl rfl (by decide) (Ev.lss rfl rfl) ?_
  refine Lst.nil ?_
  refine At.then ?_
  refine Cd.seq ?_
  refine Cd.condT rfl hc66 ?_
  refine Cd.skip ?_
  refine At.then ?_
  refine Cd.seq ?_
  refine Cd.block ?_
  refine Cd.seq ?_
  refine Cd.region ?_
  refine Lst.run rfl rfl (by decide) (Ev.move rfl) ?_
  refine Lst.run rfl rfl (by decide) (Ev.assign rfl) ?_
  refine Lst.nil ?_
  refine At.then ?_
  refine Cd.region ?_
  refine Lst.run rfl rfl (by decide) (Ev.move rfl) ?_
  refine Lst.run rfl rfl (by decide) (Ev.move rfl) ?_
  refine Lst.run rfl rfl (by decide) (Ev.move rfl) ?_
  refine Lst.run rfl rfl (by decide) (Ev.add rfl rfl) ?_
  obtain ⟨r70, h71, H⟩ := bind_some H
  refine Lst.front (i := 2) rfl (L' := (.blk b12 (enc m5) 9) :: (.blk b48 (enc y67) 25) :: (.own s24 5 1 (encs r22)) :: (.blk b1 (enc Note.zero) 25) :: L) rfl ?_
  refine Lst.callV1 rfl rfl (by decide) (vs := [.int .i64 (w64 ((2 : Int) + (i66 : Int)))]) (cs := [.pointer (some ⟨b12, 0, none⟩)]) rfl ⟨rfl, trivial⟩ Try.call89 (wire_Read_1_sim h71 w0 _ M _ (List.Sublist.cons _ (List.Sublist.cons _ (List.Sublist.cons _ hM)))) ?_
  refine Lst.run rfl rfl (by decide) (Ev.fieldAddr (off' := 5) rfl Try.runUnderlying25 rfl Try.sizeOf23 rfl rfl) ?_
  obtain ⟨x74, h75, H⟩ := bind_some H
  have g76 := vat_some h75
  refine Lst.run rfl rfl (by decide) (Ev.indexAddr (off' := 5 + (i66 : Int).toNat * 1) rfl rfl Try.runUnderlying23 Try.sizeOf3 g76.1 g76.2.1 rfl) ?_
  obtain ⟨p77, h78, H⟩ := Let_some H
  refine Lst.store (i := 1) rfl rfl rfl rfl rfl Try.sizeOf3 (vs := [.int .i64 r70]) rfl rfl rfl (cs' := enc p77) (by rw [← h78]; exact (Note.put_At (Put.vecN (s := 1) (x := x74) rfl g76.2.2 (Put.here (vs := [.int .i64 r70]) rfl))).off (by omega)) (L' := (.blk b12 (enc m5) 9) :: (.blk b48 (enc p77) 25) :: (.own s24 5 1 (encs r22)) :: (.blk b1 (enc Note.zero) 25) :: L) rfl ?_
  refine Lst.nil ?_
  refine At.in_normal ?_
  refine At.then ?_
  refine Cd.region ?_
  refine Lst.run rfl rfl (by decide) (Ev.incr (by omega) rfl rfl) ?_
  refine Lst.run rfl rfl (by decide) (Ev.move rfl) ?_
  refine Lst.nil ?_
  refine At.front (i := 3) rfl rfl ?_
  refine At.front (i := 1) rfl rfl ?_
  refine At.front (i := 3) rfl rfl ?_
  refine At.front (i := 3) rfl rfl ?_
  exact At.meet (i66 + 1, k66, p77) hF69 ⟨rfl, rfl, rfl, rfl, trivial⟩ rfl ⟨⟨hgo66 _ (some_inj H).symm, by omega⟩, Nat.lt_succ_self _⟩
set_option maxRecDepth 20000 in
theorem partref_NoteRead_1_sim {a0 : Int} {a1 : Str} {b_a1 : Nat} {r : Int} (H : partref_NoteRead_1 a0 a1 = some r) (w0 : World) (F : Frz) (M L : List Item) (hM : M.Sublist L) : Ok Try.prog w0 90 [.int .i64 a0, .pointer (some ⟨b_a1, 0, none⟩)] F ((.blk b_a1 (enc a1) 9) :: L) (Is (.int .i64 r) ((.blk b_a1 (enc a1) 9) :: L)) := by
  unfold partref_NoteRead_1 at H
  refine Ok.enter (m := 2) (n := 22) Try.func90 rfl rfl rfl (by decide) ?_
  refine Cd.env (e' := [(0, .int .i64 a0), (1, .pointer (some ⟨b_a1, 0, none⟩))]) rfl ?_
  refine Cd.seq ?_
  refine Cd.region ?_
  refine Lst.run rfl rfl (by decide) (Ev.assign rfl) ?_
  refine Lst.nil ?_
  refine At.then ?_
  refine Cd.seq ?_
  refine Cd.quiet (by kernel_rfl) (by kernel_rfl) ?_
  refine Qt.run rfl rfl (by decide) (Ev.load (i := 0) rfl rfl Try.isAgg9 (v := Str.v a1) (Get.here _)) ?_
  refine Qt.run rfl rfl (by decide) (Ev.move rfl) ?_
  obtain ⟨x2, h3, H⟩ := bind_some H
  refine Qt.run rfl rfl (by decide) (Ev.indexStr rfl rfl Try.runUnderlying9 h3) ?_
  refine Qt.run rfl rfl (by decide) (Ev.convIS (j := (x2.toBitVec.toNat : Int)) rfl Try.runUnderlying5 Try.runUnderlying3 (w64_id (by omega) (by omega))) ?_
  refine Qt.run rfl rfl (by decide) (Ev.load (i := 0) rfl rfl Try.isAgg9 (v := Str.v a1) (Get.here _)) ?_
  refine Qt.run rfl rfl (by decide) (Ev.move rfl) ?_
  refine Qt.run rfl rfl (by decide) (Ev.add rfl rfl) ?_
  obtain ⟨x4, h5, H⟩ := bind_some H
  refine Qt.run rfl rfl (by decide) (Ev.indexStr rfl rfl Try.runUnderlying9 h5) ?_
  refine Qt.run rfl rfl (by decide) (Ev.convIS (j := (x4.toBitVec.toNat : Int)) rfl Try.runUnderlying5 Try.runUnderlying3 (w64_id (by omega) (by omega))) ?_
  refine Qt.run rfl rfl (by decide) (Ev.mul rfl rfl) ?_
  refine Qt.run rfl rfl (by decide) (Ev.add rfl rfl) ?_
  refine Qt.run rfl rfl (by decide) (Ev.load (i := 0) rfl rfl Try.isAgg9 (v := Str.v a1) (Get.here _)) ?_
  refine Qt.run rfl rfl (by decide) (Ev.move rfl) ?_
  refine Qt.run rfl rfl (by decide) (Ev.add rfl rfl) ?_
  obtain ⟨x6, h7, H⟩ := bind_some H
  refine Qt.run rfl rfl (by decide) (Ev.indexStr rfl rfl Try.runUnderlying9 h7) ?_
  refine Qt.run rfl rfl (by decide) (Ev.convIS (j := (x6.toBitVec.toNat : Int)) rfl Try.runUnderlying5 Try.runUnderlying3 (w64_id (by omega) (by omega))) ?_
  refine Qt.run rfl rfl (by decide) (Ev.mul rfl rfl) ?_
  refine Qt.run rfl rfl (by decide) (Ev.add rfl rfl) ?_
  refine Qt.run rfl rfl (by decide) (Ev.assign rfl) ?_
  refine Qt.done ?_
  refine At.then ?_
  obtain rfl := some_inj H
  refine Cd.ret ?_
  exact At.ret1 rfl (Res.tmp rfl) (FLe.refl _) (List.Sublist.cons_cons _ (List.Sublist.refl _)) ⟨rfl, rfl⟩
set_option maxRecDepth 20000 in
theorem partref_NoteRead_sim {a0 : Str} {r : Note × Int} (H : partref_NoteRead a0 = some r) (w0 : World) (F : Frz) (M L : List Item) (hM : M.Sublist L) : Ok Try.prog w0 16 [Str.v a0] F (L) (Is (.tuple #[.agg (enc r.1).toArray, .int .i64 r.2]) (L)) := by
  unfold partref_NoteRead at H
  refine Ok.enter (m := 1) (n := 82) Try.func16 rfl rfl rfl (by decide) ?_
  refine Cd.env (e' := [(0, Str.v a0)]) rfl ?_
  refine Cd.seq ?_
  refine Cd.region ?_
  refine Lst.box rfl rfl (by decide) rfl (cs := enc a0) rfl (fun b1 => ?_)
  refine Lst.alloc (cs := enc Note.zero) rfl rfl (by decide) Try.zeroValue25 rfl (fun b3 => ?_)
  refine Lst.run rfl rfl (by decide) (Ev.assign rfl) ?_
  refine Lst.nil ?_
  refine At.then ?_
  refine Cd.seq ?_
  refine Cd.region ?_
  refine Lst.run rfl rfl (by decide) (Ev.load (i := 1) rfl rfl Try.isAgg9 (v := Str.v a0) (Get.here _)) ?_
  refine Lst.run rfl rfl (by decide) (Ev.lenStr rfl rfl Try.runUnderlying9) ?_
  refine Lst.run rfl rfl (by decide) (Ev.assign rfl) ?_
  refine Lst.nil ?_
  refine At.then ?_
  refine Cd.seq ?_
  refine Cd.seq ?_
  refine Cd.region ?_
  refine Lst.run rfl rfl (by decide) (Ev.move rfl) ?_
  refine Lst.run rfl rfl (by decide) (Ev.gtr rfl rfl) ?_
  refine Lst.nil ?_
  refine At.then ?_
  rcases Bool.eq_false_or_eq_true (decide ((a0.length : Int) > (231 : Int))) with hb5 | hb5
  · replace H := ite_t hb5 H
    refine Cd.condT rfl hb5 ?_
    refine Cd.seq ?_
    refine Cd.region ?_
    refine Lst.run rfl rfl (by decide) (Ev.build (v := .agg (enc Note.zero).toArray) (pv := []) trivial (fun w => by kernel_rfl)) ?_
    refine Lst.store (i := 0) rfl rfl rfl rfl rfl Try.sizeOf25 (vs := enc Note.zero) rfl (Enc.len _) (Enc.one _) (cs' := enc Note.zero) (Put.here ((Enc.len _).trans (Enc.len _).symm)) (L' := (.blk b3 (enc Note.zero) 25) :: (.blk b1 (enc a0) 9) :: L) rfl ?_
    refine Lst.run rfl rfl (by decide) (Ev.assign rfl) ?_
    refine Lst.nil ?_
    refine At.then ?_
    obtain rfl := some_inj H
    refine Cd.ret ?_
    refine At.then_ret ?_
    exact At.ret2 rfl (Res.cellA (i := 0) rfl rfl Try.isAgg25 Try.sizeOf25 (Enc.len _)) (Res.tmp rfl) (FLe.refl _) (List.Sublist.cons _ (List.Sublist.cons _ (List.Sublist.refl _))) ⟨rfl, rfl⟩
  replace H := ite_f hb5 H
  refine Cd.condF rfl hb5 ?_
  refine Cd.skip ?_
  refine At.then ?_
  refine Cd.seq ?_
  refine Cd.seq ?_
  refine Cd.region ?_
  refine Lst.run rfl rfl (by decide) (Ev.move rfl) ?_
  refine Lst.run rfl rfl (by decide) (Ev.lss rfl rfl) ?_
  refine Lst.nil ?_
  refine At.then ?_
  rcases Bool.eq_false_or_eq_true (decide ((a0.length : Int) < (31 : Int))) with hb6 | hb6
  · replace H := ite_t hb6 H
    refine Cd.condT rfl hb6 ?_
    refine Cd.seq ?_
    refine Cd.region ?_
    refine Lst.run rfl rfl (by decide) (Ev.build (v := .agg (enc Note.zero).toArray) (pv := []) trivial (fun w => by kernel_rfl)) ?_
    refine Lst.store (i := 0) rfl rfl rfl rfl rfl Try.sizeOf25 (vs := enc Note.zero) rfl (Enc.len _) (Enc.one _) (cs' := enc Note.zero) (Put.here ((Enc.len _).trans (Enc.len _).symm)) (L' := (.blk b3 (enc Note.zero) 25) :: (.blk b1 (enc a0) 9) :: L) rfl ?_
    refine Lst.run rfl rfl (by decide) (Ev.assign rfl) ?_
    refine Lst.nil ?_
    refine At.then ?_
    obtain rfl := some_inj H
    refine Cd.ret ?_
    refine At.then_ret ?_
    exact At.ret2 rfl (Res.cellA (i := 0) rfl rfl Try.isAgg25 Try.sizeOf25 (Enc.len _)) (Res.tmp rfl) (FLe.refl _) (List.Sublist.cons _ (List.Sublist.cons _ (List.Sublist.refl _))) ⟨rfl, rfl⟩
  replace H := ite_f hb6 H
  refine Cd.condF rfl hb6 ?_
  refine Cd.skip ?_
  refine At.then ?_
  refine Cd.seq ?_
  obtain ⟨x7, h8, H⟩ := bind_some H
  obtain ⟨x9, h10, H⟩ := bind_some H
  obtain ⟨x11, h12, H⟩ := bind_some H
  obtain ⟨m13, h14, H⟩ := bind_some H
  refine Cd.headMeet (σ := Nat) 15 (fun b18 => [(1, .pointer (some ⟨b1, 0, none⟩)), (2, .pointer (some ⟨b3, 0, none⟩)), (4, .int .i64 (a0.length : Int)), (5, .pointer (some ⟨b18, 0, none⟩)), (31, .agg (enc ({ Note.zero with Kind := (x7.toBitVec.toNat : Int), From := (x9.toBitVec.toNat : Int), To := (x11.toBitVec.toNat : Int), Text := m13 } : Note)).toArray)]) (fun b18 => (.blk b18 (enc Note.zero) 25) :: (.blk b3 (enc Note.zero) 25) :: (.blk b1 (enc a0) 9) :: L) (fun _ b18 => True) (by kernel_rfl) (by kernel_rfl) (behind_sink (by kernel_rfl) (by kernel_rfl) (by kernel_rfl)) (by kernel_rfl) (fun hsel hlt => ?_) ?_
  · refine HdJ.keep (fun w => St w0 F ((.blk b3 (enc Note.zero) 25) :: (.blk b1 (enc a0) 9) :: L) w) (fun w h => trivial) ?_
    refine HdJ.takeK hsel hlt 0 (fun w h => h.sublist (List.Sublist.cons_cons _ (List.Sublist.cons_cons _ (List.Sublist.refl _)))) rfl rfl (by decide) (by decide) (by kernel_rfl) (by kernel_rfl) rfl (Ev.load (i := 1) rfl rfl Try.isAgg9 (v := Str.v a0) (Get.here _)) ?_
    refine HdJ.takeK hsel hlt 1 (fun w h => h.sublist (List.Sublist.cons_cons _ (List.Sublist.cons_cons _ (List.Sublist.refl _)))) rfl rfl (by decide) (by decide) (by kernel_rfl) (by kernel_rfl) rfl (Ev.indexStr rfl rfl Try.runUnderlying9 h8) ?_
    refine HdJ.takeK hsel hlt 2 (fun w h => h.sublist (List.Sublist.cons_cons _ (List.Sublist.cons_cons _ (List.Sublist.refl _)))) rfl rfl (by decide) (by decide) (by kernel_rfl) (by kernel_rfl) rfl (Ev.convIS (j := (x7.toBitVec.toNat : Int)) rfl Try.runUnderlying5 Try.runUnderlying3 (w64_id (by omega) (by omega))) ?_
    refine HdJ.takeK hsel hlt 3 (fun w h => h.sublist (List.Sublist.cons_cons _ (List.Sublist.cons_cons _ (List.Sublist.refl _)))) rfl rfl (by decide) (by decide) (by kernel_rfl) (by kernel_rfl) rfl (Ev.load (i := 1) rfl rfl Try.isAgg9 (v := Str.v a0) (Get.here _)) ?_
    refine HdJ.takeK hsel hlt 4 (fun w h => h.sublist (List.Sublist.cons_cons _ (List.Sublist.cons_cons _ (List.Sublist.refl _)))) rfl rfl (by decide) (by decide) (by kernel_rfl) (by kernel_rfl) rfl (Ev.indexStr rfl rfl Try.runUnderlying9 h10) ?_
    refine HdJ.takeK hsel hlt 5 (fun w h => h.sublist (List.Sublist.cons_cons _ (List.Sublist.cons_cons _ (List.Sublist.refl _)))) rfl rfl (by decide) (by decide) (by kernel_rfl) (by kernel_rfl) rfl (Ev.convIS (j := (x9.toBitVec.toNat : Int)) rfl Try.runUnderlying5 Try.runUnderlying3 (w64_id (by omega) (by omega))) ?_
    refine HdJ.takeK hsel hlt 6 (fun w h => h.sublist (List.Sublist.cons_cons _ (List.Sublist.cons_cons _ (List.Sublist.refl _)))) rfl rfl (by decide) (by decide) (by kernel_rfl) (by kernel_rfl) rfl (Ev.load (i := 1) rfl rfl Try.isAgg9 (v := Str.v a0) (Get.here _)) ?_
    refine HdJ.takeK hsel hlt 7 (fun w h => h.sublist (List.Sublist.cons_cons _ (List.Sublist.cons_cons _ (List.Sublist.refl _)))) rfl rfl (by decide) (by decide) (by kernel_rfl) (by kernel_rfl) rfl (Ev.indexStr rfl rfl Try.runUnderlying9 h12) ?_
    refine HdJ.takeK hsel hlt 8 (fun w h => h.sublist (List.Sublist.cons_cons _ (List.Sublist.cons_cons _ (List.Sublist.refl _)))) rfl rfl (by decide) (by decide) (by kernel_rfl) (by kernel_rfl) rfl (Ev.convIS (j := (x11.toBitVec.toNat : Int)) rfl Try.runUnderlying5 Try.runUnderlying3 (w64_id (by omega) (by omega))) ?_
    refine HdJ.takeK hsel hlt 9 (fun w h => h.sublist (List.Sublist.cons_cons _ (List.Sublist.cons_cons _ (List.Sublist.refl _)))) rfl rfl (by decide) (by decide) (by kernel_rfl) (by kernel_rfl) rfl (Ev.load (i := 1) rfl rfl Try.isAgg9 (v := Str.v a0) (Get.here _)) ?_
    refine HdJ.takeK hsel hlt 10 (fun w h => h.sublist (List.Sublist.cons_cons _ (List.Sublist.cons_cons _ (List.Sublist.refl _)))) rfl rfl (by decide) (by decide) (by kernel_rfl) (by kernel_rfl) rfl (Ev.move rfl) ?_
    refine HdJ.takeK hsel hlt 11 (fun w h => h.sublist (List.Sublist.cons_cons _ (List.Sublist.cons_cons _ (List.Sublist.refl _)))) rfl rfl (by decide) (by decide) (by kernel_rfl) (by kernel_rfl) rfl (Ev.sub rfl rfl) ?_
    refine HdJ.takeK hsel hlt 12 (fun w h => h.sublist (List.Sublist.cons_cons _ (List.Sublist.cons_cons _ (List.Sublist.refl _)))) rfl rfl (by decide) (by decide) (by kernel_rfl) (by kernel_rfl) rfl (Ev.sliceStr rfl rfl rfl  Try.runUnderlying9 h14) ?_
    refine HdJ.takeK hsel hlt 13 (fun w h => h.sublist (List.Sublist.cons_cons _ (List.Sublist.cons_cons _ (List.Sublist.refl _)))) rfl rfl (by decide) (by decide) (by kernel_rfl) (by kernel_rfl) rfl (Ev.build (v := .agg (enc ({ Note.zero with Kind := (x7.toBitVec.toNat : Int), From := (x9.toBitVec.toNat : Int), To := (x11.toBitVec.toNat : Int), Text := m13 } : Note)).toArray) (pv := [(0, .int .i64 (x7.toBitVec.toNat : Int)), (1, .int .i64 (x9.toBitVec.toNat : Int)), (2, .int .i64 (x11.toBitVec.toNat : Int)), (6, Str.v m13)]) ⟨rfl, rfl, ⟨rfl, rfl, ⟨rfl, rfl, ⟨rfl, rfl, trivial⟩⟩⟩⟩ (fun w => by kernel_rfl)) ?_
    refine HdJ.step [14] (by kernel_rfl) rfl ?_
    refine HdStep.cons (by decide) rfl (fun inv => ?_) ?_
    · refine Lst.alloc (cs := enc Note.zero) rfl rfl (by decide) Try.zeroValue25 rfl (fun b21 => ?_)
      refine Lst.nil ?_
      refine At.hd inv (fun w h => (h.weaken (FLe.refl _)).sublist (List.Sublist.cons _ (List.Sublist.cons_cons _ (List.Sublist.cons_cons _ (List.Sublist.refl _))))) ?_
      refine HdJ.done (by kernel_rfl) ?_
      exact At.meetN b21 (FLe.refl _) ⟨rfl, rfl, rfl, rfl, rfl, trivial⟩ rfl trivial
    exact trivial
  rintro F22 b18 hF23 hy
  refine Lst.as (e' := [(1, .pointer (some ⟨b1, 0, none⟩)), (2, .pointer (some ⟨b3, 0, none⟩)), (4, .int .i64 (a0.length : Int)), (5, .pointer (some ⟨b18, 0, none⟩)), (31, .agg (enc ({ Note.zero with Kind := (x7.toBitVec.toNat : Int), From := (x9.toBitVec.toNat : Int), To := (x11.toBitVec.toNat : Int), Text := m13 } : Note)).toArray)]) (L' := (.blk b18 (enc Note.zero) 25) :: (.blk b3 (enc Note.zero) 25) :: (.blk b1 (enc a0) 9) :: L) ⟨rfl, rfl, rfl, rfl, rfl, trivial⟩ rfl ?_
  refine Lst.store (i := 0) rfl rfl rfl rfl rfl Try.sizeOf25 (vs := enc ({ Note.zero with Kind := (x7.toBitVec.toNat : Int), From := (x9.toBitVec.toNat : Int), To := (x11.toBitVec.toNat : Int), Text := m13 } : Note)) rfl (Enc.len _) (Enc.one _) (cs' := enc ({ Note.zero with Kind := (x7.toBitVec.toNat : Int), From := (x9.toBitVec.toNat : Int), To := (x11.toBitVec.toNat : Int), Text := m13 } : Note)) (Put.here ((Enc.len _).trans (Enc.len _).symm)) (L' := (.blk b18 (enc ({ Note.zero with Kind := (x7.toBitVec.toNat : Int), From := (x9.toBitVec.toNat : Int), To := (x11.toBitVec.toNat : Int), Text := m13 } : Note)) 25) :: (.blk b3 (enc Note.zero) 25) :: (.blk b1 (enc a0) 9) :: L) rfl ?_
  refine Lst.nil ?_
  refine At.then ?_
  refine Cd.seq ?_
  refine Cd.region ?_
  refine Lst.run rfl rfl (by decide) (Ev.makeFunc (us := []) (vs := [.pointer (some ⟨b1, 0, none⟩)]) trivial ⟨rfl, trivial⟩) ?_
  refine Lst.run rfl rfl (by decide) (Ev.assign rfl) ?_
  refine Lst.nil ?_
  refine At.then ?_
  refine Cd.seq ?_
  refine Cd.region ?_
  refine Lst.run rfl rfl (by decide) (Ev.move rfl) ?_
  obtain ⟨r24, h25, H⟩ := bind_some H
  refine Lst.front (i := 2) rfl (L' := (.blk b1 (enc a0) 9) :: (.blk b18 (enc ({ Note.zero with Kind := (x7.toBitVec.toNat : Int), From := (x9.toBitVec.toNat : Int), To := (x11.toBitVec.toNat : Int), Text := m13 } : Note)) 25) :: (.blk b3 (enc Note.zero) 25) :: L) rfl ?_
  refine Lst.callV1 rfl rfl (by decide) (vs := [.int .i64 (3 : Int)]) (cs := [.pointer (some ⟨b1, 0, none⟩)]) rfl ⟨rfl, trivial⟩ Try.call90 (partref_NoteRead_1_sim h25 w0 _ M _ (List.Sublist.cons _ (List.Sublist.cons _ hM))) ?_
  refine Lst.run rfl rfl (by decide) (Ev.move rfl) ?_
  obtain ⟨r28, h29, H⟩ := bind_some H
  refine Lst.callV1 rfl rfl (by decide) (vs := [.int .i64 (6 : Int)]) (cs := [.pointer (some ⟨b1, 0, none⟩)]) rfl ⟨rfl, trivial⟩ Try.call90 (partref_NoteRead_1_sim h29 w0 _ M _ (List.Sublist.cons _ (List.Sublist.cons _ hM))) ?_
  refine Lst.run rfl rfl (by decide) (Ev.fieldAddr (off' := 3) rfl Try.runUnderlying25 rfl Try.sizeOf3 rfl rfl) ?_
  obtain ⟨p32, h33, H⟩ := Let_some H
  refine Lst.store (i := 1) rfl rfl rfl rfl rfl Try.sizeOf3 (vs := [.int .i64 r24]) rfl rfl rfl (cs' := enc p32) (by rw [← h33]; exact (Note.put_View (Put.here (vs := [.int .i64 r24]) rfl)).off (by rfl)) (L' := (.blk b1 (enc a0) 9) :: (.blk b18 (enc p32) 25) :: (.blk b3 (enc Note.zero) 25) :: L) rfl ?_
  refine Lst.run rfl rfl (by decide) (Ev.fieldAddr (off' := 4) rfl Try.runUnderlying25 rfl Try.sizeOf3 rfl rfl) ?_
  obtain ⟨p34, h35, H⟩ := Let_some H
  refine Lst.store (i := 1) rfl rfl rfl rfl rfl Try.sizeOf3 (vs := [.int .i64 r28]) rfl rfl rfl (cs' := enc p34) (by rw [← h35]; exact (Note.put_Seq (Put.here (vs := [.int .i64 r28]) rfl)).off (by rfl)) (L' := (.blk b1 (enc a0) 9) :: (.blk b18 (enc p34) 25) :: (.blk b3 (enc Note.zero) 25) :: L) rfl ?_
  refine Lst.nil ?_
  refine At.then ?_
  refine Cd.seq ?_
  refine Cd.seq ?_
  refine Cd.region ?_
  refine Lst.run rfl rfl (by decide) (Ev.move rfl) ?_
  refine Lst.nil ?_
  refine At.then ?_
  refine Cd.block ?_
  obtain ⟨ol36, H, HKl36⟩ := bind_some H
  refine Cd.loop (σ := Nat × Nat × Note) (fun (i36, k36, y37) => [(1, .pointer (some ⟨b1, 0, none⟩)), (2, .pointer (some ⟨b3, 0, none⟩)), (4, .int .i64 (a0.length : Int)), (5, .pointer (some ⟨b18, 0, none⟩)), (6, .func (.func 90) #[] #[.pointer (some ⟨b1, 0, none⟩)]), (39, .int .i64 (i36 : Int))]) (fun (i36, k36, y37) => (.blk b1 (enc a0) 9) :: (.blk b18 (enc y37) 25) :: (.blk b3 (enc Note.zero) 25) :: L) (fun _ => (fun (i36, k36, y37) => rangeF (partref_NoteRead_B0 a0) k36 i36 y37 = some ol36 ∧ i36 + k36 = 6)) (fun (i36, k36, y37) => k36) (0, 6, p34) ⟨rfl, rfl, rfl, rfl, rfl, rfl, trivial⟩ rfl ⟨H, by omega⟩ ?_
  rintro F38 ⟨i36, k36, y37⟩ hF39 ⟨H, hik36⟩
  refine Cd.as (e' := [(1, .pointer (some ⟨b1, 0, none⟩)), (2, .pointer (some ⟨b3, 0, none⟩)), (4, .int .i64 (a0.length : Int)), (5, .pointer (some ⟨b18, 0, none⟩)), (6, .func (.func 90) #[] #[.pointer (some ⟨b1, 0, none⟩)]), (39, .int .i64 (i36 : Int))]) (L' := (.blk b1 (enc a0) 9) :: (.blk b18 (enc y37) 25) :: (.blk b3 (enc Note.zero) 25) :: L) ⟨rfl, rfl, rfl, rfl, rfl, rfl, trivial⟩ rfl ?_
  rcases k36 with _ | k36
  · have hc36 : decide ((i36 : Int) < (6 : Int)) = false := decide_eq_false (by omega)
    replace H := rangeF_end H
    refine Cd.seq ?_
    refine Cd.region ?_
    refine Lst.run rfl rfl (by decide) (Ev.lss rfl rfl) ?_
    refine Lst.nil ?_
    refine At.then ?_
    refine Cd.seq ?_
    refine Cd.condF rfl hc36 ?_
    refine Cd.exit ?_
    refine At.then_exit ?_
    refine At.then_exit ?_
    refine At.in_exit ?_
    subst H
    replace H := HKl36
    refine At.then ?_
    refine Cd.seq ?_
    refine Cd.region ?_
    refine Lst.run rfl rfl (by decide) (Ev.load (i := 0) rfl rfl Try.isAgg9 (v := Str.v a0) (Get.here _)) ?_
    refine Lst.run rfl rfl (by decide) (Ev.move rfl) ?_
    refine Lst.run rfl rfl (by decide) (Ev.sub rfl rfl) ?_
    obtain ⟨m49, h50, H⟩ := bind_some H
    refine Lst.run rfl rfl (by decide) (Ev.sliceStrTo rfl rfl  Try.runUnderlying9 h50) ?_
    obtain ⟨r51, h52, H⟩ := bind_some H
    refine Lst.call1 rfl rfl (by decide) (vs := [Str.v m49]) ⟨rfl, trivial⟩ Try.call18 (partref_Sum_sim h52 w0 _ M _ (List.Sublist.cons _ (List.Sublist.cons _ (List.Sublist.cons _ hM)))) ?_
    refine Lst.run rfl rfl (by decide) (Ev.assign rfl) ?_
    refine Lst.nil ?_
    refine At.then ?_
    refine Cd.seq ?_
    refine Cd.seq ?_
    refine Cd.region ?_
    refine Lst.run rfl rfl (by decide) (Ev.move rfl) ?_
    refine Lst.nil ?_
    refine At.then ?_
    refine Cd.block ?_
    obtain ⟨ol55, H, HKl55⟩ := andThen_some H
    refine Cd.loop (σ := Nat × Nat × Unit) (fun (i55, k55, _u) => [(1, .pointer (some ⟨b1, 0, none⟩)), (2, .pointer (some ⟨b3, 0, none⟩)), (4, .int .i64 (a0.length : Int)), (5, .pointer (some ⟨b18, 0, none⟩)), (8, .int .u32 r51.toNat), (56, .int .i64 (i55 : Int))]) (fun (i55, k55, _u) => (.blk b1 (enc a0) 9) :: (.blk b18 (enc y37) 25) :: (.blk b3 (enc Note.zero) 25) :: L) (fun _ => (fun (i55, k55, _u) => rangeM (partref_NoteRead_B2 a0 r51) k55 i55 () = some ol55 ∧ i55 + k55 = 4)) (fun (i55, k55, _u) => k55) (0, 4, ()) ⟨rfl, rfl, rfl, rfl, rfl, rfl, trivial⟩ rfl ⟨H, by omega⟩ ?_
    rintro F56 ⟨i55, k55, _u⟩ hF57 ⟨H, hik55⟩
    refine Cd.as (e' := [(1, .pointer (some ⟨b1, 0, none⟩)), (2, .pointer (some ⟨b3, 0, none⟩)), (4, .int .i64 (a0.length : Int)), (5, .pointer (some ⟨b18, 0, none⟩)), (8, .int .u32 r51.toNat), (56, .int .i64 (i55 : Int))]) (L' := (.blk b1 (enc a0) 9) :: (.blk b18 (enc y37) 25) :: (.blk b3 (enc Note.zero) 25) :: L) ⟨rfl, rfl, rfl, rfl, rfl, rfl, trivial⟩ rfl ?_
    rcases k55 with _ | k55
    · have hc55 : decide ((i55 : Int) < (4 : Int)) = false := decide_eq_false (by omega)
      replace H := rangeM_end H
      refine Cd.seq ?_
      refine Cd.region ?_
      refine Lst.run rfl rfl (by decide) (Ev.lss rfl rfl) ?_
      refine Lst.nil ?_
      refine At.then ?_
      refine Cd.seq ?_
      refine Cd.condF rfl hc55 ?_
      refine Cd.exit ?_
      refine At.then_exit ?_
      refine At.then_exit ?_
      refine At.in_exit ?_
      subst H
      replace H := HKl55
      refine At.then ?_
      refine Cd.seq ?_
      refine Cd.seq ?_
      refine Cd.region ?_
      refine Lst.run rfl rfl (by decide) (Ev.fieldAddr (off' := 1) rfl Try.runUnderlying25 rfl Try.sizeOf3 rfl rfl) ?_
      refine Lst.run rfl rfl (by decide) (Ev.load (i := 1) rfl rfl Try.isAgg3 (v := .int .i64 y37.From) ((Note.get_From (Get.here _)).off (by rfl))) ?_
      refine Lst.run rfl rfl (by decide) (Ev.fieldAddr (off' := 2) rfl Try.runUnderlying25 rfl Try.sizeOf3 rfl rfl) ?_
      refine Lst.run rfl rfl (by decide) (Ev.load (i := 1) rfl rfl Try.isAgg3 (v := .int .i64 y37.To) ((Note.get_To (Get.here _)).off (by rfl))) ?_
      refine Lst.run rfl rfl (by decide) (Ev.max2 rfl rfl) ?_
      refine Lst.run rfl rfl (by decide) (Ev.gtr rfl rfl) ?_
      refine Lst.nil ?_
      refine At.then ?_
      rcases Bool.eq_false_or_eq_true (decide ((max y37.From y37.To) > (5 : Int))) with hb64 | hb64
      · replace H := ite_t hb64 H
        refine Cd.condT rfl hb64 ?_
        refine Cd.seq ?_
        refine Cd.region ?_
        refine Lst.run rfl rfl (by decide) (Ev.build (v := .agg (enc Note.zero).toArray) (pv := []) trivial (fun w => by kernel_rfl)) ?_
        refine Lst.store (i := 2) rfl rfl rfl rfl rfl Try.sizeOf25 (vs := enc Note.zero) rfl (Enc.len _) (Enc.one _) (cs' := enc Note.zero) (Put.here ((Enc.len _).trans (Enc.len _).symm)) (L' := (.blk b1 (enc a0) 9) :: (.blk b18 (enc y37) 25) :: (.blk b3 (enc Note.zero) 25) :: L) rfl ?_
        refine Lst.run rfl rfl (by decide) (Ev.assign rfl) ?_
        refine Lst.nil ?_
        refine At.then ?_
        obtain rfl := some_inj H
        refine Cd.ret ?_
        refine At.then_ret ?_
        exact At.ret2 rfl (Res.cellA (i := 2) rfl rfl Try.isAgg25 Try.sizeOf25 (Enc.len _)) (Res.tmp rfl) (FLe.trans (FLe.trans hF23 hF39) hF57) (List.Sublist.cons _ (List.Sublist.cons _ (List.Sublist.cons _ (List.Sublist.refl _)))) ⟨rfl, rfl⟩
      replace H := ite_f hb64 H
      refine Cd.condF rfl hb64 ?_
      refine Cd.skip ?_
      refine At.then ?_
      refine Cd.seq ?_
      refine Cd.region ?_
      refine Lst.run rfl rfl (by decide) (Ev.loadA (i := 1) rfl rfl Try.isAgg25 Try.sizeOf25 (ch := enc y37) (Enc.len _) (Get.here _)) ?_
      refine Lst.store (i := 2) rfl rfl rfl rfl rfl Try.sizeOf25 (vs := enc y37) rfl (Enc.len _) (Enc.one _) (cs' := enc y37) (Put.here ((Enc.len _).trans (Enc.len _).symm)) (L' := (.blk b1 (enc a0) 9) :: (.blk b18 (enc y37) 25) :: (.blk b3 (enc y37) 25) :: L) rfl ?_
      refine Lst.run rfl rfl (by decide) (Ev.assign rfl) ?_
      refine Lst.nil ?_
      refine At.then ?_
      obtain rfl := some_inj H
      refine Cd.ret ?_
      exact At.ret2 rfl (Res.cellA (i := 2) rfl rfl Try.isAgg25 Try.sizeOf25 (Enc.len _)) (Res.tmp rfl) (FLe.trans (FLe.trans hF23 hF39) hF57) (List.Sublist.cons _ (List.Sublist.cons _ (List.Sublist.cons _ (List.Sublist.refl _)))) ⟨rfl, rfl⟩
    have hc55 : decide ((i55 : Int) < (4 : Int)) = true := decide_eq_true (by omega)
    obtain ⟨c55, H, hgo55, hbrk55, hret55⟩ := rangeM_go H
    unfold partref_NoteRead_B2 at H
    try dsimp only at H
    refine Cd.seq ?_
    refine Cd.region ?_
    refine Lst.run rfl rfl (by decide) (Ev.lss rfl rfl) ?_
    refine Lst.nil ?_
    refine At.then ?_
    refine Cd.seq ?_
    refine Cd.condT rfl hc55 ?_
    refine Cd.skip ?_
    refine At.then ?_
    refine Cd.seq ?_
    refine Cd.block ?_
    refine Cd.seq ?_
    refine Cd.region ?_
    refine Lst.run rfl rfl (by decide) (Ev.move rfl) ?_
    refine Lst.run rfl rfl (by decide) (Ev.assign rfl) ?_
    refine Lst.nil ?_
    refine At.then ?_
    refine Cd.seq ?_
    refine Cd.quiet (by kernel_rfl) (by kernel_rfl) ?_
    refine Qt.run rfl rfl (by decide) (Ev.load (i := 0) rfl rfl Try.isAgg9 (v := Str.v a0) (Get.here _)) ?_
    refine Qt.run rfl rfl (by decide) (Ev.move rfl) ?_
    refine Qt.run rfl rfl (by decide) (Ev.sub rfl rfl) ?_
    refine Qt.run rfl rfl (by decide) (Ev.move rfl) ?_
    refine Qt.run rfl rfl (by decide) (Ev.add rfl rfl) ?_
    obtain ⟨x58, h59, H⟩ := bind_some H
    refine Qt.run rfl rfl (by decide) (Ev.indexStr rfl rfl Try.runUnderlying9 h59) ?_
    refine Qt.run rfl rfl (by decide) (Ev.convTo32 rfl Try.runUnderlying5 Try.runUnderlying33) ?_
    refine Qt.run rfl rfl (by decide) (Ev.move rfl) ?_
    refine Qt.run rfl rfl (by decide) (Ev.move rfl) ?_
    refine Qt.run rfl rfl (by decide) (Ev.mul rfl rfl) ?_
    obtain ⟨n60, h61, H⟩ := bind_some H
    refine Qt.run rfl rfl (by decide) (Ev.shrU32 (i := r51) (m := n60) rfl (congrArg some (congrArg (Value.int .i64) (cnt_some h61)))) ?_
    refine Qt.run rfl rfl (by decide) (Ev.andU32 (i := r51 >>> n60) (j := (255 : BitVec 32)) rfl rfl) ?_
    refine Qt.run rfl rfl (by decide) (Ev.neq rfl rfl) ?_
    refine Qt.done ?_
    refine At.then ?_
    rcases Bool.eq_false_or_eq_true (((BitVec.ofInt 32 (x58.toBitVec.toNat : Int)).toNat : Int) != (((r51 >>> n60) &&& (255 : BitVec 32)).toNat : Int)) with hb63 | hb63
    · replace H := ite_t hb63 H
      refine Cd.condT rfl hb63 ?_
      refine Cd.seq ?_
      refine Cd.as (e' := [(2, .pointer (some ⟨b3, 0, none⟩))]) (L' := (.blk b1 (enc a0) 9) :: (.blk b18 (enc y37) 25) :: (.blk b3 (enc Note.zero) 25) :: L) ⟨rfl, trivial⟩ rfl ?_
      refine Cd.region ?_
      refine Lst.run rfl rfl (by decide) (Ev.build (v := .agg (enc Note.zero).toArray) (pv := []) trivial (fun w => by kernel_rfl)) ?_
      refine Lst.store (i := 2) rfl rfl rfl rfl rfl Try.sizeOf25 (vs := enc Note.zero) rfl (Enc.len _) (Enc.one _) (cs' := enc Note.zero) (Put.here ((Enc.len _).trans (Enc.len _).symm)) (L' := (.blk b1 (enc a0) 9) :: (.blk b18 (enc y37) 25) :: (.blk b3 (enc Note.zero) 25) :: L) rfl ?_
      refine Lst.run rfl rfl (by decide) (Ev.assign rfl) ?_
      refine Lst.nil ?_
      refine At.then ?_
      have H := hret55 _ (some_inj H).symm
      subst H
      replace H := HKl55
      obtain rfl := some_inj H
      refine Cd.ret ?_
      refine At.in_ret ?_
      refine At.then_ret ?_
      refine At.then_ret ?_
      refine At.in_ret ?_
      refine At.then_ret ?_
      exact At.ret2 rfl (Res.cellA (i := 2) rfl rfl Try.isAgg25 Try.sizeOf25 (Enc.len _)) (Res.tmp rfl) (FLe.trans (FLe.trans hF23 hF39) hF57) (List.Sublist.cons _ (List.Sublist.cons _ (List.Sublist.cons _ (List.Sublist.refl _)))) ⟨rfl, rfl⟩
    replace H := ite_f hb63 H
    refine Cd.condF rfl hb63 ?_
    refine Cd.skip ?_
    refine At.in_normal ?_
    refine At.then ?_
    refine Cd.as (e' := [(1, .pointer (some ⟨b1, 0, none⟩)), (2, .pointer (some ⟨b3, 0, none⟩)), (4, .int .i64 (a0.length : Int)), (5, .pointer (some ⟨b18, 0, none⟩)), (8, .int .u32 r51.toNat), (56, .int .i64 (i55 : Int))]) (L' := (.blk b1 (enc a0) 9) :: (.blk b18 (enc y37) 25) :: (.blk b3 (enc Note.zero) 25) :: L) ⟨rfl, rfl, rfl, rfl, rfl, rfl, trivial⟩ rfl ?_
    refine Cd.region ?_
    refine Lst.run rfl rfl (by decide) (Ev.incr (by omega) rfl rfl) ?_
    refine Lst.run rfl rfl (by decide) (Ev.move rfl) ?_
    refine Lst.nil ?_
    exact At.meet (i55 + 1, k55, ()) hF57 ⟨rfl, rfl, rfl, rfl, rfl, rfl, trivial⟩ rfl ⟨⟨hgo55 _ (some_inj H).symm, by omega⟩, Nat.lt_succ_self _⟩
  have hc36 : decide ((i36 : Int) < (6 : Int)) = true := decide_eq_true (by omega)
  obtain ⟨c36, H, hgo36⟩ := rangeF_go H
  unfold partref_NoteRead_B0 at H
  try dsimp only at H
  refine Cd.seq ?_
  refine Cd.region ?_
  refine Lst.run rfl rfl (by decide) (Ev.lss rfl rfl) ?_
  refine Lst.nil ?_
  refine At.then ?_
  refine Cd.seq ?_
  refine Cd.condT rfl hc36 ?_
  refine Cd.skip ?_
  refine At.then ?_
  refine Cd.seq ?_
  refine Cd.block ?_
  refine Cd.seq ?_
  refine Cd.region ?_
  refine Lst.run rfl rfl (by decide) (Ev.move rfl) ?_
  refine Lst.run rfl rfl (by decide) (Ev.assign rfl) ?_
  refine Lst.nil ?_
  refine At.then ?_
  refine Cd.region ?_
  refine Lst.run rfl rfl (by decide) (Ev.move rfl) ?_
  refine Lst.run rfl rfl (by decide) (Ev.move rfl) ?_
  refine Lst.run rfl rfl (by decide) (Ev.move rfl) ?_
  refine Lst.run rfl rfl (by decide) (Ev.mul rfl rfl) ?_
  refine Lst.run rfl rfl (by decide) (Ev.add rfl rfl) ?_
  obtain ⟨r40, h41, H⟩ := bind_some H
  refine Lst.callV1 rfl rfl (by decide) (vs := [.int .i64 (w64 ((9 : Int) + (w64 ((3 : Int) * (i36 : Int)))))]) (cs := [.pointer (some ⟨b1, 0, none⟩)]) rfl ⟨rfl, trivial⟩ Try.call90 (partref_NoteRead_1_sim h41 w0 _ M _ (List.Sublist.cons _ (List.Sublist.cons _ hM))) ?_
  refine Lst.run rfl rfl (by decide) (Ev.fieldAddr (off' := 5) rfl Try.runUnderlying25 rfl Try.sizeOf23 rfl rfl) ?_
  obtain ⟨x44, h45, H⟩ := bind_some H
  have g46 := vat_some h45
  refine Lst.run rfl rfl (by decide) (Ev.indexAddr (off' := 5 + (i36 : Int).toNat * 1) rfl rfl Try.runUnderlying23 Try.sizeOf3 g46.1 g46.2.1 rfl) ?_
  obtain ⟨p47, h48, H⟩ := Let_some H
  refine Lst.store (i := 1) rfl rfl rfl rfl rfl Try.sizeOf3 (vs := [.int .i64 r40]) rfl rfl rfl (cs' := enc p47) (by rw [← h48]; exact (Note.put_At (Put.vecN (s := 1) (x := x44) rfl g46.2.2 (Put.here (vs := [.int .i64 r40]) rfl))).off (by omega)) (L' := (.blk b1 (enc a0) 9) :: (.blk b18 (enc p47) 25) :: (.blk b3 (enc Note.zero) 25) :: L) rfl ?_
  refine Lst.nil ?_
  refine At.in_normal ?_
  refine At.then ?_
  refine Cd.region ?_
  refine Lst.run rfl rfl (by decide) (Ev.incr (by omega) rfl rfl) ?_
  refine Lst.run rfl rfl (by decide) (Ev.move rfl) ?_
  refine Lst.nil ?_
  exact At.meet (i36 + 1, k36, p47) hF39 ⟨rfl, rfl, rfl, rfl, rfl, rfl, trivial⟩ rfl ⟨⟨hgo36 _ (some_inj H).symm, by omega⟩, Nat.lt_succ_self _⟩
set_option maxRecDepth 20000 in
theorem partlaw_WireSays_sim {fu : Nat} {a0 : Note} {a1 : Str} {r : Bool} (H : partlaw_WireSays fu a0 a1 = some r) (w0 : World) (F : Frz) (M L : List Item) (hM : M.Sublist L) : Ok Try.prog w0 3 [.agg (enc a0).toArray, Str.v a1] F (L) (Is (.bool r) (L)) := by
  unfold partlaw_WireSays at H
  refine Ok.enter (m := 2) (n := 65) Try.func3 rfl rfl rfl (by decide) ?_
  refine Cd.env (e' := [(0, .agg (enc a0).toArray), (1, Str.v a1)]) rfl ?_
  refine Cd.seq ?_
  refine Cd.region ?_
  refine Lst.box rfl rfl (by decide) rfl (cs := enc a0) rfl (fun b1 => ?_)
  refine Lst.run rfl rfl (by decide) (Ev.assign rfl) ?_
  refine Lst.nil ?_
  refine At.then ?_
  refine Cd.seq ?_
  refine Cd.region ?_
  refine Lst.run rfl rfl (by decide) (Ev.loadA (i := 0) rfl rfl Try.isAgg25 Try.sizeOf25 (ch := enc a0) (Enc.len _) (Get.here _)) ?_
  obtain ⟨r3, h4, H⟩ := bind_some H
  refine Lst.call1 rfl rfl (by decide) (vs := [.agg (enc a0).toArray]) ⟨rfl, trivial⟩ Try.call12 (partref_NoteErr_sim h4 w0 _ M _ (List.Sublist.cons _ hM)) ?_
  refine Lst.run rfl rfl (by decide) (Ev.assign rfl) ?_
  refine Lst.nil ?_
  refine At.then ?_
  refine Cd.seq ?_
  refine Cd.region ?_
  refine Lst.run rfl rfl (by decide) (Ev.loadA (i := 0) rfl rfl Try.isAgg25 Try.sizeOf25 (ch := enc a0) (Enc.len _) (Get.here _)) ?_
  obtain ⟨r7, h8, H⟩ := bind_some H
  refine Lst.call1 rfl rfl (by decide) (vs := [.agg (enc a0).toArray]) ⟨rfl, trivial⟩ Try.call13 (wire_Pack_sim h8 w0 _ M _ (List.Sublist.cons _ hM)) ?_
  refine Lst.run rfl rfl (by decide) (Ev.move rfl) ?_
  refine Lst.run rfl rfl (by decide) (Ev.extract rfl rfl) ?_
  refine Lst.run rfl rfl (by decide) (Ev.extract rfl rfl) ?_
  refine Lst.run rfl rfl (by decide) (Ev.assign rfl) ?_
  refine Lst.run rfl rfl (by decide) (Ev.assign rfl) ?_
  refine Lst.nil ?_
  refine At.then ?_
  refine Cd.seq ?_
  refine Cd.region ?_
  refine Lst.run rfl rfl (by decide) (Ev.assign rfl) ?_
  refine Lst.nil ?_
  refine At.then ?_
  obtain ⟨o12, H, HKo12⟩ := bind_some H
  refine Cd.join (σ := Str) (fun y11 => [(1, Str.v a1), (2, .pointer (some ⟨b1, 0, none⟩)), (5, .int .i64 r3), (6, Str.v r7.1), (7, .int .i64 r7.2), (8, Str.v y11)]) (fun y11 => (.blk b1 (enc a0) 25) :: L) (fun _ y11 => y11 = o12) ?_ ?_
  · refine Cd.seq ?_
    refine Cd.region ?_
    refine Lst.run rfl rfl (by decide) (Ev.move rfl) ?_
    refine Lst.run rfl rfl (by decide) (Ev.eql rfl rfl) ?_
    refine Lst.nil ?_
    refine At.then ?_
    rcases (Bool.eq_false_or_eq_true (r3 == (0 : Int))).symm with hb13 | hb13
    · replace H := ite_f hb13 H
      refine Cd.condF rfl hb13 ?_
      refine Cd.skip ?_
      exact At.meet ([] : Str) (FLe.refl _) ⟨rfl, rfl, rfl, rfl, rfl, rfl, trivial⟩ rfl (some_inj H)
    replace H := ite_t hb13 H
    refine Cd.condT rfl hb13 ?_
    refine Cd.region ?_
    refine Lst.run rfl rfl (by decide) (Ev.loadA (i := 0) rfl rfl Try.isAgg25 Try.sizeOf25 (ch := enc a0) (Enc.len _) (Get.here _)) ?_
    obtain ⟨r14, h15, H⟩ := bind_some H
    refine Lst.call1 rfl rfl (by decide) (vs := [.agg (enc a0).toArray]) ⟨rfl, trivial⟩ Try.call14 (partref_NoteText_sim h15 w0 _ M _ (List.Sublist.cons _ hM)) ?_
    refine Lst.run rfl rfl (by decide) (Ev.assign rfl) ?_
    refine Lst.nil ?_
    exact At.meet r14 (FLe.refl _) ⟨rfl, rfl, rfl, rfl, rfl, rfl, trivial⟩ rfl (some_inj H)
  rintro F18 y11 hF19 hy
  subst hy
  refine Cd.as (e' := [(1, Str.v a1), (2, .pointer (some ⟨b1, 0, none⟩)), (5, .int .i64 r3), (6, Str.v r7.1), (7, .int .i64 r7.2), (8, Str.v y11)]) (L' := (.blk b1 (enc a0) 25) :: L) ⟨rfl, rfl, rfl, rfl, rfl, rfl, trivial⟩ rfl ?_
  replace H := HKo12
  refine Cd.seq ?_
  refine Cd.region ?_
  refine Lst.run rfl rfl (by decide) (Ev.move rfl) ?_
  obtain ⟨r20, h21, H⟩ := bind_some H
  refine Lst.call1 rfl rfl (by decide) (vs := [Str.v a1]) ⟨rfl, trivial⟩ Try.call15 (wire_Read_sim h21 w0 _ M _ (List.Sublist.cons _ hM)) ?_
  refine Lst.run rfl rfl (by decide) (Ev.move rfl) ?_
  refine Lst.run rfl rfl (by decide) (Ev.extract rfl rfl) ?_
  refine Lst.run rfl rfl (by decide) (Ev.extract rfl rfl) ?_
  refine Lst.alloc (cs := enc Note.zero) rfl rfl (by decide) Try.zeroValue25 rfl (fun b24 => ?_)
  refine Lst.store (i := 0) rfl rfl rfl rfl rfl Try.sizeOf25 (vs := enc r20.1) rfl (Enc.len _) (Enc.one _) (cs' := enc r20.1) (Put.here ((Enc.len _).trans (Enc.len _).symm)) (L' := (.blk b24 (enc r20.1) 25) :: (.blk b1 (enc a0) 25) :: L) rfl ?_
  refine Lst.run rfl rfl (by decide) (Ev.assign rfl) ?_
  refine Lst.nil ?_
  refine At.then ?_
  refine Cd.seq ?_
  refine Cd.region ?_
  refine Lst.run rfl rfl (by decide) (Ev.move rfl) ?_
  obtain ⟨r26, h27, H⟩ := bind_some H
  refine Lst.call1 rfl rfl (by decide) (vs := [Str.v a1]) ⟨rfl, trivial⟩ Try.call16 (partref_NoteRead_sim h27 w0 _ M _ (List.Sublist.cons _ (List.Sublist.cons _ hM))) ?_
  refine Lst.run rfl rfl (by decide) (Ev.move rfl) ?_
  refine Lst.run rfl rfl (by decide) (Ev.extract rfl rfl) ?_
  refine Lst.run rfl rfl (by decide) (Ev.extract rfl rfl) ?_
  refine Lst.alloc (cs := enc Note.zero) rfl rfl (by decide) Try.zeroValue25 rfl (fun b30 => ?_)
  refine Lst.store (i := 0) rfl rfl rfl rfl rfl Try.sizeOf25 (vs := enc r26.1) rfl (Enc.len _) (Enc.one _) (cs' := enc r26.1) (Put.here ((Enc.len _).trans (Enc.len _).symm)) (L' := (.blk b30 (enc r26.1) 25) :: (.blk b24 (enc r20.1) 25) :: (.blk b1 (enc a0) 25) :: L) rfl ?_
  refine Lst.run rfl rfl (by decide) (Ev.assign rfl) ?_
  refine Lst.nil ?_
  refine At.then ?_
  refine Cd.seq ?_
  refine Cd.region ?_
  refine Lst.run rfl rfl (by decide) (Ev.move rfl) ?_
  obtain ⟨r32, h33, H⟩ := bind_some H
  refine Lst.call1 rfl rfl (by decide) (vs := [Str.v a1]) ⟨rfl, trivial⟩ Try.call17 (wire_Sum_sim h33 w0 _ M _ (List.Sublist.cons _ (List.Sublist.cons _ (List.Sublist.cons _ hM)))) ?_
  refine Lst.run rfl rfl (by decide) (Ev.move rfl) ?_
  obtain ⟨r36, h37, H⟩ := bind_some H
  refine Lst.call1 rfl rfl (by decide) (vs := [Str.v a1]) ⟨rfl, trivial⟩ Try.call18 (partref_Sum_sim h37 w0 _ M _ (List.Sublist.cons _ (List.Sublist.cons _ (List.Sublist.cons _ hM)))) ?_
  refine Lst.run rfl rfl (by decide) (Ev.eql rfl rfl) ?_
  refine Lst.run rfl rfl (by decide) (Ev.move rfl) ?_
  obtain ⟨o40, H, HKo40⟩ := bind_some H
  refine Lst.join (σ := Bool) 5 (fun y41 => [(5, .int .i64 r3), (6, Str.v r7.1), (7, .int .i64 r7.2), (8, Str.v y11), (9, .pointer (some ⟨b24, 0, none⟩)), (10, .int .i64 r20.2), (11, .pointer (some ⟨b30, 0, none⟩)), (12, .int .i64 r26.2), (44, .bool y41)]) (fun y41 => (.blk b30 (enc r26.1) 25) :: (.blk b24 (enc r20.1) 25) :: (.blk b1 (enc a0) 25) :: L) (fun _ y41 => y41 = o40) ?_ ?_
  · rcases (Bool.eq_false_or_eq_true ((r32.toNat : Int) == (r36.toNat : Int))).symm with hb42 | hb42
    · replace H := ite_f hb42 H
      refine Lst.skip rfl rfl rfl hb42 rfl (by decide) ?_
      refine Lst.skip rfl rfl rfl hb42 rfl (by decide) ?_
      refine Lst.skip rfl rfl rfl hb42 rfl (by decide) ?_
      refine Lst.skip rfl rfl rfl hb42 rfl (by decide) ?_
      refine Lst.run rfl rfl (by decide) (Ev.pickF rfl hb42 rfl) ?_
      refine Lst.nil ?_
      exact At.meet false (FLe.refl _) ⟨rfl, rfl, rfl, rfl, rfl, rfl, rfl, rfl, rfl, trivial⟩ rfl (some_inj H)
    replace H := ite_t hb42 H
    refine Lst.runG rfl rfl rfl hb42 rfl (by decide) (Ev.loadA (i := 2) rfl rfl Try.isAgg25 Try.sizeOf25 (ch := enc a0) (Enc.len _) (Get.here _)) ?_
    obtain ⟨r43, h44, H⟩ := bind_some H
    refine Lst.call1G rfl rfl rfl hb42 rfl (by decide) (vs := [.agg (enc a0).toArray]) ⟨rfl, trivial⟩ Try.call19 (wire_Check_sim h44 w0 _ M _ (List.Sublist.cons _ (List.Sublist.cons _ (List.Sublist.cons _ hM)))) ?_
    refine Lst.runG rfl rfl rfl hb42 rfl (by decide) (Ev.move rfl) ?_
    refine Lst.runG rfl rfl rfl hb42 rfl (by decide) (Ev.eql rfl rfl) ?_
    refine Lst.run rfl rfl (by decide) (Ev.pickT rfl hb42 rfl) ?_
    refine Lst.nil ?_
    exact At.meet (r43 == r3) (FLe.refl _) ⟨rfl, rfl, rfl, rfl, rfl, rfl, rfl, rfl, rfl, trivial⟩ rfl (some_inj H)
  rintro F47 y41 hF48 hy
  subst hy
  refine Lst.as (e' := [(5, .int .i64 r3), (6, Str.v r7.1), (7, .int .i64 r7.2), (8, Str.v y11), (9, .pointer (some ⟨b24, 0, none⟩)), (10, .int .i64 r20.2), (11, .pointer (some ⟨b30, 0, none⟩)), (12, .int .i64 r26.2), (44, .bool y41)]) (L' := (.blk b30 (enc r26.1) 25) :: (.blk b24 (enc r20.1) 25) :: (.blk b1 (enc a0) 25) :: L) ⟨rfl, rfl, rfl, rfl, rfl, rfl, rfl, rfl, rfl, trivial⟩ rfl ?_
  replace H := HKo40
  refine Lst.run rfl rfl (by decide) (Ev.move rfl) ?_
  obtain ⟨o49, H, HKo49⟩ := bind_some H
  refine Lst.join (σ := Bool) 4 (fun y50 => [(5, .int .i64 r3), (7, .int .i64 r7.2), (9, .pointer (some ⟨b24, 0, none⟩)), (10, .int .i64 r20.2), (11, .pointer (some ⟨b30, 0, none⟩)), (12, .int .i64 r26.2), (49, .bool y50)]) (fun y50 => (.blk b30 (enc r26.1) 25) :: (.blk b24 (enc r20.1) 25) :: (.blk b1 (enc a0) 25) :: L) (fun _ y50 => y50 = o49) ?_ ?_
  · rcases (Bool.eq_false_or_eq_true y41).symm with hb51 | hb51
    · replace H := ite_f hb51 H
      refine Lst.skip rfl rfl rfl hb51 rfl (by decide) ?_
      refine Lst.skip rfl rfl rfl hb51 rfl (by decide) ?_
      refine Lst.skip rfl rfl rfl hb51 rfl (by decide) ?_
      refine Lst.run rfl rfl (by decide) (Ev.pickF rfl hb51 rfl) ?_
      refine Lst.nil ?_
      exact At.meet false (FLe.refl _) ⟨rfl, rfl, rfl, rfl, rfl, rfl, rfl, trivial⟩ rfl (some_inj H)
    replace H := ite_t hb51 H
    refine Lst.runG rfl rfl rfl hb51 rfl (by decide) (Ev.move rfl) ?_
    refine Lst.runG rfl rfl rfl hb51 rfl (by decide) (Ev.move rfl) ?_
    refine Lst.runG rfl rfl rfl hb51 rfl (by decide) (Ev.eqlStr (s := r7.1) (m := y11) rfl rfl) ?_
    refine Lst.run rfl rfl (by decide) (Ev.pickT rfl hb51 rfl) ?_
    refine Lst.nil ?_
    exact At.meet (decide (r7.1 = y11)) (FLe.refl _) ⟨rfl, rfl, rfl, rfl, rfl, rfl, rfl, trivial⟩ rfl (some_inj H)
  rintro F52 y50 hF53 hy
  subst hy
  refine Lst.as (e' := [(5, .int .i64 r3), (7, .int .i64 r7.2), (9, .pointer (some ⟨b24, 0, none⟩)), (10, .int .i64 r20.2), (11, .pointer (some ⟨b30, 0, none⟩)), (12, .int .i64 r26.2), (49, .bool y50)]) (L' := (.blk b30 (enc r26.1) 25) :: (.blk b24 (enc r20.1) 25) :: (.blk b1 (enc a0) 25) :: L) ⟨rfl, rfl, rfl, rfl, rfl, rfl, rfl, trivial⟩ rfl ?_
  replace H := HKo49
  refine Lst.run rfl rfl (by decide) (Ev.move rfl) ?_
  obtain ⟨o54, H, HKo54⟩ := bind_some H
  refine Lst.join (σ := Bool) 4 (fun y55 => [(9, .pointer (some ⟨b24, 0, none⟩)), (10, .int .i64 r20.2), (11, .pointer (some ⟨b30, 0, none⟩)), (12, .int .i64 r26.2), (54, .bool y55)]) (fun y55 => (.blk b30 (enc r26.1) 25) :: (.blk b24 (enc r20.1) 25) :: (.blk b1 (enc a0) 25) :: L) (fun _ y55 => y55 = o54) ?_ ?_
  · rcases (Bool.eq_false_or_eq_true y50).symm with hb56 | hb56
    · replace H := ite_f hb56 H
      refine Lst.skip rfl rfl rfl hb56 rfl (by decide) ?_
      refine Lst.skip rfl rfl rfl hb56 rfl (by decide) ?_
      refine Lst.skip rfl rfl rfl hb56 rfl (by decide) ?_
      refine Lst.run rfl rfl (by decide) (Ev.pickF rfl hb56 rfl) ?_
      refine Lst.nil ?_
      exact At.meet false (FLe.refl _) ⟨rfl, rfl, rfl, rfl, rfl, trivial⟩ rfl (some_inj H)
    replace H := ite_t hb56 H
    refine Lst.runG rfl rfl rfl hb56 rfl (by decide) (Ev.move rfl) ?_
    refine Lst.runG rfl rfl rfl hb56 rfl (by decide) (Ev.move rfl) ?_
    refine Lst.runG rfl rfl rfl hb56 rfl (by decide) (Ev.eql rfl rfl) ?_
    refine Lst.run rfl rfl (by decide) (Ev.pickT rfl hb56 rfl) ?_
    refine Lst.nil ?_
    exact At.meet (r7.2 == r3) (FLe.refl _) ⟨rfl, rfl, rfl, rfl, rfl, trivial⟩ rfl (some_inj H)
  rintro F57 y55 hF58 hy
  subst hy
  refine Lst.as (e' := [(9, .pointer (some ⟨b24, 0, none⟩)), (10, .int .i64 r20.2), (11, .pointer (some ⟨b30, 0, none⟩)), (12, .int .i64 r26.2), (54, .bool y55)]) (L' := (.blk b30 (enc r26.1) 25) :: (.blk b24 (enc r20.1) 25) :: (.blk b1 (enc a0) 25) :: L) ⟨rfl, rfl, rfl, rfl, rfl, trivial⟩ rfl ?_
  replace H := HKo54
  refine Lst.run rfl rfl (by decide) (Ev.move rfl) ?_
  obtain ⟨o59, H, HKo59⟩ := bind_some H
  refine Lst.join (σ := Bool) 4 (fun y60 => [(10, .int .i64 r20.2), (12, .int .i64 r26.2), (59, .bool y60)]) (fun y60 => (.blk b30 (enc r26.1) 25) :: (.blk b24 (enc r20.1) 25) :: (.blk b1 (enc a0) 25) :: L) (fun _ y60 => y60 = o59) ?_ ?_
  · rcases (Bool.eq_false_or_eq_true y55).symm with hb61 | hb61
    · replace H := ite_f hb61 H
      refine Lst.skip rfl rfl rfl hb61 rfl (by decide) ?_
      refine Lst.skip rfl rfl rfl hb61 rfl (by decide) ?_
      refine Lst.skip rfl rfl rfl hb61 rfl (by decide) ?_
      refine Lst.run rfl rfl (by decide) (Ev.pickF rfl hb61 rfl) ?_
      refine Lst.nil ?_
      exact At.meet false (FLe.refl _) ⟨rfl, rfl, rfl, trivial⟩ rfl (some_inj H)
    replace H := ite_t hb61 H
    refine Lst.runG rfl rfl rfl hb61 rfl (by decide) (Ev.loadA (i := 1) rfl rfl Try.isAgg25 Try.sizeOf25 (ch := enc r20.1) (Enc.len _) (Get.here _)) ?_
    refine Lst.runG rfl rfl rfl hb61 rfl (by decide) (Ev.loadA (i := 0) rfl rfl Try.isAgg25 Try.sizeOf25 (ch := enc r26.1) (Enc.len _) (Get.here _)) ?_
    refine Lst.runG rfl rfl rfl hb61 rfl (by decide) (Ev.eqlA rfl rfl (by kernel_rfl) (eq25 _ _)) ?_
    refine Lst.run rfl rfl (by decide) (Ev.pickT rfl hb61 rfl) ?_
    refine Lst.nil ?_
    exact At.meet (decide (r20.1 = r26.1)) (FLe.refl _) ⟨rfl, rfl, rfl, trivial⟩ rfl (some_inj H)
  rintro F62 y60 hF63 hy
  subst hy
  refine Lst.as (e' := [(10, .int .i64 r20.2), (12, .int .i64 r26.2), (59, .bool y60)]) (L' := (.blk b30 (enc r26.1) 25) :: (.blk b24 (enc r20.1) 25) :: (.blk b1 (enc a0) 25) :: L) ⟨rfl, rfl, rfl, trivial⟩ rfl ?_
  replace H := HKo59
  refine Lst.run rfl rfl (by decide) (Ev.move rfl) ?_
  obtain ⟨o64, H, HKo64⟩ := bind_some H
  refine Lst.join (σ := Bool) 4 (fun y65 => [(64, .bool y65)]) (fun y65 => (.blk b30 (enc r26.1) 25) :: (.blk b24 (enc r20.1) 25) :: (.blk b1 (enc a0) 25) :: L) (fun _ y65 => y65 = o64) ?_ ?_
  · rcases (Bool.eq_false_or_eq_true y60).symm with hb66 | hb66
    · replace H := ite_f hb66 H
      refine Lst.skip rfl rfl rfl hb66 rfl (by decide) ?_
      refine Lst.skip rfl rfl rfl hb66 rfl (by decide) ?_
      refine Lst.skip rfl rfl rfl hb66 rfl (by decide) ?_
      refine Lst.run rfl rfl (by decide) (Ev.pickF rfl hb66 rfl) ?_
      refine Lst.nil ?_
      exact At.meet false (FLe.refl _) ⟨rfl, trivial⟩ rfl (some_inj H)
    replace H := ite_t hb66 H
    refine Lst.runG rfl rfl rfl hb66 rfl (by decide) (Ev.move rfl) ?_
    refine Lst.runG rfl rfl rfl hb66 rfl (by decide) (Ev.move rfl) ?_
    refine Lst.runG rfl rfl rfl hb66 rfl (by decide) (Ev.eql rfl rfl) ?_
    refine Lst.run rfl rfl (by decide) (Ev.pickT rfl hb66 rfl) ?_
    refine Lst.nil ?_
    exact At.meet (r20.2 == r26.2) (FLe.refl _) ⟨rfl, trivial⟩ rfl (some_inj H)
  rintro F67 y65 hF68 hy
  subst hy
  refine Lst.as (e' := [(64, .bool y65)]) (L' := (.blk b30 (enc r26.1) 25) :: (.blk b24 (enc r20.1) 25) :: (.blk b1 (enc a0) 25) :: L) ⟨rfl, trivial⟩ rfl ?_
  replace H := HKo64
  refine Lst.run rfl rfl (by decide) (Ev.assign rfl) ?_
  refine Lst.nil ?_
  refine At.then ?_
  obtain rfl := some_inj H
  refine Cd.ret ?_
  exact At.ret1 rfl (Res.tmp rfl) (FLe.trans (FLe.trans (FLe.trans (FLe.trans (FLe.trans hF19 hF48) hF53) hF58) hF63) hF68) (List.Sublist.cons _ (List.Sublist.cons _ (List.Sublist.cons _ (List.Sublist.refl _)))) ⟨rfl, rfl⟩
end Go.Proofs.Ytobikknjaomalaa
