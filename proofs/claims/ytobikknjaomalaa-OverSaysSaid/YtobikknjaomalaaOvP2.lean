/-
  The functions compute their specs; printed by a program.
-/
import Derived.Test.YtobikknjaomalaaOvP1
namespace Go.Proofs.Ytobikknjaomalaa
open Go.RowKit Enc
set_option linter.unusedVariables false
set_option linter.unusedSimpArgs false
set_option maxRecDepth 20000 in
theorem over_Done_sim {a0 : Over} {s_a0_0 : Sl} {s_a0_1 : Sl} {r : Bool × Int} (H : over_Done a0 = some r) (w0 : World) (F : Frz) (M L : List Item) (hM : M.Sublist L) (hs_a0_0 : Rd w0 F M s_a0_0 a0.Hands) (hs_a0_1 : Rd w0 F M s_a0_1 a0.Way) : Ok Try.prog w0 78 [.agg (enc (OverR.mk a0 s_a0_0 s_a0_1)).toArray] F (L) (Is (.tuple #[.bool r.1, .int .i64 r.2]) (L)) := by
  unfold over_Done at H
  refine Ok.enter (m := 1) (n := 24) Try.func78 rfl rfl rfl (by decide) ?_
  refine Cd.env (e' := [(0, .agg (enc (OverR.mk a0 s_a0_0 s_a0_1)).toArray)]) rfl ?_
  refine Cd.seq ?_
  refine Cd.region ?_
  refine Lst.box rfl rfl (by decide) rfl (cs := enc (OverR.mk a0 s_a0_0 s_a0_1)) rfl (fun b1 => ?_)
  refine Lst.run rfl rfl (by decide) (Ev.assign rfl) ?_
  refine Lst.run rfl rfl (by decide) (Ev.assign rfl) ?_
  refine Lst.nil ?_
  refine At.then ?_
  refine Cd.seq ?_
  refine Cd.seq ?_
  refine Cd.region ?_
  refine Lst.run rfl rfl (by decide) (Ev.loadA (i := 0) rfl rfl Try.isAgg124 Try.sizeOf124 (ch := enc (OverR.mk a0 s_a0_0 s_a0_1)) (Enc.len _) (Get.here _)) ?_
  obtain ⟨r3, h4, H⟩ := bind_some H
  refine Lst.call1 rfl rfl (by decide) (vs := [.agg (enc (OverR.mk a0 s_a0_0 s_a0_1)).toArray]) ⟨rfl, trivial⟩ Try.call81 (over_Check_sim h4 w0 _ M _ (List.Sublist.cons _ hM) (hs_a0_0.mono (FLe.refl _) (List.Sublist.refl _)) (hs_a0_1.mono (FLe.refl _) (List.Sublist.refl _))) ?_
  refine Lst.run rfl rfl (by decide) (Ev.assign rfl) ?_
  refine Lst.nil ?_
  refine At.then ?_
  refine Cd.seq ?_
  refine Cd.region ?_
  refine Lst.run rfl rfl (by decide) (Ev.move rfl) ?_
  refine Lst.run rfl rfl (by decide) (Ev.neq rfl rfl) ?_
  refine Lst.nil ?_
  refine At.then ?_
  rcases Bool.eq_false_or_eq_true (r3 != (0 : Int)) with hb7 | hb7
  · replace H := ite_t hb7 H
    refine Cd.condT rfl hb7 ?_
    refine Cd.seq ?_
    refine Cd.region ?_
    refine Lst.run rfl rfl (by decide) (Ev.move rfl) ?_
    refine Lst.run rfl rfl (by decide) (Ev.assign rfl) ?_
    refine Lst.run rfl rfl (by decide) (Ev.assign rfl) ?_
    refine Lst.nil ?_
    refine At.then ?_
    obtain rfl := some_inj H
    refine Cd.ret ?_
    refine At.then_ret ?_
    exact At.ret2 rfl (Res.tmp rfl) (Res.tmp rfl) (FLe.refl _) (List.Sublist.cons _ (List.Sublist.refl _)) ⟨rfl, rfl⟩
  replace H := ite_f hb7 H
  refine Cd.condF rfl hb7 ?_
  refine Cd.skip ?_
  refine At.then ?_
  refine Cd.seq ?_
  refine Cd.region ?_
  refine Lst.run rfl rfl (by decide) (Ev.fieldAddr (off' := 0) rfl Try.runUnderlying124 rfl Try.sizeOf122 rfl rfl) ?_
  refine Lst.run rfl rfl (by decide) (Ev.load (i := 0) rfl rfl Try.isAgg122 (v := Sl.v s_a0_0) ((OverR.get_Hands (Get.here _)).off (by rfl))) ?_
  obtain ⟨x8, h9, H⟩ := bind_some H
  have g10 := lat_some h9
  refine Lst.run rfl rfl (by decide) (Ev.indexS (α := Hand) (xs := a0.Hands) rfl rfl Try.runUnderlying122 Try.sizeOf135 rfl (by decide) (hs_a0_0.mono (FLe.refl _) (List.Sublist.cons _ hM)) g10.1 g10.2.1) ?_
  refine Lst.run rfl rfl (by decide) (Ev.fieldS (α := Hand) (f' := (0 : Int).toNat * 3 + 0) rfl (hs_a0_0.mono (FLe.refl _) (List.Sublist.cons _ hM)) ((Get.elemN (s := 3) (x := x8) rfl g10.2.2 (Get.here _)).off (by omega)) rfl Try.runUnderlying135 rfl Try.sizeOf4 rfl rfl rfl) ?_
  refine Lst.run rfl rfl (by decide) (Ev.loadS (α := Hand) rfl (hs_a0_0.mono (FLe.refl _) (List.Sublist.cons _ hM)) Try.isAgg4 (v := .bool x8.Busy) ((Get.elemN (s := 3) (x := x8) rfl g10.2.2 (Hand.get_Busy (Get.here _))).off (by omega))) ?_
  refine Lst.run rfl rfl (by decide) (Ev.not rfl) ?_
  refine Lst.run rfl rfl (by decide) (Ev.move rfl) ?_
  obtain ⟨o11, H, HKo11⟩ := bind_some H
  refine Lst.join (σ := Bool) 7 (fun y12 => [(23, .bool y12)]) (fun y12 => (.blk b1 (enc (OverR.mk a0 s_a0_0 s_a0_1)) 124) :: L) (fun _ y12 => y12 = o11) ?_ ?_
  · rcases (Bool.eq_false_or_eq_true (!x8.Busy)).symm with hb13 | hb13
    · replace H := ite_f hb13 H
      refine Lst.skip rfl rfl rfl hb13 rfl (by decide) ?_
      refine Lst.skip rfl rfl rfl hb13 rfl (by decide) ?_
      refine Lst.skip rfl rfl rfl hb13 rfl (by decide) ?_
      refine Lst.skip rfl rfl rfl hb13 rfl (by decide) ?_
      refine Lst.skip rfl rfl rfl hb13 rfl (by decide) ?_
      refine Lst.skip rfl rfl rfl hb13 rfl (by decide) ?_
      refine Lst.run rfl rfl (by decide) (Ev.pickF rfl hb13 rfl) ?_
      refine Lst.nil ?_
      exact At.meet false (FLe.refl _) ⟨rfl, trivial⟩ rfl (some_inj H)
    replace H := ite_t hb13 H
    refine Lst.runG rfl rfl rfl hb13 rfl (by decide) (Ev.fieldAddr (off' := 0) rfl Try.runUnderlying124 rfl Try.sizeOf122 rfl rfl) ?_
    refine Lst.runG rfl rfl rfl hb13 rfl (by decide) (Ev.load (i := 0) rfl rfl Try.isAgg122 (v := Sl.v s_a0_0) ((OverR.get_Hands (Get.here _)).off (by rfl))) ?_
    obtain ⟨x14, h15, H⟩ := bind_some H
    have g16 := lat_some h15
    refine Lst.runG rfl rfl rfl hb13 rfl (by decide) (Ev.indexS (α := Hand) (xs := a0.Hands) rfl rfl Try.runUnderlying122 Try.sizeOf135 rfl (by decide) (hs_a0_0.mono (FLe.refl _) (List.Sublist.cons _ hM)) g16.1 g16.2.1) ?_
    refine Lst.runG rfl rfl rfl hb13 rfl (by decide) (Ev.fieldS (α := Hand) (f' := (0 : Int).toNat * 3 + 2) rfl (hs_a0_0.mono (FLe.refl _) (List.Sublist.cons _ hM)) ((Get.elemN (s := 3) (x := x14) rfl g16.2.2 (Get.here _)).off (by omega)) rfl Try.runUnderlying135 rfl Try.sizeOf3 rfl rfl rfl) ?_
    refine Lst.runG rfl rfl rfl hb13 rfl (by decide) (Ev.loadS (α := Hand) rfl (hs_a0_0.mono (FLe.refl _) (List.Sublist.cons _ hM)) Try.isAgg3 (v := .int .i64 x14.Owed) ((Get.elemN (s := 3) (x := x14) rfl g16.2.2 (Hand.get_Owed (Get.here _))).off (by omega))) ?_
    refine Lst.runG rfl rfl rfl hb13 rfl (by decide) (Ev.eql rfl rfl) ?_
    refine Lst.run rfl rfl (by decide) (Ev.pickT rfl hb13 rfl) ?_
    refine Lst.nil ?_
    exact At.meet (x14.Owed == (0 : Int)) (FLe.refl _) ⟨rfl, trivial⟩ rfl (some_inj H)
  rintro F17 y12 hF18 hy
  subst hy
  refine Lst.as (e' := [(23, .bool y12)]) (L' := (.blk b1 (enc (OverR.mk a0 s_a0_0 s_a0_1)) 124) :: L) ⟨rfl, trivial⟩ rfl ?_
  replace H := HKo11
  refine Lst.run rfl rfl (by decide) (Ev.assign rfl) ?_
  refine Lst.run rfl rfl (by decide) (Ev.assign rfl) ?_
  refine Lst.nil ?_
  refine At.then ?_
  obtain rfl := some_inj H
  refine Cd.ret ?_
  exact At.ret2 rfl (Res.tmp rfl) (Res.tmp rfl) hF18 (List.Sublist.cons _ (List.Sublist.refl _)) ⟨rfl, rfl⟩
set_option maxRecDepth 20000 in
theorem slices_Equal_api_Hand_api_Hand_sim {a0 : List Hand} {a1 : List Hand} {s_a0 : Sl} {s_a1 : Sl} {r : Bool} (H : slices_Equal_api_Hand_api_Hand a0 a1 = some r) (w0 : World) (F : Frz) (M L : List Item) (hM : M.Sublist L) (hs_a0 : Rd w0 F M s_a0 a0) (hs_a1 : Rd w0 F M s_a1 a1) : Ok Try.prog w0 168 [Sl.v s_a0, Sl.v s_a1] F (L) (Is (.bool r) (L)) := by
  unfold slices_Equal_api_Hand_api_Hand at H
  refine Ok.enter (m := 2) (n := 26) Try.func168 rfl rfl rfl (by decide) ?_
  refine Cd.env (e' := [(0, Sl.v s_a0), (1, Sl.v s_a1)]) rfl ?_
  refine Cd.seq ?_
  refine Cd.region ?_
  refine Lst.run rfl rfl (by decide) (Ev.assign rfl) ?_
  refine Lst.nil ?_
  refine At.then ?_
  refine Cd.seq ?_
  refine Cd.seq ?_
  refine Cd.region ?_
  refine Lst.run rfl rfl (by decide) (Ev.move rfl) ?_
  refine Lst.run rfl rfl (by decide) (Ev.lenS (α := Hand) (xs := a0) (by decide) rfl rfl Try.runUnderlying122 (hs_a0.mono (FLe.refl _) hM)) ?_
  refine Lst.run rfl rfl (by decide) (Ev.move rfl) ?_
  refine Lst.run rfl rfl (by decide) (Ev.lenS (α := Hand) (xs := a1) (by decide) rfl rfl Try.runUnderlying122 (hs_a1.mono (FLe.refl _) hM)) ?_
  refine Lst.run rfl rfl (by decide) (Ev.neq rfl rfl) ?_
  refine Lst.nil ?_
  refine At.then ?_
  rcases Bool.eq_false_or_eq_true ((a0.length : Int) != (a1.length : Int)) with hb1 | hb1
  · replace H := ite_t hb1 H
    refine Cd.condT rfl hb1 ?_
    refine Cd.seq ?_
    refine Cd.region ?_
    refine Lst.run rfl rfl (by decide) (Ev.assign rfl) ?_
    refine Lst.nil ?_
    refine At.then ?_
    obtain rfl := some_inj H
    refine Cd.ret ?_
    refine At.then_ret ?_
    exact At.ret1 rfl (Res.tmp rfl) (FLe.refl _) (List.Sublist.refl _) ⟨rfl, rfl⟩
  replace H := ite_f hb1 H
  refine Cd.condF rfl hb1 ?_
  refine Cd.skip ?_
  refine At.then ?_
  refine Cd.seq ?_
  refine Cd.seq ?_
  refine Cd.region ?_
  refine Lst.run rfl rfl (by decide) (Ev.move rfl) ?_
  refine Lst.run rfl rfl (by decide) (Ev.lenS (α := Hand) (xs := a0) (by decide) rfl rfl Try.runUnderlying122 (hs_a0.mono (FLe.refl _) hM)) ?_
  refine Lst.run rfl rfl (by decide) (Ev.move rfl) ?_
  refine Lst.nil ?_
  refine At.then ?_
  refine Cd.block ?_
  refine Cd.bound (Rd.le (α := Hand) (xs := a0) (by decide) (hs_a0.mono (FLe.refl _) hM)) (fun hN12 => ?_)
  obtain ⟨ol2, H, HKl2⟩ := andThen_some H
  refine Cd.loop (σ := Nat × Nat × Unit) (fun (i2, k2, _u) => [(0, Sl.v s_a0), (1, Sl.v s_a1), (12, .int .i64 (a0.length : Int)), (13, .int .i64 (i2 : Int))]) (fun (i2, k2, _u) => L) (fun _ => (fun (i2, k2, _u) => rangeM (slices_Equal_api_Hand_api_Hand_B0 a0 a1) k2 i2 () = some ol2 ∧ i2 + k2 = a0.length)) (fun (i2, k2, _u) => k2) (0, a0.length, ()) ⟨rfl, rfl, rfl, rfl, trivial⟩ rfl ⟨H, by omega⟩ ?_
  rintro F3 ⟨i2, k2, _u⟩ hF4 ⟨H, hik2⟩
  refine Cd.as (e' := [(0, Sl.v s_a0), (1, Sl.v s_a1), (12, .int .i64 (a0.length : Int)), (13, .int .i64 (i2 : Int))]) (L' := L) ⟨rfl, rfl, rfl, rfl, trivial⟩ rfl ?_
  rcases k2 with _ | k2
  · have hc2 : decide ((i2 : Int) < (a0.length : Int)) = false := decide_eq_false (by omega)
    replace H := rangeM_end H
    refine Cd.seq ?_
    refine Cd.region ?_
    refine Lst.run rfl rfl (by decide) (Ev.lss rfl rfl) ?_
    refine Lst.nil ?_
    refine At.then ?_
    refine Cd.seq ?_
    refine Cd.condF rfl hc2 ?_
    refine Cd.exit ?_
    refine At.then_exit ?_
    refine At.then_exit ?_
    refine At.in_exit ?_
    subst H
    replace H := HKl2
    refine At.then ?_
    refine Cd.seq ?_
    refine Cd.region ?_
    refine Lst.run rfl rfl (by decide) (Ev.assign rfl) ?_
    refine Lst.nil ?_
    refine At.then ?_
    obtain rfl := some_inj H
    refine Cd.ret ?_
    exact At.ret1 rfl (Res.tmp rfl) hF4 (List.Sublist.refl _) ⟨rfl, rfl⟩
  have hc2 : decide ((i2 : Int) < (a0.length : Int)) = true := decide_eq_true (by omega)
  obtain ⟨c2, H, hgo2, hbrk2, hret2⟩ := rangeM_go H
  unfold slices_Equal_api_Hand_api_Hand_B0 at H
  try dsimp only at H
  refine Cd.seq ?_
  refine Cd.region ?_
  refine Lst.run rfl rfl (by decide) (Ev.lss rfl rfl) ?_
  refine Lst.nil ?_
  refine At.then ?_
  refine Cd.seq ?_
  refine Cd.condT rfl hc2 ?_
  refine Cd.skip ?_
  refine At.then ?_
  refine Cd.seq ?_
  refine Cd.block ?_
  refine Cd.seq ?_
  refine Cd.region ?_
  refine Lst.run rfl rfl (by decide) (Ev.move rfl) ?_
  refine Lst.run rfl rfl (by decide) (Ev.assign rfl) ?_
  refine Lst.nil ?_
  refine At.then ?_
  refine Cd.seq ?_
  refine Cd.quiet (by kernel_rfl) (by kernel_rfl) ?_
  refine Qt.run rfl rfl (by decide) (Ev.move rfl) ?_
  refine Qt.run rfl rfl (by decide) (Ev.move rfl) ?_
  obtain ⟨x5, h6, H⟩ := bind_some H
  have g7 := lat_some h6
  refine Qt.run rfl rfl (by decide) (Ev.indexS (α := Hand) (xs := a0) rfl rfl Try.runUnderlying122 Try.sizeOf135 rfl (by decide) (hs_a0.mono hF4 hM) g7.1 g7.2.1) ?_
  refine Qt.run rfl rfl (by decide) (Ev.loadSA (α := Hand) rfl (hs_a0.mono hF4 hM) Try.isAgg135 Try.sizeOf135 (ch := enc x5) (Enc.len _) (by decide) ((Get.elemN (s := 3) (x := x5) rfl g7.2.2 (Get.here _)).off (by omega))) ?_
  refine Qt.run rfl rfl (by decide) (Ev.move rfl) ?_
  refine Qt.run rfl rfl (by decide) (Ev.move rfl) ?_
  obtain ⟨x8, h9, H⟩ := bind_some H
  have g10 := lat_some h9
  refine Qt.run rfl rfl (by decide) (Ev.indexS (α := Hand) (xs := a1) rfl rfl Try.runUnderlying122 Try.sizeOf135 rfl (by decide) (hs_a1.mono hF4 hM) g10.1 g10.2.1) ?_
  refine Qt.run rfl rfl (by decide) (Ev.loadSA (α := Hand) rfl (hs_a1.mono hF4 hM) Try.isAgg135 Try.sizeOf135 (ch := enc x8) (Enc.len _) (by decide) ((Get.elemN (s := 3) (x := x8) rfl g10.2.2 (Get.here _)).off (by omega))) ?_
  refine Qt.run rfl rfl (by decide) (Ev.neqA rfl rfl (by kernel_rfl) (eq135 _ _)) ?_
  refine Qt.done ?_
  refine At.then ?_
  rcases Bool.eq_false_or_eq_true (!(decide (x5 = x8))) with hb11 | hb11
  · replace H := ite_t hb11 H
    refine Cd.condT rfl hb11 ?_
    refine Cd.seq ?_
    refine Cd.as (e' := []) (L' := L) trivial rfl ?_
    refine Cd.region ?_
    refine Lst.run rfl rfl (by decide) (Ev.assign rfl) ?_
    refine Lst.nil ?_
    refine At.then ?_
    have H := hret2 _ (some_inj H).symm
    subst H
    replace H := HKl2
    obtain rfl := some_inj H
    refine Cd.ret ?_
    refine At.in_ret ?_
    refine At.then_ret ?_
    refine At.then_ret ?_
    refine At.in_ret ?_
    refine At.then_ret ?_
    exact At.ret1 rfl (Res.tmp rfl) hF4 (List.Sublist.refl _) ⟨rfl, rfl⟩
  replace H := ite_f hb11 H
  refine Cd.condF rfl hb11 ?_
  refine Cd.skip ?_
  refine At.in_normal ?_
  refine At.then ?_
  refine Cd.region ?_
  refine Lst.run rfl rfl (by decide) (Ev.incr (by omega) rfl rfl) ?_
  refine Lst.run rfl rfl (by decide) (Ev.move rfl) ?_
  refine Lst.nil ?_
  exact At.meet (i2 + 1, k2, ()) hF4 ⟨rfl, rfl, rfl, rfl, trivial⟩ rfl ⟨⟨hgo2 _ (some_inj H).symm, by omega⟩, Nat.lt_succ_self _⟩
set_option maxRecDepth 20000 in
theorem slices_Equal_api_Word_api_Word_sim {a0 : List Word} {a1 : List Word} {s_a0 : Sl} {s_a1 : Sl} {r : Bool} (H : slices_Equal_api_Word_api_Word a0 a1 = some r) (w0 : World) (F : Frz) (M L : List Item) (hM : M.Sublist L) (hs_a0 : Rd w0 F M s_a0 a0) (hs_a1 : Rd w0 F M s_a1 a1) : Ok Try.prog w0 161 [Sl.v s_a0, Sl.v s_a1] F (L) (Is (.bool r) (L)) := by
  unfold slices_Equal_api_Word_api_Word at H
  refine Ok.enter (m := 2) (n := 26) Try.func161 rfl rfl rfl (by decide) ?_
  refine Cd.env (e' := [(0, Sl.v s_a0), (1, Sl.v s_a1)]) rfl ?_
  refine Cd.seq ?_
  refine Cd.region ?_
  refine Lst.run rfl rfl (by decide) (Ev.assign rfl) ?_
  refine Lst.nil ?_
  refine At.then ?_
  refine Cd.seq ?_
  refine Cd.seq ?_
  refine Cd.region ?_
  refine Lst.run rfl rfl (by decide) (Ev.move rfl) ?_
  refine Lst.run rfl rfl (by decide) (Ev.lenS (α := Word) (xs := a0) (by decide) rfl rfl Try.runUnderlying112 (hs_a0.mono (FLe.refl _) hM)) ?_
  refine Lst.run rfl rfl (by decide) (Ev.move rfl) ?_
  refine Lst.run rfl rfl (by decide) (Ev.lenS (α := Word) (xs := a1) (by decide) rfl rfl Try.runUnderlying112 (hs_a1.mono (FLe.refl _) hM)) ?_
  refine Lst.run rfl rfl (by decide) (Ev.neq rfl rfl) ?_
  refine Lst.nil ?_
  refine At.then ?_
  rcases Bool.eq_false_or_eq_true ((a0.length : Int) != (a1.length : Int)) with hb1 | hb1
  · replace H := ite_t hb1 H
    refine Cd.condT rfl hb1 ?_
    refine Cd.seq ?_
    refine Cd.region ?_
    refine Lst.run rfl rfl (by decide) (Ev.assign rfl) ?_
    refine Lst.nil ?_
    refine At.then ?_
    obtain rfl := some_inj H
    refine Cd.ret ?_
    refine At.then_ret ?_
    exact At.ret1 rfl (Res.tmp rfl) (FLe.refl _) (List.Sublist.refl _) ⟨rfl, rfl⟩
  replace H := ite_f hb1 H
  refine Cd.condF rfl hb1 ?_
  refine Cd.skip ?_
  refine At.then ?_
  refine Cd.seq ?_
  refine Cd.seq ?_
  refine Cd.region ?_
  refine Lst.run rfl rfl (by decide) (Ev.move rfl) ?_
  refine Lst.run rfl rfl (by decide) (Ev.lenS (α := Word) (xs := a0) (by decide) rfl rfl Try.runUnderlying112 (hs_a0.mono (FLe.refl _) hM)) ?_
  refine Lst.run rfl rfl (by decide) (Ev.move rfl) ?_
  refine Lst.nil ?_
  refine At.then ?_
  refine Cd.block ?_
  refine Cd.bound (Rd.le (α := Word) (xs := a0) (by decide) (hs_a0.mono (FLe.refl _) hM)) (fun hN12 => ?_)
  obtain ⟨ol2, H, HKl2⟩ := andThen_some H
  refine Cd.loop (σ := Nat × Nat × Unit) (fun (i2, k2, _u) => [(0, Sl.v s_a0), (1, Sl.v s_a1), (12, .int .i64 (a0.length : Int)), (13, .int .i64 (i2 : Int))]) (fun (i2, k2, _u) => L) (fun _ => (fun (i2, k2, _u) => rangeM (slices_Equal_api_Word_api_Word_B0 a0 a1) k2 i2 () = some ol2 ∧ i2 + k2 = a0.length)) (fun (i2, k2, _u) => k2) (0, a0.length, ()) ⟨rfl, rfl, rfl, rfl, trivial⟩ rfl ⟨H, by omega⟩ ?_
  rintro F3 ⟨i2, k2, _u⟩ hF4 ⟨H, hik2⟩
  refine Cd.as (e' := [(0, Sl.v s_a0), (1, Sl.v s_a1), (12, .int .i64 (a0.length : Int)), (13, .int .i64 (i2 : Int))]) (L' := L) ⟨rfl, rfl, rfl, rfl, trivial⟩ rfl ?_
  rcases k2 with _ | k2
  · have hc2 : decide ((i2 : Int) < (a0.length : Int)) = false := decide_eq_false (by omega)
    replace H := rangeM_end H
    refine Cd.seq ?_
    refine Cd.region ?_
    refine Lst.run rfl rfl (by decide) (Ev.lss rfl rfl) ?_
    refine Lst.nil ?_
    refine At.then ?_
    refine Cd.seq ?_
    refine Cd.condF rfl hc2 ?_
    refine Cd.exit ?_
    refine At.then_exit ?_
    refine At.then_exit ?_
    refine At.in_exit ?_
    subst H
    replace H := HKl2
    refine At.then ?_
    refine Cd.seq ?_
    refine Cd.region ?_
    refine Lst.run rfl rfl (by decide) (Ev.assign rfl) ?_
    refine Lst.nil ?_
    refine At.then ?_
    obtain rfl := some_inj H
    refine Cd.ret ?_
    exact At.ret1 rfl (Res.tmp rfl) hF4 (List.Sublist.refl _) ⟨rfl, rfl⟩
  have hc2 : decide ((i2 : Int) < (a0.length : Int)) = true := decide_eq_true (by omega)
  obtain ⟨c2, H, hgo2, hbrk2, hret2⟩ := rangeM_go H
  unfold slices_Equal_api_Word_api_Word_B0 at H
  try dsimp only at H
  refine Cd.seq ?_
  refine Cd.region ?_
  refine Lst.run rfl rfl (by decide) (Ev.lss rfl rfl) ?_
  refine Lst.nil ?_
  refine At.then ?_
  refine Cd.seq ?_
  refine Cd.condT rfl hc2 ?_
  refine Cd.skip ?_
  refine At.then ?_
  refine Cd.seq ?_
  refine Cd.block ?_
  refine Cd.seq ?_
  refine Cd.region ?_
  refine Lst.run rfl rfl (by decide) (Ev.move rfl) ?_
  refine Lst.run rfl rfl (by decide) (Ev.assign rfl) ?_
  refine Lst.nil ?_
  refine At.then ?_
  refine Cd.seq ?_
  refine Cd.quiet (by kernel_rfl) (by kernel_rfl) ?_
  refine Qt.run rfl rfl (by decide) (Ev.move rfl) ?_
  refine Qt.run rfl rfl (by decide) (Ev.move rfl) ?_
  obtain ⟨x5, h6, H⟩ := bind_some H
  have g7 := lat_some h6
  refine Qt.run rfl rfl (by decide) (Ev.indexS (α := Word) (xs := a0) rfl rfl Try.runUnderlying112 Try.sizeOf209 rfl (by decide) (hs_a0.mono hF4 hM) g7.1 g7.2.1) ?_
  refine Qt.run rfl rfl (by decide) (Ev.loadSA (α := Word) rfl (hs_a0.mono hF4 hM) Try.isAgg209 Try.sizeOf209 (ch := enc x5) (Enc.len _) (by decide) ((Get.elemN (s := 3) (x := x5) rfl g7.2.2 (Get.here _)).off (by omega))) ?_
  refine Qt.run rfl rfl (by decide) (Ev.move rfl) ?_
  refine Qt.run rfl rfl (by decide) (Ev.move rfl) ?_
  obtain ⟨x8, h9, H⟩ := bind_some H
  have g10 := lat_some h9
  refine Qt.run rfl rfl (by decide) (Ev.indexS (α := Word) (xs := a1) rfl rfl Try.runUnderlying112 Try.sizeOf209 rfl (by decide) (hs_a1.mono hF4 hM) g10.1 g10.2.1) ?_
  refine Qt.run rfl rfl (by decide) (Ev.loadSA (α := Word) rfl (hs_a1.mono hF4 hM) Try.isAgg209 Try.sizeOf209 (ch := enc x8) (Enc.len _) (by decide) ((Get.elemN (s := 3) (x := x8) rfl g10.2.2 (Get.here _)).off (by omega))) ?_
  refine Qt.run rfl rfl (by decide) (Ev.neqA rfl rfl (by kernel_rfl) (eq209 _ _)) ?_
  refine Qt.done ?_
  refine At.then ?_
  rcases Bool.eq_false_or_eq_true (!(decide (x5 = x8))) with hb11 | hb11
  · replace H := ite_t hb11 H
    refine Cd.condT rfl hb11 ?_
    refine Cd.seq ?_
    refine Cd.as (e' := []) (L' := L) trivial rfl ?_
    refine Cd.region ?_
    refine Lst.run rfl rfl (by decide) (Ev.assign rfl) ?_
    refine Lst.nil ?_
    refine At.then ?_
    have H := hret2 _ (some_inj H).symm
    subst H
    replace H := HKl2
    obtain rfl := some_inj H
    refine Cd.ret ?_
    refine At.in_ret ?_
    refine At.then_ret ?_
    refine At.then_ret ?_
    refine At.in_ret ?_
    refine At.then_ret ?_
    exact At.ret1 rfl (Res.tmp rfl) hF4 (List.Sublist.refl _) ⟨rfl, rfl⟩
  replace H := ite_f hb11 H
  refine Cd.condF rfl hb11 ?_
  refine Cd.skip ?_
  refine At.in_normal ?_
  refine At.then ?_
  refine Cd.region ?_
  refine Lst.run rfl rfl (by decide) (Ev.incr (by omega) rfl rfl) ?_
  refine Lst.run rfl rfl (by decide) (Ev.move rfl) ?_
  refine Lst.nil ?_
  exact At.meet (i2 + 1, k2, ()) hF4 ⟨rfl, rfl, rfl, rfl, trivial⟩ rfl ⟨⟨hgo2 _ (some_inj H).symm, by omega⟩, Nat.lt_succ_self _⟩
set_option maxRecDepth 20000 in
theorem partref_SameOver_sim {a0 : Over} {a1 : Over} {s_a0_0 : Sl} {s_a0_1 : Sl} {s_a1_0 : Sl} {s_a1_1 : Sl} {r : Bool} (H : partref_SameOver a0 a1 = some r) (w0 : World) (F : Frz) (M L : List Item) (hM : M.Sublist L) (hs_a0_0 : Rd w0 F M s_a0_0 a0.Hands) (hs_a0_1 : Rd w0 F M s_a0_1 a0.Way) (hs_a1_0 : Rd w0 F M s_a1_0 a1.Hands) (hs_a1_1 : Rd w0 F M s_a1_1 a1.Way) : Ok Try.prog w0 79 [.agg (enc (OverR.mk a0 s_a0_0 s_a0_1)).toArray, .agg (enc (OverR.mk a1 s_a1_0 s_a1_1)).toArray] F (L) (Is (.bool r) (L)) := by
  unfold partref_SameOver at H
  refine Ok.enter (m := 2) (n := 17) Try.func79 rfl rfl rfl (by decide) ?_
  refine Cd.env (e' := [(0, .agg (enc (OverR.mk a0 s_a0_0 s_a0_1)).toArray), (1, .agg (enc (OverR.mk a1 s_a1_0 s_a1_1)).toArray)]) rfl ?_
  refine Cd.seq ?_
  refine Cd.region ?_
  refine Lst.box rfl rfl (by decide) rfl (cs := enc (OverR.mk a0 s_a0_0 s_a0_1)) rfl (fun b1 => ?_)
  refine Lst.box rfl rfl (by decide) rfl (cs := enc (OverR.mk a1 s_a1_0 s_a1_1)) rfl (fun b3 => ?_)
  refine Lst.run rfl rfl (by decide) (Ev.assign rfl) ?_
  refine Lst.nil ?_
  refine At.then ?_
  refine Cd.seq ?_
  refine Cd.region ?_
  refine Lst.run rfl rfl (by decide) (Ev.fieldAddr (off' := 0) rfl Try.runUnderlying124 rfl Try.sizeOf122 rfl rfl) ?_
  refine Lst.run rfl rfl (by decide) (Ev.load (i := 1) rfl rfl Try.isAgg122 (v := Sl.v s_a0_0) ((OverR.get_Hands (Get.here _)).off (by rfl))) ?_
  refine Lst.run rfl rfl (by decide) (Ev.fieldAddr (off' := 0) rfl Try.runUnderlying124 rfl Try.sizeOf122 rfl rfl) ?_
  refine Lst.run rfl rfl (by decide) (Ev.load (i := 0) rfl rfl Try.isAgg122 (v := Sl.v s_a1_0) ((OverR.get_Hands (Get.here _)).off (by rfl))) ?_
  obtain ⟨r5, h6, H⟩ := bind_some H
  refine Lst.call1 rfl rfl (by decide) (vs := [Sl.v s_a0_0, Sl.v s_a1_0]) ⟨rfl, rfl, trivial⟩ Try.call168 (slices_Equal_api_Hand_api_Hand_sim h6 w0 _ M _ (List.Sublist.cons _ (List.Sublist.cons _ hM)) (hs_a0_0.mono (FLe.refl _) (List.Sublist.refl _)) (hs_a1_0.mono (FLe.refl _) (List.Sublist.refl _))) ?_
  refine Lst.run rfl rfl (by decide) (Ev.move rfl) ?_
  obtain ⟨o9, H, HKo9⟩ := bind_some H
  refine Lst.join (σ := Bool) 6 (fun y10 => [(16, .bool y10)]) (fun y10 => (.blk b3 (enc (OverR.mk a1 s_a1_0 s_a1_1)) 124) :: (.blk b1 (enc (OverR.mk a0 s_a0_0 s_a0_1)) 124) :: L) (fun _ y10 => y10 = o9) ?_ ?_
  · rcases (Bool.eq_false_or_eq_true r5).symm with hb11 | hb11
    · replace H := ite_f hb11 H
      refine Lst.skip rfl rfl rfl hb11 rfl (by decide) ?_
      refine Lst.skip rfl rfl rfl hb11 rfl (by decide) ?_
      refine Lst.skip rfl rfl rfl hb11 rfl (by decide) ?_
      refine Lst.skip rfl rfl rfl hb11 rfl (by decide) ?_
      refine Lst.skip rfl rfl rfl hb11 rfl (by decide) ?_
      refine Lst.run rfl rfl (by decide) (Ev.pickF rfl hb11 rfl) ?_
      refine Lst.nil ?_
      exact At.meet false (FLe.refl _) ⟨rfl, trivial⟩ rfl (some_inj H)
    replace H := ite_t hb11 H
    refine Lst.runG rfl rfl rfl hb11 rfl (by decide) (Ev.fieldAddr (off' := 1) rfl Try.runUnderlying124 rfl Try.sizeOf112 rfl rfl) ?_
    refine Lst.runG rfl rfl rfl hb11 rfl (by decide) (Ev.load (i := 1) rfl rfl Try.isAgg112 (v := Sl.v s_a0_1) ((OverR.get_Way (Get.here _)).off (by rfl))) ?_
    refine Lst.runG rfl rfl rfl hb11 rfl (by decide) (Ev.fieldAddr (off' := 1) rfl Try.runUnderlying124 rfl Try.sizeOf112 rfl rfl) ?_
    refine Lst.runG rfl rfl rfl hb11 rfl (by decide) (Ev.load (i := 0) rfl rfl Try.isAgg112 (v := Sl.v s_a1_1) ((OverR.get_Way (Get.here _)).off (by rfl))) ?_
    obtain ⟨r12, h13, H⟩ := bind_some H
    refine Lst.call1G rfl rfl rfl hb11 rfl (by decide) (vs := [Sl.v s_a0_1, Sl.v s_a1_1]) ⟨rfl, rfl, trivial⟩ Try.call161 (slices_Equal_api_Word_api_Word_sim h13 w0 _ M _ (List.Sublist.cons _ (List.Sublist.cons _ hM)) (hs_a0_1.mono (FLe.refl _) (List.Sublist.refl _)) (hs_a1_1.mono (FLe.refl _) (List.Sublist.refl _))) ?_
    refine Lst.run rfl rfl (by decide) (Ev.pickT rfl hb11 rfl) ?_
    refine Lst.nil ?_
    exact At.meet r12 (FLe.refl _) ⟨rfl, trivial⟩ rfl (some_inj H)
  rintro F16 y10 hF17 hy
  subst hy
  refine Lst.as (e' := [(16, .bool y10)]) (L' := (.blk b3 (enc (OverR.mk a1 s_a1_0 s_a1_1)) 124) :: (.blk b1 (enc (OverR.mk a0 s_a0_0 s_a0_1)) 124) :: L) ⟨rfl, trivial⟩ rfl ?_
  replace H := HKo9
  refine Lst.run rfl rfl (by decide) (Ev.assign rfl) ?_
  refine Lst.nil ?_
  refine At.then ?_
  obtain rfl := some_inj H
  refine Cd.ret ?_
  exact At.ret1 rfl (Res.tmp rfl) hF17 (List.Sublist.cons _ (List.Sublist.cons _ (List.Sublist.refl _))) ⟨rfl, rfl⟩
set_option maxRecDepth 20000 in
theorem slices_Grow_api_Word_api_Word_sim {a1 : Int} {r : (List Word)} (H : slices_Grow_api_Word_api_Word a1 = some r) (w0 : World) (F : Frz) (M L : List Item) (hM : M.Sublist L) : Ok Try.prog w0 186 [Sl.v Sl.nil, .int .i64 a1] F (L) (fun _ L' v => ∃ (s21 : Sl), v = Sl.v s21 ∧ L' = (.own s21 209 3 (encs r)) :: L) := by
  unfold slices_Grow_api_Word_api_Word at H
  refine Ok.enter (m := 2) (n := 27) Try.func186 rfl rfl rfl (by decide) ?_
  refine Cd.env (e' := [(0, Sl.v Sl.nil), (1, .int .i64 a1)]) rfl ?_
  refine Cd.seq ?_
  refine Cd.region ?_
  refine Lst.addNil 209 3 ?_
  refine Lst.run rfl rfl (by decide) (Ev.assign rfl) ?_
  refine Lst.nil ?_
  refine At.then ?_
  refine Cd.seq ?_
  refine Cd.seq ?_
  refine Cd.region ?_
  refine Lst.run rfl rfl (by decide) (Ev.move rfl) ?_
  refine Lst.run rfl rfl (by decide) (Ev.lss rfl rfl) ?_
  refine Lst.nil ?_
  refine At.then ?_
  rcases Bool.eq_false_or_eq_true (decide (a1 < (0 : Int))) with hb2 | hb2
  · replace H := ite_t hb2 H
    cases H
  replace H := ite_f hb2 H
  refine Cd.condF rfl hb2 ?_
  refine Cd.skip ?_
  refine At.then ?_
  obtain ⟨o6, H, HKo6⟩ := bind_some H
  refine Cd.join (σ := Sl × (List Word)) (fun (s3, l4) => [(0, Sl.v s3)]) (fun (s3, l4) => (.own s3 209 3 (encs l4)) :: (.own Sl.nil 209 3 (encs ([] : List Word))) :: L) (fun _ (s3, l4) => l4 = o6) ?_ ?_
  · refine Cd.seq ?_
    refine Cd.region ?_
    refine Lst.run rfl rfl (by decide) (Ev.move rfl) ?_
    refine Lst.run rfl rfl (by decide) (Ev.move rfl) ?_
    refine Lst.run rfl rfl (by decide) (Ev.capNil rfl rfl Try.runUnderlying112) ?_
    refine Lst.run rfl rfl (by decide) (Ev.move rfl) ?_
    refine Lst.run rfl rfl (by decide) (Ev.lenNil rfl rfl Try.runUnderlying112) ?_
    refine Lst.run rfl rfl (by decide) (Ev.sub rfl rfl) ?_
    refine Lst.run rfl rfl (by decide) (Ev.sub rfl rfl) ?_
    refine Lst.run rfl rfl (by decide) (Ev.assign rfl) ?_
    refine Lst.nil ?_
    refine At.then ?_
    refine Cd.seq ?_
    refine Cd.region ?_
    refine Lst.run rfl rfl (by decide) (Ev.move rfl) ?_
    refine Lst.run rfl rfl (by decide) (Ev.gtr rfl rfl) ?_
    refine Lst.nil ?_
    refine At.then ?_
    rcases (Bool.eq_false_or_eq_true (decide ((w64 (a1 - (w64 ((0 : Int) - (0 : Int))))) > (0 : Int)))).symm with hb7 | hb7
    · replace H := ite_f hb7 H
      refine Cd.condF rfl hb7 ?_
      refine Cd.skip ?_
      refine At.addNil 209 3 ?_
      exact At.meet (Sl.nil, ([] : List Word)) (FLe.refl _) ⟨rfl, trivial⟩ rfl (some_inj H)
    replace H := ite_t hb7 H
    refine Cd.condT rfl hb7 ?_
    refine Cd.region ?_
    refine Lst.run rfl rfl (by decide) (Ev.move rfl) ?_
    refine Lst.run rfl rfl (by decide) (Ev.move rfl) ?_
    refine Lst.run rfl rfl (by decide) (Ev.capNil rfl rfl Try.runUnderlying112) ?_
    refine Lst.run rfl rfl (by decide) (Ev.cutNil rfl rfl Try.runUnderlying112 Try.sizeOf209) ?_
    refine Lst.run rfl rfl (by decide) (Ev.move rfl) ?_
    obtain ⟨n10, h11, H⟩ := bind_some H
    have g12 := mkLen_some h11
    refine Lst.addNil 209 3 ?_
    refine Lst.appendZeros (α := Word) (i := 0) (k := n10) Word.zero rfl rfl (by decide) rfl (congrArg some (congrArg (Value.int .i64) g12.1)) Try.runUnderlying112 Try.runUnderlying3 Try.typeInfo209 rfl rfl rfl rfl rfl g12.2 rfl rfl (fun s13 => ?_)
    refine Lst.its (L' := (.own s13 209 3 (encs (List.replicate n10 Word.zero))) :: (.own Sl.nil 209 3 (encs ([] : List Word))) :: L) rfl ?_
    refine Lst.run rfl rfl (by decide) (Ev.move rfl) ?_
    refine Lst.run rfl rfl (by decide) (Ev.lenNil rfl rfl Try.runUnderlying112) ?_
    obtain ⟨m14, h15, H⟩ := bind_some H
    obtain ⟨g16, gl17⟩ := cutL_some h15
    refine Lst.run rfl rfl (by decide) (Ev.cut (α := Word) (xs := (List.replicate n10 Word.zero)) (i := 0) (j := (0 : Int)) rfl rfl rfl Try.runUnderlying112 Try.sizeOf209 rfl (by decide) (Rd.own (i := 0) rfl rfl rfl) g16.1 g16.2.1 g16.2.2) ?_
    refine Lst.cutOwn (i := 0) (α := Word) (lo := (0 : Int).toNat) (hi := ((0 : Int) : Int).toNat) rfl rfl rfl (by decide) (by omega) (by omega) (L' := (.own (s13.cut (0 : Int).toNat ((0 : Int) : Int).toNat 3) 209 3 (encs m14)) :: (.own Sl.nil 209 3 (encs ([] : List Word))) :: L) (by subst gl17; rfl) ?_
    refine Lst.run rfl rfl (by decide) (Ev.assign rfl) ?_
    refine Lst.nil ?_
    exact At.meet ((s13.cut (0 : Int).toNat ((0 : Int) : Int).toNat 3), m14) (FLe.refl _) ⟨rfl, trivial⟩ rfl (some_inj H)
  rintro F19 ⟨s3, l4⟩ hF20 hy
  subst hy
  refine Cd.as (e' := [(0, Sl.v s3)]) (L' := (.own s3 209 3 (encs l4)) :: (.own Sl.nil 209 3 (encs ([] : List Word))) :: L) ⟨rfl, trivial⟩ rfl ?_
  replace H := HKo6
  refine Cd.seq ?_
  refine Cd.region ?_
  refine Lst.run rfl rfl (by decide) (Ev.move rfl) ?_
  refine Lst.run rfl rfl (by decide) (Ev.assign rfl) ?_
  refine Lst.nil ?_
  refine At.then ?_
  obtain rfl := some_inj H
  refine Cd.ret ?_
  exact At.ret1 rfl (Res.tmp rfl) hF20 (List.Sublist.cons_cons _ (List.Sublist.cons _ (List.Sublist.refl _))) ⟨s3, rfl, rfl⟩
set_option maxRecDepth 20000 in
theorem slices_Concat_api_Word_api_Word_sim {a0 : List (List Word)} {s_a0 : Sl} {rs_a0 : List (LR Word)} {r : (List Word)} (H : slices_Concat_api_Word_api_Word a0 = some r) (w0 : World) (F : Frz) (M L : List Item) (hM : M.Sublist L) (hm_a0 : rs_a0.map LR.v = a0) (hs_a0 : Rd w0 F M s_a0 rs_a0) (ha_a0 : All LR.rel w0 F M rs_a0) : Ok Try.prog w0 164 [Sl.v s_a0] F (L) (fun _ L' v => ∃ (s33 : Sl), v = Sl.v s33 ∧ L' = (.own s33 209 3 (encs r)) :: L) := by
  unfold slices_Concat_api_Word_api_Word at H
  refine Ok.enter (m := 1) (n := 36) Try.func164 rfl rfl rfl (by decide) ?_
  refine Cd.env (e' := [(0, Sl.v s_a0)]) rfl ?_
  refine Cd.seq ?_
  refine Cd.region ?_
  refine Lst.addNil 209 3 ?_
  refine Lst.run rfl rfl (by decide) (Ev.assign rfl) ?_
  refine Lst.nil ?_
  refine At.then ?_
  refine Cd.seq ?_
  refine Cd.region ?_
  refine Lst.run rfl rfl (by decide) (Ev.assign rfl) ?_
  refine Lst.nil ?_
  refine At.then ?_
  refine Cd.seq ?_
  refine Cd.seq ?_
  refine Cd.region ?_
  refine Lst.run rfl rfl (by decide) (Ev.move rfl) ?_
  refine Lst.run rfl rfl (by decide) (Ev.lenM (map_len hm_a0) (Ev.lenS (α := LR Word) (xs := rs_a0) (by decide) rfl rfl Try.runUnderlying237 (hs_a0.mono (FLe.refl _) (List.Sublist.cons _ hM)))) ?_
  refine Lst.run rfl rfl (by decide) (Ev.move rfl) ?_
  refine Lst.nil ?_
  refine At.then ?_
  refine Cd.block ?_
  refine Cd.bound (Rd.le (α := LR Word) (xs := rs_a0) (by decide) (hs_a0.mono (FLe.refl _) (List.Sublist.cons _ hM))) (fun hN32 => ?_)
  rw [map_len hm_a0] at hN32
  obtain ⟨ol3, H, HKl3⟩ := bind_some H
  refine Cd.loop (σ := Nat × Nat × Int) (fun (i3, k3, y4) => [(0, Sl.v s_a0), (3, .int .i64 y4), (9, Sl.v s_a0), (10, .int .i64 (a0.length : Int)), (11, .int .i64 (i3 : Int))]) (fun (i3, k3, y4) => (.own Sl.nil 209 3 (encs ([] : List Word))) :: L) (fun _ => (fun (i3, k3, y4) => rangeF (slices_Concat_api_Word_api_Word_B0 a0) k3 i3 y4 = some ol3 ∧ i3 + k3 = a0.length)) (fun (i3, k3, y4) => k3) (0, a0.length, (0 : Int)) ⟨rfl, rfl, rfl, rfl, rfl, trivial⟩ rfl ⟨H, by omega⟩ ?_
  rintro F5 ⟨i3, k3, y4⟩ hF6 ⟨H, hik3⟩
  refine Cd.as (e' := [(0, Sl.v s_a0), (3, .int .i64 y4), (9, Sl.v s_a0), (10, .int .i64 (a0.length : Int)), (11, .int .i64 (i3 : Int))]) (L' := (.own Sl.nil 209 3 (encs ([] : List Word))) :: L) ⟨rfl, rfl, rfl, rfl, rfl, trivial⟩ rfl ?_
  rcases k3 with _ | k3
  · have hc3 : decide ((i3 : Int) < (a0.length : Int)) = false := decide_eq_false (by omega)
    replace H := rangeF_end H
    refine Cd.seq ?_
    refine Cd.region ?_
    refine Lst.run rfl rfl (by decide) (Ev.lss rfl rfl) ?_
    refine Lst.nil ?_
    refine At.then ?_
    refine Cd.seq ?_
    refine Cd.condF rfl hc3 ?_
    refine Cd.exit ?_
    refine At.then_exit ?_
    refine At.then_exit ?_
    refine At.in_exit ?_
    subst H
    replace H := HKl3
    refine At.then ?_
    refine Cd.seq ?_
    refine Cd.region ?_
    refine Lst.run rfl rfl (by decide) (Ev.move rfl) ?_
    obtain ⟨r12, h13, H⟩ := bind_some H
    refine Lst.call rfl rfl (by decide) (vs := [Sl.v Sl.nil, .int .i64 y4]) ⟨rfl, rfl, trivial⟩ Try.call186 (slices_Grow_api_Word_api_Word_sim h13 w0 _ M _ (List.Sublist.cons _ hM)) (fun F16 L' v hF17 hv => ?_)
    obtain ⟨s14, rfl, rfl⟩ := hv
    refine Lst.run rfl rfl (by decide) (Ev.assign rfl) ?_
    refine Lst.nil ?_
    refine At.then ?_
    refine Cd.seq ?_
    refine Cd.seq ?_
    refine Cd.region ?_
    refine Lst.run rfl rfl (by decide) (Ev.move rfl) ?_
    refine Lst.run rfl rfl (by decide) (Ev.lenM (map_len hm_a0) (Ev.lenS (α := LR Word) (xs := rs_a0) (by decide) rfl rfl Try.runUnderlying237 (hs_a0.mono (FLe.trans hF6 hF17) (List.Sublist.cons _ (List.Sublist.cons _ hM))))) ?_
    refine Lst.run rfl rfl (by decide) (Ev.move rfl) ?_
    refine Lst.nil ?_
    refine At.then ?_
    refine Cd.block ?_
    refine Cd.bound (Rd.le (α := LR Word) (xs := rs_a0) (by decide) (hs_a0.mono (FLe.trans hF6 hF17) (List.Sublist.cons _ (List.Sublist.cons _ hM)))) (fun hN31 => ?_)
    rw [map_len hm_a0] at hN31
    obtain ⟨ol19, H, HKl19⟩ := bind_some H
    refine Cd.loop (σ := Nat × Nat × Sl × (List Word)) (fun (i19, k19, s20, l21) => [(6, Sl.v s20), (25, Sl.v s_a0), (26, .int .i64 (a0.length : Int)), (27, .int .i64 (i19 : Int))]) (fun (i19, k19, s20, l21) => (.own s20 209 3 (encs l21)) :: (.own Sl.nil 209 3 (encs ([] : List Word))) :: L) (fun _ => (fun (i19, k19, s20, l21) => rangeF (slices_Concat_api_Word_api_Word_B2 a0) k19 i19 l21 = some ol19 ∧ i19 + k19 = a0.length)) (fun (i19, k19, s20, l21) => k19) (0, a0.length, s14, r12) ⟨rfl, rfl, rfl, rfl, trivial⟩ rfl ⟨H, by omega⟩ ?_
    rintro F22 ⟨i19, k19, s20, l21⟩ hF23 ⟨H, hik19⟩
    refine Cd.as (e' := [(6, Sl.v s20), (25, Sl.v s_a0), (26, .int .i64 (a0.length : Int)), (27, .int .i64 (i19 : Int))]) (L' := (.own s20 209 3 (encs l21)) :: (.own Sl.nil 209 3 (encs ([] : List Word))) :: L) ⟨rfl, rfl, rfl, rfl, trivial⟩ rfl ?_
    rcases k19 with _ | k19
    · have hc19 : decide ((i19 : Int) < (a0.length : Int)) = false := decide_eq_false (by omega)
      replace H := rangeF_end H
      refine Cd.seq ?_
      refine Cd.region ?_
      refine Lst.run rfl rfl (by decide) (Ev.lss rfl rfl) ?_
      refine Lst.nil ?_
      refine At.then ?_
      refine Cd.seq ?_
      refine Cd.condF rfl hc19 ?_
      refine Cd.exit ?_
      refine At.then_exit ?_
      refine At.then_exit ?_
      refine At.in_exit ?_
      subst H
      replace H := HKl19
      refine At.then ?_
      refine Cd.seq ?_
      refine Cd.region ?_
      refine Lst.run rfl rfl (by decide) (Ev.move rfl) ?_
      refine Lst.run rfl rfl (by decide) (Ev.assign rfl) ?_
      refine Lst.nil ?_
      refine At.then ?_
      obtain rfl := some_inj H
      refine Cd.ret ?_
      exact At.ret1 rfl (Res.tmp rfl) (FLe.trans (FLe.trans hF6 hF17) hF23) (List.Sublist.cons_cons _ (List.Sublist.cons _ (List.Sublist.refl _))) ⟨s20, rfl, rfl⟩
    have hc19 : decide ((i19 : Int) < (a0.length : Int)) = true := decide_eq_true (by omega)
    obtain ⟨c19, H, hgo19⟩ := rangeF_go H
    unfold slices_Concat_api_Word_api_Word_B2 at H
    try dsimp only at H
    refine Cd.seq ?_
    refine Cd.region ?_
    refine Lst.run rfl rfl (by decide) (Ev.lss rfl rfl) ?_
    refine Lst.nil ?_
    refine At.then ?_
    refine Cd.seq ?_
    refine Cd.condT rfl hc19 ?_
    refine Cd.skip ?_
    refine At.then ?_
    refine Cd.seq ?_
    refine Cd.block ?_
    refine Cd.seq ?_
    refine Cd.region ?_
    obtain ⟨x24, h25, H⟩ := bind_some H
    have g26 := lat_some h25
    obtain ⟨⟨r27v, r27h⟩, r27g, r27e, r27m⟩ := map_get hm_a0 g26.2.2
    obtain rfl : x24 = r27v := r27e.symm
    have r27q : Rd w0 _ _ r27h x24 := ha_a0 _ r27m
    refine Lst.run rfl rfl (by decide) (Ev.indexS (α := LR Word) (xs := rs_a0) rfl rfl Try.runUnderlying237 Try.sizeOf112 rfl (by decide) (hs_a0.mono (FLe.trans (FLe.trans hF6 hF17) hF23) (List.Sublist.cons _ (List.Sublist.cons _ hM))) g26.1 (by have := map_len hm_a0; omega)) ?_
    refine Lst.run rfl rfl (by decide) (Ev.loadS (α := LR Word) rfl (hs_a0.mono (FLe.trans (FLe.trans hF6 hF17) hF23) (List.Sublist.cons _ (List.Sublist.cons _ hM))) Try.isAgg112 (v := Sl.v r27h) ((Get.elemN (s := 1) rfl r27g (Get.here _)).off (by omega))) ?_
    refine Lst.run rfl rfl (by decide) (Ev.assign rfl) ?_
    refine Lst.nil ?_
    refine At.then ?_
    refine Cd.region ?_
    refine Lst.run rfl rfl (by decide) (Ev.move rfl) ?_
    refine Lst.run rfl rfl (by decide) (Ev.move rfl) ?_
    obtain ⟨u28, h29, H⟩ := bind_some H
    refine Lst.append (i := 0) (α := Word) (xs := l21) (ys := x24) rfl rfl (by decide) rfl rfl Try.runUnderlying112 Try.typeInfo209 rfl rfl rfl rfl rfl rfl (r27q.mono (FLe.trans (FLe.trans hF6 hF17) hF23) (List.Sublist.cons _ (List.Sublist.cons _ hM))) rfl (room_some h29) rfl (fun s30 => ?_)
    refine Lst.its (L' := (.own s30 209 3 (encs (l21 ++ x24))) :: (.own Sl.nil 209 3 (encs ([] : List Word))) :: L) rfl ?_
    refine Lst.run rfl rfl (by decide) (Ev.assign rfl) ?_
    refine Lst.nil ?_
    refine At.in_normal ?_
    refine At.then ?_
    refine Cd.region ?_
    refine Lst.run rfl rfl (by decide) (Ev.incr (by omega) rfl rfl) ?_
    refine Lst.run rfl rfl (by decide) (Ev.move rfl) ?_
    refine Lst.nil ?_
    exact At.meet (i19 + 1, k19, s30, l21 ++ x24) hF23 ⟨rfl, rfl, rfl, rfl, trivial⟩ rfl ⟨⟨hgo19 _ (some_inj H).symm, by omega⟩, Nat.lt_succ_self _⟩
  have hc3 : decide ((i3 : Int) < (a0.length : Int)) = true := decide_eq_true (by omega)
  obtain ⟨c3, H, hgo3⟩ := rangeF_go H
  unfold slices_Concat_api_Word_api_Word_B0 at H
  try dsimp only at H
  refine Cd.seq ?_
  refine Cd.region ?_
  refine Lst.run rfl rfl (by decide) (Ev.lss rfl rfl) ?_
  refine Lst.nil ?_
  refine At.then ?_
  refine Cd.seq ?_
  refine Cd.condT rfl hc3 ?_
  refine Cd.skip ?_
  refine At.then ?_
  refine Cd.seq ?_
  refine Cd.block ?_
  refine Cd.seq ?_
  refine Cd.region ?_
  obtain ⟨x7, h8, H⟩ := bind_some H
  have g9 := lat_some h8
  obtain ⟨⟨r10v, r10h⟩, r10g, r10e, r10m⟩ := map_get hm_a0 g9.2.2
  obtain rfl : x7 = r10v := r10e.symm
  have r10q : Rd w0 _ _ r10h x7 := ha_a0 _ r10m
  refine Lst.run rfl rfl (by decide) (Ev.indexS (α := LR Word) (xs := rs_a0) rfl rfl Try.runUnderlying237 Try.sizeOf112 rfl (by decide) (hs_a0.mono hF6 (List.Sublist.cons _ hM)) g9.1 (by have := map_len hm_a0; omega)) ?_
  refine Lst.run rfl rfl (by decide) (Ev.loadS (α := LR Word) rfl (hs_a0.mono hF6 (List.Sublist.cons _ hM)) Try.isAgg112 (v := Sl.v r10h) ((Get.elemN (s := 1) rfl r10g (Get.here _)).off (by omega))) ?_
  refine Lst.run rfl rfl (by decide) (Ev.assign rfl) ?_
  refine Lst.nil ?_
  refine At.then ?_
  refine Cd.seq ?_
  refine Cd.region ?_
  refine Lst.run rfl rfl (by decide) (Ev.move rfl) ?_
  refine Lst.run rfl rfl (by decide) (Ev.move rfl) ?_
  refine Lst.run rfl rfl (by decide) (Ev.lenS (α := Word) (xs := x7) (by decide) rfl rfl Try.runUnderlying112 (r10q.mono hF6 (List.Sublist.cons _ hM))) ?_
  refine Lst.run rfl rfl (by decide) (Ev.add rfl rfl) ?_
  refine Lst.run rfl rfl (by decide) (Ev.assign rfl) ?_
  refine Lst.nil ?_
  refine At.then ?_
  refine Cd.seq ?_
  refine Cd.region ?_
  refine Lst.run rfl rfl (by decide) (Ev.move rfl) ?_
  refine Lst.run rfl rfl (by decide) (Ev.lss rfl rfl) ?_
  refine Lst.nil ?_
  refine At.then ?_
  rcases Bool.eq_false_or_eq_true (decide ((w64 (y4 + (x7.length : Int))) < (0 : Int))) with hb11 | hb11
  · replace H := ite_t hb11 H
    cases H
  replace H := ite_f hb11 H
  refine Cd.condF rfl hb11 ?_
  refine Cd.skip ?_
  refine At.in_normal ?_
  refine At.then ?_
  refine Cd.region ?_
  refine Lst.run rfl rfl (by decide) (Ev.incr (by omega) rfl rfl) ?_
  refine Lst.run rfl rfl (by decide) (Ev.move rfl) ?_
  refine Lst.nil ?_
  exact At.meet (i3 + 1, k3, w64 (y4 + (x7.length : Int))) hF6 ⟨rfl, rfl, rfl, rfl, rfl, trivial⟩ rfl ⟨⟨hgo3 _ (some_inj H).symm, by omega⟩, Nat.lt_succ_self _⟩
set_option maxRecDepth 20000 in
theorem partref_overThanks_sim {a0 : Over} {a1 : Int} {s_a0_0 : Sl} {s_a0_1 : Sl} {r : Over} (H : partref_overThanks a0 a1 = some r) (w0 : World) (F : Frz) (M L : List Item) (hM : M.Sublist L) : Ok Try.prog w0 172 [.agg (enc (OverR.mk a0 s_a0_0 s_a0_1)).toArray, .int .i64 a1] F ((.own s_a0_0 135 3 (encs a0.Hands)) :: (.own s_a0_1 209 3 (encs a0.Way)) :: L) (fun _ L' v => ∃ (s48 : Sl) (s50 : Sl), v = .agg (enc (OverR.mk r s48 s50)).toArray ∧ L' = (.own s48 135 3 (encs r.Hands)) :: (.own s50 209 3 (encs r.Way)) :: L) := by
  unfold partref_overThanks at H
  refine Ok.enter (m := 2) (n := 43) Try.func172 rfl rfl rfl (by decide) ?_
  refine Cd.env (e' := [(0, .agg (enc (OverR.mk a0 s_a0_0 s_a0_1)).toArray), (1, .int .i64 a1)]) rfl ?_
  refine Cd.seq ?_
  refine Cd.region ?_
  refine Lst.box rfl rfl (by decide) rfl (cs := enc (OverR.mk a0 s_a0_0 s_a0_1)) rfl (fun b3 => ?_)
  refine Lst.addNil 135 3 ?_
  refine Lst.addNil 209 3 ?_
  refine Lst.alloc (cs := enc (OverR.mk ({ Over.zero with Hands := ([] : List Hand), Way := ([] : List Word) } : Over) Sl.nil Sl.nil)) rfl rfl (by decide) Try.zeroValue124 rfl (fun b7 => ?_)
  refine Lst.nil ?_
  refine At.then ?_
  refine Cd.seq ?_
  refine Cd.region ?_
  refine Lst.run rfl rfl (by decide) (Ev.fieldAddr (off' := 0) rfl Try.runUnderlying124 rfl Try.sizeOf122 rfl rfl) ?_
  refine Lst.run rfl rfl (by decide) (Ev.load (i := 3) rfl rfl Try.isAgg122 (v := Sl.v s_a0_0) ((OverR.get_Hands (Get.here _)).off (by rfl))) ?_
  refine Lst.run rfl rfl (by decide) (Ev.move rfl) ?_
  obtain ⟨x9, h10, H⟩ := bind_some H
  have g11 := lat_some h10
  refine Lst.run rfl rfl (by decide) (Ev.indexS (α := Hand) (xs := a0.Hands) rfl rfl Try.runUnderlying122 Try.sizeOf135 rfl (by decide) (Rd.own (i := 4) rfl rfl rfl) g11.1 g11.2.1) ?_
  refine Lst.run rfl rfl (by decide) (Ev.loadSA (α := Hand) rfl (Rd.own (i := 4) rfl rfl rfl) Try.isAgg135 Try.sizeOf135 (ch := enc x9) (Enc.len _) (by decide) ((Get.elemN (s := 3) (x := x9) rfl g11.2.2 (Get.here _)).off (by omega))) ?_
  refine Lst.alloc (cs := enc Hand.zero) rfl rfl (by decide) Try.zeroValue135 rfl (fun b12 => ?_)
  refine Lst.store (i := 0) rfl rfl rfl rfl rfl Try.sizeOf135 (vs := enc x9) rfl (Enc.len _) (Enc.one _) (cs' := enc x9) (Put.here ((Enc.len _).trans (Enc.len _).symm)) (L' := (.blk b12 (enc x9) 135) :: (.blk b7 (enc (OverR.mk ({ Over.zero with Hands := ([] : List Hand), Way := ([] : List Word) } : Over) Sl.nil Sl.nil)) 124) :: (.own Sl.nil 209 3 (encs ([] : List Word))) :: (.own Sl.nil 135 3 (encs ([] : List Hand))) :: (.blk b3 (enc (OverR.mk a0 s_a0_0 s_a0_1)) 124) :: (.own s_a0_0 135 3 (encs a0.Hands)) :: (.own s_a0_1 209 3 (encs a0.Way)) :: L) rfl ?_
  refine Lst.nil ?_
  refine At.then ?_
  obtain ⟨o19, H, HKo19⟩ := bind_some H
  refine Cd.join (σ := Over × Sl × (List Hand) × Sl × (List Word)) (fun (y14, s15, l16, s17, l18) => [(2, .pointer (some ⟨b3, 0, none⟩)), (4, .pointer (some ⟨b7, 0, none⟩))]) (fun (y14, s15, l16, s17, l18) => (.blk b12 (enc x9) 135) :: (.blk b7 (enc (OverR.mk ({ Over.zero with Hands := ([] : List Hand), Way := ([] : List Word) } : Over) Sl.nil Sl.nil)) 124) :: (.own Sl.nil 209 3 (encs ([] : List Word))) :: (.own Sl.nil 135 3 (encs ([] : List Hand))) :: (.blk b3 (enc (OverR.mk ({ y14 with Hands := l16, Way := l18 } : Over) s15 s17)) 124) :: (.own s15 135 3 (encs l16)) :: (.own s17 209 3 (encs l18)) :: L) (fun _ (y14, s15, l16, s17, l18) => (y14, l16, l18) = o19) ?_ ?_
  · refine Cd.seq ?_
    refine Cd.region ?_
    refine Lst.run rfl rfl (by decide) (Ev.move rfl) ?_
    refine Lst.run rfl rfl (by decide) (Ev.neq rfl rfl) ?_
    refine Lst.run rfl rfl (by decide) (Ev.move rfl) ?_
    obtain ⟨o20, H, HKo20⟩ := bind_some H
    refine Lst.join (σ := Bool) 4 (fun y21 => [(1, .int .i64 a1), (2, .pointer (some ⟨b3, 0, none⟩)), (4, .pointer (some ⟨b7, 0, none⟩)), (5, .pointer (some ⟨b12, 0, none⟩)), (17, .bool y21)]) (fun y21 => (.blk b12 (enc x9) 135) :: (.blk b7 (enc (OverR.mk ({ Over.zero with Hands := ([] : List Hand), Way := ([] : List Word) } : Over) Sl.nil Sl.nil)) 124) :: (.own Sl.nil 209 3 (encs ([] : List Word))) :: (.own Sl.nil 135 3 (encs ([] : List Hand))) :: (.blk b3 (enc (OverR.mk a0 s_a0_0 s_a0_1)) 124) :: (.own s_a0_0 135 3 (encs a0.Hands)) :: (.own s_a0_1 209 3 (encs a0.Way)) :: L) (fun _ y21 => y21 = o20) ?_ ?_
    · rcases (Bool.eq_false_or_eq_true (a1 != (0 : Int))).symm with hb22 | hb22
      · replace H := ite_f hb22 H
        refine Lst.skip rfl rfl rfl hb22 rfl (by decide) ?_
        refine Lst.skip rfl rfl rfl hb22 rfl (by decide) ?_
        refine Lst.skip rfl rfl rfl hb22 rfl (by decide) ?_
        refine Lst.run rfl rfl (by decide) (Ev.pickF rfl hb22 rfl) ?_
        refine Lst.nil ?_
        exact At.meet false (FLe.refl _) ⟨rfl, rfl, rfl, rfl, rfl, trivial⟩ rfl (some_inj H)
      replace H := ite_t hb22 H
      refine Lst.runG rfl rfl rfl hb22 rfl (by decide) (Ev.fieldAddr (off' := 1) rfl Try.runUnderlying135 rfl Try.sizeOf3 rfl rfl) ?_
      refine Lst.runG rfl rfl rfl hb22 rfl (by decide) (Ev.load (i := 0) rfl rfl Try.isAgg3 (v := .int .i64 x9.Boss) ((Hand.get_Boss (Get.here _)).off (by rfl))) ?_
      refine Lst.runG rfl rfl rfl hb22 rfl (by decide) (Ev.neq rfl rfl) ?_
      refine Lst.run rfl rfl (by decide) (Ev.pickT rfl hb22 rfl) ?_
      refine Lst.nil ?_
      exact At.meet (x9.Boss != (-1 : Int)) (FLe.refl _) ⟨rfl, rfl, rfl, rfl, rfl, trivial⟩ rfl (some_inj H)
    rintro F23 y21 hF24 hy
    subst hy
    refine Lst.as (e' := [(1, .int .i64 a1), (2, .pointer (some ⟨b3, 0, none⟩)), (4, .pointer (some ⟨b7, 0, none⟩)), (5, .pointer (some ⟨b12, 0, none⟩)), (17, .bool y21)]) (L' := (.blk b12 (enc x9) 135) :: (.blk b7 (enc (OverR.mk ({ Over.zero with Hands := ([] : List Hand), Way := ([] : List Word) } : Over) Sl.nil Sl.nil)) 124) :: (.own Sl.nil 209 3 (encs ([] : List Word))) :: (.own Sl.nil 135 3 (encs ([] : List Hand))) :: (.blk b3 (enc (OverR.mk a0 s_a0_0 s_a0_1)) 124) :: (.own s_a0_0 135 3 (encs a0.Hands)) :: (.own s_a0_1 209 3 (encs a0.Way)) :: L) ⟨rfl, rfl, rfl, rfl, rfl, trivial⟩ rfl ?_
    replace H := HKo20
    refine Lst.run rfl rfl (by decide) (Ev.move rfl) ?_
    obtain ⟨o25, H, HKo25⟩ := bind_some H
    refine Lst.join (σ := Bool) 4 (fun y26 => [(1, .int .i64 a1), (2, .pointer (some ⟨b3, 0, none⟩)), (4, .pointer (some ⟨b7, 0, none⟩)), (5, .pointer (some ⟨b12, 0, none⟩)), (22, .bool y26)]) (fun y26 => (.blk b12 (enc x9) 135) :: (.blk b7 (enc (OverR.mk ({ Over.zero with Hands := ([] : List Hand), Way := ([] : List Word) } : Over) Sl.nil Sl.nil)) 124) :: (.own Sl.nil 209 3 (encs ([] : List Word))) :: (.own Sl.nil 135 3 (encs ([] : List Hand))) :: (.blk b3 (enc (OverR.mk a0 s_a0_0 s_a0_1)) 124) :: (.own s_a0_0 135 3 (encs a0.Hands)) :: (.own s_a0_1 209 3 (encs a0.Way)) :: L) (fun _ y26 => y26 = o25) ?_ ?_
    · rcases (Bool.eq_false_or_eq_true y21).symm with hb27 | hb27
      · replace H := ite_f hb27 H
        refine Lst.skip rfl rfl rfl hb27 rfl (by decide) ?_
        refine Lst.skip rfl rfl rfl hb27 rfl (by decide) ?_
        refine Lst.skip rfl rfl rfl hb27 rfl (by decide) ?_
        refine Lst.run rfl rfl (by decide) (Ev.pickF rfl hb27 rfl) ?_
        refine Lst.nil ?_
        exact At.meet false (FLe.refl _) ⟨rfl, rfl, rfl, rfl, rfl, trivial⟩ rfl (some_inj H)
      replace H := ite_t hb27 H
      refine Lst.runG rfl rfl rfl hb27 rfl (by decide) (Ev.fieldAddr (off' := 0) rfl Try.runUnderlying135 rfl Try.sizeOf4 rfl rfl) ?_
      refine Lst.runG rfl rfl rfl hb27 rfl (by decide) (Ev.load (i := 0) rfl rfl Try.isAgg4 (v := .bool x9.Busy) ((Hand.get_Busy (Get.here _)).off (by rfl))) ?_
      refine Lst.runG rfl rfl rfl hb27 rfl (by decide) (Ev.not rfl) ?_
      refine Lst.run rfl rfl (by decide) (Ev.pickT rfl hb27 rfl) ?_
      refine Lst.nil ?_
      exact At.meet (!x9.Busy) (FLe.refl _) ⟨rfl, rfl, rfl, rfl, rfl, trivial⟩ rfl (some_inj H)
    rintro F28 y26 hF29 hy
    subst hy
    refine Lst.as (e' := [(1, .int .i64 a1), (2, .pointer (some ⟨b3, 0, none⟩)), (4, .pointer (some ⟨b7, 0, none⟩)), (5, .pointer (some ⟨b12, 0, none⟩)), (22, .bool y26)]) (L' := (.blk b12 (enc x9) 135) :: (.blk b7 (enc (OverR.mk ({ Over.zero with Hands := ([] : List Hand), Way := ([] : List Word) } : Over) Sl.nil Sl.nil)) 124) :: (.own Sl.nil 209 3 (encs ([] : List Word))) :: (.own Sl.nil 135 3 (encs ([] : List Hand))) :: (.blk b3 (enc (OverR.mk a0 s_a0_0 s_a0_1)) 124) :: (.own s_a0_0 135 3 (encs a0.Hands)) :: (.own s_a0_1 209 3 (encs a0.Way)) :: L) ⟨rfl, rfl, rfl, rfl, rfl, trivial⟩ rfl ?_
    replace H := HKo25
    refine Lst.run rfl rfl (by decide) (Ev.move rfl) ?_
    obtain ⟨o30, H, HKo30⟩ := bind_some H
    refine Lst.join (σ := Bool) 4 (fun y31 => [(1, .int .i64 a1), (2, .pointer (some ⟨b3, 0, none⟩)), (4, .pointer (some ⟨b7, 0, none⟩)), (5, .pointer (some ⟨b12, 0, none⟩)), (27, .bool y31)]) (fun y31 => (.blk b12 (enc x9) 135) :: (.blk b7 (enc (OverR.mk ({ Over.zero with Hands := ([] : List Hand), Way := ([] : List Word) } : Over) Sl.nil Sl.nil)) 124) :: (.own Sl.nil 209 3 (encs ([] : List Word))) :: (.own Sl.nil 135 3 (encs ([] : List Hand))) :: (.blk b3 (enc (OverR.mk a0 s_a0_0 s_a0_1)) 124) :: (.own s_a0_0 135 3 (encs a0.Hands)) :: (.own s_a0_1 209 3 (encs a0.Way)) :: L) (fun _ y31 => y31 = o30) ?_ ?_
    · rcases (Bool.eq_false_or_eq_true y26).symm with hb32 | hb32
      · replace H := ite_f hb32 H
        refine Lst.skip rfl rfl rfl hb32 rfl (by decide) ?_
        refine Lst.skip rfl rfl rfl hb32 rfl (by decide) ?_
        refine Lst.skip rfl rfl rfl hb32 rfl (by decide) ?_
        refine Lst.run rfl rfl (by decide) (Ev.pickF rfl hb32 rfl) ?_
        refine Lst.nil ?_
        exact At.meet false (FLe.refl _) ⟨rfl, rfl, rfl, rfl, rfl, trivial⟩ rfl (some_inj H)
      replace H := ite_t hb32 H
      refine Lst.runG rfl rfl rfl hb32 rfl (by decide) (Ev.fieldAddr (off' := 2) rfl Try.runUnderlying135 rfl Try.sizeOf3 rfl rfl) ?_
      refine Lst.runG rfl rfl rfl hb32 rfl (by decide) (Ev.load (i := 0) rfl rfl Try.isAgg3 (v := .int .i64 x9.Owed) ((Hand.get_Owed (Get.here _)).off (by rfl))) ?_
      refine Lst.runG rfl rfl rfl hb32 rfl (by decide) (Ev.eql rfl rfl) ?_
      refine Lst.run rfl rfl (by decide) (Ev.pickT rfl hb32 rfl) ?_
      refine Lst.nil ?_
      exact At.meet (x9.Owed == (0 : Int)) (FLe.refl _) ⟨rfl, rfl, rfl, rfl, rfl, trivial⟩ rfl (some_inj H)
    rintro F33 y31 hF34 hy
    subst hy
    refine Lst.as (e' := [(1, .int .i64 a1), (2, .pointer (some ⟨b3, 0, none⟩)), (4, .pointer (some ⟨b7, 0, none⟩)), (5, .pointer (some ⟨b12, 0, none⟩)), (27, .bool y31)]) (L' := (.blk b12 (enc x9) 135) :: (.blk b7 (enc (OverR.mk ({ Over.zero with Hands := ([] : List Hand), Way := ([] : List Word) } : Over) Sl.nil Sl.nil)) 124) :: (.own Sl.nil 209 3 (encs ([] : List Word))) :: (.own Sl.nil 135 3 (encs ([] : List Hand))) :: (.blk b3 (enc (OverR.mk a0 s_a0_0 s_a0_1)) 124) :: (.own s_a0_0 135 3 (encs a0.Hands)) :: (.own s_a0_1 209 3 (encs a0.Way)) :: L) ⟨rfl, rfl, rfl, rfl, rfl, trivial⟩ rfl ?_
    replace H := HKo30
    refine Lst.nil ?_
    refine At.then ?_
    rcases (Bool.eq_false_or_eq_true y31).symm with hb35 | hb35
    · replace H := ite_f hb35 H
      refine Cd.condF rfl hb35 ?_
      refine Cd.skip ?_
      exact At.meet (a0, s_a0_0, a0.Hands, s_a0_1, a0.Way) (FLe.trans (FLe.trans hF24 hF29) hF34) ⟨rfl, rfl, trivial⟩ rfl (some_inj H)
    replace H := ite_t hb35 H
    refine Cd.condT rfl hb35 ?_
    refine Cd.seq ?_
    refine Cd.region ?_
    refine Lst.run rfl rfl (by decide) (Ev.fieldAddr (off' := 1) rfl Try.runUnderlying124 rfl Try.sizeOf112 rfl rfl) ?_
    refine Lst.run rfl rfl (by decide) (Ev.load (i := 4) rfl rfl Try.isAgg112 (v := Sl.v s_a0_1) ((OverR.get_Way (Get.here _)).off (by rfl))) ?_
    refine Lst.run rfl rfl (by decide) (Ev.move rfl) ?_
    refine Lst.run rfl rfl (by decide) (Ev.fieldAddr (off' := 1) rfl Try.runUnderlying135 rfl Try.sizeOf3 rfl rfl) ?_
    refine Lst.run rfl rfl (by decide) (Ev.load (i := 0) rfl rfl Try.isAgg3 (v := .int .i64 x9.Boss) ((Hand.get_Boss (Get.here _)).off (by rfl))) ?_
    refine Lst.run rfl rfl (by decide) (Ev.build (v := .agg (enc ({ Word.zero with From := a1, To := x9.Boss } : Word)).toArray) (pv := [(0, .int .i64 a1), (1, .int .i64 x9.Boss)]) ⟨rfl, rfl, ⟨rfl, rfl, trivial⟩⟩ (fun w => by kernel_rfl)) ?_
    refine Lst.buildSlice (α := Word) (xs := ([({ Word.zero with From := a1, To := x9.Boss } : Word)] : List Word)) (pv := [(0, .agg (enc ({ Word.zero with From := a1, To := x9.Boss } : Word)).toArray)]) rfl rfl (by decide) ⟨rfl, rfl, trivial⟩ (run_buildSlice (α := Word) (z0 := Word.zero) (xs := ([({ Word.zero with From := a1, To := x9.Boss } : Word)] : List Word)) Try.runUnderlying112 Try.sizeOf209 Try.zeroValue209 rfl rfl rfl (by decide) rfl (fill_cons (cs := encs (List.replicate 1 Word.zero)) (cs' := encs ((List.replicate 1 Word.zero).set 0 ({ Word.zero with From := a1, To := x9.Boss } : Word))) (vs := enc ({ Word.zero with From := a1, To := x9.Boss } : Word)) rfl rfl (Enc.len _) ((Put.elemN (s := 3) (i := 0) (x := Word.zero) (y := ({ Word.zero with From := a1, To := x9.Boss } : Word)) rfl rfl (Put.here ((Enc.len _).trans (Enc.len _).symm))).off rfl) fill_nil)) rfl rfl (by decide) (fun s36 _ => ?_)
    obtain ⟨u38, h39, H⟩ := bind_some H
    refine Lst.append (i := 7) (α := Word) (xs := a0.Way) (ys := ([({ Word.zero with From := a1, To := x9.Boss } : Word)] : List Word)) rfl rfl (by decide) rfl rfl Try.runUnderlying112 Try.typeInfo209 rfl rfl rfl rfl rfl rfl (Rd.own (i := 0) rfl rfl rfl) rfl (room_some h39) rfl (fun s40 => ?_)
    refine Lst.its (L' := (.own s36 209 3 (encs ([({ Word.zero with From := a1, To := x9.Boss } : Word)] : List Word))) :: (.blk b12 (enc x9) 135) :: (.blk b7 (enc (OverR.mk ({ Over.zero with Hands := ([] : List Hand), Way := ([] : List Word) } : Over) Sl.nil Sl.nil)) 124) :: (.own Sl.nil 209 3 (encs ([] : List Word))) :: (.own Sl.nil 135 3 (encs ([] : List Hand))) :: (.blk b3 (enc (OverR.mk a0 s_a0_0 s_a0_1)) 124) :: (.own s_a0_0 135 3 (encs a0.Hands)) :: (.own s40 209 3 (encs (a0.Way ++ ([({ Word.zero with From := a1, To := x9.Boss } : Word)] : List Word)))) :: L) rfl ?_
    refine Lst.run rfl rfl (by decide) (Ev.fieldAddr (off' := 1) rfl Try.runUnderlying124 rfl Try.sizeOf112 rfl rfl) ?_
    refine Lst.store (i := 5) rfl rfl rfl rfl rfl Try.sizeOf112 (vs := [Sl.v s40]) rfl rfl rfl (cs' := enc (OverR.mk ({ a0 with Way := a0.Way ++ ([({ Word.zero with From := a1, To := x9.Boss } : Word)] : List Word) } : Over) s_a0_0 s40)) ((OverR.put_Way (Put.here (vs := [Sl.v s40]) rfl)).off (by rfl)) (L' := (.own s36 209 3 (encs ([({ Word.zero with From := a1, To := x9.Boss } : Word)] : List Word))) :: (.blk b12 (enc x9) 135) :: (.blk b7 (enc (OverR.mk ({ Over.zero with Hands := ([] : List Hand), Way := ([] : List Word) } : Over) Sl.nil Sl.nil)) 124) :: (.own Sl.nil 209 3 (encs ([] : List Word))) :: (.own Sl.nil 135 3 (encs ([] : List Hand))) :: (.blk b3 (enc (OverR.mk ({ a0 with Way := a0.Way ++ ([({ Word.zero with From := a1, To := x9.Boss } : Word)] : List Word) } : Over) s_a0_0 s40)) 124) :: (.own s_a0_0 135 3 (encs a0.Hands)) :: (.own s40 209 3 (encs (a0.Way ++ ([({ Word.zero with From := a1, To := x9.Boss } : Word)] : List Word)))) :: L) rfl ?_
    refine Lst.nil ?_
    refine At.then ?_
    refine Cd.region ?_
    refine Lst.run rfl rfl (by decide) (Ev.fieldAddr (off' := 0) rfl Try.runUnderlying124 rfl Try.sizeOf122 rfl rfl) ?_
    refine Lst.run rfl rfl (by decide) (Ev.load (i := 5) rfl rfl Try.isAgg122 (v := Sl.v s_a0_0) ((OverR.get_Hands (Get.here _)).off (by rfl))) ?_
    refine Lst.run rfl rfl (by decide) (Ev.move rfl) ?_
    obtain ⟨x41, h42, H⟩ := bind_some H
    have g43 := lat_some h42
    refine Lst.run rfl rfl (by decide) (Ev.indexS (α := Hand) (xs := a0.Hands) rfl rfl Try.runUnderlying122 Try.sizeOf135 rfl (by decide) (Rd.own (i := 6) rfl rfl rfl) g43.1 g43.2.1) ?_
    refine Lst.run rfl rfl (by decide) (Ev.fieldS (α := Hand) (f' := a1.toNat * 3 + 1) rfl (Rd.own (i := 6) rfl rfl rfl) ((Get.elemN (s := 3) (x := x41) rfl g43.2.2 (Get.here _)).off (by omega)) rfl Try.runUnderlying135 rfl Try.sizeOf3 rfl rfl rfl) ?_
    obtain ⟨p44, h45, H⟩ := Let_some H
    refine Lst.storeS (i := 6) rfl rfl rfl rfl rfl Try.sizeOf3 (vs := [.int .i64 (-1 : Int)]) rfl rfl (by decide) rfl (xs' := encs p44) (by rw [← h45]; exact (Put.elemN (s := 3) (x := x41) rfl g43.2.2 (Hand.put_Boss (Put.here (vs := [.int .i64 (-1 : Int)]) rfl))).off (by omega)) (L' := (.own s36 209 3 (encs ([({ Word.zero with From := a1, To := x9.Boss } : Word)] : List Word))) :: (.blk b12 (enc x9) 135) :: (.blk b7 (enc (OverR.mk ({ Over.zero with Hands := ([] : List Hand), Way := ([] : List Word) } : Over) Sl.nil Sl.nil)) 124) :: (.own Sl.nil 209 3 (encs ([] : List Word))) :: (.own Sl.nil 135 3 (encs ([] : List Hand))) :: (.blk b3 (enc (OverR.mk ({ a0 with Hands := p44, Way := a0.Way ++ ([({ Word.zero with From := a1, To := x9.Boss } : Word)] : List Word) } : Over) s_a0_0 s40)) 124) :: (.own s_a0_0 135 3 (encs p44)) :: (.own s40 209 3 (encs (a0.Way ++ ([({ Word.zero with From := a1, To := x9.Boss } : Word)] : List Word)))) :: L) rfl ?_
    refine Lst.nil ?_
    refine At.less (L' := (.blk b12 (enc x9) 135) :: (.blk b7 (enc (OverR.mk ({ Over.zero with Hands := ([] : List Hand), Way := ([] : List Word) } : Over) Sl.nil Sl.nil)) 124) :: (.own Sl.nil 209 3 (encs ([] : List Word))) :: (.own Sl.nil 135 3 (encs ([] : List Hand))) :: (.blk b3 (enc (OverR.mk ({ a0 with Hands := p44, Way := a0.Way ++ ([({ Word.zero with From := a1, To := x9.Boss } : Word)] : List Word) } : Over) s_a0_0 s40)) 124) :: (.own s_a0_0 135 3 (encs p44)) :: (.own s40 209 3 (encs (a0.Way ++ ([({ Word.zero with From := a1, To := x9.Boss } : Word)] : List Word)))) :: L) (List.Sublist.cons _ (List.Sublist.cons_cons _ (List.Sublist.cons_cons _ (List.Sublist.cons_cons _ (List.Sublist.cons_cons _ (List.Sublist.cons_cons _ (List.Sublist.cons_cons _ (List.Sublist.cons_cons _ (List.Sublist.refl _))))))))) ?_
    exact At.meet (({ a0 with Hands := p44, Way := a0.Way ++ ([({ Word.zero with From := a1, To := x9.Boss } : Word)] : List Word) } : Over), s_a0_0, p44, s40, a0.Way ++ ([({ Word.zero with From := a1, To := x9.Boss } : Word)] : List Word)) (FLe.trans (FLe.trans hF24 hF29) hF34) ⟨rfl, rfl, trivial⟩ rfl (some_inj H)
  rintro F46 ⟨y14, s15, l16, s17, l18⟩ hF47 hy
  subst hy
  refine Cd.as (e' := [(2, .pointer (some ⟨b3, 0, none⟩)), (4, .pointer (some ⟨b7, 0, none⟩))]) (L' := (.blk b12 (enc x9) 135) :: (.blk b7 (enc (OverR.mk ({ Over.zero with Hands := ([] : List Hand), Way := ([] : List Word) } : Over) Sl.nil Sl.nil)) 124) :: (.own Sl.nil 209 3 (encs ([] : List Word))) :: (.own Sl.nil 135 3 (encs ([] : List Hand))) :: (.blk b3 (enc (OverR.mk ({ y14 with Hands := l16, Way := l18 } : Over) s15 s17)) 124) :: (.own s15 135 3 (encs l16)) :: (.own s17 209 3 (encs l18)) :: L) ⟨rfl, rfl, trivial⟩ rfl ?_
  replace H := HKo19
  refine Cd.seq ?_
  refine Cd.region ?_
  refine Lst.run rfl rfl (by decide) (Ev.loadA (i := 4) rfl rfl Try.isAgg124 Try.sizeOf124 (ch := enc (OverR.mk ({ y14 with Hands := l16, Way := l18 } : Over) s15 s17)) (Enc.len _) (Get.here _)) ?_
  refine Lst.store (i := 1) rfl rfl rfl rfl rfl Try.sizeOf124 (vs := enc (OverR.mk ({ y14 with Hands := l16, Way := l18 } : Over) s15 s17)) rfl (Enc.len _) (Enc.one _) (cs' := enc (OverR.mk ({ y14 with Hands := l16, Way := l18 } : Over) s15 s17)) (Put.here ((Enc.len _).trans (Enc.len _).symm)) (L' := (.blk b12 (enc x9) 135) :: (.blk b7 (enc (OverR.mk ({ y14 with Hands := l16, Way := l18 } : Over) s15 s17)) 124) :: (.own Sl.nil 209 3 (encs ([] : List Word))) :: (.own Sl.nil 135 3 (encs ([] : List Hand))) :: (.blk b3 (enc (OverR.mk ({ y14 with Hands := l16, Way := l18 } : Over) s15 s17)) 124) :: (.own s15 135 3 (encs l16)) :: (.own s17 209 3 (encs l18)) :: L) rfl ?_
  refine Lst.nil ?_
  refine At.then ?_
  obtain rfl := some_inj H
  refine Cd.ret ?_
  exact At.ret1 rfl (Res.cellA (i := 1) rfl rfl Try.isAgg124 Try.sizeOf124 (Enc.len _)) hF47 (List.Sublist.cons _ (List.Sublist.cons _ (List.Sublist.cons _ (List.Sublist.cons _ (List.Sublist.cons _ (List.Sublist.cons_cons _ (List.Sublist.cons_cons _ (List.Sublist.refl _)))))))) ⟨s15, s17, rfl, rfl⟩
set_option maxRecDepth 20000 in
theorem partref_OverTake_sim {a0 : Over} {a1 : Int} {s_a0_0 : Sl} {s_a0_1 : Sl} {r : Over} (H : partref_OverTake a0 a1 = some r) (w0 : World) (F : Frz) (M L : List Item) (hM : M.Sublist L) (hs_a0_0 : Rd w0 F M s_a0_0 a0.Hands) (hs_a0_1 : Rd w0 F M s_a0_1 a0.Way) : Ok Try.prog w0 82 [.agg (enc (OverR.mk a0 s_a0_0 s_a0_1)).toArray, .int .i64 a1] F (L) (fun _ L' v => ∃ (s170 : Sl) (s172 : Sl), v = .agg (enc (OverR.mk r s170 s172)).toArray ∧ L' = (.own s170 135 3 (encs r.Hands)) :: (.own s172 209 3 (encs r.Way)) :: L) := by
  unfold partref_OverTake at H
  refine Ok.enter (m := 2) (n := 82) Try.func82 rfl rfl rfl (by decide) ?_
  refine Cd.env (e' := [(0, .agg (enc (OverR.mk a0 s_a0_0 s_a0_1)).toArray), (1, .int .i64 a1)]) rfl ?_
  refine Cd.seq ?_
  refine Cd.region ?_
  refine Lst.box rfl rfl (by decide) rfl (cs := enc (OverR.mk a0 s_a0_0 s_a0_1)) rfl (fun b1 => ?_)
  refine Lst.addNil 135 3 ?_
  refine Lst.addNil 209 3 ?_
  refine Lst.alloc (cs := enc (OverR.mk ({ Over.zero with Hands := ([] : List Hand), Way := ([] : List Word) } : Over) Sl.nil Sl.nil)) rfl rfl (by decide) Try.zeroValue124 rfl (fun b5 => ?_)
  refine Lst.nil ?_
  refine At.then ?_
  refine Cd.seq ?_
  refine Cd.region ?_
  refine Lst.run rfl rfl (by decide) (Ev.fieldAddr (off' := 1) rfl Try.runUnderlying124 rfl Try.sizeOf112 rfl rfl) ?_
  refine Lst.run rfl rfl (by decide) (Ev.load (i := 3) rfl rfl Try.isAgg112 (v := Sl.v s_a0_1) ((OverR.get_Way (Get.here _)).off (by rfl))) ?_
  refine Lst.run rfl rfl (by decide) (Ev.move rfl) ?_
  obtain ⟨x7, h8, H⟩ := bind_some H
  have g9 := lat_some h8
  refine Lst.run rfl rfl (by decide) (Ev.indexS (α := Word) (xs := a0.Way) rfl rfl Try.runUnderlying112 Try.sizeOf209 rfl (by decide) (hs_a0_1.mono (FLe.refl _) (List.Sublist.cons _ (List.Sublist.cons _ (List.Sublist.cons _ (List.Sublist.cons _ hM))))) g9.1 g9.2.1) ?_
  refine Lst.run rfl rfl (by decide) (Ev.loadSA (α := Word) rfl (hs_a0_1.mono (FLe.refl _) (List.Sublist.cons _ (List.Sublist.cons _ (List.Sublist.cons _ (List.Sublist.cons _ hM))))) Try.isAgg209 Try.sizeOf209 (ch := enc x7) (Enc.len _) (by decide) ((Get.elemN (s := 3) (x := x7) rfl g9.2.2 (Get.here _)).off (by omega))) ?_
  refine Lst.alloc (cs := enc Word.zero) rfl rfl (by decide) Try.zeroValue209 rfl (fun b10 => ?_)
  refine Lst.store (i := 0) rfl rfl rfl rfl rfl Try.sizeOf209 (vs := enc x7) rfl (Enc.len _) (Enc.one _) (cs' := enc x7) (Put.here ((Enc.len _).trans (Enc.len _).symm)) (L' := (.blk b10 (enc x7) 209) :: (.blk b5 (enc (OverR.mk ({ Over.zero with Hands := ([] : List Hand), Way := ([] : List Word) } : Over) Sl.nil Sl.nil)) 124) :: (.own Sl.nil 209 3 (encs ([] : List Word))) :: (.own Sl.nil 135 3 (encs ([] : List Hand))) :: (.blk b1 (enc (OverR.mk a0 s_a0_0 s_a0_1)) 124) :: L) rfl ?_
  refine Lst.nil ?_
  refine At.then ?_
  refine Cd.seq ?_
  obtain ⟨r12, h13, H⟩ := bind_some H
  obtain ⟨m18, h19, H⟩ := bind_some H
  obtain ⟨m23, h24, H⟩ := bind_some H
  obtain ⟨r32, h33, H⟩ := bind_some H
  obtain ⟨o57, h58, H⟩ := Let_some H
  refine Cd.headMeet (σ := Nat × Sl × (List Word) × Sl × (List Hand) × Sl × (List Word) × Sl × (List (List Word)) × (List (LR Word)) × Sl × (List Hand)) 16 (fun (b43, s44, l45, s46, l47, s48, l49, s50, l51, rs52, s55, l56) => [(4, .pointer (some ⟨b5, 0, none⟩)), (5, .pointer (some ⟨b10, 0, none⟩)), (6, .pointer (some ⟨b43, 0, none⟩)), (27, .agg (enc (OverR.mk ({ Over.zero with Hands := l56, Way := l49 } : Over) s55 s48)).toArray)]) (fun (b43, s44, l45, s46, l47, s48, l49, s50, l51, rs52, s55, l56) => (.blk b43 (enc (OverR.mk ({ Over.zero with Hands := l47, Way := l45 } : Over) s46 s44)) 124) :: (.own s44 209 3 (encs l45)) :: (.own s46 135 3 (encs l47)) :: (.own s48 209 3 (encs l49)) :: (.own s50 112 1 (encs rs52)) :: (.own s55 135 3 (encs l56)) :: (.blk b10 (enc x7) 209) :: (.blk b5 (enc (OverR.mk ({ Over.zero with Hands := ([] : List Hand), Way := ([] : List Word) } : Over) Sl.nil Sl.nil)) 124) :: (.own Sl.nil 209 3 (encs ([] : List Word))) :: (.own Sl.nil 135 3 (encs ([] : List Hand))) :: (.blk b1 (enc (OverR.mk a0 s_a0_0 s_a0_1)) 124) :: L) (fun Fx (b43, s44, l45, s46, l47, s48, l49, s50, l51, rs52, s55, l56) => (l45, l47, l49, l51, l56) = o57 ∧ rs52.map LR.v = l51 ∧ All LR.rel w0 Fx M rs52) (by kernel_rfl) (by kernel_rfl) (behind_sink (by kernel_rfl) (by kernel_rfl) (by kernel_rfl)) (by kernel_rfl) (fun hsel hlt => ?_) ?_
  · refine HdJ.keep (fun w => St w0 F ((.blk b10 (enc x7) 209) :: (.blk b5 (enc (OverR.mk ({ Over.zero with Hands := ([] : List Hand), Way := ([] : List Word) } : Over) Sl.nil Sl.nil)) 124) :: (.own Sl.nil 209 3 (encs ([] : List Word))) :: (.own Sl.nil 135 3 (encs ([] : List Hand))) :: (.blk b1 (enc (OverR.mk a0 s_a0_0 s_a0_1)) 124) :: L) w) (fun w h => trivial) ?_
    refine HdJ.takeK hsel hlt 0 (fun w h => h.sublist (List.Sublist.cons_cons _ (List.Sublist.cons_cons _ (List.Sublist.cons_cons _ (List.Sublist.cons_cons _ (List.Sublist.cons_cons _ (List.Sublist.refl _))))))) rfl rfl (by decide) (by decide) (by kernel_rfl) (by kernel_rfl) rfl (Ev.fieldAddr (off' := 0) rfl Try.runUnderlying124 rfl Try.sizeOf122 rfl rfl) ?_
    refine HdJ.takeK hsel hlt 1 (fun w h => h.sublist (List.Sublist.cons_cons _ (List.Sublist.cons_cons _ (List.Sublist.cons_cons _ (List.Sublist.cons_cons _ (List.Sublist.cons_cons _ (List.Sublist.refl _))))))) rfl rfl (by decide) (by decide) (by kernel_rfl) (by kernel_rfl) rfl (Ev.load (i := 4) rfl rfl Try.isAgg122 (v := Sl.v s_a0_0) ((OverR.get_Hands (Get.here _)).off (by rfl))) ?_
    refine HdJ.takeK hsel hlt 3 (fun w h => h.sublist (List.Sublist.cons_cons _ (List.Sublist.cons_cons _ (List.Sublist.cons_cons _ (List.Sublist.cons_cons _ (List.Sublist.cons_cons _ (List.Sublist.refl _))))))) rfl rfl (by decide) (by decide) (by kernel_rfl) (by kernel_rfl) rfl (Ev.fieldAddr (off' := 1) rfl Try.runUnderlying124 rfl Try.sizeOf112 rfl rfl) ?_
    refine HdJ.takeK hsel hlt 4 (fun w h => h.sublist (List.Sublist.cons_cons _ (List.Sublist.cons_cons _ (List.Sublist.cons_cons _ (List.Sublist.cons_cons _ (List.Sublist.cons_cons _ (List.Sublist.refl _))))))) rfl rfl (by decide) (by decide) (by kernel_rfl) (by kernel_rfl) rfl (Ev.load (i := 4) rfl rfl Try.isAgg112 (v := Sl.v s_a0_1) ((OverR.get_Way (Get.here _)).off (by rfl))) ?_
    refine HdJ.takeK hsel hlt 5 (fun w h => h.sublist (List.Sublist.cons_cons _ (List.Sublist.cons_cons _ (List.Sublist.cons_cons _ (List.Sublist.cons_cons _ (List.Sublist.cons_cons _ (List.Sublist.refl _))))))) rfl rfl (by decide) (by decide) (by kernel_rfl) (by kernel_rfl) rfl (Ev.move rfl) ?_
    obtain ⟨g59, gl60⟩ := cutL_some h19
    have hq61 : Rd w0 F M (s_a0_1.cut (0 : Int).toNat (a1 : Int).toNat 3) m18 := by rw [← gl60]; exact Rd.cut (by decide) hs_a0_1 (by omega) (by omega)
    refine HdJ.takeK hsel hlt 6 (fun w h => h.sublist (List.Sublist.cons_cons _ (List.Sublist.cons_cons _ (List.Sublist.cons_cons _ (List.Sublist.cons_cons _ (List.Sublist.cons_cons _ (List.Sublist.refl _))))))) rfl rfl (by decide) (by decide) (by kernel_rfl) (by kernel_rfl) rfl (Ev.cut (α := Word) (xs := a0.Way) (i := 0) (j := a1) rfl rfl rfl Try.runUnderlying112 Try.sizeOf209 rfl (by decide) (hs_a0_1.mono (FLe.refl _) (List.Sublist.cons _ (List.Sublist.cons _ (List.Sublist.cons _ (List.Sublist.cons _ (List.Sublist.cons _ hM)))))) g59.1 g59.2.1 g59.2.2) ?_
    refine HdJ.takeK hsel hlt 7 (fun w h => h.sublist (List.Sublist.cons_cons _ (List.Sublist.cons_cons _ (List.Sublist.cons_cons _ (List.Sublist.cons_cons _ (List.Sublist.cons_cons _ (List.Sublist.refl _))))))) rfl rfl (by decide) (by decide) (by kernel_rfl) (by kernel_rfl) rfl (Ev.fieldAddr (off' := 1) rfl Try.runUnderlying124 rfl Try.sizeOf112 rfl rfl) ?_
    refine HdJ.takeK hsel hlt 8 (fun w h => h.sublist (List.Sublist.cons_cons _ (List.Sublist.cons_cons _ (List.Sublist.cons_cons _ (List.Sublist.cons_cons _ (List.Sublist.cons_cons _ (List.Sublist.refl _))))))) rfl rfl (by decide) (by decide) (by kernel_rfl) (by kernel_rfl) rfl (Ev.load (i := 4) rfl rfl Try.isAgg112 (v := Sl.v s_a0_1) ((OverR.get_Way (Get.here _)).off (by rfl))) ?_
    refine HdJ.takeK hsel hlt 9 (fun w h => h.sublist (List.Sublist.cons_cons _ (List.Sublist.cons_cons _ (List.Sublist.cons_cons _ (List.Sublist.cons_cons _ (List.Sublist.cons_cons _ (List.Sublist.refl _))))))) rfl rfl (by decide) (by decide) (by kernel_rfl) (by kernel_rfl) rfl (Ev.move rfl) ?_
    refine HdJ.takeK hsel hlt 10 (fun w h => h.sublist (List.Sublist.cons_cons _ (List.Sublist.cons_cons _ (List.Sublist.cons_cons _ (List.Sublist.cons_cons _ (List.Sublist.cons_cons _ (List.Sublist.refl _))))))) rfl rfl (by decide) (by decide) (by kernel_rfl) (by kernel_rfl) rfl (Ev.add rfl rfl) ?_
    obtain ⟨g62, gl63⟩ := cutL_some h24
    have hq64 : Rd w0 F M (s_a0_1.cut (w64 (a1 + (1 : Int)) : Int).toNat ((a0.Way.length : Int) : Int).toNat 3) m23 := by rw [← gl63]; exact Rd.cut (by decide) hs_a0_1 (by omega) (by omega)
    refine HdJ.takeK hsel hlt 11 (fun w h => h.sublist (List.Sublist.cons_cons _ (List.Sublist.cons_cons _ (List.Sublist.cons_cons _ (List.Sublist.cons_cons _ (List.Sublist.cons_cons _ (List.Sublist.refl _))))))) rfl rfl (by decide) (by decide) (by kernel_rfl) (by kernel_rfl) rfl (Ev.cut (α := Word) (xs := a0.Way) (i := w64 (a1 + (1 : Int))) (j := (a0.Way.length : Int)) rfl rfl rfl Try.runUnderlying112 Try.sizeOf209 rfl (by decide) (hs_a0_1.mono (FLe.refl _) (List.Sublist.cons _ (List.Sublist.cons _ (List.Sublist.cons _ (List.Sublist.cons _ (List.Sublist.cons _ hM)))))) g62.1 g62.2.1 g62.2.2) ?_
    refine HdJ.step [2, 12, 15] (by kernel_rfl) rfl ?_
    refine HdStep.cons (by decide) rfl (fun inv => ?_) ?_
    · refine Lst.call rfl rfl (by decide) (vs := [Sl.v s_a0_0]) ⟨rfl, trivial⟩ Try.call171 (slices_Clone_api_Hand_api_Hand_sim h13 w0 _ M _ (List.Sublist.cons _ (List.Sublist.cons _ (List.Sublist.cons _ (List.Sublist.cons _ (List.Sublist.cons _ hM))))) (hs_a0_0.mono (FLe.refl _) (List.Sublist.refl _))) (fun F66 L' v hF67 hv => ?_)
      obtain ⟨s65, rfl, rfl⟩ := hv
      refine Lst.nil ?_
      refine At.hd inv (fun w h => (h.weaken hF67).sublist (List.Sublist.cons _ (List.Sublist.cons_cons _ (List.Sublist.cons_cons _ (List.Sublist.cons_cons _ (List.Sublist.cons_cons _ (List.Sublist.cons_cons _ (List.Sublist.refl _)))))))) ?_
      refine HdJ.step [12, 15] (by kernel_rfl) rfl ?_
      refine HdStep.cons (by decide) rfl (fun inv => ?_) ?_
      · have hm69 : ([(LR.mk m18 (s_a0_1.cut (0 : Int).toNat (a1 : Int).toNat 3)), (LR.mk m23 (s_a0_1.cut (w64 (a1 + (1 : Int)) : Int).toNat ((a0.Way.length : Int) : Int).toNat 3))] : List (LR Word)).map LR.v = ([m18, m23] : List (List Word)) := rfl
        have ha70 : All LR.rel w0 F66 M ([(LR.mk m18 (s_a0_1.cut (0 : Int).toNat (a1 : Int).toNat 3)), (LR.mk m23 (s_a0_1.cut (w64 (a1 + (1 : Int)) : Int).toNat ((a0.Way.length : Int) : Int).toNat 3))] : List (LR Word)) := All.of2 (hq61.mono hF67 (List.Sublist.refl _)) (hq64.mono hF67 (List.Sublist.refl _))
        refine Lst.buildSlice (α := LR Word) (xs := ([(LR.mk m18 (s_a0_1.cut (0 : Int).toNat (a1 : Int).toNat 3)), (LR.mk m23 (s_a0_1.cut (w64 (a1 + (1 : Int)) : Int).toNat ((a0.Way.length : Int) : Int).toNat 3))] : List (LR Word))) (pv := [(0, Sl.v (s_a0_1.cut (0 : Int).toNat (a1 : Int).toNat 3)), (1, Sl.v (s_a0_1.cut (w64 (a1 + (1 : Int)) : Int).toNat ((a0.Way.length : Int) : Int).toNat 3))]) rfl rfl (by decide) ⟨rfl, rfl, ⟨rfl, rfl, trivial⟩⟩ (run_buildSlice (α := LR Word) (z0 := ((LR.mk [] Sl.nil) : LR Word)) (xs := ([(LR.mk m18 (s_a0_1.cut (0 : Int).toNat (a1 : Int).toNat 3)), (LR.mk m23 (s_a0_1.cut (w64 (a1 + (1 : Int)) : Int).toNat ((a0.Way.length : Int) : Int).toNat 3))] : List (LR Word))) Try.runUnderlying237 Try.sizeOf112 Try.zeroValue112 rfl rfl rfl (by decide) rfl (fill_cons (cs := encs (List.replicate 2 ((LR.mk [] Sl.nil) : LR Word))) (cs' := encs ((List.replicate 2 ((LR.mk [] Sl.nil) : LR Word)).set 0 (LR.mk m18 (s_a0_1.cut (0 : Int).toNat (a1 : Int).toNat 3)))) (vs := [Sl.v (s_a0_1.cut (0 : Int).toNat (a1 : Int).toNat 3)]) rfl rfl rfl ((Put.elemN (s := 1) (i := 0) (x := ((LR.mk [] Sl.nil) : LR Word)) (y := (LR.mk m18 (s_a0_1.cut (0 : Int).toNat (a1 : Int).toNat 3))) rfl rfl (Put.here (vs := [Sl.v (s_a0_1.cut (0 : Int).toNat (a1 : Int).toNat 3)]) rfl)).off rfl) (fill_cons (cs := encs ((List.replicate 2 ((LR.mk [] Sl.nil) : LR Word)).set 0 (LR.mk m18 (s_a0_1.cut (0 : Int).toNat (a1 : Int).toNat 3)))) (cs' := encs (((List.replicate 2 ((LR.mk [] Sl.nil) : LR Word)).set 0 (LR.mk m18 (s_a0_1.cut (0 : Int).toNat (a1 : Int).toNat 3))).set 1 (LR.mk m23 (s_a0_1.cut (w64 (a1 + (1 : Int)) : Int).toNat ((a0.Way.length : Int) : Int).toNat 3)))) (vs := [Sl.v (s_a0_1.cut (w64 (a1 + (1 : Int)) : Int).toNat ((a0.Way.length : Int) : Int).toNat 3)]) rfl rfl rfl ((Put.elemN (s := 1) (i := 1) (x := ((LR.mk [] Sl.nil) : LR Word)) (y := (LR.mk m23 (s_a0_1.cut (w64 (a1 + (1 : Int)) : Int).toNat ((a0.Way.length : Int) : Int).toNat 3))) rfl rfl (Put.here (vs := [Sl.v (s_a0_1.cut (w64 (a1 + (1 : Int)) : Int).toNat ((a0.Way.length : Int) : Int).toNat 3)]) rfl)).off rfl) fill_nil))) rfl rfl (by decide) (fun s68 _ => ?_)
        refine Lst.nil ?_
        refine At.hd inv (fun w h => (h.weaken hF67).sublist (List.Sublist.cons _ (List.Sublist.cons _ (List.Sublist.cons_cons _ (List.Sublist.cons_cons _ (List.Sublist.cons_cons _ (List.Sublist.cons_cons _ (List.Sublist.cons_cons _ (List.Sublist.refl _))))))))) ?_
        refine HdJ.step [13, 15] (by kernel_rfl) rfl ?_
        refine HdStep.cons (by decide) rfl (fun inv => ?_) ?_
        · refine Lst.call rfl rfl (by decide) (vs := [Sl.v s68]) ⟨rfl, trivial⟩ Try.call164 (slices_Concat_api_Word_api_Word_sim h33 w0 _ _ _ (List.Sublist.refl _) hm69 (Rd.own (i := 0) rfl rfl rfl) (All.monoLR ha70 (FLe.refl _) (List.Sublist.cons _ (List.Sublist.cons _ (List.Sublist.cons _ (List.Sublist.cons _ (List.Sublist.cons _ (List.Sublist.cons _ (List.Sublist.cons _ hM))))))))) (fun F72 L' v hF73 hv => ?_)
          obtain ⟨s71, rfl, rfl⟩ := hv
          refine Lst.nil ?_
          refine At.hd inv (fun w h => (h.weaken (FLe.trans hF67 hF73)).sublist (List.Sublist.cons _ (List.Sublist.cons _ (List.Sublist.cons _ (List.Sublist.cons_cons _ (List.Sublist.cons_cons _ (List.Sublist.cons_cons _ (List.Sublist.cons_cons _ (List.Sublist.cons_cons _ (List.Sublist.refl _)))))))))) ?_
          refine HdJ.keep (fun w => St w0 F72 ((.own s71 209 3 (encs r32)) :: (.own s68 112 1 (encs ([(LR.mk m18 (s_a0_1.cut (0 : Int).toNat (a1 : Int).toNat 3)), (LR.mk m23 (s_a0_1.cut (w64 (a1 + (1 : Int)) : Int).toNat ((a0.Way.length : Int) : Int).toNat 3))] : List (LR Word)))) :: (.own s65 135 3 (encs r12)) :: (.blk b10 (enc x7) 209) :: (.blk b5 (enc (OverR.mk ({ Over.zero with Hands := ([] : List Hand), Way := ([] : List Word) } : Over) Sl.nil Sl.nil)) 124) :: (.own Sl.nil 209 3 (encs ([] : List Word))) :: (.own Sl.nil 135 3 (encs ([] : List Hand))) :: (.blk b1 (enc (OverR.mk a0 s_a0_0 s_a0_1)) 124) :: L) w) (fun w h => (h.weaken (FLe.trans hF67 hF73)).sublist (List.Sublist.cons _ (List.Sublist.cons _ (List.Sublist.cons _ (List.Sublist.cons_cons _ (List.Sublist.cons_cons _ (List.Sublist.cons_cons _ (List.Sublist.cons_cons _ (List.Sublist.cons_cons _ (List.Sublist.refl _)))))))))) ?_
          refine HdJ.takeK hsel hlt 14 (fun w h => h.sublist (List.Sublist.cons_cons _ (List.Sublist.cons_cons _ (List.Sublist.cons_cons _ (List.Sublist.cons_cons _ (List.Sublist.cons_cons _ (List.Sublist.cons_cons _ (List.Sublist.cons_cons _ (List.Sublist.cons_cons _ (List.Sublist.refl _)))))))))) rfl rfl (by decide) (by decide) (by kernel_rfl) (by kernel_rfl) rfl (Ev.build (v := .agg (enc (OverR.mk ({ Over.zero with Hands := r12, Way := r32 } : Over) s65 s71)).toArray) (pv := [(0, Sl.v s65), (1, Sl.v s71)]) ⟨rfl, rfl, ⟨rfl, rfl, trivial⟩⟩ (run_buildStruct (places := #[(0, 1), (1, 1)]) Try.zeroValue124 (zs := enc (OverR.mk Over.zero Sl.nil Sl.nil)) rfl Try.runUnderlying124 (fun w => by kernel_rfl) (fill_cons (cs := enc (OverR.mk Over.zero Sl.nil Sl.nil)) (cs' := enc (OverR.mk ({ Over.zero with Hands := r12 } : Over) s65 Sl.nil)) (vs := [Sl.v s65]) rfl rfl rfl ((OverR.put_Hands (p := (OverR.mk Over.zero Sl.nil Sl.nil)) (y := s65) (Put.here (vs := [Sl.v s65]) rfl)).off rfl) (fill_cons (cs := enc (OverR.mk ({ Over.zero with Hands := r12 } : Over) s65 Sl.nil)) (cs' := enc (OverR.mk ({ Over.zero with Hands := r12, Way := r32 } : Over) s65 s71)) (vs := [Sl.v s71]) rfl rfl rfl ((OverR.put_Way (p := (OverR.mk ({ Over.zero with Hands := r12 } : Over) s65 Sl.nil)) (y := s71) (Put.here (vs := [Sl.v s71]) rfl)).off rfl) fill_nil)))) ?_
          refine HdJ.step [15] (by kernel_rfl) rfl ?_
          refine HdStep.cons (by decide) rfl (fun inv => ?_) ?_
          · refine Lst.addNil 135 3 ?_
            refine Lst.addNil 209 3 ?_
            refine Lst.alloc (cs := enc (OverR.mk ({ Over.zero with Hands := ([] : List Hand), Way := ([] : List Word) } : Over) Sl.nil Sl.nil)) rfl rfl (by decide) Try.zeroValue124 rfl (fun b74 => ?_)
            refine Lst.nil ?_
            refine At.hd inv (fun w h => (h.weaken (FLe.refl _)).sublist (List.Sublist.cons _ (List.Sublist.cons _ (List.Sublist.cons _ (List.Sublist.cons_cons _ (List.Sublist.cons_cons _ (List.Sublist.cons_cons _ (List.Sublist.cons_cons _ (List.Sublist.cons_cons _ (List.Sublist.cons_cons _ (List.Sublist.cons_cons _ (List.Sublist.cons_cons _ (List.Sublist.refl _))))))))))))) ?_
            refine HdJ.done (by kernel_rfl) ?_
            exact At.meetN (b74, Sl.nil, ([] : List Word), Sl.nil, ([] : List Hand), s71, r32, s68, ([m18, m23] : List (List Word)), ([(LR.mk m18 (s_a0_1.cut (0 : Int).toNat (a1 : Int).toNat 3)), (LR.mk m23 (s_a0_1.cut (w64 (a1 + (1 : Int)) : Int).toNat ((a0.Way.length : Int) : Int).toNat 3))] : List (LR Word)), s65, r12) (FLe.trans hF67 hF73) ⟨rfl, rfl, rfl, rfl, trivial⟩ rfl ⟨h58, hm69, (All.monoLR ha70 hF73 (List.Sublist.refl _))⟩
          exact trivial
        refine HdStep.cons (by decide) rfl (fun inv => ?_) ?_
        · refine Lst.addNil 135 3 ?_
          refine Lst.addNil 209 3 ?_
          refine Lst.alloc (cs := enc (OverR.mk ({ Over.zero with Hands := ([] : List Hand), Way := ([] : List Word) } : Over) Sl.nil Sl.nil)) rfl rfl (by decide) Try.zeroValue124 rfl (fun b75 => ?_)
          refine Lst.nil ?_
          refine At.hd inv (fun w h => (h.weaken hF67).sublist (List.Sublist.cons _ (List.Sublist.cons _ (List.Sublist.cons _ (List.Sublist.cons _ (List.Sublist.cons _ (List.Sublist.cons_cons _ (List.Sublist.cons_cons _ (List.Sublist.cons_cons _ (List.Sublist.cons_cons _ (List.Sublist.cons_cons _ (List.Sublist.refl _)))))))))))) ?_
          refine HdJ.step [13] (by kernel_rfl) rfl ?_
          refine HdStep.cons (by decide) rfl (fun inv => ?_) ?_
          · refine Lst.call rfl rfl (by decide) (vs := [Sl.v s68]) ⟨rfl, trivial⟩ Try.call164 (slices_Concat_api_Word_api_Word_sim h33 w0 _ _ _ (List.Sublist.refl _) hm69 (Rd.own (i := 3) rfl rfl rfl) (All.monoLR ha70 (FLe.refl _) (List.Sublist.cons _ (List.Sublist.cons _ (List.Sublist.cons _ (List.Sublist.cons _ (List.Sublist.cons _ (List.Sublist.cons _ (List.Sublist.cons _ (List.Sublist.cons _ (List.Sublist.cons _ (List.Sublist.cons _ hM)))))))))))) (fun F77 L' v hF78 hv => ?_)
            obtain ⟨s76, rfl, rfl⟩ := hv
            refine Lst.nil ?_
            refine At.hd inv (fun w h => (h.weaken (FLe.trans hF67 hF78)).sublist (List.Sublist.cons _ (List.Sublist.cons _ (List.Sublist.cons _ (List.Sublist.cons _ (List.Sublist.cons _ (List.Sublist.cons _ (List.Sublist.cons_cons _ (List.Sublist.cons_cons _ (List.Sublist.cons_cons _ (List.Sublist.cons_cons _ (List.Sublist.cons_cons _ (List.Sublist.refl _))))))))))))) ?_
            refine HdJ.keep (fun w => St w0 F77 ((.own s76 209 3 (encs r32)) :: (.blk b75 (enc (OverR.mk ({ Over.zero with Hands := ([] : List Hand), Way := ([] : List Word) } : Over) Sl.nil Sl.nil)) 124) :: (.own Sl.nil 209 3 (encs ([] : List Word))) :: (.own Sl.nil 135 3 (encs ([] : List Hand))) :: (.own s68 112 1 (encs ([(LR.mk m18 (s_a0_1.cut (0 : Int).toNat (a1 : Int).toNat 3)), (LR.mk m23 (s_a0_1.cut (w64 (a1 + (1 : Int)) : Int).toNat ((a0.Way.length : Int) : Int).toNat 3))] : List (LR Word)))) :: (.own s65 135 3 (encs r12)) :: (.blk b10 (enc x7) 209) :: (.blk b5 (enc (OverR.mk ({ Over.zero with Hands := ([] : List Hand), Way := ([] : List Word) } : Over) Sl.nil Sl.nil)) 124) :: (.own Sl.nil 209 3 (encs ([] : List Word))) :: (.own Sl.nil 135 3 (encs ([] : List Hand))) :: (.blk b1 (enc (OverR.mk a0 s_a0_0 s_a0_1)) 124) :: L) w) (fun w h => (h.weaken (FLe.trans hF67 hF78)).sublist (List.Sublist.cons _ (List.Sublist.cons _ (List.Sublist.cons _ (List.Sublist.cons _ (List.Sublist.cons _ (List.Sublist.cons _ (List.Sublist.cons_cons _ (List.Sublist.cons_cons _ (List.Sublist.cons_cons _ (List.Sublist.cons_cons _ (List.Sublist.cons_cons _ (List.Sublist.refl _))))))))))))) ?_
            refine HdJ.takeK hsel hlt 14 (fun w h => h.sublist (List.Sublist.cons_cons _ (List.Sublist.cons_cons _ (List.Sublist.cons_cons _ (List.Sublist.cons_cons _ (List.Sublist.cons_cons _ (List.Sublist.cons_cons _ (List.Sublist.cons_cons _ (List.Sublist.cons_cons _ (List.Sublist.cons_cons _ (List.Sublist.cons_cons _ (List.Sublist.cons_cons _ (List.Sublist.refl _))))))))))))) rfl rfl (by decide) (by decide) (by kernel_rfl) (by kernel_rfl) rfl (Ev.build (v := .agg (enc (OverR.mk ({ Over.zero with Hands := r12, Way := r32 } : Over) s65 s76)).toArray) (pv := [(0, Sl.v s65), (1, Sl.v s76)]) ⟨rfl, rfl, ⟨rfl, rfl, trivial⟩⟩ (run_buildStruct (places := #[(0, 1), (1, 1)]) Try.zeroValue124 (zs := enc (OverR.mk Over.zero Sl.nil Sl.nil)) rfl Try.runUnderlying124 (fun w => by kernel_rfl) (fill_cons (cs := enc (OverR.mk Over.zero Sl.nil Sl.nil)) (cs' := enc (OverR.mk ({ Over.zero with Hands := r12 } : Over) s65 Sl.nil)) (vs := [Sl.v s65]) rfl rfl rfl ((OverR.put_Hands (p := (OverR.mk Over.zero Sl.nil Sl.nil)) (y := s65) (Put.here (vs := [Sl.v s65]) rfl)).off rfl) (fill_cons (cs := enc (OverR.mk ({ Over.zero with Hands := r12 } : Over) s65 Sl.nil)) (cs' := enc (OverR.mk ({ Over.zero with Hands := r12, Way := r32 } : Over) s65 s76)) (vs := [Sl.v s76]) rfl rfl rfl ((OverR.put_Way (p := (OverR.mk ({ Over.zero with Hands := r12 } : Over) s65 Sl.nil)) (y := s76) (Put.here (vs := [Sl.v s76]) rfl)).off rfl) fill_nil)))) ?_
            refine HdJ.done (by kernel_rfl) ?_
            refine At.front (i := 10) rfl rfl ?_
            refine At.front (i := 10) rfl rfl ?_
            refine At.front (i := 10) rfl rfl ?_
            refine At.front (i := 10) rfl rfl ?_
            refine At.front (i := 10) rfl rfl ?_
            refine At.front (i := 10) rfl rfl ?_
            refine At.front (i := 10) rfl rfl ?_
            refine At.front (i := 7) rfl rfl ?_
            refine At.front (i := 10) rfl rfl ?_
            refine At.front (i := 10) rfl rfl ?_
            refine At.front (i := 10) rfl rfl ?_
            exact At.meetN (b75, Sl.nil, ([] : List Word), Sl.nil, ([] : List Hand), s76, r32, s68, ([m18, m23] : List (List Word)), ([(LR.mk m18 (s_a0_1.cut (0 : Int).toNat (a1 : Int).toNat 3)), (LR.mk m23 (s_a0_1.cut (w64 (a1 + (1 : Int)) : Int).toNat ((a0.Way.length : Int) : Int).toNat 3))] : List (LR Word)), s65, r12) (FLe.trans hF67 hF78) ⟨rfl, rfl, rfl, rfl, trivial⟩ rfl ⟨h58, hm69, (All.monoLR ha70 hF78 (List.Sublist.refl _))⟩
          exact trivial
        exact trivial
      refine HdStep.cons (by decide) rfl (fun inv => ?_) ?_
      · refine Lst.addNil 135 3 ?_
        refine Lst.addNil 209 3 ?_
        refine Lst.alloc (cs := enc (OverR.mk ({ Over.zero with Hands := ([] : List Hand), Way := ([] : List Word) } : Over) Sl.nil Sl.nil)) rfl rfl (by decide) Try.zeroValue124 rfl (fun b79 => ?_)
        refine Lst.nil ?_
        refine At.hd inv (fun w h => (h.weaken hF67).sublist (List.Sublist.cons _ (List.Sublist.cons _ (List.Sublist.cons _ (List.Sublist.cons _ (List.Sublist.cons_cons _ (List.Sublist.cons_cons _ (List.Sublist.cons_cons _ (List.Sublist.cons_cons _ (List.Sublist.cons_cons _ (List.Sublist.refl _))))))))))) ?_
        refine HdJ.step [12] (by kernel_rfl) rfl ?_
        refine HdStep.cons (by decide) rfl (fun inv => ?_) ?_
        · have hm81 : ([(LR.mk m18 (s_a0_1.cut (0 : Int).toNat (a1 : Int).toNat 3)), (LR.mk m23 (s_a0_1.cut (w64 (a1 + (1 : Int)) : Int).toNat ((a0.Way.length : Int) : Int).toNat 3))] : List (LR Word)).map LR.v = ([m18, m23] : List (List Word)) := rfl
          have ha82 : All LR.rel w0 F66 M ([(LR.mk m18 (s_a0_1.cut (0 : Int).toNat (a1 : Int).toNat 3)), (LR.mk m23 (s_a0_1.cut (w64 (a1 + (1 : Int)) : Int).toNat ((a0.Way.length : Int) : Int).toNat 3))] : List (LR Word)) := All.of2 (hq61.mono hF67 (List.Sublist.refl _)) (hq64.mono hF67 (List.Sublist.refl _))
          refine Lst.buildSlice (α := LR Word) (xs := ([(LR.mk m18 (s_a0_1.cut (0 : Int).toNat (a1 : Int).toNat 3)), (LR.mk m23 (s_a0_1.cut (w64 (a1 + (1 : Int)) : Int).toNat ((a0.Way.length : Int) : Int).toNat 3))] : List (LR Word))) (pv := [(0, Sl.v (s_a0_1.cut (0 : Int).toNat (a1 : Int).toNat 3)), (1, Sl.v (s_a0_1.cut (w64 (a1 + (1 : Int)) : Int).toNat ((a0.Way.length : Int) : Int).toNat 3))]) rfl rfl (by decide) ⟨rfl, rfl, ⟨rfl, rfl, trivial⟩⟩ (run_buildSlice (α := LR Word) (z0 := ((LR.mk [] Sl.nil) : LR Word)) (xs := ([(LR.mk m18 (s_a0_1.cut (0 : Int).toNat (a1 : Int).toNat 3)), (LR.mk m23 (s_a0_1.cut (w64 (a1 + (1 : Int)) : Int).toNat ((a0.Way.length : Int) : Int).toNat 3))] : List (LR Word))) Try.runUnderlying237 Try.sizeOf112 Try.zeroValue112 rfl rfl rfl (by decide) rfl (fill_cons (cs := encs (List.replicate 2 ((LR.mk [] Sl.nil) : LR Word))) (cs' := encs ((List.replicate 2 ((LR.mk [] Sl.nil) : LR Word)).set 0 (LR.mk m18 (s_a0_1.cut (0 : Int).toNat (a1 : Int).toNat 3)))) (vs := [Sl.v (s_a0_1.cut (0 : Int).toNat (a1 : Int).toNat 3)]) rfl rfl rfl ((Put.elemN (s := 1) (i := 0) (x := ((LR.mk [] Sl.nil) : LR Word)) (y := (LR.mk m18 (s_a0_1.cut (0 : Int).toNat (a1 : Int).toNat 3))) rfl rfl (Put.here (vs := [Sl.v (s_a0_1.cut (0 : Int).toNat (a1 : Int).toNat 3)]) rfl)).off rfl) (fill_cons (cs := encs ((List.replicate 2 ((LR.mk [] Sl.nil) : LR Word)).set 0 (LR.mk m18 (s_a0_1.cut (0 : Int).toNat (a1 : Int).toNat 3)))) (cs' := encs (((List.replicate 2 ((LR.mk [] Sl.nil) : LR Word)).set 0 (LR.mk m18 (s_a0_1.cut (0 : Int).toNat (a1 : Int).toNat 3))).set 1 (LR.mk m23 (s_a0_1.cut (w64 (a1 + (1 : Int)) : Int).toNat ((a0.Way.length : Int) : Int).toNat 3)))) (vs := [Sl.v (s_a0_1.cut (w64 (a1 + (1 : Int)) : Int).toNat ((a0.Way.length : Int) : Int).toNat 3)]) rfl rfl rfl ((Put.elemN (s := 1) (i := 1) (x := ((LR.mk [] Sl.nil) : LR Word)) (y := (LR.mk m23 (s_a0_1.cut (w64 (a1 + (1 : Int)) : Int).toNat ((a0.Way.length : Int) : Int).toNat 3))) rfl rfl (Put.here (vs := [Sl.v (s_a0_1.cut (w64 (a1 + (1 : Int)) : Int).toNat ((a0.Way.length : Int) : Int).toNat 3)]) rfl)).off rfl) fill_nil))) rfl rfl (by decide) (fun s80 _ => ?_)
          refine Lst.nil ?_
          refine At.hd inv (fun w h => (h.weaken hF67).sublist (List.Sublist.cons _ (List.Sublist.cons _ (List.Sublist.cons _ (List.Sublist.cons _ (List.Sublist.cons _ (List.Sublist.cons_cons _ (List.Sublist.cons_cons _ (List.Sublist.cons_cons _ (List.Sublist.cons_cons _ (List.Sublist.cons_cons _ (List.Sublist.refl _)))))))))))) ?_
          refine HdJ.step [13] (by kernel_rfl) rfl ?_
          refine HdStep.cons (by decide) rfl (fun inv => ?_) ?_
          · refine Lst.call rfl rfl (by decide) (vs := [Sl.v s80]) ⟨rfl, trivial⟩ Try.call164 (slices_Concat_api_Word_api_Word_sim h33 w0 _ _ _ (List.Sublist.refl _) hm81 (Rd.own (i := 0) rfl rfl rfl) (All.monoLR ha82 (FLe.refl _) (List.Sublist.cons _ (List.Sublist.cons _ (List.Sublist.cons _ (List.Sublist.cons _ (List.Sublist.cons _ (List.Sublist.cons _ (List.Sublist.cons _ (List.Sublist.cons _ (List.Sublist.cons _ (List.Sublist.cons _ hM)))))))))))) (fun F84 L' v hF85 hv => ?_)
            obtain ⟨s83, rfl, rfl⟩ := hv
            refine Lst.nil ?_
            refine At.hd inv (fun w h => (h.weaken (FLe.trans hF67 hF85)).sublist (List.Sublist.cons _ (List.Sublist.cons _ (List.Sublist.cons _ (List.Sublist.cons _ (List.Sublist.cons _ (List.Sublist.cons _ (List.Sublist.cons_cons _ (List.Sublist.cons_cons _ (List.Sublist.cons_cons _ (List.Sublist.cons_cons _ (List.Sublist.cons_cons _ (List.Sublist.refl _))))))))))))) ?_
            refine HdJ.keep (fun w => St w0 F84 ((.own s83 209 3 (encs r32)) :: (.own s80 112 1 (encs ([(LR.mk m18 (s_a0_1.cut (0 : Int).toNat (a1 : Int).toNat 3)), (LR.mk m23 (s_a0_1.cut (w64 (a1 + (1 : Int)) : Int).toNat ((a0.Way.length : Int) : Int).toNat 3))] : List (LR Word)))) :: (.blk b79 (enc (OverR.mk ({ Over.zero with Hands := ([] : List Hand), Way := ([] : List Word) } : Over) Sl.nil Sl.nil)) 124) :: (.own Sl.nil 209 3 (encs ([] : List Word))) :: (.own Sl.nil 135 3 (encs ([] : List Hand))) :: (.own s65 135 3 (encs r12)) :: (.blk b10 (enc x7) 209) :: (.blk b5 (enc (OverR.mk ({ Over.zero with Hands := ([] : List Hand), Way := ([] : List Word) } : Over) Sl.nil Sl.nil)) 124) :: (.own Sl.nil 209 3 (encs ([] : List Word))) :: (.own Sl.nil 135 3 (encs ([] : List Hand))) :: (.blk b1 (enc (OverR.mk a0 s_a0_0 s_a0_1)) 124) :: L) w) (fun w h => (h.weaken (FLe.trans hF67 hF85)).sublist (List.Sublist.cons _ (List.Sublist.cons _ (List.Sublist.cons _ (List.Sublist.cons _ (List.Sublist.cons _ (List.Sublist.cons _ (List.Sublist.cons_cons _ (List.Sublist.cons_cons _ (List.Sublist.cons_cons _ (List.Sublist.cons_cons _ (List.Sublist.cons_cons _ (List.Sublist.refl _))))))))))))) ?_
            refine HdJ.takeK hsel hlt 14 (fun w h => h.sublist (List.Sublist.cons_cons _ (List.Sublist.cons_cons _ (List.Sublist.cons_cons _ (List.Sublist.cons_cons _ (List.Sublist.cons_cons _ (List.Sublist.cons_cons _ (List.Sublist.cons_cons _ (List.Sublist.cons_cons _ (List.Sublist.cons_cons _ (List.Sublist.cons_cons _ (List.Sublist.cons_cons _ (List.Sublist.refl _))))))))))))) rfl rfl (by decide) (by decide) (by kernel_rfl) (by kernel_rfl) rfl (Ev.build (v := .agg (enc (OverR.mk ({ Over.zero with Hands := r12, Way := r32 } : Over) s65 s83)).toArray) (pv := [(0, Sl.v s65), (1, Sl.v s83)]) ⟨rfl, rfl, ⟨rfl, rfl, trivial⟩⟩ (run_buildStruct (places := #[(0, 1), (1, 1)]) Try.zeroValue124 (zs := enc (OverR.mk Over.zero Sl.nil Sl.nil)) rfl Try.runUnderlying124 (fun w => by kernel_rfl) (fill_cons (cs := enc (OverR.mk Over.zero Sl.nil Sl.nil)) (cs' := enc (OverR.mk ({ Over.zero with Hands := r12 } : Over) s65 Sl.nil)) (vs := [Sl.v s65]) rfl rfl rfl ((OverR.put_Hands (p := (OverR.mk Over.zero Sl.nil Sl.nil)) (y := s65) (Put.here (vs := [Sl.v s65]) rfl)).off rfl) (fill_cons (cs := enc (OverR.mk ({ Over.zero with Hands := r12 } : Over) s65 Sl.nil)) (cs' := enc (OverR.mk ({ Over.zero with Hands := r12, Way := r32 } : Over) s65 s83)) (vs := [Sl.v s83]) rfl rfl rfl ((OverR.put_Way (p := (OverR.mk ({ Over.zero with Hands := r12 } : Over) s65 Sl.nil)) (y := s83) (Put.here (vs := [Sl.v s83]) rfl)).off rfl) fill_nil)))) ?_
            refine HdJ.done (by kernel_rfl) ?_
            refine At.front (i := 10) rfl rfl ?_
            refine At.front (i := 10) rfl rfl ?_
            refine At.front (i := 10) rfl rfl ?_
            refine At.front (i := 10) rfl rfl ?_
            refine At.front (i := 10) rfl rfl ?_
            refine At.front (i := 10) rfl rfl ?_
            refine At.front (i := 7) rfl rfl ?_
            refine At.front (i := 7) rfl rfl ?_
            refine At.front (i := 10) rfl rfl ?_
            refine At.front (i := 10) rfl rfl ?_
            refine At.front (i := 10) rfl rfl ?_
            exact At.meetN (b79, Sl.nil, ([] : List Word), Sl.nil, ([] : List Hand), s83, r32, s80, ([m18, m23] : List (List Word)), ([(LR.mk m18 (s_a0_1.cut (0 : Int).toNat (a1 : Int).toNat 3)), (LR.mk m23 (s_a0_1.cut (w64 (a1 + (1 : Int)) : Int).toNat ((a0.Way.length : Int) : Int).toNat 3))] : List (LR Word)), s65, r12) (FLe.trans hF67 hF85) ⟨rfl, rfl, rfl, rfl, trivial⟩ rfl ⟨h58, hm81, (All.monoLR ha82 hF85 (List.Sublist.refl _))⟩
          exact trivial
        exact trivial
      exact trivial
    refine HdStep.cons (by decide) rfl (fun inv => ?_) ?_
    · have hm87 : ([(LR.mk m18 (s_a0_1.cut (0 : Int).toNat (a1 : Int).toNat 3)), (LR.mk m23 (s_a0_1.cut (w64 (a1 + (1 : Int)) : Int).toNat ((a0.Way.length : Int) : Int).toNat 3))] : List (LR Word)).map LR.v = ([m18, m23] : List (List Word)) := rfl
      have ha88 : All LR.rel w0 F M ([(LR.mk m18 (s_a0_1.cut (0 : Int).toNat (a1 : Int).toNat 3)), (LR.mk m23 (s_a0_1.cut (w64 (a1 + (1 : Int)) : Int).toNat ((a0.Way.length : Int) : Int).toNat 3))] : List (LR Word)) := All.of2 (hq61.mono (FLe.refl _) (List.Sublist.refl _)) (hq64.mono (FLe.refl _) (List.Sublist.refl _))
      refine Lst.buildSlice (α := LR Word) (xs := ([(LR.mk m18 (s_a0_1.cut (0 : Int).toNat (a1 : Int).toNat 3)), (LR.mk m23 (s_a0_1.cut (w64 (a1 + (1 : Int)) : Int).toNat ((a0.Way.length : Int) : Int).toNat 3))] : List (LR Word))) (pv := [(0, Sl.v (s_a0_1.cut (0 : Int).toNat (a1 : Int).toNat 3)), (1, Sl.v (s_a0_1.cut (w64 (a1 + (1 : Int)) : Int).toNat ((a0.Way.length : Int) : Int).toNat 3))]) rfl rfl (by decide) ⟨rfl, rfl, ⟨rfl, rfl, trivial⟩⟩ (run_buildSlice (α := LR Word) (z0 := ((LR.mk [] Sl.nil) : LR Word)) (xs := ([(LR.mk m18 (s_a0_1.cut (0 : Int).toNat (a1 : Int).toNat 3)), (LR.mk m23 (s_a0_1.cut (w64 (a1 + (1 : Int)) : Int).toNat ((a0.Way.length : Int) : Int).toNat 3))] : List (LR Word))) Try.runUnderlying237 Try.sizeOf112 Try.zeroValue112 rfl rfl rfl (by decide) rfl (fill_cons (cs := encs (List.replicate 2 ((LR.mk [] Sl.nil) : LR Word))) (cs' := encs ((List.replicate 2 ((LR.mk [] Sl.nil) : LR Word)).set 0 (LR.mk m18 (s_a0_1.cut (0 : Int).toNat (a1 : Int).toNat 3)))) (vs := [Sl.v (s_a0_1.cut (0 : Int).toNat (a1 : Int).toNat 3)]) rfl rfl rfl ((Put.elemN (s := 1) (i := 0) (x := ((LR.mk [] Sl.nil) : LR Word)) (y := (LR.mk m18 (s_a0_1.cut (0 : Int).toNat (a1 : Int).toNat 3))) rfl rfl (Put.here (vs := [Sl.v (s_a0_1.cut (0 : Int).toNat (a1 : Int).toNat 3)]) rfl)).off rfl) (fill_cons (cs := encs ((List.replicate 2 ((LR.mk [] Sl.nil) : LR Word)).set 0 (LR.mk m18 (s_a0_1.cut (0 : Int).toNat (a1 : Int).toNat 3)))) (cs' := encs (((List.replicate 2 ((LR.mk [] Sl.nil) : LR Word)).set 0 (LR.mk m18 (s_a0_1.cut (0 : Int).toNat (a1 : Int).toNat 3))).set 1 (LR.mk m23 (s_a0_1.cut (w64 (a1 + (1 : Int)) : Int).toNat ((a0.Way.length : Int) : Int).toNat 3)))) (vs := [Sl.v (s_a0_1.cut (w64 (a1 + (1 : Int)) : Int).toNat ((a0.Way.length : Int) : Int).toNat 3)]) rfl rfl rfl ((Put.elemN (s := 1) (i := 1) (x := ((LR.mk [] Sl.nil) : LR Word)) (y := (LR.mk m23 (s_a0_1.cut (w64 (a1 + (1 : Int)) : Int).toNat ((a0.Way.length : Int) : Int).toNat 3))) rfl rfl (Put.here (vs := [Sl.v (s_a0_1.cut (w64 (a1 + (1 : Int)) : Int).toNat ((a0.Way.length : Int) : Int).toNat 3)]) rfl)).off rfl) fill_nil))) rfl rfl (by decide) (fun s86 _ => ?_)
      refine Lst.nil ?_
      refine At.hd inv (fun w h => (h.weaken (FLe.refl _)).sublist (List.Sublist.cons _ (List.Sublist.cons_cons _ (List.Sublist.cons_cons _ (List.Sublist.cons_cons _ (List.Sublist.cons_cons _ (List.Sublist.cons_cons _ (List.Sublist.refl _)))))))) ?_
      refine HdJ.step [2, 15] (by kernel_rfl) rfl ?_
      refine HdStep.cons (by decide) rfl (fun inv => ?_) ?_
      · refine Lst.call rfl rfl (by decide) (vs := [Sl.v s_a0_0]) ⟨rfl, trivial⟩ Try.call171 (slices_Clone_api_Hand_api_Hand_sim h13 w0 _ M _ (List.Sublist.cons _ (List.Sublist.cons _ (List.Sublist.cons _ (List.Sublist.cons _ (List.Sublist.cons _ (List.Sublist.cons _ hM)))))) (hs_a0_0.mono (FLe.refl _) (List.Sublist.refl _))) (fun F90 L' v hF91 hv => ?_)
        obtain ⟨s89, rfl, rfl⟩ := hv
        refine Lst.nil ?_
        refine At.hd inv (fun w h => (h.weaken hF91).sublist (List.Sublist.cons _ (List.Sublist.cons _ (List.Sublist.cons_cons _ (List.Sublist.cons_cons _ (List.Sublist.cons_cons _ (List.Sublist.cons_cons _ (List.Sublist.cons_cons _ (List.Sublist.refl _))))))))) ?_
        refine HdJ.step [13, 15] (by kernel_rfl) rfl ?_
        refine HdStep.cons (by decide) rfl (fun inv => ?_) ?_
        · refine Lst.call rfl rfl (by decide) (vs := [Sl.v s86]) ⟨rfl, trivial⟩ Try.call164 (slices_Concat_api_Word_api_Word_sim h33 w0 _ _ _ (List.Sublist.refl _) hm87 (Rd.own (i := 1) rfl rfl rfl) (All.monoLR ha88 hF91 (List.Sublist.cons _ (List.Sublist.cons _ (List.Sublist.cons _ (List.Sublist.cons _ (List.Sublist.cons _ (List.Sublist.cons _ (List.Sublist.cons _ hM))))))))) (fun F93 L' v hF94 hv => ?_)
          obtain ⟨s92, rfl, rfl⟩ := hv
          refine Lst.nil ?_
          refine At.hd inv (fun w h => (h.weaken (FLe.trans hF91 hF94)).sublist (List.Sublist.cons _ (List.Sublist.cons _ (List.Sublist.cons _ (List.Sublist.cons_cons _ (List.Sublist.cons_cons _ (List.Sublist.cons_cons _ (List.Sublist.cons_cons _ (List.Sublist.cons_cons _ (List.Sublist.refl _)))))))))) ?_
          refine HdJ.keep (fun w => St w0 F93 ((.own s92 209 3 (encs r32)) :: (.own s89 135 3 (encs r12)) :: (.own s86 112 1 (encs ([(LR.mk m18 (s_a0_1.cut (0 : Int).toNat (a1 : Int).toNat 3)), (LR.mk m23 (s_a0_1.cut (w64 (a1 + (1 : Int)) : Int).toNat ((a0.Way.length : Int) : Int).toNat 3))] : List (LR Word)))) :: (.blk b10 (enc x7) 209) :: (.blk b5 (enc (OverR.mk ({ Over.zero with Hands := ([] : List Hand), Way := ([] : List Word) } : Over) Sl.nil Sl.nil)) 124) :: (.own Sl.nil 209 3 (encs ([] : List Word))) :: (.own Sl.nil 135 3 (encs ([] : List Hand))) :: (.blk b1 (enc (OverR.mk a0 s_a0_0 s_a0_1)) 124) :: L) w) (fun w h => (h.weaken (FLe.trans hF91 hF94)).sublist (List.Sublist.cons _ (List.Sublist.cons _ (List.Sublist.cons _ (List.Sublist.cons_cons _ (List.Sublist.cons_cons _ (List.Sublist.cons_cons _ (List.Sublist.cons_cons _ (List.Sublist.cons_cons _ (List.Sublist.refl _)))))))))) ?_
          refine HdJ.takeK hsel hlt 14 (fun w h => h.sublist (List.Sublist.cons_cons _ (List.Sublist.cons_cons _ (List.Sublist.cons_cons _ (List.Sublist.cons_cons _ (List.Sublist.cons_cons _ (List.Sublist.cons_cons _ (List.Sublist.cons_cons _ (List.Sublist.cons_cons _ (List.Sublist.refl _)))))))))) rfl rfl (by decide) (by decide) (by kernel_rfl) (by kernel_rfl) rfl (Ev.build (v := .agg (enc (OverR.mk ({ Over.zero with Hands := r12, Way := r32 } : Over) s89 s92)).toArray) (pv := [(0, Sl.v s89), (1, Sl.v s92)]) ⟨rfl, rfl, ⟨rfl, rfl, trivial⟩⟩ (run_buildStruct (places := #[(0, 1), (1, 1)]) Try.zeroValue124 (zs := enc (OverR.mk Over.zero Sl.nil Sl.nil)) rfl Try.runUnderlying124 (fun w => by kernel_rfl) (fill_cons (cs := enc (OverR.mk Over.zero Sl.nil Sl.nil)) (cs' := enc (OverR.mk ({ Over.zero with Hands := r12 } : Over) s89 Sl.nil)) (vs := [Sl.v s89]) rfl rfl rfl ((OverR.put_Hands (p := (OverR.mk Over.zero Sl.nil Sl.nil)) (y := s89) (Put.here (vs := [Sl.v s89]) rfl)).off rfl) (fill_cons (cs := enc (OverR.mk ({ Over.zero with Hands := r12 } : Over) s89 Sl.nil)) (cs' := enc (OverR.mk ({ Over.zero with Hands := r12, Way := r32 } : Over) s89 s92)) (vs := [Sl.v s92]) rfl rfl rfl ((OverR.put_Way (p := (OverR.mk ({ Over.zero with Hands := r12 } : Over) s89 Sl.nil)) (y := s92) (Put.here (vs := [Sl.v s92]) rfl)).off rfl) fill_nil)))) ?_
          refine HdJ.step [15] (by kernel_rfl) rfl ?_
          refine HdStep.cons (by decide) rfl (fun inv => ?_) ?_
          · refine Lst.addNil 135 3 ?_
            refine Lst.addNil 209 3 ?_
            refine Lst.alloc (cs := enc (OverR.mk ({ Over.zero with Hands := ([] : List Hand), Way := ([] : List Word) } : Over) Sl.nil Sl.nil)) rfl rfl (by decide) Try.zeroValue124 rfl (fun b95 => ?_)
            refine Lst.nil ?_
            refine At.hd inv (fun w h => (h.weaken (FLe.refl _)).sublist (List.Sublist.cons _ (List.Sublist.cons _ (List.Sublist.cons _ (List.Sublist.cons_cons _ (List.Sublist.cons_cons _ (List.Sublist.cons_cons _ (List.Sublist.cons_cons _ (List.Sublist.cons_cons _ (List.Sublist.cons_cons _ (List.Sublist.cons_cons _ (List.Sublist.cons_cons _ (List.Sublist.refl _))))))))))))) ?_
            refine HdJ.done (by kernel_rfl) ?_
            refine At.front (i := 10) rfl rfl ?_
            refine At.front (i := 10) rfl rfl ?_
            refine At.front (i := 10) rfl rfl ?_
            refine At.front (i := 10) rfl rfl ?_
            refine At.front (i := 10) rfl rfl ?_
            refine At.front (i := 9) rfl rfl ?_
            refine At.front (i := 10) rfl rfl ?_
            refine At.front (i := 10) rfl rfl ?_
            refine At.front (i := 10) rfl rfl ?_
            refine At.front (i := 10) rfl rfl ?_
            refine At.front (i := 10) rfl rfl ?_
            exact At.meetN (b95, Sl.nil, ([] : List Word), Sl.nil, ([] : List Hand), s92, r32, s86, ([m18, m23] : List (List Word)), ([(LR.mk m18 (s_a0_1.cut (0 : Int).toNat (a1 : Int).toNat 3)), (LR.mk m23 (s_a0_1.cut (w64 (a1 + (1 : Int)) : Int).toNat ((a0.Way.length : Int) : Int).toNat 3))] : List (LR Word)), s89, r12) (FLe.trans hF91 hF94) ⟨rfl, rfl, rfl, rfl, trivial⟩ rfl ⟨h58, hm87, (All.monoLR ha88 (FLe.trans hF91 hF94) (List.Sublist.refl _))⟩
          exact trivial
        refine HdStep.cons (by decide) rfl (fun inv => ?_) ?_
        · refine Lst.addNil 135 3 ?_
          refine Lst.addNil 209 3 ?_
          refine Lst.alloc (cs := enc (OverR.mk ({ Over.zero with Hands := ([] : List Hand), Way := ([] : List Word) } : Over) Sl.nil Sl.nil)) rfl rfl (by decide) Try.zeroValue124 rfl (fun b96 => ?_)
          refine Lst.nil ?_
          refine At.hd inv (fun w h => (h.weaken hF91).sublist (List.Sublist.cons _ (List.Sublist.cons _ (List.Sublist.cons _ (List.Sublist.cons _ (List.Sublist.cons _ (List.Sublist.cons_cons _ (List.Sublist.cons_cons _ (List.Sublist.cons_cons _ (List.Sublist.cons_cons _ (List.Sublist.cons_cons _ (List.Sublist.refl _)))))))))))) ?_
          refine HdJ.step [13] (by kernel_rfl) rfl ?_
          refine HdStep.cons (by decide) rfl (fun inv => ?_) ?_
          · refine Lst.call rfl rfl (by decide) (vs := [Sl.v s86]) ⟨rfl, trivial⟩ Try.call164 (slices_Concat_api_Word_api_Word_sim h33 w0 _ _ _ (List.Sublist.refl _) hm87 (Rd.own (i := 4) rfl rfl rfl) (All.monoLR ha88 hF91 (List.Sublist.cons _ (List.Sublist.cons _ (List.Sublist.cons _ (List.Sublist.cons _ (List.Sublist.cons _ (List.Sublist.cons _ (List.Sublist.cons _ (List.Sublist.cons _ (List.Sublist.cons _ (List.Sublist.cons _ hM)))))))))))) (fun F98 L' v hF99 hv => ?_)
            obtain ⟨s97, rfl, rfl⟩ := hv
            refine Lst.nil ?_
            refine At.hd inv (fun w h => (h.weaken (FLe.trans hF91 hF99)).sublist (List.Sublist.cons _ (List.Sublist.cons _ (List.Sublist.cons _ (List.Sublist.cons _ (List.Sublist.cons _ (List.Sublist.cons _ (List.Sublist.cons_cons _ (List.Sublist.cons_cons _ (List.Sublist.cons_cons _ (List.Sublist.cons_cons _ (List.Sublist.cons_cons _ (List.Sublist.refl _))))))))))))) ?_
            refine HdJ.keep (fun w => St w0 F98 ((.own s97 209 3 (encs r32)) :: (.blk b96 (enc (OverR.mk ({ Over.zero with Hands := ([] : List Hand), Way := ([] : List Word) } : Over) Sl.nil Sl.nil)) 124) :: (.own Sl.nil 209 3 (encs ([] : List Word))) :: (.own Sl.nil 135 3 (encs ([] : List Hand))) :: (.own s89 135 3 (encs r12)) :: (.own s86 112 1 (encs ([(LR.mk m18 (s_a0_1.cut (0 : Int).toNat (a1 : Int).toNat 3)), (LR.mk m23 (s_a0_1.cut (w64 (a1 + (1 : Int)) : Int).toNat ((a0.Way.length : Int) : Int).toNat 3))] : List (LR Word)))) :: (.blk b10 (enc x7) 209) :: (.blk b5 (enc (OverR.mk ({ Over.zero with Hands := ([] : List Hand), Way := ([] : List Word) } : Over) Sl.nil Sl.nil)) 124) :: (.own Sl.nil 209 3 (encs ([] : List Word))) :: (.own Sl.nil 135 3 (encs ([] : List Hand))) :: (.blk b1 (enc (OverR.mk a0 s_a0_0 s_a0_1)) 124) :: L) w) (fun w h => (h.weaken (FLe.trans hF91 hF99)).sublist (List.Sublist.cons _ (List.Sublist.cons _ (List.Sublist.cons _ (List.Sublist.cons _ (List.Sublist.cons _ (List.Sublist.cons _ (List.Sublist.cons_cons _ (List.Sublist.cons_cons _ (List.Sublist.cons_cons _ (List.Sublist.cons_cons _ (List.Sublist.cons_cons _ (List.Sublist.refl _))))))))))))) ?_
            refine HdJ.takeK hsel hlt 14 (fun w h => h.sublist (List.Sublist.cons_cons _ (List.Sublist.cons_cons _ (List.Sublist.cons_cons _ (List.Sublist.cons_cons _ (List.Sublist.cons_cons _ (List.Sublist.cons_cons _ (List.Sublist.cons_cons _ (List.Sublist.cons_cons _ (List.Sublist.cons_cons _ (List.Sublist.cons_cons _ (List.Sublist.cons_cons _ (List.Sublist.refl _))))))))))))) rfl rfl (by decide) (by decide) (by kernel_rfl) (by kernel_rfl) rfl (Ev.build (v := .agg (enc (OverR.mk ({ Over.zero with Hands := r12, Way := r32 } : Over) s89 s97)).toArray) (pv := [(0, Sl.v s89), (1, Sl.v s97)]) ⟨rfl, rfl, ⟨rfl, rfl, trivial⟩⟩ (run_buildStruct (places := #[(0, 1), (1, 1)]) Try.zeroValue124 (zs := enc (OverR.mk Over.zero Sl.nil Sl.nil)) rfl Try.runUnderlying124 (fun w => by kernel_rfl) (fill_cons (cs := enc (OverR.mk Over.zero Sl.nil Sl.nil)) (cs' := enc (OverR.mk ({ Over.zero with Hands := r12 } : Over) s89 Sl.nil)) (vs := [Sl.v s89]) rfl rfl rfl ((OverR.put_Hands (p := (OverR.mk Over.zero Sl.nil Sl.nil)) (y := s89) (Put.here (vs := [Sl.v s89]) rfl)).off rfl) (fill_cons (cs := enc (OverR.mk ({ Over.zero with Hands := r12 } : Over) s89 Sl.nil)) (cs' := enc (OverR.mk ({ Over.zero with Hands := r12, Way := r32 } : Over) s89 s97)) (vs := [Sl.v s97]) rfl rfl rfl ((OverR.put_Way (p := (OverR.mk ({ Over.zero with Hands := r12 } : Over) s89 Sl.nil)) (y := s97) (Put.here (vs := [Sl.v s97]) rfl)).off rfl) fill_nil)))) ?_
            refine HdJ.done (by kernel_rfl) ?_
            refine At.front (i := 10) rfl rfl ?_
            refine At.front (i := 10) rfl rfl ?_
            refine At.front (i := 10) rfl rfl ?_
            refine At.front (i := 10) rfl rfl ?_
            refine At.front (i := 10) rfl rfl ?_
            refine At.front (i := 9) rfl rfl ?_
            refine At.front (i := 10) rfl rfl ?_
            refine At.front (i := 7) rfl rfl ?_
            refine At.front (i := 10) rfl rfl ?_
            refine At.front (i := 10) rfl rfl ?_
            refine At.front (i := 10) rfl rfl ?_
            exact At.meetN (b96, Sl.nil, ([] : List Word), Sl.nil, ([] : List Hand), s97, r32, s86, ([m18, m23] : List (List Word)), ([(LR.mk m18 (s_a0_1.cut (0 : Int).toNat (a1 : Int).toNat 3)), (LR.mk m23 (s_a0_1.cut (w64 (a1 + (1 : Int)) : Int).toNat ((a0.Way.length : Int) : Int).toNat 3))] : List (LR Word)), s89, r12) (FLe.trans hF91 hF99) ⟨rfl, rfl, rfl, rfl, trivial⟩ rfl ⟨h58, hm87, (All.monoLR ha88 (FLe.trans hF91 hF99) (List.Sublist.refl _))⟩
          exact trivial
        exact trivial
      refine HdStep.cons (by decide) rfl (fun inv => ?_) ?_
      · refine Lst.addNil 135 3 ?_
        refine Lst.addNil 209 3 ?_
        refine Lst.alloc (cs := enc (OverR.mk ({ Over.zero with Hands := ([] : List Hand), Way := ([] : List Word) } : Over) Sl.nil Sl.nil)) rfl rfl (by decide) Try.zeroValue124 rfl (fun b100 => ?_)
        refine Lst.nil ?_
        refine At.hd inv (fun w h => (h.weaken (FLe.refl _)).sublist (List.Sublist.cons _ (List.Sublist.cons _ (List.Sublist.cons _ (List.Sublist.cons _ (List.Sublist.cons_cons _ (List.Sublist.cons_cons _ (List.Sublist.cons_cons _ (List.Sublist.cons_cons _ (List.Sublist.cons_cons _ (List.Sublist.refl _))))))))))) ?_
        refine HdJ.step [2] (by kernel_rfl) rfl ?_
        refine HdStep.cons (by decide) rfl (fun inv => ?_) ?_
        · refine Lst.call rfl rfl (by decide) (vs := [Sl.v s_a0_0]) ⟨rfl, trivial⟩ Try.call171 (slices_Clone_api_Hand_api_Hand_sim h13 w0 _ M _ (List.Sublist.cons _ (List.Sublist.cons _ (List.Sublist.cons _ (List.Sublist.cons _ (List.Sublist.cons _ (List.Sublist.cons _ (List.Sublist.cons _ (List.Sublist.cons _ (List.Sublist.cons _ hM))))))))) (hs_a0_0.mono (FLe.refl _) (List.Sublist.refl _))) (fun F102 L' v hF103 hv => ?_)
          obtain ⟨s101, rfl, rfl⟩ := hv
          refine Lst.nil ?_
          refine At.hd inv (fun w h => (h.weaken hF103).sublist (List.Sublist.cons _ (List.Sublist.cons _ (List.Sublist.cons _ (List.Sublist.cons _ (List.Sublist.cons _ (List.Sublist.cons_cons _ (List.Sublist.cons_cons _ (List.Sublist.cons_cons _ (List.Sublist.cons_cons _ (List.Sublist.cons_cons _ (List.Sublist.refl _)))))))))))) ?_
          refine HdJ.step [13] (by kernel_rfl) rfl ?_
          refine HdStep.cons (by decide) rfl (fun inv => ?_) ?_
          · refine Lst.call rfl rfl (by decide) (vs := [Sl.v s86]) ⟨rfl, trivial⟩ Try.call164 (slices_Concat_api_Word_api_Word_sim h33 w0 _ _ _ (List.Sublist.refl _) hm87 (Rd.own (i := 4) rfl rfl rfl) (All.monoLR ha88 hF103 (List.Sublist.cons _ (List.Sublist.cons _ (List.Sublist.cons _ (List.Sublist.cons _ (List.Sublist.cons _ (List.Sublist.cons _ (List.Sublist.cons _ (List.Sublist.cons _ (List.Sublist.cons _ (List.Sublist.cons _ hM)))))))))))) (fun F105 L' v hF106 hv => ?_)
            obtain ⟨s104, rfl, rfl⟩ := hv
            refine Lst.nil ?_
            refine At.hd inv (fun w h => (h.weaken (FLe.trans hF103 hF106)).sublist (List.Sublist.cons _ (List.Sublist.cons _ (List.Sublist.cons _ (List.Sublist.cons _ (List.Sublist.cons _ (List.Sublist.cons _ (List.Sublist.cons_cons _ (List.Sublist.cons_cons _ (List.Sublist.cons_cons _ (List.Sublist.cons_cons _ (List.Sublist.cons_cons _ (List.Sublist.refl _))))))))))))) ?_
            refine HdJ.keep (fun w => St w0 F105 ((.own s104 209 3 (encs r32)) :: (.own s101 135 3 (encs r12)) :: (.blk b100 (enc (OverR.mk ({ Over.zero with Hands := ([] : List Hand), Way := ([] : List Word) } : Over) Sl.nil Sl.nil)) 124) :: (.own Sl.nil 209 3 (encs ([] : List Word))) :: (.own Sl.nil 135 3 (encs ([] : List Hand))) :: (.own s86 112 1 (encs ([(LR.mk m18 (s_a0_1.cut (0 : Int).toNat (a1 : Int).toNat 3)), (LR.mk m23 (s_a0_1.cut (w64 (a1 + (1 : Int)) : Int).toNat ((a0.Way.length : Int) : Int).toNat 3))] : List (LR Word)))) :: (.blk b10 (enc x7) 209) :: (.blk b5 (enc (OverR.mk ({ Over.zero with Hands := ([] : List Hand), Way := ([] : List Word) } : Over) Sl.nil Sl.nil)) 124) :: (.own Sl.nil 209 3 (encs ([] : List Word))) :: (.own Sl.nil 135 3 (encs ([] : List Hand))) :: (.blk b1 (enc (OverR.mk a0 s_a0_0 s_a0_1)) 124) :: L) w) (fun w h => (h.weaken (FLe.trans hF103 hF106)).sublist (List.Sublist.cons _ (List.Sublist.cons _ (List.Sublist.cons _ (List.Sublist.cons _ (List.Sublist.cons _ (List.Sublist.cons _ (List.Sublist.cons_cons _ (List.Sublist.cons_cons _ (List.Sublist.cons_cons _ (List.Sublist.cons_cons _ (List.Sublist.cons_cons _ (List.Sublist.refl _))))))))))))) ?_
            refine HdJ.takeK hsel hlt 14 (fun w h => h.sublist (List.Sublist.cons_cons _ (List.Sublist.cons_cons _ (List.Sublist.cons_cons _ (List.Sublist.cons_cons _ (List.Sublist.cons_cons _ (List.Sublist.cons_cons _ (List.Sublist.cons_cons _ (List.Sublist.cons_cons _ (List.Sublist.cons_cons _ (List.Sublist.cons_cons _ (List.Sublist.cons_cons _ (List.Sublist.refl _))))))))))))) rfl rfl (by decide) (by decide) (by kernel_rfl) (by kernel_rfl) rfl (Ev.build (v := .agg (enc (OverR.mk ({ Over.zero with Hands := r12, Way := r32 } : Over) s101 s104)).toArray) (pv := [(0, Sl.v s101), (1, Sl.v s104)]) ⟨rfl, rfl, ⟨rfl, rfl, trivial⟩⟩ (run_buildStruct (places := #[(0, 1), (1, 1)]) Try.zeroValue124 (zs := enc (OverR.mk Over.zero Sl.nil Sl.nil)) rfl Try.runUnderlying124 (fun w => by kernel_rfl) (fill_cons (cs := enc (OverR.mk Over.zero Sl.nil Sl.nil)) (cs' := enc (OverR.mk ({ Over.zero with Hands := r12 } : Over) s101 Sl.nil)) (vs := [Sl.v s101]) rfl rfl rfl ((OverR.put_Hands (p := (OverR.mk Over.zero Sl.nil Sl.nil)) (y := s101) (Put.here (vs := [Sl.v s101]) rfl)).off rfl) (fill_cons (cs := enc (OverR.mk ({ Over.zero with Hands := r12 } : Over) s101 Sl.nil)) (cs' := enc (OverR.mk ({ Over.zero with Hands := r12, Way := r32 } : Over) s101 s104)) (vs := [Sl.v s104]) rfl rfl rfl ((OverR.put_Way (p := (OverR.mk ({ Over.zero with Hands := r12 } : Over) s101 Sl.nil)) (y := s104) (Put.here (vs := [Sl.v s104]) rfl)).off rfl) fill_nil)))) ?_
            refine HdJ.done (by kernel_rfl) ?_
            refine At.front (i := 10) rfl rfl ?_
            refine At.front (i := 10) rfl rfl ?_
            refine At.front (i := 10) rfl rfl ?_
            refine At.front (i := 10) rfl rfl ?_
            refine At.front (i := 10) rfl rfl ?_
            refine At.front (i := 6) rfl rfl ?_
            refine At.front (i := 10) rfl rfl ?_
            refine At.front (i := 7) rfl rfl ?_
            refine At.front (i := 10) rfl rfl ?_
            refine At.front (i := 10) rfl rfl ?_
            refine At.front (i := 10) rfl rfl ?_
            exact At.meetN (b100, Sl.nil, ([] : List Word), Sl.nil, ([] : List Hand), s104, r32, s86, ([m18, m23] : List (List Word)), ([(LR.mk m18 (s_a0_1.cut (0 : Int).toNat (a1 : Int).toNat 3)), (LR.mk m23 (s_a0_1.cut (w64 (a1 + (1 : Int)) : Int).toNat ((a0.Way.length : Int) : Int).toNat 3))] : List (LR Word)), s101, r12) (FLe.trans hF103 hF106) ⟨rfl, rfl, rfl, rfl, trivial⟩ rfl ⟨h58, hm87, (All.monoLR ha88 (FLe.trans hF103 hF106) (List.Sublist.refl _))⟩
          exact trivial
        exact trivial
      exact trivial
    refine HdStep.cons (by decide) rfl (fun inv => ?_) ?_
    · refine Lst.addNil 135 3 ?_
      refine Lst.addNil 209 3 ?_
      refine Lst.alloc (cs := enc (OverR.mk ({ Over.zero with Hands := ([] : List Hand), Way := ([] : List Word) } : Over) Sl.nil Sl.nil)) rfl rfl (by decide) Try.zeroValue124 rfl (fun b107 => ?_)
      refine Lst.nil ?_
      refine At.hd inv (fun w h => (h.weaken (FLe.refl _)).sublist (List.Sublist.cons _ (List.Sublist.cons _ (List.Sublist.cons _ (List.Sublist.cons_cons _ (List.Sublist.cons_cons _ (List.Sublist.cons_cons _ (List.Sublist.cons_cons _ (List.Sublist.cons_cons _ (List.Sublist.refl _)))))))))) ?_
      refine HdJ.step [2, 12] (by kernel_rfl) rfl ?_
      refine HdStep.cons (by decide) rfl (fun inv => ?_) ?_
      · refine Lst.call rfl rfl (by decide) (vs := [Sl.v s_a0_0]) ⟨rfl, trivial⟩ Try.call171 (slices_Clone_api_Hand_api_Hand_sim h13 w0 _ M _ (List.Sublist.cons _ (List.Sublist.cons _ (List.Sublist.cons _ (List.Sublist.cons _ (List.Sublist.cons _ (List.Sublist.cons _ (List.Sublist.cons _ (List.Sublist.cons _ hM)))))))) (hs_a0_0.mono (FLe.refl _) (List.Sublist.refl _))) (fun F109 L' v hF110 hv => ?_)
        obtain ⟨s108, rfl, rfl⟩ := hv
        refine Lst.nil ?_
        refine At.hd inv (fun w h => (h.weaken hF110).sublist (List.Sublist.cons _ (List.Sublist.cons _ (List.Sublist.cons _ (List.Sublist.cons _ (List.Sublist.cons_cons _ (List.Sublist.cons_cons _ (List.Sublist.cons_cons _ (List.Sublist.cons_cons _ (List.Sublist.cons_cons _ (List.Sublist.refl _))))))))))) ?_
        refine HdJ.step [12] (by kernel_rfl) rfl ?_
        refine HdStep.cons (by decide) rfl (fun inv => ?_) ?_
        · have hm112 : ([(LR.mk m18 (s_a0_1.cut (0 : Int).toNat (a1 : Int).toNat 3)), (LR.mk m23 (s_a0_1.cut (w64 (a1 + (1 : Int)) : Int).toNat ((a0.Way.length : Int) : Int).toNat 3))] : List (LR Word)).map LR.v = ([m18, m23] : List (List Word)) := rfl
          have ha113 : All LR.rel w0 F109 M ([(LR.mk m18 (s_a0_1.cut (0 : Int).toNat (a1 : Int).toNat 3)), (LR.mk m23 (s_a0_1.cut (w64 (a1 + (1 : Int)) : Int).toNat ((a0.Way.length : Int) : Int).toNat 3))] : List (LR Word)) := All.of2 (hq61.mono hF110 (List.Sublist.refl _)) (hq64.mono hF110 (List.Sublist.refl _))
          refine Lst.buildSlice (α := LR Word) (xs := ([(LR.mk m18 (s_a0_1.cut (0 : Int).toNat (a1 : Int).toNat 3)), (LR.mk m23 (s_a0_1.cut (w64 (a1 + (1 : Int)) : Int).toNat ((a0.Way.length : Int) : Int).toNat 3))] : List (LR Word))) (pv := [(0, Sl.v (s_a0_1.cut (0 : Int).toNat (a1 : Int).toNat 3)), (1, Sl.v (s_a0_1.cut (w64 (a1 + (1 : Int)) : Int).toNat ((a0.Way.length : Int) : Int).toNat 3))]) rfl rfl (by decide) ⟨rfl, rfl, ⟨rfl, rfl, trivial⟩⟩ (run_buildSlice (α := LR Word) (z0 := ((LR.mk [] Sl.nil) : LR Word)) (xs := ([(LR.mk m18 (s_a0_1.cut (0 : Int).toNat (a1 : Int).toNat 3)), (LR.mk m23 (s_a0_1.cut (w64 (a1 + (1 : Int)) : Int).toNat ((a0.Way.length : Int) : Int).toNat 3))] : List (LR Word))) Try.runUnderlying237 Try.sizeOf112 Try.zeroValue112 rfl rfl rfl (by decide) rfl (fill_cons (cs := encs (List.replicate 2 ((LR.mk [] Sl.nil) : LR Word))) (cs' := encs ((List.replicate 2 ((LR.mk [] Sl.nil) : LR Word)).set 0 (LR.mk m18 (s_a0_1.cut (0 : Int).toNat (a1 : Int).toNat 3)))) (vs := [Sl.v (s_a0_1.cut (0 : Int).toNat (a1 : Int).toNat 3)]) rfl rfl rfl ((Put.elemN (s := 1) (i := 0) (x := ((LR.mk [] Sl.nil) : LR Word)) (y := (LR.mk m18 (s_a0_1.cut (0 : Int).toNat (a1 : Int).toNat 3))) rfl rfl (Put.here (vs := [Sl.v (s_a0_1.cut (0 : Int).toNat (a1 : Int).toNat 3)]) rfl)).off rfl) (fill_cons (cs := encs ((List.replicate 2 ((LR.mk [] Sl.nil) : LR Word)).set 0 (LR.mk m18 (s_a0_1.cut (0 : Int).toNat (a1 : Int).toNat 3)))) (cs' := encs (((List.replicate 2 ((LR.mk [] Sl.nil) : LR Word)).set 0 (LR.mk m18 (s_a0_1.cut (0 : Int).toNat (a1 : Int).toNat 3))).set 1 (LR.mk m23 (s_a0_1.cut (w64 (a1 + (1 : Int)) : Int).toNat ((a0.Way.length : Int) : Int).toNat 3)))) (vs := [Sl.v (s_a0_1.cut (w64 (a1 + (1 : Int)) : Int).toNat ((a0.Way.length : Int) : Int).toNat 3)]) rfl rfl rfl ((Put.elemN (s := 1) (i := 1) (x := ((LR.mk [] Sl.nil) : LR Word)) (y := (LR.mk m23 (s_a0_1.cut (w64 (a1 + (1 : Int)) : Int).toNat ((a0.Way.length : Int) : Int).toNat 3))) rfl rfl (Put.here (vs := [Sl.v (s_a0_1.cut (w64 (a1 + (1 : Int)) : Int).toNat ((a0.Way.length : Int) : Int).toNat 3)]) rfl)).off rfl) fill_nil))) rfl rfl (by decide) (fun s111 _ => ?_)
          refine Lst.nil ?_
          refine At.hd inv (fun w h => (h.weaken hF110).sublist (List.Sublist.cons _ (List.Sublist.cons _ (List.Sublist.cons _ (List.Sublist.cons _ (List.Sublist.cons _ (List.Sublist.cons_cons _ (List.Sublist.cons_cons _ (List.Sublist.cons_cons _ (List.Sublist.cons_cons _ (List.Sublist.cons_cons _ (List.Sublist.refl _)))))))))))) ?_
          refine HdJ.step [13] (by kernel_rfl) rfl ?_
          refine HdStep.cons (by decide) rfl (fun inv => ?_) ?_
          · refine Lst.call rfl rfl (by decide) (vs := [Sl.v s111]) ⟨rfl, trivial⟩ Try.call164 (slices_Concat_api_Word_api_Word_sim h33 w0 _ _ _ (List.Sublist.refl _) hm112 (Rd.own (i := 0) rfl rfl rfl) (All.monoLR ha113 (FLe.refl _) (List.Sublist.cons _ (List.Sublist.cons _ (List.Sublist.cons _ (List.Sublist.cons _ (List.Sublist.cons _ (List.Sublist.cons _ (List.Sublist.cons _ (List.Sublist.cons _ (List.Sublist.cons _ (List.Sublist.cons _ hM)))))))))))) (fun F115 L' v hF116 hv => ?_)
            obtain ⟨s114, rfl, rfl⟩ := hv
            refine Lst.nil ?_
            refine At.hd inv (fun w h => (h.weaken (FLe.trans hF110 hF116)).sublist (List.Sublist.cons _ (List.Sublist.cons _ (List.Sublist.cons _ (List.Sublist.cons _ (List.Sublist.cons _ (List.Sublist.cons _ (List.Sublist.cons_cons _ (List.Sublist.cons_cons _ (List.Sublist.cons_cons _ (List.Sublist.cons_cons _ (List.Sublist.cons_cons _ (List.Sublist.refl _))))))))))))) ?_
            refine HdJ.keep (fun w => St w0 F115 ((.own s114 209 3 (encs r32)) :: (.own s111 112 1 (encs ([(LR.mk m18 (s_a0_1.cut (0 : Int).toNat (a1 : Int).toNat 3)), (LR.mk m23 (s_a0_1.cut (w64 (a1 + (1 : Int)) : Int).toNat ((a0.Way.length : Int) : Int).toNat 3))] : List (LR Word)))) :: (.own s108 135 3 (encs r12)) :: (.blk b107 (enc (OverR.mk ({ Over.zero with Hands := ([] : List Hand), Way := ([] : List Word) } : Over) Sl.nil Sl.nil)) 124) :: (.own Sl.nil 209 3 (encs ([] : List Word))) :: (.own Sl.nil 135 3 (encs ([] : List Hand))) :: (.blk b10 (enc x7) 209) :: (.blk b5 (enc (OverR.mk ({ Over.zero with Hands := ([] : List Hand), Way := ([] : List Word) } : Over) Sl.nil Sl.nil)) 124) :: (.own Sl.nil 209 3 (encs ([] : List Word))) :: (.own Sl.nil 135 3 (encs ([] : List Hand))) :: (.blk b1 (enc (OverR.mk a0 s_a0_0 s_a0_1)) 124) :: L) w) (fun w h => (h.weaken (FLe.trans hF110 hF116)).sublist (List.Sublist.cons _ (List.Sublist.cons _ (List.Sublist.cons _ (List.Sublist.cons _ (List.Sublist.cons _ (List.Sublist.cons _ (List.Sublist.cons_cons _ (List.Sublist.cons_cons _ (List.Sublist.cons_cons _ (List.Sublist.cons_cons _ (List.Sublist.cons_cons _ (List.Sublist.refl _))))))))))))) ?_
            refine HdJ.takeK hsel hlt 14 (fun w h => h.sublist (List.Sublist.cons_cons _ (List.Sublist.cons_cons _ (List.Sublist.cons_cons _ (List.Sublist.cons_cons _ (List.Sublist.cons_cons _ (List.Sublist.cons_cons _ (List.Sublist.cons_cons _ (List.Sublist.cons_cons _ (List.Sublist.cons_cons _ (List.Sublist.cons_cons _ (List.Sublist.cons_cons _ (List.Sublist.refl _))))))))))))) rfl rfl (by decide) (by decide) (by kernel_rfl) (by kernel_rfl) rfl (Ev.build (v := .agg (enc (OverR.mk ({ Over.zero with Hands := r12, Way := r32 } : Over) s108 s114)).toArray) (pv := [(0, Sl.v s108), (1, Sl.v s114)]) ⟨rfl, rfl, ⟨rfl, rfl, trivial⟩⟩ (run_buildStruct (places := #[(0, 1), (1, 1)]) Try.zeroValue124 (zs := enc (OverR.mk Over.zero Sl.nil Sl.nil)) rfl Try.runUnderlying124 (fun w => by kernel_rfl) (fill_cons (cs := enc (OverR.mk Over.zero Sl.nil Sl.nil)) (cs' := enc (OverR.mk ({ Over.zero with Hands := r12 } : Over) s108 Sl.nil)) (vs := [Sl.v s108]) rfl rfl rfl ((OverR.put_Hands (p := (OverR.mk Over.zero Sl.nil Sl.nil)) (y := s108) (Put.here (vs := [Sl.v s108]) rfl)).off rfl) (fill_cons (cs := enc (OverR.mk ({ Over.zero with Hands := r12 } : Over) s108 Sl.nil)) (cs' := enc (OverR.mk ({ Over.zero with Hands := r12, Way := r32 } : Over) s108 s114)) (vs := [Sl.v s114]) rfl rfl rfl ((OverR.put_Way (p := (OverR.mk ({ Over.zero with Hands := r12 } : Over) s108 Sl.nil)) (y := s114) (Put.here (vs := [Sl.v s114]) rfl)).off rfl) fill_nil)))) ?_
            refine HdJ.done (by kernel_rfl) ?_
            refine At.front (i := 10) rfl rfl ?_
            refine At.front (i := 10) rfl rfl ?_
            refine At.front (i := 10) rfl rfl ?_
            refine At.front (i := 10) rfl rfl ?_
            refine At.front (i := 10) rfl rfl ?_
            refine At.front (i := 7) rfl rfl ?_
            refine At.front (i := 7) rfl rfl ?_
            refine At.front (i := 7) rfl rfl ?_
            refine At.front (i := 10) rfl rfl ?_
            refine At.front (i := 10) rfl rfl ?_
            refine At.front (i := 10) rfl rfl ?_
            exact At.meetN (b107, Sl.nil, ([] : List Word), Sl.nil, ([] : List Hand), s114, r32, s111, ([m18, m23] : List (List Word)), ([(LR.mk m18 (s_a0_1.cut (0 : Int).toNat (a1 : Int).toNat 3)), (LR.mk m23 (s_a0_1.cut (w64 (a1 + (1 : Int)) : Int).toNat ((a0.Way.length : Int) : Int).toNat 3))] : List (LR Word)), s108, r12) (FLe.trans hF110 hF116) ⟨rfl, rfl, rfl, rfl, trivial⟩ rfl ⟨h58, hm112, (All.monoLR ha113 hF116 (List.Sublist.refl _))⟩
          exact trivial
        exact trivial
      refine HdStep.cons (by decide) rfl (fun inv => ?_) ?_
      · have hm118 : ([(LR.mk m18 (s_a0_1.cut (0 : Int).toNat (a1 : Int).toNat 3)), (LR.mk m23 (s_a0_1.cut (w64 (a1 + (1 : Int)) : Int).toNat ((a0.Way.length : Int) : Int).toNat 3))] : List (LR Word)).map LR.v = ([m18, m23] : List (List Word)) := rfl
        have ha119 : All LR.rel w0 F M ([(LR.mk m18 (s_a0_1.cut (0 : Int).toNat (a1 : Int).toNat 3)), (LR.mk m23 (s_a0_1.cut (w64 (a1 + (1 : Int)) : Int).toNat ((a0.Way.length : Int) : Int).toNat 3))] : List (LR Word)) := All.of2 (hq61.mono (FLe.refl _) (List.Sublist.refl _)) (hq64.mono (FLe.refl _) (List.Sublist.refl _))
        refine Lst.buildSlice (α := LR Word) (xs := ([(LR.mk m18 (s_a0_1.cut (0 : Int).toNat (a1 : Int).toNat 3)), (LR.mk m23 (s_a0_1.cut (w64 (a1 + (1 : Int)) : Int).toNat ((a0.Way.length : Int) : Int).toNat 3))] : List (LR Word))) (pv := [(0, Sl.v (s_a0_1.cut (0 : Int).toNat (a1 : Int).toNat 3)), (1, Sl.v (s_a0_1.cut (w64 (a1 + (1 : Int)) : Int).toNat ((a0.Way.length : Int) : Int).toNat 3))]) rfl rfl (by decide) ⟨rfl, rfl, ⟨rfl, rfl, trivial⟩⟩ (run_buildSlice (α := LR Word) (z0 := ((LR.mk [] Sl.nil) : LR Word)) (xs := ([(LR.mk m18 (s_a0_1.cut (0 : Int).toNat (a1 : Int).toNat 3)), (LR.mk m23 (s_a0_1.cut (w64 (a1 + (1 : Int)) : Int).toNat ((a0.Way.length : Int) : Int).toNat 3))] : List (LR Word))) Try.runUnderlying237 Try.sizeOf112 Try.zeroValue112 rfl rfl rfl (by decide) rfl (fill_cons (cs := encs (List.replicate 2 ((LR.mk [] Sl.nil) : LR Word))) (cs' := encs ((List.replicate 2 ((LR.mk [] Sl.nil) : LR Word)).set 0 (LR.mk m18 (s_a0_1.cut (0 : Int).toNat (a1 : Int).toNat 3)))) (vs := [Sl.v (s_a0_1.cut (0 : Int).toNat (a1 : Int).toNat 3)]) rfl rfl rfl ((Put.elemN (s := 1) (i := 0) (x := ((LR.mk [] Sl.nil) : LR Word)) (y := (LR.mk m18 (s_a0_1.cut (0 : Int).toNat (a1 : Int).toNat 3))) rfl rfl (Put.here (vs := [Sl.v (s_a0_1.cut (0 : Int).toNat (a1 : Int).toNat 3)]) rfl)).off rfl) (fill_cons (cs := encs ((List.replicate 2 ((LR.mk [] Sl.nil) : LR Word)).set 0 (LR.mk m18 (s_a0_1.cut (0 : Int).toNat (a1 : Int).toNat 3)))) (cs' := encs (((List.replicate 2 ((LR.mk [] Sl.nil) : LR Word)).set 0 (LR.mk m18 (s_a0_1.cut (0 : Int).toNat (a1 : Int).toNat 3))).set 1 (LR.mk m23 (s_a0_1.cut (w64 (a1 + (1 : Int)) : Int).toNat ((a0.Way.length : Int) : Int).toNat 3)))) (vs := [Sl.v (s_a0_1.cut (w64 (a1 + (1 : Int)) : Int).toNat ((a0.Way.length : Int) : Int).toNat 3)]) rfl rfl rfl ((Put.elemN (s := 1) (i := 1) (x := ((LR.mk [] Sl.nil) : LR Word)) (y := (LR.mk m23 (s_a0_1.cut (w64 (a1 + (1 : Int)) : Int).toNat ((a0.Way.length : Int) : Int).toNat 3))) rfl rfl (Put.here (vs := [Sl.v (s_a0_1.cut (w64 (a1 + (1 : Int)) : Int).toNat ((a0.Way.length : Int) : Int).toNat 3)]) rfl)).off rfl) fill_nil))) rfl rfl (by decide) (fun s117 _ => ?_)
        refine Lst.nil ?_
        refine At.hd inv (fun w h => (h.weaken (FLe.refl _)).sublist (List.Sublist.cons _ (List.Sublist.cons _ (List.Sublist.cons _ (List.Sublist.cons _ (List.Sublist.cons_cons _ (List.Sublist.cons_cons _ (List.Sublist.cons_cons _ (List.Sublist.cons_cons _ (List.Sublist.cons_cons _ (List.Sublist.refl _))))))))))) ?_
        refine HdJ.step [2] (by kernel_rfl) rfl ?_
        refine HdStep.cons (by decide) rfl (fun inv => ?_) ?_
        · refine Lst.call rfl rfl (by decide) (vs := [Sl.v s_a0_0]) ⟨rfl, trivial⟩ Try.call171 (slices_Clone_api_Hand_api_Hand_sim h13 w0 _ M _ (List.Sublist.cons _ (List.Sublist.cons _ (List.Sublist.cons _ (List.Sublist.cons _ (List.Sublist.cons _ (List.Sublist.cons _ (List.Sublist.cons _ (List.Sublist.cons _ (List.Sublist.cons _ hM))))))))) (hs_a0_0.mono (FLe.refl _) (List.Sublist.refl _))) (fun F121 L' v hF122 hv => ?_)
          obtain ⟨s120, rfl, rfl⟩ := hv
          refine Lst.nil ?_
          refine At.hd inv (fun w h => (h.weaken hF122).sublist (List.Sublist.cons _ (List.Sublist.cons _ (List.Sublist.cons _ (List.Sublist.cons _ (List.Sublist.cons _ (List.Sublist.cons_cons _ (List.Sublist.cons_cons _ (List.Sublist.cons_cons _ (List.Sublist.cons_cons _ (List.Sublist.cons_cons _ (List.Sublist.refl _)))))))))))) ?_
          refine HdJ.step [13] (by kernel_rfl) rfl ?_
          refine HdStep.cons (by decide) rfl (fun inv => ?_) ?_
          · refine Lst.call rfl rfl (by decide) (vs := [Sl.v s117]) ⟨rfl, trivial⟩ Try.call164 (slices_Concat_api_Word_api_Word_sim h33 w0 _ _ _ (List.Sublist.refl _) hm118 (Rd.own (i := 1) rfl rfl rfl) (All.monoLR ha119 hF122 (List.Sublist.cons _ (List.Sublist.cons _ (List.Sublist.cons _ (List.Sublist.cons _ (List.Sublist.cons _ (List.Sublist.cons _ (List.Sublist.cons _ (List.Sublist.cons _ (List.Sublist.cons _ (List.Sublist.cons _ hM)))))))))))) (fun F124 L' v hF125 hv => ?_)
            obtain ⟨s123, rfl, rfl⟩ := hv
            refine Lst.nil ?_
            refine At.hd inv (fun w h => (h.weaken (FLe.trans hF122 hF125)).sublist (List.Sublist.cons _ (List.Sublist.cons _ (List.Sublist.cons _ (List.Sublist.cons _ (List.Sublist.cons _ (List.Sublist.cons _ (List.Sublist.cons_cons _ (List.Sublist.cons_cons _ (List.Sublist.cons_cons _ (List.Sublist.cons_cons _ (List.Sublist.cons_cons _ (List.Sublist.refl _))))))))))))) ?_
            refine HdJ.keep (fun w => St w0 F124 ((.own s123 209 3 (encs r32)) :: (.own s120 135 3 (encs r12)) :: (.own s117 112 1 (encs ([(LR.mk m18 (s_a0_1.cut (0 : Int).toNat (a1 : Int).toNat 3)), (LR.mk m23 (s_a0_1.cut (w64 (a1 + (1 : Int)) : Int).toNat ((a0.Way.length : Int) : Int).toNat 3))] : List (LR Word)))) :: (.blk b107 (enc (OverR.mk ({ Over.zero with Hands := ([] : List Hand), Way := ([] : List Word) } : Over) Sl.nil Sl.nil)) 124) :: (.own Sl.nil 209 3 (encs ([] : List Word))) :: (.own Sl.nil 135 3 (encs ([] : List Hand))) :: (.blk b10 (enc x7) 209) :: (.blk b5 (enc (OverR.mk ({ Over.zero with Hands := ([] : List Hand), Way := ([] : List Word) } : Over) Sl.nil Sl.nil)) 124) :: (.own Sl.nil 209 3 (encs ([] : List Word))) :: (.own Sl.nil 135 3 (encs ([] : List Hand))) :: (.blk b1 (enc (OverR.mk a0 s_a0_0 s_a0_1)) 124) :: L) w) (fun w h => (h.weaken (FLe.trans hF122 hF125)).sublist (List.Sublist.cons _ (List.Sublist.cons _ (List.Sublist.cons _ (List.Sublist.cons _ (List.Sublist.cons _ (List.Sublist.cons _ (List.Sublist.cons_cons _ (List.Sublist.cons_cons _ (List.Sublist.cons_cons _ (List.Sublist.cons_cons _ (List.Sublist.cons_cons _ (List.Sublist.refl _))))))))))))) ?_
            refine HdJ.takeK hsel hlt 14 (fun w h => h.sublist (List.Sublist.cons_cons _ (List.Sublist.cons_cons _ (List.Sublist.cons_cons _ (List.Sublist.cons_cons _ (List.Sublist.cons_cons _ (List.Sublist.cons_cons _ (List.Sublist.cons_cons _ (List.Sublist.cons_cons _ (List.Sublist.cons_cons _ (List.Sublist.cons_cons _ (List.Sublist.cons_cons _ (List.Sublist.refl _))))))))))))) rfl rfl (by decide) (by decide) (by kernel_rfl) (by kernel_rfl) rfl (Ev.build (v := .agg (enc (OverR.mk ({ Over.zero with Hands := r12, Way := r32 } : Over) s120 s123)).toArray) (pv := [(0, Sl.v s120), (1, Sl.v s123)]) ⟨rfl, rfl, ⟨rfl, rfl, trivial⟩⟩ (run_buildStruct (places := #[(0, 1), (1, 1)]) Try.zeroValue124 (zs := enc (OverR.mk Over.zero Sl.nil Sl.nil)) rfl Try.runUnderlying124 (fun w => by kernel_rfl) (fill_cons (cs := enc (OverR.mk Over.zero Sl.nil Sl.nil)) (cs' := enc (OverR.mk ({ Over.zero with Hands := r12 } : Over) s120 Sl.nil)) (vs := [Sl.v s120]) rfl rfl rfl ((OverR.put_Hands (p := (OverR.mk Over.zero Sl.nil Sl.nil)) (y := s120) (Put.here (vs := [Sl.v s120]) rfl)).off rfl) (fill_cons (cs := enc (OverR.mk ({ Over.zero with Hands := r12 } : Over) s120 Sl.nil)) (cs' := enc (OverR.mk ({ Over.zero with Hands := r12, Way := r32 } : Over) s120 s123)) (vs := [Sl.v s123]) rfl rfl rfl ((OverR.put_Way (p := (OverR.mk ({ Over.zero with Hands := r12 } : Over) s120 Sl.nil)) (y := s123) (Put.here (vs := [Sl.v s123]) rfl)).off rfl) fill_nil)))) ?_
            refine HdJ.done (by kernel_rfl) ?_
            refine At.front (i := 10) rfl rfl ?_
            refine At.front (i := 10) rfl rfl ?_
            refine At.front (i := 10) rfl rfl ?_
            refine At.front (i := 10) rfl rfl ?_
            refine At.front (i := 10) rfl rfl ?_
            refine At.front (i := 6) rfl rfl ?_
            refine At.front (i := 7) rfl rfl ?_
            refine At.front (i := 7) rfl rfl ?_
            refine At.front (i := 10) rfl rfl ?_
            refine At.front (i := 10) rfl rfl ?_
            refine At.front (i := 10) rfl rfl ?_
            exact At.meetN (b107, Sl.nil, ([] : List Word), Sl.nil, ([] : List Hand), s123, r32, s117, ([m18, m23] : List (List Word)), ([(LR.mk m18 (s_a0_1.cut (0 : Int).toNat (a1 : Int).toNat 3)), (LR.mk m23 (s_a0_1.cut (w64 (a1 + (1 : Int)) : Int).toNat ((a0.Way.length : Int) : Int).toNat 3))] : List (LR Word)), s120, r12) (FLe.trans hF122 hF125) ⟨rfl, rfl, rfl, rfl, trivial⟩ rfl ⟨h58, hm118, (All.monoLR ha119 (FLe.trans hF122 hF125) (List.Sublist.refl _))⟩
          exact trivial
        exact trivial
      exact trivial
    exact trivial
  rintro F126 ⟨b43, s44, l45, s46, l47, s48, l49, s50, l51, rs52, s55, l56⟩ hF127 ⟨hy, fm53, fa54⟩
  subst hy
  refine Lst.as (e' := [(4, .pointer (some ⟨b5, 0, none⟩)), (5, .pointer (some ⟨b10, 0, none⟩)), (6, .pointer (some ⟨b43, 0, none⟩)), (27, .agg (enc (OverR.mk ({ Over.zero with Hands := l56, Way := l49 } : Over) s55 s48)).toArray)]) (L' := (.blk b43 (enc (OverR.mk ({ Over.zero with Hands := l47, Way := l45 } : Over) s46 s44)) 124) :: (.own s44 209 3 (encs l45)) :: (.own s46 135 3 (encs l47)) :: (.own s48 209 3 (encs l49)) :: (.own s50 112 1 (encs rs52)) :: (.own s55 135 3 (encs l56)) :: (.blk b10 (enc x7) 209) :: (.blk b5 (enc (OverR.mk ({ Over.zero with Hands := ([] : List Hand), Way := ([] : List Word) } : Over) Sl.nil Sl.nil)) 124) :: (.own Sl.nil 209 3 (encs ([] : List Word))) :: (.own Sl.nil 135 3 (encs ([] : List Hand))) :: (.blk b1 (enc (OverR.mk a0 s_a0_0 s_a0_1)) 124) :: L) ⟨rfl, rfl, rfl, rfl, trivial⟩ rfl ?_
  refine Lst.store (i := 0) rfl rfl rfl rfl rfl Try.sizeOf124 (vs := enc (OverR.mk ({ Over.zero with Hands := l56, Way := l49 } : Over) s55 s48)) rfl (Enc.len _) (Enc.one _) (cs' := enc (OverR.mk ({ Over.zero with Hands := l56, Way := l49 } : Over) s55 s48)) (Put.here ((Enc.len _).trans (Enc.len _).symm)) (L' := (.blk b43 (enc (OverR.mk ({ Over.zero with Hands := l56, Way := l49 } : Over) s55 s48)) 124) :: (.own s44 209 3 (encs l45)) :: (.own s46 135 3 (encs l47)) :: (.own s48 209 3 (encs l49)) :: (.own s50 112 1 (encs rs52)) :: (.own s55 135 3 (encs l56)) :: (.blk b10 (enc x7) 209) :: (.blk b5 (enc (OverR.mk ({ Over.zero with Hands := ([] : List Hand), Way := ([] : List Word) } : Over) Sl.nil Sl.nil)) 124) :: (.own Sl.nil 209 3 (encs ([] : List Word))) :: (.own Sl.nil 135 3 (encs ([] : List Hand))) :: (.blk b1 (enc (OverR.mk a0 s_a0_0 s_a0_1)) 124) :: L) rfl ?_
  refine Lst.nil ?_
  refine At.then ?_
  refine Cd.seq ?_
  refine Cd.region ?_
  refine Lst.run rfl rfl (by decide) (Ev.fieldAddr (off' := 0) rfl Try.runUnderlying124 rfl Try.sizeOf122 rfl rfl) ?_
  refine Lst.run rfl rfl (by decide) (Ev.load (i := 0) rfl rfl Try.isAgg122 (v := Sl.v s55) ((OverR.get_Hands (Get.here _)).off (by rfl))) ?_
  refine Lst.run rfl rfl (by decide) (Ev.fieldAddr (off' := 1) rfl Try.runUnderlying209 rfl Try.sizeOf3 rfl rfl) ?_
  refine Lst.run rfl rfl (by decide) (Ev.load (i := 6) rfl rfl Try.isAgg3 (v := .int .i64 x7.To) ((Word.get_To (Get.here _)).off (by rfl))) ?_
  obtain ⟨x128, h129, H⟩ := bind_some H
  have g130 := lat_some h129
  refine Lst.run rfl rfl (by decide) (Ev.indexS (α := Hand) (xs := l56) rfl rfl Try.runUnderlying122 Try.sizeOf135 rfl (by decide) (Rd.own (i := 5) rfl rfl rfl) g130.1 g130.2.1) ?_
  refine Lst.run rfl rfl (by decide) (Ev.assign rfl) ?_
  refine Lst.nil ?_
  refine At.then ?_
  refine Cd.seq ?_
  refine Cd.seq ?_
  refine Cd.region ?_
  refine Lst.run rfl rfl (by decide) (Ev.fieldAddr (off' := 2) rfl Try.runUnderlying209 rfl Try.sizeOf3 rfl rfl) ?_
  refine Lst.run rfl rfl (by decide) (Ev.load (i := 6) rfl rfl Try.isAgg3 (v := .int .i64 x7.At) ((Word.get_At (Get.here _)).off (by rfl))) ?_
  refine Lst.run rfl rfl (by decide) (Ev.eql rfl rfl) ?_
  refine Lst.nil ?_
  refine At.then ?_
  rcases Bool.eq_false_or_eq_true (x7.At == (0 : Int)) with hb131 | hb131
  · replace H := ite_t hb131 H
    refine Cd.condT rfl hb131 ?_
    obtain ⟨o135, H, HKo135⟩ := bind_some H
    refine Cd.join (σ := Over × Sl × (List Hand)) (fun (y132, s133, l134) => [(4, .pointer (some ⟨b5, 0, none⟩)), (5, .pointer (some ⟨b10, 0, none⟩)), (6, .pointer (some ⟨b43, 0, none⟩))]) (fun (y132, s133, l134) => (.blk b43 (enc (OverR.mk ({ y132 with Hands := l134, Way := l49 } : Over) s133 s48)) 124) :: (.own s44 209 3 (encs l45)) :: (.own s46 135 3 (encs l47)) :: (.own s48 209 3 (encs l49)) :: (.own s50 112 1 (encs rs52)) :: (.own s133 135 3 (encs l134)) :: (.blk b10 (enc x7) 209) :: (.blk b5 (enc (OverR.mk ({ Over.zero with Hands := ([] : List Hand), Way := ([] : List Word) } : Over) Sl.nil Sl.nil)) 124) :: (.own Sl.nil 209 3 (encs ([] : List Word))) :: (.own Sl.nil 135 3 (encs ([] : List Hand))) :: (.blk b1 (enc (OverR.mk a0 s_a0_0 s_a0_1)) 124) :: L) (fun _ (y132, s133, l134) => (y132, l134) = o135) ?_ ?_
    · refine Cd.seq ?_
      refine Cd.region ?_
      refine Lst.run rfl rfl (by decide) (Ev.move rfl) ?_
      refine Lst.run rfl rfl (by decide) (Ev.nilCheckS (α := Hand) rfl (Rd.own (i := 5) rfl rfl rfl) ((Get.elemN (s := 3) (x := x128) rfl g130.2.2 (Get.here _)).off (by omega)) rfl) ?_
      refine Lst.run rfl rfl (by decide) (Ev.fieldS (α := Hand) (f' := x7.To.toNat * 3 + 2) rfl (Rd.own (i := 5) rfl rfl rfl) ((Get.elemN (s := 3) (x := x128) rfl g130.2.2 (Get.here _)).off (by omega)) rfl Try.runUnderlying135 rfl Try.sizeOf3 rfl rfl rfl) ?_
      refine Lst.run rfl rfl (by decide) (Ev.loadS (α := Hand) rfl (Rd.own (i := 5) rfl rfl rfl) Try.isAgg3 (v := .int .i64 x128.Owed) ((Get.elemN (s := 3) (x := x128) rfl g130.2.2 (Hand.get_Owed (Get.here _))).off (by omega))) ?_
      refine Lst.run rfl rfl (by decide) (Ev.gtr rfl rfl) ?_
      refine Lst.nil ?_
      refine At.then ?_
      rcases (Bool.eq_false_or_eq_true (decide (x128.Owed > (0 : Int)))).symm with hb136 | hb136
      · replace H := ite_f hb136 H
        refine Cd.condF rfl hb136 ?_
        refine Cd.skip ?_
        exact At.meet (({ Over.zero with Hands := l56, Way := l49 } : Over), s55, l56) (FLe.refl _) ⟨rfl, rfl, rfl, trivial⟩ rfl (some_inj H)
      replace H := ite_t hb136 H
      refine Cd.condT rfl hb136 ?_
      refine Cd.region ?_
      refine Lst.run rfl rfl (by decide) (Ev.move rfl) ?_
      refine Lst.run rfl rfl (by decide) (Ev.nilCheckS (α := Hand) rfl (Rd.own (i := 5) rfl rfl rfl) ((Get.elemN (s := 3) (x := x128) rfl g130.2.2 (Get.here _)).off (by omega)) rfl) ?_
      refine Lst.run rfl rfl (by decide) (Ev.fieldS (α := Hand) (f' := x7.To.toNat * 3 + 2) rfl (Rd.own (i := 5) rfl rfl rfl) ((Get.elemN (s := 3) (x := x128) rfl g130.2.2 (Get.here _)).off (by omega)) rfl Try.runUnderlying135 rfl Try.sizeOf3 rfl rfl rfl) ?_
      refine Lst.run rfl rfl (by decide) (Ev.loadS (α := Hand) rfl (Rd.own (i := 5) rfl rfl rfl) Try.isAgg3 (v := .int .i64 x128.Owed) ((Get.elemN (s := 3) (x := x128) rfl g130.2.2 (Hand.get_Owed (Get.here _))).off (by omega))) ?_
      refine Lst.run rfl rfl (by decide) (Ev.sub rfl rfl) ?_
      refine Lst.run rfl rfl (by decide) (Ev.nilCheckS (α := Hand) rfl (Rd.own (i := 5) rfl rfl rfl) ((Get.elemN (s := 3) (x := x128) rfl g130.2.2 (Get.here _)).off (by omega)) rfl) ?_
      refine Lst.run rfl rfl (by decide) (Ev.fieldS (α := Hand) (f' := x7.To.toNat * 3 + 2) rfl (Rd.own (i := 5) rfl rfl rfl) ((Get.elemN (s := 3) (x := x128) rfl g130.2.2 (Get.here _)).off (by omega)) rfl Try.runUnderlying135 rfl Try.sizeOf3 rfl rfl rfl) ?_
      obtain ⟨p137, h138, H⟩ := Let_some H
      refine Lst.storeS (i := 5) rfl rfl rfl rfl rfl Try.sizeOf3 (vs := [.int .i64 (w64 (x128.Owed - (1 : Int)))]) rfl rfl (by decide) rfl (xs' := encs p137) (by rw [← h138]; exact (Put.elemN (s := 3) (x := x128) rfl g130.2.2 (Hand.put_Owed (Put.here (vs := [.int .i64 (w64 (x128.Owed - (1 : Int)))]) rfl))).off (by omega)) (L' := (.blk b43 (enc (OverR.mk ({ Over.zero with Hands := p137, Way := l49 } : Over) s55 s48)) 124) :: (.own s44 209 3 (encs l45)) :: (.own s46 135 3 (encs l47)) :: (.own s48 209 3 (encs l49)) :: (.own s50 112 1 (encs rs52)) :: (.own s55 135 3 (encs p137)) :: (.blk b10 (enc x7) 209) :: (.blk b5 (enc (OverR.mk ({ Over.zero with Hands := ([] : List Hand), Way := ([] : List Word) } : Over) Sl.nil Sl.nil)) 124) :: (.own Sl.nil 209 3 (encs ([] : List Word))) :: (.own Sl.nil 135 3 (encs ([] : List Hand))) :: (.blk b1 (enc (OverR.mk a0 s_a0_0 s_a0_1)) 124) :: L) rfl ?_
      refine Lst.nil ?_
      exact At.meet (({ Over.zero with Hands := p137, Way := l49 } : Over), s55, p137) (FLe.refl _) ⟨rfl, rfl, rfl, trivial⟩ rfl (some_inj H)
    rintro F139 ⟨y132, s133, l134⟩ hF140 hy
    subst hy
    refine Cd.as (e' := [(4, .pointer (some ⟨b5, 0, none⟩)), (5, .pointer (some ⟨b10, 0, none⟩)), (6, .pointer (some ⟨b43, 0, none⟩))]) (L' := (.blk b43 (enc (OverR.mk ({ y132 with Hands := l134, Way := l49 } : Over) s133 s48)) 124) :: (.own s44 209 3 (encs l45)) :: (.own s46 135 3 (encs l47)) :: (.own s48 209 3 (encs l49)) :: (.own s50 112 1 (encs rs52)) :: (.own s133 135 3 (encs l134)) :: (.blk b10 (enc x7) 209) :: (.blk b5 (enc (OverR.mk ({ Over.zero with Hands := ([] : List Hand), Way := ([] : List Word) } : Over) Sl.nil Sl.nil)) 124) :: (.own Sl.nil 209 3 (encs ([] : List Word))) :: (.own Sl.nil 135 3 (encs ([] : List Hand))) :: (.blk b1 (enc (OverR.mk a0 s_a0_0 s_a0_1)) 124) :: L) ⟨rfl, rfl, rfl, trivial⟩ rfl ?_
    replace H := HKo135
    refine Cd.seq ?_
    refine Cd.region ?_
    refine Lst.run rfl rfl (by decide) (Ev.loadA (i := 0) rfl rfl Try.isAgg124 Try.sizeOf124 (ch := enc (OverR.mk ({ y132 with Hands := l134, Way := l49 } : Over) s133 s48)) (Enc.len _) (Get.here _)) ?_
    refine Lst.run rfl rfl (by decide) (Ev.fieldAddr (off' := 1) rfl Try.runUnderlying209 rfl Try.sizeOf3 rfl rfl) ?_
    refine Lst.run rfl rfl (by decide) (Ev.load (i := 6) rfl rfl Try.isAgg3 (v := .int .i64 x7.To) ((Word.get_To (Get.here _)).off (by rfl))) ?_
    obtain ⟨r141, h142, H⟩ := bind_some H
    refine Lst.front (i := 3) rfl (L' := (.own s48 209 3 (encs l49)) :: (.blk b43 (enc (OverR.mk ({ y132 with Hands := l134, Way := l49 } : Over) s133 s48)) 124) :: (.own s44 209 3 (encs l45)) :: (.own s46 135 3 (encs l47)) :: (.own s50 112 1 (encs rs52)) :: (.own s133 135 3 (encs l134)) :: (.blk b10 (enc x7) 209) :: (.blk b5 (enc (OverR.mk ({ Over.zero with Hands := ([] : List Hand), Way := ([] : List Word) } : Over) Sl.nil Sl.nil)) 124) :: (.own Sl.nil 209 3 (encs ([] : List Word))) :: (.own Sl.nil 135 3 (encs ([] : List Hand))) :: (.blk b1 (enc (OverR.mk a0 s_a0_0 s_a0_1)) 124) :: L) rfl ?_
    refine Lst.front (i := 5) rfl (L' := (.own s133 135 3 (encs l134)) :: (.own s48 209 3 (encs l49)) :: (.blk b43 (enc (OverR.mk ({ y132 with Hands := l134, Way := l49 } : Over) s133 s48)) 124) :: (.own s44 209 3 (encs l45)) :: (.own s46 135 3 (encs l47)) :: (.own s50 112 1 (encs rs52)) :: (.blk b10 (enc x7) 209) :: (.blk b5 (enc (OverR.mk ({ Over.zero with Hands := ([] : List Hand), Way := ([] : List Word) } : Over) Sl.nil Sl.nil)) 124) :: (.own Sl.nil 209 3 (encs ([] : List Word))) :: (.own Sl.nil 135 3 (encs ([] : List Hand))) :: (.blk b1 (enc (OverR.mk a0 s_a0_0 s_a0_1)) 124) :: L) rfl ?_
    refine Lst.call rfl rfl (by decide) (vs := [.agg (enc (OverR.mk ({ y132 with Hands := l134, Way := l49 } : Over) s133 s48)).toArray, .int .i64 x7.To]) ⟨rfl, rfl, trivial⟩ Try.call172 (partref_overThanks_sim h142 w0 _ M _ (List.Sublist.cons _ (List.Sublist.cons _ (List.Sublist.cons _ (List.Sublist.cons _ (List.Sublist.cons _ (List.Sublist.cons _ (List.Sublist.cons _ (List.Sublist.cons _ (List.Sublist.cons _ hM)))))))))) (fun F147 L' v hF148 hv => ?_)
    obtain ⟨s143, s145, rfl, rfl⟩ := hv
    refine Lst.store (i := 7) rfl rfl rfl rfl rfl Try.sizeOf124 (vs := enc (OverR.mk r141 s143 s145)) rfl (Enc.len _) (Enc.one _) (cs' := enc (OverR.mk r141 s143 s145)) (Put.here ((Enc.len _).trans (Enc.len _).symm)) (L' := (.own s143 135 3 (encs r141.Hands)) :: (.own s145 209 3 (encs r141.Way)) :: (.blk b43 (enc (OverR.mk y132 s133 s48)) 124) :: (.own s44 209 3 (encs l45)) :: (.own s46 135 3 (encs l47)) :: (.own s50 112 1 (encs rs52)) :: (.blk b10 (enc x7) 209) :: (.blk b5 (enc (OverR.mk r141 s143 s145)) 124) :: (.own Sl.nil 209 3 (encs ([] : List Word))) :: (.own Sl.nil 135 3 (encs ([] : List Hand))) :: (.blk b1 (enc (OverR.mk a0 s_a0_0 s_a0_1)) 124) :: L) rfl ?_
    refine Lst.nil ?_
    refine At.then ?_
    obtain rfl := some_inj H
    refine Cd.ret ?_
    refine At.then_ret ?_
    exact At.ret1 rfl (Res.cellA (i := 7) rfl rfl Try.isAgg124 Try.sizeOf124 (Enc.len _)) (FLe.trans (FLe.trans hF127 hF140) hF148) (List.Sublist.cons_cons _ (List.Sublist.cons_cons _ (List.Sublist.cons _ (List.Sublist.cons _ (List.Sublist.cons _ (List.Sublist.cons _ (List.Sublist.cons _ (List.Sublist.cons _ (List.Sublist.cons _ (List.Sublist.cons _ (List.Sublist.cons _ (List.Sublist.refl _)))))))))))) ⟨s143, s145, rfl, rfl⟩
  replace H := ite_f hb131 H
  refine Cd.condF rfl hb131 ?_
  refine Cd.skip ?_
  refine At.then ?_
  refine Cd.seq ?_
  refine Cd.region ?_
  refine Lst.run rfl rfl (by decide) (Ev.move rfl) ?_
  refine Lst.run rfl rfl (by decide) (Ev.nilCheckS (α := Hand) rfl (Rd.own (i := 5) rfl rfl rfl) ((Get.elemN (s := 3) (x := x128) rfl g130.2.2 (Get.here _)).off (by omega)) rfl) ?_
  refine Lst.run rfl rfl (by decide) (Ev.fieldS (α := Hand) (f' := x7.To.toNat * 3 + 0) rfl (Rd.own (i := 5) rfl rfl rfl) ((Get.elemN (s := 3) (x := x128) rfl g130.2.2 (Get.here _)).off (by omega)) rfl Try.runUnderlying135 rfl Try.sizeOf4 rfl rfl rfl) ?_
  obtain ⟨p149, h150, H⟩ := Let_some H
  refine Lst.storeS (i := 5) rfl rfl rfl rfl rfl Try.sizeOf4 (vs := [.bool true]) rfl rfl (by decide) rfl (xs' := encs p149) (by rw [← h150]; exact (Put.elemN (s := 3) (x := x128) rfl g130.2.2 (Hand.put_Busy (Put.here (vs := [.bool true]) rfl))).off (by omega)) (L' := (.blk b43 (enc (OverR.mk ({ Over.zero with Hands := p149, Way := l49 } : Over) s55 s48)) 124) :: (.own s44 209 3 (encs l45)) :: (.own s46 135 3 (encs l47)) :: (.own s48 209 3 (encs l49)) :: (.own s50 112 1 (encs rs52)) :: (.own s55 135 3 (encs p149)) :: (.blk b10 (enc x7) 209) :: (.blk b5 (enc (OverR.mk ({ Over.zero with Hands := ([] : List Hand), Way := ([] : List Word) } : Over) Sl.nil Sl.nil)) 124) :: (.own Sl.nil 209 3 (encs ([] : List Word))) :: (.own Sl.nil 135 3 (encs ([] : List Hand))) :: (.blk b1 (enc (OverR.mk a0 s_a0_0 s_a0_1)) 124) :: L) rfl ?_
  refine Lst.nil ?_
  refine At.then ?_
  refine Cd.seq ?_
  refine Cd.seq ?_
  refine Cd.region ?_
  refine Lst.run rfl rfl (by decide) (Ev.fieldAddr (off' := 1) rfl Try.runUnderlying209 rfl Try.sizeOf3 rfl rfl) ?_
  refine Lst.run rfl rfl (by decide) (Ev.load (i := 6) rfl rfl Try.isAgg3 (v := .int .i64 x7.To) ((Word.get_To (Get.here _)).off (by rfl))) ?_
  refine Lst.run rfl rfl (by decide) (Ev.neq rfl rfl) ?_
  refine Lst.run rfl rfl (by decide) (Ev.move rfl) ?_
  obtain ⟨o151, H, HKo151⟩ := bind_some H
  refine Lst.join (σ := Bool) 6 (fun y152 => [(4, .pointer (some ⟨b5, 0, none⟩)), (5, .pointer (some ⟨b10, 0, none⟩)), (6, .pointer (some ⟨b43, 0, none⟩)), (7, Sl.at s55 (x7.To.toNat * 3)), (64, .bool y152)]) (fun y152 => (.blk b43 (enc (OverR.mk ({ Over.zero with Hands := p149, Way := l49 } : Over) s55 s48)) 124) :: (.own s44 209 3 (encs l45)) :: (.own s46 135 3 (encs l47)) :: (.own s48 209 3 (encs l49)) :: (.own s50 112 1 (encs rs52)) :: (.own s55 135 3 (encs p149)) :: (.blk b10 (enc x7) 209) :: (.blk b5 (enc (OverR.mk ({ Over.zero with Hands := ([] : List Hand), Way := ([] : List Word) } : Over) Sl.nil Sl.nil)) 124) :: (.own Sl.nil 209 3 (encs ([] : List Word))) :: (.own Sl.nil 135 3 (encs ([] : List Hand))) :: (.blk b1 (enc (OverR.mk a0 s_a0_0 s_a0_1)) 124) :: L) (fun _ y152 => y152 = o151) ?_ ?_
  · rcases (Bool.eq_false_or_eq_true (x7.To != (0 : Int))).symm with hb153 | hb153
    · replace H := ite_f hb153 H
      refine Lst.skip rfl rfl rfl hb153 rfl (by decide) ?_
      refine Lst.skip rfl rfl rfl hb153 rfl (by decide) ?_
      refine Lst.skip rfl rfl rfl hb153 rfl (by decide) ?_
      refine Lst.skip rfl rfl rfl hb153 rfl (by decide) ?_
      refine Lst.skip rfl rfl rfl hb153 rfl (by decide) ?_
      refine Lst.run rfl rfl (by decide) (Ev.pickF rfl hb153 rfl) ?_
      refine Lst.nil ?_
      exact At.meet false (FLe.refl _) ⟨rfl, rfl, rfl, rfl, rfl, trivial⟩ rfl (some_inj H)
    replace H := ite_t hb153 H
    refine Lst.runG rfl rfl rfl hb153 rfl (by decide) (Ev.move rfl) ?_
    obtain ⟨x154, h155, H⟩ := bind_some H
    have g156 := lat_some h155
    refine Lst.runG rfl rfl rfl hb153 rfl (by decide) (Ev.nilCheckS (α := Hand) rfl (Rd.own (i := 5) rfl rfl rfl) ((Get.elemN (s := 3) (x := x154) rfl g156.2.2 (Get.here _)).off (by omega)) rfl) ?_
    refine Lst.runG rfl rfl rfl hb153 rfl (by decide) (Ev.fieldS (α := Hand) (f' := x7.To.toNat * 3 + 1) rfl (Rd.own (i := 5) rfl rfl rfl) ((Get.elemN (s := 3) (x := x154) rfl g156.2.2 (Get.here _)).off (by omega)) rfl Try.runUnderlying135 rfl Try.sizeOf3 rfl rfl rfl) ?_
    refine Lst.runG rfl rfl rfl hb153 rfl (by decide) (Ev.loadS (α := Hand) rfl (Rd.own (i := 5) rfl rfl rfl) Try.isAgg3 (v := .int .i64 x154.Boss) ((Get.elemN (s := 3) (x := x154) rfl g156.2.2 (Hand.get_Boss (Get.here _))).off (by omega))) ?_
    refine Lst.runG rfl rfl rfl hb153 rfl (by decide) (Ev.eql rfl rfl) ?_
    refine Lst.run rfl rfl (by decide) (Ev.pickT rfl hb153 rfl) ?_
    refine Lst.nil ?_
    exact At.meet (x154.Boss == (-1 : Int)) (FLe.refl _) ⟨rfl, rfl, rfl, rfl, rfl, trivial⟩ rfl (some_inj H)
  rintro F157 y152 hF158 hy
  subst hy
  refine Lst.as (e' := [(4, .pointer (some ⟨b5, 0, none⟩)), (5, .pointer (some ⟨b10, 0, none⟩)), (6, .pointer (some ⟨b43, 0, none⟩)), (7, Sl.at s55 (x7.To.toNat * 3)), (64, .bool y152)]) (L' := (.blk b43 (enc (OverR.mk ({ Over.zero with Hands := p149, Way := l49 } : Over) s55 s48)) 124) :: (.own s44 209 3 (encs l45)) :: (.own s46 135 3 (encs l47)) :: (.own s48 209 3 (encs l49)) :: (.own s50 112 1 (encs rs52)) :: (.own s55 135 3 (encs p149)) :: (.blk b10 (enc x7) 209) :: (.blk b5 (enc (OverR.mk ({ Over.zero with Hands := ([] : List Hand), Way := ([] : List Word) } : Over) Sl.nil Sl.nil)) 124) :: (.own Sl.nil 209 3 (encs ([] : List Word))) :: (.own Sl.nil 135 3 (encs ([] : List Hand))) :: (.blk b1 (enc (OverR.mk a0 s_a0_0 s_a0_1)) 124) :: L) ⟨rfl, rfl, rfl, rfl, rfl, trivial⟩ rfl ?_
  replace H := HKo151
  refine Lst.nil ?_
  refine At.then ?_
  rcases Bool.eq_false_or_eq_true y152 with hb159 | hb159
  · replace H := ite_t hb159 H
    refine Cd.condT rfl hb159 ?_
    refine Cd.seq ?_
    refine Cd.region ?_
    refine Lst.run rfl rfl (by decide) (Ev.move rfl) ?_
    refine Lst.run rfl rfl (by decide) (Ev.fieldAddr (off' := 0) rfl Try.runUnderlying209 rfl Try.sizeOf3 rfl rfl) ?_
    refine Lst.run rfl rfl (by decide) (Ev.load (i := 6) rfl rfl Try.isAgg3 (v := .int .i64 x7.From) ((Word.get_From (Get.here _)).off (by rfl))) ?_
    obtain ⟨x160, h161, H⟩ := bind_some H
    have g162 := lat_some h161
    refine Lst.run rfl rfl (by decide) (Ev.nilCheckS (α := Hand) rfl (Rd.own (i := 5) rfl rfl rfl) ((Get.elemN (s := 3) (x := x160) rfl g162.2.2 (Get.here _)).off (by omega)) rfl) ?_
    refine Lst.run rfl rfl (by decide) (Ev.fieldS (α := Hand) (f' := x7.To.toNat * 3 + 1) rfl (Rd.own (i := 5) rfl rfl rfl) ((Get.elemN (s := 3) (x := x160) rfl g162.2.2 (Get.here _)).off (by omega)) rfl Try.runUnderlying135 rfl Try.sizeOf3 rfl rfl rfl) ?_
    obtain ⟨p163, h164, H⟩ := Let_some H
    refine Lst.storeS (i := 5) rfl rfl rfl rfl rfl Try.sizeOf3 (vs := [.int .i64 x7.From]) rfl rfl (by decide) rfl (xs' := encs p163) (by rw [← h164]; exact (Put.elemN (s := 3) (x := x160) rfl g162.2.2 (Hand.put_Boss (Put.here (vs := [.int .i64 x7.From]) rfl))).off (by omega)) (L' := (.blk b43 (enc (OverR.mk ({ Over.zero with Hands := p163, Way := l49 } : Over) s55 s48)) 124) :: (.own s44 209 3 (encs l45)) :: (.own s46 135 3 (encs l47)) :: (.own s48 209 3 (encs l49)) :: (.own s50 112 1 (encs rs52)) :: (.own s55 135 3 (encs p163)) :: (.blk b10 (enc x7) 209) :: (.blk b5 (enc (OverR.mk ({ Over.zero with Hands := ([] : List Hand), Way := ([] : List Word) } : Over) Sl.nil Sl.nil)) 124) :: (.own Sl.nil 209 3 (encs ([] : List Word))) :: (.own Sl.nil 135 3 (encs ([] : List Hand))) :: (.blk b1 (enc (OverR.mk a0 s_a0_0 s_a0_1)) 124) :: L) rfl ?_
    refine Lst.nil ?_
    refine At.then ?_
    refine Cd.seq ?_
    refine Cd.region ?_
    refine Lst.run rfl rfl (by decide) (Ev.loadA (i := 0) rfl rfl Try.isAgg124 Try.sizeOf124 (ch := enc (OverR.mk ({ Over.zero with Hands := p163, Way := l49 } : Over) s55 s48)) (Enc.len _) (Get.here _)) ?_
    refine Lst.store (i := 7) rfl rfl rfl rfl rfl Try.sizeOf124 (vs := enc (OverR.mk ({ Over.zero with Hands := p163, Way := l49 } : Over) s55 s48)) rfl (Enc.len _) (Enc.one _) (cs' := enc (OverR.mk ({ Over.zero with Hands := p163, Way := l49 } : Over) s55 s48)) (Put.here ((Enc.len _).trans (Enc.len _).symm)) (L' := (.blk b43 (enc (OverR.mk ({ Over.zero with Hands := p163, Way := l49 } : Over) s55 s48)) 124) :: (.own s44 209 3 (encs l45)) :: (.own s46 135 3 (encs l47)) :: (.own s48 209 3 (encs l49)) :: (.own s50 112 1 (encs rs52)) :: (.own s55 135 3 (encs p163)) :: (.blk b10 (enc x7) 209) :: (.blk b5 (enc (OverR.mk ({ Over.zero with Hands := p163, Way := l49 } : Over) s55 s48)) 124) :: (.own Sl.nil 209 3 (encs ([] : List Word))) :: (.own Sl.nil 135 3 (encs ([] : List Hand))) :: (.blk b1 (enc (OverR.mk a0 s_a0_0 s_a0_1)) 124) :: L) rfl ?_
    refine Lst.nil ?_
    refine At.then ?_
    obtain rfl := some_inj H
    refine Cd.ret ?_
    refine At.then_ret ?_
    refine At.front (i := 3) rfl rfl ?_
    refine At.front (i := 5) rfl rfl ?_
    exact At.ret1 rfl (Res.cellA (i := 7) rfl rfl Try.isAgg124 Try.sizeOf124 (Enc.len _)) (FLe.trans hF127 hF158) (List.Sublist.cons_cons _ (List.Sublist.cons_cons _ (List.Sublist.cons _ (List.Sublist.cons _ (List.Sublist.cons _ (List.Sublist.cons _ (List.Sublist.cons _ (List.Sublist.cons _ (List.Sublist.cons _ (List.Sublist.cons _ (List.Sublist.cons _ (List.Sublist.refl _)))))))))))) ⟨s55, s48, rfl, rfl⟩
  replace H := ite_f hb159 H
  refine Cd.condF rfl hb159 ?_
  refine Cd.skip ?_
  refine At.then ?_
  refine Cd.seq ?_
  refine Cd.region ?_
  refine Lst.run rfl rfl (by decide) (Ev.fieldAddr (off' := 1) rfl Try.runUnderlying124 rfl Try.sizeOf112 rfl rfl) ?_
  refine Lst.run rfl rfl (by decide) (Ev.load (i := 0) rfl rfl Try.isAgg112 (v := Sl.v s48) ((OverR.get_Way (Get.here _)).off (by rfl))) ?_
  refine Lst.run rfl rfl (by decide) (Ev.fieldAddr (off' := 1) rfl Try.runUnderlying209 rfl Try.sizeOf3 rfl rfl) ?_
  refine Lst.run rfl rfl (by decide) (Ev.load (i := 6) rfl rfl Try.isAgg3 (v := .int .i64 x7.To) ((Word.get_To (Get.here _)).off (by rfl))) ?_
  refine Lst.run rfl rfl (by decide) (Ev.fieldAddr (off' := 0) rfl Try.runUnderlying209 rfl Try.sizeOf3 rfl rfl) ?_
  refine Lst.run rfl rfl (by decide) (Ev.load (i := 6) rfl rfl Try.isAgg3 (v := .int .i64 x7.From) ((Word.get_From (Get.here _)).off (by rfl))) ?_
  refine Lst.run rfl rfl (by decide) (Ev.build (v := .agg (enc ({ Word.zero with From := x7.To, To := x7.From } : Word)).toArray) (pv := [(0, .int .i64 x7.To), (1, .int .i64 x7.From)]) ⟨rfl, rfl, ⟨rfl, rfl, trivial⟩⟩ (fun w => by kernel_rfl)) ?_
  refine Lst.buildSlice (α := Word) (xs := ([({ Word.zero with From := x7.To, To := x7.From } : Word)] : List Word)) (pv := [(0, .agg (enc ({ Word.zero with From := x7.To, To := x7.From } : Word)).toArray)]) rfl rfl (by decide) ⟨rfl, rfl, trivial⟩ (run_buildSlice (α := Word) (z0 := Word.zero) (xs := ([({ Word.zero with From := x7.To, To := x7.From } : Word)] : List Word)) Try.runUnderlying112 Try.sizeOf209 Try.zeroValue209 rfl rfl rfl (by decide) rfl (fill_cons (cs := encs (List.replicate 1 Word.zero)) (cs' := encs ((List.replicate 1 Word.zero).set 0 ({ Word.zero with From := x7.To, To := x7.From } : Word))) (vs := enc ({ Word.zero with From := x7.To, To := x7.From } : Word)) rfl rfl (Enc.len _) ((Put.elemN (s := 3) (i := 0) (x := Word.zero) (y := ({ Word.zero with From := x7.To, To := x7.From } : Word)) rfl rfl (Put.here ((Enc.len _).trans (Enc.len _).symm))).off rfl) fill_nil)) rfl rfl (by decide) (fun s165 _ => ?_)
  obtain ⟨u167, h168, H⟩ := bind_some H
  refine Lst.append (i := 4) (α := Word) (xs := l49) (ys := ([({ Word.zero with From := x7.To, To := x7.From } : Word)] : List Word)) rfl rfl (by decide) rfl rfl Try.runUnderlying112 Try.typeInfo209 rfl rfl rfl rfl rfl rfl (Rd.own (i := 0) rfl rfl rfl) rfl (room_some h168) rfl (fun s169 => ?_)
  refine Lst.its (L' := (.own s165 209 3 (encs ([({ Word.zero with From := x7.To, To := x7.From } : Word)] : List Word))) :: (.blk b43 (enc (OverR.mk ({ Over.zero with Hands := p149, Way := l49 } : Over) s55 s48)) 124) :: (.own s44 209 3 (encs l45)) :: (.own s46 135 3 (encs l47)) :: (.own s169 209 3 (encs (l49 ++ ([({ Word.zero with From := x7.To, To := x7.From } : Word)] : List Word)))) :: (.own s50 112 1 (encs rs52)) :: (.own s55 135 3 (encs p149)) :: (.blk b10 (enc x7) 209) :: (.blk b5 (enc (OverR.mk ({ Over.zero with Hands := ([] : List Hand), Way := ([] : List Word) } : Over) Sl.nil Sl.nil)) 124) :: (.own Sl.nil 209 3 (encs ([] : List Word))) :: (.own Sl.nil 135 3 (encs ([] : List Hand))) :: (.blk b1 (enc (OverR.mk a0 s_a0_0 s_a0_1)) 124) :: L) rfl ?_
  refine Lst.run rfl rfl (by decide) (Ev.fieldAddr (off' := 1) rfl Try.runUnderlying124 rfl Try.sizeOf112 rfl rfl) ?_
  refine Lst.store (i := 1) rfl rfl rfl rfl rfl Try.sizeOf112 (vs := [Sl.v s169]) rfl rfl rfl (cs' := enc (OverR.mk ({ Over.zero with Hands := p149, Way := l49 ++ ([({ Word.zero with From := x7.To, To := x7.From } : Word)] : List Word) } : Over) s55 s169)) ((OverR.put_Way (Put.here (vs := [Sl.v s169]) rfl)).off (by rfl)) (L' := (.own s165 209 3 (encs ([({ Word.zero with From := x7.To, To := x7.From } : Word)] : List Word))) :: (.blk b43 (enc (OverR.mk ({ Over.zero with Hands := p149, Way := l49 ++ ([({ Word.zero with From := x7.To, To := x7.From } : Word)] : List Word) } : Over) s55 s169)) 124) :: (.own s44 209 3 (encs l45)) :: (.own s46 135 3 (encs l47)) :: (.own s169 209 3 (encs (l49 ++ ([({ Word.zero with From := x7.To, To := x7.From } : Word)] : List Word)))) :: (.own s50 112 1 (encs rs52)) :: (.own s55 135 3 (encs p149)) :: (.blk b10 (enc x7) 209) :: (.blk b5 (enc (OverR.mk ({ Over.zero with Hands := ([] : List Hand), Way := ([] : List Word) } : Over) Sl.nil Sl.nil)) 124) :: (.own Sl.nil 209 3 (encs ([] : List Word))) :: (.own Sl.nil 135 3 (encs ([] : List Hand))) :: (.blk b1 (enc (OverR.mk a0 s_a0_0 s_a0_1)) 124) :: L) rfl ?_
  refine Lst.nil ?_
  refine At.then ?_
  refine Cd.seq ?_
  refine Cd.region ?_
  refine Lst.run rfl rfl (by decide) (Ev.loadA (i := 1) rfl rfl Try.isAgg124 Try.sizeOf124 (ch := enc (OverR.mk ({ Over.zero with Hands := p149, Way := l49 ++ ([({ Word.zero with From := x7.To, To := x7.From } : Word)] : List Word) } : Over) s55 s169)) (Enc.len _) (Get.here _)) ?_
  refine Lst.store (i := 8) rfl rfl rfl rfl rfl Try.sizeOf124 (vs := enc (OverR.mk ({ Over.zero with Hands := p149, Way := l49 ++ ([({ Word.zero with From := x7.To, To := x7.From } : Word)] : List Word) } : Over) s55 s169)) rfl (Enc.len _) (Enc.one _) (cs' := enc (OverR.mk ({ Over.zero with Hands := p149, Way := l49 ++ ([({ Word.zero with From := x7.To, To := x7.From } : Word)] : List Word) } : Over) s55 s169)) (Put.here ((Enc.len _).trans (Enc.len _).symm)) (L' := (.own s165 209 3 (encs ([({ Word.zero with From := x7.To, To := x7.From } : Word)] : List Word))) :: (.blk b43 (enc (OverR.mk ({ Over.zero with Hands := p149, Way := l49 ++ ([({ Word.zero with From := x7.To, To := x7.From } : Word)] : List Word) } : Over) s55 s169)) 124) :: (.own s44 209 3 (encs l45)) :: (.own s46 135 3 (encs l47)) :: (.own s169 209 3 (encs (l49 ++ ([({ Word.zero with From := x7.To, To := x7.From } : Word)] : List Word)))) :: (.own s50 112 1 (encs rs52)) :: (.own s55 135 3 (encs p149)) :: (.blk b10 (enc x7) 209) :: (.blk b5 (enc (OverR.mk ({ Over.zero with Hands := p149, Way := l49 ++ ([({ Word.zero with From := x7.To, To := x7.From } : Word)] : List Word) } : Over) s55 s169)) 124) :: (.own Sl.nil 209 3 (encs ([] : List Word))) :: (.own Sl.nil 135 3 (encs ([] : List Hand))) :: (.blk b1 (enc (OverR.mk a0 s_a0_0 s_a0_1)) 124) :: L) rfl ?_
  refine Lst.nil ?_
  refine At.then ?_
  obtain rfl := some_inj H
  refine Cd.ret ?_
  refine At.front (i := 4) rfl rfl ?_
  refine At.front (i := 6) rfl rfl ?_
  exact At.ret1 rfl (Res.cellA (i := 8) rfl rfl Try.isAgg124 Try.sizeOf124 (Enc.len _)) (FLe.trans hF127 hF158) (List.Sublist.cons_cons _ (List.Sublist.cons_cons _ (List.Sublist.cons _ (List.Sublist.cons _ (List.Sublist.cons _ (List.Sublist.cons _ (List.Sublist.cons _ (List.Sublist.cons _ (List.Sublist.cons _ (List.Sublist.cons _ (List.Sublist.cons _ (List.Sublist.cons _ (List.Sublist.refl _))))))))))))) ⟨s55, s169, rfl, rfl⟩
set_option maxRecDepth 20000 in
theorem partref_OverRest_sim {a0 : Over} {a1 : Int} {s_a0_0 : Sl} {s_a0_1 : Sl} {r : Over × Int} (H : partref_OverRest a0 a1 = some r) (w0 : World) (F : Frz) (M L : List Item) (hM : M.Sublist L) (hs_a0_0 : Rd w0 F M s_a0_0 a0.Hands) (hs_a0_1 : Rd w0 F M s_a0_1 a0.Way) : Ok Try.prog w0 83 [.agg (enc (OverR.mk a0 s_a0_0 s_a0_1)).toArray, .int .i64 a1] F (L) (fun _ L' v => ∃ (s73 : Sl) (s75 : Sl), v = .tuple #[.agg (enc (OverR.mk r.1 s73 s75)).toArray, .int .i64 r.2] ∧ L' = (.own s73 135 3 (encs r.1.Hands)) :: (.own s75 209 3 (encs r.1.Way)) :: L) := by
  unfold partref_OverRest at H
  refine Ok.enter (m := 2) (n := 35) Try.func83 rfl rfl rfl (by decide) ?_
  refine Cd.env (e' := [(0, .agg (enc (OverR.mk a0 s_a0_0 s_a0_1)).toArray), (1, .int .i64 a1)]) rfl ?_
  refine Cd.seq ?_
  refine Cd.region ?_
  refine Lst.box rfl rfl (by decide) rfl (cs := enc (OverR.mk a0 s_a0_0 s_a0_1)) rfl (fun b1 => ?_)
  refine Lst.addNil 135 3 ?_
  refine Lst.addNil 209 3 ?_
  refine Lst.alloc (cs := enc (OverR.mk ({ Over.zero with Hands := ([] : List Hand), Way := ([] : List Word) } : Over) Sl.nil Sl.nil)) rfl rfl (by decide) Try.zeroValue124 rfl (fun b5 => ?_)
  refine Lst.run rfl rfl (by decide) (Ev.assign rfl) ?_
  refine Lst.nil ?_
  refine At.then ?_
  refine Cd.seq ?_
  refine Cd.seq ?_
  refine Cd.region ?_
  refine Lst.run rfl rfl (by decide) (Ev.fieldAddr (off' := 0) rfl Try.runUnderlying124 rfl Try.sizeOf122 rfl rfl) ?_
  refine Lst.run rfl rfl (by decide) (Ev.load (i := 3) rfl rfl Try.isAgg122 (v := Sl.v s_a0_0) ((OverR.get_Hands (Get.here _)).off (by rfl))) ?_
  refine Lst.run rfl rfl (by decide) (Ev.move rfl) ?_
  obtain ⟨x7, h8, H⟩ := bind_some H
  have g9 := lat_some h8
  refine Lst.run rfl rfl (by decide) (Ev.indexS (α := Hand) (xs := a0.Hands) rfl rfl Try.runUnderlying122 Try.sizeOf135 rfl (by decide) (hs_a0_0.mono (FLe.refl _) (List.Sublist.cons _ (List.Sublist.cons _ (List.Sublist.cons _ (List.Sublist.cons _ hM))))) g9.1 g9.2.1) ?_
  refine Lst.run rfl rfl (by decide) (Ev.fieldS (α := Hand) (f' := a1.toNat * 3 + 0) rfl (hs_a0_0.mono (FLe.refl _) (List.Sublist.cons _ (List.Sublist.cons _ (List.Sublist.cons _ (List.Sublist.cons _ hM))))) ((Get.elemN (s := 3) (x := x7) rfl g9.2.2 (Get.here _)).off (by omega)) rfl Try.runUnderlying135 rfl Try.sizeOf4 rfl rfl rfl) ?_
  refine Lst.run rfl rfl (by decide) (Ev.loadS (α := Hand) rfl (hs_a0_0.mono (FLe.refl _) (List.Sublist.cons _ (List.Sublist.cons _ (List.Sublist.cons _ (List.Sublist.cons _ hM))))) Try.isAgg4 (v := .bool x7.Busy) ((Get.elemN (s := 3) (x := x7) rfl g9.2.2 (Hand.get_Busy (Get.here _))).off (by omega))) ?_
  refine Lst.run rfl rfl (by decide) (Ev.not rfl) ?_
  refine Lst.nil ?_
  refine At.then ?_
  rcases Bool.eq_false_or_eq_true (!x7.Busy) with hb10 | hb10
  · replace H := ite_t hb10 H
    refine Cd.condT rfl hb10 ?_
    refine Cd.seq ?_
    refine Cd.region ?_
    refine Lst.run rfl rfl (by decide) (Ev.build (v := .agg (enc (OverR.mk Over.zero Sl.nil Sl.nil)).toArray) (pv := []) trivial (fun w => by kernel_rfl)) ?_
    refine Lst.store (i := 0) rfl rfl rfl rfl rfl Try.sizeOf124 (vs := enc (OverR.mk Over.zero Sl.nil Sl.nil)) rfl (Enc.len _) (Enc.one _) (cs' := enc (OverR.mk Over.zero Sl.nil Sl.nil)) (Put.here ((Enc.len _).trans (Enc.len _).symm)) (L' := (.blk b5 (enc (OverR.mk Over.zero Sl.nil Sl.nil)) 124) :: (.own Sl.nil 209 3 (encs ([] : List Word))) :: (.own Sl.nil 135 3 (encs ([] : List Hand))) :: (.blk b1 (enc (OverR.mk a0 s_a0_0 s_a0_1)) 124) :: L) rfl ?_
    refine Lst.run rfl rfl (by decide) (Ev.assign rfl) ?_
    refine Lst.nil ?_
    refine At.then ?_
    obtain rfl := some_inj H
    refine Cd.ret ?_
    refine At.then_ret ?_
    refine At.addNil 135 3 ?_
    refine At.addNil 209 3 ?_
    refine At.front (i := 1) rfl rfl ?_
    exact At.ret2 rfl (Res.cellA (i := 2) rfl rfl Try.isAgg124 Try.sizeOf124 (Enc.len _)) (Res.tmp rfl) (FLe.refl _) (List.Sublist.cons_cons _ (List.Sublist.cons_cons _ (List.Sublist.cons _ (List.Sublist.cons _ (List.Sublist.cons _ (List.Sublist.cons _ (List.Sublist.refl _))))))) ⟨Sl.nil, Sl.nil, rfl, rfl⟩
  replace H := ite_f hb10 H
  refine Cd.condF rfl hb10 ?_
  refine Cd.skip ?_
  refine At.then ?_
  refine Cd.seq ?_
  refine Cd.seq ?_
  refine Cd.region ?_
  refine Lst.run rfl rfl (by decide) (Ev.fieldAddr (off' := 1) rfl Try.runUnderlying124 rfl Try.sizeOf112 rfl rfl) ?_
  refine Lst.run rfl rfl (by decide) (Ev.load (i := 3) rfl rfl Try.isAgg112 (v := Sl.v s_a0_1) ((OverR.get_Way (Get.here _)).off (by rfl))) ?_
  refine Lst.run rfl rfl (by decide) (Ev.lenS (α := Word) (xs := a0.Way) (by decide) rfl rfl Try.runUnderlying112 (hs_a0_1.mono (FLe.refl _) (List.Sublist.cons _ (List.Sublist.cons _ (List.Sublist.cons _ (List.Sublist.cons _ hM)))))) ?_
  refine Lst.run rfl rfl (by decide) (Ev.eql rfl rfl) ?_
  refine Lst.nil ?_
  refine At.then ?_
  rcases Bool.eq_false_or_eq_true ((a0.Way.length : Int) == (100 : Int)) with hb13 | hb13
  · replace H := ite_t hb13 H
    refine Cd.condT rfl hb13 ?_
    refine Cd.seq ?_
    refine Cd.as (e' := [(4, .pointer (some ⟨b5, 0, none⟩))]) (L' := (.blk b5 (enc (OverR.mk ({ Over.zero with Hands := ([] : List Hand), Way := ([] : List Word) } : Over) Sl.nil Sl.nil)) 124) :: (.own Sl.nil 209 3 (encs ([] : List Word))) :: (.own Sl.nil 135 3 (encs ([] : List Hand))) :: (.blk b1 (enc (OverR.mk a0 s_a0_0 s_a0_1)) 124) :: L) ⟨rfl, trivial⟩ rfl ?_
    refine Cd.region ?_
    refine Lst.run rfl rfl (by decide) (Ev.build (v := .agg (enc (OverR.mk Over.zero Sl.nil Sl.nil)).toArray) (pv := []) trivial (fun w => by kernel_rfl)) ?_
    refine Lst.store (i := 0) rfl rfl rfl rfl rfl Try.sizeOf124 (vs := enc (OverR.mk Over.zero Sl.nil Sl.nil)) rfl (Enc.len _) (Enc.one _) (cs' := enc (OverR.mk Over.zero Sl.nil Sl.nil)) (Put.here ((Enc.len _).trans (Enc.len _).symm)) (L' := (.blk b5 (enc (OverR.mk Over.zero Sl.nil Sl.nil)) 124) :: (.own Sl.nil 209 3 (encs ([] : List Word))) :: (.own Sl.nil 135 3 (encs ([] : List Hand))) :: (.blk b1 (enc (OverR.mk a0 s_a0_0 s_a0_1)) 124) :: L) rfl ?_
    refine Lst.run rfl rfl (by decide) (Ev.assign rfl) ?_
    refine Lst.nil ?_
    refine At.then ?_
    obtain rfl := some_inj H
    refine Cd.ret ?_
    refine At.then_ret ?_
    refine At.addNil 135 3 ?_
    refine At.addNil 209 3 ?_
    refine At.front (i := 1) rfl rfl ?_
    exact At.ret2 rfl (Res.cellA (i := 2) rfl rfl Try.isAgg124 Try.sizeOf124 (Enc.len _)) (Res.tmp rfl) (FLe.refl _) (List.Sublist.cons_cons _ (List.Sublist.cons_cons _ (List.Sublist.cons _ (List.Sublist.cons _ (List.Sublist.cons _ (List.Sublist.cons _ (List.Sublist.refl _))))))) ⟨Sl.nil, Sl.nil, rfl, rfl⟩
  replace H := ite_f hb13 H
  refine Cd.condF rfl hb13 ?_
  refine Cd.skip ?_
  refine At.then ?_
  refine Cd.seq ?_
  obtain ⟨r16, h17, H⟩ := bind_some H
  obtain ⟨r22, h23, H⟩ := bind_some H
  obtain ⟨o42, h43, H⟩ := Let_some H
  refine Cd.headMeet (σ := Nat × Sl × (List Word) × Sl × (List Hand) × Sl × (List Word) × Sl × (List Hand)) 8 (fun (b33, s34, l35, s36, l37, s38, l39, s40, l41) => [(1, .int .i64 a1), (4, .pointer (some ⟨b5, 0, none⟩)), (6, .pointer (some ⟨b33, 0, none⟩)), (26, .agg (enc (OverR.mk ({ Over.zero with Hands := l41, Way := l39 } : Over) s40 s38)).toArray)]) (fun (b33, s34, l35, s36, l37, s38, l39, s40, l41) => (.blk b33 (enc (OverR.mk ({ Over.zero with Hands := l37, Way := l35 } : Over) s36 s34)) 124) :: (.own s34 209 3 (encs l35)) :: (.own s36 135 3 (encs l37)) :: (.own s38 209 3 (encs l39)) :: (.own s40 135 3 (encs l41)) :: (.blk b5 (enc (OverR.mk ({ Over.zero with Hands := ([] : List Hand), Way := ([] : List Word) } : Over) Sl.nil Sl.nil)) 124) :: (.own Sl.nil 209 3 (encs ([] : List Word))) :: (.own Sl.nil 135 3 (encs ([] : List Hand))) :: (.blk b1 (enc (OverR.mk a0 s_a0_0 s_a0_1)) 124) :: L) (fun _ (b33, s34, l35, s36, l37, s38, l39, s40, l41) => (l35, l37, l39, l41) = o42) (by kernel_rfl) (by kernel_rfl) (behind_sink (by kernel_rfl) (by kernel_rfl) (by kernel_rfl)) (by kernel_rfl) (fun hsel hlt => ?_) ?_
  · refine HdJ.keep (fun w => St w0 F ((.blk b5 (enc (OverR.mk ({ Over.zero with Hands := ([] : List Hand), Way := ([] : List Word) } : Over) Sl.nil Sl.nil)) 124) :: (.own Sl.nil 209 3 (encs ([] : List Word))) :: (.own Sl.nil 135 3 (encs ([] : List Hand))) :: (.blk b1 (enc (OverR.mk a0 s_a0_0 s_a0_1)) 124) :: L) w) (fun w h => trivial) ?_
    refine HdJ.takeK hsel hlt 0 (fun w h => h.sublist (List.Sublist.cons_cons _ (List.Sublist.cons_cons _ (List.Sublist.cons_cons _ (List.Sublist.cons_cons _ (List.Sublist.refl _)))))) rfl rfl (by decide) (by decide) (by kernel_rfl) (by kernel_rfl) rfl (Ev.fieldAddr (off' := 0) rfl Try.runUnderlying124 rfl Try.sizeOf122 rfl rfl) ?_
    refine HdJ.takeK hsel hlt 1 (fun w h => h.sublist (List.Sublist.cons_cons _ (List.Sublist.cons_cons _ (List.Sublist.cons_cons _ (List.Sublist.cons_cons _ (List.Sublist.refl _)))))) rfl rfl (by decide) (by decide) (by kernel_rfl) (by kernel_rfl) rfl (Ev.load (i := 3) rfl rfl Try.isAgg122 (v := Sl.v s_a0_0) ((OverR.get_Hands (Get.here _)).off (by rfl))) ?_
    refine HdJ.takeK hsel hlt 3 (fun w h => h.sublist (List.Sublist.cons_cons _ (List.Sublist.cons_cons _ (List.Sublist.cons_cons _ (List.Sublist.cons_cons _ (List.Sublist.refl _)))))) rfl rfl (by decide) (by decide) (by kernel_rfl) (by kernel_rfl) rfl (Ev.fieldAddr (off' := 1) rfl Try.runUnderlying124 rfl Try.sizeOf112 rfl rfl) ?_
    refine HdJ.takeK hsel hlt 4 (fun w h => h.sublist (List.Sublist.cons_cons _ (List.Sublist.cons_cons _ (List.Sublist.cons_cons _ (List.Sublist.cons_cons _ (List.Sublist.refl _)))))) rfl rfl (by decide) (by decide) (by kernel_rfl) (by kernel_rfl) rfl (Ev.load (i := 3) rfl rfl Try.isAgg112 (v := Sl.v s_a0_1) ((OverR.get_Way (Get.here _)).off (by rfl))) ?_
    refine HdJ.step [2, 7] (by kernel_rfl) rfl ?_
    refine HdStep.cons (by decide) rfl (fun inv => ?_) ?_
    · refine Lst.call rfl rfl (by decide) (vs := [Sl.v s_a0_0]) ⟨rfl, trivial⟩ Try.call171 (slices_Clone_api_Hand_api_Hand_sim h17 w0 _ M _ (List.Sublist.cons _ (List.Sublist.cons _ (List.Sublist.cons _ (List.Sublist.cons _ hM)))) (hs_a0_0.mono (FLe.refl _) (List.Sublist.refl _))) (fun F45 L' v hF46 hv => ?_)
      obtain ⟨s44, rfl, rfl⟩ := hv
      refine Lst.nil ?_
      refine At.hd inv (fun w h => (h.weaken hF46).sublist (List.Sublist.cons _ (List.Sublist.cons_cons _ (List.Sublist.cons_cons _ (List.Sublist.cons_cons _ (List.Sublist.cons_cons _ (List.Sublist.refl _))))))) ?_
      refine HdJ.step [5, 7] (by kernel_rfl) rfl ?_
      refine HdStep.cons (by decide) rfl (fun inv => ?_) ?_
      · refine Lst.call rfl rfl (by decide) (vs := [Sl.v s_a0_1]) ⟨rfl, trivial⟩ Try.call173 (slices_Clone_api_Word_api_Word_sim h23 w0 _ M _ (List.Sublist.cons _ (List.Sublist.cons _ (List.Sublist.cons _ (List.Sublist.cons _ (List.Sublist.cons _ hM))))) (hs_a0_1.mono hF46 (List.Sublist.refl _))) (fun F48 L' v hF49 hv => ?_)
        obtain ⟨s47, rfl, rfl⟩ := hv
        refine Lst.nil ?_
        refine At.hd inv (fun w h => (h.weaken (FLe.trans hF46 hF49)).sublist (List.Sublist.cons _ (List.Sublist.cons _ (List.Sublist.cons_cons _ (List.Sublist.cons_cons _ (List.Sublist.cons_cons _ (List.Sublist.cons_cons _ (List.Sublist.refl _)))))))) ?_
        refine HdJ.keep (fun w => St w0 F48 ((.own s47 209 3 (encs r22)) :: (.own s44 135 3 (encs r16)) :: (.blk b5 (enc (OverR.mk ({ Over.zero with Hands := ([] : List Hand), Way := ([] : List Word) } : Over) Sl.nil Sl.nil)) 124) :: (.own Sl.nil 209 3 (encs ([] : List Word))) :: (.own Sl.nil 135 3 (encs ([] : List Hand))) :: (.blk b1 (enc (OverR.mk a0 s_a0_0 s_a0_1)) 124) :: L) w) (fun w h => (h.weaken (FLe.trans hF46 hF49)).sublist (List.Sublist.cons _ (List.Sublist.cons _ (List.Sublist.cons_cons _ (List.Sublist.cons_cons _ (List.Sublist.cons_cons _ (List.Sublist.cons_cons _ (List.Sublist.refl _)))))))) ?_
        refine HdJ.takeK hsel hlt 6 (fun w h => h.sublist (List.Sublist.cons_cons _ (List.Sublist.cons_cons _ (List.Sublist.cons_cons _ (List.Sublist.cons_cons _ (List.Sublist.cons_cons _ (List.Sublist.cons_cons _ (List.Sublist.refl _)))))))) rfl rfl (by decide) (by decide) (by kernel_rfl) (by kernel_rfl) rfl (Ev.build (v := .agg (enc (OverR.mk ({ Over.zero with Hands := r16, Way := r22 } : Over) s44 s47)).toArray) (pv := [(0, Sl.v s44), (1, Sl.v s47)]) ⟨rfl, rfl, ⟨rfl, rfl, trivial⟩⟩ (run_buildStruct (places := #[(0, 1), (1, 1)]) Try.zeroValue124 (zs := enc (OverR.mk Over.zero Sl.nil Sl.nil)) rfl Try.runUnderlying124 (fun w => by kernel_rfl) (fill_cons (cs := enc (OverR.mk Over.zero Sl.nil Sl.nil)) (cs' := enc (OverR.mk ({ Over.zero with Hands := r16 } : Over) s44 Sl.nil)) (vs := [Sl.v s44]) rfl rfl rfl ((OverR.put_Hands (p := (OverR.mk Over.zero Sl.nil Sl.nil)) (y := s44) (Put.here (vs := [Sl.v s44]) rfl)).off rfl) (fill_cons (cs := enc (OverR.mk ({ Over.zero with Hands := r16 } : Over) s44 Sl.nil)) (cs' := enc (OverR.mk ({ Over.zero with Hands := r16, Way := r22 } : Over) s44 s47)) (vs := [Sl.v s47]) rfl rfl rfl ((OverR.put_Way (p := (OverR.mk ({ Over.zero with Hands := r16 } : Over) s44 Sl.nil)) (y := s47) (Put.here (vs := [Sl.v s47]) rfl)).off rfl) fill_nil)))) ?_
        refine HdJ.step [7] (by kernel_rfl) rfl ?_
        refine HdStep.cons (by decide) rfl (fun inv => ?_) ?_
        · refine Lst.addNil 135 3 ?_
          refine Lst.addNil 209 3 ?_
          refine Lst.alloc (cs := enc (OverR.mk ({ Over.zero with Hands := ([] : List Hand), Way := ([] : List Word) } : Over) Sl.nil Sl.nil)) rfl rfl (by decide) Try.zeroValue124 rfl (fun b50 => ?_)
          refine Lst.nil ?_
          refine At.hd inv (fun w h => (h.weaken (FLe.refl _)).sublist (List.Sublist.cons _ (List.Sublist.cons _ (List.Sublist.cons _ (List.Sublist.cons_cons _ (List.Sublist.cons_cons _ (List.Sublist.cons_cons _ (List.Sublist.cons_cons _ (List.Sublist.cons_cons _ (List.Sublist.cons_cons _ (List.Sublist.refl _))))))))))) ?_
          refine HdJ.done (by kernel_rfl) ?_
          exact At.meetN (b50, Sl.nil, ([] : List Word), Sl.nil, ([] : List Hand), s47, r22, s44, r16) (FLe.trans hF46 hF49) ⟨rfl, rfl, rfl, rfl, trivial⟩ rfl h43
        exact trivial
      refine HdStep.cons (by decide) rfl (fun inv => ?_) ?_
      · refine Lst.addNil 135 3 ?_
        refine Lst.addNil 209 3 ?_
        refine Lst.alloc (cs := enc (OverR.mk ({ Over.zero with Hands := ([] : List Hand), Way := ([] : List Word) } : Over) Sl.nil Sl.nil)) rfl rfl (by decide) Try.zeroValue124 rfl (fun b51 => ?_)
        refine Lst.nil ?_
        refine At.hd inv (fun w h => (h.weaken hF46).sublist (List.Sublist.cons _ (List.Sublist.cons _ (List.Sublist.cons _ (List.Sublist.cons _ (List.Sublist.cons_cons _ (List.Sublist.cons_cons _ (List.Sublist.cons_cons _ (List.Sublist.cons_cons _ (List.Sublist.refl _)))))))))) ?_
        refine HdJ.step [5] (by kernel_rfl) rfl ?_
        refine HdStep.cons (by decide) rfl (fun inv => ?_) ?_
        · refine Lst.call rfl rfl (by decide) (vs := [Sl.v s_a0_1]) ⟨rfl, trivial⟩ Try.call173 (slices_Clone_api_Word_api_Word_sim h23 w0 _ M _ (List.Sublist.cons _ (List.Sublist.cons _ (List.Sublist.cons _ (List.Sublist.cons _ (List.Sublist.cons _ (List.Sublist.cons _ (List.Sublist.cons _ (List.Sublist.cons _ hM)))))))) (hs_a0_1.mono hF46 (List.Sublist.refl _))) (fun F53 L' v hF54 hv => ?_)
          obtain ⟨s52, rfl, rfl⟩ := hv
          refine Lst.nil ?_
          refine At.hd inv (fun w h => (h.weaken (FLe.trans hF46 hF54)).sublist (List.Sublist.cons _ (List.Sublist.cons _ (List.Sublist.cons _ (List.Sublist.cons _ (List.Sublist.cons _ (List.Sublist.cons_cons _ (List.Sublist.cons_cons _ (List.Sublist.cons_cons _ (List.Sublist.cons_cons _ (List.Sublist.refl _))))))))))) ?_
          refine HdJ.keep (fun w => St w0 F53 ((.own s52 209 3 (encs r22)) :: (.blk b51 (enc (OverR.mk ({ Over.zero with Hands := ([] : List Hand), Way := ([] : List Word) } : Over) Sl.nil Sl.nil)) 124) :: (.own Sl.nil 209 3 (encs ([] : List Word))) :: (.own Sl.nil 135 3 (encs ([] : List Hand))) :: (.own s44 135 3 (encs r16)) :: (.blk b5 (enc (OverR.mk ({ Over.zero with Hands := ([] : List Hand), Way := ([] : List Word) } : Over) Sl.nil Sl.nil)) 124) :: (.own Sl.nil 209 3 (encs ([] : List Word))) :: (.own Sl.nil 135 3 (encs ([] : List Hand))) :: (.blk b1 (enc (OverR.mk a0 s_a0_0 s_a0_1)) 124) :: L) w) (fun w h => (h.weaken (FLe.trans hF46 hF54)).sublist (List.Sublist.cons _ (List.Sublist.cons _ (List.Sublist.cons _ (List.Sublist.cons _ (List.Sublist.cons _ (List.Sublist.cons_cons _ (List.Sublist.cons_cons _ (List.Sublist.cons_cons _ (List.Sublist.cons_cons _ (List.Sublist.refl _))))))))))) ?_
          refine HdJ.takeK hsel hlt 6 (fun w h => h.sublist (List.Sublist.cons_cons _ (List.Sublist.cons_cons _ (List.Sublist.cons_cons _ (List.Sublist.cons_cons _ (List.Sublist.cons_cons _ (List.Sublist.cons_cons _ (List.Sublist.cons_cons _ (List.Sublist.cons_cons _ (List.Sublist.cons_cons _ (List.Sublist.refl _))))))))))) rfl rfl (by decide) (by decide) (by kernel_rfl) (by kernel_rfl) rfl (Ev.build (v := .agg (enc (OverR.mk ({ Over.zero with Hands := r16, Way := r22 } : Over) s44 s52)).toArray) (pv := [(0, Sl.v s44), (1, Sl.v s52)]) ⟨rfl, rfl, ⟨rfl, rfl, trivial⟩⟩ (run_buildStruct (places := #[(0, 1), (1, 1)]) Try.zeroValue124 (zs := enc (OverR.mk Over.zero Sl.nil Sl.nil)) rfl Try.runUnderlying124 (fun w => by kernel_rfl) (fill_cons (cs := enc (OverR.mk Over.zero Sl.nil Sl.nil)) (cs' := enc (OverR.mk ({ Over.zero with Hands := r16 } : Over) s44 Sl.nil)) (vs := [Sl.v s44]) rfl rfl rfl ((OverR.put_Hands (p := (OverR.mk Over.zero Sl.nil Sl.nil)) (y := s44) (Put.here (vs := [Sl.v s44]) rfl)).off rfl) (fill_cons (cs := enc (OverR.mk ({ Over.zero with Hands := r16 } : Over) s44 Sl.nil)) (cs' := enc (OverR.mk ({ Over.zero with Hands := r16, Way := r22 } : Over) s44 s52)) (vs := [Sl.v s52]) rfl rfl rfl ((OverR.put_Way (p := (OverR.mk ({ Over.zero with Hands := r16 } : Over) s44 Sl.nil)) (y := s52) (Put.here (vs := [Sl.v s52]) rfl)).off rfl) fill_nil)))) ?_
          refine HdJ.done (by kernel_rfl) ?_
          refine At.front (i := 8) rfl rfl ?_
          refine At.front (i := 8) rfl rfl ?_
          refine At.front (i := 8) rfl rfl ?_
          refine At.front (i := 8) rfl rfl ?_
          refine At.front (i := 8) rfl rfl ?_
          refine At.front (i := 5) rfl rfl ?_
          refine At.front (i := 8) rfl rfl ?_
          refine At.front (i := 8) rfl rfl ?_
          refine At.front (i := 8) rfl rfl ?_
          exact At.meetN (b51, Sl.nil, ([] : List Word), Sl.nil, ([] : List Hand), s52, r22, s44, r16) (FLe.trans hF46 hF54) ⟨rfl, rfl, rfl, rfl, trivial⟩ rfl h43
        exact trivial
      exact trivial
    refine HdStep.cons (by decide) rfl (fun inv => ?_) ?_
    · refine Lst.addNil 135 3 ?_
      refine Lst.addNil 209 3 ?_
      refine Lst.alloc (cs := enc (OverR.mk ({ Over.zero with Hands := ([] : List Hand), Way := ([] : List Word) } : Over) Sl.nil Sl.nil)) rfl rfl (by decide) Try.zeroValue124 rfl (fun b55 => ?_)
      refine Lst.nil ?_
      refine At.hd inv (fun w h => (h.weaken (FLe.refl _)).sublist (List.Sublist.cons _ (List.Sublist.cons _ (List.Sublist.cons _ (List.Sublist.cons_cons _ (List.Sublist.cons_cons _ (List.Sublist.cons_cons _ (List.Sublist.cons_cons _ (List.Sublist.refl _))))))))) ?_
      refine HdJ.step [2] (by kernel_rfl) rfl ?_
      refine HdStep.cons (by decide) rfl (fun inv => ?_) ?_
      · refine Lst.call rfl rfl (by decide) (vs := [Sl.v s_a0_0]) ⟨rfl, trivial⟩ Try.call171 (slices_Clone_api_Hand_api_Hand_sim h17 w0 _ M _ (List.Sublist.cons _ (List.Sublist.cons _ (List.Sublist.cons _ (List.Sublist.cons _ (List.Sublist.cons _ (List.Sublist.cons _ (List.Sublist.cons _ hM))))))) (hs_a0_0.mono (FLe.refl _) (List.Sublist.refl _))) (fun F57 L' v hF58 hv => ?_)
        obtain ⟨s56, rfl, rfl⟩ := hv
        refine Lst.nil ?_
        refine At.hd inv (fun w h => (h.weaken hF58).sublist (List.Sublist.cons _ (List.Sublist.cons _ (List.Sublist.cons _ (List.Sublist.cons _ (List.Sublist.cons_cons _ (List.Sublist.cons_cons _ (List.Sublist.cons_cons _ (List.Sublist.cons_cons _ (List.Sublist.refl _)))))))))) ?_
        refine HdJ.step [5] (by kernel_rfl) rfl ?_
        refine HdStep.cons (by decide) rfl (fun inv => ?_) ?_
        · refine Lst.call rfl rfl (by decide) (vs := [Sl.v s_a0_1]) ⟨rfl, trivial⟩ Try.call173 (slices_Clone_api_Word_api_Word_sim h23 w0 _ M _ (List.Sublist.cons _ (List.Sublist.cons _ (List.Sublist.cons _ (List.Sublist.cons _ (List.Sublist.cons _ (List.Sublist.cons _ (List.Sublist.cons _ (List.Sublist.cons _ hM)))))))) (hs_a0_1.mono hF58 (List.Sublist.refl _))) (fun F60 L' v hF61 hv => ?_)
          obtain ⟨s59, rfl, rfl⟩ := hv
          refine Lst.nil ?_
          refine At.hd inv (fun w h => (h.weaken (FLe.trans hF58 hF61)).sublist (List.Sublist.cons _ (List.Sublist.cons _ (List.Sublist.cons _ (List.Sublist.cons _ (List.Sublist.cons _ (List.Sublist.cons_cons _ (List.Sublist.cons_cons _ (List.Sublist.cons_cons _ (List.Sublist.cons_cons _ (List.Sublist.refl _))))))))))) ?_
          refine HdJ.keep (fun w => St w0 F60 ((.own s59 209 3 (encs r22)) :: (.own s56 135 3 (encs r16)) :: (.blk b55 (enc (OverR.mk ({ Over.zero with Hands := ([] : List Hand), Way := ([] : List Word) } : Over) Sl.nil Sl.nil)) 124) :: (.own Sl.nil 209 3 (encs ([] : List Word))) :: (.own Sl.nil 135 3 (encs ([] : List Hand))) :: (.blk b5 (enc (OverR.mk ({ Over.zero with Hands := ([] : List Hand), Way := ([] : List Word) } : Over) Sl.nil Sl.nil)) 124) :: (.own Sl.nil 209 3 (encs ([] : List Word))) :: (.own Sl.nil 135 3 (encs ([] : List Hand))) :: (.blk b1 (enc (OverR.mk a0 s_a0_0 s_a0_1)) 124) :: L) w) (fun w h => (h.weaken (FLe.trans hF58 hF61)).sublist (List.Sublist.cons _ (List.Sublist.cons _ (List.Sublist.cons _ (List.Sublist.cons _ (List.Sublist.cons _ (List.Sublist.cons_cons _ (List.Sublist.cons_cons _ (List.Sublist.cons_cons _ (List.Sublist.cons_cons _ (List.Sublist.refl _))))))))))) ?_
          refine HdJ.takeK hsel hlt 6 (fun w h => h.sublist (List.Sublist.cons_cons _ (List.Sublist.cons_cons _ (List.Sublist.cons_cons _ (List.Sublist.cons_cons _ (List.Sublist.cons_cons _ (List.Sublist.cons_cons _ (List.Sublist.cons_cons _ (List.Sublist.cons_cons _ (List.Sublist.cons_cons _ (List.Sublist.refl _))))))))))) rfl rfl (by decide) (by decide) (by kernel_rfl) (by kernel_rfl) rfl (Ev.build (v := .agg (enc (OverR.mk ({ Over.zero with Hands := r16, Way := r22 } : Over) s56 s59)).toArray) (pv := [(0, Sl.v s56), (1, Sl.v s59)]) ⟨rfl, rfl, ⟨rfl, rfl, trivial⟩⟩ (run_buildStruct (places := #[(0, 1), (1, 1)]) Try.zeroValue124 (zs := enc (OverR.mk Over.zero Sl.nil Sl.nil)) rfl Try.runUnderlying124 (fun w => by kernel_rfl) (fill_cons (cs := enc (OverR.mk Over.zero Sl.nil Sl.nil)) (cs' := enc (OverR.mk ({ Over.zero with Hands := r16 } : Over) s56 Sl.nil)) (vs := [Sl.v s56]) rfl rfl rfl ((OverR.put_Hands (p := (OverR.mk Over.zero Sl.nil Sl.nil)) (y := s56) (Put.here (vs := [Sl.v s56]) rfl)).off rfl) (fill_cons (cs := enc (OverR.mk ({ Over.zero with Hands := r16 } : Over) s56 Sl.nil)) (cs' := enc (OverR.mk ({ Over.zero with Hands := r16, Way := r22 } : Over) s56 s59)) (vs := [Sl.v s59]) rfl rfl rfl ((OverR.put_Way (p := (OverR.mk ({ Over.zero with Hands := r16 } : Over) s56 Sl.nil)) (y := s59) (Put.here (vs := [Sl.v s59]) rfl)).off rfl) fill_nil)))) ?_
          refine HdJ.done (by kernel_rfl) ?_
          refine At.front (i := 8) rfl rfl ?_
          refine At.front (i := 8) rfl rfl ?_
          refine At.front (i := 8) rfl rfl ?_
          refine At.front (i := 8) rfl rfl ?_
          refine At.front (i := 5) rfl rfl ?_
          refine At.front (i := 5) rfl rfl ?_
          refine At.front (i := 8) rfl rfl ?_
          refine At.front (i := 8) rfl rfl ?_
          refine At.front (i := 8) rfl rfl ?_
          exact At.meetN (b55, Sl.nil, ([] : List Word), Sl.nil, ([] : List Hand), s59, r22, s56, r16) (FLe.trans hF58 hF61) ⟨rfl, rfl, rfl, rfl, trivial⟩ rfl h43
        exact trivial
      exact trivial
    exact trivial
  rintro F62 ⟨b33, s34, l35, s36, l37, s38, l39, s40, l41⟩ hF63 hy
  subst hy
  refine Lst.as (e' := [(1, .int .i64 a1), (4, .pointer (some ⟨b5, 0, none⟩)), (6, .pointer (some ⟨b33, 0, none⟩)), (26, .agg (enc (OverR.mk ({ Over.zero with Hands := l41, Way := l39 } : Over) s40 s38)).toArray)]) (L' := (.blk b33 (enc (OverR.mk ({ Over.zero with Hands := l37, Way := l35 } : Over) s36 s34)) 124) :: (.own s34 209 3 (encs l35)) :: (.own s36 135 3 (encs l37)) :: (.own s38 209 3 (encs l39)) :: (.own s40 135 3 (encs l41)) :: (.blk b5 (enc (OverR.mk ({ Over.zero with Hands := ([] : List Hand), Way := ([] : List Word) } : Over) Sl.nil Sl.nil)) 124) :: (.own Sl.nil 209 3 (encs ([] : List Word))) :: (.own Sl.nil 135 3 (encs ([] : List Hand))) :: (.blk b1 (enc (OverR.mk a0 s_a0_0 s_a0_1)) 124) :: L) ⟨rfl, rfl, rfl, rfl, trivial⟩ rfl ?_
  refine Lst.store (i := 0) rfl rfl rfl rfl rfl Try.sizeOf124 (vs := enc (OverR.mk ({ Over.zero with Hands := l41, Way := l39 } : Over) s40 s38)) rfl (Enc.len _) (Enc.one _) (cs' := enc (OverR.mk ({ Over.zero with Hands := l41, Way := l39 } : Over) s40 s38)) (Put.here ((Enc.len _).trans (Enc.len _).symm)) (L' := (.blk b33 (enc (OverR.mk ({ Over.zero with Hands := l41, Way := l39 } : Over) s40 s38)) 124) :: (.own s34 209 3 (encs l35)) :: (.own s36 135 3 (encs l37)) :: (.own s38 209 3 (encs l39)) :: (.own s40 135 3 (encs l41)) :: (.blk b5 (enc (OverR.mk ({ Over.zero with Hands := ([] : List Hand), Way := ([] : List Word) } : Over) Sl.nil Sl.nil)) 124) :: (.own Sl.nil 209 3 (encs ([] : List Word))) :: (.own Sl.nil 135 3 (encs ([] : List Hand))) :: (.blk b1 (enc (OverR.mk a0 s_a0_0 s_a0_1)) 124) :: L) rfl ?_
  refine Lst.nil ?_
  refine At.then ?_
  refine Cd.seq ?_
  refine Cd.region ?_
  refine Lst.run rfl rfl (by decide) (Ev.fieldAddr (off' := 0) rfl Try.runUnderlying124 rfl Try.sizeOf122 rfl rfl) ?_
  refine Lst.run rfl rfl (by decide) (Ev.load (i := 0) rfl rfl Try.isAgg122 (v := Sl.v s40) ((OverR.get_Hands (Get.here _)).off (by rfl))) ?_
  refine Lst.run rfl rfl (by decide) (Ev.move rfl) ?_
  obtain ⟨x64, h65, H⟩ := bind_some H
  have g66 := lat_some h65
  refine Lst.run rfl rfl (by decide) (Ev.indexS (α := Hand) (xs := l41) rfl rfl Try.runUnderlying122 Try.sizeOf135 rfl (by decide) (Rd.own (i := 4) rfl rfl rfl) g66.1 g66.2.1) ?_
  refine Lst.run rfl rfl (by decide) (Ev.fieldS (α := Hand) (f' := a1.toNat * 3 + 0) rfl (Rd.own (i := 4) rfl rfl rfl) ((Get.elemN (s := 3) (x := x64) rfl g66.2.2 (Get.here _)).off (by omega)) rfl Try.runUnderlying135 rfl Try.sizeOf4 rfl rfl rfl) ?_
  obtain ⟨p67, h68, H⟩ := Let_some H
  refine Lst.storeS (i := 4) rfl rfl rfl rfl rfl Try.sizeOf4 (vs := [.bool false]) rfl rfl (by decide) rfl (xs' := encs p67) (by rw [← h68]; exact (Put.elemN (s := 3) (x := x64) rfl g66.2.2 (Hand.put_Busy (Put.here (vs := [.bool false]) rfl))).off (by omega)) (L' := (.blk b33 (enc (OverR.mk ({ Over.zero with Hands := p67, Way := l39 } : Over) s40 s38)) 124) :: (.own s34 209 3 (encs l35)) :: (.own s36 135 3 (encs l37)) :: (.own s38 209 3 (encs l39)) :: (.own s40 135 3 (encs p67)) :: (.blk b5 (enc (OverR.mk ({ Over.zero with Hands := ([] : List Hand), Way := ([] : List Word) } : Over) Sl.nil Sl.nil)) 124) :: (.own Sl.nil 209 3 (encs ([] : List Word))) :: (.own Sl.nil 135 3 (encs ([] : List Hand))) :: (.blk b1 (enc (OverR.mk a0 s_a0_0 s_a0_1)) 124) :: L) rfl ?_
  refine Lst.nil ?_
  refine At.then ?_
  refine Cd.seq ?_
  refine Cd.region ?_
  refine Lst.run rfl rfl (by decide) (Ev.loadA (i := 0) rfl rfl Try.isAgg124 Try.sizeOf124 (ch := enc (OverR.mk ({ Over.zero with Hands := p67, Way := l39 } : Over) s40 s38)) (Enc.len _) (Get.here _)) ?_
  refine Lst.run rfl rfl (by decide) (Ev.move rfl) ?_
  obtain ⟨r69, h70, H⟩ := bind_some H
  refine Lst.front (i := 3) rfl (L' := (.own s38 209 3 (encs l39)) :: (.blk b33 (enc (OverR.mk ({ Over.zero with Hands := p67, Way := l39 } : Over) s40 s38)) 124) :: (.own s34 209 3 (encs l35)) :: (.own s36 135 3 (encs l37)) :: (.own s40 135 3 (encs p67)) :: (.blk b5 (enc (OverR.mk ({ Over.zero with Hands := ([] : List Hand), Way := ([] : List Word) } : Over) Sl.nil Sl.nil)) 124) :: (.own Sl.nil 209 3 (encs ([] : List Word))) :: (.own Sl.nil 135 3 (encs ([] : List Hand))) :: (.blk b1 (enc (OverR.mk a0 s_a0_0 s_a0_1)) 124) :: L) rfl ?_
  refine Lst.front (i := 4) rfl (L' := (.own s40 135 3 (encs p67)) :: (.own s38 209 3 (encs l39)) :: (.blk b33 (enc (OverR.mk ({ Over.zero with Hands := p67, Way := l39 } : Over) s40 s38)) 124) :: (.own s34 209 3 (encs l35)) :: (.own s36 135 3 (encs l37)) :: (.blk b5 (enc (OverR.mk ({ Over.zero with Hands := ([] : List Hand), Way := ([] : List Word) } : Over) Sl.nil Sl.nil)) 124) :: (.own Sl.nil 209 3 (encs ([] : List Word))) :: (.own Sl.nil 135 3 (encs ([] : List Hand))) :: (.blk b1 (enc (OverR.mk a0 s_a0_0 s_a0_1)) 124) :: L) rfl ?_
  refine Lst.call rfl rfl (by decide) (vs := [.agg (enc (OverR.mk ({ Over.zero with Hands := p67, Way := l39 } : Over) s40 s38)).toArray, .int .i64 a1]) ⟨rfl, rfl, trivial⟩ Try.call172 (partref_overThanks_sim h70 w0 _ M _ (List.Sublist.cons _ (List.Sublist.cons _ (List.Sublist.cons _ (List.Sublist.cons _ (List.Sublist.cons _ (List.Sublist.cons _ (List.Sublist.cons _ hM)))))))) (fun F75 L' v hF76 hv => ?_)
  obtain ⟨s71, s73, rfl, rfl⟩ := hv
  refine Lst.store (i := 5) rfl rfl rfl rfl rfl Try.sizeOf124 (vs := enc (OverR.mk r69 s71 s73)) rfl (Enc.len _) (Enc.one _) (cs' := enc (OverR.mk r69 s71 s73)) (Put.here ((Enc.len _).trans (Enc.len _).symm)) (L' := (.own s71 135 3 (encs r69.Hands)) :: (.own s73 209 3 (encs r69.Way)) :: (.blk b33 (enc (OverR.mk ({ Over.zero with Hands := p67, Way := l39 } : Over) s40 s38)) 124) :: (.own s34 209 3 (encs l35)) :: (.own s36 135 3 (encs l37)) :: (.blk b5 (enc (OverR.mk r69 s71 s73)) 124) :: (.own Sl.nil 209 3 (encs ([] : List Word))) :: (.own Sl.nil 135 3 (encs ([] : List Hand))) :: (.blk b1 (enc (OverR.mk a0 s_a0_0 s_a0_1)) 124) :: L) rfl ?_
  refine Lst.run rfl rfl (by decide) (Ev.assign rfl) ?_
  refine Lst.nil ?_
  refine At.then ?_
  obtain rfl := some_inj H
  refine Cd.ret ?_
  exact At.ret2 rfl (Res.cellA (i := 5) rfl rfl Try.isAgg124 Try.sizeOf124 (Enc.len _)) (Res.tmp rfl) (FLe.trans hF63 hF76) (List.Sublist.cons_cons _ (List.Sublist.cons_cons _ (List.Sublist.cons _ (List.Sublist.cons _ (List.Sublist.cons _ (List.Sublist.cons _ (List.Sublist.cons _ (List.Sublist.cons _ (List.Sublist.cons _ (List.Sublist.refl _)))))))))) ⟨s71, s73, rfl, rfl⟩
end Go.Proofs.Ytobikknjaomalaa
