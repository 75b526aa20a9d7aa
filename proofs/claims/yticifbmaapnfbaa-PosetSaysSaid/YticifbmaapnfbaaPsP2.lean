/-
  The functions compute their specs; printed by a program.
-/
import Derived.Test.YticifbmaapnfbaaPsP1
namespace Go.Proofs.Yticifbmaapnfbaa
open Go.RowKit Enc
set_option linter.unusedVariables false
set_option linter.unusedSimpArgs false
set_option maxRecDepth 20000 in
theorem slices_Equal_api_Pair_api_Pair_sim {a0 : List Pair} {a1 : List Pair} {s_a0 : Sl} {s_a1 : Sl} {r : Bool} (H : slices_Equal_api_Pair_api_Pair a0 a1 = some r) (w0 : World) (F : Frz) (M L : List Item) (hM : M.Sublist L) (hs_a0 : Rd w0 F M s_a0 a0) (hs_a1 : Rd w0 F M s_a1 a1) : Ok Try.prog w0 23 [Sl.v s_a0, Sl.v s_a1] F (L) (Is (.bool r) (L)) := by
  unfold slices_Equal_api_Pair_api_Pair at H
  refine Ok.enter (m := 2) (n := 26) Try.func23 rfl rfl rfl (by decide) ?_
  refine Cd.env (e' := [(0, Sl.v s_a0), (1, Sl.v s_a1)]) rfl ?_
  refine Cd.seq ?_
  refine Cd.region ?_
  refine Lst.run rfl rfl (by decide) (Ev.assign rfl) ?_
  refine Lst.nil ?_
  refine At.then ?_
  refine Cd.seq ?_
  refine Cd.seq ?_
  refine Cd.region ?_
  refine Lst.run rfl rfl (by decide) (Ev.move rfl) ?_
  refine Lst.run rfl rfl (by decide) (Ev.lenS (α := Pair) (xs := a0) (by decide) rfl rfl Try.runUnderlying22 (hs_a0.mono (FLe.refl _) hM)) ?_
  refine Lst.run rfl rfl (by decide) (Ev.move rfl) ?_
  refine Lst.run rfl rfl (by decide) (Ev.lenS (α := Pair) (xs := a1) (by decide) rfl rfl Try.runUnderlying22 (hs_a1.mono (FLe.refl _) hM)) ?_
  refine Lst.run rfl rfl (by decide) (Ev.neq rfl rfl) ?_
  refine Lst.nil ?_
  refine At.then ?_
  rcases Bool.eq_false_or_eq_true ((a0.length : Int) != (a1.length : Int)) with hb1 | hb1
  · replace H := ite_t hb1 H
    refine Cd.condT rfl hb1 ?_
    refine Cd.seq ?_
    refine Cd.region ?_
    refine Lst.run rfl rfl (by decide) (Ev.assign rfl) ?_
    refine Lst.nil ?_
    refine At.then ?_
    obtain rfl := some_inj H
    refine Cd.ret ?_
    refine At.then_ret ?_
    exact At.ret1 rfl (Res.tmp rfl) (FLe.refl _) (List.Sublist.refl _) ⟨rfl, rfl⟩
  replace H := ite_f hb1 H
  refine Cd.condF rfl hb1 ?_
  refine Cd.skip ?_
  refine At.then ?_
  refine Cd.seq ?_
  refine Cd.seq ?_
  refine Cd.region ?_
  refine Lst.run rfl rfl (by decide) (Ev.move rfl) ?_
  refine Lst.run rfl rfl (by decide) (Ev.lenS (α := Pair) (xs := a0) (by decide) rfl rfl Try.runUnderlying22 (hs_a0.mono (FLe.refl _) hM)) ?_
  refine Lst.run rfl rfl (by decide) (Ev.move rfl) ?_
  refine Lst.nil ?_
  refine At.then ?_
  refine Cd.block ?_
  refine Cd.bound (Rd.le (α := Pair) (xs := a0) (by decide) (hs_a0.mono (FLe.refl _) hM)) (fun hN12 => ?_)
  obtain ⟨ol2, H, HKl2⟩ := andThen_some H
  refine Cd.loop (σ := Nat × Nat × Unit) (fun (i2, k2, _u) => [(0, Sl.v s_a0), (1, Sl.v s_a1), (12, .int .i64 (a0.length : Int)), (13, .int .i64 (i2 : Int))]) (fun (i2, k2, _u) => L) (fun _ => (fun (i2, k2, _u) => rangeM (slices_Equal_api_Pair_api_Pair_B0 a0 a1) k2 i2 () = some ol2 ∧ i2 + k2 = a0.length)) (fun (i2, k2, _u) => k2) (0, a0.length, ()) ⟨rfl, rfl, rfl, rfl, trivial⟩ rfl ⟨H, by omega⟩ ?_
  rintro F3 ⟨i2, k2, _u⟩ hF4 ⟨H, hik2⟩
  refine Cd.as (e' := [(0, Sl.v s_a0), (1, Sl.v s_a1), (12, .int .i64 (a0.length : Int)), (13, .int .i64 (i2 : Int))]) (L' := L) ⟨rfl, rfl, rfl, rfl, trivial⟩ rfl ?_
  rcases k2 with _ | k2
  · have hc2 : decide ((i2 : Int) < (a0.length : Int)) = false := decide_eq_false (by omega)
    replace H := rangeM_end H
    refine Cd.seq ?_
    refine Cd.region ?_
    refine Lst.run rfl rfl (by decide) (Ev.lss rfl rfl) ?_
    refine Lst.nil ?_
    refine At.then ?_
    refine Cd.seq ?_
    refine Cd.condF rfl hc2 ?_
    refine Cd.exit ?_
    refine At.then_exit ?_
    refine At.then_exit ?_
    refine At.in_exit ?_
    subst H
    replace H := HKl2
    refine At.then ?_
    refine Cd.seq ?_
    refine Cd.region ?_
    refine Lst.run rfl rfl (by decide) (Ev.assign rfl) ?_
    refine Lst.nil ?_
    refine At.then ?_
    obtain rfl := some_inj H
    refine Cd.ret ?_
    exact At.ret1 rfl (Res.tmp rfl) hF4 (List.Sublist.refl _) ⟨rfl, rfl⟩
  have hc2 : decide ((i2 : Int) < (a0.length : Int)) = true := decide_eq_true (by omega)
  obtain ⟨c2, H, hgo2, hbrk2, hret2⟩ := rangeM_go H
  unfold slices_Equal_api_Pair_api_Pair_B0 at H
  try dsimp only at H
  refine Cd.seq ?_
  refine Cd.region ?_
  refine Lst.run rfl rfl (by decide) (Ev.lss rfl rfl) ?_
  refine Lst.nil ?_
  refine At.then ?_
  refine Cd.seq ?_
  refine Cd.condT rfl hc2 ?_
  refine Cd.skip ?_
  refine At.then ?_
  refine Cd.seq ?_
  refine Cd.block ?_
  refine Cd.seq ?_
  refine Cd.region ?_
  refine Lst.run rfl rfl (by decide) (Ev.move rfl) ?_
  refine Lst.run rfl rfl (by decide) (Ev.assign rfl) ?_
  refine Lst.nil ?_
  refine At.then ?_
  refine Cd.seq ?_
  refine Cd.quiet (by kernel_rfl) (by kernel_rfl) ?_
  refine Qt.run rfl rfl (by decide) (Ev.move rfl) ?_
  refine Qt.run rfl rfl (by decide) (Ev.move rfl) ?_
  obtain ⟨x5, h6, H⟩ := bind_some H
  have g7 := lat_some h6
  refine Qt.run rfl rfl (by decide) (Ev.indexS (α := Pair) (xs := a0) rfl rfl Try.runUnderlying22 Try.sizeOf49 rfl (by decide) (hs_a0.mono hF4 hM) g7.1 g7.2.1) ?_
  refine Qt.run rfl rfl (by decide) (Ev.loadSA (α := Pair) rfl (hs_a0.mono hF4 hM) Try.isAgg49 Try.sizeOf49 (ch := enc x5) (Enc.len _) (by decide) ((Get.elemN (s := 2) (x := x5) rfl g7.2.2 (Get.here _)).off (by omega))) ?_
  refine Qt.run rfl rfl (by decide) (Ev.move rfl) ?_
  refine Qt.run rfl rfl (by decide) (Ev.move rfl) ?_
  obtain ⟨x8, h9, H⟩ := bind_some H
  have g10 := lat_some h9
  refine Qt.run rfl rfl (by decide) (Ev.indexS (α := Pair) (xs := a1) rfl rfl Try.runUnderlying22 Try.sizeOf49 rfl (by decide) (hs_a1.mono hF4 hM) g10.1 g10.2.1) ?_
  refine Qt.run rfl rfl (by decide) (Ev.loadSA (α := Pair) rfl (hs_a1.mono hF4 hM) Try.isAgg49 Try.sizeOf49 (ch := enc x8) (Enc.len _) (by decide) ((Get.elemN (s := 2) (x := x8) rfl g10.2.2 (Get.here _)).off (by omega))) ?_
  refine Qt.run rfl rfl (by decide) (Ev.neqA rfl rfl (by kernel_rfl) (eq49 _ _)) ?_
  refine Qt.done ?_
  refine At.then ?_
  rcases Bool.eq_false_or_eq_true (!(decide (x5 = x8))) with hb11 | hb11
  · replace H := ite_t hb11 H
    refine Cd.condT rfl hb11 ?_
    refine Cd.seq ?_
    refine Cd.as (e' := []) (L' := L) trivial rfl ?_
    refine Cd.region ?_
    refine Lst.run rfl rfl (by decide) (Ev.assign rfl) ?_
    refine Lst.nil ?_
    refine At.then ?_
    have H := hret2 _ (some_inj H).symm
    subst H
    replace H := HKl2
    obtain rfl := some_inj H
    refine Cd.ret ?_
    refine At.in_ret ?_
    refine At.then_ret ?_
    refine At.then_ret ?_
    refine At.in_ret ?_
    refine At.then_ret ?_
    exact At.ret1 rfl (Res.tmp rfl) hF4 (List.Sublist.refl _) ⟨rfl, rfl⟩
  replace H := ite_f hb11 H
  refine Cd.condF rfl hb11 ?_
  refine Cd.skip ?_
  refine At.in_normal ?_
  refine At.then ?_
  refine Cd.region ?_
  refine Lst.run rfl rfl (by decide) (Ev.incr (by omega) rfl rfl) ?_
  refine Lst.run rfl rfl (by decide) (Ev.move rfl) ?_
  refine Lst.nil ?_
  exact At.meet (i2 + 1, k2, ()) hF4 ⟨rfl, rfl, rfl, rfl, trivial⟩ rfl ⟨⟨hgo2 _ (some_inj H).symm, by omega⟩, Nat.lt_succ_self _⟩
set_option maxRecDepth 20000 in
theorem partref_Order_sim {fu : Nat} {a0 : Poset} {s_a0_1 : Sl} {r : (List Int)} (H : partref_Order fu a0 = some r) (w0 : World) (F : Frz) (M L : List Item) (hM : M.Sublist L) (hs_a0_1 : Rd w0 F M s_a0_1 a0.Pairs) : Ok Try.prog w0 31 [.agg (enc (PosetR.mk a0 s_a0_1)).toArray] F (L) (fun _ L' v => ∃ (s1 : Sl), v = Sl.v s1 ∧ L' = (.own s1 3 1 (encs r)) :: L) := by
  unfold partref_Order at H
  refine Ok.enter (m := 1) (n := 56) Try.func31 rfl rfl rfl (by decide) ?_
  refine Cd.env (e' := [(0, .agg (enc (PosetR.mk a0 s_a0_1)).toArray)]) rfl ?_
  refine Cd.seq ?_
  refine Cd.region ?_
  refine Lst.box rfl rfl (by decide) rfl (cs := enc (PosetR.mk a0 s_a0_1)) rfl (fun b1 => ?_)
  refine Lst.addNil 3 1 ?_
  refine Lst.run rfl rfl (by decide) (Ev.assign rfl) ?_
  refine Lst.nil ?_
  refine At.then ?_
  refine Cd.seq ?_
  refine Cd.region ?_
  refine Lst.run rfl rfl (by decide) (Ev.fieldAddr (off' := 0) rfl Try.runUnderlying24 rfl Try.sizeOf3 rfl rfl) ?_
  refine Lst.run rfl rfl (by decide) (Ev.load (i := 1) rfl rfl Try.isAgg3 (v := .int .i64 a0.N) ((PosetR.get_N (Get.here _)).off (by rfl))) ?_
  refine Lst.run rfl rfl (by decide) (Ev.fieldAddr (off' := 1) rfl Try.runUnderlying24 rfl Try.sizeOf22 rfl rfl) ?_
  refine Lst.run rfl rfl (by decide) (Ev.load (i := 1) rfl rfl Try.isAgg22 (v := Sl.v s_a0_1) ((PosetR.get_Pairs (Get.here _)).off (by rfl))) ?_
  obtain ⟨r4, h5, H⟩ := bind_some H
  refine Lst.call rfl rfl (by decide) (vs := [.int .i64 a0.N, Sl.v s_a0_1]) ⟨rfl, rfl, trivial⟩ Try.call45 (partref_Closure_sim h5 w0 _ M _ (List.Sublist.cons _ (List.Sublist.cons _ hM)) (hs_a0_1.mono (FLe.refl _) (List.Sublist.refl _))) (fun F11 L' v hF12 hv => ?_)
  obtain ⟨s6, rs7, rfl, rfl, fm8⟩ := hv
  refine Lst.run rfl rfl (by decide) (Ev.assign rfl) ?_
  refine Lst.nil ?_
  refine At.then ?_
  refine Cd.seq ?_
  refine Cd.region ?_
  refine Lst.addNil 3 1 ?_
  refine Lst.run rfl rfl (by decide) (Ev.assign rfl) ?_
  refine Lst.nil ?_
  refine At.then ?_
  refine Cd.seq ?_
  refine Cd.block ?_
  obtain ⟨ol14, H, HKl14⟩ := andThen_some H
  refine Cd.loop (σ := Nat × Sl × (List Int)) (fun (k14, s15, l16) => [(1, .pointer (some ⟨b1, 0, none⟩)), (3, Sl.v s6), (4, Sl.v s15)]) (fun (k14, s15, l16) => (.own s15 3 1 (encs l16)) :: (.rows (α := Bool) 4 rs7) :: (.own s6 75 1 (encs rs7)) :: (.own Sl.nil 3 1 (encs ([] : List Int))) :: (.blk b1 (enc (PosetR.mk a0 s_a0_1)) 24) :: L) (fun _ => (fun (k14, s15, l16) => whileM (partref_Order_B0 a0 r4) k14 l16 = some ol14)) (fun (k14, s15, l16) => k14) (fu, Sl.nil, ([] : List Int)) ⟨rfl, rfl, rfl, trivial⟩ rfl H ?_
  rintro F17 ⟨k14, s15, l16⟩ hF18 H
  refine Cd.as (e' := [(1, .pointer (some ⟨b1, 0, none⟩)), (3, Sl.v s6), (4, Sl.v s15)]) (L' := (.own s15 3 1 (encs l16)) :: (.rows (α := Bool) 4 rs7) :: (.own s6 75 1 (encs rs7)) :: (.own Sl.nil 3 1 (encs ([] : List Int))) :: (.blk b1 (enc (PosetR.mk a0 s_a0_1)) 24) :: L) ⟨rfl, rfl, rfl, trivial⟩ rfl ?_
  rcases k14 with _ | k14
  · cases H
  obtain ⟨c14, H, hgo14, hbrk14, hret14⟩ := whileM_go H
  unfold partref_Order_B0 at H
  try dsimp only at H
  refine Cd.seq ?_
  refine Cd.seq ?_
  refine Cd.region ?_
  refine Lst.run rfl rfl (by decide) (Ev.move rfl) ?_
  refine Lst.run rfl rfl (by decide) (Ev.lenS (α := Int) (xs := l16) (by decide) rfl rfl Try.runUnderlying34 (Rd.own (i := 0) rfl rfl rfl)) ?_
  refine Lst.run rfl rfl (by decide) (Ev.fieldAddr (off' := 0) rfl Try.runUnderlying24 rfl Try.sizeOf3 rfl rfl) ?_
  refine Lst.run rfl rfl (by decide) (Ev.load (i := 4) rfl rfl Try.isAgg3 (v := .int .i64 a0.N) ((PosetR.get_N (Get.here _)).off (by rfl))) ?_
  refine Lst.run rfl rfl (by decide) (Ev.lss rfl rfl) ?_
  refine Lst.nil ?_
  refine At.then ?_
  rcases (Bool.eq_false_or_eq_true (decide ((l16.length : Int) < a0.N))).symm with hb19 | hb19
  · replace H := ite_f hb19 H
    refine Cd.condF rfl hb19 ?_
    refine Cd.exit ?_
    refine At.then_exit ?_
    refine At.then_exit ?_
    refine At.in_exit ?_
    have H := hbrk14 _ (some_inj H).symm
    subst H
    replace H := HKl14
    refine At.then ?_
    refine Cd.seq ?_
    refine Cd.region ?_
    refine Lst.run rfl rfl (by decide) (Ev.move rfl) ?_
    refine Lst.run rfl rfl (by decide) (Ev.assign rfl) ?_
    refine Lst.nil ?_
    refine At.then ?_
    obtain rfl := some_inj H
    refine Cd.ret ?_
    exact At.ret1 rfl (Res.tmp rfl) (FLe.trans hF12 hF18) (List.Sublist.cons_cons _ (List.Sublist.cons _ (List.Sublist.cons _ (List.Sublist.cons _ (List.Sublist.cons _ (List.Sublist.refl _)))))) ⟨s15, rfl, rfl⟩
  replace H := ite_t hb19 H
  refine Cd.condT rfl hb19 ?_
  refine Cd.skip ?_
  refine At.then ?_
  refine Cd.block ?_
  refine Cd.seq ?_
  refine Cd.region ?_
  refine Lst.run rfl rfl (by decide) (Ev.fieldAddr (off' := 0) rfl Try.runUnderlying24 rfl Try.sizeOf3 rfl rfl) ?_
  refine Lst.run rfl rfl (by decide) (Ev.load (i := 4) rfl rfl Try.isAgg3 (v := .int .i64 a0.N) ((PosetR.get_N (Get.here _)).off (by rfl))) ?_
  refine Lst.run rfl rfl (by decide) (Ev.move rfl) ?_
  refine Lst.nil ?_
  refine At.then ?_
  refine Cd.block ?_
  obtain ⟨nn25, hN60, H⟩ := bind_some H
  replace hN60 := upTo_some hN60
  obtain ⟨ol20, H, HKl20⟩ := andThen_some H
  refine Cd.loop (σ := Nat × Nat × Sl × (List Int)) (fun (i20, k20, s21, l22) => [(1, .pointer (some ⟨b1, 0, none⟩)), (3, Sl.v s6), (4, Sl.v s21), (19, .int .i64 a0.N), (20, .int .i64 (i20 : Int))]) (fun (i20, k20, s21, l22) => (.own s21 3 1 (encs l22)) :: (.rows (α := Bool) 4 rs7) :: (.own s6 75 1 (encs rs7)) :: (.own Sl.nil 3 1 (encs ([] : List Int))) :: (.blk b1 (enc (PosetR.mk a0 s_a0_1)) 24) :: L) (fun _ => (fun (i20, k20, s21, l22) => rangeM (partref_Order_B2 a0 r4) k20 i20 l22 = some ol20 ∧ i20 + k20 = nn25)) (fun (i20, k20, s21, l22) => k20) (0, nn25, s15, l16) ⟨rfl, rfl, rfl, rfl, rfl, trivial⟩ rfl ⟨H, by omega⟩ ?_
  rintro F23 ⟨i20, k20, s21, l22⟩ hF24 ⟨H, hik20⟩
  refine Cd.as (e' := [(1, .pointer (some ⟨b1, 0, none⟩)), (3, Sl.v s6), (4, Sl.v s21), (19, .int .i64 a0.N), (20, .int .i64 (i20 : Int))]) (L' := (.own s21 3 1 (encs l22)) :: (.rows (α := Bool) 4 rs7) :: (.own s6 75 1 (encs rs7)) :: (.own Sl.nil 3 1 (encs ([] : List Int))) :: (.blk b1 (enc (PosetR.mk a0 s_a0_1)) 24) :: L) ⟨rfl, rfl, rfl, rfl, rfl, trivial⟩ rfl ?_
  rcases k20 with _ | k20
  · have hc20 : decide ((i20 : Int) < a0.N) = false := decide_eq_false (by omega)
    replace H := rangeM_end H
    refine Cd.seq ?_
    refine Cd.region ?_
    refine Lst.run rfl rfl (by decide) (Ev.lss rfl rfl) ?_
    refine Lst.nil ?_
    refine At.then ?_
    refine Cd.seq ?_
    refine Cd.condF rfl hc20 ?_
    refine Cd.exit ?_
    refine At.then_exit ?_
    refine At.then_exit ?_
    refine At.in_exit ?_
    subst H
    replace H := HKl20
    refine At.in_normal ?_
    exact At.meet (k14, s21, l22) (FLe.trans hF18 hF24) ⟨rfl, rfl, rfl, trivial⟩ rfl ⟨hgo14 _ (some_inj H).symm, Nat.lt_succ_self _⟩
  have hc20 : decide ((i20 : Int) < a0.N) = true := decide_eq_true (by omega)
  obtain ⟨c20, H, hgo20, hbrk20, hret20⟩ := rangeM_go H
  unfold partref_Order_B2 at H
  try dsimp only at H
  refine Cd.seq ?_
  refine Cd.region ?_
  refine Lst.run rfl rfl (by decide) (Ev.lss rfl rfl) ?_
  refine Lst.nil ?_
  refine At.then ?_
  refine Cd.seq ?_
  refine Cd.condT rfl hc20 ?_
  refine Cd.skip ?_
  refine At.then ?_
  refine Cd.seq ?_
  refine Cd.block ?_
  refine Cd.seq ?_
  refine Cd.region ?_
  refine Lst.run rfl rfl (by decide) (Ev.move rfl) ?_
  refine Lst.run rfl rfl (by decide) (Ev.assign rfl) ?_
  refine Lst.nil ?_
  refine At.then ?_
  refine Cd.seq ?_
  refine Cd.region ?_
  refine Lst.run rfl rfl (by decide) (Ev.move rfl) ?_
  refine Lst.run rfl rfl (by decide) (Ev.move rfl) ?_
  obtain ⟨r26, h27, H⟩ := bind_some H
  refine Lst.call1 rfl rfl (by decide) (vs := [Sl.v s21, .int .i64 (i20 : Int)]) ⟨rfl, rfl, trivial⟩ Try.call57 (slices_Contains_int_int_sim h27 w0 _ _ _ (List.Sublist.refl _) (Rd.own (i := 0) rfl rfl rfl)) ?_
  refine Lst.run rfl rfl (by decide) (Ev.not rfl) ?_
  refine Lst.run rfl rfl (by decide) (Ev.assign rfl) ?_
  refine Lst.nil ?_
  refine At.then ?_
  refine Cd.seq ?_
  refine Cd.seq ?_
  refine Cd.region ?_
  refine Lst.run rfl rfl (by decide) (Ev.fieldAddr (off' := 0) rfl Try.runUnderlying24 rfl Try.sizeOf3 rfl rfl) ?_
  refine Lst.run rfl rfl (by decide) (Ev.load (i := 4) rfl rfl Try.isAgg3 (v := .int .i64 a0.N) ((PosetR.get_N (Get.here _)).off (by rfl))) ?_
  refine Lst.run rfl rfl (by decide) (Ev.move rfl) ?_
  refine Lst.nil ?_
  refine At.then ?_
  refine Cd.block ?_
  obtain ⟨nn34, hN59, H⟩ := bind_some H
  replace hN59 := upTo_some hN59
  obtain ⟨ol30, H, HKl30⟩ := bind_some H
  refine Cd.loop (σ := Nat × Nat × Bool) (fun (i30, k30, y31) => [(1, .pointer (some ⟨b1, 0, none⟩)), (3, Sl.v s6), (4, Sl.v s21), (5, .int .i64 (i20 : Int)), (6, .bool y31), (19, .int .i64 a0.N), (20, .int .i64 (i20 : Int)), (28, .int .i64 a0.N), (29, .int .i64 (i30 : Int))]) (fun (i30, k30, y31) => (.own s21 3 1 (encs l22)) :: (.rows (α := Bool) 4 rs7) :: (.own s6 75 1 (encs rs7)) :: (.own Sl.nil 3 1 (encs ([] : List Int))) :: (.blk b1 (enc (PosetR.mk a0 s_a0_1)) 24) :: L) (fun _ => (fun (i30, k30, y31) => rangeF (partref_Order_B4 r4 l22 i20) k30 i30 y31 = some ol30 ∧ i30 + k30 = nn34)) (fun (i30, k30, y31) => k30) (0, nn34, !r26) ⟨rfl, rfl, rfl, rfl, rfl, rfl, rfl, rfl, rfl, trivial⟩ rfl ⟨H, by omega⟩ ?_
  rintro F32 ⟨i30, k30, y31⟩ hF33 ⟨H, hik30⟩
  refine Cd.as (e' := [(1, .pointer (some ⟨b1, 0, none⟩)), (3, Sl.v s6), (4, Sl.v s21), (5, .int .i64 (i20 : Int)), (6, .bool y31), (19, .int .i64 a0.N), (20, .int .i64 (i20 : Int)), (28, .int .i64 a0.N), (29, .int .i64 (i30 : Int))]) (L' := (.own s21 3 1 (encs l22)) :: (.rows (α := Bool) 4 rs7) :: (.own s6 75 1 (encs rs7)) :: (.own Sl.nil 3 1 (encs ([] : List Int))) :: (.blk b1 (enc (PosetR.mk a0 s_a0_1)) 24) :: L) ⟨rfl, rfl, rfl, rfl, rfl, rfl, rfl, rfl, rfl, trivial⟩ rfl ?_
  rcases k30 with _ | k30
  · have hc30 : decide ((i30 : Int) < a0.N) = false := decide_eq_false (by omega)
    replace H := rangeF_end H
    refine Cd.seq ?_
    refine Cd.region ?_
    refine Lst.run rfl rfl (by decide) (Ev.lss rfl rfl) ?_
    refine Lst.nil ?_
    refine At.then ?_
    refine Cd.seq ?_
    refine Cd.condF rfl hc30 ?_
    refine Cd.exit ?_
    refine At.then_exit ?_
    refine At.then_exit ?_
    refine At.in_exit ?_
    subst H
    replace H := HKl30
    refine At.then ?_
    refine Cd.seq ?_
    refine Cd.region ?_
    refine Lst.run rfl rfl (by decide) (Ev.move rfl) ?_
    refine Lst.nil ?_
    refine At.then ?_
    rcases Bool.eq_false_or_eq_true y31 with hb53 | hb53
    · replace H := ite_t hb53 H
      refine Cd.condT rfl hb53 ?_
      refine Cd.seq ?_
      refine Cd.region ?_
      refine Lst.run rfl rfl (by decide) (Ev.move rfl) ?_
      refine Lst.run rfl rfl (by decide) (Ev.move rfl) ?_
      refine Lst.buildSlice (α := Int) (xs := ([(i20 : Int)] : List Int)) (pv := [(0, .int .i64 (i20 : Int))]) rfl rfl (by decide) ⟨rfl, rfl, trivial⟩ (run_buildSlice (α := Int) (z0 := (0 : Int)) (xs := ([(i20 : Int)] : List Int)) Try.runUnderlying34 Try.sizeOf3 Try.zeroValue3 rfl rfl rfl (by decide) rfl (fill_cons (cs := encs (List.replicate 1 (0 : Int))) (cs' := encs ((List.replicate 1 (0 : Int)).set 0 (i20 : Int))) (vs := [.int .i64 (i20 : Int)]) rfl rfl rfl ((Put.elemN (s := 1) (i := 0) (x := (0 : Int)) (y := (i20 : Int)) rfl rfl (Put.here (vs := [.int .i64 (i20 : Int)]) rfl)).off rfl) fill_nil)) rfl rfl (by decide) (fun s54 _ => ?_)
      obtain ⟨u56, h57, H⟩ := bind_some H
      refine Lst.append (i := 1) (α := Int) (xs := l22) (ys := ([(i20 : Int)] : List Int)) rfl rfl (by decide) rfl rfl Try.runUnderlying34 Try.typeInfo3 rfl rfl rfl rfl rfl rfl (Rd.own (i := 0) rfl rfl rfl) rfl (room_some h57) rfl (fun s58 => ?_)
      refine Lst.its (L' := (.own s54 3 1 (encs ([(i20 : Int)] : List Int))) :: (.own s58 3 1 (encs (l22 ++ ([(i20 : Int)] : List Int)))) :: (.rows (α := Bool) 4 rs7) :: (.own s6 75 1 (encs rs7)) :: (.own Sl.nil 3 1 (encs ([] : List Int))) :: (.blk b1 (enc (PosetR.mk a0 s_a0_1)) 24) :: L) rfl ?_
      refine Lst.run rfl rfl (by decide) (Ev.assign rfl) ?_
      refine Lst.nil ?_
      refine At.then ?_
      refine Cd.exit ?_
      refine At.in_other rfl ?_
      refine At.then_exit ?_
      refine At.then_exit ?_
      refine At.in_exit ?_
      have H := hbrk20 _ (some_inj H).symm
      subst H
      refine At.less (L' := (.own s58 3 1 (encs (l22 ++ ([(i20 : Int)] : List Int)))) :: (.rows (α := Bool) 4 rs7) :: (.own s6 75 1 (encs rs7)) :: (.own Sl.nil 3 1 (encs ([] : List Int))) :: (.blk b1 (enc (PosetR.mk a0 s_a0_1)) 24) :: L) (List.Sublist.cons _ (List.Sublist.cons_cons _ (List.Sublist.cons_cons _ (List.Sublist.cons_cons _ (List.Sublist.cons_cons _ (List.Sublist.cons_cons _ (List.Sublist.refl _))))))) ?_
      replace H := HKl20
      refine At.in_normal ?_
      exact At.meet (k14, s58, l22 ++ ([(i20 : Int)] : List Int)) (FLe.trans (FLe.trans hF18 hF24) hF33) ⟨rfl, rfl, rfl, trivial⟩ rfl ⟨hgo14 _ (some_inj H).symm, Nat.lt_succ_self _⟩
    replace H := ite_f hb53 H
    refine Cd.condF rfl hb53 ?_
    refine Cd.skip ?_
    refine At.in_normal ?_
    refine At.then ?_
    refine Cd.region ?_
    refine Lst.run rfl rfl (by decide) (Ev.incr (by omega) rfl rfl) ?_
    refine Lst.run rfl rfl (by decide) (Ev.move rfl) ?_
    refine Lst.nil ?_
    exact At.meet (i20 + 1, k20, s21, l22) (FLe.trans hF24 hF33) ⟨rfl, rfl, rfl, rfl, rfl, trivial⟩ rfl ⟨⟨hgo20 _ (some_inj H).symm, by omega⟩, Nat.lt_succ_self _⟩
  have hc30 : decide ((i30 : Int) < a0.N) = true := decide_eq_true (by omega)
  obtain ⟨c30, H, hgo30⟩ := rangeF_go H
  unfold partref_Order_B4 at H
  try dsimp only at H
  refine Cd.seq ?_
  refine Cd.region ?_
  refine Lst.run rfl rfl (by decide) (Ev.lss rfl rfl) ?_
  refine Lst.nil ?_
  refine At.then ?_
  refine Cd.seq ?_
  refine Cd.condT rfl hc30 ?_
  refine Cd.skip ?_
  refine At.then ?_
  refine Cd.seq ?_
  refine Cd.block ?_
  refine Cd.seq ?_
  refine Cd.region ?_
  refine Lst.run rfl rfl (by decide) (Ev.move rfl) ?_
  refine Lst.run rfl rfl (by decide) (Ev.assign rfl) ?_
  refine Lst.nil ?_
  refine At.then ?_
  refine Cd.region ?_
  refine Lst.run rfl rfl (by decide) (Ev.move rfl) ?_
  refine Lst.run rfl rfl (by decide) (Ev.move rfl) ?_
  rcases (Bool.eq_false_or_eq_true y31).symm with hb35 | hb35
  · replace H := ite_f hb35 H
    refine Lst.skip rfl rfl rfl hb35 rfl (by decide) ?_
    refine Lst.skip rfl rfl rfl hb35 rfl (by decide) ?_
    refine Lst.skip rfl rfl rfl hb35 rfl (by decide) ?_
    refine Lst.skip rfl rfl rfl hb35 rfl (by decide) ?_
    refine Lst.skip rfl rfl rfl hb35 rfl (by decide) ?_
    refine Lst.skip rfl rfl rfl hb35 rfl (by decide) ?_
    refine Lst.skip rfl rfl rfl hb35 rfl (by decide) ?_
    refine Lst.skip rfl rfl rfl hb35 rfl (by decide) ?_
    refine Lst.skip rfl rfl rfl hb35 rfl (by decide) ?_
    refine Lst.skipU rfl rfl rfl rfl (by decide) ?_
    refine Lst.skipU rfl rfl rfl rfl (by decide) ?_
    refine Lst.skipU rfl rfl rfl rfl (by decide) ?_
    refine Lst.skip rfl rfl rfl hb35 rfl (by decide) ?_
    refine Lst.run rfl rfl (by decide) (Ev.pickF rfl hb35 rfl) ?_
    refine Lst.run rfl rfl (by decide) (Ev.assign rfl) ?_
    refine Lst.nil ?_
    refine At.in_normal ?_
    refine At.then ?_
    refine Cd.as (e' := [(1, .pointer (some ⟨b1, 0, none⟩)), (3, Sl.v s6), (4, Sl.v s21), (5, .int .i64 (i20 : Int)), (6, .bool false), (19, .int .i64 a0.N), (20, .int .i64 (i20 : Int)), (28, .int .i64 a0.N), (29, .int .i64 (i30 : Int))]) (L' := (.own s21 3 1 (encs l22)) :: (.rows (α := Bool) 4 rs7) :: (.own s6 75 1 (encs rs7)) :: (.own Sl.nil 3 1 (encs ([] : List Int))) :: (.blk b1 (enc (PosetR.mk a0 s_a0_1)) 24) :: L) ⟨rfl, rfl, rfl, rfl, rfl, rfl, rfl, rfl, rfl, trivial⟩ rfl ?_
    refine Cd.region ?_
    refine Lst.run rfl rfl (by decide) (Ev.incr (by omega) rfl rfl) ?_
    refine Lst.run rfl rfl (by decide) (Ev.move rfl) ?_
    refine Lst.nil ?_
    exact At.meet (i30 + 1, k30, false) hF33 ⟨rfl, rfl, rfl, rfl, rfl, rfl, rfl, rfl, rfl, trivial⟩ rfl ⟨⟨hgo30 _ (some_inj H).symm, by omega⟩, Nat.lt_succ_self _⟩
  replace H := ite_t hb35 H
  refine Lst.runG rfl rfl rfl hb35 rfl (by decide) (Ev.move rfl) ?_
  refine Lst.runG rfl rfl rfl hb35 rfl (by decide) (Ev.move rfl) ?_
  obtain ⟨x36, h37, H⟩ := bind_some H
  have g38 := lat_some h37
  obtain ⟨⟨r39v, r39h⟩, r39g, r39e, r39m⟩ := map_get fm8 g38.2.2
  obtain rfl : x36 = r39v := r39e.symm
  have hh40 := row_h r39g
  refine Lst.runG rfl rfl rfl hb35 rfl (by decide) (Ev.indexS (α := LR Bool) (xs := rs7) rfl rfl Try.runUnderlying73 Try.sizeOf75 rfl (by decide) (Rd.own (i := 2) rfl rfl rfl) g38.1 (by have := map_len fm8; omega)) ?_
  refine Lst.runG rfl rfl rfl hb35 rfl (by decide) (Ev.loadS (α := LR Bool) rfl (Rd.own (i := 2) rfl rfl rfl) Try.isAgg75 (v := Sl.v r39h) ((Get.elemN (s := 1) rfl r39g (Get.here _)).off (by omega))) ?_
  refine Lst.runG rfl rfl rfl hb35 rfl (by decide) (Ev.move rfl) ?_
  obtain ⟨x41, h42, H⟩ := bind_some H
  have g43 := lat_some h42
  refine Lst.runG rfl rfl rfl hb35 rfl (by decide) (Ev.indexS (α := Bool) (xs := x36) rfl rfl Try.runUnderlying75 Try.sizeOf4 rfl (by decide) (Rd.row (j := 1) rfl r39g) g43.1 g43.2.1) ?_
  refine Lst.runG rfl rfl rfl hb35 rfl (by decide) (Ev.loadS (α := Bool) rfl (Rd.row (j := 1) rfl r39g) Try.isAgg4 (v := .bool x41) ((Get.elemN (s := 1) (x := x41) rfl g43.2.2 (Get.here _)).off (by omega))) ?_
  refine Lst.runG rfl rfl rfl hb35 rfl (by decide) (Ev.not rfl) ?_
  refine Lst.runG rfl rfl rfl hb35 rfl (by decide) (Ev.move rfl) ?_
  obtain ⟨o44, H, HKo44⟩ := bind_some H
  refine Lst.join (σ := Bool) 4 (fun y45 => [(1, .pointer (some ⟨b1, 0, none⟩)), (3, Sl.v s6), (4, Sl.v s21), (5, .int .i64 (i20 : Int)), (6, .bool y31), (19, .int .i64 a0.N), (20, .int .i64 (i20 : Int)), (28, .int .i64 a0.N), (29, .int .i64 (i30 : Int)), (33, .bool y31), (46, .bool y45)]) (fun y45 => (.own s21 3 1 (encs l22)) :: (.rows (α := Bool) 4 rs7) :: (.own s6 75 1 (encs rs7)) :: (.own Sl.nil 3 1 (encs ([] : List Int))) :: (.blk b1 (enc (PosetR.mk a0 s_a0_1)) 24) :: L) (fun _ y45 => y45 = o44) ?_ ?_
  · rcases Bool.eq_false_or_eq_true (!x41) with hb46 | hb46
    · replace H := ite_t hb46 H
      refine Lst.skip rfl rfl rfl hb46 rfl (by decide) ?_
      refine Lst.skip rfl rfl rfl hb46 rfl (by decide) ?_
      refine Lst.skip rfl rfl rfl hb46 rfl (by decide) ?_
      refine Lst.runG rfl rfl rfl hb35 rfl (by decide) (Ev.pickT rfl hb46 rfl) ?_
      refine Lst.nil ?_
      exact At.meet true (FLe.refl _) ⟨rfl, rfl, rfl, rfl, rfl, rfl, rfl, rfl, rfl, rfl, rfl, trivial⟩ rfl (some_inj H)
    replace H := ite_f hb46 H
    refine Lst.runG rfl rfl rfl hb46 rfl (by decide) (Ev.move rfl) ?_
    refine Lst.runG rfl rfl rfl hb46 rfl (by decide) (Ev.move rfl) ?_
    obtain ⟨r47, h48, H⟩ := bind_some H
    refine Lst.call1G rfl rfl rfl hb46 rfl (by decide) (vs := [Sl.v s21, .int .i64 (i30 : Int)]) ⟨rfl, rfl, trivial⟩ Try.call57 (slices_Contains_int_int_sim h48 w0 _ _ _ (List.Sublist.refl _) (Rd.own (i := 0) rfl rfl rfl)) ?_
    refine Lst.runG rfl rfl rfl hb35 rfl (by decide) (Ev.pickF rfl hb46 rfl) ?_
    refine Lst.nil ?_
    exact At.meet r47 (FLe.refl _) ⟨rfl, rfl, rfl, rfl, rfl, rfl, rfl, rfl, rfl, rfl, rfl, trivial⟩ rfl (some_inj H)
  rintro F51 y45 hF52 hy
  subst hy
  refine Lst.as (e' := [(1, .pointer (some ⟨b1, 0, none⟩)), (3, Sl.v s6), (4, Sl.v s21), (5, .int .i64 (i20 : Int)), (6, .bool y31), (19, .int .i64 a0.N), (20, .int .i64 (i20 : Int)), (28, .int .i64 a0.N), (29, .int .i64 (i30 : Int)), (33, .bool y31), (46, .bool y45)]) (L' := (.own s21 3 1 (encs l22)) :: (.rows (α := Bool) 4 rs7) :: (.own s6 75 1 (encs rs7)) :: (.own Sl.nil 3 1 (encs ([] : List Int))) :: (.blk b1 (enc (PosetR.mk a0 s_a0_1)) 24) :: L) ⟨rfl, rfl, rfl, rfl, rfl, rfl, rfl, rfl, rfl, rfl, rfl, trivial⟩ rfl ?_
  replace H := HKo44
  refine Lst.run rfl rfl (by decide) (Ev.pickT rfl hb35 rfl) ?_
  refine Lst.run rfl rfl (by decide) (Ev.assign rfl) ?_
  refine Lst.nil ?_
  refine At.in_normal ?_
  refine At.then ?_
  refine Cd.region ?_
  refine Lst.run rfl rfl (by decide) (Ev.incr (by omega) rfl rfl) ?_
  refine Lst.run rfl rfl (by decide) (Ev.move rfl) ?_
  refine Lst.nil ?_
  exact At.meet (i30 + 1, k30, y45) (FLe.trans hF33 hF52) ⟨rfl, rfl, rfl, rfl, rfl, rfl, rfl, rfl, rfl, trivial⟩ rfl ⟨⟨hgo30 _ (some_inj H).symm, by omega⟩, Nat.lt_succ_self _⟩
set_option maxRecDepth 20000 in
theorem slices_Equal_int_int_sim {a0 : List Int} {a1 : List Int} {s_a0 : Sl} {s_a1 : Sl} {r : Bool} (H : slices_Equal_int_int a0 a1 = some r) (w0 : World) (F : Frz) (M L : List Item) (hM : M.Sublist L) (hs_a0 : Rd w0 F M s_a0 a0) (hs_a1 : Rd w0 F M s_a1 a1) : Ok Try.prog w0 30 [Sl.v s_a0, Sl.v s_a1] F (L) (Is (.bool r) (L)) := by
  unfold slices_Equal_int_int at H
  refine Ok.enter (m := 2) (n := 26) Try.func30 rfl rfl rfl (by decide) ?_
  refine Cd.env (e' := [(0, Sl.v s_a0), (1, Sl.v s_a1)]) rfl ?_
  refine Cd.seq ?_
  refine Cd.region ?_
  refine Lst.run rfl rfl (by decide) (Ev.assign rfl) ?_
  refine Lst.nil ?_
  refine At.then ?_
  refine Cd.seq ?_
  refine Cd.seq ?_
  refine Cd.region ?_
  refine Lst.run rfl rfl (by decide) (Ev.move rfl) ?_
  refine Lst.run rfl rfl (by decide) (Ev.lenS (α := Int) (xs := a0) (by decide) rfl rfl Try.runUnderlying34 (hs_a0.mono (FLe.refl _) hM)) ?_
  refine Lst.run rfl rfl (by decide) (Ev.move rfl) ?_
  refine Lst.run rfl rfl (by decide) (Ev.lenS (α := Int) (xs := a1) (by decide) rfl rfl Try.runUnderlying34 (hs_a1.mono (FLe.refl _) hM)) ?_
  refine Lst.run rfl rfl (by decide) (Ev.neq rfl rfl) ?_
  refine Lst.nil ?_
  refine At.then ?_
  rcases Bool.eq_false_or_eq_true ((a0.length : Int) != (a1.length : Int)) with hb1 | hb1
  · replace H := ite_t hb1 H
    refine Cd.condT rfl hb1 ?_
    refine Cd.seq ?_
    refine Cd.region ?_
    refine Lst.run rfl rfl (by decide) (Ev.assign rfl) ?_
    refine Lst.nil ?_
    refine At.then ?_
    obtain rfl := some_inj H
    refine Cd.ret ?_
    refine At.then_ret ?_
    exact At.ret1 rfl (Res.tmp rfl) (FLe.refl _) (List.Sublist.refl _) ⟨rfl, rfl⟩
  replace H := ite_f hb1 H
  refine Cd.condF rfl hb1 ?_
  refine Cd.skip ?_
  refine At.then ?_
  refine Cd.seq ?_
  refine Cd.seq ?_
  refine Cd.region ?_
  refine Lst.run rfl rfl (by decide) (Ev.move rfl) ?_
  refine Lst.run rfl rfl (by decide) (Ev.lenS (α := Int) (xs := a0) (by decide) rfl rfl Try.runUnderlying34 (hs_a0.mono (FLe.refl _) hM)) ?_
  refine Lst.run rfl rfl (by decide) (Ev.move rfl) ?_
  refine Lst.nil ?_
  refine At.then ?_
  refine Cd.block ?_
  refine Cd.bound (Rd.le (α := Int) (xs := a0) (by decide) (hs_a0.mono (FLe.refl _) hM)) (fun hN12 => ?_)
  obtain ⟨ol2, H, HKl2⟩ := andThen_some H
  refine Cd.loop (σ := Nat × Nat × Unit) (fun (i2, k2, _u) => [(0, Sl.v s_a0), (1, Sl.v s_a1), (12, .int .i64 (a0.length : Int)), (13, .int .i64 (i2 : Int))]) (fun (i2, k2, _u) => L) (fun _ => (fun (i2, k2, _u) => rangeM (slices_Equal_int_int_B0 a0 a1) k2 i2 () = some ol2 ∧ i2 + k2 = a0.length)) (fun (i2, k2, _u) => k2) (0, a0.length, ()) ⟨rfl, rfl, rfl, rfl, trivial⟩ rfl ⟨H, by omega⟩ ?_
  rintro F3 ⟨i2, k2, _u⟩ hF4 ⟨H, hik2⟩
  refine Cd.as (e' := [(0, Sl.v s_a0), (1, Sl.v s_a1), (12, .int .i64 (a0.length : Int)), (13, .int .i64 (i2 : Int))]) (L' := L) ⟨rfl, rfl, rfl, rfl, trivial⟩ rfl ?_
  rcases k2 with _ | k2
  · have hc2 : decide ((i2 : Int) < (a0.length : Int)) = false := decide_eq_false (by omega)
    replace H := rangeM_end H
    refine Cd.seq ?_
    refine Cd.region ?_
    refine Lst.run rfl rfl (by decide) (Ev.lss rfl rfl) ?_
    refine Lst.nil ?_
    refine At.then ?_
    refine Cd.seq ?_
    refine Cd.condF rfl hc2 ?_
    refine Cd.exit ?_
    refine At.then_exit ?_
    refine At.then_exit ?_
    refine At.in_exit ?_
    subst H
    replace H := HKl2
    refine At.then ?_
    refine Cd.seq ?_
    refine Cd.region ?_
    refine Lst.run rfl rfl (by decide) (Ev.assign rfl) ?_
    refine Lst.nil ?_
    refine At.then ?_
    obtain rfl := some_inj H
    refine Cd.ret ?_
    exact At.ret1 rfl (Res.tmp rfl) hF4 (List.Sublist.refl _) ⟨rfl, rfl⟩
  have hc2 : decide ((i2 : Int) < (a0.length : Int)) = true := decide_eq_true (by omega)
  obtain ⟨c2, H, hgo2, hbrk2, hret2⟩ := rangeM_go H
  unfold slices_Equal_int_int_B0 at H
  try dsimp only at H
  refine Cd.seq ?_
  refine Cd.region ?_
  refine Lst.run rfl rfl (by decide) (Ev.lss rfl rfl) ?_
  refine Lst.nil ?_
  refine At.then ?_
  refine Cd.seq ?_
  refine Cd.condT rfl hc2 ?_
  refine Cd.skip ?_
  refine At.then ?_
  refine Cd.seq ?_
  refine Cd.block ?_
  refine Cd.seq ?_
  refine Cd.region ?_
  refine Lst.run rfl rfl (by decide) (Ev.move rfl) ?_
  refine Lst.run rfl rfl (by decide) (Ev.assign rfl) ?_
  refine Lst.nil ?_
  refine At.then ?_
  refine Cd.seq ?_
  refine Cd.quiet (by kernel_rfl) (by kernel_rfl) ?_
  refine Qt.run rfl rfl (by decide) (Ev.move rfl) ?_
  refine Qt.run rfl rfl (by decide) (Ev.move rfl) ?_
  obtain ⟨x5, h6, H⟩ := bind_some H
  have g7 := lat_some h6
  refine Qt.run rfl rfl (by decide) (Ev.indexS (α := Int) (xs := a0) rfl rfl Try.runUnderlying34 Try.sizeOf3 rfl (by decide) (hs_a0.mono hF4 hM) g7.1 g7.2.1) ?_
  refine Qt.run rfl rfl (by decide) (Ev.loadS (α := Int) rfl (hs_a0.mono hF4 hM) Try.isAgg3 (v := .int .i64 x5) ((Get.elemN (s := 1) (x := x5) rfl g7.2.2 (Get.here _)).off (by omega))) ?_
  refine Qt.run rfl rfl (by decide) (Ev.move rfl) ?_
  refine Qt.run rfl rfl (by decide) (Ev.move rfl) ?_
  obtain ⟨x8, h9, H⟩ := bind_some H
  have g10 := lat_some h9
  refine Qt.run rfl rfl (by decide) (Ev.indexS (α := Int) (xs := a1) rfl rfl Try.runUnderlying34 Try.sizeOf3 rfl (by decide) (hs_a1.mono hF4 hM) g10.1 g10.2.1) ?_
  refine Qt.run rfl rfl (by decide) (Ev.loadS (α := Int) rfl (hs_a1.mono hF4 hM) Try.isAgg3 (v := .int .i64 x8) ((Get.elemN (s := 1) (x := x8) rfl g10.2.2 (Get.here _)).off (by omega))) ?_
  refine Qt.run rfl rfl (by decide) (Ev.neq rfl rfl) ?_
  refine Qt.done ?_
  refine At.then ?_
  rcases Bool.eq_false_or_eq_true (x5 != x8) with hb11 | hb11
  · replace H := ite_t hb11 H
    refine Cd.condT rfl hb11 ?_
    refine Cd.seq ?_
    refine Cd.as (e' := []) (L' := L) trivial rfl ?_
    refine Cd.region ?_
    refine Lst.run rfl rfl (by decide) (Ev.assign rfl) ?_
    refine Lst.nil ?_
    refine At.then ?_
    have H := hret2 _ (some_inj H).symm
    subst H
    replace H := HKl2
    obtain rfl := some_inj H
    refine Cd.ret ?_
    refine At.in_ret ?_
    refine At.then_ret ?_
    refine At.then_ret ?_
    refine At.in_ret ?_
    refine At.then_ret ?_
    exact At.ret1 rfl (Res.tmp rfl) hF4 (List.Sublist.refl _) ⟨rfl, rfl⟩
  replace H := ite_f hb11 H
  refine Cd.condF rfl hb11 ?_
  refine Cd.skip ?_
  refine At.in_normal ?_
  refine At.then ?_
  refine Cd.region ?_
  refine Lst.run rfl rfl (by decide) (Ev.incr (by omega) rfl rfl) ?_
  refine Lst.run rfl rfl (by decide) (Ev.move rfl) ?_
  refine Lst.nil ?_
  exact At.meet (i2 + 1, k2, ()) hF4 ⟨rfl, rfl, rfl, rfl, trivial⟩ rfl ⟨⟨hgo2 _ (some_inj H).symm, by omega⟩, Nat.lt_succ_self _⟩
set_option maxRecDepth 20000 in
theorem partref_Levels_sim {fu : Nat} {a0 : Poset} {s_a0_1 : Sl} {r : (List (List Int))} (H : partref_Levels fu a0 = some r) (w0 : World) (F : Frz) (M L : List Item) (hM : M.Sublist L) (hs_a0_1 : Rd w0 F M s_a0_1 a0.Pairs) : Ok Try.prog w0 33 [.agg (enc (PosetR.mk a0 s_a0_1)).toArray] F (L) (fun Fx L' v => ∃ (s1 : Sl) (rs2 : List (LR Int)), v = Sl.v s1 ∧ L' = (.own s1 34 1 (encs rs2)) :: L ∧ rs2.map LR.v = r ∧ All LR.rel w0 Fx M rs2) := by
  unfold partref_Levels at H
  refine Ok.enter (m := 1) (n := 82) Try.func33 rfl rfl rfl (by decide) ?_
  refine Cd.env (e' := [(0, .agg (enc (PosetR.mk a0 s_a0_1)).toArray)]) rfl ?_
  refine Cd.seq ?_
  refine Cd.region ?_
  refine Lst.box rfl rfl (by decide) rfl (cs := enc (PosetR.mk a0 s_a0_1)) rfl (fun b1 => ?_)
  have ha4 : All LR.rel w0 F [] ([] : List (LR Int)) := All.nil
  have ha4m : List.map LR.v ([] : List (LR Int)) = ([] : List (List Int)) := rfl
  refine Lst.addNil 34 1 ?_
  refine Lst.run rfl rfl (by decide) (Ev.assign rfl) ?_
  refine Lst.nil ?_
  refine At.then ?_
  refine Cd.seq ?_
  refine Cd.region ?_
  refine Lst.run rfl rfl (by decide) (Ev.fieldAddr (off' := 0) rfl Try.runUnderlying24 rfl Try.sizeOf3 rfl rfl) ?_
  refine Lst.run rfl rfl (by decide) (Ev.load (i := 1) rfl rfl Try.isAgg3 (v := .int .i64 a0.N) ((PosetR.get_N (Get.here _)).off (by rfl))) ?_
  refine Lst.run rfl rfl (by decide) (Ev.fieldAddr (off' := 1) rfl Try.runUnderlying24 rfl Try.sizeOf22 rfl rfl) ?_
  refine Lst.run rfl rfl (by decide) (Ev.load (i := 1) rfl rfl Try.isAgg22 (v := Sl.v s_a0_1) ((PosetR.get_Pairs (Get.here _)).off (by rfl))) ?_
  obtain ⟨r5, h6, H⟩ := bind_some H
  refine Lst.call rfl rfl (by decide) (vs := [.int .i64 a0.N, Sl.v s_a0_1]) ⟨rfl, rfl, trivial⟩ Try.call45 (partref_Closure_sim h6 w0 _ M _ (List.Sublist.cons _ (List.Sublist.cons _ hM)) (hs_a0_1.mono (FLe.refl _) (List.Sublist.refl _))) (fun F12 L' v hF13 hv => ?_)
  obtain ⟨s7, rs8, rfl, rfl, fm9⟩ := hv
  refine Lst.run rfl rfl (by decide) (Ev.assign rfl) ?_
  refine Lst.nil ?_
  refine At.then ?_
  refine Cd.seq ?_
  refine Cd.region ?_
  refine Lst.run rfl rfl (by decide) (Ev.fieldAddr (off' := 0) rfl Try.runUnderlying24 rfl Try.sizeOf3 rfl rfl) ?_
  refine Lst.run rfl rfl (by decide) (Ev.load (i := 3) rfl rfl Try.isAgg3 (v := .int .i64 a0.N) ((PosetR.get_N (Get.here _)).off (by rfl))) ?_
  obtain ⟨n14, h15, H⟩ := bind_some H
  have g16 := mkLen_some h15
  refine Lst.make (α := Int) (z0 := (0 : Int)) (k := n14) rfl rfl (by decide) (congrArg some (congrArg (Value.int .i64) g16.1)) (congrArg some (congrArg (Value.int .i64) g16.1)) Try.runUnderlying34 Try.typeInfo3 rfl rfl rfl rfl rfl g16.2 rfl (fun s17 => ?_)
  refine Lst.run rfl rfl (by decide) (Ev.assign rfl) ?_
  refine Lst.nil ?_
  refine At.then ?_
  refine Cd.seq ?_
  refine Cd.seq ?_
  refine Cd.region ?_
  refine Lst.run rfl rfl (by decide) (Ev.fieldAddr (off' := 0) rfl Try.runUnderlying24 rfl Try.sizeOf3 rfl rfl) ?_
  refine Lst.run rfl rfl (by decide) (Ev.load (i := 4) rfl rfl Try.isAgg3 (v := .int .i64 a0.N) ((PosetR.get_N (Get.here _)).off (by rfl))) ?_
  refine Lst.run rfl rfl (by decide) (Ev.move rfl) ?_
  refine Lst.nil ?_
  refine At.then ?_
  refine Cd.block ?_
  obtain ⟨nn23, hN101, H⟩ := bind_some H
  replace hN101 := upTo_some hN101
  obtain ⟨ol19, H, HKl19⟩ := bind_some H
  refine Cd.loop (σ := Nat × Nat × (List Int)) (fun (i19, k19, l20) => [(1, .pointer (some ⟨b1, 0, none⟩)), (3, Sl.v s7), (4, Sl.v s17), (21, .int .i64 a0.N), (22, .int .i64 (i19 : Int))]) (fun (i19, k19, l20) => (.own s17 3 1 (encs l20)) :: (.rows (α := Bool) 4 rs8) :: (.own s7 75 1 (encs rs8)) :: (.own Sl.nil 34 1 (encs ([] : List (LR Int)))) :: (.blk b1 (enc (PosetR.mk a0 s_a0_1)) 24) :: L) (fun _ => (fun (i19, k19, l20) => rangeF (partref_Levels_B0 a0 r5) k19 i19 l20 = some ol19 ∧ i19 + k19 = nn23)) (fun (i19, k19, l20) => k19) (0, nn23, (List.replicate n14 (0 : Int))) ⟨rfl, rfl, rfl, rfl, rfl, trivial⟩ rfl ⟨H, by omega⟩ ?_
  rintro F21 ⟨i19, k19, l20⟩ hF22 ⟨H, hik19⟩
  refine Cd.as (e' := [(1, .pointer (some ⟨b1, 0, none⟩)), (3, Sl.v s7), (4, Sl.v s17), (21, .int .i64 a0.N), (22, .int .i64 (i19 : Int))]) (L' := (.own s17 3 1 (encs l20)) :: (.rows (α := Bool) 4 rs8) :: (.own s7 75 1 (encs rs8)) :: (.own Sl.nil 34 1 (encs ([] : List (LR Int)))) :: (.blk b1 (enc (PosetR.mk a0 s_a0_1)) 24) :: L) ⟨rfl, rfl, rfl, rfl, rfl, trivial⟩ rfl ?_
  rcases k19 with _ | k19
  · have hc19 : decide ((i19 : Int) < a0.N) = false := decide_eq_false (by omega)
    replace H := rangeF_end H
    refine Cd.seq ?_
    refine Cd.region ?_
    refine Lst.run rfl rfl (by decide) (Ev.lss rfl rfl) ?_
    refine Lst.nil ?_
    refine At.then ?_
    refine Cd.seq ?_
    refine Cd.condF rfl hc19 ?_
    refine Cd.exit ?_
    refine At.then_exit ?_
    refine At.then_exit ?_
    refine At.in_exit ?_
    subst H
    replace H := HKl19
    refine At.then ?_
    refine Cd.seq ?_
    refine Cd.region ?_
    have ha57 : All LR.rel w0 F21 [] ([] : List (LR Int)) := All.nil
    have ha57m : List.map LR.v ([] : List (LR Int)) = ([] : List (List Int)) := rfl
    refine Lst.addNil 34 1 ?_
    refine Lst.run rfl rfl (by decide) (Ev.assign rfl) ?_
    refine Lst.nil ?_
    refine At.then ?_
    refine Cd.seq ?_
    refine Cd.seq ?_
    refine Cd.region ?_
    refine Lst.run rfl rfl (by decide) (Ev.assign rfl) ?_
    refine Lst.nil ?_
    refine At.then ?_
    refine Cd.block ?_
    obtain ⟨ol58, H, HKl58⟩ := andThen_some H
    refine Cd.loop (σ := Nat × Int × Sl × (List (List Int)) × (List (LR Int))) (fun (k58, y59, s60, l61, rs62) => [(4, Sl.v s17), (7, Sl.v s60), (8, .int .i64 y59)]) (fun (k58, y59, s60, l61, rs62) => (.own s60 34 1 (encs rs62)) :: (.own s17 3 1 (encs l20)) :: (.rows (α := Bool) 4 rs8) :: (.own s7 75 1 (encs rs8)) :: (.own Sl.nil 34 1 (encs ([] : List (LR Int)))) :: (.blk b1 (enc (PosetR.mk a0 s_a0_1)) 24) :: L) (fun Fx => (fun (k58, y59, s60, l61, rs62) => whileM (partref_Levels_B6 l20) k58 (y59, l61) = some ol58 ∧ rs62.map LR.v = l61 ∧ All LR.rel w0 Fx M rs62)) (fun (k58, y59, s60, l61, rs62) => k58) (fu, (0 : Int), Sl.nil, ([] : List (List Int)), ([] : List (LR Int))) ⟨rfl, rfl, rfl, trivial⟩ rfl ⟨H, ha57m, (All.monoLR ha57 (FLe.refl _) (List.nil_sublist _))⟩ ?_
    rintro F65 ⟨k58, y59, s60, l61, rs62⟩ hF66 ⟨H, fm63, fa64⟩
    refine Cd.as (e' := [(4, Sl.v s17), (7, Sl.v s60), (8, .int .i64 y59)]) (L' := (.own s60 34 1 (encs rs62)) :: (.own s17 3 1 (encs l20)) :: (.rows (α := Bool) 4 rs8) :: (.own s7 75 1 (encs rs8)) :: (.own Sl.nil 34 1 (encs ([] : List (LR Int)))) :: (.blk b1 (enc (PosetR.mk a0 s_a0_1)) 24) :: L) ⟨rfl, rfl, rfl, trivial⟩ rfl ?_
    rcases k58 with _ | k58
    · cases H
    obtain ⟨c58, H, hgo58, hbrk58, hret58⟩ := whileM_go H
    unfold partref_Levels_B6 at H
    try dsimp only at H
    refine Cd.seq ?_
    refine Cd.seq ?_
    refine Cd.region ?_
    refine Lst.run rfl rfl (by decide) (Ev.move rfl) ?_
    refine Lst.run rfl rfl (by decide) (Ev.move rfl) ?_
    obtain ⟨r67, h68, H⟩ := bind_some H
    refine Lst.call1 rfl rfl (by decide) (vs := [Sl.v s17, .int .i64 y59]) ⟨rfl, rfl, trivial⟩ Try.call57 (slices_Contains_int_int_sim h68 w0 _ _ _ (List.Sublist.refl _) (Rd.own (i := 1) rfl rfl rfl)) ?_
    refine Lst.nil ?_
    refine At.then ?_
    rcases (Bool.eq_false_or_eq_true r67).symm with hb71 | hb71
    · replace H := ite_f hb71 H
      refine Cd.condF rfl hb71 ?_
      refine Cd.exit ?_
      refine At.then_exit ?_
      refine At.then_exit ?_
      refine At.in_exit ?_
      have H := hbrk58 _ (some_inj H).symm
      subst H
      replace H := HKl58
      refine At.then ?_
      refine Cd.seq ?_
      refine Cd.region ?_
      refine Lst.run rfl rfl (by decide) (Ev.move rfl) ?_
      refine Lst.run rfl rfl (by decide) (Ev.assign rfl) ?_
      refine Lst.nil ?_
      refine At.then ?_
      obtain rfl := some_inj H
      refine Cd.ret ?_
      exact At.ret1 rfl (Res.tmp rfl) (FLe.trans (FLe.trans hF13 hF22) hF66) (List.Sublist.cons_cons _ (List.Sublist.cons _ (List.Sublist.cons _ (List.Sublist.cons _ (List.Sublist.cons _ (List.Sublist.cons _ (List.Sublist.refl _))))))) ⟨s60, rs62, rfl, rfl, fm63, (All.monoLR fa64 (FLe.refl _) (List.Sublist.refl _))⟩
    replace H := ite_t hb71 H
    refine Cd.condT rfl hb71 ?_
    refine Cd.skip ?_
    refine At.then ?_
    refine Cd.seq ?_
    refine Cd.block ?_
    refine Cd.seq ?_
    refine Cd.region ?_
    refine Lst.addNil 3 1 ?_
    refine Lst.run rfl rfl (by decide) (Ev.assign rfl) ?_
    refine Lst.nil ?_
    refine At.then ?_
    refine Cd.seq ?_
    refine Cd.seq ?_
    refine Cd.region ?_
    refine Lst.run rfl rfl (by decide) (Ev.move rfl) ?_
    refine Lst.run rfl rfl (by decide) (Ev.lenS (α := Int) (xs := l20) (by decide) rfl rfl Try.runUnderlying34 (Rd.own (i := 2) rfl rfl rfl)) ?_
    refine Lst.run rfl rfl (by decide) (Ev.move rfl) ?_
    refine Lst.nil ?_
    refine At.then ?_
    refine Cd.block ?_
    refine Cd.bound (Rd.le (α := Int) (xs := l20) (by decide) (Rd.own (i := 2) rfl rfl rfl)) (fun hN100 => ?_)
    obtain ⟨ol73, H, HKl73⟩ := bind_some H
    refine Cd.loop (σ := Nat × Nat × Sl × (List Int)) (fun (i73, k73, s74, l75) => [(4, Sl.v s17), (7, Sl.v s60), (8, .int .i64 y59), (9, Sl.v s74), (62, Sl.v s17), (63, .int .i64 (l20.length : Int)), (64, .int .i64 (i73 : Int))]) (fun (i73, k73, s74, l75) => (.own s74 3 1 (encs l75)) :: (.own s60 34 1 (encs rs62)) :: (.own s17 3 1 (encs l20)) :: (.rows (α := Bool) 4 rs8) :: (.own s7 75 1 (encs rs8)) :: (.own Sl.nil 34 1 (encs ([] : List (LR Int)))) :: (.blk b1 (enc (PosetR.mk a0 s_a0_1)) 24) :: L) (fun _ => (fun (i73, k73, s74, l75) => rangeF (partref_Levels_B8 l20 y59) k73 i73 l75 = some ol73 ∧ i73 + k73 = l20.length)) (fun (i73, k73, s74, l75) => k73) (0, l20.length, Sl.nil, ([] : List Int)) ⟨rfl, rfl, rfl, rfl, rfl, rfl, rfl, trivial⟩ rfl ⟨H, by omega⟩ ?_
    rintro F76 ⟨i73, k73, s74, l75⟩ hF77 ⟨H, hik73⟩
    refine Cd.as (e' := [(4, Sl.v s17), (7, Sl.v s60), (8, .int .i64 y59), (9, Sl.v s74), (62, Sl.v s17), (63, .int .i64 (l20.length : Int)), (64, .int .i64 (i73 : Int))]) (L' := (.own s74 3 1 (encs l75)) :: (.own s60 34 1 (encs rs62)) :: (.own s17 3 1 (encs l20)) :: (.rows (α := Bool) 4 rs8) :: (.own s7 75 1 (encs rs8)) :: (.own Sl.nil 34 1 (encs ([] : List (LR Int)))) :: (.blk b1 (enc (PosetR.mk a0 s_a0_1)) 24) :: L) ⟨rfl, rfl, rfl, rfl, rfl, rfl, rfl, trivial⟩ rfl ?_
    rcases k73 with _ | k73
    · have hc73 : decide ((i73 : Int) < (l20.length : Int)) = false := decide_eq_false (by omega)
      replace H := rangeF_end H
      refine Cd.seq ?_
      refine Cd.region ?_
      refine Lst.run rfl rfl (by decide) (Ev.lss rfl rfl) ?_
      refine Lst.nil ?_
      refine At.then ?_
      refine Cd.seq ?_
      refine Cd.condF rfl hc73 ?_
      refine Cd.exit ?_
      refine At.then_exit ?_
      refine At.then_exit ?_
      refine At.in_exit ?_
      subst H
      replace H := HKl73
      refine At.then ?_
      refine Cd.region ?_
      refine Lst.run rfl rfl (by decide) (Ev.move rfl) ?_
      refine Lst.run rfl rfl (by decide) (Ev.move rfl) ?_
      refine Lst.freeze (i := 0) rfl (fun F87 hF88 hz89 => ?_)
      have hq90 : Rd w0 F87 [] s74 l75 := Rd.frozen hz89 rfl rfl
      refine Lst.its (L' := (.own s60 34 1 (encs rs62)) :: (.own s17 3 1 (encs l20)) :: (.rows (α := Bool) 4 rs8) :: (.own s7 75 1 (encs rs8)) :: (.own Sl.nil 34 1 (encs ([] : List (LR Int)))) :: (.blk b1 (enc (PosetR.mk a0 s_a0_1)) 24) :: L) rfl ?_
      have hm93 : ([(LR.mk l75 s74)] : List (LR Int)).map LR.v = ([l75] : List (List Int)) := rfl
      have ha94 : All LR.rel w0 F87 [] ([(LR.mk l75 s74)] : List (LR Int)) := All.of1 (hq90.mono (FLe.refl _) (List.nil_sublist _))
      refine Lst.buildSlice (α := LR Int) (xs := ([(LR.mk l75 s74)] : List (LR Int))) (pv := [(0, Sl.v s74)]) rfl rfl (by decide) ⟨rfl, rfl, trivial⟩ (run_buildSlice (α := LR Int) (z0 := ((LR.mk [] Sl.nil) : LR Int)) (xs := ([(LR.mk l75 s74)] : List (LR Int))) Try.runUnderlying56 Try.sizeOf34 Try.zeroValue34 rfl rfl rfl (by decide) rfl (fill_cons (cs := encs (List.replicate 1 ((LR.mk [] Sl.nil) : LR Int))) (cs' := encs ((List.replicate 1 ((LR.mk [] Sl.nil) : LR Int)).set 0 (LR.mk l75 s74))) (vs := [Sl.v s74]) rfl rfl rfl ((Put.elemN (s := 1) (i := 0) (x := ((LR.mk [] Sl.nil) : LR Int)) (y := (LR.mk l75 s74)) rfl rfl (Put.here (vs := [Sl.v s74]) rfl)).off rfl) fill_nil)) rfl rfl (by decide) (fun s91 _ => ?_)
      obtain ⟨u95, h96, H⟩ := bind_some H
      have hm98 : (rs62 ++ ([(LR.mk l75 s74)] : List (LR Int))).map LR.v = l61 ++ ([l75] : List (List Int)) := map_app fm63 hm93
      have ha99 : All LR.rel w0 F87 M (rs62 ++ ([(LR.mk l75 s74)] : List (LR Int))) := All.app (All.monoLR fa64 (FLe.trans hF77 hF88) (List.Sublist.refl _)) (All.monoLR ha94 (FLe.refl _) (List.nil_sublist _))
      refine Lst.append (i := 1) (α := LR Int) (xs := rs62) (ys := ([(LR.mk l75 s74)] : List (LR Int))) rfl rfl (by decide) rfl rfl Try.runUnderlying56 Try.typeInfo34 rfl rfl rfl rfl rfl rfl (Rd.own (i := 0) rfl rfl rfl) rfl (by have := room_some h96; have := map_len fm63; have := map_len hm93; omega) rfl (fun s97 => ?_)
      refine Lst.its (L' := (.own s91 34 1 (encs ([(LR.mk l75 s74)] : List (LR Int)))) :: (.own s97 34 1 (encs (rs62 ++ ([(LR.mk l75 s74)] : List (LR Int))))) :: (.own s17 3 1 (encs l20)) :: (.rows (α := Bool) 4 rs8) :: (.own s7 75 1 (encs rs8)) :: (.own Sl.nil 34 1 (encs ([] : List (LR Int)))) :: (.blk b1 (enc (PosetR.mk a0 s_a0_1)) 24) :: L) rfl ?_
      refine Lst.run rfl rfl (by decide) (Ev.assign rfl) ?_
      refine Lst.nil ?_
      refine At.in_normal ?_
      refine At.then ?_
      refine Cd.region ?_
      refine Lst.run rfl rfl (by decide) (Ev.move rfl) ?_
      refine Lst.run rfl rfl (by decide) (Ev.add rfl rfl) ?_
      refine Lst.run rfl rfl (by decide) (Ev.assign rfl) ?_
      refine Lst.nil ?_
      refine At.less (L' := (.own s97 34 1 (encs (rs62 ++ ([(LR.mk l75 s74)] : List (LR Int))))) :: (.own s17 3 1 (encs l20)) :: (.rows (α := Bool) 4 rs8) :: (.own s7 75 1 (encs rs8)) :: (.own Sl.nil 34 1 (encs ([] : List (LR Int)))) :: (.blk b1 (enc (PosetR.mk a0 s_a0_1)) 24) :: L) (List.Sublist.cons _ (List.Sublist.cons_cons _ (List.Sublist.cons_cons _ (List.Sublist.cons_cons _ (List.Sublist.cons_cons _ (List.Sublist.cons_cons _ (List.Sublist.cons_cons _ (List.Sublist.refl _)))))))) ?_
      exact At.meet (k58, w64 (y59 + (1 : Int)), s97, l61 ++ ([l75] : List (List Int)), (rs62 ++ ([(LR.mk l75 s74)] : List (LR Int)))) (FLe.trans (FLe.trans hF66 hF77) hF88) ⟨rfl, rfl, rfl, trivial⟩ rfl ⟨⟨hgo58 _ (some_inj H).symm, hm98, (All.monoLR ha99 (FLe.refl _) (List.Sublist.refl _))⟩, Nat.lt_succ_self _⟩
    have hc73 : decide ((i73 : Int) < (l20.length : Int)) = true := decide_eq_true (by omega)
    obtain ⟨c73, H, hgo73⟩ := rangeF_go H
    unfold partref_Levels_B8 at H
    try dsimp only at H
    refine Cd.seq ?_
    refine Cd.region ?_
    refine Lst.run rfl rfl (by decide) (Ev.lss rfl rfl) ?_
    refine Lst.nil ?_
    refine At.then ?_
    refine Cd.seq ?_
    refine Cd.condT rfl hc73 ?_
    refine Cd.skip ?_
    refine At.then ?_
    refine Cd.seq ?_
    refine Cd.block ?_
    refine Cd.seq ?_
    refine Cd.region ?_
    refine Lst.run rfl rfl (by decide) (Ev.move rfl) ?_
    obtain ⟨x78, h79, H⟩ := bind_some H
    have g80 := lat_some h79
    refine Lst.run rfl rfl (by decide) (Ev.indexS (α := Int) (xs := l20) rfl rfl Try.runUnderlying34 Try.sizeOf3 rfl (by decide) (Rd.own (i := 2) rfl rfl rfl) g80.1 g80.2.1) ?_
    refine Lst.run rfl rfl (by decide) (Ev.loadS (α := Int) rfl (Rd.own (i := 2) rfl rfl rfl) Try.isAgg3 (v := .int .i64 x78) ((Get.elemN (s := 1) (x := x78) rfl g80.2.2 (Get.here _)).off (by omega))) ?_
    refine Lst.run rfl rfl (by decide) (Ev.assign rfl) ?_
    refine Lst.run rfl rfl (by decide) (Ev.assign rfl) ?_
    refine Lst.nil ?_
    refine At.then ?_
    refine Cd.seq ?_
    refine Cd.region ?_
    refine Lst.run rfl rfl (by decide) (Ev.move rfl) ?_
    refine Lst.run rfl rfl (by decide) (Ev.move rfl) ?_
    refine Lst.run rfl rfl (by decide) (Ev.eql rfl rfl) ?_
    refine Lst.nil ?_
    refine At.then ?_
    rcases (Bool.eq_false_or_eq_true (x78 == y59)).symm with hb81 | hb81
    · replace H := ite_f hb81 H
      refine Cd.condF rfl hb81 ?_
      refine Cd.skip ?_
      refine At.in_normal ?_
      refine At.then ?_
      refine Cd.region ?_
      refine Lst.run rfl rfl (by decide) (Ev.incr (by omega) rfl rfl) ?_
      refine Lst.run rfl rfl (by decide) (Ev.move rfl) ?_
      refine Lst.nil ?_
      exact At.meet (i73 + 1, k73, s74, l75) hF77 ⟨rfl, rfl, rfl, rfl, rfl, rfl, rfl, trivial⟩ rfl ⟨⟨hgo73 _ (some_inj H).symm, by omega⟩, Nat.lt_succ_self _⟩
    replace H := ite_t hb81 H
    refine Cd.condT rfl hb81 ?_
    refine Cd.region ?_
    refine Lst.run rfl rfl (by decide) (Ev.move rfl) ?_
    refine Lst.run rfl rfl (by decide) (Ev.move rfl) ?_
    refine Lst.buildSlice (α := Int) (xs := ([(i73 : Int)] : List Int)) (pv := [(0, .int .i64 (i73 : Int))]) rfl rfl (by decide) ⟨rfl, rfl, trivial⟩ (run_buildSlice (α := Int) (z0 := (0 : Int)) (xs := ([(i73 : Int)] : List Int)) Try.runUnderlying34 Try.sizeOf3 Try.zeroValue3 rfl rfl rfl (by decide) rfl (fill_cons (cs := encs (List.replicate 1 (0 : Int))) (cs' := encs ((List.replicate 1 (0 : Int)).set 0 (i73 : Int))) (vs := [.int .i64 (i73 : Int)]) rfl rfl rfl ((Put.elemN (s := 1) (i := 0) (x := (0 : Int)) (y := (i73 : Int)) rfl rfl (Put.here (vs := [.int .i64 (i73 : Int)]) rfl)).off rfl) fill_nil)) rfl rfl (by decide) (fun s82 _ => ?_)
    obtain ⟨u84, h85, H⟩ := bind_some H
    refine Lst.append (i := 1) (α := Int) (xs := l75) (ys := ([(i73 : Int)] : List Int)) rfl rfl (by decide) rfl rfl Try.runUnderlying34 Try.typeInfo3 rfl rfl rfl rfl rfl rfl (Rd.own (i := 0) rfl rfl rfl) rfl (room_some h85) rfl (fun s86 => ?_)
    refine Lst.its (L' := (.own s82 3 1 (encs ([(i73 : Int)] : List Int))) :: (.own s86 3 1 (encs (l75 ++ ([(i73 : Int)] : List Int)))) :: (.own s60 34 1 (encs rs62)) :: (.own s17 3 1 (encs l20)) :: (.rows (α := Bool) 4 rs8) :: (.own s7 75 1 (encs rs8)) :: (.own Sl.nil 34 1 (encs ([] : List (LR Int)))) :: (.blk b1 (enc (PosetR.mk a0 s_a0_1)) 24) :: L) rfl ?_
    refine Lst.run rfl rfl (by decide) (Ev.assign rfl) ?_
    refine Lst.nil ?_
    refine At.in_normal ?_
    refine At.then ?_
    refine Cd.region ?_
    refine Lst.run rfl rfl (by decide) (Ev.incr (by omega) rfl rfl) ?_
    refine Lst.run rfl rfl (by decide) (Ev.move rfl) ?_
    refine Lst.nil ?_
    refine At.less (L' := (.own s86 3 1 (encs (l75 ++ ([(i73 : Int)] : List Int)))) :: (.own s60 34 1 (encs rs62)) :: (.own s17 3 1 (encs l20)) :: (.rows (α := Bool) 4 rs8) :: (.own s7 75 1 (encs rs8)) :: (.own Sl.nil 34 1 (encs ([] : List (LR Int)))) :: (.blk b1 (enc (PosetR.mk a0 s_a0_1)) 24) :: L) (List.Sublist.cons _ (List.Sublist.cons_cons _ (List.Sublist.cons_cons _ (List.Sublist.cons_cons _ (List.Sublist.cons_cons _ (List.Sublist.cons_cons _ (List.Sublist.cons_cons _ (List.Sublist.cons_cons _ (List.Sublist.refl _))))))))) ?_
    exact At.meet (i73 + 1, k73, s86, l75 ++ ([(i73 : Int)] : List Int)) hF77 ⟨rfl, rfl, rfl, rfl, rfl, rfl, rfl, trivial⟩ rfl ⟨⟨hgo73 _ (some_inj H).symm, by omega⟩, Nat.lt_succ_self _⟩
  have hc19 : decide ((i19 : Int) < a0.N) = true := decide_eq_true (by omega)
  obtain ⟨c19, H, hgo19⟩ := rangeF_go H
  unfold partref_Levels_B0 at H
  try dsimp only at H
  refine Cd.seq ?_
  refine Cd.region ?_
  refine Lst.run rfl rfl (by decide) (Ev.lss rfl rfl) ?_
  refine Lst.nil ?_
  refine At.then ?_
  refine Cd.seq ?_
  refine Cd.condT rfl hc19 ?_
  refine Cd.skip ?_
  refine At.then ?_
  refine Cd.seq ?_
  refine Cd.block ?_
  refine Cd.seq ?_
  refine Cd.region ?_
  refine Lst.run rfl rfl (by decide) (Ev.fieldAddr (off' := 0) rfl Try.runUnderlying24 rfl Try.sizeOf3 rfl rfl) ?_
  refine Lst.run rfl rfl (by decide) (Ev.load (i := 4) rfl rfl Try.isAgg3 (v := .int .i64 a0.N) ((PosetR.get_N (Get.here _)).off (by rfl))) ?_
  refine Lst.run rfl rfl (by decide) (Ev.move rfl) ?_
  refine Lst.nil ?_
  refine At.then ?_
  refine Cd.block ?_
  obtain ⟨nn28, hN55, H⟩ := bind_some H
  replace hN55 := upTo_some hN55
  obtain ⟨ol24, H, HKl24⟩ := bind_some H
  refine Cd.loop (σ := Nat × Nat × (List Int)) (fun (i24, k24, l25) => [(1, .pointer (some ⟨b1, 0, none⟩)), (3, Sl.v s7), (4, Sl.v s17), (21, .int .i64 a0.N), (22, .int .i64 (i19 : Int)), (25, .int .i64 a0.N), (26, .int .i64 (i24 : Int))]) (fun (i24, k24, l25) => (.own s17 3 1 (encs l25)) :: (.rows (α := Bool) 4 rs8) :: (.own s7 75 1 (encs rs8)) :: (.own Sl.nil 34 1 (encs ([] : List (LR Int)))) :: (.blk b1 (enc (PosetR.mk a0 s_a0_1)) 24) :: L) (fun _ => (fun (i24, k24, l25) => rangeF (partref_Levels_B2 a0 r5) k24 i24 l25 = some ol24 ∧ i24 + k24 = nn28)) (fun (i24, k24, l25) => k24) (0, nn28, l20) ⟨rfl, rfl, rfl, rfl, rfl, rfl, rfl, trivial⟩ rfl ⟨H, by omega⟩ ?_
  rintro F26 ⟨i24, k24, l25⟩ hF27 ⟨H, hik24⟩
  refine Cd.as (e' := [(1, .pointer (some ⟨b1, 0, none⟩)), (3, Sl.v s7), (4, Sl.v s17), (21, .int .i64 a0.N), (22, .int .i64 (i19 : Int)), (25, .int .i64 a0.N), (26, .int .i64 (i24 : Int))]) (L' := (.own s17 3 1 (encs l25)) :: (.rows (α := Bool) 4 rs8) :: (.own s7 75 1 (encs rs8)) :: (.own Sl.nil 34 1 (encs ([] : List (LR Int)))) :: (.blk b1 (enc (PosetR.mk a0 s_a0_1)) 24) :: L) ⟨rfl, rfl, rfl, rfl, rfl, rfl, rfl, trivial⟩ rfl ?_
  rcases k24 with _ | k24
  · have hc24 : decide ((i24 : Int) < a0.N) = false := decide_eq_false (by omega)
    replace H := rangeF_end H
    refine Cd.seq ?_
    refine Cd.region ?_
    refine Lst.run rfl rfl (by decide) (Ev.lss rfl rfl) ?_
    refine Lst.nil ?_
    refine At.then ?_
    refine Cd.seq ?_
    refine Cd.condF rfl hc24 ?_
    refine Cd.exit ?_
    refine At.then_exit ?_
    refine At.then_exit ?_
    refine At.in_exit ?_
    subst H
    replace H := HKl24
    refine At.in_normal ?_
    refine At.then ?_
    refine Cd.region ?_
    refine Lst.run rfl rfl (by decide) (Ev.incr (by omega) rfl rfl) ?_
    refine Lst.run rfl rfl (by decide) (Ev.move rfl) ?_
    refine Lst.nil ?_
    exact At.meet (i19 + 1, k19, l25) (FLe.trans hF22 hF27) ⟨rfl, rfl, rfl, rfl, rfl, trivial⟩ rfl ⟨⟨hgo19 _ (some_inj H).symm, by omega⟩, Nat.lt_succ_self _⟩
  have hc24 : decide ((i24 : Int) < a0.N) = true := decide_eq_true (by omega)
  obtain ⟨c24, H, hgo24⟩ := rangeF_go H
  unfold partref_Levels_B2 at H
  try dsimp only at H
  refine Cd.seq ?_
  refine Cd.region ?_
  refine Lst.run rfl rfl (by decide) (Ev.lss rfl rfl) ?_
  refine Lst.nil ?_
  refine At.then ?_
  refine Cd.seq ?_
  refine Cd.condT rfl hc24 ?_
  refine Cd.skip ?_
  refine At.then ?_
  refine Cd.seq ?_
  refine Cd.block ?_
  refine Cd.seq ?_
  refine Cd.region ?_
  refine Lst.run rfl rfl (by decide) (Ev.move rfl) ?_
  refine Lst.run rfl rfl (by decide) (Ev.assign rfl) ?_
  refine Lst.nil ?_
  refine At.then ?_
  refine Cd.seq ?_
  refine Cd.region ?_
  refine Lst.run rfl rfl (by decide) (Ev.fieldAddr (off' := 0) rfl Try.runUnderlying24 rfl Try.sizeOf3 rfl rfl) ?_
  refine Lst.run rfl rfl (by decide) (Ev.load (i := 4) rfl rfl Try.isAgg3 (v := .int .i64 a0.N) ((PosetR.get_N (Get.here _)).off (by rfl))) ?_
  refine Lst.run rfl rfl (by decide) (Ev.move rfl) ?_
  refine Lst.nil ?_
  refine At.then ?_
  refine Cd.block ?_
  obtain ⟨nn33, hN54, H⟩ := bind_some H
  replace hN54 := upTo_some hN54
  obtain ⟨ol29, H, HKl29⟩ := bind_some H
  refine Cd.loop (σ := Nat × Nat × (List Int)) (fun (i29, k29, l30) => [(1, .pointer (some ⟨b1, 0, none⟩)), (3, Sl.v s7), (4, Sl.v s17), (5, .int .i64 (i24 : Int)), (21, .int .i64 a0.N), (22, .int .i64 (i19 : Int)), (25, .int .i64 a0.N), (26, .int .i64 (i24 : Int)), (30, .int .i64 a0.N), (31, .int .i64 (i29 : Int))]) (fun (i29, k29, l30) => (.own s17 3 1 (encs l30)) :: (.rows (α := Bool) 4 rs8) :: (.own s7 75 1 (encs rs8)) :: (.own Sl.nil 34 1 (encs ([] : List (LR Int)))) :: (.blk b1 (enc (PosetR.mk a0 s_a0_1)) 24) :: L) (fun _ => (fun (i29, k29, l30) => rangeF (partref_Levels_B4 r5 i24) k29 i29 l30 = some ol29 ∧ i29 + k29 = nn33)) (fun (i29, k29, l30) => k29) (0, nn33, l25) ⟨rfl, rfl, rfl, rfl, rfl, rfl, rfl, rfl, rfl, rfl, trivial⟩ rfl ⟨H, by omega⟩ ?_
  rintro F31 ⟨i29, k29, l30⟩ hF32 ⟨H, hik29⟩
  refine Cd.as (e' := [(1, .pointer (some ⟨b1, 0, none⟩)), (3, Sl.v s7), (4, Sl.v s17), (5, .int .i64 (i24 : Int)), (21, .int .i64 a0.N), (22, .int .i64 (i19 : Int)), (25, .int .i64 a0.N), (26, .int .i64 (i24 : Int)), (30, .int .i64 a0.N), (31, .int .i64 (i29 : Int))]) (L' := (.own s17 3 1 (encs l30)) :: (.rows (α := Bool) 4 rs8) :: (.own s7 75 1 (encs rs8)) :: (.own Sl.nil 34 1 (encs ([] : List (LR Int)))) :: (.blk b1 (enc (PosetR.mk a0 s_a0_1)) 24) :: L) ⟨rfl, rfl, rfl, rfl, rfl, rfl, rfl, rfl, rfl, rfl, trivial⟩ rfl ?_
  rcases k29 with _ | k29
  · have hc29 : decide ((i29 : Int) < a0.N) = false := decide_eq_false (by omega)
    replace H := rangeF_end H
    refine Cd.seq ?_
    refine Cd.region ?_
    refine Lst.run rfl rfl (by decide) (Ev.lss rfl rfl) ?_
    refine Lst.nil ?_
    refine At.then ?_
    refine Cd.seq ?_
    refine Cd.condF rfl hc29 ?_
    refine Cd.exit ?_
    refine At.then_exit ?_
    refine At.then_exit ?_
    refine At.in_exit ?_
    subst H
    replace H := HKl29
    refine At.in_normal ?_
    refine At.then ?_
    refine Cd.region ?_
    refine Lst.run rfl rfl (by decide) (Ev.incr (by omega) rfl rfl) ?_
    refine Lst.run rfl rfl (by decide) (Ev.move rfl) ?_
    refine Lst.nil ?_
    exact At.meet (i24 + 1, k24, l30) (FLe.trans hF27 hF32) ⟨rfl, rfl, rfl, rfl, rfl, rfl, rfl, trivial⟩ rfl ⟨⟨hgo24 _ (some_inj H).symm, by omega⟩, Nat.lt_succ_self _⟩
  have hc29 : decide ((i29 : Int) < a0.N) = true := decide_eq_true (by omega)
  obtain ⟨c29, H, hgo29⟩ := rangeF_go H
  unfold partref_Levels_B4 at H
  try dsimp only at H
  refine Cd.seq ?_
  refine Cd.region ?_
  refine Lst.run rfl rfl (by decide) (Ev.lss rfl rfl) ?_
  refine Lst.nil ?_
  refine At.then ?_
  refine Cd.seq ?_
  refine Cd.condT rfl hc29 ?_
  refine Cd.skip ?_
  refine At.then ?_
  refine Cd.seq ?_
  refine Cd.block ?_
  refine Cd.seq ?_
  refine Cd.region ?_
  refine Lst.run rfl rfl (by decide) (Ev.move rfl) ?_
  refine Lst.run rfl rfl (by decide) (Ev.assign rfl) ?_
  refine Lst.nil ?_
  refine At.then ?_
  refine Cd.seq ?_
  refine Cd.region ?_
  refine Lst.run rfl rfl (by decide) (Ev.move rfl) ?_
  refine Lst.run rfl rfl (by decide) (Ev.move rfl) ?_
  obtain ⟨x34, h35, H⟩ := bind_some H
  have g36 := lat_some h35
  obtain ⟨⟨r37v, r37h⟩, r37g, r37e, r37m⟩ := map_get fm9 g36.2.2
  obtain rfl : x34 = r37v := r37e.symm
  have hh38 := row_h r37g
  refine Lst.run rfl rfl (by decide) (Ev.indexS (α := LR Bool) (xs := rs8) rfl rfl Try.runUnderlying73 Try.sizeOf75 rfl (by decide) (Rd.own (i := 2) rfl rfl rfl) g36.1 (by have := map_len fm9; omega)) ?_
  refine Lst.run rfl rfl (by decide) (Ev.loadS (α := LR Bool) rfl (Rd.own (i := 2) rfl rfl rfl) Try.isAgg75 (v := Sl.v r37h) ((Get.elemN (s := 1) rfl r37g (Get.here _)).off (by omega))) ?_
  refine Lst.run rfl rfl (by decide) (Ev.move rfl) ?_
  obtain ⟨x39, h40, H⟩ := bind_some H
  have g41 := lat_some h40
  refine Lst.run rfl rfl (by decide) (Ev.indexS (α := Bool) (xs := x34) rfl rfl Try.runUnderlying75 Try.sizeOf4 rfl (by decide) (Rd.row (j := 1) rfl r37g) g41.1 g41.2.1) ?_
  refine Lst.run rfl rfl (by decide) (Ev.loadS (α := Bool) rfl (Rd.row (j := 1) rfl r37g) Try.isAgg4 (v := .bool x39) ((Get.elemN (s := 1) (x := x39) rfl g41.2.2 (Get.here _)).off (by omega))) ?_
  refine Lst.nil ?_
  refine At.then ?_
  rcases (Bool.eq_false_or_eq_true x39).symm with hb42 | hb42
  · replace H := ite_f hb42 H
    refine Cd.condF rfl hb42 ?_
    refine Cd.skip ?_
    refine At.in_normal ?_
    refine At.then ?_
    refine Cd.region ?_
    refine Lst.run rfl rfl (by decide) (Ev.incr (by omega) rfl rfl) ?_
    refine Lst.run rfl rfl (by decide) (Ev.move rfl) ?_
    refine Lst.nil ?_
    exact At.meet (i29 + 1, k29, l30) hF32 ⟨rfl, rfl, rfl, rfl, rfl, rfl, rfl, rfl, rfl, rfl, trivial⟩ rfl ⟨⟨hgo29 _ (some_inj H).symm, by omega⟩, Nat.lt_succ_self _⟩
  replace H := ite_t hb42 H
  refine Cd.condT rfl hb42 ?_
  refine Cd.tail 13 (by kernel_rfl) (by kernel_rfl) ?_
  refine Qt.run rfl rfl (by decide) (Ev.move rfl) ?_
  refine Qt.run rfl rfl (by decide) (Ev.move rfl) ?_
  refine Qt.run rfl rfl (by decide) (Ev.move rfl) ?_
  refine Qt.run rfl rfl (by decide) (Ev.move rfl) ?_
  obtain ⟨x43, h44, H⟩ := bind_some H
  have g45 := lat_some h44
  refine Qt.run rfl rfl (by decide) (Ev.indexS (α := Int) (xs := l30) rfl rfl Try.runUnderlying34 Try.sizeOf3 rfl (by decide) (Rd.own (i := 0) rfl rfl rfl) g45.1 g45.2.1) ?_
  refine Qt.run rfl rfl (by decide) (Ev.loadS (α := Int) rfl (Rd.own (i := 0) rfl rfl rfl) Try.isAgg3 (v := .int .i64 x43) ((Get.elemN (s := 1) (x := x43) rfl g45.2.2 (Get.here _)).off (by omega))) ?_
  refine Qt.run rfl rfl (by decide) (Ev.move rfl) ?_
  refine Qt.run rfl rfl (by decide) (Ev.move rfl) ?_
  obtain ⟨x46, h47, H⟩ := bind_some H
  have g48 := lat_some h47
  refine Qt.run rfl rfl (by decide) (Ev.indexS (α := Int) (xs := l30) rfl rfl Try.runUnderlying34 Try.sizeOf3 rfl (by decide) (Rd.own (i := 0) rfl rfl rfl) g48.1 g48.2.1) ?_
  refine Qt.run rfl rfl (by decide) (Ev.loadS (α := Int) rfl (Rd.own (i := 0) rfl rfl rfl) Try.isAgg3 (v := .int .i64 x46) ((Get.elemN (s := 1) (x := x46) rfl g48.2.2 (Get.here _)).off (by omega))) ?_
  refine Qt.run rfl rfl (by decide) (Ev.add rfl rfl) ?_
  refine Qt.run rfl rfl (by decide) (Ev.max2 rfl rfl) ?_
  obtain ⟨x49, h50, H⟩ := bind_some H
  have g51 := lat_some h50
  refine Qt.run rfl rfl (by decide) (Ev.indexS (α := Int) (xs := l30) rfl rfl Try.runUnderlying34 Try.sizeOf3 rfl (by decide) (Rd.own (i := 0) rfl rfl rfl) g51.1 g51.2.1) ?_
  refine Qt.tail ?_
  obtain ⟨p52, h53, H⟩ := Let_some H
  refine Lst.storeS (i := 0) rfl rfl rfl rfl rfl Try.sizeOf3 (vs := [.int .i64 (max x43 (w64 (x46 + (1 : Int))))]) rfl rfl (by decide) rfl (xs' := encs p52) (by rw [← h53]; exact (Put.elemN (s := 1) (x := x49) rfl g51.2.2 (Put.here (vs := [.int .i64 (max x43 (w64 (x46 + (1 : Int))))]) rfl)).off (by omega)) (L' := (.own s17 3 1 (encs p52)) :: (.rows (α := Bool) 4 rs8) :: (.own s7 75 1 (encs rs8)) :: (.own Sl.nil 34 1 (encs ([] : List (LR Int)))) :: (.blk b1 (enc (PosetR.mk a0 s_a0_1)) 24) :: L) rfl ?_
  refine Lst.nil ?_
  refine At.in_normal ?_
  refine At.then ?_
  refine Cd.as (e' := [(1, .pointer (some ⟨b1, 0, none⟩)), (3, Sl.v s7), (4, Sl.v s17), (5, .int .i64 (i24 : Int)), (21, .int .i64 a0.N), (22, .int .i64 (i19 : Int)), (25, .int .i64 a0.N), (26, .int .i64 (i24 : Int)), (30, .int .i64 a0.N), (31, .int .i64 (i29 : Int))]) (L' := (.own s17 3 1 (encs p52)) :: (.rows (α := Bool) 4 rs8) :: (.own s7 75 1 (encs rs8)) :: (.own Sl.nil 34 1 (encs ([] : List (LR Int)))) :: (.blk b1 (enc (PosetR.mk a0 s_a0_1)) 24) :: L) ⟨rfl, rfl, rfl, rfl, rfl, rfl, rfl, rfl, rfl, rfl, trivial⟩ rfl ?_
  refine Cd.region ?_
  refine Lst.run rfl rfl (by decide) (Ev.incr (by omega) rfl rfl) ?_
  refine Lst.run rfl rfl (by decide) (Ev.move rfl) ?_
  refine Lst.nil ?_
  exact At.meet (i29 + 1, k29, p52) hF32 ⟨rfl, rfl, rfl, rfl, rfl, rfl, rfl, rfl, rfl, rfl, trivial⟩ rfl ⟨⟨hgo29 _ (some_inj H).symm, by omega⟩, Nat.lt_succ_self _⟩
set_option maxRecDepth 20000 in
theorem slices_EqualFunc_int_int_int_int_int_int_sim {a0 : List (List Int)} {a1 : List (List Int)} {s_a0 : Sl} {rs_a0 : List (LR Int)} {s_a1 : Sl} {rs_a1 : List (LR Int)} {r : Bool} (H : slices_EqualFunc_int_int_int_int_int_int a0 a1 = some r) (w0 : World) (F : Frz) (M L : List Item) (hM : M.Sublist L) (hm_a0 : rs_a0.map LR.v = a0) (hs_a0 : Rd w0 F M s_a0 rs_a0) (ha_a0 : All LR.rel w0 F M rs_a0) (hm_a1 : rs_a1.map LR.v = a1) (hs_a1 : Rd w0 F M s_a1 rs_a1) (ha_a1 : All LR.rel w0 F M rs_a1) : Ok Try.prog w0 32 [Sl.v s_a0, Sl.v s_a1, .func (.func 30) #[] #[]] F (L) (Is (.bool r) (L)) := by
  unfold slices_EqualFunc_int_int_int_int_int_int at H
  refine Ok.enter (m := 3) (n := 32) Try.func32 rfl rfl rfl (by decide) ?_
  refine Cd.env (e' := [(0, Sl.v s_a0), (1, Sl.v s_a1), (2, .func (.func 30) #[] #[])]) rfl ?_
  refine Cd.seq ?_
  refine Cd.region ?_
  refine Lst.run rfl rfl (by decide) (Ev.assign rfl) ?_
  refine Lst.nil ?_
  refine At.then ?_
  refine Cd.seq ?_
  refine Cd.seq ?_
  refine Cd.region ?_
  refine Lst.run rfl rfl (by decide) (Ev.move rfl) ?_
  refine Lst.run rfl rfl (by decide) (Ev.lenM (map_len hm_a0) (Ev.lenS (α := LR Int) (xs := rs_a0) (by decide) rfl rfl Try.runUnderlying56 (hs_a0.mono (FLe.refl _) hM))) ?_
  refine Lst.run rfl rfl (by decide) (Ev.move rfl) ?_
  refine Lst.run rfl rfl (by decide) (Ev.lenM (map_len hm_a1) (Ev.lenS (α := LR Int) (xs := rs_a1) (by decide) rfl rfl Try.runUnderlying56 (hs_a1.mono (FLe.refl _) hM))) ?_
  refine Lst.run rfl rfl (by decide) (Ev.neq rfl rfl) ?_
  refine Lst.nil ?_
  refine At.then ?_
  rcases Bool.eq_false_or_eq_true ((a0.length : Int) != (a1.length : Int)) with hb3 | hb3
  · replace H := ite_t hb3 H
    refine Cd.condT rfl hb3 ?_
    refine Cd.seq ?_
    refine Cd.region ?_
    refine Lst.run rfl rfl (by decide) (Ev.assign rfl) ?_
    refine Lst.nil ?_
    refine At.then ?_
    obtain rfl := some_inj H
    refine Cd.ret ?_
    refine At.then_ret ?_
    exact At.ret1 rfl (Res.tmp rfl) (FLe.refl _) (List.Sublist.refl _) ⟨rfl, rfl⟩
  replace H := ite_f hb3 H
  refine Cd.condF rfl hb3 ?_
  refine Cd.skip ?_
  refine At.then ?_
  refine Cd.seq ?_
  refine Cd.seq ?_
  refine Cd.region ?_
  refine Lst.run rfl rfl (by decide) (Ev.move rfl) ?_
  refine Lst.run rfl rfl (by decide) (Ev.lenM (map_len hm_a0) (Ev.lenS (α := LR Int) (xs := rs_a0) (by decide) rfl rfl Try.runUnderlying56 (hs_a0.mono (FLe.refl _) hM))) ?_
  refine Lst.run rfl rfl (by decide) (Ev.move rfl) ?_
  refine Lst.nil ?_
  refine At.then ?_
  refine Cd.block ?_
  refine Cd.bound (Rd.le (α := LR Int) (xs := rs_a0) (by decide) (hs_a0.mono (FLe.refl _) hM)) (fun hN21 => ?_)
  rw [map_len hm_a0] at hN21
  obtain ⟨ol5, H, HKl5⟩ := andThen_some H
  refine Cd.loop (σ := Nat × Nat × Unit) (fun (i5, k5, _u) => [(1, Sl.v s_a1), (2, .func (.func 30) #[] #[]), (15, Sl.v s_a0), (16, .int .i64 (a0.length : Int)), (17, .int .i64 (i5 : Int))]) (fun (i5, k5, _u) => L) (fun _ => (fun (i5, k5, _u) => rangeM (slices_EqualFunc_int_int_int_int_int_int_B0 a0 a1) k5 i5 () = some ol5 ∧ i5 + k5 = a0.length)) (fun (i5, k5, _u) => k5) (0, a0.length, ()) ⟨rfl, rfl, rfl, rfl, rfl, trivial⟩ rfl ⟨H, by omega⟩ ?_
  rintro F6 ⟨i5, k5, _u⟩ hF7 ⟨H, hik5⟩
  refine Cd.as (e' := [(1, Sl.v s_a1), (2, .func (.func 30) #[] #[]), (15, Sl.v s_a0), (16, .int .i64 (a0.length : Int)), (17, .int .i64 (i5 : Int))]) (L' := L) ⟨rfl, rfl, rfl, rfl, rfl, trivial⟩ rfl ?_
  rcases k5 with _ | k5
  · have hc5 : decide ((i5 : Int) < (a0.length : Int)) = false := decide_eq_false (by omega)
    replace H := rangeM_end H
    refine Cd.seq ?_
    refine Cd.region ?_
    refine Lst.run rfl rfl (by decide) (Ev.lss rfl rfl) ?_
    refine Lst.nil ?_
    refine At.then ?_
    refine Cd.seq ?_
    refine Cd.condF rfl hc5 ?_
    refine Cd.exit ?_
    refine At.then_exit ?_
    refine At.then_exit ?_
    refine At.in_exit ?_
    subst H
    replace H := HKl5
    refine At.then ?_
    refine Cd.seq ?_
    refine Cd.region ?_
    refine Lst.run rfl rfl (by decide) (Ev.assign rfl) ?_
    refine Lst.nil ?_
    refine At.then ?_
    obtain rfl := some_inj H
    refine Cd.ret ?_
    exact At.ret1 rfl (Res.tmp rfl) hF7 (List.Sublist.refl _) ⟨rfl, rfl⟩
  have hc5 : decide ((i5 : Int) < (a0.length : Int)) = true := decide_eq_true (by omega)
  obtain ⟨c5, H, hgo5, hbrk5, hret5⟩ := rangeM_go H
  unfold slices_EqualFunc_int_int_int_int_int_int_B0 at H
  try dsimp only at H
  refine Cd.seq ?_
  refine Cd.region ?_
  refine Lst.run rfl rfl (by decide) (Ev.lss rfl rfl) ?_
  refine Lst.nil ?_
  refine At.then ?_
  refine Cd.seq ?_
  refine Cd.condT rfl hc5 ?_
  refine Cd.skip ?_
  refine At.then ?_
  refine Cd.seq ?_
  refine Cd.block ?_
  refine Cd.seq ?_
  refine Cd.region ?_
  refine Lst.run rfl rfl (by decide) (Ev.move rfl) ?_
  obtain ⟨x8, h9, H⟩ := bind_some H
  have g10 := lat_some h9
  obtain ⟨⟨r11v, r11h⟩, r11g, r11e, r11m⟩ := map_get hm_a0 g10.2.2
  obtain rfl : x8 = r11v := r11e.symm
  have r11q : Rd w0 _ _ r11h x8 := ha_a0 _ r11m
  refine Lst.run rfl rfl (by decide) (Ev.indexS (α := LR Int) (xs := rs_a0) rfl rfl Try.runUnderlying56 Try.sizeOf34 rfl (by decide) (hs_a0.mono hF7 hM) g10.1 (by have := map_len hm_a0; omega)) ?_
  refine Lst.run rfl rfl (by decide) (Ev.loadS (α := LR Int) rfl (hs_a0.mono hF7 hM) Try.isAgg34 (v := Sl.v r11h) ((Get.elemN (s := 1) rfl r11g (Get.here _)).off (by omega))) ?_
  refine Lst.run rfl rfl (by decide) (Ev.assign rfl) ?_
  refine Lst.run rfl rfl (by decide) (Ev.assign rfl) ?_
  refine Lst.nil ?_
  refine At.then ?_
  refine Cd.seq ?_
  refine Cd.region ?_
  refine Lst.run rfl rfl (by decide) (Ev.move rfl) ?_
  refine Lst.run rfl rfl (by decide) (Ev.move rfl) ?_
  obtain ⟨x12, h13, H⟩ := bind_some H
  have g14 := lat_some h13
  obtain ⟨⟨r15v, r15h⟩, r15g, r15e, r15m⟩ := map_get hm_a1 g14.2.2
  obtain rfl : x12 = r15v := r15e.symm
  have r15q : Rd w0 _ _ r15h x12 := ha_a1 _ r15m
  refine Lst.run rfl rfl (by decide) (Ev.indexS (α := LR Int) (xs := rs_a1) rfl rfl Try.runUnderlying56 Try.sizeOf34 rfl (by decide) (hs_a1.mono hF7 hM) g14.1 (by have := map_len hm_a1; omega)) ?_
  refine Lst.run rfl rfl (by decide) (Ev.loadS (α := LR Int) rfl (hs_a1.mono hF7 hM) Try.isAgg34 (v := Sl.v r15h) ((Get.elemN (s := 1) rfl r15g (Get.here _)).off (by omega))) ?_
  refine Lst.run rfl rfl (by decide) (Ev.assign rfl) ?_
  refine Lst.nil ?_
  refine At.then ?_
  refine Cd.seq ?_
  refine Cd.region ?_
  refine Lst.run rfl rfl (by decide) (Ev.move rfl) ?_
  refine Lst.run rfl rfl (by decide) (Ev.move rfl) ?_
  refine Lst.run rfl rfl (by decide) (Ev.move rfl) ?_
  obtain ⟨r16, h17, H⟩ := bind_some H
  refine Lst.callV1 rfl rfl (by decide) (vs := [Sl.v r11h, Sl.v r15h]) (cs := []) rfl ⟨rfl, rfl, trivial⟩ Try.call30 (slices_Equal_int_int_sim h17 w0 _ M _ hM (r11q.mono hF7 (List.Sublist.refl _)) (r15q.mono hF7 (List.Sublist.refl _))) ?_
  refine Lst.run rfl rfl (by decide) (Ev.not rfl) ?_
  refine Lst.nil ?_
  refine At.then ?_
  rcases Bool.eq_false_or_eq_true (!r16) with hb20 | hb20
  · replace H := ite_t hb20 H
    refine Cd.condT rfl hb20 ?_
    refine Cd.seq ?_
    refine Cd.as (e' := []) (L' := L) trivial rfl ?_
    refine Cd.region ?_
    refine Lst.run rfl rfl (by decide) (Ev.assign rfl) ?_
    refine Lst.nil ?_
    refine At.then ?_
    have H := hret5 _ (some_inj H).symm
    subst H
    replace H := HKl5
    obtain rfl := some_inj H
    refine Cd.ret ?_
    refine At.in_ret ?_
    refine At.then_ret ?_
    refine At.then_ret ?_
    refine At.in_ret ?_
    refine At.then_ret ?_
    exact At.ret1 rfl (Res.tmp rfl) hF7 (List.Sublist.refl _) ⟨rfl, rfl⟩
  replace H := ite_f hb20 H
  refine Cd.condF rfl hb20 ?_
  refine Cd.skip ?_
  refine At.in_normal ?_
  refine At.then ?_
  refine Cd.as (e' := [(1, Sl.v s_a1), (2, .func (.func 30) #[] #[]), (15, Sl.v s_a0), (16, .int .i64 (a0.length : Int)), (17, .int .i64 (i5 : Int))]) (L' := L) ⟨rfl, rfl, rfl, rfl, rfl, trivial⟩ rfl ?_
  refine Cd.region ?_
  refine Lst.run rfl rfl (by decide) (Ev.incr (by omega) rfl rfl) ?_
  refine Lst.run rfl rfl (by decide) (Ev.move rfl) ?_
  refine Lst.nil ?_
  exact At.meet (i5 + 1, k5, ()) hF7 ⟨rfl, rfl, rfl, rfl, rfl, trivial⟩ rfl ⟨⟨hgo5 _ (some_inj H).symm, by omega⟩, Nat.lt_succ_self _⟩
set_option maxRecDepth 20000 in
theorem partlaw_PosetSays_sim {fu : Nat} {a0 : Poset} {s_a0_1 : Sl} {r : Bool} (H : partlaw_PosetSays fu a0 = some r) (w0 : World) (F : Frz) (M L : List Item) (hM : M.Sublist L) (hs_a0_1 : Rd w0 F M s_a0_1 a0.Pairs) : Ok Try.prog w0 6 [.agg (enc (PosetR.mk a0 s_a0_1)).toArray] F (L) (Is (.bool r) (L)) := by
  unfold partlaw_PosetSays at H
  refine Ok.enter (m := 1) (n := 116) Try.func6 rfl rfl rfl (by decide) ?_
  refine Cd.env (e' := [(0, .agg (enc (PosetR.mk a0 s_a0_1)).toArray)]) rfl ?_
  refine Cd.seq ?_
  refine Cd.region ?_
  refine Lst.box rfl rfl (by decide) rfl (cs := enc (PosetR.mk a0 s_a0_1)) rfl (fun b1 => ?_)
  refine Lst.run rfl rfl (by decide) (Ev.assign rfl) ?_
  refine Lst.nil ?_
  refine At.then ?_
  refine Cd.seq ?_
  refine Cd.region ?_
  refine Lst.run rfl rfl (by decide) (Ev.loadA (i := 0) rfl rfl Try.isAgg24 Try.sizeOf24 (ch := enc (PosetR.mk a0 s_a0_1)) (Enc.len _) (Get.here _)) ?_
  obtain ⟨r3, h4, H⟩ := bind_some H
  refine Lst.call1 rfl rfl (by decide) (vs := [.agg (enc (PosetR.mk a0 s_a0_1)).toArray]) ⟨rfl, trivial⟩ Try.call9 (partref_PosetErr_sim h4 w0 _ M _ (List.Sublist.cons _ hM) (hs_a0_1.mono (FLe.refl _) (List.Sublist.refl _))) ?_
  refine Lst.run rfl rfl (by decide) (Ev.assign rfl) ?_
  refine Lst.nil ?_
  refine At.then ?_
  refine Cd.seq ?_
  refine Cd.region ?_
  refine Lst.run rfl rfl (by decide) (Ev.loadA (i := 0) rfl rfl Try.isAgg24 Try.sizeOf24 (ch := enc (PosetR.mk a0 s_a0_1)) (Enc.len _) (Get.here _)) ?_
  obtain ⟨r7, h8, H⟩ := bind_some H
  refine Lst.call rfl rfl (by decide) (vs := [.agg (enc (PosetR.mk a0 s_a0_1)).toArray]) ⟨rfl, trivial⟩ Try.call24 (poset_Close_sim h8 w0 _ M _ (List.Sublist.cons _ hM) (hs_a0_1.mono (FLe.refl _) (List.Sublist.refl _))) (fun F11 L' v hF12 hv => ?_)
  obtain ⟨s9, rfl, rfl⟩ := hv
  refine Lst.run rfl rfl (by decide) (Ev.move rfl) ?_
  refine Lst.run rfl rfl (by decide) (Ev.extract rfl rfl) ?_
  refine Lst.run rfl rfl (by decide) (Ev.extract rfl rfl) ?_
  refine Lst.run rfl rfl (by decide) (Ev.assign rfl) ?_
  refine Lst.run rfl rfl (by decide) (Ev.assign rfl) ?_
  refine Lst.nil ?_
  refine At.then ?_
  refine Cd.seq ?_
  refine Cd.region ?_
  refine Lst.run rfl rfl (by decide) (Ev.loadA (i := 1) rfl rfl Try.isAgg24 Try.sizeOf24 (ch := enc (PosetR.mk a0 s_a0_1)) (Enc.len _) (Get.here _)) ?_
  obtain ⟨r13, h14, H⟩ := bind_some H
  refine Lst.call rfl rfl (by decide) (vs := [.agg (enc (PosetR.mk a0 s_a0_1)).toArray]) ⟨rfl, trivial⟩ Try.call25 (poset_Cover_sim h14 w0 _ M _ (List.Sublist.cons _ (List.Sublist.cons _ hM)) (hs_a0_1.mono hF12 (List.Sublist.refl _))) (fun F17 L' v hF18 hv => ?_)
  obtain ⟨s15, rfl, rfl⟩ := hv
  refine Lst.run rfl rfl (by decide) (Ev.move rfl) ?_
  refine Lst.run rfl rfl (by decide) (Ev.extract rfl rfl) ?_
  refine Lst.run rfl rfl (by decide) (Ev.extract rfl rfl) ?_
  refine Lst.run rfl rfl (by decide) (Ev.assign rfl) ?_
  refine Lst.run rfl rfl (by decide) (Ev.assign rfl) ?_
  refine Lst.nil ?_
  refine At.then ?_
  refine Cd.seq ?_
  refine Cd.region ?_
  refine Lst.run rfl rfl (by decide) (Ev.loadA (i := 2) rfl rfl Try.isAgg24 Try.sizeOf24 (ch := enc (PosetR.mk a0 s_a0_1)) (Enc.len _) (Get.here _)) ?_
  obtain ⟨r19, h20, H⟩ := bind_some H
  refine Lst.call rfl rfl (by decide) (vs := [.agg (enc (PosetR.mk a0 s_a0_1)).toArray]) ⟨rfl, trivial⟩ Try.call26 (poset_Order_sim h20 w0 _ M _ (List.Sublist.cons _ (List.Sublist.cons _ (List.Sublist.cons _ hM))) (hs_a0_1.mono (FLe.trans hF12 hF18) (List.Sublist.refl _))) (fun F23 L' v hF24 hv => ?_)
  obtain ⟨s21, rfl, rfl⟩ := hv
  refine Lst.run rfl rfl (by decide) (Ev.move rfl) ?_
  refine Lst.run rfl rfl (by decide) (Ev.extract rfl rfl) ?_
  refine Lst.run rfl rfl (by decide) (Ev.extract rfl rfl) ?_
  refine Lst.run rfl rfl (by decide) (Ev.assign rfl) ?_
  refine Lst.run rfl rfl (by decide) (Ev.assign rfl) ?_
  refine Lst.nil ?_
  refine At.then ?_
  refine Cd.seq ?_
  refine Cd.as (e' := [(1, .pointer (some ⟨b1, 0, none⟩)), (3, .int .i64 r3), (4, Sl.v s9), (5, .int .i64 r7.2), (6, Sl.v s15), (7, .int .i64 r13.2), (8, Sl.v s21), (9, .int .i64 r19.2)]) (L' := (.own s21 3 1 (encs r19.1)) :: (.own s15 49 2 (encs r13.1)) :: (.own s9 49 2 (encs r7.1)) :: (.blk b1 (enc (PosetR.mk a0 s_a0_1)) 24) :: L) ⟨rfl, rfl, rfl, rfl, rfl, rfl, rfl, rfl, trivial⟩ rfl ?_
  refine Cd.region ?_
  refine Lst.run rfl rfl (by decide) (Ev.loadA (i := 3) rfl rfl Try.isAgg24 Try.sizeOf24 (ch := enc (PosetR.mk a0 s_a0_1)) (Enc.len _) (Get.here _)) ?_
  obtain ⟨r25, h26, H⟩ := bind_some H
  refine Lst.call rfl rfl (by decide) (vs := [.agg (enc (PosetR.mk a0 s_a0_1)).toArray]) ⟨rfl, trivial⟩ Try.call27 (poset_Levels_sim h26 w0 _ M _ (List.Sublist.cons _ (List.Sublist.cons _ (List.Sublist.cons _ (List.Sublist.cons _ hM)))) (hs_a0_1.mono (FLe.trans (FLe.trans hF12 hF18) hF24) (List.Sublist.refl _))) (fun F32 L' v hF33 hv => ?_)
  obtain ⟨s27, rs28, rfl, rfl, fm29⟩ := hv
  refine Lst.run rfl rfl (by decide) (Ev.move rfl) ?_
  refine Lst.run rfl rfl (by decide) (Ev.extract rfl rfl) ?_
  refine Lst.run rfl rfl (by decide) (Ev.extract rfl rfl) ?_
  refine Lst.run rfl rfl (by decide) (Ev.assign rfl) ?_
  refine Lst.run rfl rfl (by decide) (Ev.assign rfl) ?_
  refine Lst.nil ?_
  refine At.then ?_
  refine Cd.seq ?_
  refine Cd.seq ?_
  refine Cd.region ?_
  refine Lst.run rfl rfl (by decide) (Ev.loadA (i := 5) rfl rfl Try.isAgg24 Try.sizeOf24 (ch := enc (PosetR.mk a0 s_a0_1)) (Enc.len _) (Get.here _)) ?_
  obtain ⟨r34, h35, H⟩ := bind_some H
  refine Lst.call1 rfl rfl (by decide) (vs := [.agg (enc (PosetR.mk a0 s_a0_1)).toArray]) ⟨rfl, trivial⟩ Try.call28 (poset_Check_sim h35 w0 _ M _ (List.Sublist.cons _ (List.Sublist.cons _ (List.Sublist.cons _ (List.Sublist.cons _ (List.Sublist.cons _ (List.Sublist.cons _ hM)))))) (hs_a0_1.mono (FLe.trans (FLe.trans (FLe.trans hF12 hF18) hF24) hF33) (List.Sublist.refl _))) ?_
  refine Lst.run rfl rfl (by decide) (Ev.move rfl) ?_
  refine Lst.run rfl rfl (by decide) (Ev.neq rfl rfl) ?_
  refine Lst.nil ?_
  refine At.then ?_
  rcases Bool.eq_false_or_eq_true (r34 != r3) with hb38 | hb38
  · replace H := ite_t hb38 H
    refine Cd.condT rfl hb38 ?_
    refine Cd.seq ?_
    refine Cd.as (e' := []) (L' := (.rows (α := Int) 3 rs28) :: (.own s27 34 1 (encs rs28)) :: (.own s21 3 1 (encs r19.1)) :: (.own s15 49 2 (encs r13.1)) :: (.own s9 49 2 (encs r7.1)) :: (.blk b1 (enc (PosetR.mk a0 s_a0_1)) 24) :: L) trivial rfl ?_
    refine Cd.region ?_
    refine Lst.run rfl rfl (by decide) (Ev.assign rfl) ?_
    refine Lst.nil ?_
    refine At.then ?_
    obtain rfl := some_inj H
    refine Cd.ret ?_
    refine At.then_ret ?_
    exact At.ret1 rfl (Res.tmp rfl) (FLe.trans (FLe.trans (FLe.trans hF12 hF18) hF24) hF33) (List.Sublist.cons _ (List.Sublist.cons _ (List.Sublist.cons _ (List.Sublist.cons _ (List.Sublist.cons _ (List.Sublist.cons _ (List.Sublist.refl _))))))) ⟨rfl, rfl⟩
  replace H := ite_f hb38 H
  refine Cd.condF rfl hb38 ?_
  refine Cd.skip ?_
  refine At.then ?_
  refine Cd.seq ?_
  refine Cd.seq ?_
  refine Cd.region ?_
  refine Lst.run rfl rfl (by decide) (Ev.move rfl) ?_
  refine Lst.run rfl rfl (by decide) (Ev.neq rfl rfl) ?_
  refine Lst.nil ?_
  refine At.then ?_
  rcases Bool.eq_false_or_eq_true (r3 != (0 : Int)) with hb39 | hb39
  · replace H := ite_t hb39 H
    refine Cd.condT rfl hb39 ?_
    refine Cd.seq ?_
    refine Cd.region ?_
    refine Lst.run rfl rfl (by decide) (Ev.move rfl) ?_
    refine Lst.run rfl rfl (by decide) (Ev.lenS (α := Pair) (xs := r7.1) (by decide) rfl rfl Try.runUnderlying22 (Rd.own (i := 4) rfl rfl rfl)) ?_
    refine Lst.run rfl rfl (by decide) (Ev.eql rfl rfl) ?_
    refine Lst.run rfl rfl (by decide) (Ev.move rfl) ?_
    obtain ⟨o40, H, HKo40⟩ := bind_some H
    refine Lst.join (σ := Bool) 4 (fun y41 => [(3, .int .i64 r3), (6, Sl.v s15), (7, .int .i64 r13.2), (8, Sl.v s21), (9, .int .i64 r19.2), (10, Sl.v s27), (11, .int .i64 r25.2), (47, .bool y41)]) (fun y41 => (.rows (α := Int) 3 rs28) :: (.own s27 34 1 (encs rs28)) :: (.own s21 3 1 (encs r19.1)) :: (.own s15 49 2 (encs r13.1)) :: (.own s9 49 2 (encs r7.1)) :: (.blk b1 (enc (PosetR.mk a0 s_a0_1)) 24) :: L) (fun _ y41 => y41 = o40) ?_ ?_
    · rcases (Bool.eq_false_or_eq_true ((r7.1.length : Int) == (0 : Int))).symm with hb42 | hb42
      · replace H := ite_f hb42 H
        refine Lst.skip rfl rfl rfl hb42 rfl (by decide) ?_
        refine Lst.skip rfl rfl rfl hb42 rfl (by decide) ?_
        refine Lst.skip rfl rfl rfl hb42 rfl (by decide) ?_
        refine Lst.run rfl rfl (by decide) (Ev.pickF rfl hb42 rfl) ?_
        refine Lst.nil ?_
        exact At.meet false (FLe.refl _) ⟨rfl, rfl, rfl, rfl, rfl, rfl, rfl, rfl, trivial⟩ rfl (some_inj H)
      replace H := ite_t hb42 H
      refine Lst.runG rfl rfl rfl hb42 rfl (by decide) (Ev.move rfl) ?_
      refine Lst.runG rfl rfl rfl hb42 rfl (by decide) (Ev.move rfl) ?_
      refine Lst.runG rfl rfl rfl hb42 rfl (by decide) (Ev.eql rfl rfl) ?_
      refine Lst.run rfl rfl (by decide) (Ev.pickT rfl hb42 rfl) ?_
      refine Lst.nil ?_
      exact At.meet (r7.2 == r3) (FLe.refl _) ⟨rfl, rfl, rfl, rfl, rfl, rfl, rfl, rfl, trivial⟩ rfl (some_inj H)
    rintro F43 y41 hF44 hy
    subst hy
    refine Lst.as (e' := [(3, .int .i64 r3), (6, Sl.v s15), (7, .int .i64 r13.2), (8, Sl.v s21), (9, .int .i64 r19.2), (10, Sl.v s27), (11, .int .i64 r25.2), (47, .bool y41)]) (L' := (.rows (α := Int) 3 rs28) :: (.own s27 34 1 (encs rs28)) :: (.own s21 3 1 (encs r19.1)) :: (.own s15 49 2 (encs r13.1)) :: (.own s9 49 2 (encs r7.1)) :: (.blk b1 (enc (PosetR.mk a0 s_a0_1)) 24) :: L) ⟨rfl, rfl, rfl, rfl, rfl, rfl, rfl, rfl, trivial⟩ rfl ?_
    replace H := HKo40
    refine Lst.run rfl rfl (by decide) (Ev.move rfl) ?_
    obtain ⟨o45, H, HKo45⟩ := bind_some H
    refine Lst.join (σ := Bool) 4 (fun y46 => [(3, .int .i64 r3), (7, .int .i64 r13.2), (8, Sl.v s21), (9, .int .i64 r19.2), (10, Sl.v s27), (11, .int .i64 r25.2), (52, .bool y46)]) (fun y46 => (.rows (α := Int) 3 rs28) :: (.own s27 34 1 (encs rs28)) :: (.own s21 3 1 (encs r19.1)) :: (.own s15 49 2 (encs r13.1)) :: (.own s9 49 2 (encs r7.1)) :: (.blk b1 (enc (PosetR.mk a0 s_a0_1)) 24) :: L) (fun _ y46 => y46 = o45) ?_ ?_
    · rcases (Bool.eq_false_or_eq_true y41).symm with hb47 | hb47
      · replace H := ite_f hb47 H
        refine Lst.skip rfl rfl rfl hb47 rfl (by decide) ?_
        refine Lst.skip rfl rfl rfl hb47 rfl (by decide) ?_
        refine Lst.skip rfl rfl rfl hb47 rfl (by decide) ?_
        refine Lst.run rfl rfl (by decide) (Ev.pickF rfl hb47 rfl) ?_
        refine Lst.nil ?_
        exact At.meet false (FLe.refl _) ⟨rfl, rfl, rfl, rfl, rfl, rfl, rfl, trivial⟩ rfl (some_inj H)
      replace H := ite_t hb47 H
      refine Lst.runG rfl rfl rfl hb47 rfl (by decide) (Ev.move rfl) ?_
      refine Lst.runG rfl rfl rfl hb47 rfl (by decide) (Ev.lenS (α := Pair) (xs := r13.1) (by decide) rfl rfl Try.runUnderlying22 (Rd.own (i := 3) rfl rfl rfl)) ?_
      refine Lst.runG rfl rfl rfl hb47 rfl (by decide) (Ev.eql rfl rfl) ?_
      refine Lst.run rfl rfl (by decide) (Ev.pickT rfl hb47 rfl) ?_
      refine Lst.nil ?_
      exact At.meet ((r13.1.length : Int) == (0 : Int)) (FLe.refl _) ⟨rfl, rfl, rfl, rfl, rfl, rfl, rfl, trivial⟩ rfl (some_inj H)
    rintro F48 y46 hF49 hy
    subst hy
    refine Lst.as (e' := [(3, .int .i64 r3), (7, .int .i64 r13.2), (8, Sl.v s21), (9, .int .i64 r19.2), (10, Sl.v s27), (11, .int .i64 r25.2), (52, .bool y46)]) (L' := (.rows (α := Int) 3 rs28) :: (.own s27 34 1 (encs rs28)) :: (.own s21 3 1 (encs r19.1)) :: (.own s15 49 2 (encs r13.1)) :: (.own s9 49 2 (encs r7.1)) :: (.blk b1 (enc (PosetR.mk a0 s_a0_1)) 24) :: L) ⟨rfl, rfl, rfl, rfl, rfl, rfl, rfl, trivial⟩ rfl ?_
    replace H := HKo45
    refine Lst.run rfl rfl (by decide) (Ev.move rfl) ?_
    obtain ⟨o50, H, HKo50⟩ := bind_some H
    refine Lst.join (σ := Bool) 4 (fun y51 => [(3, .int .i64 r3), (8, Sl.v s21), (9, .int .i64 r19.2), (10, Sl.v s27), (11, .int .i64 r25.2), (57, .bool y51)]) (fun y51 => (.rows (α := Int) 3 rs28) :: (.own s27 34 1 (encs rs28)) :: (.own s21 3 1 (encs r19.1)) :: (.own s15 49 2 (encs r13.1)) :: (.own s9 49 2 (encs r7.1)) :: (.blk b1 (enc (PosetR.mk a0 s_a0_1)) 24) :: L) (fun _ y51 => y51 = o50) ?_ ?_
    · rcases (Bool.eq_false_or_eq_true y46).symm with hb52 | hb52
      · replace H := ite_f hb52 H
        refine Lst.skip rfl rfl rfl hb52 rfl (by decide) ?_
        refine Lst.skip rfl rfl rfl hb52 rfl (by decide) ?_
        refine Lst.skip rfl rfl rfl hb52 rfl (by decide) ?_
        refine Lst.run rfl rfl (by decide) (Ev.pickF rfl hb52 rfl) ?_
        refine Lst.nil ?_
        exact At.meet false (FLe.refl _) ⟨rfl, rfl, rfl, rfl, rfl, rfl, trivial⟩ rfl (some_inj H)
      replace H := ite_t hb52 H
      refine Lst.runG rfl rfl rfl hb52 rfl (by decide) (Ev.move rfl) ?_
      refine Lst.runG rfl rfl rfl hb52 rfl (by decide) (Ev.move rfl) ?_
      refine Lst.runG rfl rfl rfl hb52 rfl (by decide) (Ev.eql rfl rfl) ?_
      refine Lst.run rfl rfl (by decide) (Ev.pickT rfl hb52 rfl) ?_
      refine Lst.nil ?_
      exact At.meet (r13.2 == r3) (FLe.refl _) ⟨rfl, rfl, rfl, rfl, rfl, rfl, trivial⟩ rfl (some_inj H)
    rintro F53 y51 hF54 hy
    subst hy
    refine Lst.as (e' := [(3, .int .i64 r3), (8, Sl.v s21), (9, .int .i64 r19.2), (10, Sl.v s27), (11, .int .i64 r25.2), (57, .bool y51)]) (L' := (.rows (α := Int) 3 rs28) :: (.own s27 34 1 (encs rs28)) :: (.own s21 3 1 (encs r19.1)) :: (.own s15 49 2 (encs r13.1)) :: (.own s9 49 2 (encs r7.1)) :: (.blk b1 (enc (PosetR.mk a0 s_a0_1)) 24) :: L) ⟨rfl, rfl, rfl, rfl, rfl, rfl, trivial⟩ rfl ?_
    replace H := HKo50
    refine Lst.run rfl rfl (by decide) (Ev.move rfl) ?_
    obtain ⟨o55, H, HKo55⟩ := bind_some H
    refine Lst.join (σ := Bool) 4 (fun y56 => [(3, .int .i64 r3), (9, .int .i64 r19.2), (10, Sl.v s27), (11, .int .i64 r25.2), (62, .bool y56)]) (fun y56 => (.rows (α := Int) 3 rs28) :: (.own s27 34 1 (encs rs28)) :: (.own s21 3 1 (encs r19.1)) :: (.own s15 49 2 (encs r13.1)) :: (.own s9 49 2 (encs r7.1)) :: (.blk b1 (enc (PosetR.mk a0 s_a0_1)) 24) :: L) (fun _ y56 => y56 = o55) ?_ ?_
    · rcases (Bool.eq_false_or_eq_true y51).symm with hb57 | hb57
      · replace H := ite_f hb57 H
        refine Lst.skip rfl rfl rfl hb57 rfl (by decide) ?_
        refine Lst.skip rfl rfl rfl hb57 rfl (by decide) ?_
        refine Lst.skip rfl rfl rfl hb57 rfl (by decide) ?_
        refine Lst.run rfl rfl (by decide) (Ev.pickF rfl hb57 rfl) ?_
        refine Lst.nil ?_
        exact At.meet false (FLe.refl _) ⟨rfl, rfl, rfl, rfl, rfl, trivial⟩ rfl (some_inj H)
      replace H := ite_t hb57 H
      refine Lst.runG rfl rfl rfl hb57 rfl (by decide) (Ev.move rfl) ?_
      refine Lst.runG rfl rfl rfl hb57 rfl (by decide) (Ev.lenS (α := Int) (xs := r19.1) (by decide) rfl rfl Try.runUnderlying34 (Rd.own (i := 2) rfl rfl rfl)) ?_
      refine Lst.runG rfl rfl rfl hb57 rfl (by decide) (Ev.eql rfl rfl) ?_
      refine Lst.run rfl rfl (by decide) (Ev.pickT rfl hb57 rfl) ?_
      refine Lst.nil ?_
      exact At.meet ((r19.1.length : Int) == (0 : Int)) (FLe.refl _) ⟨rfl, rfl, rfl, rfl, rfl, trivial⟩ rfl (some_inj H)
    rintro F58 y56 hF59 hy
    subst hy
    refine Lst.as (e' := [(3, .int .i64 r3), (9, .int .i64 r19.2), (10, Sl.v s27), (11, .int .i64 r25.2), (62, .bool y56)]) (L' := (.rows (α := Int) 3 rs28) :: (.own s27 34 1 (encs rs28)) :: (.own s21 3 1 (encs r19.1)) :: (.own s15 49 2 (encs r13.1)) :: (.own s9 49 2 (encs r7.1)) :: (.blk b1 (enc (PosetR.mk a0 s_a0_1)) 24) :: L) ⟨rfl, rfl, rfl, rfl, rfl, trivial⟩ rfl ?_
    replace H := HKo55
    refine Lst.run rfl rfl (by decide) (Ev.move rfl) ?_
    obtain ⟨o60, H, HKo60⟩ := bind_some H
    refine Lst.join (σ := Bool) 4 (fun y61 => [(3, .int .i64 r3), (10, Sl.v s27), (11, .int .i64 r25.2), (67, .bool y61)]) (fun y61 => (.rows (α := Int) 3 rs28) :: (.own s27 34 1 (encs rs28)) :: (.own s21 3 1 (encs r19.1)) :: (.own s15 49 2 (encs r13.1)) :: (.own s9 49 2 (encs r7.1)) :: (.blk b1 (enc (PosetR.mk a0 s_a0_1)) 24) :: L) (fun _ y61 => y61 = o60) ?_ ?_
    · rcases (Bool.eq_false_or_eq_true y56).symm with hb62 | hb62
      · replace H := ite_f hb62 H
        refine Lst.skip rfl rfl rfl hb62 rfl (by decide) ?_
        refine Lst.skip rfl rfl rfl hb62 rfl (by decide) ?_
        refine Lst.skip rfl rfl rfl hb62 rfl (by decide) ?_
        refine Lst.run rfl rfl (by decide) (Ev.pickF rfl hb62 rfl) ?_
        refine Lst.nil ?_
        exact At.meet false (FLe.refl _) ⟨rfl, rfl, rfl, rfl, trivial⟩ rfl (some_inj H)
      replace H := ite_t hb62 H
      refine Lst.runG rfl rfl rfl hb62 rfl (by decide) (Ev.move rfl) ?_
      refine Lst.runG rfl rfl rfl hb62 rfl (by decide) (Ev.move rfl) ?_
      refine Lst.runG rfl rfl rfl hb62 rfl (by decide) (Ev.eql rfl rfl) ?_
      refine Lst.run rfl rfl (by decide) (Ev.pickT rfl hb62 rfl) ?_
      refine Lst.nil ?_
      exact At.meet (r19.2 == r3) (FLe.refl _) ⟨rfl, rfl, rfl, rfl, trivial⟩ rfl (some_inj H)
    rintro F63 y61 hF64 hy
    subst hy
    refine Lst.as (e' := [(3, .int .i64 r3), (10, Sl.v s27), (11, .int .i64 r25.2), (67, .bool y61)]) (L' := (.rows (α := Int) 3 rs28) :: (.own s27 34 1 (encs rs28)) :: (.own s21 3 1 (encs r19.1)) :: (.own s15 49 2 (encs r13.1)) :: (.own s9 49 2 (encs r7.1)) :: (.blk b1 (enc (PosetR.mk a0 s_a0_1)) 24) :: L) ⟨rfl, rfl, rfl, rfl, trivial⟩ rfl ?_
    replace H := HKo60
    refine Lst.run rfl rfl (by decide) (Ev.move rfl) ?_
    obtain ⟨o65, H, HKo65⟩ := bind_some H
    refine Lst.join (σ := Bool) 4 (fun y66 => [(3, .int .i64 r3), (11, .int .i64 r25.2), (72, .bool y66)]) (fun y66 => (.rows (α := Int) 3 rs28) :: (.own s27 34 1 (encs rs28)) :: (.own s21 3 1 (encs r19.1)) :: (.own s15 49 2 (encs r13.1)) :: (.own s9 49 2 (encs r7.1)) :: (.blk b1 (enc (PosetR.mk a0 s_a0_1)) 24) :: L) (fun _ y66 => y66 = o65) ?_ ?_
    · rcases (Bool.eq_false_or_eq_true y61).symm with hb67 | hb67
      · replace H := ite_f hb67 H
        refine Lst.skip rfl rfl rfl hb67 rfl (by decide) ?_
        refine Lst.skip rfl rfl rfl hb67 rfl (by decide) ?_
        refine Lst.skip rfl rfl rfl hb67 rfl (by decide) ?_
        refine Lst.run rfl rfl (by decide) (Ev.pickF rfl hb67 rfl) ?_
        refine Lst.nil ?_
        exact At.meet false (FLe.refl _) ⟨rfl, rfl, rfl, trivial⟩ rfl (some_inj H)
      replace H := ite_t hb67 H
      refine Lst.runG rfl rfl rfl hb67 rfl (by decide) (Ev.move rfl) ?_
      refine Lst.runG rfl rfl rfl hb67 rfl (by decide) (Ev.lenM (map_len fm29) (Ev.lenS (α := LR Int) (xs := rs28) (by decide) rfl rfl Try.runUnderlying56 (Rd.own (i := 1) rfl rfl rfl))) ?_
      refine Lst.runG rfl rfl rfl hb67 rfl (by decide) (Ev.eql rfl rfl) ?_
      refine Lst.run rfl rfl (by decide) (Ev.pickT rfl hb67 rfl) ?_
      refine Lst.nil ?_
      exact At.meet ((r25.1.length : Int) == (0 : Int)) (FLe.refl _) ⟨rfl, rfl, rfl, trivial⟩ rfl (some_inj H)
    rintro F69 y66 hF70 hy
    subst hy
    refine Lst.as (e' := [(3, .int .i64 r3), (11, .int .i64 r25.2), (72, .bool y66)]) (L' := (.rows (α := Int) 3 rs28) :: (.own s27 34 1 (encs rs28)) :: (.own s21 3 1 (encs r19.1)) :: (.own s15 49 2 (encs r13.1)) :: (.own s9 49 2 (encs r7.1)) :: (.blk b1 (enc (PosetR.mk a0 s_a0_1)) 24) :: L) ⟨rfl, rfl, rfl, trivial⟩ rfl ?_
    replace H := HKo65
    refine Lst.run rfl rfl (by decide) (Ev.move rfl) ?_
    obtain ⟨o71, H, HKo71⟩ := bind_some H
    refine Lst.join (σ := Bool) 4 (fun y72 => [(77, .bool y72)]) (fun y72 => (.rows (α := Int) 3 rs28) :: (.own s27 34 1 (encs rs28)) :: (.own s21 3 1 (encs r19.1)) :: (.own s15 49 2 (encs r13.1)) :: (.own s9 49 2 (encs r7.1)) :: (.blk b1 (enc (PosetR.mk a0 s_a0_1)) 24) :: L) (fun _ y72 => y72 = o71) ?_ ?_
    · rcases (Bool.eq_false_or_eq_true y66).symm with hb73 | hb73
      · replace H := ite_f hb73 H
        refine Lst.skip rfl rfl rfl hb73 rfl (by decide) ?_
        refine Lst.skip rfl rfl rfl hb73 rfl (by decide) ?_
        refine Lst.skip rfl rfl rfl hb73 rfl (by decide) ?_
        refine Lst.run rfl rfl (by decide) (Ev.pickF rfl hb73 rfl) ?_
        refine Lst.nil ?_
        exact At.meet false (FLe.refl _) ⟨rfl, trivial⟩ rfl (some_inj H)
      replace H := ite_t hb73 H
      refine Lst.runG rfl rfl rfl hb73 rfl (by decide) (Ev.move rfl) ?_
      refine Lst.runG rfl rfl rfl hb73 rfl (by decide) (Ev.move rfl) ?_
      refine Lst.runG rfl rfl rfl hb73 rfl (by decide) (Ev.eql rfl rfl) ?_
      refine Lst.run rfl rfl (by decide) (Ev.pickT rfl hb73 rfl) ?_
      refine Lst.nil ?_
      exact At.meet (r25.2 == r3) (FLe.refl _) ⟨rfl, trivial⟩ rfl (some_inj H)
    rintro F74 y72 hF75 hy
    subst hy
    refine Lst.as (e' := [(77, .bool y72)]) (L' := (.rows (α := Int) 3 rs28) :: (.own s27 34 1 (encs rs28)) :: (.own s21 3 1 (encs r19.1)) :: (.own s15 49 2 (encs r13.1)) :: (.own s9 49 2 (encs r7.1)) :: (.blk b1 (enc (PosetR.mk a0 s_a0_1)) 24) :: L) ⟨rfl, trivial⟩ rfl ?_
    replace H := HKo71
    refine Lst.run rfl rfl (by decide) (Ev.assign rfl) ?_
    refine Lst.nil ?_
    refine At.then ?_
    obtain rfl := some_inj H
    refine Cd.ret ?_
    refine At.then_ret ?_
    exact At.ret1 rfl (Res.tmp rfl) (FLe.trans (FLe.trans (FLe.trans (FLe.trans (FLe.trans (FLe.trans (FLe.trans (FLe.trans (FLe.trans (FLe.trans hF12 hF18) hF24) hF33) hF44) hF49) hF54) hF59) hF64) hF70) hF75) (List.Sublist.cons _ (List.Sublist.cons _ (List.Sublist.cons _ (List.Sublist.cons _ (List.Sublist.cons _ (List.Sublist.cons _ (List.Sublist.refl _))))))) ⟨rfl, rfl⟩
  replace H := ite_f hb39 H
  refine Cd.condF rfl hb39 ?_
  refine Cd.skip ?_
  refine At.then ?_
  refine Cd.seq ?_
  refine Cd.region ?_
  refine Lst.run rfl rfl (by decide) (Ev.move rfl) ?_
  refine Lst.run rfl rfl (by decide) (Ev.loadA (i := 5) rfl rfl Try.isAgg24 Try.sizeOf24 (ch := enc (PosetR.mk a0 s_a0_1)) (Enc.len _) (Get.here _)) ?_
  obtain ⟨r76, h77, H⟩ := bind_some H
  refine Lst.call rfl rfl (by decide) (vs := [.agg (enc (PosetR.mk a0 s_a0_1)).toArray, .bool false]) ⟨rfl, rfl, trivial⟩ Try.call29 (partref_AllPairs_sim h77 w0 _ M _ (List.Sublist.cons _ (List.Sublist.cons _ (List.Sublist.cons _ (List.Sublist.cons _ (List.Sublist.cons _ (List.Sublist.cons _ hM)))))) (hs_a0_1.mono (FLe.trans (FLe.trans (FLe.trans hF12 hF18) hF24) hF33) (List.Sublist.refl _))) (fun F80 L' v hF81 hv => ?_)
  obtain ⟨s78, rfl, rfl⟩ := hv
  obtain ⟨r82, h83, H⟩ := bind_some H
  refine Lst.call1 rfl rfl (by decide) (vs := [Sl.v s9, Sl.v s78]) ⟨rfl, rfl, trivial⟩ Try.call23 (slices_Equal_api_Pair_api_Pair_sim h83 w0 _ _ _ (List.Sublist.refl _) (Rd.own (i := 5) rfl rfl rfl) (Rd.own (i := 0) rfl rfl rfl)) ?_
  refine Lst.run rfl rfl (by decide) (Ev.move rfl) ?_
  obtain ⟨o86, H, HKo86⟩ := bind_some H
  refine Lst.join (σ := Bool) 3 (fun y87 => [(1, .pointer (some ⟨b1, 0, none⟩)), (6, Sl.v s15), (7, .int .i64 r13.2), (8, Sl.v s21), (9, .int .i64 r19.2), (10, Sl.v s27), (11, .int .i64 r25.2), (85, .bool y87)]) (fun y87 => (.own s78 49 2 (encs r76)) :: (.rows (α := Int) 3 rs28) :: (.own s27 34 1 (encs rs28)) :: (.own s21 3 1 (encs r19.1)) :: (.own s15 49 2 (encs r13.1)) :: (.own s9 49 2 (encs r7.1)) :: (.blk b1 (enc (PosetR.mk a0 s_a0_1)) 24) :: L) (fun _ y87 => y87 = o86) ?_ ?_
  · rcases (Bool.eq_false_or_eq_true r82).symm with hb88 | hb88
    · replace H := ite_f hb88 H
      refine Lst.skip rfl rfl rfl hb88 rfl (by decide) ?_
      refine Lst.skip rfl rfl rfl hb88 rfl (by decide) ?_
      refine Lst.run rfl rfl (by decide) (Ev.pickF rfl hb88 rfl) ?_
      refine Lst.nil ?_
      exact At.meet false (FLe.refl _) ⟨rfl, rfl, rfl, rfl, rfl, rfl, rfl, rfl, trivial⟩ rfl (some_inj H)
    replace H := ite_t hb88 H
    refine Lst.runG rfl rfl rfl hb88 rfl (by decide) (Ev.move rfl) ?_
    refine Lst.runG rfl rfl rfl hb88 rfl (by decide) (Ev.eql rfl rfl) ?_
    refine Lst.run rfl rfl (by decide) (Ev.pickT rfl hb88 rfl) ?_
    refine Lst.nil ?_
    exact At.meet (r7.2 == (0 : Int)) (FLe.refl _) ⟨rfl, rfl, rfl, rfl, rfl, rfl, rfl, rfl, trivial⟩ rfl (some_inj H)
  rintro F89 y87 hF90 hy
  subst hy
  refine Lst.as (e' := [(1, .pointer (some ⟨b1, 0, none⟩)), (6, Sl.v s15), (7, .int .i64 r13.2), (8, Sl.v s21), (9, .int .i64 r19.2), (10, Sl.v s27), (11, .int .i64 r25.2), (85, .bool y87)]) (L' := (.own s78 49 2 (encs r76)) :: (.rows (α := Int) 3 rs28) :: (.own s27 34 1 (encs rs28)) :: (.own s21 3 1 (encs r19.1)) :: (.own s15 49 2 (encs r13.1)) :: (.own s9 49 2 (encs r7.1)) :: (.blk b1 (enc (PosetR.mk a0 s_a0_1)) 24) :: L) ⟨rfl, rfl, rfl, rfl, rfl, rfl, rfl, rfl, trivial⟩ rfl ?_
  replace H := HKo86
  refine Lst.run rfl rfl (by decide) (Ev.move rfl) ?_
  rcases (Bool.eq_false_or_eq_true y87).symm with hb91 | hb91
  · replace H := ite_f hb91 H
    refine Lst.skip rfl rfl rfl hb91 rfl (by decide) ?_
    refine Lst.skip rfl rfl rfl hb91 rfl (by decide) ?_
    refine Lst.skip rfl rfl rfl hb91 rfl (by decide) ?_
    refine Lst.skip rfl rfl rfl hb91 rfl (by decide) ?_
    refine Lst.run rfl rfl (by decide) (Ev.pickF rfl hb91 rfl) ?_
    refine Lst.run rfl rfl (by decide) (Ev.move rfl) ?_
    refine Lst.skip rfl rfl rfl rfl rfl (by decide) ?_
    refine Lst.skip rfl rfl rfl rfl rfl (by decide) ?_
    refine Lst.run rfl rfl (by decide) (Ev.pickF rfl rfl rfl) ?_
    refine Lst.run rfl rfl (by decide) (Ev.move rfl) ?_
    refine Lst.skip rfl rfl rfl rfl rfl (by decide) ?_
    refine Lst.skip rfl rfl rfl rfl rfl (by decide) ?_
    refine Lst.skip rfl rfl rfl rfl rfl (by decide) ?_
    refine Lst.skip rfl rfl rfl rfl rfl (by decide) ?_
    refine Lst.run rfl rfl (by decide) (Ev.pickF rfl rfl rfl) ?_
    refine Lst.run rfl rfl (by decide) (Ev.move rfl) ?_
    refine Lst.skip rfl rfl rfl rfl rfl (by decide) ?_
    refine Lst.skip rfl rfl rfl rfl rfl (by decide) ?_
    refine Lst.run rfl rfl (by decide) (Ev.pickF rfl rfl rfl) ?_
    refine Lst.run rfl rfl (by decide) (Ev.move rfl) ?_
    refine Lst.skip rfl rfl rfl rfl rfl (by decide) ?_
    refine Lst.skip rfl rfl rfl rfl rfl (by decide) ?_
    refine Lst.skip rfl rfl rfl rfl rfl (by decide) ?_
    refine Lst.skip rfl rfl rfl rfl rfl (by decide) ?_
    refine Lst.run rfl rfl (by decide) (Ev.pickF rfl rfl rfl) ?_
    refine Lst.run rfl rfl (by decide) (Ev.move rfl) ?_
    refine Lst.skip rfl rfl rfl rfl rfl (by decide) ?_
    refine Lst.skip rfl rfl rfl rfl rfl (by decide) ?_
    refine Lst.run rfl rfl (by decide) (Ev.pickF rfl rfl rfl) ?_
    refine Lst.run rfl rfl (by decide) (Ev.assign rfl) ?_
    refine Lst.nil ?_
    refine At.then ?_
    obtain rfl := some_inj H
    refine Cd.ret ?_
    exact At.ret1 rfl (Res.tmp rfl) (FLe.trans (FLe.trans (FLe.trans (FLe.trans (FLe.trans hF12 hF18) hF24) hF33) hF81) hF90) (List.Sublist.cons _ (List.Sublist.cons _ (List.Sublist.cons _ (List.Sublist.cons _ (List.Sublist.cons _ (List.Sublist.cons _ (List.Sublist.cons _ (List.Sublist.refl _)))))))) ⟨rfl, rfl⟩
  replace H := ite_t hb91 H
  refine Lst.runG rfl rfl rfl hb91 rfl (by decide) (Ev.move rfl) ?_
  refine Lst.runG rfl rfl rfl hb91 rfl (by decide) (Ev.loadA (i := 6) rfl rfl Try.isAgg24 Try.sizeOf24 (ch := enc (PosetR.mk a0 s_a0_1)) (Enc.len _) (Get.here _)) ?_
  obtain ⟨r92, h93, H⟩ := bind_some H
  refine Lst.callG rfl rfl rfl hb91 rfl (by decide) (vs := [.agg (enc (PosetR.mk a0 s_a0_1)).toArray, .bool true]) ⟨rfl, rfl, trivial⟩ Try.call29 (partref_AllPairs_sim h93 w0 _ M _ (List.Sublist.cons _ (List.Sublist.cons _ (List.Sublist.cons _ (List.Sublist.cons _ (List.Sublist.cons _ (List.Sublist.cons _ (List.Sublist.cons _ hM))))))) (hs_a0_1.mono (FLe.trans (FLe.trans (FLe.trans (FLe.trans (FLe.trans hF12 hF18) hF24) hF33) hF81) hF90) (List.Sublist.refl _))) (fun F96 L' v hF97 hv => ?_)
  obtain ⟨s94, rfl, rfl⟩ := hv
  obtain ⟨r98, h99, H⟩ := bind_some H
  refine Lst.call1G rfl rfl rfl hb91 rfl (by decide) (vs := [Sl.v s15, Sl.v s94]) ⟨rfl, rfl, trivial⟩ Try.call23 (slices_Equal_api_Pair_api_Pair_sim h99 w0 _ _ _ (List.Sublist.refl _) (Rd.own (i := 5) rfl rfl rfl) (Rd.own (i := 0) rfl rfl rfl)) ?_
  refine Lst.run rfl rfl (by decide) (Ev.pickT rfl hb91 rfl) ?_
  refine Lst.run rfl rfl (by decide) (Ev.move rfl) ?_
  obtain ⟨o102, H, HKo102⟩ := bind_some H
  refine Lst.join (σ := Bool) 3 (fun y103 => [(1, .pointer (some ⟨b1, 0, none⟩)), (8, Sl.v s21), (9, .int .i64 r19.2), (10, Sl.v s27), (11, .int .i64 r25.2), (95, .bool y103)]) (fun y103 => (.own s94 49 2 (encs r92)) :: (.own s78 49 2 (encs r76)) :: (.rows (α := Int) 3 rs28) :: (.own s27 34 1 (encs rs28)) :: (.own s21 3 1 (encs r19.1)) :: (.own s15 49 2 (encs r13.1)) :: (.own s9 49 2 (encs r7.1)) :: (.blk b1 (enc (PosetR.mk a0 s_a0_1)) 24) :: L) (fun _ y103 => y103 = o102) ?_ ?_
  · rcases (Bool.eq_false_or_eq_true r98).symm with hb104 | hb104
    · replace H := ite_f hb104 H
      refine Lst.skip rfl rfl rfl hb104 rfl (by decide) ?_
      refine Lst.skip rfl rfl rfl hb104 rfl (by decide) ?_
      refine Lst.run rfl rfl (by decide) (Ev.pickF rfl hb104 rfl) ?_
      refine Lst.nil ?_
      exact At.meet false (FLe.refl _) ⟨rfl, rfl, rfl, rfl, rfl, rfl, trivial⟩ rfl (some_inj H)
    replace H := ite_t hb104 H
    refine Lst.runG rfl rfl rfl hb104 rfl (by decide) (Ev.move rfl) ?_
    refine Lst.runG rfl rfl rfl hb104 rfl (by decide) (Ev.eql rfl rfl) ?_
    refine Lst.run rfl rfl (by decide) (Ev.pickT rfl hb104 rfl) ?_
    refine Lst.nil ?_
    exact At.meet (r13.2 == (0 : Int)) (FLe.refl _) ⟨rfl, rfl, rfl, rfl, rfl, rfl, trivial⟩ rfl (some_inj H)
  rintro F105 y103 hF106 hy
  subst hy
  refine Lst.as (e' := [(1, .pointer (some ⟨b1, 0, none⟩)), (8, Sl.v s21), (9, .int .i64 r19.2), (10, Sl.v s27), (11, .int .i64 r25.2), (95, .bool y103)]) (L' := (.own s94 49 2 (encs r92)) :: (.own s78 49 2 (encs r76)) :: (.rows (α := Int) 3 rs28) :: (.own s27 34 1 (encs rs28)) :: (.own s21 3 1 (encs r19.1)) :: (.own s15 49 2 (encs r13.1)) :: (.own s9 49 2 (encs r7.1)) :: (.blk b1 (enc (PosetR.mk a0 s_a0_1)) 24) :: L) ⟨rfl, rfl, rfl, rfl, rfl, rfl, trivial⟩ rfl ?_
  replace H := HKo102
  refine Lst.run rfl rfl (by decide) (Ev.move rfl) ?_
  rcases (Bool.eq_false_or_eq_true y103).symm with hb107 | hb107
  · replace H := ite_f hb107 H
    refine Lst.skip rfl rfl rfl hb107 rfl (by decide) ?_
    refine Lst.skip rfl rfl rfl hb107 rfl (by decide) ?_
    refine Lst.skip rfl rfl rfl hb107 rfl (by decide) ?_
    refine Lst.skip rfl rfl rfl hb107 rfl (by decide) ?_
    refine Lst.run rfl rfl (by decide) (Ev.pickF rfl hb107 rfl) ?_
    refine Lst.run rfl rfl (by decide) (Ev.move rfl) ?_
    refine Lst.skip rfl rfl rfl rfl rfl (by decide) ?_
    refine Lst.skip rfl rfl rfl rfl rfl (by decide) ?_
    refine Lst.run rfl rfl (by decide) (Ev.pickF rfl rfl rfl) ?_
    refine Lst.run rfl rfl (by decide) (Ev.move rfl) ?_
    refine Lst.skip rfl rfl rfl rfl rfl (by decide) ?_
    refine Lst.skip rfl rfl rfl rfl rfl (by decide) ?_
    refine Lst.skip rfl rfl rfl rfl rfl (by decide) ?_
    refine Lst.skip rfl rfl rfl rfl rfl (by decide) ?_
    refine Lst.run rfl rfl (by decide) (Ev.pickF rfl rfl rfl) ?_
    refine Lst.run rfl rfl (by decide) (Ev.move rfl) ?_
    refine Lst.skip rfl rfl rfl rfl rfl (by decide) ?_
    refine Lst.skip rfl rfl rfl rfl rfl (by decide) ?_
    refine Lst.run rfl rfl (by decide) (Ev.pickF rfl rfl rfl) ?_
    refine Lst.run rfl rfl (by decide) (Ev.assign rfl) ?_
    refine Lst.nil ?_
    refine At.then ?_
    obtain rfl := some_inj H
    refine Cd.ret ?_
    exact At.ret1 rfl (Res.tmp rfl) (FLe.trans (FLe.trans (FLe.trans (FLe.trans (FLe.trans (FLe.trans (FLe.trans hF12 hF18) hF24) hF33) hF81) hF90) hF97) hF106) (List.Sublist.cons _ (List.Sublist.cons _ (List.Sublist.cons _ (List.Sublist.cons _ (List.Sublist.cons _ (List.Sublist.cons _ (List.Sublist.cons _ (List.Sublist.cons _ (List.Sublist.refl _))))))))) ⟨rfl, rfl⟩
  replace H := ite_t hb107 H
  refine Lst.runG rfl rfl rfl hb107 rfl (by decide) (Ev.move rfl) ?_
  refine Lst.runG rfl rfl rfl hb107 rfl (by decide) (Ev.loadA (i := 7) rfl rfl Try.isAgg24 Try.sizeOf24 (ch := enc (PosetR.mk a0 s_a0_1)) (Enc.len _) (Get.here _)) ?_
  obtain ⟨r108, h109, H⟩ := bind_some H
  refine Lst.callG rfl rfl rfl hb107 rfl (by decide) (vs := [.agg (enc (PosetR.mk a0 s_a0_1)).toArray]) ⟨rfl, trivial⟩ Try.call31 (partref_Order_sim h109 w0 _ M _ (List.Sublist.cons _ (List.Sublist.cons _ (List.Sublist.cons _ (List.Sublist.cons _ (List.Sublist.cons _ (List.Sublist.cons _ (List.Sublist.cons _ (List.Sublist.cons _ hM)))))))) (hs_a0_1.mono (FLe.trans (FLe.trans (FLe.trans (FLe.trans (FLe.trans (FLe.trans (FLe.trans hF12 hF18) hF24) hF33) hF81) hF90) hF97) hF106) (List.Sublist.refl _))) (fun F112 L' v hF113 hv => ?_)
  obtain ⟨s110, rfl, rfl⟩ := hv
  obtain ⟨r114, h115, H⟩ := bind_some H
  refine Lst.call1G rfl rfl rfl hb107 rfl (by decide) (vs := [Sl.v s21, Sl.v s110]) ⟨rfl, rfl, trivial⟩ Try.call30 (slices_Equal_int_int_sim h115 w0 _ _ _ (List.Sublist.refl _) (Rd.own (i := 5) rfl rfl rfl) (Rd.own (i := 0) rfl rfl rfl)) ?_
  refine Lst.run rfl rfl (by decide) (Ev.pickT rfl hb107 rfl) ?_
  refine Lst.run rfl rfl (by decide) (Ev.move rfl) ?_
  obtain ⟨o118, H, HKo118⟩ := bind_some H
  refine Lst.join (σ := Bool) 3 (fun y119 => [(1, .pointer (some ⟨b1, 0, none⟩)), (10, Sl.v s27), (11, .int .i64 r25.2), (105, .bool y119)]) (fun y119 => (.own s110 3 1 (encs r108)) :: (.own s94 49 2 (encs r92)) :: (.own s78 49 2 (encs r76)) :: (.rows (α := Int) 3 rs28) :: (.own s27 34 1 (encs rs28)) :: (.own s21 3 1 (encs r19.1)) :: (.own s15 49 2 (encs r13.1)) :: (.own s9 49 2 (encs r7.1)) :: (.blk b1 (enc (PosetR.mk a0 s_a0_1)) 24) :: L) (fun _ y119 => y119 = o118) ?_ ?_
  · rcases (Bool.eq_false_or_eq_true r114).symm with hb120 | hb120
    · replace H := ite_f hb120 H
      refine Lst.skip rfl rfl rfl hb120 rfl (by decide) ?_
      refine Lst.skip rfl rfl rfl hb120 rfl (by decide) ?_
      refine Lst.run rfl rfl (by decide) (Ev.pickF rfl hb120 rfl) ?_
      refine Lst.nil ?_
      exact At.meet false (FLe.refl _) ⟨rfl, rfl, rfl, rfl, trivial⟩ rfl (some_inj H)
    replace H := ite_t hb120 H
    refine Lst.runG rfl rfl rfl hb120 rfl (by decide) (Ev.move rfl) ?_
    refine Lst.runG rfl rfl rfl hb120 rfl (by decide) (Ev.eql rfl rfl) ?_
    refine Lst.run rfl rfl (by decide) (Ev.pickT rfl hb120 rfl) ?_
    refine Lst.nil ?_
    exact At.meet (r19.2 == (0 : Int)) (FLe.refl _) ⟨rfl, rfl, rfl, rfl, trivial⟩ rfl (some_inj H)
  rintro F121 y119 hF122 hy
  subst hy
  refine Lst.as (e' := [(1, .pointer (some ⟨b1, 0, none⟩)), (10, Sl.v s27), (11, .int .i64 r25.2), (105, .bool y119)]) (L' := (.own s110 3 1 (encs r108)) :: (.own s94 49 2 (encs r92)) :: (.own s78 49 2 (encs r76)) :: (.rows (α := Int) 3 rs28) :: (.own s27 34 1 (encs rs28)) :: (.own s21 3 1 (encs r19.1)) :: (.own s15 49 2 (encs r13.1)) :: (.own s9 49 2 (encs r7.1)) :: (.blk b1 (enc (PosetR.mk a0 s_a0_1)) 24) :: L) ⟨rfl, rfl, rfl, rfl, trivial⟩ rfl ?_
  replace H := HKo118
  refine Lst.run rfl rfl (by decide) (Ev.move rfl) ?_
  rcases (Bool.eq_false_or_eq_true y119).symm with hb123 | hb123
  · replace H := ite_f hb123 H
    refine Lst.skip rfl rfl rfl hb123 rfl (by decide) ?_
    refine Lst.skip rfl rfl rfl hb123 rfl (by decide) ?_
    refine Lst.skip rfl rfl rfl hb123 rfl (by decide) ?_
    refine Lst.skip rfl rfl rfl hb123 rfl (by decide) ?_
    refine Lst.run rfl rfl (by decide) (Ev.pickF rfl hb123 rfl) ?_
    refine Lst.run rfl rfl (by decide) (Ev.move rfl) ?_
    refine Lst.skip rfl rfl rfl rfl rfl (by decide) ?_
    refine Lst.skip rfl rfl rfl rfl rfl (by decide) ?_
    refine Lst.run rfl rfl (by decide) (Ev.pickF rfl rfl rfl) ?_
    refine Lst.run rfl rfl (by decide) (Ev.assign rfl) ?_
    refine Lst.nil ?_
    refine At.then ?_
    obtain rfl := some_inj H
    refine Cd.ret ?_
    exact At.ret1 rfl (Res.tmp rfl) (FLe.trans (FLe.trans (FLe.trans (FLe.trans (FLe.trans (FLe.trans (FLe.trans (FLe.trans (FLe.trans hF12 hF18) hF24) hF33) hF81) hF90) hF97) hF106) hF113) hF122) (List.Sublist.cons _ (List.Sublist.cons _ (List.Sublist.cons _ (List.Sublist.cons _ (List.Sublist.cons _ (List.Sublist.cons _ (List.Sublist.cons _ (List.Sublist.cons _ (List.Sublist.cons _ (List.Sublist.refl _)))))))))) ⟨rfl, rfl⟩
  replace H := ite_t hb123 H
  refine Lst.runG rfl rfl rfl hb123 rfl (by decide) (Ev.move rfl) ?_
  refine Lst.runG rfl rfl rfl hb123 rfl (by decide) (Ev.loadA (i := 8) rfl rfl Try.isAgg24 Try.sizeOf24 (ch := enc (PosetR.mk a0 s_a0_1)) (Enc.len _) (Get.here _)) ?_
  obtain ⟨r124, h125, H⟩ := bind_some H
  refine Lst.callG rfl rfl rfl hb123 rfl (by decide) (vs := [.agg (enc (PosetR.mk a0 s_a0_1)).toArray]) ⟨rfl, trivial⟩ Try.call33 (partref_Levels_sim h125 w0 _ M _ (List.Sublist.cons _ (List.Sublist.cons _ (List.Sublist.cons _ (List.Sublist.cons _ (List.Sublist.cons _ (List.Sublist.cons _ (List.Sublist.cons _ (List.Sublist.cons _ (List.Sublist.cons _ hM))))))))) (hs_a0_1.mono (FLe.trans (FLe.trans (FLe.trans (FLe.trans (FLe.trans (FLe.trans (FLe.trans (FLe.trans (FLe.trans hF12 hF18) hF24) hF33) hF81) hF90) hF97) hF106) hF113) hF122) (List.Sublist.refl _))) (fun F131 L' v hF132 hv => ?_)
  obtain ⟨s126, rs127, rfl, rfl, fm128, fa130⟩ := hv
  obtain ⟨r133, h134, H⟩ := bind_some H
  refine Lst.call1G rfl rfl rfl hb123 rfl (by decide) (vs := [Sl.v s27, Sl.v s126, .func (.func 30) #[] #[]]) ⟨rfl, rfl, rfl, trivial⟩ Try.call32 (slices_EqualFunc_int_int_int_int_int_int_sim h134 w0 _ _ _ (List.Sublist.refl _) fm29 (Rd.own (i := 5) rfl rfl rfl) (All.rowsHead (j := 4) rfl) fm128 (Rd.own (i := 0) rfl rfl rfl) (All.monoLR fa130 (FLe.refl _) (List.Sublist.cons _ (List.Sublist.cons _ (List.Sublist.cons _ (List.Sublist.cons _ (List.Sublist.cons _ (List.Sublist.cons _ (List.Sublist.cons _ (List.Sublist.cons _ (List.Sublist.cons _ (List.Sublist.cons _ hM)))))))))))) ?_
  refine Lst.run rfl rfl (by decide) (Ev.pickT rfl hb123 rfl) ?_
  refine Lst.run rfl rfl (by decide) (Ev.move rfl) ?_
  obtain ⟨o137, H, HKo137⟩ := bind_some H
  refine Lst.join (σ := Bool) 3 (fun y138 => [(115, .bool y138)]) (fun y138 => (.own s126 34 1 (encs rs127)) :: (.own s110 3 1 (encs r108)) :: (.own s94 49 2 (encs r92)) :: (.own s78 49 2 (encs r76)) :: (.rows (α := Int) 3 rs28) :: (.own s27 34 1 (encs rs28)) :: (.own s21 3 1 (encs r19.1)) :: (.own s15 49 2 (encs r13.1)) :: (.own s9 49 2 (encs r7.1)) :: (.blk b1 (enc (PosetR.mk a0 s_a0_1)) 24) :: L) (fun _ y138 => y138 = o137) ?_ ?_
  · rcases (Bool.eq_false_or_eq_true r133).symm with hb139 | hb139
    · replace H := ite_f hb139 H
      refine Lst.skip rfl rfl rfl hb139 rfl (by decide) ?_
      refine Lst.skip rfl rfl rfl hb139 rfl (by decide) ?_
      refine Lst.run rfl rfl (by decide) (Ev.pickF rfl hb139 rfl) ?_
      refine Lst.nil ?_
      exact At.meet false (FLe.refl _) ⟨rfl, trivial⟩ rfl (some_inj H)
    replace H := ite_t hb139 H
    refine Lst.runG rfl rfl rfl hb139 rfl (by decide) (Ev.move rfl) ?_
    refine Lst.runG rfl rfl rfl hb139 rfl (by decide) (Ev.eql rfl rfl) ?_
    refine Lst.run rfl rfl (by decide) (Ev.pickT rfl hb139 rfl) ?_
    refine Lst.nil ?_
    exact At.meet (r25.2 == (0 : Int)) (FLe.refl _) ⟨rfl, trivial⟩ rfl (some_inj H)
  rintro F140 y138 hF141 hy
  subst hy
  refine Lst.as (e' := [(115, .bool y138)]) (L' := (.own s126 34 1 (encs rs127)) :: (.own s110 3 1 (encs r108)) :: (.own s94 49 2 (encs r92)) :: (.own s78 49 2 (encs r76)) :: (.rows (α := Int) 3 rs28) :: (.own s27 34 1 (encs rs28)) :: (.own s21 3 1 (encs r19.1)) :: (.own s15 49 2 (encs r13.1)) :: (.own s9 49 2 (encs r7.1)) :: (.blk b1 (enc (PosetR.mk a0 s_a0_1)) 24) :: L) ⟨rfl, trivial⟩ rfl ?_
  replace H := HKo137
  refine Lst.run rfl rfl (by decide) (Ev.assign rfl) ?_
  refine Lst.nil ?_
  refine At.then ?_
  obtain rfl := some_inj H
  refine Cd.ret ?_
  exact At.ret1 rfl (Res.tmp rfl) (FLe.trans (FLe.trans (FLe.trans (FLe.trans (FLe.trans (FLe.trans (FLe.trans (FLe.trans (FLe.trans (FLe.trans (FLe.trans hF12 hF18) hF24) hF33) hF81) hF90) hF97) hF106) hF113) hF122) hF132) hF141) (List.Sublist.cons _ (List.Sublist.cons _ (List.Sublist.cons _ (List.Sublist.cons _ (List.Sublist.cons _ (List.Sublist.cons _ (List.Sublist.cons _ (List.Sublist.cons _ (List.Sublist.cons _ (List.Sublist.cons _ (List.Sublist.refl _))))))))))) ⟨rfl, rfl⟩
end Go.Proofs.Yticifbmaapnfbaa
