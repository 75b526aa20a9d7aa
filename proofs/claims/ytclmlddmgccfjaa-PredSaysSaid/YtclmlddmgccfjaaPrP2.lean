/-
  The functions compute their specs; printed by a program.
-/
import Derived.Test.YtclmlddmgccfjaaPrP1
namespace Go.Proofs.Ytclmlddmgccfjaa
open Go.RowKit Enc
set_option linter.unusedVariables false
set_option linter.unusedSimpArgs false
set_option maxRecDepth 20000 in
theorem partref_inCut_sim {a0 : List Event} {a1 : Vector Int 6} {s_a0 : Sl} {r : (List Bool)} (H : partref_inCut a0 a1 = some r) (w0 : World) (F : Frz) (M L : List Item) (hM : M.Sublist L) (hs_a0 : Rd w0 F M s_a0 a0) : Ok Try.prog w0 58 [Sl.v s_a0, .agg (enc a1).toArray] F (L) (fun _ L' v => ∃ (s1 : Sl), v = Sl.v s1 ∧ L' = (.own s1 4 1 (encs r)) :: L) := by
  unfold partref_inCut at H
  refine Ok.enter (m := 2) (n := 39) Try.func58 rfl rfl rfl (by decide) ?_
  refine Cd.env (e' := [(0, Sl.v s_a0), (1, .agg (enc a1).toArray)]) rfl ?_
  refine Cd.seq ?_
  refine Cd.region ?_
  refine Lst.box rfl rfl (by decide) rfl (cs := enc a1) rfl (fun b1 => ?_)
  refine Lst.addNil 4 1 ?_
  refine Lst.run rfl rfl (by decide) (Ev.assign rfl) ?_
  refine Lst.nil ?_
  refine At.then ?_
  refine Cd.seq ?_
  refine Cd.region ?_
  refine Lst.run rfl rfl (by decide) (Ev.move rfl) ?_
  refine Lst.run rfl rfl (by decide) (Ev.lenS (α := Event) (xs := a0) (by decide) rfl rfl Try.runUnderlying24 (hs_a0.mono (FLe.refl _) (List.Sublist.cons _ (List.Sublist.cons _ hM)))) ?_
  obtain ⟨n4, h5, H⟩ := bind_some H
  have g6 := mkLen_some h5
  refine Lst.make (α := Bool) (z0 := false) (k := n4) rfl rfl (by decide) (congrArg some (congrArg (Value.int .i64) g6.1)) (congrArg some (congrArg (Value.int .i64) g6.1)) Try.runUnderlying44 Try.typeInfo4 rfl rfl rfl rfl rfl g6.2 rfl (fun s7 => ?_)
  refine Lst.run rfl rfl (by decide) (Ev.assign rfl) ?_
  refine Lst.nil ?_
  refine At.then ?_
  refine Cd.seq ?_
  refine Cd.region ?_
  refine Lst.alloc (cs := enc (Vector.replicate 6 (0 : Int))) rfl rfl (by decide) Try.zeroValue23 rfl (fun b9 => ?_)
  refine Lst.nil ?_
  refine At.then ?_
  refine Cd.seq ?_
  refine Cd.seq ?_
  refine Cd.region ?_
  refine Lst.run rfl rfl (by decide) (Ev.move rfl) ?_
  refine Lst.run rfl rfl (by decide) (Ev.lenS (α := Event) (xs := a0) (by decide) rfl rfl Try.runUnderlying24 (hs_a0.mono (FLe.refl _) (List.Sublist.cons _ (List.Sublist.cons _ (List.Sublist.cons _ (List.Sublist.cons _ hM)))))) ?_
  refine Lst.run rfl rfl (by decide) (Ev.move rfl) ?_
  refine Lst.nil ?_
  refine At.then ?_
  refine Cd.block ?_
  refine Cd.bound (Rd.le (α := Event) (xs := a0) (by decide) (hs_a0.mono (FLe.refl _) (List.Sublist.cons _ (List.Sublist.cons _ (List.Sublist.cons _ (List.Sublist.cons _ hM)))))) (fun hN40 => ?_)
  obtain ⟨ol11, H, HKl11⟩ := bind_some H
  refine Cd.loop (σ := Nat × Nat × (Vector Int 6) × (List Bool)) (fun (i11, k11, y12, l13) => [(3, .pointer (some ⟨b1, 0, none⟩)), (5, Sl.v s7), (6, .pointer (some ⟨b9, 0, none⟩)), (12, Sl.v s_a0), (13, .int .i64 (a0.length : Int)), (14, .int .i64 (i11 : Int))]) (fun (i11, k11, y12, l13) => (.blk b9 (enc y12) 23) :: (.own s7 4 1 (encs l13)) :: (.own Sl.nil 4 1 (encs ([] : List Bool))) :: (.blk b1 (enc a1) 23) :: L) (fun _ => (fun (i11, k11, y12, l13) => rangeF (partref_inCut_B0 a0 a1) k11 i11 (y12, l13) = some ol11 ∧ i11 + k11 = a0.length)) (fun (i11, k11, y12, l13) => k11) (0, a0.length, (Vector.replicate 6 (0 : Int)), (List.replicate n4 false)) ⟨rfl, rfl, rfl, rfl, rfl, rfl, trivial⟩ rfl ⟨H, by omega⟩ ?_
  rintro F14 ⟨i11, k11, y12, l13⟩ hF15 ⟨H, hik11⟩
  refine Cd.as (e' := [(3, .pointer (some ⟨b1, 0, none⟩)), (5, Sl.v s7), (6, .pointer (some ⟨b9, 0, none⟩)), (12, Sl.v s_a0), (13, .int .i64 (a0.length : Int)), (14, .int .i64 (i11 : Int))]) (L' := (.blk b9 (enc y12) 23) :: (.own s7 4 1 (encs l13)) :: (.own Sl.nil 4 1 (encs ([] : List Bool))) :: (.blk b1 (enc a1) 23) :: L) ⟨rfl, rfl, rfl, rfl, rfl, rfl, trivial⟩ rfl ?_
  rcases k11 with _ | k11
  · have hc11 : decide ((i11 : Int) < (a0.length : Int)) = false := decide_eq_false (by omega)
    replace H := rangeF_end H
    refine Cd.seq ?_
    refine Cd.region ?_
    refine Lst.run rfl rfl (by decide) (Ev.lss rfl rfl) ?_
    refine Lst.nil ?_
    refine At.then ?_
    refine Cd.seq ?_
    refine Cd.condF rfl hc11 ?_
    refine Cd.exit ?_
    refine At.then_exit ?_
    refine At.then_exit ?_
    refine At.in_exit ?_
    subst H
    replace H := HKl11
    refine At.then ?_
    refine Cd.seq ?_
    refine Cd.region ?_
    refine Lst.run rfl rfl (by decide) (Ev.move rfl) ?_
    refine Lst.run rfl rfl (by decide) (Ev.assign rfl) ?_
    refine Lst.nil ?_
    refine At.then ?_
    obtain rfl := some_inj H
    refine Cd.ret ?_
    exact At.ret1 rfl (Res.tmp rfl) hF15 (List.Sublist.cons _ (List.Sublist.cons_cons _ (List.Sublist.cons _ (List.Sublist.cons _ (List.Sublist.refl _))))) ⟨s7, rfl, rfl⟩
  have hc11 : decide ((i11 : Int) < (a0.length : Int)) = true := decide_eq_true (by omega)
  obtain ⟨c11, H, hgo11⟩ := rangeF_go H
  unfold partref_inCut_B0 at H
  try dsimp only at H
  refine Cd.seq ?_
  refine Cd.region ?_
  refine Lst.run rfl rfl (by decide) (Ev.lss rfl rfl) ?_
  refine Lst.nil ?_
  refine At.then ?_
  refine Cd.seq ?_
  refine Cd.condT rfl hc11 ?_
  refine Cd.skip ?_
  refine At.then ?_
  refine Cd.seq ?_
  refine Cd.block ?_
  refine Cd.seq ?_
  refine Cd.region ?_
  refine Lst.run rfl rfl (by decide) (Ev.move rfl) ?_
  obtain ⟨x16, h17, H⟩ := bind_some H
  have g18 := lat_some h17
  refine Lst.run rfl rfl (by decide) (Ev.indexS (α := Event) (xs := a0) rfl rfl Try.runUnderlying24 Try.sizeOf75 rfl (by decide) (hs_a0.mono hF15 (List.Sublist.cons _ (List.Sublist.cons _ (List.Sublist.cons _ (List.Sublist.cons _ hM))))) g18.1 g18.2.1) ?_
  refine Lst.run rfl rfl (by decide) (Ev.loadSA (α := Event) rfl (hs_a0.mono hF15 (List.Sublist.cons _ (List.Sublist.cons _ (List.Sublist.cons _ (List.Sublist.cons _ hM))))) Try.isAgg75 Try.sizeOf75 (ch := enc x16) (Enc.len _) (by decide) ((Get.elemN (s := 3) (x := x16) rfl g18.2.2 (Get.here _)).off (by omega))) ?_
  refine Lst.alloc (cs := enc Event.zero) rfl rfl (by decide) Try.zeroValue75 rfl (fun b19 => ?_)
  refine Lst.run rfl rfl (by decide) (Ev.assign rfl) ?_
  refine Lst.store (i := 0) rfl rfl rfl rfl rfl Try.sizeOf75 (vs := enc x16) rfl (Enc.len _) (Enc.one _) (cs' := enc x16) (Put.here ((Enc.len _).trans (Enc.len _).symm)) (L' := (.blk b19 (enc x16) 75) :: (.blk b9 (enc y12) 23) :: (.own s7 4 1 (encs l13)) :: (.own Sl.nil 4 1 (encs ([] : List Bool))) :: (.blk b1 (enc a1) 23) :: L) rfl ?_
  refine Lst.nil ?_
  refine At.then ?_
  refine Cd.seq ?_
  refine Cd.region ?_
  refine Lst.run rfl rfl (by decide) (Ev.fieldAddr (off' := 0) rfl Try.runUnderlying75 rfl Try.sizeOf3 rfl rfl) ?_
  refine Lst.run rfl rfl (by decide) (Ev.load (i := 0) rfl rfl Try.isAgg3 (v := .int .i64 x16.Proc) ((Event.get_Proc (Get.here _)).off (by rfl))) ?_
  obtain ⟨x21, h22, H⟩ := bind_some H
  have g23 := vat_some h22
  refine Lst.run rfl rfl (by decide) (Ev.indexAddr (off' := 0 + x16.Proc.toNat * 1) rfl rfl Try.runUnderlying23 Try.sizeOf3 g23.1 g23.2.1 rfl) ?_
  refine Lst.run rfl rfl (by decide) (Ev.load (i := 1) rfl rfl Try.isAgg3 (v := .int .i64 x21) ((Get.vecN (s := 1) (x := x21) rfl g23.2.2 (Get.here _)).off (by omega))) ?_
  refine Lst.run rfl rfl (by decide) (Ev.add rfl rfl) ?_
  obtain ⟨x24, h25, H⟩ := bind_some H
  have g26 := vat_some h25
  refine Lst.run rfl rfl (by decide) (Ev.indexAddr (off' := 0 + x16.Proc.toNat * 1) rfl rfl Try.runUnderlying23 Try.sizeOf3 g26.1 g26.2.1 rfl) ?_
  obtain ⟨p27, h28, H⟩ := Let_some H
  refine Lst.store (i := 1) rfl rfl rfl rfl rfl Try.sizeOf3 (vs := [.int .i64 (w64 (x21 + (1 : Int)))]) rfl rfl rfl (cs' := enc p27) (by rw [← h28]; exact (Put.vecN (s := 1) (x := x24) rfl g26.2.2 (Put.here (vs := [.int .i64 (w64 (x21 + (1 : Int)))]) rfl)).off (by omega)) (L' := (.blk b19 (enc x16) 75) :: (.blk b9 (enc p27) 23) :: (.own s7 4 1 (encs l13)) :: (.own Sl.nil 4 1 (encs ([] : List Bool))) :: (.blk b1 (enc a1) 23) :: L) rfl ?_
  refine Lst.nil ?_
  refine At.then ?_
  refine Cd.tail 12 (by kernel_rfl) (by kernel_rfl) ?_
  refine Qt.run rfl rfl (by decide) (Ev.move rfl) ?_
  refine Qt.run rfl rfl (by decide) (Ev.move rfl) ?_
  refine Qt.run rfl rfl (by decide) (Ev.fieldAddr (off' := 0) rfl Try.runUnderlying75 rfl Try.sizeOf3 rfl rfl) ?_
  refine Qt.run rfl rfl (by decide) (Ev.load (i := 0) rfl rfl Try.isAgg3 (v := .int .i64 x16.Proc) ((Event.get_Proc (Get.here _)).off (by rfl))) ?_
  obtain ⟨x29, h30, H⟩ := bind_some H
  have g31 := vat_some h30
  refine Qt.run rfl rfl (by decide) (Ev.indexAddr (off' := 0 + x16.Proc.toNat * 1) rfl rfl Try.runUnderlying23 Try.sizeOf3 g31.1 g31.2.1 rfl) ?_
  refine Qt.run rfl rfl (by decide) (Ev.load (i := 1) rfl rfl Try.isAgg3 (v := .int .i64 x29) ((Get.vecN (s := 1) (x := x29) rfl g31.2.2 (Get.here _)).off (by omega))) ?_
  refine Qt.run rfl rfl (by decide) (Ev.fieldAddr (off' := 0) rfl Try.runUnderlying75 rfl Try.sizeOf3 rfl rfl) ?_
  refine Qt.run rfl rfl (by decide) (Ev.load (i := 0) rfl rfl Try.isAgg3 (v := .int .i64 x16.Proc) ((Event.get_Proc (Get.here _)).off (by rfl))) ?_
  obtain ⟨x32, h33, H⟩ := bind_some H
  have g34 := vat_some h33
  refine Qt.run rfl rfl (by decide) (Ev.indexAddr (off' := 0 + x16.Proc.toNat * 1) rfl rfl Try.runUnderlying23 Try.sizeOf3 g34.1 g34.2.1 rfl) ?_
  refine Qt.run rfl rfl (by decide) (Ev.load (i := 4) rfl rfl Try.isAgg3 (v := .int .i64 x32) ((Get.vecN (s := 1) (x := x32) rfl g34.2.2 (Get.here _)).off (by omega))) ?_
  refine Qt.run rfl rfl (by decide) (Ev.leq rfl rfl) ?_
  obtain ⟨x35, h36, H⟩ := bind_some H
  have g37 := lat_some h36
  refine Qt.run rfl rfl (by decide) (Ev.indexS (α := Bool) (xs := l13) rfl rfl Try.runUnderlying44 Try.sizeOf4 rfl (by decide) (Rd.own (i := 2) rfl rfl rfl) g37.1 g37.2.1) ?_
  refine Qt.tail ?_
  obtain ⟨p38, h39, H⟩ := Let_some H
  refine Lst.storeS (i := 2) rfl rfl rfl rfl rfl Try.sizeOf4 (vs := [.bool (decide (x29 ≤ x32))]) rfl rfl (by decide) rfl (xs' := encs p38) (by rw [← h39]; exact (Put.elemN (s := 1) (x := x35) rfl g37.2.2 (Put.here (vs := [.bool (decide (x29 ≤ x32))]) rfl)).off (by omega)) (L' := (.blk b19 (enc x16) 75) :: (.blk b9 (enc p27) 23) :: (.own s7 4 1 (encs p38)) :: (.own Sl.nil 4 1 (encs ([] : List Bool))) :: (.blk b1 (enc a1) 23) :: L) rfl ?_
  refine Lst.nil ?_
  refine At.in_normal ?_
  refine At.then ?_
  refine Cd.as (e' := [(3, .pointer (some ⟨b1, 0, none⟩)), (5, Sl.v s7), (6, .pointer (some ⟨b9, 0, none⟩)), (12, Sl.v s_a0), (13, .int .i64 (a0.length : Int)), (14, .int .i64 (i11 : Int))]) (L' := (.blk b19 (enc x16) 75) :: (.blk b9 (enc p27) 23) :: (.own s7 4 1 (encs p38)) :: (.own Sl.nil 4 1 (encs ([] : List Bool))) :: (.blk b1 (enc a1) 23) :: L) ⟨rfl, rfl, rfl, rfl, rfl, rfl, trivial⟩ rfl ?_
  refine Cd.region ?_
  refine Lst.run rfl rfl (by decide) (Ev.incr (by omega) rfl rfl) ?_
  refine Lst.run rfl rfl (by decide) (Ev.move rfl) ?_
  refine Lst.nil ?_
  refine At.less (L' := (.blk b9 (enc p27) 23) :: (.own s7 4 1 (encs p38)) :: (.own Sl.nil 4 1 (encs ([] : List Bool))) :: (.blk b1 (enc a1) 23) :: L) (List.Sublist.cons _ (List.Sublist.cons_cons _ (List.Sublist.cons_cons _ (List.Sublist.cons_cons _ (List.Sublist.cons_cons _ (List.Sublist.refl _)))))) ?_
  exact At.meet (i11 + 1, k11, p27, p38) hF15 ⟨rfl, rfl, rfl, rfl, rfl, rfl, trivial⟩ rfl ⟨⟨hgo11 _ (some_inj H).symm, by omega⟩, Nat.lt_succ_self _⟩
set_option maxRecDepth 20000 in
theorem partref_Closure_sim {fu : Nat} {a0 : Int} {a1 : List Pair} {s_a1 : Sl} {r : (List (List Bool))} (H : partref_Closure fu a0 a1 = some r) (w0 : World) (F : Frz) (M L : List Item) (hM : M.Sublist L) (hs_a1 : Rd w0 F M s_a1 a1) : Ok Try.prog w0 52 [.int .i64 a0, Sl.v s_a1] F (L) (fun Fx L' v => ∃ (s1 : Sl) (rs2 : List (LR Bool)), v = Sl.v s1 ∧ L' = (.rows (α := Bool) 4 rs2) :: (.own s1 44 1 (encs rs2)) :: L ∧ rs2.map LR.v = r) := by
  unfold partref_Closure at H
  refine Ok.enter (m := 2) (n := 68) Try.func52 rfl rfl rfl (by decide) ?_
  refine Cd.env (e' := [(0, .int .i64 a0), (1, Sl.v s_a1)]) rfl ?_
  refine Cd.seq ?_
  refine Cd.region ?_
  have ha2 : All LR.rel w0 F [] ([] : List (LR Bool)) := All.nil
  have ha2m : List.map LR.v ([] : List (LR Bool)) = ([] : List (List Bool)) := rfl
  refine Lst.addNil 44 1 ?_
  refine Lst.run rfl rfl (by decide) (Ev.assign rfl) ?_
  refine Lst.nil ?_
  refine At.then ?_
  refine Cd.seq ?_
  refine Cd.region ?_
  refine Lst.run rfl rfl (by decide) (Ev.move rfl) ?_
  obtain ⟨n3, h4, H⟩ := bind_some H
  have g5 := mkLen_some h4
  have hm8 : (List.replicate n3 ((LR.mk [] Sl.nil) : LR Bool)).map LR.v = (List.replicate n3 ([] : List Bool)) := map_rep _ _
  refine Lst.make (α := LR Bool) (z0 := ((LR.mk [] Sl.nil) : LR Bool)) (k := n3) rfl rfl (by decide) (congrArg some (congrArg (Value.int .i64) g5.1)) (congrArg some (congrArg (Value.int .i64) g5.1)) Try.runUnderlying42 Try.typeInfo44 rfl rfl rfl rfl rfl g5.2 rfl (fun s6 => ?_)
  refine Lst.rowsNil Bool 4 n3 ?_
  refine Lst.its (L' := (.rows (α := Bool) 4 (List.replicate n3 ((LR.mk [] Sl.nil) : LR Bool))) :: (.own s6 44 1 (encs (List.replicate n3 ((LR.mk [] Sl.nil) : LR Bool)))) :: (.own Sl.nil 44 1 (encs ([] : List (LR Bool)))) :: L) rfl ?_
  refine Lst.run rfl rfl (by decide) (Ev.assign rfl) ?_
  refine Lst.nil ?_
  refine At.then ?_
  refine Cd.seq ?_
  refine Cd.seq ?_
  refine Cd.region ?_
  refine Lst.run rfl rfl (by decide) (Ev.move rfl) ?_
  refine Lst.run rfl rfl (by decide) (Ev.move rfl) ?_
  refine Lst.nil ?_
  refine At.then ?_
  refine Cd.block ?_
  obtain ⟨nn17, hN93, H⟩ := bind_some H
  replace hN93 := upTo_some hN93
  obtain ⟨ol11, H, HKl11⟩ := bind_some H
  refine Cd.loop (σ := Nat × Nat × (List (List Bool)) × (List (LR Bool))) (fun (i11, k11, l12, rs13) => [(0, .int .i64 a0), (1, Sl.v s_a1), (5, Sl.v s6), (13, .int .i64 a0), (14, .int .i64 (i11 : Int))]) (fun (i11, k11, l12, rs13) => (.rows (α := Bool) 4 rs13) :: (.own s6 44 1 (encs rs13)) :: (.own Sl.nil 44 1 (encs ([] : List (LR Bool)))) :: L) (fun Fx => (fun (i11, k11, l12, rs13) => rangeF (partref_Closure_B0 fu a0 a1) k11 i11 l12 = some ol11 ∧ i11 + k11 = nn17 ∧ rs13.map LR.v = l12)) (fun (i11, k11, l12, rs13) => k11) (0, nn17, (List.replicate n3 ([] : List Bool)), (List.replicate n3 ((LR.mk [] Sl.nil) : LR Bool))) ⟨rfl, rfl, rfl, rfl, rfl, trivial⟩ rfl ⟨H, by omega, hm8⟩ ?_
  rintro F15 ⟨i11, k11, l12, rs13⟩ hF16 ⟨H, hik11, fm14⟩
  refine Cd.as (e' := [(0, .int .i64 a0), (1, Sl.v s_a1), (5, Sl.v s6), (13, .int .i64 a0), (14, .int .i64 (i11 : Int))]) (L' := (.rows (α := Bool) 4 rs13) :: (.own s6 44 1 (encs rs13)) :: (.own Sl.nil 44 1 (encs ([] : List (LR Bool)))) :: L) ⟨rfl, rfl, rfl, rfl, rfl, trivial⟩ rfl ?_
  rcases k11 with _ | k11
  · have hc11 : decide ((i11 : Int) < a0) = false := decide_eq_false (by omega)
    replace H := rangeF_end H
    refine Cd.seq ?_
    refine Cd.region ?_
    refine Lst.run rfl rfl (by decide) (Ev.lss rfl rfl) ?_
    refine Lst.nil ?_
    refine At.then ?_
    refine Cd.seq ?_
    refine Cd.condF rfl hc11 ?_
    refine Cd.exit ?_
    refine At.then_exit ?_
    refine At.then_exit ?_
    refine At.in_exit ?_
    subst H
    replace H := HKl11
    refine At.then ?_
    refine Cd.seq ?_
    refine Cd.region ?_
    refine Lst.run rfl rfl (by decide) (Ev.move rfl) ?_
    refine Lst.run rfl rfl (by decide) (Ev.assign rfl) ?_
    refine Lst.nil ?_
    refine At.then ?_
    obtain rfl := some_inj H
    refine Cd.ret ?_
    exact At.ret1 rfl (Res.tmp rfl) hF16 (List.Sublist.cons_cons _ (List.Sublist.cons_cons _ (List.Sublist.cons _ (List.Sublist.refl _)))) ⟨s6, rs13, rfl, rfl, fm14⟩
  have hc11 : decide ((i11 : Int) < a0) = true := decide_eq_true (by omega)
  obtain ⟨c11, H, hgo11⟩ := rangeF_go H
  unfold partref_Closure_B0 at H
  try dsimp only at H
  refine Cd.seq ?_
  refine Cd.region ?_
  refine Lst.run rfl rfl (by decide) (Ev.lss rfl rfl) ?_
  refine Lst.nil ?_
  refine At.then ?_
  refine Cd.seq ?_
  refine Cd.condT rfl hc11 ?_
  refine Cd.skip ?_
  refine At.then ?_
  refine Cd.seq ?_
  refine Cd.block ?_
  refine Cd.seq ?_
  refine Cd.region ?_
  refine Lst.run rfl rfl (by decide) (Ev.move rfl) ?_
  refine Lst.run rfl rfl (by decide) (Ev.assign rfl) ?_
  refine Lst.nil ?_
  refine At.then ?_
  refine Cd.seq ?_
  refine Cd.region ?_
  refine Lst.run rfl rfl (by decide) (Ev.move rfl) ?_
  refine Lst.run rfl rfl (by decide) (Ev.move rfl) ?_
  refine Lst.run rfl rfl (by decide) (Ev.move rfl) ?_
  obtain ⟨n18, h19, H⟩ := bind_some H
  have g20 := mkLen_some h19
  refine Lst.make (α := Bool) (z0 := false) (k := n18) rfl rfl (by decide) (congrArg some (congrArg (Value.int .i64) g20.1)) (congrArg some (congrArg (Value.int .i64) g20.1)) Try.runUnderlying44 Try.typeInfo4 rfl rfl rfl rfl rfl g20.2 rfl (fun s21 => ?_)
  obtain ⟨x23, h24, H⟩ := bind_some H
  have g25 := lat_some h24
  obtain ⟨⟨r26v, r26h⟩, r26g, r26e, r26m⟩ := map_get fm14 g25.2.2
  obtain rfl : x23 = r26v := r26e.symm
  have hh27 := row_h r26g
  refine Lst.run rfl rfl (by decide) (Ev.indexS (α := LR Bool) (xs := rs13) rfl rfl Try.runUnderlying42 Try.sizeOf44 rfl (by decide) (Rd.own (i := 2) rfl rfl rfl) g25.1 (by have := map_len fm14; omega)) ?_
  obtain ⟨p28, h29, H⟩ := Let_some H
  have hm30 : (rs13.set (i11 : Int).toNat (LR.mk (List.replicate n18 false) s21)).map LR.v = p28 := (map_set fm14 _ _).trans h29
  refine Lst.storeS (i := 2) rfl rfl rfl rfl rfl Try.sizeOf44 (vs := [Sl.v s21]) rfl rfl (by decide) rfl (xs' := encs (rs13.set (i11 : Int).toNat (LR.mk (List.replicate n18 false) s21))) ((Put.elemN (s := 1) (y := (LR.mk (List.replicate n18 false) s21)) rfl r26g (Put.here (vs := [Sl.v s21]) rfl)).off (by omega)) (L' := (.own s21 4 1 (encs (List.replicate n18 false))) :: (.rows (α := Bool) 4 rs13) :: (.own s6 44 1 (encs (rs13.set (i11 : Int).toNat (LR.mk (List.replicate n18 false) s21)))) :: (.own Sl.nil 44 1 (encs ([] : List (LR Bool)))) :: L) rfl ?_
  refine Lst.rowIn (k := (i11 : Int).toNat) r26g rfl ?_
  refine Lst.its (L' := (.rows (α := Bool) 4 (rs13.set (i11 : Int).toNat (LR.mk (List.replicate n18 false) s21))) :: (.own s6 44 1 (encs (rs13.set (i11 : Int).toNat (LR.mk (List.replicate n18 false) s21)))) :: (.own Sl.nil 44 1 (encs ([] : List (LR Bool)))) :: L) rfl ?_
  refine Lst.nil ?_
  refine At.then ?_
  refine Cd.seq ?_
  refine Cd.region ?_
  refine Lst.run rfl rfl (by decide) (Ev.move rfl) ?_
  refine Lst.buildSlice (α := Int) (xs := ([(i11 : Int)] : List Int)) (pv := [(0, .int .i64 (i11 : Int))]) rfl rfl (by decide) ⟨rfl, rfl, trivial⟩ (run_buildSlice (α := Int) (z0 := (0 : Int)) (xs := ([(i11 : Int)] : List Int)) Try.runUnderlying36 Try.sizeOf3 Try.zeroValue3 rfl rfl rfl (by decide) rfl (fill_cons (cs := encs (List.replicate 1 (0 : Int))) (cs' := encs ((List.replicate 1 (0 : Int)).set 0 (i11 : Int))) (vs := [.int .i64 (i11 : Int)]) rfl rfl rfl ((Put.elemN (s := 1) (i := 0) (x := (0 : Int)) (y := (i11 : Int)) rfl rfl (Put.here (vs := [.int .i64 (i11 : Int)]) rfl)).off rfl) fill_nil)) rfl rfl (by decide) (fun s31 _ => ?_)
  refine Lst.run rfl rfl (by decide) (Ev.assign rfl) ?_
  refine Lst.nil ?_
  refine At.then ?_
  refine Cd.block ?_
  obtain ⟨ol33, H, HKl33⟩ := andThen_some H
  refine Cd.loop (σ := Nat × Sl × (List Int) × (List (List Bool)) × (List (LR Bool))) (fun (k33, s34, l35, l36, rs37) => [(0, .int .i64 a0), (1, Sl.v s_a1), (5, Sl.v s6), (6, .int .i64 (i11 : Int)), (7, Sl.v s34), (13, .int .i64 a0), (14, .int .i64 (i11 : Int))]) (fun (k33, s34, l35, l36, rs37) => (.own s34 3 1 (encs l35)) :: (.rows (α := Bool) 4 rs37) :: (.own s6 44 1 (encs rs37)) :: (.own Sl.nil 44 1 (encs ([] : List (LR Bool)))) :: L) (fun Fx => (fun (k33, s34, l35, l36, rs37) => whileM (partref_Closure_B2 a1 i11) k33 (l35, l36) = some ol33 ∧ rs37.map LR.v = l36)) (fun (k33, s34, l35, l36, rs37) => k33) (fu, s31, ([(i11 : Int)] : List Int), p28, (rs13.set (i11 : Int).toNat (LR.mk (List.replicate n18 false) s21))) ⟨rfl, rfl, rfl, rfl, rfl, rfl, rfl, trivial⟩ rfl ⟨H, hm30⟩ ?_
  rintro F39 ⟨k33, s34, l35, l36, rs37⟩ hF40 ⟨H, fm38⟩
  refine Cd.as (e' := [(0, .int .i64 a0), (1, Sl.v s_a1), (5, Sl.v s6), (6, .int .i64 (i11 : Int)), (7, Sl.v s34), (13, .int .i64 a0), (14, .int .i64 (i11 : Int))]) (L' := (.own s34 3 1 (encs l35)) :: (.rows (α := Bool) 4 rs37) :: (.own s6 44 1 (encs rs37)) :: (.own Sl.nil 44 1 (encs ([] : List (LR Bool)))) :: L) ⟨rfl, rfl, rfl, rfl, rfl, rfl, rfl, trivial⟩ rfl ?_
  rcases k33 with _ | k33
  · cases H
  obtain ⟨c33, H, hgo33, hbrk33, hret33⟩ := whileM_go H
  unfold partref_Closure_B2 at H
  try dsimp only at H
  refine Cd.seq ?_
  refine Cd.seq ?_
  refine Cd.region ?_
  refine Lst.run rfl rfl (by decide) (Ev.move rfl) ?_
  refine Lst.run rfl rfl (by decide) (Ev.lenS (α := Int) (xs := l35) (by decide) rfl rfl Try.runUnderlying36 (Rd.own (i := 0) rfl rfl rfl)) ?_
  refine Lst.run rfl rfl (by decide) (Ev.gtr rfl rfl) ?_
  refine Lst.nil ?_
  refine At.then ?_
  rcases (Bool.eq_false_or_eq_true (decide ((l35.length : Int) > (0 : Int)))).symm with hb41 | hb41
  · replace H := ite_f hb41 H
    refine Cd.condF rfl hb41 ?_
    refine Cd.exit ?_
    refine At.then_exit ?_
    refine At.then_exit ?_
    refine At.in_exit ?_
    have H := hbrk33 _ (some_inj H).symm
    subst H
    replace H := HKl33
    refine At.in_normal ?_
    refine At.then ?_
    refine Cd.region ?_
    refine Lst.run rfl rfl (by decide) (Ev.incr (by omega) rfl rfl) ?_
    refine Lst.run rfl rfl (by decide) (Ev.move rfl) ?_
    refine Lst.nil ?_
    refine At.less (L' := (.rows (α := Bool) 4 rs37) :: (.own s6 44 1 (encs rs37)) :: (.own Sl.nil 44 1 (encs ([] : List (LR Bool)))) :: L) (List.Sublist.cons _ (List.Sublist.cons_cons _ (List.Sublist.cons_cons _ (List.Sublist.cons_cons _ (List.Sublist.refl _))))) ?_
    exact At.meet (i11 + 1, k11, l36, rs37) (FLe.trans hF16 hF40) ⟨rfl, rfl, rfl, rfl, rfl, trivial⟩ rfl ⟨⟨hgo11 _ (some_inj H).symm, by omega, fm38⟩, Nat.lt_succ_self _⟩
  replace H := ite_t hb41 H
  refine Cd.condT rfl hb41 ?_
  refine Cd.skip ?_
  refine At.then ?_
  refine Cd.block ?_
  refine Cd.seq ?_
  refine Cd.region ?_
  refine Lst.run rfl rfl (by decide) (Ev.move rfl) ?_
  obtain ⟨x42, h43, H⟩ := bind_some H
  have g44 := lat_some h43
  refine Lst.run rfl rfl (by decide) (Ev.indexS (α := Int) (xs := l35) rfl rfl Try.runUnderlying36 Try.sizeOf3 rfl (by decide) (Rd.own (i := 0) rfl rfl rfl) g44.1 g44.2.1) ?_
  refine Lst.run rfl rfl (by decide) (Ev.loadS (α := Int) rfl (Rd.own (i := 0) rfl rfl rfl) Try.isAgg3 (v := .int .i64 x42) ((Get.elemN (s := 1) (x := x42) rfl g44.2.2 (Get.here _)).off (by omega))) ?_
  refine Lst.run rfl rfl (by decide) (Ev.assign rfl) ?_
  refine Lst.nil ?_
  refine At.then ?_
  refine Cd.seq ?_
  refine Cd.region ?_
  refine Lst.run rfl rfl (by decide) (Ev.move rfl) ?_
  obtain ⟨m45, h46, H⟩ := bind_some H
  obtain ⟨g47, gl48⟩ := cutL_some h46
  refine Lst.run rfl rfl (by decide) (Ev.cut (α := Int) (xs := l35) (i := (1 : Int)) (j := (l35.length : Int)) rfl rfl rfl Try.runUnderlying36 Try.sizeOf3 rfl (by decide) (Rd.own (i := 0) rfl rfl rfl) g47.1 g47.2.1 g47.2.2) ?_
  refine Lst.cutOwn (i := 0) (α := Int) (lo := ((1 : Int) : Int).toNat) (hi := ((l35.length : Int) : Int).toNat) rfl rfl rfl (by decide) (by omega) (by omega) (L' := (.own (s34.cut ((1 : Int) : Int).toNat ((l35.length : Int) : Int).toNat 1) 3 1 (encs m45)) :: (.rows (α := Bool) 4 rs37) :: (.own s6 44 1 (encs rs37)) :: (.own Sl.nil 44 1 (encs ([] : List (LR Bool)))) :: L) (by subst gl48; rfl) ?_
  refine Lst.run rfl rfl (by decide) (Ev.assign rfl) ?_
  refine Lst.nil ?_
  refine At.then ?_
  refine Cd.seq ?_
  refine Cd.region ?_
  refine Lst.run rfl rfl (by decide) (Ev.move rfl) ?_
  refine Lst.run rfl rfl (by decide) (Ev.lenS (α := Pair) (xs := a1) (by decide) rfl rfl Try.runUnderlying39 (hs_a1.mono (FLe.trans hF16 hF40) (List.Sublist.cons _ (List.Sublist.cons _ (List.Sublist.cons _ (List.Sublist.cons _ hM)))))) ?_
  refine Lst.run rfl rfl (by decide) (Ev.move rfl) ?_
  refine Lst.nil ?_
  refine At.then ?_
  refine Cd.block ?_
  refine Cd.bound (Rd.le (α := Pair) (xs := a1) (by decide) (hs_a1.mono (FLe.trans hF16 hF40) (List.Sublist.cons _ (List.Sublist.cons _ (List.Sublist.cons _ (List.Sublist.cons _ hM)))))) (fun hN92 => ?_)
  obtain ⟨ol50, H, HKl50⟩ := bind_some H
  refine Cd.loop (σ := Nat × Nat × Sl × (List Int) × (List (List Bool)) × (List (LR Bool))) (fun (i50, k50, s51, l52, l53, rs54) => [(0, .int .i64 a0), (1, Sl.v s_a1), (5, Sl.v s6), (6, .int .i64 (i11 : Int)), (7, Sl.v s51), (8, .int .i64 x42), (13, .int .i64 a0), (14, .int .i64 (i11 : Int)), (32, Sl.v s_a1), (33, .int .i64 (a1.length : Int)), (34, .int .i64 (i50 : Int))]) (fun (i50, k50, s51, l52, l53, rs54) => (.own s51 3 1 (encs l52)) :: (.rows (α := Bool) 4 rs54) :: (.own s6 44 1 (encs rs54)) :: (.own Sl.nil 44 1 (encs ([] : List (LR Bool)))) :: L) (fun Fx => (fun (i50, k50, s51, l52, l53, rs54) => rangeF (partref_Closure_B4 a1 i11 x42) k50 i50 (l52, l53) = some ol50 ∧ i50 + k50 = a1.length ∧ rs54.map LR.v = l53)) (fun (i50, k50, s51, l52, l53, rs54) => k50) (0, a1.length, (s34.cut ((1 : Int) : Int).toNat ((l35.length : Int) : Int).toNat 1), m45, l36, rs37) ⟨rfl, rfl, rfl, rfl, rfl, rfl, rfl, rfl, rfl, rfl, rfl, trivial⟩ rfl ⟨H, by omega, fm38⟩ ?_
  rintro F56 ⟨i50, k50, s51, l52, l53, rs54⟩ hF57 ⟨H, hik50, fm55⟩
  refine Cd.as (e' := [(0, .int .i64 a0), (1, Sl.v s_a1), (5, Sl.v s6), (6, .int .i64 (i11 : Int)), (7, Sl.v s51), (8, .int .i64 x42), (13, .int .i64 a0), (14, .int .i64 (i11 : Int)), (32, Sl.v s_a1), (33, .int .i64 (a1.length : Int)), (34, .int .i64 (i50 : Int))]) (L' := (.own s51 3 1 (encs l52)) :: (.rows (α := Bool) 4 rs54) :: (.own s6 44 1 (encs rs54)) :: (.own Sl.nil 44 1 (encs ([] : List (LR Bool)))) :: L) ⟨rfl, rfl, rfl, rfl, rfl, rfl, rfl, rfl, rfl, rfl, rfl, trivial⟩ rfl ?_
  rcases k50 with _ | k50
  · have hc50 : decide ((i50 : Int) < (a1.length : Int)) = false := decide_eq_false (by omega)
    replace H := rangeF_end H
    refine Cd.seq ?_
    refine Cd.region ?_
    refine Lst.run rfl rfl (by decide) (Ev.lss rfl rfl) ?_
    refine Lst.nil ?_
    refine At.then ?_
    refine Cd.seq ?_
    refine Cd.condF rfl hc50 ?_
    refine Cd.exit ?_
    refine At.then_exit ?_
    refine At.then_exit ?_
    refine At.in_exit ?_
    subst H
    replace H := HKl50
    refine At.in_normal ?_
    exact At.meet (k33, s51, l52, l53, rs54) (FLe.trans hF40 hF57) ⟨rfl, rfl, rfl, rfl, rfl, rfl, rfl, trivial⟩ rfl ⟨⟨hgo33 _ (some_inj H).symm, fm55⟩, Nat.lt_succ_self _⟩
  have hc50 : decide ((i50 : Int) < (a1.length : Int)) = true := decide_eq_true (by omega)
  obtain ⟨c50, H, hgo50⟩ := rangeF_go H
  unfold partref_Closure_B4 at H
  try dsimp only at H
  refine Cd.seq ?_
  refine Cd.region ?_
  refine Lst.run rfl rfl (by decide) (Ev.lss rfl rfl) ?_
  refine Lst.nil ?_
  refine At.then ?_
  refine Cd.seq ?_
  refine Cd.condT rfl hc50 ?_
  refine Cd.skip ?_
  refine At.then ?_
  refine Cd.seq ?_
  refine Cd.block ?_
  refine Cd.seq ?_
  refine Cd.region ?_
  obtain ⟨x58, h59, H⟩ := bind_some H
  have g60 := lat_some h59
  refine Lst.run rfl rfl (by decide) (Ev.indexS (α := Pair) (xs := a1) rfl rfl Try.runUnderlying39 Try.sizeOf46 rfl (by decide) (hs_a1.mono (FLe.trans (FLe.trans hF16 hF40) hF57) (List.Sublist.cons _ (List.Sublist.cons _ (List.Sublist.cons _ (List.Sublist.cons _ hM))))) g60.1 g60.2.1) ?_
  refine Lst.run rfl rfl (by decide) (Ev.loadSA (α := Pair) rfl (hs_a1.mono (FLe.trans (FLe.trans hF16 hF40) hF57) (List.Sublist.cons _ (List.Sublist.cons _ (List.Sublist.cons _ (List.Sublist.cons _ hM))))) Try.isAgg46 Try.sizeOf46 (ch := enc x58) (Enc.len _) (by decide) ((Get.elemN (s := 2) (x := x58) rfl g60.2.2 (Get.here _)).off (by omega))) ?_
  refine Lst.alloc (cs := enc Pair.zero) rfl rfl (by decide) Try.zeroValue46 rfl (fun b61 => ?_)
  refine Lst.store (i := 0) rfl rfl rfl rfl rfl Try.sizeOf46 (vs := enc x58) rfl (Enc.len _) (Enc.one _) (cs' := enc x58) (Put.here ((Enc.len _).trans (Enc.len _).symm)) (L' := (.blk b61 (enc x58) 46) :: (.own s51 3 1 (encs l52)) :: (.rows (α := Bool) 4 rs54) :: (.own s6 44 1 (encs rs54)) :: (.own Sl.nil 44 1 (encs ([] : List (LR Bool)))) :: L) rfl ?_
  refine Lst.nil ?_
  refine At.then ?_
  refine Cd.seq ?_
  refine Cd.quiet (by kernel_rfl) (by kernel_rfl) ?_
  refine Qt.run rfl rfl (by decide) (Ev.fieldAddr (off' := 0) rfl Try.runUnderlying46 rfl Try.sizeOf3 rfl rfl) ?_
  refine Qt.run rfl rfl (by decide) (Ev.load (i := 0) rfl rfl Try.isAgg3 (v := .int .i64 x58.A) ((Pair.get_A (Get.here _)).off (by rfl))) ?_
  refine Qt.run rfl rfl (by decide) (Ev.move rfl) ?_
  refine Qt.run rfl rfl (by decide) (Ev.eql rfl rfl) ?_
  refine Qt.run rfl rfl (by decide) (Ev.move rfl) ?_
  obtain ⟨o63, H, HKo63⟩ := bind_some H
  refine Qt.join (σ := Bool) 10 (fun y64 => [(0, .int .i64 a0), (1, Sl.v s_a1), (5, Sl.v s6), (6, .int .i64 (i11 : Int)), (7, Sl.v s51), (8, .int .i64 x42), (10, .pointer (some ⟨b61, 0, none⟩)), (13, .int .i64 a0), (14, .int .i64 (i11 : Int)), (32, Sl.v s_a1), (33, .int .i64 (a1.length : Int)), (34, .int .i64 (i50 : Int)), (52, .bool y64)]) (fun y64 => y64 = o63) ?_ ?_
  · rcases (Bool.eq_false_or_eq_true (x58.A == x42)).symm with hb65 | hb65
    · replace H := ite_f hb65 H
      refine Qt.skip rfl rfl rfl hb65 rfl (by decide) ?_
      refine Qt.skip rfl rfl rfl hb65 rfl (by decide) ?_
      refine Qt.skip rfl rfl rfl hb65 rfl (by decide) ?_
      refine Qt.skip rfl rfl rfl hb65 rfl (by decide) ?_
      refine Qt.skip rfl rfl rfl hb65 rfl (by decide) ?_
      refine Qt.skip rfl rfl rfl hb65 rfl (by decide) ?_
      refine Qt.skip rfl rfl rfl hb65 rfl (by decide) ?_
      refine Qt.skip rfl rfl rfl hb65 rfl (by decide) ?_
      refine Qt.skip rfl rfl rfl hb65 rfl (by decide) ?_
      refine Qt.run rfl rfl (by decide) (Ev.pickF rfl hb65 rfl) ?_
      exact Qt.meet false ⟨rfl, rfl, rfl, rfl, rfl, rfl, rfl, rfl, rfl, rfl, rfl, rfl, rfl, trivial⟩ (some_inj H)
    replace H := ite_t hb65 H
    refine Qt.runG rfl rfl rfl hb65 rfl (by decide) (Ev.move rfl) ?_
    refine Qt.runG rfl rfl rfl hb65 rfl (by decide) (Ev.move rfl) ?_
    obtain ⟨x66, h67, H⟩ := bind_some H
    have g68 := lat_some h67
    obtain ⟨⟨r69v, r69h⟩, r69g, r69e, r69m⟩ := map_get fm55 g68.2.2
    obtain rfl : x66 = r69v := r69e.symm
    have hh70 := row_h r69g
    refine Qt.runG rfl rfl rfl hb65 rfl (by decide) (Ev.indexS (α := LR Bool) (xs := rs54) rfl rfl Try.runUnderlying42 Try.sizeOf44 rfl (by decide) (Rd.own (i := 3) rfl rfl rfl) g68.1 (by have := map_len fm55; omega)) ?_
    refine Qt.runG rfl rfl rfl hb65 rfl (by decide) (Ev.loadS (α := LR Bool) rfl (Rd.own (i := 3) rfl rfl rfl) Try.isAgg44 (v := Sl.v r69h) ((Get.elemN (s := 1) rfl r69g (Get.here _)).off (by omega))) ?_
    refine Qt.runG rfl rfl rfl hb65 rfl (by decide) (Ev.fieldAddr (off' := 1) rfl Try.runUnderlying46 rfl Try.sizeOf3 rfl rfl) ?_
    refine Qt.runG rfl rfl rfl hb65 rfl (by decide) (Ev.load (i := 0) rfl rfl Try.isAgg3 (v := .int .i64 x58.B) ((Pair.get_B (Get.here _)).off (by rfl))) ?_
    obtain ⟨x71, h72, H⟩ := bind_some H
    have g73 := lat_some h72
    refine Qt.runG rfl rfl rfl hb65 rfl (by decide) (Ev.indexS (α := Bool) (xs := x66) rfl rfl Try.runUnderlying44 Try.sizeOf4 rfl (by decide) (Rd.row (j := 2) rfl r69g) g73.1 g73.2.1) ?_
    refine Qt.runG rfl rfl rfl hb65 rfl (by decide) (Ev.loadS (α := Bool) rfl (Rd.row (j := 2) rfl r69g) Try.isAgg4 (v := .bool x71) ((Get.elemN (s := 1) (x := x71) rfl g73.2.2 (Get.here _)).off (by omega))) ?_
    refine Qt.runG rfl rfl rfl hb65 rfl (by decide) (Ev.not rfl) ?_
    refine Qt.run rfl rfl (by decide) (Ev.pickT rfl hb65 rfl) ?_
    exact Qt.meet (!x71) ⟨rfl, rfl, rfl, rfl, rfl, rfl, rfl, rfl, rfl, rfl, rfl, rfl, rfl, trivial⟩ (some_inj H)
  rintro y64 hy
  subst hy
  refine Qt.as (e' := [(0, .int .i64 a0), (1, Sl.v s_a1), (5, Sl.v s6), (6, .int .i64 (i11 : Int)), (7, Sl.v s51), (8, .int .i64 x42), (10, .pointer (some ⟨b61, 0, none⟩)), (13, .int .i64 a0), (14, .int .i64 (i11 : Int)), (32, Sl.v s_a1), (33, .int .i64 (a1.length : Int)), (34, .int .i64 (i50 : Int)), (52, .bool y64)]) ⟨rfl, rfl, rfl, rfl, rfl, rfl, rfl, rfl, rfl, rfl, rfl, rfl, rfl, trivial⟩ ?_
  replace H := HKo63
  refine Qt.done ?_
  refine At.then ?_
  rcases (Bool.eq_false_or_eq_true y64).symm with hb74 | hb74
  · replace H := ite_f hb74 H
    refine Cd.condF rfl hb74 ?_
    refine Cd.skip ?_
    refine At.in_normal ?_
    refine At.then ?_
    refine Cd.region ?_
    refine Lst.run rfl rfl (by decide) (Ev.incr (by omega) rfl rfl) ?_
    refine Lst.run rfl rfl (by decide) (Ev.move rfl) ?_
    refine Lst.nil ?_
    refine At.less (L' := (.own s51 3 1 (encs l52)) :: (.rows (α := Bool) 4 rs54) :: (.own s6 44 1 (encs rs54)) :: (.own Sl.nil 44 1 (encs ([] : List (LR Bool)))) :: L) (List.Sublist.cons _ (List.Sublist.cons_cons _ (List.Sublist.cons_cons _ (List.Sublist.cons_cons _ (List.Sublist.cons_cons _ (List.Sublist.refl _)))))) ?_
    exact At.meet (i50 + 1, k50, s51, l52, l53, rs54) hF57 ⟨rfl, rfl, rfl, rfl, rfl, rfl, rfl, rfl, rfl, rfl, rfl, trivial⟩ rfl ⟨⟨hgo50 _ (some_inj H).symm, by omega, fm55⟩, Nat.lt_succ_self _⟩
  replace H := ite_t hb74 H
  refine Cd.condT rfl hb74 ?_
  refine Cd.seq ?_
  refine Cd.tail 7 (by kernel_rfl) (by kernel_rfl) ?_
  refine Qt.run rfl rfl (by decide) (Ev.move rfl) ?_
  refine Qt.run rfl rfl (by decide) (Ev.move rfl) ?_
  obtain ⟨x75, h76, H⟩ := bind_some H
  have g77 := lat_some h76
  obtain ⟨⟨r78v, r78h⟩, r78g, r78e, r78m⟩ := map_get fm55 g77.2.2
  obtain rfl : x75 = r78v := r78e.symm
  have hh79 := row_h r78g
  refine Qt.run rfl rfl (by decide) (Ev.indexS (α := LR Bool) (xs := rs54) rfl rfl Try.runUnderlying42 Try.sizeOf44 rfl (by decide) (Rd.own (i := 3) rfl rfl rfl) g77.1 (by have := map_len fm55; omega)) ?_
  refine Qt.run rfl rfl (by decide) (Ev.loadS (α := LR Bool) rfl (Rd.own (i := 3) rfl rfl rfl) Try.isAgg44 (v := Sl.v r78h) ((Get.elemN (s := 1) rfl r78g (Get.here _)).off (by omega))) ?_
  refine Qt.run rfl rfl (by decide) (Ev.fieldAddr (off' := 1) rfl Try.runUnderlying46 rfl Try.sizeOf3 rfl rfl) ?_
  refine Qt.run rfl rfl (by decide) (Ev.load (i := 0) rfl rfl Try.isAgg3 (v := .int .i64 x58.B) ((Pair.get_B (Get.here _)).off (by rfl))) ?_
  obtain ⟨x80, h81, H⟩ := bind_some H
  have g82 := lat_some h81
  refine Qt.run rfl rfl (by decide) (Ev.indexS (α := Bool) (xs := x75) rfl rfl Try.runUnderlying44 Try.sizeOf4 rfl (by decide) (Rd.row (j := 2) rfl r78g) g82.1 g82.2.1) ?_
  refine Qt.tail ?_
  obtain ⟨p83, h84, H⟩ := Let_some H
  have hm85 : (rs54.set (i11 : Int).toNat (LR.mk (x75.set x58.B.toNat true) r78h)).map LR.v = p83 := (map_set fm55 _ _).trans h84
  refine Lst.front (i := 2) rfl (L' := (.rows (α := Bool) 4 rs54) :: (.blk b61 (enc x58) 46) :: (.own s51 3 1 (encs l52)) :: (.own s6 44 1 (encs rs54)) :: (.own Sl.nil 44 1 (encs ([] : List (LR Bool)))) :: L) rfl ?_
  refine Lst.storeR (α := Bool) rfl rfl rfl rfl r78g Try.sizeOf4 (vs := [.bool true]) rfl rfl (by decide) rfl (xs' := (x75.set x58.B.toNat true)) ((Put.elemN (s := 1) (x := x80) rfl g82.2.2 (Put.here (vs := [.bool true]) rfl)).off (by omega)) ?_
  refine Lst.its (L' := (.rows (α := Bool) 4 (rs54.set (i11 : Int).toNat (LR.mk (x75.set x58.B.toNat true) r78h))) :: (.blk b61 (enc x58) 46) :: (.own s51 3 1 (encs l52)) :: (.own s6 44 1 (encs (rs54.set (i11 : Int).toNat (LR.mk (x75.set x58.B.toNat true) r78h)))) :: (.own Sl.nil 44 1 (encs ([] : List (LR Bool)))) :: L) (by rw [show encs (rs54.set (i11 : Int).toNat (LR.mk (x75.set x58.B.toNat true) r78h)) = encs rs54 from encs_rowv r78g]) ?_
  refine Lst.nil ?_
  refine At.then ?_
  refine Cd.region ?_
  refine Lst.run rfl rfl (by decide) (Ev.move rfl) ?_
  refine Lst.run rfl rfl (by decide) (Ev.fieldAddr (off' := 1) rfl Try.runUnderlying46 rfl Try.sizeOf3 rfl rfl) ?_
  refine Lst.run rfl rfl (by decide) (Ev.load (i := 1) rfl rfl Try.isAgg3 (v := .int .i64 x58.B) ((Pair.get_B (Get.here _)).off (by rfl))) ?_
  refine Lst.buildSlice (α := Int) (xs := ([x58.B] : List Int)) (pv := [(0, .int .i64 x58.B)]) rfl rfl (by decide) ⟨rfl, rfl, trivial⟩ (run_buildSlice (α := Int) (z0 := (0 : Int)) (xs := ([x58.B] : List Int)) Try.runUnderlying36 Try.sizeOf3 Try.zeroValue3 rfl rfl rfl (by decide) rfl (fill_cons (cs := encs (List.replicate 1 (0 : Int))) (cs' := encs ((List.replicate 1 (0 : Int)).set 0 x58.B)) (vs := [.int .i64 x58.B]) rfl rfl rfl ((Put.elemN (s := 1) (i := 0) (x := (0 : Int)) (y := x58.B) rfl rfl (Put.here (vs := [.int .i64 x58.B]) rfl)).off rfl) fill_nil)) rfl rfl (by decide) (fun s87 _ => ?_)
  obtain ⟨u89, h90, H⟩ := bind_some H
  refine Lst.append (i := 3) (α := Int) (xs := l52) (ys := ([x58.B] : List Int)) rfl rfl (by decide) rfl rfl Try.runUnderlying36 Try.typeInfo3 rfl rfl rfl rfl rfl rfl (Rd.own (i := 0) rfl rfl rfl) rfl (room_some h90) rfl (fun s91 => ?_)
  refine Lst.its (L' := (.own s87 3 1 (encs ([x58.B] : List Int))) :: (.rows (α := Bool) 4 (rs54.set (i11 : Int).toNat (LR.mk (x75.set x58.B.toNat true) r78h))) :: (.blk b61 (enc x58) 46) :: (.own s91 3 1 (encs (l52 ++ ([x58.B] : List Int)))) :: (.own s6 44 1 (encs (rs54.set (i11 : Int).toNat (LR.mk (x75.set x58.B.toNat true) r78h)))) :: (.own Sl.nil 44 1 (encs ([] : List (LR Bool)))) :: L) rfl ?_
  refine Lst.run rfl rfl (by decide) (Ev.assign rfl) ?_
  refine Lst.nil ?_
  refine At.in_normal ?_
  refine At.then ?_
  refine Cd.as (e' := [(0, .int .i64 a0), (1, Sl.v s_a1), (5, Sl.v s6), (6, .int .i64 (i11 : Int)), (8, .int .i64 x42), (13, .int .i64 a0), (14, .int .i64 (i11 : Int)), (32, Sl.v s_a1), (33, .int .i64 (a1.length : Int)), (34, .int .i64 (i50 : Int)), (7, Sl.v s91)]) (L' := (.own s87 3 1 (encs ([x58.B] : List Int))) :: (.rows (α := Bool) 4 (rs54.set (i11 : Int).toNat (LR.mk (x75.set x58.B.toNat true) r78h))) :: (.blk b61 (enc x58) 46) :: (.own s91 3 1 (encs (l52 ++ ([x58.B] : List Int)))) :: (.own s6 44 1 (encs (rs54.set (i11 : Int).toNat (LR.mk (x75.set x58.B.toNat true) r78h)))) :: (.own Sl.nil 44 1 (encs ([] : List (LR Bool)))) :: L) ⟨rfl, rfl, rfl, rfl, rfl, rfl, rfl, rfl, rfl, rfl, rfl, trivial⟩ rfl ?_
  refine Cd.region ?_
  refine Lst.run rfl rfl (by decide) (Ev.incr (by omega) rfl rfl) ?_
  refine Lst.run rfl rfl (by decide) (Ev.move rfl) ?_
  refine Lst.nil ?_
  refine At.front (i := 5) rfl rfl ?_
  refine At.front (i := 5) rfl rfl ?_
  refine At.front (i := 3) rfl rfl ?_
  refine At.front (i := 5) rfl rfl ?_
  refine At.less (L' := (.own s91 3 1 (encs (l52 ++ ([x58.B] : List Int)))) :: (.rows (α := Bool) 4 (rs54.set (i11 : Int).toNat (LR.mk (x75.set x58.B.toNat true) r78h))) :: (.own s6 44 1 (encs (rs54.set (i11 : Int).toNat (LR.mk (x75.set x58.B.toNat true) r78h)))) :: (.own Sl.nil 44 1 (encs ([] : List (LR Bool)))) :: L) (List.Sublist.cons_cons _ (List.Sublist.cons_cons _ (List.Sublist.cons_cons _ (List.Sublist.cons_cons _ (List.Sublist.cons _ (List.Sublist.cons _ (List.Sublist.refl _))))))) ?_
  exact At.meet (i50 + 1, k50, s91, l52 ++ ([x58.B] : List Int), p83, (rs54.set (i11 : Int).toNat (LR.mk (x75.set x58.B.toNat true) r78h))) hF57 ⟨rfl, rfl, rfl, rfl, rfl, rfl, rfl, rfl, rfl, rfl, rfl, trivial⟩ rfl ⟨⟨hgo50 _ (some_inj H).symm, by omega, hm85⟩, Nat.lt_succ_self _⟩
set_option maxRecDepth 20000 in
theorem partref_Causes_sim {fu : Nat} {a0 : List Event} {s_a0 : Sl} {r : (List (List Bool))} (H : partref_Causes fu a0 = some r) (w0 : World) (F : Frz) (M L : List Item) (hM : M.Sublist L) (hs_a0 : Rd w0 F M s_a0 a0) : Ok Try.prog w0 23 [Sl.v s_a0] F (L) (fun Fx L' v => ∃ (s1 : Sl) (rs2 : List (LR Bool)), v = Sl.v s1 ∧ L' = (.rows (α := Bool) 4 rs2) :: (.own s1 44 1 (encs rs2)) :: L ∧ rs2.map LR.v = r) := by
  unfold partref_Causes at H
  refine Ok.enter (m := 1) (n := 60) Try.func23 rfl rfl rfl (by decide) ?_
  refine Cd.env (e' := [(0, Sl.v s_a0)]) rfl ?_
  refine Cd.seq ?_
  refine Cd.region ?_
  have ha2 : All LR.rel w0 F [] ([] : List (LR Bool)) := All.nil
  have ha2m : List.map LR.v ([] : List (LR Bool)) = ([] : List (List Bool)) := rfl
  refine Lst.addNil 44 1 ?_
  refine Lst.run rfl rfl (by decide) (Ev.assign rfl) ?_
  refine Lst.nil ?_
  refine At.then ?_
  refine Cd.seq ?_
  refine Cd.region ?_
  refine Lst.addNil 46 2 ?_
  refine Lst.run rfl rfl (by decide) (Ev.assign rfl) ?_
  refine Lst.nil ?_
  refine At.then ?_
  refine Cd.seq ?_
  refine Cd.seq ?_
  refine Cd.region ?_
  refine Lst.run rfl rfl (by decide) (Ev.move rfl) ?_
  refine Lst.run rfl rfl (by decide) (Ev.lenS (α := Event) (xs := a0) (by decide) rfl rfl Try.runUnderlying24 (hs_a0.mono (FLe.refl _) (List.Sublist.cons _ (List.Sublist.cons _ hM)))) ?_
  refine Lst.run rfl rfl (by decide) (Ev.move rfl) ?_
  refine Lst.nil ?_
  refine At.then ?_
  refine Cd.block ?_
  refine Cd.bound (Rd.le (α := Event) (xs := a0) (by decide) (hs_a0.mono (FLe.refl _) (List.Sublist.cons _ (List.Sublist.cons _ hM)))) (fun hN57 => ?_)
  obtain ⟨ol4, H, HKl4⟩ := bind_some H
  refine Cd.loop (σ := Nat × Nat × Sl × (List Pair)) (fun (i4, k4, s5, l6) => [(0, Sl.v s_a0), (3, Sl.v s5), (8, Sl.v s_a0), (9, .int .i64 (a0.length : Int)), (10, .int .i64 (i4 : Int))]) (fun (i4, k4, s5, l6) => (.own s5 46 2 (encs l6)) :: (.own Sl.nil 44 1 (encs ([] : List (LR Bool)))) :: L) (fun _ => (fun (i4, k4, s5, l6) => rangeF (partref_Causes_B0 fu a0) k4 i4 l6 = some ol4 ∧ i4 + k4 = a0.length)) (fun (i4, k4, s5, l6) => k4) (0, a0.length, Sl.nil, ([] : List Pair)) ⟨rfl, rfl, rfl, rfl, rfl, trivial⟩ rfl ⟨H, by omega⟩ ?_
  rintro F7 ⟨i4, k4, s5, l6⟩ hF8 ⟨H, hik4⟩
  refine Cd.as (e' := [(0, Sl.v s_a0), (3, Sl.v s5), (8, Sl.v s_a0), (9, .int .i64 (a0.length : Int)), (10, .int .i64 (i4 : Int))]) (L' := (.own s5 46 2 (encs l6)) :: (.own Sl.nil 44 1 (encs ([] : List (LR Bool)))) :: L) ⟨rfl, rfl, rfl, rfl, rfl, trivial⟩ rfl ?_
  rcases k4 with _ | k4
  · have hc4 : decide ((i4 : Int) < (a0.length : Int)) = false := decide_eq_false (by omega)
    replace H := rangeF_end H
    refine Cd.seq ?_
    refine Cd.region ?_
    refine Lst.run rfl rfl (by decide) (Ev.lss rfl rfl) ?_
    refine Lst.nil ?_
    refine At.then ?_
    refine Cd.seq ?_
    refine Cd.condF rfl hc4 ?_
    refine Cd.exit ?_
    refine At.then_exit ?_
    refine At.then_exit ?_
    refine At.in_exit ?_
    subst H
    replace H := HKl4
    refine At.then ?_
    refine Cd.seq ?_
    refine Cd.region ?_
    refine Lst.run rfl rfl (by decide) (Ev.move rfl) ?_
    refine Lst.run rfl rfl (by decide) (Ev.lenS (α := Event) (xs := a0) (by decide) rfl rfl Try.runUnderlying24 (hs_a0.mono hF8 (List.Sublist.cons _ (List.Sublist.cons _ hM)))) ?_
    refine Lst.run rfl rfl (by decide) (Ev.move rfl) ?_
    obtain ⟨r48, h49, H⟩ := bind_some H
    refine Lst.call rfl rfl (by decide) (vs := [.int .i64 (a0.length : Int), Sl.v s5]) ⟨rfl, rfl, trivial⟩ Try.call52 (partref_Closure_sim h49 w0 _ _ _ (List.Sublist.refl _) (Rd.own (i := 0) rfl rfl rfl)) (fun F55 L' v hF56 hv => ?_)
    obtain ⟨s50, rs51, rfl, rfl, fm52⟩ := hv
    refine Lst.run rfl rfl (by decide) (Ev.assign rfl) ?_
    refine Lst.nil ?_
    refine At.then ?_
    obtain rfl := some_inj H
    refine Cd.ret ?_
    exact At.ret1 rfl (Res.tmp rfl) (FLe.trans hF8 hF56) (List.Sublist.cons_cons _ (List.Sublist.cons_cons _ (List.Sublist.cons _ (List.Sublist.cons _ (List.Sublist.refl _))))) ⟨s50, rs51, rfl, rfl, fm52⟩
  have hc4 : decide ((i4 : Int) < (a0.length : Int)) = true := decide_eq_true (by omega)
  obtain ⟨c4, H, hgo4⟩ := rangeF_go H
  unfold partref_Causes_B0 at H
  try dsimp only at H
  refine Cd.seq ?_
  refine Cd.region ?_
  refine Lst.run rfl rfl (by decide) (Ev.lss rfl rfl) ?_
  refine Lst.nil ?_
  refine At.then ?_
  refine Cd.seq ?_
  refine Cd.condT rfl hc4 ?_
  refine Cd.skip ?_
  refine At.then ?_
  refine Cd.seq ?_
  refine Cd.block ?_
  refine Cd.seq ?_
  refine Cd.region ?_
  refine Lst.run rfl rfl (by decide) (Ev.move rfl) ?_
  obtain ⟨x9, h10, H⟩ := bind_some H
  have g11 := lat_some h10
  refine Lst.run rfl rfl (by decide) (Ev.indexS (α := Event) (xs := a0) rfl rfl Try.runUnderlying24 Try.sizeOf75 rfl (by decide) (hs_a0.mono hF8 (List.Sublist.cons _ (List.Sublist.cons _ hM))) g11.1 g11.2.1) ?_
  refine Lst.run rfl rfl (by decide) (Ev.loadSA (α := Event) rfl (hs_a0.mono hF8 (List.Sublist.cons _ (List.Sublist.cons _ hM))) Try.isAgg75 Try.sizeOf75 (ch := enc x9) (Enc.len _) (by decide) ((Get.elemN (s := 3) (x := x9) rfl g11.2.2 (Get.here _)).off (by omega))) ?_
  refine Lst.alloc (cs := enc Event.zero) rfl rfl (by decide) Try.zeroValue75 rfl (fun b12 => ?_)
  refine Lst.run rfl rfl (by decide) (Ev.assign rfl) ?_
  refine Lst.store (i := 0) rfl rfl rfl rfl rfl Try.sizeOf75 (vs := enc x9) rfl (Enc.len _) (Enc.one _) (cs' := enc x9) (Put.here ((Enc.len _).trans (Enc.len _).symm)) (L' := (.blk b12 (enc x9) 75) :: (.own s5 46 2 (encs l6)) :: (.own Sl.nil 44 1 (encs ([] : List (LR Bool)))) :: L) rfl ?_
  refine Lst.nil ?_
  refine At.then ?_
  refine Cd.seq ?_
  refine Cd.region ?_
  refine Lst.run rfl rfl (by decide) (Ev.move rfl) ?_
  refine Lst.run rfl rfl (by decide) (Ev.add rfl rfl) ?_
  refine Lst.run rfl rfl (by decide) (Ev.assign rfl) ?_
  refine Lst.nil ?_
  refine At.then ?_
  refine Cd.block ?_
  obtain ⟨ol14, H, HKl14⟩ := andThen_some H
  refine Cd.loop (σ := Nat × Int × Sl × (List Pair)) (fun (k14, y15, s16, l17) => [(0, Sl.v s_a0), (3, Sl.v s16), (4, .int .i64 (i4 : Int)), (5, .pointer (some ⟨b12, 0, none⟩)), (6, .int .i64 y15), (8, Sl.v s_a0), (9, .int .i64 (a0.length : Int)), (10, .int .i64 (i4 : Int))]) (fun (k14, y15, s16, l17) => (.blk b12 (enc x9) 75) :: (.own s16 46 2 (encs l17)) :: (.own Sl.nil 44 1 (encs ([] : List (LR Bool)))) :: L) (fun _ => (fun (k14, y15, s16, l17) => whileM (partref_Causes_B2 a0 i4 x9) k14 (y15, l17) = some ol14)) (fun (k14, y15, s16, l17) => k14) (fu, w64 ((i4 : Int) + (1 : Int)), s5, l6) ⟨rfl, rfl, rfl, rfl, rfl, rfl, rfl, rfl, trivial⟩ rfl H ?_
  rintro F18 ⟨k14, y15, s16, l17⟩ hF19 H
  refine Cd.as (e' := [(0, Sl.v s_a0), (3, Sl.v s16), (4, .int .i64 (i4 : Int)), (5, .pointer (some ⟨b12, 0, none⟩)), (6, .int .i64 y15), (8, Sl.v s_a0), (9, .int .i64 (a0.length : Int)), (10, .int .i64 (i4 : Int))]) (L' := (.blk b12 (enc x9) 75) :: (.own s16 46 2 (encs l17)) :: (.own Sl.nil 44 1 (encs ([] : List (LR Bool)))) :: L) ⟨rfl, rfl, rfl, rfl, rfl, rfl, rfl, rfl, trivial⟩ rfl ?_
  rcases k14 with _ | k14
  · cases H
  obtain ⟨c14, H, hgo14, hbrk14, hret14⟩ := whileM_go H
  unfold partref_Causes_B2 at H
  try dsimp only at H
  refine Cd.seq ?_
  refine Cd.seq ?_
  refine Cd.region ?_
  refine Lst.run rfl rfl (by decide) (Ev.move rfl) ?_
  refine Lst.run rfl rfl (by decide) (Ev.move rfl) ?_
  refine Lst.run rfl rfl (by decide) (Ev.lenS (α := Event) (xs := a0) (by decide) rfl rfl Try.runUnderlying24 (hs_a0.mono (FLe.trans hF8 hF19) (List.Sublist.cons _ (List.Sublist.cons _ (List.Sublist.cons _ hM))))) ?_
  refine Lst.run rfl rfl (by decide) (Ev.lss rfl rfl) ?_
  refine Lst.nil ?_
  refine At.then ?_
  rcases (Bool.eq_false_or_eq_true (decide (y15 < (a0.length : Int)))).symm with hb20 | hb20
  · replace H := ite_f hb20 H
    refine Cd.condF rfl hb20 ?_
    refine Cd.exit ?_
    refine At.then_exit ?_
    refine At.then_exit ?_
    refine At.in_exit ?_
    have H := hbrk14 _ (some_inj H).symm
    subst H
    replace H := HKl14
    refine At.in_normal ?_
    refine At.then ?_
    refine Cd.region ?_
    refine Lst.run rfl rfl (by decide) (Ev.incr (by omega) rfl rfl) ?_
    refine Lst.run rfl rfl (by decide) (Ev.move rfl) ?_
    refine Lst.nil ?_
    refine At.less (L' := (.own s16 46 2 (encs l17)) :: (.own Sl.nil 44 1 (encs ([] : List (LR Bool)))) :: L) (List.Sublist.cons _ (List.Sublist.cons_cons _ (List.Sublist.cons_cons _ (List.Sublist.refl _)))) ?_
    exact At.meet (i4 + 1, k4, s16, l17) (FLe.trans hF8 hF19) ⟨rfl, rfl, rfl, rfl, rfl, trivial⟩ rfl ⟨⟨hgo4 _ (some_inj H).symm, by omega⟩, Nat.lt_succ_self _⟩
  replace H := ite_t hb20 H
  refine Cd.condT rfl hb20 ?_
  refine Cd.skip ?_
  refine At.then ?_
  refine Cd.seq ?_
  refine Cd.block ?_
  refine Cd.seq ?_
  refine Cd.region ?_
  refine Lst.run rfl rfl (by decide) (Ev.move rfl) ?_
  refine Lst.run rfl rfl (by decide) (Ev.move rfl) ?_
  obtain ⟨x21, h22, H⟩ := bind_some H
  have g23 := lat_some h22
  refine Lst.run rfl rfl (by decide) (Ev.indexS (α := Event) (xs := a0) rfl rfl Try.runUnderlying24 Try.sizeOf75 rfl (by decide) (hs_a0.mono (FLe.trans hF8 hF19) (List.Sublist.cons _ (List.Sublist.cons _ (List.Sublist.cons _ hM)))) g23.1 g23.2.1) ?_
  refine Lst.run rfl rfl (by decide) (Ev.loadSA (α := Event) rfl (hs_a0.mono (FLe.trans hF8 hF19) (List.Sublist.cons _ (List.Sublist.cons _ (List.Sublist.cons _ hM)))) Try.isAgg75 Try.sizeOf75 (ch := enc x21) (Enc.len _) (by decide) ((Get.elemN (s := 3) (x := x21) rfl g23.2.2 (Get.here _)).off (by omega))) ?_
  refine Lst.alloc (cs := enc Event.zero) rfl rfl (by decide) Try.zeroValue75 rfl (fun b24 => ?_)
  refine Lst.store (i := 0) rfl rfl rfl rfl rfl Try.sizeOf75 (vs := enc x21) rfl (Enc.len _) (Enc.one _) (cs' := enc x21) (Put.here ((Enc.len _).trans (Enc.len _).symm)) (L' := (.blk b24 (enc x21) 75) :: (.blk b12 (enc x9) 75) :: (.own s16 46 2 (encs l17)) :: (.own Sl.nil 44 1 (encs ([] : List (LR Bool)))) :: L) rfl ?_
  refine Lst.nil ?_
  refine At.then ?_
  refine Cd.seq ?_
  refine Cd.region ?_
  refine Lst.run rfl rfl (by decide) (Ev.fieldAddr (off' := 0) rfl Try.runUnderlying75 rfl Try.sizeOf3 rfl rfl) ?_
  refine Lst.run rfl rfl (by decide) (Ev.load (i := 1) rfl rfl Try.isAgg3 (v := .int .i64 x9.Proc) ((Event.get_Proc (Get.here _)).off (by rfl))) ?_
  refine Lst.run rfl rfl (by decide) (Ev.fieldAddr (off' := 0) rfl Try.runUnderlying75 rfl Try.sizeOf3 rfl rfl) ?_
  refine Lst.run rfl rfl (by decide) (Ev.load (i := 0) rfl rfl Try.isAgg3 (v := .int .i64 x21.Proc) ((Event.get_Proc (Get.here _)).off (by rfl))) ?_
  refine Lst.run rfl rfl (by decide) (Ev.eql rfl rfl) ?_
  refine Lst.run rfl rfl (by decide) (Ev.move rfl) ?_
  rcases Bool.eq_false_or_eq_true (x9.Proc == x21.Proc) with hb26 | hb26
  · replace H := ite_t hb26 H
    refine Lst.skip rfl rfl rfl hb26 rfl (by decide) ?_
    refine Lst.skip rfl rfl rfl hb26 rfl (by decide) ?_
    refine Lst.skip rfl rfl rfl hb26 rfl (by decide) ?_
    refine Lst.skip rfl rfl rfl hb26 rfl (by decide) ?_
    refine Lst.skipU rfl rfl rfl rfl (by decide) ?_
    refine Lst.skipU rfl rfl rfl rfl (by decide) ?_
    refine Lst.skipU rfl rfl rfl rfl (by decide) ?_
    refine Lst.skip rfl rfl rfl hb26 rfl (by decide) ?_
    refine Lst.skip rfl rfl rfl hb26 rfl (by decide) ?_
    refine Lst.skipU rfl rfl rfl rfl (by decide) ?_
    refine Lst.skipU rfl rfl rfl rfl (by decide) ?_
    refine Lst.skipU rfl rfl rfl rfl (by decide) ?_
    refine Lst.skipU rfl rfl rfl rfl (by decide) ?_
    refine Lst.skipU rfl rfl rfl rfl (by decide) ?_
    refine Lst.skip rfl rfl rfl hb26 rfl (by decide) ?_
    refine Lst.run rfl rfl (by decide) (Ev.pickT rfl hb26 rfl) ?_
    refine Lst.nil ?_
    refine At.then ?_
    refine Cd.condT rfl rfl ?_
    refine Cd.as (e' := [(0, Sl.v s_a0), (3, Sl.v s16), (4, .int .i64 (i4 : Int)), (5, .pointer (some ⟨b12, 0, none⟩)), (6, .int .i64 y15), (8, Sl.v s_a0), (9, .int .i64 (a0.length : Int)), (10, .int .i64 (i4 : Int))]) (L' := (.blk b24 (enc x21) 75) :: (.blk b12 (enc x9) 75) :: (.own s16 46 2 (encs l17)) :: (.own Sl.nil 44 1 (encs ([] : List (LR Bool)))) :: L) ⟨rfl, rfl, rfl, rfl, rfl, rfl, rfl, rfl, trivial⟩ rfl ?_
    refine Cd.region ?_
    refine Lst.run rfl rfl (by decide) (Ev.move rfl) ?_
    refine Lst.run rfl rfl (by decide) (Ev.move rfl) ?_
    refine Lst.run rfl rfl (by decide) (Ev.move rfl) ?_
    refine Lst.run rfl rfl (by decide) (Ev.build (v := .agg (enc ({ Pair.zero with A := (i4 : Int), B := y15 } : Pair)).toArray) (pv := [(0, .int .i64 (i4 : Int)), (1, .int .i64 y15)]) ⟨rfl, rfl, ⟨rfl, rfl, trivial⟩⟩ (fun w => by kernel_rfl)) ?_
    refine Lst.buildSlice (α := Pair) (xs := ([({ Pair.zero with A := (i4 : Int), B := y15 } : Pair)] : List Pair)) (pv := [(0, .agg (enc ({ Pair.zero with A := (i4 : Int), B := y15 } : Pair)).toArray)]) rfl rfl (by decide) ⟨rfl, rfl, trivial⟩ (run_buildSlice (α := Pair) (z0 := Pair.zero) (xs := ([({ Pair.zero with A := (i4 : Int), B := y15 } : Pair)] : List Pair)) Try.runUnderlying39 Try.sizeOf46 Try.zeroValue46 rfl rfl rfl (by decide) rfl (fill_cons (cs := encs (List.replicate 1 Pair.zero)) (cs' := encs ((List.replicate 1 Pair.zero).set 0 ({ Pair.zero with A := (i4 : Int), B := y15 } : Pair))) (vs := enc ({ Pair.zero with A := (i4 : Int), B := y15 } : Pair)) rfl rfl (Enc.len _) ((Put.elemN (s := 2) (i := 0) (x := Pair.zero) (y := ({ Pair.zero with A := (i4 : Int), B := y15 } : Pair)) rfl rfl (Put.here ((Enc.len _).trans (Enc.len _).symm))).off rfl) fill_nil)) rfl rfl (by decide) (fun s27 _ => ?_)
    obtain ⟨u29, h30, H⟩ := bind_some H
    refine Lst.append (i := 3) (α := Pair) (xs := l17) (ys := ([({ Pair.zero with A := (i4 : Int), B := y15 } : Pair)] : List Pair)) rfl rfl (by decide) rfl rfl Try.runUnderlying39 Try.typeInfo46 rfl rfl rfl rfl rfl rfl (Rd.own (i := 0) rfl rfl rfl) rfl (room_some h30) rfl (fun s31 => ?_)
    refine Lst.its (L' := (.own s27 46 2 (encs ([({ Pair.zero with A := (i4 : Int), B := y15 } : Pair)] : List Pair))) :: (.blk b24 (enc x21) 75) :: (.blk b12 (enc x9) 75) :: (.own s31 46 2 (encs (l17 ++ ([({ Pair.zero with A := (i4 : Int), B := y15 } : Pair)] : List Pair)))) :: (.own Sl.nil 44 1 (encs ([] : List (LR Bool)))) :: L) rfl ?_
    refine Lst.run rfl rfl (by decide) (Ev.assign rfl) ?_
    refine Lst.nil ?_
    refine At.in_normal ?_
    refine At.then ?_
    refine Cd.region ?_
    refine Lst.run rfl rfl (by decide) (Ev.move rfl) ?_
    refine Lst.run rfl rfl (by decide) (Ev.add rfl rfl) ?_
    refine Lst.run rfl rfl (by decide) (Ev.assign rfl) ?_
    refine Lst.nil ?_
    refine At.less (L' := (.blk b12 (enc x9) 75) :: (.own s31 46 2 (encs (l17 ++ ([({ Pair.zero with A := (i4 : Int), B := y15 } : Pair)] : List Pair)))) :: (.own Sl.nil 44 1 (encs ([] : List (LR Bool)))) :: L) (List.Sublist.cons _ (List.Sublist.cons _ (List.Sublist.cons_cons _ (List.Sublist.cons_cons _ (List.Sublist.cons_cons _ (List.Sublist.refl _)))))) ?_
    exact At.meet (k14, w64 (y15 + (1 : Int)), s31, l17 ++ ([({ Pair.zero with A := (i4 : Int), B := y15 } : Pair)] : List Pair)) hF19 ⟨rfl, rfl, rfl, rfl, rfl, rfl, rfl, rfl, trivial⟩ rfl ⟨hgo14 _ (some_inj H).symm, Nat.lt_succ_self _⟩
  replace H := ite_f hb26 H
  refine Lst.runG rfl rfl rfl hb26 rfl (by decide) (Ev.fieldAddr (off' := 1) rfl Try.runUnderlying75 rfl Try.sizeOf3 rfl rfl) ?_
  refine Lst.runG rfl rfl rfl hb26 rfl (by decide) (Ev.load (i := 1) rfl rfl Try.isAgg3 (v := .int .i64 x9.Kind) ((Event.get_Kind (Get.here _)).off (by rfl))) ?_
  refine Lst.runG rfl rfl rfl hb26 rfl (by decide) (Ev.eql rfl rfl) ?_
  refine Lst.runG rfl rfl rfl hb26 rfl (by decide) (Ev.move rfl) ?_
  obtain ⟨o32, H, HKo32⟩ := bind_some H
  refine Lst.join (σ := Bool) 4 (fun y33 => [(0, Sl.v s_a0), (3, Sl.v s16), (4, .int .i64 (i4 : Int)), (5, .pointer (some ⟨b12, 0, none⟩)), (6, .int .i64 y15), (7, .pointer (some ⟨b24, 0, none⟩)), (8, Sl.v s_a0), (9, .int .i64 (a0.length : Int)), (10, .int .i64 (i4 : Int)), (32, .bool (x9.Proc == x21.Proc)), (40, .bool y33)]) (fun y33 => (.blk b24 (enc x21) 75) :: (.blk b12 (enc x9) 75) :: (.own s16 46 2 (encs l17)) :: (.own Sl.nil 44 1 (encs ([] : List (LR Bool)))) :: L) (fun _ y33 => y33 = o32) ?_ ?_
  · rcases (Bool.eq_false_or_eq_true (x9.Kind == (2 : Int))).symm with hb34 | hb34
    · replace H := ite_f hb34 H
      refine Lst.skip rfl rfl rfl hb34 rfl (by decide) ?_
      refine Lst.skip rfl rfl rfl hb34 rfl (by decide) ?_
      refine Lst.skip rfl rfl rfl hb34 rfl (by decide) ?_
      refine Lst.runG rfl rfl rfl hb26 rfl (by decide) (Ev.pickF rfl hb34 rfl) ?_
      refine Lst.nil ?_
      exact At.meet false (FLe.refl _) ⟨rfl, rfl, rfl, rfl, rfl, rfl, rfl, rfl, rfl, rfl, rfl, trivial⟩ rfl (some_inj H)
    replace H := ite_t hb34 H
    refine Lst.runG rfl rfl rfl hb34 rfl (by decide) (Ev.fieldAddr (off' := 1) rfl Try.runUnderlying75 rfl Try.sizeOf3 rfl rfl) ?_
    refine Lst.runG rfl rfl rfl hb34 rfl (by decide) (Ev.load (i := 0) rfl rfl Try.isAgg3 (v := .int .i64 x21.Kind) ((Event.get_Kind (Get.here _)).off (by rfl))) ?_
    refine Lst.runG rfl rfl rfl hb34 rfl (by decide) (Ev.eql rfl rfl) ?_
    refine Lst.runG rfl rfl rfl hb26 rfl (by decide) (Ev.pickT rfl hb34 rfl) ?_
    refine Lst.nil ?_
    exact At.meet (x21.Kind == (3 : Int)) (FLe.refl _) ⟨rfl, rfl, rfl, rfl, rfl, rfl, rfl, rfl, rfl, rfl, rfl, trivial⟩ rfl (some_inj H)
  rintro F35 y33 hF36 hy
  subst hy
  refine Lst.as (e' := [(0, Sl.v s_a0), (3, Sl.v s16), (4, .int .i64 (i4 : Int)), (5, .pointer (some ⟨b12, 0, none⟩)), (6, .int .i64 y15), (7, .pointer (some ⟨b24, 0, none⟩)), (8, Sl.v s_a0), (9, .int .i64 (a0.length : Int)), (10, .int .i64 (i4 : Int)), (32, .bool (x9.Proc == x21.Proc)), (40, .bool y33)]) (L' := (.blk b24 (enc x21) 75) :: (.blk b12 (enc x9) 75) :: (.own s16 46 2 (encs l17)) :: (.own Sl.nil 44 1 (encs ([] : List (LR Bool)))) :: L) ⟨rfl, rfl, rfl, rfl, rfl, rfl, rfl, rfl, rfl, rfl, rfl, trivial⟩ rfl ?_
  replace H := HKo32
  refine Lst.runG rfl rfl rfl hb26 rfl (by decide) (Ev.move rfl) ?_
  obtain ⟨o37, H, HKo37⟩ := bind_some H
  refine Lst.join (σ := Bool) 6 (fun y38 => [(0, Sl.v s_a0), (3, Sl.v s16), (4, .int .i64 (i4 : Int)), (5, .pointer (some ⟨b12, 0, none⟩)), (6, .int .i64 y15), (8, Sl.v s_a0), (9, .int .i64 (a0.length : Int)), (10, .int .i64 (i4 : Int)), (32, .bool (x9.Proc == x21.Proc)), (47, .bool y38)]) (fun y38 => (.blk b24 (enc x21) 75) :: (.blk b12 (enc x9) 75) :: (.own s16 46 2 (encs l17)) :: (.own Sl.nil 44 1 (encs ([] : List (LR Bool)))) :: L) (fun _ y38 => y38 = o37) ?_ ?_
  · rcases (Bool.eq_false_or_eq_true y33).symm with hb39 | hb39
    · replace H := ite_f hb39 H
      refine Lst.skip rfl rfl rfl hb39 rfl (by decide) ?_
      refine Lst.skip rfl rfl rfl hb39 rfl (by decide) ?_
      refine Lst.skip rfl rfl rfl hb39 rfl (by decide) ?_
      refine Lst.skip rfl rfl rfl hb39 rfl (by decide) ?_
      refine Lst.skip rfl rfl rfl hb39 rfl (by decide) ?_
      refine Lst.runG rfl rfl rfl hb26 rfl (by decide) (Ev.pickF rfl hb39 rfl) ?_
      refine Lst.nil ?_
      exact At.meet false (FLe.refl _) ⟨rfl, rfl, rfl, rfl, rfl, rfl, rfl, rfl, rfl, rfl, trivial⟩ rfl (some_inj H)
    replace H := ite_t hb39 H
    refine Lst.runG rfl rfl rfl hb39 rfl (by decide) (Ev.fieldAddr (off' := 2) rfl Try.runUnderlying75 rfl Try.sizeOf3 rfl rfl) ?_
    refine Lst.runG rfl rfl rfl hb39 rfl (by decide) (Ev.load (i := 1) rfl rfl Try.isAgg3 (v := .int .i64 x9.Msg) ((Event.get_Msg (Get.here _)).off (by rfl))) ?_
    refine Lst.runG rfl rfl rfl hb39 rfl (by decide) (Ev.fieldAddr (off' := 2) rfl Try.runUnderlying75 rfl Try.sizeOf3 rfl rfl) ?_
    refine Lst.runG rfl rfl rfl hb39 rfl (by decide) (Ev.load (i := 0) rfl rfl Try.isAgg3 (v := .int .i64 x21.Msg) ((Event.get_Msg (Get.here _)).off (by rfl))) ?_
    refine Lst.runG rfl rfl rfl hb39 rfl (by decide) (Ev.eql rfl rfl) ?_
    refine Lst.runG rfl rfl rfl hb26 rfl (by decide) (Ev.pickT rfl hb39 rfl) ?_
    refine Lst.nil ?_
    exact At.meet (x9.Msg == x21.Msg) (FLe.refl _) ⟨rfl, rfl, rfl, rfl, rfl, rfl, rfl, rfl, rfl, rfl, trivial⟩ rfl (some_inj H)
  rintro F40 y38 hF41 hy
  subst hy
  refine Lst.as (e' := [(0, Sl.v s_a0), (3, Sl.v s16), (4, .int .i64 (i4 : Int)), (5, .pointer (some ⟨b12, 0, none⟩)), (6, .int .i64 y15), (8, Sl.v s_a0), (9, .int .i64 (a0.length : Int)), (10, .int .i64 (i4 : Int)), (32, .bool (x9.Proc == x21.Proc)), (47, .bool y38)]) (L' := (.blk b24 (enc x21) 75) :: (.blk b12 (enc x9) 75) :: (.own s16 46 2 (encs l17)) :: (.own Sl.nil 44 1 (encs ([] : List (LR Bool)))) :: L) ⟨rfl, rfl, rfl, rfl, rfl, rfl, rfl, rfl, rfl, rfl, trivial⟩ rfl ?_
  replace H := HKo37
  refine Lst.run rfl rfl (by decide) (Ev.pickF rfl hb26 rfl) ?_
  refine Lst.nil ?_
  refine At.then ?_
  rcases (Bool.eq_false_or_eq_true y38).symm with hb42 | hb42
  · replace H := ite_f hb42 H
    refine Cd.condF rfl hb42 ?_
    refine Cd.skip ?_
    refine At.in_normal ?_
    refine At.then ?_
    refine Cd.region ?_
    refine Lst.run rfl rfl (by decide) (Ev.move rfl) ?_
    refine Lst.run rfl rfl (by decide) (Ev.add rfl rfl) ?_
    refine Lst.run rfl rfl (by decide) (Ev.assign rfl) ?_
    refine Lst.nil ?_
    refine At.less (L' := (.blk b12 (enc x9) 75) :: (.own s16 46 2 (encs l17)) :: (.own Sl.nil 44 1 (encs ([] : List (LR Bool)))) :: L) (List.Sublist.cons _ (List.Sublist.cons_cons _ (List.Sublist.cons_cons _ (List.Sublist.cons_cons _ (List.Sublist.refl _))))) ?_
    exact At.meet (k14, w64 (y15 + (1 : Int)), s16, l17) (FLe.trans (FLe.trans hF19 hF36) hF41) ⟨rfl, rfl, rfl, rfl, rfl, rfl, rfl, rfl, trivial⟩ rfl ⟨hgo14 _ (some_inj H).symm, Nat.lt_succ_self _⟩
  replace H := ite_t hb42 H
  refine Cd.condT rfl hb42 ?_
  refine Cd.region ?_
  refine Lst.run rfl rfl (by decide) (Ev.move rfl) ?_
  refine Lst.run rfl rfl (by decide) (Ev.move rfl) ?_
  refine Lst.run rfl rfl (by decide) (Ev.move rfl) ?_
  refine Lst.run rfl rfl (by decide) (Ev.build (v := .agg (enc ({ Pair.zero with A := (i4 : Int), B := y15 } : Pair)).toArray) (pv := [(0, .int .i64 (i4 : Int)), (1, .int .i64 y15)]) ⟨rfl, rfl, ⟨rfl, rfl, trivial⟩⟩ (fun w => by kernel_rfl)) ?_
  refine Lst.buildSlice (α := Pair) (xs := ([({ Pair.zero with A := (i4 : Int), B := y15 } : Pair)] : List Pair)) (pv := [(0, .agg (enc ({ Pair.zero with A := (i4 : Int), B := y15 } : Pair)).toArray)]) rfl rfl (by decide) ⟨rfl, rfl, trivial⟩ (run_buildSlice (α := Pair) (z0 := Pair.zero) (xs := ([({ Pair.zero with A := (i4 : Int), B := y15 } : Pair)] : List Pair)) Try.runUnderlying39 Try.sizeOf46 Try.zeroValue46 rfl rfl rfl (by decide) rfl (fill_cons (cs := encs (List.replicate 1 Pair.zero)) (cs' := encs ((List.replicate 1 Pair.zero).set 0 ({ Pair.zero with A := (i4 : Int), B := y15 } : Pair))) (vs := enc ({ Pair.zero with A := (i4 : Int), B := y15 } : Pair)) rfl rfl (Enc.len _) ((Put.elemN (s := 2) (i := 0) (x := Pair.zero) (y := ({ Pair.zero with A := (i4 : Int), B := y15 } : Pair)) rfl rfl (Put.here ((Enc.len _).trans (Enc.len _).symm))).off rfl) fill_nil)) rfl rfl (by decide) (fun s43 _ => ?_)
  obtain ⟨u45, h46, H⟩ := bind_some H
  refine Lst.append (i := 3) (α := Pair) (xs := l17) (ys := ([({ Pair.zero with A := (i4 : Int), B := y15 } : Pair)] : List Pair)) rfl rfl (by decide) rfl rfl Try.runUnderlying39 Try.typeInfo46 rfl rfl rfl rfl rfl rfl (Rd.own (i := 0) rfl rfl rfl) rfl (room_some h46) rfl (fun s47 => ?_)
  refine Lst.its (L' := (.own s43 46 2 (encs ([({ Pair.zero with A := (i4 : Int), B := y15 } : Pair)] : List Pair))) :: (.blk b24 (enc x21) 75) :: (.blk b12 (enc x9) 75) :: (.own s47 46 2 (encs (l17 ++ ([({ Pair.zero with A := (i4 : Int), B := y15 } : Pair)] : List Pair)))) :: (.own Sl.nil 44 1 (encs ([] : List (LR Bool)))) :: L) rfl ?_
  refine Lst.run rfl rfl (by decide) (Ev.assign rfl) ?_
  refine Lst.nil ?_
  refine At.in_normal ?_
  refine At.then ?_
  refine Cd.region ?_
  refine Lst.run rfl rfl (by decide) (Ev.move rfl) ?_
  refine Lst.run rfl rfl (by decide) (Ev.add rfl rfl) ?_
  refine Lst.run rfl rfl (by decide) (Ev.assign rfl) ?_
  refine Lst.nil ?_
  refine At.less (L' := (.blk b12 (enc x9) 75) :: (.own s47 46 2 (encs (l17 ++ ([({ Pair.zero with A := (i4 : Int), B := y15 } : Pair)] : List Pair)))) :: (.own Sl.nil 44 1 (encs ([] : List (LR Bool)))) :: L) (List.Sublist.cons _ (List.Sublist.cons _ (List.Sublist.cons_cons _ (List.Sublist.cons_cons _ (List.Sublist.cons_cons _ (List.Sublist.refl _)))))) ?_
  exact At.meet (k14, w64 (y15 + (1 : Int)), s47, l17 ++ ([({ Pair.zero with A := (i4 : Int), B := y15 } : Pair)] : List Pair)) (FLe.trans (FLe.trans hF19 hF36) hF41) ⟨rfl, rfl, rfl, rfl, rfl, rfl, rfl, rfl, trivial⟩ rfl ⟨hgo14 _ (some_inj H).symm, Nat.lt_succ_self _⟩
set_option maxRecDepth 20000 in
theorem slices_Clone_bool_bool_sim {a0 : List Bool} {s_a0 : Sl} {r : (List Bool)} (H : slices_Clone_bool_bool a0 = some r) (w0 : World) (F : Frz) (M L : List Item) (hM : M.Sublist L) (hs_a0 : Rd w0 F M s_a0 a0) : Ok Try.prog w0 59 [Sl.v s_a0] F (L) (fun _ L' v => ∃ (s1 : Sl), v = Sl.v s1 ∧ L' = (.own s1 4 1 (encs r)) :: L) := by
  unfold slices_Clone_bool_bool at H
  refine Ok.enter (m := 1) (n := 8) Try.func59 rfl rfl rfl (by decide) ?_
  refine Cd.env (e' := [(0, Sl.v s_a0)]) rfl ?_
  refine Cd.seq ?_
  refine Cd.region ?_
  refine Lst.addNil 4 1 ?_
  refine Lst.run rfl rfl (by decide) (Ev.assign rfl) ?_
  refine Lst.nil ?_
  refine At.then ?_
  refine Cd.seq ?_
  refine Cd.seq ?_
  refine Cd.region ?_
  refine Lst.run rfl rfl (by decide) (Ev.move rfl) ?_
  refine Lst.run rfl rfl (by decide) (Ev.eqlNil rfl Try.runUnderlying44) ?_
  refine Lst.nil ?_
  refine At.then ?_
  rcases Bool.eq_false_or_eq_true ((Sl.a s_a0).isNone) with hb2 | hb2
  · refine Cd.bound (Rd.isNil (α := Bool) (by decide) (hs_a0.mono (FLe.refl _) (List.Sublist.cons _ hM)) hb2) (fun hx9 => ?_)
    rw [clone_nil hx9] at H
    refine Cd.condT rfl hb2 ?_
    refine Cd.seq ?_
    refine Cd.region ?_
    refine Lst.addNil 4 1 ?_
    refine Lst.run rfl rfl (by decide) (Ev.assign rfl) ?_
    refine Lst.nil ?_
    refine At.then ?_
    obtain rfl := some_inj H
    refine Cd.ret ?_
    refine At.then_ret ?_
    exact At.ret1 rfl (Res.tmp rfl) (FLe.refl _) (List.Sublist.cons_cons _ (List.Sublist.cons _ (List.Sublist.refl _))) ⟨Sl.nil, rfl, rfl⟩
  refine Cd.condF rfl hb2 ?_
  refine Cd.skip ?_
  refine At.then ?_
  refine Cd.seq ?_
  refine Cd.region ?_
  refine Lst.buildSlice0 rfl rfl (by decide) Try.runUnderlying44 Try.sizeOf4 (fun s3 => ?_)
  refine Lst.its (L' := (.own s3 4 1 (encs ([] : List Bool))) :: (.own Sl.nil 4 1 (encs ([] : List Bool))) :: L) rfl ?_
  refine Lst.run rfl rfl (by decide) (Ev.move rfl) ?_
  obtain ⟨u5, h6, H⟩ := bind_some H
  refine Lst.append (i := 0) (α := Bool) (xs := ([] : List Bool)) (ys := a0) rfl rfl (by decide) rfl rfl Try.runUnderlying44 Try.typeInfo4 rfl rfl rfl rfl rfl rfl (hs_a0.mono (FLe.refl _) (List.Sublist.cons _ (List.Sublist.cons _ hM))) rfl (room_some h6) rfl (fun s7 => ?_)
  refine Lst.its (L' := (.own s7 4 1 (encs (([] : List Bool) ++ a0))) :: (.own Sl.nil 4 1 (encs ([] : List Bool))) :: L) rfl ?_
  refine Lst.run rfl rfl (by decide) (Ev.assign rfl) ?_
  refine Lst.nil ?_
  refine At.then ?_
  obtain rfl := some_inj H
  refine Cd.ret ?_
  exact At.ret1 rfl (Res.tmp rfl) (FLe.refl _) (List.Sublist.cons_cons _ (List.Sublist.cons _ (List.Sublist.refl _))) ⟨s7, rfl, rfl⟩
set_option maxRecDepth 20000 in
theorem partref_cutOf_sim {a0 : List Event} {a1 : List Bool} {s_a0 : Sl} {s_a1 : Sl} {r : (Vector Int 6)} (H : partref_cutOf a0 a1 = some r) (w0 : World) (F : Frz) (M L : List Item) (hM : M.Sublist L) (hs_a0 : Rd w0 F M s_a0 a0) (hs_a1 : Rd w0 F M s_a1 a1) : Ok Try.prog w0 60 [Sl.v s_a0, Sl.v s_a1] F (L) (Is (.agg (enc r).toArray) (L)) := by
  unfold partref_cutOf at H
  refine Ok.enter (m := 2) (n := 27) Try.func60 rfl rfl rfl (by decide) ?_
  refine Cd.env (e' := [(0, Sl.v s_a0), (1, Sl.v s_a1)]) rfl ?_
  refine Cd.seq ?_
  refine Cd.region ?_
  refine Lst.alloc (cs := enc (Vector.replicate 6 (0 : Int))) rfl rfl (by decide) Try.zeroValue23 rfl (fun b1 => ?_)
  refine Lst.nil ?_
  refine At.then ?_
  refine Cd.seq ?_
  refine Cd.region ?_
  refine Lst.alloc (cs := enc (Vector.replicate 6 (0 : Int))) rfl rfl (by decide) Try.zeroValue23 rfl (fun b3 => ?_)
  refine Lst.nil ?_
  refine At.then ?_
  refine Cd.seq ?_
  refine Cd.seq ?_
  refine Cd.region ?_
  refine Lst.run rfl rfl (by decide) (Ev.move rfl) ?_
  refine Lst.run rfl rfl (by decide) (Ev.lenS (α := Event) (xs := a0) (by decide) rfl rfl Try.runUnderlying24 (hs_a0.mono (FLe.refl _) (List.Sublist.cons _ (List.Sublist.cons _ hM)))) ?_
  refine Lst.run rfl rfl (by decide) (Ev.move rfl) ?_
  refine Lst.nil ?_
  refine At.then ?_
  refine Cd.block ?_
  refine Cd.bound (Rd.le (α := Event) (xs := a0) (by decide) (hs_a0.mono (FLe.refl _) (List.Sublist.cons _ (List.Sublist.cons _ hM)))) (fun hN26 => ?_)
  obtain ⟨ol5, H, HKl5⟩ := bind_some H
  refine Cd.loop (σ := Nat × Nat × (Vector Int 6)) (fun (i5, k5, y6) => [(1, Sl.v s_a1), (4, .pointer (some ⟨b1, 0, none⟩)), (5, .pointer (some ⟨b3, 0, none⟩)), (8, Sl.v s_a0), (9, .int .i64 (a0.length : Int)), (10, .int .i64 (i5 : Int))]) (fun (i5, k5, y6) => (.blk b3 (enc y6) 23) :: (.blk b1 (enc (Vector.replicate 6 (0 : Int))) 23) :: L) (fun _ => (fun (i5, k5, y6) => rangeF (partref_cutOf_B0 a0 a1) k5 i5 y6 = some ol5 ∧ i5 + k5 = a0.length)) (fun (i5, k5, y6) => k5) (0, a0.length, (Vector.replicate 6 (0 : Int))) ⟨rfl, rfl, rfl, rfl, rfl, rfl, trivial⟩ rfl ⟨H, by omega⟩ ?_
  rintro F7 ⟨i5, k5, y6⟩ hF8 ⟨H, hik5⟩
  refine Cd.as (e' := [(1, Sl.v s_a1), (4, .pointer (some ⟨b1, 0, none⟩)), (5, .pointer (some ⟨b3, 0, none⟩)), (8, Sl.v s_a0), (9, .int .i64 (a0.length : Int)), (10, .int .i64 (i5 : Int))]) (L' := (.blk b3 (enc y6) 23) :: (.blk b1 (enc (Vector.replicate 6 (0 : Int))) 23) :: L) ⟨rfl, rfl, rfl, rfl, rfl, rfl, trivial⟩ rfl ?_
  rcases k5 with _ | k5
  · have hc5 : decide ((i5 : Int) < (a0.length : Int)) = false := decide_eq_false (by omega)
    replace H := rangeF_end H
    refine Cd.seq ?_
    refine Cd.region ?_
    refine Lst.run rfl rfl (by decide) (Ev.lss rfl rfl) ?_
    refine Lst.nil ?_
    refine At.then ?_
    refine Cd.seq ?_
    refine Cd.condF rfl hc5 ?_
    refine Cd.exit ?_
    refine At.then_exit ?_
    refine At.then_exit ?_
    refine At.in_exit ?_
    subst H
    replace H := HKl5
    refine At.then ?_
    refine Cd.seq ?_
    refine Cd.region ?_
    refine Lst.run rfl rfl (by decide) (Ev.loadA (i := 0) rfl rfl Try.isAgg23 Try.sizeOf23 (ch := enc y6) (Enc.len _) (Get.here _)) ?_
    refine Lst.store (i := 1) rfl rfl rfl rfl rfl Try.sizeOf23 (vs := enc y6) rfl (Enc.len _) (Enc.one _) (cs' := enc y6) (Put.here ((Enc.len _).trans (Enc.len _).symm)) (L' := (.blk b3 (enc y6) 23) :: (.blk b1 (enc y6) 23) :: L) rfl ?_
    refine Lst.nil ?_
    refine At.then ?_
    obtain rfl := some_inj H
    refine Cd.ret ?_
    exact At.ret1 rfl (Res.cellA (i := 1) rfl rfl Try.isAgg23 Try.sizeOf23 (Enc.len _)) hF8 (List.Sublist.cons _ (List.Sublist.cons _ (List.Sublist.refl _))) ⟨rfl, rfl⟩
  have hc5 : decide ((i5 : Int) < (a0.length : Int)) = true := decide_eq_true (by omega)
  obtain ⟨c5, H, hgo5⟩ := rangeF_go H
  unfold partref_cutOf_B0 at H
  try dsimp only at H
  refine Cd.seq ?_
  refine Cd.region ?_
  refine Lst.run rfl rfl (by decide) (Ev.lss rfl rfl) ?_
  refine Lst.nil ?_
  refine At.then ?_
  refine Cd.seq ?_
  refine Cd.condT rfl hc5 ?_
  refine Cd.skip ?_
  refine At.then ?_
  refine Cd.seq ?_
  refine Cd.block ?_
  refine Cd.seq ?_
  refine Cd.region ?_
  refine Lst.run rfl rfl (by decide) (Ev.move rfl) ?_
  obtain ⟨x9, h10, H⟩ := bind_some H
  have g11 := lat_some h10
  refine Lst.run rfl rfl (by decide) (Ev.indexS (α := Event) (xs := a0) rfl rfl Try.runUnderlying24 Try.sizeOf75 rfl (by decide) (hs_a0.mono hF8 (List.Sublist.cons _ (List.Sublist.cons _ hM))) g11.1 g11.2.1) ?_
  refine Lst.run rfl rfl (by decide) (Ev.loadSA (α := Event) rfl (hs_a0.mono hF8 (List.Sublist.cons _ (List.Sublist.cons _ hM))) Try.isAgg75 Try.sizeOf75 (ch := enc x9) (Enc.len _) (by decide) ((Get.elemN (s := 3) (x := x9) rfl g11.2.2 (Get.here _)).off (by omega))) ?_
  refine Lst.alloc (cs := enc Event.zero) rfl rfl (by decide) Try.zeroValue75 rfl (fun b12 => ?_)
  refine Lst.run rfl rfl (by decide) (Ev.assign rfl) ?_
  refine Lst.store (i := 0) rfl rfl rfl rfl rfl Try.sizeOf75 (vs := enc x9) rfl (Enc.len _) (Enc.one _) (cs' := enc x9) (Put.here ((Enc.len _).trans (Enc.len _).symm)) (L' := (.blk b12 (enc x9) 75) :: (.blk b3 (enc y6) 23) :: (.blk b1 (enc (Vector.replicate 6 (0 : Int))) 23) :: L) rfl ?_
  refine Lst.nil ?_
  refine At.then ?_
  refine Cd.seq ?_
  refine Cd.region ?_
  refine Lst.run rfl rfl (by decide) (Ev.move rfl) ?_
  refine Lst.run rfl rfl (by decide) (Ev.move rfl) ?_
  obtain ⟨x14, h15, H⟩ := bind_some H
  have g16 := lat_some h15
  refine Lst.run rfl rfl (by decide) (Ev.indexS (α := Bool) (xs := a1) rfl rfl Try.runUnderlying44 Try.sizeOf4 rfl (by decide) (hs_a1.mono hF8 (List.Sublist.cons _ (List.Sublist.cons _ (List.Sublist.cons _ hM)))) g16.1 g16.2.1) ?_
  refine Lst.run rfl rfl (by decide) (Ev.loadS (α := Bool) rfl (hs_a1.mono hF8 (List.Sublist.cons _ (List.Sublist.cons _ (List.Sublist.cons _ hM)))) Try.isAgg4 (v := .bool x14) ((Get.elemN (s := 1) (x := x14) rfl g16.2.2 (Get.here _)).off (by omega))) ?_
  refine Lst.nil ?_
  refine At.then ?_
  rcases (Bool.eq_false_or_eq_true x14).symm with hb17 | hb17
  · replace H := ite_f hb17 H
    refine Cd.condF rfl hb17 ?_
    refine Cd.skip ?_
    refine At.in_normal ?_
    refine At.then ?_
    refine Cd.region ?_
    refine Lst.run rfl rfl (by decide) (Ev.incr (by omega) rfl rfl) ?_
    refine Lst.run rfl rfl (by decide) (Ev.move rfl) ?_
    refine Lst.nil ?_
    refine At.less (L' := (.blk b3 (enc y6) 23) :: (.blk b1 (enc (Vector.replicate 6 (0 : Int))) 23) :: L) (List.Sublist.cons _ (List.Sublist.cons_cons _ (List.Sublist.cons_cons _ (List.Sublist.refl _)))) ?_
    exact At.meet (i5 + 1, k5, y6) hF8 ⟨rfl, rfl, rfl, rfl, rfl, rfl, trivial⟩ rfl ⟨⟨hgo5 _ (some_inj H).symm, by omega⟩, Nat.lt_succ_self _⟩
  replace H := ite_t hb17 H
  refine Cd.condT rfl hb17 ?_
  refine Cd.region ?_
  refine Lst.run rfl rfl (by decide) (Ev.fieldAddr (off' := 0) rfl Try.runUnderlying75 rfl Try.sizeOf3 rfl rfl) ?_
  refine Lst.run rfl rfl (by decide) (Ev.load (i := 0) rfl rfl Try.isAgg3 (v := .int .i64 x9.Proc) ((Event.get_Proc (Get.here _)).off (by rfl))) ?_
  obtain ⟨x18, h19, H⟩ := bind_some H
  have g20 := vat_some h19
  refine Lst.run rfl rfl (by decide) (Ev.indexAddr (off' := 0 + x9.Proc.toNat * 1) rfl rfl Try.runUnderlying23 Try.sizeOf3 g20.1 g20.2.1 rfl) ?_
  refine Lst.run rfl rfl (by decide) (Ev.load (i := 1) rfl rfl Try.isAgg3 (v := .int .i64 x18) ((Get.vecN (s := 1) (x := x18) rfl g20.2.2 (Get.here _)).off (by omega))) ?_
  refine Lst.run rfl rfl (by decide) (Ev.add rfl rfl) ?_
  obtain ⟨x21, h22, H⟩ := bind_some H
  have g23 := vat_some h22
  refine Lst.run rfl rfl (by decide) (Ev.indexAddr (off' := 0 + x9.Proc.toNat * 1) rfl rfl Try.runUnderlying23 Try.sizeOf3 g23.1 g23.2.1 rfl) ?_
  obtain ⟨p24, h25, H⟩ := Let_some H
  refine Lst.store (i := 1) rfl rfl rfl rfl rfl Try.sizeOf3 (vs := [.int .i64 (w64 (x18 + (1 : Int)))]) rfl rfl rfl (cs' := enc p24) (by rw [← h25]; exact (Put.vecN (s := 1) (x := x21) rfl g23.2.2 (Put.here (vs := [.int .i64 (w64 (x18 + (1 : Int)))]) rfl)).off (by omega)) (L' := (.blk b12 (enc x9) 75) :: (.blk b3 (enc p24) 23) :: (.blk b1 (enc (Vector.replicate 6 (0 : Int))) 23) :: L) rfl ?_
  refine Lst.nil ?_
  refine At.in_normal ?_
  refine At.then ?_
  refine Cd.as (e' := [(1, Sl.v s_a1), (4, .pointer (some ⟨b1, 0, none⟩)), (5, .pointer (some ⟨b3, 0, none⟩)), (8, Sl.v s_a0), (9, .int .i64 (a0.length : Int)), (10, .int .i64 (i5 : Int))]) (L' := (.blk b12 (enc x9) 75) :: (.blk b3 (enc p24) 23) :: (.blk b1 (enc (Vector.replicate 6 (0 : Int))) 23) :: L) ⟨rfl, rfl, rfl, rfl, rfl, rfl, trivial⟩ rfl ?_
  refine Cd.region ?_
  refine Lst.run rfl rfl (by decide) (Ev.incr (by omega) rfl rfl) ?_
  refine Lst.run rfl rfl (by decide) (Ev.move rfl) ?_
  refine Lst.nil ?_
  refine At.less (L' := (.blk b3 (enc p24) 23) :: (.blk b1 (enc (Vector.replicate 6 (0 : Int))) 23) :: L) (List.Sublist.cons _ (List.Sublist.cons_cons _ (List.Sublist.cons_cons _ (List.Sublist.refl _)))) ?_
  exact At.meet (i5 + 1, k5, p24) hF8 ⟨rfl, rfl, rfl, rfl, rfl, rfl, trivial⟩ rfl ⟨⟨hgo5 _ (some_inj H).symm, by omega⟩, Nat.lt_succ_self _⟩
set_option maxRecDepth 20000 in
theorem partref_Grow_sim {fu : Nat} {a0 : List Event} {a1 : Vector Int 6} {s_a0 : Sl} {r : (Vector Int 6)} (H : partref_Grow fu a0 a1 = some r) (w0 : World) (F : Frz) (M L : List Item) (hM : M.Sublist L) (hs_a0 : Rd w0 F M s_a0 a0) : Ok Try.prog w0 33 [Sl.v s_a0, .agg (enc a1).toArray] F (L) (Is (.agg (enc r).toArray) (L)) := by
  unfold partref_Grow at H
  refine Ok.enter (m := 2) (n := 54) Try.func33 rfl rfl rfl (by decide) ?_
  refine Cd.env (e' := [(0, Sl.v s_a0), (1, .agg (enc a1).toArray)]) rfl ?_
  refine Cd.seq ?_
  refine Cd.region ?_
  refine Lst.box rfl rfl (by decide) rfl (cs := enc a1) rfl (fun b1 => ?_)
  refine Lst.alloc (cs := enc (Vector.replicate 6 (0 : Int))) rfl rfl (by decide) Try.zeroValue23 rfl (fun b3 => ?_)
  refine Lst.nil ?_
  refine At.then ?_
  refine Cd.seq ?_
  refine Cd.region ?_
  refine Lst.run rfl rfl (by decide) (Ev.move rfl) ?_
  refine Lst.run rfl rfl (by decide) (Ev.loadA (i := 1) rfl rfl Try.isAgg23 Try.sizeOf23 (ch := enc a1) (Enc.len _) (Get.here _)) ?_
  obtain ⟨r5, h6, H⟩ := bind_some H
  refine Lst.call rfl rfl (by decide) (vs := [Sl.v s_a0, .agg (enc a1).toArray]) ⟨rfl, rfl, trivial⟩ Try.call58 (partref_inCut_sim h6 w0 _ M _ (List.Sublist.cons _ (List.Sublist.cons _ hM)) (hs_a0.mono (FLe.refl _) (List.Sublist.refl _))) (fun F9 L' v hF10 hv => ?_)
  obtain ⟨s7, rfl, rfl⟩ := hv
  refine Lst.run rfl rfl (by decide) (Ev.move rfl) ?_
  obtain ⟨r11, h12, H⟩ := bind_some H
  refine Lst.call rfl rfl (by decide) (vs := [Sl.v s_a0]) ⟨rfl, trivial⟩ Try.call23 (partref_Causes_sim h12 w0 _ M _ (List.Sublist.cons _ (List.Sublist.cons _ (List.Sublist.cons _ hM))) (hs_a0.mono hF10 (List.Sublist.refl _))) (fun F18 L' v hF19 hv => ?_)
  obtain ⟨s13, rs14, rfl, rfl, fm15⟩ := hv
  refine Lst.run rfl rfl (by decide) (Ev.assign rfl) ?_
  refine Lst.run rfl rfl (by decide) (Ev.assign rfl) ?_
  refine Lst.nil ?_
  refine At.then ?_
  refine Cd.seq ?_
  refine Cd.region ?_
  refine Lst.run rfl rfl (by decide) (Ev.move rfl) ?_
  obtain ⟨r20, h21, H⟩ := bind_some H
  refine Lst.call rfl rfl (by decide) (vs := [Sl.v s7]) ⟨rfl, trivial⟩ Try.call59 (slices_Clone_bool_bool_sim h21 w0 _ _ _ (List.Sublist.refl _) (Rd.own (i := 2) rfl rfl rfl)) (fun F24 L' v hF25 hv => ?_)
  obtain ⟨s22, rfl, rfl⟩ := hv
  refine Lst.run rfl rfl (by decide) (Ev.assign rfl) ?_
  refine Lst.nil ?_
  refine At.then ?_
  refine Cd.seq ?_
  refine Cd.seq ?_
  refine Cd.region ?_
  refine Lst.run rfl rfl (by decide) (Ev.move rfl) ?_
  refine Lst.run rfl rfl (by decide) (Ev.lenS (α := Event) (xs := a0) (by decide) rfl rfl Try.runUnderlying24 (hs_a0.mono (FLe.trans (FLe.trans hF10 hF19) hF25) (List.Sublist.cons _ (List.Sublist.cons _ (List.Sublist.cons _ (List.Sublist.cons _ (List.Sublist.cons _ (List.Sublist.cons _ hM)))))))) ?_
  refine Lst.run rfl rfl (by decide) (Ev.move rfl) ?_
  refine Lst.nil ?_
  refine At.then ?_
  refine Cd.block ?_
  refine Cd.bound (Rd.le (α := Event) (xs := a0) (by decide) (hs_a0.mono (FLe.trans (FLe.trans hF10 hF19) hF25) (List.Sublist.cons _ (List.Sublist.cons _ (List.Sublist.cons _ (List.Sublist.cons _ (List.Sublist.cons _ (List.Sublist.cons _ hM)))))))) (fun hN69 => ?_)
  obtain ⟨ol26, H, HKl26⟩ := bind_some H
  refine Cd.loop (σ := Nat × Nat × (List Bool)) (fun (i26, k26, l27) => [(0, Sl.v s_a0), (4, .pointer (some ⟨b3, 0, none⟩)), (5, Sl.v s7), (6, Sl.v s13), (7, Sl.v s22), (18, .int .i64 (a0.length : Int)), (19, .int .i64 (i26 : Int))]) (fun (i26, k26, l27) => (.own s22 4 1 (encs l27)) :: (.rows (α := Bool) 4 rs14) :: (.own s13 44 1 (encs rs14)) :: (.own s7 4 1 (encs r5)) :: (.blk b3 (enc (Vector.replicate 6 (0 : Int))) 23) :: (.blk b1 (enc a1) 23) :: L) (fun _ => (fun (i26, k26, l27) => rangeF (partref_Grow_B0 a0 r5 r11) k26 i26 l27 = some ol26 ∧ i26 + k26 = a0.length)) (fun (i26, k26, l27) => k26) (0, a0.length, r20) ⟨rfl, rfl, rfl, rfl, rfl, rfl, rfl, trivial⟩ rfl ⟨H, by omega⟩ ?_
  rintro F28 ⟨i26, k26, l27⟩ hF29 ⟨H, hik26⟩
  refine Cd.as (e' := [(0, Sl.v s_a0), (4, .pointer (some ⟨b3, 0, none⟩)), (5, Sl.v s7), (6, Sl.v s13), (7, Sl.v s22), (18, .int .i64 (a0.length : Int)), (19, .int .i64 (i26 : Int))]) (L' := (.own s22 4 1 (encs l27)) :: (.rows (α := Bool) 4 rs14) :: (.own s13 44 1 (encs rs14)) :: (.own s7 4 1 (encs r5)) :: (.blk b3 (enc (Vector.replicate 6 (0 : Int))) 23) :: (.blk b1 (enc a1) 23) :: L) ⟨rfl, rfl, rfl, rfl, rfl, rfl, rfl, trivial⟩ rfl ?_
  rcases k26 with _ | k26
  · have hc26 : decide ((i26 : Int) < (a0.length : Int)) = false := decide_eq_false (by omega)
    replace H := rangeF_end H
    refine Cd.seq ?_
    refine Cd.region ?_
    refine Lst.run rfl rfl (by decide) (Ev.lss rfl rfl) ?_
    refine Lst.nil ?_
    refine At.then ?_
    refine Cd.seq ?_
    refine Cd.condF rfl hc26 ?_
    refine Cd.exit ?_
    refine At.then_exit ?_
    refine At.then_exit ?_
    refine At.in_exit ?_
    subst H
    replace H := HKl26
    refine At.then ?_
    refine Cd.seq ?_
    refine Cd.region ?_
    refine Lst.run rfl rfl (by decide) (Ev.move rfl) ?_
    refine Lst.run rfl rfl (by decide) (Ev.move rfl) ?_
    obtain ⟨r65, h66, H⟩ := bind_some H
    refine Lst.call1 rfl rfl (by decide) (vs := [Sl.v s_a0, Sl.v s22]) ⟨rfl, rfl, trivial⟩ Try.call60 (partref_cutOf_sim h66 w0 _ _ _ (List.Sublist.refl _) (hs_a0.mono (FLe.trans (FLe.trans (FLe.trans hF10 hF19) hF25) hF29) (List.Sublist.cons _ (List.Sublist.cons _ (List.Sublist.cons _ (List.Sublist.cons _ (List.Sublist.cons _ (List.Sublist.cons _ hM))))))) (Rd.own (i := 0) rfl rfl rfl)) ?_
    refine Lst.store (i := 4) rfl rfl rfl rfl rfl Try.sizeOf23 (vs := enc r65) rfl (Enc.len _) (Enc.one _) (cs' := enc r65) (Put.here ((Enc.len _).trans (Enc.len _).symm)) (L' := (.own s22 4 1 (encs l27)) :: (.rows (α := Bool) 4 rs14) :: (.own s13 44 1 (encs rs14)) :: (.own s7 4 1 (encs r5)) :: (.blk b3 (enc r65) 23) :: (.blk b1 (enc a1) 23) :: L) rfl ?_
    refine Lst.nil ?_
    refine At.then ?_
    obtain rfl := some_inj H
    refine Cd.ret ?_
    exact At.ret1 rfl (Res.cellA (i := 4) rfl rfl Try.isAgg23 Try.sizeOf23 (Enc.len _)) (FLe.trans (FLe.trans (FLe.trans hF10 hF19) hF25) hF29) (List.Sublist.cons _ (List.Sublist.cons _ (List.Sublist.cons _ (List.Sublist.cons _ (List.Sublist.cons _ (List.Sublist.cons _ (List.Sublist.refl _))))))) ⟨rfl, rfl⟩
  have hc26 : decide ((i26 : Int) < (a0.length : Int)) = true := decide_eq_true (by omega)
  obtain ⟨c26, H, hgo26⟩ := rangeF_go H
  unfold partref_Grow_B0 at H
  try dsimp only at H
  refine Cd.seq ?_
  refine Cd.region ?_
  refine Lst.run rfl rfl (by decide) (Ev.lss rfl rfl) ?_
  refine Lst.nil ?_
  refine At.then ?_
  refine Cd.seq ?_
  refine Cd.condT rfl hc26 ?_
  refine Cd.skip ?_
  refine At.then ?_
  refine Cd.seq ?_
  refine Cd.block ?_
  refine Cd.seq ?_
  refine Cd.region ?_
  refine Lst.run rfl rfl (by decide) (Ev.move rfl) ?_
  refine Lst.run rfl rfl (by decide) (Ev.assign rfl) ?_
  refine Lst.nil ?_
  refine At.then ?_
  refine Cd.seq ?_
  refine Cd.region ?_
  refine Lst.run rfl rfl (by decide) (Ev.move rfl) ?_
  refine Lst.run rfl rfl (by decide) (Ev.lenS (α := Event) (xs := a0) (by decide) rfl rfl Try.runUnderlying24 (hs_a0.mono (FLe.trans (FLe.trans (FLe.trans hF10 hF19) hF25) hF29) (List.Sublist.cons _ (List.Sublist.cons _ (List.Sublist.cons _ (List.Sublist.cons _ (List.Sublist.cons _ (List.Sublist.cons _ hM)))))))) ?_
  refine Lst.run rfl rfl (by decide) (Ev.move rfl) ?_
  refine Lst.nil ?_
  refine At.then ?_
  refine Cd.block ?_
  refine Cd.bound (Rd.le (α := Event) (xs := a0) (by decide) (hs_a0.mono (FLe.trans (FLe.trans (FLe.trans hF10 hF19) hF25) hF29) (List.Sublist.cons _ (List.Sublist.cons _ (List.Sublist.cons _ (List.Sublist.cons _ (List.Sublist.cons _ (List.Sublist.cons _ hM)))))))) (fun hN64 => ?_)
  obtain ⟨ol30, H, HKl30⟩ := bind_some H
  refine Cd.loop (σ := Nat × Nat × (List Bool)) (fun (i30, k30, l31) => [(0, Sl.v s_a0), (4, .pointer (some ⟨b3, 0, none⟩)), (5, Sl.v s7), (6, Sl.v s13), (7, Sl.v s22), (8, .int .i64 (i26 : Int)), (18, .int .i64 (a0.length : Int)), (19, .int .i64 (i26 : Int)), (23, .int .i64 (a0.length : Int)), (24, .int .i64 (i30 : Int))]) (fun (i30, k30, l31) => (.own s22 4 1 (encs l31)) :: (.rows (α := Bool) 4 rs14) :: (.own s13 44 1 (encs rs14)) :: (.own s7 4 1 (encs r5)) :: (.blk b3 (enc (Vector.replicate 6 (0 : Int))) 23) :: (.blk b1 (enc a1) 23) :: L) (fun _ => (fun (i30, k30, l31) => rangeF (partref_Grow_B2 r5 r11 i26) k30 i30 l31 = some ol30 ∧ i30 + k30 = a0.length)) (fun (i30, k30, l31) => k30) (0, a0.length, l27) ⟨rfl, rfl, rfl, rfl, rfl, rfl, rfl, rfl, rfl, rfl, trivial⟩ rfl ⟨H, by omega⟩ ?_
  rintro F32 ⟨i30, k30, l31⟩ hF33 ⟨H, hik30⟩
  refine Cd.as (e' := [(0, Sl.v s_a0), (4, .pointer (some ⟨b3, 0, none⟩)), (5, Sl.v s7), (6, Sl.v s13), (7, Sl.v s22), (8, .int .i64 (i26 : Int)), (18, .int .i64 (a0.length : Int)), (19, .int .i64 (i26 : Int)), (23, .int .i64 (a0.length : Int)), (24, .int .i64 (i30 : Int))]) (L' := (.own s22 4 1 (encs l31)) :: (.rows (α := Bool) 4 rs14) :: (.own s13 44 1 (encs rs14)) :: (.own s7 4 1 (encs r5)) :: (.blk b3 (enc (Vector.replicate 6 (0 : Int))) 23) :: (.blk b1 (enc a1) 23) :: L) ⟨rfl, rfl, rfl, rfl, rfl, rfl, rfl, rfl, rfl, rfl, trivial⟩ rfl ?_
  rcases k30 with _ | k30
  · have hc30 : decide ((i30 : Int) < (a0.length : Int)) = false := decide_eq_false (by omega)
    replace H := rangeF_end H
    refine Cd.seq ?_
    refine Cd.region ?_
    refine Lst.run rfl rfl (by decide) (Ev.lss rfl rfl) ?_
    refine Lst.nil ?_
    refine At.then ?_
    refine Cd.seq ?_
    refine Cd.condF rfl hc30 ?_
    refine Cd.exit ?_
    refine At.then_exit ?_
    refine At.then_exit ?_
    refine At.in_exit ?_
    subst H
    replace H := HKl30
    refine At.in_normal ?_
    refine At.then ?_
    refine Cd.region ?_
    refine Lst.run rfl rfl (by decide) (Ev.incr (by omega) rfl rfl) ?_
    refine Lst.run rfl rfl (by decide) (Ev.move rfl) ?_
    refine Lst.nil ?_
    exact At.meet (i26 + 1, k26, l31) (FLe.trans hF29 hF33) ⟨rfl, rfl, rfl, rfl, rfl, rfl, rfl, trivial⟩ rfl ⟨⟨hgo26 _ (some_inj H).symm, by omega⟩, Nat.lt_succ_self _⟩
  have hc30 : decide ((i30 : Int) < (a0.length : Int)) = true := decide_eq_true (by omega)
  obtain ⟨c30, H, hgo30⟩ := rangeF_go H
  unfold partref_Grow_B2 at H
  try dsimp only at H
  refine Cd.seq ?_
  refine Cd.region ?_
  refine Lst.run rfl rfl (by decide) (Ev.lss rfl rfl) ?_
  refine Lst.nil ?_
  refine At.then ?_
  refine Cd.seq ?_
  refine Cd.condT rfl hc30 ?_
  refine Cd.skip ?_
  refine At.then ?_
  refine Cd.seq ?_
  refine Cd.block ?_
  refine Cd.seq ?_
  refine Cd.region ?_
  refine Lst.run rfl rfl (by decide) (Ev.move rfl) ?_
  refine Lst.run rfl rfl (by decide) (Ev.assign rfl) ?_
  refine Lst.nil ?_
  refine At.then ?_
  refine Cd.region ?_
  refine Lst.run rfl rfl (by decide) (Ev.move rfl) ?_
  refine Lst.run rfl rfl (by decide) (Ev.move rfl) ?_
  refine Lst.run rfl rfl (by decide) (Ev.move rfl) ?_
  refine Lst.run rfl rfl (by decide) (Ev.move rfl) ?_
  obtain ⟨x34, h35, H⟩ := bind_some H
  have g36 := lat_some h35
  refine Lst.run rfl rfl (by decide) (Ev.indexS (α := Bool) (xs := l31) rfl rfl Try.runUnderlying44 Try.sizeOf4 rfl (by decide) (Rd.own (i := 0) rfl rfl rfl) g36.1 g36.2.1) ?_
  refine Lst.run rfl rfl (by decide) (Ev.loadS (α := Bool) rfl (Rd.own (i := 0) rfl rfl rfl) Try.isAgg4 (v := .bool x34) ((Get.elemN (s := 1) (x := x34) rfl g36.2.2 (Get.here _)).off (by omega))) ?_
  refine Lst.run rfl rfl (by decide) (Ev.move rfl) ?_
  rcases Bool.eq_false_or_eq_true x34 with hb37 | hb37
  · replace H := ite_t hb37 H
    refine Lst.skip rfl rfl rfl hb37 rfl (by decide) ?_
    refine Lst.skip rfl rfl rfl hb37 rfl (by decide) ?_
    refine Lst.skip rfl rfl rfl hb37 rfl (by decide) ?_
    refine Lst.skip rfl rfl rfl hb37 rfl (by decide) ?_
    refine Lst.skip rfl rfl rfl hb37 rfl (by decide) ?_
    refine Lst.skipU rfl rfl rfl rfl (by decide) ?_
    refine Lst.skipU rfl rfl rfl rfl (by decide) ?_
    refine Lst.skipU rfl rfl rfl rfl (by decide) ?_
    refine Lst.skipU rfl rfl rfl rfl (by decide) ?_
    refine Lst.skipU rfl rfl rfl rfl (by decide) ?_
    refine Lst.skipU rfl rfl rfl rfl (by decide) ?_
    refine Lst.skipU rfl rfl rfl rfl (by decide) ?_
    refine Lst.skip rfl rfl rfl hb37 rfl (by decide) ?_
    refine Lst.run rfl rfl (by decide) (Ev.pickT rfl hb37 rfl) ?_
    obtain ⟨x38, h39, H⟩ := bind_some H
    have g40 := lat_some h39
    refine Lst.run rfl rfl (by decide) (Ev.indexS (α := Bool) (xs := l31) rfl rfl Try.runUnderlying44 Try.sizeOf4 rfl (by decide) (Rd.own (i := 0) rfl rfl rfl) g40.1 g40.2.1) ?_
    obtain ⟨p41, h42, H⟩ := Let_some H
    refine Lst.storeS (i := 0) rfl rfl rfl rfl rfl Try.sizeOf4 (vs := [.bool true]) rfl rfl (by decide) rfl (xs' := encs p41) (by rw [← h42]; exact (Put.elemN (s := 1) (x := x38) rfl g40.2.2 (Put.here (vs := [.bool true]) rfl)).off (by omega)) (L' := (.own s22 4 1 (encs p41)) :: (.rows (α := Bool) 4 rs14) :: (.own s13 44 1 (encs rs14)) :: (.own s7 4 1 (encs r5)) :: (.blk b3 (enc (Vector.replicate 6 (0 : Int))) 23) :: (.blk b1 (enc a1) 23) :: L) rfl ?_
    refine Lst.nil ?_
    refine At.in_normal ?_
    refine At.then ?_
    refine Cd.as (e' := [(0, Sl.v s_a0), (4, .pointer (some ⟨b3, 0, none⟩)), (5, Sl.v s7), (6, Sl.v s13), (7, Sl.v s22), (8, .int .i64 (i26 : Int)), (18, .int .i64 (a0.length : Int)), (19, .int .i64 (i26 : Int)), (23, .int .i64 (a0.length : Int)), (24, .int .i64 (i30 : Int))]) (L' := (.own s22 4 1 (encs p41)) :: (.rows (α := Bool) 4 rs14) :: (.own s13 44 1 (encs rs14)) :: (.own s7 4 1 (encs r5)) :: (.blk b3 (enc (Vector.replicate 6 (0 : Int))) 23) :: (.blk b1 (enc a1) 23) :: L) ⟨rfl, rfl, rfl, rfl, rfl, rfl, rfl, rfl, rfl, rfl, trivial⟩ rfl ?_
    refine Cd.region ?_
    refine Lst.run rfl rfl (by decide) (Ev.incr (by omega) rfl rfl) ?_
    refine Lst.run rfl rfl (by decide) (Ev.move rfl) ?_
    refine Lst.nil ?_
    exact At.meet (i30 + 1, k30, p41) hF33 ⟨rfl, rfl, rfl, rfl, rfl, rfl, rfl, rfl, rfl, rfl, trivial⟩ rfl ⟨⟨hgo30 _ (some_inj H).symm, by omega⟩, Nat.lt_succ_self _⟩
  replace H := ite_f hb37 H
  refine Lst.runG rfl rfl rfl hb37 rfl (by decide) (Ev.move rfl) ?_
  refine Lst.runG rfl rfl rfl hb37 rfl (by decide) (Ev.move rfl) ?_
  obtain ⟨x43, h44, H⟩ := bind_some H
  have g45 := lat_some h44
  refine Lst.runG rfl rfl rfl hb37 rfl (by decide) (Ev.indexS (α := Bool) (xs := r5) rfl rfl Try.runUnderlying44 Try.sizeOf4 rfl (by decide) (Rd.own (i := 3) rfl rfl rfl) g45.1 g45.2.1) ?_
  refine Lst.runG rfl rfl rfl hb37 rfl (by decide) (Ev.loadS (α := Bool) rfl (Rd.own (i := 3) rfl rfl rfl) Try.isAgg4 (v := .bool x43) ((Get.elemN (s := 1) (x := x43) rfl g45.2.2 (Get.here _)).off (by omega))) ?_
  refine Lst.runG rfl rfl rfl hb37 rfl (by decide) (Ev.move rfl) ?_
  obtain ⟨o46, H, HKo46⟩ := bind_some H
  refine Lst.join (σ := Bool) 8 (fun y47 => [(0, Sl.v s_a0), (4, .pointer (some ⟨b3, 0, none⟩)), (5, Sl.v s7), (6, Sl.v s13), (7, Sl.v s22), (8, .int .i64 (i26 : Int)), (18, .int .i64 (a0.length : Int)), (19, .int .i64 (i26 : Int)), (23, .int .i64 (a0.length : Int)), (24, .int .i64 (i30 : Int)), (27, Sl.v s22), (28, .int .i64 (i26 : Int)), (33, .bool x34), (46, .bool y47)]) (fun y47 => (.own s22 4 1 (encs l31)) :: (.rows (α := Bool) 4 rs14) :: (.own s13 44 1 (encs rs14)) :: (.own s7 4 1 (encs r5)) :: (.blk b3 (enc (Vector.replicate 6 (0 : Int))) 23) :: (.blk b1 (enc a1) 23) :: L) (fun _ y47 => y47 = o46) ?_ ?_
  · rcases (Bool.eq_false_or_eq_true x43).symm with hb48 | hb48
    · replace H := ite_f hb48 H
      refine Lst.skip rfl rfl rfl hb48 rfl (by decide) ?_
      refine Lst.skip rfl rfl rfl hb48 rfl (by decide) ?_
      refine Lst.skip rfl rfl rfl hb48 rfl (by decide) ?_
      refine Lst.skip rfl rfl rfl hb48 rfl (by decide) ?_
      refine Lst.skip rfl rfl rfl hb48 rfl (by decide) ?_
      refine Lst.skip rfl rfl rfl hb48 rfl (by decide) ?_
      refine Lst.skip rfl rfl rfl hb48 rfl (by decide) ?_
      refine Lst.runG rfl rfl rfl hb37 rfl (by decide) (Ev.pickF rfl hb48 rfl) ?_
      refine Lst.nil ?_
      exact At.meet false (FLe.refl _) ⟨rfl, rfl, rfl, rfl, rfl, rfl, rfl, rfl, rfl, rfl, rfl, rfl, rfl, rfl, trivial⟩ rfl (some_inj H)
    replace H := ite_t hb48 H
    refine Lst.runG rfl rfl rfl hb48 rfl (by decide) (Ev.move rfl) ?_
    refine Lst.runG rfl rfl rfl hb48 rfl (by decide) (Ev.move rfl) ?_
    obtain ⟨x49, h50, H⟩ := bind_some H
    have g51 := lat_some h50
    obtain ⟨⟨r52v, r52h⟩, r52g, r52e, r52m⟩ := map_get fm15 g51.2.2
    obtain rfl : x49 = r52v := r52e.symm
    have hh53 := row_h r52g
    refine Lst.runG rfl rfl rfl hb48 rfl (by decide) (Ev.indexS (α := LR Bool) (xs := rs14) rfl rfl Try.runUnderlying42 Try.sizeOf44 rfl (by decide) (Rd.own (i := 2) rfl rfl rfl) g51.1 (by have := map_len fm15; omega)) ?_
    refine Lst.runG rfl rfl rfl hb48 rfl (by decide) (Ev.loadS (α := LR Bool) rfl (Rd.own (i := 2) rfl rfl rfl) Try.isAgg44 (v := Sl.v r52h) ((Get.elemN (s := 1) rfl r52g (Get.here _)).off (by omega))) ?_
    refine Lst.runG rfl rfl rfl hb48 rfl (by decide) (Ev.move rfl) ?_
    obtain ⟨x54, h55, H⟩ := bind_some H
    have g56 := lat_some h55
    refine Lst.runG rfl rfl rfl hb48 rfl (by decide) (Ev.indexS (α := Bool) (xs := x49) rfl rfl Try.runUnderlying44 Try.sizeOf4 rfl (by decide) (Rd.row (j := 1) rfl r52g) g56.1 g56.2.1) ?_
    refine Lst.runG rfl rfl rfl hb48 rfl (by decide) (Ev.loadS (α := Bool) rfl (Rd.row (j := 1) rfl r52g) Try.isAgg4 (v := .bool x54) ((Get.elemN (s := 1) (x := x54) rfl g56.2.2 (Get.here _)).off (by omega))) ?_
    refine Lst.runG rfl rfl rfl hb37 rfl (by decide) (Ev.pickT rfl hb48 rfl) ?_
    refine Lst.nil ?_
    exact At.meet x54 (FLe.refl _) ⟨rfl, rfl, rfl, rfl, rfl, rfl, rfl, rfl, rfl, rfl, rfl, rfl, rfl, rfl, trivial⟩ rfl (some_inj H)
  rintro F57 y47 hF58 hy
  subst hy
  refine Lst.as (e' := [(0, Sl.v s_a0), (4, .pointer (some ⟨b3, 0, none⟩)), (5, Sl.v s7), (6, Sl.v s13), (7, Sl.v s22), (8, .int .i64 (i26 : Int)), (18, .int .i64 (a0.length : Int)), (19, .int .i64 (i26 : Int)), (23, .int .i64 (a0.length : Int)), (24, .int .i64 (i30 : Int)), (27, Sl.v s22), (28, .int .i64 (i26 : Int)), (33, .bool x34), (46, .bool y47)]) (L' := (.own s22 4 1 (encs l31)) :: (.rows (α := Bool) 4 rs14) :: (.own s13 44 1 (encs rs14)) :: (.own s7 4 1 (encs r5)) :: (.blk b3 (enc (Vector.replicate 6 (0 : Int))) 23) :: (.blk b1 (enc a1) 23) :: L) ⟨rfl, rfl, rfl, rfl, rfl, rfl, rfl, rfl, rfl, rfl, rfl, rfl, rfl, rfl, trivial⟩ rfl ?_
  replace H := HKo46
  refine Lst.run rfl rfl (by decide) (Ev.pickF rfl hb37 rfl) ?_
  obtain ⟨x59, h60, H⟩ := bind_some H
  have g61 := lat_some h60
  refine Lst.run rfl rfl (by decide) (Ev.indexS (α := Bool) (xs := l31) rfl rfl Try.runUnderlying44 Try.sizeOf4 rfl (by decide) (Rd.own (i := 0) rfl rfl rfl) g61.1 g61.2.1) ?_
  obtain ⟨p62, h63, H⟩ := Let_some H
  refine Lst.storeS (i := 0) rfl rfl rfl rfl rfl Try.sizeOf4 (vs := [.bool y47]) rfl rfl (by decide) rfl (xs' := encs p62) (by rw [← h63]; exact (Put.elemN (s := 1) (x := x59) rfl g61.2.2 (Put.here (vs := [.bool y47]) rfl)).off (by omega)) (L' := (.own s22 4 1 (encs p62)) :: (.rows (α := Bool) 4 rs14) :: (.own s13 44 1 (encs rs14)) :: (.own s7 4 1 (encs r5)) :: (.blk b3 (enc (Vector.replicate 6 (0 : Int))) 23) :: (.blk b1 (enc a1) 23) :: L) rfl ?_
  refine Lst.nil ?_
  refine At.in_normal ?_
  refine At.then ?_
  refine Cd.region ?_
  refine Lst.run rfl rfl (by decide) (Ev.incr (by omega) rfl rfl) ?_
  refine Lst.run rfl rfl (by decide) (Ev.move rfl) ?_
  refine Lst.nil ?_
  exact At.meet (i30 + 1, k30, p62) (FLe.trans hF33 hF58) ⟨rfl, rfl, rfl, rfl, rfl, rfl, rfl, rfl, rfl, rfl, trivial⟩ rfl ⟨⟨hgo30 _ (some_inj H).symm, by omega⟩, Nat.lt_succ_self _⟩
set_option maxRecDepth 20000 in
theorem partref_First_sim {fu : Nat} {a0 : List Event} {a1 : List (List Bool)} {s_a0 : Sl} {s_a1 : Sl} {rs_a1 : List (LR Bool)} {r : (Vector Int 6) × Bool} (H : partref_First fu a0 a1 = some r) (w0 : World) (F : Frz) (M L : List Item) (hM : M.Sublist L) (hs_a0 : Rd w0 F M s_a0 a0) (hm_a1 : rs_a1.map LR.v = a1) (hs_a1 : Rd w0 F M s_a1 rs_a1) (ha_a1 : All LR.rel w0 F M rs_a1) : Ok Try.prog w0 42 [Sl.v s_a0, Sl.v s_a1] F (L) (Is (.tuple #[.agg (enc r.1).toArray, .bool r.2]) (L)) := by
  unfold partref_First at H
  refine Ok.enter (m := 2) (n := 46) Try.func42 rfl rfl rfl (by decide) ?_
  refine Cd.env (e' := [(0, Sl.v s_a0), (1, Sl.v s_a1)]) rfl ?_
  refine Cd.seq ?_
  refine Cd.region ?_
  refine Lst.alloc (cs := enc (Vector.replicate 6 (0 : Int))) rfl rfl (by decide) Try.zeroValue23 rfl (fun b1 => ?_)
  refine Lst.run rfl rfl (by decide) (Ev.assign rfl) ?_
  refine Lst.nil ?_
  refine At.then ?_
  refine Cd.seq ?_
  refine Cd.region ?_
  refine Lst.alloc (cs := enc (Vector.replicate 6 (0 : Int))) rfl rfl (by decide) Try.zeroValue23 rfl (fun b3 => ?_)
  refine Lst.nil ?_
  refine At.then ?_
  refine Cd.seq ?_
  refine Cd.region ?_
  refine Lst.run rfl rfl (by decide) (Ev.move rfl) ?_
  obtain ⟨r5, h6, H⟩ := bind_some H
  refine Lst.call1 rfl rfl (by decide) (vs := [Sl.v s_a0]) ⟨rfl, trivial⟩ Try.call54 (partref_Sizes_sim h6 w0 _ M _ (List.Sublist.cons _ (List.Sublist.cons _ hM)) (hs_a0.mono (FLe.refl _) (List.Sublist.refl _))) ?_
  refine Lst.alloc (cs := enc (Vector.replicate 6 (0 : Int))) rfl rfl (by decide) Try.zeroValue23 rfl (fun b9 => ?_)
  refine Lst.store (i := 0) rfl rfl rfl rfl rfl Try.sizeOf23 (vs := enc r5) rfl (Enc.len _) (Enc.one _) (cs' := enc r5) (Put.here ((Enc.len _).trans (Enc.len _).symm)) (L' := (.blk b9 (enc r5) 23) :: (.blk b3 (enc (Vector.replicate 6 (0 : Int))) 23) :: (.blk b1 (enc (Vector.replicate 6 (0 : Int))) 23) :: L) rfl ?_
  refine Lst.nil ?_
  refine At.then ?_
  refine Cd.seq ?_
  refine Cd.block ?_
  obtain ⟨ol11, H, HKl11⟩ := andThen_some H
  refine Cd.loop (σ := Nat × (Vector Int 6)) (fun (k11, y12) => [(0, Sl.v s_a0), (1, Sl.v s_a1), (4, .pointer (some ⟨b1, 0, none⟩)), (6, .pointer (some ⟨b3, 0, none⟩)), (7, .pointer (some ⟨b9, 0, none⟩))]) (fun (k11, y12) => (.blk b9 (enc r5) 23) :: (.blk b3 (enc y12) 23) :: (.blk b1 (enc (Vector.replicate 6 (0 : Int))) 23) :: L) (fun _ => (fun (k11, y12) => whileM (partref_First_B0 fu a0 a1 r5) k11 y12 = some ol11)) (fun (k11, y12) => k11) (fu, (Vector.replicate 6 (0 : Int))) ⟨rfl, rfl, rfl, rfl, rfl, trivial⟩ rfl H ?_
  rintro F13 ⟨k11, y12⟩ hF14 H
  refine Cd.as (e' := [(0, Sl.v s_a0), (1, Sl.v s_a1), (4, .pointer (some ⟨b1, 0, none⟩)), (6, .pointer (some ⟨b3, 0, none⟩)), (7, .pointer (some ⟨b9, 0, none⟩))]) (L' := (.blk b9 (enc r5) 23) :: (.blk b3 (enc y12) 23) :: (.blk b1 (enc (Vector.replicate 6 (0 : Int))) 23) :: L) ⟨rfl, rfl, rfl, rfl, rfl, trivial⟩ rfl ?_
  rcases k11 with _ | k11
  · cases H
  obtain ⟨c11, H, hgo11, hbrk11, hret11⟩ := whileM_go H
  unfold partref_First_B0 at H
  try dsimp only at H
  refine Cd.seq ?_
  refine Cd.seq ?_
  refine Cd.region ?_
  refine Lst.run rfl rfl (by decide) (Ev.move rfl) ?_
  refine Lst.run rfl rfl (by decide) (Ev.loadA (i := 1) rfl rfl Try.isAgg23 Try.sizeOf23 (ch := enc y12) (Enc.len _) (Get.here _)) ?_
  obtain ⟨r15, h16, H⟩ := bind_some H
  refine Lst.call1 rfl rfl (by decide) (vs := [Sl.v s_a1, .agg (enc y12).toArray]) ⟨rfl, rfl, trivial⟩ Try.call64 (partref_So_sim h16 w0 _ M _ (List.Sublist.cons _ (List.Sublist.cons _ (List.Sublist.cons _ hM))) hm_a1 (hs_a1.mono hF14 (List.Sublist.refl _)) (All.monoLR ha_a1 hF14 (List.Sublist.refl _))) ?_
  refine Lst.run rfl rfl (by decide) (Ev.not rfl) ?_
  refine Lst.nil ?_
  refine At.then ?_
  rcases (Bool.eq_false_or_eq_true (!r15)).symm with hb19 | hb19
  · replace H := ite_f hb19 H
    refine Cd.condF rfl hb19 ?_
    refine Cd.exit ?_
    refine At.then_exit ?_
    refine At.then_exit ?_
    refine At.in_exit ?_
    have H := hbrk11 _ (some_inj H).symm
    subst H
    replace H := HKl11
    refine At.then ?_
    refine Cd.seq ?_
    refine Cd.region ?_
    refine Lst.run rfl rfl (by decide) (Ev.loadA (i := 1) rfl rfl Try.isAgg23 Try.sizeOf23 (ch := enc y12) (Enc.len _) (Get.here _)) ?_
    refine Lst.store (i := 2) rfl rfl rfl rfl rfl Try.sizeOf23 (vs := enc y12) rfl (Enc.len _) (Enc.one _) (cs' := enc y12) (Put.here ((Enc.len _).trans (Enc.len _).symm)) (L' := (.blk b9 (enc r5) 23) :: (.blk b3 (enc y12) 23) :: (.blk b1 (enc y12) 23) :: L) rfl ?_
    refine Lst.run rfl rfl (by decide) (Ev.assign rfl) ?_
    refine Lst.nil ?_
    refine At.then ?_
    obtain rfl := some_inj H
    refine Cd.ret ?_
    exact At.ret2 rfl (Res.cellA (i := 2) rfl rfl Try.isAgg23 Try.sizeOf23 (Enc.len _)) (Res.tmp rfl) hF14 (List.Sublist.cons _ (List.Sublist.cons _ (List.Sublist.cons _ (List.Sublist.refl _)))) ⟨rfl, rfl⟩
  replace H := ite_t hb19 H
  refine Cd.condT rfl hb19 ?_
  refine Cd.skip ?_
  refine At.then ?_
  refine Cd.block ?_
  refine Cd.seq ?_
  refine Cd.region ?_
  refine Lst.run rfl rfl (by decide) (Ev.move rfl) ?_
  refine Lst.nil ?_
  refine At.then ?_
  refine Cd.block ?_
  obtain ⟨ol20, H, HKl20⟩ := andThen_some H
  refine Cd.loop (σ := Nat × Nat × (Vector Int 6)) (fun (i20, k20, y21) => [(0, Sl.v s_a0), (1, Sl.v s_a1), (4, .pointer (some ⟨b1, 0, none⟩)), (6, .pointer (some ⟨b3, 0, none⟩)), (7, .pointer (some ⟨b9, 0, none⟩)), (15, .int .i64 (i20 : Int))]) (fun (i20, k20, y21) => (.blk b9 (enc r5) 23) :: (.blk b3 (enc y21) 23) :: (.blk b1 (enc (Vector.replicate 6 (0 : Int))) 23) :: L) (fun _ => (fun (i20, k20, y21) => rangeM (partref_First_B2 fu a0 a1 r5) k20 i20 y21 = some ol20 ∧ i20 + k20 = 6)) (fun (i20, k20, y21) => k20) (0, 6, y12) ⟨rfl, rfl, rfl, rfl, rfl, rfl, trivial⟩ rfl ⟨H, by omega⟩ ?_
  rintro F22 ⟨i20, k20, y21⟩ hF23 ⟨H, hik20⟩
  refine Cd.as (e' := [(0, Sl.v s_a0), (1, Sl.v s_a1), (4, .pointer (some ⟨b1, 0, none⟩)), (6, .pointer (some ⟨b3, 0, none⟩)), (7, .pointer (some ⟨b9, 0, none⟩)), (15, .int .i64 (i20 : Int))]) (L' := (.blk b9 (enc r5) 23) :: (.blk b3 (enc y21) 23) :: (.blk b1 (enc (Vector.replicate 6 (0 : Int))) 23) :: L) ⟨rfl, rfl, rfl, rfl, rfl, rfl, trivial⟩ rfl ?_
  rcases k20 with _ | k20
  · have hc20 : decide ((i20 : Int) < (6 : Int)) = false := decide_eq_false (by omega)
    replace H := rangeM_end H
    refine Cd.seq ?_
    refine Cd.region ?_
    refine Lst.run rfl rfl (by decide) (Ev.lss rfl rfl) ?_
    refine Lst.nil ?_
    refine At.then ?_
    refine Cd.seq ?_
    refine Cd.condF rfl hc20 ?_
    refine Cd.exit ?_
    refine At.then_exit ?_
    refine At.then_exit ?_
    refine At.in_exit ?_
    subst H
    replace H := HKl20
    refine At.in_normal ?_
    exact At.meet (k11, y21) (FLe.trans hF14 hF23) ⟨rfl, rfl, rfl, rfl, rfl, trivial⟩ rfl ⟨hgo11 _ (some_inj H).symm, Nat.lt_succ_self _⟩
  have hc20 : decide ((i20 : Int) < (6 : Int)) = true := decide_eq_true (by omega)
  obtain ⟨c20, H, hgo20, hbrk20, hret20⟩ := rangeM_go H
  unfold partref_First_B2 at H
  try dsimp only at H
  refine Cd.seq ?_
  refine Cd.region ?_
  refine Lst.run rfl rfl (by decide) (Ev.lss rfl rfl) ?_
  refine Lst.nil ?_
  refine At.then ?_
  refine Cd.seq ?_
  refine Cd.condT rfl hc20 ?_
  refine Cd.skip ?_
  refine At.then ?_
  refine Cd.seq ?_
  refine Cd.block ?_
  refine Cd.seq ?_
  refine Cd.region ?_
  refine Lst.run rfl rfl (by decide) (Ev.move rfl) ?_
  refine Lst.run rfl rfl (by decide) (Ev.assign rfl) ?_
  refine Lst.nil ?_
  refine At.then ?_
  refine Cd.seq ?_
  refine Cd.quiet (by kernel_rfl) (by kernel_rfl) ?_
  refine Qt.run rfl rfl (by decide) (Ev.move rfl) ?_
  refine Qt.run rfl rfl (by decide) (Ev.move rfl) ?_
  obtain ⟨x24, h25, H⟩ := bind_some H
  have g26 := lat_some h25
  obtain ⟨⟨r27v, r27h⟩, r27g, r27e, r27m⟩ := map_get hm_a1 g26.2.2
  obtain rfl : x24 = r27v := r27e.symm
  have r27q : Rd w0 _ _ r27h x24 := ha_a1 _ r27m
  refine Qt.run rfl rfl (by decide) (Ev.indexS (α := LR Bool) (xs := rs_a1) rfl rfl Try.runUnderlying42 Try.sizeOf44 rfl (by decide) (hs_a1.mono (FLe.trans hF14 hF23) (List.Sublist.cons _ (List.Sublist.cons _ (List.Sublist.cons _ hM)))) g26.1 (by have := map_len hm_a1; omega)) ?_
  refine Qt.run rfl rfl (by decide) (Ev.loadS (α := LR Bool) rfl (hs_a1.mono (FLe.trans hF14 hF23) (List.Sublist.cons _ (List.Sublist.cons _ (List.Sublist.cons _ hM)))) Try.isAgg44 (v := Sl.v r27h) ((Get.elemN (s := 1) rfl r27g (Get.here _)).off (by omega))) ?_
  refine Qt.run rfl rfl (by decide) (Ev.move rfl) ?_
  obtain ⟨x28, h29, H⟩ := bind_some H
  have g30 := vat_some h29
  refine Qt.run rfl rfl (by decide) (Ev.indexAddr (off' := 0 + (i20 : Int).toNat * 1) rfl rfl Try.runUnderlying23 Try.sizeOf3 g30.1 g30.2.1 rfl) ?_
  refine Qt.run rfl rfl (by decide) (Ev.load (i := 1) rfl rfl Try.isAgg3 (v := .int .i64 x28) ((Get.vecN (s := 1) (x := x28) rfl g30.2.2 (Get.here _)).off (by omega))) ?_
  obtain ⟨x31, h32, H⟩ := bind_some H
  have g33 := lat_some h32
  refine Qt.run rfl rfl (by decide) (Ev.indexS (α := Bool) (xs := x24) rfl rfl Try.runUnderlying44 Try.sizeOf4 rfl (by decide) (r27q.mono (FLe.trans hF14 hF23) (List.Sublist.cons _ (List.Sublist.cons _ (List.Sublist.cons _ hM)))) g33.1 g33.2.1) ?_
  refine Qt.run rfl rfl (by decide) (Ev.loadS (α := Bool) rfl (r27q.mono (FLe.trans hF14 hF23) (List.Sublist.cons _ (List.Sublist.cons _ (List.Sublist.cons _ hM)))) Try.isAgg4 (v := .bool x31) ((Get.elemN (s := 1) (x := x31) rfl g33.2.2 (Get.here _)).off (by omega))) ?_
  refine Qt.run rfl rfl (by decide) (Ev.not rfl) ?_
  refine Qt.done ?_
  refine At.then ?_
  rcases Bool.eq_false_or_eq_true (!x31) with hb34 | hb34
  · replace H := ite_t hb34 H
    refine Cd.condT rfl hb34 ?_
    refine Cd.seq ?_
    refine Cd.seq ?_
    refine Cd.quiet (by kernel_rfl) (by kernel_rfl) ?_
    refine Qt.run rfl rfl (by decide) (Ev.move rfl) ?_
    obtain ⟨x35, h36, H⟩ := bind_some H
    have g37 := vat_some h36
    refine Qt.run rfl rfl (by decide) (Ev.indexAddr (off' := 0 + (i20 : Int).toNat * 1) rfl rfl Try.runUnderlying23 Try.sizeOf3 g37.1 g37.2.1 rfl) ?_
    refine Qt.run rfl rfl (by decide) (Ev.load (i := 1) rfl rfl Try.isAgg3 (v := .int .i64 x35) ((Get.vecN (s := 1) (x := x35) rfl g37.2.2 (Get.here _)).off (by omega))) ?_
    refine Qt.run rfl rfl (by decide) (Ev.move rfl) ?_
    obtain ⟨x38, h39, H⟩ := bind_some H
    have g40 := vat_some h39
    refine Qt.run rfl rfl (by decide) (Ev.indexAddr (off' := 0 + (i20 : Int).toNat * 1) rfl rfl Try.runUnderlying23 Try.sizeOf3 g40.1 g40.2.1 rfl) ?_
    refine Qt.run rfl rfl (by decide) (Ev.load (i := 0) rfl rfl Try.isAgg3 (v := .int .i64 x38) ((Get.vecN (s := 1) (x := x38) rfl g40.2.2 (Get.here _)).off (by omega))) ?_
    refine Qt.run rfl rfl (by decide) (Ev.eql rfl rfl) ?_
    refine Qt.done ?_
    refine At.then ?_
    rcases Bool.eq_false_or_eq_true (x35 == x38) with hb41 | hb41
    · replace H := ite_t hb41 H
      refine Cd.condT rfl hb41 ?_
      refine Cd.seq ?_
      refine Cd.as (e' := [(4, .pointer (some ⟨b1, 0, none⟩))]) (L' := (.blk b9 (enc r5) 23) :: (.blk b3 (enc y21) 23) :: (.blk b1 (enc (Vector.replicate 6 (0 : Int))) 23) :: L) ⟨rfl, trivial⟩ rfl ?_
      refine Cd.region ?_
      refine Lst.run rfl rfl (by decide) (Ev.build (v := .agg (enc ((Vector.replicate 6 (0 : Int)) : Vector Int 6)).toArray) (pv := []) trivial (fun w => by kernel_rfl)) ?_
      refine Lst.store (i := 2) rfl rfl rfl rfl rfl Try.sizeOf23 (vs := enc ((Vector.replicate 6 (0 : Int)) : Vector Int 6)) rfl (Enc.len _) (Enc.one _) (cs' := enc ((Vector.replicate 6 (0 : Int)) : Vector Int 6)) (Put.here ((Enc.len _).trans (Enc.len _).symm)) (L' := (.blk b9 (enc r5) 23) :: (.blk b3 (enc y21) 23) :: (.blk b1 (enc ((Vector.replicate 6 (0 : Int)) : Vector Int 6)) 23) :: L) rfl ?_
      refine Lst.run rfl rfl (by decide) (Ev.assign rfl) ?_
      refine Lst.nil ?_
      refine At.then ?_
      have H := hret20 _ (some_inj H).symm
      subst H
      replace H := HKl20
      have H := hret11 _ (some_inj H).symm
      subst H
      replace H := HKl11
      obtain rfl := some_inj H
      refine Cd.ret ?_
      refine At.then_ret ?_
      refine At.in_ret ?_
      refine At.then_ret ?_
      refine At.then_ret ?_
      refine At.in_ret ?_
      refine At.in_ret ?_
      refine At.then_ret ?_
      refine At.in_ret ?_
      refine At.then_ret ?_
      exact At.ret2 rfl (Res.cellA (i := 2) rfl rfl Try.isAgg23 Try.sizeOf23 (Enc.len _)) (Res.tmp rfl) (FLe.trans hF14 hF23) (List.Sublist.cons _ (List.Sublist.cons _ (List.Sublist.cons _ (List.Sublist.refl _)))) ⟨rfl, rfl⟩
    replace H := ite_f hb41 H
    refine Cd.condF rfl hb41 ?_
    refine Cd.skip ?_
    refine At.then ?_
    refine Cd.seq ?_
    refine Cd.as (e' := [(0, Sl.v s_a0), (1, Sl.v s_a1), (4, .pointer (some ⟨b1, 0, none⟩)), (6, .pointer (some ⟨b3, 0, none⟩)), (7, .pointer (some ⟨b9, 0, none⟩)), (8, .int .i64 (i20 : Int))]) (L' := (.blk b9 (enc r5) 23) :: (.blk b3 (enc y21) 23) :: (.blk b1 (enc (Vector.replicate 6 (0 : Int))) 23) :: L) ⟨rfl, rfl, rfl, rfl, rfl, rfl, trivial⟩ rfl ?_
    refine Cd.region ?_
    refine Lst.run rfl rfl (by decide) (Ev.move rfl) ?_
    obtain ⟨x42, h43, H⟩ := bind_some H
    have g44 := vat_some h43
    refine Lst.run rfl rfl (by decide) (Ev.indexAddr (off' := 0 + (i20 : Int).toNat * 1) rfl rfl Try.runUnderlying23 Try.sizeOf3 g44.1 g44.2.1 rfl) ?_
    refine Lst.run rfl rfl (by decide) (Ev.load (i := 1) rfl rfl Try.isAgg3 (v := .int .i64 x42) ((Get.vecN (s := 1) (x := x42) rfl g44.2.2 (Get.here _)).off (by omega))) ?_
    refine Lst.run rfl rfl (by decide) (Ev.add rfl rfl) ?_
    obtain ⟨x45, h46, H⟩ := bind_some H
    have g47 := vat_some h46
    refine Lst.run rfl rfl (by decide) (Ev.indexAddr (off' := 0 + (i20 : Int).toNat * 1) rfl rfl Try.runUnderlying23 Try.sizeOf3 g47.1 g47.2.1 rfl) ?_
    obtain ⟨p48, h49, H⟩ := Let_some H
    refine Lst.store (i := 1) rfl rfl rfl rfl rfl Try.sizeOf3 (vs := [.int .i64 (w64 (x42 + (1 : Int)))]) rfl rfl rfl (cs' := enc p48) (by rw [← h49]; exact (Put.vecN (s := 1) (x := x45) rfl g47.2.2 (Put.here (vs := [.int .i64 (w64 (x42 + (1 : Int)))]) rfl)).off (by omega)) (L' := (.blk b9 (enc r5) 23) :: (.blk b3 (enc p48) 23) :: (.blk b1 (enc (Vector.replicate 6 (0 : Int))) 23) :: L) rfl ?_
    refine Lst.nil ?_
    refine At.then ?_
    refine Cd.seq ?_
    refine Cd.region ?_
    refine Lst.run rfl rfl (by decide) (Ev.move rfl) ?_
    refine Lst.run rfl rfl (by decide) (Ev.loadA (i := 1) rfl rfl Try.isAgg23 Try.sizeOf23 (ch := enc p48) (Enc.len _) (Get.here _)) ?_
    obtain ⟨r50, h51, H⟩ := bind_some H
    refine Lst.call1 rfl rfl (by decide) (vs := [Sl.v s_a0, .agg (enc p48).toArray]) ⟨rfl, rfl, trivial⟩ Try.call33 (partref_Grow_sim h51 w0 _ M _ (List.Sublist.cons _ (List.Sublist.cons _ (List.Sublist.cons _ hM))) (hs_a0.mono (FLe.trans hF14 hF23) (List.Sublist.refl _))) ?_
    refine Lst.store (i := 1) rfl rfl rfl rfl rfl Try.sizeOf23 (vs := enc r50) rfl (Enc.len _) (Enc.one _) (cs' := enc r50) (Put.here ((Enc.len _).trans (Enc.len _).symm)) (L' := (.blk b9 (enc r5) 23) :: (.blk b3 (enc r50) 23) :: (.blk b1 (enc (Vector.replicate 6 (0 : Int))) 23) :: L) rfl ?_
    refine Lst.nil ?_
    refine At.then ?_
    refine Cd.exit ?_
    refine At.in_other rfl ?_
    refine At.then_exit ?_
    refine At.then_exit ?_
    refine At.in_exit ?_
    have H := hbrk20 _ (some_inj H).symm
    subst H
    replace H := HKl20
    refine At.in_normal ?_
    exact At.meet (k11, r50) (FLe.trans hF14 hF23) ⟨rfl, rfl, rfl, rfl, rfl, trivial⟩ rfl ⟨hgo11 _ (some_inj H).symm, Nat.lt_succ_self _⟩
  replace H := ite_f hb34 H
  refine Cd.condF rfl hb34 ?_
  refine Cd.skip ?_
  refine At.in_normal ?_
  refine At.then ?_
  refine Cd.region ?_
  refine Lst.run rfl rfl (by decide) (Ev.incr (by omega) rfl rfl) ?_
  refine Lst.run rfl rfl (by decide) (Ev.move rfl) ?_
  refine Lst.nil ?_
  exact At.meet (i20 + 1, k20, y21) hF23 ⟨rfl, rfl, rfl, rfl, rfl, rfl, trivial⟩ rfl ⟨⟨hgo20 _ (some_inj H).symm, by omega⟩, Nat.lt_succ_self _⟩
set_option maxRecDepth 20000 in
theorem partref_Room_sim {a0 : List Event} {s_a0 : Sl} {r : Int} (H : partref_Room a0 = some r) (w0 : World) (F : Frz) (M L : List Item) (hM : M.Sublist L) (hs_a0 : Rd w0 F M s_a0 a0) : Ok Try.prog w0 36 [Sl.v s_a0] F (L) (Is (.int .i64 r) (L)) := by
  unfold partref_Room at H
  refine Ok.enter (m := 1) (n := 17) Try.func36 rfl rfl rfl (by decide) ?_
  refine Cd.env (e' := [(0, Sl.v s_a0)]) rfl ?_
  refine Cd.seq ?_
  refine Cd.region ?_
  refine Lst.run rfl rfl (by decide) (Ev.assign rfl) ?_
  refine Lst.nil ?_
  refine At.then ?_
  refine Cd.seq ?_
  refine Cd.region ?_
  refine Lst.run rfl rfl (by decide) (Ev.assign rfl) ?_
  refine Lst.nil ?_
  refine At.then ?_
  refine Cd.seq ?_
  refine Cd.seq ?_
  refine Cd.region ?_
  refine Lst.run rfl rfl (by decide) (Ev.move rfl) ?_
  obtain ⟨r1, h2, H⟩ := bind_some H
  refine Lst.call1 rfl rfl (by decide) (vs := [Sl.v s_a0]) ⟨rfl, trivial⟩ Try.call54 (partref_Sizes_sim h2 w0 _ M _ hM (hs_a0.mono (FLe.refl _) (List.Sublist.refl _))) ?_
  refine Lst.run rfl rfl (by decide) (Ev.move rfl) ?_
  refine Lst.nil ?_
  refine At.then ?_
  refine Cd.block ?_
  obtain ⟨ol5, H, HKl5⟩ := bind_some H
  refine Cd.loop (σ := Nat × Nat × Int) (fun (i5, k5, y6) => [(3, .int .i64 y6), (7, .agg (enc r1).toArray), (8, .int .i64 (i5 : Int))]) (fun (i5, k5, y6) => L) (fun _ => (fun (i5, k5, y6) => rangeF (partref_Room_B0 r1) k5 i5 y6 = some ol5 ∧ i5 + k5 = 6)) (fun (i5, k5, y6) => k5) (0, 6, (1 : Int)) ⟨rfl, rfl, rfl, trivial⟩ rfl ⟨H, by omega⟩ ?_
  rintro F7 ⟨i5, k5, y6⟩ hF8 ⟨H, hik5⟩
  refine Cd.as (e' := [(3, .int .i64 y6), (7, .agg (enc r1).toArray), (8, .int .i64 (i5 : Int))]) (L' := L) ⟨rfl, rfl, rfl, trivial⟩ rfl ?_
  rcases k5 with _ | k5
  · have hc5 : decide ((i5 : Int) < (6 : Int)) = false := decide_eq_false (by omega)
    replace H := rangeF_end H
    refine Cd.seq ?_
    refine Cd.region ?_
    refine Lst.run rfl rfl (by decide) (Ev.lss rfl rfl) ?_
    refine Lst.nil ?_
    refine At.then ?_
    refine Cd.seq ?_
    refine Cd.condF rfl hc5 ?_
    refine Cd.exit ?_
    refine At.then_exit ?_
    refine At.then_exit ?_
    refine At.in_exit ?_
    subst H
    replace H := HKl5
    refine At.then ?_
    refine Cd.seq ?_
    refine Cd.region ?_
    refine Lst.run rfl rfl (by decide) (Ev.move rfl) ?_
    refine Lst.run rfl rfl (by decide) (Ev.assign rfl) ?_
    refine Lst.nil ?_
    refine At.then ?_
    obtain rfl := some_inj H
    refine Cd.ret ?_
    exact At.ret1 rfl (Res.tmp rfl) hF8 (List.Sublist.refl _) ⟨rfl, rfl⟩
  have hc5 : decide ((i5 : Int) < (6 : Int)) = true := decide_eq_true (by omega)
  obtain ⟨c5, H, hgo5⟩ := rangeF_go H
  unfold partref_Room_B0 at H
  try dsimp only at H
  refine Cd.seq ?_
  refine Cd.region ?_
  refine Lst.run rfl rfl (by decide) (Ev.lss rfl rfl) ?_
  refine Lst.nil ?_
  refine At.then ?_
  refine Cd.seq ?_
  refine Cd.condT rfl hc5 ?_
  refine Cd.skip ?_
  refine At.then ?_
  refine Cd.seq ?_
  refine Cd.block ?_
  refine Cd.seq ?_
  refine Cd.region ?_
  obtain ⟨x9, h10, H⟩ := bind_some H
  have g11 := vat_some h10
  refine Lst.run rfl rfl (by decide) (Ev.index1 rfl rfl Try.runUnderlying23 Try.isAgg3 Try.sizeOf3 g11.1 g11.2.1 rfl ((Get.vecN (s := 1) rfl g11.2.2 (Get.here _)).off (by omega))) ?_
  refine Lst.run rfl rfl (by decide) (Ev.assign rfl) ?_
  refine Lst.nil ?_
  refine At.then ?_
  refine Cd.region ?_
  refine Lst.run rfl rfl (by decide) (Ev.move rfl) ?_
  refine Lst.run rfl rfl (by decide) (Ev.move rfl) ?_
  refine Lst.run rfl rfl (by decide) (Ev.add rfl rfl) ?_
  refine Lst.run rfl rfl (by decide) (Ev.mul rfl rfl) ?_
  refine Lst.run rfl rfl (by decide) (Ev.assign rfl) ?_
  refine Lst.nil ?_
  refine At.in_normal ?_
  refine At.then ?_
  refine Cd.region ?_
  refine Lst.run rfl rfl (by decide) (Ev.incr (by omega) rfl rfl) ?_
  refine Lst.run rfl rfl (by decide) (Ev.move rfl) ?_
  refine Lst.nil ?_
  exact At.meet (i5 + 1, k5, w64 (y6 * (w64 (x9 + (1 : Int))))) hF8 ⟨rfl, rfl, rfl, trivial⟩ rfl ⟨⟨hgo5 _ (some_inj H).symm, by omega⟩, Nat.lt_succ_self _⟩
set_option maxRecDepth 20000 in
theorem partref_Vectors_sim {fu : Nat} {a0 : List Event} {s_a0 : Sl} {r : (List (Vector Int 6))} (H : partref_Vectors fu a0 = some r) (w0 : World) (F : Frz) (M L : List Item) (hM : M.Sublist L) (hs_a0 : Rd w0 F M s_a0 a0) : Ok Try.prog w0 18 [Sl.v s_a0] F (L) (fun _ L' v => ∃ (s1 : Sl), v = Sl.v s1 ∧ L' = (.own s1 23 6 (encs r)) :: L) := by
  unfold partref_Vectors at H
  refine Ok.enter (m := 1) (n := 50) Try.func18 rfl rfl rfl (by decide) ?_
  refine Cd.env (e' := [(0, Sl.v s_a0)]) rfl ?_
  refine Cd.seq ?_
  refine Cd.region ?_
  refine Lst.addNil 23 6 ?_
  refine Lst.run rfl rfl (by decide) (Ev.assign rfl) ?_
  refine Lst.nil ?_
  refine At.then ?_
  refine Cd.seq ?_
  refine Cd.region ?_
  refine Lst.run rfl rfl (by decide) (Ev.move rfl) ?_
  obtain ⟨r2, h3, H⟩ := bind_some H
  refine Lst.call rfl rfl (by decide) (vs := [Sl.v s_a0]) ⟨rfl, trivial⟩ Try.call23 (partref_Causes_sim h3 w0 _ M _ (List.Sublist.cons _ hM) (hs_a0.mono (FLe.refl _) (List.Sublist.refl _))) (fun F9 L' v hF10 hv => ?_)
  obtain ⟨s4, rs5, rfl, rfl, fm6⟩ := hv
  refine Lst.run rfl rfl (by decide) (Ev.assign rfl) ?_
  refine Lst.nil ?_
  refine At.then ?_
  refine Cd.seq ?_
  refine Cd.region ?_
  refine Lst.run rfl rfl (by decide) (Ev.move rfl) ?_
  refine Lst.run rfl rfl (by decide) (Ev.lenS (α := Event) (xs := a0) (by decide) rfl rfl Try.runUnderlying24 (hs_a0.mono hF10 (List.Sublist.cons _ (List.Sublist.cons _ (List.Sublist.cons _ hM))))) ?_
  obtain ⟨n11, h12, H⟩ := bind_some H
  have g13 := mkLen_some h12
  refine Lst.make (α := Vector Int 6) (z0 := (Vector.replicate 6 (0 : Int))) (k := n11) rfl rfl (by decide) (congrArg some (congrArg (Value.int .i64) g13.1)) (congrArg some (congrArg (Value.int .i64) g13.1)) Try.runUnderlying28 Try.typeInfo23 rfl rfl rfl rfl rfl g13.2 rfl (fun s14 => ?_)
  refine Lst.run rfl rfl (by decide) (Ev.assign rfl) ?_
  refine Lst.nil ?_
  refine At.then ?_
  refine Cd.seq ?_
  refine Cd.seq ?_
  refine Cd.region ?_
  refine Lst.run rfl rfl (by decide) (Ev.move rfl) ?_
  refine Lst.run rfl rfl (by decide) (Ev.lenS (α := Event) (xs := a0) (by decide) rfl rfl Try.runUnderlying24 (hs_a0.mono hF10 (List.Sublist.cons _ (List.Sublist.cons _ (List.Sublist.cons _ (List.Sublist.cons _ hM)))))) ?_
  refine Lst.run rfl rfl (by decide) (Ev.move rfl) ?_
  refine Lst.nil ?_
  refine At.then ?_
  refine Cd.block ?_
  refine Cd.bound (Rd.le (α := Event) (xs := a0) (by decide) (hs_a0.mono hF10 (List.Sublist.cons _ (List.Sublist.cons _ (List.Sublist.cons _ (List.Sublist.cons _ hM)))))) (fun hN56 => ?_)
  obtain ⟨ol16, H, HKl16⟩ := bind_some H
  refine Cd.loop (σ := Nat × Nat × (List (Vector Int 6))) (fun (i16, k16, l17) => [(0, Sl.v s_a0), (3, Sl.v s4), (4, Sl.v s14), (13, .int .i64 (a0.length : Int)), (14, .int .i64 (i16 : Int))]) (fun (i16, k16, l17) => (.own s14 23 6 (encs l17)) :: (.rows (α := Bool) 4 rs5) :: (.own s4 44 1 (encs rs5)) :: (.own Sl.nil 23 6 (encs ([] : List (Vector Int 6)))) :: L) (fun _ => (fun (i16, k16, l17) => rangeF (partref_Vectors_B0 a0 r2) k16 i16 l17 = some ol16 ∧ i16 + k16 = a0.length)) (fun (i16, k16, l17) => k16) (0, a0.length, (List.replicate n11 (Vector.replicate 6 (0 : Int)))) ⟨rfl, rfl, rfl, rfl, rfl, trivial⟩ rfl ⟨H, by omega⟩ ?_
  rintro F18 ⟨i16, k16, l17⟩ hF19 ⟨H, hik16⟩
  refine Cd.as (e' := [(0, Sl.v s_a0), (3, Sl.v s4), (4, Sl.v s14), (13, .int .i64 (a0.length : Int)), (14, .int .i64 (i16 : Int))]) (L' := (.own s14 23 6 (encs l17)) :: (.rows (α := Bool) 4 rs5) :: (.own s4 44 1 (encs rs5)) :: (.own Sl.nil 23 6 (encs ([] : List (Vector Int 6)))) :: L) ⟨rfl, rfl, rfl, rfl, rfl, trivial⟩ rfl ?_
  rcases k16 with _ | k16
  · have hc16 : decide ((i16 : Int) < (a0.length : Int)) = false := decide_eq_false (by omega)
    replace H := rangeF_end H
    refine Cd.seq ?_
    refine Cd.region ?_
    refine Lst.run rfl rfl (by decide) (Ev.lss rfl rfl) ?_
    refine Lst.nil ?_
    refine At.then ?_
    refine Cd.seq ?_
    refine Cd.condF rfl hc16 ?_
    refine Cd.exit ?_
    refine At.then_exit ?_
    refine At.then_exit ?_
    refine At.in_exit ?_
    subst H
    replace H := HKl16
    refine At.then ?_
    refine Cd.seq ?_
    refine Cd.region ?_
    refine Lst.run rfl rfl (by decide) (Ev.move rfl) ?_
    refine Lst.run rfl rfl (by decide) (Ev.assign rfl) ?_
    refine Lst.nil ?_
    refine At.then ?_
    obtain rfl := some_inj H
    refine Cd.ret ?_
    exact At.ret1 rfl (Res.tmp rfl) (FLe.trans hF10 hF19) (List.Sublist.cons_cons _ (List.Sublist.cons _ (List.Sublist.cons _ (List.Sublist.cons _ (List.Sublist.refl _))))) ⟨s14, rfl, rfl⟩
  have hc16 : decide ((i16 : Int) < (a0.length : Int)) = true := decide_eq_true (by omega)
  obtain ⟨c16, H, hgo16⟩ := rangeF_go H
  unfold partref_Vectors_B0 at H
  try dsimp only at H
  refine Cd.seq ?_
  refine Cd.region ?_
  refine Lst.run rfl rfl (by decide) (Ev.lss rfl rfl) ?_
  refine Lst.nil ?_
  refine At.then ?_
  refine Cd.seq ?_
  refine Cd.condT rfl hc16 ?_
  refine Cd.skip ?_
  refine At.then ?_
  refine Cd.seq ?_
  refine Cd.block ?_
  refine Cd.seq ?_
  refine Cd.region ?_
  refine Lst.run rfl rfl (by decide) (Ev.move rfl) ?_
  refine Lst.run rfl rfl (by decide) (Ev.assign rfl) ?_
  refine Lst.nil ?_
  refine At.then ?_
  refine Cd.seq ?_
  refine Cd.region ?_
  refine Lst.run rfl rfl (by decide) (Ev.move rfl) ?_
  refine Lst.run rfl rfl (by decide) (Ev.lenS (α := Event) (xs := a0) (by decide) rfl rfl Try.runUnderlying24 (hs_a0.mono (FLe.trans hF10 hF19) (List.Sublist.cons _ (List.Sublist.cons _ (List.Sublist.cons _ (List.Sublist.cons _ hM)))))) ?_
  refine Lst.run rfl rfl (by decide) (Ev.move rfl) ?_
  refine Lst.nil ?_
  refine At.then ?_
  refine Cd.block ?_
  refine Cd.bound (Rd.le (α := Event) (xs := a0) (by decide) (hs_a0.mono (FLe.trans hF10 hF19) (List.Sublist.cons _ (List.Sublist.cons _ (List.Sublist.cons _ (List.Sublist.cons _ hM)))))) (fun hN55 => ?_)
  obtain ⟨ol20, H, HKl20⟩ := bind_some H
  refine Cd.loop (σ := Nat × Nat × (List (Vector Int 6))) (fun (i20, k20, l21) => [(0, Sl.v s_a0), (3, Sl.v s4), (4, Sl.v s14), (5, .int .i64 (i16 : Int)), (13, .int .i64 (a0.length : Int)), (14, .int .i64 (i16 : Int)), (18, .int .i64 (a0.length : Int)), (19, .int .i64 (i20 : Int))]) (fun (i20, k20, l21) => (.own s14 23 6 (encs l21)) :: (.rows (α := Bool) 4 rs5) :: (.own s4 44 1 (encs rs5)) :: (.own Sl.nil 23 6 (encs ([] : List (Vector Int 6)))) :: L) (fun _ => (fun (i20, k20, l21) => rangeF (partref_Vectors_B2 a0 r2 i16) k20 i20 l21 = some ol20 ∧ i20 + k20 = a0.length)) (fun (i20, k20, l21) => k20) (0, a0.length, l17) ⟨rfl, rfl, rfl, rfl, rfl, rfl, rfl, rfl, trivial⟩ rfl ⟨H, by omega⟩ ?_
  rintro F22 ⟨i20, k20, l21⟩ hF23 ⟨H, hik20⟩
  refine Cd.as (e' := [(0, Sl.v s_a0), (3, Sl.v s4), (4, Sl.v s14), (5, .int .i64 (i16 : Int)), (13, .int .i64 (a0.length : Int)), (14, .int .i64 (i16 : Int)), (18, .int .i64 (a0.length : Int)), (19, .int .i64 (i20 : Int))]) (L' := (.own s14 23 6 (encs l21)) :: (.rows (α := Bool) 4 rs5) :: (.own s4 44 1 (encs rs5)) :: (.own Sl.nil 23 6 (encs ([] : List (Vector Int 6)))) :: L) ⟨rfl, rfl, rfl, rfl, rfl, rfl, rfl, rfl, trivial⟩ rfl ?_
  rcases k20 with _ | k20
  · have hc20 : decide ((i20 : Int) < (a0.length : Int)) = false := decide_eq_false (by omega)
    replace H := rangeF_end H
    refine Cd.seq ?_
    refine Cd.region ?_
    refine Lst.run rfl rfl (by decide) (Ev.lss rfl rfl) ?_
    refine Lst.nil ?_
    refine At.then ?_
    refine Cd.seq ?_
    refine Cd.condF rfl hc20 ?_
    refine Cd.exit ?_
    refine At.then_exit ?_
    refine At.then_exit ?_
    refine At.in_exit ?_
    subst H
    replace H := HKl20
    refine At.in_normal ?_
    refine At.then ?_
    refine Cd.region ?_
    refine Lst.run rfl rfl (by decide) (Ev.incr (by omega) rfl rfl) ?_
    refine Lst.run rfl rfl (by decide) (Ev.move rfl) ?_
    refine Lst.nil ?_
    exact At.meet (i16 + 1, k16, l21) (FLe.trans hF19 hF23) ⟨rfl, rfl, rfl, rfl, rfl, trivial⟩ rfl ⟨⟨hgo16 _ (some_inj H).symm, by omega⟩, Nat.lt_succ_self _⟩
  have hc20 : decide ((i20 : Int) < (a0.length : Int)) = true := decide_eq_true (by omega)
  obtain ⟨c20, H, hgo20⟩ := rangeF_go H
  unfold partref_Vectors_B2 at H
  try dsimp only at H
  refine Cd.seq ?_
  refine Cd.region ?_
  refine Lst.run rfl rfl (by decide) (Ev.lss rfl rfl) ?_
  refine Lst.nil ?_
  refine At.then ?_
  refine Cd.seq ?_
  refine Cd.condT rfl hc20 ?_
  refine Cd.skip ?_
  refine At.then ?_
  refine Cd.seq ?_
  refine Cd.block ?_
  refine Cd.seq ?_
  refine Cd.region ?_
  refine Lst.run rfl rfl (by decide) (Ev.move rfl) ?_
  refine Lst.run rfl rfl (by decide) (Ev.assign rfl) ?_
  refine Lst.nil ?_
  refine At.then ?_
  refine Cd.seq ?_
  refine Cd.region ?_
  refine Lst.run rfl rfl (by decide) (Ev.move rfl) ?_
  refine Lst.run rfl rfl (by decide) (Ev.move rfl) ?_
  obtain ⟨x24, h25, H⟩ := bind_some H
  have g26 := lat_some h25
  obtain ⟨⟨r27v, r27h⟩, r27g, r27e, r27m⟩ := map_get fm6 g26.2.2
  obtain rfl : x24 = r27v := r27e.symm
  have hh28 := row_h r27g
  refine Lst.run rfl rfl (by decide) (Ev.indexS (α := LR Bool) (xs := rs5) rfl rfl Try.runUnderlying42 Try.sizeOf44 rfl (by decide) (Rd.own (i := 2) rfl rfl rfl) g26.1 (by have := map_len fm6; omega)) ?_
  refine Lst.run rfl rfl (by decide) (Ev.loadS (α := LR Bool) rfl (Rd.own (i := 2) rfl rfl rfl) Try.isAgg44 (v := Sl.v r27h) ((Get.elemN (s := 1) rfl r27g (Get.here _)).off (by omega))) ?_
  refine Lst.run rfl rfl (by decide) (Ev.move rfl) ?_
  obtain ⟨x29, h30, H⟩ := bind_some H
  have g31 := lat_some h30
  refine Lst.run rfl rfl (by decide) (Ev.indexS (α := Bool) (xs := x24) rfl rfl Try.runUnderlying44 Try.sizeOf4 rfl (by decide) (Rd.row (j := 1) rfl r27g) g31.1 g31.2.1) ?_
  refine Lst.run rfl rfl (by decide) (Ev.loadS (α := Bool) rfl (Rd.row (j := 1) rfl r27g) Try.isAgg4 (v := .bool x29) ((Get.elemN (s := 1) (x := x29) rfl g31.2.2 (Get.here _)).off (by omega))) ?_
  refine Lst.run rfl rfl (by decide) (Ev.move rfl) ?_
  obtain ⟨o32, H, HKo32⟩ := bind_some H
  refine Lst.join (σ := Bool) 4 (fun y33 => [(0, Sl.v s_a0), (3, Sl.v s4), (4, Sl.v s14), (5, .int .i64 (i16 : Int)), (6, .int .i64 (i20 : Int)), (13, .int .i64 (a0.length : Int)), (14, .int .i64 (i16 : Int)), (18, .int .i64 (a0.length : Int)), (19, .int .i64 (i20 : Int)), (33, .bool y33)]) (fun y33 => (.own s14 23 6 (encs l21)) :: (.rows (α := Bool) 4 rs5) :: (.own s4 44 1 (encs rs5)) :: (.own Sl.nil 23 6 (encs ([] : List (Vector Int 6)))) :: L) (fun _ y33 => y33 = o32) ?_ ?_
  · rcases Bool.eq_false_or_eq_true x29 with hb34 | hb34
    · replace H := ite_t hb34 H
      refine Lst.skip rfl rfl rfl hb34 rfl (by decide) ?_
      refine Lst.skip rfl rfl rfl hb34 rfl (by decide) ?_
      refine Lst.skip rfl rfl rfl hb34 rfl (by decide) ?_
      refine Lst.run rfl rfl (by decide) (Ev.pickT rfl hb34 rfl) ?_
      refine Lst.nil ?_
      exact At.meet true (FLe.refl _) ⟨rfl, rfl, rfl, rfl, rfl, rfl, rfl, rfl, rfl, rfl, trivial⟩ rfl (some_inj H)
    replace H := ite_f hb34 H
    refine Lst.runG rfl rfl rfl hb34 rfl (by decide) (Ev.move rfl) ?_
    refine Lst.runG rfl rfl rfl hb34 rfl (by decide) (Ev.move rfl) ?_
    refine Lst.runG rfl rfl rfl hb34 rfl (by decide) (Ev.eql rfl rfl) ?_
    refine Lst.run rfl rfl (by decide) (Ev.pickF rfl hb34 rfl) ?_
    refine Lst.nil ?_
    exact At.meet ((i20 : Int) == (i16 : Int)) (FLe.refl _) ⟨rfl, rfl, rfl, rfl, rfl, rfl, rfl, rfl, rfl, rfl, trivial⟩ rfl (some_inj H)
  rintro F35 y33 hF36 hy
  subst hy
  refine Lst.as (e' := [(0, Sl.v s_a0), (3, Sl.v s4), (4, Sl.v s14), (5, .int .i64 (i16 : Int)), (6, .int .i64 (i20 : Int)), (13, .int .i64 (a0.length : Int)), (14, .int .i64 (i16 : Int)), (18, .int .i64 (a0.length : Int)), (19, .int .i64 (i20 : Int)), (33, .bool y33)]) (L' := (.own s14 23 6 (encs l21)) :: (.rows (α := Bool) 4 rs5) :: (.own s4 44 1 (encs rs5)) :: (.own Sl.nil 23 6 (encs ([] : List (Vector Int 6)))) :: L) ⟨rfl, rfl, rfl, rfl, rfl, rfl, rfl, rfl, rfl, rfl, trivial⟩ rfl ?_
  replace H := HKo32
  refine Lst.nil ?_
  refine At.then ?_
  rcases (Bool.eq_false_or_eq_true y33).symm with hb37 | hb37
  · replace H := ite_f hb37 H
    refine Cd.condF rfl hb37 ?_
    refine Cd.skip ?_
    refine At.in_normal ?_
    refine At.then ?_
    refine Cd.region ?_
    refine Lst.run rfl rfl (by decide) (Ev.incr (by omega) rfl rfl) ?_
    refine Lst.run rfl rfl (by decide) (Ev.move rfl) ?_
    refine Lst.nil ?_
    exact At.meet (i20 + 1, k20, l21) (FLe.trans hF23 hF36) ⟨rfl, rfl, rfl, rfl, rfl, rfl, rfl, rfl, trivial⟩ rfl ⟨⟨hgo20 _ (some_inj H).symm, by omega⟩, Nat.lt_succ_self _⟩
  replace H := ite_t hb37 H
  refine Cd.condT rfl hb37 ?_
  refine Cd.tail 13 (by kernel_rfl) (by kernel_rfl) ?_
  refine Qt.run rfl rfl (by decide) (Ev.move rfl) ?_
  refine Qt.run rfl rfl (by decide) (Ev.move rfl) ?_
  refine Qt.run rfl rfl (by decide) (Ev.move rfl) ?_
  refine Qt.run rfl rfl (by decide) (Ev.move rfl) ?_
  obtain ⟨x38, h39, H⟩ := bind_some H
  have g40 := lat_some h39
  refine Qt.run rfl rfl (by decide) (Ev.indexS (α := Event) (xs := a0) rfl rfl Try.runUnderlying24 Try.sizeOf75 rfl (by decide) (hs_a0.mono (FLe.trans (FLe.trans (FLe.trans hF10 hF19) hF23) hF36) (List.Sublist.cons _ (List.Sublist.cons _ (List.Sublist.cons _ (List.Sublist.cons _ hM))))) g40.1 g40.2.1) ?_
  refine Qt.run rfl rfl (by decide) (Ev.fieldS (α := Event) (f' := (i20 : Int).toNat * 3 + 0) rfl (hs_a0.mono (FLe.trans (FLe.trans (FLe.trans hF10 hF19) hF23) hF36) (List.Sublist.cons _ (List.Sublist.cons _ (List.Sublist.cons _ (List.Sublist.cons _ hM))))) ((Get.elemN (s := 3) (x := x38) rfl g40.2.2 (Get.here _)).off (by omega)) rfl Try.runUnderlying75 rfl Try.sizeOf3 rfl rfl rfl) ?_
  refine Qt.run rfl rfl (by decide) (Ev.loadS (α := Event) rfl (hs_a0.mono (FLe.trans (FLe.trans (FLe.trans hF10 hF19) hF23) hF36) (List.Sublist.cons _ (List.Sublist.cons _ (List.Sublist.cons _ (List.Sublist.cons _ hM))))) Try.isAgg3 (v := .int .i64 x38.Proc) ((Get.elemN (s := 3) (x := x38) rfl g40.2.2 (Event.get_Proc (Get.here _))).off (by omega))) ?_
  obtain ⟨x41, h42, H⟩ := bind_some H
  have g43 := lat_some h42
  refine Qt.run rfl rfl (by decide) (Ev.indexS (α := Vector Int 6) (xs := l21) rfl rfl Try.runUnderlying28 Try.sizeOf23 rfl (by decide) (Rd.own (i := 0) rfl rfl rfl) g43.1 g43.2.1) ?_
  obtain ⟨x44, h45, H⟩ := bind_some H
  have g46 := vat_some h45
  refine Qt.run rfl rfl (by decide) (Ev.indexAS (α := Vector Int 6) (off' := (i16 : Int).toNat * 6 + x38.Proc.toNat * 1) rfl rfl (Rd.own (i := 0) rfl rfl rfl) ((Get.elemN (s := 6) (x := x41) rfl g43.2.2 (Get.here _)).off (by omega)) (by rw [Enc.len]; rfl) Try.runUnderlying23 Try.sizeOf3 g46.1 g46.2.1 rfl) ?_
  refine Qt.run rfl rfl (by decide) (Ev.loadS (α := Vector Int 6) rfl (Rd.own (i := 0) rfl rfl rfl) Try.isAgg3 (v := .int .i64 x44) ((Get.elemN (s := 6) (x := x41) rfl g43.2.2 (Get.vecN (s := 1) (x := x44) rfl g46.2.2 (Get.here _))).off (by omega))) ?_
  refine Qt.run rfl rfl (by decide) (Ev.add rfl rfl) ?_
  obtain ⟨x47, h48, H⟩ := bind_some H
  have g49 := lat_some h48
  refine Qt.run rfl rfl (by decide) (Ev.indexS (α := Vector Int 6) (xs := l21) rfl rfl Try.runUnderlying28 Try.sizeOf23 rfl (by decide) (Rd.own (i := 0) rfl rfl rfl) g49.1 g49.2.1) ?_
  obtain ⟨x50, h51, H⟩ := bind_some H
  have g52 := vat_some h51
  refine Qt.run rfl rfl (by decide) (Ev.indexAS (α := Vector Int 6) (off' := (i16 : Int).toNat * 6 + x38.Proc.toNat * 1) rfl rfl (Rd.own (i := 0) rfl rfl rfl) ((Get.elemN (s := 6) (x := x47) rfl g49.2.2 (Get.here _)).off (by omega)) (by rw [Enc.len]; rfl) Try.runUnderlying23 Try.sizeOf3 g52.1 g52.2.1 rfl) ?_
  refine Qt.tail ?_
  obtain ⟨p53, h54, H⟩ := Let_some H
  refine Lst.storeS (i := 0) rfl rfl rfl rfl rfl Try.sizeOf3 (vs := [.int .i64 (w64 (x44 + (1 : Int)))]) rfl rfl (by decide) rfl (xs' := encs p53) (by rw [← h54]; exact (Put.elemN (s := 6) (x := x47) rfl g49.2.2 (Put.vecN (s := 1) (x := x50) rfl g52.2.2 (Put.here (vs := [.int .i64 (w64 (x44 + (1 : Int)))]) rfl))).off (by omega)) (L' := (.own s14 23 6 (encs p53)) :: (.rows (α := Bool) 4 rs5) :: (.own s4 44 1 (encs rs5)) :: (.own Sl.nil 23 6 (encs ([] : List (Vector Int 6)))) :: L) rfl ?_
  refine Lst.nil ?_
  refine At.in_normal ?_
  refine At.then ?_
  refine Cd.as (e' := [(0, Sl.v s_a0), (3, Sl.v s4), (4, Sl.v s14), (5, .int .i64 (i16 : Int)), (13, .int .i64 (a0.length : Int)), (14, .int .i64 (i16 : Int)), (18, .int .i64 (a0.length : Int)), (19, .int .i64 (i20 : Int))]) (L' := (.own s14 23 6 (encs p53)) :: (.rows (α := Bool) 4 rs5) :: (.own s4 44 1 (encs rs5)) :: (.own Sl.nil 23 6 (encs ([] : List (Vector Int 6)))) :: L) ⟨rfl, rfl, rfl, rfl, rfl, rfl, rfl, rfl, trivial⟩ rfl ?_
  refine Cd.region ?_
  refine Lst.run rfl rfl (by decide) (Ev.incr (by omega) rfl rfl) ?_
  refine Lst.run rfl rfl (by decide) (Ev.move rfl) ?_
  refine Lst.nil ?_
  exact At.meet (i20 + 1, k20, p53) (FLe.trans hF23 hF36) ⟨rfl, rfl, rfl, rfl, rfl, rfl, rfl, rfl, trivial⟩ rfl ⟨⟨hgo20 _ (some_inj H).symm, by omega⟩, Nat.lt_succ_self _⟩
set_option maxRecDepth 20000 in
theorem partref_Compare_sim {a0 : Vector Int 6} {a1 : Vector Int 6} {r : Int} (H : partref_Compare a0 a1 = some r) (w0 : World) (F : Frz) (M L : List Item) (hM : M.Sublist L) : Ok Try.prog w0 13 [.agg (enc a0).toArray, .agg (enc a1).toArray] F (L) (Is (.int .i64 r) (L)) := by
  unfold partref_Compare at H
  refine Ok.enter (m := 2) (n := 41) Try.func13 rfl rfl rfl (by decide) ?_
  refine Cd.env (e' := [(0, .agg (enc a0).toArray), (1, .agg (enc a1).toArray)]) rfl ?_
  refine Cd.seq ?_
  refine Cd.region ?_
  refine Lst.box rfl rfl (by decide) rfl (cs := enc a0) rfl (fun b1 => ?_)
  refine Lst.box rfl rfl (by decide) rfl (cs := enc a1) rfl (fun b3 => ?_)
  refine Lst.run rfl rfl (by decide) (Ev.assign rfl) ?_
  refine Lst.nil ?_
  refine At.then ?_
  refine Cd.seq ?_
  refine Cd.region ?_
  refine Lst.run rfl rfl (by decide) (Ev.assign rfl) ?_
  refine Lst.run rfl rfl (by decide) (Ev.assign rfl) ?_
  refine Lst.nil ?_
  refine At.then ?_
  refine Cd.seq ?_
  refine Cd.seq ?_
  refine Cd.region ?_
  refine Lst.run rfl rfl (by decide) (Ev.move rfl) ?_
  refine Lst.nil ?_
  refine At.then ?_
  refine Cd.block ?_
  obtain ⟨ol5, H, HKl5⟩ := bind_some H
  refine Cd.loop (σ := Nat × Nat × Bool × Bool) (fun (i5, k5, y6, y7) => [(2, .pointer (some ⟨b1, 0, none⟩)), (3, .pointer (some ⟨b3, 0, none⟩)), (5, .bool y6), (6, .bool y7), (8, .int .i64 (i5 : Int))]) (fun (i5, k5, y6, y7) => (.blk b3 (enc a1) 23) :: (.blk b1 (enc a0) 23) :: L) (fun _ => (fun (i5, k5, y6, y7) => rangeF (partref_Compare_B0 a0 a1) k5 i5 (y6, y7) = some ol5 ∧ i5 + k5 = 6)) (fun (i5, k5, y6, y7) => k5) (0, 6, false, false) ⟨rfl, rfl, rfl, rfl, rfl, trivial⟩ rfl ⟨H, by omega⟩ ?_
  rintro F8 ⟨i5, k5, y6, y7⟩ hF9 ⟨H, hik5⟩
  refine Cd.as (e' := [(2, .pointer (some ⟨b1, 0, none⟩)), (3, .pointer (some ⟨b3, 0, none⟩)), (5, .bool y6), (6, .bool y7), (8, .int .i64 (i5 : Int))]) (L' := (.blk b3 (enc a1) 23) :: (.blk b1 (enc a0) 23) :: L) ⟨rfl, rfl, rfl, rfl, rfl, trivial⟩ rfl ?_
  rcases k5 with _ | k5
  · have hc5 : decide ((i5 : Int) < (6 : Int)) = false := decide_eq_false (by omega)
    replace H := rangeF_end H
    refine Cd.seq ?_
    refine Cd.region ?_
    refine Lst.run rfl rfl (by decide) (Ev.lss rfl rfl) ?_
    refine Lst.nil ?_
    refine At.then ?_
    refine Cd.seq ?_
    refine Cd.condF rfl hc5 ?_
    refine Cd.exit ?_
    refine At.then_exit ?_
    refine At.then_exit ?_
    refine At.in_exit ?_
    subst H
    replace H := HKl5
    refine At.then ?_
    refine Cd.seq ?_
    refine Cd.block ?_
    refine Cd.seq ?_
    refine Cd.region ?_
    refine Lst.run rfl rfl (by decide) (Ev.move rfl) ?_
    refine Lst.run rfl rfl (by decide) (Ev.move rfl) ?_
    obtain ⟨o28, H, HKo28⟩ := bind_some H
    refine Lst.join (σ := Bool) 2 (fun y29 => [(5, .bool y6), (6, .bool y7), (36, .bool y29)]) (fun y29 => (.blk b3 (enc a1) 23) :: (.blk b1 (enc a0) 23) :: L) (fun _ y29 => y29 = o28) ?_ ?_
    · rcases (Bool.eq_false_or_eq_true y6).symm with hb30 | hb30
      · replace H := ite_f hb30 H
        refine Lst.skip rfl rfl rfl hb30 rfl (by decide) ?_
        refine Lst.run rfl rfl (by decide) (Ev.pickF rfl hb30 rfl) ?_
        refine Lst.nil ?_
        exact At.meet false (FLe.refl _) ⟨rfl, rfl, rfl, trivial⟩ rfl (some_inj H)
      replace H := ite_t hb30 H
      refine Lst.runG rfl rfl rfl hb30 rfl (by decide) (Ev.move rfl) ?_
      refine Lst.run rfl rfl (by decide) (Ev.pickT rfl hb30 rfl) ?_
      refine Lst.nil ?_
      exact At.meet y7 (FLe.refl _) ⟨rfl, rfl, rfl, trivial⟩ rfl (some_inj H)
    rintro F31 y29 hF32 hy
    subst hy
    refine Lst.as (e' := [(5, .bool y6), (6, .bool y7), (36, .bool y29)]) (L' := (.blk b3 (enc a1) 23) :: (.blk b1 (enc a0) 23) :: L) ⟨rfl, rfl, rfl, trivial⟩ rfl ?_
    replace H := HKo28
    refine Lst.run rfl rfl (by decide) (Ev.assign rfl) ?_
    refine Lst.nil ?_
    refine At.then ?_
    rcases Bool.eq_false_or_eq_true y29 with hb33 | hb33
    · replace H := ite_t hb33 H
      refine Cd.condT rfl hb33 ?_
      refine Cd.seq ?_
      refine Cd.region ?_
      refine Lst.run rfl rfl (by decide) (Ev.assign rfl) ?_
      refine Lst.nil ?_
      refine At.then ?_
      obtain rfl := some_inj H
      refine Cd.ret ?_
      refine At.in_ret ?_
      refine At.then_ret ?_
      exact At.ret1 rfl (Res.tmp rfl) (FLe.trans hF9 hF32) (List.Sublist.cons _ (List.Sublist.cons _ (List.Sublist.refl _))) ⟨rfl, rfl⟩
    replace H := ite_f hb33 H
    refine Cd.condF rfl hb33 ?_
    refine Cd.seq ?_
    refine Cd.region ?_
    refine Lst.run rfl rfl (by decide) (Ev.move rfl) ?_
    refine Lst.run rfl rfl (by decide) (Ev.assign rfl) ?_
    refine Lst.nil ?_
    refine At.then ?_
    rcases Bool.eq_false_or_eq_true y7 with hb34 | hb34
    · replace H := ite_t hb34 H
      refine Cd.condT rfl hb34 ?_
      refine Cd.seq ?_
      refine Cd.region ?_
      refine Lst.run rfl rfl (by decide) (Ev.assign rfl) ?_
      refine Lst.nil ?_
      refine At.then ?_
      obtain rfl := some_inj H
      refine Cd.ret ?_
      refine At.in_ret ?_
      refine At.then_ret ?_
      exact At.ret1 rfl (Res.tmp rfl) (FLe.trans hF9 hF32) (List.Sublist.cons _ (List.Sublist.cons _ (List.Sublist.refl _))) ⟨rfl, rfl⟩
    replace H := ite_f hb34 H
    refine Cd.condF rfl hb34 ?_
    refine Cd.seq ?_
    refine Cd.region ?_
    refine Lst.run rfl rfl (by decide) (Ev.move rfl) ?_
    refine Lst.run rfl rfl (by decide) (Ev.assign rfl) ?_
    refine Lst.nil ?_
    refine At.then ?_
    rcases Bool.eq_false_or_eq_true y6 with hb35 | hb35
    · replace H := ite_t hb35 H
      refine Cd.condT rfl hb35 ?_
      refine Cd.seq ?_
      refine Cd.region ?_
      refine Lst.run rfl rfl (by decide) (Ev.assign rfl) ?_
      refine Lst.nil ?_
      refine At.then ?_
      obtain rfl := some_inj H
      refine Cd.ret ?_
      refine At.in_ret ?_
      refine At.then_ret ?_
      exact At.ret1 rfl (Res.tmp rfl) (FLe.trans hF9 hF32) (List.Sublist.cons _ (List.Sublist.cons _ (List.Sublist.refl _))) ⟨rfl, rfl⟩
    replace H := ite_f hb35 H
    refine Cd.condF rfl hb35 ?_
    refine Cd.skip ?_
    refine At.in_normal ?_
    refine At.then ?_
    refine Cd.seq ?_
    refine Cd.region ?_
    refine Lst.run rfl rfl (by decide) (Ev.assign rfl) ?_
    refine Lst.nil ?_
    refine At.then ?_
    obtain rfl := some_inj H
    refine Cd.ret ?_
    exact At.ret1 rfl (Res.tmp rfl) (FLe.trans hF9 hF32) (List.Sublist.cons _ (List.Sublist.cons _ (List.Sublist.refl _))) ⟨rfl, rfl⟩
  have hc5 : decide ((i5 : Int) < (6 : Int)) = true := decide_eq_true (by omega)
  obtain ⟨c5, H, hgo5⟩ := rangeF_go H
  unfold partref_Compare_B0 at H
  try dsimp only at H
  refine Cd.seq ?_
  refine Cd.region ?_
  refine Lst.run rfl rfl (by decide) (Ev.lss rfl rfl) ?_
  refine Lst.nil ?_
  refine At.then ?_
  refine Cd.seq ?_
  refine Cd.condT rfl hc5 ?_
  refine Cd.skip ?_
  refine At.then ?_
  refine Cd.seq ?_
  refine Cd.block ?_
  refine Cd.seq ?_
  refine Cd.region ?_
  refine Lst.run rfl rfl (by decide) (Ev.move rfl) ?_
  refine Lst.run rfl rfl (by decide) (Ev.assign rfl) ?_
  refine Lst.nil ?_
  refine At.then ?_
  refine Cd.seq ?_
  refine Cd.quiet (by kernel_rfl) (by kernel_rfl) ?_
  refine Qt.run rfl rfl (by decide) (Ev.move rfl) ?_
  refine Qt.run rfl rfl (by decide) (Ev.move rfl) ?_
  obtain ⟨o10, H, HKo10⟩ := bind_some H
  refine Qt.join (σ := Bool) 8 (fun y11 => [(2, .pointer (some ⟨b1, 0, none⟩)), (3, .pointer (some ⟨b3, 0, none⟩)), (5, .bool y6), (6, .bool y7), (7, .int .i64 (i5 : Int)), (8, .int .i64 (i5 : Int)), (20, .bool y11)]) (fun y11 => y11 = o10) ?_ ?_
  · rcases Bool.eq_false_or_eq_true y6 with hb12 | hb12
    · replace H := ite_t hb12 H
      refine Qt.skip rfl rfl rfl hb12 rfl (by decide) ?_
      refine Qt.skip rfl rfl rfl hb12 rfl (by decide) ?_
      refine Qt.skip rfl rfl rfl hb12 rfl (by decide) ?_
      refine Qt.skip rfl rfl rfl hb12 rfl (by decide) ?_
      refine Qt.skip rfl rfl rfl hb12 rfl (by decide) ?_
      refine Qt.skip rfl rfl rfl hb12 rfl (by decide) ?_
      refine Qt.skip rfl rfl rfl hb12 rfl (by decide) ?_
      refine Qt.run rfl rfl (by decide) (Ev.pickT rfl hb12 rfl) ?_
      exact Qt.meet true ⟨rfl, rfl, rfl, rfl, rfl, rfl, rfl, trivial⟩ (some_inj H)
    replace H := ite_f hb12 H
    refine Qt.runG rfl rfl rfl hb12 rfl (by decide) (Ev.move rfl) ?_
    obtain ⟨x13, h14, H⟩ := bind_some H
    have g15 := vat_some h14
    refine Qt.runG rfl rfl rfl hb12 rfl (by decide) (Ev.indexAddr (off' := 0 + (i5 : Int).toNat * 1) rfl rfl Try.runUnderlying23 Try.sizeOf3 g15.1 g15.2.1 rfl) ?_
    refine Qt.runG rfl rfl rfl hb12 rfl (by decide) (Ev.load (i := 1) rfl rfl Try.isAgg3 (v := .int .i64 x13) ((Get.vecN (s := 1) (x := x13) rfl g15.2.2 (Get.here _)).off (by omega))) ?_
    refine Qt.runG rfl rfl rfl hb12 rfl (by decide) (Ev.move rfl) ?_
    obtain ⟨x16, h17, H⟩ := bind_some H
    have g18 := vat_some h17
    refine Qt.runG rfl rfl rfl hb12 rfl (by decide) (Ev.indexAddr (off' := 0 + (i5 : Int).toNat * 1) rfl rfl Try.runUnderlying23 Try.sizeOf3 g18.1 g18.2.1 rfl) ?_
    refine Qt.runG rfl rfl rfl hb12 rfl (by decide) (Ev.load (i := 0) rfl rfl Try.isAgg3 (v := .int .i64 x16) ((Get.vecN (s := 1) (x := x16) rfl g18.2.2 (Get.here _)).off (by omega))) ?_
    refine Qt.runG rfl rfl rfl hb12 rfl (by decide) (Ev.lss rfl rfl) ?_
    refine Qt.run rfl rfl (by decide) (Ev.pickF rfl hb12 rfl) ?_
    exact Qt.meet (decide (x13 < x16)) ⟨rfl, rfl, rfl, rfl, rfl, rfl, rfl, trivial⟩ (some_inj H)
  rintro y11 hy
  subst hy
  refine Qt.as (e' := [(2, .pointer (some ⟨b1, 0, none⟩)), (3, .pointer (some ⟨b3, 0, none⟩)), (5, .bool y6), (6, .bool y7), (7, .int .i64 (i5 : Int)), (8, .int .i64 (i5 : Int)), (20, .bool y11)]) ⟨rfl, rfl, rfl, rfl, rfl, rfl, rfl, trivial⟩ ?_
  replace H := HKo10
  refine Qt.run rfl rfl (by decide) (Ev.assign rfl) ?_
  refine Qt.done ?_
  refine At.then ?_
  refine Cd.quiet (by kernel_rfl) (by kernel_rfl) ?_
  refine Qt.run rfl rfl (by decide) (Ev.move rfl) ?_
  refine Qt.run rfl rfl (by decide) (Ev.move rfl) ?_
  obtain ⟨o19, H, HKo19⟩ := bind_some H
  refine Qt.join (σ := Bool) 8 (fun y20 => [(2, .pointer (some ⟨b1, 0, none⟩)), (3, .pointer (some ⟨b3, 0, none⟩)), (5, .bool y11), (6, .bool y7), (8, .int .i64 (i5 : Int)), (30, .bool y20)]) (fun y20 => y20 = o19) ?_ ?_
  · rcases Bool.eq_false_or_eq_true y7 with hb21 | hb21
    · replace H := ite_t hb21 H
      refine Qt.skip rfl rfl rfl hb21 rfl (by decide) ?_
      refine Qt.skip rfl rfl rfl hb21 rfl (by decide) ?_
      refine Qt.skip rfl rfl rfl hb21 rfl (by decide) ?_
      refine Qt.skip rfl rfl rfl hb21 rfl (by decide) ?_
      refine Qt.skip rfl rfl rfl hb21 rfl (by decide) ?_
      refine Qt.skip rfl rfl rfl hb21 rfl (by decide) ?_
      refine Qt.skip rfl rfl rfl hb21 rfl (by decide) ?_
      refine Qt.run rfl rfl (by decide) (Ev.pickT rfl hb21 rfl) ?_
      exact Qt.meet true ⟨rfl, rfl, rfl, rfl, rfl, rfl, trivial⟩ (some_inj H)
    replace H := ite_f hb21 H
    refine Qt.runG rfl rfl rfl hb21 rfl (by decide) (Ev.move rfl) ?_
    obtain ⟨x22, h23, H⟩ := bind_some H
    have g24 := vat_some h23
    refine Qt.runG rfl rfl rfl hb21 rfl (by decide) (Ev.indexAddr (off' := 0 + (i5 : Int).toNat * 1) rfl rfl Try.runUnderlying23 Try.sizeOf3 g24.1 g24.2.1 rfl) ?_
    refine Qt.runG rfl rfl rfl hb21 rfl (by decide) (Ev.load (i := 1) rfl rfl Try.isAgg3 (v := .int .i64 x22) ((Get.vecN (s := 1) (x := x22) rfl g24.2.2 (Get.here _)).off (by omega))) ?_
    refine Qt.runG rfl rfl rfl hb21 rfl (by decide) (Ev.move rfl) ?_
    obtain ⟨x25, h26, H⟩ := bind_some H
    have g27 := vat_some h26
    refine Qt.runG rfl rfl rfl hb21 rfl (by decide) (Ev.indexAddr (off' := 0 + (i5 : Int).toNat * 1) rfl rfl Try.runUnderlying23 Try.sizeOf3 g27.1 g27.2.1 rfl) ?_
    refine Qt.runG rfl rfl rfl hb21 rfl (by decide) (Ev.load (i := 0) rfl rfl Try.isAgg3 (v := .int .i64 x25) ((Get.vecN (s := 1) (x := x25) rfl g27.2.2 (Get.here _)).off (by omega))) ?_
    refine Qt.runG rfl rfl rfl hb21 rfl (by decide) (Ev.gtr rfl rfl) ?_
    refine Qt.run rfl rfl (by decide) (Ev.pickF rfl hb21 rfl) ?_
    exact Qt.meet (decide (x22 > x25)) ⟨rfl, rfl, rfl, rfl, rfl, rfl, trivial⟩ (some_inj H)
  rintro y20 hy
  subst hy
  refine Qt.as (e' := [(2, .pointer (some ⟨b1, 0, none⟩)), (3, .pointer (some ⟨b3, 0, none⟩)), (5, .bool y11), (6, .bool y7), (8, .int .i64 (i5 : Int)), (30, .bool y20)]) ⟨rfl, rfl, rfl, rfl, rfl, rfl, trivial⟩ ?_
  replace H := HKo19
  refine Qt.run rfl rfl (by decide) (Ev.assign rfl) ?_
  refine Qt.done ?_
  refine At.in_normal ?_
  refine At.then ?_
  refine Cd.region ?_
  refine Lst.run rfl rfl (by decide) (Ev.incr (by omega) rfl rfl) ?_
  refine Lst.run rfl rfl (by decide) (Ev.move rfl) ?_
  refine Lst.nil ?_
  exact At.meet (i5 + 1, k5, y11, y20) hF9 ⟨rfl, rfl, rfl, rfl, rfl, trivial⟩ rfl ⟨⟨hgo5 _ (some_inj H).symm, by omega⟩, Nat.lt_succ_self _⟩
set_option maxRecDepth 20000 in
theorem partref_rightCut_sim {a0 : List Event} {a1 : List (Vector Int 6)} {a2 : Vector Int 6} {s_a0 : Sl} {s_a1 : Sl} {r : Bool} (H : partref_rightCut a0 a1 a2 = some r) (w0 : World) (F : Frz) (M L : List Item) (hM : M.Sublist L) (hs_a0 : Rd w0 F M s_a0 a0) (hs_a1 : Rd w0 F M s_a1 a1) : Ok Try.prog w0 62 [Sl.v s_a0, Sl.v s_a1, .agg (enc a2).toArray] F (L) (Is (.bool r) (L)) := by
  unfold partref_rightCut at H
  refine Ok.enter (m := 3) (n := 29) Try.func62 rfl rfl rfl (by decide) ?_
  refine Cd.env (e' := [(0, Sl.v s_a0), (1, Sl.v s_a1), (2, .agg (enc a2).toArray)]) rfl ?_
  refine Cd.seq ?_
  refine Cd.region ?_
  refine Lst.box rfl rfl (by decide) rfl (cs := enc a2) rfl (fun b1 => ?_)
  refine Lst.run rfl rfl (by decide) (Ev.assign rfl) ?_
  refine Lst.nil ?_
  refine At.then ?_
  refine Cd.seq ?_
  refine Cd.seq ?_
  refine Cd.region ?_
  refine Lst.run rfl rfl (by decide) (Ev.move rfl) ?_
  refine Lst.run rfl rfl (by decide) (Ev.loadA (i := 0) rfl rfl Try.isAgg23 Try.sizeOf23 (ch := enc a2) (Enc.len _) (Get.here _)) ?_
  obtain ⟨r3, h4, H⟩ := bind_some H
  refine Lst.call rfl rfl (by decide) (vs := [Sl.v s_a0, .agg (enc a2).toArray]) ⟨rfl, rfl, trivial⟩ Try.call58 (partref_inCut_sim h4 w0 _ M _ (List.Sublist.cons _ hM) (hs_a0.mono (FLe.refl _) (List.Sublist.refl _))) (fun F7 L' v hF8 hv => ?_)
  obtain ⟨s5, rfl, rfl⟩ := hv
  refine Lst.run rfl rfl (by decide) (Ev.lenS (α := Bool) (xs := r3) (by decide) rfl rfl Try.runUnderlying44 (Rd.own (i := 0) rfl rfl rfl)) ?_
  refine Lst.run rfl rfl (by decide) (Ev.move rfl) ?_
  refine Lst.nil ?_
  refine At.then ?_
  refine Cd.block ?_
  refine Cd.bound (Rd.le (α := Bool) (xs := r3) (by decide) (Rd.own (i := 0) rfl rfl rfl)) (fun hN26 => ?_)
  obtain ⟨ol9, H, HKl9⟩ := andThen_some H
  refine Cd.loop (σ := Nat × Nat × Unit) (fun (i9, k9, _u) => [(1, Sl.v s_a1), (5, .pointer (some ⟨b1, 0, none⟩)), (11, Sl.v s5), (12, .int .i64 (r3.length : Int)), (13, .int .i64 (i9 : Int))]) (fun (i9, k9, _u) => (.own s5 4 1 (encs r3)) :: (.blk b1 (enc a2) 23) :: L) (fun _ => (fun (i9, k9, _u) => rangeM (partref_rightCut_B0 a1 a2 r3) k9 i9 () = some ol9 ∧ i9 + k9 = r3.length)) (fun (i9, k9, _u) => k9) (0, r3.length, ()) ⟨rfl, rfl, rfl, rfl, rfl, trivial⟩ rfl ⟨H, by omega⟩ ?_
  rintro F10 ⟨i9, k9, _u⟩ hF11 ⟨H, hik9⟩
  refine Cd.as (e' := [(1, Sl.v s_a1), (5, .pointer (some ⟨b1, 0, none⟩)), (11, Sl.v s5), (12, .int .i64 (r3.length : Int)), (13, .int .i64 (i9 : Int))]) (L' := (.own s5 4 1 (encs r3)) :: (.blk b1 (enc a2) 23) :: L) ⟨rfl, rfl, rfl, rfl, rfl, trivial⟩ rfl ?_
  rcases k9 with _ | k9
  · have hc9 : decide ((i9 : Int) < (r3.length : Int)) = false := decide_eq_false (by omega)
    replace H := rangeM_end H
    refine Cd.seq ?_
    refine Cd.region ?_
    refine Lst.run rfl rfl (by decide) (Ev.lss rfl rfl) ?_
    refine Lst.nil ?_
    refine At.then ?_
    refine Cd.seq ?_
    refine Cd.condF rfl hc9 ?_
    refine Cd.exit ?_
    refine At.then_exit ?_
    refine At.then_exit ?_
    refine At.in_exit ?_
    subst H
    replace H := HKl9
    refine At.then ?_
    refine Cd.seq ?_
    refine Cd.region ?_
    refine Lst.run rfl rfl (by decide) (Ev.assign rfl) ?_
    refine Lst.nil ?_
    refine At.then ?_
    obtain rfl := some_inj H
    refine Cd.ret ?_
    exact At.ret1 rfl (Res.tmp rfl) (FLe.trans hF8 hF11) (List.Sublist.cons _ (List.Sublist.cons _ (List.Sublist.refl _))) ⟨rfl, rfl⟩
  have hc9 : decide ((i9 : Int) < (r3.length : Int)) = true := decide_eq_true (by omega)
  obtain ⟨c9, H, hgo9, hbrk9, hret9⟩ := rangeM_go H
  unfold partref_rightCut_B0 at H
  try dsimp only at H
  refine Cd.seq ?_
  refine Cd.region ?_
  refine Lst.run rfl rfl (by decide) (Ev.lss rfl rfl) ?_
  refine Lst.nil ?_
  refine At.then ?_
  refine Cd.seq ?_
  refine Cd.condT rfl hc9 ?_
  refine Cd.skip ?_
  refine At.then ?_
  refine Cd.seq ?_
  refine Cd.block ?_
  refine Cd.seq ?_
  refine Cd.region ?_
  refine Lst.run rfl rfl (by decide) (Ev.move rfl) ?_
  obtain ⟨x12, h13, H⟩ := bind_some H
  have g14 := lat_some h13
  refine Lst.run rfl rfl (by decide) (Ev.indexS (α := Bool) (xs := r3) rfl rfl Try.runUnderlying44 Try.sizeOf4 rfl (by decide) (Rd.own (i := 0) rfl rfl rfl) g14.1 g14.2.1) ?_
  refine Lst.run rfl rfl (by decide) (Ev.loadS (α := Bool) rfl (Rd.own (i := 0) rfl rfl rfl) Try.isAgg4 (v := .bool x12) ((Get.elemN (s := 1) (x := x12) rfl g14.2.2 (Get.here _)).off (by omega))) ?_
  refine Lst.run rfl rfl (by decide) (Ev.assign rfl) ?_
  refine Lst.run rfl rfl (by decide) (Ev.assign rfl) ?_
  refine Lst.nil ?_
  refine At.then ?_
  refine Cd.seq ?_
  refine Cd.quiet (by kernel_rfl) (by kernel_rfl) ?_
  refine Qt.run rfl rfl (by decide) (Ev.move rfl) ?_
  refine Qt.run rfl rfl (by decide) (Ev.move rfl) ?_
  obtain ⟨o15, H, HKo15⟩ := bind_some H
  refine Qt.join (σ := Bool) 8 (fun y16 => [(1, Sl.v s_a1), (5, .pointer (some ⟨b1, 0, none⟩)), (11, Sl.v s5), (12, .int .i64 (r3.length : Int)), (13, .int .i64 (i9 : Int)), (27, .bool y16)]) (fun y16 => y16 = o15) ?_ ?_
  · rcases (Bool.eq_false_or_eq_true x12).symm with hb17 | hb17
    · replace H := ite_f hb17 H
      refine Qt.skip rfl rfl rfl hb17 rfl (by decide) ?_
      refine Qt.skip rfl rfl rfl hb17 rfl (by decide) ?_
      refine Qt.skip rfl rfl rfl hb17 rfl (by decide) ?_
      refine Qt.skip rfl rfl rfl hb17 rfl (by decide) ?_
      refine Qt.skip rfl rfl rfl hb17 rfl (by decide) ?_
      refine Qt.skip rfl rfl rfl hb17 rfl (by decide) ?_
      refine Qt.skip rfl rfl rfl hb17 rfl (by decide) ?_
      refine Qt.run rfl rfl (by decide) (Ev.pickF rfl hb17 rfl) ?_
      exact Qt.meet false ⟨rfl, rfl, rfl, rfl, rfl, rfl, trivial⟩ (some_inj H)
    replace H := ite_t hb17 H
    refine Qt.runG rfl rfl rfl hb17 rfl (by decide) (Ev.move rfl) ?_
    refine Qt.runG rfl rfl rfl hb17 rfl (by decide) (Ev.move rfl) ?_
    obtain ⟨x18, h19, H⟩ := bind_some H
    have g20 := lat_some h19
    refine Qt.runG rfl rfl rfl hb17 rfl (by decide) (Ev.indexS (α := Vector Int 6) (xs := a1) rfl rfl Try.runUnderlying28 Try.sizeOf23 rfl (by decide) (hs_a1.mono (FLe.trans hF8 hF11) (List.Sublist.cons _ (List.Sublist.cons _ hM))) g20.1 g20.2.1) ?_
    refine Qt.runG rfl rfl rfl hb17 rfl (by decide) (Ev.loadSA (α := Vector Int 6) rfl (hs_a1.mono (FLe.trans hF8 hF11) (List.Sublist.cons _ (List.Sublist.cons _ hM))) Try.isAgg23 Try.sizeOf23 (ch := enc x18) (Enc.len _) (by decide) ((Get.elemN (s := 6) (x := x18) rfl g20.2.2 (Get.here _)).off (by omega))) ?_
    refine Qt.runG rfl rfl rfl hb17 rfl (by decide) (Ev.loadA (i := 1) rfl rfl Try.isAgg23 Try.sizeOf23 (ch := enc a2) (Enc.len _) (Get.here _)) ?_
    obtain ⟨r21, h22, H⟩ := bind_some H
    refine Qt.callG rfl rfl rfl hb17 rfl (by decide) (vs := [.agg (enc x18).toArray, .agg (enc a2).toArray]) ⟨rfl, rfl, trivial⟩ Try.call13 (partref_Compare_sim h22 w0 _ M _ (List.Sublist.cons _ (List.Sublist.cons _ hM))) ?_
    refine Qt.runG rfl rfl rfl hb17 rfl (by decide) (Ev.gtr rfl rfl) ?_
    refine Qt.run rfl rfl (by decide) (Ev.pickT rfl hb17 rfl) ?_
    exact Qt.meet (decide (r21 > (1 : Int))) ⟨rfl, rfl, rfl, rfl, rfl, rfl, trivial⟩ (some_inj H)
  rintro y16 hy
  subst hy
  refine Qt.as (e' := [(1, Sl.v s_a1), (5, .pointer (some ⟨b1, 0, none⟩)), (11, Sl.v s5), (12, .int .i64 (r3.length : Int)), (13, .int .i64 (i9 : Int)), (27, .bool y16)]) ⟨rfl, rfl, rfl, rfl, rfl, rfl, trivial⟩ ?_
  replace H := HKo15
  refine Qt.done ?_
  refine At.then ?_
  rcases Bool.eq_false_or_eq_true y16 with hb25 | hb25
  · replace H := ite_t hb25 H
    refine Cd.condT rfl hb25 ?_
    refine Cd.seq ?_
    refine Cd.region ?_
    refine Lst.run rfl rfl (by decide) (Ev.assign rfl) ?_
    refine Lst.nil ?_
    refine At.then ?_
    have H := hret9 _ (some_inj H).symm
    subst H
    replace H := HKl9
    obtain rfl := some_inj H
    refine Cd.ret ?_
    refine At.in_ret ?_
    refine At.then_ret ?_
    refine At.then_ret ?_
    refine At.in_ret ?_
    refine At.then_ret ?_
    exact At.ret1 rfl (Res.tmp rfl) (FLe.trans hF8 hF11) (List.Sublist.cons _ (List.Sublist.cons _ (List.Sublist.refl _))) ⟨rfl, rfl⟩
  replace H := ite_f hb25 H
  refine Cd.condF rfl hb25 ?_
  refine Cd.skip ?_
  refine At.in_normal ?_
  refine At.then ?_
  refine Cd.region ?_
  refine Lst.run rfl rfl (by decide) (Ev.incr (by omega) rfl rfl) ?_
  refine Lst.run rfl rfl (by decide) (Ev.move rfl) ?_
  refine Lst.nil ?_
  exact At.meet (i9 + 1, k9, ()) hF11 ⟨rfl, rfl, rfl, rfl, rfl, trivial⟩ rfl ⟨⟨hgo9 _ (some_inj H).symm, by omega⟩, Nat.lt_succ_self _⟩
set_option maxRecDepth 20000 in
theorem partref_Cuts_1_simR : ∀ (fu : Nat) {a0 : Vector Int 6} {a1 : Int} {a2 : List Event} {a3 : List (Vector Int 6)} {a4 : List (Vector Int 6)} {a5 : Vector Int 6} {b_a2 : Nat} {s_a2 : Sl} {b_a3 : Nat} {s_a3 : Sl} {b_a4 : Nat} {s_a4 : Sl} {b_a5 : Nat} {b_a6 : Nat} {r : (List (Vector Int 6))} (H : partref_Cuts_1 fu a0 a1 a2 a3 a4 a5 = some r) (w0 : World) (F : Frz) (M L : List Item) (hM : M.Sublist L) (hs_a2 : Rd w0 F M s_a2 a2) (hs_a3 : Rd w0 F M s_a3 a3), Ok Try.prog w0 61 [.agg (enc a0).toArray, .int .i64 a1, .pointer (some ⟨b_a2, 0, none⟩), .pointer (some ⟨b_a3, 0, none⟩), .pointer (some ⟨b_a4, 0, none⟩), .pointer (some ⟨b_a5, 0, none⟩), .pointer (some ⟨b_a6, 0, none⟩)] F ((.blk b_a2 (enc s_a2) 24) :: (.blk b_a3 (enc s_a3) 28) :: (.own s_a4 23 6 (encs a4)) :: (.blk b_a4 (enc s_a4) 28) :: (.blk b_a5 (enc a5) 23) :: (.blk b_a6 [.func (.func 61) #[] #[.pointer (some ⟨b_a2, 0, none⟩), .pointer (some ⟨b_a3, 0, none⟩), .pointer (some ⟨b_a4, 0, none⟩), .pointer (some ⟨b_a5, 0, none⟩), .pointer (some ⟨b_a6, 0, none⟩)]] 95) :: L) (fun _ L' v => ∃ (s7 : Sl), v = .tuple #[] ∧ L' = (.blk b_a2 (enc s_a2) 24) :: (.blk b_a3 (enc s_a3) 28) :: (.own s7 23 6 (encs r)) :: (.blk b_a4 (enc s7) 28) :: (.blk b_a5 (enc a5) 23) :: (.blk b_a6 [.func (.func 61) #[] #[.pointer (some ⟨b_a2, 0, none⟩), .pointer (some ⟨b_a3, 0, none⟩), .pointer (some ⟨b_a4, 0, none⟩), .pointer (some ⟨b_a5, 0, none⟩), .pointer (some ⟨b_a6, 0, none⟩)]] 95) :: L) := by
  intro fu
  induction fu with
  | zero => intro a0 a1 a2 a3 a4 a5 b_a2 s_a2 b_a3 s_a3 b_a4 s_a4 b_a5 b_a6 r H; exact nomatch (show (none : Option (List (Vector Int 6))) = some _ from H)
  | succ fu ih =>
    intro a0 a1 a2 a3 a4 a5 b_a2 s_a2 b_a3 s_a3 b_a4 s_a4 b_a5 b_a6 r H w0 F M L hM hs_a2 hs_a3
    replace H : partref_Cuts_1_R (partref_Cuts_1 fu) a0 a1 a2 a3 a4 a5 = some r := H
    generalize partref_Cuts_1 fu = rc at H ih
    unfold partref_Cuts_1_R at H
    refine Ok.enter (m := 7) (n := 36) Try.func61 rfl rfl rfl (by decide) ?_
    refine Cd.env (e' := [(0, .agg (enc a0).toArray), (1, .int .i64 a1), (2, .pointer (some ⟨b_a2, 0, none⟩)), (3, .pointer (some ⟨b_a3, 0, none⟩)), (4, .pointer (some ⟨b_a4, 0, none⟩)), (5, .pointer (some ⟨b_a5, 0, none⟩)), (6, .pointer (some ⟨b_a6, 0, none⟩))]) rfl ?_
    refine Cd.seq ?_
    refine Cd.region ?_
    refine Lst.box rfl rfl (by decide) rfl (cs := enc a0) rfl (fun b7 => ?_)
    refine Lst.nil ?_
    refine At.then ?_
    refine Cd.seq ?_
    refine Cd.seq ?_
    refine Cd.region ?_
    refine Lst.run rfl rfl (by decide) (Ev.move rfl) ?_
    refine Lst.run rfl rfl (by decide) (Ev.eql rfl rfl) ?_
    refine Lst.nil ?_
    refine At.then ?_
    rcases Bool.eq_false_or_eq_true (a1 == (6 : Int)) with hb9 | hb9
    · replace H := ite_t hb9 H
      refine Cd.condT rfl hb9 ?_
      obtain ⟨o12, H, HKo12⟩ := bind_some H
      refine Cd.join (σ := Sl × (List (Vector Int 6))) (fun (s10, l11) => []) (fun (s10, l11) => (.blk b7 (enc a0) 23) :: (.blk b_a2 (enc s_a2) 24) :: (.blk b_a3 (enc s_a3) 28) :: (.own s10 23 6 (encs l11)) :: (.blk b_a4 (enc s10) 28) :: (.blk b_a5 (enc a5) 23) :: (.blk b_a6 [.func (.func 61) #[] #[.pointer (some ⟨b_a2, 0, none⟩), .pointer (some ⟨b_a3, 0, none⟩), .pointer (some ⟨b_a4, 0, none⟩), .pointer (some ⟨b_a5, 0, none⟩), .pointer (some ⟨b_a6, 0, none⟩)]] 95) :: L) (fun _ (s10, l11) => l11 = o12) ?_ ?_
      · refine Cd.seq ?_
        refine Cd.region ?_
        refine Lst.run rfl rfl (by decide) (Ev.load (i := 1) rfl rfl Try.isAgg24 (v := Sl.v s_a2) (Get.here _)) ?_
        refine Lst.run rfl rfl (by decide) (Ev.load (i := 2) rfl rfl Try.isAgg28 (v := Sl.v s_a3) (Get.here _)) ?_
        refine Lst.run rfl rfl (by decide) (Ev.loadA (i := 0) rfl rfl Try.isAgg23 Try.sizeOf23 (ch := enc a0) (Enc.len _) (Get.here _)) ?_
        obtain ⟨r13, h14, H⟩ := bind_some H
        refine Lst.call1 rfl rfl (by decide) (vs := [Sl.v s_a2, Sl.v s_a3, .agg (enc a0).toArray]) ⟨rfl, rfl, rfl, trivial⟩ Try.call62 (partref_rightCut_sim h14 w0 _ M _ (List.Sublist.cons _ (List.Sublist.cons _ (List.Sublist.cons _ (List.Sublist.cons _ (List.Sublist.cons _ (List.Sublist.cons _ (List.Sublist.cons _ hM))))))) (hs_a2.mono (FLe.refl _) (List.Sublist.refl _)) (hs_a3.mono (FLe.refl _) (List.Sublist.refl _))) ?_
        refine Lst.nil ?_
        refine At.then ?_
        rcases (Bool.eq_false_or_eq_true r13).symm with hb17 | hb17
        · replace H := ite_f hb17 H
          refine Cd.condF rfl hb17 ?_
          refine Cd.skip ?_
          exact At.meet (s_a4, a4) (FLe.refl _) trivial rfl (some_inj H)
        replace H := ite_t hb17 H
        refine Cd.condT rfl hb17 ?_
        refine Cd.region ?_
        refine Lst.run rfl rfl (by decide) (Ev.load (i := 4) rfl rfl Try.isAgg28 (v := Sl.v s_a4) (Get.here _)) ?_
        refine Lst.run rfl rfl (by decide) (Ev.loadA (i := 0) rfl rfl Try.isAgg23 Try.sizeOf23 (ch := enc a0) (Enc.len _) (Get.here _)) ?_
        refine Lst.buildSlice (α := Vector Int 6) (xs := ([a0] : List (Vector Int 6))) (pv := [(0, .agg (enc a0).toArray)]) rfl rfl (by decide) ⟨rfl, rfl, trivial⟩ (run_buildSlice (α := Vector Int 6) (z0 := (Vector.replicate 6 (0 : Int))) (xs := ([a0] : List (Vector Int 6))) Try.runUnderlying28 Try.sizeOf23 Try.zeroValue23 rfl rfl rfl (by decide) rfl (fill_cons (cs := encs (List.replicate 1 (Vector.replicate 6 (0 : Int)))) (cs' := encs ((List.replicate 1 (Vector.replicate 6 (0 : Int))).set 0 a0)) (vs := enc a0) rfl rfl (Enc.len _) ((Put.elemN (s := 6) (i := 0) (x := (Vector.replicate 6 (0 : Int))) (y := a0) rfl rfl (Put.here ((Enc.len _).trans (Enc.len _).symm))).off rfl) fill_nil)) rfl rfl (by decide) (fun s18 _ => ?_)
        obtain ⟨u20, h21, H⟩ := bind_some H
        refine Lst.append (i := 4) (α := Vector Int 6) (xs := a4) (ys := ([a0] : List (Vector Int 6))) rfl rfl (by decide) rfl rfl Try.runUnderlying28 Try.typeInfo23 rfl rfl rfl rfl rfl rfl (Rd.own (i := 0) rfl rfl rfl) rfl (room_some h21) rfl (fun s22 => ?_)
        refine Lst.its (L' := (.own s18 23 6 (encs ([a0] : List (Vector Int 6)))) :: (.blk b7 (enc a0) 23) :: (.blk b_a2 (enc s_a2) 24) :: (.blk b_a3 (enc s_a3) 28) :: (.own s22 23 6 (encs (a4 ++ ([a0] : List (Vector Int 6))))) :: (.blk b_a4 (enc s_a4) 28) :: (.blk b_a5 (enc a5) 23) :: (.blk b_a6 [.func (.func 61) #[] #[.pointer (some ⟨b_a2, 0, none⟩), .pointer (some ⟨b_a3, 0, none⟩), .pointer (some ⟨b_a4, 0, none⟩), .pointer (some ⟨b_a5, 0, none⟩), .pointer (some ⟨b_a6, 0, none⟩)]] 95) :: L) rfl ?_
        refine Lst.store (i := 5) rfl rfl rfl rfl rfl Try.sizeOf28 (vs := [Sl.v s22]) rfl rfl rfl (cs' := enc s22) (Put.here (vs := [Sl.v s22]) rfl) (L' := (.own s18 23 6 (encs ([a0] : List (Vector Int 6)))) :: (.blk b7 (enc a0) 23) :: (.blk b_a2 (enc s_a2) 24) :: (.blk b_a3 (enc s_a3) 28) :: (.own s22 23 6 (encs (a4 ++ ([a0] : List (Vector Int 6))))) :: (.blk b_a4 (enc s22) 28) :: (.blk b_a5 (enc a5) 23) :: (.blk b_a6 [.func (.func 61) #[] #[.pointer (some ⟨b_a2, 0, none⟩), .pointer (some ⟨b_a3, 0, none⟩), .pointer (some ⟨b_a4, 0, none⟩), .pointer (some ⟨b_a5, 0, none⟩), .pointer (some ⟨b_a6, 0, none⟩)]] 95) :: L) rfl ?_
        refine Lst.nil ?_
        refine At.less (L' := (.blk b7 (enc a0) 23) :: (.blk b_a2 (enc s_a2) 24) :: (.blk b_a3 (enc s_a3) 28) :: (.own s22 23 6 (encs (a4 ++ ([a0] : List (Vector Int 6))))) :: (.blk b_a4 (enc s22) 28) :: (.blk b_a5 (enc a5) 23) :: (.blk b_a6 [.func (.func 61) #[] #[.pointer (some ⟨b_a2, 0, none⟩), .pointer (some ⟨b_a3, 0, none⟩), .pointer (some ⟨b_a4, 0, none⟩), .pointer (some ⟨b_a5, 0, none⟩), .pointer (some ⟨b_a6, 0, none⟩)]] 95) :: L) (List.Sublist.cons _ (List.Sublist.cons_cons _ (List.Sublist.cons_cons _ (List.Sublist.cons_cons _ (List.Sublist.cons_cons _ (List.Sublist.cons_cons _ (List.Sublist.cons_cons _ (List.Sublist.cons_cons _ (List.Sublist.refl _))))))))) ?_
        exact At.meet (s22, a4 ++ ([a0] : List (Vector Int 6))) (FLe.refl _) trivial rfl (some_inj H)
      rintro F23 ⟨s10, l11⟩ hF24 hy
      subst hy
      refine Cd.as (e' := []) (L' := (.blk b7 (enc a0) 23) :: (.blk b_a2 (enc s_a2) 24) :: (.blk b_a3 (enc s_a3) 28) :: (.own s10 23 6 (encs l11)) :: (.blk b_a4 (enc s10) 28) :: (.blk b_a5 (enc a5) 23) :: (.blk b_a6 [.func (.func 61) #[] #[.pointer (some ⟨b_a2, 0, none⟩), .pointer (some ⟨b_a3, 0, none⟩), .pointer (some ⟨b_a4, 0, none⟩), .pointer (some ⟨b_a5, 0, none⟩), .pointer (some ⟨b_a6, 0, none⟩)]] 95) :: L) trivial rfl ?_
      replace H := HKo12
      obtain rfl := some_inj H
      refine Cd.ret ?_
      refine At.then_ret ?_
      exact At.ret0 (.inl rfl) rfl hF24 (List.Sublist.cons _ (List.Sublist.cons_cons _ (List.Sublist.cons_cons _ (List.Sublist.cons_cons _ (List.Sublist.cons_cons _ (List.Sublist.cons_cons _ (List.Sublist.cons_cons _ (List.Sublist.refl _)))))))) ⟨s10, rfl, rfl⟩
    replace H := ite_f hb9 H
    refine Cd.condF rfl hb9 ?_
    refine Cd.skip ?_
    refine At.then ?_
    refine Cd.seq ?_
    refine Cd.region ?_
    refine Lst.run rfl rfl (by decide) (Ev.move rfl) ?_
    obtain ⟨x25, h26, H⟩ := bind_some H
    have g27 := vat_some h26
    refine Lst.run rfl rfl (by decide) (Ev.indexAddr (off' := 0 + a1.toNat * 1) rfl rfl Try.runUnderlying23 Try.sizeOf3 g27.1 g27.2.1 rfl) ?_
    refine Lst.run rfl rfl (by decide) (Ev.load (i := 5) rfl rfl Try.isAgg3 (v := .int .i64 x25) ((Get.vecN (s := 1) (x := x25) rfl g27.2.2 (Get.here _)).off (by omega))) ?_
    refine Lst.run rfl rfl (by decide) (Ev.add rfl rfl) ?_
    refine Lst.run rfl rfl (by decide) (Ev.move rfl) ?_
    refine Lst.nil ?_
    refine At.then ?_
    refine Cd.block ?_
    obtain ⟨nn34, hN45, H⟩ := bind_some H
    replace hN45 := upTo_some hN45
    obtain ⟨ol28, H, HKl28⟩ := bind_some H
    refine Cd.loop (σ := Nat × Nat × (Vector Int 6) × Sl × (List (Vector Int 6))) (fun (i28, k28, y29, s30, l31) => [(1, .int .i64 a1), (6, .pointer (some ⟨b_a6, 0, none⟩)), (7, .pointer (some ⟨b7, 0, none⟩)), (23, .int .i64 (w64 (x25 + (1 : Int)))), (24, .int .i64 (i28 : Int))]) (fun (i28, k28, y29, s30, l31) => (.blk b7 (enc y29) 23) :: (.blk b_a2 (enc s_a2) 24) :: (.blk b_a3 (enc s_a3) 28) :: (.own s30 23 6 (encs l31)) :: (.blk b_a4 (enc s30) 28) :: (.blk b_a5 (enc a5) 23) :: (.blk b_a6 [.func (.func 61) #[] #[.pointer (some ⟨b_a2, 0, none⟩), .pointer (some ⟨b_a3, 0, none⟩), .pointer (some ⟨b_a4, 0, none⟩), .pointer (some ⟨b_a5, 0, none⟩), .pointer (some ⟨b_a6, 0, none⟩)]] 95) :: L) (fun _ => (fun (i28, k28, y29, s30, l31) => rangeF (partref_Cuts_1_B0 a1 a2 a3 a5 rc) k28 i28 (y29, l31) = some ol28 ∧ i28 + k28 = nn34)) (fun (i28, k28, y29, s30, l31) => k28) (0, nn34, a0, s_a4, a4) ⟨rfl, rfl, rfl, rfl, rfl, trivial⟩ rfl ⟨H, by omega⟩ ?_
    rintro F32 ⟨i28, k28, y29, s30, l31⟩ hF33 ⟨H, hik28⟩
    refine Cd.as (e' := [(1, .int .i64 a1), (6, .pointer (some ⟨b_a6, 0, none⟩)), (7, .pointer (some ⟨b7, 0, none⟩)), (23, .int .i64 (w64 (x25 + (1 : Int)))), (24, .int .i64 (i28 : Int))]) (L' := (.blk b7 (enc y29) 23) :: (.blk b_a2 (enc s_a2) 24) :: (.blk b_a3 (enc s_a3) 28) :: (.own s30 23 6 (encs l31)) :: (.blk b_a4 (enc s30) 28) :: (.blk b_a5 (enc a5) 23) :: (.blk b_a6 [.func (.func 61) #[] #[.pointer (some ⟨b_a2, 0, none⟩), .pointer (some ⟨b_a3, 0, none⟩), .pointer (some ⟨b_a4, 0, none⟩), .pointer (some ⟨b_a5, 0, none⟩), .pointer (some ⟨b_a6, 0, none⟩)]] 95) :: L) ⟨rfl, rfl, rfl, rfl, rfl, trivial⟩ rfl ?_
    rcases k28 with _ | k28
    · have hc28 : decide ((i28 : Int) < (w64 (x25 + (1 : Int)))) = false := decide_eq_false (by omega)
      replace H := rangeF_end H
      refine Cd.seq ?_
      refine Cd.region ?_
      refine Lst.run rfl rfl (by decide) (Ev.lss rfl rfl) ?_
      refine Lst.nil ?_
      refine At.then ?_
      refine Cd.seq ?_
      refine Cd.condF rfl hc28 ?_
      refine Cd.exit ?_
      refine At.then_exit ?_
      refine At.then_exit ?_
      refine At.in_exit ?_
      subst H
      replace H := HKl28
      obtain rfl := some_inj H
      exact At.ret0 (.inr rfl) rfl hF33 (List.Sublist.cons _ (List.Sublist.cons_cons _ (List.Sublist.cons_cons _ (List.Sublist.cons_cons _ (List.Sublist.cons_cons _ (List.Sublist.cons_cons _ (List.Sublist.cons_cons _ (List.Sublist.refl _)))))))) ⟨s30, rfl, rfl⟩
    have hc28 : decide ((i28 : Int) < (w64 (x25 + (1 : Int)))) = true := decide_eq_true (by omega)
    obtain ⟨c28, H, hgo28⟩ := rangeF_go H
    unfold partref_Cuts_1_B0 at H
    try dsimp only at H
    refine Cd.seq ?_
    refine Cd.region ?_
    refine Lst.run rfl rfl (by decide) (Ev.lss rfl rfl) ?_
    refine Lst.nil ?_
    refine At.then ?_
    refine Cd.seq ?_
    refine Cd.condT rfl hc28 ?_
    refine Cd.skip ?_
    refine At.then ?_
    refine Cd.seq ?_
    refine Cd.block ?_
    refine Cd.seq ?_
    refine Cd.region ?_
    refine Lst.run rfl rfl (by decide) (Ev.move rfl) ?_
    refine Lst.run rfl rfl (by decide) (Ev.assign rfl) ?_
    refine Lst.nil ?_
    refine At.then ?_
    refine Cd.seq ?_
    refine Cd.region ?_
    refine Lst.run rfl rfl (by decide) (Ev.move rfl) ?_
    refine Lst.run rfl rfl (by decide) (Ev.move rfl) ?_
    obtain ⟨x35, h36, H⟩ := bind_some H
    have g37 := vat_some h36
    refine Lst.run rfl rfl (by decide) (Ev.indexAddr (off' := 0 + a1.toNat * 1) rfl rfl Try.runUnderlying23 Try.sizeOf3 g37.1 g37.2.1 rfl) ?_
    obtain ⟨p38, h39, H⟩ := Let_some H
    refine Lst.store (i := 0) rfl rfl rfl rfl rfl Try.sizeOf3 (vs := [.int .i64 (i28 : Int)]) rfl rfl rfl (cs' := enc p38) (by rw [← h39]; exact (Put.vecN (s := 1) (x := x35) rfl g37.2.2 (Put.here (vs := [.int .i64 (i28 : Int)]) rfl)).off (by omega)) (L' := (.blk b7 (enc p38) 23) :: (.blk b_a2 (enc s_a2) 24) :: (.blk b_a3 (enc s_a3) 28) :: (.own s30 23 6 (encs l31)) :: (.blk b_a4 (enc s30) 28) :: (.blk b_a5 (enc a5) 23) :: (.blk b_a6 [.func (.func 61) #[] #[.pointer (some ⟨b_a2, 0, none⟩), .pointer (some ⟨b_a3, 0, none⟩), .pointer (some ⟨b_a4, 0, none⟩), .pointer (some ⟨b_a5, 0, none⟩), .pointer (some ⟨b_a6, 0, none⟩)]] 95) :: L) rfl ?_
    refine Lst.nil ?_
    refine At.then ?_
    refine Cd.region ?_
    refine Lst.run rfl rfl (by decide) (Ev.load (i := 6) rfl rfl Try.isAgg95 (v := .func (.func 61) #[] #[.pointer (some ⟨b_a2, 0, none⟩), .pointer (some ⟨b_a3, 0, none⟩), .pointer (some ⟨b_a4, 0, none⟩), .pointer (some ⟨b_a5, 0, none⟩), .pointer (some ⟨b_a6, 0, none⟩)]) (Get.here _)) ?_
    refine Lst.run rfl rfl (by decide) (Ev.loadA (i := 0) rfl rfl Try.isAgg23 Try.sizeOf23 (ch := enc p38) (Enc.len _) (Get.here _)) ?_
    refine Lst.run rfl rfl (by decide) (Ev.move rfl) ?_
    refine Lst.run rfl rfl (by decide) (Ev.add rfl rfl) ?_
    obtain ⟨r40, h41, H⟩ := bind_some H
    refine Lst.front (i := 6) rfl (L' := (.blk b_a6 [.func (.func 61) #[] #[.pointer (some ⟨b_a2, 0, none⟩), .pointer (some ⟨b_a3, 0, none⟩), .pointer (some ⟨b_a4, 0, none⟩), .pointer (some ⟨b_a5, 0, none⟩), .pointer (some ⟨b_a6, 0, none⟩)]] 95) :: (.blk b7 (enc p38) 23) :: (.blk b_a2 (enc s_a2) 24) :: (.blk b_a3 (enc s_a3) 28) :: (.own s30 23 6 (encs l31)) :: (.blk b_a4 (enc s30) 28) :: (.blk b_a5 (enc a5) 23) :: L) rfl ?_
    refine Lst.front (i := 6) rfl (L' := (.blk b_a5 (enc a5) 23) :: (.blk b_a6 [.func (.func 61) #[] #[.pointer (some ⟨b_a2, 0, none⟩), .pointer (some ⟨b_a3, 0, none⟩), .pointer (some ⟨b_a4, 0, none⟩), .pointer (some ⟨b_a5, 0, none⟩), .pointer (some ⟨b_a6, 0, none⟩)]] 95) :: (.blk b7 (enc p38) 23) :: (.blk b_a2 (enc s_a2) 24) :: (.blk b_a3 (enc s_a3) 28) :: (.own s30 23 6 (encs l31)) :: (.blk b_a4 (enc s30) 28) :: L) rfl ?_
    refine Lst.front (i := 6) rfl (L' := (.blk b_a4 (enc s30) 28) :: (.blk b_a5 (enc a5) 23) :: (.blk b_a6 [.func (.func 61) #[] #[.pointer (some ⟨b_a2, 0, none⟩), .pointer (some ⟨b_a3, 0, none⟩), .pointer (some ⟨b_a4, 0, none⟩), .pointer (some ⟨b_a5, 0, none⟩), .pointer (some ⟨b_a6, 0, none⟩)]] 95) :: (.blk b7 (enc p38) 23) :: (.blk b_a2 (enc s_a2) 24) :: (.blk b_a3 (enc s_a3) 28) :: (.own s30 23 6 (encs l31)) :: L) rfl ?_
    refine Lst.front (i := 6) rfl (L' := (.own s30 23 6 (encs l31)) :: (.blk b_a4 (enc s30) 28) :: (.blk b_a5 (enc a5) 23) :: (.blk b_a6 [.func (.func 61) #[] #[.pointer (some ⟨b_a2, 0, none⟩), .pointer (some ⟨b_a3, 0, none⟩), .pointer (some ⟨b_a4, 0, none⟩), .pointer (some ⟨b_a5, 0, none⟩), .pointer (some ⟨b_a6, 0, none⟩)]] 95) :: (.blk b7 (enc p38) 23) :: (.blk b_a2 (enc s_a2) 24) :: (.blk b_a3 (enc s_a3) 28) :: L) rfl ?_
    refine Lst.front (i := 6) rfl (L' := (.blk b_a3 (enc s_a3) 28) :: (.own s30 23 6 (encs l31)) :: (.blk b_a4 (enc s30) 28) :: (.blk b_a5 (enc a5) 23) :: (.blk b_a6 [.func (.func 61) #[] #[.pointer (some ⟨b_a2, 0, none⟩), .pointer (some ⟨b_a3, 0, none⟩), .pointer (some ⟨b_a4, 0, none⟩), .pointer (some ⟨b_a5, 0, none⟩), .pointer (some ⟨b_a6, 0, none⟩)]] 95) :: (.blk b7 (enc p38) 23) :: (.blk b_a2 (enc s_a2) 24) :: L) rfl ?_
    refine Lst.front (i := 6) rfl (L' := (.blk b_a2 (enc s_a2) 24) :: (.blk b_a3 (enc s_a3) 28) :: (.own s30 23 6 (encs l31)) :: (.blk b_a4 (enc s30) 28) :: (.blk b_a5 (enc a5) 23) :: (.blk b_a6 [.func (.func 61) #[] #[.pointer (some ⟨b_a2, 0, none⟩), .pointer (some ⟨b_a3, 0, none⟩), .pointer (some ⟨b_a4, 0, none⟩), .pointer (some ⟨b_a5, 0, none⟩), .pointer (some ⟨b_a6, 0, none⟩)]] 95) :: (.blk b7 (enc p38) 23) :: L) rfl ?_
    refine Lst.callV rfl rfl (by decide) (vs := [.agg (enc p38).toArray, .int .i64 (w64 (a1 + (1 : Int)))]) (cs := [.pointer (some ⟨b_a2, 0, none⟩), .pointer (some ⟨b_a3, 0, none⟩), .pointer (some ⟨b_a4, 0, none⟩), .pointer (some ⟨b_a5, 0, none⟩), .pointer (some ⟨b_a6, 0, none⟩)]) rfl ⟨rfl, rfl, trivial⟩ Try.call61 (ih h41 w0 _ M _ (List.Sublist.cons _ hM) (hs_a2.mono hF33 (List.Sublist.refl _)) (hs_a3.mono hF33 (List.Sublist.refl _))) (fun F43 L' v hF44 hv => ?_)
    obtain ⟨s42, rfl, rfl⟩ := hv
    refine Lst.nil ?_
    refine At.in_normal ?_
    refine At.then ?_
    refine Cd.region ?_
    refine Lst.run rfl rfl (by decide) (Ev.incr (by omega) rfl rfl) ?_
    refine Lst.run rfl rfl (by decide) (Ev.move rfl) ?_
    refine Lst.nil ?_
    refine At.front (i := 5) rfl rfl ?_
    refine At.front (i := 5) rfl rfl ?_
    refine At.front (i := 5) rfl rfl ?_
    refine At.front (i := 5) rfl rfl ?_
    refine At.front (i := 5) rfl rfl ?_
    refine At.front (i := 5) rfl rfl ?_
    refine At.front (i := 6) rfl rfl ?_
    exact At.meet (i28 + 1, k28, p38, s42, r40) (FLe.trans hF33 hF44) ⟨rfl, rfl, rfl, rfl, rfl, trivial⟩ rfl ⟨⟨hgo28 _ (some_inj H).symm, by omega⟩, Nat.lt_succ_self _⟩
theorem partref_Cuts_1_sim {fu : Nat} {a0 : Vector Int 6} {a1 : Int} {a2 : List Event} {a3 : List (Vector Int 6)} {a4 : List (Vector Int 6)} {a5 : Vector Int 6} {b_a2 : Nat} {s_a2 : Sl} {b_a3 : Nat} {s_a3 : Sl} {b_a4 : Nat} {s_a4 : Sl} {b_a5 : Nat} {b_a6 : Nat} {r : (List (Vector Int 6))} (H : partref_Cuts_1 fu a0 a1 a2 a3 a4 a5 = some r) (w0 : World) (F : Frz) (M L : List Item) (hM : M.Sublist L) (hs_a2 : Rd w0 F M s_a2 a2) (hs_a3 : Rd w0 F M s_a3 a3) : Ok Try.prog w0 61 [.agg (enc a0).toArray, .int .i64 a1, .pointer (some ⟨b_a2, 0, none⟩), .pointer (some ⟨b_a3, 0, none⟩), .pointer (some ⟨b_a4, 0, none⟩), .pointer (some ⟨b_a5, 0, none⟩), .pointer (some ⟨b_a6, 0, none⟩)] F ((.blk b_a2 (enc s_a2) 24) :: (.blk b_a3 (enc s_a3) 28) :: (.own s_a4 23 6 (encs a4)) :: (.blk b_a4 (enc s_a4) 28) :: (.blk b_a5 (enc a5) 23) :: (.blk b_a6 [.func (.func 61) #[] #[.pointer (some ⟨b_a2, 0, none⟩), .pointer (some ⟨b_a3, 0, none⟩), .pointer (some ⟨b_a4, 0, none⟩), .pointer (some ⟨b_a5, 0, none⟩), .pointer (some ⟨b_a6, 0, none⟩)]] 95) :: L) (fun _ L' v => ∃ (s7 : Sl), v = .tuple #[] ∧ L' = (.blk b_a2 (enc s_a2) 24) :: (.blk b_a3 (enc s_a3) 28) :: (.own s7 23 6 (encs r)) :: (.blk b_a4 (enc s7) 28) :: (.blk b_a5 (enc a5) 23) :: (.blk b_a6 [.func (.func 61) #[] #[.pointer (some ⟨b_a2, 0, none⟩), .pointer (some ⟨b_a3, 0, none⟩), .pointer (some ⟨b_a4, 0, none⟩), .pointer (some ⟨b_a5, 0, none⟩), .pointer (some ⟨b_a6, 0, none⟩)]] 95) :: L) :=
  partref_Cuts_1_simR fu H w0 F M L hM hs_a2 hs_a3
set_option maxRecDepth 20000 in
theorem partref_Cuts_sim {fu : Nat} {a0 : List Event} {s_a0 : Sl} {r : (List (Vector Int 6))} (H : partref_Cuts fu a0 = some r) (w0 : World) (F : Frz) (M L : List Item) (hM : M.Sublist L) (hs_a0 : Rd w0 F M s_a0 a0) : Ok Try.prog w0 37 [Sl.v s_a0] F (L) (fun _ L' v => ∃ (s1 : Sl), v = Sl.v s1 ∧ L' = (.own s1 23 6 (encs r)) :: L) := by
  unfold partref_Cuts at H
  refine Ok.enter (m := 1) (n := 16) Try.func37 rfl rfl rfl (by decide) ?_
  refine Cd.env (e' := [(0, Sl.v s_a0)]) rfl ?_
  refine Cd.seq ?_
  refine Cd.region ?_
  refine Lst.box rfl rfl (by decide) rfl (cs := enc s_a0) rfl (fun b1 => ?_)
  refine Lst.addNil 23 6 ?_
  refine Lst.run rfl rfl (by decide) (Ev.assign rfl) ?_
  refine Lst.nil ?_
  refine At.then ?_
  refine Cd.seq ?_
  refine Cd.region ?_
  refine Lst.run rfl rfl (by decide) (Ev.load (i := 1) rfl rfl Try.isAgg24 (v := Sl.v s_a0) (Get.here _)) ?_
  obtain ⟨r4, h5, H⟩ := bind_some H
  refine Lst.call rfl rfl (by decide) (vs := [Sl.v s_a0]) ⟨rfl, trivial⟩ Try.call18 (partref_Vectors_sim h5 w0 _ M _ (List.Sublist.cons _ (List.Sublist.cons _ hM)) (hs_a0.mono (FLe.refl _) (List.Sublist.refl _))) (fun F8 L' v hF9 hv => ?_)
  obtain ⟨s6, rfl, rfl⟩ := hv
  refine Lst.addNil 23 6 ?_
  refine Lst.alloc (cs := enc Sl.nil) rfl rfl (by decide) Try.zeroValue28 rfl (fun b11 => ?_)
  refine Lst.store (i := 0) rfl rfl rfl rfl rfl Try.sizeOf28 (vs := [Sl.v s6]) rfl rfl rfl (cs' := enc s6) (Put.here (vs := [Sl.v s6]) rfl) (L' := (.blk b11 (enc s6) 28) :: (.own Sl.nil 23 6 (encs ([] : List (Vector Int 6)))) :: (.own s6 23 6 (encs r4)) :: (.own Sl.nil 23 6 (encs ([] : List (Vector Int 6)))) :: (.blk b1 (enc s_a0) 24) :: L) rfl ?_
  refine Lst.nil ?_
  refine At.then ?_
  refine Cd.seq ?_
  refine Cd.region ?_
  refine Lst.run rfl rfl (by decide) (Ev.load (i := 4) rfl rfl Try.isAgg24 (v := Sl.v s_a0) (Get.here _)) ?_
  obtain ⟨r13, h14, H⟩ := bind_some H
  refine Lst.call1 rfl rfl (by decide) (vs := [Sl.v s_a0]) ⟨rfl, trivial⟩ Try.call54 (partref_Sizes_sim h14 w0 _ M _ (List.Sublist.cons _ (List.Sublist.cons _ (List.Sublist.cons _ (List.Sublist.cons _ (List.Sublist.cons _ hM))))) (hs_a0.mono hF9 (List.Sublist.refl _))) ?_
  refine Lst.alloc (cs := enc (Vector.replicate 6 (0 : Int))) rfl rfl (by decide) Try.zeroValue23 rfl (fun b17 => ?_)
  refine Lst.store (i := 0) rfl rfl rfl rfl rfl Try.sizeOf23 (vs := enc r13) rfl (Enc.len _) (Enc.one _) (cs' := enc r13) (Put.here ((Enc.len _).trans (Enc.len _).symm)) (L' := (.blk b17 (enc r13) 23) :: (.blk b11 (enc s6) 28) :: (.own Sl.nil 23 6 (encs ([] : List (Vector Int 6)))) :: (.own s6 23 6 (encs r4)) :: (.own Sl.nil 23 6 (encs ([] : List (Vector Int 6)))) :: (.blk b1 (enc s_a0) 24) :: L) rfl ?_
  refine Lst.nil ?_
  refine At.then ?_
  refine Cd.seq ?_
  refine Cd.region ?_
  refine Lst.addNil 23 6 ?_
  refine Lst.alloc (cs := enc Sl.nil) rfl rfl (by decide) Try.zeroValue28 rfl (fun b20 => ?_)
  refine Lst.nil ?_
  refine At.then ?_
  refine Cd.seq ?_
  refine Cd.region ?_
  refine Lst.alloc (cs := [.nilFunc]) rfl rfl (by decide) Try.zeroValue95 rfl (fun b22 => ?_)
  refine Lst.nil ?_
  refine At.then ?_
  refine Cd.seq ?_
  refine Cd.region ?_
  refine Lst.run rfl rfl (by decide) (Ev.makeFunc (us := []) (vs := [.pointer (some ⟨b1, 0, none⟩), .pointer (some ⟨b11, 0, none⟩), .pointer (some ⟨b20, 0, none⟩), .pointer (some ⟨b17, 0, none⟩), .pointer (some ⟨b22, 0, none⟩)]) trivial ⟨rfl, rfl, rfl, rfl, rfl, trivial⟩) ?_
  refine Lst.store (i := 0) rfl rfl rfl rfl rfl Try.sizeOf95 (vs := [.func (.func 61) #[] #[.pointer (some ⟨b1, 0, none⟩), .pointer (some ⟨b11, 0, none⟩), .pointer (some ⟨b20, 0, none⟩), .pointer (some ⟨b17, 0, none⟩), .pointer (some ⟨b22, 0, none⟩)]]) rfl rfl rfl (cs' := [.func (.func 61) #[] #[.pointer (some ⟨b1, 0, none⟩), .pointer (some ⟨b11, 0, none⟩), .pointer (some ⟨b20, 0, none⟩), .pointer (some ⟨b17, 0, none⟩), .pointer (some ⟨b22, 0, none⟩)]]) (Put.here (vs := [.func (.func 61) #[] #[.pointer (some ⟨b1, 0, none⟩), .pointer (some ⟨b11, 0, none⟩), .pointer (some ⟨b20, 0, none⟩), .pointer (some ⟨b17, 0, none⟩), .pointer (some ⟨b22, 0, none⟩)]]) rfl) (L' := (.blk b22 [.func (.func 61) #[] #[.pointer (some ⟨b1, 0, none⟩), .pointer (some ⟨b11, 0, none⟩), .pointer (some ⟨b20, 0, none⟩), .pointer (some ⟨b17, 0, none⟩), .pointer (some ⟨b22, 0, none⟩)]] 95) :: (.blk b20 (enc Sl.nil) 28) :: (.own Sl.nil 23 6 (encs ([] : List (Vector Int 6)))) :: (.blk b17 (enc r13) 23) :: (.blk b11 (enc s6) 28) :: (.own Sl.nil 23 6 (encs ([] : List (Vector Int 6)))) :: (.own s6 23 6 (encs r4)) :: (.own Sl.nil 23 6 (encs ([] : List (Vector Int 6)))) :: (.blk b1 (enc s_a0) 24) :: L) rfl ?_
  refine Lst.nil ?_
  refine At.then ?_
  refine Cd.seq ?_
  refine Cd.region ?_
  refine Lst.run rfl rfl (by decide) (Ev.load (i := 0) rfl rfl Try.isAgg95 (v := .func (.func 61) #[] #[.pointer (some ⟨b1, 0, none⟩), .pointer (some ⟨b11, 0, none⟩), .pointer (some ⟨b20, 0, none⟩), .pointer (some ⟨b17, 0, none⟩), .pointer (some ⟨b22, 0, none⟩)]) (Get.here _)) ?_
  refine Lst.run rfl rfl (by decide) (Ev.build (v := .agg (enc ((Vector.replicate 6 (0 : Int)) : Vector Int 6)).toArray) (pv := []) trivial (fun w => by kernel_rfl)) ?_
  obtain ⟨r24, h25, H⟩ := bind_some H
  refine Lst.front (i := 3) rfl (L' := (.blk b17 (enc r13) 23) :: (.blk b22 [.func (.func 61) #[] #[.pointer (some ⟨b1, 0, none⟩), .pointer (some ⟨b11, 0, none⟩), .pointer (some ⟨b20, 0, none⟩), .pointer (some ⟨b17, 0, none⟩), .pointer (some ⟨b22, 0, none⟩)]] 95) :: (.blk b20 (enc Sl.nil) 28) :: (.own Sl.nil 23 6 (encs ([] : List (Vector Int 6)))) :: (.blk b11 (enc s6) 28) :: (.own Sl.nil 23 6 (encs ([] : List (Vector Int 6)))) :: (.own s6 23 6 (encs r4)) :: (.own Sl.nil 23 6 (encs ([] : List (Vector Int 6)))) :: (.blk b1 (enc s_a0) 24) :: L) rfl ?_
  refine Lst.front (i := 2) rfl (L' := (.blk b20 (enc Sl.nil) 28) :: (.blk b17 (enc r13) 23) :: (.blk b22 [.func (.func 61) #[] #[.pointer (some ⟨b1, 0, none⟩), .pointer (some ⟨b11, 0, none⟩), .pointer (some ⟨b20, 0, none⟩), .pointer (some ⟨b17, 0, none⟩), .pointer (some ⟨b22, 0, none⟩)]] 95) :: (.own Sl.nil 23 6 (encs ([] : List (Vector Int 6)))) :: (.blk b11 (enc s6) 28) :: (.own Sl.nil 23 6 (encs ([] : List (Vector Int 6)))) :: (.own s6 23 6 (encs r4)) :: (.own Sl.nil 23 6 (encs ([] : List (Vector Int 6)))) :: (.blk b1 (enc s_a0) 24) :: L) rfl ?_
  refine Lst.front (i := 3) rfl (L' := (.own Sl.nil 23 6 (encs ([] : List (Vector Int 6)))) :: (.blk b20 (enc Sl.nil) 28) :: (.blk b17 (enc r13) 23) :: (.blk b22 [.func (.func 61) #[] #[.pointer (some ⟨b1, 0, none⟩), .pointer (some ⟨b11, 0, none⟩), .pointer (some ⟨b20, 0, none⟩), .pointer (some ⟨b17, 0, none⟩), .pointer (some ⟨b22, 0, none⟩)]] 95) :: (.blk b11 (enc s6) 28) :: (.own Sl.nil 23 6 (encs ([] : List (Vector Int 6)))) :: (.own s6 23 6 (encs r4)) :: (.own Sl.nil 23 6 (encs ([] : List (Vector Int 6)))) :: (.blk b1 (enc s_a0) 24) :: L) rfl ?_
  refine Lst.front (i := 4) rfl (L' := (.blk b11 (enc s6) 28) :: (.own Sl.nil 23 6 (encs ([] : List (Vector Int 6)))) :: (.blk b20 (enc Sl.nil) 28) :: (.blk b17 (enc r13) 23) :: (.blk b22 [.func (.func 61) #[] #[.pointer (some ⟨b1, 0, none⟩), .pointer (some ⟨b11, 0, none⟩), .pointer (some ⟨b20, 0, none⟩), .pointer (some ⟨b17, 0, none⟩), .pointer (some ⟨b22, 0, none⟩)]] 95) :: (.own Sl.nil 23 6 (encs ([] : List (Vector Int 6)))) :: (.own s6 23 6 (encs r4)) :: (.own Sl.nil 23 6 (encs ([] : List (Vector Int 6)))) :: (.blk b1 (enc s_a0) 24) :: L) rfl ?_
  refine Lst.front (i := 8) rfl (L' := (.blk b1 (enc s_a0) 24) :: (.blk b11 (enc s6) 28) :: (.own Sl.nil 23 6 (encs ([] : List (Vector Int 6)))) :: (.blk b20 (enc Sl.nil) 28) :: (.blk b17 (enc r13) 23) :: (.blk b22 [.func (.func 61) #[] #[.pointer (some ⟨b1, 0, none⟩), .pointer (some ⟨b11, 0, none⟩), .pointer (some ⟨b20, 0, none⟩), .pointer (some ⟨b17, 0, none⟩), .pointer (some ⟨b22, 0, none⟩)]] 95) :: (.own Sl.nil 23 6 (encs ([] : List (Vector Int 6)))) :: (.own s6 23 6 (encs r4)) :: (.own Sl.nil 23 6 (encs ([] : List (Vector Int 6)))) :: L) rfl ?_
  refine Lst.callV rfl rfl (by decide) (vs := [.agg (enc ((Vector.replicate 6 (0 : Int)) : Vector Int 6)).toArray, .int .i64 (0 : Int)]) (cs := [.pointer (some ⟨b1, 0, none⟩), .pointer (some ⟨b11, 0, none⟩), .pointer (some ⟨b20, 0, none⟩), .pointer (some ⟨b17, 0, none⟩), .pointer (some ⟨b22, 0, none⟩)]) rfl ⟨rfl, rfl, trivial⟩ Try.call61 (partref_Cuts_1_sim h25 w0 _ _ _ (List.Sublist.refl _) (hs_a0.mono hF9 (List.Sublist.cons _ (List.Sublist.cons _ (List.Sublist.cons _ hM)))) (Rd.own (i := 1) rfl rfl rfl)) (fun F27 L' v hF28 hv => ?_)
  obtain ⟨s26, rfl, rfl⟩ := hv
  refine Lst.nil ?_
  refine At.then ?_
  refine Cd.seq ?_
  refine Cd.region ?_
  refine Lst.run rfl rfl (by decide) (Ev.load (i := 3) rfl rfl Try.isAgg28 (v := Sl.v s26) (Get.here _)) ?_
  refine Lst.run rfl rfl (by decide) (Ev.assign rfl) ?_
  refine Lst.nil ?_
  refine At.then ?_
  obtain rfl := some_inj H
  refine Cd.ret ?_
  exact At.ret1 rfl (Res.tmp rfl) (FLe.trans hF9 hF28) (List.Sublist.cons _ (List.Sublist.cons _ (List.Sublist.cons_cons _ (List.Sublist.cons _ (List.Sublist.cons _ (List.Sublist.cons _ (List.Sublist.cons _ (List.Sublist.cons _ (List.Sublist.cons _ (List.Sublist.refl _)))))))))) ⟨s26, rfl, rfl⟩
set_option maxRecDepth 20000 in
theorem partref_Must_sim {fu : Nat} {a0 : List Event} {a1 : List (List Bool)} {s_a0 : Sl} {s_a1 : Sl} {rs_a1 : List (LR Bool)} {r : Bool} (H : partref_Must fu a0 a1 = some r) (w0 : World) (F : Frz) (M L : List Item) (hM : M.Sublist L) (hs_a0 : Rd w0 F M s_a0 a0) (hm_a1 : rs_a1.map LR.v = a1) (hs_a1 : Rd w0 F M s_a1 rs_a1) (ha_a1 : All LR.rel w0 F M rs_a1) : Ok Try.prog w0 43 [Sl.v s_a0, Sl.v s_a1] F (L) (Is (.bool r) (L)) := by
  unfold partref_Must at H
  refine Ok.enter (m := 2) (n := 57) Try.func43 rfl rfl rfl (by decide) ?_
  refine Cd.env (e' := [(0, Sl.v s_a0), (1, Sl.v s_a1)]) rfl ?_
  refine Cd.seq ?_
  refine Cd.region ?_
  refine Lst.run rfl rfl (by decide) (Ev.assign rfl) ?_
  refine Lst.nil ?_
  refine At.then ?_
  refine Cd.seq ?_
  refine Cd.region ?_
  refine Lst.run rfl rfl (by decide) (Ev.move rfl) ?_
  obtain ⟨r1, h2, H⟩ := bind_some H
  refine Lst.call rfl rfl (by decide) (vs := [Sl.v s_a0]) ⟨rfl, trivial⟩ Try.call37 (partref_Cuts_sim h2 w0 _ M _ hM (hs_a0.mono (FLe.refl _) (List.Sublist.refl _))) (fun F5 L' v hF6 hv => ?_)
  obtain ⟨s3, rfl, rfl⟩ := hv
  refine Lst.run rfl rfl (by decide) (Ev.assign rfl) ?_
  refine Lst.nil ?_
  refine At.then ?_
  refine Cd.seq ?_
  refine Cd.region ?_
  refine Lst.makeMap (fun x : Vector Int 6 => (.agg (enc x).toArray : Value)) (fun x : Int => (.int .i64 x : Value)) rfl rfl (by decide) (fun b7 => ?_)
  refine Lst.run rfl rfl (by decide) (Ev.assign rfl) ?_
  refine Lst.nil ?_
  refine At.then ?_
  refine Cd.seq ?_
  refine Cd.seq ?_
  refine Cd.region ?_
  refine Lst.run rfl rfl (by decide) (Ev.move rfl) ?_
  refine Lst.run rfl rfl (by decide) (Ev.lenS (α := Vector Int 6) (xs := r1) (by decide) rfl rfl Try.runUnderlying28 (Rd.own (i := 1) rfl rfl rfl)) ?_
  refine Lst.run rfl rfl (by decide) (Ev.sub rfl rfl) ?_
  refine Lst.run rfl rfl (by decide) (Ev.assign rfl) ?_
  refine Lst.nil ?_
  refine At.then ?_
  refine Cd.block ?_
  obtain ⟨ol9, H, HKl9⟩ := andThen_some H
  refine Cd.loop (σ := Nat × Int × (List ((Vector Int 6) × Int))) (fun (k9, y10, l11) => [(0, Sl.v s_a0), (1, Sl.v s_a1), (5, Sl.v s3), (6, .map (some b7)), (7, .int .i64 y10)]) (fun (k9, y10, l11) => (mitem b7 (fun x : Vector Int 6 => (.agg (enc x).toArray : Value)) (fun x : Int => (.int .i64 x : Value)) l11) :: (.own s3 23 6 (encs r1)) :: L) (fun _ => (fun (k9, y10, l11) => whileM (partref_Must_B0 a0 a1 r1) k9 (y10, l11) = some ol9)) (fun (k9, y10, l11) => k9) (fu, w64 ((r1.length : Int) - (1 : Int)), ([] : List ((Vector Int 6) × Int))) ⟨rfl, rfl, rfl, rfl, rfl, trivial⟩ rfl H ?_
  rintro F12 ⟨k9, y10, l11⟩ hF13 H
  refine Cd.as (e' := [(0, Sl.v s_a0), (1, Sl.v s_a1), (5, Sl.v s3), (6, .map (some b7)), (7, .int .i64 y10)]) (L' := (mitem b7 (fun x : Vector Int 6 => (.agg (enc x).toArray : Value)) (fun x : Int => (.int .i64 x : Value)) l11) :: (.own s3 23 6 (encs r1)) :: L) ⟨rfl, rfl, rfl, rfl, rfl, trivial⟩ rfl ?_
  rcases k9 with _ | k9
  · cases H
  obtain ⟨c9, H, hgo9, hbrk9, hret9⟩ := whileM_go H
  unfold partref_Must_B0 at H
  try dsimp only at H
  refine Cd.seq ?_
  refine Cd.seq ?_
  refine Cd.region ?_
  refine Lst.run rfl rfl (by decide) (Ev.move rfl) ?_
  refine Lst.run rfl rfl (by decide) (Ev.geq rfl rfl) ?_
  refine Lst.nil ?_
  refine At.then ?_
  rcases (Bool.eq_false_or_eq_true (decide (y10 ≥ (0 : Int)))).symm with hb14 | hb14
  · replace H := ite_f hb14 H
    refine Cd.condF rfl hb14 ?_
    refine Cd.exit ?_
    refine At.then_exit ?_
    refine At.then_exit ?_
    refine At.in_exit ?_
    have H := hbrk9 _ (some_inj H).symm
    subst H
    replace H := HKl9
    refine At.then ?_
    refine Cd.seq ?_
    refine Cd.region ?_
    refine Lst.run rfl rfl (by decide) (Ev.move rfl) ?_
    refine Lst.run rfl rfl (by decide) (Ev.build (v := .agg (enc ((Vector.replicate 6 (0 : Int)) : Vector Int 6)).toArray) (pv := []) trivial (fun w => by kernel_rfl)) ?_
    refine Lst.run rfl rfl (by decide) (Ev.lookup (i := 0) (kf := (fun x : Vector Int 6 => (.agg (enc x).toArray : Value))) (vf := (fun x : Int => (.int .i64 x : Value))) (m := l11) (k := ((Vector.replicate 6 (0 : Int)) : Vector Int 6)) (z0 := (0 : Int)) rfl rfl rfl (KeyOk.ints Try.runUnderlying23 Try.runUnderlying3 Try.sizeOf3 Try.isAgg3 (fun x y w => eq23 x y w)) Try.runUnderlying99 Try.zeroValue3) ?_
    refine Lst.run rfl rfl (by decide) (Ev.eql rfl rfl) ?_
    refine Lst.run rfl rfl (by decide) (Ev.assign rfl) ?_
    refine Lst.nil ?_
    refine At.then ?_
    obtain rfl := some_inj H
    refine Cd.ret ?_
    exact At.ret1 rfl (Res.tmp rfl) (FLe.trans hF6 hF13) (List.Sublist.cons _ (List.Sublist.cons _ (List.Sublist.refl _))) ⟨rfl, rfl⟩
  replace H := ite_t hb14 H
  refine Cd.condT rfl hb14 ?_
  refine Cd.skip ?_
  refine At.then ?_
  refine Cd.seq ?_
  refine Cd.block ?_
  refine Cd.seq ?_
  refine Cd.region ?_
  refine Lst.run rfl rfl (by decide) (Ev.move rfl) ?_
  refine Lst.run rfl rfl (by decide) (Ev.move rfl) ?_
  obtain ⟨x15, h16, H⟩ := bind_some H
  have g17 := lat_some h16
  refine Lst.run rfl rfl (by decide) (Ev.indexS (α := Vector Int 6) (xs := r1) rfl rfl Try.runUnderlying28 Try.sizeOf23 rfl (by decide) (Rd.own (i := 1) rfl rfl rfl) g17.1 g17.2.1) ?_
  refine Lst.run rfl rfl (by decide) (Ev.loadSA (α := Vector Int 6) rfl (Rd.own (i := 1) rfl rfl rfl) Try.isAgg23 Try.sizeOf23 (ch := enc x15) (Enc.len _) (by decide) ((Get.elemN (s := 6) (x := x15) rfl g17.2.2 (Get.here _)).off (by omega))) ?_
  refine Lst.alloc (cs := enc (Vector.replicate 6 (0 : Int))) rfl rfl (by decide) Try.zeroValue23 rfl (fun b18 => ?_)
  refine Lst.store (i := 0) rfl rfl rfl rfl rfl Try.sizeOf23 (vs := enc x15) rfl (Enc.len _) (Enc.one _) (cs' := enc x15) (Put.here ((Enc.len _).trans (Enc.len _).symm)) (L' := (.blk b18 (enc x15) 23) :: (mitem b7 (fun x : Vector Int 6 => (.agg (enc x).toArray : Value)) (fun x : Int => (.int .i64 x : Value)) l11) :: (.own s3 23 6 (encs r1)) :: L) rfl ?_
  refine Lst.nil ?_
  refine At.then ?_
  refine Cd.seq ?_
  refine Cd.seq ?_
  refine Cd.region ?_
  refine Lst.run rfl rfl (by decide) (Ev.move rfl) ?_
  refine Lst.run rfl rfl (by decide) (Ev.loadA (i := 0) rfl rfl Try.isAgg23 Try.sizeOf23 (ch := enc x15) (Enc.len _) (Get.here _)) ?_
  obtain ⟨r20, h21, H⟩ := bind_some H
  refine Lst.call1 rfl rfl (by decide) (vs := [Sl.v s_a1, .agg (enc x15).toArray]) ⟨rfl, rfl, trivial⟩ Try.call64 (partref_So_sim h21 w0 _ M _ (List.Sublist.cons _ (List.Sublist.cons _ (List.Sublist.cons _ hM))) hm_a1 (hs_a1.mono (FLe.trans hF6 hF13) (List.Sublist.refl _)) (All.monoLR ha_a1 (FLe.trans hF6 hF13) (List.Sublist.refl _))) ?_
  refine Lst.nil ?_
  refine At.then ?_
  rcases Bool.eq_false_or_eq_true r20 with hb24 | hb24
  · replace H := ite_t hb24 H
    refine Cd.condT rfl hb24 ?_
    refine Cd.exit ?_
    refine At.then_exit ?_
    refine At.in_exit ?_
    refine At.then ?_
    refine Cd.region ?_
    refine Lst.run rfl rfl (by decide) (Ev.move rfl) ?_
    refine Lst.run rfl rfl (by decide) (Ev.sub rfl rfl) ?_
    refine Lst.run rfl rfl (by decide) (Ev.assign rfl) ?_
    refine Lst.nil ?_
    refine At.less (L' := (mitem b7 (fun x : Vector Int 6 => (.agg (enc x).toArray : Value)) (fun x : Int => (.int .i64 x : Value)) l11) :: (.own s3 23 6 (encs r1)) :: L) (List.Sublist.cons _ (List.Sublist.cons_cons _ (List.Sublist.cons_cons _ (List.Sublist.refl _)))) ?_
    exact At.meet (k9, w64 (y10 - (1 : Int)), l11) hF13 ⟨rfl, rfl, rfl, rfl, rfl, trivial⟩ rfl ⟨hgo9 _ (some_inj H).symm, Nat.lt_succ_self _⟩
  replace H := ite_f hb24 H
  refine Cd.condF rfl hb24 ?_
  refine Cd.skip ?_
  refine At.then ?_
  refine Cd.seq ?_
  refine Cd.quiet (by kernel_rfl) (by kernel_rfl) ?_
  refine Qt.run rfl rfl (by decide) (Ev.loadA (i := 0) rfl rfl Try.isAgg23 Try.sizeOf23 (ch := enc x15) (Enc.len _) (Get.here _)) ?_
  refine Qt.run rfl rfl (by decide) (Ev.move rfl) ?_
  obtain ⟨r25, h26, H⟩ := bind_some H
  refine Qt.call rfl rfl (by decide) (vs := [Sl.v s_a0]) ⟨rfl, trivial⟩ Try.call54 (partref_Sizes_sim h26 w0 _ M _ (List.Sublist.cons _ (List.Sublist.cons _ (List.Sublist.cons _ hM))) (hs_a0.mono (FLe.trans hF6 hF13) (List.Sublist.refl _))) ?_
  refine Qt.run rfl rfl (by decide) (Ev.eqlA rfl rfl (by kernel_rfl) (eq23 _ _)) ?_
  refine Qt.run rfl rfl (by decide) (Ev.assign rfl) ?_
  refine Qt.done ?_
  refine At.then ?_
  refine Cd.seq ?_
  refine Cd.seq ?_
  refine Cd.region ?_
  refine Lst.run rfl rfl (by decide) (Ev.move rfl) ?_
  refine Lst.nil ?_
  refine At.then ?_
  refine Cd.block ?_
  obtain ⟨ol29, H, HKl29⟩ := bind_some H
  refine Cd.loop (σ := Nat × Nat × Bool) (fun (i29, k29, y30) => [(0, Sl.v s_a0), (1, Sl.v s_a1), (5, Sl.v s3), (6, .map (some b7)), (7, .int .i64 y10), (8, .pointer (some ⟨b18, 0, none⟩)), (9, .bool y30), (33, .int .i64 (i29 : Int))]) (fun (i29, k29, y30) => (.blk b18 (enc x15) 23) :: (mitem b7 (fun x : Vector Int 6 => (.agg (enc x).toArray : Value)) (fun x : Int => (.int .i64 x : Value)) l11) :: (.own s3 23 6 (encs r1)) :: L) (fun _ => (fun (i29, k29, y30) => rangeF (partref_Must_B2 l11 x15) k29 i29 y30 = some ol29 ∧ i29 + k29 = 6)) (fun (i29, k29, y30) => k29) (0, 6, decide (x15 = r25)) ⟨rfl, rfl, rfl, rfl, rfl, rfl, rfl, rfl, trivial⟩ rfl ⟨H, by omega⟩ ?_
  rintro F31 ⟨i29, k29, y30⟩ hF32 ⟨H, hik29⟩
  refine Cd.as (e' := [(0, Sl.v s_a0), (1, Sl.v s_a1), (5, Sl.v s3), (6, .map (some b7)), (7, .int .i64 y10), (8, .pointer (some ⟨b18, 0, none⟩)), (9, .bool y30), (33, .int .i64 (i29 : Int))]) (L' := (.blk b18 (enc x15) 23) :: (mitem b7 (fun x : Vector Int 6 => (.agg (enc x).toArray : Value)) (fun x : Int => (.int .i64 x : Value)) l11) :: (.own s3 23 6 (encs r1)) :: L) ⟨rfl, rfl, rfl, rfl, rfl, rfl, rfl, rfl, trivial⟩ rfl ?_
  rcases k29 with _ | k29
  · have hc29 : decide ((i29 : Int) < (6 : Int)) = false := decide_eq_false (by omega)
    replace H := rangeF_end H
    refine Cd.seq ?_
    refine Cd.region ?_
    refine Lst.run rfl rfl (by decide) (Ev.lss rfl rfl) ?_
    refine Lst.nil ?_
    refine At.then ?_
    refine Cd.seq ?_
    refine Cd.condF rfl hc29 ?_
    refine Cd.exit ?_
    refine At.then_exit ?_
    refine At.then_exit ?_
    refine At.in_exit ?_
    subst H
    replace H := HKl29
    refine At.then ?_
    refine Cd.seq ?_
    refine Cd.region ?_
    refine Lst.run rfl rfl (by decide) (Ev.move rfl) ?_
    refine Lst.nil ?_
    refine At.then ?_
    rcases (Bool.eq_false_or_eq_true y30).symm with hb48 | hb48
    · replace H := ite_f hb48 H
      refine Cd.condF rfl hb48 ?_
      refine Cd.skip ?_
      refine At.in_normal ?_
      refine At.then ?_
      refine Cd.region ?_
      refine Lst.run rfl rfl (by decide) (Ev.move rfl) ?_
      refine Lst.run rfl rfl (by decide) (Ev.sub rfl rfl) ?_
      refine Lst.run rfl rfl (by decide) (Ev.assign rfl) ?_
      refine Lst.nil ?_
      refine At.less (L' := (mitem b7 (fun x : Vector Int 6 => (.agg (enc x).toArray : Value)) (fun x : Int => (.int .i64 x : Value)) l11) :: (.own s3 23 6 (encs r1)) :: L) (List.Sublist.cons _ (List.Sublist.cons_cons _ (List.Sublist.cons_cons _ (List.Sublist.refl _)))) ?_
      exact At.meet (k9, w64 (y10 - (1 : Int)), l11) (FLe.trans hF13 hF32) ⟨rfl, rfl, rfl, rfl, rfl, trivial⟩ rfl ⟨hgo9 _ (some_inj H).symm, Nat.lt_succ_self _⟩
    replace H := ite_t hb48 H
    refine Cd.condT rfl hb48 ?_
    refine Cd.region ?_
    refine Lst.run rfl rfl (by decide) (Ev.move rfl) ?_
    refine Lst.run rfl rfl (by decide) (Ev.loadA (i := 0) rfl rfl Try.isAgg23 Try.sizeOf23 (ch := enc x15) (Enc.len _) (Get.here _)) ?_
    obtain ⟨m49, h50, H⟩ := Let_some H
    refine Lst.mapUpdate (i := 1) (kf := (fun x : Vector Int 6 => (.agg (enc x).toArray : Value))) (vf := (fun x : Int => (.int .i64 x : Value))) (m := l11) (k := x15) (v := (1 : Int)) rfl rfl rfl rfl rfl rfl (KeyOk.ints Try.runUnderlying23 Try.runUnderlying3 Try.sizeOf3 Try.isAgg3 (fun x y w => eq23 x y w)) Try.runUnderlying99 ?_
    refine Lst.its (L' := (.blk b18 (enc x15) 23) :: (mitem b7 (fun x : Vector Int 6 => (.agg (enc x).toArray : Value)) (fun x : Int => (.int .i64 x : Value)) m49) :: (.own s3 23 6 (encs r1)) :: L) (by rw [← h50]; rfl) ?_
    refine Lst.nil ?_
    refine At.in_normal ?_
    refine At.then ?_
    refine Cd.region ?_
    refine Lst.run rfl rfl (by decide) (Ev.move rfl) ?_
    refine Lst.run rfl rfl (by decide) (Ev.sub rfl rfl) ?_
    refine Lst.run rfl rfl (by decide) (Ev.assign rfl) ?_
    refine Lst.nil ?_
    refine At.less (L' := (mitem b7 (fun x : Vector Int 6 => (.agg (enc x).toArray : Value)) (fun x : Int => (.int .i64 x : Value)) m49) :: (.own s3 23 6 (encs r1)) :: L) (List.Sublist.cons _ (List.Sublist.cons_cons _ (List.Sublist.cons_cons _ (List.Sublist.refl _)))) ?_
    exact At.meet (k9, w64 (y10 - (1 : Int)), m49) (FLe.trans hF13 hF32) ⟨rfl, rfl, rfl, rfl, rfl, trivial⟩ rfl ⟨hgo9 _ (some_inj H).symm, Nat.lt_succ_self _⟩
  have hc29 : decide ((i29 : Int) < (6 : Int)) = true := decide_eq_true (by omega)
  obtain ⟨c29, H, hgo29⟩ := rangeF_go H
  unfold partref_Must_B2 at H
  try dsimp only at H
  refine Cd.seq ?_
  refine Cd.region ?_
  refine Lst.run rfl rfl (by decide) (Ev.lss rfl rfl) ?_
  refine Lst.nil ?_
  refine At.then ?_
  refine Cd.seq ?_
  refine Cd.condT rfl hc29 ?_
  refine Cd.skip ?_
  refine At.then ?_
  refine Cd.seq ?_
  refine Cd.block ?_
  refine Cd.seq ?_
  refine Cd.region ?_
  refine Lst.run rfl rfl (by decide) (Ev.move rfl) ?_
  refine Lst.run rfl rfl (by decide) (Ev.assign rfl) ?_
  refine Lst.nil ?_
  refine At.then ?_
  refine Cd.seq ?_
  refine Cd.region ?_
  refine Lst.run rfl rfl (by decide) (Ev.loadA (i := 0) rfl rfl Try.isAgg23 Try.sizeOf23 (ch := enc x15) (Enc.len _) (Get.here _)) ?_
  refine Lst.alloc (cs := enc (Vector.replicate 6 (0 : Int))) rfl rfl (by decide) Try.zeroValue23 rfl (fun b33 => ?_)
  refine Lst.store (i := 0) rfl rfl rfl rfl rfl Try.sizeOf23 (vs := enc x15) rfl (Enc.len _) (Enc.one _) (cs' := enc x15) (Put.here ((Enc.len _).trans (Enc.len _).symm)) (L' := (.blk b33 (enc x15) 23) :: (.blk b18 (enc x15) 23) :: (mitem b7 (fun x : Vector Int 6 => (.agg (enc x).toArray : Value)) (fun x : Int => (.int .i64 x : Value)) l11) :: (.own s3 23 6 (encs r1)) :: L) rfl ?_
  refine Lst.nil ?_
  refine At.then ?_
  refine Cd.seq ?_
  refine Cd.region ?_
  refine Lst.run rfl rfl (by decide) (Ev.move rfl) ?_
  obtain ⟨x35, h36, H⟩ := bind_some H
  have g37 := vat_some h36
  refine Lst.run rfl rfl (by decide) (Ev.indexAddr (off' := 0 + (i29 : Int).toNat * 1) rfl rfl Try.runUnderlying23 Try.sizeOf3 g37.1 g37.2.1 rfl) ?_
  refine Lst.run rfl rfl (by decide) (Ev.load (i := 0) rfl rfl Try.isAgg3 (v := .int .i64 x35) ((Get.vecN (s := 1) (x := x35) rfl g37.2.2 (Get.here _)).off (by omega))) ?_
  refine Lst.run rfl rfl (by decide) (Ev.add rfl rfl) ?_
  obtain ⟨x38, h39, H⟩ := bind_some H
  have g40 := vat_some h39
  refine Lst.run rfl rfl (by decide) (Ev.indexAddr (off' := 0 + (i29 : Int).toNat * 1) rfl rfl Try.runUnderlying23 Try.sizeOf3 g40.1 g40.2.1 rfl) ?_
  obtain ⟨p41, h42, H⟩ := Let_some H
  refine Lst.store (i := 0) rfl rfl rfl rfl rfl Try.sizeOf3 (vs := [.int .i64 (w64 (x35 + (1 : Int)))]) rfl rfl rfl (cs' := enc p41) (by rw [← h42]; exact (Put.vecN (s := 1) (x := x38) rfl g40.2.2 (Put.here (vs := [.int .i64 (w64 (x35 + (1 : Int)))]) rfl)).off (by omega)) (L' := (.blk b33 (enc p41) 23) :: (.blk b18 (enc x15) 23) :: (mitem b7 (fun x : Vector Int 6 => (.agg (enc x).toArray : Value)) (fun x : Int => (.int .i64 x : Value)) l11) :: (.own s3 23 6 (encs r1)) :: L) rfl ?_
  refine Lst.nil ?_
  refine At.then ?_
  refine Cd.region ?_
  refine Lst.run rfl rfl (by decide) (Ev.move rfl) ?_
  refine Lst.run rfl rfl (by decide) (Ev.move rfl) ?_
  obtain ⟨o43, H, HKo43⟩ := bind_some H
  refine Lst.join (σ := Bool) 5 (fun y44 => [(0, Sl.v s_a0), (1, Sl.v s_a1), (5, Sl.v s3), (6, .map (some b7)), (7, .int .i64 y10), (8, .pointer (some ⟨b18, 0, none⟩)), (9, .bool y30), (33, .int .i64 (i29 : Int)), (48, .bool y44)]) (fun y44 => (.blk b33 (enc p41) 23) :: (.blk b18 (enc x15) 23) :: (mitem b7 (fun x : Vector Int 6 => (.agg (enc x).toArray : Value)) (fun x : Int => (.int .i64 x : Value)) l11) :: (.own s3 23 6 (encs r1)) :: L) (fun _ y44 => y44 = o43) ?_ ?_
  · rcases Bool.eq_false_or_eq_true y30 with hb45 | hb45
    · replace H := ite_t hb45 H
      refine Lst.skip rfl rfl rfl hb45 rfl (by decide) ?_
      refine Lst.skip rfl rfl rfl hb45 rfl (by decide) ?_
      refine Lst.skip rfl rfl rfl hb45 rfl (by decide) ?_
      refine Lst.skip rfl rfl rfl hb45 rfl (by decide) ?_
      refine Lst.run rfl rfl (by decide) (Ev.pickT rfl hb45 rfl) ?_
      refine Lst.nil ?_
      exact At.meet true (FLe.refl _) ⟨rfl, rfl, rfl, rfl, rfl, rfl, rfl, rfl, rfl, trivial⟩ rfl (some_inj H)
    replace H := ite_f hb45 H
    refine Lst.runG rfl rfl rfl hb45 rfl (by decide) (Ev.move rfl) ?_
    refine Lst.runG rfl rfl rfl hb45 rfl (by decide) (Ev.loadA (i := 0) rfl rfl Try.isAgg23 Try.sizeOf23 (ch := enc p41) (Enc.len _) (Get.here _)) ?_
    refine Lst.runG rfl rfl rfl hb45 rfl (by decide) (Ev.lookup (i := 2) (kf := (fun x : Vector Int 6 => (.agg (enc x).toArray : Value))) (vf := (fun x : Int => (.int .i64 x : Value))) (m := l11) (k := p41) (z0 := (0 : Int)) rfl rfl rfl (KeyOk.ints Try.runUnderlying23 Try.runUnderlying3 Try.sizeOf3 Try.isAgg3 (fun x y w => eq23 x y w)) Try.runUnderlying99 Try.zeroValue3) ?_
    refine Lst.runG rfl rfl rfl hb45 rfl (by decide) (Ev.gtr rfl rfl) ?_
    refine Lst.run rfl rfl (by decide) (Ev.pickF rfl hb45 rfl) ?_
    refine Lst.nil ?_
    exact At.meet (decide (((mget l11 p41).getD (0 : Int)) > (0 : Int))) (FLe.refl _) ⟨rfl, rfl, rfl, rfl, rfl, rfl, rfl, rfl, rfl, trivial⟩ rfl (some_inj H)
  rintro F46 y44 hF47 hy
  subst hy
  refine Lst.as (e' := [(0, Sl.v s_a0), (1, Sl.v s_a1), (5, Sl.v s3), (6, .map (some b7)), (7, .int .i64 y10), (8, .pointer (some ⟨b18, 0, none⟩)), (9, .bool y30), (33, .int .i64 (i29 : Int)), (48, .bool y44)]) (L' := (.blk b33 (enc p41) 23) :: (.blk b18 (enc x15) 23) :: (mitem b7 (fun x : Vector Int 6 => (.agg (enc x).toArray : Value)) (fun x : Int => (.int .i64 x : Value)) l11) :: (.own s3 23 6 (encs r1)) :: L) ⟨rfl, rfl, rfl, rfl, rfl, rfl, rfl, rfl, rfl, trivial⟩ rfl ?_
  replace H := HKo43
  refine Lst.run rfl rfl (by decide) (Ev.assign rfl) ?_
  refine Lst.nil ?_
  refine At.in_normal ?_
  refine At.then ?_
  refine Cd.region ?_
  refine Lst.run rfl rfl (by decide) (Ev.incr (by omega) rfl rfl) ?_
  refine Lst.run rfl rfl (by decide) (Ev.move rfl) ?_
  refine Lst.nil ?_
  refine At.less (L' := (.blk b18 (enc x15) 23) :: (mitem b7 (fun x : Vector Int 6 => (.agg (enc x).toArray : Value)) (fun x : Int => (.int .i64 x : Value)) l11) :: (.own s3 23 6 (encs r1)) :: L) (List.Sublist.cons _ (List.Sublist.cons_cons _ (List.Sublist.cons_cons _ (List.Sublist.cons_cons _ (List.Sublist.refl _))))) ?_
  exact At.meet (i29 + 1, k29, y44) (FLe.trans hF32 hF47) ⟨rfl, rfl, rfl, rfl, rfl, rfl, rfl, rfl, trivial⟩ rfl ⟨⟨hgo29 _ (some_inj H).symm, by omega⟩, Nat.lt_succ_self _⟩
set_option maxRecDepth 20000 in
theorem partlaw_PredSays_sim {fu : Nat} {a0 : List Event} {a1 : List (List Bool)} {s_a0 : Sl} {s_a1 : Sl} {rs_a1 : List (LR Bool)} {r : Bool} (H : partlaw_PredSays fu a0 a1 = some r) (w0 : World) (F : Frz) (M L : List Item) (hM : M.Sublist L) (hs_a0 : Rd w0 F M s_a0 a0) (hm_a1 : rs_a1.map LR.v = a1) (hs_a1 : Rd w0 F M s_a1 rs_a1) (ha_a1 : All LR.rel w0 F M rs_a1) : Ok Try.prog w0 7 [Sl.v s_a0, Sl.v s_a1] F (L) (Is (.bool r) (L)) := by
  unfold partlaw_PredSays at H
  refine Ok.enter (m := 2) (n := 92) Try.func7 rfl rfl rfl (by decide) ?_
  refine Cd.env (e' := [(0, Sl.v s_a0), (1, Sl.v s_a1)]) rfl ?_
  refine Cd.seq ?_
  refine Cd.region ?_
  refine Lst.run rfl rfl (by decide) (Ev.assign rfl) ?_
  refine Lst.nil ?_
  refine At.then ?_
  refine Cd.seq ?_
  refine Cd.region ?_
  refine Lst.run rfl rfl (by decide) (Ev.move rfl) ?_
  refine Lst.run rfl rfl (by decide) (Ev.move rfl) ?_
  obtain ⟨r1, h2, H⟩ := bind_some H
  refine Lst.call1 rfl rfl (by decide) (vs := [Sl.v s_a0, Sl.v s_a1]) ⟨rfl, rfl, trivial⟩ Try.call38 (partref_TruthErr_sim h2 w0 _ M _ hM (hs_a0.mono (FLe.refl _) (List.Sublist.refl _)) hm_a1 (hs_a1.mono (FLe.refl _) (List.Sublist.refl _)) (All.monoLR ha_a1 (FLe.refl _) (List.Sublist.refl _))) ?_
  refine Lst.run rfl rfl (by decide) (Ev.assign rfl) ?_
  refine Lst.nil ?_
  refine At.then ?_
  refine Cd.seq ?_
  refine Cd.region ?_
  refine Lst.run rfl rfl (by decide) (Ev.move rfl) ?_
  refine Lst.run rfl rfl (by decide) (Ev.move rfl) ?_
  obtain ⟨r5, h6, H⟩ := bind_some H
  refine Lst.call1 rfl rfl (by decide) (vs := [Sl.v s_a0, Sl.v s_a1]) ⟨rfl, rfl, trivial⟩ Try.call39 (pred_First_sim h6 w0 _ M _ hM (hs_a0.mono (FLe.refl _) (List.Sublist.refl _)) hm_a1 (hs_a1.mono (FLe.refl _) (List.Sublist.refl _)) (All.monoLR ha_a1 (FLe.refl _) (List.Sublist.refl _))) ?_
  refine Lst.run rfl rfl (by decide) (Ev.move rfl) ?_
  refine Lst.run rfl rfl (by decide) (Ev.extract rfl rfl) ?_
  refine Lst.run rfl rfl (by decide) (Ev.extract rfl rfl) ?_
  refine Lst.alloc (cs := enc (Vector.replicate 6 (0 : Int))) rfl rfl (by decide) Try.zeroValue23 rfl (fun b9 => ?_)
  refine Lst.store (i := 0) rfl rfl rfl rfl rfl Try.sizeOf23 (vs := enc r5.1) rfl (Enc.len _) (Enc.one _) (cs' := enc r5.1) (Put.here ((Enc.len _).trans (Enc.len _).symm)) (L' := (.blk b9 (enc r5.1) 23) :: L) rfl ?_
  refine Lst.run rfl rfl (by decide) (Ev.assign rfl) ?_
  refine Lst.nil ?_
  refine At.then ?_
  refine Cd.seq ?_
  refine Cd.region ?_
  refine Lst.run rfl rfl (by decide) (Ev.move rfl) ?_
  refine Lst.run rfl rfl (by decide) (Ev.move rfl) ?_
  obtain ⟨r11, h12, H⟩ := bind_some H
  refine Lst.call1 rfl rfl (by decide) (vs := [Sl.v s_a0, Sl.v s_a1]) ⟨rfl, rfl, trivial⟩ Try.call40 (pred_Must_sim h12 w0 _ M _ (List.Sublist.cons _ hM) (hs_a0.mono (FLe.refl _) (List.Sublist.refl _)) hm_a1 (hs_a1.mono (FLe.refl _) (List.Sublist.refl _)) (All.monoLR ha_a1 (FLe.refl _) (List.Sublist.refl _))) ?_
  refine Lst.run rfl rfl (by decide) (Ev.move rfl) ?_
  refine Lst.run rfl rfl (by decide) (Ev.extract rfl rfl) ?_
  refine Lst.run rfl rfl (by decide) (Ev.extract rfl rfl) ?_
  refine Lst.run rfl rfl (by decide) (Ev.assign rfl) ?_
  refine Lst.run rfl rfl (by decide) (Ev.assign rfl) ?_
  refine Lst.nil ?_
  refine At.then ?_
  refine Cd.seq ?_
  refine Cd.seq ?_
  refine Cd.as (e' := [(0, Sl.v s_a0), (1, Sl.v s_a1), (5, .int .i64 r1), (6, .pointer (some ⟨b9, 0, none⟩)), (7, .int .i64 r5.2), (8, .bool r11.1), (9, .int .i64 r11.2)]) (L' := (.blk b9 (enc r5.1) 23) :: L) ⟨rfl, rfl, rfl, rfl, rfl, rfl, rfl, trivial⟩ rfl ?_
  refine Cd.region ?_
  refine Lst.run rfl rfl (by decide) (Ev.move rfl) ?_
  refine Lst.run rfl rfl (by decide) (Ev.move rfl) ?_
  obtain ⟨r15, h16, H⟩ := bind_some H
  refine Lst.call1 rfl rfl (by decide) (vs := [Sl.v s_a0, Sl.v s_a1]) ⟨rfl, rfl, trivial⟩ Try.call41 (pred_Check_sim h16 w0 _ M _ (List.Sublist.cons _ hM) (hs_a0.mono (FLe.refl _) (List.Sublist.refl _)) hm_a1 (hs_a1.mono (FLe.refl _) (List.Sublist.refl _)) (All.monoLR ha_a1 (FLe.refl _) (List.Sublist.refl _))) ?_
  refine Lst.run rfl rfl (by decide) (Ev.move rfl) ?_
  refine Lst.run rfl rfl (by decide) (Ev.neq rfl rfl) ?_
  refine Lst.nil ?_
  refine At.then ?_
  rcases Bool.eq_false_or_eq_true (r15 != r1) with hb19 | hb19
  · replace H := ite_t hb19 H
    refine Cd.condT rfl hb19 ?_
    refine Cd.seq ?_
    refine Cd.region ?_
    refine Lst.run rfl rfl (by decide) (Ev.assign rfl) ?_
    refine Lst.nil ?_
    refine At.then ?_
    obtain rfl := some_inj H
    refine Cd.ret ?_
    refine At.then_ret ?_
    exact At.ret1 rfl (Res.tmp rfl) (FLe.refl _) (List.Sublist.cons _ (List.Sublist.refl _)) ⟨rfl, rfl⟩
  replace H := ite_f hb19 H
  refine Cd.condF rfl hb19 ?_
  refine Cd.skip ?_
  refine At.then ?_
  refine Cd.seq ?_
  refine Cd.seq ?_
  refine Cd.region ?_
  refine Lst.run rfl rfl (by decide) (Ev.move rfl) ?_
  refine Lst.run rfl rfl (by decide) (Ev.neq rfl rfl) ?_
  refine Lst.nil ?_
  refine At.then ?_
  rcases Bool.eq_false_or_eq_true (r1 != (0 : Int)) with hb20 | hb20
  · replace H := ite_t hb20 H
    refine Cd.condT rfl hb20 ?_
    refine Cd.seq ?_
    refine Cd.region ?_
    refine Lst.run rfl rfl (by decide) (Ev.loadA (i := 0) rfl rfl Try.isAgg23 Try.sizeOf23 (ch := enc r5.1) (Enc.len _) (Get.here _)) ?_
    refine Lst.run rfl rfl (by decide) (Ev.build (v := .agg (enc ((Vector.replicate 6 (0 : Int)) : Vector Int 6)).toArray) (pv := []) trivial (fun w => by kernel_rfl)) ?_
    refine Lst.run rfl rfl (by decide) (Ev.eqlA rfl rfl (by kernel_rfl) (eq23 _ _)) ?_
    refine Lst.run rfl rfl (by decide) (Ev.move rfl) ?_
    obtain ⟨o21, H, HKo21⟩ := bind_some H
    refine Lst.join (σ := Bool) 4 (fun y22 => [(5, .int .i64 r1), (8, .bool r11.1), (9, .int .i64 r11.2), (41, .bool y22)]) (fun y22 => (.blk b9 (enc r5.1) 23) :: L) (fun _ y22 => y22 = o21) ?_ ?_
    · rcases (Bool.eq_false_or_eq_true (decide (r5.1 = ((Vector.replicate 6 (0 : Int)) : Vector Int 6)))).symm with hb23 | hb23
      · replace H := ite_f hb23 H
        refine Lst.skip rfl rfl rfl hb23 rfl (by decide) ?_
        refine Lst.skip rfl rfl rfl hb23 rfl (by decide) ?_
        refine Lst.skip rfl rfl rfl hb23 rfl (by decide) ?_
        refine Lst.run rfl rfl (by decide) (Ev.pickF rfl hb23 rfl) ?_
        refine Lst.nil ?_
        exact At.meet false (FLe.refl _) ⟨rfl, rfl, rfl, rfl, trivial⟩ rfl (some_inj H)
      replace H := ite_t hb23 H
      refine Lst.runG rfl rfl rfl hb23 rfl (by decide) (Ev.move rfl) ?_
      refine Lst.runG rfl rfl rfl hb23 rfl (by decide) (Ev.move rfl) ?_
      refine Lst.runG rfl rfl rfl hb23 rfl (by decide) (Ev.eql rfl rfl) ?_
      refine Lst.run rfl rfl (by decide) (Ev.pickT rfl hb23 rfl) ?_
      refine Lst.nil ?_
      exact At.meet (r5.2 == r1) (FLe.refl _) ⟨rfl, rfl, rfl, rfl, trivial⟩ rfl (some_inj H)
    rintro F24 y22 hF25 hy
    subst hy
    refine Lst.as (e' := [(5, .int .i64 r1), (8, .bool r11.1), (9, .int .i64 r11.2), (41, .bool y22)]) (L' := (.blk b9 (enc r5.1) 23) :: L) ⟨rfl, rfl, rfl, rfl, trivial⟩ rfl ?_
    replace H := HKo21
    refine Lst.run rfl rfl (by decide) (Ev.move rfl) ?_
    obtain ⟨o26, H, HKo26⟩ := bind_some H
    refine Lst.join (σ := Bool) 3 (fun y27 => [(5, .int .i64 r1), (9, .int .i64 r11.2), (45, .bool y27)]) (fun y27 => (.blk b9 (enc r5.1) 23) :: L) (fun _ y27 => y27 = o26) ?_ ?_
    · rcases (Bool.eq_false_or_eq_true y22).symm with hb28 | hb28
      · replace H := ite_f hb28 H
        refine Lst.skip rfl rfl rfl hb28 rfl (by decide) ?_
        refine Lst.skip rfl rfl rfl hb28 rfl (by decide) ?_
        refine Lst.run rfl rfl (by decide) (Ev.pickF rfl hb28 rfl) ?_
        refine Lst.nil ?_
        exact At.meet false (FLe.refl _) ⟨rfl, rfl, rfl, trivial⟩ rfl (some_inj H)
      replace H := ite_t hb28 H
      refine Lst.runG rfl rfl rfl hb28 rfl (by decide) (Ev.move rfl) ?_
      refine Lst.runG rfl rfl rfl hb28 rfl (by decide) (Ev.not rfl) ?_
      refine Lst.run rfl rfl (by decide) (Ev.pickT rfl hb28 rfl) ?_
      refine Lst.nil ?_
      exact At.meet (!r11.1) (FLe.refl _) ⟨rfl, rfl, rfl, trivial⟩ rfl (some_inj H)
    rintro F29 y27 hF30 hy
    subst hy
    refine Lst.as (e' := [(5, .int .i64 r1), (9, .int .i64 r11.2), (45, .bool y27)]) (L' := (.blk b9 (enc r5.1) 23) :: L) ⟨rfl, rfl, rfl, trivial⟩ rfl ?_
    replace H := HKo26
    refine Lst.run rfl rfl (by decide) (Ev.move rfl) ?_
    obtain ⟨o31, H, HKo31⟩ := bind_some H
    refine Lst.join (σ := Bool) 4 (fun y32 => [(50, .bool y32)]) (fun y32 => (.blk b9 (enc r5.1) 23) :: L) (fun _ y32 => y32 = o31) ?_ ?_
    · rcases (Bool.eq_false_or_eq_true y27).symm with hb33 | hb33
      · replace H := ite_f hb33 H
        refine Lst.skip rfl rfl rfl hb33 rfl (by decide) ?_
        refine Lst.skip rfl rfl rfl hb33 rfl (by decide) ?_
        refine Lst.skip rfl rfl rfl hb33 rfl (by decide) ?_
        refine Lst.run rfl rfl (by decide) (Ev.pickF rfl hb33 rfl) ?_
        refine Lst.nil ?_
        exact At.meet false (FLe.refl _) ⟨rfl, trivial⟩ rfl (some_inj H)
      replace H := ite_t hb33 H
      refine Lst.runG rfl rfl rfl hb33 rfl (by decide) (Ev.move rfl) ?_
      refine Lst.runG rfl rfl rfl hb33 rfl (by decide) (Ev.move rfl) ?_
      refine Lst.runG rfl rfl rfl hb33 rfl (by decide) (Ev.eql rfl rfl) ?_
      refine Lst.run rfl rfl (by decide) (Ev.pickT rfl hb33 rfl) ?_
      refine Lst.nil ?_
      exact At.meet (r11.2 == r1) (FLe.refl _) ⟨rfl, trivial⟩ rfl (some_inj H)
    rintro F34 y32 hF35 hy
    subst hy
    refine Lst.as (e' := [(50, .bool y32)]) (L' := (.blk b9 (enc r5.1) 23) :: L) ⟨rfl, trivial⟩ rfl ?_
    replace H := HKo31
    refine Lst.run rfl rfl (by decide) (Ev.assign rfl) ?_
    refine Lst.nil ?_
    refine At.then ?_
    obtain rfl := some_inj H
    refine Cd.ret ?_
    refine At.then_ret ?_
    exact At.ret1 rfl (Res.tmp rfl) (FLe.trans (FLe.trans hF25 hF30) hF35) (List.Sublist.cons _ (List.Sublist.refl _)) ⟨rfl, rfl⟩
  replace H := ite_f hb20 H
  refine Cd.condF rfl hb20 ?_
  refine Cd.skip ?_
  refine At.then ?_
  refine Cd.seq ?_
  refine Cd.region ?_
  refine Lst.run rfl rfl (by decide) (Ev.move rfl) ?_
  refine Lst.run rfl rfl (by decide) (Ev.move rfl) ?_
  obtain ⟨r36, h37, H⟩ := bind_some H
  refine Lst.call1 rfl rfl (by decide) (vs := [Sl.v s_a0, Sl.v s_a1]) ⟨rfl, rfl, trivial⟩ Try.call42 (partref_First_sim h37 w0 _ M _ (List.Sublist.cons _ hM) (hs_a0.mono (FLe.refl _) (List.Sublist.refl _)) hm_a1 (hs_a1.mono (FLe.refl _) (List.Sublist.refl _)) (All.monoLR ha_a1 (FLe.refl _) (List.Sublist.refl _))) ?_
  refine Lst.run rfl rfl (by decide) (Ev.move rfl) ?_
  refine Lst.run rfl rfl (by decide) (Ev.extract rfl rfl) ?_
  refine Lst.run rfl rfl (by decide) (Ev.extract rfl rfl) ?_
  refine Lst.alloc (cs := enc (Vector.replicate 6 (0 : Int))) rfl rfl (by decide) Try.zeroValue23 rfl (fun b40 => ?_)
  refine Lst.store (i := 0) rfl rfl rfl rfl rfl Try.sizeOf23 (vs := enc r36.1) rfl (Enc.len _) (Enc.one _) (cs' := enc r36.1) (Put.here ((Enc.len _).trans (Enc.len _).symm)) (L' := (.blk b40 (enc r36.1) 23) :: (.blk b9 (enc r5.1) 23) :: L) rfl ?_
  refine Lst.run rfl rfl (by decide) (Ev.assign rfl) ?_
  refine Lst.nil ?_
  refine At.then ?_
  refine Cd.seq ?_
  refine Cd.seq ?_
  refine Cd.region ?_
  refine Lst.run rfl rfl (by decide) (Ev.move rfl) ?_
  refine Lst.run rfl rfl (by decide) (Ev.move rfl) ?_
  refine Lst.run rfl rfl (by decide) (Ev.eql rfl rfl) ?_
  refine Lst.run rfl rfl (by decide) (Ev.neqB rfl rfl Try.runUnderlying4) ?_
  refine Lst.run rfl rfl (by decide) (Ev.move rfl) ?_
  obtain ⟨o42, H, HKo42⟩ := bind_some H
  refine Lst.join (σ := Bool) 4 (fun y43 => [(0, Sl.v s_a0), (1, Sl.v s_a1), (7, .int .i64 r5.2), (8, .bool r11.1), (9, .int .i64 r11.2), (11, .bool r36.2), (65, .bool y43)]) (fun y43 => (.blk b40 (enc r36.1) 23) :: (.blk b9 (enc r5.1) 23) :: L) (fun _ y43 => y43 = o42) ?_ ?_
  · rcases Bool.eq_false_or_eq_true (r36.2 != (r5.2 == (0 : Int))) with hb44 | hb44
    · replace H := ite_t hb44 H
      refine Lst.skip rfl rfl rfl hb44 rfl (by decide) ?_
      refine Lst.skip rfl rfl rfl hb44 rfl (by decide) ?_
      refine Lst.skip rfl rfl rfl hb44 rfl (by decide) ?_
      refine Lst.run rfl rfl (by decide) (Ev.pickT rfl hb44 rfl) ?_
      refine Lst.nil ?_
      exact At.meet true (FLe.refl _) ⟨rfl, rfl, rfl, rfl, rfl, rfl, rfl, trivial⟩ rfl (some_inj H)
    replace H := ite_f hb44 H
    refine Lst.runG rfl rfl rfl hb44 rfl (by decide) (Ev.loadA (i := 1) rfl rfl Try.isAgg23 Try.sizeOf23 (ch := enc r5.1) (Enc.len _) (Get.here _)) ?_
    refine Lst.runG rfl rfl rfl hb44 rfl (by decide) (Ev.loadA (i := 0) rfl rfl Try.isAgg23 Try.sizeOf23 (ch := enc r36.1) (Enc.len _) (Get.here _)) ?_
    refine Lst.runG rfl rfl rfl hb44 rfl (by decide) (Ev.neqA rfl rfl (by kernel_rfl) (eq23 _ _)) ?_
    refine Lst.run rfl rfl (by decide) (Ev.pickF rfl hb44 rfl) ?_
    refine Lst.nil ?_
    exact At.meet (!(decide (r5.1 = r36.1))) (FLe.refl _) ⟨rfl, rfl, rfl, rfl, rfl, rfl, rfl, trivial⟩ rfl (some_inj H)
  rintro F45 y43 hF46 hy
  subst hy
  refine Lst.as (e' := [(0, Sl.v s_a0), (1, Sl.v s_a1), (7, .int .i64 r5.2), (8, .bool r11.1), (9, .int .i64 r11.2), (11, .bool r36.2), (65, .bool y43)]) (L' := (.blk b40 (enc r36.1) 23) :: (.blk b9 (enc r5.1) 23) :: L) ⟨rfl, rfl, rfl, rfl, rfl, rfl, rfl, trivial⟩ rfl ?_
  replace H := HKo42
  refine Lst.run rfl rfl (by decide) (Ev.move rfl) ?_
  rcases Bool.eq_false_or_eq_true y43 with hb47 | hb47
  · replace H := ite_t hb47 H
    refine Lst.skip rfl rfl rfl hb47 rfl (by decide) ?_
    refine Lst.skip rfl rfl rfl hb47 rfl (by decide) ?_
    refine Lst.skip rfl rfl rfl hb47 rfl (by decide) ?_
    refine Lst.skipU rfl rfl rfl rfl (by decide) ?_
    refine Lst.skipU rfl rfl rfl rfl (by decide) ?_
    refine Lst.skip rfl rfl rfl hb47 rfl (by decide) ?_
    refine Lst.run rfl rfl (by decide) (Ev.pickT rfl hb47 rfl) ?_
    refine Lst.nil ?_
    refine At.then ?_
    refine Cd.condT rfl rfl ?_
    refine Cd.seq ?_
    refine Cd.as (e' := []) (L' := (.blk b40 (enc r36.1) 23) :: (.blk b9 (enc r5.1) 23) :: L) trivial rfl ?_
    refine Cd.region ?_
    refine Lst.run rfl rfl (by decide) (Ev.assign rfl) ?_
    refine Lst.nil ?_
    refine At.then ?_
    obtain rfl := some_inj H
    refine Cd.ret ?_
    refine At.then_ret ?_
    exact At.ret1 rfl (Res.tmp rfl) hF46 (List.Sublist.cons _ (List.Sublist.cons _ (List.Sublist.refl _))) ⟨rfl, rfl⟩
  replace H := ite_f hb47 H
  refine Lst.runG rfl rfl rfl hb47 rfl (by decide) (Ev.move rfl) ?_
  refine Lst.runG rfl rfl rfl hb47 rfl (by decide) (Ev.not rfl) ?_
  refine Lst.runG rfl rfl rfl hb47 rfl (by decide) (Ev.move rfl) ?_
  obtain ⟨o48, H, HKo48⟩ := bind_some H
  refine Lst.join (σ := Bool) 3 (fun y49 => [(0, Sl.v s_a0), (1, Sl.v s_a1), (8, .bool r11.1), (9, .int .i64 r11.2), (66, .bool y43), (72, .bool y49)]) (fun y49 => (.blk b40 (enc r36.1) 23) :: (.blk b9 (enc r5.1) 23) :: L) (fun _ y49 => y49 = o48) ?_ ?_
  · rcases (Bool.eq_false_or_eq_true (!r36.2)).symm with hb50 | hb50
    · replace H := ite_f hb50 H
      refine Lst.skip rfl rfl rfl hb50 rfl (by decide) ?_
      refine Lst.skip rfl rfl rfl hb50 rfl (by decide) ?_
      refine Lst.runG rfl rfl rfl hb47 rfl (by decide) (Ev.pickF rfl hb50 rfl) ?_
      refine Lst.nil ?_
      exact At.meet false (FLe.refl _) ⟨rfl, rfl, rfl, rfl, rfl, rfl, trivial⟩ rfl (some_inj H)
    replace H := ite_t hb50 H
    refine Lst.runG rfl rfl rfl hb50 rfl (by decide) (Ev.move rfl) ?_
    refine Lst.runG rfl rfl rfl hb50 rfl (by decide) (Ev.neq rfl rfl) ?_
    refine Lst.runG rfl rfl rfl hb47 rfl (by decide) (Ev.pickT rfl hb50 rfl) ?_
    refine Lst.nil ?_
    exact At.meet (r5.2 != (6 : Int)) (FLe.refl _) ⟨rfl, rfl, rfl, rfl, rfl, rfl, trivial⟩ rfl (some_inj H)
  rintro F51 y49 hF52 hy
  subst hy
  refine Lst.as (e' := [(0, Sl.v s_a0), (1, Sl.v s_a1), (8, .bool r11.1), (9, .int .i64 r11.2), (66, .bool y43), (72, .bool y49)]) (L' := (.blk b40 (enc r36.1) 23) :: (.blk b9 (enc r5.1) 23) :: L) ⟨rfl, rfl, rfl, rfl, rfl, rfl, trivial⟩ rfl ?_
  replace H := HKo48
  refine Lst.run rfl rfl (by decide) (Ev.pickF rfl hb47 rfl) ?_
  refine Lst.nil ?_
  refine At.then ?_
  rcases Bool.eq_false_or_eq_true y49 with hb53 | hb53
  · replace H := ite_t hb53 H
    refine Cd.condT rfl hb53 ?_
    refine Cd.seq ?_
    refine Cd.region ?_
    refine Lst.run rfl rfl (by decide) (Ev.assign rfl) ?_
    refine Lst.nil ?_
    refine At.then ?_
    obtain rfl := some_inj H
    refine Cd.ret ?_
    refine At.then_ret ?_
    exact At.ret1 rfl (Res.tmp rfl) (FLe.trans hF46 hF52) (List.Sublist.cons _ (List.Sublist.cons _ (List.Sublist.refl _))) ⟨rfl, rfl⟩
  replace H := ite_f hb53 H
  refine Cd.condF rfl hb53 ?_
  refine Cd.skip ?_
  refine At.then ?_
  refine Cd.seq ?_
  refine Cd.seq ?_
  refine Cd.region ?_
  refine Lst.run rfl rfl (by decide) (Ev.move rfl) ?_
  obtain ⟨r54, h55, H⟩ := bind_some H
  refine Lst.call1 rfl rfl (by decide) (vs := [Sl.v s_a0]) ⟨rfl, trivial⟩ Try.call36 (partref_Room_sim h55 w0 _ M _ (List.Sublist.cons _ (List.Sublist.cons _ hM)) (hs_a0.mono (FLe.trans hF46 hF52) (List.Sublist.refl _))) ?_
  refine Lst.run rfl rfl (by decide) (Ev.gtr rfl rfl) ?_
  refine Lst.nil ?_
  refine At.then ?_
  rcases Bool.eq_false_or_eq_true (decide (r54 > (4096 : Int))) with hb58 | hb58
  · replace H := ite_t hb58 H
    refine Cd.condT rfl hb58 ?_
    refine Cd.seq ?_
    refine Cd.region ?_
    refine Lst.run rfl rfl (by decide) (Ev.move rfl) ?_
    refine Lst.run rfl rfl (by decide) (Ev.not rfl) ?_
    refine Lst.run rfl rfl (by decide) (Ev.move rfl) ?_
    obtain ⟨o59, H, HKo59⟩ := bind_some H
    refine Lst.join (σ := Bool) 3 (fun y60 => [(82, .bool y60)]) (fun y60 => (.blk b40 (enc r36.1) 23) :: (.blk b9 (enc r5.1) 23) :: L) (fun _ y60 => y60 = o59) ?_ ?_
    · rcases (Bool.eq_false_or_eq_true (!r11.1)).symm with hb61 | hb61
      · replace H := ite_f hb61 H
        refine Lst.skip rfl rfl rfl hb61 rfl (by decide) ?_
        refine Lst.skip rfl rfl rfl hb61 rfl (by decide) ?_
        refine Lst.run rfl rfl (by decide) (Ev.pickF rfl hb61 rfl) ?_
        refine Lst.nil ?_
        exact At.meet false (FLe.refl _) ⟨rfl, trivial⟩ rfl (some_inj H)
      replace H := ite_t hb61 H
      refine Lst.runG rfl rfl rfl hb61 rfl (by decide) (Ev.move rfl) ?_
      refine Lst.runG rfl rfl rfl hb61 rfl (by decide) (Ev.eql rfl rfl) ?_
      refine Lst.run rfl rfl (by decide) (Ev.pickT rfl hb61 rfl) ?_
      refine Lst.nil ?_
      exact At.meet (r11.2 == (2 : Int)) (FLe.refl _) ⟨rfl, trivial⟩ rfl (some_inj H)
    rintro F62 y60 hF63 hy
    subst hy
    refine Lst.as (e' := [(82, .bool y60)]) (L' := (.blk b40 (enc r36.1) 23) :: (.blk b9 (enc r5.1) 23) :: L) ⟨rfl, trivial⟩ rfl ?_
    replace H := HKo59
    refine Lst.run rfl rfl (by decide) (Ev.assign rfl) ?_
    refine Lst.nil ?_
    refine At.then ?_
    obtain rfl := some_inj H
    refine Cd.ret ?_
    refine At.then_ret ?_
    exact At.ret1 rfl (Res.tmp rfl) (FLe.trans (FLe.trans hF46 hF52) hF63) (List.Sublist.cons _ (List.Sublist.cons _ (List.Sublist.refl _))) ⟨rfl, rfl⟩
  replace H := ite_f hb58 H
  refine Cd.condF rfl hb58 ?_
  refine Cd.skip ?_
  refine At.then ?_
  refine Cd.seq ?_
  refine Cd.region ?_
  refine Lst.run rfl rfl (by decide) (Ev.move rfl) ?_
  refine Lst.run rfl rfl (by decide) (Ev.move rfl) ?_
  refine Lst.run rfl rfl (by decide) (Ev.move rfl) ?_
  obtain ⟨r64, h65, H⟩ := bind_some H
  refine Lst.call1 rfl rfl (by decide) (vs := [Sl.v s_a0, Sl.v s_a1]) ⟨rfl, rfl, trivial⟩ Try.call43 (partref_Must_sim h65 w0 _ M _ (List.Sublist.cons _ (List.Sublist.cons _ hM)) (hs_a0.mono (FLe.trans hF46 hF52) (List.Sublist.refl _)) hm_a1 (hs_a1.mono (FLe.trans hF46 hF52) (List.Sublist.refl _)) (All.monoLR ha_a1 (FLe.trans hF46 hF52) (List.Sublist.refl _))) ?_
  refine Lst.run rfl rfl (by decide) (Ev.eqlB rfl rfl Try.runUnderlying4) ?_
  refine Lst.run rfl rfl (by decide) (Ev.move rfl) ?_
  obtain ⟨o68, H, HKo68⟩ := bind_some H
  refine Lst.join (σ := Bool) 3 (fun y69 => [(91, .bool y69)]) (fun y69 => (.blk b40 (enc r36.1) 23) :: (.blk b9 (enc r5.1) 23) :: L) (fun _ y69 => y69 = o68) ?_ ?_
  · rcases (Bool.eq_false_or_eq_true (r11.1 == r64)).symm with hb70 | hb70
    · replace H := ite_f hb70 H
      refine Lst.skip rfl rfl rfl hb70 rfl (by decide) ?_
      refine Lst.skip rfl rfl rfl hb70 rfl (by decide) ?_
      refine Lst.run rfl rfl (by decide) (Ev.pickF rfl hb70 rfl) ?_
      refine Lst.nil ?_
      exact At.meet false (FLe.refl _) ⟨rfl, trivial⟩ rfl (some_inj H)
    replace H := ite_t hb70 H
    refine Lst.runG rfl rfl rfl hb70 rfl (by decide) (Ev.move rfl) ?_
    refine Lst.runG rfl rfl rfl hb70 rfl (by decide) (Ev.eql rfl rfl) ?_
    refine Lst.run rfl rfl (by decide) (Ev.pickT rfl hb70 rfl) ?_
    refine Lst.nil ?_
    exact At.meet (r11.2 == (0 : Int)) (FLe.refl _) ⟨rfl, trivial⟩ rfl (some_inj H)
  rintro F71 y69 hF72 hy
  subst hy
  refine Lst.as (e' := [(91, .bool y69)]) (L' := (.blk b40 (enc r36.1) 23) :: (.blk b9 (enc r5.1) 23) :: L) ⟨rfl, trivial⟩ rfl ?_
  replace H := HKo68
  refine Lst.run rfl rfl (by decide) (Ev.assign rfl) ?_
  refine Lst.nil ?_
  refine At.then ?_
  obtain rfl := some_inj H
  refine Cd.ret ?_
  exact At.ret1 rfl (Res.tmp rfl) (FLe.trans (FLe.trans hF46 hF52) hF72) (List.Sublist.cons _ (List.Sublist.cons _ (List.Sublist.refl _))) ⟨rfl, rfl⟩
end Go.Proofs.Ytclmlddmgccfjaa
