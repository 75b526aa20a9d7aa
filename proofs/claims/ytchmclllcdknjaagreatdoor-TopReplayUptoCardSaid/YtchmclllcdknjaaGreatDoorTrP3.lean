/-
  The functions compute their specs; printed by a program.
-/
import Derived.Test.YtchmclllcdknjaaGreatDoorTrP2
namespace Go.Proofs.YtchmclllcdknjaaGreatDoor
open Go.RowKit Enc
set_option linter.unusedVariables false
set_option linter.unusedSimpArgs false
set_option maxRecDepth 20000 in
theorem same_Run_sim {fu : Nat} {a0 : Vector Int 10} {a1 : List Str} {s_a1 : Sl} {r : (Vector Int 10) × Int} (H : same_Run fu a0 a1 = some r) (w0 : World) (F : Frz) (M L : List Item) (hM : M.Sublist L) (hs_a1 : Rd w0 F M s_a1 a1) : Ok Tryz.prog w0 33 [.agg (enc a0).toArray, Sl.v s_a1] F (L) (Is (.tuple #[.agg (enc r.1).toArray, iv r.2]) (L)) := by
 unfold same_Run at H
 refine Ok.enter (m := 2) (n := 31) Tryz.func33 rfl rfl rfl (by decide) ?_
 refine Cd.env (e' := [(0, .agg (enc a0).toArray), (1, Sl.v s_a1)]) rfl ?_
 refine sr0 ?_
 refine Lst.box rfl rfl (by decide) rfl (cs := enc a0) rfl (fun b1 => ?_)
 refine Lst.alloc (cs := enc (Vector.replicate 10 (0 : Int))) rfl rfl (by decide) Tryz.zeroValue57 rfl (fun b3 => ?_)
 refine Lst.r (Ev.assign rfl) ?_
 refine nsr ?_
 refine Lst.r (Ev.assign rfl) ?_
 refine nt0 ?_
 refine Cd.seq ?_
 refine sr0 ?_
 refine mv0 rfl ?_
 refine Lst.r (Ev.lenS (α := Str) (xs := a1) (by decide) rfl rfl Tryz.runUnderlying43 (hs_a1.mono fl (sc2 hM))) ?_
 refine mv0 rfl ?_
 refine nt0 ?_
 refine Cd.block ?_
 refine Cd.bound (Rd.le (α := Str) (xs := a1) (by decide) (hs_a1.mono fl (sc2 hM))) (fun hN24 => ?_)
 obtain ⟨ol5, H, HKl5⟩ := bind_some H
 refine Cd.loop (σ := Nat × Nat × Int × (Vector Int 10)) (fun (i5, k5, y6, y7) => [(2, pv b1 0), (4, pv b3 0), (6, iv y6), (11, Sl.v s_a1), (12, iv (a1.length : Int)), (13, iv (i5 : Int))]) (fun (i5, k5, y6, y7) => (.blk b3 (enc (Vector.replicate 10 (0 : Int))) 57) :: (.blk b1 (enc y7) 57) :: L) (fun _ => (fun (i5, k5, y6, y7) => rangeF (same_Run_B0 fu a1) k5 i5 (y6, y7) = some ol5 ∧ i5 + k5 = a1.length)) (fun (i5, k5, y6, y7) => k5) (0, a1.length, (0 : Int), a0) ⟨rfl, rfl, rfl, rfl, rfl, rfl, trivial⟩ rfl ⟨H, by omega⟩ ?_
 rintro F8 ⟨i5, k5, y6, y7⟩ hF9 ⟨H, hik5⟩
 refine Cd.as (e' := [(2, pv b1 0), (4, pv b3 0), (6, iv y6), (11, Sl.v s_a1), (12, iv (a1.length : Int)), (13, iv (i5 : Int))]) (L' := (.blk b3 (enc (Vector.replicate 10 (0 : Int))) 57) :: (.blk b1 (enc y7) 57) :: L) ⟨rfl, rfl, rfl, rfl, rfl, rfl, trivial⟩ rfl ?_
 rcases k5 with _ | k5
 ·have hc5 : decide ((i5 : Int) < (a1.length : Int)) = false := decide_eq_false (by omega)
  replace H := rangeF_end H
  refine sr0 ?_
  refine Lst.r (Ev.lss rfl rfl) ?_
  refine nt0 ?_
  refine Cd.seq ?_
  refine Cd.condF rfl hc5 ?_
  refine Cd.exit ?_
  refine At.then_exit ?_
  refine At.then_exit ?_
  refine At.in_exit ?_
  subst H
  replace H := HKl5
  refine At.then ?_
  refine sr0 ?_
  refine Lst.r (Ev.loadA (i := 1) rfl rfl Tryz.isAgg57 Tryz.sizeOf57 (ch := enc y7) (Enc.len _) gh0) ?_
  refine mv0 rfl ?_
  refine Lst.store (i := 0) rfl rfl rfl rfl rfl Tryz.sizeOf57 (vs := enc y7) rfl (Enc.len _) (Enc.one _) (cs' := enc y7) (Put.here ((Enc.len _).trans (Enc.len _).symm)) (L' := (.blk b3 (enc y7) 57) :: (.blk b1 (enc y7) 57) :: L) rfl ?_
  refine Lst.r (Ev.assign rfl) ?_
  refine nt0 ?_
  obtain rfl := some_inj H
  refine Cd.ret ?_
  exact At.ret2 rfl (Res.cellA (i := 0) rfl rfl Tryz.isAgg57 Tryz.sizeOf57 (Enc.len _)) (Res.tmp rfl) hF9 (sc1 (sc1 (.refl _))) ⟨rfl, rfl⟩
 have hc5 : decide ((i5 : Int) < (a1.length : Int)) = true := decide_eq_true (by omega)
 obtain ⟨c5, H, hgo5⟩ := rangeF_go H
 unfold same_Run_B0 at H
 try dsimp only at H
 refine sr0 ?_
 refine Lst.r (Ev.lss rfl rfl) ?_
 refine nt0 ?_
 refine Cd.seq ?_
 refine Cd.condT rfl hc5 ?_
 refine Cd.skip ?_
 refine At.then ?_
 refine Cd.seq ?_
 refine Cd.block ?_
 refine sr0 ?_
 obtain ⟨x10, h11, H⟩ := bind_some H
 have g12 := lat_some h11
 refine Lst.r (Ev.indexS (α := Str) (xs := a1) rfl rfl Tryz.runUnderlying43 Tryz.sizeOf9 rfl (by decide) (hs_a1.mono hF9 (sc2 hM)) g12.1 g12.2.1) ?_
 refine Lst.r (Ev.loadS (α := Str) rfl (hs_a1.mono hF9 (sc2 hM)) Tryz.isAgg9 (v := Str.v x10) ((Get.elemN (s := 1) (x := x10) rfl g12.2.2 gh0).off (by omega))) ?_
 refine Lst.r (Ev.assign rfl) ?_
 refine nsr ?_
 refine mv0 rfl ?_
 obtain ⟨r13, h14, H⟩ := bind_some H
 refine Lst.call1 rfl rfl (by decide) (vs := [Str.v x10]) ⟨rfl, trivial⟩ Tryz.call67 (same_Read_sim h14 w0 _ M _ (sc2 hM)) ?_
 refine mv0 rfl ?_
 refine Lst.r (Ev.extract rfl rfl) ?_
 refine Lst.r (Ev.extract rfl rfl) ?_
 refine Lst.alloc (cs := enc Cmd.zero) rfl rfl (by decide) Tryz.zeroValue138 rfl (fun b17 => ?_)
 refine Lst.store (i := 0) rfl rfl rfl rfl rfl Tryz.sizeOf138 (vs := enc r13.1) rfl (Enc.len _) (Enc.one _) (cs' := enc r13.1) (Put.here ((Enc.len _).trans (Enc.len _).symm)) (L' := (.blk b17 (enc r13.1) 138) :: (.blk b3 (enc (Vector.replicate 10 (0 : Int))) 57) :: (.blk b1 (enc y7) 57) :: L) rfl ?_
 refine Lst.r (Ev.assign rfl) ?_
 refine nt0 ?_
 refine Cd.seq ?_
 refine sr0 ?_
 refine mv0 rfl ?_
 refine Lst.r (Ev.neq rfl rfl) ?_
 refine nt0 ?_
 rcases Bool.eq_false_or_eq_true (r13.2 != (0 : Int)) with hb19 | hb19
 ·replace H := ite_t hb19 H
  refine Cd.condT rfl hb19 ?_
  refine sr0 ?_
  refine mv0 rfl ?_
  refine Lst.r (Ev.add rfl rfl) ?_
  refine Lst.r (Ev.assign rfl) ?_
  refine nt0 ?_
  refine Cd.exit ?_
  refine At.then_exit ?_
  refine At.in_exit ?_
  refine At.then ?_
  refine Cd.as (e' := [(2, pv b1 0), (4, pv b3 0), (6, iv (w64 (y6 + (1 : Int)))), (11, Sl.v s_a1), (12, iv (a1.length : Int)), (13, iv (i5 : Int))]) (L' := (.blk b17 (enc r13.1) 138) :: (.blk b3 (enc (Vector.replicate 10 (0 : Int))) 57) :: (.blk b1 (enc y7) 57) :: L) ⟨rfl, rfl, rfl, rfl, rfl, rfl, trivial⟩ rfl ?_
  refine Cd.region ?_
  refine Lst.r (Ev.incr (by omega) rfl rfl) ?_
  refine mv0 rfl ?_
  refine Lst.nil ?_
  refine At.less (L' := (.blk b3 (enc (Vector.replicate 10 (0 : Int))) 57) :: (.blk b1 (enc y7) 57) :: L) (sc1 (sk1 (sk1 (.refl _)))) ?_
  exact At.meet (i5 + 1, k5, w64 (y6 + (1 : Int)), y7) hF9 ⟨rfl, rfl, rfl, rfl, rfl, rfl, trivial⟩ rfl ⟨⟨hgo5 _ (some_inj H).symm, by omega⟩, Nat.lt_succ_self _⟩
 replace H := ite_f hb19 H
 refine Cd.condF rfl hb19 ?_
 refine Cd.skip ?_
 refine At.then ?_
 refine Cd.region ?_
 refine Lst.r (Ev.loadA (i := 0) rfl rfl Tryz.isAgg138 Tryz.sizeOf138 (ch := enc r13.1) (Enc.len _) gh0) ?_
 obtain ⟨r20, h21, H⟩ := bind_some H
 refine Lst.front (i := 2) rfl (L' := (.blk b1 (enc y7) 57) :: (.blk b17 (enc r13.1) 138) :: (.blk b3 (enc (Vector.replicate 10 (0 : Int))) 57) :: L) rfl ?_
 refine Lst.call rfl rfl (by decide) (vs := [pv b1 0, .agg (enc r13.1).toArray]) ⟨rfl, rfl, trivial⟩ Tryz.call68 (same_run_sim h21 w0 _ M _ (sc2 hM)) (fun F22 L' v hF23 hv => ?_)
 obtain ⟨rfl, rfl⟩ := hv
 refine Lst.nil ?_
 refine At.in_normal ?_
 refine At.then ?_
 refine Cd.as (e' := [(2, pv b1 0), (4, pv b3 0), (6, iv y6), (11, Sl.v s_a1), (12, iv (a1.length : Int)), (13, iv (i5 : Int))]) (L' := (.blk b1 (enc r20) 57) :: (.blk b17 (enc r13.1) 138) :: (.blk b3 (enc (Vector.replicate 10 (0 : Int))) 57) :: L) ⟨rfl, rfl, rfl, rfl, rfl, rfl, trivial⟩ rfl ?_
 refine Cd.region ?_
 refine Lst.r (Ev.incr (by omega) rfl rfl) ?_
 refine mv0 rfl ?_
 refine Lst.nil ?_
 refine At.front (i := 2) rfl (L' := (.blk b3 (enc (Vector.replicate 10 (0 : Int))) 57) :: (.blk b1 (enc r20) 57) :: (.blk b17 (enc r13.1) 138) :: L) rfl ?_
 refine At.less (L' := (.blk b3 (enc (Vector.replicate 10 (0 : Int))) 57) :: (.blk b1 (enc r20) 57) :: L) (sk1 (sk1 (sc1 (.refl _)))) ?_
 exact At.meet (i5 + 1, k5, y6, r20) (FLe.trans hF9 hF23) ⟨rfl, rfl, rfl, rfl, rfl, rfl, trivial⟩ rfl ⟨⟨hgo5 _ (some_inj H).symm, by omega⟩, Nat.lt_succ_self _⟩
set_option maxRecDepth 20000 in
theorem world_World_Vals_sim {fu : Nat} {a0 : Wld} {a1 : Int} {b_a0 : Nat} {s_a0_1 : Sl} {rs_a0_1 : List ProcessR} {s_a0_2 : Sl} {s_a0_3 : Sl} {r : (Vector Int 10) × Int} (H : world_World_Vals fu a0 a1 = some r) (w0 : World) (F : Frz) (M L : List Item) (hM : M.Sublist L) (hm_a0_1 : rs_a0_1.map ProcessR.v = a0.all) (ha_a0_1 : All ProcessR.frel w0 F [] rs_a0_1) : Ok Tryz.prog w0 17 [pv b_a0 0, iv a1] F ((.rows (α := Saying) 62 (List.map ProcessR.row rs_a0_1)) :: (.own s_a0_1 100 8 (encs rs_a0_1)) :: (.own s_a0_2 9 1 (encs a0.ordered)) :: (.own s_a0_3 9 1 (encs a0.way)) :: (.blk b_a0 (enc (WldR.mk a0 s_a0_1 s_a0_2 s_a0_3)) 95) :: L) (Is (.tuple #[.agg (enc r.1).toArray, iv r.2]) ((.rows (α := Saying) 62 (List.map ProcessR.row rs_a0_1)) :: (.own s_a0_1 100 8 (encs rs_a0_1)) :: (.own s_a0_2 9 1 (encs a0.ordered)) :: (.own s_a0_3 9 1 (encs a0.way)) :: (.blk b_a0 (enc (WldR.mk a0 s_a0_1 s_a0_2 s_a0_3)) 95) :: L)) := by
 unfold world_World_Vals at H
 refine Ok.enter (m := 2) (n := 42) Tryz.func17 rfl rfl rfl (by decide) ?_
 refine Cd.env (e' := [(0, pv b_a0 0), (1, iv a1)]) rfl ?_
 refine sr0 ?_
 refine Lst.alloc (cs := enc (Vector.replicate 10 (0 : Int))) rfl rfl (by decide) Tryz.zeroValue57 rfl (fun b6 => ?_)
 refine Lst.r (Ev.assign rfl) ?_
 refine nsr ?_
 refine mv0 rfl ?_
 refine mv0 rfl ?_
 obtain ⟨r8, h9, H⟩ := bind_some H
 refine Lst.front (i := 5) rfl rfl ?_
 refine Lst.front (i := 5) rfl rfl ?_
 refine Lst.front (i := 5) rfl (L' := (.own s_a0_2 9 1 (encs a0.ordered)) :: (.own s_a0_3 9 1 (encs a0.way)) :: (.blk b_a0 (enc (WldR.mk a0 s_a0_1 s_a0_2 s_a0_3)) 95) :: (.blk b6 (enc (Vector.replicate 10 (0 : Int))) 57) :: (.rows (α := Saying) 62 (List.map ProcessR.row rs_a0_1)) :: (.own s_a0_1 100 8 (encs rs_a0_1)) :: L) rfl ?_
 refine Lst.front (i := 5) rfl rfl ?_
 refine Lst.front (i := 5) rfl (L' := (.rows (α := Saying) 62 (List.map ProcessR.row rs_a0_1)) :: (.own s_a0_1 100 8 (encs rs_a0_1)) :: (.own s_a0_2 9 1 (encs a0.ordered)) :: (.own s_a0_3 9 1 (encs a0.way)) :: (.blk b_a0 (enc (WldR.mk a0 s_a0_1 s_a0_2 s_a0_3)) 95) :: (.blk b6 (enc (Vector.replicate 10 (0 : Int))) 57) :: L) rfl ?_
 refine Lst.call rfl rfl (by decide) (vs := [pv b_a0 0, iv a1]) ⟨rfl, rfl, trivial⟩ Tryz.call15 (world_World_Log_sim h9 w0 _ M _ (sc1 hM) hm_a0_1 (All.monoProcessF ha_a0_1 fl (List.nil_sublist _))) (fun F12 L' v hF13 hv => ?_)
 obtain ⟨s10, rfl, rfl⟩ := hv
 refine mv0 rfl ?_
 refine Lst.r (Ev.extract rfl rfl) ?_
 refine Lst.r (Ev.extract rfl rfl) ?_
 refine Lst.r (Ev.assign rfl) ?_
 refine Lst.r (Ev.assign rfl) ?_
 refine nt0 ?_
 refine Cd.seq ?_
 refine sr0 ?_
 refine mv0 rfl ?_
 refine Lst.r (Ev.neq rfl rfl) ?_
 refine nt0 ?_
 rcases Bool.eq_false_or_eq_true (r8.2 != (0 : Int)) with hb14 | hb14
 ·replace H := ite_t hb14 H
  refine Cd.condT rfl hb14 ?_
  refine sr0 ?_
  refine Lst.r (Ev.build (v := .agg (enc ((Vector.replicate 10 (0 : Int)) : Vector Int 10)).toArray) (pv := []) trivial (fun w => by kernel_rfl)) ?_
  refine mv0 rfl ?_
  refine Lst.store (i := 6) rfl rfl rfl rfl rfl Tryz.sizeOf57 (vs := enc ((Vector.replicate 10 (0 : Int)) : Vector Int 10)) rfl (Enc.len _) (Enc.one _) (cs' := enc ((Vector.replicate 10 (0 : Int)) : Vector Int 10)) (Put.here ((Enc.len _).trans (Enc.len _).symm)) (L' := (.own s10 62 2 (encs r8.1)) :: (.rows (α := Saying) 62 (List.map ProcessR.row rs_a0_1)) :: (.own s_a0_1 100 8 (encs rs_a0_1)) :: (.own s_a0_2 9 1 (encs a0.ordered)) :: (.own s_a0_3 9 1 (encs a0.way)) :: (.blk b_a0 (enc (WldR.mk a0 s_a0_1 s_a0_2 s_a0_3)) 95) :: (.blk b6 (enc ((Vector.replicate 10 (0 : Int)) : Vector Int 10)) 57) :: L) rfl ?_
  refine Lst.r (Ev.assign rfl) ?_
  refine nt0 ?_
  obtain rfl := some_inj H
  refine Cd.ret ?_
  refine At.then_ret ?_
  exact At.ret2 rfl (Res.cellA (i := 6) rfl rfl Tryz.isAgg57 Tryz.sizeOf57 (Enc.len _)) (Res.tmp rfl) hF13 (sc1 (sk1 (sk1 (sk1 (sk1 (sk1 (sc1 (.refl _)))))))) ⟨rfl, rfl⟩
 replace H := ite_f hb14 H
 refine Cd.condF rfl hb14 ?_
 refine Cd.skip ?_
 refine At.then ?_
 refine sr0 ?_
 refine Lst.addNil 9 1 ?_
 refine Lst.r (Ev.assign rfl) ?_
 refine nt0 ?_
 refine Cd.seq ?_
 refine sr0 ?_
 refine mv0 rfl ?_
 refine Lst.r (Ev.lenS (α := Saying) (xs := r8.1) (by decide) rfl rfl Tryz.runUnderlying37 (rdo 1 rfl rfl rfl)) ?_
 refine mv0 rfl ?_
 refine nt0 ?_
 refine Cd.block ?_
 refine Cd.bound (Rd.le (α := Saying) (xs := r8.1) (by decide) (rdo 1 rfl rfl rfl)) (fun hN37 => ?_)
 obtain ⟨ol16, H, HKl16⟩ := bind_some H
 refine Cd.loop (σ := Nat × Nat × Sl × (List Str)) (fun (i16, k16, s17, l18) => [(4, pv b6 0), (8, Sl.v s17), (23, Sl.v s10), (24, iv (r8.1.length : Int)), (25, iv (i16 : Int))]) (fun (i16, k16, s17, l18) => (.own s17 9 1 (encs l18)) :: (.own s10 62 2 (encs r8.1)) :: (.rows (α := Saying) 62 (List.map ProcessR.row rs_a0_1)) :: (.own s_a0_1 100 8 (encs rs_a0_1)) :: (.own s_a0_2 9 1 (encs a0.ordered)) :: (.own s_a0_3 9 1 (encs a0.way)) :: (.blk b_a0 (enc (WldR.mk a0 s_a0_1 s_a0_2 s_a0_3)) 95) :: (.blk b6 (enc (Vector.replicate 10 (0 : Int))) 57) :: L) (fun _ => (fun (i16, k16, s17, l18) => rangeF (world_World_Vals_B0 r8) k16 i16 l18 = some ol16 ∧ i16 + k16 = r8.1.length)) (fun (i16, k16, s17, l18) => k16) (0, r8.1.length, Sl.nil, ([] : List Str)) ⟨rfl, rfl, rfl, rfl, rfl, trivial⟩ rfl ⟨H, by omega⟩ ?_
 rintro F19 ⟨i16, k16, s17, l18⟩ hF20 ⟨H, hik16⟩
 refine Cd.as (e' := [(4, pv b6 0), (8, Sl.v s17), (23, Sl.v s10), (24, iv (r8.1.length : Int)), (25, iv (i16 : Int))]) (L' := (.own s17 9 1 (encs l18)) :: (.own s10 62 2 (encs r8.1)) :: (.rows (α := Saying) 62 (List.map ProcessR.row rs_a0_1)) :: (.own s_a0_1 100 8 (encs rs_a0_1)) :: (.own s_a0_2 9 1 (encs a0.ordered)) :: (.own s_a0_3 9 1 (encs a0.way)) :: (.blk b_a0 (enc (WldR.mk a0 s_a0_1 s_a0_2 s_a0_3)) 95) :: (.blk b6 (enc (Vector.replicate 10 (0 : Int))) 57) :: L) ⟨rfl, rfl, rfl, rfl, rfl, trivial⟩ rfl ?_
 rcases k16 with _ | k16
 ·have hc16 : decide ((i16 : Int) < (r8.1.length : Int)) = false := decide_eq_false (by omega)
  replace H := rangeF_end H
  refine sr0 ?_
  refine Lst.r (Ev.lss rfl rfl) ?_
  refine nt0 ?_
  refine Cd.seq ?_
  refine Cd.condF rfl hc16 ?_
  refine Cd.exit ?_
  refine At.then_exit ?_
  refine At.then_exit ?_
  refine At.in_exit ?_
  subst H
  replace H := HKl16
  refine At.then ?_
  refine sr0 ?_
  refine Lst.r (Ev.build (v := .agg (enc ((Vector.replicate 10 (0 : Int)) : Vector Int 10)).toArray) (pv := []) trivial (fun w => by kernel_rfl)) ?_
  refine mv0 rfl ?_
  obtain ⟨r31, h32, H⟩ := bind_some H
  refine Lst.call1 rfl rfl (by decide) (vs := [.agg (enc ((Vector.replicate 10 (0 : Int)) : Vector Int 10)).toArray, Sl.v s17]) ⟨rfl, rfl, trivial⟩ Tryz.call33 (same_Run_sim h32 w0 _ _ _ (.refl _) (rdo 0 rfl rfl rfl)) ?_
  refine mv0 rfl ?_
  refine Lst.r (Ev.extract rfl rfl) ?_
  refine Lst.r (Ev.extract rfl rfl) ?_
  refine Lst.alloc (cs := enc (Vector.replicate 10 (0 : Int))) rfl rfl (by decide) Tryz.zeroValue57 rfl (fun b35 => ?_)
  refine Lst.store (i := 0) rfl rfl rfl rfl rfl Tryz.sizeOf57 (vs := enc r31.1) rfl (Enc.len _) (Enc.one _) (cs' := enc r31.1) (Put.here ((Enc.len _).trans (Enc.len _).symm)) (L' := (.blk b35 (enc r31.1) 57) :: (.own s17 9 1 (encs l18)) :: (.own s10 62 2 (encs r8.1)) :: (.rows (α := Saying) 62 (List.map ProcessR.row rs_a0_1)) :: (.own s_a0_1 100 8 (encs rs_a0_1)) :: (.own s_a0_2 9 1 (encs a0.ordered)) :: (.own s_a0_3 9 1 (encs a0.way)) :: (.blk b_a0 (enc (WldR.mk a0 s_a0_1 s_a0_2 s_a0_3)) 95) :: (.blk b6 (enc (Vector.replicate 10 (0 : Int))) 57) :: L) rfl ?_
  refine Lst.r (Ev.assign rfl) ?_
  refine nsr ?_
  refine Lst.r (Ev.loadA (i := 0) rfl rfl Tryz.isAgg57 Tryz.sizeOf57 (ch := enc r31.1) (Enc.len _) gh0) ?_
  refine Lst.store (i := 8) rfl rfl rfl rfl rfl Tryz.sizeOf57 (vs := enc r31.1) rfl (Enc.len _) (Enc.one _) (cs' := enc r31.1) (Put.here ((Enc.len _).trans (Enc.len _).symm)) (L' := (.blk b35 (enc r31.1) 57) :: (.own s17 9 1 (encs l18)) :: (.own s10 62 2 (encs r8.1)) :: (.rows (α := Saying) 62 (List.map ProcessR.row rs_a0_1)) :: (.own s_a0_1 100 8 (encs rs_a0_1)) :: (.own s_a0_2 9 1 (encs a0.ordered)) :: (.own s_a0_3 9 1 (encs a0.way)) :: (.blk b_a0 (enc (WldR.mk a0 s_a0_1 s_a0_2 s_a0_3)) 95) :: (.blk b6 (enc r31.1) 57) :: L) rfl ?_
  refine Lst.r (Ev.assign rfl) ?_
  refine nt0 ?_
  obtain rfl := some_inj H
  refine Cd.ret ?_
  exact At.ret2 rfl (Res.cellA (i := 8) rfl rfl Tryz.isAgg57 Tryz.sizeOf57 (Enc.len _)) (Res.tmp rfl) (FLe.trans hF13 hF20) (sc1 (sc1 (sc1 (sk1 (sk1 (sk1 (sk1 (sk1 (sc1 (.refl _)))))))))) ⟨rfl, rfl⟩
 have hc16 : decide ((i16 : Int) < (r8.1.length : Int)) = true := decide_eq_true (by omega)
 obtain ⟨c16, H, hgo16⟩ := rangeF_go H
 unfold world_World_Vals_B0 at H
 try dsimp only at H
 refine sr0 ?_
 refine Lst.r (Ev.lss rfl rfl) ?_
 refine nt0 ?_
 refine Cd.seq ?_
 refine Cd.condT rfl hc16 ?_
 refine Cd.skip ?_
 refine At.then ?_
 refine Cd.seq ?_
 refine Cd.block ?_
 refine sr0 ?_
 obtain ⟨x21, h22, H⟩ := bind_some H
 have g23 := lat_some h22
 refine Lst.r (Ev.indexS (α := Saying) (xs := r8.1) rfl rfl Tryz.runUnderlying37 Tryz.sizeOf62 rfl (by decide) (rdo 1 rfl rfl rfl) g23.1 g23.2.1) ?_
 refine Lst.r (Ev.loadSA (α := Saying) rfl (rdo 1 rfl rfl rfl) Tryz.isAgg62 Tryz.sizeOf62 (ch := enc x21) (Enc.len _) (by decide) ((Get.elemN (s := 2) (x := x21) rfl g23.2.2 gh0).off (by omega))) ?_
 refine Lst.alloc (cs := enc Saying.zero) rfl rfl (by decide) Tryz.zeroValue62 rfl (fun b24 => ?_)
 refine Lst.store (i := 0) rfl rfl rfl rfl rfl Tryz.sizeOf62 (vs := enc x21) rfl (Enc.len _) (Enc.one _) (cs' := enc x21) (Put.here ((Enc.len _).trans (Enc.len _).symm)) (L' := (.blk b24 (enc x21) 62) :: (.own s17 9 1 (encs l18)) :: (.own s10 62 2 (encs r8.1)) :: (.rows (α := Saying) 62 (List.map ProcessR.row rs_a0_1)) :: (.own s_a0_1 100 8 (encs rs_a0_1)) :: (.own s_a0_2 9 1 (encs a0.ordered)) :: (.own s_a0_3 9 1 (encs a0.way)) :: (.blk b_a0 (enc (WldR.mk a0 s_a0_1 s_a0_2 s_a0_3)) 95) :: (.blk b6 (enc (Vector.replicate 10 (0 : Int))) 57) :: L) rfl ?_
 refine nt0 ?_
 refine Cd.region ?_
 refine mv0 rfl ?_
 refine Lst.r (Ev.fieldAddr (off' := 1) rfl Tryz.runUnderlying62 rfl Tryz.sizeOf9 rfl rfl) ?_
 refine Lst.r (Ev.load (i := 0) rfl rfl Tryz.isAgg9 (v := Str.v x21.Text) ((Saying.get_Text gh0).off (by rfl))) ?_
 refine Lst.buildSlice (α := Str) (xs := ([x21.Text] : List Str)) (pv := [(0, Str.v x21.Text)]) rfl rfl (by decide) ⟨rfl, rfl, trivial⟩ (run_buildSlice (α := Str) (z0 := ([] : Str)) (xs := ([x21.Text] : List Str)) Tryz.runUnderlying43 Tryz.sizeOf9 Tryz.zeroValue9 rfl rfl rfl (by decide) rfl (fill_cons (cs := encs (List.replicate 1 ([] : Str))) (cs' := encs ((List.replicate 1 ([] : Str)).set 0 x21.Text)) (vs := [Str.v x21.Text]) rfl rfl rfl ((Put.elemN (s := 1) (i := 0) (x := ([] : Str)) (y := x21.Text) rfl rfl (Put.here (vs := [Str.v x21.Text]) rfl)).off rfl) fill_nil)) rfl rfl (by decide) (fun s26 _ => ?_)
 obtain ⟨u28, h29, H⟩ := bind_some H
 refine Lst.append (i := 2) (α := Str) (xs := l18) (ys := ([x21.Text] : List Str)) rfl rfl (by decide) rfl rfl Tryz.runUnderlying43 Tryz.typeInfo9 rfl rfl rfl rfl rfl rfl (rdo 0 rfl rfl rfl) rfl (room_some h29) rfl (fun s30 => ?_)
 refine Lst.its (L' := (.own s26 9 1 (encs ([x21.Text] : List Str))) :: (.blk b24 (enc x21) 62) :: (.own s30 9 1 (encs (l18 ++ ([x21.Text] : List Str)))) :: (.own s10 62 2 (encs r8.1)) :: (.rows (α := Saying) 62 (List.map ProcessR.row rs_a0_1)) :: (.own s_a0_1 100 8 (encs rs_a0_1)) :: (.own s_a0_2 9 1 (encs a0.ordered)) :: (.own s_a0_3 9 1 (encs a0.way)) :: (.blk b_a0 (enc (WldR.mk a0 s_a0_1 s_a0_2 s_a0_3)) 95) :: (.blk b6 (enc (Vector.replicate 10 (0 : Int))) 57) :: L) rfl ?_
 refine Lst.r (Ev.assign rfl) ?_
 refine Lst.nil ?_
 refine At.in_normal ?_
 refine At.then ?_
 refine Cd.region ?_
 refine Lst.r (Ev.incr (by omega) rfl rfl) ?_
 refine mv0 rfl ?_
 refine Lst.nil ?_
 refine At.less (L' := (.own s30 9 1 (encs (l18 ++ ([x21.Text] : List Str)))) :: (.own s10 62 2 (encs r8.1)) :: (.rows (α := Saying) 62 (List.map ProcessR.row rs_a0_1)) :: (.own s_a0_1 100 8 (encs rs_a0_1)) :: (.own s_a0_2 9 1 (encs a0.ordered)) :: (.own s_a0_3 9 1 (encs a0.way)) :: (.blk b_a0 (enc (WldR.mk a0 s_a0_1 s_a0_2 s_a0_3)) 95) :: (.blk b6 (enc (Vector.replicate 10 (0 : Int))) 57) :: L) (sc1 (sc1 (sk1 (sk1 (sk1 (sk1 (sk1 (sk1 (sk1 (sk1 (.refl _))))))))))) ?_
 exact At.meet (i16 + 1, k16, s30, l18 ++ ([x21.Text] : List Str)) hF20 ⟨rfl, rfl, rfl, rfl, rfl, trivial⟩ rfl ⟨⟨hgo16 _ (some_inj H).symm, by omega⟩, Nat.lt_succ_self _⟩
set_option maxRecDepth 20000 in
theorem parttop_works_sim {fu : Nat} {r : Bool} (H : parttop_works fu = some r) (w0 : World) (F : Frz) (M L : List Item) (hM : M.Sublist L) (hT : Tab Tryz.prog w0) : Ok Tryz.prog w0 26 [] F (L) (Is (.bool r) (L)) := by
 unfold parttop_works at H
 refine Ok.enter (m := 0) (n := 57) Tryz.func26 rfl rfl rfl (by decide) ?_
 refine Cd.env (e' := []) rfl ?_
 refine sr0 ?_
 refine Lst.r (Ev.assign rfl) ?_
 refine nsr ?_
 obtain ⟨r1, h2, H⟩ := bind_some H
 refine Lst.call rfl rfl (by decide) (vs := [iv (3 : Int)]) ⟨rfl, trivial⟩ Tryz.call9 (world_New_sim h2 w0 _ M _ hM) (fun F15 L' v hF16 hv => ?_)
 obtain ⟨b3, s4, rs5, s10, s12, rfl, rfl, fm6, fa9⟩ := hv
 refine mv0 rfl ?_
 refine Lst.r (Ev.extract rfl rfl) ?_
 refine Lst.r (Ev.extract rfl rfl) ?_
 refine Lst.r (Ev.assign rfl) ?_
 refine Lst.r (Ev.assign rfl) ?_
 refine nt0 ?_
 refine Cd.seq ?_
 refine sr0 ?_
 refine mv0 rfl ?_
 refine Lst.r (Ev.neq rfl rfl) ?_
 refine mv0 rfl ?_
 obtain ⟨o17, H, HKo17⟩ := bind_some H
 refine Lst.join (σ := Bool) 3 (fun y18 => [(1, pv b3 0), (16, .bool y18)]) (fun y18 => (.rows (α := Saying) 62 (List.map ProcessR.row rs5)) :: (.own s4 100 8 (encs rs5)) :: (.own s10 9 1 (encs r1.1.ordered)) :: (.own s12 9 1 (encs r1.1.way)) :: (.blk b3 (enc (WldR.mk r1.1 s4 s10 s12)) 95) :: L) (fun _ y18 => y18 = o17) ?_ ?_
 ·rcases Bool.eq_false_or_eq_true (r1.2 != (0 : Int)) with hb19 | hb19
  ·replace H := ite_t hb19 H
   refine Lst.skip rfl rfl rfl hb19 rfl (by decide) ?_
   refine Lst.skip rfl rfl rfl hb19 rfl (by decide) ?_
   refine Lst.r (Ev.pickT rfl hb19 rfl) ?_
   refine Lst.nil ?_
   exact At.meet true fl ⟨rfl, rfl, trivial⟩ rfl (some_inj H)
  replace H := ite_f hb19 H
  refine Lst.rG hb19 (Ev.move rfl) ?_
  refine Lst.rG hb19 (Ev.eqlPtr rfl Tryz.runUnderlying23) ?_
  refine Lst.r (Ev.pickF rfl hb19 rfl) ?_
  refine Lst.nil ?_
  exact At.meet false fl ⟨rfl, rfl, trivial⟩ rfl (some_inj H)
 rintro F20 y18 hF21 hy
 subst hy
 refine Lst.as (e' := [(1, pv b3 0), (16, .bool y18)]) (L' := (.rows (α := Saying) 62 (List.map ProcessR.row rs5)) :: (.own s4 100 8 (encs rs5)) :: (.own s10 9 1 (encs r1.1.ordered)) :: (.own s12 9 1 (encs r1.1.way)) :: (.blk b3 (enc (WldR.mk r1.1 s4 s10 s12)) 95) :: L) ⟨rfl, rfl, trivial⟩ rfl ?_
 replace H := HKo17
 refine nt0 ?_
 rcases Bool.eq_false_or_eq_true y18 with hb22 | hb22
 ·replace H := ite_t hb22 H
  refine Cd.condT rfl hb22 ?_
  refine sr0 ?_
  refine Lst.r (Ev.assign rfl) ?_
  refine nt0 ?_
  obtain rfl := some_inj H
  refine Cd.ret ?_
  refine At.then_ret ?_
  exact At.ret1 rfl (Res.tmp rfl) (FLe.trans hF16 hF21) (sc1 (sc1 (sc1 (sc1 (sc1 (.refl _)))))) ⟨rfl, rfl⟩
 replace H := ite_f hb22 H
 refine Cd.condF rfl hb22 ?_
 refine Cd.skip ?_
 refine At.then ?_
 refine Cd.seq ?_
 refine sr0 ?_
 refine mv0 rfl ?_
 refine nt0 ?_
 refine Cd.block ?_
 obtain ⟨ol23, H, HKl23⟩ := andThen_some H
 refine Cd.loop (σ := Nat × Nat × Wld × (List Procs) × (List ProcessR) × Sl × (List Str)) (fun (i23, k23, y24, l25, rs26, s29, l30) => [(1, pv b3 0), (17, iv (i23 : Int))]) (fun (i23, k23, y24, l25, rs26, s29, l30) => (.rows (α := Saying) 62 (List.map ProcessR.row rs26)) :: (.own s4 100 8 (encs rs26)) :: (.own s10 9 1 (encs r1.1.ordered)) :: (.own s29 9 1 (encs l30)) :: (.blk b3 (enc (WldR.mk ({ y24 with all := l25, ordered := r1.1.ordered, way := l30 } : Wld) s4 s10 s29)) 95) :: L) (fun Fx => (fun (i23, k23, y24, l25, rs26, s29, l30) => rangeM (parttop_works_B0 r1) k23 i23 (y24, l25, l30) = some ol23 ∧ i23 + k23 = 3 ∧ rs26.map ProcessR.v = l25 ∧ All ProcessR.frel w0 Fx [] rs26)) (fun (i23, k23, y24, l25, rs26, s29, l30) => k23) (0, 3, r1.1, r1.1.all, rs5, s12, r1.1.way) ⟨rfl, rfl, trivial⟩ rfl ⟨H, by omega, fm6, (All.monoProcessF fa9 hF21 (List.nil_sublist _))⟩ ?_
 rintro F31 ⟨i23, k23, y24, l25, rs26, s29, l30⟩ hF32 ⟨H, hik23, fm27, fa28⟩
 refine Cd.as (e' := [(1, pv b3 0), (17, iv (i23 : Int))]) (L' := (.rows (α := Saying) 62 (List.map ProcessR.row rs26)) :: (.own s4 100 8 (encs rs26)) :: (.own s10 9 1 (encs r1.1.ordered)) :: (.own s29 9 1 (encs l30)) :: (.blk b3 (enc (WldR.mk ({ y24 with all := l25, ordered := r1.1.ordered, way := l30 } : Wld) s4 s10 s29)) 95) :: L) ⟨rfl, rfl, trivial⟩ rfl ?_
 rcases k23 with _ | k23
 ·have hc23 : decide ((i23 : Int) < (3 : Int)) = false := decide_eq_false (by omega)
  replace H := rangeM_end H
  refine sr0 ?_
  refine Lst.r (Ev.lss rfl rfl) ?_
  refine nt0 ?_
  refine Cd.seq ?_
  refine Cd.condF rfl hc23 ?_
  refine Cd.exit ?_
  refine At.then_exit ?_
  refine At.then_exit ?_
  refine At.in_exit ?_
  subst H
  replace H := HKl23
  try dsimp only [Sum.elim_inl] at H
  refine At.then ?_
  refine Cd.seq ?_
  refine sr0 ?_
  refine mv0 rfl ?_
  refine nt0 ?_
  refine Cd.block ?_
  refine Cd.front (i := 3) rfl (L' := (.own s29 9 1 (encs l30)) :: (.rows (α := Saying) 62 (List.map ProcessR.row rs26)) :: (.own s4 100 8 (encs rs26)) :: (.own s10 9 1 (encs r1.1.ordered)) :: (.blk b3 (enc (WldR.mk ({ y24 with all := l25, ordered := r1.1.ordered, way := l30 } : Wld) s4 s10 s29)) 95) :: L) rfl ?_
  obtain ⟨ol48, H, HKl48⟩ := andThen_some H
  refine Cd.loop (σ := Nat × Nat × Wld × Sl × (List Procs) × (List ProcessR) × Sl × (List Str)) (fun (i48, k48, y49, s50, l52, rs53, s56, l57) => [(1, pv b3 0), (29, iv (i48 : Int))]) (fun (i48, k48, y49, s50, l52, rs53, s56, l57) => (.own s50 9 1 (encs y49.way)) :: (.rows (α := Saying) 62 (List.map ProcessR.row rs53)) :: (.own s4 100 8 (encs rs53)) :: (.own s56 9 1 (encs l57)) :: (.blk b3 (enc (WldR.mk ({ y49 with all := l52, ordered := l57 } : Wld) s4 s56 s50)) 95) :: L) (fun Fx => (fun (i48, k48, y49, s50, l52, rs53, s56, l57) => rangeM (parttop_works_B2 fu) k48 i48 (y49, l52, l57) = some ol48 ∧ i48 + k48 = 100 ∧ rs53.map ProcessR.v = l52 ∧ All ProcessR.frel w0 Fx [] rs53)) (fun (i48, k48, y49, s50, l52, rs53, s56, l57) => k48) (0, 100, ({ y24 with all := l25, ordered := r1.1.ordered, way := l30 } : Wld), s29, l25, rs26, s10, r1.1.ordered) ⟨rfl, rfl, trivial⟩ rfl ⟨H, by omega, fm27, (All.monoProcessF fa28 fl (List.nil_sublist _))⟩ ?_
  rintro F58 ⟨i48, k48, y49, s50, l52, rs53, s56, l57⟩ hF59 ⟨H, hik48, fm54, fa55⟩
  refine Cd.as (e' := [(1, pv b3 0), (29, iv (i48 : Int))]) (L' := (.own s50 9 1 (encs y49.way)) :: (.rows (α := Saying) 62 (List.map ProcessR.row rs53)) :: (.own s4 100 8 (encs rs53)) :: (.own s56 9 1 (encs l57)) :: (.blk b3 (enc (WldR.mk ({ y49 with all := l52, ordered := l57 } : Wld) s4 s56 s50)) 95) :: L) ⟨rfl, rfl, trivial⟩ rfl ?_
  rcases k48 with _ | k48
  ·have hc48 : decide ((i48 : Int) < (100 : Int)) = false := decide_eq_false (by omega)
   replace H := rangeM_end H
   refine sr0 ?_
   refine Lst.r (Ev.lss rfl rfl) ?_
   refine nt0 ?_
   refine Cd.seq ?_
   refine Cd.condF rfl hc48 ?_
   refine Cd.exit ?_
   refine At.then_exit ?_
   refine At.then_exit ?_
   refine At.in_exit ?_
   subst H
   replace H := HKl48
   try dsimp only [Sum.elim_inl] at H
   refine At.then ?_
   refine Cd.seq ?_
   refine sr0 ?_
   refine mv0 rfl ?_
   refine nt0 ?_
   refine Cd.block ?_
   obtain ⟨ol76, H, HKl76⟩ := andThen_some H
   refine Cd.loop (σ := Nat × Nat × Unit) (fun (i76, k76, _u) => [(1, pv b3 0), (40, iv (i76 : Int))]) (fun (i76, k76, _u) => (.own s50 9 1 (encs y49.way)) :: (.rows (α := Saying) 62 (List.map ProcessR.row rs53)) :: (.own s4 100 8 (encs rs53)) :: (.own s56 9 1 (encs l57)) :: (.blk b3 (enc (WldR.mk ({ y49 with all := l52, ordered := l57 } : Wld) s4 s56 s50)) 95) :: L) (fun _ => (fun (i76, k76, _u) => rangeM (parttop_works_B4 fu y49 l52 l57) k76 i76 () = some ol76 ∧ i76 + k76 = 3)) (fun (i76, k76, _u) => k76) (0, 3, ()) ⟨rfl, rfl, trivial⟩ rfl ⟨H, by omega⟩ ?_
   rintro F77 ⟨i76, k76, _u⟩ hF78 ⟨H, hik76⟩
   refine Cd.as (e' := [(1, pv b3 0), (40, iv (i76 : Int))]) (L' := (.own s50 9 1 (encs y49.way)) :: (.rows (α := Saying) 62 (List.map ProcessR.row rs53)) :: (.own s4 100 8 (encs rs53)) :: (.own s56 9 1 (encs l57)) :: (.blk b3 (enc (WldR.mk ({ y49 with all := l52, ordered := l57 } : Wld) s4 s56 s50)) 95) :: L) ⟨rfl, rfl, trivial⟩ rfl ?_
   rcases k76 with _ | k76
   ·have hc76 : decide ((i76 : Int) < (3 : Int)) = false := decide_eq_false (by omega)
    replace H := rangeM_end H
    refine sr0 ?_
    refine Lst.r (Ev.lss rfl rfl) ?_
    refine nt0 ?_
    refine Cd.seq ?_
    refine Cd.condF rfl hc76 ?_
    refine Cd.exit ?_
    refine At.then_exit ?_
    refine At.then_exit ?_
    refine At.in_exit ?_
    subst H
    replace H := HKl76
    refine At.then ?_
    refine sr0 ?_
    refine Lst.r (Ev.assign rfl) ?_
    refine nt0 ?_
    obtain rfl := some_inj H
    refine Cd.ret ?_
    exact At.ret1 rfl (Res.tmp rfl) (FLe.trans (FLe.trans (FLe.trans (FLe.trans hF16 hF21) hF32) hF59) hF78) (sc1 (sc1 (sc1 (sc1 (sc1 (.refl _)))))) ⟨rfl, rfl⟩
   have hc76 : decide ((i76 : Int) < (3 : Int)) = true := decide_eq_true (by omega)
   obtain ⟨c76, H, hgo76, hbrk76, hret76⟩ := rangeM_go H
   unfold parttop_works_B4 at H
   try dsimp only at H
   refine sr0 ?_
   refine Lst.r (Ev.lss rfl rfl) ?_
   refine nt0 ?_
   refine Cd.seq ?_
   refine Cd.condT rfl hc76 ?_
   refine Cd.skip ?_
   refine At.then ?_
   refine Cd.seq ?_
   refine Cd.block ?_
   refine sr0 ?_
   refine mv0 rfl ?_
   refine Lst.r (Ev.assign rfl) ?_
   refine nsr ?_
   refine mv0 rfl ?_
   refine mv0 rfl ?_
   obtain ⟨r79, h80, H⟩ := bind_some H
   refine Lst.front (i := 4) rfl rfl ?_
   refine Lst.front (i := 1) rfl rfl ?_
   refine Lst.front (i := 4) rfl (L' := (.own s56 9 1 (encs l57)) :: (.own s50 9 1 (encs y49.way)) :: (.blk b3 (enc (WldR.mk ({ y49 with all := l52, ordered := l57 } : Wld) s4 s56 s50)) 95) :: (.rows (α := Saying) 62 (List.map ProcessR.row rs53)) :: (.own s4 100 8 (encs rs53)) :: L) rfl ?_
   refine Lst.front (i := 4) rfl rfl ?_
   refine Lst.front (i := 4) rfl (L' := (.rows (α := Saying) 62 (List.map ProcessR.row rs53)) :: (.own s4 100 8 (encs rs53)) :: (.own s56 9 1 (encs l57)) :: (.own s50 9 1 (encs y49.way)) :: (.blk b3 (enc (WldR.mk ({ y49 with all := l52, ordered := l57 } : Wld) s4 s56 s50)) 95) :: L) rfl ?_
   refine Lst.call1 rfl rfl (by decide) (vs := [pv b3 0, iv (i76 : Int)]) ⟨rfl, rfl, trivial⟩ Tryz.call17 (world_World_Vals_sim h80 w0 _ M _ hM fm54 (All.monoProcessF fa55 hF78 (List.nil_sublist _))) ?_
   refine mv0 rfl ?_
   refine Lst.r (Ev.extract rfl rfl) ?_
   refine Lst.r (Ev.extract rfl rfl) ?_
   refine Lst.alloc (cs := enc (Vector.replicate 10 (0 : Int))) rfl rfl (by decide) Tryz.zeroValue57 rfl (fun b83 => ?_)
   refine Lst.store (i := 0) rfl rfl rfl rfl rfl Tryz.sizeOf57 (vs := enc r79.1) rfl (Enc.len _) (Enc.one _) (cs' := enc r79.1) (Put.here ((Enc.len _).trans (Enc.len _).symm)) (L' := (.blk b83 (enc r79.1) 57) :: (.rows (α := Saying) 62 (List.map ProcessR.row rs53)) :: (.own s4 100 8 (encs rs53)) :: (.own s56 9 1 (encs l57)) :: (.own s50 9 1 (encs y49.way)) :: (.blk b3 (enc (WldR.mk ({ y49 with all := l52, ordered := l57 } : Wld) s4 s56 s50)) 95) :: L) rfl ?_
   refine Lst.r (Ev.assign rfl) ?_
   refine nsr ?_
   refine mv0 rfl ?_
   refine Lst.r (Ev.neq rfl rfl) ?_
   refine mv0 rfl ?_
   obtain ⟨o85, H, HKo85⟩ := bind_some H
   refine Lst.join (σ := Bool) 4 (fun y86 => [(1, pv b3 0), (40, iv (i76 : Int)), (55, .bool y86)]) (fun y86 => (.blk b83 (enc r79.1) 57) :: (.rows (α := Saying) 62 (List.map ProcessR.row rs53)) :: (.own s4 100 8 (encs rs53)) :: (.own s56 9 1 (encs l57)) :: (.own s50 9 1 (encs y49.way)) :: (.blk b3 (enc (WldR.mk ({ y49 with all := l52, ordered := l57 } : Wld) s4 s56 s50)) 95) :: L) (fun _ y86 => y86 = o85) ?_ ?_
   ·rcases Bool.eq_false_or_eq_true (r79.2 != (0 : Int)) with hb87 | hb87
    ·replace H := ite_t hb87 H
     refine Lst.skip rfl rfl rfl hb87 rfl (by decide) ?_
     refine Lst.skip rfl rfl rfl hb87 rfl (by decide) ?_
     refine Lst.skip rfl rfl rfl hb87 rfl (by decide) ?_
     refine Lst.r (Ev.pickT rfl hb87 rfl) ?_
     refine Lst.nil ?_
     exact At.meet true fl ⟨rfl, rfl, rfl, trivial⟩ rfl (some_inj H)
    replace H := ite_f hb87 H
    refine Lst.rG hb87 (Ev.loadA (i := 0) rfl rfl Tryz.isAgg57 Tryz.sizeOf57 (ch := enc r79.1) (Enc.len _) gh0) ?_
    refine Lst.rG hb87 (Ev.build (v := .agg (enc (((Vector.replicate 10 (0 : Int)).setIfInBounds 4 (6 : Int)) : Vector Int 10)).toArray) (pv := [(4, iv (6 : Int))]) ⟨rfl, rfl, trivial⟩ (run_buildArray Tryz.zeroValue57 (zs := enc (Vector.replicate 10 (0 : Int))) rfl Tryz.runUnderlying57 Tryz.sizeOf3 (fill_cons (cs := enc (Vector.replicate 10 (0 : Int))) (cs' := enc ((Vector.replicate 10 (0 : Int)).setIfInBounds 4 (6 : Int))) (vs := [iv (6 : Int)]) rfl rfl rfl ((Put.vecN (s := 1) (i := 4) (x := (0 : Int)) (y := (6 : Int)) rfl rfl (Put.here (vs := [iv (6 : Int)]) rfl)).off rfl) fill_nil))) ?_
    refine Lst.rG hb87 (Ev.neqA rfl rfl (by kernel_rfl) (eq57 _ _)) ?_
    refine Lst.r (Ev.pickF rfl hb87 rfl) ?_
    refine Lst.nil ?_
    exact At.meet (!(decide (r79.1 = (((Vector.replicate 10 (0 : Int)).setIfInBounds 4 (6 : Int)) : Vector Int 10)))) fl ⟨rfl, rfl, rfl, trivial⟩ rfl (some_inj H)
   rintro F88 y86 hF89 hy
   subst hy
   refine Lst.as (e' := [(1, pv b3 0), (40, iv (i76 : Int)), (55, .bool y86)]) (L' := (.blk b83 (enc r79.1) 57) :: (.rows (α := Saying) 62 (List.map ProcessR.row rs53)) :: (.own s4 100 8 (encs rs53)) :: (.own s56 9 1 (encs l57)) :: (.own s50 9 1 (encs y49.way)) :: (.blk b3 (enc (WldR.mk ({ y49 with all := l52, ordered := l57 } : Wld) s4 s56 s50)) 95) :: L) ⟨rfl, rfl, rfl, trivial⟩ rfl ?_
   replace H := HKo85
   refine nt0 ?_
   rcases Bool.eq_false_or_eq_true y86 with hb90 | hb90
   ·replace H := ite_t hb90 H
    refine Cd.condT rfl hb90 ?_
    refine sr0 ?_
    refine Lst.r (Ev.assign rfl) ?_
    refine nt0 ?_
    have H := hret76 _ (some_inj H).symm
    subst H
    replace H := HKl76
    obtain rfl := some_inj H
    refine Cd.ret ?_
    refine At.in_ret ?_
    refine At.then_ret ?_
    refine At.then_ret ?_
    refine At.in_ret ?_
    refine At.then_ret ?_
    exact At.ret1 rfl (Res.tmp rfl) (FLe.trans (FLe.trans (FLe.trans (FLe.trans (FLe.trans hF16 hF21) hF32) hF59) hF78) hF89) (sc1 (sc1 (sc1 (sc1 (sc1 (sc1 (.refl _))))))) ⟨rfl, rfl⟩
   replace H := ite_f hb90 H
   refine Cd.condF rfl hb90 ?_
   refine Cd.skip ?_
   refine At.in_normal ?_
   refine At.then ?_
   refine Cd.region ?_
   refine Lst.r (Ev.incr (by omega) rfl rfl) ?_
   refine mv0 rfl ?_
   refine Lst.nil ?_
   refine At.front (i := 4) rfl (L' := (.own s50 9 1 (encs y49.way)) :: (.blk b83 (enc r79.1) 57) :: (.rows (α := Saying) 62 (List.map ProcessR.row rs53)) :: (.own s4 100 8 (encs rs53)) :: (.own s56 9 1 (encs l57)) :: (.blk b3 (enc (WldR.mk ({ y49 with all := l52, ordered := l57 } : Wld) s4 s56 s50)) 95) :: L) rfl ?_
   refine At.less (L' := (.own s50 9 1 (encs y49.way)) :: (.rows (α := Saying) 62 (List.map ProcessR.row rs53)) :: (.own s4 100 8 (encs rs53)) :: (.own s56 9 1 (encs l57)) :: (.blk b3 (enc (WldR.mk ({ y49 with all := l52, ordered := l57 } : Wld) s4 s56 s50)) 95) :: L) (sk1 (sc1 (sk1 (sk1 (sk1 (sk1 (.refl _))))))) ?_
   exact At.meet (i76 + 1, k76, ()) (FLe.trans hF78 hF89) ⟨rfl, rfl, trivial⟩ rfl ⟨⟨hgo76 _ (some_inj H).symm, by omega⟩, Nat.lt_succ_self _⟩
  have hc48 : decide ((i48 : Int) < (100 : Int)) = true := decide_eq_true (by omega)
  obtain ⟨c48, H, hgo48, hbrk48, hret48⟩ := rangeM_go H
  unfold parttop_works_B2 at H
  try dsimp only at H
  refine sr0 ?_
  refine Lst.r (Ev.lss rfl rfl) ?_
  refine nt0 ?_
  refine Cd.seq ?_
  refine Cd.condT rfl hc48 ?_
  refine Cd.skip ?_
  refine At.then ?_
  refine Cd.seq ?_
  refine Cd.block ?_
  refine sr0 ?_
  refine mv0 rfl ?_
  obtain ⟨r60, h61, H⟩ := bind_some H
  refine Lst.front (i := 4) rfl rfl ?_
  refine Lst.front (i := 1) rfl rfl ?_
  refine Lst.front (i := 4) rfl (L' := (.own s56 9 1 (encs l57)) :: (.own s50 9 1 (encs y49.way)) :: (.blk b3 (enc (WldR.mk ({ y49 with all := l52, ordered := l57 } : Wld) s4 s56 s50)) 95) :: (.rows (α := Saying) 62 (List.map ProcessR.row rs53)) :: (.own s4 100 8 (encs rs53)) :: L) rfl ?_
  refine Lst.front (i := 4) rfl rfl ?_
  refine Lst.front (i := 4) rfl (L' := (.rows (α := Saying) 62 (List.map ProcessR.row rs53)) :: (.own s4 100 8 (encs rs53)) :: (.own s56 9 1 (encs l57)) :: (.own s50 9 1 (encs y49.way)) :: (.blk b3 (enc (WldR.mk ({ y49 with all := l52, ordered := l57 } : Wld) s4 s56 s50)) 95) :: L) rfl ?_
  refine Lst.call1 rfl rfl (by decide) (vs := [pv b3 0]) ⟨rfl, trivial⟩ Tryz.call14 (world_World_Way_sim h61 w0 _ M _ hM fm54 (All.monoProcessF fa55 fl (List.nil_sublist _))) ?_
  refine Lst.r (Ev.gtr rfl rfl) ?_
  refine mv0 rfl ?_
  rcases (Bool.eq_false_or_eq_true (decide (r60 > (0 : Int)))).symm with hb64 | hb64
  ·replace H := ite_f hb64 H
   refine Lst.skip rfl rfl rfl hb64 rfl (by decide) ?_
   refine Lst.skip rfl rfl rfl hb64 rfl (by decide) ?_
   refine Lst.skip rfl rfl rfl hb64 rfl (by decide) ?_
   refine Lst.r (Ev.pickF rfl hb64 rfl) ?_
   refine nt0 ?_
   refine Cd.condF rfl rfl ?_
   refine Cd.skip ?_
   refine At.in_normal ?_
   refine At.then ?_
   refine Cd.region ?_
   refine Lst.r (Ev.incr (by omega) rfl rfl) ?_
   refine mv0 rfl ?_
   refine Lst.nil ?_
   refine At.front (i := 3) rfl (L' := (.own s50 9 1 (encs y49.way)) :: (.rows (α := Saying) 62 (List.map ProcessR.row rs53)) :: (.own s4 100 8 (encs rs53)) :: (.own s56 9 1 (encs l57)) :: (.blk b3 (enc (WldR.mk ({ y49 with all := l52, ordered := l57 } : Wld) s4 s56 s50)) 95) :: L) rfl ?_
   exact At.meet (i48 + 1, k48, ({ y49 with all := l52, ordered := l57 } : Wld), s50, l52, rs53, s56, l57) hF59 ⟨rfl, rfl, trivial⟩ rfl ⟨⟨hgo48 _ (some_inj H).symm, by omega, fm54, (All.monoProcessF fa55 fl (List.nil_sublist _))⟩, Nat.lt_succ_self _⟩
  replace H := ite_t hb64 H
  refine Lst.rG hb64 (Ev.move rfl) ?_
  obtain ⟨r65, h66, H⟩ := bind_some H
  refine Lst.callG rfl rfl rfl hb64 rfl (by decide) (vs := [pv b3 0, iv (0 : Int), iv (1 : Int)]) ⟨rfl, rfl, rfl, trivial⟩ Tryz.call32 (world_World_Move_sim h66 w0 _ M _ hM hT fm54 (All.monoProcessF fa55 fl (List.nil_sublist _))) (fun F73 L' v hF74 hv => ?_)
  obtain ⟨rs67, s70, s71, rfl, rfl, fm68, fa69⟩ := hv
  refine Lst.rG hb64 (Ev.neq rfl rfl) ?_
  refine Lst.r (Ev.pickT rfl hb64 rfl) ?_
  refine nt0 ?_
  rcases Bool.eq_false_or_eq_true (r65.2.2.2 != (0 : Int)) with hb75 | hb75
  ·replace H := ite_t hb75 H
   refine Cd.condT rfl hb75 ?_
   refine sr0 ?_
   refine Lst.r (Ev.assign rfl) ?_
   refine nt0 ?_
   have H := hret48 _ (some_inj H).symm
   subst H
   replace H := HKl48
   obtain rfl := some_inj H
   refine Cd.ret ?_
   refine At.in_ret ?_
   refine At.then_ret ?_
   refine At.then_ret ?_
   refine At.in_ret ?_
   refine At.then_ret ?_
   exact At.ret1 rfl (Res.tmp rfl) (FLe.trans (FLe.trans (FLe.trans (FLe.trans hF16 hF21) hF32) hF59) hF74) (sc1 (sc1 (sc1 (sc1 (sc1 (.refl _)))))) ⟨rfl, rfl⟩
  replace H := ite_f hb75 H
  refine Cd.condF rfl hb75 ?_
  refine Cd.skip ?_
  refine At.in_normal ?_
  refine At.then ?_
  refine Cd.region ?_
  refine Lst.r (Ev.incr (by omega) rfl rfl) ?_
  refine mv0 rfl ?_
  refine Lst.nil ?_
  exact At.meet (i48 + 1, k48, ({ r65.2.2.1 with all := r65.1, ordered := r65.2.1 } : Wld), s71, r65.1, rs67, s70, r65.2.1) (FLe.trans hF59 hF74) ⟨rfl, rfl, trivial⟩ rfl ⟨⟨hgo48 _ (some_inj H).symm, by omega, fm68, (All.monoProcessF fa69 fl (List.nil_sublist _))⟩, Nat.lt_succ_self _⟩
 have hc23 : decide ((i23 : Int) < (3 : Int)) = true := decide_eq_true (by omega)
 obtain ⟨c23, H, hgo23, hbrk23, hret23⟩ := rangeM_go H
 unfold parttop_works_B0 at H
 try dsimp only at H
 refine sr0 ?_
 refine Lst.r (Ev.lss rfl rfl) ?_
 refine nt0 ?_
 refine Cd.seq ?_
 refine Cd.condT rfl hc23 ?_
 refine Cd.skip ?_
 refine At.then ?_
 refine Cd.seq ?_
 refine Cd.block ?_
 refine sr0 ?_
 refine mv0 rfl ?_
 refine Lst.r (Ev.assign rfl) ?_
 refine nsr ?_
 refine mv0 rfl ?_
 refine mv0 rfl ?_
 refine mv0 rfl ?_
 refine Lst.r (Ev.add rfl rfl) ?_
 obtain ⟨r33, h34, H⟩ := bind_some H
 refine Lst.call1 rfl rfl (by decide) (vs := [iv (w64 ((i23 : Int) + (1 : Int)))]) ⟨rfl, trivial⟩ Tryz.call55 (strconv_Itoa_sim h34 w0 _ M _ (sc4 (sc1 hM)) hT) ?_
 obtain ⟨u37, h38, H⟩ := bind_some H
 refine Lst.r (Ev.addStr (s := ([97, 100, 100, 32, 52, 32] : Str)) (m := r33) rfl rfl (room_some h38)) ?_
 obtain ⟨r39, h40, H⟩ := bind_some H
 refine Lst.call rfl rfl (by decide) (vs := [pv b3 0, iv (i23 : Int), Str.v (([97, 100, 100, 32, 52, 32] : Str) ++ r33)]) ⟨rfl, rfl, rfl, trivial⟩ Tryz.call31 (world_World_Say_sim h40 w0 _ M _ hM fm27 (All.monoProcessF fa28 fl (List.nil_sublist _))) (fun F45 L' v hF46 hv => ?_)
 obtain ⟨rs41, s44, rfl, rfl, fm42, fa43⟩ := hv
 refine Lst.r (Ev.neq rfl rfl) ?_
 refine nt0 ?_
 rcases Bool.eq_false_or_eq_true (r39.2.2.2 != (0 : Int)) with hb47 | hb47
 ·replace H := ite_t hb47 H
  refine Cd.condT rfl hb47 ?_
  refine sr0 ?_
  refine Lst.r (Ev.assign rfl) ?_
  refine nt0 ?_
  have H := hret23 _ (some_inj H).symm
  subst H
  replace H := HKl23
  obtain rfl := some_inj H
  refine Cd.ret ?_
  refine At.in_ret ?_
  refine At.then_ret ?_
  refine At.then_ret ?_
  refine At.in_ret ?_
  refine At.then_ret ?_
  exact At.ret1 rfl (Res.tmp rfl) (FLe.trans (FLe.trans (FLe.trans hF16 hF21) hF32) hF46) (sc1 (sc1 (sc1 (sc1 (sc1 (.refl _)))))) ⟨rfl, rfl⟩
 replace H := ite_f hb47 H
 refine Cd.condF rfl hb47 ?_
 refine Cd.skip ?_
 refine At.in_normal ?_
 refine At.then ?_
 refine Cd.region ?_
 refine Lst.r (Ev.incr (by omega) rfl rfl) ?_
 refine mv0 rfl ?_
 refine Lst.nil ?_
 exact At.meet (i23 + 1, k23, ({ r39.2.2.1 with all := r39.1, ordered := r1.1.ordered, way := r39.2.1 } : Wld), r39.1, rs41, s44, r39.2.1) (FLe.trans hF32 hF46) ⟨rfl, rfl, trivial⟩ rfl ⟨⟨hgo23 _ (some_inj H).symm, by omega, fm42, (All.monoProcessF fa43 fl (List.nil_sublist _))⟩, Nat.lt_succ_self _⟩
set_option maxRecDepth 20000 in
theorem partref_Rest_sim {a0 : Int} {a1 : Int} {r : Int} (H : partref_Rest a0 a1 = some r) (w0 : World) (F : Frz) (M L : List Item) (hM : M.Sublist L) : Ok Tryz.prog w0 56 [iv a0, iv a1] F (L) (Is (iv r) (L)) := by
 unfold partref_Rest at H
 refine Ok.enter (m := 2) (n := 14) Tryz.func56 rfl rfl rfl (by decide) ?_
 refine Cd.env (e' := [(0, iv a0), (1, iv a1)]) rfl ?_
 refine sr0 ?_
 refine Lst.r (Ev.assign rfl) ?_
 refine nt0 ?_
 refine Cd.seq ?_
 refine sr0 ?_
 refine mv0 rfl ?_
 refine Lst.r (Ev.leq rfl rfl) ?_
 refine nt0 ?_
 rcases Bool.eq_false_or_eq_true (decide (a1 ≤ (0 : Int))) with hb1 | hb1
 ·replace H := ite_t hb1 H
  refine Cd.condT rfl hb1 ?_
  refine sr0 ?_
  refine Lst.r (Ev.assign rfl) ?_
  refine nt0 ?_
  obtain rfl := some_inj H
  refine Cd.ret ?_
  refine At.then_ret ?_
  exact At.ret1 rfl (Res.tmp rfl) fl (.refl _) ⟨rfl, rfl⟩
 replace H := ite_f hb1 H
 refine Cd.condF rfl hb1 ?_
 refine Cd.skip ?_
 refine At.then ?_
 refine sr0 ?_
 refine mv0 rfl ?_
 refine mv0 rfl ?_
 obtain ⟨u2, h3, H⟩ := bind_some H
 refine Lst.r (Ev.rem (i := a0) (j := a1) rfl rfl (nz_some h3)) ?_
 refine mv0 rfl ?_
 refine Lst.r (Ev.add rfl rfl) ?_
 refine mv0 rfl ?_
 obtain ⟨u4, h5, H⟩ := bind_some H
 refine Lst.r (Ev.rem (i := w64 ((a0.tmod a1 : Int) + a1)) (j := a1) rfl rfl (nz_some h5)) ?_
 refine Lst.r (Ev.assign rfl) ?_
 refine nt0 ?_
 obtain rfl := some_inj H
 refine Cd.ret ?_
 exact At.ret1 rfl (Res.tmp rfl) fl (.refl _) ⟨rfl, rfl⟩
set_option maxRecDepth 20000 in
theorem parttop_few_sim {a0 : Int} {r : Int} (H : parttop_few a0 = some r) (w0 : World) (F : Frz) (M L : List Item) (hM : M.Sublist L) : Ok Tryz.prog w0 27 [iv a0] F (L) (Is (iv r) (L)) := by
 unfold parttop_few at H
 refine Ok.enter (m := 1) (n := 6) Tryz.func27 rfl rfl rfl (by decide) ?_
 refine Cd.env (e' := [(0, iv a0)]) rfl ?_
 refine sr0 ?_
 refine Lst.r (Ev.assign rfl) ?_
 refine nsr ?_
 refine mv0 rfl ?_
 obtain ⟨r1, h2, H⟩ := bind_some H
 refine Lst.call1 rfl rfl (by decide) (vs := [iv a0, iv (6 : Int)]) ⟨rfl, rfl, trivial⟩ Tryz.call56 (partref_Rest_sim h2 w0 _ M _ hM) ?_
 refine Lst.r (Ev.add rfl rfl) ?_
 refine Lst.r (Ev.assign rfl) ?_
 refine nt0 ?_
 obtain rfl := some_inj H
 refine Cd.ret ?_
 exact At.ret1 rfl (Res.tmp rfl) fl (.refl _) ⟨rfl, rfl⟩
set_option maxRecDepth 20000 in
theorem lane_Sends_sim {a0 : From} {a1 : Int} {s_a0_1 : Sl} {r : (List Parcel) × Int} (H : lane_Sends a0 a1 = some r) (w0 : World) (F : Frz) (M L : List Item) (hM : M.Sublist L) (hs_a0_1 : Rd w0 F M s_a0_1 a0.Late) : Ok Tryz.prog w0 69 [.agg (enc (FromR.mk a0 s_a0_1)).toArray, iv a1] F (L) (fun _ L' v => ∃ (s1 : Sl), v = .tuple #[Sl.v s1, iv r.2] ∧ L' = (.own s1 146 2 (encs r.1)) :: L) := by
 unfold lane_Sends at H
 refine Ok.enter (m := 2) (n := 37) Tryz.func69 rfl rfl rfl (by decide) ?_
 refine Cd.env (e' := [(0, .agg (enc (FromR.mk a0 s_a0_1)).toArray), (1, iv a1)]) rfl ?_
 refine sr0 ?_
 refine Lst.box rfl rfl (by decide) rfl (cs := enc (FromR.mk a0 s_a0_1)) rfl (fun b1 => ?_)
 refine Lst.addNil 146 2 ?_
 refine Lst.r (Ev.assign rfl) ?_
 refine Lst.r (Ev.assign rfl) ?_
 refine nt0 ?_
 refine Cd.seq ?_
 refine sr0 ?_
 refine Lst.r (Ev.loadA (i := 1) rfl rfl Tryz.isAgg45 Tryz.sizeOf45 (ch := enc (FromR.mk a0 s_a0_1)) (Enc.len _) gh0) ?_
 obtain ⟨r4, h5, H⟩ := bind_some H
 refine Lst.call1 rfl rfl (by decide) (vs := [.agg (enc (FromR.mk a0 s_a0_1)).toArray]) ⟨rfl, trivial⟩ Tryz.call111 (lane_CheckFrom_sim h5 w0 _ M _ (sc2 hM) (hs_a0_1.mono fl (.refl _))) ?_
 refine Lst.r (Ev.assign rfl) ?_
 refine nsr ?_
 refine mv0 rfl ?_
 refine Lst.r (Ev.neq rfl rfl) ?_
 refine nt0 ?_
 rcases Bool.eq_false_or_eq_true (r4 != (0 : Int)) with hb8 | hb8
 ·replace H := ite_t hb8 H
  refine Cd.condT rfl hb8 ?_
  refine sr0 ?_
  refine mv0 rfl ?_
  refine Lst.addNil 146 2 ?_
  refine Lst.r (Ev.assign rfl) ?_
  refine Lst.r (Ev.assign rfl) ?_
  refine nt0 ?_
  obtain rfl := some_inj H
  refine Cd.ret ?_
  refine At.then_ret ?_
  exact At.ret2 rfl (Res.tmp rfl) (Res.tmp rfl) fl (sk1 (sc1 (sc1 (.refl _)))) ⟨Sl.nil, rfl, rfl⟩
 replace H := ite_f hb8 H
 refine Cd.condF rfl hb8 ?_
 refine Cd.skip ?_
 refine At.then ?_
 refine sr0 ?_
 refine Lst.addNil 146 2 ?_
 refine Lst.r (Ev.assign rfl) ?_
 refine nt0 ?_
 refine Cd.seq ?_
 refine sr0 ?_
 refine Lst.r (Ev.fieldAddr (off' := 1) rfl Tryz.runUnderlying45 rfl Tryz.sizeOf43 rfl rfl) ?_
 refine Lst.r (Ev.load (i := 2) rfl rfl Tryz.isAgg43 (v := Sl.v s_a0_1) ((FromR.get_Late gh0).off (by rfl))) ?_
 refine Lst.r (Ev.lenS (α := Str) (xs := a0.Late) (by decide) rfl rfl Tryz.runUnderlying43 (hs_a0_1.mono fl (sc2 (sc1 hM)))) ?_
 refine mv0 rfl ?_
 refine nt0 ?_
 refine Cd.block ?_
 refine Cd.bound (Rd.le (α := Str) (xs := a0.Late) (by decide) (hs_a0_1.mono fl (sc2 (sc1 hM)))) (fun hN25 => ?_)
 obtain ⟨ol11, H, HKl11⟩ := bind_some H
 refine Cd.loop (σ := Nat × Nat × Sl × (List Parcel)) (fun (i11, k11, s12, l13) => [(1, iv a1), (2, pv b1 0), (7, Sl.v s12), (16, Sl.v s_a0_1), (17, iv (a0.Late.length : Int)), (18, iv (i11 : Int))]) (fun (i11, k11, s12, l13) => (.own s12 146 2 (encs l13)) :: (.own Sl.nil 146 2 (encs ([] : List Parcel))) :: (.blk b1 (enc (FromR.mk a0 s_a0_1)) 45) :: L) (fun _ => (fun (i11, k11, s12, l13) => rangeF (lane_Sends_B0 a0 a1) k11 i11 l13 = some ol11 ∧ i11 + k11 = a0.Late.length)) (fun (i11, k11, s12, l13) => k11) (0, a0.Late.length, Sl.nil, ([] : List Parcel)) ⟨rfl, rfl, rfl, rfl, rfl, rfl, trivial⟩ rfl ⟨H, by omega⟩ ?_
 rintro F14 ⟨i11, k11, s12, l13⟩ hF15 ⟨H, hik11⟩
 refine Cd.as (e' := [(1, iv a1), (2, pv b1 0), (7, Sl.v s12), (16, Sl.v s_a0_1), (17, iv (a0.Late.length : Int)), (18, iv (i11 : Int))]) (L' := (.own s12 146 2 (encs l13)) :: (.own Sl.nil 146 2 (encs ([] : List Parcel))) :: (.blk b1 (enc (FromR.mk a0 s_a0_1)) 45) :: L) ⟨rfl, rfl, rfl, rfl, rfl, rfl, trivial⟩ rfl ?_
 rcases k11 with _ | k11
 ·have hc11 : decide ((i11 : Int) < (a0.Late.length : Int)) = false := decide_eq_false (by omega)
  replace H := rangeF_end H
  refine sr0 ?_
  refine Lst.r (Ev.lss rfl rfl) ?_
  refine nt0 ?_
  refine Cd.seq ?_
  refine Cd.condF rfl hc11 ?_
  refine Cd.exit ?_
  refine At.then_exit ?_
  refine At.then_exit ?_
  refine At.in_exit ?_
  subst H
  replace H := HKl11
  refine At.then ?_
  refine sr0 ?_
  refine mv0 rfl ?_
  refine Lst.r (Ev.assign rfl) ?_
  refine Lst.r (Ev.assign rfl) ?_
  refine nt0 ?_
  obtain rfl := some_inj H
  refine Cd.ret ?_
  exact At.ret2 rfl (Res.tmp rfl) (Res.tmp rfl) hF15 (sk1 (sc1 (sc1 (.refl _)))) ⟨s12, rfl, rfl⟩
 have hc11 : decide ((i11 : Int) < (a0.Late.length : Int)) = true := decide_eq_true (by omega)
 obtain ⟨c11, H, hgo11⟩ := rangeF_go H
 unfold lane_Sends_B0 at H
 try dsimp only at H
 refine sr0 ?_
 refine Lst.r (Ev.lss rfl rfl) ?_
 refine nt0 ?_
 refine Cd.seq ?_
 refine Cd.condT rfl hc11 ?_
 refine Cd.skip ?_
 refine At.then ?_
 refine Cd.seq ?_
 refine Cd.block ?_
 refine sr0 ?_
 refine mv0 rfl ?_
 obtain ⟨x16, h17, H⟩ := bind_some H
 have g18 := lat_some h17
 refine Lst.r (Ev.indexS (α := Str) (xs := a0.Late) rfl rfl Tryz.runUnderlying43 Tryz.sizeOf9 rfl (by decide) (hs_a0_1.mono hF15 (sc2 (sc1 hM))) g18.1 g18.2.1) ?_
 refine Lst.r (Ev.loadS (α := Str) rfl (hs_a0_1.mono hF15 (sc2 (sc1 hM))) Tryz.isAgg9 (v := Str.v x16) ((Get.elemN (s := 1) (x := x16) rfl g18.2.2 gh0).off (by omega))) ?_
 refine Lst.r (Ev.assign rfl) ?_
 refine Lst.r (Ev.assign rfl) ?_
 refine nsr ?_
 refine mv0 rfl ?_
 refine mv0 rfl ?_
 refine Lst.r (Ev.lss rfl rfl) ?_
 refine nt0 ?_
 rcases (Bool.eq_false_or_eq_true (decide ((i11 : Int) < a1))).symm with hb19 | hb19
 ·replace H := ite_f hb19 H
  refine Cd.condF rfl hb19 ?_
  refine Cd.skip ?_
  refine At.in_normal ?_
  refine At.then ?_
  refine Cd.region ?_
  refine Lst.r (Ev.incr (by omega) rfl rfl) ?_
  refine mv0 rfl ?_
  refine Lst.nil ?_
  exact At.meet (i11 + 1, k11, s12, l13) hF15 ⟨rfl, rfl, rfl, rfl, rfl, rfl, trivial⟩ rfl ⟨⟨hgo11 _ (some_inj H).symm, by omega⟩, Nat.lt_succ_self _⟩
 replace H := ite_t hb19 H
 refine Cd.condT rfl hb19 ?_
 refine Cd.region ?_
 refine mv0 rfl ?_
 refine Lst.r (Ev.fieldAddr (off' := 0) rfl Tryz.runUnderlying45 rfl Tryz.sizeOf3 rfl rfl) ?_
 refine Lst.r (Ev.load (i := 2) rfl rfl Tryz.isAgg3 (v := iv a0.Base) ((FromR.get_Base gh0).off (by rfl))) ?_
 refine mv0 rfl ?_
 refine Lst.r (Ev.add rfl rfl) ?_
 refine mv0 rfl ?_
 refine Lst.r (Ev.build (v := .agg (enc ({ Parcel.zero with Seq := w64 (a0.Base + (i11 : Int)), Text := x16 } : Parcel)).toArray) (pv := [(0, iv (w64 (a0.Base + (i11 : Int)))), (1, Str.v x16)]) ⟨rfl, rfl, ⟨rfl, rfl, trivial⟩⟩ (fun w => by kernel_rfl)) ?_
 refine Lst.buildSlice (α := Parcel) (xs := ([({ Parcel.zero with Seq := w64 (a0.Base + (i11 : Int)), Text := x16 } : Parcel)] : List Parcel)) (pv := [(0, .agg (enc ({ Parcel.zero with Seq := w64 (a0.Base + (i11 : Int)), Text := x16 } : Parcel)).toArray)]) rfl rfl (by decide) ⟨rfl, rfl, trivial⟩ (run_buildSlice (α := Parcel) (z0 := Parcel.zero) (xs := ([({ Parcel.zero with Seq := w64 (a0.Base + (i11 : Int)), Text := x16 } : Parcel)] : List Parcel)) Tryz.runUnderlying39 Tryz.sizeOf146 Tryz.zeroValue146 rfl rfl rfl (by decide) rfl (fill_cons (cs := encs (List.replicate 1 Parcel.zero)) (cs' := encs ((List.replicate 1 Parcel.zero).set 0 ({ Parcel.zero with Seq := w64 (a0.Base + (i11 : Int)), Text := x16 } : Parcel))) (vs := enc ({ Parcel.zero with Seq := w64 (a0.Base + (i11 : Int)), Text := x16 } : Parcel)) rfl rfl (Enc.len _) ((Put.elemN (s := 2) (i := 0) (x := Parcel.zero) (y := ({ Parcel.zero with Seq := w64 (a0.Base + (i11 : Int)), Text := x16 } : Parcel)) rfl rfl (Put.here ((Enc.len _).trans (Enc.len _).symm))).off rfl) fill_nil)) rfl rfl (by decide) (fun s20 _ => ?_)
 obtain ⟨u22, h23, H⟩ := bind_some H
 refine Lst.append (i := 1) (α := Parcel) (xs := l13) (ys := ([({ Parcel.zero with Seq := w64 (a0.Base + (i11 : Int)), Text := x16 } : Parcel)] : List Parcel)) rfl rfl (by decide) rfl rfl Tryz.runUnderlying39 Tryz.typeInfo146 rfl rfl rfl rfl rfl rfl (rdo 0 rfl rfl rfl) rfl (room_some h23) rfl (fun s24 => ?_)
 refine Lst.its (L' := (.own s20 146 2 (encs ([({ Parcel.zero with Seq := w64 (a0.Base + (i11 : Int)), Text := x16 } : Parcel)] : List Parcel))) :: (.own s24 146 2 (encs (l13 ++ ([({ Parcel.zero with Seq := w64 (a0.Base + (i11 : Int)), Text := x16 } : Parcel)] : List Parcel)))) :: (.own Sl.nil 146 2 (encs ([] : List Parcel))) :: (.blk b1 (enc (FromR.mk a0 s_a0_1)) 45) :: L) rfl ?_
 refine Lst.r (Ev.assign rfl) ?_
 refine Lst.nil ?_
 refine At.in_normal ?_
 refine At.then ?_
 refine Cd.as (e' := [(1, iv a1), (2, pv b1 0), (16, Sl.v s_a0_1), (17, iv (a0.Late.length : Int)), (18, iv (i11 : Int)), (7, Sl.v s24)]) (L' := (.own s20 146 2 (encs ([({ Parcel.zero with Seq := w64 (a0.Base + (i11 : Int)), Text := x16 } : Parcel)] : List Parcel))) :: (.own s24 146 2 (encs (l13 ++ ([({ Parcel.zero with Seq := w64 (a0.Base + (i11 : Int)), Text := x16 } : Parcel)] : List Parcel)))) :: (.own Sl.nil 146 2 (encs ([] : List Parcel))) :: (.blk b1 (enc (FromR.mk a0 s_a0_1)) 45) :: L) ⟨rfl, rfl, rfl, rfl, rfl, rfl, trivial⟩ rfl ?_
 refine Cd.region ?_
 refine Lst.r (Ev.incr (by omega) rfl rfl) ?_
 refine mv0 rfl ?_
 refine Lst.nil ?_
 refine At.less (L' := (.own s24 146 2 (encs (l13 ++ ([({ Parcel.zero with Seq := w64 (a0.Base + (i11 : Int)), Text := x16 } : Parcel)] : List Parcel)))) :: (.own Sl.nil 146 2 (encs ([] : List Parcel))) :: (.blk b1 (enc (FromR.mk a0 s_a0_1)) 45) :: L) (sc1 (sk1 (sk1 (sk1 (.refl _))))) ?_
 exact At.meet (i11 + 1, k11, s24, l13 ++ ([({ Parcel.zero with Seq := w64 (a0.Base + (i11 : Int)), Text := x16 } : Parcel)] : List Parcel)) hF15 ⟨rfl, rfl, rfl, rfl, rfl, rfl, trivial⟩ rfl ⟨⟨hgo11 _ (some_inj H).symm, by omega⟩, Nat.lt_succ_self _⟩
set_option maxRecDepth 20000 in
theorem world_World_Again_sim {a0 : Wld} {a1 : Int} {b_a0 : Nat} {s_a0_1 : Sl} {rs_a0_1 : List ProcessR} {s_a0_2 : Sl} {s_a0_3 : Sl} {r : (List Str) × Wld × Int} (H : world_World_Again a0 a1 = some r) (w0 : World) (F : Frz) (M L : List Item) (hM : M.Sublist L) (hm_a0_1 : rs_a0_1.map ProcessR.v = a0.all) (ha_a0_1 : All ProcessR.frel w0 F [] rs_a0_1) : Ok Tryz.prog w0 35 [pv b_a0 0, iv a1] F ((.rows (α := Saying) 62 (List.map ProcessR.row rs_a0_1)) :: (.own s_a0_1 100 8 (encs rs_a0_1)) :: (.own s_a0_2 9 1 (encs a0.ordered)) :: (.own s_a0_3 9 1 (encs a0.way)) :: (.blk b_a0 (enc (WldR.mk a0 s_a0_1 s_a0_2 s_a0_3)) 95) :: L) (fun _ L' v => ∃ (s6 : Sl), v = iv r.2.2 ∧ L' = (.rows (α := Saying) 62 (List.map ProcessR.row rs_a0_1)) :: (.own s_a0_1 100 8 (encs rs_a0_1)) :: (.own s_a0_2 9 1 (encs a0.ordered)) :: (.own s6 9 1 (encs r.1)) :: (.blk b_a0 (enc (WldR.mk ({ r.2.1 with all := a0.all, ordered := a0.ordered, way := r.1 } : Wld) s_a0_1 s_a0_2 s6)) 95) :: L) := by
 unfold world_World_Again at H
 refine Ok.enter (m := 2) (n := 58) Tryz.func35 rfl rfl rfl (by decide) ?_
 refine Cd.env (e' := [(0, pv b_a0 0), (1, iv a1)]) rfl ?_
 refine sr0 ?_
 refine Lst.r (Ev.assign rfl) ?_
 refine nt0 ?_
 refine Cd.seq ?_
 refine sr0 ?_
 refine mv0 rfl ?_
 refine mv0 rfl ?_
 obtain ⟨r6, h7, H⟩ := bind_some H
 refine Lst.call1 rfl rfl (by decide) (vs := [pv b_a0 0, iv a1]) ⟨rfl, rfl, trivial⟩ Tryz.call59 (world_World_working_sim h7 w0 _ M _ hM hm_a0_1 (All.monoProcessF ha_a0_1 fl (List.nil_sublist _))) ?_
 refine Lst.r (Ev.assign rfl) ?_
 refine nsr ?_
 refine mv0 rfl ?_
 refine Lst.r (Ev.neq rfl rfl) ?_
 refine nt0 ?_
 rcases Bool.eq_false_or_eq_true (r6 != (0 : Int)) with hb10 | hb10
 ·replace H := ite_t hb10 H
  refine Cd.condT rfl hb10 ?_
  refine sr0 ?_
  refine mv0 rfl ?_
  refine Lst.r (Ev.assign rfl) ?_
  refine nt0 ?_
  obtain rfl := some_inj H
  refine Cd.ret ?_
  refine At.then_ret ?_
  exact At.ret1 rfl (Res.tmp rfl) fl (sk1 (sk1 (sk1 (sk1 (sk1 (.refl _)))))) ⟨s_a0_3, rfl, rfl⟩
 replace H := ite_f hb10 H
 refine Cd.condF rfl hb10 ?_
 refine Cd.skip ?_
 refine At.then ?_
 refine sr0 ?_
 refine mv0 rfl ?_
 refine Lst.r (Ev.nilCheck rfl) ?_
 refine Lst.r (Ev.fieldAddr (off' := 2) rfl Tryz.runUnderlying95 rfl Tryz.sizeOf93 rfl rfl) ?_
 refine Lst.r (Ev.load (i := 4) rfl rfl Tryz.isAgg93 (v := Sl.v s_a0_1) ((WldR.get_all gh0).off (by rfl))) ?_
 refine mv0 rfl ?_
 obtain ⟨x11, h12, H⟩ := bind_some H
 have g13 := lat_some h12
 obtain ⟨⟨r14v, r14h1, ⟨r14_2v, r14_2h1⟩, ⟨r14_3v, r14_3h1⟩, ⟨r14_4v, r14_4h1⟩⟩, r14g, r14e, r14m⟩ := map_get hm_a0_1 g13.2.2
 obtain rfl : x11 = r14v := r14e.symm
 have r14q : ProcessR.frel w0 _ _ (ProcessR.mk x11 r14h1 (FromR.mk r14_2v r14_2h1) (ToR.mk r14_3v r14_3h1) (ToR.mk r14_4v r14_4h1)) := ha_a0_1 _ r14m
 obtain ⟨r14_i2, r14_i3, r14_i4⟩ := r14q
 obtain ⟨r14_2e, r14_2q⟩ := r14_i2
 obtain rfl : r14_2v = x11.from_ := r14_2e
 have r14_2_f1 : Rd w0 _ _ _ _ := r14_2q
 obtain ⟨r14_3e, r14_3q⟩ := r14_i3
 obtain rfl : r14_3v = x11.to := r14_3e
 have r14_3_f1 : Rd w0 _ _ _ _ := r14_3q
 obtain ⟨r14_4e, r14_4q⟩ := r14_i4
 obtain rfl : r14_4v = x11.orders := r14_4e
 have r14_4_f1 : Rd w0 _ _ _ _ := r14_4q
 have r14wg := map_at ProcessR.row r14g
 refine Lst.r (Ev.indexS (α := ProcessR) (xs := rs_a0_1) rfl rfl Tryz.runUnderlying93 Tryz.sizeOf100 rfl (by decide) (rdo 1 rfl rfl rfl) g13.1 (by have := map_len hm_a0_1; omega)) ?_
 refine Lst.r (Ev.fieldS (α := ProcessR) (f' := a1.toNat * 8 + 2) rfl (rdo 1 rfl rfl rfl) ((Get.elemN (s := 8) rfl r14g gh0).off (by omega)) rfl Tryz.runUnderlying100 rfl Tryz.sizeOf45 rfl rfl rfl) ?_
 refine Lst.r (Ev.loadSA (α := ProcessR) rfl (rdo 1 rfl rfl rfl) Tryz.isAgg45 Tryz.sizeOf45 (ch := enc (FromR.mk x11.from_ r14_2h1)) (Enc.len _) (by decide) ((Get.elemN (s := 8) rfl r14g (ProcessR.get_from_ gh0)).off (by omega))) ?_
 obtain ⟨r15, h16, H⟩ := bind_some H
 refine Lst.call rfl rfl (by decide) (vs := [.agg (enc (FromR.mk x11.from_ r14_2h1)).toArray, iv (4 : Int)]) ⟨rfl, rfl, trivial⟩ Tryz.call69 (lane_Sends_sim h16 w0 _ M _ (sc4 (sc1 hM)) (r14_2_f1.mono fl (List.nil_sublist _))) (fun F19 L' v hF20 hv => ?_)
 obtain ⟨s17, rfl, rfl⟩ := hv
 refine mv0 rfl ?_
 refine Lst.r (Ev.extract rfl rfl) ?_
 refine Lst.r (Ev.extract rfl rfl) ?_
 refine Lst.r (Ev.assign rfl) ?_
 refine Lst.r (Ev.assign rfl) ?_
 refine nt0 ?_
 refine Cd.seq ?_
 refine Cd.seq ?_
 refine Cd.as (e' := [(0, pv b_a0 0), (1, iv a1), (6, Sl.v s17)]) (L' := (.own s17 146 2 (encs r15.1)) :: (.rows (α := Saying) 62 (List.map ProcessR.row rs_a0_1)) :: (.own s_a0_1 100 8 (encs rs_a0_1)) :: (.own s_a0_2 9 1 (encs a0.ordered)) :: (.own s_a0_3 9 1 (encs a0.way)) :: (.blk b_a0 (enc (WldR.mk a0 s_a0_1 s_a0_2 s_a0_3)) 95) :: L) ⟨rfl, rfl, rfl, trivial⟩ rfl ?_
 refine Cd.region ?_
 refine mv0 rfl ?_
 refine Lst.r (Ev.lenS (α := Parcel) (xs := r15.1) (by decide) rfl rfl Tryz.runUnderlying39 (rdo 0 rfl rfl rfl)) ?_
 refine mv0 rfl ?_
 refine nt0 ?_
 refine Cd.block ?_
 refine Cd.bound (Rd.le (α := Parcel) (xs := r15.1) (by decide) (rdo 0 rfl rfl rfl)) (fun hN54 => ?_)
 obtain ⟨ol21, H, HKl21⟩ := bind_some H
 refine Cd.loop (σ := Nat × Nat × Wld × Sl × (List Str)) (fun (i21, k21, y22, s23, l24) => [(0, pv b_a0 0), (1, iv a1), (28, Sl.v s17), (29, iv (r15.1.length : Int)), (30, iv (i21 : Int))]) (fun (i21, k21, y22, s23, l24) => (.own s17 146 2 (encs r15.1)) :: (.rows (α := Saying) 62 (List.map ProcessR.row rs_a0_1)) :: (.own s_a0_1 100 8 (encs rs_a0_1)) :: (.own s_a0_2 9 1 (encs a0.ordered)) :: (.own s23 9 1 (encs l24)) :: (.blk b_a0 (enc (WldR.mk ({ y22 with all := a0.all, ordered := a0.ordered, way := l24 } : Wld) s_a0_1 s_a0_2 s23)) 95) :: L) (fun _ => (fun (i21, k21, y22, s23, l24) => rangeF (world_World_Again_B0 a0 a1 r15) k21 i21 (y22, l24) = some ol21 ∧ i21 + k21 = r15.1.length)) (fun (i21, k21, y22, s23, l24) => k21) (0, r15.1.length, a0, s_a0_3, a0.way) ⟨rfl, rfl, rfl, rfl, rfl, trivial⟩ rfl ⟨H, by omega⟩ ?_
 rintro F25 ⟨i21, k21, y22, s23, l24⟩ hF26 ⟨H, hik21⟩
 refine Cd.as (e' := [(0, pv b_a0 0), (1, iv a1), (28, Sl.v s17), (29, iv (r15.1.length : Int)), (30, iv (i21 : Int))]) (L' := (.own s17 146 2 (encs r15.1)) :: (.rows (α := Saying) 62 (List.map ProcessR.row rs_a0_1)) :: (.own s_a0_1 100 8 (encs rs_a0_1)) :: (.own s_a0_2 9 1 (encs a0.ordered)) :: (.own s23 9 1 (encs l24)) :: (.blk b_a0 (enc (WldR.mk ({ y22 with all := a0.all, ordered := a0.ordered, way := l24 } : Wld) s_a0_1 s_a0_2 s23)) 95) :: L) ⟨rfl, rfl, rfl, rfl, rfl, trivial⟩ rfl ?_
 rcases k21 with _ | k21
 ·have hc21 : decide ((i21 : Int) < (r15.1.length : Int)) = false := decide_eq_false (by omega)
  replace H := rangeF_end H
  refine sr0 ?_
  refine Lst.r (Ev.lss rfl rfl) ?_
  refine nt0 ?_
  refine Cd.seq ?_
  refine Cd.condF rfl hc21 ?_
  refine Cd.exit ?_
  refine At.then_exit ?_
  refine At.then_exit ?_
  refine At.in_exit ?_
  subst H
  replace H := HKl21
  try dsimp only [Sum.elim_inl] at H
  refine At.then ?_
  refine Cd.seq ?_
  refine Cd.tail 13 (by kernel_rfl) (by kernel_rfl) ?_
  refine Qt.r (Ev.move rfl) ?_
  refine Qt.r (Ev.move rfl) ?_
  refine Qt.r (Ev.move rfl) ?_
  obtain ⟨r41, h42, H⟩ := bind_some H
  refine Qt.call rfl rfl (by decide) (vs := [pv b_a0 0]) ⟨rfl, trivial⟩ Tryz.call62 (Ok.isPerm (List.Perm.trans (front_perm (i := 5) rfl) (List.Perm.trans (front_perm (i := 5) rfl) (List.Perm.trans (front_perm (i := 5) rfl) (List.Perm.trans (front_perm (i := 5) rfl) (front_perm (i := 5) rfl))))) (world_World_sequencer_sim h42 w0 _ M _ (sc1 hM) hm_a0_1 (All.monoProcessF ha_a0_1 (FLe.trans hF20 hF26) (List.nil_sublist _)))) ?_
  refine Qt.r (Ev.move rfl) ?_
  refine Qt.r (Ev.nilCheck rfl) ?_
  refine Qt.r (Ev.fieldAddr (off' := 2) rfl Tryz.runUnderlying95 rfl Tryz.sizeOf93 rfl rfl) ?_
  refine Qt.r (Ev.load (i := 5) rfl rfl Tryz.isAgg93 (v := Sl.v s_a0_1) ((WldR.get_all gh0).off (by rfl))) ?_
  refine Qt.r (Ev.move rfl) ?_
  obtain ⟨x45, h46, H⟩ := bind_some H
  have g47 := lat_some h46
  obtain ⟨⟨r48v, r48h1, ⟨r48_2v, r48_2h1⟩, ⟨r48_3v, r48_3h1⟩, ⟨r48_4v, r48_4h1⟩⟩, r48g, r48e, r48m⟩ := map_get hm_a0_1 g47.2.2
  obtain rfl : x45 = r48v := r48e.symm
  have r48q : ProcessR.frel w0 _ _ (ProcessR.mk x45 r48h1 (FromR.mk r48_2v r48_2h1) (ToR.mk r48_3v r48_3h1) (ToR.mk r48_4v r48_4h1)) := ha_a0_1 _ r48m
  obtain ⟨r48_i2, r48_i3, r48_i4⟩ := r48q
  obtain ⟨r48_2e, r48_2q⟩ := r48_i2
  obtain rfl : r48_2v = x45.from_ := r48_2e
  have r48_2_f1 : Rd w0 _ _ _ _ := r48_2q
  obtain ⟨r48_3e, r48_3q⟩ := r48_i3
  obtain rfl : r48_3v = x45.to := r48_3e
  have r48_3_f1 : Rd w0 _ _ _ _ := r48_3q
  obtain ⟨r48_4e, r48_4q⟩ := r48_i4
  obtain rfl : r48_4v = x45.orders := r48_4e
  have r48_4_f1 : Rd w0 _ _ _ _ := r48_4q
  have r48wg := map_at ProcessR.row r48g
  refine Qt.r (Ev.indexS (α := ProcessR) (xs := rs_a0_1) rfl rfl Tryz.runUnderlying93 Tryz.sizeOf100 rfl (by decide) (rdo 2 rfl rfl rfl) g47.1 (by have := map_len hm_a0_1; omega)) ?_
  refine Qt.r (Ev.fieldS (α := ProcessR) (f' := a1.toNat * 8 + 4) rfl (rdo 2 rfl rfl rfl) ((Get.elemN (s := 8) rfl r48g gh0).off (by omega)) rfl Tryz.runUnderlying100 rfl Tryz.sizeOf41 rfl rfl rfl) ?_
  refine Qt.r (Ev.fieldS (α := ProcessR) (f' := a1.toNat * 8 + 4 + 0) rfl (rdo 2 rfl rfl rfl) ((Get.elemN (s := 8) rfl r48g (ProcessR.get_to gh0)).off (by omega)) rfl Tryz.runUnderlying41 rfl Tryz.sizeOf3 rfl rfl rfl) ?_
  refine Qt.r (Ev.loadS (α := ProcessR) rfl (rdo 2 rfl rfl rfl) Tryz.isAgg3 (v := iv x45.to.Next) ((Get.elemN (s := 8) rfl r48g (ProcessR.get_to (ToR.get_Next gh0))).off (by omega))) ?_
  refine Qt.tail ?_
  obtain ⟨r49, h50, H⟩ := bind_some H
  refine Lst.front (i := 5) rfl rfl ?_
  refine Lst.front (i := 5) rfl rfl ?_
  refine Lst.front (i := 5) rfl (L' := (.own s_a0_2 9 1 (encs a0.ordered)) :: (.own s23 9 1 (encs l24)) :: (.blk b_a0 (enc (WldR.mk ({ y22 with all := a0.all, ordered := a0.ordered, way := l24 } : Wld) s_a0_1 s_a0_2 s23)) 95) :: (.own s17 146 2 (encs r15.1)) :: (.rows (α := Saying) 62 (List.map ProcessR.row rs_a0_1)) :: (.own s_a0_1 100 8 (encs rs_a0_1)) :: L) rfl ?_
  refine Lst.front (i := 5) rfl rfl ?_
  refine Lst.front (i := 5) rfl (L' := (.rows (α := Saying) 62 (List.map ProcessR.row rs_a0_1)) :: (.own s_a0_1 100 8 (encs rs_a0_1)) :: (.own s_a0_2 9 1 (encs a0.ordered)) :: (.own s23 9 1 (encs l24)) :: (.blk b_a0 (enc (WldR.mk ({ y22 with all := a0.all, ordered := a0.ordered, way := l24 } : Wld) s_a0_1 s_a0_2 s23)) 95) :: (.own s17 146 2 (encs r15.1)) :: L) rfl ?_
  refine Lst.call rfl rfl (by decide) (vs := [pv b_a0 0, iv (3 : Int), iv a1, iv r41, iv x45.to.Next, Str.v ([] : Str)]) ⟨rfl, rfl, rfl, rfl, rfl, rfl, trivial⟩ Tryz.call61 (world_World_send_sim h50 w0 _ M _ (sc1 hM) hm_a0_1 (All.monoProcessF ha_a0_1 (FLe.trans hF20 hF26) (List.nil_sublist _))) (fun F52 L' v hF53 hv => ?_)
  obtain ⟨s51, rfl, rfl⟩ := hv
  refine nt0 ?_
  refine Cd.seq ?_
  refine Cd.as (e' := []) (L' := (.rows (α := Saying) 62 (List.map ProcessR.row rs_a0_1)) :: (.own s_a0_1 100 8 (encs rs_a0_1)) :: (.own s_a0_2 9 1 (encs a0.ordered)) :: (.own s51 9 1 (encs r49.1)) :: (.blk b_a0 (enc (WldR.mk ({ r49.2 with all := a0.all, ordered := a0.ordered, way := r49.1 } : Wld) s_a0_1 s_a0_2 s51)) 95) :: (.own s17 146 2 (encs r15.1)) :: L) trivial rfl ?_
  refine Cd.region ?_
  refine Lst.r (Ev.assign rfl) ?_
  refine nt0 ?_
  obtain rfl := some_inj H
  refine Cd.ret ?_
  exact At.ret1 rfl (Res.tmp rfl) (FLe.trans (FLe.trans hF20 hF26) hF53) (sk1 (sk1 (sk1 (sk1 (sk1 (sc1 (.refl _))))))) ⟨s51, rfl, rfl⟩
 have hc21 : decide ((i21 : Int) < (r15.1.length : Int)) = true := decide_eq_true (by omega)
 obtain ⟨c21, H, hgo21⟩ := rangeF_go H
 unfold world_World_Again_B0 at H
 try dsimp only at H
 refine sr0 ?_
 refine Lst.r (Ev.lss rfl rfl) ?_
 refine nt0 ?_
 refine Cd.seq ?_
 refine Cd.condT rfl hc21 ?_
 refine Cd.skip ?_
 refine At.then ?_
 refine Cd.seq ?_
 refine Cd.block ?_
 refine sr0 ?_
 obtain ⟨x27, h28, H⟩ := bind_some H
 have g29 := lat_some h28
 refine Lst.r (Ev.indexS (α := Parcel) (xs := r15.1) rfl rfl Tryz.runUnderlying39 Tryz.sizeOf146 rfl (by decide) (rdo 0 rfl rfl rfl) g29.1 g29.2.1) ?_
 refine Lst.r (Ev.loadSA (α := Parcel) rfl (rdo 0 rfl rfl rfl) Tryz.isAgg146 Tryz.sizeOf146 (ch := enc x27) (Enc.len _) (by decide) ((Get.elemN (s := 2) (x := x27) rfl g29.2.2 gh0).off (by omega))) ?_
 refine Lst.alloc (cs := enc Parcel.zero) rfl rfl (by decide) Tryz.zeroValue146 rfl (fun b30 => ?_)
 refine Lst.store (i := 0) rfl rfl rfl rfl rfl Tryz.sizeOf146 (vs := enc x27) rfl (Enc.len _) (Enc.one _) (cs' := enc x27) (Put.here ((Enc.len _).trans (Enc.len _).symm)) (L' := (.blk b30 (enc x27) 146) :: (.own s17 146 2 (encs r15.1)) :: (.rows (α := Saying) 62 (List.map ProcessR.row rs_a0_1)) :: (.own s_a0_1 100 8 (encs rs_a0_1)) :: (.own s_a0_2 9 1 (encs a0.ordered)) :: (.own s23 9 1 (encs l24)) :: (.blk b_a0 (enc (WldR.mk ({ y22 with all := a0.all, ordered := a0.ordered, way := l24 } : Wld) s_a0_1 s_a0_2 s23)) 95) :: L) rfl ?_
 refine nt0 ?_
 refine Cd.tail 8 (by kernel_rfl) (by kernel_rfl) ?_
 refine Qt.r (Ev.move rfl) ?_
 refine Qt.r (Ev.move rfl) ?_
 refine Qt.r (Ev.move rfl) ?_
 obtain ⟨r32, h33, H⟩ := bind_some H
 refine Qt.call rfl rfl (by decide) (vs := [pv b_a0 0]) ⟨rfl, trivial⟩ Tryz.call62 (Ok.isPerm (List.Perm.trans (front_perm (i := 6) rfl) (List.Perm.trans (front_perm (i := 6) rfl) (List.Perm.trans (front_perm (i := 6) rfl) (List.Perm.trans (front_perm (i := 6) rfl) (front_perm (i := 6) rfl))))) (world_World_sequencer_sim h33 w0 _ M _ (sc2 hM) hm_a0_1 (All.monoProcessF ha_a0_1 (FLe.trans hF20 hF26) (List.nil_sublist _)))) ?_
 refine Qt.r (Ev.fieldAddr (off' := 0) rfl Tryz.runUnderlying146 rfl Tryz.sizeOf3 rfl rfl) ?_
 refine Qt.r (Ev.load (i := 0) rfl rfl Tryz.isAgg3 (v := iv x27.Seq) ((Parcel.get_Seq gh0).off (by rfl))) ?_
 refine Qt.r (Ev.fieldAddr (off' := 1) rfl Tryz.runUnderlying146 rfl Tryz.sizeOf9 rfl rfl) ?_
 refine Qt.r (Ev.load (i := 0) rfl rfl Tryz.isAgg9 (v := Str.v x27.Text) ((Parcel.get_Text gh0).off (by rfl))) ?_
 refine Qt.tail ?_
 obtain ⟨r36, h37, H⟩ := bind_some H
 refine Lst.front (i := 6) rfl rfl ?_
 refine Lst.front (i := 6) rfl rfl ?_
 refine Lst.front (i := 6) rfl (L' := (.own s_a0_2 9 1 (encs a0.ordered)) :: (.own s23 9 1 (encs l24)) :: (.blk b_a0 (enc (WldR.mk ({ y22 with all := a0.all, ordered := a0.ordered, way := l24 } : Wld) s_a0_1 s_a0_2 s23)) 95) :: (.blk b30 (enc x27) 146) :: (.own s17 146 2 (encs r15.1)) :: (.rows (α := Saying) 62 (List.map ProcessR.row rs_a0_1)) :: (.own s_a0_1 100 8 (encs rs_a0_1)) :: L) rfl ?_
 refine Lst.front (i := 6) rfl rfl ?_
 refine Lst.front (i := 6) rfl (L' := (.rows (α := Saying) 62 (List.map ProcessR.row rs_a0_1)) :: (.own s_a0_1 100 8 (encs rs_a0_1)) :: (.own s_a0_2 9 1 (encs a0.ordered)) :: (.own s23 9 1 (encs l24)) :: (.blk b_a0 (enc (WldR.mk ({ y22 with all := a0.all, ordered := a0.ordered, way := l24 } : Wld) s_a0_1 s_a0_2 s23)) 95) :: (.blk b30 (enc x27) 146) :: (.own s17 146 2 (encs r15.1)) :: L) rfl ?_
 refine Lst.call rfl rfl (by decide) (vs := [pv b_a0 0, iv (1 : Int), iv a1, iv r32, iv x27.Seq, Str.v x27.Text]) ⟨rfl, rfl, rfl, rfl, rfl, rfl, trivial⟩ Tryz.call61 (world_World_send_sim h37 w0 _ M _ (sc2 hM) hm_a0_1 (All.monoProcessF ha_a0_1 (FLe.trans hF20 hF26) (List.nil_sublist _))) (fun F39 L' v hF40 hv => ?_)
 obtain ⟨s38, rfl, rfl⟩ := hv
 refine Lst.nil ?_
 refine At.in_normal ?_
 refine At.then ?_
 refine Cd.region ?_
 refine Lst.r (Ev.incr (by omega) rfl rfl) ?_
 refine mv0 rfl ?_
 refine Lst.nil ?_
 refine At.front (i := 6) rfl (L' := (.own s17 146 2 (encs r15.1)) :: (.rows (α := Saying) 62 (List.map ProcessR.row rs_a0_1)) :: (.own s_a0_1 100 8 (encs rs_a0_1)) :: (.own s_a0_2 9 1 (encs a0.ordered)) :: (.own s38 9 1 (encs r36.1)) :: (.blk b_a0 (enc (WldR.mk ({ r36.2 with all := a0.all, ordered := a0.ordered, way := r36.1 } : Wld) s_a0_1 s_a0_2 s38)) 95) :: (.blk b30 (enc x27) 146) :: L) rfl ?_
 refine At.less (L' := (.own s17 146 2 (encs r15.1)) :: (.rows (α := Saying) 62 (List.map ProcessR.row rs_a0_1)) :: (.own s_a0_1 100 8 (encs rs_a0_1)) :: (.own s_a0_2 9 1 (encs a0.ordered)) :: (.own s38 9 1 (encs r36.1)) :: (.blk b_a0 (enc (WldR.mk ({ r36.2 with all := a0.all, ordered := a0.ordered, way := r36.1 } : Wld) s_a0_1 s_a0_2 s38)) 95) :: L) (sk1 (sk1 (sk1 (sk1 (sk1 (sk1 (sc1 (.refl _)))))))) ?_
 exact At.meet (i21 + 1, k21, ({ r36.2 with all := a0.all, ordered := a0.ordered, way := r36.1 } : Wld), s38, r36.1) (FLe.trans hF26 hF40) ⟨rfl, rfl, rfl, rfl, rfl, trivial⟩ rfl ⟨⟨hgo21 _ (some_inj H).symm, by omega⟩, Nat.lt_succ_self _⟩
set_option maxRecDepth 20000 in
theorem world_World_Fall_sim {a0 : Wld} {a1 : Int} {b_a0 : Nat} {s_a0_1 : Sl} {rs_a0_1 : List ProcessR} {s_a0_2 : Sl} {s_a0_3 : Sl} {r : (List Procs) × Wld × Int} (H : world_World_Fall a0 a1 = some r) (w0 : World) (F : Frz) (M L : List Item) (hM : M.Sublist L) (hm_a0_1 : rs_a0_1.map ProcessR.v = a0.all) (ha_a0_1 : All ProcessR.frel w0 F [] rs_a0_1) : Ok Tryz.prog w0 36 [pv b_a0 0, iv a1] F ((.rows (α := Saying) 62 (List.map ProcessR.row rs_a0_1)) :: (.own s_a0_1 100 8 (encs rs_a0_1)) :: (.own s_a0_2 9 1 (encs a0.ordered)) :: (.own s_a0_3 9 1 (encs a0.way)) :: (.blk b_a0 (enc (WldR.mk a0 s_a0_1 s_a0_2 s_a0_3)) 95) :: L) (fun Fx L' v => ∃ (rs6 : List ProcessR), v = iv r.2.2 ∧ L' = (.rows (α := Saying) 62 (List.map ProcessR.row rs6)) :: (.own s_a0_1 100 8 (encs rs6)) :: (.own s_a0_2 9 1 (encs a0.ordered)) :: (.own s_a0_3 9 1 (encs a0.way)) :: (.blk b_a0 (enc (WldR.mk ({ r.2.1 with all := r.1, ordered := a0.ordered, way := a0.way } : Wld) s_a0_1 s_a0_2 s_a0_3)) 95) :: L ∧ rs6.map ProcessR.v = r.1 ∧ All ProcessR.frel w0 Fx [] rs6) := by
 unfold world_World_Fall at H
 refine Ok.enter (m := 2) (n := 19) Tryz.func36 rfl rfl rfl (by decide) ?_
 refine Cd.env (e' := [(0, pv b_a0 0), (1, iv a1)]) rfl ?_
 refine sr0 ?_
 refine Lst.r (Ev.assign rfl) ?_
 refine nt0 ?_
 refine Cd.seq ?_
 refine sr0 ?_
 refine mv0 rfl ?_
 refine mv0 rfl ?_
 obtain ⟨r6, h7, H⟩ := bind_some H
 refine Lst.call1 rfl rfl (by decide) (vs := [pv b_a0 0, iv a1]) ⟨rfl, rfl, trivial⟩ Tryz.call43 (world_World_known_sim h7 w0 _ M _ hM hm_a0_1 (All.monoProcessF ha_a0_1 fl (List.nil_sublist _))) ?_
 refine Lst.r (Ev.assign rfl) ?_
 refine nsr ?_
 refine mv0 rfl ?_
 refine Lst.r (Ev.neq rfl rfl) ?_
 refine nt0 ?_
 rcases Bool.eq_false_or_eq_true (r6 != (0 : Int)) with hb10 | hb10
 ·replace H := ite_t hb10 H
  refine Cd.condT rfl hb10 ?_
  refine sr0 ?_
  refine mv0 rfl ?_
  refine Lst.r (Ev.assign rfl) ?_
  refine nt0 ?_
  obtain rfl := some_inj H
  refine Cd.ret ?_
  refine At.then_ret ?_
  exact At.ret1 rfl (Res.tmp rfl) fl (sk1 (sk1 (sk1 (sk1 (sk1 (.refl _)))))) ⟨rs_a0_1, rfl, rfl, hm_a0_1, (All.monoProcessF ha_a0_1 fl (List.nil_sublist _))⟩
 replace H := ite_f hb10 H
 refine Cd.condF rfl hb10 ?_
 refine Cd.skip ?_
 refine At.then ?_
 refine sr0 ?_
 refine mv0 rfl ?_
 refine Lst.r (Ev.nilCheck rfl) ?_
 refine Lst.r (Ev.fieldAddr (off' := 2) rfl Tryz.runUnderlying95 rfl Tryz.sizeOf93 rfl rfl) ?_
 refine Lst.r (Ev.load (i := 4) rfl rfl Tryz.isAgg93 (v := Sl.v s_a0_1) ((WldR.get_all gh0).off (by rfl))) ?_
 refine mv0 rfl ?_
 obtain ⟨x11, h12, H⟩ := bind_some H
 have g13 := lat_some h12
 obtain ⟨⟨r14v, r14h1, ⟨r14_2v, r14_2h1⟩, ⟨r14_3v, r14_3h1⟩, ⟨r14_4v, r14_4h1⟩⟩, r14g, r14e, r14m⟩ := map_get hm_a0_1 g13.2.2
 obtain rfl : x11 = r14v := r14e.symm
 have r14q : ProcessR.frel w0 _ _ (ProcessR.mk x11 r14h1 (FromR.mk r14_2v r14_2h1) (ToR.mk r14_3v r14_3h1) (ToR.mk r14_4v r14_4h1)) := ha_a0_1 _ r14m
 obtain ⟨r14_i2, r14_i3, r14_i4⟩ := r14q
 obtain ⟨r14_2e, r14_2q⟩ := r14_i2
 obtain rfl : r14_2v = x11.from_ := r14_2e
 have r14_2_f1 : Rd w0 _ _ _ _ := r14_2q
 obtain ⟨r14_3e, r14_3q⟩ := r14_i3
 obtain rfl : r14_3v = x11.to := r14_3e
 have r14_3_f1 : Rd w0 _ _ _ _ := r14_3q
 obtain ⟨r14_4e, r14_4q⟩ := r14_i4
 obtain rfl : r14_4v = x11.orders := r14_4e
 have r14_4_f1 : Rd w0 _ _ _ _ := r14_4q
 have r14wg := map_at ProcessR.row r14g
 refine Lst.r (Ev.indexS (α := ProcessR) (xs := rs_a0_1) rfl rfl Tryz.runUnderlying93 Tryz.sizeOf100 rfl (by decide) (rdo 1 rfl rfl rfl) g13.1 (by have := map_len hm_a0_1; omega)) ?_
 refine Lst.r (Ev.fieldS (α := ProcessR) (f' := a1.toNat * 8 + 0) rfl (rdo 1 rfl rfl rfl) ((Get.elemN (s := 8) rfl r14g gh0).off (by omega)) rfl Tryz.runUnderlying100 rfl Tryz.sizeOf4 rfl rfl rfl) ?_
 obtain ⟨p15, h16, H⟩ := Let_some H
 have hm17 : (rs_a0_1.set a1.toNat (ProcessR.mk ({ x11 with fallen := true } : Procs) r14h1 (FromR.mk x11.from_ r14_2h1) (ToR.mk x11.to r14_3h1) (ToR.mk x11.orders r14_4h1))).map ProcessR.v = p15 := (map_set hm_a0_1 _ _).trans h16
 have ha18 : All ProcessR.frel w0 F [] (rs_a0_1.set a1.toNat (ProcessR.mk ({ x11 with fallen := true } : Procs) r14h1 (FromR.mk x11.from_ r14_2h1) (ToR.mk x11.to r14_3h1) (ToR.mk x11.orders r14_4h1))) := All.set (All.monoProcessF ha_a0_1 fl (List.nil_sublist _)) (⟨⟨rfl, (r14_2_f1.mono fl (List.nil_sublist _))⟩, ⟨rfl, (r14_3_f1.mono fl (List.nil_sublist _))⟩, ⟨rfl, (r14_4_f1.mono fl (List.nil_sublist _))⟩⟩)
 refine Lst.storeS (i := 1) rfl rfl rfl rfl rfl Tryz.sizeOf4 (vs := [.bool true]) rfl rfl (by decide) rfl (xs' := encs (rs_a0_1.set a1.toNat (ProcessR.mk ({ x11 with fallen := true } : Procs) r14h1 (FromR.mk x11.from_ r14_2h1) (ToR.mk x11.to r14_3h1) (ToR.mk x11.orders r14_4h1)))) ((Put.elemN (s := 8) (x := (ProcessR.mk x11 r14h1 (FromR.mk x11.from_ r14_2h1) (ToR.mk x11.to r14_3h1) (ToR.mk x11.orders r14_4h1))) (y := (ProcessR.mk ({ x11 with fallen := true } : Procs) r14h1 (FromR.mk x11.from_ r14_2h1) (ToR.mk x11.to r14_3h1) (ToR.mk x11.orders r14_4h1))) rfl r14g (ProcessR.put_fallen (p := (ProcessR.mk x11 r14h1 (FromR.mk x11.from_ r14_2h1) (ToR.mk x11.to r14_3h1) (ToR.mk x11.orders r14_4h1))) (Put.here (vs := [.bool true]) rfl))).off (by omega)) (L' := (.rows (α := Saying) 62 (List.map ProcessR.row rs_a0_1)) :: (.own s_a0_1 100 8 (encs (rs_a0_1.set a1.toNat (ProcessR.mk ({ x11 with fallen := true } : Procs) r14h1 (FromR.mk x11.from_ r14_2h1) (ToR.mk x11.to r14_3h1) (ToR.mk x11.orders r14_4h1))))) :: (.own s_a0_2 9 1 (encs a0.ordered)) :: (.own s_a0_3 9 1 (encs a0.way)) :: (.blk b_a0 (enc (WldR.mk ({ a0 with all := p15 } : Wld) s_a0_1 s_a0_2 s_a0_3)) 95) :: L) rfl ?_
 refine Lst.its (L' := (.rows (α := Saying) 62 (List.map ProcessR.row (rs_a0_1.set a1.toNat (ProcessR.mk ({ x11 with fallen := true } : Procs) r14h1 (FromR.mk x11.from_ r14_2h1) (ToR.mk x11.to r14_3h1) (ToR.mk x11.orders r14_4h1))))) :: (.own s_a0_1 100 8 (encs (rs_a0_1.set a1.toNat (ProcessR.mk ({ x11 with fallen := true } : Procs) r14h1 (FromR.mk x11.from_ r14_2h1) (ToR.mk x11.to r14_3h1) (ToR.mk x11.orders r14_4h1))))) :: (.own s_a0_2 9 1 (encs a0.ordered)) :: (.own s_a0_3 9 1 (encs a0.way)) :: (.blk b_a0 (enc (WldR.mk ({ a0 with all := p15 } : Wld) s_a0_1 s_a0_2 s_a0_3)) 95) :: L) (by rw [map_set_same (y := (ProcessR.mk ({ x11 with fallen := true } : Procs) r14h1 (FromR.mk x11.from_ r14_2h1) (ToR.mk x11.to r14_3h1) (ToR.mk x11.orders r14_4h1))) r14g rfl]) ?_
 refine nt0 ?_
 refine Cd.seq ?_
 refine Cd.as (e' := []) (L' := (.rows (α := Saying) 62 (List.map ProcessR.row (rs_a0_1.set a1.toNat (ProcessR.mk ({ x11 with fallen := true } : Procs) r14h1 (FromR.mk x11.from_ r14_2h1) (ToR.mk x11.to r14_3h1) (ToR.mk x11.orders r14_4h1))))) :: (.own s_a0_1 100 8 (encs (rs_a0_1.set a1.toNat (ProcessR.mk ({ x11 with fallen := true } : Procs) r14h1 (FromR.mk x11.from_ r14_2h1) (ToR.mk x11.to r14_3h1) (ToR.mk x11.orders r14_4h1))))) :: (.own s_a0_2 9 1 (encs a0.ordered)) :: (.own s_a0_3 9 1 (encs a0.way)) :: (.blk b_a0 (enc (WldR.mk ({ a0 with all := p15 } : Wld) s_a0_1 s_a0_2 s_a0_3)) 95) :: L) trivial rfl ?_
 refine Cd.region ?_
 refine Lst.r (Ev.assign rfl) ?_
 refine nt0 ?_
 obtain rfl := some_inj H
 refine Cd.ret ?_
 exact At.ret1 rfl (Res.tmp rfl) fl (sk1 (sk1 (sk1 (sk1 (sk1 (.refl _)))))) ⟨(rs_a0_1.set a1.toNat (ProcessR.mk ({ x11 with fallen := true } : Procs) r14h1 (FromR.mk x11.from_ r14_2h1) (ToR.mk x11.to r14_3h1) (ToR.mk x11.orders r14_4h1))), rfl, rfl, hm17, (All.monoProcessF ha18 fl (List.nil_sublist _))⟩
set_option maxRecDepth 20000 in
theorem math_bits_OnesCount8_sim {a0 : BitVec 8} {r : Int} (H : math_bits_OnesCount8 a0 = some r) (w0 : World) (F : Frz) (M L : List Item) (hM : M.Sublist L) : Ok Tryz.prog w0 182 [.int .u8 a0.toNat] F (L) (Is (iv r) (L)) := by
 unfold math_bits_OnesCount8 at H
 refine Ok.enter (m := 1) (n := 6) Tryz.func182 rfl rfl rfl (by decide) ?_
 refine Cd.env (e' := [(0, .int .u8 a0.toNat)]) rfl ?_
 refine sr0 ?_
 refine Lst.r (Ev.assign rfl) ?_
 refine nsr ?_
 refine mv0 rfl ?_
 obtain ⟨x1, h2, H⟩ := bind_some H
 refine Lst.r (Ev.indexStr rfl rfl Tryz.runUnderlying9 h2) ?_
 refine Lst.r (Ev.convIS (j := (x1.toBitVec.toNat : Int)) rfl Tryz.runUnderlying5 Tryz.runUnderlying3 (w64_id (by omega) (by omega))) ?_
 refine Lst.r (Ev.assign rfl) ?_
 refine nt0 ?_
 obtain rfl := some_inj H
 refine Cd.ret ?_
 exact At.ret1 rfl (Res.tmp rfl) fl (.refl _) ⟨rfl, rfl⟩
set_option maxRecDepth 20000 in
theorem view_half_sim {a0 : BitVec 8} {a1 : BitVec 8} {r : Bool} (H : view_half a0 a1 = some r) (w0 : World) (F : Frz) (M L : List Item) (hM : M.Sublist L) : Ok Tryz.prog w0 127 [.int .u8 a0.toNat, .int .u8 a1.toNat] F (L) (Is (.bool r) (L)) := by
 unfold view_half at H
 refine Ok.enter (m := 2) (n := 13) Tryz.func127 rfl rfl rfl (by decide) ?_
 refine Cd.env (e' := [(0, .int .u8 a0.toNat), (1, .int .u8 a1.toNat)]) rfl ?_
 refine sr0 ?_
 refine Lst.r (Ev.assign rfl) ?_
 refine nsr ?_
 refine mv0 rfl ?_
 refine mv0 rfl ?_
 refine Lst.r (Ev.andU8 (i := a0) (j := a1) rfl rfl) ?_
 obtain ⟨r1, h2, H⟩ := bind_some H
 refine Lst.call1 rfl rfl (by decide) (vs := [.int .u8 (a0 &&& a1).toNat]) ⟨rfl, trivial⟩ Tryz.call182 (math_bits_OnesCount8_sim h2 w0 _ M _ hM) ?_
 refine Lst.r (Ev.mul rfl rfl) ?_
 refine mv0 rfl ?_
 obtain ⟨r5, h6, H⟩ := bind_some H
 refine Lst.call1 rfl rfl (by decide) (vs := [.int .u8 a1.toNat]) ⟨rfl, trivial⟩ Tryz.call182 (math_bits_OnesCount8_sim h6 w0 _ M _ hM) ?_
 refine Lst.r (Ev.gtr rfl rfl) ?_
 refine Lst.r (Ev.assign rfl) ?_
 refine nt0 ?_
 obtain rfl := some_inj H
 refine Cd.ret ?_
 exact At.ret1 rfl (Res.tmp rfl) fl (.refl _) ⟨rfl, rfl⟩
set_option maxRecDepth 20000 in
theorem view_Next_sim {a0 : View} {a1 : BitVec 8} {a2 : BitVec 8} {r : View × Int} (H : view_Next a0 a1 a2 = some r) (w0 : World) (F : Frz) (M L : List Item) (hM : M.Sublist L) : Ok Tryz.prog w0 70 [.agg (enc a0).toArray, .int .u8 a1.toNat, .int .u8 a2.toNat] F (L) (Is (.tuple #[.agg (enc r.1).toArray, iv r.2]) (L)) := by
 unfold view_Next at H
 refine Ok.enter (m := 3) (n := 52) Tryz.func70 rfl rfl rfl (by decide) ?_
 refine Cd.env (e' := [(0, .agg (enc a0).toArray), (1, .int .u8 a1.toNat), (2, .int .u8 a2.toNat)]) rfl ?_
 refine sr0 ?_
 refine Lst.box rfl rfl (by decide) rfl (cs := enc a0) rfl (fun b1 => ?_)
 refine Lst.alloc (cs := enc View.zero) rfl rfl (by decide) Tryz.zeroValue34 rfl (fun b3 => ?_)
 refine Lst.r (Ev.assign rfl) ?_
 refine nt0 ?_
 refine Cd.seq ?_
 refine sr0 ?_
 refine Lst.r (Ev.loadA (i := 1) rfl rfl Tryz.isAgg34 Tryz.sizeOf34 (ch := enc a0) (Enc.len _) gh0) ?_
 obtain ⟨r5, h6, H⟩ := bind_some H
 refine Lst.call1 rfl rfl (by decide) (vs := [.agg (enc a0).toArray]) ⟨rfl, trivial⟩ Tryz.call125 (view_Check_sim h6 w0 _ M _ (sc2 hM)) ?_
 refine Lst.r (Ev.assign rfl) ?_
 refine nsr ?_
 refine mv0 rfl ?_
 refine Lst.r (Ev.neq rfl rfl) ?_
 refine nt0 ?_
 rcases Bool.eq_false_or_eq_true (r5 != (0 : Int)) with hb9 | hb9
 ·replace H := ite_t hb9 H
  refine Cd.condT rfl hb9 ?_
  refine sr0 ?_
  refine Lst.r (Ev.build (v := .agg (enc View.zero).toArray) (pv := []) trivial (fun w => by kernel_rfl)) ?_
  refine mv0 rfl ?_
  refine Lst.store (i := 0) rfl rfl rfl rfl rfl Tryz.sizeOf34 (vs := enc View.zero) rfl (Enc.len _) (Enc.one _) (cs' := enc View.zero) (Put.here ((Enc.len _).trans (Enc.len _).symm)) (L' := (.blk b3 (enc View.zero) 34) :: (.blk b1 (enc a0) 34) :: L) rfl ?_
  refine Lst.r (Ev.assign rfl) ?_
  refine nt0 ?_
  obtain rfl := some_inj H
  refine Cd.ret ?_
  refine At.then_ret ?_
  exact At.ret2 rfl (Res.cellA (i := 0) rfl rfl Tryz.isAgg34 Tryz.sizeOf34 (Enc.len _)) (Res.tmp rfl) fl (sc1 (sc1 (.refl _))) ⟨rfl, rfl⟩
 replace H := ite_f hb9 H
 refine Cd.condF rfl hb9 ?_
 refine Cd.skip ?_
 refine At.then ?_
 refine Cd.seq ?_
 refine Cd.block ?_
 refine sr0 ?_
 refine mv0 rfl ?_
 refine mv0 rfl ?_
 refine Lst.r (Ev.orU8 (i := a1) (j := a2) rfl rfl) ?_
 obtain ⟨r10, h11, H⟩ := bind_some H
 refine Lst.call1 rfl rfl (by decide) (vs := [.int .u8 (a1 ||| a2).toNat]) ⟨rfl, trivial⟩ Tryz.call126 (view_outside_sim h11 w0 _ M _ (sc2 hM)) ?_
 refine mv0 rfl ?_
 obtain ⟨o14, H, HKo14⟩ := bind_some H
 refine Lst.join (σ := Bool) 5 (fun y15 => [(1, .int .u8 a1.toNat), (2, .int .u8 a2.toNat), (3, pv b1 0), (6, pv b3 0), (25, .bool y15)]) (fun y15 => (.blk b3 (enc View.zero) 34) :: (.blk b1 (enc a0) 34) :: L) (fun _ y15 => y15 = o14) ?_ ?_
 ·rcases Bool.eq_false_or_eq_true r10 with hb16 | hb16
  ·replace H := ite_t hb16 H
   refine Lst.skip rfl rfl rfl hb16 rfl (by decide) ?_
   refine Lst.skip rfl rfl rfl hb16 rfl (by decide) ?_
   refine Lst.skip rfl rfl rfl hb16 rfl (by decide) ?_
   refine Lst.skip rfl rfl rfl hb16 rfl (by decide) ?_
   refine Lst.r (Ev.pickT rfl hb16 rfl) ?_
   refine Lst.nil ?_
   exact At.meet true fl ⟨rfl, rfl, rfl, rfl, rfl, trivial⟩ rfl (some_inj H)
  replace H := ite_f hb16 H
  refine Lst.rG hb16 (Ev.move rfl) ?_
  refine Lst.rG hb16 (Ev.move rfl) ?_
  refine Lst.rG hb16 (Ev.andU8 (i := a1) (j := a2) rfl rfl) ?_
  refine Lst.rG hb16 (Ev.neq rfl rfl) ?_
  refine Lst.r (Ev.pickF rfl hb16 rfl) ?_
  refine Lst.nil ?_
  exact At.meet (((a1 &&& a2).toNat : Int) != ((0 : BitVec 8).toNat : Int)) fl ⟨rfl, rfl, rfl, rfl, rfl, trivial⟩ rfl (some_inj H)
 rintro F17 y15 hF18 hy
 subst hy
 refine Lst.as (e' := [(1, .int .u8 a1.toNat), (2, .int .u8 a2.toNat), (3, pv b1 0), (6, pv b3 0), (25, .bool y15)]) (L' := (.blk b3 (enc View.zero) 34) :: (.blk b1 (enc a0) 34) :: L) ⟨rfl, rfl, rfl, rfl, rfl, trivial⟩ rfl ?_
 replace H := HKo14
 refine Lst.r (Ev.assign rfl) ?_
 refine nt0 ?_
 rcases Bool.eq_false_or_eq_true y15 with hb19 | hb19
 ·replace H := ite_t hb19 H
  refine Cd.condT rfl hb19 ?_
  refine sr0 ?_
  refine Lst.r (Ev.build (v := .agg (enc View.zero).toArray) (pv := []) trivial (fun w => by kernel_rfl)) ?_
  refine Lst.store (i := 0) rfl rfl rfl rfl rfl Tryz.sizeOf34 (vs := enc View.zero) rfl (Enc.len _) (Enc.one _) (cs' := enc View.zero) (Put.here ((Enc.len _).trans (Enc.len _).symm)) (L' := (.blk b3 (enc View.zero) 34) :: (.blk b1 (enc a0) 34) :: L) rfl ?_
  refine Lst.r (Ev.assign rfl) ?_
  refine nt0 ?_
  obtain rfl := some_inj H
  refine Cd.ret ?_
  refine At.in_ret ?_
  refine At.then_ret ?_
  exact At.ret2 rfl (Res.cellA (i := 0) rfl rfl Tryz.isAgg34 Tryz.sizeOf34 (Enc.len _)) (Res.tmp rfl) hF18 (sc1 (sc1 (.refl _))) ⟨rfl, rfl⟩
 replace H := ite_f hb19 H
 refine Cd.condF rfl hb19 ?_
 refine sr0 ?_
 refine Lst.r (Ev.fieldAddr (off' := 0) rfl Tryz.runUnderlying34 rfl Tryz.sizeOf3 rfl rfl) ?_
 refine Lst.r (Ev.load (i := 1) rfl rfl Tryz.isAgg3 (v := iv a0.Num) ((View.get_Num gh0).off (by rfl))) ?_
 refine Lst.r (Ev.eql rfl rfl) ?_
 refine Lst.r (Ev.assign rfl) ?_
 refine nt0 ?_
 rcases Bool.eq_false_or_eq_true (a0.Num == (16777215 : Int)) with hb20 | hb20
 ·replace H := ite_t hb20 H
  refine Cd.condT rfl hb20 ?_
  refine sr0 ?_
  refine Lst.r (Ev.build (v := .agg (enc View.zero).toArray) (pv := []) trivial (fun w => by kernel_rfl)) ?_
  refine Lst.store (i := 0) rfl rfl rfl rfl rfl Tryz.sizeOf34 (vs := enc View.zero) rfl (Enc.len _) (Enc.one _) (cs' := enc View.zero) (Put.here ((Enc.len _).trans (Enc.len _).symm)) (L' := (.blk b3 (enc View.zero) 34) :: (.blk b1 (enc a0) 34) :: L) rfl ?_
  refine Lst.r (Ev.assign rfl) ?_
  refine nt0 ?_
  obtain rfl := some_inj H
  refine Cd.ret ?_
  refine At.in_ret ?_
  refine At.then_ret ?_
  exact At.ret2 rfl (Res.cellA (i := 0) rfl rfl Tryz.isAgg34 Tryz.sizeOf34 (Enc.len _)) (Res.tmp rfl) hF18 (sc1 (sc1 (.refl _))) ⟨rfl, rfl⟩
 replace H := ite_f hb20 H
 refine Cd.condF rfl hb20 ?_
 refine sr0 ?_
 refine Lst.r (Ev.fieldAddr (off' := 1) rfl Tryz.runUnderlying34 rfl Tryz.sizeOf5 rfl rfl) ?_
 refine Lst.r (Ev.load (i := 1) rfl rfl Tryz.isAgg5 (v := .int .u8 a0.Members.toNat) ((View.get_Members gh0).off (by rfl))) ?_
 refine mv0 rfl ?_
 refine Lst.r (Ev.andNotU8 (i := a0.Members) (j := a1) rfl rfl) ?_
 refine Lst.r (Ev.fieldAddr (off' := 1) rfl Tryz.runUnderlying34 rfl Tryz.sizeOf5 rfl rfl) ?_
 refine Lst.r (Ev.load (i := 1) rfl rfl Tryz.isAgg5 (v := .int .u8 a0.Members.toNat) ((View.get_Members gh0).off (by rfl))) ?_
 obtain ⟨r21, h22, H⟩ := bind_some H
 refine Lst.call1 rfl rfl (by decide) (vs := [.int .u8 (a0.Members &&& ~~~a1).toNat, .int .u8 a0.Members.toNat]) ⟨rfl, rfl, trivial⟩ Tryz.call127 (view_half_sim h22 w0 _ M _ (sc2 hM)) ?_
 refine Lst.r (Ev.not rfl) ?_
 refine Lst.r (Ev.assign rfl) ?_
 refine nt0 ?_
 rcases Bool.eq_false_or_eq_true (!r21) with hb25 | hb25
 ·replace H := ite_t hb25 H
  refine Cd.condT rfl hb25 ?_
  refine Cd.seq ?_
  refine Cd.as (e' := [(6, pv b3 0)]) (L' := (.blk b3 (enc View.zero) 34) :: (.blk b1 (enc a0) 34) :: L) ⟨rfl, trivial⟩ rfl ?_
  refine Cd.region ?_
  refine Lst.r (Ev.build (v := .agg (enc View.zero).toArray) (pv := []) trivial (fun w => by kernel_rfl)) ?_
  refine Lst.store (i := 0) rfl rfl rfl rfl rfl Tryz.sizeOf34 (vs := enc View.zero) rfl (Enc.len _) (Enc.one _) (cs' := enc View.zero) (Put.here ((Enc.len _).trans (Enc.len _).symm)) (L' := (.blk b3 (enc View.zero) 34) :: (.blk b1 (enc a0) 34) :: L) rfl ?_
  refine Lst.r (Ev.assign rfl) ?_
  refine nt0 ?_
  obtain rfl := some_inj H
  refine Cd.ret ?_
  refine At.in_ret ?_
  refine At.then_ret ?_
  exact At.ret2 rfl (Res.cellA (i := 0) rfl rfl Tryz.isAgg34 Tryz.sizeOf34 (Enc.len _)) (Res.tmp rfl) hF18 (sc1 (sc1 (.refl _))) ⟨rfl, rfl⟩
 replace H := ite_f hb25 H
 refine Cd.condF rfl hb25 ?_
 refine Cd.skip ?_
 refine At.in_normal ?_
 refine At.then ?_
 refine Cd.seq ?_
 refine Cd.as (e' := [(1, .int .u8 a1.toNat), (2, .int .u8 a2.toNat), (3, pv b1 0), (6, pv b3 0)]) (L' := (.blk b3 (enc View.zero) 34) :: (.blk b1 (enc a0) 34) :: L) ⟨rfl, rfl, rfl, rfl, trivial⟩ rfl ?_
 refine Cd.region ?_
 refine Lst.r (Ev.fieldAddr (off' := 0) rfl Tryz.runUnderlying34 rfl Tryz.sizeOf3 rfl rfl) ?_
 refine Lst.r (Ev.load (i := 1) rfl rfl Tryz.isAgg3 (v := iv a0.Num) ((View.get_Num gh0).off (by rfl))) ?_
 refine Lst.r (Ev.add rfl rfl) ?_
 refine Lst.r (Ev.fieldAddr (off' := 1) rfl Tryz.runUnderlying34 rfl Tryz.sizeOf5 rfl rfl) ?_
 refine Lst.r (Ev.load (i := 1) rfl rfl Tryz.isAgg5 (v := .int .u8 a0.Members.toNat) ((View.get_Members gh0).off (by rfl))) ?_
 refine mv0 rfl ?_
 refine Lst.r (Ev.andNotU8 (i := a0.Members) (j := a1) rfl rfl) ?_
 refine mv0 rfl ?_
 refine Lst.r (Ev.orU8 (i := a0.Members &&& ~~~a1) (j := a2) rfl rfl) ?_
 refine Lst.r (Ev.build (v := .agg (enc ({ View.zero with Num := w64 (a0.Num + (1 : Int)), Members := (a0.Members &&& ~~~a1) ||| a2 } : View)).toArray) (pv := [(0, iv (w64 (a0.Num + (1 : Int)))), (1, .int .u8 ((a0.Members &&& ~~~a1) ||| a2).toNat)]) ⟨rfl, rfl, ⟨rfl, rfl, trivial⟩⟩ (fun w => by kernel_rfl)) ?_
 refine Lst.store (i := 0) rfl rfl rfl rfl rfl Tryz.sizeOf34 (vs := enc ({ View.zero with Num := w64 (a0.Num + (1 : Int)), Members := (a0.Members &&& ~~~a1) ||| a2 } : View)) rfl (Enc.len _) (Enc.one _) (cs' := enc ({ View.zero with Num := w64 (a0.Num + (1 : Int)), Members := (a0.Members &&& ~~~a1) ||| a2 } : View)) (Put.here ((Enc.len _).trans (Enc.len _).symm)) (L' := (.blk b3 (enc ({ View.zero with Num := w64 (a0.Num + (1 : Int)), Members := (a0.Members &&& ~~~a1) ||| a2 } : View)) 34) :: (.blk b1 (enc a0) 34) :: L) rfl ?_
 refine Lst.r (Ev.assign rfl) ?_
 refine nt0 ?_
 obtain rfl := some_inj H
 refine Cd.ret ?_
 exact At.ret2 rfl (Res.cellA (i := 0) rfl rfl Tryz.isAgg34 Tryz.sizeOf34 (Enc.len _)) (Res.tmp rfl) hF18 (sc1 (sc1 (.refl _))) ⟨rfl, rfl⟩
set_option maxHeartbeats 2000000 in
set_option maxRecDepth 20000 in
theorem world_World_Change_sim {a0 : Wld} {b_a0 : Nat} {s_a0_1 : Sl} {rs_a0_1 : List ProcessR} {s_a0_2 : Sl} {s_a0_3 : Sl} {r : (List Procs) × Wld × Int} (H : world_World_Change a0 = some r) (w0 : World) (F : Frz) (M L : List Item) (hM : M.Sublist L) (hm_a0_1 : rs_a0_1.map ProcessR.v = a0.all) (ha_a0_1 : All ProcessR.frel w0 F [] rs_a0_1) : Ok Tryz.prog w0 37 [pv b_a0 0] F ((.rows (α := Saying) 62 (List.map ProcessR.row rs_a0_1)) :: (.own s_a0_1 100 8 (encs rs_a0_1)) :: (.own s_a0_2 9 1 (encs a0.ordered)) :: (.own s_a0_3 9 1 (encs a0.way)) :: (.blk b_a0 (enc (WldR.mk a0 s_a0_1 s_a0_2 s_a0_3)) 95) :: L) (fun Fx L' v => ∃ (rs6 : List ProcessR) (s9 : Sl), v = iv r.2.2 ∧ L' = (.own s9 9 1 (encs r.2.1.ordered)) :: (.rows (α := Saying) 62 (List.map ProcessR.row rs6)) :: (.own s_a0_1 100 8 (encs rs6)) :: (.own s_a0_3 9 1 (encs a0.way)) :: (.blk b_a0 (enc (WldR.mk ({ r.2.1 with all := r.1, way := a0.way } : Wld) s_a0_1 s9 s_a0_3)) 95) :: L ∧ rs6.map ProcessR.v = r.1 ∧ All ProcessR.frel w0 Fx [] rs6) := by
 unfold world_World_Change at H
 refine Ok.enter (m := 1) (n := 139) Tryz.func37 rfl rfl rfl (by decide) ?_
 refine Cd.env (e' := [(0, pv b_a0 0)]) rfl ?_
 refine sr0 ?_
 refine Lst.r (Ev.assign rfl) ?_
 refine nsr ?_
 refine Lst.r (Ev.assign rfl) ?_
 refine nsr ?_
 have hw7 : Among (List.map ProcessR.row rs_a0_1) (List.replicate 0 (⟨[], Sl.nil⟩ : LR Saying)) Sl.nil ([] : List Saying) := Among.nil
 refine Lst.rowsNil Saying 62 0 ?_
 refine Lst.its (L' := (.rows (α := Saying) 62 (List.replicate 0 (⟨[], Sl.nil⟩ : LR Saying))) :: (.rows (α := Saying) 62 (List.map ProcessR.row rs_a0_1)) :: (.own s_a0_1 100 8 (encs rs_a0_1)) :: (.own s_a0_2 9 1 (encs a0.ordered)) :: (.own s_a0_3 9 1 (encs a0.way)) :: (.blk b_a0 (enc (WldR.mk a0 s_a0_1 s_a0_2 s_a0_3)) 95) :: L) rfl ?_
 refine Lst.r (Ev.assign rfl) ?_
 refine nt0 ?_
 refine Cd.seq ?_
 refine sr0 ?_
 refine mv0 rfl ?_
 refine Lst.r (Ev.nilCheck rfl) ?_
 refine Lst.r (Ev.fieldAddr (off' := 2) rfl Tryz.runUnderlying95 rfl Tryz.sizeOf93 rfl rfl) ?_
 refine Lst.r (Ev.load (i := 5) rfl rfl Tryz.isAgg93 (v := Sl.v s_a0_1) ((WldR.get_all gh0).off (by rfl))) ?_
 refine Lst.r (Ev.lenM (map_len hm_a0_1) (Ev.lenS (α := ProcessR) (xs := rs_a0_1) (by decide) rfl rfl Tryz.runUnderlying93 (rdo 2 rfl rfl rfl))) ?_
 refine mv0 rfl ?_
 refine nt0 ?_
 refine Cd.block ?_
 refine Cd.bound (Rd.le (α := ProcessR) (xs := rs_a0_1) (by decide) (rdo 2 rfl rfl rfl)) (fun hN166 => ?_)
 rw [map_len hm_a0_1] at hN166
 obtain ⟨ol9, H, HKl9⟩ := bind_some H
 refine Cd.loop (σ := Nat × Nat × (BitVec 8) × Sl × (List Saying)) (fun (i9, k9, y10, s11, l12) => [(0, pv b_a0 0), (3, .int .u8 y10.toNat), (4, Sl.v s11), (18, iv (a0.all.length : Int)), (19, iv (i9 : Int))]) (fun (i9, k9, y10, s11, l12) => (.rows (α := Saying) 62 (List.replicate 0 (⟨[], Sl.nil⟩ : LR Saying))) :: (.rows (α := Saying) 62 (List.map ProcessR.row rs_a0_1)) :: (.own s_a0_1 100 8 (encs rs_a0_1)) :: (.own s_a0_2 9 1 (encs a0.ordered)) :: (.own s_a0_3 9 1 (encs a0.way)) :: (.blk b_a0 (enc (WldR.mk a0 s_a0_1 s_a0_2 s_a0_3)) 95) :: L) (fun Fx => (fun (i9, k9, y10, s11, l12) => rangeF (world_World_Change_B0 a0) k9 i9 (y10, l12) = some ol9 ∧ i9 + k9 = a0.all.length ∧ Among (List.map ProcessR.row rs_a0_1) (List.replicate 0 (⟨[], Sl.nil⟩ : LR Saying)) s11 l12)) (fun (i9, k9, y10, s11, l12) => k9) (0, a0.all.length, (0 : BitVec 8), Sl.nil, ([] : List Saying)) ⟨rfl, rfl, rfl, rfl, rfl, trivial⟩ rfl ⟨H, by omega, hw7⟩ ?_
 rintro F14 ⟨i9, k9, y10, s11, l12⟩ hF15 ⟨H, hik9, hw13⟩
 refine Cd.as (e' := [(0, pv b_a0 0), (3, .int .u8 y10.toNat), (4, Sl.v s11), (18, iv (a0.all.length : Int)), (19, iv (i9 : Int))]) (L' := (.rows (α := Saying) 62 (List.replicate 0 (⟨[], Sl.nil⟩ : LR Saying))) :: (.rows (α := Saying) 62 (List.map ProcessR.row rs_a0_1)) :: (.own s_a0_1 100 8 (encs rs_a0_1)) :: (.own s_a0_2 9 1 (encs a0.ordered)) :: (.own s_a0_3 9 1 (encs a0.way)) :: (.blk b_a0 (enc (WldR.mk a0 s_a0_1 s_a0_2 s_a0_3)) 95) :: L) ⟨rfl, rfl, rfl, rfl, rfl, trivial⟩ rfl ?_
 rcases k9 with _ | k9
 ·have hc9 : decide ((i9 : Int) < (a0.all.length : Int)) = false := decide_eq_false (by omega)
  replace H := rangeF_end H
  refine sr0 ?_
  refine Lst.r (Ev.lss rfl rfl) ?_
  refine nt0 ?_
  refine Cd.seq ?_
  refine Cd.condF rfl hc9 ?_
  refine Cd.exit ?_
  refine At.then_exit ?_
  refine At.then_exit ?_
  refine At.in_exit ?_
  subst H
  replace H := HKl9
  try dsimp only [Sum.elim_inl] at H
  refine At.then ?_
  refine sr0 ?_
  refine mv0 rfl ?_
  refine Lst.r (Ev.nilCheck rfl) ?_
  refine Lst.r (Ev.fieldAddr (off' := 0) rfl Tryz.runUnderlying95 rfl Tryz.sizeOf34 rfl rfl) ?_
  refine Lst.r (Ev.loadA (i := 5) rfl rfl Tryz.isAgg34 Tryz.sizeOf34 (ch := enc a0.view) (Enc.len _) ((WldR.get_view gh0).off (by rfl))) ?_
  refine mv0 rfl ?_
  obtain ⟨r29, h30, H⟩ := bind_some H
  refine Lst.call1 rfl rfl (by decide) (vs := [.agg (enc a0.view).toArray, .int .u8 y10.toNat, .int .u8 (0 : BitVec 8).toNat]) ⟨rfl, rfl, rfl, trivial⟩ Tryz.call70 (view_Next_sim h30 w0 _ M _ (sc4 (sc2 hM))) ?_
  refine mv0 rfl ?_
  refine Lst.r (Ev.extract rfl rfl) ?_
  refine Lst.r (Ev.extract rfl rfl) ?_
  refine Lst.alloc (cs := enc View.zero) rfl rfl (by decide) Tryz.zeroValue34 rfl (fun b33 => ?_)
  refine Lst.store (i := 0) rfl rfl rfl rfl rfl Tryz.sizeOf34 (vs := enc r29.1) rfl (Enc.len _) (Enc.one _) (cs' := enc r29.1) (Put.here ((Enc.len _).trans (Enc.len _).symm)) (L' := (.blk b33 (enc r29.1) 34) :: (.rows (α := Saying) 62 (List.replicate 0 (⟨[], Sl.nil⟩ : LR Saying))) :: (.rows (α := Saying) 62 (List.map ProcessR.row rs_a0_1)) :: (.own s_a0_1 100 8 (encs rs_a0_1)) :: (.own s_a0_2 9 1 (encs a0.ordered)) :: (.own s_a0_3 9 1 (encs a0.way)) :: (.blk b_a0 (enc (WldR.mk a0 s_a0_1 s_a0_2 s_a0_3)) 95) :: L) rfl ?_
  refine Lst.r (Ev.assign rfl) ?_
  refine nt0 ?_
  refine Cd.seq ?_
  refine sr0 ?_
  refine mv0 rfl ?_
  refine Lst.r (Ev.neq rfl rfl) ?_
  refine nt0 ?_
  rcases Bool.eq_false_or_eq_true (r29.2 != (0 : Int)) with hb35 | hb35
  ·replace H := ite_t hb35 H
   refine Cd.condT rfl hb35 ?_
   refine Cd.seq ?_
   refine Cd.as (e' := [(8, iv r29.2)]) (L' := (.blk b33 (enc r29.1) 34) :: (.rows (α := Saying) 62 (List.replicate 0 (⟨[], Sl.nil⟩ : LR Saying))) :: (.rows (α := Saying) 62 (List.map ProcessR.row rs_a0_1)) :: (.own s_a0_1 100 8 (encs rs_a0_1)) :: (.own s_a0_2 9 1 (encs a0.ordered)) :: (.own s_a0_3 9 1 (encs a0.way)) :: (.blk b_a0 (enc (WldR.mk a0 s_a0_1 s_a0_2 s_a0_3)) 95) :: L) ⟨rfl, trivial⟩ rfl ?_
   refine Cd.region ?_
   refine mv0 rfl ?_
   refine Lst.r (Ev.assign rfl) ?_
   refine nt0 ?_
   obtain rfl := some_inj H
   refine Cd.ret ?_
   refine At.then_ret ?_
   refine At.front (i := 4) rfl (L' := (.own s_a0_2 9 1 (encs a0.ordered)) :: (.blk b33 (enc r29.1) 34) :: (.rows (α := Saying) 62 (List.replicate 0 (⟨[], Sl.nil⟩ : LR Saying))) :: (.rows (α := Saying) 62 (List.map ProcessR.row rs_a0_1)) :: (.own s_a0_1 100 8 (encs rs_a0_1)) :: (.own s_a0_3 9 1 (encs a0.way)) :: (.blk b_a0 (enc (WldR.mk a0 s_a0_1 s_a0_2 s_a0_3)) 95) :: L) rfl ?_
   exact At.ret1 rfl (Res.tmp rfl) hF15 (sk1 (sc1 (sc1 (sk1 (sk1 (sk1 (sk1 (.refl _)))))))) ⟨rs_a0_1, s_a0_2, rfl, rfl, hm_a0_1, (All.monoProcessF ha_a0_1 hF15 (List.nil_sublist _))⟩
  replace H := ite_f hb35 H
  refine Cd.condF rfl hb35 ?_
  refine Cd.skip ?_
  refine At.then ?_
  refine Cd.seq ?_
  refine Cd.seq ?_
  refine Cd.as (e' := [(0, pv b_a0 0), (4, Sl.v s11), (7, pv b33 0)]) (L' := (.blk b33 (enc r29.1) 34) :: (.rows (α := Saying) 62 (List.replicate 0 (⟨[], Sl.nil⟩ : LR Saying))) :: (.rows (α := Saying) 62 (List.map ProcessR.row rs_a0_1)) :: (.own s_a0_1 100 8 (encs rs_a0_1)) :: (.own s_a0_2 9 1 (encs a0.ordered)) :: (.own s_a0_3 9 1 (encs a0.way)) :: (.blk b_a0 (enc (WldR.mk a0 s_a0_1 s_a0_2 s_a0_3)) 95) :: L) ⟨rfl, rfl, rfl, trivial⟩ rfl ?_
  refine Cd.region ?_
  refine mv0 rfl ?_
  refine Lst.r (Ev.nilCheck rfl) ?_
  refine Lst.r (Ev.fieldAddr (off' := 2) rfl Tryz.runUnderlying95 rfl Tryz.sizeOf93 rfl rfl) ?_
  refine Lst.r (Ev.load (i := 6) rfl rfl Tryz.isAgg93 (v := Sl.v s_a0_1) ((WldR.get_all gh0).off (by rfl))) ?_
  refine Lst.r (Ev.lenM (map_len hm_a0_1) (Ev.lenS (α := ProcessR) (xs := rs_a0_1) (by decide) rfl rfl Tryz.runUnderlying93 (rdo 3 rfl rfl rfl))) ?_
  refine mv0 rfl ?_
  refine nt0 ?_
  refine Cd.block ?_
  refine Cd.bound (Rd.le (α := ProcessR) (xs := rs_a0_1) (by decide) (rdo 3 rfl rfl rfl)) (fun hN165 => ?_)
  rw [map_len hm_a0_1] at hN165
  obtain ⟨ol37, H, HKl37⟩ := bind_some H
  refine Cd.loop (σ := Nat × Nat × Sl × (List Saying) × Wld × (List (LR Saying)) × (List Procs) × (List ProcessR)) (fun (i37, k37, s38, l39, y40, o41, l42, rs43) => [(0, pv b_a0 0), (4, Sl.v s38), (7, pv b33 0), (67, iv (a0.all.length : Int)), (68, iv (i37 : Int))]) (fun (i37, k37, s38, l39, y40, o41, l42, rs43) => (.blk b33 (enc r29.1) 34) :: (.rows (α := Saying) 62 o41) :: (.rows (α := Saying) 62 (List.map ProcessR.row rs43)) :: (.own s_a0_1 100 8 (encs rs43)) :: (.own s_a0_2 9 1 (encs a0.ordered)) :: (.own s_a0_3 9 1 (encs a0.way)) :: (.blk b_a0 (enc (WldR.mk ({ y40 with all := l42, ordered := a0.ordered, way := a0.way } : Wld) s_a0_1 s_a0_2 s_a0_3)) 95) :: L) (fun Fx => (fun (i37, k37, s38, l39, y40, o41, l42, rs43) => rangeF (world_World_Change_B3 a0) k37 i37 (l39, y40, l42) = some ol37 ∧ i37 + k37 = a0.all.length ∧ rs43.map ProcessR.v = l42 ∧ All ProcessR.frel w0 Fx [] rs43 ∧ Among (List.map ProcessR.row rs43) o41 s38 l39)) (fun (i37, k37, s38, l39, y40, o41, l42, rs43) => k37) (0, a0.all.length, s11, l12, a0, (List.replicate 0 (⟨[], Sl.nil⟩ : LR Saying)), a0.all, rs_a0_1) ⟨rfl, rfl, rfl, rfl, rfl, trivial⟩ rfl ⟨H, by omega, hm_a0_1, (All.monoProcessF ha_a0_1 hF15 (List.nil_sublist _)), hw13⟩ ?_
  rintro F47 ⟨i37, k37, s38, l39, y40, o41, l42, rs43⟩ hF48 ⟨H, hik37, fm44, fa45, hw46⟩
  refine Cd.as (e' := [(0, pv b_a0 0), (4, Sl.v s38), (7, pv b33 0), (67, iv (a0.all.length : Int)), (68, iv (i37 : Int))]) (L' := (.blk b33 (enc r29.1) 34) :: (.rows (α := Saying) 62 o41) :: (.rows (α := Saying) 62 (List.map ProcessR.row rs43)) :: (.own s_a0_1 100 8 (encs rs43)) :: (.own s_a0_2 9 1 (encs a0.ordered)) :: (.own s_a0_3 9 1 (encs a0.way)) :: (.blk b_a0 (enc (WldR.mk ({ y40 with all := l42, ordered := a0.ordered, way := a0.way } : Wld) s_a0_1 s_a0_2 s_a0_3)) 95) :: L) ⟨rfl, rfl, rfl, rfl, rfl, trivial⟩ rfl ?_
  rcases k37 with _ | k37
  ·have hc37 : decide ((i37 : Int) < (a0.all.length : Int)) = false := decide_eq_false (by omega)
   replace H := rangeF_end H
   refine sr0 ?_
   refine Lst.r (Ev.lss rfl rfl) ?_
   refine nt0 ?_
   refine Cd.seq ?_
   refine Cd.condF rfl hc37 ?_
   refine Cd.exit ?_
   refine At.then_exit ?_
   refine At.then_exit ?_
   refine At.in_exit ?_
   subst H
   replace H := HKl37
   try dsimp only [Sum.elim_inl] at H
   refine At.then ?_
   refine sr0 ?_
   refine mv0 rfl ?_
   refine Lst.r (Ev.nilCheck rfl) ?_
   refine Lst.r (Ev.fieldAddr (off' := 3) rfl Tryz.runUnderlying95 rfl Tryz.sizeOf43 rfl rfl) ?_
   refine Lst.addNil 9 1 ?_
   refine Lst.store (i := 7) rfl rfl rfl rfl rfl Tryz.sizeOf43 (vs := [Sl.v Sl.nil]) rfl rfl rfl (cs' := enc (WldR.mk ({ y40 with all := l42, ordered := ([] : List Str), way := a0.way } : Wld) s_a0_1 Sl.nil s_a0_3)) ((WldR.put_ordered (Put.here (vs := [Sl.v Sl.nil]) rfl)).off (by rfl)) (L' := (.own Sl.nil 9 1 (encs ([] : List Str))) :: (.blk b33 (enc r29.1) 34) :: (.rows (α := Saying) 62 o41) :: (.rows (α := Saying) 62 (List.map ProcessR.row rs43)) :: (.own s_a0_1 100 8 (encs rs43)) :: (.own s_a0_2 9 1 (encs a0.ordered)) :: (.own s_a0_3 9 1 (encs a0.way)) :: (.blk b_a0 (enc (WldR.mk ({ y40 with all := l42, ordered := ([] : List Str), way := a0.way } : Wld) s_a0_1 Sl.nil s_a0_3)) 95) :: L) rfl ?_
   refine nsr ?_
   refine mv0 rfl ?_
   refine Lst.r (Ev.loadA (i := 1) rfl rfl Tryz.isAgg34 Tryz.sizeOf34 (ch := enc r29.1) (Enc.len _) gh0) ?_
   refine Lst.r (Ev.nilCheck rfl) ?_
   refine Lst.r (Ev.fieldAddr (off' := 0) rfl Tryz.runUnderlying95 rfl Tryz.sizeOf34 rfl rfl) ?_
   refine Lst.store (i := 7) rfl rfl rfl rfl rfl Tryz.sizeOf34 (vs := enc r29.1) rfl (Enc.len _) (Enc.one _) (cs' := enc (WldR.mk ({ y40 with view := r29.1, all := l42, ordered := ([] : List Str), way := a0.way } : Wld) s_a0_1 Sl.nil s_a0_3)) ((WldR.put_view (Put.here ((Enc.len _).trans (Enc.len _).symm))).off (by rfl)) (L' := (.own Sl.nil 9 1 (encs ([] : List Str))) :: (.blk b33 (enc r29.1) 34) :: (.rows (α := Saying) 62 o41) :: (.rows (α := Saying) 62 (List.map ProcessR.row rs43)) :: (.own s_a0_1 100 8 (encs rs43)) :: (.own s_a0_2 9 1 (encs a0.ordered)) :: (.own s_a0_3 9 1 (encs a0.way)) :: (.blk b_a0 (enc (WldR.mk ({ y40 with view := r29.1, all := l42, ordered := ([] : List Str), way := a0.way } : Wld) s_a0_1 Sl.nil s_a0_3)) 95) :: L) rfl ?_
   refine nsr ?_
   refine Lst.r (Ev.assign rfl) ?_
   refine nt0 ?_
   obtain rfl := some_inj H
   refine Cd.ret ?_
   exact At.ret1 rfl (Res.tmp rfl) (FLe.trans hF15 hF48) (sk1 (sc1 (sc1 (sk1 (sk1 (sc1 (sk1 (sk1 (.refl _))))))))) ⟨rs43, Sl.nil, rfl, rfl, fm44, (All.monoProcessF fa45 fl (List.nil_sublist _))⟩
  have hc37 : decide ((i37 : Int) < (a0.all.length : Int)) = true := decide_eq_true (by omega)
  obtain ⟨c37, H, hgo37⟩ := rangeF_go H
  unfold world_World_Change_B3 at H
  try dsimp only at H
  refine sr0 ?_
  refine Lst.r (Ev.lss rfl rfl) ?_
  refine nt0 ?_
  refine Cd.seq ?_
  refine Cd.condT rfl hc37 ?_
  refine Cd.skip ?_
  refine At.then ?_
  refine Cd.seq ?_
  refine Cd.block ?_
  refine sr0 ?_
  refine mv0 rfl ?_
  refine Lst.r (Ev.assign rfl) ?_
  refine nsr ?_
  refine mv0 rfl ?_
  refine Lst.r (Ev.nilCheck rfl) ?_
  refine Lst.r (Ev.fieldAddr (off' := 2) rfl Tryz.runUnderlying95 rfl Tryz.sizeOf93 rfl rfl) ?_
  refine Lst.r (Ev.load (i := 6) rfl rfl Tryz.isAgg93 (v := Sl.v s_a0_1) ((WldR.get_all gh0).off (by rfl))) ?_
  refine mv0 rfl ?_
  obtain ⟨x49, h50, H⟩ := bind_some H
  have g51 := lat_some h50
  obtain ⟨⟨r52v, r52h1, ⟨r52_2v, r52_2h1⟩, ⟨r52_3v, r52_3h1⟩, ⟨r52_4v, r52_4h1⟩⟩, r52g, r52e, r52m⟩ := map_get fm44 g51.2.2
  obtain rfl : x49 = r52v := r52e.symm
  have r52q : ProcessR.frel w0 _ _ (ProcessR.mk x49 r52h1 (FromR.mk r52_2v r52_2h1) (ToR.mk r52_3v r52_3h1) (ToR.mk r52_4v r52_4h1)) := fa45 _ r52m
  obtain ⟨r52_i2, r52_i3, r52_i4⟩ := r52q
  obtain ⟨r52_2e, r52_2q⟩ := r52_i2
  obtain rfl : r52_2v = x49.from_ := r52_2e
  have r52_2_f1 : Rd w0 _ _ _ _ := r52_2q
  obtain ⟨r52_3e, r52_3q⟩ := r52_i3
  obtain rfl : r52_3v = x49.to := r52_3e
  have r52_3_f1 : Rd w0 _ _ _ _ := r52_3q
  obtain ⟨r52_4e, r52_4q⟩ := r52_i4
  obtain rfl : r52_4v = x49.orders := r52_4e
  have r52_4_f1 : Rd w0 _ _ _ _ := r52_4q
  have r52wg := map_at ProcessR.row r52g
  refine Lst.r (Ev.indexS (α := ProcessR) (xs := rs43) rfl rfl Tryz.runUnderlying93 Tryz.sizeOf100 rfl (by decide) (rdo 3 rfl rfl rfl) g51.1 (by have := map_len fm44; omega)) ?_
  refine Lst.r (Ev.assign rfl) ?_
  refine nt0 ?_
  obtain ⟨o62, H, HKo62⟩ := bind_some H
  refine Cd.join (σ := Sl × (List Saying) × Wld × (List (LR Saying)) × (List Procs) × (List ProcessR)) (fun (s53, l54, y55, o56, l57, rs58) => [(0, pv b_a0 0), (4, Sl.v s53), (7, pv b33 0), (10, Sl.at s_a0_1 ((i37 : Int).toNat * 8)), (67, iv (a0.all.length : Int)), (68, iv (i37 : Int))]) (fun (s53, l54, y55, o56, l57, rs58) => (.blk b33 (enc r29.1) 34) :: (.rows (α := Saying) 62 o56) :: (.rows (α := Saying) 62 (List.map ProcessR.row rs58)) :: (.own s_a0_1 100 8 (encs rs58)) :: (.own s_a0_2 9 1 (encs a0.ordered)) :: (.own s_a0_3 9 1 (encs a0.way)) :: (.blk b_a0 (enc (WldR.mk ({ y55 with all := l57, ordered := a0.ordered, way := a0.way } : Wld) s_a0_1 s_a0_2 s_a0_3)) 95) :: L) (fun Fx (s53, l54, y55, o56, l57, rs58) => (l54, y55, l57) = o62 ∧ rs58.map ProcessR.v = l57 ∧ All ProcessR.frel w0 Fx [] rs58 ∧ Among (List.map ProcessR.row rs58) o56 s53 l54) ?_ ?_
  ·refine sr0 ?_
   refine mv0 rfl ?_
   refine mv0 rfl ?_
   obtain ⟨r63, h64, H⟩ := bind_some H
   refine Lst.front (i := 6) rfl rfl ?_
   refine Lst.front (i := 6) rfl rfl ?_
   refine Lst.front (i := 6) rfl (L' := (.own s_a0_2 9 1 (encs a0.ordered)) :: (.own s_a0_3 9 1 (encs a0.way)) :: (.blk b_a0 (enc (WldR.mk ({ y40 with all := l42, ordered := a0.ordered, way := a0.way } : Wld) s_a0_1 s_a0_2 s_a0_3)) 95) :: (.blk b33 (enc r29.1) 34) :: (.rows (α := Saying) 62 o41) :: (.rows (α := Saying) 62 (List.map ProcessR.row rs43)) :: (.own s_a0_1 100 8 (encs rs43)) :: L) rfl ?_
   refine Lst.front (i := 6) rfl rfl ?_
   refine Lst.front (i := 6) rfl (L' := (.rows (α := Saying) 62 (List.map ProcessR.row rs43)) :: (.own s_a0_1 100 8 (encs rs43)) :: (.own s_a0_2 9 1 (encs a0.ordered)) :: (.own s_a0_3 9 1 (encs a0.way)) :: (.blk b_a0 (enc (WldR.mk ({ y40 with all := l42, ordered := a0.ordered, way := a0.way } : Wld) s_a0_1 s_a0_2 s_a0_3)) 95) :: (.blk b33 (enc r29.1) 34) :: (.rows (α := Saying) 62 o41) :: L) rfl ?_
   refine Lst.call1 rfl rfl (by decide) (vs := [pv b_a0 0, iv (i37 : Int)]) ⟨rfl, rfl, trivial⟩ Tryz.call65 (world_World_active_sim h64 w0 _ M _ (sc2 hM) fm44 (All.monoProcessF fa45 fl (List.nil_sublist _))) ?_
   refine nt0 ?_
   rcases (Bool.eq_false_or_eq_true r63).symm with hb67 | hb67
   ·replace H := ite_f hb67 H
    refine Cd.condF rfl hb67 ?_
    refine Cd.skip ?_
    refine At.front (i := 6) rfl rfl ?_
    refine At.front (i := 6) rfl (L' := (.blk b33 (enc r29.1) 34) :: (.rows (α := Saying) 62 o41) :: (.rows (α := Saying) 62 (List.map ProcessR.row rs43)) :: (.own s_a0_1 100 8 (encs rs43)) :: (.own s_a0_2 9 1 (encs a0.ordered)) :: (.own s_a0_3 9 1 (encs a0.way)) :: (.blk b_a0 (enc (WldR.mk ({ y40 with all := l42, ordered := a0.ordered, way := a0.way } : Wld) s_a0_1 s_a0_2 s_a0_3)) 95) :: L) rfl ?_
    exact At.meet (s38, l39, ({ y40 with all := l42, ordered := a0.ordered, way := a0.way } : Wld), o41, l42, rs43) fl ⟨rfl, rfl, rfl, rfl, rfl, rfl, trivial⟩ rfl ⟨some_inj H, fm44, (All.monoProcessF fa45 fl (List.nil_sublist _)), hw46⟩
   replace H := ite_t hb67 H
   refine Cd.condT rfl hb67 ?_
   refine sr0 ?_
   refine Lst.r (Ev.assign rfl) ?_
   refine nt0 ?_
   refine Cd.seq ?_
   refine sr0 ?_
   refine mv0 rfl ?_
   refine mv0 rfl ?_
   refine Lst.r (Ev.nilCheckS (α := ProcessR) rfl (rdo 1 rfl rfl rfl) ((Get.elemN (s := 8) rfl r52g gh0).off (by omega)) rfl) ?_
   refine Lst.r (Ev.fieldS (α := ProcessR) (f' := (i37 : Int).toNat * 8 + 1) rfl (rdo 1 rfl rfl rfl) ((Get.elemN (s := 8) rfl r52g gh0).off (by omega)) rfl Tryz.runUnderlying100 rfl Tryz.sizeOf37 rfl rfl rfl) ?_
   refine Lst.r (Ev.loadS (α := ProcessR) rfl (rdo 1 rfl rfl rfl) Tryz.isAgg37 (v := Sl.v r52h1) ((Get.elemN (s := 8) rfl r52g (ProcessR.get_log gh0)).off (by omega))) ?_
   refine Lst.r (Ev.lenS (α := Saying) (xs := x49.log) (by decide) rfl rfl Tryz.runUnderlying37 (Rd.row (j := 0) rfl r52wg)) ?_
   obtain ⟨m68, h69, H⟩ := bind_some H
   obtain ⟨g70, gl71⟩ := cutL_some h69
   try dsimp only at g70
   refine Lst.r (Ev.cut (α := Saying) (xs := l39) (i := (x49.log.length : Int)) (j := (l39.length : Int)) rfl rfl rfl Tryz.runUnderlying37 Tryz.sizeOf62 rfl (by decide) (Rd.among (i := 0) (j := 6) rfl rfl hw46) g70.1 g70.2.1 g70.2.2) ?_
   refine Lst.r (Ev.lenS (α := Saying) (xs := m68) (by decide) rfl rfl Tryz.runUnderlying37 (by rw [← gl71]; exact Rd.cut (by decide) (Rd.among (i := 0) (j := 6) rfl rfl hw46) (by omega) (by omega))) ?_
   refine mv0 rfl ?_
   refine nt0 ?_
   refine Cd.block ?_
   refine Cd.bound (Rd.le (α := Saying) (xs := m68) (by decide) (by rw [← gl71]; exact Rd.cut (by decide) (Rd.among (i := 0) (j := 6) rfl rfl hw46) (by omega) (by omega))) (fun hN152 => ?_)
   obtain ⟨ol72, H, HKl72⟩ := bind_some H
   refine Cd.loop (σ := Nat × Nat × Int) (fun (i72, k72, y73) => [(0, pv b_a0 0), (4, Sl.v s38), (7, pv b33 0), (9, iv (i37 : Int)), (10, Sl.at s_a0_1 ((i37 : Int).toNat * 8)), (11, iv y73), (67, iv (a0.all.length : Int)), (68, iv (i37 : Int)), (86, Sl.v (s38.cut ((x49.log.length : Int) : Int).toNat ((l39.length : Int) : Int).toNat 2)), (87, iv (m68.length : Int)), (88, iv (i72 : Int))]) (fun (i72, k72, y73) => (.rows (α := Saying) 62 (List.map ProcessR.row rs43)) :: (.own s_a0_1 100 8 (encs rs43)) :: (.own s_a0_2 9 1 (encs a0.ordered)) :: (.own s_a0_3 9 1 (encs a0.way)) :: (.blk b_a0 (enc (WldR.mk ({ y40 with all := l42, ordered := a0.ordered, way := a0.way } : Wld) s_a0_1 s_a0_2 s_a0_3)) 95) :: (.blk b33 (enc r29.1) 34) :: (.rows (α := Saying) 62 o41) :: L) (fun _ => (fun (i72, k72, y73) => rangeF (world_World_Change_B5 i37 m68) k72 i72 y73 = some ol72 ∧ i72 + k72 = m68.length)) (fun (i72, k72, y73) => k72) (0, m68.length, (0 : Int)) ⟨rfl, rfl, rfl, rfl, rfl, rfl, rfl, rfl, rfl, rfl, rfl, trivial⟩ rfl ⟨H, by omega⟩ ?_
   rintro F74 ⟨i72, k72, y73⟩ hF75 ⟨H, hik72⟩
   refine Cd.as (e' := [(0, pv b_a0 0), (4, Sl.v s38), (7, pv b33 0), (9, iv (i37 : Int)), (10, Sl.at s_a0_1 ((i37 : Int).toNat * 8)), (11, iv y73), (67, iv (a0.all.length : Int)), (68, iv (i37 : Int)), (86, Sl.v (s38.cut ((x49.log.length : Int) : Int).toNat ((l39.length : Int) : Int).toNat 2)), (87, iv (m68.length : Int)), (88, iv (i72 : Int))]) (L' := (.rows (α := Saying) 62 (List.map ProcessR.row rs43)) :: (.own s_a0_1 100 8 (encs rs43)) :: (.own s_a0_2 9 1 (encs a0.ordered)) :: (.own s_a0_3 9 1 (encs a0.way)) :: (.blk b_a0 (enc (WldR.mk ({ y40 with all := l42, ordered := a0.ordered, way := a0.way } : Wld) s_a0_1 s_a0_2 s_a0_3)) 95) :: (.blk b33 (enc r29.1) 34) :: (.rows (α := Saying) 62 o41) :: L) ⟨rfl, rfl, rfl, rfl, rfl, rfl, rfl, rfl, rfl, rfl, rfl, trivial⟩ rfl ?_
   rcases k72 with _ | k72
   ·have hc72 : decide ((i72 : Int) < (m68.length : Int)) = false := decide_eq_false (by omega)
    replace H := rangeF_end H
    refine sr0 ?_
    refine Lst.r (Ev.lss rfl rfl) ?_
    refine nt0 ?_
    refine Cd.seq ?_
    refine Cd.condF rfl hc72 ?_
    refine Cd.exit ?_
    refine At.then_exit ?_
    refine At.then_exit ?_
    refine At.in_exit ?_
    subst H
    replace H := HKl72
    refine At.then ?_
    refine sr0 ?_
    refine mv0 rfl ?_
    refine mv0 rfl ?_
    obtain ⟨r82, h83, H⟩ := bind_some H
    refine Lst.call rfl rfl (by decide) (vs := [Sl.v s38]) ⟨rfl, trivial⟩ Tryz.call44 (slices_Clone_api_Saying_api_Saying_sim h83 w0 _ _ _ (.refl _) (Rd.among (i := 0) (j := 6) rfl rfl hw46)) (fun F86 L' v hF87 hv => ?_)
    obtain ⟨s84, rfl, rfl⟩ := hv
    refine Lst.r (Ev.nilCheckS (α := ProcessR) rfl (rdo 2 rfl rfl rfl) ((Get.elemN (s := 8) rfl r52g gh0).off (by omega)) rfl) ?_
    refine Lst.r (Ev.fieldS (α := ProcessR) (f' := (i37 : Int).toNat * 8 + 1) rfl (rdo 2 rfl rfl rfl) ((Get.elemN (s := 8) rfl r52g gh0).off (by omega)) rfl Tryz.runUnderlying100 rfl Tryz.sizeOf37 rfl rfl rfl) ?_
    obtain ⟨p89, h90, H⟩ := Let_some H
    have hm91 : (rs43.set (i37 : Int).toNat (ProcessR.mk ({ x49 with log := r82 } : Procs) s84 (FromR.mk x49.from_ r52_2h1) (ToR.mk x49.to r52_3h1) (ToR.mk x49.orders r52_4h1))).map ProcessR.v = p89 := (map_set fm44 _ _).trans h90
    refine Lst.front (i := 1) rfl (L' := (.rows (α := Saying) 62 (List.map ProcessR.row rs43)) :: (.own s84 62 2 (encs r82)) :: (.own s_a0_1 100 8 (encs rs43)) :: (.own s_a0_2 9 1 (encs a0.ordered)) :: (.own s_a0_3 9 1 (encs a0.way)) :: (.blk b_a0 (enc (WldR.mk ({ y40 with all := l42, ordered := a0.ordered, way := a0.way } : Wld) s_a0_1 s_a0_2 s_a0_3)) 95) :: (.blk b33 (enc r29.1) 34) :: (.rows (α := Saying) 62 o41) :: L) rfl ?_
    refine Lst.rowOut (k := (i37 : Int).toNat) r52wg rfl ?_
    refine Lst.its (L' := (.own r52h1 62 2 (encs x49.log)) :: (.rows (α := Saying) 62 ((List.map ProcessR.row rs43).set (i37 : Int).toNat ⟨[], Sl.nil⟩)) :: (.own s84 62 2 (encs r82)) :: (.own s_a0_1 100 8 (encs rs43)) :: (.own s_a0_2 9 1 (encs a0.ordered)) :: (.own s_a0_3 9 1 (encs a0.way)) :: (.blk b_a0 (enc (WldR.mk ({ y40 with all := l42, ordered := a0.ordered, way := a0.way } : Wld) s_a0_1 s_a0_2 s_a0_3)) 95) :: (.blk b33 (enc r29.1) 34) :: (.rows (α := Saying) 62 o41) :: L) rfl ?_
    refine Lst.front (i := 8) rfl rfl ?_
    refine Lst.front (i := 1) rfl (L' := (.own r52h1 62 2 (encs x49.log)) :: (.rows (α := Saying) 62 o41) :: (.rows (α := Saying) 62 ((List.map ProcessR.row rs43).set (i37 : Int).toNat ⟨[], Sl.nil⟩)) :: (.own s84 62 2 (encs r82)) :: (.own s_a0_1 100 8 (encs rs43)) :: (.own s_a0_2 9 1 (encs a0.ordered)) :: (.own s_a0_3 9 1 (encs a0.way)) :: (.blk b_a0 (enc (WldR.mk ({ y40 with all := l42, ordered := a0.ordered, way := a0.way } : Wld) s_a0_1 s_a0_2 s_a0_3)) 95) :: (.blk b33 (enc r29.1) 34) :: L) rfl ?_
    refine Lst.rowEnd (α := Saying) (xs := x49.log) (s := r52h1) rfl ?_
    refine Lst.its (L' := (.rows (α := Saying) 62 (o41 ++ [⟨x49.log, r52h1⟩])) :: (.rows (α := Saying) 62 ((List.map ProcessR.row rs43).set (i37 : Int).toNat ⟨[], Sl.nil⟩)) :: (.own s84 62 2 (encs r82)) :: (.own s_a0_1 100 8 (encs rs43)) :: (.own s_a0_2 9 1 (encs a0.ordered)) :: (.own s_a0_3 9 1 (encs a0.way)) :: (.blk b_a0 (enc (WldR.mk ({ y40 with all := l42, ordered := a0.ordered, way := a0.way } : Wld) s_a0_1 s_a0_2 s_a0_3)) 95) :: (.blk b33 (enc r29.1) 34) :: L) rfl ?_
    have ha92 : All ProcessR.frel w0 F86 [] (rs43.set (i37 : Int).toNat (ProcessR.mk ({ x49 with log := r82 } : Procs) s84 (FromR.mk x49.from_ r52_2h1) (ToR.mk x49.to r52_3h1) (ToR.mk x49.orders r52_4h1))) := All.set (All.monoProcessF fa45 (FLe.trans hF75 hF87) (List.nil_sublist _)) (⟨⟨rfl, (r52_2_f1.mono (FLe.trans hF75 hF87) (List.nil_sublist _))⟩, ⟨rfl, (r52_3_f1.mono (FLe.trans hF75 hF87) (List.nil_sublist _))⟩, ⟨rfl, (r52_4_f1.mono (FLe.trans hF75 hF87) (List.nil_sublist _))⟩⟩)
    have hw93 : Among (List.map ProcessR.row (rs43.set (i37 : Int).toNat (ProcessR.mk ({ x49 with log := r82 } : Procs) s84 (FromR.mk x49.from_ r52_2h1) (ToR.mk x49.to r52_3h1) (ToR.mk x49.orders r52_4h1)))) (o41 ++ [⟨x49.log, r52h1⟩]) s38 l39 := by rw [List.map_set]; exact Among.set hw46 r52wg
    refine Lst.storeS (i := 3) rfl rfl rfl rfl rfl Tryz.sizeOf37 (vs := [Sl.v s84]) rfl rfl (by decide) rfl (xs' := encs (rs43.set (i37 : Int).toNat (ProcessR.mk ({ x49 with log := r82 } : Procs) s84 (FromR.mk x49.from_ r52_2h1) (ToR.mk x49.to r52_3h1) (ToR.mk x49.orders r52_4h1)))) ((Put.elemN (s := 8) (x := (ProcessR.mk x49 r52h1 (FromR.mk x49.from_ r52_2h1) (ToR.mk x49.to r52_3h1) (ToR.mk x49.orders r52_4h1))) (y := (ProcessR.mk ({ x49 with log := r82 } : Procs) s84 (FromR.mk x49.from_ r52_2h1) (ToR.mk x49.to r52_3h1) (ToR.mk x49.orders r52_4h1))) rfl r52g (ProcessR.put_log (p := (ProcessR.mk x49 r52h1 (FromR.mk x49.from_ r52_2h1) (ToR.mk x49.to r52_3h1) (ToR.mk x49.orders r52_4h1))) (l := r82) (Put.here (vs := [Sl.v s84]) rfl))).off (by omega)) (L' := (.rows (α := Saying) 62 (o41 ++ [⟨x49.log, r52h1⟩])) :: (.rows (α := Saying) 62 ((List.map ProcessR.row rs43).set (i37 : Int).toNat ⟨[], Sl.nil⟩)) :: (.own s84 62 2 (encs r82)) :: (.own s_a0_1 100 8 (encs (rs43.set (i37 : Int).toNat (ProcessR.mk ({ x49 with log := r82 } : Procs) s84 (FromR.mk x49.from_ r52_2h1) (ToR.mk x49.to r52_3h1) (ToR.mk x49.orders r52_4h1))))) :: (.own s_a0_2 9 1 (encs a0.ordered)) :: (.own s_a0_3 9 1 (encs a0.way)) :: (.blk b_a0 (enc (WldR.mk ({ y40 with all := p89, ordered := a0.ordered, way := a0.way } : Wld) s_a0_1 s_a0_2 s_a0_3)) 95) :: (.blk b33 (enc r29.1) 34) :: L) rfl ?_
    refine Lst.front (i := 1) rfl rfl ?_
    refine Lst.front (i := 2) rfl (L' := (.own s84 62 2 (encs r82)) :: (.rows (α := Saying) 62 ((List.map ProcessR.row rs43).set (i37 : Int).toNat ⟨[], Sl.nil⟩)) :: (.rows (α := Saying) 62 (o41 ++ [⟨x49.log, r52h1⟩])) :: (.own s_a0_1 100 8 (encs (rs43.set (i37 : Int).toNat (ProcessR.mk ({ x49 with log := r82 } : Procs) s84 (FromR.mk x49.from_ r52_2h1) (ToR.mk x49.to r52_3h1) (ToR.mk x49.orders r52_4h1))))) :: (.own s_a0_2 9 1 (encs a0.ordered)) :: (.own s_a0_3 9 1 (encs a0.way)) :: (.blk b_a0 (enc (WldR.mk ({ y40 with all := p89, ordered := a0.ordered, way := a0.way } : Wld) s_a0_1 s_a0_2 s_a0_3)) 95) :: (.blk b33 (enc r29.1) 34) :: L) rfl ?_
    refine Lst.rowIn (k := (i37 : Int).toNat) (by rw [List.getElem?_set_self (List.getElem?_eq_some_iff.1 r52wg).1]) rfl ?_
    refine Lst.its (L' := (.rows (α := Saying) 62 (List.map ProcessR.row (rs43.set (i37 : Int).toNat (ProcessR.mk ({ x49 with log := r82 } : Procs) s84 (FromR.mk x49.from_ r52_2h1) (ToR.mk x49.to r52_3h1) (ToR.mk x49.orders r52_4h1))))) :: (.rows (α := Saying) 62 (o41 ++ [⟨x49.log, r52h1⟩])) :: (.own s_a0_1 100 8 (encs (rs43.set (i37 : Int).toNat (ProcessR.mk ({ x49 with log := r82 } : Procs) s84 (FromR.mk x49.from_ r52_2h1) (ToR.mk x49.to r52_3h1) (ToR.mk x49.orders r52_4h1))))) :: (.own s_a0_2 9 1 (encs a0.ordered)) :: (.own s_a0_3 9 1 (encs a0.way)) :: (.blk b_a0 (enc (WldR.mk ({ y40 with all := p89, ordered := a0.ordered, way := a0.way } : Wld) s_a0_1 s_a0_2 s_a0_3)) 95) :: (.blk b33 (enc r29.1) 34) :: L) (by rw [map_set_in (f := ProcessR.row) (l := rs43) (y := (ProcessR.mk ({ x49 with log := r82 } : Procs) s84 (FromR.mk x49.from_ r52_2h1) (ToR.mk x49.to r52_3h1) (ToR.mk x49.orders r52_4h1))) (b := ⟨r82, s84⟩) rfl]) ?_
    refine nt0 ?_
    refine Cd.seq ?_
    obtain ⟨x94, h95, H⟩ := bind_some H
    obtain ⟨x98, h99, H⟩ := bind_some H
    obtain ⟨m102, h103, H⟩ := bind_some H
    obtain ⟨r107, h108, H⟩ := bind_some H
    obtain ⟨o116, h117, H⟩ := Let_some H
    refine Cd.headMeet (σ := Sl × (List Str)) 17 (fun (s114, l115) => [(0, pv b_a0 0), (4, Sl.v s38), (7, pv b33 0), (10, Sl.at s_a0_1 ((i37 : Int).toNat * 8)), (67, iv (a0.all.length : Int)), (68, iv (i37 : Int)), (104, Sl.at s_a0_1 ((i37 : Int).toNat * 8)), (120, .agg (enc (FromR.mk ({ From.zero with Late := l115 } : From) s114)).toArray)]) (fun (s114, l115) => (.own s114 9 1 (encs l115)) :: (.rows (α := Saying) 62 (List.map ProcessR.row (rs43.set (i37 : Int).toNat (ProcessR.mk ({ x49 with log := r82 } : Procs) s84 (FromR.mk x49.from_ r52_2h1) (ToR.mk x49.to r52_3h1) (ToR.mk x49.orders r52_4h1))))) :: (.rows (α := Saying) 62 (o41 ++ [⟨x49.log, r52h1⟩])) :: (.own s_a0_1 100 8 (encs (rs43.set (i37 : Int).toNat (ProcessR.mk ({ x49 with log := r82 } : Procs) s84 (FromR.mk x49.from_ r52_2h1) (ToR.mk x49.to r52_3h1) (ToR.mk x49.orders r52_4h1))))) :: (.own s_a0_2 9 1 (encs a0.ordered)) :: (.own s_a0_3 9 1 (encs a0.way)) :: (.blk b_a0 (enc (WldR.mk ({ y40 with all := p89, ordered := a0.ordered, way := a0.way } : Wld) s_a0_1 s_a0_2 s_a0_3)) 95) :: (.blk b33 (enc r29.1) 34) :: L) (fun _ (s114, l115) => l115 = o116) (by kernel_rfl) (by kernel_rfl) (behind_sink (by kernel_rfl) (by kernel_rfl) (by kernel_rfl)) (by kernel_rfl) (fun hsel hlt => ?_) ?_
    ·refine HdJ.keep (fun w => St w0 F86 ((.rows (α := Saying) 62 (List.map ProcessR.row (rs43.set (i37 : Int).toNat (ProcessR.mk ({ x49 with log := r82 } : Procs) s84 (FromR.mk x49.from_ r52_2h1) (ToR.mk x49.to r52_3h1) (ToR.mk x49.orders r52_4h1))))) :: (.rows (α := Saying) 62 (o41 ++ [⟨x49.log, r52h1⟩])) :: (.own s_a0_1 100 8 (encs (rs43.set (i37 : Int).toNat (ProcessR.mk ({ x49 with log := r82 } : Procs) s84 (FromR.mk x49.from_ r52_2h1) (ToR.mk x49.to r52_3h1) (ToR.mk x49.orders r52_4h1))))) :: (.own s_a0_2 9 1 (encs a0.ordered)) :: (.own s_a0_3 9 1 (encs a0.way)) :: (.blk b_a0 (enc (WldR.mk ({ y40 with all := p89, ordered := a0.ordered, way := a0.way } : Wld) s_a0_1 s_a0_2 s_a0_3)) 95) :: (.blk b33 (enc r29.1) 34) :: L) w) (fun w h => trivial) ?_
     refine HdJ.ts hsel hlt 0 (sk1 (sk1 (sk1 (sk1 (sk1 (sk1 (sk1 (.refl _)))))))) rfl (Ev.move rfl) ?_
     refine HdJ.ts hsel hlt 1 (sk1 (sk1 (sk1 (sk1 (sk1 (sk1 (sk1 (.refl _)))))))) rfl (Ev.move rfl) ?_
     have g118 := lat_some h95
     obtain ⟨⟨r119v, r119h1, ⟨r119_2v, r119_2h1⟩, ⟨r119_3v, r119_3h1⟩, ⟨r119_4v, r119_4h1⟩⟩, r119g, r119e, r119m⟩ := map_get hm91 g118.2.2
     obtain rfl : x94 = r119v := r119e.symm
     have r119q : ProcessR.frel w0 _ _ (ProcessR.mk x94 r119h1 (FromR.mk r119_2v r119_2h1) (ToR.mk r119_3v r119_3h1) (ToR.mk r119_4v r119_4h1)) := ha92 _ r119m
     obtain ⟨r119_i2, r119_i3, r119_i4⟩ := r119q
     obtain ⟨r119_2e, r119_2q⟩ := r119_i2
     obtain rfl : r119_2v = x94.from_ := r119_2e
     have r119_2_f1 : Rd w0 _ _ _ _ := r119_2q
     obtain ⟨r119_3e, r119_3q⟩ := r119_i3
     obtain rfl : r119_3v = x94.to := r119_3e
     have r119_3_f1 : Rd w0 _ _ _ _ := r119_3q
     obtain ⟨r119_4e, r119_4q⟩ := r119_i4
     obtain rfl : r119_4v = x94.orders := r119_4e
     have r119_4_f1 : Rd w0 _ _ _ _ := r119_4q
     have r119wg := map_at ProcessR.row r119g
     refine HdJ.ts hsel hlt 2 (sk1 (sk1 (sk1 (sk1 (sk1 (sk1 (sk1 (.refl _)))))))) rfl (Ev.nilCheckS (α := ProcessR) rfl (rdo 2 rfl rfl rfl) ((Get.elemN (s := 8) rfl r119g gh0).off (by omega)) rfl) ?_
     refine HdJ.ts hsel hlt 3 (sk1 (sk1 (sk1 (sk1 (sk1 (sk1 (sk1 (.refl _)))))))) rfl (Ev.fieldS (α := ProcessR) (f' := (i37 : Int).toNat * 8 + 2) rfl (rdo 2 rfl rfl rfl) ((Get.elemN (s := 8) rfl r119g gh0).off (by omega)) rfl Tryz.runUnderlying100 rfl Tryz.sizeOf45 rfl rfl rfl) ?_
     refine HdJ.ts hsel hlt 4 (sk1 (sk1 (sk1 (sk1 (sk1 (sk1 (sk1 (.refl _)))))))) rfl (Ev.fieldS (α := ProcessR) (f' := (i37 : Int).toNat * 8 + 2 + 1) rfl (rdo 2 rfl rfl rfl) ((Get.elemN (s := 8) rfl r119g (ProcessR.get_from_ gh0)).off (by omega)) rfl Tryz.runUnderlying45 rfl Tryz.sizeOf43 rfl rfl rfl) ?_
     refine HdJ.ts hsel hlt 5 (sk1 (sk1 (sk1 (sk1 (sk1 (sk1 (sk1 (.refl _)))))))) rfl (Ev.loadS (α := ProcessR) rfl (rdo 2 rfl rfl rfl) Tryz.isAgg43 (v := Sl.v r119_2h1) ((Get.elemN (s := 8) rfl r119g (ProcessR.get_from_ (FromR.get_Late gh0))).off (by omega))) ?_
     refine HdJ.ts hsel hlt 6 (sk1 (sk1 (sk1 (sk1 (sk1 (sk1 (sk1 (.refl _)))))))) rfl (Ev.move rfl) ?_
     refine HdJ.ts hsel hlt 7 (sk1 (sk1 (sk1 (sk1 (sk1 (sk1 (sk1 (.refl _)))))))) rfl (Ev.move rfl) ?_
     have g120 := lat_some h99
     obtain ⟨⟨r121v, r121h1, ⟨r121_2v, r121_2h1⟩, ⟨r121_3v, r121_3h1⟩, ⟨r121_4v, r121_4h1⟩⟩, r121g, r121e, r121m⟩ := map_get hm91 g120.2.2
     obtain rfl : x98 = r121v := r121e.symm
     have r121q : ProcessR.frel w0 _ _ (ProcessR.mk x98 r121h1 (FromR.mk r121_2v r121_2h1) (ToR.mk r121_3v r121_3h1) (ToR.mk r121_4v r121_4h1)) := ha92 _ r121m
     obtain ⟨r121_i2, r121_i3, r121_i4⟩ := r121q
     obtain ⟨r121_2e, r121_2q⟩ := r121_i2
     obtain rfl : r121_2v = x98.from_ := r121_2e
     have r121_2_f1 : Rd w0 _ _ _ _ := r121_2q
     obtain ⟨r121_3e, r121_3q⟩ := r121_i3
     obtain rfl : r121_3v = x98.to := r121_3e
     have r121_3_f1 : Rd w0 _ _ _ _ := r121_3q
     obtain ⟨r121_4e, r121_4q⟩ := r121_i4
     obtain rfl : r121_4v = x98.orders := r121_4e
     have r121_4_f1 : Rd w0 _ _ _ _ := r121_4q
     have r121wg := map_at ProcessR.row r121g
     refine HdJ.ts hsel hlt 8 (sk1 (sk1 (sk1 (sk1 (sk1 (sk1 (sk1 (.refl _)))))))) rfl (Ev.nilCheckS (α := ProcessR) rfl (rdo 2 rfl rfl rfl) ((Get.elemN (s := 8) rfl r121g gh0).off (by omega)) rfl) ?_
     refine HdJ.ts hsel hlt 9 (sk1 (sk1 (sk1 (sk1 (sk1 (sk1 (sk1 (.refl _)))))))) rfl (Ev.fieldS (α := ProcessR) (f' := (i37 : Int).toNat * 8 + 2) rfl (rdo 2 rfl rfl rfl) ((Get.elemN (s := 8) rfl r121g gh0).off (by omega)) rfl Tryz.runUnderlying100 rfl Tryz.sizeOf45 rfl rfl rfl) ?_
     refine HdJ.ts hsel hlt 10 (sk1 (sk1 (sk1 (sk1 (sk1 (sk1 (sk1 (.refl _)))))))) rfl (Ev.fieldS (α := ProcessR) (f' := (i37 : Int).toNat * 8 + 2 + 1) rfl (rdo 2 rfl rfl rfl) ((Get.elemN (s := 8) rfl r121g (ProcessR.get_from_ gh0)).off (by omega)) rfl Tryz.runUnderlying45 rfl Tryz.sizeOf43 rfl rfl rfl) ?_
     refine HdJ.ts hsel hlt 11 (sk1 (sk1 (sk1 (sk1 (sk1 (sk1 (sk1 (.refl _)))))))) rfl (Ev.loadS (α := ProcessR) rfl (rdo 2 rfl rfl rfl) Tryz.isAgg43 (v := Sl.v r121_2h1) ((Get.elemN (s := 8) rfl r121g (ProcessR.get_from_ (FromR.get_Late gh0))).off (by omega))) ?_
     refine HdJ.ts hsel hlt 12 (sk1 (sk1 (sk1 (sk1 (sk1 (sk1 (sk1 (.refl _)))))))) rfl (Ev.lenS (α := Str) (xs := x98.from_.Late) (by decide) rfl rfl Tryz.runUnderlying43 (r121_2_f1.mono fl (List.nil_sublist _))) ?_
     refine HdJ.ts hsel hlt 13 (sk1 (sk1 (sk1 (sk1 (sk1 (sk1 (sk1 (.refl _)))))))) rfl (Ev.min2 rfl rfl) ?_
     obtain ⟨g122, gl123⟩ := cutL_some h103
     try dsimp only at g122
     have hq124 : Rd w0 F86 [] (r119_2h1.cut (min y73 (x98.from_.Late.length : Int) : Int).toNat ((x94.from_.Late.length : Int) : Int).toNat 1) m102 := by rw [← gl123]; exact Rd.cut (by decide) r119_2_f1 (by omega) (by omega)
     refine HdJ.ts hsel hlt 14 (sk1 (sk1 (sk1 (sk1 (sk1 (sk1 (sk1 (.refl _)))))))) rfl (Ev.cut (α := Str) (xs := x94.from_.Late) (i := min y73 (x98.from_.Late.length : Int)) (j := (x94.from_.Late.length : Int)) rfl rfl rfl Tryz.runUnderlying43 Tryz.sizeOf9 rfl (by decide) (r119_2_f1.mono fl (List.nil_sublist _)) g122.1 g122.2.1 g122.2.2) ?_
     refine HdJ.o1 15 (fun inv => ?_)
     refine Lst.call rfl rfl (by decide) (vs := [Sl.v (r119_2h1.cut (min y73 (x98.from_.Late.length : Int) : Int).toNat ((x94.from_.Late.length : Int) : Int).toNat 1)]) ⟨rfl, trivial⟩ Tryz.call45 (slices_Clone_string_string_sim h108 w0 _ M _ (sc4 (sc2 (sc1 hM))) (hq124.mono fl (List.nil_sublist _))) (fun F126 L' v hF127 hv => ?_)
     obtain ⟨s125, rfl, rfl⟩ := hv
     refine Lst.nil ?_
     refine At.hd inv (fun w h => (h.weaken hF127).sublist (sc1 (sk1 (sk1 (sk1 (sk1 (sk1 (sk1 (sk1 (.refl _)))))))))) ?_
     refine HdJ.keep (fun w => St w0 F126 ((.own s125 9 1 (encs r107)) :: (.rows (α := Saying) 62 (List.map ProcessR.row (rs43.set (i37 : Int).toNat (ProcessR.mk ({ x49 with log := r82 } : Procs) s84 (FromR.mk x49.from_ r52_2h1) (ToR.mk x49.to r52_3h1) (ToR.mk x49.orders r52_4h1))))) :: (.rows (α := Saying) 62 (o41 ++ [⟨x49.log, r52h1⟩])) :: (.own s_a0_1 100 8 (encs (rs43.set (i37 : Int).toNat (ProcessR.mk ({ x49 with log := r82 } : Procs) s84 (FromR.mk x49.from_ r52_2h1) (ToR.mk x49.to r52_3h1) (ToR.mk x49.orders r52_4h1))))) :: (.own s_a0_2 9 1 (encs a0.ordered)) :: (.own s_a0_3 9 1 (encs a0.way)) :: (.blk b_a0 (enc (WldR.mk ({ y40 with all := p89, ordered := a0.ordered, way := a0.way } : Wld) s_a0_1 s_a0_2 s_a0_3)) 95) :: (.blk b33 (enc r29.1) 34) :: L) w) (fun w h => (h.weaken hF127).sublist (sc1 (sk1 (sk1 (sk1 (sk1 (sk1 (sk1 (sk1 (.refl _)))))))))) ?_
     refine HdJ.ts hsel hlt 16 (sk1 (sk1 (sk1 (sk1 (sk1 (sk1 (sk1 (sk1 (.refl _))))))))) rfl (Ev.build (v := .agg (enc (FromR.mk ({ From.zero with Late := r107 } : From) s125)).toArray) (pv := [(1, Sl.v s125)]) ⟨rfl, rfl, trivial⟩ (run_buildStruct (places := #[(0, 1), (1, 1)]) Tryz.zeroValue45 (zs := enc (FromR.mk From.zero Sl.nil)) rfl Tryz.runUnderlying45 (fun w => by kernel_rfl) (fill_cons (cs := enc (FromR.mk From.zero Sl.nil)) (cs' := enc (FromR.mk ({ From.zero with Late := r107 } : From) s125)) (vs := [Sl.v s125]) rfl rfl rfl ((FromR.put_Late (p := (FromR.mk From.zero Sl.nil)) (y := s125) (Put.here (vs := [Sl.v s125]) rfl)).off rfl) fill_nil))) ?_
     refine HdJ.done (by kernel_rfl) ?_
     exact At.meetN (s125, r107) hF127 ⟨rfl, rfl, rfl, rfl, rfl, rfl, rfl, rfl, trivial⟩ rfl h117
    rintro F128 ⟨s114, l115⟩ hF129 hy
    subst hy
    refine Lst.as (e' := [(0, pv b_a0 0), (4, Sl.v s38), (7, pv b33 0), (10, Sl.at s_a0_1 ((i37 : Int).toNat * 8)), (67, iv (a0.all.length : Int)), (68, iv (i37 : Int)), (104, Sl.at s_a0_1 ((i37 : Int).toNat * 8)), (120, .agg (enc (FromR.mk ({ From.zero with Late := l115 } : From) s114)).toArray)]) (L' := (.own s114 9 1 (encs l115)) :: (.rows (α := Saying) 62 (List.map ProcessR.row (rs43.set (i37 : Int).toNat (ProcessR.mk ({ x49 with log := r82 } : Procs) s84 (FromR.mk x49.from_ r52_2h1) (ToR.mk x49.to r52_3h1) (ToR.mk x49.orders r52_4h1))))) :: (.rows (α := Saying) 62 (o41 ++ [⟨x49.log, r52h1⟩])) :: (.own s_a0_1 100 8 (encs (rs43.set (i37 : Int).toNat (ProcessR.mk ({ x49 with log := r82 } : Procs) s84 (FromR.mk x49.from_ r52_2h1) (ToR.mk x49.to r52_3h1) (ToR.mk x49.orders r52_4h1))))) :: (.own s_a0_2 9 1 (encs a0.ordered)) :: (.own s_a0_3 9 1 (encs a0.way)) :: (.blk b_a0 (enc (WldR.mk ({ y40 with all := p89, ordered := a0.ordered, way := a0.way } : Wld) s_a0_1 s_a0_2 s_a0_3)) 95) :: (.blk b33 (enc r29.1) 34) :: L) ⟨rfl, rfl, rfl, rfl, rfl, rfl, rfl, rfl, trivial⟩ rfl ?_
    obtain ⟨x130, h131, H⟩ := bind_some H
    have g132 := lat_some h131
    obtain ⟨⟨r133v, r133h1, ⟨r133_2v, r133_2h1⟩, ⟨r133_3v, r133_3h1⟩, ⟨r133_4v, r133_4h1⟩⟩, r133g, r133e, r133m⟩ := map_get hm91 g132.2.2
    obtain rfl : x130 = r133v := r133e.symm
    have r133q : ProcessR.frel w0 _ _ (ProcessR.mk x130 r133h1 (FromR.mk r133_2v r133_2h1) (ToR.mk r133_3v r133_3h1) (ToR.mk r133_4v r133_4h1)) := ha92 _ r133m
    obtain ⟨r133_i2, r133_i3, r133_i4⟩ := r133q
    obtain ⟨r133_2e, r133_2q⟩ := r133_i2
    obtain rfl : r133_2v = x130.from_ := r133_2e
    have r133_2_f1 : Rd w0 _ _ _ _ := r133_2q
    obtain ⟨r133_3e, r133_3q⟩ := r133_i3
    obtain rfl : r133_3v = x130.to := r133_3e
    have r133_3_f1 : Rd w0 _ _ _ _ := r133_3q
    obtain ⟨r133_4e, r133_4q⟩ := r133_i4
    obtain rfl : r133_4v = x130.orders := r133_4e
    have r133_4_f1 : Rd w0 _ _ _ _ := r133_4q
    have r133wg := map_at ProcessR.row r133g
    refine Lst.r (Ev.nilCheckS (α := ProcessR) rfl (rdo 3 rfl rfl rfl) ((Get.elemN (s := 8) rfl r133g gh0).off (by omega)) rfl) ?_
    refine Lst.r (Ev.fieldS (α := ProcessR) (f' := (i37 : Int).toNat * 8 + 2) rfl (rdo 3 rfl rfl rfl) ((Get.elemN (s := 8) rfl r133g gh0).off (by omega)) rfl Tryz.runUnderlying100 rfl Tryz.sizeOf45 rfl rfl rfl) ?_
    obtain ⟨p138, h139, H⟩ := Let_some H
    have hm140 : ((rs43.set (i37 : Int).toNat (ProcessR.mk ({ x49 with log := r82 } : Procs) s84 (FromR.mk x49.from_ r52_2h1) (ToR.mk x49.to r52_3h1) (ToR.mk x49.orders r52_4h1))).set (i37 : Int).toNat (ProcessR.mk ({ x130 with from_ := ({ From.zero with Late := l115 } : From) } : Procs) r133h1 (FromR.mk ({ From.zero with Late := l115 } : From) s114) (ToR.mk x130.to r133_3h1) (ToR.mk x130.orders r133_4h1))).map ProcessR.v = p138 := (map_set hm91 _ _).trans h139
    refine Lst.freeze (i := 0) rfl (fun F134 hF135 hz136 => ?_)
    have hq137 : Rd w0 F134 [] s114 l115 := Rd.frozen hz136 rfl rfl
    refine Lst.its (L' := (.rows (α := Saying) 62 (List.map ProcessR.row (rs43.set (i37 : Int).toNat (ProcessR.mk ({ x49 with log := r82 } : Procs) s84 (FromR.mk x49.from_ r52_2h1) (ToR.mk x49.to r52_3h1) (ToR.mk x49.orders r52_4h1))))) :: (.rows (α := Saying) 62 (o41 ++ [⟨x49.log, r52h1⟩])) :: (.own s_a0_1 100 8 (encs (rs43.set (i37 : Int).toNat (ProcessR.mk ({ x49 with log := r82 } : Procs) s84 (FromR.mk x49.from_ r52_2h1) (ToR.mk x49.to r52_3h1) (ToR.mk x49.orders r52_4h1))))) :: (.own s_a0_2 9 1 (encs a0.ordered)) :: (.own s_a0_3 9 1 (encs a0.way)) :: (.blk b_a0 (enc (WldR.mk ({ y40 with all := p89, ordered := a0.ordered, way := a0.way } : Wld) s_a0_1 s_a0_2 s_a0_3)) 95) :: (.blk b33 (enc r29.1) 34) :: L) rfl ?_
    have ha141 : All ProcessR.frel w0 F134 [] ((rs43.set (i37 : Int).toNat (ProcessR.mk ({ x49 with log := r82 } : Procs) s84 (FromR.mk x49.from_ r52_2h1) (ToR.mk x49.to r52_3h1) (ToR.mk x49.orders r52_4h1))).set (i37 : Int).toNat (ProcessR.mk ({ x130 with from_ := ({ From.zero with Late := l115 } : From) } : Procs) r133h1 (FromR.mk ({ From.zero with Late := l115 } : From) s114) (ToR.mk x130.to r133_3h1) (ToR.mk x130.orders r133_4h1))) := All.set (All.monoProcessF ha92 (FLe.trans hF129 hF135) (List.nil_sublist _)) (⟨⟨rfl, (hq137.mono fl (List.nil_sublist _))⟩, ⟨rfl, (r133_3_f1.mono (FLe.trans hF129 hF135) (List.nil_sublist _))⟩, ⟨rfl, (r133_4_f1.mono (FLe.trans hF129 hF135) (List.nil_sublist _))⟩⟩)
    have hw142 : Among (List.map ProcessR.row ((rs43.set (i37 : Int).toNat (ProcessR.mk ({ x49 with log := r82 } : Procs) s84 (FromR.mk x49.from_ r52_2h1) (ToR.mk x49.to r52_3h1) (ToR.mk x49.orders r52_4h1))).set (i37 : Int).toNat (ProcessR.mk ({ x130 with from_ := ({ From.zero with Late := l115 } : From) } : Procs) r133h1 (FromR.mk ({ From.zero with Late := l115 } : From) s114) (ToR.mk x130.to r133_3h1) (ToR.mk x130.orders r133_4h1)))) (o41 ++ [⟨x49.log, r52h1⟩]) s38 l39 := by rw [map_set_same (y := (ProcessR.mk ({ x130 with from_ := ({ From.zero with Late := l115 } : From) } : Procs) r133h1 (FromR.mk ({ From.zero with Late := l115 } : From) s114) (ToR.mk x130.to r133_3h1) (ToR.mk x130.orders r133_4h1))) r133g rfl]; exact hw93
    refine Lst.storeS (i := 2) rfl rfl rfl rfl rfl Tryz.sizeOf45 (vs := enc (FromR.mk ({ From.zero with Late := l115 } : From) s114)) rfl (Enc.len _) (by decide) (Enc.one _) (xs' := encs ((rs43.set (i37 : Int).toNat (ProcessR.mk ({ x49 with log := r82 } : Procs) s84 (FromR.mk x49.from_ r52_2h1) (ToR.mk x49.to r52_3h1) (ToR.mk x49.orders r52_4h1))).set (i37 : Int).toNat (ProcessR.mk ({ x130 with from_ := ({ From.zero with Late := l115 } : From) } : Procs) r133h1 (FromR.mk ({ From.zero with Late := l115 } : From) s114) (ToR.mk x130.to r133_3h1) (ToR.mk x130.orders r133_4h1)))) ((Put.elemN (s := 8) (x := (ProcessR.mk x130 r133h1 (FromR.mk x130.from_ r133_2h1) (ToR.mk x130.to r133_3h1) (ToR.mk x130.orders r133_4h1))) (y := (ProcessR.mk ({ x130 with from_ := ({ From.zero with Late := l115 } : From) } : Procs) r133h1 (FromR.mk ({ From.zero with Late := l115 } : From) s114) (ToR.mk x130.to r133_3h1) (ToR.mk x130.orders r133_4h1))) rfl r133g (ProcessR.put_from_ (p := (ProcessR.mk x130 r133h1 (FromR.mk x130.from_ r133_2h1) (ToR.mk x130.to r133_3h1) (ToR.mk x130.orders r133_4h1))) (l := ({ From.zero with Late := l115 } : From)) (Put.here ((Enc.len _).trans (Enc.len _).symm)))).off (by omega)) (L' := (.rows (α := Saying) 62 (List.map ProcessR.row (rs43.set (i37 : Int).toNat (ProcessR.mk ({ x49 with log := r82 } : Procs) s84 (FromR.mk x49.from_ r52_2h1) (ToR.mk x49.to r52_3h1) (ToR.mk x49.orders r52_4h1))))) :: (.rows (α := Saying) 62 (o41 ++ [⟨x49.log, r52h1⟩])) :: (.own s_a0_1 100 8 (encs ((rs43.set (i37 : Int).toNat (ProcessR.mk ({ x49 with log := r82 } : Procs) s84 (FromR.mk x49.from_ r52_2h1) (ToR.mk x49.to r52_3h1) (ToR.mk x49.orders r52_4h1))).set (i37 : Int).toNat (ProcessR.mk ({ x130 with from_ := ({ From.zero with Late := l115 } : From) } : Procs) r133h1 (FromR.mk ({ From.zero with Late := l115 } : From) s114) (ToR.mk x130.to r133_3h1) (ToR.mk x130.orders r133_4h1))))) :: (.own s_a0_2 9 1 (encs a0.ordered)) :: (.own s_a0_3 9 1 (encs a0.way)) :: (.blk b_a0 (enc (WldR.mk ({ y40 with all := p138, ordered := a0.ordered, way := a0.way } : Wld) s_a0_1 s_a0_2 s_a0_3)) 95) :: (.blk b33 (enc r29.1) 34) :: L) rfl ?_
    refine Lst.its (L' := (.rows (α := Saying) 62 (List.map ProcessR.row ((rs43.set (i37 : Int).toNat (ProcessR.mk ({ x49 with log := r82 } : Procs) s84 (FromR.mk x49.from_ r52_2h1) (ToR.mk x49.to r52_3h1) (ToR.mk x49.orders r52_4h1))).set (i37 : Int).toNat (ProcessR.mk ({ x130 with from_ := ({ From.zero with Late := l115 } : From) } : Procs) r133h1 (FromR.mk ({ From.zero with Late := l115 } : From) s114) (ToR.mk x130.to r133_3h1) (ToR.mk x130.orders r133_4h1))))) :: (.rows (α := Saying) 62 (o41 ++ [⟨x49.log, r52h1⟩])) :: (.own s_a0_1 100 8 (encs ((rs43.set (i37 : Int).toNat (ProcessR.mk ({ x49 with log := r82 } : Procs) s84 (FromR.mk x49.from_ r52_2h1) (ToR.mk x49.to r52_3h1) (ToR.mk x49.orders r52_4h1))).set (i37 : Int).toNat (ProcessR.mk ({ x130 with from_ := ({ From.zero with Late := l115 } : From) } : Procs) r133h1 (FromR.mk ({ From.zero with Late := l115 } : From) s114) (ToR.mk x130.to r133_3h1) (ToR.mk x130.orders r133_4h1))))) :: (.own s_a0_2 9 1 (encs a0.ordered)) :: (.own s_a0_3 9 1 (encs a0.way)) :: (.blk b_a0 (enc (WldR.mk ({ y40 with all := p138, ordered := a0.ordered, way := a0.way } : Wld) s_a0_1 s_a0_2 s_a0_3)) 95) :: (.blk b33 (enc r29.1) 34) :: L) (by rw [map_set_same (y := (ProcessR.mk ({ x130 with from_ := ({ From.zero with Late := l115 } : From) } : Procs) r133h1 (FromR.mk ({ From.zero with Late := l115 } : From) s114) (ToR.mk x130.to r133_3h1) (ToR.mk x130.orders r133_4h1))) r133g rfl]) ?_
    refine nt0 ?_
    refine Cd.region ?_
    refine mv0 rfl ?_
    refine Lst.r (Ev.build (v := .agg (enc (ToR.mk To.zero Sl.nil)).toArray) (pv := []) trivial (fun w => by kernel_rfl)) ?_
    obtain ⟨x143, h144, H⟩ := bind_some H
    have g145 := lat_some h144
    obtain ⟨⟨r146v, r146h1, ⟨r146_2v, r146_2h1⟩, ⟨r146_3v, r146_3h1⟩, ⟨r146_4v, r146_4h1⟩⟩, r146g, r146e, r146m⟩ := map_get hm140 g145.2.2
    obtain rfl : x143 = r146v := r146e.symm
    have r146q : ProcessR.frel w0 _ _ (ProcessR.mk x143 r146h1 (FromR.mk r146_2v r146_2h1) (ToR.mk r146_3v r146_3h1) (ToR.mk r146_4v r146_4h1)) := ha141 _ r146m
    obtain ⟨r146_i2, r146_i3, r146_i4⟩ := r146q
    obtain ⟨r146_2e, r146_2q⟩ := r146_i2
    obtain rfl : r146_2v = x143.from_ := r146_2e
    have r146_2_f1 : Rd w0 _ _ _ _ := r146_2q
    obtain ⟨r146_3e, r146_3q⟩ := r146_i3
    obtain rfl : r146_3v = x143.to := r146_3e
    have r146_3_f1 : Rd w0 _ _ _ _ := r146_3q
    obtain ⟨r146_4e, r146_4q⟩ := r146_i4
    obtain rfl : r146_4v = x143.orders := r146_4e
    have r146_4_f1 : Rd w0 _ _ _ _ := r146_4q
    have r146wg := map_at ProcessR.row r146g
    refine Lst.r (Ev.nilCheckS (α := ProcessR) rfl (rdo 2 rfl rfl rfl) ((Get.elemN (s := 8) rfl r146g gh0).off (by omega)) rfl) ?_
    refine Lst.r (Ev.fieldS (α := ProcessR) (f' := (i37 : Int).toNat * 8 + 4) rfl (rdo 2 rfl rfl rfl) ((Get.elemN (s := 8) rfl r146g gh0).off (by omega)) rfl Tryz.runUnderlying100 rfl Tryz.sizeOf41 rfl rfl rfl) ?_
    obtain ⟨p147, h148, H⟩ := Let_some H
    have hm149 : (((rs43.set (i37 : Int).toNat (ProcessR.mk ({ x49 with log := r82 } : Procs) s84 (FromR.mk x49.from_ r52_2h1) (ToR.mk x49.to r52_3h1) (ToR.mk x49.orders r52_4h1))).set (i37 : Int).toNat (ProcessR.mk ({ x130 with from_ := ({ From.zero with Late := l115 } : From) } : Procs) r133h1 (FromR.mk ({ From.zero with Late := l115 } : From) s114) (ToR.mk x130.to r133_3h1) (ToR.mk x130.orders r133_4h1))).set (i37 : Int).toNat (ProcessR.mk ({ x143 with to := To.zero } : Procs) r146h1 (FromR.mk x143.from_ r146_2h1) (ToR.mk To.zero Sl.nil) (ToR.mk x143.orders r146_4h1))).map ProcessR.v = p147 := (map_set hm140 _ _).trans h148
    have ha150 : All ProcessR.frel w0 F134 [] (((rs43.set (i37 : Int).toNat (ProcessR.mk ({ x49 with log := r82 } : Procs) s84 (FromR.mk x49.from_ r52_2h1) (ToR.mk x49.to r52_3h1) (ToR.mk x49.orders r52_4h1))).set (i37 : Int).toNat (ProcessR.mk ({ x130 with from_ := ({ From.zero with Late := l115 } : From) } : Procs) r133h1 (FromR.mk ({ From.zero with Late := l115 } : From) s114) (ToR.mk x130.to r133_3h1) (ToR.mk x130.orders r133_4h1))).set (i37 : Int).toNat (ProcessR.mk ({ x143 with to := To.zero } : Procs) r146h1 (FromR.mk x143.from_ r146_2h1) (ToR.mk To.zero Sl.nil) (ToR.mk x143.orders r146_4h1))) := All.set (All.monoProcessF ha141 fl (List.nil_sublist _)) (⟨⟨rfl, (r146_2_f1.mono fl (List.nil_sublist _))⟩, ⟨rfl, Rd.nil⟩, ⟨rfl, (r146_4_f1.mono fl (List.nil_sublist _))⟩⟩)
    have hw151 : Among (List.map ProcessR.row (((rs43.set (i37 : Int).toNat (ProcessR.mk ({ x49 with log := r82 } : Procs) s84 (FromR.mk x49.from_ r52_2h1) (ToR.mk x49.to r52_3h1) (ToR.mk x49.orders r52_4h1))).set (i37 : Int).toNat (ProcessR.mk ({ x130 with from_ := ({ From.zero with Late := l115 } : From) } : Procs) r133h1 (FromR.mk ({ From.zero with Late := l115 } : From) s114) (ToR.mk x130.to r133_3h1) (ToR.mk x130.orders r133_4h1))).set (i37 : Int).toNat (ProcessR.mk ({ x143 with to := To.zero } : Procs) r146h1 (FromR.mk x143.from_ r146_2h1) (ToR.mk To.zero Sl.nil) (ToR.mk x143.orders r146_4h1)))) (o41 ++ [⟨x49.log, r52h1⟩]) s38 l39 := by rw [map_set_same (y := (ProcessR.mk ({ x143 with to := To.zero } : Procs) r146h1 (FromR.mk x143.from_ r146_2h1) (ToR.mk To.zero Sl.nil) (ToR.mk x143.orders r146_4h1))) r146g rfl]; exact hw142
    refine Lst.storeS (i := 2) rfl rfl rfl rfl rfl Tryz.sizeOf41 (vs := enc (ToR.mk To.zero Sl.nil)) rfl (Enc.len _) (by decide) (Enc.one _) (xs' := encs (((rs43.set (i37 : Int).toNat (ProcessR.mk ({ x49 with log := r82 } : Procs) s84 (FromR.mk x49.from_ r52_2h1) (ToR.mk x49.to r52_3h1) (ToR.mk x49.orders r52_4h1))).set (i37 : Int).toNat (ProcessR.mk ({ x130 with from_ := ({ From.zero with Late := l115 } : From) } : Procs) r133h1 (FromR.mk ({ From.zero with Late := l115 } : From) s114) (ToR.mk x130.to r133_3h1) (ToR.mk x130.orders r133_4h1))).set (i37 : Int).toNat (ProcessR.mk ({ x143 with to := To.zero } : Procs) r146h1 (FromR.mk x143.from_ r146_2h1) (ToR.mk To.zero Sl.nil) (ToR.mk x143.orders r146_4h1)))) ((Put.elemN (s := 8) (x := (ProcessR.mk x143 r146h1 (FromR.mk x143.from_ r146_2h1) (ToR.mk x143.to r146_3h1) (ToR.mk x143.orders r146_4h1))) (y := (ProcessR.mk ({ x143 with to := To.zero } : Procs) r146h1 (FromR.mk x143.from_ r146_2h1) (ToR.mk To.zero Sl.nil) (ToR.mk x143.orders r146_4h1))) rfl r146g (ProcessR.put_to (p := (ProcessR.mk x143 r146h1 (FromR.mk x143.from_ r146_2h1) (ToR.mk x143.to r146_3h1) (ToR.mk x143.orders r146_4h1))) (l := To.zero) (Put.here ((Enc.len _).trans (Enc.len _).symm)))).off (by omega)) (L' := (.rows (α := Saying) 62 (List.map ProcessR.row ((rs43.set (i37 : Int).toNat (ProcessR.mk ({ x49 with log := r82 } : Procs) s84 (FromR.mk x49.from_ r52_2h1) (ToR.mk x49.to r52_3h1) (ToR.mk x49.orders r52_4h1))).set (i37 : Int).toNat (ProcessR.mk ({ x130 with from_ := ({ From.zero with Late := l115 } : From) } : Procs) r133h1 (FromR.mk ({ From.zero with Late := l115 } : From) s114) (ToR.mk x130.to r133_3h1) (ToR.mk x130.orders r133_4h1))))) :: (.rows (α := Saying) 62 (o41 ++ [⟨x49.log, r52h1⟩])) :: (.own s_a0_1 100 8 (encs (((rs43.set (i37 : Int).toNat (ProcessR.mk ({ x49 with log := r82 } : Procs) s84 (FromR.mk x49.from_ r52_2h1) (ToR.mk x49.to r52_3h1) (ToR.mk x49.orders r52_4h1))).set (i37 : Int).toNat (ProcessR.mk ({ x130 with from_ := ({ From.zero with Late := l115 } : From) } : Procs) r133h1 (FromR.mk ({ From.zero with Late := l115 } : From) s114) (ToR.mk x130.to r133_3h1) (ToR.mk x130.orders r133_4h1))).set (i37 : Int).toNat (ProcessR.mk ({ x143 with to := To.zero } : Procs) r146h1 (FromR.mk x143.from_ r146_2h1) (ToR.mk To.zero Sl.nil) (ToR.mk x143.orders r146_4h1))))) :: (.own s_a0_2 9 1 (encs a0.ordered)) :: (.own s_a0_3 9 1 (encs a0.way)) :: (.blk b_a0 (enc (WldR.mk ({ y40 with all := p147, ordered := a0.ordered, way := a0.way } : Wld) s_a0_1 s_a0_2 s_a0_3)) 95) :: (.blk b33 (enc r29.1) 34) :: L) rfl ?_
    refine Lst.its (L' := (.rows (α := Saying) 62 (List.map ProcessR.row (((rs43.set (i37 : Int).toNat (ProcessR.mk ({ x49 with log := r82 } : Procs) s84 (FromR.mk x49.from_ r52_2h1) (ToR.mk x49.to r52_3h1) (ToR.mk x49.orders r52_4h1))).set (i37 : Int).toNat (ProcessR.mk ({ x130 with from_ := ({ From.zero with Late := l115 } : From) } : Procs) r133h1 (FromR.mk ({ From.zero with Late := l115 } : From) s114) (ToR.mk x130.to r133_3h1) (ToR.mk x130.orders r133_4h1))).set (i37 : Int).toNat (ProcessR.mk ({ x143 with to := To.zero } : Procs) r146h1 (FromR.mk x143.from_ r146_2h1) (ToR.mk To.zero Sl.nil) (ToR.mk x143.orders r146_4h1))))) :: (.rows (α := Saying) 62 (o41 ++ [⟨x49.log, r52h1⟩])) :: (.own s_a0_1 100 8 (encs (((rs43.set (i37 : Int).toNat (ProcessR.mk ({ x49 with log := r82 } : Procs) s84 (FromR.mk x49.from_ r52_2h1) (ToR.mk x49.to r52_3h1) (ToR.mk x49.orders r52_4h1))).set (i37 : Int).toNat (ProcessR.mk ({ x130 with from_ := ({ From.zero with Late := l115 } : From) } : Procs) r133h1 (FromR.mk ({ From.zero with Late := l115 } : From) s114) (ToR.mk x130.to r133_3h1) (ToR.mk x130.orders r133_4h1))).set (i37 : Int).toNat (ProcessR.mk ({ x143 with to := To.zero } : Procs) r146h1 (FromR.mk x143.from_ r146_2h1) (ToR.mk To.zero Sl.nil) (ToR.mk x143.orders r146_4h1))))) :: (.own s_a0_2 9 1 (encs a0.ordered)) :: (.own s_a0_3 9 1 (encs a0.way)) :: (.blk b_a0 (enc (WldR.mk ({ y40 with all := p147, ordered := a0.ordered, way := a0.way } : Wld) s_a0_1 s_a0_2 s_a0_3)) 95) :: (.blk b33 (enc r29.1) 34) :: L) (by rw [map_set_same (y := (ProcessR.mk ({ x143 with to := To.zero } : Procs) r146h1 (FromR.mk x143.from_ r146_2h1) (ToR.mk To.zero Sl.nil) (ToR.mk x143.orders r146_4h1))) r146g rfl]) ?_
    refine Lst.nil ?_
    refine At.front (i := 1) rfl rfl ?_
    refine At.front (i := 6) rfl (L' := (.blk b33 (enc r29.1) 34) :: (.rows (α := Saying) 62 (o41 ++ [⟨x49.log, r52h1⟩])) :: (.rows (α := Saying) 62 (List.map ProcessR.row (((rs43.set (i37 : Int).toNat (ProcessR.mk ({ x49 with log := r82 } : Procs) s84 (FromR.mk x49.from_ r52_2h1) (ToR.mk x49.to r52_3h1) (ToR.mk x49.orders r52_4h1))).set (i37 : Int).toNat (ProcessR.mk ({ x130 with from_ := ({ From.zero with Late := l115 } : From) } : Procs) r133h1 (FromR.mk ({ From.zero with Late := l115 } : From) s114) (ToR.mk x130.to r133_3h1) (ToR.mk x130.orders r133_4h1))).set (i37 : Int).toNat (ProcessR.mk ({ x143 with to := To.zero } : Procs) r146h1 (FromR.mk x143.from_ r146_2h1) (ToR.mk To.zero Sl.nil) (ToR.mk x143.orders r146_4h1))))) :: (.own s_a0_1 100 8 (encs (((rs43.set (i37 : Int).toNat (ProcessR.mk ({ x49 with log := r82 } : Procs) s84 (FromR.mk x49.from_ r52_2h1) (ToR.mk x49.to r52_3h1) (ToR.mk x49.orders r52_4h1))).set (i37 : Int).toNat (ProcessR.mk ({ x130 with from_ := ({ From.zero with Late := l115 } : From) } : Procs) r133h1 (FromR.mk ({ From.zero with Late := l115 } : From) s114) (ToR.mk x130.to r133_3h1) (ToR.mk x130.orders r133_4h1))).set (i37 : Int).toNat (ProcessR.mk ({ x143 with to := To.zero } : Procs) r146h1 (FromR.mk x143.from_ r146_2h1) (ToR.mk To.zero Sl.nil) (ToR.mk x143.orders r146_4h1))))) :: (.own s_a0_2 9 1 (encs a0.ordered)) :: (.own s_a0_3 9 1 (encs a0.way)) :: (.blk b_a0 (enc (WldR.mk ({ y40 with all := p147, ordered := a0.ordered, way := a0.way } : Wld) s_a0_1 s_a0_2 s_a0_3)) 95) :: L) rfl ?_
    exact At.meet (s38, l39, ({ y40 with all := p147, ordered := a0.ordered, way := a0.way } : Wld), (o41 ++ [⟨x49.log, r52h1⟩]), p147, (((rs43.set (i37 : Int).toNat (ProcessR.mk ({ x49 with log := r82 } : Procs) s84 (FromR.mk x49.from_ r52_2h1) (ToR.mk x49.to r52_3h1) (ToR.mk x49.orders r52_4h1))).set (i37 : Int).toNat (ProcessR.mk ({ x130 with from_ := ({ From.zero with Late := l115 } : From) } : Procs) r133h1 (FromR.mk ({ From.zero with Late := l115 } : From) s114) (ToR.mk x130.to r133_3h1) (ToR.mk x130.orders r133_4h1))).set (i37 : Int).toNat (ProcessR.mk ({ x143 with to := To.zero } : Procs) r146h1 (FromR.mk x143.from_ r146_2h1) (ToR.mk To.zero Sl.nil) (ToR.mk x143.orders r146_4h1)))) (FLe.trans (FLe.trans (FLe.trans hF75 hF87) hF129) hF135) ⟨rfl, rfl, rfl, rfl, rfl, rfl, trivial⟩ rfl ⟨some_inj H, hm149, (All.monoProcessF ha150 fl (List.nil_sublist _)), hw151⟩
   have hc72 : decide ((i72 : Int) < (m68.length : Int)) = true := decide_eq_true (by omega)
   obtain ⟨c72, H, hgo72⟩ := rangeF_go H
   unfold world_World_Change_B5 at H
   try dsimp only at H
   refine sr0 ?_
   refine Lst.r (Ev.lss rfl rfl) ?_
   refine nt0 ?_
   refine Cd.seq ?_
   refine Cd.condT rfl hc72 ?_
   refine Cd.skip ?_
   refine At.then ?_
   refine Cd.seq ?_
   refine Cd.block ?_
   refine sr0 ?_
   obtain ⟨x76, h77, H⟩ := bind_some H
   have g78 := lat_some h77
   refine Lst.r (Ev.indexS (α := Saying) (xs := m68) rfl rfl Tryz.runUnderlying37 Tryz.sizeOf62 rfl (by decide) (by rw [← gl71]; exact Rd.cut (by decide) (Rd.among (i := 0) (j := 6) rfl rfl hw46) (by omega) (by omega)) g78.1 g78.2.1) ?_
   refine Lst.r (Ev.loadSA (α := Saying) rfl (by rw [← gl71]; exact Rd.cut (by decide) (Rd.among (i := 0) (j := 6) rfl rfl hw46) (by omega) (by omega)) Tryz.isAgg62 Tryz.sizeOf62 (ch := enc x76) (Enc.len _) (by decide) ((Get.elemN (s := 2) (x := x76) rfl g78.2.2 gh0).off (by omega))) ?_
   refine Lst.alloc (cs := enc Saying.zero) rfl rfl (by decide) Tryz.zeroValue62 rfl (fun b79 => ?_)
   refine Lst.store (i := 0) rfl rfl rfl rfl rfl Tryz.sizeOf62 (vs := enc x76) rfl (Enc.len _) (Enc.one _) (cs' := enc x76) (Put.here ((Enc.len _).trans (Enc.len _).symm)) (L' := (.blk b79 (enc x76) 62) :: (.rows (α := Saying) 62 (List.map ProcessR.row rs43)) :: (.own s_a0_1 100 8 (encs rs43)) :: (.own s_a0_2 9 1 (encs a0.ordered)) :: (.own s_a0_3 9 1 (encs a0.way)) :: (.blk b_a0 (enc (WldR.mk ({ y40 with all := l42, ordered := a0.ordered, way := a0.way } : Wld) s_a0_1 s_a0_2 s_a0_3)) 95) :: (.blk b33 (enc r29.1) 34) :: (.rows (α := Saying) 62 o41) :: L) rfl ?_
   refine nsr ?_
   refine Lst.r (Ev.fieldAddr (off' := 0) rfl Tryz.runUnderlying62 rfl Tryz.sizeOf3 rfl rfl) ?_
   refine Lst.r (Ev.load (i := 0) rfl rfl Tryz.isAgg3 (v := iv x76.From) ((Saying.get_From gh0).off (by rfl))) ?_
   refine mv0 rfl ?_
   refine Lst.r (Ev.eql rfl rfl) ?_
   refine nt0 ?_
   rcases (Bool.eq_false_or_eq_true (x76.From == (i37 : Int))).symm with hb81 | hb81
   ·replace H := ite_f hb81 H
    refine Cd.condF rfl hb81 ?_
    refine Cd.skip ?_
    refine At.in_normal ?_
    refine At.then ?_
    refine Cd.region ?_
    refine Lst.r (Ev.incr (by omega) rfl rfl) ?_
    refine mv0 rfl ?_
    refine Lst.nil ?_
    refine At.less (L' := (.rows (α := Saying) 62 (List.map ProcessR.row rs43)) :: (.own s_a0_1 100 8 (encs rs43)) :: (.own s_a0_2 9 1 (encs a0.ordered)) :: (.own s_a0_3 9 1 (encs a0.way)) :: (.blk b_a0 (enc (WldR.mk ({ y40 with all := l42, ordered := a0.ordered, way := a0.way } : Wld) s_a0_1 s_a0_2 s_a0_3)) 95) :: (.blk b33 (enc r29.1) 34) :: (.rows (α := Saying) 62 o41) :: L) (sc1 (sk1 (sk1 (sk1 (sk1 (sk1 (sk1 (sk1 (.refl _))))))))) ?_
    exact At.meet (i72 + 1, k72, y73) hF75 ⟨rfl, rfl, rfl, rfl, rfl, rfl, rfl, rfl, rfl, rfl, rfl, trivial⟩ rfl ⟨⟨hgo72 _ (some_inj H).symm, by omega⟩, Nat.lt_succ_self _⟩
   replace H := ite_t hb81 H
   refine Cd.condT rfl hb81 ?_
   refine Cd.region ?_
   refine mv0 rfl ?_
   refine Lst.r (Ev.add rfl rfl) ?_
   refine Lst.r (Ev.assign rfl) ?_
   refine Lst.nil ?_
   refine At.in_normal ?_
   refine At.then ?_
   refine Cd.region ?_
   refine Lst.r (Ev.incr (by omega) rfl rfl) ?_
   refine mv0 rfl ?_
   refine Lst.nil ?_
   refine At.less (L' := (.rows (α := Saying) 62 (List.map ProcessR.row rs43)) :: (.own s_a0_1 100 8 (encs rs43)) :: (.own s_a0_2 9 1 (encs a0.ordered)) :: (.own s_a0_3 9 1 (encs a0.way)) :: (.blk b_a0 (enc (WldR.mk ({ y40 with all := l42, ordered := a0.ordered, way := a0.way } : Wld) s_a0_1 s_a0_2 s_a0_3)) 95) :: (.blk b33 (enc r29.1) 34) :: (.rows (α := Saying) 62 o41) :: L) (sc1 (sk1 (sk1 (sk1 (sk1 (sk1 (sk1 (sk1 (.refl _))))))))) ?_
   exact At.meet (i72 + 1, k72, w64 (y73 + (1 : Int))) hF75 ⟨rfl, rfl, rfl, rfl, rfl, rfl, rfl, rfl, rfl, rfl, rfl, trivial⟩ rfl ⟨⟨hgo72 _ (some_inj H).symm, by omega⟩, Nat.lt_succ_self _⟩
  rintro F153 ⟨s53, l54, y55, o56, l57, rs58⟩ hF154 ⟨hy, fm59, fa60, hw61⟩
  subst hy
  refine Cd.as (e' := [(0, pv b_a0 0), (4, Sl.v s53), (7, pv b33 0), (10, Sl.at s_a0_1 ((i37 : Int).toNat * 8)), (67, iv (a0.all.length : Int)), (68, iv (i37 : Int))]) (L' := (.blk b33 (enc r29.1) 34) :: (.rows (α := Saying) 62 o56) :: (.rows (α := Saying) 62 (List.map ProcessR.row rs58)) :: (.own s_a0_1 100 8 (encs rs58)) :: (.own s_a0_2 9 1 (encs a0.ordered)) :: (.own s_a0_3 9 1 (encs a0.way)) :: (.blk b_a0 (enc (WldR.mk ({ y55 with all := l57, ordered := a0.ordered, way := a0.way } : Wld) s_a0_1 s_a0_2 s_a0_3)) 95) :: L) ⟨rfl, rfl, rfl, rfl, rfl, rfl, trivial⟩ rfl ?_
  replace H := HKo62
  try dsimp only [Sum.elim_inl] at H
  refine Cd.region ?_
  refine mv0 rfl ?_
  refine Lst.r (Ev.build (v := .agg (enc (ToR.mk To.zero Sl.nil)).toArray) (pv := []) trivial (fun w => by kernel_rfl)) ?_
  obtain ⟨x155, h156, H⟩ := bind_some H
  have g157 := lat_some h156
  obtain ⟨⟨r158v, r158h1, ⟨r158_2v, r158_2h1⟩, ⟨r158_3v, r158_3h1⟩, ⟨r158_4v, r158_4h1⟩⟩, r158g, r158e, r158m⟩ := map_get fm59 g157.2.2
  obtain rfl : x155 = r158v := r158e.symm
  have r158q : ProcessR.frel w0 _ _ (ProcessR.mk x155 r158h1 (FromR.mk r158_2v r158_2h1) (ToR.mk r158_3v r158_3h1) (ToR.mk r158_4v r158_4h1)) := fa60 _ r158m
  obtain ⟨r158_i2, r158_i3, r158_i4⟩ := r158q
  obtain ⟨r158_2e, r158_2q⟩ := r158_i2
  obtain rfl : r158_2v = x155.from_ := r158_2e
  have r158_2_f1 : Rd w0 _ _ _ _ := r158_2q
  obtain ⟨r158_3e, r158_3q⟩ := r158_i3
  obtain rfl : r158_3v = x155.to := r158_3e
  have r158_3_f1 : Rd w0 _ _ _ _ := r158_3q
  obtain ⟨r158_4e, r158_4q⟩ := r158_i4
  obtain rfl : r158_4v = x155.orders := r158_4e
  have r158_4_f1 : Rd w0 _ _ _ _ := r158_4q
  have r158wg := map_at ProcessR.row r158g
  refine Lst.r (Ev.nilCheckS (α := ProcessR) rfl (rdo 3 rfl rfl rfl) ((Get.elemN (s := 8) rfl r158g gh0).off (by omega)) rfl) ?_
  refine Lst.r (Ev.fieldS (α := ProcessR) (f' := (i37 : Int).toNat * 8 + 6) rfl (rdo 3 rfl rfl rfl) ((Get.elemN (s := 8) rfl r158g gh0).off (by omega)) rfl Tryz.runUnderlying100 rfl Tryz.sizeOf41 rfl rfl rfl) ?_
  obtain ⟨p159, h160, H⟩ := Let_some H
  have hm161 : (rs58.set (i37 : Int).toNat (ProcessR.mk ({ x155 with orders := To.zero } : Procs) r158h1 (FromR.mk x155.from_ r158_2h1) (ToR.mk x155.to r158_3h1) (ToR.mk To.zero Sl.nil))).map ProcessR.v = p159 := (map_set fm59 _ _).trans h160
  have ha162 : All ProcessR.frel w0 F153 [] (rs58.set (i37 : Int).toNat (ProcessR.mk ({ x155 with orders := To.zero } : Procs) r158h1 (FromR.mk x155.from_ r158_2h1) (ToR.mk x155.to r158_3h1) (ToR.mk To.zero Sl.nil))) := All.set (All.monoProcessF fa60 fl (List.nil_sublist _)) (⟨⟨rfl, (r158_2_f1.mono fl (List.nil_sublist _))⟩, ⟨rfl, (r158_3_f1.mono fl (List.nil_sublist _))⟩, ⟨rfl, Rd.nil⟩⟩)
  have hw163 : Among (List.map ProcessR.row (rs58.set (i37 : Int).toNat (ProcessR.mk ({ x155 with orders := To.zero } : Procs) r158h1 (FromR.mk x155.from_ r158_2h1) (ToR.mk x155.to r158_3h1) (ToR.mk To.zero Sl.nil)))) o56 s53 l54 := by rw [map_set_same (y := (ProcessR.mk ({ x155 with orders := To.zero } : Procs) r158h1 (FromR.mk x155.from_ r158_2h1) (ToR.mk x155.to r158_3h1) (ToR.mk To.zero Sl.nil))) r158g rfl]; exact hw61
  refine Lst.storeS (i := 3) rfl rfl rfl rfl rfl Tryz.sizeOf41 (vs := enc (ToR.mk To.zero Sl.nil)) rfl (Enc.len _) (by decide) (Enc.one _) (xs' := encs (rs58.set (i37 : Int).toNat (ProcessR.mk ({ x155 with orders := To.zero } : Procs) r158h1 (FromR.mk x155.from_ r158_2h1) (ToR.mk x155.to r158_3h1) (ToR.mk To.zero Sl.nil)))) ((Put.elemN (s := 8) (x := (ProcessR.mk x155 r158h1 (FromR.mk x155.from_ r158_2h1) (ToR.mk x155.to r158_3h1) (ToR.mk x155.orders r158_4h1))) (y := (ProcessR.mk ({ x155 with orders := To.zero } : Procs) r158h1 (FromR.mk x155.from_ r158_2h1) (ToR.mk x155.to r158_3h1) (ToR.mk To.zero Sl.nil))) rfl r158g (ProcessR.put_orders (p := (ProcessR.mk x155 r158h1 (FromR.mk x155.from_ r158_2h1) (ToR.mk x155.to r158_3h1) (ToR.mk x155.orders r158_4h1))) (l := To.zero) (Put.here ((Enc.len _).trans (Enc.len _).symm)))).off (by omega)) (L' := (.blk b33 (enc r29.1) 34) :: (.rows (α := Saying) 62 o56) :: (.rows (α := Saying) 62 (List.map ProcessR.row rs58)) :: (.own s_a0_1 100 8 (encs (rs58.set (i37 : Int).toNat (ProcessR.mk ({ x155 with orders := To.zero } : Procs) r158h1 (FromR.mk x155.from_ r158_2h1) (ToR.mk x155.to r158_3h1) (ToR.mk To.zero Sl.nil))))) :: (.own s_a0_2 9 1 (encs a0.ordered)) :: (.own s_a0_3 9 1 (encs a0.way)) :: (.blk b_a0 (enc (WldR.mk ({ y55 with all := p159, ordered := a0.ordered, way := a0.way } : Wld) s_a0_1 s_a0_2 s_a0_3)) 95) :: L) rfl ?_
  refine Lst.its (L' := (.blk b33 (enc r29.1) 34) :: (.rows (α := Saying) 62 o56) :: (.rows (α := Saying) 62 (List.map ProcessR.row (rs58.set (i37 : Int).toNat (ProcessR.mk ({ x155 with orders := To.zero } : Procs) r158h1 (FromR.mk x155.from_ r158_2h1) (ToR.mk x155.to r158_3h1) (ToR.mk To.zero Sl.nil))))) :: (.own s_a0_1 100 8 (encs (rs58.set (i37 : Int).toNat (ProcessR.mk ({ x155 with orders := To.zero } : Procs) r158h1 (FromR.mk x155.from_ r158_2h1) (ToR.mk x155.to r158_3h1) (ToR.mk To.zero Sl.nil))))) :: (.own s_a0_2 9 1 (encs a0.ordered)) :: (.own s_a0_3 9 1 (encs a0.way)) :: (.blk b_a0 (enc (WldR.mk ({ y55 with all := p159, ordered := a0.ordered, way := a0.way } : Wld) s_a0_1 s_a0_2 s_a0_3)) 95) :: L) (by rw [map_set_same (y := (ProcessR.mk ({ x155 with orders := To.zero } : Procs) r158h1 (FromR.mk x155.from_ r158_2h1) (ToR.mk x155.to r158_3h1) (ToR.mk To.zero Sl.nil))) r158g rfl]) ?_
  refine Lst.nil ?_
  refine At.in_normal ?_
  refine At.then ?_
  refine Cd.region ?_
  refine Lst.r (Ev.incr (by omega) rfl rfl) ?_
  refine mv0 rfl ?_
  refine Lst.nil ?_
  exact At.meet (i37 + 1, k37, s53, l54, ({ y55 with all := p159, ordered := a0.ordered, way := a0.way } : Wld), o56, p159, (rs58.set (i37 : Int).toNat (ProcessR.mk ({ x155 with orders := To.zero } : Procs) r158h1 (FromR.mk x155.from_ r158_2h1) (ToR.mk x155.to r158_3h1) (ToR.mk To.zero Sl.nil)))) (FLe.trans hF48 hF154) ⟨rfl, rfl, rfl, rfl, rfl, trivial⟩ rfl ⟨⟨hgo37 _ (some_inj H).symm, by omega, hm161, (All.monoProcessF ha162 fl (List.nil_sublist _)), hw163⟩, Nat.lt_succ_self _⟩
 have hc9 : decide ((i9 : Int) < (a0.all.length : Int)) = true := decide_eq_true (by omega)
 obtain ⟨c9, H, hgo9⟩ := rangeF_go H
 unfold world_World_Change_B0 at H
 try dsimp only at H
 refine sr0 ?_
 refine Lst.r (Ev.lss rfl rfl) ?_
 refine nt0 ?_
 refine Cd.seq ?_
 refine Cd.condT rfl hc9 ?_
 refine Cd.skip ?_
 refine At.then ?_
 refine Cd.seq ?_
 refine Cd.block ?_
 refine sr0 ?_
 refine mv0 rfl ?_
 refine Lst.r (Ev.assign rfl) ?_
 refine nt0 ?_
 refine Cd.block ?_
 refine sr0 ?_
 refine mv0 rfl ?_
 refine mv0 rfl ?_
 obtain ⟨r16, h17, H⟩ := bind_some H
 refine Lst.front (i := 5) rfl rfl ?_
 refine Lst.front (i := 5) rfl rfl ?_
 refine Lst.front (i := 5) rfl (L' := (.own s_a0_2 9 1 (encs a0.ordered)) :: (.own s_a0_3 9 1 (encs a0.way)) :: (.blk b_a0 (enc (WldR.mk a0 s_a0_1 s_a0_2 s_a0_3)) 95) :: (.rows (α := Saying) 62 (List.replicate 0 (⟨[], Sl.nil⟩ : LR Saying))) :: (.rows (α := Saying) 62 (List.map ProcessR.row rs_a0_1)) :: (.own s_a0_1 100 8 (encs rs_a0_1)) :: L) rfl ?_
 refine Lst.front (i := 5) rfl rfl ?_
 refine Lst.front (i := 5) rfl (L' := (.rows (α := Saying) 62 (List.map ProcessR.row rs_a0_1)) :: (.own s_a0_1 100 8 (encs rs_a0_1)) :: (.own s_a0_2 9 1 (encs a0.ordered)) :: (.own s_a0_3 9 1 (encs a0.way)) :: (.blk b_a0 (enc (WldR.mk a0 s_a0_1 s_a0_2 s_a0_3)) 95) :: (.rows (α := Saying) 62 (List.replicate 0 (⟨[], Sl.nil⟩ : LR Saying))) :: L) rfl ?_
 refine Lst.call1 rfl rfl (by decide) (vs := [pv b_a0 0, iv (i9 : Int)]) ⟨rfl, rfl, trivial⟩ Tryz.call65 (world_World_active_sim h17 w0 _ M _ (sc1 hM) hm_a0_1 (All.monoProcessF ha_a0_1 hF15 (List.nil_sublist _))) ?_
 refine Lst.r (Ev.assign rfl) ?_
 refine nt0 ?_
 rcases (Bool.eq_false_or_eq_true r16).symm with hb20 | hb20
 ·replace H := ite_f hb20 H
  refine Cd.condF rfl hb20 ?_
  refine Cd.quiet (by kernel_rfl) (by kernel_rfl) ?_
  refine Qt.r (Ev.move rfl) ?_
  refine Qt.r (Ev.move rfl) ?_
  refine Qt.r (Ev.nilCheck rfl) ?_
  refine Qt.r (Ev.fieldAddr (off' := 0) rfl Tryz.runUnderlying95 rfl Tryz.sizeOf34 rfl rfl) ?_
  refine Qt.r (Ev.fieldAddr (off' := 1) rfl Tryz.runUnderlying34 rfl Tryz.sizeOf5 rfl rfl) ?_
  refine Qt.r (Ev.load (i := 4) rfl rfl Tryz.isAgg5 (v := .int .u8 a0.view.Members.toNat) ((WldR.get_view (View.get_Members gh0)).off (by rfl))) ?_
  refine Qt.r (Ev.move rfl) ?_
  obtain ⟨n21, h22, H⟩ := bind_some H
  refine Qt.r (Ev.shlU8 (i := (1 : BitVec 8)) (m := n21) rfl (congrArg some (congrArg (Value.int .i64) (cnt_some h22)))) ?_
  refine Qt.r (Ev.andU8 (i := a0.view.Members) (j := (1 : BitVec 8) <<< n21) rfl rfl) ?_
  refine Qt.r (Ev.orU8 (i := y10) (j := a0.view.Members &&& ((1 : BitVec 8) <<< n21)) rfl rfl) ?_
  refine Qt.r (Ev.assign rfl) ?_
  refine Qt.done ?_
  refine At.in_normal ?_
  refine At.in_normal ?_
  refine At.then ?_
  refine Cd.as (e' := [(0, pv b_a0 0), (3, .int .u8 (y10 ||| (a0.view.Members &&& ((1 : BitVec 8) <<< n21))).toNat), (4, Sl.v s11), (18, iv (a0.all.length : Int)), (19, iv (i9 : Int))]) (L' := (.rows (α := Saying) 62 (List.map ProcessR.row rs_a0_1)) :: (.own s_a0_1 100 8 (encs rs_a0_1)) :: (.own s_a0_2 9 1 (encs a0.ordered)) :: (.own s_a0_3 9 1 (encs a0.way)) :: (.blk b_a0 (enc (WldR.mk a0 s_a0_1 s_a0_2 s_a0_3)) 95) :: (.rows (α := Saying) 62 (List.replicate 0 (⟨[], Sl.nil⟩ : LR Saying))) :: L) ⟨rfl, rfl, rfl, rfl, rfl, trivial⟩ rfl ?_
  refine Cd.region ?_
  refine Lst.r (Ev.incr (by omega) rfl rfl) ?_
  refine mv0 rfl ?_
  refine Lst.nil ?_
  refine At.front (i := 5) rfl (L' := (.rows (α := Saying) 62 (List.replicate 0 (⟨[], Sl.nil⟩ : LR Saying))) :: (.rows (α := Saying) 62 (List.map ProcessR.row rs_a0_1)) :: (.own s_a0_1 100 8 (encs rs_a0_1)) :: (.own s_a0_2 9 1 (encs a0.ordered)) :: (.own s_a0_3 9 1 (encs a0.way)) :: (.blk b_a0 (enc (WldR.mk a0 s_a0_1 s_a0_2 s_a0_3)) 95) :: L) rfl ?_
  exact At.meet (i9 + 1, k9, y10 ||| (a0.view.Members &&& ((1 : BitVec 8) <<< n21)), s11, l12) hF15 ⟨rfl, rfl, rfl, rfl, rfl, trivial⟩ rfl ⟨⟨hgo9 _ (some_inj H).symm, by omega, hw13⟩, Nat.lt_succ_self _⟩
 replace H := ite_t hb20 H
 refine Cd.condT rfl hb20 ?_
 refine sr0 ?_
 refine mv0 rfl ?_
 refine Lst.r (Ev.nilCheck rfl) ?_
 refine Lst.r (Ev.fieldAddr (off' := 2) rfl Tryz.runUnderlying95 rfl Tryz.sizeOf93 rfl rfl) ?_
 refine Lst.r (Ev.load (i := 4) rfl rfl Tryz.isAgg93 (v := Sl.v s_a0_1) ((WldR.get_all gh0).off (by rfl))) ?_
 refine mv0 rfl ?_
 obtain ⟨x24, h25, H⟩ := bind_some H
 have g26 := lat_some h25
 obtain ⟨⟨r27v, r27h1, ⟨r27_2v, r27_2h1⟩, ⟨r27_3v, r27_3h1⟩, ⟨r27_4v, r27_4h1⟩⟩, r27g, r27e, r27m⟩ := map_get hm_a0_1 g26.2.2
 obtain rfl : x24 = r27v := r27e.symm
 have r27q : ProcessR.frel w0 _ _ (ProcessR.mk x24 r27h1 (FromR.mk r27_2v r27_2h1) (ToR.mk r27_3v r27_3h1) (ToR.mk r27_4v r27_4h1)) := ha_a0_1 _ r27m
 obtain ⟨r27_i2, r27_i3, r27_i4⟩ := r27q
 obtain ⟨r27_2e, r27_2q⟩ := r27_i2
 obtain rfl : r27_2v = x24.from_ := r27_2e
 have r27_2_f1 : Rd w0 _ _ _ _ := r27_2q
 obtain ⟨r27_3e, r27_3q⟩ := r27_i3
 obtain rfl : r27_3v = x24.to := r27_3e
 have r27_3_f1 : Rd w0 _ _ _ _ := r27_3q
 obtain ⟨r27_4e, r27_4q⟩ := r27_i4
 obtain rfl : r27_4v = x24.orders := r27_4e
 have r27_4_f1 : Rd w0 _ _ _ _ := r27_4q
 have r27wg := map_at ProcessR.row r27g
 refine Lst.r (Ev.indexS (α := ProcessR) (xs := rs_a0_1) rfl rfl Tryz.runUnderlying93 Tryz.sizeOf100 rfl (by decide) (rdo 1 rfl rfl rfl) g26.1 (by have := map_len hm_a0_1; omega)) ?_
 refine Lst.r (Ev.fieldS (α := ProcessR) (f' := (i9 : Int).toNat * 8 + 1) rfl (rdo 1 rfl rfl rfl) ((Get.elemN (s := 8) rfl r27g gh0).off (by omega)) rfl Tryz.runUnderlying100 rfl Tryz.sizeOf37 rfl rfl rfl) ?_
 refine Lst.r (Ev.loadS (α := ProcessR) rfl (rdo 1 rfl rfl rfl) Tryz.isAgg37 (v := Sl.v r27h1) ((Get.elemN (s := 8) rfl r27g (ProcessR.get_log gh0)).off (by omega))) ?_
 refine Lst.r (Ev.assign rfl) ?_
 refine nt0 ?_
 refine Cd.seq ?_
 refine Cd.as (e' := [(0, pv b_a0 0), (3, .int .u8 y10.toNat), (4, Sl.v s11), (18, iv (a0.all.length : Int)), (19, iv (i9 : Int)), (6, Sl.v r27h1)]) (L' := (.rows (α := Saying) 62 (List.map ProcessR.row rs_a0_1)) :: (.own s_a0_1 100 8 (encs rs_a0_1)) :: (.own s_a0_2 9 1 (encs a0.ordered)) :: (.own s_a0_3 9 1 (encs a0.way)) :: (.blk b_a0 (enc (WldR.mk a0 s_a0_1 s_a0_2 s_a0_3)) 95) :: (.rows (α := Saying) 62 (List.replicate 0 (⟨[], Sl.nil⟩ : LR Saying))) :: L) ⟨rfl, rfl, rfl, rfl, rfl, rfl, trivial⟩ rfl ?_
 refine Cd.region ?_
 refine mv0 rfl ?_
 refine Lst.r (Ev.lenS (α := Saying) (xs := x24.log) (by decide) rfl rfl Tryz.runUnderlying37 (Rd.row (j := 0) rfl r27wg)) ?_
 refine mv0 rfl ?_
 refine Lst.r (Ev.lenS (α := Saying) (xs := l12) (by decide) rfl rfl Tryz.runUnderlying37 (Rd.among (i := 0) (j := 5) rfl rfl hw13)) ?_
 refine Lst.r (Ev.gtr rfl rfl) ?_
 refine nt0 ?_
 rcases (Bool.eq_false_or_eq_true (decide ((x24.log.length : Int) > (l12.length : Int)))).symm with hb28 | hb28
 ·replace H := ite_f hb28 H
  refine Cd.condF rfl hb28 ?_
  refine Cd.skip ?_
  refine At.in_normal ?_
  refine At.in_normal ?_
  refine At.then ?_
  refine Cd.region ?_
  refine Lst.r (Ev.incr (by omega) rfl rfl) ?_
  refine mv0 rfl ?_
  refine Lst.nil ?_
  refine At.front (i := 5) rfl (L' := (.rows (α := Saying) 62 (List.replicate 0 (⟨[], Sl.nil⟩ : LR Saying))) :: (.rows (α := Saying) 62 (List.map ProcessR.row rs_a0_1)) :: (.own s_a0_1 100 8 (encs rs_a0_1)) :: (.own s_a0_2 9 1 (encs a0.ordered)) :: (.own s_a0_3 9 1 (encs a0.way)) :: (.blk b_a0 (enc (WldR.mk a0 s_a0_1 s_a0_2 s_a0_3)) 95) :: L) rfl ?_
  exact At.meet (i9 + 1, k9, y10, s11, l12) hF15 ⟨rfl, rfl, rfl, rfl, rfl, trivial⟩ rfl ⟨⟨hgo9 _ (some_inj H).symm, by omega, hw13⟩, Nat.lt_succ_self _⟩
 replace H := ite_t hb28 H
 refine Cd.condT rfl hb28 ?_
 refine Cd.region ?_
 refine mv0 rfl ?_
 refine Lst.r (Ev.assign rfl) ?_
 refine Lst.nil ?_
 refine At.in_normal ?_
 refine At.in_normal ?_
 refine At.then ?_
 refine Cd.region ?_
 refine Lst.r (Ev.incr (by omega) rfl rfl) ?_
 refine mv0 rfl ?_
 refine Lst.nil ?_
 refine At.front (i := 5) rfl (L' := (.rows (α := Saying) 62 (List.replicate 0 (⟨[], Sl.nil⟩ : LR Saying))) :: (.rows (α := Saying) 62 (List.map ProcessR.row rs_a0_1)) :: (.own s_a0_1 100 8 (encs rs_a0_1)) :: (.own s_a0_2 9 1 (encs a0.ordered)) :: (.own s_a0_3 9 1 (encs a0.way)) :: (.blk b_a0 (enc (WldR.mk a0 s_a0_1 s_a0_2 s_a0_3)) 95) :: L) rfl ?_
 exact At.meet (i9 + 1, k9, y10, r27h1, x24.log) hF15 ⟨rfl, rfl, rfl, rfl, rfl, trivial⟩ rfl ⟨⟨hgo9 _ (some_inj H).symm, by omega, (Among.row r27wg)⟩, Nat.lt_succ_self _⟩
set_option maxRecDepth 20000 in
theorem parttop_doOf_sim {fu : Nat} {a0 : Wld} {a1 : Deed} {b_a0 : Nat} {s_a0_1 : Sl} {rs_a0_1 : List ProcessR} {s_a0_2 : Sl} {s_a0_3 : Sl} {r : (List Procs) × Wld × Int} (H : parttop_doOf fu a0 a1 = some r) (w0 : World) (F : Frz) (M L : List Item) (hM : M.Sublist L) (hT : Tab Tryz.prog w0) (hm_a0_1 : rs_a0_1.map ProcessR.v = a0.all) (ha_a0_1 : All ProcessR.frel w0 F [] rs_a0_1) : Ok Tryz.prog w0 28 [pv b_a0 0, .agg (enc a1).toArray] F ((.rows (α := Saying) 62 (List.map ProcessR.row rs_a0_1)) :: (.own s_a0_1 100 8 (encs rs_a0_1)) :: (.own s_a0_2 9 1 (encs a0.ordered)) :: (.own s_a0_3 9 1 (encs a0.way)) :: (.blk b_a0 (enc (WldR.mk a0 s_a0_1 s_a0_2 s_a0_3)) 95) :: L) (fun Fx L' v => ∃ (rs6 : List ProcessR) (s9 : Sl) (s11 : Sl), v = iv r.2.2 ∧ L' = (.own s9 9 1 (encs r.2.1.ordered)) :: (.own s11 9 1 (encs r.2.1.way)) :: (.rows (α := Saying) 62 (List.map ProcessR.row rs6)) :: (.own s_a0_1 100 8 (encs rs6)) :: (.blk b_a0 (enc (WldR.mk ({ r.2.1 with all := r.1 } : Wld) s_a0_1 s9 s11)) 95) :: L ∧ rs6.map ProcessR.v = r.1 ∧ All ProcessR.frel w0 Fx [] rs6) := by
 unfold parttop_doOf at H
 refine Ok.enter (m := 2) (n := 39) Tryz.func28 rfl rfl rfl (by decide) ?_
 refine Cd.env (e' := [(0, pv b_a0 0), (1, .agg (enc a1).toArray)]) rfl ?_
 refine sr0 ?_
 refine Lst.box rfl rfl (by decide) rfl (cs := enc a1) rfl (fun b6 => ?_)
 refine Lst.r (Ev.assign rfl) ?_
 refine nt0 ?_
 refine Cd.seq ?_
 refine sr0 ?_
 refine Lst.r (Ev.fieldAddr (off' := 0) rfl Tryz.runUnderlying30 rfl Tryz.sizeOf3 rfl rfl) ?_
 refine Lst.r (Ev.load (i := 0) rfl rfl Tryz.isAgg3 (v := iv a1.Kind) ((Deed.get_Kind gh0).off (by rfl))) ?_
 refine nt0 ?_
 refine Cd.block ?_
 refine sr0 ?_
 refine Lst.r (Ev.eql rfl rfl) ?_
 refine Lst.r (Ev.assign rfl) ?_
 refine nt0 ?_
 rcases Bool.eq_false_or_eq_true (a1.Kind == (1 : Int)) with hb8 | hb8
 ·replace H := ite_t hb8 H
  refine Cd.condT rfl hb8 ?_
  refine sr0 ?_
  refine mv0 rfl ?_
  refine Lst.r (Ev.fieldAddr (off' := 1) rfl Tryz.runUnderlying30 rfl Tryz.sizeOf3 rfl rfl) ?_
  refine Lst.r (Ev.load (i := 0) rfl rfl Tryz.isAgg3 (v := iv a1.Who) ((Deed.get_Who gh0).off (by rfl))) ?_
  refine Lst.r (Ev.fieldAddr (off' := 3) rfl Tryz.runUnderlying30 rfl Tryz.sizeOf9 rfl rfl) ?_
  refine Lst.r (Ev.load (i := 0) rfl rfl Tryz.isAgg9 (v := Str.v a1.Text) ((Deed.get_Text gh0).off (by rfl))) ?_
  obtain ⟨r9, h10, H⟩ := bind_some H
  refine Lst.front (i := 5) rfl rfl ?_
  refine Lst.front (i := 5) rfl rfl ?_
  refine Lst.front (i := 5) rfl (L' := (.own s_a0_2 9 1 (encs a0.ordered)) :: (.own s_a0_3 9 1 (encs a0.way)) :: (.blk b_a0 (enc (WldR.mk a0 s_a0_1 s_a0_2 s_a0_3)) 95) :: (.blk b6 (enc a1) 30) :: (.rows (α := Saying) 62 (List.map ProcessR.row rs_a0_1)) :: (.own s_a0_1 100 8 (encs rs_a0_1)) :: L) rfl ?_
  refine Lst.front (i := 5) rfl rfl ?_
  refine Lst.front (i := 5) rfl (L' := (.rows (α := Saying) 62 (List.map ProcessR.row rs_a0_1)) :: (.own s_a0_1 100 8 (encs rs_a0_1)) :: (.own s_a0_2 9 1 (encs a0.ordered)) :: (.own s_a0_3 9 1 (encs a0.way)) :: (.blk b_a0 (enc (WldR.mk a0 s_a0_1 s_a0_2 s_a0_3)) 95) :: (.blk b6 (enc a1) 30) :: L) rfl ?_
  refine Lst.call rfl rfl (by decide) (vs := [pv b_a0 0, iv a1.Who, Str.v a1.Text]) ⟨rfl, rfl, rfl, trivial⟩ Tryz.call31 (world_World_Say_sim h10 w0 _ M _ (sc1 hM) hm_a0_1 (All.monoProcessF ha_a0_1 fl (List.nil_sublist _))) (fun F15 L' v hF16 hv => ?_)
  obtain ⟨rs11, s14, rfl, rfl, fm12, fa13⟩ := hv
  refine Lst.r (Ev.assign rfl) ?_
  refine nt0 ?_
  obtain rfl := some_inj H
  refine Cd.ret ?_
  refine At.in_ret ?_
  refine At.then_ret ?_
  refine At.front (i := 3) rfl rfl ?_
  refine At.front (i := 3) rfl (L' := (.own s_a0_2 9 1 (encs a0.ordered)) :: (.own s14 9 1 (encs r9.2.1)) :: (.rows (α := Saying) 62 (List.map ProcessR.row rs11)) :: (.own s_a0_1 100 8 (encs rs11)) :: (.blk b_a0 (enc (WldR.mk ({ r9.2.2.1 with all := r9.1, ordered := a0.ordered, way := r9.2.1 } : Wld) s_a0_1 s_a0_2 s14)) 95) :: (.blk b6 (enc a1) 30) :: L) rfl ?_
  exact At.ret1 rfl (Res.tmp rfl) hF16 (sk1 (sk1 (sk1 (sk1 (sk1 (sc1 (.refl _))))))) ⟨rs11, s_a0_2, s14, rfl, rfl, fm12, (All.monoProcessF fa13 fl (List.nil_sublist _))⟩
 replace H := ite_f hb8 H
 refine Cd.condF rfl hb8 ?_
 refine sr0 ?_
 refine Lst.r (Ev.eql rfl rfl) ?_
 refine Lst.r (Ev.assign rfl) ?_
 refine nt0 ?_
 rcases Bool.eq_false_or_eq_true (a1.Kind == (2 : Int)) with hb17 | hb17
 ·replace H := ite_t hb17 H
  refine Cd.condT rfl hb17 ?_
  refine sr0 ?_
  refine mv0 rfl ?_
  refine Lst.r (Ev.fieldAddr (off' := 1) rfl Tryz.runUnderlying30 rfl Tryz.sizeOf3 rfl rfl) ?_
  refine Lst.r (Ev.load (i := 0) rfl rfl Tryz.isAgg3 (v := iv a1.Who) ((Deed.get_Who gh0).off (by rfl))) ?_
  obtain ⟨r18, h19, H⟩ := bind_some H
  refine Lst.front (i := 5) rfl rfl ?_
  refine Lst.front (i := 5) rfl rfl ?_
  refine Lst.front (i := 5) rfl (L' := (.own s_a0_2 9 1 (encs a0.ordered)) :: (.own s_a0_3 9 1 (encs a0.way)) :: (.blk b_a0 (enc (WldR.mk a0 s_a0_1 s_a0_2 s_a0_3)) 95) :: (.blk b6 (enc a1) 30) :: (.rows (α := Saying) 62 (List.map ProcessR.row rs_a0_1)) :: (.own s_a0_1 100 8 (encs rs_a0_1)) :: L) rfl ?_
  refine Lst.front (i := 5) rfl rfl ?_
  refine Lst.front (i := 5) rfl (L' := (.rows (α := Saying) 62 (List.map ProcessR.row rs_a0_1)) :: (.own s_a0_1 100 8 (encs rs_a0_1)) :: (.own s_a0_2 9 1 (encs a0.ordered)) :: (.own s_a0_3 9 1 (encs a0.way)) :: (.blk b_a0 (enc (WldR.mk a0 s_a0_1 s_a0_2 s_a0_3)) 95) :: (.blk b6 (enc a1) 30) :: L) rfl ?_
  refine Lst.call rfl rfl (by decide) (vs := [pv b_a0 0, iv a1.Who]) ⟨rfl, rfl, trivial⟩ Tryz.call35 (world_World_Again_sim h19 w0 _ M _ (sc1 hM) hm_a0_1 (All.monoProcessF ha_a0_1 fl (List.nil_sublist _))) (fun F21 L' v hF22 hv => ?_)
  obtain ⟨s20, rfl, rfl⟩ := hv
  refine Lst.r (Ev.assign rfl) ?_
  refine nt0 ?_
  obtain rfl := some_inj H
  refine Cd.ret ?_
  refine At.in_ret ?_
  refine At.then_ret ?_
  refine At.front (i := 3) rfl rfl ?_
  refine At.front (i := 3) rfl (L' := (.own s_a0_2 9 1 (encs a0.ordered)) :: (.own s20 9 1 (encs r18.1)) :: (.rows (α := Saying) 62 (List.map ProcessR.row rs_a0_1)) :: (.own s_a0_1 100 8 (encs rs_a0_1)) :: (.blk b_a0 (enc (WldR.mk ({ r18.2.1 with all := a0.all, ordered := a0.ordered, way := r18.1 } : Wld) s_a0_1 s_a0_2 s20)) 95) :: (.blk b6 (enc a1) 30) :: L) rfl ?_
  exact At.ret1 rfl (Res.tmp rfl) hF22 (sk1 (sk1 (sk1 (sk1 (sk1 (sc1 (.refl _))))))) ⟨rs_a0_1, s_a0_2, s20, rfl, rfl, hm_a0_1, (All.monoProcessF ha_a0_1 hF22 (List.nil_sublist _))⟩
 replace H := ite_f hb17 H
 refine Cd.condF rfl hb17 ?_
 refine sr0 ?_
 refine Lst.r (Ev.eql rfl rfl) ?_
 refine Lst.r (Ev.assign rfl) ?_
 refine nt0 ?_
 rcases Bool.eq_false_or_eq_true (a1.Kind == (3 : Int)) with hb23 | hb23
 ·replace H := ite_t hb23 H
  refine Cd.condT rfl hb23 ?_
  refine sr0 ?_
  refine mv0 rfl ?_
  refine Lst.r (Ev.fieldAddr (off' := 1) rfl Tryz.runUnderlying30 rfl Tryz.sizeOf3 rfl rfl) ?_
  refine Lst.r (Ev.load (i := 0) rfl rfl Tryz.isAgg3 (v := iv a1.Who) ((Deed.get_Who gh0).off (by rfl))) ?_
  refine Lst.r (Ev.fieldAddr (off' := 2) rfl Tryz.runUnderlying30 rfl Tryz.sizeOf3 rfl rfl) ?_
  refine Lst.r (Ev.load (i := 0) rfl rfl Tryz.isAgg3 (v := iv a1.How) ((Deed.get_How gh0).off (by rfl))) ?_
  obtain ⟨r24, h25, H⟩ := bind_some H
  refine Lst.front (i := 5) rfl rfl ?_
  refine Lst.front (i := 5) rfl rfl ?_
  refine Lst.front (i := 5) rfl (L' := (.own s_a0_2 9 1 (encs a0.ordered)) :: (.own s_a0_3 9 1 (encs a0.way)) :: (.blk b_a0 (enc (WldR.mk a0 s_a0_1 s_a0_2 s_a0_3)) 95) :: (.blk b6 (enc a1) 30) :: (.rows (α := Saying) 62 (List.map ProcessR.row rs_a0_1)) :: (.own s_a0_1 100 8 (encs rs_a0_1)) :: L) rfl ?_
  refine Lst.front (i := 5) rfl rfl ?_
  refine Lst.front (i := 5) rfl (L' := (.rows (α := Saying) 62 (List.map ProcessR.row rs_a0_1)) :: (.own s_a0_1 100 8 (encs rs_a0_1)) :: (.own s_a0_2 9 1 (encs a0.ordered)) :: (.own s_a0_3 9 1 (encs a0.way)) :: (.blk b_a0 (enc (WldR.mk a0 s_a0_1 s_a0_2 s_a0_3)) 95) :: (.blk b6 (enc a1) 30) :: L) rfl ?_
  refine Lst.call rfl rfl (by decide) (vs := [pv b_a0 0, iv a1.Who, iv a1.How]) ⟨rfl, rfl, rfl, trivial⟩ Tryz.call32 (world_World_Move_sim h25 w0 _ M _ (sc1 hM) hT hm_a0_1 (All.monoProcessF ha_a0_1 fl (List.nil_sublist _))) (fun F32 L' v hF33 hv => ?_)
  obtain ⟨rs26, s29, s30, rfl, rfl, fm27, fa28⟩ := hv
  refine Lst.r (Ev.assign rfl) ?_
  refine nt0 ?_
  obtain rfl := some_inj H
  refine Cd.ret ?_
  refine At.in_ret ?_
  refine At.then_ret ?_
  refine At.front (i := 3) rfl (L' := (.own s29 9 1 (encs r24.2.1)) :: (.own s30 9 1 (encs r24.2.2.1.way)) :: (.rows (α := Saying) 62 (List.map ProcessR.row rs26)) :: (.own s_a0_1 100 8 (encs rs26)) :: (.blk b_a0 (enc (WldR.mk ({ r24.2.2.1 with all := r24.1, ordered := r24.2.1 } : Wld) s_a0_1 s29 s30)) 95) :: (.blk b6 (enc a1) 30) :: L) rfl ?_
  exact At.ret1 rfl (Res.tmp rfl) hF33 (sk1 (sk1 (sk1 (sk1 (sk1 (sc1 (.refl _))))))) ⟨rs26, s29, s30, rfl, rfl, fm27, (All.monoProcessF fa28 fl (List.nil_sublist _))⟩
 replace H := ite_f hb23 H
 refine Cd.condF rfl hb23 ?_
 refine sr0 ?_
 refine Lst.r (Ev.eql rfl rfl) ?_
 refine Lst.r (Ev.assign rfl) ?_
 refine nt0 ?_
 rcases Bool.eq_false_or_eq_true (a1.Kind == (4 : Int)) with hb34 | hb34
 ·replace H := ite_t hb34 H
  refine Cd.condT rfl hb34 ?_
  refine sr0 ?_
  refine mv0 rfl ?_
  refine Lst.r (Ev.fieldAddr (off' := 1) rfl Tryz.runUnderlying30 rfl Tryz.sizeOf3 rfl rfl) ?_
  refine Lst.r (Ev.load (i := 0) rfl rfl Tryz.isAgg3 (v := iv a1.Who) ((Deed.get_Who gh0).off (by rfl))) ?_
  obtain ⟨r35, h36, H⟩ := bind_some H
  refine Lst.front (i := 5) rfl rfl ?_
  refine Lst.front (i := 5) rfl rfl ?_
  refine Lst.front (i := 5) rfl (L' := (.own s_a0_2 9 1 (encs a0.ordered)) :: (.own s_a0_3 9 1 (encs a0.way)) :: (.blk b_a0 (enc (WldR.mk a0 s_a0_1 s_a0_2 s_a0_3)) 95) :: (.blk b6 (enc a1) 30) :: (.rows (α := Saying) 62 (List.map ProcessR.row rs_a0_1)) :: (.own s_a0_1 100 8 (encs rs_a0_1)) :: L) rfl ?_
  refine Lst.front (i := 5) rfl rfl ?_
  refine Lst.front (i := 5) rfl (L' := (.rows (α := Saying) 62 (List.map ProcessR.row rs_a0_1)) :: (.own s_a0_1 100 8 (encs rs_a0_1)) :: (.own s_a0_2 9 1 (encs a0.ordered)) :: (.own s_a0_3 9 1 (encs a0.way)) :: (.blk b_a0 (enc (WldR.mk a0 s_a0_1 s_a0_2 s_a0_3)) 95) :: (.blk b6 (enc a1) 30) :: L) rfl ?_
  refine Lst.call rfl rfl (by decide) (vs := [pv b_a0 0, iv a1.Who]) ⟨rfl, rfl, trivial⟩ Tryz.call36 (world_World_Fall_sim h36 w0 _ M _ (sc1 hM) hm_a0_1 (All.monoProcessF ha_a0_1 fl (List.nil_sublist _))) (fun F40 L' v hF41 hv => ?_)
  obtain ⟨rs37, rfl, rfl, fm38, fa39⟩ := hv
  refine Lst.r (Ev.assign rfl) ?_
  refine nt0 ?_
  obtain rfl := some_inj H
  refine Cd.ret ?_
  refine At.in_ret ?_
  refine At.then_ret ?_
  refine At.front (i := 3) rfl rfl ?_
  refine At.front (i := 3) rfl (L' := (.own s_a0_2 9 1 (encs a0.ordered)) :: (.own s_a0_3 9 1 (encs a0.way)) :: (.rows (α := Saying) 62 (List.map ProcessR.row rs37)) :: (.own s_a0_1 100 8 (encs rs37)) :: (.blk b_a0 (enc (WldR.mk ({ r35.2.1 with all := r35.1, ordered := a0.ordered, way := a0.way } : Wld) s_a0_1 s_a0_2 s_a0_3)) 95) :: (.blk b6 (enc a1) 30) :: L) rfl ?_
  exact At.ret1 rfl (Res.tmp rfl) hF41 (sk1 (sk1 (sk1 (sk1 (sk1 (sc1 (.refl _))))))) ⟨rs37, s_a0_2, s_a0_3, rfl, rfl, fm38, (All.monoProcessF fa39 fl (List.nil_sublist _))⟩
 replace H := ite_f hb34 H
 refine Cd.condF rfl hb34 ?_
 refine sr0 ?_
 refine Lst.r (Ev.eql rfl rfl) ?_
 refine Lst.r (Ev.assign rfl) ?_
 refine nt0 ?_
 rcases Bool.eq_false_or_eq_true (a1.Kind == (5 : Int)) with hb42 | hb42
 ·replace H := ite_t hb42 H
  refine Cd.condT rfl hb42 ?_
  refine Cd.seq ?_
  refine Cd.as (e' := [(0, pv b_a0 0)]) (L' := (.blk b6 (enc a1) 30) :: (.rows (α := Saying) 62 (List.map ProcessR.row rs_a0_1)) :: (.own s_a0_1 100 8 (encs rs_a0_1)) :: (.own s_a0_2 9 1 (encs a0.ordered)) :: (.own s_a0_3 9 1 (encs a0.way)) :: (.blk b_a0 (enc (WldR.mk a0 s_a0_1 s_a0_2 s_a0_3)) 95) :: L) ⟨rfl, trivial⟩ rfl ?_
  refine Cd.region ?_
  refine mv0 rfl ?_
  obtain ⟨r43, h44, H⟩ := bind_some H
  refine Lst.front (i := 5) rfl rfl ?_
  refine Lst.front (i := 5) rfl rfl ?_
  refine Lst.front (i := 5) rfl (L' := (.own s_a0_2 9 1 (encs a0.ordered)) :: (.own s_a0_3 9 1 (encs a0.way)) :: (.blk b_a0 (enc (WldR.mk a0 s_a0_1 s_a0_2 s_a0_3)) 95) :: (.blk b6 (enc a1) 30) :: (.rows (α := Saying) 62 (List.map ProcessR.row rs_a0_1)) :: (.own s_a0_1 100 8 (encs rs_a0_1)) :: L) rfl ?_
  refine Lst.front (i := 5) rfl rfl ?_
  refine Lst.front (i := 5) rfl (L' := (.rows (α := Saying) 62 (List.map ProcessR.row rs_a0_1)) :: (.own s_a0_1 100 8 (encs rs_a0_1)) :: (.own s_a0_2 9 1 (encs a0.ordered)) :: (.own s_a0_3 9 1 (encs a0.way)) :: (.blk b_a0 (enc (WldR.mk a0 s_a0_1 s_a0_2 s_a0_3)) 95) :: (.blk b6 (enc a1) 30) :: L) rfl ?_
  refine Lst.call rfl rfl (by decide) (vs := [pv b_a0 0]) ⟨rfl, trivial⟩ Tryz.call37 (world_World_Change_sim h44 w0 _ M _ (sc1 hM) hm_a0_1 (All.monoProcessF ha_a0_1 fl (List.nil_sublist _))) (fun F50 L' v hF51 hv => ?_)
  obtain ⟨rs45, s48, rfl, rfl, fm46, fa47⟩ := hv
  refine Lst.r (Ev.assign rfl) ?_
  refine nt0 ?_
  obtain rfl := some_inj H
  refine Cd.ret ?_
  refine At.in_ret ?_
  refine At.then_ret ?_
  refine At.front (i := 3) rfl rfl ?_
  refine At.front (i := 1) rfl (L' := (.own s48 9 1 (encs r43.2.1.ordered)) :: (.own s_a0_3 9 1 (encs a0.way)) :: (.rows (α := Saying) 62 (List.map ProcessR.row rs45)) :: (.own s_a0_1 100 8 (encs rs45)) :: (.blk b_a0 (enc (WldR.mk ({ r43.2.1 with all := r43.1, way := a0.way } : Wld) s_a0_1 s48 s_a0_3)) 95) :: (.blk b6 (enc a1) 30) :: L) rfl ?_
  exact At.ret1 rfl (Res.tmp rfl) hF51 (sk1 (sk1 (sk1 (sk1 (sk1 (sc1 (.refl _))))))) ⟨rs45, s48, s_a0_3, rfl, rfl, fm46, (All.monoProcessF fa47 fl (List.nil_sublist _))⟩
 replace H := ite_f hb42 H
 refine Cd.condF rfl hb42 ?_
 refine Cd.skip ?_
 refine At.in_normal ?_
 refine At.then ?_
 refine Cd.seq ?_
 refine Cd.as (e' := []) (L' := (.blk b6 (enc a1) 30) :: (.rows (α := Saying) 62 (List.map ProcessR.row rs_a0_1)) :: (.own s_a0_1 100 8 (encs rs_a0_1)) :: (.own s_a0_2 9 1 (encs a0.ordered)) :: (.own s_a0_3 9 1 (encs a0.way)) :: (.blk b_a0 (enc (WldR.mk a0 s_a0_1 s_a0_2 s_a0_3)) 95) :: L) trivial rfl ?_
 refine Cd.region ?_
 refine Lst.r (Ev.assign rfl) ?_
 refine nt0 ?_
 obtain rfl := some_inj H
 refine Cd.ret ?_
 refine At.front (i := 4) rfl rfl ?_
 refine At.front (i := 4) rfl (L' := (.own s_a0_2 9 1 (encs a0.ordered)) :: (.own s_a0_3 9 1 (encs a0.way)) :: (.blk b6 (enc a1) 30) :: (.rows (α := Saying) 62 (List.map ProcessR.row rs_a0_1)) :: (.own s_a0_1 100 8 (encs rs_a0_1)) :: (.blk b_a0 (enc (WldR.mk a0 s_a0_1 s_a0_2 s_a0_3)) 95) :: L) rfl ?_
 exact At.ret1 rfl (Res.tmp rfl) fl (sk1 (sk1 (sc1 (sk1 (sk1 (sk1 (.refl _))))))) ⟨rs_a0_1, s_a0_2, s_a0_3, rfl, rfl, hm_a0_1, (All.monoProcessF ha_a0_1 fl (List.nil_sublist _))⟩
set_option maxRecDepth 20000 in
theorem slices_Grow_api_Deed_api_Deed_sim {a1 : Int} {r : (List Deed)} (H : slices_Grow_api_Deed_api_Deed a1 = some r) (w0 : World) (F : Frz) (M L : List Item) (hM : M.Sublist L) : Ok Tryz.prog w0 58 [Sl.v Sl.nil, iv a1] F (L) (fun _ L' v => ∃ (s1 : Sl), v = Sl.v s1 ∧ L' = (.own s1 30 4 (encs r)) :: L) := by
 unfold slices_Grow_api_Deed_api_Deed at H
 refine Ok.enter (m := 2) (n := 27) Tryz.func58 rfl rfl rfl (by decide) ?_
 refine Cd.env (e' := [(0, Sl.v Sl.nil), (1, iv a1)]) rfl ?_
 refine sr0 ?_
 refine Lst.addNil 30 4 ?_
 refine Lst.r (Ev.assign rfl) ?_
 refine nt0 ?_
 refine Cd.seq ?_
 refine sr0 ?_
 refine mv0 rfl ?_
 refine Lst.r (Ev.lss rfl rfl) ?_
 refine nt0 ?_
 rcases Bool.eq_false_or_eq_true (decide (a1 < (0 : Int))) with hb2 | hb2
 ·replace H := ite_t hb2 H
  cases H
 replace H := ite_f hb2 H
 refine Cd.condF rfl hb2 ?_
 refine Cd.skip ?_
 refine At.then ?_
 obtain ⟨o6, H, HKo6⟩ := bind_some H
 refine Cd.join (σ := Sl × (List Deed)) (fun (s3, l4) => [(0, Sl.v s3)]) (fun (s3, l4) => (.own s3 30 4 (encs l4)) :: (.own Sl.nil 30 4 (encs ([] : List Deed))) :: L) (fun _ (s3, l4) => l4 = o6) ?_ ?_
 ·refine sr0 ?_
  refine mv0 rfl ?_
  refine mv0 rfl ?_
  refine Lst.r (Ev.capNil rfl rfl Tryz.runUnderlying22) ?_
  refine mv0 rfl ?_
  refine Lst.r (Ev.lenNil rfl rfl Tryz.runUnderlying22) ?_
  refine Lst.r (Ev.sub rfl rfl) ?_
  refine Lst.r (Ev.sub rfl rfl) ?_
  refine Lst.r (Ev.assign rfl) ?_
  refine nsr ?_
  refine mv0 rfl ?_
  refine Lst.r (Ev.gtr rfl rfl) ?_
  refine nt0 ?_
  rcases (Bool.eq_false_or_eq_true (decide ((w64 (a1 - (w64 ((0 : Int) - (0 : Int))))) > (0 : Int)))).symm with hb7 | hb7
  ·replace H := ite_f hb7 H
   refine Cd.condF rfl hb7 ?_
   refine Cd.skip ?_
   refine At.addNil 30 4 ?_
   exact At.meet (Sl.nil, ([] : List Deed)) fl ⟨rfl, trivial⟩ rfl (some_inj H)
  replace H := ite_t hb7 H
  refine Cd.condT rfl hb7 ?_
  refine Cd.region ?_
  refine mv0 rfl ?_
  refine mv0 rfl ?_
  refine Lst.r (Ev.capNil rfl rfl Tryz.runUnderlying22) ?_
  refine Lst.r (Ev.cutNil rfl rfl Tryz.runUnderlying22 Tryz.sizeOf30) ?_
  refine mv0 rfl ?_
  obtain ⟨n10, h11, H⟩ := bind_some H
  have g12 := mkLen_some h11
  refine Lst.addNil 30 4 ?_
  refine Lst.appendZeros (α := Deed) (i := 0) (k := n10) Deed.zero rfl rfl (by decide) rfl (congrArg some (congrArg (Value.int .i64) g12.1)) Tryz.runUnderlying22 Tryz.runUnderlying3 Tryz.typeInfo30 rfl rfl rfl rfl rfl g12.2 rfl rfl (fun s13 => ?_)
  refine Lst.its (L' := (.own s13 30 4 (encs (List.replicate n10 Deed.zero))) :: (.own Sl.nil 30 4 (encs ([] : List Deed))) :: L) rfl ?_
  refine mv0 rfl ?_
  refine Lst.r (Ev.lenNil rfl rfl Tryz.runUnderlying22) ?_
  obtain ⟨m14, h15, H⟩ := bind_some H
  obtain ⟨g16, gl17⟩ := cutL_some h15
  try dsimp only at g16
  refine Lst.r (Ev.cut (α := Deed) (xs := (List.replicate n10 Deed.zero)) (i := 0) (j := (0 : Int)) rfl rfl rfl Tryz.runUnderlying22 Tryz.sizeOf30 rfl (by decide) (rdo 0 rfl rfl rfl) g16.1 g16.2.1 g16.2.2) ?_
  refine Lst.cutOwn (i := 0) (α := Deed) (lo := (0 : Int).toNat) (hi := ((0 : Int) : Int).toNat) rfl rfl rfl (by decide) (by omega) (by omega) (L' := (.own (s13.cut (0 : Int).toNat ((0 : Int) : Int).toNat 4) 30 4 (encs m14)) :: (.own Sl.nil 30 4 (encs ([] : List Deed))) :: L) (by subst gl17; rfl) ?_
  refine Lst.r (Ev.assign rfl) ?_
  refine Lst.nil ?_
  exact At.meet ((s13.cut (0 : Int).toNat ((0 : Int) : Int).toNat 4), m14) fl ⟨rfl, trivial⟩ rfl (some_inj H)
 rintro F19 ⟨s3, l4⟩ hF20 hy
 subst hy
 refine Cd.as (e' := [(0, Sl.v s3)]) (L' := (.own s3 30 4 (encs l4)) :: (.own Sl.nil 30 4 (encs ([] : List Deed))) :: L) ⟨rfl, trivial⟩ rfl ?_
 replace H := HKo6
 refine sr0 ?_
 refine mv0 rfl ?_
 refine Lst.r (Ev.assign rfl) ?_
 refine nt0 ?_
 obtain rfl := some_inj H
 refine Cd.ret ?_
 exact At.ret1 rfl (Res.tmp rfl) hF20 (sk1 (sc1 (.refl _))) ⟨s3, rfl, rfl⟩
set_option maxRecDepth 20000 in
theorem slices_Concat_api_Deed_api_Deed_sim {a0 : List (List Deed)} {s_a0 : Sl} {rs_a0 : List (LR Deed)} {r : (List Deed)} (H : slices_Concat_api_Deed_api_Deed a0 = some r) (w0 : World) (F : Frz) (M L : List Item) (hM : M.Sublist L) (hm_a0 : rs_a0.map LR.v = a0) (hs_a0 : Rd w0 F M s_a0 rs_a0) (ha_a0 : All LR.rel w0 F M rs_a0) : Ok Tryz.prog w0 30 [Sl.v s_a0] F (L) (fun _ L' v => ∃ (s1 : Sl), v = Sl.v s1 ∧ L' = (.own s1 30 4 (encs r)) :: L) := by
 unfold slices_Concat_api_Deed_api_Deed at H
 refine Ok.enter (m := 1) (n := 36) Tryz.func30 rfl rfl rfl (by decide) ?_
 refine Cd.env (e' := [(0, Sl.v s_a0)]) rfl ?_
 refine sr0 ?_
 refine Lst.addNil 30 4 ?_
 refine Lst.r (Ev.assign rfl) ?_
 refine nsr ?_
 refine Lst.r (Ev.assign rfl) ?_
 refine nt0 ?_
 refine Cd.seq ?_
 refine sr0 ?_
 refine mv0 rfl ?_
 refine Lst.r (Ev.lenM (map_len hm_a0) (Ev.lenS (α := LR Deed) (xs := rs_a0) (by decide) rfl rfl Tryz.runUnderlying123 (hs_a0.mono fl (sc1 hM)))) ?_
 refine mv0 rfl ?_
 refine nt0 ?_
 refine Cd.block ?_
 refine Cd.bound (Rd.le (α := LR Deed) (xs := rs_a0) (by decide) (hs_a0.mono fl (sc1 hM))) (fun hN32 => ?_)
 rw [map_len hm_a0] at hN32
 obtain ⟨ol3, H, HKl3⟩ := bind_some H
 refine Cd.loop (σ := Nat × Nat × Int) (fun (i3, k3, y4) => [(0, Sl.v s_a0), (3, iv y4), (9, Sl.v s_a0), (10, iv (a0.length : Int)), (11, iv (i3 : Int))]) (fun (i3, k3, y4) => (.own Sl.nil 30 4 (encs ([] : List Deed))) :: L) (fun _ => (fun (i3, k3, y4) => rangeF (slices_Concat_api_Deed_api_Deed_B0 a0) k3 i3 y4 = some ol3 ∧ i3 + k3 = a0.length)) (fun (i3, k3, y4) => k3) (0, a0.length, (0 : Int)) ⟨rfl, rfl, rfl, rfl, rfl, trivial⟩ rfl ⟨H, by omega⟩ ?_
 rintro F5 ⟨i3, k3, y4⟩ hF6 ⟨H, hik3⟩
 refine Cd.as (e' := [(0, Sl.v s_a0), (3, iv y4), (9, Sl.v s_a0), (10, iv (a0.length : Int)), (11, iv (i3 : Int))]) (L' := (.own Sl.nil 30 4 (encs ([] : List Deed))) :: L) ⟨rfl, rfl, rfl, rfl, rfl, trivial⟩ rfl ?_
 rcases k3 with _ | k3
 ·have hc3 : decide ((i3 : Int) < (a0.length : Int)) = false := decide_eq_false (by omega)
  replace H := rangeF_end H
  refine sr0 ?_
  refine Lst.r (Ev.lss rfl rfl) ?_
  refine nt0 ?_
  refine Cd.seq ?_
  refine Cd.condF rfl hc3 ?_
  refine Cd.exit ?_
  refine At.then_exit ?_
  refine At.then_exit ?_
  refine At.in_exit ?_
  subst H
  replace H := HKl3
  refine At.then ?_
  refine sr0 ?_
  refine mv0 rfl ?_
  obtain ⟨r12, h13, H⟩ := bind_some H
  refine Lst.call rfl rfl (by decide) (vs := [Sl.v Sl.nil, iv y4]) ⟨rfl, rfl, trivial⟩ Tryz.call58 (slices_Grow_api_Deed_api_Deed_sim h13 w0 _ M _ (sc1 hM)) (fun F16 L' v hF17 hv => ?_)
  obtain ⟨s14, rfl, rfl⟩ := hv
  refine Lst.r (Ev.assign rfl) ?_
  refine nt0 ?_
  refine Cd.seq ?_
  refine sr0 ?_
  refine mv0 rfl ?_
  refine Lst.r (Ev.lenM (map_len hm_a0) (Ev.lenS (α := LR Deed) (xs := rs_a0) (by decide) rfl rfl Tryz.runUnderlying123 (hs_a0.mono (FLe.trans hF6 hF17) (sc2 hM)))) ?_
  refine mv0 rfl ?_
  refine nt0 ?_
  refine Cd.block ?_
  refine Cd.bound (Rd.le (α := LR Deed) (xs := rs_a0) (by decide) (hs_a0.mono (FLe.trans hF6 hF17) (sc2 hM))) (fun hN31 => ?_)
  rw [map_len hm_a0] at hN31
  obtain ⟨ol19, H, HKl19⟩ := bind_some H
  refine Cd.loop (σ := Nat × Nat × Sl × (List Deed)) (fun (i19, k19, s20, l21) => [(6, Sl.v s20), (25, Sl.v s_a0), (26, iv (a0.length : Int)), (27, iv (i19 : Int))]) (fun (i19, k19, s20, l21) => (.own s20 30 4 (encs l21)) :: (.own Sl.nil 30 4 (encs ([] : List Deed))) :: L) (fun _ => (fun (i19, k19, s20, l21) => rangeF (slices_Concat_api_Deed_api_Deed_B2 a0) k19 i19 l21 = some ol19 ∧ i19 + k19 = a0.length)) (fun (i19, k19, s20, l21) => k19) (0, a0.length, s14, r12) ⟨rfl, rfl, rfl, rfl, trivial⟩ rfl ⟨H, by omega⟩ ?_
  rintro F22 ⟨i19, k19, s20, l21⟩ hF23 ⟨H, hik19⟩
  refine Cd.as (e' := [(6, Sl.v s20), (25, Sl.v s_a0), (26, iv (a0.length : Int)), (27, iv (i19 : Int))]) (L' := (.own s20 30 4 (encs l21)) :: (.own Sl.nil 30 4 (encs ([] : List Deed))) :: L) ⟨rfl, rfl, rfl, rfl, trivial⟩ rfl ?_
  rcases k19 with _ | k19
  ·have hc19 : decide ((i19 : Int) < (a0.length : Int)) = false := decide_eq_false (by omega)
   replace H := rangeF_end H
   refine sr0 ?_
   refine Lst.r (Ev.lss rfl rfl) ?_
   refine nt0 ?_
   refine Cd.seq ?_
   refine Cd.condF rfl hc19 ?_
   refine Cd.exit ?_
   refine At.then_exit ?_
   refine At.then_exit ?_
   refine At.in_exit ?_
   subst H
   replace H := HKl19
   refine At.then ?_
   refine sr0 ?_
   refine mv0 rfl ?_
   refine Lst.r (Ev.assign rfl) ?_
   refine nt0 ?_
   obtain rfl := some_inj H
   refine Cd.ret ?_
   exact At.ret1 rfl (Res.tmp rfl) (FLe.trans (FLe.trans hF6 hF17) hF23) (sk1 (sc1 (.refl _))) ⟨s20, rfl, rfl⟩
  have hc19 : decide ((i19 : Int) < (a0.length : Int)) = true := decide_eq_true (by omega)
  obtain ⟨c19, H, hgo19⟩ := rangeF_go H
  unfold slices_Concat_api_Deed_api_Deed_B2 at H
  try dsimp only at H
  refine sr0 ?_
  refine Lst.r (Ev.lss rfl rfl) ?_
  refine nt0 ?_
  refine Cd.seq ?_
  refine Cd.condT rfl hc19 ?_
  refine Cd.skip ?_
  refine At.then ?_
  refine Cd.seq ?_
  refine Cd.block ?_
  refine sr0 ?_
  obtain ⟨x24, h25, H⟩ := bind_some H
  have g26 := lat_some h25
  obtain ⟨⟨r27v, r27h⟩, r27g, r27e, r27m⟩ := map_get hm_a0 g26.2.2
  obtain rfl : x24 = r27v := r27e.symm
  have r27q : Rd w0 _ _ r27h x24 := ha_a0 _ r27m
  refine Lst.r (Ev.indexS (α := LR Deed) (xs := rs_a0) rfl rfl Tryz.runUnderlying123 Tryz.sizeOf22 rfl (by decide) (hs_a0.mono (FLe.trans (FLe.trans hF6 hF17) hF23) (sc2 hM)) g26.1 (by have := map_len hm_a0; omega)) ?_
  refine Lst.r (Ev.loadS (α := LR Deed) rfl (hs_a0.mono (FLe.trans (FLe.trans hF6 hF17) hF23) (sc2 hM)) Tryz.isAgg22 (v := Sl.v r27h) ((Get.elemN (s := 1) rfl r27g gh0).off (by omega))) ?_
  refine Lst.r (Ev.assign rfl) ?_
  refine nt0 ?_
  refine Cd.region ?_
  refine mv0 rfl ?_
  refine mv0 rfl ?_
  obtain ⟨u28, h29, H⟩ := bind_some H
  refine Lst.append (i := 0) (α := Deed) (xs := l21) (ys := x24) rfl rfl (by decide) rfl rfl Tryz.runUnderlying22 Tryz.typeInfo30 rfl rfl rfl rfl rfl rfl (r27q.mono (FLe.trans (FLe.trans hF6 hF17) hF23) (sc2 hM)) rfl (room_some h29) rfl (fun s30 => ?_)
  refine Lst.its (L' := (.own s30 30 4 (encs (l21 ++ x24))) :: (.own Sl.nil 30 4 (encs ([] : List Deed))) :: L) rfl ?_
  refine Lst.r (Ev.assign rfl) ?_
  refine Lst.nil ?_
  refine At.in_normal ?_
  refine At.then ?_
  refine Cd.region ?_
  refine Lst.r (Ev.incr (by omega) rfl rfl) ?_
  refine mv0 rfl ?_
  refine Lst.nil ?_
  exact At.meet (i19 + 1, k19, s30, l21 ++ x24) hF23 ⟨rfl, rfl, rfl, rfl, trivial⟩ rfl ⟨⟨hgo19 _ (some_inj H).symm, by omega⟩, Nat.lt_succ_self _⟩
 have hc3 : decide ((i3 : Int) < (a0.length : Int)) = true := decide_eq_true (by omega)
 obtain ⟨c3, H, hgo3⟩ := rangeF_go H
 unfold slices_Concat_api_Deed_api_Deed_B0 at H
 try dsimp only at H
 refine sr0 ?_
 refine Lst.r (Ev.lss rfl rfl) ?_
 refine nt0 ?_
 refine Cd.seq ?_
 refine Cd.condT rfl hc3 ?_
 refine Cd.skip ?_
 refine At.then ?_
 refine Cd.seq ?_
 refine Cd.block ?_
 refine sr0 ?_
 obtain ⟨x7, h8, H⟩ := bind_some H
 have g9 := lat_some h8
 obtain ⟨⟨r10v, r10h⟩, r10g, r10e, r10m⟩ := map_get hm_a0 g9.2.2
 obtain rfl : x7 = r10v := r10e.symm
 have r10q : Rd w0 _ _ r10h x7 := ha_a0 _ r10m
 refine Lst.r (Ev.indexS (α := LR Deed) (xs := rs_a0) rfl rfl Tryz.runUnderlying123 Tryz.sizeOf22 rfl (by decide) (hs_a0.mono hF6 (sc1 hM)) g9.1 (by have := map_len hm_a0; omega)) ?_
 refine Lst.r (Ev.loadS (α := LR Deed) rfl (hs_a0.mono hF6 (sc1 hM)) Tryz.isAgg22 (v := Sl.v r10h) ((Get.elemN (s := 1) rfl r10g gh0).off (by omega))) ?_
 refine Lst.r (Ev.assign rfl) ?_
 refine nsr ?_
 refine mv0 rfl ?_
 refine mv0 rfl ?_
 refine Lst.r (Ev.lenS (α := Deed) (xs := x7) (by decide) rfl rfl Tryz.runUnderlying22 (r10q.mono hF6 (sc1 hM))) ?_
 refine Lst.r (Ev.add rfl rfl) ?_
 refine Lst.r (Ev.assign rfl) ?_
 refine nsr ?_
 refine mv0 rfl ?_
 refine Lst.r (Ev.lss rfl rfl) ?_
 refine nt0 ?_
 rcases Bool.eq_false_or_eq_true (decide ((w64 (y4 + (x7.length : Int))) < (0 : Int))) with hb11 | hb11
 ·replace H := ite_t hb11 H
  cases H
 replace H := ite_f hb11 H
 refine Cd.condF rfl hb11 ?_
 refine Cd.skip ?_
 refine At.in_normal ?_
 refine At.then ?_
 refine Cd.region ?_
 refine Lst.r (Ev.incr (by omega) rfl rfl) ?_
 refine mv0 rfl ?_
 refine Lst.nil ?_
 exact At.meet (i3 + 1, k3, w64 (y4 + (x7.length : Int))) hF6 ⟨rfl, rfl, rfl, rfl, rfl, trivial⟩ rfl ⟨⟨hgo3 _ (some_inj H).symm, by omega⟩, Nat.lt_succ_self _⟩
set_option maxRecDepth 20000 in
theorem slices_Equal_api_Saying_api_Saying_sim {a0 : List Saying} {a1 : List Saying} {s_a0 : Sl} {s_a1 : Sl} {r : Bool} (H : slices_Equal_api_Saying_api_Saying a0 a1 = some r) (w0 : World) (F : Frz) (M L : List Item) (hM : M.Sublist L) (hs_a0 : Rd w0 F M s_a0 a0) (hs_a1 : Rd w0 F M s_a1 a1) : Ok Tryz.prog w0 18 [Sl.v s_a0, Sl.v s_a1] F (L) (Is (.bool r) (L)) := by
 unfold slices_Equal_api_Saying_api_Saying at H
 refine Ok.enter (m := 2) (n := 26) Tryz.func18 rfl rfl rfl (by decide) ?_
 refine Cd.env (e' := [(0, Sl.v s_a0), (1, Sl.v s_a1)]) rfl ?_
 refine sr0 ?_
 refine Lst.r (Ev.assign rfl) ?_
 refine nt0 ?_
 refine Cd.seq ?_
 refine sr0 ?_
 refine mv0 rfl ?_
 refine Lst.r (Ev.lenS (α := Saying) (xs := a0) (by decide) rfl rfl Tryz.runUnderlying37 (hs_a0.mono fl hM)) ?_
 refine mv0 rfl ?_
 refine Lst.r (Ev.lenS (α := Saying) (xs := a1) (by decide) rfl rfl Tryz.runUnderlying37 (hs_a1.mono fl hM)) ?_
 refine Lst.r (Ev.neq rfl rfl) ?_
 refine nt0 ?_
 rcases Bool.eq_false_or_eq_true ((a0.length : Int) != (a1.length : Int)) with hb1 | hb1
 ·replace H := ite_t hb1 H
  refine Cd.condT rfl hb1 ?_
  refine sr0 ?_
  refine Lst.r (Ev.assign rfl) ?_
  refine nt0 ?_
  obtain rfl := some_inj H
  refine Cd.ret ?_
  refine At.then_ret ?_
  exact At.ret1 rfl (Res.tmp rfl) fl (.refl _) ⟨rfl, rfl⟩
 replace H := ite_f hb1 H
 refine Cd.condF rfl hb1 ?_
 refine Cd.skip ?_
 refine At.then ?_
 refine Cd.seq ?_
 refine sr0 ?_
 refine mv0 rfl ?_
 refine Lst.r (Ev.lenS (α := Saying) (xs := a0) (by decide) rfl rfl Tryz.runUnderlying37 (hs_a0.mono fl hM)) ?_
 refine mv0 rfl ?_
 refine nt0 ?_
 refine Cd.block ?_
 refine Cd.bound (Rd.le (α := Saying) (xs := a0) (by decide) (hs_a0.mono fl hM)) (fun hN12 => ?_)
 obtain ⟨ol2, H, HKl2⟩ := andThen_some H
 refine Cd.loop (σ := Nat × Nat × Unit) (fun (i2, k2, _u) => [(0, Sl.v s_a0), (1, Sl.v s_a1), (12, iv (a0.length : Int)), (13, iv (i2 : Int))]) (fun (i2, k2, _u) => L) (fun _ => (fun (i2, k2, _u) => rangeM (slices_Equal_api_Saying_api_Saying_B0 a0 a1) k2 i2 () = some ol2 ∧ i2 + k2 = a0.length)) (fun (i2, k2, _u) => k2) (0, a0.length, ()) ⟨rfl, rfl, rfl, rfl, trivial⟩ rfl ⟨H, by omega⟩ ?_
 rintro F3 ⟨i2, k2, _u⟩ hF4 ⟨H, hik2⟩
 refine Cd.as (e' := [(0, Sl.v s_a0), (1, Sl.v s_a1), (12, iv (a0.length : Int)), (13, iv (i2 : Int))]) (L' := L) ⟨rfl, rfl, rfl, rfl, trivial⟩ rfl ?_
 rcases k2 with _ | k2
 ·have hc2 : decide ((i2 : Int) < (a0.length : Int)) = false := decide_eq_false (by omega)
  replace H := rangeM_end H
  refine sr0 ?_
  refine Lst.r (Ev.lss rfl rfl) ?_
  refine nt0 ?_
  refine Cd.seq ?_
  refine Cd.condF rfl hc2 ?_
  refine Cd.exit ?_
  refine At.then_exit ?_
  refine At.then_exit ?_
  refine At.in_exit ?_
  subst H
  replace H := HKl2
  refine At.then ?_
  refine sr0 ?_
  refine Lst.r (Ev.assign rfl) ?_
  refine nt0 ?_
  obtain rfl := some_inj H
  refine Cd.ret ?_
  exact At.ret1 rfl (Res.tmp rfl) hF4 (.refl _) ⟨rfl, rfl⟩
 have hc2 : decide ((i2 : Int) < (a0.length : Int)) = true := decide_eq_true (by omega)
 obtain ⟨c2, H, hgo2, hbrk2, hret2⟩ := rangeM_go H
 unfold slices_Equal_api_Saying_api_Saying_B0 at H
 try dsimp only at H
 refine sr0 ?_
 refine Lst.r (Ev.lss rfl rfl) ?_
 refine nt0 ?_
 refine Cd.seq ?_
 refine Cd.condT rfl hc2 ?_
 refine Cd.skip ?_
 refine At.then ?_
 refine Cd.seq ?_
 refine Cd.block ?_
 refine sr0 ?_
 refine mv0 rfl ?_
 refine Lst.r (Ev.assign rfl) ?_
 refine nt0 ?_
 refine Cd.seq ?_
 refine Cd.quiet (by kernel_rfl) (by kernel_rfl) ?_
 refine Qt.r (Ev.move rfl) ?_
 refine Qt.r (Ev.move rfl) ?_
 obtain ⟨x5, h6, H⟩ := bind_some H
 have g7 := lat_some h6
 refine Qt.r (Ev.indexS (α := Saying) (xs := a0) rfl rfl Tryz.runUnderlying37 Tryz.sizeOf62 rfl (by decide) (hs_a0.mono hF4 hM) g7.1 g7.2.1) ?_
 refine Qt.r (Ev.loadSA (α := Saying) rfl (hs_a0.mono hF4 hM) Tryz.isAgg62 Tryz.sizeOf62 (ch := enc x5) (Enc.len _) (by decide) ((Get.elemN (s := 2) (x := x5) rfl g7.2.2 gh0).off (by omega))) ?_
 refine Qt.r (Ev.move rfl) ?_
 refine Qt.r (Ev.move rfl) ?_
 obtain ⟨x8, h9, H⟩ := bind_some H
 have g10 := lat_some h9
 refine Qt.r (Ev.indexS (α := Saying) (xs := a1) rfl rfl Tryz.runUnderlying37 Tryz.sizeOf62 rfl (by decide) (hs_a1.mono hF4 hM) g10.1 g10.2.1) ?_
 refine Qt.r (Ev.loadSA (α := Saying) rfl (hs_a1.mono hF4 hM) Tryz.isAgg62 Tryz.sizeOf62 (ch := enc x8) (Enc.len _) (by decide) ((Get.elemN (s := 2) (x := x8) rfl g10.2.2 gh0).off (by omega))) ?_
 refine Qt.r (Ev.neqA rfl rfl (by kernel_rfl) (eq62 _ _)) ?_
 refine Qt.done ?_
 refine At.then ?_
 rcases Bool.eq_false_or_eq_true (!(decide (x5 = x8))) with hb11 | hb11
 ·replace H := ite_t hb11 H
  refine Cd.condT rfl hb11 ?_
  refine Cd.seq ?_
  refine Cd.as (e' := []) (L' := L) trivial rfl ?_
  refine Cd.region ?_
  refine Lst.r (Ev.assign rfl) ?_
  refine nt0 ?_
  have H := hret2 _ (some_inj H).symm
  subst H
  replace H := HKl2
  obtain rfl := some_inj H
  refine Cd.ret ?_
  refine At.in_ret ?_
  refine At.then_ret ?_
  refine At.then_ret ?_
  refine At.in_ret ?_
  refine At.then_ret ?_
  exact At.ret1 rfl (Res.tmp rfl) hF4 (.refl _) ⟨rfl, rfl⟩
 replace H := ite_f hb11 H
 refine Cd.condF rfl hb11 ?_
 refine Cd.skip ?_
 refine At.in_normal ?_
 refine At.then ?_
 refine Cd.region ?_
 refine Lst.r (Ev.incr (by omega) rfl rfl) ?_
 refine mv0 rfl ?_
 refine Lst.nil ?_
 exact At.meet (i2 + 1, k2, ()) hF4 ⟨rfl, rfl, rfl, rfl, trivial⟩ rfl ⟨⟨hgo2 _ (some_inj H).symm, by omega⟩, Nat.lt_succ_self _⟩
set_option maxRecDepth 20000 in
theorem parttop_TopReplay_sim {fu : Nat} {a0 : Int} {a1 : List Deed} {a2 : List Deed} {s_a1 : Sl} {s_a2 : Sl} {r : Bool} (H : parttop_TopReplay fu a0 a1 a2 = some r) (w0 : World) (F : Frz) (M L : List Item) (hM : M.Sublist L) (hT : Tab Tryz.prog w0) (hs_a1 : Rd w0 F M s_a1 a1) (hs_a2 : Rd w0 F M s_a2 a2) : Ok Tryz.prog w0 7 [iv a0, Sl.v s_a1, Sl.v s_a2] F (L) (Is (.bool r) (L)) := by
 unfold parttop_TopReplay at H
 refine Ok.enter (m := 3) (n := 106) Tryz.func7 rfl rfl rfl (by decide) ?_
 refine Cd.env (e' := [(0, iv a0), (1, Sl.v s_a1), (2, Sl.v s_a2)]) rfl ?_
 refine sr0 ?_
 refine Lst.r (Ev.assign rfl) ?_
 refine nt0 ?_
 refine Cd.seq ?_
 refine sr0 ?_
 obtain ⟨r1, h2, H⟩ := bind_some H
 refine Lst.call1 rfl rfl (by decide) (vs := []) trivial Tryz.call26 (parttop_works_sim h2 w0 _ M _ hM hT) ?_
 refine Lst.r (Ev.not rfl) ?_
 refine nt0 ?_
 rcases Bool.eq_false_or_eq_true (!r1) with hb5 | hb5
 ·replace H := ite_t hb5 H
  refine Cd.condT rfl hb5 ?_
  refine sr0 ?_
  refine Lst.r (Ev.assign rfl) ?_
  refine nt0 ?_
  obtain rfl := some_inj H
  refine Cd.ret ?_
  refine At.then_ret ?_
  exact At.ret1 rfl (Res.tmp rfl) fl (.refl _) ⟨rfl, rfl⟩
 replace H := ite_f hb5 H
 refine Cd.condF rfl hb5 ?_
 refine Cd.skip ?_
 refine At.then ?_
 refine sr0 ?_
 refine mv0 rfl ?_
 obtain ⟨r6, h7, H⟩ := bind_some H
 refine Lst.call1 rfl rfl (by decide) (vs := [iv a0]) ⟨rfl, trivial⟩ Tryz.call27 (parttop_few_sim h7 w0 _ M _ hM) ?_
 refine Lst.r (Ev.assign rfl) ?_
 refine nsr ?_
 refine mv0 rfl ?_
 obtain ⟨r10, h11, H⟩ := bind_some H
 refine Lst.call rfl rfl (by decide) (vs := [iv r6]) ⟨rfl, trivial⟩ Tryz.call9 (world_New_sim h11 w0 _ M _ hM) (fun F24 L' v hF25 hv => ?_)
 obtain ⟨b12, s13, rs14, s19, s21, rfl, rfl, fm15, fa18⟩ := hv
 refine mv0 rfl ?_
 refine Lst.r (Ev.extract rfl rfl) ?_
 refine Lst.r (Ev.extract rfl rfl) ?_
 refine Lst.r (Ev.assign rfl) ?_
 refine Lst.r (Ev.assign rfl) ?_
 refine nsr ?_
 refine mv0 rfl ?_
 obtain ⟨r26, h27, H⟩ := bind_some H
 refine Lst.call rfl rfl (by decide) (vs := [iv r6]) ⟨rfl, trivial⟩ Tryz.call9 (world_New_sim h27 w0 _ M _ (sc4 (sc1 hM))) (fun F40 L' v hF41 hv => ?_)
 obtain ⟨b28, s29, rs30, s35, s37, rfl, rfl, fm31, fa34⟩ := hv
 refine mv0 rfl ?_
 refine Lst.r (Ev.extract rfl rfl) ?_
 refine Lst.r (Ev.extract rfl rfl) ?_
 refine Lst.r (Ev.assign rfl) ?_
 refine Lst.r (Ev.assign rfl) ?_
 refine nt0 ?_
 refine Cd.seq ?_
 refine Cd.seq ?_
 refine Cd.as (e' := [(0, iv r6), (1, Sl.v s_a1), (2, Sl.v s_a2), (7, pv b12 0), (8, iv r10.2), (9, pv b28 0), (10, iv r26.2)]) (L' := (.rows (α := Saying) 62 (List.map ProcessR.row rs30)) :: (.own s29 100 8 (encs rs30)) :: (.own s35 9 1 (encs r26.1.ordered)) :: (.own s37 9 1 (encs r26.1.way)) :: (.blk b28 (enc (WldR.mk r26.1 s29 s35 s37)) 95) :: (.rows (α := Saying) 62 (List.map ProcessR.row rs14)) :: (.own s13 100 8 (encs rs14)) :: (.own s19 9 1 (encs r10.1.ordered)) :: (.own s21 9 1 (encs r10.1.way)) :: (.blk b12 (enc (WldR.mk r10.1 s13 s19 s21)) 95) :: L) ⟨rfl, rfl, rfl, rfl, rfl, rfl, rfl, trivial⟩ rfl ?_
 refine Cd.region ?_
 refine mv0 rfl ?_
 refine Lst.r (Ev.neq rfl rfl) ?_
 refine mv0 rfl ?_
 obtain ⟨o42, H, HKo42⟩ := bind_some H
 refine Lst.join (σ := Bool) 3 (fun y43 => [(0, iv r6), (1, Sl.v s_a1), (2, Sl.v s_a2), (7, pv b12 0), (9, pv b28 0), (41, .bool y43)]) (fun y43 => (.rows (α := Saying) 62 (List.map ProcessR.row rs30)) :: (.own s29 100 8 (encs rs30)) :: (.own s35 9 1 (encs r26.1.ordered)) :: (.own s37 9 1 (encs r26.1.way)) :: (.blk b28 (enc (WldR.mk r26.1 s29 s35 s37)) 95) :: (.rows (α := Saying) 62 (List.map ProcessR.row rs14)) :: (.own s13 100 8 (encs rs14)) :: (.own s19 9 1 (encs r10.1.ordered)) :: (.own s21 9 1 (encs r10.1.way)) :: (.blk b12 (enc (WldR.mk r10.1 s13 s19 s21)) 95) :: L) (fun _ y43 => y43 = o42) ?_ ?_
 ·rcases Bool.eq_false_or_eq_true (r10.2 != (0 : Int)) with hb44 | hb44
  ·replace H := ite_t hb44 H
   refine Lst.skip rfl rfl rfl hb44 rfl (by decide) ?_
   refine Lst.skip rfl rfl rfl hb44 rfl (by decide) ?_
   refine Lst.r (Ev.pickT rfl hb44 rfl) ?_
   refine Lst.nil ?_
   exact At.meet true fl ⟨rfl, rfl, rfl, rfl, rfl, rfl, trivial⟩ rfl (some_inj H)
  replace H := ite_f hb44 H
  refine Lst.rG hb44 (Ev.move rfl) ?_
  refine Lst.rG hb44 (Ev.neq rfl rfl) ?_
  refine Lst.r (Ev.pickF rfl hb44 rfl) ?_
  refine Lst.nil ?_
  exact At.meet (r26.2 != (0 : Int)) fl ⟨rfl, rfl, rfl, rfl, rfl, rfl, trivial⟩ rfl (some_inj H)
 rintro F45 y43 hF46 hy
 subst hy
 refine Lst.as (e' := [(0, iv r6), (1, Sl.v s_a1), (2, Sl.v s_a2), (7, pv b12 0), (9, pv b28 0), (41, .bool y43)]) (L' := (.rows (α := Saying) 62 (List.map ProcessR.row rs30)) :: (.own s29 100 8 (encs rs30)) :: (.own s35 9 1 (encs r26.1.ordered)) :: (.own s37 9 1 (encs r26.1.way)) :: (.blk b28 (enc (WldR.mk r26.1 s29 s35 s37)) 95) :: (.rows (α := Saying) 62 (List.map ProcessR.row rs14)) :: (.own s13 100 8 (encs rs14)) :: (.own s19 9 1 (encs r10.1.ordered)) :: (.own s21 9 1 (encs r10.1.way)) :: (.blk b12 (enc (WldR.mk r10.1 s13 s19 s21)) 95) :: L) ⟨rfl, rfl, rfl, rfl, rfl, rfl, trivial⟩ rfl ?_
 replace H := HKo42
 refine nt0 ?_
 rcases Bool.eq_false_or_eq_true y43 with hb47 | hb47
 ·replace H := ite_t hb47 H
  refine Cd.condT rfl hb47 ?_
  refine sr0 ?_
  refine Lst.r (Ev.assign rfl) ?_
  refine nt0 ?_
  obtain rfl := some_inj H
  refine Cd.ret ?_
  refine At.then_ret ?_
  exact At.ret1 rfl (Res.tmp rfl) (FLe.trans (FLe.trans hF25 hF41) hF46) (sc1 (sc1 (sc1 (sc1 (sc1 (sc1 (sc1 (sc1 (sc1 (sc1 (.refl _))))))))))) ⟨rfl, rfl⟩
 replace H := ite_f hb47 H
 refine Cd.condF rfl hb47 ?_
 refine Cd.skip ?_
 refine At.then ?_
 refine sr0 ?_
 refine Lst.addNil 24 1 ?_
 refine Lst.r (Ev.assign rfl) ?_
 refine nt0 ?_
 refine Cd.seq ?_
 refine sr0 ?_
 refine mv0 rfl ?_
 refine Lst.r (Ev.lenS (α := Deed) (xs := a1) (by decide) rfl rfl Tryz.runUnderlying22 (hs_a1.mono (FLe.trans (FLe.trans hF25 hF41) hF46) (sc8 (sc2 (sc1 hM))))) ?_
 refine mv0 rfl ?_
 refine nt0 ?_
 refine Cd.block ?_
 refine Cd.front (i := 9) rfl rfl ?_
 refine Cd.front (i := 9) rfl (L' := (.own s19 9 1 (encs r10.1.ordered)) :: (.own s21 9 1 (encs r10.1.way)) :: (.own Sl.nil 24 1 (encs ([] : List Int))) :: (.rows (α := Saying) 62 (List.map ProcessR.row rs30)) :: (.own s29 100 8 (encs rs30)) :: (.own s35 9 1 (encs r26.1.ordered)) :: (.own s37 9 1 (encs r26.1.way)) :: (.blk b28 (enc (WldR.mk r26.1 s29 s35 s37)) 95) :: (.rows (α := Saying) 62 (List.map ProcessR.row rs14)) :: (.own s13 100 8 (encs rs14)) :: (.blk b12 (enc (WldR.mk r10.1 s13 s19 s21)) 95) :: L) rfl ?_
 refine Cd.bound (Rd.le (α := Deed) (xs := a1) (by decide) (hs_a1.mono (FLe.trans (FLe.trans hF25 hF41) hF46) (sc8 (sc2 (sc1 hM))))) (fun hN158 => ?_)
 obtain ⟨ol49, H, HKl49⟩ := bind_some H
 refine Cd.loop (σ := Nat × Nat × Wld × Sl × Sl × Sl × (List Int) × (List Procs) × (List ProcessR)) (fun (i49, k49, y50, s51, s53, s55, l56, l57, rs58) => [(0, iv r6), (1, Sl.v s_a1), (2, Sl.v s_a2), (7, pv b12 0), (9, pv b28 0), (11, Sl.v s55), (42, Sl.v s_a1), (43, iv (a1.length : Int)), (44, iv (i49 : Int))]) (fun (i49, k49, y50, s51, s53, s55, l56, l57, rs58) => (.own s51 9 1 (encs y50.ordered)) :: (.own s53 9 1 (encs y50.way)) :: (.own s55 24 1 (encs l56)) :: (.rows (α := Saying) 62 (List.map ProcessR.row rs30)) :: (.own s29 100 8 (encs rs30)) :: (.own s35 9 1 (encs r26.1.ordered)) :: (.own s37 9 1 (encs r26.1.way)) :: (.blk b28 (enc (WldR.mk r26.1 s29 s35 s37)) 95) :: (.rows (α := Saying) 62 (List.map ProcessR.row rs58)) :: (.own s13 100 8 (encs rs58)) :: (.blk b12 (enc (WldR.mk ({ y50 with all := l57 } : Wld) s13 s51 s53)) 95) :: L) (fun Fx => (fun (i49, k49, y50, s51, s53, s55, l56, l57, rs58) => rangeF (parttop_TopReplay_B0 fu a1) k49 i49 (y50, l56, l57) = some ol49 ∧ i49 + k49 = a1.length ∧ rs58.map ProcessR.v = l57 ∧ All ProcessR.frel w0 Fx [] rs58)) (fun (i49, k49, y50, s51, s53, s55, l56, l57, rs58) => k49) (0, a1.length, r10.1, s19, s21, Sl.nil, ([] : List Int), r10.1.all, rs14) ⟨rfl, rfl, rfl, rfl, rfl, rfl, rfl, rfl, rfl, trivial⟩ rfl ⟨H, by omega, fm15, (All.monoProcessF fa18 (FLe.trans hF41 hF46) (List.nil_sublist _))⟩ ?_
 rintro F61 ⟨i49, k49, y50, s51, s53, s55, l56, l57, rs58⟩ hF62 ⟨H, hik49, fm59, fa60⟩
 refine Cd.as (e' := [(0, iv r6), (1, Sl.v s_a1), (2, Sl.v s_a2), (7, pv b12 0), (9, pv b28 0), (11, Sl.v s55), (42, Sl.v s_a1), (43, iv (a1.length : Int)), (44, iv (i49 : Int))]) (L' := (.own s51 9 1 (encs y50.ordered)) :: (.own s53 9 1 (encs y50.way)) :: (.own s55 24 1 (encs l56)) :: (.rows (α := Saying) 62 (List.map ProcessR.row rs30)) :: (.own s29 100 8 (encs rs30)) :: (.own s35 9 1 (encs r26.1.ordered)) :: (.own s37 9 1 (encs r26.1.way)) :: (.blk b28 (enc (WldR.mk r26.1 s29 s35 s37)) 95) :: (.rows (α := Saying) 62 (List.map ProcessR.row rs58)) :: (.own s13 100 8 (encs rs58)) :: (.blk b12 (enc (WldR.mk ({ y50 with all := l57 } : Wld) s13 s51 s53)) 95) :: L) ⟨rfl, rfl, rfl, rfl, rfl, rfl, rfl, rfl, rfl, trivial⟩ rfl ?_
 rcases k49 with _ | k49
 ·have hc49 : decide ((i49 : Int) < (a1.length : Int)) = false := decide_eq_false (by omega)
  replace H := rangeF_end H
  refine sr0 ?_
  refine Lst.r (Ev.lss rfl rfl) ?_
  refine nt0 ?_
  refine Cd.seq ?_
  refine Cd.condF rfl hc49 ?_
  refine Cd.exit ?_
  refine At.then_exit ?_
  refine At.then_exit ?_
  refine At.in_exit ?_
  subst H
  replace H := HKl49
  try dsimp only [Sum.elim_inl] at H
  refine At.then ?_
  refine Cd.seq ?_
  refine sr0 ?_
  refine mv0 rfl ?_
  refine mv0 rfl ?_
  have hm86 : ([(LR.mk a1 s_a1), (LR.mk a2 s_a2)] : List (LR Deed)).map LR.v = ([a1, a2] : List (List Deed)) := rfl
  have ha87 : All LR.rel w0 F61 M ([(LR.mk a1 s_a1), (LR.mk a2 s_a2)] : List (LR Deed)) := All.of2 (hs_a1.mono (FLe.trans (FLe.trans (FLe.trans hF25 hF41) hF46) hF62) (.refl _)) (hs_a2.mono (FLe.trans (FLe.trans (FLe.trans hF25 hF41) hF46) hF62) (.refl _))
  refine Lst.buildSlice (α := LR Deed) (xs := ([(LR.mk a1 s_a1), (LR.mk a2 s_a2)] : List (LR Deed))) (pv := [(0, Sl.v s_a1), (1, Sl.v s_a2)]) rfl rfl (by decide) ⟨rfl, rfl, ⟨rfl, rfl, trivial⟩⟩ (run_buildSlice (α := LR Deed) (z0 := ((LR.mk [] Sl.nil) : LR Deed)) (xs := ([(LR.mk a1 s_a1), (LR.mk a2 s_a2)] : List (LR Deed))) Tryz.runUnderlying123 Tryz.sizeOf22 Tryz.zeroValue22 rfl rfl rfl (by decide) rfl (fill_cons (cs := encs (List.replicate 2 ((LR.mk [] Sl.nil) : LR Deed))) (cs' := encs ((List.replicate 2 ((LR.mk [] Sl.nil) : LR Deed)).set 0 (LR.mk a1 s_a1))) (vs := [Sl.v s_a1]) rfl rfl rfl ((Put.elemN (s := 1) (i := 0) (x := ((LR.mk [] Sl.nil) : LR Deed)) (y := (LR.mk a1 s_a1)) rfl rfl (Put.here (vs := [Sl.v s_a1]) rfl)).off rfl) (fill_cons (cs := encs ((List.replicate 2 ((LR.mk [] Sl.nil) : LR Deed)).set 0 (LR.mk a1 s_a1))) (cs' := encs (((List.replicate 2 ((LR.mk [] Sl.nil) : LR Deed)).set 0 (LR.mk a1 s_a1)).set 1 (LR.mk a2 s_a2))) (vs := [Sl.v s_a2]) rfl rfl rfl ((Put.elemN (s := 1) (i := 1) (x := ((LR.mk [] Sl.nil) : LR Deed)) (y := (LR.mk a2 s_a2)) rfl rfl (Put.here (vs := [Sl.v s_a2]) rfl)).off rfl) fill_nil))) rfl rfl (by decide) (fun s84 _ => ?_)
  obtain ⟨r88, h89, H⟩ := bind_some H
  refine Lst.call rfl rfl (by decide) (vs := [Sl.v s84]) ⟨rfl, trivial⟩ Tryz.call30 (slices_Concat_api_Deed_api_Deed_sim h89 w0 _ _ _ (.refl _) hm86 (rdo 0 rfl rfl rfl) (All.monoLR ha87 fl (sc8 (sc4 hM)))) (fun F92 L' v hF93 hv => ?_)
  obtain ⟨s90, rfl, rfl⟩ := hv
  refine Lst.r (Ev.lenS (α := Deed) (xs := r88) (by decide) rfl rfl Tryz.runUnderlying22 (rdo 0 rfl rfl rfl)) ?_
  refine mv0 rfl ?_
  refine nt0 ?_
  refine Cd.block ?_
  refine Cd.front (i := 8) rfl rfl ?_
  refine Cd.front (i := 8) rfl (L' := (.own s35 9 1 (encs r26.1.ordered)) :: (.own s37 9 1 (encs r26.1.way)) :: (.own s90 30 4 (encs r88)) :: (.own s84 22 1 (encs ([(LR.mk a1 s_a1), (LR.mk a2 s_a2)] : List (LR Deed)))) :: (.own s51 9 1 (encs y50.ordered)) :: (.own s53 9 1 (encs y50.way)) :: (.own s55 24 1 (encs l56)) :: (.rows (α := Saying) 62 (List.map ProcessR.row rs30)) :: (.own s29 100 8 (encs rs30)) :: (.blk b28 (enc (WldR.mk r26.1 s29 s35 s37)) 95) :: (.rows (α := Saying) 62 (List.map ProcessR.row rs58)) :: (.own s13 100 8 (encs rs58)) :: (.blk b12 (enc (WldR.mk ({ y50 with all := l57 } : Wld) s13 s51 s53)) 95) :: L) rfl ?_
  refine Cd.bound (Rd.le (α := Deed) (xs := r88) (by decide) (rdo 2 rfl rfl rfl)) (fun hN157 => ?_)
  obtain ⟨ol94, H, HKl94⟩ := andThen_some H
  refine Cd.loop (σ := Nat × Nat × Wld × Sl × Sl × (List Procs) × (List ProcessR)) (fun (i94, k94, y95, s96, s98, l100, rs101) => [(0, iv r6), (1, Sl.v s_a1), (7, pv b12 0), (9, pv b28 0), (11, Sl.v s55), (58, Sl.v s90), (59, iv (r88.length : Int)), (60, iv (i94 : Int))]) (fun (i94, k94, y95, s96, s98, l100, rs101) => (.own s96 9 1 (encs y95.ordered)) :: (.own s98 9 1 (encs y95.way)) :: (.own s90 30 4 (encs r88)) :: (.own s84 22 1 (encs ([(LR.mk a1 s_a1), (LR.mk a2 s_a2)] : List (LR Deed)))) :: (.own s51 9 1 (encs y50.ordered)) :: (.own s53 9 1 (encs y50.way)) :: (.own s55 24 1 (encs l56)) :: (.rows (α := Saying) 62 (List.map ProcessR.row rs101)) :: (.own s29 100 8 (encs rs101)) :: (.blk b28 (enc (WldR.mk ({ y95 with all := l100 } : Wld) s29 s96 s98)) 95) :: (.rows (α := Saying) 62 (List.map ProcessR.row rs58)) :: (.own s13 100 8 (encs rs58)) :: (.blk b12 (enc (WldR.mk ({ y50 with all := l57 } : Wld) s13 s51 s53)) 95) :: L) (fun Fx => (fun (i94, k94, y95, s96, s98, l100, rs101) => rangeM (parttop_TopReplay_B2 fu a1 r6 y50 l56 l57 r88) k94 i94 (y95, l100) = some ol94 ∧ i94 + k94 = r88.length ∧ rs101.map ProcessR.v = l100 ∧ All ProcessR.frel w0 Fx [] rs101)) (fun (i94, k94, y95, s96, s98, l100, rs101) => k94) (0, r88.length, r26.1, s35, s37, r26.1.all, rs30) ⟨rfl, rfl, rfl, rfl, rfl, rfl, rfl, rfl, trivial⟩ rfl ⟨H, by omega, fm31, (All.monoProcessF fa34 (FLe.trans (FLe.trans hF46 hF62) hF93) (List.nil_sublist _))⟩ ?_
  rintro F104 ⟨i94, k94, y95, s96, s98, l100, rs101⟩ hF105 ⟨H, hik94, fm102, fa103⟩
  refine Cd.as (e' := [(0, iv r6), (1, Sl.v s_a1), (7, pv b12 0), (9, pv b28 0), (11, Sl.v s55), (58, Sl.v s90), (59, iv (r88.length : Int)), (60, iv (i94 : Int))]) (L' := (.own s96 9 1 (encs y95.ordered)) :: (.own s98 9 1 (encs y95.way)) :: (.own s90 30 4 (encs r88)) :: (.own s84 22 1 (encs ([(LR.mk a1 s_a1), (LR.mk a2 s_a2)] : List (LR Deed)))) :: (.own s51 9 1 (encs y50.ordered)) :: (.own s53 9 1 (encs y50.way)) :: (.own s55 24 1 (encs l56)) :: (.rows (α := Saying) 62 (List.map ProcessR.row rs101)) :: (.own s29 100 8 (encs rs101)) :: (.blk b28 (enc (WldR.mk ({ y95 with all := l100 } : Wld) s29 s96 s98)) 95) :: (.rows (α := Saying) 62 (List.map ProcessR.row rs58)) :: (.own s13 100 8 (encs rs58)) :: (.blk b12 (enc (WldR.mk ({ y50 with all := l57 } : Wld) s13 s51 s53)) 95) :: L) ⟨rfl, rfl, rfl, rfl, rfl, rfl, rfl, rfl, trivial⟩ rfl ?_
  rcases k94 with _ | k94
  ·have hc94 : decide ((i94 : Int) < (r88.length : Int)) = false := decide_eq_false (by omega)
   replace H := rangeM_end H
   refine sr0 ?_
   refine Lst.r (Ev.lss rfl rfl) ?_
   refine nt0 ?_
   refine Cd.seq ?_
   refine Cd.condF rfl hc94 ?_
   refine Cd.exit ?_
   refine At.then_exit ?_
   refine At.then_exit ?_
   refine At.in_exit ?_
   subst H
   replace H := HKl94
   try dsimp only [Sum.elim_inl] at H
   refine At.then ?_
   refine sr0 ?_
   refine Lst.r (Ev.assign rfl) ?_
   refine nt0 ?_
   obtain rfl := some_inj H
   refine Cd.ret ?_
   exact At.ret1 rfl (Res.tmp rfl) (FLe.trans (FLe.trans (FLe.trans (FLe.trans (FLe.trans hF25 hF41) hF46) hF62) hF93) hF105) (sc1 (sc1 (sc1 (sc1 (sc1 (sc1 (sc1 (sc1 (sc1 (sc1 (sc1 (sc1 (sc1 (.refl _)))))))))))))) ⟨rfl, rfl⟩
  have hc94 : decide ((i94 : Int) < (r88.length : Int)) = true := decide_eq_true (by omega)
  obtain ⟨c94, H, hgo94, hbrk94, hret94⟩ := rangeM_go H
  unfold parttop_TopReplay_B2 at H
  try dsimp only at H
  refine sr0 ?_
  refine Lst.r (Ev.lss rfl rfl) ?_
  refine nt0 ?_
  refine Cd.seq ?_
  refine Cd.condT rfl hc94 ?_
  refine Cd.skip ?_
  refine At.then ?_
  refine Cd.seq ?_
  refine Cd.block ?_
  refine sr0 ?_
  refine mv0 rfl ?_
  obtain ⟨x106, h107, H⟩ := bind_some H
  have g108 := lat_some h107
  refine Lst.r (Ev.indexS (α := Deed) (xs := r88) rfl rfl Tryz.runUnderlying22 Tryz.sizeOf30 rfl (by decide) (rdo 2 rfl rfl rfl) g108.1 g108.2.1) ?_
  refine Lst.r (Ev.loadSA (α := Deed) rfl (rdo 2 rfl rfl rfl) Tryz.isAgg30 Tryz.sizeOf30 (ch := enc x106) (Enc.len _) (by decide) ((Get.elemN (s := 4) (x := x106) rfl g108.2.2 gh0).off (by omega))) ?_
  refine Lst.alloc (cs := enc Deed.zero) rfl rfl (by decide) Tryz.zeroValue30 rfl (fun b109 => ?_)
  refine Lst.r (Ev.assign rfl) ?_
  refine Lst.store (i := 0) rfl rfl rfl rfl rfl Tryz.sizeOf30 (vs := enc x106) rfl (Enc.len _) (Enc.one _) (cs' := enc x106) (Put.here ((Enc.len _).trans (Enc.len _).symm)) (L' := (.blk b109 (enc x106) 30) :: (.own s96 9 1 (encs y95.ordered)) :: (.own s98 9 1 (encs y95.way)) :: (.own s90 30 4 (encs r88)) :: (.own s84 22 1 (encs ([(LR.mk a1 s_a1), (LR.mk a2 s_a2)] : List (LR Deed)))) :: (.own s51 9 1 (encs y50.ordered)) :: (.own s53 9 1 (encs y50.way)) :: (.own s55 24 1 (encs l56)) :: (.rows (α := Saying) 62 (List.map ProcessR.row rs101)) :: (.own s29 100 8 (encs rs101)) :: (.blk b28 (enc (WldR.mk ({ y95 with all := l100 } : Wld) s29 s96 s98)) 95) :: (.rows (α := Saying) 62 (List.map ProcessR.row rs58)) :: (.own s13 100 8 (encs rs58)) :: (.blk b12 (enc (WldR.mk ({ y50 with all := l57 } : Wld) s13 s51 s53)) 95) :: L) rfl ?_
  refine nt0 ?_
  obtain ⟨o111, H, HKo111⟩ := andThen_some H
  refine Cd.join (σ := Unit) (fun (_ : Unit) => [(0, iv r6), (1, Sl.v s_a1), (7, pv b12 0), (9, pv b28 0), (11, Sl.v s55), (14, iv (i94 : Int)), (15, pv b109 0), (58, Sl.v s90), (59, iv (r88.length : Int)), (60, iv (i94 : Int))]) (fun (_ : Unit) => (.blk b109 (enc x106) 30) :: (.own s96 9 1 (encs y95.ordered)) :: (.own s98 9 1 (encs y95.way)) :: (.own s90 30 4 (encs r88)) :: (.own s84 22 1 (encs ([(LR.mk a1 s_a1), (LR.mk a2 s_a2)] : List (LR Deed)))) :: (.own s51 9 1 (encs y50.ordered)) :: (.own s53 9 1 (encs y50.way)) :: (.own s55 24 1 (encs l56)) :: (.rows (α := Saying) 62 (List.map ProcessR.row rs101)) :: (.own s29 100 8 (encs rs101)) :: (.blk b28 (enc (WldR.mk ({ y95 with all := l100 } : Wld) s29 s96 s98)) 95) :: (.rows (α := Saying) 62 (List.map ProcessR.row rs58)) :: (.own s13 100 8 (encs rs58)) :: (.blk b12 (enc (WldR.mk ({ y50 with all := l57 } : Wld) s13 s51 s53)) 95) :: L) (fun _ (_ : Unit) => .inl () = o111) ?_ ?_
  ·refine sr0 ?_
   refine mv0 rfl ?_
   refine mv0 rfl ?_
   refine Lst.r (Ev.lenS (α := Deed) (xs := a1) (by decide) rfl rfl Tryz.runUnderlying22 (hs_a1.mono (FLe.trans (FLe.trans (FLe.trans (FLe.trans (FLe.trans hF25 hF41) hF46) hF62) hF93) hF105) (sc8 (sc4 (sc2 hM))))) ?_
   refine Lst.r (Ev.eql rfl rfl) ?_
   refine nt0 ?_
   rcases (Bool.eq_false_or_eq_true ((i94 : Int) == (a1.length : Int))).symm with hb112 | hb112
   ·replace H := ite_f hb112 H
    refine Cd.condF rfl hb112 ?_
    refine Cd.skip ?_
    exact At.meet () fl ⟨rfl, rfl, rfl, rfl, rfl, rfl, rfl, rfl, rfl, rfl, trivial⟩ rfl (some_inj H)
   replace H := ite_t hb112 H
   refine Cd.condT rfl hb112 ?_
   refine sr0 ?_
   refine mv0 rfl ?_
   refine mv0 rfl ?_
   refine nt0 ?_
   refine Cd.block ?_
   obtain ⟨nn116, hN134, H⟩ := bind_some H
   replace hN134 := upTo_some hN134
   obtain ⟨ol113, H, HKl113⟩ := andThen_some H
   refine Cd.loop (σ := Nat × Nat × Unit) (fun (i113, k113, _u) => [(0, iv r6), (1, Sl.v s_a1), (7, pv b12 0), (9, pv b28 0), (11, Sl.v s55), (14, iv (i94 : Int)), (15, pv b109 0), (58, Sl.v s90), (59, iv (r88.length : Int)), (60, iv (i94 : Int)), (69, iv r6), (70, iv (i113 : Int))]) (fun (i113, k113, _u) => (.blk b109 (enc x106) 30) :: (.own s96 9 1 (encs y95.ordered)) :: (.own s98 9 1 (encs y95.way)) :: (.own s90 30 4 (encs r88)) :: (.own s84 22 1 (encs ([(LR.mk a1 s_a1), (LR.mk a2 s_a2)] : List (LR Deed)))) :: (.own s51 9 1 (encs y50.ordered)) :: (.own s53 9 1 (encs y50.way)) :: (.own s55 24 1 (encs l56)) :: (.rows (α := Saying) 62 (List.map ProcessR.row rs101)) :: (.own s29 100 8 (encs rs101)) :: (.blk b28 (enc (WldR.mk ({ y95 with all := l100 } : Wld) s29 s96 s98)) 95) :: (.rows (α := Saying) 62 (List.map ProcessR.row rs58)) :: (.own s13 100 8 (encs rs58)) :: (.blk b12 (enc (WldR.mk ({ y50 with all := l57 } : Wld) s13 s51 s53)) 95) :: L) (fun _ => (fun (i113, k113, _u) => rangeM (parttop_TopReplay_B4 y50 l57 y95 l100) k113 i113 () = some ol113 ∧ i113 + k113 = nn116)) (fun (i113, k113, _u) => k113) (0, nn116, ()) ⟨rfl, rfl, rfl, rfl, rfl, rfl, rfl, rfl, rfl, rfl, rfl, rfl, trivial⟩ rfl ⟨H, by omega⟩ ?_
   rintro F114 ⟨i113, k113, _u⟩ hF115 ⟨H, hik113⟩
   refine Cd.as (e' := [(0, iv r6), (1, Sl.v s_a1), (7, pv b12 0), (9, pv b28 0), (11, Sl.v s55), (14, iv (i94 : Int)), (15, pv b109 0), (58, Sl.v s90), (59, iv (r88.length : Int)), (60, iv (i94 : Int)), (69, iv r6), (70, iv (i113 : Int))]) (L' := (.blk b109 (enc x106) 30) :: (.own s96 9 1 (encs y95.ordered)) :: (.own s98 9 1 (encs y95.way)) :: (.own s90 30 4 (encs r88)) :: (.own s84 22 1 (encs ([(LR.mk a1 s_a1), (LR.mk a2 s_a2)] : List (LR Deed)))) :: (.own s51 9 1 (encs y50.ordered)) :: (.own s53 9 1 (encs y50.way)) :: (.own s55 24 1 (encs l56)) :: (.rows (α := Saying) 62 (List.map ProcessR.row rs101)) :: (.own s29 100 8 (encs rs101)) :: (.blk b28 (enc (WldR.mk ({ y95 with all := l100 } : Wld) s29 s96 s98)) 95) :: (.rows (α := Saying) 62 (List.map ProcessR.row rs58)) :: (.own s13 100 8 (encs rs58)) :: (.blk b12 (enc (WldR.mk ({ y50 with all := l57 } : Wld) s13 s51 s53)) 95) :: L) ⟨rfl, rfl, rfl, rfl, rfl, rfl, rfl, rfl, rfl, rfl, rfl, rfl, trivial⟩ rfl ?_
   rcases k113 with _ | k113
   ·have hc113 : decide ((i113 : Int) < r6) = false := decide_eq_false (by omega)
    replace H := rangeM_end H
    refine sr0 ?_
    refine Lst.r (Ev.lss rfl rfl) ?_
    refine nt0 ?_
    refine Cd.seq ?_
    refine Cd.condF rfl hc113 ?_
    refine Cd.exit ?_
    refine At.then_exit ?_
    refine At.then_exit ?_
    refine At.in_exit ?_
    subst H
    replace H := HKl113
    exact At.meet () hF115 ⟨rfl, rfl, rfl, rfl, rfl, rfl, rfl, rfl, rfl, rfl, trivial⟩ rfl (some_inj H)
   have hc113 : decide ((i113 : Int) < r6) = true := decide_eq_true (by omega)
   obtain ⟨c113, H, hgo113, hbrk113, hret113⟩ := rangeM_go H
   unfold parttop_TopReplay_B4 at H
   try dsimp only at H
   refine sr0 ?_
   refine Lst.r (Ev.lss rfl rfl) ?_
   refine nt0 ?_
   refine Cd.seq ?_
   refine Cd.condT rfl hc113 ?_
   refine Cd.skip ?_
   refine At.then ?_
   refine Cd.seq ?_
   refine Cd.block ?_
   refine sr0 ?_
   refine mv0 rfl ?_
   refine Lst.r (Ev.assign rfl) ?_
   refine nsr ?_
   refine mv0 rfl ?_
   refine mv0 rfl ?_
   obtain ⟨r117, h118, H⟩ := bind_some H
   refine Lst.front (i := 13) rfl rfl ?_
   refine Lst.front (i := 7) rfl rfl ?_
   refine Lst.front (i := 7) rfl (L' := (.own s51 9 1 (encs y50.ordered)) :: (.own s53 9 1 (encs y50.way)) :: (.blk b12 (enc (WldR.mk ({ y50 with all := l57 } : Wld) s13 s51 s53)) 95) :: (.blk b109 (enc x106) 30) :: (.own s96 9 1 (encs y95.ordered)) :: (.own s98 9 1 (encs y95.way)) :: (.own s90 30 4 (encs r88)) :: (.own s84 22 1 (encs ([(LR.mk a1 s_a1), (LR.mk a2 s_a2)] : List (LR Deed)))) :: (.own s55 24 1 (encs l56)) :: (.rows (α := Saying) 62 (List.map ProcessR.row rs101)) :: (.own s29 100 8 (encs rs101)) :: (.blk b28 (enc (WldR.mk ({ y95 with all := l100 } : Wld) s29 s96 s98)) 95) :: (.rows (α := Saying) 62 (List.map ProcessR.row rs58)) :: (.own s13 100 8 (encs rs58)) :: L) rfl ?_
   refine Lst.front (i := 13) rfl rfl ?_
   refine Lst.front (i := 13) rfl (L' := (.rows (α := Saying) 62 (List.map ProcessR.row rs58)) :: (.own s13 100 8 (encs rs58)) :: (.own s51 9 1 (encs y50.ordered)) :: (.own s53 9 1 (encs y50.way)) :: (.blk b12 (enc (WldR.mk ({ y50 with all := l57 } : Wld) s13 s51 s53)) 95) :: (.blk b109 (enc x106) 30) :: (.own s96 9 1 (encs y95.ordered)) :: (.own s98 9 1 (encs y95.way)) :: (.own s90 30 4 (encs r88)) :: (.own s84 22 1 (encs ([(LR.mk a1 s_a1), (LR.mk a2 s_a2)] : List (LR Deed)))) :: (.own s55 24 1 (encs l56)) :: (.rows (α := Saying) 62 (List.map ProcessR.row rs101)) :: (.own s29 100 8 (encs rs101)) :: (.blk b28 (enc (WldR.mk ({ y95 with all := l100 } : Wld) s29 s96 s98)) 95) :: L) rfl ?_
   refine Lst.call rfl rfl (by decide) (vs := [pv b12 0, iv (i113 : Int)]) ⟨rfl, rfl, trivial⟩ Tryz.call15 (world_World_Log_sim h118 w0 _ M _ (sc8 (sc1 hM)) fm59 (All.monoProcessF fa60 (FLe.trans (FLe.trans hF93 hF105) hF115) (List.nil_sublist _))) (fun F121 L' v hF122 hv => ?_)
   obtain ⟨s119, rfl, rfl⟩ := hv
   refine mv0 rfl ?_
   refine Lst.r (Ev.extract rfl rfl) ?_
   refine Lst.r (Ev.extract rfl rfl) ?_
   refine Lst.r (Ev.assign rfl) ?_
   refine Lst.r (Ev.assign rfl) ?_
   refine nsr ?_
   refine mv0 rfl ?_
   refine mv0 rfl ?_
   obtain ⟨r123, h124, H⟩ := bind_some H
   refine Lst.front (i := 14) rfl rfl ?_
   refine Lst.front (i := 9) rfl rfl ?_
   refine Lst.front (i := 9) rfl (L' := (.own s96 9 1 (encs y95.ordered)) :: (.own s98 9 1 (encs y95.way)) :: (.blk b28 (enc (WldR.mk ({ y95 with all := l100 } : Wld) s29 s96 s98)) 95) :: (.own s119 62 2 (encs r117.1)) :: (.rows (α := Saying) 62 (List.map ProcessR.row rs58)) :: (.own s13 100 8 (encs rs58)) :: (.own s51 9 1 (encs y50.ordered)) :: (.own s53 9 1 (encs y50.way)) :: (.blk b12 (enc (WldR.mk ({ y50 with all := l57 } : Wld) s13 s51 s53)) 95) :: (.blk b109 (enc x106) 30) :: (.own s90 30 4 (encs r88)) :: (.own s84 22 1 (encs ([(LR.mk a1 s_a1), (LR.mk a2 s_a2)] : List (LR Deed)))) :: (.own s55 24 1 (encs l56)) :: (.rows (α := Saying) 62 (List.map ProcessR.row rs101)) :: (.own s29 100 8 (encs rs101)) :: L) rfl ?_
   refine Lst.front (i := 14) rfl rfl ?_
   refine Lst.front (i := 14) rfl (L' := (.rows (α := Saying) 62 (List.map ProcessR.row rs101)) :: (.own s29 100 8 (encs rs101)) :: (.own s96 9 1 (encs y95.ordered)) :: (.own s98 9 1 (encs y95.way)) :: (.blk b28 (enc (WldR.mk ({ y95 with all := l100 } : Wld) s29 s96 s98)) 95) :: (.own s119 62 2 (encs r117.1)) :: (.rows (α := Saying) 62 (List.map ProcessR.row rs58)) :: (.own s13 100 8 (encs rs58)) :: (.own s51 9 1 (encs y50.ordered)) :: (.own s53 9 1 (encs y50.way)) :: (.blk b12 (enc (WldR.mk ({ y50 with all := l57 } : Wld) s13 s51 s53)) 95) :: (.blk b109 (enc x106) 30) :: (.own s90 30 4 (encs r88)) :: (.own s84 22 1 (encs ([(LR.mk a1 s_a1), (LR.mk a2 s_a2)] : List (LR Deed)))) :: (.own s55 24 1 (encs l56)) :: L) rfl ?_
   refine Lst.call rfl rfl (by decide) (vs := [pv b28 0, iv (i113 : Int)]) ⟨rfl, rfl, trivial⟩ Tryz.call15 (world_World_Log_sim h124 w0 _ M _ (sc8 (sc2 hM)) fm102 (All.monoProcessF fa103 (FLe.trans hF115 hF122) (List.nil_sublist _))) (fun F127 L' v hF128 hv => ?_)
   obtain ⟨s125, rfl, rfl⟩ := hv
   refine mv0 rfl ?_
   refine Lst.r (Ev.extract rfl rfl) ?_
   refine Lst.r (Ev.extract rfl rfl) ?_
   refine Lst.r (Ev.assign rfl) ?_
   refine Lst.r (Ev.assign rfl) ?_
   refine nt0 ?_
   refine Cd.seq ?_
   refine Cd.as (e' := [(0, iv r6), (1, Sl.v s_a1), (7, pv b12 0), (9, pv b28 0), (11, Sl.v s55), (14, iv (i94 : Int)), (15, pv b109 0), (58, Sl.v s90), (59, iv (r88.length : Int)), (60, iv (i94 : Int)), (69, iv r6), (70, iv (i113 : Int)), (17, Sl.v s119), (19, Sl.v s125)]) (L' := (.own s125 62 2 (encs r123.1)) :: (.rows (α := Saying) 62 (List.map ProcessR.row rs101)) :: (.own s29 100 8 (encs rs101)) :: (.own s96 9 1 (encs y95.ordered)) :: (.own s98 9 1 (encs y95.way)) :: (.blk b28 (enc (WldR.mk ({ y95 with all := l100 } : Wld) s29 s96 s98)) 95) :: (.own s119 62 2 (encs r117.1)) :: (.rows (α := Saying) 62 (List.map ProcessR.row rs58)) :: (.own s13 100 8 (encs rs58)) :: (.own s51 9 1 (encs y50.ordered)) :: (.own s53 9 1 (encs y50.way)) :: (.blk b12 (enc (WldR.mk ({ y50 with all := l57 } : Wld) s13 s51 s53)) 95) :: (.blk b109 (enc x106) 30) :: (.own s90 30 4 (encs r88)) :: (.own s84 22 1 (encs ([(LR.mk a1 s_a1), (LR.mk a2 s_a2)] : List (LR Deed)))) :: (.own s55 24 1 (encs l56)) :: L) ⟨rfl, rfl, rfl, rfl, rfl, rfl, rfl, rfl, rfl, rfl, rfl, rfl, rfl, rfl, trivial⟩ rfl ?_
   refine Cd.region ?_
   refine mv0 rfl ?_
   refine mv0 rfl ?_
   obtain ⟨r129, h130, H⟩ := bind_some H
   refine Lst.call1 rfl rfl (by decide) (vs := [Sl.v s119, Sl.v s125]) ⟨rfl, rfl, trivial⟩ Tryz.call18 (slices_Equal_api_Saying_api_Saying_sim h130 w0 _ _ _ (.refl _) (rdo 6 rfl rfl rfl) (rdo 0 rfl rfl rfl)) ?_
   refine Lst.r (Ev.not rfl) ?_
   refine nt0 ?_
   rcases Bool.eq_false_or_eq_true (!r129) with hb133 | hb133
   ·replace H := ite_t hb133 H
    refine Cd.condT rfl hb133 ?_
    refine Cd.seq ?_
    refine Cd.as (e' := []) (L' := (.own s125 62 2 (encs r123.1)) :: (.rows (α := Saying) 62 (List.map ProcessR.row rs101)) :: (.own s29 100 8 (encs rs101)) :: (.own s96 9 1 (encs y95.ordered)) :: (.own s98 9 1 (encs y95.way)) :: (.blk b28 (enc (WldR.mk ({ y95 with all := l100 } : Wld) s29 s96 s98)) 95) :: (.own s119 62 2 (encs r117.1)) :: (.rows (α := Saying) 62 (List.map ProcessR.row rs58)) :: (.own s13 100 8 (encs rs58)) :: (.own s51 9 1 (encs y50.ordered)) :: (.own s53 9 1 (encs y50.way)) :: (.blk b12 (enc (WldR.mk ({ y50 with all := l57 } : Wld) s13 s51 s53)) 95) :: (.blk b109 (enc x106) 30) :: (.own s90 30 4 (encs r88)) :: (.own s84 22 1 (encs ([(LR.mk a1 s_a1), (LR.mk a2 s_a2)] : List (LR Deed)))) :: (.own s55 24 1 (encs l56)) :: L) trivial rfl ?_
    refine Cd.region ?_
    refine Lst.r (Ev.assign rfl) ?_
    refine nt0 ?_
    have H := hret113 _ (some_inj H).symm
    subst H
    replace H := HKl113
    obtain rfl := some_inj H
    replace H := HKo111
    have H := hret94 _ (some_inj H).symm
    subst H
    replace H := HKl94
    obtain rfl := some_inj H
    refine Cd.ret ?_
    refine At.in_ret ?_
    refine At.then_ret ?_
    refine At.then_ret ?_
    refine At.in_ret ?_
    refine At.then_ret ?_
    refine At.in_ret ?_
    refine At.then_ret ?_
    refine At.then_ret ?_
    refine At.in_ret ?_
    refine At.then_ret ?_
    exact At.ret1 rfl (Res.tmp rfl) (FLe.trans (FLe.trans (FLe.trans (FLe.trans (FLe.trans (FLe.trans (FLe.trans (FLe.trans hF25 hF41) hF46) hF62) hF93) hF105) hF115) hF122) hF128) (sc1 (sc1 (sc1 (sc1 (sc1 (sc1 (sc1 (sc1 (sc1 (sc1 (sc1 (sc1 (sc1 (sc1 (sc1 (sc1 (.refl _))))))))))))))))) ⟨rfl, rfl⟩
   replace H := ite_f hb133 H
   refine Cd.condF rfl hb133 ?_
   refine Cd.skip ?_
   refine At.in_normal ?_
   refine At.then ?_
   refine Cd.region ?_
   refine Lst.r (Ev.incr (by omega) rfl rfl) ?_
   refine mv0 rfl ?_
   refine Lst.nil ?_
   refine At.front (i := 15) rfl rfl ?_
   refine At.front (i := 11) rfl rfl ?_
   refine At.front (i := 11) rfl (L' := (.own s51 9 1 (encs y50.ordered)) :: (.own s53 9 1 (encs y50.way)) :: (.own s55 24 1 (encs l56)) :: (.own s125 62 2 (encs r123.1)) :: (.rows (α := Saying) 62 (List.map ProcessR.row rs101)) :: (.own s29 100 8 (encs rs101)) :: (.own s96 9 1 (encs y95.ordered)) :: (.own s98 9 1 (encs y95.way)) :: (.blk b28 (enc (WldR.mk ({ y95 with all := l100 } : Wld) s29 s96 s98)) 95) :: (.own s119 62 2 (encs r117.1)) :: (.rows (α := Saying) 62 (List.map ProcessR.row rs58)) :: (.own s13 100 8 (encs rs58)) :: (.blk b12 (enc (WldR.mk ({ y50 with all := l57 } : Wld) s13 s51 s53)) 95) :: (.blk b109 (enc x106) 30) :: (.own s90 30 4 (encs r88)) :: (.own s84 22 1 (encs ([(LR.mk a1 s_a1), (LR.mk a2 s_a2)] : List (LR Deed)))) :: L) rfl ?_
   refine At.front (i := 15) rfl rfl ?_
   refine At.front (i := 15) rfl rfl ?_
   refine At.front (i := 9) rfl (L' := (.own s98 9 1 (encs y95.way)) :: (.own s90 30 4 (encs r88)) :: (.own s84 22 1 (encs ([(LR.mk a1 s_a1), (LR.mk a2 s_a2)] : List (LR Deed)))) :: (.own s51 9 1 (encs y50.ordered)) :: (.own s53 9 1 (encs y50.way)) :: (.own s55 24 1 (encs l56)) :: (.own s125 62 2 (encs r123.1)) :: (.rows (α := Saying) 62 (List.map ProcessR.row rs101)) :: (.own s29 100 8 (encs rs101)) :: (.own s96 9 1 (encs y95.ordered)) :: (.blk b28 (enc (WldR.mk ({ y95 with all := l100 } : Wld) s29 s96 s98)) 95) :: (.own s119 62 2 (encs r117.1)) :: (.rows (α := Saying) 62 (List.map ProcessR.row rs58)) :: (.own s13 100 8 (encs rs58)) :: (.blk b12 (enc (WldR.mk ({ y50 with all := l57 } : Wld) s13 s51 s53)) 95) :: (.blk b109 (enc x106) 30) :: L) rfl ?_
   refine At.front (i := 9) rfl rfl ?_
   refine At.front (i := 15) rfl (L' := (.blk b109 (enc x106) 30) :: (.own s96 9 1 (encs y95.ordered)) :: (.own s98 9 1 (encs y95.way)) :: (.own s90 30 4 (encs r88)) :: (.own s84 22 1 (encs ([(LR.mk a1 s_a1), (LR.mk a2 s_a2)] : List (LR Deed)))) :: (.own s51 9 1 (encs y50.ordered)) :: (.own s53 9 1 (encs y50.way)) :: (.own s55 24 1 (encs l56)) :: (.own s125 62 2 (encs r123.1)) :: (.rows (α := Saying) 62 (List.map ProcessR.row rs101)) :: (.own s29 100 8 (encs rs101)) :: (.blk b28 (enc (WldR.mk ({ y95 with all := l100 } : Wld) s29 s96 s98)) 95) :: (.own s119 62 2 (encs r117.1)) :: (.rows (α := Saying) 62 (List.map ProcessR.row rs58)) :: (.own s13 100 8 (encs rs58)) :: (.blk b12 (enc (WldR.mk ({ y50 with all := l57 } : Wld) s13 s51 s53)) 95) :: L) rfl ?_
   refine At.less (L' := (.blk b109 (enc x106) 30) :: (.own s96 9 1 (encs y95.ordered)) :: (.own s98 9 1 (encs y95.way)) :: (.own s90 30 4 (encs r88)) :: (.own s84 22 1 (encs ([(LR.mk a1 s_a1), (LR.mk a2 s_a2)] : List (LR Deed)))) :: (.own s51 9 1 (encs y50.ordered)) :: (.own s53 9 1 (encs y50.way)) :: (.own s55 24 1 (encs l56)) :: (.rows (α := Saying) 62 (List.map ProcessR.row rs101)) :: (.own s29 100 8 (encs rs101)) :: (.blk b28 (enc (WldR.mk ({ y95 with all := l100 } : Wld) s29 s96 s98)) 95) :: (.rows (α := Saying) 62 (List.map ProcessR.row rs58)) :: (.own s13 100 8 (encs rs58)) :: (.blk b12 (enc (WldR.mk ({ y50 with all := l57 } : Wld) s13 s51 s53)) 95) :: L) (sk1 (sk1 (sk1 (sk1 (sk1 (sk1 (sk1 (sk1 (sc1 (sk1 (sk1 (sk1 (sc1 (sk1 (sk1 (sk1 (.refl _))))))))))))))))) ?_
   exact At.meet (i113 + 1, k113, ()) (FLe.trans (FLe.trans hF115 hF122) hF128) ⟨rfl, rfl, rfl, rfl, rfl, rfl, rfl, rfl, rfl, rfl, rfl, rfl, trivial⟩ rfl ⟨⟨hgo113 _ (some_inj H).symm, by omega⟩, Nat.lt_succ_self _⟩
  rintro F135 _u hF136 hy
  subst hy
  refine Cd.as (e' := [(0, iv r6), (1, Sl.v s_a1), (7, pv b12 0), (9, pv b28 0), (11, Sl.v s55), (14, iv (i94 : Int)), (15, pv b109 0), (58, Sl.v s90), (59, iv (r88.length : Int)), (60, iv (i94 : Int))]) (L' := (.blk b109 (enc x106) 30) :: (.own s96 9 1 (encs y95.ordered)) :: (.own s98 9 1 (encs y95.way)) :: (.own s90 30 4 (encs r88)) :: (.own s84 22 1 (encs ([(LR.mk a1 s_a1), (LR.mk a2 s_a2)] : List (LR Deed)))) :: (.own s51 9 1 (encs y50.ordered)) :: (.own s53 9 1 (encs y50.way)) :: (.own s55 24 1 (encs l56)) :: (.rows (α := Saying) 62 (List.map ProcessR.row rs101)) :: (.own s29 100 8 (encs rs101)) :: (.blk b28 (enc (WldR.mk ({ y95 with all := l100 } : Wld) s29 s96 s98)) 95) :: (.rows (α := Saying) 62 (List.map ProcessR.row rs58)) :: (.own s13 100 8 (encs rs58)) :: (.blk b12 (enc (WldR.mk ({ y50 with all := l57 } : Wld) s13 s51 s53)) 95) :: L) ⟨rfl, rfl, rfl, rfl, rfl, rfl, rfl, rfl, rfl, rfl, trivial⟩ rfl ?_
  replace H := HKo111
  refine sr0 ?_
  refine mv0 rfl ?_
  refine Lst.r (Ev.loadA (i := 0) rfl rfl Tryz.isAgg30 Tryz.sizeOf30 (ch := enc x106) (Enc.len _) gh0) ?_
  obtain ⟨r137, h138, H⟩ := bind_some H
  refine Lst.front (i := 10) rfl rfl ?_
  refine Lst.front (i := 3) rfl rfl ?_
  refine Lst.front (i := 3) rfl (L' := (.own s96 9 1 (encs y95.ordered)) :: (.own s98 9 1 (encs y95.way)) :: (.blk b28 (enc (WldR.mk ({ y95 with all := l100 } : Wld) s29 s96 s98)) 95) :: (.blk b109 (enc x106) 30) :: (.own s90 30 4 (encs r88)) :: (.own s84 22 1 (encs ([(LR.mk a1 s_a1), (LR.mk a2 s_a2)] : List (LR Deed)))) :: (.own s51 9 1 (encs y50.ordered)) :: (.own s53 9 1 (encs y50.way)) :: (.own s55 24 1 (encs l56)) :: (.rows (α := Saying) 62 (List.map ProcessR.row rs101)) :: (.own s29 100 8 (encs rs101)) :: (.rows (α := Saying) 62 (List.map ProcessR.row rs58)) :: (.own s13 100 8 (encs rs58)) :: (.blk b12 (enc (WldR.mk ({ y50 with all := l57 } : Wld) s13 s51 s53)) 95) :: L) rfl ?_
  refine Lst.front (i := 10) rfl rfl ?_
  refine Lst.front (i := 10) rfl (L' := (.rows (α := Saying) 62 (List.map ProcessR.row rs101)) :: (.own s29 100 8 (encs rs101)) :: (.own s96 9 1 (encs y95.ordered)) :: (.own s98 9 1 (encs y95.way)) :: (.blk b28 (enc (WldR.mk ({ y95 with all := l100 } : Wld) s29 s96 s98)) 95) :: (.blk b109 (enc x106) 30) :: (.own s90 30 4 (encs r88)) :: (.own s84 22 1 (encs ([(LR.mk a1 s_a1), (LR.mk a2 s_a2)] : List (LR Deed)))) :: (.own s51 9 1 (encs y50.ordered)) :: (.own s53 9 1 (encs y50.way)) :: (.own s55 24 1 (encs l56)) :: (.rows (α := Saying) 62 (List.map ProcessR.row rs58)) :: (.own s13 100 8 (encs rs58)) :: (.blk b12 (enc (WldR.mk ({ y50 with all := l57 } : Wld) s13 s51 s53)) 95) :: L) rfl ?_
  refine Lst.call rfl rfl (by decide) (vs := [pv b28 0, .agg (enc x106).toArray]) ⟨rfl, rfl, trivial⟩ Tryz.call28 (parttop_doOf_sim h138 w0 _ M _ (sc8 (sc1 hM)) hT fm102 (All.monoProcessF fa103 hF136 (List.nil_sublist _))) (fun F146 L' v hF147 hv => ?_)
  obtain ⟨rs139, s142, s144, rfl, rfl, fm140, fa141⟩ := hv
  refine Lst.r (Ev.assign rfl) ?_
  refine nsr ?_
  refine mv0 rfl ?_
  refine mv0 rfl ?_
  refine Lst.r (Ev.lenS (α := Int) (xs := l56) (by decide) rfl rfl Tryz.runUnderlying72 (rdo 10 rfl rfl rfl)) ?_
  refine Lst.r (Ev.lss rfl rfl) ?_
  refine mv0 rfl ?_
  obtain ⟨o148, H, HKo148⟩ := bind_some H
  refine Lst.join (σ := Bool) 7 (fun y149 => [(0, iv r6), (1, Sl.v s_a1), (7, pv b12 0), (9, pv b28 0), (11, Sl.v s55), (58, Sl.v s90), (59, iv (r88.length : Int)), (60, iv (i94 : Int)), (104, .bool y149)]) (fun y149 => (.own s142 9 1 (encs r137.2.1.ordered)) :: (.own s144 9 1 (encs r137.2.1.way)) :: (.rows (α := Saying) 62 (List.map ProcessR.row rs139)) :: (.own s29 100 8 (encs rs139)) :: (.blk b28 (enc (WldR.mk ({ r137.2.1 with all := r137.1 } : Wld) s29 s142 s144)) 95) :: (.blk b109 (enc x106) 30) :: (.own s90 30 4 (encs r88)) :: (.own s84 22 1 (encs ([(LR.mk a1 s_a1), (LR.mk a2 s_a2)] : List (LR Deed)))) :: (.own s51 9 1 (encs y50.ordered)) :: (.own s53 9 1 (encs y50.way)) :: (.own s55 24 1 (encs l56)) :: (.rows (α := Saying) 62 (List.map ProcessR.row rs58)) :: (.own s13 100 8 (encs rs58)) :: (.blk b12 (enc (WldR.mk ({ y50 with all := l57 } : Wld) s13 s51 s53)) 95) :: L) (fun _ y149 => y149 = o148) ?_ ?_
  ·rcases (Bool.eq_false_or_eq_true (decide ((i94 : Int) < (l56.length : Int)))).symm with hb150 | hb150
   ·replace H := ite_f hb150 H
    refine Lst.skip rfl rfl rfl hb150 rfl (by decide) ?_
    refine Lst.skip rfl rfl rfl hb150 rfl (by decide) ?_
    refine Lst.skip rfl rfl rfl hb150 rfl (by decide) ?_
    refine Lst.skip rfl rfl rfl hb150 rfl (by decide) ?_
    refine Lst.skip rfl rfl rfl hb150 rfl (by decide) ?_
    refine Lst.skip rfl rfl rfl hb150 rfl (by decide) ?_
    refine Lst.r (Ev.pickF rfl hb150 rfl) ?_
    refine Lst.nil ?_
    exact At.meet false fl ⟨rfl, rfl, rfl, rfl, rfl, rfl, rfl, rfl, rfl, trivial⟩ rfl (some_inj H)
   replace H := ite_t hb150 H
   refine Lst.rG hb150 (Ev.move rfl) ?_
   refine Lst.rG hb150 (Ev.move rfl) ?_
   refine Lst.rG hb150 (Ev.move rfl) ?_
   obtain ⟨x151, h152, H⟩ := bind_some H
   have g153 := lat_some h152
   refine Lst.rG hb150 (Ev.indexS (α := Int) (xs := l56) rfl rfl Tryz.runUnderlying72 Tryz.sizeOf24 rfl (by decide) (rdo 10 rfl rfl rfl) g153.1 g153.2.1) ?_
   refine Lst.rG hb150 (Ev.loadS (α := Int) rfl (rdo 10 rfl rfl rfl) Tryz.isAgg24 (v := iv x151) ((Get.elemN (s := 1) (x := x151) rfl g153.2.2 gh0).off (by omega))) ?_
   refine Lst.rG hb150 (Ev.neq rfl rfl) ?_
   refine Lst.r (Ev.pickT rfl hb150 rfl) ?_
   refine Lst.nil ?_
   exact At.meet (r137.2.2 != x151) fl ⟨rfl, rfl, rfl, rfl, rfl, rfl, rfl, rfl, rfl, trivial⟩ rfl (some_inj H)
  rintro F154 y149 hF155 hy
  subst hy
  refine Lst.as (e' := [(0, iv r6), (1, Sl.v s_a1), (7, pv b12 0), (9, pv b28 0), (11, Sl.v s55), (58, Sl.v s90), (59, iv (r88.length : Int)), (60, iv (i94 : Int)), (104, .bool y149)]) (L' := (.own s142 9 1 (encs r137.2.1.ordered)) :: (.own s144 9 1 (encs r137.2.1.way)) :: (.rows (α := Saying) 62 (List.map ProcessR.row rs139)) :: (.own s29 100 8 (encs rs139)) :: (.blk b28 (enc (WldR.mk ({ r137.2.1 with all := r137.1 } : Wld) s29 s142 s144)) 95) :: (.blk b109 (enc x106) 30) :: (.own s90 30 4 (encs r88)) :: (.own s84 22 1 (encs ([(LR.mk a1 s_a1), (LR.mk a2 s_a2)] : List (LR Deed)))) :: (.own s51 9 1 (encs y50.ordered)) :: (.own s53 9 1 (encs y50.way)) :: (.own s55 24 1 (encs l56)) :: (.rows (α := Saying) 62 (List.map ProcessR.row rs58)) :: (.own s13 100 8 (encs rs58)) :: (.blk b12 (enc (WldR.mk ({ y50 with all := l57 } : Wld) s13 s51 s53)) 95) :: L) ⟨rfl, rfl, rfl, rfl, rfl, rfl, rfl, rfl, rfl, trivial⟩ rfl ?_
  replace H := HKo148
  refine nt0 ?_
  rcases Bool.eq_false_or_eq_true y149 with hb156 | hb156
  ·replace H := ite_t hb156 H
   refine Cd.condT rfl hb156 ?_
   refine sr0 ?_
   refine Lst.r (Ev.assign rfl) ?_
   refine nt0 ?_
   have H := hret94 _ (some_inj H).symm
   subst H
   replace H := HKl94
   obtain rfl := some_inj H
   refine Cd.ret ?_
   refine At.in_ret ?_
   refine At.then_ret ?_
   refine At.then_ret ?_
   refine At.in_ret ?_
   refine At.then_ret ?_
   exact At.ret1 rfl (Res.tmp rfl) (FLe.trans (FLe.trans (FLe.trans (FLe.trans (FLe.trans (FLe.trans (FLe.trans (FLe.trans hF25 hF41) hF46) hF62) hF93) hF105) hF136) hF147) hF155) (sc1 (sc1 (sc1 (sc1 (sc1 (sc1 (sc1 (sc1 (sc1 (sc1 (sc1 (sc1 (sc1 (sc1 (.refl _))))))))))))))) ⟨rfl, rfl⟩
  replace H := ite_f hb156 H
  refine Cd.condF rfl hb156 ?_
  refine Cd.skip ?_
  refine At.in_normal ?_
  refine At.then ?_
  refine Cd.region ?_
  refine Lst.r (Ev.incr (by omega) rfl rfl) ?_
  refine mv0 rfl ?_
  refine Lst.nil ?_
  refine At.front (i := 10) rfl rfl ?_
  refine At.front (i := 10) rfl rfl ?_
  refine At.front (i := 10) rfl (L' := (.own s51 9 1 (encs y50.ordered)) :: (.own s53 9 1 (encs y50.way)) :: (.own s55 24 1 (encs l56)) :: (.own s142 9 1 (encs r137.2.1.ordered)) :: (.own s144 9 1 (encs r137.2.1.way)) :: (.rows (α := Saying) 62 (List.map ProcessR.row rs139)) :: (.own s29 100 8 (encs rs139)) :: (.blk b28 (enc (WldR.mk ({ r137.2.1 with all := r137.1 } : Wld) s29 s142 s144)) 95) :: (.blk b109 (enc x106) 30) :: (.own s90 30 4 (encs r88)) :: (.own s84 22 1 (encs ([(LR.mk a1 s_a1), (LR.mk a2 s_a2)] : List (LR Deed)))) :: (.rows (α := Saying) 62 (List.map ProcessR.row rs58)) :: (.own s13 100 8 (encs rs58)) :: (.blk b12 (enc (WldR.mk ({ y50 with all := l57 } : Wld) s13 s51 s53)) 95) :: L) rfl ?_
  refine At.front (i := 10) rfl rfl ?_
  refine At.front (i := 10) rfl rfl ?_
  refine At.front (i := 6) rfl (L' := (.own s144 9 1 (encs r137.2.1.way)) :: (.own s90 30 4 (encs r88)) :: (.own s84 22 1 (encs ([(LR.mk a1 s_a1), (LR.mk a2 s_a2)] : List (LR Deed)))) :: (.own s51 9 1 (encs y50.ordered)) :: (.own s53 9 1 (encs y50.way)) :: (.own s55 24 1 (encs l56)) :: (.own s142 9 1 (encs r137.2.1.ordered)) :: (.rows (α := Saying) 62 (List.map ProcessR.row rs139)) :: (.own s29 100 8 (encs rs139)) :: (.blk b28 (enc (WldR.mk ({ r137.2.1 with all := r137.1 } : Wld) s29 s142 s144)) 95) :: (.blk b109 (enc x106) 30) :: (.rows (α := Saying) 62 (List.map ProcessR.row rs58)) :: (.own s13 100 8 (encs rs58)) :: (.blk b12 (enc (WldR.mk ({ y50 with all := l57 } : Wld) s13 s51 s53)) 95) :: L) rfl ?_
  refine At.front (i := 6) rfl (L' := (.own s142 9 1 (encs r137.2.1.ordered)) :: (.own s144 9 1 (encs r137.2.1.way)) :: (.own s90 30 4 (encs r88)) :: (.own s84 22 1 (encs ([(LR.mk a1 s_a1), (LR.mk a2 s_a2)] : List (LR Deed)))) :: (.own s51 9 1 (encs y50.ordered)) :: (.own s53 9 1 (encs y50.way)) :: (.own s55 24 1 (encs l56)) :: (.rows (α := Saying) 62 (List.map ProcessR.row rs139)) :: (.own s29 100 8 (encs rs139)) :: (.blk b28 (enc (WldR.mk ({ r137.2.1 with all := r137.1 } : Wld) s29 s142 s144)) 95) :: (.blk b109 (enc x106) 30) :: (.rows (α := Saying) 62 (List.map ProcessR.row rs58)) :: (.own s13 100 8 (encs rs58)) :: (.blk b12 (enc (WldR.mk ({ y50 with all := l57 } : Wld) s13 s51 s53)) 95) :: L) rfl ?_
  refine At.less (L' := (.own s142 9 1 (encs r137.2.1.ordered)) :: (.own s144 9 1 (encs r137.2.1.way)) :: (.own s90 30 4 (encs r88)) :: (.own s84 22 1 (encs ([(LR.mk a1 s_a1), (LR.mk a2 s_a2)] : List (LR Deed)))) :: (.own s51 9 1 (encs y50.ordered)) :: (.own s53 9 1 (encs y50.way)) :: (.own s55 24 1 (encs l56)) :: (.rows (α := Saying) 62 (List.map ProcessR.row rs139)) :: (.own s29 100 8 (encs rs139)) :: (.blk b28 (enc (WldR.mk ({ r137.2.1 with all := r137.1 } : Wld) s29 s142 s144)) 95) :: (.rows (α := Saying) 62 (List.map ProcessR.row rs58)) :: (.own s13 100 8 (encs rs58)) :: (.blk b12 (enc (WldR.mk ({ y50 with all := l57 } : Wld) s13 s51 s53)) 95) :: L) (sk1 (sk1 (sk1 (sk1 (sk1 (sk1 (sk1 (sk1 (sk1 (sk1 (sc1 (sk1 (sk1 (sk1 (.refl _))))))))))))))) ?_
  exact At.meet (i94 + 1, k94, ({ r137.2.1 with all := r137.1 } : Wld), s142, s144, r137.1, rs139) (FLe.trans (FLe.trans (FLe.trans hF105 hF136) hF147) hF155) ⟨rfl, rfl, rfl, rfl, rfl, rfl, rfl, rfl, trivial⟩ rfl ⟨⟨hgo94 _ (some_inj H).symm, by omega, fm140, (All.monoProcessF fa141 hF155 (List.nil_sublist _))⟩, Nat.lt_succ_self _⟩
 have hc49 : decide ((i49 : Int) < (a1.length : Int)) = true := decide_eq_true (by omega)
 obtain ⟨c49, H, hgo49⟩ := rangeF_go H
 unfold parttop_TopReplay_B0 at H
 try dsimp only at H
 refine sr0 ?_
 refine Lst.r (Ev.lss rfl rfl) ?_
 refine nt0 ?_
 refine Cd.seq ?_
 refine Cd.condT rfl hc49 ?_
 refine Cd.skip ?_
 refine At.then ?_
 refine Cd.seq ?_
 refine Cd.block ?_
 refine sr0 ?_
 obtain ⟨x63, h64, H⟩ := bind_some H
 have g65 := lat_some h64
 refine Lst.r (Ev.indexS (α := Deed) (xs := a1) rfl rfl Tryz.runUnderlying22 Tryz.sizeOf30 rfl (by decide) (hs_a1.mono (FLe.trans (FLe.trans (FLe.trans hF25 hF41) hF46) hF62) (sc8 (sc2 (sc1 hM)))) g65.1 g65.2.1) ?_
 refine Lst.r (Ev.loadSA (α := Deed) rfl (hs_a1.mono (FLe.trans (FLe.trans (FLe.trans hF25 hF41) hF46) hF62) (sc8 (sc2 (sc1 hM)))) Tryz.isAgg30 Tryz.sizeOf30 (ch := enc x63) (Enc.len _) (by decide) ((Get.elemN (s := 4) (x := x63) rfl g65.2.2 gh0).off (by omega))) ?_
 refine Lst.alloc (cs := enc Deed.zero) rfl rfl (by decide) Tryz.zeroValue30 rfl (fun b66 => ?_)
 refine Lst.store (i := 0) rfl rfl rfl rfl rfl Tryz.sizeOf30 (vs := enc x63) rfl (Enc.len _) (Enc.one _) (cs' := enc x63) (Put.here ((Enc.len _).trans (Enc.len _).symm)) (L' := (.blk b66 (enc x63) 30) :: (.own s51 9 1 (encs y50.ordered)) :: (.own s53 9 1 (encs y50.way)) :: (.own s55 24 1 (encs l56)) :: (.rows (α := Saying) 62 (List.map ProcessR.row rs30)) :: (.own s29 100 8 (encs rs30)) :: (.own s35 9 1 (encs r26.1.ordered)) :: (.own s37 9 1 (encs r26.1.way)) :: (.blk b28 (enc (WldR.mk r26.1 s29 s35 s37)) 95) :: (.rows (α := Saying) 62 (List.map ProcessR.row rs58)) :: (.own s13 100 8 (encs rs58)) :: (.blk b12 (enc (WldR.mk ({ y50 with all := l57 } : Wld) s13 s51 s53)) 95) :: L) rfl ?_
 refine nt0 ?_
 refine Cd.region ?_
 refine mv0 rfl ?_
 refine mv0 rfl ?_
 refine Lst.r (Ev.loadA (i := 0) rfl rfl Tryz.isAgg30 Tryz.sizeOf30 (ch := enc x63) (Enc.len _) gh0) ?_
 obtain ⟨r68, h69, H⟩ := bind_some H
 refine Lst.front (i := 11) rfl rfl ?_
 refine Lst.front (i := 3) rfl rfl ?_
 refine Lst.front (i := 3) rfl (L' := (.own s51 9 1 (encs y50.ordered)) :: (.own s53 9 1 (encs y50.way)) :: (.blk b12 (enc (WldR.mk ({ y50 with all := l57 } : Wld) s13 s51 s53)) 95) :: (.blk b66 (enc x63) 30) :: (.own s55 24 1 (encs l56)) :: (.rows (α := Saying) 62 (List.map ProcessR.row rs30)) :: (.own s29 100 8 (encs rs30)) :: (.own s35 9 1 (encs r26.1.ordered)) :: (.own s37 9 1 (encs r26.1.way)) :: (.blk b28 (enc (WldR.mk r26.1 s29 s35 s37)) 95) :: (.rows (α := Saying) 62 (List.map ProcessR.row rs58)) :: (.own s13 100 8 (encs rs58)) :: L) rfl ?_
 refine Lst.front (i := 11) rfl rfl ?_
 refine Lst.front (i := 11) rfl (L' := (.rows (α := Saying) 62 (List.map ProcessR.row rs58)) :: (.own s13 100 8 (encs rs58)) :: (.own s51 9 1 (encs y50.ordered)) :: (.own s53 9 1 (encs y50.way)) :: (.blk b12 (enc (WldR.mk ({ y50 with all := l57 } : Wld) s13 s51 s53)) 95) :: (.blk b66 (enc x63) 30) :: (.own s55 24 1 (encs l56)) :: (.rows (α := Saying) 62 (List.map ProcessR.row rs30)) :: (.own s29 100 8 (encs rs30)) :: (.own s35 9 1 (encs r26.1.ordered)) :: (.own s37 9 1 (encs r26.1.way)) :: (.blk b28 (enc (WldR.mk r26.1 s29 s35 s37)) 95) :: L) rfl ?_
 refine Lst.call rfl rfl (by decide) (vs := [pv b12 0, .agg (enc x63).toArray]) ⟨rfl, rfl, trivial⟩ Tryz.call28 (parttop_doOf_sim h69 w0 _ M _ (sc4 (sc2 (sc1 hM))) hT fm59 (All.monoProcessF fa60 fl (List.nil_sublist _))) (fun F77 L' v hF78 hv => ?_)
 obtain ⟨rs70, s73, s75, rfl, rfl, fm71, fa72⟩ := hv
 refine Lst.buildSlice (α := Int) (xs := ([r68.2.2] : List Int)) (pv := [(0, iv r68.2.2)]) rfl rfl (by decide) ⟨rfl, rfl, trivial⟩ (run_buildSlice (α := Int) (z0 := (0 : Int)) (xs := ([r68.2.2] : List Int)) Tryz.runUnderlying72 Tryz.sizeOf24 Tryz.zeroValue24 rfl rfl rfl (by decide) rfl (fill_cons (cs := encs (List.replicate 1 (0 : Int))) (cs' := encs ((List.replicate 1 (0 : Int)).set 0 r68.2.2)) (vs := [iv r68.2.2]) rfl rfl rfl ((Put.elemN (s := 1) (i := 0) (x := (0 : Int)) (y := r68.2.2) rfl rfl (Put.here (vs := [iv r68.2.2]) rfl)).off rfl) fill_nil)) rfl rfl (by decide) (fun s79 _ => ?_)
 obtain ⟨u81, h82, H⟩ := bind_some H
 refine Lst.append (i := 7) (α := Int) (xs := l56) (ys := ([r68.2.2] : List Int)) rfl rfl (by decide) rfl rfl Tryz.runUnderlying72 Tryz.typeInfo24 rfl rfl rfl rfl rfl rfl (rdo 0 rfl rfl rfl) rfl (room_some h82) rfl (fun s83 => ?_)
 refine Lst.its (L' := (.own s79 24 1 (encs ([r68.2.2] : List Int))) :: (.own s73 9 1 (encs r68.2.1.ordered)) :: (.own s75 9 1 (encs r68.2.1.way)) :: (.rows (α := Saying) 62 (List.map ProcessR.row rs70)) :: (.own s13 100 8 (encs rs70)) :: (.blk b12 (enc (WldR.mk ({ r68.2.1 with all := r68.1 } : Wld) s13 s73 s75)) 95) :: (.blk b66 (enc x63) 30) :: (.own s83 24 1 (encs (l56 ++ ([r68.2.2] : List Int)))) :: (.rows (α := Saying) 62 (List.map ProcessR.row rs30)) :: (.own s29 100 8 (encs rs30)) :: (.own s35 9 1 (encs r26.1.ordered)) :: (.own s37 9 1 (encs r26.1.way)) :: (.blk b28 (enc (WldR.mk r26.1 s29 s35 s37)) 95) :: L) rfl ?_
 refine Lst.r (Ev.assign rfl) ?_
 refine Lst.nil ?_
 refine At.in_normal ?_
 refine At.then ?_
 refine Cd.region ?_
 refine Lst.r (Ev.incr (by omega) rfl rfl) ?_
 refine mv0 rfl ?_
 refine Lst.nil ?_
 refine At.front (i := 12) rfl rfl ?_
 refine At.front (i := 12) rfl rfl ?_
 refine At.front (i := 12) rfl (L' := (.own s35 9 1 (encs r26.1.ordered)) :: (.own s37 9 1 (encs r26.1.way)) :: (.blk b28 (enc (WldR.mk r26.1 s29 s35 s37)) 95) :: (.own s79 24 1 (encs ([r68.2.2] : List Int))) :: (.own s73 9 1 (encs r68.2.1.ordered)) :: (.own s75 9 1 (encs r68.2.1.way)) :: (.rows (α := Saying) 62 (List.map ProcessR.row rs70)) :: (.own s13 100 8 (encs rs70)) :: (.blk b12 (enc (WldR.mk ({ r68.2.1 with all := r68.1 } : Wld) s13 s73 s75)) 95) :: (.blk b66 (enc x63) 30) :: (.own s83 24 1 (encs (l56 ++ ([r68.2.2] : List Int)))) :: (.rows (α := Saying) 62 (List.map ProcessR.row rs30)) :: (.own s29 100 8 (encs rs30)) :: L) rfl ?_
 refine At.front (i := 12) rfl rfl ?_
 refine At.front (i := 12) rfl rfl ?_
 refine At.front (i := 12) rfl (L' := (.own s83 24 1 (encs (l56 ++ ([r68.2.2] : List Int)))) :: (.rows (α := Saying) 62 (List.map ProcessR.row rs30)) :: (.own s29 100 8 (encs rs30)) :: (.own s35 9 1 (encs r26.1.ordered)) :: (.own s37 9 1 (encs r26.1.way)) :: (.blk b28 (enc (WldR.mk r26.1 s29 s35 s37)) 95) :: (.own s79 24 1 (encs ([r68.2.2] : List Int))) :: (.own s73 9 1 (encs r68.2.1.ordered)) :: (.own s75 9 1 (encs r68.2.1.way)) :: (.rows (α := Saying) 62 (List.map ProcessR.row rs70)) :: (.own s13 100 8 (encs rs70)) :: (.blk b12 (enc (WldR.mk ({ r68.2.1 with all := r68.1 } : Wld) s13 s73 s75)) 95) :: (.blk b66 (enc x63) 30) :: L) rfl ?_
 refine At.front (i := 8) rfl rfl ?_
 refine At.front (i := 8) rfl (L' := (.own s73 9 1 (encs r68.2.1.ordered)) :: (.own s75 9 1 (encs r68.2.1.way)) :: (.own s83 24 1 (encs (l56 ++ ([r68.2.2] : List Int)))) :: (.rows (α := Saying) 62 (List.map ProcessR.row rs30)) :: (.own s29 100 8 (encs rs30)) :: (.own s35 9 1 (encs r26.1.ordered)) :: (.own s37 9 1 (encs r26.1.way)) :: (.blk b28 (enc (WldR.mk r26.1 s29 s35 s37)) 95) :: (.own s79 24 1 (encs ([r68.2.2] : List Int))) :: (.rows (α := Saying) 62 (List.map ProcessR.row rs70)) :: (.own s13 100 8 (encs rs70)) :: (.blk b12 (enc (WldR.mk ({ r68.2.1 with all := r68.1 } : Wld) s13 s73 s75)) 95) :: (.blk b66 (enc x63) 30) :: L) rfl ?_
 refine At.less (L' := (.own s73 9 1 (encs r68.2.1.ordered)) :: (.own s75 9 1 (encs r68.2.1.way)) :: (.own s83 24 1 (encs (l56 ++ ([r68.2.2] : List Int)))) :: (.rows (α := Saying) 62 (List.map ProcessR.row rs30)) :: (.own s29 100 8 (encs rs30)) :: (.own s35 9 1 (encs r26.1.ordered)) :: (.own s37 9 1 (encs r26.1.way)) :: (.blk b28 (enc (WldR.mk r26.1 s29 s35 s37)) 95) :: (.rows (α := Saying) 62 (List.map ProcessR.row rs70)) :: (.own s13 100 8 (encs rs70)) :: (.blk b12 (enc (WldR.mk ({ r68.2.1 with all := r68.1 } : Wld) s13 s73 s75)) 95) :: L) (sk1 (sk1 (sk1 (sk1 (sk1 (sk1 (sk1 (sk1 (sc1 (sk1 (sk1 (sk1 (sc1 (.refl _)))))))))))))) ?_
 exact At.meet (i49 + 1, k49, ({ r68.2.1 with all := r68.1 } : Wld), s73, s75, s83, l56 ++ ([r68.2.2] : List Int), r68.1, rs70) (FLe.trans hF62 hF78) ⟨rfl, rfl, rfl, rfl, rfl, rfl, rfl, rfl, rfl, trivial⟩ rfl ⟨⟨hgo49 _ (some_inj H).symm, by omega, fm71, (All.monoProcessF fa72 fl (List.nil_sublist _))⟩, Nat.lt_succ_self _⟩
end Go.Proofs.YtchmclllcdknjaaGreatDoor
