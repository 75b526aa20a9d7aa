/-
  The functions compute their specs; printed by a program.
-/
import Derived.Test.YtchmclllcdknjaaGreatDoorTnP2
namespace Go.Proofs.YtchmclllcdknjaaGreatDoor
open Go.RowKit Enc
set_option linter.unusedVariables false
set_option linter.unusedSimpArgs false
set_option maxRecDepth 20000 in
theorem same_Run_sim {fu : Nat} {a0 : Vector Int 10} {a1 : List Str} {s_a1 : Sl} {r : (Vector Int 10) × Int} (H : same_Run fu a0 a1 = some r) (w0 : World) (F : Frz) (M L : List Item) (hM : M.Sublist L) (hs_a1 : Rd w0 F M s_a1 a1) : Ok Tryz.prog w0 33 [.agg (enc a0).toArray, Sl.v s_a1] F (L) (Is (.tuple #[.agg (enc r.1).toArray, iv r.2]) (L)) := by
 unfold same_Run at H
 refine Ok.enter (m := 2) (n := 31) Tryz.func33 rfl rfl rfl (by decide) ?_
 refine Cd.env (e' := [(0, .agg (enc a0).toArray), (1, Sl.v s_a1)]) rfl ?_
 refine sr0 ?_
 refine Lst.box rfl rfl (by decide) rfl (cs := enc a0) rfl (fun b1 => ?_)
 refine Lst.alloc (cs := enc (Vector.replicate 10 (0 : Int))) rfl rfl (by decide) Tryz.zeroValue57 rfl (fun b3 => ?_)
 refine Lst.r (Ev.assign rfl) ?_
 refine nsr ?_
 refine Lst.r (Ev.assign rfl) ?_
 refine nt0 ?_
 refine Cd.seq ?_
 refine sr0 ?_
 refine mv0 rfl ?_
 refine Lst.r (Ev.lenS (α := Str) (xs := a1) (by decide) rfl rfl Tryz.runUnderlying43 (hs_a1.mono fl (sc2 hM))) ?_
 refine mv0 rfl ?_
 refine nt0 ?_
 refine Cd.block ?_
 refine Cd.bound (Rd.le (α := Str) (xs := a1) (by decide) (hs_a1.mono fl (sc2 hM))) (fun hN24 => ?_)
 obtain ⟨ol5, H, HKl5⟩ := bind_some H
 refine Cd.loop (σ := Nat × Nat × Int × (Vector Int 10)) (fun (i5, k5, y6, y7) => [(2, pv b1 0), (4, pv b3 0), (6, iv y6), (11, Sl.v s_a1), (12, iv (a1.length : Int)), (13, iv (i5 : Int))]) (fun (i5, k5, y6, y7) => (.blk b3 (enc (Vector.replicate 10 (0 : Int))) 57) :: (.blk b1 (enc y7) 57) :: L) (fun _ => (fun (i5, k5, y6, y7) => rangeF (same_Run_B0 fu a1) k5 i5 (y6, y7) = some ol5 ∧ i5 + k5 = a1.length)) (fun (i5, k5, y6, y7) => k5) (0, a1.length, (0 : Int), a0) ⟨rfl, rfl, rfl, rfl, rfl, rfl, trivial⟩ rfl ⟨H, by omega⟩ ?_
 rintro F8 ⟨i5, k5, y6, y7⟩ hF9 ⟨H, hik5⟩
 refine Cd.as (e' := [(2, pv b1 0), (4, pv b3 0), (6, iv y6), (11, Sl.v s_a1), (12, iv (a1.length : Int)), (13, iv (i5 : Int))]) (L' := (.blk b3 (enc (Vector.replicate 10 (0 : Int))) 57) :: (.blk b1 (enc y7) 57) :: L) ⟨rfl, rfl, rfl, rfl, rfl, rfl, trivial⟩ rfl ?_
 rcases k5 with _ | k5
 ·have hc5 : decide ((i5 : Int) < (a1.length : Int)) = false := decide_eq_false (by omega)
  replace H := rangeF_end H
  refine sr0 ?_
  refine Lst.r (Ev.lss rfl rfl) ?_
  refine nt0 ?_
  refine Cd.seq ?_
  refine Cd.condF rfl hc5 ?_
  refine Cd.exit ?_
  refine At.then_exit ?_
  refine At.then_exit ?_
  refine At.in_exit ?_
  subst H
  replace H := HKl5
  refine At.then ?_
  refine sr0 ?_
  refine Lst.r (Ev.loadA (i := 1) rfl rfl Tryz.isAgg57 Tryz.sizeOf57 (ch := enc y7) (Enc.len _) gh0) ?_
  refine mv0 rfl ?_
  refine Lst.store (i := 0) rfl rfl rfl rfl rfl Tryz.sizeOf57 (vs := enc y7) rfl (Enc.len _) (Enc.one _) (cs' := enc y7) (Put.here ((Enc.len _).trans (Enc.len _).symm)) (L' := (.blk b3 (enc y7) 57) :: (.blk b1 (enc y7) 57) :: L) rfl ?_
  refine Lst.r (Ev.assign rfl) ?_
  refine nt0 ?_
  obtain rfl := some_inj H
  refine Cd.ret ?_
  exact At.ret2 rfl (Res.cellA (i := 0) rfl rfl Tryz.isAgg57 Tryz.sizeOf57 (Enc.len _)) (Res.tmp rfl) hF9 (sc1 (sc1 (.refl _))) ⟨rfl, rfl⟩
 have hc5 : decide ((i5 : Int) < (a1.length : Int)) = true := decide_eq_true (by omega)
 obtain ⟨c5, H, hgo5⟩ := rangeF_go H
 unfold same_Run_B0 at H
 try dsimp only at H
 refine sr0 ?_
 refine Lst.r (Ev.lss rfl rfl) ?_
 refine nt0 ?_
 refine Cd.seq ?_
 refine Cd.condT rfl hc5 ?_
 refine Cd.skip ?_
 refine At.then ?_
 refine Cd.seq ?_
 refine Cd.block ?_
 refine sr0 ?_
 obtain ⟨x10, h11, H⟩ := bind_some H
 have g12 := lat_some h11
 refine Lst.r (Ev.indexS (α := Str) (xs := a1) rfl rfl Tryz.runUnderlying43 Tryz.sizeOf9 rfl (by decide) (hs_a1.mono hF9 (sc2 hM)) g12.1 g12.2.1) ?_
 refine Lst.r (Ev.loadS (α := Str) rfl (hs_a1.mono hF9 (sc2 hM)) Tryz.isAgg9 (v := Str.v x10) ((Get.elemN (s := 1) (x := x10) rfl g12.2.2 gh0).off (by omega))) ?_
 refine Lst.r (Ev.assign rfl) ?_
 refine nsr ?_
 refine mv0 rfl ?_
 obtain ⟨r13, h14, H⟩ := bind_some H
 refine Lst.call1 rfl rfl (by decide) (vs := [Str.v x10]) ⟨rfl, trivial⟩ Tryz.call67 (same_Read_sim h14 w0 _ M _ (sc2 hM)) ?_
 refine mv0 rfl ?_
 refine Lst.r (Ev.extract rfl rfl) ?_
 refine Lst.r (Ev.extract rfl rfl) ?_
 refine Lst.alloc (cs := enc Cmd.zero) rfl rfl (by decide) Tryz.zeroValue138 rfl (fun b17 => ?_)
 refine Lst.store (i := 0) rfl rfl rfl rfl rfl Tryz.sizeOf138 (vs := enc r13.1) rfl (Enc.len _) (Enc.one _) (cs' := enc r13.1) (Put.here ((Enc.len _).trans (Enc.len _).symm)) (L' := (.blk b17 (enc r13.1) 138) :: (.blk b3 (enc (Vector.replicate 10 (0 : Int))) 57) :: (.blk b1 (enc y7) 57) :: L) rfl ?_
 refine Lst.r (Ev.assign rfl) ?_
 refine nt0 ?_
 refine Cd.seq ?_
 refine sr0 ?_
 refine mv0 rfl ?_
 refine Lst.r (Ev.neq rfl rfl) ?_
 refine nt0 ?_
 rcases Bool.eq_false_or_eq_true (r13.2 != (0 : Int)) with hb19 | hb19
 ·replace H := ite_t hb19 H
  refine Cd.condT rfl hb19 ?_
  refine sr0 ?_
  refine mv0 rfl ?_
  refine Lst.r (Ev.add rfl rfl) ?_
  refine Lst.r (Ev.assign rfl) ?_
  refine nt0 ?_
  refine Cd.exit ?_
  refine At.then_exit ?_
  refine At.in_exit ?_
  refine At.then ?_
  refine Cd.as (e' := [(2, pv b1 0), (4, pv b3 0), (6, iv (w64 (y6 + (1 : Int)))), (11, Sl.v s_a1), (12, iv (a1.length : Int)), (13, iv (i5 : Int))]) (L' := (.blk b17 (enc r13.1) 138) :: (.blk b3 (enc (Vector.replicate 10 (0 : Int))) 57) :: (.blk b1 (enc y7) 57) :: L) ⟨rfl, rfl, rfl, rfl, rfl, rfl, trivial⟩ rfl ?_
  refine Cd.region ?_
  refine Lst.r (Ev.incr (by omega) rfl rfl) ?_
  refine mv0 rfl ?_
  refine Lst.nil ?_
  refine At.less (L' := (.blk b3 (enc (Vector.replicate 10 (0 : Int))) 57) :: (.blk b1 (enc y7) 57) :: L) (sc1 (sk1 (sk1 (.refl _)))) ?_
  exact At.meet (i5 + 1, k5, w64 (y6 + (1 : Int)), y7) hF9 ⟨rfl, rfl, rfl, rfl, rfl, rfl, trivial⟩ rfl ⟨⟨hgo5 _ (some_inj H).symm, by omega⟩, Nat.lt_succ_self _⟩
 replace H := ite_f hb19 H
 refine Cd.condF rfl hb19 ?_
 refine Cd.skip ?_
 refine At.then ?_
 refine Cd.region ?_
 refine Lst.r (Ev.loadA (i := 0) rfl rfl Tryz.isAgg138 Tryz.sizeOf138 (ch := enc r13.1) (Enc.len _) gh0) ?_
 obtain ⟨r20, h21, H⟩ := bind_some H
 refine Lst.front (i := 2) rfl (L' := (.blk b1 (enc y7) 57) :: (.blk b17 (enc r13.1) 138) :: (.blk b3 (enc (Vector.replicate 10 (0 : Int))) 57) :: L) rfl ?_
 refine Lst.call rfl rfl (by decide) (vs := [pv b1 0, .agg (enc r13.1).toArray]) ⟨rfl, rfl, trivial⟩ Tryz.call68 (same_run_sim h21 w0 _ M _ (sc2 hM)) (fun F22 L' v hF23 hv => ?_)
 obtain ⟨rfl, rfl⟩ := hv
 refine Lst.nil ?_
 refine At.in_normal ?_
 refine At.then ?_
 refine Cd.as (e' := [(2, pv b1 0), (4, pv b3 0), (6, iv y6), (11, Sl.v s_a1), (12, iv (a1.length : Int)), (13, iv (i5 : Int))]) (L' := (.blk b1 (enc r20) 57) :: (.blk b17 (enc r13.1) 138) :: (.blk b3 (enc (Vector.replicate 10 (0 : Int))) 57) :: L) ⟨rfl, rfl, rfl, rfl, rfl, rfl, trivial⟩ rfl ?_
 refine Cd.region ?_
 refine Lst.r (Ev.incr (by omega) rfl rfl) ?_
 refine mv0 rfl ?_
 refine Lst.nil ?_
 refine At.front (i := 2) rfl (L' := (.blk b3 (enc (Vector.replicate 10 (0 : Int))) 57) :: (.blk b1 (enc r20) 57) :: (.blk b17 (enc r13.1) 138) :: L) rfl ?_
 refine At.less (L' := (.blk b3 (enc (Vector.replicate 10 (0 : Int))) 57) :: (.blk b1 (enc r20) 57) :: L) (sk1 (sk1 (sc1 (.refl _)))) ?_
 exact At.meet (i5 + 1, k5, y6, r20) (FLe.trans hF9 hF23) ⟨rfl, rfl, rfl, rfl, rfl, rfl, trivial⟩ rfl ⟨⟨hgo5 _ (some_inj H).symm, by omega⟩, Nat.lt_succ_self _⟩
set_option maxRecDepth 20000 in
theorem world_World_Vals_sim {fu : Nat} {a0 : Wld} {a1 : Int} {b_a0 : Nat} {s_a0_1 : Sl} {rs_a0_1 : List ProcessR} {s_a0_2 : Sl} {s_a0_3 : Sl} {r : (Vector Int 10) × Int} (H : world_World_Vals fu a0 a1 = some r) (w0 : World) (F : Frz) (M L : List Item) (hM : M.Sublist L) (hm_a0_1 : rs_a0_1.map ProcessR.v = a0.all) (ha_a0_1 : All ProcessR.frel w0 F [] rs_a0_1) : Ok Tryz.prog w0 17 [pv b_a0 0, iv a1] F ((.rows (α := Saying) 62 (List.map ProcessR.row rs_a0_1)) :: (.own s_a0_1 100 8 (encs rs_a0_1)) :: (.own s_a0_2 9 1 (encs a0.ordered)) :: (.own s_a0_3 9 1 (encs a0.way)) :: (.blk b_a0 (enc (WldR.mk a0 s_a0_1 s_a0_2 s_a0_3)) 95) :: L) (Is (.tuple #[.agg (enc r.1).toArray, iv r.2]) ((.rows (α := Saying) 62 (List.map ProcessR.row rs_a0_1)) :: (.own s_a0_1 100 8 (encs rs_a0_1)) :: (.own s_a0_2 9 1 (encs a0.ordered)) :: (.own s_a0_3 9 1 (encs a0.way)) :: (.blk b_a0 (enc (WldR.mk a0 s_a0_1 s_a0_2 s_a0_3)) 95) :: L)) := by
 unfold world_World_Vals at H
 refine Ok.enter (m := 2) (n := 42) Tryz.func17 rfl rfl rfl (by decide) ?_
 refine Cd.env (e' := [(0, pv b_a0 0), (1, iv a1)]) rfl ?_
 refine sr0 ?_
 refine Lst.alloc (cs := enc (Vector.replicate 10 (0 : Int))) rfl rfl (by decide) Tryz.zeroValue57 rfl (fun b6 => ?_)
 refine Lst.r (Ev.assign rfl) ?_
 refine nsr ?_
 refine mv0 rfl ?_
 refine mv0 rfl ?_
 obtain ⟨r8, h9, H⟩ := bind_some H
 refine Lst.front (i := 5) rfl rfl ?_
 refine Lst.front (i := 5) rfl rfl ?_
 refine Lst.front (i := 5) rfl (L' := (.own s_a0_2 9 1 (encs a0.ordered)) :: (.own s_a0_3 9 1 (encs a0.way)) :: (.blk b_a0 (enc (WldR.mk a0 s_a0_1 s_a0_2 s_a0_3)) 95) :: (.blk b6 (enc (Vector.replicate 10 (0 : Int))) 57) :: (.rows (α := Saying) 62 (List.map ProcessR.row rs_a0_1)) :: (.own s_a0_1 100 8 (encs rs_a0_1)) :: L) rfl ?_
 refine Lst.front (i := 5) rfl rfl ?_
 refine Lst.front (i := 5) rfl (L' := (.rows (α := Saying) 62 (List.map ProcessR.row rs_a0_1)) :: (.own s_a0_1 100 8 (encs rs_a0_1)) :: (.own s_a0_2 9 1 (encs a0.ordered)) :: (.own s_a0_3 9 1 (encs a0.way)) :: (.blk b_a0 (enc (WldR.mk a0 s_a0_1 s_a0_2 s_a0_3)) 95) :: (.blk b6 (enc (Vector.replicate 10 (0 : Int))) 57) :: L) rfl ?_
 refine Lst.call rfl rfl (by decide) (vs := [pv b_a0 0, iv a1]) ⟨rfl, rfl, trivial⟩ Tryz.call15 (world_World_Log_sim h9 w0 _ M _ (sc1 hM) hm_a0_1 (All.monoProcessF ha_a0_1 fl (List.nil_sublist _))) (fun F12 L' v hF13 hv => ?_)
 obtain ⟨s10, rfl, rfl⟩ := hv
 refine mv0 rfl ?_
 refine Lst.r (Ev.extract rfl rfl) ?_
 refine Lst.r (Ev.extract rfl rfl) ?_
 refine Lst.r (Ev.assign rfl) ?_
 refine Lst.r (Ev.assign rfl) ?_
 refine nt0 ?_
 refine Cd.seq ?_
 refine sr0 ?_
 refine mv0 rfl ?_
 refine Lst.r (Ev.neq rfl rfl) ?_
 refine nt0 ?_
 rcases Bool.eq_false_or_eq_true (r8.2 != (0 : Int)) with hb14 | hb14
 ·replace H := ite_t hb14 H
  refine Cd.condT rfl hb14 ?_
  refine sr0 ?_
  refine Lst.r (Ev.build (v := .agg (enc ((Vector.replicate 10 (0 : Int)) : Vector Int 10)).toArray) (pv := []) trivial (fun w => by kernel_rfl)) ?_
  refine mv0 rfl ?_
  refine Lst.store (i := 6) rfl rfl rfl rfl rfl Tryz.sizeOf57 (vs := enc ((Vector.replicate 10 (0 : Int)) : Vector Int 10)) rfl (Enc.len _) (Enc.one _) (cs' := enc ((Vector.replicate 10 (0 : Int)) : Vector Int 10)) (Put.here ((Enc.len _).trans (Enc.len _).symm)) (L' := (.own s10 62 2 (encs r8.1)) :: (.rows (α := Saying) 62 (List.map ProcessR.row rs_a0_1)) :: (.own s_a0_1 100 8 (encs rs_a0_1)) :: (.own s_a0_2 9 1 (encs a0.ordered)) :: (.own s_a0_3 9 1 (encs a0.way)) :: (.blk b_a0 (enc (WldR.mk a0 s_a0_1 s_a0_2 s_a0_3)) 95) :: (.blk b6 (enc ((Vector.replicate 10 (0 : Int)) : Vector Int 10)) 57) :: L) rfl ?_
  refine Lst.r (Ev.assign rfl) ?_
  refine nt0 ?_
  obtain rfl := some_inj H
  refine Cd.ret ?_
  refine At.then_ret ?_
  exact At.ret2 rfl (Res.cellA (i := 6) rfl rfl Tryz.isAgg57 Tryz.sizeOf57 (Enc.len _)) (Res.tmp rfl) hF13 (sc1 (sk1 (sk1 (sk1 (sk1 (sk1 (sc1 (.refl _)))))))) ⟨rfl, rfl⟩
 replace H := ite_f hb14 H
 refine Cd.condF rfl hb14 ?_
 refine Cd.skip ?_
 refine At.then ?_
 refine sr0 ?_
 refine Lst.addNil 9 1 ?_
 refine Lst.r (Ev.assign rfl) ?_
 refine nt0 ?_
 refine Cd.seq ?_
 refine sr0 ?_
 refine mv0 rfl ?_
 refine Lst.r (Ev.lenS (α := Saying) (xs := r8.1) (by decide) rfl rfl Tryz.runUnderlying37 (rdo 1 rfl rfl rfl)) ?_
 refine mv0 rfl ?_
 refine nt0 ?_
 refine Cd.block ?_
 refine Cd.bound (Rd.le (α := Saying) (xs := r8.1) (by decide) (rdo 1 rfl rfl rfl)) (fun hN37 => ?_)
 obtain ⟨ol16, H, HKl16⟩ := bind_some H
 refine Cd.loop (σ := Nat × Nat × Sl × (List Str)) (fun (i16, k16, s17, l18) => [(4, pv b6 0), (8, Sl.v s17), (23, Sl.v s10), (24, iv (r8.1.length : Int)), (25, iv (i16 : Int))]) (fun (i16, k16, s17, l18) => (.own s17 9 1 (encs l18)) :: (.own s10 62 2 (encs r8.1)) :: (.rows (α := Saying) 62 (List.map ProcessR.row rs_a0_1)) :: (.own s_a0_1 100 8 (encs rs_a0_1)) :: (.own s_a0_2 9 1 (encs a0.ordered)) :: (.own s_a0_3 9 1 (encs a0.way)) :: (.blk b_a0 (enc (WldR.mk a0 s_a0_1 s_a0_2 s_a0_3)) 95) :: (.blk b6 (enc (Vector.replicate 10 (0 : Int))) 57) :: L) (fun _ => (fun (i16, k16, s17, l18) => rangeF (world_World_Vals_B0 r8) k16 i16 l18 = some ol16 ∧ i16 + k16 = r8.1.length)) (fun (i16, k16, s17, l18) => k16) (0, r8.1.length, Sl.nil, ([] : List Str)) ⟨rfl, rfl, rfl, rfl, rfl, trivial⟩ rfl ⟨H, by omega⟩ ?_
 rintro F19 ⟨i16, k16, s17, l18⟩ hF20 ⟨H, hik16⟩
 refine Cd.as (e' := [(4, pv b6 0), (8, Sl.v s17), (23, Sl.v s10), (24, iv (r8.1.length : Int)), (25, iv (i16 : Int))]) (L' := (.own s17 9 1 (encs l18)) :: (.own s10 62 2 (encs r8.1)) :: (.rows (α := Saying) 62 (List.map ProcessR.row rs_a0_1)) :: (.own s_a0_1 100 8 (encs rs_a0_1)) :: (.own s_a0_2 9 1 (encs a0.ordered)) :: (.own s_a0_3 9 1 (encs a0.way)) :: (.blk b_a0 (enc (WldR.mk a0 s_a0_1 s_a0_2 s_a0_3)) 95) :: (.blk b6 (enc (Vector.replicate 10 (0 : Int))) 57) :: L) ⟨rfl, rfl, rfl, rfl, rfl, trivial⟩ rfl ?_
 rcases k16 with _ | k16
 ·have hc16 : decide ((i16 : Int) < (r8.1.length : Int)) = false := decide_eq_false (by omega)
  replace H := rangeF_end H
  refine sr0 ?_
  refine Lst.r (Ev.lss rfl rfl) ?_
  refine nt0 ?_
  refine Cd.seq ?_
  refine Cd.condF rfl hc16 ?_
  refine Cd.exit ?_
  refine At.then_exit ?_
  refine At.then_exit ?_
  refine At.in_exit ?_
  subst H
  replace H := HKl16
  refine At.then ?_
  refine sr0 ?_
  refine Lst.r (Ev.build (v := .agg (enc ((Vector.replicate 10 (0 : Int)) : Vector Int 10)).toArray) (pv := []) trivial (fun w => by kernel_rfl)) ?_
  refine mv0 rfl ?_
  obtain ⟨r31, h32, H⟩ := bind_some H
  refine Lst.call1 rfl rfl (by decide) (vs := [.agg (enc ((Vector.replicate 10 (0 : Int)) : Vector Int 10)).toArray, Sl.v s17]) ⟨rfl, rfl, trivial⟩ Tryz.call33 (same_Run_sim h32 w0 _ _ _ (.refl _) (rdo 0 rfl rfl rfl)) ?_
  refine mv0 rfl ?_
  refine Lst.r (Ev.extract rfl rfl) ?_
  refine Lst.r (Ev.extract rfl rfl) ?_
  refine Lst.alloc (cs := enc (Vector.replicate 10 (0 : Int))) rfl rfl (by decide) Tryz.zeroValue57 rfl (fun b35 => ?_)
  refine Lst.store (i := 0) rfl rfl rfl rfl rfl Tryz.sizeOf57 (vs := enc r31.1) rfl (Enc.len _) (Enc.one _) (cs' := enc r31.1) (Put.here ((Enc.len _).trans (Enc.len _).symm)) (L' := (.blk b35 (enc r31.1) 57) :: (.own s17 9 1 (encs l18)) :: (.own s10 62 2 (encs r8.1)) :: (.rows (α := Saying) 62 (List.map ProcessR.row rs_a0_1)) :: (.own s_a0_1 100 8 (encs rs_a0_1)) :: (.own s_a0_2 9 1 (encs a0.ordered)) :: (.own s_a0_3 9 1 (encs a0.way)) :: (.blk b_a0 (enc (WldR.mk a0 s_a0_1 s_a0_2 s_a0_3)) 95) :: (.blk b6 (enc (Vector.replicate 10 (0 : Int))) 57) :: L) rfl ?_
  refine Lst.r (Ev.assign rfl) ?_
  refine nsr ?_
  refine Lst.r (Ev.loadA (i := 0) rfl rfl Tryz.isAgg57 Tryz.sizeOf57 (ch := enc r31.1) (Enc.len _) gh0) ?_
  refine Lst.store (i := 8) rfl rfl rfl rfl rfl Tryz.sizeOf57 (vs := enc r31.1) rfl (Enc.len _) (Enc.one _) (cs' := enc r31.1) (Put.here ((Enc.len _).trans (Enc.len _).symm)) (L' := (.blk b35 (enc r31.1) 57) :: (.own s17 9 1 (encs l18)) :: (.own s10 62 2 (encs r8.1)) :: (.rows (α := Saying) 62 (List.map ProcessR.row rs_a0_1)) :: (.own s_a0_1 100 8 (encs rs_a0_1)) :: (.own s_a0_2 9 1 (encs a0.ordered)) :: (.own s_a0_3 9 1 (encs a0.way)) :: (.blk b_a0 (enc (WldR.mk a0 s_a0_1 s_a0_2 s_a0_3)) 95) :: (.blk b6 (enc r31.1) 57) :: L) rfl ?_
  refine Lst.r (Ev.assign rfl) ?_
  refine nt0 ?_
  obtain rfl := some_inj H
  refine Cd.ret ?_
  exact At.ret2 rfl (Res.cellA (i := 8) rfl rfl Tryz.isAgg57 Tryz.sizeOf57 (Enc.len _)) (Res.tmp rfl) (FLe.trans hF13 hF20) (sc1 (sc1 (sc1 (sk1 (sk1 (sk1 (sk1 (sk1 (sc1 (.refl _)))))))))) ⟨rfl, rfl⟩
 have hc16 : decide ((i16 : Int) < (r8.1.length : Int)) = true := decide_eq_true (by omega)
 obtain ⟨c16, H, hgo16⟩ := rangeF_go H
 unfold world_World_Vals_B0 at H
 try dsimp only at H
 refine sr0 ?_
 refine Lst.r (Ev.lss rfl rfl) ?_
 refine nt0 ?_
 refine Cd.seq ?_
 refine Cd.condT rfl hc16 ?_
 refine Cd.skip ?_
 refine At.then ?_
 refine Cd.seq ?_
 refine Cd.block ?_
 refine sr0 ?_
 obtain ⟨x21, h22, H⟩ := bind_some H
 have g23 := lat_some h22
 refine Lst.r (Ev.indexS (α := Saying) (xs := r8.1) rfl rfl Tryz.runUnderlying37 Tryz.sizeOf62 rfl (by decide) (rdo 1 rfl rfl rfl) g23.1 g23.2.1) ?_
 refine Lst.r (Ev.loadSA (α := Saying) rfl (rdo 1 rfl rfl rfl) Tryz.isAgg62 Tryz.sizeOf62 (ch := enc x21) (Enc.len _) (by decide) ((Get.elemN (s := 2) (x := x21) rfl g23.2.2 gh0).off (by omega))) ?_
 refine Lst.alloc (cs := enc Saying.zero) rfl rfl (by decide) Tryz.zeroValue62 rfl (fun b24 => ?_)
 refine Lst.store (i := 0) rfl rfl rfl rfl rfl Tryz.sizeOf62 (vs := enc x21) rfl (Enc.len _) (Enc.one _) (cs' := enc x21) (Put.here ((Enc.len _).trans (Enc.len _).symm)) (L' := (.blk b24 (enc x21) 62) :: (.own s17 9 1 (encs l18)) :: (.own s10 62 2 (encs r8.1)) :: (.rows (α := Saying) 62 (List.map ProcessR.row rs_a0_1)) :: (.own s_a0_1 100 8 (encs rs_a0_1)) :: (.own s_a0_2 9 1 (encs a0.ordered)) :: (.own s_a0_3 9 1 (encs a0.way)) :: (.blk b_a0 (enc (WldR.mk a0 s_a0_1 s_a0_2 s_a0_3)) 95) :: (.blk b6 (enc (Vector.replicate 10 (0 : Int))) 57) :: L) rfl ?_
 refine nt0 ?_
 refine Cd.region ?_
 refine mv0 rfl ?_
 refine Lst.r (Ev.fieldAddr (off' := 1) rfl Tryz.runUnderlying62 rfl Tryz.sizeOf9 rfl rfl) ?_
 refine Lst.r (Ev.load (i := 0) rfl rfl Tryz.isAgg9 (v := Str.v x21.Text) ((Saying.get_Text gh0).off (by rfl))) ?_
 refine Lst.buildSlice (α := Str) (xs := ([x21.Text] : List Str)) (pv := [(0, Str.v x21.Text)]) rfl rfl (by decide) ⟨rfl, rfl, trivial⟩ (run_buildSlice (α := Str) (z0 := ([] : Str)) (xs := ([x21.Text] : List Str)) Tryz.runUnderlying43 Tryz.sizeOf9 Tryz.zeroValue9 rfl rfl rfl (by decide) rfl (fill_cons (cs := encs (List.replicate 1 ([] : Str))) (cs' := encs ((List.replicate 1 ([] : Str)).set 0 x21.Text)) (vs := [Str.v x21.Text]) rfl rfl rfl ((Put.elemN (s := 1) (i := 0) (x := ([] : Str)) (y := x21.Text) rfl rfl (Put.here (vs := [Str.v x21.Text]) rfl)).off rfl) fill_nil)) rfl rfl (by decide) (fun s26 _ => ?_)
 obtain ⟨u28, h29, H⟩ := bind_some H
 refine Lst.append (i := 2) (α := Str) (xs := l18) (ys := ([x21.Text] : List Str)) rfl rfl (by decide) rfl rfl Tryz.runUnderlying43 Tryz.typeInfo9 rfl rfl rfl rfl rfl rfl (rdo 0 rfl rfl rfl) rfl (room_some h29) rfl (fun s30 => ?_)
 refine Lst.its (L' := (.own s26 9 1 (encs ([x21.Text] : List Str))) :: (.blk b24 (enc x21) 62) :: (.own s30 9 1 (encs (l18 ++ ([x21.Text] : List Str)))) :: (.own s10 62 2 (encs r8.1)) :: (.rows (α := Saying) 62 (List.map ProcessR.row rs_a0_1)) :: (.own s_a0_1 100 8 (encs rs_a0_1)) :: (.own s_a0_2 9 1 (encs a0.ordered)) :: (.own s_a0_3 9 1 (encs a0.way)) :: (.blk b_a0 (enc (WldR.mk a0 s_a0_1 s_a0_2 s_a0_3)) 95) :: (.blk b6 (enc (Vector.replicate 10 (0 : Int))) 57) :: L) rfl ?_
 refine Lst.r (Ev.assign rfl) ?_
 refine Lst.nil ?_
 refine At.in_normal ?_
 refine At.then ?_
 refine Cd.region ?_
 refine Lst.r (Ev.incr (by omega) rfl rfl) ?_
 refine mv0 rfl ?_
 refine Lst.nil ?_
 refine At.less (L' := (.own s30 9 1 (encs (l18 ++ ([x21.Text] : List Str)))) :: (.own s10 62 2 (encs r8.1)) :: (.rows (α := Saying) 62 (List.map ProcessR.row rs_a0_1)) :: (.own s_a0_1 100 8 (encs rs_a0_1)) :: (.own s_a0_2 9 1 (encs a0.ordered)) :: (.own s_a0_3 9 1 (encs a0.way)) :: (.blk b_a0 (enc (WldR.mk a0 s_a0_1 s_a0_2 s_a0_3)) 95) :: (.blk b6 (enc (Vector.replicate 10 (0 : Int))) 57) :: L) (sc1 (sc1 (sk1 (sk1 (sk1 (sk1 (sk1 (sk1 (sk1 (sk1 (.refl _))))))))))) ?_
 exact At.meet (i16 + 1, k16, s30, l18 ++ ([x21.Text] : List Str)) hF20 ⟨rfl, rfl, rfl, rfl, rfl, trivial⟩ rfl ⟨⟨hgo16 _ (some_inj H).symm, by omega⟩, Nat.lt_succ_self _⟩
set_option maxRecDepth 20000 in
theorem parttop_works_sim {fu : Nat} {r : Bool} (H : parttop_works fu = some r) (w0 : World) (F : Frz) (M L : List Item) (hM : M.Sublist L) (hT : Tab Tryz.prog w0) : Ok Tryz.prog w0 26 [] F (L) (Is (.bool r) (L)) := by
 unfold parttop_works at H
 refine Ok.enter (m := 0) (n := 57) Tryz.func26 rfl rfl rfl (by decide) ?_
 refine Cd.env (e' := []) rfl ?_
 refine sr0 ?_
 refine Lst.r (Ev.assign rfl) ?_
 refine nsr ?_
 obtain ⟨r1, h2, H⟩ := bind_some H
 refine Lst.call rfl rfl (by decide) (vs := [iv (3 : Int)]) ⟨rfl, trivial⟩ Tryz.call9 (world_New_sim h2 w0 _ M _ hM) (fun F15 L' v hF16 hv => ?_)
 obtain ⟨b3, s4, rs5, s10, s12, rfl, rfl, fm6, fa9⟩ := hv
 refine mv0 rfl ?_
 refine Lst.r (Ev.extract rfl rfl) ?_
 refine Lst.r (Ev.extract rfl rfl) ?_
 refine Lst.r (Ev.assign rfl) ?_
 refine Lst.r (Ev.assign rfl) ?_
 refine nt0 ?_
 refine Cd.seq ?_
 refine sr0 ?_
 refine mv0 rfl ?_
 refine Lst.r (Ev.neq rfl rfl) ?_
 refine mv0 rfl ?_
 obtain ⟨o17, H, HKo17⟩ := bind_some H
 refine Lst.join (σ := Bool) 3 (fun y18 => [(1, pv b3 0), (16, .bool y18)]) (fun y18 => (.rows (α := Saying) 62 (List.map ProcessR.row rs5)) :: (.own s4 100 8 (encs rs5)) :: (.own s10 9 1 (encs r1.1.ordered)) :: (.own s12 9 1 (encs r1.1.way)) :: (.blk b3 (enc (WldR.mk r1.1 s4 s10 s12)) 95) :: L) (fun _ y18 => y18 = o17) ?_ ?_
 ·rcases Bool.eq_false_or_eq_true (r1.2 != (0 : Int)) with hb19 | hb19
  ·replace H := ite_t hb19 H
   refine Lst.skip rfl rfl rfl hb19 rfl (by decide) ?_
   refine Lst.skip rfl rfl rfl hb19 rfl (by decide) ?_
   refine Lst.r (Ev.pickT rfl hb19 rfl) ?_
   refine Lst.nil ?_
   exact At.meet true fl ⟨rfl, rfl, trivial⟩ rfl (some_inj H)
  replace H := ite_f hb19 H
  refine Lst.rG hb19 (Ev.move rfl) ?_
  refine Lst.rG hb19 (Ev.eqlPtr rfl Tryz.runUnderlying23) ?_
  refine Lst.r (Ev.pickF rfl hb19 rfl) ?_
  refine Lst.nil ?_
  exact At.meet false fl ⟨rfl, rfl, trivial⟩ rfl (some_inj H)
 rintro F20 y18 hF21 hy
 subst hy
 refine Lst.as (e' := [(1, pv b3 0), (16, .bool y18)]) (L' := (.rows (α := Saying) 62 (List.map ProcessR.row rs5)) :: (.own s4 100 8 (encs rs5)) :: (.own s10 9 1 (encs r1.1.ordered)) :: (.own s12 9 1 (encs r1.1.way)) :: (.blk b3 (enc (WldR.mk r1.1 s4 s10 s12)) 95) :: L) ⟨rfl, rfl, trivial⟩ rfl ?_
 replace H := HKo17
 refine nt0 ?_
 rcases Bool.eq_false_or_eq_true y18 with hb22 | hb22
 ·replace H := ite_t hb22 H
  refine Cd.condT rfl hb22 ?_
  refine sr0 ?_
  refine Lst.r (Ev.assign rfl) ?_
  refine nt0 ?_
  obtain rfl := some_inj H
  refine Cd.ret ?_
  refine At.then_ret ?_
  exact At.ret1 rfl (Res.tmp rfl) (FLe.trans hF16 hF21) (sc1 (sc1 (sc1 (sc1 (sc1 (.refl _)))))) ⟨rfl, rfl⟩
 replace H := ite_f hb22 H
 refine Cd.condF rfl hb22 ?_
 refine Cd.skip ?_
 refine At.then ?_
 refine Cd.seq ?_
 refine sr0 ?_
 refine mv0 rfl ?_
 refine nt0 ?_
 refine Cd.block ?_
 obtain ⟨ol23, H, HKl23⟩ := andThen_some H
 refine Cd.loop (σ := Nat × Nat × Wld × (List Procs) × (List ProcessR) × Sl × (List Str)) (fun (i23, k23, y24, l25, rs26, s29, l30) => [(1, pv b3 0), (17, iv (i23 : Int))]) (fun (i23, k23, y24, l25, rs26, s29, l30) => (.rows (α := Saying) 62 (List.map ProcessR.row rs26)) :: (.own s4 100 8 (encs rs26)) :: (.own s10 9 1 (encs r1.1.ordered)) :: (.own s29 9 1 (encs l30)) :: (.blk b3 (enc (WldR.mk ({ y24 with all := l25, ordered := r1.1.ordered, way := l30 } : Wld) s4 s10 s29)) 95) :: L) (fun Fx => (fun (i23, k23, y24, l25, rs26, s29, l30) => rangeM (parttop_works_B0 r1) k23 i23 (y24, l25, l30) = some ol23 ∧ i23 + k23 = 3 ∧ rs26.map ProcessR.v = l25 ∧ All ProcessR.frel w0 Fx [] rs26)) (fun (i23, k23, y24, l25, rs26, s29, l30) => k23) (0, 3, r1.1, r1.1.all, rs5, s12, r1.1.way) ⟨rfl, rfl, trivial⟩ rfl ⟨H, by omega, fm6, (All.monoProcessF fa9 hF21 (List.nil_sublist _))⟩ ?_
 rintro F31 ⟨i23, k23, y24, l25, rs26, s29, l30⟩ hF32 ⟨H, hik23, fm27, fa28⟩
 refine Cd.as (e' := [(1, pv b3 0), (17, iv (i23 : Int))]) (L' := (.rows (α := Saying) 62 (List.map ProcessR.row rs26)) :: (.own s4 100 8 (encs rs26)) :: (.own s10 9 1 (encs r1.1.ordered)) :: (.own s29 9 1 (encs l30)) :: (.blk b3 (enc (WldR.mk ({ y24 with all := l25, ordered := r1.1.ordered, way := l30 } : Wld) s4 s10 s29)) 95) :: L) ⟨rfl, rfl, trivial⟩ rfl ?_
 rcases k23 with _ | k23
 ·have hc23 : decide ((i23 : Int) < (3 : Int)) = false := decide_eq_false (by omega)
  replace H := rangeM_end H
  refine sr0 ?_
  refine Lst.r (Ev.lss rfl rfl) ?_
  refine nt0 ?_
  refine Cd.seq ?_
  refine Cd.condF rfl hc23 ?_
  refine Cd.exit ?_
  refine At.then_exit ?_
  refine At.then_exit ?_
  refine At.in_exit ?_
  subst H
  replace H := HKl23
  try dsimp only [Sum.elim_inl] at H
  refine At.then ?_
  refine Cd.seq ?_
  refine sr0 ?_
  refine mv0 rfl ?_
  refine nt0 ?_
  refine Cd.block ?_
  refine Cd.front (i := 3) rfl (L' := (.own s29 9 1 (encs l30)) :: (.rows (α := Saying) 62 (List.map ProcessR.row rs26)) :: (.own s4 100 8 (encs rs26)) :: (.own s10 9 1 (encs r1.1.ordered)) :: (.blk b3 (enc (WldR.mk ({ y24 with all := l25, ordered := r1.1.ordered, way := l30 } : Wld) s4 s10 s29)) 95) :: L) rfl ?_
  obtain ⟨ol48, H, HKl48⟩ := andThen_some H
  refine Cd.loop (σ := Nat × Nat × Wld × Sl × (List Procs) × (List ProcessR) × Sl × (List Str)) (fun (i48, k48, y49, s50, l52, rs53, s56, l57) => [(1, pv b3 0), (29, iv (i48 : Int))]) (fun (i48, k48, y49, s50, l52, rs53, s56, l57) => (.own s50 9 1 (encs y49.way)) :: (.rows (α := Saying) 62 (List.map ProcessR.row rs53)) :: (.own s4 100 8 (encs rs53)) :: (.own s56 9 1 (encs l57)) :: (.blk b3 (enc (WldR.mk ({ y49 with all := l52, ordered := l57 } : Wld) s4 s56 s50)) 95) :: L) (fun Fx => (fun (i48, k48, y49, s50, l52, rs53, s56, l57) => rangeM (parttop_works_B2 fu) k48 i48 (y49, l52, l57) = some ol48 ∧ i48 + k48 = 100 ∧ rs53.map ProcessR.v = l52 ∧ All ProcessR.frel w0 Fx [] rs53)) (fun (i48, k48, y49, s50, l52, rs53, s56, l57) => k48) (0, 100, ({ y24 with all := l25, ordered := r1.1.ordered, way := l30 } : Wld), s29, l25, rs26, s10, r1.1.ordered) ⟨rfl, rfl, trivial⟩ rfl ⟨H, by omega, fm27, (All.monoProcessF fa28 fl (List.nil_sublist _))⟩ ?_
  rintro F58 ⟨i48, k48, y49, s50, l52, rs53, s56, l57⟩ hF59 ⟨H, hik48, fm54, fa55⟩
  refine Cd.as (e' := [(1, pv b3 0), (29, iv (i48 : Int))]) (L' := (.own s50 9 1 (encs y49.way)) :: (.rows (α := Saying) 62 (List.map ProcessR.row rs53)) :: (.own s4 100 8 (encs rs53)) :: (.own s56 9 1 (encs l57)) :: (.blk b3 (enc (WldR.mk ({ y49 with all := l52, ordered := l57 } : Wld) s4 s56 s50)) 95) :: L) ⟨rfl, rfl, trivial⟩ rfl ?_
  rcases k48 with _ | k48
  ·have hc48 : decide ((i48 : Int) < (100 : Int)) = false := decide_eq_false (by omega)
   replace H := rangeM_end H
   refine sr0 ?_
   refine Lst.r (Ev.lss rfl rfl) ?_
   refine nt0 ?_
   refine Cd.seq ?_
   refine Cd.condF rfl hc48 ?_
   refine Cd.exit ?_
   refine At.then_exit ?_
   refine At.then_exit ?_
   refine At.in_exit ?_
   subst H
   replace H := HKl48
   try dsimp only [Sum.elim_inl] at H
   refine At.then ?_
   refine Cd.seq ?_
   refine sr0 ?_
   refine mv0 rfl ?_
   refine nt0 ?_
   refine Cd.block ?_
   obtain ⟨ol76, H, HKl76⟩ := andThen_some H
   refine Cd.loop (σ := Nat × Nat × Unit) (fun (i76, k76, _u) => [(1, pv b3 0), (40, iv (i76 : Int))]) (fun (i76, k76, _u) => (.own s50 9 1 (encs y49.way)) :: (.rows (α := Saying) 62 (List.map ProcessR.row rs53)) :: (.own s4 100 8 (encs rs53)) :: (.own s56 9 1 (encs l57)) :: (.blk b3 (enc (WldR.mk ({ y49 with all := l52, ordered := l57 } : Wld) s4 s56 s50)) 95) :: L) (fun _ => (fun (i76, k76, _u) => rangeM (parttop_works_B4 fu y49 l52 l57) k76 i76 () = some ol76 ∧ i76 + k76 = 3)) (fun (i76, k76, _u) => k76) (0, 3, ()) ⟨rfl, rfl, trivial⟩ rfl ⟨H, by omega⟩ ?_
   rintro F77 ⟨i76, k76, _u⟩ hF78 ⟨H, hik76⟩
   refine Cd.as (e' := [(1, pv b3 0), (40, iv (i76 : Int))]) (L' := (.own s50 9 1 (encs y49.way)) :: (.rows (α := Saying) 62 (List.map ProcessR.row rs53)) :: (.own s4 100 8 (encs rs53)) :: (.own s56 9 1 (encs l57)) :: (.blk b3 (enc (WldR.mk ({ y49 with all := l52, ordered := l57 } : Wld) s4 s56 s50)) 95) :: L) ⟨rfl, rfl, trivial⟩ rfl ?_
   rcases k76 with _ | k76
   ·have hc76 : decide ((i76 : Int) < (3 : Int)) = false := decide_eq_false (by omega)
    replace H := rangeM_end H
    refine sr0 ?_
    refine Lst.r (Ev.lss rfl rfl) ?_
    refine nt0 ?_
    refine Cd.seq ?_
    refine Cd.condF rfl hc76 ?_
    refine Cd.exit ?_
    refine At.then_exit ?_
    refine At.then_exit ?_
    refine At.in_exit ?_
    subst H
    replace H := HKl76
    refine At.then ?_
    refine sr0 ?_
    refine Lst.r (Ev.assign rfl) ?_
    refine nt0 ?_
    obtain rfl := some_inj H
    refine Cd.ret ?_
    exact At.ret1 rfl (Res.tmp rfl) (FLe.trans (FLe.trans (FLe.trans (FLe.trans hF16 hF21) hF32) hF59) hF78) (sc1 (sc1 (sc1 (sc1 (sc1 (.refl _)))))) ⟨rfl, rfl⟩
   have hc76 : decide ((i76 : Int) < (3 : Int)) = true := decide_eq_true (by omega)
   obtain ⟨c76, H, hgo76, hbrk76, hret76⟩ := rangeM_go H
   unfold parttop_works_B4 at H
   try dsimp only at H
   refine sr0 ?_
   refine Lst.r (Ev.lss rfl rfl) ?_
   refine nt0 ?_
   refine Cd.seq ?_
   refine Cd.condT rfl hc76 ?_
   refine Cd.skip ?_
   refine At.then ?_
   refine Cd.seq ?_
   refine Cd.block ?_
   refine sr0 ?_
   refine mv0 rfl ?_
   refine Lst.r (Ev.assign rfl) ?_
   refine nsr ?_
   refine mv0 rfl ?_
   refine mv0 rfl ?_
   obtain ⟨r79, h80, H⟩ := bind_some H
   refine Lst.front (i := 4) rfl rfl ?_
   refine Lst.front (i := 1) rfl rfl ?_
   refine Lst.front (i := 4) rfl (L' := (.own s56 9 1 (encs l57)) :: (.own s50 9 1 (encs y49.way)) :: (.blk b3 (enc (WldR.mk ({ y49 with all := l52, ordered := l57 } : Wld) s4 s56 s50)) 95) :: (.rows (α := Saying) 62 (List.map ProcessR.row rs53)) :: (.own s4 100 8 (encs rs53)) :: L) rfl ?_
   refine Lst.front (i := 4) rfl rfl ?_
   refine Lst.front (i := 4) rfl (L' := (.rows (α := Saying) 62 (List.map ProcessR.row rs53)) :: (.own s4 100 8 (encs rs53)) :: (.own s56 9 1 (encs l57)) :: (.own s50 9 1 (encs y49.way)) :: (.blk b3 (enc (WldR.mk ({ y49 with all := l52, ordered := l57 } : Wld) s4 s56 s50)) 95) :: L) rfl ?_
   refine Lst.call1 rfl rfl (by decide) (vs := [pv b3 0, iv (i76 : Int)]) ⟨rfl, rfl, trivial⟩ Tryz.call17 (world_World_Vals_sim h80 w0 _ M _ hM fm54 (All.monoProcessF fa55 hF78 (List.nil_sublist _))) ?_
   refine mv0 rfl ?_
   refine Lst.r (Ev.extract rfl rfl) ?_
   refine Lst.r (Ev.extract rfl rfl) ?_
   refine Lst.alloc (cs := enc (Vector.replicate 10 (0 : Int))) rfl rfl (by decide) Tryz.zeroValue57 rfl (fun b83 => ?_)
   refine Lst.store (i := 0) rfl rfl rfl rfl rfl Tryz.sizeOf57 (vs := enc r79.1) rfl (Enc.len _) (Enc.one _) (cs' := enc r79.1) (Put.here ((Enc.len _).trans (Enc.len _).symm)) (L' := (.blk b83 (enc r79.1) 57) :: (.rows (α := Saying) 62 (List.map ProcessR.row rs53)) :: (.own s4 100 8 (encs rs53)) :: (.own s56 9 1 (encs l57)) :: (.own s50 9 1 (encs y49.way)) :: (.blk b3 (enc (WldR.mk ({ y49 with all := l52, ordered := l57 } : Wld) s4 s56 s50)) 95) :: L) rfl ?_
   refine Lst.r (Ev.assign rfl) ?_
   refine nsr ?_
   refine mv0 rfl ?_
   refine Lst.r (Ev.neq rfl rfl) ?_
   refine mv0 rfl ?_
   obtain ⟨o85, H, HKo85⟩ := bind_some H
   refine Lst.join (σ := Bool) 4 (fun y86 => [(1, pv b3 0), (40, iv (i76 : Int)), (55, .bool y86)]) (fun y86 => (.blk b83 (enc r79.1) 57) :: (.rows (α := Saying) 62 (List.map ProcessR.row rs53)) :: (.own s4 100 8 (encs rs53)) :: (.own s56 9 1 (encs l57)) :: (.own s50 9 1 (encs y49.way)) :: (.blk b3 (enc (WldR.mk ({ y49 with all := l52, ordered := l57 } : Wld) s4 s56 s50)) 95) :: L) (fun _ y86 => y86 = o85) ?_ ?_
   ·rcases Bool.eq_false_or_eq_true (r79.2 != (0 : Int)) with hb87 | hb87
    ·replace H := ite_t hb87 H
     refine Lst.skip rfl rfl rfl hb87 rfl (by decide) ?_
     refine Lst.skip rfl rfl rfl hb87 rfl (by decide) ?_
     refine Lst.skip rfl rfl rfl hb87 rfl (by decide) ?_
     refine Lst.r (Ev.pickT rfl hb87 rfl) ?_
     refine Lst.nil ?_
     exact At.meet true fl ⟨rfl, rfl, rfl, trivial⟩ rfl (some_inj H)
    replace H := ite_f hb87 H
    refine Lst.rG hb87 (Ev.loadA (i := 0) rfl rfl Tryz.isAgg57 Tryz.sizeOf57 (ch := enc r79.1) (Enc.len _) gh0) ?_
    refine Lst.rG hb87 (Ev.build (v := .agg (enc (((Vector.replicate 10 (0 : Int)).setIfInBounds 4 (6 : Int)) : Vector Int 10)).toArray) (pv := [(4, iv (6 : Int))]) ⟨rfl, rfl, trivial⟩ (run_buildArray Tryz.zeroValue57 (zs := enc (Vector.replicate 10 (0 : Int))) rfl Tryz.runUnderlying57 Tryz.sizeOf3 (fill_cons (cs := enc (Vector.replicate 10 (0 : Int))) (cs' := enc ((Vector.replicate 10 (0 : Int)).setIfInBounds 4 (6 : Int))) (vs := [iv (6 : Int)]) rfl rfl rfl ((Put.vecN (s := 1) (i := 4) (x := (0 : Int)) (y := (6 : Int)) rfl rfl (Put.here (vs := [iv (6 : Int)]) rfl)).off rfl) fill_nil))) ?_
    refine Lst.rG hb87 (Ev.neqA rfl rfl (by kernel_rfl) (eq57 _ _)) ?_
    refine Lst.r (Ev.pickF rfl hb87 rfl) ?_
    refine Lst.nil ?_
    exact At.meet (!(decide (r79.1 = (((Vector.replicate 10 (0 : Int)).setIfInBounds 4 (6 : Int)) : Vector Int 10)))) fl ⟨rfl, rfl, rfl, trivial⟩ rfl (some_inj H)
   rintro F88 y86 hF89 hy
   subst hy
   refine Lst.as (e' := [(1, pv b3 0), (40, iv (i76 : Int)), (55, .bool y86)]) (L' := (.blk b83 (enc r79.1) 57) :: (.rows (α := Saying) 62 (List.map ProcessR.row rs53)) :: (.own s4 100 8 (encs rs53)) :: (.own s56 9 1 (encs l57)) :: (.own s50 9 1 (encs y49.way)) :: (.blk b3 (enc (WldR.mk ({ y49 with all := l52, ordered := l57 } : Wld) s4 s56 s50)) 95) :: L) ⟨rfl, rfl, rfl, trivial⟩ rfl ?_
   replace H := HKo85
   refine nt0 ?_
   rcases Bool.eq_false_or_eq_true y86 with hb90 | hb90
   ·replace H := ite_t hb90 H
    refine Cd.condT rfl hb90 ?_
    refine sr0 ?_
    refine Lst.r (Ev.assign rfl) ?_
    refine nt0 ?_
    have H := hret76 _ (some_inj H).symm
    subst H
    replace H := HKl76
    obtain rfl := some_inj H
    refine Cd.ret ?_
    refine At.in_ret ?_
    refine At.then_ret ?_
    refine At.then_ret ?_
    refine At.in_ret ?_
    refine At.then_ret ?_
    exact At.ret1 rfl (Res.tmp rfl) (FLe.trans (FLe.trans (FLe.trans (FLe.trans (FLe.trans hF16 hF21) hF32) hF59) hF78) hF89) (sc1 (sc1 (sc1 (sc1 (sc1 (sc1 (.refl _))))))) ⟨rfl, rfl⟩
   replace H := ite_f hb90 H
   refine Cd.condF rfl hb90 ?_
   refine Cd.skip ?_
   refine At.in_normal ?_
   refine At.then ?_
   refine Cd.region ?_
   refine Lst.r (Ev.incr (by omega) rfl rfl) ?_
   refine mv0 rfl ?_
   refine Lst.nil ?_
   refine At.front (i := 4) rfl (L' := (.own s50 9 1 (encs y49.way)) :: (.blk b83 (enc r79.1) 57) :: (.rows (α := Saying) 62 (List.map ProcessR.row rs53)) :: (.own s4 100 8 (encs rs53)) :: (.own s56 9 1 (encs l57)) :: (.blk b3 (enc (WldR.mk ({ y49 with all := l52, ordered := l57 } : Wld) s4 s56 s50)) 95) :: L) rfl ?_
   refine At.less (L' := (.own s50 9 1 (encs y49.way)) :: (.rows (α := Saying) 62 (List.map ProcessR.row rs53)) :: (.own s4 100 8 (encs rs53)) :: (.own s56 9 1 (encs l57)) :: (.blk b3 (enc (WldR.mk ({ y49 with all := l52, ordered := l57 } : Wld) s4 s56 s50)) 95) :: L) (sk1 (sc1 (sk1 (sk1 (sk1 (sk1 (.refl _))))))) ?_
   exact At.meet (i76 + 1, k76, ()) (FLe.trans hF78 hF89) ⟨rfl, rfl, trivial⟩ rfl ⟨⟨hgo76 _ (some_inj H).symm, by omega⟩, Nat.lt_succ_self _⟩
  have hc48 : decide ((i48 : Int) < (100 : Int)) = true := decide_eq_true (by omega)
  obtain ⟨c48, H, hgo48, hbrk48, hret48⟩ := rangeM_go H
  unfold parttop_works_B2 at H
  try dsimp only at H
  refine sr0 ?_
  refine Lst.r (Ev.lss rfl rfl) ?_
  refine nt0 ?_
  refine Cd.seq ?_
  refine Cd.condT rfl hc48 ?_
  refine Cd.skip ?_
  refine At.then ?_
  refine Cd.seq ?_
  refine Cd.block ?_
  refine sr0 ?_
  refine mv0 rfl ?_
  obtain ⟨r60, h61, H⟩ := bind_some H
  refine Lst.front (i := 4) rfl rfl ?_
  refine Lst.front (i := 1) rfl rfl ?_
  refine Lst.front (i := 4) rfl (L' := (.own s56 9 1 (encs l57)) :: (.own s50 9 1 (encs y49.way)) :: (.blk b3 (enc (WldR.mk ({ y49 with all := l52, ordered := l57 } : Wld) s4 s56 s50)) 95) :: (.rows (α := Saying) 62 (List.map ProcessR.row rs53)) :: (.own s4 100 8 (encs rs53)) :: L) rfl ?_
  refine Lst.front (i := 4) rfl rfl ?_
  refine Lst.front (i := 4) rfl (L' := (.rows (α := Saying) 62 (List.map ProcessR.row rs53)) :: (.own s4 100 8 (encs rs53)) :: (.own s56 9 1 (encs l57)) :: (.own s50 9 1 (encs y49.way)) :: (.blk b3 (enc (WldR.mk ({ y49 with all := l52, ordered := l57 } : Wld) s4 s56 s50)) 95) :: L) rfl ?_
  refine Lst.call1 rfl rfl (by decide) (vs := [pv b3 0]) ⟨rfl, trivial⟩ Tryz.call14 (world_World_Way_sim h61 w0 _ M _ hM fm54 (All.monoProcessF fa55 fl (List.nil_sublist _))) ?_
  refine Lst.r (Ev.gtr rfl rfl) ?_
  refine mv0 rfl ?_
  rcases (Bool.eq_false_or_eq_true (decide (r60 > (0 : Int)))).symm with hb64 | hb64
  ·replace H := ite_f hb64 H
   refine Lst.skip rfl rfl rfl hb64 rfl (by decide) ?_
   refine Lst.skip rfl rfl rfl hb64 rfl (by decide) ?_
   refine Lst.skip rfl rfl rfl hb64 rfl (by decide) ?_
   refine Lst.r (Ev.pickF rfl hb64 rfl) ?_
   refine nt0 ?_
   refine Cd.condF rfl rfl ?_
   refine Cd.skip ?_
   refine At.in_normal ?_
   refine At.then ?_
   refine Cd.region ?_
   refine Lst.r (Ev.incr (by omega) rfl rfl) ?_
   refine mv0 rfl ?_
   refine Lst.nil ?_
   refine At.front (i := 3) rfl (L' := (.own s50 9 1 (encs y49.way)) :: (.rows (α := Saying) 62 (List.map ProcessR.row rs53)) :: (.own s4 100 8 (encs rs53)) :: (.own s56 9 1 (encs l57)) :: (.blk b3 (enc (WldR.mk ({ y49 with all := l52, ordered := l57 } : Wld) s4 s56 s50)) 95) :: L) rfl ?_
   exact At.meet (i48 + 1, k48, ({ y49 with all := l52, ordered := l57 } : Wld), s50, l52, rs53, s56, l57) hF59 ⟨rfl, rfl, trivial⟩ rfl ⟨⟨hgo48 _ (some_inj H).symm, by omega, fm54, (All.monoProcessF fa55 fl (List.nil_sublist _))⟩, Nat.lt_succ_self _⟩
  replace H := ite_t hb64 H
  refine Lst.rG hb64 (Ev.move rfl) ?_
  obtain ⟨r65, h66, H⟩ := bind_some H
  refine Lst.callG rfl rfl rfl hb64 rfl (by decide) (vs := [pv b3 0, iv (0 : Int), iv (1 : Int)]) ⟨rfl, rfl, rfl, trivial⟩ Tryz.call32 (world_World_Move_sim h66 w0 _ M _ hM hT fm54 (All.monoProcessF fa55 fl (List.nil_sublist _))) (fun F73 L' v hF74 hv => ?_)
  obtain ⟨rs67, s70, s71, rfl, rfl, fm68, fa69⟩ := hv
  refine Lst.rG hb64 (Ev.neq rfl rfl) ?_
  refine Lst.r (Ev.pickT rfl hb64 rfl) ?_
  refine nt0 ?_
  rcases Bool.eq_false_or_eq_true (r65.2.2.2 != (0 : Int)) with hb75 | hb75
  ·replace H := ite_t hb75 H
   refine Cd.condT rfl hb75 ?_
   refine sr0 ?_
   refine Lst.r (Ev.assign rfl) ?_
   refine nt0 ?_
   have H := hret48 _ (some_inj H).symm
   subst H
   replace H := HKl48
   obtain rfl := some_inj H
   refine Cd.ret ?_
   refine At.in_ret ?_
   refine At.then_ret ?_
   refine At.then_ret ?_
   refine At.in_ret ?_
   refine At.then_ret ?_
   exact At.ret1 rfl (Res.tmp rfl) (FLe.trans (FLe.trans (FLe.trans (FLe.trans hF16 hF21) hF32) hF59) hF74) (sc1 (sc1 (sc1 (sc1 (sc1 (.refl _)))))) ⟨rfl, rfl⟩
  replace H := ite_f hb75 H
  refine Cd.condF rfl hb75 ?_
  refine Cd.skip ?_
  refine At.in_normal ?_
  refine At.then ?_
  refine Cd.region ?_
  refine Lst.r (Ev.incr (by omega) rfl rfl) ?_
  refine mv0 rfl ?_
  refine Lst.nil ?_
  exact At.meet (i48 + 1, k48, ({ r65.2.2.1 with all := r65.1, ordered := r65.2.1 } : Wld), s71, r65.1, rs67, s70, r65.2.1) (FLe.trans hF59 hF74) ⟨rfl, rfl, trivial⟩ rfl ⟨⟨hgo48 _ (some_inj H).symm, by omega, fm68, (All.monoProcessF fa69 fl (List.nil_sublist _))⟩, Nat.lt_succ_self _⟩
 have hc23 : decide ((i23 : Int) < (3 : Int)) = true := decide_eq_true (by omega)
 obtain ⟨c23, H, hgo23, hbrk23, hret23⟩ := rangeM_go H
 unfold parttop_works_B0 at H
 try dsimp only at H
 refine sr0 ?_
 refine Lst.r (Ev.lss rfl rfl) ?_
 refine nt0 ?_
 refine Cd.seq ?_
 refine Cd.condT rfl hc23 ?_
 refine Cd.skip ?_
 refine At.then ?_
 refine Cd.seq ?_
 refine Cd.block ?_
 refine sr0 ?_
 refine mv0 rfl ?_
 refine Lst.r (Ev.assign rfl) ?_
 refine nsr ?_
 refine mv0 rfl ?_
 refine mv0 rfl ?_
 refine mv0 rfl ?_
 refine Lst.r (Ev.add rfl rfl) ?_
 obtain ⟨r33, h34, H⟩ := bind_some H
 refine Lst.call1 rfl rfl (by decide) (vs := [iv (w64 ((i23 : Int) + (1 : Int)))]) ⟨rfl, trivial⟩ Tryz.call55 (strconv_Itoa_sim h34 w0 _ M _ (sc4 (sc1 hM)) hT) ?_
 obtain ⟨u37, h38, H⟩ := bind_some H
 refine Lst.r (Ev.addStr (s := ([97, 100, 100, 32, 52, 32] : Str)) (m := r33) rfl rfl (room_some h38)) ?_
 obtain ⟨r39, h40, H⟩ := bind_some H
 refine Lst.call rfl rfl (by decide) (vs := [pv b3 0, iv (i23 : Int), Str.v (([97, 100, 100, 32, 52, 32] : Str) ++ r33)]) ⟨rfl, rfl, rfl, trivial⟩ Tryz.call31 (world_World_Say_sim h40 w0 _ M _ hM fm27 (All.monoProcessF fa28 fl (List.nil_sublist _))) (fun F45 L' v hF46 hv => ?_)
 obtain ⟨rs41, s44, rfl, rfl, fm42, fa43⟩ := hv
 refine Lst.r (Ev.neq rfl rfl) ?_
 refine nt0 ?_
 rcases Bool.eq_false_or_eq_true (r39.2.2.2 != (0 : Int)) with hb47 | hb47
 ·replace H := ite_t hb47 H
  refine Cd.condT rfl hb47 ?_
  refine sr0 ?_
  refine Lst.r (Ev.assign rfl) ?_
  refine nt0 ?_
  have H := hret23 _ (some_inj H).symm
  subst H
  replace H := HKl23
  obtain rfl := some_inj H
  refine Cd.ret ?_
  refine At.in_ret ?_
  refine At.then_ret ?_
  refine At.then_ret ?_
  refine At.in_ret ?_
  refine At.then_ret ?_
  exact At.ret1 rfl (Res.tmp rfl) (FLe.trans (FLe.trans (FLe.trans hF16 hF21) hF32) hF46) (sc1 (sc1 (sc1 (sc1 (sc1 (.refl _)))))) ⟨rfl, rfl⟩
 replace H := ite_f hb47 H
 refine Cd.condF rfl hb47 ?_
 refine Cd.skip ?_
 refine At.in_normal ?_
 refine At.then ?_
 refine Cd.region ?_
 refine Lst.r (Ev.incr (by omega) rfl rfl) ?_
 refine mv0 rfl ?_
 refine Lst.nil ?_
 exact At.meet (i23 + 1, k23, ({ r39.2.2.1 with all := r39.1, ordered := r1.1.ordered, way := r39.2.1 } : Wld), r39.1, rs41, s44, r39.2.1) (FLe.trans hF32 hF46) ⟨rfl, rfl, trivial⟩ rfl ⟨⟨hgo23 _ (some_inj H).symm, by omega, fm42, (All.monoProcessF fa43 fl (List.nil_sublist _))⟩, Nat.lt_succ_self _⟩
set_option maxRecDepth 20000 in
theorem partref_Rest_sim {a0 : Int} {a1 : Int} {r : Int} (H : partref_Rest a0 a1 = some r) (w0 : World) (F : Frz) (M L : List Item) (hM : M.Sublist L) : Ok Tryz.prog w0 56 [iv a0, iv a1] F (L) (Is (iv r) (L)) := by
 unfold partref_Rest at H
 refine Ok.enter (m := 2) (n := 14) Tryz.func56 rfl rfl rfl (by decide) ?_
 refine Cd.env (e' := [(0, iv a0), (1, iv a1)]) rfl ?_
 refine sr0 ?_
 refine Lst.r (Ev.assign rfl) ?_
 refine nt0 ?_
 refine Cd.seq ?_
 refine sr0 ?_
 refine mv0 rfl ?_
 refine Lst.r (Ev.leq rfl rfl) ?_
 refine nt0 ?_
 rcases Bool.eq_false_or_eq_true (decide (a1 ≤ (0 : Int))) with hb1 | hb1
 ·replace H := ite_t hb1 H
  refine Cd.condT rfl hb1 ?_
  refine sr0 ?_
  refine Lst.r (Ev.assign rfl) ?_
  refine nt0 ?_
  obtain rfl := some_inj H
  refine Cd.ret ?_
  refine At.then_ret ?_
  exact At.ret1 rfl (Res.tmp rfl) fl (.refl _) ⟨rfl, rfl⟩
 replace H := ite_f hb1 H
 refine Cd.condF rfl hb1 ?_
 refine Cd.skip ?_
 refine At.then ?_
 refine sr0 ?_
 refine mv0 rfl ?_
 refine mv0 rfl ?_
 obtain ⟨u2, h3, H⟩ := bind_some H
 refine Lst.r (Ev.rem (i := a0) (j := a1) rfl rfl (nz_some h3)) ?_
 refine mv0 rfl ?_
 refine Lst.r (Ev.add rfl rfl) ?_
 refine mv0 rfl ?_
 obtain ⟨u4, h5, H⟩ := bind_some H
 refine Lst.r (Ev.rem (i := w64 ((a0.tmod a1 : Int) + a1)) (j := a1) rfl rfl (nz_some h5)) ?_
 refine Lst.r (Ev.assign rfl) ?_
 refine nt0 ?_
 obtain rfl := some_inj H
 refine Cd.ret ?_
 exact At.ret1 rfl (Res.tmp rfl) fl (.refl _) ⟨rfl, rfl⟩
set_option maxRecDepth 20000 in
theorem parttop_few_sim {a0 : Int} {r : Int} (H : parttop_few a0 = some r) (w0 : World) (F : Frz) (M L : List Item) (hM : M.Sublist L) : Ok Tryz.prog w0 27 [iv a0] F (L) (Is (iv r) (L)) := by
 unfold parttop_few at H
 refine Ok.enter (m := 1) (n := 6) Tryz.func27 rfl rfl rfl (by decide) ?_
 refine Cd.env (e' := [(0, iv a0)]) rfl ?_
 refine sr0 ?_
 refine Lst.r (Ev.assign rfl) ?_
 refine nsr ?_
 refine mv0 rfl ?_
 obtain ⟨r1, h2, H⟩ := bind_some H
 refine Lst.call1 rfl rfl (by decide) (vs := [iv a0, iv (6 : Int)]) ⟨rfl, rfl, trivial⟩ Tryz.call56 (partref_Rest_sim h2 w0 _ M _ hM) ?_
 refine Lst.r (Ev.add rfl rfl) ?_
 refine Lst.r (Ev.assign rfl) ?_
 refine nt0 ?_
 obtain rfl := some_inj H
 refine Cd.ret ?_
 exact At.ret1 rfl (Res.tmp rfl) fl (.refl _) ⟨rfl, rfl⟩
set_option maxRecDepth 20000 in
theorem parttop_TopNoise_sim {fu : Nat} {a0 : Int} {a1 : List Str} {s_a1 : Sl} {r : Bool} (H : parttop_TopNoise fu a0 a1 = some r) (w0 : World) (F : Frz) (M L : List Item) (hM : M.Sublist L) (hT : Tab Tryz.prog w0) (hs_a1 : Rd w0 F M s_a1 a1) : Ok Tryz.prog w0 8 [iv a0, Sl.v s_a1] F (L) (Is (.bool r) (L)) := by
 unfold parttop_TopNoise at H
 refine Ok.enter (m := 2) (n := 111) Tryz.func8 rfl rfl rfl (by decide) ?_
 refine Cd.env (e' := [(0, iv a0), (1, Sl.v s_a1)]) rfl ?_
 refine sr0 ?_
 refine Lst.r (Ev.assign rfl) ?_
 refine nt0 ?_
 refine Cd.seq ?_
 refine sr0 ?_
 obtain ⟨r1, h2, H⟩ := bind_some H
 refine Lst.call1 rfl rfl (by decide) (vs := []) trivial Tryz.call26 (parttop_works_sim h2 w0 _ M _ hM hT) ?_
 refine Lst.r (Ev.not rfl) ?_
 refine mv0 rfl ?_
 obtain ⟨o5, H, HKo5⟩ := bind_some H
 refine Lst.join (σ := Bool) 4 (fun y6 => [(0, iv a0), (1, Sl.v s_a1), (23, .bool y6)]) (fun y6 => L) (fun _ y6 => y6 = o5) ?_ ?_
 ·rcases Bool.eq_false_or_eq_true (!r1) with hb7 | hb7
  ·replace H := ite_t hb7 H
   refine Lst.skip rfl rfl rfl hb7 rfl (by decide) ?_
   refine Lst.skip rfl rfl rfl hb7 rfl (by decide) ?_
   refine Lst.skip rfl rfl rfl hb7 rfl (by decide) ?_
   refine Lst.r (Ev.pickT rfl hb7 rfl) ?_
   refine Lst.nil ?_
   exact At.meet true fl ⟨rfl, rfl, rfl, trivial⟩ rfl (some_inj H)
  replace H := ite_f hb7 H
  refine Lst.rG hb7 (Ev.move rfl) ?_
  refine Lst.rG hb7 (Ev.lenS (α := Str) (xs := a1) (by decide) rfl rfl Tryz.runUnderlying43 (hs_a1.mono fl hM)) ?_
  refine Lst.rG hb7 (Ev.gtr rfl rfl) ?_
  refine Lst.r (Ev.pickF rfl hb7 rfl) ?_
  refine Lst.nil ?_
  exact At.meet (decide ((a1.length : Int) > (10000 : Int))) fl ⟨rfl, rfl, rfl, trivial⟩ rfl (some_inj H)
 rintro F8 y6 hF9 hy
 subst hy
 refine Lst.as (e' := [(0, iv a0), (1, Sl.v s_a1), (23, .bool y6)]) (L' := L) ⟨rfl, rfl, rfl, trivial⟩ rfl ?_
 replace H := HKo5
 refine nt0 ?_
 rcases Bool.eq_false_or_eq_true y6 with hb10 | hb10
 ·replace H := ite_t hb10 H
  refine Cd.condT rfl hb10 ?_
  refine sr0 ?_
  obtain ⟨r11, h12, H⟩ := bind_some H
  refine Lst.call1 rfl rfl (by decide) (vs := []) trivial Tryz.call26 (parttop_works_sim h12 w0 _ M _ hM hT) ?_
  refine Lst.r (Ev.assign rfl) ?_
  refine nt0 ?_
  obtain rfl := some_inj H
  refine Cd.ret ?_
  refine At.then_ret ?_
  exact At.ret1 rfl (Res.tmp rfl) hF9 (.refl _) ⟨rfl, rfl⟩
 replace H := ite_f hb10 H
 refine Cd.condF rfl hb10 ?_
 refine Cd.skip ?_
 refine At.then ?_
 refine sr0 ?_
 refine mv0 rfl ?_
 obtain ⟨r15, h16, H⟩ := bind_some H
 refine Lst.call1 rfl rfl (by decide) (vs := [iv a0]) ⟨rfl, trivial⟩ Tryz.call27 (parttop_few_sim h16 w0 _ M _ hM) ?_
 refine Lst.r (Ev.assign rfl) ?_
 refine nsr ?_
 refine mv0 rfl ?_
 obtain ⟨r19, h20, H⟩ := bind_some H
 refine Lst.call rfl rfl (by decide) (vs := [iv r15]) ⟨rfl, trivial⟩ Tryz.call9 (world_New_sim h20 w0 _ M _ hM) (fun F33 L' v hF34 hv => ?_)
 obtain ⟨b21, s22, rs23, s28, s30, rfl, rfl, fm24, fa27⟩ := hv
 refine mv0 rfl ?_
 refine Lst.r (Ev.extract rfl rfl) ?_
 refine Lst.r (Ev.extract rfl rfl) ?_
 refine Lst.r (Ev.assign rfl) ?_
 refine Lst.r (Ev.assign rfl) ?_
 refine nt0 ?_
 refine Cd.seq ?_
 refine sr0 ?_
 refine mv0 rfl ?_
 refine Lst.r (Ev.neq rfl rfl) ?_
 refine nt0 ?_
 rcases Bool.eq_false_or_eq_true (r19.2 != (0 : Int)) with hb35 | hb35
 ·replace H := ite_t hb35 H
  refine Cd.condT rfl hb35 ?_
  refine Cd.seq ?_
  refine Cd.as (e' := []) (L' := (.rows (α := Saying) 62 (List.map ProcessR.row rs23)) :: (.own s22 100 8 (encs rs23)) :: (.own s28 9 1 (encs r19.1.ordered)) :: (.own s30 9 1 (encs r19.1.way)) :: (.blk b21 (enc (WldR.mk r19.1 s22 s28 s30)) 95) :: L) trivial rfl ?_
  refine Cd.region ?_
  refine Lst.r (Ev.assign rfl) ?_
  refine nt0 ?_
  obtain rfl := some_inj H
  refine Cd.ret ?_
  refine At.then_ret ?_
  exact At.ret1 rfl (Res.tmp rfl) (FLe.trans hF9 hF34) (sc1 (sc1 (sc1 (sc1 (sc1 (.refl _)))))) ⟨rfl, rfl⟩
 replace H := ite_f hb35 H
 refine Cd.condF rfl hb35 ?_
 refine Cd.skip ?_
 refine At.then ?_
 refine sr0 ?_
 refine Lst.addNil 9 1 ?_
 refine Lst.r (Ev.assign rfl) ?_
 refine nt0 ?_
 refine Cd.seq ?_
 refine sr0 ?_
 refine mv0 rfl ?_
 refine Lst.r (Ev.lenS (α := Str) (xs := a1) (by decide) rfl rfl Tryz.runUnderlying43 (hs_a1.mono (FLe.trans hF9 hF34) (sc4 (sc2 hM)))) ?_
 refine mv0 rfl ?_
 refine nt0 ?_
 refine Cd.block ?_
 refine Cd.front (i := 4) rfl (L' := (.own s30 9 1 (encs r19.1.way)) :: (.own Sl.nil 9 1 (encs ([] : List Str))) :: (.rows (α := Saying) 62 (List.map ProcessR.row rs23)) :: (.own s22 100 8 (encs rs23)) :: (.own s28 9 1 (encs r19.1.ordered)) :: (.blk b21 (enc (WldR.mk r19.1 s22 s28 s30)) 95) :: L) rfl ?_
 refine Cd.bound (Rd.le (α := Str) (xs := a1) (by decide) (hs_a1.mono (FLe.trans hF9 hF34) (sc4 (sc2 hM)))) (fun hN154 => ?_)
 obtain ⟨ol37, H, HKl37⟩ := andThen_some H
 refine Cd.loop (σ := Nat × Nat × Wld × Sl × Sl × (List Str) × (List Procs) × (List ProcessR) × Sl × (List Str)) (fun (i37, k37, y38, s39, s41, l42, l43, rs44, s47, l48) => [(0, iv r15), (5, pv b21 0), (7, Sl.v s41), (34, Sl.v s_a1), (35, iv (a1.length : Int)), (36, iv (i37 : Int))]) (fun (i37, k37, y38, s39, s41, l42, l43, rs44, s47, l48) => (.own s39 9 1 (encs y38.way)) :: (.own s41 9 1 (encs l42)) :: (.rows (α := Saying) 62 (List.map ProcessR.row rs44)) :: (.own s22 100 8 (encs rs44)) :: (.own s47 9 1 (encs l48)) :: (.blk b21 (enc (WldR.mk ({ y38 with all := l43, ordered := l48 } : Wld) s22 s47 s39)) 95) :: L) (fun Fx => (fun (i37, k37, y38, s39, s41, l42, l43, rs44, s47, l48) => rangeM (parttop_TopNoise_B0 fu a1 r15) k37 i37 (y38, l42, l43, l48) = some ol37 ∧ i37 + k37 = a1.length ∧ rs44.map ProcessR.v = l43 ∧ All ProcessR.frel w0 Fx [] rs44)) (fun (i37, k37, y38, s39, s41, l42, l43, rs44, s47, l48) => k37) (0, a1.length, r19.1, s30, Sl.nil, ([] : List Str), r19.1.all, rs23, s28, r19.1.ordered) ⟨rfl, rfl, rfl, rfl, rfl, rfl, trivial⟩ rfl ⟨H, by omega, fm24, (All.monoProcessF fa27 fl (List.nil_sublist _))⟩ ?_
 rintro F49 ⟨i37, k37, y38, s39, s41, l42, l43, rs44, s47, l48⟩ hF50 ⟨H, hik37, fm45, fa46⟩
 refine Cd.as (e' := [(0, iv r15), (5, pv b21 0), (7, Sl.v s41), (34, Sl.v s_a1), (35, iv (a1.length : Int)), (36, iv (i37 : Int))]) (L' := (.own s39 9 1 (encs y38.way)) :: (.own s41 9 1 (encs l42)) :: (.rows (α := Saying) 62 (List.map ProcessR.row rs44)) :: (.own s22 100 8 (encs rs44)) :: (.own s47 9 1 (encs l48)) :: (.blk b21 (enc (WldR.mk ({ y38 with all := l43, ordered := l48 } : Wld) s22 s47 s39)) 95) :: L) ⟨rfl, rfl, rfl, rfl, rfl, rfl, trivial⟩ rfl ?_
 rcases k37 with _ | k37
 ·have hc37 : decide ((i37 : Int) < (a1.length : Int)) = false := decide_eq_false (by omega)
  replace H := rangeM_end H
  refine sr0 ?_
  refine Lst.r (Ev.lss rfl rfl) ?_
  refine nt0 ?_
  refine Cd.seq ?_
  refine Cd.condF rfl hc37 ?_
  refine Cd.exit ?_
  refine At.then_exit ?_
  refine At.then_exit ?_
  refine At.in_exit ?_
  subst H
  replace H := HKl37
  try dsimp only [Sum.elim_inl] at H
  refine At.then ?_
  refine sr0 ?_
  refine Lst.r (Ev.build (v := .agg (enc ((Vector.replicate 10 (0 : Int)) : Vector Int 10)).toArray) (pv := []) trivial (fun w => by kernel_rfl)) ?_
  refine mv0 rfl ?_
  obtain ⟨r110, h111, H⟩ := bind_some H
  refine Lst.call1 rfl rfl (by decide) (vs := [.agg (enc ((Vector.replicate 10 (0 : Int)) : Vector Int 10)).toArray, Sl.v s41]) ⟨rfl, rfl, trivial⟩ Tryz.call33 (same_Run_sim h111 w0 _ _ _ (.refl _) (rdo 1 rfl rfl rfl)) ?_
  refine mv0 rfl ?_
  refine Lst.r (Ev.extract rfl rfl) ?_
  refine Lst.r (Ev.extract rfl rfl) ?_
  refine Lst.alloc (cs := enc (Vector.replicate 10 (0 : Int))) rfl rfl (by decide) Tryz.zeroValue57 rfl (fun b114 => ?_)
  refine Lst.store (i := 0) rfl rfl rfl rfl rfl Tryz.sizeOf57 (vs := enc r110.1) rfl (Enc.len _) (Enc.one _) (cs' := enc r110.1) (Put.here ((Enc.len _).trans (Enc.len _).symm)) (L' := (.blk b114 (enc r110.1) 57) :: (.own s39 9 1 (encs y38.way)) :: (.own s41 9 1 (encs l42)) :: (.rows (α := Saying) 62 (List.map ProcessR.row rs44)) :: (.own s22 100 8 (encs rs44)) :: (.own s47 9 1 (encs l48)) :: (.blk b21 (enc (WldR.mk ({ y38 with all := l43, ordered := l48 } : Wld) s22 s47 s39)) 95) :: L) rfl ?_
  refine Lst.r (Ev.assign rfl) ?_
  refine nt0 ?_
  refine Cd.seq ?_
  refine sr0 ?_
  refine mv0 rfl ?_
  refine mv0 rfl ?_
  refine nt0 ?_
  refine Cd.block ?_
  obtain ⟨nn119, hN153, H⟩ := bind_some H
  replace hN153 := upTo_some hN153
  obtain ⟨ol116, H, HKl116⟩ := andThen_some H
  refine Cd.loop (σ := Nat × Nat × Unit) (fun (i116, k116, _u) => [(5, pv b21 0), (7, Sl.v s41), (10, pv b114 0), (11, iv r110.2), (70, iv r15), (71, iv (i116 : Int))]) (fun (i116, k116, _u) => (.blk b114 (enc r110.1) 57) :: (.own s39 9 1 (encs y38.way)) :: (.own s41 9 1 (encs l42)) :: (.rows (α := Saying) 62 (List.map ProcessR.row rs44)) :: (.own s22 100 8 (encs rs44)) :: (.own s47 9 1 (encs l48)) :: (.blk b21 (enc (WldR.mk ({ y38 with all := l43, ordered := l48 } : Wld) s22 s47 s39)) 95) :: L) (fun _ => (fun (i116, k116, _u) => rangeM (parttop_TopNoise_B4 fu y38 l42 l43 l48 r110) k116 i116 () = some ol116 ∧ i116 + k116 = nn119)) (fun (i116, k116, _u) => k116) (0, nn119, ()) ⟨rfl, rfl, rfl, rfl, rfl, rfl, trivial⟩ rfl ⟨H, by omega⟩ ?_
  rintro F117 ⟨i116, k116, _u⟩ hF118 ⟨H, hik116⟩
  refine Cd.as (e' := [(5, pv b21 0), (7, Sl.v s41), (10, pv b114 0), (11, iv r110.2), (70, iv r15), (71, iv (i116 : Int))]) (L' := (.blk b114 (enc r110.1) 57) :: (.own s39 9 1 (encs y38.way)) :: (.own s41 9 1 (encs l42)) :: (.rows (α := Saying) 62 (List.map ProcessR.row rs44)) :: (.own s22 100 8 (encs rs44)) :: (.own s47 9 1 (encs l48)) :: (.blk b21 (enc (WldR.mk ({ y38 with all := l43, ordered := l48 } : Wld) s22 s47 s39)) 95) :: L) ⟨rfl, rfl, rfl, rfl, rfl, rfl, trivial⟩ rfl ?_
  rcases k116 with _ | k116
  ·have hc116 : decide ((i116 : Int) < r15) = false := decide_eq_false (by omega)
   replace H := rangeM_end H
   refine sr0 ?_
   refine Lst.r (Ev.lss rfl rfl) ?_
   refine nt0 ?_
   refine Cd.seq ?_
   refine Cd.condF rfl hc116 ?_
   refine Cd.exit ?_
   refine At.then_exit ?_
   refine At.then_exit ?_
   refine At.in_exit ?_
   subst H
   replace H := HKl116
   refine At.then ?_
   refine sr0 ?_
   refine Lst.r (Ev.assign rfl) ?_
   refine nt0 ?_
   obtain rfl := some_inj H
   refine Cd.ret ?_
   exact At.ret1 rfl (Res.tmp rfl) (FLe.trans (FLe.trans (FLe.trans hF9 hF34) hF50) hF118) (sc1 (sc1 (sc1 (sc1 (sc1 (sc1 (sc1 (.refl _)))))))) ⟨rfl, rfl⟩
  have hc116 : decide ((i116 : Int) < r15) = true := decide_eq_true (by omega)
  obtain ⟨c116, H, hgo116, hbrk116, hret116⟩ := rangeM_go H
  unfold parttop_TopNoise_B4 at H
  try dsimp only at H
  refine sr0 ?_
  refine Lst.r (Ev.lss rfl rfl) ?_
  refine nt0 ?_
  refine Cd.seq ?_
  refine Cd.condT rfl hc116 ?_
  refine Cd.skip ?_
  refine At.then ?_
  refine Cd.seq ?_
  refine Cd.block ?_
  refine sr0 ?_
  refine mv0 rfl ?_
  refine Lst.r (Ev.assign rfl) ?_
  refine nsr ?_
  refine mv0 rfl ?_
  refine mv0 rfl ?_
  obtain ⟨r120, h121, H⟩ := bind_some H
  refine Lst.front (i := 6) rfl rfl ?_
  refine Lst.front (i := 2) rfl rfl ?_
  refine Lst.front (i := 6) rfl (L' := (.own s47 9 1 (encs l48)) :: (.own s39 9 1 (encs y38.way)) :: (.blk b21 (enc (WldR.mk ({ y38 with all := l43, ordered := l48 } : Wld) s22 s47 s39)) 95) :: (.blk b114 (enc r110.1) 57) :: (.own s41 9 1 (encs l42)) :: (.rows (α := Saying) 62 (List.map ProcessR.row rs44)) :: (.own s22 100 8 (encs rs44)) :: L) rfl ?_
  refine Lst.front (i := 6) rfl rfl ?_
  refine Lst.front (i := 6) rfl (L' := (.rows (α := Saying) 62 (List.map ProcessR.row rs44)) :: (.own s22 100 8 (encs rs44)) :: (.own s47 9 1 (encs l48)) :: (.own s39 9 1 (encs y38.way)) :: (.blk b21 (enc (WldR.mk ({ y38 with all := l43, ordered := l48 } : Wld) s22 s47 s39)) 95) :: (.blk b114 (enc r110.1) 57) :: (.own s41 9 1 (encs l42)) :: L) rfl ?_
  refine Lst.call rfl rfl (by decide) (vs := [pv b21 0, iv (i116 : Int)]) ⟨rfl, rfl, trivial⟩ Tryz.call15 (world_World_Log_sim h121 w0 _ M _ (sc2 hM) fm45 (All.monoProcessF fa46 hF118 (List.nil_sublist _))) (fun F124 L' v hF125 hv => ?_)
  obtain ⟨s122, rfl, rfl⟩ := hv
  refine mv0 rfl ?_
  refine Lst.r (Ev.extract rfl rfl) ?_
  refine Lst.r (Ev.extract rfl rfl) ?_
  refine Lst.r (Ev.assign rfl) ?_
  refine Lst.r (Ev.assign rfl) ?_
  refine nsr ?_
  refine mv0 rfl ?_
  refine mv0 rfl ?_
  obtain ⟨r126, h127, H⟩ := bind_some H
  refine Lst.front (i := 5) rfl rfl ?_
  refine Lst.front (i := 5) rfl rfl ?_
  refine Lst.front (i := 5) rfl (L' := (.own s47 9 1 (encs l48)) :: (.own s39 9 1 (encs y38.way)) :: (.blk b21 (enc (WldR.mk ({ y38 with all := l43, ordered := l48 } : Wld) s22 s47 s39)) 95) :: (.own s122 62 2 (encs r120.1)) :: (.rows (α := Saying) 62 (List.map ProcessR.row rs44)) :: (.own s22 100 8 (encs rs44)) :: (.blk b114 (enc r110.1) 57) :: (.own s41 9 1 (encs l42)) :: L) rfl ?_
  refine Lst.front (i := 5) rfl rfl ?_
  refine Lst.front (i := 5) rfl (L' := (.rows (α := Saying) 62 (List.map ProcessR.row rs44)) :: (.own s22 100 8 (encs rs44)) :: (.own s47 9 1 (encs l48)) :: (.own s39 9 1 (encs y38.way)) :: (.blk b21 (enc (WldR.mk ({ y38 with all := l43, ordered := l48 } : Wld) s22 s47 s39)) 95) :: (.own s122 62 2 (encs r120.1)) :: (.blk b114 (enc r110.1) 57) :: (.own s41 9 1 (encs l42)) :: L) rfl ?_
  refine Lst.call1 rfl rfl (by decide) (vs := [pv b21 0, iv (i116 : Int)]) ⟨rfl, rfl, trivial⟩ Tryz.call17 (world_World_Vals_sim h127 w0 _ M _ (sc2 (sc1 hM)) fm45 (All.monoProcessF fa46 (FLe.trans hF118 hF125) (List.nil_sublist _))) ?_
  refine mv0 rfl ?_
  refine Lst.r (Ev.extract rfl rfl) ?_
  refine Lst.r (Ev.extract rfl rfl) ?_
  refine Lst.alloc (cs := enc (Vector.replicate 10 (0 : Int))) rfl rfl (by decide) Tryz.zeroValue57 rfl (fun b130 => ?_)
  refine Lst.store (i := 0) rfl rfl rfl rfl rfl Tryz.sizeOf57 (vs := enc r126.1) rfl (Enc.len _) (Enc.one _) (cs' := enc r126.1) (Put.here ((Enc.len _).trans (Enc.len _).symm)) (L' := (.blk b130 (enc r126.1) 57) :: (.rows (α := Saying) 62 (List.map ProcessR.row rs44)) :: (.own s22 100 8 (encs rs44)) :: (.own s47 9 1 (encs l48)) :: (.own s39 9 1 (encs y38.way)) :: (.blk b21 (enc (WldR.mk ({ y38 with all := l43, ordered := l48 } : Wld) s22 s47 s39)) 95) :: (.own s122 62 2 (encs r120.1)) :: (.blk b114 (enc r110.1) 57) :: (.own s41 9 1 (encs l42)) :: L) rfl ?_
  refine Lst.r (Ev.assign rfl) ?_
  refine nt0 ?_
  refine Cd.seq ?_
  refine Cd.as (e' := [(5, pv b21 0), (7, Sl.v s41), (10, pv b114 0), (11, iv r110.2), (70, iv r15), (71, iv (i116 : Int)), (13, Sl.v s122), (14, iv r120.2), (15, pv b130 0), (16, iv r126.2)]) (L' := (.blk b130 (enc r126.1) 57) :: (.rows (α := Saying) 62 (List.map ProcessR.row rs44)) :: (.own s22 100 8 (encs rs44)) :: (.own s47 9 1 (encs l48)) :: (.own s39 9 1 (encs y38.way)) :: (.blk b21 (enc (WldR.mk ({ y38 with all := l43, ordered := l48 } : Wld) s22 s47 s39)) 95) :: (.own s122 62 2 (encs r120.1)) :: (.blk b114 (enc r110.1) 57) :: (.own s41 9 1 (encs l42)) :: L) ⟨rfl, rfl, rfl, rfl, rfl, rfl, rfl, rfl, rfl, rfl, trivial⟩ rfl ?_
  refine Cd.region ?_
  refine mv0 rfl ?_
  refine Lst.r (Ev.neq rfl rfl) ?_
  refine mv0 rfl ?_
  obtain ⟨o132, H, HKo132⟩ := bind_some H
  refine Lst.join (σ := Bool) 3 (fun y133 => [(5, pv b21 0), (7, Sl.v s41), (10, pv b114 0), (11, iv r110.2), (13, Sl.v s122), (15, pv b130 0), (70, iv r15), (71, iv (i116 : Int)), (91, .bool y133)]) (fun y133 => (.blk b130 (enc r126.1) 57) :: (.rows (α := Saying) 62 (List.map ProcessR.row rs44)) :: (.own s22 100 8 (encs rs44)) :: (.own s47 9 1 (encs l48)) :: (.own s39 9 1 (encs y38.way)) :: (.blk b21 (enc (WldR.mk ({ y38 with all := l43, ordered := l48 } : Wld) s22 s47 s39)) 95) :: (.own s122 62 2 (encs r120.1)) :: (.blk b114 (enc r110.1) 57) :: (.own s41 9 1 (encs l42)) :: L) (fun _ y133 => y133 = o132) ?_ ?_
  ·rcases Bool.eq_false_or_eq_true (r120.2 != (0 : Int)) with hb134 | hb134
   ·replace H := ite_t hb134 H
    refine Lst.skip rfl rfl rfl hb134 rfl (by decide) ?_
    refine Lst.skip rfl rfl rfl hb134 rfl (by decide) ?_
    refine Lst.r (Ev.pickT rfl hb134 rfl) ?_
    refine Lst.nil ?_
    exact At.meet true fl ⟨rfl, rfl, rfl, rfl, rfl, rfl, rfl, rfl, rfl, trivial⟩ rfl (some_inj H)
   replace H := ite_f hb134 H
   refine Lst.rG hb134 (Ev.move rfl) ?_
   refine Lst.rG hb134 (Ev.neq rfl rfl) ?_
   refine Lst.r (Ev.pickF rfl hb134 rfl) ?_
   refine Lst.nil ?_
   exact At.meet (r126.2 != (0 : Int)) fl ⟨rfl, rfl, rfl, rfl, rfl, rfl, rfl, rfl, rfl, trivial⟩ rfl (some_inj H)
  rintro F135 y133 hF136 hy
  subst hy
  refine Lst.as (e' := [(5, pv b21 0), (7, Sl.v s41), (10, pv b114 0), (11, iv r110.2), (13, Sl.v s122), (15, pv b130 0), (70, iv r15), (71, iv (i116 : Int)), (91, .bool y133)]) (L' := (.blk b130 (enc r126.1) 57) :: (.rows (α := Saying) 62 (List.map ProcessR.row rs44)) :: (.own s22 100 8 (encs rs44)) :: (.own s47 9 1 (encs l48)) :: (.own s39 9 1 (encs y38.way)) :: (.blk b21 (enc (WldR.mk ({ y38 with all := l43, ordered := l48 } : Wld) s22 s47 s39)) 95) :: (.own s122 62 2 (encs r120.1)) :: (.blk b114 (enc r110.1) 57) :: (.own s41 9 1 (encs l42)) :: L) ⟨rfl, rfl, rfl, rfl, rfl, rfl, rfl, rfl, rfl, trivial⟩ rfl ?_
  replace H := HKo132
  refine mv0 rfl ?_
  obtain ⟨o137, H, HKo137⟩ := bind_some H
  refine Lst.join (σ := Bool) 6 (fun y138 => [(5, pv b21 0), (7, Sl.v s41), (10, pv b114 0), (11, iv r110.2), (15, pv b130 0), (70, iv r15), (71, iv (i116 : Int)), (98, .bool y138)]) (fun y138 => (.blk b130 (enc r126.1) 57) :: (.rows (α := Saying) 62 (List.map ProcessR.row rs44)) :: (.own s22 100 8 (encs rs44)) :: (.own s47 9 1 (encs l48)) :: (.own s39 9 1 (encs y38.way)) :: (.blk b21 (enc (WldR.mk ({ y38 with all := l43, ordered := l48 } : Wld) s22 s47 s39)) 95) :: (.own s122 62 2 (encs r120.1)) :: (.blk b114 (enc r110.1) 57) :: (.own s41 9 1 (encs l42)) :: L) (fun _ y138 => y138 = o137) ?_ ?_
  ·rcases Bool.eq_false_or_eq_true y133 with hb139 | hb139
   ·replace H := ite_t hb139 H
    refine Lst.skip rfl rfl rfl hb139 rfl (by decide) ?_
    refine Lst.skip rfl rfl rfl hb139 rfl (by decide) ?_
    refine Lst.skip rfl rfl rfl hb139 rfl (by decide) ?_
    refine Lst.skip rfl rfl rfl hb139 rfl (by decide) ?_
    refine Lst.skip rfl rfl rfl hb139 rfl (by decide) ?_
    refine Lst.r (Ev.pickT rfl hb139 rfl) ?_
    refine Lst.nil ?_
    exact At.meet true fl ⟨rfl, rfl, rfl, rfl, rfl, rfl, rfl, rfl, trivial⟩ rfl (some_inj H)
   replace H := ite_f hb139 H
   refine Lst.rG hb139 (Ev.move rfl) ?_
   refine Lst.rG hb139 (Ev.lenS (α := Saying) (xs := r120.1) (by decide) rfl rfl Tryz.runUnderlying37 (rdo 6 rfl rfl rfl)) ?_
   refine Lst.rG hb139 (Ev.move rfl) ?_
   refine Lst.rG hb139 (Ev.lenS (α := Str) (xs := l42) (by decide) rfl rfl Tryz.runUnderlying43 (rdo 8 rfl rfl rfl)) ?_
   refine Lst.rG hb139 (Ev.neq rfl rfl) ?_
   refine Lst.r (Ev.pickF rfl hb139 rfl) ?_
   refine Lst.nil ?_
   exact At.meet ((r120.1.length : Int) != (l42.length : Int)) fl ⟨rfl, rfl, rfl, rfl, rfl, rfl, rfl, rfl, trivial⟩ rfl (some_inj H)
  rintro F140 y138 hF141 hy
  subst hy
  refine Lst.as (e' := [(5, pv b21 0), (7, Sl.v s41), (10, pv b114 0), (11, iv r110.2), (15, pv b130 0), (70, iv r15), (71, iv (i116 : Int)), (98, .bool y138)]) (L' := (.blk b130 (enc r126.1) 57) :: (.rows (α := Saying) 62 (List.map ProcessR.row rs44)) :: (.own s22 100 8 (encs rs44)) :: (.own s47 9 1 (encs l48)) :: (.own s39 9 1 (encs y38.way)) :: (.blk b21 (enc (WldR.mk ({ y38 with all := l43, ordered := l48 } : Wld) s22 s47 s39)) 95) :: (.own s122 62 2 (encs r120.1)) :: (.blk b114 (enc r110.1) 57) :: (.own s41 9 1 (encs l42)) :: L) ⟨rfl, rfl, rfl, rfl, rfl, rfl, rfl, rfl, trivial⟩ rfl ?_
  replace H := HKo137
  refine mv0 rfl ?_
  obtain ⟨o142, H, HKo142⟩ := bind_some H
  refine Lst.join (σ := Bool) 4 (fun y143 => [(5, pv b21 0), (7, Sl.v s41), (10, pv b114 0), (11, iv r110.2), (70, iv r15), (71, iv (i116 : Int)), (103, .bool y143)]) (fun y143 => (.blk b130 (enc r126.1) 57) :: (.rows (α := Saying) 62 (List.map ProcessR.row rs44)) :: (.own s22 100 8 (encs rs44)) :: (.own s47 9 1 (encs l48)) :: (.own s39 9 1 (encs y38.way)) :: (.blk b21 (enc (WldR.mk ({ y38 with all := l43, ordered := l48 } : Wld) s22 s47 s39)) 95) :: (.own s122 62 2 (encs r120.1)) :: (.blk b114 (enc r110.1) 57) :: (.own s41 9 1 (encs l42)) :: L) (fun _ y143 => y143 = o142) ?_ ?_
  ·rcases Bool.eq_false_or_eq_true y138 with hb144 | hb144
   ·replace H := ite_t hb144 H
    refine Lst.skip rfl rfl rfl hb144 rfl (by decide) ?_
    refine Lst.skip rfl rfl rfl hb144 rfl (by decide) ?_
    refine Lst.skip rfl rfl rfl hb144 rfl (by decide) ?_
    refine Lst.r (Ev.pickT rfl hb144 rfl) ?_
    refine Lst.nil ?_
    exact At.meet true fl ⟨rfl, rfl, rfl, rfl, rfl, rfl, rfl, trivial⟩ rfl (some_inj H)
   replace H := ite_f hb144 H
   refine Lst.rG hb144 (Ev.loadA (i := 0) rfl rfl Tryz.isAgg57 Tryz.sizeOf57 (ch := enc r126.1) (Enc.len _) gh0) ?_
   refine Lst.rG hb144 (Ev.loadA (i := 7) rfl rfl Tryz.isAgg57 Tryz.sizeOf57 (ch := enc r110.1) (Enc.len _) gh0) ?_
   refine Lst.rG hb144 (Ev.neqA rfl rfl (by kernel_rfl) (eq57 _ _)) ?_
   refine Lst.r (Ev.pickF rfl hb144 rfl) ?_
   refine Lst.nil ?_
   exact At.meet (!(decide (r126.1 = r110.1))) fl ⟨rfl, rfl, rfl, rfl, rfl, rfl, rfl, trivial⟩ rfl (some_inj H)
  rintro F145 y143 hF146 hy
  subst hy
  refine Lst.as (e' := [(5, pv b21 0), (7, Sl.v s41), (10, pv b114 0), (11, iv r110.2), (70, iv r15), (71, iv (i116 : Int)), (103, .bool y143)]) (L' := (.blk b130 (enc r126.1) 57) :: (.rows (α := Saying) 62 (List.map ProcessR.row rs44)) :: (.own s22 100 8 (encs rs44)) :: (.own s47 9 1 (encs l48)) :: (.own s39 9 1 (encs y38.way)) :: (.blk b21 (enc (WldR.mk ({ y38 with all := l43, ordered := l48 } : Wld) s22 s47 s39)) 95) :: (.own s122 62 2 (encs r120.1)) :: (.blk b114 (enc r110.1) 57) :: (.own s41 9 1 (encs l42)) :: L) ⟨rfl, rfl, rfl, rfl, rfl, rfl, rfl, trivial⟩ rfl ?_
  replace H := HKo142
  refine mv0 rfl ?_
  obtain ⟨o147, H, HKo147⟩ := bind_some H
  refine Lst.join (σ := Bool) 5 (fun y148 => [(5, pv b21 0), (7, Sl.v s41), (10, pv b114 0), (11, iv r110.2), (70, iv r15), (71, iv (i116 : Int)), (109, .bool y148)]) (fun y148 => (.blk b130 (enc r126.1) 57) :: (.rows (α := Saying) 62 (List.map ProcessR.row rs44)) :: (.own s22 100 8 (encs rs44)) :: (.own s47 9 1 (encs l48)) :: (.own s39 9 1 (encs y38.way)) :: (.blk b21 (enc (WldR.mk ({ y38 with all := l43, ordered := l48 } : Wld) s22 s47 s39)) 95) :: (.own s122 62 2 (encs r120.1)) :: (.blk b114 (enc r110.1) 57) :: (.own s41 9 1 (encs l42)) :: L) (fun _ y148 => y148 = o147) ?_ ?_
  ·rcases Bool.eq_false_or_eq_true y143 with hb149 | hb149
   ·replace H := ite_t hb149 H
    refine Lst.skip rfl rfl rfl hb149 rfl (by decide) ?_
    refine Lst.skip rfl rfl rfl hb149 rfl (by decide) ?_
    refine Lst.skip rfl rfl rfl hb149 rfl (by decide) ?_
    refine Lst.skip rfl rfl rfl hb149 rfl (by decide) ?_
    refine Lst.r (Ev.pickT rfl hb149 rfl) ?_
    refine Lst.nil ?_
    exact At.meet true fl ⟨rfl, rfl, rfl, rfl, rfl, rfl, rfl, trivial⟩ rfl (some_inj H)
   replace H := ite_f hb149 H
   refine Lst.rG hb149 (Ev.move rfl) ?_
   refine Lst.rG hb149 (Ev.move rfl) ?_
   refine Lst.rG hb149 (Ev.lenS (α := Str) (xs := l42) (by decide) rfl rfl Tryz.runUnderlying43 (rdo 8 rfl rfl rfl)) ?_
   refine Lst.rG hb149 (Ev.gtr rfl rfl) ?_
   refine Lst.r (Ev.pickF rfl hb149 rfl) ?_
   refine Lst.nil ?_
   exact At.meet (decide (r110.2 > (l42.length : Int))) fl ⟨rfl, rfl, rfl, rfl, rfl, rfl, rfl, trivial⟩ rfl (some_inj H)
  rintro F150 y148 hF151 hy
  subst hy
  refine Lst.as (e' := [(5, pv b21 0), (7, Sl.v s41), (10, pv b114 0), (11, iv r110.2), (70, iv r15), (71, iv (i116 : Int)), (109, .bool y148)]) (L' := (.blk b130 (enc r126.1) 57) :: (.rows (α := Saying) 62 (List.map ProcessR.row rs44)) :: (.own s22 100 8 (encs rs44)) :: (.own s47 9 1 (encs l48)) :: (.own s39 9 1 (encs y38.way)) :: (.blk b21 (enc (WldR.mk ({ y38 with all := l43, ordered := l48 } : Wld) s22 s47 s39)) 95) :: (.own s122 62 2 (encs r120.1)) :: (.blk b114 (enc r110.1) 57) :: (.own s41 9 1 (encs l42)) :: L) ⟨rfl, rfl, rfl, rfl, rfl, rfl, rfl, trivial⟩ rfl ?_
  replace H := HKo147
  refine nt0 ?_
  rcases Bool.eq_false_or_eq_true y148 with hb152 | hb152
  ·replace H := ite_t hb152 H
   refine Cd.condT rfl hb152 ?_
   refine sr0 ?_
   refine Lst.r (Ev.assign rfl) ?_
   refine nt0 ?_
   have H := hret116 _ (some_inj H).symm
   subst H
   replace H := HKl116
   obtain rfl := some_inj H
   refine Cd.ret ?_
   refine At.in_ret ?_
   refine At.then_ret ?_
   refine At.then_ret ?_
   refine At.in_ret ?_
   refine At.then_ret ?_
   exact At.ret1 rfl (Res.tmp rfl) (FLe.trans (FLe.trans (FLe.trans (FLe.trans (FLe.trans (FLe.trans (FLe.trans (FLe.trans hF9 hF34) hF50) hF118) hF125) hF136) hF141) hF146) hF151) (sc1 (sc1 (sc1 (sc1 (sc1 (sc1 (sc1 (sc1 (sc1 (.refl _)))))))))) ⟨rfl, rfl⟩
  replace H := ite_f hb152 H
  refine Cd.condF rfl hb152 ?_
  refine Cd.skip ?_
  refine At.in_normal ?_
  refine At.then ?_
  refine Cd.region ?_
  refine Lst.r (Ev.incr (by omega) rfl rfl) ?_
  refine mv0 rfl ?_
  refine Lst.nil ?_
  refine At.front (i := 8) rfl rfl ?_
  refine At.front (i := 5) rfl rfl ?_
  refine At.front (i := 8) rfl (L' := (.blk b114 (enc r110.1) 57) :: (.own s39 9 1 (encs y38.way)) :: (.own s41 9 1 (encs l42)) :: (.blk b130 (enc r126.1) 57) :: (.rows (α := Saying) 62 (List.map ProcessR.row rs44)) :: (.own s22 100 8 (encs rs44)) :: (.own s47 9 1 (encs l48)) :: (.blk b21 (enc (WldR.mk ({ y38 with all := l43, ordered := l48 } : Wld) s22 s47 s39)) 95) :: (.own s122 62 2 (encs r120.1)) :: L) rfl ?_
  refine At.less (L' := (.blk b114 (enc r110.1) 57) :: (.own s39 9 1 (encs y38.way)) :: (.own s41 9 1 (encs l42)) :: (.rows (α := Saying) 62 (List.map ProcessR.row rs44)) :: (.own s22 100 8 (encs rs44)) :: (.own s47 9 1 (encs l48)) :: (.blk b21 (enc (WldR.mk ({ y38 with all := l43, ordered := l48 } : Wld) s22 s47 s39)) 95) :: L) (sk1 (sk1 (sk1 (sc1 (sk1 (sk1 (sk1 (sk1 (sc1 (.refl _)))))))))) ?_
  exact At.meet (i116 + 1, k116, ()) (FLe.trans (FLe.trans (FLe.trans (FLe.trans (FLe.trans hF118 hF125) hF136) hF141) hF146) hF151) ⟨rfl, rfl, rfl, rfl, rfl, rfl, trivial⟩ rfl ⟨⟨hgo116 _ (some_inj H).symm, by omega⟩, Nat.lt_succ_self _⟩
 have hc37 : decide ((i37 : Int) < (a1.length : Int)) = true := decide_eq_true (by omega)
 obtain ⟨c37, H, hgo37, hbrk37, hret37⟩ := rangeM_go H
 unfold parttop_TopNoise_B0 at H
 try dsimp only at H
 refine sr0 ?_
 refine Lst.r (Ev.lss rfl rfl) ?_
 refine nt0 ?_
 refine Cd.seq ?_
 refine Cd.condT rfl hc37 ?_
 refine Cd.skip ?_
 refine At.then ?_
 refine Cd.seq ?_
 refine Cd.block ?_
 refine sr0 ?_
 refine mv0 rfl ?_
 obtain ⟨x51, h52, H⟩ := bind_some H
 have g53 := lat_some h52
 refine Lst.r (Ev.indexS (α := Str) (xs := a1) rfl rfl Tryz.runUnderlying43 Tryz.sizeOf9 rfl (by decide) (hs_a1.mono (FLe.trans (FLe.trans hF9 hF34) hF50) (sc4 (sc2 hM))) g53.1 g53.2.1) ?_
 refine Lst.r (Ev.loadS (α := Str) rfl (hs_a1.mono (FLe.trans (FLe.trans hF9 hF34) hF50) (sc4 (sc2 hM))) Tryz.isAgg9 (v := Str.v x51) ((Get.elemN (s := 1) (x := x51) rfl g53.2.2 gh0).off (by omega))) ?_
 refine Lst.r (Ev.assign rfl) ?_
 refine Lst.r (Ev.assign rfl) ?_
 refine nt0 ?_
 obtain ⟨o63, H, HKo63⟩ := bind_some H
 refine Cd.join (σ := Wld × Sl × (List Str) × Sl × (List Str) × (List Procs) × (List ProcessR)) (fun (y54, s55, l56, s57, l58, l59, rs60) => [(0, iv r15), (5, pv b21 0), (7, Sl.v s57), (34, Sl.v s_a1), (35, iv (a1.length : Int)), (36, iv (i37 : Int))]) (fun (y54, s55, l56, s57, l58, l59, rs60) => (.own s55 9 1 (encs l56)) :: (.own s57 9 1 (encs l58)) :: (.rows (α := Saying) 62 (List.map ProcessR.row rs60)) :: (.own s22 100 8 (encs rs60)) :: (.own s47 9 1 (encs l48)) :: (.blk b21 (enc (WldR.mk ({ y54 with all := l59, ordered := l48, way := l56 } : Wld) s22 s47 s55)) 95) :: L) (fun Fx (y54, s55, l56, s57, l58, l59, rs60) => (y54, l56, l58, l59) = o63 ∧ rs60.map ProcessR.v = l59 ∧ All ProcessR.frel w0 Fx [] rs60) ?_ ?_
 ·refine sr0 ?_
  refine mv0 rfl ?_
  refine mv0 rfl ?_
  refine mv0 rfl ?_
  obtain ⟨u64, h65, H⟩ := bind_some H
  refine Lst.r (Ev.rem (i := (i37 : Int)) (j := r15) rfl rfl (nz_some h65)) ?_
  refine mv0 rfl ?_
  obtain ⟨r66, h67, H⟩ := bind_some H
  refine Lst.front (i := 5) rfl rfl ?_
  refine Lst.front (i := 1) rfl rfl ?_
  refine Lst.front (i := 5) rfl (L' := (.own s47 9 1 (encs l48)) :: (.own s39 9 1 (encs y38.way)) :: (.blk b21 (enc (WldR.mk ({ y38 with all := l43, ordered := l48 } : Wld) s22 s47 s39)) 95) :: (.own s41 9 1 (encs l42)) :: (.rows (α := Saying) 62 (List.map ProcessR.row rs44)) :: (.own s22 100 8 (encs rs44)) :: L) rfl ?_
  refine Lst.front (i := 5) rfl rfl ?_
  refine Lst.front (i := 5) rfl (L' := (.rows (α := Saying) 62 (List.map ProcessR.row rs44)) :: (.own s22 100 8 (encs rs44)) :: (.own s47 9 1 (encs l48)) :: (.own s39 9 1 (encs y38.way)) :: (.blk b21 (enc (WldR.mk ({ y38 with all := l43, ordered := l48 } : Wld) s22 s47 s39)) 95) :: (.own s41 9 1 (encs l42)) :: L) rfl ?_
  refine Lst.call rfl rfl (by decide) (vs := [pv b21 0, iv ((i37 : Int).tmod r15 : Int), Str.v x51]) ⟨rfl, rfl, rfl, trivial⟩ Tryz.call31 (world_World_Say_sim h67 w0 _ M _ (sc1 hM) fm45 (All.monoProcessF fa46 fl (List.nil_sublist _))) (fun F72 L' v hF73 hv => ?_)
  obtain ⟨rs68, s71, rfl, rfl, fm69, fa70⟩ := hv
  refine Lst.r (Ev.eql rfl rfl) ?_
  refine nt0 ?_
  rcases (Bool.eq_false_or_eq_true (r66.2.2.2 == (0 : Int))).symm with hb74 | hb74
  ·replace H := ite_f hb74 H
   refine Cd.condF rfl hb74 ?_
   refine Cd.skip ?_
   refine At.front (i := 5) rfl rfl ?_
   refine At.front (i := 4) rfl (L' := (.own s71 9 1 (encs r66.2.1)) :: (.own s41 9 1 (encs l42)) :: (.rows (α := Saying) 62 (List.map ProcessR.row rs68)) :: (.own s22 100 8 (encs rs68)) :: (.own s47 9 1 (encs l48)) :: (.blk b21 (enc (WldR.mk ({ r66.2.2.1 with all := r66.1, ordered := l48, way := r66.2.1 } : Wld) s22 s47 s71)) 95) :: L) rfl ?_
   exact At.meet (({ r66.2.2.1 with all := r66.1, ordered := l48, way := r66.2.1 } : Wld), s71, r66.2.1, s41, l42, r66.1, rs68) hF73 ⟨rfl, rfl, rfl, rfl, rfl, rfl, trivial⟩ rfl ⟨some_inj H, fm69, (All.monoProcessF fa70 fl (List.nil_sublist _))⟩
  replace H := ite_t hb74 H
  refine Cd.condT rfl hb74 ?_
  refine Cd.region ?_
  refine mv0 rfl ?_
  refine mv0 rfl ?_
  refine Lst.buildSlice (α := Str) (xs := ([x51] : List Str)) (pv := [(0, Str.v x51)]) rfl rfl (by decide) ⟨rfl, rfl, trivial⟩ (run_buildSlice (α := Str) (z0 := ([] : Str)) (xs := ([x51] : List Str)) Tryz.runUnderlying43 Tryz.sizeOf9 Tryz.zeroValue9 rfl rfl rfl (by decide) rfl (fill_cons (cs := encs (List.replicate 1 ([] : Str))) (cs' := encs ((List.replicate 1 ([] : Str)).set 0 x51)) (vs := [Str.v x51]) rfl rfl rfl ((Put.elemN (s := 1) (i := 0) (x := ([] : Str)) (y := x51) rfl rfl (Put.here (vs := [Str.v x51]) rfl)).off rfl) fill_nil)) rfl rfl (by decide) (fun s75 _ => ?_)
  obtain ⟨u77, h78, H⟩ := bind_some H
  refine Lst.append (i := 6) (α := Str) (xs := l42) (ys := ([x51] : List Str)) rfl rfl (by decide) rfl rfl Tryz.runUnderlying43 Tryz.typeInfo9 rfl rfl rfl rfl rfl rfl (rdo 0 rfl rfl rfl) rfl (room_some h78) rfl (fun s79 => ?_)
  refine Lst.its (L' := (.own s75 9 1 (encs ([x51] : List Str))) :: (.rows (α := Saying) 62 (List.map ProcessR.row rs68)) :: (.own s22 100 8 (encs rs68)) :: (.own s47 9 1 (encs l48)) :: (.own s71 9 1 (encs r66.2.1)) :: (.blk b21 (enc (WldR.mk ({ r66.2.2.1 with all := r66.1, ordered := l48, way := r66.2.1 } : Wld) s22 s47 s71)) 95) :: (.own s79 9 1 (encs (l42 ++ ([x51] : List Str)))) :: L) rfl ?_
  refine Lst.r (Ev.assign rfl) ?_
  refine Lst.nil ?_
  refine At.front (i := 6) rfl rfl ?_
  refine At.front (i := 5) rfl (L' := (.own s71 9 1 (encs r66.2.1)) :: (.own s79 9 1 (encs (l42 ++ ([x51] : List Str)))) :: (.own s75 9 1 (encs ([x51] : List Str))) :: (.rows (α := Saying) 62 (List.map ProcessR.row rs68)) :: (.own s22 100 8 (encs rs68)) :: (.own s47 9 1 (encs l48)) :: (.blk b21 (enc (WldR.mk ({ r66.2.2.1 with all := r66.1, ordered := l48, way := r66.2.1 } : Wld) s22 s47 s71)) 95) :: L) rfl ?_
  refine At.less (L' := (.own s71 9 1 (encs r66.2.1)) :: (.own s79 9 1 (encs (l42 ++ ([x51] : List Str)))) :: (.rows (α := Saying) 62 (List.map ProcessR.row rs68)) :: (.own s22 100 8 (encs rs68)) :: (.own s47 9 1 (encs l48)) :: (.blk b21 (enc (WldR.mk ({ r66.2.2.1 with all := r66.1, ordered := l48, way := r66.2.1 } : Wld) s22 s47 s71)) 95) :: L) (sk1 (sk1 (sc1 (sk1 (sk1 (sk1 (sk1 (.refl _)))))))) ?_
  exact At.meet (({ r66.2.2.1 with all := r66.1, ordered := l48, way := r66.2.1 } : Wld), s71, r66.2.1, s79, l42 ++ ([x51] : List Str), r66.1, rs68) hF73 ⟨rfl, rfl, rfl, rfl, rfl, rfl, trivial⟩ rfl ⟨some_inj H, fm69, (All.monoProcessF fa70 fl (List.nil_sublist _))⟩
 rintro F80 ⟨y54, s55, l56, s57, l58, l59, rs60⟩ hF81 ⟨hy, fm61, fa62⟩
 subst hy
 refine Cd.as (e' := [(0, iv r15), (5, pv b21 0), (7, Sl.v s57), (34, Sl.v s_a1), (35, iv (a1.length : Int)), (36, iv (i37 : Int))]) (L' := (.own s55 9 1 (encs l56)) :: (.own s57 9 1 (encs l58)) :: (.rows (α := Saying) 62 (List.map ProcessR.row rs60)) :: (.own s22 100 8 (encs rs60)) :: (.own s47 9 1 (encs l48)) :: (.blk b21 (enc (WldR.mk ({ y54 with all := l59, ordered := l48, way := l56 } : Wld) s22 s47 s55)) 95) :: L) ⟨rfl, rfl, rfl, rfl, rfl, rfl, trivial⟩ rfl ?_
 replace H := HKo63
 try dsimp only [Sum.elim_inl] at H
 refine sr0 ?_
 refine mv0 rfl ?_
 refine nt0 ?_
 refine Cd.block ?_
 obtain ⟨ol82, H, HKl82⟩ := andThen_some H
 refine Cd.loop (σ := Nat × Nat × Wld × Sl × (List Procs) × (List ProcessR) × Sl × (List Str)) (fun (i82, k82, y83, s84, l86, rs87, s90, l91) => [(0, iv r15), (5, pv b21 0), (7, Sl.v s57), (34, Sl.v s_a1), (35, iv (a1.length : Int)), (36, iv (i37 : Int)), (52, iv (i82 : Int))]) (fun (i82, k82, y83, s84, l86, rs87, s90, l91) => (.own s84 9 1 (encs y83.way)) :: (.own s57 9 1 (encs l58)) :: (.rows (α := Saying) 62 (List.map ProcessR.row rs87)) :: (.own s22 100 8 (encs rs87)) :: (.own s90 9 1 (encs l91)) :: (.blk b21 (enc (WldR.mk ({ y83 with all := l86, ordered := l91 } : Wld) s22 s90 s84)) 95) :: L) (fun Fx => (fun (i82, k82, y83, s84, l86, rs87, s90, l91) => rangeM (parttop_TopNoise_B2 fu) k82 i82 (y83, l86, l91) = some ol82 ∧ i82 + k82 = 20 ∧ rs87.map ProcessR.v = l86 ∧ All ProcessR.frel w0 Fx [] rs87)) (fun (i82, k82, y83, s84, l86, rs87, s90, l91) => k82) (0, 20, ({ y54 with all := l59, ordered := l48, way := l56 } : Wld), s55, l59, rs60, s47, l48) ⟨rfl, rfl, rfl, rfl, rfl, rfl, rfl, trivial⟩ rfl ⟨H, by omega, fm61, (All.monoProcessF fa62 fl (List.nil_sublist _))⟩ ?_
 rintro F92 ⟨i82, k82, y83, s84, l86, rs87, s90, l91⟩ hF93 ⟨H, hik82, fm88, fa89⟩
 refine Cd.as (e' := [(0, iv r15), (5, pv b21 0), (7, Sl.v s57), (34, Sl.v s_a1), (35, iv (a1.length : Int)), (36, iv (i37 : Int)), (52, iv (i82 : Int))]) (L' := (.own s84 9 1 (encs y83.way)) :: (.own s57 9 1 (encs l58)) :: (.rows (α := Saying) 62 (List.map ProcessR.row rs87)) :: (.own s22 100 8 (encs rs87)) :: (.own s90 9 1 (encs l91)) :: (.blk b21 (enc (WldR.mk ({ y83 with all := l86, ordered := l91 } : Wld) s22 s90 s84)) 95) :: L) ⟨rfl, rfl, rfl, rfl, rfl, rfl, rfl, trivial⟩ rfl ?_
 rcases k82 with _ | k82
 ·have hc82 : decide ((i82 : Int) < (20 : Int)) = false := decide_eq_false (by omega)
  replace H := rangeM_end H
  refine sr0 ?_
  refine Lst.r (Ev.lss rfl rfl) ?_
  refine nt0 ?_
  refine Cd.seq ?_
  refine Cd.condF rfl hc82 ?_
  refine Cd.exit ?_
  refine At.then_exit ?_
  refine At.then_exit ?_
  refine At.in_exit ?_
  subst H
  replace H := HKl82
  try dsimp only [Sum.elim_inl] at H
  refine At.in_normal ?_
  refine At.then ?_
  refine Cd.region ?_
  refine Lst.r (Ev.incr (by omega) rfl rfl) ?_
  refine mv0 rfl ?_
  refine Lst.nil ?_
  exact At.meet (i37 + 1, k37, ({ y83 with all := l86, ordered := l91 } : Wld), s84, s57, l58, l86, rs87, s90, l91) (FLe.trans (FLe.trans hF50 hF81) hF93) ⟨rfl, rfl, rfl, rfl, rfl, rfl, trivial⟩ rfl ⟨⟨hgo37 _ (some_inj H).symm, by omega, fm88, (All.monoProcessF fa89 fl (List.nil_sublist _))⟩, Nat.lt_succ_self _⟩
 have hc82 : decide ((i82 : Int) < (20 : Int)) = true := decide_eq_true (by omega)
 obtain ⟨c82, H, hgo82, hbrk82, hret82⟩ := rangeM_go H
 unfold parttop_TopNoise_B2 at H
 try dsimp only at H
 refine sr0 ?_
 refine Lst.r (Ev.lss rfl rfl) ?_
 refine nt0 ?_
 refine Cd.seq ?_
 refine Cd.condT rfl hc82 ?_
 refine Cd.skip ?_
 refine At.then ?_
 refine Cd.seq ?_
 refine Cd.block ?_
 refine sr0 ?_
 refine mv0 rfl ?_
 obtain ⟨r94, h95, H⟩ := bind_some H
 refine Lst.front (i := 5) rfl rfl ?_
 refine Lst.front (i := 1) rfl rfl ?_
 refine Lst.front (i := 5) rfl (L' := (.own s90 9 1 (encs l91)) :: (.own s84 9 1 (encs y83.way)) :: (.blk b21 (enc (WldR.mk ({ y83 with all := l86, ordered := l91 } : Wld) s22 s90 s84)) 95) :: (.own s57 9 1 (encs l58)) :: (.rows (α := Saying) 62 (List.map ProcessR.row rs87)) :: (.own s22 100 8 (encs rs87)) :: L) rfl ?_
 refine Lst.front (i := 5) rfl rfl ?_
 refine Lst.front (i := 5) rfl (L' := (.rows (α := Saying) 62 (List.map ProcessR.row rs87)) :: (.own s22 100 8 (encs rs87)) :: (.own s90 9 1 (encs l91)) :: (.own s84 9 1 (encs y83.way)) :: (.blk b21 (enc (WldR.mk ({ y83 with all := l86, ordered := l91 } : Wld) s22 s90 s84)) 95) :: (.own s57 9 1 (encs l58)) :: L) rfl ?_
 refine Lst.call1 rfl rfl (by decide) (vs := [pv b21 0]) ⟨rfl, trivial⟩ Tryz.call14 (world_World_Way_sim h95 w0 _ M _ (sc1 hM) fm88 (All.monoProcessF fa89 fl (List.nil_sublist _))) ?_
 refine Lst.r (Ev.gtr rfl rfl) ?_
 refine mv0 rfl ?_
 rcases (Bool.eq_false_or_eq_true (decide (r94 > (0 : Int)))).symm with hb98 | hb98
 ·replace H := ite_f hb98 H
  refine Lst.skip rfl rfl rfl hb98 rfl (by decide) ?_
  refine Lst.skip rfl rfl rfl hb98 rfl (by decide) ?_
  refine Lst.skip rfl rfl rfl hb98 rfl (by decide) ?_
  refine Lst.r (Ev.pickF rfl hb98 rfl) ?_
  refine nt0 ?_
  refine Cd.condF rfl rfl ?_
  refine Cd.skip ?_
  refine At.in_normal ?_
  refine At.then ?_
  refine Cd.region ?_
  refine Lst.r (Ev.incr (by omega) rfl rfl) ?_
  refine mv0 rfl ?_
  refine Lst.nil ?_
  refine At.front (i := 5) rfl rfl ?_
  refine At.front (i := 4) rfl (L' := (.own s84 9 1 (encs y83.way)) :: (.own s57 9 1 (encs l58)) :: (.rows (α := Saying) 62 (List.map ProcessR.row rs87)) :: (.own s22 100 8 (encs rs87)) :: (.own s90 9 1 (encs l91)) :: (.blk b21 (enc (WldR.mk ({ y83 with all := l86, ordered := l91 } : Wld) s22 s90 s84)) 95) :: L) rfl ?_
  exact At.meet (i82 + 1, k82, ({ y83 with all := l86, ordered := l91 } : Wld), s84, l86, rs87, s90, l91) hF93 ⟨rfl, rfl, rfl, rfl, rfl, rfl, rfl, trivial⟩ rfl ⟨⟨hgo82 _ (some_inj H).symm, by omega, fm88, (All.monoProcessF fa89 fl (List.nil_sublist _))⟩, Nat.lt_succ_self _⟩
 replace H := ite_t hb98 H
 refine Lst.rG hb98 (Ev.move rfl) ?_
 obtain ⟨r99, h100, H⟩ := bind_some H
 refine Lst.callG rfl rfl rfl hb98 rfl (by decide) (vs := [pv b21 0, iv (0 : Int), iv (1 : Int)]) ⟨rfl, rfl, rfl, trivial⟩ Tryz.call32 (world_World_Move_sim h100 w0 _ M _ (sc1 hM) hT fm88 (All.monoProcessF fa89 fl (List.nil_sublist _))) (fun F107 L' v hF108 hv => ?_)
 obtain ⟨rs101, s104, s105, rfl, rfl, fm102, fa103⟩ := hv
 refine Lst.rG hb98 (Ev.neq rfl rfl) ?_
 refine Lst.r (Ev.pickT rfl hb98 rfl) ?_
 refine nt0 ?_
 rcases Bool.eq_false_or_eq_true (r99.2.2.2 != (0 : Int)) with hb109 | hb109
 ·replace H := ite_t hb109 H
  refine Cd.condT rfl hb109 ?_
  refine Cd.seq ?_
  refine Cd.as (e' := []) (L' := (.own s105 9 1 (encs r99.2.2.1.way)) :: (.rows (α := Saying) 62 (List.map ProcessR.row rs101)) :: (.own s22 100 8 (encs rs101)) :: (.own s104 9 1 (encs r99.2.1)) :: (.blk b21 (enc (WldR.mk ({ r99.2.2.1 with all := r99.1, ordered := r99.2.1 } : Wld) s22 s104 s105)) 95) :: (.own s57 9 1 (encs l58)) :: L) trivial rfl ?_
  refine Cd.region ?_
  refine Lst.r (Ev.assign rfl) ?_
  refine nt0 ?_
  have H := hret82 _ (some_inj H).symm
  subst H
  replace H := HKl82
  have H := hret37 _ (some_inj H).symm
  subst H
  replace H := HKl37
  obtain rfl := some_inj H
  refine Cd.ret ?_
  refine At.in_ret ?_
  refine At.then_ret ?_
  refine At.then_ret ?_
  refine At.in_ret ?_
  refine At.in_ret ?_
  refine At.then_ret ?_
  refine At.then_ret ?_
  refine At.in_ret ?_
  refine At.then_ret ?_
  exact At.ret1 rfl (Res.tmp rfl) (FLe.trans (FLe.trans (FLe.trans (FLe.trans (FLe.trans hF9 hF34) hF50) hF81) hF93) hF108) (sc1 (sc1 (sc1 (sc1 (sc1 (sc1 (.refl _))))))) ⟨rfl, rfl⟩
 replace H := ite_f hb109 H
 refine Cd.condF rfl hb109 ?_
 refine Cd.skip ?_
 refine At.in_normal ?_
 refine At.then ?_
 refine Cd.region ?_
 refine Lst.r (Ev.incr (by omega) rfl rfl) ?_
 refine mv0 rfl ?_
 refine Lst.nil ?_
 refine At.front (i := 5) rfl rfl ?_
 refine At.front (i := 1) rfl (L' := (.own s105 9 1 (encs r99.2.2.1.way)) :: (.own s57 9 1 (encs l58)) :: (.rows (α := Saying) 62 (List.map ProcessR.row rs101)) :: (.own s22 100 8 (encs rs101)) :: (.own s104 9 1 (encs r99.2.1)) :: (.blk b21 (enc (WldR.mk ({ r99.2.2.1 with all := r99.1, ordered := r99.2.1 } : Wld) s22 s104 s105)) 95) :: L) rfl ?_
 exact At.meet (i82 + 1, k82, ({ r99.2.2.1 with all := r99.1, ordered := r99.2.1 } : Wld), s105, r99.1, rs101, s104, r99.2.1) (FLe.trans hF93 hF108) ⟨rfl, rfl, rfl, rfl, rfl, rfl, rfl, trivial⟩ rfl ⟨⟨hgo82 _ (some_inj H).symm, by omega, fm102, (All.monoProcessF fa103 fl (List.nil_sublist _))⟩, Nat.lt_succ_self _⟩
end Go.Proofs.YtchmclllcdknjaaGreatDoor
