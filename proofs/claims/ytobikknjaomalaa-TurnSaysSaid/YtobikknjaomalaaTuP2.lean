/-
  The functions compute their specs; printed by a program.
-/
import Derived.Test.YtobikknjaomalaaTuP1
namespace Go.Proofs.Ytobikknjaomalaa
open Go.RowKit Enc
set_option linter.unusedVariables false
set_option linter.unusedSimpArgs false
set_option maxHeartbeats 2000000 in
set_option maxRecDepth 20000 in
theorem turn_Step_sim {fu : Nat} {a0 : Turn} {a1 : Beat} {s_a0_2 : Sl} {rs_a0_2 : List (LR Int)} {s_a0_3 : Sl} {s_a0_4 : Sl} {r : Turn × Int × Int} (H : turn_Step fu a0 a1 = some r) (w0 : World) (F : Frz) (M L : List Item) (hM : M.Sublist L) (hm_a0_2 : rs_a0_2.map LR.v = a0.Want) (hs_a0_2 : Rd w0 F M s_a0_2 rs_a0_2) (ha_a0_2 : All LR.rel w0 F M rs_a0_2) (hs_a0_3 : Rd w0 F M s_a0_3 a0.Log) (hs_a0_4 : Rd w0 F M s_a0_4 a0.Told) : Ok Try.prog w0 35 [.agg (enc (TurnR.mk a0 s_a0_2 s_a0_3 s_a0_4)).toArray, .agg (enc a1).toArray] F (L) (fun Fx L' v => ∃ (s1 : Sl) (rs2 : List (LR Int)) (s6 : Sl) (s8 : Sl), v = .tuple #[.agg (enc (TurnR.mk r.1 s1 s6 s8)).toArray, iv r.2.1, iv r.2.2] ∧ L' = (.rows (α := Int) 3 rs2) :: (.own s1 36 1 (encs rs2)) :: (.own s6 3 1 (encs r.1.Log)) :: (.own s8 3 1 (encs r.1.Told)) :: L ∧ rs2.map LR.v = r.1.Want) := by
 unfold turn_Step at H
 refine Ok.enter (m := 2) (n := 113) Try.func35 rfl rfl rfl (by decide) ?_
 refine Cd.env (e' := [(0, .agg (enc (TurnR.mk a0 s_a0_2 s_a0_3 s_a0_4)).toArray), (1, .agg (enc a1).toArray)]) rfl ?_
 refine Cd.seq ?_
 refine Cd.region ?_
 refine Lst.box rfl rfl (by decide) rfl (cs := enc (TurnR.mk a0 s_a0_2 s_a0_3 s_a0_4)) rfl (fun b1 => ?_)
 refine Lst.box rfl rfl (by decide) rfl (cs := enc a1) rfl (fun b3 => ?_)
 have ha6 : All LR.rel w0 F [] ([] : List (LR Int)) := All.nil
 have ha6m : List.map LR.v ([] : List (LR Int)) = ([] : List (List Int)) := rfl
 refine Lst.addNil 36 1 ?_
 refine Lst.addNil 3 1 ?_
 refine Lst.addNil 3 1 ?_
 refine Lst.alloc (cs := enc (TurnR.mk ({ Turn.zero with Want := ([] : List (List Int)), Log := ([] : List Int), Told := ([] : List Int) } : Turn) Sl.nil Sl.nil Sl.nil)) rfl rfl (by decide) Try.zeroValue59 rfl (fun b9 => ?_)
 refine Lst.r (Ev.assign rfl) ?_
 refine Lst.r (Ev.assign rfl) ?_
 refine Lst.nil ?_
 refine At.then ?_
 refine Cd.seq ?_
 refine Cd.seq ?_
 refine Cd.region ?_
 refine Lst.r (Ev.loadA (i := 5) rfl rfl Try.isAgg59 Try.sizeOf59 (ch := enc (TurnR.mk a0 s_a0_2 s_a0_3 s_a0_4)) (Enc.len _) (Get.here _)) ?_
 obtain ⟨r11, h12, H⟩ := bind_some H
 refine Lst.call1 rfl rfl (by decide) (vs := [.agg (enc (TurnR.mk a0 s_a0_2 s_a0_3 s_a0_4)).toArray]) ⟨rfl, trivial⟩ Try.call36 (turn_Check_sim h12 w0 _ M _ (sc4 (sc2 hM)) hm_a0_2 (hs_a0_2.mono (FLe.refl _) (.refl _)) (All.monoLR ha_a0_2 (FLe.refl _) (.refl _)) (hs_a0_3.mono (FLe.refl _) (.refl _)) (hs_a0_4.mono (FLe.refl _) (.refl _))) ?_
 refine Lst.r (Ev.assign rfl) ?_
 refine Lst.nil ?_
 refine At.then ?_
 refine Cd.seq ?_
 refine Cd.region ?_
 refine Lst.r (Ev.move rfl) ?_
 refine Lst.r (Ev.neq rfl rfl) ?_
 refine Lst.nil ?_
 refine At.then ?_
 rcases Bool.eq_false_or_eq_true (r11 != (0 : Int)) with hb15 | hb15
 ·replace H := ite_t hb15 H
  refine Cd.condT rfl hb15 ?_
  refine Cd.seq ?_
  refine Cd.region ?_
  refine Lst.r (Ev.build (v := .agg (enc (TurnR.mk Turn.zero Sl.nil Sl.nil Sl.nil)).toArray) (pv := []) trivial (fun w => by kernel_rfl)) ?_
  refine Lst.r (Ev.move rfl) ?_
  refine Lst.store (i := 0) rfl rfl rfl rfl rfl Try.sizeOf59 (vs := enc (TurnR.mk Turn.zero Sl.nil Sl.nil Sl.nil)) rfl (Enc.len _) (Enc.one _) (cs' := enc (TurnR.mk Turn.zero Sl.nil Sl.nil Sl.nil)) (Put.here ((Enc.len _).trans (Enc.len _).symm)) (L' := (.blk b9 (enc (TurnR.mk Turn.zero Sl.nil Sl.nil Sl.nil)) 59) :: (.own Sl.nil 3 1 (encs ([] : List Int))) :: (.own Sl.nil 3 1 (encs ([] : List Int))) :: (.own Sl.nil 36 1 (encs ([] : List (LR Int)))) :: (.blk b3 (enc a1) 61) :: (.blk b1 (enc (TurnR.mk a0 s_a0_2 s_a0_3 s_a0_4)) 59) :: L) rfl ?_
  refine Lst.r (Ev.assign rfl) ?_
  refine Lst.r (Ev.assign rfl) ?_
  refine Lst.nil ?_
  refine At.then ?_
  obtain rfl := some_inj H
  refine Cd.ret ?_
  refine At.then_ret ?_
  have ha18m : List.map LR.v ([] : List (LR Int)) = ([] : List (List Int)) := rfl
  refine At.addNil 36 1 ?_
  refine At.rowsNil Int 3 0 ?_
  refine At.its (L' := (.rows (α := Int) 3 ([] : List (LR Int))) :: (.own Sl.nil 36 1 (encs ([] : List (LR Int)))) :: (.blk b9 (enc (TurnR.mk Turn.zero Sl.nil Sl.nil Sl.nil)) 59) :: (.own Sl.nil 3 1 (encs ([] : List Int))) :: (.own Sl.nil 3 1 (encs ([] : List Int))) :: (.own Sl.nil 36 1 (encs ([] : List (LR Int)))) :: (.blk b3 (enc a1) 61) :: (.blk b1 (enc (TurnR.mk a0 s_a0_2 s_a0_3 s_a0_4)) 59) :: L) rfl ?_
  refine At.addNil 3 1 ?_
  refine At.addNil 3 1 ?_
  refine At.front (i := 1) rfl rfl ?_
  refine At.front (i := 3) rfl rfl ?_
  refine At.front (i := 3) rfl (L' := (.rows (α := Int) 3 ([] : List (LR Int))) :: (.own Sl.nil 36 1 (encs ([] : List (LR Int)))) :: (.own Sl.nil 3 1 (encs ([] : List Int))) :: (.own Sl.nil 3 1 (encs ([] : List Int))) :: (.blk b9 (enc (TurnR.mk ({ Turn.zero with Want := ([] : List (List Int)), Log := ([] : List Int), Told := ([] : List Int) } : Turn) Sl.nil Sl.nil Sl.nil)) 59) :: (.own Sl.nil 3 1 (encs ([] : List Int))) :: (.own Sl.nil 3 1 (encs ([] : List Int))) :: (.own Sl.nil 36 1 (encs ([] : List (LR Int)))) :: (.blk b3 (enc a1) 61) :: (.blk b1 (enc (TurnR.mk a0 s_a0_2 s_a0_3 s_a0_4)) 59) :: L) rfl ?_
  exact At.ret3 rfl (Res.cellA (i := 4) rfl rfl Try.isAgg59 Try.sizeOf59 (Enc.len _)) (Res.tmp rfl) (Res.tmp rfl) (FLe.refl _) (sk1 (sk1 (sk1 (sk1 (sc1 (sc1 (sc1 (sc1 (sc1 (sc1 (.refl _))))))))))) ⟨Sl.nil, ([] : List (LR Int)), Sl.nil, Sl.nil, rfl, rfl, ha18m⟩
 replace H := ite_f hb15 H
 refine Cd.condF rfl hb15 ?_
 refine Cd.skip ?_
 refine At.then ?_
 refine Cd.seq ?_
 refine Cd.seq ?_
 refine Cd.region ?_
 refine Lst.r (Ev.fieldAddr (off' := 0) rfl Try.runUnderlying61 rfl Try.sizeOf3 rfl rfl) ?_
 refine Lst.r (Ev.load (i := 4) rfl rfl Try.isAgg3 (v := iv a1.Kind) ((Beat.get_Kind (Get.here _)).off (by rfl))) ?_
 obtain ⟨r21, h22, H⟩ := bind_some H
 refine Lst.call1 rfl rfl (by decide) (vs := [iv a1.Kind, iv (1 : Int), iv (3 : Int)]) ⟨rfl, rfl, rfl, trivial⟩ Try.call121 (turn_in_sim h22 w0 _ M _ (sc4 (sc2 hM))) ?_
 refine Lst.r (Ev.not rfl) ?_
 refine Lst.r (Ev.move rfl) ?_
 obtain ⟨o25, H, HKo25⟩ := bind_some H
 refine Lst.join (σ := Bool) 8 (fun y26 => [(2, pv b1 0), (3, pv b3 0), (4, pv b9 0), (27, .bool y26)]) (fun y26 => (.blk b9 (enc (TurnR.mk ({ Turn.zero with Want := ([] : List (List Int)), Log := ([] : List Int), Told := ([] : List Int) } : Turn) Sl.nil Sl.nil Sl.nil)) 59) :: (.own Sl.nil 3 1 (encs ([] : List Int))) :: (.own Sl.nil 3 1 (encs ([] : List Int))) :: (.own Sl.nil 36 1 (encs ([] : List (LR Int)))) :: (.blk b3 (enc a1) 61) :: (.blk b1 (enc (TurnR.mk a0 s_a0_2 s_a0_3 s_a0_4)) 59) :: L) (fun _ y26 => y26 = o25) ?_ ?_
 ·rcases Bool.eq_false_or_eq_true (!r21) with hb27 | hb27
  ·replace H := ite_t hb27 H
   refine Lst.skip rfl rfl rfl hb27 rfl (by decide) ?_
   refine Lst.skip rfl rfl rfl hb27 rfl (by decide) ?_
   refine Lst.skip rfl rfl rfl hb27 rfl (by decide) ?_
   refine Lst.skip rfl rfl rfl hb27 rfl (by decide) ?_
   refine Lst.skip rfl rfl rfl hb27 rfl (by decide) ?_
   refine Lst.skip rfl rfl rfl hb27 rfl (by decide) ?_
   refine Lst.skip rfl rfl rfl hb27 rfl (by decide) ?_
   refine Lst.r (Ev.pickT rfl hb27 rfl) ?_
   refine Lst.nil ?_
   exact At.meet true (FLe.refl _) ⟨rfl, rfl, rfl, rfl, trivial⟩ rfl (some_inj H)
  replace H := ite_f hb27 H
  refine Lst.rG hb27 (Ev.fieldAddr (off' := 1) rfl Try.runUnderlying61 rfl Try.sizeOf3 rfl rfl) ?_
  refine Lst.rG hb27 (Ev.load (i := 4) rfl rfl Try.isAgg3 (v := iv a1.Who) ((Beat.get_Who (Get.here _)).off (by rfl))) ?_
  refine Lst.rG hb27 (Ev.fieldAddr (off' := 0) rfl Try.runUnderlying59 rfl Try.sizeOf3 rfl rfl) ?_
  refine Lst.rG hb27 (Ev.load (i := 5) rfl rfl Try.isAgg3 (v := iv a0.N) ((TurnR.get_N (Get.here _)).off (by rfl))) ?_
  refine Lst.rG hb27 (Ev.sub rfl rfl) ?_
  obtain ⟨r28, h29, H⟩ := bind_some H
  refine Lst.call1G rfl rfl rfl hb27 rfl (by decide) (vs := [iv a1.Who, iv (0 : Int), iv (w64 (a0.N - (1 : Int)))]) ⟨rfl, rfl, rfl, trivial⟩ Try.call121 (turn_in_sim h29 w0 _ M _ (sc4 (sc2 hM))) ?_
  refine Lst.rG hb27 (Ev.not rfl) ?_
  refine Lst.r (Ev.pickF rfl hb27 rfl) ?_
  refine Lst.nil ?_
  exact At.meet (!r28) (FLe.refl _) ⟨rfl, rfl, rfl, rfl, trivial⟩ rfl (some_inj H)
 rintro F32 y26 hF33 hy
 subst hy
 refine Lst.as (e' := [(2, pv b1 0), (3, pv b3 0), (4, pv b9 0), (27, .bool y26)]) (L' := (.blk b9 (enc (TurnR.mk ({ Turn.zero with Want := ([] : List (List Int)), Log := ([] : List Int), Told := ([] : List Int) } : Turn) Sl.nil Sl.nil Sl.nil)) 59) :: (.own Sl.nil 3 1 (encs ([] : List Int))) :: (.own Sl.nil 3 1 (encs ([] : List Int))) :: (.own Sl.nil 36 1 (encs ([] : List (LR Int)))) :: (.blk b3 (enc a1) 61) :: (.blk b1 (enc (TurnR.mk a0 s_a0_2 s_a0_3 s_a0_4)) 59) :: L) ⟨rfl, rfl, rfl, rfl, trivial⟩ rfl ?_
 replace H := HKo25
 refine Lst.r (Ev.move rfl) ?_
 obtain ⟨o34, H, HKo34⟩ := bind_some H
 refine Lst.join (σ := Bool) 5 (fun y35 => [(2, pv b1 0), (3, pv b3 0), (4, pv b9 0), (33, .bool y35)]) (fun y35 => (.blk b9 (enc (TurnR.mk ({ Turn.zero with Want := ([] : List (List Int)), Log := ([] : List Int), Told := ([] : List Int) } : Turn) Sl.nil Sl.nil Sl.nil)) 59) :: (.own Sl.nil 3 1 (encs ([] : List Int))) :: (.own Sl.nil 3 1 (encs ([] : List Int))) :: (.own Sl.nil 36 1 (encs ([] : List (LR Int)))) :: (.blk b3 (enc a1) 61) :: (.blk b1 (enc (TurnR.mk a0 s_a0_2 s_a0_3 s_a0_4)) 59) :: L) (fun _ y35 => y35 = o34) ?_ ?_
 ·rcases Bool.eq_false_or_eq_true y26 with hb36 | hb36
  ·replace H := ite_t hb36 H
   refine Lst.skip rfl rfl rfl hb36 rfl (by decide) ?_
   refine Lst.skip rfl rfl rfl hb36 rfl (by decide) ?_
   refine Lst.skip rfl rfl rfl hb36 rfl (by decide) ?_
   refine Lst.skip rfl rfl rfl hb36 rfl (by decide) ?_
   refine Lst.r (Ev.pickT rfl hb36 rfl) ?_
   refine Lst.nil ?_
   exact At.meet true (FLe.refl _) ⟨rfl, rfl, rfl, rfl, trivial⟩ rfl (some_inj H)
  replace H := ite_f hb36 H
  refine Lst.rG hb36 (Ev.fieldAddr (off' := 2) rfl Try.runUnderlying61 rfl Try.sizeOf3 rfl rfl) ?_
  refine Lst.rG hb36 (Ev.load (i := 4) rfl rfl Try.isAgg3 (v := iv a1.N) ((Beat.get_N (Get.here _)).off (by rfl))) ?_
  obtain ⟨r37, h38, H⟩ := bind_some H
  refine Lst.call1G rfl rfl rfl hb36 rfl (by decide) (vs := [iv a1.N]) ⟨rfl, trivial⟩ Try.call122 (turn_message_sim h38 w0 _ M _ (sc4 (sc2 hM))) ?_
  refine Lst.rG hb36 (Ev.not rfl) ?_
  refine Lst.r (Ev.pickF rfl hb36 rfl) ?_
  refine Lst.nil ?_
  exact At.meet (!r37) (FLe.refl _) ⟨rfl, rfl, rfl, rfl, trivial⟩ rfl (some_inj H)
 rintro F41 y35 hF42 hy
 subst hy
 refine Lst.as (e' := [(2, pv b1 0), (3, pv b3 0), (4, pv b9 0), (33, .bool y35)]) (L' := (.blk b9 (enc (TurnR.mk ({ Turn.zero with Want := ([] : List (List Int)), Log := ([] : List Int), Told := ([] : List Int) } : Turn) Sl.nil Sl.nil Sl.nil)) 59) :: (.own Sl.nil 3 1 (encs ([] : List Int))) :: (.own Sl.nil 3 1 (encs ([] : List Int))) :: (.own Sl.nil 36 1 (encs ([] : List (LR Int)))) :: (.blk b3 (enc a1) 61) :: (.blk b1 (enc (TurnR.mk a0 s_a0_2 s_a0_3 s_a0_4)) 59) :: L) ⟨rfl, rfl, rfl, rfl, trivial⟩ rfl ?_
 replace H := HKo34
 refine Lst.nil ?_
 refine At.then ?_
 rcases Bool.eq_false_or_eq_true y35 with hb43 | hb43
 ·replace H := ite_t hb43 H
  refine Cd.condT rfl hb43 ?_
  refine Cd.seq ?_
  refine Cd.region ?_
  refine Lst.r (Ev.build (v := .agg (enc (TurnR.mk Turn.zero Sl.nil Sl.nil Sl.nil)).toArray) (pv := []) trivial (fun w => by kernel_rfl)) ?_
  refine Lst.store (i := 0) rfl rfl rfl rfl rfl Try.sizeOf59 (vs := enc (TurnR.mk Turn.zero Sl.nil Sl.nil Sl.nil)) rfl (Enc.len _) (Enc.one _) (cs' := enc (TurnR.mk Turn.zero Sl.nil Sl.nil Sl.nil)) (Put.here ((Enc.len _).trans (Enc.len _).symm)) (L' := (.blk b9 (enc (TurnR.mk Turn.zero Sl.nil Sl.nil Sl.nil)) 59) :: (.own Sl.nil 3 1 (encs ([] : List Int))) :: (.own Sl.nil 3 1 (encs ([] : List Int))) :: (.own Sl.nil 36 1 (encs ([] : List (LR Int)))) :: (.blk b3 (enc a1) 61) :: (.blk b1 (enc (TurnR.mk a0 s_a0_2 s_a0_3 s_a0_4)) 59) :: L) rfl ?_
  refine Lst.r (Ev.assign rfl) ?_
  refine Lst.r (Ev.assign rfl) ?_
  refine Lst.nil ?_
  refine At.then ?_
  obtain rfl := some_inj H
  refine Cd.ret ?_
  refine At.then_ret ?_
  have ha46m : List.map LR.v ([] : List (LR Int)) = ([] : List (List Int)) := rfl
  refine At.addNil 36 1 ?_
  refine At.rowsNil Int 3 0 ?_
  refine At.its (L' := (.rows (α := Int) 3 ([] : List (LR Int))) :: (.own Sl.nil 36 1 (encs ([] : List (LR Int)))) :: (.blk b9 (enc (TurnR.mk Turn.zero Sl.nil Sl.nil Sl.nil)) 59) :: (.own Sl.nil 3 1 (encs ([] : List Int))) :: (.own Sl.nil 3 1 (encs ([] : List Int))) :: (.own Sl.nil 36 1 (encs ([] : List (LR Int)))) :: (.blk b3 (enc a1) 61) :: (.blk b1 (enc (TurnR.mk a0 s_a0_2 s_a0_3 s_a0_4)) 59) :: L) rfl ?_
  refine At.addNil 3 1 ?_
  refine At.addNil 3 1 ?_
  refine At.front (i := 1) rfl rfl ?_
  refine At.front (i := 3) rfl rfl ?_
  refine At.front (i := 3) rfl (L' := (.rows (α := Int) 3 ([] : List (LR Int))) :: (.own Sl.nil 36 1 (encs ([] : List (LR Int)))) :: (.own Sl.nil 3 1 (encs ([] : List Int))) :: (.own Sl.nil 3 1 (encs ([] : List Int))) :: (.blk b9 (enc (TurnR.mk ({ Turn.zero with Want := ([] : List (List Int)), Log := ([] : List Int), Told := ([] : List Int) } : Turn) Sl.nil Sl.nil Sl.nil)) 59) :: (.own Sl.nil 3 1 (encs ([] : List Int))) :: (.own Sl.nil 3 1 (encs ([] : List Int))) :: (.own Sl.nil 36 1 (encs ([] : List (LR Int)))) :: (.blk b3 (enc a1) 61) :: (.blk b1 (enc (TurnR.mk a0 s_a0_2 s_a0_3 s_a0_4)) 59) :: L) rfl ?_
  exact At.ret3 rfl (Res.cellA (i := 4) rfl rfl Try.isAgg59 Try.sizeOf59 (Enc.len _)) (Res.tmp rfl) (Res.tmp rfl) (FLe.trans hF33 hF42) (sk1 (sk1 (sk1 (sk1 (sc1 (sc1 (sc1 (sc1 (sc1 (sc1 (.refl _))))))))))) ⟨Sl.nil, ([] : List (LR Int)), Sl.nil, Sl.nil, rfl, rfl, ha46m⟩
 replace H := ite_f hb43 H
 refine Cd.condF rfl hb43 ?_
 refine Cd.skip ?_
 refine At.then ?_
 refine Cd.seq ?_
 refine Cd.region ?_
 refine Lst.r (Ev.loadA (i := 5) rfl rfl Try.isAgg59 Try.sizeOf59 (ch := enc (TurnR.mk a0 s_a0_2 s_a0_3 s_a0_4)) (Enc.len _) (Get.here _)) ?_
 obtain ⟨r49, h50, H⟩ := bind_some H
 refine Lst.call rfl rfl (by decide) (vs := [.agg (enc (TurnR.mk a0 s_a0_2 s_a0_3 s_a0_4)).toArray]) ⟨rfl, trivial⟩ Try.call123 (turn_clone_sim h50 w0 _ M _ (sc4 (sc2 hM)) hm_a0_2 (hs_a0_2.mono (FLe.trans hF33 hF42) (.refl _)) (All.monoLR ha_a0_2 (FLe.trans hF33 hF42) (.refl _)) (hs_a0_3.mono (FLe.trans hF33 hF42) (.refl _)) (hs_a0_4.mono (FLe.trans hF33 hF42) (.refl _))) (fun F60 L' v hF61 hv => ?_)
 obtain ⟨s51, rs52, s56, s58, rfl, rfl, fm53⟩ := hv
 have ha63 : All LR.rel w0 F60 [] ([] : List (LR Int)) := All.nil
 have ha63m : List.map LR.v ([] : List (LR Int)) = ([] : List (List Int)) := rfl
 refine Lst.addNil 36 1 ?_
 refine Lst.addNil 3 1 ?_
 refine Lst.addNil 3 1 ?_
 refine Lst.alloc (cs := enc (TurnR.mk ({ Turn.zero with Want := ([] : List (List Int)), Log := ([] : List Int), Told := ([] : List Int) } : Turn) Sl.nil Sl.nil Sl.nil)) rfl rfl (by decide) Try.zeroValue59 rfl (fun b66 => ?_)
 refine Lst.store (i := 0) rfl rfl rfl rfl rfl Try.sizeOf59 (vs := enc (TurnR.mk r49 s51 s56 s58)) rfl (Enc.len _) (Enc.one _) (cs' := enc (TurnR.mk r49 s51 s56 s58)) (Put.here ((Enc.len _).trans (Enc.len _).symm)) (L' := (.blk b66 (enc (TurnR.mk r49 s51 s56 s58)) 59) :: (.own Sl.nil 3 1 (encs ([] : List Int))) :: (.own Sl.nil 3 1 (encs ([] : List Int))) :: (.own Sl.nil 36 1 (encs ([] : List (LR Int)))) :: (.rows (α := Int) 3 rs52) :: (.own s51 36 1 (encs rs52)) :: (.own s56 3 1 (encs r49.Log)) :: (.own s58 3 1 (encs r49.Told)) :: (.blk b9 (enc (TurnR.mk ({ Turn.zero with Want := ([] : List (List Int)), Log := ([] : List Int), Told := ([] : List Int) } : Turn) Sl.nil Sl.nil Sl.nil)) 59) :: (.own Sl.nil 3 1 (encs ([] : List Int))) :: (.own Sl.nil 3 1 (encs ([] : List Int))) :: (.own Sl.nil 36 1 (encs ([] : List (LR Int)))) :: (.blk b3 (enc a1) 61) :: (.blk b1 (enc (TurnR.mk a0 s_a0_2 s_a0_3 s_a0_4)) 59) :: L) rfl ?_
 refine Lst.nil ?_
 refine At.then ?_
 obtain ⟨o74, H, HKo74⟩ := andThen_some H
 refine Cd.join (σ := Turn × (List (List Int)) × (List (LR Int)) × Sl × (List Int)) (fun (y68, l69, rs70, s72, l73) => [(4, pv b9 0), (8, pv b66 0)]) (fun (y68, l69, rs70, s72, l73) => (.blk b66 (enc (TurnR.mk ({ y68 with Want := l69, Log := l73, Told := r49.Told } : Turn) s51 s72 s58)) 59) :: (.own Sl.nil 3 1 (encs ([] : List Int))) :: (.own Sl.nil 3 1 (encs ([] : List Int))) :: (.own Sl.nil 36 1 (encs ([] : List (LR Int)))) :: (.rows (α := Int) 3 rs70) :: (.own s51 36 1 (encs rs70)) :: (.own s72 3 1 (encs l73)) :: (.own s58 3 1 (encs r49.Told)) :: (.blk b9 (enc (TurnR.mk ({ Turn.zero with Want := ([] : List (List Int)), Log := ([] : List Int), Told := ([] : List Int) } : Turn) Sl.nil Sl.nil Sl.nil)) 59) :: (.own Sl.nil 3 1 (encs ([] : List Int))) :: (.own Sl.nil 3 1 (encs ([] : List Int))) :: (.own Sl.nil 36 1 (encs ([] : List (LR Int)))) :: (.blk b3 (enc a1) 61) :: (.blk b1 (enc (TurnR.mk a0 s_a0_2 s_a0_3 s_a0_4)) 59) :: L) (fun Fx (y68, l69, rs70, s72, l73) => .inl (y68, l69, l73) = o74 ∧ rs70.map LR.v = l69) ?_ ?_
 ·refine Cd.seq ?_
  refine Cd.region ?_
  refine Lst.r (Ev.fieldAddr (off' := 0) rfl Try.runUnderlying61 rfl Try.sizeOf3 rfl rfl) ?_
  refine Lst.r (Ev.load (i := 12) rfl rfl Try.isAgg3 (v := iv a1.Kind) ((Beat.get_Kind (Get.here _)).off (by rfl))) ?_
  refine Lst.nil ?_
  refine At.then ?_
  refine Cd.block ?_
  refine Cd.seq ?_
  refine Cd.region ?_
  refine Lst.r (Ev.eql rfl rfl) ?_
  refine Lst.r (Ev.assign rfl) ?_
  refine Lst.nil ?_
  refine At.then ?_
  rcases Bool.eq_false_or_eq_true (a1.Kind == (1 : Int)) with hb75 | hb75
  ·replace H := ite_t hb75 H
   refine Cd.condT rfl hb75 ?_
   refine Cd.seq ?_
   refine Cd.seq ?_
   refine Cd.quiet (by kernel_rfl) (by kernel_rfl) ?_
   refine Qt.r (Ev.fieldAddr (off' := 3) rfl Try.runUnderlying59 rfl Try.sizeOf36 rfl rfl) ?_
   refine Qt.r (Ev.load (i := 13) rfl rfl Try.isAgg36 (v := Sl.v s_a0_3) ((TurnR.get_Log (Get.here _)).off (by rfl))) ?_
   refine Qt.r (Ev.fieldAddr (off' := 2) rfl Try.runUnderlying61 rfl Try.sizeOf3 rfl rfl) ?_
   refine Qt.r (Ev.load (i := 12) rfl rfl Try.isAgg3 (v := iv a1.N) ((Beat.get_N (Get.here _)).off (by rfl))) ?_
   obtain ⟨r76, h77, H⟩ := bind_some H
   refine Qt.call rfl rfl (by decide) (vs := [Sl.v s_a0_3, iv a1.N]) ⟨rfl, rfl, trivial⟩ Try.call50 (slices_Contains_int_int_sim h77 w0 _ M _ (sc8 (sc4 (sc2 hM))) (hs_a0_3.mono (FLe.trans (FLe.trans hF33 hF42) hF61) (.refl _))) ?_
   refine Qt.r (Ev.move rfl) ?_
   obtain ⟨o80, H, HKo80⟩ := bind_some H
   refine Qt.join (σ := Bool) 10 (fun y81 => [(3, pv b3 0), (4, pv b9 0), (8, pv b66 0), (86, .bool y81)]) (fun y81 => y81 = o80) ?_ ?_
   ·rcases Bool.eq_false_or_eq_true r76 with hb82 | hb82
    ·replace H := ite_t hb82 H
     refine Qt.skip rfl rfl rfl hb82 rfl (by decide) ?_
     refine Qt.skip rfl rfl rfl hb82 rfl (by decide) ?_
     refine Qt.skip rfl rfl rfl hb82 rfl (by decide) ?_
     refine Qt.skip rfl rfl rfl hb82 rfl (by decide) ?_
     refine Qt.skip rfl rfl rfl hb82 rfl (by decide) ?_
     refine Qt.skip rfl rfl rfl hb82 rfl (by decide) ?_
     refine Qt.skip rfl rfl rfl hb82 rfl (by decide) ?_
     refine Qt.skip rfl rfl rfl hb82 rfl (by decide) ?_
     refine Qt.skip rfl rfl rfl hb82 rfl (by decide) ?_
     refine Qt.r (Ev.pickT rfl hb82 rfl) ?_
     exact Qt.meet true ⟨rfl, rfl, rfl, rfl, trivial⟩ (some_inj H)
    replace H := ite_f hb82 H
    refine Qt.rG hb82 (Ev.fieldAddr (off' := 2) rfl Try.runUnderlying59 rfl Try.sizeOf57 rfl rfl) ?_
    refine Qt.rG hb82 (Ev.load (i := 13) rfl rfl Try.isAgg57 (v := Sl.v s_a0_2) ((TurnR.get_Want (Get.here _)).off (by rfl))) ?_
    refine Qt.rG hb82 (Ev.fieldAddr (off' := 1) rfl Try.runUnderlying61 rfl Try.sizeOf3 rfl rfl) ?_
    refine Qt.rG hb82 (Ev.load (i := 12) rfl rfl Try.isAgg3 (v := iv a1.Who) ((Beat.get_Who (Get.here _)).off (by rfl))) ?_
    obtain ⟨x83, h84, H⟩ := bind_some H
    have g85 := lat_some h84
    obtain ⟨⟨r86v, r86h⟩, r86g, r86e, r86m⟩ := map_get hm_a0_2 g85.2.2
    obtain rfl : x83 = r86v := r86e.symm
    have r86q : Rd w0 _ _ r86h x83 := ha_a0_2 _ r86m
    refine Qt.rG hb82 (Ev.indexS (α := LR Int) (xs := rs_a0_2) rfl rfl Try.runUnderlying57 Try.sizeOf36 rfl (by decide) (hs_a0_2.mono (FLe.trans (FLe.trans hF33 hF42) hF61) (sc8 (sc4 (sc2 hM)))) g85.1 (by have := map_len hm_a0_2; omega)) ?_
    refine Qt.rG hb82 (Ev.loadS (α := LR Int) rfl (hs_a0_2.mono (FLe.trans (FLe.trans hF33 hF42) hF61) (sc8 (sc4 (sc2 hM)))) Try.isAgg36 (v := Sl.v r86h) ((Get.elemN (s := 1) rfl r86g (Get.here _)).off (by omega))) ?_
    refine Qt.rG hb82 (Ev.fieldAddr (off' := 2) rfl Try.runUnderlying61 rfl Try.sizeOf3 rfl rfl) ?_
    refine Qt.rG hb82 (Ev.load (i := 12) rfl rfl Try.isAgg3 (v := iv a1.N) ((Beat.get_N (Get.here _)).off (by rfl))) ?_
    obtain ⟨r87, h88, H⟩ := bind_some H
    refine Qt.callG rfl rfl rfl hb82 rfl (by decide) (vs := [Sl.v r86h, iv a1.N]) ⟨rfl, rfl, trivial⟩ Try.call50 (slices_Contains_int_int_sim h88 w0 _ M _ (sc8 (sc4 (sc2 hM))) (r86q.mono (FLe.trans (FLe.trans hF33 hF42) hF61) (.refl _))) ?_
    refine Qt.r (Ev.pickF rfl hb82 rfl) ?_
    exact Qt.meet r87 ⟨rfl, rfl, rfl, rfl, trivial⟩ (some_inj H)
   rintro y81 hy
   subst hy
   refine Qt.as (e' := [(3, pv b3 0), (4, pv b9 0), (8, pv b66 0), (86, .bool y81)]) ⟨rfl, rfl, rfl, rfl, trivial⟩ ?_
   replace H := HKo80
   refine Qt.done ?_
   refine At.then ?_
   rcases Bool.eq_false_or_eq_true y81 with hb91 | hb91
   ·replace H := ite_t hb91 H
    refine Cd.condT rfl hb91 ?_
    refine Cd.seq ?_
    refine Cd.region ?_
    refine Lst.r (Ev.build (v := .agg (enc (TurnR.mk Turn.zero Sl.nil Sl.nil Sl.nil)).toArray) (pv := []) trivial (fun w => by kernel_rfl)) ?_
    refine Lst.store (i := 8) rfl rfl rfl rfl rfl Try.sizeOf59 (vs := enc (TurnR.mk Turn.zero Sl.nil Sl.nil Sl.nil)) rfl (Enc.len _) (Enc.one _) (cs' := enc (TurnR.mk Turn.zero Sl.nil Sl.nil Sl.nil)) (Put.here ((Enc.len _).trans (Enc.len _).symm)) (L' := (.blk b66 (enc (TurnR.mk r49 s51 s56 s58)) 59) :: (.own Sl.nil 3 1 (encs ([] : List Int))) :: (.own Sl.nil 3 1 (encs ([] : List Int))) :: (.own Sl.nil 36 1 (encs ([] : List (LR Int)))) :: (.rows (α := Int) 3 rs52) :: (.own s51 36 1 (encs rs52)) :: (.own s56 3 1 (encs r49.Log)) :: (.own s58 3 1 (encs r49.Told)) :: (.blk b9 (enc (TurnR.mk Turn.zero Sl.nil Sl.nil Sl.nil)) 59) :: (.own Sl.nil 3 1 (encs ([] : List Int))) :: (.own Sl.nil 3 1 (encs ([] : List Int))) :: (.own Sl.nil 36 1 (encs ([] : List (LR Int)))) :: (.blk b3 (enc a1) 61) :: (.blk b1 (enc (TurnR.mk a0 s_a0_2 s_a0_3 s_a0_4)) 59) :: L) rfl ?_
    refine Lst.r (Ev.assign rfl) ?_
    refine Lst.r (Ev.assign rfl) ?_
    refine Lst.nil ?_
    refine At.then ?_
    obtain rfl := some_inj H
    replace H := HKo74
    obtain rfl := some_inj H
    refine Cd.ret ?_
    refine At.then_ret ?_
    refine At.in_ret ?_
    refine At.then_ret ?_
    have ha94m : List.map LR.v ([] : List (LR Int)) = ([] : List (List Int)) := rfl
    refine At.addNil 36 1 ?_
    refine At.rowsNil Int 3 0 ?_
    refine At.its (L' := (.rows (α := Int) 3 ([] : List (LR Int))) :: (.own Sl.nil 36 1 (encs ([] : List (LR Int)))) :: (.blk b66 (enc (TurnR.mk r49 s51 s56 s58)) 59) :: (.own Sl.nil 3 1 (encs ([] : List Int))) :: (.own Sl.nil 3 1 (encs ([] : List Int))) :: (.own Sl.nil 36 1 (encs ([] : List (LR Int)))) :: (.rows (α := Int) 3 rs52) :: (.own s51 36 1 (encs rs52)) :: (.own s56 3 1 (encs r49.Log)) :: (.own s58 3 1 (encs r49.Told)) :: (.blk b9 (enc (TurnR.mk Turn.zero Sl.nil Sl.nil Sl.nil)) 59) :: (.own Sl.nil 3 1 (encs ([] : List Int))) :: (.own Sl.nil 3 1 (encs ([] : List Int))) :: (.own Sl.nil 36 1 (encs ([] : List (LR Int)))) :: (.blk b3 (enc a1) 61) :: (.blk b1 (enc (TurnR.mk a0 s_a0_2 s_a0_3 s_a0_4)) 59) :: L) rfl ?_
    refine At.addNil 3 1 ?_
    refine At.addNil 3 1 ?_
    refine At.front (i := 1) rfl rfl ?_
    refine At.front (i := 3) rfl rfl ?_
    refine At.front (i := 3) rfl (L' := (.rows (α := Int) 3 ([] : List (LR Int))) :: (.own Sl.nil 36 1 (encs ([] : List (LR Int)))) :: (.own Sl.nil 3 1 (encs ([] : List Int))) :: (.own Sl.nil 3 1 (encs ([] : List Int))) :: (.blk b66 (enc (TurnR.mk r49 s51 s56 s58)) 59) :: (.own Sl.nil 3 1 (encs ([] : List Int))) :: (.own Sl.nil 3 1 (encs ([] : List Int))) :: (.own Sl.nil 36 1 (encs ([] : List (LR Int)))) :: (.rows (α := Int) 3 rs52) :: (.own s51 36 1 (encs rs52)) :: (.own s56 3 1 (encs r49.Log)) :: (.own s58 3 1 (encs r49.Told)) :: (.blk b9 (enc (TurnR.mk ({ Turn.zero with Want := ([] : List (List Int)), Log := ([] : List Int), Told := ([] : List Int) } : Turn) Sl.nil Sl.nil Sl.nil)) 59) :: (.own Sl.nil 3 1 (encs ([] : List Int))) :: (.own Sl.nil 3 1 (encs ([] : List Int))) :: (.own Sl.nil 36 1 (encs ([] : List (LR Int)))) :: (.blk b3 (enc a1) 61) :: (.blk b1 (enc (TurnR.mk a0 s_a0_2 s_a0_3 s_a0_4)) 59) :: L) rfl ?_
    exact At.ret3 rfl (Res.cellA (i := 12) rfl rfl Try.isAgg59 Try.sizeOf59 (Enc.len _)) (Res.tmp rfl) (Res.tmp rfl) (FLe.trans (FLe.trans hF33 hF42) hF61) (sk1 (sk1 (sk1 (sk1 (sc1 (sc1 (sc1 (sc1 (sc1 (sc1 (sc1 (sc1 (sc1 (sc1 (sc1 (sc1 (sc1 (sc1 (.refl _))))))))))))))))))) ⟨Sl.nil, ([] : List (LR Int)), Sl.nil, Sl.nil, rfl, rfl, ha94m⟩
   replace H := ite_f hb91 H
   refine Cd.condF rfl hb91 ?_
   refine Cd.skip ?_
   refine At.then ?_
   obtain ⟨x97, h98, H⟩ := bind_some H
   obtain ⟨u105, h106, H⟩ := bind_some H
   obtain ⟨o111, h112, H⟩ := Let_some H
   refine Cd.headMeet (σ := Sl × (List Int)) 14 (fun (s109, l110) => [(4, pv b9 0), (8, pv b66 0), (89, Sl.v s51), (91, iv a1.Who), (101, Sl.v s109)]) (fun (s109, l110) => (.own s109 3 1 (encs l110)) :: (.rows (α := Int) 3 (rs52.set a1.Who.toNat ⟨[], Sl.nil⟩)) :: (.blk b66 (enc (TurnR.mk r49 s51 s56 s58)) 59) :: (.own Sl.nil 3 1 (encs ([] : List Int))) :: (.own Sl.nil 3 1 (encs ([] : List Int))) :: (.own Sl.nil 36 1 (encs ([] : List (LR Int)))) :: (.own s51 36 1 (encs rs52)) :: (.own s56 3 1 (encs r49.Log)) :: (.own s58 3 1 (encs r49.Told)) :: (.blk b9 (enc (TurnR.mk ({ Turn.zero with Want := ([] : List (List Int)), Log := ([] : List Int), Told := ([] : List Int) } : Turn) Sl.nil Sl.nil Sl.nil)) 59) :: (.own Sl.nil 3 1 (encs ([] : List Int))) :: (.own Sl.nil 3 1 (encs ([] : List Int))) :: (.own Sl.nil 36 1 (encs ([] : List (LR Int)))) :: (.blk b3 (enc a1) 61) :: (.blk b1 (enc (TurnR.mk a0 s_a0_2 s_a0_3 s_a0_4)) 59) :: L) (fun _ (s109, l110) => l110 = o111) (by kernel_rfl) (by kernel_rfl) (behind_sink (by kernel_rfl) (by kernel_rfl) (by kernel_rfl)) (by kernel_rfl) (fun hsel hlt => ?_) ?_
   ·refine HdJ.keep (fun w => St w0 F60 ((.blk b66 (enc (TurnR.mk r49 s51 s56 s58)) 59) :: (.own Sl.nil 3 1 (encs ([] : List Int))) :: (.own Sl.nil 3 1 (encs ([] : List Int))) :: (.own Sl.nil 36 1 (encs ([] : List (LR Int)))) :: (.own s51 36 1 (encs rs52)) :: (.own s56 3 1 (encs r49.Log)) :: (.own s58 3 1 (encs r49.Told)) :: (.blk b9 (enc (TurnR.mk ({ Turn.zero with Want := ([] : List (List Int)), Log := ([] : List Int), Told := ([] : List Int) } : Turn) Sl.nil Sl.nil Sl.nil)) 59) :: (.own Sl.nil 3 1 (encs ([] : List Int))) :: (.own Sl.nil 3 1 (encs ([] : List Int))) :: (.own Sl.nil 36 1 (encs ([] : List (LR Int)))) :: (.blk b3 (enc a1) 61) :: (.blk b1 (enc (TurnR.mk a0 s_a0_2 s_a0_3 s_a0_4)) 59) :: L) w) (fun w h => trivial) ?_
    refine HdJ.tk hsel hlt 0 (fun w h => h.sublist (sk1 (sk1 (sk1 (sk1 (sc1 (sk1 (sk1 (sk1 (sk1 (sk1 (sk1 (sk1 (sk1 (sk1 (.refl _)))))))))))))))) rfl (Ev.fieldAddr (off' := 2) rfl Try.runUnderlying59 rfl Try.sizeOf57 rfl rfl) ?_
    refine HdJ.tk hsel hlt 1 (fun w h => h.sublist (sk1 (sk1 (sk1 (sk1 (sc1 (sk1 (sk1 (sk1 (sk1 (sk1 (sk1 (sk1 (sk1 (sk1 (.refl _)))))))))))))))) rfl (Ev.load (i := 0) rfl rfl Try.isAgg57 (v := Sl.v s51) ((TurnR.get_Want (Get.here _)).off (by rfl))) ?_
    refine HdJ.tk hsel hlt 2 (fun w h => h.sublist (sk1 (sk1 (sk1 (sk1 (sc1 (sk1 (sk1 (sk1 (sk1 (sk1 (sk1 (sk1 (sk1 (sk1 (.refl _)))))))))))))))) rfl (Ev.fieldAddr (off' := 1) rfl Try.runUnderlying61 rfl Try.sizeOf3 rfl rfl) ?_
    refine HdJ.tk hsel hlt 3 (fun w h => h.sublist (sk1 (sk1 (sk1 (sk1 (sc1 (sk1 (sk1 (sk1 (sk1 (sk1 (sk1 (sk1 (sk1 (sk1 (.refl _)))))))))))))))) rfl (Ev.load (i := 11) rfl rfl Try.isAgg3 (v := iv a1.Who) ((Beat.get_Who (Get.here _)).off (by rfl))) ?_
    refine HdJ.tk hsel hlt 4 (fun w h => h.sublist (sk1 (sk1 (sk1 (sk1 (sc1 (sk1 (sk1 (sk1 (sk1 (sk1 (sk1 (sk1 (sk1 (sk1 (.refl _)))))))))))))))) rfl (Ev.fieldAddr (off' := 2) rfl Try.runUnderlying59 rfl Try.sizeOf57 rfl rfl) ?_
    refine HdJ.tk hsel hlt 5 (fun w h => h.sublist (sk1 (sk1 (sk1 (sk1 (sc1 (sk1 (sk1 (sk1 (sk1 (sk1 (sk1 (sk1 (sk1 (sk1 (.refl _)))))))))))))))) rfl (Ev.load (i := 0) rfl rfl Try.isAgg57 (v := Sl.v s51) ((TurnR.get_Want (Get.here _)).off (by rfl))) ?_
    refine HdJ.tk hsel hlt 6 (fun w h => h.sublist (sk1 (sk1 (sk1 (sk1 (sc1 (sk1 (sk1 (sk1 (sk1 (sk1 (sk1 (sk1 (sk1 (sk1 (.refl _)))))))))))))))) rfl (Ev.fieldAddr (off' := 1) rfl Try.runUnderlying61 rfl Try.sizeOf3 rfl rfl) ?_
    refine HdJ.tk hsel hlt 7 (fun w h => h.sublist (sk1 (sk1 (sk1 (sk1 (sc1 (sk1 (sk1 (sk1 (sk1 (sk1 (sk1 (sk1 (sk1 (sk1 (.refl _)))))))))))))))) rfl (Ev.load (i := 11) rfl rfl Try.isAgg3 (v := iv a1.Who) ((Beat.get_Who (Get.here _)).off (by rfl))) ?_
    have g113 := lat_some h98
    obtain ⟨⟨r114v, r114h⟩, r114g, r114e, r114m⟩ := map_get fm53 g113.2.2
    obtain rfl : x97 = r114v := r114e.symm
    have hh115 := row_h r114g
    refine HdJ.tk hsel hlt 8 (fun w h => h.sublist (sk1 (sk1 (sk1 (sk1 (sc1 (sk1 (sk1 (sk1 (sk1 (sk1 (sk1 (sk1 (sk1 (sk1 (.refl _)))))))))))))))) rfl (Ev.indexS (α := LR Int) (xs := rs52) rfl rfl Try.runUnderlying57 Try.sizeOf36 rfl (by decide) (Rd.own (i := 4) rfl rfl rfl) g113.1 (by have := map_len fm53; omega)) ?_
    refine HdJ.tk hsel hlt 9 (fun w h => h.sublist (sk1 (sk1 (sk1 (sk1 (sc1 (sk1 (sk1 (sk1 (sk1 (sk1 (sk1 (sk1 (sk1 (sk1 (.refl _)))))))))))))))) rfl (Ev.loadS (α := LR Int) rfl (Rd.own (i := 4) rfl rfl rfl) Try.isAgg36 (v := Sl.v r114h) ((Get.elemN (s := 1) rfl r114g (Get.here _)).off (by omega))) ?_
    refine HdJ.tk hsel hlt 10 (fun w h => h.sublist (sk1 (sk1 (sk1 (sk1 (sc1 (sk1 (sk1 (sk1 (sk1 (sk1 (sk1 (sk1 (sk1 (sk1 (.refl _)))))))))))))))) rfl (Ev.fieldAddr (off' := 2) rfl Try.runUnderlying61 rfl Try.sizeOf3 rfl rfl) ?_
    refine HdJ.tk hsel hlt 11 (fun w h => h.sublist (sk1 (sk1 (sk1 (sk1 (sc1 (sk1 (sk1 (sk1 (sk1 (sk1 (sk1 (sk1 (sk1 (sk1 (.refl _)))))))))))))))) rfl (Ev.load (i := 11) rfl rfl Try.isAgg3 (v := iv a1.N) ((Beat.get_N (Get.here _)).off (by rfl))) ?_
    refine HdJ.step [12] (by kernel_rfl) rfl ?_
    refine HdStep.c (fun inv => ?_) ?_
    ·refine Lst.buildSlice (α := Int) (xs := ([a1.N] : List Int)) (pv := [(0, iv a1.N)]) rfl rfl (by decide) ⟨rfl, rfl, trivial⟩ (run_buildSlice (α := Int) (z0 := (0 : Int)) (xs := ([a1.N] : List Int)) Try.runUnderlying36 Try.sizeOf3 Try.zeroValue3 rfl rfl rfl (by decide) rfl (fill_cons (cs := encs (List.replicate 1 (0 : Int))) (cs' := encs ((List.replicate 1 (0 : Int)).set 0 a1.N)) (vs := [iv a1.N]) rfl rfl rfl ((Put.elemN (s := 1) (i := 0) (x := (0 : Int)) (y := a1.N) rfl rfl (Put.here (vs := [iv a1.N]) rfl)).off rfl) fill_nil)) rfl rfl (by decide) (fun s116 _ => ?_)
     refine Lst.nil ?_
     refine At.hd inv (fun w h => (h.weaken (FLe.refl _)).sublist (sc1 (sk1 (sk1 (sk1 (sk1 (sc1 (sk1 (sk1 (sk1 (sk1 (sk1 (sk1 (sk1 (sk1 (sk1 (.refl _))))))))))))))))) ?_
     refine HdJ.step [13] (by kernel_rfl) rfl ?_
     refine HdStep.c (fun inv => ?_) ?_
     ·refine Lst.front (i := 5) rfl (L' := (.rows (α := Int) 3 rs52) :: (.own s116 3 1 (encs ([a1.N] : List Int))) :: (.blk b66 (enc (TurnR.mk r49 s51 s56 s58)) 59) :: (.own Sl.nil 3 1 (encs ([] : List Int))) :: (.own Sl.nil 3 1 (encs ([] : List Int))) :: (.own Sl.nil 36 1 (encs ([] : List (LR Int)))) :: (.own s51 36 1 (encs rs52)) :: (.own s56 3 1 (encs r49.Log)) :: (.own s58 3 1 (encs r49.Told)) :: (.blk b9 (enc (TurnR.mk ({ Turn.zero with Want := ([] : List (List Int)), Log := ([] : List Int), Told := ([] : List Int) } : Turn) Sl.nil Sl.nil Sl.nil)) 59) :: (.own Sl.nil 3 1 (encs ([] : List Int))) :: (.own Sl.nil 3 1 (encs ([] : List Int))) :: (.own Sl.nil 36 1 (encs ([] : List (LR Int)))) :: (.blk b3 (enc a1) 61) :: (.blk b1 (enc (TurnR.mk a0 s_a0_2 s_a0_3 s_a0_4)) 59) :: L) rfl ?_
      refine Lst.rowOut (k := a1.Who.toNat) r114g rfl ?_
      refine Lst.its (L' := (.own r114h 3 1 (encs x97)) :: (.rows (α := Int) 3 (rs52.set a1.Who.toNat ⟨[], Sl.nil⟩)) :: (.own s116 3 1 (encs ([a1.N] : List Int))) :: (.blk b66 (enc (TurnR.mk r49 s51 s56 s58)) 59) :: (.own Sl.nil 3 1 (encs ([] : List Int))) :: (.own Sl.nil 3 1 (encs ([] : List Int))) :: (.own Sl.nil 36 1 (encs ([] : List (LR Int)))) :: (.own s51 36 1 (encs rs52)) :: (.own s56 3 1 (encs r49.Log)) :: (.own s58 3 1 (encs r49.Told)) :: (.blk b9 (enc (TurnR.mk ({ Turn.zero with Want := ([] : List (List Int)), Log := ([] : List Int), Told := ([] : List Int) } : Turn) Sl.nil Sl.nil Sl.nil)) 59) :: (.own Sl.nil 3 1 (encs ([] : List Int))) :: (.own Sl.nil 3 1 (encs ([] : List Int))) :: (.own Sl.nil 36 1 (encs ([] : List (LR Int)))) :: (.blk b3 (enc a1) 61) :: (.blk b1 (enc (TurnR.mk a0 s_a0_2 s_a0_3 s_a0_4)) 59) :: L) rfl ?_
      refine Lst.append (i := 0) (α := Int) (xs := x97) (ys := ([a1.N] : List Int)) rfl rfl (by decide) rfl rfl Try.runUnderlying36 Try.typeInfo3 rfl rfl rfl rfl rfl rfl (Rd.own (i := 2) rfl rfl rfl) rfl (room_some h106) rfl (fun s117 => ?_)
      refine Lst.its (L' := (.own s117 3 1 (encs (x97 ++ ([a1.N] : List Int)))) :: (.rows (α := Int) 3 (rs52.set a1.Who.toNat ⟨[], Sl.nil⟩)) :: (.own s116 3 1 (encs ([a1.N] : List Int))) :: (.blk b66 (enc (TurnR.mk r49 s51 s56 s58)) 59) :: (.own Sl.nil 3 1 (encs ([] : List Int))) :: (.own Sl.nil 3 1 (encs ([] : List Int))) :: (.own Sl.nil 36 1 (encs ([] : List (LR Int)))) :: (.own s51 36 1 (encs rs52)) :: (.own s56 3 1 (encs r49.Log)) :: (.own s58 3 1 (encs r49.Told)) :: (.blk b9 (enc (TurnR.mk ({ Turn.zero with Want := ([] : List (List Int)), Log := ([] : List Int), Told := ([] : List Int) } : Turn) Sl.nil Sl.nil Sl.nil)) 59) :: (.own Sl.nil 3 1 (encs ([] : List Int))) :: (.own Sl.nil 3 1 (encs ([] : List Int))) :: (.own Sl.nil 36 1 (encs ([] : List (LR Int)))) :: (.blk b3 (enc a1) 61) :: (.blk b1 (enc (TurnR.mk a0 s_a0_2 s_a0_3 s_a0_4)) 59) :: L) rfl ?_
      refine Lst.nil ?_
      refine At.hd inv (fun w h => (h.weaken (FLe.refl _)).sublist (sc1 (sc1 (sc1 (sk1 (sk1 (sk1 (sk1 (sk1 (sk1 (sk1 (sk1 (sk1 (sk1 (sk1 (sk1 (sk1 (.refl _)))))))))))))))))) ?_
      refine HdJ.done (by kernel_rfl) ?_
      refine At.less (L' := (.own s117 3 1 (encs (x97 ++ ([a1.N] : List Int)))) :: (.rows (α := Int) 3 (rs52.set a1.Who.toNat ⟨[], Sl.nil⟩)) :: (.blk b66 (enc (TurnR.mk r49 s51 s56 s58)) 59) :: (.own Sl.nil 3 1 (encs ([] : List Int))) :: (.own Sl.nil 3 1 (encs ([] : List Int))) :: (.own Sl.nil 36 1 (encs ([] : List (LR Int)))) :: (.own s51 36 1 (encs rs52)) :: (.own s56 3 1 (encs r49.Log)) :: (.own s58 3 1 (encs r49.Told)) :: (.blk b9 (enc (TurnR.mk ({ Turn.zero with Want := ([] : List (List Int)), Log := ([] : List Int), Told := ([] : List Int) } : Turn) Sl.nil Sl.nil Sl.nil)) 59) :: (.own Sl.nil 3 1 (encs ([] : List Int))) :: (.own Sl.nil 3 1 (encs ([] : List Int))) :: (.own Sl.nil 36 1 (encs ([] : List (LR Int)))) :: (.blk b3 (enc a1) 61) :: (.blk b1 (enc (TurnR.mk a0 s_a0_2 s_a0_3 s_a0_4)) 59) :: L) (sk1 (sk1 (sc1 (sk1 (sk1 (sk1 (sk1 (sk1 (sk1 (sk1 (sk1 (sk1 (sk1 (sk1 (sk1 (sk1 (.refl _))))))))))))))))) ?_
      exact At.meetN (s117, x97 ++ ([a1.N] : List Int)) (FLe.refl _) ⟨rfl, rfl, rfl, rfl, rfl, trivial⟩ rfl h112
     exact trivial
    exact trivial
   rintro F118 ⟨s109, l110⟩ hF119 hy
   subst hy
   refine Lst.as (e' := [(4, pv b9 0), (8, pv b66 0), (89, Sl.v s51), (91, iv a1.Who), (101, Sl.v s109)]) (L' := (.own s109 3 1 (encs l110)) :: (.rows (α := Int) 3 (rs52.set a1.Who.toNat ⟨[], Sl.nil⟩)) :: (.blk b66 (enc (TurnR.mk r49 s51 s56 s58)) 59) :: (.own Sl.nil 3 1 (encs ([] : List Int))) :: (.own Sl.nil 3 1 (encs ([] : List Int))) :: (.own Sl.nil 36 1 (encs ([] : List (LR Int)))) :: (.own s51 36 1 (encs rs52)) :: (.own s56 3 1 (encs r49.Log)) :: (.own s58 3 1 (encs r49.Told)) :: (.blk b9 (enc (TurnR.mk ({ Turn.zero with Want := ([] : List (List Int)), Log := ([] : List Int), Told := ([] : List Int) } : Turn) Sl.nil Sl.nil Sl.nil)) 59) :: (.own Sl.nil 3 1 (encs ([] : List Int))) :: (.own Sl.nil 3 1 (encs ([] : List Int))) :: (.own Sl.nil 36 1 (encs ([] : List (LR Int)))) :: (.blk b3 (enc a1) 61) :: (.blk b1 (enc (TurnR.mk a0 s_a0_2 s_a0_3 s_a0_4)) 59) :: L) ⟨rfl, rfl, rfl, rfl, rfl, trivial⟩ rfl ?_
   obtain ⟨x120, h121, H⟩ := bind_some H
   have g122 := lat_some h121
   obtain ⟨⟨r123v, r123h⟩, r123g, r123e, r123m⟩ := map_get fm53 g122.2.2
   obtain rfl : x120 = r123v := r123e.symm
   have hh124 := row_h r123g
   refine Lst.r (Ev.indexS (α := LR Int) (xs := rs52) rfl rfl Try.runUnderlying57 Try.sizeOf36 rfl (by decide) (Rd.own (i := 6) rfl rfl rfl) g122.1 (by have := map_len fm53; omega)) ?_
   obtain ⟨p125, h126, H⟩ := Let_some H
   have hm127 : (rs52.set a1.Who.toNat (LR.mk l110 s109)).map LR.v = p125 := (map_set fm53 _ _).trans h126
   refine Lst.storeS (i := 6) rfl rfl rfl rfl rfl Try.sizeOf36 (vs := [Sl.v s109]) rfl rfl (by decide) rfl (xs' := encs (rs52.set a1.Who.toNat (LR.mk l110 s109))) ((Put.elemN (s := 1) (y := (LR.mk l110 s109)) rfl r123g (Put.here (vs := [Sl.v s109]) rfl)).off (by omega)) (L' := (.own s109 3 1 (encs l110)) :: (.rows (α := Int) 3 (rs52.set a1.Who.toNat ⟨[], Sl.nil⟩)) :: (.blk b66 (enc (TurnR.mk ({ r49 with Want := p125 } : Turn) s51 s56 s58)) 59) :: (.own Sl.nil 3 1 (encs ([] : List Int))) :: (.own Sl.nil 3 1 (encs ([] : List Int))) :: (.own Sl.nil 36 1 (encs ([] : List (LR Int)))) :: (.own s51 36 1 (encs (rs52.set a1.Who.toNat (LR.mk l110 s109)))) :: (.own s56 3 1 (encs r49.Log)) :: (.own s58 3 1 (encs r49.Told)) :: (.blk b9 (enc (TurnR.mk ({ Turn.zero with Want := ([] : List (List Int)), Log := ([] : List Int), Told := ([] : List Int) } : Turn) Sl.nil Sl.nil Sl.nil)) 59) :: (.own Sl.nil 3 1 (encs ([] : List Int))) :: (.own Sl.nil 3 1 (encs ([] : List Int))) :: (.own Sl.nil 36 1 (encs ([] : List (LR Int)))) :: (.blk b3 (enc a1) 61) :: (.blk b1 (enc (TurnR.mk a0 s_a0_2 s_a0_3 s_a0_4)) 59) :: L) rfl ?_
   refine Lst.rowIn (k := a1.Who.toNat) (by rw [List.getElem?_set_self (List.getElem?_eq_some_iff.1 r123g).1]) rfl ?_
   refine Lst.its (L' := (.rows (α := Int) 3 (rs52.set a1.Who.toNat (LR.mk l110 s109))) :: (.blk b66 (enc (TurnR.mk ({ r49 with Want := p125 } : Turn) s51 s56 s58)) 59) :: (.own Sl.nil 3 1 (encs ([] : List Int))) :: (.own Sl.nil 3 1 (encs ([] : List Int))) :: (.own Sl.nil 36 1 (encs ([] : List (LR Int)))) :: (.own s51 36 1 (encs (rs52.set a1.Who.toNat (LR.mk l110 s109)))) :: (.own s56 3 1 (encs r49.Log)) :: (.own s58 3 1 (encs r49.Told)) :: (.blk b9 (enc (TurnR.mk ({ Turn.zero with Want := ([] : List (List Int)), Log := ([] : List Int), Told := ([] : List Int) } : Turn) Sl.nil Sl.nil Sl.nil)) 59) :: (.own Sl.nil 3 1 (encs ([] : List Int))) :: (.own Sl.nil 3 1 (encs ([] : List Int))) :: (.own Sl.nil 36 1 (encs ([] : List (LR Int)))) :: (.blk b3 (enc a1) 61) :: (.blk b1 (enc (TurnR.mk a0 s_a0_2 s_a0_3 s_a0_4)) 59) :: L) (by rw [List.set_set]) ?_
   refine Lst.nil ?_
   refine At.in_normal ?_
   refine At.front (i := 4) rfl rfl ?_
   refine At.front (i := 4) rfl rfl ?_
   refine At.front (i := 4) rfl (L' := (.own Sl.nil 3 1 (encs ([] : List Int))) :: (.own Sl.nil 3 1 (encs ([] : List Int))) :: (.own Sl.nil 36 1 (encs ([] : List (LR Int)))) :: (.rows (α := Int) 3 (rs52.set a1.Who.toNat (LR.mk l110 s109))) :: (.blk b66 (enc (TurnR.mk ({ r49 with Want := p125 } : Turn) s51 s56 s58)) 59) :: (.own s51 36 1 (encs (rs52.set a1.Who.toNat (LR.mk l110 s109)))) :: (.own s56 3 1 (encs r49.Log)) :: (.own s58 3 1 (encs r49.Told)) :: (.blk b9 (enc (TurnR.mk ({ Turn.zero with Want := ([] : List (List Int)), Log := ([] : List Int), Told := ([] : List Int) } : Turn) Sl.nil Sl.nil Sl.nil)) 59) :: (.own Sl.nil 3 1 (encs ([] : List Int))) :: (.own Sl.nil 3 1 (encs ([] : List Int))) :: (.own Sl.nil 36 1 (encs ([] : List (LR Int)))) :: (.blk b3 (enc a1) 61) :: (.blk b1 (enc (TurnR.mk a0 s_a0_2 s_a0_3 s_a0_4)) 59) :: L) rfl ?_
   refine At.front (i := 4) rfl (L' := (.blk b66 (enc (TurnR.mk ({ r49 with Want := p125 } : Turn) s51 s56 s58)) 59) :: (.own Sl.nil 3 1 (encs ([] : List Int))) :: (.own Sl.nil 3 1 (encs ([] : List Int))) :: (.own Sl.nil 36 1 (encs ([] : List (LR Int)))) :: (.rows (α := Int) 3 (rs52.set a1.Who.toNat (LR.mk l110 s109))) :: (.own s51 36 1 (encs (rs52.set a1.Who.toNat (LR.mk l110 s109)))) :: (.own s56 3 1 (encs r49.Log)) :: (.own s58 3 1 (encs r49.Told)) :: (.blk b9 (enc (TurnR.mk ({ Turn.zero with Want := ([] : List (List Int)), Log := ([] : List Int), Told := ([] : List Int) } : Turn) Sl.nil Sl.nil Sl.nil)) 59) :: (.own Sl.nil 3 1 (encs ([] : List Int))) :: (.own Sl.nil 3 1 (encs ([] : List Int))) :: (.own Sl.nil 36 1 (encs ([] : List (LR Int)))) :: (.blk b3 (enc a1) 61) :: (.blk b1 (enc (TurnR.mk a0 s_a0_2 s_a0_3 s_a0_4)) 59) :: L) rfl ?_
   exact At.meet (({ r49 with Want := p125 } : Turn), p125, (rs52.set a1.Who.toNat (LR.mk l110 s109)), s56, r49.Log) hF119 ⟨rfl, rfl, trivial⟩ rfl ⟨some_inj H, hm127⟩
  replace H := ite_f hb75 H
  refine Cd.condF rfl hb75 ?_
  refine Cd.seq ?_
  refine Cd.region ?_
  refine Lst.r (Ev.eql rfl rfl) ?_
  refine Lst.r (Ev.assign rfl) ?_
  refine Lst.nil ?_
  refine At.then ?_
  rcases (Bool.eq_false_or_eq_true (a1.Kind == (2 : Int))).symm with hb128 | hb128
  ·replace H := ite_f hb128 H
   refine Cd.condF rfl hb128 ?_
   refine Cd.seq ?_
   refine Cd.seq ?_
   refine Cd.quiet (by kernel_rfl) (by kernel_rfl) ?_
   refine Qt.r (Ev.fieldAddr (off' := 4) rfl Try.runUnderlying59 rfl Try.sizeOf36 rfl rfl) ?_
   refine Qt.r (Ev.load (i := 13) rfl rfl Try.isAgg36 (v := Sl.v s_a0_4) ((TurnR.get_Told (Get.here _)).off (by rfl))) ?_
   refine Qt.r (Ev.fieldAddr (off' := 1) rfl Try.runUnderlying61 rfl Try.sizeOf3 rfl rfl) ?_
   refine Qt.r (Ev.load (i := 12) rfl rfl Try.isAgg3 (v := iv a1.Who) ((Beat.get_Who (Get.here _)).off (by rfl))) ?_
   obtain ⟨x129, h130, H⟩ := bind_some H
   have g131 := lat_some h130
   refine Qt.r (Ev.indexS (α := Int) (xs := a0.Told) rfl rfl Try.runUnderlying36 Try.sizeOf3 rfl (by decide) (hs_a0_4.mono (FLe.trans (FLe.trans hF33 hF42) hF61) (sc8 (sc4 (sc2 hM)))) g131.1 g131.2.1) ?_
   refine Qt.r (Ev.loadS (α := Int) rfl (hs_a0_4.mono (FLe.trans (FLe.trans hF33 hF42) hF61) (sc8 (sc4 (sc2 hM)))) Try.isAgg3 (v := iv x129) ((Get.elemN (s := 1) (x := x129) rfl g131.2.2 (Get.here _)).off (by omega))) ?_
   refine Qt.r (Ev.fieldAddr (off' := 3) rfl Try.runUnderlying59 rfl Try.sizeOf36 rfl rfl) ?_
   refine Qt.r (Ev.load (i := 13) rfl rfl Try.isAgg36 (v := Sl.v s_a0_3) ((TurnR.get_Log (Get.here _)).off (by rfl))) ?_
   refine Qt.r (Ev.lenS (α := Int) (xs := a0.Log) (by decide) rfl rfl Try.runUnderlying36 (hs_a0_3.mono (FLe.trans (FLe.trans hF33 hF42) hF61) (sc8 (sc4 (sc2 hM))))) ?_
   refine Qt.r (Ev.eql rfl rfl) ?_
   refine Qt.done ?_
   refine At.then ?_
   rcases Bool.eq_false_or_eq_true (x129 == (a0.Log.length : Int)) with hb132 | hb132
   ·replace H := ite_t hb132 H
    refine Cd.condT rfl hb132 ?_
    refine Cd.seq ?_
    refine Cd.as (e' := [(4, pv b9 0)]) (L' := (.blk b66 (enc (TurnR.mk r49 s51 s56 s58)) 59) :: (.own Sl.nil 3 1 (encs ([] : List Int))) :: (.own Sl.nil 3 1 (encs ([] : List Int))) :: (.own Sl.nil 36 1 (encs ([] : List (LR Int)))) :: (.rows (α := Int) 3 rs52) :: (.own s51 36 1 (encs rs52)) :: (.own s56 3 1 (encs r49.Log)) :: (.own s58 3 1 (encs r49.Told)) :: (.blk b9 (enc (TurnR.mk ({ Turn.zero with Want := ([] : List (List Int)), Log := ([] : List Int), Told := ([] : List Int) } : Turn) Sl.nil Sl.nil Sl.nil)) 59) :: (.own Sl.nil 3 1 (encs ([] : List Int))) :: (.own Sl.nil 3 1 (encs ([] : List Int))) :: (.own Sl.nil 36 1 (encs ([] : List (LR Int)))) :: (.blk b3 (enc a1) 61) :: (.blk b1 (enc (TurnR.mk a0 s_a0_2 s_a0_3 s_a0_4)) 59) :: L) ⟨rfl, trivial⟩ rfl ?_
    refine Cd.region ?_
    refine Lst.r (Ev.build (v := .agg (enc (TurnR.mk Turn.zero Sl.nil Sl.nil Sl.nil)).toArray) (pv := []) trivial (fun w => by kernel_rfl)) ?_
    refine Lst.store (i := 8) rfl rfl rfl rfl rfl Try.sizeOf59 (vs := enc (TurnR.mk Turn.zero Sl.nil Sl.nil Sl.nil)) rfl (Enc.len _) (Enc.one _) (cs' := enc (TurnR.mk Turn.zero Sl.nil Sl.nil Sl.nil)) (Put.here ((Enc.len _).trans (Enc.len _).symm)) (L' := (.blk b66 (enc (TurnR.mk r49 s51 s56 s58)) 59) :: (.own Sl.nil 3 1 (encs ([] : List Int))) :: (.own Sl.nil 3 1 (encs ([] : List Int))) :: (.own Sl.nil 36 1 (encs ([] : List (LR Int)))) :: (.rows (α := Int) 3 rs52) :: (.own s51 36 1 (encs rs52)) :: (.own s56 3 1 (encs r49.Log)) :: (.own s58 3 1 (encs r49.Told)) :: (.blk b9 (enc (TurnR.mk Turn.zero Sl.nil Sl.nil Sl.nil)) 59) :: (.own Sl.nil 3 1 (encs ([] : List Int))) :: (.own Sl.nil 3 1 (encs ([] : List Int))) :: (.own Sl.nil 36 1 (encs ([] : List (LR Int)))) :: (.blk b3 (enc a1) 61) :: (.blk b1 (enc (TurnR.mk a0 s_a0_2 s_a0_3 s_a0_4)) 59) :: L) rfl ?_
    refine Lst.r (Ev.assign rfl) ?_
    refine Lst.r (Ev.assign rfl) ?_
    refine Lst.nil ?_
    refine At.then ?_
    obtain rfl := some_inj H
    replace H := HKo74
    obtain rfl := some_inj H
    refine Cd.ret ?_
    refine At.then_ret ?_
    refine At.in_ret ?_
    refine At.then_ret ?_
    have ha135m : List.map LR.v ([] : List (LR Int)) = ([] : List (List Int)) := rfl
    refine At.addNil 36 1 ?_
    refine At.rowsNil Int 3 0 ?_
    refine At.its (L' := (.rows (α := Int) 3 ([] : List (LR Int))) :: (.own Sl.nil 36 1 (encs ([] : List (LR Int)))) :: (.blk b66 (enc (TurnR.mk r49 s51 s56 s58)) 59) :: (.own Sl.nil 3 1 (encs ([] : List Int))) :: (.own Sl.nil 3 1 (encs ([] : List Int))) :: (.own Sl.nil 36 1 (encs ([] : List (LR Int)))) :: (.rows (α := Int) 3 rs52) :: (.own s51 36 1 (encs rs52)) :: (.own s56 3 1 (encs r49.Log)) :: (.own s58 3 1 (encs r49.Told)) :: (.blk b9 (enc (TurnR.mk Turn.zero Sl.nil Sl.nil Sl.nil)) 59) :: (.own Sl.nil 3 1 (encs ([] : List Int))) :: (.own Sl.nil 3 1 (encs ([] : List Int))) :: (.own Sl.nil 36 1 (encs ([] : List (LR Int)))) :: (.blk b3 (enc a1) 61) :: (.blk b1 (enc (TurnR.mk a0 s_a0_2 s_a0_3 s_a0_4)) 59) :: L) rfl ?_
    refine At.addNil 3 1 ?_
    refine At.addNil 3 1 ?_
    refine At.front (i := 1) rfl rfl ?_
    refine At.front (i := 3) rfl rfl ?_
    refine At.front (i := 3) rfl (L' := (.rows (α := Int) 3 ([] : List (LR Int))) :: (.own Sl.nil 36 1 (encs ([] : List (LR Int)))) :: (.own Sl.nil 3 1 (encs ([] : List Int))) :: (.own Sl.nil 3 1 (encs ([] : List Int))) :: (.blk b66 (enc (TurnR.mk r49 s51 s56 s58)) 59) :: (.own Sl.nil 3 1 (encs ([] : List Int))) :: (.own Sl.nil 3 1 (encs ([] : List Int))) :: (.own Sl.nil 36 1 (encs ([] : List (LR Int)))) :: (.rows (α := Int) 3 rs52) :: (.own s51 36 1 (encs rs52)) :: (.own s56 3 1 (encs r49.Log)) :: (.own s58 3 1 (encs r49.Told)) :: (.blk b9 (enc (TurnR.mk ({ Turn.zero with Want := ([] : List (List Int)), Log := ([] : List Int), Told := ([] : List Int) } : Turn) Sl.nil Sl.nil Sl.nil)) 59) :: (.own Sl.nil 3 1 (encs ([] : List Int))) :: (.own Sl.nil 3 1 (encs ([] : List Int))) :: (.own Sl.nil 36 1 (encs ([] : List (LR Int)))) :: (.blk b3 (enc a1) 61) :: (.blk b1 (enc (TurnR.mk a0 s_a0_2 s_a0_3 s_a0_4)) 59) :: L) rfl ?_
    exact At.ret3 rfl (Res.cellA (i := 12) rfl rfl Try.isAgg59 Try.sizeOf59 (Enc.len _)) (Res.tmp rfl) (Res.tmp rfl) (FLe.trans (FLe.trans hF33 hF42) hF61) (sk1 (sk1 (sk1 (sk1 (sc1 (sc1 (sc1 (sc1 (sc1 (sc1 (sc1 (sc1 (sc1 (sc1 (sc1 (sc1 (sc1 (sc1 (.refl _))))))))))))))))))) ⟨Sl.nil, ([] : List (LR Int)), Sl.nil, Sl.nil, rfl, rfl, ha135m⟩
   replace H := ite_f hb132 H
   refine Cd.condF rfl hb132 ?_
   refine Cd.skip ?_
   refine At.then ?_
   refine Cd.seq ?_
   refine Cd.as (e' := [(2, pv b1 0), (3, pv b3 0), (4, pv b9 0), (8, pv b66 0)]) (L' := (.blk b66 (enc (TurnR.mk r49 s51 s56 s58)) 59) :: (.own Sl.nil 3 1 (encs ([] : List Int))) :: (.own Sl.nil 3 1 (encs ([] : List Int))) :: (.own Sl.nil 36 1 (encs ([] : List (LR Int)))) :: (.rows (α := Int) 3 rs52) :: (.own s51 36 1 (encs rs52)) :: (.own s56 3 1 (encs r49.Log)) :: (.own s58 3 1 (encs r49.Told)) :: (.blk b9 (enc (TurnR.mk ({ Turn.zero with Want := ([] : List (List Int)), Log := ([] : List Int), Told := ([] : List Int) } : Turn) Sl.nil Sl.nil Sl.nil)) 59) :: (.own Sl.nil 3 1 (encs ([] : List Int))) :: (.own Sl.nil 3 1 (encs ([] : List Int))) :: (.own Sl.nil 36 1 (encs ([] : List (LR Int)))) :: (.blk b3 (enc a1) 61) :: (.blk b1 (enc (TurnR.mk a0 s_a0_2 s_a0_3 s_a0_4)) 59) :: L) ⟨rfl, rfl, rfl, rfl, trivial⟩ rfl ?_
   refine Cd.region ?_
   refine Lst.r (Ev.fieldAddr (off' := 4) rfl Try.runUnderlying59 rfl Try.sizeOf36 rfl rfl) ?_
   refine Lst.r (Ev.load (i := 0) rfl rfl Try.isAgg36 (v := Sl.v s58) ((TurnR.get_Told (Get.here _)).off (by rfl))) ?_
   refine Lst.r (Ev.fieldAddr (off' := 1) rfl Try.runUnderlying61 rfl Try.sizeOf3 rfl rfl) ?_
   refine Lst.r (Ev.load (i := 12) rfl rfl Try.isAgg3 (v := iv a1.Who) ((Beat.get_Who (Get.here _)).off (by rfl))) ?_
   obtain ⟨x138, h139, H⟩ := bind_some H
   have g140 := lat_some h139
   refine Lst.r (Ev.indexS (α := Int) (xs := r49.Told) rfl rfl Try.runUnderlying36 Try.sizeOf3 rfl (by decide) (Rd.own (i := 7) rfl rfl rfl) g140.1 g140.2.1) ?_
   refine Lst.r (Ev.loadS (α := Int) rfl (Rd.own (i := 7) rfl rfl rfl) Try.isAgg3 (v := iv x138) ((Get.elemN (s := 1) (x := x138) rfl g140.2.2 (Get.here _)).off (by omega))) ?_
   refine Lst.r (Ev.add rfl rfl) ?_
   obtain ⟨x141, h142, H⟩ := bind_some H
   have g143 := lat_some h142
   refine Lst.r (Ev.indexS (α := Int) (xs := r49.Told) rfl rfl Try.runUnderlying36 Try.sizeOf3 rfl (by decide) (Rd.own (i := 7) rfl rfl rfl) g143.1 g143.2.1) ?_
   obtain ⟨p144, h145, H⟩ := Let_some H
   refine Lst.storeS (i := 7) rfl rfl rfl rfl rfl Try.sizeOf3 (vs := [iv (w64 (x138 + (1 : Int)))]) rfl rfl (by decide) rfl (xs' := encs p144) (by rw [← h145]; exact (Put.elemN (s := 1) (x := x141) rfl g143.2.2 (Put.here (vs := [iv (w64 (x138 + (1 : Int)))]) rfl)).off (by omega)) (L' := (.blk b66 (enc (TurnR.mk ({ r49 with Told := p144 } : Turn) s51 s56 s58)) 59) :: (.own Sl.nil 3 1 (encs ([] : List Int))) :: (.own Sl.nil 3 1 (encs ([] : List Int))) :: (.own Sl.nil 36 1 (encs ([] : List (LR Int)))) :: (.rows (α := Int) 3 rs52) :: (.own s51 36 1 (encs rs52)) :: (.own s56 3 1 (encs r49.Log)) :: (.own s58 3 1 (encs p144)) :: (.blk b9 (enc (TurnR.mk ({ Turn.zero with Want := ([] : List (List Int)), Log := ([] : List Int), Told := ([] : List Int) } : Turn) Sl.nil Sl.nil Sl.nil)) 59) :: (.own Sl.nil 3 1 (encs ([] : List Int))) :: (.own Sl.nil 3 1 (encs ([] : List Int))) :: (.own Sl.nil 36 1 (encs ([] : List (LR Int)))) :: (.blk b3 (enc a1) 61) :: (.blk b1 (enc (TurnR.mk a0 s_a0_2 s_a0_3 s_a0_4)) 59) :: L) rfl ?_
   refine Lst.nil ?_
   refine At.then ?_
   refine Cd.seq ?_
   obtain ⟨x146, h147, H⟩ := bind_some H
   obtain ⟨x149, h150, H⟩ := bind_some H
   refine Cd.headMeet (σ := Unit) 12 (fun (_ : Unit) => [(4, pv b9 0), (8, pv b66 0), (68, iv x149)]) (fun (_ : Unit) => (.blk b66 (enc (TurnR.mk ({ r49 with Told := p144 } : Turn) s51 s56 s58)) 59) :: (.own Sl.nil 3 1 (encs ([] : List Int))) :: (.own Sl.nil 3 1 (encs ([] : List Int))) :: (.own Sl.nil 36 1 (encs ([] : List (LR Int)))) :: (.rows (α := Int) 3 rs52) :: (.own s51 36 1 (encs rs52)) :: (.own s56 3 1 (encs r49.Log)) :: (.own s58 3 1 (encs p144)) :: (.blk b9 (enc (TurnR.mk ({ r49 with Told := p144 } : Turn) s51 s56 s58)) 59) :: (.own Sl.nil 3 1 (encs ([] : List Int))) :: (.own Sl.nil 3 1 (encs ([] : List Int))) :: (.own Sl.nil 36 1 (encs ([] : List (LR Int)))) :: (.blk b3 (enc a1) 61) :: (.blk b1 (enc (TurnR.mk a0 s_a0_2 s_a0_3 s_a0_4)) 59) :: L) (fun _ (_ : Unit) => True) (by kernel_rfl) (by kernel_rfl) (behind_sink (by kernel_rfl) (by kernel_rfl) (by kernel_rfl)) (by kernel_rfl) (fun hsel hlt => ?_) ?_
   ·refine HdJ.keep (fun w => St w0 F60 ((.blk b66 (enc (TurnR.mk ({ r49 with Told := p144 } : Turn) s51 s56 s58)) 59) :: (.own Sl.nil 3 1 (encs ([] : List Int))) :: (.own Sl.nil 3 1 (encs ([] : List Int))) :: (.own Sl.nil 36 1 (encs ([] : List (LR Int)))) :: (.rows (α := Int) 3 rs52) :: (.own s51 36 1 (encs rs52)) :: (.own s56 3 1 (encs r49.Log)) :: (.own s58 3 1 (encs p144)) :: (.own Sl.nil 3 1 (encs ([] : List Int))) :: (.own Sl.nil 3 1 (encs ([] : List Int))) :: (.own Sl.nil 36 1 (encs ([] : List (LR Int)))) :: (.blk b3 (enc a1) 61) :: (.blk b1 (enc (TurnR.mk a0 s_a0_2 s_a0_3 s_a0_4)) 59) :: L) w) (fun w h => trivial) ?_
    refine HdJ.tk hsel hlt 0 (fun w h => h.sublist (sk1 (sk1 (sk1 (sk1 (sk1 (sk1 (sk1 (sk1 (sc1 (sk1 (sk1 (sk1 (sk1 (sk1 (.refl _)))))))))))))))) rfl (Ev.loadA (i := 0) rfl rfl Try.isAgg59 Try.sizeOf59 (ch := enc (TurnR.mk ({ r49 with Told := p144 } : Turn) s51 s56 s58)) (Enc.len _) (Get.here _)) ?_
    refine HdJ.tk hsel hlt 1 (fun w h => h.sublist (sk1 (sk1 (sk1 (sk1 (sk1 (sk1 (sk1 (sk1 (sc1 (sk1 (sk1 (sk1 (sk1 (sk1 (.refl _)))))))))))))))) rfl (Ev.fieldAddr (off' := 3) rfl Try.runUnderlying59 rfl Try.sizeOf36 rfl rfl) ?_
    refine HdJ.tk hsel hlt 2 (fun w h => h.sublist (sk1 (sk1 (sk1 (sk1 (sk1 (sk1 (sk1 (sk1 (sc1 (sk1 (sk1 (sk1 (sk1 (sk1 (.refl _)))))))))))))))) rfl (Ev.load (i := 12) rfl rfl Try.isAgg36 (v := Sl.v s_a0_3) ((TurnR.get_Log (Get.here _)).off (by rfl))) ?_
    refine HdJ.tk hsel hlt 3 (fun w h => h.sublist (sk1 (sk1 (sk1 (sk1 (sk1 (sk1 (sk1 (sk1 (sc1 (sk1 (sk1 (sk1 (sk1 (sk1 (.refl _)))))))))))))))) rfl (Ev.fieldAddr (off' := 4) rfl Try.runUnderlying59 rfl Try.sizeOf36 rfl rfl) ?_
    refine HdJ.tk hsel hlt 4 (fun w h => h.sublist (sk1 (sk1 (sk1 (sk1 (sk1 (sk1 (sk1 (sk1 (sc1 (sk1 (sk1 (sk1 (sk1 (sk1 (.refl _)))))))))))))))) rfl (Ev.load (i := 12) rfl rfl Try.isAgg36 (v := Sl.v s_a0_4) ((TurnR.get_Told (Get.here _)).off (by rfl))) ?_
    refine HdJ.tk hsel hlt 5 (fun w h => h.sublist (sk1 (sk1 (sk1 (sk1 (sk1 (sk1 (sk1 (sk1 (sc1 (sk1 (sk1 (sk1 (sk1 (sk1 (.refl _)))))))))))))))) rfl (Ev.fieldAddr (off' := 1) rfl Try.runUnderlying61 rfl Try.sizeOf3 rfl rfl) ?_
    refine HdJ.tk hsel hlt 6 (fun w h => h.sublist (sk1 (sk1 (sk1 (sk1 (sk1 (sk1 (sk1 (sk1 (sc1 (sk1 (sk1 (sk1 (sk1 (sk1 (.refl _)))))))))))))))) rfl (Ev.load (i := 11) rfl rfl Try.isAgg3 (v := iv a1.Who) ((Beat.get_Who (Get.here _)).off (by rfl))) ?_
    have g155 := lat_some h147
    refine HdJ.tk hsel hlt 7 (fun w h => h.sublist (sk1 (sk1 (sk1 (sk1 (sk1 (sk1 (sk1 (sk1 (sc1 (sk1 (sk1 (sk1 (sk1 (sk1 (.refl _)))))))))))))))) rfl (Ev.indexS (α := Int) (xs := a0.Told) rfl rfl Try.runUnderlying36 Try.sizeOf3 rfl (by decide) (hs_a0_4.mono (FLe.trans (FLe.trans hF33 hF42) hF61) (sc8 (sc4 (sc1 hM)))) g155.1 g155.2.1) ?_
    refine HdJ.tk hsel hlt 8 (fun w h => h.sublist (sk1 (sk1 (sk1 (sk1 (sk1 (sk1 (sk1 (sk1 (sc1 (sk1 (sk1 (sk1 (sk1 (sk1 (.refl _)))))))))))))))) rfl (Ev.loadS (α := Int) rfl (hs_a0_4.mono (FLe.trans (FLe.trans hF33 hF42) hF61) (sc8 (sc4 (sc1 hM)))) Try.isAgg3 (v := iv x146) ((Get.elemN (s := 1) (x := x146) rfl g155.2.2 (Get.here _)).off (by omega))) ?_
    have g156 := lat_some h150
    refine HdJ.tk hsel hlt 9 (fun w h => h.sublist (sk1 (sk1 (sk1 (sk1 (sk1 (sk1 (sk1 (sk1 (sc1 (sk1 (sk1 (sk1 (sk1 (sk1 (.refl _)))))))))))))))) rfl (Ev.indexS (α := Int) (xs := a0.Log) rfl rfl Try.runUnderlying36 Try.sizeOf3 rfl (by decide) (hs_a0_3.mono (FLe.trans (FLe.trans hF33 hF42) hF61) (sc8 (sc4 (sc1 hM)))) g156.1 g156.2.1) ?_
    refine HdJ.tk hsel hlt 10 (fun w h => h.sublist (sk1 (sk1 (sk1 (sk1 (sk1 (sk1 (sk1 (sk1 (sc1 (sk1 (sk1 (sk1 (sk1 (sk1 (.refl _)))))))))))))))) rfl (Ev.loadS (α := Int) rfl (hs_a0_3.mono (FLe.trans (FLe.trans hF33 hF42) hF61) (sc8 (sc4 (sc1 hM)))) Try.isAgg3 (v := iv x149) ((Get.elemN (s := 1) (x := x149) rfl g156.2.2 (Get.here _)).off (by omega))) ?_
    refine HdJ.step [11] (by kernel_rfl) rfl ?_
    refine HdStep.c (fun inv => ?_) ?_
    ·refine Lst.store (i := 8) rfl rfl rfl rfl rfl Try.sizeOf59 (vs := enc (TurnR.mk ({ r49 with Told := p144 } : Turn) s51 s56 s58)) rfl (Enc.len _) (Enc.one _) (cs' := enc (TurnR.mk ({ r49 with Told := p144 } : Turn) s51 s56 s58)) (Put.here ((Enc.len _).trans (Enc.len _).symm)) (L' := (.blk b66 (enc (TurnR.mk ({ r49 with Told := p144 } : Turn) s51 s56 s58)) 59) :: (.own Sl.nil 3 1 (encs ([] : List Int))) :: (.own Sl.nil 3 1 (encs ([] : List Int))) :: (.own Sl.nil 36 1 (encs ([] : List (LR Int)))) :: (.rows (α := Int) 3 rs52) :: (.own s51 36 1 (encs rs52)) :: (.own s56 3 1 (encs r49.Log)) :: (.own s58 3 1 (encs p144)) :: (.blk b9 (enc (TurnR.mk ({ r49 with Told := p144 } : Turn) s51 s56 s58)) 59) :: (.own Sl.nil 3 1 (encs ([] : List Int))) :: (.own Sl.nil 3 1 (encs ([] : List Int))) :: (.own Sl.nil 36 1 (encs ([] : List (LR Int)))) :: (.blk b3 (enc a1) 61) :: (.blk b1 (enc (TurnR.mk a0 s_a0_2 s_a0_3 s_a0_4)) 59) :: L) rfl ?_
     refine Lst.nil ?_
     refine At.hd inv (fun w h => (h.weaken (FLe.refl _)).sublist (sk1 (sk1 (sk1 (sk1 (sk1 (sk1 (sk1 (sk1 (sc1 (sk1 (sk1 (sk1 (sk1 (sk1 (.refl _)))))))))))))))) ?_
     refine HdJ.done (by kernel_rfl) ?_
     exact At.meetN () (FLe.refl _) ⟨rfl, rfl, rfl, trivial⟩ rfl trivial
    exact trivial
   rintro F157 _u hF158 hy
   refine Lst.as (e' := [(4, pv b9 0), (8, pv b66 0), (68, iv x149)]) (L' := (.blk b66 (enc (TurnR.mk ({ r49 with Told := p144 } : Turn) s51 s56 s58)) 59) :: (.own Sl.nil 3 1 (encs ([] : List Int))) :: (.own Sl.nil 3 1 (encs ([] : List Int))) :: (.own Sl.nil 36 1 (encs ([] : List (LR Int)))) :: (.rows (α := Int) 3 rs52) :: (.own s51 36 1 (encs rs52)) :: (.own s56 3 1 (encs r49.Log)) :: (.own s58 3 1 (encs p144)) :: (.blk b9 (enc (TurnR.mk ({ r49 with Told := p144 } : Turn) s51 s56 s58)) 59) :: (.own Sl.nil 3 1 (encs ([] : List Int))) :: (.own Sl.nil 3 1 (encs ([] : List Int))) :: (.own Sl.nil 36 1 (encs ([] : List (LR Int)))) :: (.blk b3 (enc a1) 61) :: (.blk b1 (enc (TurnR.mk a0 s_a0_2 s_a0_3 s_a0_4)) 59) :: L) ⟨rfl, rfl, rfl, trivial⟩ rfl ?_
   refine Lst.r (Ev.assign rfl) ?_
   refine Lst.r (Ev.assign rfl) ?_
   refine Lst.nil ?_
   refine At.then ?_
   obtain rfl := some_inj H
   replace H := HKo74
   obtain rfl := some_inj H
   refine Cd.ret ?_
   refine At.in_ret ?_
   refine At.then_ret ?_
   exact At.ret3 rfl (Res.cellA (i := 8) rfl rfl Try.isAgg59 Try.sizeOf59 (Enc.len _)) (Res.tmp rfl) (Res.tmp rfl) (FLe.trans (FLe.trans (FLe.trans hF33 hF42) hF61) hF158) (sc1 (sc1 (sc1 (sc1 (sk1 (sk1 (sk1 (sk1 (sc1 (sc1 (sc1 (sc1 (sc1 (sc1 (.refl _))))))))))))))) ⟨s51, rs52, s56, s58, rfl, rfl, fm53⟩
  replace H := ite_t hb128 H
  refine Cd.condT rfl hb128 ?_
  refine Cd.seq ?_
  refine Cd.seq ?_
  refine Cd.region ?_
  refine Lst.r (Ev.fieldAddr (off' := 1) rfl Try.runUnderlying61 rfl Try.sizeOf3 rfl rfl) ?_
  refine Lst.r (Ev.load (i := 12) rfl rfl Try.isAgg3 (v := iv a1.Who) ((Beat.get_Who (Get.here _)).off (by rfl))) ?_
  refine Lst.r (Ev.fieldAddr (off' := 1) rfl Try.runUnderlying59 rfl Try.sizeOf3 rfl rfl) ?_
  refine Lst.r (Ev.load (i := 13) rfl rfl Try.isAgg3 (v := iv a0.Has) ((TurnR.get_Has (Get.here _)).off (by rfl))) ?_
  refine Lst.r (Ev.neq rfl rfl) ?_
  refine Lst.nil ?_
  refine At.then ?_
  rcases Bool.eq_false_or_eq_true (a1.Who != a0.Has) with hb159 | hb159
  ·replace H := ite_t hb159 H
   refine Cd.condT rfl hb159 ?_
   refine Cd.seq ?_
   refine Cd.as (e' := [(4, pv b9 0)]) (L' := (.blk b66 (enc (TurnR.mk r49 s51 s56 s58)) 59) :: (.own Sl.nil 3 1 (encs ([] : List Int))) :: (.own Sl.nil 3 1 (encs ([] : List Int))) :: (.own Sl.nil 36 1 (encs ([] : List (LR Int)))) :: (.rows (α := Int) 3 rs52) :: (.own s51 36 1 (encs rs52)) :: (.own s56 3 1 (encs r49.Log)) :: (.own s58 3 1 (encs r49.Told)) :: (.blk b9 (enc (TurnR.mk ({ Turn.zero with Want := ([] : List (List Int)), Log := ([] : List Int), Told := ([] : List Int) } : Turn) Sl.nil Sl.nil Sl.nil)) 59) :: (.own Sl.nil 3 1 (encs ([] : List Int))) :: (.own Sl.nil 3 1 (encs ([] : List Int))) :: (.own Sl.nil 36 1 (encs ([] : List (LR Int)))) :: (.blk b3 (enc a1) 61) :: (.blk b1 (enc (TurnR.mk a0 s_a0_2 s_a0_3 s_a0_4)) 59) :: L) ⟨rfl, trivial⟩ rfl ?_
   refine Cd.region ?_
   refine Lst.r (Ev.build (v := .agg (enc (TurnR.mk Turn.zero Sl.nil Sl.nil Sl.nil)).toArray) (pv := []) trivial (fun w => by kernel_rfl)) ?_
   refine Lst.store (i := 8) rfl rfl rfl rfl rfl Try.sizeOf59 (vs := enc (TurnR.mk Turn.zero Sl.nil Sl.nil Sl.nil)) rfl (Enc.len _) (Enc.one _) (cs' := enc (TurnR.mk Turn.zero Sl.nil Sl.nil Sl.nil)) (Put.here ((Enc.len _).trans (Enc.len _).symm)) (L' := (.blk b66 (enc (TurnR.mk r49 s51 s56 s58)) 59) :: (.own Sl.nil 3 1 (encs ([] : List Int))) :: (.own Sl.nil 3 1 (encs ([] : List Int))) :: (.own Sl.nil 36 1 (encs ([] : List (LR Int)))) :: (.rows (α := Int) 3 rs52) :: (.own s51 36 1 (encs rs52)) :: (.own s56 3 1 (encs r49.Log)) :: (.own s58 3 1 (encs r49.Told)) :: (.blk b9 (enc (TurnR.mk Turn.zero Sl.nil Sl.nil Sl.nil)) 59) :: (.own Sl.nil 3 1 (encs ([] : List Int))) :: (.own Sl.nil 3 1 (encs ([] : List Int))) :: (.own Sl.nil 36 1 (encs ([] : List (LR Int)))) :: (.blk b3 (enc a1) 61) :: (.blk b1 (enc (TurnR.mk a0 s_a0_2 s_a0_3 s_a0_4)) 59) :: L) rfl ?_
   refine Lst.r (Ev.assign rfl) ?_
   refine Lst.r (Ev.assign rfl) ?_
   refine Lst.nil ?_
   refine At.then ?_
   obtain rfl := some_inj H
   replace H := HKo74
   obtain rfl := some_inj H
   refine Cd.ret ?_
   refine At.then_ret ?_
   refine At.in_ret ?_
   refine At.then_ret ?_
   have ha162m : List.map LR.v ([] : List (LR Int)) = ([] : List (List Int)) := rfl
   refine At.addNil 36 1 ?_
   refine At.rowsNil Int 3 0 ?_
   refine At.its (L' := (.rows (α := Int) 3 ([] : List (LR Int))) :: (.own Sl.nil 36 1 (encs ([] : List (LR Int)))) :: (.blk b66 (enc (TurnR.mk r49 s51 s56 s58)) 59) :: (.own Sl.nil 3 1 (encs ([] : List Int))) :: (.own Sl.nil 3 1 (encs ([] : List Int))) :: (.own Sl.nil 36 1 (encs ([] : List (LR Int)))) :: (.rows (α := Int) 3 rs52) :: (.own s51 36 1 (encs rs52)) :: (.own s56 3 1 (encs r49.Log)) :: (.own s58 3 1 (encs r49.Told)) :: (.blk b9 (enc (TurnR.mk Turn.zero Sl.nil Sl.nil Sl.nil)) 59) :: (.own Sl.nil 3 1 (encs ([] : List Int))) :: (.own Sl.nil 3 1 (encs ([] : List Int))) :: (.own Sl.nil 36 1 (encs ([] : List (LR Int)))) :: (.blk b3 (enc a1) 61) :: (.blk b1 (enc (TurnR.mk a0 s_a0_2 s_a0_3 s_a0_4)) 59) :: L) rfl ?_
   refine At.addNil 3 1 ?_
   refine At.addNil 3 1 ?_
   refine At.front (i := 1) rfl rfl ?_
   refine At.front (i := 3) rfl rfl ?_
   refine At.front (i := 3) rfl (L' := (.rows (α := Int) 3 ([] : List (LR Int))) :: (.own Sl.nil 36 1 (encs ([] : List (LR Int)))) :: (.own Sl.nil 3 1 (encs ([] : List Int))) :: (.own Sl.nil 3 1 (encs ([] : List Int))) :: (.blk b66 (enc (TurnR.mk r49 s51 s56 s58)) 59) :: (.own Sl.nil 3 1 (encs ([] : List Int))) :: (.own Sl.nil 3 1 (encs ([] : List Int))) :: (.own Sl.nil 36 1 (encs ([] : List (LR Int)))) :: (.rows (α := Int) 3 rs52) :: (.own s51 36 1 (encs rs52)) :: (.own s56 3 1 (encs r49.Log)) :: (.own s58 3 1 (encs r49.Told)) :: (.blk b9 (enc (TurnR.mk ({ Turn.zero with Want := ([] : List (List Int)), Log := ([] : List Int), Told := ([] : List Int) } : Turn) Sl.nil Sl.nil Sl.nil)) 59) :: (.own Sl.nil 3 1 (encs ([] : List Int))) :: (.own Sl.nil 3 1 (encs ([] : List Int))) :: (.own Sl.nil 36 1 (encs ([] : List (LR Int)))) :: (.blk b3 (enc a1) 61) :: (.blk b1 (enc (TurnR.mk a0 s_a0_2 s_a0_3 s_a0_4)) 59) :: L) rfl ?_
   exact At.ret3 rfl (Res.cellA (i := 12) rfl rfl Try.isAgg59 Try.sizeOf59 (Enc.len _)) (Res.tmp rfl) (Res.tmp rfl) (FLe.trans (FLe.trans hF33 hF42) hF61) (sk1 (sk1 (sk1 (sk1 (sc1 (sc1 (sc1 (sc1 (sc1 (sc1 (sc1 (sc1 (sc1 (sc1 (sc1 (sc1 (sc1 (sc1 (.refl _))))))))))))))))))) ⟨Sl.nil, ([] : List (LR Int)), Sl.nil, Sl.nil, rfl, rfl, ha162m⟩
  replace H := ite_f hb159 H
  refine Cd.condF rfl hb159 ?_
  refine Cd.skip ?_
  refine At.then ?_
  refine Cd.as (e' := [(4, pv b9 0), (8, pv b66 0)]) (L' := (.blk b66 (enc (TurnR.mk r49 s51 s56 s58)) 59) :: (.own Sl.nil 3 1 (encs ([] : List Int))) :: (.own Sl.nil 3 1 (encs ([] : List Int))) :: (.own Sl.nil 36 1 (encs ([] : List (LR Int)))) :: (.rows (α := Int) 3 rs52) :: (.own s51 36 1 (encs rs52)) :: (.own s56 3 1 (encs r49.Log)) :: (.own s58 3 1 (encs r49.Told)) :: (.blk b9 (enc (TurnR.mk ({ Turn.zero with Want := ([] : List (List Int)), Log := ([] : List Int), Told := ([] : List Int) } : Turn) Sl.nil Sl.nil Sl.nil)) 59) :: (.own Sl.nil 3 1 (encs ([] : List Int))) :: (.own Sl.nil 3 1 (encs ([] : List Int))) :: (.own Sl.nil 36 1 (encs ([] : List (LR Int)))) :: (.blk b3 (enc a1) 61) :: (.blk b1 (enc (TurnR.mk a0 s_a0_2 s_a0_3 s_a0_4)) 59) :: L) ⟨rfl, rfl, trivial⟩ rfl ?_
  refine Cd.region ?_
  obtain ⟨r165, h166, H⟩ := bind_some H
  refine Lst.front (i := 6) rfl rfl ?_
  refine Lst.front (i := 6) rfl rfl ?_
  refine Lst.front (i := 6) rfl (L' := (.rows (α := Int) 3 rs52) :: (.own s51 36 1 (encs rs52)) :: (.own s56 3 1 (encs r49.Log)) :: (.blk b66 (enc (TurnR.mk r49 s51 s56 s58)) 59) :: (.own Sl.nil 3 1 (encs ([] : List Int))) :: (.own Sl.nil 3 1 (encs ([] : List Int))) :: (.own Sl.nil 36 1 (encs ([] : List (LR Int)))) :: (.own s58 3 1 (encs r49.Told)) :: (.blk b9 (enc (TurnR.mk ({ Turn.zero with Want := ([] : List (List Int)), Log := ([] : List Int), Told := ([] : List Int) } : Turn) Sl.nil Sl.nil Sl.nil)) 59) :: (.own Sl.nil 3 1 (encs ([] : List Int))) :: (.own Sl.nil 3 1 (encs ([] : List Int))) :: (.own Sl.nil 36 1 (encs ([] : List (LR Int)))) :: (.blk b3 (enc a1) 61) :: (.blk b1 (enc (TurnR.mk a0 s_a0_2 s_a0_3 s_a0_4)) 59) :: L) rfl ?_
  refine Lst.call rfl rfl (by decide) (vs := [pv b66 0]) ⟨rfl, trivial⟩ Try.call124 (turn_pass_sim h166 w0 _ _ _ (.refl _) fm53 (Rd.own (i := 3) rfl rfl rfl)) (fun F170 L' v hF171 hv => ?_)
  obtain ⟨rs167, s169, rfl, rfl, fm168⟩ := hv
  refine Lst.nil ?_
  refine At.in_normal ?_
  refine At.front (i := 6) rfl rfl ?_
  refine At.front (i := 6) rfl rfl ?_
  refine At.front (i := 6) rfl (L' := (.own Sl.nil 3 1 (encs ([] : List Int))) :: (.own Sl.nil 3 1 (encs ([] : List Int))) :: (.own Sl.nil 36 1 (encs ([] : List (LR Int)))) :: (.rows (α := Int) 3 rs167) :: (.own s51 36 1 (encs rs167)) :: (.own s169 3 1 (encs r165.2.1)) :: (.blk b66 (enc (TurnR.mk ({ r165.2.2 with Want := r165.1, Log := r165.2.1, Told := r49.Told } : Turn) s51 s169 s58)) 59) :: (.own s58 3 1 (encs r49.Told)) :: (.blk b9 (enc (TurnR.mk ({ Turn.zero with Want := ([] : List (List Int)), Log := ([] : List Int), Told := ([] : List Int) } : Turn) Sl.nil Sl.nil Sl.nil)) 59) :: (.own Sl.nil 3 1 (encs ([] : List Int))) :: (.own Sl.nil 3 1 (encs ([] : List Int))) :: (.own Sl.nil 36 1 (encs ([] : List (LR Int)))) :: (.blk b3 (enc a1) 61) :: (.blk b1 (enc (TurnR.mk a0 s_a0_2 s_a0_3 s_a0_4)) 59) :: L) rfl ?_
  refine At.front (i := 6) rfl (L' := (.blk b66 (enc (TurnR.mk ({ r165.2.2 with Want := r165.1, Log := r165.2.1, Told := r49.Told } : Turn) s51 s169 s58)) 59) :: (.own Sl.nil 3 1 (encs ([] : List Int))) :: (.own Sl.nil 3 1 (encs ([] : List Int))) :: (.own Sl.nil 36 1 (encs ([] : List (LR Int)))) :: (.rows (α := Int) 3 rs167) :: (.own s51 36 1 (encs rs167)) :: (.own s169 3 1 (encs r165.2.1)) :: (.own s58 3 1 (encs r49.Told)) :: (.blk b9 (enc (TurnR.mk ({ Turn.zero with Want := ([] : List (List Int)), Log := ([] : List Int), Told := ([] : List Int) } : Turn) Sl.nil Sl.nil Sl.nil)) 59) :: (.own Sl.nil 3 1 (encs ([] : List Int))) :: (.own Sl.nil 3 1 (encs ([] : List Int))) :: (.own Sl.nil 36 1 (encs ([] : List (LR Int)))) :: (.blk b3 (enc a1) 61) :: (.blk b1 (enc (TurnR.mk a0 s_a0_2 s_a0_3 s_a0_4)) 59) :: L) rfl ?_
  exact At.meet (({ r165.2.2 with Want := r165.1, Log := r165.2.1, Told := r49.Told } : Turn), r165.1, rs167, s169, r165.2.1) hF171 ⟨rfl, rfl, trivial⟩ rfl ⟨some_inj H, fm168⟩
 rintro F172 ⟨y68, l69, rs70, s72, l73⟩ hF173 ⟨hy, fm71⟩
 subst hy
 refine Cd.as (e' := [(4, pv b9 0), (8, pv b66 0)]) (L' := (.blk b66 (enc (TurnR.mk ({ y68 with Want := l69, Log := l73, Told := r49.Told } : Turn) s51 s72 s58)) 59) :: (.own Sl.nil 3 1 (encs ([] : List Int))) :: (.own Sl.nil 3 1 (encs ([] : List Int))) :: (.own Sl.nil 36 1 (encs ([] : List (LR Int)))) :: (.rows (α := Int) 3 rs70) :: (.own s51 36 1 (encs rs70)) :: (.own s72 3 1 (encs l73)) :: (.own s58 3 1 (encs r49.Told)) :: (.blk b9 (enc (TurnR.mk ({ Turn.zero with Want := ([] : List (List Int)), Log := ([] : List Int), Told := ([] : List Int) } : Turn) Sl.nil Sl.nil Sl.nil)) 59) :: (.own Sl.nil 3 1 (encs ([] : List Int))) :: (.own Sl.nil 3 1 (encs ([] : List Int))) :: (.own Sl.nil 36 1 (encs ([] : List (LR Int)))) :: (.blk b3 (enc a1) 61) :: (.blk b1 (enc (TurnR.mk a0 s_a0_2 s_a0_3 s_a0_4)) 59) :: L) ⟨rfl, rfl, trivial⟩ rfl ?_
 replace H := HKo74
 refine Cd.seq ?_
 refine Cd.region ?_
 refine Lst.r (Ev.loadA (i := 0) rfl rfl Try.isAgg59 Try.sizeOf59 (ch := enc (TurnR.mk ({ y68 with Want := l69, Log := l73, Told := r49.Told } : Turn) s51 s72 s58)) (Enc.len _) (Get.here _)) ?_
 refine Lst.store (i := 8) rfl rfl rfl rfl rfl Try.sizeOf59 (vs := enc (TurnR.mk ({ y68 with Want := l69, Log := l73, Told := r49.Told } : Turn) s51 s72 s58)) rfl (Enc.len _) (Enc.one _) (cs' := enc (TurnR.mk ({ y68 with Want := l69, Log := l73, Told := r49.Told } : Turn) s51 s72 s58)) (Put.here ((Enc.len _).trans (Enc.len _).symm)) (L' := (.blk b66 (enc (TurnR.mk ({ y68 with Want := l69, Log := l73, Told := r49.Told } : Turn) s51 s72 s58)) 59) :: (.own Sl.nil 3 1 (encs ([] : List Int))) :: (.own Sl.nil 3 1 (encs ([] : List Int))) :: (.own Sl.nil 36 1 (encs ([] : List (LR Int)))) :: (.rows (α := Int) 3 rs70) :: (.own s51 36 1 (encs rs70)) :: (.own s72 3 1 (encs l73)) :: (.own s58 3 1 (encs r49.Told)) :: (.blk b9 (enc (TurnR.mk ({ y68 with Want := l69, Log := l73, Told := r49.Told } : Turn) s51 s72 s58)) 59) :: (.own Sl.nil 3 1 (encs ([] : List Int))) :: (.own Sl.nil 3 1 (encs ([] : List Int))) :: (.own Sl.nil 36 1 (encs ([] : List (LR Int)))) :: (.blk b3 (enc a1) 61) :: (.blk b1 (enc (TurnR.mk a0 s_a0_2 s_a0_3 s_a0_4)) 59) :: L) rfl ?_
 refine Lst.r (Ev.assign rfl) ?_
 refine Lst.r (Ev.assign rfl) ?_
 refine Lst.nil ?_
 refine At.then ?_
 obtain rfl := some_inj H
 refine Cd.ret ?_
 exact At.ret3 rfl (Res.cellA (i := 8) rfl rfl Try.isAgg59 Try.sizeOf59 (Enc.len _)) (Res.tmp rfl) (Res.tmp rfl) (FLe.trans (FLe.trans (FLe.trans hF33 hF42) hF61) hF173) (sc1 (sc1 (sc1 (sc1 (sk1 (sk1 (sk1 (sk1 (sc1 (sc1 (sc1 (sc1 (sc1 (sc1 (.refl _))))))))))))))) ⟨s51, rs70, s72, s58, rfl, rfl, fm71⟩
set_option maxRecDepth 20000 in
theorem slices_Equal_int_int_sim {a0 : List Int} {a1 : List Int} {s_a0 : Sl} {s_a1 : Sl} {r : Bool} (H : slices_Equal_int_int a0 a1 = some r) (w0 : World) (F : Frz) (M L : List Item) (hM : M.Sublist L) (hs_a0 : Rd w0 F M s_a0 a0) (hs_a1 : Rd w0 F M s_a1 a1) : Ok Try.prog w0 128 [Sl.v s_a0, Sl.v s_a1] F (L) (Is (.bool r) (L)) := by
 unfold slices_Equal_int_int at H
 refine Ok.enter (m := 2) (n := 26) Try.func128 rfl rfl rfl (by decide) ?_
 refine Cd.env (e' := [(0, Sl.v s_a0), (1, Sl.v s_a1)]) rfl ?_
 refine Cd.seq ?_
 refine Cd.region ?_
 refine Lst.r (Ev.assign rfl) ?_
 refine Lst.nil ?_
 refine At.then ?_
 refine Cd.seq ?_
 refine Cd.seq ?_
 refine Cd.region ?_
 refine Lst.r (Ev.move rfl) ?_
 refine Lst.r (Ev.lenS (α := Int) (xs := a0) (by decide) rfl rfl Try.runUnderlying36 (hs_a0.mono (FLe.refl _) hM)) ?_
 refine Lst.r (Ev.move rfl) ?_
 refine Lst.r (Ev.lenS (α := Int) (xs := a1) (by decide) rfl rfl Try.runUnderlying36 (hs_a1.mono (FLe.refl _) hM)) ?_
 refine Lst.r (Ev.neq rfl rfl) ?_
 refine Lst.nil ?_
 refine At.then ?_
 rcases Bool.eq_false_or_eq_true ((a0.length : Int) != (a1.length : Int)) with hb1 | hb1
 ·replace H := ite_t hb1 H
  refine Cd.condT rfl hb1 ?_
  refine Cd.seq ?_
  refine Cd.region ?_
  refine Lst.r (Ev.assign rfl) ?_
  refine Lst.nil ?_
  refine At.then ?_
  obtain rfl := some_inj H
  refine Cd.ret ?_
  refine At.then_ret ?_
  exact At.ret1 rfl (Res.tmp rfl) (FLe.refl _) (.refl _) ⟨rfl, rfl⟩
 replace H := ite_f hb1 H
 refine Cd.condF rfl hb1 ?_
 refine Cd.skip ?_
 refine At.then ?_
 refine Cd.seq ?_
 refine Cd.seq ?_
 refine Cd.region ?_
 refine Lst.r (Ev.move rfl) ?_
 refine Lst.r (Ev.lenS (α := Int) (xs := a0) (by decide) rfl rfl Try.runUnderlying36 (hs_a0.mono (FLe.refl _) hM)) ?_
 refine Lst.r (Ev.move rfl) ?_
 refine Lst.nil ?_
 refine At.then ?_
 refine Cd.block ?_
 refine Cd.bound (Rd.le (α := Int) (xs := a0) (by decide) (hs_a0.mono (FLe.refl _) hM)) (fun hN12 => ?_)
 obtain ⟨ol2, H, HKl2⟩ := andThen_some H
 refine Cd.loop (σ := Nat × Nat × Unit) (fun (i2, k2, _u) => [(0, Sl.v s_a0), (1, Sl.v s_a1), (12, iv (a0.length : Int)), (13, iv (i2 : Int))]) (fun (i2, k2, _u) => L) (fun _ => (fun (i2, k2, _u) => rangeM (slices_Equal_int_int_B0 a0 a1) k2 i2 () = some ol2 ∧ i2 + k2 = a0.length)) (fun (i2, k2, _u) => k2) (0, a0.length, ()) ⟨rfl, rfl, rfl, rfl, trivial⟩ rfl ⟨H, by omega⟩ ?_
 rintro F3 ⟨i2, k2, _u⟩ hF4 ⟨H, hik2⟩
 refine Cd.as (e' := [(0, Sl.v s_a0), (1, Sl.v s_a1), (12, iv (a0.length : Int)), (13, iv (i2 : Int))]) (L' := L) ⟨rfl, rfl, rfl, rfl, trivial⟩ rfl ?_
 rcases k2 with _ | k2
 ·have hc2 : decide ((i2 : Int) < (a0.length : Int)) = false := decide_eq_false (by omega)
  replace H := rangeM_end H
  refine Cd.seq ?_
  refine Cd.region ?_
  refine Lst.r (Ev.lss rfl rfl) ?_
  refine Lst.nil ?_
  refine At.then ?_
  refine Cd.seq ?_
  refine Cd.condF rfl hc2 ?_
  refine Cd.exit ?_
  refine At.then_exit ?_
  refine At.then_exit ?_
  refine At.in_exit ?_
  subst H
  replace H := HKl2
  refine At.then ?_
  refine Cd.seq ?_
  refine Cd.region ?_
  refine Lst.r (Ev.assign rfl) ?_
  refine Lst.nil ?_
  refine At.then ?_
  obtain rfl := some_inj H
  refine Cd.ret ?_
  exact At.ret1 rfl (Res.tmp rfl) hF4 (.refl _) ⟨rfl, rfl⟩
 have hc2 : decide ((i2 : Int) < (a0.length : Int)) = true := decide_eq_true (by omega)
 obtain ⟨c2, H, hgo2, hbrk2, hret2⟩ := rangeM_go H
 unfold slices_Equal_int_int_B0 at H
 try dsimp only at H
 refine Cd.seq ?_
 refine Cd.region ?_
 refine Lst.r (Ev.lss rfl rfl) ?_
 refine Lst.nil ?_
 refine At.then ?_
 refine Cd.seq ?_
 refine Cd.condT rfl hc2 ?_
 refine Cd.skip ?_
 refine At.then ?_
 refine Cd.seq ?_
 refine Cd.block ?_
 refine Cd.seq ?_
 refine Cd.region ?_
 refine Lst.r (Ev.move rfl) ?_
 refine Lst.r (Ev.assign rfl) ?_
 refine Lst.nil ?_
 refine At.then ?_
 refine Cd.seq ?_
 refine Cd.quiet (by kernel_rfl) (by kernel_rfl) ?_
 refine Qt.r (Ev.move rfl) ?_
 refine Qt.r (Ev.move rfl) ?_
 obtain ⟨x5, h6, H⟩ := bind_some H
 have g7 := lat_some h6
 refine Qt.r (Ev.indexS (α := Int) (xs := a0) rfl rfl Try.runUnderlying36 Try.sizeOf3 rfl (by decide) (hs_a0.mono hF4 hM) g7.1 g7.2.1) ?_
 refine Qt.r (Ev.loadS (α := Int) rfl (hs_a0.mono hF4 hM) Try.isAgg3 (v := iv x5) ((Get.elemN (s := 1) (x := x5) rfl g7.2.2 (Get.here _)).off (by omega))) ?_
 refine Qt.r (Ev.move rfl) ?_
 refine Qt.r (Ev.move rfl) ?_
 obtain ⟨x8, h9, H⟩ := bind_some H
 have g10 := lat_some h9
 refine Qt.r (Ev.indexS (α := Int) (xs := a1) rfl rfl Try.runUnderlying36 Try.sizeOf3 rfl (by decide) (hs_a1.mono hF4 hM) g10.1 g10.2.1) ?_
 refine Qt.r (Ev.loadS (α := Int) rfl (hs_a1.mono hF4 hM) Try.isAgg3 (v := iv x8) ((Get.elemN (s := 1) (x := x8) rfl g10.2.2 (Get.here _)).off (by omega))) ?_
 refine Qt.r (Ev.neq rfl rfl) ?_
 refine Qt.done ?_
 refine At.then ?_
 rcases Bool.eq_false_or_eq_true (x5 != x8) with hb11 | hb11
 ·replace H := ite_t hb11 H
  refine Cd.condT rfl hb11 ?_
  refine Cd.seq ?_
  refine Cd.as (e' := []) (L' := L) trivial rfl ?_
  refine Cd.region ?_
  refine Lst.r (Ev.assign rfl) ?_
  refine Lst.nil ?_
  refine At.then ?_
  have H := hret2 _ (some_inj H).symm
  subst H
  replace H := HKl2
  obtain rfl := some_inj H
  refine Cd.ret ?_
  refine At.in_ret ?_
  refine At.then_ret ?_
  refine At.then_ret ?_
  refine At.in_ret ?_
  refine At.then_ret ?_
  exact At.ret1 rfl (Res.tmp rfl) hF4 (.refl _) ⟨rfl, rfl⟩
 replace H := ite_f hb11 H
 refine Cd.condF rfl hb11 ?_
 refine Cd.skip ?_
 refine At.in_normal ?_
 refine At.then ?_
 refine Cd.region ?_
 refine Lst.r (Ev.incr (by omega) rfl rfl) ?_
 refine Lst.r (Ev.move rfl) ?_
 refine Lst.nil ?_
 exact At.meet (i2 + 1, k2, ()) hF4 ⟨rfl, rfl, rfl, rfl, trivial⟩ rfl ⟨⟨hgo2 _ (some_inj H).symm, by omega⟩, Nat.lt_succ_self _⟩
set_option maxRecDepth 20000 in
theorem slices_EqualFunc_int_int_int_int_int_int_sim {a0 : List (List Int)} {a1 : List (List Int)} {s_a0 : Sl} {rs_a0 : List (LR Int)} {s_a1 : Sl} {rs_a1 : List (LR Int)} {r : Bool} (H : slices_EqualFunc_int_int_int_int_int_int a0 a1 = some r) (w0 : World) (F : Frz) (M L : List Item) (hM : M.Sublist L) (hm_a0 : rs_a0.map LR.v = a0) (hs_a0 : Rd w0 F M s_a0 rs_a0) (ha_a0 : All LR.rel w0 F M rs_a0) (hm_a1 : rs_a1.map LR.v = a1) (hs_a1 : Rd w0 F M s_a1 rs_a1) (ha_a1 : All LR.rel w0 F M rs_a1) : Ok Try.prog w0 127 [Sl.v s_a0, Sl.v s_a1, .func (.func 128) #[] #[]] F (L) (Is (.bool r) (L)) := by
 unfold slices_EqualFunc_int_int_int_int_int_int at H
 refine Ok.enter (m := 3) (n := 32) Try.func127 rfl rfl rfl (by decide) ?_
 refine Cd.env (e' := [(0, Sl.v s_a0), (1, Sl.v s_a1), (2, .func (.func 128) #[] #[])]) rfl ?_
 refine Cd.seq ?_
 refine Cd.region ?_
 refine Lst.r (Ev.assign rfl) ?_
 refine Lst.nil ?_
 refine At.then ?_
 refine Cd.seq ?_
 refine Cd.seq ?_
 refine Cd.region ?_
 refine Lst.r (Ev.move rfl) ?_
 refine Lst.r (Ev.lenM (map_len hm_a0) (Ev.lenS (α := LR Int) (xs := rs_a0) (by decide) rfl rfl Try.runUnderlying57 (hs_a0.mono (FLe.refl _) hM))) ?_
 refine Lst.r (Ev.move rfl) ?_
 refine Lst.r (Ev.lenM (map_len hm_a1) (Ev.lenS (α := LR Int) (xs := rs_a1) (by decide) rfl rfl Try.runUnderlying57 (hs_a1.mono (FLe.refl _) hM))) ?_
 refine Lst.r (Ev.neq rfl rfl) ?_
 refine Lst.nil ?_
 refine At.then ?_
 rcases Bool.eq_false_or_eq_true ((a0.length : Int) != (a1.length : Int)) with hb3 | hb3
 ·replace H := ite_t hb3 H
  refine Cd.condT rfl hb3 ?_
  refine Cd.seq ?_
  refine Cd.region ?_
  refine Lst.r (Ev.assign rfl) ?_
  refine Lst.nil ?_
  refine At.then ?_
  obtain rfl := some_inj H
  refine Cd.ret ?_
  refine At.then_ret ?_
  exact At.ret1 rfl (Res.tmp rfl) (FLe.refl _) (.refl _) ⟨rfl, rfl⟩
 replace H := ite_f hb3 H
 refine Cd.condF rfl hb3 ?_
 refine Cd.skip ?_
 refine At.then ?_
 refine Cd.seq ?_
 refine Cd.seq ?_
 refine Cd.region ?_
 refine Lst.r (Ev.move rfl) ?_
 refine Lst.r (Ev.lenM (map_len hm_a0) (Ev.lenS (α := LR Int) (xs := rs_a0) (by decide) rfl rfl Try.runUnderlying57 (hs_a0.mono (FLe.refl _) hM))) ?_
 refine Lst.r (Ev.move rfl) ?_
 refine Lst.nil ?_
 refine At.then ?_
 refine Cd.block ?_
 refine Cd.bound (Rd.le (α := LR Int) (xs := rs_a0) (by decide) (hs_a0.mono (FLe.refl _) hM)) (fun hN21 => ?_)
 rw [map_len hm_a0] at hN21
 obtain ⟨ol5, H, HKl5⟩ := andThen_some H
 refine Cd.loop (σ := Nat × Nat × Unit) (fun (i5, k5, _u) => [(1, Sl.v s_a1), (2, .func (.func 128) #[] #[]), (15, Sl.v s_a0), (16, iv (a0.length : Int)), (17, iv (i5 : Int))]) (fun (i5, k5, _u) => L) (fun _ => (fun (i5, k5, _u) => rangeM (slices_EqualFunc_int_int_int_int_int_int_B0 a0 a1) k5 i5 () = some ol5 ∧ i5 + k5 = a0.length)) (fun (i5, k5, _u) => k5) (0, a0.length, ()) ⟨rfl, rfl, rfl, rfl, rfl, trivial⟩ rfl ⟨H, by omega⟩ ?_
 rintro F6 ⟨i5, k5, _u⟩ hF7 ⟨H, hik5⟩
 refine Cd.as (e' := [(1, Sl.v s_a1), (2, .func (.func 128) #[] #[]), (15, Sl.v s_a0), (16, iv (a0.length : Int)), (17, iv (i5 : Int))]) (L' := L) ⟨rfl, rfl, rfl, rfl, rfl, trivial⟩ rfl ?_
 rcases k5 with _ | k5
 ·have hc5 : decide ((i5 : Int) < (a0.length : Int)) = false := decide_eq_false (by omega)
  replace H := rangeM_end H
  refine Cd.seq ?_
  refine Cd.region ?_
  refine Lst.r (Ev.lss rfl rfl) ?_
  refine Lst.nil ?_
  refine At.then ?_
  refine Cd.seq ?_
  refine Cd.condF rfl hc5 ?_
  refine Cd.exit ?_
  refine At.then_exit ?_
  refine At.then_exit ?_
  refine At.in_exit ?_
  subst H
  replace H := HKl5
  refine At.then ?_
  refine Cd.seq ?_
  refine Cd.region ?_
  refine Lst.r (Ev.assign rfl) ?_
  refine Lst.nil ?_
  refine At.then ?_
  obtain rfl := some_inj H
  refine Cd.ret ?_
  exact At.ret1 rfl (Res.tmp rfl) hF7 (.refl _) ⟨rfl, rfl⟩
 have hc5 : decide ((i5 : Int) < (a0.length : Int)) = true := decide_eq_true (by omega)
 obtain ⟨c5, H, hgo5, hbrk5, hret5⟩ := rangeM_go H
 unfold slices_EqualFunc_int_int_int_int_int_int_B0 at H
 try dsimp only at H
 refine Cd.seq ?_
 refine Cd.region ?_
 refine Lst.r (Ev.lss rfl rfl) ?_
 refine Lst.nil ?_
 refine At.then ?_
 refine Cd.seq ?_
 refine Cd.condT rfl hc5 ?_
 refine Cd.skip ?_
 refine At.then ?_
 refine Cd.seq ?_
 refine Cd.block ?_
 refine Cd.seq ?_
 refine Cd.region ?_
 refine Lst.r (Ev.move rfl) ?_
 obtain ⟨x8, h9, H⟩ := bind_some H
 have g10 := lat_some h9
 obtain ⟨⟨r11v, r11h⟩, r11g, r11e, r11m⟩ := map_get hm_a0 g10.2.2
 obtain rfl : x8 = r11v := r11e.symm
 have r11q : Rd w0 _ _ r11h x8 := ha_a0 _ r11m
 refine Lst.r (Ev.indexS (α := LR Int) (xs := rs_a0) rfl rfl Try.runUnderlying57 Try.sizeOf36 rfl (by decide) (hs_a0.mono hF7 hM) g10.1 (by have := map_len hm_a0; omega)) ?_
 refine Lst.r (Ev.loadS (α := LR Int) rfl (hs_a0.mono hF7 hM) Try.isAgg36 (v := Sl.v r11h) ((Get.elemN (s := 1) rfl r11g (Get.here _)).off (by omega))) ?_
 refine Lst.r (Ev.assign rfl) ?_
 refine Lst.r (Ev.assign rfl) ?_
 refine Lst.nil ?_
 refine At.then ?_
 refine Cd.seq ?_
 refine Cd.region ?_
 refine Lst.r (Ev.move rfl) ?_
 refine Lst.r (Ev.move rfl) ?_
 obtain ⟨x12, h13, H⟩ := bind_some H
 have g14 := lat_some h13
 obtain ⟨⟨r15v, r15h⟩, r15g, r15e, r15m⟩ := map_get hm_a1 g14.2.2
 obtain rfl : x12 = r15v := r15e.symm
 have r15q : Rd w0 _ _ r15h x12 := ha_a1 _ r15m
 refine Lst.r (Ev.indexS (α := LR Int) (xs := rs_a1) rfl rfl Try.runUnderlying57 Try.sizeOf36 rfl (by decide) (hs_a1.mono hF7 hM) g14.1 (by have := map_len hm_a1; omega)) ?_
 refine Lst.r (Ev.loadS (α := LR Int) rfl (hs_a1.mono hF7 hM) Try.isAgg36 (v := Sl.v r15h) ((Get.elemN (s := 1) rfl r15g (Get.here _)).off (by omega))) ?_
 refine Lst.r (Ev.assign rfl) ?_
 refine Lst.nil ?_
 refine At.then ?_
 refine Cd.seq ?_
 refine Cd.region ?_
 refine Lst.r (Ev.move rfl) ?_
 refine Lst.r (Ev.move rfl) ?_
 refine Lst.r (Ev.move rfl) ?_
 obtain ⟨r16, h17, H⟩ := bind_some H
 refine Lst.callV1 rfl rfl (by decide) (vs := [Sl.v r11h, Sl.v r15h]) (cs := []) rfl ⟨rfl, rfl, trivial⟩ Try.call128 (slices_Equal_int_int_sim h17 w0 _ M _ hM (r11q.mono hF7 (.refl _)) (r15q.mono hF7 (.refl _))) ?_
 refine Lst.r (Ev.not rfl) ?_
 refine Lst.nil ?_
 refine At.then ?_
 rcases Bool.eq_false_or_eq_true (!r16) with hb20 | hb20
 ·replace H := ite_t hb20 H
  refine Cd.condT rfl hb20 ?_
  refine Cd.seq ?_
  refine Cd.as (e' := []) (L' := L) trivial rfl ?_
  refine Cd.region ?_
  refine Lst.r (Ev.assign rfl) ?_
  refine Lst.nil ?_
  refine At.then ?_
  have H := hret5 _ (some_inj H).symm
  subst H
  replace H := HKl5
  obtain rfl := some_inj H
  refine Cd.ret ?_
  refine At.in_ret ?_
  refine At.then_ret ?_
  refine At.then_ret ?_
  refine At.in_ret ?_
  refine At.then_ret ?_
  exact At.ret1 rfl (Res.tmp rfl) hF7 (.refl _) ⟨rfl, rfl⟩
 replace H := ite_f hb20 H
 refine Cd.condF rfl hb20 ?_
 refine Cd.skip ?_
 refine At.in_normal ?_
 refine At.then ?_
 refine Cd.as (e' := [(1, Sl.v s_a1), (2, .func (.func 128) #[] #[]), (15, Sl.v s_a0), (16, iv (a0.length : Int)), (17, iv (i5 : Int))]) (L' := L) ⟨rfl, rfl, rfl, rfl, rfl, trivial⟩ rfl ?_
 refine Cd.region ?_
 refine Lst.r (Ev.incr (by omega) rfl rfl) ?_
 refine Lst.r (Ev.move rfl) ?_
 refine Lst.nil ?_
 exact At.meet (i5 + 1, k5, ()) hF7 ⟨rfl, rfl, rfl, rfl, rfl, trivial⟩ rfl ⟨⟨hgo5 _ (some_inj H).symm, by omega⟩, Nat.lt_succ_self _⟩
set_option maxRecDepth 20000 in
theorem partref_SameTurn_sim {a0 : Turn} {a1 : Turn} {s_a0_2 : Sl} {rs_a0_2 : List (LR Int)} {s_a0_3 : Sl} {s_a0_4 : Sl} {s_a1_2 : Sl} {rs_a1_2 : List (LR Int)} {s_a1_3 : Sl} {s_a1_4 : Sl} {r : Bool} (H : partref_SameTurn a0 a1 = some r) (w0 : World) (F : Frz) (M L : List Item) (hM : M.Sublist L) (hm_a0_2 : rs_a0_2.map LR.v = a0.Want) (hs_a0_2 : Rd w0 F M s_a0_2 rs_a0_2) (ha_a0_2 : All LR.rel w0 F M rs_a0_2) (hs_a0_3 : Rd w0 F M s_a0_3 a0.Log) (hs_a0_4 : Rd w0 F M s_a0_4 a0.Told) (hm_a1_2 : rs_a1_2.map LR.v = a1.Want) (hs_a1_2 : Rd w0 F M s_a1_2 rs_a1_2) (ha_a1_2 : All LR.rel w0 F M rs_a1_2) (hs_a1_3 : Rd w0 F M s_a1_3 a1.Log) (hs_a1_4 : Rd w0 F M s_a1_4 a1.Told) : Ok Try.prog w0 37 [.agg (enc (TurnR.mk a0 s_a0_2 s_a0_3 s_a0_4)).toArray, .agg (enc (TurnR.mk a1 s_a1_2 s_a1_3 s_a1_4)).toArray] F (L) (Is (.bool r) (L)) := by
 unfold partref_SameTurn at H
 refine Ok.enter (m := 2) (n := 38) Try.func37 rfl rfl rfl (by decide) ?_
 refine Cd.env (e' := [(0, .agg (enc (TurnR.mk a0 s_a0_2 s_a0_3 s_a0_4)).toArray), (1, .agg (enc (TurnR.mk a1 s_a1_2 s_a1_3 s_a1_4)).toArray)]) rfl ?_
 refine Cd.seq ?_
 refine Cd.region ?_
 refine Lst.box rfl rfl (by decide) rfl (cs := enc (TurnR.mk a0 s_a0_2 s_a0_3 s_a0_4)) rfl (fun b1 => ?_)
 refine Lst.box rfl rfl (by decide) rfl (cs := enc (TurnR.mk a1 s_a1_2 s_a1_3 s_a1_4)) rfl (fun b3 => ?_)
 refine Lst.r (Ev.assign rfl) ?_
 refine Lst.nil ?_
 refine At.then ?_
 refine Cd.seq ?_
 refine Cd.region ?_
 refine Lst.r (Ev.fieldAddr (off' := 0) rfl Try.runUnderlying59 rfl Try.sizeOf3 rfl rfl) ?_
 refine Lst.r (Ev.load (i := 1) rfl rfl Try.isAgg3 (v := iv a0.N) ((TurnR.get_N (Get.here _)).off (by rfl))) ?_
 refine Lst.r (Ev.fieldAddr (off' := 0) rfl Try.runUnderlying59 rfl Try.sizeOf3 rfl rfl) ?_
 refine Lst.r (Ev.load (i := 0) rfl rfl Try.isAgg3 (v := iv a1.N) ((TurnR.get_N (Get.here _)).off (by rfl))) ?_
 refine Lst.r (Ev.eql rfl rfl) ?_
 refine Lst.r (Ev.move rfl) ?_
 obtain ⟨o5, H, HKo5⟩ := bind_some H
 refine Lst.join (σ := Bool) 6 (fun y6 => [(2, pv b1 0), (3, pv b3 0), (16, .bool y6)]) (fun y6 => (.blk b3 (enc (TurnR.mk a1 s_a1_2 s_a1_3 s_a1_4)) 59) :: (.blk b1 (enc (TurnR.mk a0 s_a0_2 s_a0_3 s_a0_4)) 59) :: L) (fun _ y6 => y6 = o5) ?_ ?_
 ·rcases (Bool.eq_false_or_eq_true (a0.N == a1.N)).symm with hb7 | hb7
  ·replace H := ite_f hb7 H
   refine Lst.skip rfl rfl rfl hb7 rfl (by decide) ?_
   refine Lst.skip rfl rfl rfl hb7 rfl (by decide) ?_
   refine Lst.skip rfl rfl rfl hb7 rfl (by decide) ?_
   refine Lst.skip rfl rfl rfl hb7 rfl (by decide) ?_
   refine Lst.skip rfl rfl rfl hb7 rfl (by decide) ?_
   refine Lst.r (Ev.pickF rfl hb7 rfl) ?_
   refine Lst.nil ?_
   exact At.meet false (FLe.refl _) ⟨rfl, rfl, rfl, trivial⟩ rfl (some_inj H)
  replace H := ite_t hb7 H
  refine Lst.rG hb7 (Ev.fieldAddr (off' := 1) rfl Try.runUnderlying59 rfl Try.sizeOf3 rfl rfl) ?_
  refine Lst.rG hb7 (Ev.load (i := 1) rfl rfl Try.isAgg3 (v := iv a0.Has) ((TurnR.get_Has (Get.here _)).off (by rfl))) ?_
  refine Lst.rG hb7 (Ev.fieldAddr (off' := 1) rfl Try.runUnderlying59 rfl Try.sizeOf3 rfl rfl) ?_
  refine Lst.rG hb7 (Ev.load (i := 0) rfl rfl Try.isAgg3 (v := iv a1.Has) ((TurnR.get_Has (Get.here _)).off (by rfl))) ?_
  refine Lst.rG hb7 (Ev.eql rfl rfl) ?_
  refine Lst.r (Ev.pickT rfl hb7 rfl) ?_
  refine Lst.nil ?_
  exact At.meet (a0.Has == a1.Has) (FLe.refl _) ⟨rfl, rfl, rfl, trivial⟩ rfl (some_inj H)
 rintro F8 y6 hF9 hy
 subst hy
 refine Lst.as (e' := [(2, pv b1 0), (3, pv b3 0), (16, .bool y6)]) (L' := (.blk b3 (enc (TurnR.mk a1 s_a1_2 s_a1_3 s_a1_4)) 59) :: (.blk b1 (enc (TurnR.mk a0 s_a0_2 s_a0_3 s_a0_4)) 59) :: L) ⟨rfl, rfl, rfl, trivial⟩ rfl ?_
 replace H := HKo5
 refine Lst.r (Ev.move rfl) ?_
 obtain ⟨o10, H, HKo10⟩ := bind_some H
 refine Lst.join (σ := Bool) 6 (fun y11 => [(2, pv b1 0), (3, pv b3 0), (23, .bool y11)]) (fun y11 => (.blk b3 (enc (TurnR.mk a1 s_a1_2 s_a1_3 s_a1_4)) 59) :: (.blk b1 (enc (TurnR.mk a0 s_a0_2 s_a0_3 s_a0_4)) 59) :: L) (fun _ y11 => y11 = o10) ?_ ?_
 ·rcases (Bool.eq_false_or_eq_true y6).symm with hb12 | hb12
  ·replace H := ite_f hb12 H
   refine Lst.skip rfl rfl rfl hb12 rfl (by decide) ?_
   refine Lst.skip rfl rfl rfl hb12 rfl (by decide) ?_
   refine Lst.skip rfl rfl rfl hb12 rfl (by decide) ?_
   refine Lst.skip rfl rfl rfl hb12 rfl (by decide) ?_
   refine Lst.skip rfl rfl rfl hb12 rfl (by decide) ?_
   refine Lst.r (Ev.pickF rfl hb12 rfl) ?_
   refine Lst.nil ?_
   exact At.meet false (FLe.refl _) ⟨rfl, rfl, rfl, trivial⟩ rfl (some_inj H)
  replace H := ite_t hb12 H
  refine Lst.rG hb12 (Ev.fieldAddr (off' := 2) rfl Try.runUnderlying59 rfl Try.sizeOf57 rfl rfl) ?_
  refine Lst.rG hb12 (Ev.load (i := 1) rfl rfl Try.isAgg57 (v := Sl.v s_a0_2) ((TurnR.get_Want (Get.here _)).off (by rfl))) ?_
  refine Lst.rG hb12 (Ev.fieldAddr (off' := 2) rfl Try.runUnderlying59 rfl Try.sizeOf57 rfl rfl) ?_
  refine Lst.rG hb12 (Ev.load (i := 0) rfl rfl Try.isAgg57 (v := Sl.v s_a1_2) ((TurnR.get_Want (Get.here _)).off (by rfl))) ?_
  obtain ⟨r13, h14, H⟩ := bind_some H
  refine Lst.call1G rfl rfl rfl hb12 rfl (by decide) (vs := [Sl.v s_a0_2, Sl.v s_a1_2, .func (.func 128) #[] #[]]) ⟨rfl, rfl, rfl, trivial⟩ Try.call127 (slices_EqualFunc_int_int_int_int_int_int_sim h14 w0 _ M _ (sc2 hM) hm_a0_2 (hs_a0_2.mono hF9 (.refl _)) (All.monoLR ha_a0_2 hF9 (.refl _)) hm_a1_2 (hs_a1_2.mono hF9 (.refl _)) (All.monoLR ha_a1_2 hF9 (.refl _))) ?_
  refine Lst.r (Ev.pickT rfl hb12 rfl) ?_
  refine Lst.nil ?_
  exact At.meet r13 (FLe.refl _) ⟨rfl, rfl, rfl, trivial⟩ rfl (some_inj H)
 rintro F17 y11 hF18 hy
 subst hy
 refine Lst.as (e' := [(2, pv b1 0), (3, pv b3 0), (23, .bool y11)]) (L' := (.blk b3 (enc (TurnR.mk a1 s_a1_2 s_a1_3 s_a1_4)) 59) :: (.blk b1 (enc (TurnR.mk a0 s_a0_2 s_a0_3 s_a0_4)) 59) :: L) ⟨rfl, rfl, rfl, trivial⟩ rfl ?_
 replace H := HKo10
 refine Lst.r (Ev.move rfl) ?_
 obtain ⟨o19, H, HKo19⟩ := bind_some H
 refine Lst.join (σ := Bool) 6 (fun y20 => [(2, pv b1 0), (3, pv b3 0), (30, .bool y20)]) (fun y20 => (.blk b3 (enc (TurnR.mk a1 s_a1_2 s_a1_3 s_a1_4)) 59) :: (.blk b1 (enc (TurnR.mk a0 s_a0_2 s_a0_3 s_a0_4)) 59) :: L) (fun _ y20 => y20 = o19) ?_ ?_
 ·rcases (Bool.eq_false_or_eq_true y11).symm with hb21 | hb21
  ·replace H := ite_f hb21 H
   refine Lst.skip rfl rfl rfl hb21 rfl (by decide) ?_
   refine Lst.skip rfl rfl rfl hb21 rfl (by decide) ?_
   refine Lst.skip rfl rfl rfl hb21 rfl (by decide) ?_
   refine Lst.skip rfl rfl rfl hb21 rfl (by decide) ?_
   refine Lst.skip rfl rfl rfl hb21 rfl (by decide) ?_
   refine Lst.r (Ev.pickF rfl hb21 rfl) ?_
   refine Lst.nil ?_
   exact At.meet false (FLe.refl _) ⟨rfl, rfl, rfl, trivial⟩ rfl (some_inj H)
  replace H := ite_t hb21 H
  refine Lst.rG hb21 (Ev.fieldAddr (off' := 3) rfl Try.runUnderlying59 rfl Try.sizeOf36 rfl rfl) ?_
  refine Lst.rG hb21 (Ev.load (i := 1) rfl rfl Try.isAgg36 (v := Sl.v s_a0_3) ((TurnR.get_Log (Get.here _)).off (by rfl))) ?_
  refine Lst.rG hb21 (Ev.fieldAddr (off' := 3) rfl Try.runUnderlying59 rfl Try.sizeOf36 rfl rfl) ?_
  refine Lst.rG hb21 (Ev.load (i := 0) rfl rfl Try.isAgg36 (v := Sl.v s_a1_3) ((TurnR.get_Log (Get.here _)).off (by rfl))) ?_
  obtain ⟨r22, h23, H⟩ := bind_some H
  refine Lst.call1G rfl rfl rfl hb21 rfl (by decide) (vs := [Sl.v s_a0_3, Sl.v s_a1_3]) ⟨rfl, rfl, trivial⟩ Try.call128 (slices_Equal_int_int_sim h23 w0 _ M _ (sc2 hM) (hs_a0_3.mono (FLe.trans hF9 hF18) (.refl _)) (hs_a1_3.mono (FLe.trans hF9 hF18) (.refl _))) ?_
  refine Lst.r (Ev.pickT rfl hb21 rfl) ?_
  refine Lst.nil ?_
  exact At.meet r22 (FLe.refl _) ⟨rfl, rfl, rfl, trivial⟩ rfl (some_inj H)
 rintro F26 y20 hF27 hy
 subst hy
 refine Lst.as (e' := [(2, pv b1 0), (3, pv b3 0), (30, .bool y20)]) (L' := (.blk b3 (enc (TurnR.mk a1 s_a1_2 s_a1_3 s_a1_4)) 59) :: (.blk b1 (enc (TurnR.mk a0 s_a0_2 s_a0_3 s_a0_4)) 59) :: L) ⟨rfl, rfl, rfl, trivial⟩ rfl ?_
 replace H := HKo19
 refine Lst.r (Ev.move rfl) ?_
 obtain ⟨o28, H, HKo28⟩ := bind_some H
 refine Lst.join (σ := Bool) 6 (fun y29 => [(37, .bool y29)]) (fun y29 => (.blk b3 (enc (TurnR.mk a1 s_a1_2 s_a1_3 s_a1_4)) 59) :: (.blk b1 (enc (TurnR.mk a0 s_a0_2 s_a0_3 s_a0_4)) 59) :: L) (fun _ y29 => y29 = o28) ?_ ?_
 ·rcases (Bool.eq_false_or_eq_true y20).symm with hb30 | hb30
  ·replace H := ite_f hb30 H
   refine Lst.skip rfl rfl rfl hb30 rfl (by decide) ?_
   refine Lst.skip rfl rfl rfl hb30 rfl (by decide) ?_
   refine Lst.skip rfl rfl rfl hb30 rfl (by decide) ?_
   refine Lst.skip rfl rfl rfl hb30 rfl (by decide) ?_
   refine Lst.skip rfl rfl rfl hb30 rfl (by decide) ?_
   refine Lst.r (Ev.pickF rfl hb30 rfl) ?_
   refine Lst.nil ?_
   exact At.meet false (FLe.refl _) ⟨rfl, trivial⟩ rfl (some_inj H)
  replace H := ite_t hb30 H
  refine Lst.rG hb30 (Ev.fieldAddr (off' := 4) rfl Try.runUnderlying59 rfl Try.sizeOf36 rfl rfl) ?_
  refine Lst.rG hb30 (Ev.load (i := 1) rfl rfl Try.isAgg36 (v := Sl.v s_a0_4) ((TurnR.get_Told (Get.here _)).off (by rfl))) ?_
  refine Lst.rG hb30 (Ev.fieldAddr (off' := 4) rfl Try.runUnderlying59 rfl Try.sizeOf36 rfl rfl) ?_
  refine Lst.rG hb30 (Ev.load (i := 0) rfl rfl Try.isAgg36 (v := Sl.v s_a1_4) ((TurnR.get_Told (Get.here _)).off (by rfl))) ?_
  obtain ⟨r31, h32, H⟩ := bind_some H
  refine Lst.call1G rfl rfl rfl hb30 rfl (by decide) (vs := [Sl.v s_a0_4, Sl.v s_a1_4]) ⟨rfl, rfl, trivial⟩ Try.call128 (slices_Equal_int_int_sim h32 w0 _ M _ (sc2 hM) (hs_a0_4.mono (FLe.trans (FLe.trans hF9 hF18) hF27) (.refl _)) (hs_a1_4.mono (FLe.trans (FLe.trans hF9 hF18) hF27) (.refl _))) ?_
  refine Lst.r (Ev.pickT rfl hb30 rfl) ?_
  refine Lst.nil ?_
  exact At.meet r31 (FLe.refl _) ⟨rfl, trivial⟩ rfl (some_inj H)
 rintro F35 y29 hF36 hy
 subst hy
 refine Lst.as (e' := [(37, .bool y29)]) (L' := (.blk b3 (enc (TurnR.mk a1 s_a1_2 s_a1_3 s_a1_4)) 59) :: (.blk b1 (enc (TurnR.mk a0 s_a0_2 s_a0_3 s_a0_4)) 59) :: L) ⟨rfl, trivial⟩ rfl ?_
 replace H := HKo28
 refine Lst.r (Ev.assign rfl) ?_
 refine Lst.nil ?_
 refine At.then ?_
 obtain rfl := some_inj H
 refine Cd.ret ?_
 exact At.ret1 rfl (Res.tmp rfl) (FLe.trans (FLe.trans (FLe.trans hF9 hF18) hF27) hF36) (sc1 (sc1 (.refl _))) ⟨rfl, rfl⟩
set_option maxRecDepth 20000 in
theorem slices_Grow_int_int_sim {a1 : Int} {r : (List Int)} (H : slices_Grow_int_int a1 = some r) (w0 : World) (F : Frz) (M L : List Item) (hM : M.Sublist L) : Ok Try.prog w0 137 [Sl.v Sl.nil, iv a1] F (L) (fun _ L' v => ∃ (s1 : Sl), v = Sl.v s1 ∧ L' = (.own s1 3 1 (encs r)) :: L) := by
 unfold slices_Grow_int_int at H
 refine Ok.enter (m := 2) (n := 27) Try.func137 rfl rfl rfl (by decide) ?_
 refine Cd.env (e' := [(0, Sl.v Sl.nil), (1, iv a1)]) rfl ?_
 refine Cd.seq ?_
 refine Cd.region ?_
 refine Lst.addNil 3 1 ?_
 refine Lst.r (Ev.assign rfl) ?_
 refine Lst.nil ?_
 refine At.then ?_
 refine Cd.seq ?_
 refine Cd.seq ?_
 refine Cd.region ?_
 refine Lst.r (Ev.move rfl) ?_
 refine Lst.r (Ev.lss rfl rfl) ?_
 refine Lst.nil ?_
 refine At.then ?_
 rcases Bool.eq_false_or_eq_true (decide (a1 < (0 : Int))) with hb2 | hb2
 ·replace H := ite_t hb2 H
  cases H
 replace H := ite_f hb2 H
 refine Cd.condF rfl hb2 ?_
 refine Cd.skip ?_
 refine At.then ?_
 obtain ⟨o6, H, HKo6⟩ := bind_some H
 refine Cd.join (σ := Sl × (List Int)) (fun (s3, l4) => [(0, Sl.v s3)]) (fun (s3, l4) => (.own s3 3 1 (encs l4)) :: (.own Sl.nil 3 1 (encs ([] : List Int))) :: L) (fun _ (s3, l4) => l4 = o6) ?_ ?_
 ·refine Cd.seq ?_
  refine Cd.region ?_
  refine Lst.r (Ev.move rfl) ?_
  refine Lst.r (Ev.move rfl) ?_
  refine Lst.r (Ev.capNil rfl rfl Try.runUnderlying36) ?_
  refine Lst.r (Ev.move rfl) ?_
  refine Lst.r (Ev.lenNil rfl rfl Try.runUnderlying36) ?_
  refine Lst.r (Ev.sub rfl rfl) ?_
  refine Lst.r (Ev.sub rfl rfl) ?_
  refine Lst.r (Ev.assign rfl) ?_
  refine Lst.nil ?_
  refine At.then ?_
  refine Cd.seq ?_
  refine Cd.region ?_
  refine Lst.r (Ev.move rfl) ?_
  refine Lst.r (Ev.gtr rfl rfl) ?_
  refine Lst.nil ?_
  refine At.then ?_
  rcases (Bool.eq_false_or_eq_true (decide ((w64 (a1 - (w64 ((0 : Int) - (0 : Int))))) > (0 : Int)))).symm with hb7 | hb7
  ·replace H := ite_f hb7 H
   refine Cd.condF rfl hb7 ?_
   refine Cd.skip ?_
   refine At.addNil 3 1 ?_
   exact At.meet (Sl.nil, ([] : List Int)) (FLe.refl _) ⟨rfl, trivial⟩ rfl (some_inj H)
  replace H := ite_t hb7 H
  refine Cd.condT rfl hb7 ?_
  refine Cd.region ?_
  refine Lst.r (Ev.move rfl) ?_
  refine Lst.r (Ev.move rfl) ?_
  refine Lst.r (Ev.capNil rfl rfl Try.runUnderlying36) ?_
  refine Lst.r (Ev.cutNil rfl rfl Try.runUnderlying36 Try.sizeOf3) ?_
  refine Lst.r (Ev.move rfl) ?_
  obtain ⟨n10, h11, H⟩ := bind_some H
  have g12 := mkLen_some h11
  refine Lst.addNil 3 1 ?_
  refine Lst.appendZeros (α := Int) (i := 0) (k := n10) (0 : Int) rfl rfl (by decide) rfl (congrArg some (congrArg (Value.int .i64) g12.1)) Try.runUnderlying36 Try.runUnderlying3 Try.typeInfo3 rfl rfl rfl rfl rfl g12.2 rfl rfl (fun s13 => ?_)
  refine Lst.its (L' := (.own s13 3 1 (encs (List.replicate n10 (0 : Int)))) :: (.own Sl.nil 3 1 (encs ([] : List Int))) :: L) rfl ?_
  refine Lst.r (Ev.move rfl) ?_
  refine Lst.r (Ev.lenNil rfl rfl Try.runUnderlying36) ?_
  obtain ⟨m14, h15, H⟩ := bind_some H
  obtain ⟨g16, gl17⟩ := cutL_some h15
  try dsimp only at g16
  refine Lst.r (Ev.cut (α := Int) (xs := (List.replicate n10 (0 : Int))) (i := 0) (j := (0 : Int)) rfl rfl rfl Try.runUnderlying36 Try.sizeOf3 rfl (by decide) (Rd.own (i := 0) rfl rfl rfl) g16.1 g16.2.1 g16.2.2) ?_
  refine Lst.cutOwn (i := 0) (α := Int) (lo := (0 : Int).toNat) (hi := ((0 : Int) : Int).toNat) rfl rfl rfl (by decide) (by omega) (by omega) (L' := (.own (s13.cut (0 : Int).toNat ((0 : Int) : Int).toNat 1) 3 1 (encs m14)) :: (.own Sl.nil 3 1 (encs ([] : List Int))) :: L) (by subst gl17; rfl) ?_
  refine Lst.r (Ev.assign rfl) ?_
  refine Lst.nil ?_
  exact At.meet ((s13.cut (0 : Int).toNat ((0 : Int) : Int).toNat 1), m14) (FLe.refl _) ⟨rfl, trivial⟩ rfl (some_inj H)
 rintro F19 ⟨s3, l4⟩ hF20 hy
 subst hy
 refine Cd.as (e' := [(0, Sl.v s3)]) (L' := (.own s3 3 1 (encs l4)) :: (.own Sl.nil 3 1 (encs ([] : List Int))) :: L) ⟨rfl, trivial⟩ rfl ?_
 replace H := HKo6
 refine Cd.seq ?_
 refine Cd.region ?_
 refine Lst.r (Ev.move rfl) ?_
 refine Lst.r (Ev.assign rfl) ?_
 refine Lst.nil ?_
 refine At.then ?_
 obtain rfl := some_inj H
 refine Cd.ret ?_
 exact At.ret1 rfl (Res.tmp rfl) hF20 (sk1 (sc1 (.refl _))) ⟨s3, rfl, rfl⟩
set_option maxRecDepth 20000 in
theorem slices_Concat_int_int_sim {a0 : List (List Int)} {s_a0 : Sl} {rs_a0 : List (LR Int)} {r : (List Int)} (H : slices_Concat_int_int a0 = some r) (w0 : World) (F : Frz) (M L : List Item) (hM : M.Sublist L) (hm_a0 : rs_a0.map LR.v = a0) (hs_a0 : Rd w0 F M s_a0 rs_a0) (ha_a0 : All LR.rel w0 F M rs_a0) : Ok Try.prog w0 51 [Sl.v s_a0] F (L) (fun _ L' v => ∃ (s1 : Sl), v = Sl.v s1 ∧ L' = (.own s1 3 1 (encs r)) :: L) := by
 unfold slices_Concat_int_int at H
 refine Ok.enter (m := 1) (n := 36) Try.func51 rfl rfl rfl (by decide) ?_
 refine Cd.env (e' := [(0, Sl.v s_a0)]) rfl ?_
 refine Cd.seq ?_
 refine Cd.region ?_
 refine Lst.addNil 3 1 ?_
 refine Lst.r (Ev.assign rfl) ?_
 refine Lst.nil ?_
 refine At.then ?_
 refine Cd.seq ?_
 refine Cd.region ?_
 refine Lst.r (Ev.assign rfl) ?_
 refine Lst.nil ?_
 refine At.then ?_
 refine Cd.seq ?_
 refine Cd.seq ?_
 refine Cd.region ?_
 refine Lst.r (Ev.move rfl) ?_
 refine Lst.r (Ev.lenM (map_len hm_a0) (Ev.lenS (α := LR Int) (xs := rs_a0) (by decide) rfl rfl Try.runUnderlying57 (hs_a0.mono (FLe.refl _) (sc1 hM)))) ?_
 refine Lst.r (Ev.move rfl) ?_
 refine Lst.nil ?_
 refine At.then ?_
 refine Cd.block ?_
 refine Cd.bound (Rd.le (α := LR Int) (xs := rs_a0) (by decide) (hs_a0.mono (FLe.refl _) (sc1 hM))) (fun hN32 => ?_)
 rw [map_len hm_a0] at hN32
 obtain ⟨ol3, H, HKl3⟩ := bind_some H
 refine Cd.loop (σ := Nat × Nat × Int) (fun (i3, k3, y4) => [(0, Sl.v s_a0), (3, iv y4), (9, Sl.v s_a0), (10, iv (a0.length : Int)), (11, iv (i3 : Int))]) (fun (i3, k3, y4) => (.own Sl.nil 3 1 (encs ([] : List Int))) :: L) (fun _ => (fun (i3, k3, y4) => rangeF (slices_Concat_int_int_B0 a0) k3 i3 y4 = some ol3 ∧ i3 + k3 = a0.length)) (fun (i3, k3, y4) => k3) (0, a0.length, (0 : Int)) ⟨rfl, rfl, rfl, rfl, rfl, trivial⟩ rfl ⟨H, by omega⟩ ?_
 rintro F5 ⟨i3, k3, y4⟩ hF6 ⟨H, hik3⟩
 refine Cd.as (e' := [(0, Sl.v s_a0), (3, iv y4), (9, Sl.v s_a0), (10, iv (a0.length : Int)), (11, iv (i3 : Int))]) (L' := (.own Sl.nil 3 1 (encs ([] : List Int))) :: L) ⟨rfl, rfl, rfl, rfl, rfl, trivial⟩ rfl ?_
 rcases k3 with _ | k3
 ·have hc3 : decide ((i3 : Int) < (a0.length : Int)) = false := decide_eq_false (by omega)
  replace H := rangeF_end H
  refine Cd.seq ?_
  refine Cd.region ?_
  refine Lst.r (Ev.lss rfl rfl) ?_
  refine Lst.nil ?_
  refine At.then ?_
  refine Cd.seq ?_
  refine Cd.condF rfl hc3 ?_
  refine Cd.exit ?_
  refine At.then_exit ?_
  refine At.then_exit ?_
  refine At.in_exit ?_
  subst H
  replace H := HKl3
  refine At.then ?_
  refine Cd.seq ?_
  refine Cd.region ?_
  refine Lst.r (Ev.move rfl) ?_
  obtain ⟨r12, h13, H⟩ := bind_some H
  refine Lst.call rfl rfl (by decide) (vs := [Sl.v Sl.nil, iv y4]) ⟨rfl, rfl, trivial⟩ Try.call137 (slices_Grow_int_int_sim h13 w0 _ M _ (sc1 hM)) (fun F16 L' v hF17 hv => ?_)
  obtain ⟨s14, rfl, rfl⟩ := hv
  refine Lst.r (Ev.assign rfl) ?_
  refine Lst.nil ?_
  refine At.then ?_
  refine Cd.seq ?_
  refine Cd.seq ?_
  refine Cd.region ?_
  refine Lst.r (Ev.move rfl) ?_
  refine Lst.r (Ev.lenM (map_len hm_a0) (Ev.lenS (α := LR Int) (xs := rs_a0) (by decide) rfl rfl Try.runUnderlying57 (hs_a0.mono (FLe.trans hF6 hF17) (sc2 hM)))) ?_
  refine Lst.r (Ev.move rfl) ?_
  refine Lst.nil ?_
  refine At.then ?_
  refine Cd.block ?_
  refine Cd.bound (Rd.le (α := LR Int) (xs := rs_a0) (by decide) (hs_a0.mono (FLe.trans hF6 hF17) (sc2 hM))) (fun hN31 => ?_)
  rw [map_len hm_a0] at hN31
  obtain ⟨ol19, H, HKl19⟩ := bind_some H
  refine Cd.loop (σ := Nat × Nat × Sl × (List Int)) (fun (i19, k19, s20, l21) => [(6, Sl.v s20), (25, Sl.v s_a0), (26, iv (a0.length : Int)), (27, iv (i19 : Int))]) (fun (i19, k19, s20, l21) => (.own s20 3 1 (encs l21)) :: (.own Sl.nil 3 1 (encs ([] : List Int))) :: L) (fun _ => (fun (i19, k19, s20, l21) => rangeF (slices_Concat_int_int_B2 a0) k19 i19 l21 = some ol19 ∧ i19 + k19 = a0.length)) (fun (i19, k19, s20, l21) => k19) (0, a0.length, s14, r12) ⟨rfl, rfl, rfl, rfl, trivial⟩ rfl ⟨H, by omega⟩ ?_
  rintro F22 ⟨i19, k19, s20, l21⟩ hF23 ⟨H, hik19⟩
  refine Cd.as (e' := [(6, Sl.v s20), (25, Sl.v s_a0), (26, iv (a0.length : Int)), (27, iv (i19 : Int))]) (L' := (.own s20 3 1 (encs l21)) :: (.own Sl.nil 3 1 (encs ([] : List Int))) :: L) ⟨rfl, rfl, rfl, rfl, trivial⟩ rfl ?_
  rcases k19 with _ | k19
  ·have hc19 : decide ((i19 : Int) < (a0.length : Int)) = false := decide_eq_false (by omega)
   replace H := rangeF_end H
   refine Cd.seq ?_
   refine Cd.region ?_
   refine Lst.r (Ev.lss rfl rfl) ?_
   refine Lst.nil ?_
   refine At.then ?_
   refine Cd.seq ?_
   refine Cd.condF rfl hc19 ?_
   refine Cd.exit ?_
   refine At.then_exit ?_
   refine At.then_exit ?_
   refine At.in_exit ?_
   subst H
   replace H := HKl19
   refine At.then ?_
   refine Cd.seq ?_
   refine Cd.region ?_
   refine Lst.r (Ev.move rfl) ?_
   refine Lst.r (Ev.assign rfl) ?_
   refine Lst.nil ?_
   refine At.then ?_
   obtain rfl := some_inj H
   refine Cd.ret ?_
   exact At.ret1 rfl (Res.tmp rfl) (FLe.trans (FLe.trans hF6 hF17) hF23) (sk1 (sc1 (.refl _))) ⟨s20, rfl, rfl⟩
  have hc19 : decide ((i19 : Int) < (a0.length : Int)) = true := decide_eq_true (by omega)
  obtain ⟨c19, H, hgo19⟩ := rangeF_go H
  unfold slices_Concat_int_int_B2 at H
  try dsimp only at H
  refine Cd.seq ?_
  refine Cd.region ?_
  refine Lst.r (Ev.lss rfl rfl) ?_
  refine Lst.nil ?_
  refine At.then ?_
  refine Cd.seq ?_
  refine Cd.condT rfl hc19 ?_
  refine Cd.skip ?_
  refine At.then ?_
  refine Cd.seq ?_
  refine Cd.block ?_
  refine Cd.seq ?_
  refine Cd.region ?_
  obtain ⟨x24, h25, H⟩ := bind_some H
  have g26 := lat_some h25
  obtain ⟨⟨r27v, r27h⟩, r27g, r27e, r27m⟩ := map_get hm_a0 g26.2.2
  obtain rfl : x24 = r27v := r27e.symm
  have r27q : Rd w0 _ _ r27h x24 := ha_a0 _ r27m
  refine Lst.r (Ev.indexS (α := LR Int) (xs := rs_a0) rfl rfl Try.runUnderlying57 Try.sizeOf36 rfl (by decide) (hs_a0.mono (FLe.trans (FLe.trans hF6 hF17) hF23) (sc2 hM)) g26.1 (by have := map_len hm_a0; omega)) ?_
  refine Lst.r (Ev.loadS (α := LR Int) rfl (hs_a0.mono (FLe.trans (FLe.trans hF6 hF17) hF23) (sc2 hM)) Try.isAgg36 (v := Sl.v r27h) ((Get.elemN (s := 1) rfl r27g (Get.here _)).off (by omega))) ?_
  refine Lst.r (Ev.assign rfl) ?_
  refine Lst.nil ?_
  refine At.then ?_
  refine Cd.region ?_
  refine Lst.r (Ev.move rfl) ?_
  refine Lst.r (Ev.move rfl) ?_
  obtain ⟨u28, h29, H⟩ := bind_some H
  refine Lst.append (i := 0) (α := Int) (xs := l21) (ys := x24) rfl rfl (by decide) rfl rfl Try.runUnderlying36 Try.typeInfo3 rfl rfl rfl rfl rfl rfl (r27q.mono (FLe.trans (FLe.trans hF6 hF17) hF23) (sc2 hM)) rfl (room_some h29) rfl (fun s30 => ?_)
  refine Lst.its (L' := (.own s30 3 1 (encs (l21 ++ x24))) :: (.own Sl.nil 3 1 (encs ([] : List Int))) :: L) rfl ?_
  refine Lst.r (Ev.assign rfl) ?_
  refine Lst.nil ?_
  refine At.in_normal ?_
  refine At.then ?_
  refine Cd.region ?_
  refine Lst.r (Ev.incr (by omega) rfl rfl) ?_
  refine Lst.r (Ev.move rfl) ?_
  refine Lst.nil ?_
  exact At.meet (i19 + 1, k19, s30, l21 ++ x24) hF23 ⟨rfl, rfl, rfl, rfl, trivial⟩ rfl ⟨⟨hgo19 _ (some_inj H).symm, by omega⟩, Nat.lt_succ_self _⟩
 have hc3 : decide ((i3 : Int) < (a0.length : Int)) = true := decide_eq_true (by omega)
 obtain ⟨c3, H, hgo3⟩ := rangeF_go H
 unfold slices_Concat_int_int_B0 at H
 try dsimp only at H
 refine Cd.seq ?_
 refine Cd.region ?_
 refine Lst.r (Ev.lss rfl rfl) ?_
 refine Lst.nil ?_
 refine At.then ?_
 refine Cd.seq ?_
 refine Cd.condT rfl hc3 ?_
 refine Cd.skip ?_
 refine At.then ?_
 refine Cd.seq ?_
 refine Cd.block ?_
 refine Cd.seq ?_
 refine Cd.region ?_
 obtain ⟨x7, h8, H⟩ := bind_some H
 have g9 := lat_some h8
 obtain ⟨⟨r10v, r10h⟩, r10g, r10e, r10m⟩ := map_get hm_a0 g9.2.2
 obtain rfl : x7 = r10v := r10e.symm
 have r10q : Rd w0 _ _ r10h x7 := ha_a0 _ r10m
 refine Lst.r (Ev.indexS (α := LR Int) (xs := rs_a0) rfl rfl Try.runUnderlying57 Try.sizeOf36 rfl (by decide) (hs_a0.mono hF6 (sc1 hM)) g9.1 (by have := map_len hm_a0; omega)) ?_
 refine Lst.r (Ev.loadS (α := LR Int) rfl (hs_a0.mono hF6 (sc1 hM)) Try.isAgg36 (v := Sl.v r10h) ((Get.elemN (s := 1) rfl r10g (Get.here _)).off (by omega))) ?_
 refine Lst.r (Ev.assign rfl) ?_
 refine Lst.nil ?_
 refine At.then ?_
 refine Cd.seq ?_
 refine Cd.region ?_
 refine Lst.r (Ev.move rfl) ?_
 refine Lst.r (Ev.move rfl) ?_
 refine Lst.r (Ev.lenS (α := Int) (xs := x7) (by decide) rfl rfl Try.runUnderlying36 (r10q.mono hF6 (sc1 hM))) ?_
 refine Lst.r (Ev.add rfl rfl) ?_
 refine Lst.r (Ev.assign rfl) ?_
 refine Lst.nil ?_
 refine At.then ?_
 refine Cd.seq ?_
 refine Cd.region ?_
 refine Lst.r (Ev.move rfl) ?_
 refine Lst.r (Ev.lss rfl rfl) ?_
 refine Lst.nil ?_
 refine At.then ?_
 rcases Bool.eq_false_or_eq_true (decide ((w64 (y4 + (x7.length : Int))) < (0 : Int))) with hb11 | hb11
 ·replace H := ite_t hb11 H
  cases H
 replace H := ite_f hb11 H
 refine Cd.condF rfl hb11 ?_
 refine Cd.skip ?_
 refine At.in_normal ?_
 refine At.then ?_
 refine Cd.region ?_
 refine Lst.r (Ev.incr (by omega) rfl rfl) ?_
 refine Lst.r (Ev.move rfl) ?_
 refine Lst.nil ?_
 exact At.meet (i3 + 1, k3, w64 (y4 + (x7.length : Int))) hF6 ⟨rfl, rfl, rfl, rfl, rfl, trivial⟩ rfl ⟨⟨hgo3 _ (some_inj H).symm, by omega⟩, Nat.lt_succ_self _⟩
set_option maxHeartbeats 2000000 in
set_option maxRecDepth 20000 in
theorem partref_TurnStep_sim {a0 : Turn} {a1 : Beat} {s_a0_2 : Sl} {rs_a0_2 : List (LR Int)} {s_a0_3 : Sl} {s_a0_4 : Sl} {r : Turn × Int × Int} (H : partref_TurnStep a0 a1 = some r) (w0 : World) (F : Frz) (M L : List Item) (hM : M.Sublist L) (hm_a0_2 : rs_a0_2.map LR.v = a0.Want) (hs_a0_2 : Rd w0 F M s_a0_2 rs_a0_2) (ha_a0_2 : All LR.rel w0 F M rs_a0_2) (hs_a0_3 : Rd w0 F M s_a0_3 a0.Log) (hs_a0_4 : Rd w0 F M s_a0_4 a0.Told) : Ok Try.prog w0 38 [.agg (enc (TurnR.mk a0 s_a0_2 s_a0_3 s_a0_4)).toArray, .agg (enc a1).toArray] F (L) (fun Fx L' v => ∃ (s1 : Sl) (rs2 : List (LR Int)) (s6 : Sl) (s8 : Sl), v = .tuple #[.agg (enc (TurnR.mk r.1 s1 s6 s8)).toArray, iv r.2.1, iv r.2.2] ∧ L' = (.rows (α := Int) 3 rs2) :: (.own s1 36 1 (encs rs2)) :: (.own s8 3 1 (encs r.1.Told)) :: L ∧ rs2.map LR.v = r.1.Want ∧ Rd w0 Fx M s6 r.1.Log) := by
 unfold partref_TurnStep at H
 refine Ok.enter (m := 2) (n := 175) Try.func38 rfl rfl rfl (by decide) ?_
 refine Cd.env (e' := [(0, .agg (enc (TurnR.mk a0 s_a0_2 s_a0_3 s_a0_4)).toArray), (1, .agg (enc a1).toArray)]) rfl ?_
 refine Cd.seq ?_
 refine Cd.region ?_
 refine Lst.box rfl rfl (by decide) rfl (cs := enc (TurnR.mk a0 s_a0_2 s_a0_3 s_a0_4)) rfl (fun b1 => ?_)
 refine Lst.box rfl rfl (by decide) rfl (cs := enc a1) rfl (fun b3 => ?_)
 have ha6 : All LR.rel w0 F [] ([] : List (LR Int)) := All.nil
 have ha6m : List.map LR.v ([] : List (LR Int)) = ([] : List (List Int)) := rfl
 refine Lst.addNil 36 1 ?_
 refine Lst.addNil 3 1 ?_
 refine Lst.addNil 3 1 ?_
 refine Lst.alloc (cs := enc (TurnR.mk ({ Turn.zero with Want := ([] : List (List Int)), Log := ([] : List Int), Told := ([] : List Int) } : Turn) Sl.nil Sl.nil Sl.nil)) rfl rfl (by decide) Try.zeroValue59 rfl (fun b9 => ?_)
 refine Lst.r (Ev.assign rfl) ?_
 refine Lst.r (Ev.assign rfl) ?_
 refine Lst.nil ?_
 refine At.then ?_
 refine Cd.seq ?_
 obtain ⟨r11, h12, H⟩ := bind_some H
 obtain ⟨r17, h18, H⟩ := bind_some H
 obtain ⟨o44, h45, H⟩ := Let_some H
 refine Cd.headMeet (σ := Nat × Sl × (List Int) × Sl × (List Int) × Sl × (List (List Int)) × (List (LR Int)) × Sl × (List Int) × Sl × (List Int)) 12 (fun (b30, s31, l32, s33, l34, s35, l36, rs37, s40, l41, s42, l43) => [(2, pv b1 0), (3, pv b3 0), (4, pv b9 0), (7, pv b30 0), (28, .agg (enc (TurnR.mk ({ Turn.zero with N := a0.N, Has := a0.Has, Log := l43, Told := l41 } : Turn) Sl.nil s42 s40)).toArray)]) (fun (b30, s31, l32, s33, l34, s35, l36, rs37, s40, l41, s42, l43) => (.blk b30 (enc (TurnR.mk ({ Turn.zero with Want := l36, Log := l34, Told := l32 } : Turn) s35 s33 s31)) 59) :: (.own s31 3 1 (encs l32)) :: (.own s33 3 1 (encs l34)) :: (.own s35 36 1 (encs rs37)) :: (.own s40 3 1 (encs l41)) :: (.own s42 3 1 (encs l43)) :: (.blk b9 (enc (TurnR.mk ({ Turn.zero with Want := ([] : List (List Int)), Log := ([] : List Int), Told := ([] : List Int) } : Turn) Sl.nil Sl.nil Sl.nil)) 59) :: (.own Sl.nil 3 1 (encs ([] : List Int))) :: (.own Sl.nil 3 1 (encs ([] : List Int))) :: (.own Sl.nil 36 1 (encs ([] : List (LR Int)))) :: (.blk b3 (enc a1) 61) :: (.blk b1 (enc (TurnR.mk a0 s_a0_2 s_a0_3 s_a0_4)) 59) :: L) (fun Fx (b30, s31, l32, s33, l34, s35, l36, rs37, s40, l41, s42, l43) => (l32, l34, l36, l41, l43) = o44 ∧ rs37.map LR.v = l36 ∧ All LR.rel w0 Fx M rs37) (by kernel_rfl) (by kernel_rfl) (behind_sink (by kernel_rfl) (by kernel_rfl) (by kernel_rfl)) (by kernel_rfl) (fun hsel hlt => ?_) ?_
 ·refine HdJ.keep (fun w => St w0 F ((.blk b9 (enc (TurnR.mk ({ Turn.zero with Want := ([] : List (List Int)), Log := ([] : List Int), Told := ([] : List Int) } : Turn) Sl.nil Sl.nil Sl.nil)) 59) :: (.own Sl.nil 3 1 (encs ([] : List Int))) :: (.own Sl.nil 3 1 (encs ([] : List Int))) :: (.own Sl.nil 36 1 (encs ([] : List (LR Int)))) :: (.blk b3 (enc a1) 61) :: (.blk b1 (enc (TurnR.mk a0 s_a0_2 s_a0_3 s_a0_4)) 59) :: L) w) (fun w h => trivial) ?_
  refine HdJ.tk hsel hlt 0 (fun w h => h.sublist (sk1 (sk1 (sk1 (sk1 (sk1 (sk1 (.refl _)))))))) rfl (Ev.fieldAddr (off' := 0) rfl Try.runUnderlying59 rfl Try.sizeOf3 rfl rfl) ?_
  refine HdJ.tk hsel hlt 1 (fun w h => h.sublist (sk1 (sk1 (sk1 (sk1 (sk1 (sk1 (.refl _)))))))) rfl (Ev.load (i := 5) rfl rfl Try.isAgg3 (v := iv a0.N) ((TurnR.get_N (Get.here _)).off (by rfl))) ?_
  refine HdJ.tk hsel hlt 2 (fun w h => h.sublist (sk1 (sk1 (sk1 (sk1 (sk1 (sk1 (.refl _)))))))) rfl (Ev.fieldAddr (off' := 1) rfl Try.runUnderlying59 rfl Try.sizeOf3 rfl rfl) ?_
  refine HdJ.tk hsel hlt 3 (fun w h => h.sublist (sk1 (sk1 (sk1 (sk1 (sk1 (sk1 (.refl _)))))))) rfl (Ev.load (i := 5) rfl rfl Try.isAgg3 (v := iv a0.Has) ((TurnR.get_Has (Get.here _)).off (by rfl))) ?_
  refine HdJ.tk hsel hlt 4 (fun w h => h.sublist (sk1 (sk1 (sk1 (sk1 (sk1 (sk1 (.refl _)))))))) rfl (Ev.fieldAddr (off' := 3) rfl Try.runUnderlying59 rfl Try.sizeOf36 rfl rfl) ?_
  refine HdJ.tk hsel hlt 5 (fun w h => h.sublist (sk1 (sk1 (sk1 (sk1 (sk1 (sk1 (.refl _)))))))) rfl (Ev.load (i := 5) rfl rfl Try.isAgg36 (v := Sl.v s_a0_3) ((TurnR.get_Log (Get.here _)).off (by rfl))) ?_
  refine HdJ.tk hsel hlt 7 (fun w h => h.sublist (sk1 (sk1 (sk1 (sk1 (sk1 (sk1 (.refl _)))))))) rfl (Ev.fieldAddr (off' := 4) rfl Try.runUnderlying59 rfl Try.sizeOf36 rfl rfl) ?_
  refine HdJ.tk hsel hlt 8 (fun w h => h.sublist (sk1 (sk1 (sk1 (sk1 (sk1 (sk1 (.refl _)))))))) rfl (Ev.load (i := 5) rfl rfl Try.isAgg36 (v := Sl.v s_a0_4) ((TurnR.get_Told (Get.here _)).off (by rfl))) ?_
  refine HdJ.step [6, 11] (by kernel_rfl) rfl ?_
  refine HdStep.c (fun inv => ?_) ?_
  ·refine Lst.call rfl rfl (by decide) (vs := [Sl.v s_a0_3]) ⟨rfl, trivial⟩ Try.call129 (slices_Clone_int_int_sim h12 w0 _ M _ (sc4 (sc2 hM)) (hs_a0_3.mono (FLe.refl _) (.refl _))) (fun F47 L' v hF48 hv => ?_)
   obtain ⟨s46, rfl, rfl⟩ := hv
   refine Lst.nil ?_
   refine At.hd inv (fun w h => (h.weaken hF48).sublist (sc1 (sk1 (sk1 (sk1 (sk1 (sk1 (sk1 (.refl _))))))))) ?_
   refine HdJ.step [9, 11] (by kernel_rfl) rfl ?_
   refine HdStep.c (fun inv => ?_) ?_
   ·refine Lst.call rfl rfl (by decide) (vs := [Sl.v s_a0_4]) ⟨rfl, trivial⟩ Try.call129 (slices_Clone_int_int_sim h18 w0 _ M _ (sc4 (sc2 (sc1 hM))) (hs_a0_4.mono hF48 (.refl _))) (fun F50 L' v hF51 hv => ?_)
    obtain ⟨s49, rfl, rfl⟩ := hv
    refine Lst.nil ?_
    refine At.hd inv (fun w h => (h.weaken (FLe.trans hF48 hF51)).sublist (sc1 (sc1 (sk1 (sk1 (sk1 (sk1 (sk1 (sk1 (.refl _)))))))))) ?_
    refine HdJ.keep (fun w => St w0 F50 ((.own s49 3 1 (encs r17)) :: (.own s46 3 1 (encs r11)) :: (.blk b9 (enc (TurnR.mk ({ Turn.zero with Want := ([] : List (List Int)), Log := ([] : List Int), Told := ([] : List Int) } : Turn) Sl.nil Sl.nil Sl.nil)) 59) :: (.own Sl.nil 3 1 (encs ([] : List Int))) :: (.own Sl.nil 3 1 (encs ([] : List Int))) :: (.own Sl.nil 36 1 (encs ([] : List (LR Int)))) :: (.blk b3 (enc a1) 61) :: (.blk b1 (enc (TurnR.mk a0 s_a0_2 s_a0_3 s_a0_4)) 59) :: L) w) (fun w h => (h.weaken (FLe.trans hF48 hF51)).sublist (sc1 (sc1 (sk1 (sk1 (sk1 (sk1 (sk1 (sk1 (.refl _)))))))))) ?_
    refine HdJ.tk hsel hlt 10 (fun w h => h.sublist (sk1 (sk1 (sk1 (sk1 (sk1 (sk1 (sk1 (sk1 (.refl _)))))))))) rfl (Ev.build (v := .agg (enc (TurnR.mk ({ Turn.zero with N := a0.N, Has := a0.Has, Log := r11, Told := r17 } : Turn) Sl.nil s46 s49)).toArray) (pv := [(0, iv a0.N), (1, iv a0.Has), (3, Sl.v s46), (4, Sl.v s49)]) ⟨rfl, rfl, ⟨rfl, rfl, ⟨rfl, rfl, ⟨rfl, rfl, trivial⟩⟩⟩⟩ (run_buildStruct (places := #[(0, 1), (1, 1), (2, 1), (3, 1), (4, 1)]) Try.zeroValue59 (zs := enc (TurnR.mk Turn.zero Sl.nil Sl.nil Sl.nil)) rfl Try.runUnderlying59 (fun w => by kernel_rfl) (fill_cons (cs := enc (TurnR.mk Turn.zero Sl.nil Sl.nil Sl.nil)) (cs' := enc (TurnR.mk ({ Turn.zero with N := a0.N } : Turn) Sl.nil Sl.nil Sl.nil)) (vs := [iv a0.N]) rfl rfl rfl ((TurnR.put_N (p := (TurnR.mk Turn.zero Sl.nil Sl.nil Sl.nil)) (y := a0.N) (Put.here (vs := [iv a0.N]) rfl)).off rfl) (fill_cons (cs := enc (TurnR.mk ({ Turn.zero with N := a0.N } : Turn) Sl.nil Sl.nil Sl.nil)) (cs' := enc (TurnR.mk ({ Turn.zero with N := a0.N, Has := a0.Has } : Turn) Sl.nil Sl.nil Sl.nil)) (vs := [iv a0.Has]) rfl rfl rfl ((TurnR.put_Has (p := (TurnR.mk ({ Turn.zero with N := a0.N } : Turn) Sl.nil Sl.nil Sl.nil)) (y := a0.Has) (Put.here (vs := [iv a0.Has]) rfl)).off rfl) (fill_cons (cs := enc (TurnR.mk ({ Turn.zero with N := a0.N, Has := a0.Has } : Turn) Sl.nil Sl.nil Sl.nil)) (cs' := enc (TurnR.mk ({ Turn.zero with N := a0.N, Has := a0.Has, Log := r11 } : Turn) Sl.nil s46 Sl.nil)) (vs := [Sl.v s46]) rfl rfl rfl ((TurnR.put_Log (p := (TurnR.mk ({ Turn.zero with N := a0.N, Has := a0.Has } : Turn) Sl.nil Sl.nil Sl.nil)) (y := s46) (Put.here (vs := [Sl.v s46]) rfl)).off rfl) (fill_cons (cs := enc (TurnR.mk ({ Turn.zero with N := a0.N, Has := a0.Has, Log := r11 } : Turn) Sl.nil s46 Sl.nil)) (cs' := enc (TurnR.mk ({ Turn.zero with N := a0.N, Has := a0.Has, Log := r11, Told := r17 } : Turn) Sl.nil s46 s49)) (vs := [Sl.v s49]) rfl rfl rfl ((TurnR.put_Told (p := (TurnR.mk ({ Turn.zero with N := a0.N, Has := a0.Has, Log := r11 } : Turn) Sl.nil s46 Sl.nil)) (y := s49) (Put.here (vs := [Sl.v s49]) rfl)).off rfl) fill_nil)))))) ?_
    refine HdJ.step [11] (by kernel_rfl) rfl ?_
    refine HdStep.c (fun inv => ?_) ?_
    ·have ha52 : All LR.rel w0 F50 [] ([] : List (LR Int)) := All.nil
     have ha52m : List.map LR.v ([] : List (LR Int)) = ([] : List (List Int)) := rfl
     refine Lst.addNil 36 1 ?_
     refine Lst.addNil 3 1 ?_
     refine Lst.addNil 3 1 ?_
     refine Lst.alloc (cs := enc (TurnR.mk ({ Turn.zero with Want := ([] : List (List Int)), Log := ([] : List Int), Told := ([] : List Int) } : Turn) Sl.nil Sl.nil Sl.nil)) rfl rfl (by decide) Try.zeroValue59 rfl (fun b53 => ?_)
     refine Lst.nil ?_
     refine At.hd inv (fun w h => (h.weaken (FLe.refl _)).sublist (sc1 (sc1 (sc1 (sc1 (sk1 (sk1 (sk1 (sk1 (sk1 (sk1 (sk1 (sk1 (.refl _)))))))))))))) ?_
     refine HdJ.done (by kernel_rfl) ?_
     exact At.meetN (b53, Sl.nil, ([] : List Int), Sl.nil, ([] : List Int), Sl.nil, ([] : List (List Int)), ([] : List (LR Int)), s49, r17, s46, r11) (FLe.trans hF48 hF51) ⟨rfl, rfl, rfl, rfl, rfl, trivial⟩ rfl ⟨h45, ha52m, (All.monoLR ha52 (FLe.refl _) (List.nil_sublist _))⟩
    exact trivial
   refine HdStep.c (fun inv => ?_) ?_
   ·have ha54 : All LR.rel w0 F47 [] ([] : List (LR Int)) := All.nil
    have ha54m : List.map LR.v ([] : List (LR Int)) = ([] : List (List Int)) := rfl
    refine Lst.addNil 36 1 ?_
    refine Lst.addNil 3 1 ?_
    refine Lst.addNil 3 1 ?_
    refine Lst.alloc (cs := enc (TurnR.mk ({ Turn.zero with Want := ([] : List (List Int)), Log := ([] : List Int), Told := ([] : List Int) } : Turn) Sl.nil Sl.nil Sl.nil)) rfl rfl (by decide) Try.zeroValue59 rfl (fun b55 => ?_)
    refine Lst.nil ?_
    refine At.hd inv (fun w h => (h.weaken hF48).sublist (sc1 (sc1 (sc1 (sc1 (sc1 (sk1 (sk1 (sk1 (sk1 (sk1 (sk1 (.refl _))))))))))))) ?_
    refine HdJ.step [9] (by kernel_rfl) rfl ?_
    refine HdStep.c (fun inv => ?_) ?_
    ·refine Lst.call rfl rfl (by decide) (vs := [Sl.v s_a0_4]) ⟨rfl, trivial⟩ Try.call129 (slices_Clone_int_int_sim h18 w0 _ M _ (sc8 (sc2 (sc1 hM))) (hs_a0_4.mono hF48 (.refl _))) (fun F57 L' v hF58 hv => ?_)
     obtain ⟨s56, rfl, rfl⟩ := hv
     refine Lst.nil ?_
     refine At.hd inv (fun w h => (h.weaken (FLe.trans hF48 hF58)).sublist (sc1 (sc1 (sc1 (sc1 (sc1 (sc1 (sk1 (sk1 (sk1 (sk1 (sk1 (sk1 (.refl _)))))))))))))) ?_
     refine HdJ.keep (fun w => St w0 F57 ((.own s56 3 1 (encs r17)) :: (.blk b55 (enc (TurnR.mk ({ Turn.zero with Want := ([] : List (List Int)), Log := ([] : List Int), Told := ([] : List Int) } : Turn) Sl.nil Sl.nil Sl.nil)) 59) :: (.own Sl.nil 3 1 (encs ([] : List Int))) :: (.own Sl.nil 3 1 (encs ([] : List Int))) :: (.own Sl.nil 36 1 (encs ([] : List (LR Int)))) :: (.own s46 3 1 (encs r11)) :: (.blk b9 (enc (TurnR.mk ({ Turn.zero with Want := ([] : List (List Int)), Log := ([] : List Int), Told := ([] : List Int) } : Turn) Sl.nil Sl.nil Sl.nil)) 59) :: (.own Sl.nil 3 1 (encs ([] : List Int))) :: (.own Sl.nil 3 1 (encs ([] : List Int))) :: (.own Sl.nil 36 1 (encs ([] : List (LR Int)))) :: (.blk b3 (enc a1) 61) :: (.blk b1 (enc (TurnR.mk a0 s_a0_2 s_a0_3 s_a0_4)) 59) :: L) w) (fun w h => (h.weaken (FLe.trans hF48 hF58)).sublist (sc1 (sc1 (sc1 (sc1 (sc1 (sc1 (sk1 (sk1 (sk1 (sk1 (sk1 (sk1 (.refl _)))))))))))))) ?_
     refine HdJ.tk hsel hlt 10 (fun w h => h.sublist (sk1 (sk1 (sk1 (sk1 (sk1 (sk1 (sk1 (sk1 (sk1 (sk1 (sk1 (sk1 (.refl _)))))))))))))) rfl (Ev.build (v := .agg (enc (TurnR.mk ({ Turn.zero with N := a0.N, Has := a0.Has, Log := r11, Told := r17 } : Turn) Sl.nil s46 s56)).toArray) (pv := [(0, iv a0.N), (1, iv a0.Has), (3, Sl.v s46), (4, Sl.v s56)]) ⟨rfl, rfl, ⟨rfl, rfl, ⟨rfl, rfl, ⟨rfl, rfl, trivial⟩⟩⟩⟩ (run_buildStruct (places := #[(0, 1), (1, 1), (2, 1), (3, 1), (4, 1)]) Try.zeroValue59 (zs := enc (TurnR.mk Turn.zero Sl.nil Sl.nil Sl.nil)) rfl Try.runUnderlying59 (fun w => by kernel_rfl) (fill_cons (cs := enc (TurnR.mk Turn.zero Sl.nil Sl.nil Sl.nil)) (cs' := enc (TurnR.mk ({ Turn.zero with N := a0.N } : Turn) Sl.nil Sl.nil Sl.nil)) (vs := [iv a0.N]) rfl rfl rfl ((TurnR.put_N (p := (TurnR.mk Turn.zero Sl.nil Sl.nil Sl.nil)) (y := a0.N) (Put.here (vs := [iv a0.N]) rfl)).off rfl) (fill_cons (cs := enc (TurnR.mk ({ Turn.zero with N := a0.N } : Turn) Sl.nil Sl.nil Sl.nil)) (cs' := enc (TurnR.mk ({ Turn.zero with N := a0.N, Has := a0.Has } : Turn) Sl.nil Sl.nil Sl.nil)) (vs := [iv a0.Has]) rfl rfl rfl ((TurnR.put_Has (p := (TurnR.mk ({ Turn.zero with N := a0.N } : Turn) Sl.nil Sl.nil Sl.nil)) (y := a0.Has) (Put.here (vs := [iv a0.Has]) rfl)).off rfl) (fill_cons (cs := enc (TurnR.mk ({ Turn.zero with N := a0.N, Has := a0.Has } : Turn) Sl.nil Sl.nil Sl.nil)) (cs' := enc (TurnR.mk ({ Turn.zero with N := a0.N, Has := a0.Has, Log := r11 } : Turn) Sl.nil s46 Sl.nil)) (vs := [Sl.v s46]) rfl rfl rfl ((TurnR.put_Log (p := (TurnR.mk ({ Turn.zero with N := a0.N, Has := a0.Has } : Turn) Sl.nil Sl.nil Sl.nil)) (y := s46) (Put.here (vs := [Sl.v s46]) rfl)).off rfl) (fill_cons (cs := enc (TurnR.mk ({ Turn.zero with N := a0.N, Has := a0.Has, Log := r11 } : Turn) Sl.nil s46 Sl.nil)) (cs' := enc (TurnR.mk ({ Turn.zero with N := a0.N, Has := a0.Has, Log := r11, Told := r17 } : Turn) Sl.nil s46 s56)) (vs := [Sl.v s56]) rfl rfl rfl ((TurnR.put_Told (p := (TurnR.mk ({ Turn.zero with N := a0.N, Has := a0.Has, Log := r11 } : Turn) Sl.nil s46 Sl.nil)) (y := s56) (Put.here (vs := [Sl.v s56]) rfl)).off rfl) fill_nil)))))) ?_
     refine HdJ.done (by kernel_rfl) ?_
     refine At.front (i := 4) rfl rfl ?_
     refine At.front (i := 4) rfl rfl ?_
     refine At.front (i := 4) rfl (L' := (.own Sl.nil 3 1 (encs ([] : List Int))) :: (.own Sl.nil 3 1 (encs ([] : List Int))) :: (.own Sl.nil 36 1 (encs ([] : List (LR Int)))) :: (.own s56 3 1 (encs r17)) :: (.blk b55 (enc (TurnR.mk ({ Turn.zero with Want := ([] : List (List Int)), Log := ([] : List Int), Told := ([] : List Int) } : Turn) Sl.nil Sl.nil Sl.nil)) 59) :: (.own s46 3 1 (encs r11)) :: (.blk b9 (enc (TurnR.mk ({ Turn.zero with Want := ([] : List (List Int)), Log := ([] : List Int), Told := ([] : List Int) } : Turn) Sl.nil Sl.nil Sl.nil)) 59) :: (.own Sl.nil 3 1 (encs ([] : List Int))) :: (.own Sl.nil 3 1 (encs ([] : List Int))) :: (.own Sl.nil 36 1 (encs ([] : List (LR Int)))) :: (.blk b3 (enc a1) 61) :: (.blk b1 (enc (TurnR.mk a0 s_a0_2 s_a0_3 s_a0_4)) 59) :: L) rfl ?_
     refine At.front (i := 4) rfl (L' := (.blk b55 (enc (TurnR.mk ({ Turn.zero with Want := ([] : List (List Int)), Log := ([] : List Int), Told := ([] : List Int) } : Turn) Sl.nil Sl.nil Sl.nil)) 59) :: (.own Sl.nil 3 1 (encs ([] : List Int))) :: (.own Sl.nil 3 1 (encs ([] : List Int))) :: (.own Sl.nil 36 1 (encs ([] : List (LR Int)))) :: (.own s56 3 1 (encs r17)) :: (.own s46 3 1 (encs r11)) :: (.blk b9 (enc (TurnR.mk ({ Turn.zero with Want := ([] : List (List Int)), Log := ([] : List Int), Told := ([] : List Int) } : Turn) Sl.nil Sl.nil Sl.nil)) 59) :: (.own Sl.nil 3 1 (encs ([] : List Int))) :: (.own Sl.nil 3 1 (encs ([] : List Int))) :: (.own Sl.nil 36 1 (encs ([] : List (LR Int)))) :: (.blk b3 (enc a1) 61) :: (.blk b1 (enc (TurnR.mk a0 s_a0_2 s_a0_3 s_a0_4)) 59) :: L) rfl ?_
     exact At.meetN (b55, Sl.nil, ([] : List Int), Sl.nil, ([] : List Int), Sl.nil, ([] : List (List Int)), ([] : List (LR Int)), s56, r17, s46, r11) (FLe.trans hF48 hF58) ⟨rfl, rfl, rfl, rfl, rfl, trivial⟩ rfl ⟨h45, ha54m, (All.monoLR ha54 hF58 (List.nil_sublist _))⟩
    exact trivial
   exact trivial
  refine HdStep.c (fun inv => ?_) ?_
  ·have ha59 : All LR.rel w0 F [] ([] : List (LR Int)) := All.nil
   have ha59m : List.map LR.v ([] : List (LR Int)) = ([] : List (List Int)) := rfl
   refine Lst.addNil 36 1 ?_
   refine Lst.addNil 3 1 ?_
   refine Lst.addNil 3 1 ?_
   refine Lst.alloc (cs := enc (TurnR.mk ({ Turn.zero with Want := ([] : List (List Int)), Log := ([] : List Int), Told := ([] : List Int) } : Turn) Sl.nil Sl.nil Sl.nil)) rfl rfl (by decide) Try.zeroValue59 rfl (fun b60 => ?_)
   refine Lst.nil ?_
   refine At.hd inv (fun w h => (h.weaken (FLe.refl _)).sublist (sc1 (sc1 (sc1 (sc1 (sk1 (sk1 (sk1 (sk1 (sk1 (sk1 (.refl _)))))))))))) ?_
   refine HdJ.step [6] (by kernel_rfl) rfl ?_
   refine HdStep.c (fun inv => ?_) ?_
   ·refine Lst.call rfl rfl (by decide) (vs := [Sl.v s_a0_3]) ⟨rfl, trivial⟩ Try.call129 (slices_Clone_int_int_sim h12 w0 _ M _ (sc8 (sc2 hM)) (hs_a0_3.mono (FLe.refl _) (.refl _))) (fun F62 L' v hF63 hv => ?_)
    obtain ⟨s61, rfl, rfl⟩ := hv
    refine Lst.nil ?_
    refine At.hd inv (fun w h => (h.weaken hF63).sublist (sc1 (sc1 (sc1 (sc1 (sc1 (sk1 (sk1 (sk1 (sk1 (sk1 (sk1 (.refl _))))))))))))) ?_
    refine HdJ.step [9] (by kernel_rfl) rfl ?_
    refine HdStep.c (fun inv => ?_) ?_
    ·refine Lst.call rfl rfl (by decide) (vs := [Sl.v s_a0_4]) ⟨rfl, trivial⟩ Try.call129 (slices_Clone_int_int_sim h18 w0 _ M _ (sc8 (sc2 (sc1 hM))) (hs_a0_4.mono hF63 (.refl _))) (fun F65 L' v hF66 hv => ?_)
     obtain ⟨s64, rfl, rfl⟩ := hv
     refine Lst.nil ?_
     refine At.hd inv (fun w h => (h.weaken (FLe.trans hF63 hF66)).sublist (sc1 (sc1 (sc1 (sc1 (sc1 (sc1 (sk1 (sk1 (sk1 (sk1 (sk1 (sk1 (.refl _)))))))))))))) ?_
     refine HdJ.keep (fun w => St w0 F65 ((.own s64 3 1 (encs r17)) :: (.own s61 3 1 (encs r11)) :: (.blk b60 (enc (TurnR.mk ({ Turn.zero with Want := ([] : List (List Int)), Log := ([] : List Int), Told := ([] : List Int) } : Turn) Sl.nil Sl.nil Sl.nil)) 59) :: (.own Sl.nil 3 1 (encs ([] : List Int))) :: (.own Sl.nil 3 1 (encs ([] : List Int))) :: (.own Sl.nil 36 1 (encs ([] : List (LR Int)))) :: (.blk b9 (enc (TurnR.mk ({ Turn.zero with Want := ([] : List (List Int)), Log := ([] : List Int), Told := ([] : List Int) } : Turn) Sl.nil Sl.nil Sl.nil)) 59) :: (.own Sl.nil 3 1 (encs ([] : List Int))) :: (.own Sl.nil 3 1 (encs ([] : List Int))) :: (.own Sl.nil 36 1 (encs ([] : List (LR Int)))) :: (.blk b3 (enc a1) 61) :: (.blk b1 (enc (TurnR.mk a0 s_a0_2 s_a0_3 s_a0_4)) 59) :: L) w) (fun w h => (h.weaken (FLe.trans hF63 hF66)).sublist (sc1 (sc1 (sc1 (sc1 (sc1 (sc1 (sk1 (sk1 (sk1 (sk1 (sk1 (sk1 (.refl _)))))))))))))) ?_
     refine HdJ.tk hsel hlt 10 (fun w h => h.sublist (sk1 (sk1 (sk1 (sk1 (sk1 (sk1 (sk1 (sk1 (sk1 (sk1 (sk1 (sk1 (.refl _)))))))))))))) rfl (Ev.build (v := .agg (enc (TurnR.mk ({ Turn.zero with N := a0.N, Has := a0.Has, Log := r11, Told := r17 } : Turn) Sl.nil s61 s64)).toArray) (pv := [(0, iv a0.N), (1, iv a0.Has), (3, Sl.v s61), (4, Sl.v s64)]) ⟨rfl, rfl, ⟨rfl, rfl, ⟨rfl, rfl, ⟨rfl, rfl, trivial⟩⟩⟩⟩ (run_buildStruct (places := #[(0, 1), (1, 1), (2, 1), (3, 1), (4, 1)]) Try.zeroValue59 (zs := enc (TurnR.mk Turn.zero Sl.nil Sl.nil Sl.nil)) rfl Try.runUnderlying59 (fun w => by kernel_rfl) (fill_cons (cs := enc (TurnR.mk Turn.zero Sl.nil Sl.nil Sl.nil)) (cs' := enc (TurnR.mk ({ Turn.zero with N := a0.N } : Turn) Sl.nil Sl.nil Sl.nil)) (vs := [iv a0.N]) rfl rfl rfl ((TurnR.put_N (p := (TurnR.mk Turn.zero Sl.nil Sl.nil Sl.nil)) (y := a0.N) (Put.here (vs := [iv a0.N]) rfl)).off rfl) (fill_cons (cs := enc (TurnR.mk ({ Turn.zero with N := a0.N } : Turn) Sl.nil Sl.nil Sl.nil)) (cs' := enc (TurnR.mk ({ Turn.zero with N := a0.N, Has := a0.Has } : Turn) Sl.nil Sl.nil Sl.nil)) (vs := [iv a0.Has]) rfl rfl rfl ((TurnR.put_Has (p := (TurnR.mk ({ Turn.zero with N := a0.N } : Turn) Sl.nil Sl.nil Sl.nil)) (y := a0.Has) (Put.here (vs := [iv a0.Has]) rfl)).off rfl) (fill_cons (cs := enc (TurnR.mk ({ Turn.zero with N := a0.N, Has := a0.Has } : Turn) Sl.nil Sl.nil Sl.nil)) (cs' := enc (TurnR.mk ({ Turn.zero with N := a0.N, Has := a0.Has, Log := r11 } : Turn) Sl.nil s61 Sl.nil)) (vs := [Sl.v s61]) rfl rfl rfl ((TurnR.put_Log (p := (TurnR.mk ({ Turn.zero with N := a0.N, Has := a0.Has } : Turn) Sl.nil Sl.nil Sl.nil)) (y := s61) (Put.here (vs := [Sl.v s61]) rfl)).off rfl) (fill_cons (cs := enc (TurnR.mk ({ Turn.zero with N := a0.N, Has := a0.Has, Log := r11 } : Turn) Sl.nil s61 Sl.nil)) (cs' := enc (TurnR.mk ({ Turn.zero with N := a0.N, Has := a0.Has, Log := r11, Told := r17 } : Turn) Sl.nil s61 s64)) (vs := [Sl.v s64]) rfl rfl rfl ((TurnR.put_Told (p := (TurnR.mk ({ Turn.zero with N := a0.N, Has := a0.Has, Log := r11 } : Turn) Sl.nil s61 Sl.nil)) (y := s64) (Put.here (vs := [Sl.v s64]) rfl)).off rfl) fill_nil)))))) ?_
     refine HdJ.done (by kernel_rfl) ?_
     refine At.front (i := 5) rfl rfl ?_
     refine At.front (i := 5) rfl rfl ?_
     refine At.front (i := 5) rfl (L' := (.own Sl.nil 3 1 (encs ([] : List Int))) :: (.own Sl.nil 3 1 (encs ([] : List Int))) :: (.own Sl.nil 36 1 (encs ([] : List (LR Int)))) :: (.own s64 3 1 (encs r17)) :: (.own s61 3 1 (encs r11)) :: (.blk b60 (enc (TurnR.mk ({ Turn.zero with Want := ([] : List (List Int)), Log := ([] : List Int), Told := ([] : List Int) } : Turn) Sl.nil Sl.nil Sl.nil)) 59) :: (.blk b9 (enc (TurnR.mk ({ Turn.zero with Want := ([] : List (List Int)), Log := ([] : List Int), Told := ([] : List Int) } : Turn) Sl.nil Sl.nil Sl.nil)) 59) :: (.own Sl.nil 3 1 (encs ([] : List Int))) :: (.own Sl.nil 3 1 (encs ([] : List Int))) :: (.own Sl.nil 36 1 (encs ([] : List (LR Int)))) :: (.blk b3 (enc a1) 61) :: (.blk b1 (enc (TurnR.mk a0 s_a0_2 s_a0_3 s_a0_4)) 59) :: L) rfl ?_
     refine At.front (i := 5) rfl (L' := (.blk b60 (enc (TurnR.mk ({ Turn.zero with Want := ([] : List (List Int)), Log := ([] : List Int), Told := ([] : List Int) } : Turn) Sl.nil Sl.nil Sl.nil)) 59) :: (.own Sl.nil 3 1 (encs ([] : List Int))) :: (.own Sl.nil 3 1 (encs ([] : List Int))) :: (.own Sl.nil 36 1 (encs ([] : List (LR Int)))) :: (.own s64 3 1 (encs r17)) :: (.own s61 3 1 (encs r11)) :: (.blk b9 (enc (TurnR.mk ({ Turn.zero with Want := ([] : List (List Int)), Log := ([] : List Int), Told := ([] : List Int) } : Turn) Sl.nil Sl.nil Sl.nil)) 59) :: (.own Sl.nil 3 1 (encs ([] : List Int))) :: (.own Sl.nil 3 1 (encs ([] : List Int))) :: (.own Sl.nil 36 1 (encs ([] : List (LR Int)))) :: (.blk b3 (enc a1) 61) :: (.blk b1 (enc (TurnR.mk a0 s_a0_2 s_a0_3 s_a0_4)) 59) :: L) rfl ?_
     exact At.meetN (b60, Sl.nil, ([] : List Int), Sl.nil, ([] : List Int), Sl.nil, ([] : List (List Int)), ([] : List (LR Int)), s64, r17, s61, r11) (FLe.trans hF63 hF66) ⟨rfl, rfl, rfl, rfl, rfl, trivial⟩ rfl ⟨h45, ha59m, (All.monoLR ha59 (FLe.trans hF63 hF66) (List.nil_sublist _))⟩
    exact trivial
   exact trivial
  exact trivial
 rintro F67 ⟨b30, s31, l32, s33, l34, s35, l36, rs37, s40, l41, s42, l43⟩ hF68 ⟨hy, fm38, fa39⟩
 subst hy
 refine Lst.as (e' := [(2, pv b1 0), (3, pv b3 0), (4, pv b9 0), (7, pv b30 0), (28, .agg (enc (TurnR.mk ({ Turn.zero with N := a0.N, Has := a0.Has, Log := l43, Told := l41 } : Turn) Sl.nil s42 s40)).toArray)]) (L' := (.blk b30 (enc (TurnR.mk ({ Turn.zero with Want := l36, Log := l34, Told := l32 } : Turn) s35 s33 s31)) 59) :: (.own s31 3 1 (encs l32)) :: (.own s33 3 1 (encs l34)) :: (.own s35 36 1 (encs rs37)) :: (.own s40 3 1 (encs l41)) :: (.own s42 3 1 (encs l43)) :: (.blk b9 (enc (TurnR.mk ({ Turn.zero with Want := ([] : List (List Int)), Log := ([] : List Int), Told := ([] : List Int) } : Turn) Sl.nil Sl.nil Sl.nil)) 59) :: (.own Sl.nil 3 1 (encs ([] : List Int))) :: (.own Sl.nil 3 1 (encs ([] : List Int))) :: (.own Sl.nil 36 1 (encs ([] : List (LR Int)))) :: (.blk b3 (enc a1) 61) :: (.blk b1 (enc (TurnR.mk a0 s_a0_2 s_a0_3 s_a0_4)) 59) :: L) ⟨rfl, rfl, rfl, rfl, rfl, trivial⟩ rfl ?_
 refine Lst.store (i := 0) rfl rfl rfl rfl rfl Try.sizeOf59 (vs := enc (TurnR.mk ({ Turn.zero with N := a0.N, Has := a0.Has, Log := l43, Told := l41 } : Turn) Sl.nil s42 s40)) rfl (Enc.len _) (Enc.one _) (cs' := enc (TurnR.mk ({ Turn.zero with N := a0.N, Has := a0.Has, Log := l43, Told := l41 } : Turn) Sl.nil s42 s40)) (Put.here ((Enc.len _).trans (Enc.len _).symm)) (L' := (.blk b30 (enc (TurnR.mk ({ Turn.zero with N := a0.N, Has := a0.Has, Log := l43, Told := l41 } : Turn) Sl.nil s42 s40)) 59) :: (.own s31 3 1 (encs l32)) :: (.own s33 3 1 (encs l34)) :: (.own s35 36 1 (encs rs37)) :: (.own s40 3 1 (encs l41)) :: (.own s42 3 1 (encs l43)) :: (.blk b9 (enc (TurnR.mk ({ Turn.zero with Want := ([] : List (List Int)), Log := ([] : List Int), Told := ([] : List Int) } : Turn) Sl.nil Sl.nil Sl.nil)) 59) :: (.own Sl.nil 3 1 (encs ([] : List Int))) :: (.own Sl.nil 3 1 (encs ([] : List Int))) :: (.own Sl.nil 36 1 (encs ([] : List (LR Int)))) :: (.blk b3 (enc a1) 61) :: (.blk b1 (enc (TurnR.mk a0 s_a0_2 s_a0_3 s_a0_4)) 59) :: L) rfl ?_
 refine Lst.nil ?_
 refine At.then ?_
 refine Cd.seq ?_
 refine Cd.region ?_
 refine Lst.r (Ev.build (v := .agg (enc (TurnR.mk Turn.zero Sl.nil Sl.nil Sl.nil)).toArray) (pv := []) trivial (fun w => by kernel_rfl)) ?_
 have ha70 : All LR.rel w0 F67 [] ([] : List (LR Int)) := All.nil
 have ha70m : List.map LR.v ([] : List (LR Int)) = ([] : List (List Int)) := rfl
 refine Lst.addNil 36 1 ?_
 refine Lst.addNil 3 1 ?_
 refine Lst.addNil 3 1 ?_
 refine Lst.alloc (cs := enc (TurnR.mk ({ Turn.zero with Want := ([] : List (List Int)), Log := ([] : List Int), Told := ([] : List Int) } : Turn) Sl.nil Sl.nil Sl.nil)) rfl rfl (by decide) Try.zeroValue59 rfl (fun b73 => ?_)
 refine Lst.store (i := 0) rfl rfl rfl rfl rfl Try.sizeOf59 (vs := enc (TurnR.mk Turn.zero Sl.nil Sl.nil Sl.nil)) rfl (Enc.len _) (Enc.one _) (cs' := enc (TurnR.mk Turn.zero Sl.nil Sl.nil Sl.nil)) (Put.here ((Enc.len _).trans (Enc.len _).symm)) (L' := (.blk b73 (enc (TurnR.mk Turn.zero Sl.nil Sl.nil Sl.nil)) 59) :: (.own Sl.nil 3 1 (encs ([] : List Int))) :: (.own Sl.nil 3 1 (encs ([] : List Int))) :: (.own Sl.nil 36 1 (encs ([] : List (LR Int)))) :: (.blk b30 (enc (TurnR.mk ({ Turn.zero with N := a0.N, Has := a0.Has, Log := l43, Told := l41 } : Turn) Sl.nil s42 s40)) 59) :: (.own s31 3 1 (encs l32)) :: (.own s33 3 1 (encs l34)) :: (.own s35 36 1 (encs rs37)) :: (.own s40 3 1 (encs l41)) :: (.own s42 3 1 (encs l43)) :: (.blk b9 (enc (TurnR.mk ({ Turn.zero with Want := ([] : List (List Int)), Log := ([] : List Int), Told := ([] : List Int) } : Turn) Sl.nil Sl.nil Sl.nil)) 59) :: (.own Sl.nil 3 1 (encs ([] : List Int))) :: (.own Sl.nil 3 1 (encs ([] : List Int))) :: (.own Sl.nil 36 1 (encs ([] : List (LR Int)))) :: (.blk b3 (enc a1) 61) :: (.blk b1 (enc (TurnR.mk a0 s_a0_2 s_a0_3 s_a0_4)) 59) :: L) rfl ?_
 refine Lst.nil ?_
 refine At.then ?_
 refine Cd.seq ?_
 refine Cd.seq ?_
 refine Cd.region ?_
 refine Lst.r (Ev.fieldAddr (off' := 2) rfl Try.runUnderlying59 rfl Try.sizeOf57 rfl rfl) ?_
 refine Lst.r (Ev.load (i := 15) rfl rfl Try.isAgg57 (v := Sl.v s_a0_2) ((TurnR.get_Want (Get.here _)).off (by rfl))) ?_
 refine Lst.r (Ev.lenM (map_len hm_a0_2) (Ev.lenS (α := LR Int) (xs := rs_a0_2) (by decide) rfl rfl Try.runUnderlying57 (hs_a0_2.mono hF68 (sc8 (sc8 hM))))) ?_
 refine Lst.r (Ev.move rfl) ?_
 refine Lst.nil ?_
 refine At.then ?_
 refine Cd.block ?_
 have ha79m : List.map LR.v ([] : List (LR Int)) = ([] : List (List Int)) := rfl
 refine Cd.addNil 36 1 ?_
 refine Cd.rowsNil Int 3 0 ?_
 refine Cd.its (L' := (.rows (α := Int) 3 ([] : List (LR Int))) :: (.own Sl.nil 36 1 (encs ([] : List (LR Int)))) :: (.blk b73 (enc (TurnR.mk Turn.zero Sl.nil Sl.nil Sl.nil)) 59) :: (.own Sl.nil 3 1 (encs ([] : List Int))) :: (.own Sl.nil 3 1 (encs ([] : List Int))) :: (.own Sl.nil 36 1 (encs ([] : List (LR Int)))) :: (.blk b30 (enc (TurnR.mk ({ Turn.zero with N := a0.N, Has := a0.Has, Log := l43, Told := l41 } : Turn) Sl.nil s42 s40)) 59) :: (.own s31 3 1 (encs l32)) :: (.own s33 3 1 (encs l34)) :: (.own s35 36 1 (encs rs37)) :: (.own s40 3 1 (encs l41)) :: (.own s42 3 1 (encs l43)) :: (.blk b9 (enc (TurnR.mk ({ Turn.zero with Want := ([] : List (List Int)), Log := ([] : List Int), Told := ([] : List Int) } : Turn) Sl.nil Sl.nil Sl.nil)) 59) :: (.own Sl.nil 3 1 (encs ([] : List Int))) :: (.own Sl.nil 3 1 (encs ([] : List Int))) :: (.own Sl.nil 36 1 (encs ([] : List (LR Int)))) :: (.blk b3 (enc a1) 61) :: (.blk b1 (enc (TurnR.mk a0 s_a0_2 s_a0_3 s_a0_4)) 59) :: L) rfl ?_
 refine Cd.bound (Rd.le (α := LR Int) (xs := rs_a0_2) (by decide) (hs_a0_2.mono hF68 (sc8 (sc8 (sc2 hM))))) (fun hN323 => ?_)
 rw [map_len hm_a0_2] at hN323
 obtain ⟨ol76, H, HKl76⟩ := bind_some H
 refine Cd.loop (σ := Nat × Nat × Turn × Sl × (List (LR Int))) (fun (i76, k76, y80, s81, rs82) => [(2, pv b1 0), (3, pv b3 0), (4, pv b9 0), (7, pv b30 0), (8, pv b73 0), (31, Sl.v s_a0_2), (32, iv (a0.Want.length : Int)), (33, iv (i76 : Int))]) (fun (i76, k76, y80, s81, rs82) => (.rows (α := Int) 3 rs82) :: (.own s81 36 1 (encs rs82)) :: (.blk b73 (enc (TurnR.mk Turn.zero Sl.nil Sl.nil Sl.nil)) 59) :: (.own Sl.nil 3 1 (encs ([] : List Int))) :: (.own Sl.nil 3 1 (encs ([] : List Int))) :: (.own Sl.nil 36 1 (encs ([] : List (LR Int)))) :: (.blk b30 (enc (TurnR.mk ({ y80 with Log := l43, Told := l41 } : Turn) s81 s42 s40)) 59) :: (.own s31 3 1 (encs l32)) :: (.own s33 3 1 (encs l34)) :: (.own s35 36 1 (encs rs37)) :: (.own s40 3 1 (encs l41)) :: (.own s42 3 1 (encs l43)) :: (.blk b9 (enc (TurnR.mk ({ Turn.zero with Want := ([] : List (List Int)), Log := ([] : List Int), Told := ([] : List Int) } : Turn) Sl.nil Sl.nil Sl.nil)) 59) :: (.own Sl.nil 3 1 (encs ([] : List Int))) :: (.own Sl.nil 3 1 (encs ([] : List Int))) :: (.own Sl.nil 36 1 (encs ([] : List (LR Int)))) :: (.blk b3 (enc a1) 61) :: (.blk b1 (enc (TurnR.mk a0 s_a0_2 s_a0_3 s_a0_4)) 59) :: L) (fun Fx => (fun (i76, k76, y80, s81, rs82) => rangeF (partref_TurnStep_B0 a0 l41 l43) k76 i76 y80 = some ol76 ∧ i76 + k76 = a0.Want.length ∧ rs82.map LR.v = y80.Want)) (fun (i76, k76, y80, s81, rs82) => k76) (0, a0.Want.length, ({ Turn.zero with N := a0.N, Has := a0.Has, Want := ([] : List (List Int)), Log := l43, Told := l41 } : Turn), Sl.nil, ([] : List (LR Int))) ⟨rfl, rfl, rfl, rfl, rfl, rfl, rfl, rfl, trivial⟩ rfl ⟨H, by omega, ha79m⟩ ?_
 rintro F86 ⟨i76, k76, y80, s81, rs82⟩ hF87 ⟨H, hik76, fm83⟩
 refine Cd.as (e' := [(2, pv b1 0), (3, pv b3 0), (4, pv b9 0), (7, pv b30 0), (8, pv b73 0), (31, Sl.v s_a0_2), (32, iv (a0.Want.length : Int)), (33, iv (i76 : Int))]) (L' := (.rows (α := Int) 3 rs82) :: (.own s81 36 1 (encs rs82)) :: (.blk b73 (enc (TurnR.mk Turn.zero Sl.nil Sl.nil Sl.nil)) 59) :: (.own Sl.nil 3 1 (encs ([] : List Int))) :: (.own Sl.nil 3 1 (encs ([] : List Int))) :: (.own Sl.nil 36 1 (encs ([] : List (LR Int)))) :: (.blk b30 (enc (TurnR.mk ({ y80 with Log := l43, Told := l41 } : Turn) s81 s42 s40)) 59) :: (.own s31 3 1 (encs l32)) :: (.own s33 3 1 (encs l34)) :: (.own s35 36 1 (encs rs37)) :: (.own s40 3 1 (encs l41)) :: (.own s42 3 1 (encs l43)) :: (.blk b9 (enc (TurnR.mk ({ Turn.zero with Want := ([] : List (List Int)), Log := ([] : List Int), Told := ([] : List Int) } : Turn) Sl.nil Sl.nil Sl.nil)) 59) :: (.own Sl.nil 3 1 (encs ([] : List Int))) :: (.own Sl.nil 3 1 (encs ([] : List Int))) :: (.own Sl.nil 36 1 (encs ([] : List (LR Int)))) :: (.blk b3 (enc a1) 61) :: (.blk b1 (enc (TurnR.mk a0 s_a0_2 s_a0_3 s_a0_4)) 59) :: L) ⟨rfl, rfl, rfl, rfl, rfl, rfl, rfl, rfl, trivial⟩ rfl ?_
 rcases k76 with _ | k76
 ·have hc76 : decide ((i76 : Int) < (a0.Want.length : Int)) = false := decide_eq_false (by omega)
  replace H := rangeF_end H
  refine Cd.seq ?_
  refine Cd.region ?_
  refine Lst.r (Ev.lss rfl rfl) ?_
  refine Lst.nil ?_
  refine At.then ?_
  refine Cd.seq ?_
  refine Cd.condF rfl hc76 ?_
  refine Cd.exit ?_
  refine At.then_exit ?_
  refine At.then_exit ?_
  refine At.in_exit ?_
  subst H
  replace H := HKl76
  refine At.then ?_
  refine Cd.seq ?_
  refine Cd.region ?_
  refine Lst.r (Ev.fieldAddr (off' := 2) rfl Try.runUnderlying59 rfl Try.sizeOf57 rfl rfl) ?_
  refine Lst.r (Ev.load (i := 6) rfl rfl Try.isAgg57 (v := Sl.v s81) ((TurnR.get_Want (Get.here _)).off (by rfl))) ?_
  refine Lst.r (Ev.fieldAddr (off' := 1) rfl Try.runUnderlying61 rfl Try.sizeOf3 rfl rfl) ?_
  refine Lst.r (Ev.load (i := 16) rfl rfl Try.isAgg3 (v := iv a1.Who) ((Beat.get_Who (Get.here _)).off (by rfl))) ?_
  obtain ⟨x121, h122, H⟩ := bind_some H
  have g123 := lat_some h122
  obtain ⟨⟨r124v, r124h⟩, r124g, r124e, r124m⟩ := map_get fm83 g123.2.2
  obtain rfl : x121 = r124v := r124e.symm
  have hh125 := row_h r124g
  refine Lst.r (Ev.indexS (α := LR Int) (xs := rs82) rfl rfl Try.runUnderlying57 Try.sizeOf36 rfl (by decide) (Rd.own (i := 1) rfl rfl rfl) g123.1 (by have := map_len fm83; omega)) ?_
  refine Lst.r (Ev.assign rfl) ?_
  refine Lst.nil ?_
  refine At.then ?_
  obtain ⟨o132, H, HKo132⟩ := andThen_some H
  refine Cd.join (σ := Turn × Sl × (List (List Int)) × (List (LR Int))) (fun (y126, s127, l129, rs130) => [(4, pv b9 0), (7, pv b30 0)]) (fun (y126, s127, l129, rs130) => (.rows (α := Int) 3 rs130) :: (.own s81 36 1 (encs rs130)) :: (.blk b73 (enc (TurnR.mk Turn.zero Sl.nil Sl.nil Sl.nil)) 59) :: (.own Sl.nil 3 1 (encs ([] : List Int))) :: (.own Sl.nil 3 1 (encs ([] : List Int))) :: (.own Sl.nil 36 1 (encs ([] : List (LR Int)))) :: (.blk b30 (enc (TurnR.mk ({ y126 with Want := l129, Told := l41 } : Turn) s81 s127 s40)) 59) :: (.own s31 3 1 (encs l32)) :: (.own s33 3 1 (encs l34)) :: (.own s35 36 1 (encs rs37)) :: (.own s40 3 1 (encs l41)) :: (.blk b9 (enc (TurnR.mk ({ Turn.zero with Want := ([] : List (List Int)), Log := ([] : List Int), Told := ([] : List Int) } : Turn) Sl.nil Sl.nil Sl.nil)) 59) :: (.own Sl.nil 3 1 (encs ([] : List Int))) :: (.own Sl.nil 3 1 (encs ([] : List Int))) :: (.own Sl.nil 36 1 (encs ([] : List (LR Int)))) :: (.blk b3 (enc a1) 61) :: (.blk b1 (enc (TurnR.mk a0 s_a0_2 s_a0_3 s_a0_4)) 59) :: L) (fun Fx (y126, s127, l129, rs130) => .inl (y126, l129) = o132 ∧ Rd w0 Fx M s127 y126.Log ∧ rs130.map LR.v = l129) ?_ ?_
  ·refine Cd.seq ?_
   refine Cd.region ?_
   refine Lst.r (Ev.fieldAddr (off' := 0) rfl Try.runUnderlying61 rfl Try.sizeOf3 rfl rfl) ?_
   refine Lst.r (Ev.load (i := 16) rfl rfl Try.isAgg3 (v := iv a1.Kind) ((Beat.get_Kind (Get.here _)).off (by rfl))) ?_
   refine Lst.nil ?_
   refine At.then ?_
   refine Cd.block ?_
   refine Cd.seq ?_
   refine Cd.region ?_
   refine Lst.r (Ev.eql rfl rfl) ?_
   refine Lst.r (Ev.assign rfl) ?_
   refine Lst.nil ?_
   refine At.then ?_
   rcases Bool.eq_false_or_eq_true (a1.Kind == (1 : Int)) with hb133 | hb133
   ·replace H := ite_t hb133 H
    refine Cd.condT rfl hb133 ?_
    refine Cd.seq ?_
    refine Cd.seq ?_
    obtain ⟨r142, h143, H⟩ := bind_some H
    obtain ⟨o154, h155, H⟩ := Let_some H
    refine Cd.headMeet (σ := Sl × (List Int) × Turn × Sl) 9 (fun (s149, l150, y151, s152) => [(3, pv b3 0), (4, pv b9 0), (7, pv b30 0), (8, pv b73 0), (11, Sl.at s81 (a1.Who.toNat * 1)), (60, Sl.v s149), (62, iv a1.N)]) (fun (s149, l150, y151, s152) => (.own s149 3 1 (encs l150)) :: (.rows (α := Int) 3 rs82) :: (.own s81 36 1 (encs rs82)) :: (.blk b73 (enc (TurnR.mk Turn.zero Sl.nil Sl.nil Sl.nil)) 59) :: (.own Sl.nil 3 1 (encs ([] : List Int))) :: (.own Sl.nil 3 1 (encs ([] : List Int))) :: (.own Sl.nil 36 1 (encs ([] : List (LR Int)))) :: (.blk b30 (enc (TurnR.mk ({ y151 with Want := y80.Want, Told := l41 } : Turn) s81 s152 s40)) 59) :: (.own s31 3 1 (encs l32)) :: (.own s33 3 1 (encs l34)) :: (.own s35 36 1 (encs rs37)) :: (.own s40 3 1 (encs l41)) :: (.blk b9 (enc (TurnR.mk ({ Turn.zero with Want := ([] : List (List Int)), Log := ([] : List Int), Told := ([] : List Int) } : Turn) Sl.nil Sl.nil Sl.nil)) 59) :: (.own Sl.nil 3 1 (encs ([] : List Int))) :: (.own Sl.nil 3 1 (encs ([] : List Int))) :: (.own Sl.nil 36 1 (encs ([] : List (LR Int)))) :: (.blk b3 (enc a1) 61) :: (.blk b1 (enc (TurnR.mk a0 s_a0_2 s_a0_3 s_a0_4)) 59) :: L) (fun Fx (s149, l150, y151, s152) => (l150, y151) = o154 ∧ Rd w0 Fx M s152 y151.Log) (by kernel_rfl) (by kernel_rfl) (behind_sink (by kernel_rfl) (by kernel_rfl) (by kernel_rfl)) (by kernel_rfl) (fun hsel hlt => ?_) ?_
    ·refine HdJ.keep (fun w => St w0 F86 ((.rows (α := Int) 3 rs82) :: (.own s81 36 1 (encs rs82)) :: (.blk b73 (enc (TurnR.mk Turn.zero Sl.nil Sl.nil Sl.nil)) 59) :: (.own Sl.nil 3 1 (encs ([] : List Int))) :: (.own Sl.nil 3 1 (encs ([] : List Int))) :: (.own Sl.nil 36 1 (encs ([] : List (LR Int)))) :: (.blk b30 (enc (TurnR.mk ({ y80 with Log := l43, Told := l41 } : Turn) s81 s42 s40)) 59) :: (.own s31 3 1 (encs l32)) :: (.own s33 3 1 (encs l34)) :: (.own s35 36 1 (encs rs37)) :: (.own s40 3 1 (encs l41)) :: (.blk b9 (enc (TurnR.mk ({ Turn.zero with Want := ([] : List (List Int)), Log := ([] : List Int), Told := ([] : List Int) } : Turn) Sl.nil Sl.nil Sl.nil)) 59) :: (.own Sl.nil 3 1 (encs ([] : List Int))) :: (.own Sl.nil 3 1 (encs ([] : List Int))) :: (.own Sl.nil 36 1 (encs ([] : List (LR Int)))) :: (.blk b3 (enc a1) 61) :: (.blk b1 (enc (TurnR.mk a0 s_a0_2 s_a0_3 s_a0_4)) 59) :: L) w) (fun w h => trivial) ?_
     refine HdJ.tk hsel hlt 0 (fun w h => h.sublist (sk1 (sk1 (sk1 (sk1 (sk1 (sk1 (sk1 (sk1 (sk1 (sk1 (sk1 (sc1 (sk1 (sk1 (sk1 (sk1 (sk1 (sk1 (.refl _)))))))))))))))))))) rfl (Ev.move rfl) ?_
     refine HdJ.tk hsel hlt 1 (fun w h => h.sublist (sk1 (sk1 (sk1 (sk1 (sk1 (sk1 (sk1 (sk1 (sk1 (sk1 (sk1 (sc1 (sk1 (sk1 (sk1 (sk1 (sk1 (sk1 (.refl _)))))))))))))))))))) rfl (Ev.nilCheckS (α := LR Int) rfl (Rd.own (i := 1) rfl rfl rfl) ((Get.elemN (s := 1) rfl r124g (Get.here _)).off (by omega)) rfl) ?_
     refine HdJ.tk hsel hlt 2 (fun w h => h.sublist (sk1 (sk1 (sk1 (sk1 (sk1 (sk1 (sk1 (sk1 (sk1 (sk1 (sk1 (sc1 (sk1 (sk1 (sk1 (sk1 (sk1 (sk1 (.refl _)))))))))))))))))))) rfl (Ev.loadS (α := LR Int) rfl (Rd.own (i := 1) rfl rfl rfl) Try.isAgg36 (v := Sl.v r124h) ((Get.elemN (s := 1) rfl r124g (Get.here _)).off (by omega))) ?_
     refine HdJ.tk hsel hlt 3 (fun w h => h.sublist (sk1 (sk1 (sk1 (sk1 (sk1 (sk1 (sk1 (sk1 (sk1 (sk1 (sk1 (sc1 (sk1 (sk1 (sk1 (sk1 (sk1 (sk1 (.refl _)))))))))))))))))))) rfl (Ev.fieldAddr (off' := 3) rfl Try.runUnderlying59 rfl Try.sizeOf36 rfl rfl) ?_
     refine HdJ.tk hsel hlt 7 (fun w h => h.sublist (sk1 (sk1 (sk1 (sk1 (sk1 (sk1 (sk1 (sk1 (sk1 (sk1 (sk1 (sc1 (sk1 (sk1 (sk1 (sk1 (sk1 (sk1 (.refl _)))))))))))))))))))) rfl (Ev.fieldAddr (off' := 2) rfl Try.runUnderlying61 rfl Try.sizeOf3 rfl rfl) ?_
     refine HdJ.tk hsel hlt 8 (fun w h => h.sublist (sk1 (sk1 (sk1 (sk1 (sk1 (sk1 (sk1 (sk1 (sk1 (sk1 (sk1 (sc1 (sk1 (sk1 (sk1 (sk1 (sk1 (sk1 (.refl _)))))))))))))))))))) rfl (Ev.load (i := 15) rfl rfl Try.isAgg3 (v := iv a1.N) ((Beat.get_N (Get.here _)).off (by rfl))) ?_
     refine HdJ.step [4] (by kernel_rfl) rfl ?_
     refine HdStep.c (fun inv => ?_) ?_
     ·refine Lst.r (Ev.load (i := 6) rfl rfl Try.isAgg36 (v := Sl.v s42) ((TurnR.get_Log (Get.here _)).off (by rfl))) ?_
      refine Lst.nil ?_
      refine At.hd inv (fun w h => (h.weaken (FLe.refl _)).sublist (sk1 (sk1 (sk1 (sk1 (sk1 (sk1 (sk1 (sk1 (sk1 (sk1 (sk1 (sc1 (sk1 (sk1 (sk1 (sk1 (sk1 (sk1 (.refl _)))))))))))))))))))) ?_
      refine HdJ.step [5] (by kernel_rfl) rfl ?_
      refine HdStep.c (fun inv => ?_) ?_
      ·refine Lst.freeze (i := 11) rfl (fun F156 hF157 hz158 => ?_)
       have hq159 : Rd w0 F156 [] s42 l43 := Rd.frozen hz158 rfl rfl
       refine Lst.its (L' := (.rows (α := Int) 3 rs82) :: (.own s81 36 1 (encs rs82)) :: (.blk b73 (enc (TurnR.mk Turn.zero Sl.nil Sl.nil Sl.nil)) 59) :: (.own Sl.nil 3 1 (encs ([] : List Int))) :: (.own Sl.nil 3 1 (encs ([] : List Int))) :: (.own Sl.nil 36 1 (encs ([] : List (LR Int)))) :: (.blk b30 (enc (TurnR.mk ({ y80 with Log := l43, Told := l41 } : Turn) s81 s42 s40)) 59) :: (.own s31 3 1 (encs l32)) :: (.own s33 3 1 (encs l34)) :: (.own s35 36 1 (encs rs37)) :: (.own s40 3 1 (encs l41)) :: (.blk b9 (enc (TurnR.mk ({ Turn.zero with Want := ([] : List (List Int)), Log := ([] : List Int), Told := ([] : List Int) } : Turn) Sl.nil Sl.nil Sl.nil)) 59) :: (.own Sl.nil 3 1 (encs ([] : List Int))) :: (.own Sl.nil 3 1 (encs ([] : List Int))) :: (.own Sl.nil 36 1 (encs ([] : List (LR Int)))) :: (.blk b3 (enc a1) 61) :: (.blk b1 (enc (TurnR.mk a0 s_a0_2 s_a0_3 s_a0_4)) 59) :: L) rfl ?_
       have hm161 : ([(LR.mk x121 r124h), (LR.mk l43 s42)] : List (LR Int)).map LR.v = ([x121, l43] : List (List Int)) := rfl
       have ha162 : All LR.rel w0 F156 ((.rows (α := Int) 3 rs82) :: (.own s81 36 1 (encs rs82)) :: (.blk b73 (enc (TurnR.mk Turn.zero Sl.nil Sl.nil Sl.nil)) 59) :: (.own Sl.nil 3 1 (encs ([] : List Int))) :: (.own Sl.nil 3 1 (encs ([] : List Int))) :: (.own Sl.nil 36 1 (encs ([] : List (LR Int)))) :: (.blk b30 (enc (TurnR.mk ({ y80 with Log := l43, Told := l41 } : Turn) s81 s42 s40)) 59) :: (.own s31 3 1 (encs l32)) :: (.own s33 3 1 (encs l34)) :: (.own s35 36 1 (encs rs37)) :: (.own s40 3 1 (encs l41)) :: (.blk b9 (enc (TurnR.mk ({ Turn.zero with Want := ([] : List (List Int)), Log := ([] : List Int), Told := ([] : List Int) } : Turn) Sl.nil Sl.nil Sl.nil)) 59) :: (.own Sl.nil 3 1 (encs ([] : List Int))) :: (.own Sl.nil 3 1 (encs ([] : List Int))) :: (.own Sl.nil 36 1 (encs ([] : List (LR Int)))) :: (.blk b3 (enc a1) 61) :: (.blk b1 (enc (TurnR.mk a0 s_a0_2 s_a0_3 s_a0_4)) 59) :: L) ([(LR.mk x121 r124h), (LR.mk l43 s42)] : List (LR Int)) := All.of2 (Rd.row (j := 0) rfl r124g) (hq159.mono (FLe.refl _) (List.nil_sublist _))
       refine Lst.buildSlice (α := LR Int) (xs := ([(LR.mk x121 r124h), (LR.mk l43 s42)] : List (LR Int))) (pv := [(0, Sl.v r124h), (1, Sl.v s42)]) rfl rfl (by decide) ⟨rfl, rfl, ⟨rfl, rfl, trivial⟩⟩ (run_buildSlice (α := LR Int) (z0 := ((LR.mk [] Sl.nil) : LR Int)) (xs := ([(LR.mk x121 r124h), (LR.mk l43 s42)] : List (LR Int))) Try.runUnderlying57 Try.sizeOf36 Try.zeroValue36 rfl rfl rfl (by decide) rfl (fill_cons (cs := encs (List.replicate 2 ((LR.mk [] Sl.nil) : LR Int))) (cs' := encs ((List.replicate 2 ((LR.mk [] Sl.nil) : LR Int)).set 0 (LR.mk x121 r124h))) (vs := [Sl.v r124h]) rfl rfl rfl ((Put.elemN (s := 1) (i := 0) (x := ((LR.mk [] Sl.nil) : LR Int)) (y := (LR.mk x121 r124h)) rfl rfl (Put.here (vs := [Sl.v r124h]) rfl)).off rfl) (fill_cons (cs := encs ((List.replicate 2 ((LR.mk [] Sl.nil) : LR Int)).set 0 (LR.mk x121 r124h))) (cs' := encs (((List.replicate 2 ((LR.mk [] Sl.nil) : LR Int)).set 0 (LR.mk x121 r124h)).set 1 (LR.mk l43 s42))) (vs := [Sl.v s42]) rfl rfl rfl ((Put.elemN (s := 1) (i := 1) (x := ((LR.mk [] Sl.nil) : LR Int)) (y := (LR.mk l43 s42)) rfl rfl (Put.here (vs := [Sl.v s42]) rfl)).off rfl) fill_nil))) rfl rfl (by decide) (fun s160 _ => ?_)
       refine Lst.nil ?_
       refine At.hd inv (fun w h => (h.weaken hF157).sublist (sc1 (sk1 (sk1 (sk1 (sk1 (sk1 (sk1 (sk1 (sk1 (sk1 (sk1 (sk1 (sk1 (sk1 (sk1 (sk1 (sk1 (sk1 (.refl _)))))))))))))))))))) ?_
       refine HdJ.step [6] (by kernel_rfl) rfl ?_
       refine HdStep.c (fun inv => ?_) ?_
       ·refine Lst.call rfl rfl (by decide) (vs := [Sl.v s160]) ⟨rfl, trivial⟩ Try.call51 (slices_Concat_int_int_sim h143 w0 _ _ _ (.refl _) hm161 (Rd.own (i := 0) rfl rfl rfl) (All.monoLR ha162 (FLe.refl _) (sc1 (.refl _)))) (fun F164 L' v hF165 hv => ?_)
        obtain ⟨s163, rfl, rfl⟩ := hv
        refine Lst.nil ?_
        refine At.hd inv (fun w h => (h.weaken (FLe.trans hF157 hF165)).sublist (sc1 (sc1 (sk1 (sk1 (sk1 (sk1 (sk1 (sk1 (sk1 (sk1 (sk1 (sk1 (sk1 (sk1 (sk1 (sk1 (sk1 (sk1 (sk1 (.refl _))))))))))))))))))))) ?_
        refine HdJ.done (by kernel_rfl) ?_
        refine At.less (L' := (.own s163 3 1 (encs r142)) :: (.rows (α := Int) 3 rs82) :: (.own s81 36 1 (encs rs82)) :: (.blk b73 (enc (TurnR.mk Turn.zero Sl.nil Sl.nil Sl.nil)) 59) :: (.own Sl.nil 3 1 (encs ([] : List Int))) :: (.own Sl.nil 3 1 (encs ([] : List Int))) :: (.own Sl.nil 36 1 (encs ([] : List (LR Int)))) :: (.blk b30 (enc (TurnR.mk ({ y80 with Log := l43, Told := l41 } : Turn) s81 s42 s40)) 59) :: (.own s31 3 1 (encs l32)) :: (.own s33 3 1 (encs l34)) :: (.own s35 36 1 (encs rs37)) :: (.own s40 3 1 (encs l41)) :: (.blk b9 (enc (TurnR.mk ({ Turn.zero with Want := ([] : List (List Int)), Log := ([] : List Int), Told := ([] : List Int) } : Turn) Sl.nil Sl.nil Sl.nil)) 59) :: (.own Sl.nil 3 1 (encs ([] : List Int))) :: (.own Sl.nil 3 1 (encs ([] : List Int))) :: (.own Sl.nil 36 1 (encs ([] : List (LR Int)))) :: (.blk b3 (enc a1) 61) :: (.blk b1 (enc (TurnR.mk a0 s_a0_2 s_a0_3 s_a0_4)) 59) :: L) (sk1 (sc1 (sk1 (sk1 (sk1 (sk1 (sk1 (sk1 (sk1 (sk1 (sk1 (sk1 (sk1 (sk1 (sk1 (sk1 (sk1 (sk1 (sk1 (.refl _)))))))))))))))))))) ?_
        exact At.meetN (s163, r142, ({ y80 with Log := l43, Told := l41 } : Turn), s42) (FLe.trans hF157 hF165) ⟨rfl, rfl, rfl, rfl, rfl, rfl, rfl, trivial⟩ rfl ⟨h155, (hq159.mono hF165 (List.nil_sublist _))⟩
       exact trivial
      exact trivial
     exact trivial
    rintro F166 ⟨s149, l150, y151, s152⟩ hF167 ⟨hy, f153⟩
    subst hy
    refine Lst.as (e' := [(3, pv b3 0), (4, pv b9 0), (7, pv b30 0), (8, pv b73 0), (11, Sl.at s81 (a1.Who.toNat * 1)), (60, Sl.v s149), (62, iv a1.N)]) (L' := (.own s149 3 1 (encs l150)) :: (.rows (α := Int) 3 rs82) :: (.own s81 36 1 (encs rs82)) :: (.blk b73 (enc (TurnR.mk Turn.zero Sl.nil Sl.nil Sl.nil)) 59) :: (.own Sl.nil 3 1 (encs ([] : List Int))) :: (.own Sl.nil 3 1 (encs ([] : List Int))) :: (.own Sl.nil 36 1 (encs ([] : List (LR Int)))) :: (.blk b30 (enc (TurnR.mk ({ y151 with Want := y80.Want, Told := l41 } : Turn) s81 s152 s40)) 59) :: (.own s31 3 1 (encs l32)) :: (.own s33 3 1 (encs l34)) :: (.own s35 36 1 (encs rs37)) :: (.own s40 3 1 (encs l41)) :: (.blk b9 (enc (TurnR.mk ({ Turn.zero with Want := ([] : List (List Int)), Log := ([] : List Int), Told := ([] : List Int) } : Turn) Sl.nil Sl.nil Sl.nil)) 59) :: (.own Sl.nil 3 1 (encs ([] : List Int))) :: (.own Sl.nil 3 1 (encs ([] : List Int))) :: (.own Sl.nil 36 1 (encs ([] : List (LR Int)))) :: (.blk b3 (enc a1) 61) :: (.blk b1 (enc (TurnR.mk a0 s_a0_2 s_a0_3 s_a0_4)) 59) :: L) ⟨rfl, rfl, rfl, rfl, rfl, rfl, rfl, trivial⟩ rfl ?_
    obtain ⟨r168, h169, H⟩ := bind_some H
    refine Lst.call1 rfl rfl (by decide) (vs := [Sl.v s149, iv a1.N]) ⟨rfl, rfl, trivial⟩ Try.call50 (slices_Contains_int_int_sim h169 w0 _ _ _ (.refl _) (Rd.own (i := 0) rfl rfl rfl)) ?_
    refine Lst.nil ?_
    refine At.then ?_
    rcases Bool.eq_false_or_eq_true r168 with hb172 | hb172
    ·replace H := ite_t hb172 H
     refine Cd.condT rfl hb172 ?_
     refine Cd.seq ?_
     refine Cd.region ?_
     refine Lst.r (Ev.loadA (i := 3) rfl rfl Try.isAgg59 Try.sizeOf59 (ch := enc (TurnR.mk Turn.zero Sl.nil Sl.nil Sl.nil)) (Enc.len _) (Get.here _)) ?_
     refine Lst.store (i := 12) rfl rfl rfl rfl rfl Try.sizeOf59 (vs := enc (TurnR.mk Turn.zero Sl.nil Sl.nil Sl.nil)) rfl (Enc.len _) (Enc.one _) (cs' := enc (TurnR.mk Turn.zero Sl.nil Sl.nil Sl.nil)) (Put.here ((Enc.len _).trans (Enc.len _).symm)) (L' := (.own s149 3 1 (encs l150)) :: (.rows (α := Int) 3 rs82) :: (.own s81 36 1 (encs rs82)) :: (.blk b73 (enc (TurnR.mk Turn.zero Sl.nil Sl.nil Sl.nil)) 59) :: (.own Sl.nil 3 1 (encs ([] : List Int))) :: (.own Sl.nil 3 1 (encs ([] : List Int))) :: (.own Sl.nil 36 1 (encs ([] : List (LR Int)))) :: (.blk b30 (enc (TurnR.mk ({ y151 with Want := y80.Want, Told := l41 } : Turn) s81 s152 s40)) 59) :: (.own s31 3 1 (encs l32)) :: (.own s33 3 1 (encs l34)) :: (.own s35 36 1 (encs rs37)) :: (.own s40 3 1 (encs l41)) :: (.blk b9 (enc (TurnR.mk Turn.zero Sl.nil Sl.nil Sl.nil)) 59) :: (.own Sl.nil 3 1 (encs ([] : List Int))) :: (.own Sl.nil 3 1 (encs ([] : List Int))) :: (.own Sl.nil 36 1 (encs ([] : List (LR Int)))) :: (.blk b3 (enc a1) 61) :: (.blk b1 (enc (TurnR.mk a0 s_a0_2 s_a0_3 s_a0_4)) 59) :: L) rfl ?_
     refine Lst.r (Ev.assign rfl) ?_
     refine Lst.r (Ev.assign rfl) ?_
     refine Lst.nil ?_
     refine At.then ?_
     obtain rfl := some_inj H
     replace H := HKo132
     obtain rfl := some_inj H
     refine Cd.ret ?_
     refine At.then_ret ?_
     refine At.in_ret ?_
     refine At.then_ret ?_
     have ha175m : List.map LR.v ([] : List (LR Int)) = ([] : List (List Int)) := rfl
     refine At.addNil 36 1 ?_
     refine At.rowsNil Int 3 0 ?_
     refine At.its (L' := (.rows (α := Int) 3 ([] : List (LR Int))) :: (.own Sl.nil 36 1 (encs ([] : List (LR Int)))) :: (.own s149 3 1 (encs l150)) :: (.rows (α := Int) 3 rs82) :: (.own s81 36 1 (encs rs82)) :: (.blk b73 (enc (TurnR.mk Turn.zero Sl.nil Sl.nil Sl.nil)) 59) :: (.own Sl.nil 3 1 (encs ([] : List Int))) :: (.own Sl.nil 3 1 (encs ([] : List Int))) :: (.own Sl.nil 36 1 (encs ([] : List (LR Int)))) :: (.blk b30 (enc (TurnR.mk ({ y151 with Want := y80.Want, Told := l41 } : Turn) s81 s152 s40)) 59) :: (.own s31 3 1 (encs l32)) :: (.own s33 3 1 (encs l34)) :: (.own s35 36 1 (encs rs37)) :: (.own s40 3 1 (encs l41)) :: (.blk b9 (enc (TurnR.mk Turn.zero Sl.nil Sl.nil Sl.nil)) 59) :: (.own Sl.nil 3 1 (encs ([] : List Int))) :: (.own Sl.nil 3 1 (encs ([] : List Int))) :: (.own Sl.nil 36 1 (encs ([] : List (LR Int)))) :: (.blk b3 (enc a1) 61) :: (.blk b1 (enc (TurnR.mk a0 s_a0_2 s_a0_3 s_a0_4)) 59) :: L) rfl ?_
     refine At.addNil 3 1 ?_
     refine At.front (i := 2) rfl rfl ?_
     refine At.front (i := 2) rfl (L' := (.rows (α := Int) 3 ([] : List (LR Int))) :: (.own Sl.nil 36 1 (encs ([] : List (LR Int)))) :: (.own Sl.nil 3 1 (encs ([] : List Int))) :: (.own s149 3 1 (encs l150)) :: (.rows (α := Int) 3 rs82) :: (.own s81 36 1 (encs rs82)) :: (.blk b73 (enc (TurnR.mk Turn.zero Sl.nil Sl.nil Sl.nil)) 59) :: (.own Sl.nil 3 1 (encs ([] : List Int))) :: (.own Sl.nil 3 1 (encs ([] : List Int))) :: (.own Sl.nil 36 1 (encs ([] : List (LR Int)))) :: (.blk b30 (enc (TurnR.mk ({ y151 with Want := y80.Want, Told := l41 } : Turn) s81 s152 s40)) 59) :: (.own s31 3 1 (encs l32)) :: (.own s33 3 1 (encs l34)) :: (.own s35 36 1 (encs rs37)) :: (.own s40 3 1 (encs l41)) :: (.blk b9 (enc (TurnR.mk ({ Turn.zero with Want := ([] : List (List Int)), Told := ([] : List Int) } : Turn) Sl.nil Sl.nil Sl.nil)) 59) :: (.own Sl.nil 3 1 (encs ([] : List Int))) :: (.own Sl.nil 3 1 (encs ([] : List Int))) :: (.own Sl.nil 36 1 (encs ([] : List (LR Int)))) :: (.blk b3 (enc a1) 61) :: (.blk b1 (enc (TurnR.mk a0 s_a0_2 s_a0_3 s_a0_4)) 59) :: L) rfl ?_
     exact At.ret3 rfl (Res.cellA (i := 15) rfl rfl Try.isAgg59 Try.sizeOf59 (Enc.len _)) (Res.tmp rfl) (Res.tmp rfl) (FLe.trans (FLe.trans hF68 hF87) hF167) (sk1 (sk1 (sk1 (sc1 (sc1 (sc1 (sc1 (sc1 (sc1 (sc1 (sc1 (sc1 (sc1 (sc1 (sc1 (sc1 (sc1 (sc1 (sc1 (sc1 (sc1 (.refl _)))))))))))))))))))))) ⟨Sl.nil, ([] : List (LR Int)), Sl.nil, Sl.nil, rfl, rfl, ha175m, Rd.nil⟩
    replace H := ite_f hb172 H
    refine Cd.condF rfl hb172 ?_
    refine Cd.skip ?_
    refine At.then ?_
    obtain ⟨u180, h181, H⟩ := bind_some H
    obtain ⟨o186, h187, H⟩ := Let_some H
    refine Cd.headMeet (σ := Sl × (List Int)) 8 (fun (s184, l185) => [(4, pv b9 0), (7, pv b30 0), (65, Sl.at s81 (a1.Who.toNat * 1)), (72, Sl.v s184)]) (fun (s184, l185) => (.own s184 3 1 (encs l185)) :: (.rows (α := Int) 3 (rs82.set a1.Who.toNat ⟨[], Sl.nil⟩)) :: (.own s149 3 1 (encs l150)) :: (.own s81 36 1 (encs rs82)) :: (.blk b73 (enc (TurnR.mk Turn.zero Sl.nil Sl.nil Sl.nil)) 59) :: (.own Sl.nil 3 1 (encs ([] : List Int))) :: (.own Sl.nil 3 1 (encs ([] : List Int))) :: (.own Sl.nil 36 1 (encs ([] : List (LR Int)))) :: (.blk b30 (enc (TurnR.mk ({ y151 with Want := y80.Want, Told := l41 } : Turn) s81 s152 s40)) 59) :: (.own s31 3 1 (encs l32)) :: (.own s33 3 1 (encs l34)) :: (.own s35 36 1 (encs rs37)) :: (.own s40 3 1 (encs l41)) :: (.blk b9 (enc (TurnR.mk ({ Turn.zero with Want := ([] : List (List Int)), Log := ([] : List Int), Told := ([] : List Int) } : Turn) Sl.nil Sl.nil Sl.nil)) 59) :: (.own Sl.nil 3 1 (encs ([] : List Int))) :: (.own Sl.nil 3 1 (encs ([] : List Int))) :: (.own Sl.nil 36 1 (encs ([] : List (LR Int)))) :: (.blk b3 (enc a1) 61) :: (.blk b1 (enc (TurnR.mk a0 s_a0_2 s_a0_3 s_a0_4)) 59) :: L) (fun _ (s184, l185) => l185 = o186) (by kernel_rfl) (by kernel_rfl) (behind_sink (by kernel_rfl) (by kernel_rfl) (by kernel_rfl)) (by kernel_rfl) (fun hsel hlt => ?_) ?_
    ·refine HdJ.keep (fun w => St w0 F166 ((.own s149 3 1 (encs l150)) :: (.own s81 36 1 (encs rs82)) :: (.blk b73 (enc (TurnR.mk Turn.zero Sl.nil Sl.nil Sl.nil)) 59) :: (.own Sl.nil 3 1 (encs ([] : List Int))) :: (.own Sl.nil 3 1 (encs ([] : List Int))) :: (.own Sl.nil 36 1 (encs ([] : List (LR Int)))) :: (.blk b30 (enc (TurnR.mk ({ y151 with Want := y80.Want, Told := l41 } : Turn) s81 s152 s40)) 59) :: (.own s31 3 1 (encs l32)) :: (.own s33 3 1 (encs l34)) :: (.own s35 36 1 (encs rs37)) :: (.own s40 3 1 (encs l41)) :: (.blk b9 (enc (TurnR.mk ({ Turn.zero with Want := ([] : List (List Int)), Log := ([] : List Int), Told := ([] : List Int) } : Turn) Sl.nil Sl.nil Sl.nil)) 59) :: (.own Sl.nil 3 1 (encs ([] : List Int))) :: (.own Sl.nil 3 1 (encs ([] : List Int))) :: (.own Sl.nil 36 1 (encs ([] : List (LR Int)))) :: (.blk b3 (enc a1) 61) :: (.blk b1 (enc (TurnR.mk a0 s_a0_2 s_a0_3 s_a0_4)) 59) :: L) w) (fun w h => trivial) ?_
     refine HdJ.tk hsel hlt 0 (fun w h => h.sublist (sk1 (sc1 (sk1 (sk1 (sk1 (sk1 (sk1 (sk1 (sk1 (sk1 (sk1 (sk1 (sk1 (sk1 (sk1 (sk1 (sk1 (sk1 (.refl _)))))))))))))))))))) rfl (Ev.move rfl) ?_
     refine HdJ.tk hsel hlt 1 (fun w h => h.sublist (sk1 (sc1 (sk1 (sk1 (sk1 (sk1 (sk1 (sk1 (sk1 (sk1 (sk1 (sk1 (sk1 (sk1 (sk1 (sk1 (sk1 (sk1 (.refl _)))))))))))))))))))) rfl (Ev.move rfl) ?_
     refine HdJ.tk hsel hlt 2 (fun w h => h.sublist (sk1 (sc1 (sk1 (sk1 (sk1 (sk1 (sk1 (sk1 (sk1 (sk1 (sk1 (sk1 (sk1 (sk1 (sk1 (sk1 (sk1 (sk1 (.refl _)))))))))))))))))))) rfl (Ev.nilCheckS (α := LR Int) rfl (Rd.own (i := 1) rfl rfl rfl) ((Get.elemN (s := 1) rfl r124g (Get.here _)).off (by omega)) rfl) ?_
     refine HdJ.tk hsel hlt 3 (fun w h => h.sublist (sk1 (sc1 (sk1 (sk1 (sk1 (sk1 (sk1 (sk1 (sk1 (sk1 (sk1 (sk1 (sk1 (sk1 (sk1 (sk1 (sk1 (sk1 (.refl _)))))))))))))))))))) rfl (Ev.loadS (α := LR Int) rfl (Rd.own (i := 1) rfl rfl rfl) Try.isAgg36 (v := Sl.v r124h) ((Get.elemN (s := 1) rfl r124g (Get.here _)).off (by omega))) ?_
     refine HdJ.tk hsel hlt 4 (fun w h => h.sublist (sk1 (sc1 (sk1 (sk1 (sk1 (sk1 (sk1 (sk1 (sk1 (sk1 (sk1 (sk1 (sk1 (sk1 (sk1 (sk1 (sk1 (sk1 (.refl _)))))))))))))))))))) rfl (Ev.fieldAddr (off' := 2) rfl Try.runUnderlying61 rfl Try.sizeOf3 rfl rfl) ?_
     refine HdJ.tk hsel hlt 5 (fun w h => h.sublist (sk1 (sc1 (sk1 (sk1 (sk1 (sk1 (sk1 (sk1 (sk1 (sk1 (sk1 (sk1 (sk1 (sk1 (sk1 (sk1 (sk1 (sk1 (.refl _)))))))))))))))))))) rfl (Ev.load (i := 15) rfl rfl Try.isAgg3 (v := iv a1.N) ((Beat.get_N (Get.here _)).off (by rfl))) ?_
     refine HdJ.step [6] (by kernel_rfl) rfl ?_
     refine HdStep.c (fun inv => ?_) ?_
     ·refine Lst.buildSlice (α := Int) (xs := ([a1.N] : List Int)) (pv := [(0, iv a1.N)]) rfl rfl (by decide) ⟨rfl, rfl, trivial⟩ (run_buildSlice (α := Int) (z0 := (0 : Int)) (xs := ([a1.N] : List Int)) Try.runUnderlying36 Try.sizeOf3 Try.zeroValue3 rfl rfl rfl (by decide) rfl (fill_cons (cs := encs (List.replicate 1 (0 : Int))) (cs' := encs ((List.replicate 1 (0 : Int)).set 0 a1.N)) (vs := [iv a1.N]) rfl rfl rfl ((Put.elemN (s := 1) (i := 0) (x := (0 : Int)) (y := a1.N) rfl rfl (Put.here (vs := [iv a1.N]) rfl)).off rfl) fill_nil)) rfl rfl (by decide) (fun s188 _ => ?_)
      refine Lst.nil ?_
      refine At.hd inv (fun w h => (h.weaken (FLe.refl _)).sublist (sc1 (sk1 (sc1 (sk1 (sk1 (sk1 (sk1 (sk1 (sk1 (sk1 (sk1 (sk1 (sk1 (sk1 (sk1 (sk1 (sk1 (sk1 (sk1 (.refl _))))))))))))))))))))) ?_
      refine HdJ.step [7] (by kernel_rfl) rfl ?_
      refine HdStep.c (fun inv => ?_) ?_
      ·refine Lst.front (i := 2) rfl (L' := (.rows (α := Int) 3 rs82) :: (.own s188 3 1 (encs ([a1.N] : List Int))) :: (.own s149 3 1 (encs l150)) :: (.own s81 36 1 (encs rs82)) :: (.blk b73 (enc (TurnR.mk Turn.zero Sl.nil Sl.nil Sl.nil)) 59) :: (.own Sl.nil 3 1 (encs ([] : List Int))) :: (.own Sl.nil 3 1 (encs ([] : List Int))) :: (.own Sl.nil 36 1 (encs ([] : List (LR Int)))) :: (.blk b30 (enc (TurnR.mk ({ y151 with Want := y80.Want, Told := l41 } : Turn) s81 s152 s40)) 59) :: (.own s31 3 1 (encs l32)) :: (.own s33 3 1 (encs l34)) :: (.own s35 36 1 (encs rs37)) :: (.own s40 3 1 (encs l41)) :: (.blk b9 (enc (TurnR.mk ({ Turn.zero with Want := ([] : List (List Int)), Log := ([] : List Int), Told := ([] : List Int) } : Turn) Sl.nil Sl.nil Sl.nil)) 59) :: (.own Sl.nil 3 1 (encs ([] : List Int))) :: (.own Sl.nil 3 1 (encs ([] : List Int))) :: (.own Sl.nil 36 1 (encs ([] : List (LR Int)))) :: (.blk b3 (enc a1) 61) :: (.blk b1 (enc (TurnR.mk a0 s_a0_2 s_a0_3 s_a0_4)) 59) :: L) rfl ?_
       refine Lst.rowOut (k := a1.Who.toNat) r124g rfl ?_
       refine Lst.its (L' := (.own r124h 3 1 (encs x121)) :: (.rows (α := Int) 3 (rs82.set a1.Who.toNat ⟨[], Sl.nil⟩)) :: (.own s188 3 1 (encs ([a1.N] : List Int))) :: (.own s149 3 1 (encs l150)) :: (.own s81 36 1 (encs rs82)) :: (.blk b73 (enc (TurnR.mk Turn.zero Sl.nil Sl.nil Sl.nil)) 59) :: (.own Sl.nil 3 1 (encs ([] : List Int))) :: (.own Sl.nil 3 1 (encs ([] : List Int))) :: (.own Sl.nil 36 1 (encs ([] : List (LR Int)))) :: (.blk b30 (enc (TurnR.mk ({ y151 with Want := y80.Want, Told := l41 } : Turn) s81 s152 s40)) 59) :: (.own s31 3 1 (encs l32)) :: (.own s33 3 1 (encs l34)) :: (.own s35 36 1 (encs rs37)) :: (.own s40 3 1 (encs l41)) :: (.blk b9 (enc (TurnR.mk ({ Turn.zero with Want := ([] : List (List Int)), Log := ([] : List Int), Told := ([] : List Int) } : Turn) Sl.nil Sl.nil Sl.nil)) 59) :: (.own Sl.nil 3 1 (encs ([] : List Int))) :: (.own Sl.nil 3 1 (encs ([] : List Int))) :: (.own Sl.nil 36 1 (encs ([] : List (LR Int)))) :: (.blk b3 (enc a1) 61) :: (.blk b1 (enc (TurnR.mk a0 s_a0_2 s_a0_3 s_a0_4)) 59) :: L) rfl ?_
       refine Lst.append (i := 0) (α := Int) (xs := x121) (ys := ([a1.N] : List Int)) rfl rfl (by decide) rfl rfl Try.runUnderlying36 Try.typeInfo3 rfl rfl rfl rfl rfl rfl (Rd.own (i := 2) rfl rfl rfl) rfl (room_some h181) rfl (fun s189 => ?_)
       refine Lst.its (L' := (.own s189 3 1 (encs (x121 ++ ([a1.N] : List Int)))) :: (.rows (α := Int) 3 (rs82.set a1.Who.toNat ⟨[], Sl.nil⟩)) :: (.own s188 3 1 (encs ([a1.N] : List Int))) :: (.own s149 3 1 (encs l150)) :: (.own s81 36 1 (encs rs82)) :: (.blk b73 (enc (TurnR.mk Turn.zero Sl.nil Sl.nil Sl.nil)) 59) :: (.own Sl.nil 3 1 (encs ([] : List Int))) :: (.own Sl.nil 3 1 (encs ([] : List Int))) :: (.own Sl.nil 36 1 (encs ([] : List (LR Int)))) :: (.blk b30 (enc (TurnR.mk ({ y151 with Want := y80.Want, Told := l41 } : Turn) s81 s152 s40)) 59) :: (.own s31 3 1 (encs l32)) :: (.own s33 3 1 (encs l34)) :: (.own s35 36 1 (encs rs37)) :: (.own s40 3 1 (encs l41)) :: (.blk b9 (enc (TurnR.mk ({ Turn.zero with Want := ([] : List (List Int)), Log := ([] : List Int), Told := ([] : List Int) } : Turn) Sl.nil Sl.nil Sl.nil)) 59) :: (.own Sl.nil 3 1 (encs ([] : List Int))) :: (.own Sl.nil 3 1 (encs ([] : List Int))) :: (.own Sl.nil 36 1 (encs ([] : List (LR Int)))) :: (.blk b3 (enc a1) 61) :: (.blk b1 (enc (TurnR.mk a0 s_a0_2 s_a0_3 s_a0_4)) 59) :: L) rfl ?_
       refine Lst.nil ?_
       refine At.hd inv (fun w h => (h.weaken (FLe.refl _)).sublist (sc1 (sc1 (sc1 (sk1 (sk1 (sk1 (sk1 (sk1 (sk1 (sk1 (sk1 (sk1 (sk1 (sk1 (sk1 (sk1 (sk1 (sk1 (sk1 (sk1 (.refl _)))))))))))))))))))))) ?_
       refine HdJ.done (by kernel_rfl) ?_
       refine At.less (L' := (.own s189 3 1 (encs (x121 ++ ([a1.N] : List Int)))) :: (.rows (α := Int) 3 (rs82.set a1.Who.toNat ⟨[], Sl.nil⟩)) :: (.own s149 3 1 (encs l150)) :: (.own s81 36 1 (encs rs82)) :: (.blk b73 (enc (TurnR.mk Turn.zero Sl.nil Sl.nil Sl.nil)) 59) :: (.own Sl.nil 3 1 (encs ([] : List Int))) :: (.own Sl.nil 3 1 (encs ([] : List Int))) :: (.own Sl.nil 36 1 (encs ([] : List (LR Int)))) :: (.blk b30 (enc (TurnR.mk ({ y151 with Want := y80.Want, Told := l41 } : Turn) s81 s152 s40)) 59) :: (.own s31 3 1 (encs l32)) :: (.own s33 3 1 (encs l34)) :: (.own s35 36 1 (encs rs37)) :: (.own s40 3 1 (encs l41)) :: (.blk b9 (enc (TurnR.mk ({ Turn.zero with Want := ([] : List (List Int)), Log := ([] : List Int), Told := ([] : List Int) } : Turn) Sl.nil Sl.nil Sl.nil)) 59) :: (.own Sl.nil 3 1 (encs ([] : List Int))) :: (.own Sl.nil 3 1 (encs ([] : List Int))) :: (.own Sl.nil 36 1 (encs ([] : List (LR Int)))) :: (.blk b3 (enc a1) 61) :: (.blk b1 (enc (TurnR.mk a0 s_a0_2 s_a0_3 s_a0_4)) 59) :: L) (sk1 (sk1 (sc1 (sk1 (sk1 (sk1 (sk1 (sk1 (sk1 (sk1 (sk1 (sk1 (sk1 (sk1 (sk1 (sk1 (sk1 (sk1 (sk1 (sk1 (.refl _))))))))))))))))))))) ?_
       exact At.meetN (s189, x121 ++ ([a1.N] : List Int)) (FLe.refl _) ⟨rfl, rfl, rfl, rfl, trivial⟩ rfl h187
      exact trivial
     exact trivial
    rintro F190 ⟨s184, l185⟩ hF191 hy
    subst hy
    refine Lst.as (e' := [(4, pv b9 0), (7, pv b30 0), (65, Sl.at s81 (a1.Who.toNat * 1)), (72, Sl.v s184)]) (L' := (.own s184 3 1 (encs l185)) :: (.rows (α := Int) 3 (rs82.set a1.Who.toNat ⟨[], Sl.nil⟩)) :: (.own s149 3 1 (encs l150)) :: (.own s81 36 1 (encs rs82)) :: (.blk b73 (enc (TurnR.mk Turn.zero Sl.nil Sl.nil Sl.nil)) 59) :: (.own Sl.nil 3 1 (encs ([] : List Int))) :: (.own Sl.nil 3 1 (encs ([] : List Int))) :: (.own Sl.nil 36 1 (encs ([] : List (LR Int)))) :: (.blk b30 (enc (TurnR.mk ({ y151 with Want := y80.Want, Told := l41 } : Turn) s81 s152 s40)) 59) :: (.own s31 3 1 (encs l32)) :: (.own s33 3 1 (encs l34)) :: (.own s35 36 1 (encs rs37)) :: (.own s40 3 1 (encs l41)) :: (.blk b9 (enc (TurnR.mk ({ Turn.zero with Want := ([] : List (List Int)), Log := ([] : List Int), Told := ([] : List Int) } : Turn) Sl.nil Sl.nil Sl.nil)) 59) :: (.own Sl.nil 3 1 (encs ([] : List Int))) :: (.own Sl.nil 3 1 (encs ([] : List Int))) :: (.own Sl.nil 36 1 (encs ([] : List (LR Int)))) :: (.blk b3 (enc a1) 61) :: (.blk b1 (enc (TurnR.mk a0 s_a0_2 s_a0_3 s_a0_4)) 59) :: L) ⟨rfl, rfl, rfl, rfl, trivial⟩ rfl ?_
    refine Lst.r (Ev.nilCheckS (α := LR Int) rfl (Rd.own (i := 3) rfl rfl rfl) ((Get.elemN (s := 1) rfl r124g (Get.here _)).off (by omega)) rfl) ?_
    obtain ⟨p192, h193, H⟩ := Let_some H
    have hm194 : (rs82.set a1.Who.toNat (LR.mk l185 s184)).map LR.v = p192 := (map_set fm83 _ _).trans h193
    refine Lst.storeS (i := 3) rfl rfl rfl rfl rfl Try.sizeOf36 (vs := [Sl.v s184]) rfl rfl (by decide) rfl (xs' := encs (rs82.set a1.Who.toNat (LR.mk l185 s184))) ((Put.elemN (s := 1) (y := (LR.mk l185 s184)) rfl r124g (Put.here (vs := [Sl.v s184]) rfl)).off (by omega)) (L' := (.own s184 3 1 (encs l185)) :: (.rows (α := Int) 3 (rs82.set a1.Who.toNat ⟨[], Sl.nil⟩)) :: (.own s149 3 1 (encs l150)) :: (.own s81 36 1 (encs (rs82.set a1.Who.toNat (LR.mk l185 s184)))) :: (.blk b73 (enc (TurnR.mk Turn.zero Sl.nil Sl.nil Sl.nil)) 59) :: (.own Sl.nil 3 1 (encs ([] : List Int))) :: (.own Sl.nil 3 1 (encs ([] : List Int))) :: (.own Sl.nil 36 1 (encs ([] : List (LR Int)))) :: (.blk b30 (enc (TurnR.mk ({ y151 with Want := p192, Told := l41 } : Turn) s81 s152 s40)) 59) :: (.own s31 3 1 (encs l32)) :: (.own s33 3 1 (encs l34)) :: (.own s35 36 1 (encs rs37)) :: (.own s40 3 1 (encs l41)) :: (.blk b9 (enc (TurnR.mk ({ Turn.zero with Want := ([] : List (List Int)), Log := ([] : List Int), Told := ([] : List Int) } : Turn) Sl.nil Sl.nil Sl.nil)) 59) :: (.own Sl.nil 3 1 (encs ([] : List Int))) :: (.own Sl.nil 3 1 (encs ([] : List Int))) :: (.own Sl.nil 36 1 (encs ([] : List (LR Int)))) :: (.blk b3 (enc a1) 61) :: (.blk b1 (enc (TurnR.mk a0 s_a0_2 s_a0_3 s_a0_4)) 59) :: L) rfl ?_
    refine Lst.rowIn (k := a1.Who.toNat) (by rw [List.getElem?_set_self (List.getElem?_eq_some_iff.1 r124g).1]) rfl ?_
    refine Lst.its (L' := (.rows (α := Int) 3 (rs82.set a1.Who.toNat (LR.mk l185 s184))) :: (.own s149 3 1 (encs l150)) :: (.own s81 36 1 (encs (rs82.set a1.Who.toNat (LR.mk l185 s184)))) :: (.blk b73 (enc (TurnR.mk Turn.zero Sl.nil Sl.nil Sl.nil)) 59) :: (.own Sl.nil 3 1 (encs ([] : List Int))) :: (.own Sl.nil 3 1 (encs ([] : List Int))) :: (.own Sl.nil 36 1 (encs ([] : List (LR Int)))) :: (.blk b30 (enc (TurnR.mk ({ y151 with Want := p192, Told := l41 } : Turn) s81 s152 s40)) 59) :: (.own s31 3 1 (encs l32)) :: (.own s33 3 1 (encs l34)) :: (.own s35 36 1 (encs rs37)) :: (.own s40 3 1 (encs l41)) :: (.blk b9 (enc (TurnR.mk ({ Turn.zero with Want := ([] : List (List Int)), Log := ([] : List Int), Told := ([] : List Int) } : Turn) Sl.nil Sl.nil Sl.nil)) 59) :: (.own Sl.nil 3 1 (encs ([] : List Int))) :: (.own Sl.nil 3 1 (encs ([] : List Int))) :: (.own Sl.nil 36 1 (encs ([] : List (LR Int)))) :: (.blk b3 (enc a1) 61) :: (.blk b1 (enc (TurnR.mk a0 s_a0_2 s_a0_3 s_a0_4)) 59) :: L) (by rw [List.set_set]) ?_
    refine Lst.nil ?_
    refine At.in_normal ?_
    refine At.less (L' := (.rows (α := Int) 3 (rs82.set a1.Who.toNat (LR.mk l185 s184))) :: (.own s81 36 1 (encs (rs82.set a1.Who.toNat (LR.mk l185 s184)))) :: (.blk b73 (enc (TurnR.mk Turn.zero Sl.nil Sl.nil Sl.nil)) 59) :: (.own Sl.nil 3 1 (encs ([] : List Int))) :: (.own Sl.nil 3 1 (encs ([] : List Int))) :: (.own Sl.nil 36 1 (encs ([] : List (LR Int)))) :: (.blk b30 (enc (TurnR.mk ({ y151 with Want := p192, Told := l41 } : Turn) s81 s152 s40)) 59) :: (.own s31 3 1 (encs l32)) :: (.own s33 3 1 (encs l34)) :: (.own s35 36 1 (encs rs37)) :: (.own s40 3 1 (encs l41)) :: (.blk b9 (enc (TurnR.mk ({ Turn.zero with Want := ([] : List (List Int)), Log := ([] : List Int), Told := ([] : List Int) } : Turn) Sl.nil Sl.nil Sl.nil)) 59) :: (.own Sl.nil 3 1 (encs ([] : List Int))) :: (.own Sl.nil 3 1 (encs ([] : List Int))) :: (.own Sl.nil 36 1 (encs ([] : List (LR Int)))) :: (.blk b3 (enc a1) 61) :: (.blk b1 (enc (TurnR.mk a0 s_a0_2 s_a0_3 s_a0_4)) 59) :: L) (sk1 (sc1 (sk1 (sk1 (sk1 (sk1 (sk1 (sk1 (sk1 (sk1 (sk1 (sk1 (sk1 (sk1 (sk1 (sk1 (sk1 (sk1 (.refl _))))))))))))))))))) ?_
    exact At.meet (({ y151 with Want := p192, Told := l41 } : Turn), s152, p192, (rs82.set a1.Who.toNat (LR.mk l185 s184))) (FLe.trans hF167 hF191) ⟨rfl, rfl, trivial⟩ rfl ⟨some_inj H, (f153.mono hF191 (.refl _)), hm194⟩
   replace H := ite_f hb133 H
   refine Cd.condF rfl hb133 ?_
   refine Cd.seq ?_
   refine Cd.region ?_
   refine Lst.r (Ev.eql rfl rfl) ?_
   refine Lst.r (Ev.assign rfl) ?_
   refine Lst.nil ?_
   refine At.then ?_
   rcases (Bool.eq_false_or_eq_true (a1.Kind == (2 : Int))).symm with hb195 | hb195
   ·replace H := ite_f hb195 H
    refine Cd.condF rfl hb195 ?_
    refine Cd.seq ?_
    refine Cd.as (e' := [(3, pv b3 0), (4, pv b9 0), (7, pv b30 0), (8, pv b73 0), (51, iv a1.Kind)]) (L' := (.rows (α := Int) 3 rs82) :: (.own s81 36 1 (encs rs82)) :: (.blk b73 (enc (TurnR.mk Turn.zero Sl.nil Sl.nil Sl.nil)) 59) :: (.own Sl.nil 3 1 (encs ([] : List Int))) :: (.own Sl.nil 3 1 (encs ([] : List Int))) :: (.own Sl.nil 36 1 (encs ([] : List (LR Int)))) :: (.blk b30 (enc (TurnR.mk ({ y80 with Log := l43, Told := l41 } : Turn) s81 s42 s40)) 59) :: (.own s31 3 1 (encs l32)) :: (.own s33 3 1 (encs l34)) :: (.own s35 36 1 (encs rs37)) :: (.own s40 3 1 (encs l41)) :: (.own s42 3 1 (encs l43)) :: (.blk b9 (enc (TurnR.mk ({ Turn.zero with Want := ([] : List (List Int)), Log := ([] : List Int), Told := ([] : List Int) } : Turn) Sl.nil Sl.nil Sl.nil)) 59) :: (.own Sl.nil 3 1 (encs ([] : List Int))) :: (.own Sl.nil 3 1 (encs ([] : List Int))) :: (.own Sl.nil 36 1 (encs ([] : List (LR Int)))) :: (.blk b3 (enc a1) 61) :: (.blk b1 (enc (TurnR.mk a0 s_a0_2 s_a0_3 s_a0_4)) 59) :: L) ⟨rfl, rfl, rfl, rfl, rfl, trivial⟩ rfl ?_
    refine Cd.region ?_
    refine Lst.r (Ev.eql rfl rfl) ?_
    refine Lst.r (Ev.assign rfl) ?_
    refine Lst.nil ?_
    refine At.then ?_
    rcases Bool.eq_false_or_eq_true (a1.Kind == (3 : Int)) with hb196 | hb196
    ·replace H := ite_t hb196 H
     refine Cd.condT rfl hb196 ?_
     refine Cd.seq ?_
     refine Cd.region ?_
     refine Lst.r (Ev.fieldAddr (off' := 4) rfl Try.runUnderlying59 rfl Try.sizeOf36 rfl rfl) ?_
     refine Lst.r (Ev.load (i := 6) rfl rfl Try.isAgg36 (v := Sl.v s40) ((TurnR.get_Told (Get.here _)).off (by rfl))) ?_
     refine Lst.r (Ev.fieldAddr (off' := 1) rfl Try.runUnderlying61 rfl Try.sizeOf3 rfl rfl) ?_
     refine Lst.r (Ev.load (i := 16) rfl rfl Try.isAgg3 (v := iv a1.Who) ((Beat.get_Who (Get.here _)).off (by rfl))) ?_
     obtain ⟨x197, h198, H⟩ := bind_some H
     have g199 := lat_some h198
     refine Lst.r (Ev.indexS (α := Int) (xs := l41) rfl rfl Try.runUnderlying36 Try.sizeOf3 rfl (by decide) (Rd.own (i := 10) rfl rfl rfl) g199.1 g199.2.1) ?_
     refine Lst.r (Ev.loadS (α := Int) rfl (Rd.own (i := 10) rfl rfl rfl) Try.isAgg3 (v := iv x197) ((Get.elemN (s := 1) (x := x197) rfl g199.2.2 (Get.here _)).off (by omega))) ?_
     refine Lst.r (Ev.assign rfl) ?_
     refine Lst.nil ?_
     refine At.then ?_
     refine Cd.seq ?_
     refine Cd.seq ?_
     refine Cd.region ?_
     refine Lst.r (Ev.move rfl) ?_
     refine Lst.r (Ev.fieldAddr (off' := 3) rfl Try.runUnderlying59 rfl Try.sizeOf36 rfl rfl) ?_
     refine Lst.r (Ev.load (i := 6) rfl rfl Try.isAgg36 (v := Sl.v s42) ((TurnR.get_Log (Get.here _)).off (by rfl))) ?_
     refine Lst.r (Ev.lenS (α := Int) (xs := l43) (by decide) rfl rfl Try.runUnderlying36 (Rd.own (i := 11) rfl rfl rfl)) ?_
     refine Lst.r (Ev.geq rfl rfl) ?_
     refine Lst.nil ?_
     refine At.then ?_
     rcases Bool.eq_false_or_eq_true (decide (x197 ≥ (l43.length : Int))) with hb200 | hb200
     ·replace H := ite_t hb200 H
      refine Cd.condT rfl hb200 ?_
      refine Cd.seq ?_
      refine Cd.as (e' := [(4, pv b9 0), (8, pv b73 0)]) (L' := (.rows (α := Int) 3 rs82) :: (.own s81 36 1 (encs rs82)) :: (.blk b73 (enc (TurnR.mk Turn.zero Sl.nil Sl.nil Sl.nil)) 59) :: (.own Sl.nil 3 1 (encs ([] : List Int))) :: (.own Sl.nil 3 1 (encs ([] : List Int))) :: (.own Sl.nil 36 1 (encs ([] : List (LR Int)))) :: (.blk b30 (enc (TurnR.mk ({ y80 with Log := l43, Told := l41 } : Turn) s81 s42 s40)) 59) :: (.own s31 3 1 (encs l32)) :: (.own s33 3 1 (encs l34)) :: (.own s35 36 1 (encs rs37)) :: (.own s40 3 1 (encs l41)) :: (.own s42 3 1 (encs l43)) :: (.blk b9 (enc (TurnR.mk ({ Turn.zero with Want := ([] : List (List Int)), Log := ([] : List Int), Told := ([] : List Int) } : Turn) Sl.nil Sl.nil Sl.nil)) 59) :: (.own Sl.nil 3 1 (encs ([] : List Int))) :: (.own Sl.nil 3 1 (encs ([] : List Int))) :: (.own Sl.nil 36 1 (encs ([] : List (LR Int)))) :: (.blk b3 (enc a1) 61) :: (.blk b1 (enc (TurnR.mk a0 s_a0_2 s_a0_3 s_a0_4)) 59) :: L) ⟨rfl, rfl, trivial⟩ rfl ?_
      refine Cd.region ?_
      refine Lst.r (Ev.loadA (i := 2) rfl rfl Try.isAgg59 Try.sizeOf59 (ch := enc (TurnR.mk Turn.zero Sl.nil Sl.nil Sl.nil)) (Enc.len _) (Get.here _)) ?_
      refine Lst.store (i := 12) rfl rfl rfl rfl rfl Try.sizeOf59 (vs := enc (TurnR.mk Turn.zero Sl.nil Sl.nil Sl.nil)) rfl (Enc.len _) (Enc.one _) (cs' := enc (TurnR.mk Turn.zero Sl.nil Sl.nil Sl.nil)) (Put.here ((Enc.len _).trans (Enc.len _).symm)) (L' := (.rows (α := Int) 3 rs82) :: (.own s81 36 1 (encs rs82)) :: (.blk b73 (enc (TurnR.mk Turn.zero Sl.nil Sl.nil Sl.nil)) 59) :: (.own Sl.nil 3 1 (encs ([] : List Int))) :: (.own Sl.nil 3 1 (encs ([] : List Int))) :: (.own Sl.nil 36 1 (encs ([] : List (LR Int)))) :: (.blk b30 (enc (TurnR.mk ({ y80 with Log := l43, Told := l41 } : Turn) s81 s42 s40)) 59) :: (.own s31 3 1 (encs l32)) :: (.own s33 3 1 (encs l34)) :: (.own s35 36 1 (encs rs37)) :: (.own s40 3 1 (encs l41)) :: (.own s42 3 1 (encs l43)) :: (.blk b9 (enc (TurnR.mk Turn.zero Sl.nil Sl.nil Sl.nil)) 59) :: (.own Sl.nil 3 1 (encs ([] : List Int))) :: (.own Sl.nil 3 1 (encs ([] : List Int))) :: (.own Sl.nil 36 1 (encs ([] : List (LR Int)))) :: (.blk b3 (enc a1) 61) :: (.blk b1 (enc (TurnR.mk a0 s_a0_2 s_a0_3 s_a0_4)) 59) :: L) rfl ?_
      refine Lst.r (Ev.assign rfl) ?_
      refine Lst.r (Ev.assign rfl) ?_
      refine Lst.nil ?_
      refine At.then ?_
      obtain rfl := some_inj H
      replace H := HKo132
      obtain rfl := some_inj H
      refine Cd.ret ?_
      refine At.then_ret ?_
      refine At.in_ret ?_
      refine At.then_ret ?_
      have ha203m : List.map LR.v ([] : List (LR Int)) = ([] : List (List Int)) := rfl
      refine At.addNil 36 1 ?_
      refine At.rowsNil Int 3 0 ?_
      refine At.its (L' := (.rows (α := Int) 3 ([] : List (LR Int))) :: (.own Sl.nil 36 1 (encs ([] : List (LR Int)))) :: (.rows (α := Int) 3 rs82) :: (.own s81 36 1 (encs rs82)) :: (.blk b73 (enc (TurnR.mk Turn.zero Sl.nil Sl.nil Sl.nil)) 59) :: (.own Sl.nil 3 1 (encs ([] : List Int))) :: (.own Sl.nil 3 1 (encs ([] : List Int))) :: (.own Sl.nil 36 1 (encs ([] : List (LR Int)))) :: (.blk b30 (enc (TurnR.mk ({ y80 with Log := l43, Told := l41 } : Turn) s81 s42 s40)) 59) :: (.own s31 3 1 (encs l32)) :: (.own s33 3 1 (encs l34)) :: (.own s35 36 1 (encs rs37)) :: (.own s40 3 1 (encs l41)) :: (.own s42 3 1 (encs l43)) :: (.blk b9 (enc (TurnR.mk Turn.zero Sl.nil Sl.nil Sl.nil)) 59) :: (.own Sl.nil 3 1 (encs ([] : List Int))) :: (.own Sl.nil 3 1 (encs ([] : List Int))) :: (.own Sl.nil 36 1 (encs ([] : List (LR Int)))) :: (.blk b3 (enc a1) 61) :: (.blk b1 (enc (TurnR.mk a0 s_a0_2 s_a0_3 s_a0_4)) 59) :: L) rfl ?_
      refine At.addNil 3 1 ?_
      refine At.front (i := 2) rfl rfl ?_
      refine At.front (i := 2) rfl (L' := (.rows (α := Int) 3 ([] : List (LR Int))) :: (.own Sl.nil 36 1 (encs ([] : List (LR Int)))) :: (.own Sl.nil 3 1 (encs ([] : List Int))) :: (.rows (α := Int) 3 rs82) :: (.own s81 36 1 (encs rs82)) :: (.blk b73 (enc (TurnR.mk Turn.zero Sl.nil Sl.nil Sl.nil)) 59) :: (.own Sl.nil 3 1 (encs ([] : List Int))) :: (.own Sl.nil 3 1 (encs ([] : List Int))) :: (.own Sl.nil 36 1 (encs ([] : List (LR Int)))) :: (.blk b30 (enc (TurnR.mk ({ y80 with Log := l43, Told := l41 } : Turn) s81 s42 s40)) 59) :: (.own s31 3 1 (encs l32)) :: (.own s33 3 1 (encs l34)) :: (.own s35 36 1 (encs rs37)) :: (.own s40 3 1 (encs l41)) :: (.own s42 3 1 (encs l43)) :: (.blk b9 (enc (TurnR.mk ({ Turn.zero with Want := ([] : List (List Int)), Told := ([] : List Int) } : Turn) Sl.nil Sl.nil Sl.nil)) 59) :: (.own Sl.nil 3 1 (encs ([] : List Int))) :: (.own Sl.nil 3 1 (encs ([] : List Int))) :: (.own Sl.nil 36 1 (encs ([] : List (LR Int)))) :: (.blk b3 (enc a1) 61) :: (.blk b1 (enc (TurnR.mk a0 s_a0_2 s_a0_3 s_a0_4)) 59) :: L) rfl ?_
      exact At.ret3 rfl (Res.cellA (i := 15) rfl rfl Try.isAgg59 Try.sizeOf59 (Enc.len _)) (Res.tmp rfl) (Res.tmp rfl) (FLe.trans hF68 hF87) (sk1 (sk1 (sk1 (sc1 (sc1 (sc1 (sc1 (sc1 (sc1 (sc1 (sc1 (sc1 (sc1 (sc1 (sc1 (sc1 (sc1 (sc1 (sc1 (sc1 (sc1 (.refl _)))))))))))))))))))))) ⟨Sl.nil, ([] : List (LR Int)), Sl.nil, Sl.nil, rfl, rfl, ha203m, Rd.nil⟩
     replace H := ite_f hb200 H
     refine Cd.condF rfl hb200 ?_
     refine Cd.skip ?_
     refine At.then ?_
     refine Cd.seq ?_
     refine Cd.as (e' := [(3, pv b3 0), (4, pv b9 0), (7, pv b30 0), (17, iv x197)]) (L' := (.rows (α := Int) 3 rs82) :: (.own s81 36 1 (encs rs82)) :: (.blk b73 (enc (TurnR.mk Turn.zero Sl.nil Sl.nil Sl.nil)) 59) :: (.own Sl.nil 3 1 (encs ([] : List Int))) :: (.own Sl.nil 3 1 (encs ([] : List Int))) :: (.own Sl.nil 36 1 (encs ([] : List (LR Int)))) :: (.blk b30 (enc (TurnR.mk ({ y80 with Log := l43, Told := l41 } : Turn) s81 s42 s40)) 59) :: (.own s31 3 1 (encs l32)) :: (.own s33 3 1 (encs l34)) :: (.own s35 36 1 (encs rs37)) :: (.own s40 3 1 (encs l41)) :: (.own s42 3 1 (encs l43)) :: (.blk b9 (enc (TurnR.mk ({ Turn.zero with Want := ([] : List (List Int)), Log := ([] : List Int), Told := ([] : List Int) } : Turn) Sl.nil Sl.nil Sl.nil)) 59) :: (.own Sl.nil 3 1 (encs ([] : List Int))) :: (.own Sl.nil 3 1 (encs ([] : List Int))) :: (.own Sl.nil 36 1 (encs ([] : List (LR Int)))) :: (.blk b3 (enc a1) 61) :: (.blk b1 (enc (TurnR.mk a0 s_a0_2 s_a0_3 s_a0_4)) 59) :: L) ⟨rfl, rfl, rfl, rfl, trivial⟩ rfl ?_
     refine Cd.region ?_
     refine Lst.r (Ev.fieldAddr (off' := 4) rfl Try.runUnderlying59 rfl Try.sizeOf36 rfl rfl) ?_
     refine Lst.r (Ev.load (i := 6) rfl rfl Try.isAgg36 (v := Sl.v s40) ((TurnR.get_Told (Get.here _)).off (by rfl))) ?_
     refine Lst.r (Ev.fieldAddr (off' := 1) rfl Try.runUnderlying61 rfl Try.sizeOf3 rfl rfl) ?_
     refine Lst.r (Ev.load (i := 16) rfl rfl Try.isAgg3 (v := iv a1.Who) ((Beat.get_Who (Get.here _)).off (by rfl))) ?_
     refine Lst.r (Ev.move rfl) ?_
     refine Lst.r (Ev.add rfl rfl) ?_
     obtain ⟨x205, h206, H⟩ := bind_some H
     have g207 := lat_some h206
     refine Lst.r (Ev.indexS (α := Int) (xs := l41) rfl rfl Try.runUnderlying36 Try.sizeOf3 rfl (by decide) (Rd.own (i := 10) rfl rfl rfl) g207.1 g207.2.1) ?_
     obtain ⟨p208, h209, H⟩ := Let_some H
     refine Lst.storeS (i := 10) rfl rfl rfl rfl rfl Try.sizeOf3 (vs := [iv (w64 (x197 + (1 : Int)))]) rfl rfl (by decide) rfl (xs' := encs p208) (by rw [← h209]; exact (Put.elemN (s := 1) (x := x205) rfl g207.2.2 (Put.here (vs := [iv (w64 (x197 + (1 : Int)))]) rfl)).off (by omega)) (L' := (.rows (α := Int) 3 rs82) :: (.own s81 36 1 (encs rs82)) :: (.blk b73 (enc (TurnR.mk Turn.zero Sl.nil Sl.nil Sl.nil)) 59) :: (.own Sl.nil 3 1 (encs ([] : List Int))) :: (.own Sl.nil 3 1 (encs ([] : List Int))) :: (.own Sl.nil 36 1 (encs ([] : List (LR Int)))) :: (.blk b30 (enc (TurnR.mk ({ y80 with Log := l43, Told := p208 } : Turn) s81 s42 s40)) 59) :: (.own s31 3 1 (encs l32)) :: (.own s33 3 1 (encs l34)) :: (.own s35 36 1 (encs rs37)) :: (.own s40 3 1 (encs p208)) :: (.own s42 3 1 (encs l43)) :: (.blk b9 (enc (TurnR.mk ({ Turn.zero with Want := ([] : List (List Int)), Log := ([] : List Int), Told := ([] : List Int) } : Turn) Sl.nil Sl.nil Sl.nil)) 59) :: (.own Sl.nil 3 1 (encs ([] : List Int))) :: (.own Sl.nil 3 1 (encs ([] : List Int))) :: (.own Sl.nil 36 1 (encs ([] : List (LR Int)))) :: (.blk b3 (enc a1) 61) :: (.blk b1 (enc (TurnR.mk a0 s_a0_2 s_a0_3 s_a0_4)) 59) :: L) rfl ?_
     refine Lst.nil ?_
     refine At.then ?_
     refine Cd.seq ?_
     obtain ⟨x210, h211, H⟩ := bind_some H
     refine Cd.headMeet (σ := Unit) 7 (fun (_ : Unit) => [(4, pv b9 0), (7, pv b30 0), (173, iv x210)]) (fun (_ : Unit) => (.rows (α := Int) 3 rs82) :: (.own s81 36 1 (encs rs82)) :: (.blk b73 (enc (TurnR.mk Turn.zero Sl.nil Sl.nil Sl.nil)) 59) :: (.own Sl.nil 3 1 (encs ([] : List Int))) :: (.own Sl.nil 3 1 (encs ([] : List Int))) :: (.own Sl.nil 36 1 (encs ([] : List (LR Int)))) :: (.blk b30 (enc (TurnR.mk ({ y80 with Log := l43, Told := p208 } : Turn) s81 s42 s40)) 59) :: (.own s31 3 1 (encs l32)) :: (.own s33 3 1 (encs l34)) :: (.own s35 36 1 (encs rs37)) :: (.own s40 3 1 (encs p208)) :: (.own s42 3 1 (encs l43)) :: (.blk b9 (enc (TurnR.mk ({ y80 with Log := l43, Told := p208 } : Turn) s81 s42 s40)) 59) :: (.own Sl.nil 3 1 (encs ([] : List Int))) :: (.own Sl.nil 3 1 (encs ([] : List Int))) :: (.own Sl.nil 36 1 (encs ([] : List (LR Int)))) :: (.blk b3 (enc a1) 61) :: (.blk b1 (enc (TurnR.mk a0 s_a0_2 s_a0_3 s_a0_4)) 59) :: L) (fun _ (_ : Unit) => True) (by kernel_rfl) (by kernel_rfl) (behind_sink (by kernel_rfl) (by kernel_rfl) (by kernel_rfl)) (by kernel_rfl) (fun hsel hlt => ?_) ?_
     ·refine HdJ.keep (fun w => St w0 F86 ((.rows (α := Int) 3 rs82) :: (.own s81 36 1 (encs rs82)) :: (.blk b73 (enc (TurnR.mk Turn.zero Sl.nil Sl.nil Sl.nil)) 59) :: (.own Sl.nil 3 1 (encs ([] : List Int))) :: (.own Sl.nil 3 1 (encs ([] : List Int))) :: (.own Sl.nil 36 1 (encs ([] : List (LR Int)))) :: (.blk b30 (enc (TurnR.mk ({ y80 with Log := l43, Told := p208 } : Turn) s81 s42 s40)) 59) :: (.own s31 3 1 (encs l32)) :: (.own s33 3 1 (encs l34)) :: (.own s35 36 1 (encs rs37)) :: (.own s40 3 1 (encs p208)) :: (.own s42 3 1 (encs l43)) :: (.own Sl.nil 3 1 (encs ([] : List Int))) :: (.own Sl.nil 3 1 (encs ([] : List Int))) :: (.own Sl.nil 36 1 (encs ([] : List (LR Int)))) :: (.blk b3 (enc a1) 61) :: (.blk b1 (enc (TurnR.mk a0 s_a0_2 s_a0_3 s_a0_4)) 59) :: L) w) (fun w h => trivial) ?_
      refine HdJ.tk hsel hlt 0 (fun w h => h.sublist (sk1 (sk1 (sk1 (sk1 (sk1 (sk1 (sk1 (sk1 (sk1 (sk1 (sk1 (sk1 (sc1 (sk1 (sk1 (sk1 (sk1 (sk1 (.refl _)))))))))))))))))))) rfl (Ev.loadA (i := 6) rfl rfl Try.isAgg59 Try.sizeOf59 (ch := enc (TurnR.mk ({ y80 with Log := l43, Told := p208 } : Turn) s81 s42 s40)) (Enc.len _) (Get.here _)) ?_
      refine HdJ.tk hsel hlt 1 (fun w h => h.sublist (sk1 (sk1 (sk1 (sk1 (sk1 (sk1 (sk1 (sk1 (sk1 (sk1 (sk1 (sk1 (sc1 (sk1 (sk1 (sk1 (sk1 (sk1 (.refl _)))))))))))))))))))) rfl (Ev.fieldAddr (off' := 3) rfl Try.runUnderlying59 rfl Try.sizeOf36 rfl rfl) ?_
      refine HdJ.tk hsel hlt 2 (fun w h => h.sublist (sk1 (sk1 (sk1 (sk1 (sk1 (sk1 (sk1 (sk1 (sk1 (sk1 (sk1 (sk1 (sc1 (sk1 (sk1 (sk1 (sk1 (sk1 (.refl _)))))))))))))))))))) rfl (Ev.load (i := 6) rfl rfl Try.isAgg36 (v := Sl.v s42) ((TurnR.get_Log (Get.here _)).off (by rfl))) ?_
      refine HdJ.tk hsel hlt 3 (fun w h => h.sublist (sk1 (sk1 (sk1 (sk1 (sk1 (sk1 (sk1 (sk1 (sk1 (sk1 (sk1 (sk1 (sc1 (sk1 (sk1 (sk1 (sk1 (sk1 (.refl _)))))))))))))))))))) rfl (Ev.move rfl) ?_
      have g216 := lat_some h211
      refine HdJ.tk hsel hlt 4 (fun w h => h.sublist (sk1 (sk1 (sk1 (sk1 (sk1 (sk1 (sk1 (sk1 (sk1 (sk1 (sk1 (sk1 (sc1 (sk1 (sk1 (sk1 (sk1 (sk1 (.refl _)))))))))))))))))))) rfl (Ev.indexS (α := Int) (xs := l43) rfl rfl Try.runUnderlying36 Try.sizeOf3 rfl (by decide) (Rd.own (i := 11) rfl rfl rfl) g216.1 g216.2.1) ?_
      refine HdJ.tk hsel hlt 5 (fun w h => h.sublist (sk1 (sk1 (sk1 (sk1 (sk1 (sk1 (sk1 (sk1 (sk1 (sk1 (sk1 (sk1 (sc1 (sk1 (sk1 (sk1 (sk1 (sk1 (.refl _)))))))))))))))))))) rfl (Ev.loadS (α := Int) rfl (Rd.own (i := 11) rfl rfl rfl) Try.isAgg3 (v := iv x210) ((Get.elemN (s := 1) (x := x210) rfl g216.2.2 (Get.here _)).off (by omega))) ?_
      refine HdJ.step [6] (by kernel_rfl) rfl ?_
      refine HdStep.c (fun inv => ?_) ?_
      ·refine Lst.store (i := 12) rfl rfl rfl rfl rfl Try.sizeOf59 (vs := enc (TurnR.mk ({ y80 with Log := l43, Told := p208 } : Turn) s81 s42 s40)) rfl (Enc.len _) (Enc.one _) (cs' := enc (TurnR.mk ({ y80 with Log := l43, Told := p208 } : Turn) s81 s42 s40)) (Put.here ((Enc.len _).trans (Enc.len _).symm)) (L' := (.rows (α := Int) 3 rs82) :: (.own s81 36 1 (encs rs82)) :: (.blk b73 (enc (TurnR.mk Turn.zero Sl.nil Sl.nil Sl.nil)) 59) :: (.own Sl.nil 3 1 (encs ([] : List Int))) :: (.own Sl.nil 3 1 (encs ([] : List Int))) :: (.own Sl.nil 36 1 (encs ([] : List (LR Int)))) :: (.blk b30 (enc (TurnR.mk ({ y80 with Log := l43, Told := p208 } : Turn) s81 s42 s40)) 59) :: (.own s31 3 1 (encs l32)) :: (.own s33 3 1 (encs l34)) :: (.own s35 36 1 (encs rs37)) :: (.own s40 3 1 (encs p208)) :: (.own s42 3 1 (encs l43)) :: (.blk b9 (enc (TurnR.mk ({ y80 with Log := l43, Told := p208 } : Turn) s81 s42 s40)) 59) :: (.own Sl.nil 3 1 (encs ([] : List Int))) :: (.own Sl.nil 3 1 (encs ([] : List Int))) :: (.own Sl.nil 36 1 (encs ([] : List (LR Int)))) :: (.blk b3 (enc a1) 61) :: (.blk b1 (enc (TurnR.mk a0 s_a0_2 s_a0_3 s_a0_4)) 59) :: L) rfl ?_
       refine Lst.nil ?_
       refine At.hd inv (fun w h => (h.weaken (FLe.refl _)).sublist (sk1 (sk1 (sk1 (sk1 (sk1 (sk1 (sk1 (sk1 (sk1 (sk1 (sk1 (sk1 (sc1 (sk1 (sk1 (sk1 (sk1 (sk1 (.refl _)))))))))))))))))))) ?_
       refine HdJ.done (by kernel_rfl) ?_
       exact At.meetN () (FLe.refl _) ⟨rfl, rfl, rfl, trivial⟩ rfl trivial
      exact trivial
     rintro F217 _u hF218 hy
     refine Lst.as (e' := [(4, pv b9 0), (7, pv b30 0), (173, iv x210)]) (L' := (.rows (α := Int) 3 rs82) :: (.own s81 36 1 (encs rs82)) :: (.blk b73 (enc (TurnR.mk Turn.zero Sl.nil Sl.nil Sl.nil)) 59) :: (.own Sl.nil 3 1 (encs ([] : List Int))) :: (.own Sl.nil 3 1 (encs ([] : List Int))) :: (.own Sl.nil 36 1 (encs ([] : List (LR Int)))) :: (.blk b30 (enc (TurnR.mk ({ y80 with Log := l43, Told := p208 } : Turn) s81 s42 s40)) 59) :: (.own s31 3 1 (encs l32)) :: (.own s33 3 1 (encs l34)) :: (.own s35 36 1 (encs rs37)) :: (.own s40 3 1 (encs p208)) :: (.own s42 3 1 (encs l43)) :: (.blk b9 (enc (TurnR.mk ({ y80 with Log := l43, Told := p208 } : Turn) s81 s42 s40)) 59) :: (.own Sl.nil 3 1 (encs ([] : List Int))) :: (.own Sl.nil 3 1 (encs ([] : List Int))) :: (.own Sl.nil 36 1 (encs ([] : List (LR Int)))) :: (.blk b3 (enc a1) 61) :: (.blk b1 (enc (TurnR.mk a0 s_a0_2 s_a0_3 s_a0_4)) 59) :: L) ⟨rfl, rfl, rfl, trivial⟩ rfl ?_
     refine Lst.r (Ev.assign rfl) ?_
     refine Lst.r (Ev.assign rfl) ?_
     refine Lst.nil ?_
     refine At.then ?_
     obtain rfl := some_inj H
     replace H := HKo132
     obtain rfl := some_inj H
     refine Cd.ret ?_
     refine At.in_ret ?_
     refine At.then_ret ?_
     refine At.freeze (i := 11) rfl (fun F219 hF220 hz221 => ?_)
     have hq222 : Rd w0 F219 [] s42 l43 := Rd.frozen hz221 rfl rfl
     refine At.its (L' := (.rows (α := Int) 3 rs82) :: (.own s81 36 1 (encs rs82)) :: (.blk b73 (enc (TurnR.mk Turn.zero Sl.nil Sl.nil Sl.nil)) 59) :: (.own Sl.nil 3 1 (encs ([] : List Int))) :: (.own Sl.nil 3 1 (encs ([] : List Int))) :: (.own Sl.nil 36 1 (encs ([] : List (LR Int)))) :: (.blk b30 (enc (TurnR.mk ({ y80 with Log := l43, Told := p208 } : Turn) s81 s42 s40)) 59) :: (.own s31 3 1 (encs l32)) :: (.own s33 3 1 (encs l34)) :: (.own s35 36 1 (encs rs37)) :: (.own s40 3 1 (encs p208)) :: (.blk b9 (enc (TurnR.mk ({ y80 with Log := l43, Told := p208 } : Turn) s81 s42 s40)) 59) :: (.own Sl.nil 3 1 (encs ([] : List Int))) :: (.own Sl.nil 3 1 (encs ([] : List Int))) :: (.own Sl.nil 36 1 (encs ([] : List (LR Int)))) :: (.blk b3 (enc a1) 61) :: (.blk b1 (enc (TurnR.mk a0 s_a0_2 s_a0_3 s_a0_4)) 59) :: L) rfl ?_
     exact At.ret3 rfl (Res.cellA (i := 11) rfl rfl Try.isAgg59 Try.sizeOf59 (Enc.len _)) (Res.tmp rfl) (Res.tmp rfl) (FLe.trans (FLe.trans (FLe.trans hF68 hF87) hF218) hF220) (sk1 (sk1 (sc1 (sc1 (sc1 (sc1 (sc1 (sc1 (sc1 (sc1 (sk1 (sc1 (sc1 (sc1 (sc1 (sc1 (sc1 (.refl _)))))))))))))))))) ⟨s81, rs82, s42, s40, rfl, rfl, fm83, (hq222.mono (FLe.refl _) (List.nil_sublist _))⟩
    replace H := ite_f hb196 H
    refine Cd.condF rfl hb196 ?_
    refine Cd.skip ?_
    refine At.in_normal ?_
    refine At.freeze (i := 11) rfl (fun F223 hF224 hz225 => ?_)
    have hq226 : Rd w0 F223 [] s42 l43 := Rd.frozen hz225 rfl rfl
    refine At.its (L' := (.rows (α := Int) 3 rs82) :: (.own s81 36 1 (encs rs82)) :: (.blk b73 (enc (TurnR.mk Turn.zero Sl.nil Sl.nil Sl.nil)) 59) :: (.own Sl.nil 3 1 (encs ([] : List Int))) :: (.own Sl.nil 3 1 (encs ([] : List Int))) :: (.own Sl.nil 36 1 (encs ([] : List (LR Int)))) :: (.blk b30 (enc (TurnR.mk ({ y80 with Log := l43, Told := l41 } : Turn) s81 s42 s40)) 59) :: (.own s31 3 1 (encs l32)) :: (.own s33 3 1 (encs l34)) :: (.own s35 36 1 (encs rs37)) :: (.own s40 3 1 (encs l41)) :: (.blk b9 (enc (TurnR.mk ({ Turn.zero with Want := ([] : List (List Int)), Log := ([] : List Int), Told := ([] : List Int) } : Turn) Sl.nil Sl.nil Sl.nil)) 59) :: (.own Sl.nil 3 1 (encs ([] : List Int))) :: (.own Sl.nil 3 1 (encs ([] : List Int))) :: (.own Sl.nil 36 1 (encs ([] : List (LR Int)))) :: (.blk b3 (enc a1) 61) :: (.blk b1 (enc (TurnR.mk a0 s_a0_2 s_a0_3 s_a0_4)) 59) :: L) rfl ?_
    exact At.meet (({ y80 with Log := l43, Told := l41 } : Turn), s42, y80.Want, rs82) hF224 ⟨rfl, rfl, trivial⟩ rfl ⟨some_inj H, (hq226.mono (FLe.refl _) (List.nil_sublist _)), fm83⟩
   replace H := ite_t hb195 H
   refine Cd.condT rfl hb195 ?_
   refine Cd.seq ?_
   refine Cd.seq ?_
   refine Cd.as (e' := [(2, pv b1 0), (3, pv b3 0), (4, pv b9 0), (7, pv b30 0), (8, pv b73 0), (11, Sl.at s81 (a1.Who.toNat * 1))]) (L' := (.rows (α := Int) 3 rs82) :: (.own s81 36 1 (encs rs82)) :: (.blk b73 (enc (TurnR.mk Turn.zero Sl.nil Sl.nil Sl.nil)) 59) :: (.own Sl.nil 3 1 (encs ([] : List Int))) :: (.own Sl.nil 3 1 (encs ([] : List Int))) :: (.own Sl.nil 36 1 (encs ([] : List (LR Int)))) :: (.blk b30 (enc (TurnR.mk ({ y80 with Log := l43, Told := l41 } : Turn) s81 s42 s40)) 59) :: (.own s31 3 1 (encs l32)) :: (.own s33 3 1 (encs l34)) :: (.own s35 36 1 (encs rs37)) :: (.own s40 3 1 (encs l41)) :: (.own s42 3 1 (encs l43)) :: (.blk b9 (enc (TurnR.mk ({ Turn.zero with Want := ([] : List (List Int)), Log := ([] : List Int), Told := ([] : List Int) } : Turn) Sl.nil Sl.nil Sl.nil)) 59) :: (.own Sl.nil 3 1 (encs ([] : List Int))) :: (.own Sl.nil 3 1 (encs ([] : List Int))) :: (.own Sl.nil 36 1 (encs ([] : List (LR Int)))) :: (.blk b3 (enc a1) 61) :: (.blk b1 (enc (TurnR.mk a0 s_a0_2 s_a0_3 s_a0_4)) 59) :: L) ⟨rfl, rfl, rfl, rfl, rfl, rfl, trivial⟩ rfl ?_
   refine Cd.region ?_
   refine Lst.r (Ev.fieldAddr (off' := 1) rfl Try.runUnderlying59 rfl Try.sizeOf3 rfl rfl) ?_
   refine Lst.r (Ev.load (i := 17) rfl rfl Try.isAgg3 (v := iv a0.Has) ((TurnR.get_Has (Get.here _)).off (by rfl))) ?_
   refine Lst.r (Ev.fieldAddr (off' := 1) rfl Try.runUnderlying61 rfl Try.sizeOf3 rfl rfl) ?_
   refine Lst.r (Ev.load (i := 16) rfl rfl Try.isAgg3 (v := iv a1.Who) ((Beat.get_Who (Get.here _)).off (by rfl))) ?_
   refine Lst.r (Ev.neq rfl rfl) ?_
   refine Lst.nil ?_
   refine At.then ?_
   rcases Bool.eq_false_or_eq_true (a0.Has != a1.Who) with hb227 | hb227
   ·replace H := ite_t hb227 H
    refine Cd.condT rfl hb227 ?_
    refine Cd.seq ?_
    refine Cd.region ?_
    refine Lst.r (Ev.loadA (i := 2) rfl rfl Try.isAgg59 Try.sizeOf59 (ch := enc (TurnR.mk Turn.zero Sl.nil Sl.nil Sl.nil)) (Enc.len _) (Get.here _)) ?_
    refine Lst.store (i := 12) rfl rfl rfl rfl rfl Try.sizeOf59 (vs := enc (TurnR.mk Turn.zero Sl.nil Sl.nil Sl.nil)) rfl (Enc.len _) (Enc.one _) (cs' := enc (TurnR.mk Turn.zero Sl.nil Sl.nil Sl.nil)) (Put.here ((Enc.len _).trans (Enc.len _).symm)) (L' := (.rows (α := Int) 3 rs82) :: (.own s81 36 1 (encs rs82)) :: (.blk b73 (enc (TurnR.mk Turn.zero Sl.nil Sl.nil Sl.nil)) 59) :: (.own Sl.nil 3 1 (encs ([] : List Int))) :: (.own Sl.nil 3 1 (encs ([] : List Int))) :: (.own Sl.nil 36 1 (encs ([] : List (LR Int)))) :: (.blk b30 (enc (TurnR.mk ({ y80 with Log := l43, Told := l41 } : Turn) s81 s42 s40)) 59) :: (.own s31 3 1 (encs l32)) :: (.own s33 3 1 (encs l34)) :: (.own s35 36 1 (encs rs37)) :: (.own s40 3 1 (encs l41)) :: (.own s42 3 1 (encs l43)) :: (.blk b9 (enc (TurnR.mk Turn.zero Sl.nil Sl.nil Sl.nil)) 59) :: (.own Sl.nil 3 1 (encs ([] : List Int))) :: (.own Sl.nil 3 1 (encs ([] : List Int))) :: (.own Sl.nil 36 1 (encs ([] : List (LR Int)))) :: (.blk b3 (enc a1) 61) :: (.blk b1 (enc (TurnR.mk a0 s_a0_2 s_a0_3 s_a0_4)) 59) :: L) rfl ?_
    refine Lst.r (Ev.assign rfl) ?_
    refine Lst.r (Ev.assign rfl) ?_
    refine Lst.nil ?_
    refine At.then ?_
    obtain rfl := some_inj H
    replace H := HKo132
    obtain rfl := some_inj H
    refine Cd.ret ?_
    refine At.then_ret ?_
    refine At.in_ret ?_
    refine At.then_ret ?_
    have ha230m : List.map LR.v ([] : List (LR Int)) = ([] : List (List Int)) := rfl
    refine At.addNil 36 1 ?_
    refine At.rowsNil Int 3 0 ?_
    refine At.its (L' := (.rows (α := Int) 3 ([] : List (LR Int))) :: (.own Sl.nil 36 1 (encs ([] : List (LR Int)))) :: (.rows (α := Int) 3 rs82) :: (.own s81 36 1 (encs rs82)) :: (.blk b73 (enc (TurnR.mk Turn.zero Sl.nil Sl.nil Sl.nil)) 59) :: (.own Sl.nil 3 1 (encs ([] : List Int))) :: (.own Sl.nil 3 1 (encs ([] : List Int))) :: (.own Sl.nil 36 1 (encs ([] : List (LR Int)))) :: (.blk b30 (enc (TurnR.mk ({ y80 with Log := l43, Told := l41 } : Turn) s81 s42 s40)) 59) :: (.own s31 3 1 (encs l32)) :: (.own s33 3 1 (encs l34)) :: (.own s35 36 1 (encs rs37)) :: (.own s40 3 1 (encs l41)) :: (.own s42 3 1 (encs l43)) :: (.blk b9 (enc (TurnR.mk Turn.zero Sl.nil Sl.nil Sl.nil)) 59) :: (.own Sl.nil 3 1 (encs ([] : List Int))) :: (.own Sl.nil 3 1 (encs ([] : List Int))) :: (.own Sl.nil 36 1 (encs ([] : List (LR Int)))) :: (.blk b3 (enc a1) 61) :: (.blk b1 (enc (TurnR.mk a0 s_a0_2 s_a0_3 s_a0_4)) 59) :: L) rfl ?_
    refine At.addNil 3 1 ?_
    refine At.front (i := 2) rfl rfl ?_
    refine At.front (i := 2) rfl (L' := (.rows (α := Int) 3 ([] : List (LR Int))) :: (.own Sl.nil 36 1 (encs ([] : List (LR Int)))) :: (.own Sl.nil 3 1 (encs ([] : List Int))) :: (.rows (α := Int) 3 rs82) :: (.own s81 36 1 (encs rs82)) :: (.blk b73 (enc (TurnR.mk Turn.zero Sl.nil Sl.nil Sl.nil)) 59) :: (.own Sl.nil 3 1 (encs ([] : List Int))) :: (.own Sl.nil 3 1 (encs ([] : List Int))) :: (.own Sl.nil 36 1 (encs ([] : List (LR Int)))) :: (.blk b30 (enc (TurnR.mk ({ y80 with Log := l43, Told := l41 } : Turn) s81 s42 s40)) 59) :: (.own s31 3 1 (encs l32)) :: (.own s33 3 1 (encs l34)) :: (.own s35 36 1 (encs rs37)) :: (.own s40 3 1 (encs l41)) :: (.own s42 3 1 (encs l43)) :: (.blk b9 (enc (TurnR.mk ({ Turn.zero with Want := ([] : List (List Int)), Told := ([] : List Int) } : Turn) Sl.nil Sl.nil Sl.nil)) 59) :: (.own Sl.nil 3 1 (encs ([] : List Int))) :: (.own Sl.nil 3 1 (encs ([] : List Int))) :: (.own Sl.nil 36 1 (encs ([] : List (LR Int)))) :: (.blk b3 (enc a1) 61) :: (.blk b1 (enc (TurnR.mk a0 s_a0_2 s_a0_3 s_a0_4)) 59) :: L) rfl ?_
    exact At.ret3 rfl (Res.cellA (i := 15) rfl rfl Try.isAgg59 Try.sizeOf59 (Enc.len _)) (Res.tmp rfl) (Res.tmp rfl) (FLe.trans hF68 hF87) (sk1 (sk1 (sk1 (sc1 (sc1 (sc1 (sc1 (sc1 (sc1 (sc1 (sc1 (sc1 (sc1 (sc1 (sc1 (sc1 (sc1 (sc1 (sc1 (sc1 (sc1 (.refl _)))))))))))))))))))))) ⟨Sl.nil, ([] : List (LR Int)), Sl.nil, Sl.nil, rfl, rfl, ha230m, Rd.nil⟩
   replace H := ite_f hb227 H
   refine Cd.condF rfl hb227 ?_
   refine Cd.skip ?_
   refine At.then ?_
   refine Cd.seq ?_
   refine Cd.quiet (by kernel_rfl) (by kernel_rfl) ?_
   refine Qt.r (Ev.fieldAddr (off' := 3) rfl Try.runUnderlying59 rfl Try.sizeOf36 rfl rfl) ?_
   refine Qt.r (Ev.load (i := 6) rfl rfl Try.isAgg36 (v := Sl.v s42) ((TurnR.get_Log (Get.here _)).off (by rfl))) ?_
   refine Qt.r (Ev.lenS (α := Int) (xs := l43) (by decide) rfl rfl Try.runUnderlying36 (Rd.own (i := 11) rfl rfl rfl)) ?_
   refine Qt.r (Ev.sub rfl rfl) ?_
   refine Qt.r (Ev.move rfl) ?_
   refine Qt.r (Ev.nilCheckS (α := LR Int) rfl (Rd.own (i := 1) rfl rfl rfl) ((Get.elemN (s := 1) rfl r124g (Get.here _)).off (by omega)) rfl) ?_
   refine Qt.r (Ev.loadS (α := LR Int) rfl (Rd.own (i := 1) rfl rfl rfl) Try.isAgg36 (v := Sl.v r124h) ((Get.elemN (s := 1) rfl r124g (Get.here _)).off (by omega))) ?_
   refine Qt.r (Ev.lenS (α := Int) (xs := x121) (by decide) rfl rfl Try.runUnderlying36 (Rd.row (j := 0) rfl r124g)) ?_
   refine Qt.r (Ev.min2 rfl rfl) ?_
   refine Qt.r (Ev.assign rfl) ?_
   refine Qt.done ?_
   refine At.then ?_
   refine Cd.seq ?_
   refine Cd.as (e' := [(4, pv b9 0), (7, pv b30 0), (11, Sl.at s81 (a1.Who.toNat * 1)), (12, iv (min (w64 ((100 : Int) - (l43.length : Int))) (x121.length : Int)))]) (L' := (.rows (α := Int) 3 rs82) :: (.own s81 36 1 (encs rs82)) :: (.blk b73 (enc (TurnR.mk Turn.zero Sl.nil Sl.nil Sl.nil)) 59) :: (.own Sl.nil 3 1 (encs ([] : List Int))) :: (.own Sl.nil 3 1 (encs ([] : List Int))) :: (.own Sl.nil 36 1 (encs ([] : List (LR Int)))) :: (.blk b30 (enc (TurnR.mk ({ y80 with Log := l43, Told := l41 } : Turn) s81 s42 s40)) 59) :: (.own s31 3 1 (encs l32)) :: (.own s33 3 1 (encs l34)) :: (.own s35 36 1 (encs rs37)) :: (.own s40 3 1 (encs l41)) :: (.own s42 3 1 (encs l43)) :: (.blk b9 (enc (TurnR.mk ({ Turn.zero with Want := ([] : List (List Int)), Log := ([] : List Int), Told := ([] : List Int) } : Turn) Sl.nil Sl.nil Sl.nil)) 59) :: (.own Sl.nil 3 1 (encs ([] : List Int))) :: (.own Sl.nil 3 1 (encs ([] : List Int))) :: (.own Sl.nil 36 1 (encs ([] : List (LR Int)))) :: (.blk b3 (enc a1) 61) :: (.blk b1 (enc (TurnR.mk a0 s_a0_2 s_a0_3 s_a0_4)) 59) :: L) ⟨rfl, rfl, rfl, rfl, trivial⟩ rfl ?_
   refine Cd.tail 7 (by kernel_rfl) (by kernel_rfl) ?_
   refine Qt.r (Ev.fieldAddr (off' := 3) rfl Try.runUnderlying59 rfl Try.sizeOf36 rfl rfl) ?_
   refine Qt.r (Ev.load (i := 6) rfl rfl Try.isAgg36 (v := Sl.v s42) ((TurnR.get_Log (Get.here _)).off (by rfl))) ?_
   refine Qt.r (Ev.move rfl) ?_
   refine Qt.r (Ev.nilCheckS (α := LR Int) rfl (Rd.own (i := 1) rfl rfl rfl) ((Get.elemN (s := 1) rfl r124g (Get.here _)).off (by omega)) rfl) ?_
   refine Qt.r (Ev.loadS (α := LR Int) rfl (Rd.own (i := 1) rfl rfl rfl) Try.isAgg36 (v := Sl.v r124h) ((Get.elemN (s := 1) rfl r124g (Get.here _)).off (by omega))) ?_
   refine Qt.r (Ev.move rfl) ?_
   obtain ⟨m232, h233, H⟩ := bind_some H
   obtain ⟨g234, gl235⟩ := cutL_some h233
   try dsimp only at g234
   refine Qt.r (Ev.cut (α := Int) (xs := x121) (i := 0) (j := min (w64 ((100 : Int) - (l43.length : Int))) (x121.length : Int)) rfl rfl rfl Try.runUnderlying36 Try.sizeOf3 rfl (by decide) (Rd.row (j := 0) rfl r124g) g234.1 g234.2.1 g234.2.2) ?_
   refine Qt.tail ?_
   obtain ⟨u236, h237, H⟩ := bind_some H
   refine Lst.append (i := 11) (α := Int) (xs := l43) (ys := m232) rfl rfl (by decide) rfl rfl Try.runUnderlying36 Try.typeInfo3 rfl rfl rfl rfl rfl rfl (by rw [← gl235]; exact Rd.cut (by decide) (Rd.row (j := 0) rfl r124g) (by omega) (by omega)) rfl (room_some h237) rfl (fun s238 => ?_)
   refine Lst.its (L' := (.rows (α := Int) 3 rs82) :: (.own s81 36 1 (encs rs82)) :: (.blk b73 (enc (TurnR.mk Turn.zero Sl.nil Sl.nil Sl.nil)) 59) :: (.own Sl.nil 3 1 (encs ([] : List Int))) :: (.own Sl.nil 3 1 (encs ([] : List Int))) :: (.own Sl.nil 36 1 (encs ([] : List (LR Int)))) :: (.blk b30 (enc (TurnR.mk ({ y80 with Told := l41 } : Turn) s81 s42 s40)) 59) :: (.own s31 3 1 (encs l32)) :: (.own s33 3 1 (encs l34)) :: (.own s35 36 1 (encs rs37)) :: (.own s40 3 1 (encs l41)) :: (.own s238 3 1 (encs (l43 ++ m232))) :: (.blk b9 (enc (TurnR.mk ({ Turn.zero with Want := ([] : List (List Int)), Log := ([] : List Int), Told := ([] : List Int) } : Turn) Sl.nil Sl.nil Sl.nil)) 59) :: (.own Sl.nil 3 1 (encs ([] : List Int))) :: (.own Sl.nil 3 1 (encs ([] : List Int))) :: (.own Sl.nil 36 1 (encs ([] : List (LR Int)))) :: (.blk b3 (enc a1) 61) :: (.blk b1 (enc (TurnR.mk a0 s_a0_2 s_a0_3 s_a0_4)) 59) :: L) rfl ?_
   refine Lst.r (Ev.fieldAddr (off' := 3) rfl Try.runUnderlying59 rfl Try.sizeOf36 rfl rfl) ?_
   refine Lst.store (i := 6) rfl rfl rfl rfl rfl Try.sizeOf36 (vs := [Sl.v s238]) rfl rfl rfl (cs' := enc (TurnR.mk ({ y80 with Log := l43 ++ m232, Told := l41 } : Turn) s81 s238 s40)) ((TurnR.put_Log (Put.here (vs := [Sl.v s238]) rfl)).off (by rfl)) (L' := (.rows (α := Int) 3 rs82) :: (.own s81 36 1 (encs rs82)) :: (.blk b73 (enc (TurnR.mk Turn.zero Sl.nil Sl.nil Sl.nil)) 59) :: (.own Sl.nil 3 1 (encs ([] : List Int))) :: (.own Sl.nil 3 1 (encs ([] : List Int))) :: (.own Sl.nil 36 1 (encs ([] : List (LR Int)))) :: (.blk b30 (enc (TurnR.mk ({ y80 with Log := l43 ++ m232, Told := l41 } : Turn) s81 s238 s40)) 59) :: (.own s31 3 1 (encs l32)) :: (.own s33 3 1 (encs l34)) :: (.own s35 36 1 (encs rs37)) :: (.own s40 3 1 (encs l41)) :: (.own s238 3 1 (encs (l43 ++ m232))) :: (.blk b9 (enc (TurnR.mk ({ Turn.zero with Want := ([] : List (List Int)), Log := ([] : List Int), Told := ([] : List Int) } : Turn) Sl.nil Sl.nil Sl.nil)) 59) :: (.own Sl.nil 3 1 (encs ([] : List Int))) :: (.own Sl.nil 3 1 (encs ([] : List Int))) :: (.own Sl.nil 36 1 (encs ([] : List (LR Int)))) :: (.blk b3 (enc a1) 61) :: (.blk b1 (enc (TurnR.mk a0 s_a0_2 s_a0_3 s_a0_4)) 59) :: L) rfl ?_
   refine Lst.nil ?_
   refine At.then ?_
   refine Cd.seq ?_
   refine Cd.seq ?_
   refine Cd.region ?_
   refine Lst.r (Ev.fieldAddr (off' := 2) rfl Try.runUnderlying59 rfl Try.sizeOf57 rfl rfl) ?_
   refine Lst.r (Ev.load (i := 6) rfl rfl Try.isAgg57 (v := Sl.v s81) ((TurnR.get_Want (Get.here _)).off (by rfl))) ?_
   refine Lst.r (Ev.lenM (map_len fm83) (Ev.lenS (α := LR Int) (xs := rs82) (by decide) rfl rfl Try.runUnderlying57 (Rd.own (i := 1) rfl rfl rfl))) ?_
   refine Lst.r (Ev.move rfl) ?_
   refine Lst.nil ?_
   refine At.then ?_
   refine Cd.block ?_
   refine Cd.bound (Rd.le (α := LR Int) (xs := rs82) (by decide) (Rd.own (i := 1) rfl rfl rfl)) (fun hN320 => ?_)
   rw [map_len fm83] at hN320
   obtain ⟨ol240, H, HKl240⟩ := bind_some H
   refine Cd.loop (σ := Nat × Nat × Turn × (List (List Int)) × (List (LR Int))) (fun (i240, k240, y241, l242, rs243) => [(4, pv b9 0), (7, pv b30 0), (101, Sl.v s81), (102, iv (y80.Want.length : Int)), (103, iv (i240 : Int))]) (fun (i240, k240, y241, l242, rs243) => (.rows (α := Int) 3 rs243) :: (.own s81 36 1 (encs rs243)) :: (.blk b73 (enc (TurnR.mk Turn.zero Sl.nil Sl.nil Sl.nil)) 59) :: (.own Sl.nil 3 1 (encs ([] : List Int))) :: (.own Sl.nil 3 1 (encs ([] : List Int))) :: (.own Sl.nil 36 1 (encs ([] : List (LR Int)))) :: (.blk b30 (enc (TurnR.mk ({ y241 with Want := l242, Log := l43 ++ m232, Told := l41 } : Turn) s81 s238 s40)) 59) :: (.own s31 3 1 (encs l32)) :: (.own s33 3 1 (encs l34)) :: (.own s35 36 1 (encs rs37)) :: (.own s40 3 1 (encs l41)) :: (.own s238 3 1 (encs (l43 ++ m232))) :: (.blk b9 (enc (TurnR.mk ({ Turn.zero with Want := ([] : List (List Int)), Log := ([] : List Int), Told := ([] : List Int) } : Turn) Sl.nil Sl.nil Sl.nil)) 59) :: (.own Sl.nil 3 1 (encs ([] : List Int))) :: (.own Sl.nil 3 1 (encs ([] : List Int))) :: (.own Sl.nil 36 1 (encs ([] : List (LR Int)))) :: (.blk b3 (enc a1) 61) :: (.blk b1 (enc (TurnR.mk a0 s_a0_2 s_a0_3 s_a0_4)) 59) :: L) (fun Fx => (fun (i240, k240, y241, l242, rs243) => rangeF (partref_TurnStep_B3 l41 l43 m232) k240 i240 (y241, l242) = some ol240 ∧ i240 + k240 = y80.Want.length ∧ rs243.map LR.v = l242)) (fun (i240, k240, y241, l242, rs243) => k240) (0, y80.Want.length, ({ y80 with Log := l43 ++ m232, Told := l41 } : Turn), y80.Want, rs82) ⟨rfl, rfl, rfl, rfl, rfl, trivial⟩ rfl ⟨H, by omega, fm83⟩ ?_
   rintro F245 ⟨i240, k240, y241, l242, rs243⟩ hF246 ⟨H, hik240, fm244⟩
   refine Cd.as (e' := [(4, pv b9 0), (7, pv b30 0), (101, Sl.v s81), (102, iv (y80.Want.length : Int)), (103, iv (i240 : Int))]) (L' := (.rows (α := Int) 3 rs243) :: (.own s81 36 1 (encs rs243)) :: (.blk b73 (enc (TurnR.mk Turn.zero Sl.nil Sl.nil Sl.nil)) 59) :: (.own Sl.nil 3 1 (encs ([] : List Int))) :: (.own Sl.nil 3 1 (encs ([] : List Int))) :: (.own Sl.nil 36 1 (encs ([] : List (LR Int)))) :: (.blk b30 (enc (TurnR.mk ({ y241 with Want := l242, Log := l43 ++ m232, Told := l41 } : Turn) s81 s238 s40)) 59) :: (.own s31 3 1 (encs l32)) :: (.own s33 3 1 (encs l34)) :: (.own s35 36 1 (encs rs37)) :: (.own s40 3 1 (encs l41)) :: (.own s238 3 1 (encs (l43 ++ m232))) :: (.blk b9 (enc (TurnR.mk ({ Turn.zero with Want := ([] : List (List Int)), Log := ([] : List Int), Told := ([] : List Int) } : Turn) Sl.nil Sl.nil Sl.nil)) 59) :: (.own Sl.nil 3 1 (encs ([] : List Int))) :: (.own Sl.nil 3 1 (encs ([] : List Int))) :: (.own Sl.nil 36 1 (encs ([] : List (LR Int)))) :: (.blk b3 (enc a1) 61) :: (.blk b1 (enc (TurnR.mk a0 s_a0_2 s_a0_3 s_a0_4)) 59) :: L) ⟨rfl, rfl, rfl, rfl, rfl, trivial⟩ rfl ?_
   rcases k240 with _ | k240
   ·have hc240 : decide ((i240 : Int) < (y80.Want.length : Int)) = false := decide_eq_false (by omega)
    replace H := rangeF_end H
    refine Cd.seq ?_
    refine Cd.region ?_
    refine Lst.r (Ev.lss rfl rfl) ?_
    refine Lst.nil ?_
    refine At.then ?_
    refine Cd.seq ?_
    refine Cd.condF rfl hc240 ?_
    refine Cd.exit ?_
    refine At.then_exit ?_
    refine At.then_exit ?_
    refine At.in_exit ?_
    subst H
    replace H := HKl240
    refine At.then ?_
    refine Cd.seq ?_
    refine Cd.region ?_
    refine Lst.r (Ev.fieldAddr (off' := 1) rfl Try.runUnderlying59 rfl Try.sizeOf3 rfl rfl) ?_
    refine Lst.r (Ev.load (i := 6) rfl rfl Try.isAgg3 (v := iv y241.Has) ((TurnR.get_Has (Get.here _)).off (by rfl))) ?_
    refine Lst.r (Ev.add rfl rfl) ?_
    refine Lst.r (Ev.fieldAddr (off' := 1) rfl Try.runUnderlying59 rfl Try.sizeOf3 rfl rfl) ?_
    obtain ⟨p309, h310, H⟩ := Let_some H
    refine Lst.store (i := 6) rfl rfl rfl rfl rfl Try.sizeOf3 (vs := [iv (w64 (y241.Has + (1 : Int)))]) rfl rfl rfl (cs' := enc (TurnR.mk ({ y241 with Has := p309, Want := l242, Log := l43 ++ m232, Told := l41 } : Turn) s81 s238 s40)) (by rw [← h310]; exact (TurnR.put_Has (Put.here (vs := [iv (w64 (y241.Has + (1 : Int)))]) rfl)).off (by rfl)) (L' := (.rows (α := Int) 3 rs243) :: (.own s81 36 1 (encs rs243)) :: (.blk b73 (enc (TurnR.mk Turn.zero Sl.nil Sl.nil Sl.nil)) 59) :: (.own Sl.nil 3 1 (encs ([] : List Int))) :: (.own Sl.nil 3 1 (encs ([] : List Int))) :: (.own Sl.nil 36 1 (encs ([] : List (LR Int)))) :: (.blk b30 (enc (TurnR.mk ({ y241 with Has := p309, Want := l242, Log := l43 ++ m232, Told := l41 } : Turn) s81 s238 s40)) 59) :: (.own s31 3 1 (encs l32)) :: (.own s33 3 1 (encs l34)) :: (.own s35 36 1 (encs rs37)) :: (.own s40 3 1 (encs l41)) :: (.own s238 3 1 (encs (l43 ++ m232))) :: (.blk b9 (enc (TurnR.mk ({ Turn.zero with Want := ([] : List (List Int)), Log := ([] : List Int), Told := ([] : List Int) } : Turn) Sl.nil Sl.nil Sl.nil)) 59) :: (.own Sl.nil 3 1 (encs ([] : List Int))) :: (.own Sl.nil 3 1 (encs ([] : List Int))) :: (.own Sl.nil 36 1 (encs ([] : List (LR Int)))) :: (.blk b3 (enc a1) 61) :: (.blk b1 (enc (TurnR.mk a0 s_a0_2 s_a0_3 s_a0_4)) 59) :: L) rfl ?_
    refine Lst.nil ?_
    refine At.then ?_
    refine Cd.seq ?_
    refine Cd.region ?_
    refine Lst.r (Ev.fieldAddr (off' := 1) rfl Try.runUnderlying59 rfl Try.sizeOf3 rfl rfl) ?_
    refine Lst.r (Ev.load (i := 6) rfl rfl Try.isAgg3 (v := iv p309) ((TurnR.get_Has (Get.here _)).off (by rfl))) ?_
    refine Lst.r (Ev.fieldAddr (off' := 0) rfl Try.runUnderlying59 rfl Try.sizeOf3 rfl rfl) ?_
    refine Lst.r (Ev.load (i := 6) rfl rfl Try.isAgg3 (v := iv y241.N) ((TurnR.get_N (Get.here _)).off (by rfl))) ?_
    refine Lst.r (Ev.eql rfl rfl) ?_
    refine Lst.nil ?_
    refine At.then ?_
    rcases (Bool.eq_false_or_eq_true (p309 == y241.N)).symm with hb311 | hb311
    ·replace H := ite_f hb311 H
     refine Cd.condF rfl hb311 ?_
     refine Cd.skip ?_
     refine At.in_normal ?_
     refine At.freeze (i := 11) rfl (fun F312 hF313 hz314 => ?_)
     have hq315 : Rd w0 F312 [] s238 (l43 ++ m232) := Rd.frozen hz314 rfl rfl
     refine At.its (L' := (.rows (α := Int) 3 rs243) :: (.own s81 36 1 (encs rs243)) :: (.blk b73 (enc (TurnR.mk Turn.zero Sl.nil Sl.nil Sl.nil)) 59) :: (.own Sl.nil 3 1 (encs ([] : List Int))) :: (.own Sl.nil 3 1 (encs ([] : List Int))) :: (.own Sl.nil 36 1 (encs ([] : List (LR Int)))) :: (.blk b30 (enc (TurnR.mk ({ y241 with Has := p309, Want := l242, Log := l43 ++ m232, Told := l41 } : Turn) s81 s238 s40)) 59) :: (.own s31 3 1 (encs l32)) :: (.own s33 3 1 (encs l34)) :: (.own s35 36 1 (encs rs37)) :: (.own s40 3 1 (encs l41)) :: (.blk b9 (enc (TurnR.mk ({ Turn.zero with Want := ([] : List (List Int)), Log := ([] : List Int), Told := ([] : List Int) } : Turn) Sl.nil Sl.nil Sl.nil)) 59) :: (.own Sl.nil 3 1 (encs ([] : List Int))) :: (.own Sl.nil 3 1 (encs ([] : List Int))) :: (.own Sl.nil 36 1 (encs ([] : List (LR Int)))) :: (.blk b3 (enc a1) 61) :: (.blk b1 (enc (TurnR.mk a0 s_a0_2 s_a0_3 s_a0_4)) 59) :: L) rfl ?_
     exact At.meet (({ y241 with Has := p309, Want := l242, Log := l43 ++ m232, Told := l41 } : Turn), s238, l242, rs243) (FLe.trans hF246 hF313) ⟨rfl, rfl, trivial⟩ rfl ⟨some_inj H, (hq315.mono (FLe.refl _) (List.nil_sublist _)), fm244⟩
    replace H := ite_t hb311 H
    refine Cd.condT rfl hb311 ?_
    refine Cd.region ?_
    refine Lst.r (Ev.fieldAddr (off' := 1) rfl Try.runUnderlying59 rfl Try.sizeOf3 rfl rfl) ?_
    refine Lst.store (i := 6) rfl rfl rfl rfl rfl Try.sizeOf3 (vs := [iv (0 : Int)]) rfl rfl rfl (cs' := enc (TurnR.mk ({ y241 with Has := (0 : Int), Want := l242, Log := l43 ++ m232, Told := l41 } : Turn) s81 s238 s40)) ((TurnR.put_Has (Put.here (vs := [iv (0 : Int)]) rfl)).off (by rfl)) (L' := (.rows (α := Int) 3 rs243) :: (.own s81 36 1 (encs rs243)) :: (.blk b73 (enc (TurnR.mk Turn.zero Sl.nil Sl.nil Sl.nil)) 59) :: (.own Sl.nil 3 1 (encs ([] : List Int))) :: (.own Sl.nil 3 1 (encs ([] : List Int))) :: (.own Sl.nil 36 1 (encs ([] : List (LR Int)))) :: (.blk b30 (enc (TurnR.mk ({ y241 with Has := (0 : Int), Want := l242, Log := l43 ++ m232, Told := l41 } : Turn) s81 s238 s40)) 59) :: (.own s31 3 1 (encs l32)) :: (.own s33 3 1 (encs l34)) :: (.own s35 36 1 (encs rs37)) :: (.own s40 3 1 (encs l41)) :: (.own s238 3 1 (encs (l43 ++ m232))) :: (.blk b9 (enc (TurnR.mk ({ Turn.zero with Want := ([] : List (List Int)), Log := ([] : List Int), Told := ([] : List Int) } : Turn) Sl.nil Sl.nil Sl.nil)) 59) :: (.own Sl.nil 3 1 (encs ([] : List Int))) :: (.own Sl.nil 3 1 (encs ([] : List Int))) :: (.own Sl.nil 36 1 (encs ([] : List (LR Int)))) :: (.blk b3 (enc a1) 61) :: (.blk b1 (enc (TurnR.mk a0 s_a0_2 s_a0_3 s_a0_4)) 59) :: L) rfl ?_
    refine Lst.nil ?_
    refine At.in_normal ?_
    refine At.freeze (i := 11) rfl (fun F316 hF317 hz318 => ?_)
    have hq319 : Rd w0 F316 [] s238 (l43 ++ m232) := Rd.frozen hz318 rfl rfl
    refine At.its (L' := (.rows (α := Int) 3 rs243) :: (.own s81 36 1 (encs rs243)) :: (.blk b73 (enc (TurnR.mk Turn.zero Sl.nil Sl.nil Sl.nil)) 59) :: (.own Sl.nil 3 1 (encs ([] : List Int))) :: (.own Sl.nil 3 1 (encs ([] : List Int))) :: (.own Sl.nil 36 1 (encs ([] : List (LR Int)))) :: (.blk b30 (enc (TurnR.mk ({ y241 with Has := (0 : Int), Want := l242, Log := l43 ++ m232, Told := l41 } : Turn) s81 s238 s40)) 59) :: (.own s31 3 1 (encs l32)) :: (.own s33 3 1 (encs l34)) :: (.own s35 36 1 (encs rs37)) :: (.own s40 3 1 (encs l41)) :: (.blk b9 (enc (TurnR.mk ({ Turn.zero with Want := ([] : List (List Int)), Log := ([] : List Int), Told := ([] : List Int) } : Turn) Sl.nil Sl.nil Sl.nil)) 59) :: (.own Sl.nil 3 1 (encs ([] : List Int))) :: (.own Sl.nil 3 1 (encs ([] : List Int))) :: (.own Sl.nil 36 1 (encs ([] : List (LR Int)))) :: (.blk b3 (enc a1) 61) :: (.blk b1 (enc (TurnR.mk a0 s_a0_2 s_a0_3 s_a0_4)) 59) :: L) rfl ?_
    exact At.meet (({ y241 with Has := (0 : Int), Want := l242, Log := l43 ++ m232, Told := l41 } : Turn), s238, l242, rs243) (FLe.trans hF246 hF317) ⟨rfl, rfl, trivial⟩ rfl ⟨some_inj H, (hq319.mono (FLe.refl _) (List.nil_sublist _)), fm244⟩
   have hc240 : decide ((i240 : Int) < (y80.Want.length : Int)) = true := decide_eq_true (by omega)
   obtain ⟨c240, H, hgo240⟩ := rangeF_go H
   unfold partref_TurnStep_B3 at H
   try dsimp only at H
   refine Cd.seq ?_
   refine Cd.region ?_
   refine Lst.r (Ev.lss rfl rfl) ?_
   refine Lst.nil ?_
   refine At.then ?_
   refine Cd.seq ?_
   refine Cd.condT rfl hc240 ?_
   refine Cd.skip ?_
   refine At.then ?_
   refine Cd.seq ?_
   refine Cd.block ?_
   refine Cd.seq ?_
   refine Cd.region ?_
   refine Lst.r (Ev.move rfl) ?_
   obtain ⟨x247, h248, H⟩ := bind_some H
   have g249 := lat_some h248
   obtain ⟨⟨r250v, r250h⟩, r250g, r250e, r250m⟩ := map_get fm244 g249.2.2
   obtain rfl : x247 = r250v := r250e.symm
   have hh251 := row_h r250g
   refine Lst.r (Ev.indexS (α := LR Int) (xs := rs243) rfl rfl Try.runUnderlying57 Try.sizeOf36 rfl (by decide) (Rd.own (i := 1) rfl rfl rfl) g249.1 (by have := map_len fm244; omega)) ?_
   refine Lst.r (Ev.loadS (α := LR Int) rfl (Rd.own (i := 1) rfl rfl rfl) Try.isAgg36 (v := Sl.v r250h) ((Get.elemN (s := 1) rfl r250g (Get.here _)).off (by omega))) ?_
   refine Lst.r (Ev.assign rfl) ?_
   refine Lst.r (Ev.assign rfl) ?_
   refine Lst.nil ?_
   refine At.then ?_
   refine Cd.seq ?_
   refine Cd.region ?_
   refine Lst.r (Ev.fieldAddr (off' := 2) rfl Try.runUnderlying59 rfl Try.sizeOf57 rfl rfl) ?_
   refine Lst.r (Ev.load (i := 6) rfl rfl Try.isAgg57 (v := Sl.v s81) ((TurnR.get_Want (Get.here _)).off (by rfl))) ?_
   refine Lst.r (Ev.move rfl) ?_
   obtain ⟨x252, h253, H⟩ := bind_some H
   have g254 := lat_some h253
   obtain ⟨⟨r255v, r255h⟩, r255g, r255e, r255m⟩ := map_get fm244 g254.2.2
   obtain rfl : x252 = r255v := r255e.symm
   have hh256 := row_h r255g
   refine Lst.r (Ev.indexS (α := LR Int) (xs := rs243) rfl rfl Try.runUnderlying57 Try.sizeOf36 rfl (by decide) (Rd.own (i := 1) rfl rfl rfl) g254.1 (by have := map_len fm244; omega)) ?_
   refine Lst.addNil 3 1 ?_
   obtain ⟨p259, h260, H⟩ := Let_some H
   have hm261 : (rs243.set (i240 : Int).toNat (LR.mk ([] : List Int) Sl.nil)).map LR.v = p259 := (map_set fm244 _ _).trans h260
   refine Lst.front (i := 1) rfl (L' := (.rows (α := Int) 3 rs243) :: (.own Sl.nil 3 1 (encs ([] : List Int))) :: (.own s81 36 1 (encs rs243)) :: (.blk b73 (enc (TurnR.mk Turn.zero Sl.nil Sl.nil Sl.nil)) 59) :: (.own Sl.nil 3 1 (encs ([] : List Int))) :: (.own Sl.nil 3 1 (encs ([] : List Int))) :: (.own Sl.nil 36 1 (encs ([] : List (LR Int)))) :: (.blk b30 (enc (TurnR.mk ({ y241 with Want := l242, Log := l43 ++ m232, Told := l41 } : Turn) s81 s238 s40)) 59) :: (.own s31 3 1 (encs l32)) :: (.own s33 3 1 (encs l34)) :: (.own s35 36 1 (encs rs37)) :: (.own s40 3 1 (encs l41)) :: (.own s238 3 1 (encs (l43 ++ m232))) :: (.blk b9 (enc (TurnR.mk ({ Turn.zero with Want := ([] : List (List Int)), Log := ([] : List Int), Told := ([] : List Int) } : Turn) Sl.nil Sl.nil Sl.nil)) 59) :: (.own Sl.nil 3 1 (encs ([] : List Int))) :: (.own Sl.nil 3 1 (encs ([] : List Int))) :: (.own Sl.nil 36 1 (encs ([] : List (LR Int)))) :: (.blk b3 (enc a1) 61) :: (.blk b1 (enc (TurnR.mk a0 s_a0_2 s_a0_3 s_a0_4)) 59) :: L) rfl ?_
   refine Lst.rowOut (k := (i240 : Int).toNat) r250g rfl ?_
   refine Lst.its (L' := (.own r250h 3 1 (encs x247)) :: (.rows (α := Int) 3 (rs243.set (i240 : Int).toNat ⟨[], Sl.nil⟩)) :: (.own Sl.nil 3 1 (encs ([] : List Int))) :: (.own s81 36 1 (encs rs243)) :: (.blk b73 (enc (TurnR.mk Turn.zero Sl.nil Sl.nil Sl.nil)) 59) :: (.own Sl.nil 3 1 (encs ([] : List Int))) :: (.own Sl.nil 3 1 (encs ([] : List Int))) :: (.own Sl.nil 36 1 (encs ([] : List (LR Int)))) :: (.blk b30 (enc (TurnR.mk ({ y241 with Want := l242, Log := l43 ++ m232, Told := l41 } : Turn) s81 s238 s40)) 59) :: (.own s31 3 1 (encs l32)) :: (.own s33 3 1 (encs l34)) :: (.own s35 36 1 (encs rs37)) :: (.own s40 3 1 (encs l41)) :: (.own s238 3 1 (encs (l43 ++ m232))) :: (.blk b9 (enc (TurnR.mk ({ Turn.zero with Want := ([] : List (List Int)), Log := ([] : List Int), Told := ([] : List Int) } : Turn) Sl.nil Sl.nil Sl.nil)) 59) :: (.own Sl.nil 3 1 (encs ([] : List Int))) :: (.own Sl.nil 3 1 (encs ([] : List Int))) :: (.own Sl.nil 36 1 (encs ([] : List (LR Int)))) :: (.blk b3 (enc a1) 61) :: (.blk b1 (enc (TurnR.mk a0 s_a0_2 s_a0_3 s_a0_4)) 59) :: L) rfl ?_
   refine Lst.storeS (i := 3) rfl rfl rfl rfl rfl Try.sizeOf36 (vs := [Sl.v Sl.nil]) rfl rfl (by decide) rfl (xs' := encs (rs243.set (i240 : Int).toNat (LR.mk ([] : List Int) Sl.nil))) ((Put.elemN (s := 1) (y := (LR.mk ([] : List Int) Sl.nil)) rfl r255g (Put.here (vs := [Sl.v Sl.nil]) rfl)).off (by omega)) (L' := (.own r250h 3 1 (encs x247)) :: (.rows (α := Int) 3 (rs243.set (i240 : Int).toNat ⟨[], Sl.nil⟩)) :: (.own Sl.nil 3 1 (encs ([] : List Int))) :: (.own s81 36 1 (encs (rs243.set (i240 : Int).toNat (LR.mk ([] : List Int) Sl.nil)))) :: (.blk b73 (enc (TurnR.mk Turn.zero Sl.nil Sl.nil Sl.nil)) 59) :: (.own Sl.nil 3 1 (encs ([] : List Int))) :: (.own Sl.nil 3 1 (encs ([] : List Int))) :: (.own Sl.nil 36 1 (encs ([] : List (LR Int)))) :: (.blk b30 (enc (TurnR.mk ({ y241 with Want := p259, Log := l43 ++ m232, Told := l41 } : Turn) s81 s238 s40)) 59) :: (.own s31 3 1 (encs l32)) :: (.own s33 3 1 (encs l34)) :: (.own s35 36 1 (encs rs37)) :: (.own s40 3 1 (encs l41)) :: (.own s238 3 1 (encs (l43 ++ m232))) :: (.blk b9 (enc (TurnR.mk ({ Turn.zero with Want := ([] : List (List Int)), Log := ([] : List Int), Told := ([] : List Int) } : Turn) Sl.nil Sl.nil Sl.nil)) 59) :: (.own Sl.nil 3 1 (encs ([] : List Int))) :: (.own Sl.nil 3 1 (encs ([] : List Int))) :: (.own Sl.nil 36 1 (encs ([] : List (LR Int)))) :: (.blk b3 (enc a1) 61) :: (.blk b1 (enc (TurnR.mk a0 s_a0_2 s_a0_3 s_a0_4)) 59) :: L) rfl ?_
   refine Lst.front (i := 1) rfl rfl ?_
   refine Lst.front (i := 2) rfl (L' := (.own Sl.nil 3 1 (encs ([] : List Int))) :: (.rows (α := Int) 3 (rs243.set (i240 : Int).toNat ⟨[], Sl.nil⟩)) :: (.own r250h 3 1 (encs x247)) :: (.own s81 36 1 (encs (rs243.set (i240 : Int).toNat (LR.mk ([] : List Int) Sl.nil)))) :: (.blk b73 (enc (TurnR.mk Turn.zero Sl.nil Sl.nil Sl.nil)) 59) :: (.own Sl.nil 3 1 (encs ([] : List Int))) :: (.own Sl.nil 3 1 (encs ([] : List Int))) :: (.own Sl.nil 36 1 (encs ([] : List (LR Int)))) :: (.blk b30 (enc (TurnR.mk ({ y241 with Want := p259, Log := l43 ++ m232, Told := l41 } : Turn) s81 s238 s40)) 59) :: (.own s31 3 1 (encs l32)) :: (.own s33 3 1 (encs l34)) :: (.own s35 36 1 (encs rs37)) :: (.own s40 3 1 (encs l41)) :: (.own s238 3 1 (encs (l43 ++ m232))) :: (.blk b9 (enc (TurnR.mk ({ Turn.zero with Want := ([] : List (List Int)), Log := ([] : List Int), Told := ([] : List Int) } : Turn) Sl.nil Sl.nil Sl.nil)) 59) :: (.own Sl.nil 3 1 (encs ([] : List Int))) :: (.own Sl.nil 3 1 (encs ([] : List Int))) :: (.own Sl.nil 36 1 (encs ([] : List (LR Int)))) :: (.blk b3 (enc a1) 61) :: (.blk b1 (enc (TurnR.mk a0 s_a0_2 s_a0_3 s_a0_4)) 59) :: L) rfl ?_
   refine Lst.rowIn (k := (i240 : Int).toNat) (by rw [List.getElem?_set_self (List.getElem?_eq_some_iff.1 r255g).1]) rfl ?_
   refine Lst.its (L' := (.rows (α := Int) 3 (rs243.set (i240 : Int).toNat (LR.mk ([] : List Int) Sl.nil))) :: (.own r250h 3 1 (encs x247)) :: (.own s81 36 1 (encs (rs243.set (i240 : Int).toNat (LR.mk ([] : List Int) Sl.nil)))) :: (.blk b73 (enc (TurnR.mk Turn.zero Sl.nil Sl.nil Sl.nil)) 59) :: (.own Sl.nil 3 1 (encs ([] : List Int))) :: (.own Sl.nil 3 1 (encs ([] : List Int))) :: (.own Sl.nil 36 1 (encs ([] : List (LR Int)))) :: (.blk b30 (enc (TurnR.mk ({ y241 with Want := p259, Log := l43 ++ m232, Told := l41 } : Turn) s81 s238 s40)) 59) :: (.own s31 3 1 (encs l32)) :: (.own s33 3 1 (encs l34)) :: (.own s35 36 1 (encs rs37)) :: (.own s40 3 1 (encs l41)) :: (.own s238 3 1 (encs (l43 ++ m232))) :: (.blk b9 (enc (TurnR.mk ({ Turn.zero with Want := ([] : List (List Int)), Log := ([] : List Int), Told := ([] : List Int) } : Turn) Sl.nil Sl.nil Sl.nil)) 59) :: (.own Sl.nil 3 1 (encs ([] : List Int))) :: (.own Sl.nil 3 1 (encs ([] : List Int))) :: (.own Sl.nil 36 1 (encs ([] : List (LR Int)))) :: (.blk b3 (enc a1) 61) :: (.blk b1 (enc (TurnR.mk a0 s_a0_2 s_a0_3 s_a0_4)) 59) :: L) (by rw [List.set_set]) ?_
   refine Lst.nil ?_
   refine At.then ?_
   refine Cd.seq ?_
   refine Cd.region ?_
   refine Lst.r (Ev.move rfl) ?_
   refine Lst.r (Ev.lenS (α := Int) (xs := x247) (by decide) rfl rfl Try.runUnderlying36 (Rd.own (i := 1) rfl rfl rfl)) ?_
   refine Lst.r (Ev.move rfl) ?_
   refine Lst.nil ?_
   refine At.then ?_
   refine Cd.block ?_
   refine Cd.bound (Rd.le (α := Int) (xs := x247) (by decide) (Rd.own (i := 1) rfl rfl rfl)) (fun hN308 => ?_)
   obtain ⟨ol262, H, HKl262⟩ := bind_some H
   refine Cd.loop (σ := Nat × Nat × Turn × (List (List Int)) × (List (LR Int))) (fun (i262, k262, y263, l264, rs265) => [(4, pv b9 0), (7, pv b30 0), (13, iv (i240 : Int)), (101, Sl.v s81), (102, iv (y80.Want.length : Int)), (103, iv (i240 : Int)), (112, Sl.v r250h), (113, iv (x247.length : Int)), (114, iv (i262 : Int))]) (fun (i262, k262, y263, l264, rs265) => (.rows (α := Int) 3 rs265) :: (.own r250h 3 1 (encs x247)) :: (.own s81 36 1 (encs rs265)) :: (.blk b73 (enc (TurnR.mk Turn.zero Sl.nil Sl.nil Sl.nil)) 59) :: (.own Sl.nil 3 1 (encs ([] : List Int))) :: (.own Sl.nil 3 1 (encs ([] : List Int))) :: (.own Sl.nil 36 1 (encs ([] : List (LR Int)))) :: (.blk b30 (enc (TurnR.mk ({ y263 with Want := l264, Log := l43 ++ m232, Told := l41 } : Turn) s81 s238 s40)) 59) :: (.own s31 3 1 (encs l32)) :: (.own s33 3 1 (encs l34)) :: (.own s35 36 1 (encs rs37)) :: (.own s40 3 1 (encs l41)) :: (.own s238 3 1 (encs (l43 ++ m232))) :: (.blk b9 (enc (TurnR.mk ({ Turn.zero with Want := ([] : List (List Int)), Log := ([] : List Int), Told := ([] : List Int) } : Turn) Sl.nil Sl.nil Sl.nil)) 59) :: (.own Sl.nil 3 1 (encs ([] : List Int))) :: (.own Sl.nil 3 1 (encs ([] : List Int))) :: (.own Sl.nil 36 1 (encs ([] : List (LR Int)))) :: (.blk b3 (enc a1) 61) :: (.blk b1 (enc (TurnR.mk a0 s_a0_2 s_a0_3 s_a0_4)) 59) :: L) (fun Fx => (fun (i262, k262, y263, l264, rs265) => rangeF (partref_TurnStep_B5 l41 l43 m232 i240 x247) k262 i262 (y263, l264) = some ol262 ∧ i262 + k262 = x247.length ∧ rs265.map LR.v = l264)) (fun (i262, k262, y263, l264, rs265) => k262) (0, x247.length, ({ y241 with Want := p259, Log := l43 ++ m232, Told := l41 } : Turn), p259, (rs243.set (i240 : Int).toNat (LR.mk ([] : List Int) Sl.nil))) ⟨rfl, rfl, rfl, rfl, rfl, rfl, rfl, rfl, rfl, trivial⟩ rfl ⟨H, by omega, hm261⟩ ?_
   rintro F267 ⟨i262, k262, y263, l264, rs265⟩ hF268 ⟨H, hik262, fm266⟩
   refine Cd.as (e' := [(4, pv b9 0), (7, pv b30 0), (13, iv (i240 : Int)), (101, Sl.v s81), (102, iv (y80.Want.length : Int)), (103, iv (i240 : Int)), (112, Sl.v r250h), (113, iv (x247.length : Int)), (114, iv (i262 : Int))]) (L' := (.rows (α := Int) 3 rs265) :: (.own r250h 3 1 (encs x247)) :: (.own s81 36 1 (encs rs265)) :: (.blk b73 (enc (TurnR.mk Turn.zero Sl.nil Sl.nil Sl.nil)) 59) :: (.own Sl.nil 3 1 (encs ([] : List Int))) :: (.own Sl.nil 3 1 (encs ([] : List Int))) :: (.own Sl.nil 36 1 (encs ([] : List (LR Int)))) :: (.blk b30 (enc (TurnR.mk ({ y263 with Want := l264, Log := l43 ++ m232, Told := l41 } : Turn) s81 s238 s40)) 59) :: (.own s31 3 1 (encs l32)) :: (.own s33 3 1 (encs l34)) :: (.own s35 36 1 (encs rs37)) :: (.own s40 3 1 (encs l41)) :: (.own s238 3 1 (encs (l43 ++ m232))) :: (.blk b9 (enc (TurnR.mk ({ Turn.zero with Want := ([] : List (List Int)), Log := ([] : List Int), Told := ([] : List Int) } : Turn) Sl.nil Sl.nil Sl.nil)) 59) :: (.own Sl.nil 3 1 (encs ([] : List Int))) :: (.own Sl.nil 3 1 (encs ([] : List Int))) :: (.own Sl.nil 36 1 (encs ([] : List (LR Int)))) :: (.blk b3 (enc a1) 61) :: (.blk b1 (enc (TurnR.mk a0 s_a0_2 s_a0_3 s_a0_4)) 59) :: L) ⟨rfl, rfl, rfl, rfl, rfl, rfl, rfl, rfl, rfl, trivial⟩ rfl ?_
   rcases k262 with _ | k262
   ·have hc262 : decide ((i262 : Int) < (x247.length : Int)) = false := decide_eq_false (by omega)
    replace H := rangeF_end H
    refine Cd.seq ?_
    refine Cd.region ?_
    refine Lst.r (Ev.lss rfl rfl) ?_
    refine Lst.nil ?_
    refine At.then ?_
    refine Cd.seq ?_
    refine Cd.condF rfl hc262 ?_
    refine Cd.exit ?_
    refine At.then_exit ?_
    refine At.then_exit ?_
    refine At.in_exit ?_
    subst H
    replace H := HKl262
    refine At.in_normal ?_
    refine At.then ?_
    refine Cd.region ?_
    refine Lst.r (Ev.incr (by omega) rfl rfl) ?_
    refine Lst.r (Ev.move rfl) ?_
    refine Lst.nil ?_
    refine At.less (L' := (.rows (α := Int) 3 rs265) :: (.own s81 36 1 (encs rs265)) :: (.blk b73 (enc (TurnR.mk Turn.zero Sl.nil Sl.nil Sl.nil)) 59) :: (.own Sl.nil 3 1 (encs ([] : List Int))) :: (.own Sl.nil 3 1 (encs ([] : List Int))) :: (.own Sl.nil 36 1 (encs ([] : List (LR Int)))) :: (.blk b30 (enc (TurnR.mk ({ y263 with Want := l264, Log := l43 ++ m232, Told := l41 } : Turn) s81 s238 s40)) 59) :: (.own s31 3 1 (encs l32)) :: (.own s33 3 1 (encs l34)) :: (.own s35 36 1 (encs rs37)) :: (.own s40 3 1 (encs l41)) :: (.own s238 3 1 (encs (l43 ++ m232))) :: (.blk b9 (enc (TurnR.mk ({ Turn.zero with Want := ([] : List (List Int)), Log := ([] : List Int), Told := ([] : List Int) } : Turn) Sl.nil Sl.nil Sl.nil)) 59) :: (.own Sl.nil 3 1 (encs ([] : List Int))) :: (.own Sl.nil 3 1 (encs ([] : List Int))) :: (.own Sl.nil 36 1 (encs ([] : List (LR Int)))) :: (.blk b3 (enc a1) 61) :: (.blk b1 (enc (TurnR.mk a0 s_a0_2 s_a0_3 s_a0_4)) 59) :: L) (sk1 (sc1 (sk1 (sk1 (sk1 (sk1 (sk1 (sk1 (sk1 (sk1 (sk1 (sk1 (sk1 (sk1 (sk1 (sk1 (sk1 (sk1 (sk1 (.refl _)))))))))))))))))))) ?_
    exact At.meet (i240 + 1, k240, ({ y263 with Want := l264, Log := l43 ++ m232, Told := l41 } : Turn), l264, rs265) (FLe.trans hF246 hF268) ⟨rfl, rfl, rfl, rfl, rfl, trivial⟩ rfl ⟨⟨hgo240 _ (some_inj H).symm, by omega, fm266⟩, Nat.lt_succ_self _⟩
   have hc262 : decide ((i262 : Int) < (x247.length : Int)) = true := decide_eq_true (by omega)
   obtain ⟨c262, H, hgo262⟩ := rangeF_go H
   unfold partref_TurnStep_B5 at H
   try dsimp only at H
   refine Cd.seq ?_
   refine Cd.region ?_
   refine Lst.r (Ev.lss rfl rfl) ?_
   refine Lst.nil ?_
   refine At.then ?_
   refine Cd.seq ?_
   refine Cd.condT rfl hc262 ?_
   refine Cd.skip ?_
   refine At.then ?_
   refine Cd.seq ?_
   refine Cd.block ?_
   refine Cd.seq ?_
   refine Cd.region ?_
   obtain ⟨x269, h270, H⟩ := bind_some H
   have g271 := lat_some h270
   refine Lst.r (Ev.indexS (α := Int) (xs := x247) rfl rfl Try.runUnderlying36 Try.sizeOf3 rfl (by decide) (Rd.own (i := 1) rfl rfl rfl) g271.1 g271.2.1) ?_
   refine Lst.r (Ev.loadS (α := Int) rfl (Rd.own (i := 1) rfl rfl rfl) Try.isAgg3 (v := iv x269) ((Get.elemN (s := 1) (x := x269) rfl g271.2.2 (Get.here _)).off (by omega))) ?_
   refine Lst.r (Ev.assign rfl) ?_
   refine Lst.nil ?_
   refine At.then ?_
   refine Cd.seq ?_
   refine Cd.region ?_
   refine Lst.r (Ev.fieldAddr (off' := 3) rfl Try.runUnderlying59 rfl Try.sizeOf36 rfl rfl) ?_
   refine Lst.r (Ev.load (i := 7) rfl rfl Try.isAgg36 (v := Sl.v s238) ((TurnR.get_Log (Get.here _)).off (by rfl))) ?_
   refine Lst.r (Ev.move rfl) ?_
   obtain ⟨r272, h273, H⟩ := bind_some H
   refine Lst.call1 rfl rfl (by decide) (vs := [Sl.v s238, iv x269]) ⟨rfl, rfl, trivial⟩ Try.call50 (slices_Contains_int_int_sim h273 w0 _ _ _ (.refl _) (Rd.own (i := 12) rfl rfl rfl)) ?_
   refine Lst.r (Ev.not rfl) ?_
   refine Lst.nil ?_
   refine At.then ?_
   rcases (Bool.eq_false_or_eq_true (!r272)).symm with hb276 | hb276
   ·replace H := ite_f hb276 H
    refine Cd.condF rfl hb276 ?_
    refine Cd.skip ?_
    refine At.in_normal ?_
    refine At.then ?_
    refine Cd.region ?_
    refine Lst.r (Ev.incr (by omega) rfl rfl) ?_
    refine Lst.r (Ev.move rfl) ?_
    refine Lst.nil ?_
    exact At.meet (i262 + 1, k262, ({ y263 with Want := l264, Log := l43 ++ m232, Told := l41 } : Turn), l264, rs265) hF268 ⟨rfl, rfl, rfl, rfl, rfl, rfl, rfl, rfl, rfl, trivial⟩ rfl ⟨⟨hgo262 _ (some_inj H).symm, by omega, fm266⟩, Nat.lt_succ_self _⟩
   replace H := ite_t hb276 H
   refine Cd.condT rfl hb276 ?_
   obtain ⟨x277, h278, H⟩ := bind_some H
   obtain ⟨u285, h286, H⟩ := bind_some H
   obtain ⟨o291, h292, H⟩ := Let_some H
   refine Cd.headMeet (σ := Sl × (List Int)) 11 (fun (s289, l290) => [(4, pv b9 0), (7, pv b30 0), (13, iv (i240 : Int)), (101, Sl.v s81), (102, iv (y80.Want.length : Int)), (103, iv (i240 : Int)), (112, Sl.v r250h), (113, iv (x247.length : Int)), (114, iv (i262 : Int)), (124, Sl.v s81), (125, iv (i240 : Int)), (133, Sl.v s289)]) (fun (s289, l290) => (.own s289 3 1 (encs l290)) :: (.rows (α := Int) 3 (rs265.set (i240 : Int).toNat ⟨[], Sl.nil⟩)) :: (.own r250h 3 1 (encs x247)) :: (.own s81 36 1 (encs rs265)) :: (.blk b73 (enc (TurnR.mk Turn.zero Sl.nil Sl.nil Sl.nil)) 59) :: (.own Sl.nil 3 1 (encs ([] : List Int))) :: (.own Sl.nil 3 1 (encs ([] : List Int))) :: (.own Sl.nil 36 1 (encs ([] : List (LR Int)))) :: (.blk b30 (enc (TurnR.mk ({ y263 with Want := l264, Log := l43 ++ m232, Told := l41 } : Turn) s81 s238 s40)) 59) :: (.own s31 3 1 (encs l32)) :: (.own s33 3 1 (encs l34)) :: (.own s35 36 1 (encs rs37)) :: (.own s40 3 1 (encs l41)) :: (.own s238 3 1 (encs (l43 ++ m232))) :: (.blk b9 (enc (TurnR.mk ({ Turn.zero with Want := ([] : List (List Int)), Log := ([] : List Int), Told := ([] : List Int) } : Turn) Sl.nil Sl.nil Sl.nil)) 59) :: (.own Sl.nil 3 1 (encs ([] : List Int))) :: (.own Sl.nil 3 1 (encs ([] : List Int))) :: (.own Sl.nil 36 1 (encs ([] : List (LR Int)))) :: (.blk b3 (enc a1) 61) :: (.blk b1 (enc (TurnR.mk a0 s_a0_2 s_a0_3 s_a0_4)) 59) :: L) (fun _ (s289, l290) => l290 = o291) (by kernel_rfl) (by kernel_rfl) (behind_sink (by kernel_rfl) (by kernel_rfl) (by kernel_rfl)) (by kernel_rfl) (fun hsel hlt => ?_) ?_
   ·refine HdJ.keep (fun w => St w0 F267 ((.own r250h 3 1 (encs x247)) :: (.own s81 36 1 (encs rs265)) :: (.blk b73 (enc (TurnR.mk Turn.zero Sl.nil Sl.nil Sl.nil)) 59) :: (.own Sl.nil 3 1 (encs ([] : List Int))) :: (.own Sl.nil 3 1 (encs ([] : List Int))) :: (.own Sl.nil 36 1 (encs ([] : List (LR Int)))) :: (.blk b30 (enc (TurnR.mk ({ y263 with Want := l264, Log := l43 ++ m232, Told := l41 } : Turn) s81 s238 s40)) 59) :: (.own s31 3 1 (encs l32)) :: (.own s33 3 1 (encs l34)) :: (.own s35 36 1 (encs rs37)) :: (.own s40 3 1 (encs l41)) :: (.own s238 3 1 (encs (l43 ++ m232))) :: (.blk b9 (enc (TurnR.mk ({ Turn.zero with Want := ([] : List (List Int)), Log := ([] : List Int), Told := ([] : List Int) } : Turn) Sl.nil Sl.nil Sl.nil)) 59) :: (.own Sl.nil 3 1 (encs ([] : List Int))) :: (.own Sl.nil 3 1 (encs ([] : List Int))) :: (.own Sl.nil 36 1 (encs ([] : List (LR Int)))) :: (.blk b3 (enc a1) 61) :: (.blk b1 (enc (TurnR.mk a0 s_a0_2 s_a0_3 s_a0_4)) 59) :: L) w) (fun w h => trivial) ?_
    refine HdJ.tk hsel hlt 0 (fun w h => h.sublist (sc1 (sk1 (sk1 (sk1 (sk1 (sk1 (sk1 (sk1 (sk1 (sk1 (sk1 (sk1 (sk1 (sk1 (sk1 (sk1 (sk1 (sk1 (sk1 (.refl _))))))))))))))))))))) rfl (Ev.fieldAddr (off' := 2) rfl Try.runUnderlying59 rfl Try.sizeOf57 rfl rfl) ?_
    refine HdJ.tk hsel hlt 1 (fun w h => h.sublist (sc1 (sk1 (sk1 (sk1 (sk1 (sk1 (sk1 (sk1 (sk1 (sk1 (sk1 (sk1 (sk1 (sk1 (sk1 (sk1 (sk1 (sk1 (sk1 (.refl _))))))))))))))))))))) rfl (Ev.load (i := 6) rfl rfl Try.isAgg57 (v := Sl.v s81) ((TurnR.get_Want (Get.here _)).off (by rfl))) ?_
    refine HdJ.tk hsel hlt 2 (fun w h => h.sublist (sc1 (sk1 (sk1 (sk1 (sk1 (sk1 (sk1 (sk1 (sk1 (sk1 (sk1 (sk1 (sk1 (sk1 (sk1 (sk1 (sk1 (sk1 (sk1 (.refl _))))))))))))))))))))) rfl (Ev.move rfl) ?_
    refine HdJ.tk hsel hlt 3 (fun w h => h.sublist (sc1 (sk1 (sk1 (sk1 (sk1 (sk1 (sk1 (sk1 (sk1 (sk1 (sk1 (sk1 (sk1 (sk1 (sk1 (sk1 (sk1 (sk1 (sk1 (.refl _))))))))))))))))))))) rfl (Ev.fieldAddr (off' := 2) rfl Try.runUnderlying59 rfl Try.sizeOf57 rfl rfl) ?_
    refine HdJ.tk hsel hlt 4 (fun w h => h.sublist (sc1 (sk1 (sk1 (sk1 (sk1 (sk1 (sk1 (sk1 (sk1 (sk1 (sk1 (sk1 (sk1 (sk1 (sk1 (sk1 (sk1 (sk1 (sk1 (.refl _))))))))))))))))))))) rfl (Ev.load (i := 6) rfl rfl Try.isAgg57 (v := Sl.v s81) ((TurnR.get_Want (Get.here _)).off (by rfl))) ?_
    refine HdJ.tk hsel hlt 5 (fun w h => h.sublist (sc1 (sk1 (sk1 (sk1 (sk1 (sk1 (sk1 (sk1 (sk1 (sk1 (sk1 (sk1 (sk1 (sk1 (sk1 (sk1 (sk1 (sk1 (sk1 (.refl _))))))))))))))))))))) rfl (Ev.move rfl) ?_
    have g293 := lat_some h278
    obtain ⟨⟨r294v, r294h⟩, r294g, r294e, r294m⟩ := map_get fm266 g293.2.2
    obtain rfl : x277 = r294v := r294e.symm
    have hh295 := row_h r294g
    refine HdJ.tk hsel hlt 6 (fun w h => h.sublist (sc1 (sk1 (sk1 (sk1 (sk1 (sk1 (sk1 (sk1 (sk1 (sk1 (sk1 (sk1 (sk1 (sk1 (sk1 (sk1 (sk1 (sk1 (sk1 (.refl _))))))))))))))))))))) rfl (Ev.indexS (α := LR Int) (xs := rs265) rfl rfl Try.runUnderlying57 Try.sizeOf36 rfl (by decide) (Rd.own (i := 1) rfl rfl rfl) g293.1 (by have := map_len fm266; omega)) ?_
    refine HdJ.tk hsel hlt 7 (fun w h => h.sublist (sc1 (sk1 (sk1 (sk1 (sk1 (sk1 (sk1 (sk1 (sk1 (sk1 (sk1 (sk1 (sk1 (sk1 (sk1 (sk1 (sk1 (sk1 (sk1 (.refl _))))))))))))))))))))) rfl (Ev.loadS (α := LR Int) rfl (Rd.own (i := 1) rfl rfl rfl) Try.isAgg36 (v := Sl.v r294h) ((Get.elemN (s := 1) rfl r294g (Get.here _)).off (by omega))) ?_
    refine HdJ.tk hsel hlt 8 (fun w h => h.sublist (sc1 (sk1 (sk1 (sk1 (sk1 (sk1 (sk1 (sk1 (sk1 (sk1 (sk1 (sk1 (sk1 (sk1 (sk1 (sk1 (sk1 (sk1 (sk1 (.refl _))))))))))))))))))))) rfl (Ev.move rfl) ?_
    refine HdJ.step [9] (by kernel_rfl) rfl ?_
    refine HdStep.c (fun inv => ?_) ?_
    ·refine Lst.buildSlice (α := Int) (xs := ([x269] : List Int)) (pv := [(0, iv x269)]) rfl rfl (by decide) ⟨rfl, rfl, trivial⟩ (run_buildSlice (α := Int) (z0 := (0 : Int)) (xs := ([x269] : List Int)) Try.runUnderlying36 Try.sizeOf3 Try.zeroValue3 rfl rfl rfl (by decide) rfl (fill_cons (cs := encs (List.replicate 1 (0 : Int))) (cs' := encs ((List.replicate 1 (0 : Int)).set 0 x269)) (vs := [iv x269]) rfl rfl rfl ((Put.elemN (s := 1) (i := 0) (x := (0 : Int)) (y := x269) rfl rfl (Put.here (vs := [iv x269]) rfl)).off rfl) fill_nil)) rfl rfl (by decide) (fun s296 _ => ?_)
     refine Lst.nil ?_
     refine At.hd inv (fun w h => (h.weaken (FLe.refl _)).sublist (sc1 (sc1 (sk1 (sk1 (sk1 (sk1 (sk1 (sk1 (sk1 (sk1 (sk1 (sk1 (sk1 (sk1 (sk1 (sk1 (sk1 (sk1 (sk1 (sk1 (.refl _)))))))))))))))))))))) ?_
     refine HdJ.step [10] (by kernel_rfl) rfl ?_
     refine HdStep.c (fun inv => ?_) ?_
     ·refine Lst.front (i := 1) rfl (L' := (.rows (α := Int) 3 rs265) :: (.own s296 3 1 (encs ([x269] : List Int))) :: (.own r250h 3 1 (encs x247)) :: (.own s81 36 1 (encs rs265)) :: (.blk b73 (enc (TurnR.mk Turn.zero Sl.nil Sl.nil Sl.nil)) 59) :: (.own Sl.nil 3 1 (encs ([] : List Int))) :: (.own Sl.nil 3 1 (encs ([] : List Int))) :: (.own Sl.nil 36 1 (encs ([] : List (LR Int)))) :: (.blk b30 (enc (TurnR.mk ({ y263 with Want := l264, Log := l43 ++ m232, Told := l41 } : Turn) s81 s238 s40)) 59) :: (.own s31 3 1 (encs l32)) :: (.own s33 3 1 (encs l34)) :: (.own s35 36 1 (encs rs37)) :: (.own s40 3 1 (encs l41)) :: (.own s238 3 1 (encs (l43 ++ m232))) :: (.blk b9 (enc (TurnR.mk ({ Turn.zero with Want := ([] : List (List Int)), Log := ([] : List Int), Told := ([] : List Int) } : Turn) Sl.nil Sl.nil Sl.nil)) 59) :: (.own Sl.nil 3 1 (encs ([] : List Int))) :: (.own Sl.nil 3 1 (encs ([] : List Int))) :: (.own Sl.nil 36 1 (encs ([] : List (LR Int)))) :: (.blk b3 (enc a1) 61) :: (.blk b1 (enc (TurnR.mk a0 s_a0_2 s_a0_3 s_a0_4)) 59) :: L) rfl ?_
      refine Lst.rowOut (k := (i240 : Int).toNat) r294g rfl ?_
      refine Lst.its (L' := (.own r294h 3 1 (encs x277)) :: (.rows (α := Int) 3 (rs265.set (i240 : Int).toNat ⟨[], Sl.nil⟩)) :: (.own s296 3 1 (encs ([x269] : List Int))) :: (.own r250h 3 1 (encs x247)) :: (.own s81 36 1 (encs rs265)) :: (.blk b73 (enc (TurnR.mk Turn.zero Sl.nil Sl.nil Sl.nil)) 59) :: (.own Sl.nil 3 1 (encs ([] : List Int))) :: (.own Sl.nil 3 1 (encs ([] : List Int))) :: (.own Sl.nil 36 1 (encs ([] : List (LR Int)))) :: (.blk b30 (enc (TurnR.mk ({ y263 with Want := l264, Log := l43 ++ m232, Told := l41 } : Turn) s81 s238 s40)) 59) :: (.own s31 3 1 (encs l32)) :: (.own s33 3 1 (encs l34)) :: (.own s35 36 1 (encs rs37)) :: (.own s40 3 1 (encs l41)) :: (.own s238 3 1 (encs (l43 ++ m232))) :: (.blk b9 (enc (TurnR.mk ({ Turn.zero with Want := ([] : List (List Int)), Log := ([] : List Int), Told := ([] : List Int) } : Turn) Sl.nil Sl.nil Sl.nil)) 59) :: (.own Sl.nil 3 1 (encs ([] : List Int))) :: (.own Sl.nil 3 1 (encs ([] : List Int))) :: (.own Sl.nil 36 1 (encs ([] : List (LR Int)))) :: (.blk b3 (enc a1) 61) :: (.blk b1 (enc (TurnR.mk a0 s_a0_2 s_a0_3 s_a0_4)) 59) :: L) rfl ?_
      refine Lst.append (i := 0) (α := Int) (xs := x277) (ys := ([x269] : List Int)) rfl rfl (by decide) rfl rfl Try.runUnderlying36 Try.typeInfo3 rfl rfl rfl rfl rfl rfl (Rd.own (i := 2) rfl rfl rfl) rfl (room_some h286) rfl (fun s297 => ?_)
      refine Lst.its (L' := (.own s297 3 1 (encs (x277 ++ ([x269] : List Int)))) :: (.rows (α := Int) 3 (rs265.set (i240 : Int).toNat ⟨[], Sl.nil⟩)) :: (.own s296 3 1 (encs ([x269] : List Int))) :: (.own r250h 3 1 (encs x247)) :: (.own s81 36 1 (encs rs265)) :: (.blk b73 (enc (TurnR.mk Turn.zero Sl.nil Sl.nil Sl.nil)) 59) :: (.own Sl.nil 3 1 (encs ([] : List Int))) :: (.own Sl.nil 3 1 (encs ([] : List Int))) :: (.own Sl.nil 36 1 (encs ([] : List (LR Int)))) :: (.blk b30 (enc (TurnR.mk ({ y263 with Want := l264, Log := l43 ++ m232, Told := l41 } : Turn) s81 s238 s40)) 59) :: (.own s31 3 1 (encs l32)) :: (.own s33 3 1 (encs l34)) :: (.own s35 36 1 (encs rs37)) :: (.own s40 3 1 (encs l41)) :: (.own s238 3 1 (encs (l43 ++ m232))) :: (.blk b9 (enc (TurnR.mk ({ Turn.zero with Want := ([] : List (List Int)), Log := ([] : List Int), Told := ([] : List Int) } : Turn) Sl.nil Sl.nil Sl.nil)) 59) :: (.own Sl.nil 3 1 (encs ([] : List Int))) :: (.own Sl.nil 3 1 (encs ([] : List Int))) :: (.own Sl.nil 36 1 (encs ([] : List (LR Int)))) :: (.blk b3 (enc a1) 61) :: (.blk b1 (enc (TurnR.mk a0 s_a0_2 s_a0_3 s_a0_4)) 59) :: L) rfl ?_
      refine Lst.nil ?_
      refine At.hd inv (fun w h => (h.weaken (FLe.refl _)).sublist (sc1 (sc1 (sc1 (sk1 (sk1 (sk1 (sk1 (sk1 (sk1 (sk1 (sk1 (sk1 (sk1 (sk1 (sk1 (sk1 (sk1 (sk1 (sk1 (sk1 (sk1 (.refl _))))))))))))))))))))))) ?_
      refine HdJ.done (by kernel_rfl) ?_
      refine At.less (L' := (.own s297 3 1 (encs (x277 ++ ([x269] : List Int)))) :: (.rows (α := Int) 3 (rs265.set (i240 : Int).toNat ⟨[], Sl.nil⟩)) :: (.own r250h 3 1 (encs x247)) :: (.own s81 36 1 (encs rs265)) :: (.blk b73 (enc (TurnR.mk Turn.zero Sl.nil Sl.nil Sl.nil)) 59) :: (.own Sl.nil 3 1 (encs ([] : List Int))) :: (.own Sl.nil 3 1 (encs ([] : List Int))) :: (.own Sl.nil 36 1 (encs ([] : List (LR Int)))) :: (.blk b30 (enc (TurnR.mk ({ y263 with Want := l264, Log := l43 ++ m232, Told := l41 } : Turn) s81 s238 s40)) 59) :: (.own s31 3 1 (encs l32)) :: (.own s33 3 1 (encs l34)) :: (.own s35 36 1 (encs rs37)) :: (.own s40 3 1 (encs l41)) :: (.own s238 3 1 (encs (l43 ++ m232))) :: (.blk b9 (enc (TurnR.mk ({ Turn.zero with Want := ([] : List (List Int)), Log := ([] : List Int), Told := ([] : List Int) } : Turn) Sl.nil Sl.nil Sl.nil)) 59) :: (.own Sl.nil 3 1 (encs ([] : List Int))) :: (.own Sl.nil 3 1 (encs ([] : List Int))) :: (.own Sl.nil 36 1 (encs ([] : List (LR Int)))) :: (.blk b3 (enc a1) 61) :: (.blk b1 (enc (TurnR.mk a0 s_a0_2 s_a0_3 s_a0_4)) 59) :: L) (sk1 (sk1 (sc1 (sk1 (sk1 (sk1 (sk1 (sk1 (sk1 (sk1 (sk1 (sk1 (sk1 (sk1 (sk1 (sk1 (sk1 (sk1 (sk1 (sk1 (sk1 (.refl _)))))))))))))))))))))) ?_
      exact At.meetN (s297, x277 ++ ([x269] : List Int)) (FLe.refl _) ⟨rfl, rfl, rfl, rfl, rfl, rfl, rfl, rfl, rfl, rfl, rfl, rfl, trivial⟩ rfl h292
     exact trivial
    exact trivial
   rintro F298 ⟨s289, l290⟩ hF299 hy
   subst hy
   refine Lst.as (e' := [(4, pv b9 0), (7, pv b30 0), (13, iv (i240 : Int)), (101, Sl.v s81), (102, iv (y80.Want.length : Int)), (103, iv (i240 : Int)), (112, Sl.v r250h), (113, iv (x247.length : Int)), (114, iv (i262 : Int)), (124, Sl.v s81), (125, iv (i240 : Int)), (133, Sl.v s289)]) (L' := (.own s289 3 1 (encs l290)) :: (.rows (α := Int) 3 (rs265.set (i240 : Int).toNat ⟨[], Sl.nil⟩)) :: (.own r250h 3 1 (encs x247)) :: (.own s81 36 1 (encs rs265)) :: (.blk b73 (enc (TurnR.mk Turn.zero Sl.nil Sl.nil Sl.nil)) 59) :: (.own Sl.nil 3 1 (encs ([] : List Int))) :: (.own Sl.nil 3 1 (encs ([] : List Int))) :: (.own Sl.nil 36 1 (encs ([] : List (LR Int)))) :: (.blk b30 (enc (TurnR.mk ({ y263 with Want := l264, Log := l43 ++ m232, Told := l41 } : Turn) s81 s238 s40)) 59) :: (.own s31 3 1 (encs l32)) :: (.own s33 3 1 (encs l34)) :: (.own s35 36 1 (encs rs37)) :: (.own s40 3 1 (encs l41)) :: (.own s238 3 1 (encs (l43 ++ m232))) :: (.blk b9 (enc (TurnR.mk ({ Turn.zero with Want := ([] : List (List Int)), Log := ([] : List Int), Told := ([] : List Int) } : Turn) Sl.nil Sl.nil Sl.nil)) 59) :: (.own Sl.nil 3 1 (encs ([] : List Int))) :: (.own Sl.nil 3 1 (encs ([] : List Int))) :: (.own Sl.nil 36 1 (encs ([] : List (LR Int)))) :: (.blk b3 (enc a1) 61) :: (.blk b1 (enc (TurnR.mk a0 s_a0_2 s_a0_3 s_a0_4)) 59) :: L) ⟨rfl, rfl, rfl, rfl, rfl, rfl, rfl, rfl, rfl, rfl, rfl, rfl, trivial⟩ rfl ?_
   obtain ⟨x300, h301, H⟩ := bind_some H
   have g302 := lat_some h301
   obtain ⟨⟨r303v, r303h⟩, r303g, r303e, r303m⟩ := map_get fm266 g302.2.2
   obtain rfl : x300 = r303v := r303e.symm
   have hh304 := row_h r303g
   refine Lst.r (Ev.indexS (α := LR Int) (xs := rs265) rfl rfl Try.runUnderlying57 Try.sizeOf36 rfl (by decide) (Rd.own (i := 3) rfl rfl rfl) g302.1 (by have := map_len fm266; omega)) ?_
   obtain ⟨p305, h306, H⟩ := Let_some H
   have hm307 : (rs265.set (i240 : Int).toNat (LR.mk l290 s289)).map LR.v = p305 := (map_set fm266 _ _).trans h306
   refine Lst.storeS (i := 3) rfl rfl rfl rfl rfl Try.sizeOf36 (vs := [Sl.v s289]) rfl rfl (by decide) rfl (xs' := encs (rs265.set (i240 : Int).toNat (LR.mk l290 s289))) ((Put.elemN (s := 1) (y := (LR.mk l290 s289)) rfl r303g (Put.here (vs := [Sl.v s289]) rfl)).off (by omega)) (L' := (.own s289 3 1 (encs l290)) :: (.rows (α := Int) 3 (rs265.set (i240 : Int).toNat ⟨[], Sl.nil⟩)) :: (.own r250h 3 1 (encs x247)) :: (.own s81 36 1 (encs (rs265.set (i240 : Int).toNat (LR.mk l290 s289)))) :: (.blk b73 (enc (TurnR.mk Turn.zero Sl.nil Sl.nil Sl.nil)) 59) :: (.own Sl.nil 3 1 (encs ([] : List Int))) :: (.own Sl.nil 3 1 (encs ([] : List Int))) :: (.own Sl.nil 36 1 (encs ([] : List (LR Int)))) :: (.blk b30 (enc (TurnR.mk ({ y263 with Want := p305, Log := l43 ++ m232, Told := l41 } : Turn) s81 s238 s40)) 59) :: (.own s31 3 1 (encs l32)) :: (.own s33 3 1 (encs l34)) :: (.own s35 36 1 (encs rs37)) :: (.own s40 3 1 (encs l41)) :: (.own s238 3 1 (encs (l43 ++ m232))) :: (.blk b9 (enc (TurnR.mk ({ Turn.zero with Want := ([] : List (List Int)), Log := ([] : List Int), Told := ([] : List Int) } : Turn) Sl.nil Sl.nil Sl.nil)) 59) :: (.own Sl.nil 3 1 (encs ([] : List Int))) :: (.own Sl.nil 3 1 (encs ([] : List Int))) :: (.own Sl.nil 36 1 (encs ([] : List (LR Int)))) :: (.blk b3 (enc a1) 61) :: (.blk b1 (enc (TurnR.mk a0 s_a0_2 s_a0_3 s_a0_4)) 59) :: L) rfl ?_
   refine Lst.rowIn (k := (i240 : Int).toNat) (by rw [List.getElem?_set_self (List.getElem?_eq_some_iff.1 r303g).1]) rfl ?_
   refine Lst.its (L' := (.rows (α := Int) 3 (rs265.set (i240 : Int).toNat (LR.mk l290 s289))) :: (.own r250h 3 1 (encs x247)) :: (.own s81 36 1 (encs (rs265.set (i240 : Int).toNat (LR.mk l290 s289)))) :: (.blk b73 (enc (TurnR.mk Turn.zero Sl.nil Sl.nil Sl.nil)) 59) :: (.own Sl.nil 3 1 (encs ([] : List Int))) :: (.own Sl.nil 3 1 (encs ([] : List Int))) :: (.own Sl.nil 36 1 (encs ([] : List (LR Int)))) :: (.blk b30 (enc (TurnR.mk ({ y263 with Want := p305, Log := l43 ++ m232, Told := l41 } : Turn) s81 s238 s40)) 59) :: (.own s31 3 1 (encs l32)) :: (.own s33 3 1 (encs l34)) :: (.own s35 36 1 (encs rs37)) :: (.own s40 3 1 (encs l41)) :: (.own s238 3 1 (encs (l43 ++ m232))) :: (.blk b9 (enc (TurnR.mk ({ Turn.zero with Want := ([] : List (List Int)), Log := ([] : List Int), Told := ([] : List Int) } : Turn) Sl.nil Sl.nil Sl.nil)) 59) :: (.own Sl.nil 3 1 (encs ([] : List Int))) :: (.own Sl.nil 3 1 (encs ([] : List Int))) :: (.own Sl.nil 36 1 (encs ([] : List (LR Int)))) :: (.blk b3 (enc a1) 61) :: (.blk b1 (enc (TurnR.mk a0 s_a0_2 s_a0_3 s_a0_4)) 59) :: L) (by rw [List.set_set]) ?_
   refine Lst.nil ?_
   refine At.in_normal ?_
   refine At.then ?_
   refine Cd.region ?_
   refine Lst.r (Ev.incr (by omega) rfl rfl) ?_
   refine Lst.r (Ev.move rfl) ?_
   refine Lst.nil ?_
   exact At.meet (i262 + 1, k262, ({ y263 with Want := p305, Log := l43 ++ m232, Told := l41 } : Turn), p305, (rs265.set (i240 : Int).toNat (LR.mk l290 s289))) (FLe.trans hF268 hF299) ⟨rfl, rfl, rfl, rfl, rfl, rfl, rfl, rfl, rfl, trivial⟩ rfl ⟨⟨hgo262 _ (some_inj H).symm, by omega, hm307⟩, Nat.lt_succ_self _⟩
  rintro F321 ⟨y126, s127, l129, rs130⟩ hF322 ⟨hy, f128, fm131⟩
  subst hy
  refine Cd.as (e' := [(4, pv b9 0), (7, pv b30 0)]) (L' := (.rows (α := Int) 3 rs130) :: (.own s81 36 1 (encs rs130)) :: (.blk b73 (enc (TurnR.mk Turn.zero Sl.nil Sl.nil Sl.nil)) 59) :: (.own Sl.nil 3 1 (encs ([] : List Int))) :: (.own Sl.nil 3 1 (encs ([] : List Int))) :: (.own Sl.nil 36 1 (encs ([] : List (LR Int)))) :: (.blk b30 (enc (TurnR.mk ({ y126 with Want := l129, Told := l41 } : Turn) s81 s127 s40)) 59) :: (.own s31 3 1 (encs l32)) :: (.own s33 3 1 (encs l34)) :: (.own s35 36 1 (encs rs37)) :: (.own s40 3 1 (encs l41)) :: (.blk b9 (enc (TurnR.mk ({ Turn.zero with Want := ([] : List (List Int)), Log := ([] : List Int), Told := ([] : List Int) } : Turn) Sl.nil Sl.nil Sl.nil)) 59) :: (.own Sl.nil 3 1 (encs ([] : List Int))) :: (.own Sl.nil 3 1 (encs ([] : List Int))) :: (.own Sl.nil 36 1 (encs ([] : List (LR Int)))) :: (.blk b3 (enc a1) 61) :: (.blk b1 (enc (TurnR.mk a0 s_a0_2 s_a0_3 s_a0_4)) 59) :: L) ⟨rfl, rfl, trivial⟩ rfl ?_
  replace H := HKo132
  refine Cd.seq ?_
  refine Cd.region ?_
  refine Lst.r (Ev.loadA (i := 6) rfl rfl Try.isAgg59 Try.sizeOf59 (ch := enc (TurnR.mk ({ y126 with Want := l129, Told := l41 } : Turn) s81 s127 s40)) (Enc.len _) (Get.here _)) ?_
  refine Lst.store (i := 11) rfl rfl rfl rfl rfl Try.sizeOf59 (vs := enc (TurnR.mk ({ y126 with Want := l129, Told := l41 } : Turn) s81 s127 s40)) rfl (Enc.len _) (Enc.one _) (cs' := enc (TurnR.mk ({ y126 with Want := l129, Told := l41 } : Turn) s81 s127 s40)) (Put.here ((Enc.len _).trans (Enc.len _).symm)) (L' := (.rows (α := Int) 3 rs130) :: (.own s81 36 1 (encs rs130)) :: (.blk b73 (enc (TurnR.mk Turn.zero Sl.nil Sl.nil Sl.nil)) 59) :: (.own Sl.nil 3 1 (encs ([] : List Int))) :: (.own Sl.nil 3 1 (encs ([] : List Int))) :: (.own Sl.nil 36 1 (encs ([] : List (LR Int)))) :: (.blk b30 (enc (TurnR.mk ({ y126 with Want := l129, Told := l41 } : Turn) s81 s127 s40)) 59) :: (.own s31 3 1 (encs l32)) :: (.own s33 3 1 (encs l34)) :: (.own s35 36 1 (encs rs37)) :: (.own s40 3 1 (encs l41)) :: (.blk b9 (enc (TurnR.mk ({ y126 with Want := l129, Told := l41 } : Turn) s81 s127 s40)) 59) :: (.own Sl.nil 3 1 (encs ([] : List Int))) :: (.own Sl.nil 3 1 (encs ([] : List Int))) :: (.own Sl.nil 36 1 (encs ([] : List (LR Int)))) :: (.blk b3 (enc a1) 61) :: (.blk b1 (enc (TurnR.mk a0 s_a0_2 s_a0_3 s_a0_4)) 59) :: L) rfl ?_
  refine Lst.r (Ev.assign rfl) ?_
  refine Lst.r (Ev.assign rfl) ?_
  refine Lst.nil ?_
  refine At.then ?_
  obtain rfl := some_inj H
  refine Cd.ret ?_
  exact At.ret3 rfl (Res.cellA (i := 11) rfl rfl Try.isAgg59 Try.sizeOf59 (Enc.len _)) (Res.tmp rfl) (Res.tmp rfl) (FLe.trans (FLe.trans hF68 hF87) hF322) (sk1 (sk1 (sc1 (sc1 (sc1 (sc1 (sc1 (sc1 (sc1 (sc1 (sk1 (sc1 (sc1 (sc1 (sc1 (sc1 (sc1 (.refl _)))))))))))))))))) ⟨s81, rs130, s127, s40, rfl, rfl, fm131, (f128.mono (FLe.refl _) (.refl _))⟩
 have hc76 : decide ((i76 : Int) < (a0.Want.length : Int)) = true := decide_eq_true (by omega)
 obtain ⟨c76, H, hgo76⟩ := rangeF_go H
 unfold partref_TurnStep_B0 at H
 try dsimp only at H
 refine Cd.seq ?_
 refine Cd.region ?_
 refine Lst.r (Ev.lss rfl rfl) ?_
 refine Lst.nil ?_
 refine At.then ?_
 refine Cd.seq ?_
 refine Cd.condT rfl hc76 ?_
 refine Cd.skip ?_
 refine At.then ?_
 refine Cd.seq ?_
 refine Cd.block ?_
 refine Cd.seq ?_
 refine Cd.region ?_
 obtain ⟨x88, h89, H⟩ := bind_some H
 have g90 := lat_some h89
 obtain ⟨⟨r91v, r91h⟩, r91g, r91e, r91m⟩ := map_get hm_a0_2 g90.2.2
 obtain rfl : x88 = r91v := r91e.symm
 have r91q : Rd w0 _ _ r91h x88 := ha_a0_2 _ r91m
 refine Lst.r (Ev.indexS (α := LR Int) (xs := rs_a0_2) rfl rfl Try.runUnderlying57 Try.sizeOf36 rfl (by decide) (hs_a0_2.mono (FLe.trans hF68 hF87) (sc8 (sc8 (sc2 hM)))) g90.1 (by have := map_len hm_a0_2; omega)) ?_
 refine Lst.r (Ev.loadS (α := LR Int) rfl (hs_a0_2.mono (FLe.trans hF68 hF87) (sc8 (sc8 (sc2 hM)))) Try.isAgg36 (v := Sl.v r91h) ((Get.elemN (s := 1) rfl r91g (Get.here _)).off (by omega))) ?_
 refine Lst.r (Ev.assign rfl) ?_
 refine Lst.nil ?_
 refine At.then ?_
 obtain ⟨r92, h93, H⟩ := bind_some H
 obtain ⟨o107, h108, H⟩ := Let_some H
 refine Cd.headMeet (σ := Sl × (List (List Int)) × (List (LR Int))) 5 (fun (s103, l104, rs105) => [(2, pv b1 0), (3, pv b3 0), (4, pv b9 0), (7, pv b30 0), (8, pv b73 0), (31, Sl.v s_a0_2), (32, iv (a0.Want.length : Int)), (33, iv (i76 : Int)), (38, Sl.v s81), (41, Sl.v s103)]) (fun (s103, l104, rs105) => (.rows (α := Int) 3 rs105) :: (.own s103 36 1 (encs rs105)) :: (.rows (α := Int) 3 rs82) :: (.own s81 36 1 (encs rs82)) :: (.blk b73 (enc (TurnR.mk Turn.zero Sl.nil Sl.nil Sl.nil)) 59) :: (.own Sl.nil 3 1 (encs ([] : List Int))) :: (.own Sl.nil 3 1 (encs ([] : List Int))) :: (.own Sl.nil 36 1 (encs ([] : List (LR Int)))) :: (.blk b30 (enc (TurnR.mk ({ y80 with Log := l43, Told := l41 } : Turn) s81 s42 s40)) 59) :: (.own s31 3 1 (encs l32)) :: (.own s33 3 1 (encs l34)) :: (.own s35 36 1 (encs rs37)) :: (.own s40 3 1 (encs l41)) :: (.own s42 3 1 (encs l43)) :: (.blk b9 (enc (TurnR.mk ({ Turn.zero with Want := ([] : List (List Int)), Log := ([] : List Int), Told := ([] : List Int) } : Turn) Sl.nil Sl.nil Sl.nil)) 59) :: (.own Sl.nil 3 1 (encs ([] : List Int))) :: (.own Sl.nil 3 1 (encs ([] : List Int))) :: (.own Sl.nil 36 1 (encs ([] : List (LR Int)))) :: (.blk b3 (enc a1) 61) :: (.blk b1 (enc (TurnR.mk a0 s_a0_2 s_a0_3 s_a0_4)) 59) :: L) (fun Fx (s103, l104, rs105) => l104 = o107 ∧ rs105.map LR.v = l104) (by kernel_rfl) (by kernel_rfl) (behind_sink (by kernel_rfl) (by kernel_rfl) (by kernel_rfl)) (by kernel_rfl) (fun hsel hlt => ?_) ?_
 ·refine HdJ.keep (fun w => St w0 F86 ((.rows (α := Int) 3 rs82) :: (.own s81 36 1 (encs rs82)) :: (.blk b73 (enc (TurnR.mk Turn.zero Sl.nil Sl.nil Sl.nil)) 59) :: (.own Sl.nil 3 1 (encs ([] : List Int))) :: (.own Sl.nil 3 1 (encs ([] : List Int))) :: (.own Sl.nil 36 1 (encs ([] : List (LR Int)))) :: (.blk b30 (enc (TurnR.mk ({ y80 with Log := l43, Told := l41 } : Turn) s81 s42 s40)) 59) :: (.own s31 3 1 (encs l32)) :: (.own s33 3 1 (encs l34)) :: (.own s35 36 1 (encs rs37)) :: (.own s40 3 1 (encs l41)) :: (.own s42 3 1 (encs l43)) :: (.blk b9 (enc (TurnR.mk ({ Turn.zero with Want := ([] : List (List Int)), Log := ([] : List Int), Told := ([] : List Int) } : Turn) Sl.nil Sl.nil Sl.nil)) 59) :: (.own Sl.nil 3 1 (encs ([] : List Int))) :: (.own Sl.nil 3 1 (encs ([] : List Int))) :: (.own Sl.nil 36 1 (encs ([] : List (LR Int)))) :: (.blk b3 (enc a1) 61) :: (.blk b1 (enc (TurnR.mk a0 s_a0_2 s_a0_3 s_a0_4)) 59) :: L) w) (fun w h => trivial) ?_
  refine HdJ.tk hsel hlt 0 (fun w h => h.sublist (sk1 (sk1 (sk1 (sk1 (sk1 (sk1 (sk1 (sk1 (sk1 (sk1 (sk1 (sk1 (sk1 (sk1 (sk1 (sk1 (sk1 (sk1 (.refl _)))))))))))))))))))) rfl (Ev.fieldAddr (off' := 2) rfl Try.runUnderlying59 rfl Try.sizeOf57 rfl rfl) ?_
  refine HdJ.tk hsel hlt 1 (fun w h => h.sublist (sk1 (sk1 (sk1 (sk1 (sk1 (sk1 (sk1 (sk1 (sk1 (sk1 (sk1 (sk1 (sk1 (sk1 (sk1 (sk1 (sk1 (sk1 (.refl _)))))))))))))))))))) rfl (Ev.load (i := 6) rfl rfl Try.isAgg57 (v := Sl.v s81) ((TurnR.get_Want (Get.here _)).off (by rfl))) ?_
  refine HdJ.tk hsel hlt 2 (fun w h => h.sublist (sk1 (sk1 (sk1 (sk1 (sk1 (sk1 (sk1 (sk1 (sk1 (sk1 (sk1 (sk1 (sk1 (sk1 (sk1 (sk1 (sk1 (sk1 (.refl _)))))))))))))))))))) rfl (Ev.move rfl) ?_
  refine HdJ.step [3] (by kernel_rfl) rfl ?_
  refine HdStep.c (fun inv => ?_) ?_
  ·refine Lst.call rfl rfl (by decide) (vs := [Sl.v r91h]) ⟨rfl, trivial⟩ Try.call129 (slices_Clone_int_int_sim h93 w0 _ M _ (sc8 (sc8 (sc2 hM))) (r91q.mono (FLe.trans hF68 hF87) (.refl _))) (fun F110 L' v hF111 hv => ?_)
   obtain ⟨s109, rfl, rfl⟩ := hv
   refine Lst.nil ?_
   refine At.hd inv (fun w h => (h.weaken hF111).sublist (sc1 (sk1 (sk1 (sk1 (sk1 (sk1 (sk1 (sk1 (sk1 (sk1 (sk1 (sk1 (sk1 (sk1 (sk1 (sk1 (sk1 (sk1 (sk1 (.refl _))))))))))))))))))))) ?_
   refine HdJ.step [4] (by kernel_rfl) rfl ?_
   refine HdStep.c (fun inv => ?_) ?_
   ·have hm113 : ([(LR.mk r92 s109)] : List (LR Int)).map LR.v = ([r92] : List (List Int)) := rfl
    refine Lst.buildSlice (α := LR Int) (xs := ([(LR.mk r92 s109)] : List (LR Int))) (pv := [(0, Sl.v s109)]) rfl rfl (by decide) ⟨rfl, rfl, trivial⟩ (run_buildSlice (α := LR Int) (z0 := ((LR.mk [] Sl.nil) : LR Int)) (xs := ([(LR.mk r92 s109)] : List (LR Int))) Try.runUnderlying57 Try.sizeOf36 Try.zeroValue36 rfl rfl rfl (by decide) rfl (fill_cons (cs := encs (List.replicate 1 ((LR.mk [] Sl.nil) : LR Int))) (cs' := encs ((List.replicate 1 ((LR.mk [] Sl.nil) : LR Int)).set 0 (LR.mk r92 s109))) (vs := [Sl.v s109]) rfl rfl rfl ((Put.elemN (s := 1) (i := 0) (x := ((LR.mk [] Sl.nil) : LR Int)) (y := (LR.mk r92 s109)) rfl rfl (Put.here (vs := [Sl.v s109]) rfl)).off rfl) fill_nil)) rfl rfl (by decide) (fun s112 _ => ?_)
    refine Lst.rowsNil Int 3 0 ?_
    refine Lst.front (i := 2) rfl (L' := (.own s109 3 1 (encs r92)) :: (.rows (α := Int) 3 (List.replicate 0 (⟨[], Sl.nil⟩ : LR Int))) :: (.own s112 36 1 (encs ([(LR.mk r92 s109)] : List (LR Int)))) :: (.rows (α := Int) 3 rs82) :: (.own s81 36 1 (encs rs82)) :: (.blk b73 (enc (TurnR.mk Turn.zero Sl.nil Sl.nil Sl.nil)) 59) :: (.own Sl.nil 3 1 (encs ([] : List Int))) :: (.own Sl.nil 3 1 (encs ([] : List Int))) :: (.own Sl.nil 36 1 (encs ([] : List (LR Int)))) :: (.blk b30 (enc (TurnR.mk ({ y80 with Log := l43, Told := l41 } : Turn) s81 s42 s40)) 59) :: (.own s31 3 1 (encs l32)) :: (.own s33 3 1 (encs l34)) :: (.own s35 36 1 (encs rs37)) :: (.own s40 3 1 (encs l41)) :: (.own s42 3 1 (encs l43)) :: (.blk b9 (enc (TurnR.mk ({ Turn.zero with Want := ([] : List (List Int)), Log := ([] : List Int), Told := ([] : List Int) } : Turn) Sl.nil Sl.nil Sl.nil)) 59) :: (.own Sl.nil 3 1 (encs ([] : List Int))) :: (.own Sl.nil 3 1 (encs ([] : List Int))) :: (.own Sl.nil 36 1 (encs ([] : List (LR Int)))) :: (.blk b3 (enc a1) 61) :: (.blk b1 (enc (TurnR.mk a0 s_a0_2 s_a0_3 s_a0_4)) 59) :: L) rfl ?_
    refine Lst.rowEnd (α := Int) (xs := r92) (s := s109) rfl ?_
    refine Lst.its (L' := (.rows (α := Int) 3 ([(LR.mk r92 s109)] : List (LR Int))) :: (.own s112 36 1 (encs ([(LR.mk r92 s109)] : List (LR Int)))) :: (.rows (α := Int) 3 rs82) :: (.own s81 36 1 (encs rs82)) :: (.blk b73 (enc (TurnR.mk Turn.zero Sl.nil Sl.nil Sl.nil)) 59) :: (.own Sl.nil 3 1 (encs ([] : List Int))) :: (.own Sl.nil 3 1 (encs ([] : List Int))) :: (.own Sl.nil 36 1 (encs ([] : List (LR Int)))) :: (.blk b30 (enc (TurnR.mk ({ y80 with Log := l43, Told := l41 } : Turn) s81 s42 s40)) 59) :: (.own s31 3 1 (encs l32)) :: (.own s33 3 1 (encs l34)) :: (.own s35 36 1 (encs rs37)) :: (.own s40 3 1 (encs l41)) :: (.own s42 3 1 (encs l43)) :: (.blk b9 (enc (TurnR.mk ({ Turn.zero with Want := ([] : List (List Int)), Log := ([] : List Int), Told := ([] : List Int) } : Turn) Sl.nil Sl.nil Sl.nil)) 59) :: (.own Sl.nil 3 1 (encs ([] : List Int))) :: (.own Sl.nil 3 1 (encs ([] : List Int))) :: (.own Sl.nil 36 1 (encs ([] : List (LR Int)))) :: (.blk b3 (enc a1) 61) :: (.blk b1 (enc (TurnR.mk a0 s_a0_2 s_a0_3 s_a0_4)) 59) :: L) rfl ?_
    refine Lst.nil ?_
    refine At.hd inv (fun w h => (h.weaken hF111).sublist (sc1 (sc1 (sk1 (sk1 (sk1 (sk1 (sk1 (sk1 (sk1 (sk1 (sk1 (sk1 (sk1 (sk1 (sk1 (sk1 (sk1 (sk1 (sk1 (sk1 (.refl _)))))))))))))))))))))) ?_
    refine HdJ.done (by kernel_rfl) ?_
    exact At.meetN (s112, ([r92] : List (List Int)), ([(LR.mk r92 s109)] : List (LR Int))) hF111 ⟨rfl, rfl, rfl, rfl, rfl, rfl, rfl, rfl, rfl, rfl, trivial⟩ rfl ⟨h108, hm113⟩
   exact trivial
  exact trivial
 rintro F114 ⟨s103, l104, rs105⟩ hF115 ⟨hy, fm106⟩
 subst hy
 refine Lst.as (e' := [(2, pv b1 0), (3, pv b3 0), (4, pv b9 0), (7, pv b30 0), (8, pv b73 0), (31, Sl.v s_a0_2), (32, iv (a0.Want.length : Int)), (33, iv (i76 : Int)), (38, Sl.v s81), (41, Sl.v s103)]) (L' := (.rows (α := Int) 3 rs105) :: (.own s103 36 1 (encs rs105)) :: (.rows (α := Int) 3 rs82) :: (.own s81 36 1 (encs rs82)) :: (.blk b73 (enc (TurnR.mk Turn.zero Sl.nil Sl.nil Sl.nil)) 59) :: (.own Sl.nil 3 1 (encs ([] : List Int))) :: (.own Sl.nil 3 1 (encs ([] : List Int))) :: (.own Sl.nil 36 1 (encs ([] : List (LR Int)))) :: (.blk b30 (enc (TurnR.mk ({ y80 with Log := l43, Told := l41 } : Turn) s81 s42 s40)) 59) :: (.own s31 3 1 (encs l32)) :: (.own s33 3 1 (encs l34)) :: (.own s35 36 1 (encs rs37)) :: (.own s40 3 1 (encs l41)) :: (.own s42 3 1 (encs l43)) :: (.blk b9 (enc (TurnR.mk ({ Turn.zero with Want := ([] : List (List Int)), Log := ([] : List Int), Told := ([] : List Int) } : Turn) Sl.nil Sl.nil Sl.nil)) 59) :: (.own Sl.nil 3 1 (encs ([] : List Int))) :: (.own Sl.nil 3 1 (encs ([] : List Int))) :: (.own Sl.nil 36 1 (encs ([] : List (LR Int)))) :: (.blk b3 (enc a1) 61) :: (.blk b1 (enc (TurnR.mk a0 s_a0_2 s_a0_3 s_a0_4)) 59) :: L) ⟨rfl, rfl, rfl, rfl, rfl, rfl, rfl, rfl, rfl, rfl, trivial⟩ rfl ?_
 obtain ⟨u116, h117, H⟩ := bind_some H
 have hm119 : (rs82 ++ rs105).map LR.v = y80.Want ++ l104 := map_app fm83 fm106
 refine Lst.append (i := 3) (α := LR Int) (xs := rs82) (ys := rs105) rfl rfl (by decide) rfl rfl Try.runUnderlying57 Try.typeInfo36 rfl rfl rfl rfl rfl rfl (Rd.own (i := 1) rfl rfl rfl) rfl (by have := room_some h117; have := map_len fm83; have := map_len fm106; omega) rfl (fun s118 => ?_)
 refine Lst.its (L' := (.rows (α := Int) 3 rs105) :: (.own s103 36 1 (encs rs105)) :: (.rows (α := Int) 3 rs82) :: (.own s118 36 1 (encs (rs82 ++ rs105))) :: (.blk b73 (enc (TurnR.mk Turn.zero Sl.nil Sl.nil Sl.nil)) 59) :: (.own Sl.nil 3 1 (encs ([] : List Int))) :: (.own Sl.nil 3 1 (encs ([] : List Int))) :: (.own Sl.nil 36 1 (encs ([] : List (LR Int)))) :: (.blk b30 (enc (TurnR.mk ({ y80 with Log := l43, Told := l41 } : Turn) s81 s42 s40)) 59) :: (.own s31 3 1 (encs l32)) :: (.own s33 3 1 (encs l34)) :: (.own s35 36 1 (encs rs37)) :: (.own s40 3 1 (encs l41)) :: (.own s42 3 1 (encs l43)) :: (.blk b9 (enc (TurnR.mk ({ Turn.zero with Want := ([] : List (List Int)), Log := ([] : List Int), Told := ([] : List Int) } : Turn) Sl.nil Sl.nil Sl.nil)) 59) :: (.own Sl.nil 3 1 (encs ([] : List Int))) :: (.own Sl.nil 3 1 (encs ([] : List Int))) :: (.own Sl.nil 36 1 (encs ([] : List (LR Int)))) :: (.blk b3 (enc a1) 61) :: (.blk b1 (enc (TurnR.mk a0 s_a0_2 s_a0_3 s_a0_4)) 59) :: L) rfl ?_
 refine Lst.front (i := 2) rfl (L' := (.rows (α := Int) 3 rs82) :: (.rows (α := Int) 3 rs105) :: (.own s103 36 1 (encs rs105)) :: (.own s118 36 1 (encs (rs82 ++ rs105))) :: (.blk b73 (enc (TurnR.mk Turn.zero Sl.nil Sl.nil Sl.nil)) 59) :: (.own Sl.nil 3 1 (encs ([] : List Int))) :: (.own Sl.nil 3 1 (encs ([] : List Int))) :: (.own Sl.nil 36 1 (encs ([] : List (LR Int)))) :: (.blk b30 (enc (TurnR.mk ({ y80 with Log := l43, Told := l41 } : Turn) s81 s42 s40)) 59) :: (.own s31 3 1 (encs l32)) :: (.own s33 3 1 (encs l34)) :: (.own s35 36 1 (encs rs37)) :: (.own s40 3 1 (encs l41)) :: (.own s42 3 1 (encs l43)) :: (.blk b9 (enc (TurnR.mk ({ Turn.zero with Want := ([] : List (List Int)), Log := ([] : List Int), Told := ([] : List Int) } : Turn) Sl.nil Sl.nil Sl.nil)) 59) :: (.own Sl.nil 3 1 (encs ([] : List Int))) :: (.own Sl.nil 3 1 (encs ([] : List Int))) :: (.own Sl.nil 36 1 (encs ([] : List (LR Int)))) :: (.blk b3 (enc a1) 61) :: (.blk b1 (enc (TurnR.mk a0 s_a0_2 s_a0_3 s_a0_4)) 59) :: L) rfl ?_
 refine Lst.rowsApp ?_
 refine Lst.less (L' := (.rows (α := Int) 3 (rs82 ++ rs105)) :: (.own s118 36 1 (encs (rs82 ++ rs105))) :: (.blk b73 (enc (TurnR.mk Turn.zero Sl.nil Sl.nil Sl.nil)) 59) :: (.own Sl.nil 3 1 (encs ([] : List Int))) :: (.own Sl.nil 3 1 (encs ([] : List Int))) :: (.own Sl.nil 36 1 (encs ([] : List (LR Int)))) :: (.blk b30 (enc (TurnR.mk ({ y80 with Log := l43, Told := l41 } : Turn) s81 s42 s40)) 59) :: (.own s31 3 1 (encs l32)) :: (.own s33 3 1 (encs l34)) :: (.own s35 36 1 (encs rs37)) :: (.own s40 3 1 (encs l41)) :: (.own s42 3 1 (encs l43)) :: (.blk b9 (enc (TurnR.mk ({ Turn.zero with Want := ([] : List (List Int)), Log := ([] : List Int), Told := ([] : List Int) } : Turn) Sl.nil Sl.nil Sl.nil)) 59) :: (.own Sl.nil 3 1 (encs ([] : List Int))) :: (.own Sl.nil 3 1 (encs ([] : List Int))) :: (.own Sl.nil 36 1 (encs ([] : List (LR Int)))) :: (.blk b3 (enc a1) 61) :: (.blk b1 (enc (TurnR.mk a0 s_a0_2 s_a0_3 s_a0_4)) 59) :: L) (List.Sublist.cons_cons _ (List.Sublist.cons _ (List.Sublist.cons_cons _ (List.Sublist.cons_cons _ (List.Sublist.cons_cons _ (List.Sublist.cons_cons _ (List.Sublist.cons_cons _ (List.Sublist.cons_cons _ (List.Sublist.cons_cons _ (List.Sublist.cons_cons _ (List.Sublist.cons_cons _ (List.Sublist.cons_cons _ (List.Sublist.cons_cons _ (List.Sublist.cons_cons _ (List.Sublist.cons_cons _ (List.Sublist.cons_cons _ (List.Sublist.cons_cons _ (List.Sublist.cons_cons _ (List.Sublist.cons_cons _ (.refl _)))))))))))))))))))) ?_
 refine Lst.its (L' := (.rows (α := Int) 3 (rs82 ++ rs105)) :: (.own s118 36 1 (encs (rs82 ++ rs105))) :: (.blk b73 (enc (TurnR.mk Turn.zero Sl.nil Sl.nil Sl.nil)) 59) :: (.own Sl.nil 3 1 (encs ([] : List Int))) :: (.own Sl.nil 3 1 (encs ([] : List Int))) :: (.own Sl.nil 36 1 (encs ([] : List (LR Int)))) :: (.blk b30 (enc (TurnR.mk ({ y80 with Log := l43, Told := l41 } : Turn) s81 s42 s40)) 59) :: (.own s31 3 1 (encs l32)) :: (.own s33 3 1 (encs l34)) :: (.own s35 36 1 (encs rs37)) :: (.own s40 3 1 (encs l41)) :: (.own s42 3 1 (encs l43)) :: (.blk b9 (enc (TurnR.mk ({ Turn.zero with Want := ([] : List (List Int)), Log := ([] : List Int), Told := ([] : List Int) } : Turn) Sl.nil Sl.nil Sl.nil)) 59) :: (.own Sl.nil 3 1 (encs ([] : List Int))) :: (.own Sl.nil 3 1 (encs ([] : List Int))) :: (.own Sl.nil 36 1 (encs ([] : List (LR Int)))) :: (.blk b3 (enc a1) 61) :: (.blk b1 (enc (TurnR.mk a0 s_a0_2 s_a0_3 s_a0_4)) 59) :: L) rfl ?_
 refine Lst.r (Ev.fieldAddr (off' := 2) rfl Try.runUnderlying59 rfl Try.sizeOf57 rfl rfl) ?_
 refine Lst.store (i := 6) rfl rfl rfl rfl rfl Try.sizeOf57 (vs := [Sl.v s118]) rfl rfl rfl (cs' := enc (TurnR.mk ({ y80 with Want := y80.Want ++ l104, Log := l43, Told := l41 } : Turn) s118 s42 s40)) ((TurnR.put_Want (Put.here (vs := [Sl.v s118]) rfl)).off (by rfl)) (L' := (.rows (α := Int) 3 (rs82 ++ rs105)) :: (.own s118 36 1 (encs (rs82 ++ rs105))) :: (.blk b73 (enc (TurnR.mk Turn.zero Sl.nil Sl.nil Sl.nil)) 59) :: (.own Sl.nil 3 1 (encs ([] : List Int))) :: (.own Sl.nil 3 1 (encs ([] : List Int))) :: (.own Sl.nil 36 1 (encs ([] : List (LR Int)))) :: (.blk b30 (enc (TurnR.mk ({ y80 with Want := y80.Want ++ l104, Log := l43, Told := l41 } : Turn) s118 s42 s40)) 59) :: (.own s31 3 1 (encs l32)) :: (.own s33 3 1 (encs l34)) :: (.own s35 36 1 (encs rs37)) :: (.own s40 3 1 (encs l41)) :: (.own s42 3 1 (encs l43)) :: (.blk b9 (enc (TurnR.mk ({ Turn.zero with Want := ([] : List (List Int)), Log := ([] : List Int), Told := ([] : List Int) } : Turn) Sl.nil Sl.nil Sl.nil)) 59) :: (.own Sl.nil 3 1 (encs ([] : List Int))) :: (.own Sl.nil 3 1 (encs ([] : List Int))) :: (.own Sl.nil 36 1 (encs ([] : List (LR Int)))) :: (.blk b3 (enc a1) 61) :: (.blk b1 (enc (TurnR.mk a0 s_a0_2 s_a0_3 s_a0_4)) 59) :: L) rfl ?_
 refine Lst.nil ?_
 refine At.in_normal ?_
 refine At.then ?_
 refine Cd.region ?_
 refine Lst.r (Ev.incr (by omega) rfl rfl) ?_
 refine Lst.r (Ev.move rfl) ?_
 refine Lst.nil ?_
 exact At.meet (i76 + 1, k76, ({ y80 with Want := y80.Want ++ l104, Log := l43, Told := l41 } : Turn), s118, (rs82 ++ rs105)) (FLe.trans hF87 hF115) ⟨rfl, rfl, rfl, rfl, rfl, rfl, rfl, rfl, trivial⟩ rfl ⟨⟨hgo76 _ (some_inj H).symm, by omega, hm119⟩, Nat.lt_succ_self _⟩
end Go.Proofs.Ytobikknjaomalaa
