/-
  The functions compute their specs; printed by a program.
-/
import Derived.Test.YtobikknjaomalaaTuP2
namespace Go.Proofs.Ytobikknjaomalaa
open Go.RowKit Enc
set_option linter.unusedVariables false
set_option linter.unusedSimpArgs false
set_option maxRecDepth 20000 in
theorem partlaw_TurnSays_sim {fu : Nat} {a0 : Turn} {a1 : Beat} {s_a0_2 : Sl} {rs_a0_2 : List (LR Int)} {s_a0_3 : Sl} {s_a0_4 : Sl} {r : Bool} (H : partlaw_TurnSays fu a0 a1 = some r) (w0 : World) (F : Frz) (M L : List Item) (hM : M.Sublist L) (hm_a0_2 : rs_a0_2.map LR.v = a0.Want) (hs_a0_2 : Rd w0 F M s_a0_2 rs_a0_2) (ha_a0_2 : All LR.rel w0 F M rs_a0_2) (hs_a0_3 : Rd w0 F M s_a0_3 a0.Log) (hs_a0_4 : Rd w0 F M s_a0_4 a0.Told) : Ok Try.prog w0 6 [.agg (enc (TurnR.mk a0 s_a0_2 s_a0_3 s_a0_4)).toArray, .agg (enc a1).toArray] F (L) (Is (.bool r) (L)) := by
 unfold partlaw_TurnSays at H
 refine Ok.enter (m := 2) (n := 93) Try.func6 rfl rfl rfl (by decide) ?_
 refine Cd.env (e' := [(0, .agg (enc (TurnR.mk a0 s_a0_2 s_a0_3 s_a0_4)).toArray), (1, .agg (enc a1).toArray)]) rfl ?_
 refine Cd.seq ?_
 refine Cd.region ?_
 refine Lst.box rfl rfl (by decide) rfl (cs := enc (TurnR.mk a0 s_a0_2 s_a0_3 s_a0_4)) rfl (fun b1 => ?_)
 refine Lst.box rfl rfl (by decide) rfl (cs := enc a1) rfl (fun b3 => ?_)
 refine Lst.r (Ev.assign rfl) ?_
 refine Lst.nil ?_
 refine At.then ?_
 refine Cd.seq ?_
 refine Cd.region ?_
 refine Lst.r (Ev.loadA (i := 1) rfl rfl Try.isAgg59 Try.sizeOf59 (ch := enc (TurnR.mk a0 s_a0_2 s_a0_3 s_a0_4)) (Enc.len _) (Get.here _)) ?_
 obtain ⟨r5, h6, H⟩ := bind_some H
 refine Lst.call1 rfl rfl (by decide) (vs := [.agg (enc (TurnR.mk a0 s_a0_2 s_a0_3 s_a0_4)).toArray]) ⟨rfl, trivial⟩ Try.call34 (partref_TurnErr_sim h6 w0 _ M _ (sc2 hM) hm_a0_2 (hs_a0_2.mono (FLe.refl _) (.refl _)) (All.monoLR ha_a0_2 (FLe.refl _) (.refl _)) (hs_a0_3.mono (FLe.refl _) (.refl _)) (hs_a0_4.mono (FLe.refl _) (.refl _))) ?_
 refine Lst.r (Ev.assign rfl) ?_
 refine Lst.nil ?_
 refine At.then ?_
 refine Cd.seq ?_
 refine Cd.region ?_
 refine Lst.r (Ev.loadA (i := 1) rfl rfl Try.isAgg59 Try.sizeOf59 (ch := enc (TurnR.mk a0 s_a0_2 s_a0_3 s_a0_4)) (Enc.len _) (Get.here _)) ?_
 refine Lst.r (Ev.loadA (i := 0) rfl rfl Try.isAgg61 Try.sizeOf61 (ch := enc a1) (Enc.len _) (Get.here _)) ?_
 obtain ⟨r9, h10, H⟩ := bind_some H
 refine Lst.call rfl rfl (by decide) (vs := [.agg (enc (TurnR.mk a0 s_a0_2 s_a0_3 s_a0_4)).toArray, .agg (enc a1).toArray]) ⟨rfl, rfl, trivial⟩ Try.call35 (turn_Step_sim h10 w0 _ M _ (sc2 hM) hm_a0_2 (hs_a0_2.mono (FLe.refl _) (.refl _)) (All.monoLR ha_a0_2 (FLe.refl _) (.refl _)) (hs_a0_3.mono (FLe.refl _) (.refl _)) (hs_a0_4.mono (FLe.refl _) (.refl _))) (fun F20 L' v hF21 hv => ?_)
 obtain ⟨s11, rs12, s16, s18, rfl, rfl, fm13⟩ := hv
 refine Lst.r (Ev.move rfl) ?_
 refine Lst.r (Ev.extract rfl rfl) ?_
 refine Lst.r (Ev.extract rfl rfl) ?_
 refine Lst.r (Ev.extract rfl rfl) ?_
 have ha23 : All LR.rel w0 F20 [] ([] : List (LR Int)) := All.nil
 have ha23m : List.map LR.v ([] : List (LR Int)) = ([] : List (List Int)) := rfl
 refine Lst.addNil 36 1 ?_
 refine Lst.addNil 3 1 ?_
 refine Lst.addNil 3 1 ?_
 refine Lst.alloc (cs := enc (TurnR.mk ({ Turn.zero with Want := ([] : List (List Int)), Log := ([] : List Int), Told := ([] : List Int) } : Turn) Sl.nil Sl.nil Sl.nil)) rfl rfl (by decide) Try.zeroValue59 rfl (fun b26 => ?_)
 refine Lst.store (i := 0) rfl rfl rfl rfl rfl Try.sizeOf59 (vs := enc (TurnR.mk r9.1 s11 s16 s18)) rfl (Enc.len _) (Enc.one _) (cs' := enc (TurnR.mk r9.1 s11 s16 s18)) (Put.here ((Enc.len _).trans (Enc.len _).symm)) (L' := (.blk b26 (enc (TurnR.mk r9.1 s11 s16 s18)) 59) :: (.own Sl.nil 3 1 (encs ([] : List Int))) :: (.own Sl.nil 3 1 (encs ([] : List Int))) :: (.own Sl.nil 36 1 (encs ([] : List (LR Int)))) :: (.rows (α := Int) 3 rs12) :: (.own s11 36 1 (encs rs12)) :: (.own s16 3 1 (encs r9.1.Log)) :: (.own s18 3 1 (encs r9.1.Told)) :: (.blk b3 (enc a1) 61) :: (.blk b1 (enc (TurnR.mk a0 s_a0_2 s_a0_3 s_a0_4)) 59) :: L) rfl ?_
 refine Lst.r (Ev.assign rfl) ?_
 refine Lst.r (Ev.assign rfl) ?_
 refine Lst.nil ?_
 refine At.then ?_
 refine Cd.seq ?_
 refine Cd.seq ?_
 refine Cd.region ?_
 refine Lst.r (Ev.loadA (i := 9) rfl rfl Try.isAgg59 Try.sizeOf59 (ch := enc (TurnR.mk a0 s_a0_2 s_a0_3 s_a0_4)) (Enc.len _) (Get.here _)) ?_
 obtain ⟨r28, h29, H⟩ := bind_some H
 refine Lst.call1 rfl rfl (by decide) (vs := [.agg (enc (TurnR.mk a0 s_a0_2 s_a0_3 s_a0_4)).toArray]) ⟨rfl, trivial⟩ Try.call36 (turn_Check_sim h29 w0 _ M _ (sc8 (sc2 hM)) hm_a0_2 (hs_a0_2.mono hF21 (.refl _)) (All.monoLR ha_a0_2 hF21 (.refl _)) (hs_a0_3.mono hF21 (.refl _)) (hs_a0_4.mono hF21 (.refl _))) ?_
 refine Lst.r (Ev.move rfl) ?_
 refine Lst.r (Ev.neq rfl rfl) ?_
 refine Lst.nil ?_
 refine At.then ?_
 rcases Bool.eq_false_or_eq_true (r28 != r5) with hb32 | hb32
 ·replace H := ite_t hb32 H
  refine Cd.condT rfl hb32 ?_
  refine Cd.seq ?_
  refine Cd.as (e' := []) (L' := (.blk b26 (enc (TurnR.mk r9.1 s11 s16 s18)) 59) :: (.own Sl.nil 3 1 (encs ([] : List Int))) :: (.own Sl.nil 3 1 (encs ([] : List Int))) :: (.own Sl.nil 36 1 (encs ([] : List (LR Int)))) :: (.rows (α := Int) 3 rs12) :: (.own s11 36 1 (encs rs12)) :: (.own s16 3 1 (encs r9.1.Log)) :: (.own s18 3 1 (encs r9.1.Told)) :: (.blk b3 (enc a1) 61) :: (.blk b1 (enc (TurnR.mk a0 s_a0_2 s_a0_3 s_a0_4)) 59) :: L) trivial rfl ?_
  refine Cd.region ?_
  refine Lst.r (Ev.assign rfl) ?_
  refine Lst.nil ?_
  refine At.then ?_
  obtain rfl := some_inj H
  refine Cd.ret ?_
  refine At.then_ret ?_
  exact At.ret1 rfl (Res.tmp rfl) hF21 (sc1 (sc1 (sc1 (sc1 (sc1 (sc1 (sc1 (sc1 (sc1 (sc1 (.refl _))))))))))) ⟨rfl, rfl⟩
 replace H := ite_f hb32 H
 refine Cd.condF rfl hb32 ?_
 refine Cd.skip ?_
 refine At.then ?_
 obtain ⟨o34, H, HKo34⟩ := bind_some H
 refine Cd.join (σ := Int) (fun y33 => [(2, pv b1 0), (3, pv b3 0), (5, iv y33), (6, pv b26 0), (7, iv r9.2.1), (8, iv r9.2.2)]) (fun y33 => (.blk b26 (enc (TurnR.mk r9.1 s11 s16 s18)) 59) :: (.own Sl.nil 3 1 (encs ([] : List Int))) :: (.own Sl.nil 3 1 (encs ([] : List Int))) :: (.own Sl.nil 36 1 (encs ([] : List (LR Int)))) :: (.rows (α := Int) 3 rs12) :: (.own s11 36 1 (encs rs12)) :: (.own s16 3 1 (encs r9.1.Log)) :: (.own s18 3 1 (encs r9.1.Told)) :: (.blk b3 (enc a1) 61) :: (.blk b1 (enc (TurnR.mk a0 s_a0_2 s_a0_3 s_a0_4)) 59) :: L) (fun _ y33 => y33 = o34) ?_ ?_
 ·refine Cd.seq ?_
  refine Cd.as (e' := [(2, pv b1 0), (3, pv b3 0), (5, iv r5), (6, pv b26 0), (7, iv r9.2.1), (8, iv r9.2.2)]) (L' := (.blk b26 (enc (TurnR.mk r9.1 s11 s16 s18)) 59) :: (.own Sl.nil 3 1 (encs ([] : List Int))) :: (.own Sl.nil 3 1 (encs ([] : List Int))) :: (.own Sl.nil 36 1 (encs ([] : List (LR Int)))) :: (.rows (α := Int) 3 rs12) :: (.own s11 36 1 (encs rs12)) :: (.own s16 3 1 (encs r9.1.Log)) :: (.own s18 3 1 (encs r9.1.Told)) :: (.blk b3 (enc a1) 61) :: (.blk b1 (enc (TurnR.mk a0 s_a0_2 s_a0_3 s_a0_4)) 59) :: L) ⟨rfl, rfl, rfl, rfl, rfl, rfl, trivial⟩ rfl ?_
  refine Cd.region ?_
  refine Lst.r (Ev.move rfl) ?_
  refine Lst.r (Ev.eql rfl rfl) ?_
  refine Lst.r (Ev.move rfl) ?_
  rcases (Bool.eq_false_or_eq_true (r5 == (0 : Int))).symm with hb35 | hb35
  ·replace H := ite_f hb35 H
   refine Lst.skip rfl rfl rfl hb35 rfl (by decide) ?_
   refine Lst.skip rfl rfl rfl hb35 rfl (by decide) ?_
   refine Lst.skip rfl rfl rfl hb35 rfl (by decide) ?_
   refine Lst.skip rfl rfl rfl hb35 rfl (by decide) ?_
   refine Lst.skipU rfl rfl rfl rfl (by decide) ?_
   refine Lst.skipU rfl rfl rfl rfl (by decide) ?_
   refine Lst.skipU rfl rfl rfl rfl (by decide) ?_
   refine Lst.skip rfl rfl rfl hb35 rfl (by decide) ?_
   refine Lst.skip rfl rfl rfl hb35 rfl (by decide) ?_
   refine Lst.skipU rfl rfl rfl rfl (by decide) ?_
   refine Lst.skipU rfl rfl rfl rfl (by decide) ?_
   refine Lst.skipU rfl rfl rfl rfl (by decide) ?_
   refine Lst.skip rfl rfl rfl hb35 rfl (by decide) ?_
   refine Lst.skip rfl rfl rfl hb35 rfl (by decide) ?_
   refine Lst.skipU rfl rfl rfl rfl (by decide) ?_
   refine Lst.skipU rfl rfl rfl rfl (by decide) ?_
   refine Lst.skipU rfl rfl rfl rfl (by decide) ?_
   refine Lst.skipU rfl rfl rfl rfl (by decide) ?_
   refine Lst.skipU rfl rfl rfl rfl (by decide) ?_
   refine Lst.skip rfl rfl rfl hb35 rfl (by decide) ?_
   refine Lst.skip rfl rfl rfl hb35 rfl (by decide) ?_
   refine Lst.skipU rfl rfl rfl rfl (by decide) ?_
   refine Lst.skipU rfl rfl rfl rfl (by decide) ?_
   refine Lst.skipU rfl rfl rfl rfl (by decide) ?_
   refine Lst.skip rfl rfl rfl hb35 rfl (by decide) ?_
   refine Lst.skip rfl rfl rfl hb35 rfl (by decide) ?_
   refine Lst.skipU rfl rfl rfl rfl (by decide) ?_
   refine Lst.skipU rfl rfl rfl rfl (by decide) ?_
   refine Lst.skipU rfl rfl rfl rfl (by decide) ?_
   refine Lst.skip rfl rfl rfl hb35 rfl (by decide) ?_
   refine Lst.r (Ev.pickF rfl hb35 rfl) ?_
   refine Lst.nil ?_
   refine At.then ?_
   refine Cd.condF rfl rfl ?_
   refine Cd.skip ?_
   exact At.meet r5 (FLe.refl _) ⟨rfl, rfl, rfl, rfl, rfl, rfl, trivial⟩ rfl (some_inj H)
  replace H := ite_t hb35 H
  refine Lst.rG hb35 (Ev.fieldAddr (off' := 0) rfl Try.runUnderlying61 rfl Try.sizeOf3 rfl rfl) ?_
  refine Lst.rG hb35 (Ev.load (i := 8) rfl rfl Try.isAgg3 (v := iv a1.Kind) ((Beat.get_Kind (Get.here _)).off (by rfl))) ?_
  refine Lst.rG hb35 (Ev.lss rfl rfl) ?_
  refine Lst.rG hb35 (Ev.move rfl) ?_
  obtain ⟨o36, H, HKo36⟩ := bind_some H
  refine Lst.join (σ := Bool) 4 (fun y37 => [(2, pv b1 0), (3, pv b3 0), (5, iv r5), (6, pv b26 0), (7, iv r9.2.1), (8, iv r9.2.2), (27, .bool (r5 == (0 : Int))), (35, .bool y37)]) (fun y37 => (.blk b26 (enc (TurnR.mk r9.1 s11 s16 s18)) 59) :: (.own Sl.nil 3 1 (encs ([] : List Int))) :: (.own Sl.nil 3 1 (encs ([] : List Int))) :: (.own Sl.nil 36 1 (encs ([] : List (LR Int)))) :: (.rows (α := Int) 3 rs12) :: (.own s11 36 1 (encs rs12)) :: (.own s16 3 1 (encs r9.1.Log)) :: (.own s18 3 1 (encs r9.1.Told)) :: (.blk b3 (enc a1) 61) :: (.blk b1 (enc (TurnR.mk a0 s_a0_2 s_a0_3 s_a0_4)) 59) :: L) (fun _ y37 => y37 = o36) ?_ ?_
  ·rcases Bool.eq_false_or_eq_true (decide (a1.Kind < (1 : Int))) with hb38 | hb38
   ·replace H := ite_t hb38 H
    refine Lst.skip rfl rfl rfl hb38 rfl (by decide) ?_
    refine Lst.skip rfl rfl rfl hb38 rfl (by decide) ?_
    refine Lst.skip rfl rfl rfl hb38 rfl (by decide) ?_
    refine Lst.rG hb35 (Ev.pickT rfl hb38 rfl) ?_
    refine Lst.nil ?_
    exact At.meet true (FLe.refl _) ⟨rfl, rfl, rfl, rfl, rfl, rfl, rfl, rfl, trivial⟩ rfl (some_inj H)
   replace H := ite_f hb38 H
   refine Lst.rG hb38 (Ev.fieldAddr (off' := 0) rfl Try.runUnderlying61 rfl Try.sizeOf3 rfl rfl) ?_
   refine Lst.rG hb38 (Ev.load (i := 8) rfl rfl Try.isAgg3 (v := iv a1.Kind) ((Beat.get_Kind (Get.here _)).off (by rfl))) ?_
   refine Lst.rG hb38 (Ev.gtr rfl rfl) ?_
   refine Lst.rG hb35 (Ev.pickF rfl hb38 rfl) ?_
   refine Lst.nil ?_
   exact At.meet (decide (a1.Kind > (3 : Int))) (FLe.refl _) ⟨rfl, rfl, rfl, rfl, rfl, rfl, rfl, rfl, trivial⟩ rfl (some_inj H)
  rintro F39 y37 hF40 hy
  subst hy
  refine Lst.as (e' := [(2, pv b1 0), (3, pv b3 0), (5, iv r5), (6, pv b26 0), (7, iv r9.2.1), (8, iv r9.2.2), (27, .bool (r5 == (0 : Int))), (35, .bool y37)]) (L' := (.blk b26 (enc (TurnR.mk r9.1 s11 s16 s18)) 59) :: (.own Sl.nil 3 1 (encs ([] : List Int))) :: (.own Sl.nil 3 1 (encs ([] : List Int))) :: (.own Sl.nil 36 1 (encs ([] : List (LR Int)))) :: (.rows (α := Int) 3 rs12) :: (.own s11 36 1 (encs rs12)) :: (.own s16 3 1 (encs r9.1.Log)) :: (.own s18 3 1 (encs r9.1.Told)) :: (.blk b3 (enc a1) 61) :: (.blk b1 (enc (TurnR.mk a0 s_a0_2 s_a0_3 s_a0_4)) 59) :: L) ⟨rfl, rfl, rfl, rfl, rfl, rfl, rfl, rfl, trivial⟩ rfl ?_
  replace H := HKo36
  refine Lst.rG hb35 (Ev.move rfl) ?_
  obtain ⟨o41, H, HKo41⟩ := bind_some H
  refine Lst.join (σ := Bool) 4 (fun y42 => [(2, pv b1 0), (3, pv b3 0), (5, iv r5), (6, pv b26 0), (7, iv r9.2.1), (8, iv r9.2.2), (27, .bool (r5 == (0 : Int))), (40, .bool y42)]) (fun y42 => (.blk b26 (enc (TurnR.mk r9.1 s11 s16 s18)) 59) :: (.own Sl.nil 3 1 (encs ([] : List Int))) :: (.own Sl.nil 3 1 (encs ([] : List Int))) :: (.own Sl.nil 36 1 (encs ([] : List (LR Int)))) :: (.rows (α := Int) 3 rs12) :: (.own s11 36 1 (encs rs12)) :: (.own s16 3 1 (encs r9.1.Log)) :: (.own s18 3 1 (encs r9.1.Told)) :: (.blk b3 (enc a1) 61) :: (.blk b1 (enc (TurnR.mk a0 s_a0_2 s_a0_3 s_a0_4)) 59) :: L) (fun _ y42 => y42 = o41) ?_ ?_
  ·rcases Bool.eq_false_or_eq_true y37 with hb43 | hb43
   ·replace H := ite_t hb43 H
    refine Lst.skip rfl rfl rfl hb43 rfl (by decide) ?_
    refine Lst.skip rfl rfl rfl hb43 rfl (by decide) ?_
    refine Lst.skip rfl rfl rfl hb43 rfl (by decide) ?_
    refine Lst.rG hb35 (Ev.pickT rfl hb43 rfl) ?_
    refine Lst.nil ?_
    exact At.meet true (FLe.refl _) ⟨rfl, rfl, rfl, rfl, rfl, rfl, rfl, rfl, trivial⟩ rfl (some_inj H)
   replace H := ite_f hb43 H
   refine Lst.rG hb43 (Ev.fieldAddr (off' := 1) rfl Try.runUnderlying61 rfl Try.sizeOf3 rfl rfl) ?_
   refine Lst.rG hb43 (Ev.load (i := 8) rfl rfl Try.isAgg3 (v := iv a1.Who) ((Beat.get_Who (Get.here _)).off (by rfl))) ?_
   refine Lst.rG hb43 (Ev.lss rfl rfl) ?_
   refine Lst.rG hb35 (Ev.pickF rfl hb43 rfl) ?_
   refine Lst.nil ?_
   exact At.meet (decide (a1.Who < (0 : Int))) (FLe.refl _) ⟨rfl, rfl, rfl, rfl, rfl, rfl, rfl, rfl, trivial⟩ rfl (some_inj H)
  rintro F44 y42 hF45 hy
  subst hy
  refine Lst.as (e' := [(2, pv b1 0), (3, pv b3 0), (5, iv r5), (6, pv b26 0), (7, iv r9.2.1), (8, iv r9.2.2), (27, .bool (r5 == (0 : Int))), (40, .bool y42)]) (L' := (.blk b26 (enc (TurnR.mk r9.1 s11 s16 s18)) 59) :: (.own Sl.nil 3 1 (encs ([] : List Int))) :: (.own Sl.nil 3 1 (encs ([] : List Int))) :: (.own Sl.nil 36 1 (encs ([] : List (LR Int)))) :: (.rows (α := Int) 3 rs12) :: (.own s11 36 1 (encs rs12)) :: (.own s16 3 1 (encs r9.1.Log)) :: (.own s18 3 1 (encs r9.1.Told)) :: (.blk b3 (enc a1) 61) :: (.blk b1 (enc (TurnR.mk a0 s_a0_2 s_a0_3 s_a0_4)) 59) :: L) ⟨rfl, rfl, rfl, rfl, rfl, rfl, rfl, rfl, trivial⟩ rfl ?_
  replace H := HKo41
  refine Lst.rG hb35 (Ev.move rfl) ?_
  obtain ⟨o46, H, HKo46⟩ := bind_some H
  refine Lst.join (σ := Bool) 6 (fun y47 => [(2, pv b1 0), (3, pv b3 0), (5, iv r5), (6, pv b26 0), (7, iv r9.2.1), (8, iv r9.2.2), (27, .bool (r5 == (0 : Int))), (47, .bool y47)]) (fun y47 => (.blk b26 (enc (TurnR.mk r9.1 s11 s16 s18)) 59) :: (.own Sl.nil 3 1 (encs ([] : List Int))) :: (.own Sl.nil 3 1 (encs ([] : List Int))) :: (.own Sl.nil 36 1 (encs ([] : List (LR Int)))) :: (.rows (α := Int) 3 rs12) :: (.own s11 36 1 (encs rs12)) :: (.own s16 3 1 (encs r9.1.Log)) :: (.own s18 3 1 (encs r9.1.Told)) :: (.blk b3 (enc a1) 61) :: (.blk b1 (enc (TurnR.mk a0 s_a0_2 s_a0_3 s_a0_4)) 59) :: L) (fun _ y47 => y47 = o46) ?_ ?_
  ·rcases Bool.eq_false_or_eq_true y42 with hb48 | hb48
   ·replace H := ite_t hb48 H
    refine Lst.skip rfl rfl rfl hb48 rfl (by decide) ?_
    refine Lst.skip rfl rfl rfl hb48 rfl (by decide) ?_
    refine Lst.skip rfl rfl rfl hb48 rfl (by decide) ?_
    refine Lst.skip rfl rfl rfl hb48 rfl (by decide) ?_
    refine Lst.skip rfl rfl rfl hb48 rfl (by decide) ?_
    refine Lst.rG hb35 (Ev.pickT rfl hb48 rfl) ?_
    refine Lst.nil ?_
    exact At.meet true (FLe.refl _) ⟨rfl, rfl, rfl, rfl, rfl, rfl, rfl, rfl, trivial⟩ rfl (some_inj H)
   replace H := ite_f hb48 H
   refine Lst.rG hb48 (Ev.fieldAddr (off' := 1) rfl Try.runUnderlying61 rfl Try.sizeOf3 rfl rfl) ?_
   refine Lst.rG hb48 (Ev.load (i := 8) rfl rfl Try.isAgg3 (v := iv a1.Who) ((Beat.get_Who (Get.here _)).off (by rfl))) ?_
   refine Lst.rG hb48 (Ev.fieldAddr (off' := 0) rfl Try.runUnderlying59 rfl Try.sizeOf3 rfl rfl) ?_
   refine Lst.rG hb48 (Ev.load (i := 9) rfl rfl Try.isAgg3 (v := iv a0.N) ((TurnR.get_N (Get.here _)).off (by rfl))) ?_
   refine Lst.rG hb48 (Ev.geq rfl rfl) ?_
   refine Lst.rG hb35 (Ev.pickF rfl hb48 rfl) ?_
   refine Lst.nil ?_
   exact At.meet (decide (a1.Who ≥ a0.N)) (FLe.refl _) ⟨rfl, rfl, rfl, rfl, rfl, rfl, rfl, rfl, trivial⟩ rfl (some_inj H)
  rintro F49 y47 hF50 hy
  subst hy
  refine Lst.as (e' := [(2, pv b1 0), (3, pv b3 0), (5, iv r5), (6, pv b26 0), (7, iv r9.2.1), (8, iv r9.2.2), (27, .bool (r5 == (0 : Int))), (47, .bool y47)]) (L' := (.blk b26 (enc (TurnR.mk r9.1 s11 s16 s18)) 59) :: (.own Sl.nil 3 1 (encs ([] : List Int))) :: (.own Sl.nil 3 1 (encs ([] : List Int))) :: (.own Sl.nil 36 1 (encs ([] : List (LR Int)))) :: (.rows (α := Int) 3 rs12) :: (.own s11 36 1 (encs rs12)) :: (.own s16 3 1 (encs r9.1.Log)) :: (.own s18 3 1 (encs r9.1.Told)) :: (.blk b3 (enc a1) 61) :: (.blk b1 (enc (TurnR.mk a0 s_a0_2 s_a0_3 s_a0_4)) 59) :: L) ⟨rfl, rfl, rfl, rfl, rfl, rfl, rfl, rfl, trivial⟩ rfl ?_
  replace H := HKo46
  refine Lst.rG hb35 (Ev.move rfl) ?_
  obtain ⟨o51, H, HKo51⟩ := bind_some H
  refine Lst.join (σ := Bool) 4 (fun y52 => [(2, pv b1 0), (3, pv b3 0), (5, iv r5), (6, pv b26 0), (7, iv r9.2.1), (8, iv r9.2.2), (27, .bool (r5 == (0 : Int))), (52, .bool y52)]) (fun y52 => (.blk b26 (enc (TurnR.mk r9.1 s11 s16 s18)) 59) :: (.own Sl.nil 3 1 (encs ([] : List Int))) :: (.own Sl.nil 3 1 (encs ([] : List Int))) :: (.own Sl.nil 36 1 (encs ([] : List (LR Int)))) :: (.rows (α := Int) 3 rs12) :: (.own s11 36 1 (encs rs12)) :: (.own s16 3 1 (encs r9.1.Log)) :: (.own s18 3 1 (encs r9.1.Told)) :: (.blk b3 (enc a1) 61) :: (.blk b1 (enc (TurnR.mk a0 s_a0_2 s_a0_3 s_a0_4)) 59) :: L) (fun _ y52 => y52 = o51) ?_ ?_
  ·rcases Bool.eq_false_or_eq_true y47 with hb53 | hb53
   ·replace H := ite_t hb53 H
    refine Lst.skip rfl rfl rfl hb53 rfl (by decide) ?_
    refine Lst.skip rfl rfl rfl hb53 rfl (by decide) ?_
    refine Lst.skip rfl rfl rfl hb53 rfl (by decide) ?_
    refine Lst.rG hb35 (Ev.pickT rfl hb53 rfl) ?_
    refine Lst.nil ?_
    exact At.meet true (FLe.refl _) ⟨rfl, rfl, rfl, rfl, rfl, rfl, rfl, rfl, trivial⟩ rfl (some_inj H)
   replace H := ite_f hb53 H
   refine Lst.rG hb53 (Ev.fieldAddr (off' := 2) rfl Try.runUnderlying61 rfl Try.sizeOf3 rfl rfl) ?_
   refine Lst.rG hb53 (Ev.load (i := 8) rfl rfl Try.isAgg3 (v := iv a1.N) ((Beat.get_N (Get.here _)).off (by rfl))) ?_
   refine Lst.rG hb53 (Ev.lss rfl rfl) ?_
   refine Lst.rG hb35 (Ev.pickF rfl hb53 rfl) ?_
   refine Lst.nil ?_
   exact At.meet (decide (a1.N < (0 : Int))) (FLe.refl _) ⟨rfl, rfl, rfl, rfl, rfl, rfl, rfl, rfl, trivial⟩ rfl (some_inj H)
  rintro F54 y52 hF55 hy
  subst hy
  refine Lst.as (e' := [(2, pv b1 0), (3, pv b3 0), (5, iv r5), (6, pv b26 0), (7, iv r9.2.1), (8, iv r9.2.2), (27, .bool (r5 == (0 : Int))), (52, .bool y52)]) (L' := (.blk b26 (enc (TurnR.mk r9.1 s11 s16 s18)) 59) :: (.own Sl.nil 3 1 (encs ([] : List Int))) :: (.own Sl.nil 3 1 (encs ([] : List Int))) :: (.own Sl.nil 36 1 (encs ([] : List (LR Int)))) :: (.rows (α := Int) 3 rs12) :: (.own s11 36 1 (encs rs12)) :: (.own s16 3 1 (encs r9.1.Log)) :: (.own s18 3 1 (encs r9.1.Told)) :: (.blk b3 (enc a1) 61) :: (.blk b1 (enc (TurnR.mk a0 s_a0_2 s_a0_3 s_a0_4)) 59) :: L) ⟨rfl, rfl, rfl, rfl, rfl, rfl, rfl, rfl, trivial⟩ rfl ?_
  replace H := HKo51
  refine Lst.rG hb35 (Ev.move rfl) ?_
  obtain ⟨o56, H, HKo56⟩ := bind_some H
  refine Lst.join (σ := Bool) 4 (fun y57 => [(2, pv b1 0), (3, pv b3 0), (5, iv r5), (6, pv b26 0), (7, iv r9.2.1), (8, iv r9.2.2), (27, .bool (r5 == (0 : Int))), (57, .bool y57)]) (fun y57 => (.blk b26 (enc (TurnR.mk r9.1 s11 s16 s18)) 59) :: (.own Sl.nil 3 1 (encs ([] : List Int))) :: (.own Sl.nil 3 1 (encs ([] : List Int))) :: (.own Sl.nil 36 1 (encs ([] : List (LR Int)))) :: (.rows (α := Int) 3 rs12) :: (.own s11 36 1 (encs rs12)) :: (.own s16 3 1 (encs r9.1.Log)) :: (.own s18 3 1 (encs r9.1.Told)) :: (.blk b3 (enc a1) 61) :: (.blk b1 (enc (TurnR.mk a0 s_a0_2 s_a0_3 s_a0_4)) 59) :: L) (fun _ y57 => y57 = o56) ?_ ?_
  ·rcases Bool.eq_false_or_eq_true y52 with hb58 | hb58
   ·replace H := ite_t hb58 H
    refine Lst.skip rfl rfl rfl hb58 rfl (by decide) ?_
    refine Lst.skip rfl rfl rfl hb58 rfl (by decide) ?_
    refine Lst.skip rfl rfl rfl hb58 rfl (by decide) ?_
    refine Lst.rG hb35 (Ev.pickT rfl hb58 rfl) ?_
    refine Lst.nil ?_
    exact At.meet true (FLe.refl _) ⟨rfl, rfl, rfl, rfl, rfl, rfl, rfl, rfl, trivial⟩ rfl (some_inj H)
   replace H := ite_f hb58 H
   refine Lst.rG hb58 (Ev.fieldAddr (off' := 2) rfl Try.runUnderlying61 rfl Try.sizeOf3 rfl rfl) ?_
   refine Lst.rG hb58 (Ev.load (i := 8) rfl rfl Try.isAgg3 (v := iv a1.N) ((Beat.get_N (Get.here _)).off (by rfl))) ?_
   refine Lst.rG hb58 (Ev.gtr rfl rfl) ?_
   refine Lst.rG hb35 (Ev.pickF rfl hb58 rfl) ?_
   refine Lst.nil ?_
   exact At.meet (decide (a1.N > (29 : Int))) (FLe.refl _) ⟨rfl, rfl, rfl, rfl, rfl, rfl, rfl, rfl, trivial⟩ rfl (some_inj H)
  rintro F59 y57 hF60 hy
  subst hy
  refine Lst.as (e' := [(2, pv b1 0), (3, pv b3 0), (5, iv r5), (6, pv b26 0), (7, iv r9.2.1), (8, iv r9.2.2), (27, .bool (r5 == (0 : Int))), (57, .bool y57)]) (L' := (.blk b26 (enc (TurnR.mk r9.1 s11 s16 s18)) 59) :: (.own Sl.nil 3 1 (encs ([] : List Int))) :: (.own Sl.nil 3 1 (encs ([] : List Int))) :: (.own Sl.nil 36 1 (encs ([] : List (LR Int)))) :: (.rows (α := Int) 3 rs12) :: (.own s11 36 1 (encs rs12)) :: (.own s16 3 1 (encs r9.1.Log)) :: (.own s18 3 1 (encs r9.1.Told)) :: (.blk b3 (enc a1) 61) :: (.blk b1 (enc (TurnR.mk a0 s_a0_2 s_a0_3 s_a0_4)) 59) :: L) ⟨rfl, rfl, rfl, rfl, rfl, rfl, rfl, rfl, trivial⟩ rfl ?_
  replace H := HKo56
  refine Lst.r (Ev.pickT rfl hb35 rfl) ?_
  refine Lst.nil ?_
  refine At.then ?_
  rcases (Bool.eq_false_or_eq_true y57).symm with hb61 | hb61
  ·replace H := ite_f hb61 H
   refine Cd.condF rfl hb61 ?_
   refine Cd.skip ?_
   exact At.meet r5 (FLe.trans (FLe.trans (FLe.trans (FLe.trans hF40 hF45) hF50) hF55) hF60) ⟨rfl, rfl, rfl, rfl, rfl, rfl, trivial⟩ rfl (some_inj H)
  replace H := ite_t hb61 H
  refine Cd.condT rfl hb61 ?_
  refine Cd.region ?_
  refine Lst.r (Ev.assign rfl) ?_
  refine Lst.nil ?_
  exact At.meet (1 : Int) (FLe.trans (FLe.trans (FLe.trans (FLe.trans hF40 hF45) hF50) hF55) hF60) ⟨rfl, rfl, rfl, rfl, rfl, rfl, trivial⟩ rfl (some_inj H)
 rintro F62 y33 hF63 hy
 subst hy
 refine Cd.as (e' := [(2, pv b1 0), (3, pv b3 0), (5, iv y33), (6, pv b26 0), (7, iv r9.2.1), (8, iv r9.2.2)]) (L' := (.blk b26 (enc (TurnR.mk r9.1 s11 s16 s18)) 59) :: (.own Sl.nil 3 1 (encs ([] : List Int))) :: (.own Sl.nil 3 1 (encs ([] : List Int))) :: (.own Sl.nil 36 1 (encs ([] : List (LR Int)))) :: (.rows (α := Int) 3 rs12) :: (.own s11 36 1 (encs rs12)) :: (.own s16 3 1 (encs r9.1.Log)) :: (.own s18 3 1 (encs r9.1.Told)) :: (.blk b3 (enc a1) 61) :: (.blk b1 (enc (TurnR.mk a0 s_a0_2 s_a0_3 s_a0_4)) 59) :: L) ⟨rfl, rfl, rfl, rfl, rfl, rfl, trivial⟩ rfl ?_
 replace H := HKo34
 refine Cd.seq ?_
 refine Cd.seq ?_
 refine Cd.region ?_
 refine Lst.r (Ev.move rfl) ?_
 refine Lst.r (Ev.neq rfl rfl) ?_
 refine Lst.nil ?_
 refine At.then ?_
 rcases Bool.eq_false_or_eq_true (y33 != (0 : Int)) with hb64 | hb64
 ·replace H := ite_t hb64 H
  refine Cd.condT rfl hb64 ?_
  refine Cd.seq ?_
  refine Cd.region ?_
  refine Lst.r (Ev.loadA (i := 0) rfl rfl Try.isAgg59 Try.sizeOf59 (ch := enc (TurnR.mk r9.1 s11 s16 s18)) (Enc.len _) (Get.here _)) ?_
  refine Lst.r (Ev.build (v := .agg (enc (TurnR.mk Turn.zero Sl.nil Sl.nil Sl.nil)).toArray) (pv := []) trivial (fun w => by kernel_rfl)) ?_
  obtain ⟨r65, h66, H⟩ := bind_some H
  refine Lst.call1 rfl rfl (by decide) (vs := [.agg (enc (TurnR.mk r9.1 s11 s16 s18)).toArray, .agg (enc (TurnR.mk Turn.zero Sl.nil Sl.nil Sl.nil)).toArray]) ⟨rfl, rfl, trivial⟩ Try.call37 (partref_SameTurn_sim h66 w0 _ _ _ (.refl _) fm13 (Rd.own (i := 5) rfl rfl rfl) (All.rowsHead (j := 4) rfl) (Rd.own (i := 6) rfl rfl rfl) (Rd.own (i := 7) rfl rfl rfl) rfl Rd.nil All.nil Rd.nil Rd.nil) ?_
  refine Lst.r (Ev.move rfl) ?_
  obtain ⟨o69, H, HKo69⟩ := bind_some H
  refine Lst.join (σ := Bool) 3 (fun y70 => [(5, iv y33), (8, iv r9.2.2), (67, .bool y70)]) (fun y70 => (.blk b26 (enc (TurnR.mk r9.1 s11 s16 s18)) 59) :: (.own Sl.nil 3 1 (encs ([] : List Int))) :: (.own Sl.nil 3 1 (encs ([] : List Int))) :: (.own Sl.nil 36 1 (encs ([] : List (LR Int)))) :: (.rows (α := Int) 3 rs12) :: (.own s11 36 1 (encs rs12)) :: (.own s16 3 1 (encs r9.1.Log)) :: (.own s18 3 1 (encs r9.1.Told)) :: (.blk b3 (enc a1) 61) :: (.blk b1 (enc (TurnR.mk a0 s_a0_2 s_a0_3 s_a0_4)) 59) :: L) (fun _ y70 => y70 = o69) ?_ ?_
  ·rcases (Bool.eq_false_or_eq_true r65).symm with hb71 | hb71
   ·replace H := ite_f hb71 H
    refine Lst.skip rfl rfl rfl hb71 rfl (by decide) ?_
    refine Lst.skip rfl rfl rfl hb71 rfl (by decide) ?_
    refine Lst.r (Ev.pickF rfl hb71 rfl) ?_
    refine Lst.nil ?_
    exact At.meet false (FLe.refl _) ⟨rfl, rfl, rfl, trivial⟩ rfl (some_inj H)
   replace H := ite_t hb71 H
   refine Lst.rG hb71 (Ev.move rfl) ?_
   refine Lst.rG hb71 (Ev.eql rfl rfl) ?_
   refine Lst.r (Ev.pickT rfl hb71 rfl) ?_
   refine Lst.nil ?_
   exact At.meet (r9.2.1 == (0 : Int)) (FLe.refl _) ⟨rfl, rfl, rfl, trivial⟩ rfl (some_inj H)
  rintro F72 y70 hF73 hy
  subst hy
  refine Lst.as (e' := [(5, iv y33), (8, iv r9.2.2), (67, .bool y70)]) (L' := (.blk b26 (enc (TurnR.mk r9.1 s11 s16 s18)) 59) :: (.own Sl.nil 3 1 (encs ([] : List Int))) :: (.own Sl.nil 3 1 (encs ([] : List Int))) :: (.own Sl.nil 36 1 (encs ([] : List (LR Int)))) :: (.rows (α := Int) 3 rs12) :: (.own s11 36 1 (encs rs12)) :: (.own s16 3 1 (encs r9.1.Log)) :: (.own s18 3 1 (encs r9.1.Told)) :: (.blk b3 (enc a1) 61) :: (.blk b1 (enc (TurnR.mk a0 s_a0_2 s_a0_3 s_a0_4)) 59) :: L) ⟨rfl, rfl, rfl, trivial⟩ rfl ?_
  replace H := HKo69
  refine Lst.r (Ev.move rfl) ?_
  obtain ⟨o74, H, HKo74⟩ := bind_some H
  refine Lst.join (σ := Bool) 4 (fun y75 => [(72, .bool y75)]) (fun y75 => (.blk b26 (enc (TurnR.mk r9.1 s11 s16 s18)) 59) :: (.own Sl.nil 3 1 (encs ([] : List Int))) :: (.own Sl.nil 3 1 (encs ([] : List Int))) :: (.own Sl.nil 36 1 (encs ([] : List (LR Int)))) :: (.rows (α := Int) 3 rs12) :: (.own s11 36 1 (encs rs12)) :: (.own s16 3 1 (encs r9.1.Log)) :: (.own s18 3 1 (encs r9.1.Told)) :: (.blk b3 (enc a1) 61) :: (.blk b1 (enc (TurnR.mk a0 s_a0_2 s_a0_3 s_a0_4)) 59) :: L) (fun _ y75 => y75 = o74) ?_ ?_
  ·rcases (Bool.eq_false_or_eq_true y70).symm with hb76 | hb76
   ·replace H := ite_f hb76 H
    refine Lst.skip rfl rfl rfl hb76 rfl (by decide) ?_
    refine Lst.skip rfl rfl rfl hb76 rfl (by decide) ?_
    refine Lst.skip rfl rfl rfl hb76 rfl (by decide) ?_
    refine Lst.r (Ev.pickF rfl hb76 rfl) ?_
    refine Lst.nil ?_
    exact At.meet false (FLe.refl _) ⟨rfl, trivial⟩ rfl (some_inj H)
   replace H := ite_t hb76 H
   refine Lst.rG hb76 (Ev.move rfl) ?_
   refine Lst.rG hb76 (Ev.move rfl) ?_
   refine Lst.rG hb76 (Ev.eql rfl rfl) ?_
   refine Lst.r (Ev.pickT rfl hb76 rfl) ?_
   refine Lst.nil ?_
   exact At.meet (r9.2.2 == y33) (FLe.refl _) ⟨rfl, trivial⟩ rfl (some_inj H)
  rintro F77 y75 hF78 hy
  subst hy
  refine Lst.as (e' := [(72, .bool y75)]) (L' := (.blk b26 (enc (TurnR.mk r9.1 s11 s16 s18)) 59) :: (.own Sl.nil 3 1 (encs ([] : List Int))) :: (.own Sl.nil 3 1 (encs ([] : List Int))) :: (.own Sl.nil 36 1 (encs ([] : List (LR Int)))) :: (.rows (α := Int) 3 rs12) :: (.own s11 36 1 (encs rs12)) :: (.own s16 3 1 (encs r9.1.Log)) :: (.own s18 3 1 (encs r9.1.Told)) :: (.blk b3 (enc a1) 61) :: (.blk b1 (enc (TurnR.mk a0 s_a0_2 s_a0_3 s_a0_4)) 59) :: L) ⟨rfl, trivial⟩ rfl ?_
  replace H := HKo74
  refine Lst.r (Ev.assign rfl) ?_
  refine Lst.nil ?_
  refine At.then ?_
  obtain rfl := some_inj H
  refine Cd.ret ?_
  refine At.then_ret ?_
  exact At.ret1 rfl (Res.tmp rfl) (FLe.trans (FLe.trans (FLe.trans hF21 hF63) hF73) hF78) (sc1 (sc1 (sc1 (sc1 (sc1 (sc1 (sc1 (sc1 (sc1 (sc1 (.refl _))))))))))) ⟨rfl, rfl⟩
 replace H := ite_f hb64 H
 refine Cd.condF rfl hb64 ?_
 refine Cd.skip ?_
 refine At.then ?_
 refine Cd.seq ?_
 refine Cd.region ?_
 refine Lst.r (Ev.loadA (i := 9) rfl rfl Try.isAgg59 Try.sizeOf59 (ch := enc (TurnR.mk a0 s_a0_2 s_a0_3 s_a0_4)) (Enc.len _) (Get.here _)) ?_
 refine Lst.r (Ev.loadA (i := 8) rfl rfl Try.isAgg61 Try.sizeOf61 (ch := enc a1) (Enc.len _) (Get.here _)) ?_
 obtain ⟨r79, h80, H⟩ := bind_some H
 refine Lst.call rfl rfl (by decide) (vs := [.agg (enc (TurnR.mk a0 s_a0_2 s_a0_3 s_a0_4)).toArray, .agg (enc a1).toArray]) ⟨rfl, rfl, trivial⟩ Try.call38 (partref_TurnStep_sim h80 w0 _ M _ (sc8 (sc2 hM)) hm_a0_2 (hs_a0_2.mono (FLe.trans hF21 hF63) (.refl _)) (All.monoLR ha_a0_2 (FLe.trans hF21 hF63) (.refl _)) (hs_a0_3.mono (FLe.trans hF21 hF63) (.refl _)) (hs_a0_4.mono (FLe.trans hF21 hF63) (.refl _))) (fun F90 L' v hF91 hv => ?_)
 obtain ⟨s81, rs82, s86, s88, rfl, rfl, fm83, f87⟩ := hv
 refine Lst.r (Ev.move rfl) ?_
 refine Lst.r (Ev.extract rfl rfl) ?_
 refine Lst.r (Ev.extract rfl rfl) ?_
 refine Lst.r (Ev.extract rfl rfl) ?_
 have ha93 : All LR.rel w0 F90 [] ([] : List (LR Int)) := All.nil
 have ha93m : List.map LR.v ([] : List (LR Int)) = ([] : List (List Int)) := rfl
 refine Lst.addNil 36 1 ?_
 refine Lst.addNil 3 1 ?_
 refine Lst.addNil 3 1 ?_
 refine Lst.alloc (cs := enc (TurnR.mk ({ Turn.zero with Want := ([] : List (List Int)), Log := ([] : List Int), Told := ([] : List Int) } : Turn) Sl.nil Sl.nil Sl.nil)) rfl rfl (by decide) Try.zeroValue59 rfl (fun b96 => ?_)
 refine Lst.store (i := 0) rfl rfl rfl rfl rfl Try.sizeOf59 (vs := enc (TurnR.mk r79.1 s81 s86 s88)) rfl (Enc.len _) (Enc.one _) (cs' := enc (TurnR.mk r79.1 s81 s86 s88)) (Put.here ((Enc.len _).trans (Enc.len _).symm)) (L' := (.blk b96 (enc (TurnR.mk r79.1 s81 s86 s88)) 59) :: (.own Sl.nil 3 1 (encs ([] : List Int))) :: (.own Sl.nil 3 1 (encs ([] : List Int))) :: (.own Sl.nil 36 1 (encs ([] : List (LR Int)))) :: (.rows (α := Int) 3 rs82) :: (.own s81 36 1 (encs rs82)) :: (.own s88 3 1 (encs r79.1.Told)) :: (.blk b26 (enc (TurnR.mk r9.1 s11 s16 s18)) 59) :: (.own Sl.nil 3 1 (encs ([] : List Int))) :: (.own Sl.nil 3 1 (encs ([] : List Int))) :: (.own Sl.nil 36 1 (encs ([] : List (LR Int)))) :: (.rows (α := Int) 3 rs12) :: (.own s11 36 1 (encs rs12)) :: (.own s16 3 1 (encs r9.1.Log)) :: (.own s18 3 1 (encs r9.1.Told)) :: (.blk b3 (enc a1) 61) :: (.blk b1 (enc (TurnR.mk a0 s_a0_2 s_a0_3 s_a0_4)) 59) :: L) rfl ?_
 refine Lst.r (Ev.assign rfl) ?_
 refine Lst.r (Ev.assign rfl) ?_
 refine Lst.nil ?_
 refine At.then ?_
 refine Cd.seq ?_
 refine Cd.region ?_
 refine Lst.r (Ev.loadA (i := 7) rfl rfl Try.isAgg59 Try.sizeOf59 (ch := enc (TurnR.mk r9.1 s11 s16 s18)) (Enc.len _) (Get.here _)) ?_
 refine Lst.r (Ev.loadA (i := 0) rfl rfl Try.isAgg59 Try.sizeOf59 (ch := enc (TurnR.mk r79.1 s81 s86 s88)) (Enc.len _) (Get.here _)) ?_
 obtain ⟨r98, h99, H⟩ := bind_some H
 refine Lst.call1 rfl rfl (by decide) (vs := [.agg (enc (TurnR.mk r9.1 s11 s16 s18)).toArray, .agg (enc (TurnR.mk r79.1 s81 s86 s88)).toArray]) ⟨rfl, rfl, trivial⟩ Try.call37 (partref_SameTurn_sim h99 w0 _ _ _ (.refl _) fm13 (Rd.own (i := 12) rfl rfl rfl) (All.rowsHead (j := 11) rfl) (Rd.own (i := 13) rfl rfl rfl) (Rd.own (i := 14) rfl rfl rfl) fm83 (Rd.own (i := 5) rfl rfl rfl) (All.rowsHead (j := 4) rfl) (f87.mono (FLe.refl _) (sc8 (sc8 (sc1 hM)))) (Rd.own (i := 6) rfl rfl rfl)) ?_
 refine Lst.r (Ev.move rfl) ?_
 obtain ⟨o102, H, HKo102⟩ := bind_some H
 refine Lst.join (σ := Bool) 4 (fun y103 => [(8, iv r9.2.2), (11, iv r79.2.2), (87, .bool y103)]) (fun y103 => (.blk b96 (enc (TurnR.mk r79.1 s81 s86 s88)) 59) :: (.own Sl.nil 3 1 (encs ([] : List Int))) :: (.own Sl.nil 3 1 (encs ([] : List Int))) :: (.own Sl.nil 36 1 (encs ([] : List (LR Int)))) :: (.rows (α := Int) 3 rs82) :: (.own s81 36 1 (encs rs82)) :: (.own s88 3 1 (encs r79.1.Told)) :: (.blk b26 (enc (TurnR.mk r9.1 s11 s16 s18)) 59) :: (.own Sl.nil 3 1 (encs ([] : List Int))) :: (.own Sl.nil 3 1 (encs ([] : List Int))) :: (.own Sl.nil 36 1 (encs ([] : List (LR Int)))) :: (.rows (α := Int) 3 rs12) :: (.own s11 36 1 (encs rs12)) :: (.own s16 3 1 (encs r9.1.Log)) :: (.own s18 3 1 (encs r9.1.Told)) :: (.blk b3 (enc a1) 61) :: (.blk b1 (enc (TurnR.mk a0 s_a0_2 s_a0_3 s_a0_4)) 59) :: L) (fun _ y103 => y103 = o102) ?_ ?_
 ·rcases (Bool.eq_false_or_eq_true r98).symm with hb104 | hb104
  ·replace H := ite_f hb104 H
   refine Lst.skip rfl rfl rfl hb104 rfl (by decide) ?_
   refine Lst.skip rfl rfl rfl hb104 rfl (by decide) ?_
   refine Lst.skip rfl rfl rfl hb104 rfl (by decide) ?_
   refine Lst.r (Ev.pickF rfl hb104 rfl) ?_
   refine Lst.nil ?_
   exact At.meet false (FLe.refl _) ⟨rfl, rfl, rfl, trivial⟩ rfl (some_inj H)
  replace H := ite_t hb104 H
  refine Lst.rG hb104 (Ev.move rfl) ?_
  refine Lst.rG hb104 (Ev.move rfl) ?_
  refine Lst.rG hb104 (Ev.eql rfl rfl) ?_
  refine Lst.r (Ev.pickT rfl hb104 rfl) ?_
  refine Lst.nil ?_
  exact At.meet (r9.2.1 == r79.2.1) (FLe.refl _) ⟨rfl, rfl, rfl, trivial⟩ rfl (some_inj H)
 rintro F105 y103 hF106 hy
 subst hy
 refine Lst.as (e' := [(8, iv r9.2.2), (11, iv r79.2.2), (87, .bool y103)]) (L' := (.blk b96 (enc (TurnR.mk r79.1 s81 s86 s88)) 59) :: (.own Sl.nil 3 1 (encs ([] : List Int))) :: (.own Sl.nil 3 1 (encs ([] : List Int))) :: (.own Sl.nil 36 1 (encs ([] : List (LR Int)))) :: (.rows (α := Int) 3 rs82) :: (.own s81 36 1 (encs rs82)) :: (.own s88 3 1 (encs r79.1.Told)) :: (.blk b26 (enc (TurnR.mk r9.1 s11 s16 s18)) 59) :: (.own Sl.nil 3 1 (encs ([] : List Int))) :: (.own Sl.nil 3 1 (encs ([] : List Int))) :: (.own Sl.nil 36 1 (encs ([] : List (LR Int)))) :: (.rows (α := Int) 3 rs12) :: (.own s11 36 1 (encs rs12)) :: (.own s16 3 1 (encs r9.1.Log)) :: (.own s18 3 1 (encs r9.1.Told)) :: (.blk b3 (enc a1) 61) :: (.blk b1 (enc (TurnR.mk a0 s_a0_2 s_a0_3 s_a0_4)) 59) :: L) ⟨rfl, rfl, rfl, trivial⟩ rfl ?_
 replace H := HKo102
 refine Lst.r (Ev.move rfl) ?_
 obtain ⟨o107, H, HKo107⟩ := bind_some H
 refine Lst.join (σ := Bool) 4 (fun y108 => [(92, .bool y108)]) (fun y108 => (.blk b96 (enc (TurnR.mk r79.1 s81 s86 s88)) 59) :: (.own Sl.nil 3 1 (encs ([] : List Int))) :: (.own Sl.nil 3 1 (encs ([] : List Int))) :: (.own Sl.nil 36 1 (encs ([] : List (LR Int)))) :: (.rows (α := Int) 3 rs82) :: (.own s81 36 1 (encs rs82)) :: (.own s88 3 1 (encs r79.1.Told)) :: (.blk b26 (enc (TurnR.mk r9.1 s11 s16 s18)) 59) :: (.own Sl.nil 3 1 (encs ([] : List Int))) :: (.own Sl.nil 3 1 (encs ([] : List Int))) :: (.own Sl.nil 36 1 (encs ([] : List (LR Int)))) :: (.rows (α := Int) 3 rs12) :: (.own s11 36 1 (encs rs12)) :: (.own s16 3 1 (encs r9.1.Log)) :: (.own s18 3 1 (encs r9.1.Told)) :: (.blk b3 (enc a1) 61) :: (.blk b1 (enc (TurnR.mk a0 s_a0_2 s_a0_3 s_a0_4)) 59) :: L) (fun _ y108 => y108 = o107) ?_ ?_
 ·rcases (Bool.eq_false_or_eq_true y103).symm with hb109 | hb109
  ·replace H := ite_f hb109 H
   refine Lst.skip rfl rfl rfl hb109 rfl (by decide) ?_
   refine Lst.skip rfl rfl rfl hb109 rfl (by decide) ?_
   refine Lst.skip rfl rfl rfl hb109 rfl (by decide) ?_
   refine Lst.r (Ev.pickF rfl hb109 rfl) ?_
   refine Lst.nil ?_
   exact At.meet false (FLe.refl _) ⟨rfl, trivial⟩ rfl (some_inj H)
  replace H := ite_t hb109 H
  refine Lst.rG hb109 (Ev.move rfl) ?_
  refine Lst.rG hb109 (Ev.move rfl) ?_
  refine Lst.rG hb109 (Ev.eql rfl rfl) ?_
  refine Lst.r (Ev.pickT rfl hb109 rfl) ?_
  refine Lst.nil ?_
  exact At.meet (r9.2.2 == r79.2.2) (FLe.refl _) ⟨rfl, trivial⟩ rfl (some_inj H)
 rintro F110 y108 hF111 hy
 subst hy
 refine Lst.as (e' := [(92, .bool y108)]) (L' := (.blk b96 (enc (TurnR.mk r79.1 s81 s86 s88)) 59) :: (.own Sl.nil 3 1 (encs ([] : List Int))) :: (.own Sl.nil 3 1 (encs ([] : List Int))) :: (.own Sl.nil 36 1 (encs ([] : List (LR Int)))) :: (.rows (α := Int) 3 rs82) :: (.own s81 36 1 (encs rs82)) :: (.own s88 3 1 (encs r79.1.Told)) :: (.blk b26 (enc (TurnR.mk r9.1 s11 s16 s18)) 59) :: (.own Sl.nil 3 1 (encs ([] : List Int))) :: (.own Sl.nil 3 1 (encs ([] : List Int))) :: (.own Sl.nil 36 1 (encs ([] : List (LR Int)))) :: (.rows (α := Int) 3 rs12) :: (.own s11 36 1 (encs rs12)) :: (.own s16 3 1 (encs r9.1.Log)) :: (.own s18 3 1 (encs r9.1.Told)) :: (.blk b3 (enc a1) 61) :: (.blk b1 (enc (TurnR.mk a0 s_a0_2 s_a0_3 s_a0_4)) 59) :: L) ⟨rfl, trivial⟩ rfl ?_
 replace H := HKo107
 refine Lst.r (Ev.assign rfl) ?_
 refine Lst.nil ?_
 refine At.then ?_
 obtain rfl := some_inj H
 refine Cd.ret ?_
 exact At.ret1 rfl (Res.tmp rfl) (FLe.trans (FLe.trans (FLe.trans (FLe.trans hF21 hF63) hF91) hF106) hF111) (sc1 (sc1 (sc1 (sc1 (sc1 (sc1 (sc1 (sc1 (sc1 (sc1 (sc1 (sc1 (sc1 (sc1 (sc1 (sc1 (sc1 (.refl _)))))))))))))))))) ⟨rfl, rfl⟩
end Go.Proofs.Ytobikknjaomalaa
