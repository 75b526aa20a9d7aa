/-
  The functions compute their specs; printed by a program.
-/
import Derived.Test.YtobikknjaomalaaEnP3
namespace Go.Proofs.Ytobikknjaomalaa
open Go.RowKit Enc
set_option linter.unusedVariables false
set_option linter.unusedSimpArgs false
set_option maxHeartbeats 2000000 in
set_option maxRecDepth 20000 in
theorem partlaw_EnterSays_sim {fu : Nat} {a0 : Enter} {a1 : Int} {a2 : Int} {a3 : Int} {s_a0_0 : Sl} {rs_a0_0 : List DoorR} {s_a0_1 : Sl} {r : Bool} (H : partlaw_EnterSays fu a0 a1 a2 a3 = some r) (w0 : World) (F : Frz) (M L : List Item) (hM : M.Sublist L) (hm_a0_0 : rs_a0_0.map DoorR.v = a0.Doors) (hs_a0_0 : Rd w0 F M s_a0_0 rs_a0_0) (ha_a0_0 : All DoorR.rel w0 F M rs_a0_0) (hs_a0_1 : Rd w0 F M s_a0_1 a0.Way) : Ok Try.prog w0 10 [.agg (enc (EnterR.mk a0 s_a0_0 s_a0_1)).toArray, iv a1, iv a2, iv a3] F (L) (Is (.bool r) (L)) := by
 unfold partlaw_EnterSays at H
 refine Ok.enter (m := 4) (n := 189) Try.func10 rfl rfl rfl (by decide) ?_
 refine Cd.env (e' := [(0, .agg (enc (EnterR.mk a0 s_a0_0 s_a0_1)).toArray), (1, iv a1), (2, iv a2), (3, iv a3)]) rfl ?_
 refine Cd.seq ?_
 refine Cd.region ?_
 refine Lst.box rfl rfl (by decide) rfl (cs := enc (EnterR.mk a0 s_a0_0 s_a0_1)) rfl (fun b1 => ?_)
 refine Lst.r (Ev.assign rfl) ?_
 refine Lst.nil ?_
 refine At.then ?_
 refine Cd.seq ?_
 refine Cd.region ?_
 refine Lst.r (Ev.loadA (i := 0) rfl rfl Try.isAgg114 Try.sizeOf114 (ch := enc (EnterR.mk a0 s_a0_0 s_a0_1)) (Enc.len _) (Get.here _)) ?_
 obtain ⟨r3, h4, H⟩ := bind_some H
 refine Lst.call1 rfl rfl (by decide) (vs := [.agg (enc (EnterR.mk a0 s_a0_0 s_a0_1)).toArray]) ⟨rfl, trivial⟩ Try.call63 (partref_EnterErr_sim h4 w0 _ M _ (sc1 hM) hm_a0_0 (hs_a0_0.mono (FLe.refl _) (.refl _)) (All.monoDoor ha_a0_0 (FLe.refl _) (.refl _)) (hs_a0_1.mono (FLe.refl _) (.refl _))) ?_
 refine Lst.r (Ev.assign rfl) ?_
 refine Lst.nil ?_
 refine At.then ?_
 refine Cd.seq ?_
 refine Cd.region ?_
 refine Lst.r (Ev.build (v := .agg (enc (EnterR.mk Enter.zero Sl.nil Sl.nil)).toArray) (pv := []) trivial (fun w => by kernel_rfl)) ?_
 have ha8 : All DoorR.rel w0 F [] ([] : List DoorR) := All.nil
 have ha8m : List.map DoorR.v ([] : List DoorR) = ([] : List Door) := rfl
 refine Lst.addNil 204 5 ?_
 refine Lst.addNil 209 3 ?_
 refine Lst.alloc (cs := enc (EnterR.mk ({ Enter.zero with Doors := ([] : List Door), Way := ([] : List Word) } : Enter) Sl.nil Sl.nil)) rfl rfl (by decide) Try.zeroValue114 rfl (fun b10 => ?_)
 refine Lst.store (i := 0) rfl rfl rfl rfl rfl Try.sizeOf114 (vs := enc (EnterR.mk Enter.zero Sl.nil Sl.nil)) rfl (Enc.len _) (Enc.one _) (cs' := enc (EnterR.mk Enter.zero Sl.nil Sl.nil)) (Put.here ((Enc.len _).trans (Enc.len _).symm)) (L' := (.blk b10 (enc (EnterR.mk Enter.zero Sl.nil Sl.nil)) 114) :: (.own Sl.nil 209 3 (encs ([] : List Word))) :: (.own Sl.nil 204 5 (encs ([] : List DoorR))) :: (.blk b1 (enc (EnterR.mk a0 s_a0_0 s_a0_1)) 114) :: L) rfl ?_
 refine Lst.nil ?_
 refine At.then ?_
 refine Cd.seq ?_
 refine Cd.region ?_
 refine Lst.r (Ev.move rfl) ?_
 obtain ⟨r12, h13, H⟩ := bind_some H
 refine Lst.call rfl rfl (by decide) (vs := [iv a1]) ⟨rfl, trivial⟩ Try.call64 (enter_New_sim h13 w0 _ M _ (sc4 hM)) (fun F21 L' v hF22 hv => ?_)
 obtain ⟨s14, rs15, s19, rfl, rfl, fm16, f20⟩ := hv
 refine Lst.r (Ev.move rfl) ?_
 refine Lst.r (Ev.extract rfl rfl) ?_
 refine Lst.r (Ev.extract rfl rfl) ?_
 have ha24 : All DoorR.rel w0 F21 [] ([] : List DoorR) := All.nil
 have ha24m : List.map DoorR.v ([] : List DoorR) = ([] : List Door) := rfl
 refine Lst.addNil 204 5 ?_
 refine Lst.addNil 209 3 ?_
 refine Lst.alloc (cs := enc (EnterR.mk ({ Enter.zero with Doors := ([] : List Door), Way := ([] : List Word) } : Enter) Sl.nil Sl.nil)) rfl rfl (by decide) Try.zeroValue114 rfl (fun b26 => ?_)
 refine Lst.store (i := 0) rfl rfl rfl rfl rfl Try.sizeOf114 (vs := enc (EnterR.mk r12.1 s14 s19)) rfl (Enc.len _) (Enc.one _) (cs' := enc (EnterR.mk r12.1 s14 s19)) (Put.here ((Enc.len _).trans (Enc.len _).symm)) (L' := (.blk b26 (enc (EnterR.mk r12.1 s14 s19)) 114) :: (.own Sl.nil 209 3 (encs ([] : List Word))) :: (.own Sl.nil 204 5 (encs ([] : List DoorR))) :: (.rows (α := Int) 3 (List.map DoorR.row rs15)) :: (.own s14 204 5 (encs rs15)) :: (.blk b10 (enc (EnterR.mk Enter.zero Sl.nil Sl.nil)) 114) :: (.own Sl.nil 209 3 (encs ([] : List Word))) :: (.own Sl.nil 204 5 (encs ([] : List DoorR))) :: (.blk b1 (enc (EnterR.mk a0 s_a0_0 s_a0_1)) 114) :: L) rfl ?_
 refine Lst.r (Ev.assign rfl) ?_
 refine Lst.nil ?_
 refine At.then ?_
 refine Cd.seq ?_
 refine Cd.region ?_
 refine Lst.r (Ev.loadA (i := 8) rfl rfl Try.isAgg114 Try.sizeOf114 (ch := enc (EnterR.mk a0 s_a0_0 s_a0_1)) (Enc.len _) (Get.here _)) ?_
 refine Lst.r (Ev.move rfl) ?_
 obtain ⟨r28, h29, H⟩ := bind_some H
 refine Lst.call rfl rfl (by decide) (vs := [.agg (enc (EnterR.mk a0 s_a0_0 s_a0_1)).toArray, iv a2]) ⟨rfl, rfl, trivial⟩ Try.call65 (enter_Wish_sim h29 w0 _ M _ (sc8 (sc1 hM)) hm_a0_0 (hs_a0_0.mono hF22 (.refl _)) (All.monoDoor ha_a0_0 hF22 (.refl _)) (hs_a0_1.mono hF22 (.refl _))) (fun F37 L' v hF38 hv => ?_)
 obtain ⟨s30, rs31, s35, rfl, rfl, fm32⟩ := hv
 refine Lst.r (Ev.move rfl) ?_
 refine Lst.r (Ev.extract rfl rfl) ?_
 refine Lst.r (Ev.extract rfl rfl) ?_
 have ha40 : All DoorR.rel w0 F37 [] ([] : List DoorR) := All.nil
 have ha40m : List.map DoorR.v ([] : List DoorR) = ([] : List Door) := rfl
 refine Lst.addNil 204 5 ?_
 refine Lst.addNil 209 3 ?_
 refine Lst.alloc (cs := enc (EnterR.mk ({ Enter.zero with Doors := ([] : List Door), Way := ([] : List Word) } : Enter) Sl.nil Sl.nil)) rfl rfl (by decide) Try.zeroValue114 rfl (fun b42 => ?_)
 refine Lst.store (i := 0) rfl rfl rfl rfl rfl Try.sizeOf114 (vs := enc (EnterR.mk r28.1 s30 s35)) rfl (Enc.len _) (Enc.one _) (cs' := enc (EnterR.mk r28.1 s30 s35)) (Put.here ((Enc.len _).trans (Enc.len _).symm)) (L' := (.blk b42 (enc (EnterR.mk r28.1 s30 s35)) 114) :: (.own Sl.nil 209 3 (encs ([] : List Word))) :: (.own Sl.nil 204 5 (encs ([] : List DoorR))) :: (.rows (α := Int) 3 (List.map DoorR.row rs31)) :: (.own s30 204 5 (encs rs31)) :: (.own s35 209 3 (encs r28.1.Way)) :: (.blk b26 (enc (EnterR.mk r12.1 s14 s19)) 114) :: (.own Sl.nil 209 3 (encs ([] : List Word))) :: (.own Sl.nil 204 5 (encs ([] : List DoorR))) :: (.rows (α := Int) 3 (List.map DoorR.row rs15)) :: (.own s14 204 5 (encs rs15)) :: (.blk b10 (enc (EnterR.mk Enter.zero Sl.nil Sl.nil)) 114) :: (.own Sl.nil 209 3 (encs ([] : List Word))) :: (.own Sl.nil 204 5 (encs ([] : List DoorR))) :: (.blk b1 (enc (EnterR.mk a0 s_a0_0 s_a0_1)) 114) :: L) rfl ?_
 refine Lst.r (Ev.assign rfl) ?_
 refine Lst.nil ?_
 refine At.then ?_
 refine Cd.seq ?_
 refine Cd.as (e' := [(1, iv a1), (2, iv a2), (3, iv a3), (4, pv b1 0), (9, iv r3), (10, pv b10 0), (11, pv b26 0), (12, iv r12.2), (13, pv b42 0), (14, iv r28.2)]) (L' := (.blk b42 (enc (EnterR.mk r28.1 s30 s35)) 114) :: (.own Sl.nil 209 3 (encs ([] : List Word))) :: (.own Sl.nil 204 5 (encs ([] : List DoorR))) :: (.rows (α := Int) 3 (List.map DoorR.row rs31)) :: (.own s30 204 5 (encs rs31)) :: (.own s35 209 3 (encs r28.1.Way)) :: (.blk b26 (enc (EnterR.mk r12.1 s14 s19)) 114) :: (.own Sl.nil 209 3 (encs ([] : List Word))) :: (.own Sl.nil 204 5 (encs ([] : List DoorR))) :: (.rows (α := Int) 3 (List.map DoorR.row rs15)) :: (.own s14 204 5 (encs rs15)) :: (.blk b10 (enc (EnterR.mk Enter.zero Sl.nil Sl.nil)) 114) :: (.own Sl.nil 209 3 (encs ([] : List Word))) :: (.own Sl.nil 204 5 (encs ([] : List DoorR))) :: (.blk b1 (enc (EnterR.mk a0 s_a0_0 s_a0_1)) 114) :: L) ⟨rfl, rfl, rfl, rfl, rfl, rfl, rfl, rfl, rfl, rfl, trivial⟩ rfl ?_
 refine Cd.region ?_
 refine Lst.r (Ev.loadA (i := 14) rfl rfl Try.isAgg114 Try.sizeOf114 (ch := enc (EnterR.mk a0 s_a0_0 s_a0_1)) (Enc.len _) (Get.here _)) ?_
 refine Lst.r (Ev.move rfl) ?_
 obtain ⟨r44, h45, H⟩ := bind_some H
 refine Lst.call rfl rfl (by decide) (vs := [.agg (enc (EnterR.mk a0 s_a0_0 s_a0_1)).toArray, iv a3]) ⟨rfl, rfl, trivial⟩ Try.call66 (enter_Take_sim h45 w0 _ M _ (sc8 (sc4 (sc2 (sc1 hM)))) hm_a0_0 (hs_a0_0.mono (FLe.trans hF22 hF38) (.refl _)) (All.monoDoor ha_a0_0 (FLe.trans hF22 hF38) (.refl _)) (hs_a0_1.mono (FLe.trans hF22 hF38) (.refl _))) (fun F53 L' v hF54 hv => ?_)
 obtain ⟨s46, rs47, s51, rfl, rfl, fm48⟩ := hv
 refine Lst.r (Ev.move rfl) ?_
 refine Lst.r (Ev.extract rfl rfl) ?_
 refine Lst.r (Ev.extract rfl rfl) ?_
 have ha56 : All DoorR.rel w0 F53 [] ([] : List DoorR) := All.nil
 have ha56m : List.map DoorR.v ([] : List DoorR) = ([] : List Door) := rfl
 refine Lst.addNil 204 5 ?_
 refine Lst.addNil 209 3 ?_
 refine Lst.alloc (cs := enc (EnterR.mk ({ Enter.zero with Doors := ([] : List Door), Way := ([] : List Word) } : Enter) Sl.nil Sl.nil)) rfl rfl (by decide) Try.zeroValue114 rfl (fun b58 => ?_)
 refine Lst.store (i := 0) rfl rfl rfl rfl rfl Try.sizeOf114 (vs := enc (EnterR.mk r44.1 s46 s51)) rfl (Enc.len _) (Enc.one _) (cs' := enc (EnterR.mk r44.1 s46 s51)) (Put.here ((Enc.len _).trans (Enc.len _).symm)) (L' := (.blk b58 (enc (EnterR.mk r44.1 s46 s51)) 114) :: (.own Sl.nil 209 3 (encs ([] : List Word))) :: (.own Sl.nil 204 5 (encs ([] : List DoorR))) :: (.rows (α := Int) 3 (List.map DoorR.row rs47)) :: (.own s46 204 5 (encs rs47)) :: (.own s51 209 3 (encs r44.1.Way)) :: (.blk b42 (enc (EnterR.mk r28.1 s30 s35)) 114) :: (.own Sl.nil 209 3 (encs ([] : List Word))) :: (.own Sl.nil 204 5 (encs ([] : List DoorR))) :: (.rows (α := Int) 3 (List.map DoorR.row rs31)) :: (.own s30 204 5 (encs rs31)) :: (.own s35 209 3 (encs r28.1.Way)) :: (.blk b26 (enc (EnterR.mk r12.1 s14 s19)) 114) :: (.own Sl.nil 209 3 (encs ([] : List Word))) :: (.own Sl.nil 204 5 (encs ([] : List DoorR))) :: (.rows (α := Int) 3 (List.map DoorR.row rs15)) :: (.own s14 204 5 (encs rs15)) :: (.blk b10 (enc (EnterR.mk Enter.zero Sl.nil Sl.nil)) 114) :: (.own Sl.nil 209 3 (encs ([] : List Word))) :: (.own Sl.nil 204 5 (encs ([] : List DoorR))) :: (.blk b1 (enc (EnterR.mk a0 s_a0_0 s_a0_1)) 114) :: L) rfl ?_
 refine Lst.r (Ev.assign rfl) ?_
 refine Lst.nil ?_
 refine At.then ?_
 refine Cd.seq ?_
 refine Cd.region ?_
 refine Lst.r (Ev.loadA (i := 20) rfl rfl Try.isAgg114 Try.sizeOf114 (ch := enc (EnterR.mk a0 s_a0_0 s_a0_1)) (Enc.len _) (Get.here _)) ?_
 refine Lst.r (Ev.move rfl) ?_
 obtain ⟨r60, h61, H⟩ := bind_some H
 refine Lst.call rfl rfl (by decide) (vs := [.agg (enc (EnterR.mk a0 s_a0_0 s_a0_1)).toArray, iv a2]) ⟨rfl, rfl, trivial⟩ Try.call67 (enter_Leave_sim h61 w0 _ M _ (sc8 (sc8 (sc4 (sc1 hM)))) hm_a0_0 (hs_a0_0.mono (FLe.trans (FLe.trans hF22 hF38) hF54) (.refl _)) (All.monoDoor ha_a0_0 (FLe.trans (FLe.trans hF22 hF38) hF54) (.refl _)) (hs_a0_1.mono (FLe.trans (FLe.trans hF22 hF38) hF54) (.refl _))) (fun F69 L' v hF70 hv => ?_)
 obtain ⟨s62, rs63, s67, rfl, rfl, fm64⟩ := hv
 refine Lst.r (Ev.move rfl) ?_
 refine Lst.r (Ev.extract rfl rfl) ?_
 refine Lst.r (Ev.extract rfl rfl) ?_
 have ha72 : All DoorR.rel w0 F69 [] ([] : List DoorR) := All.nil
 have ha72m : List.map DoorR.v ([] : List DoorR) = ([] : List Door) := rfl
 refine Lst.addNil 204 5 ?_
 refine Lst.addNil 209 3 ?_
 refine Lst.alloc (cs := enc (EnterR.mk ({ Enter.zero with Doors := ([] : List Door), Way := ([] : List Word) } : Enter) Sl.nil Sl.nil)) rfl rfl (by decide) Try.zeroValue114 rfl (fun b74 => ?_)
 refine Lst.store (i := 0) rfl rfl rfl rfl rfl Try.sizeOf114 (vs := enc (EnterR.mk r60.1 s62 s67)) rfl (Enc.len _) (Enc.one _) (cs' := enc (EnterR.mk r60.1 s62 s67)) (Put.here ((Enc.len _).trans (Enc.len _).symm)) (L' := (.blk b74 (enc (EnterR.mk r60.1 s62 s67)) 114) :: (.own Sl.nil 209 3 (encs ([] : List Word))) :: (.own Sl.nil 204 5 (encs ([] : List DoorR))) :: (.rows (α := Int) 3 (List.map DoorR.row rs63)) :: (.own s62 204 5 (encs rs63)) :: (.own s67 209 3 (encs r60.1.Way)) :: (.blk b58 (enc (EnterR.mk r44.1 s46 s51)) 114) :: (.own Sl.nil 209 3 (encs ([] : List Word))) :: (.own Sl.nil 204 5 (encs ([] : List DoorR))) :: (.rows (α := Int) 3 (List.map DoorR.row rs47)) :: (.own s46 204 5 (encs rs47)) :: (.own s51 209 3 (encs r44.1.Way)) :: (.blk b42 (enc (EnterR.mk r28.1 s30 s35)) 114) :: (.own Sl.nil 209 3 (encs ([] : List Word))) :: (.own Sl.nil 204 5 (encs ([] : List DoorR))) :: (.rows (α := Int) 3 (List.map DoorR.row rs31)) :: (.own s30 204 5 (encs rs31)) :: (.own s35 209 3 (encs r28.1.Way)) :: (.blk b26 (enc (EnterR.mk r12.1 s14 s19)) 114) :: (.own Sl.nil 209 3 (encs ([] : List Word))) :: (.own Sl.nil 204 5 (encs ([] : List DoorR))) :: (.rows (α := Int) 3 (List.map DoorR.row rs15)) :: (.own s14 204 5 (encs rs15)) :: (.blk b10 (enc (EnterR.mk Enter.zero Sl.nil Sl.nil)) 114) :: (.own Sl.nil 209 3 (encs ([] : List Word))) :: (.own Sl.nil 204 5 (encs ([] : List DoorR))) :: (.blk b1 (enc (EnterR.mk a0 s_a0_0 s_a0_1)) 114) :: L) rfl ?_
 refine Lst.r (Ev.assign rfl) ?_
 refine Lst.nil ?_
 refine At.then ?_
 obtain ⟨o76, H, HKo76⟩ := andThen_some H
 refine Cd.join (σ := Unit) (fun (_ : Unit) => [(2, iv a2), (3, iv a3), (4, pv b1 0), (9, iv r3), (10, pv b10 0), (13, pv b42 0), (14, iv r28.2), (15, pv b58 0), (16, iv r44.2), (17, pv b74 0), (18, iv r60.2)]) (fun (_ : Unit) => (.blk b74 (enc (EnterR.mk r60.1 s62 s67)) 114) :: (.own Sl.nil 209 3 (encs ([] : List Word))) :: (.own Sl.nil 204 5 (encs ([] : List DoorR))) :: (.rows (α := Int) 3 (List.map DoorR.row rs63)) :: (.own s62 204 5 (encs rs63)) :: (.own s67 209 3 (encs r60.1.Way)) :: (.blk b58 (enc (EnterR.mk r44.1 s46 s51)) 114) :: (.own Sl.nil 209 3 (encs ([] : List Word))) :: (.own Sl.nil 204 5 (encs ([] : List DoorR))) :: (.rows (α := Int) 3 (List.map DoorR.row rs47)) :: (.own s46 204 5 (encs rs47)) :: (.own s51 209 3 (encs r44.1.Way)) :: (.blk b42 (enc (EnterR.mk r28.1 s30 s35)) 114) :: (.own Sl.nil 209 3 (encs ([] : List Word))) :: (.own Sl.nil 204 5 (encs ([] : List DoorR))) :: (.rows (α := Int) 3 (List.map DoorR.row rs31)) :: (.own s30 204 5 (encs rs31)) :: (.own s35 209 3 (encs r28.1.Way)) :: (.blk b26 (enc (EnterR.mk r12.1 s14 s19)) 114) :: (.own Sl.nil 209 3 (encs ([] : List Word))) :: (.own Sl.nil 204 5 (encs ([] : List DoorR))) :: (.rows (α := Int) 3 (List.map DoorR.row rs15)) :: (.own s14 204 5 (encs rs15)) :: (.blk b10 (enc (EnterR.mk Enter.zero Sl.nil Sl.nil)) 114) :: (.own Sl.nil 209 3 (encs ([] : List Word))) :: (.own Sl.nil 204 5 (encs ([] : List DoorR))) :: (.blk b1 (enc (EnterR.mk a0 s_a0_0 s_a0_1)) 114) :: L) (fun _ (_ : Unit) => .inl () = o76) ?_ ?_
 ·refine Cd.seq ?_
  refine Cd.region ?_
  refine Lst.r (Ev.move rfl) ?_
  refine Lst.r (Ev.lss rfl rfl) ?_
  refine Lst.r (Ev.move rfl) ?_
  obtain ⟨o77, H, HKo77⟩ := bind_some H
  refine Lst.join (σ := Bool) 3 (fun y78 => [(1, iv a1), (2, iv a2), (3, iv a3), (4, pv b1 0), (9, iv r3), (10, pv b10 0), (11, pv b26 0), (12, iv r12.2), (13, pv b42 0), (14, iv r28.2), (15, pv b58 0), (16, iv r44.2), (17, pv b74 0), (18, iv r60.2), (54, .bool y78)]) (fun y78 => (.blk b74 (enc (EnterR.mk r60.1 s62 s67)) 114) :: (.own Sl.nil 209 3 (encs ([] : List Word))) :: (.own Sl.nil 204 5 (encs ([] : List DoorR))) :: (.rows (α := Int) 3 (List.map DoorR.row rs63)) :: (.own s62 204 5 (encs rs63)) :: (.own s67 209 3 (encs r60.1.Way)) :: (.blk b58 (enc (EnterR.mk r44.1 s46 s51)) 114) :: (.own Sl.nil 209 3 (encs ([] : List Word))) :: (.own Sl.nil 204 5 (encs ([] : List DoorR))) :: (.rows (α := Int) 3 (List.map DoorR.row rs47)) :: (.own s46 204 5 (encs rs47)) :: (.own s51 209 3 (encs r44.1.Way)) :: (.blk b42 (enc (EnterR.mk r28.1 s30 s35)) 114) :: (.own Sl.nil 209 3 (encs ([] : List Word))) :: (.own Sl.nil 204 5 (encs ([] : List DoorR))) :: (.rows (α := Int) 3 (List.map DoorR.row rs31)) :: (.own s30 204 5 (encs rs31)) :: (.own s35 209 3 (encs r28.1.Way)) :: (.blk b26 (enc (EnterR.mk r12.1 s14 s19)) 114) :: (.own Sl.nil 209 3 (encs ([] : List Word))) :: (.own Sl.nil 204 5 (encs ([] : List DoorR))) :: (.rows (α := Int) 3 (List.map DoorR.row rs15)) :: (.own s14 204 5 (encs rs15)) :: (.blk b10 (enc (EnterR.mk Enter.zero Sl.nil Sl.nil)) 114) :: (.own Sl.nil 209 3 (encs ([] : List Word))) :: (.own Sl.nil 204 5 (encs ([] : List DoorR))) :: (.blk b1 (enc (EnterR.mk a0 s_a0_0 s_a0_1)) 114) :: L) (fun _ y78 => y78 = o77) ?_ ?_
  ·rcases Bool.eq_false_or_eq_true (decide (a1 < (1 : Int))) with hb79 | hb79
   ·replace H := ite_t hb79 H
    refine Lst.skip rfl rfl rfl hb79 rfl (by decide) ?_
    refine Lst.skip rfl rfl rfl hb79 rfl (by decide) ?_
    refine Lst.r (Ev.pickT rfl hb79 rfl) ?_
    refine Lst.nil ?_
    exact At.meet true (FLe.refl _) ⟨rfl, rfl, rfl, rfl, rfl, rfl, rfl, rfl, rfl, rfl, rfl, rfl, rfl, rfl, rfl, trivial⟩ rfl (some_inj H)
   replace H := ite_f hb79 H
   refine Lst.rG hb79 (Ev.move rfl) ?_
   refine Lst.rG hb79 (Ev.gtr rfl rfl) ?_
   refine Lst.r (Ev.pickF rfl hb79 rfl) ?_
   refine Lst.nil ?_
   exact At.meet (decide (a1 > (6 : Int))) (FLe.refl _) ⟨rfl, rfl, rfl, rfl, rfl, rfl, rfl, rfl, rfl, rfl, rfl, rfl, rfl, rfl, rfl, trivial⟩ rfl (some_inj H)
  rintro F80 y78 hF81 hy
  subst hy
  refine Lst.as (e' := [(1, iv a1), (2, iv a2), (3, iv a3), (4, pv b1 0), (9, iv r3), (10, pv b10 0), (11, pv b26 0), (12, iv r12.2), (13, pv b42 0), (14, iv r28.2), (15, pv b58 0), (16, iv r44.2), (17, pv b74 0), (18, iv r60.2), (54, .bool y78)]) (L' := (.blk b74 (enc (EnterR.mk r60.1 s62 s67)) 114) :: (.own Sl.nil 209 3 (encs ([] : List Word))) :: (.own Sl.nil 204 5 (encs ([] : List DoorR))) :: (.rows (α := Int) 3 (List.map DoorR.row rs63)) :: (.own s62 204 5 (encs rs63)) :: (.own s67 209 3 (encs r60.1.Way)) :: (.blk b58 (enc (EnterR.mk r44.1 s46 s51)) 114) :: (.own Sl.nil 209 3 (encs ([] : List Word))) :: (.own Sl.nil 204 5 (encs ([] : List DoorR))) :: (.rows (α := Int) 3 (List.map DoorR.row rs47)) :: (.own s46 204 5 (encs rs47)) :: (.own s51 209 3 (encs r44.1.Way)) :: (.blk b42 (enc (EnterR.mk r28.1 s30 s35)) 114) :: (.own Sl.nil 209 3 (encs ([] : List Word))) :: (.own Sl.nil 204 5 (encs ([] : List DoorR))) :: (.rows (α := Int) 3 (List.map DoorR.row rs31)) :: (.own s30 204 5 (encs rs31)) :: (.own s35 209 3 (encs r28.1.Way)) :: (.blk b26 (enc (EnterR.mk r12.1 s14 s19)) 114) :: (.own Sl.nil 209 3 (encs ([] : List Word))) :: (.own Sl.nil 204 5 (encs ([] : List DoorR))) :: (.rows (α := Int) 3 (List.map DoorR.row rs15)) :: (.own s14 204 5 (encs rs15)) :: (.blk b10 (enc (EnterR.mk Enter.zero Sl.nil Sl.nil)) 114) :: (.own Sl.nil 209 3 (encs ([] : List Word))) :: (.own Sl.nil 204 5 (encs ([] : List DoorR))) :: (.blk b1 (enc (EnterR.mk a0 s_a0_0 s_a0_1)) 114) :: L) ⟨rfl, rfl, rfl, rfl, rfl, rfl, rfl, rfl, rfl, rfl, rfl, rfl, rfl, rfl, rfl, trivial⟩ rfl ?_
  replace H := HKo77
  refine Lst.nil ?_
  refine At.then ?_
  rcases Bool.eq_false_or_eq_true y78 with hb82 | hb82
  ·replace H := ite_t hb82 H
   refine Cd.condT rfl hb82 ?_
   refine Cd.seq ?_
   refine Cd.region ?_
   refine Lst.r (Ev.loadA (i := 18) rfl rfl Try.isAgg114 Try.sizeOf114 (ch := enc (EnterR.mk r12.1 s14 s19)) (Enc.len _) (Get.here _)) ?_
   refine Lst.r (Ev.loadA (i := 23) rfl rfl Try.isAgg114 Try.sizeOf114 (ch := enc (EnterR.mk Enter.zero Sl.nil Sl.nil)) (Enc.len _) (Get.here _)) ?_
   obtain ⟨r83, h84, H⟩ := bind_some H
   refine Lst.call1 rfl rfl (by decide) (vs := [.agg (enc (EnterR.mk r12.1 s14 s19)).toArray, .agg (enc (EnterR.mk Enter.zero Sl.nil Sl.nil)).toArray]) ⟨rfl, rfl, trivial⟩ Try.call68 (partref_SameEnter_sim h84 w0 _ _ _ (.refl _) fm16 (Rd.own (i := 22) rfl rfl rfl) (DoorR.rowAll (All.rowsHead (j := 21) rfl)) (f20.mono (FLe.trans (FLe.trans (FLe.trans hF38 hF54) hF70) hF81) (List.nil_sublist _)) rfl Rd.nil All.nil Rd.nil) ?_
   refine Lst.r (Ev.not rfl) ?_
   refine Lst.r (Ev.move rfl) ?_
   obtain ⟨o87, H, HKo87⟩ := bind_some H
   refine Lst.join (σ := Bool) 3 (fun y88 => [(2, iv a2), (3, iv a3), (4, pv b1 0), (9, iv r3), (10, pv b10 0), (13, pv b42 0), (14, iv r28.2), (15, pv b58 0), (16, iv r44.2), (17, pv b74 0), (18, iv r60.2), (62, .bool y88)]) (fun y88 => (.blk b74 (enc (EnterR.mk r60.1 s62 s67)) 114) :: (.own Sl.nil 209 3 (encs ([] : List Word))) :: (.own Sl.nil 204 5 (encs ([] : List DoorR))) :: (.rows (α := Int) 3 (List.map DoorR.row rs63)) :: (.own s62 204 5 (encs rs63)) :: (.own s67 209 3 (encs r60.1.Way)) :: (.blk b58 (enc (EnterR.mk r44.1 s46 s51)) 114) :: (.own Sl.nil 209 3 (encs ([] : List Word))) :: (.own Sl.nil 204 5 (encs ([] : List DoorR))) :: (.rows (α := Int) 3 (List.map DoorR.row rs47)) :: (.own s46 204 5 (encs rs47)) :: (.own s51 209 3 (encs r44.1.Way)) :: (.blk b42 (enc (EnterR.mk r28.1 s30 s35)) 114) :: (.own Sl.nil 209 3 (encs ([] : List Word))) :: (.own Sl.nil 204 5 (encs ([] : List DoorR))) :: (.rows (α := Int) 3 (List.map DoorR.row rs31)) :: (.own s30 204 5 (encs rs31)) :: (.own s35 209 3 (encs r28.1.Way)) :: (.blk b26 (enc (EnterR.mk r12.1 s14 s19)) 114) :: (.own Sl.nil 209 3 (encs ([] : List Word))) :: (.own Sl.nil 204 5 (encs ([] : List DoorR))) :: (.rows (α := Int) 3 (List.map DoorR.row rs15)) :: (.own s14 204 5 (encs rs15)) :: (.blk b10 (enc (EnterR.mk Enter.zero Sl.nil Sl.nil)) 114) :: (.own Sl.nil 209 3 (encs ([] : List Word))) :: (.own Sl.nil 204 5 (encs ([] : List DoorR))) :: (.blk b1 (enc (EnterR.mk a0 s_a0_0 s_a0_1)) 114) :: L) (fun _ y88 => y88 = o87) ?_ ?_
   ·rcases Bool.eq_false_or_eq_true (!r83) with hb89 | hb89
    ·replace H := ite_t hb89 H
     refine Lst.skip rfl rfl rfl hb89 rfl (by decide) ?_
     refine Lst.skip rfl rfl rfl hb89 rfl (by decide) ?_
     refine Lst.r (Ev.pickT rfl hb89 rfl) ?_
     refine Lst.nil ?_
     exact At.meet true (FLe.refl _) ⟨rfl, rfl, rfl, rfl, rfl, rfl, rfl, rfl, rfl, rfl, rfl, rfl, trivial⟩ rfl (some_inj H)
    replace H := ite_f hb89 H
    refine Lst.rG hb89 (Ev.move rfl) ?_
    refine Lst.rG hb89 (Ev.neq rfl rfl) ?_
    refine Lst.r (Ev.pickF rfl hb89 rfl) ?_
    refine Lst.nil ?_
    exact At.meet (r12.2 != (1 : Int)) (FLe.refl _) ⟨rfl, rfl, rfl, rfl, rfl, rfl, rfl, rfl, rfl, rfl, rfl, rfl, trivial⟩ rfl (some_inj H)
   rintro F90 y88 hF91 hy
   subst hy
   refine Lst.as (e' := [(2, iv a2), (3, iv a3), (4, pv b1 0), (9, iv r3), (10, pv b10 0), (13, pv b42 0), (14, iv r28.2), (15, pv b58 0), (16, iv r44.2), (17, pv b74 0), (18, iv r60.2), (62, .bool y88)]) (L' := (.blk b74 (enc (EnterR.mk r60.1 s62 s67)) 114) :: (.own Sl.nil 209 3 (encs ([] : List Word))) :: (.own Sl.nil 204 5 (encs ([] : List DoorR))) :: (.rows (α := Int) 3 (List.map DoorR.row rs63)) :: (.own s62 204 5 (encs rs63)) :: (.own s67 209 3 (encs r60.1.Way)) :: (.blk b58 (enc (EnterR.mk r44.1 s46 s51)) 114) :: (.own Sl.nil 209 3 (encs ([] : List Word))) :: (.own Sl.nil 204 5 (encs ([] : List DoorR))) :: (.rows (α := Int) 3 (List.map DoorR.row rs47)) :: (.own s46 204 5 (encs rs47)) :: (.own s51 209 3 (encs r44.1.Way)) :: (.blk b42 (enc (EnterR.mk r28.1 s30 s35)) 114) :: (.own Sl.nil 209 3 (encs ([] : List Word))) :: (.own Sl.nil 204 5 (encs ([] : List DoorR))) :: (.rows (α := Int) 3 (List.map DoorR.row rs31)) :: (.own s30 204 5 (encs rs31)) :: (.own s35 209 3 (encs r28.1.Way)) :: (.blk b26 (enc (EnterR.mk r12.1 s14 s19)) 114) :: (.own Sl.nil 209 3 (encs ([] : List Word))) :: (.own Sl.nil 204 5 (encs ([] : List DoorR))) :: (.rows (α := Int) 3 (List.map DoorR.row rs15)) :: (.own s14 204 5 (encs rs15)) :: (.blk b10 (enc (EnterR.mk Enter.zero Sl.nil Sl.nil)) 114) :: (.own Sl.nil 209 3 (encs ([] : List Word))) :: (.own Sl.nil 204 5 (encs ([] : List DoorR))) :: (.blk b1 (enc (EnterR.mk a0 s_a0_0 s_a0_1)) 114) :: L) ⟨rfl, rfl, rfl, rfl, rfl, rfl, rfl, rfl, rfl, rfl, rfl, rfl, trivial⟩ rfl ?_
   replace H := HKo87
   refine Lst.nil ?_
   refine At.then ?_
   rcases Bool.eq_false_or_eq_true y88 with hb92 | hb92
   ·replace H := ite_t hb92 H
    refine Cd.condT rfl hb92 ?_
    refine Cd.seq ?_
    refine Cd.region ?_
    refine Lst.r (Ev.assign rfl) ?_
    refine Lst.nil ?_
    refine At.then ?_
    obtain rfl := some_inj H
    replace H := HKo76
    obtain rfl := some_inj H
    refine Cd.ret ?_
    refine At.then_ret ?_
    exact At.ret1 rfl (Res.tmp rfl) (FLe.trans (FLe.trans (FLe.trans (FLe.trans (FLe.trans hF22 hF38) hF54) hF70) hF81) hF91) (sc1 (sc1 (sc1 (sc1 (sc1 (sc1 (sc1 (sc1 (sc1 (sc1 (sc1 (sc1 (sc1 (sc1 (sc1 (sc1 (sc1 (sc1 (sc1 (sc1 (sc1 (sc1 (sc1 (sc1 (sc1 (sc1 (sc1 (.refl _)))))))))))))))))))))))))))) ⟨rfl, rfl⟩
   replace H := ite_f hb92 H
   refine Cd.condF rfl hb92 ?_
   refine Cd.skip ?_
   exact At.meet () (FLe.trans hF81 hF91) ⟨rfl, rfl, rfl, rfl, rfl, rfl, rfl, rfl, rfl, rfl, rfl, trivial⟩ rfl (some_inj H)
  replace H := ite_f hb82 H
  refine Cd.condF rfl hb82 ?_
  refine Cd.seq ?_
  obtain ⟨n93, h94, H⟩ := bind_some H
  obtain ⟨o107, h108, H⟩ := Let_some H
  refine Cd.headMeet (σ := Enter × Sl × (List Door) × (List DoorR)) 4 (fun (y102, s103, l104, rs105) => [(2, iv a2), (3, iv a3), (4, pv b1 0), (9, iv r3), (10, pv b10 0), (12, iv r12.2), (13, pv b42 0), (14, iv r28.2), (15, pv b58 0), (16, iv r44.2), (17, pv b74 0), (18, iv r60.2), (63, .agg (enc (EnterR.mk ({ y102 with Doors := r12.1.Doors, Way := r12.1.Way } : Enter) s14 s19)).toArray), (66, .agg (enc (EnterR.mk ({ Enter.zero with Doors := l104 } : Enter) s103 Sl.nil)).toArray)]) (fun (y102, s103, l104, rs105) => (.rows (α := Int) 3 (List.map DoorR.row rs105)) :: (.own s103 204 5 (encs rs105)) :: (.blk b74 (enc (EnterR.mk r60.1 s62 s67)) 114) :: (.own Sl.nil 209 3 (encs ([] : List Word))) :: (.own Sl.nil 204 5 (encs ([] : List DoorR))) :: (.rows (α := Int) 3 (List.map DoorR.row rs63)) :: (.own s62 204 5 (encs rs63)) :: (.own s67 209 3 (encs r60.1.Way)) :: (.blk b58 (enc (EnterR.mk r44.1 s46 s51)) 114) :: (.own Sl.nil 209 3 (encs ([] : List Word))) :: (.own Sl.nil 204 5 (encs ([] : List DoorR))) :: (.rows (α := Int) 3 (List.map DoorR.row rs47)) :: (.own s46 204 5 (encs rs47)) :: (.own s51 209 3 (encs r44.1.Way)) :: (.blk b42 (enc (EnterR.mk r28.1 s30 s35)) 114) :: (.own Sl.nil 209 3 (encs ([] : List Word))) :: (.own Sl.nil 204 5 (encs ([] : List DoorR))) :: (.rows (α := Int) 3 (List.map DoorR.row rs31)) :: (.own s30 204 5 (encs rs31)) :: (.own s35 209 3 (encs r28.1.Way)) :: (.blk b26 (enc (EnterR.mk r12.1 s14 s19)) 114) :: (.own Sl.nil 209 3 (encs ([] : List Word))) :: (.own Sl.nil 204 5 (encs ([] : List DoorR))) :: (.rows (α := Int) 3 (List.map DoorR.row rs15)) :: (.own s14 204 5 (encs rs15)) :: (.blk b10 (enc (EnterR.mk Enter.zero Sl.nil Sl.nil)) 114) :: (.own Sl.nil 209 3 (encs ([] : List Word))) :: (.own Sl.nil 204 5 (encs ([] : List DoorR))) :: (.blk b1 (enc (EnterR.mk a0 s_a0_0 s_a0_1)) 114) :: L) (fun Fx (y102, s103, l104, rs105) => (y102, l104) = o107 ∧ rs105.map DoorR.v = l104) (by kernel_rfl) (by kernel_rfl) (behind_sink (by kernel_rfl) (by kernel_rfl) (by kernel_rfl)) (by kernel_rfl) (fun hsel hlt => ?_) ?_
  ·refine HdJ.keep (fun w => St w0 F80 ((.blk b74 (enc (EnterR.mk r60.1 s62 s67)) 114) :: (.own Sl.nil 209 3 (encs ([] : List Word))) :: (.own Sl.nil 204 5 (encs ([] : List DoorR))) :: (.rows (α := Int) 3 (List.map DoorR.row rs63)) :: (.own s62 204 5 (encs rs63)) :: (.own s67 209 3 (encs r60.1.Way)) :: (.blk b58 (enc (EnterR.mk r44.1 s46 s51)) 114) :: (.own Sl.nil 209 3 (encs ([] : List Word))) :: (.own Sl.nil 204 5 (encs ([] : List DoorR))) :: (.rows (α := Int) 3 (List.map DoorR.row rs47)) :: (.own s46 204 5 (encs rs47)) :: (.own s51 209 3 (encs r44.1.Way)) :: (.blk b42 (enc (EnterR.mk r28.1 s30 s35)) 114) :: (.own Sl.nil 209 3 (encs ([] : List Word))) :: (.own Sl.nil 204 5 (encs ([] : List DoorR))) :: (.rows (α := Int) 3 (List.map DoorR.row rs31)) :: (.own s30 204 5 (encs rs31)) :: (.own s35 209 3 (encs r28.1.Way)) :: (.blk b26 (enc (EnterR.mk r12.1 s14 s19)) 114) :: (.own Sl.nil 209 3 (encs ([] : List Word))) :: (.own Sl.nil 204 5 (encs ([] : List DoorR))) :: (.rows (α := Int) 3 (List.map DoorR.row rs15)) :: (.own s14 204 5 (encs rs15)) :: (.blk b10 (enc (EnterR.mk Enter.zero Sl.nil Sl.nil)) 114) :: (.own Sl.nil 209 3 (encs ([] : List Word))) :: (.own Sl.nil 204 5 (encs ([] : List DoorR))) :: (.blk b1 (enc (EnterR.mk a0 s_a0_0 s_a0_1)) 114) :: L) w) (fun w h => trivial) ?_
   refine HdJ.tk hsel hlt 0 (fun w h => h.sublist (sk1 (sk1 (sk1 (sk1 (sk1 (sk1 (sk1 (sk1 (sk1 (sk1 (sk1 (sk1 (sk1 (sk1 (sk1 (sk1 (sk1 (sk1 (sk1 (sk1 (sk1 (sk1 (sk1 (sk1 (sk1 (sk1 (sk1 (.refl _))))))))))))))))))))))))))))) rfl (Ev.loadA (i := 18) rfl rfl Try.isAgg114 Try.sizeOf114 (ch := enc (EnterR.mk r12.1 s14 s19)) (Enc.len _) (Get.here _)) ?_
   refine HdJ.tk hsel hlt 1 (fun w h => h.sublist (sk1 (sk1 (sk1 (sk1 (sk1 (sk1 (sk1 (sk1 (sk1 (sk1 (sk1 (sk1 (sk1 (sk1 (sk1 (sk1 (sk1 (sk1 (sk1 (sk1 (sk1 (sk1 (sk1 (sk1 (sk1 (sk1 (sk1 (.refl _))))))))))))))))))))))))))))) rfl (Ev.move rfl) ?_
   refine HdJ.step [2] (by kernel_rfl) rfl ?_
   refine HdStep.c (fun inv => ?_) ?_
   ·have g109 := mkLen_some h94
    have hm111 : (List.replicate n93 ((DoorR.mk Door.zero Sl.nil) : DoorR)).map DoorR.v = (List.replicate n93 Door.zero) := map_rep _ _
    refine Lst.make (α := DoorR) (z0 := ((DoorR.mk Door.zero Sl.nil) : DoorR)) (k := n93) rfl rfl (by decide) (congrArg some (congrArg (Value.int .i64) g109.1)) (congrArg some (congrArg (Value.int .i64) g109.1)) Try.runUnderlying111 Try.typeInfo204 rfl rfl rfl rfl rfl g109.2 rfl (fun s110 => ?_)
    refine Lst.rowsNil Int 3 n93 ?_
    refine Lst.its (L' := (.rows (α := Int) 3 (List.map DoorR.row (List.replicate n93 ((DoorR.mk Door.zero Sl.nil) : DoorR)))) :: (.own s110 204 5 (encs (List.replicate n93 ((DoorR.mk Door.zero Sl.nil) : DoorR)))) :: (.blk b74 (enc (EnterR.mk r60.1 s62 s67)) 114) :: (.own Sl.nil 209 3 (encs ([] : List Word))) :: (.own Sl.nil 204 5 (encs ([] : List DoorR))) :: (.rows (α := Int) 3 (List.map DoorR.row rs63)) :: (.own s62 204 5 (encs rs63)) :: (.own s67 209 3 (encs r60.1.Way)) :: (.blk b58 (enc (EnterR.mk r44.1 s46 s51)) 114) :: (.own Sl.nil 209 3 (encs ([] : List Word))) :: (.own Sl.nil 204 5 (encs ([] : List DoorR))) :: (.rows (α := Int) 3 (List.map DoorR.row rs47)) :: (.own s46 204 5 (encs rs47)) :: (.own s51 209 3 (encs r44.1.Way)) :: (.blk b42 (enc (EnterR.mk r28.1 s30 s35)) 114) :: (.own Sl.nil 209 3 (encs ([] : List Word))) :: (.own Sl.nil 204 5 (encs ([] : List DoorR))) :: (.rows (α := Int) 3 (List.map DoorR.row rs31)) :: (.own s30 204 5 (encs rs31)) :: (.own s35 209 3 (encs r28.1.Way)) :: (.blk b26 (enc (EnterR.mk r12.1 s14 s19)) 114) :: (.own Sl.nil 209 3 (encs ([] : List Word))) :: (.own Sl.nil 204 5 (encs ([] : List DoorR))) :: (.rows (α := Int) 3 (List.map DoorR.row rs15)) :: (.own s14 204 5 (encs rs15)) :: (.blk b10 (enc (EnterR.mk Enter.zero Sl.nil Sl.nil)) 114) :: (.own Sl.nil 209 3 (encs ([] : List Word))) :: (.own Sl.nil 204 5 (encs ([] : List DoorR))) :: (.blk b1 (enc (EnterR.mk a0 s_a0_0 s_a0_1)) 114) :: L) (by rw [List.map_replicate]; try rfl) ?_
    refine Lst.nil ?_
    refine At.hd inv (fun w h => (h.weaken (FLe.refl _)).sublist (sc1 (sc1 (sk1 (sk1 (sk1 (sk1 (sk1 (sk1 (sk1 (sk1 (sk1 (sk1 (sk1 (sk1 (sk1 (sk1 (sk1 (sk1 (sk1 (sk1 (sk1 (sk1 (sk1 (sk1 (sk1 (sk1 (sk1 (sk1 (sk1 (.refl _))))))))))))))))))))))))))))))) ?_
    refine HdJ.keep (fun w => St w0 F80 ((.rows (α := Int) 3 (List.map DoorR.row (List.replicate n93 ((DoorR.mk Door.zero Sl.nil) : DoorR)))) :: (.own s110 204 5 (encs (List.replicate n93 ((DoorR.mk Door.zero Sl.nil) : DoorR)))) :: (.blk b74 (enc (EnterR.mk r60.1 s62 s67)) 114) :: (.own Sl.nil 209 3 (encs ([] : List Word))) :: (.own Sl.nil 204 5 (encs ([] : List DoorR))) :: (.rows (α := Int) 3 (List.map DoorR.row rs63)) :: (.own s62 204 5 (encs rs63)) :: (.own s67 209 3 (encs r60.1.Way)) :: (.blk b58 (enc (EnterR.mk r44.1 s46 s51)) 114) :: (.own Sl.nil 209 3 (encs ([] : List Word))) :: (.own Sl.nil 204 5 (encs ([] : List DoorR))) :: (.rows (α := Int) 3 (List.map DoorR.row rs47)) :: (.own s46 204 5 (encs rs47)) :: (.own s51 209 3 (encs r44.1.Way)) :: (.blk b42 (enc (EnterR.mk r28.1 s30 s35)) 114) :: (.own Sl.nil 209 3 (encs ([] : List Word))) :: (.own Sl.nil 204 5 (encs ([] : List DoorR))) :: (.rows (α := Int) 3 (List.map DoorR.row rs31)) :: (.own s30 204 5 (encs rs31)) :: (.own s35 209 3 (encs r28.1.Way)) :: (.blk b26 (enc (EnterR.mk r12.1 s14 s19)) 114) :: (.own Sl.nil 209 3 (encs ([] : List Word))) :: (.own Sl.nil 204 5 (encs ([] : List DoorR))) :: (.rows (α := Int) 3 (List.map DoorR.row rs15)) :: (.own s14 204 5 (encs rs15)) :: (.blk b10 (enc (EnterR.mk Enter.zero Sl.nil Sl.nil)) 114) :: (.own Sl.nil 209 3 (encs ([] : List Word))) :: (.own Sl.nil 204 5 (encs ([] : List DoorR))) :: (.blk b1 (enc (EnterR.mk a0 s_a0_0 s_a0_1)) 114) :: L) w) (fun w h => (h.weaken (FLe.refl _)).sublist (sc1 (sc1 (sk1 (sk1 (sk1 (sk1 (sk1 (sk1 (sk1 (sk1 (sk1 (sk1 (sk1 (sk1 (sk1 (sk1 (sk1 (sk1 (sk1 (sk1 (sk1 (sk1 (sk1 (sk1 (sk1 (sk1 (sk1 (sk1 (sk1 (.refl _))))))))))))))))))))))))))))))) ?_
    refine HdJ.tk hsel hlt 3 (fun w h => h.sublist (sk1 (sk1 (sk1 (sk1 (sk1 (sk1 (sk1 (sk1 (sk1 (sk1 (sk1 (sk1 (sk1 (sk1 (sk1 (sk1 (sk1 (sk1 (sk1 (sk1 (sk1 (sk1 (sk1 (sk1 (sk1 (sk1 (sk1 (sk1 (sk1 (.refl _))))))))))))))))))))))))))))))) rfl (Ev.build (v := .agg (enc (EnterR.mk ({ Enter.zero with Doors := (List.replicate n93 Door.zero) } : Enter) s110 Sl.nil)).toArray) (pv := [(0, Sl.v s110)]) ⟨rfl, rfl, trivial⟩ (run_buildStruct (places := #[(0, 1), (1, 1)]) Try.zeroValue114 (zs := enc (EnterR.mk Enter.zero Sl.nil Sl.nil)) rfl Try.runUnderlying114 (fun w => by kernel_rfl) (fill_cons (cs := enc (EnterR.mk Enter.zero Sl.nil Sl.nil)) (cs' := enc (EnterR.mk ({ Enter.zero with Doors := (List.replicate n93 Door.zero) } : Enter) s110 Sl.nil)) (vs := [Sl.v s110]) rfl rfl rfl ((EnterR.put_Doors (p := (EnterR.mk Enter.zero Sl.nil Sl.nil)) (y := s110) (Put.here (vs := [Sl.v s110]) rfl)).off rfl) fill_nil))) ?_
    refine HdJ.done (by kernel_rfl) ?_
    exact At.meetN (r12.1, s110, (List.replicate n93 Door.zero), (List.replicate n93 ((DoorR.mk Door.zero Sl.nil) : DoorR))) (FLe.refl _) ⟨rfl, rfl, rfl, rfl, rfl, rfl, rfl, rfl, rfl, rfl, rfl, rfl, rfl, rfl, trivial⟩ rfl ⟨h108, hm111⟩
   exact trivial
  rintro F113 ⟨y102, s103, l104, rs105⟩ hF114 ⟨hy, fm106⟩
  subst hy
  refine Lst.as (e' := [(2, iv a2), (3, iv a3), (4, pv b1 0), (9, iv r3), (10, pv b10 0), (12, iv r12.2), (13, pv b42 0), (14, iv r28.2), (15, pv b58 0), (16, iv r44.2), (17, pv b74 0), (18, iv r60.2), (63, .agg (enc (EnterR.mk ({ y102 with Doors := r12.1.Doors, Way := r12.1.Way } : Enter) s14 s19)).toArray), (66, .agg (enc (EnterR.mk ({ Enter.zero with Doors := l104 } : Enter) s103 Sl.nil)).toArray)]) (L' := (.rows (α := Int) 3 (List.map DoorR.row rs105)) :: (.own s103 204 5 (encs rs105)) :: (.blk b74 (enc (EnterR.mk r60.1 s62 s67)) 114) :: (.own Sl.nil 209 3 (encs ([] : List Word))) :: (.own Sl.nil 204 5 (encs ([] : List DoorR))) :: (.rows (α := Int) 3 (List.map DoorR.row rs63)) :: (.own s62 204 5 (encs rs63)) :: (.own s67 209 3 (encs r60.1.Way)) :: (.blk b58 (enc (EnterR.mk r44.1 s46 s51)) 114) :: (.own Sl.nil 209 3 (encs ([] : List Word))) :: (.own Sl.nil 204 5 (encs ([] : List DoorR))) :: (.rows (α := Int) 3 (List.map DoorR.row rs47)) :: (.own s46 204 5 (encs rs47)) :: (.own s51 209 3 (encs r44.1.Way)) :: (.blk b42 (enc (EnterR.mk r28.1 s30 s35)) 114) :: (.own Sl.nil 209 3 (encs ([] : List Word))) :: (.own Sl.nil 204 5 (encs ([] : List DoorR))) :: (.rows (α := Int) 3 (List.map DoorR.row rs31)) :: (.own s30 204 5 (encs rs31)) :: (.own s35 209 3 (encs r28.1.Way)) :: (.blk b26 (enc (EnterR.mk r12.1 s14 s19)) 114) :: (.own Sl.nil 209 3 (encs ([] : List Word))) :: (.own Sl.nil 204 5 (encs ([] : List DoorR))) :: (.rows (α := Int) 3 (List.map DoorR.row rs15)) :: (.own s14 204 5 (encs rs15)) :: (.blk b10 (enc (EnterR.mk Enter.zero Sl.nil Sl.nil)) 114) :: (.own Sl.nil 209 3 (encs ([] : List Word))) :: (.own Sl.nil 204 5 (encs ([] : List DoorR))) :: (.blk b1 (enc (EnterR.mk a0 s_a0_0 s_a0_1)) 114) :: L) ⟨rfl, rfl, rfl, rfl, rfl, rfl, rfl, rfl, rfl, rfl, rfl, rfl, rfl, rfl, trivial⟩ rfl ?_
  obtain ⟨r115, h116, H⟩ := bind_some H
  refine Lst.call1 rfl rfl (by decide) (vs := [.agg (enc (EnterR.mk ({ y102 with Doors := r12.1.Doors, Way := r12.1.Way } : Enter) s14 s19)).toArray, .agg (enc (EnterR.mk ({ Enter.zero with Doors := l104 } : Enter) s103 Sl.nil)).toArray]) ⟨rfl, rfl, trivial⟩ Try.call68 (partref_SameEnter_sim h116 w0 _ _ _ (.refl _) fm16 (Rd.own (i := 24) rfl rfl rfl) (DoorR.rowAll (All.rowsHead (j := 23) rfl)) (f20.mono (FLe.trans (FLe.trans (FLe.trans (FLe.trans hF38 hF54) hF70) hF81) hF114) (List.nil_sublist _)) fm106 (Rd.own (i := 1) rfl rfl rfl) (DoorR.rowAll (All.rowsHead (j := 0) rfl)) Rd.nil) ?_
  refine Lst.r (Ev.not rfl) ?_
  refine Lst.r (Ev.move rfl) ?_
  obtain ⟨o119, H, HKo119⟩ := bind_some H
  refine Lst.join (σ := Bool) 3 (fun y120 => [(2, iv a2), (3, iv a3), (4, pv b1 0), (9, iv r3), (10, pv b10 0), (13, pv b42 0), (14, iv r28.2), (15, pv b58 0), (16, iv r44.2), (17, pv b74 0), (18, iv r60.2), (72, .bool y120)]) (fun y120 => (.rows (α := Int) 3 (List.map DoorR.row rs105)) :: (.own s103 204 5 (encs rs105)) :: (.blk b74 (enc (EnterR.mk r60.1 s62 s67)) 114) :: (.own Sl.nil 209 3 (encs ([] : List Word))) :: (.own Sl.nil 204 5 (encs ([] : List DoorR))) :: (.rows (α := Int) 3 (List.map DoorR.row rs63)) :: (.own s62 204 5 (encs rs63)) :: (.own s67 209 3 (encs r60.1.Way)) :: (.blk b58 (enc (EnterR.mk r44.1 s46 s51)) 114) :: (.own Sl.nil 209 3 (encs ([] : List Word))) :: (.own Sl.nil 204 5 (encs ([] : List DoorR))) :: (.rows (α := Int) 3 (List.map DoorR.row rs47)) :: (.own s46 204 5 (encs rs47)) :: (.own s51 209 3 (encs r44.1.Way)) :: (.blk b42 (enc (EnterR.mk r28.1 s30 s35)) 114) :: (.own Sl.nil 209 3 (encs ([] : List Word))) :: (.own Sl.nil 204 5 (encs ([] : List DoorR))) :: (.rows (α := Int) 3 (List.map DoorR.row rs31)) :: (.own s30 204 5 (encs rs31)) :: (.own s35 209 3 (encs r28.1.Way)) :: (.blk b26 (enc (EnterR.mk r12.1 s14 s19)) 114) :: (.own Sl.nil 209 3 (encs ([] : List Word))) :: (.own Sl.nil 204 5 (encs ([] : List DoorR))) :: (.rows (α := Int) 3 (List.map DoorR.row rs15)) :: (.own s14 204 5 (encs rs15)) :: (.blk b10 (enc (EnterR.mk Enter.zero Sl.nil Sl.nil)) 114) :: (.own Sl.nil 209 3 (encs ([] : List Word))) :: (.own Sl.nil 204 5 (encs ([] : List DoorR))) :: (.blk b1 (enc (EnterR.mk a0 s_a0_0 s_a0_1)) 114) :: L) (fun _ y120 => y120 = o119) ?_ ?_
  ·rcases Bool.eq_false_or_eq_true (!r115) with hb121 | hb121
   ·replace H := ite_t hb121 H
    refine Lst.skip rfl rfl rfl hb121 rfl (by decide) ?_
    refine Lst.skip rfl rfl rfl hb121 rfl (by decide) ?_
    refine Lst.r (Ev.pickT rfl hb121 rfl) ?_
    refine Lst.nil ?_
    exact At.meet true (FLe.refl _) ⟨rfl, rfl, rfl, rfl, rfl, rfl, rfl, rfl, rfl, rfl, rfl, rfl, trivial⟩ rfl (some_inj H)
   replace H := ite_f hb121 H
   refine Lst.rG hb121 (Ev.move rfl) ?_
   refine Lst.rG hb121 (Ev.neq rfl rfl) ?_
   refine Lst.r (Ev.pickF rfl hb121 rfl) ?_
   refine Lst.nil ?_
   exact At.meet (r12.2 != (0 : Int)) (FLe.refl _) ⟨rfl, rfl, rfl, rfl, rfl, rfl, rfl, rfl, rfl, rfl, rfl, rfl, trivial⟩ rfl (some_inj H)
  rintro F122 y120 hF123 hy
  subst hy
  refine Lst.as (e' := [(2, iv a2), (3, iv a3), (4, pv b1 0), (9, iv r3), (10, pv b10 0), (13, pv b42 0), (14, iv r28.2), (15, pv b58 0), (16, iv r44.2), (17, pv b74 0), (18, iv r60.2), (72, .bool y120)]) (L' := (.rows (α := Int) 3 (List.map DoorR.row rs105)) :: (.own s103 204 5 (encs rs105)) :: (.blk b74 (enc (EnterR.mk r60.1 s62 s67)) 114) :: (.own Sl.nil 209 3 (encs ([] : List Word))) :: (.own Sl.nil 204 5 (encs ([] : List DoorR))) :: (.rows (α := Int) 3 (List.map DoorR.row rs63)) :: (.own s62 204 5 (encs rs63)) :: (.own s67 209 3 (encs r60.1.Way)) :: (.blk b58 (enc (EnterR.mk r44.1 s46 s51)) 114) :: (.own Sl.nil 209 3 (encs ([] : List Word))) :: (.own Sl.nil 204 5 (encs ([] : List DoorR))) :: (.rows (α := Int) 3 (List.map DoorR.row rs47)) :: (.own s46 204 5 (encs rs47)) :: (.own s51 209 3 (encs r44.1.Way)) :: (.blk b42 (enc (EnterR.mk r28.1 s30 s35)) 114) :: (.own Sl.nil 209 3 (encs ([] : List Word))) :: (.own Sl.nil 204 5 (encs ([] : List DoorR))) :: (.rows (α := Int) 3 (List.map DoorR.row rs31)) :: (.own s30 204 5 (encs rs31)) :: (.own s35 209 3 (encs r28.1.Way)) :: (.blk b26 (enc (EnterR.mk r12.1 s14 s19)) 114) :: (.own Sl.nil 209 3 (encs ([] : List Word))) :: (.own Sl.nil 204 5 (encs ([] : List DoorR))) :: (.rows (α := Int) 3 (List.map DoorR.row rs15)) :: (.own s14 204 5 (encs rs15)) :: (.blk b10 (enc (EnterR.mk Enter.zero Sl.nil Sl.nil)) 114) :: (.own Sl.nil 209 3 (encs ([] : List Word))) :: (.own Sl.nil 204 5 (encs ([] : List DoorR))) :: (.blk b1 (enc (EnterR.mk a0 s_a0_0 s_a0_1)) 114) :: L) ⟨rfl, rfl, rfl, rfl, rfl, rfl, rfl, rfl, rfl, rfl, rfl, rfl, trivial⟩ rfl ?_
  replace H := HKo119
  refine Lst.nil ?_
  refine At.then ?_
  rcases Bool.eq_false_or_eq_true y120 with hb124 | hb124
  ·replace H := ite_t hb124 H
   refine Cd.condT rfl hb124 ?_
   refine Cd.seq ?_
   refine Cd.region ?_
   refine Lst.r (Ev.assign rfl) ?_
   refine Lst.nil ?_
   refine At.then ?_
   obtain rfl := some_inj H
   replace H := HKo76
   obtain rfl := some_inj H
   refine Cd.ret ?_
   refine At.then_ret ?_
   exact At.ret1 rfl (Res.tmp rfl) (FLe.trans (FLe.trans (FLe.trans (FLe.trans (FLe.trans (FLe.trans hF22 hF38) hF54) hF70) hF81) hF114) hF123) (sc1 (sc1 (sc1 (sc1 (sc1 (sc1 (sc1 (sc1 (sc1 (sc1 (sc1 (sc1 (sc1 (sc1 (sc1 (sc1 (sc1 (sc1 (sc1 (sc1 (sc1 (sc1 (sc1 (sc1 (sc1 (sc1 (sc1 (sc1 (sc1 (.refl _)))))))))))))))))))))))))))))) ⟨rfl, rfl⟩
  replace H := ite_f hb124 H
  refine Cd.condF rfl hb124 ?_
  refine Cd.skip ?_
  refine At.less (L' := (.blk b74 (enc (EnterR.mk r60.1 s62 s67)) 114) :: (.own Sl.nil 209 3 (encs ([] : List Word))) :: (.own Sl.nil 204 5 (encs ([] : List DoorR))) :: (.rows (α := Int) 3 (List.map DoorR.row rs63)) :: (.own s62 204 5 (encs rs63)) :: (.own s67 209 3 (encs r60.1.Way)) :: (.blk b58 (enc (EnterR.mk r44.1 s46 s51)) 114) :: (.own Sl.nil 209 3 (encs ([] : List Word))) :: (.own Sl.nil 204 5 (encs ([] : List DoorR))) :: (.rows (α := Int) 3 (List.map DoorR.row rs47)) :: (.own s46 204 5 (encs rs47)) :: (.own s51 209 3 (encs r44.1.Way)) :: (.blk b42 (enc (EnterR.mk r28.1 s30 s35)) 114) :: (.own Sl.nil 209 3 (encs ([] : List Word))) :: (.own Sl.nil 204 5 (encs ([] : List DoorR))) :: (.rows (α := Int) 3 (List.map DoorR.row rs31)) :: (.own s30 204 5 (encs rs31)) :: (.own s35 209 3 (encs r28.1.Way)) :: (.blk b26 (enc (EnterR.mk r12.1 s14 s19)) 114) :: (.own Sl.nil 209 3 (encs ([] : List Word))) :: (.own Sl.nil 204 5 (encs ([] : List DoorR))) :: (.rows (α := Int) 3 (List.map DoorR.row rs15)) :: (.own s14 204 5 (encs rs15)) :: (.blk b10 (enc (EnterR.mk Enter.zero Sl.nil Sl.nil)) 114) :: (.own Sl.nil 209 3 (encs ([] : List Word))) :: (.own Sl.nil 204 5 (encs ([] : List DoorR))) :: (.blk b1 (enc (EnterR.mk a0 s_a0_0 s_a0_1)) 114) :: L) (sc1 (sc1 (sk1 (sk1 (sk1 (sk1 (sk1 (sk1 (sk1 (sk1 (sk1 (sk1 (sk1 (sk1 (sk1 (sk1 (sk1 (sk1 (sk1 (sk1 (sk1 (sk1 (sk1 (sk1 (sk1 (sk1 (sk1 (sk1 (sk1 (.refl _)))))))))))))))))))))))))))))) ?_
  exact At.meet () (FLe.trans (FLe.trans hF81 hF114) hF123) ⟨rfl, rfl, rfl, rfl, rfl, rfl, rfl, rfl, rfl, rfl, rfl, trivial⟩ rfl (some_inj H)
 rintro F125 _u hF126 hy
 subst hy
 refine Cd.as (e' := [(2, iv a2), (3, iv a3), (4, pv b1 0), (9, iv r3), (10, pv b10 0), (13, pv b42 0), (14, iv r28.2), (15, pv b58 0), (16, iv r44.2), (17, pv b74 0), (18, iv r60.2)]) (L' := (.blk b74 (enc (EnterR.mk r60.1 s62 s67)) 114) :: (.own Sl.nil 209 3 (encs ([] : List Word))) :: (.own Sl.nil 204 5 (encs ([] : List DoorR))) :: (.rows (α := Int) 3 (List.map DoorR.row rs63)) :: (.own s62 204 5 (encs rs63)) :: (.own s67 209 3 (encs r60.1.Way)) :: (.blk b58 (enc (EnterR.mk r44.1 s46 s51)) 114) :: (.own Sl.nil 209 3 (encs ([] : List Word))) :: (.own Sl.nil 204 5 (encs ([] : List DoorR))) :: (.rows (α := Int) 3 (List.map DoorR.row rs47)) :: (.own s46 204 5 (encs rs47)) :: (.own s51 209 3 (encs r44.1.Way)) :: (.blk b42 (enc (EnterR.mk r28.1 s30 s35)) 114) :: (.own Sl.nil 209 3 (encs ([] : List Word))) :: (.own Sl.nil 204 5 (encs ([] : List DoorR))) :: (.rows (α := Int) 3 (List.map DoorR.row rs31)) :: (.own s30 204 5 (encs rs31)) :: (.own s35 209 3 (encs r28.1.Way)) :: (.blk b26 (enc (EnterR.mk r12.1 s14 s19)) 114) :: (.own Sl.nil 209 3 (encs ([] : List Word))) :: (.own Sl.nil 204 5 (encs ([] : List DoorR))) :: (.rows (α := Int) 3 (List.map DoorR.row rs15)) :: (.own s14 204 5 (encs rs15)) :: (.blk b10 (enc (EnterR.mk Enter.zero Sl.nil Sl.nil)) 114) :: (.own Sl.nil 209 3 (encs ([] : List Word))) :: (.own Sl.nil 204 5 (encs ([] : List DoorR))) :: (.blk b1 (enc (EnterR.mk a0 s_a0_0 s_a0_1)) 114) :: L) ⟨rfl, rfl, rfl, rfl, rfl, rfl, rfl, rfl, rfl, rfl, rfl, trivial⟩ rfl ?_
 replace H := HKo76
 refine Cd.seq ?_
 refine Cd.seq ?_
 refine Cd.region ?_
 refine Lst.r (Ev.loadA (i := 26) rfl rfl Try.isAgg114 Try.sizeOf114 (ch := enc (EnterR.mk a0 s_a0_0 s_a0_1)) (Enc.len _) (Get.here _)) ?_
 obtain ⟨r127, h128, H⟩ := bind_some H
 refine Lst.call1 rfl rfl (by decide) (vs := [.agg (enc (EnterR.mk a0 s_a0_0 s_a0_1)).toArray]) ⟨rfl, trivial⟩ Try.call69 (enter_Check_sim h128 w0 _ M _ (sc8 (sc8 (sc8 (sc2 (sc1 hM))))) hm_a0_0 (hs_a0_0.mono (FLe.trans (FLe.trans (FLe.trans (FLe.trans hF22 hF38) hF54) hF70) hF126) (.refl _)) (All.monoDoor ha_a0_0 (FLe.trans (FLe.trans (FLe.trans (FLe.trans hF22 hF38) hF54) hF70) hF126) (.refl _)) (hs_a0_1.mono (FLe.trans (FLe.trans (FLe.trans (FLe.trans hF22 hF38) hF54) hF70) hF126) (.refl _))) ?_
 refine Lst.r (Ev.move rfl) ?_
 refine Lst.r (Ev.neq rfl rfl) ?_
 refine Lst.nil ?_
 refine At.then ?_
 rcases Bool.eq_false_or_eq_true (r127 != r3) with hb131 | hb131
 ·replace H := ite_t hb131 H
  refine Cd.condT rfl hb131 ?_
  refine Cd.seq ?_
  refine Cd.as (e' := []) (L' := (.blk b74 (enc (EnterR.mk r60.1 s62 s67)) 114) :: (.own Sl.nil 209 3 (encs ([] : List Word))) :: (.own Sl.nil 204 5 (encs ([] : List DoorR))) :: (.rows (α := Int) 3 (List.map DoorR.row rs63)) :: (.own s62 204 5 (encs rs63)) :: (.own s67 209 3 (encs r60.1.Way)) :: (.blk b58 (enc (EnterR.mk r44.1 s46 s51)) 114) :: (.own Sl.nil 209 3 (encs ([] : List Word))) :: (.own Sl.nil 204 5 (encs ([] : List DoorR))) :: (.rows (α := Int) 3 (List.map DoorR.row rs47)) :: (.own s46 204 5 (encs rs47)) :: (.own s51 209 3 (encs r44.1.Way)) :: (.blk b42 (enc (EnterR.mk r28.1 s30 s35)) 114) :: (.own Sl.nil 209 3 (encs ([] : List Word))) :: (.own Sl.nil 204 5 (encs ([] : List DoorR))) :: (.rows (α := Int) 3 (List.map DoorR.row rs31)) :: (.own s30 204 5 (encs rs31)) :: (.own s35 209 3 (encs r28.1.Way)) :: (.blk b26 (enc (EnterR.mk r12.1 s14 s19)) 114) :: (.own Sl.nil 209 3 (encs ([] : List Word))) :: (.own Sl.nil 204 5 (encs ([] : List DoorR))) :: (.rows (α := Int) 3 (List.map DoorR.row rs15)) :: (.own s14 204 5 (encs rs15)) :: (.blk b10 (enc (EnterR.mk Enter.zero Sl.nil Sl.nil)) 114) :: (.own Sl.nil 209 3 (encs ([] : List Word))) :: (.own Sl.nil 204 5 (encs ([] : List DoorR))) :: (.blk b1 (enc (EnterR.mk a0 s_a0_0 s_a0_1)) 114) :: L) trivial rfl ?_
  refine Cd.region ?_
  refine Lst.r (Ev.assign rfl) ?_
  refine Lst.nil ?_
  refine At.then ?_
  obtain rfl := some_inj H
  refine Cd.ret ?_
  refine At.then_ret ?_
  exact At.ret1 rfl (Res.tmp rfl) (FLe.trans (FLe.trans (FLe.trans (FLe.trans hF22 hF38) hF54) hF70) hF126) (sc1 (sc1 (sc1 (sc1 (sc1 (sc1 (sc1 (sc1 (sc1 (sc1 (sc1 (sc1 (sc1 (sc1 (sc1 (sc1 (sc1 (sc1 (sc1 (sc1 (sc1 (sc1 (sc1 (sc1 (sc1 (sc1 (sc1 (.refl _)))))))))))))))))))))))))))) ⟨rfl, rfl⟩
 replace H := ite_f hb131 H
 refine Cd.condF rfl hb131 ?_
 refine Cd.skip ?_
 refine At.then ?_
 refine Cd.seq ?_
 refine Cd.seq ?_
 refine Cd.region ?_
 refine Lst.r (Ev.move rfl) ?_
 refine Lst.r (Ev.neq rfl rfl) ?_
 refine Lst.nil ?_
 refine At.then ?_
 rcases Bool.eq_false_or_eq_true (r3 != (0 : Int)) with hb132 | hb132
 ·replace H := ite_t hb132 H
  refine Cd.condT rfl hb132 ?_
  refine Cd.seq ?_
  refine Cd.region ?_
  refine Lst.r (Ev.loadA (i := 12) rfl rfl Try.isAgg114 Try.sizeOf114 (ch := enc (EnterR.mk r28.1 s30 s35)) (Enc.len _) (Get.here _)) ?_
  refine Lst.r (Ev.loadA (i := 23) rfl rfl Try.isAgg114 Try.sizeOf114 (ch := enc (EnterR.mk Enter.zero Sl.nil Sl.nil)) (Enc.len _) (Get.here _)) ?_
  obtain ⟨r133, h134, H⟩ := bind_some H
  refine Lst.call1 rfl rfl (by decide) (vs := [.agg (enc (EnterR.mk r28.1 s30 s35)).toArray, .agg (enc (EnterR.mk Enter.zero Sl.nil Sl.nil)).toArray]) ⟨rfl, rfl, trivial⟩ Try.call68 (partref_SameEnter_sim h134 w0 _ _ _ (.refl _) fm32 (Rd.own (i := 16) rfl rfl rfl) (DoorR.rowAll (All.rowsHead (j := 15) rfl)) (Rd.own (i := 17) rfl rfl rfl) rfl Rd.nil All.nil Rd.nil) ?_
  refine Lst.r (Ev.move rfl) ?_
  obtain ⟨o137, H, HKo137⟩ := bind_some H
  refine Lst.join (σ := Bool) 4 (fun y138 => [(9, iv r3), (10, pv b10 0), (15, pv b58 0), (16, iv r44.2), (17, pv b74 0), (18, iv r60.2), (86, .bool y138)]) (fun y138 => (.blk b74 (enc (EnterR.mk r60.1 s62 s67)) 114) :: (.own Sl.nil 209 3 (encs ([] : List Word))) :: (.own Sl.nil 204 5 (encs ([] : List DoorR))) :: (.rows (α := Int) 3 (List.map DoorR.row rs63)) :: (.own s62 204 5 (encs rs63)) :: (.own s67 209 3 (encs r60.1.Way)) :: (.blk b58 (enc (EnterR.mk r44.1 s46 s51)) 114) :: (.own Sl.nil 209 3 (encs ([] : List Word))) :: (.own Sl.nil 204 5 (encs ([] : List DoorR))) :: (.rows (α := Int) 3 (List.map DoorR.row rs47)) :: (.own s46 204 5 (encs rs47)) :: (.own s51 209 3 (encs r44.1.Way)) :: (.blk b42 (enc (EnterR.mk r28.1 s30 s35)) 114) :: (.own Sl.nil 209 3 (encs ([] : List Word))) :: (.own Sl.nil 204 5 (encs ([] : List DoorR))) :: (.rows (α := Int) 3 (List.map DoorR.row rs31)) :: (.own s30 204 5 (encs rs31)) :: (.own s35 209 3 (encs r28.1.Way)) :: (.blk b26 (enc (EnterR.mk r12.1 s14 s19)) 114) :: (.own Sl.nil 209 3 (encs ([] : List Word))) :: (.own Sl.nil 204 5 (encs ([] : List DoorR))) :: (.rows (α := Int) 3 (List.map DoorR.row rs15)) :: (.own s14 204 5 (encs rs15)) :: (.blk b10 (enc (EnterR.mk Enter.zero Sl.nil Sl.nil)) 114) :: (.own Sl.nil 209 3 (encs ([] : List Word))) :: (.own Sl.nil 204 5 (encs ([] : List DoorR))) :: (.blk b1 (enc (EnterR.mk a0 s_a0_0 s_a0_1)) 114) :: L) (fun _ y138 => y138 = o137) ?_ ?_
  ·rcases (Bool.eq_false_or_eq_true r133).symm with hb139 | hb139
   ·replace H := ite_f hb139 H
    refine Lst.skip rfl rfl rfl hb139 rfl (by decide) ?_
    refine Lst.skip rfl rfl rfl hb139 rfl (by decide) ?_
    refine Lst.skip rfl rfl rfl hb139 rfl (by decide) ?_
    refine Lst.r (Ev.pickF rfl hb139 rfl) ?_
    refine Lst.nil ?_
    exact At.meet false (FLe.refl _) ⟨rfl, rfl, rfl, rfl, rfl, rfl, rfl, trivial⟩ rfl (some_inj H)
   replace H := ite_t hb139 H
   refine Lst.rG hb139 (Ev.move rfl) ?_
   refine Lst.rG hb139 (Ev.move rfl) ?_
   refine Lst.rG hb139 (Ev.eql rfl rfl) ?_
   refine Lst.r (Ev.pickT rfl hb139 rfl) ?_
   refine Lst.nil ?_
   exact At.meet (r28.2 == r3) (FLe.refl _) ⟨rfl, rfl, rfl, rfl, rfl, rfl, rfl, trivial⟩ rfl (some_inj H)
  rintro F140 y138 hF141 hy
  subst hy
  refine Lst.as (e' := [(9, iv r3), (10, pv b10 0), (15, pv b58 0), (16, iv r44.2), (17, pv b74 0), (18, iv r60.2), (86, .bool y138)]) (L' := (.blk b74 (enc (EnterR.mk r60.1 s62 s67)) 114) :: (.own Sl.nil 209 3 (encs ([] : List Word))) :: (.own Sl.nil 204 5 (encs ([] : List DoorR))) :: (.rows (α := Int) 3 (List.map DoorR.row rs63)) :: (.own s62 204 5 (encs rs63)) :: (.own s67 209 3 (encs r60.1.Way)) :: (.blk b58 (enc (EnterR.mk r44.1 s46 s51)) 114) :: (.own Sl.nil 209 3 (encs ([] : List Word))) :: (.own Sl.nil 204 5 (encs ([] : List DoorR))) :: (.rows (α := Int) 3 (List.map DoorR.row rs47)) :: (.own s46 204 5 (encs rs47)) :: (.own s51 209 3 (encs r44.1.Way)) :: (.blk b42 (enc (EnterR.mk r28.1 s30 s35)) 114) :: (.own Sl.nil 209 3 (encs ([] : List Word))) :: (.own Sl.nil 204 5 (encs ([] : List DoorR))) :: (.rows (α := Int) 3 (List.map DoorR.row rs31)) :: (.own s30 204 5 (encs rs31)) :: (.own s35 209 3 (encs r28.1.Way)) :: (.blk b26 (enc (EnterR.mk r12.1 s14 s19)) 114) :: (.own Sl.nil 209 3 (encs ([] : List Word))) :: (.own Sl.nil 204 5 (encs ([] : List DoorR))) :: (.rows (α := Int) 3 (List.map DoorR.row rs15)) :: (.own s14 204 5 (encs rs15)) :: (.blk b10 (enc (EnterR.mk Enter.zero Sl.nil Sl.nil)) 114) :: (.own Sl.nil 209 3 (encs ([] : List Word))) :: (.own Sl.nil 204 5 (encs ([] : List DoorR))) :: (.blk b1 (enc (EnterR.mk a0 s_a0_0 s_a0_1)) 114) :: L) ⟨rfl, rfl, rfl, rfl, rfl, rfl, rfl, trivial⟩ rfl ?_
  replace H := HKo137
  refine Lst.r (Ev.move rfl) ?_
  obtain ⟨o142, H, HKo142⟩ := bind_some H
  refine Lst.join (σ := Bool) 4 (fun y143 => [(9, iv r3), (10, pv b10 0), (16, iv r44.2), (17, pv b74 0), (18, iv r60.2), (91, .bool y143)]) (fun y143 => (.blk b74 (enc (EnterR.mk r60.1 s62 s67)) 114) :: (.own Sl.nil 209 3 (encs ([] : List Word))) :: (.own Sl.nil 204 5 (encs ([] : List DoorR))) :: (.rows (α := Int) 3 (List.map DoorR.row rs63)) :: (.own s62 204 5 (encs rs63)) :: (.own s67 209 3 (encs r60.1.Way)) :: (.blk b58 (enc (EnterR.mk r44.1 s46 s51)) 114) :: (.own Sl.nil 209 3 (encs ([] : List Word))) :: (.own Sl.nil 204 5 (encs ([] : List DoorR))) :: (.rows (α := Int) 3 (List.map DoorR.row rs47)) :: (.own s46 204 5 (encs rs47)) :: (.own s51 209 3 (encs r44.1.Way)) :: (.blk b42 (enc (EnterR.mk r28.1 s30 s35)) 114) :: (.own Sl.nil 209 3 (encs ([] : List Word))) :: (.own Sl.nil 204 5 (encs ([] : List DoorR))) :: (.rows (α := Int) 3 (List.map DoorR.row rs31)) :: (.own s30 204 5 (encs rs31)) :: (.own s35 209 3 (encs r28.1.Way)) :: (.blk b26 (enc (EnterR.mk r12.1 s14 s19)) 114) :: (.own Sl.nil 209 3 (encs ([] : List Word))) :: (.own Sl.nil 204 5 (encs ([] : List DoorR))) :: (.rows (α := Int) 3 (List.map DoorR.row rs15)) :: (.own s14 204 5 (encs rs15)) :: (.blk b10 (enc (EnterR.mk Enter.zero Sl.nil Sl.nil)) 114) :: (.own Sl.nil 209 3 (encs ([] : List Word))) :: (.own Sl.nil 204 5 (encs ([] : List DoorR))) :: (.blk b1 (enc (EnterR.mk a0 s_a0_0 s_a0_1)) 114) :: L) (fun _ y143 => y143 = o142) ?_ ?_
  ·rcases (Bool.eq_false_or_eq_true y138).symm with hb144 | hb144
   ·replace H := ite_f hb144 H
    refine Lst.skip rfl rfl rfl hb144 rfl (by decide) ?_
    refine Lst.skip rfl rfl rfl hb144 rfl (by decide) ?_
    refine Lst.skip rfl rfl rfl hb144 rfl (by decide) ?_
    refine Lst.r (Ev.pickF rfl hb144 rfl) ?_
    refine Lst.nil ?_
    exact At.meet false (FLe.refl _) ⟨rfl, rfl, rfl, rfl, rfl, rfl, trivial⟩ rfl (some_inj H)
   replace H := ite_t hb144 H
   refine Lst.rG hb144 (Ev.loadA (i := 6) rfl rfl Try.isAgg114 Try.sizeOf114 (ch := enc (EnterR.mk r44.1 s46 s51)) (Enc.len _) (Get.here _)) ?_
   refine Lst.rG hb144 (Ev.loadA (i := 23) rfl rfl Try.isAgg114 Try.sizeOf114 (ch := enc (EnterR.mk Enter.zero Sl.nil Sl.nil)) (Enc.len _) (Get.here _)) ?_
   obtain ⟨r145, h146, H⟩ := bind_some H
   refine Lst.call1G rfl rfl rfl hb144 rfl (by decide) (vs := [.agg (enc (EnterR.mk r44.1 s46 s51)).toArray, .agg (enc (EnterR.mk Enter.zero Sl.nil Sl.nil)).toArray]) ⟨rfl, rfl, trivial⟩ Try.call68 (partref_SameEnter_sim h146 w0 _ _ _ (.refl _) fm48 (Rd.own (i := 10) rfl rfl rfl) (DoorR.rowAll (All.rowsHead (j := 9) rfl)) (Rd.own (i := 11) rfl rfl rfl) rfl Rd.nil All.nil Rd.nil) ?_
   refine Lst.r (Ev.pickT rfl hb144 rfl) ?_
   refine Lst.nil ?_
   exact At.meet r145 (FLe.refl _) ⟨rfl, rfl, rfl, rfl, rfl, rfl, trivial⟩ rfl (some_inj H)
  rintro F149 y143 hF150 hy
  subst hy
  refine Lst.as (e' := [(9, iv r3), (10, pv b10 0), (16, iv r44.2), (17, pv b74 0), (18, iv r60.2), (91, .bool y143)]) (L' := (.blk b74 (enc (EnterR.mk r60.1 s62 s67)) 114) :: (.own Sl.nil 209 3 (encs ([] : List Word))) :: (.own Sl.nil 204 5 (encs ([] : List DoorR))) :: (.rows (α := Int) 3 (List.map DoorR.row rs63)) :: (.own s62 204 5 (encs rs63)) :: (.own s67 209 3 (encs r60.1.Way)) :: (.blk b58 (enc (EnterR.mk r44.1 s46 s51)) 114) :: (.own Sl.nil 209 3 (encs ([] : List Word))) :: (.own Sl.nil 204 5 (encs ([] : List DoorR))) :: (.rows (α := Int) 3 (List.map DoorR.row rs47)) :: (.own s46 204 5 (encs rs47)) :: (.own s51 209 3 (encs r44.1.Way)) :: (.blk b42 (enc (EnterR.mk r28.1 s30 s35)) 114) :: (.own Sl.nil 209 3 (encs ([] : List Word))) :: (.own Sl.nil 204 5 (encs ([] : List DoorR))) :: (.rows (α := Int) 3 (List.map DoorR.row rs31)) :: (.own s30 204 5 (encs rs31)) :: (.own s35 209 3 (encs r28.1.Way)) :: (.blk b26 (enc (EnterR.mk r12.1 s14 s19)) 114) :: (.own Sl.nil 209 3 (encs ([] : List Word))) :: (.own Sl.nil 204 5 (encs ([] : List DoorR))) :: (.rows (α := Int) 3 (List.map DoorR.row rs15)) :: (.own s14 204 5 (encs rs15)) :: (.blk b10 (enc (EnterR.mk Enter.zero Sl.nil Sl.nil)) 114) :: (.own Sl.nil 209 3 (encs ([] : List Word))) :: (.own Sl.nil 204 5 (encs ([] : List DoorR))) :: (.blk b1 (enc (EnterR.mk a0 s_a0_0 s_a0_1)) 114) :: L) ⟨rfl, rfl, rfl, rfl, rfl, rfl, trivial⟩ rfl ?_
  replace H := HKo142
  refine Lst.r (Ev.move rfl) ?_
  obtain ⟨o151, H, HKo151⟩ := bind_some H
  refine Lst.join (σ := Bool) 4 (fun y152 => [(9, iv r3), (10, pv b10 0), (17, pv b74 0), (18, iv r60.2), (96, .bool y152)]) (fun y152 => (.blk b74 (enc (EnterR.mk r60.1 s62 s67)) 114) :: (.own Sl.nil 209 3 (encs ([] : List Word))) :: (.own Sl.nil 204 5 (encs ([] : List DoorR))) :: (.rows (α := Int) 3 (List.map DoorR.row rs63)) :: (.own s62 204 5 (encs rs63)) :: (.own s67 209 3 (encs r60.1.Way)) :: (.blk b58 (enc (EnterR.mk r44.1 s46 s51)) 114) :: (.own Sl.nil 209 3 (encs ([] : List Word))) :: (.own Sl.nil 204 5 (encs ([] : List DoorR))) :: (.rows (α := Int) 3 (List.map DoorR.row rs47)) :: (.own s46 204 5 (encs rs47)) :: (.own s51 209 3 (encs r44.1.Way)) :: (.blk b42 (enc (EnterR.mk r28.1 s30 s35)) 114) :: (.own Sl.nil 209 3 (encs ([] : List Word))) :: (.own Sl.nil 204 5 (encs ([] : List DoorR))) :: (.rows (α := Int) 3 (List.map DoorR.row rs31)) :: (.own s30 204 5 (encs rs31)) :: (.own s35 209 3 (encs r28.1.Way)) :: (.blk b26 (enc (EnterR.mk r12.1 s14 s19)) 114) :: (.own Sl.nil 209 3 (encs ([] : List Word))) :: (.own Sl.nil 204 5 (encs ([] : List DoorR))) :: (.rows (α := Int) 3 (List.map DoorR.row rs15)) :: (.own s14 204 5 (encs rs15)) :: (.blk b10 (enc (EnterR.mk Enter.zero Sl.nil Sl.nil)) 114) :: (.own Sl.nil 209 3 (encs ([] : List Word))) :: (.own Sl.nil 204 5 (encs ([] : List DoorR))) :: (.blk b1 (enc (EnterR.mk a0 s_a0_0 s_a0_1)) 114) :: L) (fun _ y152 => y152 = o151) ?_ ?_
  ·rcases (Bool.eq_false_or_eq_true y143).symm with hb153 | hb153
   ·replace H := ite_f hb153 H
    refine Lst.skip rfl rfl rfl hb153 rfl (by decide) ?_
    refine Lst.skip rfl rfl rfl hb153 rfl (by decide) ?_
    refine Lst.skip rfl rfl rfl hb153 rfl (by decide) ?_
    refine Lst.r (Ev.pickF rfl hb153 rfl) ?_
    refine Lst.nil ?_
    exact At.meet false (FLe.refl _) ⟨rfl, rfl, rfl, rfl, rfl, trivial⟩ rfl (some_inj H)
   replace H := ite_t hb153 H
   refine Lst.rG hb153 (Ev.move rfl) ?_
   refine Lst.rG hb153 (Ev.move rfl) ?_
   refine Lst.rG hb153 (Ev.eql rfl rfl) ?_
   refine Lst.r (Ev.pickT rfl hb153 rfl) ?_
   refine Lst.nil ?_
   exact At.meet (r44.2 == r3) (FLe.refl _) ⟨rfl, rfl, rfl, rfl, rfl, trivial⟩ rfl (some_inj H)
  rintro F154 y152 hF155 hy
  subst hy
  refine Lst.as (e' := [(9, iv r3), (10, pv b10 0), (17, pv b74 0), (18, iv r60.2), (96, .bool y152)]) (L' := (.blk b74 (enc (EnterR.mk r60.1 s62 s67)) 114) :: (.own Sl.nil 209 3 (encs ([] : List Word))) :: (.own Sl.nil 204 5 (encs ([] : List DoorR))) :: (.rows (α := Int) 3 (List.map DoorR.row rs63)) :: (.own s62 204 5 (encs rs63)) :: (.own s67 209 3 (encs r60.1.Way)) :: (.blk b58 (enc (EnterR.mk r44.1 s46 s51)) 114) :: (.own Sl.nil 209 3 (encs ([] : List Word))) :: (.own Sl.nil 204 5 (encs ([] : List DoorR))) :: (.rows (α := Int) 3 (List.map DoorR.row rs47)) :: (.own s46 204 5 (encs rs47)) :: (.own s51 209 3 (encs r44.1.Way)) :: (.blk b42 (enc (EnterR.mk r28.1 s30 s35)) 114) :: (.own Sl.nil 209 3 (encs ([] : List Word))) :: (.own Sl.nil 204 5 (encs ([] : List DoorR))) :: (.rows (α := Int) 3 (List.map DoorR.row rs31)) :: (.own s30 204 5 (encs rs31)) :: (.own s35 209 3 (encs r28.1.Way)) :: (.blk b26 (enc (EnterR.mk r12.1 s14 s19)) 114) :: (.own Sl.nil 209 3 (encs ([] : List Word))) :: (.own Sl.nil 204 5 (encs ([] : List DoorR))) :: (.rows (α := Int) 3 (List.map DoorR.row rs15)) :: (.own s14 204 5 (encs rs15)) :: (.blk b10 (enc (EnterR.mk Enter.zero Sl.nil Sl.nil)) 114) :: (.own Sl.nil 209 3 (encs ([] : List Word))) :: (.own Sl.nil 204 5 (encs ([] : List DoorR))) :: (.blk b1 (enc (EnterR.mk a0 s_a0_0 s_a0_1)) 114) :: L) ⟨rfl, rfl, rfl, rfl, rfl, trivial⟩ rfl ?_
  replace H := HKo151
  refine Lst.r (Ev.move rfl) ?_
  obtain ⟨o156, H, HKo156⟩ := bind_some H
  refine Lst.join (σ := Bool) 4 (fun y157 => [(9, iv r3), (18, iv r60.2), (101, .bool y157)]) (fun y157 => (.blk b74 (enc (EnterR.mk r60.1 s62 s67)) 114) :: (.own Sl.nil 209 3 (encs ([] : List Word))) :: (.own Sl.nil 204 5 (encs ([] : List DoorR))) :: (.rows (α := Int) 3 (List.map DoorR.row rs63)) :: (.own s62 204 5 (encs rs63)) :: (.own s67 209 3 (encs r60.1.Way)) :: (.blk b58 (enc (EnterR.mk r44.1 s46 s51)) 114) :: (.own Sl.nil 209 3 (encs ([] : List Word))) :: (.own Sl.nil 204 5 (encs ([] : List DoorR))) :: (.rows (α := Int) 3 (List.map DoorR.row rs47)) :: (.own s46 204 5 (encs rs47)) :: (.own s51 209 3 (encs r44.1.Way)) :: (.blk b42 (enc (EnterR.mk r28.1 s30 s35)) 114) :: (.own Sl.nil 209 3 (encs ([] : List Word))) :: (.own Sl.nil 204 5 (encs ([] : List DoorR))) :: (.rows (α := Int) 3 (List.map DoorR.row rs31)) :: (.own s30 204 5 (encs rs31)) :: (.own s35 209 3 (encs r28.1.Way)) :: (.blk b26 (enc (EnterR.mk r12.1 s14 s19)) 114) :: (.own Sl.nil 209 3 (encs ([] : List Word))) :: (.own Sl.nil 204 5 (encs ([] : List DoorR))) :: (.rows (α := Int) 3 (List.map DoorR.row rs15)) :: (.own s14 204 5 (encs rs15)) :: (.blk b10 (enc (EnterR.mk Enter.zero Sl.nil Sl.nil)) 114) :: (.own Sl.nil 209 3 (encs ([] : List Word))) :: (.own Sl.nil 204 5 (encs ([] : List DoorR))) :: (.blk b1 (enc (EnterR.mk a0 s_a0_0 s_a0_1)) 114) :: L) (fun _ y157 => y157 = o156) ?_ ?_
  ·rcases (Bool.eq_false_or_eq_true y152).symm with hb158 | hb158
   ·replace H := ite_f hb158 H
    refine Lst.skip rfl rfl rfl hb158 rfl (by decide) ?_
    refine Lst.skip rfl rfl rfl hb158 rfl (by decide) ?_
    refine Lst.skip rfl rfl rfl hb158 rfl (by decide) ?_
    refine Lst.r (Ev.pickF rfl hb158 rfl) ?_
    refine Lst.nil ?_
    exact At.meet false (FLe.refl _) ⟨rfl, rfl, rfl, trivial⟩ rfl (some_inj H)
   replace H := ite_t hb158 H
   refine Lst.rG hb158 (Ev.loadA (i := 0) rfl rfl Try.isAgg114 Try.sizeOf114 (ch := enc (EnterR.mk r60.1 s62 s67)) (Enc.len _) (Get.here _)) ?_
   refine Lst.rG hb158 (Ev.loadA (i := 23) rfl rfl Try.isAgg114 Try.sizeOf114 (ch := enc (EnterR.mk Enter.zero Sl.nil Sl.nil)) (Enc.len _) (Get.here _)) ?_
   obtain ⟨r159, h160, H⟩ := bind_some H
   refine Lst.call1G rfl rfl rfl hb158 rfl (by decide) (vs := [.agg (enc (EnterR.mk r60.1 s62 s67)).toArray, .agg (enc (EnterR.mk Enter.zero Sl.nil Sl.nil)).toArray]) ⟨rfl, rfl, trivial⟩ Try.call68 (partref_SameEnter_sim h160 w0 _ _ _ (.refl _) fm64 (Rd.own (i := 4) rfl rfl rfl) (DoorR.rowAll (All.rowsHead (j := 3) rfl)) (Rd.own (i := 5) rfl rfl rfl) rfl Rd.nil All.nil Rd.nil) ?_
   refine Lst.r (Ev.pickT rfl hb158 rfl) ?_
   refine Lst.nil ?_
   exact At.meet r159 (FLe.refl _) ⟨rfl, rfl, rfl, trivial⟩ rfl (some_inj H)
  rintro F163 y157 hF164 hy
  subst hy
  refine Lst.as (e' := [(9, iv r3), (18, iv r60.2), (101, .bool y157)]) (L' := (.blk b74 (enc (EnterR.mk r60.1 s62 s67)) 114) :: (.own Sl.nil 209 3 (encs ([] : List Word))) :: (.own Sl.nil 204 5 (encs ([] : List DoorR))) :: (.rows (α := Int) 3 (List.map DoorR.row rs63)) :: (.own s62 204 5 (encs rs63)) :: (.own s67 209 3 (encs r60.1.Way)) :: (.blk b58 (enc (EnterR.mk r44.1 s46 s51)) 114) :: (.own Sl.nil 209 3 (encs ([] : List Word))) :: (.own Sl.nil 204 5 (encs ([] : List DoorR))) :: (.rows (α := Int) 3 (List.map DoorR.row rs47)) :: (.own s46 204 5 (encs rs47)) :: (.own s51 209 3 (encs r44.1.Way)) :: (.blk b42 (enc (EnterR.mk r28.1 s30 s35)) 114) :: (.own Sl.nil 209 3 (encs ([] : List Word))) :: (.own Sl.nil 204 5 (encs ([] : List DoorR))) :: (.rows (α := Int) 3 (List.map DoorR.row rs31)) :: (.own s30 204 5 (encs rs31)) :: (.own s35 209 3 (encs r28.1.Way)) :: (.blk b26 (enc (EnterR.mk r12.1 s14 s19)) 114) :: (.own Sl.nil 209 3 (encs ([] : List Word))) :: (.own Sl.nil 204 5 (encs ([] : List DoorR))) :: (.rows (α := Int) 3 (List.map DoorR.row rs15)) :: (.own s14 204 5 (encs rs15)) :: (.blk b10 (enc (EnterR.mk Enter.zero Sl.nil Sl.nil)) 114) :: (.own Sl.nil 209 3 (encs ([] : List Word))) :: (.own Sl.nil 204 5 (encs ([] : List DoorR))) :: (.blk b1 (enc (EnterR.mk a0 s_a0_0 s_a0_1)) 114) :: L) ⟨rfl, rfl, rfl, trivial⟩ rfl ?_
  replace H := HKo156
  refine Lst.r (Ev.move rfl) ?_
  obtain ⟨o165, H, HKo165⟩ := bind_some H
  refine Lst.join (σ := Bool) 4 (fun y166 => [(106, .bool y166)]) (fun y166 => (.blk b74 (enc (EnterR.mk r60.1 s62 s67)) 114) :: (.own Sl.nil 209 3 (encs ([] : List Word))) :: (.own Sl.nil 204 5 (encs ([] : List DoorR))) :: (.rows (α := Int) 3 (List.map DoorR.row rs63)) :: (.own s62 204 5 (encs rs63)) :: (.own s67 209 3 (encs r60.1.Way)) :: (.blk b58 (enc (EnterR.mk r44.1 s46 s51)) 114) :: (.own Sl.nil 209 3 (encs ([] : List Word))) :: (.own Sl.nil 204 5 (encs ([] : List DoorR))) :: (.rows (α := Int) 3 (List.map DoorR.row rs47)) :: (.own s46 204 5 (encs rs47)) :: (.own s51 209 3 (encs r44.1.Way)) :: (.blk b42 (enc (EnterR.mk r28.1 s30 s35)) 114) :: (.own Sl.nil 209 3 (encs ([] : List Word))) :: (.own Sl.nil 204 5 (encs ([] : List DoorR))) :: (.rows (α := Int) 3 (List.map DoorR.row rs31)) :: (.own s30 204 5 (encs rs31)) :: (.own s35 209 3 (encs r28.1.Way)) :: (.blk b26 (enc (EnterR.mk r12.1 s14 s19)) 114) :: (.own Sl.nil 209 3 (encs ([] : List Word))) :: (.own Sl.nil 204 5 (encs ([] : List DoorR))) :: (.rows (α := Int) 3 (List.map DoorR.row rs15)) :: (.own s14 204 5 (encs rs15)) :: (.blk b10 (enc (EnterR.mk Enter.zero Sl.nil Sl.nil)) 114) :: (.own Sl.nil 209 3 (encs ([] : List Word))) :: (.own Sl.nil 204 5 (encs ([] : List DoorR))) :: (.blk b1 (enc (EnterR.mk a0 s_a0_0 s_a0_1)) 114) :: L) (fun _ y166 => y166 = o165) ?_ ?_
  ·rcases (Bool.eq_false_or_eq_true y157).symm with hb167 | hb167
   ·replace H := ite_f hb167 H
    refine Lst.skip rfl rfl rfl hb167 rfl (by decide) ?_
    refine Lst.skip rfl rfl rfl hb167 rfl (by decide) ?_
    refine Lst.skip rfl rfl rfl hb167 rfl (by decide) ?_
    refine Lst.r (Ev.pickF rfl hb167 rfl) ?_
    refine Lst.nil ?_
    exact At.meet false (FLe.refl _) ⟨rfl, trivial⟩ rfl (some_inj H)
   replace H := ite_t hb167 H
   refine Lst.rG hb167 (Ev.move rfl) ?_
   refine Lst.rG hb167 (Ev.move rfl) ?_
   refine Lst.rG hb167 (Ev.eql rfl rfl) ?_
   refine Lst.r (Ev.pickT rfl hb167 rfl) ?_
   refine Lst.nil ?_
   exact At.meet (r60.2 == r3) (FLe.refl _) ⟨rfl, trivial⟩ rfl (some_inj H)
  rintro F168 y166 hF169 hy
  subst hy
  refine Lst.as (e' := [(106, .bool y166)]) (L' := (.blk b74 (enc (EnterR.mk r60.1 s62 s67)) 114) :: (.own Sl.nil 209 3 (encs ([] : List Word))) :: (.own Sl.nil 204 5 (encs ([] : List DoorR))) :: (.rows (α := Int) 3 (List.map DoorR.row rs63)) :: (.own s62 204 5 (encs rs63)) :: (.own s67 209 3 (encs r60.1.Way)) :: (.blk b58 (enc (EnterR.mk r44.1 s46 s51)) 114) :: (.own Sl.nil 209 3 (encs ([] : List Word))) :: (.own Sl.nil 204 5 (encs ([] : List DoorR))) :: (.rows (α := Int) 3 (List.map DoorR.row rs47)) :: (.own s46 204 5 (encs rs47)) :: (.own s51 209 3 (encs r44.1.Way)) :: (.blk b42 (enc (EnterR.mk r28.1 s30 s35)) 114) :: (.own Sl.nil 209 3 (encs ([] : List Word))) :: (.own Sl.nil 204 5 (encs ([] : List DoorR))) :: (.rows (α := Int) 3 (List.map DoorR.row rs31)) :: (.own s30 204 5 (encs rs31)) :: (.own s35 209 3 (encs r28.1.Way)) :: (.blk b26 (enc (EnterR.mk r12.1 s14 s19)) 114) :: (.own Sl.nil 209 3 (encs ([] : List Word))) :: (.own Sl.nil 204 5 (encs ([] : List DoorR))) :: (.rows (α := Int) 3 (List.map DoorR.row rs15)) :: (.own s14 204 5 (encs rs15)) :: (.blk b10 (enc (EnterR.mk Enter.zero Sl.nil Sl.nil)) 114) :: (.own Sl.nil 209 3 (encs ([] : List Word))) :: (.own Sl.nil 204 5 (encs ([] : List DoorR))) :: (.blk b1 (enc (EnterR.mk a0 s_a0_0 s_a0_1)) 114) :: L) ⟨rfl, trivial⟩ rfl ?_
  replace H := HKo165
  refine Lst.r (Ev.assign rfl) ?_
  refine Lst.nil ?_
  refine At.then ?_
  obtain rfl := some_inj H
  refine Cd.ret ?_
  refine At.then_ret ?_
  exact At.ret1 rfl (Res.tmp rfl) (FLe.trans (FLe.trans (FLe.trans (FLe.trans (FLe.trans (FLe.trans (FLe.trans (FLe.trans (FLe.trans hF22 hF38) hF54) hF70) hF126) hF141) hF150) hF155) hF164) hF169) (sc1 (sc1 (sc1 (sc1 (sc1 (sc1 (sc1 (sc1 (sc1 (sc1 (sc1 (sc1 (sc1 (sc1 (sc1 (sc1 (sc1 (sc1 (sc1 (sc1 (sc1 (sc1 (sc1 (sc1 (sc1 (sc1 (sc1 (.refl _)))))))))))))))))))))))))))) ⟨rfl, rfl⟩
 replace H := ite_f hb132 H
 refine Cd.condF rfl hb132 ?_
 refine Cd.skip ?_
 refine At.then ?_
 obtain ⟨o170, H, HKo170⟩ := andThen_some H
 refine Cd.join (σ := Unit) (fun (_ : Unit) => [(2, iv a2), (4, pv b1 0), (10, pv b10 0), (13, pv b42 0), (14, iv r28.2), (17, pv b74 0), (18, iv r60.2)]) (fun (_ : Unit) => (.blk b74 (enc (EnterR.mk r60.1 s62 s67)) 114) :: (.own Sl.nil 209 3 (encs ([] : List Word))) :: (.own Sl.nil 204 5 (encs ([] : List DoorR))) :: (.rows (α := Int) 3 (List.map DoorR.row rs63)) :: (.own s62 204 5 (encs rs63)) :: (.own s67 209 3 (encs r60.1.Way)) :: (.blk b58 (enc (EnterR.mk r44.1 s46 s51)) 114) :: (.own Sl.nil 209 3 (encs ([] : List Word))) :: (.own Sl.nil 204 5 (encs ([] : List DoorR))) :: (.rows (α := Int) 3 (List.map DoorR.row rs47)) :: (.own s46 204 5 (encs rs47)) :: (.own s51 209 3 (encs r44.1.Way)) :: (.blk b42 (enc (EnterR.mk r28.1 s30 s35)) 114) :: (.own Sl.nil 209 3 (encs ([] : List Word))) :: (.own Sl.nil 204 5 (encs ([] : List DoorR))) :: (.rows (α := Int) 3 (List.map DoorR.row rs31)) :: (.own s30 204 5 (encs rs31)) :: (.own s35 209 3 (encs r28.1.Way)) :: (.blk b26 (enc (EnterR.mk r12.1 s14 s19)) 114) :: (.own Sl.nil 209 3 (encs ([] : List Word))) :: (.own Sl.nil 204 5 (encs ([] : List DoorR))) :: (.rows (α := Int) 3 (List.map DoorR.row rs15)) :: (.own s14 204 5 (encs rs15)) :: (.blk b10 (enc (EnterR.mk Enter.zero Sl.nil Sl.nil)) 114) :: (.own Sl.nil 209 3 (encs ([] : List Word))) :: (.own Sl.nil 204 5 (encs ([] : List DoorR))) :: (.blk b1 (enc (EnterR.mk a0 s_a0_0 s_a0_1)) 114) :: L) (fun _ (_ : Unit) => .inl () = o170) ?_ ?_
 ·refine Cd.seq ?_
  refine Cd.region ?_
  refine Lst.r (Ev.move rfl) ?_
  refine Lst.r (Ev.lss rfl rfl) ?_
  refine Lst.r (Ev.move rfl) ?_
  obtain ⟨o171, H, HKo171⟩ := bind_some H
  refine Lst.join (σ := Bool) 6 (fun y172 => [(2, iv a2), (3, iv a3), (4, pv b1 0), (10, pv b10 0), (13, pv b42 0), (14, iv r28.2), (15, pv b58 0), (16, iv r44.2), (17, pv b74 0), (18, iv r60.2), (115, .bool y172)]) (fun y172 => (.blk b74 (enc (EnterR.mk r60.1 s62 s67)) 114) :: (.own Sl.nil 209 3 (encs ([] : List Word))) :: (.own Sl.nil 204 5 (encs ([] : List DoorR))) :: (.rows (α := Int) 3 (List.map DoorR.row rs63)) :: (.own s62 204 5 (encs rs63)) :: (.own s67 209 3 (encs r60.1.Way)) :: (.blk b58 (enc (EnterR.mk r44.1 s46 s51)) 114) :: (.own Sl.nil 209 3 (encs ([] : List Word))) :: (.own Sl.nil 204 5 (encs ([] : List DoorR))) :: (.rows (α := Int) 3 (List.map DoorR.row rs47)) :: (.own s46 204 5 (encs rs47)) :: (.own s51 209 3 (encs r44.1.Way)) :: (.blk b42 (enc (EnterR.mk r28.1 s30 s35)) 114) :: (.own Sl.nil 209 3 (encs ([] : List Word))) :: (.own Sl.nil 204 5 (encs ([] : List DoorR))) :: (.rows (α := Int) 3 (List.map DoorR.row rs31)) :: (.own s30 204 5 (encs rs31)) :: (.own s35 209 3 (encs r28.1.Way)) :: (.blk b26 (enc (EnterR.mk r12.1 s14 s19)) 114) :: (.own Sl.nil 209 3 (encs ([] : List Word))) :: (.own Sl.nil 204 5 (encs ([] : List DoorR))) :: (.rows (α := Int) 3 (List.map DoorR.row rs15)) :: (.own s14 204 5 (encs rs15)) :: (.blk b10 (enc (EnterR.mk Enter.zero Sl.nil Sl.nil)) 114) :: (.own Sl.nil 209 3 (encs ([] : List Word))) :: (.own Sl.nil 204 5 (encs ([] : List DoorR))) :: (.blk b1 (enc (EnterR.mk a0 s_a0_0 s_a0_1)) 114) :: L) (fun _ y172 => y172 = o171) ?_ ?_
  ·rcases Bool.eq_false_or_eq_true (decide (a3 < (0 : Int))) with hb173 | hb173
   ·replace H := ite_t hb173 H
    refine Lst.skip rfl rfl rfl hb173 rfl (by decide) ?_
    refine Lst.skip rfl rfl rfl hb173 rfl (by decide) ?_
    refine Lst.skip rfl rfl rfl hb173 rfl (by decide) ?_
    refine Lst.skip rfl rfl rfl hb173 rfl (by decide) ?_
    refine Lst.skip rfl rfl rfl hb173 rfl (by decide) ?_
    refine Lst.r (Ev.pickT rfl hb173 rfl) ?_
    refine Lst.nil ?_
    exact At.meet true (FLe.refl _) ⟨rfl, rfl, rfl, rfl, rfl, rfl, rfl, rfl, rfl, rfl, rfl, trivial⟩ rfl (some_inj H)
   replace H := ite_f hb173 H
   refine Lst.rG hb173 (Ev.move rfl) ?_
   refine Lst.rG hb173 (Ev.fieldAddr (off' := 1) rfl Try.runUnderlying114 rfl Try.sizeOf112 rfl rfl) ?_
   refine Lst.rG hb173 (Ev.load (i := 26) rfl rfl Try.isAgg112 (v := Sl.v s_a0_1) ((EnterR.get_Way (Get.here _)).off (by rfl))) ?_
   refine Lst.rG hb173 (Ev.lenS (α := Word) (xs := a0.Way) (by decide) rfl rfl Try.runUnderlying112 (hs_a0_1.mono (FLe.trans (FLe.trans (FLe.trans (FLe.trans hF22 hF38) hF54) hF70) hF126) (sc8 (sc8 (sc8 (sc2 (sc1 hM))))))) ?_
   refine Lst.rG hb173 (Ev.geq rfl rfl) ?_
   refine Lst.r (Ev.pickF rfl hb173 rfl) ?_
   refine Lst.nil ?_
   exact At.meet (decide (a3 ≥ (a0.Way.length : Int))) (FLe.refl _) ⟨rfl, rfl, rfl, rfl, rfl, rfl, rfl, rfl, rfl, rfl, rfl, trivial⟩ rfl (some_inj H)
  rintro F174 y172 hF175 hy
  subst hy
  refine Lst.as (e' := [(2, iv a2), (3, iv a3), (4, pv b1 0), (10, pv b10 0), (13, pv b42 0), (14, iv r28.2), (15, pv b58 0), (16, iv r44.2), (17, pv b74 0), (18, iv r60.2), (115, .bool y172)]) (L' := (.blk b74 (enc (EnterR.mk r60.1 s62 s67)) 114) :: (.own Sl.nil 209 3 (encs ([] : List Word))) :: (.own Sl.nil 204 5 (encs ([] : List DoorR))) :: (.rows (α := Int) 3 (List.map DoorR.row rs63)) :: (.own s62 204 5 (encs rs63)) :: (.own s67 209 3 (encs r60.1.Way)) :: (.blk b58 (enc (EnterR.mk r44.1 s46 s51)) 114) :: (.own Sl.nil 209 3 (encs ([] : List Word))) :: (.own Sl.nil 204 5 (encs ([] : List DoorR))) :: (.rows (α := Int) 3 (List.map DoorR.row rs47)) :: (.own s46 204 5 (encs rs47)) :: (.own s51 209 3 (encs r44.1.Way)) :: (.blk b42 (enc (EnterR.mk r28.1 s30 s35)) 114) :: (.own Sl.nil 209 3 (encs ([] : List Word))) :: (.own Sl.nil 204 5 (encs ([] : List DoorR))) :: (.rows (α := Int) 3 (List.map DoorR.row rs31)) :: (.own s30 204 5 (encs rs31)) :: (.own s35 209 3 (encs r28.1.Way)) :: (.blk b26 (enc (EnterR.mk r12.1 s14 s19)) 114) :: (.own Sl.nil 209 3 (encs ([] : List Word))) :: (.own Sl.nil 204 5 (encs ([] : List DoorR))) :: (.rows (α := Int) 3 (List.map DoorR.row rs15)) :: (.own s14 204 5 (encs rs15)) :: (.blk b10 (enc (EnterR.mk Enter.zero Sl.nil Sl.nil)) 114) :: (.own Sl.nil 209 3 (encs ([] : List Word))) :: (.own Sl.nil 204 5 (encs ([] : List DoorR))) :: (.blk b1 (enc (EnterR.mk a0 s_a0_0 s_a0_1)) 114) :: L) ⟨rfl, rfl, rfl, rfl, rfl, rfl, rfl, rfl, rfl, rfl, rfl, trivial⟩ rfl ?_
  replace H := HKo171
  refine Lst.nil ?_
  refine At.then ?_
  rcases Bool.eq_false_or_eq_true y172 with hb176 | hb176
  ·replace H := ite_t hb176 H
   refine Cd.condT rfl hb176 ?_
   refine Cd.seq ?_
   refine Cd.region ?_
   refine Lst.r (Ev.loadA (i := 6) rfl rfl Try.isAgg114 Try.sizeOf114 (ch := enc (EnterR.mk r44.1 s46 s51)) (Enc.len _) (Get.here _)) ?_
   refine Lst.r (Ev.loadA (i := 23) rfl rfl Try.isAgg114 Try.sizeOf114 (ch := enc (EnterR.mk Enter.zero Sl.nil Sl.nil)) (Enc.len _) (Get.here _)) ?_
   obtain ⟨r177, h178, H⟩ := bind_some H
   refine Lst.call1 rfl rfl (by decide) (vs := [.agg (enc (EnterR.mk r44.1 s46 s51)).toArray, .agg (enc (EnterR.mk Enter.zero Sl.nil Sl.nil)).toArray]) ⟨rfl, rfl, trivial⟩ Try.call68 (partref_SameEnter_sim h178 w0 _ _ _ (.refl _) fm48 (Rd.own (i := 10) rfl rfl rfl) (DoorR.rowAll (All.rowsHead (j := 9) rfl)) (Rd.own (i := 11) rfl rfl rfl) rfl Rd.nil All.nil Rd.nil) ?_
   refine Lst.r (Ev.not rfl) ?_
   refine Lst.r (Ev.move rfl) ?_
   obtain ⟨o181, H, HKo181⟩ := bind_some H
   refine Lst.join (σ := Bool) 3 (fun y182 => [(2, iv a2), (4, pv b1 0), (10, pv b10 0), (13, pv b42 0), (14, iv r28.2), (17, pv b74 0), (18, iv r60.2), (123, .bool y182)]) (fun y182 => (.blk b74 (enc (EnterR.mk r60.1 s62 s67)) 114) :: (.own Sl.nil 209 3 (encs ([] : List Word))) :: (.own Sl.nil 204 5 (encs ([] : List DoorR))) :: (.rows (α := Int) 3 (List.map DoorR.row rs63)) :: (.own s62 204 5 (encs rs63)) :: (.own s67 209 3 (encs r60.1.Way)) :: (.blk b58 (enc (EnterR.mk r44.1 s46 s51)) 114) :: (.own Sl.nil 209 3 (encs ([] : List Word))) :: (.own Sl.nil 204 5 (encs ([] : List DoorR))) :: (.rows (α := Int) 3 (List.map DoorR.row rs47)) :: (.own s46 204 5 (encs rs47)) :: (.own s51 209 3 (encs r44.1.Way)) :: (.blk b42 (enc (EnterR.mk r28.1 s30 s35)) 114) :: (.own Sl.nil 209 3 (encs ([] : List Word))) :: (.own Sl.nil 204 5 (encs ([] : List DoorR))) :: (.rows (α := Int) 3 (List.map DoorR.row rs31)) :: (.own s30 204 5 (encs rs31)) :: (.own s35 209 3 (encs r28.1.Way)) :: (.blk b26 (enc (EnterR.mk r12.1 s14 s19)) 114) :: (.own Sl.nil 209 3 (encs ([] : List Word))) :: (.own Sl.nil 204 5 (encs ([] : List DoorR))) :: (.rows (α := Int) 3 (List.map DoorR.row rs15)) :: (.own s14 204 5 (encs rs15)) :: (.blk b10 (enc (EnterR.mk Enter.zero Sl.nil Sl.nil)) 114) :: (.own Sl.nil 209 3 (encs ([] : List Word))) :: (.own Sl.nil 204 5 (encs ([] : List DoorR))) :: (.blk b1 (enc (EnterR.mk a0 s_a0_0 s_a0_1)) 114) :: L) (fun _ y182 => y182 = o181) ?_ ?_
   ·rcases Bool.eq_false_or_eq_true (!r177) with hb183 | hb183
    ·replace H := ite_t hb183 H
     refine Lst.skip rfl rfl rfl hb183 rfl (by decide) ?_
     refine Lst.skip rfl rfl rfl hb183 rfl (by decide) ?_
     refine Lst.r (Ev.pickT rfl hb183 rfl) ?_
     refine Lst.nil ?_
     exact At.meet true (FLe.refl _) ⟨rfl, rfl, rfl, rfl, rfl, rfl, rfl, rfl, trivial⟩ rfl (some_inj H)
    replace H := ite_f hb183 H
    refine Lst.rG hb183 (Ev.move rfl) ?_
    refine Lst.rG hb183 (Ev.neq rfl rfl) ?_
    refine Lst.r (Ev.pickF rfl hb183 rfl) ?_
    refine Lst.nil ?_
    exact At.meet (r44.2 != (6 : Int)) (FLe.refl _) ⟨rfl, rfl, rfl, rfl, rfl, rfl, rfl, rfl, trivial⟩ rfl (some_inj H)
   rintro F184 y182 hF185 hy
   subst hy
   refine Lst.as (e' := [(2, iv a2), (4, pv b1 0), (10, pv b10 0), (13, pv b42 0), (14, iv r28.2), (17, pv b74 0), (18, iv r60.2), (123, .bool y182)]) (L' := (.blk b74 (enc (EnterR.mk r60.1 s62 s67)) 114) :: (.own Sl.nil 209 3 (encs ([] : List Word))) :: (.own Sl.nil 204 5 (encs ([] : List DoorR))) :: (.rows (α := Int) 3 (List.map DoorR.row rs63)) :: (.own s62 204 5 (encs rs63)) :: (.own s67 209 3 (encs r60.1.Way)) :: (.blk b58 (enc (EnterR.mk r44.1 s46 s51)) 114) :: (.own Sl.nil 209 3 (encs ([] : List Word))) :: (.own Sl.nil 204 5 (encs ([] : List DoorR))) :: (.rows (α := Int) 3 (List.map DoorR.row rs47)) :: (.own s46 204 5 (encs rs47)) :: (.own s51 209 3 (encs r44.1.Way)) :: (.blk b42 (enc (EnterR.mk r28.1 s30 s35)) 114) :: (.own Sl.nil 209 3 (encs ([] : List Word))) :: (.own Sl.nil 204 5 (encs ([] : List DoorR))) :: (.rows (α := Int) 3 (List.map DoorR.row rs31)) :: (.own s30 204 5 (encs rs31)) :: (.own s35 209 3 (encs r28.1.Way)) :: (.blk b26 (enc (EnterR.mk r12.1 s14 s19)) 114) :: (.own Sl.nil 209 3 (encs ([] : List Word))) :: (.own Sl.nil 204 5 (encs ([] : List DoorR))) :: (.rows (α := Int) 3 (List.map DoorR.row rs15)) :: (.own s14 204 5 (encs rs15)) :: (.blk b10 (enc (EnterR.mk Enter.zero Sl.nil Sl.nil)) 114) :: (.own Sl.nil 209 3 (encs ([] : List Word))) :: (.own Sl.nil 204 5 (encs ([] : List DoorR))) :: (.blk b1 (enc (EnterR.mk a0 s_a0_0 s_a0_1)) 114) :: L) ⟨rfl, rfl, rfl, rfl, rfl, rfl, rfl, rfl, trivial⟩ rfl ?_
   replace H := HKo181
   refine Lst.nil ?_
   refine At.then ?_
   rcases Bool.eq_false_or_eq_true y182 with hb186 | hb186
   ·replace H := ite_t hb186 H
    refine Cd.condT rfl hb186 ?_
    refine Cd.seq ?_
    refine Cd.region ?_
    refine Lst.r (Ev.assign rfl) ?_
    refine Lst.nil ?_
    refine At.then ?_
    obtain rfl := some_inj H
    replace H := HKo170
    obtain rfl := some_inj H
    refine Cd.ret ?_
    refine At.then_ret ?_
    exact At.ret1 rfl (Res.tmp rfl) (FLe.trans (FLe.trans (FLe.trans (FLe.trans (FLe.trans (FLe.trans hF22 hF38) hF54) hF70) hF126) hF175) hF185) (sc1 (sc1 (sc1 (sc1 (sc1 (sc1 (sc1 (sc1 (sc1 (sc1 (sc1 (sc1 (sc1 (sc1 (sc1 (sc1 (sc1 (sc1 (sc1 (sc1 (sc1 (sc1 (sc1 (sc1 (sc1 (sc1 (sc1 (.refl _)))))))))))))))))))))))))))) ⟨rfl, rfl⟩
   replace H := ite_f hb186 H
   refine Cd.condF rfl hb186 ?_
   refine Cd.skip ?_
   exact At.meet () (FLe.trans hF175 hF185) ⟨rfl, rfl, rfl, rfl, rfl, rfl, rfl, trivial⟩ rfl (some_inj H)
  replace H := ite_f hb176 H
  refine Cd.condF rfl hb176 ?_
  refine Cd.seq ?_
  obtain ⟨r187, h188, H⟩ := bind_some H
  obtain ⟨o205, h206, H⟩ := Let_some H
  refine Cd.headMeet (σ := Sl × (List Door) × (List DoorR) × Sl × (List Word)) 4 (fun (s199, l200, rs201, s203, l204) => [(2, iv a2), (4, pv b1 0), (10, pv b10 0), (13, pv b42 0), (14, iv r28.2), (16, iv r44.2), (17, pv b74 0), (18, iv r60.2), (124, .agg (enc (EnterR.mk r44.1 s46 s51)).toArray), (127, .agg (enc (EnterR.mk ({ r187 with Doors := l200, Way := l204 } : Enter) s199 s203)).toArray)]) (fun (s199, l200, rs201, s203, l204) => (.rows (α := Int) 3 (List.map DoorR.row rs201)) :: (.own s199 204 5 (encs rs201)) :: (.own s203 209 3 (encs l204)) :: (.blk b74 (enc (EnterR.mk r60.1 s62 s67)) 114) :: (.own Sl.nil 209 3 (encs ([] : List Word))) :: (.own Sl.nil 204 5 (encs ([] : List DoorR))) :: (.rows (α := Int) 3 (List.map DoorR.row rs63)) :: (.own s62 204 5 (encs rs63)) :: (.own s67 209 3 (encs r60.1.Way)) :: (.blk b58 (enc (EnterR.mk r44.1 s46 s51)) 114) :: (.own Sl.nil 209 3 (encs ([] : List Word))) :: (.own Sl.nil 204 5 (encs ([] : List DoorR))) :: (.rows (α := Int) 3 (List.map DoorR.row rs47)) :: (.own s46 204 5 (encs rs47)) :: (.own s51 209 3 (encs r44.1.Way)) :: (.blk b42 (enc (EnterR.mk r28.1 s30 s35)) 114) :: (.own Sl.nil 209 3 (encs ([] : List Word))) :: (.own Sl.nil 204 5 (encs ([] : List DoorR))) :: (.rows (α := Int) 3 (List.map DoorR.row rs31)) :: (.own s30 204 5 (encs rs31)) :: (.own s35 209 3 (encs r28.1.Way)) :: (.blk b26 (enc (EnterR.mk r12.1 s14 s19)) 114) :: (.own Sl.nil 209 3 (encs ([] : List Word))) :: (.own Sl.nil 204 5 (encs ([] : List DoorR))) :: (.rows (α := Int) 3 (List.map DoorR.row rs15)) :: (.own s14 204 5 (encs rs15)) :: (.blk b10 (enc (EnterR.mk Enter.zero Sl.nil Sl.nil)) 114) :: (.own Sl.nil 209 3 (encs ([] : List Word))) :: (.own Sl.nil 204 5 (encs ([] : List DoorR))) :: (.blk b1 (enc (EnterR.mk a0 s_a0_0 s_a0_1)) 114) :: L) (fun Fx (s199, l200, rs201, s203, l204) => (l200, l204) = o205 ∧ rs201.map DoorR.v = l200) (by kernel_rfl) (by kernel_rfl) (behind_sink (by kernel_rfl) (by kernel_rfl) (by kernel_rfl)) (by kernel_rfl) (fun hsel hlt => ?_) ?_
  ·refine HdJ.keep (fun w => St w0 F174 ((.blk b74 (enc (EnterR.mk r60.1 s62 s67)) 114) :: (.own Sl.nil 209 3 (encs ([] : List Word))) :: (.own Sl.nil 204 5 (encs ([] : List DoorR))) :: (.rows (α := Int) 3 (List.map DoorR.row rs63)) :: (.own s62 204 5 (encs rs63)) :: (.own s67 209 3 (encs r60.1.Way)) :: (.blk b58 (enc (EnterR.mk r44.1 s46 s51)) 114) :: (.own Sl.nil 209 3 (encs ([] : List Word))) :: (.own Sl.nil 204 5 (encs ([] : List DoorR))) :: (.rows (α := Int) 3 (List.map DoorR.row rs47)) :: (.own s46 204 5 (encs rs47)) :: (.own s51 209 3 (encs r44.1.Way)) :: (.blk b42 (enc (EnterR.mk r28.1 s30 s35)) 114) :: (.own Sl.nil 209 3 (encs ([] : List Word))) :: (.own Sl.nil 204 5 (encs ([] : List DoorR))) :: (.rows (α := Int) 3 (List.map DoorR.row rs31)) :: (.own s30 204 5 (encs rs31)) :: (.own s35 209 3 (encs r28.1.Way)) :: (.blk b26 (enc (EnterR.mk r12.1 s14 s19)) 114) :: (.own Sl.nil 209 3 (encs ([] : List Word))) :: (.own Sl.nil 204 5 (encs ([] : List DoorR))) :: (.rows (α := Int) 3 (List.map DoorR.row rs15)) :: (.own s14 204 5 (encs rs15)) :: (.blk b10 (enc (EnterR.mk Enter.zero Sl.nil Sl.nil)) 114) :: (.own Sl.nil 209 3 (encs ([] : List Word))) :: (.own Sl.nil 204 5 (encs ([] : List DoorR))) :: (.blk b1 (enc (EnterR.mk a0 s_a0_0 s_a0_1)) 114) :: L) w) (fun w h => trivial) ?_
   refine HdJ.tk hsel hlt 0 (fun w h => h.sublist (sk1 (sk1 (sk1 (sk1 (sk1 (sk1 (sk1 (sk1 (sk1 (sk1 (sk1 (sk1 (sk1 (sk1 (sk1 (sk1 (sk1 (sk1 (sk1 (sk1 (sk1 (sk1 (sk1 (sk1 (sk1 (sk1 (sk1 (.refl _))))))))))))))))))))))))))))) rfl (Ev.loadA (i := 6) rfl rfl Try.isAgg114 Try.sizeOf114 (ch := enc (EnterR.mk r44.1 s46 s51)) (Enc.len _) (Get.here _)) ?_
   refine HdJ.tk hsel hlt 1 (fun w h => h.sublist (sk1 (sk1 (sk1 (sk1 (sk1 (sk1 (sk1 (sk1 (sk1 (sk1 (sk1 (sk1 (sk1 (sk1 (sk1 (sk1 (sk1 (sk1 (sk1 (sk1 (sk1 (sk1 (sk1 (sk1 (sk1 (sk1 (sk1 (.refl _))))))))))))))))))))))))))))) rfl (Ev.loadA (i := 26) rfl rfl Try.isAgg114 Try.sizeOf114 (ch := enc (EnterR.mk a0 s_a0_0 s_a0_1)) (Enc.len _) (Get.here _)) ?_
   refine HdJ.tk hsel hlt 2 (fun w h => h.sublist (sk1 (sk1 (sk1 (sk1 (sk1 (sk1 (sk1 (sk1 (sk1 (sk1 (sk1 (sk1 (sk1 (sk1 (sk1 (sk1 (sk1 (sk1 (sk1 (sk1 (sk1 (sk1 (sk1 (sk1 (sk1 (sk1 (sk1 (.refl _))))))))))))))))))))))))))))) rfl (Ev.move rfl) ?_
   refine HdJ.step [3] (by kernel_rfl) rfl ?_
   refine HdStep.c (fun inv => ?_) ?_
   ·refine Lst.call rfl rfl (by decide) (vs := [.agg (enc (EnterR.mk a0 s_a0_0 s_a0_1)).toArray, iv a3]) ⟨rfl, rfl, trivial⟩ Try.call70 (partref_EnterTake_sim h188 w0 _ M _ (sc8 (sc8 (sc8 (sc2 (sc1 hM))))) hm_a0_0 (hs_a0_0.mono (FLe.trans (FLe.trans (FLe.trans (FLe.trans (FLe.trans hF22 hF38) hF54) hF70) hF126) hF175) (.refl _)) (All.monoDoor ha_a0_0 (FLe.trans (FLe.trans (FLe.trans (FLe.trans (FLe.trans hF22 hF38) hF54) hF70) hF126) hF175) (.refl _)) (hs_a0_1.mono (FLe.trans (FLe.trans (FLe.trans (FLe.trans (FLe.trans hF22 hF38) hF54) hF70) hF126) hF175) (.refl _))) (fun F211 L' v hF212 hv => ?_)
    obtain ⟨s207, rs208, s210, rfl, rfl, fm209⟩ := hv
    refine Lst.nil ?_
    refine At.hd inv (fun w h => (h.weaken hF212).sublist (sc1 (sc1 (sc1 (sk1 (sk1 (sk1 (sk1 (sk1 (sk1 (sk1 (sk1 (sk1 (sk1 (sk1 (sk1 (sk1 (sk1 (sk1 (sk1 (sk1 (sk1 (sk1 (sk1 (sk1 (sk1 (sk1 (sk1 (sk1 (sk1 (sk1 (.refl _)))))))))))))))))))))))))))))))) ?_
    refine HdJ.done (by kernel_rfl) ?_
    exact At.meetN (s207, r187.Doors, rs208, s210, r187.Way) hF212 ⟨rfl, rfl, rfl, rfl, rfl, rfl, rfl, rfl, rfl, rfl, trivial⟩ rfl ⟨h206, fm209⟩
   exact trivial
  rintro F213 ⟨s199, l200, rs201, s203, l204⟩ hF214 ⟨hy, fm202⟩
  subst hy
  refine Lst.as (e' := [(2, iv a2), (4, pv b1 0), (10, pv b10 0), (13, pv b42 0), (14, iv r28.2), (16, iv r44.2), (17, pv b74 0), (18, iv r60.2), (124, .agg (enc (EnterR.mk r44.1 s46 s51)).toArray), (127, .agg (enc (EnterR.mk ({ r187 with Doors := l200, Way := l204 } : Enter) s199 s203)).toArray)]) (L' := (.rows (α := Int) 3 (List.map DoorR.row rs201)) :: (.own s199 204 5 (encs rs201)) :: (.own s203 209 3 (encs l204)) :: (.blk b74 (enc (EnterR.mk r60.1 s62 s67)) 114) :: (.own Sl.nil 209 3 (encs ([] : List Word))) :: (.own Sl.nil 204 5 (encs ([] : List DoorR))) :: (.rows (α := Int) 3 (List.map DoorR.row rs63)) :: (.own s62 204 5 (encs rs63)) :: (.own s67 209 3 (encs r60.1.Way)) :: (.blk b58 (enc (EnterR.mk r44.1 s46 s51)) 114) :: (.own Sl.nil 209 3 (encs ([] : List Word))) :: (.own Sl.nil 204 5 (encs ([] : List DoorR))) :: (.rows (α := Int) 3 (List.map DoorR.row rs47)) :: (.own s46 204 5 (encs rs47)) :: (.own s51 209 3 (encs r44.1.Way)) :: (.blk b42 (enc (EnterR.mk r28.1 s30 s35)) 114) :: (.own Sl.nil 209 3 (encs ([] : List Word))) :: (.own Sl.nil 204 5 (encs ([] : List DoorR))) :: (.rows (α := Int) 3 (List.map DoorR.row rs31)) :: (.own s30 204 5 (encs rs31)) :: (.own s35 209 3 (encs r28.1.Way)) :: (.blk b26 (enc (EnterR.mk r12.1 s14 s19)) 114) :: (.own Sl.nil 209 3 (encs ([] : List Word))) :: (.own Sl.nil 204 5 (encs ([] : List DoorR))) :: (.rows (α := Int) 3 (List.map DoorR.row rs15)) :: (.own s14 204 5 (encs rs15)) :: (.blk b10 (enc (EnterR.mk Enter.zero Sl.nil Sl.nil)) 114) :: (.own Sl.nil 209 3 (encs ([] : List Word))) :: (.own Sl.nil 204 5 (encs ([] : List DoorR))) :: (.blk b1 (enc (EnterR.mk a0 s_a0_0 s_a0_1)) 114) :: L) ⟨rfl, rfl, rfl, rfl, rfl, rfl, rfl, rfl, rfl, rfl, trivial⟩ rfl ?_
  obtain ⟨r215, h216, H⟩ := bind_some H
  refine Lst.call1 rfl rfl (by decide) (vs := [.agg (enc (EnterR.mk r44.1 s46 s51)).toArray, .agg (enc (EnterR.mk ({ r187 with Doors := l200, Way := l204 } : Enter) s199 s203)).toArray]) ⟨rfl, rfl, trivial⟩ Try.call68 (partref_SameEnter_sim h216 w0 _ _ _ (.refl _) fm48 (Rd.own (i := 13) rfl rfl rfl) (DoorR.rowAll (All.rowsHead (j := 12) rfl)) (Rd.own (i := 14) rfl rfl rfl) fm202 (Rd.own (i := 1) rfl rfl rfl) (DoorR.rowAll (All.rowsHead (j := 0) rfl)) (Rd.own (i := 2) rfl rfl rfl)) ?_
  refine Lst.r (Ev.not rfl) ?_
  refine Lst.r (Ev.move rfl) ?_
  obtain ⟨o219, H, HKo219⟩ := bind_some H
  refine Lst.join (σ := Bool) 3 (fun y220 => [(2, iv a2), (4, pv b1 0), (10, pv b10 0), (13, pv b42 0), (14, iv r28.2), (17, pv b74 0), (18, iv r60.2), (133, .bool y220)]) (fun y220 => (.rows (α := Int) 3 (List.map DoorR.row rs201)) :: (.own s199 204 5 (encs rs201)) :: (.own s203 209 3 (encs l204)) :: (.blk b74 (enc (EnterR.mk r60.1 s62 s67)) 114) :: (.own Sl.nil 209 3 (encs ([] : List Word))) :: (.own Sl.nil 204 5 (encs ([] : List DoorR))) :: (.rows (α := Int) 3 (List.map DoorR.row rs63)) :: (.own s62 204 5 (encs rs63)) :: (.own s67 209 3 (encs r60.1.Way)) :: (.blk b58 (enc (EnterR.mk r44.1 s46 s51)) 114) :: (.own Sl.nil 209 3 (encs ([] : List Word))) :: (.own Sl.nil 204 5 (encs ([] : List DoorR))) :: (.rows (α := Int) 3 (List.map DoorR.row rs47)) :: (.own s46 204 5 (encs rs47)) :: (.own s51 209 3 (encs r44.1.Way)) :: (.blk b42 (enc (EnterR.mk r28.1 s30 s35)) 114) :: (.own Sl.nil 209 3 (encs ([] : List Word))) :: (.own Sl.nil 204 5 (encs ([] : List DoorR))) :: (.rows (α := Int) 3 (List.map DoorR.row rs31)) :: (.own s30 204 5 (encs rs31)) :: (.own s35 209 3 (encs r28.1.Way)) :: (.blk b26 (enc (EnterR.mk r12.1 s14 s19)) 114) :: (.own Sl.nil 209 3 (encs ([] : List Word))) :: (.own Sl.nil 204 5 (encs ([] : List DoorR))) :: (.rows (α := Int) 3 (List.map DoorR.row rs15)) :: (.own s14 204 5 (encs rs15)) :: (.blk b10 (enc (EnterR.mk Enter.zero Sl.nil Sl.nil)) 114) :: (.own Sl.nil 209 3 (encs ([] : List Word))) :: (.own Sl.nil 204 5 (encs ([] : List DoorR))) :: (.blk b1 (enc (EnterR.mk a0 s_a0_0 s_a0_1)) 114) :: L) (fun _ y220 => y220 = o219) ?_ ?_
  ·rcases Bool.eq_false_or_eq_true (!r215) with hb221 | hb221
   ·replace H := ite_t hb221 H
    refine Lst.skip rfl rfl rfl hb221 rfl (by decide) ?_
    refine Lst.skip rfl rfl rfl hb221 rfl (by decide) ?_
    refine Lst.r (Ev.pickT rfl hb221 rfl) ?_
    refine Lst.nil ?_
    exact At.meet true (FLe.refl _) ⟨rfl, rfl, rfl, rfl, rfl, rfl, rfl, rfl, trivial⟩ rfl (some_inj H)
   replace H := ite_f hb221 H
   refine Lst.rG hb221 (Ev.move rfl) ?_
   refine Lst.rG hb221 (Ev.neq rfl rfl) ?_
   refine Lst.r (Ev.pickF rfl hb221 rfl) ?_
   refine Lst.nil ?_
   exact At.meet (r44.2 != (0 : Int)) (FLe.refl _) ⟨rfl, rfl, rfl, rfl, rfl, rfl, rfl, rfl, trivial⟩ rfl (some_inj H)
  rintro F222 y220 hF223 hy
  subst hy
  refine Lst.as (e' := [(2, iv a2), (4, pv b1 0), (10, pv b10 0), (13, pv b42 0), (14, iv r28.2), (17, pv b74 0), (18, iv r60.2), (133, .bool y220)]) (L' := (.rows (α := Int) 3 (List.map DoorR.row rs201)) :: (.own s199 204 5 (encs rs201)) :: (.own s203 209 3 (encs l204)) :: (.blk b74 (enc (EnterR.mk r60.1 s62 s67)) 114) :: (.own Sl.nil 209 3 (encs ([] : List Word))) :: (.own Sl.nil 204 5 (encs ([] : List DoorR))) :: (.rows (α := Int) 3 (List.map DoorR.row rs63)) :: (.own s62 204 5 (encs rs63)) :: (.own s67 209 3 (encs r60.1.Way)) :: (.blk b58 (enc (EnterR.mk r44.1 s46 s51)) 114) :: (.own Sl.nil 209 3 (encs ([] : List Word))) :: (.own Sl.nil 204 5 (encs ([] : List DoorR))) :: (.rows (α := Int) 3 (List.map DoorR.row rs47)) :: (.own s46 204 5 (encs rs47)) :: (.own s51 209 3 (encs r44.1.Way)) :: (.blk b42 (enc (EnterR.mk r28.1 s30 s35)) 114) :: (.own Sl.nil 209 3 (encs ([] : List Word))) :: (.own Sl.nil 204 5 (encs ([] : List DoorR))) :: (.rows (α := Int) 3 (List.map DoorR.row rs31)) :: (.own s30 204 5 (encs rs31)) :: (.own s35 209 3 (encs r28.1.Way)) :: (.blk b26 (enc (EnterR.mk r12.1 s14 s19)) 114) :: (.own Sl.nil 209 3 (encs ([] : List Word))) :: (.own Sl.nil 204 5 (encs ([] : List DoorR))) :: (.rows (α := Int) 3 (List.map DoorR.row rs15)) :: (.own s14 204 5 (encs rs15)) :: (.blk b10 (enc (EnterR.mk Enter.zero Sl.nil Sl.nil)) 114) :: (.own Sl.nil 209 3 (encs ([] : List Word))) :: (.own Sl.nil 204 5 (encs ([] : List DoorR))) :: (.blk b1 (enc (EnterR.mk a0 s_a0_0 s_a0_1)) 114) :: L) ⟨rfl, rfl, rfl, rfl, rfl, rfl, rfl, rfl, trivial⟩ rfl ?_
  replace H := HKo219
  refine Lst.nil ?_
  refine At.then ?_
  rcases Bool.eq_false_or_eq_true y220 with hb224 | hb224
  ·replace H := ite_t hb224 H
   refine Cd.condT rfl hb224 ?_
   refine Cd.seq ?_
   refine Cd.region ?_
   refine Lst.r (Ev.assign rfl) ?_
   refine Lst.nil ?_
   refine At.then ?_
   obtain rfl := some_inj H
   replace H := HKo170
   obtain rfl := some_inj H
   refine Cd.ret ?_
   refine At.then_ret ?_
   exact At.ret1 rfl (Res.tmp rfl) (FLe.trans (FLe.trans (FLe.trans (FLe.trans (FLe.trans (FLe.trans (FLe.trans hF22 hF38) hF54) hF70) hF126) hF175) hF214) hF223) (sc1 (sc1 (sc1 (sc1 (sc1 (sc1 (sc1 (sc1 (sc1 (sc1 (sc1 (sc1 (sc1 (sc1 (sc1 (sc1 (sc1 (sc1 (sc1 (sc1 (sc1 (sc1 (sc1 (sc1 (sc1 (sc1 (sc1 (sc1 (sc1 (sc1 (.refl _))))))))))))))))))))))))))))))) ⟨rfl, rfl⟩
  replace H := ite_f hb224 H
  refine Cd.condF rfl hb224 ?_
  refine Cd.skip ?_
  refine At.less (L' := (.blk b74 (enc (EnterR.mk r60.1 s62 s67)) 114) :: (.own Sl.nil 209 3 (encs ([] : List Word))) :: (.own Sl.nil 204 5 (encs ([] : List DoorR))) :: (.rows (α := Int) 3 (List.map DoorR.row rs63)) :: (.own s62 204 5 (encs rs63)) :: (.own s67 209 3 (encs r60.1.Way)) :: (.blk b58 (enc (EnterR.mk r44.1 s46 s51)) 114) :: (.own Sl.nil 209 3 (encs ([] : List Word))) :: (.own Sl.nil 204 5 (encs ([] : List DoorR))) :: (.rows (α := Int) 3 (List.map DoorR.row rs47)) :: (.own s46 204 5 (encs rs47)) :: (.own s51 209 3 (encs r44.1.Way)) :: (.blk b42 (enc (EnterR.mk r28.1 s30 s35)) 114) :: (.own Sl.nil 209 3 (encs ([] : List Word))) :: (.own Sl.nil 204 5 (encs ([] : List DoorR))) :: (.rows (α := Int) 3 (List.map DoorR.row rs31)) :: (.own s30 204 5 (encs rs31)) :: (.own s35 209 3 (encs r28.1.Way)) :: (.blk b26 (enc (EnterR.mk r12.1 s14 s19)) 114) :: (.own Sl.nil 209 3 (encs ([] : List Word))) :: (.own Sl.nil 204 5 (encs ([] : List DoorR))) :: (.rows (α := Int) 3 (List.map DoorR.row rs15)) :: (.own s14 204 5 (encs rs15)) :: (.blk b10 (enc (EnterR.mk Enter.zero Sl.nil Sl.nil)) 114) :: (.own Sl.nil 209 3 (encs ([] : List Word))) :: (.own Sl.nil 204 5 (encs ([] : List DoorR))) :: (.blk b1 (enc (EnterR.mk a0 s_a0_0 s_a0_1)) 114) :: L) (sc1 (sc1 (sc1 (sk1 (sk1 (sk1 (sk1 (sk1 (sk1 (sk1 (sk1 (sk1 (sk1 (sk1 (sk1 (sk1 (sk1 (sk1 (sk1 (sk1 (sk1 (sk1 (sk1 (sk1 (sk1 (sk1 (sk1 (sk1 (sk1 (sk1 (.refl _))))))))))))))))))))))))))))))) ?_
  exact At.meet () (FLe.trans (FLe.trans hF175 hF214) hF223) ⟨rfl, rfl, rfl, rfl, rfl, rfl, rfl, trivial⟩ rfl (some_inj H)
 rintro F225 _u hF226 hy
 subst hy
 refine Cd.as (e' := [(2, iv a2), (4, pv b1 0), (10, pv b10 0), (13, pv b42 0), (14, iv r28.2), (17, pv b74 0), (18, iv r60.2)]) (L' := (.blk b74 (enc (EnterR.mk r60.1 s62 s67)) 114) :: (.own Sl.nil 209 3 (encs ([] : List Word))) :: (.own Sl.nil 204 5 (encs ([] : List DoorR))) :: (.rows (α := Int) 3 (List.map DoorR.row rs63)) :: (.own s62 204 5 (encs rs63)) :: (.own s67 209 3 (encs r60.1.Way)) :: (.blk b58 (enc (EnterR.mk r44.1 s46 s51)) 114) :: (.own Sl.nil 209 3 (encs ([] : List Word))) :: (.own Sl.nil 204 5 (encs ([] : List DoorR))) :: (.rows (α := Int) 3 (List.map DoorR.row rs47)) :: (.own s46 204 5 (encs rs47)) :: (.own s51 209 3 (encs r44.1.Way)) :: (.blk b42 (enc (EnterR.mk r28.1 s30 s35)) 114) :: (.own Sl.nil 209 3 (encs ([] : List Word))) :: (.own Sl.nil 204 5 (encs ([] : List DoorR))) :: (.rows (α := Int) 3 (List.map DoorR.row rs31)) :: (.own s30 204 5 (encs rs31)) :: (.own s35 209 3 (encs r28.1.Way)) :: (.blk b26 (enc (EnterR.mk r12.1 s14 s19)) 114) :: (.own Sl.nil 209 3 (encs ([] : List Word))) :: (.own Sl.nil 204 5 (encs ([] : List DoorR))) :: (.rows (α := Int) 3 (List.map DoorR.row rs15)) :: (.own s14 204 5 (encs rs15)) :: (.blk b10 (enc (EnterR.mk Enter.zero Sl.nil Sl.nil)) 114) :: (.own Sl.nil 209 3 (encs ([] : List Word))) :: (.own Sl.nil 204 5 (encs ([] : List DoorR))) :: (.blk b1 (enc (EnterR.mk a0 s_a0_0 s_a0_1)) 114) :: L) ⟨rfl, rfl, rfl, rfl, rfl, rfl, rfl, trivial⟩ rfl ?_
 replace H := HKo170
 refine Cd.seq ?_
 refine Cd.seq ?_
 refine Cd.region ?_
 refine Lst.r (Ev.move rfl) ?_
 refine Lst.r (Ev.lss rfl rfl) ?_
 refine Lst.r (Ev.move rfl) ?_
 obtain ⟨o227, H, HKo227⟩ := bind_some H
 refine Lst.join (σ := Bool) 6 (fun y228 => [(2, iv a2), (4, pv b1 0), (10, pv b10 0), (13, pv b42 0), (14, iv r28.2), (17, pv b74 0), (18, iv r60.2), (142, .bool y228)]) (fun y228 => (.blk b74 (enc (EnterR.mk r60.1 s62 s67)) 114) :: (.own Sl.nil 209 3 (encs ([] : List Word))) :: (.own Sl.nil 204 5 (encs ([] : List DoorR))) :: (.rows (α := Int) 3 (List.map DoorR.row rs63)) :: (.own s62 204 5 (encs rs63)) :: (.own s67 209 3 (encs r60.1.Way)) :: (.blk b58 (enc (EnterR.mk r44.1 s46 s51)) 114) :: (.own Sl.nil 209 3 (encs ([] : List Word))) :: (.own Sl.nil 204 5 (encs ([] : List DoorR))) :: (.rows (α := Int) 3 (List.map DoorR.row rs47)) :: (.own s46 204 5 (encs rs47)) :: (.own s51 209 3 (encs r44.1.Way)) :: (.blk b42 (enc (EnterR.mk r28.1 s30 s35)) 114) :: (.own Sl.nil 209 3 (encs ([] : List Word))) :: (.own Sl.nil 204 5 (encs ([] : List DoorR))) :: (.rows (α := Int) 3 (List.map DoorR.row rs31)) :: (.own s30 204 5 (encs rs31)) :: (.own s35 209 3 (encs r28.1.Way)) :: (.blk b26 (enc (EnterR.mk r12.1 s14 s19)) 114) :: (.own Sl.nil 209 3 (encs ([] : List Word))) :: (.own Sl.nil 204 5 (encs ([] : List DoorR))) :: (.rows (α := Int) 3 (List.map DoorR.row rs15)) :: (.own s14 204 5 (encs rs15)) :: (.blk b10 (enc (EnterR.mk Enter.zero Sl.nil Sl.nil)) 114) :: (.own Sl.nil 209 3 (encs ([] : List Word))) :: (.own Sl.nil 204 5 (encs ([] : List DoorR))) :: (.blk b1 (enc (EnterR.mk a0 s_a0_0 s_a0_1)) 114) :: L) (fun _ y228 => y228 = o227) ?_ ?_
 ·rcases Bool.eq_false_or_eq_true (decide (a2 < (0 : Int))) with hb229 | hb229
  ·replace H := ite_t hb229 H
   refine Lst.skip rfl rfl rfl hb229 rfl (by decide) ?_
   refine Lst.skip rfl rfl rfl hb229 rfl (by decide) ?_
   refine Lst.skip rfl rfl rfl hb229 rfl (by decide) ?_
   refine Lst.skip rfl rfl rfl hb229 rfl (by decide) ?_
   refine Lst.skip rfl rfl rfl hb229 rfl (by decide) ?_
   refine Lst.r (Ev.pickT rfl hb229 rfl) ?_
   refine Lst.nil ?_
   exact At.meet true (FLe.refl _) ⟨rfl, rfl, rfl, rfl, rfl, rfl, rfl, rfl, trivial⟩ rfl (some_inj H)
  replace H := ite_f hb229 H
  refine Lst.rG hb229 (Ev.move rfl) ?_
  refine Lst.rG hb229 (Ev.fieldAddr (off' := 0) rfl Try.runUnderlying114 rfl Try.sizeOf111 rfl rfl) ?_
  refine Lst.rG hb229 (Ev.load (i := 26) rfl rfl Try.isAgg111 (v := Sl.v s_a0_0) ((EnterR.get_Doors (Get.here _)).off (by rfl))) ?_
  refine Lst.rG hb229 (Ev.lenM (map_len hm_a0_0) (Ev.lenS (α := DoorR) (xs := rs_a0_0) (by decide) rfl rfl Try.runUnderlying111 (hs_a0_0.mono (FLe.trans (FLe.trans (FLe.trans (FLe.trans (FLe.trans hF22 hF38) hF54) hF70) hF126) hF226) (sc8 (sc8 (sc8 (sc2 (sc1 hM)))))))) ?_
  refine Lst.rG hb229 (Ev.geq rfl rfl) ?_
  refine Lst.r (Ev.pickF rfl hb229 rfl) ?_
  refine Lst.nil ?_
  exact At.meet (decide (a2 ≥ (a0.Doors.length : Int))) (FLe.refl _) ⟨rfl, rfl, rfl, rfl, rfl, rfl, rfl, rfl, trivial⟩ rfl (some_inj H)
 rintro F231 y228 hF232 hy
 subst hy
 refine Lst.as (e' := [(2, iv a2), (4, pv b1 0), (10, pv b10 0), (13, pv b42 0), (14, iv r28.2), (17, pv b74 0), (18, iv r60.2), (142, .bool y228)]) (L' := (.blk b74 (enc (EnterR.mk r60.1 s62 s67)) 114) :: (.own Sl.nil 209 3 (encs ([] : List Word))) :: (.own Sl.nil 204 5 (encs ([] : List DoorR))) :: (.rows (α := Int) 3 (List.map DoorR.row rs63)) :: (.own s62 204 5 (encs rs63)) :: (.own s67 209 3 (encs r60.1.Way)) :: (.blk b58 (enc (EnterR.mk r44.1 s46 s51)) 114) :: (.own Sl.nil 209 3 (encs ([] : List Word))) :: (.own Sl.nil 204 5 (encs ([] : List DoorR))) :: (.rows (α := Int) 3 (List.map DoorR.row rs47)) :: (.own s46 204 5 (encs rs47)) :: (.own s51 209 3 (encs r44.1.Way)) :: (.blk b42 (enc (EnterR.mk r28.1 s30 s35)) 114) :: (.own Sl.nil 209 3 (encs ([] : List Word))) :: (.own Sl.nil 204 5 (encs ([] : List DoorR))) :: (.rows (α := Int) 3 (List.map DoorR.row rs31)) :: (.own s30 204 5 (encs rs31)) :: (.own s35 209 3 (encs r28.1.Way)) :: (.blk b26 (enc (EnterR.mk r12.1 s14 s19)) 114) :: (.own Sl.nil 209 3 (encs ([] : List Word))) :: (.own Sl.nil 204 5 (encs ([] : List DoorR))) :: (.rows (α := Int) 3 (List.map DoorR.row rs15)) :: (.own s14 204 5 (encs rs15)) :: (.blk b10 (enc (EnterR.mk Enter.zero Sl.nil Sl.nil)) 114) :: (.own Sl.nil 209 3 (encs ([] : List Word))) :: (.own Sl.nil 204 5 (encs ([] : List DoorR))) :: (.blk b1 (enc (EnterR.mk a0 s_a0_0 s_a0_1)) 114) :: L) ⟨rfl, rfl, rfl, rfl, rfl, rfl, rfl, rfl, trivial⟩ rfl ?_
 replace H := HKo227
 refine Lst.nil ?_
 refine At.then ?_
 rcases Bool.eq_false_or_eq_true y228 with hb233 | hb233
 ·replace H := ite_t hb233 H
  refine Cd.condT rfl hb233 ?_
  refine Cd.seq ?_
  refine Cd.region ?_
  refine Lst.r (Ev.loadA (i := 12) rfl rfl Try.isAgg114 Try.sizeOf114 (ch := enc (EnterR.mk r28.1 s30 s35)) (Enc.len _) (Get.here _)) ?_
  refine Lst.r (Ev.loadA (i := 23) rfl rfl Try.isAgg114 Try.sizeOf114 (ch := enc (EnterR.mk Enter.zero Sl.nil Sl.nil)) (Enc.len _) (Get.here _)) ?_
  obtain ⟨r234, h235, H⟩ := bind_some H
  refine Lst.call1 rfl rfl (by decide) (vs := [.agg (enc (EnterR.mk r28.1 s30 s35)).toArray, .agg (enc (EnterR.mk Enter.zero Sl.nil Sl.nil)).toArray]) ⟨rfl, rfl, trivial⟩ Try.call68 (partref_SameEnter_sim h235 w0 _ _ _ (.refl _) fm32 (Rd.own (i := 16) rfl rfl rfl) (DoorR.rowAll (All.rowsHead (j := 15) rfl)) (Rd.own (i := 17) rfl rfl rfl) rfl Rd.nil All.nil Rd.nil) ?_
  refine Lst.r (Ev.move rfl) ?_
  obtain ⟨o238, H, HKo238⟩ := bind_some H
  refine Lst.join (σ := Bool) 3 (fun y239 => [(10, pv b10 0), (17, pv b74 0), (18, iv r60.2), (149, .bool y239)]) (fun y239 => (.blk b74 (enc (EnterR.mk r60.1 s62 s67)) 114) :: (.own Sl.nil 209 3 (encs ([] : List Word))) :: (.own Sl.nil 204 5 (encs ([] : List DoorR))) :: (.rows (α := Int) 3 (List.map DoorR.row rs63)) :: (.own s62 204 5 (encs rs63)) :: (.own s67 209 3 (encs r60.1.Way)) :: (.blk b58 (enc (EnterR.mk r44.1 s46 s51)) 114) :: (.own Sl.nil 209 3 (encs ([] : List Word))) :: (.own Sl.nil 204 5 (encs ([] : List DoorR))) :: (.rows (α := Int) 3 (List.map DoorR.row rs47)) :: (.own s46 204 5 (encs rs47)) :: (.own s51 209 3 (encs r44.1.Way)) :: (.blk b42 (enc (EnterR.mk r28.1 s30 s35)) 114) :: (.own Sl.nil 209 3 (encs ([] : List Word))) :: (.own Sl.nil 204 5 (encs ([] : List DoorR))) :: (.rows (α := Int) 3 (List.map DoorR.row rs31)) :: (.own s30 204 5 (encs rs31)) :: (.own s35 209 3 (encs r28.1.Way)) :: (.blk b26 (enc (EnterR.mk r12.1 s14 s19)) 114) :: (.own Sl.nil 209 3 (encs ([] : List Word))) :: (.own Sl.nil 204 5 (encs ([] : List DoorR))) :: (.rows (α := Int) 3 (List.map DoorR.row rs15)) :: (.own s14 204 5 (encs rs15)) :: (.blk b10 (enc (EnterR.mk Enter.zero Sl.nil Sl.nil)) 114) :: (.own Sl.nil 209 3 (encs ([] : List Word))) :: (.own Sl.nil 204 5 (encs ([] : List DoorR))) :: (.blk b1 (enc (EnterR.mk a0 s_a0_0 s_a0_1)) 114) :: L) (fun _ y239 => y239 = o238) ?_ ?_
  ·rcases (Bool.eq_false_or_eq_true r234).symm with hb240 | hb240
   ·replace H := ite_f hb240 H
    refine Lst.skip rfl rfl rfl hb240 rfl (by decide) ?_
    refine Lst.skip rfl rfl rfl hb240 rfl (by decide) ?_
    refine Lst.r (Ev.pickF rfl hb240 rfl) ?_
    refine Lst.nil ?_
    exact At.meet false (FLe.refl _) ⟨rfl, rfl, rfl, rfl, trivial⟩ rfl (some_inj H)
   replace H := ite_t hb240 H
   refine Lst.rG hb240 (Ev.move rfl) ?_
   refine Lst.rG hb240 (Ev.eql rfl rfl) ?_
   refine Lst.r (Ev.pickT rfl hb240 rfl) ?_
   refine Lst.nil ?_
   exact At.meet (r28.2 == (1 : Int)) (FLe.refl _) ⟨rfl, rfl, rfl, rfl, trivial⟩ rfl (some_inj H)
  rintro F241 y239 hF242 hy
  subst hy
  refine Lst.as (e' := [(10, pv b10 0), (17, pv b74 0), (18, iv r60.2), (149, .bool y239)]) (L' := (.blk b74 (enc (EnterR.mk r60.1 s62 s67)) 114) :: (.own Sl.nil 209 3 (encs ([] : List Word))) :: (.own Sl.nil 204 5 (encs ([] : List DoorR))) :: (.rows (α := Int) 3 (List.map DoorR.row rs63)) :: (.own s62 204 5 (encs rs63)) :: (.own s67 209 3 (encs r60.1.Way)) :: (.blk b58 (enc (EnterR.mk r44.1 s46 s51)) 114) :: (.own Sl.nil 209 3 (encs ([] : List Word))) :: (.own Sl.nil 204 5 (encs ([] : List DoorR))) :: (.rows (α := Int) 3 (List.map DoorR.row rs47)) :: (.own s46 204 5 (encs rs47)) :: (.own s51 209 3 (encs r44.1.Way)) :: (.blk b42 (enc (EnterR.mk r28.1 s30 s35)) 114) :: (.own Sl.nil 209 3 (encs ([] : List Word))) :: (.own Sl.nil 204 5 (encs ([] : List DoorR))) :: (.rows (α := Int) 3 (List.map DoorR.row rs31)) :: (.own s30 204 5 (encs rs31)) :: (.own s35 209 3 (encs r28.1.Way)) :: (.blk b26 (enc (EnterR.mk r12.1 s14 s19)) 114) :: (.own Sl.nil 209 3 (encs ([] : List Word))) :: (.own Sl.nil 204 5 (encs ([] : List DoorR))) :: (.rows (α := Int) 3 (List.map DoorR.row rs15)) :: (.own s14 204 5 (encs rs15)) :: (.blk b10 (enc (EnterR.mk Enter.zero Sl.nil Sl.nil)) 114) :: (.own Sl.nil 209 3 (encs ([] : List Word))) :: (.own Sl.nil 204 5 (encs ([] : List DoorR))) :: (.blk b1 (enc (EnterR.mk a0 s_a0_0 s_a0_1)) 114) :: L) ⟨rfl, rfl, rfl, rfl, trivial⟩ rfl ?_
  replace H := HKo238
  refine Lst.r (Ev.move rfl) ?_
  obtain ⟨o243, H, HKo243⟩ := bind_some H
  refine Lst.join (σ := Bool) 4 (fun y244 => [(18, iv r60.2), (154, .bool y244)]) (fun y244 => (.blk b74 (enc (EnterR.mk r60.1 s62 s67)) 114) :: (.own Sl.nil 209 3 (encs ([] : List Word))) :: (.own Sl.nil 204 5 (encs ([] : List DoorR))) :: (.rows (α := Int) 3 (List.map DoorR.row rs63)) :: (.own s62 204 5 (encs rs63)) :: (.own s67 209 3 (encs r60.1.Way)) :: (.blk b58 (enc (EnterR.mk r44.1 s46 s51)) 114) :: (.own Sl.nil 209 3 (encs ([] : List Word))) :: (.own Sl.nil 204 5 (encs ([] : List DoorR))) :: (.rows (α := Int) 3 (List.map DoorR.row rs47)) :: (.own s46 204 5 (encs rs47)) :: (.own s51 209 3 (encs r44.1.Way)) :: (.blk b42 (enc (EnterR.mk r28.1 s30 s35)) 114) :: (.own Sl.nil 209 3 (encs ([] : List Word))) :: (.own Sl.nil 204 5 (encs ([] : List DoorR))) :: (.rows (α := Int) 3 (List.map DoorR.row rs31)) :: (.own s30 204 5 (encs rs31)) :: (.own s35 209 3 (encs r28.1.Way)) :: (.blk b26 (enc (EnterR.mk r12.1 s14 s19)) 114) :: (.own Sl.nil 209 3 (encs ([] : List Word))) :: (.own Sl.nil 204 5 (encs ([] : List DoorR))) :: (.rows (α := Int) 3 (List.map DoorR.row rs15)) :: (.own s14 204 5 (encs rs15)) :: (.blk b10 (enc (EnterR.mk Enter.zero Sl.nil Sl.nil)) 114) :: (.own Sl.nil 209 3 (encs ([] : List Word))) :: (.own Sl.nil 204 5 (encs ([] : List DoorR))) :: (.blk b1 (enc (EnterR.mk a0 s_a0_0 s_a0_1)) 114) :: L) (fun _ y244 => y244 = o243) ?_ ?_
  ·rcases (Bool.eq_false_or_eq_true y239).symm with hb245 | hb245
   ·replace H := ite_f hb245 H
    refine Lst.skip rfl rfl rfl hb245 rfl (by decide) ?_
    refine Lst.skip rfl rfl rfl hb245 rfl (by decide) ?_
    refine Lst.skip rfl rfl rfl hb245 rfl (by decide) ?_
    refine Lst.r (Ev.pickF rfl hb245 rfl) ?_
    refine Lst.nil ?_
    exact At.meet false (FLe.refl _) ⟨rfl, rfl, trivial⟩ rfl (some_inj H)
   replace H := ite_t hb245 H
   refine Lst.rG hb245 (Ev.loadA (i := 0) rfl rfl Try.isAgg114 Try.sizeOf114 (ch := enc (EnterR.mk r60.1 s62 s67)) (Enc.len _) (Get.here _)) ?_
   refine Lst.rG hb245 (Ev.loadA (i := 23) rfl rfl Try.isAgg114 Try.sizeOf114 (ch := enc (EnterR.mk Enter.zero Sl.nil Sl.nil)) (Enc.len _) (Get.here _)) ?_
   obtain ⟨r246, h247, H⟩ := bind_some H
   refine Lst.call1G rfl rfl rfl hb245 rfl (by decide) (vs := [.agg (enc (EnterR.mk r60.1 s62 s67)).toArray, .agg (enc (EnterR.mk Enter.zero Sl.nil Sl.nil)).toArray]) ⟨rfl, rfl, trivial⟩ Try.call68 (partref_SameEnter_sim h247 w0 _ _ _ (.refl _) fm64 (Rd.own (i := 4) rfl rfl rfl) (DoorR.rowAll (All.rowsHead (j := 3) rfl)) (Rd.own (i := 5) rfl rfl rfl) rfl Rd.nil All.nil Rd.nil) ?_
   refine Lst.r (Ev.pickT rfl hb245 rfl) ?_
   refine Lst.nil ?_
   exact At.meet r246 (FLe.refl _) ⟨rfl, rfl, trivial⟩ rfl (some_inj H)
  rintro F250 y244 hF251 hy
  subst hy
  refine Lst.as (e' := [(18, iv r60.2), (154, .bool y244)]) (L' := (.blk b74 (enc (EnterR.mk r60.1 s62 s67)) 114) :: (.own Sl.nil 209 3 (encs ([] : List Word))) :: (.own Sl.nil 204 5 (encs ([] : List DoorR))) :: (.rows (α := Int) 3 (List.map DoorR.row rs63)) :: (.own s62 204 5 (encs rs63)) :: (.own s67 209 3 (encs r60.1.Way)) :: (.blk b58 (enc (EnterR.mk r44.1 s46 s51)) 114) :: (.own Sl.nil 209 3 (encs ([] : List Word))) :: (.own Sl.nil 204 5 (encs ([] : List DoorR))) :: (.rows (α := Int) 3 (List.map DoorR.row rs47)) :: (.own s46 204 5 (encs rs47)) :: (.own s51 209 3 (encs r44.1.Way)) :: (.blk b42 (enc (EnterR.mk r28.1 s30 s35)) 114) :: (.own Sl.nil 209 3 (encs ([] : List Word))) :: (.own Sl.nil 204 5 (encs ([] : List DoorR))) :: (.rows (α := Int) 3 (List.map DoorR.row rs31)) :: (.own s30 204 5 (encs rs31)) :: (.own s35 209 3 (encs r28.1.Way)) :: (.blk b26 (enc (EnterR.mk r12.1 s14 s19)) 114) :: (.own Sl.nil 209 3 (encs ([] : List Word))) :: (.own Sl.nil 204 5 (encs ([] : List DoorR))) :: (.rows (α := Int) 3 (List.map DoorR.row rs15)) :: (.own s14 204 5 (encs rs15)) :: (.blk b10 (enc (EnterR.mk Enter.zero Sl.nil Sl.nil)) 114) :: (.own Sl.nil 209 3 (encs ([] : List Word))) :: (.own Sl.nil 204 5 (encs ([] : List DoorR))) :: (.blk b1 (enc (EnterR.mk a0 s_a0_0 s_a0_1)) 114) :: L) ⟨rfl, rfl, trivial⟩ rfl ?_
  replace H := HKo243
  refine Lst.r (Ev.move rfl) ?_
  obtain ⟨o252, H, HKo252⟩ := bind_some H
  refine Lst.join (σ := Bool) 3 (fun y253 => [(158, .bool y253)]) (fun y253 => (.blk b74 (enc (EnterR.mk r60.1 s62 s67)) 114) :: (.own Sl.nil 209 3 (encs ([] : List Word))) :: (.own Sl.nil 204 5 (encs ([] : List DoorR))) :: (.rows (α := Int) 3 (List.map DoorR.row rs63)) :: (.own s62 204 5 (encs rs63)) :: (.own s67 209 3 (encs r60.1.Way)) :: (.blk b58 (enc (EnterR.mk r44.1 s46 s51)) 114) :: (.own Sl.nil 209 3 (encs ([] : List Word))) :: (.own Sl.nil 204 5 (encs ([] : List DoorR))) :: (.rows (α := Int) 3 (List.map DoorR.row rs47)) :: (.own s46 204 5 (encs rs47)) :: (.own s51 209 3 (encs r44.1.Way)) :: (.blk b42 (enc (EnterR.mk r28.1 s30 s35)) 114) :: (.own Sl.nil 209 3 (encs ([] : List Word))) :: (.own Sl.nil 204 5 (encs ([] : List DoorR))) :: (.rows (α := Int) 3 (List.map DoorR.row rs31)) :: (.own s30 204 5 (encs rs31)) :: (.own s35 209 3 (encs r28.1.Way)) :: (.blk b26 (enc (EnterR.mk r12.1 s14 s19)) 114) :: (.own Sl.nil 209 3 (encs ([] : List Word))) :: (.own Sl.nil 204 5 (encs ([] : List DoorR))) :: (.rows (α := Int) 3 (List.map DoorR.row rs15)) :: (.own s14 204 5 (encs rs15)) :: (.blk b10 (enc (EnterR.mk Enter.zero Sl.nil Sl.nil)) 114) :: (.own Sl.nil 209 3 (encs ([] : List Word))) :: (.own Sl.nil 204 5 (encs ([] : List DoorR))) :: (.blk b1 (enc (EnterR.mk a0 s_a0_0 s_a0_1)) 114) :: L) (fun _ y253 => y253 = o252) ?_ ?_
  ·rcases (Bool.eq_false_or_eq_true y244).symm with hb254 | hb254
   ·replace H := ite_f hb254 H
    refine Lst.skip rfl rfl rfl hb254 rfl (by decide) ?_
    refine Lst.skip rfl rfl rfl hb254 rfl (by decide) ?_
    refine Lst.r (Ev.pickF rfl hb254 rfl) ?_
    refine Lst.nil ?_
    exact At.meet false (FLe.refl _) ⟨rfl, trivial⟩ rfl (some_inj H)
   replace H := ite_t hb254 H
   refine Lst.rG hb254 (Ev.move rfl) ?_
   refine Lst.rG hb254 (Ev.eql rfl rfl) ?_
   refine Lst.r (Ev.pickT rfl hb254 rfl) ?_
   refine Lst.nil ?_
   exact At.meet (r60.2 == (1 : Int)) (FLe.refl _) ⟨rfl, trivial⟩ rfl (some_inj H)
  rintro F255 y253 hF256 hy
  subst hy
  refine Lst.as (e' := [(158, .bool y253)]) (L' := (.blk b74 (enc (EnterR.mk r60.1 s62 s67)) 114) :: (.own Sl.nil 209 3 (encs ([] : List Word))) :: (.own Sl.nil 204 5 (encs ([] : List DoorR))) :: (.rows (α := Int) 3 (List.map DoorR.row rs63)) :: (.own s62 204 5 (encs rs63)) :: (.own s67 209 3 (encs r60.1.Way)) :: (.blk b58 (enc (EnterR.mk r44.1 s46 s51)) 114) :: (.own Sl.nil 209 3 (encs ([] : List Word))) :: (.own Sl.nil 204 5 (encs ([] : List DoorR))) :: (.rows (α := Int) 3 (List.map DoorR.row rs47)) :: (.own s46 204 5 (encs rs47)) :: (.own s51 209 3 (encs r44.1.Way)) :: (.blk b42 (enc (EnterR.mk r28.1 s30 s35)) 114) :: (.own Sl.nil 209 3 (encs ([] : List Word))) :: (.own Sl.nil 204 5 (encs ([] : List DoorR))) :: (.rows (α := Int) 3 (List.map DoorR.row rs31)) :: (.own s30 204 5 (encs rs31)) :: (.own s35 209 3 (encs r28.1.Way)) :: (.blk b26 (enc (EnterR.mk r12.1 s14 s19)) 114) :: (.own Sl.nil 209 3 (encs ([] : List Word))) :: (.own Sl.nil 204 5 (encs ([] : List DoorR))) :: (.rows (α := Int) 3 (List.map DoorR.row rs15)) :: (.own s14 204 5 (encs rs15)) :: (.blk b10 (enc (EnterR.mk Enter.zero Sl.nil Sl.nil)) 114) :: (.own Sl.nil 209 3 (encs ([] : List Word))) :: (.own Sl.nil 204 5 (encs ([] : List DoorR))) :: (.blk b1 (enc (EnterR.mk a0 s_a0_0 s_a0_1)) 114) :: L) ⟨rfl, trivial⟩ rfl ?_
  replace H := HKo252
  refine Lst.r (Ev.assign rfl) ?_
  refine Lst.nil ?_
  refine At.then ?_
  obtain rfl := some_inj H
  refine Cd.ret ?_
  refine At.then_ret ?_
  exact At.ret1 rfl (Res.tmp rfl) (FLe.trans (FLe.trans (FLe.trans (FLe.trans (FLe.trans (FLe.trans (FLe.trans (FLe.trans (FLe.trans hF22 hF38) hF54) hF70) hF126) hF226) hF232) hF242) hF251) hF256) (sc1 (sc1 (sc1 (sc1 (sc1 (sc1 (sc1 (sc1 (sc1 (sc1 (sc1 (sc1 (sc1 (sc1 (sc1 (sc1 (sc1 (sc1 (sc1 (sc1 (sc1 (sc1 (sc1 (sc1 (sc1 (sc1 (sc1 (.refl _)))))))))))))))))))))))))))) ⟨rfl, rfl⟩
 replace H := ite_f hb233 H
 refine Cd.condF rfl hb233 ?_
 refine Cd.skip ?_
 refine At.then ?_
 refine Cd.seq ?_
 refine Cd.region ?_
 refine Lst.r (Ev.loadA (i := 26) rfl rfl Try.isAgg114 Try.sizeOf114 (ch := enc (EnterR.mk a0 s_a0_0 s_a0_1)) (Enc.len _) (Get.here _)) ?_
 refine Lst.r (Ev.move rfl) ?_
 obtain ⟨r257, h258, H⟩ := bind_some H
 refine Lst.call rfl rfl (by decide) (vs := [.agg (enc (EnterR.mk a0 s_a0_0 s_a0_1)).toArray, iv a2]) ⟨rfl, rfl, trivial⟩ Try.call71 (partref_EnterWish_sim h258 w0 _ M _ (sc8 (sc8 (sc8 (sc2 (sc1 hM))))) hm_a0_0 (hs_a0_0.mono (FLe.trans (FLe.trans (FLe.trans (FLe.trans (FLe.trans (FLe.trans hF22 hF38) hF54) hF70) hF126) hF226) hF232) (.refl _)) (All.monoDoor ha_a0_0 (FLe.trans (FLe.trans (FLe.trans (FLe.trans (FLe.trans (FLe.trans hF22 hF38) hF54) hF70) hF126) hF226) hF232) (.refl _)) (hs_a0_1.mono (FLe.trans (FLe.trans (FLe.trans (FLe.trans (FLe.trans (FLe.trans hF22 hF38) hF54) hF70) hF126) hF226) hF232) (.refl _))) (fun F266 L' v hF267 hv => ?_)
 obtain ⟨s259, rs260, s264, rfl, rfl, fm261⟩ := hv
 refine Lst.r (Ev.move rfl) ?_
 refine Lst.r (Ev.extract rfl rfl) ?_
 refine Lst.r (Ev.extract rfl rfl) ?_
 have ha269 : All DoorR.rel w0 F266 [] ([] : List DoorR) := All.nil
 have ha269m : List.map DoorR.v ([] : List DoorR) = ([] : List Door) := rfl
 refine Lst.addNil 204 5 ?_
 refine Lst.addNil 209 3 ?_
 refine Lst.alloc (cs := enc (EnterR.mk ({ Enter.zero with Doors := ([] : List Door), Way := ([] : List Word) } : Enter) Sl.nil Sl.nil)) rfl rfl (by decide) Try.zeroValue114 rfl (fun b271 => ?_)
 refine Lst.store (i := 0) rfl rfl rfl rfl rfl Try.sizeOf114 (vs := enc (EnterR.mk r257.1 s259 s264)) rfl (Enc.len _) (Enc.one _) (cs' := enc (EnterR.mk r257.1 s259 s264)) (Put.here ((Enc.len _).trans (Enc.len _).symm)) (L' := (.blk b271 (enc (EnterR.mk r257.1 s259 s264)) 114) :: (.own Sl.nil 209 3 (encs ([] : List Word))) :: (.own Sl.nil 204 5 (encs ([] : List DoorR))) :: (.rows (α := Int) 3 (List.map DoorR.row rs260)) :: (.own s259 204 5 (encs rs260)) :: (.own s264 209 3 (encs r257.1.Way)) :: (.blk b74 (enc (EnterR.mk r60.1 s62 s67)) 114) :: (.own Sl.nil 209 3 (encs ([] : List Word))) :: (.own Sl.nil 204 5 (encs ([] : List DoorR))) :: (.rows (α := Int) 3 (List.map DoorR.row rs63)) :: (.own s62 204 5 (encs rs63)) :: (.own s67 209 3 (encs r60.1.Way)) :: (.blk b58 (enc (EnterR.mk r44.1 s46 s51)) 114) :: (.own Sl.nil 209 3 (encs ([] : List Word))) :: (.own Sl.nil 204 5 (encs ([] : List DoorR))) :: (.rows (α := Int) 3 (List.map DoorR.row rs47)) :: (.own s46 204 5 (encs rs47)) :: (.own s51 209 3 (encs r44.1.Way)) :: (.blk b42 (enc (EnterR.mk r28.1 s30 s35)) 114) :: (.own Sl.nil 209 3 (encs ([] : List Word))) :: (.own Sl.nil 204 5 (encs ([] : List DoorR))) :: (.rows (α := Int) 3 (List.map DoorR.row rs31)) :: (.own s30 204 5 (encs rs31)) :: (.own s35 209 3 (encs r28.1.Way)) :: (.blk b26 (enc (EnterR.mk r12.1 s14 s19)) 114) :: (.own Sl.nil 209 3 (encs ([] : List Word))) :: (.own Sl.nil 204 5 (encs ([] : List DoorR))) :: (.rows (α := Int) 3 (List.map DoorR.row rs15)) :: (.own s14 204 5 (encs rs15)) :: (.blk b10 (enc (EnterR.mk Enter.zero Sl.nil Sl.nil)) 114) :: (.own Sl.nil 209 3 (encs ([] : List Word))) :: (.own Sl.nil 204 5 (encs ([] : List DoorR))) :: (.blk b1 (enc (EnterR.mk a0 s_a0_0 s_a0_1)) 114) :: L) rfl ?_
 refine Lst.r (Ev.assign rfl) ?_
 refine Lst.nil ?_
 refine At.then ?_
 refine Cd.seq ?_
 refine Cd.region ?_
 refine Lst.r (Ev.loadA (i := 32) rfl rfl Try.isAgg114 Try.sizeOf114 (ch := enc (EnterR.mk a0 s_a0_0 s_a0_1)) (Enc.len _) (Get.here _)) ?_
 refine Lst.r (Ev.move rfl) ?_
 obtain ⟨r273, h274, H⟩ := bind_some H
 refine Lst.call rfl rfl (by decide) (vs := [.agg (enc (EnterR.mk a0 s_a0_0 s_a0_1)).toArray, iv a2]) ⟨rfl, rfl, trivial⟩ Try.call72 (partref_EnterLeave_sim h274 w0 _ M _ (sc8 (sc8 (sc8 (sc8 (sc1 hM))))) hm_a0_0 (hs_a0_0.mono (FLe.trans (FLe.trans (FLe.trans (FLe.trans (FLe.trans (FLe.trans (FLe.trans hF22 hF38) hF54) hF70) hF126) hF226) hF232) hF267) (.refl _)) (All.monoDoor ha_a0_0 (FLe.trans (FLe.trans (FLe.trans (FLe.trans (FLe.trans (FLe.trans (FLe.trans hF22 hF38) hF54) hF70) hF126) hF226) hF232) hF267) (.refl _)) (hs_a0_1.mono (FLe.trans (FLe.trans (FLe.trans (FLe.trans (FLe.trans (FLe.trans (FLe.trans hF22 hF38) hF54) hF70) hF126) hF226) hF232) hF267) (.refl _))) (fun F282 L' v hF283 hv => ?_)
 obtain ⟨s275, rs276, s280, rfl, rfl, fm277⟩ := hv
 refine Lst.r (Ev.move rfl) ?_
 refine Lst.r (Ev.extract rfl rfl) ?_
 refine Lst.r (Ev.extract rfl rfl) ?_
 have ha285 : All DoorR.rel w0 F282 [] ([] : List DoorR) := All.nil
 have ha285m : List.map DoorR.v ([] : List DoorR) = ([] : List Door) := rfl
 refine Lst.addNil 204 5 ?_
 refine Lst.addNil 209 3 ?_
 refine Lst.alloc (cs := enc (EnterR.mk ({ Enter.zero with Doors := ([] : List Door), Way := ([] : List Word) } : Enter) Sl.nil Sl.nil)) rfl rfl (by decide) Try.zeroValue114 rfl (fun b287 => ?_)
 refine Lst.store (i := 0) rfl rfl rfl rfl rfl Try.sizeOf114 (vs := enc (EnterR.mk r273.1 s275 s280)) rfl (Enc.len _) (Enc.one _) (cs' := enc (EnterR.mk r273.1 s275 s280)) (Put.here ((Enc.len _).trans (Enc.len _).symm)) (L' := (.blk b287 (enc (EnterR.mk r273.1 s275 s280)) 114) :: (.own Sl.nil 209 3 (encs ([] : List Word))) :: (.own Sl.nil 204 5 (encs ([] : List DoorR))) :: (.rows (α := Int) 3 (List.map DoorR.row rs276)) :: (.own s275 204 5 (encs rs276)) :: (.own s280 209 3 (encs r273.1.Way)) :: (.blk b271 (enc (EnterR.mk r257.1 s259 s264)) 114) :: (.own Sl.nil 209 3 (encs ([] : List Word))) :: (.own Sl.nil 204 5 (encs ([] : List DoorR))) :: (.rows (α := Int) 3 (List.map DoorR.row rs260)) :: (.own s259 204 5 (encs rs260)) :: (.own s264 209 3 (encs r257.1.Way)) :: (.blk b74 (enc (EnterR.mk r60.1 s62 s67)) 114) :: (.own Sl.nil 209 3 (encs ([] : List Word))) :: (.own Sl.nil 204 5 (encs ([] : List DoorR))) :: (.rows (α := Int) 3 (List.map DoorR.row rs63)) :: (.own s62 204 5 (encs rs63)) :: (.own s67 209 3 (encs r60.1.Way)) :: (.blk b58 (enc (EnterR.mk r44.1 s46 s51)) 114) :: (.own Sl.nil 209 3 (encs ([] : List Word))) :: (.own Sl.nil 204 5 (encs ([] : List DoorR))) :: (.rows (α := Int) 3 (List.map DoorR.row rs47)) :: (.own s46 204 5 (encs rs47)) :: (.own s51 209 3 (encs r44.1.Way)) :: (.blk b42 (enc (EnterR.mk r28.1 s30 s35)) 114) :: (.own Sl.nil 209 3 (encs ([] : List Word))) :: (.own Sl.nil 204 5 (encs ([] : List DoorR))) :: (.rows (α := Int) 3 (List.map DoorR.row rs31)) :: (.own s30 204 5 (encs rs31)) :: (.own s35 209 3 (encs r28.1.Way)) :: (.blk b26 (enc (EnterR.mk r12.1 s14 s19)) 114) :: (.own Sl.nil 209 3 (encs ([] : List Word))) :: (.own Sl.nil 204 5 (encs ([] : List DoorR))) :: (.rows (α := Int) 3 (List.map DoorR.row rs15)) :: (.own s14 204 5 (encs rs15)) :: (.blk b10 (enc (EnterR.mk Enter.zero Sl.nil Sl.nil)) 114) :: (.own Sl.nil 209 3 (encs ([] : List Word))) :: (.own Sl.nil 204 5 (encs ([] : List DoorR))) :: (.blk b1 (enc (EnterR.mk a0 s_a0_0 s_a0_1)) 114) :: L) rfl ?_
 refine Lst.r (Ev.assign rfl) ?_
 refine Lst.nil ?_
 refine At.then ?_
 refine Cd.seq ?_
 refine Cd.as (e' := [(13, pv b42 0), (14, iv r28.2), (17, pv b74 0), (18, iv r60.2), (19, pv b271 0), (20, iv r257.2), (21, pv b287 0), (22, iv r273.2)]) (L' := (.blk b287 (enc (EnterR.mk r273.1 s275 s280)) 114) :: (.own Sl.nil 209 3 (encs ([] : List Word))) :: (.own Sl.nil 204 5 (encs ([] : List DoorR))) :: (.rows (α := Int) 3 (List.map DoorR.row rs276)) :: (.own s275 204 5 (encs rs276)) :: (.own s280 209 3 (encs r273.1.Way)) :: (.blk b271 (enc (EnterR.mk r257.1 s259 s264)) 114) :: (.own Sl.nil 209 3 (encs ([] : List Word))) :: (.own Sl.nil 204 5 (encs ([] : List DoorR))) :: (.rows (α := Int) 3 (List.map DoorR.row rs260)) :: (.own s259 204 5 (encs rs260)) :: (.own s264 209 3 (encs r257.1.Way)) :: (.blk b74 (enc (EnterR.mk r60.1 s62 s67)) 114) :: (.own Sl.nil 209 3 (encs ([] : List Word))) :: (.own Sl.nil 204 5 (encs ([] : List DoorR))) :: (.rows (α := Int) 3 (List.map DoorR.row rs63)) :: (.own s62 204 5 (encs rs63)) :: (.own s67 209 3 (encs r60.1.Way)) :: (.blk b58 (enc (EnterR.mk r44.1 s46 s51)) 114) :: (.own Sl.nil 209 3 (encs ([] : List Word))) :: (.own Sl.nil 204 5 (encs ([] : List DoorR))) :: (.rows (α := Int) 3 (List.map DoorR.row rs47)) :: (.own s46 204 5 (encs rs47)) :: (.own s51 209 3 (encs r44.1.Way)) :: (.blk b42 (enc (EnterR.mk r28.1 s30 s35)) 114) :: (.own Sl.nil 209 3 (encs ([] : List Word))) :: (.own Sl.nil 204 5 (encs ([] : List DoorR))) :: (.rows (α := Int) 3 (List.map DoorR.row rs31)) :: (.own s30 204 5 (encs rs31)) :: (.own s35 209 3 (encs r28.1.Way)) :: (.blk b26 (enc (EnterR.mk r12.1 s14 s19)) 114) :: (.own Sl.nil 209 3 (encs ([] : List Word))) :: (.own Sl.nil 204 5 (encs ([] : List DoorR))) :: (.rows (α := Int) 3 (List.map DoorR.row rs15)) :: (.own s14 204 5 (encs rs15)) :: (.blk b10 (enc (EnterR.mk Enter.zero Sl.nil Sl.nil)) 114) :: (.own Sl.nil 209 3 (encs ([] : List Word))) :: (.own Sl.nil 204 5 (encs ([] : List DoorR))) :: (.blk b1 (enc (EnterR.mk a0 s_a0_0 s_a0_1)) 114) :: L) ⟨rfl, rfl, rfl, rfl, rfl, rfl, rfl, rfl, trivial⟩ rfl ?_
 refine Cd.region ?_
 refine Lst.r (Ev.loadA (i := 24) rfl rfl Try.isAgg114 Try.sizeOf114 (ch := enc (EnterR.mk r28.1 s30 s35)) (Enc.len _) (Get.here _)) ?_
 refine Lst.r (Ev.loadA (i := 6) rfl rfl Try.isAgg114 Try.sizeOf114 (ch := enc (EnterR.mk r257.1 s259 s264)) (Enc.len _) (Get.here _)) ?_
 obtain ⟨r289, h290, H⟩ := bind_some H
 refine Lst.call1 rfl rfl (by decide) (vs := [.agg (enc (EnterR.mk r28.1 s30 s35)).toArray, .agg (enc (EnterR.mk r257.1 s259 s264)).toArray]) ⟨rfl, rfl, trivial⟩ Try.call68 (partref_SameEnter_sim h290 w0 _ _ _ (.refl _) fm32 (Rd.own (i := 28) rfl rfl rfl) (DoorR.rowAll (All.rowsHead (j := 27) rfl)) (Rd.own (i := 29) rfl rfl rfl) fm261 (Rd.own (i := 10) rfl rfl rfl) (DoorR.rowAll (All.rowsHead (j := 9) rfl)) (Rd.own (i := 11) rfl rfl rfl)) ?_
 refine Lst.r (Ev.move rfl) ?_
 obtain ⟨o293, H, HKo293⟩ := bind_some H
 refine Lst.join (σ := Bool) 4 (fun y294 => [(17, pv b74 0), (18, iv r60.2), (21, pv b287 0), (22, iv r273.2), (178, .bool y294)]) (fun y294 => (.blk b287 (enc (EnterR.mk r273.1 s275 s280)) 114) :: (.own Sl.nil 209 3 (encs ([] : List Word))) :: (.own Sl.nil 204 5 (encs ([] : List DoorR))) :: (.rows (α := Int) 3 (List.map DoorR.row rs276)) :: (.own s275 204 5 (encs rs276)) :: (.own s280 209 3 (encs r273.1.Way)) :: (.blk b271 (enc (EnterR.mk r257.1 s259 s264)) 114) :: (.own Sl.nil 209 3 (encs ([] : List Word))) :: (.own Sl.nil 204 5 (encs ([] : List DoorR))) :: (.rows (α := Int) 3 (List.map DoorR.row rs260)) :: (.own s259 204 5 (encs rs260)) :: (.own s264 209 3 (encs r257.1.Way)) :: (.blk b74 (enc (EnterR.mk r60.1 s62 s67)) 114) :: (.own Sl.nil 209 3 (encs ([] : List Word))) :: (.own Sl.nil 204 5 (encs ([] : List DoorR))) :: (.rows (α := Int) 3 (List.map DoorR.row rs63)) :: (.own s62 204 5 (encs rs63)) :: (.own s67 209 3 (encs r60.1.Way)) :: (.blk b58 (enc (EnterR.mk r44.1 s46 s51)) 114) :: (.own Sl.nil 209 3 (encs ([] : List Word))) :: (.own Sl.nil 204 5 (encs ([] : List DoorR))) :: (.rows (α := Int) 3 (List.map DoorR.row rs47)) :: (.own s46 204 5 (encs rs47)) :: (.own s51 209 3 (encs r44.1.Way)) :: (.blk b42 (enc (EnterR.mk r28.1 s30 s35)) 114) :: (.own Sl.nil 209 3 (encs ([] : List Word))) :: (.own Sl.nil 204 5 (encs ([] : List DoorR))) :: (.rows (α := Int) 3 (List.map DoorR.row rs31)) :: (.own s30 204 5 (encs rs31)) :: (.own s35 209 3 (encs r28.1.Way)) :: (.blk b26 (enc (EnterR.mk r12.1 s14 s19)) 114) :: (.own Sl.nil 209 3 (encs ([] : List Word))) :: (.own Sl.nil 204 5 (encs ([] : List DoorR))) :: (.rows (α := Int) 3 (List.map DoorR.row rs15)) :: (.own s14 204 5 (encs rs15)) :: (.blk b10 (enc (EnterR.mk Enter.zero Sl.nil Sl.nil)) 114) :: (.own Sl.nil 209 3 (encs ([] : List Word))) :: (.own Sl.nil 204 5 (encs ([] : List DoorR))) :: (.blk b1 (enc (EnterR.mk a0 s_a0_0 s_a0_1)) 114) :: L) (fun _ y294 => y294 = o293) ?_ ?_
 ·rcases (Bool.eq_false_or_eq_true r289).symm with hb295 | hb295
  ·replace H := ite_f hb295 H
   refine Lst.skip rfl rfl rfl hb295 rfl (by decide) ?_
   refine Lst.skip rfl rfl rfl hb295 rfl (by decide) ?_
   refine Lst.skip rfl rfl rfl hb295 rfl (by decide) ?_
   refine Lst.r (Ev.pickF rfl hb295 rfl) ?_
   refine Lst.nil ?_
   exact At.meet false (FLe.refl _) ⟨rfl, rfl, rfl, rfl, rfl, trivial⟩ rfl (some_inj H)
  replace H := ite_t hb295 H
  refine Lst.rG hb295 (Ev.move rfl) ?_
  refine Lst.rG hb295 (Ev.move rfl) ?_
  refine Lst.rG hb295 (Ev.eql rfl rfl) ?_
  refine Lst.r (Ev.pickT rfl hb295 rfl) ?_
  refine Lst.nil ?_
  exact At.meet (r28.2 == r257.2) (FLe.refl _) ⟨rfl, rfl, rfl, rfl, rfl, trivial⟩ rfl (some_inj H)
 rintro F296 y294 hF297 hy
 subst hy
 refine Lst.as (e' := [(17, pv b74 0), (18, iv r60.2), (21, pv b287 0), (22, iv r273.2), (178, .bool y294)]) (L' := (.blk b287 (enc (EnterR.mk r273.1 s275 s280)) 114) :: (.own Sl.nil 209 3 (encs ([] : List Word))) :: (.own Sl.nil 204 5 (encs ([] : List DoorR))) :: (.rows (α := Int) 3 (List.map DoorR.row rs276)) :: (.own s275 204 5 (encs rs276)) :: (.own s280 209 3 (encs r273.1.Way)) :: (.blk b271 (enc (EnterR.mk r257.1 s259 s264)) 114) :: (.own Sl.nil 209 3 (encs ([] : List Word))) :: (.own Sl.nil 204 5 (encs ([] : List DoorR))) :: (.rows (α := Int) 3 (List.map DoorR.row rs260)) :: (.own s259 204 5 (encs rs260)) :: (.own s264 209 3 (encs r257.1.Way)) :: (.blk b74 (enc (EnterR.mk r60.1 s62 s67)) 114) :: (.own Sl.nil 209 3 (encs ([] : List Word))) :: (.own Sl.nil 204 5 (encs ([] : List DoorR))) :: (.rows (α := Int) 3 (List.map DoorR.row rs63)) :: (.own s62 204 5 (encs rs63)) :: (.own s67 209 3 (encs r60.1.Way)) :: (.blk b58 (enc (EnterR.mk r44.1 s46 s51)) 114) :: (.own Sl.nil 209 3 (encs ([] : List Word))) :: (.own Sl.nil 204 5 (encs ([] : List DoorR))) :: (.rows (α := Int) 3 (List.map DoorR.row rs47)) :: (.own s46 204 5 (encs rs47)) :: (.own s51 209 3 (encs r44.1.Way)) :: (.blk b42 (enc (EnterR.mk r28.1 s30 s35)) 114) :: (.own Sl.nil 209 3 (encs ([] : List Word))) :: (.own Sl.nil 204 5 (encs ([] : List DoorR))) :: (.rows (α := Int) 3 (List.map DoorR.row rs31)) :: (.own s30 204 5 (encs rs31)) :: (.own s35 209 3 (encs r28.1.Way)) :: (.blk b26 (enc (EnterR.mk r12.1 s14 s19)) 114) :: (.own Sl.nil 209 3 (encs ([] : List Word))) :: (.own Sl.nil 204 5 (encs ([] : List DoorR))) :: (.rows (α := Int) 3 (List.map DoorR.row rs15)) :: (.own s14 204 5 (encs rs15)) :: (.blk b10 (enc (EnterR.mk Enter.zero Sl.nil Sl.nil)) 114) :: (.own Sl.nil 209 3 (encs ([] : List Word))) :: (.own Sl.nil 204 5 (encs ([] : List DoorR))) :: (.blk b1 (enc (EnterR.mk a0 s_a0_0 s_a0_1)) 114) :: L) ⟨rfl, rfl, rfl, rfl, rfl, trivial⟩ rfl ?_
 replace H := HKo293
 refine Lst.r (Ev.move rfl) ?_
 obtain ⟨o298, H, HKo298⟩ := bind_some H
 refine Lst.join (σ := Bool) 4 (fun y299 => [(18, iv r60.2), (22, iv r273.2), (183, .bool y299)]) (fun y299 => (.blk b287 (enc (EnterR.mk r273.1 s275 s280)) 114) :: (.own Sl.nil 209 3 (encs ([] : List Word))) :: (.own Sl.nil 204 5 (encs ([] : List DoorR))) :: (.rows (α := Int) 3 (List.map DoorR.row rs276)) :: (.own s275 204 5 (encs rs276)) :: (.own s280 209 3 (encs r273.1.Way)) :: (.blk b271 (enc (EnterR.mk r257.1 s259 s264)) 114) :: (.own Sl.nil 209 3 (encs ([] : List Word))) :: (.own Sl.nil 204 5 (encs ([] : List DoorR))) :: (.rows (α := Int) 3 (List.map DoorR.row rs260)) :: (.own s259 204 5 (encs rs260)) :: (.own s264 209 3 (encs r257.1.Way)) :: (.blk b74 (enc (EnterR.mk r60.1 s62 s67)) 114) :: (.own Sl.nil 209 3 (encs ([] : List Word))) :: (.own Sl.nil 204 5 (encs ([] : List DoorR))) :: (.rows (α := Int) 3 (List.map DoorR.row rs63)) :: (.own s62 204 5 (encs rs63)) :: (.own s67 209 3 (encs r60.1.Way)) :: (.blk b58 (enc (EnterR.mk r44.1 s46 s51)) 114) :: (.own Sl.nil 209 3 (encs ([] : List Word))) :: (.own Sl.nil 204 5 (encs ([] : List DoorR))) :: (.rows (α := Int) 3 (List.map DoorR.row rs47)) :: (.own s46 204 5 (encs rs47)) :: (.own s51 209 3 (encs r44.1.Way)) :: (.blk b42 (enc (EnterR.mk r28.1 s30 s35)) 114) :: (.own Sl.nil 209 3 (encs ([] : List Word))) :: (.own Sl.nil 204 5 (encs ([] : List DoorR))) :: (.rows (α := Int) 3 (List.map DoorR.row rs31)) :: (.own s30 204 5 (encs rs31)) :: (.own s35 209 3 (encs r28.1.Way)) :: (.blk b26 (enc (EnterR.mk r12.1 s14 s19)) 114) :: (.own Sl.nil 209 3 (encs ([] : List Word))) :: (.own Sl.nil 204 5 (encs ([] : List DoorR))) :: (.rows (α := Int) 3 (List.map DoorR.row rs15)) :: (.own s14 204 5 (encs rs15)) :: (.blk b10 (enc (EnterR.mk Enter.zero Sl.nil Sl.nil)) 114) :: (.own Sl.nil 209 3 (encs ([] : List Word))) :: (.own Sl.nil 204 5 (encs ([] : List DoorR))) :: (.blk b1 (enc (EnterR.mk a0 s_a0_0 s_a0_1)) 114) :: L) (fun _ y299 => y299 = o298) ?_ ?_
 ·rcases (Bool.eq_false_or_eq_true y294).symm with hb300 | hb300
  ·replace H := ite_f hb300 H
   refine Lst.skip rfl rfl rfl hb300 rfl (by decide) ?_
   refine Lst.skip rfl rfl rfl hb300 rfl (by decide) ?_
   refine Lst.skip rfl rfl rfl hb300 rfl (by decide) ?_
   refine Lst.r (Ev.pickF rfl hb300 rfl) ?_
   refine Lst.nil ?_
   exact At.meet false (FLe.refl _) ⟨rfl, rfl, rfl, trivial⟩ rfl (some_inj H)
  replace H := ite_t hb300 H
  refine Lst.rG hb300 (Ev.loadA (i := 12) rfl rfl Try.isAgg114 Try.sizeOf114 (ch := enc (EnterR.mk r60.1 s62 s67)) (Enc.len _) (Get.here _)) ?_
  refine Lst.rG hb300 (Ev.loadA (i := 0) rfl rfl Try.isAgg114 Try.sizeOf114 (ch := enc (EnterR.mk r273.1 s275 s280)) (Enc.len _) (Get.here _)) ?_
  obtain ⟨r301, h302, H⟩ := bind_some H
  refine Lst.call1G rfl rfl rfl hb300 rfl (by decide) (vs := [.agg (enc (EnterR.mk r60.1 s62 s67)).toArray, .agg (enc (EnterR.mk r273.1 s275 s280)).toArray]) ⟨rfl, rfl, trivial⟩ Try.call68 (partref_SameEnter_sim h302 w0 _ _ _ (.refl _) fm64 (Rd.own (i := 16) rfl rfl rfl) (DoorR.rowAll (All.rowsHead (j := 15) rfl)) (Rd.own (i := 17) rfl rfl rfl) fm277 (Rd.own (i := 4) rfl rfl rfl) (DoorR.rowAll (All.rowsHead (j := 3) rfl)) (Rd.own (i := 5) rfl rfl rfl)) ?_
  refine Lst.r (Ev.pickT rfl hb300 rfl) ?_
  refine Lst.nil ?_
  exact At.meet r301 (FLe.refl _) ⟨rfl, rfl, rfl, trivial⟩ rfl (some_inj H)
 rintro F305 y299 hF306 hy
 subst hy
 refine Lst.as (e' := [(18, iv r60.2), (22, iv r273.2), (183, .bool y299)]) (L' := (.blk b287 (enc (EnterR.mk r273.1 s275 s280)) 114) :: (.own Sl.nil 209 3 (encs ([] : List Word))) :: (.own Sl.nil 204 5 (encs ([] : List DoorR))) :: (.rows (α := Int) 3 (List.map DoorR.row rs276)) :: (.own s275 204 5 (encs rs276)) :: (.own s280 209 3 (encs r273.1.Way)) :: (.blk b271 (enc (EnterR.mk r257.1 s259 s264)) 114) :: (.own Sl.nil 209 3 (encs ([] : List Word))) :: (.own Sl.nil 204 5 (encs ([] : List DoorR))) :: (.rows (α := Int) 3 (List.map DoorR.row rs260)) :: (.own s259 204 5 (encs rs260)) :: (.own s264 209 3 (encs r257.1.Way)) :: (.blk b74 (enc (EnterR.mk r60.1 s62 s67)) 114) :: (.own Sl.nil 209 3 (encs ([] : List Word))) :: (.own Sl.nil 204 5 (encs ([] : List DoorR))) :: (.rows (α := Int) 3 (List.map DoorR.row rs63)) :: (.own s62 204 5 (encs rs63)) :: (.own s67 209 3 (encs r60.1.Way)) :: (.blk b58 (enc (EnterR.mk r44.1 s46 s51)) 114) :: (.own Sl.nil 209 3 (encs ([] : List Word))) :: (.own Sl.nil 204 5 (encs ([] : List DoorR))) :: (.rows (α := Int) 3 (List.map DoorR.row rs47)) :: (.own s46 204 5 (encs rs47)) :: (.own s51 209 3 (encs r44.1.Way)) :: (.blk b42 (enc (EnterR.mk r28.1 s30 s35)) 114) :: (.own Sl.nil 209 3 (encs ([] : List Word))) :: (.own Sl.nil 204 5 (encs ([] : List DoorR))) :: (.rows (α := Int) 3 (List.map DoorR.row rs31)) :: (.own s30 204 5 (encs rs31)) :: (.own s35 209 3 (encs r28.1.Way)) :: (.blk b26 (enc (EnterR.mk r12.1 s14 s19)) 114) :: (.own Sl.nil 209 3 (encs ([] : List Word))) :: (.own Sl.nil 204 5 (encs ([] : List DoorR))) :: (.rows (α := Int) 3 (List.map DoorR.row rs15)) :: (.own s14 204 5 (encs rs15)) :: (.blk b10 (enc (EnterR.mk Enter.zero Sl.nil Sl.nil)) 114) :: (.own Sl.nil 209 3 (encs ([] : List Word))) :: (.own Sl.nil 204 5 (encs ([] : List DoorR))) :: (.blk b1 (enc (EnterR.mk a0 s_a0_0 s_a0_1)) 114) :: L) ⟨rfl, rfl, rfl, trivial⟩ rfl ?_
 replace H := HKo298
 refine Lst.r (Ev.move rfl) ?_
 obtain ⟨o307, H, HKo307⟩ := bind_some H
 refine Lst.join (σ := Bool) 4 (fun y308 => [(188, .bool y308)]) (fun y308 => (.blk b287 (enc (EnterR.mk r273.1 s275 s280)) 114) :: (.own Sl.nil 209 3 (encs ([] : List Word))) :: (.own Sl.nil 204 5 (encs ([] : List DoorR))) :: (.rows (α := Int) 3 (List.map DoorR.row rs276)) :: (.own s275 204 5 (encs rs276)) :: (.own s280 209 3 (encs r273.1.Way)) :: (.blk b271 (enc (EnterR.mk r257.1 s259 s264)) 114) :: (.own Sl.nil 209 3 (encs ([] : List Word))) :: (.own Sl.nil 204 5 (encs ([] : List DoorR))) :: (.rows (α := Int) 3 (List.map DoorR.row rs260)) :: (.own s259 204 5 (encs rs260)) :: (.own s264 209 3 (encs r257.1.Way)) :: (.blk b74 (enc (EnterR.mk r60.1 s62 s67)) 114) :: (.own Sl.nil 209 3 (encs ([] : List Word))) :: (.own Sl.nil 204 5 (encs ([] : List DoorR))) :: (.rows (α := Int) 3 (List.map DoorR.row rs63)) :: (.own s62 204 5 (encs rs63)) :: (.own s67 209 3 (encs r60.1.Way)) :: (.blk b58 (enc (EnterR.mk r44.1 s46 s51)) 114) :: (.own Sl.nil 209 3 (encs ([] : List Word))) :: (.own Sl.nil 204 5 (encs ([] : List DoorR))) :: (.rows (α := Int) 3 (List.map DoorR.row rs47)) :: (.own s46 204 5 (encs rs47)) :: (.own s51 209 3 (encs r44.1.Way)) :: (.blk b42 (enc (EnterR.mk r28.1 s30 s35)) 114) :: (.own Sl.nil 209 3 (encs ([] : List Word))) :: (.own Sl.nil 204 5 (encs ([] : List DoorR))) :: (.rows (α := Int) 3 (List.map DoorR.row rs31)) :: (.own s30 204 5 (encs rs31)) :: (.own s35 209 3 (encs r28.1.Way)) :: (.blk b26 (enc (EnterR.mk r12.1 s14 s19)) 114) :: (.own Sl.nil 209 3 (encs ([] : List Word))) :: (.own Sl.nil 204 5 (encs ([] : List DoorR))) :: (.rows (α := Int) 3 (List.map DoorR.row rs15)) :: (.own s14 204 5 (encs rs15)) :: (.blk b10 (enc (EnterR.mk Enter.zero Sl.nil Sl.nil)) 114) :: (.own Sl.nil 209 3 (encs ([] : List Word))) :: (.own Sl.nil 204 5 (encs ([] : List DoorR))) :: (.blk b1 (enc (EnterR.mk a0 s_a0_0 s_a0_1)) 114) :: L) (fun _ y308 => y308 = o307) ?_ ?_
 ·rcases (Bool.eq_false_or_eq_true y299).symm with hb309 | hb309
  ·replace H := ite_f hb309 H
   refine Lst.skip rfl rfl rfl hb309 rfl (by decide) ?_
   refine Lst.skip rfl rfl rfl hb309 rfl (by decide) ?_
   refine Lst.skip rfl rfl rfl hb309 rfl (by decide) ?_
   refine Lst.r (Ev.pickF rfl hb309 rfl) ?_
   refine Lst.nil ?_
   exact At.meet false (FLe.refl _) ⟨rfl, trivial⟩ rfl (some_inj H)
  replace H := ite_t hb309 H
  refine Lst.rG hb309 (Ev.move rfl) ?_
  refine Lst.rG hb309 (Ev.move rfl) ?_
  refine Lst.rG hb309 (Ev.eql rfl rfl) ?_
  refine Lst.r (Ev.pickT rfl hb309 rfl) ?_
  refine Lst.nil ?_
  exact At.meet (r60.2 == r273.2) (FLe.refl _) ⟨rfl, trivial⟩ rfl (some_inj H)
 rintro F310 y308 hF311 hy
 subst hy
 refine Lst.as (e' := [(188, .bool y308)]) (L' := (.blk b287 (enc (EnterR.mk r273.1 s275 s280)) 114) :: (.own Sl.nil 209 3 (encs ([] : List Word))) :: (.own Sl.nil 204 5 (encs ([] : List DoorR))) :: (.rows (α := Int) 3 (List.map DoorR.row rs276)) :: (.own s275 204 5 (encs rs276)) :: (.own s280 209 3 (encs r273.1.Way)) :: (.blk b271 (enc (EnterR.mk r257.1 s259 s264)) 114) :: (.own Sl.nil 209 3 (encs ([] : List Word))) :: (.own Sl.nil 204 5 (encs ([] : List DoorR))) :: (.rows (α := Int) 3 (List.map DoorR.row rs260)) :: (.own s259 204 5 (encs rs260)) :: (.own s264 209 3 (encs r257.1.Way)) :: (.blk b74 (enc (EnterR.mk r60.1 s62 s67)) 114) :: (.own Sl.nil 209 3 (encs ([] : List Word))) :: (.own Sl.nil 204 5 (encs ([] : List DoorR))) :: (.rows (α := Int) 3 (List.map DoorR.row rs63)) :: (.own s62 204 5 (encs rs63)) :: (.own s67 209 3 (encs r60.1.Way)) :: (.blk b58 (enc (EnterR.mk r44.1 s46 s51)) 114) :: (.own Sl.nil 209 3 (encs ([] : List Word))) :: (.own Sl.nil 204 5 (encs ([] : List DoorR))) :: (.rows (α := Int) 3 (List.map DoorR.row rs47)) :: (.own s46 204 5 (encs rs47)) :: (.own s51 209 3 (encs r44.1.Way)) :: (.blk b42 (enc (EnterR.mk r28.1 s30 s35)) 114) :: (.own Sl.nil 209 3 (encs ([] : List Word))) :: (.own Sl.nil 204 5 (encs ([] : List DoorR))) :: (.rows (α := Int) 3 (List.map DoorR.row rs31)) :: (.own s30 204 5 (encs rs31)) :: (.own s35 209 3 (encs r28.1.Way)) :: (.blk b26 (enc (EnterR.mk r12.1 s14 s19)) 114) :: (.own Sl.nil 209 3 (encs ([] : List Word))) :: (.own Sl.nil 204 5 (encs ([] : List DoorR))) :: (.rows (α := Int) 3 (List.map DoorR.row rs15)) :: (.own s14 204 5 (encs rs15)) :: (.blk b10 (enc (EnterR.mk Enter.zero Sl.nil Sl.nil)) 114) :: (.own Sl.nil 209 3 (encs ([] : List Word))) :: (.own Sl.nil 204 5 (encs ([] : List DoorR))) :: (.blk b1 (enc (EnterR.mk a0 s_a0_0 s_a0_1)) 114) :: L) ⟨rfl, trivial⟩ rfl ?_
 replace H := HKo307
 refine Lst.r (Ev.assign rfl) ?_
 refine Lst.nil ?_
 refine At.then ?_
 obtain rfl := some_inj H
 refine Cd.ret ?_
 exact At.ret1 rfl (Res.tmp rfl) (FLe.trans (FLe.trans (FLe.trans (FLe.trans (FLe.trans (FLe.trans (FLe.trans (FLe.trans (FLe.trans (FLe.trans (FLe.trans hF22 hF38) hF54) hF70) hF126) hF226) hF232) hF267) hF283) hF297) hF306) hF311) (sc1 (sc1 (sc1 (sc1 (sc1 (sc1 (sc1 (sc1 (sc1 (sc1 (sc1 (sc1 (sc1 (sc1 (sc1 (sc1 (sc1 (sc1 (sc1 (sc1 (sc1 (sc1 (sc1 (sc1 (sc1 (sc1 (sc1 (sc1 (sc1 (sc1 (sc1 (sc1 (sc1 (sc1 (sc1 (sc1 (sc1 (sc1 (sc1 (.refl _)))))))))))))))))))))))))))))))))))))))) ⟨rfl, rfl⟩
end Go.Proofs.Ytobikknjaomalaa
