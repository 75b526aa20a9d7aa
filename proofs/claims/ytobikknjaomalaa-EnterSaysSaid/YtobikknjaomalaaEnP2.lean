/-
  The functions compute their specs; printed by a program.
-/
import Derived.Test.YtobikknjaomalaaEnP1
namespace Go.Proofs.Ytobikknjaomalaa
open Go.RowKit Enc
set_option linter.unusedVariables false
set_option linter.unusedSimpArgs false
set_option maxHeartbeats 2000000 in
set_option maxRecDepth 20000 in
theorem enter_Take_sim {a0 : Enter} {a1 : Int} {s_a0_0 : Sl} {rs_a0_0 : List DoorR} {s_a0_1 : Sl} {r : Enter × Int} (H : enter_Take a0 a1 = some r) (w0 : World) (F : Frz) (M L : List Item) (hM : M.Sublist L) (hm_a0_0 : rs_a0_0.map DoorR.v = a0.Doors) (hs_a0_0 : Rd w0 F M s_a0_0 rs_a0_0) (ha_a0_0 : All DoorR.rel w0 F M rs_a0_0) (hs_a0_1 : Rd w0 F M s_a0_1 a0.Way) : Ok Try.prog w0 66 [.agg (enc (EnterR.mk a0 s_a0_0 s_a0_1)).toArray, iv a1] F (L) (fun Fx L' v => ∃ (s1 : Sl) (rs2 : List DoorR) (s6 : Sl), v = .tuple #[.agg (enc (EnterR.mk r.1 s1 s6)).toArray, iv r.2] ∧ L' = (.rows (α := Int) 3 (List.map DoorR.row rs2)) :: (.own s1 204 5 (encs rs2)) :: (.own s6 209 3 (encs r.1.Way)) :: L ∧ rs2.map DoorR.v = r.1.Doors) := by
 unfold enter_Take at H
 refine Ok.enter (m := 2) (n := 158) Try.func66 rfl rfl rfl (by decide) ?_
 refine Cd.env (e' := [(0, .agg (enc (EnterR.mk a0 s_a0_0 s_a0_1)).toArray), (1, iv a1)]) rfl ?_
 refine Cd.seq ?_
 refine Cd.region ?_
 refine Lst.box rfl rfl (by decide) rfl (cs := enc (EnterR.mk a0 s_a0_0 s_a0_1)) rfl (fun b1 => ?_)
 have ha4 : All DoorR.rel w0 F [] ([] : List DoorR) := All.nil
 have ha4m : List.map DoorR.v ([] : List DoorR) = ([] : List Door) := rfl
 refine Lst.addNil 204 5 ?_
 refine Lst.addNil 209 3 ?_
 refine Lst.alloc (cs := enc (EnterR.mk ({ Enter.zero with Doors := ([] : List Door), Way := ([] : List Word) } : Enter) Sl.nil Sl.nil)) rfl rfl (by decide) Try.zeroValue114 rfl (fun b6 => ?_)
 refine Lst.r (Ev.assign rfl) ?_
 refine Lst.nil ?_
 refine At.then ?_
 refine Cd.seq ?_
 refine Cd.seq ?_
 refine Cd.region ?_
 refine Lst.r (Ev.loadA (i := 3) rfl rfl Try.isAgg114 Try.sizeOf114 (ch := enc (EnterR.mk a0 s_a0_0 s_a0_1)) (Enc.len _) (Get.here _)) ?_
 obtain ⟨r8, h9, H⟩ := bind_some H
 refine Lst.call1 rfl rfl (by decide) (vs := [.agg (enc (EnterR.mk a0 s_a0_0 s_a0_1)).toArray]) ⟨rfl, trivial⟩ Try.call69 (enter_Check_sim h9 w0 _ M _ (sc4 hM) hm_a0_0 (hs_a0_0.mono (FLe.refl _) (.refl _)) (All.monoDoor ha_a0_0 (FLe.refl _) (.refl _)) (hs_a0_1.mono (FLe.refl _) (.refl _))) ?_
 refine Lst.r (Ev.assign rfl) ?_
 refine Lst.nil ?_
 refine At.then ?_
 refine Cd.seq ?_
 refine Cd.region ?_
 refine Lst.r (Ev.move rfl) ?_
 refine Lst.r (Ev.neq rfl rfl) ?_
 refine Lst.nil ?_
 refine At.then ?_
 rcases Bool.eq_false_or_eq_true (r8 != (0 : Int)) with hb12 | hb12
 ·replace H := ite_t hb12 H
  refine Cd.condT rfl hb12 ?_
  refine Cd.seq ?_
  refine Cd.region ?_
  refine Lst.r (Ev.build (v := .agg (enc (EnterR.mk Enter.zero Sl.nil Sl.nil)).toArray) (pv := []) trivial (fun w => by kernel_rfl)) ?_
  refine Lst.r (Ev.move rfl) ?_
  refine Lst.store (i := 0) rfl rfl rfl rfl rfl Try.sizeOf114 (vs := enc (EnterR.mk Enter.zero Sl.nil Sl.nil)) rfl (Enc.len _) (Enc.one _) (cs' := enc (EnterR.mk Enter.zero Sl.nil Sl.nil)) (Put.here ((Enc.len _).trans (Enc.len _).symm)) (L' := (.blk b6 (enc (EnterR.mk Enter.zero Sl.nil Sl.nil)) 114) :: (.own Sl.nil 209 3 (encs ([] : List Word))) :: (.own Sl.nil 204 5 (encs ([] : List DoorR))) :: (.blk b1 (enc (EnterR.mk a0 s_a0_0 s_a0_1)) 114) :: L) rfl ?_
  refine Lst.r (Ev.assign rfl) ?_
  refine Lst.nil ?_
  refine At.then ?_
  obtain rfl := some_inj H
  refine Cd.ret ?_
  refine At.then_ret ?_
  have ha15m : List.map DoorR.v ([] : List DoorR) = ([] : List Door) := rfl
  refine At.addNil 204 5 ?_
  refine At.rowsNil Int 3 0 ?_
  refine At.its (L' := (.rows (α := Int) 3 (List.map DoorR.row ([] : List DoorR))) :: (.own Sl.nil 204 5 (encs ([] : List DoorR))) :: (.blk b6 (enc (EnterR.mk Enter.zero Sl.nil Sl.nil)) 114) :: (.own Sl.nil 209 3 (encs ([] : List Word))) :: (.own Sl.nil 204 5 (encs ([] : List DoorR))) :: (.blk b1 (enc (EnterR.mk a0 s_a0_0 s_a0_1)) 114) :: L) rfl ?_
  refine At.addNil 209 3 ?_
  refine At.front (i := 2) rfl rfl ?_
  refine At.front (i := 2) rfl (L' := (.rows (α := Int) 3 (List.map DoorR.row ([] : List DoorR))) :: (.own Sl.nil 204 5 (encs ([] : List DoorR))) :: (.own Sl.nil 209 3 (encs ([] : List Word))) :: (.blk b6 (enc (EnterR.mk ({ Enter.zero with Doors := ([] : List Door), Way := ([] : List Word) } : Enter) Sl.nil Sl.nil)) 114) :: (.own Sl.nil 209 3 (encs ([] : List Word))) :: (.own Sl.nil 204 5 (encs ([] : List DoorR))) :: (.blk b1 (enc (EnterR.mk a0 s_a0_0 s_a0_1)) 114) :: L) rfl ?_
  exact At.ret2 rfl (Res.cellA (i := 3) rfl rfl Try.isAgg114 Try.sizeOf114 (Enc.len _)) (Res.tmp rfl) (FLe.refl _) (sk1 (sk1 (sk1 (sc1 (sc1 (sc1 (sc1 (.refl _)))))))) ⟨Sl.nil, ([] : List DoorR), Sl.nil, rfl, rfl, ha15m⟩
 replace H := ite_f hb12 H
 refine Cd.condF rfl hb12 ?_
 refine Cd.skip ?_
 refine At.then ?_
 refine Cd.seq ?_
 refine Cd.seq ?_
 refine Cd.region ?_
 refine Lst.r (Ev.move rfl) ?_
 refine Lst.r (Ev.fieldAddr (off' := 1) rfl Try.runUnderlying114 rfl Try.sizeOf112 rfl rfl) ?_
 refine Lst.r (Ev.load (i := 3) rfl rfl Try.isAgg112 (v := Sl.v s_a0_1) ((EnterR.get_Way (Get.here _)).off (by rfl))) ?_
 refine Lst.r (Ev.lenS (α := Word) (xs := a0.Way) (by decide) rfl rfl Try.runUnderlying112 (hs_a0_1.mono (FLe.refl _) (sc4 hM))) ?_
 refine Lst.r (Ev.sub rfl rfl) ?_
 obtain ⟨r17, h18, H⟩ := bind_some H
 refine Lst.call1 rfl rfl (by decide) (vs := [iv a1, iv (0 : Int), iv (w64 ((a0.Way.length : Int) - (1 : Int)))]) ⟨rfl, rfl, rfl, trivial⟩ Try.call155 (enter_in_sim h18 w0 _ M _ (sc4 hM)) ?_
 refine Lst.r (Ev.not rfl) ?_
 refine Lst.nil ?_
 refine At.then ?_
 rcases Bool.eq_false_or_eq_true (!r17) with hb21 | hb21
 ·replace H := ite_t hb21 H
  refine Cd.condT rfl hb21 ?_
  refine Cd.seq ?_
  refine Cd.as (e' := [(4, pv b6 0)]) (L' := (.blk b6 (enc (EnterR.mk ({ Enter.zero with Doors := ([] : List Door), Way := ([] : List Word) } : Enter) Sl.nil Sl.nil)) 114) :: (.own Sl.nil 209 3 (encs ([] : List Word))) :: (.own Sl.nil 204 5 (encs ([] : List DoorR))) :: (.blk b1 (enc (EnterR.mk a0 s_a0_0 s_a0_1)) 114) :: L) ⟨rfl, trivial⟩ rfl ?_
  refine Cd.region ?_
  refine Lst.r (Ev.build (v := .agg (enc (EnterR.mk Enter.zero Sl.nil Sl.nil)).toArray) (pv := []) trivial (fun w => by kernel_rfl)) ?_
  refine Lst.store (i := 0) rfl rfl rfl rfl rfl Try.sizeOf114 (vs := enc (EnterR.mk Enter.zero Sl.nil Sl.nil)) rfl (Enc.len _) (Enc.one _) (cs' := enc (EnterR.mk Enter.zero Sl.nil Sl.nil)) (Put.here ((Enc.len _).trans (Enc.len _).symm)) (L' := (.blk b6 (enc (EnterR.mk Enter.zero Sl.nil Sl.nil)) 114) :: (.own Sl.nil 209 3 (encs ([] : List Word))) :: (.own Sl.nil 204 5 (encs ([] : List DoorR))) :: (.blk b1 (enc (EnterR.mk a0 s_a0_0 s_a0_1)) 114) :: L) rfl ?_
  refine Lst.r (Ev.assign rfl) ?_
  refine Lst.nil ?_
  refine At.then ?_
  obtain rfl := some_inj H
  refine Cd.ret ?_
  refine At.then_ret ?_
  have ha24m : List.map DoorR.v ([] : List DoorR) = ([] : List Door) := rfl
  refine At.addNil 204 5 ?_
  refine At.rowsNil Int 3 0 ?_
  refine At.its (L' := (.rows (α := Int) 3 (List.map DoorR.row ([] : List DoorR))) :: (.own Sl.nil 204 5 (encs ([] : List DoorR))) :: (.blk b6 (enc (EnterR.mk Enter.zero Sl.nil Sl.nil)) 114) :: (.own Sl.nil 209 3 (encs ([] : List Word))) :: (.own Sl.nil 204 5 (encs ([] : List DoorR))) :: (.blk b1 (enc (EnterR.mk a0 s_a0_0 s_a0_1)) 114) :: L) rfl ?_
  refine At.addNil 209 3 ?_
  refine At.front (i := 2) rfl rfl ?_
  refine At.front (i := 2) rfl (L' := (.rows (α := Int) 3 (List.map DoorR.row ([] : List DoorR))) :: (.own Sl.nil 204 5 (encs ([] : List DoorR))) :: (.own Sl.nil 209 3 (encs ([] : List Word))) :: (.blk b6 (enc (EnterR.mk ({ Enter.zero with Doors := ([] : List Door), Way := ([] : List Word) } : Enter) Sl.nil Sl.nil)) 114) :: (.own Sl.nil 209 3 (encs ([] : List Word))) :: (.own Sl.nil 204 5 (encs ([] : List DoorR))) :: (.blk b1 (enc (EnterR.mk a0 s_a0_0 s_a0_1)) 114) :: L) rfl ?_
  exact At.ret2 rfl (Res.cellA (i := 3) rfl rfl Try.isAgg114 Try.sizeOf114 (Enc.len _)) (Res.tmp rfl) (FLe.refl _) (sk1 (sk1 (sk1 (sc1 (sc1 (sc1 (sc1 (.refl _)))))))) ⟨Sl.nil, ([] : List DoorR), Sl.nil, rfl, rfl, ha24m⟩
 replace H := ite_f hb21 H
 refine Cd.condF rfl hb21 ?_
 refine Cd.skip ?_
 refine At.then ?_
 refine Cd.seq ?_
 refine Cd.region ?_
 refine Lst.r (Ev.loadA (i := 3) rfl rfl Try.isAgg114 Try.sizeOf114 (ch := enc (EnterR.mk a0 s_a0_0 s_a0_1)) (Enc.len _) (Get.here _)) ?_
 obtain ⟨r26, h27, H⟩ := bind_some H
 refine Lst.call rfl rfl (by decide) (vs := [.agg (enc (EnterR.mk a0 s_a0_0 s_a0_1)).toArray]) ⟨rfl, trivial⟩ Try.call156 (enter_clone_sim h27 w0 _ M _ (sc4 hM) hm_a0_0 (hs_a0_0.mono (FLe.refl _) (.refl _)) (All.monoDoor ha_a0_0 (FLe.refl _) (.refl _)) (hs_a0_1.mono (FLe.refl _) (.refl _))) (fun F35 L' v hF36 hv => ?_)
 obtain ⟨s28, rs29, s33, rfl, rfl, fm30⟩ := hv
 have ha38 : All DoorR.rel w0 F35 [] ([] : List DoorR) := All.nil
 have ha38m : List.map DoorR.v ([] : List DoorR) = ([] : List Door) := rfl
 refine Lst.addNil 204 5 ?_
 refine Lst.addNil 209 3 ?_
 refine Lst.alloc (cs := enc (EnterR.mk ({ Enter.zero with Doors := ([] : List Door), Way := ([] : List Word) } : Enter) Sl.nil Sl.nil)) rfl rfl (by decide) Try.zeroValue114 rfl (fun b40 => ?_)
 refine Lst.store (i := 0) rfl rfl rfl rfl rfl Try.sizeOf114 (vs := enc (EnterR.mk r26 s28 s33)) rfl (Enc.len _) (Enc.one _) (cs' := enc (EnterR.mk r26 s28 s33)) (Put.here ((Enc.len _).trans (Enc.len _).symm)) (L' := (.blk b40 (enc (EnterR.mk r26 s28 s33)) 114) :: (.own Sl.nil 209 3 (encs ([] : List Word))) :: (.own Sl.nil 204 5 (encs ([] : List DoorR))) :: (.rows (α := Int) 3 (List.map DoorR.row rs29)) :: (.own s28 204 5 (encs rs29)) :: (.own s33 209 3 (encs r26.Way)) :: (.blk b6 (enc (EnterR.mk ({ Enter.zero with Doors := ([] : List Door), Way := ([] : List Word) } : Enter) Sl.nil Sl.nil)) 114) :: (.own Sl.nil 209 3 (encs ([] : List Word))) :: (.own Sl.nil 204 5 (encs ([] : List DoorR))) :: (.blk b1 (enc (EnterR.mk a0 s_a0_0 s_a0_1)) 114) :: L) rfl ?_
 refine Lst.nil ?_
 refine At.then ?_
 refine Cd.seq ?_
 refine Cd.as (e' := [(1, iv a1), (4, pv b6 0), (7, pv b40 0)]) (L' := (.blk b40 (enc (EnterR.mk r26 s28 s33)) 114) :: (.own Sl.nil 209 3 (encs ([] : List Word))) :: (.own Sl.nil 204 5 (encs ([] : List DoorR))) :: (.rows (α := Int) 3 (List.map DoorR.row rs29)) :: (.own s28 204 5 (encs rs29)) :: (.own s33 209 3 (encs r26.Way)) :: (.blk b6 (enc (EnterR.mk ({ Enter.zero with Doors := ([] : List Door), Way := ([] : List Word) } : Enter) Sl.nil Sl.nil)) 114) :: (.own Sl.nil 209 3 (encs ([] : List Word))) :: (.own Sl.nil 204 5 (encs ([] : List DoorR))) :: (.blk b1 (enc (EnterR.mk a0 s_a0_0 s_a0_1)) 114) :: L) ⟨rfl, rfl, rfl, trivial⟩ rfl ?_
 refine Cd.region ?_
 refine Lst.r (Ev.fieldAddr (off' := 1) rfl Try.runUnderlying114 rfl Try.sizeOf112 rfl rfl) ?_
 refine Lst.r (Ev.load (i := 0) rfl rfl Try.isAgg112 (v := Sl.v s33) ((EnterR.get_Way (Get.here _)).off (by rfl))) ?_
 refine Lst.r (Ev.move rfl) ?_
 obtain ⟨x42, h43, H⟩ := bind_some H
 have g44 := lat_some h43
 refine Lst.r (Ev.indexS (α := Word) (xs := r26.Way) rfl rfl Try.runUnderlying112 Try.sizeOf209 rfl (by decide) (Rd.own (i := 5) rfl rfl rfl) g44.1 g44.2.1) ?_
 refine Lst.r (Ev.loadSA (α := Word) rfl (Rd.own (i := 5) rfl rfl rfl) Try.isAgg209 Try.sizeOf209 (ch := enc x42) (Enc.len _) (by decide) ((Get.elemN (s := 3) (x := x42) rfl g44.2.2 (Get.here _)).off (by omega))) ?_
 refine Lst.alloc (cs := enc Word.zero) rfl rfl (by decide) Try.zeroValue209 rfl (fun b45 => ?_)
 refine Lst.store (i := 0) rfl rfl rfl rfl rfl Try.sizeOf209 (vs := enc x42) rfl (Enc.len _) (Enc.one _) (cs' := enc x42) (Put.here ((Enc.len _).trans (Enc.len _).symm)) (L' := (.blk b45 (enc x42) 209) :: (.blk b40 (enc (EnterR.mk r26 s28 s33)) 114) :: (.own Sl.nil 209 3 (encs ([] : List Word))) :: (.own Sl.nil 204 5 (encs ([] : List DoorR))) :: (.rows (α := Int) 3 (List.map DoorR.row rs29)) :: (.own s28 204 5 (encs rs29)) :: (.own s33 209 3 (encs r26.Way)) :: (.blk b6 (enc (EnterR.mk ({ Enter.zero with Doors := ([] : List Door), Way := ([] : List Word) } : Enter) Sl.nil Sl.nil)) 114) :: (.own Sl.nil 209 3 (encs ([] : List Word))) :: (.own Sl.nil 204 5 (encs ([] : List DoorR))) :: (.blk b1 (enc (EnterR.mk a0 s_a0_0 s_a0_1)) 114) :: L) rfl ?_
 refine Lst.nil ?_
 refine At.then ?_
 refine Cd.seq ?_
 refine Cd.region ?_
 refine Lst.r (Ev.fieldAddr (off' := 1) rfl Try.runUnderlying114 rfl Try.sizeOf112 rfl rfl) ?_
 refine Lst.r (Ev.load (i := 1) rfl rfl Try.isAgg112 (v := Sl.v s33) ((EnterR.get_Way (Get.here _)).off (by rfl))) ?_
 refine Lst.r (Ev.move rfl) ?_
 refine Lst.r (Ev.move rfl) ?_
 refine Lst.r (Ev.add rfl rfl) ?_
 obtain ⟨r47, h48, H⟩ := bind_some H
 refine Lst.front (i := 6) rfl (L' := (.own s33 209 3 (encs r26.Way)) :: (.blk b45 (enc x42) 209) :: (.blk b40 (enc (EnterR.mk r26 s28 s33)) 114) :: (.own Sl.nil 209 3 (encs ([] : List Word))) :: (.own Sl.nil 204 5 (encs ([] : List DoorR))) :: (.rows (α := Int) 3 (List.map DoorR.row rs29)) :: (.own s28 204 5 (encs rs29)) :: (.blk b6 (enc (EnterR.mk ({ Enter.zero with Doors := ([] : List Door), Way := ([] : List Word) } : Enter) Sl.nil Sl.nil)) 114) :: (.own Sl.nil 209 3 (encs ([] : List Word))) :: (.own Sl.nil 204 5 (encs ([] : List DoorR))) :: (.blk b1 (enc (EnterR.mk a0 s_a0_0 s_a0_1)) 114) :: L) rfl ?_
 refine Lst.call rfl rfl (by decide) (vs := [Sl.v s33, iv a1, iv (w64 (a1 + (1 : Int)))]) ⟨rfl, rfl, rfl, trivial⟩ Try.call157 (slices_Delete_api_Word_api_Word_sim h48 w0 _ M _ (sc8 (sc2 hM))) (fun F51 L' v hF52 hv => ?_)
 obtain ⟨s49, rfl, rfl⟩ := hv
 refine Lst.r (Ev.fieldAddr (off' := 1) rfl Try.runUnderlying114 rfl Try.sizeOf112 rfl rfl) ?_
 refine Lst.store (i := 2) rfl rfl rfl rfl rfl Try.sizeOf112 (vs := [Sl.v s49]) rfl rfl rfl (cs' := enc (EnterR.mk ({ r26 with Way := r47 } : Enter) s28 s49)) ((EnterR.put_Way (Put.here (vs := [Sl.v s49]) rfl)).off (by rfl)) (L' := (.own s49 209 3 (encs r47)) :: (.blk b45 (enc x42) 209) :: (.blk b40 (enc (EnterR.mk ({ r26 with Way := r47 } : Enter) s28 s49)) 114) :: (.own Sl.nil 209 3 (encs ([] : List Word))) :: (.own Sl.nil 204 5 (encs ([] : List DoorR))) :: (.rows (α := Int) 3 (List.map DoorR.row rs29)) :: (.own s28 204 5 (encs rs29)) :: (.blk b6 (enc (EnterR.mk ({ Enter.zero with Doors := ([] : List Door), Way := ([] : List Word) } : Enter) Sl.nil Sl.nil)) 114) :: (.own Sl.nil 209 3 (encs ([] : List Word))) :: (.own Sl.nil 204 5 (encs ([] : List DoorR))) :: (.blk b1 (enc (EnterR.mk a0 s_a0_0 s_a0_1)) 114) :: L) rfl ?_
 refine Lst.nil ?_
 refine At.then ?_
 refine Cd.seq ?_
 refine Cd.region ?_
 refine Lst.r (Ev.fieldAddr (off' := 0) rfl Try.runUnderlying114 rfl Try.sizeOf111 rfl rfl) ?_
 refine Lst.r (Ev.load (i := 2) rfl rfl Try.isAgg111 (v := Sl.v s28) ((EnterR.get_Doors (Get.here _)).off (by rfl))) ?_
 refine Lst.r (Ev.fieldAddr (off' := 1) rfl Try.runUnderlying209 rfl Try.sizeOf3 rfl rfl) ?_
 refine Lst.r (Ev.load (i := 1) rfl rfl Try.isAgg3 (v := iv x42.To) ((Word.get_To (Get.here _)).off (by rfl))) ?_
 obtain ⟨x53, h54, H⟩ := bind_some H
 have g55 := lat_some h54
 obtain ⟨⟨r56v, r56h4⟩, r56g, r56e, r56m⟩ := map_get fm30 g55.2.2
 obtain rfl : x53 = r56v := r56e.symm
 have r56wg := map_at DoorR.row r56g
 refine Lst.r (Ev.indexS (α := DoorR) (xs := rs29) rfl rfl Try.runUnderlying111 Try.sizeOf204 rfl (by decide) (Rd.own (i := 6) rfl rfl rfl) g55.1 (by have := map_len fm30; omega)) ?_
 refine Lst.r (Ev.assign rfl) ?_
 refine Lst.nil ?_
 refine At.then ?_
 refine Cd.seq ?_
 refine Cd.seq ?_
 refine Cd.as (e' := [(4, pv b6 0), (7, pv b40 0), (8, pv b45 0), (9, Sl.at s28 (x42.To.toNat * 5))]) (L' := (.own s49 209 3 (encs r47)) :: (.blk b45 (enc x42) 209) :: (.blk b40 (enc (EnterR.mk ({ r26 with Way := r47 } : Enter) s28 s49)) 114) :: (.own Sl.nil 209 3 (encs ([] : List Word))) :: (.own Sl.nil 204 5 (encs ([] : List DoorR))) :: (.rows (α := Int) 3 (List.map DoorR.row rs29)) :: (.own s28 204 5 (encs rs29)) :: (.blk b6 (enc (EnterR.mk ({ Enter.zero with Doors := ([] : List Door), Way := ([] : List Word) } : Enter) Sl.nil Sl.nil)) 114) :: (.own Sl.nil 209 3 (encs ([] : List Word))) :: (.own Sl.nil 204 5 (encs ([] : List DoorR))) :: (.blk b1 (enc (EnterR.mk a0 s_a0_0 s_a0_1)) 114) :: L) ⟨rfl, rfl, rfl, rfl, trivial⟩ rfl ?_
 refine Cd.region ?_
 refine Lst.r (Ev.fieldAddr (off' := 2) rfl Try.runUnderlying209 rfl Try.sizeOf3 rfl rfl) ?_
 refine Lst.r (Ev.load (i := 1) rfl rfl Try.isAgg3 (v := iv x42.At) ((Word.get_At (Get.here _)).off (by rfl))) ?_
 refine Lst.r (Ev.eql rfl rfl) ?_
 refine Lst.nil ?_
 refine At.then ?_
 rcases Bool.eq_false_or_eq_true (x42.At == (0 : Int)) with hb57 | hb57
 ·replace H := ite_t hb57 H
  refine Cd.condT rfl hb57 ?_
  obtain ⟨o62, H, HKo62⟩ := bind_some H
  refine Cd.join (σ := Enter × (List Door) × (List DoorR)) (fun (y58, l59, rs60) => [(4, pv b6 0), (7, pv b40 0)]) (fun (y58, l59, rs60) => (.own s49 209 3 (encs r47)) :: (.blk b45 (enc x42) 209) :: (.blk b40 (enc (EnterR.mk ({ y58 with Doors := l59, Way := r47 } : Enter) s28 s49)) 114) :: (.own Sl.nil 209 3 (encs ([] : List Word))) :: (.own Sl.nil 204 5 (encs ([] : List DoorR))) :: (.rows (α := Int) 3 (List.map DoorR.row rs60)) :: (.own s28 204 5 (encs rs60)) :: (.blk b6 (enc (EnterR.mk ({ Enter.zero with Doors := ([] : List Door), Way := ([] : List Word) } : Enter) Sl.nil Sl.nil)) 114) :: (.own Sl.nil 209 3 (encs ([] : List Word))) :: (.own Sl.nil 204 5 (encs ([] : List DoorR))) :: (.blk b1 (enc (EnterR.mk a0 s_a0_0 s_a0_1)) 114) :: L) (fun Fx (y58, l59, rs60) => (y58, l59) = o62 ∧ rs60.map DoorR.v = l59) ?_ ?_
  ·refine Cd.seq ?_
   refine Cd.region ?_
   refine Lst.r (Ev.move rfl) ?_
   refine Lst.r (Ev.nilCheckS (α := DoorR) rfl (Rd.own (i := 6) rfl rfl rfl) ((Get.elemN (s := 5) rfl r56g (Get.here _)).off (by omega)) rfl) ?_
   refine Lst.r (Ev.fieldS (α := DoorR) (f' := x42.To.toNat * 5 + 1) rfl (Rd.own (i := 6) rfl rfl rfl) ((Get.elemN (s := 5) rfl r56g (Get.here _)).off (by omega)) rfl Try.runUnderlying204 rfl Try.sizeOf3 rfl rfl rfl) ?_
   refine Lst.r (Ev.loadS (α := DoorR) rfl (Rd.own (i := 6) rfl rfl rfl) Try.isAgg3 (v := iv x53.Wish) ((Get.elemN (s := 5) rfl r56g (DoorR.get_Wish (Get.here _))).off (by omega))) ?_
   refine Lst.r (Ev.gtr rfl rfl) ?_
   refine Lst.nil ?_
   refine At.then ?_
   rcases (Bool.eq_false_or_eq_true (decide (x53.Wish > (0 : Int)))).symm with hb63 | hb63
   ·replace H := ite_f hb63 H
    refine Cd.condF rfl hb63 ?_
    refine Cd.skip ?_
    exact At.meet (({ r26 with Way := r47 } : Enter), r26.Doors, rs29) (FLe.refl _) ⟨rfl, rfl, trivial⟩ rfl ⟨some_inj H, fm30⟩
   replace H := ite_t hb63 H
   refine Cd.condT rfl hb63 ?_
   refine Cd.seq ?_
   refine Cd.tail 10 (by kernel_rfl) (by kernel_rfl) ?_
   refine Qt.r (Ev.move rfl) ?_
   refine Qt.r (Ev.nilCheckS (α := DoorR) rfl (Rd.own (i := 6) rfl rfl rfl) ((Get.elemN (s := 5) rfl r56g (Get.here _)).off (by omega)) rfl) ?_
   refine Qt.r (Ev.fieldS (α := DoorR) (f' := x42.To.toNat * 5 + 2) rfl (Rd.own (i := 6) rfl rfl rfl) ((Get.elemN (s := 5) rfl r56g (Get.here _)).off (by omega)) rfl Try.runUnderlying204 rfl Try.sizeOf5 rfl rfl rfl) ?_
   refine Qt.r (Ev.loadS (α := DoorR) rfl (Rd.own (i := 6) rfl rfl rfl) Try.isAgg5 (v := .int .u8 x53.Yes.toNat) ((Get.elemN (s := 5) rfl r56g (DoorR.get_Yes (Get.here _))).off (by omega))) ?_
   refine Qt.r (Ev.fieldAddr (off' := 0) rfl Try.runUnderlying209 rfl Try.sizeOf3 rfl rfl) ?_
   refine Qt.r (Ev.load (i := 1) rfl rfl Try.isAgg3 (v := iv x42.From) ((Word.get_From (Get.here _)).off (by rfl))) ?_
   obtain ⟨n64, h65, H⟩ := bind_some H
   refine Qt.r (Ev.shlU8 (i := (1 : BitVec 8)) (m := n64) rfl (congrArg some (congrArg (Value.int .i64) (cnt_some h65)))) ?_
   refine Qt.r (Ev.orU8 (i := x53.Yes) (j := (1 : BitVec 8) <<< n64) rfl rfl) ?_
   refine Qt.r (Ev.nilCheckS (α := DoorR) rfl (Rd.own (i := 6) rfl rfl rfl) ((Get.elemN (s := 5) rfl r56g (Get.here _)).off (by omega)) rfl) ?_
   refine Qt.r (Ev.fieldS (α := DoorR) (f' := x42.To.toNat * 5 + 2) rfl (Rd.own (i := 6) rfl rfl rfl) ((Get.elemN (s := 5) rfl r56g (Get.here _)).off (by omega)) rfl Try.runUnderlying204 rfl Try.sizeOf5 rfl rfl rfl) ?_
   refine Qt.tail ?_
   obtain ⟨p67, h68, H⟩ := Let_some H
   have hm69 : (rs29.set x42.To.toNat (DoorR.mk ({ x53 with Yes := x53.Yes ||| ((1 : BitVec 8) <<< n64) } : Door) r56h4)).map DoorR.v = p67 := (map_set fm30 _ _).trans h68
   refine Lst.storeS (i := 6) rfl rfl rfl rfl rfl Try.sizeOf5 (vs := [.int .u8 (x53.Yes ||| ((1 : BitVec 8) <<< n64)).toNat]) rfl rfl (by decide) rfl (xs' := encs (rs29.set x42.To.toNat (DoorR.mk ({ x53 with Yes := x53.Yes ||| ((1 : BitVec 8) <<< n64) } : Door) r56h4))) ((Put.elemN (s := 5) (x := DoorR.mk x53 r56h4) (y := (DoorR.mk ({ x53 with Yes := x53.Yes ||| ((1 : BitVec 8) <<< n64) } : Door) r56h4)) rfl r56g (DoorR.put_Yes (p := DoorR.mk x53 r56h4) (Put.here (vs := [.int .u8 (x53.Yes ||| ((1 : BitVec 8) <<< n64)).toNat]) rfl))).off (by omega)) (L' := (.own s49 209 3 (encs r47)) :: (.blk b45 (enc x42) 209) :: (.blk b40 (enc (EnterR.mk ({ r26 with Doors := p67, Way := r47 } : Enter) s28 s49)) 114) :: (.own Sl.nil 209 3 (encs ([] : List Word))) :: (.own Sl.nil 204 5 (encs ([] : List DoorR))) :: (.rows (α := Int) 3 (List.map DoorR.row rs29)) :: (.own s28 204 5 (encs (rs29.set x42.To.toNat (DoorR.mk ({ x53 with Yes := x53.Yes ||| ((1 : BitVec 8) <<< n64) } : Door) r56h4)))) :: (.blk b6 (enc (EnterR.mk ({ Enter.zero with Doors := ([] : List Door), Way := ([] : List Word) } : Enter) Sl.nil Sl.nil)) 114) :: (.own Sl.nil 209 3 (encs ([] : List Word))) :: (.own Sl.nil 204 5 (encs ([] : List DoorR))) :: (.blk b1 (enc (EnterR.mk a0 s_a0_0 s_a0_1)) 114) :: L) rfl ?_
   refine Lst.its (L' := (.own s49 209 3 (encs r47)) :: (.blk b45 (enc x42) 209) :: (.blk b40 (enc (EnterR.mk ({ r26 with Doors := p67, Way := r47 } : Enter) s28 s49)) 114) :: (.own Sl.nil 209 3 (encs ([] : List Word))) :: (.own Sl.nil 204 5 (encs ([] : List DoorR))) :: (.rows (α := Int) 3 (List.map DoorR.row (rs29.set x42.To.toNat (DoorR.mk ({ x53 with Yes := x53.Yes ||| ((1 : BitVec 8) <<< n64) } : Door) r56h4)))) :: (.own s28 204 5 (encs (rs29.set x42.To.toNat (DoorR.mk ({ x53 with Yes := x53.Yes ||| ((1 : BitVec 8) <<< n64) } : Door) r56h4)))) :: (.blk b6 (enc (EnterR.mk ({ Enter.zero with Doors := ([] : List Door), Way := ([] : List Word) } : Enter) Sl.nil Sl.nil)) 114) :: (.own Sl.nil 209 3 (encs ([] : List Word))) :: (.own Sl.nil 204 5 (encs ([] : List DoorR))) :: (.blk b1 (enc (EnterR.mk a0 s_a0_0 s_a0_1)) 114) :: L) (by rw [map_set_same (y := (DoorR.mk ({ x53 with Yes := x53.Yes ||| ((1 : BitVec 8) <<< n64) } : Door) r56h4)) r56g rfl]) ?_
   refine Lst.nil ?_
   refine At.then ?_
   refine Cd.as (e' := [(4, pv b6 0), (7, pv b40 0), (8, pv b45 0), (9, Sl.at s28 (x42.To.toNat * 5))]) (L' := (.own s49 209 3 (encs r47)) :: (.blk b45 (enc x42) 209) :: (.blk b40 (enc (EnterR.mk ({ r26 with Doors := p67, Way := r47 } : Enter) s28 s49)) 114) :: (.own Sl.nil 209 3 (encs ([] : List Word))) :: (.own Sl.nil 204 5 (encs ([] : List DoorR))) :: (.rows (α := Int) 3 (List.map DoorR.row (rs29.set x42.To.toNat (DoorR.mk ({ x53 with Yes := x53.Yes ||| ((1 : BitVec 8) <<< n64) } : Door) r56h4)))) :: (.own s28 204 5 (encs (rs29.set x42.To.toNat (DoorR.mk ({ x53 with Yes := x53.Yes ||| ((1 : BitVec 8) <<< n64) } : Door) r56h4)))) :: (.blk b6 (enc (EnterR.mk ({ Enter.zero with Doors := ([] : List Door), Way := ([] : List Word) } : Enter) Sl.nil Sl.nil)) 114) :: (.own Sl.nil 209 3 (encs ([] : List Word))) :: (.own Sl.nil 204 5 (encs ([] : List DoorR))) :: (.blk b1 (enc (EnterR.mk a0 s_a0_0 s_a0_1)) 114) :: L) ⟨rfl, rfl, rfl, rfl, trivial⟩ rfl ?_
   refine Cd.tail 14 (by kernel_rfl) (by kernel_rfl) ?_
   refine Qt.r (Ev.move rfl) ?_
   refine Qt.r (Ev.move rfl) ?_
   obtain ⟨x70, h71, H⟩ := bind_some H
   have g72 := lat_some h71
   obtain ⟨⟨r73v, r73h4⟩, r73g, r73e, r73m⟩ := map_get hm69 g72.2.2
   obtain rfl : x70 = r73v := r73e.symm
   have r73wg := map_at DoorR.row r73g
   refine Qt.r (Ev.nilCheckS (α := DoorR) rfl (Rd.own (i := 6) rfl rfl rfl) ((Get.elemN (s := 5) rfl r73g (Get.here _)).off (by omega)) rfl) ?_
   refine Qt.r (Ev.fieldS (α := DoorR) (f' := x42.To.toNat * 5 + 2) rfl (Rd.own (i := 6) rfl rfl rfl) ((Get.elemN (s := 5) rfl r73g (Get.here _)).off (by omega)) rfl Try.runUnderlying204 rfl Try.sizeOf5 rfl rfl rfl) ?_
   refine Qt.r (Ev.loadS (α := DoorR) rfl (Rd.own (i := 6) rfl rfl rfl) Try.isAgg5 (v := .int .u8 x70.Yes.toNat) ((Get.elemN (s := 5) rfl r73g (DoorR.get_Yes (Get.here _))).off (by omega))) ?_
   refine Qt.r (Ev.fieldAddr (off' := 0) rfl Try.runUnderlying114 rfl Try.sizeOf111 rfl rfl) ?_
   refine Qt.r (Ev.load (i := 2) rfl rfl Try.isAgg111 (v := Sl.v s28) ((EnterR.get_Doors (Get.here _)).off (by rfl))) ?_
   refine Qt.r (Ev.lenM (map_len hm69) (Ev.lenS (α := DoorR) (xs := (rs29.set x42.To.toNat (DoorR.mk ({ x53 with Yes := x53.Yes ||| ((1 : BitVec 8) <<< n64) } : Door) r56h4))) (by decide) rfl rfl Try.runUnderlying111 (Rd.own (i := 6) rfl rfl rfl))) ?_
   refine Qt.r (Ev.fieldAddr (off' := 1) rfl Try.runUnderlying209 rfl Try.sizeOf3 rfl rfl) ?_
   refine Qt.r (Ev.load (i := 1) rfl rfl Try.isAgg3 (v := iv x42.To) ((Word.get_To (Get.here _)).off (by rfl))) ?_
   obtain ⟨r75, h76, H⟩ := bind_some H
   refine Qt.call rfl rfl (by decide) (vs := [iv (p67.length : Int), iv x42.To]) ⟨rfl, rfl, trivial⟩ Try.call158 (enter_others_sim h76 w0 _ M _ (sc8 (sc2 (sc1 hM)))) ?_
   refine Qt.r (Ev.eql rfl rfl) ?_
   obtain ⟨x79, h80, H⟩ := bind_some H
   have g81 := lat_some h80
   obtain ⟨⟨r82v, r82h4⟩, r82g, r82e, r82m⟩ := map_get hm69 g81.2.2
   obtain rfl : x79 = r82v := r82e.symm
   have r82wg := map_at DoorR.row r82g
   refine Qt.r (Ev.nilCheckS (α := DoorR) rfl (Rd.own (i := 6) rfl rfl rfl) ((Get.elemN (s := 5) rfl r82g (Get.here _)).off (by omega)) rfl) ?_
   refine Qt.r (Ev.fieldS (α := DoorR) (f' := x42.To.toNat * 5 + 3) rfl (Rd.own (i := 6) rfl rfl rfl) ((Get.elemN (s := 5) rfl r82g (Get.here _)).off (by omega)) rfl Try.runUnderlying204 rfl Try.sizeOf4 rfl rfl rfl) ?_
   refine Qt.tail ?_
   obtain ⟨p83, h84, H⟩ := Let_some H
   have hm85 : ((rs29.set x42.To.toNat (DoorR.mk ({ x53 with Yes := x53.Yes ||| ((1 : BitVec 8) <<< n64) } : Door) r56h4)).set x42.To.toNat (DoorR.mk ({ x79 with In := (x70.Yes.toNat : Int) == (r75.toNat : Int) } : Door) r82h4)).map DoorR.v = p83 := (map_set hm69 _ _).trans h84
   refine Lst.storeS (i := 6) rfl rfl rfl rfl rfl Try.sizeOf4 (vs := [.bool ((x70.Yes.toNat : Int) == (r75.toNat : Int))]) rfl rfl (by decide) rfl (xs' := encs ((rs29.set x42.To.toNat (DoorR.mk ({ x53 with Yes := x53.Yes ||| ((1 : BitVec 8) <<< n64) } : Door) r56h4)).set x42.To.toNat (DoorR.mk ({ x79 with In := (x70.Yes.toNat : Int) == (r75.toNat : Int) } : Door) r82h4))) ((Put.elemN (s := 5) (x := DoorR.mk x79 r82h4) (y := (DoorR.mk ({ x79 with In := (x70.Yes.toNat : Int) == (r75.toNat : Int) } : Door) r82h4)) rfl r82g (DoorR.put_In (p := DoorR.mk x79 r82h4) (Put.here (vs := [.bool ((x70.Yes.toNat : Int) == (r75.toNat : Int))]) rfl))).off (by omega)) (L' := (.own s49 209 3 (encs r47)) :: (.blk b45 (enc x42) 209) :: (.blk b40 (enc (EnterR.mk ({ r26 with Doors := p83, Way := r47 } : Enter) s28 s49)) 114) :: (.own Sl.nil 209 3 (encs ([] : List Word))) :: (.own Sl.nil 204 5 (encs ([] : List DoorR))) :: (.rows (α := Int) 3 (List.map DoorR.row (rs29.set x42.To.toNat (DoorR.mk ({ x53 with Yes := x53.Yes ||| ((1 : BitVec 8) <<< n64) } : Door) r56h4)))) :: (.own s28 204 5 (encs ((rs29.set x42.To.toNat (DoorR.mk ({ x53 with Yes := x53.Yes ||| ((1 : BitVec 8) <<< n64) } : Door) r56h4)).set x42.To.toNat (DoorR.mk ({ x79 with In := (x70.Yes.toNat : Int) == (r75.toNat : Int) } : Door) r82h4)))) :: (.blk b6 (enc (EnterR.mk ({ Enter.zero with Doors := ([] : List Door), Way := ([] : List Word) } : Enter) Sl.nil Sl.nil)) 114) :: (.own Sl.nil 209 3 (encs ([] : List Word))) :: (.own Sl.nil 204 5 (encs ([] : List DoorR))) :: (.blk b1 (enc (EnterR.mk a0 s_a0_0 s_a0_1)) 114) :: L) rfl ?_
   refine Lst.its (L' := (.own s49 209 3 (encs r47)) :: (.blk b45 (enc x42) 209) :: (.blk b40 (enc (EnterR.mk ({ r26 with Doors := p83, Way := r47 } : Enter) s28 s49)) 114) :: (.own Sl.nil 209 3 (encs ([] : List Word))) :: (.own Sl.nil 204 5 (encs ([] : List DoorR))) :: (.rows (α := Int) 3 (List.map DoorR.row ((rs29.set x42.To.toNat (DoorR.mk ({ x53 with Yes := x53.Yes ||| ((1 : BitVec 8) <<< n64) } : Door) r56h4)).set x42.To.toNat (DoorR.mk ({ x79 with In := (x70.Yes.toNat : Int) == (r75.toNat : Int) } : Door) r82h4)))) :: (.own s28 204 5 (encs ((rs29.set x42.To.toNat (DoorR.mk ({ x53 with Yes := x53.Yes ||| ((1 : BitVec 8) <<< n64) } : Door) r56h4)).set x42.To.toNat (DoorR.mk ({ x79 with In := (x70.Yes.toNat : Int) == (r75.toNat : Int) } : Door) r82h4)))) :: (.blk b6 (enc (EnterR.mk ({ Enter.zero with Doors := ([] : List Door), Way := ([] : List Word) } : Enter) Sl.nil Sl.nil)) 114) :: (.own Sl.nil 209 3 (encs ([] : List Word))) :: (.own Sl.nil 204 5 (encs ([] : List DoorR))) :: (.blk b1 (enc (EnterR.mk a0 s_a0_0 s_a0_1)) 114) :: L) (by rw [map_set_same (y := (DoorR.mk ({ x79 with In := (x70.Yes.toNat : Int) == (r75.toNat : Int) } : Door) r82h4)) r82g rfl]) ?_
   refine Lst.nil ?_
   exact At.meet (({ r26 with Doors := p83, Way := r47 } : Enter), p83, ((rs29.set x42.To.toNat (DoorR.mk ({ x53 with Yes := x53.Yes ||| ((1 : BitVec 8) <<< n64) } : Door) r56h4)).set x42.To.toNat (DoorR.mk ({ x79 with In := (x70.Yes.toNat : Int) == (r75.toNat : Int) } : Door) r82h4))) (FLe.refl _) ⟨rfl, rfl, trivial⟩ rfl ⟨some_inj H, hm85⟩
  rintro F86 ⟨y58, l59, rs60⟩ hF87 ⟨hy, fm61⟩
  subst hy
  refine Cd.as (e' := [(4, pv b6 0), (7, pv b40 0)]) (L' := (.own s49 209 3 (encs r47)) :: (.blk b45 (enc x42) 209) :: (.blk b40 (enc (EnterR.mk ({ y58 with Doors := l59, Way := r47 } : Enter) s28 s49)) 114) :: (.own Sl.nil 209 3 (encs ([] : List Word))) :: (.own Sl.nil 204 5 (encs ([] : List DoorR))) :: (.rows (α := Int) 3 (List.map DoorR.row rs60)) :: (.own s28 204 5 (encs rs60)) :: (.blk b6 (enc (EnterR.mk ({ Enter.zero with Doors := ([] : List Door), Way := ([] : List Word) } : Enter) Sl.nil Sl.nil)) 114) :: (.own Sl.nil 209 3 (encs ([] : List Word))) :: (.own Sl.nil 204 5 (encs ([] : List DoorR))) :: (.blk b1 (enc (EnterR.mk a0 s_a0_0 s_a0_1)) 114) :: L) ⟨rfl, rfl, trivial⟩ rfl ?_
  replace H := HKo62
  refine Cd.seq ?_
  refine Cd.region ?_
  refine Lst.r (Ev.loadA (i := 2) rfl rfl Try.isAgg114 Try.sizeOf114 (ch := enc (EnterR.mk ({ y58 with Doors := l59, Way := r47 } : Enter) s28 s49)) (Enc.len _) (Get.here _)) ?_
  refine Lst.store (i := 7) rfl rfl rfl rfl rfl Try.sizeOf114 (vs := enc (EnterR.mk ({ y58 with Doors := l59, Way := r47 } : Enter) s28 s49)) rfl (Enc.len _) (Enc.one _) (cs' := enc (EnterR.mk ({ y58 with Doors := l59, Way := r47 } : Enter) s28 s49)) (Put.here ((Enc.len _).trans (Enc.len _).symm)) (L' := (.own s49 209 3 (encs r47)) :: (.blk b45 (enc x42) 209) :: (.blk b40 (enc (EnterR.mk ({ y58 with Doors := l59, Way := r47 } : Enter) s28 s49)) 114) :: (.own Sl.nil 209 3 (encs ([] : List Word))) :: (.own Sl.nil 204 5 (encs ([] : List DoorR))) :: (.rows (α := Int) 3 (List.map DoorR.row rs60)) :: (.own s28 204 5 (encs rs60)) :: (.blk b6 (enc (EnterR.mk ({ y58 with Doors := l59, Way := r47 } : Enter) s28 s49)) 114) :: (.own Sl.nil 209 3 (encs ([] : List Word))) :: (.own Sl.nil 204 5 (encs ([] : List DoorR))) :: (.blk b1 (enc (EnterR.mk a0 s_a0_0 s_a0_1)) 114) :: L) rfl ?_
  refine Lst.r (Ev.assign rfl) ?_
  refine Lst.nil ?_
  refine At.then ?_
  obtain rfl := some_inj H
  refine Cd.ret ?_
  refine At.then_ret ?_
  refine At.front (i := 6) rfl rfl ?_
  refine At.front (i := 6) rfl (L' := (.rows (α := Int) 3 (List.map DoorR.row rs60)) :: (.own s28 204 5 (encs rs60)) :: (.own s49 209 3 (encs r47)) :: (.blk b45 (enc x42) 209) :: (.blk b40 (enc (EnterR.mk ({ y58 with Doors := l59, Way := r47 } : Enter) s28 s49)) 114) :: (.own Sl.nil 209 3 (encs ([] : List Word))) :: (.own Sl.nil 204 5 (encs ([] : List DoorR))) :: (.blk b6 (enc (EnterR.mk ({ y58 with Doors := l59, Way := r47 } : Enter) s28 s49)) 114) :: (.own Sl.nil 209 3 (encs ([] : List Word))) :: (.own Sl.nil 204 5 (encs ([] : List DoorR))) :: (.blk b1 (enc (EnterR.mk a0 s_a0_0 s_a0_1)) 114) :: L) rfl ?_
  exact At.ret2 rfl (Res.cellA (i := 7) rfl rfl Try.isAgg114 Try.sizeOf114 (Enc.len _)) (Res.tmp rfl) (FLe.trans (FLe.trans hF36 hF52) hF87) (sk1 (sk1 (sk1 (sc1 (sc1 (sc1 (sc1 (sc1 (sc1 (sc1 (sc1 (.refl _)))))))))))) ⟨s28, rs60, s49, rfl, rfl, fm61⟩
 replace H := ite_f hb57 H
 refine Cd.condF rfl hb57 ?_
 refine Cd.skip ?_
 refine At.then ?_
 refine Cd.seq ?_
 refine Cd.tail 10 (by kernel_rfl) (by kernel_rfl) ?_
 refine Qt.r (Ev.move rfl) ?_
 refine Qt.r (Ev.move rfl) ?_
 refine Qt.r (Ev.nilCheckS (α := DoorR) rfl (Rd.own (i := 6) rfl rfl rfl) ((Get.elemN (s := 5) rfl r56g (Get.here _)).off (by omega)) rfl) ?_
 refine Qt.r (Ev.fieldS (α := DoorR) (f' := x42.To.toNat * 5 + 0) rfl (Rd.own (i := 6) rfl rfl rfl) ((Get.elemN (s := 5) rfl r56g (Get.here _)).off (by omega)) rfl Try.runUnderlying204 rfl Try.sizeOf3 rfl rfl rfl) ?_
 refine Qt.r (Ev.loadS (α := DoorR) rfl (Rd.own (i := 6) rfl rfl rfl) Try.isAgg3 (v := iv x53.Clock) ((Get.elemN (s := 5) rfl r56g (DoorR.get_Clock (Get.here _))).off (by omega))) ?_
 refine Qt.r (Ev.fieldAddr (off' := 2) rfl Try.runUnderlying209 rfl Try.sizeOf3 rfl rfl) ?_
 refine Qt.r (Ev.load (i := 1) rfl rfl Try.isAgg3 (v := iv x42.At) ((Word.get_At (Get.here _)).off (by rfl))) ?_
 refine Qt.r (Ev.max2 rfl rfl) ?_
 refine Qt.r (Ev.nilCheckS (α := DoorR) rfl (Rd.own (i := 6) rfl rfl rfl) ((Get.elemN (s := 5) rfl r56g (Get.here _)).off (by omega)) rfl) ?_
 refine Qt.r (Ev.fieldS (α := DoorR) (f' := x42.To.toNat * 5 + 0) rfl (Rd.own (i := 6) rfl rfl rfl) ((Get.elemN (s := 5) rfl r56g (Get.here _)).off (by omega)) rfl Try.runUnderlying204 rfl Try.sizeOf3 rfl rfl rfl) ?_
 refine Qt.tail ?_
 obtain ⟨p88, h89, H⟩ := Let_some H
 have hm90 : (rs29.set x42.To.toNat (DoorR.mk ({ x53 with Clock := max x53.Clock x42.At } : Door) r56h4)).map DoorR.v = p88 := (map_set fm30 _ _).trans h89
 refine Lst.storeS (i := 6) rfl rfl rfl rfl rfl Try.sizeOf3 (vs := [iv (max x53.Clock x42.At)]) rfl rfl (by decide) rfl (xs' := encs (rs29.set x42.To.toNat (DoorR.mk ({ x53 with Clock := max x53.Clock x42.At } : Door) r56h4))) ((Put.elemN (s := 5) (x := DoorR.mk x53 r56h4) (y := (DoorR.mk ({ x53 with Clock := max x53.Clock x42.At } : Door) r56h4)) rfl r56g (DoorR.put_Clock (p := DoorR.mk x53 r56h4) (Put.here (vs := [iv (max x53.Clock x42.At)]) rfl))).off (by omega)) (L' := (.own s49 209 3 (encs r47)) :: (.blk b45 (enc x42) 209) :: (.blk b40 (enc (EnterR.mk ({ r26 with Doors := p88, Way := r47 } : Enter) s28 s49)) 114) :: (.own Sl.nil 209 3 (encs ([] : List Word))) :: (.own Sl.nil 204 5 (encs ([] : List DoorR))) :: (.rows (α := Int) 3 (List.map DoorR.row rs29)) :: (.own s28 204 5 (encs (rs29.set x42.To.toNat (DoorR.mk ({ x53 with Clock := max x53.Clock x42.At } : Door) r56h4)))) :: (.blk b6 (enc (EnterR.mk ({ Enter.zero with Doors := ([] : List Door), Way := ([] : List Word) } : Enter) Sl.nil Sl.nil)) 114) :: (.own Sl.nil 209 3 (encs ([] : List Word))) :: (.own Sl.nil 204 5 (encs ([] : List DoorR))) :: (.blk b1 (enc (EnterR.mk a0 s_a0_0 s_a0_1)) 114) :: L) rfl ?_
 refine Lst.its (L' := (.own s49 209 3 (encs r47)) :: (.blk b45 (enc x42) 209) :: (.blk b40 (enc (EnterR.mk ({ r26 with Doors := p88, Way := r47 } : Enter) s28 s49)) 114) :: (.own Sl.nil 209 3 (encs ([] : List Word))) :: (.own Sl.nil 204 5 (encs ([] : List DoorR))) :: (.rows (α := Int) 3 (List.map DoorR.row (rs29.set x42.To.toNat (DoorR.mk ({ x53 with Clock := max x53.Clock x42.At } : Door) r56h4)))) :: (.own s28 204 5 (encs (rs29.set x42.To.toNat (DoorR.mk ({ x53 with Clock := max x53.Clock x42.At } : Door) r56h4)))) :: (.blk b6 (enc (EnterR.mk ({ Enter.zero with Doors := ([] : List Door), Way := ([] : List Word) } : Enter) Sl.nil Sl.nil)) 114) :: (.own Sl.nil 209 3 (encs ([] : List Word))) :: (.own Sl.nil 204 5 (encs ([] : List DoorR))) :: (.blk b1 (enc (EnterR.mk a0 s_a0_0 s_a0_1)) 114) :: L) (by rw [map_set_same (y := (DoorR.mk ({ x53 with Clock := max x53.Clock x42.At } : Door) r56h4)) r56g rfl]) ?_
 refine Lst.nil ?_
 refine At.then ?_
 refine Cd.seq ?_
 refine Cd.quiet (by kernel_rfl) (by kernel_rfl) ?_
 refine Qt.r (Ev.move rfl) ?_
 obtain ⟨x91, h92, H⟩ := bind_some H
 have g93 := lat_some h92
 obtain ⟨⟨r94v, r94h4⟩, r94g, r94e, r94m⟩ := map_get hm90 g93.2.2
 obtain rfl : x91 = r94v := r94e.symm
 have r94wg := map_at DoorR.row r94g
 refine Qt.r (Ev.nilCheckS (α := DoorR) rfl (Rd.own (i := 6) rfl rfl rfl) ((Get.elemN (s := 5) rfl r94g (Get.here _)).off (by omega)) rfl) ?_
 refine Qt.r (Ev.fieldS (α := DoorR) (f' := x42.To.toNat * 5 + 1) rfl (Rd.own (i := 6) rfl rfl rfl) ((Get.elemN (s := 5) rfl r94g (Get.here _)).off (by omega)) rfl Try.runUnderlying204 rfl Try.sizeOf3 rfl rfl rfl) ?_
 refine Qt.r (Ev.loadS (α := DoorR) rfl (Rd.own (i := 6) rfl rfl rfl) Try.isAgg3 (v := iv x91.Wish) ((Get.elemN (s := 5) rfl r94g (DoorR.get_Wish (Get.here _))).off (by omega))) ?_
 refine Qt.r (Ev.gtr rfl rfl) ?_
 refine Qt.r (Ev.move rfl) ?_
 obtain ⟨o95, H, HKo95⟩ := bind_some H
 refine Qt.join (σ := Bool) 24 (fun y96 => [(4, pv b6 0), (7, pv b40 0), (8, pv b45 0), (9, Sl.at s28 (x42.To.toNat * 5)), (116, .bool y96)]) (fun y96 => y96 = o95) ?_ ?_
 ·rcases (Bool.eq_false_or_eq_true (decide (x91.Wish > (0 : Int)))).symm with hb97 | hb97
  ·replace H := ite_f hb97 H
   refine Qt.skip rfl rfl rfl hb97 rfl (by decide) ?_
   refine Qt.skip rfl rfl rfl hb97 rfl (by decide) ?_
   refine Qt.skip rfl rfl rfl hb97 rfl (by decide) ?_
   refine Qt.skip rfl rfl rfl hb97 rfl (by decide) ?_
   refine Qt.skip rfl rfl rfl hb97 rfl (by decide) ?_
   refine Qt.skip rfl rfl rfl hb97 rfl (by decide) ?_
   refine Qt.skip rfl rfl rfl hb97 rfl (by decide) ?_
   refine Qt.skip rfl rfl rfl hb97 rfl (by decide) ?_
   refine Qt.skipU rfl rfl rfl rfl (by decide) ?_
   refine Qt.skipU rfl rfl rfl rfl (by decide) ?_
   refine Qt.skipU rfl rfl rfl rfl (by decide) ?_
   refine Qt.skipU rfl rfl rfl rfl (by decide) ?_
   refine Qt.skipU rfl rfl rfl rfl (by decide) ?_
   refine Qt.skipU rfl rfl rfl rfl (by decide) ?_
   refine Qt.skipU rfl rfl rfl rfl (by decide) ?_
   refine Qt.skipU rfl rfl rfl rfl (by decide) ?_
   refine Qt.skipU rfl rfl rfl rfl (by decide) ?_
   refine Qt.skipU rfl rfl rfl rfl (by decide) ?_
   refine Qt.skipU rfl rfl rfl rfl (by decide) ?_
   refine Qt.skipU rfl rfl rfl rfl (by decide) ?_
   refine Qt.skipU rfl rfl rfl rfl (by decide) ?_
   refine Qt.skipU rfl rfl rfl rfl (by decide) ?_
   refine Qt.skip rfl rfl rfl hb97 rfl (by decide) ?_
   refine Qt.r (Ev.pickF rfl hb97 rfl) ?_
   exact Qt.meet false ⟨rfl, rfl, rfl, rfl, rfl, trivial⟩ (some_inj H)
  replace H := ite_t hb97 H
  refine Qt.rG hb97 (Ev.move rfl) ?_
  obtain ⟨x98, h99, H⟩ := bind_some H
  have g100 := lat_some h99
  obtain ⟨⟨r101v, r101h4⟩, r101g, r101e, r101m⟩ := map_get hm90 g100.2.2
  obtain rfl : x98 = r101v := r101e.symm
  have r101wg := map_at DoorR.row r101g
  refine Qt.rG hb97 (Ev.nilCheckS (α := DoorR) rfl (Rd.own (i := 6) rfl rfl rfl) ((Get.elemN (s := 5) rfl r101g (Get.here _)).off (by omega)) rfl) ?_
  refine Qt.rG hb97 (Ev.fieldS (α := DoorR) (f' := x42.To.toNat * 5 + 1) rfl (Rd.own (i := 6) rfl rfl rfl) ((Get.elemN (s := 5) rfl r101g (Get.here _)).off (by omega)) rfl Try.runUnderlying204 rfl Try.sizeOf3 rfl rfl rfl) ?_
  refine Qt.rG hb97 (Ev.loadS (α := DoorR) rfl (Rd.own (i := 6) rfl rfl rfl) Try.isAgg3 (v := iv x98.Wish) ((Get.elemN (s := 5) rfl r101g (DoorR.get_Wish (Get.here _))).off (by omega))) ?_
  refine Qt.rG hb97 (Ev.fieldAddr (off' := 2) rfl Try.runUnderlying209 rfl Try.sizeOf3 rfl rfl) ?_
  refine Qt.rG hb97 (Ev.load (i := 1) rfl rfl Try.isAgg3 (v := iv x42.At) ((Word.get_At (Get.here _)).off (by rfl))) ?_
  refine Qt.rG hb97 (Ev.lss rfl rfl) ?_
  refine Qt.rG hb97 (Ev.move rfl) ?_
  obtain ⟨o102, H, HKo102⟩ := bind_some H
  refine Qt.join (σ := Bool) 15 (fun y103 => [(4, pv b6 0), (7, pv b40 0), (8, pv b45 0), (9, Sl.at s28 (x42.To.toNat * 5)), (92, .bool (decide (x91.Wish > (0 : Int)))), (115, .bool y103)]) (fun y103 => y103 = o102) ?_ ?_
  ·rcases Bool.eq_false_or_eq_true (decide (x98.Wish < x42.At)) with hb104 | hb104
   ·replace H := ite_t hb104 H
    refine Qt.skip rfl rfl rfl hb104 rfl (by decide) ?_
    refine Qt.skip rfl rfl rfl hb104 rfl (by decide) ?_
    refine Qt.skip rfl rfl rfl hb104 rfl (by decide) ?_
    refine Qt.skip rfl rfl rfl hb104 rfl (by decide) ?_
    refine Qt.skip rfl rfl rfl hb104 rfl (by decide) ?_
    refine Qt.skip rfl rfl rfl hb104 rfl (by decide) ?_
    refine Qt.skip rfl rfl rfl hb104 rfl (by decide) ?_
    refine Qt.skip rfl rfl rfl hb104 rfl (by decide) ?_
    refine Qt.skipU rfl rfl rfl rfl (by decide) ?_
    refine Qt.skipU rfl rfl rfl rfl (by decide) ?_
    refine Qt.skipU rfl rfl rfl rfl (by decide) ?_
    refine Qt.skipU rfl rfl rfl rfl (by decide) ?_
    refine Qt.skipU rfl rfl rfl rfl (by decide) ?_
    refine Qt.skip rfl rfl rfl hb104 rfl (by decide) ?_
    refine Qt.rG hb97 (Ev.pickT rfl hb104 rfl) ?_
    exact Qt.meet true ⟨rfl, rfl, rfl, rfl, rfl, rfl, trivial⟩ (some_inj H)
   replace H := ite_f hb104 H
   refine Qt.rG hb104 (Ev.move rfl) ?_
   obtain ⟨x105, h106, H⟩ := bind_some H
   have g107 := lat_some h106
   obtain ⟨⟨r108v, r108h4⟩, r108g, r108e, r108m⟩ := map_get hm90 g107.2.2
   obtain rfl : x105 = r108v := r108e.symm
   have r108wg := map_at DoorR.row r108g
   refine Qt.rG hb104 (Ev.nilCheckS (α := DoorR) rfl (Rd.own (i := 6) rfl rfl rfl) ((Get.elemN (s := 5) rfl r108g (Get.here _)).off (by omega)) rfl) ?_
   refine Qt.rG hb104 (Ev.fieldS (α := DoorR) (f' := x42.To.toNat * 5 + 1) rfl (Rd.own (i := 6) rfl rfl rfl) ((Get.elemN (s := 5) rfl r108g (Get.here _)).off (by omega)) rfl Try.runUnderlying204 rfl Try.sizeOf3 rfl rfl rfl) ?_
   refine Qt.rG hb104 (Ev.loadS (α := DoorR) rfl (Rd.own (i := 6) rfl rfl rfl) Try.isAgg3 (v := iv x105.Wish) ((Get.elemN (s := 5) rfl r108g (DoorR.get_Wish (Get.here _))).off (by omega))) ?_
   refine Qt.rG hb104 (Ev.fieldAddr (off' := 2) rfl Try.runUnderlying209 rfl Try.sizeOf3 rfl rfl) ?_
   refine Qt.rG hb104 (Ev.load (i := 1) rfl rfl Try.isAgg3 (v := iv x42.At) ((Word.get_At (Get.here _)).off (by rfl))) ?_
   refine Qt.rG hb104 (Ev.eql rfl rfl) ?_
   refine Qt.rG hb104 (Ev.move rfl) ?_
   obtain ⟨o109, H, HKo109⟩ := bind_some H
   refine Qt.join (σ := Bool) 6 (fun y110 => [(4, pv b6 0), (7, pv b40 0), (8, pv b45 0), (9, Sl.at s28 (x42.To.toNat * 5)), (92, .bool (decide (x91.Wish > (0 : Int)))), (100, .bool (decide (x98.Wish < x42.At))), (114, .bool y110)]) (fun y110 => y110 = o109) ?_ ?_
   ·rcases (Bool.eq_false_or_eq_true (x105.Wish == x42.At)).symm with hb111 | hb111
    ·replace H := ite_f hb111 H
     refine Qt.skip rfl rfl rfl hb111 rfl (by decide) ?_
     refine Qt.skip rfl rfl rfl hb111 rfl (by decide) ?_
     refine Qt.skip rfl rfl rfl hb111 rfl (by decide) ?_
     refine Qt.skip rfl rfl rfl hb111 rfl (by decide) ?_
     refine Qt.skip rfl rfl rfl hb111 rfl (by decide) ?_
     refine Qt.rG hb104 (Ev.pickF rfl hb111 rfl) ?_
     exact Qt.meet false ⟨rfl, rfl, rfl, rfl, rfl, rfl, rfl, trivial⟩ (some_inj H)
    replace H := ite_t hb111 H
    refine Qt.rG hb111 (Ev.fieldAddr (off' := 1) rfl Try.runUnderlying209 rfl Try.sizeOf3 rfl rfl) ?_
    refine Qt.rG hb111 (Ev.load (i := 1) rfl rfl Try.isAgg3 (v := iv x42.To) ((Word.get_To (Get.here _)).off (by rfl))) ?_
    refine Qt.rG hb111 (Ev.fieldAddr (off' := 0) rfl Try.runUnderlying209 rfl Try.sizeOf3 rfl rfl) ?_
    refine Qt.rG hb111 (Ev.load (i := 1) rfl rfl Try.isAgg3 (v := iv x42.From) ((Word.get_From (Get.here _)).off (by rfl))) ?_
    refine Qt.rG hb111 (Ev.lss rfl rfl) ?_
    refine Qt.rG hb104 (Ev.pickT rfl hb111 rfl) ?_
    exact Qt.meet (decide (x42.To < x42.From)) ⟨rfl, rfl, rfl, rfl, rfl, rfl, rfl, trivial⟩ (some_inj H)
   rintro y110 hy
   subst hy
   refine Qt.as (e' := [(4, pv b6 0), (7, pv b40 0), (8, pv b45 0), (9, Sl.at s28 (x42.To.toNat * 5)), (92, .bool (decide (x91.Wish > (0 : Int)))), (100, .bool (decide (x98.Wish < x42.At))), (114, .bool y110)]) ⟨rfl, rfl, rfl, rfl, rfl, rfl, rfl, trivial⟩ ?_
   replace H := HKo109
   refine Qt.rG hb97 (Ev.pickF rfl hb104 rfl) ?_
   exact Qt.meet y110 ⟨rfl, rfl, rfl, rfl, rfl, rfl, trivial⟩ (some_inj H)
  rintro y103 hy
  subst hy
  refine Qt.as (e' := [(4, pv b6 0), (7, pv b40 0), (8, pv b45 0), (9, Sl.at s28 (x42.To.toNat * 5)), (92, .bool (decide (x91.Wish > (0 : Int)))), (115, .bool y103)]) ⟨rfl, rfl, rfl, rfl, rfl, rfl, trivial⟩ ?_
  replace H := HKo102
  refine Qt.r (Ev.pickT rfl hb97 rfl) ?_
  exact Qt.meet y103 ⟨rfl, rfl, rfl, rfl, rfl, trivial⟩ (some_inj H)
 rintro y96 hy
 subst hy
 refine Qt.as (e' := [(4, pv b6 0), (7, pv b40 0), (8, pv b45 0), (9, Sl.at s28 (x42.To.toNat * 5)), (116, .bool y96)]) ⟨rfl, rfl, rfl, rfl, rfl, trivial⟩ ?_
 replace H := HKo95
 refine Qt.r (Ev.assign rfl) ?_
 refine Qt.done ?_
 refine At.then ?_
 obtain ⟨o118, H, HKo118⟩ := bind_some H
 refine Cd.join (σ := Enter × Sl × (List Word) × (List Door) × (List DoorR)) (fun (y112, s113, l114, l115, rs116) => [(4, pv b6 0), (7, pv b40 0)]) (fun (y112, s113, l114, l115, rs116) => (.own s113 209 3 (encs l114)) :: (.blk b45 (enc x42) 209) :: (.blk b40 (enc (EnterR.mk ({ y112 with Doors := l115, Way := l114 } : Enter) s28 s113)) 114) :: (.own Sl.nil 209 3 (encs ([] : List Word))) :: (.own Sl.nil 204 5 (encs ([] : List DoorR))) :: (.rows (α := Int) 3 (List.map DoorR.row rs116)) :: (.own s28 204 5 (encs rs116)) :: (.blk b6 (enc (EnterR.mk ({ Enter.zero with Doors := ([] : List Door), Way := ([] : List Word) } : Enter) Sl.nil Sl.nil)) 114) :: (.own Sl.nil 209 3 (encs ([] : List Word))) :: (.own Sl.nil 204 5 (encs ([] : List DoorR))) :: (.blk b1 (enc (EnterR.mk a0 s_a0_0 s_a0_1)) 114) :: L) (fun Fx (y112, s113, l114, l115, rs116) => (y112, l114, l115) = o118 ∧ rs116.map DoorR.v = l115) ?_ ?_
 ·refine Cd.block ?_
  refine Cd.seq ?_
  refine Cd.region ?_
  refine Lst.r (Ev.move rfl) ?_
  obtain ⟨x119, h120, H⟩ := bind_some H
  have g121 := lat_some h120
  obtain ⟨⟨r122v, r122h4⟩, r122g, r122e, r122m⟩ := map_get hm90 g121.2.2
  obtain rfl : x119 = r122v := r122e.symm
  have r122wg := map_at DoorR.row r122g
  refine Lst.r (Ev.nilCheckS (α := DoorR) rfl (Rd.own (i := 6) rfl rfl rfl) ((Get.elemN (s := 5) rfl r122g (Get.here _)).off (by omega)) rfl) ?_
  refine Lst.r (Ev.fieldS (α := DoorR) (f' := x42.To.toNat * 5 + 3) rfl (Rd.own (i := 6) rfl rfl rfl) ((Get.elemN (s := 5) rfl r122g (Get.here _)).off (by omega)) rfl Try.runUnderlying204 rfl Try.sizeOf4 rfl rfl rfl) ?_
  refine Lst.r (Ev.loadS (α := DoorR) rfl (Rd.own (i := 6) rfl rfl rfl) Try.isAgg4 (v := .bool x119.In) ((Get.elemN (s := 5) rfl r122g (DoorR.get_In (Get.here _))).off (by omega))) ?_
  refine Lst.r (Ev.not rfl) ?_
  refine Lst.r (Ev.move rfl) ?_
  obtain ⟨o123, H, HKo123⟩ := bind_some H
  refine Lst.join (σ := Bool) 3 (fun y124 => [(4, pv b6 0), (7, pv b40 0), (8, pv b45 0), (9, Sl.at s28 (x42.To.toNat * 5)), (126, .bool y124)]) (fun y124 => (.own s49 209 3 (encs r47)) :: (.blk b45 (enc x42) 209) :: (.blk b40 (enc (EnterR.mk ({ r26 with Doors := p88, Way := r47 } : Enter) s28 s49)) 114) :: (.own Sl.nil 209 3 (encs ([] : List Word))) :: (.own Sl.nil 204 5 (encs ([] : List DoorR))) :: (.rows (α := Int) 3 (List.map DoorR.row (rs29.set x42.To.toNat (DoorR.mk ({ x53 with Clock := max x53.Clock x42.At } : Door) r56h4)))) :: (.own s28 204 5 (encs (rs29.set x42.To.toNat (DoorR.mk ({ x53 with Clock := max x53.Clock x42.At } : Door) r56h4)))) :: (.blk b6 (enc (EnterR.mk ({ Enter.zero with Doors := ([] : List Door), Way := ([] : List Word) } : Enter) Sl.nil Sl.nil)) 114) :: (.own Sl.nil 209 3 (encs ([] : List Word))) :: (.own Sl.nil 204 5 (encs ([] : List DoorR))) :: (.blk b1 (enc (EnterR.mk a0 s_a0_0 s_a0_1)) 114) :: L) (fun _ y124 => y124 = o123) ?_ ?_
  ·rcases (Bool.eq_false_or_eq_true (!x119.In)).symm with hb125 | hb125
   ·replace H := ite_f hb125 H
    refine Lst.skip rfl rfl rfl hb125 rfl (by decide) ?_
    refine Lst.skip rfl rfl rfl hb125 rfl (by decide) ?_
    refine Lst.r (Ev.pickF rfl hb125 rfl) ?_
    refine Lst.nil ?_
    exact At.meet false (FLe.refl _) ⟨rfl, rfl, rfl, rfl, rfl, trivial⟩ rfl (some_inj H)
   replace H := ite_t hb125 H
   refine Lst.rG hb125 (Ev.move rfl) ?_
   refine Lst.rG hb125 (Ev.not rfl) ?_
   refine Lst.r (Ev.pickT rfl hb125 rfl) ?_
   refine Lst.nil ?_
   exact At.meet (!y96) (FLe.refl _) ⟨rfl, rfl, rfl, rfl, rfl, trivial⟩ rfl (some_inj H)
  rintro F126 y124 hF127 hy
  subst hy
  refine Lst.as (e' := [(4, pv b6 0), (7, pv b40 0), (8, pv b45 0), (9, Sl.at s28 (x42.To.toNat * 5)), (126, .bool y124)]) (L' := (.own s49 209 3 (encs r47)) :: (.blk b45 (enc x42) 209) :: (.blk b40 (enc (EnterR.mk ({ r26 with Doors := p88, Way := r47 } : Enter) s28 s49)) 114) :: (.own Sl.nil 209 3 (encs ([] : List Word))) :: (.own Sl.nil 204 5 (encs ([] : List DoorR))) :: (.rows (α := Int) 3 (List.map DoorR.row (rs29.set x42.To.toNat (DoorR.mk ({ x53 with Clock := max x53.Clock x42.At } : Door) r56h4)))) :: (.own s28 204 5 (encs (rs29.set x42.To.toNat (DoorR.mk ({ x53 with Clock := max x53.Clock x42.At } : Door) r56h4)))) :: (.blk b6 (enc (EnterR.mk ({ Enter.zero with Doors := ([] : List Door), Way := ([] : List Word) } : Enter) Sl.nil Sl.nil)) 114) :: (.own Sl.nil 209 3 (encs ([] : List Word))) :: (.own Sl.nil 204 5 (encs ([] : List DoorR))) :: (.blk b1 (enc (EnterR.mk a0 s_a0_0 s_a0_1)) 114) :: L) ⟨rfl, rfl, rfl, rfl, rfl, trivial⟩ rfl ?_
  replace H := HKo123
  refine Lst.r (Ev.assign rfl) ?_
  refine Lst.nil ?_
  refine At.then ?_
  rcases Bool.eq_false_or_eq_true y124 with hb128 | hb128
  ·replace H := ite_t hb128 H
   refine Cd.condT rfl hb128 ?_
   refine Cd.region ?_
   refine Lst.r (Ev.fieldAddr (off' := 1) rfl Try.runUnderlying114 rfl Try.sizeOf112 rfl rfl) ?_
   refine Lst.r (Ev.load (i := 2) rfl rfl Try.isAgg112 (v := Sl.v s49) ((EnterR.get_Way (Get.here _)).off (by rfl))) ?_
   refine Lst.r (Ev.fieldAddr (off' := 1) rfl Try.runUnderlying209 rfl Try.sizeOf3 rfl rfl) ?_
   refine Lst.r (Ev.load (i := 1) rfl rfl Try.isAgg3 (v := iv x42.To) ((Word.get_To (Get.here _)).off (by rfl))) ?_
   refine Lst.r (Ev.fieldAddr (off' := 0) rfl Try.runUnderlying209 rfl Try.sizeOf3 rfl rfl) ?_
   refine Lst.r (Ev.load (i := 1) rfl rfl Try.isAgg3 (v := iv x42.From) ((Word.get_From (Get.here _)).off (by rfl))) ?_
   refine Lst.r (Ev.build (v := .agg (enc ({ Word.zero with From := x42.To, To := x42.From } : Word)).toArray) (pv := [(0, iv x42.To), (1, iv x42.From)]) ⟨rfl, rfl, ⟨rfl, rfl, trivial⟩⟩ (fun w => by kernel_rfl)) ?_
   refine Lst.buildSlice (α := Word) (xs := ([({ Word.zero with From := x42.To, To := x42.From } : Word)] : List Word)) (pv := [(0, .agg (enc ({ Word.zero with From := x42.To, To := x42.From } : Word)).toArray)]) rfl rfl (by decide) ⟨rfl, rfl, trivial⟩ (run_buildSlice (α := Word) (z0 := Word.zero) (xs := ([({ Word.zero with From := x42.To, To := x42.From } : Word)] : List Word)) Try.runUnderlying112 Try.sizeOf209 Try.zeroValue209 rfl rfl rfl (by decide) rfl (fill_cons (cs := encs (List.replicate 1 Word.zero)) (cs' := encs ((List.replicate 1 Word.zero).set 0 ({ Word.zero with From := x42.To, To := x42.From } : Word))) (vs := enc ({ Word.zero with From := x42.To, To := x42.From } : Word)) rfl rfl (Enc.len _) ((Put.elemN (s := 3) (i := 0) (x := Word.zero) (y := ({ Word.zero with From := x42.To, To := x42.From } : Word)) rfl rfl (Put.here ((Enc.len _).trans (Enc.len _).symm))).off rfl) fill_nil)) rfl rfl (by decide) (fun s129 _ => ?_)
   obtain ⟨u131, h132, H⟩ := bind_some H
   refine Lst.append (i := 1) (α := Word) (xs := r47) (ys := ([({ Word.zero with From := x42.To, To := x42.From } : Word)] : List Word)) rfl rfl (by decide) rfl rfl Try.runUnderlying112 Try.typeInfo209 rfl rfl rfl rfl rfl rfl (Rd.own (i := 0) rfl rfl rfl) rfl (room_some h132) rfl (fun s133 => ?_)
   refine Lst.its (L' := (.own s129 209 3 (encs ([({ Word.zero with From := x42.To, To := x42.From } : Word)] : List Word))) :: (.own s133 209 3 (encs (r47 ++ ([({ Word.zero with From := x42.To, To := x42.From } : Word)] : List Word)))) :: (.blk b45 (enc x42) 209) :: (.blk b40 (enc (EnterR.mk ({ r26 with Doors := p88, Way := r47 } : Enter) s28 s49)) 114) :: (.own Sl.nil 209 3 (encs ([] : List Word))) :: (.own Sl.nil 204 5 (encs ([] : List DoorR))) :: (.rows (α := Int) 3 (List.map DoorR.row (rs29.set x42.To.toNat (DoorR.mk ({ x53 with Clock := max x53.Clock x42.At } : Door) r56h4)))) :: (.own s28 204 5 (encs (rs29.set x42.To.toNat (DoorR.mk ({ x53 with Clock := max x53.Clock x42.At } : Door) r56h4)))) :: (.blk b6 (enc (EnterR.mk ({ Enter.zero with Doors := ([] : List Door), Way := ([] : List Word) } : Enter) Sl.nil Sl.nil)) 114) :: (.own Sl.nil 209 3 (encs ([] : List Word))) :: (.own Sl.nil 204 5 (encs ([] : List DoorR))) :: (.blk b1 (enc (EnterR.mk a0 s_a0_0 s_a0_1)) 114) :: L) rfl ?_
   refine Lst.r (Ev.fieldAddr (off' := 1) rfl Try.runUnderlying114 rfl Try.sizeOf112 rfl rfl) ?_
   refine Lst.store (i := 3) rfl rfl rfl rfl rfl Try.sizeOf112 (vs := [Sl.v s133]) rfl rfl rfl (cs' := enc (EnterR.mk ({ r26 with Doors := p88, Way := r47 ++ ([({ Word.zero with From := x42.To, To := x42.From } : Word)] : List Word) } : Enter) s28 s133)) ((EnterR.put_Way (Put.here (vs := [Sl.v s133]) rfl)).off (by rfl)) (L' := (.own s129 209 3 (encs ([({ Word.zero with From := x42.To, To := x42.From } : Word)] : List Word))) :: (.own s133 209 3 (encs (r47 ++ ([({ Word.zero with From := x42.To, To := x42.From } : Word)] : List Word)))) :: (.blk b45 (enc x42) 209) :: (.blk b40 (enc (EnterR.mk ({ r26 with Doors := p88, Way := r47 ++ ([({ Word.zero with From := x42.To, To := x42.From } : Word)] : List Word) } : Enter) s28 s133)) 114) :: (.own Sl.nil 209 3 (encs ([] : List Word))) :: (.own Sl.nil 204 5 (encs ([] : List DoorR))) :: (.rows (α := Int) 3 (List.map DoorR.row (rs29.set x42.To.toNat (DoorR.mk ({ x53 with Clock := max x53.Clock x42.At } : Door) r56h4)))) :: (.own s28 204 5 (encs (rs29.set x42.To.toNat (DoorR.mk ({ x53 with Clock := max x53.Clock x42.At } : Door) r56h4)))) :: (.blk b6 (enc (EnterR.mk ({ Enter.zero with Doors := ([] : List Door), Way := ([] : List Word) } : Enter) Sl.nil Sl.nil)) 114) :: (.own Sl.nil 209 3 (encs ([] : List Word))) :: (.own Sl.nil 204 5 (encs ([] : List DoorR))) :: (.blk b1 (enc (EnterR.mk a0 s_a0_0 s_a0_1)) 114) :: L) rfl ?_
   refine Lst.nil ?_
   refine At.in_normal ?_
   refine At.less (L' := (.own s133 209 3 (encs (r47 ++ ([({ Word.zero with From := x42.To, To := x42.From } : Word)] : List Word)))) :: (.blk b45 (enc x42) 209) :: (.blk b40 (enc (EnterR.mk ({ r26 with Doors := p88, Way := r47 ++ ([({ Word.zero with From := x42.To, To := x42.From } : Word)] : List Word) } : Enter) s28 s133)) 114) :: (.own Sl.nil 209 3 (encs ([] : List Word))) :: (.own Sl.nil 204 5 (encs ([] : List DoorR))) :: (.rows (α := Int) 3 (List.map DoorR.row (rs29.set x42.To.toNat (DoorR.mk ({ x53 with Clock := max x53.Clock x42.At } : Door) r56h4)))) :: (.own s28 204 5 (encs (rs29.set x42.To.toNat (DoorR.mk ({ x53 with Clock := max x53.Clock x42.At } : Door) r56h4)))) :: (.blk b6 (enc (EnterR.mk ({ Enter.zero with Doors := ([] : List Door), Way := ([] : List Word) } : Enter) Sl.nil Sl.nil)) 114) :: (.own Sl.nil 209 3 (encs ([] : List Word))) :: (.own Sl.nil 204 5 (encs ([] : List DoorR))) :: (.blk b1 (enc (EnterR.mk a0 s_a0_0 s_a0_1)) 114) :: L) (sc1 (sk1 (sk1 (sk1 (sk1 (sk1 (sk1 (sk1 (sk1 (sk1 (sk1 (sk1 (.refl _))))))))))))) ?_
   exact At.meet (({ r26 with Doors := p88, Way := r47 ++ ([({ Word.zero with From := x42.To, To := x42.From } : Word)] : List Word) } : Enter), s133, r47 ++ ([({ Word.zero with From := x42.To, To := x42.From } : Word)] : List Word), p88, (rs29.set x42.To.toNat (DoorR.mk ({ x53 with Clock := max x53.Clock x42.At } : Door) r56h4))) hF127 ⟨rfl, rfl, trivial⟩ rfl ⟨some_inj H, hm90⟩
  replace H := ite_f hb128 H
  refine Cd.condF rfl hb128 ?_
  refine Cd.seq ?_
  refine Cd.quiet (by kernel_rfl) (by kernel_rfl) ?_
  refine Qt.r (Ev.move rfl) ?_
  obtain ⟨x134, h135, H⟩ := bind_some H
  have g136 := lat_some h135
  obtain ⟨⟨r137v, r137h4⟩, r137g, r137e, r137m⟩ := map_get hm90 g136.2.2
  obtain rfl : x134 = r137v := r137e.symm
  have r137wg := map_at DoorR.row r137g
  refine Qt.r (Ev.nilCheckS (α := DoorR) rfl (Rd.own (i := 6) rfl rfl rfl) ((Get.elemN (s := 5) rfl r137g (Get.here _)).off (by omega)) rfl) ?_
  refine Qt.r (Ev.fieldS (α := DoorR) (f' := x42.To.toNat * 5 + 4) rfl (Rd.own (i := 6) rfl rfl rfl) ((Get.elemN (s := 5) rfl r137g (Get.here _)).off (by omega)) rfl Try.runUnderlying204 rfl Try.sizeOf36 rfl rfl rfl) ?_
  refine Qt.r (Ev.loadS (α := DoorR) rfl (Rd.own (i := 6) rfl rfl rfl) Try.isAgg36 (v := Sl.v r137h4) ((Get.elemN (s := 5) rfl r137g (DoorR.get_Later (Get.here _))).off (by omega))) ?_
  refine Qt.r (Ev.fieldAddr (off' := 0) rfl Try.runUnderlying209 rfl Try.sizeOf3 rfl rfl) ?_
  refine Qt.r (Ev.load (i := 1) rfl rfl Try.isAgg3 (v := iv x42.From) ((Word.get_From (Get.here _)).off (by rfl))) ?_
  obtain ⟨r138, h139, H⟩ := bind_some H
  refine Qt.call rfl rfl (by decide) (vs := [Sl.v r137h4, iv x42.From]) ⟨rfl, rfl, trivial⟩ Try.call50 (slices_Contains_int_int_sim h139 w0 _ _ _ (.refl _) (Rd.row (j := 5) rfl r137wg)) ?_
  refine Qt.r (Ev.not rfl) ?_
  refine Qt.r (Ev.assign rfl) ?_
  refine Qt.done ?_
  refine At.then ?_
  rcases (Bool.eq_false_or_eq_true (!r138)).symm with hb142 | hb142
  ·replace H := ite_f hb142 H
   refine Cd.condF rfl hb142 ?_
   refine Cd.skip ?_
   refine At.in_normal ?_
   exact At.meet (({ r26 with Doors := p88, Way := r47 } : Enter), s49, r47, p88, (rs29.set x42.To.toNat (DoorR.mk ({ x53 with Clock := max x53.Clock x42.At } : Door) r56h4))) hF127 ⟨rfl, rfl, trivial⟩ rfl ⟨some_inj H, hm90⟩
  replace H := ite_t hb142 H
  refine Cd.condT rfl hb142 ?_
  obtain ⟨x143, h144, H⟩ := bind_some H
  obtain ⟨u150, h151, H⟩ := bind_some H
  obtain ⟨o156, h157, H⟩ := Let_some H
  refine Cd.headMeet (σ := Sl × (List Int)) 9 (fun (s154, l155) => [(4, pv b6 0), (7, pv b40 0), (146, Sl.at s28 (x42.To.toNat * 5)), (154, Sl.v s154)]) (fun (s154, l155) => (.own s154 3 1 (encs l155)) :: (.rows (α := Int) 3 ((List.map DoorR.row (rs29.set x42.To.toNat (DoorR.mk ({ x53 with Clock := max x53.Clock x42.At } : Door) r56h4))).set x42.To.toNat ⟨[], Sl.nil⟩)) :: (.own s49 209 3 (encs r47)) :: (.blk b45 (enc x42) 209) :: (.blk b40 (enc (EnterR.mk ({ r26 with Doors := p88, Way := r47 } : Enter) s28 s49)) 114) :: (.own Sl.nil 209 3 (encs ([] : List Word))) :: (.own Sl.nil 204 5 (encs ([] : List DoorR))) :: (.own s28 204 5 (encs (rs29.set x42.To.toNat (DoorR.mk ({ x53 with Clock := max x53.Clock x42.At } : Door) r56h4)))) :: (.blk b6 (enc (EnterR.mk ({ Enter.zero with Doors := ([] : List Door), Way := ([] : List Word) } : Enter) Sl.nil Sl.nil)) 114) :: (.own Sl.nil 209 3 (encs ([] : List Word))) :: (.own Sl.nil 204 5 (encs ([] : List DoorR))) :: (.blk b1 (enc (EnterR.mk a0 s_a0_0 s_a0_1)) 114) :: L) (fun _ (s154, l155) => l155 = o156) (by kernel_rfl) (by kernel_rfl) (behind_sink (by kernel_rfl) (by kernel_rfl) (by kernel_rfl)) (by kernel_rfl) (fun hsel hlt => ?_) ?_
  ·refine HdJ.keep (fun w => St w0 F126 ((.own s49 209 3 (encs r47)) :: (.blk b45 (enc x42) 209) :: (.blk b40 (enc (EnterR.mk ({ r26 with Doors := p88, Way := r47 } : Enter) s28 s49)) 114) :: (.own Sl.nil 209 3 (encs ([] : List Word))) :: (.own Sl.nil 204 5 (encs ([] : List DoorR))) :: (.own s28 204 5 (encs (rs29.set x42.To.toNat (DoorR.mk ({ x53 with Clock := max x53.Clock x42.At } : Door) r56h4)))) :: (.blk b6 (enc (EnterR.mk ({ Enter.zero with Doors := ([] : List Door), Way := ([] : List Word) } : Enter) Sl.nil Sl.nil)) 114) :: (.own Sl.nil 209 3 (encs ([] : List Word))) :: (.own Sl.nil 204 5 (encs ([] : List DoorR))) :: (.blk b1 (enc (EnterR.mk a0 s_a0_0 s_a0_1)) 114) :: L) w) (fun w h => trivial) ?_
   refine HdJ.tk hsel hlt 0 (fun w h => h.sublist (sk1 (sk1 (sk1 (sk1 (sk1 (sc1 (sk1 (sk1 (sk1 (sk1 (sk1 (.refl _))))))))))))) rfl (Ev.move rfl) ?_
   refine HdJ.tk hsel hlt 1 (fun w h => h.sublist (sk1 (sk1 (sk1 (sk1 (sk1 (sc1 (sk1 (sk1 (sk1 (sk1 (sk1 (.refl _))))))))))))) rfl (Ev.move rfl) ?_
   have g158 := lat_some h144
   obtain ⟨⟨r159v, r159h4⟩, r159g, r159e, r159m⟩ := map_get hm90 g158.2.2
   obtain rfl : x143 = r159v := r159e.symm
   have r159wg := map_at DoorR.row r159g
   refine HdJ.tk hsel hlt 2 (fun w h => h.sublist (sk1 (sk1 (sk1 (sk1 (sk1 (sc1 (sk1 (sk1 (sk1 (sk1 (sk1 (.refl _))))))))))))) rfl (Ev.nilCheckS (α := DoorR) rfl (Rd.own (i := 5) rfl rfl rfl) ((Get.elemN (s := 5) rfl r159g (Get.here _)).off (by omega)) rfl) ?_
   refine HdJ.tk hsel hlt 3 (fun w h => h.sublist (sk1 (sk1 (sk1 (sk1 (sk1 (sc1 (sk1 (sk1 (sk1 (sk1 (sk1 (.refl _))))))))))))) rfl (Ev.fieldS (α := DoorR) (f' := x42.To.toNat * 5 + 4) rfl (Rd.own (i := 5) rfl rfl rfl) ((Get.elemN (s := 5) rfl r159g (Get.here _)).off (by omega)) rfl Try.runUnderlying204 rfl Try.sizeOf36 rfl rfl rfl) ?_
   refine HdJ.tk hsel hlt 4 (fun w h => h.sublist (sk1 (sk1 (sk1 (sk1 (sk1 (sc1 (sk1 (sk1 (sk1 (sk1 (sk1 (.refl _))))))))))))) rfl (Ev.loadS (α := DoorR) rfl (Rd.own (i := 5) rfl rfl rfl) Try.isAgg36 (v := Sl.v r159h4) ((Get.elemN (s := 5) rfl r159g (DoorR.get_Later (Get.here _))).off (by omega))) ?_
   refine HdJ.tk hsel hlt 5 (fun w h => h.sublist (sk1 (sk1 (sk1 (sk1 (sk1 (sc1 (sk1 (sk1 (sk1 (sk1 (sk1 (.refl _))))))))))))) rfl (Ev.fieldAddr (off' := 0) rfl Try.runUnderlying209 rfl Try.sizeOf3 rfl rfl) ?_
   refine HdJ.tk hsel hlt 6 (fun w h => h.sublist (sk1 (sk1 (sk1 (sk1 (sk1 (sc1 (sk1 (sk1 (sk1 (sk1 (sk1 (.refl _))))))))))))) rfl (Ev.load (i := 1) rfl rfl Try.isAgg3 (v := iv x42.From) ((Word.get_From (Get.here _)).off (by rfl))) ?_
   refine HdJ.step [7] (by kernel_rfl) rfl ?_
   refine HdStep.c (fun inv => ?_) ?_
   ·refine Lst.buildSlice (α := Int) (xs := ([x42.From] : List Int)) (pv := [(0, iv x42.From)]) rfl rfl (by decide) ⟨rfl, rfl, trivial⟩ (run_buildSlice (α := Int) (z0 := (0 : Int)) (xs := ([x42.From] : List Int)) Try.runUnderlying36 Try.sizeOf3 Try.zeroValue3 rfl rfl rfl (by decide) rfl (fill_cons (cs := encs (List.replicate 1 (0 : Int))) (cs' := encs ((List.replicate 1 (0 : Int)).set 0 x42.From)) (vs := [iv x42.From]) rfl rfl rfl ((Put.elemN (s := 1) (i := 0) (x := (0 : Int)) (y := x42.From) rfl rfl (Put.here (vs := [iv x42.From]) rfl)).off rfl) fill_nil)) rfl rfl (by decide) (fun s160 _ => ?_)
    refine Lst.nil ?_
    refine At.hd inv (fun w h => (h.weaken (FLe.refl _)).sublist (sc1 (sk1 (sk1 (sk1 (sk1 (sk1 (sc1 (sk1 (sk1 (sk1 (sk1 (sk1 (.refl _)))))))))))))) ?_
    refine HdJ.step [8] (by kernel_rfl) rfl ?_
    refine HdStep.c (fun inv => ?_) ?_
    ·refine Lst.front (i := 6) rfl (L' := (.rows (α := Int) 3 (List.map DoorR.row (rs29.set x42.To.toNat (DoorR.mk ({ x53 with Clock := max x53.Clock x42.At } : Door) r56h4)))) :: (.own s160 3 1 (encs ([x42.From] : List Int))) :: (.own s49 209 3 (encs r47)) :: (.blk b45 (enc x42) 209) :: (.blk b40 (enc (EnterR.mk ({ r26 with Doors := p88, Way := r47 } : Enter) s28 s49)) 114) :: (.own Sl.nil 209 3 (encs ([] : List Word))) :: (.own Sl.nil 204 5 (encs ([] : List DoorR))) :: (.own s28 204 5 (encs (rs29.set x42.To.toNat (DoorR.mk ({ x53 with Clock := max x53.Clock x42.At } : Door) r56h4)))) :: (.blk b6 (enc (EnterR.mk ({ Enter.zero with Doors := ([] : List Door), Way := ([] : List Word) } : Enter) Sl.nil Sl.nil)) 114) :: (.own Sl.nil 209 3 (encs ([] : List Word))) :: (.own Sl.nil 204 5 (encs ([] : List DoorR))) :: (.blk b1 (enc (EnterR.mk a0 s_a0_0 s_a0_1)) 114) :: L) rfl ?_
     refine Lst.rowOut (k := x42.To.toNat) r159wg rfl ?_
     refine Lst.its (L' := (.own r159h4 3 1 (encs x143.Later)) :: (.rows (α := Int) 3 ((List.map DoorR.row (rs29.set x42.To.toNat (DoorR.mk ({ x53 with Clock := max x53.Clock x42.At } : Door) r56h4))).set x42.To.toNat ⟨[], Sl.nil⟩)) :: (.own s160 3 1 (encs ([x42.From] : List Int))) :: (.own s49 209 3 (encs r47)) :: (.blk b45 (enc x42) 209) :: (.blk b40 (enc (EnterR.mk ({ r26 with Doors := p88, Way := r47 } : Enter) s28 s49)) 114) :: (.own Sl.nil 209 3 (encs ([] : List Word))) :: (.own Sl.nil 204 5 (encs ([] : List DoorR))) :: (.own s28 204 5 (encs (rs29.set x42.To.toNat (DoorR.mk ({ x53 with Clock := max x53.Clock x42.At } : Door) r56h4)))) :: (.blk b6 (enc (EnterR.mk ({ Enter.zero with Doors := ([] : List Door), Way := ([] : List Word) } : Enter) Sl.nil Sl.nil)) 114) :: (.own Sl.nil 209 3 (encs ([] : List Word))) :: (.own Sl.nil 204 5 (encs ([] : List DoorR))) :: (.blk b1 (enc (EnterR.mk a0 s_a0_0 s_a0_1)) 114) :: L) rfl ?_
     refine Lst.append (i := 0) (α := Int) (xs := x143.Later) (ys := ([x42.From] : List Int)) rfl rfl (by decide) rfl rfl Try.runUnderlying36 Try.typeInfo3 rfl rfl rfl rfl rfl rfl (Rd.own (i := 2) rfl rfl rfl) rfl (room_some h151) rfl (fun s161 => ?_)
     refine Lst.its (L' := (.own s161 3 1 (encs (x143.Later ++ ([x42.From] : List Int)))) :: (.rows (α := Int) 3 ((List.map DoorR.row (rs29.set x42.To.toNat (DoorR.mk ({ x53 with Clock := max x53.Clock x42.At } : Door) r56h4))).set x42.To.toNat ⟨[], Sl.nil⟩)) :: (.own s160 3 1 (encs ([x42.From] : List Int))) :: (.own s49 209 3 (encs r47)) :: (.blk b45 (enc x42) 209) :: (.blk b40 (enc (EnterR.mk ({ r26 with Doors := p88, Way := r47 } : Enter) s28 s49)) 114) :: (.own Sl.nil 209 3 (encs ([] : List Word))) :: (.own Sl.nil 204 5 (encs ([] : List DoorR))) :: (.own s28 204 5 (encs (rs29.set x42.To.toNat (DoorR.mk ({ x53 with Clock := max x53.Clock x42.At } : Door) r56h4)))) :: (.blk b6 (enc (EnterR.mk ({ Enter.zero with Doors := ([] : List Door), Way := ([] : List Word) } : Enter) Sl.nil Sl.nil)) 114) :: (.own Sl.nil 209 3 (encs ([] : List Word))) :: (.own Sl.nil 204 5 (encs ([] : List DoorR))) :: (.blk b1 (enc (EnterR.mk a0 s_a0_0 s_a0_1)) 114) :: L) rfl ?_
     refine Lst.nil ?_
     refine At.hd inv (fun w h => (h.weaken (FLe.refl _)).sublist (sc1 (sc1 (sc1 (sk1 (sk1 (sk1 (sk1 (sk1 (sk1 (sk1 (sk1 (sk1 (sk1 (.refl _))))))))))))))) ?_
     refine HdJ.done (by kernel_rfl) ?_
     refine At.less (L' := (.own s161 3 1 (encs (x143.Later ++ ([x42.From] : List Int)))) :: (.rows (α := Int) 3 ((List.map DoorR.row (rs29.set x42.To.toNat (DoorR.mk ({ x53 with Clock := max x53.Clock x42.At } : Door) r56h4))).set x42.To.toNat ⟨[], Sl.nil⟩)) :: (.own s49 209 3 (encs r47)) :: (.blk b45 (enc x42) 209) :: (.blk b40 (enc (EnterR.mk ({ r26 with Doors := p88, Way := r47 } : Enter) s28 s49)) 114) :: (.own Sl.nil 209 3 (encs ([] : List Word))) :: (.own Sl.nil 204 5 (encs ([] : List DoorR))) :: (.own s28 204 5 (encs (rs29.set x42.To.toNat (DoorR.mk ({ x53 with Clock := max x53.Clock x42.At } : Door) r56h4)))) :: (.blk b6 (enc (EnterR.mk ({ Enter.zero with Doors := ([] : List Door), Way := ([] : List Word) } : Enter) Sl.nil Sl.nil)) 114) :: (.own Sl.nil 209 3 (encs ([] : List Word))) :: (.own Sl.nil 204 5 (encs ([] : List DoorR))) :: (.blk b1 (enc (EnterR.mk a0 s_a0_0 s_a0_1)) 114) :: L) (sk1 (sk1 (sc1 (sk1 (sk1 (sk1 (sk1 (sk1 (sk1 (sk1 (sk1 (sk1 (sk1 (.refl _)))))))))))))) ?_
     exact At.meetN (s161, x143.Later ++ ([x42.From] : List Int)) (FLe.refl _) ⟨rfl, rfl, rfl, rfl, trivial⟩ rfl h157
    exact trivial
   exact trivial
  rintro F162 ⟨s154, l155⟩ hF163 hy
  subst hy
  refine Lst.as (e' := [(4, pv b6 0), (7, pv b40 0), (146, Sl.at s28 (x42.To.toNat * 5)), (154, Sl.v s154)]) (L' := (.own s154 3 1 (encs l155)) :: (.rows (α := Int) 3 ((List.map DoorR.row (rs29.set x42.To.toNat (DoorR.mk ({ x53 with Clock := max x53.Clock x42.At } : Door) r56h4))).set x42.To.toNat ⟨[], Sl.nil⟩)) :: (.own s49 209 3 (encs r47)) :: (.blk b45 (enc x42) 209) :: (.blk b40 (enc (EnterR.mk ({ r26 with Doors := p88, Way := r47 } : Enter) s28 s49)) 114) :: (.own Sl.nil 209 3 (encs ([] : List Word))) :: (.own Sl.nil 204 5 (encs ([] : List DoorR))) :: (.own s28 204 5 (encs (rs29.set x42.To.toNat (DoorR.mk ({ x53 with Clock := max x53.Clock x42.At } : Door) r56h4)))) :: (.blk b6 (enc (EnterR.mk ({ Enter.zero with Doors := ([] : List Door), Way := ([] : List Word) } : Enter) Sl.nil Sl.nil)) 114) :: (.own Sl.nil 209 3 (encs ([] : List Word))) :: (.own Sl.nil 204 5 (encs ([] : List DoorR))) :: (.blk b1 (enc (EnterR.mk a0 s_a0_0 s_a0_1)) 114) :: L) ⟨rfl, rfl, rfl, rfl, trivial⟩ rfl ?_
  obtain ⟨x164, h165, H⟩ := bind_some H
  have g166 := lat_some h165
  obtain ⟨⟨r167v, r167h4⟩, r167g, r167e, r167m⟩ := map_get hm90 g166.2.2
  obtain rfl : x164 = r167v := r167e.symm
  have r167wg := map_at DoorR.row r167g
  refine Lst.r (Ev.nilCheckS (α := DoorR) rfl (Rd.own (i := 7) rfl rfl rfl) ((Get.elemN (s := 5) rfl r167g (Get.here _)).off (by omega)) rfl) ?_
  refine Lst.r (Ev.fieldS (α := DoorR) (f' := x42.To.toNat * 5 + 4) rfl (Rd.own (i := 7) rfl rfl rfl) ((Get.elemN (s := 5) rfl r167g (Get.here _)).off (by omega)) rfl Try.runUnderlying204 rfl Try.sizeOf36 rfl rfl rfl) ?_
  obtain ⟨p168, h169, H⟩ := Let_some H
  have hm170 : ((rs29.set x42.To.toNat (DoorR.mk ({ x53 with Clock := max x53.Clock x42.At } : Door) r56h4)).set x42.To.toNat (DoorR.mk ({ x164 with Later := l155 } : Door) s154)).map DoorR.v = p168 := (map_set hm90 _ _).trans h169
  refine Lst.storeS (i := 7) rfl rfl rfl rfl rfl Try.sizeOf36 (vs := [Sl.v s154]) rfl rfl (by decide) rfl (xs' := encs ((rs29.set x42.To.toNat (DoorR.mk ({ x53 with Clock := max x53.Clock x42.At } : Door) r56h4)).set x42.To.toNat (DoorR.mk ({ x164 with Later := l155 } : Door) s154))) ((Put.elemN (s := 5) (x := DoorR.mk x164 r167h4) (y := (DoorR.mk ({ x164 with Later := l155 } : Door) s154)) rfl r167g (DoorR.put_Later (p := DoorR.mk x164 r167h4) (l := l155) (Put.here (vs := [Sl.v s154]) rfl))).off (by omega)) (L' := (.own s154 3 1 (encs l155)) :: (.rows (α := Int) 3 ((List.map DoorR.row (rs29.set x42.To.toNat (DoorR.mk ({ x53 with Clock := max x53.Clock x42.At } : Door) r56h4))).set x42.To.toNat ⟨[], Sl.nil⟩)) :: (.own s49 209 3 (encs r47)) :: (.blk b45 (enc x42) 209) :: (.blk b40 (enc (EnterR.mk ({ r26 with Doors := p168, Way := r47 } : Enter) s28 s49)) 114) :: (.own Sl.nil 209 3 (encs ([] : List Word))) :: (.own Sl.nil 204 5 (encs ([] : List DoorR))) :: (.own s28 204 5 (encs ((rs29.set x42.To.toNat (DoorR.mk ({ x53 with Clock := max x53.Clock x42.At } : Door) r56h4)).set x42.To.toNat (DoorR.mk ({ x164 with Later := l155 } : Door) s154)))) :: (.blk b6 (enc (EnterR.mk ({ Enter.zero with Doors := ([] : List Door), Way := ([] : List Word) } : Enter) Sl.nil Sl.nil)) 114) :: (.own Sl.nil 209 3 (encs ([] : List Word))) :: (.own Sl.nil 204 5 (encs ([] : List DoorR))) :: (.blk b1 (enc (EnterR.mk a0 s_a0_0 s_a0_1)) 114) :: L) rfl ?_
  refine Lst.rowIn (k := x42.To.toNat) (by rw [List.getElem?_set_self (List.getElem?_eq_some_iff.1 r167wg).1]) rfl ?_
  refine Lst.its (L' := (.rows (α := Int) 3 (List.map DoorR.row ((rs29.set x42.To.toNat (DoorR.mk ({ x53 with Clock := max x53.Clock x42.At } : Door) r56h4)).set x42.To.toNat (DoorR.mk ({ x164 with Later := l155 } : Door) s154)))) :: (.own s49 209 3 (encs r47)) :: (.blk b45 (enc x42) 209) :: (.blk b40 (enc (EnterR.mk ({ r26 with Doors := p168, Way := r47 } : Enter) s28 s49)) 114) :: (.own Sl.nil 209 3 (encs ([] : List Word))) :: (.own Sl.nil 204 5 (encs ([] : List DoorR))) :: (.own s28 204 5 (encs ((rs29.set x42.To.toNat (DoorR.mk ({ x53 with Clock := max x53.Clock x42.At } : Door) r56h4)).set x42.To.toNat (DoorR.mk ({ x164 with Later := l155 } : Door) s154)))) :: (.blk b6 (enc (EnterR.mk ({ Enter.zero with Doors := ([] : List Door), Way := ([] : List Word) } : Enter) Sl.nil Sl.nil)) 114) :: (.own Sl.nil 209 3 (encs ([] : List Word))) :: (.own Sl.nil 204 5 (encs ([] : List DoorR))) :: (.blk b1 (enc (EnterR.mk a0 s_a0_0 s_a0_1)) 114) :: L) (by rw [map_set_in (f := DoorR.row) (l := (rs29.set x42.To.toNat (DoorR.mk ({ x53 with Clock := max x53.Clock x42.At } : Door) r56h4))) (y := (DoorR.mk ({ x164 with Later := l155 } : Door) s154)) (b := ⟨l155, s154⟩) rfl]) ?_
  refine Lst.nil ?_
  refine At.in_normal ?_
  refine At.front (i := 5) rfl rfl ?_
  refine At.front (i := 5) rfl rfl ?_
  refine At.front (i := 5) rfl (L' := (.blk b40 (enc (EnterR.mk ({ r26 with Doors := p168, Way := r47 } : Enter) s28 s49)) 114) :: (.own Sl.nil 209 3 (encs ([] : List Word))) :: (.own Sl.nil 204 5 (encs ([] : List DoorR))) :: (.rows (α := Int) 3 (List.map DoorR.row ((rs29.set x42.To.toNat (DoorR.mk ({ x53 with Clock := max x53.Clock x42.At } : Door) r56h4)).set x42.To.toNat (DoorR.mk ({ x164 with Later := l155 } : Door) s154)))) :: (.own s49 209 3 (encs r47)) :: (.blk b45 (enc x42) 209) :: (.own s28 204 5 (encs ((rs29.set x42.To.toNat (DoorR.mk ({ x53 with Clock := max x53.Clock x42.At } : Door) r56h4)).set x42.To.toNat (DoorR.mk ({ x164 with Later := l155 } : Door) s154)))) :: (.blk b6 (enc (EnterR.mk ({ Enter.zero with Doors := ([] : List Door), Way := ([] : List Word) } : Enter) Sl.nil Sl.nil)) 114) :: (.own Sl.nil 209 3 (encs ([] : List Word))) :: (.own Sl.nil 204 5 (encs ([] : List DoorR))) :: (.blk b1 (enc (EnterR.mk a0 s_a0_0 s_a0_1)) 114) :: L) rfl ?_
  refine At.front (i := 5) rfl rfl ?_
  refine At.front (i := 5) rfl (L' := (.own s49 209 3 (encs r47)) :: (.blk b45 (enc x42) 209) :: (.blk b40 (enc (EnterR.mk ({ r26 with Doors := p168, Way := r47 } : Enter) s28 s49)) 114) :: (.own Sl.nil 209 3 (encs ([] : List Word))) :: (.own Sl.nil 204 5 (encs ([] : List DoorR))) :: (.rows (α := Int) 3 (List.map DoorR.row ((rs29.set x42.To.toNat (DoorR.mk ({ x53 with Clock := max x53.Clock x42.At } : Door) r56h4)).set x42.To.toNat (DoorR.mk ({ x164 with Later := l155 } : Door) s154)))) :: (.own s28 204 5 (encs ((rs29.set x42.To.toNat (DoorR.mk ({ x53 with Clock := max x53.Clock x42.At } : Door) r56h4)).set x42.To.toNat (DoorR.mk ({ x164 with Later := l155 } : Door) s154)))) :: (.blk b6 (enc (EnterR.mk ({ Enter.zero with Doors := ([] : List Door), Way := ([] : List Word) } : Enter) Sl.nil Sl.nil)) 114) :: (.own Sl.nil 209 3 (encs ([] : List Word))) :: (.own Sl.nil 204 5 (encs ([] : List DoorR))) :: (.blk b1 (enc (EnterR.mk a0 s_a0_0 s_a0_1)) 114) :: L) rfl ?_
  exact At.meet (({ r26 with Doors := p168, Way := r47 } : Enter), s49, r47, p168, ((rs29.set x42.To.toNat (DoorR.mk ({ x53 with Clock := max x53.Clock x42.At } : Door) r56h4)).set x42.To.toNat (DoorR.mk ({ x164 with Later := l155 } : Door) s154))) (FLe.trans hF127 hF163) ⟨rfl, rfl, trivial⟩ rfl ⟨some_inj H, hm170⟩
 rintro F171 ⟨y112, s113, l114, l115, rs116⟩ hF172 ⟨hy, fm117⟩
 subst hy
 refine Cd.as (e' := [(4, pv b6 0), (7, pv b40 0)]) (L' := (.own s113 209 3 (encs l114)) :: (.blk b45 (enc x42) 209) :: (.blk b40 (enc (EnterR.mk ({ y112 with Doors := l115, Way := l114 } : Enter) s28 s113)) 114) :: (.own Sl.nil 209 3 (encs ([] : List Word))) :: (.own Sl.nil 204 5 (encs ([] : List DoorR))) :: (.rows (α := Int) 3 (List.map DoorR.row rs116)) :: (.own s28 204 5 (encs rs116)) :: (.blk b6 (enc (EnterR.mk ({ Enter.zero with Doors := ([] : List Door), Way := ([] : List Word) } : Enter) Sl.nil Sl.nil)) 114) :: (.own Sl.nil 209 3 (encs ([] : List Word))) :: (.own Sl.nil 204 5 (encs ([] : List DoorR))) :: (.blk b1 (enc (EnterR.mk a0 s_a0_0 s_a0_1)) 114) :: L) ⟨rfl, rfl, trivial⟩ rfl ?_
 replace H := HKo118
 refine Cd.seq ?_
 refine Cd.region ?_
 refine Lst.r (Ev.loadA (i := 2) rfl rfl Try.isAgg114 Try.sizeOf114 (ch := enc (EnterR.mk ({ y112 with Doors := l115, Way := l114 } : Enter) s28 s113)) (Enc.len _) (Get.here _)) ?_
 refine Lst.store (i := 7) rfl rfl rfl rfl rfl Try.sizeOf114 (vs := enc (EnterR.mk ({ y112 with Doors := l115, Way := l114 } : Enter) s28 s113)) rfl (Enc.len _) (Enc.one _) (cs' := enc (EnterR.mk ({ y112 with Doors := l115, Way := l114 } : Enter) s28 s113)) (Put.here ((Enc.len _).trans (Enc.len _).symm)) (L' := (.own s113 209 3 (encs l114)) :: (.blk b45 (enc x42) 209) :: (.blk b40 (enc (EnterR.mk ({ y112 with Doors := l115, Way := l114 } : Enter) s28 s113)) 114) :: (.own Sl.nil 209 3 (encs ([] : List Word))) :: (.own Sl.nil 204 5 (encs ([] : List DoorR))) :: (.rows (α := Int) 3 (List.map DoorR.row rs116)) :: (.own s28 204 5 (encs rs116)) :: (.blk b6 (enc (EnterR.mk ({ y112 with Doors := l115, Way := l114 } : Enter) s28 s113)) 114) :: (.own Sl.nil 209 3 (encs ([] : List Word))) :: (.own Sl.nil 204 5 (encs ([] : List DoorR))) :: (.blk b1 (enc (EnterR.mk a0 s_a0_0 s_a0_1)) 114) :: L) rfl ?_
 refine Lst.r (Ev.assign rfl) ?_
 refine Lst.nil ?_
 refine At.then ?_
 obtain rfl := some_inj H
 refine Cd.ret ?_
 refine At.front (i := 6) rfl rfl ?_
 refine At.front (i := 6) rfl (L' := (.rows (α := Int) 3 (List.map DoorR.row rs116)) :: (.own s28 204 5 (encs rs116)) :: (.own s113 209 3 (encs l114)) :: (.blk b45 (enc x42) 209) :: (.blk b40 (enc (EnterR.mk ({ y112 with Doors := l115, Way := l114 } : Enter) s28 s113)) 114) :: (.own Sl.nil 209 3 (encs ([] : List Word))) :: (.own Sl.nil 204 5 (encs ([] : List DoorR))) :: (.blk b6 (enc (EnterR.mk ({ y112 with Doors := l115, Way := l114 } : Enter) s28 s113)) 114) :: (.own Sl.nil 209 3 (encs ([] : List Word))) :: (.own Sl.nil 204 5 (encs ([] : List DoorR))) :: (.blk b1 (enc (EnterR.mk a0 s_a0_0 s_a0_1)) 114) :: L) rfl ?_
 exact At.ret2 rfl (Res.cellA (i := 7) rfl rfl Try.isAgg114 Try.sizeOf114 (Enc.len _)) (Res.tmp rfl) (FLe.trans (FLe.trans hF36 hF52) hF172) (sk1 (sk1 (sk1 (sc1 (sc1 (sc1 (sc1 (sc1 (sc1 (sc1 (sc1 (.refl _)))))))))))) ⟨s28, rs116, s113, rfl, rfl, fm117⟩
set_option maxRecDepth 20000 in
theorem enter_Leave_sim {a0 : Enter} {a1 : Int} {s_a0_0 : Sl} {rs_a0_0 : List DoorR} {s_a0_1 : Sl} {r : Enter × Int} (H : enter_Leave a0 a1 = some r) (w0 : World) (F : Frz) (M L : List Item) (hM : M.Sublist L) (hm_a0_0 : rs_a0_0.map DoorR.v = a0.Doors) (hs_a0_0 : Rd w0 F M s_a0_0 rs_a0_0) (ha_a0_0 : All DoorR.rel w0 F M rs_a0_0) (hs_a0_1 : Rd w0 F M s_a0_1 a0.Way) : Ok Try.prog w0 67 [.agg (enc (EnterR.mk a0 s_a0_0 s_a0_1)).toArray, iv a1] F (L) (fun Fx L' v => ∃ (s1 : Sl) (rs2 : List DoorR) (s6 : Sl), v = .tuple #[.agg (enc (EnterR.mk r.1 s1 s6)).toArray, iv r.2] ∧ L' = (.rows (α := Int) 3 (List.map DoorR.row rs2)) :: (.own s1 204 5 (encs rs2)) :: (.own s6 209 3 (encs r.1.Way)) :: L ∧ rs2.map DoorR.v = r.1.Doors) := by
 unfold enter_Leave at H
 refine Ok.enter (m := 2) (n := 82) Try.func67 rfl rfl rfl (by decide) ?_
 refine Cd.env (e' := [(0, .agg (enc (EnterR.mk a0 s_a0_0 s_a0_1)).toArray), (1, iv a1)]) rfl ?_
 refine Cd.seq ?_
 refine Cd.region ?_
 refine Lst.box rfl rfl (by decide) rfl (cs := enc (EnterR.mk a0 s_a0_0 s_a0_1)) rfl (fun b1 => ?_)
 have ha4 : All DoorR.rel w0 F [] ([] : List DoorR) := All.nil
 have ha4m : List.map DoorR.v ([] : List DoorR) = ([] : List Door) := rfl
 refine Lst.addNil 204 5 ?_
 refine Lst.addNil 209 3 ?_
 refine Lst.alloc (cs := enc (EnterR.mk ({ Enter.zero with Doors := ([] : List Door), Way := ([] : List Word) } : Enter) Sl.nil Sl.nil)) rfl rfl (by decide) Try.zeroValue114 rfl (fun b6 => ?_)
 refine Lst.r (Ev.assign rfl) ?_
 refine Lst.nil ?_
 refine At.then ?_
 refine Cd.seq ?_
 refine Cd.seq ?_
 refine Cd.region ?_
 refine Lst.r (Ev.loadA (i := 3) rfl rfl Try.isAgg114 Try.sizeOf114 (ch := enc (EnterR.mk a0 s_a0_0 s_a0_1)) (Enc.len _) (Get.here _)) ?_
 obtain ⟨r8, h9, H⟩ := bind_some H
 refine Lst.call1 rfl rfl (by decide) (vs := [.agg (enc (EnterR.mk a0 s_a0_0 s_a0_1)).toArray]) ⟨rfl, trivial⟩ Try.call69 (enter_Check_sim h9 w0 _ M _ (sc4 hM) hm_a0_0 (hs_a0_0.mono (FLe.refl _) (.refl _)) (All.monoDoor ha_a0_0 (FLe.refl _) (.refl _)) (hs_a0_1.mono (FLe.refl _) (.refl _))) ?_
 refine Lst.r (Ev.assign rfl) ?_
 refine Lst.nil ?_
 refine At.then ?_
 refine Cd.seq ?_
 refine Cd.region ?_
 refine Lst.r (Ev.move rfl) ?_
 refine Lst.r (Ev.neq rfl rfl) ?_
 refine Lst.nil ?_
 refine At.then ?_
 rcases Bool.eq_false_or_eq_true (r8 != (0 : Int)) with hb12 | hb12
 ·replace H := ite_t hb12 H
  refine Cd.condT rfl hb12 ?_
  refine Cd.seq ?_
  refine Cd.region ?_
  refine Lst.r (Ev.build (v := .agg (enc (EnterR.mk Enter.zero Sl.nil Sl.nil)).toArray) (pv := []) trivial (fun w => by kernel_rfl)) ?_
  refine Lst.r (Ev.move rfl) ?_
  refine Lst.store (i := 0) rfl rfl rfl rfl rfl Try.sizeOf114 (vs := enc (EnterR.mk Enter.zero Sl.nil Sl.nil)) rfl (Enc.len _) (Enc.one _) (cs' := enc (EnterR.mk Enter.zero Sl.nil Sl.nil)) (Put.here ((Enc.len _).trans (Enc.len _).symm)) (L' := (.blk b6 (enc (EnterR.mk Enter.zero Sl.nil Sl.nil)) 114) :: (.own Sl.nil 209 3 (encs ([] : List Word))) :: (.own Sl.nil 204 5 (encs ([] : List DoorR))) :: (.blk b1 (enc (EnterR.mk a0 s_a0_0 s_a0_1)) 114) :: L) rfl ?_
  refine Lst.r (Ev.assign rfl) ?_
  refine Lst.nil ?_
  refine At.then ?_
  obtain rfl := some_inj H
  refine Cd.ret ?_
  refine At.then_ret ?_
  have ha15m : List.map DoorR.v ([] : List DoorR) = ([] : List Door) := rfl
  refine At.addNil 204 5 ?_
  refine At.rowsNil Int 3 0 ?_
  refine At.its (L' := (.rows (α := Int) 3 (List.map DoorR.row ([] : List DoorR))) :: (.own Sl.nil 204 5 (encs ([] : List DoorR))) :: (.blk b6 (enc (EnterR.mk Enter.zero Sl.nil Sl.nil)) 114) :: (.own Sl.nil 209 3 (encs ([] : List Word))) :: (.own Sl.nil 204 5 (encs ([] : List DoorR))) :: (.blk b1 (enc (EnterR.mk a0 s_a0_0 s_a0_1)) 114) :: L) rfl ?_
  refine At.addNil 209 3 ?_
  refine At.front (i := 2) rfl rfl ?_
  refine At.front (i := 2) rfl (L' := (.rows (α := Int) 3 (List.map DoorR.row ([] : List DoorR))) :: (.own Sl.nil 204 5 (encs ([] : List DoorR))) :: (.own Sl.nil 209 3 (encs ([] : List Word))) :: (.blk b6 (enc (EnterR.mk ({ Enter.zero with Doors := ([] : List Door), Way := ([] : List Word) } : Enter) Sl.nil Sl.nil)) 114) :: (.own Sl.nil 209 3 (encs ([] : List Word))) :: (.own Sl.nil 204 5 (encs ([] : List DoorR))) :: (.blk b1 (enc (EnterR.mk a0 s_a0_0 s_a0_1)) 114) :: L) rfl ?_
  exact At.ret2 rfl (Res.cellA (i := 3) rfl rfl Try.isAgg114 Try.sizeOf114 (Enc.len _)) (Res.tmp rfl) (FLe.refl _) (sk1 (sk1 (sk1 (sc1 (sc1 (sc1 (sc1 (.refl _)))))))) ⟨Sl.nil, ([] : List DoorR), Sl.nil, rfl, rfl, ha15m⟩
 replace H := ite_f hb12 H
 refine Cd.condF rfl hb12 ?_
 refine Cd.skip ?_
 refine At.then ?_
 refine Cd.seq ?_
 refine Cd.block ?_
 refine Cd.seq ?_
 refine Cd.region ?_
 refine Lst.r (Ev.move rfl) ?_
 refine Lst.r (Ev.fieldAddr (off' := 0) rfl Try.runUnderlying114 rfl Try.sizeOf111 rfl rfl) ?_
 refine Lst.r (Ev.load (i := 3) rfl rfl Try.isAgg111 (v := Sl.v s_a0_0) ((EnterR.get_Doors (Get.here _)).off (by rfl))) ?_
 refine Lst.r (Ev.lenM (map_len hm_a0_0) (Ev.lenS (α := DoorR) (xs := rs_a0_0) (by decide) rfl rfl Try.runUnderlying111 (hs_a0_0.mono (FLe.refl _) (sc4 hM)))) ?_
 refine Lst.r (Ev.sub rfl rfl) ?_
 obtain ⟨r18, h19, H⟩ := bind_some H
 refine Lst.call1 rfl rfl (by decide) (vs := [iv a1, iv (0 : Int), iv (w64 ((a0.Doors.length : Int) - (1 : Int)))]) ⟨rfl, rfl, rfl, trivial⟩ Try.call155 (enter_in_sim h19 w0 _ M _ (sc4 hM)) ?_
 refine Lst.r (Ev.not rfl) ?_
 refine Lst.r (Ev.assign rfl) ?_
 refine Lst.nil ?_
 refine At.then ?_
 rcases Bool.eq_false_or_eq_true (!r18) with hb22 | hb22
 ·replace H := ite_t hb22 H
  refine Cd.condT rfl hb22 ?_
  refine Cd.seq ?_
  refine Cd.as (e' := [(4, pv b6 0)]) (L' := (.blk b6 (enc (EnterR.mk ({ Enter.zero with Doors := ([] : List Door), Way := ([] : List Word) } : Enter) Sl.nil Sl.nil)) 114) :: (.own Sl.nil 209 3 (encs ([] : List Word))) :: (.own Sl.nil 204 5 (encs ([] : List DoorR))) :: (.blk b1 (enc (EnterR.mk a0 s_a0_0 s_a0_1)) 114) :: L) ⟨rfl, trivial⟩ rfl ?_
  refine Cd.region ?_
  refine Lst.r (Ev.build (v := .agg (enc (EnterR.mk Enter.zero Sl.nil Sl.nil)).toArray) (pv := []) trivial (fun w => by kernel_rfl)) ?_
  refine Lst.store (i := 0) rfl rfl rfl rfl rfl Try.sizeOf114 (vs := enc (EnterR.mk Enter.zero Sl.nil Sl.nil)) rfl (Enc.len _) (Enc.one _) (cs' := enc (EnterR.mk Enter.zero Sl.nil Sl.nil)) (Put.here ((Enc.len _).trans (Enc.len _).symm)) (L' := (.blk b6 (enc (EnterR.mk Enter.zero Sl.nil Sl.nil)) 114) :: (.own Sl.nil 209 3 (encs ([] : List Word))) :: (.own Sl.nil 204 5 (encs ([] : List DoorR))) :: (.blk b1 (enc (EnterR.mk a0 s_a0_0 s_a0_1)) 114) :: L) rfl ?_
  refine Lst.r (Ev.assign rfl) ?_
  refine Lst.nil ?_
  refine At.then ?_
  obtain rfl := some_inj H
  refine Cd.ret ?_
  refine At.in_ret ?_
  refine At.then_ret ?_
  have ha25m : List.map DoorR.v ([] : List DoorR) = ([] : List Door) := rfl
  refine At.addNil 204 5 ?_
  refine At.rowsNil Int 3 0 ?_
  refine At.its (L' := (.rows (α := Int) 3 (List.map DoorR.row ([] : List DoorR))) :: (.own Sl.nil 204 5 (encs ([] : List DoorR))) :: (.blk b6 (enc (EnterR.mk Enter.zero Sl.nil Sl.nil)) 114) :: (.own Sl.nil 209 3 (encs ([] : List Word))) :: (.own Sl.nil 204 5 (encs ([] : List DoorR))) :: (.blk b1 (enc (EnterR.mk a0 s_a0_0 s_a0_1)) 114) :: L) rfl ?_
  refine At.addNil 209 3 ?_
  refine At.front (i := 2) rfl rfl ?_
  refine At.front (i := 2) rfl (L' := (.rows (α := Int) 3 (List.map DoorR.row ([] : List DoorR))) :: (.own Sl.nil 204 5 (encs ([] : List DoorR))) :: (.own Sl.nil 209 3 (encs ([] : List Word))) :: (.blk b6 (enc (EnterR.mk ({ Enter.zero with Doors := ([] : List Door), Way := ([] : List Word) } : Enter) Sl.nil Sl.nil)) 114) :: (.own Sl.nil 209 3 (encs ([] : List Word))) :: (.own Sl.nil 204 5 (encs ([] : List DoorR))) :: (.blk b1 (enc (EnterR.mk a0 s_a0_0 s_a0_1)) 114) :: L) rfl ?_
  exact At.ret2 rfl (Res.cellA (i := 3) rfl rfl Try.isAgg114 Try.sizeOf114 (Enc.len _)) (Res.tmp rfl) (FLe.refl _) (sk1 (sk1 (sk1 (sc1 (sc1 (sc1 (sc1 (.refl _)))))))) ⟨Sl.nil, ([] : List DoorR), Sl.nil, rfl, rfl, ha25m⟩
 replace H := ite_f hb22 H
 refine Cd.condF rfl hb22 ?_
 refine Cd.seq ?_
 refine Cd.as (e' := [(1, iv a1), (2, pv b1 0), (4, pv b6 0)]) (L' := (.blk b6 (enc (EnterR.mk ({ Enter.zero with Doors := ([] : List Door), Way := ([] : List Word) } : Enter) Sl.nil Sl.nil)) 114) :: (.own Sl.nil 209 3 (encs ([] : List Word))) :: (.own Sl.nil 204 5 (encs ([] : List DoorR))) :: (.blk b1 (enc (EnterR.mk a0 s_a0_0 s_a0_1)) 114) :: L) ⟨rfl, rfl, rfl, trivial⟩ rfl ?_
 refine Cd.region ?_
 refine Lst.r (Ev.fieldAddr (off' := 0) rfl Try.runUnderlying114 rfl Try.sizeOf111 rfl rfl) ?_
 refine Lst.r (Ev.load (i := 3) rfl rfl Try.isAgg111 (v := Sl.v s_a0_0) ((EnterR.get_Doors (Get.here _)).off (by rfl))) ?_
 refine Lst.r (Ev.move rfl) ?_
 obtain ⟨x27, h28, H⟩ := bind_some H
 have g29 := lat_some h28
 obtain ⟨⟨r30v, r30h4⟩, r30g, r30e, r30m⟩ := map_get hm_a0_0 g29.2.2
 obtain rfl : x27 = r30v := r30e.symm
 have r30q : DoorR.rel w0 _ _ (DoorR.mk x27 r30h4) := ha_a0_0 _ r30m
 have r30_f4 : Rd w0 _ _ _ _ := r30q
 refine Lst.r (Ev.indexS (α := DoorR) (xs := rs_a0_0) rfl rfl Try.runUnderlying111 Try.sizeOf204 rfl (by decide) (hs_a0_0.mono (FLe.refl _) (sc4 hM)) g29.1 (by have := map_len hm_a0_0; omega)) ?_
 refine Lst.r (Ev.fieldS (α := DoorR) (f' := a1.toNat * 5 + 3) rfl (hs_a0_0.mono (FLe.refl _) (sc4 hM)) ((Get.elemN (s := 5) rfl r30g (Get.here _)).off (by omega)) rfl Try.runUnderlying204 rfl Try.sizeOf4 rfl rfl rfl) ?_
 refine Lst.r (Ev.loadS (α := DoorR) rfl (hs_a0_0.mono (FLe.refl _) (sc4 hM)) Try.isAgg4 (v := .bool x27.In) ((Get.elemN (s := 5) rfl r30g (DoorR.get_In (Get.here _))).off (by omega))) ?_
 refine Lst.r (Ev.not rfl) ?_
 refine Lst.r (Ev.assign rfl) ?_
 refine Lst.nil ?_
 refine At.then ?_
 rcases Bool.eq_false_or_eq_true (!x27.In) with hb31 | hb31
 ·replace H := ite_t hb31 H
  refine Cd.condT rfl hb31 ?_
  refine Cd.seq ?_
  refine Cd.region ?_
  refine Lst.r (Ev.build (v := .agg (enc (EnterR.mk Enter.zero Sl.nil Sl.nil)).toArray) (pv := []) trivial (fun w => by kernel_rfl)) ?_
  refine Lst.store (i := 0) rfl rfl rfl rfl rfl Try.sizeOf114 (vs := enc (EnterR.mk Enter.zero Sl.nil Sl.nil)) rfl (Enc.len _) (Enc.one _) (cs' := enc (EnterR.mk Enter.zero Sl.nil Sl.nil)) (Put.here ((Enc.len _).trans (Enc.len _).symm)) (L' := (.blk b6 (enc (EnterR.mk Enter.zero Sl.nil Sl.nil)) 114) :: (.own Sl.nil 209 3 (encs ([] : List Word))) :: (.own Sl.nil 204 5 (encs ([] : List DoorR))) :: (.blk b1 (enc (EnterR.mk a0 s_a0_0 s_a0_1)) 114) :: L) rfl ?_
  refine Lst.r (Ev.assign rfl) ?_
  refine Lst.nil ?_
  refine At.then ?_
  obtain rfl := some_inj H
  refine Cd.ret ?_
  refine At.in_ret ?_
  refine At.then_ret ?_
  have ha34m : List.map DoorR.v ([] : List DoorR) = ([] : List Door) := rfl
  refine At.addNil 204 5 ?_
  refine At.rowsNil Int 3 0 ?_
  refine At.its (L' := (.rows (α := Int) 3 (List.map DoorR.row ([] : List DoorR))) :: (.own Sl.nil 204 5 (encs ([] : List DoorR))) :: (.blk b6 (enc (EnterR.mk Enter.zero Sl.nil Sl.nil)) 114) :: (.own Sl.nil 209 3 (encs ([] : List Word))) :: (.own Sl.nil 204 5 (encs ([] : List DoorR))) :: (.blk b1 (enc (EnterR.mk a0 s_a0_0 s_a0_1)) 114) :: L) rfl ?_
  refine At.addNil 209 3 ?_
  refine At.front (i := 2) rfl rfl ?_
  refine At.front (i := 2) rfl (L' := (.rows (α := Int) 3 (List.map DoorR.row ([] : List DoorR))) :: (.own Sl.nil 204 5 (encs ([] : List DoorR))) :: (.own Sl.nil 209 3 (encs ([] : List Word))) :: (.blk b6 (enc (EnterR.mk ({ Enter.zero with Doors := ([] : List Door), Way := ([] : List Word) } : Enter) Sl.nil Sl.nil)) 114) :: (.own Sl.nil 209 3 (encs ([] : List Word))) :: (.own Sl.nil 204 5 (encs ([] : List DoorR))) :: (.blk b1 (enc (EnterR.mk a0 s_a0_0 s_a0_1)) 114) :: L) rfl ?_
  exact At.ret2 rfl (Res.cellA (i := 3) rfl rfl Try.isAgg114 Try.sizeOf114 (Enc.len _)) (Res.tmp rfl) (FLe.refl _) (sk1 (sk1 (sk1 (sc1 (sc1 (sc1 (sc1 (.refl _)))))))) ⟨Sl.nil, ([] : List DoorR), Sl.nil, rfl, rfl, ha34m⟩
 replace H := ite_f hb31 H
 refine Cd.condF rfl hb31 ?_
 refine Cd.seq ?_
 refine Cd.quiet (by kernel_rfl) (by kernel_rfl) ?_
 refine Qt.r (Ev.fieldAddr (off' := 1) rfl Try.runUnderlying114 rfl Try.sizeOf112 rfl rfl) ?_
 refine Qt.r (Ev.load (i := 3) rfl rfl Try.isAgg112 (v := Sl.v s_a0_1) ((EnterR.get_Way (Get.here _)).off (by rfl))) ?_
 refine Qt.r (Ev.lenS (α := Word) (xs := a0.Way) (by decide) rfl rfl Try.runUnderlying112 (hs_a0_1.mono (FLe.refl _) (sc4 hM))) ?_
 refine Qt.r (Ev.fieldAddr (off' := 0) rfl Try.runUnderlying114 rfl Try.sizeOf111 rfl rfl) ?_
 refine Qt.r (Ev.load (i := 3) rfl rfl Try.isAgg111 (v := Sl.v s_a0_0) ((EnterR.get_Doors (Get.here _)).off (by rfl))) ?_
 refine Qt.r (Ev.move rfl) ?_
 obtain ⟨x36, h37, H⟩ := bind_some H
 have g38 := lat_some h37
 obtain ⟨⟨r39v, r39h4⟩, r39g, r39e, r39m⟩ := map_get hm_a0_0 g38.2.2
 obtain rfl : x36 = r39v := r39e.symm
 have r39q : DoorR.rel w0 _ _ (DoorR.mk x36 r39h4) := ha_a0_0 _ r39m
 have r39_f4 : Rd w0 _ _ _ _ := r39q
 refine Qt.r (Ev.indexS (α := DoorR) (xs := rs_a0_0) rfl rfl Try.runUnderlying111 Try.sizeOf204 rfl (by decide) (hs_a0_0.mono (FLe.refl _) (sc4 hM)) g38.1 (by have := map_len hm_a0_0; omega)) ?_
 refine Qt.r (Ev.fieldS (α := DoorR) (f' := a1.toNat * 5 + 4) rfl (hs_a0_0.mono (FLe.refl _) (sc4 hM)) ((Get.elemN (s := 5) rfl r39g (Get.here _)).off (by omega)) rfl Try.runUnderlying204 rfl Try.sizeOf36 rfl rfl rfl) ?_
 refine Qt.r (Ev.loadS (α := DoorR) rfl (hs_a0_0.mono (FLe.refl _) (sc4 hM)) Try.isAgg36 (v := Sl.v r39h4) ((Get.elemN (s := 5) rfl r39g (DoorR.get_Later (Get.here _))).off (by omega))) ?_
 refine Qt.r (Ev.lenS (α := Int) (xs := x36.Later) (by decide) rfl rfl Try.runUnderlying36 (r39_f4.mono (FLe.refl _) (sc4 hM))) ?_
 refine Qt.r (Ev.add rfl rfl) ?_
 refine Qt.r (Ev.gtr rfl rfl) ?_
 refine Qt.r (Ev.assign rfl) ?_
 refine Qt.done ?_
 refine At.then ?_
 rcases Bool.eq_false_or_eq_true (decide ((w64 ((a0.Way.length : Int) + (x36.Later.length : Int))) > (100 : Int))) with hb40 | hb40
 ·replace H := ite_t hb40 H
  refine Cd.condT rfl hb40 ?_
  refine Cd.seq ?_
  refine Cd.as (e' := [(4, pv b6 0)]) (L' := (.blk b6 (enc (EnterR.mk ({ Enter.zero with Doors := ([] : List Door), Way := ([] : List Word) } : Enter) Sl.nil Sl.nil)) 114) :: (.own Sl.nil 209 3 (encs ([] : List Word))) :: (.own Sl.nil 204 5 (encs ([] : List DoorR))) :: (.blk b1 (enc (EnterR.mk a0 s_a0_0 s_a0_1)) 114) :: L) ⟨rfl, trivial⟩ rfl ?_
  refine Cd.region ?_
  refine Lst.r (Ev.build (v := .agg (enc (EnterR.mk Enter.zero Sl.nil Sl.nil)).toArray) (pv := []) trivial (fun w => by kernel_rfl)) ?_
  refine Lst.store (i := 0) rfl rfl rfl rfl rfl Try.sizeOf114 (vs := enc (EnterR.mk Enter.zero Sl.nil Sl.nil)) rfl (Enc.len _) (Enc.one _) (cs' := enc (EnterR.mk Enter.zero Sl.nil Sl.nil)) (Put.here ((Enc.len _).trans (Enc.len _).symm)) (L' := (.blk b6 (enc (EnterR.mk Enter.zero Sl.nil Sl.nil)) 114) :: (.own Sl.nil 209 3 (encs ([] : List Word))) :: (.own Sl.nil 204 5 (encs ([] : List DoorR))) :: (.blk b1 (enc (EnterR.mk a0 s_a0_0 s_a0_1)) 114) :: L) rfl ?_
  refine Lst.r (Ev.assign rfl) ?_
  refine Lst.nil ?_
  refine At.then ?_
  obtain rfl := some_inj H
  refine Cd.ret ?_
  refine At.in_ret ?_
  refine At.then_ret ?_
  have ha43m : List.map DoorR.v ([] : List DoorR) = ([] : List Door) := rfl
  refine At.addNil 204 5 ?_
  refine At.rowsNil Int 3 0 ?_
  refine At.its (L' := (.rows (α := Int) 3 (List.map DoorR.row ([] : List DoorR))) :: (.own Sl.nil 204 5 (encs ([] : List DoorR))) :: (.blk b6 (enc (EnterR.mk Enter.zero Sl.nil Sl.nil)) 114) :: (.own Sl.nil 209 3 (encs ([] : List Word))) :: (.own Sl.nil 204 5 (encs ([] : List DoorR))) :: (.blk b1 (enc (EnterR.mk a0 s_a0_0 s_a0_1)) 114) :: L) rfl ?_
  refine At.addNil 209 3 ?_
  refine At.front (i := 2) rfl rfl ?_
  refine At.front (i := 2) rfl (L' := (.rows (α := Int) 3 (List.map DoorR.row ([] : List DoorR))) :: (.own Sl.nil 204 5 (encs ([] : List DoorR))) :: (.own Sl.nil 209 3 (encs ([] : List Word))) :: (.blk b6 (enc (EnterR.mk ({ Enter.zero with Doors := ([] : List Door), Way := ([] : List Word) } : Enter) Sl.nil Sl.nil)) 114) :: (.own Sl.nil 209 3 (encs ([] : List Word))) :: (.own Sl.nil 204 5 (encs ([] : List DoorR))) :: (.blk b1 (enc (EnterR.mk a0 s_a0_0 s_a0_1)) 114) :: L) rfl ?_
  exact At.ret2 rfl (Res.cellA (i := 3) rfl rfl Try.isAgg114 Try.sizeOf114 (Enc.len _)) (Res.tmp rfl) (FLe.refl _) (sk1 (sk1 (sk1 (sc1 (sc1 (sc1 (sc1 (.refl _)))))))) ⟨Sl.nil, ([] : List DoorR), Sl.nil, rfl, rfl, ha43m⟩
 replace H := ite_f hb40 H
 refine Cd.condF rfl hb40 ?_
 refine Cd.skip ?_
 refine At.in_normal ?_
 refine At.then ?_
 refine Cd.seq ?_
 refine Cd.as (e' := [(1, iv a1), (2, pv b1 0), (4, pv b6 0)]) (L' := (.blk b6 (enc (EnterR.mk ({ Enter.zero with Doors := ([] : List Door), Way := ([] : List Word) } : Enter) Sl.nil Sl.nil)) 114) :: (.own Sl.nil 209 3 (encs ([] : List Word))) :: (.own Sl.nil 204 5 (encs ([] : List DoorR))) :: (.blk b1 (enc (EnterR.mk a0 s_a0_0 s_a0_1)) 114) :: L) ⟨rfl, rfl, rfl, trivial⟩ rfl ?_
 refine Cd.region ?_
 refine Lst.r (Ev.loadA (i := 3) rfl rfl Try.isAgg114 Try.sizeOf114 (ch := enc (EnterR.mk a0 s_a0_0 s_a0_1)) (Enc.len _) (Get.here _)) ?_
 obtain ⟨r45, h46, H⟩ := bind_some H
 refine Lst.call rfl rfl (by decide) (vs := [.agg (enc (EnterR.mk a0 s_a0_0 s_a0_1)).toArray]) ⟨rfl, trivial⟩ Try.call156 (enter_clone_sim h46 w0 _ M _ (sc4 hM) hm_a0_0 (hs_a0_0.mono (FLe.refl _) (.refl _)) (All.monoDoor ha_a0_0 (FLe.refl _) (.refl _)) (hs_a0_1.mono (FLe.refl _) (.refl _))) (fun F54 L' v hF55 hv => ?_)
 obtain ⟨s47, rs48, s52, rfl, rfl, fm49⟩ := hv
 have ha57 : All DoorR.rel w0 F54 [] ([] : List DoorR) := All.nil
 have ha57m : List.map DoorR.v ([] : List DoorR) = ([] : List Door) := rfl
 refine Lst.addNil 204 5 ?_
 refine Lst.addNil 209 3 ?_
 refine Lst.alloc (cs := enc (EnterR.mk ({ Enter.zero with Doors := ([] : List Door), Way := ([] : List Word) } : Enter) Sl.nil Sl.nil)) rfl rfl (by decide) Try.zeroValue114 rfl (fun b59 => ?_)
 refine Lst.store (i := 0) rfl rfl rfl rfl rfl Try.sizeOf114 (vs := enc (EnterR.mk r45 s47 s52)) rfl (Enc.len _) (Enc.one _) (cs' := enc (EnterR.mk r45 s47 s52)) (Put.here ((Enc.len _).trans (Enc.len _).symm)) (L' := (.blk b59 (enc (EnterR.mk r45 s47 s52)) 114) :: (.own Sl.nil 209 3 (encs ([] : List Word))) :: (.own Sl.nil 204 5 (encs ([] : List DoorR))) :: (.rows (α := Int) 3 (List.map DoorR.row rs48)) :: (.own s47 204 5 (encs rs48)) :: (.own s52 209 3 (encs r45.Way)) :: (.blk b6 (enc (EnterR.mk ({ Enter.zero with Doors := ([] : List Door), Way := ([] : List Word) } : Enter) Sl.nil Sl.nil)) 114) :: (.own Sl.nil 209 3 (encs ([] : List Word))) :: (.own Sl.nil 204 5 (encs ([] : List DoorR))) :: (.blk b1 (enc (EnterR.mk a0 s_a0_0 s_a0_1)) 114) :: L) rfl ?_
 refine Lst.nil ?_
 refine At.then ?_
 refine Cd.seq ?_
 refine Cd.seq ?_
 refine Cd.region ?_
 refine Lst.r (Ev.fieldAddr (off' := 0) rfl Try.runUnderlying114 rfl Try.sizeOf111 rfl rfl) ?_
 refine Lst.r (Ev.load (i := 0) rfl rfl Try.isAgg111 (v := Sl.v s47) ((EnterR.get_Doors (Get.here _)).off (by rfl))) ?_
 refine Lst.r (Ev.move rfl) ?_
 obtain ⟨x61, h62, H⟩ := bind_some H
 have g63 := lat_some h62
 obtain ⟨⟨r64v, r64h4⟩, r64g, r64e, r64m⟩ := map_get fm49 g63.2.2
 obtain rfl : x61 = r64v := r64e.symm
 have r64wg := map_at DoorR.row r64g
 refine Lst.r (Ev.indexS (α := DoorR) (xs := rs48) rfl rfl Try.runUnderlying111 Try.sizeOf204 rfl (by decide) (Rd.own (i := 4) rfl rfl rfl) g63.1 (by have := map_len fm49; omega)) ?_
 refine Lst.r (Ev.fieldS (α := DoorR) (f' := a1.toNat * 5 + 4) rfl (Rd.own (i := 4) rfl rfl rfl) ((Get.elemN (s := 5) rfl r64g (Get.here _)).off (by omega)) rfl Try.runUnderlying204 rfl Try.sizeOf36 rfl rfl rfl) ?_
 refine Lst.r (Ev.loadS (α := DoorR) rfl (Rd.own (i := 4) rfl rfl rfl) Try.isAgg36 (v := Sl.v r64h4) ((Get.elemN (s := 5) rfl r64g (DoorR.get_Later (Get.here _))).off (by omega))) ?_
 refine Lst.r (Ev.lenS (α := Int) (xs := x61.Later) (by decide) rfl rfl Try.runUnderlying36 (Rd.row (j := 3) rfl r64wg)) ?_
 refine Lst.r (Ev.move rfl) ?_
 refine Lst.nil ?_
 refine At.then ?_
 refine Cd.block ?_
 refine Cd.bound (Rd.le (α := Int) (xs := x61.Later) (by decide) (Rd.row (j := 3) rfl r64wg)) (fun hN91 => ?_)
 obtain ⟨ol65, H, HKl65⟩ := bind_some H
 refine Cd.loop (σ := Nat × Nat × Enter × Sl × (List Word)) (fun (i65, k65, y66, s67, l68) => [(1, iv a1), (2, pv b1 0), (4, pv b6 0), (7, pv b59 0), (55, Sl.v r64h4), (56, iv (x61.Later.length : Int)), (57, iv (i65 : Int))]) (fun (i65, k65, y66, s67, l68) => (.blk b59 (enc (EnterR.mk ({ y66 with Doors := r45.Doors, Way := l68 } : Enter) s47 s67)) 114) :: (.own Sl.nil 209 3 (encs ([] : List Word))) :: (.own Sl.nil 204 5 (encs ([] : List DoorR))) :: (.rows (α := Int) 3 (List.map DoorR.row rs48)) :: (.own s47 204 5 (encs rs48)) :: (.own s67 209 3 (encs l68)) :: (.blk b6 (enc (EnterR.mk ({ Enter.zero with Doors := ([] : List Door), Way := ([] : List Word) } : Enter) Sl.nil Sl.nil)) 114) :: (.own Sl.nil 209 3 (encs ([] : List Word))) :: (.own Sl.nil 204 5 (encs ([] : List DoorR))) :: (.blk b1 (enc (EnterR.mk a0 s_a0_0 s_a0_1)) 114) :: L) (fun _ => (fun (i65, k65, y66, s67, l68) => rangeF (enter_Leave_B1 a1 r45 x61) k65 i65 (y66, l68) = some ol65 ∧ i65 + k65 = x61.Later.length)) (fun (i65, k65, y66, s67, l68) => k65) (0, x61.Later.length, r45, s52, r45.Way) ⟨rfl, rfl, rfl, rfl, rfl, rfl, rfl, trivial⟩ rfl ⟨H, by omega⟩ ?_
 rintro F69 ⟨i65, k65, y66, s67, l68⟩ hF70 ⟨H, hik65⟩
 refine Cd.as (e' := [(1, iv a1), (2, pv b1 0), (4, pv b6 0), (7, pv b59 0), (55, Sl.v r64h4), (56, iv (x61.Later.length : Int)), (57, iv (i65 : Int))]) (L' := (.blk b59 (enc (EnterR.mk ({ y66 with Doors := r45.Doors, Way := l68 } : Enter) s47 s67)) 114) :: (.own Sl.nil 209 3 (encs ([] : List Word))) :: (.own Sl.nil 204 5 (encs ([] : List DoorR))) :: (.rows (α := Int) 3 (List.map DoorR.row rs48)) :: (.own s47 204 5 (encs rs48)) :: (.own s67 209 3 (encs l68)) :: (.blk b6 (enc (EnterR.mk ({ Enter.zero with Doors := ([] : List Door), Way := ([] : List Word) } : Enter) Sl.nil Sl.nil)) 114) :: (.own Sl.nil 209 3 (encs ([] : List Word))) :: (.own Sl.nil 204 5 (encs ([] : List DoorR))) :: (.blk b1 (enc (EnterR.mk a0 s_a0_0 s_a0_1)) 114) :: L) ⟨rfl, rfl, rfl, rfl, rfl, rfl, rfl, trivial⟩ rfl ?_
 rcases k65 with _ | k65
 ·have hc65 : decide ((i65 : Int) < (x61.Later.length : Int)) = false := decide_eq_false (by omega)
  replace H := rangeF_end H
  refine Cd.seq ?_
  refine Cd.region ?_
  refine Lst.r (Ev.lss rfl rfl) ?_
  refine Lst.nil ?_
  refine At.then ?_
  refine Cd.seq ?_
  refine Cd.condF rfl hc65 ?_
  refine Cd.exit ?_
  refine At.then_exit ?_
  refine At.then_exit ?_
  refine At.in_exit ?_
  subst H
  replace H := HKl65
  refine At.then ?_
  refine Cd.seq ?_
  refine Cd.tail 11 (by kernel_rfl) (by kernel_rfl) ?_
  refine Qt.r (Ev.fieldAddr (off' := 0) rfl Try.runUnderlying114 rfl Try.sizeOf111 rfl rfl) ?_
  refine Qt.r (Ev.load (i := 0) rfl rfl Try.isAgg111 (v := Sl.v s47) ((EnterR.get_Doors (Get.here _)).off (by rfl))) ?_
  refine Qt.r (Ev.move rfl) ?_
  refine Qt.r (Ev.fieldAddr (off' := 0) rfl Try.runUnderlying114 rfl Try.sizeOf111 rfl rfl) ?_
  refine Qt.r (Ev.load (i := 9) rfl rfl Try.isAgg111 (v := Sl.v s_a0_0) ((EnterR.get_Doors (Get.here _)).off (by rfl))) ?_
  refine Qt.r (Ev.move rfl) ?_
  obtain ⟨x79, h80, H⟩ := bind_some H
  have g81 := lat_some h80
  obtain ⟨⟨r82v, r82h4⟩, r82g, r82e, r82m⟩ := map_get hm_a0_0 g81.2.2
  obtain rfl : x79 = r82v := r82e.symm
  have r82q : DoorR.rel w0 _ _ (DoorR.mk x79 r82h4) := ha_a0_0 _ r82m
  have r82_f4 : Rd w0 _ _ _ _ := r82q
  refine Qt.r (Ev.indexS (α := DoorR) (xs := rs_a0_0) rfl rfl Try.runUnderlying111 Try.sizeOf204 rfl (by decide) (hs_a0_0.mono (FLe.trans hF55 hF70) (sc8 (sc2 hM))) g81.1 (by have := map_len hm_a0_0; omega)) ?_
  refine Qt.r (Ev.fieldS (α := DoorR) (f' := a1.toNat * 5 + 0) rfl (hs_a0_0.mono (FLe.trans hF55 hF70) (sc8 (sc2 hM))) ((Get.elemN (s := 5) rfl r82g (Get.here _)).off (by omega)) rfl Try.runUnderlying204 rfl Try.sizeOf3 rfl rfl rfl) ?_
  refine Qt.r (Ev.loadS (α := DoorR) rfl (hs_a0_0.mono (FLe.trans hF55 hF70) (sc8 (sc2 hM))) Try.isAgg3 (v := iv x79.Clock) ((Get.elemN (s := 5) rfl r82g (DoorR.get_Clock (Get.here _))).off (by omega))) ?_
  refine Qt.r (Ev.build (v := .agg (enc (DoorR.mk ({ Door.zero with Clock := x79.Clock } : Door) Sl.nil)).toArray) (pv := [(0, iv x79.Clock)]) ⟨rfl, rfl, trivial⟩ (fun w => by kernel_rfl)) ?_
  obtain ⟨x83, h84, H⟩ := bind_some H
  have g85 := lat_some h84
  obtain ⟨⟨r86v, r86h4⟩, r86g, r86e, r86m⟩ := map_get fm49 g85.2.2
  obtain rfl : x83 = r86v := r86e.symm
  have r86wg := map_at DoorR.row r86g
  refine Qt.r (Ev.indexS (α := DoorR) (xs := rs48) rfl rfl Try.runUnderlying111 Try.sizeOf204 rfl (by decide) (Rd.own (i := 4) rfl rfl rfl) g85.1 (by have := map_len fm49; omega)) ?_
  refine Qt.tail ?_
  obtain ⟨p88, h89, H⟩ := Let_some H
  have hm90 : (rs48.set a1.toNat (DoorR.mk ({ Door.zero with Clock := x79.Clock } : Door) Sl.nil)).map DoorR.v = p88 := (map_set fm49 _ _).trans h89
  refine Lst.front (i := 3) rfl (L' := (.rows (α := Int) 3 (List.map DoorR.row rs48)) :: (.blk b59 (enc (EnterR.mk ({ y66 with Doors := r45.Doors, Way := l68 } : Enter) s47 s67)) 114) :: (.own Sl.nil 209 3 (encs ([] : List Word))) :: (.own Sl.nil 204 5 (encs ([] : List DoorR))) :: (.own s47 204 5 (encs rs48)) :: (.own s67 209 3 (encs l68)) :: (.blk b6 (enc (EnterR.mk ({ Enter.zero with Doors := ([] : List Door), Way := ([] : List Word) } : Enter) Sl.nil Sl.nil)) 114) :: (.own Sl.nil 209 3 (encs ([] : List Word))) :: (.own Sl.nil 204 5 (encs ([] : List DoorR))) :: (.blk b1 (enc (EnterR.mk a0 s_a0_0 s_a0_1)) 114) :: L) rfl ?_
  refine Lst.rowOut (k := a1.toNat) r86wg rfl ?_
  refine Lst.its (L' := (.own r86h4 3 1 (encs x83.Later)) :: (.rows (α := Int) 3 ((List.map DoorR.row rs48).set a1.toNat ⟨[], Sl.nil⟩)) :: (.blk b59 (enc (EnterR.mk ({ y66 with Doors := r45.Doors, Way := l68 } : Enter) s47 s67)) 114) :: (.own Sl.nil 209 3 (encs ([] : List Word))) :: (.own Sl.nil 204 5 (encs ([] : List DoorR))) :: (.own s47 204 5 (encs rs48)) :: (.own s67 209 3 (encs l68)) :: (.blk b6 (enc (EnterR.mk ({ Enter.zero with Doors := ([] : List Door), Way := ([] : List Word) } : Enter) Sl.nil Sl.nil)) 114) :: (.own Sl.nil 209 3 (encs ([] : List Word))) :: (.own Sl.nil 204 5 (encs ([] : List DoorR))) :: (.blk b1 (enc (EnterR.mk a0 s_a0_0 s_a0_1)) 114) :: L) rfl ?_
  refine Lst.less (L' := (.rows (α := Int) 3 ((List.map DoorR.row rs48).set a1.toNat ⟨[], Sl.nil⟩)) :: (.blk b59 (enc (EnterR.mk ({ y66 with Doors := r45.Doors, Way := l68 } : Enter) s47 s67)) 114) :: (.own Sl.nil 209 3 (encs ([] : List Word))) :: (.own Sl.nil 204 5 (encs ([] : List DoorR))) :: (.own s47 204 5 (encs rs48)) :: (.own s67 209 3 (encs l68)) :: (.blk b6 (enc (EnterR.mk ({ Enter.zero with Doors := ([] : List Door), Way := ([] : List Word) } : Enter) Sl.nil Sl.nil)) 114) :: (.own Sl.nil 209 3 (encs ([] : List Word))) :: (.own Sl.nil 204 5 (encs ([] : List DoorR))) :: (.blk b1 (enc (EnterR.mk a0 s_a0_0 s_a0_1)) 114) :: L) (sc1 (.refl _)) ?_
  refine Lst.storeS (i := 4) rfl rfl rfl rfl rfl Try.sizeOf204 (vs := enc (DoorR.mk ({ Door.zero with Clock := x79.Clock } : Door) Sl.nil)) rfl (Enc.len _) (by decide) (Enc.one _) (xs' := encs (rs48.set a1.toNat (DoorR.mk ({ Door.zero with Clock := x79.Clock } : Door) Sl.nil))) ((Put.elemN (s := 5) (x := DoorR.mk x83 r86h4) (y := (DoorR.mk ({ Door.zero with Clock := x79.Clock } : Door) Sl.nil)) rfl r86g (Put.here ((Enc.len _).trans (Enc.len _).symm))).off (by omega)) (L' := (.rows (α := Int) 3 ((List.map DoorR.row rs48).set a1.toNat ⟨[], Sl.nil⟩)) :: (.blk b59 (enc (EnterR.mk ({ y66 with Doors := p88, Way := l68 } : Enter) s47 s67)) 114) :: (.own Sl.nil 209 3 (encs ([] : List Word))) :: (.own Sl.nil 204 5 (encs ([] : List DoorR))) :: (.own s47 204 5 (encs (rs48.set a1.toNat (DoorR.mk ({ Door.zero with Clock := x79.Clock } : Door) Sl.nil)))) :: (.own s67 209 3 (encs l68)) :: (.blk b6 (enc (EnterR.mk ({ Enter.zero with Doors := ([] : List Door), Way := ([] : List Word) } : Enter) Sl.nil Sl.nil)) 114) :: (.own Sl.nil 209 3 (encs ([] : List Word))) :: (.own Sl.nil 204 5 (encs ([] : List DoorR))) :: (.blk b1 (enc (EnterR.mk a0 s_a0_0 s_a0_1)) 114) :: L) rfl ?_
  refine Lst.its (L' := (.rows (α := Int) 3 (List.map DoorR.row (rs48.set a1.toNat (DoorR.mk ({ Door.zero with Clock := x79.Clock } : Door) Sl.nil)))) :: (.blk b59 (enc (EnterR.mk ({ y66 with Doors := p88, Way := l68 } : Enter) s47 s67)) 114) :: (.own Sl.nil 209 3 (encs ([] : List Word))) :: (.own Sl.nil 204 5 (encs ([] : List DoorR))) :: (.own s47 204 5 (encs (rs48.set a1.toNat (DoorR.mk ({ Door.zero with Clock := x79.Clock } : Door) Sl.nil)))) :: (.own s67 209 3 (encs l68)) :: (.blk b6 (enc (EnterR.mk ({ Enter.zero with Doors := ([] : List Door), Way := ([] : List Word) } : Enter) Sl.nil Sl.nil)) 114) :: (.own Sl.nil 209 3 (encs ([] : List Word))) :: (.own Sl.nil 204 5 (encs ([] : List DoorR))) :: (.blk b1 (enc (EnterR.mk a0 s_a0_0 s_a0_1)) 114) :: L) (by rw [map_set_nil (f := DoorR.row) (l := rs48) (y := (DoorR.mk ({ Door.zero with Clock := x79.Clock } : Door) Sl.nil)) (b := ⟨[], Sl.nil⟩) rfl]) ?_
  refine Lst.nil ?_
  refine At.then ?_
  refine Cd.seq ?_
  refine Cd.as (e' := [(4, pv b6 0), (7, pv b59 0)]) (L' := (.rows (α := Int) 3 (List.map DoorR.row (rs48.set a1.toNat (DoorR.mk ({ Door.zero with Clock := x79.Clock } : Door) Sl.nil)))) :: (.blk b59 (enc (EnterR.mk ({ y66 with Doors := p88, Way := l68 } : Enter) s47 s67)) 114) :: (.own Sl.nil 209 3 (encs ([] : List Word))) :: (.own Sl.nil 204 5 (encs ([] : List DoorR))) :: (.own s47 204 5 (encs (rs48.set a1.toNat (DoorR.mk ({ Door.zero with Clock := x79.Clock } : Door) Sl.nil)))) :: (.own s67 209 3 (encs l68)) :: (.blk b6 (enc (EnterR.mk ({ Enter.zero with Doors := ([] : List Door), Way := ([] : List Word) } : Enter) Sl.nil Sl.nil)) 114) :: (.own Sl.nil 209 3 (encs ([] : List Word))) :: (.own Sl.nil 204 5 (encs ([] : List DoorR))) :: (.blk b1 (enc (EnterR.mk a0 s_a0_0 s_a0_1)) 114) :: L) ⟨rfl, rfl, trivial⟩ rfl ?_
  refine Cd.region ?_
  refine Lst.r (Ev.loadA (i := 1) rfl rfl Try.isAgg114 Try.sizeOf114 (ch := enc (EnterR.mk ({ y66 with Doors := p88, Way := l68 } : Enter) s47 s67)) (Enc.len _) (Get.here _)) ?_
  refine Lst.store (i := 6) rfl rfl rfl rfl rfl Try.sizeOf114 (vs := enc (EnterR.mk ({ y66 with Doors := p88, Way := l68 } : Enter) s47 s67)) rfl (Enc.len _) (Enc.one _) (cs' := enc (EnterR.mk ({ y66 with Doors := p88, Way := l68 } : Enter) s47 s67)) (Put.here ((Enc.len _).trans (Enc.len _).symm)) (L' := (.rows (α := Int) 3 (List.map DoorR.row (rs48.set a1.toNat (DoorR.mk ({ Door.zero with Clock := x79.Clock } : Door) Sl.nil)))) :: (.blk b59 (enc (EnterR.mk ({ y66 with Doors := p88, Way := l68 } : Enter) s47 s67)) 114) :: (.own Sl.nil 209 3 (encs ([] : List Word))) :: (.own Sl.nil 204 5 (encs ([] : List DoorR))) :: (.own s47 204 5 (encs (rs48.set a1.toNat (DoorR.mk ({ Door.zero with Clock := x79.Clock } : Door) Sl.nil)))) :: (.own s67 209 3 (encs l68)) :: (.blk b6 (enc (EnterR.mk ({ y66 with Doors := p88, Way := l68 } : Enter) s47 s67)) 114) :: (.own Sl.nil 209 3 (encs ([] : List Word))) :: (.own Sl.nil 204 5 (encs ([] : List DoorR))) :: (.blk b1 (enc (EnterR.mk a0 s_a0_0 s_a0_1)) 114) :: L) rfl ?_
  refine Lst.r (Ev.assign rfl) ?_
  refine Lst.nil ?_
  refine At.then ?_
  obtain rfl := some_inj H
  refine Cd.ret ?_
  exact At.ret2 rfl (Res.cellA (i := 6) rfl rfl Try.isAgg114 Try.sizeOf114 (Enc.len _)) (Res.tmp rfl) (FLe.trans hF55 hF70) (sk1 (sc1 (sc1 (sc1 (sk1 (sk1 (sc1 (sc1 (sc1 (sc1 (.refl _))))))))))) ⟨s47, (rs48.set a1.toNat (DoorR.mk ({ Door.zero with Clock := x79.Clock } : Door) Sl.nil)), s67, rfl, rfl, hm90⟩
 have hc65 : decide ((i65 : Int) < (x61.Later.length : Int)) = true := decide_eq_true (by omega)
 obtain ⟨c65, H, hgo65⟩ := rangeF_go H
 unfold enter_Leave_B1 at H
 try dsimp only at H
 refine Cd.seq ?_
 refine Cd.region ?_
 refine Lst.r (Ev.lss rfl rfl) ?_
 refine Lst.nil ?_
 refine At.then ?_
 refine Cd.seq ?_
 refine Cd.condT rfl hc65 ?_
 refine Cd.skip ?_
 refine At.then ?_
 refine Cd.seq ?_
 refine Cd.block ?_
 refine Cd.seq ?_
 refine Cd.region ?_
 obtain ⟨x71, h72, H⟩ := bind_some H
 have g73 := lat_some h72
 refine Lst.r (Ev.indexS (α := Int) (xs := x61.Later) rfl rfl Try.runUnderlying36 Try.sizeOf3 rfl (by decide) (Rd.row (j := 3) rfl r64wg) g73.1 g73.2.1) ?_
 refine Lst.r (Ev.loadS (α := Int) rfl (Rd.row (j := 3) rfl r64wg) Try.isAgg3 (v := iv x71) ((Get.elemN (s := 1) (x := x71) rfl g73.2.2 (Get.here _)).off (by omega))) ?_
 refine Lst.r (Ev.assign rfl) ?_
 refine Lst.nil ?_
 refine At.then ?_
 refine Cd.region ?_
 refine Lst.r (Ev.fieldAddr (off' := 1) rfl Try.runUnderlying114 rfl Try.sizeOf112 rfl rfl) ?_
 refine Lst.r (Ev.load (i := 0) rfl rfl Try.isAgg112 (v := Sl.v s67) ((EnterR.get_Way (Get.here _)).off (by rfl))) ?_
 refine Lst.r (Ev.move rfl) ?_
 refine Lst.r (Ev.move rfl) ?_
 refine Lst.r (Ev.build (v := .agg (enc ({ Word.zero with From := a1, To := x71 } : Word)).toArray) (pv := [(0, iv a1), (1, iv x71)]) ⟨rfl, rfl, ⟨rfl, rfl, trivial⟩⟩ (fun w => by kernel_rfl)) ?_
 refine Lst.buildSlice (α := Word) (xs := ([({ Word.zero with From := a1, To := x71 } : Word)] : List Word)) (pv := [(0, .agg (enc ({ Word.zero with From := a1, To := x71 } : Word)).toArray)]) rfl rfl (by decide) ⟨rfl, rfl, trivial⟩ (run_buildSlice (α := Word) (z0 := Word.zero) (xs := ([({ Word.zero with From := a1, To := x71 } : Word)] : List Word)) Try.runUnderlying112 Try.sizeOf209 Try.zeroValue209 rfl rfl rfl (by decide) rfl (fill_cons (cs := encs (List.replicate 1 Word.zero)) (cs' := encs ((List.replicate 1 Word.zero).set 0 ({ Word.zero with From := a1, To := x71 } : Word))) (vs := enc ({ Word.zero with From := a1, To := x71 } : Word)) rfl rfl (Enc.len _) ((Put.elemN (s := 3) (i := 0) (x := Word.zero) (y := ({ Word.zero with From := a1, To := x71 } : Word)) rfl rfl (Put.here ((Enc.len _).trans (Enc.len _).symm))).off rfl) fill_nil)) rfl rfl (by decide) (fun s74 _ => ?_)
 obtain ⟨u76, h77, H⟩ := bind_some H
 refine Lst.append (i := 6) (α := Word) (xs := l68) (ys := ([({ Word.zero with From := a1, To := x71 } : Word)] : List Word)) rfl rfl (by decide) rfl rfl Try.runUnderlying112 Try.typeInfo209 rfl rfl rfl rfl rfl rfl (Rd.own (i := 0) rfl rfl rfl) rfl (room_some h77) rfl (fun s78 => ?_)
 refine Lst.its (L' := (.own s74 209 3 (encs ([({ Word.zero with From := a1, To := x71 } : Word)] : List Word))) :: (.blk b59 (enc (EnterR.mk ({ y66 with Doors := r45.Doors } : Enter) s47 s67)) 114) :: (.own Sl.nil 209 3 (encs ([] : List Word))) :: (.own Sl.nil 204 5 (encs ([] : List DoorR))) :: (.rows (α := Int) 3 (List.map DoorR.row rs48)) :: (.own s47 204 5 (encs rs48)) :: (.own s78 209 3 (encs (l68 ++ ([({ Word.zero with From := a1, To := x71 } : Word)] : List Word)))) :: (.blk b6 (enc (EnterR.mk ({ Enter.zero with Doors := ([] : List Door), Way := ([] : List Word) } : Enter) Sl.nil Sl.nil)) 114) :: (.own Sl.nil 209 3 (encs ([] : List Word))) :: (.own Sl.nil 204 5 (encs ([] : List DoorR))) :: (.blk b1 (enc (EnterR.mk a0 s_a0_0 s_a0_1)) 114) :: L) rfl ?_
 refine Lst.r (Ev.fieldAddr (off' := 1) rfl Try.runUnderlying114 rfl Try.sizeOf112 rfl rfl) ?_
 refine Lst.store (i := 1) rfl rfl rfl rfl rfl Try.sizeOf112 (vs := [Sl.v s78]) rfl rfl rfl (cs' := enc (EnterR.mk ({ y66 with Doors := r45.Doors, Way := l68 ++ ([({ Word.zero with From := a1, To := x71 } : Word)] : List Word) } : Enter) s47 s78)) ((EnterR.put_Way (Put.here (vs := [Sl.v s78]) rfl)).off (by rfl)) (L' := (.own s74 209 3 (encs ([({ Word.zero with From := a1, To := x71 } : Word)] : List Word))) :: (.blk b59 (enc (EnterR.mk ({ y66 with Doors := r45.Doors, Way := l68 ++ ([({ Word.zero with From := a1, To := x71 } : Word)] : List Word) } : Enter) s47 s78)) 114) :: (.own Sl.nil 209 3 (encs ([] : List Word))) :: (.own Sl.nil 204 5 (encs ([] : List DoorR))) :: (.rows (α := Int) 3 (List.map DoorR.row rs48)) :: (.own s47 204 5 (encs rs48)) :: (.own s78 209 3 (encs (l68 ++ ([({ Word.zero with From := a1, To := x71 } : Word)] : List Word)))) :: (.blk b6 (enc (EnterR.mk ({ Enter.zero with Doors := ([] : List Door), Way := ([] : List Word) } : Enter) Sl.nil Sl.nil)) 114) :: (.own Sl.nil 209 3 (encs ([] : List Word))) :: (.own Sl.nil 204 5 (encs ([] : List DoorR))) :: (.blk b1 (enc (EnterR.mk a0 s_a0_0 s_a0_1)) 114) :: L) rfl ?_
 refine Lst.nil ?_
 refine At.in_normal ?_
 refine At.then ?_
 refine Cd.region ?_
 refine Lst.r (Ev.incr (by omega) rfl rfl) ?_
 refine Lst.r (Ev.move rfl) ?_
 refine Lst.nil ?_
 refine At.less (L' := (.blk b59 (enc (EnterR.mk ({ y66 with Doors := r45.Doors, Way := l68 ++ ([({ Word.zero with From := a1, To := x71 } : Word)] : List Word) } : Enter) s47 s78)) 114) :: (.own Sl.nil 209 3 (encs ([] : List Word))) :: (.own Sl.nil 204 5 (encs ([] : List DoorR))) :: (.rows (α := Int) 3 (List.map DoorR.row rs48)) :: (.own s47 204 5 (encs rs48)) :: (.own s78 209 3 (encs (l68 ++ ([({ Word.zero with From := a1, To := x71 } : Word)] : List Word)))) :: (.blk b6 (enc (EnterR.mk ({ Enter.zero with Doors := ([] : List Door), Way := ([] : List Word) } : Enter) Sl.nil Sl.nil)) 114) :: (.own Sl.nil 209 3 (encs ([] : List Word))) :: (.own Sl.nil 204 5 (encs ([] : List DoorR))) :: (.blk b1 (enc (EnterR.mk a0 s_a0_0 s_a0_1)) 114) :: L) (sc1 (sk1 (sk1 (sk1 (sk1 (sk1 (sk1 (sk1 (sk1 (sk1 (sk1 (.refl _)))))))))))) ?_
 exact At.meet (i65 + 1, k65, ({ y66 with Doors := r45.Doors, Way := l68 ++ ([({ Word.zero with From := a1, To := x71 } : Word)] : List Word) } : Enter), s78, l68 ++ ([({ Word.zero with From := a1, To := x71 } : Word)] : List Word)) hF70 ⟨rfl, rfl, rfl, rfl, rfl, rfl, rfl, trivial⟩ rfl ⟨⟨hgo65 _ (some_inj H).symm, by omega⟩, Nat.lt_succ_self _⟩
set_option maxRecDepth 20000 in
theorem slices_Equal_int_int_sim {a0 : List Int} {a1 : List Int} {s_a0 : Sl} {s_a1 : Sl} {r : Bool} (H : slices_Equal_int_int a0 a1 = some r) (w0 : World) (F : Frz) (M L : List Item) (hM : M.Sublist L) (hs_a0 : Rd w0 F M s_a0 a0) (hs_a1 : Rd w0 F M s_a1 a1) : Ok Try.prog w0 128 [Sl.v s_a0, Sl.v s_a1] F (L) (Is (.bool r) (L)) := by
 unfold slices_Equal_int_int at H
 refine Ok.enter (m := 2) (n := 26) Try.func128 rfl rfl rfl (by decide) ?_
 refine Cd.env (e' := [(0, Sl.v s_a0), (1, Sl.v s_a1)]) rfl ?_
 refine Cd.seq ?_
 refine Cd.region ?_
 refine Lst.r (Ev.assign rfl) ?_
 refine Lst.nil ?_
 refine At.then ?_
 refine Cd.seq ?_
 refine Cd.seq ?_
 refine Cd.region ?_
 refine Lst.r (Ev.move rfl) ?_
 refine Lst.r (Ev.lenS (α := Int) (xs := a0) (by decide) rfl rfl Try.runUnderlying36 (hs_a0.mono (FLe.refl _) hM)) ?_
 refine Lst.r (Ev.move rfl) ?_
 refine Lst.r (Ev.lenS (α := Int) (xs := a1) (by decide) rfl rfl Try.runUnderlying36 (hs_a1.mono (FLe.refl _) hM)) ?_
 refine Lst.r (Ev.neq rfl rfl) ?_
 refine Lst.nil ?_
 refine At.then ?_
 rcases Bool.eq_false_or_eq_true ((a0.length : Int) != (a1.length : Int)) with hb1 | hb1
 ·replace H := ite_t hb1 H
  refine Cd.condT rfl hb1 ?_
  refine Cd.seq ?_
  refine Cd.region ?_
  refine Lst.r (Ev.assign rfl) ?_
  refine Lst.nil ?_
  refine At.then ?_
  obtain rfl := some_inj H
  refine Cd.ret ?_
  refine At.then_ret ?_
  exact At.ret1 rfl (Res.tmp rfl) (FLe.refl _) (.refl _) ⟨rfl, rfl⟩
 replace H := ite_f hb1 H
 refine Cd.condF rfl hb1 ?_
 refine Cd.skip ?_
 refine At.then ?_
 refine Cd.seq ?_
 refine Cd.seq ?_
 refine Cd.region ?_
 refine Lst.r (Ev.move rfl) ?_
 refine Lst.r (Ev.lenS (α := Int) (xs := a0) (by decide) rfl rfl Try.runUnderlying36 (hs_a0.mono (FLe.refl _) hM)) ?_
 refine Lst.r (Ev.move rfl) ?_
 refine Lst.nil ?_
 refine At.then ?_
 refine Cd.block ?_
 refine Cd.bound (Rd.le (α := Int) (xs := a0) (by decide) (hs_a0.mono (FLe.refl _) hM)) (fun hN12 => ?_)
 obtain ⟨ol2, H, HKl2⟩ := andThen_some H
 refine Cd.loop (σ := Nat × Nat × Unit) (fun (i2, k2, _u) => [(0, Sl.v s_a0), (1, Sl.v s_a1), (12, iv (a0.length : Int)), (13, iv (i2 : Int))]) (fun (i2, k2, _u) => L) (fun _ => (fun (i2, k2, _u) => rangeM (slices_Equal_int_int_B0 a0 a1) k2 i2 () = some ol2 ∧ i2 + k2 = a0.length)) (fun (i2, k2, _u) => k2) (0, a0.length, ()) ⟨rfl, rfl, rfl, rfl, trivial⟩ rfl ⟨H, by omega⟩ ?_
 rintro F3 ⟨i2, k2, _u⟩ hF4 ⟨H, hik2⟩
 refine Cd.as (e' := [(0, Sl.v s_a0), (1, Sl.v s_a1), (12, iv (a0.length : Int)), (13, iv (i2 : Int))]) (L' := L) ⟨rfl, rfl, rfl, rfl, trivial⟩ rfl ?_
 rcases k2 with _ | k2
 ·have hc2 : decide ((i2 : Int) < (a0.length : Int)) = false := decide_eq_false (by omega)
  replace H := rangeM_end H
  refine Cd.seq ?_
  refine Cd.region ?_
  refine Lst.r (Ev.lss rfl rfl) ?_
  refine Lst.nil ?_
  refine At.then ?_
  refine Cd.seq ?_
  refine Cd.condF rfl hc2 ?_
  refine Cd.exit ?_
  refine At.then_exit ?_
  refine At.then_exit ?_
  refine At.in_exit ?_
  subst H
  replace H := HKl2
  refine At.then ?_
  refine Cd.seq ?_
  refine Cd.region ?_
  refine Lst.r (Ev.assign rfl) ?_
  refine Lst.nil ?_
  refine At.then ?_
  obtain rfl := some_inj H
  refine Cd.ret ?_
  exact At.ret1 rfl (Res.tmp rfl) hF4 (.refl _) ⟨rfl, rfl⟩
 have hc2 : decide ((i2 : Int) < (a0.length : Int)) = true := decide_eq_true (by omega)
 obtain ⟨c2, H, hgo2, hbrk2, hret2⟩ := rangeM_go H
 unfold slices_Equal_int_int_B0 at H
 try dsimp only at H
 refine Cd.seq ?_
 refine Cd.region ?_
 refine Lst.r (Ev.lss rfl rfl) ?_
 refine Lst.nil ?_
 refine At.then ?_
 refine Cd.seq ?_
 refine Cd.condT rfl hc2 ?_
 refine Cd.skip ?_
 refine At.then ?_
 refine Cd.seq ?_
 refine Cd.block ?_
 refine Cd.seq ?_
 refine Cd.region ?_
 refine Lst.r (Ev.move rfl) ?_
 refine Lst.r (Ev.assign rfl) ?_
 refine Lst.nil ?_
 refine At.then ?_
 refine Cd.seq ?_
 refine Cd.quiet (by kernel_rfl) (by kernel_rfl) ?_
 refine Qt.r (Ev.move rfl) ?_
 refine Qt.r (Ev.move rfl) ?_
 obtain ⟨x5, h6, H⟩ := bind_some H
 have g7 := lat_some h6
 refine Qt.r (Ev.indexS (α := Int) (xs := a0) rfl rfl Try.runUnderlying36 Try.sizeOf3 rfl (by decide) (hs_a0.mono hF4 hM) g7.1 g7.2.1) ?_
 refine Qt.r (Ev.loadS (α := Int) rfl (hs_a0.mono hF4 hM) Try.isAgg3 (v := iv x5) ((Get.elemN (s := 1) (x := x5) rfl g7.2.2 (Get.here _)).off (by omega))) ?_
 refine Qt.r (Ev.move rfl) ?_
 refine Qt.r (Ev.move rfl) ?_
 obtain ⟨x8, h9, H⟩ := bind_some H
 have g10 := lat_some h9
 refine Qt.r (Ev.indexS (α := Int) (xs := a1) rfl rfl Try.runUnderlying36 Try.sizeOf3 rfl (by decide) (hs_a1.mono hF4 hM) g10.1 g10.2.1) ?_
 refine Qt.r (Ev.loadS (α := Int) rfl (hs_a1.mono hF4 hM) Try.isAgg3 (v := iv x8) ((Get.elemN (s := 1) (x := x8) rfl g10.2.2 (Get.here _)).off (by omega))) ?_
 refine Qt.r (Ev.neq rfl rfl) ?_
 refine Qt.done ?_
 refine At.then ?_
 rcases Bool.eq_false_or_eq_true (x5 != x8) with hb11 | hb11
 ·replace H := ite_t hb11 H
  refine Cd.condT rfl hb11 ?_
  refine Cd.seq ?_
  refine Cd.as (e' := []) (L' := L) trivial rfl ?_
  refine Cd.region ?_
  refine Lst.r (Ev.assign rfl) ?_
  refine Lst.nil ?_
  refine At.then ?_
  have H := hret2 _ (some_inj H).symm
  subst H
  replace H := HKl2
  obtain rfl := some_inj H
  refine Cd.ret ?_
  refine At.in_ret ?_
  refine At.then_ret ?_
  refine At.then_ret ?_
  refine At.in_ret ?_
  refine At.then_ret ?_
  exact At.ret1 rfl (Res.tmp rfl) hF4 (.refl _) ⟨rfl, rfl⟩
 replace H := ite_f hb11 H
 refine Cd.condF rfl hb11 ?_
 refine Cd.skip ?_
 refine At.in_normal ?_
 refine At.then ?_
 refine Cd.region ?_
 refine Lst.r (Ev.incr (by omega) rfl rfl) ?_
 refine Lst.r (Ev.move rfl) ?_
 refine Lst.nil ?_
 exact At.meet (i2 + 1, k2, ()) hF4 ⟨rfl, rfl, rfl, rfl, trivial⟩ rfl ⟨⟨hgo2 _ (some_inj H).symm, by omega⟩, Nat.lt_succ_self _⟩
set_option maxRecDepth 20000 in
theorem partref_SameEnter_1_sim {a0 : Door} {a1 : Door} {s_a0_4 : Sl} {s_a1_4 : Sl} {r : Bool} (H : partref_SameEnter_1 a0 a1 = some r) (w0 : World) (F : Frz) (M L : List Item) (hM : M.Sublist L) (hs_a0_4 : Rd w0 F M s_a0_4 a0.Later) (hs_a1_4 : Rd w0 F M s_a1_4 a1.Later) : Ok Try.prog w0 160 [.agg (enc (DoorR.mk a0 s_a0_4)).toArray, .agg (enc (DoorR.mk a1 s_a1_4)).toArray] F (L) (Is (.bool r) (L)) := by
 unfold partref_SameEnter_1 at H
 refine Ok.enter (m := 2) (n := 38) Try.func160 rfl rfl rfl (by decide) ?_
 refine Cd.env (e' := [(0, .agg (enc (DoorR.mk a0 s_a0_4)).toArray), (1, .agg (enc (DoorR.mk a1 s_a1_4)).toArray)]) rfl ?_
 refine Cd.seq ?_
 refine Cd.region ?_
 refine Lst.box rfl rfl (by decide) rfl (cs := enc (DoorR.mk a0 s_a0_4)) rfl (fun b1 => ?_)
 refine Lst.box rfl rfl (by decide) rfl (cs := enc (DoorR.mk a1 s_a1_4)) rfl (fun b3 => ?_)
 refine Lst.r (Ev.assign rfl) ?_
 refine Lst.nil ?_
 refine At.then ?_
 refine Cd.seq ?_
 refine Cd.region ?_
 refine Lst.r (Ev.fieldAddr (off' := 0) rfl Try.runUnderlying204 rfl Try.sizeOf3 rfl rfl) ?_
 refine Lst.r (Ev.load (i := 1) rfl rfl Try.isAgg3 (v := iv a0.Clock) ((DoorR.get_Clock (Get.here _)).off (by rfl))) ?_
 refine Lst.r (Ev.fieldAddr (off' := 0) rfl Try.runUnderlying204 rfl Try.sizeOf3 rfl rfl) ?_
 refine Lst.r (Ev.load (i := 0) rfl rfl Try.isAgg3 (v := iv a1.Clock) ((DoorR.get_Clock (Get.here _)).off (by rfl))) ?_
 refine Lst.r (Ev.eql rfl rfl) ?_
 refine Lst.r (Ev.move rfl) ?_
 obtain ⟨o5, H, HKo5⟩ := bind_some H
 refine Lst.join (σ := Bool) 6 (fun y6 => [(2, pv b1 0), (3, pv b3 0), (16, .bool y6)]) (fun y6 => (.blk b3 (enc (DoorR.mk a1 s_a1_4)) 204) :: (.blk b1 (enc (DoorR.mk a0 s_a0_4)) 204) :: L) (fun _ y6 => y6 = o5) ?_ ?_
 ·rcases (Bool.eq_false_or_eq_true (a0.Clock == a1.Clock)).symm with hb7 | hb7
  ·replace H := ite_f hb7 H
   refine Lst.skip rfl rfl rfl hb7 rfl (by decide) ?_
   refine Lst.skip rfl rfl rfl hb7 rfl (by decide) ?_
   refine Lst.skip rfl rfl rfl hb7 rfl (by decide) ?_
   refine Lst.skip rfl rfl rfl hb7 rfl (by decide) ?_
   refine Lst.skip rfl rfl rfl hb7 rfl (by decide) ?_
   refine Lst.r (Ev.pickF rfl hb7 rfl) ?_
   refine Lst.nil ?_
   exact At.meet false (FLe.refl _) ⟨rfl, rfl, rfl, trivial⟩ rfl (some_inj H)
  replace H := ite_t hb7 H
  refine Lst.rG hb7 (Ev.fieldAddr (off' := 1) rfl Try.runUnderlying204 rfl Try.sizeOf3 rfl rfl) ?_
  refine Lst.rG hb7 (Ev.load (i := 1) rfl rfl Try.isAgg3 (v := iv a0.Wish) ((DoorR.get_Wish (Get.here _)).off (by rfl))) ?_
  refine Lst.rG hb7 (Ev.fieldAddr (off' := 1) rfl Try.runUnderlying204 rfl Try.sizeOf3 rfl rfl) ?_
  refine Lst.rG hb7 (Ev.load (i := 0) rfl rfl Try.isAgg3 (v := iv a1.Wish) ((DoorR.get_Wish (Get.here _)).off (by rfl))) ?_
  refine Lst.rG hb7 (Ev.eql rfl rfl) ?_
  refine Lst.r (Ev.pickT rfl hb7 rfl) ?_
  refine Lst.nil ?_
  exact At.meet (a0.Wish == a1.Wish) (FLe.refl _) ⟨rfl, rfl, rfl, trivial⟩ rfl (some_inj H)
 rintro F8 y6 hF9 hy
 subst hy
 refine Lst.as (e' := [(2, pv b1 0), (3, pv b3 0), (16, .bool y6)]) (L' := (.blk b3 (enc (DoorR.mk a1 s_a1_4)) 204) :: (.blk b1 (enc (DoorR.mk a0 s_a0_4)) 204) :: L) ⟨rfl, rfl, rfl, trivial⟩ rfl ?_
 replace H := HKo5
 refine Lst.r (Ev.move rfl) ?_
 obtain ⟨o10, H, HKo10⟩ := bind_some H
 refine Lst.join (σ := Bool) 6 (fun y11 => [(2, pv b1 0), (3, pv b3 0), (23, .bool y11)]) (fun y11 => (.blk b3 (enc (DoorR.mk a1 s_a1_4)) 204) :: (.blk b1 (enc (DoorR.mk a0 s_a0_4)) 204) :: L) (fun _ y11 => y11 = o10) ?_ ?_
 ·rcases (Bool.eq_false_or_eq_true y6).symm with hb12 | hb12
  ·replace H := ite_f hb12 H
   refine Lst.skip rfl rfl rfl hb12 rfl (by decide) ?_
   refine Lst.skip rfl rfl rfl hb12 rfl (by decide) ?_
   refine Lst.skip rfl rfl rfl hb12 rfl (by decide) ?_
   refine Lst.skip rfl rfl rfl hb12 rfl (by decide) ?_
   refine Lst.skip rfl rfl rfl hb12 rfl (by decide) ?_
   refine Lst.r (Ev.pickF rfl hb12 rfl) ?_
   refine Lst.nil ?_
   exact At.meet false (FLe.refl _) ⟨rfl, rfl, rfl, trivial⟩ rfl (some_inj H)
  replace H := ite_t hb12 H
  refine Lst.rG hb12 (Ev.fieldAddr (off' := 2) rfl Try.runUnderlying204 rfl Try.sizeOf5 rfl rfl) ?_
  refine Lst.rG hb12 (Ev.load (i := 1) rfl rfl Try.isAgg5 (v := .int .u8 a0.Yes.toNat) ((DoorR.get_Yes (Get.here _)).off (by rfl))) ?_
  refine Lst.rG hb12 (Ev.fieldAddr (off' := 2) rfl Try.runUnderlying204 rfl Try.sizeOf5 rfl rfl) ?_
  refine Lst.rG hb12 (Ev.load (i := 0) rfl rfl Try.isAgg5 (v := .int .u8 a1.Yes.toNat) ((DoorR.get_Yes (Get.here _)).off (by rfl))) ?_
  refine Lst.rG hb12 (Ev.eql rfl rfl) ?_
  refine Lst.r (Ev.pickT rfl hb12 rfl) ?_
  refine Lst.nil ?_
  exact At.meet ((a0.Yes.toNat : Int) == (a1.Yes.toNat : Int)) (FLe.refl _) ⟨rfl, rfl, rfl, trivial⟩ rfl (some_inj H)
 rintro F13 y11 hF14 hy
 subst hy
 refine Lst.as (e' := [(2, pv b1 0), (3, pv b3 0), (23, .bool y11)]) (L' := (.blk b3 (enc (DoorR.mk a1 s_a1_4)) 204) :: (.blk b1 (enc (DoorR.mk a0 s_a0_4)) 204) :: L) ⟨rfl, rfl, rfl, trivial⟩ rfl ?_
 replace H := HKo10
 refine Lst.r (Ev.move rfl) ?_
 obtain ⟨o15, H, HKo15⟩ := bind_some H
 refine Lst.join (σ := Bool) 6 (fun y16 => [(2, pv b1 0), (3, pv b3 0), (30, .bool y16)]) (fun y16 => (.blk b3 (enc (DoorR.mk a1 s_a1_4)) 204) :: (.blk b1 (enc (DoorR.mk a0 s_a0_4)) 204) :: L) (fun _ y16 => y16 = o15) ?_ ?_
 ·rcases (Bool.eq_false_or_eq_true y11).symm with hb17 | hb17
  ·replace H := ite_f hb17 H
   refine Lst.skip rfl rfl rfl hb17 rfl (by decide) ?_
   refine Lst.skip rfl rfl rfl hb17 rfl (by decide) ?_
   refine Lst.skip rfl rfl rfl hb17 rfl (by decide) ?_
   refine Lst.skip rfl rfl rfl hb17 rfl (by decide) ?_
   refine Lst.skip rfl rfl rfl hb17 rfl (by decide) ?_
   refine Lst.r (Ev.pickF rfl hb17 rfl) ?_
   refine Lst.nil ?_
   exact At.meet false (FLe.refl _) ⟨rfl, rfl, rfl, trivial⟩ rfl (some_inj H)
  replace H := ite_t hb17 H
  refine Lst.rG hb17 (Ev.fieldAddr (off' := 3) rfl Try.runUnderlying204 rfl Try.sizeOf4 rfl rfl) ?_
  refine Lst.rG hb17 (Ev.load (i := 1) rfl rfl Try.isAgg4 (v := .bool a0.In) ((DoorR.get_In (Get.here _)).off (by rfl))) ?_
  refine Lst.rG hb17 (Ev.fieldAddr (off' := 3) rfl Try.runUnderlying204 rfl Try.sizeOf4 rfl rfl) ?_
  refine Lst.rG hb17 (Ev.load (i := 0) rfl rfl Try.isAgg4 (v := .bool a1.In) ((DoorR.get_In (Get.here _)).off (by rfl))) ?_
  refine Lst.rG hb17 (Ev.eqlB rfl rfl Try.runUnderlying4) ?_
  refine Lst.r (Ev.pickT rfl hb17 rfl) ?_
  refine Lst.nil ?_
  exact At.meet (a0.In == a1.In) (FLe.refl _) ⟨rfl, rfl, rfl, trivial⟩ rfl (some_inj H)
 rintro F18 y16 hF19 hy
 subst hy
 refine Lst.as (e' := [(2, pv b1 0), (3, pv b3 0), (30, .bool y16)]) (L' := (.blk b3 (enc (DoorR.mk a1 s_a1_4)) 204) :: (.blk b1 (enc (DoorR.mk a0 s_a0_4)) 204) :: L) ⟨rfl, rfl, rfl, trivial⟩ rfl ?_
 replace H := HKo15
 refine Lst.r (Ev.move rfl) ?_
 obtain ⟨o20, H, HKo20⟩ := bind_some H
 refine Lst.join (σ := Bool) 6 (fun y21 => [(37, .bool y21)]) (fun y21 => (.blk b3 (enc (DoorR.mk a1 s_a1_4)) 204) :: (.blk b1 (enc (DoorR.mk a0 s_a0_4)) 204) :: L) (fun _ y21 => y21 = o20) ?_ ?_
 ·rcases (Bool.eq_false_or_eq_true y16).symm with hb22 | hb22
  ·replace H := ite_f hb22 H
   refine Lst.skip rfl rfl rfl hb22 rfl (by decide) ?_
   refine Lst.skip rfl rfl rfl hb22 rfl (by decide) ?_
   refine Lst.skip rfl rfl rfl hb22 rfl (by decide) ?_
   refine Lst.skip rfl rfl rfl hb22 rfl (by decide) ?_
   refine Lst.skip rfl rfl rfl hb22 rfl (by decide) ?_
   refine Lst.r (Ev.pickF rfl hb22 rfl) ?_
   refine Lst.nil ?_
   exact At.meet false (FLe.refl _) ⟨rfl, trivial⟩ rfl (some_inj H)
  replace H := ite_t hb22 H
  refine Lst.rG hb22 (Ev.fieldAddr (off' := 4) rfl Try.runUnderlying204 rfl Try.sizeOf36 rfl rfl) ?_
  refine Lst.rG hb22 (Ev.load (i := 1) rfl rfl Try.isAgg36 (v := Sl.v s_a0_4) ((DoorR.get_Later (Get.here _)).off (by rfl))) ?_
  refine Lst.rG hb22 (Ev.fieldAddr (off' := 4) rfl Try.runUnderlying204 rfl Try.sizeOf36 rfl rfl) ?_
  refine Lst.rG hb22 (Ev.load (i := 0) rfl rfl Try.isAgg36 (v := Sl.v s_a1_4) ((DoorR.get_Later (Get.here _)).off (by rfl))) ?_
  obtain ⟨r23, h24, H⟩ := bind_some H
  refine Lst.call1G rfl rfl rfl hb22 rfl (by decide) (vs := [Sl.v s_a0_4, Sl.v s_a1_4]) ⟨rfl, rfl, trivial⟩ Try.call128 (slices_Equal_int_int_sim h24 w0 _ M _ (sc2 hM) (hs_a0_4.mono (FLe.trans (FLe.trans hF9 hF14) hF19) (.refl _)) (hs_a1_4.mono (FLe.trans (FLe.trans hF9 hF14) hF19) (.refl _))) ?_
  refine Lst.r (Ev.pickT rfl hb22 rfl) ?_
  refine Lst.nil ?_
  exact At.meet r23 (FLe.refl _) ⟨rfl, trivial⟩ rfl (some_inj H)
 rintro F27 y21 hF28 hy
 subst hy
 refine Lst.as (e' := [(37, .bool y21)]) (L' := (.blk b3 (enc (DoorR.mk a1 s_a1_4)) 204) :: (.blk b1 (enc (DoorR.mk a0 s_a0_4)) 204) :: L) ⟨rfl, trivial⟩ rfl ?_
 replace H := HKo20
 refine Lst.r (Ev.assign rfl) ?_
 refine Lst.nil ?_
 refine At.then ?_
 obtain rfl := some_inj H
 refine Cd.ret ?_
 exact At.ret1 rfl (Res.tmp rfl) (FLe.trans (FLe.trans (FLe.trans hF9 hF14) hF19) hF28) (sc1 (sc1 (.refl _))) ⟨rfl, rfl⟩
set_option maxRecDepth 20000 in
theorem slices_EqualFunc_api_Door_api_Door_api_Door_api_Door_SameEnter_1_sim {a0 : List Door} {a1 : List Door} {s_a0 : Sl} {rs_a0 : List DoorR} {s_a1 : Sl} {rs_a1 : List DoorR} {r : Bool} (H : slices_EqualFunc_api_Door_api_Door_api_Door_api_Door_SameEnter_1 a0 a1 = some r) (w0 : World) (F : Frz) (M L : List Item) (hM : M.Sublist L) (hm_a0 : rs_a0.map DoorR.v = a0) (hs_a0 : Rd w0 F M s_a0 rs_a0) (ha_a0 : All DoorR.rel w0 F M rs_a0) (hm_a1 : rs_a1.map DoorR.v = a1) (hs_a1 : Rd w0 F M s_a1 rs_a1) (ha_a1 : All DoorR.rel w0 F M rs_a1) : Ok Try.prog w0 159 [Sl.v s_a0, Sl.v s_a1, .func (.func 160) #[] #[]] F (L) (Is (.bool r) (L)) := by
 unfold slices_EqualFunc_api_Door_api_Door_api_Door_api_Door_SameEnter_1 at H
 refine Ok.enter (m := 3) (n := 32) Try.func159 rfl rfl rfl (by decide) ?_
 refine Cd.env (e' := [(0, Sl.v s_a0), (1, Sl.v s_a1), (2, .func (.func 160) #[] #[])]) rfl ?_
 refine Cd.seq ?_
 refine Cd.region ?_
 refine Lst.r (Ev.assign rfl) ?_
 refine Lst.nil ?_
 refine At.then ?_
 refine Cd.seq ?_
 refine Cd.seq ?_
 refine Cd.region ?_
 refine Lst.r (Ev.move rfl) ?_
 refine Lst.r (Ev.lenM (map_len hm_a0) (Ev.lenS (α := DoorR) (xs := rs_a0) (by decide) rfl rfl Try.runUnderlying111 (hs_a0.mono (FLe.refl _) hM))) ?_
 refine Lst.r (Ev.move rfl) ?_
 refine Lst.r (Ev.lenM (map_len hm_a1) (Ev.lenS (α := DoorR) (xs := rs_a1) (by decide) rfl rfl Try.runUnderlying111 (hs_a1.mono (FLe.refl _) hM))) ?_
 refine Lst.r (Ev.neq rfl rfl) ?_
 refine Lst.nil ?_
 refine At.then ?_
 rcases Bool.eq_false_or_eq_true ((a0.length : Int) != (a1.length : Int)) with hb3 | hb3
 ·replace H := ite_t hb3 H
  refine Cd.condT rfl hb3 ?_
  refine Cd.seq ?_
  refine Cd.region ?_
  refine Lst.r (Ev.assign rfl) ?_
  refine Lst.nil ?_
  refine At.then ?_
  obtain rfl := some_inj H
  refine Cd.ret ?_
  refine At.then_ret ?_
  exact At.ret1 rfl (Res.tmp rfl) (FLe.refl _) (.refl _) ⟨rfl, rfl⟩
 replace H := ite_f hb3 H
 refine Cd.condF rfl hb3 ?_
 refine Cd.skip ?_
 refine At.then ?_
 refine Cd.seq ?_
 refine Cd.seq ?_
 refine Cd.region ?_
 refine Lst.r (Ev.move rfl) ?_
 refine Lst.r (Ev.lenM (map_len hm_a0) (Ev.lenS (α := DoorR) (xs := rs_a0) (by decide) rfl rfl Try.runUnderlying111 (hs_a0.mono (FLe.refl _) hM))) ?_
 refine Lst.r (Ev.move rfl) ?_
 refine Lst.nil ?_
 refine At.then ?_
 refine Cd.block ?_
 refine Cd.bound (Rd.le (α := DoorR) (xs := rs_a0) (by decide) (hs_a0.mono (FLe.refl _) hM)) (fun hN27 => ?_)
 rw [map_len hm_a0] at hN27
 obtain ⟨ol5, H, HKl5⟩ := andThen_some H
 refine Cd.loop (σ := Nat × Nat × Unit) (fun (i5, k5, _u) => [(1, Sl.v s_a1), (2, .func (.func 160) #[] #[]), (15, Sl.v s_a0), (16, iv (a0.length : Int)), (17, iv (i5 : Int))]) (fun (i5, k5, _u) => L) (fun _ => (fun (i5, k5, _u) => rangeM (slices_EqualFunc_api_Door_api_Door_api_Door_api_Door_SameEnter_1_B0 a0 a1) k5 i5 () = some ol5 ∧ i5 + k5 = a0.length)) (fun (i5, k5, _u) => k5) (0, a0.length, ()) ⟨rfl, rfl, rfl, rfl, rfl, trivial⟩ rfl ⟨H, by omega⟩ ?_
 rintro F6 ⟨i5, k5, _u⟩ hF7 ⟨H, hik5⟩
 refine Cd.as (e' := [(1, Sl.v s_a1), (2, .func (.func 160) #[] #[]), (15, Sl.v s_a0), (16, iv (a0.length : Int)), (17, iv (i5 : Int))]) (L' := L) ⟨rfl, rfl, rfl, rfl, rfl, trivial⟩ rfl ?_
 rcases k5 with _ | k5
 ·have hc5 : decide ((i5 : Int) < (a0.length : Int)) = false := decide_eq_false (by omega)
  replace H := rangeM_end H
  refine Cd.seq ?_
  refine Cd.region ?_
  refine Lst.r (Ev.lss rfl rfl) ?_
  refine Lst.nil ?_
  refine At.then ?_
  refine Cd.seq ?_
  refine Cd.condF rfl hc5 ?_
  refine Cd.exit ?_
  refine At.then_exit ?_
  refine At.then_exit ?_
  refine At.in_exit ?_
  subst H
  replace H := HKl5
  refine At.then ?_
  refine Cd.seq ?_
  refine Cd.region ?_
  refine Lst.r (Ev.assign rfl) ?_
  refine Lst.nil ?_
  refine At.then ?_
  obtain rfl := some_inj H
  refine Cd.ret ?_
  exact At.ret1 rfl (Res.tmp rfl) hF7 (.refl _) ⟨rfl, rfl⟩
 have hc5 : decide ((i5 : Int) < (a0.length : Int)) = true := decide_eq_true (by omega)
 obtain ⟨c5, H, hgo5, hbrk5, hret5⟩ := rangeM_go H
 unfold slices_EqualFunc_api_Door_api_Door_api_Door_api_Door_SameEnter_1_B0 at H
 try dsimp only at H
 refine Cd.seq ?_
 refine Cd.region ?_
 refine Lst.r (Ev.lss rfl rfl) ?_
 refine Lst.nil ?_
 refine At.then ?_
 refine Cd.seq ?_
 refine Cd.condT rfl hc5 ?_
 refine Cd.skip ?_
 refine At.then ?_
 refine Cd.seq ?_
 refine Cd.block ?_
 refine Cd.seq ?_
 refine Cd.region ?_
 refine Lst.r (Ev.move rfl) ?_
 obtain ⟨x8, h9, H⟩ := bind_some H
 have g10 := lat_some h9
 obtain ⟨⟨r11v, r11h4⟩, r11g, r11e, r11m⟩ := map_get hm_a0 g10.2.2
 obtain rfl : x8 = r11v := r11e.symm
 have r11q : DoorR.rel w0 _ _ (DoorR.mk x8 r11h4) := ha_a0 _ r11m
 have r11_f4 : Rd w0 _ _ _ _ := r11q
 refine Lst.r (Ev.indexS (α := DoorR) (xs := rs_a0) rfl rfl Try.runUnderlying111 Try.sizeOf204 rfl (by decide) (hs_a0.mono hF7 hM) g10.1 (by have := map_len hm_a0; omega)) ?_
 refine Lst.r (Ev.loadSA (α := DoorR) rfl (hs_a0.mono hF7 hM) Try.isAgg204 Try.sizeOf204 (ch := enc (DoorR.mk x8 r11h4)) (Enc.len _) (by decide) ((Get.elemN (s := 5) rfl r11g (Get.here _)).off (by omega))) ?_
 refine Lst.addNil 3 1 ?_
 refine Lst.alloc (cs := enc (DoorR.mk ({ Door.zero with Later := ([] : List Int) } : Door) Sl.nil)) rfl rfl (by decide) Try.zeroValue204 rfl (fun b13 => ?_)
 refine Lst.r (Ev.assign rfl) ?_
 refine Lst.store (i := 0) rfl rfl rfl rfl rfl Try.sizeOf204 (vs := enc (DoorR.mk x8 r11h4)) rfl (Enc.len _) (Enc.one _) (cs' := enc (DoorR.mk x8 r11h4)) (Put.here ((Enc.len _).trans (Enc.len _).symm)) (L' := (.blk b13 (enc (DoorR.mk x8 r11h4)) 204) :: (.own Sl.nil 3 1 (encs ([] : List Int))) :: L) rfl ?_
 refine Lst.nil ?_
 refine At.then ?_
 refine Cd.seq ?_
 refine Cd.region ?_
 refine Lst.r (Ev.move rfl) ?_
 refine Lst.r (Ev.move rfl) ?_
 obtain ⟨x15, h16, H⟩ := bind_some H
 have g17 := lat_some h16
 obtain ⟨⟨r18v, r18h4⟩, r18g, r18e, r18m⟩ := map_get hm_a1 g17.2.2
 obtain rfl : x15 = r18v := r18e.symm
 have r18q : DoorR.rel w0 _ _ (DoorR.mk x15 r18h4) := ha_a1 _ r18m
 have r18_f4 : Rd w0 _ _ _ _ := r18q
 refine Lst.r (Ev.indexS (α := DoorR) (xs := rs_a1) rfl rfl Try.runUnderlying111 Try.sizeOf204 rfl (by decide) (hs_a1.mono hF7 (sc2 hM)) g17.1 (by have := map_len hm_a1; omega)) ?_
 refine Lst.r (Ev.loadSA (α := DoorR) rfl (hs_a1.mono hF7 (sc2 hM)) Try.isAgg204 Try.sizeOf204 (ch := enc (DoorR.mk x15 r18h4)) (Enc.len _) (by decide) ((Get.elemN (s := 5) rfl r18g (Get.here _)).off (by omega))) ?_
 refine Lst.addNil 3 1 ?_
 refine Lst.alloc (cs := enc (DoorR.mk ({ Door.zero with Later := ([] : List Int) } : Door) Sl.nil)) rfl rfl (by decide) Try.zeroValue204 rfl (fun b20 => ?_)
 refine Lst.store (i := 0) rfl rfl rfl rfl rfl Try.sizeOf204 (vs := enc (DoorR.mk x15 r18h4)) rfl (Enc.len _) (Enc.one _) (cs' := enc (DoorR.mk x15 r18h4)) (Put.here ((Enc.len _).trans (Enc.len _).symm)) (L' := (.blk b20 (enc (DoorR.mk x15 r18h4)) 204) :: (.own Sl.nil 3 1 (encs ([] : List Int))) :: (.blk b13 (enc (DoorR.mk x8 r11h4)) 204) :: (.own Sl.nil 3 1 (encs ([] : List Int))) :: L) rfl ?_
 refine Lst.nil ?_
 refine At.then ?_
 refine Cd.seq ?_
 refine Cd.region ?_
 refine Lst.r (Ev.move rfl) ?_
 refine Lst.r (Ev.loadA (i := 2) rfl rfl Try.isAgg204 Try.sizeOf204 (ch := enc (DoorR.mk x8 r11h4)) (Enc.len _) (Get.here _)) ?_
 refine Lst.r (Ev.loadA (i := 0) rfl rfl Try.isAgg204 Try.sizeOf204 (ch := enc (DoorR.mk x15 r18h4)) (Enc.len _) (Get.here _)) ?_
 obtain ⟨r22, h23, H⟩ := bind_some H
 refine Lst.callV1 rfl rfl (by decide) (vs := [.agg (enc (DoorR.mk x8 r11h4)).toArray, .agg (enc (DoorR.mk x15 r18h4)).toArray]) (cs := []) rfl ⟨rfl, rfl, trivial⟩ Try.call160 (partref_SameEnter_1_sim h23 w0 _ M _ (sc4 hM) (r11_f4.mono hF7 (.refl _)) (r18_f4.mono hF7 (.refl _))) ?_
 refine Lst.r (Ev.not rfl) ?_
 refine Lst.nil ?_
 refine At.then ?_
 rcases Bool.eq_false_or_eq_true (!r22) with hb26 | hb26
 ·replace H := ite_t hb26 H
  refine Cd.condT rfl hb26 ?_
  refine Cd.seq ?_
  refine Cd.as (e' := []) (L' := (.blk b20 (enc (DoorR.mk x15 r18h4)) 204) :: (.own Sl.nil 3 1 (encs ([] : List Int))) :: (.blk b13 (enc (DoorR.mk x8 r11h4)) 204) :: (.own Sl.nil 3 1 (encs ([] : List Int))) :: L) trivial rfl ?_
  refine Cd.region ?_
  refine Lst.r (Ev.assign rfl) ?_
  refine Lst.nil ?_
  refine At.then ?_
  have H := hret5 _ (some_inj H).symm
  subst H
  replace H := HKl5
  obtain rfl := some_inj H
  refine Cd.ret ?_
  refine At.in_ret ?_
  refine At.then_ret ?_
  refine At.then_ret ?_
  refine At.in_ret ?_
  refine At.then_ret ?_
  exact At.ret1 rfl (Res.tmp rfl) hF7 (sc1 (sc1 (sc1 (sc1 (.refl _))))) ⟨rfl, rfl⟩
 replace H := ite_f hb26 H
 refine Cd.condF rfl hb26 ?_
 refine Cd.skip ?_
 refine At.in_normal ?_
 refine At.then ?_
 refine Cd.as (e' := [(1, Sl.v s_a1), (2, .func (.func 160) #[] #[]), (15, Sl.v s_a0), (16, iv (a0.length : Int)), (17, iv (i5 : Int))]) (L' := (.blk b20 (enc (DoorR.mk x15 r18h4)) 204) :: (.own Sl.nil 3 1 (encs ([] : List Int))) :: (.blk b13 (enc (DoorR.mk x8 r11h4)) 204) :: (.own Sl.nil 3 1 (encs ([] : List Int))) :: L) ⟨rfl, rfl, rfl, rfl, rfl, trivial⟩ rfl ?_
 refine Cd.region ?_
 refine Lst.r (Ev.incr (by omega) rfl rfl) ?_
 refine Lst.r (Ev.move rfl) ?_
 refine Lst.nil ?_
 refine At.less (L' := L) (sc1 (sc1 (sc1 (sc1 (.refl _))))) ?_
 exact At.meet (i5 + 1, k5, ()) hF7 ⟨rfl, rfl, rfl, rfl, rfl, trivial⟩ rfl ⟨⟨hgo5 _ (some_inj H).symm, by omega⟩, Nat.lt_succ_self _⟩
set_option maxRecDepth 20000 in
theorem slices_Equal_api_Word_api_Word_sim {a0 : List Word} {a1 : List Word} {s_a0 : Sl} {s_a1 : Sl} {r : Bool} (H : slices_Equal_api_Word_api_Word a0 a1 = some r) (w0 : World) (F : Frz) (M L : List Item) (hM : M.Sublist L) (hs_a0 : Rd w0 F M s_a0 a0) (hs_a1 : Rd w0 F M s_a1 a1) : Ok Try.prog w0 161 [Sl.v s_a0, Sl.v s_a1] F (L) (Is (.bool r) (L)) := by
 unfold slices_Equal_api_Word_api_Word at H
 refine Ok.enter (m := 2) (n := 26) Try.func161 rfl rfl rfl (by decide) ?_
 refine Cd.env (e' := [(0, Sl.v s_a0), (1, Sl.v s_a1)]) rfl ?_
 refine Cd.seq ?_
 refine Cd.region ?_
 refine Lst.r (Ev.assign rfl) ?_
 refine Lst.nil ?_
 refine At.then ?_
 refine Cd.seq ?_
 refine Cd.seq ?_
 refine Cd.region ?_
 refine Lst.r (Ev.move rfl) ?_
 refine Lst.r (Ev.lenS (α := Word) (xs := a0) (by decide) rfl rfl Try.runUnderlying112 (hs_a0.mono (FLe.refl _) hM)) ?_
 refine Lst.r (Ev.move rfl) ?_
 refine Lst.r (Ev.lenS (α := Word) (xs := a1) (by decide) rfl rfl Try.runUnderlying112 (hs_a1.mono (FLe.refl _) hM)) ?_
 refine Lst.r (Ev.neq rfl rfl) ?_
 refine Lst.nil ?_
 refine At.then ?_
 rcases Bool.eq_false_or_eq_true ((a0.length : Int) != (a1.length : Int)) with hb1 | hb1
 ·replace H := ite_t hb1 H
  refine Cd.condT rfl hb1 ?_
  refine Cd.seq ?_
  refine Cd.region ?_
  refine Lst.r (Ev.assign rfl) ?_
  refine Lst.nil ?_
  refine At.then ?_
  obtain rfl := some_inj H
  refine Cd.ret ?_
  refine At.then_ret ?_
  exact At.ret1 rfl (Res.tmp rfl) (FLe.refl _) (.refl _) ⟨rfl, rfl⟩
 replace H := ite_f hb1 H
 refine Cd.condF rfl hb1 ?_
 refine Cd.skip ?_
 refine At.then ?_
 refine Cd.seq ?_
 refine Cd.seq ?_
 refine Cd.region ?_
 refine Lst.r (Ev.move rfl) ?_
 refine Lst.r (Ev.lenS (α := Word) (xs := a0) (by decide) rfl rfl Try.runUnderlying112 (hs_a0.mono (FLe.refl _) hM)) ?_
 refine Lst.r (Ev.move rfl) ?_
 refine Lst.nil ?_
 refine At.then ?_
 refine Cd.block ?_
 refine Cd.bound (Rd.le (α := Word) (xs := a0) (by decide) (hs_a0.mono (FLe.refl _) hM)) (fun hN12 => ?_)
 obtain ⟨ol2, H, HKl2⟩ := andThen_some H
 refine Cd.loop (σ := Nat × Nat × Unit) (fun (i2, k2, _u) => [(0, Sl.v s_a0), (1, Sl.v s_a1), (12, iv (a0.length : Int)), (13, iv (i2 : Int))]) (fun (i2, k2, _u) => L) (fun _ => (fun (i2, k2, _u) => rangeM (slices_Equal_api_Word_api_Word_B0 a0 a1) k2 i2 () = some ol2 ∧ i2 + k2 = a0.length)) (fun (i2, k2, _u) => k2) (0, a0.length, ()) ⟨rfl, rfl, rfl, rfl, trivial⟩ rfl ⟨H, by omega⟩ ?_
 rintro F3 ⟨i2, k2, _u⟩ hF4 ⟨H, hik2⟩
 refine Cd.as (e' := [(0, Sl.v s_a0), (1, Sl.v s_a1), (12, iv (a0.length : Int)), (13, iv (i2 : Int))]) (L' := L) ⟨rfl, rfl, rfl, rfl, trivial⟩ rfl ?_
 rcases k2 with _ | k2
 ·have hc2 : decide ((i2 : Int) < (a0.length : Int)) = false := decide_eq_false (by omega)
  replace H := rangeM_end H
  refine Cd.seq ?_
  refine Cd.region ?_
  refine Lst.r (Ev.lss rfl rfl) ?_
  refine Lst.nil ?_
  refine At.then ?_
  refine Cd.seq ?_
  refine Cd.condF rfl hc2 ?_
  refine Cd.exit ?_
  refine At.then_exit ?_
  refine At.then_exit ?_
  refine At.in_exit ?_
  subst H
  replace H := HKl2
  refine At.then ?_
  refine Cd.seq ?_
  refine Cd.region ?_
  refine Lst.r (Ev.assign rfl) ?_
  refine Lst.nil ?_
  refine At.then ?_
  obtain rfl := some_inj H
  refine Cd.ret ?_
  exact At.ret1 rfl (Res.tmp rfl) hF4 (.refl _) ⟨rfl, rfl⟩
 have hc2 : decide ((i2 : Int) < (a0.length : Int)) = true := decide_eq_true (by omega)
 obtain ⟨c2, H, hgo2, hbrk2, hret2⟩ := rangeM_go H
 unfold slices_Equal_api_Word_api_Word_B0 at H
 try dsimp only at H
 refine Cd.seq ?_
 refine Cd.region ?_
 refine Lst.r (Ev.lss rfl rfl) ?_
 refine Lst.nil ?_
 refine At.then ?_
 refine Cd.seq ?_
 refine Cd.condT rfl hc2 ?_
 refine Cd.skip ?_
 refine At.then ?_
 refine Cd.seq ?_
 refine Cd.block ?_
 refine Cd.seq ?_
 refine Cd.region ?_
 refine Lst.r (Ev.move rfl) ?_
 refine Lst.r (Ev.assign rfl) ?_
 refine Lst.nil ?_
 refine At.then ?_
 refine Cd.seq ?_
 refine Cd.quiet (by kernel_rfl) (by kernel_rfl) ?_
 refine Qt.r (Ev.move rfl) ?_
 refine Qt.r (Ev.move rfl) ?_
 obtain ⟨x5, h6, H⟩ := bind_some H
 have g7 := lat_some h6
 refine Qt.r (Ev.indexS (α := Word) (xs := a0) rfl rfl Try.runUnderlying112 Try.sizeOf209 rfl (by decide) (hs_a0.mono hF4 hM) g7.1 g7.2.1) ?_
 refine Qt.r (Ev.loadSA (α := Word) rfl (hs_a0.mono hF4 hM) Try.isAgg209 Try.sizeOf209 (ch := enc x5) (Enc.len _) (by decide) ((Get.elemN (s := 3) (x := x5) rfl g7.2.2 (Get.here _)).off (by omega))) ?_
 refine Qt.r (Ev.move rfl) ?_
 refine Qt.r (Ev.move rfl) ?_
 obtain ⟨x8, h9, H⟩ := bind_some H
 have g10 := lat_some h9
 refine Qt.r (Ev.indexS (α := Word) (xs := a1) rfl rfl Try.runUnderlying112 Try.sizeOf209 rfl (by decide) (hs_a1.mono hF4 hM) g10.1 g10.2.1) ?_
 refine Qt.r (Ev.loadSA (α := Word) rfl (hs_a1.mono hF4 hM) Try.isAgg209 Try.sizeOf209 (ch := enc x8) (Enc.len _) (by decide) ((Get.elemN (s := 3) (x := x8) rfl g10.2.2 (Get.here _)).off (by omega))) ?_
 refine Qt.r (Ev.neqA rfl rfl (by kernel_rfl) (eq209 _ _)) ?_
 refine Qt.done ?_
 refine At.then ?_
 rcases Bool.eq_false_or_eq_true (!(decide (x5 = x8))) with hb11 | hb11
 ·replace H := ite_t hb11 H
  refine Cd.condT rfl hb11 ?_
  refine Cd.seq ?_
  refine Cd.as (e' := []) (L' := L) trivial rfl ?_
  refine Cd.region ?_
  refine Lst.r (Ev.assign rfl) ?_
  refine Lst.nil ?_
  refine At.then ?_
  have H := hret2 _ (some_inj H).symm
  subst H
  replace H := HKl2
  obtain rfl := some_inj H
  refine Cd.ret ?_
  refine At.in_ret ?_
  refine At.then_ret ?_
  refine At.then_ret ?_
  refine At.in_ret ?_
  refine At.then_ret ?_
  exact At.ret1 rfl (Res.tmp rfl) hF4 (.refl _) ⟨rfl, rfl⟩
 replace H := ite_f hb11 H
 refine Cd.condF rfl hb11 ?_
 refine Cd.skip ?_
 refine At.in_normal ?_
 refine At.then ?_
 refine Cd.region ?_
 refine Lst.r (Ev.incr (by omega) rfl rfl) ?_
 refine Lst.r (Ev.move rfl) ?_
 refine Lst.nil ?_
 exact At.meet (i2 + 1, k2, ()) hF4 ⟨rfl, rfl, rfl, rfl, trivial⟩ rfl ⟨⟨hgo2 _ (some_inj H).symm, by omega⟩, Nat.lt_succ_self _⟩
set_option maxRecDepth 20000 in
theorem partref_SameEnter_sim {a0 : Enter} {a1 : Enter} {s_a0_0 : Sl} {rs_a0_0 : List DoorR} {s_a0_1 : Sl} {s_a1_0 : Sl} {rs_a1_0 : List DoorR} {s_a1_1 : Sl} {r : Bool} (H : partref_SameEnter a0 a1 = some r) (w0 : World) (F : Frz) (M L : List Item) (hM : M.Sublist L) (hm_a0_0 : rs_a0_0.map DoorR.v = a0.Doors) (hs_a0_0 : Rd w0 F M s_a0_0 rs_a0_0) (ha_a0_0 : All DoorR.rel w0 F M rs_a0_0) (hs_a0_1 : Rd w0 F M s_a0_1 a0.Way) (hm_a1_0 : rs_a1_0.map DoorR.v = a1.Doors) (hs_a1_0 : Rd w0 F M s_a1_0 rs_a1_0) (ha_a1_0 : All DoorR.rel w0 F M rs_a1_0) (hs_a1_1 : Rd w0 F M s_a1_1 a1.Way) : Ok Try.prog w0 68 [.agg (enc (EnterR.mk a0 s_a0_0 s_a0_1)).toArray, .agg (enc (EnterR.mk a1 s_a1_0 s_a1_1)).toArray] F (L) (Is (.bool r) (L)) := by
 unfold partref_SameEnter at H
 refine Ok.enter (m := 2) (n := 17) Try.func68 rfl rfl rfl (by decide) ?_
 refine Cd.env (e' := [(0, .agg (enc (EnterR.mk a0 s_a0_0 s_a0_1)).toArray), (1, .agg (enc (EnterR.mk a1 s_a1_0 s_a1_1)).toArray)]) rfl ?_
 refine Cd.seq ?_
 refine Cd.region ?_
 refine Lst.box rfl rfl (by decide) rfl (cs := enc (EnterR.mk a0 s_a0_0 s_a0_1)) rfl (fun b1 => ?_)
 refine Lst.box rfl rfl (by decide) rfl (cs := enc (EnterR.mk a1 s_a1_0 s_a1_1)) rfl (fun b3 => ?_)
 refine Lst.r (Ev.assign rfl) ?_
 refine Lst.nil ?_
 refine At.then ?_
 refine Cd.seq ?_
 refine Cd.region ?_
 refine Lst.r (Ev.fieldAddr (off' := 0) rfl Try.runUnderlying114 rfl Try.sizeOf111 rfl rfl) ?_
 refine Lst.r (Ev.load (i := 1) rfl rfl Try.isAgg111 (v := Sl.v s_a0_0) ((EnterR.get_Doors (Get.here _)).off (by rfl))) ?_
 refine Lst.r (Ev.fieldAddr (off' := 0) rfl Try.runUnderlying114 rfl Try.sizeOf111 rfl rfl) ?_
 refine Lst.r (Ev.load (i := 0) rfl rfl Try.isAgg111 (v := Sl.v s_a1_0) ((EnterR.get_Doors (Get.here _)).off (by rfl))) ?_
 obtain ⟨r5, h6, H⟩ := bind_some H
 refine Lst.call1 rfl rfl (by decide) (vs := [Sl.v s_a0_0, Sl.v s_a1_0, .func (.func 160) #[] #[]]) ⟨rfl, rfl, rfl, trivial⟩ Try.call159 (slices_EqualFunc_api_Door_api_Door_api_Door_api_Door_SameEnter_1_sim h6 w0 _ M _ (sc2 hM) hm_a0_0 (hs_a0_0.mono (FLe.refl _) (.refl _)) (All.monoDoor ha_a0_0 (FLe.refl _) (.refl _)) hm_a1_0 (hs_a1_0.mono (FLe.refl _) (.refl _)) (All.monoDoor ha_a1_0 (FLe.refl _) (.refl _))) ?_
 refine Lst.r (Ev.move rfl) ?_
 obtain ⟨o9, H, HKo9⟩ := bind_some H
 refine Lst.join (σ := Bool) 6 (fun y10 => [(16, .bool y10)]) (fun y10 => (.blk b3 (enc (EnterR.mk a1 s_a1_0 s_a1_1)) 114) :: (.blk b1 (enc (EnterR.mk a0 s_a0_0 s_a0_1)) 114) :: L) (fun _ y10 => y10 = o9) ?_ ?_
 ·rcases (Bool.eq_false_or_eq_true r5).symm with hb11 | hb11
  ·replace H := ite_f hb11 H
   refine Lst.skip rfl rfl rfl hb11 rfl (by decide) ?_
   refine Lst.skip rfl rfl rfl hb11 rfl (by decide) ?_
   refine Lst.skip rfl rfl rfl hb11 rfl (by decide) ?_
   refine Lst.skip rfl rfl rfl hb11 rfl (by decide) ?_
   refine Lst.skip rfl rfl rfl hb11 rfl (by decide) ?_
   refine Lst.r (Ev.pickF rfl hb11 rfl) ?_
   refine Lst.nil ?_
   exact At.meet false (FLe.refl _) ⟨rfl, trivial⟩ rfl (some_inj H)
  replace H := ite_t hb11 H
  refine Lst.rG hb11 (Ev.fieldAddr (off' := 1) rfl Try.runUnderlying114 rfl Try.sizeOf112 rfl rfl) ?_
  refine Lst.rG hb11 (Ev.load (i := 1) rfl rfl Try.isAgg112 (v := Sl.v s_a0_1) ((EnterR.get_Way (Get.here _)).off (by rfl))) ?_
  refine Lst.rG hb11 (Ev.fieldAddr (off' := 1) rfl Try.runUnderlying114 rfl Try.sizeOf112 rfl rfl) ?_
  refine Lst.rG hb11 (Ev.load (i := 0) rfl rfl Try.isAgg112 (v := Sl.v s_a1_1) ((EnterR.get_Way (Get.here _)).off (by rfl))) ?_
  obtain ⟨r12, h13, H⟩ := bind_some H
  refine Lst.call1G rfl rfl rfl hb11 rfl (by decide) (vs := [Sl.v s_a0_1, Sl.v s_a1_1]) ⟨rfl, rfl, trivial⟩ Try.call161 (slices_Equal_api_Word_api_Word_sim h13 w0 _ M _ (sc2 hM) (hs_a0_1.mono (FLe.refl _) (.refl _)) (hs_a1_1.mono (FLe.refl _) (.refl _))) ?_
  refine Lst.r (Ev.pickT rfl hb11 rfl) ?_
  refine Lst.nil ?_
  exact At.meet r12 (FLe.refl _) ⟨rfl, trivial⟩ rfl (some_inj H)
 rintro F16 y10 hF17 hy
 subst hy
 refine Lst.as (e' := [(16, .bool y10)]) (L' := (.blk b3 (enc (EnterR.mk a1 s_a1_0 s_a1_1)) 114) :: (.blk b1 (enc (EnterR.mk a0 s_a0_0 s_a0_1)) 114) :: L) ⟨rfl, trivial⟩ rfl ?_
 replace H := HKo9
 refine Lst.r (Ev.assign rfl) ?_
 refine Lst.nil ?_
 refine At.then ?_
 obtain rfl := some_inj H
 refine Cd.ret ?_
 exact At.ret1 rfl (Res.tmp rfl) hF17 (sc1 (sc1 (.refl _))) ⟨rfl, rfl⟩
set_option maxRecDepth 20000 in
theorem partref_enterCopy_sim {a0 : Enter} {s_a0_0 : Sl} {rs_a0_0 : List DoorR} {s_a0_1 : Sl} {r : Enter} (H : partref_enterCopy a0 = some r) (w0 : World) (F : Frz) (M L : List Item) (hM : M.Sublist L) (hm_a0_0 : rs_a0_0.map DoorR.v = a0.Doors) (hs_a0_0 : Rd w0 F M s_a0_0 rs_a0_0) (ha_a0_0 : All DoorR.rel w0 F M rs_a0_0) (hs_a0_1 : Rd w0 F M s_a0_1 a0.Way) : Ok Try.prog w0 163 [.agg (enc (EnterR.mk a0 s_a0_0 s_a0_1)).toArray] F (L) (fun Fx L' v => ∃ (s1 : Sl) (rs2 : List DoorR) (s6 : Sl), v = .agg (enc (EnterR.mk r s1 s6)).toArray ∧ L' = (.rows (α := Int) 3 (List.map DoorR.row rs2)) :: (.own s1 204 5 (encs rs2)) :: (.own s6 209 3 (encs r.Way)) :: L ∧ rs2.map DoorR.v = r.Doors) := by
 unfold partref_enterCopy at H
 refine Ok.enter (m := 1) (n := 29) Try.func163 rfl rfl rfl (by decide) ?_
 refine Cd.env (e' := [(0, .agg (enc (EnterR.mk a0 s_a0_0 s_a0_1)).toArray)]) rfl ?_
 refine Cd.seq ?_
 refine Cd.region ?_
 refine Lst.box rfl rfl (by decide) rfl (cs := enc (EnterR.mk a0 s_a0_0 s_a0_1)) rfl (fun b1 => ?_)
 have ha4 : All DoorR.rel w0 F [] ([] : List DoorR) := All.nil
 have ha4m : List.map DoorR.v ([] : List DoorR) = ([] : List Door) := rfl
 refine Lst.addNil 204 5 ?_
 refine Lst.addNil 209 3 ?_
 refine Lst.alloc (cs := enc (EnterR.mk ({ Enter.zero with Doors := ([] : List Door), Way := ([] : List Word) } : Enter) Sl.nil Sl.nil)) rfl rfl (by decide) Try.zeroValue114 rfl (fun b6 => ?_)
 refine Lst.nil ?_
 refine At.then ?_
 refine Cd.seq ?_
 refine Cd.region ?_
 refine Lst.r (Ev.fieldAddr (off' := 1) rfl Try.runUnderlying114 rfl Try.sizeOf112 rfl rfl) ?_
 refine Lst.r (Ev.load (i := 3) rfl rfl Try.isAgg112 (v := Sl.v s_a0_1) ((EnterR.get_Way (Get.here _)).off (by rfl))) ?_
 obtain ⟨r8, h9, H⟩ := bind_some H
 refine Lst.call rfl rfl (by decide) (vs := [Sl.v s_a0_1]) ⟨rfl, trivial⟩ Try.call173 (slices_Clone_api_Word_api_Word_sim h9 w0 _ M _ (sc4 hM) (hs_a0_1.mono (FLe.refl _) (.refl _))) (fun F12 L' v hF13 hv => ?_)
 obtain ⟨s10, rfl, rfl⟩ := hv
 refine Lst.r (Ev.build (v := .agg (enc (EnterR.mk ({ Enter.zero with Way := r8 } : Enter) Sl.nil s10)).toArray) (pv := [(1, Sl.v s10)]) ⟨rfl, rfl, trivial⟩ (run_buildStruct (places := #[(0, 1), (1, 1)]) Try.zeroValue114 (zs := enc (EnterR.mk Enter.zero Sl.nil Sl.nil)) rfl Try.runUnderlying114 (fun w => by kernel_rfl) (fill_cons (cs := enc (EnterR.mk Enter.zero Sl.nil Sl.nil)) (cs' := enc (EnterR.mk ({ Enter.zero with Way := r8 } : Enter) Sl.nil s10)) (vs := [Sl.v s10]) rfl rfl rfl ((EnterR.put_Way (p := (EnterR.mk Enter.zero Sl.nil Sl.nil)) (y := s10) (Put.here (vs := [Sl.v s10]) rfl)).off rfl) fill_nil))) ?_
 have ha15 : All DoorR.rel w0 F12 [] ([] : List DoorR) := All.nil
 have ha15m : List.map DoorR.v ([] : List DoorR) = ([] : List Door) := rfl
 refine Lst.addNil 204 5 ?_
 refine Lst.addNil 209 3 ?_
 refine Lst.alloc (cs := enc (EnterR.mk ({ Enter.zero with Doors := ([] : List Door), Way := ([] : List Word) } : Enter) Sl.nil Sl.nil)) rfl rfl (by decide) Try.zeroValue114 rfl (fun b17 => ?_)
 refine Lst.store (i := 0) rfl rfl rfl rfl rfl Try.sizeOf114 (vs := enc (EnterR.mk ({ Enter.zero with Way := r8 } : Enter) Sl.nil s10)) rfl (Enc.len _) (Enc.one _) (cs' := enc (EnterR.mk ({ Enter.zero with Way := r8 } : Enter) Sl.nil s10)) (Put.here ((Enc.len _).trans (Enc.len _).symm)) (L' := (.blk b17 (enc (EnterR.mk ({ Enter.zero with Way := r8 } : Enter) Sl.nil s10)) 114) :: (.own Sl.nil 209 3 (encs ([] : List Word))) :: (.own Sl.nil 204 5 (encs ([] : List DoorR))) :: (.own s10 209 3 (encs r8)) :: (.blk b6 (enc (EnterR.mk ({ Enter.zero with Doors := ([] : List Door), Way := ([] : List Word) } : Enter) Sl.nil Sl.nil)) 114) :: (.own Sl.nil 209 3 (encs ([] : List Word))) :: (.own Sl.nil 204 5 (encs ([] : List DoorR))) :: (.blk b1 (enc (EnterR.mk a0 s_a0_0 s_a0_1)) 114) :: L) rfl ?_
 refine Lst.nil ?_
 refine At.then ?_
 refine Cd.seq ?_
 refine Cd.seq ?_
 refine Cd.region ?_
 refine Lst.r (Ev.fieldAddr (off' := 0) rfl Try.runUnderlying114 rfl Try.sizeOf111 rfl rfl) ?_
 refine Lst.r (Ev.load (i := 7) rfl rfl Try.isAgg111 (v := Sl.v s_a0_0) ((EnterR.get_Doors (Get.here _)).off (by rfl))) ?_
 refine Lst.r (Ev.lenM (map_len hm_a0_0) (Ev.lenS (α := DoorR) (xs := rs_a0_0) (by decide) rfl rfl Try.runUnderlying111 (hs_a0_0.mono hF13 (sc8 hM)))) ?_
 refine Lst.r (Ev.move rfl) ?_
 refine Lst.nil ?_
 refine At.then ?_
 refine Cd.block ?_
 have ha23m : List.map DoorR.v ([] : List DoorR) = ([] : List Door) := rfl
 refine Cd.addNil 204 5 ?_
 refine Cd.rowsNil Int 3 0 ?_
 refine Cd.its (L' := (.rows (α := Int) 3 (List.map DoorR.row ([] : List DoorR))) :: (.own Sl.nil 204 5 (encs ([] : List DoorR))) :: (.blk b17 (enc (EnterR.mk ({ Enter.zero with Way := r8 } : Enter) Sl.nil s10)) 114) :: (.own Sl.nil 209 3 (encs ([] : List Word))) :: (.own Sl.nil 204 5 (encs ([] : List DoorR))) :: (.own s10 209 3 (encs r8)) :: (.blk b6 (enc (EnterR.mk ({ Enter.zero with Doors := ([] : List Door), Way := ([] : List Word) } : Enter) Sl.nil Sl.nil)) 114) :: (.own Sl.nil 209 3 (encs ([] : List Word))) :: (.own Sl.nil 204 5 (encs ([] : List DoorR))) :: (.blk b1 (enc (EnterR.mk a0 s_a0_0 s_a0_1)) 114) :: L) rfl ?_
 refine Cd.bound (Rd.le (α := DoorR) (xs := rs_a0_0) (by decide) (hs_a0_0.mono hF13 (sc8 (sc2 hM)))) (fun hN54 => ?_)
 rw [map_len hm_a0_0] at hN54
 obtain ⟨ol20, H, HKl20⟩ := bind_some H
 refine Cd.loop (σ := Nat × Nat × Enter × Sl × (List DoorR)) (fun (i20, k20, y24, s25, rs26) => [(2, pv b6 0), (3, pv b17 0), (11, Sl.v s_a0_0), (12, iv (a0.Doors.length : Int)), (13, iv (i20 : Int))]) (fun (i20, k20, y24, s25, rs26) => (.rows (α := Int) 3 (List.map DoorR.row rs26)) :: (.own s25 204 5 (encs rs26)) :: (.blk b17 (enc (EnterR.mk ({ y24 with Way := r8 } : Enter) s25 s10)) 114) :: (.own Sl.nil 209 3 (encs ([] : List Word))) :: (.own Sl.nil 204 5 (encs ([] : List DoorR))) :: (.own s10 209 3 (encs r8)) :: (.blk b6 (enc (EnterR.mk ({ Enter.zero with Doors := ([] : List Door), Way := ([] : List Word) } : Enter) Sl.nil Sl.nil)) 114) :: (.own Sl.nil 209 3 (encs ([] : List Word))) :: (.own Sl.nil 204 5 (encs ([] : List DoorR))) :: (.blk b1 (enc (EnterR.mk a0 s_a0_0 s_a0_1)) 114) :: L) (fun Fx => (fun (i20, k20, y24, s25, rs26) => rangeF (partref_enterCopy_B0 a0 r8) k20 i20 y24 = some ol20 ∧ i20 + k20 = a0.Doors.length ∧ rs26.map DoorR.v = y24.Doors)) (fun (i20, k20, y24, s25, rs26) => k20) (0, a0.Doors.length, ({ Enter.zero with Doors := ([] : List Door), Way := r8 } : Enter), Sl.nil, ([] : List DoorR)) ⟨rfl, rfl, rfl, rfl, rfl, trivial⟩ rfl ⟨H, by omega, ha23m⟩ ?_
 rintro F30 ⟨i20, k20, y24, s25, rs26⟩ hF31 ⟨H, hik20, fm27⟩
 refine Cd.as (e' := [(2, pv b6 0), (3, pv b17 0), (11, Sl.v s_a0_0), (12, iv (a0.Doors.length : Int)), (13, iv (i20 : Int))]) (L' := (.rows (α := Int) 3 (List.map DoorR.row rs26)) :: (.own s25 204 5 (encs rs26)) :: (.blk b17 (enc (EnterR.mk ({ y24 with Way := r8 } : Enter) s25 s10)) 114) :: (.own Sl.nil 209 3 (encs ([] : List Word))) :: (.own Sl.nil 204 5 (encs ([] : List DoorR))) :: (.own s10 209 3 (encs r8)) :: (.blk b6 (enc (EnterR.mk ({ Enter.zero with Doors := ([] : List Door), Way := ([] : List Word) } : Enter) Sl.nil Sl.nil)) 114) :: (.own Sl.nil 209 3 (encs ([] : List Word))) :: (.own Sl.nil 204 5 (encs ([] : List DoorR))) :: (.blk b1 (enc (EnterR.mk a0 s_a0_0 s_a0_1)) 114) :: L) ⟨rfl, rfl, rfl, rfl, rfl, trivial⟩ rfl ?_
 rcases k20 with _ | k20
 ·have hc20 : decide ((i20 : Int) < (a0.Doors.length : Int)) = false := decide_eq_false (by omega)
  replace H := rangeF_end H
  refine Cd.seq ?_
  refine Cd.region ?_
  refine Lst.r (Ev.lss rfl rfl) ?_
  refine Lst.nil ?_
  refine At.then ?_
  refine Cd.seq ?_
  refine Cd.condF rfl hc20 ?_
  refine Cd.exit ?_
  refine At.then_exit ?_
  refine At.then_exit ?_
  refine At.in_exit ?_
  subst H
  replace H := HKl20
  refine At.then ?_
  refine Cd.seq ?_
  refine Cd.region ?_
  refine Lst.r (Ev.loadA (i := 2) rfl rfl Try.isAgg114 Try.sizeOf114 (ch := enc (EnterR.mk ({ y24 with Way := r8 } : Enter) s25 s10)) (Enc.len _) (Get.here _)) ?_
  refine Lst.store (i := 6) rfl rfl rfl rfl rfl Try.sizeOf114 (vs := enc (EnterR.mk ({ y24 with Way := r8 } : Enter) s25 s10)) rfl (Enc.len _) (Enc.one _) (cs' := enc (EnterR.mk ({ y24 with Way := r8 } : Enter) s25 s10)) (Put.here ((Enc.len _).trans (Enc.len _).symm)) (L' := (.rows (α := Int) 3 (List.map DoorR.row rs26)) :: (.own s25 204 5 (encs rs26)) :: (.blk b17 (enc (EnterR.mk ({ y24 with Way := r8 } : Enter) s25 s10)) 114) :: (.own Sl.nil 209 3 (encs ([] : List Word))) :: (.own Sl.nil 204 5 (encs ([] : List DoorR))) :: (.own s10 209 3 (encs r8)) :: (.blk b6 (enc (EnterR.mk ({ y24 with Way := r8 } : Enter) s25 s10)) 114) :: (.own Sl.nil 209 3 (encs ([] : List Word))) :: (.own Sl.nil 204 5 (encs ([] : List DoorR))) :: (.blk b1 (enc (EnterR.mk a0 s_a0_0 s_a0_1)) 114) :: L) rfl ?_
  refine Lst.nil ?_
  refine At.then ?_
  obtain rfl := some_inj H
  refine Cd.ret ?_
  exact At.ret1 rfl (Res.cellA (i := 6) rfl rfl Try.isAgg114 Try.sizeOf114 (Enc.len _)) (FLe.trans hF13 hF31) (sk1 (sk1 (sc1 (sc1 (sc1 (sk1 (sc1 (sc1 (sc1 (sc1 (.refl _))))))))))) ⟨s25, rs26, s10, rfl, rfl, fm27⟩
 have hc20 : decide ((i20 : Int) < (a0.Doors.length : Int)) = true := decide_eq_true (by omega)
 obtain ⟨c20, H, hgo20⟩ := rangeF_go H
 unfold partref_enterCopy_B0 at H
 try dsimp only at H
 refine Cd.seq ?_
 refine Cd.region ?_
 refine Lst.r (Ev.lss rfl rfl) ?_
 refine Lst.nil ?_
 refine At.then ?_
 refine Cd.seq ?_
 refine Cd.condT rfl hc20 ?_
 refine Cd.skip ?_
 refine At.then ?_
 refine Cd.seq ?_
 refine Cd.block ?_
 refine Cd.seq ?_
 refine Cd.region ?_
 obtain ⟨x32, h33, H⟩ := bind_some H
 have g34 := lat_some h33
 obtain ⟨⟨r35v, r35h4⟩, r35g, r35e, r35m⟩ := map_get hm_a0_0 g34.2.2
 obtain rfl : x32 = r35v := r35e.symm
 have r35q : DoorR.rel w0 _ _ (DoorR.mk x32 r35h4) := ha_a0_0 _ r35m
 have r35_f4 : Rd w0 _ _ _ _ := r35q
 refine Lst.r (Ev.indexS (α := DoorR) (xs := rs_a0_0) rfl rfl Try.runUnderlying111 Try.sizeOf204 rfl (by decide) (hs_a0_0.mono (FLe.trans hF13 hF31) (sc8 (sc2 hM))) g34.1 (by have := map_len hm_a0_0; omega)) ?_
 refine Lst.r (Ev.loadSA (α := DoorR) rfl (hs_a0_0.mono (FLe.trans hF13 hF31) (sc8 (sc2 hM))) Try.isAgg204 Try.sizeOf204 (ch := enc (DoorR.mk x32 r35h4)) (Enc.len _) (by decide) ((Get.elemN (s := 5) rfl r35g (Get.here _)).off (by omega))) ?_
 refine Lst.addNil 3 1 ?_
 refine Lst.alloc (cs := enc (DoorR.mk ({ Door.zero with Later := ([] : List Int) } : Door) Sl.nil)) rfl rfl (by decide) Try.zeroValue204 rfl (fun b37 => ?_)
 refine Lst.store (i := 0) rfl rfl rfl rfl rfl Try.sizeOf204 (vs := enc (DoorR.mk x32 r35h4)) rfl (Enc.len _) (Enc.one _) (cs' := enc (DoorR.mk x32 r35h4)) (Put.here ((Enc.len _).trans (Enc.len _).symm)) (L' := (.blk b37 (enc (DoorR.mk x32 r35h4)) 204) :: (.own Sl.nil 3 1 (encs ([] : List Int))) :: (.rows (α := Int) 3 (List.map DoorR.row rs26)) :: (.own s25 204 5 (encs rs26)) :: (.blk b17 (enc (EnterR.mk ({ y24 with Way := r8 } : Enter) s25 s10)) 114) :: (.own Sl.nil 209 3 (encs ([] : List Word))) :: (.own Sl.nil 204 5 (encs ([] : List DoorR))) :: (.own s10 209 3 (encs r8)) :: (.blk b6 (enc (EnterR.mk ({ Enter.zero with Doors := ([] : List Door), Way := ([] : List Word) } : Enter) Sl.nil Sl.nil)) 114) :: (.own Sl.nil 209 3 (encs ([] : List Word))) :: (.own Sl.nil 204 5 (encs ([] : List DoorR))) :: (.blk b1 (enc (EnterR.mk a0 s_a0_0 s_a0_1)) 114) :: L) rfl ?_
 refine Lst.nil ?_
 refine At.then ?_
 refine Cd.seq ?_
 refine Cd.region ?_
 refine Lst.r (Ev.fieldAddr (off' := 4) rfl Try.runUnderlying204 rfl Try.sizeOf36 rfl rfl) ?_
 refine Lst.r (Ev.load (i := 0) rfl rfl Try.isAgg36 (v := Sl.v r35h4) ((DoorR.get_Later (Get.here _)).off (by rfl))) ?_
 obtain ⟨r39, h40, H⟩ := bind_some H
 refine Lst.call rfl rfl (by decide) (vs := [Sl.v r35h4]) ⟨rfl, trivial⟩ Try.call129 (slices_Clone_int_int_sim h40 w0 _ M _ (sc8 (sc4 hM)) (r35_f4.mono (FLe.trans hF13 hF31) (.refl _))) (fun F43 L' v hF44 hv => ?_)
 obtain ⟨s41, rfl, rfl⟩ := hv
 refine Lst.r (Ev.fieldAddr (off' := 4) rfl Try.runUnderlying204 rfl Try.sizeOf36 rfl rfl) ?_
 refine Lst.store (i := 1) rfl rfl rfl rfl rfl Try.sizeOf36 (vs := [Sl.v s41]) rfl rfl rfl (cs' := enc (DoorR.mk ({ x32 with Later := r39 } : Door) s41)) ((DoorR.put_Later (Put.here (vs := [Sl.v s41]) rfl)).off (by rfl)) (L' := (.own s41 3 1 (encs r39)) :: (.blk b37 (enc (DoorR.mk ({ x32 with Later := r39 } : Door) s41)) 204) :: (.own Sl.nil 3 1 (encs ([] : List Int))) :: (.rows (α := Int) 3 (List.map DoorR.row rs26)) :: (.own s25 204 5 (encs rs26)) :: (.blk b17 (enc (EnterR.mk ({ y24 with Way := r8 } : Enter) s25 s10)) 114) :: (.own Sl.nil 209 3 (encs ([] : List Word))) :: (.own Sl.nil 204 5 (encs ([] : List DoorR))) :: (.own s10 209 3 (encs r8)) :: (.blk b6 (enc (EnterR.mk ({ Enter.zero with Doors := ([] : List Door), Way := ([] : List Word) } : Enter) Sl.nil Sl.nil)) 114) :: (.own Sl.nil 209 3 (encs ([] : List Word))) :: (.own Sl.nil 204 5 (encs ([] : List DoorR))) :: (.blk b1 (enc (EnterR.mk a0 s_a0_0 s_a0_1)) 114) :: L) rfl ?_
 refine Lst.nil ?_
 refine At.then ?_
 refine Cd.region ?_
 refine Lst.r (Ev.fieldAddr (off' := 0) rfl Try.runUnderlying114 rfl Try.sizeOf111 rfl rfl) ?_
 refine Lst.r (Ev.load (i := 5) rfl rfl Try.isAgg111 (v := Sl.v s25) ((EnterR.get_Doors (Get.here _)).off (by rfl))) ?_
 refine Lst.r (Ev.loadA (i := 1) rfl rfl Try.isAgg204 Try.sizeOf204 (ch := enc (DoorR.mk ({ x32 with Later := r39 } : Door) s41)) (Enc.len _) (Get.here _)) ?_
 have hm47 : ([(DoorR.mk ({ x32 with Later := r39 } : Door) s41)] : List DoorR).map DoorR.v = ([({ x32 with Later := r39 } : Door)] : List Door) := rfl
 refine Lst.buildSlice (α := DoorR) (xs := ([(DoorR.mk ({ x32 with Later := r39 } : Door) s41)] : List DoorR)) (pv := [(0, .agg (enc (DoorR.mk ({ x32 with Later := r39 } : Door) s41)).toArray)]) rfl rfl (by decide) ⟨rfl, rfl, trivial⟩ (run_buildSlice (α := DoorR) (z0 := ((DoorR.mk Door.zero Sl.nil) : DoorR)) (xs := ([(DoorR.mk ({ x32 with Later := r39 } : Door) s41)] : List DoorR)) Try.runUnderlying111 Try.sizeOf204 Try.zeroValue204 rfl rfl rfl (by decide) rfl (fill_cons (cs := encs (List.replicate 1 ((DoorR.mk Door.zero Sl.nil) : DoorR))) (cs' := encs ((List.replicate 1 ((DoorR.mk Door.zero Sl.nil) : DoorR)).set 0 (DoorR.mk ({ x32 with Later := r39 } : Door) s41))) (vs := enc (DoorR.mk ({ x32 with Later := r39 } : Door) s41)) rfl rfl (Enc.len _) ((Put.elemN (s := 5) (i := 0) (x := ((DoorR.mk Door.zero Sl.nil) : DoorR)) (y := (DoorR.mk ({ x32 with Later := r39 } : Door) s41)) rfl rfl (Put.here ((Enc.len _).trans (Enc.len _).symm))).off rfl) fill_nil)) rfl rfl (by decide) (fun s45 _ => ?_)
 refine Lst.rowsNil Int 3 0 ?_
 refine Lst.front (i := 2) rfl (L' := (.own s41 3 1 (encs r39)) :: (.rows (α := Int) 3 (List.replicate 0 (⟨[], Sl.nil⟩ : LR Int))) :: (.own s45 204 5 (encs ([(DoorR.mk ({ x32 with Later := r39 } : Door) s41)] : List DoorR))) :: (.blk b37 (enc (DoorR.mk ({ x32 with Later := r39 } : Door) s41)) 204) :: (.own Sl.nil 3 1 (encs ([] : List Int))) :: (.rows (α := Int) 3 (List.map DoorR.row rs26)) :: (.own s25 204 5 (encs rs26)) :: (.blk b17 (enc (EnterR.mk ({ y24 with Way := r8 } : Enter) s25 s10)) 114) :: (.own Sl.nil 209 3 (encs ([] : List Word))) :: (.own Sl.nil 204 5 (encs ([] : List DoorR))) :: (.own s10 209 3 (encs r8)) :: (.blk b6 (enc (EnterR.mk ({ Enter.zero with Doors := ([] : List Door), Way := ([] : List Word) } : Enter) Sl.nil Sl.nil)) 114) :: (.own Sl.nil 209 3 (encs ([] : List Word))) :: (.own Sl.nil 204 5 (encs ([] : List DoorR))) :: (.blk b1 (enc (EnterR.mk a0 s_a0_0 s_a0_1)) 114) :: L) rfl ?_
 refine Lst.rowEnd (α := Int) (xs := r39) (s := s41) rfl ?_
 refine Lst.its (L' := (.rows (α := Int) 3 (List.map DoorR.row ([(DoorR.mk ({ x32 with Later := r39 } : Door) s41)] : List DoorR))) :: (.own s45 204 5 (encs ([(DoorR.mk ({ x32 with Later := r39 } : Door) s41)] : List DoorR))) :: (.blk b37 (enc (DoorR.mk ({ x32 with Later := r39 } : Door) s41)) 204) :: (.own Sl.nil 3 1 (encs ([] : List Int))) :: (.rows (α := Int) 3 (List.map DoorR.row rs26)) :: (.own s25 204 5 (encs rs26)) :: (.blk b17 (enc (EnterR.mk ({ y24 with Way := r8 } : Enter) s25 s10)) 114) :: (.own Sl.nil 209 3 (encs ([] : List Word))) :: (.own Sl.nil 204 5 (encs ([] : List DoorR))) :: (.own s10 209 3 (encs r8)) :: (.blk b6 (enc (EnterR.mk ({ Enter.zero with Doors := ([] : List Door), Way := ([] : List Word) } : Enter) Sl.nil Sl.nil)) 114) :: (.own Sl.nil 209 3 (encs ([] : List Word))) :: (.own Sl.nil 204 5 (encs ([] : List DoorR))) :: (.blk b1 (enc (EnterR.mk a0 s_a0_0 s_a0_1)) 114) :: L) rfl ?_
 obtain ⟨u49, h50, H⟩ := bind_some H
 have hm52 : (rs26 ++ ([(DoorR.mk ({ x32 with Later := r39 } : Door) s41)] : List DoorR)).map DoorR.v = y24.Doors ++ ([({ x32 with Later := r39 } : Door)] : List Door) := map_app fm27 hm47
 refine Lst.append (i := 5) (α := DoorR) (xs := rs26) (ys := ([(DoorR.mk ({ x32 with Later := r39 } : Door) s41)] : List DoorR)) rfl rfl (by decide) rfl rfl Try.runUnderlying111 Try.typeInfo204 rfl rfl rfl rfl rfl rfl (Rd.own (i := 1) rfl rfl rfl) rfl (by have := room_some h50; have := map_len fm27; have := map_len hm47; omega) rfl (fun s51 => ?_)
 refine Lst.its (L' := (.rows (α := Int) 3 (List.map DoorR.row ([(DoorR.mk ({ x32 with Later := r39 } : Door) s41)] : List DoorR))) :: (.own s45 204 5 (encs ([(DoorR.mk ({ x32 with Later := r39 } : Door) s41)] : List DoorR))) :: (.blk b37 (enc (DoorR.mk ({ x32 with Later := r39 } : Door) s41)) 204) :: (.own Sl.nil 3 1 (encs ([] : List Int))) :: (.rows (α := Int) 3 (List.map DoorR.row rs26)) :: (.own s51 204 5 (encs (rs26 ++ ([(DoorR.mk ({ x32 with Later := r39 } : Door) s41)] : List DoorR)))) :: (.blk b17 (enc (EnterR.mk ({ y24 with Way := r8 } : Enter) s25 s10)) 114) :: (.own Sl.nil 209 3 (encs ([] : List Word))) :: (.own Sl.nil 204 5 (encs ([] : List DoorR))) :: (.own s10 209 3 (encs r8)) :: (.blk b6 (enc (EnterR.mk ({ Enter.zero with Doors := ([] : List Door), Way := ([] : List Word) } : Enter) Sl.nil Sl.nil)) 114) :: (.own Sl.nil 209 3 (encs ([] : List Word))) :: (.own Sl.nil 204 5 (encs ([] : List DoorR))) :: (.blk b1 (enc (EnterR.mk a0 s_a0_0 s_a0_1)) 114) :: L) rfl ?_
 refine Lst.front (i := 4) rfl (L' := (.rows (α := Int) 3 (List.map DoorR.row rs26)) :: (.rows (α := Int) 3 (List.map DoorR.row ([(DoorR.mk ({ x32 with Later := r39 } : Door) s41)] : List DoorR))) :: (.own s45 204 5 (encs ([(DoorR.mk ({ x32 with Later := r39 } : Door) s41)] : List DoorR))) :: (.blk b37 (enc (DoorR.mk ({ x32 with Later := r39 } : Door) s41)) 204) :: (.own Sl.nil 3 1 (encs ([] : List Int))) :: (.own s51 204 5 (encs (rs26 ++ ([(DoorR.mk ({ x32 with Later := r39 } : Door) s41)] : List DoorR)))) :: (.blk b17 (enc (EnterR.mk ({ y24 with Way := r8 } : Enter) s25 s10)) 114) :: (.own Sl.nil 209 3 (encs ([] : List Word))) :: (.own Sl.nil 204 5 (encs ([] : List DoorR))) :: (.own s10 209 3 (encs r8)) :: (.blk b6 (enc (EnterR.mk ({ Enter.zero with Doors := ([] : List Door), Way := ([] : List Word) } : Enter) Sl.nil Sl.nil)) 114) :: (.own Sl.nil 209 3 (encs ([] : List Word))) :: (.own Sl.nil 204 5 (encs ([] : List DoorR))) :: (.blk b1 (enc (EnterR.mk a0 s_a0_0 s_a0_1)) 114) :: L) rfl ?_
 refine Lst.rowsApp ?_
 refine Lst.less (L' := (.rows (α := Int) 3 ((List.map DoorR.row rs26) ++ (List.map DoorR.row ([(DoorR.mk ({ x32 with Later := r39 } : Door) s41)] : List DoorR)))) :: (.blk b37 (enc (DoorR.mk ({ x32 with Later := r39 } : Door) s41)) 204) :: (.own Sl.nil 3 1 (encs ([] : List Int))) :: (.own s51 204 5 (encs (rs26 ++ ([(DoorR.mk ({ x32 with Later := r39 } : Door) s41)] : List DoorR)))) :: (.blk b17 (enc (EnterR.mk ({ y24 with Way := r8 } : Enter) s25 s10)) 114) :: (.own Sl.nil 209 3 (encs ([] : List Word))) :: (.own Sl.nil 204 5 (encs ([] : List DoorR))) :: (.own s10 209 3 (encs r8)) :: (.blk b6 (enc (EnterR.mk ({ Enter.zero with Doors := ([] : List Door), Way := ([] : List Word) } : Enter) Sl.nil Sl.nil)) 114) :: (.own Sl.nil 209 3 (encs ([] : List Word))) :: (.own Sl.nil 204 5 (encs ([] : List DoorR))) :: (.blk b1 (enc (EnterR.mk a0 s_a0_0 s_a0_1)) 114) :: L) (List.Sublist.cons_cons _ (List.Sublist.cons _ (List.Sublist.cons_cons _ (List.Sublist.cons_cons _ (List.Sublist.cons_cons _ (List.Sublist.cons_cons _ (List.Sublist.cons_cons _ (List.Sublist.cons_cons _ (List.Sublist.cons_cons _ (List.Sublist.cons_cons _ (List.Sublist.cons_cons _ (List.Sublist.cons_cons _ (List.Sublist.cons_cons _ (.refl _)))))))))))))) ?_
 refine Lst.its (L' := (.rows (α := Int) 3 (List.map DoorR.row (rs26 ++ ([(DoorR.mk ({ x32 with Later := r39 } : Door) s41)] : List DoorR)))) :: (.blk b37 (enc (DoorR.mk ({ x32 with Later := r39 } : Door) s41)) 204) :: (.own Sl.nil 3 1 (encs ([] : List Int))) :: (.own s51 204 5 (encs (rs26 ++ ([(DoorR.mk ({ x32 with Later := r39 } : Door) s41)] : List DoorR)))) :: (.blk b17 (enc (EnterR.mk ({ y24 with Way := r8 } : Enter) s25 s10)) 114) :: (.own Sl.nil 209 3 (encs ([] : List Word))) :: (.own Sl.nil 204 5 (encs ([] : List DoorR))) :: (.own s10 209 3 (encs r8)) :: (.blk b6 (enc (EnterR.mk ({ Enter.zero with Doors := ([] : List Door), Way := ([] : List Word) } : Enter) Sl.nil Sl.nil)) 114) :: (.own Sl.nil 209 3 (encs ([] : List Word))) :: (.own Sl.nil 204 5 (encs ([] : List DoorR))) :: (.blk b1 (enc (EnterR.mk a0 s_a0_0 s_a0_1)) 114) :: L) (by rw [List.map_append]) ?_
 refine Lst.r (Ev.fieldAddr (off' := 0) rfl Try.runUnderlying114 rfl Try.sizeOf111 rfl rfl) ?_
 refine Lst.store (i := 4) rfl rfl rfl rfl rfl Try.sizeOf111 (vs := [Sl.v s51]) rfl rfl rfl (cs' := enc (EnterR.mk ({ y24 with Doors := y24.Doors ++ ([({ x32 with Later := r39 } : Door)] : List Door), Way := r8 } : Enter) s51 s10)) ((EnterR.put_Doors (Put.here (vs := [Sl.v s51]) rfl)).off (by rfl)) (L' := (.rows (α := Int) 3 (List.map DoorR.row (rs26 ++ ([(DoorR.mk ({ x32 with Later := r39 } : Door) s41)] : List DoorR)))) :: (.blk b37 (enc (DoorR.mk ({ x32 with Later := r39 } : Door) s41)) 204) :: (.own Sl.nil 3 1 (encs ([] : List Int))) :: (.own s51 204 5 (encs (rs26 ++ ([(DoorR.mk ({ x32 with Later := r39 } : Door) s41)] : List DoorR)))) :: (.blk b17 (enc (EnterR.mk ({ y24 with Doors := y24.Doors ++ ([({ x32 with Later := r39 } : Door)] : List Door), Way := r8 } : Enter) s51 s10)) 114) :: (.own Sl.nil 209 3 (encs ([] : List Word))) :: (.own Sl.nil 204 5 (encs ([] : List DoorR))) :: (.own s10 209 3 (encs r8)) :: (.blk b6 (enc (EnterR.mk ({ Enter.zero with Doors := ([] : List Door), Way := ([] : List Word) } : Enter) Sl.nil Sl.nil)) 114) :: (.own Sl.nil 209 3 (encs ([] : List Word))) :: (.own Sl.nil 204 5 (encs ([] : List DoorR))) :: (.blk b1 (enc (EnterR.mk a0 s_a0_0 s_a0_1)) 114) :: L) rfl ?_
 refine Lst.nil ?_
 refine At.in_normal ?_
 refine At.then ?_
 refine Cd.region ?_
 refine Lst.r (Ev.incr (by omega) rfl rfl) ?_
 refine Lst.r (Ev.move rfl) ?_
 refine Lst.nil ?_
 refine At.less (L' := (.rows (α := Int) 3 (List.map DoorR.row (rs26 ++ ([(DoorR.mk ({ x32 with Later := r39 } : Door) s41)] : List DoorR)))) :: (.own s51 204 5 (encs (rs26 ++ ([(DoorR.mk ({ x32 with Later := r39 } : Door) s41)] : List DoorR)))) :: (.blk b17 (enc (EnterR.mk ({ y24 with Doors := y24.Doors ++ ([({ x32 with Later := r39 } : Door)] : List Door), Way := r8 } : Enter) s51 s10)) 114) :: (.own Sl.nil 209 3 (encs ([] : List Word))) :: (.own Sl.nil 204 5 (encs ([] : List DoorR))) :: (.own s10 209 3 (encs r8)) :: (.blk b6 (enc (EnterR.mk ({ Enter.zero with Doors := ([] : List Door), Way := ([] : List Word) } : Enter) Sl.nil Sl.nil)) 114) :: (.own Sl.nil 209 3 (encs ([] : List Word))) :: (.own Sl.nil 204 5 (encs ([] : List DoorR))) :: (.blk b1 (enc (EnterR.mk a0 s_a0_0 s_a0_1)) 114) :: L) (sk1 (sc1 (sc1 (sk1 (sk1 (sk1 (sk1 (sk1 (sk1 (sk1 (sk1 (sk1 (.refl _))))))))))))) ?_
 exact At.meet (i20 + 1, k20, ({ y24 with Doors := y24.Doors ++ ([({ x32 with Later := r39 } : Door)] : List Door), Way := r8 } : Enter), s51, (rs26 ++ ([(DoorR.mk ({ x32 with Later := r39 } : Door) s41)] : List DoorR))) (FLe.trans hF31 hF44) ⟨rfl, rfl, rfl, rfl, rfl, trivial⟩ rfl ⟨⟨hgo20 _ (some_inj H).symm, by omega, hm52⟩, Nat.lt_succ_self _⟩
set_option maxRecDepth 20000 in
theorem slices_Grow_api_Word_api_Word_sim {a1 : Int} {r : (List Word)} (H : slices_Grow_api_Word_api_Word a1 = some r) (w0 : World) (F : Frz) (M L : List Item) (hM : M.Sublist L) : Ok Try.prog w0 186 [Sl.v Sl.nil, iv a1] F (L) (fun _ L' v => ∃ (s1 : Sl), v = Sl.v s1 ∧ L' = (.own s1 209 3 (encs r)) :: L) := by
 unfold slices_Grow_api_Word_api_Word at H
 refine Ok.enter (m := 2) (n := 27) Try.func186 rfl rfl rfl (by decide) ?_
 refine Cd.env (e' := [(0, Sl.v Sl.nil), (1, iv a1)]) rfl ?_
 refine Cd.seq ?_
 refine Cd.region ?_
 refine Lst.addNil 209 3 ?_
 refine Lst.r (Ev.assign rfl) ?_
 refine Lst.nil ?_
 refine At.then ?_
 refine Cd.seq ?_
 refine Cd.seq ?_
 refine Cd.region ?_
 refine Lst.r (Ev.move rfl) ?_
 refine Lst.r (Ev.lss rfl rfl) ?_
 refine Lst.nil ?_
 refine At.then ?_
 rcases Bool.eq_false_or_eq_true (decide (a1 < (0 : Int))) with hb2 | hb2
 ·replace H := ite_t hb2 H
  cases H
 replace H := ite_f hb2 H
 refine Cd.condF rfl hb2 ?_
 refine Cd.skip ?_
 refine At.then ?_
 obtain ⟨o6, H, HKo6⟩ := bind_some H
 refine Cd.join (σ := Sl × (List Word)) (fun (s3, l4) => [(0, Sl.v s3)]) (fun (s3, l4) => (.own s3 209 3 (encs l4)) :: (.own Sl.nil 209 3 (encs ([] : List Word))) :: L) (fun _ (s3, l4) => l4 = o6) ?_ ?_
 ·refine Cd.seq ?_
  refine Cd.region ?_
  refine Lst.r (Ev.move rfl) ?_
  refine Lst.r (Ev.move rfl) ?_
  refine Lst.r (Ev.capNil rfl rfl Try.runUnderlying112) ?_
  refine Lst.r (Ev.move rfl) ?_
  refine Lst.r (Ev.lenNil rfl rfl Try.runUnderlying112) ?_
  refine Lst.r (Ev.sub rfl rfl) ?_
  refine Lst.r (Ev.sub rfl rfl) ?_
  refine Lst.r (Ev.assign rfl) ?_
  refine Lst.nil ?_
  refine At.then ?_
  refine Cd.seq ?_
  refine Cd.region ?_
  refine Lst.r (Ev.move rfl) ?_
  refine Lst.r (Ev.gtr rfl rfl) ?_
  refine Lst.nil ?_
  refine At.then ?_
  rcases (Bool.eq_false_or_eq_true (decide ((w64 (a1 - (w64 ((0 : Int) - (0 : Int))))) > (0 : Int)))).symm with hb7 | hb7
  ·replace H := ite_f hb7 H
   refine Cd.condF rfl hb7 ?_
   refine Cd.skip ?_
   refine At.addNil 209 3 ?_
   exact At.meet (Sl.nil, ([] : List Word)) (FLe.refl _) ⟨rfl, trivial⟩ rfl (some_inj H)
  replace H := ite_t hb7 H
  refine Cd.condT rfl hb7 ?_
  refine Cd.region ?_
  refine Lst.r (Ev.move rfl) ?_
  refine Lst.r (Ev.move rfl) ?_
  refine Lst.r (Ev.capNil rfl rfl Try.runUnderlying112) ?_
  refine Lst.r (Ev.cutNil rfl rfl Try.runUnderlying112 Try.sizeOf209) ?_
  refine Lst.r (Ev.move rfl) ?_
  obtain ⟨n10, h11, H⟩ := bind_some H
  have g12 := mkLen_some h11
  refine Lst.addNil 209 3 ?_
  refine Lst.appendZeros (α := Word) (i := 0) (k := n10) Word.zero rfl rfl (by decide) rfl (congrArg some (congrArg (Value.int .i64) g12.1)) Try.runUnderlying112 Try.runUnderlying3 Try.typeInfo209 rfl rfl rfl rfl rfl g12.2 rfl rfl (fun s13 => ?_)
  refine Lst.its (L' := (.own s13 209 3 (encs (List.replicate n10 Word.zero))) :: (.own Sl.nil 209 3 (encs ([] : List Word))) :: L) rfl ?_
  refine Lst.r (Ev.move rfl) ?_
  refine Lst.r (Ev.lenNil rfl rfl Try.runUnderlying112) ?_
  obtain ⟨m14, h15, H⟩ := bind_some H
  obtain ⟨g16, gl17⟩ := cutL_some h15
  try dsimp only at g16
  refine Lst.r (Ev.cut (α := Word) (xs := (List.replicate n10 Word.zero)) (i := 0) (j := (0 : Int)) rfl rfl rfl Try.runUnderlying112 Try.sizeOf209 rfl (by decide) (Rd.own (i := 0) rfl rfl rfl) g16.1 g16.2.1 g16.2.2) ?_
  refine Lst.cutOwn (i := 0) (α := Word) (lo := (0 : Int).toNat) (hi := ((0 : Int) : Int).toNat) rfl rfl rfl (by decide) (by omega) (by omega) (L' := (.own (s13.cut (0 : Int).toNat ((0 : Int) : Int).toNat 3) 209 3 (encs m14)) :: (.own Sl.nil 209 3 (encs ([] : List Word))) :: L) (by subst gl17; rfl) ?_
  refine Lst.r (Ev.assign rfl) ?_
  refine Lst.nil ?_
  exact At.meet ((s13.cut (0 : Int).toNat ((0 : Int) : Int).toNat 3), m14) (FLe.refl _) ⟨rfl, trivial⟩ rfl (some_inj H)
 rintro F19 ⟨s3, l4⟩ hF20 hy
 subst hy
 refine Cd.as (e' := [(0, Sl.v s3)]) (L' := (.own s3 209 3 (encs l4)) :: (.own Sl.nil 209 3 (encs ([] : List Word))) :: L) ⟨rfl, trivial⟩ rfl ?_
 replace H := HKo6
 refine Cd.seq ?_
 refine Cd.region ?_
 refine Lst.r (Ev.move rfl) ?_
 refine Lst.r (Ev.assign rfl) ?_
 refine Lst.nil ?_
 refine At.then ?_
 obtain rfl := some_inj H
 refine Cd.ret ?_
 exact At.ret1 rfl (Res.tmp rfl) hF20 (sk1 (sc1 (.refl _))) ⟨s3, rfl, rfl⟩
set_option maxRecDepth 20000 in
theorem slices_Concat_api_Word_api_Word_sim {a0 : List (List Word)} {s_a0 : Sl} {rs_a0 : List (LR Word)} {r : (List Word)} (H : slices_Concat_api_Word_api_Word a0 = some r) (w0 : World) (F : Frz) (M L : List Item) (hM : M.Sublist L) (hm_a0 : rs_a0.map LR.v = a0) (hs_a0 : Rd w0 F M s_a0 rs_a0) (ha_a0 : All LR.rel w0 F M rs_a0) : Ok Try.prog w0 164 [Sl.v s_a0] F (L) (fun _ L' v => ∃ (s1 : Sl), v = Sl.v s1 ∧ L' = (.own s1 209 3 (encs r)) :: L) := by
 unfold slices_Concat_api_Word_api_Word at H
 refine Ok.enter (m := 1) (n := 36) Try.func164 rfl rfl rfl (by decide) ?_
 refine Cd.env (e' := [(0, Sl.v s_a0)]) rfl ?_
 refine Cd.seq ?_
 refine Cd.region ?_
 refine Lst.addNil 209 3 ?_
 refine Lst.r (Ev.assign rfl) ?_
 refine Lst.nil ?_
 refine At.then ?_
 refine Cd.seq ?_
 refine Cd.region ?_
 refine Lst.r (Ev.assign rfl) ?_
 refine Lst.nil ?_
 refine At.then ?_
 refine Cd.seq ?_
 refine Cd.seq ?_
 refine Cd.region ?_
 refine Lst.r (Ev.move rfl) ?_
 refine Lst.r (Ev.lenM (map_len hm_a0) (Ev.lenS (α := LR Word) (xs := rs_a0) (by decide) rfl rfl Try.runUnderlying237 (hs_a0.mono (FLe.refl _) (sc1 hM)))) ?_
 refine Lst.r (Ev.move rfl) ?_
 refine Lst.nil ?_
 refine At.then ?_
 refine Cd.block ?_
 refine Cd.bound (Rd.le (α := LR Word) (xs := rs_a0) (by decide) (hs_a0.mono (FLe.refl _) (sc1 hM))) (fun hN32 => ?_)
 rw [map_len hm_a0] at hN32
 obtain ⟨ol3, H, HKl3⟩ := bind_some H
 refine Cd.loop (σ := Nat × Nat × Int) (fun (i3, k3, y4) => [(0, Sl.v s_a0), (3, iv y4), (9, Sl.v s_a0), (10, iv (a0.length : Int)), (11, iv (i3 : Int))]) (fun (i3, k3, y4) => (.own Sl.nil 209 3 (encs ([] : List Word))) :: L) (fun _ => (fun (i3, k3, y4) => rangeF (slices_Concat_api_Word_api_Word_B0 a0) k3 i3 y4 = some ol3 ∧ i3 + k3 = a0.length)) (fun (i3, k3, y4) => k3) (0, a0.length, (0 : Int)) ⟨rfl, rfl, rfl, rfl, rfl, trivial⟩ rfl ⟨H, by omega⟩ ?_
 rintro F5 ⟨i3, k3, y4⟩ hF6 ⟨H, hik3⟩
 refine Cd.as (e' := [(0, Sl.v s_a0), (3, iv y4), (9, Sl.v s_a0), (10, iv (a0.length : Int)), (11, iv (i3 : Int))]) (L' := (.own Sl.nil 209 3 (encs ([] : List Word))) :: L) ⟨rfl, rfl, rfl, rfl, rfl, trivial⟩ rfl ?_
 rcases k3 with _ | k3
 ·have hc3 : decide ((i3 : Int) < (a0.length : Int)) = false := decide_eq_false (by omega)
  replace H := rangeF_end H
  refine Cd.seq ?_
  refine Cd.region ?_
  refine Lst.r (Ev.lss rfl rfl) ?_
  refine Lst.nil ?_
  refine At.then ?_
  refine Cd.seq ?_
  refine Cd.condF rfl hc3 ?_
  refine Cd.exit ?_
  refine At.then_exit ?_
  refine At.then_exit ?_
  refine At.in_exit ?_
  subst H
  replace H := HKl3
  refine At.then ?_
  refine Cd.seq ?_
  refine Cd.region ?_
  refine Lst.r (Ev.move rfl) ?_
  obtain ⟨r12, h13, H⟩ := bind_some H
  refine Lst.call rfl rfl (by decide) (vs := [Sl.v Sl.nil, iv y4]) ⟨rfl, rfl, trivial⟩ Try.call186 (slices_Grow_api_Word_api_Word_sim h13 w0 _ M _ (sc1 hM)) (fun F16 L' v hF17 hv => ?_)
  obtain ⟨s14, rfl, rfl⟩ := hv
  refine Lst.r (Ev.assign rfl) ?_
  refine Lst.nil ?_
  refine At.then ?_
  refine Cd.seq ?_
  refine Cd.seq ?_
  refine Cd.region ?_
  refine Lst.r (Ev.move rfl) ?_
  refine Lst.r (Ev.lenM (map_len hm_a0) (Ev.lenS (α := LR Word) (xs := rs_a0) (by decide) rfl rfl Try.runUnderlying237 (hs_a0.mono (FLe.trans hF6 hF17) (sc2 hM)))) ?_
  refine Lst.r (Ev.move rfl) ?_
  refine Lst.nil ?_
  refine At.then ?_
  refine Cd.block ?_
  refine Cd.bound (Rd.le (α := LR Word) (xs := rs_a0) (by decide) (hs_a0.mono (FLe.trans hF6 hF17) (sc2 hM))) (fun hN31 => ?_)
  rw [map_len hm_a0] at hN31
  obtain ⟨ol19, H, HKl19⟩ := bind_some H
  refine Cd.loop (σ := Nat × Nat × Sl × (List Word)) (fun (i19, k19, s20, l21) => [(6, Sl.v s20), (25, Sl.v s_a0), (26, iv (a0.length : Int)), (27, iv (i19 : Int))]) (fun (i19, k19, s20, l21) => (.own s20 209 3 (encs l21)) :: (.own Sl.nil 209 3 (encs ([] : List Word))) :: L) (fun _ => (fun (i19, k19, s20, l21) => rangeF (slices_Concat_api_Word_api_Word_B2 a0) k19 i19 l21 = some ol19 ∧ i19 + k19 = a0.length)) (fun (i19, k19, s20, l21) => k19) (0, a0.length, s14, r12) ⟨rfl, rfl, rfl, rfl, trivial⟩ rfl ⟨H, by omega⟩ ?_
  rintro F22 ⟨i19, k19, s20, l21⟩ hF23 ⟨H, hik19⟩
  refine Cd.as (e' := [(6, Sl.v s20), (25, Sl.v s_a0), (26, iv (a0.length : Int)), (27, iv (i19 : Int))]) (L' := (.own s20 209 3 (encs l21)) :: (.own Sl.nil 209 3 (encs ([] : List Word))) :: L) ⟨rfl, rfl, rfl, rfl, trivial⟩ rfl ?_
  rcases k19 with _ | k19
  ·have hc19 : decide ((i19 : Int) < (a0.length : Int)) = false := decide_eq_false (by omega)
   replace H := rangeF_end H
   refine Cd.seq ?_
   refine Cd.region ?_
   refine Lst.r (Ev.lss rfl rfl) ?_
   refine Lst.nil ?_
   refine At.then ?_
   refine Cd.seq ?_
   refine Cd.condF rfl hc19 ?_
   refine Cd.exit ?_
   refine At.then_exit ?_
   refine At.then_exit ?_
   refine At.in_exit ?_
   subst H
   replace H := HKl19
   refine At.then ?_
   refine Cd.seq ?_
   refine Cd.region ?_
   refine Lst.r (Ev.move rfl) ?_
   refine Lst.r (Ev.assign rfl) ?_
   refine Lst.nil ?_
   refine At.then ?_
   obtain rfl := some_inj H
   refine Cd.ret ?_
   exact At.ret1 rfl (Res.tmp rfl) (FLe.trans (FLe.trans hF6 hF17) hF23) (sk1 (sc1 (.refl _))) ⟨s20, rfl, rfl⟩
  have hc19 : decide ((i19 : Int) < (a0.length : Int)) = true := decide_eq_true (by omega)
  obtain ⟨c19, H, hgo19⟩ := rangeF_go H
  unfold slices_Concat_api_Word_api_Word_B2 at H
  try dsimp only at H
  refine Cd.seq ?_
  refine Cd.region ?_
  refine Lst.r (Ev.lss rfl rfl) ?_
  refine Lst.nil ?_
  refine At.then ?_
  refine Cd.seq ?_
  refine Cd.condT rfl hc19 ?_
  refine Cd.skip ?_
  refine At.then ?_
  refine Cd.seq ?_
  refine Cd.block ?_
  refine Cd.seq ?_
  refine Cd.region ?_
  obtain ⟨x24, h25, H⟩ := bind_some H
  have g26 := lat_some h25
  obtain ⟨⟨r27v, r27h⟩, r27g, r27e, r27m⟩ := map_get hm_a0 g26.2.2
  obtain rfl : x24 = r27v := r27e.symm
  have r27q : Rd w0 _ _ r27h x24 := ha_a0 _ r27m
  refine Lst.r (Ev.indexS (α := LR Word) (xs := rs_a0) rfl rfl Try.runUnderlying237 Try.sizeOf112 rfl (by decide) (hs_a0.mono (FLe.trans (FLe.trans hF6 hF17) hF23) (sc2 hM)) g26.1 (by have := map_len hm_a0; omega)) ?_
  refine Lst.r (Ev.loadS (α := LR Word) rfl (hs_a0.mono (FLe.trans (FLe.trans hF6 hF17) hF23) (sc2 hM)) Try.isAgg112 (v := Sl.v r27h) ((Get.elemN (s := 1) rfl r27g (Get.here _)).off (by omega))) ?_
  refine Lst.r (Ev.assign rfl) ?_
  refine Lst.nil ?_
  refine At.then ?_
  refine Cd.region ?_
  refine Lst.r (Ev.move rfl) ?_
  refine Lst.r (Ev.move rfl) ?_
  obtain ⟨u28, h29, H⟩ := bind_some H
  refine Lst.append (i := 0) (α := Word) (xs := l21) (ys := x24) rfl rfl (by decide) rfl rfl Try.runUnderlying112 Try.typeInfo209 rfl rfl rfl rfl rfl rfl (r27q.mono (FLe.trans (FLe.trans hF6 hF17) hF23) (sc2 hM)) rfl (room_some h29) rfl (fun s30 => ?_)
  refine Lst.its (L' := (.own s30 209 3 (encs (l21 ++ x24))) :: (.own Sl.nil 209 3 (encs ([] : List Word))) :: L) rfl ?_
  refine Lst.r (Ev.assign rfl) ?_
  refine Lst.nil ?_
  refine At.in_normal ?_
  refine At.then ?_
  refine Cd.region ?_
  refine Lst.r (Ev.incr (by omega) rfl rfl) ?_
  refine Lst.r (Ev.move rfl) ?_
  refine Lst.nil ?_
  exact At.meet (i19 + 1, k19, s30, l21 ++ x24) hF23 ⟨rfl, rfl, rfl, rfl, trivial⟩ rfl ⟨⟨hgo19 _ (some_inj H).symm, by omega⟩, Nat.lt_succ_self _⟩
 have hc3 : decide ((i3 : Int) < (a0.length : Int)) = true := decide_eq_true (by omega)
 obtain ⟨c3, H, hgo3⟩ := rangeF_go H
 unfold slices_Concat_api_Word_api_Word_B0 at H
 try dsimp only at H
 refine Cd.seq ?_
 refine Cd.region ?_
 refine Lst.r (Ev.lss rfl rfl) ?_
 refine Lst.nil ?_
 refine At.then ?_
 refine Cd.seq ?_
 refine Cd.condT rfl hc3 ?_
 refine Cd.skip ?_
 refine At.then ?_
 refine Cd.seq ?_
 refine Cd.block ?_
 refine Cd.seq ?_
 refine Cd.region ?_
 obtain ⟨x7, h8, H⟩ := bind_some H
 have g9 := lat_some h8
 obtain ⟨⟨r10v, r10h⟩, r10g, r10e, r10m⟩ := map_get hm_a0 g9.2.2
 obtain rfl : x7 = r10v := r10e.symm
 have r10q : Rd w0 _ _ r10h x7 := ha_a0 _ r10m
 refine Lst.r (Ev.indexS (α := LR Word) (xs := rs_a0) rfl rfl Try.runUnderlying237 Try.sizeOf112 rfl (by decide) (hs_a0.mono hF6 (sc1 hM)) g9.1 (by have := map_len hm_a0; omega)) ?_
 refine Lst.r (Ev.loadS (α := LR Word) rfl (hs_a0.mono hF6 (sc1 hM)) Try.isAgg112 (v := Sl.v r10h) ((Get.elemN (s := 1) rfl r10g (Get.here _)).off (by omega))) ?_
 refine Lst.r (Ev.assign rfl) ?_
 refine Lst.nil ?_
 refine At.then ?_
 refine Cd.seq ?_
 refine Cd.region ?_
 refine Lst.r (Ev.move rfl) ?_
 refine Lst.r (Ev.move rfl) ?_
 refine Lst.r (Ev.lenS (α := Word) (xs := x7) (by decide) rfl rfl Try.runUnderlying112 (r10q.mono hF6 (sc1 hM))) ?_
 refine Lst.r (Ev.add rfl rfl) ?_
 refine Lst.r (Ev.assign rfl) ?_
 refine Lst.nil ?_
 refine At.then ?_
 refine Cd.seq ?_
 refine Cd.region ?_
 refine Lst.r (Ev.move rfl) ?_
 refine Lst.r (Ev.lss rfl rfl) ?_
 refine Lst.nil ?_
 refine At.then ?_
 rcases Bool.eq_false_or_eq_true (decide ((w64 (y4 + (x7.length : Int))) < (0 : Int))) with hb11 | hb11
 ·replace H := ite_t hb11 H
  cases H
 replace H := ite_f hb11 H
 refine Cd.condF rfl hb11 ?_
 refine Cd.skip ?_
 refine At.in_normal ?_
 refine At.then ?_
 refine Cd.region ?_
 refine Lst.r (Ev.incr (by omega) rfl rfl) ?_
 refine Lst.r (Ev.move rfl) ?_
 refine Lst.nil ?_
 exact At.meet (i3 + 1, k3, w64 (y4 + (x7.length : Int))) hF6 ⟨rfl, rfl, rfl, rfl, rfl, trivial⟩ rfl ⟨⟨hgo3 _ (some_inj H).symm, by omega⟩, Nat.lt_succ_self _⟩
end Go.Proofs.Ytobikknjaomalaa
