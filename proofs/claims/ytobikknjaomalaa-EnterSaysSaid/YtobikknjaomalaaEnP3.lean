/-
  The functions compute their specs; printed by a program.
-/
import Derived.Test.YtobikknjaomalaaEnP2
namespace Go.Proofs.Ytobikknjaomalaa
open Go.RowKit Enc
set_option linter.unusedVariables false
set_option linter.unusedSimpArgs false
set_option maxHeartbeats 2000000 in
set_option maxRecDepth 20000 in
theorem partref_EnterTake_sim {fu : Nat} {a0 : Enter} {a1 : Int} {s_a0_0 : Sl} {rs_a0_0 : List DoorR} {s_a0_1 : Sl} {r : Enter} (H : partref_EnterTake fu a0 a1 = some r) (w0 : World) (F : Frz) (M L : List Item) (hM : M.Sublist L) (hm_a0_0 : rs_a0_0.map DoorR.v = a0.Doors) (hs_a0_0 : Rd w0 F M s_a0_0 rs_a0_0) (ha_a0_0 : All DoorR.rel w0 F M rs_a0_0) (hs_a0_1 : Rd w0 F M s_a0_1 a0.Way) : Ok Try.prog w0 70 [.agg (enc (EnterR.mk a0 s_a0_0 s_a0_1)).toArray, iv a1] F (L) (fun Fx L' v => ∃ (s1 : Sl) (rs2 : List DoorR) (s6 : Sl), v = .agg (enc (EnterR.mk r s1 s6)).toArray ∧ L' = (.rows (α := Int) 3 (List.map DoorR.row rs2)) :: (.own s1 204 5 (encs rs2)) :: (.own s6 209 3 (encs r.Way)) :: L ∧ rs2.map DoorR.v = r.Doors) := by
 unfold partref_EnterTake at H
 refine Ok.enter (m := 2) (n := 154) Try.func70 rfl rfl rfl (by decide) ?_
 refine Cd.env (e' := [(0, .agg (enc (EnterR.mk a0 s_a0_0 s_a0_1)).toArray), (1, iv a1)]) rfl ?_
 refine Cd.seq ?_
 refine Cd.region ?_
 refine Lst.box rfl rfl (by decide) rfl (cs := enc (EnterR.mk a0 s_a0_0 s_a0_1)) rfl (fun b1 => ?_)
 have ha4 : All DoorR.rel w0 F [] ([] : List DoorR) := All.nil
 have ha4m : List.map DoorR.v ([] : List DoorR) = ([] : List Door) := rfl
 refine Lst.addNil 204 5 ?_
 refine Lst.addNil 209 3 ?_
 refine Lst.alloc (cs := enc (EnterR.mk ({ Enter.zero with Doors := ([] : List Door), Way := ([] : List Word) } : Enter) Sl.nil Sl.nil)) rfl rfl (by decide) Try.zeroValue114 rfl (fun b6 => ?_)
 refine Lst.nil ?_
 refine At.then ?_
 refine Cd.seq ?_
 refine Cd.region ?_
 refine Lst.r (Ev.loadA (i := 3) rfl rfl Try.isAgg114 Try.sizeOf114 (ch := enc (EnterR.mk a0 s_a0_0 s_a0_1)) (Enc.len _) (Get.here _)) ?_
 obtain ⟨r8, h9, H⟩ := bind_some H
 refine Lst.call rfl rfl (by decide) (vs := [.agg (enc (EnterR.mk a0 s_a0_0 s_a0_1)).toArray]) ⟨rfl, trivial⟩ Try.call163 (partref_enterCopy_sim h9 w0 _ M _ (sc4 hM) hm_a0_0 (hs_a0_0.mono (FLe.refl _) (.refl _)) (All.monoDoor ha_a0_0 (FLe.refl _) (.refl _)) (hs_a0_1.mono (FLe.refl _) (.refl _))) (fun F17 L' v hF18 hv => ?_)
 obtain ⟨s10, rs11, s15, rfl, rfl, fm12⟩ := hv
 have ha20 : All DoorR.rel w0 F17 [] ([] : List DoorR) := All.nil
 have ha20m : List.map DoorR.v ([] : List DoorR) = ([] : List Door) := rfl
 refine Lst.addNil 204 5 ?_
 refine Lst.addNil 209 3 ?_
 refine Lst.alloc (cs := enc (EnterR.mk ({ Enter.zero with Doors := ([] : List Door), Way := ([] : List Word) } : Enter) Sl.nil Sl.nil)) rfl rfl (by decide) Try.zeroValue114 rfl (fun b22 => ?_)
 refine Lst.store (i := 0) rfl rfl rfl rfl rfl Try.sizeOf114 (vs := enc (EnterR.mk r8 s10 s15)) rfl (Enc.len _) (Enc.one _) (cs' := enc (EnterR.mk r8 s10 s15)) (Put.here ((Enc.len _).trans (Enc.len _).symm)) (L' := (.blk b22 (enc (EnterR.mk r8 s10 s15)) 114) :: (.own Sl.nil 209 3 (encs ([] : List Word))) :: (.own Sl.nil 204 5 (encs ([] : List DoorR))) :: (.rows (α := Int) 3 (List.map DoorR.row rs11)) :: (.own s10 204 5 (encs rs11)) :: (.own s15 209 3 (encs r8.Way)) :: (.blk b6 (enc (EnterR.mk ({ Enter.zero with Doors := ([] : List Door), Way := ([] : List Word) } : Enter) Sl.nil Sl.nil)) 114) :: (.own Sl.nil 209 3 (encs ([] : List Word))) :: (.own Sl.nil 204 5 (encs ([] : List DoorR))) :: (.blk b1 (enc (EnterR.mk a0 s_a0_0 s_a0_1)) 114) :: L) rfl ?_
 refine Lst.nil ?_
 refine At.then ?_
 refine Cd.seq ?_
 refine Cd.region ?_
 refine Lst.r (Ev.fieldAddr (off' := 1) rfl Try.runUnderlying114 rfl Try.sizeOf112 rfl rfl) ?_
 refine Lst.r (Ev.load (i := 0) rfl rfl Try.isAgg112 (v := Sl.v s15) ((EnterR.get_Way (Get.here _)).off (by rfl))) ?_
 refine Lst.r (Ev.move rfl) ?_
 obtain ⟨x24, h25, H⟩ := bind_some H
 have g26 := lat_some h25
 refine Lst.r (Ev.indexS (α := Word) (xs := r8.Way) rfl rfl Try.runUnderlying112 Try.sizeOf209 rfl (by decide) (Rd.own (i := 5) rfl rfl rfl) g26.1 g26.2.1) ?_
 refine Lst.r (Ev.loadSA (α := Word) rfl (Rd.own (i := 5) rfl rfl rfl) Try.isAgg209 Try.sizeOf209 (ch := enc x24) (Enc.len _) (by decide) ((Get.elemN (s := 3) (x := x24) rfl g26.2.2 (Get.here _)).off (by omega))) ?_
 refine Lst.alloc (cs := enc Word.zero) rfl rfl (by decide) Try.zeroValue209 rfl (fun b27 => ?_)
 refine Lst.store (i := 0) rfl rfl rfl rfl rfl Try.sizeOf209 (vs := enc x24) rfl (Enc.len _) (Enc.one _) (cs' := enc x24) (Put.here ((Enc.len _).trans (Enc.len _).symm)) (L' := (.blk b27 (enc x24) 209) :: (.blk b22 (enc (EnterR.mk r8 s10 s15)) 114) :: (.own Sl.nil 209 3 (encs ([] : List Word))) :: (.own Sl.nil 204 5 (encs ([] : List DoorR))) :: (.rows (α := Int) 3 (List.map DoorR.row rs11)) :: (.own s10 204 5 (encs rs11)) :: (.own s15 209 3 (encs r8.Way)) :: (.blk b6 (enc (EnterR.mk ({ Enter.zero with Doors := ([] : List Door), Way := ([] : List Word) } : Enter) Sl.nil Sl.nil)) 114) :: (.own Sl.nil 209 3 (encs ([] : List Word))) :: (.own Sl.nil 204 5 (encs ([] : List DoorR))) :: (.blk b1 (enc (EnterR.mk a0 s_a0_0 s_a0_1)) 114) :: L) rfl ?_
 refine Lst.nil ?_
 refine At.then ?_
 refine Cd.seq ?_
 refine Cd.tail 9 (by kernel_rfl) (by kernel_rfl) ?_
 refine Qt.r (Ev.fieldAddr (off' := 1) rfl Try.runUnderlying114 rfl Try.sizeOf112 rfl rfl) ?_
 refine Qt.r (Ev.load (i := 10) rfl rfl Try.isAgg112 (v := Sl.v s_a0_1) ((EnterR.get_Way (Get.here _)).off (by rfl))) ?_
 refine Qt.r (Ev.move rfl) ?_
 obtain ⟨m29, h30, H⟩ := bind_some H
 obtain ⟨g31, gl32⟩ := cutL_some h30
 try dsimp only at g31
 have hq33 : Rd w0 F M (s_a0_1.cut (0 : Int).toNat (a1 : Int).toNat 3) m29 := by rw [← gl32]; exact Rd.cut (by decide) hs_a0_1 (by omega) (by omega)
 refine Qt.r (Ev.cut (α := Word) (xs := a0.Way) (i := 0) (j := a1) rfl rfl rfl Try.runUnderlying112 Try.sizeOf209 rfl (by decide) (hs_a0_1.mono hF18 (sc8 (sc2 (sc1 hM)))) g31.1 g31.2.1 g31.2.2) ?_
 refine Qt.r (Ev.fieldAddr (off' := 1) rfl Try.runUnderlying114 rfl Try.sizeOf112 rfl rfl) ?_
 refine Qt.r (Ev.load (i := 10) rfl rfl Try.isAgg112 (v := Sl.v s_a0_1) ((EnterR.get_Way (Get.here _)).off (by rfl))) ?_
 refine Qt.r (Ev.move rfl) ?_
 refine Qt.r (Ev.add rfl rfl) ?_
 obtain ⟨m34, h35, H⟩ := bind_some H
 obtain ⟨g36, gl37⟩ := cutL_some h35
 try dsimp only at g36
 have hq38 : Rd w0 F M (s_a0_1.cut (w64 (a1 + (1 : Int)) : Int).toNat ((a0.Way.length : Int) : Int).toNat 3) m34 := by rw [← gl37]; exact Rd.cut (by decide) hs_a0_1 (by omega) (by omega)
 refine Qt.r (Ev.cut (α := Word) (xs := a0.Way) (i := w64 (a1 + (1 : Int))) (j := (a0.Way.length : Int)) rfl rfl rfl Try.runUnderlying112 Try.sizeOf209 rfl (by decide) (hs_a0_1.mono hF18 (sc8 (sc2 (sc1 hM)))) g36.1 g36.2.1 g36.2.2) ?_
 refine Qt.tail ?_
 have hm41 : ([(LR.mk m29 (s_a0_1.cut (0 : Int).toNat (a1 : Int).toNat 3)), (LR.mk m34 (s_a0_1.cut (w64 (a1 + (1 : Int)) : Int).toNat ((a0.Way.length : Int) : Int).toNat 3))] : List (LR Word)).map LR.v = ([m29, m34] : List (List Word)) := rfl
 have ha42 : All LR.rel w0 F17 M ([(LR.mk m29 (s_a0_1.cut (0 : Int).toNat (a1 : Int).toNat 3)), (LR.mk m34 (s_a0_1.cut (w64 (a1 + (1 : Int)) : Int).toNat ((a0.Way.length : Int) : Int).toNat 3))] : List (LR Word)) := All.of2 (hq33.mono hF18 (.refl _)) (hq38.mono hF18 (.refl _))
 refine Lst.buildSlice (α := LR Word) (xs := ([(LR.mk m29 (s_a0_1.cut (0 : Int).toNat (a1 : Int).toNat 3)), (LR.mk m34 (s_a0_1.cut (w64 (a1 + (1 : Int)) : Int).toNat ((a0.Way.length : Int) : Int).toNat 3))] : List (LR Word))) (pv := [(0, Sl.v (s_a0_1.cut (0 : Int).toNat (a1 : Int).toNat 3)), (1, Sl.v (s_a0_1.cut (w64 (a1 + (1 : Int)) : Int).toNat ((a0.Way.length : Int) : Int).toNat 3))]) rfl rfl (by decide) ⟨rfl, rfl, ⟨rfl, rfl, trivial⟩⟩ (run_buildSlice (α := LR Word) (z0 := ((LR.mk [] Sl.nil) : LR Word)) (xs := ([(LR.mk m29 (s_a0_1.cut (0 : Int).toNat (a1 : Int).toNat 3)), (LR.mk m34 (s_a0_1.cut (w64 (a1 + (1 : Int)) : Int).toNat ((a0.Way.length : Int) : Int).toNat 3))] : List (LR Word))) Try.runUnderlying237 Try.sizeOf112 Try.zeroValue112 rfl rfl rfl (by decide) rfl (fill_cons (cs := encs (List.replicate 2 ((LR.mk [] Sl.nil) : LR Word))) (cs' := encs ((List.replicate 2 ((LR.mk [] Sl.nil) : LR Word)).set 0 (LR.mk m29 (s_a0_1.cut (0 : Int).toNat (a1 : Int).toNat 3)))) (vs := [Sl.v (s_a0_1.cut (0 : Int).toNat (a1 : Int).toNat 3)]) rfl rfl rfl ((Put.elemN (s := 1) (i := 0) (x := ((LR.mk [] Sl.nil) : LR Word)) (y := (LR.mk m29 (s_a0_1.cut (0 : Int).toNat (a1 : Int).toNat 3))) rfl rfl (Put.here (vs := [Sl.v (s_a0_1.cut (0 : Int).toNat (a1 : Int).toNat 3)]) rfl)).off rfl) (fill_cons (cs := encs ((List.replicate 2 ((LR.mk [] Sl.nil) : LR Word)).set 0 (LR.mk m29 (s_a0_1.cut (0 : Int).toNat (a1 : Int).toNat 3)))) (cs' := encs (((List.replicate 2 ((LR.mk [] Sl.nil) : LR Word)).set 0 (LR.mk m29 (s_a0_1.cut (0 : Int).toNat (a1 : Int).toNat 3))).set 1 (LR.mk m34 (s_a0_1.cut (w64 (a1 + (1 : Int)) : Int).toNat ((a0.Way.length : Int) : Int).toNat 3)))) (vs := [Sl.v (s_a0_1.cut (w64 (a1 + (1 : Int)) : Int).toNat ((a0.Way.length : Int) : Int).toNat 3)]) rfl rfl rfl ((Put.elemN (s := 1) (i := 1) (x := ((LR.mk [] Sl.nil) : LR Word)) (y := (LR.mk m34 (s_a0_1.cut (w64 (a1 + (1 : Int)) : Int).toNat ((a0.Way.length : Int) : Int).toNat 3))) rfl rfl (Put.here (vs := [Sl.v (s_a0_1.cut (w64 (a1 + (1 : Int)) : Int).toNat ((a0.Way.length : Int) : Int).toNat 3)]) rfl)).off rfl) fill_nil))) rfl rfl (by decide) (fun s39 _ => ?_)
 obtain ⟨r43, h44, H⟩ := bind_some H
 refine Lst.call rfl rfl (by decide) (vs := [Sl.v s39]) ⟨rfl, trivial⟩ Try.call164 (slices_Concat_api_Word_api_Word_sim h44 w0 _ _ _ (.refl _) hm41 (Rd.own (i := 0) rfl rfl rfl) (All.monoLR ha42 (FLe.refl _) (sc8 (sc4 hM)))) (fun F47 L' v hF48 hv => ?_)
 obtain ⟨s45, rfl, rfl⟩ := hv
 refine Lst.r (Ev.fieldAddr (off' := 1) rfl Try.runUnderlying114 rfl Try.sizeOf112 rfl rfl) ?_
 refine Lst.store (i := 3) rfl rfl rfl rfl rfl Try.sizeOf112 (vs := [Sl.v s45]) rfl rfl rfl (cs' := enc (EnterR.mk ({ r8 with Way := r43 } : Enter) s10 s45)) ((EnterR.put_Way (Put.here (vs := [Sl.v s45]) rfl)).off (by rfl)) (L' := (.own s45 209 3 (encs r43)) :: (.own s39 112 1 (encs ([(LR.mk m29 (s_a0_1.cut (0 : Int).toNat (a1 : Int).toNat 3)), (LR.mk m34 (s_a0_1.cut (w64 (a1 + (1 : Int)) : Int).toNat ((a0.Way.length : Int) : Int).toNat 3))] : List (LR Word)))) :: (.blk b27 (enc x24) 209) :: (.blk b22 (enc (EnterR.mk ({ r8 with Way := r43 } : Enter) s10 s45)) 114) :: (.own Sl.nil 209 3 (encs ([] : List Word))) :: (.own Sl.nil 204 5 (encs ([] : List DoorR))) :: (.rows (α := Int) 3 (List.map DoorR.row rs11)) :: (.own s10 204 5 (encs rs11)) :: (.own s15 209 3 (encs r8.Way)) :: (.blk b6 (enc (EnterR.mk ({ Enter.zero with Doors := ([] : List Door), Way := ([] : List Word) } : Enter) Sl.nil Sl.nil)) 114) :: (.own Sl.nil 209 3 (encs ([] : List Word))) :: (.own Sl.nil 204 5 (encs ([] : List DoorR))) :: (.blk b1 (enc (EnterR.mk a0 s_a0_0 s_a0_1)) 114) :: L) rfl ?_
 refine Lst.nil ?_
 refine At.then ?_
 refine Cd.seq ?_
 refine Cd.as (e' := [(2, pv b1 0), (4, pv b6 0), (5, pv b22 0), (6, pv b27 0)]) (L' := (.own s45 209 3 (encs r43)) :: (.own s39 112 1 (encs ([(LR.mk m29 (s_a0_1.cut (0 : Int).toNat (a1 : Int).toNat 3)), (LR.mk m34 (s_a0_1.cut (w64 (a1 + (1 : Int)) : Int).toNat ((a0.Way.length : Int) : Int).toNat 3))] : List (LR Word)))) :: (.blk b27 (enc x24) 209) :: (.blk b22 (enc (EnterR.mk ({ r8 with Way := r43 } : Enter) s10 s45)) 114) :: (.own Sl.nil 209 3 (encs ([] : List Word))) :: (.own Sl.nil 204 5 (encs ([] : List DoorR))) :: (.rows (α := Int) 3 (List.map DoorR.row rs11)) :: (.own s10 204 5 (encs rs11)) :: (.own s15 209 3 (encs r8.Way)) :: (.blk b6 (enc (EnterR.mk ({ Enter.zero with Doors := ([] : List Door), Way := ([] : List Word) } : Enter) Sl.nil Sl.nil)) 114) :: (.own Sl.nil 209 3 (encs ([] : List Word))) :: (.own Sl.nil 204 5 (encs ([] : List DoorR))) :: (.blk b1 (enc (EnterR.mk a0 s_a0_0 s_a0_1)) 114) :: L) ⟨rfl, rfl, rfl, rfl, trivial⟩ rfl ?_
 refine Cd.region ?_
 refine Lst.r (Ev.fieldAddr (off' := 0) rfl Try.runUnderlying114 rfl Try.sizeOf111 rfl rfl) ?_
 refine Lst.r (Ev.load (i := 3) rfl rfl Try.isAgg111 (v := Sl.v s10) ((EnterR.get_Doors (Get.here _)).off (by rfl))) ?_
 refine Lst.r (Ev.fieldAddr (off' := 1) rfl Try.runUnderlying209 rfl Try.sizeOf3 rfl rfl) ?_
 refine Lst.r (Ev.load (i := 2) rfl rfl Try.isAgg3 (v := iv x24.To) ((Word.get_To (Get.here _)).off (by rfl))) ?_
 obtain ⟨x49, h50, H⟩ := bind_some H
 have g51 := lat_some h50
 obtain ⟨⟨r52v, r52h4⟩, r52g, r52e, r52m⟩ := map_get fm12 g51.2.2
 obtain rfl : x49 = r52v := r52e.symm
 have r52wg := map_at DoorR.row r52g
 refine Lst.r (Ev.indexS (α := DoorR) (xs := rs11) rfl rfl Try.runUnderlying111 Try.sizeOf204 rfl (by decide) (Rd.own (i := 7) rfl rfl rfl) g51.1 (by have := map_len fm12; omega)) ?_
 refine Lst.r (Ev.assign rfl) ?_
 refine Lst.nil ?_
 refine At.then ?_
 refine Cd.seq ?_
 refine Cd.seq ?_
 refine Cd.region ?_
 refine Lst.r (Ev.fieldAddr (off' := 2) rfl Try.runUnderlying209 rfl Try.sizeOf3 rfl rfl) ?_
 refine Lst.r (Ev.load (i := 2) rfl rfl Try.isAgg3 (v := iv x24.At) ((Word.get_At (Get.here _)).off (by rfl))) ?_
 refine Lst.r (Ev.eql rfl rfl) ?_
 refine Lst.nil ?_
 refine At.then ?_
 rcases Bool.eq_false_or_eq_true (x24.At == (0 : Int)) with hb53 | hb53
 ·replace H := ite_t hb53 H
  refine Cd.condT rfl hb53 ?_
  refine Cd.seq ?_
  refine Cd.seq ?_
  refine Cd.region ?_
  refine Lst.r (Ev.move rfl) ?_
  refine Lst.r (Ev.nilCheckS (α := DoorR) rfl (Rd.own (i := 7) rfl rfl rfl) ((Get.elemN (s := 5) rfl r52g (Get.here _)).off (by omega)) rfl) ?_
  refine Lst.r (Ev.fieldS (α := DoorR) (f' := x24.To.toNat * 5 + 1) rfl (Rd.own (i := 7) rfl rfl rfl) ((Get.elemN (s := 5) rfl r52g (Get.here _)).off (by omega)) rfl Try.runUnderlying204 rfl Try.sizeOf3 rfl rfl rfl) ?_
  refine Lst.r (Ev.loadS (α := DoorR) rfl (Rd.own (i := 7) rfl rfl rfl) Try.isAgg3 (v := iv x49.Wish) ((Get.elemN (s := 5) rfl r52g (DoorR.get_Wish (Get.here _))).off (by omega))) ?_
  refine Lst.r (Ev.eql rfl rfl) ?_
  refine Lst.nil ?_
  refine At.then ?_
  rcases Bool.eq_false_or_eq_true (x49.Wish == (0 : Int)) with hb54 | hb54
  ·replace H := ite_t hb54 H
   refine Cd.condT rfl hb54 ?_
   refine Cd.seq ?_
   refine Cd.as (e' := [(4, pv b6 0), (5, pv b22 0)]) (L' := (.own s45 209 3 (encs r43)) :: (.own s39 112 1 (encs ([(LR.mk m29 (s_a0_1.cut (0 : Int).toNat (a1 : Int).toNat 3)), (LR.mk m34 (s_a0_1.cut (w64 (a1 + (1 : Int)) : Int).toNat ((a0.Way.length : Int) : Int).toNat 3))] : List (LR Word)))) :: (.blk b27 (enc x24) 209) :: (.blk b22 (enc (EnterR.mk ({ r8 with Way := r43 } : Enter) s10 s45)) 114) :: (.own Sl.nil 209 3 (encs ([] : List Word))) :: (.own Sl.nil 204 5 (encs ([] : List DoorR))) :: (.rows (α := Int) 3 (List.map DoorR.row rs11)) :: (.own s10 204 5 (encs rs11)) :: (.own s15 209 3 (encs r8.Way)) :: (.blk b6 (enc (EnterR.mk ({ Enter.zero with Doors := ([] : List Door), Way := ([] : List Word) } : Enter) Sl.nil Sl.nil)) 114) :: (.own Sl.nil 209 3 (encs ([] : List Word))) :: (.own Sl.nil 204 5 (encs ([] : List DoorR))) :: (.blk b1 (enc (EnterR.mk a0 s_a0_0 s_a0_1)) 114) :: L) ⟨rfl, rfl, trivial⟩ rfl ?_
   refine Cd.region ?_
   refine Lst.r (Ev.loadA (i := 3) rfl rfl Try.isAgg114 Try.sizeOf114 (ch := enc (EnterR.mk ({ r8 with Way := r43 } : Enter) s10 s45)) (Enc.len _) (Get.here _)) ?_
   refine Lst.store (i := 9) rfl rfl rfl rfl rfl Try.sizeOf114 (vs := enc (EnterR.mk ({ r8 with Way := r43 } : Enter) s10 s45)) rfl (Enc.len _) (Enc.one _) (cs' := enc (EnterR.mk ({ r8 with Way := r43 } : Enter) s10 s45)) (Put.here ((Enc.len _).trans (Enc.len _).symm)) (L' := (.own s45 209 3 (encs r43)) :: (.own s39 112 1 (encs ([(LR.mk m29 (s_a0_1.cut (0 : Int).toNat (a1 : Int).toNat 3)), (LR.mk m34 (s_a0_1.cut (w64 (a1 + (1 : Int)) : Int).toNat ((a0.Way.length : Int) : Int).toNat 3))] : List (LR Word)))) :: (.blk b27 (enc x24) 209) :: (.blk b22 (enc (EnterR.mk ({ r8 with Way := r43 } : Enter) s10 s45)) 114) :: (.own Sl.nil 209 3 (encs ([] : List Word))) :: (.own Sl.nil 204 5 (encs ([] : List DoorR))) :: (.rows (α := Int) 3 (List.map DoorR.row rs11)) :: (.own s10 204 5 (encs rs11)) :: (.own s15 209 3 (encs r8.Way)) :: (.blk b6 (enc (EnterR.mk ({ r8 with Way := r43 } : Enter) s10 s45)) 114) :: (.own Sl.nil 209 3 (encs ([] : List Word))) :: (.own Sl.nil 204 5 (encs ([] : List DoorR))) :: (.blk b1 (enc (EnterR.mk a0 s_a0_0 s_a0_1)) 114) :: L) rfl ?_
   refine Lst.nil ?_
   refine At.then ?_
   obtain rfl := some_inj H
   refine Cd.ret ?_
   refine At.then_ret ?_
   refine At.then_ret ?_
   refine At.front (i := 7) rfl rfl ?_
   refine At.front (i := 7) rfl (L' := (.rows (α := Int) 3 (List.map DoorR.row rs11)) :: (.own s10 204 5 (encs rs11)) :: (.own s45 209 3 (encs r43)) :: (.own s39 112 1 (encs ([(LR.mk m29 (s_a0_1.cut (0 : Int).toNat (a1 : Int).toNat 3)), (LR.mk m34 (s_a0_1.cut (w64 (a1 + (1 : Int)) : Int).toNat ((a0.Way.length : Int) : Int).toNat 3))] : List (LR Word)))) :: (.blk b27 (enc x24) 209) :: (.blk b22 (enc (EnterR.mk ({ r8 with Way := r43 } : Enter) s10 s45)) 114) :: (.own Sl.nil 209 3 (encs ([] : List Word))) :: (.own Sl.nil 204 5 (encs ([] : List DoorR))) :: (.own s15 209 3 (encs r8.Way)) :: (.blk b6 (enc (EnterR.mk ({ r8 with Way := r43 } : Enter) s10 s45)) 114) :: (.own Sl.nil 209 3 (encs ([] : List Word))) :: (.own Sl.nil 204 5 (encs ([] : List DoorR))) :: (.blk b1 (enc (EnterR.mk a0 s_a0_0 s_a0_1)) 114) :: L) rfl ?_
   exact At.ret1 rfl (Res.cellA (i := 9) rfl rfl Try.isAgg114 Try.sizeOf114 (Enc.len _)) (FLe.trans hF18 hF48) (sk1 (sk1 (sk1 (sc1 (sc1 (sc1 (sc1 (sc1 (sc1 (sc1 (sc1 (sc1 (sc1 (.refl _)))))))))))))) ⟨s10, rs11, s45, rfl, rfl, fm12⟩
  replace H := ite_f hb54 H
  refine Cd.condF rfl hb54 ?_
  refine Cd.skip ?_
  refine At.then ?_
  refine Cd.seq ?_
  refine Cd.tail 10 (by kernel_rfl) (by kernel_rfl) ?_
  refine Qt.r (Ev.move rfl) ?_
  refine Qt.r (Ev.nilCheckS (α := DoorR) rfl (Rd.own (i := 7) rfl rfl rfl) ((Get.elemN (s := 5) rfl r52g (Get.here _)).off (by omega)) rfl) ?_
  refine Qt.r (Ev.fieldS (α := DoorR) (f' := x24.To.toNat * 5 + 2) rfl (Rd.own (i := 7) rfl rfl rfl) ((Get.elemN (s := 5) rfl r52g (Get.here _)).off (by omega)) rfl Try.runUnderlying204 rfl Try.sizeOf5 rfl rfl rfl) ?_
  refine Qt.r (Ev.loadS (α := DoorR) rfl (Rd.own (i := 7) rfl rfl rfl) Try.isAgg5 (v := .int .u8 x49.Yes.toNat) ((Get.elemN (s := 5) rfl r52g (DoorR.get_Yes (Get.here _))).off (by omega))) ?_
  refine Qt.r (Ev.fieldAddr (off' := 0) rfl Try.runUnderlying209 rfl Try.sizeOf3 rfl rfl) ?_
  refine Qt.r (Ev.load (i := 2) rfl rfl Try.isAgg3 (v := iv x24.From) ((Word.get_From (Get.here _)).off (by rfl))) ?_
  obtain ⟨n55, h56, H⟩ := bind_some H
  refine Qt.r (Ev.shlU8 (i := (1 : BitVec 8)) (m := n55) rfl (congrArg some (congrArg (Value.int .i64) (cnt_some h56)))) ?_
  refine Qt.r (Ev.orU8 (i := x49.Yes) (j := (1 : BitVec 8) <<< n55) rfl rfl) ?_
  refine Qt.r (Ev.nilCheckS (α := DoorR) rfl (Rd.own (i := 7) rfl rfl rfl) ((Get.elemN (s := 5) rfl r52g (Get.here _)).off (by omega)) rfl) ?_
  refine Qt.r (Ev.fieldS (α := DoorR) (f' := x24.To.toNat * 5 + 2) rfl (Rd.own (i := 7) rfl rfl rfl) ((Get.elemN (s := 5) rfl r52g (Get.here _)).off (by omega)) rfl Try.runUnderlying204 rfl Try.sizeOf5 rfl rfl rfl) ?_
  refine Qt.tail ?_
  obtain ⟨p58, h59, H⟩ := Let_some H
  have hm60 : (rs11.set x24.To.toNat (DoorR.mk ({ x49 with Yes := x49.Yes ||| ((1 : BitVec 8) <<< n55) } : Door) r52h4)).map DoorR.v = p58 := (map_set fm12 _ _).trans h59
  refine Lst.storeS (i := 7) rfl rfl rfl rfl rfl Try.sizeOf5 (vs := [.int .u8 (x49.Yes ||| ((1 : BitVec 8) <<< n55)).toNat]) rfl rfl (by decide) rfl (xs' := encs (rs11.set x24.To.toNat (DoorR.mk ({ x49 with Yes := x49.Yes ||| ((1 : BitVec 8) <<< n55) } : Door) r52h4))) ((Put.elemN (s := 5) (x := DoorR.mk x49 r52h4) (y := (DoorR.mk ({ x49 with Yes := x49.Yes ||| ((1 : BitVec 8) <<< n55) } : Door) r52h4)) rfl r52g (DoorR.put_Yes (p := DoorR.mk x49 r52h4) (Put.here (vs := [.int .u8 (x49.Yes ||| ((1 : BitVec 8) <<< n55)).toNat]) rfl))).off (by omega)) (L' := (.own s45 209 3 (encs r43)) :: (.own s39 112 1 (encs ([(LR.mk m29 (s_a0_1.cut (0 : Int).toNat (a1 : Int).toNat 3)), (LR.mk m34 (s_a0_1.cut (w64 (a1 + (1 : Int)) : Int).toNat ((a0.Way.length : Int) : Int).toNat 3))] : List (LR Word)))) :: (.blk b27 (enc x24) 209) :: (.blk b22 (enc (EnterR.mk ({ r8 with Doors := p58, Way := r43 } : Enter) s10 s45)) 114) :: (.own Sl.nil 209 3 (encs ([] : List Word))) :: (.own Sl.nil 204 5 (encs ([] : List DoorR))) :: (.rows (α := Int) 3 (List.map DoorR.row rs11)) :: (.own s10 204 5 (encs (rs11.set x24.To.toNat (DoorR.mk ({ x49 with Yes := x49.Yes ||| ((1 : BitVec 8) <<< n55) } : Door) r52h4)))) :: (.own s15 209 3 (encs r8.Way)) :: (.blk b6 (enc (EnterR.mk ({ Enter.zero with Doors := ([] : List Door), Way := ([] : List Word) } : Enter) Sl.nil Sl.nil)) 114) :: (.own Sl.nil 209 3 (encs ([] : List Word))) :: (.own Sl.nil 204 5 (encs ([] : List DoorR))) :: (.blk b1 (enc (EnterR.mk a0 s_a0_0 s_a0_1)) 114) :: L) rfl ?_
  refine Lst.its (L' := (.own s45 209 3 (encs r43)) :: (.own s39 112 1 (encs ([(LR.mk m29 (s_a0_1.cut (0 : Int).toNat (a1 : Int).toNat 3)), (LR.mk m34 (s_a0_1.cut (w64 (a1 + (1 : Int)) : Int).toNat ((a0.Way.length : Int) : Int).toNat 3))] : List (LR Word)))) :: (.blk b27 (enc x24) 209) :: (.blk b22 (enc (EnterR.mk ({ r8 with Doors := p58, Way := r43 } : Enter) s10 s45)) 114) :: (.own Sl.nil 209 3 (encs ([] : List Word))) :: (.own Sl.nil 204 5 (encs ([] : List DoorR))) :: (.rows (α := Int) 3 (List.map DoorR.row (rs11.set x24.To.toNat (DoorR.mk ({ x49 with Yes := x49.Yes ||| ((1 : BitVec 8) <<< n55) } : Door) r52h4)))) :: (.own s10 204 5 (encs (rs11.set x24.To.toNat (DoorR.mk ({ x49 with Yes := x49.Yes ||| ((1 : BitVec 8) <<< n55) } : Door) r52h4)))) :: (.own s15 209 3 (encs r8.Way)) :: (.blk b6 (enc (EnterR.mk ({ Enter.zero with Doors := ([] : List Door), Way := ([] : List Word) } : Enter) Sl.nil Sl.nil)) 114) :: (.own Sl.nil 209 3 (encs ([] : List Word))) :: (.own Sl.nil 204 5 (encs ([] : List DoorR))) :: (.blk b1 (enc (EnterR.mk a0 s_a0_0 s_a0_1)) 114) :: L) (by rw [map_set_same (y := (DoorR.mk ({ x49 with Yes := x49.Yes ||| ((1 : BitVec 8) <<< n55) } : Door) r52h4)) r52g rfl]) ?_
  refine Lst.nil ?_
  refine At.then ?_
  refine Cd.seq ?_
  refine Cd.as (e' := [(2, pv b1 0), (4, pv b6 0), (5, pv b22 0), (7, Sl.at s10 (x24.To.toNat * 5))]) (L' := (.own s45 209 3 (encs r43)) :: (.own s39 112 1 (encs ([(LR.mk m29 (s_a0_1.cut (0 : Int).toNat (a1 : Int).toNat 3)), (LR.mk m34 (s_a0_1.cut (w64 (a1 + (1 : Int)) : Int).toNat ((a0.Way.length : Int) : Int).toNat 3))] : List (LR Word)))) :: (.blk b27 (enc x24) 209) :: (.blk b22 (enc (EnterR.mk ({ r8 with Doors := p58, Way := r43 } : Enter) s10 s45)) 114) :: (.own Sl.nil 209 3 (encs ([] : List Word))) :: (.own Sl.nil 204 5 (encs ([] : List DoorR))) :: (.rows (α := Int) 3 (List.map DoorR.row (rs11.set x24.To.toNat (DoorR.mk ({ x49 with Yes := x49.Yes ||| ((1 : BitVec 8) <<< n55) } : Door) r52h4)))) :: (.own s10 204 5 (encs (rs11.set x24.To.toNat (DoorR.mk ({ x49 with Yes := x49.Yes ||| ((1 : BitVec 8) <<< n55) } : Door) r52h4)))) :: (.own s15 209 3 (encs r8.Way)) :: (.blk b6 (enc (EnterR.mk ({ Enter.zero with Doors := ([] : List Door), Way := ([] : List Word) } : Enter) Sl.nil Sl.nil)) 114) :: (.own Sl.nil 209 3 (encs ([] : List Word))) :: (.own Sl.nil 204 5 (encs ([] : List DoorR))) :: (.blk b1 (enc (EnterR.mk a0 s_a0_0 s_a0_1)) 114) :: L) ⟨rfl, rfl, rfl, rfl, trivial⟩ rfl ?_
  refine Cd.tail 20 (by kernel_rfl) (by kernel_rfl) ?_
  refine Qt.r (Ev.move rfl) ?_
  refine Qt.r (Ev.move rfl) ?_
  obtain ⟨x61, h62, H⟩ := bind_some H
  have g63 := lat_some h62
  obtain ⟨⟨r64v, r64h4⟩, r64g, r64e, r64m⟩ := map_get hm60 g63.2.2
  obtain rfl : x61 = r64v := r64e.symm
  have r64wg := map_at DoorR.row r64g
  refine Qt.r (Ev.nilCheckS (α := DoorR) rfl (Rd.own (i := 7) rfl rfl rfl) ((Get.elemN (s := 5) rfl r64g (Get.here _)).off (by omega)) rfl) ?_
  refine Qt.r (Ev.fieldS (α := DoorR) (f' := x24.To.toNat * 5 + 3) rfl (Rd.own (i := 7) rfl rfl rfl) ((Get.elemN (s := 5) rfl r64g (Get.here _)).off (by omega)) rfl Try.runUnderlying204 rfl Try.sizeOf4 rfl rfl rfl) ?_
  refine Qt.r (Ev.loadS (α := DoorR) rfl (Rd.own (i := 7) rfl rfl rfl) Try.isAgg4 (v := .bool x61.In) ((Get.elemN (s := 5) rfl r64g (DoorR.get_In (Get.here _))).off (by omega))) ?_
  refine Qt.r (Ev.move rfl) ?_
  obtain ⟨o65, H, HKo65⟩ := bind_some H
  refine Qt.join (σ := Bool) 12 (fun y66 => [(4, pv b6 0), (5, pv b22 0), (52, Sl.at s10 (x24.To.toNat * 5)), (69, .bool y66)]) (fun y66 => y66 = o65) ?_ ?_
  ·rcases Bool.eq_false_or_eq_true x61.In with hb67 | hb67
   ·replace H := ite_t hb67 H
    refine Qt.skip rfl rfl rfl hb67 rfl (by decide) ?_
    refine Qt.skip rfl rfl rfl hb67 rfl (by decide) ?_
    refine Qt.skip rfl rfl rfl hb67 rfl (by decide) ?_
    refine Qt.skip rfl rfl rfl hb67 rfl (by decide) ?_
    refine Qt.skip rfl rfl rfl hb67 rfl (by decide) ?_
    refine Qt.skip rfl rfl rfl hb67 rfl (by decide) ?_
    refine Qt.skip rfl rfl rfl hb67 rfl (by decide) ?_
    refine Qt.skip rfl rfl rfl hb67 rfl (by decide) ?_
    refine Qt.skip rfl rfl rfl hb67 rfl (by decide) ?_
    refine Qt.skip rfl rfl rfl hb67 rfl (by decide) ?_
    refine Qt.skip rfl rfl rfl hb67 rfl (by decide) ?_
    refine Qt.r (Ev.pickT rfl hb67 rfl) ?_
    exact Qt.meet true ⟨rfl, rfl, rfl, rfl, trivial⟩ (some_inj H)
   replace H := ite_f hb67 H
   refine Qt.rG hb67 (Ev.move rfl) ?_
   obtain ⟨x68, h69, H⟩ := bind_some H
   have g70 := lat_some h69
   obtain ⟨⟨r71v, r71h4⟩, r71g, r71e, r71m⟩ := map_get hm60 g70.2.2
   obtain rfl : x68 = r71v := r71e.symm
   have r71wg := map_at DoorR.row r71g
   refine Qt.rG hb67 (Ev.nilCheckS (α := DoorR) rfl (Rd.own (i := 7) rfl rfl rfl) ((Get.elemN (s := 5) rfl r71g (Get.here _)).off (by omega)) rfl) ?_
   refine Qt.rG hb67 (Ev.fieldS (α := DoorR) (f' := x24.To.toNat * 5 + 2) rfl (Rd.own (i := 7) rfl rfl rfl) ((Get.elemN (s := 5) rfl r71g (Get.here _)).off (by omega)) rfl Try.runUnderlying204 rfl Try.sizeOf5 rfl rfl rfl) ?_
   refine Qt.rG hb67 (Ev.loadS (α := DoorR) rfl (Rd.own (i := 7) rfl rfl rfl) Try.isAgg5 (v := .int .u8 x68.Yes.toNat) ((Get.elemN (s := 5) rfl r71g (DoorR.get_Yes (Get.here _))).off (by omega))) ?_
   refine Qt.rG hb67 (Ev.convTo16 rfl Try.runUnderlying5 Try.runUnderlying175) ?_
   obtain ⟨r72, h73, H⟩ := bind_some H
   refine Qt.callG rfl rfl rfl hb67 rfl (by decide) (vs := [.int .u16 (BitVec.ofInt 16 (x68.Yes.toNat : Int)).toNat]) ⟨rfl, trivial⟩ Try.call135 (partref_size_sim h73 w0 _ M _ (sc8 (sc4 (sc1 hM)))) ?_
   refine Qt.rG hb67 (Ev.fieldAddr (off' := 0) rfl Try.runUnderlying114 rfl Try.sizeOf111 rfl rfl) ?_
   refine Qt.rG hb67 (Ev.load (i := 12) rfl rfl Try.isAgg111 (v := Sl.v s_a0_0) ((EnterR.get_Doors (Get.here _)).off (by rfl))) ?_
   refine Qt.rG hb67 (Ev.lenM (map_len hm_a0_0) (Ev.lenS (α := DoorR) (xs := rs_a0_0) (by decide) rfl rfl Try.runUnderlying111 (hs_a0_0.mono (FLe.trans hF18 hF48) (sc8 (sc4 (sc1 hM)))))) ?_
   refine Qt.rG hb67 (Ev.sub rfl rfl) ?_
   refine Qt.rG hb67 (Ev.eql rfl rfl) ?_
   refine Qt.r (Ev.pickF rfl hb67 rfl) ?_
   exact Qt.meet (r72 == (w64 ((a0.Doors.length : Int) - (1 : Int)))) ⟨rfl, rfl, rfl, rfl, trivial⟩ (some_inj H)
  rintro y66 hy
  subst hy
  refine Qt.as (e' := [(4, pv b6 0), (5, pv b22 0), (52, Sl.at s10 (x24.To.toNat * 5)), (69, .bool y66)]) ⟨rfl, rfl, rfl, rfl, trivial⟩ ?_
  replace H := HKo65
  obtain ⟨x77, h78, H⟩ := bind_some H
  have g79 := lat_some h78
  obtain ⟨⟨r80v, r80h4⟩, r80g, r80e, r80m⟩ := map_get hm60 g79.2.2
  obtain rfl : x77 = r80v := r80e.symm
  have r80wg := map_at DoorR.row r80g
  refine Qt.r (Ev.nilCheckS (α := DoorR) rfl (Rd.own (i := 7) rfl rfl rfl) ((Get.elemN (s := 5) rfl r80g (Get.here _)).off (by omega)) rfl) ?_
  refine Qt.r (Ev.fieldS (α := DoorR) (f' := x24.To.toNat * 5 + 3) rfl (Rd.own (i := 7) rfl rfl rfl) ((Get.elemN (s := 5) rfl r80g (Get.here _)).off (by omega)) rfl Try.runUnderlying204 rfl Try.sizeOf4 rfl rfl rfl) ?_
  refine Qt.tail ?_
  obtain ⟨p81, h82, H⟩ := Let_some H
  have hm83 : ((rs11.set x24.To.toNat (DoorR.mk ({ x49 with Yes := x49.Yes ||| ((1 : BitVec 8) <<< n55) } : Door) r52h4)).set x24.To.toNat (DoorR.mk ({ x77 with In := y66 } : Door) r80h4)).map DoorR.v = p81 := (map_set hm60 _ _).trans h82
  refine Lst.storeS (i := 7) rfl rfl rfl rfl rfl Try.sizeOf4 (vs := [.bool y66]) rfl rfl (by decide) rfl (xs' := encs ((rs11.set x24.To.toNat (DoorR.mk ({ x49 with Yes := x49.Yes ||| ((1 : BitVec 8) <<< n55) } : Door) r52h4)).set x24.To.toNat (DoorR.mk ({ x77 with In := y66 } : Door) r80h4))) ((Put.elemN (s := 5) (x := DoorR.mk x77 r80h4) (y := (DoorR.mk ({ x77 with In := y66 } : Door) r80h4)) rfl r80g (DoorR.put_In (p := DoorR.mk x77 r80h4) (Put.here (vs := [.bool y66]) rfl))).off (by omega)) (L' := (.own s45 209 3 (encs r43)) :: (.own s39 112 1 (encs ([(LR.mk m29 (s_a0_1.cut (0 : Int).toNat (a1 : Int).toNat 3)), (LR.mk m34 (s_a0_1.cut (w64 (a1 + (1 : Int)) : Int).toNat ((a0.Way.length : Int) : Int).toNat 3))] : List (LR Word)))) :: (.blk b27 (enc x24) 209) :: (.blk b22 (enc (EnterR.mk ({ r8 with Doors := p81, Way := r43 } : Enter) s10 s45)) 114) :: (.own Sl.nil 209 3 (encs ([] : List Word))) :: (.own Sl.nil 204 5 (encs ([] : List DoorR))) :: (.rows (α := Int) 3 (List.map DoorR.row (rs11.set x24.To.toNat (DoorR.mk ({ x49 with Yes := x49.Yes ||| ((1 : BitVec 8) <<< n55) } : Door) r52h4)))) :: (.own s10 204 5 (encs ((rs11.set x24.To.toNat (DoorR.mk ({ x49 with Yes := x49.Yes ||| ((1 : BitVec 8) <<< n55) } : Door) r52h4)).set x24.To.toNat (DoorR.mk ({ x77 with In := y66 } : Door) r80h4)))) :: (.own s15 209 3 (encs r8.Way)) :: (.blk b6 (enc (EnterR.mk ({ Enter.zero with Doors := ([] : List Door), Way := ([] : List Word) } : Enter) Sl.nil Sl.nil)) 114) :: (.own Sl.nil 209 3 (encs ([] : List Word))) :: (.own Sl.nil 204 5 (encs ([] : List DoorR))) :: (.blk b1 (enc (EnterR.mk a0 s_a0_0 s_a0_1)) 114) :: L) rfl ?_
  refine Lst.its (L' := (.own s45 209 3 (encs r43)) :: (.own s39 112 1 (encs ([(LR.mk m29 (s_a0_1.cut (0 : Int).toNat (a1 : Int).toNat 3)), (LR.mk m34 (s_a0_1.cut (w64 (a1 + (1 : Int)) : Int).toNat ((a0.Way.length : Int) : Int).toNat 3))] : List (LR Word)))) :: (.blk b27 (enc x24) 209) :: (.blk b22 (enc (EnterR.mk ({ r8 with Doors := p81, Way := r43 } : Enter) s10 s45)) 114) :: (.own Sl.nil 209 3 (encs ([] : List Word))) :: (.own Sl.nil 204 5 (encs ([] : List DoorR))) :: (.rows (α := Int) 3 (List.map DoorR.row ((rs11.set x24.To.toNat (DoorR.mk ({ x49 with Yes := x49.Yes ||| ((1 : BitVec 8) <<< n55) } : Door) r52h4)).set x24.To.toNat (DoorR.mk ({ x77 with In := y66 } : Door) r80h4)))) :: (.own s10 204 5 (encs ((rs11.set x24.To.toNat (DoorR.mk ({ x49 with Yes := x49.Yes ||| ((1 : BitVec 8) <<< n55) } : Door) r52h4)).set x24.To.toNat (DoorR.mk ({ x77 with In := y66 } : Door) r80h4)))) :: (.own s15 209 3 (encs r8.Way)) :: (.blk b6 (enc (EnterR.mk ({ Enter.zero with Doors := ([] : List Door), Way := ([] : List Word) } : Enter) Sl.nil Sl.nil)) 114) :: (.own Sl.nil 209 3 (encs ([] : List Word))) :: (.own Sl.nil 204 5 (encs ([] : List DoorR))) :: (.blk b1 (enc (EnterR.mk a0 s_a0_0 s_a0_1)) 114) :: L) (by rw [map_set_same (y := (DoorR.mk ({ x77 with In := y66 } : Door) r80h4)) r80g rfl]) ?_
  refine Lst.nil ?_
  refine At.then ?_
  refine Cd.seq ?_
  refine Cd.region ?_
  refine Lst.r (Ev.loadA (i := 3) rfl rfl Try.isAgg114 Try.sizeOf114 (ch := enc (EnterR.mk ({ r8 with Doors := p81, Way := r43 } : Enter) s10 s45)) (Enc.len _) (Get.here _)) ?_
  refine Lst.store (i := 9) rfl rfl rfl rfl rfl Try.sizeOf114 (vs := enc (EnterR.mk ({ r8 with Doors := p81, Way := r43 } : Enter) s10 s45)) rfl (Enc.len _) (Enc.one _) (cs' := enc (EnterR.mk ({ r8 with Doors := p81, Way := r43 } : Enter) s10 s45)) (Put.here ((Enc.len _).trans (Enc.len _).symm)) (L' := (.own s45 209 3 (encs r43)) :: (.own s39 112 1 (encs ([(LR.mk m29 (s_a0_1.cut (0 : Int).toNat (a1 : Int).toNat 3)), (LR.mk m34 (s_a0_1.cut (w64 (a1 + (1 : Int)) : Int).toNat ((a0.Way.length : Int) : Int).toNat 3))] : List (LR Word)))) :: (.blk b27 (enc x24) 209) :: (.blk b22 (enc (EnterR.mk ({ r8 with Doors := p81, Way := r43 } : Enter) s10 s45)) 114) :: (.own Sl.nil 209 3 (encs ([] : List Word))) :: (.own Sl.nil 204 5 (encs ([] : List DoorR))) :: (.rows (α := Int) 3 (List.map DoorR.row ((rs11.set x24.To.toNat (DoorR.mk ({ x49 with Yes := x49.Yes ||| ((1 : BitVec 8) <<< n55) } : Door) r52h4)).set x24.To.toNat (DoorR.mk ({ x77 with In := y66 } : Door) r80h4)))) :: (.own s10 204 5 (encs ((rs11.set x24.To.toNat (DoorR.mk ({ x49 with Yes := x49.Yes ||| ((1 : BitVec 8) <<< n55) } : Door) r52h4)).set x24.To.toNat (DoorR.mk ({ x77 with In := y66 } : Door) r80h4)))) :: (.own s15 209 3 (encs r8.Way)) :: (.blk b6 (enc (EnterR.mk ({ r8 with Doors := p81, Way := r43 } : Enter) s10 s45)) 114) :: (.own Sl.nil 209 3 (encs ([] : List Word))) :: (.own Sl.nil 204 5 (encs ([] : List DoorR))) :: (.blk b1 (enc (EnterR.mk a0 s_a0_0 s_a0_1)) 114) :: L) rfl ?_
  refine Lst.nil ?_
  refine At.then ?_
  obtain rfl := some_inj H
  refine Cd.ret ?_
  refine At.then_ret ?_
  refine At.front (i := 7) rfl rfl ?_
  refine At.front (i := 7) rfl (L' := (.rows (α := Int) 3 (List.map DoorR.row ((rs11.set x24.To.toNat (DoorR.mk ({ x49 with Yes := x49.Yes ||| ((1 : BitVec 8) <<< n55) } : Door) r52h4)).set x24.To.toNat (DoorR.mk ({ x77 with In := y66 } : Door) r80h4)))) :: (.own s10 204 5 (encs ((rs11.set x24.To.toNat (DoorR.mk ({ x49 with Yes := x49.Yes ||| ((1 : BitVec 8) <<< n55) } : Door) r52h4)).set x24.To.toNat (DoorR.mk ({ x77 with In := y66 } : Door) r80h4)))) :: (.own s45 209 3 (encs r43)) :: (.own s39 112 1 (encs ([(LR.mk m29 (s_a0_1.cut (0 : Int).toNat (a1 : Int).toNat 3)), (LR.mk m34 (s_a0_1.cut (w64 (a1 + (1 : Int)) : Int).toNat ((a0.Way.length : Int) : Int).toNat 3))] : List (LR Word)))) :: (.blk b27 (enc x24) 209) :: (.blk b22 (enc (EnterR.mk ({ r8 with Doors := p81, Way := r43 } : Enter) s10 s45)) 114) :: (.own Sl.nil 209 3 (encs ([] : List Word))) :: (.own Sl.nil 204 5 (encs ([] : List DoorR))) :: (.own s15 209 3 (encs r8.Way)) :: (.blk b6 (enc (EnterR.mk ({ r8 with Doors := p81, Way := r43 } : Enter) s10 s45)) 114) :: (.own Sl.nil 209 3 (encs ([] : List Word))) :: (.own Sl.nil 204 5 (encs ([] : List DoorR))) :: (.blk b1 (enc (EnterR.mk a0 s_a0_0 s_a0_1)) 114) :: L) rfl ?_
  exact At.ret1 rfl (Res.cellA (i := 9) rfl rfl Try.isAgg114 Try.sizeOf114 (Enc.len _)) (FLe.trans hF18 hF48) (sk1 (sk1 (sk1 (sc1 (sc1 (sc1 (sc1 (sc1 (sc1 (sc1 (sc1 (sc1 (sc1 (.refl _)))))))))))))) ⟨s10, ((rs11.set x24.To.toNat (DoorR.mk ({ x49 with Yes := x49.Yes ||| ((1 : BitVec 8) <<< n55) } : Door) r52h4)).set x24.To.toNat (DoorR.mk ({ x77 with In := y66 } : Door) r80h4)), s45, rfl, rfl, hm83⟩
 replace H := ite_f hb53 H
 refine Cd.condF rfl hb53 ?_
 refine Cd.skip ?_
 refine At.then ?_
 refine Cd.seq ?_
 refine Cd.quiet (by kernel_rfl) (by kernel_rfl) ?_
 refine Qt.r (Ev.move rfl) ?_
 refine Qt.r (Ev.nilCheckS (α := DoorR) rfl (Rd.own (i := 7) rfl rfl rfl) ((Get.elemN (s := 5) rfl r52g (Get.here _)).off (by omega)) rfl) ?_
 refine Qt.r (Ev.fieldS (α := DoorR) (f' := x24.To.toNat * 5 + 1) rfl (Rd.own (i := 7) rfl rfl rfl) ((Get.elemN (s := 5) rfl r52g (Get.here _)).off (by omega)) rfl Try.runUnderlying204 rfl Try.sizeOf3 rfl rfl rfl) ?_
 refine Qt.r (Ev.loadS (α := DoorR) rfl (Rd.own (i := 7) rfl rfl rfl) Try.isAgg3 (v := iv x49.Wish) ((Get.elemN (s := 5) rfl r52g (DoorR.get_Wish (Get.here _))).off (by omega))) ?_
 refine Qt.r (Ev.neq rfl rfl) ?_
 refine Qt.r (Ev.move rfl) ?_
 obtain ⟨o84, H, HKo84⟩ := bind_some H
 refine Qt.join (σ := Bool) 24 (fun y85 => [(4, pv b6 0), (5, pv b22 0), (6, pv b27 0), (7, Sl.at s10 (x24.To.toNat * 5)), (102, .bool y85)]) (fun y85 => y85 = o84) ?_ ?_
 ·rcases (Bool.eq_false_or_eq_true (x49.Wish != (0 : Int))).symm with hb86 | hb86
  ·replace H := ite_f hb86 H
   refine Qt.skip rfl rfl rfl hb86 rfl (by decide) ?_
   refine Qt.skip rfl rfl rfl hb86 rfl (by decide) ?_
   refine Qt.skip rfl rfl rfl hb86 rfl (by decide) ?_
   refine Qt.skip rfl rfl rfl hb86 rfl (by decide) ?_
   refine Qt.skip rfl rfl rfl hb86 rfl (by decide) ?_
   refine Qt.skip rfl rfl rfl hb86 rfl (by decide) ?_
   refine Qt.skip rfl rfl rfl hb86 rfl (by decide) ?_
   refine Qt.skip rfl rfl rfl hb86 rfl (by decide) ?_
   refine Qt.skipU rfl rfl rfl rfl (by decide) ?_
   refine Qt.skipU rfl rfl rfl rfl (by decide) ?_
   refine Qt.skipU rfl rfl rfl rfl (by decide) ?_
   refine Qt.skipU rfl rfl rfl rfl (by decide) ?_
   refine Qt.skipU rfl rfl rfl rfl (by decide) ?_
   refine Qt.skipU rfl rfl rfl rfl (by decide) ?_
   refine Qt.skipU rfl rfl rfl rfl (by decide) ?_
   refine Qt.skipU rfl rfl rfl rfl (by decide) ?_
   refine Qt.skipU rfl rfl rfl rfl (by decide) ?_
   refine Qt.skipU rfl rfl rfl rfl (by decide) ?_
   refine Qt.skipU rfl rfl rfl rfl (by decide) ?_
   refine Qt.skipU rfl rfl rfl rfl (by decide) ?_
   refine Qt.skipU rfl rfl rfl rfl (by decide) ?_
   refine Qt.skipU rfl rfl rfl rfl (by decide) ?_
   refine Qt.skip rfl rfl rfl hb86 rfl (by decide) ?_
   refine Qt.r (Ev.pickF rfl hb86 rfl) ?_
   exact Qt.meet false ⟨rfl, rfl, rfl, rfl, rfl, trivial⟩ (some_inj H)
  replace H := ite_t hb86 H
  refine Qt.rG hb86 (Ev.move rfl) ?_
  refine Qt.rG hb86 (Ev.nilCheckS (α := DoorR) rfl (Rd.own (i := 7) rfl rfl rfl) ((Get.elemN (s := 5) rfl r52g (Get.here _)).off (by omega)) rfl) ?_
  refine Qt.rG hb86 (Ev.fieldS (α := DoorR) (f' := x24.To.toNat * 5 + 1) rfl (Rd.own (i := 7) rfl rfl rfl) ((Get.elemN (s := 5) rfl r52g (Get.here _)).off (by omega)) rfl Try.runUnderlying204 rfl Try.sizeOf3 rfl rfl rfl) ?_
  refine Qt.rG hb86 (Ev.loadS (α := DoorR) rfl (Rd.own (i := 7) rfl rfl rfl) Try.isAgg3 (v := iv x49.Wish) ((Get.elemN (s := 5) rfl r52g (DoorR.get_Wish (Get.here _))).off (by omega))) ?_
  refine Qt.rG hb86 (Ev.fieldAddr (off' := 2) rfl Try.runUnderlying209 rfl Try.sizeOf3 rfl rfl) ?_
  refine Qt.rG hb86 (Ev.load (i := 2) rfl rfl Try.isAgg3 (v := iv x24.At) ((Word.get_At (Get.here _)).off (by rfl))) ?_
  refine Qt.rG hb86 (Ev.lss rfl rfl) ?_
  refine Qt.rG hb86 (Ev.move rfl) ?_
  obtain ⟨o87, H, HKo87⟩ := bind_some H
  refine Qt.join (σ := Bool) 15 (fun y88 => [(4, pv b6 0), (5, pv b22 0), (6, pv b27 0), (7, Sl.at s10 (x24.To.toNat * 5)), (78, .bool (x49.Wish != (0 : Int))), (101, .bool y88)]) (fun y88 => y88 = o87) ?_ ?_
  ·rcases Bool.eq_false_or_eq_true (decide (x49.Wish < x24.At)) with hb89 | hb89
   ·replace H := ite_t hb89 H
    refine Qt.skip rfl rfl rfl hb89 rfl (by decide) ?_
    refine Qt.skip rfl rfl rfl hb89 rfl (by decide) ?_
    refine Qt.skip rfl rfl rfl hb89 rfl (by decide) ?_
    refine Qt.skip rfl rfl rfl hb89 rfl (by decide) ?_
    refine Qt.skip rfl rfl rfl hb89 rfl (by decide) ?_
    refine Qt.skip rfl rfl rfl hb89 rfl (by decide) ?_
    refine Qt.skip rfl rfl rfl hb89 rfl (by decide) ?_
    refine Qt.skip rfl rfl rfl hb89 rfl (by decide) ?_
    refine Qt.skipU rfl rfl rfl rfl (by decide) ?_
    refine Qt.skipU rfl rfl rfl rfl (by decide) ?_
    refine Qt.skipU rfl rfl rfl rfl (by decide) ?_
    refine Qt.skipU rfl rfl rfl rfl (by decide) ?_
    refine Qt.skipU rfl rfl rfl rfl (by decide) ?_
    refine Qt.skip rfl rfl rfl hb89 rfl (by decide) ?_
    refine Qt.rG hb86 (Ev.pickT rfl hb89 rfl) ?_
    exact Qt.meet true ⟨rfl, rfl, rfl, rfl, rfl, rfl, trivial⟩ (some_inj H)
   replace H := ite_f hb89 H
   refine Qt.rG hb89 (Ev.move rfl) ?_
   refine Qt.rG hb89 (Ev.nilCheckS (α := DoorR) rfl (Rd.own (i := 7) rfl rfl rfl) ((Get.elemN (s := 5) rfl r52g (Get.here _)).off (by omega)) rfl) ?_
   refine Qt.rG hb89 (Ev.fieldS (α := DoorR) (f' := x24.To.toNat * 5 + 1) rfl (Rd.own (i := 7) rfl rfl rfl) ((Get.elemN (s := 5) rfl r52g (Get.here _)).off (by omega)) rfl Try.runUnderlying204 rfl Try.sizeOf3 rfl rfl rfl) ?_
   refine Qt.rG hb89 (Ev.loadS (α := DoorR) rfl (Rd.own (i := 7) rfl rfl rfl) Try.isAgg3 (v := iv x49.Wish) ((Get.elemN (s := 5) rfl r52g (DoorR.get_Wish (Get.here _))).off (by omega))) ?_
   refine Qt.rG hb89 (Ev.fieldAddr (off' := 2) rfl Try.runUnderlying209 rfl Try.sizeOf3 rfl rfl) ?_
   refine Qt.rG hb89 (Ev.load (i := 2) rfl rfl Try.isAgg3 (v := iv x24.At) ((Word.get_At (Get.here _)).off (by rfl))) ?_
   refine Qt.rG hb89 (Ev.eql rfl rfl) ?_
   refine Qt.rG hb89 (Ev.move rfl) ?_
   obtain ⟨o90, H, HKo90⟩ := bind_some H
   refine Qt.join (σ := Bool) 6 (fun y91 => [(4, pv b6 0), (5, pv b22 0), (6, pv b27 0), (7, Sl.at s10 (x24.To.toNat * 5)), (78, .bool (x49.Wish != (0 : Int))), (86, .bool (decide (x49.Wish < x24.At))), (100, .bool y91)]) (fun y91 => y91 = o90) ?_ ?_
   ·rcases (Bool.eq_false_or_eq_true (x49.Wish == x24.At)).symm with hb92 | hb92
    ·replace H := ite_f hb92 H
     refine Qt.skip rfl rfl rfl hb92 rfl (by decide) ?_
     refine Qt.skip rfl rfl rfl hb92 rfl (by decide) ?_
     refine Qt.skip rfl rfl rfl hb92 rfl (by decide) ?_
     refine Qt.skip rfl rfl rfl hb92 rfl (by decide) ?_
     refine Qt.skip rfl rfl rfl hb92 rfl (by decide) ?_
     refine Qt.rG hb89 (Ev.pickF rfl hb92 rfl) ?_
     exact Qt.meet false ⟨rfl, rfl, rfl, rfl, rfl, rfl, rfl, trivial⟩ (some_inj H)
    replace H := ite_t hb92 H
    refine Qt.rG hb92 (Ev.fieldAddr (off' := 1) rfl Try.runUnderlying209 rfl Try.sizeOf3 rfl rfl) ?_
    refine Qt.rG hb92 (Ev.load (i := 2) rfl rfl Try.isAgg3 (v := iv x24.To) ((Word.get_To (Get.here _)).off (by rfl))) ?_
    refine Qt.rG hb92 (Ev.fieldAddr (off' := 0) rfl Try.runUnderlying209 rfl Try.sizeOf3 rfl rfl) ?_
    refine Qt.rG hb92 (Ev.load (i := 2) rfl rfl Try.isAgg3 (v := iv x24.From) ((Word.get_From (Get.here _)).off (by rfl))) ?_
    refine Qt.rG hb92 (Ev.lss rfl rfl) ?_
    refine Qt.rG hb89 (Ev.pickT rfl hb92 rfl) ?_
    exact Qt.meet (decide (x24.To < x24.From)) ⟨rfl, rfl, rfl, rfl, rfl, rfl, rfl, trivial⟩ (some_inj H)
   rintro y91 hy
   subst hy
   refine Qt.as (e' := [(4, pv b6 0), (5, pv b22 0), (6, pv b27 0), (7, Sl.at s10 (x24.To.toNat * 5)), (78, .bool (x49.Wish != (0 : Int))), (86, .bool (decide (x49.Wish < x24.At))), (100, .bool y91)]) ⟨rfl, rfl, rfl, rfl, rfl, rfl, rfl, trivial⟩ ?_
   replace H := HKo90
   refine Qt.rG hb86 (Ev.pickF rfl hb89 rfl) ?_
   exact Qt.meet y91 ⟨rfl, rfl, rfl, rfl, rfl, rfl, trivial⟩ (some_inj H)
  rintro y88 hy
  subst hy
  refine Qt.as (e' := [(4, pv b6 0), (5, pv b22 0), (6, pv b27 0), (7, Sl.at s10 (x24.To.toNat * 5)), (78, .bool (x49.Wish != (0 : Int))), (101, .bool y88)]) ⟨rfl, rfl, rfl, rfl, rfl, rfl, trivial⟩ ?_
  replace H := HKo87
  refine Qt.r (Ev.pickT rfl hb86 rfl) ?_
  exact Qt.meet y88 ⟨rfl, rfl, rfl, rfl, rfl, trivial⟩ (some_inj H)
 rintro y85 hy
 subst hy
 refine Qt.as (e' := [(4, pv b6 0), (5, pv b22 0), (6, pv b27 0), (7, Sl.at s10 (x24.To.toNat * 5)), (102, .bool y85)]) ⟨rfl, rfl, rfl, rfl, rfl, trivial⟩ ?_
 replace H := HKo84
 refine Qt.r (Ev.assign rfl) ?_
 refine Qt.done ?_
 refine At.then ?_
 refine Cd.seq ?_
 refine Cd.tail 10 (by kernel_rfl) (by kernel_rfl) ?_
 refine Qt.r (Ev.move rfl) ?_
 refine Qt.r (Ev.fieldAddr (off' := 2) rfl Try.runUnderlying209 rfl Try.sizeOf3 rfl rfl) ?_
 refine Qt.r (Ev.load (i := 2) rfl rfl Try.isAgg3 (v := iv x24.At) ((Word.get_At (Get.here _)).off (by rfl))) ?_
 refine Qt.r (Ev.move rfl) ?_
 refine Qt.r (Ev.nilCheckS (α := DoorR) rfl (Rd.own (i := 7) rfl rfl rfl) ((Get.elemN (s := 5) rfl r52g (Get.here _)).off (by omega)) rfl) ?_
 refine Qt.r (Ev.fieldS (α := DoorR) (f' := x24.To.toNat * 5 + 0) rfl (Rd.own (i := 7) rfl rfl rfl) ((Get.elemN (s := 5) rfl r52g (Get.here _)).off (by omega)) rfl Try.runUnderlying204 rfl Try.sizeOf3 rfl rfl rfl) ?_
 refine Qt.r (Ev.loadS (α := DoorR) rfl (Rd.own (i := 7) rfl rfl rfl) Try.isAgg3 (v := iv x49.Clock) ((Get.elemN (s := 5) rfl r52g (DoorR.get_Clock (Get.here _))).off (by omega))) ?_
 refine Qt.r (Ev.max2 rfl rfl) ?_
 refine Qt.r (Ev.nilCheckS (α := DoorR) rfl (Rd.own (i := 7) rfl rfl rfl) ((Get.elemN (s := 5) rfl r52g (Get.here _)).off (by omega)) rfl) ?_
 refine Qt.r (Ev.fieldS (α := DoorR) (f' := x24.To.toNat * 5 + 0) rfl (Rd.own (i := 7) rfl rfl rfl) ((Get.elemN (s := 5) rfl r52g (Get.here _)).off (by omega)) rfl Try.runUnderlying204 rfl Try.sizeOf3 rfl rfl rfl) ?_
 refine Qt.tail ?_
 obtain ⟨p93, h94, H⟩ := Let_some H
 have hm95 : (rs11.set x24.To.toNat (DoorR.mk ({ x49 with Clock := max x24.At x49.Clock } : Door) r52h4)).map DoorR.v = p93 := (map_set fm12 _ _).trans h94
 refine Lst.storeS (i := 7) rfl rfl rfl rfl rfl Try.sizeOf3 (vs := [iv (max x24.At x49.Clock)]) rfl rfl (by decide) rfl (xs' := encs (rs11.set x24.To.toNat (DoorR.mk ({ x49 with Clock := max x24.At x49.Clock } : Door) r52h4))) ((Put.elemN (s := 5) (x := DoorR.mk x49 r52h4) (y := (DoorR.mk ({ x49 with Clock := max x24.At x49.Clock } : Door) r52h4)) rfl r52g (DoorR.put_Clock (p := DoorR.mk x49 r52h4) (Put.here (vs := [iv (max x24.At x49.Clock)]) rfl))).off (by omega)) (L' := (.own s45 209 3 (encs r43)) :: (.own s39 112 1 (encs ([(LR.mk m29 (s_a0_1.cut (0 : Int).toNat (a1 : Int).toNat 3)), (LR.mk m34 (s_a0_1.cut (w64 (a1 + (1 : Int)) : Int).toNat ((a0.Way.length : Int) : Int).toNat 3))] : List (LR Word)))) :: (.blk b27 (enc x24) 209) :: (.blk b22 (enc (EnterR.mk ({ r8 with Doors := p93, Way := r43 } : Enter) s10 s45)) 114) :: (.own Sl.nil 209 3 (encs ([] : List Word))) :: (.own Sl.nil 204 5 (encs ([] : List DoorR))) :: (.rows (α := Int) 3 (List.map DoorR.row rs11)) :: (.own s10 204 5 (encs (rs11.set x24.To.toNat (DoorR.mk ({ x49 with Clock := max x24.At x49.Clock } : Door) r52h4)))) :: (.own s15 209 3 (encs r8.Way)) :: (.blk b6 (enc (EnterR.mk ({ Enter.zero with Doors := ([] : List Door), Way := ([] : List Word) } : Enter) Sl.nil Sl.nil)) 114) :: (.own Sl.nil 209 3 (encs ([] : List Word))) :: (.own Sl.nil 204 5 (encs ([] : List DoorR))) :: (.blk b1 (enc (EnterR.mk a0 s_a0_0 s_a0_1)) 114) :: L) rfl ?_
 refine Lst.its (L' := (.own s45 209 3 (encs r43)) :: (.own s39 112 1 (encs ([(LR.mk m29 (s_a0_1.cut (0 : Int).toNat (a1 : Int).toNat 3)), (LR.mk m34 (s_a0_1.cut (w64 (a1 + (1 : Int)) : Int).toNat ((a0.Way.length : Int) : Int).toNat 3))] : List (LR Word)))) :: (.blk b27 (enc x24) 209) :: (.blk b22 (enc (EnterR.mk ({ r8 with Doors := p93, Way := r43 } : Enter) s10 s45)) 114) :: (.own Sl.nil 209 3 (encs ([] : List Word))) :: (.own Sl.nil 204 5 (encs ([] : List DoorR))) :: (.rows (α := Int) 3 (List.map DoorR.row (rs11.set x24.To.toNat (DoorR.mk ({ x49 with Clock := max x24.At x49.Clock } : Door) r52h4)))) :: (.own s10 204 5 (encs (rs11.set x24.To.toNat (DoorR.mk ({ x49 with Clock := max x24.At x49.Clock } : Door) r52h4)))) :: (.own s15 209 3 (encs r8.Way)) :: (.blk b6 (enc (EnterR.mk ({ Enter.zero with Doors := ([] : List Door), Way := ([] : List Word) } : Enter) Sl.nil Sl.nil)) 114) :: (.own Sl.nil 209 3 (encs ([] : List Word))) :: (.own Sl.nil 204 5 (encs ([] : List DoorR))) :: (.blk b1 (enc (EnterR.mk a0 s_a0_0 s_a0_1)) 114) :: L) (by rw [map_set_same (y := (DoorR.mk ({ x49 with Clock := max x24.At x49.Clock } : Door) r52h4)) r52g rfl]) ?_
 refine Lst.nil ?_
 refine At.then ?_
 obtain ⟨o102, H, HKo102⟩ := bind_some H
 refine Cd.join (σ := Enter × Sl × (List Word) × (List Door) × (List DoorR)) (fun (y96, s97, l98, l99, rs100) => [(4, pv b6 0), (5, pv b22 0)]) (fun (y96, s97, l98, l99, rs100) => (.own s97 209 3 (encs l98)) :: (.own s39 112 1 (encs ([(LR.mk m29 (s_a0_1.cut (0 : Int).toNat (a1 : Int).toNat 3)), (LR.mk m34 (s_a0_1.cut (w64 (a1 + (1 : Int)) : Int).toNat ((a0.Way.length : Int) : Int).toNat 3))] : List (LR Word)))) :: (.blk b27 (enc x24) 209) :: (.blk b22 (enc (EnterR.mk ({ y96 with Doors := l99, Way := l98 } : Enter) s10 s97)) 114) :: (.own Sl.nil 209 3 (encs ([] : List Word))) :: (.own Sl.nil 204 5 (encs ([] : List DoorR))) :: (.rows (α := Int) 3 (List.map DoorR.row rs100)) :: (.own s10 204 5 (encs rs100)) :: (.own s15 209 3 (encs r8.Way)) :: (.blk b6 (enc (EnterR.mk ({ Enter.zero with Doors := ([] : List Door), Way := ([] : List Word) } : Enter) Sl.nil Sl.nil)) 114) :: (.own Sl.nil 209 3 (encs ([] : List Word))) :: (.own Sl.nil 204 5 (encs ([] : List DoorR))) :: (.blk b1 (enc (EnterR.mk a0 s_a0_0 s_a0_1)) 114) :: L) (fun Fx (y96, s97, l98, l99, rs100) => (y96, l98, l99) = o102 ∧ rs100.map DoorR.v = l99) ?_ ?_
 ·refine Cd.block ?_
  refine Cd.seq ?_
  refine Cd.region ?_
  refine Lst.r (Ev.move rfl) ?_
  obtain ⟨x103, h104, H⟩ := bind_some H
  have g105 := lat_some h104
  obtain ⟨⟨r106v, r106h4⟩, r106g, r106e, r106m⟩ := map_get hm95 g105.2.2
  obtain rfl : x103 = r106v := r106e.symm
  have r106wg := map_at DoorR.row r106g
  refine Lst.r (Ev.nilCheckS (α := DoorR) rfl (Rd.own (i := 7) rfl rfl rfl) ((Get.elemN (s := 5) rfl r106g (Get.here _)).off (by omega)) rfl) ?_
  refine Lst.r (Ev.fieldS (α := DoorR) (f' := x24.To.toNat * 5 + 3) rfl (Rd.own (i := 7) rfl rfl rfl) ((Get.elemN (s := 5) rfl r106g (Get.here _)).off (by omega)) rfl Try.runUnderlying204 rfl Try.sizeOf4 rfl rfl rfl) ?_
  refine Lst.r (Ev.loadS (α := DoorR) rfl (Rd.own (i := 7) rfl rfl rfl) Try.isAgg4 (v := .bool x103.In) ((Get.elemN (s := 5) rfl r106g (DoorR.get_In (Get.here _))).off (by omega))) ?_
  refine Lst.r (Ev.not rfl) ?_
  refine Lst.r (Ev.move rfl) ?_
  obtain ⟨o107, H, HKo107⟩ := bind_some H
  refine Lst.join (σ := Bool) 3 (fun y108 => [(4, pv b6 0), (5, pv b22 0), (6, pv b27 0), (7, Sl.at s10 (x24.To.toNat * 5)), (122, .bool y108)]) (fun y108 => (.own s45 209 3 (encs r43)) :: (.own s39 112 1 (encs ([(LR.mk m29 (s_a0_1.cut (0 : Int).toNat (a1 : Int).toNat 3)), (LR.mk m34 (s_a0_1.cut (w64 (a1 + (1 : Int)) : Int).toNat ((a0.Way.length : Int) : Int).toNat 3))] : List (LR Word)))) :: (.blk b27 (enc x24) 209) :: (.blk b22 (enc (EnterR.mk ({ r8 with Doors := p93, Way := r43 } : Enter) s10 s45)) 114) :: (.own Sl.nil 209 3 (encs ([] : List Word))) :: (.own Sl.nil 204 5 (encs ([] : List DoorR))) :: (.rows (α := Int) 3 (List.map DoorR.row (rs11.set x24.To.toNat (DoorR.mk ({ x49 with Clock := max x24.At x49.Clock } : Door) r52h4)))) :: (.own s10 204 5 (encs (rs11.set x24.To.toNat (DoorR.mk ({ x49 with Clock := max x24.At x49.Clock } : Door) r52h4)))) :: (.own s15 209 3 (encs r8.Way)) :: (.blk b6 (enc (EnterR.mk ({ Enter.zero with Doors := ([] : List Door), Way := ([] : List Word) } : Enter) Sl.nil Sl.nil)) 114) :: (.own Sl.nil 209 3 (encs ([] : List Word))) :: (.own Sl.nil 204 5 (encs ([] : List DoorR))) :: (.blk b1 (enc (EnterR.mk a0 s_a0_0 s_a0_1)) 114) :: L) (fun _ y108 => y108 = o107) ?_ ?_
  ·rcases (Bool.eq_false_or_eq_true (!x103.In)).symm with hb109 | hb109
   ·replace H := ite_f hb109 H
    refine Lst.skip rfl rfl rfl hb109 rfl (by decide) ?_
    refine Lst.skip rfl rfl rfl hb109 rfl (by decide) ?_
    refine Lst.r (Ev.pickF rfl hb109 rfl) ?_
    refine Lst.nil ?_
    exact At.meet false (FLe.refl _) ⟨rfl, rfl, rfl, rfl, rfl, trivial⟩ rfl (some_inj H)
   replace H := ite_t hb109 H
   refine Lst.rG hb109 (Ev.move rfl) ?_
   refine Lst.rG hb109 (Ev.not rfl) ?_
   refine Lst.r (Ev.pickT rfl hb109 rfl) ?_
   refine Lst.nil ?_
   exact At.meet (!y85) (FLe.refl _) ⟨rfl, rfl, rfl, rfl, rfl, trivial⟩ rfl (some_inj H)
  rintro F110 y108 hF111 hy
  subst hy
  refine Lst.as (e' := [(4, pv b6 0), (5, pv b22 0), (6, pv b27 0), (7, Sl.at s10 (x24.To.toNat * 5)), (122, .bool y108)]) (L' := (.own s45 209 3 (encs r43)) :: (.own s39 112 1 (encs ([(LR.mk m29 (s_a0_1.cut (0 : Int).toNat (a1 : Int).toNat 3)), (LR.mk m34 (s_a0_1.cut (w64 (a1 + (1 : Int)) : Int).toNat ((a0.Way.length : Int) : Int).toNat 3))] : List (LR Word)))) :: (.blk b27 (enc x24) 209) :: (.blk b22 (enc (EnterR.mk ({ r8 with Doors := p93, Way := r43 } : Enter) s10 s45)) 114) :: (.own Sl.nil 209 3 (encs ([] : List Word))) :: (.own Sl.nil 204 5 (encs ([] : List DoorR))) :: (.rows (α := Int) 3 (List.map DoorR.row (rs11.set x24.To.toNat (DoorR.mk ({ x49 with Clock := max x24.At x49.Clock } : Door) r52h4)))) :: (.own s10 204 5 (encs (rs11.set x24.To.toNat (DoorR.mk ({ x49 with Clock := max x24.At x49.Clock } : Door) r52h4)))) :: (.own s15 209 3 (encs r8.Way)) :: (.blk b6 (enc (EnterR.mk ({ Enter.zero with Doors := ([] : List Door), Way := ([] : List Word) } : Enter) Sl.nil Sl.nil)) 114) :: (.own Sl.nil 209 3 (encs ([] : List Word))) :: (.own Sl.nil 204 5 (encs ([] : List DoorR))) :: (.blk b1 (enc (EnterR.mk a0 s_a0_0 s_a0_1)) 114) :: L) ⟨rfl, rfl, rfl, rfl, rfl, trivial⟩ rfl ?_
  replace H := HKo107
  refine Lst.r (Ev.assign rfl) ?_
  refine Lst.nil ?_
  refine At.then ?_
  rcases Bool.eq_false_or_eq_true y108 with hb112 | hb112
  ·replace H := ite_t hb112 H
   refine Cd.condT rfl hb112 ?_
   refine Cd.region ?_
   refine Lst.r (Ev.fieldAddr (off' := 1) rfl Try.runUnderlying114 rfl Try.sizeOf112 rfl rfl) ?_
   refine Lst.r (Ev.load (i := 3) rfl rfl Try.isAgg112 (v := Sl.v s45) ((EnterR.get_Way (Get.here _)).off (by rfl))) ?_
   refine Lst.r (Ev.fieldAddr (off' := 1) rfl Try.runUnderlying209 rfl Try.sizeOf3 rfl rfl) ?_
   refine Lst.r (Ev.load (i := 2) rfl rfl Try.isAgg3 (v := iv x24.To) ((Word.get_To (Get.here _)).off (by rfl))) ?_
   refine Lst.r (Ev.fieldAddr (off' := 0) rfl Try.runUnderlying209 rfl Try.sizeOf3 rfl rfl) ?_
   refine Lst.r (Ev.load (i := 2) rfl rfl Try.isAgg3 (v := iv x24.From) ((Word.get_From (Get.here _)).off (by rfl))) ?_
   refine Lst.r (Ev.build (v := .agg (enc ({ Word.zero with From := x24.To, To := x24.From } : Word)).toArray) (pv := [(0, iv x24.To), (1, iv x24.From)]) ⟨rfl, rfl, ⟨rfl, rfl, trivial⟩⟩ (fun w => by kernel_rfl)) ?_
   refine Lst.buildSlice (α := Word) (xs := ([({ Word.zero with From := x24.To, To := x24.From } : Word)] : List Word)) (pv := [(0, .agg (enc ({ Word.zero with From := x24.To, To := x24.From } : Word)).toArray)]) rfl rfl (by decide) ⟨rfl, rfl, trivial⟩ (run_buildSlice (α := Word) (z0 := Word.zero) (xs := ([({ Word.zero with From := x24.To, To := x24.From } : Word)] : List Word)) Try.runUnderlying112 Try.sizeOf209 Try.zeroValue209 rfl rfl rfl (by decide) rfl (fill_cons (cs := encs (List.replicate 1 Word.zero)) (cs' := encs ((List.replicate 1 Word.zero).set 0 ({ Word.zero with From := x24.To, To := x24.From } : Word))) (vs := enc ({ Word.zero with From := x24.To, To := x24.From } : Word)) rfl rfl (Enc.len _) ((Put.elemN (s := 3) (i := 0) (x := Word.zero) (y := ({ Word.zero with From := x24.To, To := x24.From } : Word)) rfl rfl (Put.here ((Enc.len _).trans (Enc.len _).symm))).off rfl) fill_nil)) rfl rfl (by decide) (fun s113 _ => ?_)
   obtain ⟨u115, h116, H⟩ := bind_some H
   refine Lst.append (i := 1) (α := Word) (xs := r43) (ys := ([({ Word.zero with From := x24.To, To := x24.From } : Word)] : List Word)) rfl rfl (by decide) rfl rfl Try.runUnderlying112 Try.typeInfo209 rfl rfl rfl rfl rfl rfl (Rd.own (i := 0) rfl rfl rfl) rfl (room_some h116) rfl (fun s117 => ?_)
   refine Lst.its (L' := (.own s113 209 3 (encs ([({ Word.zero with From := x24.To, To := x24.From } : Word)] : List Word))) :: (.own s117 209 3 (encs (r43 ++ ([({ Word.zero with From := x24.To, To := x24.From } : Word)] : List Word)))) :: (.own s39 112 1 (encs ([(LR.mk m29 (s_a0_1.cut (0 : Int).toNat (a1 : Int).toNat 3)), (LR.mk m34 (s_a0_1.cut (w64 (a1 + (1 : Int)) : Int).toNat ((a0.Way.length : Int) : Int).toNat 3))] : List (LR Word)))) :: (.blk b27 (enc x24) 209) :: (.blk b22 (enc (EnterR.mk ({ r8 with Doors := p93, Way := r43 } : Enter) s10 s45)) 114) :: (.own Sl.nil 209 3 (encs ([] : List Word))) :: (.own Sl.nil 204 5 (encs ([] : List DoorR))) :: (.rows (α := Int) 3 (List.map DoorR.row (rs11.set x24.To.toNat (DoorR.mk ({ x49 with Clock := max x24.At x49.Clock } : Door) r52h4)))) :: (.own s10 204 5 (encs (rs11.set x24.To.toNat (DoorR.mk ({ x49 with Clock := max x24.At x49.Clock } : Door) r52h4)))) :: (.own s15 209 3 (encs r8.Way)) :: (.blk b6 (enc (EnterR.mk ({ Enter.zero with Doors := ([] : List Door), Way := ([] : List Word) } : Enter) Sl.nil Sl.nil)) 114) :: (.own Sl.nil 209 3 (encs ([] : List Word))) :: (.own Sl.nil 204 5 (encs ([] : List DoorR))) :: (.blk b1 (enc (EnterR.mk a0 s_a0_0 s_a0_1)) 114) :: L) rfl ?_
   refine Lst.r (Ev.fieldAddr (off' := 1) rfl Try.runUnderlying114 rfl Try.sizeOf112 rfl rfl) ?_
   refine Lst.store (i := 4) rfl rfl rfl rfl rfl Try.sizeOf112 (vs := [Sl.v s117]) rfl rfl rfl (cs' := enc (EnterR.mk ({ r8 with Doors := p93, Way := r43 ++ ([({ Word.zero with From := x24.To, To := x24.From } : Word)] : List Word) } : Enter) s10 s117)) ((EnterR.put_Way (Put.here (vs := [Sl.v s117]) rfl)).off (by rfl)) (L' := (.own s113 209 3 (encs ([({ Word.zero with From := x24.To, To := x24.From } : Word)] : List Word))) :: (.own s117 209 3 (encs (r43 ++ ([({ Word.zero with From := x24.To, To := x24.From } : Word)] : List Word)))) :: (.own s39 112 1 (encs ([(LR.mk m29 (s_a0_1.cut (0 : Int).toNat (a1 : Int).toNat 3)), (LR.mk m34 (s_a0_1.cut (w64 (a1 + (1 : Int)) : Int).toNat ((a0.Way.length : Int) : Int).toNat 3))] : List (LR Word)))) :: (.blk b27 (enc x24) 209) :: (.blk b22 (enc (EnterR.mk ({ r8 with Doors := p93, Way := r43 ++ ([({ Word.zero with From := x24.To, To := x24.From } : Word)] : List Word) } : Enter) s10 s117)) 114) :: (.own Sl.nil 209 3 (encs ([] : List Word))) :: (.own Sl.nil 204 5 (encs ([] : List DoorR))) :: (.rows (α := Int) 3 (List.map DoorR.row (rs11.set x24.To.toNat (DoorR.mk ({ x49 with Clock := max x24.At x49.Clock } : Door) r52h4)))) :: (.own s10 204 5 (encs (rs11.set x24.To.toNat (DoorR.mk ({ x49 with Clock := max x24.At x49.Clock } : Door) r52h4)))) :: (.own s15 209 3 (encs r8.Way)) :: (.blk b6 (enc (EnterR.mk ({ Enter.zero with Doors := ([] : List Door), Way := ([] : List Word) } : Enter) Sl.nil Sl.nil)) 114) :: (.own Sl.nil 209 3 (encs ([] : List Word))) :: (.own Sl.nil 204 5 (encs ([] : List DoorR))) :: (.blk b1 (enc (EnterR.mk a0 s_a0_0 s_a0_1)) 114) :: L) rfl ?_
   refine Lst.nil ?_
   refine At.in_normal ?_
   refine At.less (L' := (.own s117 209 3 (encs (r43 ++ ([({ Word.zero with From := x24.To, To := x24.From } : Word)] : List Word)))) :: (.own s39 112 1 (encs ([(LR.mk m29 (s_a0_1.cut (0 : Int).toNat (a1 : Int).toNat 3)), (LR.mk m34 (s_a0_1.cut (w64 (a1 + (1 : Int)) : Int).toNat ((a0.Way.length : Int) : Int).toNat 3))] : List (LR Word)))) :: (.blk b27 (enc x24) 209) :: (.blk b22 (enc (EnterR.mk ({ r8 with Doors := p93, Way := r43 ++ ([({ Word.zero with From := x24.To, To := x24.From } : Word)] : List Word) } : Enter) s10 s117)) 114) :: (.own Sl.nil 209 3 (encs ([] : List Word))) :: (.own Sl.nil 204 5 (encs ([] : List DoorR))) :: (.rows (α := Int) 3 (List.map DoorR.row (rs11.set x24.To.toNat (DoorR.mk ({ x49 with Clock := max x24.At x49.Clock } : Door) r52h4)))) :: (.own s10 204 5 (encs (rs11.set x24.To.toNat (DoorR.mk ({ x49 with Clock := max x24.At x49.Clock } : Door) r52h4)))) :: (.own s15 209 3 (encs r8.Way)) :: (.blk b6 (enc (EnterR.mk ({ Enter.zero with Doors := ([] : List Door), Way := ([] : List Word) } : Enter) Sl.nil Sl.nil)) 114) :: (.own Sl.nil 209 3 (encs ([] : List Word))) :: (.own Sl.nil 204 5 (encs ([] : List DoorR))) :: (.blk b1 (enc (EnterR.mk a0 s_a0_0 s_a0_1)) 114) :: L) (sc1 (sk1 (sk1 (sk1 (sk1 (sk1 (sk1 (sk1 (sk1 (sk1 (sk1 (sk1 (sk1 (sk1 (.refl _))))))))))))))) ?_
   exact At.meet (({ r8 with Doors := p93, Way := r43 ++ ([({ Word.zero with From := x24.To, To := x24.From } : Word)] : List Word) } : Enter), s117, r43 ++ ([({ Word.zero with From := x24.To, To := x24.From } : Word)] : List Word), p93, (rs11.set x24.To.toNat (DoorR.mk ({ x49 with Clock := max x24.At x49.Clock } : Door) r52h4))) hF111 ⟨rfl, rfl, trivial⟩ rfl ⟨some_inj H, hm95⟩
  replace H := ite_f hb112 H
  refine Cd.condF rfl hb112 ?_
  refine Cd.seq ?_
  refine Cd.quiet (by kernel_rfl) (by kernel_rfl) ?_
  refine Qt.r (Ev.move rfl) ?_
  obtain ⟨x118, h119, H⟩ := bind_some H
  have g120 := lat_some h119
  obtain ⟨⟨r121v, r121h4⟩, r121g, r121e, r121m⟩ := map_get hm95 g120.2.2
  obtain rfl : x118 = r121v := r121e.symm
  have r121wg := map_at DoorR.row r121g
  refine Qt.r (Ev.nilCheckS (α := DoorR) rfl (Rd.own (i := 7) rfl rfl rfl) ((Get.elemN (s := 5) rfl r121g (Get.here _)).off (by omega)) rfl) ?_
  refine Qt.r (Ev.fieldS (α := DoorR) (f' := x24.To.toNat * 5 + 4) rfl (Rd.own (i := 7) rfl rfl rfl) ((Get.elemN (s := 5) rfl r121g (Get.here _)).off (by omega)) rfl Try.runUnderlying204 rfl Try.sizeOf36 rfl rfl rfl) ?_
  refine Qt.r (Ev.loadS (α := DoorR) rfl (Rd.own (i := 7) rfl rfl rfl) Try.isAgg36 (v := Sl.v r121h4) ((Get.elemN (s := 5) rfl r121g (DoorR.get_Later (Get.here _))).off (by omega))) ?_
  refine Qt.r (Ev.fieldAddr (off' := 0) rfl Try.runUnderlying209 rfl Try.sizeOf3 rfl rfl) ?_
  refine Qt.r (Ev.load (i := 2) rfl rfl Try.isAgg3 (v := iv x24.From) ((Word.get_From (Get.here _)).off (by rfl))) ?_
  obtain ⟨r122, h123, H⟩ := bind_some H
  refine Qt.call rfl rfl (by decide) (vs := [Sl.v r121h4, iv x24.From]) ⟨rfl, rfl, trivial⟩ Try.call50 (slices_Contains_int_int_sim h123 w0 _ _ _ (.refl _) (Rd.row (j := 6) rfl r121wg)) ?_
  refine Qt.r (Ev.not rfl) ?_
  refine Qt.r (Ev.assign rfl) ?_
  refine Qt.done ?_
  refine At.then ?_
  rcases (Bool.eq_false_or_eq_true (!r122)).symm with hb126 | hb126
  ·replace H := ite_f hb126 H
   refine Cd.condF rfl hb126 ?_
   refine Cd.skip ?_
   refine At.in_normal ?_
   exact At.meet (({ r8 with Doors := p93, Way := r43 } : Enter), s45, r43, p93, (rs11.set x24.To.toNat (DoorR.mk ({ x49 with Clock := max x24.At x49.Clock } : Door) r52h4))) hF111 ⟨rfl, rfl, trivial⟩ rfl ⟨some_inj H, hm95⟩
  replace H := ite_t hb126 H
  refine Cd.condT rfl hb126 ?_
  obtain ⟨x127, h128, H⟩ := bind_some H
  obtain ⟨u134, h135, H⟩ := bind_some H
  obtain ⟨o140, h141, H⟩ := Let_some H
  refine Cd.headMeet (σ := Sl × (List Int)) 9 (fun (s138, l139) => [(4, pv b6 0), (5, pv b22 0), (142, Sl.at s10 (x24.To.toNat * 5)), (150, Sl.v s138)]) (fun (s138, l139) => (.own s138 3 1 (encs l139)) :: (.rows (α := Int) 3 ((List.map DoorR.row (rs11.set x24.To.toNat (DoorR.mk ({ x49 with Clock := max x24.At x49.Clock } : Door) r52h4))).set x24.To.toNat ⟨[], Sl.nil⟩)) :: (.own s45 209 3 (encs r43)) :: (.own s39 112 1 (encs ([(LR.mk m29 (s_a0_1.cut (0 : Int).toNat (a1 : Int).toNat 3)), (LR.mk m34 (s_a0_1.cut (w64 (a1 + (1 : Int)) : Int).toNat ((a0.Way.length : Int) : Int).toNat 3))] : List (LR Word)))) :: (.blk b27 (enc x24) 209) :: (.blk b22 (enc (EnterR.mk ({ r8 with Doors := p93, Way := r43 } : Enter) s10 s45)) 114) :: (.own Sl.nil 209 3 (encs ([] : List Word))) :: (.own Sl.nil 204 5 (encs ([] : List DoorR))) :: (.own s10 204 5 (encs (rs11.set x24.To.toNat (DoorR.mk ({ x49 with Clock := max x24.At x49.Clock } : Door) r52h4)))) :: (.own s15 209 3 (encs r8.Way)) :: (.blk b6 (enc (EnterR.mk ({ Enter.zero with Doors := ([] : List Door), Way := ([] : List Word) } : Enter) Sl.nil Sl.nil)) 114) :: (.own Sl.nil 209 3 (encs ([] : List Word))) :: (.own Sl.nil 204 5 (encs ([] : List DoorR))) :: (.blk b1 (enc (EnterR.mk a0 s_a0_0 s_a0_1)) 114) :: L) (fun _ (s138, l139) => l139 = o140) (by kernel_rfl) (by kernel_rfl) (behind_sink (by kernel_rfl) (by kernel_rfl) (by kernel_rfl)) (by kernel_rfl) (fun hsel hlt => ?_) ?_
  ·refine HdJ.keep (fun w => St w0 F110 ((.own s45 209 3 (encs r43)) :: (.own s39 112 1 (encs ([(LR.mk m29 (s_a0_1.cut (0 : Int).toNat (a1 : Int).toNat 3)), (LR.mk m34 (s_a0_1.cut (w64 (a1 + (1 : Int)) : Int).toNat ((a0.Way.length : Int) : Int).toNat 3))] : List (LR Word)))) :: (.blk b27 (enc x24) 209) :: (.blk b22 (enc (EnterR.mk ({ r8 with Doors := p93, Way := r43 } : Enter) s10 s45)) 114) :: (.own Sl.nil 209 3 (encs ([] : List Word))) :: (.own Sl.nil 204 5 (encs ([] : List DoorR))) :: (.own s10 204 5 (encs (rs11.set x24.To.toNat (DoorR.mk ({ x49 with Clock := max x24.At x49.Clock } : Door) r52h4)))) :: (.own s15 209 3 (encs r8.Way)) :: (.blk b6 (enc (EnterR.mk ({ Enter.zero with Doors := ([] : List Door), Way := ([] : List Word) } : Enter) Sl.nil Sl.nil)) 114) :: (.own Sl.nil 209 3 (encs ([] : List Word))) :: (.own Sl.nil 204 5 (encs ([] : List DoorR))) :: (.blk b1 (enc (EnterR.mk a0 s_a0_0 s_a0_1)) 114) :: L) w) (fun w h => trivial) ?_
   refine HdJ.tk hsel hlt 0 (fun w h => h.sublist (sk1 (sk1 (sk1 (sk1 (sk1 (sk1 (sc1 (sk1 (sk1 (sk1 (sk1 (sk1 (sk1 (.refl _))))))))))))))) rfl (Ev.move rfl) ?_
   refine HdJ.tk hsel hlt 1 (fun w h => h.sublist (sk1 (sk1 (sk1 (sk1 (sk1 (sk1 (sc1 (sk1 (sk1 (sk1 (sk1 (sk1 (sk1 (.refl _))))))))))))))) rfl (Ev.move rfl) ?_
   have g142 := lat_some h128
   obtain ⟨⟨r143v, r143h4⟩, r143g, r143e, r143m⟩ := map_get hm95 g142.2.2
   obtain rfl : x127 = r143v := r143e.symm
   have r143wg := map_at DoorR.row r143g
   refine HdJ.tk hsel hlt 2 (fun w h => h.sublist (sk1 (sk1 (sk1 (sk1 (sk1 (sk1 (sc1 (sk1 (sk1 (sk1 (sk1 (sk1 (sk1 (.refl _))))))))))))))) rfl (Ev.nilCheckS (α := DoorR) rfl (Rd.own (i := 6) rfl rfl rfl) ((Get.elemN (s := 5) rfl r143g (Get.here _)).off (by omega)) rfl) ?_
   refine HdJ.tk hsel hlt 3 (fun w h => h.sublist (sk1 (sk1 (sk1 (sk1 (sk1 (sk1 (sc1 (sk1 (sk1 (sk1 (sk1 (sk1 (sk1 (.refl _))))))))))))))) rfl (Ev.fieldS (α := DoorR) (f' := x24.To.toNat * 5 + 4) rfl (Rd.own (i := 6) rfl rfl rfl) ((Get.elemN (s := 5) rfl r143g (Get.here _)).off (by omega)) rfl Try.runUnderlying204 rfl Try.sizeOf36 rfl rfl rfl) ?_
   refine HdJ.tk hsel hlt 4 (fun w h => h.sublist (sk1 (sk1 (sk1 (sk1 (sk1 (sk1 (sc1 (sk1 (sk1 (sk1 (sk1 (sk1 (sk1 (.refl _))))))))))))))) rfl (Ev.loadS (α := DoorR) rfl (Rd.own (i := 6) rfl rfl rfl) Try.isAgg36 (v := Sl.v r143h4) ((Get.elemN (s := 5) rfl r143g (DoorR.get_Later (Get.here _))).off (by omega))) ?_
   refine HdJ.tk hsel hlt 5 (fun w h => h.sublist (sk1 (sk1 (sk1 (sk1 (sk1 (sk1 (sc1 (sk1 (sk1 (sk1 (sk1 (sk1 (sk1 (.refl _))))))))))))))) rfl (Ev.fieldAddr (off' := 0) rfl Try.runUnderlying209 rfl Try.sizeOf3 rfl rfl) ?_
   refine HdJ.tk hsel hlt 6 (fun w h => h.sublist (sk1 (sk1 (sk1 (sk1 (sk1 (sk1 (sc1 (sk1 (sk1 (sk1 (sk1 (sk1 (sk1 (.refl _))))))))))))))) rfl (Ev.load (i := 2) rfl rfl Try.isAgg3 (v := iv x24.From) ((Word.get_From (Get.here _)).off (by rfl))) ?_
   refine HdJ.step [7] (by kernel_rfl) rfl ?_
   refine HdStep.c (fun inv => ?_) ?_
   ·refine Lst.buildSlice (α := Int) (xs := ([x24.From] : List Int)) (pv := [(0, iv x24.From)]) rfl rfl (by decide) ⟨rfl, rfl, trivial⟩ (run_buildSlice (α := Int) (z0 := (0 : Int)) (xs := ([x24.From] : List Int)) Try.runUnderlying36 Try.sizeOf3 Try.zeroValue3 rfl rfl rfl (by decide) rfl (fill_cons (cs := encs (List.replicate 1 (0 : Int))) (cs' := encs ((List.replicate 1 (0 : Int)).set 0 x24.From)) (vs := [iv x24.From]) rfl rfl rfl ((Put.elemN (s := 1) (i := 0) (x := (0 : Int)) (y := x24.From) rfl rfl (Put.here (vs := [iv x24.From]) rfl)).off rfl) fill_nil)) rfl rfl (by decide) (fun s144 _ => ?_)
    refine Lst.nil ?_
    refine At.hd inv (fun w h => (h.weaken (FLe.refl _)).sublist (sc1 (sk1 (sk1 (sk1 (sk1 (sk1 (sk1 (sc1 (sk1 (sk1 (sk1 (sk1 (sk1 (sk1 (.refl _)))))))))))))))) ?_
    refine HdJ.step [8] (by kernel_rfl) rfl ?_
    refine HdStep.c (fun inv => ?_) ?_
    ·refine Lst.front (i := 7) rfl (L' := (.rows (α := Int) 3 (List.map DoorR.row (rs11.set x24.To.toNat (DoorR.mk ({ x49 with Clock := max x24.At x49.Clock } : Door) r52h4)))) :: (.own s144 3 1 (encs ([x24.From] : List Int))) :: (.own s45 209 3 (encs r43)) :: (.own s39 112 1 (encs ([(LR.mk m29 (s_a0_1.cut (0 : Int).toNat (a1 : Int).toNat 3)), (LR.mk m34 (s_a0_1.cut (w64 (a1 + (1 : Int)) : Int).toNat ((a0.Way.length : Int) : Int).toNat 3))] : List (LR Word)))) :: (.blk b27 (enc x24) 209) :: (.blk b22 (enc (EnterR.mk ({ r8 with Doors := p93, Way := r43 } : Enter) s10 s45)) 114) :: (.own Sl.nil 209 3 (encs ([] : List Word))) :: (.own Sl.nil 204 5 (encs ([] : List DoorR))) :: (.own s10 204 5 (encs (rs11.set x24.To.toNat (DoorR.mk ({ x49 with Clock := max x24.At x49.Clock } : Door) r52h4)))) :: (.own s15 209 3 (encs r8.Way)) :: (.blk b6 (enc (EnterR.mk ({ Enter.zero with Doors := ([] : List Door), Way := ([] : List Word) } : Enter) Sl.nil Sl.nil)) 114) :: (.own Sl.nil 209 3 (encs ([] : List Word))) :: (.own Sl.nil 204 5 (encs ([] : List DoorR))) :: (.blk b1 (enc (EnterR.mk a0 s_a0_0 s_a0_1)) 114) :: L) rfl ?_
     refine Lst.rowOut (k := x24.To.toNat) r143wg rfl ?_
     refine Lst.its (L' := (.own r143h4 3 1 (encs x127.Later)) :: (.rows (α := Int) 3 ((List.map DoorR.row (rs11.set x24.To.toNat (DoorR.mk ({ x49 with Clock := max x24.At x49.Clock } : Door) r52h4))).set x24.To.toNat ⟨[], Sl.nil⟩)) :: (.own s144 3 1 (encs ([x24.From] : List Int))) :: (.own s45 209 3 (encs r43)) :: (.own s39 112 1 (encs ([(LR.mk m29 (s_a0_1.cut (0 : Int).toNat (a1 : Int).toNat 3)), (LR.mk m34 (s_a0_1.cut (w64 (a1 + (1 : Int)) : Int).toNat ((a0.Way.length : Int) : Int).toNat 3))] : List (LR Word)))) :: (.blk b27 (enc x24) 209) :: (.blk b22 (enc (EnterR.mk ({ r8 with Doors := p93, Way := r43 } : Enter) s10 s45)) 114) :: (.own Sl.nil 209 3 (encs ([] : List Word))) :: (.own Sl.nil 204 5 (encs ([] : List DoorR))) :: (.own s10 204 5 (encs (rs11.set x24.To.toNat (DoorR.mk ({ x49 with Clock := max x24.At x49.Clock } : Door) r52h4)))) :: (.own s15 209 3 (encs r8.Way)) :: (.blk b6 (enc (EnterR.mk ({ Enter.zero with Doors := ([] : List Door), Way := ([] : List Word) } : Enter) Sl.nil Sl.nil)) 114) :: (.own Sl.nil 209 3 (encs ([] : List Word))) :: (.own Sl.nil 204 5 (encs ([] : List DoorR))) :: (.blk b1 (enc (EnterR.mk a0 s_a0_0 s_a0_1)) 114) :: L) rfl ?_
     refine Lst.append (i := 0) (α := Int) (xs := x127.Later) (ys := ([x24.From] : List Int)) rfl rfl (by decide) rfl rfl Try.runUnderlying36 Try.typeInfo3 rfl rfl rfl rfl rfl rfl (Rd.own (i := 2) rfl rfl rfl) rfl (room_some h135) rfl (fun s145 => ?_)
     refine Lst.its (L' := (.own s145 3 1 (encs (x127.Later ++ ([x24.From] : List Int)))) :: (.rows (α := Int) 3 ((List.map DoorR.row (rs11.set x24.To.toNat (DoorR.mk ({ x49 with Clock := max x24.At x49.Clock } : Door) r52h4))).set x24.To.toNat ⟨[], Sl.nil⟩)) :: (.own s144 3 1 (encs ([x24.From] : List Int))) :: (.own s45 209 3 (encs r43)) :: (.own s39 112 1 (encs ([(LR.mk m29 (s_a0_1.cut (0 : Int).toNat (a1 : Int).toNat 3)), (LR.mk m34 (s_a0_1.cut (w64 (a1 + (1 : Int)) : Int).toNat ((a0.Way.length : Int) : Int).toNat 3))] : List (LR Word)))) :: (.blk b27 (enc x24) 209) :: (.blk b22 (enc (EnterR.mk ({ r8 with Doors := p93, Way := r43 } : Enter) s10 s45)) 114) :: (.own Sl.nil 209 3 (encs ([] : List Word))) :: (.own Sl.nil 204 5 (encs ([] : List DoorR))) :: (.own s10 204 5 (encs (rs11.set x24.To.toNat (DoorR.mk ({ x49 with Clock := max x24.At x49.Clock } : Door) r52h4)))) :: (.own s15 209 3 (encs r8.Way)) :: (.blk b6 (enc (EnterR.mk ({ Enter.zero with Doors := ([] : List Door), Way := ([] : List Word) } : Enter) Sl.nil Sl.nil)) 114) :: (.own Sl.nil 209 3 (encs ([] : List Word))) :: (.own Sl.nil 204 5 (encs ([] : List DoorR))) :: (.blk b1 (enc (EnterR.mk a0 s_a0_0 s_a0_1)) 114) :: L) rfl ?_
     refine Lst.nil ?_
     refine At.hd inv (fun w h => (h.weaken (FLe.refl _)).sublist (sc1 (sc1 (sc1 (sk1 (sk1 (sk1 (sk1 (sk1 (sk1 (sk1 (sk1 (sk1 (sk1 (sk1 (sk1 (.refl _))))))))))))))))) ?_
     refine HdJ.done (by kernel_rfl) ?_
     refine At.less (L' := (.own s145 3 1 (encs (x127.Later ++ ([x24.From] : List Int)))) :: (.rows (α := Int) 3 ((List.map DoorR.row (rs11.set x24.To.toNat (DoorR.mk ({ x49 with Clock := max x24.At x49.Clock } : Door) r52h4))).set x24.To.toNat ⟨[], Sl.nil⟩)) :: (.own s45 209 3 (encs r43)) :: (.own s39 112 1 (encs ([(LR.mk m29 (s_a0_1.cut (0 : Int).toNat (a1 : Int).toNat 3)), (LR.mk m34 (s_a0_1.cut (w64 (a1 + (1 : Int)) : Int).toNat ((a0.Way.length : Int) : Int).toNat 3))] : List (LR Word)))) :: (.blk b27 (enc x24) 209) :: (.blk b22 (enc (EnterR.mk ({ r8 with Doors := p93, Way := r43 } : Enter) s10 s45)) 114) :: (.own Sl.nil 209 3 (encs ([] : List Word))) :: (.own Sl.nil 204 5 (encs ([] : List DoorR))) :: (.own s10 204 5 (encs (rs11.set x24.To.toNat (DoorR.mk ({ x49 with Clock := max x24.At x49.Clock } : Door) r52h4)))) :: (.own s15 209 3 (encs r8.Way)) :: (.blk b6 (enc (EnterR.mk ({ Enter.zero with Doors := ([] : List Door), Way := ([] : List Word) } : Enter) Sl.nil Sl.nil)) 114) :: (.own Sl.nil 209 3 (encs ([] : List Word))) :: (.own Sl.nil 204 5 (encs ([] : List DoorR))) :: (.blk b1 (enc (EnterR.mk a0 s_a0_0 s_a0_1)) 114) :: L) (sk1 (sk1 (sc1 (sk1 (sk1 (sk1 (sk1 (sk1 (sk1 (sk1 (sk1 (sk1 (sk1 (sk1 (sk1 (.refl _)))))))))))))))) ?_
     exact At.meetN (s145, x127.Later ++ ([x24.From] : List Int)) (FLe.refl _) ⟨rfl, rfl, rfl, rfl, trivial⟩ rfl h141
    exact trivial
   exact trivial
  rintro F146 ⟨s138, l139⟩ hF147 hy
  subst hy
  refine Lst.as (e' := [(4, pv b6 0), (5, pv b22 0), (142, Sl.at s10 (x24.To.toNat * 5)), (150, Sl.v s138)]) (L' := (.own s138 3 1 (encs l139)) :: (.rows (α := Int) 3 ((List.map DoorR.row (rs11.set x24.To.toNat (DoorR.mk ({ x49 with Clock := max x24.At x49.Clock } : Door) r52h4))).set x24.To.toNat ⟨[], Sl.nil⟩)) :: (.own s45 209 3 (encs r43)) :: (.own s39 112 1 (encs ([(LR.mk m29 (s_a0_1.cut (0 : Int).toNat (a1 : Int).toNat 3)), (LR.mk m34 (s_a0_1.cut (w64 (a1 + (1 : Int)) : Int).toNat ((a0.Way.length : Int) : Int).toNat 3))] : List (LR Word)))) :: (.blk b27 (enc x24) 209) :: (.blk b22 (enc (EnterR.mk ({ r8 with Doors := p93, Way := r43 } : Enter) s10 s45)) 114) :: (.own Sl.nil 209 3 (encs ([] : List Word))) :: (.own Sl.nil 204 5 (encs ([] : List DoorR))) :: (.own s10 204 5 (encs (rs11.set x24.To.toNat (DoorR.mk ({ x49 with Clock := max x24.At x49.Clock } : Door) r52h4)))) :: (.own s15 209 3 (encs r8.Way)) :: (.blk b6 (enc (EnterR.mk ({ Enter.zero with Doors := ([] : List Door), Way := ([] : List Word) } : Enter) Sl.nil Sl.nil)) 114) :: (.own Sl.nil 209 3 (encs ([] : List Word))) :: (.own Sl.nil 204 5 (encs ([] : List DoorR))) :: (.blk b1 (enc (EnterR.mk a0 s_a0_0 s_a0_1)) 114) :: L) ⟨rfl, rfl, rfl, rfl, trivial⟩ rfl ?_
  obtain ⟨x148, h149, H⟩ := bind_some H
  have g150 := lat_some h149
  obtain ⟨⟨r151v, r151h4⟩, r151g, r151e, r151m⟩ := map_get hm95 g150.2.2
  obtain rfl : x148 = r151v := r151e.symm
  have r151wg := map_at DoorR.row r151g
  refine Lst.r (Ev.nilCheckS (α := DoorR) rfl (Rd.own (i := 8) rfl rfl rfl) ((Get.elemN (s := 5) rfl r151g (Get.here _)).off (by omega)) rfl) ?_
  refine Lst.r (Ev.fieldS (α := DoorR) (f' := x24.To.toNat * 5 + 4) rfl (Rd.own (i := 8) rfl rfl rfl) ((Get.elemN (s := 5) rfl r151g (Get.here _)).off (by omega)) rfl Try.runUnderlying204 rfl Try.sizeOf36 rfl rfl rfl) ?_
  obtain ⟨p152, h153, H⟩ := Let_some H
  have hm154 : ((rs11.set x24.To.toNat (DoorR.mk ({ x49 with Clock := max x24.At x49.Clock } : Door) r52h4)).set x24.To.toNat (DoorR.mk ({ x148 with Later := l139 } : Door) s138)).map DoorR.v = p152 := (map_set hm95 _ _).trans h153
  refine Lst.storeS (i := 8) rfl rfl rfl rfl rfl Try.sizeOf36 (vs := [Sl.v s138]) rfl rfl (by decide) rfl (xs' := encs ((rs11.set x24.To.toNat (DoorR.mk ({ x49 with Clock := max x24.At x49.Clock } : Door) r52h4)).set x24.To.toNat (DoorR.mk ({ x148 with Later := l139 } : Door) s138))) ((Put.elemN (s := 5) (x := DoorR.mk x148 r151h4) (y := (DoorR.mk ({ x148 with Later := l139 } : Door) s138)) rfl r151g (DoorR.put_Later (p := DoorR.mk x148 r151h4) (l := l139) (Put.here (vs := [Sl.v s138]) rfl))).off (by omega)) (L' := (.own s138 3 1 (encs l139)) :: (.rows (α := Int) 3 ((List.map DoorR.row (rs11.set x24.To.toNat (DoorR.mk ({ x49 with Clock := max x24.At x49.Clock } : Door) r52h4))).set x24.To.toNat ⟨[], Sl.nil⟩)) :: (.own s45 209 3 (encs r43)) :: (.own s39 112 1 (encs ([(LR.mk m29 (s_a0_1.cut (0 : Int).toNat (a1 : Int).toNat 3)), (LR.mk m34 (s_a0_1.cut (w64 (a1 + (1 : Int)) : Int).toNat ((a0.Way.length : Int) : Int).toNat 3))] : List (LR Word)))) :: (.blk b27 (enc x24) 209) :: (.blk b22 (enc (EnterR.mk ({ r8 with Doors := p152, Way := r43 } : Enter) s10 s45)) 114) :: (.own Sl.nil 209 3 (encs ([] : List Word))) :: (.own Sl.nil 204 5 (encs ([] : List DoorR))) :: (.own s10 204 5 (encs ((rs11.set x24.To.toNat (DoorR.mk ({ x49 with Clock := max x24.At x49.Clock } : Door) r52h4)).set x24.To.toNat (DoorR.mk ({ x148 with Later := l139 } : Door) s138)))) :: (.own s15 209 3 (encs r8.Way)) :: (.blk b6 (enc (EnterR.mk ({ Enter.zero with Doors := ([] : List Door), Way := ([] : List Word) } : Enter) Sl.nil Sl.nil)) 114) :: (.own Sl.nil 209 3 (encs ([] : List Word))) :: (.own Sl.nil 204 5 (encs ([] : List DoorR))) :: (.blk b1 (enc (EnterR.mk a0 s_a0_0 s_a0_1)) 114) :: L) rfl ?_
  refine Lst.rowIn (k := x24.To.toNat) (by rw [List.getElem?_set_self (List.getElem?_eq_some_iff.1 r151wg).1]) rfl ?_
  refine Lst.its (L' := (.rows (α := Int) 3 (List.map DoorR.row ((rs11.set x24.To.toNat (DoorR.mk ({ x49 with Clock := max x24.At x49.Clock } : Door) r52h4)).set x24.To.toNat (DoorR.mk ({ x148 with Later := l139 } : Door) s138)))) :: (.own s45 209 3 (encs r43)) :: (.own s39 112 1 (encs ([(LR.mk m29 (s_a0_1.cut (0 : Int).toNat (a1 : Int).toNat 3)), (LR.mk m34 (s_a0_1.cut (w64 (a1 + (1 : Int)) : Int).toNat ((a0.Way.length : Int) : Int).toNat 3))] : List (LR Word)))) :: (.blk b27 (enc x24) 209) :: (.blk b22 (enc (EnterR.mk ({ r8 with Doors := p152, Way := r43 } : Enter) s10 s45)) 114) :: (.own Sl.nil 209 3 (encs ([] : List Word))) :: (.own Sl.nil 204 5 (encs ([] : List DoorR))) :: (.own s10 204 5 (encs ((rs11.set x24.To.toNat (DoorR.mk ({ x49 with Clock := max x24.At x49.Clock } : Door) r52h4)).set x24.To.toNat (DoorR.mk ({ x148 with Later := l139 } : Door) s138)))) :: (.own s15 209 3 (encs r8.Way)) :: (.blk b6 (enc (EnterR.mk ({ Enter.zero with Doors := ([] : List Door), Way := ([] : List Word) } : Enter) Sl.nil Sl.nil)) 114) :: (.own Sl.nil 209 3 (encs ([] : List Word))) :: (.own Sl.nil 204 5 (encs ([] : List DoorR))) :: (.blk b1 (enc (EnterR.mk a0 s_a0_0 s_a0_1)) 114) :: L) (by rw [map_set_in (f := DoorR.row) (l := (rs11.set x24.To.toNat (DoorR.mk ({ x49 with Clock := max x24.At x49.Clock } : Door) r52h4))) (y := (DoorR.mk ({ x148 with Later := l139 } : Door) s138)) (b := ⟨l139, s138⟩) rfl]) ?_
  refine Lst.nil ?_
  refine At.in_normal ?_
  refine At.front (i := 6) rfl rfl ?_
  refine At.front (i := 6) rfl rfl ?_
  refine At.front (i := 6) rfl (L' := (.blk b22 (enc (EnterR.mk ({ r8 with Doors := p152, Way := r43 } : Enter) s10 s45)) 114) :: (.own Sl.nil 209 3 (encs ([] : List Word))) :: (.own Sl.nil 204 5 (encs ([] : List DoorR))) :: (.rows (α := Int) 3 (List.map DoorR.row ((rs11.set x24.To.toNat (DoorR.mk ({ x49 with Clock := max x24.At x49.Clock } : Door) r52h4)).set x24.To.toNat (DoorR.mk ({ x148 with Later := l139 } : Door) s138)))) :: (.own s45 209 3 (encs r43)) :: (.own s39 112 1 (encs ([(LR.mk m29 (s_a0_1.cut (0 : Int).toNat (a1 : Int).toNat 3)), (LR.mk m34 (s_a0_1.cut (w64 (a1 + (1 : Int)) : Int).toNat ((a0.Way.length : Int) : Int).toNat 3))] : List (LR Word)))) :: (.blk b27 (enc x24) 209) :: (.own s10 204 5 (encs ((rs11.set x24.To.toNat (DoorR.mk ({ x49 with Clock := max x24.At x49.Clock } : Door) r52h4)).set x24.To.toNat (DoorR.mk ({ x148 with Later := l139 } : Door) s138)))) :: (.own s15 209 3 (encs r8.Way)) :: (.blk b6 (enc (EnterR.mk ({ Enter.zero with Doors := ([] : List Door), Way := ([] : List Word) } : Enter) Sl.nil Sl.nil)) 114) :: (.own Sl.nil 209 3 (encs ([] : List Word))) :: (.own Sl.nil 204 5 (encs ([] : List DoorR))) :: (.blk b1 (enc (EnterR.mk a0 s_a0_0 s_a0_1)) 114) :: L) rfl ?_
  refine At.front (i := 6) rfl rfl ?_
  refine At.front (i := 6) rfl rfl ?_
  refine At.front (i := 6) rfl (L' := (.own s45 209 3 (encs r43)) :: (.own s39 112 1 (encs ([(LR.mk m29 (s_a0_1.cut (0 : Int).toNat (a1 : Int).toNat 3)), (LR.mk m34 (s_a0_1.cut (w64 (a1 + (1 : Int)) : Int).toNat ((a0.Way.length : Int) : Int).toNat 3))] : List (LR Word)))) :: (.blk b27 (enc x24) 209) :: (.blk b22 (enc (EnterR.mk ({ r8 with Doors := p152, Way := r43 } : Enter) s10 s45)) 114) :: (.own Sl.nil 209 3 (encs ([] : List Word))) :: (.own Sl.nil 204 5 (encs ([] : List DoorR))) :: (.rows (α := Int) 3 (List.map DoorR.row ((rs11.set x24.To.toNat (DoorR.mk ({ x49 with Clock := max x24.At x49.Clock } : Door) r52h4)).set x24.To.toNat (DoorR.mk ({ x148 with Later := l139 } : Door) s138)))) :: (.own s10 204 5 (encs ((rs11.set x24.To.toNat (DoorR.mk ({ x49 with Clock := max x24.At x49.Clock } : Door) r52h4)).set x24.To.toNat (DoorR.mk ({ x148 with Later := l139 } : Door) s138)))) :: (.own s15 209 3 (encs r8.Way)) :: (.blk b6 (enc (EnterR.mk ({ Enter.zero with Doors := ([] : List Door), Way := ([] : List Word) } : Enter) Sl.nil Sl.nil)) 114) :: (.own Sl.nil 209 3 (encs ([] : List Word))) :: (.own Sl.nil 204 5 (encs ([] : List DoorR))) :: (.blk b1 (enc (EnterR.mk a0 s_a0_0 s_a0_1)) 114) :: L) rfl ?_
  exact At.meet (({ r8 with Doors := p152, Way := r43 } : Enter), s45, r43, p152, ((rs11.set x24.To.toNat (DoorR.mk ({ x49 with Clock := max x24.At x49.Clock } : Door) r52h4)).set x24.To.toNat (DoorR.mk ({ x148 with Later := l139 } : Door) s138))) (FLe.trans hF111 hF147) ⟨rfl, rfl, trivial⟩ rfl ⟨some_inj H, hm154⟩
 rintro F155 ⟨y96, s97, l98, l99, rs100⟩ hF156 ⟨hy, fm101⟩
 subst hy
 refine Cd.as (e' := [(4, pv b6 0), (5, pv b22 0)]) (L' := (.own s97 209 3 (encs l98)) :: (.own s39 112 1 (encs ([(LR.mk m29 (s_a0_1.cut (0 : Int).toNat (a1 : Int).toNat 3)), (LR.mk m34 (s_a0_1.cut (w64 (a1 + (1 : Int)) : Int).toNat ((a0.Way.length : Int) : Int).toNat 3))] : List (LR Word)))) :: (.blk b27 (enc x24) 209) :: (.blk b22 (enc (EnterR.mk ({ y96 with Doors := l99, Way := l98 } : Enter) s10 s97)) 114) :: (.own Sl.nil 209 3 (encs ([] : List Word))) :: (.own Sl.nil 204 5 (encs ([] : List DoorR))) :: (.rows (α := Int) 3 (List.map DoorR.row rs100)) :: (.own s10 204 5 (encs rs100)) :: (.own s15 209 3 (encs r8.Way)) :: (.blk b6 (enc (EnterR.mk ({ Enter.zero with Doors := ([] : List Door), Way := ([] : List Word) } : Enter) Sl.nil Sl.nil)) 114) :: (.own Sl.nil 209 3 (encs ([] : List Word))) :: (.own Sl.nil 204 5 (encs ([] : List DoorR))) :: (.blk b1 (enc (EnterR.mk a0 s_a0_0 s_a0_1)) 114) :: L) ⟨rfl, rfl, trivial⟩ rfl ?_
 replace H := HKo102
 refine Cd.seq ?_
 refine Cd.region ?_
 refine Lst.r (Ev.loadA (i := 3) rfl rfl Try.isAgg114 Try.sizeOf114 (ch := enc (EnterR.mk ({ y96 with Doors := l99, Way := l98 } : Enter) s10 s97)) (Enc.len _) (Get.here _)) ?_
 refine Lst.store (i := 9) rfl rfl rfl rfl rfl Try.sizeOf114 (vs := enc (EnterR.mk ({ y96 with Doors := l99, Way := l98 } : Enter) s10 s97)) rfl (Enc.len _) (Enc.one _) (cs' := enc (EnterR.mk ({ y96 with Doors := l99, Way := l98 } : Enter) s10 s97)) (Put.here ((Enc.len _).trans (Enc.len _).symm)) (L' := (.own s97 209 3 (encs l98)) :: (.own s39 112 1 (encs ([(LR.mk m29 (s_a0_1.cut (0 : Int).toNat (a1 : Int).toNat 3)), (LR.mk m34 (s_a0_1.cut (w64 (a1 + (1 : Int)) : Int).toNat ((a0.Way.length : Int) : Int).toNat 3))] : List (LR Word)))) :: (.blk b27 (enc x24) 209) :: (.blk b22 (enc (EnterR.mk ({ y96 with Doors := l99, Way := l98 } : Enter) s10 s97)) 114) :: (.own Sl.nil 209 3 (encs ([] : List Word))) :: (.own Sl.nil 204 5 (encs ([] : List DoorR))) :: (.rows (α := Int) 3 (List.map DoorR.row rs100)) :: (.own s10 204 5 (encs rs100)) :: (.own s15 209 3 (encs r8.Way)) :: (.blk b6 (enc (EnterR.mk ({ y96 with Doors := l99, Way := l98 } : Enter) s10 s97)) 114) :: (.own Sl.nil 209 3 (encs ([] : List Word))) :: (.own Sl.nil 204 5 (encs ([] : List DoorR))) :: (.blk b1 (enc (EnterR.mk a0 s_a0_0 s_a0_1)) 114) :: L) rfl ?_
 refine Lst.nil ?_
 refine At.then ?_
 obtain rfl := some_inj H
 refine Cd.ret ?_
 refine At.front (i := 7) rfl rfl ?_
 refine At.front (i := 7) rfl (L' := (.rows (α := Int) 3 (List.map DoorR.row rs100)) :: (.own s10 204 5 (encs rs100)) :: (.own s97 209 3 (encs l98)) :: (.own s39 112 1 (encs ([(LR.mk m29 (s_a0_1.cut (0 : Int).toNat (a1 : Int).toNat 3)), (LR.mk m34 (s_a0_1.cut (w64 (a1 + (1 : Int)) : Int).toNat ((a0.Way.length : Int) : Int).toNat 3))] : List (LR Word)))) :: (.blk b27 (enc x24) 209) :: (.blk b22 (enc (EnterR.mk ({ y96 with Doors := l99, Way := l98 } : Enter) s10 s97)) 114) :: (.own Sl.nil 209 3 (encs ([] : List Word))) :: (.own Sl.nil 204 5 (encs ([] : List DoorR))) :: (.own s15 209 3 (encs r8.Way)) :: (.blk b6 (enc (EnterR.mk ({ y96 with Doors := l99, Way := l98 } : Enter) s10 s97)) 114) :: (.own Sl.nil 209 3 (encs ([] : List Word))) :: (.own Sl.nil 204 5 (encs ([] : List DoorR))) :: (.blk b1 (enc (EnterR.mk a0 s_a0_0 s_a0_1)) 114) :: L) rfl ?_
 exact At.ret1 rfl (Res.cellA (i := 9) rfl rfl Try.isAgg114 Try.sizeOf114 (Enc.len _)) (FLe.trans (FLe.trans hF18 hF48) hF156) (sk1 (sk1 (sk1 (sc1 (sc1 (sc1 (sc1 (sc1 (sc1 (sc1 (sc1 (sc1 (sc1 (.refl _)))))))))))))) ⟨s10, rs100, s97, rfl, rfl, fm101⟩
set_option maxRecDepth 20000 in
theorem partref_EnterWish_sim {a0 : Enter} {a1 : Int} {s_a0_0 : Sl} {rs_a0_0 : List DoorR} {s_a0_1 : Sl} {r : Enter × Int} (H : partref_EnterWish a0 a1 = some r) (w0 : World) (F : Frz) (M L : List Item) (hM : M.Sublist L) (hm_a0_0 : rs_a0_0.map DoorR.v = a0.Doors) (hs_a0_0 : Rd w0 F M s_a0_0 rs_a0_0) (ha_a0_0 : All DoorR.rel w0 F M rs_a0_0) (hs_a0_1 : Rd w0 F M s_a0_1 a0.Way) : Ok Try.prog w0 71 [.agg (enc (EnterR.mk a0 s_a0_0 s_a0_1)).toArray, iv a1] F (L) (fun Fx L' v => ∃ (s1 : Sl) (rs2 : List DoorR) (s6 : Sl), v = .tuple #[.agg (enc (EnterR.mk r.1 s1 s6)).toArray, iv r.2] ∧ L' = (.rows (α := Int) 3 (List.map DoorR.row rs2)) :: (.own s1 204 5 (encs rs2)) :: (.own s6 209 3 (encs r.1.Way)) :: L ∧ rs2.map DoorR.v = r.1.Doors) := by
 unfold partref_EnterWish at H
 refine Ok.enter (m := 2) (n := 73) Try.func71 rfl rfl rfl (by decide) ?_
 refine Cd.env (e' := [(0, .agg (enc (EnterR.mk a0 s_a0_0 s_a0_1)).toArray), (1, iv a1)]) rfl ?_
 refine Cd.seq ?_
 refine Cd.region ?_
 refine Lst.box rfl rfl (by decide) rfl (cs := enc (EnterR.mk a0 s_a0_0 s_a0_1)) rfl (fun b1 => ?_)
 have ha4 : All DoorR.rel w0 F [] ([] : List DoorR) := All.nil
 have ha4m : List.map DoorR.v ([] : List DoorR) = ([] : List Door) := rfl
 refine Lst.addNil 204 5 ?_
 refine Lst.addNil 209 3 ?_
 refine Lst.alloc (cs := enc (EnterR.mk ({ Enter.zero with Doors := ([] : List Door), Way := ([] : List Word) } : Enter) Sl.nil Sl.nil)) rfl rfl (by decide) Try.zeroValue114 rfl (fun b6 => ?_)
 refine Lst.r (Ev.assign rfl) ?_
 refine Lst.nil ?_
 refine At.then ?_
 refine Cd.seq ?_
 refine Cd.region ?_
 refine Lst.r (Ev.fieldAddr (off' := 0) rfl Try.runUnderlying114 rfl Try.sizeOf111 rfl rfl) ?_
 refine Lst.r (Ev.load (i := 3) rfl rfl Try.isAgg111 (v := Sl.v s_a0_0) ((EnterR.get_Doors (Get.here _)).off (by rfl))) ?_
 refine Lst.r (Ev.lenM (map_len hm_a0_0) (Ev.lenS (α := DoorR) (xs := rs_a0_0) (by decide) rfl rfl Try.runUnderlying111 (hs_a0_0.mono (FLe.refl _) (sc4 hM)))) ?_
 refine Lst.r (Ev.assign rfl) ?_
 refine Lst.nil ?_
 refine At.then ?_
 refine Cd.seq ?_
 refine Cd.seq ?_
 refine Cd.region ?_
 refine Lst.r (Ev.fieldAddr (off' := 0) rfl Try.runUnderlying114 rfl Try.sizeOf111 rfl rfl) ?_
 refine Lst.r (Ev.load (i := 3) rfl rfl Try.isAgg111 (v := Sl.v s_a0_0) ((EnterR.get_Doors (Get.here _)).off (by rfl))) ?_
 refine Lst.r (Ev.move rfl) ?_
 obtain ⟨x9, h10, H⟩ := bind_some H
 have g11 := lat_some h10
 obtain ⟨⟨r12v, r12h4⟩, r12g, r12e, r12m⟩ := map_get hm_a0_0 g11.2.2
 obtain rfl : x9 = r12v := r12e.symm
 have r12q : DoorR.rel w0 _ _ (DoorR.mk x9 r12h4) := ha_a0_0 _ r12m
 have r12_f4 : Rd w0 _ _ _ _ := r12q
 refine Lst.r (Ev.indexS (α := DoorR) (xs := rs_a0_0) rfl rfl Try.runUnderlying111 Try.sizeOf204 rfl (by decide) (hs_a0_0.mono (FLe.refl _) (sc4 hM)) g11.1 (by have := map_len hm_a0_0; omega)) ?_
 refine Lst.r (Ev.fieldS (α := DoorR) (f' := a1.toNat * 5 + 1) rfl (hs_a0_0.mono (FLe.refl _) (sc4 hM)) ((Get.elemN (s := 5) rfl r12g (Get.here _)).off (by omega)) rfl Try.runUnderlying204 rfl Try.sizeOf3 rfl rfl rfl) ?_
 refine Lst.r (Ev.loadS (α := DoorR) rfl (hs_a0_0.mono (FLe.refl _) (sc4 hM)) Try.isAgg3 (v := iv x9.Wish) ((Get.elemN (s := 5) rfl r12g (DoorR.get_Wish (Get.here _))).off (by omega))) ?_
 refine Lst.r (Ev.neq rfl rfl) ?_
 refine Lst.nil ?_
 refine At.then ?_
 rcases Bool.eq_false_or_eq_true (x9.Wish != (0 : Int)) with hb13 | hb13
 ·replace H := ite_t hb13 H
  refine Cd.condT rfl hb13 ?_
  refine Cd.seq ?_
  refine Cd.as (e' := [(4, pv b6 0)]) (L' := (.blk b6 (enc (EnterR.mk ({ Enter.zero with Doors := ([] : List Door), Way := ([] : List Word) } : Enter) Sl.nil Sl.nil)) 114) :: (.own Sl.nil 209 3 (encs ([] : List Word))) :: (.own Sl.nil 204 5 (encs ([] : List DoorR))) :: (.blk b1 (enc (EnterR.mk a0 s_a0_0 s_a0_1)) 114) :: L) ⟨rfl, trivial⟩ rfl ?_
  refine Cd.region ?_
  refine Lst.r (Ev.build (v := .agg (enc (EnterR.mk Enter.zero Sl.nil Sl.nil)).toArray) (pv := []) trivial (fun w => by kernel_rfl)) ?_
  refine Lst.store (i := 0) rfl rfl rfl rfl rfl Try.sizeOf114 (vs := enc (EnterR.mk Enter.zero Sl.nil Sl.nil)) rfl (Enc.len _) (Enc.one _) (cs' := enc (EnterR.mk Enter.zero Sl.nil Sl.nil)) (Put.here ((Enc.len _).trans (Enc.len _).symm)) (L' := (.blk b6 (enc (EnterR.mk Enter.zero Sl.nil Sl.nil)) 114) :: (.own Sl.nil 209 3 (encs ([] : List Word))) :: (.own Sl.nil 204 5 (encs ([] : List DoorR))) :: (.blk b1 (enc (EnterR.mk a0 s_a0_0 s_a0_1)) 114) :: L) rfl ?_
  refine Lst.r (Ev.assign rfl) ?_
  refine Lst.nil ?_
  refine At.then ?_
  obtain rfl := some_inj H
  refine Cd.ret ?_
  refine At.then_ret ?_
  have ha16m : List.map DoorR.v ([] : List DoorR) = ([] : List Door) := rfl
  refine At.addNil 204 5 ?_
  refine At.rowsNil Int 3 0 ?_
  refine At.its (L' := (.rows (α := Int) 3 (List.map DoorR.row ([] : List DoorR))) :: (.own Sl.nil 204 5 (encs ([] : List DoorR))) :: (.blk b6 (enc (EnterR.mk Enter.zero Sl.nil Sl.nil)) 114) :: (.own Sl.nil 209 3 (encs ([] : List Word))) :: (.own Sl.nil 204 5 (encs ([] : List DoorR))) :: (.blk b1 (enc (EnterR.mk a0 s_a0_0 s_a0_1)) 114) :: L) rfl ?_
  refine At.addNil 209 3 ?_
  refine At.front (i := 2) rfl rfl ?_
  refine At.front (i := 2) rfl (L' := (.rows (α := Int) 3 (List.map DoorR.row ([] : List DoorR))) :: (.own Sl.nil 204 5 (encs ([] : List DoorR))) :: (.own Sl.nil 209 3 (encs ([] : List Word))) :: (.blk b6 (enc (EnterR.mk ({ Enter.zero with Doors := ([] : List Door), Way := ([] : List Word) } : Enter) Sl.nil Sl.nil)) 114) :: (.own Sl.nil 209 3 (encs ([] : List Word))) :: (.own Sl.nil 204 5 (encs ([] : List DoorR))) :: (.blk b1 (enc (EnterR.mk a0 s_a0_0 s_a0_1)) 114) :: L) rfl ?_
  exact At.ret2 rfl (Res.cellA (i := 3) rfl rfl Try.isAgg114 Try.sizeOf114 (Enc.len _)) (Res.tmp rfl) (FLe.refl _) (sk1 (sk1 (sk1 (sc1 (sc1 (sc1 (sc1 (.refl _)))))))) ⟨Sl.nil, ([] : List DoorR), Sl.nil, rfl, rfl, ha16m⟩
 replace H := ite_f hb13 H
 refine Cd.condF rfl hb13 ?_
 refine Cd.skip ?_
 refine At.then ?_
 refine Cd.seq ?_
 refine Cd.seq ?_
 refine Cd.region ?_
 refine Lst.r (Ev.fieldAddr (off' := 0) rfl Try.runUnderlying114 rfl Try.sizeOf111 rfl rfl) ?_
 refine Lst.r (Ev.load (i := 3) rfl rfl Try.isAgg111 (v := Sl.v s_a0_0) ((EnterR.get_Doors (Get.here _)).off (by rfl))) ?_
 refine Lst.r (Ev.move rfl) ?_
 obtain ⟨x18, h19, H⟩ := bind_some H
 have g20 := lat_some h19
 obtain ⟨⟨r21v, r21h4⟩, r21g, r21e, r21m⟩ := map_get hm_a0_0 g20.2.2
 obtain rfl : x18 = r21v := r21e.symm
 have r21q : DoorR.rel w0 _ _ (DoorR.mk x18 r21h4) := ha_a0_0 _ r21m
 have r21_f4 : Rd w0 _ _ _ _ := r21q
 refine Lst.r (Ev.indexS (α := DoorR) (xs := rs_a0_0) rfl rfl Try.runUnderlying111 Try.sizeOf204 rfl (by decide) (hs_a0_0.mono (FLe.refl _) (sc4 hM)) g20.1 (by have := map_len hm_a0_0; omega)) ?_
 refine Lst.r (Ev.fieldS (α := DoorR) (f' := a1.toNat * 5 + 0) rfl (hs_a0_0.mono (FLe.refl _) (sc4 hM)) ((Get.elemN (s := 5) rfl r21g (Get.here _)).off (by omega)) rfl Try.runUnderlying204 rfl Try.sizeOf3 rfl rfl rfl) ?_
 refine Lst.r (Ev.loadS (α := DoorR) rfl (hs_a0_0.mono (FLe.refl _) (sc4 hM)) Try.isAgg3 (v := iv x18.Clock) ((Get.elemN (s := 5) rfl r21g (DoorR.get_Clock (Get.here _))).off (by omega))) ?_
 refine Lst.r (Ev.eql rfl rfl) ?_
 refine Lst.r (Ev.move rfl) ?_
 obtain ⟨o22, H, HKo22⟩ := bind_some H
 refine Lst.join (σ := Bool) 7 (fun y23 => [(1, iv a1), (2, pv b1 0), (4, pv b6 0), (6, iv (a0.Doors.length : Int)), (35, .bool y23)]) (fun y23 => (.blk b6 (enc (EnterR.mk ({ Enter.zero with Doors := ([] : List Door), Way := ([] : List Word) } : Enter) Sl.nil Sl.nil)) 114) :: (.own Sl.nil 209 3 (encs ([] : List Word))) :: (.own Sl.nil 204 5 (encs ([] : List DoorR))) :: (.blk b1 (enc (EnterR.mk a0 s_a0_0 s_a0_1)) 114) :: L) (fun _ y23 => y23 = o22) ?_ ?_
 ·rcases Bool.eq_false_or_eq_true (x18.Clock == (16777215 : Int)) with hb24 | hb24
  ·replace H := ite_t hb24 H
   refine Lst.skip rfl rfl rfl hb24 rfl (by decide) ?_
   refine Lst.skip rfl rfl rfl hb24 rfl (by decide) ?_
   refine Lst.skip rfl rfl rfl hb24 rfl (by decide) ?_
   refine Lst.skip rfl rfl rfl hb24 rfl (by decide) ?_
   refine Lst.skip rfl rfl rfl hb24 rfl (by decide) ?_
   refine Lst.skip rfl rfl rfl hb24 rfl (by decide) ?_
   refine Lst.r (Ev.pickT rfl hb24 rfl) ?_
   refine Lst.nil ?_
   exact At.meet true (FLe.refl _) ⟨rfl, rfl, rfl, rfl, rfl, trivial⟩ rfl (some_inj H)
  replace H := ite_f hb24 H
  refine Lst.rG hb24 (Ev.fieldAddr (off' := 1) rfl Try.runUnderlying114 rfl Try.sizeOf112 rfl rfl) ?_
  refine Lst.rG hb24 (Ev.load (i := 3) rfl rfl Try.isAgg112 (v := Sl.v s_a0_1) ((EnterR.get_Way (Get.here _)).off (by rfl))) ?_
  refine Lst.rG hb24 (Ev.lenS (α := Word) (xs := a0.Way) (by decide) rfl rfl Try.runUnderlying112 (hs_a0_1.mono (FLe.refl _) (sc4 hM))) ?_
  refine Lst.rG hb24 (Ev.move rfl) ?_
  refine Lst.rG hb24 (Ev.add rfl rfl) ?_
  refine Lst.rG hb24 (Ev.gtr rfl rfl) ?_
  refine Lst.r (Ev.pickF rfl hb24 rfl) ?_
  refine Lst.nil ?_
  exact At.meet (decide ((w64 ((a0.Way.length : Int) + (a0.Doors.length : Int))) > (101 : Int))) (FLe.refl _) ⟨rfl, rfl, rfl, rfl, rfl, trivial⟩ rfl (some_inj H)
 rintro F25 y23 hF26 hy
 subst hy
 refine Lst.as (e' := [(1, iv a1), (2, pv b1 0), (4, pv b6 0), (6, iv (a0.Doors.length : Int)), (35, .bool y23)]) (L' := (.blk b6 (enc (EnterR.mk ({ Enter.zero with Doors := ([] : List Door), Way := ([] : List Word) } : Enter) Sl.nil Sl.nil)) 114) :: (.own Sl.nil 209 3 (encs ([] : List Word))) :: (.own Sl.nil 204 5 (encs ([] : List DoorR))) :: (.blk b1 (enc (EnterR.mk a0 s_a0_0 s_a0_1)) 114) :: L) ⟨rfl, rfl, rfl, rfl, rfl, trivial⟩ rfl ?_
 replace H := HKo22
 refine Lst.nil ?_
 refine At.then ?_
 rcases Bool.eq_false_or_eq_true y23 with hb27 | hb27
 ·replace H := ite_t hb27 H
  refine Cd.condT rfl hb27 ?_
  refine Cd.seq ?_
  refine Cd.region ?_
  refine Lst.r (Ev.build (v := .agg (enc (EnterR.mk Enter.zero Sl.nil Sl.nil)).toArray) (pv := []) trivial (fun w => by kernel_rfl)) ?_
  refine Lst.store (i := 0) rfl rfl rfl rfl rfl Try.sizeOf114 (vs := enc (EnterR.mk Enter.zero Sl.nil Sl.nil)) rfl (Enc.len _) (Enc.one _) (cs' := enc (EnterR.mk Enter.zero Sl.nil Sl.nil)) (Put.here ((Enc.len _).trans (Enc.len _).symm)) (L' := (.blk b6 (enc (EnterR.mk Enter.zero Sl.nil Sl.nil)) 114) :: (.own Sl.nil 209 3 (encs ([] : List Word))) :: (.own Sl.nil 204 5 (encs ([] : List DoorR))) :: (.blk b1 (enc (EnterR.mk a0 s_a0_0 s_a0_1)) 114) :: L) rfl ?_
  refine Lst.r (Ev.assign rfl) ?_
  refine Lst.nil ?_
  refine At.then ?_
  obtain rfl := some_inj H
  refine Cd.ret ?_
  refine At.then_ret ?_
  have ha30m : List.map DoorR.v ([] : List DoorR) = ([] : List Door) := rfl
  refine At.addNil 204 5 ?_
  refine At.rowsNil Int 3 0 ?_
  refine At.its (L' := (.rows (α := Int) 3 (List.map DoorR.row ([] : List DoorR))) :: (.own Sl.nil 204 5 (encs ([] : List DoorR))) :: (.blk b6 (enc (EnterR.mk Enter.zero Sl.nil Sl.nil)) 114) :: (.own Sl.nil 209 3 (encs ([] : List Word))) :: (.own Sl.nil 204 5 (encs ([] : List DoorR))) :: (.blk b1 (enc (EnterR.mk a0 s_a0_0 s_a0_1)) 114) :: L) rfl ?_
  refine At.addNil 209 3 ?_
  refine At.front (i := 2) rfl rfl ?_
  refine At.front (i := 2) rfl (L' := (.rows (α := Int) 3 (List.map DoorR.row ([] : List DoorR))) :: (.own Sl.nil 204 5 (encs ([] : List DoorR))) :: (.own Sl.nil 209 3 (encs ([] : List Word))) :: (.blk b6 (enc (EnterR.mk ({ Enter.zero with Doors := ([] : List Door), Way := ([] : List Word) } : Enter) Sl.nil Sl.nil)) 114) :: (.own Sl.nil 209 3 (encs ([] : List Word))) :: (.own Sl.nil 204 5 (encs ([] : List DoorR))) :: (.blk b1 (enc (EnterR.mk a0 s_a0_0 s_a0_1)) 114) :: L) rfl ?_
  exact At.ret2 rfl (Res.cellA (i := 3) rfl rfl Try.isAgg114 Try.sizeOf114 (Enc.len _)) (Res.tmp rfl) hF26 (sk1 (sk1 (sk1 (sc1 (sc1 (sc1 (sc1 (.refl _)))))))) ⟨Sl.nil, ([] : List DoorR), Sl.nil, rfl, rfl, ha30m⟩
 replace H := ite_f hb27 H
 refine Cd.condF rfl hb27 ?_
 refine Cd.skip ?_
 refine At.then ?_
 refine Cd.seq ?_
 refine Cd.region ?_
 refine Lst.r (Ev.loadA (i := 3) rfl rfl Try.isAgg114 Try.sizeOf114 (ch := enc (EnterR.mk a0 s_a0_0 s_a0_1)) (Enc.len _) (Get.here _)) ?_
 obtain ⟨r32, h33, H⟩ := bind_some H
 refine Lst.call rfl rfl (by decide) (vs := [.agg (enc (EnterR.mk a0 s_a0_0 s_a0_1)).toArray]) ⟨rfl, trivial⟩ Try.call163 (partref_enterCopy_sim h33 w0 _ M _ (sc4 hM) hm_a0_0 (hs_a0_0.mono hF26 (.refl _)) (All.monoDoor ha_a0_0 hF26 (.refl _)) (hs_a0_1.mono hF26 (.refl _))) (fun F41 L' v hF42 hv => ?_)
 obtain ⟨s34, rs35, s39, rfl, rfl, fm36⟩ := hv
 have ha44 : All DoorR.rel w0 F41 [] ([] : List DoorR) := All.nil
 have ha44m : List.map DoorR.v ([] : List DoorR) = ([] : List Door) := rfl
 refine Lst.addNil 204 5 ?_
 refine Lst.addNil 209 3 ?_
 refine Lst.alloc (cs := enc (EnterR.mk ({ Enter.zero with Doors := ([] : List Door), Way := ([] : List Word) } : Enter) Sl.nil Sl.nil)) rfl rfl (by decide) Try.zeroValue114 rfl (fun b46 => ?_)
 refine Lst.store (i := 0) rfl rfl rfl rfl rfl Try.sizeOf114 (vs := enc (EnterR.mk r32 s34 s39)) rfl (Enc.len _) (Enc.one _) (cs' := enc (EnterR.mk r32 s34 s39)) (Put.here ((Enc.len _).trans (Enc.len _).symm)) (L' := (.blk b46 (enc (EnterR.mk r32 s34 s39)) 114) :: (.own Sl.nil 209 3 (encs ([] : List Word))) :: (.own Sl.nil 204 5 (encs ([] : List DoorR))) :: (.rows (α := Int) 3 (List.map DoorR.row rs35)) :: (.own s34 204 5 (encs rs35)) :: (.own s39 209 3 (encs r32.Way)) :: (.blk b6 (enc (EnterR.mk ({ Enter.zero with Doors := ([] : List Door), Way := ([] : List Word) } : Enter) Sl.nil Sl.nil)) 114) :: (.own Sl.nil 209 3 (encs ([] : List Word))) :: (.own Sl.nil 204 5 (encs ([] : List DoorR))) :: (.blk b1 (enc (EnterR.mk a0 s_a0_0 s_a0_1)) 114) :: L) rfl ?_
 refine Lst.nil ?_
 refine At.then ?_
 refine Cd.seq ?_
 refine Cd.region ?_
 refine Lst.r (Ev.fieldAddr (off' := 0) rfl Try.runUnderlying114 rfl Try.sizeOf111 rfl rfl) ?_
 refine Lst.r (Ev.load (i := 0) rfl rfl Try.isAgg111 (v := Sl.v s34) ((EnterR.get_Doors (Get.here _)).off (by rfl))) ?_
 refine Lst.r (Ev.move rfl) ?_
 obtain ⟨x48, h49, H⟩ := bind_some H
 have g50 := lat_some h49
 obtain ⟨⟨r51v, r51h4⟩, r51g, r51e, r51m⟩ := map_get fm36 g50.2.2
 obtain rfl : x48 = r51v := r51e.symm
 have r51wg := map_at DoorR.row r51g
 refine Lst.r (Ev.indexS (α := DoorR) (xs := rs35) rfl rfl Try.runUnderlying111 Try.sizeOf204 rfl (by decide) (Rd.own (i := 4) rfl rfl rfl) g50.1 (by have := map_len fm36; omega)) ?_
 refine Lst.r (Ev.fieldS (α := DoorR) (f' := a1.toNat * 5 + 0) rfl (Rd.own (i := 4) rfl rfl rfl) ((Get.elemN (s := 5) rfl r51g (Get.here _)).off (by omega)) rfl Try.runUnderlying204 rfl Try.sizeOf3 rfl rfl rfl) ?_
 refine Lst.r (Ev.loadS (α := DoorR) rfl (Rd.own (i := 4) rfl rfl rfl) Try.isAgg3 (v := iv x48.Clock) ((Get.elemN (s := 5) rfl r51g (DoorR.get_Clock (Get.here _))).off (by omega))) ?_
 refine Lst.r (Ev.add rfl rfl) ?_
 refine Lst.r (Ev.assign rfl) ?_
 refine Lst.nil ?_
 refine At.then ?_
 refine Cd.seq ?_
 refine Cd.region ?_
 refine Lst.r (Ev.fieldAddr (off' := 0) rfl Try.runUnderlying114 rfl Try.sizeOf111 rfl rfl) ?_
 refine Lst.r (Ev.load (i := 0) rfl rfl Try.isAgg111 (v := Sl.v s34) ((EnterR.get_Doors (Get.here _)).off (by rfl))) ?_
 refine Lst.r (Ev.move rfl) ?_
 refine Lst.r (Ev.move rfl) ?_
 refine Lst.r (Ev.move rfl) ?_
 refine Lst.r (Ev.move rfl) ?_
 refine Lst.r (Ev.eql rfl rfl) ?_
 refine Lst.r (Ev.build (v := .agg (enc (DoorR.mk ({ Door.zero with Clock := w64 (x48.Clock + (1 : Int)), Wish := w64 (x48.Clock + (1 : Int)), In := (a0.Doors.length : Int) == (1 : Int) } : Door) Sl.nil)).toArray) (pv := [(0, iv (w64 (x48.Clock + (1 : Int)))), (1, iv (w64 (x48.Clock + (1 : Int)))), (3, .bool ((a0.Doors.length : Int) == (1 : Int)))]) ⟨rfl, rfl, ⟨rfl, rfl, ⟨rfl, rfl, trivial⟩⟩⟩ (fun w => by kernel_rfl)) ?_
 obtain ⟨x52, h53, H⟩ := bind_some H
 have g54 := lat_some h53
 obtain ⟨⟨r55v, r55h4⟩, r55g, r55e, r55m⟩ := map_get fm36 g54.2.2
 obtain rfl : x52 = r55v := r55e.symm
 have r55wg := map_at DoorR.row r55g
 refine Lst.r (Ev.indexS (α := DoorR) (xs := rs35) rfl rfl Try.runUnderlying111 Try.sizeOf204 rfl (by decide) (Rd.own (i := 4) rfl rfl rfl) g54.1 (by have := map_len fm36; omega)) ?_
 obtain ⟨p57, h58, H⟩ := Let_some H
 have hm59 : (rs35.set a1.toNat (DoorR.mk ({ Door.zero with Clock := w64 (x48.Clock + (1 : Int)), Wish := w64 (x48.Clock + (1 : Int)), In := (a0.Doors.length : Int) == (1 : Int) } : Door) Sl.nil)).map DoorR.v = p57 := (map_set fm36 _ _).trans h58
 refine Lst.front (i := 3) rfl (L' := (.rows (α := Int) 3 (List.map DoorR.row rs35)) :: (.blk b46 (enc (EnterR.mk r32 s34 s39)) 114) :: (.own Sl.nil 209 3 (encs ([] : List Word))) :: (.own Sl.nil 204 5 (encs ([] : List DoorR))) :: (.own s34 204 5 (encs rs35)) :: (.own s39 209 3 (encs r32.Way)) :: (.blk b6 (enc (EnterR.mk ({ Enter.zero with Doors := ([] : List Door), Way := ([] : List Word) } : Enter) Sl.nil Sl.nil)) 114) :: (.own Sl.nil 209 3 (encs ([] : List Word))) :: (.own Sl.nil 204 5 (encs ([] : List DoorR))) :: (.blk b1 (enc (EnterR.mk a0 s_a0_0 s_a0_1)) 114) :: L) rfl ?_
 refine Lst.rowOut (k := a1.toNat) r55wg rfl ?_
 refine Lst.its (L' := (.own r55h4 3 1 (encs x52.Later)) :: (.rows (α := Int) 3 ((List.map DoorR.row rs35).set a1.toNat ⟨[], Sl.nil⟩)) :: (.blk b46 (enc (EnterR.mk r32 s34 s39)) 114) :: (.own Sl.nil 209 3 (encs ([] : List Word))) :: (.own Sl.nil 204 5 (encs ([] : List DoorR))) :: (.own s34 204 5 (encs rs35)) :: (.own s39 209 3 (encs r32.Way)) :: (.blk b6 (enc (EnterR.mk ({ Enter.zero with Doors := ([] : List Door), Way := ([] : List Word) } : Enter) Sl.nil Sl.nil)) 114) :: (.own Sl.nil 209 3 (encs ([] : List Word))) :: (.own Sl.nil 204 5 (encs ([] : List DoorR))) :: (.blk b1 (enc (EnterR.mk a0 s_a0_0 s_a0_1)) 114) :: L) rfl ?_
 refine Lst.less (L' := (.rows (α := Int) 3 ((List.map DoorR.row rs35).set a1.toNat ⟨[], Sl.nil⟩)) :: (.blk b46 (enc (EnterR.mk r32 s34 s39)) 114) :: (.own Sl.nil 209 3 (encs ([] : List Word))) :: (.own Sl.nil 204 5 (encs ([] : List DoorR))) :: (.own s34 204 5 (encs rs35)) :: (.own s39 209 3 (encs r32.Way)) :: (.blk b6 (enc (EnterR.mk ({ Enter.zero with Doors := ([] : List Door), Way := ([] : List Word) } : Enter) Sl.nil Sl.nil)) 114) :: (.own Sl.nil 209 3 (encs ([] : List Word))) :: (.own Sl.nil 204 5 (encs ([] : List DoorR))) :: (.blk b1 (enc (EnterR.mk a0 s_a0_0 s_a0_1)) 114) :: L) (sc1 (.refl _)) ?_
 refine Lst.storeS (i := 4) rfl rfl rfl rfl rfl Try.sizeOf204 (vs := enc (DoorR.mk ({ Door.zero with Clock := w64 (x48.Clock + (1 : Int)), Wish := w64 (x48.Clock + (1 : Int)), In := (a0.Doors.length : Int) == (1 : Int) } : Door) Sl.nil)) rfl (Enc.len _) (by decide) (Enc.one _) (xs' := encs (rs35.set a1.toNat (DoorR.mk ({ Door.zero with Clock := w64 (x48.Clock + (1 : Int)), Wish := w64 (x48.Clock + (1 : Int)), In := (a0.Doors.length : Int) == (1 : Int) } : Door) Sl.nil))) ((Put.elemN (s := 5) (x := DoorR.mk x52 r55h4) (y := (DoorR.mk ({ Door.zero with Clock := w64 (x48.Clock + (1 : Int)), Wish := w64 (x48.Clock + (1 : Int)), In := (a0.Doors.length : Int) == (1 : Int) } : Door) Sl.nil)) rfl r55g (Put.here ((Enc.len _).trans (Enc.len _).symm))).off (by omega)) (L' := (.rows (α := Int) 3 ((List.map DoorR.row rs35).set a1.toNat ⟨[], Sl.nil⟩)) :: (.blk b46 (enc (EnterR.mk ({ r32 with Doors := p57 } : Enter) s34 s39)) 114) :: (.own Sl.nil 209 3 (encs ([] : List Word))) :: (.own Sl.nil 204 5 (encs ([] : List DoorR))) :: (.own s34 204 5 (encs (rs35.set a1.toNat (DoorR.mk ({ Door.zero with Clock := w64 (x48.Clock + (1 : Int)), Wish := w64 (x48.Clock + (1 : Int)), In := (a0.Doors.length : Int) == (1 : Int) } : Door) Sl.nil)))) :: (.own s39 209 3 (encs r32.Way)) :: (.blk b6 (enc (EnterR.mk ({ Enter.zero with Doors := ([] : List Door), Way := ([] : List Word) } : Enter) Sl.nil Sl.nil)) 114) :: (.own Sl.nil 209 3 (encs ([] : List Word))) :: (.own Sl.nil 204 5 (encs ([] : List DoorR))) :: (.blk b1 (enc (EnterR.mk a0 s_a0_0 s_a0_1)) 114) :: L) rfl ?_
 refine Lst.its (L' := (.rows (α := Int) 3 (List.map DoorR.row (rs35.set a1.toNat (DoorR.mk ({ Door.zero with Clock := w64 (x48.Clock + (1 : Int)), Wish := w64 (x48.Clock + (1 : Int)), In := (a0.Doors.length : Int) == (1 : Int) } : Door) Sl.nil)))) :: (.blk b46 (enc (EnterR.mk ({ r32 with Doors := p57 } : Enter) s34 s39)) 114) :: (.own Sl.nil 209 3 (encs ([] : List Word))) :: (.own Sl.nil 204 5 (encs ([] : List DoorR))) :: (.own s34 204 5 (encs (rs35.set a1.toNat (DoorR.mk ({ Door.zero with Clock := w64 (x48.Clock + (1 : Int)), Wish := w64 (x48.Clock + (1 : Int)), In := (a0.Doors.length : Int) == (1 : Int) } : Door) Sl.nil)))) :: (.own s39 209 3 (encs r32.Way)) :: (.blk b6 (enc (EnterR.mk ({ Enter.zero with Doors := ([] : List Door), Way := ([] : List Word) } : Enter) Sl.nil Sl.nil)) 114) :: (.own Sl.nil 209 3 (encs ([] : List Word))) :: (.own Sl.nil 204 5 (encs ([] : List DoorR))) :: (.blk b1 (enc (EnterR.mk a0 s_a0_0 s_a0_1)) 114) :: L) (by rw [map_set_nil (f := DoorR.row) (l := rs35) (y := (DoorR.mk ({ Door.zero with Clock := w64 (x48.Clock + (1 : Int)), Wish := w64 (x48.Clock + (1 : Int)), In := (a0.Doors.length : Int) == (1 : Int) } : Door) Sl.nil)) (b := ⟨[], Sl.nil⟩) rfl]) ?_
 refine Lst.nil ?_
 refine At.then ?_
 refine Cd.seq ?_
 refine Cd.seq ?_
 refine Cd.as (e' := [(1, iv a1), (4, pv b6 0), (6, iv (a0.Doors.length : Int)), (7, pv b46 0), (8, iv (w64 (x48.Clock + (1 : Int))))]) (L' := (.rows (α := Int) 3 (List.map DoorR.row (rs35.set a1.toNat (DoorR.mk ({ Door.zero with Clock := w64 (x48.Clock + (1 : Int)), Wish := w64 (x48.Clock + (1 : Int)), In := (a0.Doors.length : Int) == (1 : Int) } : Door) Sl.nil)))) :: (.blk b46 (enc (EnterR.mk ({ r32 with Doors := p57 } : Enter) s34 s39)) 114) :: (.own Sl.nil 209 3 (encs ([] : List Word))) :: (.own Sl.nil 204 5 (encs ([] : List DoorR))) :: (.own s34 204 5 (encs (rs35.set a1.toNat (DoorR.mk ({ Door.zero with Clock := w64 (x48.Clock + (1 : Int)), Wish := w64 (x48.Clock + (1 : Int)), In := (a0.Doors.length : Int) == (1 : Int) } : Door) Sl.nil)))) :: (.own s39 209 3 (encs r32.Way)) :: (.blk b6 (enc (EnterR.mk ({ Enter.zero with Doors := ([] : List Door), Way := ([] : List Word) } : Enter) Sl.nil Sl.nil)) 114) :: (.own Sl.nil 209 3 (encs ([] : List Word))) :: (.own Sl.nil 204 5 (encs ([] : List DoorR))) :: (.blk b1 (enc (EnterR.mk a0 s_a0_0 s_a0_1)) 114) :: L) ⟨rfl, rfl, rfl, rfl, rfl, trivial⟩ rfl ?_
 refine Cd.region ?_
 refine Lst.r (Ev.move rfl) ?_
 refine Lst.r (Ev.move rfl) ?_
 refine Lst.nil ?_
 refine At.then ?_
 refine Cd.block ?_
 refine Cd.bound (Rd.le (α := DoorR) (xs := rs_a0_0) (by decide) (hs_a0_0.mono (FLe.trans hF26 hF42) (sc8 (sc2 hM)))) (fun hN72 => ?_)
 rw [map_len hm_a0_0] at hN72
 obtain ⟨ol60, H, HKl60⟩ := bind_some H
 refine Cd.loop (σ := Nat × Nat × Enter × Sl × (List Word)) (fun (i60, k60, y61, s62, l63) => [(1, iv a1), (4, pv b6 0), (7, pv b46 0), (8, iv (w64 (x48.Clock + (1 : Int)))), (55, iv (a0.Doors.length : Int)), (56, iv (i60 : Int))]) (fun (i60, k60, y61, s62, l63) => (.rows (α := Int) 3 (List.map DoorR.row (rs35.set a1.toNat (DoorR.mk ({ Door.zero with Clock := w64 (x48.Clock + (1 : Int)), Wish := w64 (x48.Clock + (1 : Int)), In := (a0.Doors.length : Int) == (1 : Int) } : Door) Sl.nil)))) :: (.blk b46 (enc (EnterR.mk ({ y61 with Doors := p57, Way := l63 } : Enter) s34 s62)) 114) :: (.own Sl.nil 209 3 (encs ([] : List Word))) :: (.own Sl.nil 204 5 (encs ([] : List DoorR))) :: (.own s34 204 5 (encs (rs35.set a1.toNat (DoorR.mk ({ Door.zero with Clock := w64 (x48.Clock + (1 : Int)), Wish := w64 (x48.Clock + (1 : Int)), In := (a0.Doors.length : Int) == (1 : Int) } : Door) Sl.nil)))) :: (.own s62 209 3 (encs l63)) :: (.blk b6 (enc (EnterR.mk ({ Enter.zero with Doors := ([] : List Door), Way := ([] : List Word) } : Enter) Sl.nil Sl.nil)) 114) :: (.own Sl.nil 209 3 (encs ([] : List Word))) :: (.own Sl.nil 204 5 (encs ([] : List DoorR))) :: (.blk b1 (enc (EnterR.mk a0 s_a0_0 s_a0_1)) 114) :: L) (fun _ => (fun (i60, k60, y61, s62, l63) => rangeF (partref_EnterWish_B0 a1 x48 p57) k60 i60 (y61, l63) = some ol60 ∧ i60 + k60 = a0.Doors.length)) (fun (i60, k60, y61, s62, l63) => k60) (0, a0.Doors.length, ({ r32 with Doors := p57 } : Enter), s39, r32.Way) ⟨rfl, rfl, rfl, rfl, rfl, rfl, trivial⟩ rfl ⟨H, by omega⟩ ?_
 rintro F64 ⟨i60, k60, y61, s62, l63⟩ hF65 ⟨H, hik60⟩
 refine Cd.as (e' := [(1, iv a1), (4, pv b6 0), (7, pv b46 0), (8, iv (w64 (x48.Clock + (1 : Int)))), (55, iv (a0.Doors.length : Int)), (56, iv (i60 : Int))]) (L' := (.rows (α := Int) 3 (List.map DoorR.row (rs35.set a1.toNat (DoorR.mk ({ Door.zero with Clock := w64 (x48.Clock + (1 : Int)), Wish := w64 (x48.Clock + (1 : Int)), In := (a0.Doors.length : Int) == (1 : Int) } : Door) Sl.nil)))) :: (.blk b46 (enc (EnterR.mk ({ y61 with Doors := p57, Way := l63 } : Enter) s34 s62)) 114) :: (.own Sl.nil 209 3 (encs ([] : List Word))) :: (.own Sl.nil 204 5 (encs ([] : List DoorR))) :: (.own s34 204 5 (encs (rs35.set a1.toNat (DoorR.mk ({ Door.zero with Clock := w64 (x48.Clock + (1 : Int)), Wish := w64 (x48.Clock + (1 : Int)), In := (a0.Doors.length : Int) == (1 : Int) } : Door) Sl.nil)))) :: (.own s62 209 3 (encs l63)) :: (.blk b6 (enc (EnterR.mk ({ Enter.zero with Doors := ([] : List Door), Way := ([] : List Word) } : Enter) Sl.nil Sl.nil)) 114) :: (.own Sl.nil 209 3 (encs ([] : List Word))) :: (.own Sl.nil 204 5 (encs ([] : List DoorR))) :: (.blk b1 (enc (EnterR.mk a0 s_a0_0 s_a0_1)) 114) :: L) ⟨rfl, rfl, rfl, rfl, rfl, rfl, trivial⟩ rfl ?_
 rcases k60 with _ | k60
 ·have hc60 : decide ((i60 : Int) < (a0.Doors.length : Int)) = false := decide_eq_false (by omega)
  replace H := rangeF_end H
  refine Cd.seq ?_
  refine Cd.region ?_
  refine Lst.r (Ev.lss rfl rfl) ?_
  refine Lst.nil ?_
  refine At.then ?_
  refine Cd.seq ?_
  refine Cd.condF rfl hc60 ?_
  refine Cd.exit ?_
  refine At.then_exit ?_
  refine At.then_exit ?_
  refine At.in_exit ?_
  subst H
  replace H := HKl60
  refine At.then ?_
  refine Cd.seq ?_
  refine Cd.region ?_
  refine Lst.r (Ev.loadA (i := 1) rfl rfl Try.isAgg114 Try.sizeOf114 (ch := enc (EnterR.mk ({ y61 with Doors := p57, Way := l63 } : Enter) s34 s62)) (Enc.len _) (Get.here _)) ?_
  refine Lst.store (i := 6) rfl rfl rfl rfl rfl Try.sizeOf114 (vs := enc (EnterR.mk ({ y61 with Doors := p57, Way := l63 } : Enter) s34 s62)) rfl (Enc.len _) (Enc.one _) (cs' := enc (EnterR.mk ({ y61 with Doors := p57, Way := l63 } : Enter) s34 s62)) (Put.here ((Enc.len _).trans (Enc.len _).symm)) (L' := (.rows (α := Int) 3 (List.map DoorR.row (rs35.set a1.toNat (DoorR.mk ({ Door.zero with Clock := w64 (x48.Clock + (1 : Int)), Wish := w64 (x48.Clock + (1 : Int)), In := (a0.Doors.length : Int) == (1 : Int) } : Door) Sl.nil)))) :: (.blk b46 (enc (EnterR.mk ({ y61 with Doors := p57, Way := l63 } : Enter) s34 s62)) 114) :: (.own Sl.nil 209 3 (encs ([] : List Word))) :: (.own Sl.nil 204 5 (encs ([] : List DoorR))) :: (.own s34 204 5 (encs (rs35.set a1.toNat (DoorR.mk ({ Door.zero with Clock := w64 (x48.Clock + (1 : Int)), Wish := w64 (x48.Clock + (1 : Int)), In := (a0.Doors.length : Int) == (1 : Int) } : Door) Sl.nil)))) :: (.own s62 209 3 (encs l63)) :: (.blk b6 (enc (EnterR.mk ({ y61 with Doors := p57, Way := l63 } : Enter) s34 s62)) 114) :: (.own Sl.nil 209 3 (encs ([] : List Word))) :: (.own Sl.nil 204 5 (encs ([] : List DoorR))) :: (.blk b1 (enc (EnterR.mk a0 s_a0_0 s_a0_1)) 114) :: L) rfl ?_
  refine Lst.r (Ev.assign rfl) ?_
  refine Lst.nil ?_
  refine At.then ?_
  obtain rfl := some_inj H
  refine Cd.ret ?_
  exact At.ret2 rfl (Res.cellA (i := 6) rfl rfl Try.isAgg114 Try.sizeOf114 (Enc.len _)) (Res.tmp rfl) (FLe.trans (FLe.trans hF26 hF42) hF65) (sk1 (sc1 (sc1 (sc1 (sk1 (sk1 (sc1 (sc1 (sc1 (sc1 (.refl _))))))))))) ⟨s34, (rs35.set a1.toNat (DoorR.mk ({ Door.zero with Clock := w64 (x48.Clock + (1 : Int)), Wish := w64 (x48.Clock + (1 : Int)), In := (a0.Doors.length : Int) == (1 : Int) } : Door) Sl.nil)), s62, rfl, rfl, hm59⟩
 have hc60 : decide ((i60 : Int) < (a0.Doors.length : Int)) = true := decide_eq_true (by omega)
 obtain ⟨c60, H, hgo60⟩ := rangeF_go H
 unfold partref_EnterWish_B0 at H
 try dsimp only at H
 refine Cd.seq ?_
 refine Cd.region ?_
 refine Lst.r (Ev.lss rfl rfl) ?_
 refine Lst.nil ?_
 refine At.then ?_
 refine Cd.seq ?_
 refine Cd.condT rfl hc60 ?_
 refine Cd.skip ?_
 refine At.then ?_
 refine Cd.seq ?_
 refine Cd.block ?_
 refine Cd.seq ?_
 refine Cd.region ?_
 refine Lst.r (Ev.move rfl) ?_
 refine Lst.r (Ev.assign rfl) ?_
 refine Lst.nil ?_
 refine At.then ?_
 refine Cd.seq ?_
 refine Cd.region ?_
 refine Lst.r (Ev.move rfl) ?_
 refine Lst.r (Ev.move rfl) ?_
 refine Lst.r (Ev.neq rfl rfl) ?_
 refine Lst.nil ?_
 refine At.then ?_
 rcases (Bool.eq_false_or_eq_true ((i60 : Int) != a1)).symm with hb66 | hb66
 ·replace H := ite_f hb66 H
  refine Cd.condF rfl hb66 ?_
  refine Cd.skip ?_
  refine At.in_normal ?_
  refine At.then ?_
  refine Cd.region ?_
  refine Lst.r (Ev.incr (by omega) rfl rfl) ?_
  refine Lst.r (Ev.move rfl) ?_
  refine Lst.nil ?_
  exact At.meet (i60 + 1, k60, ({ y61 with Doors := p57, Way := l63 } : Enter), s62, l63) hF65 ⟨rfl, rfl, rfl, rfl, rfl, rfl, trivial⟩ rfl ⟨⟨hgo60 _ (some_inj H).symm, by omega⟩, Nat.lt_succ_self _⟩
 replace H := ite_t hb66 H
 refine Cd.condT rfl hb66 ?_
 refine Cd.region ?_
 refine Lst.r (Ev.fieldAddr (off' := 1) rfl Try.runUnderlying114 rfl Try.sizeOf112 rfl rfl) ?_
 refine Lst.r (Ev.load (i := 1) rfl rfl Try.isAgg112 (v := Sl.v s62) ((EnterR.get_Way (Get.here _)).off (by rfl))) ?_
 refine Lst.r (Ev.move rfl) ?_
 refine Lst.r (Ev.move rfl) ?_
 refine Lst.r (Ev.move rfl) ?_
 refine Lst.r (Ev.build (v := .agg (enc ({ Word.zero with From := a1, To := (i60 : Int), At := w64 (x48.Clock + (1 : Int)) } : Word)).toArray) (pv := [(0, iv a1), (1, iv (i60 : Int)), (2, iv (w64 (x48.Clock + (1 : Int))))]) ⟨rfl, rfl, ⟨rfl, rfl, ⟨rfl, rfl, trivial⟩⟩⟩ (fun w => by kernel_rfl)) ?_
 refine Lst.buildSlice (α := Word) (xs := ([({ Word.zero with From := a1, To := (i60 : Int), At := w64 (x48.Clock + (1 : Int)) } : Word)] : List Word)) (pv := [(0, .agg (enc ({ Word.zero with From := a1, To := (i60 : Int), At := w64 (x48.Clock + (1 : Int)) } : Word)).toArray)]) rfl rfl (by decide) ⟨rfl, rfl, trivial⟩ (run_buildSlice (α := Word) (z0 := Word.zero) (xs := ([({ Word.zero with From := a1, To := (i60 : Int), At := w64 (x48.Clock + (1 : Int)) } : Word)] : List Word)) Try.runUnderlying112 Try.sizeOf209 Try.zeroValue209 rfl rfl rfl (by decide) rfl (fill_cons (cs := encs (List.replicate 1 Word.zero)) (cs' := encs ((List.replicate 1 Word.zero).set 0 ({ Word.zero with From := a1, To := (i60 : Int), At := w64 (x48.Clock + (1 : Int)) } : Word))) (vs := enc ({ Word.zero with From := a1, To := (i60 : Int), At := w64 (x48.Clock + (1 : Int)) } : Word)) rfl rfl (Enc.len _) ((Put.elemN (s := 3) (i := 0) (x := Word.zero) (y := ({ Word.zero with From := a1, To := (i60 : Int), At := w64 (x48.Clock + (1 : Int)) } : Word)) rfl rfl (Put.here ((Enc.len _).trans (Enc.len _).symm))).off rfl) fill_nil)) rfl rfl (by decide) (fun s67 _ => ?_)
 obtain ⟨u69, h70, H⟩ := bind_some H
 refine Lst.append (i := 6) (α := Word) (xs := l63) (ys := ([({ Word.zero with From := a1, To := (i60 : Int), At := w64 (x48.Clock + (1 : Int)) } : Word)] : List Word)) rfl rfl (by decide) rfl rfl Try.runUnderlying112 Try.typeInfo209 rfl rfl rfl rfl rfl rfl (Rd.own (i := 0) rfl rfl rfl) rfl (room_some h70) rfl (fun s71 => ?_)
 refine Lst.its (L' := (.own s67 209 3 (encs ([({ Word.zero with From := a1, To := (i60 : Int), At := w64 (x48.Clock + (1 : Int)) } : Word)] : List Word))) :: (.rows (α := Int) 3 (List.map DoorR.row (rs35.set a1.toNat (DoorR.mk ({ Door.zero with Clock := w64 (x48.Clock + (1 : Int)), Wish := w64 (x48.Clock + (1 : Int)), In := (a0.Doors.length : Int) == (1 : Int) } : Door) Sl.nil)))) :: (.blk b46 (enc (EnterR.mk ({ y61 with Doors := p57 } : Enter) s34 s62)) 114) :: (.own Sl.nil 209 3 (encs ([] : List Word))) :: (.own Sl.nil 204 5 (encs ([] : List DoorR))) :: (.own s34 204 5 (encs (rs35.set a1.toNat (DoorR.mk ({ Door.zero with Clock := w64 (x48.Clock + (1 : Int)), Wish := w64 (x48.Clock + (1 : Int)), In := (a0.Doors.length : Int) == (1 : Int) } : Door) Sl.nil)))) :: (.own s71 209 3 (encs (l63 ++ ([({ Word.zero with From := a1, To := (i60 : Int), At := w64 (x48.Clock + (1 : Int)) } : Word)] : List Word)))) :: (.blk b6 (enc (EnterR.mk ({ Enter.zero with Doors := ([] : List Door), Way := ([] : List Word) } : Enter) Sl.nil Sl.nil)) 114) :: (.own Sl.nil 209 3 (encs ([] : List Word))) :: (.own Sl.nil 204 5 (encs ([] : List DoorR))) :: (.blk b1 (enc (EnterR.mk a0 s_a0_0 s_a0_1)) 114) :: L) rfl ?_
 refine Lst.r (Ev.fieldAddr (off' := 1) rfl Try.runUnderlying114 rfl Try.sizeOf112 rfl rfl) ?_
 refine Lst.store (i := 2) rfl rfl rfl rfl rfl Try.sizeOf112 (vs := [Sl.v s71]) rfl rfl rfl (cs' := enc (EnterR.mk ({ y61 with Doors := p57, Way := l63 ++ ([({ Word.zero with From := a1, To := (i60 : Int), At := w64 (x48.Clock + (1 : Int)) } : Word)] : List Word) } : Enter) s34 s71)) ((EnterR.put_Way (Put.here (vs := [Sl.v s71]) rfl)).off (by rfl)) (L' := (.own s67 209 3 (encs ([({ Word.zero with From := a1, To := (i60 : Int), At := w64 (x48.Clock + (1 : Int)) } : Word)] : List Word))) :: (.rows (α := Int) 3 (List.map DoorR.row (rs35.set a1.toNat (DoorR.mk ({ Door.zero with Clock := w64 (x48.Clock + (1 : Int)), Wish := w64 (x48.Clock + (1 : Int)), In := (a0.Doors.length : Int) == (1 : Int) } : Door) Sl.nil)))) :: (.blk b46 (enc (EnterR.mk ({ y61 with Doors := p57, Way := l63 ++ ([({ Word.zero with From := a1, To := (i60 : Int), At := w64 (x48.Clock + (1 : Int)) } : Word)] : List Word) } : Enter) s34 s71)) 114) :: (.own Sl.nil 209 3 (encs ([] : List Word))) :: (.own Sl.nil 204 5 (encs ([] : List DoorR))) :: (.own s34 204 5 (encs (rs35.set a1.toNat (DoorR.mk ({ Door.zero with Clock := w64 (x48.Clock + (1 : Int)), Wish := w64 (x48.Clock + (1 : Int)), In := (a0.Doors.length : Int) == (1 : Int) } : Door) Sl.nil)))) :: (.own s71 209 3 (encs (l63 ++ ([({ Word.zero with From := a1, To := (i60 : Int), At := w64 (x48.Clock + (1 : Int)) } : Word)] : List Word)))) :: (.blk b6 (enc (EnterR.mk ({ Enter.zero with Doors := ([] : List Door), Way := ([] : List Word) } : Enter) Sl.nil Sl.nil)) 114) :: (.own Sl.nil 209 3 (encs ([] : List Word))) :: (.own Sl.nil 204 5 (encs ([] : List DoorR))) :: (.blk b1 (enc (EnterR.mk a0 s_a0_0 s_a0_1)) 114) :: L) rfl ?_
 refine Lst.nil ?_
 refine At.in_normal ?_
 refine At.then ?_
 refine Cd.as (e' := [(1, iv a1), (4, pv b6 0), (7, pv b46 0), (8, iv (w64 (x48.Clock + (1 : Int)))), (55, iv (a0.Doors.length : Int)), (56, iv (i60 : Int))]) (L' := (.own s67 209 3 (encs ([({ Word.zero with From := a1, To := (i60 : Int), At := w64 (x48.Clock + (1 : Int)) } : Word)] : List Word))) :: (.rows (α := Int) 3 (List.map DoorR.row (rs35.set a1.toNat (DoorR.mk ({ Door.zero with Clock := w64 (x48.Clock + (1 : Int)), Wish := w64 (x48.Clock + (1 : Int)), In := (a0.Doors.length : Int) == (1 : Int) } : Door) Sl.nil)))) :: (.blk b46 (enc (EnterR.mk ({ y61 with Doors := p57, Way := l63 ++ ([({ Word.zero with From := a1, To := (i60 : Int), At := w64 (x48.Clock + (1 : Int)) } : Word)] : List Word) } : Enter) s34 s71)) 114) :: (.own Sl.nil 209 3 (encs ([] : List Word))) :: (.own Sl.nil 204 5 (encs ([] : List DoorR))) :: (.own s34 204 5 (encs (rs35.set a1.toNat (DoorR.mk ({ Door.zero with Clock := w64 (x48.Clock + (1 : Int)), Wish := w64 (x48.Clock + (1 : Int)), In := (a0.Doors.length : Int) == (1 : Int) } : Door) Sl.nil)))) :: (.own s71 209 3 (encs (l63 ++ ([({ Word.zero with From := a1, To := (i60 : Int), At := w64 (x48.Clock + (1 : Int)) } : Word)] : List Word)))) :: (.blk b6 (enc (EnterR.mk ({ Enter.zero with Doors := ([] : List Door), Way := ([] : List Word) } : Enter) Sl.nil Sl.nil)) 114) :: (.own Sl.nil 209 3 (encs ([] : List Word))) :: (.own Sl.nil 204 5 (encs ([] : List DoorR))) :: (.blk b1 (enc (EnterR.mk a0 s_a0_0 s_a0_1)) 114) :: L) ⟨rfl, rfl, rfl, rfl, rfl, rfl, trivial⟩ rfl ?_
 refine Cd.region ?_
 refine Lst.r (Ev.incr (by omega) rfl rfl) ?_
 refine Lst.r (Ev.move rfl) ?_
 refine Lst.nil ?_
 refine At.less (L' := (.rows (α := Int) 3 (List.map DoorR.row (rs35.set a1.toNat (DoorR.mk ({ Door.zero with Clock := w64 (x48.Clock + (1 : Int)), Wish := w64 (x48.Clock + (1 : Int)), In := (a0.Doors.length : Int) == (1 : Int) } : Door) Sl.nil)))) :: (.blk b46 (enc (EnterR.mk ({ y61 with Doors := p57, Way := l63 ++ ([({ Word.zero with From := a1, To := (i60 : Int), At := w64 (x48.Clock + (1 : Int)) } : Word)] : List Word) } : Enter) s34 s71)) 114) :: (.own Sl.nil 209 3 (encs ([] : List Word))) :: (.own Sl.nil 204 5 (encs ([] : List DoorR))) :: (.own s34 204 5 (encs (rs35.set a1.toNat (DoorR.mk ({ Door.zero with Clock := w64 (x48.Clock + (1 : Int)), Wish := w64 (x48.Clock + (1 : Int)), In := (a0.Doors.length : Int) == (1 : Int) } : Door) Sl.nil)))) :: (.own s71 209 3 (encs (l63 ++ ([({ Word.zero with From := a1, To := (i60 : Int), At := w64 (x48.Clock + (1 : Int)) } : Word)] : List Word)))) :: (.blk b6 (enc (EnterR.mk ({ Enter.zero with Doors := ([] : List Door), Way := ([] : List Word) } : Enter) Sl.nil Sl.nil)) 114) :: (.own Sl.nil 209 3 (encs ([] : List Word))) :: (.own Sl.nil 204 5 (encs ([] : List DoorR))) :: (.blk b1 (enc (EnterR.mk a0 s_a0_0 s_a0_1)) 114) :: L) (sc1 (sk1 (sk1 (sk1 (sk1 (sk1 (sk1 (sk1 (sk1 (sk1 (sk1 (.refl _)))))))))))) ?_
 exact At.meet (i60 + 1, k60, ({ y61 with Doors := p57, Way := l63 ++ ([({ Word.zero with From := a1, To := (i60 : Int), At := w64 (x48.Clock + (1 : Int)) } : Word)] : List Word) } : Enter), s71, l63 ++ ([({ Word.zero with From := a1, To := (i60 : Int), At := w64 (x48.Clock + (1 : Int)) } : Word)] : List Word)) hF65 ⟨rfl, rfl, rfl, rfl, rfl, rfl, trivial⟩ rfl ⟨⟨hgo60 _ (some_inj H).symm, by omega⟩, Nat.lt_succ_self _⟩
set_option maxRecDepth 20000 in
theorem partref_EnterLeave_sim {a0 : Enter} {a1 : Int} {s_a0_0 : Sl} {rs_a0_0 : List DoorR} {s_a0_1 : Sl} {r : Enter × Int} (H : partref_EnterLeave a0 a1 = some r) (w0 : World) (F : Frz) (M L : List Item) (hM : M.Sublist L) (hm_a0_0 : rs_a0_0.map DoorR.v = a0.Doors) (hs_a0_0 : Rd w0 F M s_a0_0 rs_a0_0) (ha_a0_0 : All DoorR.rel w0 F M rs_a0_0) (hs_a0_1 : Rd w0 F M s_a0_1 a0.Way) : Ok Try.prog w0 72 [.agg (enc (EnterR.mk a0 s_a0_0 s_a0_1)).toArray, iv a1] F (L) (fun Fx L' v => ∃ (s1 : Sl) (rs2 : List DoorR) (s6 : Sl), v = .tuple #[.agg (enc (EnterR.mk r.1 s1 s6)).toArray, iv r.2] ∧ L' = (.rows (α := Int) 3 (List.map DoorR.row rs2)) :: (.own s1 204 5 (encs rs2)) :: (.own s6 209 3 (encs r.1.Way)) :: L ∧ rs2.map DoorR.v = r.1.Doors) := by
 unfold partref_EnterLeave at H
 refine Ok.enter (m := 2) (n := 64) Try.func72 rfl rfl rfl (by decide) ?_
 refine Cd.env (e' := [(0, .agg (enc (EnterR.mk a0 s_a0_0 s_a0_1)).toArray), (1, iv a1)]) rfl ?_
 refine Cd.seq ?_
 refine Cd.region ?_
 refine Lst.box rfl rfl (by decide) rfl (cs := enc (EnterR.mk a0 s_a0_0 s_a0_1)) rfl (fun b1 => ?_)
 have ha4 : All DoorR.rel w0 F [] ([] : List DoorR) := All.nil
 have ha4m : List.map DoorR.v ([] : List DoorR) = ([] : List Door) := rfl
 refine Lst.addNil 204 5 ?_
 refine Lst.addNil 209 3 ?_
 refine Lst.alloc (cs := enc (EnterR.mk ({ Enter.zero with Doors := ([] : List Door), Way := ([] : List Word) } : Enter) Sl.nil Sl.nil)) rfl rfl (by decide) Try.zeroValue114 rfl (fun b6 => ?_)
 refine Lst.r (Ev.assign rfl) ?_
 refine Lst.nil ?_
 refine At.then ?_
 refine Cd.seq ?_
 refine Cd.seq ?_
 refine Cd.region ?_
 refine Lst.r (Ev.fieldAddr (off' := 0) rfl Try.runUnderlying114 rfl Try.sizeOf111 rfl rfl) ?_
 refine Lst.r (Ev.load (i := 3) rfl rfl Try.isAgg111 (v := Sl.v s_a0_0) ((EnterR.get_Doors (Get.here _)).off (by rfl))) ?_
 refine Lst.r (Ev.move rfl) ?_
 obtain ⟨x8, h9, H⟩ := bind_some H
 have g10 := lat_some h9
 obtain ⟨⟨r11v, r11h4⟩, r11g, r11e, r11m⟩ := map_get hm_a0_0 g10.2.2
 obtain rfl : x8 = r11v := r11e.symm
 have r11q : DoorR.rel w0 _ _ (DoorR.mk x8 r11h4) := ha_a0_0 _ r11m
 have r11_f4 : Rd w0 _ _ _ _ := r11q
 refine Lst.r (Ev.indexS (α := DoorR) (xs := rs_a0_0) rfl rfl Try.runUnderlying111 Try.sizeOf204 rfl (by decide) (hs_a0_0.mono (FLe.refl _) (sc4 hM)) g10.1 (by have := map_len hm_a0_0; omega)) ?_
 refine Lst.r (Ev.fieldS (α := DoorR) (f' := a1.toNat * 5 + 3) rfl (hs_a0_0.mono (FLe.refl _) (sc4 hM)) ((Get.elemN (s := 5) rfl r11g (Get.here _)).off (by omega)) rfl Try.runUnderlying204 rfl Try.sizeOf4 rfl rfl rfl) ?_
 refine Lst.r (Ev.loadS (α := DoorR) rfl (hs_a0_0.mono (FLe.refl _) (sc4 hM)) Try.isAgg4 (v := .bool x8.In) ((Get.elemN (s := 5) rfl r11g (DoorR.get_In (Get.here _))).off (by omega))) ?_
 refine Lst.r (Ev.not rfl) ?_
 refine Lst.nil ?_
 refine At.then ?_
 rcases Bool.eq_false_or_eq_true (!x8.In) with hb12 | hb12
 ·replace H := ite_t hb12 H
  refine Cd.condT rfl hb12 ?_
  refine Cd.seq ?_
  refine Cd.region ?_
  refine Lst.r (Ev.build (v := .agg (enc (EnterR.mk Enter.zero Sl.nil Sl.nil)).toArray) (pv := []) trivial (fun w => by kernel_rfl)) ?_
  refine Lst.store (i := 0) rfl rfl rfl rfl rfl Try.sizeOf114 (vs := enc (EnterR.mk Enter.zero Sl.nil Sl.nil)) rfl (Enc.len _) (Enc.one _) (cs' := enc (EnterR.mk Enter.zero Sl.nil Sl.nil)) (Put.here ((Enc.len _).trans (Enc.len _).symm)) (L' := (.blk b6 (enc (EnterR.mk Enter.zero Sl.nil Sl.nil)) 114) :: (.own Sl.nil 209 3 (encs ([] : List Word))) :: (.own Sl.nil 204 5 (encs ([] : List DoorR))) :: (.blk b1 (enc (EnterR.mk a0 s_a0_0 s_a0_1)) 114) :: L) rfl ?_
  refine Lst.r (Ev.assign rfl) ?_
  refine Lst.nil ?_
  refine At.then ?_
  obtain rfl := some_inj H
  refine Cd.ret ?_
  refine At.then_ret ?_
  have ha15m : List.map DoorR.v ([] : List DoorR) = ([] : List Door) := rfl
  refine At.addNil 204 5 ?_
  refine At.rowsNil Int 3 0 ?_
  refine At.its (L' := (.rows (α := Int) 3 (List.map DoorR.row ([] : List DoorR))) :: (.own Sl.nil 204 5 (encs ([] : List DoorR))) :: (.blk b6 (enc (EnterR.mk Enter.zero Sl.nil Sl.nil)) 114) :: (.own Sl.nil 209 3 (encs ([] : List Word))) :: (.own Sl.nil 204 5 (encs ([] : List DoorR))) :: (.blk b1 (enc (EnterR.mk a0 s_a0_0 s_a0_1)) 114) :: L) rfl ?_
  refine At.addNil 209 3 ?_
  refine At.front (i := 2) rfl rfl ?_
  refine At.front (i := 2) rfl (L' := (.rows (α := Int) 3 (List.map DoorR.row ([] : List DoorR))) :: (.own Sl.nil 204 5 (encs ([] : List DoorR))) :: (.own Sl.nil 209 3 (encs ([] : List Word))) :: (.blk b6 (enc (EnterR.mk ({ Enter.zero with Doors := ([] : List Door), Way := ([] : List Word) } : Enter) Sl.nil Sl.nil)) 114) :: (.own Sl.nil 209 3 (encs ([] : List Word))) :: (.own Sl.nil 204 5 (encs ([] : List DoorR))) :: (.blk b1 (enc (EnterR.mk a0 s_a0_0 s_a0_1)) 114) :: L) rfl ?_
  exact At.ret2 rfl (Res.cellA (i := 3) rfl rfl Try.isAgg114 Try.sizeOf114 (Enc.len _)) (Res.tmp rfl) (FLe.refl _) (sk1 (sk1 (sk1 (sc1 (sc1 (sc1 (sc1 (.refl _)))))))) ⟨Sl.nil, ([] : List DoorR), Sl.nil, rfl, rfl, ha15m⟩
 replace H := ite_f hb12 H
 refine Cd.condF rfl hb12 ?_
 refine Cd.skip ?_
 refine At.then ?_
 refine Cd.seq ?_
 refine Cd.seq ?_
 refine Cd.quiet (by kernel_rfl) (by kernel_rfl) ?_
 refine Qt.r (Ev.fieldAddr (off' := 1) rfl Try.runUnderlying114 rfl Try.sizeOf112 rfl rfl) ?_
 refine Qt.r (Ev.load (i := 3) rfl rfl Try.isAgg112 (v := Sl.v s_a0_1) ((EnterR.get_Way (Get.here _)).off (by rfl))) ?_
 refine Qt.r (Ev.lenS (α := Word) (xs := a0.Way) (by decide) rfl rfl Try.runUnderlying112 (hs_a0_1.mono (FLe.refl _) (sc4 hM))) ?_
 refine Qt.r (Ev.fieldAddr (off' := 0) rfl Try.runUnderlying114 rfl Try.sizeOf111 rfl rfl) ?_
 refine Qt.r (Ev.load (i := 3) rfl rfl Try.isAgg111 (v := Sl.v s_a0_0) ((EnterR.get_Doors (Get.here _)).off (by rfl))) ?_
 refine Qt.r (Ev.move rfl) ?_
 obtain ⟨x17, h18, H⟩ := bind_some H
 have g19 := lat_some h18
 obtain ⟨⟨r20v, r20h4⟩, r20g, r20e, r20m⟩ := map_get hm_a0_0 g19.2.2
 obtain rfl : x17 = r20v := r20e.symm
 have r20q : DoorR.rel w0 _ _ (DoorR.mk x17 r20h4) := ha_a0_0 _ r20m
 have r20_f4 : Rd w0 _ _ _ _ := r20q
 refine Qt.r (Ev.indexS (α := DoorR) (xs := rs_a0_0) rfl rfl Try.runUnderlying111 Try.sizeOf204 rfl (by decide) (hs_a0_0.mono (FLe.refl _) (sc4 hM)) g19.1 (by have := map_len hm_a0_0; omega)) ?_
 refine Qt.r (Ev.fieldS (α := DoorR) (f' := a1.toNat * 5 + 4) rfl (hs_a0_0.mono (FLe.refl _) (sc4 hM)) ((Get.elemN (s := 5) rfl r20g (Get.here _)).off (by omega)) rfl Try.runUnderlying204 rfl Try.sizeOf36 rfl rfl rfl) ?_
 refine Qt.r (Ev.loadS (α := DoorR) rfl (hs_a0_0.mono (FLe.refl _) (sc4 hM)) Try.isAgg36 (v := Sl.v r20h4) ((Get.elemN (s := 5) rfl r20g (DoorR.get_Later (Get.here _))).off (by omega))) ?_
 refine Qt.r (Ev.lenS (α := Int) (xs := x17.Later) (by decide) rfl rfl Try.runUnderlying36 (r20_f4.mono (FLe.refl _) (sc4 hM))) ?_
 refine Qt.r (Ev.add rfl rfl) ?_
 refine Qt.r (Ev.gtr rfl rfl) ?_
 refine Qt.done ?_
 refine At.then ?_
 rcases Bool.eq_false_or_eq_true (decide ((w64 ((a0.Way.length : Int) + (x17.Later.length : Int))) > (100 : Int))) with hb21 | hb21
 ·replace H := ite_t hb21 H
  refine Cd.condT rfl hb21 ?_
  refine Cd.seq ?_
  refine Cd.as (e' := [(4, pv b6 0)]) (L' := (.blk b6 (enc (EnterR.mk ({ Enter.zero with Doors := ([] : List Door), Way := ([] : List Word) } : Enter) Sl.nil Sl.nil)) 114) :: (.own Sl.nil 209 3 (encs ([] : List Word))) :: (.own Sl.nil 204 5 (encs ([] : List DoorR))) :: (.blk b1 (enc (EnterR.mk a0 s_a0_0 s_a0_1)) 114) :: L) ⟨rfl, trivial⟩ rfl ?_
  refine Cd.region ?_
  refine Lst.r (Ev.build (v := .agg (enc (EnterR.mk Enter.zero Sl.nil Sl.nil)).toArray) (pv := []) trivial (fun w => by kernel_rfl)) ?_
  refine Lst.store (i := 0) rfl rfl rfl rfl rfl Try.sizeOf114 (vs := enc (EnterR.mk Enter.zero Sl.nil Sl.nil)) rfl (Enc.len _) (Enc.one _) (cs' := enc (EnterR.mk Enter.zero Sl.nil Sl.nil)) (Put.here ((Enc.len _).trans (Enc.len _).symm)) (L' := (.blk b6 (enc (EnterR.mk Enter.zero Sl.nil Sl.nil)) 114) :: (.own Sl.nil 209 3 (encs ([] : List Word))) :: (.own Sl.nil 204 5 (encs ([] : List DoorR))) :: (.blk b1 (enc (EnterR.mk a0 s_a0_0 s_a0_1)) 114) :: L) rfl ?_
  refine Lst.r (Ev.assign rfl) ?_
  refine Lst.nil ?_
  refine At.then ?_
  obtain rfl := some_inj H
  refine Cd.ret ?_
  refine At.then_ret ?_
  have ha24m : List.map DoorR.v ([] : List DoorR) = ([] : List Door) := rfl
  refine At.addNil 204 5 ?_
  refine At.rowsNil Int 3 0 ?_
  refine At.its (L' := (.rows (α := Int) 3 (List.map DoorR.row ([] : List DoorR))) :: (.own Sl.nil 204 5 (encs ([] : List DoorR))) :: (.blk b6 (enc (EnterR.mk Enter.zero Sl.nil Sl.nil)) 114) :: (.own Sl.nil 209 3 (encs ([] : List Word))) :: (.own Sl.nil 204 5 (encs ([] : List DoorR))) :: (.blk b1 (enc (EnterR.mk a0 s_a0_0 s_a0_1)) 114) :: L) rfl ?_
  refine At.addNil 209 3 ?_
  refine At.front (i := 2) rfl rfl ?_
  refine At.front (i := 2) rfl (L' := (.rows (α := Int) 3 (List.map DoorR.row ([] : List DoorR))) :: (.own Sl.nil 204 5 (encs ([] : List DoorR))) :: (.own Sl.nil 209 3 (encs ([] : List Word))) :: (.blk b6 (enc (EnterR.mk ({ Enter.zero with Doors := ([] : List Door), Way := ([] : List Word) } : Enter) Sl.nil Sl.nil)) 114) :: (.own Sl.nil 209 3 (encs ([] : List Word))) :: (.own Sl.nil 204 5 (encs ([] : List DoorR))) :: (.blk b1 (enc (EnterR.mk a0 s_a0_0 s_a0_1)) 114) :: L) rfl ?_
  exact At.ret2 rfl (Res.cellA (i := 3) rfl rfl Try.isAgg114 Try.sizeOf114 (Enc.len _)) (Res.tmp rfl) (FLe.refl _) (sk1 (sk1 (sk1 (sc1 (sc1 (sc1 (sc1 (.refl _)))))))) ⟨Sl.nil, ([] : List DoorR), Sl.nil, rfl, rfl, ha24m⟩
 replace H := ite_f hb21 H
 refine Cd.condF rfl hb21 ?_
 refine Cd.skip ?_
 refine At.then ?_
 refine Cd.seq ?_
 refine Cd.as (e' := [(1, iv a1), (2, pv b1 0), (4, pv b6 0)]) (L' := (.blk b6 (enc (EnterR.mk ({ Enter.zero with Doors := ([] : List Door), Way := ([] : List Word) } : Enter) Sl.nil Sl.nil)) 114) :: (.own Sl.nil 209 3 (encs ([] : List Word))) :: (.own Sl.nil 204 5 (encs ([] : List DoorR))) :: (.blk b1 (enc (EnterR.mk a0 s_a0_0 s_a0_1)) 114) :: L) ⟨rfl, rfl, rfl, trivial⟩ rfl ?_
 refine Cd.region ?_
 refine Lst.r (Ev.loadA (i := 3) rfl rfl Try.isAgg114 Try.sizeOf114 (ch := enc (EnterR.mk a0 s_a0_0 s_a0_1)) (Enc.len _) (Get.here _)) ?_
 obtain ⟨r26, h27, H⟩ := bind_some H
 refine Lst.call rfl rfl (by decide) (vs := [.agg (enc (EnterR.mk a0 s_a0_0 s_a0_1)).toArray]) ⟨rfl, trivial⟩ Try.call163 (partref_enterCopy_sim h27 w0 _ M _ (sc4 hM) hm_a0_0 (hs_a0_0.mono (FLe.refl _) (.refl _)) (All.monoDoor ha_a0_0 (FLe.refl _) (.refl _)) (hs_a0_1.mono (FLe.refl _) (.refl _))) (fun F35 L' v hF36 hv => ?_)
 obtain ⟨s28, rs29, s33, rfl, rfl, fm30⟩ := hv
 have ha38 : All DoorR.rel w0 F35 [] ([] : List DoorR) := All.nil
 have ha38m : List.map DoorR.v ([] : List DoorR) = ([] : List Door) := rfl
 refine Lst.addNil 204 5 ?_
 refine Lst.addNil 209 3 ?_
 refine Lst.alloc (cs := enc (EnterR.mk ({ Enter.zero with Doors := ([] : List Door), Way := ([] : List Word) } : Enter) Sl.nil Sl.nil)) rfl rfl (by decide) Try.zeroValue114 rfl (fun b40 => ?_)
 refine Lst.store (i := 0) rfl rfl rfl rfl rfl Try.sizeOf114 (vs := enc (EnterR.mk r26 s28 s33)) rfl (Enc.len _) (Enc.one _) (cs' := enc (EnterR.mk r26 s28 s33)) (Put.here ((Enc.len _).trans (Enc.len _).symm)) (L' := (.blk b40 (enc (EnterR.mk r26 s28 s33)) 114) :: (.own Sl.nil 209 3 (encs ([] : List Word))) :: (.own Sl.nil 204 5 (encs ([] : List DoorR))) :: (.rows (α := Int) 3 (List.map DoorR.row rs29)) :: (.own s28 204 5 (encs rs29)) :: (.own s33 209 3 (encs r26.Way)) :: (.blk b6 (enc (EnterR.mk ({ Enter.zero with Doors := ([] : List Door), Way := ([] : List Word) } : Enter) Sl.nil Sl.nil)) 114) :: (.own Sl.nil 209 3 (encs ([] : List Word))) :: (.own Sl.nil 204 5 (encs ([] : List DoorR))) :: (.blk b1 (enc (EnterR.mk a0 s_a0_0 s_a0_1)) 114) :: L) rfl ?_
 refine Lst.nil ?_
 refine At.then ?_
 refine Cd.seq ?_
 refine Cd.seq ?_
 refine Cd.region ?_
 refine Lst.r (Ev.fieldAddr (off' := 0) rfl Try.runUnderlying114 rfl Try.sizeOf111 rfl rfl) ?_
 refine Lst.r (Ev.load (i := 9) rfl rfl Try.isAgg111 (v := Sl.v s_a0_0) ((EnterR.get_Doors (Get.here _)).off (by rfl))) ?_
 refine Lst.r (Ev.move rfl) ?_
 obtain ⟨x42, h43, H⟩ := bind_some H
 have g44 := lat_some h43
 obtain ⟨⟨r45v, r45h4⟩, r45g, r45e, r45m⟩ := map_get hm_a0_0 g44.2.2
 obtain rfl : x42 = r45v := r45e.symm
 have r45q : DoorR.rel w0 _ _ (DoorR.mk x42 r45h4) := ha_a0_0 _ r45m
 have r45_f4 : Rd w0 _ _ _ _ := r45q
 refine Lst.r (Ev.indexS (α := DoorR) (xs := rs_a0_0) rfl rfl Try.runUnderlying111 Try.sizeOf204 rfl (by decide) (hs_a0_0.mono hF36 (sc8 (sc2 hM))) g44.1 (by have := map_len hm_a0_0; omega)) ?_
 refine Lst.r (Ev.fieldS (α := DoorR) (f' := a1.toNat * 5 + 4) rfl (hs_a0_0.mono hF36 (sc8 (sc2 hM))) ((Get.elemN (s := 5) rfl r45g (Get.here _)).off (by omega)) rfl Try.runUnderlying204 rfl Try.sizeOf36 rfl rfl rfl) ?_
 refine Lst.r (Ev.loadS (α := DoorR) rfl (hs_a0_0.mono hF36 (sc8 (sc2 hM))) Try.isAgg36 (v := Sl.v r45h4) ((Get.elemN (s := 5) rfl r45g (DoorR.get_Later (Get.here _))).off (by omega))) ?_
 refine Lst.r (Ev.lenS (α := Int) (xs := x42.Later) (by decide) rfl rfl Try.runUnderlying36 (r45_f4.mono hF36 (sc8 (sc2 hM)))) ?_
 refine Lst.r (Ev.move rfl) ?_
 refine Lst.nil ?_
 refine At.then ?_
 refine Cd.block ?_
 refine Cd.bound (Rd.le (α := Int) (xs := x42.Later) (by decide) (r45_f4.mono hF36 (sc8 (sc2 hM)))) (fun hN72 => ?_)
 obtain ⟨ol46, H, HKl46⟩ := bind_some H
 refine Cd.loop (σ := Nat × Nat × Enter × Sl × (List Word)) (fun (i46, k46, y47, s48, l49) => [(1, iv a1), (2, pv b1 0), (4, pv b6 0), (6, pv b40 0), (37, Sl.v r45h4), (38, iv (x42.Later.length : Int)), (39, iv (i46 : Int))]) (fun (i46, k46, y47, s48, l49) => (.blk b40 (enc (EnterR.mk ({ y47 with Doors := r26.Doors, Way := l49 } : Enter) s28 s48)) 114) :: (.own Sl.nil 209 3 (encs ([] : List Word))) :: (.own Sl.nil 204 5 (encs ([] : List DoorR))) :: (.rows (α := Int) 3 (List.map DoorR.row rs29)) :: (.own s28 204 5 (encs rs29)) :: (.own s48 209 3 (encs l49)) :: (.blk b6 (enc (EnterR.mk ({ Enter.zero with Doors := ([] : List Door), Way := ([] : List Word) } : Enter) Sl.nil Sl.nil)) 114) :: (.own Sl.nil 209 3 (encs ([] : List Word))) :: (.own Sl.nil 204 5 (encs ([] : List DoorR))) :: (.blk b1 (enc (EnterR.mk a0 s_a0_0 s_a0_1)) 114) :: L) (fun _ => (fun (i46, k46, y47, s48, l49) => rangeF (partref_EnterLeave_B0 a1 r26 x42) k46 i46 (y47, l49) = some ol46 ∧ i46 + k46 = x42.Later.length)) (fun (i46, k46, y47, s48, l49) => k46) (0, x42.Later.length, r26, s33, r26.Way) ⟨rfl, rfl, rfl, rfl, rfl, rfl, rfl, trivial⟩ rfl ⟨H, by omega⟩ ?_
 rintro F50 ⟨i46, k46, y47, s48, l49⟩ hF51 ⟨H, hik46⟩
 refine Cd.as (e' := [(1, iv a1), (2, pv b1 0), (4, pv b6 0), (6, pv b40 0), (37, Sl.v r45h4), (38, iv (x42.Later.length : Int)), (39, iv (i46 : Int))]) (L' := (.blk b40 (enc (EnterR.mk ({ y47 with Doors := r26.Doors, Way := l49 } : Enter) s28 s48)) 114) :: (.own Sl.nil 209 3 (encs ([] : List Word))) :: (.own Sl.nil 204 5 (encs ([] : List DoorR))) :: (.rows (α := Int) 3 (List.map DoorR.row rs29)) :: (.own s28 204 5 (encs rs29)) :: (.own s48 209 3 (encs l49)) :: (.blk b6 (enc (EnterR.mk ({ Enter.zero with Doors := ([] : List Door), Way := ([] : List Word) } : Enter) Sl.nil Sl.nil)) 114) :: (.own Sl.nil 209 3 (encs ([] : List Word))) :: (.own Sl.nil 204 5 (encs ([] : List DoorR))) :: (.blk b1 (enc (EnterR.mk a0 s_a0_0 s_a0_1)) 114) :: L) ⟨rfl, rfl, rfl, rfl, rfl, rfl, rfl, trivial⟩ rfl ?_
 rcases k46 with _ | k46
 ·have hc46 : decide ((i46 : Int) < (x42.Later.length : Int)) = false := decide_eq_false (by omega)
  replace H := rangeF_end H
  refine Cd.seq ?_
  refine Cd.region ?_
  refine Lst.r (Ev.lss rfl rfl) ?_
  refine Lst.nil ?_
  refine At.then ?_
  refine Cd.seq ?_
  refine Cd.condF rfl hc46 ?_
  refine Cd.exit ?_
  refine At.then_exit ?_
  refine At.then_exit ?_
  refine At.in_exit ?_
  subst H
  replace H := HKl46
  refine At.then ?_
  refine Cd.seq ?_
  refine Cd.tail 11 (by kernel_rfl) (by kernel_rfl) ?_
  refine Qt.r (Ev.fieldAddr (off' := 0) rfl Try.runUnderlying114 rfl Try.sizeOf111 rfl rfl) ?_
  refine Qt.r (Ev.load (i := 0) rfl rfl Try.isAgg111 (v := Sl.v s28) ((EnterR.get_Doors (Get.here _)).off (by rfl))) ?_
  refine Qt.r (Ev.move rfl) ?_
  refine Qt.r (Ev.fieldAddr (off' := 0) rfl Try.runUnderlying114 rfl Try.sizeOf111 rfl rfl) ?_
  refine Qt.r (Ev.load (i := 9) rfl rfl Try.isAgg111 (v := Sl.v s_a0_0) ((EnterR.get_Doors (Get.here _)).off (by rfl))) ?_
  refine Qt.r (Ev.move rfl) ?_
  obtain ⟨x60, h61, H⟩ := bind_some H
  have g62 := lat_some h61
  obtain ⟨⟨r63v, r63h4⟩, r63g, r63e, r63m⟩ := map_get hm_a0_0 g62.2.2
  obtain rfl : x60 = r63v := r63e.symm
  have r63q : DoorR.rel w0 _ _ (DoorR.mk x60 r63h4) := ha_a0_0 _ r63m
  have r63_f4 : Rd w0 _ _ _ _ := r63q
  refine Qt.r (Ev.indexS (α := DoorR) (xs := rs_a0_0) rfl rfl Try.runUnderlying111 Try.sizeOf204 rfl (by decide) (hs_a0_0.mono (FLe.trans hF36 hF51) (sc8 (sc2 hM))) g62.1 (by have := map_len hm_a0_0; omega)) ?_
  refine Qt.r (Ev.fieldS (α := DoorR) (f' := a1.toNat * 5 + 0) rfl (hs_a0_0.mono (FLe.trans hF36 hF51) (sc8 (sc2 hM))) ((Get.elemN (s := 5) rfl r63g (Get.here _)).off (by omega)) rfl Try.runUnderlying204 rfl Try.sizeOf3 rfl rfl rfl) ?_
  refine Qt.r (Ev.loadS (α := DoorR) rfl (hs_a0_0.mono (FLe.trans hF36 hF51) (sc8 (sc2 hM))) Try.isAgg3 (v := iv x60.Clock) ((Get.elemN (s := 5) rfl r63g (DoorR.get_Clock (Get.here _))).off (by omega))) ?_
  refine Qt.r (Ev.build (v := .agg (enc (DoorR.mk ({ Door.zero with Clock := x60.Clock } : Door) Sl.nil)).toArray) (pv := [(0, iv x60.Clock)]) ⟨rfl, rfl, trivial⟩ (fun w => by kernel_rfl)) ?_
  obtain ⟨x64, h65, H⟩ := bind_some H
  have g66 := lat_some h65
  obtain ⟨⟨r67v, r67h4⟩, r67g, r67e, r67m⟩ := map_get fm30 g66.2.2
  obtain rfl : x64 = r67v := r67e.symm
  have r67wg := map_at DoorR.row r67g
  refine Qt.r (Ev.indexS (α := DoorR) (xs := rs29) rfl rfl Try.runUnderlying111 Try.sizeOf204 rfl (by decide) (Rd.own (i := 4) rfl rfl rfl) g66.1 (by have := map_len fm30; omega)) ?_
  refine Qt.tail ?_
  obtain ⟨p69, h70, H⟩ := Let_some H
  have hm71 : (rs29.set a1.toNat (DoorR.mk ({ Door.zero with Clock := x60.Clock } : Door) Sl.nil)).map DoorR.v = p69 := (map_set fm30 _ _).trans h70
  refine Lst.front (i := 3) rfl (L' := (.rows (α := Int) 3 (List.map DoorR.row rs29)) :: (.blk b40 (enc (EnterR.mk ({ y47 with Doors := r26.Doors, Way := l49 } : Enter) s28 s48)) 114) :: (.own Sl.nil 209 3 (encs ([] : List Word))) :: (.own Sl.nil 204 5 (encs ([] : List DoorR))) :: (.own s28 204 5 (encs rs29)) :: (.own s48 209 3 (encs l49)) :: (.blk b6 (enc (EnterR.mk ({ Enter.zero with Doors := ([] : List Door), Way := ([] : List Word) } : Enter) Sl.nil Sl.nil)) 114) :: (.own Sl.nil 209 3 (encs ([] : List Word))) :: (.own Sl.nil 204 5 (encs ([] : List DoorR))) :: (.blk b1 (enc (EnterR.mk a0 s_a0_0 s_a0_1)) 114) :: L) rfl ?_
  refine Lst.rowOut (k := a1.toNat) r67wg rfl ?_
  refine Lst.its (L' := (.own r67h4 3 1 (encs x64.Later)) :: (.rows (α := Int) 3 ((List.map DoorR.row rs29).set a1.toNat ⟨[], Sl.nil⟩)) :: (.blk b40 (enc (EnterR.mk ({ y47 with Doors := r26.Doors, Way := l49 } : Enter) s28 s48)) 114) :: (.own Sl.nil 209 3 (encs ([] : List Word))) :: (.own Sl.nil 204 5 (encs ([] : List DoorR))) :: (.own s28 204 5 (encs rs29)) :: (.own s48 209 3 (encs l49)) :: (.blk b6 (enc (EnterR.mk ({ Enter.zero with Doors := ([] : List Door), Way := ([] : List Word) } : Enter) Sl.nil Sl.nil)) 114) :: (.own Sl.nil 209 3 (encs ([] : List Word))) :: (.own Sl.nil 204 5 (encs ([] : List DoorR))) :: (.blk b1 (enc (EnterR.mk a0 s_a0_0 s_a0_1)) 114) :: L) rfl ?_
  refine Lst.less (L' := (.rows (α := Int) 3 ((List.map DoorR.row rs29).set a1.toNat ⟨[], Sl.nil⟩)) :: (.blk b40 (enc (EnterR.mk ({ y47 with Doors := r26.Doors, Way := l49 } : Enter) s28 s48)) 114) :: (.own Sl.nil 209 3 (encs ([] : List Word))) :: (.own Sl.nil 204 5 (encs ([] : List DoorR))) :: (.own s28 204 5 (encs rs29)) :: (.own s48 209 3 (encs l49)) :: (.blk b6 (enc (EnterR.mk ({ Enter.zero with Doors := ([] : List Door), Way := ([] : List Word) } : Enter) Sl.nil Sl.nil)) 114) :: (.own Sl.nil 209 3 (encs ([] : List Word))) :: (.own Sl.nil 204 5 (encs ([] : List DoorR))) :: (.blk b1 (enc (EnterR.mk a0 s_a0_0 s_a0_1)) 114) :: L) (sc1 (.refl _)) ?_
  refine Lst.storeS (i := 4) rfl rfl rfl rfl rfl Try.sizeOf204 (vs := enc (DoorR.mk ({ Door.zero with Clock := x60.Clock } : Door) Sl.nil)) rfl (Enc.len _) (by decide) (Enc.one _) (xs' := encs (rs29.set a1.toNat (DoorR.mk ({ Door.zero with Clock := x60.Clock } : Door) Sl.nil))) ((Put.elemN (s := 5) (x := DoorR.mk x64 r67h4) (y := (DoorR.mk ({ Door.zero with Clock := x60.Clock } : Door) Sl.nil)) rfl r67g (Put.here ((Enc.len _).trans (Enc.len _).symm))).off (by omega)) (L' := (.rows (α := Int) 3 ((List.map DoorR.row rs29).set a1.toNat ⟨[], Sl.nil⟩)) :: (.blk b40 (enc (EnterR.mk ({ y47 with Doors := p69, Way := l49 } : Enter) s28 s48)) 114) :: (.own Sl.nil 209 3 (encs ([] : List Word))) :: (.own Sl.nil 204 5 (encs ([] : List DoorR))) :: (.own s28 204 5 (encs (rs29.set a1.toNat (DoorR.mk ({ Door.zero with Clock := x60.Clock } : Door) Sl.nil)))) :: (.own s48 209 3 (encs l49)) :: (.blk b6 (enc (EnterR.mk ({ Enter.zero with Doors := ([] : List Door), Way := ([] : List Word) } : Enter) Sl.nil Sl.nil)) 114) :: (.own Sl.nil 209 3 (encs ([] : List Word))) :: (.own Sl.nil 204 5 (encs ([] : List DoorR))) :: (.blk b1 (enc (EnterR.mk a0 s_a0_0 s_a0_1)) 114) :: L) rfl ?_
  refine Lst.its (L' := (.rows (α := Int) 3 (List.map DoorR.row (rs29.set a1.toNat (DoorR.mk ({ Door.zero with Clock := x60.Clock } : Door) Sl.nil)))) :: (.blk b40 (enc (EnterR.mk ({ y47 with Doors := p69, Way := l49 } : Enter) s28 s48)) 114) :: (.own Sl.nil 209 3 (encs ([] : List Word))) :: (.own Sl.nil 204 5 (encs ([] : List DoorR))) :: (.own s28 204 5 (encs (rs29.set a1.toNat (DoorR.mk ({ Door.zero with Clock := x60.Clock } : Door) Sl.nil)))) :: (.own s48 209 3 (encs l49)) :: (.blk b6 (enc (EnterR.mk ({ Enter.zero with Doors := ([] : List Door), Way := ([] : List Word) } : Enter) Sl.nil Sl.nil)) 114) :: (.own Sl.nil 209 3 (encs ([] : List Word))) :: (.own Sl.nil 204 5 (encs ([] : List DoorR))) :: (.blk b1 (enc (EnterR.mk a0 s_a0_0 s_a0_1)) 114) :: L) (by rw [map_set_nil (f := DoorR.row) (l := rs29) (y := (DoorR.mk ({ Door.zero with Clock := x60.Clock } : Door) Sl.nil)) (b := ⟨[], Sl.nil⟩) rfl]) ?_
  refine Lst.nil ?_
  refine At.then ?_
  refine Cd.seq ?_
  refine Cd.as (e' := [(4, pv b6 0), (6, pv b40 0)]) (L' := (.rows (α := Int) 3 (List.map DoorR.row (rs29.set a1.toNat (DoorR.mk ({ Door.zero with Clock := x60.Clock } : Door) Sl.nil)))) :: (.blk b40 (enc (EnterR.mk ({ y47 with Doors := p69, Way := l49 } : Enter) s28 s48)) 114) :: (.own Sl.nil 209 3 (encs ([] : List Word))) :: (.own Sl.nil 204 5 (encs ([] : List DoorR))) :: (.own s28 204 5 (encs (rs29.set a1.toNat (DoorR.mk ({ Door.zero with Clock := x60.Clock } : Door) Sl.nil)))) :: (.own s48 209 3 (encs l49)) :: (.blk b6 (enc (EnterR.mk ({ Enter.zero with Doors := ([] : List Door), Way := ([] : List Word) } : Enter) Sl.nil Sl.nil)) 114) :: (.own Sl.nil 209 3 (encs ([] : List Word))) :: (.own Sl.nil 204 5 (encs ([] : List DoorR))) :: (.blk b1 (enc (EnterR.mk a0 s_a0_0 s_a0_1)) 114) :: L) ⟨rfl, rfl, trivial⟩ rfl ?_
  refine Cd.region ?_
  refine Lst.r (Ev.loadA (i := 1) rfl rfl Try.isAgg114 Try.sizeOf114 (ch := enc (EnterR.mk ({ y47 with Doors := p69, Way := l49 } : Enter) s28 s48)) (Enc.len _) (Get.here _)) ?_
  refine Lst.store (i := 6) rfl rfl rfl rfl rfl Try.sizeOf114 (vs := enc (EnterR.mk ({ y47 with Doors := p69, Way := l49 } : Enter) s28 s48)) rfl (Enc.len _) (Enc.one _) (cs' := enc (EnterR.mk ({ y47 with Doors := p69, Way := l49 } : Enter) s28 s48)) (Put.here ((Enc.len _).trans (Enc.len _).symm)) (L' := (.rows (α := Int) 3 (List.map DoorR.row (rs29.set a1.toNat (DoorR.mk ({ Door.zero with Clock := x60.Clock } : Door) Sl.nil)))) :: (.blk b40 (enc (EnterR.mk ({ y47 with Doors := p69, Way := l49 } : Enter) s28 s48)) 114) :: (.own Sl.nil 209 3 (encs ([] : List Word))) :: (.own Sl.nil 204 5 (encs ([] : List DoorR))) :: (.own s28 204 5 (encs (rs29.set a1.toNat (DoorR.mk ({ Door.zero with Clock := x60.Clock } : Door) Sl.nil)))) :: (.own s48 209 3 (encs l49)) :: (.blk b6 (enc (EnterR.mk ({ y47 with Doors := p69, Way := l49 } : Enter) s28 s48)) 114) :: (.own Sl.nil 209 3 (encs ([] : List Word))) :: (.own Sl.nil 204 5 (encs ([] : List DoorR))) :: (.blk b1 (enc (EnterR.mk a0 s_a0_0 s_a0_1)) 114) :: L) rfl ?_
  refine Lst.r (Ev.assign rfl) ?_
  refine Lst.nil ?_
  refine At.then ?_
  obtain rfl := some_inj H
  refine Cd.ret ?_
  exact At.ret2 rfl (Res.cellA (i := 6) rfl rfl Try.isAgg114 Try.sizeOf114 (Enc.len _)) (Res.tmp rfl) (FLe.trans hF36 hF51) (sk1 (sc1 (sc1 (sc1 (sk1 (sk1 (sc1 (sc1 (sc1 (sc1 (.refl _))))))))))) ⟨s28, (rs29.set a1.toNat (DoorR.mk ({ Door.zero with Clock := x60.Clock } : Door) Sl.nil)), s48, rfl, rfl, hm71⟩
 have hc46 : decide ((i46 : Int) < (x42.Later.length : Int)) = true := decide_eq_true (by omega)
 obtain ⟨c46, H, hgo46⟩ := rangeF_go H
 unfold partref_EnterLeave_B0 at H
 try dsimp only at H
 refine Cd.seq ?_
 refine Cd.region ?_
 refine Lst.r (Ev.lss rfl rfl) ?_
 refine Lst.nil ?_
 refine At.then ?_
 refine Cd.seq ?_
 refine Cd.condT rfl hc46 ?_
 refine Cd.skip ?_
 refine At.then ?_
 refine Cd.seq ?_
 refine Cd.block ?_
 refine Cd.seq ?_
 refine Cd.region ?_
 obtain ⟨x52, h53, H⟩ := bind_some H
 have g54 := lat_some h53
 refine Lst.r (Ev.indexS (α := Int) (xs := x42.Later) rfl rfl Try.runUnderlying36 Try.sizeOf3 rfl (by decide) (r45_f4.mono (FLe.trans hF36 hF51) (sc8 (sc2 hM))) g54.1 g54.2.1) ?_
 refine Lst.r (Ev.loadS (α := Int) rfl (r45_f4.mono (FLe.trans hF36 hF51) (sc8 (sc2 hM))) Try.isAgg3 (v := iv x52) ((Get.elemN (s := 1) (x := x52) rfl g54.2.2 (Get.here _)).off (by omega))) ?_
 refine Lst.r (Ev.assign rfl) ?_
 refine Lst.nil ?_
 refine At.then ?_
 refine Cd.region ?_
 refine Lst.r (Ev.fieldAddr (off' := 1) rfl Try.runUnderlying114 rfl Try.sizeOf112 rfl rfl) ?_
 refine Lst.r (Ev.load (i := 0) rfl rfl Try.isAgg112 (v := Sl.v s48) ((EnterR.get_Way (Get.here _)).off (by rfl))) ?_
 refine Lst.r (Ev.move rfl) ?_
 refine Lst.r (Ev.move rfl) ?_
 refine Lst.r (Ev.build (v := .agg (enc ({ Word.zero with From := a1, To := x52 } : Word)).toArray) (pv := [(0, iv a1), (1, iv x52)]) ⟨rfl, rfl, ⟨rfl, rfl, trivial⟩⟩ (fun w => by kernel_rfl)) ?_
 refine Lst.buildSlice (α := Word) (xs := ([({ Word.zero with From := a1, To := x52 } : Word)] : List Word)) (pv := [(0, .agg (enc ({ Word.zero with From := a1, To := x52 } : Word)).toArray)]) rfl rfl (by decide) ⟨rfl, rfl, trivial⟩ (run_buildSlice (α := Word) (z0 := Word.zero) (xs := ([({ Word.zero with From := a1, To := x52 } : Word)] : List Word)) Try.runUnderlying112 Try.sizeOf209 Try.zeroValue209 rfl rfl rfl (by decide) rfl (fill_cons (cs := encs (List.replicate 1 Word.zero)) (cs' := encs ((List.replicate 1 Word.zero).set 0 ({ Word.zero with From := a1, To := x52 } : Word))) (vs := enc ({ Word.zero with From := a1, To := x52 } : Word)) rfl rfl (Enc.len _) ((Put.elemN (s := 3) (i := 0) (x := Word.zero) (y := ({ Word.zero with From := a1, To := x52 } : Word)) rfl rfl (Put.here ((Enc.len _).trans (Enc.len _).symm))).off rfl) fill_nil)) rfl rfl (by decide) (fun s55 _ => ?_)
 obtain ⟨u57, h58, H⟩ := bind_some H
 refine Lst.append (i := 6) (α := Word) (xs := l49) (ys := ([({ Word.zero with From := a1, To := x52 } : Word)] : List Word)) rfl rfl (by decide) rfl rfl Try.runUnderlying112 Try.typeInfo209 rfl rfl rfl rfl rfl rfl (Rd.own (i := 0) rfl rfl rfl) rfl (room_some h58) rfl (fun s59 => ?_)
 refine Lst.its (L' := (.own s55 209 3 (encs ([({ Word.zero with From := a1, To := x52 } : Word)] : List Word))) :: (.blk b40 (enc (EnterR.mk ({ y47 with Doors := r26.Doors } : Enter) s28 s48)) 114) :: (.own Sl.nil 209 3 (encs ([] : List Word))) :: (.own Sl.nil 204 5 (encs ([] : List DoorR))) :: (.rows (α := Int) 3 (List.map DoorR.row rs29)) :: (.own s28 204 5 (encs rs29)) :: (.own s59 209 3 (encs (l49 ++ ([({ Word.zero with From := a1, To := x52 } : Word)] : List Word)))) :: (.blk b6 (enc (EnterR.mk ({ Enter.zero with Doors := ([] : List Door), Way := ([] : List Word) } : Enter) Sl.nil Sl.nil)) 114) :: (.own Sl.nil 209 3 (encs ([] : List Word))) :: (.own Sl.nil 204 5 (encs ([] : List DoorR))) :: (.blk b1 (enc (EnterR.mk a0 s_a0_0 s_a0_1)) 114) :: L) rfl ?_
 refine Lst.r (Ev.fieldAddr (off' := 1) rfl Try.runUnderlying114 rfl Try.sizeOf112 rfl rfl) ?_
 refine Lst.store (i := 1) rfl rfl rfl rfl rfl Try.sizeOf112 (vs := [Sl.v s59]) rfl rfl rfl (cs' := enc (EnterR.mk ({ y47 with Doors := r26.Doors, Way := l49 ++ ([({ Word.zero with From := a1, To := x52 } : Word)] : List Word) } : Enter) s28 s59)) ((EnterR.put_Way (Put.here (vs := [Sl.v s59]) rfl)).off (by rfl)) (L' := (.own s55 209 3 (encs ([({ Word.zero with From := a1, To := x52 } : Word)] : List Word))) :: (.blk b40 (enc (EnterR.mk ({ y47 with Doors := r26.Doors, Way := l49 ++ ([({ Word.zero with From := a1, To := x52 } : Word)] : List Word) } : Enter) s28 s59)) 114) :: (.own Sl.nil 209 3 (encs ([] : List Word))) :: (.own Sl.nil 204 5 (encs ([] : List DoorR))) :: (.rows (α := Int) 3 (List.map DoorR.row rs29)) :: (.own s28 204 5 (encs rs29)) :: (.own s59 209 3 (encs (l49 ++ ([({ Word.zero with From := a1, To := x52 } : Word)] : List Word)))) :: (.blk b6 (enc (EnterR.mk ({ Enter.zero with Doors := ([] : List Door), Way := ([] : List Word) } : Enter) Sl.nil Sl.nil)) 114) :: (.own Sl.nil 209 3 (encs ([] : List Word))) :: (.own Sl.nil 204 5 (encs ([] : List DoorR))) :: (.blk b1 (enc (EnterR.mk a0 s_a0_0 s_a0_1)) 114) :: L) rfl ?_
 refine Lst.nil ?_
 refine At.in_normal ?_
 refine At.then ?_
 refine Cd.region ?_
 refine Lst.r (Ev.incr (by omega) rfl rfl) ?_
 refine Lst.r (Ev.move rfl) ?_
 refine Lst.nil ?_
 refine At.less (L' := (.blk b40 (enc (EnterR.mk ({ y47 with Doors := r26.Doors, Way := l49 ++ ([({ Word.zero with From := a1, To := x52 } : Word)] : List Word) } : Enter) s28 s59)) 114) :: (.own Sl.nil 209 3 (encs ([] : List Word))) :: (.own Sl.nil 204 5 (encs ([] : List DoorR))) :: (.rows (α := Int) 3 (List.map DoorR.row rs29)) :: (.own s28 204 5 (encs rs29)) :: (.own s59 209 3 (encs (l49 ++ ([({ Word.zero with From := a1, To := x52 } : Word)] : List Word)))) :: (.blk b6 (enc (EnterR.mk ({ Enter.zero with Doors := ([] : List Door), Way := ([] : List Word) } : Enter) Sl.nil Sl.nil)) 114) :: (.own Sl.nil 209 3 (encs ([] : List Word))) :: (.own Sl.nil 204 5 (encs ([] : List DoorR))) :: (.blk b1 (enc (EnterR.mk a0 s_a0_0 s_a0_1)) 114) :: L) (sc1 (sk1 (sk1 (sk1 (sk1 (sk1 (sk1 (sk1 (sk1 (sk1 (sk1 (.refl _)))))))))))) ?_
 exact At.meet (i46 + 1, k46, ({ y47 with Doors := r26.Doors, Way := l49 ++ ([({ Word.zero with From := a1, To := x52 } : Word)] : List Word) } : Enter), s59, l49 ++ ([({ Word.zero with From := a1, To := x52 } : Word)] : List Word)) hF51 ⟨rfl, rfl, rfl, rfl, rfl, rfl, rfl, trivial⟩ rfl ⟨⟨hgo46 _ (some_inj H).symm, by omega⟩, Nat.lt_succ_self _⟩
end Go.Proofs.Ytobikknjaomalaa
