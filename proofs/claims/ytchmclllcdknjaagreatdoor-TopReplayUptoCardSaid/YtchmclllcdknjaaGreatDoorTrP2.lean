/-
  The functions compute their specs; printed by a program.
-/
import Derived.Test.YtchmclllcdknjaaGreatDoorTrP1
namespace Go.Proofs.YtchmclllcdknjaaGreatDoor
open Go.RowKit Enc
set_option linter.unusedVariables false
set_option linter.unusedSimpArgs false
set_option maxRecDepth 20000 in
theorem world_World_order_sim {fu : Nat} {a0 : Wld} {a1 : Note} {b_a0 : Nat} {s_a0_1 : Sl} {rs_a0_1 : List ProcessR} {s_a0_2 : Sl} {s_a0_3 : Sl} {r : (List Procs) × (List Str) × (List Str) × Wld} (H : world_World_order fu a0 a1 = some r) (w0 : World) (F : Frz) (M L : List Item) (hM : M.Sublist L) (hT : Tab Tryz.prog w0) (hm_a0_1 : rs_a0_1.map ProcessR.v = a0.all) (ha_a0_1 : All ProcessR.frel w0 F [] rs_a0_1) : Ok Tryz.prog w0 119 [pv b_a0 0, .agg (enc a1).toArray] F ((.rows (α := Saying) 62 (List.map ProcessR.row rs_a0_1)) :: (.own s_a0_1 100 8 (encs rs_a0_1)) :: (.own s_a0_2 9 1 (encs a0.ordered)) :: (.own s_a0_3 9 1 (encs a0.way)) :: (.blk b_a0 (enc (WldR.mk a0 s_a0_1 s_a0_2 s_a0_3)) 95) :: L) (fun Fx L' v => ∃ (rs6 : List ProcessR) (s9 : Sl) (s10 : Sl), v = .tuple #[] ∧ L' = (.rows (α := Saying) 62 (List.map ProcessR.row rs6)) :: (.own s_a0_1 100 8 (encs rs6)) :: (.own s9 9 1 (encs r.2.1)) :: (.own s10 9 1 (encs r.2.2.1)) :: (.blk b_a0 (enc (WldR.mk ({ r.2.2.2 with all := r.1, ordered := r.2.1, way := r.2.2.1 } : Wld) s_a0_1 s9 s10)) 95) :: L ∧ rs6.map ProcessR.v = r.1 ∧ All ProcessR.frel w0 Fx [] rs6) := by
 unfold world_World_order at H
 refine Ok.enter (m := 2) (n := 99) Tryz.func119 rfl rfl rfl (by decide) ?_
 refine Cd.env (e' := [(0, pv b_a0 0), (1, .agg (enc a1).toArray)]) rfl ?_
 refine sr0 ?_
 refine Lst.box rfl rfl (by decide) rfl (cs := enc a1) rfl (fun b6 => ?_)
 refine nt0 ?_
 refine Cd.seq ?_
 refine Cd.quiet (by kernel_rfl) (by kernel_rfl) ?_
 refine Qt.r (Ev.move rfl) ?_
 refine Qt.r (Ev.nilCheck rfl) ?_
 refine Qt.r (Ev.fieldAddr (off' := 2) rfl Tryz.runUnderlying95 rfl Tryz.sizeOf93 rfl rfl) ?_
 refine Qt.r (Ev.load (i := 5) rfl rfl Tryz.isAgg93 (v := Sl.v s_a0_1) ((WldR.get_all gh0).off (by rfl))) ?_
 refine Qt.r (Ev.fieldAddr (off' := 1) rfl Tryz.runUnderlying132 rfl Tryz.sizeOf3 rfl rfl) ?_
 refine Qt.r (Ev.load (i := 0) rfl rfl Tryz.isAgg3 (v := iv a1.From) ((Note.get_From gh0).off (by rfl))) ?_
 obtain ⟨x8, h9, H⟩ := bind_some H
 have g10 := lat_some h9
 obtain ⟨⟨r11v, r11h1, ⟨r11_2v, r11_2h1⟩, ⟨r11_3v, r11_3h1⟩, ⟨r11_4v, r11_4h1⟩⟩, r11g, r11e, r11m⟩ := map_get hm_a0_1 g10.2.2
 obtain rfl : x8 = r11v := r11e.symm
 have r11q : ProcessR.frel w0 _ _ (ProcessR.mk x8 r11h1 (FromR.mk r11_2v r11_2h1) (ToR.mk r11_3v r11_3h1) (ToR.mk r11_4v r11_4h1)) := ha_a0_1 _ r11m
 obtain ⟨r11_i2, r11_i3, r11_i4⟩ := r11q
 obtain ⟨r11_2e, r11_2q⟩ := r11_i2
 obtain rfl : r11_2v = x8.from_ := r11_2e
 have r11_2_f1 : Rd w0 _ _ _ _ := r11_2q
 obtain ⟨r11_3e, r11_3q⟩ := r11_i3
 obtain rfl : r11_3v = x8.to := r11_3e
 have r11_3_f1 : Rd w0 _ _ _ _ := r11_3q
 obtain ⟨r11_4e, r11_4q⟩ := r11_i4
 obtain rfl : r11_4v = x8.orders := r11_4e
 have r11_4_f1 : Rd w0 _ _ _ _ := r11_4q
 have r11wg := map_at ProcessR.row r11g
 refine Qt.r (Ev.indexS (α := ProcessR) (xs := rs_a0_1) rfl rfl Tryz.runUnderlying93 Tryz.sizeOf100 rfl (by decide) (rdo 2 rfl rfl rfl) g10.1 (by have := map_len hm_a0_1; omega)) ?_
 refine Qt.r (Ev.assign rfl) ?_
 refine Qt.done ?_
 refine At.then ?_
 refine Cd.seq ?_
 obtain ⟨r12, h13, H⟩ := bind_some H
 obtain ⟨o29, h30, H⟩ := Let_some H
 refine Cd.headMeet (σ := Nat × Sl × (List Parcel) × Sl × (List Str)) 17 (fun (b24, s25, l26, s27, l28) => [(0, pv b_a0 0), (3, pv b6 0), (4, Sl.at s_a0_1 (a1.From.toNat * 8)), (5, pv b24 0), (6, Sl.v s27), (33, iv r12.2.2)]) (fun (b24, s25, l26, s27, l28) => (.blk b24 (enc (ToR.mk ({ r12.1 with Early := l26 } : To) s25)) 41) :: (.own s25 146 2 (encs l26)) :: (.own s27 9 1 (encs l28)) :: (.blk b6 (enc a1) 132) :: (.rows (α := Saying) 62 (List.map ProcessR.row rs_a0_1)) :: (.own s_a0_1 100 8 (encs rs_a0_1)) :: (.own s_a0_2 9 1 (encs a0.ordered)) :: (.own s_a0_3 9 1 (encs a0.way)) :: (.blk b_a0 (enc (WldR.mk a0 s_a0_1 s_a0_2 s_a0_3)) 95) :: L) (fun _ (b24, s25, l26, s27, l28) => (l26, l28) = o29) (by kernel_rfl) (by kernel_rfl) (behind_sink (by kernel_rfl) (by kernel_rfl) (by kernel_rfl)) (by kernel_rfl) (fun hsel hlt => ?_) ?_
 ·refine HdJ.keep (fun w => St w0 F ((.blk b6 (enc a1) 132) :: (.rows (α := Saying) 62 (List.map ProcessR.row rs_a0_1)) :: (.own s_a0_1 100 8 (encs rs_a0_1)) :: (.own s_a0_2 9 1 (encs a0.ordered)) :: (.own s_a0_3 9 1 (encs a0.way)) :: (.blk b_a0 (enc (WldR.mk a0 s_a0_1 s_a0_2 s_a0_3)) 95) :: L) w) (fun w h => trivial) ?_
  refine HdJ.ts hsel hlt 0 (sk1 (sk1 (sk1 (sk1 (sk1 (sk1 (.refl _))))))) rfl (Ev.move rfl) ?_
  refine HdJ.ts hsel hlt 1 (sk1 (sk1 (sk1 (sk1 (sk1 (sk1 (.refl _))))))) rfl (Ev.nilCheckS (α := ProcessR) rfl (rdo 2 rfl rfl rfl) ((Get.elemN (s := 8) rfl r11g gh0).off (by omega)) rfl) ?_
  refine HdJ.ts hsel hlt 2 (sk1 (sk1 (sk1 (sk1 (sk1 (sk1 (.refl _))))))) rfl (Ev.fieldS (α := ProcessR) (f' := a1.From.toNat * 8 + 6) rfl (rdo 2 rfl rfl rfl) ((Get.elemN (s := 8) rfl r11g gh0).off (by omega)) rfl Tryz.runUnderlying100 rfl Tryz.sizeOf41 rfl rfl rfl) ?_
  refine HdJ.ts hsel hlt 3 (sk1 (sk1 (sk1 (sk1 (sk1 (sk1 (.refl _))))))) rfl (Ev.loadSA (α := ProcessR) rfl (rdo 2 rfl rfl rfl) Tryz.isAgg41 Tryz.sizeOf41 (ch := enc (ToR.mk x8.orders r11_4h1)) (Enc.len _) (by decide) ((Get.elemN (s := 8) rfl r11g (ProcessR.get_orders gh0)).off (by omega))) ?_
  refine HdJ.ts hsel hlt 4 (sk1 (sk1 (sk1 (sk1 (sk1 (sk1 (.refl _))))))) rfl (Ev.fieldAddr (off' := 4) rfl Tryz.runUnderlying132 rfl Tryz.sizeOf3 rfl rfl) ?_
  refine HdJ.ts hsel hlt 5 (sk1 (sk1 (sk1 (sk1 (sk1 (sk1 (.refl _))))))) rfl (Ev.load (i := 0) rfl rfl Tryz.isAgg3 (v := iv a1.Seq) ((Note.get_Seq gh0).off (by rfl))) ?_
  refine HdJ.ts hsel hlt 6 (sk1 (sk1 (sk1 (sk1 (sk1 (sk1 (.refl _))))))) rfl (Ev.fieldAddr (off' := 11) rfl Tryz.runUnderlying132 rfl Tryz.sizeOf9 rfl rfl) ?_
  refine HdJ.ts hsel hlt 7 (sk1 (sk1 (sk1 (sk1 (sk1 (sk1 (.refl _))))))) rfl (Ev.load (i := 0) rfl rfl Tryz.isAgg9 (v := Str.v a1.Text) ((Note.get_Text gh0).off (by rfl))) ?_
  refine HdJ.ts hsel hlt 8 (sk1 (sk1 (sk1 (sk1 (sk1 (sk1 (.refl _))))))) rfl (Ev.build (v := .agg (enc ({ Parcel.zero with Seq := a1.Seq, Text := a1.Text } : Parcel)).toArray) (pv := [(0, iv a1.Seq), (1, Str.v a1.Text)]) ⟨rfl, rfl, ⟨rfl, rfl, trivial⟩⟩ (fun w => by kernel_rfl)) ?_
  refine HdJ.step [9, 14] (by kernel_rfl) rfl ?_
  refine HdStep.c (fun inv => ?_) ?_
  ·refine Lst.call rfl rfl (by decide) (vs := [.agg (enc (ToR.mk x8.orders r11_4h1)).toArray, .agg (enc ({ Parcel.zero with Seq := a1.Seq, Text := a1.Text } : Parcel)).toArray]) ⟨rfl, rfl, trivial⟩ Tryz.call176 (lane_Take_sim h13 w0 _ M _ (sc4 (sc2 hM)) (r11_4_f1.mono fl (List.nil_sublist _))) (fun F33 L' v hF34 hv => ?_)
   obtain ⟨s31, s32, rfl, rfl⟩ := hv
   refine Lst.nil ?_
   refine At.hd inv (fun w h => (h.weaken hF34).sublist (sc1 (sc1 (sk1 (sk1 (sk1 (sk1 (sk1 (sk1 (.refl _)))))))))) ?_
   refine HdJ.keep (fun w => St w0 F33 ((.own s31 146 2 (encs r12.1.Early)) :: (.own s32 9 1 (encs r12.2.1)) :: (.blk b6 (enc a1) 132) :: (.rows (α := Saying) 62 (List.map ProcessR.row rs_a0_1)) :: (.own s_a0_1 100 8 (encs rs_a0_1)) :: (.own s_a0_2 9 1 (encs a0.ordered)) :: (.own s_a0_3 9 1 (encs a0.way)) :: (.blk b_a0 (enc (WldR.mk a0 s_a0_1 s_a0_2 s_a0_3)) 95) :: L) w) (fun w h => (h.weaken hF34).sublist (sc1 (sc1 (sk1 (sk1 (sk1 (sk1 (sk1 (sk1 (.refl _)))))))))) ?_
   refine HdJ.ts hsel hlt 10 (sk1 (sk1 (sk1 (sk1 (sk1 (sk1 (sk1 (sk1 (.refl _))))))))) rfl (Ev.move rfl) ?_
   refine HdJ.ts hsel hlt 11 (sk1 (sk1 (sk1 (sk1 (sk1 (sk1 (sk1 (sk1 (.refl _))))))))) rfl (Ev.extract rfl rfl) ?_
   refine HdJ.ts hsel hlt 12 (sk1 (sk1 (sk1 (sk1 (sk1 (sk1 (sk1 (sk1 (.refl _))))))))) rfl (Ev.extract rfl rfl) ?_
   refine HdJ.ts hsel hlt 13 (sk1 (sk1 (sk1 (sk1 (sk1 (sk1 (sk1 (sk1 (.refl _))))))))) rfl (Ev.extract rfl rfl) ?_
   refine HdJ.o1 14 (fun inv => ?_)
   refine Lst.addNil 146 2 ?_
   refine Lst.alloc (cs := enc (ToR.mk ({ To.zero with Early := ([] : List Parcel) } : To) Sl.nil)) rfl rfl (by decide) Tryz.zeroValue41 rfl (fun b35 => ?_)
   refine hds inv (sc1 (sc1 (sk1 (sk1 (sk1 (sk1 (sk1 (sk1 (sk1 (sk1 (.refl _))))))))))) ?_
   refine HdJ.o1 15 (fun inv => ?_)
   refine Lst.store (i := 0) rfl rfl rfl rfl rfl Tryz.sizeOf41 (vs := enc (ToR.mk r12.1 s31)) rfl (Enc.len _) (Enc.one _) (cs' := enc (ToR.mk r12.1 s31)) (Put.here ((Enc.len _).trans (Enc.len _).symm)) (L' := (.blk b35 (enc (ToR.mk r12.1 s31)) 41) :: (.own Sl.nil 146 2 (encs ([] : List Parcel))) :: (.own s31 146 2 (encs r12.1.Early)) :: (.own s32 9 1 (encs r12.2.1)) :: (.blk b6 (enc a1) 132) :: (.rows (α := Saying) 62 (List.map ProcessR.row rs_a0_1)) :: (.own s_a0_1 100 8 (encs rs_a0_1)) :: (.own s_a0_2 9 1 (encs a0.ordered)) :: (.own s_a0_3 9 1 (encs a0.way)) :: (.blk b_a0 (enc (WldR.mk a0 s_a0_1 s_a0_2 s_a0_3)) 95) :: L) rfl ?_
   refine hds inv (sc1 (sc1 (sk1 (sk1 (sk1 (sk1 (sk1 (sk1 (sk1 (sk1 (.refl _))))))))))) ?_
   refine HdJ.keep (fun w => St w0 F33 ((.blk b35 (enc (ToR.mk r12.1 s31)) 41) :: (.own Sl.nil 146 2 (encs ([] : List Parcel))) :: (.own s31 146 2 (encs r12.1.Early)) :: (.own s32 9 1 (encs r12.2.1)) :: (.blk b6 (enc a1) 132) :: (.rows (α := Saying) 62 (List.map ProcessR.row rs_a0_1)) :: (.own s_a0_1 100 8 (encs rs_a0_1)) :: (.own s_a0_2 9 1 (encs a0.ordered)) :: (.own s_a0_3 9 1 (encs a0.way)) :: (.blk b_a0 (enc (WldR.mk a0 s_a0_1 s_a0_2 s_a0_3)) 95) :: L) w) (fun w h => (h.weaken fl).sublist (sc1 (sc1 (sk1 (sk1 (sk1 (sk1 (sk1 (sk1 (sk1 (sk1 (.refl _)))))))))))) ?_
   refine HdJ.ts hsel hlt 16 (sk1 (sk1 (sk1 (sk1 (sk1 (sk1 (sk1 (sk1 (sk1 (sk1 (.refl _))))))))))) rfl (Ev.assign rfl) ?_
   refine HdJ.done (by kernel_rfl) ?_
   refine At.less (L' := (.blk b35 (enc (ToR.mk r12.1 s31)) 41) :: (.own s31 146 2 (encs r12.1.Early)) :: (.own s32 9 1 (encs r12.2.1)) :: (.blk b6 (enc a1) 132) :: (.rows (α := Saying) 62 (List.map ProcessR.row rs_a0_1)) :: (.own s_a0_1 100 8 (encs rs_a0_1)) :: (.own s_a0_2 9 1 (encs a0.ordered)) :: (.own s_a0_3 9 1 (encs a0.way)) :: (.blk b_a0 (enc (WldR.mk a0 s_a0_1 s_a0_2 s_a0_3)) 95) :: L) (sk1 (sc1 (sk1 (sk1 (sk1 (sk1 (sk1 (sk1 (sk1 (sk1 (.refl _))))))))))) ?_
   exact At.meetN (b35, s31, r12.1.Early, s32, r12.2.1) hF34 ⟨rfl, rfl, rfl, rfl, rfl, rfl, trivial⟩ rfl h30
  refine HdStep.c (fun inv => ?_) trivial
  refine Lst.addNil 146 2 ?_
  refine Lst.alloc (cs := enc (ToR.mk ({ To.zero with Early := ([] : List Parcel) } : To) Sl.nil)) rfl rfl (by decide) Tryz.zeroValue41 rfl (fun b36 => ?_)
  refine hds inv (sc1 (sc1 (sk1 (sk1 (sk1 (sk1 (sk1 (sk1 (.refl _))))))))) ?_
  refine HdJ.o1 9 (fun inv => ?_)
  refine Lst.call rfl rfl (by decide) (vs := [.agg (enc (ToR.mk x8.orders r11_4h1)).toArray, .agg (enc ({ Parcel.zero with Seq := a1.Seq, Text := a1.Text } : Parcel)).toArray]) ⟨rfl, rfl, trivial⟩ Tryz.call176 (lane_Take_sim h13 w0 _ M _ (sc8 hM) (r11_4_f1.mono fl (List.nil_sublist _))) (fun F39 L' v hF40 hv => ?_)
  obtain ⟨s37, s38, rfl, rfl⟩ := hv
  refine Lst.nil ?_
  refine At.hd inv (fun w h => (h.weaken hF40).sublist (sc1 (sc1 (sc1 (sc1 (sk1 (sk1 (sk1 (sk1 (sk1 (sk1 (.refl _)))))))))))) ?_
  refine HdJ.keep (fun w => St w0 F39 ((.own s37 146 2 (encs r12.1.Early)) :: (.own s38 9 1 (encs r12.2.1)) :: (.own Sl.nil 146 2 (encs ([] : List Parcel))) :: (.blk b6 (enc a1) 132) :: (.rows (α := Saying) 62 (List.map ProcessR.row rs_a0_1)) :: (.own s_a0_1 100 8 (encs rs_a0_1)) :: (.own s_a0_2 9 1 (encs a0.ordered)) :: (.own s_a0_3 9 1 (encs a0.way)) :: (.blk b_a0 (enc (WldR.mk a0 s_a0_1 s_a0_2 s_a0_3)) 95) :: L) w) (fun w h => (h.weaken hF40).sublist (sc1 (sc1 (sc1 (sk1 (sk1 (sk1 (sk1 (sk1 (sk1 (.refl _))))))))))) ?_
  refine HdJ.ts hsel hlt 10 (sk1 (sk1 (sc1 (sk1 (sk1 (sk1 (sk1 (sk1 (sk1 (sk1 (.refl _))))))))))) rfl (Ev.move rfl) ?_
  refine HdJ.ts hsel hlt 11 (sk1 (sk1 (sc1 (sk1 (sk1 (sk1 (sk1 (sk1 (sk1 (sk1 (.refl _))))))))))) rfl (Ev.extract rfl rfl) ?_
  refine HdJ.ts hsel hlt 12 (sk1 (sk1 (sc1 (sk1 (sk1 (sk1 (sk1 (sk1 (sk1 (sk1 (.refl _))))))))))) rfl (Ev.extract rfl rfl) ?_
  refine HdJ.ts hsel hlt 13 (sk1 (sk1 (sc1 (sk1 (sk1 (sk1 (sk1 (sk1 (sk1 (sk1 (.refl _))))))))))) rfl (Ev.extract rfl rfl) ?_
  refine HdJ.o1 15 (fun inv => ?_)
  refine Lst.store (i := 2) rfl rfl rfl rfl rfl Tryz.sizeOf41 (vs := enc (ToR.mk r12.1 s37)) rfl (Enc.len _) (Enc.one _) (cs' := enc (ToR.mk r12.1 s37)) (Put.here ((Enc.len _).trans (Enc.len _).symm)) (L' := (.own s37 146 2 (encs r12.1.Early)) :: (.own s38 9 1 (encs r12.2.1)) :: (.blk b36 (enc (ToR.mk r12.1 s37)) 41) :: (.own Sl.nil 146 2 (encs ([] : List Parcel))) :: (.blk b6 (enc a1) 132) :: (.rows (α := Saying) 62 (List.map ProcessR.row rs_a0_1)) :: (.own s_a0_1 100 8 (encs rs_a0_1)) :: (.own s_a0_2 9 1 (encs a0.ordered)) :: (.own s_a0_3 9 1 (encs a0.way)) :: (.blk b_a0 (enc (WldR.mk a0 s_a0_1 s_a0_2 s_a0_3)) 95) :: L) rfl ?_
  refine hds inv (sk1 (sk1 (sc1 (sk1 (sk1 (sk1 (sk1 (sk1 (sk1 (sk1 (.refl _))))))))))) ?_
  refine HdJ.keep (fun w => St w0 F39 ((.own s37 146 2 (encs r12.1.Early)) :: (.own s38 9 1 (encs r12.2.1)) :: (.blk b36 (enc (ToR.mk r12.1 s37)) 41) :: (.own Sl.nil 146 2 (encs ([] : List Parcel))) :: (.blk b6 (enc a1) 132) :: (.rows (α := Saying) 62 (List.map ProcessR.row rs_a0_1)) :: (.own s_a0_1 100 8 (encs rs_a0_1)) :: (.own s_a0_2 9 1 (encs a0.ordered)) :: (.own s_a0_3 9 1 (encs a0.way)) :: (.blk b_a0 (enc (WldR.mk a0 s_a0_1 s_a0_2 s_a0_3)) 95) :: L) w) (fun w h => (h.weaken fl).sublist (sk1 (sk1 (sc1 (sk1 (sk1 (sk1 (sk1 (sk1 (sk1 (sk1 (.refl _)))))))))))) ?_
  refine HdJ.ts hsel hlt 16 (sk1 (sk1 (sk1 (sk1 (sk1 (sk1 (sk1 (sk1 (sk1 (sk1 (.refl _))))))))))) rfl (Ev.assign rfl) ?_
  refine HdJ.done (by kernel_rfl) ?_
  refine At.front (i := 2) rfl (L' := (.blk b36 (enc (ToR.mk r12.1 s37)) 41) :: (.own s37 146 2 (encs r12.1.Early)) :: (.own s38 9 1 (encs r12.2.1)) :: (.own Sl.nil 146 2 (encs ([] : List Parcel))) :: (.blk b6 (enc a1) 132) :: (.rows (α := Saying) 62 (List.map ProcessR.row rs_a0_1)) :: (.own s_a0_1 100 8 (encs rs_a0_1)) :: (.own s_a0_2 9 1 (encs a0.ordered)) :: (.own s_a0_3 9 1 (encs a0.way)) :: (.blk b_a0 (enc (WldR.mk a0 s_a0_1 s_a0_2 s_a0_3)) 95) :: L) rfl ?_
  refine At.less (L' := (.blk b36 (enc (ToR.mk r12.1 s37)) 41) :: (.own s37 146 2 (encs r12.1.Early)) :: (.own s38 9 1 (encs r12.2.1)) :: (.blk b6 (enc a1) 132) :: (.rows (α := Saying) 62 (List.map ProcessR.row rs_a0_1)) :: (.own s_a0_1 100 8 (encs rs_a0_1)) :: (.own s_a0_2 9 1 (encs a0.ordered)) :: (.own s_a0_3 9 1 (encs a0.way)) :: (.blk b_a0 (enc (WldR.mk a0 s_a0_1 s_a0_2 s_a0_3)) 95) :: L) (sk1 (sk1 (sk1 (sc1 (sk1 (sk1 (sk1 (sk1 (sk1 (sk1 (.refl _))))))))))) ?_
  exact At.meetN (b36, s37, r12.1.Early, s38, r12.2.1) hF40 ⟨rfl, rfl, rfl, rfl, rfl, rfl, trivial⟩ rfl h30
 rintro F41 ⟨b24, s25, l26, s27, l28⟩ hF42 hy
 subst hy
 try dsimp only at H
 refine Lst.as (e' := [(0, pv b_a0 0), (3, pv b6 0), (4, Sl.at s_a0_1 (a1.From.toNat * 8)), (5, pv b24 0), (6, Sl.v s27), (33, iv r12.2.2)]) (L' := (.blk b24 (enc (ToR.mk ({ r12.1 with Early := l26 } : To) s25)) 41) :: (.own s25 146 2 (encs l26)) :: (.own s27 9 1 (encs l28)) :: (.blk b6 (enc a1) 132) :: (.rows (α := Saying) 62 (List.map ProcessR.row rs_a0_1)) :: (.own s_a0_1 100 8 (encs rs_a0_1)) :: (.own s_a0_2 9 1 (encs a0.ordered)) :: (.own s_a0_3 9 1 (encs a0.way)) :: (.blk b_a0 (enc (WldR.mk a0 s_a0_1 s_a0_2 s_a0_3)) 95) :: L) ⟨rfl, rfl, rfl, rfl, rfl, rfl, trivial⟩ rfl ?_
 refine Lst.r (Ev.assign rfl) ?_
 refine nt0 ?_
 refine Cd.seq ?_
 refine sr0 ?_
 refine mv0 rfl ?_
 refine Lst.r (Ev.neq rfl rfl) ?_
 refine nt0 ?_
 rcases Bool.eq_false_or_eq_true (r12.2.2 != (0 : Int)) with hb43 | hb43
 ·replace H := ite_t hb43 H
  refine Cd.condT rfl hb43 ?_
  obtain rfl := some_inj H
  refine Cd.ret ?_
  refine At.then_ret ?_
  exact At.ret0 (.inl rfl) rfl hF42 (sc1 (sc1 (sc1 (sc1 (sk1 (sk1 (sk1 (sk1 (sk1 (.refl _)))))))))) ⟨rs_a0_1, s_a0_2, s_a0_3, rfl, rfl, hm_a0_1, (All.monoProcessF ha_a0_1 hF42 (List.nil_sublist _))⟩
 replace H := ite_f hb43 H
 refine Cd.condF rfl hb43 ?_
 refine Cd.skip ?_
 refine At.then ?_
 refine sr0 ?_
 refine mv0 rfl ?_
 refine Lst.r (Ev.nilCheckS (α := ProcessR) rfl (rdo 5 rfl rfl rfl) ((Get.elemN (s := 8) rfl r11g gh0).off (by omega)) rfl) ?_
 refine Lst.r (Ev.fieldS (α := ProcessR) (f' := a1.From.toNat * 8 + 6) rfl (rdo 5 rfl rfl rfl) ((Get.elemN (s := 8) rfl r11g gh0).off (by omega)) rfl Tryz.runUnderlying100 rfl Tryz.sizeOf41 rfl rfl rfl) ?_
 refine Lst.r (Ev.fieldS (α := ProcessR) (f' := a1.From.toNat * 8 + 6 + 0) rfl (rdo 5 rfl rfl rfl) ((Get.elemN (s := 8) rfl r11g (ProcessR.get_orders gh0)).off (by omega)) rfl Tryz.runUnderlying41 rfl Tryz.sizeOf3 rfl rfl rfl) ?_
 refine Lst.r (Ev.loadS (α := ProcessR) rfl (rdo 5 rfl rfl rfl) Tryz.isAgg3 (v := iv x8.orders.Next) ((Get.elemN (s := 8) rfl r11g (ProcessR.get_orders (ToR.get_Next gh0))).off (by omega))) ?_
 refine Lst.r (Ev.assign rfl) ?_
 refine nsr ?_
 refine mv0 rfl ?_
 refine Lst.r (Ev.loadA (i := 0) rfl rfl Tryz.isAgg41 Tryz.sizeOf41 (ch := enc (ToR.mk ({ r12.1 with Early := l26 } : To) s25)) (Enc.len _) gh0) ?_
 refine Lst.r (Ev.nilCheckS (α := ProcessR) rfl (rdo 5 rfl rfl rfl) ((Get.elemN (s := 8) rfl r11g gh0).off (by omega)) rfl) ?_
 refine Lst.r (Ev.fieldS (α := ProcessR) (f' := a1.From.toNat * 8 + 6) rfl (rdo 5 rfl rfl rfl) ((Get.elemN (s := 8) rfl r11g gh0).off (by omega)) rfl Tryz.runUnderlying100 rfl Tryz.sizeOf41 rfl rfl rfl) ?_
 obtain ⟨p48, h49, H⟩ := Let_some H
 have hm50 : (rs_a0_1.set a1.From.toNat (ProcessR.mk ({ x8 with orders := ({ r12.1 with Early := l26 } : To) } : Procs) r11h1 (FromR.mk x8.from_ r11_2h1) (ToR.mk x8.to r11_3h1) (ToR.mk ({ r12.1 with Early := l26 } : To) s25))).map ProcessR.v = p48 := (map_set hm_a0_1 _ _).trans h49
 refine Lst.freeze (i := 1) rfl (fun F44 hF45 hz46 => ?_)
 have hq47 : Rd w0 F44 [] s25 l26 := Rd.frozen hz46 rfl rfl
 refine Lst.its (L' := (.blk b24 (enc (ToR.mk ({ r12.1 with Early := l26 } : To) s25)) 41) :: (.own s27 9 1 (encs l28)) :: (.blk b6 (enc a1) 132) :: (.rows (α := Saying) 62 (List.map ProcessR.row rs_a0_1)) :: (.own s_a0_1 100 8 (encs rs_a0_1)) :: (.own s_a0_2 9 1 (encs a0.ordered)) :: (.own s_a0_3 9 1 (encs a0.way)) :: (.blk b_a0 (enc (WldR.mk a0 s_a0_1 s_a0_2 s_a0_3)) 95) :: L) rfl ?_
 have ha51 : All ProcessR.frel w0 F44 [] (rs_a0_1.set a1.From.toNat (ProcessR.mk ({ x8 with orders := ({ r12.1 with Early := l26 } : To) } : Procs) r11h1 (FromR.mk x8.from_ r11_2h1) (ToR.mk x8.to r11_3h1) (ToR.mk ({ r12.1 with Early := l26 } : To) s25))) := All.set (All.monoProcessF ha_a0_1 (FLe.trans hF42 hF45) (List.nil_sublist _)) (⟨⟨rfl, (r11_2_f1.mono (FLe.trans hF42 hF45) (List.nil_sublist _))⟩, ⟨rfl, (r11_3_f1.mono (FLe.trans hF42 hF45) (List.nil_sublist _))⟩, ⟨rfl, (hq47.mono fl (List.nil_sublist _))⟩⟩)
 refine Lst.storeS (i := 4) rfl rfl rfl rfl rfl Tryz.sizeOf41 (vs := enc (ToR.mk ({ r12.1 with Early := l26 } : To) s25)) rfl (Enc.len _) (by decide) (Enc.one _) (xs' := encs (rs_a0_1.set a1.From.toNat (ProcessR.mk ({ x8 with orders := ({ r12.1 with Early := l26 } : To) } : Procs) r11h1 (FromR.mk x8.from_ r11_2h1) (ToR.mk x8.to r11_3h1) (ToR.mk ({ r12.1 with Early := l26 } : To) s25)))) ((Put.elemN (s := 8) (x := (ProcessR.mk x8 r11h1 (FromR.mk x8.from_ r11_2h1) (ToR.mk x8.to r11_3h1) (ToR.mk x8.orders r11_4h1))) (y := (ProcessR.mk ({ x8 with orders := ({ r12.1 with Early := l26 } : To) } : Procs) r11h1 (FromR.mk x8.from_ r11_2h1) (ToR.mk x8.to r11_3h1) (ToR.mk ({ r12.1 with Early := l26 } : To) s25))) rfl r11g (ProcessR.put_orders (p := (ProcessR.mk x8 r11h1 (FromR.mk x8.from_ r11_2h1) (ToR.mk x8.to r11_3h1) (ToR.mk x8.orders r11_4h1))) (l := ({ r12.1 with Early := l26 } : To)) (Put.here ((Enc.len _).trans (Enc.len _).symm)))).off (by omega)) (L' := (.blk b24 (enc (ToR.mk ({ r12.1 with Early := l26 } : To) s25)) 41) :: (.own s27 9 1 (encs l28)) :: (.blk b6 (enc a1) 132) :: (.rows (α := Saying) 62 (List.map ProcessR.row rs_a0_1)) :: (.own s_a0_1 100 8 (encs (rs_a0_1.set a1.From.toNat (ProcessR.mk ({ x8 with orders := ({ r12.1 with Early := l26 } : To) } : Procs) r11h1 (FromR.mk x8.from_ r11_2h1) (ToR.mk x8.to r11_3h1) (ToR.mk ({ r12.1 with Early := l26 } : To) s25))))) :: (.own s_a0_2 9 1 (encs a0.ordered)) :: (.own s_a0_3 9 1 (encs a0.way)) :: (.blk b_a0 (enc (WldR.mk ({ a0 with all := p48 } : Wld) s_a0_1 s_a0_2 s_a0_3)) 95) :: L) rfl ?_
 refine Lst.its (L' := (.blk b24 (enc (ToR.mk ({ r12.1 with Early := l26 } : To) s25)) 41) :: (.own s27 9 1 (encs l28)) :: (.blk b6 (enc a1) 132) :: (.rows (α := Saying) 62 (List.map ProcessR.row (rs_a0_1.set a1.From.toNat (ProcessR.mk ({ x8 with orders := ({ r12.1 with Early := l26 } : To) } : Procs) r11h1 (FromR.mk x8.from_ r11_2h1) (ToR.mk x8.to r11_3h1) (ToR.mk ({ r12.1 with Early := l26 } : To) s25))))) :: (.own s_a0_1 100 8 (encs (rs_a0_1.set a1.From.toNat (ProcessR.mk ({ x8 with orders := ({ r12.1 with Early := l26 } : To) } : Procs) r11h1 (FromR.mk x8.from_ r11_2h1) (ToR.mk x8.to r11_3h1) (ToR.mk ({ r12.1 with Early := l26 } : To) s25))))) :: (.own s_a0_2 9 1 (encs a0.ordered)) :: (.own s_a0_3 9 1 (encs a0.way)) :: (.blk b_a0 (enc (WldR.mk ({ a0 with all := p48 } : Wld) s_a0_1 s_a0_2 s_a0_3)) 95) :: L) (by rw [map_set_same (y := (ProcessR.mk ({ x8 with orders := ({ r12.1 with Early := l26 } : To) } : Procs) r11h1 (FromR.mk x8.from_ r11_2h1) (ToR.mk x8.to r11_3h1) (ToR.mk ({ r12.1 with Early := l26 } : To) s25))) r11g rfl]) ?_
 refine nt0 ?_
 refine Cd.seq ?_
 refine Cd.as (e' := [(0, pv b_a0 0), (3, pv b6 0), (6, Sl.v s27), (8, iv x8.orders.Next)]) (L' := (.blk b24 (enc (ToR.mk ({ r12.1 with Early := l26 } : To) s25)) 41) :: (.own s27 9 1 (encs l28)) :: (.blk b6 (enc a1) 132) :: (.rows (α := Saying) 62 (List.map ProcessR.row (rs_a0_1.set a1.From.toNat (ProcessR.mk ({ x8 with orders := ({ r12.1 with Early := l26 } : To) } : Procs) r11h1 (FromR.mk x8.from_ r11_2h1) (ToR.mk x8.to r11_3h1) (ToR.mk ({ r12.1 with Early := l26 } : To) s25))))) :: (.own s_a0_1 100 8 (encs (rs_a0_1.set a1.From.toNat (ProcessR.mk ({ x8 with orders := ({ r12.1 with Early := l26 } : To) } : Procs) r11h1 (FromR.mk x8.from_ r11_2h1) (ToR.mk x8.to r11_3h1) (ToR.mk ({ r12.1 with Early := l26 } : To) s25))))) :: (.own s_a0_2 9 1 (encs a0.ordered)) :: (.own s_a0_3 9 1 (encs a0.way)) :: (.blk b_a0 (enc (WldR.mk ({ a0 with all := p48 } : Wld) s_a0_1 s_a0_2 s_a0_3)) 95) :: L) ⟨rfl, rfl, rfl, rfl, trivial⟩ rfl ?_
 refine Cd.region ?_
 refine mv0 rfl ?_
 refine Lst.r (Ev.lenS (α := Str) (xs := l28) (by decide) rfl rfl Tryz.runUnderlying43 (rdo 1 rfl rfl rfl)) ?_
 refine mv0 rfl ?_
 refine nt0 ?_
 refine Cd.block ?_
 refine Cd.bound (Rd.le (α := Str) (xs := l28) (by decide) (rdo 1 rfl rfl rfl)) (fun hN106 => ?_)
 obtain ⟨ol52, H, HKl52⟩ := bind_some H
 refine Cd.loop (σ := Nat × Nat × Wld × Sl × (List Str) × Sl × (List Str)) (fun (i52, k52, y53, s54, l55, s56, l57) => [(0, pv b_a0 0), (3, pv b6 0), (8, iv x8.orders.Next), (45, Sl.v s27), (46, iv (l28.length : Int)), (47, iv (i52 : Int))]) (fun (i52, k52, y53, s54, l55, s56, l57) => (.blk b24 (enc (ToR.mk ({ r12.1 with Early := l26 } : To) s25)) 41) :: (.own s27 9 1 (encs l28)) :: (.blk b6 (enc a1) 132) :: (.rows (α := Saying) 62 (List.map ProcessR.row (rs_a0_1.set a1.From.toNat (ProcessR.mk ({ x8 with orders := ({ r12.1 with Early := l26 } : To) } : Procs) r11h1 (FromR.mk x8.from_ r11_2h1) (ToR.mk x8.to r11_3h1) (ToR.mk ({ r12.1 with Early := l26 } : To) s25))))) :: (.own s_a0_1 100 8 (encs (rs_a0_1.set a1.From.toNat (ProcessR.mk ({ x8 with orders := ({ r12.1 with Early := l26 } : To) } : Procs) r11h1 (FromR.mk x8.from_ r11_2h1) (ToR.mk x8.to r11_3h1) (ToR.mk ({ r12.1 with Early := l26 } : To) s25))))) :: (.own s54 9 1 (encs l55)) :: (.own s56 9 1 (encs l57)) :: (.blk b_a0 (enc (WldR.mk ({ y53 with all := p48, ordered := l55, way := l57 } : Wld) s_a0_1 s54 s56)) 95) :: L) (fun _ => (fun (i52, k52, y53, s54, l55, s56, l57) => rangeF (world_World_order_B0 a1 x8 l28 p48) k52 i52 (y53, l55, l57) = some ol52 ∧ i52 + k52 = l28.length)) (fun (i52, k52, y53, s54, l55, s56, l57) => k52) (0, l28.length, ({ a0 with all := p48 } : Wld), s_a0_2, a0.ordered, s_a0_3, a0.way) ⟨rfl, rfl, rfl, rfl, rfl, rfl, trivial⟩ rfl ⟨H, by omega⟩ ?_
 rintro F58 ⟨i52, k52, y53, s54, l55, s56, l57⟩ hF59 ⟨H, hik52⟩
 refine Cd.as (e' := [(0, pv b_a0 0), (3, pv b6 0), (8, iv x8.orders.Next), (45, Sl.v s27), (46, iv (l28.length : Int)), (47, iv (i52 : Int))]) (L' := (.blk b24 (enc (ToR.mk ({ r12.1 with Early := l26 } : To) s25)) 41) :: (.own s27 9 1 (encs l28)) :: (.blk b6 (enc a1) 132) :: (.rows (α := Saying) 62 (List.map ProcessR.row (rs_a0_1.set a1.From.toNat (ProcessR.mk ({ x8 with orders := ({ r12.1 with Early := l26 } : To) } : Procs) r11h1 (FromR.mk x8.from_ r11_2h1) (ToR.mk x8.to r11_3h1) (ToR.mk ({ r12.1 with Early := l26 } : To) s25))))) :: (.own s_a0_1 100 8 (encs (rs_a0_1.set a1.From.toNat (ProcessR.mk ({ x8 with orders := ({ r12.1 with Early := l26 } : To) } : Procs) r11h1 (FromR.mk x8.from_ r11_2h1) (ToR.mk x8.to r11_3h1) (ToR.mk ({ r12.1 with Early := l26 } : To) s25))))) :: (.own s54 9 1 (encs l55)) :: (.own s56 9 1 (encs l57)) :: (.blk b_a0 (enc (WldR.mk ({ y53 with all := p48, ordered := l55, way := l57 } : Wld) s_a0_1 s54 s56)) 95) :: L) ⟨rfl, rfl, rfl, rfl, rfl, rfl, trivial⟩ rfl ?_
 rcases k52 with _ | k52
 ·have hc52 : decide ((i52 : Int) < (l28.length : Int)) = false := decide_eq_false (by omega)
  replace H := rangeF_end H
  refine sr0 ?_
  refine Lst.r (Ev.lss rfl rfl) ?_
  refine nt0 ?_
  refine Cd.seq ?_
  refine Cd.condF rfl hc52 ?_
  refine Cd.exit ?_
  refine At.then_exit ?_
  refine At.then_exit ?_
  refine At.in_exit ?_
  subst H
  replace H := HKl52
  try dsimp only [Sum.elim_inl] at H
  obtain rfl := some_inj H
  exact At.ret0 (.inr rfl) rfl (FLe.trans (FLe.trans hF42 hF45) hF59) (sc1 (sc1 (sc1 (sk1 (sk1 (sk1 (sk1 (sk1 (.refl _))))))))) ⟨(rs_a0_1.set a1.From.toNat (ProcessR.mk ({ x8 with orders := ({ r12.1 with Early := l26 } : To) } : Procs) r11h1 (FromR.mk x8.from_ r11_2h1) (ToR.mk x8.to r11_3h1) (ToR.mk ({ r12.1 with Early := l26 } : To) s25))), s54, s56, rfl, rfl, hm50, (All.monoProcessF ha51 hF59 (List.nil_sublist _))⟩
 have hc52 : decide ((i52 : Int) < (l28.length : Int)) = true := decide_eq_true (by omega)
 obtain ⟨c52, H, hgo52⟩ := rangeF_go H
 unfold world_World_order_B0 at H
 try dsimp only at H
 refine sr0 ?_
 refine Lst.r (Ev.lss rfl rfl) ?_
 refine nt0 ?_
 refine Cd.seq ?_
 refine Cd.condT rfl hc52 ?_
 refine Cd.skip ?_
 refine At.then ?_
 refine Cd.seq ?_
 refine Cd.block ?_
 refine sr0 ?_
 refine mv0 rfl ?_
 obtain ⟨x60, h61, H⟩ := bind_some H
 have g62 := lat_some h61
 refine Lst.r (Ev.indexS (α := Str) (xs := l28) rfl rfl Tryz.runUnderlying43 Tryz.sizeOf9 rfl (by decide) (rdo 1 rfl rfl rfl) g62.1 g62.2.1) ?_
 refine Lst.r (Ev.loadS (α := Str) rfl (rdo 1 rfl rfl rfl) Tryz.isAgg9 (v := Str.v x60) ((Get.elemN (s := 1) (x := x60) rfl g62.2.2 gh0).off (by omega))) ?_
 refine Lst.r (Ev.assign rfl) ?_
 refine Lst.r (Ev.assign rfl) ?_
 refine nsr ?_
 refine Lst.r (Ev.fieldAddr (off' := 1) rfl Tryz.runUnderlying132 rfl Tryz.sizeOf3 rfl rfl) ?_
 refine Lst.r (Ev.load (i := 2) rfl rfl Tryz.isAgg3 (v := iv a1.From) ((Note.get_From gh0).off (by rfl))) ?_
 obtain ⟨r63, h64, H⟩ := bind_some H
 refine Lst.call1 rfl rfl (by decide) (vs := [iv a1.From]) ⟨rfl, trivial⟩ Tryz.call55 (strconv_Itoa_sim h64 w0 _ M _ (sc8 hM) hT) ?_
 obtain ⟨u67, h68, H⟩ := bind_some H
 refine Lst.r (Ev.addStr (s := r63) (m := ([58] : Str)) rfl rfl (room_some h68)) ?_
 refine mv0 rfl ?_
 refine mv0 rfl ?_
 refine Lst.r (Ev.add rfl rfl) ?_
 obtain ⟨r69, h70, H⟩ := bind_some H
 refine Lst.call1 rfl rfl (by decide) (vs := [iv (w64 (x8.orders.Next + (i52 : Int)))]) ⟨rfl, trivial⟩ Tryz.call55 (strconv_Itoa_sim h70 w0 _ M _ (sc8 hM) hT) ?_
 obtain ⟨u73, h74, H⟩ := bind_some H
 refine Lst.r (Ev.addStr (s := r63 ++ ([58] : Str)) (m := r69) rfl rfl (room_some h74)) ?_
 obtain ⟨u75, h76, H⟩ := bind_some H
 refine Lst.r (Ev.addStr (s := (r63 ++ ([58] : Str)) ++ r69) (m := ([58] : Str)) rfl rfl (room_some h76)) ?_
 refine mv0 rfl ?_
 obtain ⟨u77, h78, H⟩ := bind_some H
 refine Lst.r (Ev.addStr (s := ((r63 ++ ([58] : Str)) ++ r69) ++ ([58] : Str)) (m := x60) rfl rfl (room_some h78)) ?_
 refine Lst.r (Ev.assign rfl) ?_
 refine nt0 ?_
 refine Cd.seq ?_
 refine Cd.as (e' := [(0, pv b_a0 0), (3, pv b6 0), (8, iv x8.orders.Next), (45, Sl.v s27), (46, iv (l28.length : Int)), (47, iv (i52 : Int)), (11, Str.v ((((r63 ++ ([58] : Str)) ++ r69) ++ ([58] : Str)) ++ x60))]) (L' := (.blk b24 (enc (ToR.mk ({ r12.1 with Early := l26 } : To) s25)) 41) :: (.own s27 9 1 (encs l28)) :: (.blk b6 (enc a1) 132) :: (.rows (α := Saying) 62 (List.map ProcessR.row (rs_a0_1.set a1.From.toNat (ProcessR.mk ({ x8 with orders := ({ r12.1 with Early := l26 } : To) } : Procs) r11h1 (FromR.mk x8.from_ r11_2h1) (ToR.mk x8.to r11_3h1) (ToR.mk ({ r12.1 with Early := l26 } : To) s25))))) :: (.own s_a0_1 100 8 (encs (rs_a0_1.set a1.From.toNat (ProcessR.mk ({ x8 with orders := ({ r12.1 with Early := l26 } : To) } : Procs) r11h1 (FromR.mk x8.from_ r11_2h1) (ToR.mk x8.to r11_3h1) (ToR.mk ({ r12.1 with Early := l26 } : To) s25))))) :: (.own s54 9 1 (encs l55)) :: (.own s56 9 1 (encs l57)) :: (.blk b_a0 (enc (WldR.mk ({ y53 with all := p48, ordered := l55, way := l57 } : Wld) s_a0_1 s54 s56)) 95) :: L) ⟨rfl, rfl, rfl, rfl, rfl, rfl, rfl, trivial⟩ rfl ?_
 refine Cd.region ?_
 refine mv0 rfl ?_
 refine mv0 rfl ?_
 refine Lst.r (Ev.nilCheck rfl) ?_
 refine Lst.r (Ev.fieldAddr (off' := 3) rfl Tryz.runUnderlying95 rfl Tryz.sizeOf43 rfl rfl) ?_
 refine Lst.r (Ev.load (i := 7) rfl rfl Tryz.isAgg43 (v := Sl.v s54) ((WldR.get_ordered gh0).off (by rfl))) ?_
 refine mv0 rfl ?_
 refine Lst.buildSlice (α := Str) (xs := ([(((r63 ++ ([58] : Str)) ++ r69) ++ ([58] : Str)) ++ x60] : List Str)) (pv := [(0, Str.v ((((r63 ++ ([58] : Str)) ++ r69) ++ ([58] : Str)) ++ x60))]) rfl rfl (by decide) ⟨rfl, rfl, trivial⟩ (run_buildSlice (α := Str) (z0 := ([] : Str)) (xs := ([(((r63 ++ ([58] : Str)) ++ r69) ++ ([58] : Str)) ++ x60] : List Str)) Tryz.runUnderlying43 Tryz.sizeOf9 Tryz.zeroValue9 rfl rfl rfl (by decide) rfl (fill_cons (cs := encs (List.replicate 1 ([] : Str))) (cs' := encs ((List.replicate 1 ([] : Str)).set 0 ((((r63 ++ ([58] : Str)) ++ r69) ++ ([58] : Str)) ++ x60))) (vs := [Str.v ((((r63 ++ ([58] : Str)) ++ r69) ++ ([58] : Str)) ++ x60)]) rfl rfl rfl ((Put.elemN (s := 1) (i := 0) (x := ([] : Str)) (y := ((((r63 ++ ([58] : Str)) ++ r69) ++ ([58] : Str)) ++ x60)) rfl rfl (Put.here (vs := [Str.v ((((r63 ++ ([58] : Str)) ++ r69) ++ ([58] : Str)) ++ x60)]) rfl)).off rfl) fill_nil)) rfl rfl (by decide) (fun s79 _ => ?_)
 obtain ⟨u81, h82, H⟩ := bind_some H
 refine Lst.append (i := 6) (α := Str) (xs := l55) (ys := ([(((r63 ++ ([58] : Str)) ++ r69) ++ ([58] : Str)) ++ x60] : List Str)) rfl rfl (by decide) rfl rfl Tryz.runUnderlying43 Tryz.typeInfo9 rfl rfl rfl rfl rfl rfl (rdo 0 rfl rfl rfl) rfl (room_some h82) rfl (fun s83 => ?_)
 refine Lst.its (L' := (.own s79 9 1 (encs ([(((r63 ++ ([58] : Str)) ++ r69) ++ ([58] : Str)) ++ x60] : List Str))) :: (.blk b24 (enc (ToR.mk ({ r12.1 with Early := l26 } : To) s25)) 41) :: (.own s27 9 1 (encs l28)) :: (.blk b6 (enc a1) 132) :: (.rows (α := Saying) 62 (List.map ProcessR.row (rs_a0_1.set a1.From.toNat (ProcessR.mk ({ x8 with orders := ({ r12.1 with Early := l26 } : To) } : Procs) r11h1 (FromR.mk x8.from_ r11_2h1) (ToR.mk x8.to r11_3h1) (ToR.mk ({ r12.1 with Early := l26 } : To) s25))))) :: (.own s_a0_1 100 8 (encs (rs_a0_1.set a1.From.toNat (ProcessR.mk ({ x8 with orders := ({ r12.1 with Early := l26 } : To) } : Procs) r11h1 (FromR.mk x8.from_ r11_2h1) (ToR.mk x8.to r11_3h1) (ToR.mk ({ r12.1 with Early := l26 } : To) s25))))) :: (.own s83 9 1 (encs (l55 ++ ([(((r63 ++ ([58] : Str)) ++ r69) ++ ([58] : Str)) ++ x60] : List Str)))) :: (.own s56 9 1 (encs l57)) :: (.blk b_a0 (enc (WldR.mk ({ y53 with all := p48, way := l57 } : Wld) s_a0_1 s54 s56)) 95) :: L) rfl ?_
 refine Lst.r (Ev.nilCheck rfl) ?_
 refine Lst.r (Ev.fieldAddr (off' := 3) rfl Tryz.runUnderlying95 rfl Tryz.sizeOf43 rfl rfl) ?_
 refine Lst.store (i := 8) rfl rfl rfl rfl rfl Tryz.sizeOf43 (vs := [Sl.v s83]) rfl rfl rfl (cs' := enc (WldR.mk ({ y53 with all := p48, ordered := l55 ++ ([(((r63 ++ ([58] : Str)) ++ r69) ++ ([58] : Str)) ++ x60] : List Str), way := l57 } : Wld) s_a0_1 s83 s56)) ((WldR.put_ordered (Put.here (vs := [Sl.v s83]) rfl)).off (by rfl)) (L' := (.own s79 9 1 (encs ([(((r63 ++ ([58] : Str)) ++ r69) ++ ([58] : Str)) ++ x60] : List Str))) :: (.blk b24 (enc (ToR.mk ({ r12.1 with Early := l26 } : To) s25)) 41) :: (.own s27 9 1 (encs l28)) :: (.blk b6 (enc a1) 132) :: (.rows (α := Saying) 62 (List.map ProcessR.row (rs_a0_1.set a1.From.toNat (ProcessR.mk ({ x8 with orders := ({ r12.1 with Early := l26 } : To) } : Procs) r11h1 (FromR.mk x8.from_ r11_2h1) (ToR.mk x8.to r11_3h1) (ToR.mk ({ r12.1 with Early := l26 } : To) s25))))) :: (.own s_a0_1 100 8 (encs (rs_a0_1.set a1.From.toNat (ProcessR.mk ({ x8 with orders := ({ r12.1 with Early := l26 } : To) } : Procs) r11h1 (FromR.mk x8.from_ r11_2h1) (ToR.mk x8.to r11_3h1) (ToR.mk ({ r12.1 with Early := l26 } : To) s25))))) :: (.own s83 9 1 (encs (l55 ++ ([(((r63 ++ ([58] : Str)) ++ r69) ++ ([58] : Str)) ++ x60] : List Str)))) :: (.own s56 9 1 (encs l57)) :: (.blk b_a0 (enc (WldR.mk ({ y53 with all := p48, ordered := l55 ++ ([(((r63 ++ ([58] : Str)) ++ r69) ++ ([58] : Str)) ++ x60] : List Str), way := l57 } : Wld) s_a0_1 s83 s56)) 95) :: L) rfl ?_
 refine nsr ?_
 refine mv0 rfl ?_
 refine Lst.r (Ev.nilCheck rfl) ?_
 refine Lst.r (Ev.fieldAddr (off' := 2) rfl Tryz.runUnderlying95 rfl Tryz.sizeOf93 rfl rfl) ?_
 refine Lst.r (Ev.load (i := 8) rfl rfl Tryz.isAgg93 (v := Sl.v s_a0_1) ((WldR.get_all gh0).off (by rfl))) ?_
 refine Lst.r (Ev.lenM (map_len hm50) (Ev.lenS (α := ProcessR) (xs := (rs_a0_1.set a1.From.toNat (ProcessR.mk ({ x8 with orders := ({ r12.1 with Early := l26 } : To) } : Procs) r11h1 (FromR.mk x8.from_ r11_2h1) (ToR.mk x8.to r11_3h1) (ToR.mk ({ r12.1 with Early := l26 } : To) s25)))) (by decide) rfl rfl Tryz.runUnderlying93 (rdo 5 rfl rfl rfl))) ?_
 refine mv0 rfl ?_
 refine nt0 ?_
 refine Cd.block ?_
 refine Cd.bound (Rd.le (α := ProcessR) (xs := (rs_a0_1.set a1.From.toNat (ProcessR.mk ({ x8 with orders := ({ r12.1 with Early := l26 } : To) } : Procs) r11h1 (FromR.mk x8.from_ r11_2h1) (ToR.mk x8.to r11_3h1) (ToR.mk ({ r12.1 with Early := l26 } : To) s25)))) (by decide) (rdo 5 rfl rfl rfl)) (fun hN105 => ?_)
 rw [map_len hm50] at hN105
 obtain ⟨ol85, H, HKl85⟩ := bind_some H
 refine Cd.loop (σ := Nat × Nat × Wld × Sl × (List Str)) (fun (i85, k85, y86, s87, l88) => [(0, pv b_a0 0), (3, pv b6 0), (8, iv x8.orders.Next), (11, Str.v ((((r63 ++ ([58] : Str)) ++ r69) ++ ([58] : Str)) ++ x60)), (45, Sl.v s27), (46, iv (l28.length : Int)), (47, iv (i52 : Int)), (78, iv (p48.length : Int)), (79, iv (i85 : Int))]) (fun (i85, k85, y86, s87, l88) => (.own s79 9 1 (encs ([(((r63 ++ ([58] : Str)) ++ r69) ++ ([58] : Str)) ++ x60] : List Str))) :: (.blk b24 (enc (ToR.mk ({ r12.1 with Early := l26 } : To) s25)) 41) :: (.own s27 9 1 (encs l28)) :: (.blk b6 (enc a1) 132) :: (.rows (α := Saying) 62 (List.map ProcessR.row (rs_a0_1.set a1.From.toNat (ProcessR.mk ({ x8 with orders := ({ r12.1 with Early := l26 } : To) } : Procs) r11h1 (FromR.mk x8.from_ r11_2h1) (ToR.mk x8.to r11_3h1) (ToR.mk ({ r12.1 with Early := l26 } : To) s25))))) :: (.own s_a0_1 100 8 (encs (rs_a0_1.set a1.From.toNat (ProcessR.mk ({ x8 with orders := ({ r12.1 with Early := l26 } : To) } : Procs) r11h1 (FromR.mk x8.from_ r11_2h1) (ToR.mk x8.to r11_3h1) (ToR.mk ({ r12.1 with Early := l26 } : To) s25))))) :: (.own s83 9 1 (encs (l55 ++ ([(((r63 ++ ([58] : Str)) ++ r69) ++ ([58] : Str)) ++ x60] : List Str)))) :: (.own s87 9 1 (encs l88)) :: (.blk b_a0 (enc (WldR.mk ({ y86 with all := p48, ordered := l55 ++ ([(((r63 ++ ([58] : Str)) ++ r69) ++ ([58] : Str)) ++ x60] : List Str), way := l88 } : Wld) s_a0_1 s83 s87)) 95) :: L) (fun _ => (fun (i85, k85, y86, s87, l88) => rangeF (world_World_order_B2 p48 l55 x60 r63 r69) k85 i85 (y86, l88) = some ol85 ∧ i85 + k85 = p48.length)) (fun (i85, k85, y86, s87, l88) => k85) (0, p48.length, ({ y53 with all := p48, ordered := l55 ++ ([(((r63 ++ ([58] : Str)) ++ r69) ++ ([58] : Str)) ++ x60] : List Str), way := l57 } : Wld), s56, l57) ⟨rfl, rfl, rfl, rfl, rfl, rfl, rfl, rfl, rfl, trivial⟩ rfl ⟨H, by omega⟩ ?_
 rintro F89 ⟨i85, k85, y86, s87, l88⟩ hF90 ⟨H, hik85⟩
 refine Cd.as (e' := [(0, pv b_a0 0), (3, pv b6 0), (8, iv x8.orders.Next), (11, Str.v ((((r63 ++ ([58] : Str)) ++ r69) ++ ([58] : Str)) ++ x60)), (45, Sl.v s27), (46, iv (l28.length : Int)), (47, iv (i52 : Int)), (78, iv (p48.length : Int)), (79, iv (i85 : Int))]) (L' := (.own s79 9 1 (encs ([(((r63 ++ ([58] : Str)) ++ r69) ++ ([58] : Str)) ++ x60] : List Str))) :: (.blk b24 (enc (ToR.mk ({ r12.1 with Early := l26 } : To) s25)) 41) :: (.own s27 9 1 (encs l28)) :: (.blk b6 (enc a1) 132) :: (.rows (α := Saying) 62 (List.map ProcessR.row (rs_a0_1.set a1.From.toNat (ProcessR.mk ({ x8 with orders := ({ r12.1 with Early := l26 } : To) } : Procs) r11h1 (FromR.mk x8.from_ r11_2h1) (ToR.mk x8.to r11_3h1) (ToR.mk ({ r12.1 with Early := l26 } : To) s25))))) :: (.own s_a0_1 100 8 (encs (rs_a0_1.set a1.From.toNat (ProcessR.mk ({ x8 with orders := ({ r12.1 with Early := l26 } : To) } : Procs) r11h1 (FromR.mk x8.from_ r11_2h1) (ToR.mk x8.to r11_3h1) (ToR.mk ({ r12.1 with Early := l26 } : To) s25))))) :: (.own s83 9 1 (encs (l55 ++ ([(((r63 ++ ([58] : Str)) ++ r69) ++ ([58] : Str)) ++ x60] : List Str)))) :: (.own s87 9 1 (encs l88)) :: (.blk b_a0 (enc (WldR.mk ({ y86 with all := p48, ordered := l55 ++ ([(((r63 ++ ([58] : Str)) ++ r69) ++ ([58] : Str)) ++ x60] : List Str), way := l88 } : Wld) s_a0_1 s83 s87)) 95) :: L) ⟨rfl, rfl, rfl, rfl, rfl, rfl, rfl, rfl, rfl, trivial⟩ rfl ?_
 rcases k85 with _ | k85
 ·have hc85 : decide ((i85 : Int) < (p48.length : Int)) = false := decide_eq_false (by omega)
  replace H := rangeF_end H
  refine sr0 ?_
  refine Lst.r (Ev.lss rfl rfl) ?_
  refine nt0 ?_
  refine Cd.seq ?_
  refine Cd.condF rfl hc85 ?_
  refine Cd.exit ?_
  refine At.then_exit ?_
  refine At.then_exit ?_
  refine At.in_exit ?_
  subst H
  replace H := HKl85
  try dsimp only [Sum.elim_inl] at H
  refine At.in_normal ?_
  refine At.then ?_
  refine Cd.region ?_
  refine Lst.r (Ev.incr (by omega) rfl rfl) ?_
  refine mv0 rfl ?_
  refine Lst.nil ?_
  refine At.less (L' := (.blk b24 (enc (ToR.mk ({ r12.1 with Early := l26 } : To) s25)) 41) :: (.own s27 9 1 (encs l28)) :: (.blk b6 (enc a1) 132) :: (.rows (α := Saying) 62 (List.map ProcessR.row (rs_a0_1.set a1.From.toNat (ProcessR.mk ({ x8 with orders := ({ r12.1 with Early := l26 } : To) } : Procs) r11h1 (FromR.mk x8.from_ r11_2h1) (ToR.mk x8.to r11_3h1) (ToR.mk ({ r12.1 with Early := l26 } : To) s25))))) :: (.own s_a0_1 100 8 (encs (rs_a0_1.set a1.From.toNat (ProcessR.mk ({ x8 with orders := ({ r12.1 with Early := l26 } : To) } : Procs) r11h1 (FromR.mk x8.from_ r11_2h1) (ToR.mk x8.to r11_3h1) (ToR.mk ({ r12.1 with Early := l26 } : To) s25))))) :: (.own s83 9 1 (encs (l55 ++ ([(((r63 ++ ([58] : Str)) ++ r69) ++ ([58] : Str)) ++ x60] : List Str)))) :: (.own s87 9 1 (encs l88)) :: (.blk b_a0 (enc (WldR.mk ({ y86 with all := p48, ordered := l55 ++ ([(((r63 ++ ([58] : Str)) ++ r69) ++ ([58] : Str)) ++ x60] : List Str), way := l88 } : Wld) s_a0_1 s83 s87)) 95) :: L) (sc1 (sk1 (sk1 (sk1 (sk1 (sk1 (sk1 (sk1 (sk1 (.refl _)))))))))) ?_
  exact At.meet (i52 + 1, k52, ({ y86 with all := p48, ordered := l55 ++ ([(((r63 ++ ([58] : Str)) ++ r69) ++ ([58] : Str)) ++ x60] : List Str), way := l88 } : Wld), s83, l55 ++ ([(((r63 ++ ([58] : Str)) ++ r69) ++ ([58] : Str)) ++ x60] : List Str), s87, l88) (FLe.trans hF59 hF90) ⟨rfl, rfl, rfl, rfl, rfl, rfl, trivial⟩ rfl ⟨⟨hgo52 _ (some_inj H).symm, by omega⟩, Nat.lt_succ_self _⟩
 have hc85 : decide ((i85 : Int) < (p48.length : Int)) = true := decide_eq_true (by omega)
 obtain ⟨c85, H, hgo85⟩ := rangeF_go H
 unfold world_World_order_B2 at H
 try dsimp only at H
 refine sr0 ?_
 refine Lst.r (Ev.lss rfl rfl) ?_
 refine nt0 ?_
 refine Cd.seq ?_
 refine Cd.condT rfl hc85 ?_
 refine Cd.skip ?_
 refine At.then ?_
 refine Cd.seq ?_
 refine Cd.block ?_
 refine sr0 ?_
 refine mv0 rfl ?_
 refine Lst.r (Ev.assign rfl) ?_
 refine nsr ?_
 refine mv0 rfl ?_
 refine mv0 rfl ?_
 obtain ⟨r91, h92, H⟩ := bind_some H
 refine Lst.front (i := 8) rfl rfl ?_
 refine Lst.front (i := 8) rfl rfl ?_
 refine Lst.front (i := 8) rfl (L' := (.own s83 9 1 (encs (l55 ++ ([(((r63 ++ ([58] : Str)) ++ r69) ++ ([58] : Str)) ++ x60] : List Str)))) :: (.own s87 9 1 (encs l88)) :: (.blk b_a0 (enc (WldR.mk ({ y86 with all := p48, ordered := l55 ++ ([(((r63 ++ ([58] : Str)) ++ r69) ++ ([58] : Str)) ++ x60] : List Str), way := l88 } : Wld) s_a0_1 s83 s87)) 95) :: (.own s79 9 1 (encs ([(((r63 ++ ([58] : Str)) ++ r69) ++ ([58] : Str)) ++ x60] : List Str))) :: (.blk b24 (enc (ToR.mk ({ r12.1 with Early := l26 } : To) s25)) 41) :: (.own s27 9 1 (encs l28)) :: (.blk b6 (enc a1) 132) :: (.rows (α := Saying) 62 (List.map ProcessR.row (rs_a0_1.set a1.From.toNat (ProcessR.mk ({ x8 with orders := ({ r12.1 with Early := l26 } : To) } : Procs) r11h1 (FromR.mk x8.from_ r11_2h1) (ToR.mk x8.to r11_3h1) (ToR.mk ({ r12.1 with Early := l26 } : To) s25))))) :: (.own s_a0_1 100 8 (encs (rs_a0_1.set a1.From.toNat (ProcessR.mk ({ x8 with orders := ({ r12.1 with Early := l26 } : To) } : Procs) r11h1 (FromR.mk x8.from_ r11_2h1) (ToR.mk x8.to r11_3h1) (ToR.mk ({ r12.1 with Early := l26 } : To) s25))))) :: L) rfl ?_
 refine Lst.front (i := 8) rfl rfl ?_
 refine Lst.front (i := 8) rfl (L' := (.rows (α := Saying) 62 (List.map ProcessR.row (rs_a0_1.set a1.From.toNat (ProcessR.mk ({ x8 with orders := ({ r12.1 with Early := l26 } : To) } : Procs) r11h1 (FromR.mk x8.from_ r11_2h1) (ToR.mk x8.to r11_3h1) (ToR.mk ({ r12.1 with Early := l26 } : To) s25))))) :: (.own s_a0_1 100 8 (encs (rs_a0_1.set a1.From.toNat (ProcessR.mk ({ x8 with orders := ({ r12.1 with Early := l26 } : To) } : Procs) r11h1 (FromR.mk x8.from_ r11_2h1) (ToR.mk x8.to r11_3h1) (ToR.mk ({ r12.1 with Early := l26 } : To) s25))))) :: (.own s83 9 1 (encs (l55 ++ ([(((r63 ++ ([58] : Str)) ++ r69) ++ ([58] : Str)) ++ x60] : List Str)))) :: (.own s87 9 1 (encs l88)) :: (.blk b_a0 (enc (WldR.mk ({ y86 with all := p48, ordered := l55 ++ ([(((r63 ++ ([58] : Str)) ++ r69) ++ ([58] : Str)) ++ x60] : List Str), way := l88 } : Wld) s_a0_1 s83 s87)) 95) :: (.own s79 9 1 (encs ([(((r63 ++ ([58] : Str)) ++ r69) ++ ([58] : Str)) ++ x60] : List Str))) :: (.blk b24 (enc (ToR.mk ({ r12.1 with Early := l26 } : To) s25)) 41) :: (.own s27 9 1 (encs l28)) :: (.blk b6 (enc a1) 132) :: L) rfl ?_
 refine Lst.call1 rfl rfl (by decide) (vs := [pv b_a0 0, iv (i85 : Int)]) ⟨rfl, rfl, trivial⟩ Tryz.call65 (world_World_active_sim h92 w0 _ M _ (sc4 hM) hm50 (All.monoProcessF ha51 (FLe.trans hF59 hF90) (List.nil_sublist _))) ?_
 refine nt0 ?_
 rcases (Bool.eq_false_or_eq_true r91).symm with hb95 | hb95
 ·replace H := ite_f hb95 H
  refine Cd.condF rfl hb95 ?_
  refine Cd.skip ?_
  refine At.in_normal ?_
  refine At.then ?_
  refine Cd.region ?_
  refine Lst.r (Ev.incr (by omega) rfl rfl) ?_
  refine mv0 rfl ?_
  refine Lst.nil ?_
  refine At.front (i := 8) rfl rfl ?_
  refine At.front (i := 8) rfl rfl ?_
  refine At.front (i := 8) rfl (L' := (.blk b24 (enc (ToR.mk ({ r12.1 with Early := l26 } : To) s25)) 41) :: (.own s27 9 1 (encs l28)) :: (.blk b6 (enc a1) 132) :: (.rows (α := Saying) 62 (List.map ProcessR.row (rs_a0_1.set a1.From.toNat (ProcessR.mk ({ x8 with orders := ({ r12.1 with Early := l26 } : To) } : Procs) r11h1 (FromR.mk x8.from_ r11_2h1) (ToR.mk x8.to r11_3h1) (ToR.mk ({ r12.1 with Early := l26 } : To) s25))))) :: (.own s_a0_1 100 8 (encs (rs_a0_1.set a1.From.toNat (ProcessR.mk ({ x8 with orders := ({ r12.1 with Early := l26 } : To) } : Procs) r11h1 (FromR.mk x8.from_ r11_2h1) (ToR.mk x8.to r11_3h1) (ToR.mk ({ r12.1 with Early := l26 } : To) s25))))) :: (.own s83 9 1 (encs (l55 ++ ([(((r63 ++ ([58] : Str)) ++ r69) ++ ([58] : Str)) ++ x60] : List Str)))) :: (.own s87 9 1 (encs l88)) :: (.blk b_a0 (enc (WldR.mk ({ y86 with all := p48, ordered := l55 ++ ([(((r63 ++ ([58] : Str)) ++ r69) ++ ([58] : Str)) ++ x60] : List Str), way := l88 } : Wld) s_a0_1 s83 s87)) 95) :: (.own s79 9 1 (encs ([(((r63 ++ ([58] : Str)) ++ r69) ++ ([58] : Str)) ++ x60] : List Str))) :: L) rfl ?_
  refine At.front (i := 8) rfl (L' := (.own s79 9 1 (encs ([(((r63 ++ ([58] : Str)) ++ r69) ++ ([58] : Str)) ++ x60] : List Str))) :: (.blk b24 (enc (ToR.mk ({ r12.1 with Early := l26 } : To) s25)) 41) :: (.own s27 9 1 (encs l28)) :: (.blk b6 (enc a1) 132) :: (.rows (α := Saying) 62 (List.map ProcessR.row (rs_a0_1.set a1.From.toNat (ProcessR.mk ({ x8 with orders := ({ r12.1 with Early := l26 } : To) } : Procs) r11h1 (FromR.mk x8.from_ r11_2h1) (ToR.mk x8.to r11_3h1) (ToR.mk ({ r12.1 with Early := l26 } : To) s25))))) :: (.own s_a0_1 100 8 (encs (rs_a0_1.set a1.From.toNat (ProcessR.mk ({ x8 with orders := ({ r12.1 with Early := l26 } : To) } : Procs) r11h1 (FromR.mk x8.from_ r11_2h1) (ToR.mk x8.to r11_3h1) (ToR.mk ({ r12.1 with Early := l26 } : To) s25))))) :: (.own s83 9 1 (encs (l55 ++ ([(((r63 ++ ([58] : Str)) ++ r69) ++ ([58] : Str)) ++ x60] : List Str)))) :: (.own s87 9 1 (encs l88)) :: (.blk b_a0 (enc (WldR.mk ({ y86 with all := p48, ordered := l55 ++ ([(((r63 ++ ([58] : Str)) ++ r69) ++ ([58] : Str)) ++ x60] : List Str), way := l88 } : Wld) s_a0_1 s83 s87)) 95) :: L) rfl ?_
  exact At.meet (i85 + 1, k85, ({ y86 with all := p48, ordered := l55 ++ ([(((r63 ++ ([58] : Str)) ++ r69) ++ ([58] : Str)) ++ x60] : List Str), way := l88 } : Wld), s87, l88) hF90 ⟨rfl, rfl, rfl, rfl, rfl, rfl, rfl, rfl, rfl, trivial⟩ rfl ⟨⟨hgo85 _ (some_inj H).symm, by omega⟩, Nat.lt_succ_self _⟩
 replace H := ite_t hb95 H
 refine Cd.condT rfl hb95 ?_
 refine Cd.tail 11 (by kernel_rfl) (by kernel_rfl) ?_
 refine Qt.r (Ev.move rfl) ?_
 refine Qt.r (Ev.move rfl) ?_
 obtain ⟨r96, h97, H⟩ := bind_some H
 refine Qt.call rfl rfl (by decide) (vs := [pv b_a0 0]) ⟨rfl, trivial⟩ Tryz.call62 (world_World_sequencer_sim h97 w0 _ M _ (sc4 hM) hm50 (All.monoProcessF ha51 (FLe.trans hF59 hF90) (List.nil_sublist _))) ?_
 refine Qt.r (Ev.move rfl) ?_
 refine Qt.r (Ev.move rfl) ?_
 refine Qt.r (Ev.nilCheck rfl) ?_
 refine Qt.r (Ev.fieldAddr (off' := 3) rfl Tryz.runUnderlying95 rfl Tryz.sizeOf43 rfl rfl) ?_
 refine Qt.r (Ev.load (i := 4) rfl rfl Tryz.isAgg43 (v := Sl.v s83) ((WldR.get_ordered gh0).off (by rfl))) ?_
 refine Qt.r (Ev.lenS (α := Str) (xs := (l55 ++ ([(((r63 ++ ([58] : Str)) ++ r69) ++ ([58] : Str)) ++ x60] : List Str))) (by decide) rfl rfl Tryz.runUnderlying43 (rdo 2 rfl rfl rfl)) ?_
 refine Qt.r (Ev.sub rfl rfl) ?_
 refine Qt.r (Ev.move rfl) ?_
 refine Qt.tail ?_
 obtain ⟨r100, h101, H⟩ := bind_some H
 refine Lst.call rfl rfl (by decide) (vs := [pv b_a0 0, iv (2 : Int), iv r96, iv (i85 : Int), iv (w64 (((l55 ++ ([(((r63 ++ ([58] : Str)) ++ r69) ++ ([58] : Str)) ++ x60] : List Str)).length : Int) - (1 : Int))), Str.v ((((r63 ++ ([58] : Str)) ++ r69) ++ ([58] : Str)) ++ x60)]) ⟨rfl, rfl, rfl, rfl, rfl, rfl, trivial⟩ Tryz.call61 (world_World_send_sim h101 w0 _ M _ (sc4 hM) hm50 (All.monoProcessF ha51 (FLe.trans hF59 hF90) (List.nil_sublist _))) (fun F103 L' v hF104 hv => ?_)
 obtain ⟨s102, rfl, rfl⟩ := hv
 refine Lst.nil ?_
 refine At.in_normal ?_
 refine At.then ?_
 refine Cd.as (e' := [(0, pv b_a0 0), (3, pv b6 0), (8, iv x8.orders.Next), (11, Str.v ((((r63 ++ ([58] : Str)) ++ r69) ++ ([58] : Str)) ++ x60)), (45, Sl.v s27), (46, iv (l28.length : Int)), (47, iv (i52 : Int)), (78, iv (p48.length : Int)), (79, iv (i85 : Int))]) (L' := (.rows (α := Saying) 62 (List.map ProcessR.row (rs_a0_1.set a1.From.toNat (ProcessR.mk ({ x8 with orders := ({ r12.1 with Early := l26 } : To) } : Procs) r11h1 (FromR.mk x8.from_ r11_2h1) (ToR.mk x8.to r11_3h1) (ToR.mk ({ r12.1 with Early := l26 } : To) s25))))) :: (.own s_a0_1 100 8 (encs (rs_a0_1.set a1.From.toNat (ProcessR.mk ({ x8 with orders := ({ r12.1 with Early := l26 } : To) } : Procs) r11h1 (FromR.mk x8.from_ r11_2h1) (ToR.mk x8.to r11_3h1) (ToR.mk ({ r12.1 with Early := l26 } : To) s25))))) :: (.own s83 9 1 (encs (l55 ++ ([(((r63 ++ ([58] : Str)) ++ r69) ++ ([58] : Str)) ++ x60] : List Str)))) :: (.own s102 9 1 (encs r100.1)) :: (.blk b_a0 (enc (WldR.mk ({ r100.2 with all := p48, ordered := l55 ++ ([(((r63 ++ ([58] : Str)) ++ r69) ++ ([58] : Str)) ++ x60] : List Str), way := r100.1 } : Wld) s_a0_1 s83 s102)) 95) :: (.own s79 9 1 (encs ([(((r63 ++ ([58] : Str)) ++ r69) ++ ([58] : Str)) ++ x60] : List Str))) :: (.blk b24 (enc (ToR.mk ({ r12.1 with Early := l26 } : To) s25)) 41) :: (.own s27 9 1 (encs l28)) :: (.blk b6 (enc a1) 132) :: L) ⟨rfl, rfl, rfl, rfl, rfl, rfl, rfl, rfl, rfl, trivial⟩ rfl ?_
 refine Cd.region ?_
 refine Lst.r (Ev.incr (by omega) rfl rfl) ?_
 refine mv0 rfl ?_
 refine Lst.nil ?_
 refine At.front (i := 8) rfl rfl ?_
 refine At.front (i := 8) rfl rfl ?_
 refine At.front (i := 8) rfl (L' := (.blk b24 (enc (ToR.mk ({ r12.1 with Early := l26 } : To) s25)) 41) :: (.own s27 9 1 (encs l28)) :: (.blk b6 (enc a1) 132) :: (.rows (α := Saying) 62 (List.map ProcessR.row (rs_a0_1.set a1.From.toNat (ProcessR.mk ({ x8 with orders := ({ r12.1 with Early := l26 } : To) } : Procs) r11h1 (FromR.mk x8.from_ r11_2h1) (ToR.mk x8.to r11_3h1) (ToR.mk ({ r12.1 with Early := l26 } : To) s25))))) :: (.own s_a0_1 100 8 (encs (rs_a0_1.set a1.From.toNat (ProcessR.mk ({ x8 with orders := ({ r12.1 with Early := l26 } : To) } : Procs) r11h1 (FromR.mk x8.from_ r11_2h1) (ToR.mk x8.to r11_3h1) (ToR.mk ({ r12.1 with Early := l26 } : To) s25))))) :: (.own s83 9 1 (encs (l55 ++ ([(((r63 ++ ([58] : Str)) ++ r69) ++ ([58] : Str)) ++ x60] : List Str)))) :: (.own s102 9 1 (encs r100.1)) :: (.blk b_a0 (enc (WldR.mk ({ r100.2 with all := p48, ordered := l55 ++ ([(((r63 ++ ([58] : Str)) ++ r69) ++ ([58] : Str)) ++ x60] : List Str), way := r100.1 } : Wld) s_a0_1 s83 s102)) 95) :: (.own s79 9 1 (encs ([(((r63 ++ ([58] : Str)) ++ r69) ++ ([58] : Str)) ++ x60] : List Str))) :: L) rfl ?_
 refine At.front (i := 8) rfl (L' := (.own s79 9 1 (encs ([(((r63 ++ ([58] : Str)) ++ r69) ++ ([58] : Str)) ++ x60] : List Str))) :: (.blk b24 (enc (ToR.mk ({ r12.1 with Early := l26 } : To) s25)) 41) :: (.own s27 9 1 (encs l28)) :: (.blk b6 (enc a1) 132) :: (.rows (α := Saying) 62 (List.map ProcessR.row (rs_a0_1.set a1.From.toNat (ProcessR.mk ({ x8 with orders := ({ r12.1 with Early := l26 } : To) } : Procs) r11h1 (FromR.mk x8.from_ r11_2h1) (ToR.mk x8.to r11_3h1) (ToR.mk ({ r12.1 with Early := l26 } : To) s25))))) :: (.own s_a0_1 100 8 (encs (rs_a0_1.set a1.From.toNat (ProcessR.mk ({ x8 with orders := ({ r12.1 with Early := l26 } : To) } : Procs) r11h1 (FromR.mk x8.from_ r11_2h1) (ToR.mk x8.to r11_3h1) (ToR.mk ({ r12.1 with Early := l26 } : To) s25))))) :: (.own s83 9 1 (encs (l55 ++ ([(((r63 ++ ([58] : Str)) ++ r69) ++ ([58] : Str)) ++ x60] : List Str)))) :: (.own s102 9 1 (encs r100.1)) :: (.blk b_a0 (enc (WldR.mk ({ r100.2 with all := p48, ordered := l55 ++ ([(((r63 ++ ([58] : Str)) ++ r69) ++ ([58] : Str)) ++ x60] : List Str), way := r100.1 } : Wld) s_a0_1 s83 s102)) 95) :: L) rfl ?_
 exact At.meet (i85 + 1, k85, ({ r100.2 with all := p48, ordered := l55 ++ ([(((r63 ++ ([58] : Str)) ++ r69) ++ ([58] : Str)) ++ x60] : List Str), way := r100.1 } : Wld), s102, r100.1) (FLe.trans hF90 hF104) ⟨rfl, rfl, rfl, rfl, rfl, rfl, rfl, rfl, rfl, trivial⟩ rfl ⟨⟨hgo85 _ (some_inj H).symm, by omega⟩, Nat.lt_succ_self _⟩
set_option maxRecDepth 20000 in
theorem internal_stringslite_IndexByte_sim {a0 : Str} {a1 : BitVec 8} {r : Int} (H : internal_stringslite_IndexByte a0 a1 = some r) (w0 : World) (F : Frz) (M L : List Item) (hM : M.Sublist L) : Ok Tryz.prog w0 233 [Str.v a0, .int .u8 a1.toNat] F (L) (Is (iv r) (L)) := by
 unfold internal_stringslite_IndexByte at H
 refine Ok.enter (m := 2) (n := 8) Tryz.func233 rfl rfl rfl (by decide) ?_
 refine Cd.env (e' := [(0, Str.v a0), (1, .int .u8 a1.toNat)]) rfl ?_
 refine sr0 ?_
 refine Lst.r (Ev.assign rfl) ?_
 refine nsr ?_
 refine mv0 rfl ?_
 refine mv0 rfl ?_
 refine Lst.r (Ev.idxByte (s := a0) (c := a1) rfl rfl Tryz.func263 (by kernel_rfl) (by kernel_rfl) (by kernel_rfl) (by kernel_rfl)) ?_
 refine Lst.r (Ev.assign rfl) ?_
 refine nt0 ?_
 obtain rfl := some_inj H
 refine Cd.ret ?_
 exact At.ret1 rfl (Res.tmp rfl) fl (.refl _) ⟨rfl, rfl⟩
set_option maxRecDepth 20000 in
theorem internal_stringslite_Index_sim {a0 : Str} {a1 : Str} {r : Int} (H : internal_stringslite_Index a0 a1 = some r) (w0 : World) (F : Frz) (M L : List Item) (hM : M.Sublist L) : Ok Tryz.prog w0 189 [Str.v a0, Str.v a1] F (L) (Is (iv r) (L)) := by
 unfold internal_stringslite_Index at H
 refine Ok.enter (m := 2) (n := 143) Tryz.func189 rfl rfl rfl (by decide) ?_
 refine Cd.env (e' := [(0, Str.v a0), (1, Str.v a1)]) rfl ?_
 refine sr0 ?_
 refine Lst.r (Ev.assign rfl) ?_
 refine nsr ?_
 refine mv0 rfl ?_
 refine Lst.r (Ev.lenStr rfl rfl Tryz.runUnderlying9) ?_
 refine Lst.r (Ev.assign rfl) ?_
 refine nt0 ?_
 refine Cd.seq ?_
 refine Cd.block ?_
 refine sr0 ?_
 refine mv0 rfl ?_
 refine Lst.r (Ev.eql rfl rfl) ?_
 refine mv0 rfl ?_
 obtain ⟨o1, H, HKo1⟩ := bind_some H
 refine Lst.join (σ := Bool) 4 (fun y2 => [(0, Str.v a0), (1, Str.v a1), (5, iv (a1.length : Int)), (23, .bool y2)]) (fun y2 => L) (fun _ y2 => y2 = o1) ?_ ?_
 ·rcases Bool.eq_false_or_eq_true ((a1.length : Int) == (0 : Int)) with hb3 | hb3
  ·replace H := ite_t hb3 H
   refine Lst.skip rfl rfl rfl hb3 rfl (by decide) ?_
   refine Lst.skip rfl rfl rfl hb3 rfl (by decide) ?_
   refine Lst.skip rfl rfl rfl hb3 rfl (by decide) ?_
   refine Lst.r (Ev.pickT rfl hb3 rfl) ?_
   refine Lst.nil ?_
   exact At.meet true fl ⟨rfl, rfl, rfl, rfl, trivial⟩ rfl (some_inj H)
  replace H := ite_f hb3 H
  refine Lst.rG hb3 (Ev.move rfl) ?_
  refine Lst.rG hb3 (Ev.move rfl) ?_
  refine Lst.rG hb3 (Ev.eqlStr (s := a1) (m := a0) rfl rfl) ?_
  refine Lst.r (Ev.pickF rfl hb3 rfl) ?_
  refine Lst.nil ?_
  exact At.meet (decide (a1 = a0)) fl ⟨rfl, rfl, rfl, rfl, trivial⟩ rfl (some_inj H)
 rintro F4 y2 hF5 hy
 subst hy
 refine Lst.as (e' := [(0, Str.v a0), (1, Str.v a1), (5, iv (a1.length : Int)), (23, .bool y2)]) (L' := L) ⟨rfl, rfl, rfl, rfl, trivial⟩ rfl ?_
 replace H := HKo1
 refine Lst.r (Ev.assign rfl) ?_
 refine nt0 ?_
 rcases Bool.eq_false_or_eq_true y2 with hb6 | hb6
 ·replace H := ite_t hb6 H
  refine Cd.condT rfl hb6 ?_
  refine sr0 ?_
  refine Lst.r (Ev.assign rfl) ?_
  refine nt0 ?_
  obtain rfl := some_inj H
  refine Cd.ret ?_
  refine At.in_ret ?_
  refine At.then_ret ?_
  exact At.ret1 rfl (Res.tmp rfl) hF5 (.refl _) ⟨rfl, rfl⟩
 replace H := ite_f hb6 H
 refine Cd.condF rfl hb6 ?_
 refine sr0 ?_
 refine mv0 rfl ?_
 refine Lst.r (Ev.eql rfl rfl) ?_
 refine Lst.r (Ev.assign rfl) ?_
 refine nt0 ?_
 rcases Bool.eq_false_or_eq_true ((a1.length : Int) == (1 : Int)) with hb7 | hb7
 ·replace H := ite_t hb7 H
  refine Cd.condT rfl hb7 ?_
  refine sr0 ?_
  refine mv0 rfl ?_
  refine mv0 rfl ?_
  obtain ⟨x8, h9, H⟩ := bind_some H
  refine Lst.r (Ev.indexStr rfl rfl Tryz.runUnderlying9 h9) ?_
  obtain ⟨r10, h11, H⟩ := bind_some H
  refine Lst.call1 rfl rfl (by decide) (vs := [Str.v a0, .int .u8 x8.toBitVec.toNat]) ⟨rfl, rfl, trivial⟩ Tryz.call233 (internal_stringslite_IndexByte_sim h11 w0 _ M _ hM) ?_
  refine Lst.r (Ev.assign rfl) ?_
  refine nt0 ?_
  obtain rfl := some_inj H
  refine Cd.ret ?_
  refine At.in_ret ?_
  refine At.then_ret ?_
  exact At.ret1 rfl (Res.tmp rfl) hF5 (.refl _) ⟨rfl, rfl⟩
 replace H := ite_f hb7 H
 refine Cd.condF rfl hb7 ?_
 refine sr0 ?_
 refine mv0 rfl ?_
 refine mv0 rfl ?_
 refine Lst.r (Ev.lenStr rfl rfl Tryz.runUnderlying9) ?_
 refine Lst.r (Ev.geq rfl rfl) ?_
 refine Lst.r (Ev.assign rfl) ?_
 refine nt0 ?_
 rcases Bool.eq_false_or_eq_true (decide ((a1.length : Int) ≥ (a0.length : Int))) with hb14 | hb14
 ·replace H := ite_t hb14 H
  refine Cd.condT rfl hb14 ?_
  refine sr0 ?_
  refine Lst.r (Ev.assign rfl) ?_
  refine nt0 ?_
  obtain rfl := some_inj H
  refine Cd.ret ?_
  refine At.in_ret ?_
  refine At.then_ret ?_
  exact At.ret1 rfl (Res.tmp rfl) hF5 (.refl _) ⟨rfl, rfl⟩
 replace H := ite_f hb14 H
 cases H
set_option maxRecDepth 20000 in
theorem internal_stringslite_Cut_sim {a0 : Str} {a1 : Str} {r : Str × Str × Bool} (H : internal_stringslite_Cut a0 a1 = some r) (w0 : World) (F : Frz) (M L : List Item) (hM : M.Sublist L) : Ok Tryz.prog w0 220 [Str.v a0, Str.v a1] F (L) (Is (.tuple #[Str.v r.1, Str.v r.2.1, .bool r.2.2]) (L)) := by
 unfold internal_stringslite_Cut at H
 refine Ok.enter (m := 2) (n := 23) Tryz.func220 rfl rfl rfl (by decide) ?_
 refine Cd.env (e' := [(0, Str.v a0), (1, Str.v a1)]) rfl ?_
 refine sr0 ?_
 refine Lst.r (Ev.assign rfl) ?_
 refine Lst.r (Ev.assign rfl) ?_
 refine Lst.r (Ev.assign rfl) ?_
 refine nt0 ?_
 refine Cd.seq ?_
 refine sr0 ?_
 refine mv0 rfl ?_
 refine mv0 rfl ?_
 obtain ⟨r1, h2, H⟩ := bind_some H
 refine Lst.call1 rfl rfl (by decide) (vs := [Str.v a0, Str.v a1]) ⟨rfl, rfl, trivial⟩ Tryz.call189 (internal_stringslite_Index_sim h2 w0 _ M _ hM) ?_
 refine Lst.r (Ev.assign rfl) ?_
 refine nsr ?_
 refine mv0 rfl ?_
 refine Lst.r (Ev.geq rfl rfl) ?_
 refine nt0 ?_
 rcases Bool.eq_false_or_eq_true (decide (r1 ≥ (0 : Int))) with hb5 | hb5
 ·replace H := ite_t hb5 H
  refine Cd.condT rfl hb5 ?_
  refine Cd.seq ?_
  refine Cd.quiet (by kernel_rfl) (by kernel_rfl) ?_
  refine Qt.r (Ev.move rfl) ?_
  refine Qt.r (Ev.move rfl) ?_
  obtain ⟨m6, h7, H⟩ := bind_some H
  refine Qt.r (Ev.sliceStrTo rfl rfl  Tryz.runUnderlying9 h7) ?_
  refine Qt.r (Ev.move rfl) ?_
  refine Qt.r (Ev.move rfl) ?_
  refine Qt.r (Ev.move rfl) ?_
  refine Qt.r (Ev.lenStr rfl rfl Tryz.runUnderlying9) ?_
  refine Qt.r (Ev.add rfl rfl) ?_
  obtain ⟨m8, h9, H⟩ := bind_some H
  refine Qt.r (Ev.sliceStrFrom rfl rfl  Tryz.runUnderlying9 h9) ?_
  refine Qt.r (Ev.assign rfl) ?_
  refine Qt.r (Ev.assign rfl) ?_
  refine Qt.r (Ev.assign rfl) ?_
  refine Qt.done ?_
  refine At.then ?_
  obtain rfl := some_inj H
  refine Cd.ret ?_
  refine At.then_ret ?_
  exact At.ret3 rfl (Res.tmp rfl) (Res.tmp rfl) (Res.tmp rfl) fl (.refl _) ⟨rfl, rfl⟩
 replace H := ite_f hb5 H
 refine Cd.condF rfl hb5 ?_
 refine Cd.skip ?_
 refine At.then ?_
 refine sr0 ?_
 refine mv0 rfl ?_
 refine Lst.r (Ev.assign rfl) ?_
 refine Lst.r (Ev.assign rfl) ?_
 refine Lst.r (Ev.assign rfl) ?_
 refine nt0 ?_
 obtain rfl := some_inj H
 refine Cd.ret ?_
 exact At.ret3 rfl (Res.tmp rfl) (Res.tmp rfl) (Res.tmp rfl) fl (.refl _) ⟨rfl, rfl⟩
set_option maxRecDepth 20000 in
theorem strings_Cut_sim {a0 : Str} {a1 : Str} {r : Str × Str × Bool} (H : strings_Cut a0 a1 = some r) (w0 : World) (F : Frz) (M L : List Item) (hM : M.Sublist L) : Ok Tryz.prog w0 177 [Str.v a0, Str.v a1] F (L) (Is (.tuple #[Str.v r.1, Str.v r.2.1, .bool r.2.2]) (L)) := by
 unfold strings_Cut at H
 refine Ok.enter (m := 2) (n := 13) Tryz.func177 rfl rfl rfl (by decide) ?_
 refine Cd.env (e' := [(0, Str.v a0), (1, Str.v a1)]) rfl ?_
 refine sr0 ?_
 refine Lst.r (Ev.assign rfl) ?_
 refine Lst.r (Ev.assign rfl) ?_
 refine Lst.r (Ev.assign rfl) ?_
 refine nsr ?_
 refine mv0 rfl ?_
 refine mv0 rfl ?_
 obtain ⟨r1, h2, H⟩ := bind_some H
 refine Lst.call1 rfl rfl (by decide) (vs := [Str.v a0, Str.v a1]) ⟨rfl, rfl, trivial⟩ Tryz.call220 (internal_stringslite_Cut_sim h2 w0 _ M _ hM) ?_
 refine Lst.r (Ev.extract rfl rfl) ?_
 refine Lst.r (Ev.extract rfl rfl) ?_
 refine Lst.r (Ev.extract rfl rfl) ?_
 refine Lst.r (Ev.assign rfl) ?_
 refine Lst.r (Ev.assign rfl) ?_
 refine Lst.r (Ev.assign rfl) ?_
 refine nt0 ?_
 obtain rfl := some_inj H
 refine Cd.ret ?_
 exact At.ret3 rfl (Res.tmp rfl) (Res.tmp rfl) (Res.tmp rfl) fl (.refl _) ⟨rfl, rfl⟩
set_option maxRecDepth 20000 in
theorem internal_strconv_Atoi_sim {a0 : Str} {r : Int × Unit} (H : internal_strconv_Atoi a0 = some r) (w0 : World) (F : Frz) (M L : List Item) (hM : M.Sublist L) : Ok Tryz.prog w0 221 [Str.v a0] F (L) (Is (.tuple #[iv r.1, .nilIface]) (L)) := by
 unfold internal_strconv_Atoi at H
 refine Ok.enter (m := 1) (n := 77) Tryz.func221 rfl rfl rfl (by decide) ?_
 refine Cd.env (e' := [(0, Str.v a0)]) rfl ?_
 refine sr0 ?_
 refine Lst.r (Ev.assign rfl) ?_
 refine Lst.r (Ev.assign rfl) ?_
 refine nsr ?_
 refine mv0 rfl ?_
 refine Lst.r (Ev.lenStr rfl rfl Tryz.runUnderlying9) ?_
 refine Lst.r (Ev.assign rfl) ?_
 refine nt0 ?_
 refine Cd.seq ?_
 refine sr0 ?_
 refine mv0 rfl ?_
 refine Lst.skip rfl rfl rfl rfl rfl (by decide) ?_
 refine Lst.skip rfl rfl rfl rfl rfl (by decide) ?_
 refine Lst.skip rfl rfl rfl rfl rfl (by decide) ?_
 refine Lst.skipU rfl rfl rfl rfl (by decide) ?_
 refine Lst.skipU rfl rfl rfl rfl (by decide) ?_
 refine Lst.skip rfl rfl rfl rfl rfl (by decide) ?_
 refine Lst.r (Ev.pickF rfl rfl rfl) ?_
 refine mv0 rfl ?_
 refine Lst.rG rfl (Ev.move rfl) ?_
 refine Lst.rG rfl (Ev.move rfl) ?_
 refine Lst.rG rfl (Ev.lss rfl rfl) ?_
 refine Lst.rG rfl (Ev.move rfl) ?_
 obtain ⟨o1, H, HKo1⟩ := bind_some H
 refine Lst.join (σ := Bool) 3 (fun y2 => [(0, Str.v a0), (21, .bool false), (22, .bool true), (28, .bool y2)]) (fun y2 => L) (fun _ y2 => y2 = o1) ?_ ?_
 ·rcases (Bool.eq_false_or_eq_true (decide ((0 : Int) < (a0.length : Int)))).symm with hb3 | hb3
  ·replace H := ite_f hb3 H
   refine Lst.skip rfl rfl rfl hb3 rfl (by decide) ?_
   refine Lst.skip rfl rfl rfl hb3 rfl (by decide) ?_
   refine Lst.rG rfl (Ev.pickF rfl hb3 rfl) ?_
   refine Lst.nil ?_
   exact At.meet false fl ⟨rfl, rfl, rfl, rfl, trivial⟩ rfl (some_inj H)
  replace H := ite_t hb3 H
  refine Lst.rG hb3 (Ev.move rfl) ?_
  refine Lst.rG hb3 (Ev.lss rfl rfl) ?_
  refine Lst.rG rfl (Ev.pickT rfl hb3 rfl) ?_
  refine Lst.nil ?_
  exact At.meet (decide ((a0.length : Int) < (19 : Int))) fl ⟨rfl, rfl, rfl, rfl, trivial⟩ rfl (some_inj H)
 rintro F4 y2 hF5 hy
 subst hy
 refine Lst.as (e' := [(0, Str.v a0), (21, .bool false), (22, .bool true), (28, .bool y2)]) (L' := L) ⟨rfl, rfl, rfl, rfl, trivial⟩ rfl ?_
 replace H := HKo1
 refine Lst.rG rfl (Ev.pickT rfl rfl rfl) ?_
 refine Lst.r (Ev.pickF rfl rfl rfl) ?_
 refine nt0 ?_
 rcases Bool.eq_false_or_eq_true y2 with hb6 | hb6
 ·replace H := ite_t hb6 H
  refine Cd.condT rfl hb6 ?_
  refine sr0 ?_
  refine mv0 rfl ?_
  refine Lst.r (Ev.assign rfl) ?_
  refine nt0 ?_
  obtain ⟨o8, H, HKo8⟩ := andThen_some H
  refine Cd.join (σ := Str) (fun y7 => [(0, Str.v y7), (5, Str.v a0)]) (fun y7 => L) (fun _ y7 => .inl y7 = o8) ?_ ?_
  ·refine sr0 ?_
   refine mv0 rfl ?_
   obtain ⟨x9, h10, H⟩ := bind_some H
   refine Lst.r (Ev.indexStr rfl rfl Tryz.runUnderlying9 h10) ?_
   refine Lst.r (Ev.eql rfl rfl) ?_
   refine mv0 rfl ?_
   obtain ⟨o11, H, HKo11⟩ := bind_some H
   refine Lst.join (σ := Bool) 4 (fun y12 => [(0, Str.v a0), (5, Str.v a0), (39, .bool y12)]) (fun y12 => L) (fun _ y12 => y12 = o11) ?_ ?_
   ·rcases Bool.eq_false_or_eq_true ((x9.toBitVec.toNat : Int) == ((45 : BitVec 8).toNat : Int)) with hb13 | hb13
    ·replace H := ite_t hb13 H
     refine Lst.skip rfl rfl rfl hb13 rfl (by decide) ?_
     refine Lst.skip rfl rfl rfl hb13 rfl (by decide) ?_
     refine Lst.skip rfl rfl rfl hb13 rfl (by decide) ?_
     refine Lst.r (Ev.pickT rfl hb13 rfl) ?_
     refine Lst.nil ?_
     exact At.meet true fl ⟨rfl, rfl, rfl, trivial⟩ rfl (some_inj H)
    replace H := ite_f hb13 H
    refine Lst.rG hb13 (Ev.move rfl) ?_
    obtain ⟨x14, h15, H⟩ := bind_some H
    refine Lst.rG hb13 (Ev.indexStr rfl rfl Tryz.runUnderlying9 h15) ?_
    refine Lst.rG hb13 (Ev.eql rfl rfl) ?_
    refine Lst.r (Ev.pickF rfl hb13 rfl) ?_
    refine Lst.nil ?_
    exact At.meet ((x14.toBitVec.toNat : Int) == ((43 : BitVec 8).toNat : Int)) fl ⟨rfl, rfl, rfl, trivial⟩ rfl (some_inj H)
   rintro F16 y12 hF17 hy
   subst hy
   refine Lst.as (e' := [(0, Str.v a0), (5, Str.v a0), (39, .bool y12)]) (L' := L) ⟨rfl, rfl, rfl, trivial⟩ rfl ?_
   replace H := HKo11
   refine nt0 ?_
   rcases (Bool.eq_false_or_eq_true y12).symm with hb18 | hb18
   ·replace H := ite_f hb18 H
    refine Cd.condF rfl hb18 ?_
    refine Cd.skip ?_
    exact At.meet a0 hF17 ⟨rfl, rfl, trivial⟩ rfl (some_inj H)
   replace H := ite_t hb18 H
   refine Cd.condT rfl hb18 ?_
   refine sr0 ?_
   refine mv0 rfl ?_
   obtain ⟨m19, h20, H⟩ := bind_some H
   refine Lst.r (Ev.sliceStrFrom rfl rfl  Tryz.runUnderlying9 h20) ?_
   refine Lst.r (Ev.assign rfl) ?_
   refine nsr ?_
   refine mv0 rfl ?_
   refine Lst.r (Ev.lenStr rfl rfl Tryz.runUnderlying9) ?_
   refine Lst.r (Ev.lss rfl rfl) ?_
   refine nt0 ?_
   rcases Bool.eq_false_or_eq_true (decide ((m19.length : Int) < (1 : Int))) with hb21 | hb21
   ·replace H := ite_t hb21 H
    cases H
   replace H := ite_f hb21 H
   refine Cd.condF rfl hb21 ?_
   refine Cd.skip ?_
   exact At.meet m19 hF17 ⟨rfl, rfl, trivial⟩ rfl (some_inj H)
  rintro F22 y7 hF23 hy
  subst hy
  refine Cd.as (e' := [(0, Str.v y7), (5, Str.v a0)]) (L' := L) ⟨rfl, rfl, trivial⟩ rfl ?_
  replace H := HKo8
  refine sr0 ?_
  refine Lst.r (Ev.assign rfl) ?_
  refine nt0 ?_
  refine Cd.seq ?_
  refine sr0 ?_
  refine mv0 rfl ?_
  obtain ⟨u24, h25, H⟩ := bind_some H
  refine Lst.bytesOf (el := 5) rfl rfl (by decide) rfl (by kernel_rfl) (by kernel_rfl) (by kernel_rfl) (by have := room_some h25; simp at this; omega) (fun s26 F27 hF28 hq29 => ?_)
  refine Lst.r (Ev.lenS (α := BitVec 8) (xs := (Str.bytes y7)) (by decide) rfl rfl Tryz.runUnderlying183 (hq29.mono fl (List.nil_sublist _))) ?_
  refine mv0 rfl ?_
  refine nt0 ?_
  refine Cd.block ?_
  refine Cd.bound (Rd.le (α := BitVec 8) (xs := (Str.bytes y7)) (by decide) (hq29.mono fl (List.nil_sublist _))) (fun hN45 => ?_)
  obtain ⟨ol30, H, HKl30⟩ := andThen_some H
  refine Cd.loop (σ := Nat × Nat × Int) (fun (i30, k30, y31) => [(5, Str.v a0), (6, iv y31), (47, Sl.v s26), (48, iv ((Str.bytes y7).length : Int)), (49, iv (i30 : Int))]) (fun (i30, k30, y31) => L) (fun _ => (fun (i30, k30, y31) => rangeM (internal_strconv_Atoi_B0 y7) k30 i30 y31 = some ol30 ∧ i30 + k30 = (Str.bytes y7).length)) (fun (i30, k30, y31) => k30) (0, (Str.bytes y7).length, (0 : Int)) ⟨rfl, rfl, rfl, rfl, rfl, trivial⟩ rfl ⟨H, by omega⟩ ?_
  rintro F32 ⟨i30, k30, y31⟩ hF33 ⟨H, hik30⟩
  refine Cd.as (e' := [(5, Str.v a0), (6, iv y31), (47, Sl.v s26), (48, iv ((Str.bytes y7).length : Int)), (49, iv (i30 : Int))]) (L' := L) ⟨rfl, rfl, rfl, rfl, rfl, trivial⟩ rfl ?_
  rcases k30 with _ | k30
  ·have hc30 : decide ((i30 : Int) < ((Str.bytes y7).length : Int)) = false := decide_eq_false (by omega)
   replace H := rangeM_end H
   refine sr0 ?_
   refine Lst.r (Ev.lss rfl rfl) ?_
   refine nt0 ?_
   refine Cd.seq ?_
   refine Cd.condF rfl hc30 ?_
   refine Cd.exit ?_
   refine At.then_exit ?_
   refine At.then_exit ?_
   refine At.in_exit ?_
   subst H
   replace H := HKl30
   refine At.then ?_
   obtain ⟨o39, H, HKo39⟩ := bind_some H
   refine Cd.join (σ := Int) (fun y38 => [(6, iv y38)]) (fun y38 => L) (fun _ y38 => y38 = o39) ?_ ?_
   ·refine sr0 ?_
    refine mv0 rfl ?_
    obtain ⟨x40, h41, H⟩ := bind_some H
    refine Lst.r (Ev.indexStr rfl rfl Tryz.runUnderlying9 h41) ?_
    refine Lst.r (Ev.eql rfl rfl) ?_
    refine nt0 ?_
    rcases (Bool.eq_false_or_eq_true ((x40.toBitVec.toNat : Int) == ((45 : BitVec 8).toNat : Int))).symm with hb42 | hb42
    ·replace H := ite_f hb42 H
     refine Cd.condF rfl hb42 ?_
     refine Cd.skip ?_
     exact At.meet y31 fl ⟨rfl, trivial⟩ rfl (some_inj H)
    replace H := ite_t hb42 H
    refine Cd.condT rfl hb42 ?_
    refine Cd.region ?_
    refine mv0 rfl ?_
    refine Lst.r (Ev.neg rfl) ?_
    refine Lst.r (Ev.assign rfl) ?_
    refine Lst.nil ?_
    exact At.meet (w64 (0 - y31)) fl ⟨rfl, trivial⟩ rfl (some_inj H)
   rintro F43 y38 hF44 hy
   subst hy
   refine Cd.as (e' := [(6, iv y38)]) (L' := L) ⟨rfl, trivial⟩ rfl ?_
   replace H := HKo39
   refine sr0 ?_
   refine mv0 rfl ?_
   refine Lst.r (Ev.assign rfl) ?_
   refine Lst.r (Ev.assign rfl) ?_
   refine nt0 ?_
   obtain rfl := some_inj H
   refine Cd.ret ?_
   refine At.then_ret ?_
   exact At.ret2 rfl (Res.tmp rfl) (Res.tmp rfl) (FLe.trans (FLe.trans (FLe.trans (FLe.trans hF5 hF23) hF28) hF33) hF44) (.refl _) ⟨rfl, rfl⟩
  have hc30 : decide ((i30 : Int) < ((Str.bytes y7).length : Int)) = true := decide_eq_true (by omega)
  obtain ⟨c30, H, hgo30, hbrk30, hret30⟩ := rangeM_go H
  unfold internal_strconv_Atoi_B0 at H
  try dsimp only at H
  refine sr0 ?_
  refine Lst.r (Ev.lss rfl rfl) ?_
  refine nt0 ?_
  refine Cd.seq ?_
  refine Cd.condT rfl hc30 ?_
  refine Cd.skip ?_
  refine At.then ?_
  refine Cd.seq ?_
  refine Cd.block ?_
  refine sr0 ?_
  obtain ⟨x34, h35, H⟩ := bind_some H
  have g36 := lat_some h35
  refine Lst.r (Ev.indexS (α := BitVec 8) (xs := (Str.bytes y7)) rfl rfl Tryz.runUnderlying183 Tryz.sizeOf5 rfl (by decide) (hq29.mono hF33 (List.nil_sublist _)) g36.1 g36.2.1) ?_
  refine Lst.r (Ev.loadS (α := BitVec 8) rfl (hq29.mono hF33 (List.nil_sublist _)) Tryz.isAgg5 (v := .int .u8 x34.toNat) ((Get.elemN (s := 1) (x := x34) rfl g36.2.2 gh0).off (by omega))) ?_
  refine Lst.r (Ev.assign rfl) ?_
  refine nsr ?_
  refine mv0 rfl ?_
  refine Lst.r (Ev.subU8 (i := x34) (j := (48 : BitVec 8)) rfl rfl) ?_
  refine Lst.r (Ev.assign rfl) ?_
  refine nt0 ?_
  refine Cd.seq ?_
  refine sr0 ?_
  refine mv0 rfl ?_
  refine Lst.r (Ev.gtr rfl rfl) ?_
  refine nt0 ?_
  rcases Bool.eq_false_or_eq_true (decide (((x34 - (48 : BitVec 8)).toNat : Int) > ((9 : BitVec 8).toNat : Int))) with hb37 | hb37
  ·replace H := ite_t hb37 H
   cases H
  replace H := ite_f hb37 H
  refine Cd.condF rfl hb37 ?_
  refine Cd.skip ?_
  refine At.then ?_
  refine Cd.region ?_
  refine mv0 rfl ?_
  refine Lst.r (Ev.mul rfl rfl) ?_
  refine mv0 rfl ?_
  refine Lst.r (Ev.convIS (j := ((x34 - (48 : BitVec 8)).toNat : Int)) rfl Tryz.runUnderlying5 Tryz.runUnderlying3 (w64_id (by omega) (by omega))) ?_
  refine Lst.r (Ev.add rfl rfl) ?_
  refine Lst.r (Ev.assign rfl) ?_
  refine Lst.nil ?_
  refine At.in_normal ?_
  refine At.then ?_
  refine Cd.as (e' := [(5, Str.v a0), (6, iv (w64 ((w64 (y31 * (10 : Int))) + ((x34 - (48 : BitVec 8)).toNat : Int)))), (47, Sl.v s26), (48, iv ((Str.bytes y7).length : Int)), (49, iv (i30 : Int))]) (L' := L) ⟨rfl, rfl, rfl, rfl, rfl, trivial⟩ rfl ?_
  refine Cd.region ?_
  refine Lst.r (Ev.incr (by omega) rfl rfl) ?_
  refine mv0 rfl ?_
  refine Lst.nil ?_
  exact At.meet (i30 + 1, k30, w64 ((w64 (y31 * (10 : Int))) + ((x34 - (48 : BitVec 8)).toNat : Int))) hF33 ⟨rfl, rfl, rfl, rfl, rfl, trivial⟩ rfl ⟨⟨hgo30 _ (some_inj H).symm, by omega⟩, Nat.lt_succ_self _⟩
 replace H := ite_f hb6 H
 cases H
set_option maxRecDepth 20000 in
theorem strconv_Atoi_sim {a0 : Str} {r : Int × Unit} (H : strconv_Atoi a0 = some r) (w0 : World) (F : Frz) (M L : List Item) (hM : M.Sublist L) : Ok Tryz.prog w0 178 [Str.v a0] F (L) (Is (.tuple #[iv r.1, .nilIface]) (L)) := by
 unfold strconv_Atoi at H
 refine Ok.enter (m := 1) (n := 18) Tryz.func178 rfl rfl rfl (by decide) ?_
 refine Cd.env (e' := [(0, Str.v a0)]) rfl ?_
 refine sr0 ?_
 refine Lst.r (Ev.assign rfl) ?_
 refine Lst.r (Ev.assign rfl) ?_
 refine nsr ?_
 refine mv0 rfl ?_
 obtain ⟨r1, h2, H⟩ := bind_some H
 refine Lst.call1 rfl rfl (by decide) (vs := [Str.v a0]) ⟨rfl, trivial⟩ Tryz.call221 (internal_strconv_Atoi_sim h2 w0 _ M _ hM) ?_
 refine mv0 rfl ?_
 refine Lst.r (Ev.extract rfl rfl) ?_
 refine Lst.r (Ev.extract rfl rfl) ?_
 refine Lst.r (Ev.assign rfl) ?_
 refine Lst.r (Ev.assign rfl) ?_
 refine nt0 ?_
 refine Cd.seq ?_
 refine sr0 ?_
 refine mv0 rfl ?_
 refine Lst.r (Ev.neqErr rfl Tryz.runUnderlying254) ?_
 refine nt0 ?_
 refine Cd.condF rfl rfl ?_
 refine Cd.skip ?_
 refine At.then ?_
 refine sr0 ?_
 refine mv0 rfl ?_
 refine Lst.r (Ev.assign rfl) ?_
 refine Lst.r (Ev.assign rfl) ?_
 refine nt0 ?_
 obtain rfl := some_inj H
 refine Cd.ret ?_
 exact At.ret2 rfl (Res.tmp rfl) (Res.tmp rfl) fl (.refl _) ⟨rfl, rfl⟩
set_option maxRecDepth 20000 in
theorem lane_Heard_sim {a0 : From} {a1 : Int} {s_a0_1 : Sl} {r : From × Int} (H : lane_Heard a0 a1 = some r) (w0 : World) (F : Frz) (M L : List Item) (hM : M.Sublist L) (hs_a0_1 : Rd w0 F M s_a0_1 a0.Late) : Ok Tryz.prog w0 179 [.agg (enc (FromR.mk a0 s_a0_1)).toArray, iv a1] F (L) (fun _ L' v => ∃ (s1 : Sl), v = .tuple #[.agg (enc (FromR.mk r.1 s1)).toArray, iv r.2] ∧ L' = (.own s1 9 1 (encs r.1.Late)) :: L) := by
 unfold lane_Heard at H
 refine Ok.enter (m := 2) (n := 38) Tryz.func179 rfl rfl rfl (by decide) ?_
 refine Cd.env (e' := [(0, .agg (enc (FromR.mk a0 s_a0_1)).toArray), (1, iv a1)]) rfl ?_
 refine sr0 ?_
 refine Lst.box rfl rfl (by decide) rfl (cs := enc (FromR.mk a0 s_a0_1)) rfl (fun b1 => ?_)
 refine Lst.addNil 9 1 ?_
 refine Lst.alloc (cs := enc (FromR.mk ({ From.zero with Late := ([] : List Str) } : From) Sl.nil)) rfl rfl (by decide) Tryz.zeroValue45 rfl (fun b4 => ?_)
 refine Lst.r (Ev.assign rfl) ?_
 refine nt0 ?_
 refine Cd.seq ?_
 refine sr0 ?_
 refine Lst.r (Ev.loadA (i := 2) rfl rfl Tryz.isAgg45 Tryz.sizeOf45 (ch := enc (FromR.mk a0 s_a0_1)) (Enc.len _) gh0) ?_
 obtain ⟨r6, h7, H⟩ := bind_some H
 refine Lst.call1 rfl rfl (by decide) (vs := [.agg (enc (FromR.mk a0 s_a0_1)).toArray]) ⟨rfl, trivial⟩ Tryz.call111 (lane_CheckFrom_sim h7 w0 _ M _ (sc2 (sc1 hM)) (hs_a0_1.mono fl (.refl _))) ?_
 refine Lst.r (Ev.assign rfl) ?_
 refine nsr ?_
 refine mv0 rfl ?_
 refine Lst.r (Ev.neq rfl rfl) ?_
 refine nt0 ?_
 rcases Bool.eq_false_or_eq_true (r6 != (0 : Int)) with hb10 | hb10
 ·replace H := ite_t hb10 H
  refine Cd.condT rfl hb10 ?_
  refine sr0 ?_
  refine Lst.r (Ev.build (v := .agg (enc (FromR.mk From.zero Sl.nil)).toArray) (pv := []) trivial (fun w => by kernel_rfl)) ?_
  refine mv0 rfl ?_
  refine Lst.store (i := 0) rfl rfl rfl rfl rfl Tryz.sizeOf45 (vs := enc (FromR.mk From.zero Sl.nil)) rfl (Enc.len _) (Enc.one _) (cs' := enc (FromR.mk From.zero Sl.nil)) (Put.here ((Enc.len _).trans (Enc.len _).symm)) (L' := (.blk b4 (enc (FromR.mk From.zero Sl.nil)) 45) :: (.own Sl.nil 9 1 (encs ([] : List Str))) :: (.blk b1 (enc (FromR.mk a0 s_a0_1)) 45) :: L) rfl ?_
  refine Lst.r (Ev.assign rfl) ?_
  refine nt0 ?_
  obtain rfl := some_inj H
  refine Cd.ret ?_
  refine At.then_ret ?_
  refine At.addNil 9 1 ?_
  exact At.ret2 rfl (Res.cellA (i := 1) rfl rfl Tryz.isAgg45 Tryz.sizeOf45 (Enc.len _)) (Res.tmp rfl) fl (sk1 (sc1 (sc1 (sc1 (.refl _))))) ⟨Sl.nil, rfl, rfl⟩
 replace H := ite_f hb10 H
 refine Cd.condF rfl hb10 ?_
 refine Cd.skip ?_
 refine At.then ?_
 refine Cd.seq ?_
 refine sr0 ?_
 refine mv0 rfl ?_
 refine Lst.r (Ev.fieldAddr (off' := 0) rfl Tryz.runUnderlying45 rfl Tryz.sizeOf3 rfl rfl) ?_
 refine Lst.r (Ev.load (i := 2) rfl rfl Tryz.isAgg3 (v := iv a0.Base) ((FromR.get_Base gh0).off (by rfl))) ?_
 refine Lst.r (Ev.fieldAddr (off' := 1) rfl Tryz.runUnderlying45 rfl Tryz.sizeOf43 rfl rfl) ?_
 refine Lst.r (Ev.load (i := 2) rfl rfl Tryz.isAgg43 (v := Sl.v s_a0_1) ((FromR.get_Late gh0).off (by rfl))) ?_
 refine Lst.r (Ev.lenS (α := Str) (xs := a0.Late) (by decide) rfl rfl Tryz.runUnderlying43 (hs_a0_1.mono fl (sc2 (sc1 hM)))) ?_
 refine Lst.r (Ev.add rfl rfl) ?_
 refine Lst.r (Ev.gtr rfl rfl) ?_
 refine nt0 ?_
 rcases Bool.eq_false_or_eq_true (decide (a1 > (w64 (a0.Base + (a0.Late.length : Int))))) with hb12 | hb12
 ·replace H := ite_t hb12 H
  refine Cd.condT rfl hb12 ?_
  refine Cd.seq ?_
  refine Cd.as (e' := [(4, pv b4 0)]) (L' := (.blk b4 (enc (FromR.mk ({ From.zero with Late := ([] : List Str) } : From) Sl.nil)) 45) :: (.own Sl.nil 9 1 (encs ([] : List Str))) :: (.blk b1 (enc (FromR.mk a0 s_a0_1)) 45) :: L) ⟨rfl, trivial⟩ rfl ?_
  refine Cd.region ?_
  refine Lst.r (Ev.build (v := .agg (enc (FromR.mk From.zero Sl.nil)).toArray) (pv := []) trivial (fun w => by kernel_rfl)) ?_
  refine Lst.store (i := 0) rfl rfl rfl rfl rfl Tryz.sizeOf45 (vs := enc (FromR.mk From.zero Sl.nil)) rfl (Enc.len _) (Enc.one _) (cs' := enc (FromR.mk From.zero Sl.nil)) (Put.here ((Enc.len _).trans (Enc.len _).symm)) (L' := (.blk b4 (enc (FromR.mk From.zero Sl.nil)) 45) :: (.own Sl.nil 9 1 (encs ([] : List Str))) :: (.blk b1 (enc (FromR.mk a0 s_a0_1)) 45) :: L) rfl ?_
  refine Lst.r (Ev.assign rfl) ?_
  refine nt0 ?_
  obtain rfl := some_inj H
  refine Cd.ret ?_
  refine At.then_ret ?_
  refine At.addNil 9 1 ?_
  exact At.ret2 rfl (Res.cellA (i := 1) rfl rfl Tryz.isAgg45 Tryz.sizeOf45 (Enc.len _)) (Res.tmp rfl) fl (sk1 (sc1 (sc1 (sc1 (.refl _))))) ⟨Sl.nil, rfl, rfl⟩
 replace H := ite_f hb12 H
 refine Cd.condF rfl hb12 ?_
 refine Cd.skip ?_
 refine At.then ?_
 refine Cd.seq ?_
 refine Cd.as (e' := [(1, iv a1), (2, pv b1 0), (4, pv b4 0)]) (L' := (.blk b4 (enc (FromR.mk ({ From.zero with Late := ([] : List Str) } : From) Sl.nil)) 45) :: (.own Sl.nil 9 1 (encs ([] : List Str))) :: (.blk b1 (enc (FromR.mk a0 s_a0_1)) 45) :: L) ⟨rfl, rfl, rfl, trivial⟩ rfl ?_
 refine Cd.region ?_
 refine mv0 rfl ?_
 refine Lst.r (Ev.fieldAddr (off' := 0) rfl Tryz.runUnderlying45 rfl Tryz.sizeOf3 rfl rfl) ?_
 refine Lst.r (Ev.load (i := 2) rfl rfl Tryz.isAgg3 (v := iv a0.Base) ((FromR.get_Base gh0).off (by rfl))) ?_
 refine Lst.r (Ev.sub rfl rfl) ?_
 refine Lst.r (Ev.max2 rfl rfl) ?_
 refine Lst.r (Ev.assign rfl) ?_
 refine nt0 ?_
 refine Cd.seq ?_
 obtain ⟨m14, h15, H⟩ := bind_some H
 obtain ⟨r19, h20, H⟩ := bind_some H
 obtain ⟨o28, h29, H⟩ := Let_some H
 refine Cd.headMeet (σ := Sl × (List Str)) 9 (fun (s26, l27) => [(4, pv b4 0), (31, iv (w64 (a0.Base + (max (w64 (a1 - a0.Base)) (0 : Int))))), (36, Sl.v s26)]) (fun (s26, l27) => (.own s26 9 1 (encs l27)) :: (.blk b4 (enc (FromR.mk ({ From.zero with Late := ([] : List Str) } : From) Sl.nil)) 45) :: (.own Sl.nil 9 1 (encs ([] : List Str))) :: (.blk b1 (enc (FromR.mk a0 s_a0_1)) 45) :: L) (fun _ (s26, l27) => l27 = o28) (by kernel_rfl) (by kernel_rfl) (behind_sink (by kernel_rfl) (by kernel_rfl) (by kernel_rfl)) (by kernel_rfl) (fun hsel hlt => ?_) ?_
 ·refine HdJ.keep (fun w => St w0 F ((.blk b4 (enc (FromR.mk ({ From.zero with Late := ([] : List Str) } : From) Sl.nil)) 45) :: (.own Sl.nil 9 1 (encs ([] : List Str))) :: (.blk b1 (enc (FromR.mk a0 s_a0_1)) 45) :: L) w) (fun w h => trivial) ?_
  refine HdJ.ts hsel hlt 0 (sk1 (sk1 (sk1 (.refl _)))) rfl (Ev.fieldAddr (off' := 0) rfl Tryz.runUnderlying45 rfl Tryz.sizeOf3 rfl rfl) ?_
  refine HdJ.ts hsel hlt 1 (sk1 (sk1 (sk1 (.refl _)))) rfl (Ev.load (i := 2) rfl rfl Tryz.isAgg3 (v := iv a0.Base) ((FromR.get_Base gh0).off (by rfl))) ?_
  refine HdJ.ts hsel hlt 2 (sk1 (sk1 (sk1 (.refl _)))) rfl (Ev.move rfl) ?_
  refine HdJ.ts hsel hlt 3 (sk1 (sk1 (sk1 (.refl _)))) rfl (Ev.add rfl rfl) ?_
  refine HdJ.ts hsel hlt 4 (sk1 (sk1 (sk1 (.refl _)))) rfl (Ev.fieldAddr (off' := 1) rfl Tryz.runUnderlying45 rfl Tryz.sizeOf43 rfl rfl) ?_
  refine HdJ.ts hsel hlt 5 (sk1 (sk1 (sk1 (.refl _)))) rfl (Ev.load (i := 2) rfl rfl Tryz.isAgg43 (v := Sl.v s_a0_1) ((FromR.get_Late gh0).off (by rfl))) ?_
  refine HdJ.ts hsel hlt 6 (sk1 (sk1 (sk1 (.refl _)))) rfl (Ev.move rfl) ?_
  obtain ⟨g30, gl31⟩ := cutL_some h15
  try dsimp only at g30
  have hq32 : Rd w0 F M (s_a0_1.cut (max (w64 (a1 - a0.Base)) (0 : Int) : Int).toNat ((a0.Late.length : Int) : Int).toNat 1) m14 := by rw [← gl31]; exact Rd.cut (by decide) hs_a0_1 (by omega) (by omega)
  refine HdJ.ts hsel hlt 7 (sk1 (sk1 (sk1 (.refl _)))) rfl (Ev.cut (α := Str) (xs := a0.Late) (i := max (w64 (a1 - a0.Base)) (0 : Int)) (j := (a0.Late.length : Int)) rfl rfl rfl Tryz.runUnderlying43 Tryz.sizeOf9 rfl (by decide) (hs_a0_1.mono fl (sc2 (sc1 hM))) g30.1 g30.2.1 g30.2.2) ?_
  refine HdJ.o1 8 (fun inv => ?_)
  refine Lst.call rfl rfl (by decide) (vs := [Sl.v (s_a0_1.cut (max (w64 (a1 - a0.Base)) (0 : Int) : Int).toNat ((a0.Late.length : Int) : Int).toNat 1)]) ⟨rfl, trivial⟩ Tryz.call45 (slices_Clone_string_string_sim h20 w0 _ M _ (sc2 (sc1 hM)) (hq32.mono fl (.refl _))) (fun F34 L' v hF35 hv => ?_)
  obtain ⟨s33, rfl, rfl⟩ := hv
  refine Lst.nil ?_
  refine At.hd inv (fun w h => (h.weaken hF35).sublist (sc1 (sk1 (sk1 (sk1 (.refl _)))))) ?_
  refine HdJ.done (by kernel_rfl) ?_
  exact At.meetN (s33, r19) hF35 ⟨rfl, rfl, rfl, trivial⟩ rfl h29
 rintro F36 ⟨s26, l27⟩ hF37 hy
 subst hy
 refine Lst.as (e' := [(4, pv b4 0), (31, iv (w64 (a0.Base + (max (w64 (a1 - a0.Base)) (0 : Int))))), (36, Sl.v s26)]) (L' := (.own s26 9 1 (encs l27)) :: (.blk b4 (enc (FromR.mk ({ From.zero with Late := ([] : List Str) } : From) Sl.nil)) 45) :: (.own Sl.nil 9 1 (encs ([] : List Str))) :: (.blk b1 (enc (FromR.mk a0 s_a0_1)) 45) :: L) ⟨rfl, rfl, rfl, trivial⟩ rfl ?_
 refine Lst.r (Ev.build (v := .agg (enc (FromR.mk ({ From.zero with Base := w64 (a0.Base + (max (w64 (a1 - a0.Base)) (0 : Int))), Late := l27 } : From) s26)).toArray) (pv := [(0, iv (w64 (a0.Base + (max (w64 (a1 - a0.Base)) (0 : Int))))), (1, Sl.v s26)]) ⟨rfl, rfl, ⟨rfl, rfl, trivial⟩⟩ (run_buildStruct (places := #[(0, 1), (1, 1)]) Tryz.zeroValue45 (zs := enc (FromR.mk From.zero Sl.nil)) rfl Tryz.runUnderlying45 (fun w => by kernel_rfl) (fill_cons (cs := enc (FromR.mk From.zero Sl.nil)) (cs' := enc (FromR.mk ({ From.zero with Base := w64 (a0.Base + (max (w64 (a1 - a0.Base)) (0 : Int))) } : From) Sl.nil)) (vs := [iv (w64 (a0.Base + (max (w64 (a1 - a0.Base)) (0 : Int))))]) rfl rfl rfl ((FromR.put_Base (p := (FromR.mk From.zero Sl.nil)) (y := (w64 (a0.Base + (max (w64 (a1 - a0.Base)) (0 : Int))))) (Put.here (vs := [iv (w64 (a0.Base + (max (w64 (a1 - a0.Base)) (0 : Int))))]) rfl)).off rfl) (fill_cons (cs := enc (FromR.mk ({ From.zero with Base := w64 (a0.Base + (max (w64 (a1 - a0.Base)) (0 : Int))) } : From) Sl.nil)) (cs' := enc (FromR.mk ({ From.zero with Base := w64 (a0.Base + (max (w64 (a1 - a0.Base)) (0 : Int))), Late := l27 } : From) s26)) (vs := [Sl.v s26]) rfl rfl rfl ((FromR.put_Late (p := (FromR.mk ({ From.zero with Base := w64 (a0.Base + (max (w64 (a1 - a0.Base)) (0 : Int))) } : From) Sl.nil)) (y := s26) (Put.here (vs := [Sl.v s26]) rfl)).off rfl) fill_nil)))) ?_
 refine Lst.store (i := 1) rfl rfl rfl rfl rfl Tryz.sizeOf45 (vs := enc (FromR.mk ({ From.zero with Base := w64 (a0.Base + (max (w64 (a1 - a0.Base)) (0 : Int))), Late := l27 } : From) s26)) rfl (Enc.len _) (Enc.one _) (cs' := enc (FromR.mk ({ From.zero with Base := w64 (a0.Base + (max (w64 (a1 - a0.Base)) (0 : Int))), Late := l27 } : From) s26)) (Put.here ((Enc.len _).trans (Enc.len _).symm)) (L' := (.own s26 9 1 (encs l27)) :: (.blk b4 (enc (FromR.mk ({ From.zero with Base := w64 (a0.Base + (max (w64 (a1 - a0.Base)) (0 : Int))), Late := l27 } : From) s26)) 45) :: (.own Sl.nil 9 1 (encs ([] : List Str))) :: (.blk b1 (enc (FromR.mk a0 s_a0_1)) 45) :: L) rfl ?_
 refine Lst.r (Ev.assign rfl) ?_
 refine nt0 ?_
 obtain rfl := some_inj H
 refine Cd.ret ?_
 exact At.ret2 rfl (Res.cellA (i := 1) rfl rfl Tryz.isAgg45 Tryz.sizeOf45 (Enc.len _)) (Res.tmp rfl) hF37 (sk1 (sc1 (sc1 (sc1 (.refl _))))) ⟨s26, rfl, rfl⟩
set_option maxRecDepth 20000 in
theorem world_World_take_sim {fu : Nat} {a0 : Wld} {a1 : Note} {b_a0 : Nat} {s_a0_1 : Sl} {rs_a0_1 : List ProcessR} {s_a0_2 : Sl} {s_a0_3 : Sl} {r : (List Procs) × Wld} (H : world_World_take fu a0 a1 = some r) (w0 : World) (F : Frz) (M L : List Item) (hM : M.Sublist L) (hm_a0_1 : rs_a0_1.map ProcessR.v = a0.all) (ha_a0_1 : All ProcessR.frel w0 F [] rs_a0_1) : Ok Tryz.prog w0 120 [pv b_a0 0, .agg (enc a1).toArray] F ((.rows (α := Saying) 62 (List.map ProcessR.row rs_a0_1)) :: (.own s_a0_1 100 8 (encs rs_a0_1)) :: (.own s_a0_2 9 1 (encs a0.ordered)) :: (.own s_a0_3 9 1 (encs a0.way)) :: (.blk b_a0 (enc (WldR.mk a0 s_a0_1 s_a0_2 s_a0_3)) 95) :: L) (fun Fx L' v => ∃ (rs6 : List ProcessR), v = .tuple #[] ∧ L' = (.rows (α := Saying) 62 (List.map ProcessR.row rs6)) :: (.own s_a0_1 100 8 (encs rs6)) :: (.own s_a0_2 9 1 (encs a0.ordered)) :: (.own s_a0_3 9 1 (encs a0.way)) :: (.blk b_a0 (enc (WldR.mk ({ r.2 with all := r.1, ordered := a0.ordered, way := a0.way } : Wld) s_a0_1 s_a0_2 s_a0_3)) 95) :: L ∧ rs6.map ProcessR.v = r.1 ∧ All ProcessR.frel w0 Fx [] rs6) := by
 unfold world_World_take at H
 refine Ok.enter (m := 2) (n := 110) Tryz.func120 rfl rfl rfl (by decide) ?_
 refine Cd.env (e' := [(0, pv b_a0 0), (1, .agg (enc a1).toArray)]) rfl ?_
 refine sr0 ?_
 refine Lst.box rfl rfl (by decide) rfl (cs := enc a1) rfl (fun b6 => ?_)
 refine nt0 ?_
 refine Cd.seq ?_
 refine Cd.quiet (by kernel_rfl) (by kernel_rfl) ?_
 refine Qt.r (Ev.move rfl) ?_
 refine Qt.r (Ev.nilCheck rfl) ?_
 refine Qt.r (Ev.fieldAddr (off' := 2) rfl Tryz.runUnderlying95 rfl Tryz.sizeOf93 rfl rfl) ?_
 refine Qt.r (Ev.load (i := 5) rfl rfl Tryz.isAgg93 (v := Sl.v s_a0_1) ((WldR.get_all gh0).off (by rfl))) ?_
 refine Qt.r (Ev.fieldAddr (off' := 2) rfl Tryz.runUnderlying132 rfl Tryz.sizeOf3 rfl rfl) ?_
 refine Qt.r (Ev.load (i := 0) rfl rfl Tryz.isAgg3 (v := iv a1.To) ((Note.get_To gh0).off (by rfl))) ?_
 obtain ⟨x8, h9, H⟩ := bind_some H
 have g10 := lat_some h9
 obtain ⟨⟨r11v, r11h1, ⟨r11_2v, r11_2h1⟩, ⟨r11_3v, r11_3h1⟩, ⟨r11_4v, r11_4h1⟩⟩, r11g, r11e, r11m⟩ := map_get hm_a0_1 g10.2.2
 obtain rfl : x8 = r11v := r11e.symm
 have r11q : ProcessR.frel w0 _ _ (ProcessR.mk x8 r11h1 (FromR.mk r11_2v r11_2h1) (ToR.mk r11_3v r11_3h1) (ToR.mk r11_4v r11_4h1)) := ha_a0_1 _ r11m
 obtain ⟨r11_i2, r11_i3, r11_i4⟩ := r11q
 obtain ⟨r11_2e, r11_2q⟩ := r11_i2
 obtain rfl : r11_2v = x8.from_ := r11_2e
 have r11_2_f1 : Rd w0 _ _ _ _ := r11_2q
 obtain ⟨r11_3e, r11_3q⟩ := r11_i3
 obtain rfl : r11_3v = x8.to := r11_3e
 have r11_3_f1 : Rd w0 _ _ _ _ := r11_3q
 obtain ⟨r11_4e, r11_4q⟩ := r11_i4
 obtain rfl : r11_4v = x8.orders := r11_4e
 have r11_4_f1 : Rd w0 _ _ _ _ := r11_4q
 have r11wg := map_at ProcessR.row r11g
 refine Qt.r (Ev.indexS (α := ProcessR) (xs := rs_a0_1) rfl rfl Tryz.runUnderlying93 Tryz.sizeOf100 rfl (by decide) (rdo 2 rfl rfl rfl) g10.1 (by have := map_len hm_a0_1; omega)) ?_
 refine Qt.r (Ev.assign rfl) ?_
 refine Qt.done ?_
 refine At.then ?_
 refine Cd.seq ?_
 obtain ⟨r12, h13, H⟩ := bind_some H
 obtain ⟨o29, h30, H⟩ := Let_some H
 refine Cd.headMeet (σ := Nat × Sl × (List Parcel) × Sl × (List Str)) 17 (fun (b24, s25, l26, s27, l28) => [(3, pv b6 0), (4, Sl.at s_a0_1 (a1.To.toNat * 8)), (5, pv b24 0), (6, Sl.v s27), (42, iv r12.2.2)]) (fun (b24, s25, l26, s27, l28) => (.blk b24 (enc (ToR.mk ({ r12.1 with Early := l26 } : To) s25)) 41) :: (.own s25 146 2 (encs l26)) :: (.own s27 9 1 (encs l28)) :: (.blk b6 (enc a1) 132) :: (.rows (α := Saying) 62 (List.map ProcessR.row rs_a0_1)) :: (.own s_a0_1 100 8 (encs rs_a0_1)) :: (.own s_a0_2 9 1 (encs a0.ordered)) :: (.own s_a0_3 9 1 (encs a0.way)) :: (.blk b_a0 (enc (WldR.mk a0 s_a0_1 s_a0_2 s_a0_3)) 95) :: L) (fun _ (b24, s25, l26, s27, l28) => (l26, l28) = o29) (by kernel_rfl) (by kernel_rfl) (behind_sink (by kernel_rfl) (by kernel_rfl) (by kernel_rfl)) (by kernel_rfl) (fun hsel hlt => ?_) ?_
 ·refine HdJ.keep (fun w => St w0 F ((.blk b6 (enc a1) 132) :: (.rows (α := Saying) 62 (List.map ProcessR.row rs_a0_1)) :: (.own s_a0_1 100 8 (encs rs_a0_1)) :: (.own s_a0_2 9 1 (encs a0.ordered)) :: (.own s_a0_3 9 1 (encs a0.way)) :: (.blk b_a0 (enc (WldR.mk a0 s_a0_1 s_a0_2 s_a0_3)) 95) :: L) w) (fun w h => trivial) ?_
  refine HdJ.ts hsel hlt 0 (sk1 (sk1 (sk1 (sk1 (sk1 (sk1 (.refl _))))))) rfl (Ev.move rfl) ?_
  refine HdJ.ts hsel hlt 1 (sk1 (sk1 (sk1 (sk1 (sk1 (sk1 (.refl _))))))) rfl (Ev.nilCheckS (α := ProcessR) rfl (rdo 2 rfl rfl rfl) ((Get.elemN (s := 8) rfl r11g gh0).off (by omega)) rfl) ?_
  refine HdJ.ts hsel hlt 2 (sk1 (sk1 (sk1 (sk1 (sk1 (sk1 (.refl _))))))) rfl (Ev.fieldS (α := ProcessR) (f' := a1.To.toNat * 8 + 4) rfl (rdo 2 rfl rfl rfl) ((Get.elemN (s := 8) rfl r11g gh0).off (by omega)) rfl Tryz.runUnderlying100 rfl Tryz.sizeOf41 rfl rfl rfl) ?_
  refine HdJ.ts hsel hlt 3 (sk1 (sk1 (sk1 (sk1 (sk1 (sk1 (.refl _))))))) rfl (Ev.loadSA (α := ProcessR) rfl (rdo 2 rfl rfl rfl) Tryz.isAgg41 Tryz.sizeOf41 (ch := enc (ToR.mk x8.to r11_3h1)) (Enc.len _) (by decide) ((Get.elemN (s := 8) rfl r11g (ProcessR.get_to gh0)).off (by omega))) ?_
  refine HdJ.ts hsel hlt 4 (sk1 (sk1 (sk1 (sk1 (sk1 (sk1 (.refl _))))))) rfl (Ev.fieldAddr (off' := 4) rfl Tryz.runUnderlying132 rfl Tryz.sizeOf3 rfl rfl) ?_
  refine HdJ.ts hsel hlt 5 (sk1 (sk1 (sk1 (sk1 (sk1 (sk1 (.refl _))))))) rfl (Ev.load (i := 0) rfl rfl Tryz.isAgg3 (v := iv a1.Seq) ((Note.get_Seq gh0).off (by rfl))) ?_
  refine HdJ.ts hsel hlt 6 (sk1 (sk1 (sk1 (sk1 (sk1 (sk1 (.refl _))))))) rfl (Ev.fieldAddr (off' := 11) rfl Tryz.runUnderlying132 rfl Tryz.sizeOf9 rfl rfl) ?_
  refine HdJ.ts hsel hlt 7 (sk1 (sk1 (sk1 (sk1 (sk1 (sk1 (.refl _))))))) rfl (Ev.load (i := 0) rfl rfl Tryz.isAgg9 (v := Str.v a1.Text) ((Note.get_Text gh0).off (by rfl))) ?_
  refine HdJ.ts hsel hlt 8 (sk1 (sk1 (sk1 (sk1 (sk1 (sk1 (.refl _))))))) rfl (Ev.build (v := .agg (enc ({ Parcel.zero with Seq := a1.Seq, Text := a1.Text } : Parcel)).toArray) (pv := [(0, iv a1.Seq), (1, Str.v a1.Text)]) ⟨rfl, rfl, ⟨rfl, rfl, trivial⟩⟩ (fun w => by kernel_rfl)) ?_
  refine HdJ.step [9, 14] (by kernel_rfl) rfl ?_
  refine HdStep.c (fun inv => ?_) ?_
  ·refine Lst.call rfl rfl (by decide) (vs := [.agg (enc (ToR.mk x8.to r11_3h1)).toArray, .agg (enc ({ Parcel.zero with Seq := a1.Seq, Text := a1.Text } : Parcel)).toArray]) ⟨rfl, rfl, trivial⟩ Tryz.call176 (lane_Take_sim h13 w0 _ M _ (sc4 (sc2 hM)) (r11_3_f1.mono fl (List.nil_sublist _))) (fun F33 L' v hF34 hv => ?_)
   obtain ⟨s31, s32, rfl, rfl⟩ := hv
   refine Lst.nil ?_
   refine At.hd inv (fun w h => (h.weaken hF34).sublist (sc1 (sc1 (sk1 (sk1 (sk1 (sk1 (sk1 (sk1 (.refl _)))))))))) ?_
   refine HdJ.keep (fun w => St w0 F33 ((.own s31 146 2 (encs r12.1.Early)) :: (.own s32 9 1 (encs r12.2.1)) :: (.blk b6 (enc a1) 132) :: (.rows (α := Saying) 62 (List.map ProcessR.row rs_a0_1)) :: (.own s_a0_1 100 8 (encs rs_a0_1)) :: (.own s_a0_2 9 1 (encs a0.ordered)) :: (.own s_a0_3 9 1 (encs a0.way)) :: (.blk b_a0 (enc (WldR.mk a0 s_a0_1 s_a0_2 s_a0_3)) 95) :: L) w) (fun w h => (h.weaken hF34).sublist (sc1 (sc1 (sk1 (sk1 (sk1 (sk1 (sk1 (sk1 (.refl _)))))))))) ?_
   refine HdJ.ts hsel hlt 10 (sk1 (sk1 (sk1 (sk1 (sk1 (sk1 (sk1 (sk1 (.refl _))))))))) rfl (Ev.move rfl) ?_
   refine HdJ.ts hsel hlt 11 (sk1 (sk1 (sk1 (sk1 (sk1 (sk1 (sk1 (sk1 (.refl _))))))))) rfl (Ev.extract rfl rfl) ?_
   refine HdJ.ts hsel hlt 12 (sk1 (sk1 (sk1 (sk1 (sk1 (sk1 (sk1 (sk1 (.refl _))))))))) rfl (Ev.extract rfl rfl) ?_
   refine HdJ.ts hsel hlt 13 (sk1 (sk1 (sk1 (sk1 (sk1 (sk1 (sk1 (sk1 (.refl _))))))))) rfl (Ev.extract rfl rfl) ?_
   refine HdJ.o1 14 (fun inv => ?_)
   refine Lst.addNil 146 2 ?_
   refine Lst.alloc (cs := enc (ToR.mk ({ To.zero with Early := ([] : List Parcel) } : To) Sl.nil)) rfl rfl (by decide) Tryz.zeroValue41 rfl (fun b35 => ?_)
   refine hds inv (sc1 (sc1 (sk1 (sk1 (sk1 (sk1 (sk1 (sk1 (sk1 (sk1 (.refl _))))))))))) ?_
   refine HdJ.o1 15 (fun inv => ?_)
   refine Lst.store (i := 0) rfl rfl rfl rfl rfl Tryz.sizeOf41 (vs := enc (ToR.mk r12.1 s31)) rfl (Enc.len _) (Enc.one _) (cs' := enc (ToR.mk r12.1 s31)) (Put.here ((Enc.len _).trans (Enc.len _).symm)) (L' := (.blk b35 (enc (ToR.mk r12.1 s31)) 41) :: (.own Sl.nil 146 2 (encs ([] : List Parcel))) :: (.own s31 146 2 (encs r12.1.Early)) :: (.own s32 9 1 (encs r12.2.1)) :: (.blk b6 (enc a1) 132) :: (.rows (α := Saying) 62 (List.map ProcessR.row rs_a0_1)) :: (.own s_a0_1 100 8 (encs rs_a0_1)) :: (.own s_a0_2 9 1 (encs a0.ordered)) :: (.own s_a0_3 9 1 (encs a0.way)) :: (.blk b_a0 (enc (WldR.mk a0 s_a0_1 s_a0_2 s_a0_3)) 95) :: L) rfl ?_
   refine hds inv (sc1 (sc1 (sk1 (sk1 (sk1 (sk1 (sk1 (sk1 (sk1 (sk1 (.refl _))))))))))) ?_
   refine HdJ.keep (fun w => St w0 F33 ((.blk b35 (enc (ToR.mk r12.1 s31)) 41) :: (.own Sl.nil 146 2 (encs ([] : List Parcel))) :: (.own s31 146 2 (encs r12.1.Early)) :: (.own s32 9 1 (encs r12.2.1)) :: (.blk b6 (enc a1) 132) :: (.rows (α := Saying) 62 (List.map ProcessR.row rs_a0_1)) :: (.own s_a0_1 100 8 (encs rs_a0_1)) :: (.own s_a0_2 9 1 (encs a0.ordered)) :: (.own s_a0_3 9 1 (encs a0.way)) :: (.blk b_a0 (enc (WldR.mk a0 s_a0_1 s_a0_2 s_a0_3)) 95) :: L) w) (fun w h => (h.weaken fl).sublist (sc1 (sc1 (sk1 (sk1 (sk1 (sk1 (sk1 (sk1 (sk1 (sk1 (.refl _)))))))))))) ?_
   refine HdJ.ts hsel hlt 16 (sk1 (sk1 (sk1 (sk1 (sk1 (sk1 (sk1 (sk1 (sk1 (sk1 (.refl _))))))))))) rfl (Ev.assign rfl) ?_
   refine HdJ.done (by kernel_rfl) ?_
   refine At.less (L' := (.blk b35 (enc (ToR.mk r12.1 s31)) 41) :: (.own s31 146 2 (encs r12.1.Early)) :: (.own s32 9 1 (encs r12.2.1)) :: (.blk b6 (enc a1) 132) :: (.rows (α := Saying) 62 (List.map ProcessR.row rs_a0_1)) :: (.own s_a0_1 100 8 (encs rs_a0_1)) :: (.own s_a0_2 9 1 (encs a0.ordered)) :: (.own s_a0_3 9 1 (encs a0.way)) :: (.blk b_a0 (enc (WldR.mk a0 s_a0_1 s_a0_2 s_a0_3)) 95) :: L) (sk1 (sc1 (sk1 (sk1 (sk1 (sk1 (sk1 (sk1 (sk1 (sk1 (.refl _))))))))))) ?_
   exact At.meetN (b35, s31, r12.1.Early, s32, r12.2.1) hF34 ⟨rfl, rfl, rfl, rfl, rfl, trivial⟩ rfl h30
  refine HdStep.c (fun inv => ?_) trivial
  refine Lst.addNil 146 2 ?_
  refine Lst.alloc (cs := enc (ToR.mk ({ To.zero with Early := ([] : List Parcel) } : To) Sl.nil)) rfl rfl (by decide) Tryz.zeroValue41 rfl (fun b36 => ?_)
  refine hds inv (sc1 (sc1 (sk1 (sk1 (sk1 (sk1 (sk1 (sk1 (.refl _))))))))) ?_
  refine HdJ.o1 9 (fun inv => ?_)
  refine Lst.call rfl rfl (by decide) (vs := [.agg (enc (ToR.mk x8.to r11_3h1)).toArray, .agg (enc ({ Parcel.zero with Seq := a1.Seq, Text := a1.Text } : Parcel)).toArray]) ⟨rfl, rfl, trivial⟩ Tryz.call176 (lane_Take_sim h13 w0 _ M _ (sc8 hM) (r11_3_f1.mono fl (List.nil_sublist _))) (fun F39 L' v hF40 hv => ?_)
  obtain ⟨s37, s38, rfl, rfl⟩ := hv
  refine Lst.nil ?_
  refine At.hd inv (fun w h => (h.weaken hF40).sublist (sc1 (sc1 (sc1 (sc1 (sk1 (sk1 (sk1 (sk1 (sk1 (sk1 (.refl _)))))))))))) ?_
  refine HdJ.keep (fun w => St w0 F39 ((.own s37 146 2 (encs r12.1.Early)) :: (.own s38 9 1 (encs r12.2.1)) :: (.own Sl.nil 146 2 (encs ([] : List Parcel))) :: (.blk b6 (enc a1) 132) :: (.rows (α := Saying) 62 (List.map ProcessR.row rs_a0_1)) :: (.own s_a0_1 100 8 (encs rs_a0_1)) :: (.own s_a0_2 9 1 (encs a0.ordered)) :: (.own s_a0_3 9 1 (encs a0.way)) :: (.blk b_a0 (enc (WldR.mk a0 s_a0_1 s_a0_2 s_a0_3)) 95) :: L) w) (fun w h => (h.weaken hF40).sublist (sc1 (sc1 (sc1 (sk1 (sk1 (sk1 (sk1 (sk1 (sk1 (.refl _))))))))))) ?_
  refine HdJ.ts hsel hlt 10 (sk1 (sk1 (sc1 (sk1 (sk1 (sk1 (sk1 (sk1 (sk1 (sk1 (.refl _))))))))))) rfl (Ev.move rfl) ?_
  refine HdJ.ts hsel hlt 11 (sk1 (sk1 (sc1 (sk1 (sk1 (sk1 (sk1 (sk1 (sk1 (sk1 (.refl _))))))))))) rfl (Ev.extract rfl rfl) ?_
  refine HdJ.ts hsel hlt 12 (sk1 (sk1 (sc1 (sk1 (sk1 (sk1 (sk1 (sk1 (sk1 (sk1 (.refl _))))))))))) rfl (Ev.extract rfl rfl) ?_
  refine HdJ.ts hsel hlt 13 (sk1 (sk1 (sc1 (sk1 (sk1 (sk1 (sk1 (sk1 (sk1 (sk1 (.refl _))))))))))) rfl (Ev.extract rfl rfl) ?_
  refine HdJ.o1 15 (fun inv => ?_)
  refine Lst.store (i := 2) rfl rfl rfl rfl rfl Tryz.sizeOf41 (vs := enc (ToR.mk r12.1 s37)) rfl (Enc.len _) (Enc.one _) (cs' := enc (ToR.mk r12.1 s37)) (Put.here ((Enc.len _).trans (Enc.len _).symm)) (L' := (.own s37 146 2 (encs r12.1.Early)) :: (.own s38 9 1 (encs r12.2.1)) :: (.blk b36 (enc (ToR.mk r12.1 s37)) 41) :: (.own Sl.nil 146 2 (encs ([] : List Parcel))) :: (.blk b6 (enc a1) 132) :: (.rows (α := Saying) 62 (List.map ProcessR.row rs_a0_1)) :: (.own s_a0_1 100 8 (encs rs_a0_1)) :: (.own s_a0_2 9 1 (encs a0.ordered)) :: (.own s_a0_3 9 1 (encs a0.way)) :: (.blk b_a0 (enc (WldR.mk a0 s_a0_1 s_a0_2 s_a0_3)) 95) :: L) rfl ?_
  refine hds inv (sk1 (sk1 (sc1 (sk1 (sk1 (sk1 (sk1 (sk1 (sk1 (sk1 (.refl _))))))))))) ?_
  refine HdJ.keep (fun w => St w0 F39 ((.own s37 146 2 (encs r12.1.Early)) :: (.own s38 9 1 (encs r12.2.1)) :: (.blk b36 (enc (ToR.mk r12.1 s37)) 41) :: (.own Sl.nil 146 2 (encs ([] : List Parcel))) :: (.blk b6 (enc a1) 132) :: (.rows (α := Saying) 62 (List.map ProcessR.row rs_a0_1)) :: (.own s_a0_1 100 8 (encs rs_a0_1)) :: (.own s_a0_2 9 1 (encs a0.ordered)) :: (.own s_a0_3 9 1 (encs a0.way)) :: (.blk b_a0 (enc (WldR.mk a0 s_a0_1 s_a0_2 s_a0_3)) 95) :: L) w) (fun w h => (h.weaken fl).sublist (sk1 (sk1 (sc1 (sk1 (sk1 (sk1 (sk1 (sk1 (sk1 (sk1 (.refl _)))))))))))) ?_
  refine HdJ.ts hsel hlt 16 (sk1 (sk1 (sk1 (sk1 (sk1 (sk1 (sk1 (sk1 (sk1 (sk1 (.refl _))))))))))) rfl (Ev.assign rfl) ?_
  refine HdJ.done (by kernel_rfl) ?_
  refine At.front (i := 2) rfl (L' := (.blk b36 (enc (ToR.mk r12.1 s37)) 41) :: (.own s37 146 2 (encs r12.1.Early)) :: (.own s38 9 1 (encs r12.2.1)) :: (.own Sl.nil 146 2 (encs ([] : List Parcel))) :: (.blk b6 (enc a1) 132) :: (.rows (α := Saying) 62 (List.map ProcessR.row rs_a0_1)) :: (.own s_a0_1 100 8 (encs rs_a0_1)) :: (.own s_a0_2 9 1 (encs a0.ordered)) :: (.own s_a0_3 9 1 (encs a0.way)) :: (.blk b_a0 (enc (WldR.mk a0 s_a0_1 s_a0_2 s_a0_3)) 95) :: L) rfl ?_
  refine At.less (L' := (.blk b36 (enc (ToR.mk r12.1 s37)) 41) :: (.own s37 146 2 (encs r12.1.Early)) :: (.own s38 9 1 (encs r12.2.1)) :: (.blk b6 (enc a1) 132) :: (.rows (α := Saying) 62 (List.map ProcessR.row rs_a0_1)) :: (.own s_a0_1 100 8 (encs rs_a0_1)) :: (.own s_a0_2 9 1 (encs a0.ordered)) :: (.own s_a0_3 9 1 (encs a0.way)) :: (.blk b_a0 (enc (WldR.mk a0 s_a0_1 s_a0_2 s_a0_3)) 95) :: L) (sk1 (sk1 (sk1 (sc1 (sk1 (sk1 (sk1 (sk1 (sk1 (sk1 (.refl _))))))))))) ?_
  exact At.meetN (b36, s37, r12.1.Early, s38, r12.2.1) hF40 ⟨rfl, rfl, rfl, rfl, rfl, trivial⟩ rfl h30
 rintro F41 ⟨b24, s25, l26, s27, l28⟩ hF42 hy
 subst hy
 try dsimp only at H
 refine Lst.as (e' := [(3, pv b6 0), (4, Sl.at s_a0_1 (a1.To.toNat * 8)), (5, pv b24 0), (6, Sl.v s27), (42, iv r12.2.2)]) (L' := (.blk b24 (enc (ToR.mk ({ r12.1 with Early := l26 } : To) s25)) 41) :: (.own s25 146 2 (encs l26)) :: (.own s27 9 1 (encs l28)) :: (.blk b6 (enc a1) 132) :: (.rows (α := Saying) 62 (List.map ProcessR.row rs_a0_1)) :: (.own s_a0_1 100 8 (encs rs_a0_1)) :: (.own s_a0_2 9 1 (encs a0.ordered)) :: (.own s_a0_3 9 1 (encs a0.way)) :: (.blk b_a0 (enc (WldR.mk a0 s_a0_1 s_a0_2 s_a0_3)) 95) :: L) ⟨rfl, rfl, rfl, rfl, rfl, trivial⟩ rfl ?_
 refine Lst.r (Ev.assign rfl) ?_
 refine nt0 ?_
 refine Cd.seq ?_
 refine sr0 ?_
 refine mv0 rfl ?_
 refine Lst.r (Ev.neq rfl rfl) ?_
 refine nt0 ?_
 rcases Bool.eq_false_or_eq_true (r12.2.2 != (0 : Int)) with hb43 | hb43
 ·replace H := ite_t hb43 H
  refine Cd.condT rfl hb43 ?_
  obtain rfl := some_inj H
  refine Cd.ret ?_
  refine At.then_ret ?_
  exact At.ret0 (.inl rfl) rfl hF42 (sc1 (sc1 (sc1 (sc1 (sk1 (sk1 (sk1 (sk1 (sk1 (.refl _)))))))))) ⟨rs_a0_1, rfl, rfl, hm_a0_1, (All.monoProcessF ha_a0_1 hF42 (List.nil_sublist _))⟩
 replace H := ite_f hb43 H
 refine Cd.condF rfl hb43 ?_
 refine Cd.skip ?_
 refine At.then ?_
 refine sr0 ?_
 refine mv0 rfl ?_
 refine Lst.r (Ev.loadA (i := 0) rfl rfl Tryz.isAgg41 Tryz.sizeOf41 (ch := enc (ToR.mk ({ r12.1 with Early := l26 } : To) s25)) (Enc.len _) gh0) ?_
 refine Lst.r (Ev.nilCheckS (α := ProcessR) rfl (rdo 5 rfl rfl rfl) ((Get.elemN (s := 8) rfl r11g gh0).off (by omega)) rfl) ?_
 refine Lst.r (Ev.fieldS (α := ProcessR) (f' := a1.To.toNat * 8 + 4) rfl (rdo 5 rfl rfl rfl) ((Get.elemN (s := 8) rfl r11g gh0).off (by omega)) rfl Tryz.runUnderlying100 rfl Tryz.sizeOf41 rfl rfl rfl) ?_
 obtain ⟨p48, h49, H⟩ := Let_some H
 have hm50 : (rs_a0_1.set a1.To.toNat (ProcessR.mk ({ x8 with to := ({ r12.1 with Early := l26 } : To) } : Procs) r11h1 (FromR.mk x8.from_ r11_2h1) (ToR.mk ({ r12.1 with Early := l26 } : To) s25) (ToR.mk x8.orders r11_4h1))).map ProcessR.v = p48 := (map_set hm_a0_1 _ _).trans h49
 refine Lst.freeze (i := 1) rfl (fun F44 hF45 hz46 => ?_)
 have hq47 : Rd w0 F44 [] s25 l26 := Rd.frozen hz46 rfl rfl
 refine Lst.its (L' := (.blk b24 (enc (ToR.mk ({ r12.1 with Early := l26 } : To) s25)) 41) :: (.own s27 9 1 (encs l28)) :: (.blk b6 (enc a1) 132) :: (.rows (α := Saying) 62 (List.map ProcessR.row rs_a0_1)) :: (.own s_a0_1 100 8 (encs rs_a0_1)) :: (.own s_a0_2 9 1 (encs a0.ordered)) :: (.own s_a0_3 9 1 (encs a0.way)) :: (.blk b_a0 (enc (WldR.mk a0 s_a0_1 s_a0_2 s_a0_3)) 95) :: L) rfl ?_
 have ha51 : All ProcessR.frel w0 F44 [] (rs_a0_1.set a1.To.toNat (ProcessR.mk ({ x8 with to := ({ r12.1 with Early := l26 } : To) } : Procs) r11h1 (FromR.mk x8.from_ r11_2h1) (ToR.mk ({ r12.1 with Early := l26 } : To) s25) (ToR.mk x8.orders r11_4h1))) := All.set (All.monoProcessF ha_a0_1 (FLe.trans hF42 hF45) (List.nil_sublist _)) (⟨⟨rfl, (r11_2_f1.mono (FLe.trans hF42 hF45) (List.nil_sublist _))⟩, ⟨rfl, (hq47.mono fl (List.nil_sublist _))⟩, ⟨rfl, (r11_4_f1.mono (FLe.trans hF42 hF45) (List.nil_sublist _))⟩⟩)
 refine Lst.storeS (i := 4) rfl rfl rfl rfl rfl Tryz.sizeOf41 (vs := enc (ToR.mk ({ r12.1 with Early := l26 } : To) s25)) rfl (Enc.len _) (by decide) (Enc.one _) (xs' := encs (rs_a0_1.set a1.To.toNat (ProcessR.mk ({ x8 with to := ({ r12.1 with Early := l26 } : To) } : Procs) r11h1 (FromR.mk x8.from_ r11_2h1) (ToR.mk ({ r12.1 with Early := l26 } : To) s25) (ToR.mk x8.orders r11_4h1)))) ((Put.elemN (s := 8) (x := (ProcessR.mk x8 r11h1 (FromR.mk x8.from_ r11_2h1) (ToR.mk x8.to r11_3h1) (ToR.mk x8.orders r11_4h1))) (y := (ProcessR.mk ({ x8 with to := ({ r12.1 with Early := l26 } : To) } : Procs) r11h1 (FromR.mk x8.from_ r11_2h1) (ToR.mk ({ r12.1 with Early := l26 } : To) s25) (ToR.mk x8.orders r11_4h1))) rfl r11g (ProcessR.put_to (p := (ProcessR.mk x8 r11h1 (FromR.mk x8.from_ r11_2h1) (ToR.mk x8.to r11_3h1) (ToR.mk x8.orders r11_4h1))) (l := ({ r12.1 with Early := l26 } : To)) (Put.here ((Enc.len _).trans (Enc.len _).symm)))).off (by omega)) (L' := (.blk b24 (enc (ToR.mk ({ r12.1 with Early := l26 } : To) s25)) 41) :: (.own s27 9 1 (encs l28)) :: (.blk b6 (enc a1) 132) :: (.rows (α := Saying) 62 (List.map ProcessR.row rs_a0_1)) :: (.own s_a0_1 100 8 (encs (rs_a0_1.set a1.To.toNat (ProcessR.mk ({ x8 with to := ({ r12.1 with Early := l26 } : To) } : Procs) r11h1 (FromR.mk x8.from_ r11_2h1) (ToR.mk ({ r12.1 with Early := l26 } : To) s25) (ToR.mk x8.orders r11_4h1))))) :: (.own s_a0_2 9 1 (encs a0.ordered)) :: (.own s_a0_3 9 1 (encs a0.way)) :: (.blk b_a0 (enc (WldR.mk ({ a0 with all := p48 } : Wld) s_a0_1 s_a0_2 s_a0_3)) 95) :: L) rfl ?_
 refine Lst.its (L' := (.blk b24 (enc (ToR.mk ({ r12.1 with Early := l26 } : To) s25)) 41) :: (.own s27 9 1 (encs l28)) :: (.blk b6 (enc a1) 132) :: (.rows (α := Saying) 62 (List.map ProcessR.row (rs_a0_1.set a1.To.toNat (ProcessR.mk ({ x8 with to := ({ r12.1 with Early := l26 } : To) } : Procs) r11h1 (FromR.mk x8.from_ r11_2h1) (ToR.mk ({ r12.1 with Early := l26 } : To) s25) (ToR.mk x8.orders r11_4h1))))) :: (.own s_a0_1 100 8 (encs (rs_a0_1.set a1.To.toNat (ProcessR.mk ({ x8 with to := ({ r12.1 with Early := l26 } : To) } : Procs) r11h1 (FromR.mk x8.from_ r11_2h1) (ToR.mk ({ r12.1 with Early := l26 } : To) s25) (ToR.mk x8.orders r11_4h1))))) :: (.own s_a0_2 9 1 (encs a0.ordered)) :: (.own s_a0_3 9 1 (encs a0.way)) :: (.blk b_a0 (enc (WldR.mk ({ a0 with all := p48 } : Wld) s_a0_1 s_a0_2 s_a0_3)) 95) :: L) (by rw [map_set_same (y := (ProcessR.mk ({ x8 with to := ({ r12.1 with Early := l26 } : To) } : Procs) r11h1 (FromR.mk x8.from_ r11_2h1) (ToR.mk ({ r12.1 with Early := l26 } : To) s25) (ToR.mk x8.orders r11_4h1))) r11g rfl]) ?_
 refine nsr ?_
 refine mv0 rfl ?_
 refine Lst.r (Ev.lenS (α := Str) (xs := l28) (by decide) rfl rfl Tryz.runUnderlying43 (rdo 1 rfl rfl rfl)) ?_
 refine mv0 rfl ?_
 refine nt0 ?_
 refine Cd.block ?_
 refine Cd.bound (Rd.le (α := Str) (xs := l28) (by decide) (rdo 1 rfl rfl rfl)) (fun hN124 => ?_)
 obtain ⟨ol52, H, HKl52⟩ := bind_some H
 refine Cd.loop (σ := Nat × Nat × Wld × (List Procs) × (List ProcessR)) (fun (i52, k52, y53, l54, rs55) => [(3, pv b6 0), (4, Sl.at s_a0_1 (a1.To.toNat * 8)), (49, Sl.v s27), (50, iv (l28.length : Int)), (51, iv (i52 : Int))]) (fun (i52, k52, y53, l54, rs55) => (.blk b24 (enc (ToR.mk ({ r12.1 with Early := l26 } : To) s25)) 41) :: (.own s27 9 1 (encs l28)) :: (.blk b6 (enc a1) 132) :: (.rows (α := Saying) 62 (List.map ProcessR.row rs55)) :: (.own s_a0_1 100 8 (encs rs55)) :: (.own s_a0_2 9 1 (encs a0.ordered)) :: (.own s_a0_3 9 1 (encs a0.way)) :: (.blk b_a0 (enc (WldR.mk ({ y53 with all := l54, ordered := a0.ordered, way := a0.way } : Wld) s_a0_1 s_a0_2 s_a0_3)) 95) :: L) (fun Fx => (fun (i52, k52, y53, l54, rs55) => rangeF (world_World_take_B0 a0 a1 l28) k52 i52 (y53, l54) = some ol52 ∧ i52 + k52 = l28.length ∧ rs55.map ProcessR.v = l54 ∧ All ProcessR.frel w0 Fx [] rs55)) (fun (i52, k52, y53, l54, rs55) => k52) (0, l28.length, ({ a0 with all := p48 } : Wld), p48, (rs_a0_1.set a1.To.toNat (ProcessR.mk ({ x8 with to := ({ r12.1 with Early := l26 } : To) } : Procs) r11h1 (FromR.mk x8.from_ r11_2h1) (ToR.mk ({ r12.1 with Early := l26 } : To) s25) (ToR.mk x8.orders r11_4h1)))) ⟨rfl, rfl, rfl, rfl, rfl, trivial⟩ rfl ⟨H, by omega, hm50, (All.monoProcessF ha51 fl (List.nil_sublist _))⟩ ?_
 rintro F58 ⟨i52, k52, y53, l54, rs55⟩ hF59 ⟨H, hik52, fm56, fa57⟩
 refine Cd.as (e' := [(3, pv b6 0), (4, Sl.at s_a0_1 (a1.To.toNat * 8)), (49, Sl.v s27), (50, iv (l28.length : Int)), (51, iv (i52 : Int))]) (L' := (.blk b24 (enc (ToR.mk ({ r12.1 with Early := l26 } : To) s25)) 41) :: (.own s27 9 1 (encs l28)) :: (.blk b6 (enc a1) 132) :: (.rows (α := Saying) 62 (List.map ProcessR.row rs55)) :: (.own s_a0_1 100 8 (encs rs55)) :: (.own s_a0_2 9 1 (encs a0.ordered)) :: (.own s_a0_3 9 1 (encs a0.way)) :: (.blk b_a0 (enc (WldR.mk ({ y53 with all := l54, ordered := a0.ordered, way := a0.way } : Wld) s_a0_1 s_a0_2 s_a0_3)) 95) :: L) ⟨rfl, rfl, rfl, rfl, rfl, trivial⟩ rfl ?_
 rcases k52 with _ | k52
 ·have hc52 : decide ((i52 : Int) < (l28.length : Int)) = false := decide_eq_false (by omega)
  replace H := rangeF_end H
  refine sr0 ?_
  refine Lst.r (Ev.lss rfl rfl) ?_
  refine nt0 ?_
  refine Cd.seq ?_
  refine Cd.condF rfl hc52 ?_
  refine Cd.exit ?_
  refine At.then_exit ?_
  refine At.then_exit ?_
  refine At.in_exit ?_
  subst H
  replace H := HKl52
  try dsimp only [Sum.elim_inl] at H
  obtain rfl := some_inj H
  exact At.ret0 (.inr rfl) rfl (FLe.trans (FLe.trans hF42 hF45) hF59) (sc1 (sc1 (sc1 (sk1 (sk1 (sk1 (sk1 (sk1 (.refl _))))))))) ⟨rs55, rfl, rfl, fm56, (All.monoProcessF fa57 fl (List.nil_sublist _))⟩
 have hc52 : decide ((i52 : Int) < (l28.length : Int)) = true := decide_eq_true (by omega)
 obtain ⟨c52, H, hgo52⟩ := rangeF_go H
 unfold world_World_take_B0 at H
 try dsimp only at H
 refine sr0 ?_
 refine Lst.r (Ev.lss rfl rfl) ?_
 refine nt0 ?_
 refine Cd.seq ?_
 refine Cd.condT rfl hc52 ?_
 refine Cd.skip ?_
 refine At.then ?_
 refine Cd.seq ?_
 refine Cd.block ?_
 refine sr0 ?_
 obtain ⟨x60, h61, H⟩ := bind_some H
 have g62 := lat_some h61
 refine Lst.r (Ev.indexS (α := Str) (xs := l28) rfl rfl Tryz.runUnderlying43 Tryz.sizeOf9 rfl (by decide) (rdo 1 rfl rfl rfl) g62.1 g62.2.1) ?_
 refine Lst.r (Ev.loadS (α := Str) rfl (rdo 1 rfl rfl rfl) Tryz.isAgg9 (v := Str.v x60) ((Get.elemN (s := 1) (x := x60) rfl g62.2.2 gh0).off (by omega))) ?_
 refine Lst.r (Ev.assign rfl) ?_
 refine nsr ?_
 refine mv0 rfl ?_
 obtain ⟨r63, h64, H⟩ := bind_some H
 refine Lst.call1 rfl rfl (by decide) (vs := [Str.v x60, Str.v ([58] : Str)]) ⟨rfl, rfl, trivial⟩ Tryz.call177 (strings_Cut_sim h64 w0 _ M _ (sc8 hM)) ?_
 refine mv0 rfl ?_
 refine Lst.r (Ev.extract rfl rfl) ?_
 refine Lst.r (Ev.extract rfl rfl) ?_
 refine Lst.r (Ev.extract rfl rfl) ?_
 refine Lst.r (Ev.assign rfl) ?_
 refine Lst.r (Ev.assign rfl) ?_
 refine Lst.r (Ev.assign rfl) ?_
 refine nsr ?_
 refine mv0 rfl ?_
 obtain ⟨r67, h68, H⟩ := bind_some H
 refine Lst.call1 rfl rfl (by decide) (vs := [Str.v r63.2.1, Str.v ([58] : Str)]) ⟨rfl, rfl, trivial⟩ Tryz.call177 (strings_Cut_sim h68 w0 _ M _ (sc8 hM)) ?_
 refine mv0 rfl ?_
 refine Lst.r (Ev.extract rfl rfl) ?_
 refine Lst.r (Ev.extract rfl rfl) ?_
 refine Lst.r (Ev.extract rfl rfl) ?_
 refine Lst.r (Ev.assign rfl) ?_
 refine Lst.r (Ev.assign rfl) ?_
 refine Lst.r (Ev.assign rfl) ?_
 refine nt0 ?_
 refine Cd.seq ?_
 refine Cd.as (e' := [(3, pv b6 0), (4, Sl.at s_a0_1 (a1.To.toNat * 8)), (49, Sl.v s27), (50, iv (l28.length : Int)), (51, iv (i52 : Int)), (10, Str.v r63.1), (13, Str.v r67.1), (14, Str.v r67.2.1)]) (L' := (.blk b24 (enc (ToR.mk ({ r12.1 with Early := l26 } : To) s25)) 41) :: (.own s27 9 1 (encs l28)) :: (.blk b6 (enc a1) 132) :: (.rows (α := Saying) 62 (List.map ProcessR.row rs55)) :: (.own s_a0_1 100 8 (encs rs55)) :: (.own s_a0_2 9 1 (encs a0.ordered)) :: (.own s_a0_3 9 1 (encs a0.way)) :: (.blk b_a0 (enc (WldR.mk ({ y53 with all := l54, ordered := a0.ordered, way := a0.way } : Wld) s_a0_1 s_a0_2 s_a0_3)) 95) :: L) ⟨rfl, rfl, rfl, rfl, rfl, rfl, rfl, rfl, trivial⟩ rfl ?_
 refine Cd.region ?_
 refine mv0 rfl ?_
 obtain ⟨r71, h72, H⟩ := bind_some H
 refine Lst.call1 rfl rfl (by decide) (vs := [Str.v r63.1]) ⟨rfl, trivial⟩ Tryz.call178 (strconv_Atoi_sim h72 w0 _ M _ (sc8 hM)) ?_
 refine mv0 rfl ?_
 refine Lst.r (Ev.extract rfl rfl) ?_
 refine Lst.r (Ev.extract rfl rfl) ?_
 refine Lst.r (Ev.assign rfl) ?_
 refine Lst.r (Ev.assign rfl) ?_
 refine nsr ?_
 refine mv0 rfl ?_
 refine mv0 rfl ?_
 obtain ⟨x75, h76, H⟩ := bind_some H
 have g77 := lat_some h76
 obtain ⟨⟨r78v, r78h1, ⟨r78_2v, r78_2h1⟩, ⟨r78_3v, r78_3h1⟩, ⟨r78_4v, r78_4h1⟩⟩, r78g, r78e, r78m⟩ := map_get fm56 g77.2.2
 obtain rfl : x75 = r78v := r78e.symm
 have r78q : ProcessR.frel w0 _ _ (ProcessR.mk x75 r78h1 (FromR.mk r78_2v r78_2h1) (ToR.mk r78_3v r78_3h1) (ToR.mk r78_4v r78_4h1)) := fa57 _ r78m
 obtain ⟨r78_i2, r78_i3, r78_i4⟩ := r78q
 obtain ⟨r78_2e, r78_2q⟩ := r78_i2
 obtain rfl : r78_2v = x75.from_ := r78_2e
 have r78_2_f1 : Rd w0 _ _ _ _ := r78_2q
 obtain ⟨r78_3e, r78_3q⟩ := r78_i3
 obtain rfl : r78_3v = x75.to := r78_3e
 have r78_3_f1 : Rd w0 _ _ _ _ := r78_3q
 obtain ⟨r78_4e, r78_4q⟩ := r78_i4
 obtain rfl : r78_4v = x75.orders := r78_4e
 have r78_4_f1 : Rd w0 _ _ _ _ := r78_4q
 have r78wg := map_at ProcessR.row r78g
 refine Lst.r (Ev.nilCheckS (α := ProcessR) rfl (rdo 4 rfl rfl rfl) ((Get.elemN (s := 8) rfl r78g gh0).off (by omega)) rfl) ?_
 refine Lst.r (Ev.fieldS (α := ProcessR) (f' := a1.To.toNat * 8 + 1) rfl (rdo 4 rfl rfl rfl) ((Get.elemN (s := 8) rfl r78g gh0).off (by omega)) rfl Tryz.runUnderlying100 rfl Tryz.sizeOf37 rfl rfl rfl) ?_
 refine Lst.r (Ev.loadS (α := ProcessR) rfl (rdo 4 rfl rfl rfl) Tryz.isAgg37 (v := Sl.v r78h1) ((Get.elemN (s := 8) rfl r78g (ProcessR.get_log gh0)).off (by omega))) ?_
 refine mv0 rfl ?_
 refine mv0 rfl ?_
 refine Lst.r (Ev.build (v := .agg (enc ({ Saying.zero with From := r71.1, Text := r67.2.1 } : Saying)).toArray) (pv := [(0, iv r71.1), (1, Str.v r67.2.1)]) ⟨rfl, rfl, ⟨rfl, rfl, trivial⟩⟩ (fun w => by kernel_rfl)) ?_
 refine Lst.buildSlice (α := Saying) (xs := ([({ Saying.zero with From := r71.1, Text := r67.2.1 } : Saying)] : List Saying)) (pv := [(0, .agg (enc ({ Saying.zero with From := r71.1, Text := r67.2.1 } : Saying)).toArray)]) rfl rfl (by decide) ⟨rfl, rfl, trivial⟩ (run_buildSlice (α := Saying) (z0 := Saying.zero) (xs := ([({ Saying.zero with From := r71.1, Text := r67.2.1 } : Saying)] : List Saying)) Tryz.runUnderlying37 Tryz.sizeOf62 Tryz.zeroValue62 rfl rfl rfl (by decide) rfl (fill_cons (cs := encs (List.replicate 1 Saying.zero)) (cs' := encs ((List.replicate 1 Saying.zero).set 0 ({ Saying.zero with From := r71.1, Text := r67.2.1 } : Saying))) (vs := enc ({ Saying.zero with From := r71.1, Text := r67.2.1 } : Saying)) rfl rfl (Enc.len _) ((Put.elemN (s := 2) (i := 0) (x := Saying.zero) (y := ({ Saying.zero with From := r71.1, Text := r67.2.1 } : Saying)) rfl rfl (Put.here ((Enc.len _).trans (Enc.len _).symm))).off rfl) fill_nil)) rfl rfl (by decide) (fun s79 _ => ?_)
 refine Lst.front (i := 4) rfl (L' := (.rows (α := Saying) 62 (List.map ProcessR.row rs55)) :: (.own s79 62 2 (encs ([({ Saying.zero with From := r71.1, Text := r67.2.1 } : Saying)] : List Saying))) :: (.blk b24 (enc (ToR.mk ({ r12.1 with Early := l26 } : To) s25)) 41) :: (.own s27 9 1 (encs l28)) :: (.blk b6 (enc a1) 132) :: (.own s_a0_1 100 8 (encs rs55)) :: (.own s_a0_2 9 1 (encs a0.ordered)) :: (.own s_a0_3 9 1 (encs a0.way)) :: (.blk b_a0 (enc (WldR.mk ({ y53 with all := l54, ordered := a0.ordered, way := a0.way } : Wld) s_a0_1 s_a0_2 s_a0_3)) 95) :: L) rfl ?_
 refine Lst.rowOut (k := a1.To.toNat) r78wg rfl ?_
 refine Lst.its (L' := (.own r78h1 62 2 (encs x75.log)) :: (.rows (α := Saying) 62 ((List.map ProcessR.row rs55).set a1.To.toNat ⟨[], Sl.nil⟩)) :: (.own s79 62 2 (encs ([({ Saying.zero with From := r71.1, Text := r67.2.1 } : Saying)] : List Saying))) :: (.blk b24 (enc (ToR.mk ({ r12.1 with Early := l26 } : To) s25)) 41) :: (.own s27 9 1 (encs l28)) :: (.blk b6 (enc a1) 132) :: (.own s_a0_1 100 8 (encs rs55)) :: (.own s_a0_2 9 1 (encs a0.ordered)) :: (.own s_a0_3 9 1 (encs a0.way)) :: (.blk b_a0 (enc (WldR.mk ({ y53 with all := l54, ordered := a0.ordered, way := a0.way } : Wld) s_a0_1 s_a0_2 s_a0_3)) 95) :: L) rfl ?_
 obtain ⟨u82, h83, H⟩ := bind_some H
 refine Lst.append (i := 0) (α := Saying) (xs := x75.log) (ys := ([({ Saying.zero with From := r71.1, Text := r67.2.1 } : Saying)] : List Saying)) rfl rfl (by decide) rfl rfl Tryz.runUnderlying37 Tryz.typeInfo62 rfl rfl rfl rfl rfl rfl (rdo 2 rfl rfl rfl) rfl (room_some h83) rfl (fun s84 => ?_)
 refine Lst.its (L' := (.own s84 62 2 (encs (x75.log ++ ([({ Saying.zero with From := r71.1, Text := r67.2.1 } : Saying)] : List Saying)))) :: (.rows (α := Saying) 62 ((List.map ProcessR.row rs55).set a1.To.toNat ⟨[], Sl.nil⟩)) :: (.own s79 62 2 (encs ([({ Saying.zero with From := r71.1, Text := r67.2.1 } : Saying)] : List Saying))) :: (.blk b24 (enc (ToR.mk ({ r12.1 with Early := l26 } : To) s25)) 41) :: (.own s27 9 1 (encs l28)) :: (.blk b6 (enc a1) 132) :: (.own s_a0_1 100 8 (encs rs55)) :: (.own s_a0_2 9 1 (encs a0.ordered)) :: (.own s_a0_3 9 1 (encs a0.way)) :: (.blk b_a0 (enc (WldR.mk ({ y53 with all := l54, ordered := a0.ordered, way := a0.way } : Wld) s_a0_1 s_a0_2 s_a0_3)) 95) :: L) rfl ?_
 obtain ⟨x85, h86, H⟩ := bind_some H
 have g87 := lat_some h86
 obtain ⟨⟨r88v, r88h1, ⟨r88_2v, r88_2h1⟩, ⟨r88_3v, r88_3h1⟩, ⟨r88_4v, r88_4h1⟩⟩, r88g, r88e, r88m⟩ := map_get fm56 g87.2.2
 obtain rfl : x85 = r88v := r88e.symm
 have r88q : ProcessR.frel w0 _ _ (ProcessR.mk x85 r88h1 (FromR.mk r88_2v r88_2h1) (ToR.mk r88_3v r88_3h1) (ToR.mk r88_4v r88_4h1)) := fa57 _ r88m
 obtain ⟨r88_i2, r88_i3, r88_i4⟩ := r88q
 obtain ⟨r88_2e, r88_2q⟩ := r88_i2
 obtain rfl : r88_2v = x85.from_ := r88_2e
 have r88_2_f1 : Rd w0 _ _ _ _ := r88_2q
 obtain ⟨r88_3e, r88_3q⟩ := r88_i3
 obtain rfl : r88_3v = x85.to := r88_3e
 have r88_3_f1 : Rd w0 _ _ _ _ := r88_3q
 obtain ⟨r88_4e, r88_4q⟩ := r88_i4
 obtain rfl : r88_4v = x85.orders := r88_4e
 have r88_4_f1 : Rd w0 _ _ _ _ := r88_4q
 have r88wg := map_at ProcessR.row r88g
 refine Lst.r (Ev.nilCheckS (α := ProcessR) rfl (rdo 6 rfl rfl rfl) ((Get.elemN (s := 8) rfl r88g gh0).off (by omega)) rfl) ?_
 refine Lst.r (Ev.fieldS (α := ProcessR) (f' := a1.To.toNat * 8 + 1) rfl (rdo 6 rfl rfl rfl) ((Get.elemN (s := 8) rfl r88g gh0).off (by omega)) rfl Tryz.runUnderlying100 rfl Tryz.sizeOf37 rfl rfl rfl) ?_
 obtain ⟨p89, h90, H⟩ := Let_some H
 have hm91 : (rs55.set a1.To.toNat (ProcessR.mk ({ x85 with log := x75.log ++ ([({ Saying.zero with From := r71.1, Text := r67.2.1 } : Saying)] : List Saying) } : Procs) s84 (FromR.mk x85.from_ r88_2h1) (ToR.mk x85.to r88_3h1) (ToR.mk x85.orders r88_4h1))).map ProcessR.v = p89 := (map_set fm56 _ _).trans h90
 have ha92 : All ProcessR.frel w0 F58 [] (rs55.set a1.To.toNat (ProcessR.mk ({ x85 with log := x75.log ++ ([({ Saying.zero with From := r71.1, Text := r67.2.1 } : Saying)] : List Saying) } : Procs) s84 (FromR.mk x85.from_ r88_2h1) (ToR.mk x85.to r88_3h1) (ToR.mk x85.orders r88_4h1))) := All.set (All.monoProcessF fa57 fl (List.nil_sublist _)) (⟨⟨rfl, (r88_2_f1.mono fl (List.nil_sublist _))⟩, ⟨rfl, (r88_3_f1.mono fl (List.nil_sublist _))⟩, ⟨rfl, (r88_4_f1.mono fl (List.nil_sublist _))⟩⟩)
 refine Lst.storeS (i := 6) rfl rfl rfl rfl rfl Tryz.sizeOf37 (vs := [Sl.v s84]) rfl rfl (by decide) rfl (xs' := encs (rs55.set a1.To.toNat (ProcessR.mk ({ x85 with log := x75.log ++ ([({ Saying.zero with From := r71.1, Text := r67.2.1 } : Saying)] : List Saying) } : Procs) s84 (FromR.mk x85.from_ r88_2h1) (ToR.mk x85.to r88_3h1) (ToR.mk x85.orders r88_4h1)))) ((Put.elemN (s := 8) (x := (ProcessR.mk x85 r88h1 (FromR.mk x85.from_ r88_2h1) (ToR.mk x85.to r88_3h1) (ToR.mk x85.orders r88_4h1))) (y := (ProcessR.mk ({ x85 with log := x75.log ++ ([({ Saying.zero with From := r71.1, Text := r67.2.1 } : Saying)] : List Saying) } : Procs) s84 (FromR.mk x85.from_ r88_2h1) (ToR.mk x85.to r88_3h1) (ToR.mk x85.orders r88_4h1))) rfl r88g (ProcessR.put_log (p := (ProcessR.mk x85 r88h1 (FromR.mk x85.from_ r88_2h1) (ToR.mk x85.to r88_3h1) (ToR.mk x85.orders r88_4h1))) (l := (x75.log ++ ([({ Saying.zero with From := r71.1, Text := r67.2.1 } : Saying)] : List Saying))) (Put.here (vs := [Sl.v s84]) rfl))).off (by omega)) (L' := (.own s84 62 2 (encs (x75.log ++ ([({ Saying.zero with From := r71.1, Text := r67.2.1 } : Saying)] : List Saying)))) :: (.rows (α := Saying) 62 ((List.map ProcessR.row rs55).set a1.To.toNat ⟨[], Sl.nil⟩)) :: (.own s79 62 2 (encs ([({ Saying.zero with From := r71.1, Text := r67.2.1 } : Saying)] : List Saying))) :: (.blk b24 (enc (ToR.mk ({ r12.1 with Early := l26 } : To) s25)) 41) :: (.own s27 9 1 (encs l28)) :: (.blk b6 (enc a1) 132) :: (.own s_a0_1 100 8 (encs (rs55.set a1.To.toNat (ProcessR.mk ({ x85 with log := x75.log ++ ([({ Saying.zero with From := r71.1, Text := r67.2.1 } : Saying)] : List Saying) } : Procs) s84 (FromR.mk x85.from_ r88_2h1) (ToR.mk x85.to r88_3h1) (ToR.mk x85.orders r88_4h1))))) :: (.own s_a0_2 9 1 (encs a0.ordered)) :: (.own s_a0_3 9 1 (encs a0.way)) :: (.blk b_a0 (enc (WldR.mk ({ y53 with all := p89, ordered := a0.ordered, way := a0.way } : Wld) s_a0_1 s_a0_2 s_a0_3)) 95) :: L) rfl ?_
 refine Lst.rowIn (k := a1.To.toNat) (by rw [List.getElem?_set_self (List.getElem?_eq_some_iff.1 r88wg).1]) rfl ?_
 refine Lst.its (L' := (.rows (α := Saying) 62 (List.map ProcessR.row (rs55.set a1.To.toNat (ProcessR.mk ({ x85 with log := x75.log ++ ([({ Saying.zero with From := r71.1, Text := r67.2.1 } : Saying)] : List Saying) } : Procs) s84 (FromR.mk x85.from_ r88_2h1) (ToR.mk x85.to r88_3h1) (ToR.mk x85.orders r88_4h1))))) :: (.own s79 62 2 (encs ([({ Saying.zero with From := r71.1, Text := r67.2.1 } : Saying)] : List Saying))) :: (.blk b24 (enc (ToR.mk ({ r12.1 with Early := l26 } : To) s25)) 41) :: (.own s27 9 1 (encs l28)) :: (.blk b6 (enc a1) 132) :: (.own s_a0_1 100 8 (encs (rs55.set a1.To.toNat (ProcessR.mk ({ x85 with log := x75.log ++ ([({ Saying.zero with From := r71.1, Text := r67.2.1 } : Saying)] : List Saying) } : Procs) s84 (FromR.mk x85.from_ r88_2h1) (ToR.mk x85.to r88_3h1) (ToR.mk x85.orders r88_4h1))))) :: (.own s_a0_2 9 1 (encs a0.ordered)) :: (.own s_a0_3 9 1 (encs a0.way)) :: (.blk b_a0 (enc (WldR.mk ({ y53 with all := p89, ordered := a0.ordered, way := a0.way } : Wld) s_a0_1 s_a0_2 s_a0_3)) 95) :: L) (by rw [map_set_in (f := ProcessR.row) (l := rs55) (y := (ProcessR.mk ({ x85 with log := x75.log ++ ([({ Saying.zero with From := r71.1, Text := r67.2.1 } : Saying)] : List Saying) } : Procs) s84 (FromR.mk x85.from_ r88_2h1) (ToR.mk x85.to r88_3h1) (ToR.mk x85.orders r88_4h1))) (b := ⟨x75.log ++ ([({ Saying.zero with From := r71.1, Text := r67.2.1 } : Saying)] : List Saying), s84⟩) rfl]) ?_
 refine nt0 ?_
 refine Cd.seq ?_
 refine Cd.as (e' := [(3, pv b6 0), (4, Sl.at s_a0_1 (a1.To.toNat * 8)), (49, Sl.v s27), (50, iv (l28.length : Int)), (51, iv (i52 : Int)), (13, Str.v r67.1), (16, iv r71.1)]) (L' := (.rows (α := Saying) 62 (List.map ProcessR.row (rs55.set a1.To.toNat (ProcessR.mk ({ x85 with log := x75.log ++ ([({ Saying.zero with From := r71.1, Text := r67.2.1 } : Saying)] : List Saying) } : Procs) s84 (FromR.mk x85.from_ r88_2h1) (ToR.mk x85.to r88_3h1) (ToR.mk x85.orders r88_4h1))))) :: (.own s79 62 2 (encs ([({ Saying.zero with From := r71.1, Text := r67.2.1 } : Saying)] : List Saying))) :: (.blk b24 (enc (ToR.mk ({ r12.1 with Early := l26 } : To) s25)) 41) :: (.own s27 9 1 (encs l28)) :: (.blk b6 (enc a1) 132) :: (.own s_a0_1 100 8 (encs (rs55.set a1.To.toNat (ProcessR.mk ({ x85 with log := x75.log ++ ([({ Saying.zero with From := r71.1, Text := r67.2.1 } : Saying)] : List Saying) } : Procs) s84 (FromR.mk x85.from_ r88_2h1) (ToR.mk x85.to r88_3h1) (ToR.mk x85.orders r88_4h1))))) :: (.own s_a0_2 9 1 (encs a0.ordered)) :: (.own s_a0_3 9 1 (encs a0.way)) :: (.blk b_a0 (enc (WldR.mk ({ y53 with all := p89, ordered := a0.ordered, way := a0.way } : Wld) s_a0_1 s_a0_2 s_a0_3)) 95) :: L) ⟨rfl, rfl, rfl, rfl, rfl, rfl, rfl, trivial⟩ rfl ?_
 refine Cd.region ?_
 refine mv0 rfl ?_
 refine Lst.r (Ev.fieldAddr (off' := 2) rfl Tryz.runUnderlying132 rfl Tryz.sizeOf3 rfl rfl) ?_
 refine Lst.r (Ev.load (i := 4) rfl rfl Tryz.isAgg3 (v := iv a1.To) ((Note.get_To gh0).off (by rfl))) ?_
 refine Lst.r (Ev.eql rfl rfl) ?_
 refine nt0 ?_
 rcases (Bool.eq_false_or_eq_true (r71.1 == a1.To)).symm with hb93 | hb93
 ·replace H := ite_f hb93 H
  refine Cd.condF rfl hb93 ?_
  refine Cd.skip ?_
  refine At.in_normal ?_
  refine At.then ?_
  refine Cd.region ?_
  refine Lst.r (Ev.incr (by omega) rfl rfl) ?_
  refine mv0 rfl ?_
  refine Lst.nil ?_
  refine At.front (i := 4) rfl rfl ?_
  refine At.front (i := 4) rfl rfl ?_
  refine At.front (i := 4) rfl (L' := (.blk b24 (enc (ToR.mk ({ r12.1 with Early := l26 } : To) s25)) 41) :: (.own s27 9 1 (encs l28)) :: (.blk b6 (enc a1) 132) :: (.rows (α := Saying) 62 (List.map ProcessR.row (rs55.set a1.To.toNat (ProcessR.mk ({ x85 with log := x75.log ++ ([({ Saying.zero with From := r71.1, Text := r67.2.1 } : Saying)] : List Saying) } : Procs) s84 (FromR.mk x85.from_ r88_2h1) (ToR.mk x85.to r88_3h1) (ToR.mk x85.orders r88_4h1))))) :: (.own s79 62 2 (encs ([({ Saying.zero with From := r71.1, Text := r67.2.1 } : Saying)] : List Saying))) :: (.own s_a0_1 100 8 (encs (rs55.set a1.To.toNat (ProcessR.mk ({ x85 with log := x75.log ++ ([({ Saying.zero with From := r71.1, Text := r67.2.1 } : Saying)] : List Saying) } : Procs) s84 (FromR.mk x85.from_ r88_2h1) (ToR.mk x85.to r88_3h1) (ToR.mk x85.orders r88_4h1))))) :: (.own s_a0_2 9 1 (encs a0.ordered)) :: (.own s_a0_3 9 1 (encs a0.way)) :: (.blk b_a0 (enc (WldR.mk ({ y53 with all := p89, ordered := a0.ordered, way := a0.way } : Wld) s_a0_1 s_a0_2 s_a0_3)) 95) :: L) rfl ?_
  refine At.less (L' := (.blk b24 (enc (ToR.mk ({ r12.1 with Early := l26 } : To) s25)) 41) :: (.own s27 9 1 (encs l28)) :: (.blk b6 (enc a1) 132) :: (.rows (α := Saying) 62 (List.map ProcessR.row (rs55.set a1.To.toNat (ProcessR.mk ({ x85 with log := x75.log ++ ([({ Saying.zero with From := r71.1, Text := r67.2.1 } : Saying)] : List Saying) } : Procs) s84 (FromR.mk x85.from_ r88_2h1) (ToR.mk x85.to r88_3h1) (ToR.mk x85.orders r88_4h1))))) :: (.own s_a0_1 100 8 (encs (rs55.set a1.To.toNat (ProcessR.mk ({ x85 with log := x75.log ++ ([({ Saying.zero with From := r71.1, Text := r67.2.1 } : Saying)] : List Saying) } : Procs) s84 (FromR.mk x85.from_ r88_2h1) (ToR.mk x85.to r88_3h1) (ToR.mk x85.orders r88_4h1))))) :: (.own s_a0_2 9 1 (encs a0.ordered)) :: (.own s_a0_3 9 1 (encs a0.way)) :: (.blk b_a0 (enc (WldR.mk ({ y53 with all := p89, ordered := a0.ordered, way := a0.way } : Wld) s_a0_1 s_a0_2 s_a0_3)) 95) :: L) (sk1 (sk1 (sk1 (sk1 (sc1 (sk1 (sk1 (sk1 (sk1 (.refl _)))))))))) ?_
  exact At.meet (i52 + 1, k52, ({ y53 with all := p89, ordered := a0.ordered, way := a0.way } : Wld), p89, (rs55.set a1.To.toNat (ProcessR.mk ({ x85 with log := x75.log ++ ([({ Saying.zero with From := r71.1, Text := r67.2.1 } : Saying)] : List Saying) } : Procs) s84 (FromR.mk x85.from_ r88_2h1) (ToR.mk x85.to r88_3h1) (ToR.mk x85.orders r88_4h1)))) hF59 ⟨rfl, rfl, rfl, rfl, rfl, trivial⟩ rfl ⟨⟨hgo52 _ (some_inj H).symm, by omega, hm91, (All.monoProcessF ha92 fl (List.nil_sublist _))⟩, Nat.lt_succ_self _⟩
 replace H := ite_t hb93 H
 refine Cd.condT rfl hb93 ?_
 refine sr0 ?_
 refine mv0 rfl ?_
 obtain ⟨r94, h95, H⟩ := bind_some H
 refine Lst.call1 rfl rfl (by decide) (vs := [Str.v r67.1]) ⟨rfl, trivial⟩ Tryz.call178 (strconv_Atoi_sim h95 w0 _ M _ (sc8 (sc1 hM))) ?_
 refine mv0 rfl ?_
 refine Lst.r (Ev.extract rfl rfl) ?_
 refine Lst.r (Ev.extract rfl rfl) ?_
 refine Lst.r (Ev.assign rfl) ?_
 refine Lst.r (Ev.assign rfl) ?_
 refine nsr ?_
 refine mv0 rfl ?_
 obtain ⟨x98, h99, H⟩ := bind_some H
 have g100 := lat_some h99
 obtain ⟨⟨r101v, r101h1, ⟨r101_2v, r101_2h1⟩, ⟨r101_3v, r101_3h1⟩, ⟨r101_4v, r101_4h1⟩⟩, r101g, r101e, r101m⟩ := map_get hm91 g100.2.2
 obtain rfl : x98 = r101v := r101e.symm
 have r101q : ProcessR.frel w0 _ _ (ProcessR.mk x98 r101h1 (FromR.mk r101_2v r101_2h1) (ToR.mk r101_3v r101_3h1) (ToR.mk r101_4v r101_4h1)) := ha92 _ r101m
 obtain ⟨r101_i2, r101_i3, r101_i4⟩ := r101q
 obtain ⟨r101_2e, r101_2q⟩ := r101_i2
 obtain rfl : r101_2v = x98.from_ := r101_2e
 have r101_2_f1 : Rd w0 _ _ _ _ := r101_2q
 obtain ⟨r101_3e, r101_3q⟩ := r101_i3
 obtain rfl : r101_3v = x98.to := r101_3e
 have r101_3_f1 : Rd w0 _ _ _ _ := r101_3q
 obtain ⟨r101_4e, r101_4q⟩ := r101_i4
 obtain rfl : r101_4v = x98.orders := r101_4e
 have r101_4_f1 : Rd w0 _ _ _ _ := r101_4q
 have r101wg := map_at ProcessR.row r101g
 refine Lst.r (Ev.nilCheckS (α := ProcessR) rfl (rdo 5 rfl rfl rfl) ((Get.elemN (s := 8) rfl r101g gh0).off (by omega)) rfl) ?_
 refine Lst.r (Ev.fieldS (α := ProcessR) (f' := a1.To.toNat * 8 + 2) rfl (rdo 5 rfl rfl rfl) ((Get.elemN (s := 8) rfl r101g gh0).off (by omega)) rfl Tryz.runUnderlying100 rfl Tryz.sizeOf45 rfl rfl rfl) ?_
 refine Lst.r (Ev.loadSA (α := ProcessR) rfl (rdo 5 rfl rfl rfl) Tryz.isAgg45 Tryz.sizeOf45 (ch := enc (FromR.mk x98.from_ r101_2h1)) (Enc.len _) (by decide) ((Get.elemN (s := 8) rfl r101g (ProcessR.get_from_ gh0)).off (by omega))) ?_
 refine mv0 rfl ?_
 refine Lst.r (Ev.add rfl rfl) ?_
 obtain ⟨r102, h103, H⟩ := bind_some H
 refine Lst.call rfl rfl (by decide) (vs := [.agg (enc (FromR.mk x98.from_ r101_2h1)).toArray, iv (w64 (r94.1 + (1 : Int)))]) ⟨rfl, rfl, trivial⟩ Tryz.call179 (lane_Heard_sim h103 w0 _ M _ (sc8 (sc1 hM)) (r101_2_f1.mono fl (List.nil_sublist _))) (fun F106 L' v hF107 hv => ?_)
 obtain ⟨s104, rfl, rfl⟩ := hv
 refine mv0 rfl ?_
 refine Lst.r (Ev.extract rfl rfl) ?_
 refine Lst.r (Ev.extract rfl rfl) ?_
 refine Lst.addNil 9 1 ?_
 refine Lst.alloc (cs := enc (FromR.mk ({ From.zero with Late := ([] : List Str) } : From) Sl.nil)) rfl rfl (by decide) Tryz.zeroValue45 rfl (fun b109 => ?_)
 refine Lst.store (i := 0) rfl rfl rfl rfl rfl Tryz.sizeOf45 (vs := enc (FromR.mk r102.1 s104)) rfl (Enc.len _) (Enc.one _) (cs' := enc (FromR.mk r102.1 s104)) (Put.here ((Enc.len _).trans (Enc.len _).symm)) (L' := (.blk b109 (enc (FromR.mk r102.1 s104)) 45) :: (.own Sl.nil 9 1 (encs ([] : List Str))) :: (.own s104 9 1 (encs r102.1.Late)) :: (.rows (α := Saying) 62 (List.map ProcessR.row (rs55.set a1.To.toNat (ProcessR.mk ({ x85 with log := x75.log ++ ([({ Saying.zero with From := r71.1, Text := r67.2.1 } : Saying)] : List Saying) } : Procs) s84 (FromR.mk x85.from_ r88_2h1) (ToR.mk x85.to r88_3h1) (ToR.mk x85.orders r88_4h1))))) :: (.own s79 62 2 (encs ([({ Saying.zero with From := r71.1, Text := r67.2.1 } : Saying)] : List Saying))) :: (.blk b24 (enc (ToR.mk ({ r12.1 with Early := l26 } : To) s25)) 41) :: (.own s27 9 1 (encs l28)) :: (.blk b6 (enc a1) 132) :: (.own s_a0_1 100 8 (encs (rs55.set a1.To.toNat (ProcessR.mk ({ x85 with log := x75.log ++ ([({ Saying.zero with From := r71.1, Text := r67.2.1 } : Saying)] : List Saying) } : Procs) s84 (FromR.mk x85.from_ r88_2h1) (ToR.mk x85.to r88_3h1) (ToR.mk x85.orders r88_4h1))))) :: (.own s_a0_2 9 1 (encs a0.ordered)) :: (.own s_a0_3 9 1 (encs a0.way)) :: (.blk b_a0 (enc (WldR.mk ({ y53 with all := p89, ordered := a0.ordered, way := a0.way } : Wld) s_a0_1 s_a0_2 s_a0_3)) 95) :: L) rfl ?_
 refine Lst.r (Ev.assign rfl) ?_
 refine nt0 ?_
 refine Cd.seq ?_
 refine Cd.as (e' := [(3, pv b6 0), (4, Sl.at s_a0_1 (a1.To.toNat * 8)), (49, Sl.v s27), (50, iv (l28.length : Int)), (51, iv (i52 : Int)), (20, pv b109 0), (21, iv r102.2)]) (L' := (.blk b109 (enc (FromR.mk r102.1 s104)) 45) :: (.own Sl.nil 9 1 (encs ([] : List Str))) :: (.own s104 9 1 (encs r102.1.Late)) :: (.rows (α := Saying) 62 (List.map ProcessR.row (rs55.set a1.To.toNat (ProcessR.mk ({ x85 with log := x75.log ++ ([({ Saying.zero with From := r71.1, Text := r67.2.1 } : Saying)] : List Saying) } : Procs) s84 (FromR.mk x85.from_ r88_2h1) (ToR.mk x85.to r88_3h1) (ToR.mk x85.orders r88_4h1))))) :: (.own s79 62 2 (encs ([({ Saying.zero with From := r71.1, Text := r67.2.1 } : Saying)] : List Saying))) :: (.blk b24 (enc (ToR.mk ({ r12.1 with Early := l26 } : To) s25)) 41) :: (.own s27 9 1 (encs l28)) :: (.blk b6 (enc a1) 132) :: (.own s_a0_1 100 8 (encs (rs55.set a1.To.toNat (ProcessR.mk ({ x85 with log := x75.log ++ ([({ Saying.zero with From := r71.1, Text := r67.2.1 } : Saying)] : List Saying) } : Procs) s84 (FromR.mk x85.from_ r88_2h1) (ToR.mk x85.to r88_3h1) (ToR.mk x85.orders r88_4h1))))) :: (.own s_a0_2 9 1 (encs a0.ordered)) :: (.own s_a0_3 9 1 (encs a0.way)) :: (.blk b_a0 (enc (WldR.mk ({ y53 with all := p89, ordered := a0.ordered, way := a0.way } : Wld) s_a0_1 s_a0_2 s_a0_3)) 95) :: L) ⟨rfl, rfl, rfl, rfl, rfl, rfl, rfl, trivial⟩ rfl ?_
 refine Cd.region ?_
 refine mv0 rfl ?_
 refine Lst.r (Ev.eql rfl rfl) ?_
 refine nt0 ?_
 rcases (Bool.eq_false_or_eq_true (r102.2 == (0 : Int))).symm with hb111 | hb111
 ·replace H := ite_f hb111 H
  refine Cd.condF rfl hb111 ?_
  refine Cd.skip ?_
  refine At.in_normal ?_
  refine At.then ?_
  refine Cd.region ?_
  refine Lst.r (Ev.incr (by omega) rfl rfl) ?_
  refine mv0 rfl ?_
  refine Lst.nil ?_
  refine At.front (i := 7) rfl rfl ?_
  refine At.front (i := 7) rfl rfl ?_
  refine At.front (i := 7) rfl (L' := (.blk b24 (enc (ToR.mk ({ r12.1 with Early := l26 } : To) s25)) 41) :: (.own s27 9 1 (encs l28)) :: (.blk b6 (enc a1) 132) :: (.blk b109 (enc (FromR.mk r102.1 s104)) 45) :: (.own Sl.nil 9 1 (encs ([] : List Str))) :: (.own s104 9 1 (encs r102.1.Late)) :: (.rows (α := Saying) 62 (List.map ProcessR.row (rs55.set a1.To.toNat (ProcessR.mk ({ x85 with log := x75.log ++ ([({ Saying.zero with From := r71.1, Text := r67.2.1 } : Saying)] : List Saying) } : Procs) s84 (FromR.mk x85.from_ r88_2h1) (ToR.mk x85.to r88_3h1) (ToR.mk x85.orders r88_4h1))))) :: (.own s79 62 2 (encs ([({ Saying.zero with From := r71.1, Text := r67.2.1 } : Saying)] : List Saying))) :: (.own s_a0_1 100 8 (encs (rs55.set a1.To.toNat (ProcessR.mk ({ x85 with log := x75.log ++ ([({ Saying.zero with From := r71.1, Text := r67.2.1 } : Saying)] : List Saying) } : Procs) s84 (FromR.mk x85.from_ r88_2h1) (ToR.mk x85.to r88_3h1) (ToR.mk x85.orders r88_4h1))))) :: (.own s_a0_2 9 1 (encs a0.ordered)) :: (.own s_a0_3 9 1 (encs a0.way)) :: (.blk b_a0 (enc (WldR.mk ({ y53 with all := p89, ordered := a0.ordered, way := a0.way } : Wld) s_a0_1 s_a0_2 s_a0_3)) 95) :: L) rfl ?_
  refine At.less (L' := (.blk b24 (enc (ToR.mk ({ r12.1 with Early := l26 } : To) s25)) 41) :: (.own s27 9 1 (encs l28)) :: (.blk b6 (enc a1) 132) :: (.rows (α := Saying) 62 (List.map ProcessR.row (rs55.set a1.To.toNat (ProcessR.mk ({ x85 with log := x75.log ++ ([({ Saying.zero with From := r71.1, Text := r67.2.1 } : Saying)] : List Saying) } : Procs) s84 (FromR.mk x85.from_ r88_2h1) (ToR.mk x85.to r88_3h1) (ToR.mk x85.orders r88_4h1))))) :: (.own s_a0_1 100 8 (encs (rs55.set a1.To.toNat (ProcessR.mk ({ x85 with log := x75.log ++ ([({ Saying.zero with From := r71.1, Text := r67.2.1 } : Saying)] : List Saying) } : Procs) s84 (FromR.mk x85.from_ r88_2h1) (ToR.mk x85.to r88_3h1) (ToR.mk x85.orders r88_4h1))))) :: (.own s_a0_2 9 1 (encs a0.ordered)) :: (.own s_a0_3 9 1 (encs a0.way)) :: (.blk b_a0 (enc (WldR.mk ({ y53 with all := p89, ordered := a0.ordered, way := a0.way } : Wld) s_a0_1 s_a0_2 s_a0_3)) 95) :: L) (sk1 (sk1 (sk1 (sc1 (sc1 (sc1 (sk1 (sc1 (sk1 (sk1 (sk1 (sk1 (.refl _))))))))))))) ?_
  exact At.meet (i52 + 1, k52, ({ y53 with all := p89, ordered := a0.ordered, way := a0.way } : Wld), p89, (rs55.set a1.To.toNat (ProcessR.mk ({ x85 with log := x75.log ++ ([({ Saying.zero with From := r71.1, Text := r67.2.1 } : Saying)] : List Saying) } : Procs) s84 (FromR.mk x85.from_ r88_2h1) (ToR.mk x85.to r88_3h1) (ToR.mk x85.orders r88_4h1)))) (FLe.trans hF59 hF107) ⟨rfl, rfl, rfl, rfl, rfl, trivial⟩ rfl ⟨⟨hgo52 _ (some_inj H).symm, by omega, hm91, (All.monoProcessF ha92 hF107 (List.nil_sublist _))⟩, Nat.lt_succ_self _⟩
 replace H := ite_t hb111 H
 refine Cd.condT rfl hb111 ?_
 refine Cd.region ?_
 refine mv0 rfl ?_
 refine Lst.r (Ev.loadA (i := 0) rfl rfl Tryz.isAgg45 Tryz.sizeOf45 (ch := enc (FromR.mk r102.1 s104)) (Enc.len _) gh0) ?_
 obtain ⟨x112, h113, H⟩ := bind_some H
 have g114 := lat_some h113
 obtain ⟨⟨r115v, r115h1, ⟨r115_2v, r115_2h1⟩, ⟨r115_3v, r115_3h1⟩, ⟨r115_4v, r115_4h1⟩⟩, r115g, r115e, r115m⟩ := map_get hm91 g114.2.2
 obtain rfl : x112 = r115v := r115e.symm
 have r115q : ProcessR.frel w0 _ _ (ProcessR.mk x112 r115h1 (FromR.mk r115_2v r115_2h1) (ToR.mk r115_3v r115_3h1) (ToR.mk r115_4v r115_4h1)) := ha92 _ r115m
 obtain ⟨r115_i2, r115_i3, r115_i4⟩ := r115q
 obtain ⟨r115_2e, r115_2q⟩ := r115_i2
 obtain rfl : r115_2v = x112.from_ := r115_2e
 have r115_2_f1 : Rd w0 _ _ _ _ := r115_2q
 obtain ⟨r115_3e, r115_3q⟩ := r115_i3
 obtain rfl : r115_3v = x112.to := r115_3e
 have r115_3_f1 : Rd w0 _ _ _ _ := r115_3q
 obtain ⟨r115_4e, r115_4q⟩ := r115_i4
 obtain rfl : r115_4v = x112.orders := r115_4e
 have r115_4_f1 : Rd w0 _ _ _ _ := r115_4q
 have r115wg := map_at ProcessR.row r115g
 refine Lst.r (Ev.nilCheckS (α := ProcessR) rfl (rdo 8 rfl rfl rfl) ((Get.elemN (s := 8) rfl r115g gh0).off (by omega)) rfl) ?_
 refine Lst.r (Ev.fieldS (α := ProcessR) (f' := a1.To.toNat * 8 + 2) rfl (rdo 8 rfl rfl rfl) ((Get.elemN (s := 8) rfl r115g gh0).off (by omega)) rfl Tryz.runUnderlying100 rfl Tryz.sizeOf45 rfl rfl rfl) ?_
 obtain ⟨p120, h121, H⟩ := Let_some H
 have hm122 : ((rs55.set a1.To.toNat (ProcessR.mk ({ x85 with log := x75.log ++ ([({ Saying.zero with From := r71.1, Text := r67.2.1 } : Saying)] : List Saying) } : Procs) s84 (FromR.mk x85.from_ r88_2h1) (ToR.mk x85.to r88_3h1) (ToR.mk x85.orders r88_4h1))).set a1.To.toNat (ProcessR.mk ({ x112 with from_ := r102.1 } : Procs) r115h1 (FromR.mk r102.1 s104) (ToR.mk x112.to r115_3h1) (ToR.mk x112.orders r115_4h1))).map ProcessR.v = p120 := (map_set hm91 _ _).trans h121
 refine Lst.freeze (i := 2) rfl (fun F116 hF117 hz118 => ?_)
 have hq119 : Rd w0 F116 [] s104 r102.1.Late := Rd.frozen hz118 rfl rfl
 refine Lst.its (L' := (.blk b109 (enc (FromR.mk r102.1 s104)) 45) :: (.own Sl.nil 9 1 (encs ([] : List Str))) :: (.rows (α := Saying) 62 (List.map ProcessR.row (rs55.set a1.To.toNat (ProcessR.mk ({ x85 with log := x75.log ++ ([({ Saying.zero with From := r71.1, Text := r67.2.1 } : Saying)] : List Saying) } : Procs) s84 (FromR.mk x85.from_ r88_2h1) (ToR.mk x85.to r88_3h1) (ToR.mk x85.orders r88_4h1))))) :: (.own s79 62 2 (encs ([({ Saying.zero with From := r71.1, Text := r67.2.1 } : Saying)] : List Saying))) :: (.blk b24 (enc (ToR.mk ({ r12.1 with Early := l26 } : To) s25)) 41) :: (.own s27 9 1 (encs l28)) :: (.blk b6 (enc a1) 132) :: (.own s_a0_1 100 8 (encs (rs55.set a1.To.toNat (ProcessR.mk ({ x85 with log := x75.log ++ ([({ Saying.zero with From := r71.1, Text := r67.2.1 } : Saying)] : List Saying) } : Procs) s84 (FromR.mk x85.from_ r88_2h1) (ToR.mk x85.to r88_3h1) (ToR.mk x85.orders r88_4h1))))) :: (.own s_a0_2 9 1 (encs a0.ordered)) :: (.own s_a0_3 9 1 (encs a0.way)) :: (.blk b_a0 (enc (WldR.mk ({ y53 with all := p89, ordered := a0.ordered, way := a0.way } : Wld) s_a0_1 s_a0_2 s_a0_3)) 95) :: L) rfl ?_
 have ha123 : All ProcessR.frel w0 F116 [] ((rs55.set a1.To.toNat (ProcessR.mk ({ x85 with log := x75.log ++ ([({ Saying.zero with From := r71.1, Text := r67.2.1 } : Saying)] : List Saying) } : Procs) s84 (FromR.mk x85.from_ r88_2h1) (ToR.mk x85.to r88_3h1) (ToR.mk x85.orders r88_4h1))).set a1.To.toNat (ProcessR.mk ({ x112 with from_ := r102.1 } : Procs) r115h1 (FromR.mk r102.1 s104) (ToR.mk x112.to r115_3h1) (ToR.mk x112.orders r115_4h1))) := All.set (All.monoProcessF ha92 (FLe.trans hF107 hF117) (List.nil_sublist _)) (⟨⟨rfl, (hq119.mono fl (List.nil_sublist _))⟩, ⟨rfl, (r115_3_f1.mono (FLe.trans hF107 hF117) (List.nil_sublist _))⟩, ⟨rfl, (r115_4_f1.mono (FLe.trans hF107 hF117) (List.nil_sublist _))⟩⟩)
 refine Lst.storeS (i := 7) rfl rfl rfl rfl rfl Tryz.sizeOf45 (vs := enc (FromR.mk r102.1 s104)) rfl (Enc.len _) (by decide) (Enc.one _) (xs' := encs ((rs55.set a1.To.toNat (ProcessR.mk ({ x85 with log := x75.log ++ ([({ Saying.zero with From := r71.1, Text := r67.2.1 } : Saying)] : List Saying) } : Procs) s84 (FromR.mk x85.from_ r88_2h1) (ToR.mk x85.to r88_3h1) (ToR.mk x85.orders r88_4h1))).set a1.To.toNat (ProcessR.mk ({ x112 with from_ := r102.1 } : Procs) r115h1 (FromR.mk r102.1 s104) (ToR.mk x112.to r115_3h1) (ToR.mk x112.orders r115_4h1)))) ((Put.elemN (s := 8) (x := (ProcessR.mk x112 r115h1 (FromR.mk x112.from_ r115_2h1) (ToR.mk x112.to r115_3h1) (ToR.mk x112.orders r115_4h1))) (y := (ProcessR.mk ({ x112 with from_ := r102.1 } : Procs) r115h1 (FromR.mk r102.1 s104) (ToR.mk x112.to r115_3h1) (ToR.mk x112.orders r115_4h1))) rfl r115g (ProcessR.put_from_ (p := (ProcessR.mk x112 r115h1 (FromR.mk x112.from_ r115_2h1) (ToR.mk x112.to r115_3h1) (ToR.mk x112.orders r115_4h1))) (l := r102.1) (Put.here ((Enc.len _).trans (Enc.len _).symm)))).off (by omega)) (L' := (.blk b109 (enc (FromR.mk r102.1 s104)) 45) :: (.own Sl.nil 9 1 (encs ([] : List Str))) :: (.rows (α := Saying) 62 (List.map ProcessR.row (rs55.set a1.To.toNat (ProcessR.mk ({ x85 with log := x75.log ++ ([({ Saying.zero with From := r71.1, Text := r67.2.1 } : Saying)] : List Saying) } : Procs) s84 (FromR.mk x85.from_ r88_2h1) (ToR.mk x85.to r88_3h1) (ToR.mk x85.orders r88_4h1))))) :: (.own s79 62 2 (encs ([({ Saying.zero with From := r71.1, Text := r67.2.1 } : Saying)] : List Saying))) :: (.blk b24 (enc (ToR.mk ({ r12.1 with Early := l26 } : To) s25)) 41) :: (.own s27 9 1 (encs l28)) :: (.blk b6 (enc a1) 132) :: (.own s_a0_1 100 8 (encs ((rs55.set a1.To.toNat (ProcessR.mk ({ x85 with log := x75.log ++ ([({ Saying.zero with From := r71.1, Text := r67.2.1 } : Saying)] : List Saying) } : Procs) s84 (FromR.mk x85.from_ r88_2h1) (ToR.mk x85.to r88_3h1) (ToR.mk x85.orders r88_4h1))).set a1.To.toNat (ProcessR.mk ({ x112 with from_ := r102.1 } : Procs) r115h1 (FromR.mk r102.1 s104) (ToR.mk x112.to r115_3h1) (ToR.mk x112.orders r115_4h1))))) :: (.own s_a0_2 9 1 (encs a0.ordered)) :: (.own s_a0_3 9 1 (encs a0.way)) :: (.blk b_a0 (enc (WldR.mk ({ y53 with all := p120, ordered := a0.ordered, way := a0.way } : Wld) s_a0_1 s_a0_2 s_a0_3)) 95) :: L) rfl ?_
 refine Lst.its (L' := (.blk b109 (enc (FromR.mk r102.1 s104)) 45) :: (.own Sl.nil 9 1 (encs ([] : List Str))) :: (.rows (α := Saying) 62 (List.map ProcessR.row ((rs55.set a1.To.toNat (ProcessR.mk ({ x85 with log := x75.log ++ ([({ Saying.zero with From := r71.1, Text := r67.2.1 } : Saying)] : List Saying) } : Procs) s84 (FromR.mk x85.from_ r88_2h1) (ToR.mk x85.to r88_3h1) (ToR.mk x85.orders r88_4h1))).set a1.To.toNat (ProcessR.mk ({ x112 with from_ := r102.1 } : Procs) r115h1 (FromR.mk r102.1 s104) (ToR.mk x112.to r115_3h1) (ToR.mk x112.orders r115_4h1))))) :: (.own s79 62 2 (encs ([({ Saying.zero with From := r71.1, Text := r67.2.1 } : Saying)] : List Saying))) :: (.blk b24 (enc (ToR.mk ({ r12.1 with Early := l26 } : To) s25)) 41) :: (.own s27 9 1 (encs l28)) :: (.blk b6 (enc a1) 132) :: (.own s_a0_1 100 8 (encs ((rs55.set a1.To.toNat (ProcessR.mk ({ x85 with log := x75.log ++ ([({ Saying.zero with From := r71.1, Text := r67.2.1 } : Saying)] : List Saying) } : Procs) s84 (FromR.mk x85.from_ r88_2h1) (ToR.mk x85.to r88_3h1) (ToR.mk x85.orders r88_4h1))).set a1.To.toNat (ProcessR.mk ({ x112 with from_ := r102.1 } : Procs) r115h1 (FromR.mk r102.1 s104) (ToR.mk x112.to r115_3h1) (ToR.mk x112.orders r115_4h1))))) :: (.own s_a0_2 9 1 (encs a0.ordered)) :: (.own s_a0_3 9 1 (encs a0.way)) :: (.blk b_a0 (enc (WldR.mk ({ y53 with all := p120, ordered := a0.ordered, way := a0.way } : Wld) s_a0_1 s_a0_2 s_a0_3)) 95) :: L) (by rw [map_set_same (y := (ProcessR.mk ({ x112 with from_ := r102.1 } : Procs) r115h1 (FromR.mk r102.1 s104) (ToR.mk x112.to r115_3h1) (ToR.mk x112.orders r115_4h1))) r115g rfl]) ?_
 refine Lst.nil ?_
 refine At.in_normal ?_
 refine At.then ?_
 refine Cd.region ?_
 refine Lst.r (Ev.incr (by omega) rfl rfl) ?_
 refine mv0 rfl ?_
 refine Lst.nil ?_
 refine At.front (i := 6) rfl rfl ?_
 refine At.front (i := 6) rfl rfl ?_
 refine At.front (i := 6) rfl (L' := (.blk b24 (enc (ToR.mk ({ r12.1 with Early := l26 } : To) s25)) 41) :: (.own s27 9 1 (encs l28)) :: (.blk b6 (enc a1) 132) :: (.blk b109 (enc (FromR.mk r102.1 s104)) 45) :: (.own Sl.nil 9 1 (encs ([] : List Str))) :: (.rows (α := Saying) 62 (List.map ProcessR.row ((rs55.set a1.To.toNat (ProcessR.mk ({ x85 with log := x75.log ++ ([({ Saying.zero with From := r71.1, Text := r67.2.1 } : Saying)] : List Saying) } : Procs) s84 (FromR.mk x85.from_ r88_2h1) (ToR.mk x85.to r88_3h1) (ToR.mk x85.orders r88_4h1))).set a1.To.toNat (ProcessR.mk ({ x112 with from_ := r102.1 } : Procs) r115h1 (FromR.mk r102.1 s104) (ToR.mk x112.to r115_3h1) (ToR.mk x112.orders r115_4h1))))) :: (.own s79 62 2 (encs ([({ Saying.zero with From := r71.1, Text := r67.2.1 } : Saying)] : List Saying))) :: (.own s_a0_1 100 8 (encs ((rs55.set a1.To.toNat (ProcessR.mk ({ x85 with log := x75.log ++ ([({ Saying.zero with From := r71.1, Text := r67.2.1 } : Saying)] : List Saying) } : Procs) s84 (FromR.mk x85.from_ r88_2h1) (ToR.mk x85.to r88_3h1) (ToR.mk x85.orders r88_4h1))).set a1.To.toNat (ProcessR.mk ({ x112 with from_ := r102.1 } : Procs) r115h1 (FromR.mk r102.1 s104) (ToR.mk x112.to r115_3h1) (ToR.mk x112.orders r115_4h1))))) :: (.own s_a0_2 9 1 (encs a0.ordered)) :: (.own s_a0_3 9 1 (encs a0.way)) :: (.blk b_a0 (enc (WldR.mk ({ y53 with all := p120, ordered := a0.ordered, way := a0.way } : Wld) s_a0_1 s_a0_2 s_a0_3)) 95) :: L) rfl ?_
 refine At.less (L' := (.blk b24 (enc (ToR.mk ({ r12.1 with Early := l26 } : To) s25)) 41) :: (.own s27 9 1 (encs l28)) :: (.blk b6 (enc a1) 132) :: (.rows (α := Saying) 62 (List.map ProcessR.row ((rs55.set a1.To.toNat (ProcessR.mk ({ x85 with log := x75.log ++ ([({ Saying.zero with From := r71.1, Text := r67.2.1 } : Saying)] : List Saying) } : Procs) s84 (FromR.mk x85.from_ r88_2h1) (ToR.mk x85.to r88_3h1) (ToR.mk x85.orders r88_4h1))).set a1.To.toNat (ProcessR.mk ({ x112 with from_ := r102.1 } : Procs) r115h1 (FromR.mk r102.1 s104) (ToR.mk x112.to r115_3h1) (ToR.mk x112.orders r115_4h1))))) :: (.own s_a0_1 100 8 (encs ((rs55.set a1.To.toNat (ProcessR.mk ({ x85 with log := x75.log ++ ([({ Saying.zero with From := r71.1, Text := r67.2.1 } : Saying)] : List Saying) } : Procs) s84 (FromR.mk x85.from_ r88_2h1) (ToR.mk x85.to r88_3h1) (ToR.mk x85.orders r88_4h1))).set a1.To.toNat (ProcessR.mk ({ x112 with from_ := r102.1 } : Procs) r115h1 (FromR.mk r102.1 s104) (ToR.mk x112.to r115_3h1) (ToR.mk x112.orders r115_4h1))))) :: (.own s_a0_2 9 1 (encs a0.ordered)) :: (.own s_a0_3 9 1 (encs a0.way)) :: (.blk b_a0 (enc (WldR.mk ({ y53 with all := p120, ordered := a0.ordered, way := a0.way } : Wld) s_a0_1 s_a0_2 s_a0_3)) 95) :: L) (sk1 (sk1 (sk1 (sc1 (sc1 (sk1 (sc1 (sk1 (sk1 (sk1 (sk1 (.refl _)))))))))))) ?_
 exact At.meet (i52 + 1, k52, ({ y53 with all := p120, ordered := a0.ordered, way := a0.way } : Wld), p120, ((rs55.set a1.To.toNat (ProcessR.mk ({ x85 with log := x75.log ++ ([({ Saying.zero with From := r71.1, Text := r67.2.1 } : Saying)] : List Saying) } : Procs) s84 (FromR.mk x85.from_ r88_2h1) (ToR.mk x85.to r88_3h1) (ToR.mk x85.orders r88_4h1))).set a1.To.toNat (ProcessR.mk ({ x112 with from_ := r102.1 } : Procs) r115h1 (FromR.mk r102.1 s104) (ToR.mk x112.to r115_3h1) (ToR.mk x112.orders r115_4h1)))) (FLe.trans (FLe.trans hF59 hF107) hF117) ⟨rfl, rfl, rfl, rfl, rfl, trivial⟩ rfl ⟨⟨hgo52 _ (some_inj H).symm, by omega, hm122, (All.monoProcessF ha123 fl (List.nil_sublist _))⟩, Nat.lt_succ_self _⟩
set_option maxRecDepth 20000 in
theorem world_World_deliver_sim {fu : Nat} {a0 : Wld} {a1 : Note} {b_a0 : Nat} {s_a0_1 : Sl} {rs_a0_1 : List ProcessR} {s_a0_2 : Sl} {s_a0_3 : Sl} {r : (List Procs) × (List Str) × (List Str) × Wld} (H : world_World_deliver fu a0 a1 = some r) (w0 : World) (F : Frz) (M L : List Item) (hM : M.Sublist L) (hT : Tab Tryz.prog w0) (hm_a0_1 : rs_a0_1.map ProcessR.v = a0.all) (ha_a0_1 : All ProcessR.frel w0 F [] rs_a0_1) : Ok Tryz.prog w0 66 [pv b_a0 0, .agg (enc a1).toArray] F ((.rows (α := Saying) 62 (List.map ProcessR.row rs_a0_1)) :: (.own s_a0_1 100 8 (encs rs_a0_1)) :: (.own s_a0_2 9 1 (encs a0.ordered)) :: (.own s_a0_3 9 1 (encs a0.way)) :: (.blk b_a0 (enc (WldR.mk a0 s_a0_1 s_a0_2 s_a0_3)) 95) :: L) (fun Fx L' v => ∃ (rs6 : List ProcessR) (s9 : Sl) (s10 : Sl), v = .tuple #[] ∧ L' = (.rows (α := Saying) 62 (List.map ProcessR.row rs6)) :: (.own s_a0_1 100 8 (encs rs6)) :: (.own s9 9 1 (encs r.2.1)) :: (.own s10 9 1 (encs r.2.2.1)) :: (.blk b_a0 (enc (WldR.mk ({ r.2.2.2 with all := r.1, ordered := r.2.1, way := r.2.2.1 } : Wld) s_a0_1 s9 s10)) 95) :: L ∧ rs6.map ProcessR.v = r.1 ∧ All ProcessR.frel w0 Fx [] rs6) := by
 unfold world_World_deliver at H
 refine Ok.enter (m := 2) (n := 56) Tryz.func66 rfl rfl rfl (by decide) ?_
 refine Cd.env (e' := [(0, pv b_a0 0), (1, .agg (enc a1).toArray)]) rfl ?_
 refine sr0 ?_
 refine Lst.box rfl rfl (by decide) rfl (cs := enc a1) rfl (fun b6 => ?_)
 refine nt0 ?_
 refine Cd.seq ?_
 refine sr0 ?_
 refine mv0 rfl ?_
 refine Lst.r (Ev.fieldAddr (off' := 1) rfl Tryz.runUnderlying132 rfl Tryz.sizeOf3 rfl rfl) ?_
 refine Lst.r (Ev.load (i := 0) rfl rfl Tryz.isAgg3 (v := iv a1.From) ((Note.get_From gh0).off (by rfl))) ?_
 obtain ⟨r8, h9, H⟩ := bind_some H
 refine Lst.front (i := 5) rfl rfl ?_
 refine Lst.front (i := 5) rfl rfl ?_
 refine Lst.front (i := 5) rfl (L' := (.own s_a0_2 9 1 (encs a0.ordered)) :: (.own s_a0_3 9 1 (encs a0.way)) :: (.blk b_a0 (enc (WldR.mk a0 s_a0_1 s_a0_2 s_a0_3)) 95) :: (.blk b6 (enc a1) 132) :: (.rows (α := Saying) 62 (List.map ProcessR.row rs_a0_1)) :: (.own s_a0_1 100 8 (encs rs_a0_1)) :: L) rfl ?_
 refine Lst.front (i := 5) rfl rfl ?_
 refine Lst.front (i := 5) rfl (L' := (.rows (α := Saying) 62 (List.map ProcessR.row rs_a0_1)) :: (.own s_a0_1 100 8 (encs rs_a0_1)) :: (.own s_a0_2 9 1 (encs a0.ordered)) :: (.own s_a0_3 9 1 (encs a0.way)) :: (.blk b_a0 (enc (WldR.mk a0 s_a0_1 s_a0_2 s_a0_3)) 95) :: (.blk b6 (enc a1) 132) :: L) rfl ?_
 refine Lst.call1 rfl rfl (by decide) (vs := [pv b_a0 0, iv a1.From]) ⟨rfl, rfl, trivial⟩ Tryz.call43 (world_World_known_sim h9 w0 _ M _ (sc1 hM) hm_a0_1 (All.monoProcessF ha_a0_1 fl (List.nil_sublist _))) ?_
 refine Lst.r (Ev.neq rfl rfl) ?_
 refine nt0 ?_
 rcases Bool.eq_false_or_eq_true (r8 != (0 : Int)) with hb12 | hb12
 ·replace H := ite_t hb12 H
  refine Cd.condT rfl hb12 ?_
  obtain rfl := some_inj H
  refine Cd.ret ?_
  refine At.then_ret ?_
  exact At.ret0 (.inl rfl) rfl fl (sk1 (sk1 (sk1 (sk1 (sk1 (sc1 (.refl _))))))) ⟨rs_a0_1, s_a0_2, s_a0_3, rfl, rfl, hm_a0_1, (All.monoProcessF ha_a0_1 fl (List.nil_sublist _))⟩
 replace H := ite_f hb12 H
 refine Cd.condF rfl hb12 ?_
 refine Cd.skip ?_
 refine At.then ?_
 refine sr0 ?_
 refine Lst.r (Ev.fieldAddr (off' := 0) rfl Tryz.runUnderlying132 rfl Tryz.sizeOf3 rfl rfl) ?_
 refine Lst.r (Ev.load (i := 5) rfl rfl Tryz.isAgg3 (v := iv a1.Kind) ((Note.get_Kind gh0).off (by rfl))) ?_
 refine nt0 ?_
 refine Cd.block ?_
 refine sr0 ?_
 refine Lst.r (Ev.eql rfl rfl) ?_
 refine Lst.r (Ev.assign rfl) ?_
 refine nt0 ?_
 rcases Bool.eq_false_or_eq_true (a1.Kind == (1 : Int)) with hb13 | hb13
 ·replace H := ite_t hb13 H
  refine Cd.condT rfl hb13 ?_
  refine Cd.region ?_
  refine mv0 rfl ?_
  refine Lst.r (Ev.loadA (i := 5) rfl rfl Tryz.isAgg132 Tryz.sizeOf132 (ch := enc a1) (Enc.len _) gh0) ?_
  obtain ⟨r14, h15, H⟩ := bind_some H
  refine Lst.call rfl rfl (by decide) (vs := [pv b_a0 0, .agg (enc a1).toArray]) ⟨rfl, rfl, trivial⟩ Tryz.call119 (world_World_order_sim h15 w0 _ M _ (sc1 hM) hT hm_a0_1 (All.monoProcessF ha_a0_1 fl (List.nil_sublist _))) (fun F21 L' v hF22 hv => ?_)
  obtain ⟨rs16, s19, s20, rfl, rfl, fm17, fa18⟩ := hv
  refine Lst.nil ?_
  refine At.in_normal ?_
  obtain rfl := some_inj H
  exact At.ret0 (.inr rfl) rfl hF22 (sk1 (sk1 (sk1 (sk1 (sk1 (sc1 (.refl _))))))) ⟨rs16, s19, s20, rfl, rfl, fm17, (All.monoProcessF fa18 fl (List.nil_sublist _))⟩
 replace H := ite_f hb13 H
 refine Cd.condF rfl hb13 ?_
 refine sr0 ?_
 refine Lst.r (Ev.eql rfl rfl) ?_
 refine Lst.r (Ev.assign rfl) ?_
 refine nt0 ?_
 rcases (Bool.eq_false_or_eq_true (a1.Kind == (3 : Int))).symm with hb23 | hb23
 ·replace H := ite_f hb23 H
  refine Cd.condF rfl hb23 ?_
  refine sr0 ?_
  refine Lst.r (Ev.eql rfl rfl) ?_
  refine Lst.r (Ev.assign rfl) ?_
  refine nt0 ?_
  rcases (Bool.eq_false_or_eq_true (a1.Kind == (2 : Int))).symm with hb24 | hb24
  ·replace H := ite_f hb24 H
   refine Cd.condF rfl hb24 ?_
   refine Cd.skip ?_
   refine At.in_normal ?_
   obtain rfl := some_inj H
   exact At.ret0 (.inr rfl) rfl fl (sk1 (sk1 (sk1 (sk1 (sk1 (sc1 (.refl _))))))) ⟨rs_a0_1, s_a0_2, s_a0_3, rfl, rfl, hm_a0_1, (All.monoProcessF ha_a0_1 fl (List.nil_sublist _))⟩
  replace H := ite_t hb24 H
  refine Cd.condT rfl hb24 ?_
  refine Cd.region ?_
  refine mv0 rfl ?_
  refine Lst.r (Ev.loadA (i := 5) rfl rfl Tryz.isAgg132 Tryz.sizeOf132 (ch := enc a1) (Enc.len _) gh0) ?_
  obtain ⟨r25, h26, H⟩ := bind_some H
  refine Lst.call rfl rfl (by decide) (vs := [pv b_a0 0, .agg (enc a1).toArray]) ⟨rfl, rfl, trivial⟩ Tryz.call120 (world_World_take_sim h26 w0 _ M _ (sc1 hM) hm_a0_1 (All.monoProcessF ha_a0_1 fl (List.nil_sublist _))) (fun F30 L' v hF31 hv => ?_)
  obtain ⟨rs27, rfl, rfl, fm28, fa29⟩ := hv
  refine Lst.nil ?_
  refine At.in_normal ?_
  obtain rfl := some_inj H
  exact At.ret0 (.inr rfl) rfl hF31 (sk1 (sk1 (sk1 (sk1 (sk1 (sc1 (.refl _))))))) ⟨rs27, s_a0_2, s_a0_3, rfl, rfl, fm28, (All.monoProcessF fa29 fl (List.nil_sublist _))⟩
 replace H := ite_t hb23 H
 refine Cd.condT rfl hb23 ?_
 refine sr0 ?_
 refine Lst.r (Ev.fieldAddr (off' := 4) rfl Tryz.runUnderlying132 rfl Tryz.sizeOf3 rfl rfl) ?_
 refine Lst.r (Ev.load (i := 5) rfl rfl Tryz.isAgg3 (v := iv a1.Seq) ((Note.get_Seq gh0).off (by rfl))) ?_
 refine Lst.r (Ev.assign rfl) ?_
 refine nt0 ?_
 refine Cd.block ?_
 obtain ⟨ol32, H, HKl32⟩ := andThen_some H
 refine Cd.loop (σ := Nat × Int × Wld × Sl × (List Str)) (fun (k32, y33, y34, s35, l36) => [(0, pv b_a0 0), (3, pv b6 0), (4, iv y33)]) (fun (k32, y33, y34, s35, l36) => (.rows (α := Saying) 62 (List.map ProcessR.row rs_a0_1)) :: (.own s_a0_1 100 8 (encs rs_a0_1)) :: (.own s_a0_2 9 1 (encs a0.ordered)) :: (.own s35 9 1 (encs l36)) :: (.blk b_a0 (enc (WldR.mk ({ y34 with all := a0.all, ordered := a0.ordered, way := l36 } : Wld) s_a0_1 s_a0_2 s35)) 95) :: (.blk b6 (enc a1) 132) :: L) (fun _ => (fun (k32, y33, y34, s35, l36) => whileM (world_World_deliver_B1 a0 a1) k32 (y33, y34, l36) = some ol32)) (fun (k32, y33, y34, s35, l36) => k32) (fu, a1.Seq, a0, s_a0_3, a0.way) ⟨rfl, rfl, rfl, trivial⟩ rfl H ?_
 rintro F37 ⟨k32, y33, y34, s35, l36⟩ hF38 H
 refine Cd.as (e' := [(0, pv b_a0 0), (3, pv b6 0), (4, iv y33)]) (L' := (.rows (α := Saying) 62 (List.map ProcessR.row rs_a0_1)) :: (.own s_a0_1 100 8 (encs rs_a0_1)) :: (.own s_a0_2 9 1 (encs a0.ordered)) :: (.own s35 9 1 (encs l36)) :: (.blk b_a0 (enc (WldR.mk ({ y34 with all := a0.all, ordered := a0.ordered, way := l36 } : Wld) s_a0_1 s_a0_2 s35)) 95) :: (.blk b6 (enc a1) 132) :: L) ⟨rfl, rfl, rfl, trivial⟩ rfl ?_
 rcases k32 with _ | k32
 ·cases H
 obtain ⟨c32, H, hgo32, hbrk32, hret32⟩ := whileM_go H
 unfold world_World_deliver_B1 at H
 try dsimp only at H
 refine Cd.seq ?_
 refine sr0 ?_
 refine mv0 rfl ?_
 refine mv0 rfl ?_
 refine Lst.r (Ev.nilCheck rfl) ?_
 refine Lst.r (Ev.fieldAddr (off' := 3) rfl Tryz.runUnderlying95 rfl Tryz.sizeOf43 rfl rfl) ?_
 refine Lst.r (Ev.load (i := 4) rfl rfl Tryz.isAgg43 (v := Sl.v s_a0_2) ((WldR.get_ordered gh0).off (by rfl))) ?_
 refine Lst.r (Ev.lenS (α := Str) (xs := a0.ordered) (by decide) rfl rfl Tryz.runUnderlying43 (rdo 2 rfl rfl rfl)) ?_
 refine Lst.r (Ev.lss rfl rfl) ?_
 refine mv0 rfl ?_
 obtain ⟨o39, H, HKo39⟩ := bind_some H
 refine Lst.join (σ := Bool) 6 (fun y40 => [(0, pv b_a0 0), (3, pv b6 0), (4, iv y33), (34, .bool y40)]) (fun y40 => (.rows (α := Saying) 62 (List.map ProcessR.row rs_a0_1)) :: (.own s_a0_1 100 8 (encs rs_a0_1)) :: (.own s_a0_2 9 1 (encs a0.ordered)) :: (.own s35 9 1 (encs l36)) :: (.blk b_a0 (enc (WldR.mk ({ y34 with all := a0.all, ordered := a0.ordered, way := l36 } : Wld) s_a0_1 s_a0_2 s35)) 95) :: (.blk b6 (enc a1) 132) :: L) (fun _ y40 => y40 = o39) ?_ ?_
 ·rcases (Bool.eq_false_or_eq_true (decide (y33 < (a0.ordered.length : Int)))).symm with hb41 | hb41
  ·replace H := ite_f hb41 H
   refine Lst.skip rfl rfl rfl hb41 rfl (by decide) ?_
   refine Lst.skip rfl rfl rfl hb41 rfl (by decide) ?_
   refine Lst.skip rfl rfl rfl hb41 rfl (by decide) ?_
   refine Lst.skip rfl rfl rfl hb41 rfl (by decide) ?_
   refine Lst.skip rfl rfl rfl hb41 rfl (by decide) ?_
   refine Lst.r (Ev.pickF rfl hb41 rfl) ?_
   refine Lst.nil ?_
   exact At.meet false fl ⟨rfl, rfl, rfl, rfl, trivial⟩ rfl (some_inj H)
  replace H := ite_t hb41 H
  refine Lst.rG hb41 (Ev.move rfl) ?_
  refine Lst.rG hb41 (Ev.fieldAddr (off' := 4) rfl Tryz.runUnderlying132 rfl Tryz.sizeOf3 rfl rfl) ?_
  refine Lst.rG hb41 (Ev.load (i := 5) rfl rfl Tryz.isAgg3 (v := iv a1.Seq) ((Note.get_Seq gh0).off (by rfl))) ?_
  refine Lst.rG hb41 (Ev.add rfl rfl) ?_
  refine Lst.rG hb41 (Ev.lss rfl rfl) ?_
  refine Lst.r (Ev.pickT rfl hb41 rfl) ?_
  refine Lst.nil ?_
  exact At.meet (decide (y33 < (w64 (a1.Seq + (4 : Int))))) fl ⟨rfl, rfl, rfl, rfl, trivial⟩ rfl (some_inj H)
 rintro F42 y40 hF43 hy
 subst hy
 refine Lst.as (e' := [(0, pv b_a0 0), (3, pv b6 0), (4, iv y33), (34, .bool y40)]) (L' := (.rows (α := Saying) 62 (List.map ProcessR.row rs_a0_1)) :: (.own s_a0_1 100 8 (encs rs_a0_1)) :: (.own s_a0_2 9 1 (encs a0.ordered)) :: (.own s35 9 1 (encs l36)) :: (.blk b_a0 (enc (WldR.mk ({ y34 with all := a0.all, ordered := a0.ordered, way := l36 } : Wld) s_a0_1 s_a0_2 s35)) 95) :: (.blk b6 (enc a1) 132) :: L) ⟨rfl, rfl, rfl, rfl, trivial⟩ rfl ?_
 replace H := HKo39
 refine nt0 ?_
 rcases (Bool.eq_false_or_eq_true y40).symm with hb44 | hb44
 ·replace H := ite_f hb44 H
  refine Cd.condF rfl hb44 ?_
  refine Cd.exit ?_
  refine At.then_exit ?_
  refine At.then_exit ?_
  refine At.in_exit ?_
  have H := hbrk32 _ (some_inj H).symm
  subst H
  replace H := HKl32
  try dsimp only [Sum.elim_inl] at H
  refine At.in_normal ?_
  obtain rfl := some_inj H
  exact At.ret0 (.inr rfl) rfl (FLe.trans hF38 hF43) (sk1 (sk1 (sk1 (sk1 (sk1 (sc1 (.refl _))))))) ⟨rs_a0_1, s_a0_2, s35, rfl, rfl, hm_a0_1, (All.monoProcessF ha_a0_1 (FLe.trans hF38 hF43) (List.nil_sublist _))⟩
 replace H := ite_t hb44 H
 refine Cd.condT rfl hb44 ?_
 refine Cd.skip ?_
 refine At.then ?_
 refine Cd.seq ?_
 refine Cd.block ?_
 refine Cd.tail 13 (by kernel_rfl) (by kernel_rfl) ?_
 refine Qt.r (Ev.move rfl) ?_
 refine Qt.r (Ev.move rfl) ?_
 obtain ⟨r45, h46, H⟩ := bind_some H
 refine Qt.call rfl rfl (by decide) (vs := [pv b_a0 0]) ⟨rfl, trivial⟩ Tryz.call62 (world_World_sequencer_sim h46 w0 _ M _ (sc1 hM) hm_a0_1 (All.monoProcessF ha_a0_1 (FLe.trans hF38 hF43) (List.nil_sublist _))) ?_
 refine Qt.r (Ev.fieldAddr (off' := 1) rfl Tryz.runUnderlying132 rfl Tryz.sizeOf3 rfl rfl) ?_
 refine Qt.r (Ev.load (i := 5) rfl rfl Tryz.isAgg3 (v := iv a1.From) ((Note.get_From gh0).off (by rfl))) ?_
 refine Qt.r (Ev.move rfl) ?_
 refine Qt.r (Ev.move rfl) ?_
 refine Qt.r (Ev.nilCheck rfl) ?_
 refine Qt.r (Ev.fieldAddr (off' := 3) rfl Tryz.runUnderlying95 rfl Tryz.sizeOf43 rfl rfl) ?_
 refine Qt.r (Ev.load (i := 4) rfl rfl Tryz.isAgg43 (v := Sl.v s_a0_2) ((WldR.get_ordered gh0).off (by rfl))) ?_
 refine Qt.r (Ev.move rfl) ?_
 obtain ⟨x49, h50, H⟩ := bind_some H
 have g51 := lat_some h50
 refine Qt.r (Ev.indexS (α := Str) (xs := a0.ordered) rfl rfl Tryz.runUnderlying43 Tryz.sizeOf9 rfl (by decide) (rdo 2 rfl rfl rfl) g51.1 g51.2.1) ?_
 refine Qt.r (Ev.loadS (α := Str) rfl (rdo 2 rfl rfl rfl) Tryz.isAgg9 (v := Str.v x49) ((Get.elemN (s := 1) (x := x49) rfl g51.2.2 gh0).off (by omega))) ?_
 refine Qt.tail ?_
 obtain ⟨r52, h53, H⟩ := bind_some H
 refine Lst.call rfl rfl (by decide) (vs := [pv b_a0 0, iv (2 : Int), iv r45, iv a1.From, iv y33, Str.v x49]) ⟨rfl, rfl, rfl, rfl, rfl, rfl, trivial⟩ Tryz.call61 (world_World_send_sim h53 w0 _ M _ (sc1 hM) hm_a0_1 (All.monoProcessF ha_a0_1 (FLe.trans hF38 hF43) (List.nil_sublist _))) (fun F55 L' v hF56 hv => ?_)
 obtain ⟨s54, rfl, rfl⟩ := hv
 refine Lst.nil ?_
 refine At.in_normal ?_
 refine At.then ?_
 refine Cd.as (e' := [(0, pv b_a0 0), (3, pv b6 0), (4, iv y33)]) (L' := (.rows (α := Saying) 62 (List.map ProcessR.row rs_a0_1)) :: (.own s_a0_1 100 8 (encs rs_a0_1)) :: (.own s_a0_2 9 1 (encs a0.ordered)) :: (.own s54 9 1 (encs r52.1)) :: (.blk b_a0 (enc (WldR.mk ({ r52.2 with all := a0.all, ordered := a0.ordered, way := r52.1 } : Wld) s_a0_1 s_a0_2 s54)) 95) :: (.blk b6 (enc a1) 132) :: L) ⟨rfl, rfl, rfl, trivial⟩ rfl ?_
 refine Cd.region ?_
 refine mv0 rfl ?_
 refine Lst.r (Ev.add rfl rfl) ?_
 refine Lst.r (Ev.assign rfl) ?_
 refine Lst.nil ?_
 exact At.meet (k32, w64 (y33 + (1 : Int)), ({ r52.2 with all := a0.all, ordered := a0.ordered, way := r52.1 } : Wld), s54, r52.1) (FLe.trans (FLe.trans hF38 hF43) hF56) ⟨rfl, rfl, rfl, trivial⟩ rfl ⟨hgo32 _ (some_inj H).symm, Nat.lt_succ_self _⟩
set_option maxRecDepth 20000 in
theorem world_World_Move_sim {fu : Nat} {a0 : Wld} {a1 : Int} {a2 : Int} {b_a0 : Nat} {s_a0_1 : Sl} {rs_a0_1 : List ProcessR} {s_a0_2 : Sl} {s_a0_3 : Sl} {r : (List Procs) × (List Str) × Wld × Int} (H : world_World_Move fu a0 a1 a2 = some r) (w0 : World) (F : Frz) (M L : List Item) (hM : M.Sublist L) (hT : Tab Tryz.prog w0) (hm_a0_1 : rs_a0_1.map ProcessR.v = a0.all) (ha_a0_1 : All ProcessR.frel w0 F [] rs_a0_1) : Ok Tryz.prog w0 32 [pv b_a0 0, iv a1, iv a2] F ((.rows (α := Saying) 62 (List.map ProcessR.row rs_a0_1)) :: (.own s_a0_1 100 8 (encs rs_a0_1)) :: (.own s_a0_2 9 1 (encs a0.ordered)) :: (.own s_a0_3 9 1 (encs a0.way)) :: (.blk b_a0 (enc (WldR.mk a0 s_a0_1 s_a0_2 s_a0_3)) 95) :: L) (fun Fx L' v => ∃ (rs6 : List ProcessR) (s9 : Sl) (s10 : Sl), v = iv r.2.2.2 ∧ L' = (.own s10 9 1 (encs r.2.2.1.way)) :: (.rows (α := Saying) 62 (List.map ProcessR.row rs6)) :: (.own s_a0_1 100 8 (encs rs6)) :: (.own s9 9 1 (encs r.2.1)) :: (.blk b_a0 (enc (WldR.mk ({ r.2.2.1 with all := r.1, ordered := r.2.1 } : Wld) s_a0_1 s9 s10)) 95) :: L ∧ rs6.map ProcessR.v = r.1 ∧ All ProcessR.frel w0 Fx [] rs6) := by
 unfold world_World_Move at H
 refine Ok.enter (m := 3) (n := 95) Tryz.func32 rfl rfl rfl (by decide) ?_
 refine Cd.env (e' := [(0, pv b_a0 0), (1, iv a1), (2, iv a2)]) rfl ?_
 refine sr0 ?_
 refine Lst.r (Ev.assign rfl) ?_
 refine nt0 ?_
 refine Cd.seq ?_
 refine Cd.block ?_
 refine sr0 ?_
 refine mv0 rfl ?_
 obtain ⟨r6, h7, H⟩ := bind_some H
 refine Lst.call1 rfl rfl (by decide) (vs := [iv a2, iv (1 : Int), iv (3 : Int)]) ⟨rfl, rfl, rfl, trivial⟩ Tryz.call34 (world_in_sim h7 w0 _ M _ (sc4 (sc1 hM))) ?_
 refine Lst.r (Ev.not rfl) ?_
 refine Lst.r (Ev.assign rfl) ?_
 refine nt0 ?_
 rcases Bool.eq_false_or_eq_true (!r6) with hb10 | hb10
 ·replace H := ite_t hb10 H
  refine Cd.condT rfl hb10 ?_
  refine sr0 ?_
  refine Lst.r (Ev.assign rfl) ?_
  refine nt0 ?_
  obtain rfl := some_inj H
  refine Cd.ret ?_
  refine At.in_ret ?_
  refine At.then_ret ?_
  refine At.front (i := 3) rfl (L' := (.own s_a0_3 9 1 (encs a0.way)) :: (.rows (α := Saying) 62 (List.map ProcessR.row rs_a0_1)) :: (.own s_a0_1 100 8 (encs rs_a0_1)) :: (.own s_a0_2 9 1 (encs a0.ordered)) :: (.blk b_a0 (enc (WldR.mk a0 s_a0_1 s_a0_2 s_a0_3)) 95) :: L) rfl ?_
  exact At.ret1 rfl (Res.tmp rfl) fl (sk1 (sk1 (sk1 (sk1 (sk1 (.refl _)))))) ⟨rs_a0_1, s_a0_2, s_a0_3, rfl, rfl, hm_a0_1, (All.monoProcessF ha_a0_1 fl (List.nil_sublist _))⟩
 replace H := ite_f hb10 H
 refine Cd.condF rfl hb10 ?_
 refine sr0 ?_
 refine mv0 rfl ?_
 refine mv0 rfl ?_
 refine Lst.r (Ev.nilCheck rfl) ?_
 refine Lst.r (Ev.fieldAddr (off' := 4) rfl Tryz.runUnderlying95 rfl Tryz.sizeOf43 rfl rfl) ?_
 refine Lst.r (Ev.load (i := 4) rfl rfl Tryz.isAgg43 (v := Sl.v s_a0_3) ((WldR.get_way gh0).off (by rfl))) ?_
 refine Lst.r (Ev.lenS (α := Str) (xs := a0.way) (by decide) rfl rfl Tryz.runUnderlying43 (rdo 3 rfl rfl rfl)) ?_
 refine Lst.r (Ev.sub rfl rfl) ?_
 obtain ⟨r11, h12, H⟩ := bind_some H
 refine Lst.call1 rfl rfl (by decide) (vs := [iv a1, iv (0 : Int), iv (w64 ((a0.way.length : Int) - (1 : Int)))]) ⟨rfl, rfl, rfl, trivial⟩ Tryz.call34 (world_in_sim h12 w0 _ M _ (sc4 (sc1 hM))) ?_
 refine Lst.r (Ev.not rfl) ?_
 refine Lst.r (Ev.assign rfl) ?_
 refine nt0 ?_
 rcases Bool.eq_false_or_eq_true (!r11) with hb15 | hb15
 ·replace H := ite_t hb15 H
  refine Cd.condT rfl hb15 ?_
  refine Cd.seq ?_
  refine Cd.as (e' := []) (L' := (.rows (α := Saying) 62 (List.map ProcessR.row rs_a0_1)) :: (.own s_a0_1 100 8 (encs rs_a0_1)) :: (.own s_a0_2 9 1 (encs a0.ordered)) :: (.own s_a0_3 9 1 (encs a0.way)) :: (.blk b_a0 (enc (WldR.mk a0 s_a0_1 s_a0_2 s_a0_3)) 95) :: L) trivial rfl ?_
  refine Cd.region ?_
  refine Lst.r (Ev.assign rfl) ?_
  refine nt0 ?_
  obtain rfl := some_inj H
  refine Cd.ret ?_
  refine At.in_ret ?_
  refine At.then_ret ?_
  refine At.front (i := 3) rfl (L' := (.own s_a0_3 9 1 (encs a0.way)) :: (.rows (α := Saying) 62 (List.map ProcessR.row rs_a0_1)) :: (.own s_a0_1 100 8 (encs rs_a0_1)) :: (.own s_a0_2 9 1 (encs a0.ordered)) :: (.blk b_a0 (enc (WldR.mk a0 s_a0_1 s_a0_2 s_a0_3)) 95) :: L) rfl ?_
  exact At.ret1 rfl (Res.tmp rfl) fl (sk1 (sk1 (sk1 (sk1 (sk1 (.refl _)))))) ⟨rs_a0_1, s_a0_2, s_a0_3, rfl, rfl, hm_a0_1, (All.monoProcessF ha_a0_1 fl (List.nil_sublist _))⟩
 replace H := ite_f hb15 H
 refine Cd.condF rfl hb15 ?_
 refine Cd.seq ?_
 refine Cd.as (e' := [(0, pv b_a0 0), (1, iv a1), (2, iv a2)]) (L' := (.rows (α := Saying) 62 (List.map ProcessR.row rs_a0_1)) :: (.own s_a0_1 100 8 (encs rs_a0_1)) :: (.own s_a0_2 9 1 (encs a0.ordered)) :: (.own s_a0_3 9 1 (encs a0.way)) :: (.blk b_a0 (enc (WldR.mk a0 s_a0_1 s_a0_2 s_a0_3)) 95) :: L) ⟨rfl, rfl, rfl, trivial⟩ rfl ?_
 refine Cd.region ?_
 refine mv0 rfl ?_
 refine Lst.r (Ev.eql rfl rfl) ?_
 refine mv0 rfl ?_
 obtain ⟨o16, H, HKo16⟩ := bind_some H
 refine Lst.join (σ := Bool) 7 (fun y17 => [(0, pv b_a0 0), (1, iv a1), (2, iv a2), (34, .bool y17)]) (fun y17 => (.rows (α := Saying) 62 (List.map ProcessR.row rs_a0_1)) :: (.own s_a0_1 100 8 (encs rs_a0_1)) :: (.own s_a0_2 9 1 (encs a0.ordered)) :: (.own s_a0_3 9 1 (encs a0.way)) :: (.blk b_a0 (enc (WldR.mk a0 s_a0_1 s_a0_2 s_a0_3)) 95) :: L) (fun _ y17 => y17 = o16) ?_ ?_
 ·rcases (Bool.eq_false_or_eq_true (a2 == (3 : Int))).symm with hb18 | hb18
  ·replace H := ite_f hb18 H
   refine Lst.skip rfl rfl rfl hb18 rfl (by decide) ?_
   refine Lst.skip rfl rfl rfl hb18 rfl (by decide) ?_
   refine Lst.skip rfl rfl rfl hb18 rfl (by decide) ?_
   refine Lst.skip rfl rfl rfl hb18 rfl (by decide) ?_
   refine Lst.skip rfl rfl rfl hb18 rfl (by decide) ?_
   refine Lst.skip rfl rfl rfl hb18 rfl (by decide) ?_
   refine Lst.r (Ev.pickF rfl hb18 rfl) ?_
   refine Lst.nil ?_
   exact At.meet false fl ⟨rfl, rfl, rfl, rfl, trivial⟩ rfl (some_inj H)
  replace H := ite_t hb18 H
  refine Lst.rG hb18 (Ev.move rfl) ?_
  refine Lst.rG hb18 (Ev.nilCheck rfl) ?_
  refine Lst.rG hb18 (Ev.fieldAddr (off' := 4) rfl Tryz.runUnderlying95 rfl Tryz.sizeOf43 rfl rfl) ?_
  refine Lst.rG hb18 (Ev.load (i := 4) rfl rfl Tryz.isAgg43 (v := Sl.v s_a0_3) ((WldR.get_way gh0).off (by rfl))) ?_
  refine Lst.rG hb18 (Ev.lenS (α := Str) (xs := a0.way) (by decide) rfl rfl Tryz.runUnderlying43 (rdo 3 rfl rfl rfl)) ?_
  refine Lst.rG hb18 (Ev.eql rfl rfl) ?_
  refine Lst.r (Ev.pickT rfl hb18 rfl) ?_
  refine Lst.nil ?_
  exact At.meet ((a0.way.length : Int) == (60 : Int)) fl ⟨rfl, rfl, rfl, rfl, trivial⟩ rfl (some_inj H)
 rintro F19 y17 hF20 hy
 subst hy
 refine Lst.as (e' := [(0, pv b_a0 0), (1, iv a1), (2, iv a2), (34, .bool y17)]) (L' := (.rows (α := Saying) 62 (List.map ProcessR.row rs_a0_1)) :: (.own s_a0_1 100 8 (encs rs_a0_1)) :: (.own s_a0_2 9 1 (encs a0.ordered)) :: (.own s_a0_3 9 1 (encs a0.way)) :: (.blk b_a0 (enc (WldR.mk a0 s_a0_1 s_a0_2 s_a0_3)) 95) :: L) ⟨rfl, rfl, rfl, rfl, trivial⟩ rfl ?_
 replace H := HKo16
 refine Lst.r (Ev.assign rfl) ?_
 refine nt0 ?_
 rcases Bool.eq_false_or_eq_true y17 with hb21 | hb21
 ·replace H := ite_t hb21 H
  refine Cd.condT rfl hb21 ?_
  refine sr0 ?_
  refine Lst.r (Ev.assign rfl) ?_
  refine nt0 ?_
  obtain rfl := some_inj H
  refine Cd.ret ?_
  refine At.in_ret ?_
  refine At.then_ret ?_
  refine At.front (i := 3) rfl (L' := (.own s_a0_3 9 1 (encs a0.way)) :: (.rows (α := Saying) 62 (List.map ProcessR.row rs_a0_1)) :: (.own s_a0_1 100 8 (encs rs_a0_1)) :: (.own s_a0_2 9 1 (encs a0.ordered)) :: (.blk b_a0 (enc (WldR.mk a0 s_a0_1 s_a0_2 s_a0_3)) 95) :: L) rfl ?_
  exact At.ret1 rfl (Res.tmp rfl) hF20 (sk1 (sk1 (sk1 (sk1 (sk1 (.refl _)))))) ⟨rs_a0_1, s_a0_2, s_a0_3, rfl, rfl, hm_a0_1, (All.monoProcessF ha_a0_1 hF20 (List.nil_sublist _))⟩
 replace H := ite_f hb21 H
 refine Cd.condF rfl hb21 ?_
 refine Cd.skip ?_
 refine At.in_normal ?_
 refine At.then ?_
 refine sr0 ?_
 refine mv0 rfl ?_
 refine Lst.r (Ev.nilCheck rfl) ?_
 refine Lst.r (Ev.fieldAddr (off' := 4) rfl Tryz.runUnderlying95 rfl Tryz.sizeOf43 rfl rfl) ?_
 refine Lst.r (Ev.load (i := 4) rfl rfl Tryz.isAgg43 (v := Sl.v s_a0_3) ((WldR.get_way gh0).off (by rfl))) ?_
 refine mv0 rfl ?_
 obtain ⟨x22, h23, H⟩ := bind_some H
 have g24 := lat_some h23
 refine Lst.r (Ev.indexS (α := Str) (xs := a0.way) rfl rfl Tryz.runUnderlying43 Tryz.sizeOf9 rfl (by decide) (rdo 3 rfl rfl rfl) g24.1 g24.2.1) ?_
 refine Lst.r (Ev.loadS (α := Str) rfl (rdo 3 rfl rfl rfl) Tryz.isAgg9 (v := Str.v x22) ((Get.elemN (s := 1) (x := x22) rfl g24.2.2 gh0).off (by omega))) ?_
 refine Lst.r (Ev.assign rfl) ?_
 refine nt0 ?_
 refine Cd.seq ?_
 refine sr0 ?_
 refine mv0 rfl ?_
 refine Lst.r (Ev.eql rfl rfl) ?_
 refine nt0 ?_
 rcases Bool.eq_false_or_eq_true (a2 == (3 : Int)) with hb25 | hb25
 ·replace H := ite_t hb25 H
  refine Cd.condT rfl hb25 ?_
  refine sr0 ?_
  refine mv0 rfl ?_
  refine mv0 rfl ?_
  refine Lst.r (Ev.nilCheck rfl) ?_
  refine Lst.r (Ev.fieldAddr (off' := 4) rfl Tryz.runUnderlying95 rfl Tryz.sizeOf43 rfl rfl) ?_
  refine Lst.r (Ev.load (i := 4) rfl rfl Tryz.isAgg43 (v := Sl.v s_a0_3) ((WldR.get_way gh0).off (by rfl))) ?_
  refine mv0 rfl ?_
  refine Lst.buildSlice (α := Str) (xs := ([x22] : List Str)) (pv := [(0, Str.v x22)]) rfl rfl (by decide) ⟨rfl, rfl, trivial⟩ (run_buildSlice (α := Str) (z0 := ([] : Str)) (xs := ([x22] : List Str)) Tryz.runUnderlying43 Tryz.sizeOf9 Tryz.zeroValue9 rfl rfl rfl (by decide) rfl (fill_cons (cs := encs (List.replicate 1 ([] : Str))) (cs' := encs ((List.replicate 1 ([] : Str)).set 0 x22)) (vs := [Str.v x22]) rfl rfl rfl ((Put.elemN (s := 1) (i := 0) (x := ([] : Str)) (y := x22) rfl rfl (Put.here (vs := [Str.v x22]) rfl)).off rfl) fill_nil)) rfl rfl (by decide) (fun s26 _ => ?_)
  obtain ⟨u28, h29, H⟩ := bind_some H
  refine Lst.append (i := 4) (α := Str) (xs := a0.way) (ys := ([x22] : List Str)) rfl rfl (by decide) rfl rfl Tryz.runUnderlying43 Tryz.typeInfo9 rfl rfl rfl rfl rfl rfl (rdo 0 rfl rfl rfl) rfl (room_some h29) rfl (fun s30 => ?_)
  refine Lst.its (L' := (.own s26 9 1 (encs ([x22] : List Str))) :: (.rows (α := Saying) 62 (List.map ProcessR.row rs_a0_1)) :: (.own s_a0_1 100 8 (encs rs_a0_1)) :: (.own s_a0_2 9 1 (encs a0.ordered)) :: (.own s30 9 1 (encs (a0.way ++ ([x22] : List Str)))) :: (.blk b_a0 (enc (WldR.mk a0 s_a0_1 s_a0_2 s_a0_3)) 95) :: L) rfl ?_
  refine Lst.r (Ev.nilCheck rfl) ?_
  refine Lst.r (Ev.fieldAddr (off' := 4) rfl Tryz.runUnderlying95 rfl Tryz.sizeOf43 rfl rfl) ?_
  refine Lst.store (i := 5) rfl rfl rfl rfl rfl Tryz.sizeOf43 (vs := [Sl.v s30]) rfl rfl rfl (cs' := enc (WldR.mk ({ a0 with way := a0.way ++ ([x22] : List Str) } : Wld) s_a0_1 s_a0_2 s30)) ((WldR.put_way (Put.here (vs := [Sl.v s30]) rfl)).off (by rfl)) (L' := (.own s26 9 1 (encs ([x22] : List Str))) :: (.rows (α := Saying) 62 (List.map ProcessR.row rs_a0_1)) :: (.own s_a0_1 100 8 (encs rs_a0_1)) :: (.own s_a0_2 9 1 (encs a0.ordered)) :: (.own s30 9 1 (encs (a0.way ++ ([x22] : List Str)))) :: (.blk b_a0 (enc (WldR.mk ({ a0 with way := a0.way ++ ([x22] : List Str) } : Wld) s_a0_1 s_a0_2 s30)) 95) :: L) rfl ?_
  refine nt0 ?_
  refine Cd.seq ?_
  refine Cd.as (e' := []) (L' := (.own s26 9 1 (encs ([x22] : List Str))) :: (.rows (α := Saying) 62 (List.map ProcessR.row rs_a0_1)) :: (.own s_a0_1 100 8 (encs rs_a0_1)) :: (.own s_a0_2 9 1 (encs a0.ordered)) :: (.own s30 9 1 (encs (a0.way ++ ([x22] : List Str)))) :: (.blk b_a0 (enc (WldR.mk ({ a0 with way := a0.way ++ ([x22] : List Str) } : Wld) s_a0_1 s_a0_2 s30)) 95) :: L) trivial rfl ?_
  refine Cd.region ?_
  refine Lst.r (Ev.assign rfl) ?_
  refine nt0 ?_
  obtain rfl := some_inj H
  refine Cd.ret ?_
  refine At.then_ret ?_
  refine At.front (i := 4) rfl (L' := (.own s30 9 1 (encs (a0.way ++ ([x22] : List Str)))) :: (.own s26 9 1 (encs ([x22] : List Str))) :: (.rows (α := Saying) 62 (List.map ProcessR.row rs_a0_1)) :: (.own s_a0_1 100 8 (encs rs_a0_1)) :: (.own s_a0_2 9 1 (encs a0.ordered)) :: (.blk b_a0 (enc (WldR.mk ({ a0 with way := a0.way ++ ([x22] : List Str) } : Wld) s_a0_1 s_a0_2 s30)) 95) :: L) rfl ?_
  exact At.ret1 rfl (Res.tmp rfl) hF20 (sk1 (sc1 (sk1 (sk1 (sk1 (sk1 (.refl _))))))) ⟨rs_a0_1, s_a0_2, s30, rfl, rfl, hm_a0_1, (All.monoProcessF ha_a0_1 hF20 (List.nil_sublist _))⟩
 replace H := ite_f hb25 H
 refine Cd.condF rfl hb25 ?_
 refine Cd.skip ?_
 refine At.then ?_
 refine sr0 ?_
 refine mv0 rfl ?_
 refine mv0 rfl ?_
 refine Lst.r (Ev.nilCheck rfl) ?_
 refine Lst.r (Ev.fieldAddr (off' := 4) rfl Tryz.runUnderlying95 rfl Tryz.sizeOf43 rfl rfl) ?_
 refine Lst.r (Ev.load (i := 4) rfl rfl Tryz.isAgg43 (v := Sl.v s_a0_3) ((WldR.get_way gh0).off (by rfl))) ?_
 refine mv0 rfl ?_
 refine mv0 rfl ?_
 refine Lst.r (Ev.add rfl rfl) ?_
 obtain ⟨r31, h32, H⟩ := bind_some H
 refine Lst.front (i := 3) rfl (L' := (.own s_a0_3 9 1 (encs a0.way)) :: (.rows (α := Saying) 62 (List.map ProcessR.row rs_a0_1)) :: (.own s_a0_1 100 8 (encs rs_a0_1)) :: (.own s_a0_2 9 1 (encs a0.ordered)) :: (.blk b_a0 (enc (WldR.mk a0 s_a0_1 s_a0_2 s_a0_3)) 95) :: L) rfl ?_
 refine Lst.call rfl rfl (by decide) (vs := [Sl.v s_a0_3, iv a1, iv (w64 (a1 + (1 : Int)))]) ⟨rfl, rfl, rfl, trivial⟩ Tryz.call63 (slices_Delete_string_string_sim h32 w0 _ M _ (sc4 hM)) (fun F35 L' v hF36 hv => ?_)
 obtain ⟨s33, rfl, rfl⟩ := hv
 refine Lst.r (Ev.nilCheck rfl) ?_
 refine Lst.r (Ev.fieldAddr (off' := 4) rfl Tryz.runUnderlying95 rfl Tryz.sizeOf43 rfl rfl) ?_
 refine Lst.store (i := 4) rfl rfl rfl rfl rfl Tryz.sizeOf43 (vs := [Sl.v s33]) rfl rfl rfl (cs' := enc (WldR.mk ({ a0 with way := r31 } : Wld) s_a0_1 s_a0_2 s33)) ((WldR.put_way (Put.here (vs := [Sl.v s33]) rfl)).off (by rfl)) (L' := (.own s33 9 1 (encs r31)) :: (.rows (α := Saying) 62 (List.map ProcessR.row rs_a0_1)) :: (.own s_a0_1 100 8 (encs rs_a0_1)) :: (.own s_a0_2 9 1 (encs a0.ordered)) :: (.blk b_a0 (enc (WldR.mk ({ a0 with way := r31 } : Wld) s_a0_1 s_a0_2 s33)) 95) :: L) rfl ?_
 refine nt0 ?_
 refine Cd.seq ?_
 refine Cd.as (e' := [(0, pv b_a0 0), (2, iv a2), (7, Str.v x22)]) (L' := (.own s33 9 1 (encs r31)) :: (.rows (α := Saying) 62 (List.map ProcessR.row rs_a0_1)) :: (.own s_a0_1 100 8 (encs rs_a0_1)) :: (.own s_a0_2 9 1 (encs a0.ordered)) :: (.blk b_a0 (enc (WldR.mk ({ a0 with way := r31 } : Wld) s_a0_1 s_a0_2 s33)) 95) :: L) ⟨rfl, rfl, rfl, trivial⟩ rfl ?_
 refine Cd.region ?_
 refine mv0 rfl ?_
 obtain ⟨r37, h38, H⟩ := bind_some H
 refine Lst.call1 rfl rfl (by decide) (vs := [Str.v x22]) ⟨rfl, trivial⟩ Tryz.call64 (wire_Read_sim h38 w0 _ M _ (sc4 (sc1 hM))) ?_
 refine mv0 rfl ?_
 refine Lst.r (Ev.extract rfl rfl) ?_
 refine Lst.r (Ev.extract rfl rfl) ?_
 refine Lst.alloc (cs := enc Note.zero) rfl rfl (by decide) Tryz.zeroValue132 rfl (fun b41 => ?_)
 refine Lst.store (i := 0) rfl rfl rfl rfl rfl Tryz.sizeOf132 (vs := enc r37.1) rfl (Enc.len _) (Enc.one _) (cs' := enc r37.1) (Put.here ((Enc.len _).trans (Enc.len _).symm)) (L' := (.blk b41 (enc r37.1) 132) :: (.own s33 9 1 (encs r31)) :: (.rows (α := Saying) 62 (List.map ProcessR.row rs_a0_1)) :: (.own s_a0_1 100 8 (encs rs_a0_1)) :: (.own s_a0_2 9 1 (encs a0.ordered)) :: (.blk b_a0 (enc (WldR.mk ({ a0 with way := r31 } : Wld) s_a0_1 s_a0_2 s33)) 95) :: L) rfl ?_
 refine Lst.r (Ev.assign rfl) ?_
 refine nt0 ?_
 obtain ⟨o52, H, HKo52⟩ := bind_some H
 refine Cd.join (σ := Wld × Sl × (List Str) × (List Procs) × (List ProcessR) × Sl × (List Str)) (fun (y43, s44, l45, l46, rs47, s50, l51) => []) (fun (y43, s44, l45, l46, rs47, s50, l51) => (.blk b41 (enc r37.1) 132) :: (.own s44 9 1 (encs l45)) :: (.rows (α := Saying) 62 (List.map ProcessR.row rs47)) :: (.own s_a0_1 100 8 (encs rs47)) :: (.own s50 9 1 (encs l51)) :: (.blk b_a0 (enc (WldR.mk ({ y43 with all := l46, ordered := l51, way := l45 } : Wld) s_a0_1 s50 s44)) 95) :: L) (fun Fx (y43, s44, l45, l46, rs47, s50, l51) => (y43, l45, l46, l51) = o52 ∧ rs47.map ProcessR.v = l46 ∧ All ProcessR.frel w0 Fx [] rs47) ?_ ?_
 ·refine Cd.seq ?_
  refine Cd.quiet (by kernel_rfl) (by kernel_rfl) ?_
  refine Qt.r (Ev.move rfl) ?_
  refine Qt.r (Ev.eql rfl rfl) ?_
  refine Qt.r (Ev.move rfl) ?_
  obtain ⟨o53, H, HKo53⟩ := bind_some H
  refine Qt.join (σ := Bool) 3 (fun y54 => [(0, pv b_a0 0), (8, pv b41 0), (75, .bool y54)]) (fun y54 => y54 = o53) ?_ ?_
  ·rcases (Bool.eq_false_or_eq_true (a2 == (1 : Int))).symm with hb55 | hb55
   ·replace H := ite_f hb55 H
    refine Qt.skip rfl rfl rfl hb55 rfl (by decide) ?_
    refine Qt.skip rfl rfl rfl hb55 rfl (by decide) ?_
    refine Qt.r (Ev.pickF rfl hb55 rfl) ?_
    exact Qt.meet false ⟨rfl, rfl, rfl, trivial⟩ (some_inj H)
   replace H := ite_t hb55 H
   refine Qt.rG hb55 (Ev.move rfl) ?_
   refine Qt.rG hb55 (Ev.eql rfl rfl) ?_
   refine Qt.r (Ev.pickT rfl hb55 rfl) ?_
   exact Qt.meet (r37.2 == (0 : Int)) ⟨rfl, rfl, rfl, trivial⟩ (some_inj H)
  rintro y54 hy
  subst hy
  refine Qt.as (e' := [(0, pv b_a0 0), (8, pv b41 0), (75, .bool y54)]) ⟨rfl, rfl, rfl, trivial⟩ ?_
  replace H := HKo53
  refine Qt.r (Ev.move rfl) ?_
  obtain ⟨o56, H, HKo56⟩ := bind_some H
  refine Qt.join (σ := Bool) 9 (fun y57 => [(0, pv b_a0 0), (8, pv b41 0), (85, .bool y57)]) (fun y57 => y57 = o56) ?_ ?_
  ·rcases (Bool.eq_false_or_eq_true y54).symm with hb58 | hb58
   ·replace H := ite_f hb58 H
    refine Qt.skip rfl rfl rfl hb58 rfl (by decide) ?_
    refine Qt.skip rfl rfl rfl hb58 rfl (by decide) ?_
    refine Qt.skip rfl rfl rfl hb58 rfl (by decide) ?_
    refine Qt.skip rfl rfl rfl hb58 rfl (by decide) ?_
    refine Qt.skip rfl rfl rfl hb58 rfl (by decide) ?_
    refine Qt.skip rfl rfl rfl hb58 rfl (by decide) ?_
    refine Qt.skip rfl rfl rfl hb58 rfl (by decide) ?_
    refine Qt.skip rfl rfl rfl hb58 rfl (by decide) ?_
    refine Qt.r (Ev.pickF rfl hb58 rfl) ?_
    exact Qt.meet false ⟨rfl, rfl, rfl, trivial⟩ (some_inj H)
   replace H := ite_t hb58 H
   refine Qt.rG hb58 (Ev.fieldAddr (off' := 3) rfl Tryz.runUnderlying132 rfl Tryz.sizeOf3 rfl rfl) ?_
   refine Qt.rG hb58 (Ev.load (i := 0) rfl rfl Tryz.isAgg3 (v := iv r37.1.View) ((Note.get_View gh0).off (by rfl))) ?_
   refine Qt.rG hb58 (Ev.move rfl) ?_
   refine Qt.rG hb58 (Ev.nilCheck rfl) ?_
   refine Qt.rG hb58 (Ev.fieldAddr (off' := 0) rfl Tryz.runUnderlying95 rfl Tryz.sizeOf34 rfl rfl) ?_
   refine Qt.rG hb58 (Ev.fieldAddr (off' := 0) rfl Tryz.runUnderlying34 rfl Tryz.sizeOf3 rfl rfl) ?_
   refine Qt.rG hb58 (Ev.load (i := 5) rfl rfl Tryz.isAgg3 (v := iv a0.view.Num) ((WldR.get_view (View.get_Num gh0)).off (by rfl))) ?_
   refine Qt.rG hb58 (Ev.eql rfl rfl) ?_
   refine Qt.r (Ev.pickT rfl hb58 rfl) ?_
   exact Qt.meet (r37.1.View == a0.view.Num) ⟨rfl, rfl, rfl, trivial⟩ (some_inj H)
  rintro y57 hy
  subst hy
  refine Qt.as (e' := [(0, pv b_a0 0), (8, pv b41 0), (85, .bool y57)]) ⟨rfl, rfl, rfl, trivial⟩ ?_
  replace H := HKo56
  refine Qt.r (Ev.move rfl) ?_
  obtain ⟨o59, H, HKo59⟩ := bind_some H
  refine Qt.join (σ := Bool) 5 (fun y60 => [(0, pv b_a0 0), (8, pv b41 0), (91, .bool y60)]) (fun y60 => y60 = o59) ?_ ?_
  ·rcases (Bool.eq_false_or_eq_true y57).symm with hb61 | hb61
   ·replace H := ite_f hb61 H
    refine Qt.skip rfl rfl rfl hb61 rfl (by decide) ?_
    refine Qt.skip rfl rfl rfl hb61 rfl (by decide) ?_
    refine Qt.skip rfl rfl rfl hb61 rfl (by decide) ?_
    refine Qt.skip rfl rfl rfl hb61 rfl (by decide) ?_
    refine Qt.r (Ev.pickF rfl hb61 rfl) ?_
    exact Qt.meet false ⟨rfl, rfl, rfl, trivial⟩ (some_inj H)
   replace H := ite_t hb61 H
   refine Qt.rG hb61 (Ev.move rfl) ?_
   refine Qt.rG hb61 (Ev.fieldAddr (off' := 2) rfl Tryz.runUnderlying132 rfl Tryz.sizeOf3 rfl rfl) ?_
   refine Qt.rG hb61 (Ev.load (i := 0) rfl rfl Tryz.isAgg3 (v := iv r37.1.To) ((Note.get_To gh0).off (by rfl))) ?_
   obtain ⟨r62, h63, H⟩ := bind_some H
   refine Qt.callG rfl rfl rfl hb61 rfl (by decide) (vs := [pv b_a0 0, iv r37.1.To]) ⟨rfl, rfl, trivial⟩ Tryz.call65 (Ok.isPerm (List.Perm.trans (front_perm (i := 5) rfl) (List.Perm.trans (front_perm (i := 2) rfl) (List.Perm.trans (front_perm (i := 5) rfl) (List.Perm.trans (front_perm (i := 5) rfl) (front_perm (i := 5) rfl))))) (world_World_active_sim h63 w0 _ M _ (sc1 hM) hm_a0_1 (All.monoProcessF ha_a0_1 (FLe.trans hF20 hF36) (List.nil_sublist _)))) ?_
   refine Qt.r (Ev.pickT rfl hb61 rfl) ?_
   exact Qt.meet r62 ⟨rfl, rfl, rfl, trivial⟩ (some_inj H)
  rintro y60 hy
  subst hy
  refine Qt.as (e' := [(0, pv b_a0 0), (8, pv b41 0), (91, .bool y60)]) ⟨rfl, rfl, rfl, trivial⟩ ?_
  replace H := HKo59
  refine Qt.done ?_
  refine At.then ?_
  rcases (Bool.eq_false_or_eq_true y60).symm with hb66 | hb66
  ·replace H := ite_f hb66 H
   refine Cd.condF rfl hb66 ?_
   refine Cd.skip ?_
   exact At.meet (({ a0 with way := r31 } : Wld), s33, r31, a0.all, rs_a0_1, s_a0_2, a0.ordered) fl trivial rfl ⟨some_inj H, hm_a0_1, (All.monoProcessF ha_a0_1 (FLe.trans hF20 hF36) (List.nil_sublist _))⟩
  replace H := ite_t hb66 H
  refine Cd.condT rfl hb66 ?_
  refine Cd.region ?_
  refine mv0 rfl ?_
  refine Lst.r (Ev.loadA (i := 0) rfl rfl Tryz.isAgg132 Tryz.sizeOf132 (ch := enc r37.1) (Enc.len _) gh0) ?_
  obtain ⟨r67, h68, H⟩ := bind_some H
  refine Lst.front (i := 5) rfl rfl ?_
  refine Lst.front (i := 2) rfl rfl ?_
  refine Lst.front (i := 5) rfl (L' := (.own s_a0_2 9 1 (encs a0.ordered)) :: (.own s33 9 1 (encs r31)) :: (.blk b_a0 (enc (WldR.mk ({ a0 with way := r31 } : Wld) s_a0_1 s_a0_2 s33)) 95) :: (.blk b41 (enc r37.1) 132) :: (.rows (α := Saying) 62 (List.map ProcessR.row rs_a0_1)) :: (.own s_a0_1 100 8 (encs rs_a0_1)) :: L) rfl ?_
  refine Lst.front (i := 5) rfl rfl ?_
  refine Lst.front (i := 5) rfl (L' := (.rows (α := Saying) 62 (List.map ProcessR.row rs_a0_1)) :: (.own s_a0_1 100 8 (encs rs_a0_1)) :: (.own s_a0_2 9 1 (encs a0.ordered)) :: (.own s33 9 1 (encs r31)) :: (.blk b_a0 (enc (WldR.mk ({ a0 with way := r31 } : Wld) s_a0_1 s_a0_2 s33)) 95) :: (.blk b41 (enc r37.1) 132) :: L) rfl ?_
  refine Lst.call rfl rfl (by decide) (vs := [pv b_a0 0, .agg (enc r37.1).toArray]) ⟨rfl, rfl, trivial⟩ Tryz.call66 (world_World_deliver_sim h68 w0 _ M _ (sc1 hM) hT hm_a0_1 (All.monoProcessF ha_a0_1 (FLe.trans hF20 hF36) (List.nil_sublist _))) (fun F74 L' v hF75 hv => ?_)
  obtain ⟨rs69, s72, s73, rfl, rfl, fm70, fa71⟩ := hv
  refine Lst.nil ?_
  refine At.front (i := 3) rfl rfl ?_
  refine At.front (i := 5) rfl (L' := (.blk b41 (enc r37.1) 132) :: (.own s73 9 1 (encs r67.2.2.1)) :: (.rows (α := Saying) 62 (List.map ProcessR.row rs69)) :: (.own s_a0_1 100 8 (encs rs69)) :: (.own s72 9 1 (encs r67.2.1)) :: (.blk b_a0 (enc (WldR.mk ({ r67.2.2.2 with all := r67.1, ordered := r67.2.1, way := r67.2.2.1 } : Wld) s_a0_1 s72 s73)) 95) :: L) rfl ?_
  exact At.meet (({ r67.2.2.2 with all := r67.1, ordered := r67.2.1, way := r67.2.2.1 } : Wld), s73, r67.2.2.1, r67.1, rs69, s72, r67.2.1) hF75 trivial rfl ⟨some_inj H, fm70, (All.monoProcessF fa71 fl (List.nil_sublist _))⟩
 rintro F76 ⟨y43, s44, l45, l46, rs47, s50, l51⟩ hF77 ⟨hy, fm48, fa49⟩
 subst hy
 refine Cd.as (e' := []) (L' := (.blk b41 (enc r37.1) 132) :: (.own s44 9 1 (encs l45)) :: (.rows (α := Saying) 62 (List.map ProcessR.row rs47)) :: (.own s_a0_1 100 8 (encs rs47)) :: (.own s50 9 1 (encs l51)) :: (.blk b_a0 (enc (WldR.mk ({ y43 with all := l46, ordered := l51, way := l45 } : Wld) s_a0_1 s50 s44)) 95) :: L) trivial rfl ?_
 replace H := HKo52
 try dsimp only [Sum.elim_inl] at H
 refine sr0 ?_
 refine Lst.r (Ev.assign rfl) ?_
 refine nt0 ?_
 obtain rfl := some_inj H
 refine Cd.ret ?_
 exact At.ret1 rfl (Res.tmp rfl) (FLe.trans (FLe.trans hF20 hF36) hF77) (sc1 (sk1 (sk1 (sk1 (sk1 (sk1 (.refl _))))))) ⟨rs47, s50, s44, rfl, rfl, fm48, (All.monoProcessF fa49 fl (List.nil_sublist _))⟩
set_option maxRecDepth 20000 in
theorem slices_Clone_api_Saying_api_Saying_sim {a0 : List Saying} {s_a0 : Sl} {r : (List Saying)} (H : slices_Clone_api_Saying_api_Saying a0 = some r) (w0 : World) (F : Frz) (M L : List Item) (hM : M.Sublist L) (hs_a0 : Rd w0 F M s_a0 a0) : Ok Tryz.prog w0 44 [Sl.v s_a0] F (L) (fun _ L' v => ∃ (s1 : Sl), v = Sl.v s1 ∧ L' = (.own s1 62 2 (encs r)) :: L) := by
 unfold slices_Clone_api_Saying_api_Saying at H
 refine Ok.enter (m := 1) (n := 8) Tryz.func44 rfl rfl rfl (by decide) ?_
 refine Cd.env (e' := [(0, Sl.v s_a0)]) rfl ?_
 refine sr0 ?_
 refine Lst.addNil 62 2 ?_
 refine Lst.r (Ev.assign rfl) ?_
 refine nt0 ?_
 refine Cd.seq ?_
 refine sr0 ?_
 refine mv0 rfl ?_
 refine Lst.r (Ev.eqlNil rfl Tryz.runUnderlying37) ?_
 refine nt0 ?_
 rcases Bool.eq_false_or_eq_true ((Sl.a s_a0).isNone) with hb2 | hb2
 ·refine Cd.bound (Rd.isNil (α := Saying) (by decide) (hs_a0.mono fl (sc1 hM)) hb2) (fun hx9 => ?_)
  rw [clone_nil hx9] at H
  refine Cd.condT rfl hb2 ?_
  refine sr0 ?_
  refine Lst.addNil 62 2 ?_
  refine Lst.r (Ev.assign rfl) ?_
  refine nt0 ?_
  obtain rfl := some_inj H
  refine Cd.ret ?_
  refine At.then_ret ?_
  exact At.ret1 rfl (Res.tmp rfl) fl (sk1 (sc1 (.refl _))) ⟨Sl.nil, rfl, rfl⟩
 refine Cd.condF rfl hb2 ?_
 refine Cd.skip ?_
 refine At.then ?_
 refine sr0 ?_
 refine Lst.buildSlice0 rfl rfl (by decide) Tryz.runUnderlying37 Tryz.sizeOf62 (fun s3 => ?_)
 refine Lst.its (L' := (.own s3 62 2 (encs ([] : List Saying))) :: (.own Sl.nil 62 2 (encs ([] : List Saying))) :: L) rfl ?_
 refine mv0 rfl ?_
 obtain ⟨u5, h6, H⟩ := bind_some H
 refine Lst.append (i := 0) (α := Saying) (xs := ([] : List Saying)) (ys := a0) rfl rfl (by decide) rfl rfl Tryz.runUnderlying37 Tryz.typeInfo62 rfl rfl rfl rfl rfl rfl (hs_a0.mono fl (sc2 hM)) rfl (room_some h6) rfl (fun s7 => ?_)
 refine Lst.its (L' := (.own s7 62 2 (encs (([] : List Saying) ++ a0))) :: (.own Sl.nil 62 2 (encs ([] : List Saying))) :: L) rfl ?_
 refine Lst.r (Ev.assign rfl) ?_
 refine nt0 ?_
 obtain rfl := some_inj H
 refine Cd.ret ?_
 exact At.ret1 rfl (Res.tmp rfl) fl (sk1 (sc1 (.refl _))) ⟨s7, rfl, rfl⟩
set_option maxRecDepth 20000 in
theorem world_World_Log_sim {a0 : Wld} {a1 : Int} {b_a0 : Nat} {s_a0_1 : Sl} {rs_a0_1 : List ProcessR} {s_a0_2 : Sl} {s_a0_3 : Sl} {r : (List Saying) × Int} (H : world_World_Log a0 a1 = some r) (w0 : World) (F : Frz) (M L : List Item) (hM : M.Sublist L) (hm_a0_1 : rs_a0_1.map ProcessR.v = a0.all) (ha_a0_1 : All ProcessR.frel w0 F [] rs_a0_1) : Ok Tryz.prog w0 15 [pv b_a0 0, iv a1] F ((.rows (α := Saying) 62 (List.map ProcessR.row rs_a0_1)) :: (.own s_a0_1 100 8 (encs rs_a0_1)) :: (.own s_a0_2 9 1 (encs a0.ordered)) :: (.own s_a0_3 9 1 (encs a0.way)) :: (.blk b_a0 (enc (WldR.mk a0 s_a0_1 s_a0_2 s_a0_3)) 95) :: L) (fun _ L' v => ∃ (s6 : Sl), v = .tuple #[Sl.v s6, iv r.2] ∧ L' = (.own s6 62 2 (encs r.1)) :: (.rows (α := Saying) 62 (List.map ProcessR.row rs_a0_1)) :: (.own s_a0_1 100 8 (encs rs_a0_1)) :: (.own s_a0_2 9 1 (encs a0.ordered)) :: (.own s_a0_3 9 1 (encs a0.way)) :: (.blk b_a0 (enc (WldR.mk a0 s_a0_1 s_a0_2 s_a0_3)) 95) :: L) := by
 unfold world_World_Log at H
 refine Ok.enter (m := 2) (n := 22) Tryz.func15 rfl rfl rfl (by decide) ?_
 refine Cd.env (e' := [(0, pv b_a0 0), (1, iv a1)]) rfl ?_
 refine sr0 ?_
 refine Lst.addNil 62 2 ?_
 refine Lst.r (Ev.assign rfl) ?_
 refine Lst.r (Ev.assign rfl) ?_
 refine nt0 ?_
 refine Cd.seq ?_
 refine sr0 ?_
 refine mv0 rfl ?_
 refine mv0 rfl ?_
 obtain ⟨r7, h8, H⟩ := bind_some H
 refine Lst.front (i := 5) rfl rfl ?_
 refine Lst.front (i := 5) rfl rfl ?_
 refine Lst.front (i := 5) rfl (L' := (.own s_a0_2 9 1 (encs a0.ordered)) :: (.own s_a0_3 9 1 (encs a0.way)) :: (.blk b_a0 (enc (WldR.mk a0 s_a0_1 s_a0_2 s_a0_3)) 95) :: (.own Sl.nil 62 2 (encs ([] : List Saying))) :: (.rows (α := Saying) 62 (List.map ProcessR.row rs_a0_1)) :: (.own s_a0_1 100 8 (encs rs_a0_1)) :: L) rfl ?_
 refine Lst.front (i := 5) rfl rfl ?_
 refine Lst.front (i := 5) rfl (L' := (.rows (α := Saying) 62 (List.map ProcessR.row rs_a0_1)) :: (.own s_a0_1 100 8 (encs rs_a0_1)) :: (.own s_a0_2 9 1 (encs a0.ordered)) :: (.own s_a0_3 9 1 (encs a0.way)) :: (.blk b_a0 (enc (WldR.mk a0 s_a0_1 s_a0_2 s_a0_3)) 95) :: (.own Sl.nil 62 2 (encs ([] : List Saying))) :: L) rfl ?_
 refine Lst.call1 rfl rfl (by decide) (vs := [pv b_a0 0, iv a1]) ⟨rfl, rfl, trivial⟩ Tryz.call43 (world_World_known_sim h8 w0 _ M _ (sc1 hM) hm_a0_1 (All.monoProcessF ha_a0_1 fl (List.nil_sublist _))) ?_
 refine Lst.r (Ev.assign rfl) ?_
 refine nsr ?_
 refine mv0 rfl ?_
 refine Lst.r (Ev.neq rfl rfl) ?_
 refine nt0 ?_
 rcases Bool.eq_false_or_eq_true (r7 != (0 : Int)) with hb11 | hb11
 ·replace H := ite_t hb11 H
  refine Cd.condT rfl hb11 ?_
  refine sr0 ?_
  refine mv0 rfl ?_
  refine Lst.addNil 62 2 ?_
  refine Lst.r (Ev.assign rfl) ?_
  refine Lst.r (Ev.assign rfl) ?_
  refine nt0 ?_
  obtain rfl := some_inj H
  refine Cd.ret ?_
  refine At.then_ret ?_
  exact At.ret2 rfl (Res.tmp rfl) (Res.tmp rfl) fl (sk1 (sk1 (sk1 (sk1 (sk1 (sk1 (sc1 (.refl _)))))))) ⟨Sl.nil, rfl, rfl⟩
 replace H := ite_f hb11 H
 refine Cd.condF rfl hb11 ?_
 refine Cd.skip ?_
 refine At.then ?_
 refine sr0 ?_
 refine mv0 rfl ?_
 refine Lst.r (Ev.nilCheck rfl) ?_
 refine Lst.r (Ev.fieldAddr (off' := 2) rfl Tryz.runUnderlying95 rfl Tryz.sizeOf93 rfl rfl) ?_
 refine Lst.r (Ev.load (i := 4) rfl rfl Tryz.isAgg93 (v := Sl.v s_a0_1) ((WldR.get_all gh0).off (by rfl))) ?_
 refine mv0 rfl ?_
 obtain ⟨x13, h14, H⟩ := bind_some H
 have g15 := lat_some h14
 obtain ⟨⟨r16v, r16h1, ⟨r16_2v, r16_2h1⟩, ⟨r16_3v, r16_3h1⟩, ⟨r16_4v, r16_4h1⟩⟩, r16g, r16e, r16m⟩ := map_get hm_a0_1 g15.2.2
 obtain rfl : x13 = r16v := r16e.symm
 have r16q : ProcessR.frel w0 _ _ (ProcessR.mk x13 r16h1 (FromR.mk r16_2v r16_2h1) (ToR.mk r16_3v r16_3h1) (ToR.mk r16_4v r16_4h1)) := ha_a0_1 _ r16m
 obtain ⟨r16_i2, r16_i3, r16_i4⟩ := r16q
 obtain ⟨r16_2e, r16_2q⟩ := r16_i2
 obtain rfl : r16_2v = x13.from_ := r16_2e
 have r16_2_f1 : Rd w0 _ _ _ _ := r16_2q
 obtain ⟨r16_3e, r16_3q⟩ := r16_i3
 obtain rfl : r16_3v = x13.to := r16_3e
 have r16_3_f1 : Rd w0 _ _ _ _ := r16_3q
 obtain ⟨r16_4e, r16_4q⟩ := r16_i4
 obtain rfl : r16_4v = x13.orders := r16_4e
 have r16_4_f1 : Rd w0 _ _ _ _ := r16_4q
 have r16wg := map_at ProcessR.row r16g
 refine Lst.r (Ev.indexS (α := ProcessR) (xs := rs_a0_1) rfl rfl Tryz.runUnderlying93 Tryz.sizeOf100 rfl (by decide) (rdo 1 rfl rfl rfl) g15.1 (by have := map_len hm_a0_1; omega)) ?_
 refine Lst.r (Ev.fieldS (α := ProcessR) (f' := a1.toNat * 8 + 1) rfl (rdo 1 rfl rfl rfl) ((Get.elemN (s := 8) rfl r16g gh0).off (by omega)) rfl Tryz.runUnderlying100 rfl Tryz.sizeOf37 rfl rfl rfl) ?_
 refine Lst.r (Ev.loadS (α := ProcessR) rfl (rdo 1 rfl rfl rfl) Tryz.isAgg37 (v := Sl.v r16h1) ((Get.elemN (s := 8) rfl r16g (ProcessR.get_log gh0)).off (by omega))) ?_
 obtain ⟨r17, h18, H⟩ := bind_some H
 refine Lst.call rfl rfl (by decide) (vs := [Sl.v r16h1]) ⟨rfl, trivial⟩ Tryz.call44 (slices_Clone_api_Saying_api_Saying_sim h18 w0 _ _ _ (.refl _) (Rd.row (j := 0) rfl r16wg)) (fun F21 L' v hF22 hv => ?_)
 obtain ⟨s19, rfl, rfl⟩ := hv
 refine Lst.r (Ev.assign rfl) ?_
 refine Lst.r (Ev.assign rfl) ?_
 refine nt0 ?_
 obtain rfl := some_inj H
 refine Cd.ret ?_
 exact At.ret2 rfl (Res.tmp rfl) (Res.tmp rfl) hF22 (sk1 (sk1 (sk1 (sk1 (sk1 (sk1 (sc1 (.refl _)))))))) ⟨s19, rfl, rfl⟩
set_option maxRecDepth 20000 in
theorem strings_Index_sim {a0 : Str} {a1 : Str} {r : Int} (H : strings_Index a0 a1 = some r) (w0 : World) (F : Frz) (M L : List Item) (hM : M.Sublist L) : Ok Tryz.prog w0 142 [Str.v a0, Str.v a1] F (L) (Is (iv r) (L)) := by
 unfold strings_Index at H
 refine Ok.enter (m := 2) (n := 8) Tryz.func142 rfl rfl rfl (by decide) ?_
 refine Cd.env (e' := [(0, Str.v a0), (1, Str.v a1)]) rfl ?_
 refine sr0 ?_
 refine Lst.r (Ev.assign rfl) ?_
 refine nsr ?_
 refine mv0 rfl ?_
 refine mv0 rfl ?_
 obtain ⟨r1, h2, H⟩ := bind_some H
 refine Lst.call1 rfl rfl (by decide) (vs := [Str.v a0, Str.v a1]) ⟨rfl, rfl, trivial⟩ Tryz.call189 (internal_stringslite_Index_sim h2 w0 _ M _ hM) ?_
 refine Lst.r (Ev.assign rfl) ?_
 refine nt0 ?_
 obtain rfl := some_inj H
 refine Cd.ret ?_
 exact At.ret1 rfl (Res.tmp rfl) fl (.refl _) ⟨rfl, rfl⟩
set_option maxRecDepth 20000 in
theorem strings_Count_sim {fu : Nat} {a0 : Str} {a1 : Str} {r : Int} (H : strings_Count fu a0 a1 = some r) (w0 : World) (F : Frz) (M L : List Item) (hM : M.Sublist L) : Ok Tryz.prog w0 141 [Str.v a0, Str.v a1] F (L) (Is (iv r) (L)) := by
 unfold strings_Count at H
 refine Ok.enter (m := 2) (n := 34) Tryz.func141 rfl rfl rfl (by decide) ?_
 refine Cd.env (e' := [(0, Str.v a0), (1, Str.v a1)]) rfl ?_
 refine sr0 ?_
 refine Lst.r (Ev.assign rfl) ?_
 refine nt0 ?_
 refine Cd.seq ?_
 refine sr0 ?_
 refine mv0 rfl ?_
 refine Lst.r (Ev.lenStr rfl rfl Tryz.runUnderlying9) ?_
 refine Lst.r (Ev.eql rfl rfl) ?_
 refine nt0 ?_
 rcases Bool.eq_false_or_eq_true ((a1.length : Int) == (0 : Int)) with hb1 | hb1
 ·replace H := ite_t hb1 H
  cases H
 replace H := ite_f hb1 H
 refine Cd.condF rfl hb1 ?_
 refine Cd.skip ?_
 refine At.then ?_
 refine Cd.seq ?_
 refine sr0 ?_
 refine mv0 rfl ?_
 refine Lst.r (Ev.lenStr rfl rfl Tryz.runUnderlying9) ?_
 refine Lst.r (Ev.eql rfl rfl) ?_
 refine nt0 ?_
 rcases Bool.eq_false_or_eq_true ((a1.length : Int) == (1 : Int)) with hb2 | hb2
 ·replace H := ite_t hb2 H
  refine Cd.condT rfl hb2 ?_
  refine sr0 ?_
  refine mv0 rfl ?_
  refine mv0 rfl ?_
  obtain ⟨x3, h4, H⟩ := bind_some H
  refine Lst.r (Ev.indexStr rfl rfl Tryz.runUnderlying9 h4) ?_
  refine Lst.r (Ev.cntByte (s := a0) (c := x3.toBitVec) rfl rfl Tryz.func188 (by kernel_rfl) (by kernel_rfl) (by kernel_rfl) (by kernel_rfl)) ?_
  refine Lst.r (Ev.assign rfl) ?_
  refine nt0 ?_
  obtain rfl := some_inj H
  refine Cd.ret ?_
  refine At.then_ret ?_
  exact At.ret1 rfl (Res.tmp rfl) fl (.refl _) ⟨rfl, rfl⟩
 replace H := ite_f hb2 H
 refine Cd.condF rfl hb2 ?_
 refine Cd.skip ?_
 refine At.then ?_
 refine sr0 ?_
 refine Lst.r (Ev.assign rfl) ?_
 refine nt0 ?_
 refine Cd.block ?_
 obtain ⟨ol5, H, HKl5⟩ := andThen_some H
 refine Cd.loop (σ := Nat × Str × Int) (fun (k5, y6, y7) => [(0, Str.v y6), (1, Str.v a1), (5, iv y7)]) (fun (k5, y6, y7) => L) (fun _ => (fun (k5, y6, y7) => whileM (strings_Count_B0 a1) k5 (y6, y7) = some ol5)) (fun (k5, y6, y7) => k5) (fu, a0, (0 : Int)) ⟨rfl, rfl, rfl, trivial⟩ rfl H ?_
 rintro F8 ⟨k5, y6, y7⟩ hF9 H
 refine Cd.as (e' := [(0, Str.v y6), (1, Str.v a1), (5, iv y7)]) (L' := L) ⟨rfl, rfl, rfl, trivial⟩ rfl ?_
 rcases k5 with _ | k5
 ·cases H
 obtain ⟨c5, H, hgo5, hbrk5, hret5⟩ := whileM_go H
 unfold strings_Count_B0 at H
 try dsimp only at H
 refine Cd.block ?_
 refine sr0 ?_
 refine mv0 rfl ?_
 refine mv0 rfl ?_
 obtain ⟨r10, h11, H⟩ := bind_some H
 refine Lst.call1 rfl rfl (by decide) (vs := [Str.v y6, Str.v a1]) ⟨rfl, rfl, trivial⟩ Tryz.call142 (strings_Index_sim h11 w0 _ M _ hM) ?_
 refine Lst.r (Ev.assign rfl) ?_
 refine nt0 ?_
 refine Cd.seq ?_
 refine sr0 ?_
 refine mv0 rfl ?_
 refine Lst.r (Ev.eql rfl rfl) ?_
 refine nt0 ?_
 rcases Bool.eq_false_or_eq_true (r10 == (-1 : Int)) with hb14 | hb14
 ·replace H := ite_t hb14 H
  refine Cd.condT rfl hb14 ?_
  refine sr0 ?_
  refine mv0 rfl ?_
  refine Lst.r (Ev.assign rfl) ?_
  refine nt0 ?_
  have H := hret5 _ (some_inj H).symm
  subst H
  replace H := HKl5
  obtain rfl := some_inj H
  refine Cd.ret ?_
  refine At.then_ret ?_
  refine At.in_ret ?_
  refine At.then_ret ?_
  refine At.in_ret ?_
  exact At.ret1 rfl (Res.tmp rfl) hF9 (.refl _) ⟨rfl, rfl⟩
 replace H := ite_f hb14 H
 refine Cd.condF rfl hb14 ?_
 refine Cd.skip ?_
 refine At.then ?_
 refine sr0 ?_
 refine mv0 rfl ?_
 refine Lst.r (Ev.add rfl rfl) ?_
 refine Lst.r (Ev.assign rfl) ?_
 refine nt0 ?_
 refine Cd.region ?_
 refine mv0 rfl ?_
 refine mv0 rfl ?_
 refine mv0 rfl ?_
 refine Lst.r (Ev.lenStr rfl rfl Tryz.runUnderlying9) ?_
 refine Lst.r (Ev.add rfl rfl) ?_
 obtain ⟨m15, h16, H⟩ := bind_some H
 refine Lst.r (Ev.sliceStrFrom rfl rfl  Tryz.runUnderlying9 h16) ?_
 refine Lst.r (Ev.assign rfl) ?_
 refine Lst.nil ?_
 refine At.in_normal ?_
 exact At.meet (k5, m15, w64 (y7 + (1 : Int))) hF9 ⟨rfl, rfl, rfl, trivial⟩ rfl ⟨hgo5 _ (some_inj H).symm, Nat.lt_succ_self _⟩
set_option maxRecDepth 20000 in
theorem strings_genSplit_sim {fu : Nat} {a0 : Str} {a1 : Str} {a2 : Int} {a3 : Int} {r : (List Str)} (H : strings_genSplit fu a0 a1 a2 a3 = some r) (w0 : World) (F : Frz) (M L : List Item) (hM : M.Sublist L) : Ok Tryz.prog w0 99 [Str.v a0, Str.v a1, iv a2, iv a3] F (L) (fun _ L' v => ∃ (s1 : Sl), v = Sl.v s1 ∧ L' = (.own s1 9 1 (encs r)) :: L) := by
 unfold strings_genSplit at H
 refine Ok.enter (m := 4) (n := 66) Tryz.func99 rfl rfl rfl (by decide) ?_
 refine Cd.env (e' := [(0, Str.v a0), (1, Str.v a1), (2, iv a2), (3, iv a3)]) rfl ?_
 refine sr0 ?_
 refine Lst.addNil 9 1 ?_
 refine Lst.r (Ev.assign rfl) ?_
 refine nt0 ?_
 refine Cd.seq ?_
 refine sr0 ?_
 refine mv0 rfl ?_
 refine Lst.r (Ev.eql rfl rfl) ?_
 refine nt0 ?_
 rcases Bool.eq_false_or_eq_true (a3 == (0 : Int)) with hb2 | hb2
 ·replace H := ite_t hb2 H
  refine Cd.condT rfl hb2 ?_
  refine sr0 ?_
  refine Lst.addNil 9 1 ?_
  refine Lst.r (Ev.assign rfl) ?_
  refine nt0 ?_
  obtain rfl := some_inj H
  refine Cd.ret ?_
  refine At.then_ret ?_
  exact At.ret1 rfl (Res.tmp rfl) fl (sk1 (sc1 (.refl _))) ⟨Sl.nil, rfl, rfl⟩
 replace H := ite_f hb2 H
 refine Cd.condF rfl hb2 ?_
 refine Cd.skip ?_
 refine At.then ?_
 refine Cd.seq ?_
 refine sr0 ?_
 refine mv0 rfl ?_
 refine Lst.r (Ev.eqlStr (s := a1) (m := ([] : Str)) rfl rfl) ?_
 refine nt0 ?_
 rcases Bool.eq_false_or_eq_true (decide (a1 = ([] : Str))) with hb4 | hb4
 ·replace H := ite_t hb4 H
  cases H
 replace H := ite_f hb4 H
 refine Cd.condF rfl hb4 ?_
 refine Cd.skip ?_
 refine At.then ?_
 obtain ⟨o6, H, HKo6⟩ := bind_some H
 refine Cd.join (σ := Int) (fun y5 => [(0, Str.v a0), (1, Str.v a1), (2, iv a2), (3, iv y5)]) (fun y5 => (.own Sl.nil 9 1 (encs ([] : List Str))) :: L) (fun _ y5 => y5 = o6) ?_ ?_
 ·refine sr0 ?_
  refine mv0 rfl ?_
  refine Lst.r (Ev.lss rfl rfl) ?_
  refine nt0 ?_
  rcases (Bool.eq_false_or_eq_true (decide (a3 < (0 : Int)))).symm with hb7 | hb7
  ·replace H := ite_f hb7 H
   refine Cd.condF rfl hb7 ?_
   refine Cd.skip ?_
   exact At.meet a3 fl ⟨rfl, rfl, rfl, rfl, trivial⟩ rfl (some_inj H)
  replace H := ite_t hb7 H
  refine Cd.condT rfl hb7 ?_
  refine Cd.region ?_
  refine mv0 rfl ?_
  refine mv0 rfl ?_
  obtain ⟨r8, h9, H⟩ := bind_some H
  refine Lst.call1 rfl rfl (by decide) (vs := [Str.v a0, Str.v a1]) ⟨rfl, rfl, trivial⟩ Tryz.call141 (strings_Count_sim h9 w0 _ M _ (sc1 hM)) ?_
  refine Lst.r (Ev.add rfl rfl) ?_
  refine Lst.r (Ev.assign rfl) ?_
  refine Lst.nil ?_
  exact At.meet (w64 (r8 + (1 : Int))) fl ⟨rfl, rfl, rfl, rfl, trivial⟩ rfl (some_inj H)
 rintro F12 y5 hF13 hy
 subst hy
 refine Cd.as (e' := [(0, Str.v a0), (1, Str.v a1), (2, iv a2), (3, iv y5)]) (L' := (.own Sl.nil 9 1 (encs ([] : List Str))) :: L) ⟨rfl, rfl, rfl, rfl, trivial⟩ rfl ?_
 replace H := HKo6
 refine sr0 ?_
 refine mv0 rfl ?_
 refine mv0 rfl ?_
 refine Lst.r (Ev.lenStr rfl rfl Tryz.runUnderlying9) ?_
 refine Lst.r (Ev.add rfl rfl) ?_
 refine Lst.r (Ev.min2 rfl rfl) ?_
 refine Lst.r (Ev.assign rfl) ?_
 refine nsr ?_
 refine mv0 rfl ?_
 obtain ⟨n14, h15, H⟩ := bind_some H
 have g16 := mkLen_some h15
 refine Lst.make (α := Str) (z0 := ([] : Str)) (k := n14) rfl rfl (by decide) (congrArg some (congrArg (Value.int .i64) g16.1)) (congrArg some (congrArg (Value.int .i64) g16.1)) Tryz.runUnderlying43 Tryz.typeInfo9 rfl rfl rfl rfl rfl g16.2 rfl (fun s17 => ?_)
 refine Lst.r (Ev.assign rfl) ?_
 refine nsr ?_
 refine mv0 rfl ?_
 refine Lst.r (Ev.sub rfl rfl) ?_
 refine Lst.r (Ev.assign rfl) ?_
 refine nsr ?_
 refine Lst.r (Ev.assign rfl) ?_
 refine nt0 ?_
 obtain ⟨o22, H, HKo22⟩ := bind_some H
 refine Cd.join (σ := Str × Int × (List Str)) (fun (y19, y20, l21) => [(0, Str.v y19), (9, Sl.v s17), (10, iv y20)]) (fun (y19, y20, l21) => (.own s17 9 1 (encs l21)) :: (.own Sl.nil 9 1 (encs ([] : List Str))) :: L) (fun _ (y19, y20, l21) => (y19, y20, l21) = o22) ?_ ?_
 ·refine Cd.block ?_
  obtain ⟨ol23, H, HKl23⟩ := andThen_some H
  refine Cd.loop (σ := Nat × Str × Int × (List Str)) (fun (k23, y24, y25, l26) => [(0, Str.v y24), (1, Str.v a1), (2, iv a2), (3, iv (w64 ((min y5 (w64 ((a0.length : Int) + (1 : Int)))) - (1 : Int)))), (9, Sl.v s17), (10, iv y25)]) (fun (k23, y24, y25, l26) => (.own s17 9 1 (encs l26)) :: (.own Sl.nil 9 1 (encs ([] : List Str))) :: L) (fun _ => (fun (k23, y24, y25, l26) => whileM (strings_genSplit_B0 a0 a1 a2 y5) k23 (y24, y25, l26) = some ol23)) (fun (k23, y24, y25, l26) => k23) (fu, a0, (0 : Int), (List.replicate n14 ([] : Str))) ⟨rfl, rfl, rfl, rfl, rfl, rfl, trivial⟩ rfl H ?_
  rintro F27 ⟨k23, y24, y25, l26⟩ hF28 H
  refine Cd.as (e' := [(0, Str.v y24), (1, Str.v a1), (2, iv a2), (3, iv (w64 ((min y5 (w64 ((a0.length : Int) + (1 : Int)))) - (1 : Int)))), (9, Sl.v s17), (10, iv y25)]) (L' := (.own s17 9 1 (encs l26)) :: (.own Sl.nil 9 1 (encs ([] : List Str))) :: L) ⟨rfl, rfl, rfl, rfl, rfl, rfl, trivial⟩ rfl ?_
  rcases k23 with _ | k23
  ·cases H
  obtain ⟨c23, H, hgo23, hbrk23, hret23⟩ := whileM_go H
  unfold strings_genSplit_B0 at H
  try dsimp only at H
  refine Cd.seq ?_
  refine sr0 ?_
  refine mv0 rfl ?_
  refine mv0 rfl ?_
  refine Lst.r (Ev.lss rfl rfl) ?_
  refine nt0 ?_
  rcases (Bool.eq_false_or_eq_true (decide (y25 < (w64 ((min y5 (w64 ((a0.length : Int) + (1 : Int)))) - (1 : Int)))))).symm with hb29 | hb29
  ·replace H := ite_f hb29 H
   refine Cd.condF rfl hb29 ?_
   refine Cd.exit ?_
   refine At.then_exit ?_
   refine At.then_exit ?_
   refine At.in_exit ?_
   have H := hbrk23 _ (some_inj H).symm
   subst H
   replace H := HKl23
   exact At.meet (y24, y25, l26) hF28 ⟨rfl, rfl, rfl, trivial⟩ rfl (some_inj H)
  replace H := ite_t hb29 H
  refine Cd.condT rfl hb29 ?_
  refine Cd.skip ?_
  refine At.then ?_
  refine Cd.block ?_
  refine sr0 ?_
  refine mv0 rfl ?_
  refine mv0 rfl ?_
  obtain ⟨r30, h31, H⟩ := bind_some H
  refine Lst.call1 rfl rfl (by decide) (vs := [Str.v y24, Str.v a1]) ⟨rfl, rfl, trivial⟩ Tryz.call142 (strings_Index_sim h31 w0 _ M _ (sc2 hM)) ?_
  refine Lst.r (Ev.assign rfl) ?_
  refine nt0 ?_
  refine Cd.seq ?_
  refine sr0 ?_
  refine mv0 rfl ?_
  refine Lst.r (Ev.lss rfl rfl) ?_
  refine nt0 ?_
  rcases Bool.eq_false_or_eq_true (decide (r30 < (0 : Int))) with hb34 | hb34
  ·replace H := ite_t hb34 H
   refine Cd.condT rfl hb34 ?_
   refine Cd.exit ?_
   refine At.then_exit ?_
   refine At.in_other rfl ?_
   refine At.then_exit ?_
   refine At.in_exit ?_
   have H := hbrk23 _ (some_inj H).symm
   subst H
   replace H := HKl23
   exact At.meet (y24, y25, l26) hF28 ⟨rfl, rfl, rfl, trivial⟩ rfl (some_inj H)
  replace H := ite_f hb34 H
  refine Cd.condF rfl hb34 ?_
  refine Cd.skip ?_
  refine At.then ?_
  refine sr0 ?_
  refine mv0 rfl ?_
  refine mv0 rfl ?_
  refine mv0 rfl ?_
  refine mv0 rfl ?_
  refine mv0 rfl ?_
  refine Lst.r (Ev.add rfl rfl) ?_
  obtain ⟨m35, h36, H⟩ := bind_some H
  refine Lst.r (Ev.sliceStrTo rfl rfl  Tryz.runUnderlying9 h36) ?_
  obtain ⟨x37, h38, H⟩ := bind_some H
  have g39 := lat_some h38
  refine Lst.r (Ev.indexS (α := Str) (xs := l26) rfl rfl Tryz.runUnderlying43 Tryz.sizeOf9 rfl (by decide) (rdo 0 rfl rfl rfl) g39.1 g39.2.1) ?_
  obtain ⟨p40, h41, H⟩ := Let_some H
  refine Lst.storeS (i := 0) rfl rfl rfl rfl rfl Tryz.sizeOf9 (vs := [Str.v m35]) rfl rfl (by decide) rfl (xs' := encs p40) (by rw [← h41]; exact (Put.elemN (s := 1) (x := x37) rfl g39.2.2 (Put.here (vs := [Str.v m35]) rfl)).off (by omega)) (L' := (.own s17 9 1 (encs p40)) :: (.own Sl.nil 9 1 (encs ([] : List Str))) :: L) rfl ?_
  refine nt0 ?_
  refine Cd.seq ?_
  refine Cd.as (e' := [(0, Str.v y24), (1, Str.v a1), (2, iv a2), (3, iv (w64 ((min y5 (w64 ((a0.length : Int) + (1 : Int)))) - (1 : Int)))), (9, Sl.v s17), (10, iv y25), (11, iv r30)]) (L' := (.own s17 9 1 (encs p40)) :: (.own Sl.nil 9 1 (encs ([] : List Str))) :: L) ⟨rfl, rfl, rfl, rfl, rfl, rfl, rfl, trivial⟩ rfl ?_
  refine Cd.region ?_
  refine mv0 rfl ?_
  refine mv0 rfl ?_
  refine mv0 rfl ?_
  refine Lst.r (Ev.lenStr rfl rfl Tryz.runUnderlying9) ?_
  refine Lst.r (Ev.add rfl rfl) ?_
  obtain ⟨m42, h43, H⟩ := bind_some H
  refine Lst.r (Ev.sliceStrFrom rfl rfl  Tryz.runUnderlying9 h43) ?_
  refine Lst.r (Ev.assign rfl) ?_
  refine nt0 ?_
  refine Cd.region ?_
  refine mv0 rfl ?_
  refine Lst.r (Ev.add rfl rfl) ?_
  refine Lst.r (Ev.assign rfl) ?_
  refine Lst.nil ?_
  refine At.in_normal ?_
  exact At.meet (k23, m42, w64 (y25 + (1 : Int)), p40) hF28 ⟨rfl, rfl, rfl, rfl, rfl, rfl, trivial⟩ rfl ⟨hgo23 _ (some_inj H).symm, Nat.lt_succ_self _⟩
 rintro F44 ⟨y19, y20, l21⟩ hF45 hy
 subst hy
 refine Cd.as (e' := [(0, Str.v y19), (9, Sl.v s17), (10, iv y20)]) (L' := (.own s17 9 1 (encs l21)) :: (.own Sl.nil 9 1 (encs ([] : List Str))) :: L) ⟨rfl, rfl, rfl, trivial⟩ rfl ?_
 replace H := HKo22
 refine sr0 ?_
 refine mv0 rfl ?_
 refine mv0 rfl ?_
 refine mv0 rfl ?_
 obtain ⟨x46, h47, H⟩ := bind_some H
 have g48 := lat_some h47
 refine Lst.r (Ev.indexS (α := Str) (xs := l21) rfl rfl Tryz.runUnderlying43 Tryz.sizeOf9 rfl (by decide) (rdo 0 rfl rfl rfl) g48.1 g48.2.1) ?_
 obtain ⟨p49, h50, H⟩ := Let_some H
 refine Lst.storeS (i := 0) rfl rfl rfl rfl rfl Tryz.sizeOf9 (vs := [Str.v y19]) rfl rfl (by decide) rfl (xs' := encs p49) (by rw [← h50]; exact (Put.elemN (s := 1) (x := x46) rfl g48.2.2 (Put.here (vs := [Str.v y19]) rfl)).off (by omega)) (L' := (.own s17 9 1 (encs p49)) :: (.own Sl.nil 9 1 (encs ([] : List Str))) :: L) rfl ?_
 refine nsr ?_
 refine mv0 rfl ?_
 refine mv0 rfl ?_
 refine Lst.r (Ev.add rfl rfl) ?_
 obtain ⟨m51, h52, H⟩ := bind_some H
 obtain ⟨g53, gl54⟩ := cutL_some h52
 try dsimp only at g53
 refine Lst.r (Ev.cut (α := Str) (xs := p49) (i := 0) (j := w64 (y20 + (1 : Int))) rfl rfl rfl Tryz.runUnderlying43 Tryz.sizeOf9 rfl (by decide) (rdo 0 rfl rfl rfl) g53.1 g53.2.1 g53.2.2) ?_
 refine Lst.cutOwn (i := 0) (α := Str) (lo := (0 : Int).toNat) (hi := (w64 (y20 + (1 : Int)) : Int).toNat) rfl rfl rfl (by decide) (by omega) (by omega) (L' := (.own (s17.cut (0 : Int).toNat (w64 (y20 + (1 : Int)) : Int).toNat 1) 9 1 (encs m51)) :: (.own Sl.nil 9 1 (encs ([] : List Str))) :: L) (by subst gl54; rfl) ?_
 refine Lst.r (Ev.assign rfl) ?_
 refine nt0 ?_
 obtain rfl := some_inj H
 refine Cd.ret ?_
 exact At.ret1 rfl (Res.tmp rfl) (FLe.trans hF13 hF45) (sk1 (sc1 (.refl _))) ⟨(s17.cut (0 : Int).toNat (w64 (y20 + (1 : Int)) : Int).toNat 1), rfl, rfl⟩
set_option maxRecDepth 20000 in
theorem strings_Split_sim {fu : Nat} {a0 : Str} {a1 : Str} {r : (List Str)} (H : strings_Split fu a0 a1 = some r) (w0 : World) (F : Frz) (M L : List Item) (hM : M.Sublist L) : Ok Tryz.prog w0 52 [Str.v a0, Str.v a1] F (L) (fun _ L' v => ∃ (s1 : Sl), v = Sl.v s1 ∧ L' = (.own s1 9 1 (encs r)) :: L) := by
 unfold strings_Split at H
 refine Ok.enter (m := 2) (n := 8) Tryz.func52 rfl rfl rfl (by decide) ?_
 refine Cd.env (e' := [(0, Str.v a0), (1, Str.v a1)]) rfl ?_
 refine sr0 ?_
 refine Lst.addNil 9 1 ?_
 refine Lst.r (Ev.assign rfl) ?_
 refine nsr ?_
 refine mv0 rfl ?_
 refine mv0 rfl ?_
 obtain ⟨r2, h3, H⟩ := bind_some H
 refine Lst.call rfl rfl (by decide) (vs := [Str.v a0, Str.v a1, iv (0 : Int), iv (-1 : Int)]) ⟨rfl, rfl, rfl, rfl, trivial⟩ Tryz.call99 (strings_genSplit_sim h3 w0 _ M _ (sc1 hM)) (fun F6 L' v hF7 hv => ?_)
 obtain ⟨s4, rfl, rfl⟩ := hv
 refine Lst.r (Ev.assign rfl) ?_
 refine nt0 ?_
 obtain rfl := some_inj H
 refine Cd.ret ?_
 exact At.ret1 rfl (Res.tmp rfl) hF7 (sk1 (sc1 (.refl _))) ⟨s4, rfl, rfl⟩
set_option maxRecDepth 20000 in
theorem slices_Index_string_string_sim {a0 : List Str} {a1 : Str} {s_a0 : Sl} {r : Int} (H : slices_Index_string_string a0 a1 = some r) (w0 : World) (F : Frz) (M L : List Item) (hM : M.Sublist L) (hs_a0 : Rd w0 F M s_a0 a0) : Ok Tryz.prog w0 121 [Sl.v s_a0, Str.v a1] F (L) (Is (iv r) (L)) := by
 unfold slices_Index_string_string at H
 refine Ok.enter (m := 2) (n := 19) Tryz.func121 rfl rfl rfl (by decide) ?_
 refine Cd.env (e' := [(0, Sl.v s_a0), (1, Str.v a1)]) rfl ?_
 refine sr0 ?_
 refine Lst.r (Ev.assign rfl) ?_
 refine nt0 ?_
 refine Cd.seq ?_
 refine sr0 ?_
 refine mv0 rfl ?_
 refine Lst.r (Ev.lenS (α := Str) (xs := a0) (by decide) rfl rfl Tryz.runUnderlying43 (hs_a0.mono fl hM)) ?_
 refine mv0 rfl ?_
 refine nt0 ?_
 refine Cd.block ?_
 refine Cd.bound (Rd.le (α := Str) (xs := a0) (by decide) (hs_a0.mono fl hM)) (fun hN8 => ?_)
 obtain ⟨ol1, H, HKl1⟩ := andThen_some H
 refine Cd.loop (σ := Nat × Nat × Unit) (fun (i1, k1, _u) => [(0, Sl.v s_a0), (1, Str.v a1), (7, iv (a0.length : Int)), (8, iv (i1 : Int))]) (fun (i1, k1, _u) => L) (fun _ => (fun (i1, k1, _u) => rangeM (slices_Index_string_string_B0 a0 a1) k1 i1 () = some ol1 ∧ i1 + k1 = a0.length)) (fun (i1, k1, _u) => k1) (0, a0.length, ()) ⟨rfl, rfl, rfl, rfl, trivial⟩ rfl ⟨H, by omega⟩ ?_
 rintro F2 ⟨i1, k1, _u⟩ hF3 ⟨H, hik1⟩
 refine Cd.as (e' := [(0, Sl.v s_a0), (1, Str.v a1), (7, iv (a0.length : Int)), (8, iv (i1 : Int))]) (L' := L) ⟨rfl, rfl, rfl, rfl, trivial⟩ rfl ?_
 rcases k1 with _ | k1
 ·have hc1 : decide ((i1 : Int) < (a0.length : Int)) = false := decide_eq_false (by omega)
  replace H := rangeM_end H
  refine sr0 ?_
  refine Lst.r (Ev.lss rfl rfl) ?_
  refine nt0 ?_
  refine Cd.seq ?_
  refine Cd.condF rfl hc1 ?_
  refine Cd.exit ?_
  refine At.then_exit ?_
  refine At.then_exit ?_
  refine At.in_exit ?_
  subst H
  replace H := HKl1
  refine At.then ?_
  refine sr0 ?_
  refine Lst.r (Ev.assign rfl) ?_
  refine nt0 ?_
  obtain rfl := some_inj H
  refine Cd.ret ?_
  exact At.ret1 rfl (Res.tmp rfl) hF3 (.refl _) ⟨rfl, rfl⟩
 have hc1 : decide ((i1 : Int) < (a0.length : Int)) = true := decide_eq_true (by omega)
 obtain ⟨c1, H, hgo1, hbrk1, hret1⟩ := rangeM_go H
 unfold slices_Index_string_string_B0 at H
 try dsimp only at H
 refine sr0 ?_
 refine Lst.r (Ev.lss rfl rfl) ?_
 refine nt0 ?_
 refine Cd.seq ?_
 refine Cd.condT rfl hc1 ?_
 refine Cd.skip ?_
 refine At.then ?_
 refine Cd.seq ?_
 refine Cd.block ?_
 refine sr0 ?_
 refine mv0 rfl ?_
 refine Lst.r (Ev.assign rfl) ?_
 refine nsr ?_
 refine mv0 rfl ?_
 refine mv0 rfl ?_
 refine mv0 rfl ?_
 obtain ⟨x4, h5, H⟩ := bind_some H
 have g6 := lat_some h5
 refine Lst.r (Ev.indexS (α := Str) (xs := a0) rfl rfl Tryz.runUnderlying43 Tryz.sizeOf9 rfl (by decide) (hs_a0.mono hF3 hM) g6.1 g6.2.1) ?_
 refine Lst.r (Ev.loadS (α := Str) rfl (hs_a0.mono hF3 hM) Tryz.isAgg9 (v := Str.v x4) ((Get.elemN (s := 1) (x := x4) rfl g6.2.2 gh0).off (by omega))) ?_
 refine Lst.r (Ev.eqlStr (s := a1) (m := x4) rfl rfl) ?_
 refine nt0 ?_
 rcases Bool.eq_false_or_eq_true (decide (a1 = x4)) with hb7 | hb7
 ·replace H := ite_t hb7 H
  refine Cd.condT rfl hb7 ?_
  refine sr0 ?_
  refine mv0 rfl ?_
  refine Lst.r (Ev.assign rfl) ?_
  refine nt0 ?_
  have H := hret1 _ (some_inj H).symm
  subst H
  replace H := HKl1
  obtain rfl := some_inj H
  refine Cd.ret ?_
  refine At.in_ret ?_
  refine At.then_ret ?_
  refine At.then_ret ?_
  refine At.in_ret ?_
  refine At.then_ret ?_
  exact At.ret1 rfl (Res.tmp rfl) hF3 (.refl _) ⟨rfl, rfl⟩
 replace H := ite_f hb7 H
 refine Cd.condF rfl hb7 ?_
 refine Cd.skip ?_
 refine At.in_normal ?_
 refine At.then ?_
 refine Cd.region ?_
 refine Lst.r (Ev.incr (by omega) rfl rfl) ?_
 refine mv0 rfl ?_
 refine Lst.nil ?_
 exact At.meet (i1 + 1, k1, ()) hF3 ⟨rfl, rfl, rfl, rfl, trivial⟩ rfl ⟨⟨hgo1 _ (some_inj H).symm, by omega⟩, Nat.lt_succ_self _⟩
set_option maxRecDepth 20000 in
theorem internal_stringslite_HasPrefix_sim {a0 : Str} {a1 : Str} {r : Bool} (H : internal_stringslite_HasPrefix a0 a1 = some r) (w0 : World) (F : Frz) (M L : List Item) (hM : M.Sublist L) : Ok Tryz.prog w0 231 [Str.v a0, Str.v a1] F (L) (Is (.bool r) (L)) := by
 unfold internal_stringslite_HasPrefix at H
 refine Ok.enter (m := 2) (n := 18) Tryz.func231 rfl rfl rfl (by decide) ?_
 refine Cd.env (e' := [(0, Str.v a0), (1, Str.v a1)]) rfl ?_
 refine sr0 ?_
 refine Lst.r (Ev.assign rfl) ?_
 refine nsr ?_
 refine mv0 rfl ?_
 refine Lst.r (Ev.lenStr rfl rfl Tryz.runUnderlying9) ?_
 refine mv0 rfl ?_
 refine Lst.r (Ev.lenStr rfl rfl Tryz.runUnderlying9) ?_
 refine Lst.r (Ev.geq rfl rfl) ?_
 refine mv0 rfl ?_
 obtain ⟨o1, H, HKo1⟩ := bind_some H
 refine Lst.join (σ := Bool) 7 (fun y2 => [(17, .bool y2)]) (fun y2 => L) (fun _ y2 => y2 = o1) ?_ ?_
 ·rcases (Bool.eq_false_or_eq_true (decide ((a0.length : Int) ≥ (a1.length : Int)))).symm with hb3 | hb3
  ·replace H := ite_f hb3 H
   refine Lst.skip rfl rfl rfl hb3 rfl (by decide) ?_
   refine Lst.skip rfl rfl rfl hb3 rfl (by decide) ?_
   refine Lst.skip rfl rfl rfl hb3 rfl (by decide) ?_
   refine Lst.skip rfl rfl rfl hb3 rfl (by decide) ?_
   refine Lst.skip rfl rfl rfl hb3 rfl (by decide) ?_
   refine Lst.skip rfl rfl rfl hb3 rfl (by decide) ?_
   refine Lst.r (Ev.pickF rfl hb3 rfl) ?_
   refine Lst.nil ?_
   exact At.meet false fl ⟨rfl, trivial⟩ rfl (some_inj H)
  replace H := ite_t hb3 H
  refine Lst.rG hb3 (Ev.move rfl) ?_
  refine Lst.rG hb3 (Ev.move rfl) ?_
  refine Lst.rG hb3 (Ev.lenStr rfl rfl Tryz.runUnderlying9) ?_
  obtain ⟨m4, h5, H⟩ := bind_some H
  refine Lst.rG hb3 (Ev.sliceStrTo rfl rfl  Tryz.runUnderlying9 h5) ?_
  refine Lst.rG hb3 (Ev.move rfl) ?_
  refine Lst.rG hb3 (Ev.eqlStr (s := m4) (m := a1) rfl rfl) ?_
  refine Lst.r (Ev.pickT rfl hb3 rfl) ?_
  refine Lst.nil ?_
  exact At.meet (decide (m4 = a1)) fl ⟨rfl, trivial⟩ rfl (some_inj H)
 rintro F6 y2 hF7 hy
 subst hy
 refine Lst.as (e' := [(17, .bool y2)]) (L' := L) ⟨rfl, trivial⟩ rfl ?_
 replace H := HKo1
 refine Lst.r (Ev.assign rfl) ?_
 refine nt0 ?_
 obtain rfl := some_inj H
 refine Cd.ret ?_
 exact At.ret1 rfl (Res.tmp rfl) hF7 (.refl _) ⟨rfl, rfl⟩
set_option maxRecDepth 20000 in
theorem internal_stringslite_TrimPrefix_sim {a0 : Str} {a1 : Str} {r : Str} (H : internal_stringslite_TrimPrefix a0 a1 = some r) (w0 : World) (F : Frz) (M L : List Item) (hM : M.Sublist L) : Ok Tryz.prog w0 223 [Str.v a0, Str.v a1] F (L) (Is (Str.v r) (L)) := by
 unfold internal_stringslite_TrimPrefix at H
 refine Ok.enter (m := 2) (n := 13) Tryz.func223 rfl rfl rfl (by decide) ?_
 refine Cd.env (e' := [(0, Str.v a0), (1, Str.v a1)]) rfl ?_
 refine sr0 ?_
 refine Lst.r (Ev.assign rfl) ?_
 refine nt0 ?_
 refine Cd.seq ?_
 refine sr0 ?_
 refine mv0 rfl ?_
 refine mv0 rfl ?_
 obtain ⟨r1, h2, H⟩ := bind_some H
 refine Lst.call1 rfl rfl (by decide) (vs := [Str.v a0, Str.v a1]) ⟨rfl, rfl, trivial⟩ Tryz.call231 (internal_stringslite_HasPrefix_sim h2 w0 _ M _ hM) ?_
 refine nt0 ?_
 rcases Bool.eq_false_or_eq_true r1 with hb5 | hb5
 ·replace H := ite_t hb5 H
  refine Cd.condT rfl hb5 ?_
  refine sr0 ?_
  refine mv0 rfl ?_
  refine mv0 rfl ?_
  refine Lst.r (Ev.lenStr rfl rfl Tryz.runUnderlying9) ?_
  obtain ⟨m6, h7, H⟩ := bind_some H
  refine Lst.r (Ev.sliceStrFrom rfl rfl  Tryz.runUnderlying9 h7) ?_
  refine Lst.r (Ev.assign rfl) ?_
  refine nt0 ?_
  obtain rfl := some_inj H
  refine Cd.ret ?_
  refine At.then_ret ?_
  exact At.ret1 rfl (Res.tmp rfl) fl (.refl _) ⟨rfl, rfl⟩
 replace H := ite_f hb5 H
 refine Cd.condF rfl hb5 ?_
 refine Cd.skip ?_
 refine At.then ?_
 refine sr0 ?_
 refine mv0 rfl ?_
 refine Lst.r (Ev.assign rfl) ?_
 refine nt0 ?_
 obtain rfl := some_inj H
 refine Cd.ret ?_
 exact At.ret1 rfl (Res.tmp rfl) fl (.refl _) ⟨rfl, rfl⟩
set_option maxRecDepth 20000 in
theorem strings_TrimPrefix_sim {a0 : Str} {a1 : Str} {r : Str} (H : strings_TrimPrefix a0 a1 = some r) (w0 : World) (F : Frz) (M L : List Item) (hM : M.Sublist L) : Ok Tryz.prog w0 180 [Str.v a0, Str.v a1] F (L) (Is (Str.v r) (L)) := by
 unfold strings_TrimPrefix at H
 refine Ok.enter (m := 2) (n := 8) Tryz.func180 rfl rfl rfl (by decide) ?_
 refine Cd.env (e' := [(0, Str.v a0), (1, Str.v a1)]) rfl ?_
 refine sr0 ?_
 refine Lst.r (Ev.assign rfl) ?_
 refine nsr ?_
 refine mv0 rfl ?_
 refine mv0 rfl ?_
 obtain ⟨r1, h2, H⟩ := bind_some H
 refine Lst.call1 rfl rfl (by decide) (vs := [Str.v a0, Str.v a1]) ⟨rfl, rfl, trivial⟩ Tryz.call223 (internal_stringslite_TrimPrefix_sim h2 w0 _ M _ hM) ?_
 refine Lst.r (Ev.assign rfl) ?_
 refine nt0 ?_
 obtain rfl := some_inj H
 refine Cd.ret ?_
 exact At.ret1 rfl (Res.tmp rfl) fl (.refl _) ⟨rfl, rfl⟩
set_option maxRecDepth 20000 in
theorem same_in_sim {a0 : Int} {a1 : Int} {a2 : Int} {r : Bool} (H : same_in a0 a1 a2 = some r) (w0 : World) (F : Frz) (M L : List Item) (hM : M.Sublist L) : Ok Tryz.prog w0 123 [iv a0, iv a1, iv a2] F (L) (Is (.bool r) (L)) := by
 unfold same_in at H
 refine Ok.enter (m := 3) (n := 15) Tryz.func123 rfl rfl rfl (by decide) ?_
 refine Cd.env (e' := [(0, iv a0), (1, iv a1), (2, iv a2)]) rfl ?_
 refine sr0 ?_
 refine Lst.r (Ev.assign rfl) ?_
 refine nsr ?_
 refine mv0 rfl ?_
 refine mv0 rfl ?_
 refine Lst.r (Ev.geq rfl rfl) ?_
 refine mv0 rfl ?_
 obtain ⟨o1, H, HKo1⟩ := bind_some H
 refine Lst.join (σ := Bool) 4 (fun y2 => [(14, .bool y2)]) (fun y2 => L) (fun _ y2 => y2 = o1) ?_ ?_
 ·rcases (Bool.eq_false_or_eq_true (decide (a0 ≥ a1))).symm with hb3 | hb3
  ·replace H := ite_f hb3 H
   refine Lst.skip rfl rfl rfl hb3 rfl (by decide) ?_
   refine Lst.skip rfl rfl rfl hb3 rfl (by decide) ?_
   refine Lst.skip rfl rfl rfl hb3 rfl (by decide) ?_
   refine Lst.r (Ev.pickF rfl hb3 rfl) ?_
   refine Lst.nil ?_
   exact At.meet false fl ⟨rfl, trivial⟩ rfl (some_inj H)
  replace H := ite_t hb3 H
  refine Lst.rG hb3 (Ev.move rfl) ?_
  refine Lst.rG hb3 (Ev.move rfl) ?_
  refine Lst.rG hb3 (Ev.leq rfl rfl) ?_
  refine Lst.r (Ev.pickT rfl hb3 rfl) ?_
  refine Lst.nil ?_
  exact At.meet (decide (a0 ≤ a2)) fl ⟨rfl, trivial⟩ rfl (some_inj H)
 rintro F4 y2 hF5 hy
 subst hy
 refine Lst.as (e' := [(14, .bool y2)]) (L' := L) ⟨rfl, trivial⟩ rfl ?_
 replace H := HKo1
 refine Lst.r (Ev.assign rfl) ?_
 refine nt0 ?_
 obtain rfl := some_inj H
 refine Cd.ret ?_
 exact At.ret1 rfl (Res.tmp rfl) hF5 (.refl _) ⟨rfl, rfl⟩
set_option maxRecDepth 20000 in
theorem strings_makeASCIISet_sim {fu : Nat} {a0 : Str} {r : (Vector Bool 256) × Bool} (H : strings_makeASCIISet fu a0 = some r) (w0 : World) (F : Frz) (M L : List Item) (hM : M.Sublist L) : Ok Tryz.prog w0 226 [Str.v a0] F (L) (Is (.tuple #[.agg (enc r.1).toArray, .bool r.2]) (L)) := by
 unfold strings_makeASCIISet at H
 refine Ok.enter (m := 1) (n := 21) Tryz.func226 rfl rfl rfl (by decide) ?_
 refine Cd.env (e' := [(0, Str.v a0)]) rfl ?_
 refine sr0 ?_
 refine Lst.alloc (z := .agg (enc (Vector.replicate 256 false)).toArray) (cs := enc (Vector.replicate 256 false)) rfl rfl (by decide) (fun _ => by kernel_rfl) rfl (fun b1 => ?_)
 refine Lst.r (Ev.assign rfl) ?_
 refine nt0 ?_
 refine Cd.seq ?_
 refine sr0 ?_
 refine Lst.r (Ev.assign rfl) ?_
 refine nt0 ?_
 refine Cd.block ?_
 obtain ⟨ol3, H, HKl3⟩ := andThen_some H
 refine Cd.loop (σ := Nat × Int × (Vector Bool 256)) (fun (k3, y4, y5) => [(0, Str.v a0), (2, pv b1 0), (4, iv y4)]) (fun (k3, y4, y5) => (.blk b1 (enc y5) 299) :: L) (fun _ => (fun (k3, y4, y5) => whileM (strings_makeASCIISet_B0 a0) k3 (y4, y5) = some ol3)) (fun (k3, y4, y5) => k3) (fu, (0 : Int), (Vector.replicate 256 false)) ⟨rfl, rfl, rfl, trivial⟩ rfl H ?_
 rintro F6 ⟨k3, y4, y5⟩ hF7 H
 refine Cd.as (e' := [(0, Str.v a0), (2, pv b1 0), (4, iv y4)]) (L' := (.blk b1 (enc y5) 299) :: L) ⟨rfl, rfl, rfl, trivial⟩ rfl ?_
 rcases k3 with _ | k3
 ·cases H
 obtain ⟨c3, H, hgo3, hbrk3, hret3⟩ := whileM_go H
 unfold strings_makeASCIISet_B0 at H
 try dsimp only at H
 refine Cd.seq ?_
 refine sr0 ?_
 refine mv0 rfl ?_
 refine mv0 rfl ?_
 refine Lst.r (Ev.lenStr rfl rfl Tryz.runUnderlying9) ?_
 refine Lst.r (Ev.lss rfl rfl) ?_
 refine nt0 ?_
 rcases (Bool.eq_false_or_eq_true (decide (y4 < (a0.length : Int)))).symm with hb8 | hb8
 ·replace H := ite_f hb8 H
  refine Cd.condF rfl hb8 ?_
  refine Cd.exit ?_
  refine At.then_exit ?_
  refine At.then_exit ?_
  refine At.in_exit ?_
  have H := hbrk3 _ (some_inj H).symm
  subst H
  replace H := HKl3
  refine At.then ?_
  refine sr0 ?_
  refine Lst.r (Ev.loadA (i := 0) rfl rfl Tryz.isAgg299 Tryz.sizeOf299 (ch := enc y5) (Enc.len _) gh0) ?_
  refine Lst.store (i := 0) rfl rfl rfl rfl rfl Tryz.sizeOf299 (vs := enc y5) rfl (Enc.len _) (Enc.one _) (cs' := enc y5) (Put.here ((Enc.len _).trans (Enc.len _).symm)) (L' := (.blk b1 (enc y5) 299) :: L) rfl ?_
  refine Lst.r (Ev.assign rfl) ?_
  refine nt0 ?_
  obtain rfl := some_inj H
  refine Cd.ret ?_
  exact At.ret2 rfl (Res.cellA (i := 0) rfl rfl Tryz.isAgg299 Tryz.sizeOf299 (Enc.len _)) (Res.tmp rfl) hF7 (sc1 (.refl _)) ⟨rfl, rfl⟩
 replace H := ite_t hb8 H
 refine Cd.condT rfl hb8 ?_
 refine Cd.skip ?_
 refine At.then ?_
 refine Cd.seq ?_
 refine Cd.block ?_
 refine sr0 ?_
 refine mv0 rfl ?_
 refine mv0 rfl ?_
 obtain ⟨x9, h10, H⟩ := bind_some H
 refine Lst.r (Ev.indexStr rfl rfl Tryz.runUnderlying9 h10) ?_
 refine Lst.r (Ev.assign rfl) ?_
 refine nt0 ?_
 refine Cd.seq ?_
 refine sr0 ?_
 refine mv0 rfl ?_
 refine Lst.r (Ev.geq rfl rfl) ?_
 refine nt0 ?_
 rcases Bool.eq_false_or_eq_true (decide ((x9.toBitVec.toNat : Int) ≥ ((128 : BitVec 8).toNat : Int))) with hb11 | hb11
 ·replace H := ite_t hb11 H
  refine Cd.condT rfl hb11 ?_
  refine sr0 ?_
  refine Lst.r (Ev.loadA (i := 0) rfl rfl Tryz.isAgg299 Tryz.sizeOf299 (ch := enc y5) (Enc.len _) gh0) ?_
  refine Lst.store (i := 0) rfl rfl rfl rfl rfl Tryz.sizeOf299 (vs := enc y5) rfl (Enc.len _) (Enc.one _) (cs' := enc y5) (Put.here ((Enc.len _).trans (Enc.len _).symm)) (L' := (.blk b1 (enc y5) 299) :: L) rfl ?_
  refine Lst.r (Ev.assign rfl) ?_
  refine nt0 ?_
  have H := hret3 _ (some_inj H).symm
  subst H
  replace H := HKl3
  obtain rfl := some_inj H
  refine Cd.ret ?_
  refine At.then_ret ?_
  refine At.in_ret ?_
  refine At.then_ret ?_
  refine At.then_ret ?_
  refine At.in_ret ?_
  refine At.then_ret ?_
  exact At.ret2 rfl (Res.cellA (i := 0) rfl rfl Tryz.isAgg299 Tryz.sizeOf299 (Enc.len _)) (Res.tmp rfl) hF7 (sc1 (.refl _)) ⟨rfl, rfl⟩
 replace H := ite_f hb11 H
 refine Cd.condF rfl hb11 ?_
 refine Cd.skip ?_
 refine At.then ?_
 refine Cd.region ?_
 refine mv0 rfl ?_
 obtain ⟨x12, h13, H⟩ := bind_some H
 have g14 := vat_some h13
 refine Lst.r (Ev.indexAddrK (off' := 0 + (x9.toBitVec.toNat : Int).toNat * 1) rfl rfl Tryz.runUnderlying299 Tryz.sizeOf4 g14.1 g14.2.1 rfl) ?_
 obtain ⟨p15, h16, H⟩ := Let_some H
 refine Lst.store (i := 0) rfl rfl rfl rfl rfl Tryz.sizeOf4 (vs := [.bool true]) rfl rfl rfl (cs' := enc p15) (by rw [← h16]; exact (Put.vecN (s := 1) (x := x12) rfl g14.2.2 (Put.here (vs := [.bool true]) rfl)).off (by omega)) (L' := (.blk b1 (enc p15) 299) :: L) rfl ?_
 refine Lst.nil ?_
 refine At.in_normal ?_
 refine At.then ?_
 refine Cd.region ?_
 refine mv0 rfl ?_
 refine Lst.r (Ev.add rfl rfl) ?_
 refine Lst.r (Ev.assign rfl) ?_
 refine Lst.nil ?_
 exact At.meet (k3, w64 (y4 + (1 : Int)), p15) hF7 ⟨rfl, rfl, rfl, trivial⟩ rfl ⟨hgo3 _ (some_inj H).symm, Nat.lt_succ_self _⟩
set_option maxRecDepth 20000 in
theorem strings_asciiSet_contains_sim {a0 : Vector Bool 256} {a1 : BitVec 8} {b_a0 : Nat} {r : Bool} (H : strings_asciiSet_contains a0 a1 = some r) (w0 : World) (F : Frz) (M L : List Item) (hM : M.Sublist L) : Ok Tryz.prog w0 260 [pv b_a0 0, .int .u8 a1.toNat] F ((.blk b_a0 (enc a0) 299) :: L) (Is (.bool r) ((.blk b_a0 (enc a0) 299) :: L)) := by
 unfold strings_asciiSet_contains at H
 refine Ok.enter (m := 2) (n := 10) Tryz.func260 rfl rfl rfl (by decide) ?_
 refine Cd.env (e' := [(0, pv b_a0 0), (1, .int .u8 a1.toNat)]) rfl ?_
 refine sr0 ?_
 refine Lst.r (Ev.assign rfl) ?_
 refine nsr ?_
 refine mv0 rfl ?_
 refine mv0 rfl ?_
 refine Lst.r (Ev.nilCheck rfl) ?_
 obtain ⟨x2, h3, H⟩ := bind_some H
 have g4 := vat_some h3
 refine Lst.r (Ev.indexAddrK (off' := 0 + (a1.toNat : Int).toNat * 1) rfl rfl Tryz.runUnderlying299 Tryz.sizeOf4 g4.1 g4.2.1 rfl) ?_
 refine Lst.r (Ev.load (i := 0) rfl rfl Tryz.isAgg4 (v := .bool x2) ((Get.vecN (s := 1) (x := x2) rfl g4.2.2 gh0).off (by omega))) ?_
 refine Lst.r (Ev.assign rfl) ?_
 refine nt0 ?_
 obtain rfl := some_inj H
 refine Cd.ret ?_
 exact At.ret1 rfl (Res.tmp rfl) fl (sk1 (.refl _)) ⟨rfl, rfl⟩
set_option maxRecDepth 20000 in
theorem strings_trimRightASCII_sim {fu : Nat} {a0 : Str} {a1 : Vector Bool 256} {b_a1 : Nat} {r : Str} (H : strings_trimRightASCII fu a0 a1 = some r) (w0 : World) (F : Frz) (M L : List Item) (hM : M.Sublist L) : Ok Tryz.prog w0 228 [Str.v a0, pv b_a1 0] F ((.blk b_a1 (enc a1) 299) :: L) (Is (Str.v r) ((.blk b_a1 (enc a1) 299) :: L)) := by
 unfold strings_trimRightASCII at H
 refine Ok.enter (m := 2) (n := 22) Tryz.func228 rfl rfl rfl (by decide) ?_
 refine Cd.env (e' := [(0, Str.v a0), (1, pv b_a1 0)]) rfl ?_
 refine sr0 ?_
 refine Lst.r (Ev.assign rfl) ?_
 refine nt0 ?_
 obtain ⟨o3, H, HKo3⟩ := bind_some H
 refine Cd.join (σ := Str) (fun y2 => [(0, Str.v y2)]) (fun y2 => (.blk b_a1 (enc a1) 299) :: L) (fun _ y2 => y2 = o3) ?_ ?_
 ·refine Cd.block ?_
  obtain ⟨ol4, H, HKl4⟩ := andThen_some H
  refine Cd.loop (σ := Nat × Str) (fun (k4, y5) => [(0, Str.v y5), (1, pv b_a1 0)]) (fun (k4, y5) => (.blk b_a1 (enc a1) 299) :: L) (fun _ => (fun (k4, y5) => whileM (strings_trimRightASCII_B0 a1) k4 y5 = some ol4)) (fun (k4, y5) => k4) (fu, a0) ⟨rfl, rfl, trivial⟩ rfl H ?_
  rintro F6 ⟨k4, y5⟩ hF7 H
  refine Cd.as (e' := [(0, Str.v y5), (1, pv b_a1 0)]) (L' := (.blk b_a1 (enc a1) 299) :: L) ⟨rfl, rfl, trivial⟩ rfl ?_
  rcases k4 with _ | k4
  ·cases H
  obtain ⟨c4, H, hgo4, hbrk4, hret4⟩ := whileM_go H
  unfold strings_trimRightASCII_B0 at H
  try dsimp only at H
  refine Cd.seq ?_
  refine sr0 ?_
  refine mv0 rfl ?_
  refine Lst.r (Ev.lenStr rfl rfl Tryz.runUnderlying9) ?_
  refine Lst.r (Ev.gtr rfl rfl) ?_
  refine nt0 ?_
  rcases (Bool.eq_false_or_eq_true (decide ((y5.length : Int) > (0 : Int)))).symm with hb8 | hb8
  ·replace H := ite_f hb8 H
   refine Cd.condF rfl hb8 ?_
   refine Cd.exit ?_
   refine At.then_exit ?_
   refine At.then_exit ?_
   refine At.in_exit ?_
   have H := hbrk4 _ (some_inj H).symm
   subst H
   replace H := HKl4
   exact At.meet y5 hF7 ⟨rfl, trivial⟩ rfl (some_inj H)
  replace H := ite_t hb8 H
  refine Cd.condT rfl hb8 ?_
  refine Cd.skip ?_
  refine At.then ?_
  refine Cd.block ?_
  refine Cd.seq ?_
  refine sr0 ?_
  refine mv0 rfl ?_
  refine mv0 rfl ?_
  refine mv0 rfl ?_
  refine Lst.r (Ev.lenStr rfl rfl Tryz.runUnderlying9) ?_
  refine Lst.r (Ev.sub rfl rfl) ?_
  obtain ⟨x9, h10, H⟩ := bind_some H
  refine Lst.r (Ev.indexStr rfl rfl Tryz.runUnderlying9 h10) ?_
  obtain ⟨r11, h12, H⟩ := bind_some H
  refine Lst.call1 rfl rfl (by decide) (vs := [pv b_a1 0, .int .u8 x9.toBitVec.toNat]) ⟨rfl, rfl, trivial⟩ Tryz.call260 (strings_asciiSet_contains_sim h12 w0 _ M _ hM) ?_
  refine Lst.r (Ev.not rfl) ?_
  refine nt0 ?_
  rcases Bool.eq_false_or_eq_true (!r11) with hb15 | hb15
  ·replace H := ite_t hb15 H
   refine Cd.condT rfl hb15 ?_
   refine Cd.exit ?_
   refine At.then_exit ?_
   refine At.in_other rfl ?_
   refine At.then_exit ?_
   refine At.in_exit ?_
   have H := hbrk4 _ (some_inj H).symm
   subst H
   replace H := HKl4
   exact At.meet y5 hF7 ⟨rfl, trivial⟩ rfl (some_inj H)
  replace H := ite_f hb15 H
  refine Cd.condF rfl hb15 ?_
  refine Cd.skip ?_
  refine At.then ?_
  refine Cd.region ?_
  refine mv0 rfl ?_
  refine mv0 rfl ?_
  refine Lst.r (Ev.lenStr rfl rfl Tryz.runUnderlying9) ?_
  refine Lst.r (Ev.sub rfl rfl) ?_
  obtain ⟨m16, h17, H⟩ := bind_some H
  refine Lst.r (Ev.sliceStrTo rfl rfl  Tryz.runUnderlying9 h17) ?_
  refine Lst.r (Ev.assign rfl) ?_
  refine Lst.nil ?_
  refine At.in_normal ?_
  exact At.meet (k4, m16) hF7 ⟨rfl, rfl, trivial⟩ rfl ⟨hgo4 _ (some_inj H).symm, Nat.lt_succ_self _⟩
 rintro F18 y2 hF19 hy
 subst hy
 refine Cd.as (e' := [(0, Str.v y2)]) (L' := (.blk b_a1 (enc a1) 299) :: L) ⟨rfl, trivial⟩ rfl ?_
 replace H := HKo3
 refine sr0 ?_
 refine mv0 rfl ?_
 refine Lst.r (Ev.assign rfl) ?_
 refine nt0 ?_
 obtain rfl := some_inj H
 refine Cd.ret ?_
 exact At.ret1 rfl (Res.tmp rfl) hF19 (sk1 (.refl _)) ⟨rfl, rfl⟩
set_option maxRecDepth 20000 in
theorem strings_trimLeftASCII_sim {fu : Nat} {a0 : Str} {a1 : Vector Bool 256} {b_a1 : Nat} {r : Str} (H : strings_trimLeftASCII fu a0 a1 = some r) (w0 : World) (F : Frz) (M L : List Item) (hM : M.Sublist L) : Ok Tryz.prog w0 227 [Str.v a0, pv b_a1 0] F ((.blk b_a1 (enc a1) 299) :: L) (Is (Str.v r) ((.blk b_a1 (enc a1) 299) :: L)) := by
 unfold strings_trimLeftASCII at H
 refine Ok.enter (m := 2) (n := 16) Tryz.func227 rfl rfl rfl (by decide) ?_
 refine Cd.env (e' := [(0, Str.v a0), (1, pv b_a1 0)]) rfl ?_
 refine sr0 ?_
 refine Lst.r (Ev.assign rfl) ?_
 refine nt0 ?_
 obtain ⟨o3, H, HKo3⟩ := bind_some H
 refine Cd.join (σ := Str) (fun y2 => [(0, Str.v y2)]) (fun y2 => (.blk b_a1 (enc a1) 299) :: L) (fun _ y2 => y2 = o3) ?_ ?_
 ·refine Cd.block ?_
  obtain ⟨ol4, H, HKl4⟩ := andThen_some H
  refine Cd.loop (σ := Nat × Str) (fun (k4, y5) => [(0, Str.v y5), (1, pv b_a1 0)]) (fun (k4, y5) => (.blk b_a1 (enc a1) 299) :: L) (fun _ => (fun (k4, y5) => whileM (strings_trimLeftASCII_B0 a1) k4 y5 = some ol4)) (fun (k4, y5) => k4) (fu, a0) ⟨rfl, rfl, trivial⟩ rfl H ?_
  rintro F6 ⟨k4, y5⟩ hF7 H
  refine Cd.as (e' := [(0, Str.v y5), (1, pv b_a1 0)]) (L' := (.blk b_a1 (enc a1) 299) :: L) ⟨rfl, rfl, trivial⟩ rfl ?_
  rcases k4 with _ | k4
  ·cases H
  obtain ⟨c4, H, hgo4, hbrk4, hret4⟩ := whileM_go H
  unfold strings_trimLeftASCII_B0 at H
  try dsimp only at H
  refine Cd.seq ?_
  refine sr0 ?_
  refine mv0 rfl ?_
  refine Lst.r (Ev.lenStr rfl rfl Tryz.runUnderlying9) ?_
  refine Lst.r (Ev.gtr rfl rfl) ?_
  refine nt0 ?_
  rcases (Bool.eq_false_or_eq_true (decide ((y5.length : Int) > (0 : Int)))).symm with hb8 | hb8
  ·replace H := ite_f hb8 H
   refine Cd.condF rfl hb8 ?_
   refine Cd.exit ?_
   refine At.then_exit ?_
   refine At.then_exit ?_
   refine At.in_exit ?_
   have H := hbrk4 _ (some_inj H).symm
   subst H
   replace H := HKl4
   exact At.meet y5 hF7 ⟨rfl, trivial⟩ rfl (some_inj H)
  replace H := ite_t hb8 H
  refine Cd.condT rfl hb8 ?_
  refine Cd.skip ?_
  refine At.then ?_
  refine Cd.block ?_
  refine Cd.seq ?_
  refine sr0 ?_
  refine mv0 rfl ?_
  refine mv0 rfl ?_
  obtain ⟨x9, h10, H⟩ := bind_some H
  refine Lst.r (Ev.indexStr rfl rfl Tryz.runUnderlying9 h10) ?_
  obtain ⟨r11, h12, H⟩ := bind_some H
  refine Lst.call1 rfl rfl (by decide) (vs := [pv b_a1 0, .int .u8 x9.toBitVec.toNat]) ⟨rfl, rfl, trivial⟩ Tryz.call260 (strings_asciiSet_contains_sim h12 w0 _ M _ hM) ?_
  refine Lst.r (Ev.not rfl) ?_
  refine nt0 ?_
  rcases Bool.eq_false_or_eq_true (!r11) with hb15 | hb15
  ·replace H := ite_t hb15 H
   refine Cd.condT rfl hb15 ?_
   refine Cd.exit ?_
   refine At.then_exit ?_
   refine At.in_other rfl ?_
   refine At.then_exit ?_
   refine At.in_exit ?_
   have H := hbrk4 _ (some_inj H).symm
   subst H
   replace H := HKl4
   exact At.meet y5 hF7 ⟨rfl, trivial⟩ rfl (some_inj H)
  replace H := ite_f hb15 H
  refine Cd.condF rfl hb15 ?_
  refine Cd.skip ?_
  refine At.then ?_
  refine Cd.region ?_
  refine mv0 rfl ?_
  obtain ⟨m16, h17, H⟩ := bind_some H
  refine Lst.r (Ev.sliceStrFrom rfl rfl  Tryz.runUnderlying9 h17) ?_
  refine Lst.r (Ev.assign rfl) ?_
  refine Lst.nil ?_
  refine At.in_normal ?_
  exact At.meet (k4, m16) hF7 ⟨rfl, rfl, trivial⟩ rfl ⟨hgo4 _ (some_inj H).symm, Nat.lt_succ_self _⟩
 rintro F18 y2 hF19 hy
 subst hy
 refine Cd.as (e' := [(0, Str.v y2)]) (L' := (.blk b_a1 (enc a1) 299) :: L) ⟨rfl, trivial⟩ rfl ?_
 replace H := HKo3
 refine sr0 ?_
 refine mv0 rfl ?_
 refine Lst.r (Ev.assign rfl) ?_
 refine nt0 ?_
 obtain rfl := some_inj H
 refine Cd.ret ?_
 exact At.ret1 rfl (Res.tmp rfl) hF19 (sk1 (.refl _)) ⟨rfl, rfl⟩
set_option maxRecDepth 20000 in
theorem strings_Trim_sim {fu : Nat} {a0 : Str} {a1 : Str} {r : Str} (H : strings_Trim fu a0 a1 = some r) (w0 : World) (F : Frz) (M L : List Item) (hM : M.Sublist L) : Ok Tryz.prog w0 181 [Str.v a0, Str.v a1] F (L) (Is (Str.v r) (L)) := by
 unfold strings_Trim at H
 refine Ok.enter (m := 2) (n := 43) Tryz.func181 rfl rfl rfl (by decide) ?_
 refine Cd.env (e' := [(0, Str.v a0), (1, Str.v a1)]) rfl ?_
 refine sr0 ?_
 refine Lst.r (Ev.assign rfl) ?_
 refine nt0 ?_
 refine Cd.seq ?_
 refine sr0 ?_
 refine mv0 rfl ?_
 refine Lst.r (Ev.eqlStr (s := a0) (m := ([] : Str)) rfl rfl) ?_
 refine mv0 rfl ?_
 obtain ⟨o1, H, HKo1⟩ := bind_some H
 refine Lst.join (σ := Bool) 3 (fun y2 => [(0, Str.v a0), (1, Str.v a1), (12, .bool y2)]) (fun y2 => L) (fun _ y2 => y2 = o1) ?_ ?_
 ·rcases Bool.eq_false_or_eq_true (decide (a0 = ([] : Str))) with hb3 | hb3
  ·replace H := ite_t hb3 H
   refine Lst.skip rfl rfl rfl hb3 rfl (by decide) ?_
   refine Lst.skip rfl rfl rfl hb3 rfl (by decide) ?_
   refine Lst.r (Ev.pickT rfl hb3 rfl) ?_
   refine Lst.nil ?_
   exact At.meet true fl ⟨rfl, rfl, rfl, trivial⟩ rfl (some_inj H)
  replace H := ite_f hb3 H
  refine Lst.rG hb3 (Ev.move rfl) ?_
  refine Lst.rG hb3 (Ev.eqlStr (s := a1) (m := ([] : Str)) rfl rfl) ?_
  refine Lst.r (Ev.pickF rfl hb3 rfl) ?_
  refine Lst.nil ?_
  exact At.meet (decide (a1 = ([] : Str))) fl ⟨rfl, rfl, rfl, trivial⟩ rfl (some_inj H)
 rintro F4 y2 hF5 hy
 subst hy
 refine Lst.as (e' := [(0, Str.v a0), (1, Str.v a1), (12, .bool y2)]) (L' := L) ⟨rfl, rfl, rfl, trivial⟩ rfl ?_
 replace H := HKo1
 refine nt0 ?_
 rcases Bool.eq_false_or_eq_true y2 with hb6 | hb6
 ·replace H := ite_t hb6 H
  refine Cd.condT rfl hb6 ?_
  refine sr0 ?_
  refine mv0 rfl ?_
  refine Lst.r (Ev.assign rfl) ?_
  refine nt0 ?_
  obtain rfl := some_inj H
  refine Cd.ret ?_
  refine At.then_ret ?_
  exact At.ret1 rfl (Res.tmp rfl) hF5 (.refl _) ⟨rfl, rfl⟩
 replace H := ite_f hb6 H
 refine Cd.condF rfl hb6 ?_
 refine Cd.skip ?_
 refine At.then ?_
 refine Cd.seq ?_
 refine sr0 ?_
 refine mv0 rfl ?_
 refine Lst.r (Ev.lenStr rfl rfl Tryz.runUnderlying9) ?_
 refine Lst.r (Ev.eql rfl rfl) ?_
 refine mv0 rfl ?_
 obtain ⟨o7, H, HKo7⟩ := bind_some H
 refine Lst.join (σ := Bool) 4 (fun y8 => [(0, Str.v a0), (1, Str.v a1), (21, .bool y8)]) (fun y8 => L) (fun _ y8 => y8 = o7) ?_ ?_
 ·rcases (Bool.eq_false_or_eq_true ((a1.length : Int) == (1 : Int))).symm with hb9 | hb9
  ·replace H := ite_f hb9 H
   refine Lst.skip rfl rfl rfl hb9 rfl (by decide) ?_
   refine Lst.skip rfl rfl rfl hb9 rfl (by decide) ?_
   refine Lst.skip rfl rfl rfl hb9 rfl (by decide) ?_
   refine Lst.r (Ev.pickF rfl hb9 rfl) ?_
   refine Lst.nil ?_
   exact At.meet false fl ⟨rfl, rfl, rfl, trivial⟩ rfl (some_inj H)
  replace H := ite_t hb9 H
  refine Lst.rG hb9 (Ev.move rfl) ?_
  obtain ⟨x10, h11, H⟩ := bind_some H
  refine Lst.rG hb9 (Ev.indexStr rfl rfl Tryz.runUnderlying9 h11) ?_
  refine Lst.rG hb9 (Ev.lss rfl rfl) ?_
  refine Lst.r (Ev.pickT rfl hb9 rfl) ?_
  refine Lst.nil ?_
  exact At.meet (decide ((x10.toBitVec.toNat : Int) < ((128 : BitVec 8).toNat : Int))) fl ⟨rfl, rfl, rfl, trivial⟩ rfl (some_inj H)
 rintro F12 y8 hF13 hy
 subst hy
 refine Lst.as (e' := [(0, Str.v a0), (1, Str.v a1), (21, .bool y8)]) (L' := L) ⟨rfl, rfl, rfl, trivial⟩ rfl ?_
 replace H := HKo7
 refine nt0 ?_
 rcases Bool.eq_false_or_eq_true y8 with hb14 | hb14
 ·replace H := ite_t hb14 H
  cases H
 replace H := ite_f hb14 H
 refine Cd.condF rfl hb14 ?_
 refine Cd.skip ?_
 refine At.then ?_
 refine Cd.seq ?_
 refine sr0 ?_
 refine mv0 rfl ?_
 obtain ⟨r15, h16, H⟩ := bind_some H
 refine Lst.call1 rfl rfl (by decide) (vs := [Str.v a1]) ⟨rfl, trivial⟩ Tryz.call226 (strings_makeASCIISet_sim h16 w0 _ M _ hM) ?_
 refine mv0 rfl ?_
 refine Lst.r (Ev.extract rfl rfl) ?_
 refine Lst.r (Ev.extract rfl rfl) ?_
 refine Lst.alloc (z := .agg (enc (Vector.replicate 256 false)).toArray) (cs := enc (Vector.replicate 256 false)) rfl rfl (by decide) (fun _ => by kernel_rfl) rfl (fun b19 => ?_)
 refine Lst.store (i := 0) rfl rfl rfl rfl rfl Tryz.sizeOf299 (vs := enc r15.1) rfl (Enc.len _) (Enc.one _) (cs' := enc r15.1) (Put.here ((Enc.len _).trans (Enc.len _).symm)) (L' := (.blk b19 (enc r15.1) 299) :: L) rfl ?_
 refine Lst.r (Ev.assign rfl) ?_
 refine nsr ?_
 refine mv0 rfl ?_
 refine nt0 ?_
 rcases Bool.eq_false_or_eq_true r15.2 with hb21 | hb21
 ·replace H := ite_t hb21 H
  refine Cd.condT rfl hb21 ?_
  refine sr0 ?_
  refine mv0 rfl ?_
  obtain ⟨r22, h23, H⟩ := bind_some H
  refine Lst.call1 rfl rfl (by decide) (vs := [Str.v a0, pv b19 0]) ⟨rfl, rfl, trivial⟩ Tryz.call228 (strings_trimRightASCII_sim h23 w0 _ M _ hM) ?_
  obtain ⟨r26, h27, H⟩ := bind_some H
  refine Lst.call1 rfl rfl (by decide) (vs := [Str.v r22, pv b19 0]) ⟨rfl, rfl, trivial⟩ Tryz.call227 (strings_trimLeftASCII_sim h27 w0 _ M _ hM) ?_
  refine Lst.r (Ev.assign rfl) ?_
  refine nt0 ?_
  obtain rfl := some_inj H
  refine Cd.ret ?_
  refine At.then_ret ?_
  exact At.ret1 rfl (Res.tmp rfl) (FLe.trans hF5 hF13) (sc1 (.refl _)) ⟨rfl, rfl⟩
 replace H := ite_f hb21 H
 cases H
set_option maxRecDepth 20000 in
theorem same_number_sim {fu : Nat} {a0 : Str} {r : Int × Bool} (H : same_number fu a0 = some r) (w0 : World) (F : Frz) (M L : List Item) (hM : M.Sublist L) : Ok Tryz.prog w0 122 [Str.v a0] F (L) (Is (.tuple #[iv r.1, .bool r.2]) (L)) := by
 unfold same_number at H
 refine Ok.enter (m := 1) (n := 26) Tryz.func122 rfl rfl rfl (by decide) ?_
 refine Cd.env (e' := [(0, Str.v a0)]) rfl ?_
 refine sr0 ?_
 refine Lst.r (Ev.assign rfl) ?_
 refine Lst.r (Ev.assign rfl) ?_
 refine nsr ?_
 refine mv0 rfl ?_
 obtain ⟨r1, h2, H⟩ := bind_some H
 refine Lst.call1 rfl rfl (by decide) (vs := [Str.v a0, Str.v ([45] : Str)]) ⟨rfl, rfl, trivial⟩ Tryz.call180 (strings_TrimPrefix_sim h2 w0 _ M _ hM) ?_
 refine Lst.r (Ev.assign rfl) ?_
 refine nt0 ?_
 refine Cd.seq ?_
 refine sr0 ?_
 refine mv0 rfl ?_
 refine Lst.r (Ev.lenStr rfl rfl Tryz.runUnderlying9) ?_
 obtain ⟨r5, h6, H⟩ := bind_some H
 refine Lst.call1 rfl rfl (by decide) (vs := [iv (r1.length : Int), iv (1 : Int), iv (9 : Int)]) ⟨rfl, rfl, rfl, trivial⟩ Tryz.call123 (same_in_sim h6 w0 _ M _ hM) ?_
 refine Lst.r (Ev.not rfl) ?_
 refine mv0 rfl ?_
 obtain ⟨o9, H, HKo9⟩ := bind_some H
 refine Lst.join (σ := Bool) 4 (fun y10 => [(0, Str.v a0), (17, .bool y10)]) (fun y10 => L) (fun _ y10 => y10 = o9) ?_ ?_
 ·rcases Bool.eq_false_or_eq_true (!r5) with hb11 | hb11
  ·replace H := ite_t hb11 H
   refine Lst.skip rfl rfl rfl hb11 rfl (by decide) ?_
   refine Lst.skip rfl rfl rfl hb11 rfl (by decide) ?_
   refine Lst.skip rfl rfl rfl hb11 rfl (by decide) ?_
   refine Lst.r (Ev.pickT rfl hb11 rfl) ?_
   refine Lst.nil ?_
   exact At.meet true fl ⟨rfl, rfl, trivial⟩ rfl (some_inj H)
  replace H := ite_f hb11 H
  refine Lst.rG hb11 (Ev.move rfl) ?_
  obtain ⟨r12, h13, H⟩ := bind_some H
  refine Lst.call1G rfl rfl rfl hb11 rfl (by decide) (vs := [Str.v r1, Str.v ([48, 49, 50, 51, 52, 53, 54, 55, 56, 57] : Str)]) ⟨rfl, rfl, trivial⟩ Tryz.call181 (strings_Trim_sim h13 w0 _ M _ hM) ?_
  refine Lst.rG hb11 (Ev.neqStr (s := r12) (m := ([] : Str)) rfl rfl) ?_
  refine Lst.r (Ev.pickF rfl hb11 rfl) ?_
  refine Lst.nil ?_
  exact At.meet (!(decide (r12 = ([] : Str)))) fl ⟨rfl, rfl, trivial⟩ rfl (some_inj H)
 rintro F16 y10 hF17 hy
 subst hy
 refine Lst.as (e' := [(0, Str.v a0), (17, .bool y10)]) (L' := L) ⟨rfl, rfl, trivial⟩ rfl ?_
 replace H := HKo9
 refine nt0 ?_
 rcases Bool.eq_false_or_eq_true y10 with hb18 | hb18
 ·replace H := ite_t hb18 H
  refine Cd.condT rfl hb18 ?_
  refine sr0 ?_
  refine Lst.r (Ev.assign rfl) ?_
  refine Lst.r (Ev.assign rfl) ?_
  refine nt0 ?_
  obtain rfl := some_inj H
  refine Cd.ret ?_
  refine At.then_ret ?_
  exact At.ret2 rfl (Res.tmp rfl) (Res.tmp rfl) hF17 (.refl _) ⟨rfl, rfl⟩
 replace H := ite_f hb18 H
 refine Cd.condF rfl hb18 ?_
 refine Cd.skip ?_
 refine At.then ?_
 refine sr0 ?_
 refine mv0 rfl ?_
 obtain ⟨r19, h20, H⟩ := bind_some H
 refine Lst.call1 rfl rfl (by decide) (vs := [Str.v a0]) ⟨rfl, trivial⟩ Tryz.call178 (strconv_Atoi_sim h20 w0 _ M _ hM) ?_
 refine mv0 rfl ?_
 refine Lst.r (Ev.extract rfl rfl) ?_
 refine Lst.r (Ev.extract rfl rfl) ?_
 refine Lst.r (Ev.assign rfl) ?_
 refine Lst.r (Ev.assign rfl) ?_
 refine nt0 ?_
 refine Cd.seq ?_
 refine Cd.quiet (by kernel_rfl) (by kernel_rfl) ?_
 refine Qt.r (Ev.move rfl) ?_
 refine Qt.r (Ev.move rfl) ?_
 refine Qt.r (Ev.eqlErr rfl Tryz.runUnderlying254) ?_
 refine Qt.r (Ev.assign rfl) ?_
 refine Qt.r (Ev.assign rfl) ?_
 refine Qt.done ?_
 refine At.then ?_
 obtain rfl := some_inj H
 refine Cd.ret ?_
 exact At.ret2 rfl (Res.tmp rfl) (Res.tmp rfl) hF17 (.refl _) ⟨rfl, rfl⟩
set_option maxRecDepth 20000 in
theorem same_Read_sim {fu : Nat} {a0 : Str} {r : Cmd × Int} (H : same_Read fu a0 = some r) (w0 : World) (F : Frz) (M L : List Item) (hM : M.Sublist L) : Ok Tryz.prog w0 67 [Str.v a0] F (L) (Is (.tuple #[.agg (enc r.1).toArray, iv r.2]) (L)) := by
 unfold same_Read at H
 refine Ok.enter (m := 1) (n := 66) Tryz.func67 rfl rfl rfl (by decide) ?_
 refine Cd.env (e' := [(0, Str.v a0)]) rfl ?_
 refine sr0 ?_
 refine Lst.alloc (cs := enc Cmd.zero) rfl rfl (by decide) Tryz.zeroValue138 rfl (fun b1 => ?_)
 refine Lst.r (Ev.assign rfl) ?_
 refine nsr ?_
 refine mv0 rfl ?_
 obtain ⟨r3, h4, H⟩ := bind_some H
 refine Lst.call rfl rfl (by decide) (vs := [Str.v a0, Str.v ([32] : Str)]) ⟨rfl, rfl, trivial⟩ Tryz.call52 (strings_Split_sim h4 w0 _ M _ (sc1 hM)) (fun F7 L' v hF8 hv => ?_)
 obtain ⟨s5, rfl, rfl⟩ := hv
 refine Lst.r (Ev.assign rfl) ?_
 refine nt0 ?_
 refine Cd.seq ?_
 refine sr0 ?_
 refine mv0 rfl ?_
 refine Lst.r (Ev.lenS (α := Str) (xs := r3) (by decide) rfl rfl Tryz.runUnderlying43 (rdo 0 rfl rfl rfl)) ?_
 refine Lst.r (Ev.neq rfl rfl) ?_
 refine nt0 ?_
 rcases Bool.eq_false_or_eq_true ((r3.length : Int) != (3 : Int)) with hb9 | hb9
 ·replace H := ite_t hb9 H
  refine Cd.condT rfl hb9 ?_
  refine sr0 ?_
  refine Lst.r (Ev.build (v := .agg (enc Cmd.zero).toArray) (pv := []) trivial (fun w => by kernel_rfl)) ?_
  refine Lst.store (i := 1) rfl rfl rfl rfl rfl Tryz.sizeOf138 (vs := enc Cmd.zero) rfl (Enc.len _) (Enc.one _) (cs' := enc Cmd.zero) (Put.here ((Enc.len _).trans (Enc.len _).symm)) (L' := (.own s5 9 1 (encs r3)) :: (.blk b1 (enc Cmd.zero) 138) :: L) rfl ?_
  refine Lst.r (Ev.assign rfl) ?_
  refine nt0 ?_
  obtain rfl := some_inj H
  refine Cd.ret ?_
  refine At.then_ret ?_
  exact At.ret2 rfl (Res.cellA (i := 1) rfl rfl Tryz.isAgg138 Tryz.sizeOf138 (Enc.len _)) (Res.tmp rfl) hF8 (sc1 (sc1 (.refl _))) ⟨rfl, rfl⟩
 replace H := ite_f hb9 H
 refine Cd.condF rfl hb9 ?_
 refine Cd.skip ?_
 refine At.then ?_
 refine sr0 ?_
 refine Lst.buildSlice (α := Str) (xs := ([([115, 101, 116] : Str), ([97, 100, 100] : Str), ([109, 111, 115, 116] : Str), ([99, 111, 112, 121] : Str)] : List Str)) (pv := [(0, Str.v ([115, 101, 116] : Str)), (1, Str.v ([97, 100, 100] : Str)), (2, Str.v ([109, 111, 115, 116] : Str)), (3, Str.v ([99, 111, 112, 121] : Str))]) rfl rfl (by decide) ⟨rfl, rfl, ⟨rfl, rfl, ⟨rfl, rfl, ⟨rfl, rfl, trivial⟩⟩⟩⟩ (run_buildSlice (α := Str) (z0 := ([] : Str)) (xs := ([([115, 101, 116] : Str), ([97, 100, 100] : Str), ([109, 111, 115, 116] : Str), ([99, 111, 112, 121] : Str)] : List Str)) Tryz.runUnderlying43 Tryz.sizeOf9 Tryz.zeroValue9 rfl rfl rfl (by decide) rfl (fill_cons (cs := encs (List.replicate 4 ([] : Str))) (cs' := encs ((List.replicate 4 ([] : Str)).set 0 ([115, 101, 116] : Str))) (vs := [Str.v ([115, 101, 116] : Str)]) rfl rfl rfl ((Put.elemN (s := 1) (i := 0) (x := ([] : Str)) (y := ([115, 101, 116] : Str)) rfl rfl (Put.here (vs := [Str.v ([115, 101, 116] : Str)]) rfl)).off rfl) (fill_cons (cs := encs ((List.replicate 4 ([] : Str)).set 0 ([115, 101, 116] : Str))) (cs' := encs (((List.replicate 4 ([] : Str)).set 0 ([115, 101, 116] : Str)).set 1 ([97, 100, 100] : Str))) (vs := [Str.v ([97, 100, 100] : Str)]) rfl rfl rfl ((Put.elemN (s := 1) (i := 1) (x := ([] : Str)) (y := ([97, 100, 100] : Str)) rfl rfl (Put.here (vs := [Str.v ([97, 100, 100] : Str)]) rfl)).off rfl) (fill_cons (cs := encs (((List.replicate 4 ([] : Str)).set 0 ([115, 101, 116] : Str)).set 1 ([97, 100, 100] : Str))) (cs' := encs ((((List.replicate 4 ([] : Str)).set 0 ([115, 101, 116] : Str)).set 1 ([97, 100, 100] : Str)).set 2 ([109, 111, 115, 116] : Str))) (vs := [Str.v ([109, 111, 115, 116] : Str)]) rfl rfl rfl ((Put.elemN (s := 1) (i := 2) (x := ([] : Str)) (y := ([109, 111, 115, 116] : Str)) rfl rfl (Put.here (vs := [Str.v ([109, 111, 115, 116] : Str)]) rfl)).off rfl) (fill_cons (cs := encs ((((List.replicate 4 ([] : Str)).set 0 ([115, 101, 116] : Str)).set 1 ([97, 100, 100] : Str)).set 2 ([109, 111, 115, 116] : Str))) (cs' := encs (((((List.replicate 4 ([] : Str)).set 0 ([115, 101, 116] : Str)).set 1 ([97, 100, 100] : Str)).set 2 ([109, 111, 115, 116] : Str)).set 3 ([99, 111, 112, 121] : Str))) (vs := [Str.v ([99, 111, 112, 121] : Str)]) rfl rfl rfl ((Put.elemN (s := 1) (i := 3) (x := ([] : Str)) (y := ([99, 111, 112, 121] : Str)) rfl rfl (Put.here (vs := [Str.v ([99, 111, 112, 121] : Str)]) rfl)).off rfl) fill_nil))))) rfl rfl (by decide) (fun s10 _ => ?_)
 refine mv0 rfl ?_
 obtain ⟨x12, h13, H⟩ := bind_some H
 have g14 := lat_some h13
 refine Lst.r (Ev.indexS (α := Str) (xs := r3) rfl rfl Tryz.runUnderlying43 Tryz.sizeOf9 rfl (by decide) (rdo 1 rfl rfl rfl) g14.1 g14.2.1) ?_
 refine Lst.r (Ev.loadS (α := Str) rfl (rdo 1 rfl rfl rfl) Tryz.isAgg9 (v := Str.v x12) ((Get.elemN (s := 1) (x := x12) rfl g14.2.2 gh0).off (by omega))) ?_
 obtain ⟨r15, h16, H⟩ := bind_some H
 refine Lst.call1 rfl rfl (by decide) (vs := [Sl.v s10, Str.v x12]) ⟨rfl, rfl, trivial⟩ Tryz.call121 (slices_Index_string_string_sim h16 w0 _ _ _ (.refl _) (rdo 0 rfl rfl rfl)) ?_
 refine Lst.r (Ev.add rfl rfl) ?_
 refine Lst.r (Ev.assign rfl) ?_
 refine nsr ?_
 refine mv0 rfl ?_
 obtain ⟨x19, h20, H⟩ := bind_some H
 have g21 := lat_some h20
 refine Lst.r (Ev.indexS (α := Str) (xs := r3) rfl rfl Tryz.runUnderlying43 Tryz.sizeOf9 rfl (by decide) (rdo 1 rfl rfl rfl) g21.1 g21.2.1) ?_
 refine Lst.r (Ev.loadS (α := Str) rfl (rdo 1 rfl rfl rfl) Tryz.isAgg9 (v := Str.v x19) ((Get.elemN (s := 1) (x := x19) rfl g21.2.2 gh0).off (by omega))) ?_
 obtain ⟨r22, h23, H⟩ := bind_some H
 refine Lst.call1 rfl rfl (by decide) (vs := [Str.v x19]) ⟨rfl, trivial⟩ Tryz.call122 (same_number_sim h23 w0 _ M _ (sc2 (sc1 hM))) ?_
 refine mv0 rfl ?_
 refine Lst.r (Ev.extract rfl rfl) ?_
 refine Lst.r (Ev.extract rfl rfl) ?_
 refine Lst.r (Ev.assign rfl) ?_
 refine Lst.r (Ev.assign rfl) ?_
 refine nt0 ?_
 refine Cd.seq ?_
 refine Cd.as (e' := [(2, pv b1 0), (4, Sl.v s5), (5, iv (w64 (r15 + (1 : Int)))), (6, iv r22.1), (7, .bool r22.2)]) (L' := (.own s10 9 1 (encs ([([115, 101, 116] : Str), ([97, 100, 100] : Str), ([109, 111, 115, 116] : Str), ([99, 111, 112, 121] : Str)] : List Str))) :: (.own s5 9 1 (encs r3)) :: (.blk b1 (enc Cmd.zero) 138) :: L) ⟨rfl, rfl, rfl, rfl, rfl, trivial⟩ rfl ?_
 refine Cd.region ?_
 refine mv0 rfl ?_
 obtain ⟨x26, h27, H⟩ := bind_some H
 have g28 := lat_some h27
 refine Lst.r (Ev.indexS (α := Str) (xs := r3) rfl rfl Tryz.runUnderlying43 Tryz.sizeOf9 rfl (by decide) (rdo 1 rfl rfl rfl) g28.1 g28.2.1) ?_
 refine Lst.r (Ev.loadS (α := Str) rfl (rdo 1 rfl rfl rfl) Tryz.isAgg9 (v := Str.v x26) ((Get.elemN (s := 1) (x := x26) rfl g28.2.2 gh0).off (by omega))) ?_
 obtain ⟨r29, h30, H⟩ := bind_some H
 refine Lst.call1 rfl rfl (by decide) (vs := [Str.v x26]) ⟨rfl, trivial⟩ Tryz.call122 (same_number_sim h30 w0 _ M _ (sc2 (sc1 hM))) ?_
 refine mv0 rfl ?_
 refine Lst.r (Ev.extract rfl rfl) ?_
 refine Lst.r (Ev.extract rfl rfl) ?_
 refine Lst.r (Ev.assign rfl) ?_
 refine Lst.r (Ev.assign rfl) ?_
 refine nt0 ?_
 refine Cd.seq ?_
 refine Cd.block ?_
 refine sr0 ?_
 refine mv0 rfl ?_
 refine Lst.r (Ev.eql rfl rfl) ?_
 refine mv0 rfl ?_
 obtain ⟨o33, H, HKo33⟩ := bind_some H
 refine Lst.join (σ := Bool) 3 (fun y34 => [(2, pv b1 0), (5, iv (w64 (r15 + (1 : Int)))), (6, iv r22.1), (8, iv r29.1), (9, .bool r29.2), (42, .bool y34)]) (fun y34 => (.own s10 9 1 (encs ([([115, 101, 116] : Str), ([97, 100, 100] : Str), ([109, 111, 115, 116] : Str), ([99, 111, 112, 121] : Str)] : List Str))) :: (.own s5 9 1 (encs r3)) :: (.blk b1 (enc Cmd.zero) 138) :: L) (fun _ y34 => y34 = o33) ?_ ?_
 ·rcases Bool.eq_false_or_eq_true ((w64 (r15 + (1 : Int))) == (0 : Int)) with hb35 | hb35
  ·replace H := ite_t hb35 H
   refine Lst.skip rfl rfl rfl hb35 rfl (by decide) ?_
   refine Lst.skip rfl rfl rfl hb35 rfl (by decide) ?_
   refine Lst.r (Ev.pickT rfl hb35 rfl) ?_
   refine Lst.nil ?_
   exact At.meet true fl ⟨rfl, rfl, rfl, rfl, rfl, rfl, trivial⟩ rfl (some_inj H)
  replace H := ite_f hb35 H
  refine Lst.rG hb35 (Ev.move rfl) ?_
  refine Lst.rG hb35 (Ev.not rfl) ?_
  refine Lst.r (Ev.pickF rfl hb35 rfl) ?_
  refine Lst.nil ?_
  exact At.meet (!r22.2) fl ⟨rfl, rfl, rfl, rfl, rfl, rfl, trivial⟩ rfl (some_inj H)
 rintro F36 y34 hF37 hy
 subst hy
 refine Lst.as (e' := [(2, pv b1 0), (5, iv (w64 (r15 + (1 : Int)))), (6, iv r22.1), (8, iv r29.1), (9, .bool r29.2), (42, .bool y34)]) (L' := (.own s10 9 1 (encs ([([115, 101, 116] : Str), ([97, 100, 100] : Str), ([109, 111, 115, 116] : Str), ([99, 111, 112, 121] : Str)] : List Str))) :: (.own s5 9 1 (encs r3)) :: (.blk b1 (enc Cmd.zero) 138) :: L) ⟨rfl, rfl, rfl, rfl, rfl, rfl, trivial⟩ rfl ?_
 replace H := HKo33
 refine mv0 rfl ?_
 obtain ⟨o38, H, HKo38⟩ := bind_some H
 refine Lst.join (σ := Bool) 3 (fun y39 => [(2, pv b1 0), (5, iv (w64 (r15 + (1 : Int)))), (6, iv r22.1), (8, iv r29.1), (46, .bool y39)]) (fun y39 => (.own s10 9 1 (encs ([([115, 101, 116] : Str), ([97, 100, 100] : Str), ([109, 111, 115, 116] : Str), ([99, 111, 112, 121] : Str)] : List Str))) :: (.own s5 9 1 (encs r3)) :: (.blk b1 (enc Cmd.zero) 138) :: L) (fun _ y39 => y39 = o38) ?_ ?_
 ·rcases Bool.eq_false_or_eq_true y34 with hb40 | hb40
  ·replace H := ite_t hb40 H
   refine Lst.skip rfl rfl rfl hb40 rfl (by decide) ?_
   refine Lst.skip rfl rfl rfl hb40 rfl (by decide) ?_
   refine Lst.r (Ev.pickT rfl hb40 rfl) ?_
   refine Lst.nil ?_
   exact At.meet true fl ⟨rfl, rfl, rfl, rfl, rfl, trivial⟩ rfl (some_inj H)
  replace H := ite_f hb40 H
  refine Lst.rG hb40 (Ev.move rfl) ?_
  refine Lst.rG hb40 (Ev.not rfl) ?_
  refine Lst.r (Ev.pickF rfl hb40 rfl) ?_
  refine Lst.nil ?_
  exact At.meet (!r29.2) fl ⟨rfl, rfl, rfl, rfl, rfl, trivial⟩ rfl (some_inj H)
 rintro F41 y39 hF42 hy
 subst hy
 refine Lst.as (e' := [(2, pv b1 0), (5, iv (w64 (r15 + (1 : Int)))), (6, iv r22.1), (8, iv r29.1), (46, .bool y39)]) (L' := (.own s10 9 1 (encs ([([115, 101, 116] : Str), ([97, 100, 100] : Str), ([109, 111, 115, 116] : Str), ([99, 111, 112, 121] : Str)] : List Str))) :: (.own s5 9 1 (encs r3)) :: (.blk b1 (enc Cmd.zero) 138) :: L) ⟨rfl, rfl, rfl, rfl, rfl, trivial⟩ rfl ?_
 replace H := HKo38
 refine Lst.r (Ev.assign rfl) ?_
 refine nt0 ?_
 rcases Bool.eq_false_or_eq_true y39 with hb43 | hb43
 ·replace H := ite_t hb43 H
  refine Cd.condT rfl hb43 ?_
  refine sr0 ?_
  refine Lst.r (Ev.build (v := .agg (enc Cmd.zero).toArray) (pv := []) trivial (fun w => by kernel_rfl)) ?_
  refine Lst.store (i := 2) rfl rfl rfl rfl rfl Tryz.sizeOf138 (vs := enc Cmd.zero) rfl (Enc.len _) (Enc.one _) (cs' := enc Cmd.zero) (Put.here ((Enc.len _).trans (Enc.len _).symm)) (L' := (.own s10 9 1 (encs ([([115, 101, 116] : Str), ([97, 100, 100] : Str), ([109, 111, 115, 116] : Str), ([99, 111, 112, 121] : Str)] : List Str))) :: (.own s5 9 1 (encs r3)) :: (.blk b1 (enc Cmd.zero) 138) :: L) rfl ?_
  refine Lst.r (Ev.assign rfl) ?_
  refine nt0 ?_
  obtain rfl := some_inj H
  refine Cd.ret ?_
  refine At.in_ret ?_
  refine At.then_ret ?_
  exact At.ret2 rfl (Res.cellA (i := 2) rfl rfl Tryz.isAgg138 Tryz.sizeOf138 (Enc.len _)) (Res.tmp rfl) (FLe.trans (FLe.trans hF8 hF37) hF42) (sc1 (sc1 (sc1 (.refl _)))) ⟨rfl, rfl⟩
 replace H := ite_f hb43 H
 refine Cd.condF rfl hb43 ?_
 refine sr0 ?_
 refine mv0 rfl ?_
 obtain ⟨r44, h45, H⟩ := bind_some H
 refine Lst.call1 rfl rfl (by decide) (vs := [iv r22.1, iv (0 : Int), iv (9 : Int)]) ⟨rfl, rfl, rfl, trivial⟩ Tryz.call123 (same_in_sim h45 w0 _ M _ (sc2 (sc1 hM))) ?_
 refine Lst.r (Ev.not rfl) ?_
 refine mv0 rfl ?_
 rcases Bool.eq_false_or_eq_true (!r44) with hb48 | hb48
 ·replace H := ite_t hb48 H
  refine Lst.skip rfl rfl rfl hb48 rfl (by decide) ?_
  refine Lst.skip rfl rfl rfl hb48 rfl (by decide) ?_
  refine Lst.skip rfl rfl rfl hb48 rfl (by decide) ?_
  refine Lst.skipU rfl rfl rfl rfl (by decide) ?_
  refine Lst.skipU rfl rfl rfl rfl (by decide) ?_
  refine Lst.skipU rfl rfl rfl rfl (by decide) ?_
  refine Lst.skip rfl rfl rfl hb48 rfl (by decide) ?_
  refine Lst.r (Ev.pickT rfl hb48 rfl) ?_
  refine Lst.r (Ev.assign rfl) ?_
  refine nt0 ?_
  refine Cd.condT rfl rfl ?_
  refine Cd.seq ?_
  refine Cd.as (e' := [(2, pv b1 0)]) (L' := (.own s10 9 1 (encs ([([115, 101, 116] : Str), ([97, 100, 100] : Str), ([109, 111, 115, 116] : Str), ([99, 111, 112, 121] : Str)] : List Str))) :: (.own s5 9 1 (encs r3)) :: (.blk b1 (enc Cmd.zero) 138) :: L) ⟨rfl, trivial⟩ rfl ?_
  refine Cd.region ?_
  refine Lst.r (Ev.build (v := .agg (enc Cmd.zero).toArray) (pv := []) trivial (fun w => by kernel_rfl)) ?_
  refine Lst.store (i := 2) rfl rfl rfl rfl rfl Tryz.sizeOf138 (vs := enc Cmd.zero) rfl (Enc.len _) (Enc.one _) (cs' := enc Cmd.zero) (Put.here ((Enc.len _).trans (Enc.len _).symm)) (L' := (.own s10 9 1 (encs ([([115, 101, 116] : Str), ([97, 100, 100] : Str), ([109, 111, 115, 116] : Str), ([99, 111, 112, 121] : Str)] : List Str))) :: (.own s5 9 1 (encs r3)) :: (.blk b1 (enc Cmd.zero) 138) :: L) rfl ?_
  refine Lst.r (Ev.assign rfl) ?_
  refine nt0 ?_
  obtain rfl := some_inj H
  refine Cd.ret ?_
  refine At.in_ret ?_
  refine At.then_ret ?_
  exact At.ret2 rfl (Res.cellA (i := 2) rfl rfl Tryz.isAgg138 Tryz.sizeOf138 (Enc.len _)) (Res.tmp rfl) (FLe.trans (FLe.trans hF8 hF37) hF42) (sc1 (sc1 (sc1 (.refl _)))) ⟨rfl, rfl⟩
 replace H := ite_f hb48 H
 refine Lst.rG hb48 (Ev.move rfl) ?_
 refine Lst.rG hb48 (Ev.eql rfl rfl) ?_
 refine Lst.rG hb48 (Ev.move rfl) ?_
 obtain ⟨o49, H, HKo49⟩ := bind_some H
 refine Lst.join (σ := Bool) 4 (fun y50 => [(2, pv b1 0), (5, iv (w64 (r15 + (1 : Int)))), (6, iv r22.1), (8, iv r29.1), (52, .bool (!r44)), (59, .bool y50)]) (fun y50 => (.own s10 9 1 (encs ([([115, 101, 116] : Str), ([97, 100, 100] : Str), ([109, 111, 115, 116] : Str), ([99, 111, 112, 121] : Str)] : List Str))) :: (.own s5 9 1 (encs r3)) :: (.blk b1 (enc Cmd.zero) 138) :: L) (fun _ y50 => y50 = o49) ?_ ?_
 ·rcases (Bool.eq_false_or_eq_true ((w64 (r15 + (1 : Int))) == (4 : Int))).symm with hb51 | hb51
  ·replace H := ite_f hb51 H
   refine Lst.skip rfl rfl rfl hb51 rfl (by decide) ?_
   refine Lst.skip rfl rfl rfl hb51 rfl (by decide) ?_
   refine Lst.skip rfl rfl rfl hb51 rfl (by decide) ?_
   refine Lst.rG hb48 (Ev.pickF rfl hb51 rfl) ?_
   refine Lst.nil ?_
   exact At.meet false fl ⟨rfl, rfl, rfl, rfl, rfl, rfl, trivial⟩ rfl (some_inj H)
  replace H := ite_t hb51 H
  refine Lst.rG hb51 (Ev.move rfl) ?_
  obtain ⟨r52, h53, H⟩ := bind_some H
  refine Lst.call1G rfl rfl rfl hb51 rfl (by decide) (vs := [iv r29.1, iv (0 : Int), iv (9 : Int)]) ⟨rfl, rfl, rfl, trivial⟩ Tryz.call123 (same_in_sim h53 w0 _ M _ (sc2 (sc1 hM))) ?_
  refine Lst.rG hb51 (Ev.not rfl) ?_
  refine Lst.rG hb48 (Ev.pickT rfl hb51 rfl) ?_
  refine Lst.nil ?_
  exact At.meet (!r52) fl ⟨rfl, rfl, rfl, rfl, rfl, rfl, trivial⟩ rfl (some_inj H)
 rintro F56 y50 hF57 hy
 subst hy
 refine Lst.as (e' := [(2, pv b1 0), (5, iv (w64 (r15 + (1 : Int)))), (6, iv r22.1), (8, iv r29.1), (52, .bool (!r44)), (59, .bool y50)]) (L' := (.own s10 9 1 (encs ([([115, 101, 116] : Str), ([97, 100, 100] : Str), ([109, 111, 115, 116] : Str), ([99, 111, 112, 121] : Str)] : List Str))) :: (.own s5 9 1 (encs r3)) :: (.blk b1 (enc Cmd.zero) 138) :: L) ⟨rfl, rfl, rfl, rfl, rfl, rfl, trivial⟩ rfl ?_
 replace H := HKo49
 refine Lst.r (Ev.pickF rfl hb48 rfl) ?_
 refine Lst.r (Ev.assign rfl) ?_
 refine nt0 ?_
 rcases Bool.eq_false_or_eq_true y50 with hb58 | hb58
 ·replace H := ite_t hb58 H
  refine Cd.condT rfl hb58 ?_
  refine sr0 ?_
  refine Lst.r (Ev.build (v := .agg (enc Cmd.zero).toArray) (pv := []) trivial (fun w => by kernel_rfl)) ?_
  refine Lst.store (i := 2) rfl rfl rfl rfl rfl Tryz.sizeOf138 (vs := enc Cmd.zero) rfl (Enc.len _) (Enc.one _) (cs' := enc Cmd.zero) (Put.here ((Enc.len _).trans (Enc.len _).symm)) (L' := (.own s10 9 1 (encs ([([115, 101, 116] : Str), ([97, 100, 100] : Str), ([109, 111, 115, 116] : Str), ([99, 111, 112, 121] : Str)] : List Str))) :: (.own s5 9 1 (encs r3)) :: (.blk b1 (enc Cmd.zero) 138) :: L) rfl ?_
  refine Lst.r (Ev.assign rfl) ?_
  refine nt0 ?_
  obtain rfl := some_inj H
  refine Cd.ret ?_
  refine At.in_ret ?_
  refine At.then_ret ?_
  exact At.ret2 rfl (Res.cellA (i := 2) rfl rfl Tryz.isAgg138 Tryz.sizeOf138 (Enc.len _)) (Res.tmp rfl) (FLe.trans (FLe.trans (FLe.trans hF8 hF37) hF42) hF57) (sc1 (sc1 (sc1 (.refl _)))) ⟨rfl, rfl⟩
 replace H := ite_f hb58 H
 refine Cd.condF rfl hb58 ?_
 refine Cd.skip ?_
 refine At.in_normal ?_
 refine At.then ?_
 refine sr0 ?_
 refine mv0 rfl ?_
 refine mv0 rfl ?_
 refine mv0 rfl ?_
 refine Lst.r (Ev.build (v := .agg (enc ({ Cmd.zero with Kind := w64 (r15 + (1 : Int)), Key := r22.1, N := r29.1 } : Cmd)).toArray) (pv := [(0, iv (w64 (r15 + (1 : Int)))), (1, iv r22.1), (2, iv r29.1)]) ⟨rfl, rfl, ⟨rfl, rfl, ⟨rfl, rfl, trivial⟩⟩⟩ (fun w => by kernel_rfl)) ?_
 refine Lst.store (i := 2) rfl rfl rfl rfl rfl Tryz.sizeOf138 (vs := enc ({ Cmd.zero with Kind := w64 (r15 + (1 : Int)), Key := r22.1, N := r29.1 } : Cmd)) rfl (Enc.len _) (Enc.one _) (cs' := enc ({ Cmd.zero with Kind := w64 (r15 + (1 : Int)), Key := r22.1, N := r29.1 } : Cmd)) (Put.here ((Enc.len _).trans (Enc.len _).symm)) (L' := (.own s10 9 1 (encs ([([115, 101, 116] : Str), ([97, 100, 100] : Str), ([109, 111, 115, 116] : Str), ([99, 111, 112, 121] : Str)] : List Str))) :: (.own s5 9 1 (encs r3)) :: (.blk b1 (enc ({ Cmd.zero with Kind := w64 (r15 + (1 : Int)), Key := r22.1, N := r29.1 } : Cmd)) 138) :: L) rfl ?_
 refine Lst.r (Ev.assign rfl) ?_
 refine nt0 ?_
 obtain rfl := some_inj H
 refine Cd.ret ?_
 exact At.ret2 rfl (Res.cellA (i := 2) rfl rfl Tryz.isAgg138 Tryz.sizeOf138 (Enc.len _)) (Res.tmp rfl) (FLe.trans (FLe.trans (FLe.trans hF8 hF37) hF42) hF57) (sc1 (sc1 (sc1 (.refl _)))) ⟨rfl, rfl⟩
set_option maxRecDepth 20000 in
theorem same_clamp_sim {a0 : Int} {r : Int} (H : same_clamp a0 = some r) (w0 : World) (F : Frz) (M L : List Item) (hM : M.Sublist L) : Ok Tryz.prog w0 124 [iv a0] F (L) (Is (iv r) (L)) := by
 unfold same_clamp at H
 refine Ok.enter (m := 1) (n := 6) Tryz.func124 rfl rfl rfl (by decide) ?_
 refine Cd.env (e' := [(0, iv a0)]) rfl ?_
 refine sr0 ?_
 refine Lst.r (Ev.assign rfl) ?_
 refine nsr ?_
 refine mv0 rfl ?_
 refine Lst.r (Ev.max2 rfl rfl) ?_
 refine Lst.r (Ev.min2 rfl rfl) ?_
 refine Lst.r (Ev.assign rfl) ?_
 refine nt0 ?_
 obtain rfl := some_inj H
 refine Cd.ret ?_
 exact At.ret1 rfl (Res.tmp rfl) fl (.refl _) ⟨rfl, rfl⟩
set_option maxRecDepth 20000 in
theorem same_run_sim {a0 : Vector Int 10} {a1 : Cmd} {b_a0 : Nat} {r : (Vector Int 10)} (H : same_run a0 a1 = some r) (w0 : World) (F : Frz) (M L : List Item) (hM : M.Sublist L) : Ok Tryz.prog w0 68 [pv b_a0 0, .agg (enc a1).toArray] F ((.blk b_a0 (enc a0) 57) :: L) (fun _ L' v => v = .tuple #[] ∧ L' = (.blk b_a0 (enc r) 57) :: L) := by
 unfold same_run at H
 refine Ok.enter (m := 2) (n := 54) Tryz.func68 rfl rfl rfl (by decide) ?_
 refine Cd.env (e' := [(0, pv b_a0 0), (1, .agg (enc a1).toArray)]) rfl ?_
 refine sr0 ?_
 refine Lst.box rfl rfl (by decide) rfl (cs := enc a1) rfl (fun b2 => ?_)
 refine nt0 ?_
 refine Cd.seq ?_
 refine Cd.quiet (by kernel_rfl) (by kernel_rfl) ?_
 refine Qt.r (Ev.move rfl) ?_
 refine Qt.r (Ev.fieldAddr (off' := 1) rfl Tryz.runUnderlying138 rfl Tryz.sizeOf3 rfl rfl) ?_
 refine Qt.r (Ev.load (i := 0) rfl rfl Tryz.isAgg3 (v := iv a1.Key) ((Cmd.get_Key gh0).off (by rfl))) ?_
 refine Qt.r (Ev.nilCheck rfl) ?_
 obtain ⟨x4, h5, H⟩ := bind_some H
 have g6 := vat_some h5
 refine Qt.r (Ev.indexAddr (off' := 0 + a1.Key.toNat * 1) rfl rfl Tryz.runUnderlying57 Tryz.sizeOf3 g6.1 g6.2.1 rfl) ?_
 refine Qt.r (Ev.assign rfl) ?_
 refine Qt.done ?_
 refine At.then ?_
 refine sr0 ?_
 refine Lst.r (Ev.fieldAddr (off' := 0) rfl Tryz.runUnderlying138 rfl Tryz.sizeOf3 rfl rfl) ?_
 refine Lst.r (Ev.load (i := 0) rfl rfl Tryz.isAgg3 (v := iv a1.Kind) ((Cmd.get_Kind gh0).off (by rfl))) ?_
 refine nt0 ?_
 refine Cd.block ?_
 refine sr0 ?_
 refine Lst.r (Ev.eql rfl rfl) ?_
 refine Lst.r (Ev.assign rfl) ?_
 refine nt0 ?_
 rcases Bool.eq_false_or_eq_true (a1.Kind == (1 : Int)) with hb7 | hb7
 ·replace H := ite_t hb7 H
  refine Cd.condT rfl hb7 ?_
  refine Cd.region ?_
  refine mv0 rfl ?_
  refine Lst.r (Ev.fieldAddr (off' := 2) rfl Tryz.runUnderlying138 rfl Tryz.sizeOf3 rfl rfl) ?_
  refine Lst.r (Ev.load (i := 0) rfl rfl Tryz.isAgg3 (v := iv a1.N) ((Cmd.get_N gh0).off (by rfl))) ?_
  obtain ⟨r8, h9, H⟩ := bind_some H
  refine Lst.call1 rfl rfl (by decide) (vs := [iv a1.N]) ⟨rfl, trivial⟩ Tryz.call124 (same_clamp_sim h9 w0 _ M _ (sc2 hM)) ?_
  refine Lst.r (Ev.nilCheck rfl) ?_
  obtain ⟨p12, h13, H⟩ := Let_some H
  refine Lst.store (i := 1) rfl rfl rfl rfl rfl Tryz.sizeOf3 (vs := [iv r8]) rfl rfl rfl (cs' := enc p12) (by rw [← h13]; exact (Put.vecN (s := 1) (x := x4) rfl g6.2.2 (Put.here (vs := [iv r8]) rfl)).off (by omega)) (L' := (.blk b2 (enc a1) 138) :: (.blk b_a0 (enc p12) 57) :: L) rfl ?_
  refine Lst.nil ?_
  refine At.in_normal ?_
  obtain rfl := some_inj H
  exact At.ret0 (.inr rfl) rfl fl (sc1 (sk1 (.refl _))) ⟨rfl, rfl⟩
 replace H := ite_f hb7 H
 refine Cd.condF rfl hb7 ?_
 refine sr0 ?_
 refine Lst.r (Ev.eql rfl rfl) ?_
 refine Lst.r (Ev.assign rfl) ?_
 refine nt0 ?_
 rcases Bool.eq_false_or_eq_true (a1.Kind == (2 : Int)) with hb14 | hb14
 ·replace H := ite_t hb14 H
  refine Cd.condT rfl hb14 ?_
  refine Cd.tail 12 (by kernel_rfl) (by kernel_rfl) ?_
  refine Qt.r (Ev.move rfl) ?_
  refine Qt.r (Ev.move rfl) ?_
  refine Qt.r (Ev.nilCheck rfl) ?_
  refine Qt.r (Ev.load (i := 1) rfl rfl Tryz.isAgg3 (v := iv x4) ((Get.vecN (s := 1) (x := x4) rfl g6.2.2 gh0).off (by omega))) ?_
  refine Qt.r (Ev.max2 rfl rfl) ?_
  refine Qt.r (Ev.min2 rfl rfl) ?_
  refine Qt.r (Ev.fieldAddr (off' := 2) rfl Tryz.runUnderlying138 rfl Tryz.sizeOf3 rfl rfl) ?_
  refine Qt.r (Ev.load (i := 0) rfl rfl Tryz.isAgg3 (v := iv a1.N) ((Cmd.get_N gh0).off (by rfl))) ?_
  obtain ⟨r15, h16, H⟩ := bind_some H
  refine Qt.call rfl rfl (by decide) (vs := [iv a1.N]) ⟨rfl, trivial⟩ Tryz.call124 (same_clamp_sim h16 w0 _ M _ (sc2 hM)) ?_
  refine Qt.r (Ev.add rfl rfl) ?_
  obtain ⟨r19, h20, H⟩ := bind_some H
  refine Qt.call rfl rfl (by decide) (vs := [iv (w64 ((min (max x4 (-4000000000 : Int)) (4000000000 : Int)) + r15))]) ⟨rfl, trivial⟩ Tryz.call124 (same_clamp_sim h20 w0 _ M _ (sc2 hM)) ?_
  refine Qt.r (Ev.nilCheck rfl) ?_
  refine Qt.tail ?_
  obtain ⟨p23, h24, H⟩ := Let_some H
  refine Lst.store (i := 1) rfl rfl rfl rfl rfl Tryz.sizeOf3 (vs := [iv r19]) rfl rfl rfl (cs' := enc p23) (by rw [← h24]; exact (Put.vecN (s := 1) (x := x4) rfl g6.2.2 (Put.here (vs := [iv r19]) rfl)).off (by omega)) (L' := (.blk b2 (enc a1) 138) :: (.blk b_a0 (enc p23) 57) :: L) rfl ?_
  refine Lst.nil ?_
  refine At.in_normal ?_
  obtain rfl := some_inj H
  exact At.ret0 (.inr rfl) rfl fl (sc1 (sk1 (.refl _))) ⟨rfl, rfl⟩
 replace H := ite_f hb14 H
 refine Cd.condF rfl hb14 ?_
 refine sr0 ?_
 refine Lst.r (Ev.eql rfl rfl) ?_
 refine Lst.r (Ev.assign rfl) ?_
 refine nt0 ?_
 rcases Bool.eq_false_or_eq_true (a1.Kind == (3 : Int)) with hb25 | hb25
 ·replace H := ite_t hb25 H
  refine Cd.condT rfl hb25 ?_
  refine Cd.as (e' := [(3, pv b2 0), (4, pv b_a0 (0 + a1.Key.toNat * 1))]) (L' := (.blk b2 (enc a1) 138) :: (.blk b_a0 (enc a0) 57) :: L) ⟨rfl, rfl, trivial⟩ rfl ?_
  refine Cd.tail 9 (by kernel_rfl) (by kernel_rfl) ?_
  refine Qt.r (Ev.move rfl) ?_
  refine Qt.r (Ev.move rfl) ?_
  refine Qt.r (Ev.nilCheck rfl) ?_
  refine Qt.r (Ev.load (i := 1) rfl rfl Tryz.isAgg3 (v := iv x4) ((Get.vecN (s := 1) (x := x4) rfl g6.2.2 gh0).off (by omega))) ?_
  refine Qt.r (Ev.fieldAddr (off' := 2) rfl Tryz.runUnderlying138 rfl Tryz.sizeOf3 rfl rfl) ?_
  refine Qt.r (Ev.load (i := 0) rfl rfl Tryz.isAgg3 (v := iv a1.N) ((Cmd.get_N gh0).off (by rfl))) ?_
  obtain ⟨r26, h27, H⟩ := bind_some H
  refine Qt.call rfl rfl (by decide) (vs := [iv a1.N]) ⟨rfl, trivial⟩ Tryz.call124 (same_clamp_sim h27 w0 _ M _ (sc2 hM)) ?_
  refine Qt.r (Ev.max2 rfl rfl) ?_
  refine Qt.r (Ev.nilCheck rfl) ?_
  refine Qt.tail ?_
  obtain ⟨p30, h31, H⟩ := Let_some H
  refine Lst.store (i := 1) rfl rfl rfl rfl rfl Tryz.sizeOf3 (vs := [iv (max x4 r26)]) rfl rfl rfl (cs' := enc p30) (by rw [← h31]; exact (Put.vecN (s := 1) (x := x4) rfl g6.2.2 (Put.here (vs := [iv (max x4 r26)]) rfl)).off (by omega)) (L' := (.blk b2 (enc a1) 138) :: (.blk b_a0 (enc p30) 57) :: L) rfl ?_
  refine Lst.nil ?_
  refine At.in_normal ?_
  obtain rfl := some_inj H
  exact At.ret0 (.inr rfl) rfl fl (sc1 (sk1 (.refl _))) ⟨rfl, rfl⟩
 replace H := ite_f hb25 H
 refine Cd.condF rfl hb25 ?_
 refine sr0 ?_
 refine Lst.r (Ev.eql rfl rfl) ?_
 refine Lst.r (Ev.assign rfl) ?_
 refine nt0 ?_
 rcases (Bool.eq_false_or_eq_true (a1.Kind == (4 : Int))).symm with hb32 | hb32
 ·replace H := ite_f hb32 H
  refine Cd.condF rfl hb32 ?_
  refine Cd.skip ?_
  refine At.in_normal ?_
  obtain rfl := some_inj H
  exact At.ret0 (.inr rfl) rfl fl (sc1 (sk1 (.refl _))) ⟨rfl, rfl⟩
 replace H := ite_t hb32 H
 refine Cd.condT rfl hb32 ?_
 refine Cd.as (e' := [(0, pv b_a0 0), (3, pv b2 0), (4, pv b_a0 (0 + a1.Key.toNat * 1))]) (L' := (.blk b2 (enc a1) 138) :: (.blk b_a0 (enc a0) 57) :: L) ⟨rfl, rfl, rfl, trivial⟩ rfl ?_
 refine Cd.tail 8 (by kernel_rfl) (by kernel_rfl) ?_
 refine Qt.r (Ev.move rfl) ?_
 refine Qt.r (Ev.move rfl) ?_
 refine Qt.r (Ev.fieldAddr (off' := 2) rfl Tryz.runUnderlying138 rfl Tryz.sizeOf3 rfl rfl) ?_
 refine Qt.r (Ev.load (i := 0) rfl rfl Tryz.isAgg3 (v := iv a1.N) ((Cmd.get_N gh0).off (by rfl))) ?_
 refine Qt.r (Ev.nilCheck rfl) ?_
 obtain ⟨x33, h34, H⟩ := bind_some H
 have g35 := vat_some h34
 refine Qt.r (Ev.indexAddr (off' := 0 + a1.N.toNat * 1) rfl rfl Tryz.runUnderlying57 Tryz.sizeOf3 g35.1 g35.2.1 rfl) ?_
 refine Qt.r (Ev.load (i := 1) rfl rfl Tryz.isAgg3 (v := iv x33) ((Get.vecN (s := 1) (x := x33) rfl g35.2.2 gh0).off (by omega))) ?_
 refine Qt.r (Ev.nilCheck rfl) ?_
 refine Qt.tail ?_
 obtain ⟨p36, h37, H⟩ := Let_some H
 refine Lst.store (i := 1) rfl rfl rfl rfl rfl Tryz.sizeOf3 (vs := [iv x33]) rfl rfl rfl (cs' := enc p36) (by rw [← h37]; exact (Put.vecN (s := 1) (x := x4) rfl g6.2.2 (Put.here (vs := [iv x33]) rfl)).off (by omega)) (L' := (.blk b2 (enc a1) 138) :: (.blk b_a0 (enc p36) 57) :: L) rfl ?_
 refine Lst.nil ?_
 refine At.in_normal ?_
 obtain rfl := some_inj H
 exact At.ret0 (.inr rfl) rfl fl (sc1 (sk1 (.refl _))) ⟨rfl, rfl⟩
end Go.Proofs.YtchmclllcdknjaaGreatDoor
