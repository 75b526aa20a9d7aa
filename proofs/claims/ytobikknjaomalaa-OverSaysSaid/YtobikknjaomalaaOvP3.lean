/-
  The functions compute their specs; printed by a program.
-/
import Derived.Test.YtobikknjaomalaaOvP2
namespace Go.Proofs.Ytobikknjaomalaa
open Go.RowKit Enc
set_option linter.unusedVariables false
set_option linter.unusedSimpArgs false
set_option maxRecDepth 20000 in
theorem partref_OverGive_sim {a0 : Over} {a1 : Int} {a2 : Int} {s_a0_0 : Sl} {s_a0_1 : Sl} {r : Over × Int} (H : partref_OverGive a0 a1 a2 = some r) (w0 : World) (F : Frz) (M L : List Item) (hM : M.Sublist L) (hs_a0_0 : Rd w0 F M s_a0_0 a0.Hands) (hs_a0_1 : Rd w0 F M s_a0_1 a0.Way) : Ok Try.prog w0 84 [.agg (enc (OverR.mk a0 s_a0_0 s_a0_1)).toArray, .int .i64 a1, .int .i64 a2] F (L) (fun _ L' v => ∃ (s149 : Sl) (s151 : Sl), v = .tuple #[.agg (enc (OverR.mk r.1 s149 s151)).toArray, .int .i64 r.2] ∧ L' = (.own s149 135 3 (encs r.1.Hands)) :: (.own s151 209 3 (encs r.1.Way)) :: L) := by
  unfold partref_OverGive at H
  refine Ok.enter (m := 3) (n := 53) Try.func84 rfl rfl rfl (by decide) ?_
  refine Cd.env (e' := [(0, .agg (enc (OverR.mk a0 s_a0_0 s_a0_1)).toArray), (1, .int .i64 a1), (2, .int .i64 a2)]) rfl ?_
  refine Cd.seq ?_
  refine Cd.region ?_
  refine Lst.box rfl rfl (by decide) rfl (cs := enc (OverR.mk a0 s_a0_0 s_a0_1)) rfl (fun b1 => ?_)
  refine Lst.addNil 135 3 ?_
  refine Lst.addNil 209 3 ?_
  refine Lst.alloc (cs := enc (OverR.mk ({ Over.zero with Hands := ([] : List Hand), Way := ([] : List Word) } : Over) Sl.nil Sl.nil)) rfl rfl (by decide) Try.zeroValue124 rfl (fun b5 => ?_)
  refine Lst.run rfl rfl (by decide) (Ev.assign rfl) ?_
  refine Lst.nil ?_
  refine At.then ?_
  refine Cd.seq ?_
  refine Cd.seq ?_
  refine Cd.region ?_
  refine Lst.run rfl rfl (by decide) (Ev.fieldAddr (off' := 0) rfl Try.runUnderlying124 rfl Try.sizeOf122 rfl rfl) ?_
  refine Lst.run rfl rfl (by decide) (Ev.load (i := 3) rfl rfl Try.isAgg122 (v := Sl.v s_a0_0) ((OverR.get_Hands (Get.here _)).off (by rfl))) ?_
  refine Lst.run rfl rfl (by decide) (Ev.move rfl) ?_
  obtain ⟨x7, h8, H⟩ := bind_some H
  have g9 := lat_some h8
  refine Lst.run rfl rfl (by decide) (Ev.indexS (α := Hand) (xs := a0.Hands) rfl rfl Try.runUnderlying122 Try.sizeOf135 rfl (by decide) (hs_a0_0.mono (FLe.refl _) (List.Sublist.cons _ (List.Sublist.cons _ (List.Sublist.cons _ (List.Sublist.cons _ hM))))) g9.1 g9.2.1) ?_
  refine Lst.run rfl rfl (by decide) (Ev.fieldS (α := Hand) (f' := a1.toNat * 3 + 0) rfl (hs_a0_0.mono (FLe.refl _) (List.Sublist.cons _ (List.Sublist.cons _ (List.Sublist.cons _ (List.Sublist.cons _ hM))))) ((Get.elemN (s := 3) (x := x7) rfl g9.2.2 (Get.here _)).off (by omega)) rfl Try.runUnderlying135 rfl Try.sizeOf4 rfl rfl rfl) ?_
  refine Lst.run rfl rfl (by decide) (Ev.loadS (α := Hand) rfl (hs_a0_0.mono (FLe.refl _) (List.Sublist.cons _ (List.Sublist.cons _ (List.Sublist.cons _ (List.Sublist.cons _ hM))))) Try.isAgg4 (v := .bool x7.Busy) ((Get.elemN (s := 3) (x := x7) rfl g9.2.2 (Hand.get_Busy (Get.here _))).off (by omega))) ?_
  refine Lst.run rfl rfl (by decide) (Ev.not rfl) ?_
  refine Lst.nil ?_
  refine At.then ?_
  rcases Bool.eq_false_or_eq_true (!x7.Busy) with hb10 | hb10
  · replace H := ite_t hb10 H
    refine Cd.condT rfl hb10 ?_
    refine Cd.seq ?_
    refine Cd.region ?_
    refine Lst.run rfl rfl (by decide) (Ev.build (v := .agg (enc (OverR.mk Over.zero Sl.nil Sl.nil)).toArray) (pv := []) trivial (fun w => by kernel_rfl)) ?_
    refine Lst.store (i := 0) rfl rfl rfl rfl rfl Try.sizeOf124 (vs := enc (OverR.mk Over.zero Sl.nil Sl.nil)) rfl (Enc.len _) (Enc.one _) (cs' := enc (OverR.mk Over.zero Sl.nil Sl.nil)) (Put.here ((Enc.len _).trans (Enc.len _).symm)) (L' := (.blk b5 (enc (OverR.mk Over.zero Sl.nil Sl.nil)) 124) :: (.own Sl.nil 209 3 (encs ([] : List Word))) :: (.own Sl.nil 135 3 (encs ([] : List Hand))) :: (.blk b1 (enc (OverR.mk a0 s_a0_0 s_a0_1)) 124) :: L) rfl ?_
    refine Lst.run rfl rfl (by decide) (Ev.assign rfl) ?_
    refine Lst.nil ?_
    refine At.then ?_
    obtain rfl := some_inj H
    refine Cd.ret ?_
    refine At.then_ret ?_
    refine At.addNil 135 3 ?_
    refine At.addNil 209 3 ?_
    refine At.front (i := 1) rfl rfl ?_
    exact At.ret2 rfl (Res.cellA (i := 2) rfl rfl Try.isAgg124 Try.sizeOf124 (Enc.len _)) (Res.tmp rfl) (FLe.refl _) (List.Sublist.cons_cons _ (List.Sublist.cons_cons _ (List.Sublist.cons _ (List.Sublist.cons _ (List.Sublist.cons _ (List.Sublist.cons _ (List.Sublist.refl _))))))) ⟨Sl.nil, Sl.nil, rfl, rfl⟩
  replace H := ite_f hb10 H
  refine Cd.condF rfl hb10 ?_
  refine Cd.skip ?_
  refine At.then ?_
  refine Cd.seq ?_
  refine Cd.seq ?_
  refine Cd.region ?_
  refine Lst.run rfl rfl (by decide) (Ev.fieldAddr (off' := 0) rfl Try.runUnderlying124 rfl Try.sizeOf122 rfl rfl) ?_
  refine Lst.run rfl rfl (by decide) (Ev.load (i := 3) rfl rfl Try.isAgg122 (v := Sl.v s_a0_0) ((OverR.get_Hands (Get.here _)).off (by rfl))) ?_
  refine Lst.run rfl rfl (by decide) (Ev.move rfl) ?_
  obtain ⟨x13, h14, H⟩ := bind_some H
  have g15 := lat_some h14
  refine Lst.run rfl rfl (by decide) (Ev.indexS (α := Hand) (xs := a0.Hands) rfl rfl Try.runUnderlying122 Try.sizeOf135 rfl (by decide) (hs_a0_0.mono (FLe.refl _) (List.Sublist.cons _ (List.Sublist.cons _ (List.Sublist.cons _ (List.Sublist.cons _ hM))))) g15.1 g15.2.1) ?_
  refine Lst.run rfl rfl (by decide) (Ev.fieldS (α := Hand) (f' := a1.toNat * 3 + 2) rfl (hs_a0_0.mono (FLe.refl _) (List.Sublist.cons _ (List.Sublist.cons _ (List.Sublist.cons _ (List.Sublist.cons _ hM))))) ((Get.elemN (s := 3) (x := x13) rfl g15.2.2 (Get.here _)).off (by omega)) rfl Try.runUnderlying135 rfl Try.sizeOf3 rfl rfl rfl) ?_
  refine Lst.run rfl rfl (by decide) (Ev.loadS (α := Hand) rfl (hs_a0_0.mono (FLe.refl _) (List.Sublist.cons _ (List.Sublist.cons _ (List.Sublist.cons _ (List.Sublist.cons _ hM))))) Try.isAgg3 (v := .int .i64 x13.Owed) ((Get.elemN (s := 3) (x := x13) rfl g15.2.2 (Hand.get_Owed (Get.here _))).off (by omega))) ?_
  refine Lst.run rfl rfl (by decide) (Ev.eql rfl rfl) ?_
  refine Lst.run rfl rfl (by decide) (Ev.move rfl) ?_
  obtain ⟨o16, H, HKo16⟩ := bind_some H
  refine Lst.join (σ := Bool) 5 (fun y17 => [(1, .int .i64 a1), (2, .int .i64 a2), (3, .pointer (some ⟨b1, 0, none⟩)), (6, .pointer (some ⟨b5, 0, none⟩)), (29, .bool y17)]) (fun y17 => (.blk b5 (enc (OverR.mk ({ Over.zero with Hands := ([] : List Hand), Way := ([] : List Word) } : Over) Sl.nil Sl.nil)) 124) :: (.own Sl.nil 209 3 (encs ([] : List Word))) :: (.own Sl.nil 135 3 (encs ([] : List Hand))) :: (.blk b1 (enc (OverR.mk a0 s_a0_0 s_a0_1)) 124) :: L) (fun _ y17 => y17 = o16) ?_ ?_
  · rcases Bool.eq_false_or_eq_true (x13.Owed == (16777215 : Int)) with hb18 | hb18
    · replace H := ite_t hb18 H
      refine Lst.skip rfl rfl rfl hb18 rfl (by decide) ?_
      refine Lst.skip rfl rfl rfl hb18 rfl (by decide) ?_
      refine Lst.skip rfl rfl rfl hb18 rfl (by decide) ?_
      refine Lst.skip rfl rfl rfl hb18 rfl (by decide) ?_
      refine Lst.run rfl rfl (by decide) (Ev.pickT rfl hb18 rfl) ?_
      refine Lst.nil ?_
      exact At.meet true (FLe.refl _) ⟨rfl, rfl, rfl, rfl, rfl, trivial⟩ rfl (some_inj H)
    replace H := ite_f hb18 H
    refine Lst.runG rfl rfl rfl hb18 rfl (by decide) (Ev.fieldAddr (off' := 1) rfl Try.runUnderlying124 rfl Try.sizeOf112 rfl rfl) ?_
    refine Lst.runG rfl rfl rfl hb18 rfl (by decide) (Ev.load (i := 3) rfl rfl Try.isAgg112 (v := Sl.v s_a0_1) ((OverR.get_Way (Get.here _)).off (by rfl))) ?_
    refine Lst.runG rfl rfl rfl hb18 rfl (by decide) (Ev.lenS (α := Word) (xs := a0.Way) (by decide) rfl rfl Try.runUnderlying112 (hs_a0_1.mono (FLe.refl _) (List.Sublist.cons _ (List.Sublist.cons _ (List.Sublist.cons _ (List.Sublist.cons _ hM)))))) ?_
    refine Lst.runG rfl rfl rfl hb18 rfl (by decide) (Ev.eql rfl rfl) ?_
    refine Lst.run rfl rfl (by decide) (Ev.pickF rfl hb18 rfl) ?_
    refine Lst.nil ?_
    exact At.meet ((a0.Way.length : Int) == (100 : Int)) (FLe.refl _) ⟨rfl, rfl, rfl, rfl, rfl, trivial⟩ rfl (some_inj H)
  rintro F19 y17 hF20 hy
  subst hy
  refine Lst.as (e' := [(1, .int .i64 a1), (2, .int .i64 a2), (3, .pointer (some ⟨b1, 0, none⟩)), (6, .pointer (some ⟨b5, 0, none⟩)), (29, .bool y17)]) (L' := (.blk b5 (enc (OverR.mk ({ Over.zero with Hands := ([] : List Hand), Way := ([] : List Word) } : Over) Sl.nil Sl.nil)) 124) :: (.own Sl.nil 209 3 (encs ([] : List Word))) :: (.own Sl.nil 135 3 (encs ([] : List Hand))) :: (.blk b1 (enc (OverR.mk a0 s_a0_0 s_a0_1)) 124) :: L) ⟨rfl, rfl, rfl, rfl, rfl, trivial⟩ rfl ?_
  replace H := HKo16
  refine Lst.nil ?_
  refine At.then ?_
  rcases Bool.eq_false_or_eq_true y17 with hb21 | hb21
  · replace H := ite_t hb21 H
    refine Cd.condT rfl hb21 ?_
    refine Cd.seq ?_
    refine Cd.region ?_
    refine Lst.run rfl rfl (by decide) (Ev.build (v := .agg (enc (OverR.mk Over.zero Sl.nil Sl.nil)).toArray) (pv := []) trivial (fun w => by kernel_rfl)) ?_
    refine Lst.store (i := 0) rfl rfl rfl rfl rfl Try.sizeOf124 (vs := enc (OverR.mk Over.zero Sl.nil Sl.nil)) rfl (Enc.len _) (Enc.one _) (cs' := enc (OverR.mk Over.zero Sl.nil Sl.nil)) (Put.here ((Enc.len _).trans (Enc.len _).symm)) (L' := (.blk b5 (enc (OverR.mk Over.zero Sl.nil Sl.nil)) 124) :: (.own Sl.nil 209 3 (encs ([] : List Word))) :: (.own Sl.nil 135 3 (encs ([] : List Hand))) :: (.blk b1 (enc (OverR.mk a0 s_a0_0 s_a0_1)) 124) :: L) rfl ?_
    refine Lst.run rfl rfl (by decide) (Ev.assign rfl) ?_
    refine Lst.nil ?_
    refine At.then ?_
    obtain rfl := some_inj H
    refine Cd.ret ?_
    refine At.then_ret ?_
    refine At.addNil 135 3 ?_
    refine At.addNil 209 3 ?_
    refine At.front (i := 1) rfl rfl ?_
    exact At.ret2 rfl (Res.cellA (i := 2) rfl rfl Try.isAgg124 Try.sizeOf124 (Enc.len _)) (Res.tmp rfl) hF20 (List.Sublist.cons_cons _ (List.Sublist.cons_cons _ (List.Sublist.cons _ (List.Sublist.cons _ (List.Sublist.cons _ (List.Sublist.cons _ (List.Sublist.refl _))))))) ⟨Sl.nil, Sl.nil, rfl, rfl⟩
  replace H := ite_f hb21 H
  refine Cd.condF rfl hb21 ?_
  refine Cd.skip ?_
  refine At.then ?_
  refine Cd.seq ?_
  obtain ⟨r24, h25, H⟩ := bind_some H
  obtain ⟨r30, h31, H⟩ := bind_some H
  obtain ⟨u38, h39, H⟩ := bind_some H
  obtain ⟨o57, h58, H⟩ := Let_some H
  refine Cd.headMeet (σ := Nat × Sl × (List Word) × Sl × (List Hand) × Sl × (List Word) × Sl × (List Word) × Sl × (List Hand)) 13 (fun (b46, s47, l48, s49, l50, s51, l52, s53, l54, s55, l56) => [(1, .int .i64 a1), (6, .pointer (some ⟨b5, 0, none⟩)), (8, .pointer (some ⟨b46, 0, none⟩)), (42, .agg (enc (OverR.mk ({ Over.zero with Hands := l56, Way := l54 } : Over) s55 s53)).toArray)]) (fun (b46, s47, l48, s49, l50, s51, l52, s53, l54, s55, l56) => (.blk b46 (enc (OverR.mk ({ Over.zero with Hands := l50, Way := l48 } : Over) s49 s47)) 124) :: (.own s47 209 3 (encs l48)) :: (.own s49 135 3 (encs l50)) :: (.own s51 209 3 (encs l52)) :: (.own s53 209 3 (encs l54)) :: (.own s55 135 3 (encs l56)) :: (.blk b5 (enc (OverR.mk ({ Over.zero with Hands := ([] : List Hand), Way := ([] : List Word) } : Over) Sl.nil Sl.nil)) 124) :: (.own Sl.nil 209 3 (encs ([] : List Word))) :: (.own Sl.nil 135 3 (encs ([] : List Hand))) :: (.blk b1 (enc (OverR.mk a0 s_a0_0 s_a0_1)) 124) :: L) (fun _ (b46, s47, l48, s49, l50, s51, l52, s53, l54, s55, l56) => (l48, l50, l52, l54, l56) = o57) (by kernel_rfl) (by kernel_rfl) (behind_sink (by kernel_rfl) (by kernel_rfl) (by kernel_rfl)) (by kernel_rfl) (fun hsel hlt => ?_) ?_
  · refine HdJ.keep (fun w => St w0 F19 ((.blk b5 (enc (OverR.mk ({ Over.zero with Hands := ([] : List Hand), Way := ([] : List Word) } : Over) Sl.nil Sl.nil)) 124) :: (.own Sl.nil 209 3 (encs ([] : List Word))) :: (.own Sl.nil 135 3 (encs ([] : List Hand))) :: (.blk b1 (enc (OverR.mk a0 s_a0_0 s_a0_1)) 124) :: L) w) (fun w h => trivial) ?_
    refine HdJ.takeK hsel hlt 0 (fun w h => h.sublist (List.Sublist.cons_cons _ (List.Sublist.cons_cons _ (List.Sublist.cons_cons _ (List.Sublist.cons_cons _ (List.Sublist.refl _)))))) rfl rfl (by decide) (by decide) (by kernel_rfl) (by kernel_rfl) rfl (Ev.fieldAddr (off' := 0) rfl Try.runUnderlying124 rfl Try.sizeOf122 rfl rfl) ?_
    refine HdJ.takeK hsel hlt 1 (fun w h => h.sublist (List.Sublist.cons_cons _ (List.Sublist.cons_cons _ (List.Sublist.cons_cons _ (List.Sublist.cons_cons _ (List.Sublist.refl _)))))) rfl rfl (by decide) (by decide) (by kernel_rfl) (by kernel_rfl) rfl (Ev.load (i := 3) rfl rfl Try.isAgg122 (v := Sl.v s_a0_0) ((OverR.get_Hands (Get.here _)).off (by rfl))) ?_
    refine HdJ.takeK hsel hlt 3 (fun w h => h.sublist (List.Sublist.cons_cons _ (List.Sublist.cons_cons _ (List.Sublist.cons_cons _ (List.Sublist.cons_cons _ (List.Sublist.refl _)))))) rfl rfl (by decide) (by decide) (by kernel_rfl) (by kernel_rfl) rfl (Ev.fieldAddr (off' := 1) rfl Try.runUnderlying124 rfl Try.sizeOf112 rfl rfl) ?_
    refine HdJ.takeK hsel hlt 4 (fun w h => h.sublist (List.Sublist.cons_cons _ (List.Sublist.cons_cons _ (List.Sublist.cons_cons _ (List.Sublist.cons_cons _ (List.Sublist.refl _)))))) rfl rfl (by decide) (by decide) (by kernel_rfl) (by kernel_rfl) rfl (Ev.load (i := 3) rfl rfl Try.isAgg112 (v := Sl.v s_a0_1) ((OverR.get_Way (Get.here _)).off (by rfl))) ?_
    refine HdJ.takeK hsel hlt 6 (fun w h => h.sublist (List.Sublist.cons_cons _ (List.Sublist.cons_cons _ (List.Sublist.cons_cons _ (List.Sublist.cons_cons _ (List.Sublist.refl _)))))) rfl rfl (by decide) (by decide) (by kernel_rfl) (by kernel_rfl) rfl (Ev.move rfl) ?_
    refine HdJ.takeK hsel hlt 7 (fun w h => h.sublist (List.Sublist.cons_cons _ (List.Sublist.cons_cons _ (List.Sublist.cons_cons _ (List.Sublist.cons_cons _ (List.Sublist.refl _)))))) rfl rfl (by decide) (by decide) (by kernel_rfl) (by kernel_rfl) rfl (Ev.move rfl) ?_
    refine HdJ.takeK hsel hlt 8 (fun w h => h.sublist (List.Sublist.cons_cons _ (List.Sublist.cons_cons _ (List.Sublist.cons_cons _ (List.Sublist.cons_cons _ (List.Sublist.refl _)))))) rfl rfl (by decide) (by decide) (by kernel_rfl) (by kernel_rfl) rfl (Ev.build (v := .agg (enc ({ Word.zero with From := a1, To := a2, At := (1 : Int) } : Word)).toArray) (pv := [(0, .int .i64 a1), (1, .int .i64 a2), (2, .int .i64 (1 : Int))]) ⟨rfl, rfl, ⟨rfl, rfl, ⟨rfl, rfl, trivial⟩⟩⟩ (fun w => by kernel_rfl)) ?_
    refine HdJ.step [2, 9, 12] (by kernel_rfl) rfl ?_
    refine HdStep.cons (by decide) rfl (fun inv => ?_) ?_
    · refine Lst.call rfl rfl (by decide) (vs := [Sl.v s_a0_0]) ⟨rfl, trivial⟩ Try.call171 (slices_Clone_api_Hand_api_Hand_sim h25 w0 _ M _ (List.Sublist.cons _ (List.Sublist.cons _ (List.Sublist.cons _ (List.Sublist.cons _ hM)))) (hs_a0_0.mono hF20 (List.Sublist.refl _))) (fun F60 L' v hF61 hv => ?_)
      obtain ⟨s59, rfl, rfl⟩ := hv
      refine Lst.nil ?_
      refine At.hd inv (fun w h => (h.weaken hF61).sublist (List.Sublist.cons _ (List.Sublist.cons_cons _ (List.Sublist.cons_cons _ (List.Sublist.cons_cons _ (List.Sublist.cons_cons _ (List.Sublist.refl _))))))) ?_
      refine HdJ.step [5, 9, 12] (by kernel_rfl) rfl ?_
      refine HdStep.cons (by decide) rfl (fun inv => ?_) ?_
      · refine Lst.call rfl rfl (by decide) (vs := [Sl.v s_a0_1]) ⟨rfl, trivial⟩ Try.call173 (slices_Clone_api_Word_api_Word_sim h31 w0 _ M _ (List.Sublist.cons _ (List.Sublist.cons _ (List.Sublist.cons _ (List.Sublist.cons _ (List.Sublist.cons _ hM))))) (hs_a0_1.mono (FLe.trans hF20 hF61) (List.Sublist.refl _))) (fun F63 L' v hF64 hv => ?_)
        obtain ⟨s62, rfl, rfl⟩ := hv
        refine Lst.nil ?_
        refine At.hd inv (fun w h => (h.weaken (FLe.trans hF61 hF64)).sublist (List.Sublist.cons _ (List.Sublist.cons _ (List.Sublist.cons_cons _ (List.Sublist.cons_cons _ (List.Sublist.cons_cons _ (List.Sublist.cons_cons _ (List.Sublist.refl _)))))))) ?_
        refine HdJ.step [9, 12] (by kernel_rfl) rfl ?_
        refine HdStep.cons (by decide) rfl (fun inv => ?_) ?_
        · refine Lst.buildSlice (α := Word) (xs := ([({ Word.zero with From := a1, To := a2, At := (1 : Int) } : Word)] : List Word)) (pv := [(0, .agg (enc ({ Word.zero with From := a1, To := a2, At := (1 : Int) } : Word)).toArray)]) rfl rfl (by decide) ⟨rfl, rfl, trivial⟩ (run_buildSlice (α := Word) (z0 := Word.zero) (xs := ([({ Word.zero with From := a1, To := a2, At := (1 : Int) } : Word)] : List Word)) Try.runUnderlying112 Try.sizeOf209 Try.zeroValue209 rfl rfl rfl (by decide) rfl (fill_cons (cs := encs (List.replicate 1 Word.zero)) (cs' := encs ((List.replicate 1 Word.zero).set 0 ({ Word.zero with From := a1, To := a2, At := (1 : Int) } : Word))) (vs := enc ({ Word.zero with From := a1, To := a2, At := (1 : Int) } : Word)) rfl rfl (Enc.len _) ((Put.elemN (s := 3) (i := 0) (x := Word.zero) (y := ({ Word.zero with From := a1, To := a2, At := (1 : Int) } : Word)) rfl rfl (Put.here ((Enc.len _).trans (Enc.len _).symm))).off rfl) fill_nil)) rfl rfl (by decide) (fun s65 _ => ?_)
          refine Lst.nil ?_
          refine At.hd inv (fun w h => (h.weaken (FLe.trans hF61 hF64)).sublist (List.Sublist.cons _ (List.Sublist.cons _ (List.Sublist.cons _ (List.Sublist.cons_cons _ (List.Sublist.cons_cons _ (List.Sublist.cons_cons _ (List.Sublist.cons_cons _ (List.Sublist.refl _))))))))) ?_
          refine HdJ.step [10, 12] (by kernel_rfl) rfl ?_
          refine HdStep.cons (by decide) rfl (fun inv => ?_) ?_
          · refine Lst.append (i := 1) (α := Word) (xs := r30) (ys := ([({ Word.zero with From := a1, To := a2, At := (1 : Int) } : Word)] : List Word)) rfl rfl (by decide) rfl rfl Try.runUnderlying112 Try.typeInfo209 rfl rfl rfl rfl rfl rfl (Rd.own (i := 0) rfl rfl rfl) rfl (room_some h39) rfl (fun s66 => ?_)
            refine Lst.its (L' := (.own s65 209 3 (encs ([({ Word.zero with From := a1, To := a2, At := (1 : Int) } : Word)] : List Word))) :: (.own s66 209 3 (encs (r30 ++ ([({ Word.zero with From := a1, To := a2, At := (1 : Int) } : Word)] : List Word)))) :: (.own s59 135 3 (encs r24)) :: (.blk b5 (enc (OverR.mk ({ Over.zero with Hands := ([] : List Hand), Way := ([] : List Word) } : Over) Sl.nil Sl.nil)) 124) :: (.own Sl.nil 209 3 (encs ([] : List Word))) :: (.own Sl.nil 135 3 (encs ([] : List Hand))) :: (.blk b1 (enc (OverR.mk a0 s_a0_0 s_a0_1)) 124) :: L) rfl ?_
            refine Lst.nil ?_
            refine At.hd inv (fun w h => (h.weaken (FLe.trans hF61 hF64)).sublist (List.Sublist.cons _ (List.Sublist.cons _ (List.Sublist.cons _ (List.Sublist.cons_cons _ (List.Sublist.cons_cons _ (List.Sublist.cons_cons _ (List.Sublist.cons_cons _ (List.Sublist.refl _))))))))) ?_
            refine HdJ.keep (fun w => St w0 F63 ((.own s65 209 3 (encs ([({ Word.zero with From := a1, To := a2, At := (1 : Int) } : Word)] : List Word))) :: (.own s66 209 3 (encs (r30 ++ ([({ Word.zero with From := a1, To := a2, At := (1 : Int) } : Word)] : List Word)))) :: (.own s59 135 3 (encs r24)) :: (.blk b5 (enc (OverR.mk ({ Over.zero with Hands := ([] : List Hand), Way := ([] : List Word) } : Over) Sl.nil Sl.nil)) 124) :: (.own Sl.nil 209 3 (encs ([] : List Word))) :: (.own Sl.nil 135 3 (encs ([] : List Hand))) :: (.blk b1 (enc (OverR.mk a0 s_a0_0 s_a0_1)) 124) :: L) w) (fun w h => (h.weaken (FLe.trans hF61 hF64)).sublist (List.Sublist.cons _ (List.Sublist.cons _ (List.Sublist.cons _ (List.Sublist.cons_cons _ (List.Sublist.cons_cons _ (List.Sublist.cons_cons _ (List.Sublist.cons_cons _ (List.Sublist.refl _))))))))) ?_
            refine HdJ.takeK hsel hlt 11 (fun w h => h.sublist (List.Sublist.cons_cons _ (List.Sublist.cons_cons _ (List.Sublist.cons_cons _ (List.Sublist.cons_cons _ (List.Sublist.cons_cons _ (List.Sublist.cons_cons _ (List.Sublist.cons_cons _ (List.Sublist.refl _))))))))) rfl rfl (by decide) (by decide) (by kernel_rfl) (by kernel_rfl) rfl (Ev.build (v := .agg (enc (OverR.mk ({ Over.zero with Hands := r24, Way := r30 ++ ([({ Word.zero with From := a1, To := a2, At := (1 : Int) } : Word)] : List Word) } : Over) s59 s66)).toArray) (pv := [(0, Sl.v s59), (1, Sl.v s66)]) ⟨rfl, rfl, ⟨rfl, rfl, trivial⟩⟩ (run_buildStruct (places := #[(0, 1), (1, 1)]) Try.zeroValue124 (zs := enc (OverR.mk Over.zero Sl.nil Sl.nil)) rfl Try.runUnderlying124 (fun w => by kernel_rfl) (fill_cons (cs := enc (OverR.mk Over.zero Sl.nil Sl.nil)) (cs' := enc (OverR.mk ({ Over.zero with Hands := r24 } : Over) s59 Sl.nil)) (vs := [Sl.v s59]) rfl rfl rfl ((OverR.put_Hands (p := (OverR.mk Over.zero Sl.nil Sl.nil)) (y := s59) (Put.here (vs := [Sl.v s59]) rfl)).off rfl) (fill_cons (cs := enc (OverR.mk ({ Over.zero with Hands := r24 } : Over) s59 Sl.nil)) (cs' := enc (OverR.mk ({ Over.zero with Hands := r24, Way := r30 ++ ([({ Word.zero with From := a1, To := a2, At := (1 : Int) } : Word)] : List Word) } : Over) s59 s66)) (vs := [Sl.v s66]) rfl rfl rfl ((OverR.put_Way (p := (OverR.mk ({ Over.zero with Hands := r24 } : Over) s59 Sl.nil)) (y := s66) (Put.here (vs := [Sl.v s66]) rfl)).off rfl) fill_nil)))) ?_
            refine HdJ.step [12] (by kernel_rfl) rfl ?_
            refine HdStep.cons (by decide) rfl (fun inv => ?_) ?_
            · refine Lst.addNil 135 3 ?_
              refine Lst.addNil 209 3 ?_
              refine Lst.alloc (cs := enc (OverR.mk ({ Over.zero with Hands := ([] : List Hand), Way := ([] : List Word) } : Over) Sl.nil Sl.nil)) rfl rfl (by decide) Try.zeroValue124 rfl (fun b67 => ?_)
              refine Lst.nil ?_
              refine At.hd inv (fun w h => (h.weaken (FLe.refl _)).sublist (List.Sublist.cons _ (List.Sublist.cons _ (List.Sublist.cons _ (List.Sublist.cons_cons _ (List.Sublist.cons_cons _ (List.Sublist.cons_cons _ (List.Sublist.cons_cons _ (List.Sublist.cons_cons _ (List.Sublist.cons_cons _ (List.Sublist.cons_cons _ (List.Sublist.refl _)))))))))))) ?_
              refine HdJ.done (by kernel_rfl) ?_
              exact At.meetN (b67, Sl.nil, ([] : List Word), Sl.nil, ([] : List Hand), s65, ([({ Word.zero with From := a1, To := a2, At := (1 : Int) } : Word)] : List Word), s66, r30 ++ ([({ Word.zero with From := a1, To := a2, At := (1 : Int) } : Word)] : List Word), s59, r24) (FLe.trans hF61 hF64) ⟨rfl, rfl, rfl, rfl, trivial⟩ rfl h58
            exact trivial
          refine HdStep.cons (by decide) rfl (fun inv => ?_) ?_
          · refine Lst.addNil 135 3 ?_
            refine Lst.addNil 209 3 ?_
            refine Lst.alloc (cs := enc (OverR.mk ({ Over.zero with Hands := ([] : List Hand), Way := ([] : List Word) } : Over) Sl.nil Sl.nil)) rfl rfl (by decide) Try.zeroValue124 rfl (fun b68 => ?_)
            refine Lst.nil ?_
            refine At.hd inv (fun w h => (h.weaken (FLe.trans hF61 hF64)).sublist (List.Sublist.cons _ (List.Sublist.cons _ (List.Sublist.cons _ (List.Sublist.cons _ (List.Sublist.cons _ (List.Sublist.cons _ (List.Sublist.cons_cons _ (List.Sublist.cons_cons _ (List.Sublist.cons_cons _ (List.Sublist.cons_cons _ (List.Sublist.refl _)))))))))))) ?_
            refine HdJ.step [10] (by kernel_rfl) rfl ?_
            refine HdStep.cons (by decide) rfl (fun inv => ?_) ?_
            · refine Lst.append (i := 4) (α := Word) (xs := r30) (ys := ([({ Word.zero with From := a1, To := a2, At := (1 : Int) } : Word)] : List Word)) rfl rfl (by decide) rfl rfl Try.runUnderlying112 Try.typeInfo209 rfl rfl rfl rfl rfl rfl (Rd.own (i := 3) rfl rfl rfl) rfl (room_some h39) rfl (fun s69 => ?_)
              refine Lst.its (L' := (.blk b68 (enc (OverR.mk ({ Over.zero with Hands := ([] : List Hand), Way := ([] : List Word) } : Over) Sl.nil Sl.nil)) 124) :: (.own Sl.nil 209 3 (encs ([] : List Word))) :: (.own Sl.nil 135 3 (encs ([] : List Hand))) :: (.own s65 209 3 (encs ([({ Word.zero with From := a1, To := a2, At := (1 : Int) } : Word)] : List Word))) :: (.own s69 209 3 (encs (r30 ++ ([({ Word.zero with From := a1, To := a2, At := (1 : Int) } : Word)] : List Word)))) :: (.own s59 135 3 (encs r24)) :: (.blk b5 (enc (OverR.mk ({ Over.zero with Hands := ([] : List Hand), Way := ([] : List Word) } : Over) Sl.nil Sl.nil)) 124) :: (.own Sl.nil 209 3 (encs ([] : List Word))) :: (.own Sl.nil 135 3 (encs ([] : List Hand))) :: (.blk b1 (enc (OverR.mk a0 s_a0_0 s_a0_1)) 124) :: L) rfl ?_
              refine Lst.nil ?_
              refine At.hd inv (fun w h => (h.weaken (FLe.trans hF61 hF64)).sublist (List.Sublist.cons _ (List.Sublist.cons _ (List.Sublist.cons _ (List.Sublist.cons _ (List.Sublist.cons _ (List.Sublist.cons _ (List.Sublist.cons_cons _ (List.Sublist.cons_cons _ (List.Sublist.cons_cons _ (List.Sublist.cons_cons _ (List.Sublist.refl _)))))))))))) ?_
              refine HdJ.keep (fun w => St w0 F63 ((.blk b68 (enc (OverR.mk ({ Over.zero with Hands := ([] : List Hand), Way := ([] : List Word) } : Over) Sl.nil Sl.nil)) 124) :: (.own Sl.nil 209 3 (encs ([] : List Word))) :: (.own Sl.nil 135 3 (encs ([] : List Hand))) :: (.own s65 209 3 (encs ([({ Word.zero with From := a1, To := a2, At := (1 : Int) } : Word)] : List Word))) :: (.own s69 209 3 (encs (r30 ++ ([({ Word.zero with From := a1, To := a2, At := (1 : Int) } : Word)] : List Word)))) :: (.own s59 135 3 (encs r24)) :: (.blk b5 (enc (OverR.mk ({ Over.zero with Hands := ([] : List Hand), Way := ([] : List Word) } : Over) Sl.nil Sl.nil)) 124) :: (.own Sl.nil 209 3 (encs ([] : List Word))) :: (.own Sl.nil 135 3 (encs ([] : List Hand))) :: (.blk b1 (enc (OverR.mk a0 s_a0_0 s_a0_1)) 124) :: L) w) (fun w h => (h.weaken (FLe.trans hF61 hF64)).sublist (List.Sublist.cons _ (List.Sublist.cons _ (List.Sublist.cons _ (List.Sublist.cons _ (List.Sublist.cons _ (List.Sublist.cons _ (List.Sublist.cons_cons _ (List.Sublist.cons_cons _ (List.Sublist.cons_cons _ (List.Sublist.cons_cons _ (List.Sublist.refl _)))))))))))) ?_
              refine HdJ.takeK hsel hlt 11 (fun w h => h.sublist (List.Sublist.cons_cons _ (List.Sublist.cons_cons _ (List.Sublist.cons_cons _ (List.Sublist.cons_cons _ (List.Sublist.cons_cons _ (List.Sublist.cons_cons _ (List.Sublist.cons_cons _ (List.Sublist.cons_cons _ (List.Sublist.cons_cons _ (List.Sublist.cons_cons _ (List.Sublist.refl _)))))))))))) rfl rfl (by decide) (by decide) (by kernel_rfl) (by kernel_rfl) rfl (Ev.build (v := .agg (enc (OverR.mk ({ Over.zero with Hands := r24, Way := r30 ++ ([({ Word.zero with From := a1, To := a2, At := (1 : Int) } : Word)] : List Word) } : Over) s59 s69)).toArray) (pv := [(0, Sl.v s59), (1, Sl.v s69)]) ⟨rfl, rfl, ⟨rfl, rfl, trivial⟩⟩ (run_buildStruct (places := #[(0, 1), (1, 1)]) Try.zeroValue124 (zs := enc (OverR.mk Over.zero Sl.nil Sl.nil)) rfl Try.runUnderlying124 (fun w => by kernel_rfl) (fill_cons (cs := enc (OverR.mk Over.zero Sl.nil Sl.nil)) (cs' := enc (OverR.mk ({ Over.zero with Hands := r24 } : Over) s59 Sl.nil)) (vs := [Sl.v s59]) rfl rfl rfl ((OverR.put_Hands (p := (OverR.mk Over.zero Sl.nil Sl.nil)) (y := s59) (Put.here (vs := [Sl.v s59]) rfl)).off rfl) (fill_cons (cs := enc (OverR.mk ({ Over.zero with Hands := r24 } : Over) s59 Sl.nil)) (cs' := enc (OverR.mk ({ Over.zero with Hands := r24, Way := r30 ++ ([({ Word.zero with From := a1, To := a2, At := (1 : Int) } : Word)] : List Word) } : Over) s59 s69)) (vs := [Sl.v s69]) rfl rfl rfl ((OverR.put_Way (p := (OverR.mk ({ Over.zero with Hands := r24 } : Over) s59 Sl.nil)) (y := s69) (Put.here (vs := [Sl.v s69]) rfl)).off rfl) fill_nil)))) ?_
              refine HdJ.done (by kernel_rfl) ?_
              exact At.meetN (b68, Sl.nil, ([] : List Word), Sl.nil, ([] : List Hand), s65, ([({ Word.zero with From := a1, To := a2, At := (1 : Int) } : Word)] : List Word), s69, r30 ++ ([({ Word.zero with From := a1, To := a2, At := (1 : Int) } : Word)] : List Word), s59, r24) (FLe.trans hF61 hF64) ⟨rfl, rfl, rfl, rfl, trivial⟩ rfl h58
            exact trivial
          exact trivial
        refine HdStep.cons (by decide) rfl (fun inv => ?_) ?_
        · refine Lst.addNil 135 3 ?_
          refine Lst.addNil 209 3 ?_
          refine Lst.alloc (cs := enc (OverR.mk ({ Over.zero with Hands := ([] : List Hand), Way := ([] : List Word) } : Over) Sl.nil Sl.nil)) rfl rfl (by decide) Try.zeroValue124 rfl (fun b70 => ?_)
          refine Lst.nil ?_
          refine At.hd inv (fun w h => (h.weaken (FLe.trans hF61 hF64)).sublist (List.Sublist.cons _ (List.Sublist.cons _ (List.Sublist.cons _ (List.Sublist.cons _ (List.Sublist.cons _ (List.Sublist.cons_cons _ (List.Sublist.cons_cons _ (List.Sublist.cons_cons _ (List.Sublist.cons_cons _ (List.Sublist.refl _))))))))))) ?_
          refine HdJ.step [9] (by kernel_rfl) rfl ?_
          refine HdStep.cons (by decide) rfl (fun inv => ?_) ?_
          · refine Lst.buildSlice (α := Word) (xs := ([({ Word.zero with From := a1, To := a2, At := (1 : Int) } : Word)] : List Word)) (pv := [(0, .agg (enc ({ Word.zero with From := a1, To := a2, At := (1 : Int) } : Word)).toArray)]) rfl rfl (by decide) ⟨rfl, rfl, trivial⟩ (run_buildSlice (α := Word) (z0 := Word.zero) (xs := ([({ Word.zero with From := a1, To := a2, At := (1 : Int) } : Word)] : List Word)) Try.runUnderlying112 Try.sizeOf209 Try.zeroValue209 rfl rfl rfl (by decide) rfl (fill_cons (cs := encs (List.replicate 1 Word.zero)) (cs' := encs ((List.replicate 1 Word.zero).set 0 ({ Word.zero with From := a1, To := a2, At := (1 : Int) } : Word))) (vs := enc ({ Word.zero with From := a1, To := a2, At := (1 : Int) } : Word)) rfl rfl (Enc.len _) ((Put.elemN (s := 3) (i := 0) (x := Word.zero) (y := ({ Word.zero with From := a1, To := a2, At := (1 : Int) } : Word)) rfl rfl (Put.here ((Enc.len _).trans (Enc.len _).symm))).off rfl) fill_nil)) rfl rfl (by decide) (fun s71 _ => ?_)
            refine Lst.nil ?_
            refine At.hd inv (fun w h => (h.weaken (FLe.trans hF61 hF64)).sublist (List.Sublist.cons _ (List.Sublist.cons _ (List.Sublist.cons _ (List.Sublist.cons _ (List.Sublist.cons _ (List.Sublist.cons _ (List.Sublist.cons_cons _ (List.Sublist.cons_cons _ (List.Sublist.cons_cons _ (List.Sublist.cons_cons _ (List.Sublist.refl _)))))))))))) ?_
            refine HdJ.step [10] (by kernel_rfl) rfl ?_
            refine HdStep.cons (by decide) rfl (fun inv => ?_) ?_
            · refine Lst.append (i := 4) (α := Word) (xs := r30) (ys := ([({ Word.zero with From := a1, To := a2, At := (1 : Int) } : Word)] : List Word)) rfl rfl (by decide) rfl rfl Try.runUnderlying112 Try.typeInfo209 rfl rfl rfl rfl rfl rfl (Rd.own (i := 0) rfl rfl rfl) rfl (room_some h39) rfl (fun s72 => ?_)
              refine Lst.its (L' := (.own s71 209 3 (encs ([({ Word.zero with From := a1, To := a2, At := (1 : Int) } : Word)] : List Word))) :: (.blk b70 (enc (OverR.mk ({ Over.zero with Hands := ([] : List Hand), Way := ([] : List Word) } : Over) Sl.nil Sl.nil)) 124) :: (.own Sl.nil 209 3 (encs ([] : List Word))) :: (.own Sl.nil 135 3 (encs ([] : List Hand))) :: (.own s72 209 3 (encs (r30 ++ ([({ Word.zero with From := a1, To := a2, At := (1 : Int) } : Word)] : List Word)))) :: (.own s59 135 3 (encs r24)) :: (.blk b5 (enc (OverR.mk ({ Over.zero with Hands := ([] : List Hand), Way := ([] : List Word) } : Over) Sl.nil Sl.nil)) 124) :: (.own Sl.nil 209 3 (encs ([] : List Word))) :: (.own Sl.nil 135 3 (encs ([] : List Hand))) :: (.blk b1 (enc (OverR.mk a0 s_a0_0 s_a0_1)) 124) :: L) rfl ?_
              refine Lst.nil ?_
              refine At.hd inv (fun w h => (h.weaken (FLe.trans hF61 hF64)).sublist (List.Sublist.cons _ (List.Sublist.cons _ (List.Sublist.cons _ (List.Sublist.cons _ (List.Sublist.cons _ (List.Sublist.cons _ (List.Sublist.cons_cons _ (List.Sublist.cons_cons _ (List.Sublist.cons_cons _ (List.Sublist.cons_cons _ (List.Sublist.refl _)))))))))))) ?_
              refine HdJ.keep (fun w => St w0 F63 ((.own s71 209 3 (encs ([({ Word.zero with From := a1, To := a2, At := (1 : Int) } : Word)] : List Word))) :: (.blk b70 (enc (OverR.mk ({ Over.zero with Hands := ([] : List Hand), Way := ([] : List Word) } : Over) Sl.nil Sl.nil)) 124) :: (.own Sl.nil 209 3 (encs ([] : List Word))) :: (.own Sl.nil 135 3 (encs ([] : List Hand))) :: (.own s72 209 3 (encs (r30 ++ ([({ Word.zero with From := a1, To := a2, At := (1 : Int) } : Word)] : List Word)))) :: (.own s59 135 3 (encs r24)) :: (.blk b5 (enc (OverR.mk ({ Over.zero with Hands := ([] : List Hand), Way := ([] : List Word) } : Over) Sl.nil Sl.nil)) 124) :: (.own Sl.nil 209 3 (encs ([] : List Word))) :: (.own Sl.nil 135 3 (encs ([] : List Hand))) :: (.blk b1 (enc (OverR.mk a0 s_a0_0 s_a0_1)) 124) :: L) w) (fun w h => (h.weaken (FLe.trans hF61 hF64)).sublist (List.Sublist.cons _ (List.Sublist.cons _ (List.Sublist.cons _ (List.Sublist.cons _ (List.Sublist.cons _ (List.Sublist.cons _ (List.Sublist.cons_cons _ (List.Sublist.cons_cons _ (List.Sublist.cons_cons _ (List.Sublist.cons_cons _ (List.Sublist.refl _)))))))))))) ?_
              refine HdJ.takeK hsel hlt 11 (fun w h => h.sublist (List.Sublist.cons_cons _ (List.Sublist.cons_cons _ (List.Sublist.cons_cons _ (List.Sublist.cons_cons _ (List.Sublist.cons_cons _ (List.Sublist.cons_cons _ (List.Sublist.cons_cons _ (List.Sublist.cons_cons _ (List.Sublist.cons_cons _ (List.Sublist.cons_cons _ (List.Sublist.refl _)))))))))))) rfl rfl (by decide) (by decide) (by kernel_rfl) (by kernel_rfl) rfl (Ev.build (v := .agg (enc (OverR.mk ({ Over.zero with Hands := r24, Way := r30 ++ ([({ Word.zero with From := a1, To := a2, At := (1 : Int) } : Word)] : List Word) } : Over) s59 s72)).toArray) (pv := [(0, Sl.v s59), (1, Sl.v s72)]) ⟨rfl, rfl, ⟨rfl, rfl, trivial⟩⟩ (run_buildStruct (places := #[(0, 1), (1, 1)]) Try.zeroValue124 (zs := enc (OverR.mk Over.zero Sl.nil Sl.nil)) rfl Try.runUnderlying124 (fun w => by kernel_rfl) (fill_cons (cs := enc (OverR.mk Over.zero Sl.nil Sl.nil)) (cs' := enc (OverR.mk ({ Over.zero with Hands := r24 } : Over) s59 Sl.nil)) (vs := [Sl.v s59]) rfl rfl rfl ((OverR.put_Hands (p := (OverR.mk Over.zero Sl.nil Sl.nil)) (y := s59) (Put.here (vs := [Sl.v s59]) rfl)).off rfl) (fill_cons (cs := enc (OverR.mk ({ Over.zero with Hands := r24 } : Over) s59 Sl.nil)) (cs' := enc (OverR.mk ({ Over.zero with Hands := r24, Way := r30 ++ ([({ Word.zero with From := a1, To := a2, At := (1 : Int) } : Word)] : List Word) } : Over) s59 s72)) (vs := [Sl.v s72]) rfl rfl rfl ((OverR.put_Way (p := (OverR.mk ({ Over.zero with Hands := r24 } : Over) s59 Sl.nil)) (y := s72) (Put.here (vs := [Sl.v s72]) rfl)).off rfl) fill_nil)))) ?_
              refine HdJ.done (by kernel_rfl) ?_
              refine At.front (i := 9) rfl rfl ?_
              refine At.front (i := 9) rfl rfl ?_
              refine At.front (i := 9) rfl rfl ?_
              refine At.front (i := 9) rfl rfl ?_
              refine At.front (i := 9) rfl rfl ?_
              refine At.front (i := 9) rfl rfl ?_
              refine At.front (i := 6) rfl rfl ?_
              refine At.front (i := 9) rfl rfl ?_
              refine At.front (i := 9) rfl rfl ?_
              refine At.front (i := 9) rfl rfl ?_
              exact At.meetN (b70, Sl.nil, ([] : List Word), Sl.nil, ([] : List Hand), s71, ([({ Word.zero with From := a1, To := a2, At := (1 : Int) } : Word)] : List Word), s72, r30 ++ ([({ Word.zero with From := a1, To := a2, At := (1 : Int) } : Word)] : List Word), s59, r24) (FLe.trans hF61 hF64) ⟨rfl, rfl, rfl, rfl, trivial⟩ rfl h58
            exact trivial
          exact trivial
        exact trivial
      refine HdStep.cons (by decide) rfl (fun inv => ?_) ?_
      · refine Lst.buildSlice (α := Word) (xs := ([({ Word.zero with From := a1, To := a2, At := (1 : Int) } : Word)] : List Word)) (pv := [(0, .agg (enc ({ Word.zero with From := a1, To := a2, At := (1 : Int) } : Word)).toArray)]) rfl rfl (by decide) ⟨rfl, rfl, trivial⟩ (run_buildSlice (α := Word) (z0 := Word.zero) (xs := ([({ Word.zero with From := a1, To := a2, At := (1 : Int) } : Word)] : List Word)) Try.runUnderlying112 Try.sizeOf209 Try.zeroValue209 rfl rfl rfl (by decide) rfl (fill_cons (cs := encs (List.replicate 1 Word.zero)) (cs' := encs ((List.replicate 1 Word.zero).set 0 ({ Word.zero with From := a1, To := a2, At := (1 : Int) } : Word))) (vs := enc ({ Word.zero with From := a1, To := a2, At := (1 : Int) } : Word)) rfl rfl (Enc.len _) ((Put.elemN (s := 3) (i := 0) (x := Word.zero) (y := ({ Word.zero with From := a1, To := a2, At := (1 : Int) } : Word)) rfl rfl (Put.here ((Enc.len _).trans (Enc.len _).symm))).off rfl) fill_nil)) rfl rfl (by decide) (fun s73 _ => ?_)
        refine Lst.nil ?_
        refine At.hd inv (fun w h => (h.weaken hF61).sublist (List.Sublist.cons _ (List.Sublist.cons _ (List.Sublist.cons_cons _ (List.Sublist.cons_cons _ (List.Sublist.cons_cons _ (List.Sublist.cons_cons _ (List.Sublist.refl _)))))))) ?_
        refine HdJ.step [5, 12] (by kernel_rfl) rfl ?_
        refine HdStep.cons (by decide) rfl (fun inv => ?_) ?_
        · refine Lst.call rfl rfl (by decide) (vs := [Sl.v s_a0_1]) ⟨rfl, trivial⟩ Try.call173 (slices_Clone_api_Word_api_Word_sim h31 w0 _ M _ (List.Sublist.cons _ (List.Sublist.cons _ (List.Sublist.cons _ (List.Sublist.cons _ (List.Sublist.cons _ (List.Sublist.cons _ hM)))))) (hs_a0_1.mono (FLe.trans hF20 hF61) (List.Sublist.refl _))) (fun F75 L' v hF76 hv => ?_)
          obtain ⟨s74, rfl, rfl⟩ := hv
          refine Lst.nil ?_
          refine At.hd inv (fun w h => (h.weaken (FLe.trans hF61 hF76)).sublist (List.Sublist.cons _ (List.Sublist.cons _ (List.Sublist.cons _ (List.Sublist.cons_cons _ (List.Sublist.cons_cons _ (List.Sublist.cons_cons _ (List.Sublist.cons_cons _ (List.Sublist.refl _))))))))) ?_
          refine HdJ.step [10, 12] (by kernel_rfl) rfl ?_
          refine HdStep.cons (by decide) rfl (fun inv => ?_) ?_
          · refine Lst.append (i := 0) (α := Word) (xs := r30) (ys := ([({ Word.zero with From := a1, To := a2, At := (1 : Int) } : Word)] : List Word)) rfl rfl (by decide) rfl rfl Try.runUnderlying112 Try.typeInfo209 rfl rfl rfl rfl rfl rfl (Rd.own (i := 1) rfl rfl rfl) rfl (room_some h39) rfl (fun s77 => ?_)
            refine Lst.its (L' := (.own s77 209 3 (encs (r30 ++ ([({ Word.zero with From := a1, To := a2, At := (1 : Int) } : Word)] : List Word)))) :: (.own s73 209 3 (encs ([({ Word.zero with From := a1, To := a2, At := (1 : Int) } : Word)] : List Word))) :: (.own s59 135 3 (encs r24)) :: (.blk b5 (enc (OverR.mk ({ Over.zero with Hands := ([] : List Hand), Way := ([] : List Word) } : Over) Sl.nil Sl.nil)) 124) :: (.own Sl.nil 209 3 (encs ([] : List Word))) :: (.own Sl.nil 135 3 (encs ([] : List Hand))) :: (.blk b1 (enc (OverR.mk a0 s_a0_0 s_a0_1)) 124) :: L) rfl ?_
            refine Lst.nil ?_
            refine At.hd inv (fun w h => (h.weaken (FLe.trans hF61 hF76)).sublist (List.Sublist.cons _ (List.Sublist.cons _ (List.Sublist.cons _ (List.Sublist.cons_cons _ (List.Sublist.cons_cons _ (List.Sublist.cons_cons _ (List.Sublist.cons_cons _ (List.Sublist.refl _))))))))) ?_
            refine HdJ.keep (fun w => St w0 F75 ((.own s77 209 3 (encs (r30 ++ ([({ Word.zero with From := a1, To := a2, At := (1 : Int) } : Word)] : List Word)))) :: (.own s73 209 3 (encs ([({ Word.zero with From := a1, To := a2, At := (1 : Int) } : Word)] : List Word))) :: (.own s59 135 3 (encs r24)) :: (.blk b5 (enc (OverR.mk ({ Over.zero with Hands := ([] : List Hand), Way := ([] : List Word) } : Over) Sl.nil Sl.nil)) 124) :: (.own Sl.nil 209 3 (encs ([] : List Word))) :: (.own Sl.nil 135 3 (encs ([] : List Hand))) :: (.blk b1 (enc (OverR.mk a0 s_a0_0 s_a0_1)) 124) :: L) w) (fun w h => (h.weaken (FLe.trans hF61 hF76)).sublist (List.Sublist.cons _ (List.Sublist.cons _ (List.Sublist.cons _ (List.Sublist.cons_cons _ (List.Sublist.cons_cons _ (List.Sublist.cons_cons _ (List.Sublist.cons_cons _ (List.Sublist.refl _))))))))) ?_
            refine HdJ.takeK hsel hlt 11 (fun w h => h.sublist (List.Sublist.cons_cons _ (List.Sublist.cons_cons _ (List.Sublist.cons_cons _ (List.Sublist.cons_cons _ (List.Sublist.cons_cons _ (List.Sublist.cons_cons _ (List.Sublist.cons_cons _ (List.Sublist.refl _))))))))) rfl rfl (by decide) (by decide) (by kernel_rfl) (by kernel_rfl) rfl (Ev.build (v := .agg (enc (OverR.mk ({ Over.zero with Hands := r24, Way := r30 ++ ([({ Word.zero with From := a1, To := a2, At := (1 : Int) } : Word)] : List Word) } : Over) s59 s77)).toArray) (pv := [(0, Sl.v s59), (1, Sl.v s77)]) ⟨rfl, rfl, ⟨rfl, rfl, trivial⟩⟩ (run_buildStruct (places := #[(0, 1), (1, 1)]) Try.zeroValue124 (zs := enc (OverR.mk Over.zero Sl.nil Sl.nil)) rfl Try.runUnderlying124 (fun w => by kernel_rfl) (fill_cons (cs := enc (OverR.mk Over.zero Sl.nil Sl.nil)) (cs' := enc (OverR.mk ({ Over.zero with Hands := r24 } : Over) s59 Sl.nil)) (vs := [Sl.v s59]) rfl rfl rfl ((OverR.put_Hands (p := (OverR.mk Over.zero Sl.nil Sl.nil)) (y := s59) (Put.here (vs := [Sl.v s59]) rfl)).off rfl) (fill_cons (cs := enc (OverR.mk ({ Over.zero with Hands := r24 } : Over) s59 Sl.nil)) (cs' := enc (OverR.mk ({ Over.zero with Hands := r24, Way := r30 ++ ([({ Word.zero with From := a1, To := a2, At := (1 : Int) } : Word)] : List Word) } : Over) s59 s77)) (vs := [Sl.v s77]) rfl rfl rfl ((OverR.put_Way (p := (OverR.mk ({ Over.zero with Hands := r24 } : Over) s59 Sl.nil)) (y := s77) (Put.here (vs := [Sl.v s77]) rfl)).off rfl) fill_nil)))) ?_
            refine HdJ.step [12] (by kernel_rfl) rfl ?_
            refine HdStep.cons (by decide) rfl (fun inv => ?_) ?_
            · refine Lst.addNil 135 3 ?_
              refine Lst.addNil 209 3 ?_
              refine Lst.alloc (cs := enc (OverR.mk ({ Over.zero with Hands := ([] : List Hand), Way := ([] : List Word) } : Over) Sl.nil Sl.nil)) rfl rfl (by decide) Try.zeroValue124 rfl (fun b78 => ?_)
              refine Lst.nil ?_
              refine At.hd inv (fun w h => (h.weaken (FLe.refl _)).sublist (List.Sublist.cons _ (List.Sublist.cons _ (List.Sublist.cons _ (List.Sublist.cons_cons _ (List.Sublist.cons_cons _ (List.Sublist.cons_cons _ (List.Sublist.cons_cons _ (List.Sublist.cons_cons _ (List.Sublist.cons_cons _ (List.Sublist.cons_cons _ (List.Sublist.refl _)))))))))))) ?_
              refine HdJ.done (by kernel_rfl) ?_
              refine At.front (i := 9) rfl rfl ?_
              refine At.front (i := 9) rfl rfl ?_
              refine At.front (i := 9) rfl rfl ?_
              refine At.front (i := 9) rfl rfl ?_
              refine At.front (i := 9) rfl rfl ?_
              refine At.front (i := 8) rfl rfl ?_
              refine At.front (i := 9) rfl rfl ?_
              refine At.front (i := 9) rfl rfl ?_
              refine At.front (i := 9) rfl rfl ?_
              refine At.front (i := 9) rfl rfl ?_
              exact At.meetN (b78, Sl.nil, ([] : List Word), Sl.nil, ([] : List Hand), s73, ([({ Word.zero with From := a1, To := a2, At := (1 : Int) } : Word)] : List Word), s77, r30 ++ ([({ Word.zero with From := a1, To := a2, At := (1 : Int) } : Word)] : List Word), s59, r24) (FLe.trans hF61 hF76) ⟨rfl, rfl, rfl, rfl, trivial⟩ rfl h58
            exact trivial
          refine HdStep.cons (by decide) rfl (fun inv => ?_) ?_
          · refine Lst.addNil 135 3 ?_
            refine Lst.addNil 209 3 ?_
            refine Lst.alloc (cs := enc (OverR.mk ({ Over.zero with Hands := ([] : List Hand), Way := ([] : List Word) } : Over) Sl.nil Sl.nil)) rfl rfl (by decide) Try.zeroValue124 rfl (fun b79 => ?_)
            refine Lst.nil ?_
            refine At.hd inv (fun w h => (h.weaken (FLe.trans hF61 hF76)).sublist (List.Sublist.cons _ (List.Sublist.cons _ (List.Sublist.cons _ (List.Sublist.cons _ (List.Sublist.cons _ (List.Sublist.cons _ (List.Sublist.cons_cons _ (List.Sublist.cons_cons _ (List.Sublist.cons_cons _ (List.Sublist.cons_cons _ (List.Sublist.refl _)))))))))))) ?_
            refine HdJ.step [10] (by kernel_rfl) rfl ?_
            refine HdStep.cons (by decide) rfl (fun inv => ?_) ?_
            · refine Lst.append (i := 3) (α := Word) (xs := r30) (ys := ([({ Word.zero with From := a1, To := a2, At := (1 : Int) } : Word)] : List Word)) rfl rfl (by decide) rfl rfl Try.runUnderlying112 Try.typeInfo209 rfl rfl rfl rfl rfl rfl (Rd.own (i := 4) rfl rfl rfl) rfl (room_some h39) rfl (fun s80 => ?_)
              refine Lst.its (L' := (.blk b79 (enc (OverR.mk ({ Over.zero with Hands := ([] : List Hand), Way := ([] : List Word) } : Over) Sl.nil Sl.nil)) 124) :: (.own Sl.nil 209 3 (encs ([] : List Word))) :: (.own Sl.nil 135 3 (encs ([] : List Hand))) :: (.own s80 209 3 (encs (r30 ++ ([({ Word.zero with From := a1, To := a2, At := (1 : Int) } : Word)] : List Word)))) :: (.own s73 209 3 (encs ([({ Word.zero with From := a1, To := a2, At := (1 : Int) } : Word)] : List Word))) :: (.own s59 135 3 (encs r24)) :: (.blk b5 (enc (OverR.mk ({ Over.zero with Hands := ([] : List Hand), Way := ([] : List Word) } : Over) Sl.nil Sl.nil)) 124) :: (.own Sl.nil 209 3 (encs ([] : List Word))) :: (.own Sl.nil 135 3 (encs ([] : List Hand))) :: (.blk b1 (enc (OverR.mk a0 s_a0_0 s_a0_1)) 124) :: L) rfl ?_
              refine Lst.nil ?_
              refine At.hd inv (fun w h => (h.weaken (FLe.trans hF61 hF76)).sublist (List.Sublist.cons _ (List.Sublist.cons _ (List.Sublist.cons _ (List.Sublist.cons _ (List.Sublist.cons _ (List.Sublist.cons _ (List.Sublist.cons_cons _ (List.Sublist.cons_cons _ (List.Sublist.cons_cons _ (List.Sublist.cons_cons _ (List.Sublist.refl _)))))))))))) ?_
              refine HdJ.keep (fun w => St w0 F75 ((.blk b79 (enc (OverR.mk ({ Over.zero with Hands := ([] : List Hand), Way := ([] : List Word) } : Over) Sl.nil Sl.nil)) 124) :: (.own Sl.nil 209 3 (encs ([] : List Word))) :: (.own Sl.nil 135 3 (encs ([] : List Hand))) :: (.own s80 209 3 (encs (r30 ++ ([({ Word.zero with From := a1, To := a2, At := (1 : Int) } : Word)] : List Word)))) :: (.own s73 209 3 (encs ([({ Word.zero with From := a1, To := a2, At := (1 : Int) } : Word)] : List Word))) :: (.own s59 135 3 (encs r24)) :: (.blk b5 (enc (OverR.mk ({ Over.zero with Hands := ([] : List Hand), Way := ([] : List Word) } : Over) Sl.nil Sl.nil)) 124) :: (.own Sl.nil 209 3 (encs ([] : List Word))) :: (.own Sl.nil 135 3 (encs ([] : List Hand))) :: (.blk b1 (enc (OverR.mk a0 s_a0_0 s_a0_1)) 124) :: L) w) (fun w h => (h.weaken (FLe.trans hF61 hF76)).sublist (List.Sublist.cons _ (List.Sublist.cons _ (List.Sublist.cons _ (List.Sublist.cons _ (List.Sublist.cons _ (List.Sublist.cons _ (List.Sublist.cons_cons _ (List.Sublist.cons_cons _ (List.Sublist.cons_cons _ (List.Sublist.cons_cons _ (List.Sublist.refl _)))))))))))) ?_
              refine HdJ.takeK hsel hlt 11 (fun w h => h.sublist (List.Sublist.cons_cons _ (List.Sublist.cons_cons _ (List.Sublist.cons_cons _ (List.Sublist.cons_cons _ (List.Sublist.cons_cons _ (List.Sublist.cons_cons _ (List.Sublist.cons_cons _ (List.Sublist.cons_cons _ (List.Sublist.cons_cons _ (List.Sublist.cons_cons _ (List.Sublist.refl _)))))))))))) rfl rfl (by decide) (by decide) (by kernel_rfl) (by kernel_rfl) rfl (Ev.build (v := .agg (enc (OverR.mk ({ Over.zero with Hands := r24, Way := r30 ++ ([({ Word.zero with From := a1, To := a2, At := (1 : Int) } : Word)] : List Word) } : Over) s59 s80)).toArray) (pv := [(0, Sl.v s59), (1, Sl.v s80)]) ⟨rfl, rfl, ⟨rfl, rfl, trivial⟩⟩ (run_buildStruct (places := #[(0, 1), (1, 1)]) Try.zeroValue124 (zs := enc (OverR.mk Over.zero Sl.nil Sl.nil)) rfl Try.runUnderlying124 (fun w => by kernel_rfl) (fill_cons (cs := enc (OverR.mk Over.zero Sl.nil Sl.nil)) (cs' := enc (OverR.mk ({ Over.zero with Hands := r24 } : Over) s59 Sl.nil)) (vs := [Sl.v s59]) rfl rfl rfl ((OverR.put_Hands (p := (OverR.mk Over.zero Sl.nil Sl.nil)) (y := s59) (Put.here (vs := [Sl.v s59]) rfl)).off rfl) (fill_cons (cs := enc (OverR.mk ({ Over.zero with Hands := r24 } : Over) s59 Sl.nil)) (cs' := enc (OverR.mk ({ Over.zero with Hands := r24, Way := r30 ++ ([({ Word.zero with From := a1, To := a2, At := (1 : Int) } : Word)] : List Word) } : Over) s59 s80)) (vs := [Sl.v s80]) rfl rfl rfl ((OverR.put_Way (p := (OverR.mk ({ Over.zero with Hands := r24 } : Over) s59 Sl.nil)) (y := s80) (Put.here (vs := [Sl.v s80]) rfl)).off rfl) fill_nil)))) ?_
              refine HdJ.done (by kernel_rfl) ?_
              refine At.front (i := 9) rfl rfl ?_
              refine At.front (i := 9) rfl rfl ?_
              refine At.front (i := 9) rfl rfl ?_
              refine At.front (i := 9) rfl rfl ?_
              refine At.front (i := 9) rfl rfl ?_
              refine At.front (i := 8) rfl rfl ?_
              refine At.front (i := 9) rfl rfl ?_
              refine At.front (i := 9) rfl rfl ?_
              refine At.front (i := 9) rfl rfl ?_
              refine At.front (i := 9) rfl rfl ?_
              exact At.meetN (b79, Sl.nil, ([] : List Word), Sl.nil, ([] : List Hand), s73, ([({ Word.zero with From := a1, To := a2, At := (1 : Int) } : Word)] : List Word), s80, r30 ++ ([({ Word.zero with From := a1, To := a2, At := (1 : Int) } : Word)] : List Word), s59, r24) (FLe.trans hF61 hF76) ⟨rfl, rfl, rfl, rfl, trivial⟩ rfl h58
            exact trivial
          exact trivial
        refine HdStep.cons (by decide) rfl (fun inv => ?_) ?_
        · refine Lst.addNil 135 3 ?_
          refine Lst.addNil 209 3 ?_
          refine Lst.alloc (cs := enc (OverR.mk ({ Over.zero with Hands := ([] : List Hand), Way := ([] : List Word) } : Over) Sl.nil Sl.nil)) rfl rfl (by decide) Try.zeroValue124 rfl (fun b81 => ?_)
          refine Lst.nil ?_
          refine At.hd inv (fun w h => (h.weaken hF61).sublist (List.Sublist.cons _ (List.Sublist.cons _ (List.Sublist.cons _ (List.Sublist.cons _ (List.Sublist.cons _ (List.Sublist.cons_cons _ (List.Sublist.cons_cons _ (List.Sublist.cons_cons _ (List.Sublist.cons_cons _ (List.Sublist.refl _))))))))))) ?_
          refine HdJ.step [5] (by kernel_rfl) rfl ?_
          refine HdStep.cons (by decide) rfl (fun inv => ?_) ?_
          · refine Lst.call rfl rfl (by decide) (vs := [Sl.v s_a0_1]) ⟨rfl, trivial⟩ Try.call173 (slices_Clone_api_Word_api_Word_sim h31 w0 _ M _ (List.Sublist.cons _ (List.Sublist.cons _ (List.Sublist.cons _ (List.Sublist.cons _ (List.Sublist.cons _ (List.Sublist.cons _ (List.Sublist.cons _ (List.Sublist.cons _ (List.Sublist.cons _ hM))))))))) (hs_a0_1.mono (FLe.trans hF20 hF61) (List.Sublist.refl _))) (fun F83 L' v hF84 hv => ?_)
            obtain ⟨s82, rfl, rfl⟩ := hv
            refine Lst.nil ?_
            refine At.hd inv (fun w h => (h.weaken (FLe.trans hF61 hF84)).sublist (List.Sublist.cons _ (List.Sublist.cons _ (List.Sublist.cons _ (List.Sublist.cons _ (List.Sublist.cons _ (List.Sublist.cons _ (List.Sublist.cons_cons _ (List.Sublist.cons_cons _ (List.Sublist.cons_cons _ (List.Sublist.cons_cons _ (List.Sublist.refl _)))))))))))) ?_
            refine HdJ.step [10] (by kernel_rfl) rfl ?_
            refine HdStep.cons (by decide) rfl (fun inv => ?_) ?_
            · refine Lst.append (i := 0) (α := Word) (xs := r30) (ys := ([({ Word.zero with From := a1, To := a2, At := (1 : Int) } : Word)] : List Word)) rfl rfl (by decide) rfl rfl Try.runUnderlying112 Try.typeInfo209 rfl rfl rfl rfl rfl rfl (Rd.own (i := 4) rfl rfl rfl) rfl (room_some h39) rfl (fun s85 => ?_)
              refine Lst.its (L' := (.own s85 209 3 (encs (r30 ++ ([({ Word.zero with From := a1, To := a2, At := (1 : Int) } : Word)] : List Word)))) :: (.blk b81 (enc (OverR.mk ({ Over.zero with Hands := ([] : List Hand), Way := ([] : List Word) } : Over) Sl.nil Sl.nil)) 124) :: (.own Sl.nil 209 3 (encs ([] : List Word))) :: (.own Sl.nil 135 3 (encs ([] : List Hand))) :: (.own s73 209 3 (encs ([({ Word.zero with From := a1, To := a2, At := (1 : Int) } : Word)] : List Word))) :: (.own s59 135 3 (encs r24)) :: (.blk b5 (enc (OverR.mk ({ Over.zero with Hands := ([] : List Hand), Way := ([] : List Word) } : Over) Sl.nil Sl.nil)) 124) :: (.own Sl.nil 209 3 (encs ([] : List Word))) :: (.own Sl.nil 135 3 (encs ([] : List Hand))) :: (.blk b1 (enc (OverR.mk a0 s_a0_0 s_a0_1)) 124) :: L) rfl ?_
              refine Lst.nil ?_
              refine At.hd inv (fun w h => (h.weaken (FLe.trans hF61 hF84)).sublist (List.Sublist.cons _ (List.Sublist.cons _ (List.Sublist.cons _ (List.Sublist.cons _ (List.Sublist.cons _ (List.Sublist.cons _ (List.Sublist.cons_cons _ (List.Sublist.cons_cons _ (List.Sublist.cons_cons _ (List.Sublist.cons_cons _ (List.Sublist.refl _)))))))))))) ?_
              refine HdJ.keep (fun w => St w0 F83 ((.own s85 209 3 (encs (r30 ++ ([({ Word.zero with From := a1, To := a2, At := (1 : Int) } : Word)] : List Word)))) :: (.blk b81 (enc (OverR.mk ({ Over.zero with Hands := ([] : List Hand), Way := ([] : List Word) } : Over) Sl.nil Sl.nil)) 124) :: (.own Sl.nil 209 3 (encs ([] : List Word))) :: (.own Sl.nil 135 3 (encs ([] : List Hand))) :: (.own s73 209 3 (encs ([({ Word.zero with From := a1, To := a2, At := (1 : Int) } : Word)] : List Word))) :: (.own s59 135 3 (encs r24)) :: (.blk b5 (enc (OverR.mk ({ Over.zero with Hands := ([] : List Hand), Way := ([] : List Word) } : Over) Sl.nil Sl.nil)) 124) :: (.own Sl.nil 209 3 (encs ([] : List Word))) :: (.own Sl.nil 135 3 (encs ([] : List Hand))) :: (.blk b1 (enc (OverR.mk a0 s_a0_0 s_a0_1)) 124) :: L) w) (fun w h => (h.weaken (FLe.trans hF61 hF84)).sublist (List.Sublist.cons _ (List.Sublist.cons _ (List.Sublist.cons _ (List.Sublist.cons _ (List.Sublist.cons _ (List.Sublist.cons _ (List.Sublist.cons_cons _ (List.Sublist.cons_cons _ (List.Sublist.cons_cons _ (List.Sublist.cons_cons _ (List.Sublist.refl _)))))))))))) ?_
              refine HdJ.takeK hsel hlt 11 (fun w h => h.sublist (List.Sublist.cons_cons _ (List.Sublist.cons_cons _ (List.Sublist.cons_cons _ (List.Sublist.cons_cons _ (List.Sublist.cons_cons _ (List.Sublist.cons_cons _ (List.Sublist.cons_cons _ (List.Sublist.cons_cons _ (List.Sublist.cons_cons _ (List.Sublist.cons_cons _ (List.Sublist.refl _)))))))))))) rfl rfl (by decide) (by decide) (by kernel_rfl) (by kernel_rfl) rfl (Ev.build (v := .agg (enc (OverR.mk ({ Over.zero with Hands := r24, Way := r30 ++ ([({ Word.zero with From := a1, To := a2, At := (1 : Int) } : Word)] : List Word) } : Over) s59 s85)).toArray) (pv := [(0, Sl.v s59), (1, Sl.v s85)]) ⟨rfl, rfl, ⟨rfl, rfl, trivial⟩⟩ (run_buildStruct (places := #[(0, 1), (1, 1)]) Try.zeroValue124 (zs := enc (OverR.mk Over.zero Sl.nil Sl.nil)) rfl Try.runUnderlying124 (fun w => by kernel_rfl) (fill_cons (cs := enc (OverR.mk Over.zero Sl.nil Sl.nil)) (cs' := enc (OverR.mk ({ Over.zero with Hands := r24 } : Over) s59 Sl.nil)) (vs := [Sl.v s59]) rfl rfl rfl ((OverR.put_Hands (p := (OverR.mk Over.zero Sl.nil Sl.nil)) (y := s59) (Put.here (vs := [Sl.v s59]) rfl)).off rfl) (fill_cons (cs := enc (OverR.mk ({ Over.zero with Hands := r24 } : Over) s59 Sl.nil)) (cs' := enc (OverR.mk ({ Over.zero with Hands := r24, Way := r30 ++ ([({ Word.zero with From := a1, To := a2, At := (1 : Int) } : Word)] : List Word) } : Over) s59 s85)) (vs := [Sl.v s85]) rfl rfl rfl ((OverR.put_Way (p := (OverR.mk ({ Over.zero with Hands := r24 } : Over) s59 Sl.nil)) (y := s85) (Put.here (vs := [Sl.v s85]) rfl)).off rfl) fill_nil)))) ?_
              refine HdJ.done (by kernel_rfl) ?_
              refine At.front (i := 9) rfl rfl ?_
              refine At.front (i := 9) rfl rfl ?_
              refine At.front (i := 9) rfl rfl ?_
              refine At.front (i := 9) rfl rfl ?_
              refine At.front (i := 9) rfl rfl ?_
              refine At.front (i := 5) rfl rfl ?_
              refine At.front (i := 9) rfl rfl ?_
              refine At.front (i := 9) rfl rfl ?_
              refine At.front (i := 9) rfl rfl ?_
              refine At.front (i := 9) rfl rfl ?_
              exact At.meetN (b81, Sl.nil, ([] : List Word), Sl.nil, ([] : List Hand), s73, ([({ Word.zero with From := a1, To := a2, At := (1 : Int) } : Word)] : List Word), s85, r30 ++ ([({ Word.zero with From := a1, To := a2, At := (1 : Int) } : Word)] : List Word), s59, r24) (FLe.trans hF61 hF84) ⟨rfl, rfl, rfl, rfl, trivial⟩ rfl h58
            exact trivial
          exact trivial
        exact trivial
      refine HdStep.cons (by decide) rfl (fun inv => ?_) ?_
      · refine Lst.addNil 135 3 ?_
        refine Lst.addNil 209 3 ?_
        refine Lst.alloc (cs := enc (OverR.mk ({ Over.zero with Hands := ([] : List Hand), Way := ([] : List Word) } : Over) Sl.nil Sl.nil)) rfl rfl (by decide) Try.zeroValue124 rfl (fun b86 => ?_)
        refine Lst.nil ?_
        refine At.hd inv (fun w h => (h.weaken hF61).sublist (List.Sublist.cons _ (List.Sublist.cons _ (List.Sublist.cons _ (List.Sublist.cons _ (List.Sublist.cons_cons _ (List.Sublist.cons_cons _ (List.Sublist.cons_cons _ (List.Sublist.cons_cons _ (List.Sublist.refl _)))))))))) ?_
        refine HdJ.step [5, 9] (by kernel_rfl) rfl ?_
        refine HdStep.cons (by decide) rfl (fun inv => ?_) ?_
        · refine Lst.call rfl rfl (by decide) (vs := [Sl.v s_a0_1]) ⟨rfl, trivial⟩ Try.call173 (slices_Clone_api_Word_api_Word_sim h31 w0 _ M _ (List.Sublist.cons _ (List.Sublist.cons _ (List.Sublist.cons _ (List.Sublist.cons _ (List.Sublist.cons _ (List.Sublist.cons _ (List.Sublist.cons _ (List.Sublist.cons _ hM)))))))) (hs_a0_1.mono (FLe.trans hF20 hF61) (List.Sublist.refl _))) (fun F88 L' v hF89 hv => ?_)
          obtain ⟨s87, rfl, rfl⟩ := hv
          refine Lst.nil ?_
          refine At.hd inv (fun w h => (h.weaken (FLe.trans hF61 hF89)).sublist (List.Sublist.cons _ (List.Sublist.cons _ (List.Sublist.cons _ (List.Sublist.cons _ (List.Sublist.cons _ (List.Sublist.cons_cons _ (List.Sublist.cons_cons _ (List.Sublist.cons_cons _ (List.Sublist.cons_cons _ (List.Sublist.refl _))))))))))) ?_
          refine HdJ.step [9] (by kernel_rfl) rfl ?_
          refine HdStep.cons (by decide) rfl (fun inv => ?_) ?_
          · refine Lst.buildSlice (α := Word) (xs := ([({ Word.zero with From := a1, To := a2, At := (1 : Int) } : Word)] : List Word)) (pv := [(0, .agg (enc ({ Word.zero with From := a1, To := a2, At := (1 : Int) } : Word)).toArray)]) rfl rfl (by decide) ⟨rfl, rfl, trivial⟩ (run_buildSlice (α := Word) (z0 := Word.zero) (xs := ([({ Word.zero with From := a1, To := a2, At := (1 : Int) } : Word)] : List Word)) Try.runUnderlying112 Try.sizeOf209 Try.zeroValue209 rfl rfl rfl (by decide) rfl (fill_cons (cs := encs (List.replicate 1 Word.zero)) (cs' := encs ((List.replicate 1 Word.zero).set 0 ({ Word.zero with From := a1, To := a2, At := (1 : Int) } : Word))) (vs := enc ({ Word.zero with From := a1, To := a2, At := (1 : Int) } : Word)) rfl rfl (Enc.len _) ((Put.elemN (s := 3) (i := 0) (x := Word.zero) (y := ({ Word.zero with From := a1, To := a2, At := (1 : Int) } : Word)) rfl rfl (Put.here ((Enc.len _).trans (Enc.len _).symm))).off rfl) fill_nil)) rfl rfl (by decide) (fun s90 _ => ?_)
            refine Lst.nil ?_
            refine At.hd inv (fun w h => (h.weaken (FLe.trans hF61 hF89)).sublist (List.Sublist.cons _ (List.Sublist.cons _ (List.Sublist.cons _ (List.Sublist.cons _ (List.Sublist.cons _ (List.Sublist.cons _ (List.Sublist.cons_cons _ (List.Sublist.cons_cons _ (List.Sublist.cons_cons _ (List.Sublist.cons_cons _ (List.Sublist.refl _)))))))))))) ?_
            refine HdJ.step [10] (by kernel_rfl) rfl ?_
            refine HdStep.cons (by decide) rfl (fun inv => ?_) ?_
            · refine Lst.append (i := 1) (α := Word) (xs := r30) (ys := ([({ Word.zero with From := a1, To := a2, At := (1 : Int) } : Word)] : List Word)) rfl rfl (by decide) rfl rfl Try.runUnderlying112 Try.typeInfo209 rfl rfl rfl rfl rfl rfl (Rd.own (i := 0) rfl rfl rfl) rfl (room_some h39) rfl (fun s91 => ?_)
              refine Lst.its (L' := (.own s90 209 3 (encs ([({ Word.zero with From := a1, To := a2, At := (1 : Int) } : Word)] : List Word))) :: (.own s91 209 3 (encs (r30 ++ ([({ Word.zero with From := a1, To := a2, At := (1 : Int) } : Word)] : List Word)))) :: (.blk b86 (enc (OverR.mk ({ Over.zero with Hands := ([] : List Hand), Way := ([] : List Word) } : Over) Sl.nil Sl.nil)) 124) :: (.own Sl.nil 209 3 (encs ([] : List Word))) :: (.own Sl.nil 135 3 (encs ([] : List Hand))) :: (.own s59 135 3 (encs r24)) :: (.blk b5 (enc (OverR.mk ({ Over.zero with Hands := ([] : List Hand), Way := ([] : List Word) } : Over) Sl.nil Sl.nil)) 124) :: (.own Sl.nil 209 3 (encs ([] : List Word))) :: (.own Sl.nil 135 3 (encs ([] : List Hand))) :: (.blk b1 (enc (OverR.mk a0 s_a0_0 s_a0_1)) 124) :: L) rfl ?_
              refine Lst.nil ?_
              refine At.hd inv (fun w h => (h.weaken (FLe.trans hF61 hF89)).sublist (List.Sublist.cons _ (List.Sublist.cons _ (List.Sublist.cons _ (List.Sublist.cons _ (List.Sublist.cons _ (List.Sublist.cons _ (List.Sublist.cons_cons _ (List.Sublist.cons_cons _ (List.Sublist.cons_cons _ (List.Sublist.cons_cons _ (List.Sublist.refl _)))))))))))) ?_
              refine HdJ.keep (fun w => St w0 F88 ((.own s90 209 3 (encs ([({ Word.zero with From := a1, To := a2, At := (1 : Int) } : Word)] : List Word))) :: (.own s91 209 3 (encs (r30 ++ ([({ Word.zero with From := a1, To := a2, At := (1 : Int) } : Word)] : List Word)))) :: (.blk b86 (enc (OverR.mk ({ Over.zero with Hands := ([] : List Hand), Way := ([] : List Word) } : Over) Sl.nil Sl.nil)) 124) :: (.own Sl.nil 209 3 (encs ([] : List Word))) :: (.own Sl.nil 135 3 (encs ([] : List Hand))) :: (.own s59 135 3 (encs r24)) :: (.blk b5 (enc (OverR.mk ({ Over.zero with Hands := ([] : List Hand), Way := ([] : List Word) } : Over) Sl.nil Sl.nil)) 124) :: (.own Sl.nil 209 3 (encs ([] : List Word))) :: (.own Sl.nil 135 3 (encs ([] : List Hand))) :: (.blk b1 (enc (OverR.mk a0 s_a0_0 s_a0_1)) 124) :: L) w) (fun w h => (h.weaken (FLe.trans hF61 hF89)).sublist (List.Sublist.cons _ (List.Sublist.cons _ (List.Sublist.cons _ (List.Sublist.cons _ (List.Sublist.cons _ (List.Sublist.cons _ (List.Sublist.cons_cons _ (List.Sublist.cons_cons _ (List.Sublist.cons_cons _ (List.Sublist.cons_cons _ (List.Sublist.refl _)))))))))))) ?_
              refine HdJ.takeK hsel hlt 11 (fun w h => h.sublist (List.Sublist.cons_cons _ (List.Sublist.cons_cons _ (List.Sublist.cons_cons _ (List.Sublist.cons_cons _ (List.Sublist.cons_cons _ (List.Sublist.cons_cons _ (List.Sublist.cons_cons _ (List.Sublist.cons_cons _ (List.Sublist.cons_cons _ (List.Sublist.cons_cons _ (List.Sublist.refl _)))))))))))) rfl rfl (by decide) (by decide) (by kernel_rfl) (by kernel_rfl) rfl (Ev.build (v := .agg (enc (OverR.mk ({ Over.zero with Hands := r24, Way := r30 ++ ([({ Word.zero with From := a1, To := a2, At := (1 : Int) } : Word)] : List Word) } : Over) s59 s91)).toArray) (pv := [(0, Sl.v s59), (1, Sl.v s91)]) ⟨rfl, rfl, ⟨rfl, rfl, trivial⟩⟩ (run_buildStruct (places := #[(0, 1), (1, 1)]) Try.zeroValue124 (zs := enc (OverR.mk Over.zero Sl.nil Sl.nil)) rfl Try.runUnderlying124 (fun w => by kernel_rfl) (fill_cons (cs := enc (OverR.mk Over.zero Sl.nil Sl.nil)) (cs' := enc (OverR.mk ({ Over.zero with Hands := r24 } : Over) s59 Sl.nil)) (vs := [Sl.v s59]) rfl rfl rfl ((OverR.put_Hands (p := (OverR.mk Over.zero Sl.nil Sl.nil)) (y := s59) (Put.here (vs := [Sl.v s59]) rfl)).off rfl) (fill_cons (cs := enc (OverR.mk ({ Over.zero with Hands := r24 } : Over) s59 Sl.nil)) (cs' := enc (OverR.mk ({ Over.zero with Hands := r24, Way := r30 ++ ([({ Word.zero with From := a1, To := a2, At := (1 : Int) } : Word)] : List Word) } : Over) s59 s91)) (vs := [Sl.v s91]) rfl rfl rfl ((OverR.put_Way (p := (OverR.mk ({ Over.zero with Hands := r24 } : Over) s59 Sl.nil)) (y := s91) (Put.here (vs := [Sl.v s91]) rfl)).off rfl) fill_nil)))) ?_
              refine HdJ.done (by kernel_rfl) ?_
              refine At.front (i := 9) rfl rfl ?_
              refine At.front (i := 9) rfl rfl ?_
              refine At.front (i := 9) rfl rfl ?_
              refine At.front (i := 9) rfl rfl ?_
              refine At.front (i := 9) rfl rfl ?_
              refine At.front (i := 6) rfl rfl ?_
              refine At.front (i := 6) rfl rfl ?_
              refine At.front (i := 9) rfl rfl ?_
              refine At.front (i := 9) rfl rfl ?_
              refine At.front (i := 9) rfl rfl ?_
              exact At.meetN (b86, Sl.nil, ([] : List Word), Sl.nil, ([] : List Hand), s90, ([({ Word.zero with From := a1, To := a2, At := (1 : Int) } : Word)] : List Word), s91, r30 ++ ([({ Word.zero with From := a1, To := a2, At := (1 : Int) } : Word)] : List Word), s59, r24) (FLe.trans hF61 hF89) ⟨rfl, rfl, rfl, rfl, trivial⟩ rfl h58
            exact trivial
          exact trivial
        refine HdStep.cons (by decide) rfl (fun inv => ?_) ?_
        · refine Lst.buildSlice (α := Word) (xs := ([({ Word.zero with From := a1, To := a2, At := (1 : Int) } : Word)] : List Word)) (pv := [(0, .agg (enc ({ Word.zero with From := a1, To := a2, At := (1 : Int) } : Word)).toArray)]) rfl rfl (by decide) ⟨rfl, rfl, trivial⟩ (run_buildSlice (α := Word) (z0 := Word.zero) (xs := ([({ Word.zero with From := a1, To := a2, At := (1 : Int) } : Word)] : List Word)) Try.runUnderlying112 Try.sizeOf209 Try.zeroValue209 rfl rfl rfl (by decide) rfl (fill_cons (cs := encs (List.replicate 1 Word.zero)) (cs' := encs ((List.replicate 1 Word.zero).set 0 ({ Word.zero with From := a1, To := a2, At := (1 : Int) } : Word))) (vs := enc ({ Word.zero with From := a1, To := a2, At := (1 : Int) } : Word)) rfl rfl (Enc.len _) ((Put.elemN (s := 3) (i := 0) (x := Word.zero) (y := ({ Word.zero with From := a1, To := a2, At := (1 : Int) } : Word)) rfl rfl (Put.here ((Enc.len _).trans (Enc.len _).symm))).off rfl) fill_nil)) rfl rfl (by decide) (fun s92 _ => ?_)
          refine Lst.nil ?_
          refine At.hd inv (fun w h => (h.weaken hF61).sublist (List.Sublist.cons _ (List.Sublist.cons _ (List.Sublist.cons _ (List.Sublist.cons _ (List.Sublist.cons _ (List.Sublist.cons_cons _ (List.Sublist.cons_cons _ (List.Sublist.cons_cons _ (List.Sublist.cons_cons _ (List.Sublist.refl _))))))))))) ?_
          refine HdJ.step [5] (by kernel_rfl) rfl ?_
          refine HdStep.cons (by decide) rfl (fun inv => ?_) ?_
          · refine Lst.call rfl rfl (by decide) (vs := [Sl.v s_a0_1]) ⟨rfl, trivial⟩ Try.call173 (slices_Clone_api_Word_api_Word_sim h31 w0 _ M _ (List.Sublist.cons _ (List.Sublist.cons _ (List.Sublist.cons _ (List.Sublist.cons _ (List.Sublist.cons _ (List.Sublist.cons _ (List.Sublist.cons _ (List.Sublist.cons _ (List.Sublist.cons _ hM))))))))) (hs_a0_1.mono (FLe.trans hF20 hF61) (List.Sublist.refl _))) (fun F94 L' v hF95 hv => ?_)
            obtain ⟨s93, rfl, rfl⟩ := hv
            refine Lst.nil ?_
            refine At.hd inv (fun w h => (h.weaken (FLe.trans hF61 hF95)).sublist (List.Sublist.cons _ (List.Sublist.cons _ (List.Sublist.cons _ (List.Sublist.cons _ (List.Sublist.cons _ (List.Sublist.cons _ (List.Sublist.cons_cons _ (List.Sublist.cons_cons _ (List.Sublist.cons_cons _ (List.Sublist.cons_cons _ (List.Sublist.refl _)))))))))))) ?_
            refine HdJ.step [10] (by kernel_rfl) rfl ?_
            refine HdStep.cons (by decide) rfl (fun inv => ?_) ?_
            · refine Lst.append (i := 0) (α := Word) (xs := r30) (ys := ([({ Word.zero with From := a1, To := a2, At := (1 : Int) } : Word)] : List Word)) rfl rfl (by decide) rfl rfl Try.runUnderlying112 Try.typeInfo209 rfl rfl rfl rfl rfl rfl (Rd.own (i := 1) rfl rfl rfl) rfl (room_some h39) rfl (fun s96 => ?_)
              refine Lst.its (L' := (.own s96 209 3 (encs (r30 ++ ([({ Word.zero with From := a1, To := a2, At := (1 : Int) } : Word)] : List Word)))) :: (.own s92 209 3 (encs ([({ Word.zero with From := a1, To := a2, At := (1 : Int) } : Word)] : List Word))) :: (.blk b86 (enc (OverR.mk ({ Over.zero with Hands := ([] : List Hand), Way := ([] : List Word) } : Over) Sl.nil Sl.nil)) 124) :: (.own Sl.nil 209 3 (encs ([] : List Word))) :: (.own Sl.nil 135 3 (encs ([] : List Hand))) :: (.own s59 135 3 (encs r24)) :: (.blk b5 (enc (OverR.mk ({ Over.zero with Hands := ([] : List Hand), Way := ([] : List Word) } : Over) Sl.nil Sl.nil)) 124) :: (.own Sl.nil 209 3 (encs ([] : List Word))) :: (.own Sl.nil 135 3 (encs ([] : List Hand))) :: (.blk b1 (enc (OverR.mk a0 s_a0_0 s_a0_1)) 124) :: L) rfl ?_
              refine Lst.nil ?_
              refine At.hd inv (fun w h => (h.weaken (FLe.trans hF61 hF95)).sublist (List.Sublist.cons _ (List.Sublist.cons _ (List.Sublist.cons _ (List.Sublist.cons _ (List.Sublist.cons _ (List.Sublist.cons _ (List.Sublist.cons_cons _ (List.Sublist.cons_cons _ (List.Sublist.cons_cons _ (List.Sublist.cons_cons _ (List.Sublist.refl _)))))))))))) ?_
              refine HdJ.keep (fun w => St w0 F94 ((.own s96 209 3 (encs (r30 ++ ([({ Word.zero with From := a1, To := a2, At := (1 : Int) } : Word)] : List Word)))) :: (.own s92 209 3 (encs ([({ Word.zero with From := a1, To := a2, At := (1 : Int) } : Word)] : List Word))) :: (.blk b86 (enc (OverR.mk ({ Over.zero with Hands := ([] : List Hand), Way := ([] : List Word) } : Over) Sl.nil Sl.nil)) 124) :: (.own Sl.nil 209 3 (encs ([] : List Word))) :: (.own Sl.nil 135 3 (encs ([] : List Hand))) :: (.own s59 135 3 (encs r24)) :: (.blk b5 (enc (OverR.mk ({ Over.zero with Hands := ([] : List Hand), Way := ([] : List Word) } : Over) Sl.nil Sl.nil)) 124) :: (.own Sl.nil 209 3 (encs ([] : List Word))) :: (.own Sl.nil 135 3 (encs ([] : List Hand))) :: (.blk b1 (enc (OverR.mk a0 s_a0_0 s_a0_1)) 124) :: L) w) (fun w h => (h.weaken (FLe.trans hF61 hF95)).sublist (List.Sublist.cons _ (List.Sublist.cons _ (List.Sublist.cons _ (List.Sublist.cons _ (List.Sublist.cons _ (List.Sublist.cons _ (List.Sublist.cons_cons _ (List.Sublist.cons_cons _ (List.Sublist.cons_cons _ (List.Sublist.cons_cons _ (List.Sublist.refl _)))))))))))) ?_
              refine HdJ.takeK hsel hlt 11 (fun w h => h.sublist (List.Sublist.cons_cons _ (List.Sublist.cons_cons _ (List.Sublist.cons_cons _ (List.Sublist.cons_cons _ (List.Sublist.cons_cons _ (List.Sublist.cons_cons _ (List.Sublist.cons_cons _ (List.Sublist.cons_cons _ (List.Sublist.cons_cons _ (List.Sublist.cons_cons _ (List.Sublist.refl _)))))))))))) rfl rfl (by decide) (by decide) (by kernel_rfl) (by kernel_rfl) rfl (Ev.build (v := .agg (enc (OverR.mk ({ Over.zero with Hands := r24, Way := r30 ++ ([({ Word.zero with From := a1, To := a2, At := (1 : Int) } : Word)] : List Word) } : Over) s59 s96)).toArray) (pv := [(0, Sl.v s59), (1, Sl.v s96)]) ⟨rfl, rfl, ⟨rfl, rfl, trivial⟩⟩ (run_buildStruct (places := #[(0, 1), (1, 1)]) Try.zeroValue124 (zs := enc (OverR.mk Over.zero Sl.nil Sl.nil)) rfl Try.runUnderlying124 (fun w => by kernel_rfl) (fill_cons (cs := enc (OverR.mk Over.zero Sl.nil Sl.nil)) (cs' := enc (OverR.mk ({ Over.zero with Hands := r24 } : Over) s59 Sl.nil)) (vs := [Sl.v s59]) rfl rfl rfl ((OverR.put_Hands (p := (OverR.mk Over.zero Sl.nil Sl.nil)) (y := s59) (Put.here (vs := [Sl.v s59]) rfl)).off rfl) (fill_cons (cs := enc (OverR.mk ({ Over.zero with Hands := r24 } : Over) s59 Sl.nil)) (cs' := enc (OverR.mk ({ Over.zero with Hands := r24, Way := r30 ++ ([({ Word.zero with From := a1, To := a2, At := (1 : Int) } : Word)] : List Word) } : Over) s59 s96)) (vs := [Sl.v s96]) rfl rfl rfl ((OverR.put_Way (p := (OverR.mk ({ Over.zero with Hands := r24 } : Over) s59 Sl.nil)) (y := s96) (Put.here (vs := [Sl.v s96]) rfl)).off rfl) fill_nil)))) ?_
              refine HdJ.done (by kernel_rfl) ?_
              refine At.front (i := 9) rfl rfl ?_
              refine At.front (i := 9) rfl rfl ?_
              refine At.front (i := 9) rfl rfl ?_
              refine At.front (i := 9) rfl rfl ?_
              refine At.front (i := 9) rfl rfl ?_
              refine At.front (i := 5) rfl rfl ?_
              refine At.front (i := 6) rfl rfl ?_
              refine At.front (i := 9) rfl rfl ?_
              refine At.front (i := 9) rfl rfl ?_
              refine At.front (i := 9) rfl rfl ?_
              exact At.meetN (b86, Sl.nil, ([] : List Word), Sl.nil, ([] : List Hand), s92, ([({ Word.zero with From := a1, To := a2, At := (1 : Int) } : Word)] : List Word), s96, r30 ++ ([({ Word.zero with From := a1, To := a2, At := (1 : Int) } : Word)] : List Word), s59, r24) (FLe.trans hF61 hF95) ⟨rfl, rfl, rfl, rfl, trivial⟩ rfl h58
            exact trivial
          exact trivial
        exact trivial
      exact trivial
    refine HdStep.cons (by decide) rfl (fun inv => ?_) ?_
    · refine Lst.buildSlice (α := Word) (xs := ([({ Word.zero with From := a1, To := a2, At := (1 : Int) } : Word)] : List Word)) (pv := [(0, .agg (enc ({ Word.zero with From := a1, To := a2, At := (1 : Int) } : Word)).toArray)]) rfl rfl (by decide) ⟨rfl, rfl, trivial⟩ (run_buildSlice (α := Word) (z0 := Word.zero) (xs := ([({ Word.zero with From := a1, To := a2, At := (1 : Int) } : Word)] : List Word)) Try.runUnderlying112 Try.sizeOf209 Try.zeroValue209 rfl rfl rfl (by decide) rfl (fill_cons (cs := encs (List.replicate 1 Word.zero)) (cs' := encs ((List.replicate 1 Word.zero).set 0 ({ Word.zero with From := a1, To := a2, At := (1 : Int) } : Word))) (vs := enc ({ Word.zero with From := a1, To := a2, At := (1 : Int) } : Word)) rfl rfl (Enc.len _) ((Put.elemN (s := 3) (i := 0) (x := Word.zero) (y := ({ Word.zero with From := a1, To := a2, At := (1 : Int) } : Word)) rfl rfl (Put.here ((Enc.len _).trans (Enc.len _).symm))).off rfl) fill_nil)) rfl rfl (by decide) (fun s97 _ => ?_)
      refine Lst.nil ?_
      refine At.hd inv (fun w h => (h.weaken (FLe.refl _)).sublist (List.Sublist.cons _ (List.Sublist.cons_cons _ (List.Sublist.cons_cons _ (List.Sublist.cons_cons _ (List.Sublist.cons_cons _ (List.Sublist.refl _))))))) ?_
      refine HdJ.step [2, 12] (by kernel_rfl) rfl ?_
      refine HdStep.cons (by decide) rfl (fun inv => ?_) ?_
      · refine Lst.call rfl rfl (by decide) (vs := [Sl.v s_a0_0]) ⟨rfl, trivial⟩ Try.call171 (slices_Clone_api_Hand_api_Hand_sim h25 w0 _ M _ (List.Sublist.cons _ (List.Sublist.cons _ (List.Sublist.cons _ (List.Sublist.cons _ (List.Sublist.cons _ hM))))) (hs_a0_0.mono hF20 (List.Sublist.refl _))) (fun F99 L' v hF100 hv => ?_)
        obtain ⟨s98, rfl, rfl⟩ := hv
        refine Lst.nil ?_
        refine At.hd inv (fun w h => (h.weaken hF100).sublist (List.Sublist.cons _ (List.Sublist.cons _ (List.Sublist.cons_cons _ (List.Sublist.cons_cons _ (List.Sublist.cons_cons _ (List.Sublist.cons_cons _ (List.Sublist.refl _)))))))) ?_
        refine HdJ.step [5, 12] (by kernel_rfl) rfl ?_
        refine HdStep.cons (by decide) rfl (fun inv => ?_) ?_
        · refine Lst.call rfl rfl (by decide) (vs := [Sl.v s_a0_1]) ⟨rfl, trivial⟩ Try.call173 (slices_Clone_api_Word_api_Word_sim h31 w0 _ M _ (List.Sublist.cons _ (List.Sublist.cons _ (List.Sublist.cons _ (List.Sublist.cons _ (List.Sublist.cons _ (List.Sublist.cons _ hM)))))) (hs_a0_1.mono (FLe.trans hF20 hF100) (List.Sublist.refl _))) (fun F102 L' v hF103 hv => ?_)
          obtain ⟨s101, rfl, rfl⟩ := hv
          refine Lst.nil ?_
          refine At.hd inv (fun w h => (h.weaken (FLe.trans hF100 hF103)).sublist (List.Sublist.cons _ (List.Sublist.cons _ (List.Sublist.cons _ (List.Sublist.cons_cons _ (List.Sublist.cons_cons _ (List.Sublist.cons_cons _ (List.Sublist.cons_cons _ (List.Sublist.refl _))))))))) ?_
          refine HdJ.step [10, 12] (by kernel_rfl) rfl ?_
          refine HdStep.cons (by decide) rfl (fun inv => ?_) ?_
          · refine Lst.append (i := 0) (α := Word) (xs := r30) (ys := ([({ Word.zero with From := a1, To := a2, At := (1 : Int) } : Word)] : List Word)) rfl rfl (by decide) rfl rfl Try.runUnderlying112 Try.typeInfo209 rfl rfl rfl rfl rfl rfl (Rd.own (i := 2) rfl rfl rfl) rfl (room_some h39) rfl (fun s104 => ?_)
            refine Lst.its (L' := (.own s104 209 3 (encs (r30 ++ ([({ Word.zero with From := a1, To := a2, At := (1 : Int) } : Word)] : List Word)))) :: (.own s98 135 3 (encs r24)) :: (.own s97 209 3 (encs ([({ Word.zero with From := a1, To := a2, At := (1 : Int) } : Word)] : List Word))) :: (.blk b5 (enc (OverR.mk ({ Over.zero with Hands := ([] : List Hand), Way := ([] : List Word) } : Over) Sl.nil Sl.nil)) 124) :: (.own Sl.nil 209 3 (encs ([] : List Word))) :: (.own Sl.nil 135 3 (encs ([] : List Hand))) :: (.blk b1 (enc (OverR.mk a0 s_a0_0 s_a0_1)) 124) :: L) rfl ?_
            refine Lst.nil ?_
            refine At.hd inv (fun w h => (h.weaken (FLe.trans hF100 hF103)).sublist (List.Sublist.cons _ (List.Sublist.cons _ (List.Sublist.cons _ (List.Sublist.cons_cons _ (List.Sublist.cons_cons _ (List.Sublist.cons_cons _ (List.Sublist.cons_cons _ (List.Sublist.refl _))))))))) ?_
            refine HdJ.keep (fun w => St w0 F102 ((.own s104 209 3 (encs (r30 ++ ([({ Word.zero with From := a1, To := a2, At := (1 : Int) } : Word)] : List Word)))) :: (.own s98 135 3 (encs r24)) :: (.own s97 209 3 (encs ([({ Word.zero with From := a1, To := a2, At := (1 : Int) } : Word)] : List Word))) :: (.blk b5 (enc (OverR.mk ({ Over.zero with Hands := ([] : List Hand), Way := ([] : List Word) } : Over) Sl.nil Sl.nil)) 124) :: (.own Sl.nil 209 3 (encs ([] : List Word))) :: (.own Sl.nil 135 3 (encs ([] : List Hand))) :: (.blk b1 (enc (OverR.mk a0 s_a0_0 s_a0_1)) 124) :: L) w) (fun w h => (h.weaken (FLe.trans hF100 hF103)).sublist (List.Sublist.cons _ (List.Sublist.cons _ (List.Sublist.cons _ (List.Sublist.cons_cons _ (List.Sublist.cons_cons _ (List.Sublist.cons_cons _ (List.Sublist.cons_cons _ (List.Sublist.refl _))))))))) ?_
            refine HdJ.takeK hsel hlt 11 (fun w h => h.sublist (List.Sublist.cons_cons _ (List.Sublist.cons_cons _ (List.Sublist.cons_cons _ (List.Sublist.cons_cons _ (List.Sublist.cons_cons _ (List.Sublist.cons_cons _ (List.Sublist.cons_cons _ (List.Sublist.refl _))))))))) rfl rfl (by decide) (by decide) (by kernel_rfl) (by kernel_rfl) rfl (Ev.build (v := .agg (enc (OverR.mk ({ Over.zero with Hands := r24, Way := r30 ++ ([({ Word.zero with From := a1, To := a2, At := (1 : Int) } : Word)] : List Word) } : Over) s98 s104)).toArray) (pv := [(0, Sl.v s98), (1, Sl.v s104)]) ⟨rfl, rfl, ⟨rfl, rfl, trivial⟩⟩ (run_buildStruct (places := #[(0, 1), (1, 1)]) Try.zeroValue124 (zs := enc (OverR.mk Over.zero Sl.nil Sl.nil)) rfl Try.runUnderlying124 (fun w => by kernel_rfl) (fill_cons (cs := enc (OverR.mk Over.zero Sl.nil Sl.nil)) (cs' := enc (OverR.mk ({ Over.zero with Hands := r24 } : Over) s98 Sl.nil)) (vs := [Sl.v s98]) rfl rfl rfl ((OverR.put_Hands (p := (OverR.mk Over.zero Sl.nil Sl.nil)) (y := s98) (Put.here (vs := [Sl.v s98]) rfl)).off rfl) (fill_cons (cs := enc (OverR.mk ({ Over.zero with Hands := r24 } : Over) s98 Sl.nil)) (cs' := enc (OverR.mk ({ Over.zero with Hands := r24, Way := r30 ++ ([({ Word.zero with From := a1, To := a2, At := (1 : Int) } : Word)] : List Word) } : Over) s98 s104)) (vs := [Sl.v s104]) rfl rfl rfl ((OverR.put_Way (p := (OverR.mk ({ Over.zero with Hands := r24 } : Over) s98 Sl.nil)) (y := s104) (Put.here (vs := [Sl.v s104]) rfl)).off rfl) fill_nil)))) ?_
            refine HdJ.step [12] (by kernel_rfl) rfl ?_
            refine HdStep.cons (by decide) rfl (fun inv => ?_) ?_
            · refine Lst.addNil 135 3 ?_
              refine Lst.addNil 209 3 ?_
              refine Lst.alloc (cs := enc (OverR.mk ({ Over.zero with Hands := ([] : List Hand), Way := ([] : List Word) } : Over) Sl.nil Sl.nil)) rfl rfl (by decide) Try.zeroValue124 rfl (fun b105 => ?_)
              refine Lst.nil ?_
              refine At.hd inv (fun w h => (h.weaken (FLe.refl _)).sublist (List.Sublist.cons _ (List.Sublist.cons _ (List.Sublist.cons _ (List.Sublist.cons_cons _ (List.Sublist.cons_cons _ (List.Sublist.cons_cons _ (List.Sublist.cons_cons _ (List.Sublist.cons_cons _ (List.Sublist.cons_cons _ (List.Sublist.cons_cons _ (List.Sublist.refl _)))))))))))) ?_
              refine HdJ.done (by kernel_rfl) ?_
              refine At.front (i := 9) rfl rfl ?_
              refine At.front (i := 9) rfl rfl ?_
              refine At.front (i := 9) rfl rfl ?_
              refine At.front (i := 9) rfl rfl ?_
              refine At.front (i := 8) rfl rfl ?_
              refine At.front (i := 8) rfl rfl ?_
              refine At.front (i := 9) rfl rfl ?_
              refine At.front (i := 9) rfl rfl ?_
              refine At.front (i := 9) rfl rfl ?_
              refine At.front (i := 9) rfl rfl ?_
              exact At.meetN (b105, Sl.nil, ([] : List Word), Sl.nil, ([] : List Hand), s97, ([({ Word.zero with From := a1, To := a2, At := (1 : Int) } : Word)] : List Word), s104, r30 ++ ([({ Word.zero with From := a1, To := a2, At := (1 : Int) } : Word)] : List Word), s98, r24) (FLe.trans hF100 hF103) ⟨rfl, rfl, rfl, rfl, trivial⟩ rfl h58
            exact trivial
          refine HdStep.cons (by decide) rfl (fun inv => ?_) ?_
          · refine Lst.addNil 135 3 ?_
            refine Lst.addNil 209 3 ?_
            refine Lst.alloc (cs := enc (OverR.mk ({ Over.zero with Hands := ([] : List Hand), Way := ([] : List Word) } : Over) Sl.nil Sl.nil)) rfl rfl (by decide) Try.zeroValue124 rfl (fun b106 => ?_)
            refine Lst.nil ?_
            refine At.hd inv (fun w h => (h.weaken (FLe.trans hF100 hF103)).sublist (List.Sublist.cons _ (List.Sublist.cons _ (List.Sublist.cons _ (List.Sublist.cons _ (List.Sublist.cons _ (List.Sublist.cons _ (List.Sublist.cons_cons _ (List.Sublist.cons_cons _ (List.Sublist.cons_cons _ (List.Sublist.cons_cons _ (List.Sublist.refl _)))))))))))) ?_
            refine HdJ.step [10] (by kernel_rfl) rfl ?_
            refine HdStep.cons (by decide) rfl (fun inv => ?_) ?_
            · refine Lst.append (i := 3) (α := Word) (xs := r30) (ys := ([({ Word.zero with From := a1, To := a2, At := (1 : Int) } : Word)] : List Word)) rfl rfl (by decide) rfl rfl Try.runUnderlying112 Try.typeInfo209 rfl rfl rfl rfl rfl rfl (Rd.own (i := 5) rfl rfl rfl) rfl (room_some h39) rfl (fun s107 => ?_)
              refine Lst.its (L' := (.blk b106 (enc (OverR.mk ({ Over.zero with Hands := ([] : List Hand), Way := ([] : List Word) } : Over) Sl.nil Sl.nil)) 124) :: (.own Sl.nil 209 3 (encs ([] : List Word))) :: (.own Sl.nil 135 3 (encs ([] : List Hand))) :: (.own s107 209 3 (encs (r30 ++ ([({ Word.zero with From := a1, To := a2, At := (1 : Int) } : Word)] : List Word)))) :: (.own s98 135 3 (encs r24)) :: (.own s97 209 3 (encs ([({ Word.zero with From := a1, To := a2, At := (1 : Int) } : Word)] : List Word))) :: (.blk b5 (enc (OverR.mk ({ Over.zero with Hands := ([] : List Hand), Way := ([] : List Word) } : Over) Sl.nil Sl.nil)) 124) :: (.own Sl.nil 209 3 (encs ([] : List Word))) :: (.own Sl.nil 135 3 (encs ([] : List Hand))) :: (.blk b1 (enc (OverR.mk a0 s_a0_0 s_a0_1)) 124) :: L) rfl ?_
              refine Lst.nil ?_
              refine At.hd inv (fun w h => (h.weaken (FLe.trans hF100 hF103)).sublist (List.Sublist.cons _ (List.Sublist.cons _ (List.Sublist.cons _ (List.Sublist.cons _ (List.Sublist.cons _ (List.Sublist.cons _ (List.Sublist.cons_cons _ (List.Sublist.cons_cons _ (List.Sublist.cons_cons _ (List.Sublist.cons_cons _ (List.Sublist.refl _)))))))))))) ?_
              refine HdJ.keep (fun w => St w0 F102 ((.blk b106 (enc (OverR.mk ({ Over.zero with Hands := ([] : List Hand), Way := ([] : List Word) } : Over) Sl.nil Sl.nil)) 124) :: (.own Sl.nil 209 3 (encs ([] : List Word))) :: (.own Sl.nil 135 3 (encs ([] : List Hand))) :: (.own s107 209 3 (encs (r30 ++ ([({ Word.zero with From := a1, To := a2, At := (1 : Int) } : Word)] : List Word)))) :: (.own s98 135 3 (encs r24)) :: (.own s97 209 3 (encs ([({ Word.zero with From := a1, To := a2, At := (1 : Int) } : Word)] : List Word))) :: (.blk b5 (enc (OverR.mk ({ Over.zero with Hands := ([] : List Hand), Way := ([] : List Word) } : Over) Sl.nil Sl.nil)) 124) :: (.own Sl.nil 209 3 (encs ([] : List Word))) :: (.own Sl.nil 135 3 (encs ([] : List Hand))) :: (.blk b1 (enc (OverR.mk a0 s_a0_0 s_a0_1)) 124) :: L) w) (fun w h => (h.weaken (FLe.trans hF100 hF103)).sublist (List.Sublist.cons _ (List.Sublist.cons _ (List.Sublist.cons _ (List.Sublist.cons _ (List.Sublist.cons _ (List.Sublist.cons _ (List.Sublist.cons_cons _ (List.Sublist.cons_cons _ (List.Sublist.cons_cons _ (List.Sublist.cons_cons _ (List.Sublist.refl _)))))))))))) ?_
              refine HdJ.takeK hsel hlt 11 (fun w h => h.sublist (List.Sublist.cons_cons _ (List.Sublist.cons_cons _ (List.Sublist.cons_cons _ (List.Sublist.cons_cons _ (List.Sublist.cons_cons _ (List.Sublist.cons_cons _ (List.Sublist.cons_cons _ (List.Sublist.cons_cons _ (List.Sublist.cons_cons _ (List.Sublist.cons_cons _ (List.Sublist.refl _)))))))))))) rfl rfl (by decide) (by decide) (by kernel_rfl) (by kernel_rfl) rfl (Ev.build (v := .agg (enc (OverR.mk ({ Over.zero with Hands := r24, Way := r30 ++ ([({ Word.zero with From := a1, To := a2, At := (1 : Int) } : Word)] : List Word) } : Over) s98 s107)).toArray) (pv := [(0, Sl.v s98), (1, Sl.v s107)]) ⟨rfl, rfl, ⟨rfl, rfl, trivial⟩⟩ (run_buildStruct (places := #[(0, 1), (1, 1)]) Try.zeroValue124 (zs := enc (OverR.mk Over.zero Sl.nil Sl.nil)) rfl Try.runUnderlying124 (fun w => by kernel_rfl) (fill_cons (cs := enc (OverR.mk Over.zero Sl.nil Sl.nil)) (cs' := enc (OverR.mk ({ Over.zero with Hands := r24 } : Over) s98 Sl.nil)) (vs := [Sl.v s98]) rfl rfl rfl ((OverR.put_Hands (p := (OverR.mk Over.zero Sl.nil Sl.nil)) (y := s98) (Put.here (vs := [Sl.v s98]) rfl)).off rfl) (fill_cons (cs := enc (OverR.mk ({ Over.zero with Hands := r24 } : Over) s98 Sl.nil)) (cs' := enc (OverR.mk ({ Over.zero with Hands := r24, Way := r30 ++ ([({ Word.zero with From := a1, To := a2, At := (1 : Int) } : Word)] : List Word) } : Over) s98 s107)) (vs := [Sl.v s107]) rfl rfl rfl ((OverR.put_Way (p := (OverR.mk ({ Over.zero with Hands := r24 } : Over) s98 Sl.nil)) (y := s107) (Put.here (vs := [Sl.v s107]) rfl)).off rfl) fill_nil)))) ?_
              refine HdJ.done (by kernel_rfl) ?_
              refine At.front (i := 9) rfl rfl ?_
              refine At.front (i := 9) rfl rfl ?_
              refine At.front (i := 9) rfl rfl ?_
              refine At.front (i := 9) rfl rfl ?_
              refine At.front (i := 8) rfl rfl ?_
              refine At.front (i := 8) rfl rfl ?_
              refine At.front (i := 9) rfl rfl ?_
              refine At.front (i := 9) rfl rfl ?_
              refine At.front (i := 9) rfl rfl ?_
              refine At.front (i := 9) rfl rfl ?_
              exact At.meetN (b106, Sl.nil, ([] : List Word), Sl.nil, ([] : List Hand), s97, ([({ Word.zero with From := a1, To := a2, At := (1 : Int) } : Word)] : List Word), s107, r30 ++ ([({ Word.zero with From := a1, To := a2, At := (1 : Int) } : Word)] : List Word), s98, r24) (FLe.trans hF100 hF103) ⟨rfl, rfl, rfl, rfl, trivial⟩ rfl h58
            exact trivial
          exact trivial
        refine HdStep.cons (by decide) rfl (fun inv => ?_) ?_
        · refine Lst.addNil 135 3 ?_
          refine Lst.addNil 209 3 ?_
          refine Lst.alloc (cs := enc (OverR.mk ({ Over.zero with Hands := ([] : List Hand), Way := ([] : List Word) } : Over) Sl.nil Sl.nil)) rfl rfl (by decide) Try.zeroValue124 rfl (fun b108 => ?_)
          refine Lst.nil ?_
          refine At.hd inv (fun w h => (h.weaken hF100).sublist (List.Sublist.cons _ (List.Sublist.cons _ (List.Sublist.cons _ (List.Sublist.cons _ (List.Sublist.cons _ (List.Sublist.cons_cons _ (List.Sublist.cons_cons _ (List.Sublist.cons_cons _ (List.Sublist.cons_cons _ (List.Sublist.refl _))))))))))) ?_
          refine HdJ.step [5] (by kernel_rfl) rfl ?_
          refine HdStep.cons (by decide) rfl (fun inv => ?_) ?_
          · refine Lst.call rfl rfl (by decide) (vs := [Sl.v s_a0_1]) ⟨rfl, trivial⟩ Try.call173 (slices_Clone_api_Word_api_Word_sim h31 w0 _ M _ (List.Sublist.cons _ (List.Sublist.cons _ (List.Sublist.cons _ (List.Sublist.cons _ (List.Sublist.cons _ (List.Sublist.cons _ (List.Sublist.cons _ (List.Sublist.cons _ (List.Sublist.cons _ hM))))))))) (hs_a0_1.mono (FLe.trans hF20 hF100) (List.Sublist.refl _))) (fun F110 L' v hF111 hv => ?_)
            obtain ⟨s109, rfl, rfl⟩ := hv
            refine Lst.nil ?_
            refine At.hd inv (fun w h => (h.weaken (FLe.trans hF100 hF111)).sublist (List.Sublist.cons _ (List.Sublist.cons _ (List.Sublist.cons _ (List.Sublist.cons _ (List.Sublist.cons _ (List.Sublist.cons _ (List.Sublist.cons_cons _ (List.Sublist.cons_cons _ (List.Sublist.cons_cons _ (List.Sublist.cons_cons _ (List.Sublist.refl _)))))))))))) ?_
            refine HdJ.step [10] (by kernel_rfl) rfl ?_
            refine HdStep.cons (by decide) rfl (fun inv => ?_) ?_
            · refine Lst.append (i := 0) (α := Word) (xs := r30) (ys := ([({ Word.zero with From := a1, To := a2, At := (1 : Int) } : Word)] : List Word)) rfl rfl (by decide) rfl rfl Try.runUnderlying112 Try.typeInfo209 rfl rfl rfl rfl rfl rfl (Rd.own (i := 5) rfl rfl rfl) rfl (room_some h39) rfl (fun s112 => ?_)
              refine Lst.its (L' := (.own s112 209 3 (encs (r30 ++ ([({ Word.zero with From := a1, To := a2, At := (1 : Int) } : Word)] : List Word)))) :: (.blk b108 (enc (OverR.mk ({ Over.zero with Hands := ([] : List Hand), Way := ([] : List Word) } : Over) Sl.nil Sl.nil)) 124) :: (.own Sl.nil 209 3 (encs ([] : List Word))) :: (.own Sl.nil 135 3 (encs ([] : List Hand))) :: (.own s98 135 3 (encs r24)) :: (.own s97 209 3 (encs ([({ Word.zero with From := a1, To := a2, At := (1 : Int) } : Word)] : List Word))) :: (.blk b5 (enc (OverR.mk ({ Over.zero with Hands := ([] : List Hand), Way := ([] : List Word) } : Over) Sl.nil Sl.nil)) 124) :: (.own Sl.nil 209 3 (encs ([] : List Word))) :: (.own Sl.nil 135 3 (encs ([] : List Hand))) :: (.blk b1 (enc (OverR.mk a0 s_a0_0 s_a0_1)) 124) :: L) rfl ?_
              refine Lst.nil ?_
              refine At.hd inv (fun w h => (h.weaken (FLe.trans hF100 hF111)).sublist (List.Sublist.cons _ (List.Sublist.cons _ (List.Sublist.cons _ (List.Sublist.cons _ (List.Sublist.cons _ (List.Sublist.cons _ (List.Sublist.cons_cons _ (List.Sublist.cons_cons _ (List.Sublist.cons_cons _ (List.Sublist.cons_cons _ (List.Sublist.refl _)))))))))))) ?_
              refine HdJ.keep (fun w => St w0 F110 ((.own s112 209 3 (encs (r30 ++ ([({ Word.zero with From := a1, To := a2, At := (1 : Int) } : Word)] : List Word)))) :: (.blk b108 (enc (OverR.mk ({ Over.zero with Hands := ([] : List Hand), Way := ([] : List Word) } : Over) Sl.nil Sl.nil)) 124) :: (.own Sl.nil 209 3 (encs ([] : List Word))) :: (.own Sl.nil 135 3 (encs ([] : List Hand))) :: (.own s98 135 3 (encs r24)) :: (.own s97 209 3 (encs ([({ Word.zero with From := a1, To := a2, At := (1 : Int) } : Word)] : List Word))) :: (.blk b5 (enc (OverR.mk ({ Over.zero with Hands := ([] : List Hand), Way := ([] : List Word) } : Over) Sl.nil Sl.nil)) 124) :: (.own Sl.nil 209 3 (encs ([] : List Word))) :: (.own Sl.nil 135 3 (encs ([] : List Hand))) :: (.blk b1 (enc (OverR.mk a0 s_a0_0 s_a0_1)) 124) :: L) w) (fun w h => (h.weaken (FLe.trans hF100 hF111)).sublist (List.Sublist.cons _ (List.Sublist.cons _ (List.Sublist.cons _ (List.Sublist.cons _ (List.Sublist.cons _ (List.Sublist.cons _ (List.Sublist.cons_cons _ (List.Sublist.cons_cons _ (List.Sublist.cons_cons _ (List.Sublist.cons_cons _ (List.Sublist.refl _)))))))))))) ?_
              refine HdJ.takeK hsel hlt 11 (fun w h => h.sublist (List.Sublist.cons_cons _ (List.Sublist.cons_cons _ (List.Sublist.cons_cons _ (List.Sublist.cons_cons _ (List.Sublist.cons_cons _ (List.Sublist.cons_cons _ (List.Sublist.cons_cons _ (List.Sublist.cons_cons _ (List.Sublist.cons_cons _ (List.Sublist.cons_cons _ (List.Sublist.refl _)))))))))))) rfl rfl (by decide) (by decide) (by kernel_rfl) (by kernel_rfl) rfl (Ev.build (v := .agg (enc (OverR.mk ({ Over.zero with Hands := r24, Way := r30 ++ ([({ Word.zero with From := a1, To := a2, At := (1 : Int) } : Word)] : List Word) } : Over) s98 s112)).toArray) (pv := [(0, Sl.v s98), (1, Sl.v s112)]) ⟨rfl, rfl, ⟨rfl, rfl, trivial⟩⟩ (run_buildStruct (places := #[(0, 1), (1, 1)]) Try.zeroValue124 (zs := enc (OverR.mk Over.zero Sl.nil Sl.nil)) rfl Try.runUnderlying124 (fun w => by kernel_rfl) (fill_cons (cs := enc (OverR.mk Over.zero Sl.nil Sl.nil)) (cs' := enc (OverR.mk ({ Over.zero with Hands := r24 } : Over) s98 Sl.nil)) (vs := [Sl.v s98]) rfl rfl rfl ((OverR.put_Hands (p := (OverR.mk Over.zero Sl.nil Sl.nil)) (y := s98) (Put.here (vs := [Sl.v s98]) rfl)).off rfl) (fill_cons (cs := enc (OverR.mk ({ Over.zero with Hands := r24 } : Over) s98 Sl.nil)) (cs' := enc (OverR.mk ({ Over.zero with Hands := r24, Way := r30 ++ ([({ Word.zero with From := a1, To := a2, At := (1 : Int) } : Word)] : List Word) } : Over) s98 s112)) (vs := [Sl.v s112]) rfl rfl rfl ((OverR.put_Way (p := (OverR.mk ({ Over.zero with Hands := r24 } : Over) s98 Sl.nil)) (y := s112) (Put.here (vs := [Sl.v s112]) rfl)).off rfl) fill_nil)))) ?_
              refine HdJ.done (by kernel_rfl) ?_
              refine At.front (i := 9) rfl rfl ?_
              refine At.front (i := 9) rfl rfl ?_
              refine At.front (i := 9) rfl rfl ?_
              refine At.front (i := 9) rfl rfl ?_
              refine At.front (i := 8) rfl rfl ?_
              refine At.front (i := 5) rfl rfl ?_
              refine At.front (i := 9) rfl rfl ?_
              refine At.front (i := 9) rfl rfl ?_
              refine At.front (i := 9) rfl rfl ?_
              refine At.front (i := 9) rfl rfl ?_
              exact At.meetN (b108, Sl.nil, ([] : List Word), Sl.nil, ([] : List Hand), s97, ([({ Word.zero with From := a1, To := a2, At := (1 : Int) } : Word)] : List Word), s112, r30 ++ ([({ Word.zero with From := a1, To := a2, At := (1 : Int) } : Word)] : List Word), s98, r24) (FLe.trans hF100 hF111) ⟨rfl, rfl, rfl, rfl, trivial⟩ rfl h58
            exact trivial
          exact trivial
        exact trivial
      refine HdStep.cons (by decide) rfl (fun inv => ?_) ?_
      · refine Lst.addNil 135 3 ?_
        refine Lst.addNil 209 3 ?_
        refine Lst.alloc (cs := enc (OverR.mk ({ Over.zero with Hands := ([] : List Hand), Way := ([] : List Word) } : Over) Sl.nil Sl.nil)) rfl rfl (by decide) Try.zeroValue124 rfl (fun b113 => ?_)
        refine Lst.nil ?_
        refine At.hd inv (fun w h => (h.weaken (FLe.refl _)).sublist (List.Sublist.cons _ (List.Sublist.cons _ (List.Sublist.cons _ (List.Sublist.cons _ (List.Sublist.cons_cons _ (List.Sublist.cons_cons _ (List.Sublist.cons_cons _ (List.Sublist.cons_cons _ (List.Sublist.refl _)))))))))) ?_
        refine HdJ.step [2] (by kernel_rfl) rfl ?_
        refine HdStep.cons (by decide) rfl (fun inv => ?_) ?_
        · refine Lst.call rfl rfl (by decide) (vs := [Sl.v s_a0_0]) ⟨rfl, trivial⟩ Try.call171 (slices_Clone_api_Hand_api_Hand_sim h25 w0 _ M _ (List.Sublist.cons _ (List.Sublist.cons _ (List.Sublist.cons _ (List.Sublist.cons _ (List.Sublist.cons _ (List.Sublist.cons _ (List.Sublist.cons _ (List.Sublist.cons _ hM)))))))) (hs_a0_0.mono hF20 (List.Sublist.refl _))) (fun F115 L' v hF116 hv => ?_)
          obtain ⟨s114, rfl, rfl⟩ := hv
          refine Lst.nil ?_
          refine At.hd inv (fun w h => (h.weaken hF116).sublist (List.Sublist.cons _ (List.Sublist.cons _ (List.Sublist.cons _ (List.Sublist.cons _ (List.Sublist.cons _ (List.Sublist.cons_cons _ (List.Sublist.cons_cons _ (List.Sublist.cons_cons _ (List.Sublist.cons_cons _ (List.Sublist.refl _))))))))))) ?_
          refine HdJ.step [5] (by kernel_rfl) rfl ?_
          refine HdStep.cons (by decide) rfl (fun inv => ?_) ?_
          · refine Lst.call rfl rfl (by decide) (vs := [Sl.v s_a0_1]) ⟨rfl, trivial⟩ Try.call173 (slices_Clone_api_Word_api_Word_sim h31 w0 _ M _ (List.Sublist.cons _ (List.Sublist.cons _ (List.Sublist.cons _ (List.Sublist.cons _ (List.Sublist.cons _ (List.Sublist.cons _ (List.Sublist.cons _ (List.Sublist.cons _ (List.Sublist.cons _ hM))))))))) (hs_a0_1.mono (FLe.trans hF20 hF116) (List.Sublist.refl _))) (fun F118 L' v hF119 hv => ?_)
            obtain ⟨s117, rfl, rfl⟩ := hv
            refine Lst.nil ?_
            refine At.hd inv (fun w h => (h.weaken (FLe.trans hF116 hF119)).sublist (List.Sublist.cons _ (List.Sublist.cons _ (List.Sublist.cons _ (List.Sublist.cons _ (List.Sublist.cons _ (List.Sublist.cons _ (List.Sublist.cons_cons _ (List.Sublist.cons_cons _ (List.Sublist.cons_cons _ (List.Sublist.cons_cons _ (List.Sublist.refl _)))))))))))) ?_
            refine HdJ.step [10] (by kernel_rfl) rfl ?_
            refine HdStep.cons (by decide) rfl (fun inv => ?_) ?_
            · refine Lst.append (i := 0) (α := Word) (xs := r30) (ys := ([({ Word.zero with From := a1, To := a2, At := (1 : Int) } : Word)] : List Word)) rfl rfl (by decide) rfl rfl Try.runUnderlying112 Try.typeInfo209 rfl rfl rfl rfl rfl rfl (Rd.own (i := 5) rfl rfl rfl) rfl (room_some h39) rfl (fun s120 => ?_)
              refine Lst.its (L' := (.own s120 209 3 (encs (r30 ++ ([({ Word.zero with From := a1, To := a2, At := (1 : Int) } : Word)] : List Word)))) :: (.own s114 135 3 (encs r24)) :: (.blk b113 (enc (OverR.mk ({ Over.zero with Hands := ([] : List Hand), Way := ([] : List Word) } : Over) Sl.nil Sl.nil)) 124) :: (.own Sl.nil 209 3 (encs ([] : List Word))) :: (.own Sl.nil 135 3 (encs ([] : List Hand))) :: (.own s97 209 3 (encs ([({ Word.zero with From := a1, To := a2, At := (1 : Int) } : Word)] : List Word))) :: (.blk b5 (enc (OverR.mk ({ Over.zero with Hands := ([] : List Hand), Way := ([] : List Word) } : Over) Sl.nil Sl.nil)) 124) :: (.own Sl.nil 209 3 (encs ([] : List Word))) :: (.own Sl.nil 135 3 (encs ([] : List Hand))) :: (.blk b1 (enc (OverR.mk a0 s_a0_0 s_a0_1)) 124) :: L) rfl ?_
              refine Lst.nil ?_
              refine At.hd inv (fun w h => (h.weaken (FLe.trans hF116 hF119)).sublist (List.Sublist.cons _ (List.Sublist.cons _ (List.Sublist.cons _ (List.Sublist.cons _ (List.Sublist.cons _ (List.Sublist.cons _ (List.Sublist.cons_cons _ (List.Sublist.cons_cons _ (List.Sublist.cons_cons _ (List.Sublist.cons_cons _ (List.Sublist.refl _)))))))))))) ?_
              refine HdJ.keep (fun w => St w0 F118 ((.own s120 209 3 (encs (r30 ++ ([({ Word.zero with From := a1, To := a2, At := (1 : Int) } : Word)] : List Word)))) :: (.own s114 135 3 (encs r24)) :: (.blk b113 (enc (OverR.mk ({ Over.zero with Hands := ([] : List Hand), Way := ([] : List Word) } : Over) Sl.nil Sl.nil)) 124) :: (.own Sl.nil 209 3 (encs ([] : List Word))) :: (.own Sl.nil 135 3 (encs ([] : List Hand))) :: (.own s97 209 3 (encs ([({ Word.zero with From := a1, To := a2, At := (1 : Int) } : Word)] : List Word))) :: (.blk b5 (enc (OverR.mk ({ Over.zero with Hands := ([] : List Hand), Way := ([] : List Word) } : Over) Sl.nil Sl.nil)) 124) :: (.own Sl.nil 209 3 (encs ([] : List Word))) :: (.own Sl.nil 135 3 (encs ([] : List Hand))) :: (.blk b1 (enc (OverR.mk a0 s_a0_0 s_a0_1)) 124) :: L) w) (fun w h => (h.weaken (FLe.trans hF116 hF119)).sublist (List.Sublist.cons _ (List.Sublist.cons _ (List.Sublist.cons _ (List.Sublist.cons _ (List.Sublist.cons _ (List.Sublist.cons _ (List.Sublist.cons_cons _ (List.Sublist.cons_cons _ (List.Sublist.cons_cons _ (List.Sublist.cons_cons _ (List.Sublist.refl _)))))))))))) ?_
              refine HdJ.takeK hsel hlt 11 (fun w h => h.sublist (List.Sublist.cons_cons _ (List.Sublist.cons_cons _ (List.Sublist.cons_cons _ (List.Sublist.cons_cons _ (List.Sublist.cons_cons _ (List.Sublist.cons_cons _ (List.Sublist.cons_cons _ (List.Sublist.cons_cons _ (List.Sublist.cons_cons _ (List.Sublist.cons_cons _ (List.Sublist.refl _)))))))))))) rfl rfl (by decide) (by decide) (by kernel_rfl) (by kernel_rfl) rfl (Ev.build (v := .agg (enc (OverR.mk ({ Over.zero with Hands := r24, Way := r30 ++ ([({ Word.zero with From := a1, To := a2, At := (1 : Int) } : Word)] : List Word) } : Over) s114 s120)).toArray) (pv := [(0, Sl.v s114), (1, Sl.v s120)]) ⟨rfl, rfl, ⟨rfl, rfl, trivial⟩⟩ (run_buildStruct (places := #[(0, 1), (1, 1)]) Try.zeroValue124 (zs := enc (OverR.mk Over.zero Sl.nil Sl.nil)) rfl Try.runUnderlying124 (fun w => by kernel_rfl) (fill_cons (cs := enc (OverR.mk Over.zero Sl.nil Sl.nil)) (cs' := enc (OverR.mk ({ Over.zero with Hands := r24 } : Over) s114 Sl.nil)) (vs := [Sl.v s114]) rfl rfl rfl ((OverR.put_Hands (p := (OverR.mk Over.zero Sl.nil Sl.nil)) (y := s114) (Put.here (vs := [Sl.v s114]) rfl)).off rfl) (fill_cons (cs := enc (OverR.mk ({ Over.zero with Hands := r24 } : Over) s114 Sl.nil)) (cs' := enc (OverR.mk ({ Over.zero with Hands := r24, Way := r30 ++ ([({ Word.zero with From := a1, To := a2, At := (1 : Int) } : Word)] : List Word) } : Over) s114 s120)) (vs := [Sl.v s120]) rfl rfl rfl ((OverR.put_Way (p := (OverR.mk ({ Over.zero with Hands := r24 } : Over) s114 Sl.nil)) (y := s120) (Put.here (vs := [Sl.v s120]) rfl)).off rfl) fill_nil)))) ?_
              refine HdJ.done (by kernel_rfl) ?_
              refine At.front (i := 9) rfl rfl ?_
              refine At.front (i := 9) rfl rfl ?_
              refine At.front (i := 9) rfl rfl ?_
              refine At.front (i := 9) rfl rfl ?_
              refine At.front (i := 5) rfl rfl ?_
              refine At.front (i := 5) rfl rfl ?_
              refine At.front (i := 9) rfl rfl ?_
              refine At.front (i := 9) rfl rfl ?_
              refine At.front (i := 9) rfl rfl ?_
              refine At.front (i := 9) rfl rfl ?_
              exact At.meetN (b113, Sl.nil, ([] : List Word), Sl.nil, ([] : List Hand), s97, ([({ Word.zero with From := a1, To := a2, At := (1 : Int) } : Word)] : List Word), s120, r30 ++ ([({ Word.zero with From := a1, To := a2, At := (1 : Int) } : Word)] : List Word), s114, r24) (FLe.trans hF116 hF119) ⟨rfl, rfl, rfl, rfl, trivial⟩ rfl h58
            exact trivial
          exact trivial
        exact trivial
      exact trivial
    refine HdStep.cons (by decide) rfl (fun inv => ?_) ?_
    · refine Lst.addNil 135 3 ?_
      refine Lst.addNil 209 3 ?_
      refine Lst.alloc (cs := enc (OverR.mk ({ Over.zero with Hands := ([] : List Hand), Way := ([] : List Word) } : Over) Sl.nil Sl.nil)) rfl rfl (by decide) Try.zeroValue124 rfl (fun b121 => ?_)
      refine Lst.nil ?_
      refine At.hd inv (fun w h => (h.weaken (FLe.refl _)).sublist (List.Sublist.cons _ (List.Sublist.cons _ (List.Sublist.cons _ (List.Sublist.cons_cons _ (List.Sublist.cons_cons _ (List.Sublist.cons_cons _ (List.Sublist.cons_cons _ (List.Sublist.refl _))))))))) ?_
      refine HdJ.step [2, 9] (by kernel_rfl) rfl ?_
      refine HdStep.cons (by decide) rfl (fun inv => ?_) ?_
      · refine Lst.call rfl rfl (by decide) (vs := [Sl.v s_a0_0]) ⟨rfl, trivial⟩ Try.call171 (slices_Clone_api_Hand_api_Hand_sim h25 w0 _ M _ (List.Sublist.cons _ (List.Sublist.cons _ (List.Sublist.cons _ (List.Sublist.cons _ (List.Sublist.cons _ (List.Sublist.cons _ (List.Sublist.cons _ hM))))))) (hs_a0_0.mono hF20 (List.Sublist.refl _))) (fun F123 L' v hF124 hv => ?_)
        obtain ⟨s122, rfl, rfl⟩ := hv
        refine Lst.nil ?_
        refine At.hd inv (fun w h => (h.weaken hF124).sublist (List.Sublist.cons _ (List.Sublist.cons _ (List.Sublist.cons _ (List.Sublist.cons _ (List.Sublist.cons_cons _ (List.Sublist.cons_cons _ (List.Sublist.cons_cons _ (List.Sublist.cons_cons _ (List.Sublist.refl _)))))))))) ?_
        refine HdJ.step [5, 9] (by kernel_rfl) rfl ?_
        refine HdStep.cons (by decide) rfl (fun inv => ?_) ?_
        · refine Lst.call rfl rfl (by decide) (vs := [Sl.v s_a0_1]) ⟨rfl, trivial⟩ Try.call173 (slices_Clone_api_Word_api_Word_sim h31 w0 _ M _ (List.Sublist.cons _ (List.Sublist.cons _ (List.Sublist.cons _ (List.Sublist.cons _ (List.Sublist.cons _ (List.Sublist.cons _ (List.Sublist.cons _ (List.Sublist.cons _ hM)))))))) (hs_a0_1.mono (FLe.trans hF20 hF124) (List.Sublist.refl _))) (fun F126 L' v hF127 hv => ?_)
          obtain ⟨s125, rfl, rfl⟩ := hv
          refine Lst.nil ?_
          refine At.hd inv (fun w h => (h.weaken (FLe.trans hF124 hF127)).sublist (List.Sublist.cons _ (List.Sublist.cons _ (List.Sublist.cons _ (List.Sublist.cons _ (List.Sublist.cons _ (List.Sublist.cons_cons _ (List.Sublist.cons_cons _ (List.Sublist.cons_cons _ (List.Sublist.cons_cons _ (List.Sublist.refl _))))))))))) ?_
          refine HdJ.step [9] (by kernel_rfl) rfl ?_
          refine HdStep.cons (by decide) rfl (fun inv => ?_) ?_
          · refine Lst.buildSlice (α := Word) (xs := ([({ Word.zero with From := a1, To := a2, At := (1 : Int) } : Word)] : List Word)) (pv := [(0, .agg (enc ({ Word.zero with From := a1, To := a2, At := (1 : Int) } : Word)).toArray)]) rfl rfl (by decide) ⟨rfl, rfl, trivial⟩ (run_buildSlice (α := Word) (z0 := Word.zero) (xs := ([({ Word.zero with From := a1, To := a2, At := (1 : Int) } : Word)] : List Word)) Try.runUnderlying112 Try.sizeOf209 Try.zeroValue209 rfl rfl rfl (by decide) rfl (fill_cons (cs := encs (List.replicate 1 Word.zero)) (cs' := encs ((List.replicate 1 Word.zero).set 0 ({ Word.zero with From := a1, To := a2, At := (1 : Int) } : Word))) (vs := enc ({ Word.zero with From := a1, To := a2, At := (1 : Int) } : Word)) rfl rfl (Enc.len _) ((Put.elemN (s := 3) (i := 0) (x := Word.zero) (y := ({ Word.zero with From := a1, To := a2, At := (1 : Int) } : Word)) rfl rfl (Put.here ((Enc.len _).trans (Enc.len _).symm))).off rfl) fill_nil)) rfl rfl (by decide) (fun s128 _ => ?_)
            refine Lst.nil ?_
            refine At.hd inv (fun w h => (h.weaken (FLe.trans hF124 hF127)).sublist (List.Sublist.cons _ (List.Sublist.cons _ (List.Sublist.cons _ (List.Sublist.cons _ (List.Sublist.cons _ (List.Sublist.cons _ (List.Sublist.cons_cons _ (List.Sublist.cons_cons _ (List.Sublist.cons_cons _ (List.Sublist.cons_cons _ (List.Sublist.refl _)))))))))))) ?_
            refine HdJ.step [10] (by kernel_rfl) rfl ?_
            refine HdStep.cons (by decide) rfl (fun inv => ?_) ?_
            · refine Lst.append (i := 1) (α := Word) (xs := r30) (ys := ([({ Word.zero with From := a1, To := a2, At := (1 : Int) } : Word)] : List Word)) rfl rfl (by decide) rfl rfl Try.runUnderlying112 Try.typeInfo209 rfl rfl rfl rfl rfl rfl (Rd.own (i := 0) rfl rfl rfl) rfl (room_some h39) rfl (fun s129 => ?_)
              refine Lst.its (L' := (.own s128 209 3 (encs ([({ Word.zero with From := a1, To := a2, At := (1 : Int) } : Word)] : List Word))) :: (.own s129 209 3 (encs (r30 ++ ([({ Word.zero with From := a1, To := a2, At := (1 : Int) } : Word)] : List Word)))) :: (.own s122 135 3 (encs r24)) :: (.blk b121 (enc (OverR.mk ({ Over.zero with Hands := ([] : List Hand), Way := ([] : List Word) } : Over) Sl.nil Sl.nil)) 124) :: (.own Sl.nil 209 3 (encs ([] : List Word))) :: (.own Sl.nil 135 3 (encs ([] : List Hand))) :: (.blk b5 (enc (OverR.mk ({ Over.zero with Hands := ([] : List Hand), Way := ([] : List Word) } : Over) Sl.nil Sl.nil)) 124) :: (.own Sl.nil 209 3 (encs ([] : List Word))) :: (.own Sl.nil 135 3 (encs ([] : List Hand))) :: (.blk b1 (enc (OverR.mk a0 s_a0_0 s_a0_1)) 124) :: L) rfl ?_
              refine Lst.nil ?_
              refine At.hd inv (fun w h => (h.weaken (FLe.trans hF124 hF127)).sublist (List.Sublist.cons _ (List.Sublist.cons _ (List.Sublist.cons _ (List.Sublist.cons _ (List.Sublist.cons _ (List.Sublist.cons _ (List.Sublist.cons_cons _ (List.Sublist.cons_cons _ (List.Sublist.cons_cons _ (List.Sublist.cons_cons _ (List.Sublist.refl _)))))))))))) ?_
              refine HdJ.keep (fun w => St w0 F126 ((.own s128 209 3 (encs ([({ Word.zero with From := a1, To := a2, At := (1 : Int) } : Word)] : List Word))) :: (.own s129 209 3 (encs (r30 ++ ([({ Word.zero with From := a1, To := a2, At := (1 : Int) } : Word)] : List Word)))) :: (.own s122 135 3 (encs r24)) :: (.blk b121 (enc (OverR.mk ({ Over.zero with Hands := ([] : List Hand), Way := ([] : List Word) } : Over) Sl.nil Sl.nil)) 124) :: (.own Sl.nil 209 3 (encs ([] : List Word))) :: (.own Sl.nil 135 3 (encs ([] : List Hand))) :: (.blk b5 (enc (OverR.mk ({ Over.zero with Hands := ([] : List Hand), Way := ([] : List Word) } : Over) Sl.nil Sl.nil)) 124) :: (.own Sl.nil 209 3 (encs ([] : List Word))) :: (.own Sl.nil 135 3 (encs ([] : List Hand))) :: (.blk b1 (enc (OverR.mk a0 s_a0_0 s_a0_1)) 124) :: L) w) (fun w h => (h.weaken (FLe.trans hF124 hF127)).sublist (List.Sublist.cons _ (List.Sublist.cons _ (List.Sublist.cons _ (List.Sublist.cons _ (List.Sublist.cons _ (List.Sublist.cons _ (List.Sublist.cons_cons _ (List.Sublist.cons_cons _ (List.Sublist.cons_cons _ (List.Sublist.cons_cons _ (List.Sublist.refl _)))))))))))) ?_
              refine HdJ.takeK hsel hlt 11 (fun w h => h.sublist (List.Sublist.cons_cons _ (List.Sublist.cons_cons _ (List.Sublist.cons_cons _ (List.Sublist.cons_cons _ (List.Sublist.cons_cons _ (List.Sublist.cons_cons _ (List.Sublist.cons_cons _ (List.Sublist.cons_cons _ (List.Sublist.cons_cons _ (List.Sublist.cons_cons _ (List.Sublist.refl _)))))))))))) rfl rfl (by decide) (by decide) (by kernel_rfl) (by kernel_rfl) rfl (Ev.build (v := .agg (enc (OverR.mk ({ Over.zero with Hands := r24, Way := r30 ++ ([({ Word.zero with From := a1, To := a2, At := (1 : Int) } : Word)] : List Word) } : Over) s122 s129)).toArray) (pv := [(0, Sl.v s122), (1, Sl.v s129)]) ⟨rfl, rfl, ⟨rfl, rfl, trivial⟩⟩ (run_buildStruct (places := #[(0, 1), (1, 1)]) Try.zeroValue124 (zs := enc (OverR.mk Over.zero Sl.nil Sl.nil)) rfl Try.runUnderlying124 (fun w => by kernel_rfl) (fill_cons (cs := enc (OverR.mk Over.zero Sl.nil Sl.nil)) (cs' := enc (OverR.mk ({ Over.zero with Hands := r24 } : Over) s122 Sl.nil)) (vs := [Sl.v s122]) rfl rfl rfl ((OverR.put_Hands (p := (OverR.mk Over.zero Sl.nil Sl.nil)) (y := s122) (Put.here (vs := [Sl.v s122]) rfl)).off rfl) (fill_cons (cs := enc (OverR.mk ({ Over.zero with Hands := r24 } : Over) s122 Sl.nil)) (cs' := enc (OverR.mk ({ Over.zero with Hands := r24, Way := r30 ++ ([({ Word.zero with From := a1, To := a2, At := (1 : Int) } : Word)] : List Word) } : Over) s122 s129)) (vs := [Sl.v s129]) rfl rfl rfl ((OverR.put_Way (p := (OverR.mk ({ Over.zero with Hands := r24 } : Over) s122 Sl.nil)) (y := s129) (Put.here (vs := [Sl.v s129]) rfl)).off rfl) fill_nil)))) ?_
              refine HdJ.done (by kernel_rfl) ?_
              refine At.front (i := 9) rfl rfl ?_
              refine At.front (i := 9) rfl rfl ?_
              refine At.front (i := 9) rfl rfl ?_
              refine At.front (i := 9) rfl rfl ?_
              refine At.front (i := 6) rfl rfl ?_
              refine At.front (i := 6) rfl rfl ?_
              refine At.front (i := 6) rfl rfl ?_
              refine At.front (i := 9) rfl rfl ?_
              refine At.front (i := 9) rfl rfl ?_
              refine At.front (i := 9) rfl rfl ?_
              exact At.meetN (b121, Sl.nil, ([] : List Word), Sl.nil, ([] : List Hand), s128, ([({ Word.zero with From := a1, To := a2, At := (1 : Int) } : Word)] : List Word), s129, r30 ++ ([({ Word.zero with From := a1, To := a2, At := (1 : Int) } : Word)] : List Word), s122, r24) (FLe.trans hF124 hF127) ⟨rfl, rfl, rfl, rfl, trivial⟩ rfl h58
            exact trivial
          exact trivial
        refine HdStep.cons (by decide) rfl (fun inv => ?_) ?_
        · refine Lst.buildSlice (α := Word) (xs := ([({ Word.zero with From := a1, To := a2, At := (1 : Int) } : Word)] : List Word)) (pv := [(0, .agg (enc ({ Word.zero with From := a1, To := a2, At := (1 : Int) } : Word)).toArray)]) rfl rfl (by decide) ⟨rfl, rfl, trivial⟩ (run_buildSlice (α := Word) (z0 := Word.zero) (xs := ([({ Word.zero with From := a1, To := a2, At := (1 : Int) } : Word)] : List Word)) Try.runUnderlying112 Try.sizeOf209 Try.zeroValue209 rfl rfl rfl (by decide) rfl (fill_cons (cs := encs (List.replicate 1 Word.zero)) (cs' := encs ((List.replicate 1 Word.zero).set 0 ({ Word.zero with From := a1, To := a2, At := (1 : Int) } : Word))) (vs := enc ({ Word.zero with From := a1, To := a2, At := (1 : Int) } : Word)) rfl rfl (Enc.len _) ((Put.elemN (s := 3) (i := 0) (x := Word.zero) (y := ({ Word.zero with From := a1, To := a2, At := (1 : Int) } : Word)) rfl rfl (Put.here ((Enc.len _).trans (Enc.len _).symm))).off rfl) fill_nil)) rfl rfl (by decide) (fun s130 _ => ?_)
          refine Lst.nil ?_
          refine At.hd inv (fun w h => (h.weaken hF124).sublist (List.Sublist.cons _ (List.Sublist.cons _ (List.Sublist.cons _ (List.Sublist.cons _ (List.Sublist.cons _ (List.Sublist.cons_cons _ (List.Sublist.cons_cons _ (List.Sublist.cons_cons _ (List.Sublist.cons_cons _ (List.Sublist.refl _))))))))))) ?_
          refine HdJ.step [5] (by kernel_rfl) rfl ?_
          refine HdStep.cons (by decide) rfl (fun inv => ?_) ?_
          · refine Lst.call rfl rfl (by decide) (vs := [Sl.v s_a0_1]) ⟨rfl, trivial⟩ Try.call173 (slices_Clone_api_Word_api_Word_sim h31 w0 _ M _ (List.Sublist.cons _ (List.Sublist.cons _ (List.Sublist.cons _ (List.Sublist.cons _ (List.Sublist.cons _ (List.Sublist.cons _ (List.Sublist.cons _ (List.Sublist.cons _ (List.Sublist.cons _ hM))))))))) (hs_a0_1.mono (FLe.trans hF20 hF124) (List.Sublist.refl _))) (fun F132 L' v hF133 hv => ?_)
            obtain ⟨s131, rfl, rfl⟩ := hv
            refine Lst.nil ?_
            refine At.hd inv (fun w h => (h.weaken (FLe.trans hF124 hF133)).sublist (List.Sublist.cons _ (List.Sublist.cons _ (List.Sublist.cons _ (List.Sublist.cons _ (List.Sublist.cons _ (List.Sublist.cons _ (List.Sublist.cons_cons _ (List.Sublist.cons_cons _ (List.Sublist.cons_cons _ (List.Sublist.cons_cons _ (List.Sublist.refl _)))))))))))) ?_
            refine HdJ.step [10] (by kernel_rfl) rfl ?_
            refine HdStep.cons (by decide) rfl (fun inv => ?_) ?_
            · refine Lst.append (i := 0) (α := Word) (xs := r30) (ys := ([({ Word.zero with From := a1, To := a2, At := (1 : Int) } : Word)] : List Word)) rfl rfl (by decide) rfl rfl Try.runUnderlying112 Try.typeInfo209 rfl rfl rfl rfl rfl rfl (Rd.own (i := 1) rfl rfl rfl) rfl (room_some h39) rfl (fun s134 => ?_)
              refine Lst.its (L' := (.own s134 209 3 (encs (r30 ++ ([({ Word.zero with From := a1, To := a2, At := (1 : Int) } : Word)] : List Word)))) :: (.own s130 209 3 (encs ([({ Word.zero with From := a1, To := a2, At := (1 : Int) } : Word)] : List Word))) :: (.own s122 135 3 (encs r24)) :: (.blk b121 (enc (OverR.mk ({ Over.zero with Hands := ([] : List Hand), Way := ([] : List Word) } : Over) Sl.nil Sl.nil)) 124) :: (.own Sl.nil 209 3 (encs ([] : List Word))) :: (.own Sl.nil 135 3 (encs ([] : List Hand))) :: (.blk b5 (enc (OverR.mk ({ Over.zero with Hands := ([] : List Hand), Way := ([] : List Word) } : Over) Sl.nil Sl.nil)) 124) :: (.own Sl.nil 209 3 (encs ([] : List Word))) :: (.own Sl.nil 135 3 (encs ([] : List Hand))) :: (.blk b1 (enc (OverR.mk a0 s_a0_0 s_a0_1)) 124) :: L) rfl ?_
              refine Lst.nil ?_
              refine At.hd inv (fun w h => (h.weaken (FLe.trans hF124 hF133)).sublist (List.Sublist.cons _ (List.Sublist.cons _ (List.Sublist.cons _ (List.Sublist.cons _ (List.Sublist.cons _ (List.Sublist.cons _ (List.Sublist.cons_cons _ (List.Sublist.cons_cons _ (List.Sublist.cons_cons _ (List.Sublist.cons_cons _ (List.Sublist.refl _)))))))))))) ?_
              refine HdJ.keep (fun w => St w0 F132 ((.own s134 209 3 (encs (r30 ++ ([({ Word.zero with From := a1, To := a2, At := (1 : Int) } : Word)] : List Word)))) :: (.own s130 209 3 (encs ([({ Word.zero with From := a1, To := a2, At := (1 : Int) } : Word)] : List Word))) :: (.own s122 135 3 (encs r24)) :: (.blk b121 (enc (OverR.mk ({ Over.zero with Hands := ([] : List Hand), Way := ([] : List Word) } : Over) Sl.nil Sl.nil)) 124) :: (.own Sl.nil 209 3 (encs ([] : List Word))) :: (.own Sl.nil 135 3 (encs ([] : List Hand))) :: (.blk b5 (enc (OverR.mk ({ Over.zero with Hands := ([] : List Hand), Way := ([] : List Word) } : Over) Sl.nil Sl.nil)) 124) :: (.own Sl.nil 209 3 (encs ([] : List Word))) :: (.own Sl.nil 135 3 (encs ([] : List Hand))) :: (.blk b1 (enc (OverR.mk a0 s_a0_0 s_a0_1)) 124) :: L) w) (fun w h => (h.weaken (FLe.trans hF124 hF133)).sublist (List.Sublist.cons _ (List.Sublist.cons _ (List.Sublist.cons _ (List.Sublist.cons _ (List.Sublist.cons _ (List.Sublist.cons _ (List.Sublist.cons_cons _ (List.Sublist.cons_cons _ (List.Sublist.cons_cons _ (List.Sublist.cons_cons _ (List.Sublist.refl _)))))))))))) ?_
              refine HdJ.takeK hsel hlt 11 (fun w h => h.sublist (List.Sublist.cons_cons _ (List.Sublist.cons_cons _ (List.Sublist.cons_cons _ (List.Sublist.cons_cons _ (List.Sublist.cons_cons _ (List.Sublist.cons_cons _ (List.Sublist.cons_cons _ (List.Sublist.cons_cons _ (List.Sublist.cons_cons _ (List.Sublist.cons_cons _ (List.Sublist.refl _)))))))))))) rfl rfl (by decide) (by decide) (by kernel_rfl) (by kernel_rfl) rfl (Ev.build (v := .agg (enc (OverR.mk ({ Over.zero with Hands := r24, Way := r30 ++ ([({ Word.zero with From := a1, To := a2, At := (1 : Int) } : Word)] : List Word) } : Over) s122 s134)).toArray) (pv := [(0, Sl.v s122), (1, Sl.v s134)]) ⟨rfl, rfl, ⟨rfl, rfl, trivial⟩⟩ (run_buildStruct (places := #[(0, 1), (1, 1)]) Try.zeroValue124 (zs := enc (OverR.mk Over.zero Sl.nil Sl.nil)) rfl Try.runUnderlying124 (fun w => by kernel_rfl) (fill_cons (cs := enc (OverR.mk Over.zero Sl.nil Sl.nil)) (cs' := enc (OverR.mk ({ Over.zero with Hands := r24 } : Over) s122 Sl.nil)) (vs := [Sl.v s122]) rfl rfl rfl ((OverR.put_Hands (p := (OverR.mk Over.zero Sl.nil Sl.nil)) (y := s122) (Put.here (vs := [Sl.v s122]) rfl)).off rfl) (fill_cons (cs := enc (OverR.mk ({ Over.zero with Hands := r24 } : Over) s122 Sl.nil)) (cs' := enc (OverR.mk ({ Over.zero with Hands := r24, Way := r30 ++ ([({ Word.zero with From := a1, To := a2, At := (1 : Int) } : Word)] : List Word) } : Over) s122 s134)) (vs := [Sl.v s134]) rfl rfl rfl ((OverR.put_Way (p := (OverR.mk ({ Over.zero with Hands := r24 } : Over) s122 Sl.nil)) (y := s134) (Put.here (vs := [Sl.v s134]) rfl)).off rfl) fill_nil)))) ?_
              refine HdJ.done (by kernel_rfl) ?_
              refine At.front (i := 9) rfl rfl ?_
              refine At.front (i := 9) rfl rfl ?_
              refine At.front (i := 9) rfl rfl ?_
              refine At.front (i := 9) rfl rfl ?_
              refine At.front (i := 6) rfl rfl ?_
              refine At.front (i := 5) rfl rfl ?_
              refine At.front (i := 6) rfl rfl ?_
              refine At.front (i := 9) rfl rfl ?_
              refine At.front (i := 9) rfl rfl ?_
              refine At.front (i := 9) rfl rfl ?_
              exact At.meetN (b121, Sl.nil, ([] : List Word), Sl.nil, ([] : List Hand), s130, ([({ Word.zero with From := a1, To := a2, At := (1 : Int) } : Word)] : List Word), s134, r30 ++ ([({ Word.zero with From := a1, To := a2, At := (1 : Int) } : Word)] : List Word), s122, r24) (FLe.trans hF124 hF133) ⟨rfl, rfl, rfl, rfl, trivial⟩ rfl h58
            exact trivial
          exact trivial
        exact trivial
      refine HdStep.cons (by decide) rfl (fun inv => ?_) ?_
      · refine Lst.buildSlice (α := Word) (xs := ([({ Word.zero with From := a1, To := a2, At := (1 : Int) } : Word)] : List Word)) (pv := [(0, .agg (enc ({ Word.zero with From := a1, To := a2, At := (1 : Int) } : Word)).toArray)]) rfl rfl (by decide) ⟨rfl, rfl, trivial⟩ (run_buildSlice (α := Word) (z0 := Word.zero) (xs := ([({ Word.zero with From := a1, To := a2, At := (1 : Int) } : Word)] : List Word)) Try.runUnderlying112 Try.sizeOf209 Try.zeroValue209 rfl rfl rfl (by decide) rfl (fill_cons (cs := encs (List.replicate 1 Word.zero)) (cs' := encs ((List.replicate 1 Word.zero).set 0 ({ Word.zero with From := a1, To := a2, At := (1 : Int) } : Word))) (vs := enc ({ Word.zero with From := a1, To := a2, At := (1 : Int) } : Word)) rfl rfl (Enc.len _) ((Put.elemN (s := 3) (i := 0) (x := Word.zero) (y := ({ Word.zero with From := a1, To := a2, At := (1 : Int) } : Word)) rfl rfl (Put.here ((Enc.len _).trans (Enc.len _).symm))).off rfl) fill_nil)) rfl rfl (by decide) (fun s135 _ => ?_)
        refine Lst.nil ?_
        refine At.hd inv (fun w h => (h.weaken (FLe.refl _)).sublist (List.Sublist.cons _ (List.Sublist.cons _ (List.Sublist.cons _ (List.Sublist.cons _ (List.Sublist.cons_cons _ (List.Sublist.cons_cons _ (List.Sublist.cons_cons _ (List.Sublist.cons_cons _ (List.Sublist.refl _)))))))))) ?_
        refine HdJ.step [2] (by kernel_rfl) rfl ?_
        refine HdStep.cons (by decide) rfl (fun inv => ?_) ?_
        · refine Lst.call rfl rfl (by decide) (vs := [Sl.v s_a0_0]) ⟨rfl, trivial⟩ Try.call171 (slices_Clone_api_Hand_api_Hand_sim h25 w0 _ M _ (List.Sublist.cons _ (List.Sublist.cons _ (List.Sublist.cons _ (List.Sublist.cons _ (List.Sublist.cons _ (List.Sublist.cons _ (List.Sublist.cons _ (List.Sublist.cons _ hM)))))))) (hs_a0_0.mono hF20 (List.Sublist.refl _))) (fun F137 L' v hF138 hv => ?_)
          obtain ⟨s136, rfl, rfl⟩ := hv
          refine Lst.nil ?_
          refine At.hd inv (fun w h => (h.weaken hF138).sublist (List.Sublist.cons _ (List.Sublist.cons _ (List.Sublist.cons _ (List.Sublist.cons _ (List.Sublist.cons _ (List.Sublist.cons_cons _ (List.Sublist.cons_cons _ (List.Sublist.cons_cons _ (List.Sublist.cons_cons _ (List.Sublist.refl _))))))))))) ?_
          refine HdJ.step [5] (by kernel_rfl) rfl ?_
          refine HdStep.cons (by decide) rfl (fun inv => ?_) ?_
          · refine Lst.call rfl rfl (by decide) (vs := [Sl.v s_a0_1]) ⟨rfl, trivial⟩ Try.call173 (slices_Clone_api_Word_api_Word_sim h31 w0 _ M _ (List.Sublist.cons _ (List.Sublist.cons _ (List.Sublist.cons _ (List.Sublist.cons _ (List.Sublist.cons _ (List.Sublist.cons _ (List.Sublist.cons _ (List.Sublist.cons _ (List.Sublist.cons _ hM))))))))) (hs_a0_1.mono (FLe.trans hF20 hF138) (List.Sublist.refl _))) (fun F140 L' v hF141 hv => ?_)
            obtain ⟨s139, rfl, rfl⟩ := hv
            refine Lst.nil ?_
            refine At.hd inv (fun w h => (h.weaken (FLe.trans hF138 hF141)).sublist (List.Sublist.cons _ (List.Sublist.cons _ (List.Sublist.cons _ (List.Sublist.cons _ (List.Sublist.cons _ (List.Sublist.cons _ (List.Sublist.cons_cons _ (List.Sublist.cons_cons _ (List.Sublist.cons_cons _ (List.Sublist.cons_cons _ (List.Sublist.refl _)))))))))))) ?_
            refine HdJ.step [10] (by kernel_rfl) rfl ?_
            refine HdStep.cons (by decide) rfl (fun inv => ?_) ?_
            · refine Lst.append (i := 0) (α := Word) (xs := r30) (ys := ([({ Word.zero with From := a1, To := a2, At := (1 : Int) } : Word)] : List Word)) rfl rfl (by decide) rfl rfl Try.runUnderlying112 Try.typeInfo209 rfl rfl rfl rfl rfl rfl (Rd.own (i := 2) rfl rfl rfl) rfl (room_some h39) rfl (fun s142 => ?_)
              refine Lst.its (L' := (.own s142 209 3 (encs (r30 ++ ([({ Word.zero with From := a1, To := a2, At := (1 : Int) } : Word)] : List Word)))) :: (.own s136 135 3 (encs r24)) :: (.own s135 209 3 (encs ([({ Word.zero with From := a1, To := a2, At := (1 : Int) } : Word)] : List Word))) :: (.blk b121 (enc (OverR.mk ({ Over.zero with Hands := ([] : List Hand), Way := ([] : List Word) } : Over) Sl.nil Sl.nil)) 124) :: (.own Sl.nil 209 3 (encs ([] : List Word))) :: (.own Sl.nil 135 3 (encs ([] : List Hand))) :: (.blk b5 (enc (OverR.mk ({ Over.zero with Hands := ([] : List Hand), Way := ([] : List Word) } : Over) Sl.nil Sl.nil)) 124) :: (.own Sl.nil 209 3 (encs ([] : List Word))) :: (.own Sl.nil 135 3 (encs ([] : List Hand))) :: (.blk b1 (enc (OverR.mk a0 s_a0_0 s_a0_1)) 124) :: L) rfl ?_
              refine Lst.nil ?_
              refine At.hd inv (fun w h => (h.weaken (FLe.trans hF138 hF141)).sublist (List.Sublist.cons _ (List.Sublist.cons _ (List.Sublist.cons _ (List.Sublist.cons _ (List.Sublist.cons _ (List.Sublist.cons _ (List.Sublist.cons_cons _ (List.Sublist.cons_cons _ (List.Sublist.cons_cons _ (List.Sublist.cons_cons _ (List.Sublist.refl _)))))))))))) ?_
              refine HdJ.keep (fun w => St w0 F140 ((.own s142 209 3 (encs (r30 ++ ([({ Word.zero with From := a1, To := a2, At := (1 : Int) } : Word)] : List Word)))) :: (.own s136 135 3 (encs r24)) :: (.own s135 209 3 (encs ([({ Word.zero with From := a1, To := a2, At := (1 : Int) } : Word)] : List Word))) :: (.blk b121 (enc (OverR.mk ({ Over.zero with Hands := ([] : List Hand), Way := ([] : List Word) } : Over) Sl.nil Sl.nil)) 124) :: (.own Sl.nil 209 3 (encs ([] : List Word))) :: (.own Sl.nil 135 3 (encs ([] : List Hand))) :: (.blk b5 (enc (OverR.mk ({ Over.zero with Hands := ([] : List Hand), Way := ([] : List Word) } : Over) Sl.nil Sl.nil)) 124) :: (.own Sl.nil 209 3 (encs ([] : List Word))) :: (.own Sl.nil 135 3 (encs ([] : List Hand))) :: (.blk b1 (enc (OverR.mk a0 s_a0_0 s_a0_1)) 124) :: L) w) (fun w h => (h.weaken (FLe.trans hF138 hF141)).sublist (List.Sublist.cons _ (List.Sublist.cons _ (List.Sublist.cons _ (List.Sublist.cons _ (List.Sublist.cons _ (List.Sublist.cons _ (List.Sublist.cons_cons _ (List.Sublist.cons_cons _ (List.Sublist.cons_cons _ (List.Sublist.cons_cons _ (List.Sublist.refl _)))))))))))) ?_
              refine HdJ.takeK hsel hlt 11 (fun w h => h.sublist (List.Sublist.cons_cons _ (List.Sublist.cons_cons _ (List.Sublist.cons_cons _ (List.Sublist.cons_cons _ (List.Sublist.cons_cons _ (List.Sublist.cons_cons _ (List.Sublist.cons_cons _ (List.Sublist.cons_cons _ (List.Sublist.cons_cons _ (List.Sublist.cons_cons _ (List.Sublist.refl _)))))))))))) rfl rfl (by decide) (by decide) (by kernel_rfl) (by kernel_rfl) rfl (Ev.build (v := .agg (enc (OverR.mk ({ Over.zero with Hands := r24, Way := r30 ++ ([({ Word.zero with From := a1, To := a2, At := (1 : Int) } : Word)] : List Word) } : Over) s136 s142)).toArray) (pv := [(0, Sl.v s136), (1, Sl.v s142)]) ⟨rfl, rfl, ⟨rfl, rfl, trivial⟩⟩ (run_buildStruct (places := #[(0, 1), (1, 1)]) Try.zeroValue124 (zs := enc (OverR.mk Over.zero Sl.nil Sl.nil)) rfl Try.runUnderlying124 (fun w => by kernel_rfl) (fill_cons (cs := enc (OverR.mk Over.zero Sl.nil Sl.nil)) (cs' := enc (OverR.mk ({ Over.zero with Hands := r24 } : Over) s136 Sl.nil)) (vs := [Sl.v s136]) rfl rfl rfl ((OverR.put_Hands (p := (OverR.mk Over.zero Sl.nil Sl.nil)) (y := s136) (Put.here (vs := [Sl.v s136]) rfl)).off rfl) (fill_cons (cs := enc (OverR.mk ({ Over.zero with Hands := r24 } : Over) s136 Sl.nil)) (cs' := enc (OverR.mk ({ Over.zero with Hands := r24, Way := r30 ++ ([({ Word.zero with From := a1, To := a2, At := (1 : Int) } : Word)] : List Word) } : Over) s136 s142)) (vs := [Sl.v s142]) rfl rfl rfl ((OverR.put_Way (p := (OverR.mk ({ Over.zero with Hands := r24 } : Over) s136 Sl.nil)) (y := s142) (Put.here (vs := [Sl.v s142]) rfl)).off rfl) fill_nil)))) ?_
              refine HdJ.done (by kernel_rfl) ?_
              refine At.front (i := 9) rfl rfl ?_
              refine At.front (i := 9) rfl rfl ?_
              refine At.front (i := 9) rfl rfl ?_
              refine At.front (i := 9) rfl rfl ?_
              refine At.front (i := 5) rfl rfl ?_
              refine At.front (i := 5) rfl rfl ?_
              refine At.front (i := 6) rfl rfl ?_
              refine At.front (i := 9) rfl rfl ?_
              refine At.front (i := 9) rfl rfl ?_
              refine At.front (i := 9) rfl rfl ?_
              exact At.meetN (b121, Sl.nil, ([] : List Word), Sl.nil, ([] : List Hand), s135, ([({ Word.zero with From := a1, To := a2, At := (1 : Int) } : Word)] : List Word), s142, r30 ++ ([({ Word.zero with From := a1, To := a2, At := (1 : Int) } : Word)] : List Word), s136, r24) (FLe.trans hF138 hF141) ⟨rfl, rfl, rfl, rfl, trivial⟩ rfl h58
            exact trivial
          exact trivial
        exact trivial
      exact trivial
    exact trivial
  rintro F143 ⟨b46, s47, l48, s49, l50, s51, l52, s53, l54, s55, l56⟩ hF144 hy
  subst hy
  refine Lst.as (e' := [(1, .int .i64 a1), (6, .pointer (some ⟨b5, 0, none⟩)), (8, .pointer (some ⟨b46, 0, none⟩)), (42, .agg (enc (OverR.mk ({ Over.zero with Hands := l56, Way := l54 } : Over) s55 s53)).toArray)]) (L' := (.blk b46 (enc (OverR.mk ({ Over.zero with Hands := l50, Way := l48 } : Over) s49 s47)) 124) :: (.own s47 209 3 (encs l48)) :: (.own s49 135 3 (encs l50)) :: (.own s51 209 3 (encs l52)) :: (.own s53 209 3 (encs l54)) :: (.own s55 135 3 (encs l56)) :: (.blk b5 (enc (OverR.mk ({ Over.zero with Hands := ([] : List Hand), Way := ([] : List Word) } : Over) Sl.nil Sl.nil)) 124) :: (.own Sl.nil 209 3 (encs ([] : List Word))) :: (.own Sl.nil 135 3 (encs ([] : List Hand))) :: (.blk b1 (enc (OverR.mk a0 s_a0_0 s_a0_1)) 124) :: L) ⟨rfl, rfl, rfl, rfl, trivial⟩ rfl ?_
  refine Lst.store (i := 0) rfl rfl rfl rfl rfl Try.sizeOf124 (vs := enc (OverR.mk ({ Over.zero with Hands := l56, Way := l54 } : Over) s55 s53)) rfl (Enc.len _) (Enc.one _) (cs' := enc (OverR.mk ({ Over.zero with Hands := l56, Way := l54 } : Over) s55 s53)) (Put.here ((Enc.len _).trans (Enc.len _).symm)) (L' := (.blk b46 (enc (OverR.mk ({ Over.zero with Hands := l56, Way := l54 } : Over) s55 s53)) 124) :: (.own s47 209 3 (encs l48)) :: (.own s49 135 3 (encs l50)) :: (.own s51 209 3 (encs l52)) :: (.own s53 209 3 (encs l54)) :: (.own s55 135 3 (encs l56)) :: (.blk b5 (enc (OverR.mk ({ Over.zero with Hands := ([] : List Hand), Way := ([] : List Word) } : Over) Sl.nil Sl.nil)) 124) :: (.own Sl.nil 209 3 (encs ([] : List Word))) :: (.own Sl.nil 135 3 (encs ([] : List Hand))) :: (.blk b1 (enc (OverR.mk a0 s_a0_0 s_a0_1)) 124) :: L) rfl ?_
  refine Lst.nil ?_
  refine At.then ?_
  refine Cd.seq ?_
  refine Cd.region ?_
  refine Lst.run rfl rfl (by decide) (Ev.fieldAddr (off' := 0) rfl Try.runUnderlying124 rfl Try.sizeOf122 rfl rfl) ?_
  refine Lst.run rfl rfl (by decide) (Ev.load (i := 0) rfl rfl Try.isAgg122 (v := Sl.v s55) ((OverR.get_Hands (Get.here _)).off (by rfl))) ?_
  refine Lst.run rfl rfl (by decide) (Ev.move rfl) ?_
  obtain ⟨x145, h146, H⟩ := bind_some H
  have g147 := lat_some h146
  refine Lst.run rfl rfl (by decide) (Ev.indexS (α := Hand) (xs := l56) rfl rfl Try.runUnderlying122 Try.sizeOf135 rfl (by decide) (Rd.own (i := 5) rfl rfl rfl) g147.1 g147.2.1) ?_
  refine Lst.run rfl rfl (by decide) (Ev.fieldS (α := Hand) (f' := a1.toNat * 3 + 2) rfl (Rd.own (i := 5) rfl rfl rfl) ((Get.elemN (s := 3) (x := x145) rfl g147.2.2 (Get.here _)).off (by omega)) rfl Try.runUnderlying135 rfl Try.sizeOf3 rfl rfl rfl) ?_
  refine Lst.run rfl rfl (by decide) (Ev.loadS (α := Hand) rfl (Rd.own (i := 5) rfl rfl rfl) Try.isAgg3 (v := .int .i64 x145.Owed) ((Get.elemN (s := 3) (x := x145) rfl g147.2.2 (Hand.get_Owed (Get.here _))).off (by omega))) ?_
  refine Lst.run rfl rfl (by decide) (Ev.add rfl rfl) ?_
  obtain ⟨x148, h149, H⟩ := bind_some H
  have g150 := lat_some h149
  refine Lst.run rfl rfl (by decide) (Ev.indexS (α := Hand) (xs := l56) rfl rfl Try.runUnderlying122 Try.sizeOf135 rfl (by decide) (Rd.own (i := 5) rfl rfl rfl) g150.1 g150.2.1) ?_
  refine Lst.run rfl rfl (by decide) (Ev.fieldS (α := Hand) (f' := a1.toNat * 3 + 2) rfl (Rd.own (i := 5) rfl rfl rfl) ((Get.elemN (s := 3) (x := x148) rfl g150.2.2 (Get.here _)).off (by omega)) rfl Try.runUnderlying135 rfl Try.sizeOf3 rfl rfl rfl) ?_
  obtain ⟨p151, h152, H⟩ := Let_some H
  refine Lst.storeS (i := 5) rfl rfl rfl rfl rfl Try.sizeOf3 (vs := [.int .i64 (w64 (x145.Owed + (1 : Int)))]) rfl rfl (by decide) rfl (xs' := encs p151) (by rw [← h152]; exact (Put.elemN (s := 3) (x := x148) rfl g150.2.2 (Hand.put_Owed (Put.here (vs := [.int .i64 (w64 (x145.Owed + (1 : Int)))]) rfl))).off (by omega)) (L' := (.blk b46 (enc (OverR.mk ({ Over.zero with Hands := p151, Way := l54 } : Over) s55 s53)) 124) :: (.own s47 209 3 (encs l48)) :: (.own s49 135 3 (encs l50)) :: (.own s51 209 3 (encs l52)) :: (.own s53 209 3 (encs l54)) :: (.own s55 135 3 (encs p151)) :: (.blk b5 (enc (OverR.mk ({ Over.zero with Hands := ([] : List Hand), Way := ([] : List Word) } : Over) Sl.nil Sl.nil)) 124) :: (.own Sl.nil 209 3 (encs ([] : List Word))) :: (.own Sl.nil 135 3 (encs ([] : List Hand))) :: (.blk b1 (enc (OverR.mk a0 s_a0_0 s_a0_1)) 124) :: L) rfl ?_
  refine Lst.nil ?_
  refine At.then ?_
  refine Cd.seq ?_
  refine Cd.region ?_
  refine Lst.run rfl rfl (by decide) (Ev.loadA (i := 0) rfl rfl Try.isAgg124 Try.sizeOf124 (ch := enc (OverR.mk ({ Over.zero with Hands := p151, Way := l54 } : Over) s55 s53)) (Enc.len _) (Get.here _)) ?_
  refine Lst.store (i := 6) rfl rfl rfl rfl rfl Try.sizeOf124 (vs := enc (OverR.mk ({ Over.zero with Hands := p151, Way := l54 } : Over) s55 s53)) rfl (Enc.len _) (Enc.one _) (cs' := enc (OverR.mk ({ Over.zero with Hands := p151, Way := l54 } : Over) s55 s53)) (Put.here ((Enc.len _).trans (Enc.len _).symm)) (L' := (.blk b46 (enc (OverR.mk ({ Over.zero with Hands := p151, Way := l54 } : Over) s55 s53)) 124) :: (.own s47 209 3 (encs l48)) :: (.own s49 135 3 (encs l50)) :: (.own s51 209 3 (encs l52)) :: (.own s53 209 3 (encs l54)) :: (.own s55 135 3 (encs p151)) :: (.blk b5 (enc (OverR.mk ({ Over.zero with Hands := p151, Way := l54 } : Over) s55 s53)) 124) :: (.own Sl.nil 209 3 (encs ([] : List Word))) :: (.own Sl.nil 135 3 (encs ([] : List Hand))) :: (.blk b1 (enc (OverR.mk a0 s_a0_0 s_a0_1)) 124) :: L) rfl ?_
  refine Lst.run rfl rfl (by decide) (Ev.assign rfl) ?_
  refine Lst.nil ?_
  refine At.then ?_
  obtain rfl := some_inj H
  refine Cd.ret ?_
  refine At.front (i := 4) rfl rfl ?_
  refine At.front (i := 5) rfl rfl ?_
  exact At.ret2 rfl (Res.cellA (i := 6) rfl rfl Try.isAgg124 Try.sizeOf124 (Enc.len _)) (Res.tmp rfl) (FLe.trans hF20 hF144) (List.Sublist.cons_cons _ (List.Sublist.cons_cons _ (List.Sublist.cons _ (List.Sublist.cons _ (List.Sublist.cons _ (List.Sublist.cons _ (List.Sublist.cons _ (List.Sublist.cons _ (List.Sublist.cons _ (List.Sublist.cons _ (List.Sublist.refl _))))))))))) ⟨s55, s53, rfl, rfl⟩
end Go.Proofs.Ytobikknjaomalaa
