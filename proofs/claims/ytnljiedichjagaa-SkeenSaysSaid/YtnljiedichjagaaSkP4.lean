/-
  The functions compute their specs; printed by a program.
-/
import Derived.Test.YtnljiedichjagaaSkP3
namespace Go.Proofs.Ytnljiedichjagaa
open Go.RowKit Enc
set_option linter.unusedVariables false
set_option linter.unusedSimpArgs false
set_option maxRecDepth 20000 in
theorem partref_Fix_sim {a0 : Skeen} {a1 : Int} {a2 : Num} {s_a0_2 : Sl} {r : Skeen × (List Int) × Int} (H : partref_Fix a0 a1 a2 = some r) (w0 : World) (F : Frz) (M L : List Item) (hM : M.Sublist L) (hs_a0_2 : Rd w0 F M s_a0_2 a0.Wait) : Ok Try.prog w0 43 [.agg (enc (SkeenR.mk a0 s_a0_2)).toArray, iv a1, .agg (enc a2).toArray] F (L) (fun Fx L' v => ∃ (s1 : Sl) (s3 : Sl), v = .tuple #[.agg (enc (SkeenR.mk r.1 s1)).toArray, Sl.v s3, iv r.2.2] ∧ L' = (.own s3 3 1 (encs r.2.1)) :: L ∧ Rd w0 Fx M s1 r.1.Wait) := by
 unfold partref_Fix at H
 refine Ok.enter (m := 3) (n := 115) Try.func43 rfl rfl rfl (by decide) ?_
 refine Cd.env (e' := [(0, .agg (enc (SkeenR.mk a0 s_a0_2)).toArray), (1, iv a1), (2, .agg (enc a2).toArray)]) rfl ?_
 refine Cd.seq ?_
 refine Cd.region ?_
 refine Lst.box rfl rfl (by decide) rfl (cs := enc (SkeenR.mk a0 s_a0_2)) rfl (fun b1 => ?_)
 refine Lst.box rfl rfl (by decide) rfl (cs := enc a1) rfl (fun b3 => ?_)
 refine Lst.box rfl rfl (by decide) rfl (cs := enc a2) rfl (fun b5 => ?_)
 refine Lst.addNil 77 4 ?_
 refine Lst.alloc (cs := enc (SkeenR.mk ({ Skeen.zero with Wait := ([] : List Wait) } : Skeen) Sl.nil)) rfl rfl (by decide) Try.zeroValue59 rfl (fun b8 => ?_)
 refine Lst.addNil 3 1 ?_
 refine Lst.r (Ev.assign rfl) ?_
 refine Lst.r (Ev.assign rfl) ?_
 refine Lst.nil ?_
 refine At.then ?_
 refine Cd.seq ?_
 refine Cd.region ?_
 refine Lst.r (Ev.fieldAddr (off' := 2) rfl Try.runUnderlying59 rfl Try.sizeOf57 rfl rfl) ?_
 refine Lst.r (Ev.load (i := 5) rfl rfl Try.isAgg57 (v := Sl.v s_a0_2) ((SkeenR.get_Wait (Get.here _)).off (by rfl))) ?_
 refine Lst.r (Ev.makeFunc (us := []) (vs := [pv b3 0]) trivial ⟨rfl, trivial⟩) ?_
 obtain ⟨r11, h12, H⟩ := bind_some H
 refine Lst.front (i := 4) rfl (L' := (.blk b3 (enc a1) 3) :: (.own Sl.nil 3 1 (encs ([] : List Int))) :: (.blk b8 (enc (SkeenR.mk ({ Skeen.zero with Wait := ([] : List Wait) } : Skeen) Sl.nil)) 59) :: (.own Sl.nil 77 4 (encs ([] : List Wait))) :: (.blk b5 (enc a2) 61) :: (.blk b1 (enc (SkeenR.mk a0 s_a0_2)) 59) :: L) rfl ?_
 refine Lst.call1 rfl rfl (by decide) (vs := [Sl.v s_a0_2, .func (.func 92) #[] #[pv b3 0]]) ⟨rfl, rfl, trivial⟩ Try.call80 (slices_IndexFunc_api_Wait_api_Wait_Fix_1_v2_sim h12 w0 _ M _ (sc4 (sc1 hM)) (hs_a0_2.mono (FLe.refl _) (.refl _))) ?_
 refine Lst.r (Ev.assign rfl) ?_
 refine Lst.nil ?_
 refine At.then ?_
 refine Cd.seq ?_
 refine Cd.seq ?_
 refine Cd.region ?_
 refine Lst.r (Ev.move rfl) ?_
 refine Lst.r (Ev.lss rfl rfl) ?_
 refine Lst.r (Ev.move rfl) ?_
 obtain ⟨o15, H, HKo15⟩ := bind_some H
 refine Lst.join (σ := Bool) 7 (fun y16 => [(3, pv b1 0), (4, pv b3 0), (5, pv b5 0), (6, pv b8 0), (9, iv r11), (32, .bool y16)]) (fun y16 => (.blk b3 (enc a1) 3) :: (.own Sl.nil 3 1 (encs ([] : List Int))) :: (.blk b8 (enc (SkeenR.mk ({ Skeen.zero with Wait := ([] : List Wait) } : Skeen) Sl.nil)) 59) :: (.own Sl.nil 77 4 (encs ([] : List Wait))) :: (.blk b5 (enc a2) 61) :: (.blk b1 (enc (SkeenR.mk a0 s_a0_2)) 59) :: L) (fun _ y16 => y16 = o15) ?_ ?_
 ·rcases Bool.eq_false_or_eq_true (decide (r11 < (0 : Int))) with hb17 | hb17
  ·replace H := ite_t hb17 H
   refine Lst.skip rfl rfl rfl hb17 rfl (by decide) ?_
   refine Lst.skip rfl rfl rfl hb17 rfl (by decide) ?_
   refine Lst.skip rfl rfl rfl hb17 rfl (by decide) ?_
   refine Lst.skip rfl rfl rfl hb17 rfl (by decide) ?_
   refine Lst.skip rfl rfl rfl hb17 rfl (by decide) ?_
   refine Lst.skip rfl rfl rfl hb17 rfl (by decide) ?_
   refine Lst.r (Ev.pickT rfl hb17 rfl) ?_
   refine Lst.nil ?_
   exact At.meet true (FLe.refl _) ⟨rfl, rfl, rfl, rfl, rfl, rfl, trivial⟩ rfl (some_inj H)
  replace H := ite_f hb17 H
  refine Lst.rG hb17 (Ev.fieldAddr (off' := 2) rfl Try.runUnderlying59 rfl Try.sizeOf57 rfl rfl) ?_
  refine Lst.rG hb17 (Ev.load (i := 5) rfl rfl Try.isAgg57 (v := Sl.v s_a0_2) ((SkeenR.get_Wait (Get.here _)).off (by rfl))) ?_
  refine Lst.rG hb17 (Ev.move rfl) ?_
  obtain ⟨x18, h19, H⟩ := bind_some H
  have g20 := lat_some h19
  refine Lst.rG hb17 (Ev.indexS (α := Wait) (xs := a0.Wait) rfl rfl Try.runUnderlying57 Try.sizeOf77 rfl (by decide) (hs_a0_2.mono (FLe.refl _) (sc4 (sc2 hM))) g20.1 g20.2.1) ?_
  refine Lst.rG hb17 (Ev.fieldS (α := Wait) (f' := r11.toNat * 4 + 3) rfl (hs_a0_2.mono (FLe.refl _) (sc4 (sc2 hM))) ((Get.elemN (s := 4) (x := x18) rfl g20.2.2 (Get.here _)).off (by omega)) rfl Try.runUnderlying77 rfl Try.sizeOf4 rfl rfl rfl) ?_
  refine Lst.rG hb17 (Ev.loadS (α := Wait) rfl (hs_a0_2.mono (FLe.refl _) (sc4 (sc2 hM))) Try.isAgg4 (v := .bool x18.Fixed) ((Get.elemN (s := 4) (x := x18) rfl g20.2.2 (Wait.get_Fixed (Get.here _))).off (by omega))) ?_
  refine Lst.r (Ev.pickF rfl hb17 rfl) ?_
  refine Lst.nil ?_
  exact At.meet x18.Fixed (FLe.refl _) ⟨rfl, rfl, rfl, rfl, rfl, rfl, trivial⟩ rfl (some_inj H)
 rintro F21 y16 hF22 hy
 subst hy
 refine Lst.as (e' := [(3, pv b1 0), (4, pv b3 0), (5, pv b5 0), (6, pv b8 0), (9, iv r11), (32, .bool y16)]) (L' := (.blk b3 (enc a1) 3) :: (.own Sl.nil 3 1 (encs ([] : List Int))) :: (.blk b8 (enc (SkeenR.mk ({ Skeen.zero with Wait := ([] : List Wait) } : Skeen) Sl.nil)) 59) :: (.own Sl.nil 77 4 (encs ([] : List Wait))) :: (.blk b5 (enc a2) 61) :: (.blk b1 (enc (SkeenR.mk a0 s_a0_2)) 59) :: L) ⟨rfl, rfl, rfl, rfl, rfl, rfl, trivial⟩ rfl ?_
 replace H := HKo15
 refine Lst.nil ?_
 refine At.then ?_
 rcases Bool.eq_false_or_eq_true y16 with hb23 | hb23
 ·replace H := ite_t hb23 H
  refine Cd.condT rfl hb23 ?_
  refine Cd.seq ?_
  refine Cd.region ?_
  refine Lst.r (Ev.build (v := .agg (enc (SkeenR.mk Skeen.zero Sl.nil)).toArray) (pv := []) trivial (fun w => by kernel_rfl)) ?_
  refine Lst.store (i := 2) rfl rfl rfl rfl rfl Try.sizeOf59 (vs := enc (SkeenR.mk Skeen.zero Sl.nil)) rfl (Enc.len _) (Enc.one _) (cs' := enc (SkeenR.mk Skeen.zero Sl.nil)) (Put.here ((Enc.len _).trans (Enc.len _).symm)) (L' := (.blk b3 (enc a1) 3) :: (.own Sl.nil 3 1 (encs ([] : List Int))) :: (.blk b8 (enc (SkeenR.mk Skeen.zero Sl.nil)) 59) :: (.own Sl.nil 77 4 (encs ([] : List Wait))) :: (.blk b5 (enc a2) 61) :: (.blk b1 (enc (SkeenR.mk a0 s_a0_2)) 59) :: L) rfl ?_
  refine Lst.addNil 3 1 ?_
  refine Lst.r (Ev.assign rfl) ?_
  refine Lst.r (Ev.assign rfl) ?_
  refine Lst.nil ?_
  refine At.then ?_
  obtain rfl := some_inj H
  refine Cd.ret ?_
  refine At.then_ret ?_
  exact At.ret3 rfl (Res.cellA (i := 3) rfl rfl Try.isAgg59 Try.sizeOf59 (Enc.len _)) (Res.tmp rfl) (Res.tmp rfl) hF22 (sk1 (sc1 (sc1 (sc1 (sc1 (sc1 (sc1 (.refl _)))))))) ⟨Sl.nil, Sl.nil, rfl, rfl, Rd.nil⟩
 replace H := ite_f hb23 H
 refine Cd.condF rfl hb23 ?_
 refine Cd.skip ?_
 refine At.then ?_
 refine Cd.seq ?_
 refine Cd.seq ?_
 refine Cd.quiet (by kernel_rfl) (by kernel_rfl) ?_
 refine Qt.r (Ev.loadA (i := 4) rfl rfl Try.isAgg61 Try.sizeOf61 (ch := enc a2) (Enc.len _) (Get.here _)) ?_
 refine Qt.r (Ev.fieldAddr (off' := 2) rfl Try.runUnderlying59 rfl Try.sizeOf57 rfl rfl) ?_
 refine Qt.r (Ev.load (i := 5) rfl rfl Try.isAgg57 (v := Sl.v s_a0_2) ((SkeenR.get_Wait (Get.here _)).off (by rfl))) ?_
 refine Qt.r (Ev.move rfl) ?_
 obtain ⟨x25, h26, H⟩ := bind_some H
 have g27 := lat_some h26
 refine Qt.r (Ev.indexS (α := Wait) (xs := a0.Wait) rfl rfl Try.runUnderlying57 Try.sizeOf77 rfl (by decide) (hs_a0_2.mono hF22 (sc4 (sc2 hM))) g27.1 g27.2.1) ?_
 refine Qt.r (Ev.fieldS (α := Wait) (f' := r11.toNat * 4 + 1) rfl (hs_a0_2.mono hF22 (sc4 (sc2 hM))) ((Get.elemN (s := 4) (x := x25) rfl g27.2.2 (Get.here _)).off (by omega)) rfl Try.runUnderlying77 rfl Try.sizeOf61 rfl rfl rfl) ?_
 refine Qt.r (Ev.loadSA (α := Wait) rfl (hs_a0_2.mono hF22 (sc4 (sc2 hM))) Try.isAgg61 Try.sizeOf61 (ch := enc x25.Num_) (Enc.len _) (by decide) ((Get.elemN (s := 4) (x := x25) rfl g27.2.2 (Wait.get_Num_ (Get.here _))).off (by omega))) ?_
 obtain ⟨r28, h29, H⟩ := bind_some H
 refine Qt.call rfl rfl (by decide) (vs := [.agg (enc a2).toArray, .agg (enc x25.Num_).toArray]) ⟨rfl, rfl, trivial⟩ Try.call38 (partref_Less_sim h29 w0 _ M _ (sc4 (sc2 hM))) ?_
 refine Qt.done ?_
 refine At.then ?_
 rcases Bool.eq_false_or_eq_true r28 with hb32 | hb32
 ·replace H := ite_t hb32 H
  refine Cd.condT rfl hb32 ?_
  refine Cd.seq ?_
  refine Cd.region ?_
  refine Lst.r (Ev.build (v := .agg (enc (SkeenR.mk Skeen.zero Sl.nil)).toArray) (pv := []) trivial (fun w => by kernel_rfl)) ?_
  refine Lst.store (i := 2) rfl rfl rfl rfl rfl Try.sizeOf59 (vs := enc (SkeenR.mk Skeen.zero Sl.nil)) rfl (Enc.len _) (Enc.one _) (cs' := enc (SkeenR.mk Skeen.zero Sl.nil)) (Put.here ((Enc.len _).trans (Enc.len _).symm)) (L' := (.blk b3 (enc a1) 3) :: (.own Sl.nil 3 1 (encs ([] : List Int))) :: (.blk b8 (enc (SkeenR.mk Skeen.zero Sl.nil)) 59) :: (.own Sl.nil 77 4 (encs ([] : List Wait))) :: (.blk b5 (enc a2) 61) :: (.blk b1 (enc (SkeenR.mk a0 s_a0_2)) 59) :: L) rfl ?_
  refine Lst.addNil 3 1 ?_
  refine Lst.r (Ev.assign rfl) ?_
  refine Lst.r (Ev.assign rfl) ?_
  refine Lst.nil ?_
  refine At.then ?_
  obtain rfl := some_inj H
  refine Cd.ret ?_
  refine At.then_ret ?_
  exact At.ret3 rfl (Res.cellA (i := 3) rfl rfl Try.isAgg59 Try.sizeOf59 (Enc.len _)) (Res.tmp rfl) (Res.tmp rfl) hF22 (sk1 (sc1 (sc1 (sc1 (sc1 (sc1 (sc1 (.refl _)))))))) ⟨Sl.nil, Sl.nil, rfl, rfl, Rd.nil⟩
 replace H := ite_f hb32 H
 refine Cd.condF rfl hb32 ?_
 refine Cd.skip ?_
 refine At.then ?_
 refine Cd.seq ?_
 refine Cd.region ?_
 refine Lst.r (Ev.fieldAddr (off' := 0) rfl Try.runUnderlying59 rfl Try.sizeOf3 rfl rfl) ?_
 refine Lst.r (Ev.load (i := 5) rfl rfl Try.isAgg3 (v := iv a0.Me) ((SkeenR.get_Me (Get.here _)).off (by rfl))) ?_
 refine Lst.r (Ev.fieldAddr (off' := 1) rfl Try.runUnderlying59 rfl Try.sizeOf3 rfl rfl) ?_
 refine Lst.r (Ev.load (i := 5) rfl rfl Try.isAgg3 (v := iv a0.Clock) ((SkeenR.get_Clock (Get.here _)).off (by rfl))) ?_
 refine Lst.r (Ev.fieldAddr (off' := 0) rfl Try.runUnderlying61 rfl Try.sizeOf3 rfl rfl) ?_
 refine Lst.r (Ev.load (i := 4) rfl rfl Try.isAgg3 (v := iv a2.N) ((Num.get_N (Get.here _)).off (by rfl))) ?_
 refine Lst.r (Ev.max2 rfl rfl) ?_
 refine Lst.r (Ev.build (v := .agg (enc (SkeenR.mk ({ Skeen.zero with Me := a0.Me, Clock := max a0.Clock a2.N } : Skeen) Sl.nil)).toArray) (pv := [(0, iv a0.Me), (1, iv (max a0.Clock a2.N))]) ⟨rfl, rfl, ⟨rfl, rfl, trivial⟩⟩ (fun w => by kernel_rfl)) ?_
 refine Lst.addNil 77 4 ?_
 refine Lst.alloc (cs := enc (SkeenR.mk ({ Skeen.zero with Wait := ([] : List Wait) } : Skeen) Sl.nil)) rfl rfl (by decide) Try.zeroValue59 rfl (fun b35 => ?_)
 refine Lst.store (i := 0) rfl rfl rfl rfl rfl Try.sizeOf59 (vs := enc (SkeenR.mk ({ Skeen.zero with Me := a0.Me, Clock := max a0.Clock a2.N } : Skeen) Sl.nil)) rfl (Enc.len _) (Enc.one _) (cs' := enc (SkeenR.mk ({ Skeen.zero with Me := a0.Me, Clock := max a0.Clock a2.N } : Skeen) Sl.nil)) (Put.here ((Enc.len _).trans (Enc.len _).symm)) (L' := (.blk b35 (enc (SkeenR.mk ({ Skeen.zero with Me := a0.Me, Clock := max a0.Clock a2.N } : Skeen) Sl.nil)) 59) :: (.own Sl.nil 77 4 (encs ([] : List Wait))) :: (.blk b3 (enc a1) 3) :: (.own Sl.nil 3 1 (encs ([] : List Int))) :: (.blk b8 (enc (SkeenR.mk ({ Skeen.zero with Wait := ([] : List Wait) } : Skeen) Sl.nil)) 59) :: (.own Sl.nil 77 4 (encs ([] : List Wait))) :: (.blk b5 (enc a2) 61) :: (.blk b1 (enc (SkeenR.mk a0 s_a0_2)) 59) :: L) rfl ?_
 refine Lst.nil ?_
 refine At.then ?_
 refine Cd.seq ?_
 refine Cd.as (e' := [(3, pv b1 0), (4, pv b3 0), (5, pv b5 0), (6, pv b8 0), (9, iv r11), (10, pv b35 0)]) (L' := (.blk b35 (enc (SkeenR.mk ({ Skeen.zero with Me := a0.Me, Clock := max a0.Clock a2.N } : Skeen) Sl.nil)) 59) :: (.own Sl.nil 77 4 (encs ([] : List Wait))) :: (.blk b3 (enc a1) 3) :: (.own Sl.nil 3 1 (encs ([] : List Int))) :: (.blk b8 (enc (SkeenR.mk ({ Skeen.zero with Wait := ([] : List Wait) } : Skeen) Sl.nil)) 59) :: (.own Sl.nil 77 4 (encs ([] : List Wait))) :: (.blk b5 (enc a2) 61) :: (.blk b1 (enc (SkeenR.mk a0 s_a0_2)) 59) :: L) ⟨rfl, rfl, rfl, rfl, rfl, rfl, trivial⟩ rfl ?_
 refine Cd.region ?_
 refine Lst.r (Ev.load (i := 2) rfl rfl Try.isAgg3 (v := iv a1) (Get.here _)) ?_
 refine Lst.r (Ev.loadA (i := 6) rfl rfl Try.isAgg61 Try.sizeOf61 (ch := enc a2) (Enc.len _) (Get.here _)) ?_
 refine Lst.r (Ev.build (v := .agg (enc ({ Wait.zero with Id := a1, Num_ := a2, Fixed := true } : Wait)).toArray) (pv := [(0, iv a1), (1, .agg (enc a2).toArray), (2, .bool true)]) ⟨rfl, rfl, ⟨rfl, rfl, ⟨rfl, rfl, trivial⟩⟩⟩ (run_buildStruct (places := #[(0, 1), (1, 2), (3, 1)]) Try.zeroValue77 (zs := enc Wait.zero) rfl Try.runUnderlying77 (fun w => by kernel_rfl) (fill_cons (cs := enc Wait.zero) (cs' := enc ({ Wait.zero with Id := a1 } : Wait)) (vs := [iv a1]) rfl rfl rfl ((Wait.put_Id (p := Wait.zero) (y := a1) (Put.here (vs := [iv a1]) rfl)).off rfl) (fill_cons (cs := enc ({ Wait.zero with Id := a1 } : Wait)) (cs' := enc ({ Wait.zero with Id := a1, Num_ := a2 } : Wait)) (vs := enc a2) rfl rfl (Enc.len _) ((Wait.put_Num_ (p := ({ Wait.zero with Id := a1 } : Wait)) (y := a2) (Put.here ((Enc.len _).trans (Enc.len _).symm))).off rfl) (fill_cons (cs := enc ({ Wait.zero with Id := a1, Num_ := a2 } : Wait)) (cs' := enc ({ Wait.zero with Id := a1, Num_ := a2, Fixed := true } : Wait)) (vs := [.bool true]) rfl rfl rfl ((Wait.put_Fixed (p := ({ Wait.zero with Id := a1, Num_ := a2 } : Wait)) (y := true) (Put.here (vs := [.bool true]) rfl)).off rfl) fill_nil))))) ?_
 refine Lst.alloc (cs := enc Wait.zero) rfl rfl (by decide) Try.zeroValue77 rfl (fun b37 => ?_)
 refine Lst.store (i := 0) rfl rfl rfl rfl rfl Try.sizeOf77 (vs := enc ({ Wait.zero with Id := a1, Num_ := a2, Fixed := true } : Wait)) rfl (Enc.len _) (Enc.one _) (cs' := enc ({ Wait.zero with Id := a1, Num_ := a2, Fixed := true } : Wait)) (Put.here ((Enc.len _).trans (Enc.len _).symm)) (L' := (.blk b37 (enc ({ Wait.zero with Id := a1, Num_ := a2, Fixed := true } : Wait)) 77) :: (.blk b35 (enc (SkeenR.mk ({ Skeen.zero with Me := a0.Me, Clock := max a0.Clock a2.N } : Skeen) Sl.nil)) 59) :: (.own Sl.nil 77 4 (encs ([] : List Wait))) :: (.blk b3 (enc a1) 3) :: (.own Sl.nil 3 1 (encs ([] : List Int))) :: (.blk b8 (enc (SkeenR.mk ({ Skeen.zero with Wait := ([] : List Wait) } : Skeen) Sl.nil)) 59) :: (.own Sl.nil 77 4 (encs ([] : List Wait))) :: (.blk b5 (enc a2) 61) :: (.blk b1 (enc (SkeenR.mk a0 s_a0_2)) 59) :: L) rfl ?_
 refine Lst.nil ?_
 refine At.then ?_
 refine Cd.seq ?_
 refine Cd.region ?_
 refine Lst.r (Ev.assign rfl) ?_
 refine Lst.nil ?_
 refine At.then ?_
 refine Cd.seq ?_
 refine Cd.region ?_
 refine Lst.addNil 77 4 ?_
 refine Lst.r (Ev.assign rfl) ?_
 refine Lst.nil ?_
 refine At.then ?_
 refine Cd.seq ?_
 refine Cd.seq ?_
 refine Cd.region ?_
 refine Lst.r (Ev.fieldAddr (off' := 2) rfl Try.runUnderlying59 rfl Try.sizeOf57 rfl rfl) ?_
 refine Lst.r (Ev.load (i := 9) rfl rfl Try.isAgg57 (v := Sl.v s_a0_2) ((SkeenR.get_Wait (Get.here _)).off (by rfl))) ?_
 refine Lst.r (Ev.lenS (α := Wait) (xs := a0.Wait) (by decide) rfl rfl Try.runUnderlying57 (hs_a0_2.mono hF22 (sc8 (sc2 hM)))) ?_
 refine Lst.r (Ev.move rfl) ?_
 refine Lst.nil ?_
 refine At.then ?_
 refine Cd.block ?_
 refine Cd.bound (Rd.le (α := Wait) (xs := a0.Wait) (by decide) (hs_a0_2.mono hF22 (sc8 (sc2 hM)))) (fun hN129 => ?_)
 obtain ⟨ol40, H, HKl40⟩ := andThen_some H
 refine Cd.loop (σ := Nat × Nat × Bool × Sl × (List Wait)) (fun (i40, k40, y41, s42, l43) => [(5, pv b5 0), (6, pv b8 0), (9, iv r11), (10, pv b35 0), (11, pv b37 0), (12, .bool y41), (13, Sl.v s42), (55, Sl.v s_a0_2), (56, iv (a0.Wait.length : Int)), (57, iv (i40 : Int))]) (fun (i40, k40, y41, s42, l43) => (.own s42 77 4 (encs l43)) :: (.blk b37 (enc ({ Wait.zero with Id := a1, Num_ := a2, Fixed := true } : Wait)) 77) :: (.blk b35 (enc (SkeenR.mk ({ Skeen.zero with Me := a0.Me, Clock := max a0.Clock a2.N } : Skeen) Sl.nil)) 59) :: (.own Sl.nil 77 4 (encs ([] : List Wait))) :: (.blk b3 (enc a1) 3) :: (.own Sl.nil 3 1 (encs ([] : List Int))) :: (.blk b8 (enc (SkeenR.mk ({ Skeen.zero with Wait := ([] : List Wait) } : Skeen) Sl.nil)) 59) :: (.own Sl.nil 77 4 (encs ([] : List Wait))) :: (.blk b5 (enc a2) 61) :: (.blk b1 (enc (SkeenR.mk a0 s_a0_2)) 59) :: L) (fun _ => (fun (i40, k40, y41, s42, l43) => rangeM (partref_Fix_B0 a0 a1 a2 r11) k40 i40 (y41, l43) = some ol40 ∧ i40 + k40 = a0.Wait.length)) (fun (i40, k40, y41, s42, l43) => k40) (0, a0.Wait.length, false, Sl.nil, ([] : List Wait)) ⟨rfl, rfl, rfl, rfl, rfl, rfl, rfl, rfl, rfl, rfl, trivial⟩ rfl ⟨H, by omega⟩ ?_
 rintro F44 ⟨i40, k40, y41, s42, l43⟩ hF45 ⟨H, hik40⟩
 refine Cd.as (e' := [(5, pv b5 0), (6, pv b8 0), (9, iv r11), (10, pv b35 0), (11, pv b37 0), (12, .bool y41), (13, Sl.v s42), (55, Sl.v s_a0_2), (56, iv (a0.Wait.length : Int)), (57, iv (i40 : Int))]) (L' := (.own s42 77 4 (encs l43)) :: (.blk b37 (enc ({ Wait.zero with Id := a1, Num_ := a2, Fixed := true } : Wait)) 77) :: (.blk b35 (enc (SkeenR.mk ({ Skeen.zero with Me := a0.Me, Clock := max a0.Clock a2.N } : Skeen) Sl.nil)) 59) :: (.own Sl.nil 77 4 (encs ([] : List Wait))) :: (.blk b3 (enc a1) 3) :: (.own Sl.nil 3 1 (encs ([] : List Int))) :: (.blk b8 (enc (SkeenR.mk ({ Skeen.zero with Wait := ([] : List Wait) } : Skeen) Sl.nil)) 59) :: (.own Sl.nil 77 4 (encs ([] : List Wait))) :: (.blk b5 (enc a2) 61) :: (.blk b1 (enc (SkeenR.mk a0 s_a0_2)) 59) :: L) ⟨rfl, rfl, rfl, rfl, rfl, rfl, rfl, rfl, rfl, rfl, trivial⟩ rfl ?_
 rcases k40 with _ | k40
 ·have hc40 : decide ((i40 : Int) < (a0.Wait.length : Int)) = false := decide_eq_false (by omega)
  replace H := rangeM_end H
  refine Cd.seq ?_
  refine Cd.region ?_
  refine Lst.r (Ev.lss rfl rfl) ?_
  refine Lst.nil ?_
  refine At.then ?_
  refine Cd.seq ?_
  refine Cd.condF rfl hc40 ?_
  refine Cd.exit ?_
  refine At.then_exit ?_
  refine At.then_exit ?_
  refine At.in_exit ?_
  subst H
  replace H := HKl40
  refine At.then ?_
  obtain ⟨o82, H, HKo82⟩ := bind_some H
  refine Cd.join (σ := Sl × (List Wait)) (fun (s80, l81) => [(6, pv b8 0), (10, pv b35 0), (13, Sl.v s80)]) (fun (s80, l81) => (.own s80 77 4 (encs l81)) :: (.blk b37 (enc ({ Wait.zero with Id := a1, Num_ := a2, Fixed := true } : Wait)) 77) :: (.blk b35 (enc (SkeenR.mk ({ Skeen.zero with Me := a0.Me, Clock := max a0.Clock a2.N } : Skeen) Sl.nil)) 59) :: (.own Sl.nil 77 4 (encs ([] : List Wait))) :: (.blk b3 (enc a1) 3) :: (.own Sl.nil 3 1 (encs ([] : List Int))) :: (.blk b8 (enc (SkeenR.mk ({ Skeen.zero with Wait := ([] : List Wait) } : Skeen) Sl.nil)) 59) :: (.own Sl.nil 77 4 (encs ([] : List Wait))) :: (.blk b5 (enc a2) 61) :: (.blk b1 (enc (SkeenR.mk a0 s_a0_2)) 59) :: L) (fun _ (s80, l81) => l81 = o82) ?_ ?_
  ·refine Cd.seq ?_
   refine Cd.region ?_
   refine Lst.r (Ev.move rfl) ?_
   refine Lst.r (Ev.not rfl) ?_
   refine Lst.nil ?_
   refine At.then ?_
   rcases (Bool.eq_false_or_eq_true (!y41)).symm with hb83 | hb83
   ·replace H := ite_f hb83 H
    refine Cd.condF rfl hb83 ?_
    refine Cd.skip ?_
    exact At.meet (s42, l43) (FLe.refl _) ⟨rfl, rfl, rfl, trivial⟩ rfl (some_inj H)
   replace H := ite_t hb83 H
   refine Cd.condT rfl hb83 ?_
   refine Cd.region ?_
   refine Lst.r (Ev.move rfl) ?_
   refine Lst.r (Ev.loadA (i := 1) rfl rfl Try.isAgg77 Try.sizeOf77 (ch := enc ({ Wait.zero with Id := a1, Num_ := a2, Fixed := true } : Wait)) (Enc.len _) (Get.here _)) ?_
   refine Lst.buildSlice (α := Wait) (xs := ([({ Wait.zero with Id := a1, Num_ := a2, Fixed := true } : Wait)] : List Wait)) (pv := [(0, .agg (enc ({ Wait.zero with Id := a1, Num_ := a2, Fixed := true } : Wait)).toArray)]) rfl rfl (by decide) ⟨rfl, rfl, trivial⟩ (run_buildSlice (α := Wait) (z0 := Wait.zero) (xs := ([({ Wait.zero with Id := a1, Num_ := a2, Fixed := true } : Wait)] : List Wait)) Try.runUnderlying57 Try.sizeOf77 Try.zeroValue77 rfl rfl rfl (by decide) rfl (fill_cons (cs := encs (List.replicate 1 Wait.zero)) (cs' := encs ((List.replicate 1 Wait.zero).set 0 ({ Wait.zero with Id := a1, Num_ := a2, Fixed := true } : Wait))) (vs := enc ({ Wait.zero with Id := a1, Num_ := a2, Fixed := true } : Wait)) rfl rfl (Enc.len _) ((Put.elemN (s := 4) (i := 0) (x := Wait.zero) (y := ({ Wait.zero with Id := a1, Num_ := a2, Fixed := true } : Wait)) rfl rfl (Put.here ((Enc.len _).trans (Enc.len _).symm))).off rfl) fill_nil)) rfl rfl (by decide) (fun s84 _ => ?_)
   obtain ⟨u86, h87, H⟩ := bind_some H
   refine Lst.append (i := 1) (α := Wait) (xs := l43) (ys := ([({ Wait.zero with Id := a1, Num_ := a2, Fixed := true } : Wait)] : List Wait)) rfl rfl (by decide) rfl rfl Try.runUnderlying57 Try.typeInfo77 rfl rfl rfl rfl rfl rfl (Rd.own (i := 0) rfl rfl rfl) rfl (room_some h87) rfl (fun s88 => ?_)
   refine Lst.its (L' := (.own s84 77 4 (encs ([({ Wait.zero with Id := a1, Num_ := a2, Fixed := true } : Wait)] : List Wait))) :: (.own s88 77 4 (encs (l43 ++ ([({ Wait.zero with Id := a1, Num_ := a2, Fixed := true } : Wait)] : List Wait)))) :: (.blk b37 (enc ({ Wait.zero with Id := a1, Num_ := a2, Fixed := true } : Wait)) 77) :: (.blk b35 (enc (SkeenR.mk ({ Skeen.zero with Me := a0.Me, Clock := max a0.Clock a2.N } : Skeen) Sl.nil)) 59) :: (.own Sl.nil 77 4 (encs ([] : List Wait))) :: (.blk b3 (enc a1) 3) :: (.own Sl.nil 3 1 (encs ([] : List Int))) :: (.blk b8 (enc (SkeenR.mk ({ Skeen.zero with Wait := ([] : List Wait) } : Skeen) Sl.nil)) 59) :: (.own Sl.nil 77 4 (encs ([] : List Wait))) :: (.blk b5 (enc a2) 61) :: (.blk b1 (enc (SkeenR.mk a0 s_a0_2)) 59) :: L) rfl ?_
   refine Lst.r (Ev.assign rfl) ?_
   refine Lst.nil ?_
   refine At.less (L' := (.own s88 77 4 (encs (l43 ++ ([({ Wait.zero with Id := a1, Num_ := a2, Fixed := true } : Wait)] : List Wait)))) :: (.blk b37 (enc ({ Wait.zero with Id := a1, Num_ := a2, Fixed := true } : Wait)) 77) :: (.blk b35 (enc (SkeenR.mk ({ Skeen.zero with Me := a0.Me, Clock := max a0.Clock a2.N } : Skeen) Sl.nil)) 59) :: (.own Sl.nil 77 4 (encs ([] : List Wait))) :: (.blk b3 (enc a1) 3) :: (.own Sl.nil 3 1 (encs ([] : List Int))) :: (.blk b8 (enc (SkeenR.mk ({ Skeen.zero with Wait := ([] : List Wait) } : Skeen) Sl.nil)) 59) :: (.own Sl.nil 77 4 (encs ([] : List Wait))) :: (.blk b5 (enc a2) 61) :: (.blk b1 (enc (SkeenR.mk a0 s_a0_2)) 59) :: L) (sc1 (sk1 (sk1 (sk1 (sk1 (sk1 (sk1 (sk1 (sk1 (sk1 (sk1 (.refl _)))))))))))) ?_
   exact At.meet (s88, l43 ++ ([({ Wait.zero with Id := a1, Num_ := a2, Fixed := true } : Wait)] : List Wait)) (FLe.refl _) ⟨rfl, rfl, rfl, trivial⟩ rfl (some_inj H)
  rintro F89 ⟨s80, l81⟩ hF90 hy
  subst hy
  refine Cd.as (e' := [(6, pv b8 0), (10, pv b35 0), (13, Sl.v s80)]) (L' := (.own s80 77 4 (encs l81)) :: (.blk b37 (enc ({ Wait.zero with Id := a1, Num_ := a2, Fixed := true } : Wait)) 77) :: (.blk b35 (enc (SkeenR.mk ({ Skeen.zero with Me := a0.Me, Clock := max a0.Clock a2.N } : Skeen) Sl.nil)) 59) :: (.own Sl.nil 77 4 (encs ([] : List Wait))) :: (.blk b3 (enc a1) 3) :: (.own Sl.nil 3 1 (encs ([] : List Int))) :: (.blk b8 (enc (SkeenR.mk ({ Skeen.zero with Wait := ([] : List Wait) } : Skeen) Sl.nil)) 59) :: (.own Sl.nil 77 4 (encs ([] : List Wait))) :: (.blk b5 (enc a2) 61) :: (.blk b1 (enc (SkeenR.mk a0 s_a0_2)) 59) :: L) ⟨rfl, rfl, rfl, trivial⟩ rfl ?_
  replace H := HKo82
  refine Cd.seq ?_
  refine Cd.region ?_
  refine Lst.addNil 3 1 ?_
  refine Lst.r (Ev.assign rfl) ?_
  refine Lst.nil ?_
  refine At.then ?_
  obtain ⟨o97, H, HKo97⟩ := bind_some H
  refine Cd.join (σ := Skeen × Sl × Sl × (List Int)) (fun (y92, s93, s95, l96) => [(6, pv b8 0), (10, pv b35 0), (16, Sl.v s95)]) (fun (y92, s93, s95, l96) => (.own s95 3 1 (encs l96)) :: (.blk b37 (enc ({ Wait.zero with Id := a1, Num_ := a2, Fixed := true } : Wait)) 77) :: (.blk b35 (enc (SkeenR.mk y92 s93)) 59) :: (.own Sl.nil 77 4 (encs ([] : List Wait))) :: (.blk b3 (enc a1) 3) :: (.own Sl.nil 3 1 (encs ([] : List Int))) :: (.blk b8 (enc (SkeenR.mk ({ Skeen.zero with Wait := ([] : List Wait) } : Skeen) Sl.nil)) 59) :: (.own Sl.nil 77 4 (encs ([] : List Wait))) :: (.blk b5 (enc a2) 61) :: (.blk b1 (enc (SkeenR.mk a0 s_a0_2)) 59) :: L) (fun Fx (y92, s93, s95, l96) => (y92, l96) = o97 ∧ Rd w0 Fx M s93 y92.Wait) ?_ ?_
  ·refine Cd.seq ?_
   refine Cd.region ?_
   refine Lst.r (Ev.move rfl) ?_
   refine Lst.r (Ev.lenS (α := Wait) (xs := l81) (by decide) rfl rfl Try.runUnderlying57 (Rd.own (i := 1) rfl rfl rfl)) ?_
   refine Lst.r (Ev.move rfl) ?_
   refine Lst.nil ?_
   refine At.then ?_
   refine Cd.block ?_
   refine Cd.bound (Rd.le (α := Wait) (xs := l81) (by decide) (Rd.own (i := 1) rfl rfl rfl)) (fun hN126 => ?_)
   obtain ⟨ol98, H, HKl98⟩ := andThen_some H
   refine Cd.loop (σ := Nat × Nat × Skeen × Sl × Sl × (List Int)) (fun (i98, k98, y99, s100, s102, l103) => [(6, pv b8 0), (10, pv b35 0), (13, Sl.v s80), (16, Sl.v s102), (93, Sl.v s80), (94, iv (l81.length : Int)), (95, iv (i98 : Int))]) (fun (i98, k98, y99, s100, s102, l103) => (.own s102 3 1 (encs l103)) :: (.own s80 77 4 (encs l81)) :: (.blk b37 (enc ({ Wait.zero with Id := a1, Num_ := a2, Fixed := true } : Wait)) 77) :: (.blk b35 (enc (SkeenR.mk y99 s100)) 59) :: (.own Sl.nil 77 4 (encs ([] : List Wait))) :: (.blk b3 (enc a1) 3) :: (.own Sl.nil 3 1 (encs ([] : List Int))) :: (.blk b8 (enc (SkeenR.mk ({ Skeen.zero with Wait := ([] : List Wait) } : Skeen) Sl.nil)) 59) :: (.own Sl.nil 77 4 (encs ([] : List Wait))) :: (.blk b5 (enc a2) 61) :: (.blk b1 (enc (SkeenR.mk a0 s_a0_2)) 59) :: L) (fun Fx => (fun (i98, k98, y99, s100, s102, l103) => rangeM (partref_Fix_B2 l81) k98 i98 (y99, l103) = some ol98 ∧ i98 + k98 = l81.length ∧ Rd w0 Fx M s100 y99.Wait)) (fun (i98, k98, y99, s100, s102, l103) => k98) (0, l81.length, ({ Skeen.zero with Me := a0.Me, Clock := max a0.Clock a2.N } : Skeen), Sl.nil, Sl.nil, ([] : List Int)) ⟨rfl, rfl, rfl, rfl, rfl, rfl, rfl, trivial⟩ rfl ⟨H, by omega, Rd.nil⟩ ?_
   rintro F104 ⟨i98, k98, y99, s100, s102, l103⟩ hF105 ⟨H, hik98, f101⟩
   refine Cd.as (e' := [(6, pv b8 0), (10, pv b35 0), (13, Sl.v s80), (16, Sl.v s102), (93, Sl.v s80), (94, iv (l81.length : Int)), (95, iv (i98 : Int))]) (L' := (.own s102 3 1 (encs l103)) :: (.own s80 77 4 (encs l81)) :: (.blk b37 (enc ({ Wait.zero with Id := a1, Num_ := a2, Fixed := true } : Wait)) 77) :: (.blk b35 (enc (SkeenR.mk y99 s100)) 59) :: (.own Sl.nil 77 4 (encs ([] : List Wait))) :: (.blk b3 (enc a1) 3) :: (.own Sl.nil 3 1 (encs ([] : List Int))) :: (.blk b8 (enc (SkeenR.mk ({ Skeen.zero with Wait := ([] : List Wait) } : Skeen) Sl.nil)) 59) :: (.own Sl.nil 77 4 (encs ([] : List Wait))) :: (.blk b5 (enc a2) 61) :: (.blk b1 (enc (SkeenR.mk a0 s_a0_2)) 59) :: L) ⟨rfl, rfl, rfl, rfl, rfl, rfl, rfl, trivial⟩ rfl ?_
   rcases k98 with _ | k98
   ·have hc98 : decide ((i98 : Int) < (l81.length : Int)) = false := decide_eq_false (by omega)
    replace H := rangeM_end H
    refine Cd.seq ?_
    refine Cd.region ?_
    refine Lst.r (Ev.lss rfl rfl) ?_
    refine Lst.nil ?_
    refine At.then ?_
    refine Cd.seq ?_
    refine Cd.condF rfl hc98 ?_
    refine Cd.exit ?_
    refine At.then_exit ?_
    refine At.then_exit ?_
    refine At.in_exit ?_
    subst H
    replace H := HKl98
    refine At.less (L' := (.own s102 3 1 (encs l103)) :: (.blk b37 (enc ({ Wait.zero with Id := a1, Num_ := a2, Fixed := true } : Wait)) 77) :: (.blk b35 (enc (SkeenR.mk y99 s100)) 59) :: (.own Sl.nil 77 4 (encs ([] : List Wait))) :: (.blk b3 (enc a1) 3) :: (.own Sl.nil 3 1 (encs ([] : List Int))) :: (.blk b8 (enc (SkeenR.mk ({ Skeen.zero with Wait := ([] : List Wait) } : Skeen) Sl.nil)) 59) :: (.own Sl.nil 77 4 (encs ([] : List Wait))) :: (.blk b5 (enc a2) 61) :: (.blk b1 (enc (SkeenR.mk a0 s_a0_2)) 59) :: L) (sk1 (sc1 (sk1 (sk1 (sk1 (sk1 (sk1 (sk1 (sk1 (sk1 (sk1 (.refl _)))))))))))) ?_
    exact At.meet (y99, s100, s102, l103) hF105 ⟨rfl, rfl, rfl, trivial⟩ rfl ⟨some_inj H, (f101.mono (FLe.refl _) (.refl _))⟩
   have hc98 : decide ((i98 : Int) < (l81.length : Int)) = true := decide_eq_true (by omega)
   obtain ⟨c98, H, hgo98, hbrk98, hret98⟩ := rangeM_go H
   unfold partref_Fix_B2 at H
   try dsimp only at H
   refine Cd.seq ?_
   refine Cd.region ?_
   refine Lst.r (Ev.lss rfl rfl) ?_
   refine Lst.nil ?_
   refine At.then ?_
   refine Cd.seq ?_
   refine Cd.condT rfl hc98 ?_
   refine Cd.skip ?_
   refine At.then ?_
   refine Cd.seq ?_
   refine Cd.block ?_
   refine Cd.seq ?_
   refine Cd.region ?_
   refine Lst.r (Ev.move rfl) ?_
   obtain ⟨x106, h107, H⟩ := bind_some H
   have g108 := lat_some h107
   refine Lst.r (Ev.indexS (α := Wait) (xs := l81) rfl rfl Try.runUnderlying57 Try.sizeOf77 rfl (by decide) (Rd.own (i := 1) rfl rfl rfl) g108.1 g108.2.1) ?_
   refine Lst.r (Ev.loadSA (α := Wait) rfl (Rd.own (i := 1) rfl rfl rfl) Try.isAgg77 Try.sizeOf77 (ch := enc x106) (Enc.len _) (by decide) ((Get.elemN (s := 4) (x := x106) rfl g108.2.2 (Get.here _)).off (by omega))) ?_
   refine Lst.alloc (cs := enc Wait.zero) rfl rfl (by decide) Try.zeroValue77 rfl (fun b109 => ?_)
   refine Lst.r (Ev.assign rfl) ?_
   refine Lst.store (i := 0) rfl rfl rfl rfl rfl Try.sizeOf77 (vs := enc x106) rfl (Enc.len _) (Enc.one _) (cs' := enc x106) (Put.here ((Enc.len _).trans (Enc.len _).symm)) (L' := (.blk b109 (enc x106) 77) :: (.own s102 3 1 (encs l103)) :: (.own s80 77 4 (encs l81)) :: (.blk b37 (enc ({ Wait.zero with Id := a1, Num_ := a2, Fixed := true } : Wait)) 77) :: (.blk b35 (enc (SkeenR.mk y99 s100)) 59) :: (.own Sl.nil 77 4 (encs ([] : List Wait))) :: (.blk b3 (enc a1) 3) :: (.own Sl.nil 3 1 (encs ([] : List Int))) :: (.blk b8 (enc (SkeenR.mk ({ Skeen.zero with Wait := ([] : List Wait) } : Skeen) Sl.nil)) 59) :: (.own Sl.nil 77 4 (encs ([] : List Wait))) :: (.blk b5 (enc a2) 61) :: (.blk b1 (enc (SkeenR.mk a0 s_a0_2)) 59) :: L) rfl ?_
   refine Lst.nil ?_
   refine At.then ?_
   refine Cd.seq ?_
   refine Cd.seq ?_
   refine Cd.region ?_
   refine Lst.r (Ev.fieldAddr (off' := 3) rfl Try.runUnderlying77 rfl Try.sizeOf4 rfl rfl) ?_
   refine Lst.r (Ev.load (i := 0) rfl rfl Try.isAgg4 (v := .bool x106.Fixed) ((Wait.get_Fixed (Get.here _)).off (by rfl))) ?_
   refine Lst.r (Ev.not rfl) ?_
   refine Lst.nil ?_
   refine At.then ?_
   rcases Bool.eq_false_or_eq_true (!x106.Fixed) with hb111 | hb111
   ·replace H := ite_t hb111 H
    refine Cd.condT rfl hb111 ?_
    refine Cd.seq ?_
    refine Cd.region ?_
    refine Lst.r (Ev.move rfl) ?_
    refine Lst.r (Ev.move rfl) ?_
    obtain ⟨m112, h113, H⟩ := bind_some H
    obtain ⟨g114, gl115⟩ := cutL_some h113
    try dsimp only at g114
    refine Lst.r (Ev.cut (α := Wait) (xs := l81) (i := (i98 : Int)) (j := (l81.length : Int)) rfl rfl rfl Try.runUnderlying57 Try.sizeOf77 rfl (by decide) (Rd.own (i := 2) rfl rfl rfl) g114.1 g114.2.1 g114.2.2) ?_
    refine Lst.r (Ev.fieldAddr (off' := 2) rfl Try.runUnderlying59 rfl Try.sizeOf57 rfl rfl) ?_
    refine Lst.store (i := 4) rfl rfl rfl rfl rfl Try.sizeOf57 (vs := [Sl.v (s80.cut ((i98 : Int) : Int).toNat ((l81.length : Int) : Int).toNat 4)]) rfl rfl rfl (cs' := enc (SkeenR.mk ({ y99 with Wait := m112 } : Skeen) (s80.cut ((i98 : Int) : Int).toNat ((l81.length : Int) : Int).toNat 4))) ((SkeenR.put_Wait (Put.here (vs := [Sl.v (s80.cut ((i98 : Int) : Int).toNat ((l81.length : Int) : Int).toNat 4)]) rfl)).off (by rfl)) (L' := (.blk b109 (enc x106) 77) :: (.own s102 3 1 (encs l103)) :: (.own s80 77 4 (encs l81)) :: (.blk b37 (enc ({ Wait.zero with Id := a1, Num_ := a2, Fixed := true } : Wait)) 77) :: (.blk b35 (enc (SkeenR.mk ({ y99 with Wait := m112 } : Skeen) (s80.cut ((i98 : Int) : Int).toNat ((l81.length : Int) : Int).toNat 4))) 59) :: (.own Sl.nil 77 4 (encs ([] : List Wait))) :: (.blk b3 (enc a1) 3) :: (.own Sl.nil 3 1 (encs ([] : List Int))) :: (.blk b8 (enc (SkeenR.mk ({ Skeen.zero with Wait := ([] : List Wait) } : Skeen) Sl.nil)) 59) :: (.own Sl.nil 77 4 (encs ([] : List Wait))) :: (.blk b5 (enc a2) 61) :: (.blk b1 (enc (SkeenR.mk a0 s_a0_2)) 59) :: L) rfl ?_
    refine Lst.nil ?_
    refine At.then ?_
    refine Cd.exit ?_
    refine At.then_exit ?_
    refine At.in_other rfl ?_
    refine At.then_exit ?_
    refine At.then_exit ?_
    refine At.in_exit ?_
    have H := hbrk98 _ (some_inj H).symm
    subst H
    refine At.freeze (i := 2) rfl (fun F116 hF117 hz118 => ?_)
    have hq119 : Rd w0 F116 [] s80 l81 := Rd.frozen hz118 rfl rfl
    refine At.its (L' := (.blk b109 (enc x106) 77) :: (.own s102 3 1 (encs l103)) :: (.blk b37 (enc ({ Wait.zero with Id := a1, Num_ := a2, Fixed := true } : Wait)) 77) :: (.blk b35 (enc (SkeenR.mk ({ y99 with Wait := m112 } : Skeen) (s80.cut ((i98 : Int) : Int).toNat ((l81.length : Int) : Int).toNat 4))) 59) :: (.own Sl.nil 77 4 (encs ([] : List Wait))) :: (.blk b3 (enc a1) 3) :: (.own Sl.nil 3 1 (encs ([] : List Int))) :: (.blk b8 (enc (SkeenR.mk ({ Skeen.zero with Wait := ([] : List Wait) } : Skeen) Sl.nil)) 59) :: (.own Sl.nil 77 4 (encs ([] : List Wait))) :: (.blk b5 (enc a2) 61) :: (.blk b1 (enc (SkeenR.mk a0 s_a0_2)) 59) :: L) rfl ?_
    have hq120 : Rd w0 F116 [] (s80.cut ((i98 : Int) : Int).toNat ((l81.length : Int) : Int).toNat 4) m112 := by rw [← gl115]; exact Rd.cut (by decide) hq119 (by omega) (by omega)
    refine At.less (L' := (.own s102 3 1 (encs l103)) :: (.blk b37 (enc ({ Wait.zero with Id := a1, Num_ := a2, Fixed := true } : Wait)) 77) :: (.blk b35 (enc (SkeenR.mk ({ y99 with Wait := m112 } : Skeen) (s80.cut ((i98 : Int) : Int).toNat ((l81.length : Int) : Int).toNat 4))) 59) :: (.own Sl.nil 77 4 (encs ([] : List Wait))) :: (.blk b3 (enc a1) 3) :: (.own Sl.nil 3 1 (encs ([] : List Int))) :: (.blk b8 (enc (SkeenR.mk ({ Skeen.zero with Wait := ([] : List Wait) } : Skeen) Sl.nil)) 59) :: (.own Sl.nil 77 4 (encs ([] : List Wait))) :: (.blk b5 (enc a2) 61) :: (.blk b1 (enc (SkeenR.mk a0 s_a0_2)) 59) :: L) (sc1 (sk1 (sk1 (sk1 (sk1 (sk1 (sk1 (sk1 (sk1 (sk1 (sk1 (.refl _)))))))))))) ?_
    replace H := HKl98
    exact At.meet (({ y99 with Wait := m112 } : Skeen), (s80.cut ((i98 : Int) : Int).toNat ((l81.length : Int) : Int).toNat 4), s102, l103) (FLe.trans hF105 hF117) ⟨rfl, rfl, rfl, trivial⟩ rfl ⟨some_inj H, (hq120.mono (FLe.refl _) (List.nil_sublist _))⟩
   replace H := ite_f hb111 H
   refine Cd.condF rfl hb111 ?_
   refine Cd.skip ?_
   refine At.then ?_
   refine Cd.region ?_
   refine Lst.r (Ev.move rfl) ?_
   refine Lst.r (Ev.fieldAddr (off' := 0) rfl Try.runUnderlying77 rfl Try.sizeOf3 rfl rfl) ?_
   refine Lst.r (Ev.load (i := 0) rfl rfl Try.isAgg3 (v := iv x106.Id) ((Wait.get_Id (Get.here _)).off (by rfl))) ?_
   refine Lst.buildSlice (α := Int) (xs := ([x106.Id] : List Int)) (pv := [(0, iv x106.Id)]) rfl rfl (by decide) ⟨rfl, rfl, trivial⟩ (run_buildSlice (α := Int) (z0 := (0 : Int)) (xs := ([x106.Id] : List Int)) Try.runUnderlying36 Try.sizeOf3 Try.zeroValue3 rfl rfl rfl (by decide) rfl (fill_cons (cs := encs (List.replicate 1 (0 : Int))) (cs' := encs ((List.replicate 1 (0 : Int)).set 0 x106.Id)) (vs := [iv x106.Id]) rfl rfl rfl ((Put.elemN (s := 1) (i := 0) (x := (0 : Int)) (y := x106.Id) rfl rfl (Put.here (vs := [iv x106.Id]) rfl)).off rfl) fill_nil)) rfl rfl (by decide) (fun s121 _ => ?_)
   obtain ⟨u123, h124, H⟩ := bind_some H
   refine Lst.append (i := 2) (α := Int) (xs := l103) (ys := ([x106.Id] : List Int)) rfl rfl (by decide) rfl rfl Try.runUnderlying36 Try.typeInfo3 rfl rfl rfl rfl rfl rfl (Rd.own (i := 0) rfl rfl rfl) rfl (room_some h124) rfl (fun s125 => ?_)
   refine Lst.its (L' := (.own s121 3 1 (encs ([x106.Id] : List Int))) :: (.blk b109 (enc x106) 77) :: (.own s125 3 1 (encs (l103 ++ ([x106.Id] : List Int)))) :: (.own s80 77 4 (encs l81)) :: (.blk b37 (enc ({ Wait.zero with Id := a1, Num_ := a2, Fixed := true } : Wait)) 77) :: (.blk b35 (enc (SkeenR.mk y99 s100)) 59) :: (.own Sl.nil 77 4 (encs ([] : List Wait))) :: (.blk b3 (enc a1) 3) :: (.own Sl.nil 3 1 (encs ([] : List Int))) :: (.blk b8 (enc (SkeenR.mk ({ Skeen.zero with Wait := ([] : List Wait) } : Skeen) Sl.nil)) 59) :: (.own Sl.nil 77 4 (encs ([] : List Wait))) :: (.blk b5 (enc a2) 61) :: (.blk b1 (enc (SkeenR.mk a0 s_a0_2)) 59) :: L) rfl ?_
   refine Lst.r (Ev.assign rfl) ?_
   refine Lst.nil ?_
   refine At.in_normal ?_
   refine At.then ?_
   refine Cd.as (e' := [(6, pv b8 0), (10, pv b35 0), (13, Sl.v s80), (93, Sl.v s80), (94, iv (l81.length : Int)), (95, iv (i98 : Int)), (16, Sl.v s125)]) (L' := (.own s121 3 1 (encs ([x106.Id] : List Int))) :: (.blk b109 (enc x106) 77) :: (.own s125 3 1 (encs (l103 ++ ([x106.Id] : List Int)))) :: (.own s80 77 4 (encs l81)) :: (.blk b37 (enc ({ Wait.zero with Id := a1, Num_ := a2, Fixed := true } : Wait)) 77) :: (.blk b35 (enc (SkeenR.mk y99 s100)) 59) :: (.own Sl.nil 77 4 (encs ([] : List Wait))) :: (.blk b3 (enc a1) 3) :: (.own Sl.nil 3 1 (encs ([] : List Int))) :: (.blk b8 (enc (SkeenR.mk ({ Skeen.zero with Wait := ([] : List Wait) } : Skeen) Sl.nil)) 59) :: (.own Sl.nil 77 4 (encs ([] : List Wait))) :: (.blk b5 (enc a2) 61) :: (.blk b1 (enc (SkeenR.mk a0 s_a0_2)) 59) :: L) ⟨rfl, rfl, rfl, rfl, rfl, rfl, rfl, trivial⟩ rfl ?_
   refine Cd.region ?_
   refine Lst.r (Ev.incr (by omega) rfl rfl) ?_
   refine Lst.r (Ev.move rfl) ?_
   refine Lst.nil ?_
   refine At.less (L' := (.own s125 3 1 (encs (l103 ++ ([x106.Id] : List Int)))) :: (.own s80 77 4 (encs l81)) :: (.blk b37 (enc ({ Wait.zero with Id := a1, Num_ := a2, Fixed := true } : Wait)) 77) :: (.blk b35 (enc (SkeenR.mk y99 s100)) 59) :: (.own Sl.nil 77 4 (encs ([] : List Wait))) :: (.blk b3 (enc a1) 3) :: (.own Sl.nil 3 1 (encs ([] : List Int))) :: (.blk b8 (enc (SkeenR.mk ({ Skeen.zero with Wait := ([] : List Wait) } : Skeen) Sl.nil)) 59) :: (.own Sl.nil 77 4 (encs ([] : List Wait))) :: (.blk b5 (enc a2) 61) :: (.blk b1 (enc (SkeenR.mk a0 s_a0_2)) 59) :: L) (sc1 (sc1 (sk1 (sk1 (sk1 (sk1 (sk1 (sk1 (sk1 (sk1 (sk1 (sk1 (sk1 (.refl _)))))))))))))) ?_
   exact At.meet (i98 + 1, k98, y99, s100, s125, l103 ++ ([x106.Id] : List Int)) hF105 ⟨rfl, rfl, rfl, rfl, rfl, rfl, rfl, trivial⟩ rfl ⟨⟨hgo98 _ (some_inj H).symm, by omega, (f101.mono (FLe.refl _) (.refl _))⟩, Nat.lt_succ_self _⟩
  rintro F127 ⟨y92, s93, s95, l96⟩ hF128 ⟨hy, f94⟩
  subst hy
  refine Cd.as (e' := [(6, pv b8 0), (10, pv b35 0), (16, Sl.v s95)]) (L' := (.own s95 3 1 (encs l96)) :: (.blk b37 (enc ({ Wait.zero with Id := a1, Num_ := a2, Fixed := true } : Wait)) 77) :: (.blk b35 (enc (SkeenR.mk y92 s93)) 59) :: (.own Sl.nil 77 4 (encs ([] : List Wait))) :: (.blk b3 (enc a1) 3) :: (.own Sl.nil 3 1 (encs ([] : List Int))) :: (.blk b8 (enc (SkeenR.mk ({ Skeen.zero with Wait := ([] : List Wait) } : Skeen) Sl.nil)) 59) :: (.own Sl.nil 77 4 (encs ([] : List Wait))) :: (.blk b5 (enc a2) 61) :: (.blk b1 (enc (SkeenR.mk a0 s_a0_2)) 59) :: L) ⟨rfl, rfl, rfl, trivial⟩ rfl ?_
  replace H := HKo97
  refine Cd.seq ?_
  refine Cd.region ?_
  refine Lst.r (Ev.loadA (i := 2) rfl rfl Try.isAgg59 Try.sizeOf59 (ch := enc (SkeenR.mk y92 s93)) (Enc.len _) (Get.here _)) ?_
  refine Lst.r (Ev.move rfl) ?_
  refine Lst.store (i := 6) rfl rfl rfl rfl rfl Try.sizeOf59 (vs := enc (SkeenR.mk y92 s93)) rfl (Enc.len _) (Enc.one _) (cs' := enc (SkeenR.mk y92 s93)) (Put.here ((Enc.len _).trans (Enc.len _).symm)) (L' := (.own s95 3 1 (encs l96)) :: (.blk b37 (enc ({ Wait.zero with Id := a1, Num_ := a2, Fixed := true } : Wait)) 77) :: (.blk b35 (enc (SkeenR.mk y92 s93)) 59) :: (.own Sl.nil 77 4 (encs ([] : List Wait))) :: (.blk b3 (enc a1) 3) :: (.own Sl.nil 3 1 (encs ([] : List Int))) :: (.blk b8 (enc (SkeenR.mk y92 s93)) 59) :: (.own Sl.nil 77 4 (encs ([] : List Wait))) :: (.blk b5 (enc a2) 61) :: (.blk b1 (enc (SkeenR.mk a0 s_a0_2)) 59) :: L) rfl ?_
  refine Lst.r (Ev.assign rfl) ?_
  refine Lst.r (Ev.assign rfl) ?_
  refine Lst.nil ?_
  refine At.then ?_
  obtain rfl := some_inj H
  refine Cd.ret ?_
  exact At.ret3 rfl (Res.cellA (i := 6) rfl rfl Try.isAgg59 Try.sizeOf59 (Enc.len _)) (Res.tmp rfl) (Res.tmp rfl) (FLe.trans (FLe.trans (FLe.trans hF22 hF45) hF90) hF128) (sk1 (sc1 (sc1 (sc1 (sc1 (sc1 (sc1 (sc1 (sc1 (sc1 (.refl _))))))))))) ⟨s93, s95, rfl, rfl, (f94.mono (FLe.refl _) (.refl _))⟩
 have hc40 : decide ((i40 : Int) < (a0.Wait.length : Int)) = true := decide_eq_true (by omega)
 obtain ⟨c40, H, hgo40, hbrk40, hret40⟩ := rangeM_go H
 unfold partref_Fix_B0 at H
 try dsimp only at H
 refine Cd.seq ?_
 refine Cd.region ?_
 refine Lst.r (Ev.lss rfl rfl) ?_
 refine Lst.nil ?_
 refine At.then ?_
 refine Cd.seq ?_
 refine Cd.condT rfl hc40 ?_
 refine Cd.skip ?_
 refine At.then ?_
 refine Cd.seq ?_
 refine Cd.block ?_
 refine Cd.seq ?_
 refine Cd.region ?_
 refine Lst.r (Ev.move rfl) ?_
 obtain ⟨x46, h47, H⟩ := bind_some H
 have g48 := lat_some h47
 refine Lst.r (Ev.indexS (α := Wait) (xs := a0.Wait) rfl rfl Try.runUnderlying57 Try.sizeOf77 rfl (by decide) (hs_a0_2.mono (FLe.trans hF22 hF45) (sc8 (sc2 hM))) g48.1 g48.2.1) ?_
 refine Lst.r (Ev.loadSA (α := Wait) rfl (hs_a0_2.mono (FLe.trans hF22 hF45) (sc8 (sc2 hM))) Try.isAgg77 Try.sizeOf77 (ch := enc x46) (Enc.len _) (by decide) ((Get.elemN (s := 4) (x := x46) rfl g48.2.2 (Get.here _)).off (by omega))) ?_
 refine Lst.alloc (cs := enc Wait.zero) rfl rfl (by decide) Try.zeroValue77 rfl (fun b49 => ?_)
 refine Lst.r (Ev.assign rfl) ?_
 refine Lst.store (i := 0) rfl rfl rfl rfl rfl Try.sizeOf77 (vs := enc x46) rfl (Enc.len _) (Enc.one _) (cs' := enc x46) (Put.here ((Enc.len _).trans (Enc.len _).symm)) (L' := (.blk b49 (enc x46) 77) :: (.own s42 77 4 (encs l43)) :: (.blk b37 (enc ({ Wait.zero with Id := a1, Num_ := a2, Fixed := true } : Wait)) 77) :: (.blk b35 (enc (SkeenR.mk ({ Skeen.zero with Me := a0.Me, Clock := max a0.Clock a2.N } : Skeen) Sl.nil)) 59) :: (.own Sl.nil 77 4 (encs ([] : List Wait))) :: (.blk b3 (enc a1) 3) :: (.own Sl.nil 3 1 (encs ([] : List Int))) :: (.blk b8 (enc (SkeenR.mk ({ Skeen.zero with Wait := ([] : List Wait) } : Skeen) Sl.nil)) 59) :: (.own Sl.nil 77 4 (encs ([] : List Wait))) :: (.blk b5 (enc a2) 61) :: (.blk b1 (enc (SkeenR.mk a0 s_a0_2)) 59) :: L) rfl ?_
 refine Lst.nil ?_
 refine At.then ?_
 refine Cd.seq ?_
 refine Cd.seq ?_
 refine Cd.region ?_
 refine Lst.r (Ev.move rfl) ?_
 refine Lst.r (Ev.move rfl) ?_
 refine Lst.r (Ev.eql rfl rfl) ?_
 refine Lst.nil ?_
 refine At.then ?_
 rcases Bool.eq_false_or_eq_true ((i40 : Int) == r11) with hb51 | hb51
 ·replace H := ite_t hb51 H
  refine Cd.condT rfl hb51 ?_
  refine Cd.exit ?_
  refine At.then_exit ?_
  refine At.in_exit ?_
  refine At.then ?_
  refine Cd.region ?_
  refine Lst.r (Ev.incr (by omega) rfl rfl) ?_
  refine Lst.r (Ev.move rfl) ?_
  refine Lst.nil ?_
  refine At.less (L' := (.own s42 77 4 (encs l43)) :: (.blk b37 (enc ({ Wait.zero with Id := a1, Num_ := a2, Fixed := true } : Wait)) 77) :: (.blk b35 (enc (SkeenR.mk ({ Skeen.zero with Me := a0.Me, Clock := max a0.Clock a2.N } : Skeen) Sl.nil)) 59) :: (.own Sl.nil 77 4 (encs ([] : List Wait))) :: (.blk b3 (enc a1) 3) :: (.own Sl.nil 3 1 (encs ([] : List Int))) :: (.blk b8 (enc (SkeenR.mk ({ Skeen.zero with Wait := ([] : List Wait) } : Skeen) Sl.nil)) 59) :: (.own Sl.nil 77 4 (encs ([] : List Wait))) :: (.blk b5 (enc a2) 61) :: (.blk b1 (enc (SkeenR.mk a0 s_a0_2)) 59) :: L) (sc1 (sk1 (sk1 (sk1 (sk1 (sk1 (sk1 (sk1 (sk1 (sk1 (sk1 (.refl _)))))))))))) ?_
  exact At.meet (i40 + 1, k40, y41, s42, l43) hF45 ⟨rfl, rfl, rfl, rfl, rfl, rfl, rfl, rfl, rfl, rfl, trivial⟩ rfl ⟨⟨hgo40 _ (some_inj H).symm, by omega⟩, Nat.lt_succ_self _⟩
 replace H := ite_f hb51 H
 refine Cd.condF rfl hb51 ?_
 refine Cd.skip ?_
 refine At.then ?_
 refine Cd.seq ?_
 refine Cd.seq ?_
 refine Cd.region ?_
 refine Lst.r (Ev.fieldAddr (off' := 1) rfl Try.runUnderlying77 rfl Try.sizeOf61 rfl rfl) ?_
 refine Lst.r (Ev.loadA (i := 0) rfl rfl Try.isAgg61 Try.sizeOf61 (ch := enc x46.Num_) (Enc.len _) ((Wait.get_Num_ (Get.here _)).off (by rfl))) ?_
 refine Lst.r (Ev.loadA (i := 9) rfl rfl Try.isAgg61 Try.sizeOf61 (ch := enc a2) (Enc.len _) (Get.here _)) ?_
 refine Lst.r (Ev.eqlA rfl rfl (by kernel_rfl) (eq61 _ _)) ?_
 refine Lst.nil ?_
 refine At.then ?_
 rcases Bool.eq_false_or_eq_true (decide (x46.Num_ = a2)) with hb52 | hb52
 ·replace H := ite_t hb52 H
  refine Cd.condT rfl hb52 ?_
  refine Cd.seq ?_
  refine Cd.as (e' := [(6, pv b8 0)]) (L' := (.blk b49 (enc x46) 77) :: (.own s42 77 4 (encs l43)) :: (.blk b37 (enc ({ Wait.zero with Id := a1, Num_ := a2, Fixed := true } : Wait)) 77) :: (.blk b35 (enc (SkeenR.mk ({ Skeen.zero with Me := a0.Me, Clock := max a0.Clock a2.N } : Skeen) Sl.nil)) 59) :: (.own Sl.nil 77 4 (encs ([] : List Wait))) :: (.blk b3 (enc a1) 3) :: (.own Sl.nil 3 1 (encs ([] : List Int))) :: (.blk b8 (enc (SkeenR.mk ({ Skeen.zero with Wait := ([] : List Wait) } : Skeen) Sl.nil)) 59) :: (.own Sl.nil 77 4 (encs ([] : List Wait))) :: (.blk b5 (enc a2) 61) :: (.blk b1 (enc (SkeenR.mk a0 s_a0_2)) 59) :: L) ⟨rfl, trivial⟩ rfl ?_
  refine Cd.region ?_
  refine Lst.r (Ev.build (v := .agg (enc (SkeenR.mk Skeen.zero Sl.nil)).toArray) (pv := []) trivial (fun w => by kernel_rfl)) ?_
  refine Lst.store (i := 7) rfl rfl rfl rfl rfl Try.sizeOf59 (vs := enc (SkeenR.mk Skeen.zero Sl.nil)) rfl (Enc.len _) (Enc.one _) (cs' := enc (SkeenR.mk Skeen.zero Sl.nil)) (Put.here ((Enc.len _).trans (Enc.len _).symm)) (L' := (.blk b49 (enc x46) 77) :: (.own s42 77 4 (encs l43)) :: (.blk b37 (enc ({ Wait.zero with Id := a1, Num_ := a2, Fixed := true } : Wait)) 77) :: (.blk b35 (enc (SkeenR.mk ({ Skeen.zero with Me := a0.Me, Clock := max a0.Clock a2.N } : Skeen) Sl.nil)) 59) :: (.own Sl.nil 77 4 (encs ([] : List Wait))) :: (.blk b3 (enc a1) 3) :: (.own Sl.nil 3 1 (encs ([] : List Int))) :: (.blk b8 (enc (SkeenR.mk Skeen.zero Sl.nil)) 59) :: (.own Sl.nil 77 4 (encs ([] : List Wait))) :: (.blk b5 (enc a2) 61) :: (.blk b1 (enc (SkeenR.mk a0 s_a0_2)) 59) :: L) rfl ?_
  refine Lst.addNil 3 1 ?_
  refine Lst.r (Ev.assign rfl) ?_
  refine Lst.r (Ev.assign rfl) ?_
  refine Lst.nil ?_
  refine At.then ?_
  have H := hret40 _ (some_inj H).symm
  subst H
  replace H := HKl40
  obtain rfl := some_inj H
  refine Cd.ret ?_
  refine At.then_ret ?_
  refine At.in_ret ?_
  refine At.then_ret ?_
  refine At.then_ret ?_
  refine At.in_ret ?_
  refine At.then_ret ?_
  exact At.ret3 rfl (Res.cellA (i := 8) rfl rfl Try.isAgg59 Try.sizeOf59 (Enc.len _)) (Res.tmp rfl) (Res.tmp rfl) (FLe.trans hF22 hF45) (sk1 (sc1 (sc1 (sc1 (sc1 (sc1 (sc1 (sc1 (sc1 (sc1 (sc1 (sc1 (.refl _))))))))))))) ⟨Sl.nil, Sl.nil, rfl, rfl, Rd.nil⟩
 replace H := ite_f hb52 H
 refine Cd.condF rfl hb52 ?_
 refine Cd.skip ?_
 refine At.then ?_
 obtain ⟨o57, H, HKo57⟩ := bind_some H
 refine Cd.join (σ := Bool × Sl × (List Wait)) (fun (y54, s55, l56) => [(5, pv b5 0), (6, pv b8 0), (9, iv r11), (10, pv b35 0), (11, pv b37 0), (12, .bool y54), (13, Sl.v s55), (15, pv b49 0), (55, Sl.v s_a0_2), (56, iv (a0.Wait.length : Int)), (57, iv (i40 : Int))]) (fun (y54, s55, l56) => (.blk b49 (enc x46) 77) :: (.own s55 77 4 (encs l56)) :: (.blk b37 (enc ({ Wait.zero with Id := a1, Num_ := a2, Fixed := true } : Wait)) 77) :: (.blk b35 (enc (SkeenR.mk ({ Skeen.zero with Me := a0.Me, Clock := max a0.Clock a2.N } : Skeen) Sl.nil)) 59) :: (.own Sl.nil 77 4 (encs ([] : List Wait))) :: (.blk b3 (enc a1) 3) :: (.own Sl.nil 3 1 (encs ([] : List Int))) :: (.blk b8 (enc (SkeenR.mk ({ Skeen.zero with Wait := ([] : List Wait) } : Skeen) Sl.nil)) 59) :: (.own Sl.nil 77 4 (encs ([] : List Wait))) :: (.blk b5 (enc a2) 61) :: (.blk b1 (enc (SkeenR.mk a0 s_a0_2)) 59) :: L) (fun _ (y54, s55, l56) => (y54, l56) = o57) ?_ ?_
 ·refine Cd.seq ?_
  refine Cd.region ?_
  refine Lst.r (Ev.move rfl) ?_
  refine Lst.r (Ev.not rfl) ?_
  refine Lst.r (Ev.move rfl) ?_
  obtain ⟨o58, H, HKo58⟩ := bind_some H
  refine Lst.join (σ := Bool) 5 (fun y59 => [(5, pv b5 0), (6, pv b8 0), (9, iv r11), (10, pv b35 0), (11, pv b37 0), (12, .bool y41), (13, Sl.v s42), (15, pv b49 0), (55, Sl.v s_a0_2), (56, iv (a0.Wait.length : Int)), (57, iv (i40 : Int)), (77, .bool y59)]) (fun y59 => (.blk b49 (enc x46) 77) :: (.own s42 77 4 (encs l43)) :: (.blk b37 (enc ({ Wait.zero with Id := a1, Num_ := a2, Fixed := true } : Wait)) 77) :: (.blk b35 (enc (SkeenR.mk ({ Skeen.zero with Me := a0.Me, Clock := max a0.Clock a2.N } : Skeen) Sl.nil)) 59) :: (.own Sl.nil 77 4 (encs ([] : List Wait))) :: (.blk b3 (enc a1) 3) :: (.own Sl.nil 3 1 (encs ([] : List Int))) :: (.blk b8 (enc (SkeenR.mk ({ Skeen.zero with Wait := ([] : List Wait) } : Skeen) Sl.nil)) 59) :: (.own Sl.nil 77 4 (encs ([] : List Wait))) :: (.blk b5 (enc a2) 61) :: (.blk b1 (enc (SkeenR.mk a0 s_a0_2)) 59) :: L) (fun _ y59 => y59 = o58) ?_ ?_
  ·rcases (Bool.eq_false_or_eq_true (!y41)).symm with hb60 | hb60
   ·replace H := ite_f hb60 H
    refine Lst.skip rfl rfl rfl hb60 rfl (by decide) ?_
    refine Lst.skip rfl rfl rfl hb60 rfl (by decide) ?_
    refine Lst.skip rfl rfl rfl hb60 rfl (by decide) ?_
    refine Lst.skip rfl rfl rfl hb60 rfl (by decide) ?_
    refine Lst.r (Ev.pickF rfl hb60 rfl) ?_
    refine Lst.nil ?_
    exact At.meet false (FLe.refl _) ⟨rfl, rfl, rfl, rfl, rfl, rfl, rfl, rfl, rfl, rfl, rfl, rfl, trivial⟩ rfl (some_inj H)
   replace H := ite_t hb60 H
   refine Lst.rG hb60 (Ev.loadA (i := 9) rfl rfl Try.isAgg61 Try.sizeOf61 (ch := enc a2) (Enc.len _) (Get.here _)) ?_
   refine Lst.rG hb60 (Ev.fieldAddr (off' := 1) rfl Try.runUnderlying77 rfl Try.sizeOf61 rfl rfl) ?_
   refine Lst.rG hb60 (Ev.loadA (i := 0) rfl rfl Try.isAgg61 Try.sizeOf61 (ch := enc x46.Num_) (Enc.len _) ((Wait.get_Num_ (Get.here _)).off (by rfl))) ?_
   obtain ⟨r61, h62, H⟩ := bind_some H
   refine Lst.call1G rfl rfl rfl hb60 rfl (by decide) (vs := [.agg (enc a2).toArray, .agg (enc x46.Num_).toArray]) ⟨rfl, rfl, trivial⟩ Try.call38 (partref_Less_sim h62 w0 _ M _ (sc8 (sc2 (sc1 hM)))) ?_
   refine Lst.r (Ev.pickT rfl hb60 rfl) ?_
   refine Lst.nil ?_
   exact At.meet r61 (FLe.refl _) ⟨rfl, rfl, rfl, rfl, rfl, rfl, rfl, rfl, rfl, rfl, rfl, rfl, trivial⟩ rfl (some_inj H)
  rintro F65 y59 hF66 hy
  subst hy
  refine Lst.as (e' := [(5, pv b5 0), (6, pv b8 0), (9, iv r11), (10, pv b35 0), (11, pv b37 0), (12, .bool y41), (13, Sl.v s42), (15, pv b49 0), (55, Sl.v s_a0_2), (56, iv (a0.Wait.length : Int)), (57, iv (i40 : Int)), (77, .bool y59)]) (L' := (.blk b49 (enc x46) 77) :: (.own s42 77 4 (encs l43)) :: (.blk b37 (enc ({ Wait.zero with Id := a1, Num_ := a2, Fixed := true } : Wait)) 77) :: (.blk b35 (enc (SkeenR.mk ({ Skeen.zero with Me := a0.Me, Clock := max a0.Clock a2.N } : Skeen) Sl.nil)) 59) :: (.own Sl.nil 77 4 (encs ([] : List Wait))) :: (.blk b3 (enc a1) 3) :: (.own Sl.nil 3 1 (encs ([] : List Int))) :: (.blk b8 (enc (SkeenR.mk ({ Skeen.zero with Wait := ([] : List Wait) } : Skeen) Sl.nil)) 59) :: (.own Sl.nil 77 4 (encs ([] : List Wait))) :: (.blk b5 (enc a2) 61) :: (.blk b1 (enc (SkeenR.mk a0 s_a0_2)) 59) :: L) ⟨rfl, rfl, rfl, rfl, rfl, rfl, rfl, rfl, rfl, rfl, rfl, rfl, trivial⟩ rfl ?_
  replace H := HKo58
  refine Lst.nil ?_
  refine At.then ?_
  rcases (Bool.eq_false_or_eq_true y59).symm with hb67 | hb67
  ·replace H := ite_f hb67 H
   refine Cd.condF rfl hb67 ?_
   refine Cd.skip ?_
   exact At.meet (y41, s42, l43) hF66 ⟨rfl, rfl, rfl, rfl, rfl, rfl, rfl, rfl, rfl, rfl, rfl, trivial⟩ rfl (some_inj H)
  replace H := ite_t hb67 H
  refine Cd.condT rfl hb67 ?_
  refine Cd.region ?_
  refine Lst.r (Ev.move rfl) ?_
  refine Lst.r (Ev.loadA (i := 2) rfl rfl Try.isAgg77 Try.sizeOf77 (ch := enc ({ Wait.zero with Id := a1, Num_ := a2, Fixed := true } : Wait)) (Enc.len _) (Get.here _)) ?_
  refine Lst.buildSlice (α := Wait) (xs := ([({ Wait.zero with Id := a1, Num_ := a2, Fixed := true } : Wait)] : List Wait)) (pv := [(0, .agg (enc ({ Wait.zero with Id := a1, Num_ := a2, Fixed := true } : Wait)).toArray)]) rfl rfl (by decide) ⟨rfl, rfl, trivial⟩ (run_buildSlice (α := Wait) (z0 := Wait.zero) (xs := ([({ Wait.zero with Id := a1, Num_ := a2, Fixed := true } : Wait)] : List Wait)) Try.runUnderlying57 Try.sizeOf77 Try.zeroValue77 rfl rfl rfl (by decide) rfl (fill_cons (cs := encs (List.replicate 1 Wait.zero)) (cs' := encs ((List.replicate 1 Wait.zero).set 0 ({ Wait.zero with Id := a1, Num_ := a2, Fixed := true } : Wait))) (vs := enc ({ Wait.zero with Id := a1, Num_ := a2, Fixed := true } : Wait)) rfl rfl (Enc.len _) ((Put.elemN (s := 4) (i := 0) (x := Wait.zero) (y := ({ Wait.zero with Id := a1, Num_ := a2, Fixed := true } : Wait)) rfl rfl (Put.here ((Enc.len _).trans (Enc.len _).symm))).off rfl) fill_nil)) rfl rfl (by decide) (fun s68 _ => ?_)
  obtain ⟨u70, h71, H⟩ := bind_some H
  refine Lst.append (i := 2) (α := Wait) (xs := l43) (ys := ([({ Wait.zero with Id := a1, Num_ := a2, Fixed := true } : Wait)] : List Wait)) rfl rfl (by decide) rfl rfl Try.runUnderlying57 Try.typeInfo77 rfl rfl rfl rfl rfl rfl (Rd.own (i := 0) rfl rfl rfl) rfl (room_some h71) rfl (fun s72 => ?_)
  refine Lst.its (L' := (.own s68 77 4 (encs ([({ Wait.zero with Id := a1, Num_ := a2, Fixed := true } : Wait)] : List Wait))) :: (.blk b49 (enc x46) 77) :: (.own s72 77 4 (encs (l43 ++ ([({ Wait.zero with Id := a1, Num_ := a2, Fixed := true } : Wait)] : List Wait)))) :: (.blk b37 (enc ({ Wait.zero with Id := a1, Num_ := a2, Fixed := true } : Wait)) 77) :: (.blk b35 (enc (SkeenR.mk ({ Skeen.zero with Me := a0.Me, Clock := max a0.Clock a2.N } : Skeen) Sl.nil)) 59) :: (.own Sl.nil 77 4 (encs ([] : List Wait))) :: (.blk b3 (enc a1) 3) :: (.own Sl.nil 3 1 (encs ([] : List Int))) :: (.blk b8 (enc (SkeenR.mk ({ Skeen.zero with Wait := ([] : List Wait) } : Skeen) Sl.nil)) 59) :: (.own Sl.nil 77 4 (encs ([] : List Wait))) :: (.blk b5 (enc a2) 61) :: (.blk b1 (enc (SkeenR.mk a0 s_a0_2)) 59) :: L) rfl ?_
  refine Lst.r (Ev.assign rfl) ?_
  refine Lst.r (Ev.assign rfl) ?_
  refine Lst.nil ?_
  refine At.less (L' := (.blk b49 (enc x46) 77) :: (.own s72 77 4 (encs (l43 ++ ([({ Wait.zero with Id := a1, Num_ := a2, Fixed := true } : Wait)] : List Wait)))) :: (.blk b37 (enc ({ Wait.zero with Id := a1, Num_ := a2, Fixed := true } : Wait)) 77) :: (.blk b35 (enc (SkeenR.mk ({ Skeen.zero with Me := a0.Me, Clock := max a0.Clock a2.N } : Skeen) Sl.nil)) 59) :: (.own Sl.nil 77 4 (encs ([] : List Wait))) :: (.blk b3 (enc a1) 3) :: (.own Sl.nil 3 1 (encs ([] : List Int))) :: (.blk b8 (enc (SkeenR.mk ({ Skeen.zero with Wait := ([] : List Wait) } : Skeen) Sl.nil)) 59) :: (.own Sl.nil 77 4 (encs ([] : List Wait))) :: (.blk b5 (enc a2) 61) :: (.blk b1 (enc (SkeenR.mk a0 s_a0_2)) 59) :: L) (sc1 (sk1 (sk1 (sk1 (sk1 (sk1 (sk1 (sk1 (sk1 (sk1 (sk1 (sk1 (.refl _))))))))))))) ?_
  exact At.meet (true, s72, l43 ++ ([({ Wait.zero with Id := a1, Num_ := a2, Fixed := true } : Wait)] : List Wait)) hF66 ⟨rfl, rfl, rfl, rfl, rfl, rfl, rfl, rfl, rfl, rfl, rfl, trivial⟩ rfl (some_inj H)
 rintro F73 ⟨y54, s55, l56⟩ hF74 hy
 subst hy
 refine Cd.as (e' := [(5, pv b5 0), (6, pv b8 0), (9, iv r11), (10, pv b35 0), (11, pv b37 0), (12, .bool y54), (13, Sl.v s55), (15, pv b49 0), (55, Sl.v s_a0_2), (56, iv (a0.Wait.length : Int)), (57, iv (i40 : Int))]) (L' := (.blk b49 (enc x46) 77) :: (.own s55 77 4 (encs l56)) :: (.blk b37 (enc ({ Wait.zero with Id := a1, Num_ := a2, Fixed := true } : Wait)) 77) :: (.blk b35 (enc (SkeenR.mk ({ Skeen.zero with Me := a0.Me, Clock := max a0.Clock a2.N } : Skeen) Sl.nil)) 59) :: (.own Sl.nil 77 4 (encs ([] : List Wait))) :: (.blk b3 (enc a1) 3) :: (.own Sl.nil 3 1 (encs ([] : List Int))) :: (.blk b8 (enc (SkeenR.mk ({ Skeen.zero with Wait := ([] : List Wait) } : Skeen) Sl.nil)) 59) :: (.own Sl.nil 77 4 (encs ([] : List Wait))) :: (.blk b5 (enc a2) 61) :: (.blk b1 (enc (SkeenR.mk a0 s_a0_2)) 59) :: L) ⟨rfl, rfl, rfl, rfl, rfl, rfl, rfl, rfl, rfl, rfl, rfl, trivial⟩ rfl ?_
 replace H := HKo57
 refine Cd.region ?_
 refine Lst.r (Ev.move rfl) ?_
 refine Lst.r (Ev.loadA (i := 0) rfl rfl Try.isAgg77 Try.sizeOf77 (ch := enc x46) (Enc.len _) (Get.here _)) ?_
 refine Lst.buildSlice (α := Wait) (xs := ([x46] : List Wait)) (pv := [(0, .agg (enc x46).toArray)]) rfl rfl (by decide) ⟨rfl, rfl, trivial⟩ (run_buildSlice (α := Wait) (z0 := Wait.zero) (xs := ([x46] : List Wait)) Try.runUnderlying57 Try.sizeOf77 Try.zeroValue77 rfl rfl rfl (by decide) rfl (fill_cons (cs := encs (List.replicate 1 Wait.zero)) (cs' := encs ((List.replicate 1 Wait.zero).set 0 x46)) (vs := enc x46) rfl rfl (Enc.len _) ((Put.elemN (s := 4) (i := 0) (x := Wait.zero) (y := x46) rfl rfl (Put.here ((Enc.len _).trans (Enc.len _).symm))).off rfl) fill_nil)) rfl rfl (by decide) (fun s75 _ => ?_)
 obtain ⟨u77, h78, H⟩ := bind_some H
 refine Lst.append (i := 2) (α := Wait) (xs := l56) (ys := ([x46] : List Wait)) rfl rfl (by decide) rfl rfl Try.runUnderlying57 Try.typeInfo77 rfl rfl rfl rfl rfl rfl (Rd.own (i := 0) rfl rfl rfl) rfl (room_some h78) rfl (fun s79 => ?_)
 refine Lst.its (L' := (.own s75 77 4 (encs ([x46] : List Wait))) :: (.blk b49 (enc x46) 77) :: (.own s79 77 4 (encs (l56 ++ ([x46] : List Wait)))) :: (.blk b37 (enc ({ Wait.zero with Id := a1, Num_ := a2, Fixed := true } : Wait)) 77) :: (.blk b35 (enc (SkeenR.mk ({ Skeen.zero with Me := a0.Me, Clock := max a0.Clock a2.N } : Skeen) Sl.nil)) 59) :: (.own Sl.nil 77 4 (encs ([] : List Wait))) :: (.blk b3 (enc a1) 3) :: (.own Sl.nil 3 1 (encs ([] : List Int))) :: (.blk b8 (enc (SkeenR.mk ({ Skeen.zero with Wait := ([] : List Wait) } : Skeen) Sl.nil)) 59) :: (.own Sl.nil 77 4 (encs ([] : List Wait))) :: (.blk b5 (enc a2) 61) :: (.blk b1 (enc (SkeenR.mk a0 s_a0_2)) 59) :: L) rfl ?_
 refine Lst.r (Ev.assign rfl) ?_
 refine Lst.nil ?_
 refine At.in_normal ?_
 refine At.then ?_
 refine Cd.region ?_
 refine Lst.r (Ev.incr (by omega) rfl rfl) ?_
 refine Lst.r (Ev.move rfl) ?_
 refine Lst.nil ?_
 refine At.less (L' := (.own s79 77 4 (encs (l56 ++ ([x46] : List Wait)))) :: (.blk b37 (enc ({ Wait.zero with Id := a1, Num_ := a2, Fixed := true } : Wait)) 77) :: (.blk b35 (enc (SkeenR.mk ({ Skeen.zero with Me := a0.Me, Clock := max a0.Clock a2.N } : Skeen) Sl.nil)) 59) :: (.own Sl.nil 77 4 (encs ([] : List Wait))) :: (.blk b3 (enc a1) 3) :: (.own Sl.nil 3 1 (encs ([] : List Int))) :: (.blk b8 (enc (SkeenR.mk ({ Skeen.zero with Wait := ([] : List Wait) } : Skeen) Sl.nil)) 59) :: (.own Sl.nil 77 4 (encs ([] : List Wait))) :: (.blk b5 (enc a2) 61) :: (.blk b1 (enc (SkeenR.mk a0 s_a0_2)) 59) :: L) (sc1 (sc1 (sk1 (sk1 (sk1 (sk1 (sk1 (sk1 (sk1 (sk1 (sk1 (sk1 (.refl _))))))))))))) ?_
 exact At.meet (i40 + 1, k40, y54, s79, l56 ++ ([x46] : List Wait)) (FLe.trans hF45 hF74) ⟨rfl, rfl, rfl, rfl, rfl, rfl, rfl, rfl, rfl, rfl, trivial⟩ rfl ⟨⟨hgo40 _ (some_inj H).symm, by omega⟩, Nat.lt_succ_self _⟩
set_option maxRecDepth 20000 in
theorem slices_Equal_int_int_sim {a0 : List Int} {a1 : List Int} {s_a0 : Sl} {s_a1 : Sl} {r : Bool} (H : slices_Equal_int_int a0 a1 = some r) (w0 : World) (F : Frz) (M L : List Item) (hM : M.Sublist L) (hs_a0 : Rd w0 F M s_a0 a0) (hs_a1 : Rd w0 F M s_a1 a1) : Ok Try.prog w0 44 [Sl.v s_a0, Sl.v s_a1] F (L) (Is (.bool r) (L)) := by
 unfold slices_Equal_int_int at H
 refine Ok.enter (m := 2) (n := 26) Try.func44 rfl rfl rfl (by decide) ?_
 refine Cd.env (e' := [(0, Sl.v s_a0), (1, Sl.v s_a1)]) rfl ?_
 refine Cd.seq ?_
 refine Cd.region ?_
 refine Lst.r (Ev.assign rfl) ?_
 refine Lst.nil ?_
 refine At.then ?_
 refine Cd.seq ?_
 refine Cd.seq ?_
 refine Cd.region ?_
 refine Lst.r (Ev.move rfl) ?_
 refine Lst.r (Ev.lenS (α := Int) (xs := a0) (by decide) rfl rfl Try.runUnderlying36 (hs_a0.mono (FLe.refl _) hM)) ?_
 refine Lst.r (Ev.move rfl) ?_
 refine Lst.r (Ev.lenS (α := Int) (xs := a1) (by decide) rfl rfl Try.runUnderlying36 (hs_a1.mono (FLe.refl _) hM)) ?_
 refine Lst.r (Ev.neq rfl rfl) ?_
 refine Lst.nil ?_
 refine At.then ?_
 rcases Bool.eq_false_or_eq_true ((a0.length : Int) != (a1.length : Int)) with hb1 | hb1
 ·replace H := ite_t hb1 H
  refine Cd.condT rfl hb1 ?_
  refine Cd.seq ?_
  refine Cd.region ?_
  refine Lst.r (Ev.assign rfl) ?_
  refine Lst.nil ?_
  refine At.then ?_
  obtain rfl := some_inj H
  refine Cd.ret ?_
  refine At.then_ret ?_
  exact At.ret1 rfl (Res.tmp rfl) (FLe.refl _) (.refl _) ⟨rfl, rfl⟩
 replace H := ite_f hb1 H
 refine Cd.condF rfl hb1 ?_
 refine Cd.skip ?_
 refine At.then ?_
 refine Cd.seq ?_
 refine Cd.seq ?_
 refine Cd.region ?_
 refine Lst.r (Ev.move rfl) ?_
 refine Lst.r (Ev.lenS (α := Int) (xs := a0) (by decide) rfl rfl Try.runUnderlying36 (hs_a0.mono (FLe.refl _) hM)) ?_
 refine Lst.r (Ev.move rfl) ?_
 refine Lst.nil ?_
 refine At.then ?_
 refine Cd.block ?_
 refine Cd.bound (Rd.le (α := Int) (xs := a0) (by decide) (hs_a0.mono (FLe.refl _) hM)) (fun hN12 => ?_)
 obtain ⟨ol2, H, HKl2⟩ := andThen_some H
 refine Cd.loop (σ := Nat × Nat × Unit) (fun (i2, k2, _u) => [(0, Sl.v s_a0), (1, Sl.v s_a1), (12, iv (a0.length : Int)), (13, iv (i2 : Int))]) (fun (i2, k2, _u) => L) (fun _ => (fun (i2, k2, _u) => rangeM (slices_Equal_int_int_B0 a0 a1) k2 i2 () = some ol2 ∧ i2 + k2 = a0.length)) (fun (i2, k2, _u) => k2) (0, a0.length, ()) ⟨rfl, rfl, rfl, rfl, trivial⟩ rfl ⟨H, by omega⟩ ?_
 rintro F3 ⟨i2, k2, _u⟩ hF4 ⟨H, hik2⟩
 refine Cd.as (e' := [(0, Sl.v s_a0), (1, Sl.v s_a1), (12, iv (a0.length : Int)), (13, iv (i2 : Int))]) (L' := L) ⟨rfl, rfl, rfl, rfl, trivial⟩ rfl ?_
 rcases k2 with _ | k2
 ·have hc2 : decide ((i2 : Int) < (a0.length : Int)) = false := decide_eq_false (by omega)
  replace H := rangeM_end H
  refine Cd.seq ?_
  refine Cd.region ?_
  refine Lst.r (Ev.lss rfl rfl) ?_
  refine Lst.nil ?_
  refine At.then ?_
  refine Cd.seq ?_
  refine Cd.condF rfl hc2 ?_
  refine Cd.exit ?_
  refine At.then_exit ?_
  refine At.then_exit ?_
  refine At.in_exit ?_
  subst H
  replace H := HKl2
  refine At.then ?_
  refine Cd.seq ?_
  refine Cd.region ?_
  refine Lst.r (Ev.assign rfl) ?_
  refine Lst.nil ?_
  refine At.then ?_
  obtain rfl := some_inj H
  refine Cd.ret ?_
  exact At.ret1 rfl (Res.tmp rfl) hF4 (.refl _) ⟨rfl, rfl⟩
 have hc2 : decide ((i2 : Int) < (a0.length : Int)) = true := decide_eq_true (by omega)
 obtain ⟨c2, H, hgo2, hbrk2, hret2⟩ := rangeM_go H
 unfold slices_Equal_int_int_B0 at H
 try dsimp only at H
 refine Cd.seq ?_
 refine Cd.region ?_
 refine Lst.r (Ev.lss rfl rfl) ?_
 refine Lst.nil ?_
 refine At.then ?_
 refine Cd.seq ?_
 refine Cd.condT rfl hc2 ?_
 refine Cd.skip ?_
 refine At.then ?_
 refine Cd.seq ?_
 refine Cd.block ?_
 refine Cd.seq ?_
 refine Cd.region ?_
 refine Lst.r (Ev.move rfl) ?_
 refine Lst.r (Ev.assign rfl) ?_
 refine Lst.nil ?_
 refine At.then ?_
 refine Cd.seq ?_
 refine Cd.quiet (by kernel_rfl) (by kernel_rfl) ?_
 refine Qt.r (Ev.move rfl) ?_
 refine Qt.r (Ev.move rfl) ?_
 obtain ⟨x5, h6, H⟩ := bind_some H
 have g7 := lat_some h6
 refine Qt.r (Ev.indexS (α := Int) (xs := a0) rfl rfl Try.runUnderlying36 Try.sizeOf3 rfl (by decide) (hs_a0.mono hF4 hM) g7.1 g7.2.1) ?_
 refine Qt.r (Ev.loadS (α := Int) rfl (hs_a0.mono hF4 hM) Try.isAgg3 (v := iv x5) ((Get.elemN (s := 1) (x := x5) rfl g7.2.2 (Get.here _)).off (by omega))) ?_
 refine Qt.r (Ev.move rfl) ?_
 refine Qt.r (Ev.move rfl) ?_
 obtain ⟨x8, h9, H⟩ := bind_some H
 have g10 := lat_some h9
 refine Qt.r (Ev.indexS (α := Int) (xs := a1) rfl rfl Try.runUnderlying36 Try.sizeOf3 rfl (by decide) (hs_a1.mono hF4 hM) g10.1 g10.2.1) ?_
 refine Qt.r (Ev.loadS (α := Int) rfl (hs_a1.mono hF4 hM) Try.isAgg3 (v := iv x8) ((Get.elemN (s := 1) (x := x8) rfl g10.2.2 (Get.here _)).off (by omega))) ?_
 refine Qt.r (Ev.neq rfl rfl) ?_
 refine Qt.done ?_
 refine At.then ?_
 rcases Bool.eq_false_or_eq_true (x5 != x8) with hb11 | hb11
 ·replace H := ite_t hb11 H
  refine Cd.condT rfl hb11 ?_
  refine Cd.seq ?_
  refine Cd.as (e' := []) (L' := L) trivial rfl ?_
  refine Cd.region ?_
  refine Lst.r (Ev.assign rfl) ?_
  refine Lst.nil ?_
  refine At.then ?_
  have H := hret2 _ (some_inj H).symm
  subst H
  replace H := HKl2
  obtain rfl := some_inj H
  refine Cd.ret ?_
  refine At.in_ret ?_
  refine At.then_ret ?_
  refine At.then_ret ?_
  refine At.in_ret ?_
  refine At.then_ret ?_
  exact At.ret1 rfl (Res.tmp rfl) hF4 (.refl _) ⟨rfl, rfl⟩
 replace H := ite_f hb11 H
 refine Cd.condF rfl hb11 ?_
 refine Cd.skip ?_
 refine At.in_normal ?_
 refine At.then ?_
 refine Cd.region ?_
 refine Lst.r (Ev.incr (by omega) rfl rfl) ?_
 refine Lst.r (Ev.move rfl) ?_
 refine Lst.nil ?_
 exact At.meet (i2 + 1, k2, ()) hF4 ⟨rfl, rfl, rfl, rfl, trivial⟩ rfl ⟨⟨hgo2 _ (some_inj H).symm, by omega⟩, Nat.lt_succ_self _⟩
set_option maxHeartbeats 2000000 in
set_option maxRecDepth 20000 in
theorem partlaw_SkeenSays_sim {fu : Nat} {a0 : Skeen} {a1 : Int} {a2 : Num} {a3 : List Num} {s_a0_2 : Sl} {s_a3 : Sl} {r : Bool} (H : partlaw_SkeenSays fu a0 a1 a2 a3 = some r) (w0 : World) (F : Frz) (M L : List Item) (hM : M.Sublist L) (hs_a0_2 : Rd w0 F M s_a0_2 a0.Wait) (hs_a3 : Rd w0 F M s_a3 a3) : Ok Try.prog w0 6 [.agg (enc (SkeenR.mk a0 s_a0_2)).toArray, iv a1, .agg (enc a2).toArray, Sl.v s_a3] F (L) (Is (.bool r) (L)) := by
 unfold partlaw_SkeenSays at H
 refine Ok.enter (m := 4) (n := 213) Try.func6 rfl rfl rfl (by decide) ?_
 refine Cd.env (e' := [(0, .agg (enc (SkeenR.mk a0 s_a0_2)).toArray), (1, iv a1), (2, .agg (enc a2).toArray), (3, Sl.v s_a3)]) rfl ?_
 refine Cd.seq ?_
 refine Cd.region ?_
 refine Lst.box rfl rfl (by decide) rfl (cs := enc (SkeenR.mk a0 s_a0_2)) rfl (fun b1 => ?_)
 refine Lst.box rfl rfl (by decide) rfl (cs := enc a1) rfl (fun b3 => ?_)
 refine Lst.box rfl rfl (by decide) rfl (cs := enc a2) rfl (fun b5 => ?_)
 refine Lst.r (Ev.assign rfl) ?_
 refine Lst.nil ?_
 refine At.then ?_
 refine Cd.seq ?_
 refine Cd.region ?_
 refine Lst.r (Ev.loadA (i := 2) rfl rfl Try.isAgg59 Try.sizeOf59 (ch := enc (SkeenR.mk a0 s_a0_2)) (Enc.len _) (Get.here _)) ?_
 obtain ⟨r7, h8, H⟩ := bind_some H
 refine Lst.call1 rfl rfl (by decide) (vs := [.agg (enc (SkeenR.mk a0 s_a0_2)).toArray]) ⟨rfl, trivial⟩ Try.call30 (partref_SkeenErr_sim h8 w0 _ M _ (sc2 (sc1 hM)) (hs_a0_2.mono (FLe.refl _) (.refl _))) ?_
 refine Lst.r (Ev.assign rfl) ?_
 refine Lst.nil ?_
 refine At.then ?_
 refine Cd.seq ?_
 refine Cd.region ?_
 refine Lst.r (Ev.loadA (i := 2) rfl rfl Try.isAgg59 Try.sizeOf59 (ch := enc (SkeenR.mk a0 s_a0_2)) (Enc.len _) (Get.here _)) ?_
 refine Lst.r (Ev.load (i := 1) rfl rfl Try.isAgg3 (v := iv a1) (Get.here _)) ?_
 obtain ⟨r11, h12, H⟩ := bind_some H
 refine Lst.call rfl rfl (by decide) (vs := [.agg (enc (SkeenR.mk a0 s_a0_2)).toArray, iv a1]) ⟨rfl, rfl, trivial⟩ Try.call31 (skeen_Offer_sim h12 w0 _ M _ (sc2 (sc1 hM)) (hs_a0_2.mono (FLe.refl _) (.refl _))) (fun F15 L' v hF16 hv => ?_)
 obtain ⟨s13, rfl, rfl⟩ := hv
 refine Lst.r (Ev.move rfl) ?_
 refine Lst.r (Ev.extract rfl rfl) ?_
 refine Lst.r (Ev.extract rfl rfl) ?_
 refine Lst.r (Ev.extract rfl rfl) ?_
 refine Lst.addNil 77 4 ?_
 refine Lst.alloc (cs := enc (SkeenR.mk ({ Skeen.zero with Wait := ([] : List Wait) } : Skeen) Sl.nil)) rfl rfl (by decide) Try.zeroValue59 rfl (fun b18 => ?_)
 refine Lst.alloc (cs := enc Num.zero) rfl rfl (by decide) Try.zeroValue61 rfl (fun b20 => ?_)
 refine Lst.store (i := 1) rfl rfl rfl rfl rfl Try.sizeOf59 (vs := enc (SkeenR.mk r11.1 s13)) rfl (Enc.len _) (Enc.one _) (cs' := enc (SkeenR.mk r11.1 s13)) (Put.here ((Enc.len _).trans (Enc.len _).symm)) (L' := (.blk b20 (enc Num.zero) 61) :: (.blk b18 (enc (SkeenR.mk r11.1 s13)) 59) :: (.own Sl.nil 77 4 (encs ([] : List Wait))) :: (.own s13 77 4 (encs r11.1.Wait)) :: (.blk b5 (enc a2) 61) :: (.blk b3 (enc a1) 3) :: (.blk b1 (enc (SkeenR.mk a0 s_a0_2)) 59) :: L) rfl ?_
 refine Lst.store (i := 0) rfl rfl rfl rfl rfl Try.sizeOf61 (vs := enc r11.2.1) rfl (Enc.len _) (Enc.one _) (cs' := enc r11.2.1) (Put.here ((Enc.len _).trans (Enc.len _).symm)) (L' := (.blk b20 (enc r11.2.1) 61) :: (.blk b18 (enc (SkeenR.mk r11.1 s13)) 59) :: (.own Sl.nil 77 4 (encs ([] : List Wait))) :: (.own s13 77 4 (encs r11.1.Wait)) :: (.blk b5 (enc a2) 61) :: (.blk b3 (enc a1) 3) :: (.blk b1 (enc (SkeenR.mk a0 s_a0_2)) 59) :: L) rfl ?_
 refine Lst.r (Ev.assign rfl) ?_
 refine Lst.nil ?_
 refine At.then ?_
 refine Cd.seq ?_
 refine Cd.region ?_
 refine Lst.r (Ev.loadA (i := 6) rfl rfl Try.isAgg59 Try.sizeOf59 (ch := enc (SkeenR.mk a0 s_a0_2)) (Enc.len _) (Get.here _)) ?_
 refine Lst.r (Ev.load (i := 5) rfl rfl Try.isAgg3 (v := iv a1) (Get.here _)) ?_
 refine Lst.r (Ev.loadA (i := 4) rfl rfl Try.isAgg61 Try.sizeOf61 (ch := enc a2) (Enc.len _) (Get.here _)) ?_
 obtain ⟨r22, h23, H⟩ := bind_some H
 refine Lst.call rfl rfl (by decide) (vs := [.agg (enc (SkeenR.mk a0 s_a0_2)).toArray, iv a1, .agg (enc a2).toArray]) ⟨rfl, rfl, rfl, trivial⟩ Try.call32 (skeen_Fix_sim h23 w0 _ M _ (sc4 (sc2 (sc1 hM))) (hs_a0_2.mono hF16 (.refl _))) (fun F28 L' v hF29 hv => ?_)
 obtain ⟨s24, s26, rfl, rfl⟩ := hv
 refine Lst.r (Ev.move rfl) ?_
 refine Lst.r (Ev.extract rfl rfl) ?_
 refine Lst.r (Ev.extract rfl rfl) ?_
 refine Lst.r (Ev.extract rfl rfl) ?_
 refine Lst.addNil 77 4 ?_
 refine Lst.alloc (cs := enc (SkeenR.mk ({ Skeen.zero with Wait := ([] : List Wait) } : Skeen) Sl.nil)) rfl rfl (by decide) Try.zeroValue59 rfl (fun b31 => ?_)
 refine Lst.store (i := 0) rfl rfl rfl rfl rfl Try.sizeOf59 (vs := enc (SkeenR.mk r22.1 s24)) rfl (Enc.len _) (Enc.one _) (cs' := enc (SkeenR.mk r22.1 s24)) (Put.here ((Enc.len _).trans (Enc.len _).symm)) (L' := (.blk b31 (enc (SkeenR.mk r22.1 s24)) 59) :: (.own Sl.nil 77 4 (encs ([] : List Wait))) :: (.own s24 77 4 (encs r22.1.Wait)) :: (.own s26 3 1 (encs r22.2.1)) :: (.blk b20 (enc r11.2.1) 61) :: (.blk b18 (enc (SkeenR.mk r11.1 s13)) 59) :: (.own Sl.nil 77 4 (encs ([] : List Wait))) :: (.own s13 77 4 (encs r11.1.Wait)) :: (.blk b5 (enc a2) 61) :: (.blk b3 (enc a1) 3) :: (.blk b1 (enc (SkeenR.mk a0 s_a0_2)) 59) :: L) rfl ?_
 refine Lst.r (Ev.assign rfl) ?_
 refine Lst.r (Ev.assign rfl) ?_
 refine Lst.nil ?_
 refine At.then ?_
 refine Cd.seq ?_
 refine Cd.as (e' := [(3, Sl.v s_a3), (4, pv b1 0), (5, pv b3 0), (6, pv b5 0), (9, iv r7), (10, pv b18 0), (11, pv b20 0), (12, iv r11.2.2), (13, pv b31 0), (14, Sl.v s26), (15, iv r22.2.2)]) (L' := (.blk b31 (enc (SkeenR.mk r22.1 s24)) 59) :: (.own Sl.nil 77 4 (encs ([] : List Wait))) :: (.own s24 77 4 (encs r22.1.Wait)) :: (.own s26 3 1 (encs r22.2.1)) :: (.blk b20 (enc r11.2.1) 61) :: (.blk b18 (enc (SkeenR.mk r11.1 s13)) 59) :: (.own Sl.nil 77 4 (encs ([] : List Wait))) :: (.own s13 77 4 (encs r11.1.Wait)) :: (.blk b5 (enc a2) 61) :: (.blk b3 (enc a1) 3) :: (.blk b1 (enc (SkeenR.mk a0 s_a0_2)) 59) :: L) ⟨rfl, rfl, rfl, rfl, rfl, rfl, rfl, rfl, rfl, rfl, rfl, trivial⟩ rfl ?_
 refine Cd.region ?_
 refine Lst.r (Ev.move rfl) ?_
 obtain ⟨r33, h34, H⟩ := bind_some H
 refine Lst.call1 rfl rfl (by decide) (vs := [Sl.v s_a3]) ⟨rfl, trivial⟩ Try.call33 (skeen_Most_sim h34 w0 _ M _ (sc8 (sc2 (sc1 hM))) (hs_a3.mono (FLe.trans hF16 hF29) (.refl _))) ?_
 refine Lst.r (Ev.move rfl) ?_
 refine Lst.r (Ev.extract rfl rfl) ?_
 refine Lst.r (Ev.extract rfl rfl) ?_
 refine Lst.alloc (cs := enc Num.zero) rfl rfl (by decide) Try.zeroValue61 rfl (fun b37 => ?_)
 refine Lst.store (i := 0) rfl rfl rfl rfl rfl Try.sizeOf61 (vs := enc r33.1) rfl (Enc.len _) (Enc.one _) (cs' := enc r33.1) (Put.here ((Enc.len _).trans (Enc.len _).symm)) (L' := (.blk b37 (enc r33.1) 61) :: (.blk b31 (enc (SkeenR.mk r22.1 s24)) 59) :: (.own Sl.nil 77 4 (encs ([] : List Wait))) :: (.own s24 77 4 (encs r22.1.Wait)) :: (.own s26 3 1 (encs r22.2.1)) :: (.blk b20 (enc r11.2.1) 61) :: (.blk b18 (enc (SkeenR.mk r11.1 s13)) 59) :: (.own Sl.nil 77 4 (encs ([] : List Wait))) :: (.own s13 77 4 (encs r11.1.Wait)) :: (.blk b5 (enc a2) 61) :: (.blk b3 (enc a1) 3) :: (.blk b1 (enc (SkeenR.mk a0 s_a0_2)) 59) :: L) rfl ?_
 refine Lst.r (Ev.assign rfl) ?_
 refine Lst.nil ?_
 refine At.then ?_
 refine Cd.seq ?_
 refine Cd.region ?_
 refine Lst.r (Ev.build (v := .agg (enc (SkeenR.mk Skeen.zero Sl.nil)).toArray) (pv := []) trivial (fun w => by kernel_rfl)) ?_
 refine Lst.addNil 77 4 ?_
 refine Lst.alloc (cs := enc (SkeenR.mk ({ Skeen.zero with Wait := ([] : List Wait) } : Skeen) Sl.nil)) rfl rfl (by decide) Try.zeroValue59 rfl (fun b40 => ?_)
 refine Lst.store (i := 0) rfl rfl rfl rfl rfl Try.sizeOf59 (vs := enc (SkeenR.mk Skeen.zero Sl.nil)) rfl (Enc.len _) (Enc.one _) (cs' := enc (SkeenR.mk Skeen.zero Sl.nil)) (Put.here ((Enc.len _).trans (Enc.len _).symm)) (L' := (.blk b40 (enc (SkeenR.mk Skeen.zero Sl.nil)) 59) :: (.own Sl.nil 77 4 (encs ([] : List Wait))) :: (.blk b37 (enc r33.1) 61) :: (.blk b31 (enc (SkeenR.mk r22.1 s24)) 59) :: (.own Sl.nil 77 4 (encs ([] : List Wait))) :: (.own s24 77 4 (encs r22.1.Wait)) :: (.own s26 3 1 (encs r22.2.1)) :: (.blk b20 (enc r11.2.1) 61) :: (.blk b18 (enc (SkeenR.mk r11.1 s13)) 59) :: (.own Sl.nil 77 4 (encs ([] : List Wait))) :: (.own s13 77 4 (encs r11.1.Wait)) :: (.blk b5 (enc a2) 61) :: (.blk b3 (enc a1) 3) :: (.blk b1 (enc (SkeenR.mk a0 s_a0_2)) 59) :: L) rfl ?_
 refine Lst.nil ?_
 refine At.then ?_
 refine Cd.seq ?_
 refine Cd.seq ?_
 refine Cd.region ?_
 refine Lst.r (Ev.loadA (i := 13) rfl rfl Try.isAgg59 Try.sizeOf59 (ch := enc (SkeenR.mk a0 s_a0_2)) (Enc.len _) (Get.here _)) ?_
 obtain ⟨r42, h43, H⟩ := bind_some H
 refine Lst.call1 rfl rfl (by decide) (vs := [.agg (enc (SkeenR.mk a0 s_a0_2)).toArray]) ⟨rfl, trivial⟩ Try.call34 (skeen_Check_sim h43 w0 _ M _ (sc8 (sc4 (sc2 hM))) (hs_a0_2.mono (FLe.trans hF16 hF29) (.refl _))) ?_
 refine Lst.r (Ev.move rfl) ?_
 refine Lst.r (Ev.neq rfl rfl) ?_
 refine Lst.nil ?_
 refine At.then ?_
 rcases Bool.eq_false_or_eq_true (r42 != r7) with hb46 | hb46
 ·replace H := ite_t hb46 H
  refine Cd.condT rfl hb46 ?_
  refine Cd.seq ?_
  refine Cd.as (e' := []) (L' := (.blk b40 (enc (SkeenR.mk Skeen.zero Sl.nil)) 59) :: (.own Sl.nil 77 4 (encs ([] : List Wait))) :: (.blk b37 (enc r33.1) 61) :: (.blk b31 (enc (SkeenR.mk r22.1 s24)) 59) :: (.own Sl.nil 77 4 (encs ([] : List Wait))) :: (.own s24 77 4 (encs r22.1.Wait)) :: (.own s26 3 1 (encs r22.2.1)) :: (.blk b20 (enc r11.2.1) 61) :: (.blk b18 (enc (SkeenR.mk r11.1 s13)) 59) :: (.own Sl.nil 77 4 (encs ([] : List Wait))) :: (.own s13 77 4 (encs r11.1.Wait)) :: (.blk b5 (enc a2) 61) :: (.blk b3 (enc a1) 3) :: (.blk b1 (enc (SkeenR.mk a0 s_a0_2)) 59) :: L) trivial rfl ?_
  refine Cd.region ?_
  refine Lst.r (Ev.assign rfl) ?_
  refine Lst.nil ?_
  refine At.then ?_
  obtain rfl := some_inj H
  refine Cd.ret ?_
  refine At.then_ret ?_
  exact At.ret1 rfl (Res.tmp rfl) (FLe.trans hF16 hF29) (sc1 (sc1 (sc1 (sc1 (sc1 (sc1 (sc1 (sc1 (sc1 (sc1 (sc1 (sc1 (sc1 (sc1 (.refl _))))))))))))))) ⟨rfl, rfl⟩
 replace H := ite_f hb46 H
 refine Cd.condF rfl hb46 ?_
 refine Cd.skip ?_
 refine At.then ?_
 obtain ⟨o47, H, HKo47⟩ := andThen_some H
 refine Cd.join (σ := Unit) (fun (_ : Unit) => [(4, pv b1 0), (5, pv b3 0), (6, pv b5 0), (9, iv r7), (10, pv b18 0), (11, pv b20 0), (12, iv r11.2.2), (13, pv b31 0), (14, Sl.v s26), (15, iv r22.2.2), (18, pv b40 0)]) (fun (_ : Unit) => (.blk b40 (enc (SkeenR.mk Skeen.zero Sl.nil)) 59) :: (.own Sl.nil 77 4 (encs ([] : List Wait))) :: (.blk b37 (enc r33.1) 61) :: (.blk b31 (enc (SkeenR.mk r22.1 s24)) 59) :: (.own Sl.nil 77 4 (encs ([] : List Wait))) :: (.own s24 77 4 (encs r22.1.Wait)) :: (.own s26 3 1 (encs r22.2.1)) :: (.blk b20 (enc r11.2.1) 61) :: (.blk b18 (enc (SkeenR.mk r11.1 s13)) 59) :: (.own Sl.nil 77 4 (encs ([] : List Wait))) :: (.own s13 77 4 (encs r11.1.Wait)) :: (.blk b5 (enc a2) 61) :: (.blk b3 (enc a1) 3) :: (.blk b1 (enc (SkeenR.mk a0 s_a0_2)) 59) :: L) (fun _ (_ : Unit) => .inl () = o47) ?_ ?_
 ·refine Cd.seq ?_
  refine Cd.region ?_
  refine Lst.r (Ev.move rfl) ?_
  refine Lst.r (Ev.lenS (α := Num) (xs := a3) (by decide) rfl rfl Try.runUnderlying62 (hs_a3.mono (FLe.trans hF16 hF29) (sc8 (sc4 (sc2 hM))))) ?_
  refine Lst.r (Ev.eql rfl rfl) ?_
  refine Lst.nil ?_
  refine At.then ?_
  rcases Bool.eq_false_or_eq_true ((a3.length : Int) == (0 : Int)) with hb48 | hb48
  ·replace H := ite_t hb48 H
   refine Cd.condT rfl hb48 ?_
   refine Cd.seq ?_
   refine Cd.region ?_
   refine Lst.r (Ev.loadA (i := 2) rfl rfl Try.isAgg61 Try.sizeOf61 (ch := enc r33.1) (Enc.len _) (Get.here _)) ?_
   refine Lst.r (Ev.build (v := .agg (enc Num.zero).toArray) (pv := []) trivial (fun w => by kernel_rfl)) ?_
   refine Lst.r (Ev.neqA rfl rfl (by kernel_rfl) (eq61 _ _)) ?_
   refine Lst.r (Ev.move rfl) ?_
   obtain ⟨o49, H, HKo49⟩ := bind_some H
   refine Lst.join (σ := Bool) 3 (fun y50 => [(4, pv b1 0), (5, pv b3 0), (6, pv b5 0), (9, iv r7), (10, pv b18 0), (11, pv b20 0), (12, iv r11.2.2), (13, pv b31 0), (14, Sl.v s26), (15, iv r22.2.2), (18, pv b40 0), (61, .bool y50)]) (fun y50 => (.blk b40 (enc (SkeenR.mk Skeen.zero Sl.nil)) 59) :: (.own Sl.nil 77 4 (encs ([] : List Wait))) :: (.blk b37 (enc r33.1) 61) :: (.blk b31 (enc (SkeenR.mk r22.1 s24)) 59) :: (.own Sl.nil 77 4 (encs ([] : List Wait))) :: (.own s24 77 4 (encs r22.1.Wait)) :: (.own s26 3 1 (encs r22.2.1)) :: (.blk b20 (enc r11.2.1) 61) :: (.blk b18 (enc (SkeenR.mk r11.1 s13)) 59) :: (.own Sl.nil 77 4 (encs ([] : List Wait))) :: (.own s13 77 4 (encs r11.1.Wait)) :: (.blk b5 (enc a2) 61) :: (.blk b3 (enc a1) 3) :: (.blk b1 (enc (SkeenR.mk a0 s_a0_2)) 59) :: L) (fun _ y50 => y50 = o49) ?_ ?_
   ·rcases Bool.eq_false_or_eq_true (!(decide (r33.1 = Num.zero))) with hb51 | hb51
    ·replace H := ite_t hb51 H
     refine Lst.skip rfl rfl rfl hb51 rfl (by decide) ?_
     refine Lst.skip rfl rfl rfl hb51 rfl (by decide) ?_
     refine Lst.r (Ev.pickT rfl hb51 rfl) ?_
     refine Lst.nil ?_
     exact At.meet true (FLe.refl _) ⟨rfl, rfl, rfl, rfl, rfl, rfl, rfl, rfl, rfl, rfl, rfl, rfl, trivial⟩ rfl (some_inj H)
    replace H := ite_f hb51 H
    refine Lst.rG hb51 (Ev.move rfl) ?_
    refine Lst.rG hb51 (Ev.neq rfl rfl) ?_
    refine Lst.r (Ev.pickF rfl hb51 rfl) ?_
    refine Lst.nil ?_
    exact At.meet (r33.2 != (6 : Int)) (FLe.refl _) ⟨rfl, rfl, rfl, rfl, rfl, rfl, rfl, rfl, rfl, rfl, rfl, rfl, trivial⟩ rfl (some_inj H)
   rintro F52 y50 hF53 hy
   subst hy
   refine Lst.as (e' := [(4, pv b1 0), (5, pv b3 0), (6, pv b5 0), (9, iv r7), (10, pv b18 0), (11, pv b20 0), (12, iv r11.2.2), (13, pv b31 0), (14, Sl.v s26), (15, iv r22.2.2), (18, pv b40 0), (61, .bool y50)]) (L' := (.blk b40 (enc (SkeenR.mk Skeen.zero Sl.nil)) 59) :: (.own Sl.nil 77 4 (encs ([] : List Wait))) :: (.blk b37 (enc r33.1) 61) :: (.blk b31 (enc (SkeenR.mk r22.1 s24)) 59) :: (.own Sl.nil 77 4 (encs ([] : List Wait))) :: (.own s24 77 4 (encs r22.1.Wait)) :: (.own s26 3 1 (encs r22.2.1)) :: (.blk b20 (enc r11.2.1) 61) :: (.blk b18 (enc (SkeenR.mk r11.1 s13)) 59) :: (.own Sl.nil 77 4 (encs ([] : List Wait))) :: (.own s13 77 4 (encs r11.1.Wait)) :: (.blk b5 (enc a2) 61) :: (.blk b3 (enc a1) 3) :: (.blk b1 (enc (SkeenR.mk a0 s_a0_2)) 59) :: L) ⟨rfl, rfl, rfl, rfl, rfl, rfl, rfl, rfl, rfl, rfl, rfl, rfl, trivial⟩ rfl ?_
   replace H := HKo49
   refine Lst.nil ?_
   refine At.then ?_
   rcases Bool.eq_false_or_eq_true y50 with hb54 | hb54
   ·replace H := ite_t hb54 H
    refine Cd.condT rfl hb54 ?_
    refine Cd.seq ?_
    refine Cd.region ?_
    refine Lst.r (Ev.assign rfl) ?_
    refine Lst.nil ?_
    refine At.then ?_
    obtain rfl := some_inj H
    replace H := HKo47
    obtain rfl := some_inj H
    refine Cd.ret ?_
    refine At.then_ret ?_
    exact At.ret1 rfl (Res.tmp rfl) (FLe.trans (FLe.trans hF16 hF29) hF53) (sc1 (sc1 (sc1 (sc1 (sc1 (sc1 (sc1 (sc1 (sc1 (sc1 (sc1 (sc1 (sc1 (sc1 (.refl _))))))))))))))) ⟨rfl, rfl⟩
   replace H := ite_f hb54 H
   refine Cd.condF rfl hb54 ?_
   refine Cd.skip ?_
   exact At.meet () hF53 ⟨rfl, rfl, rfl, rfl, rfl, rfl, rfl, rfl, rfl, rfl, rfl, trivial⟩ rfl (some_inj H)
  replace H := ite_f hb48 H
  refine Cd.condF rfl hb48 ?_
  refine Cd.seq ?_
  refine Cd.region ?_
  refine Lst.r (Ev.move rfl) ?_
  refine Lst.r (Ev.neq rfl rfl) ?_
  refine Lst.r (Ev.move rfl) ?_
  obtain ⟨o55, H, HKo55⟩ := bind_some H
  refine Lst.join (σ := Bool) 5 (fun y56 => [(3, Sl.v s_a3), (4, pv b1 0), (5, pv b3 0), (6, pv b5 0), (9, iv r7), (10, pv b18 0), (11, pv b20 0), (12, iv r11.2.2), (13, pv b31 0), (14, Sl.v s26), (15, iv r22.2.2), (16, pv b37 0), (18, pv b40 0), (69, .bool y56)]) (fun y56 => (.blk b40 (enc (SkeenR.mk Skeen.zero Sl.nil)) 59) :: (.own Sl.nil 77 4 (encs ([] : List Wait))) :: (.blk b37 (enc r33.1) 61) :: (.blk b31 (enc (SkeenR.mk r22.1 s24)) 59) :: (.own Sl.nil 77 4 (encs ([] : List Wait))) :: (.own s24 77 4 (encs r22.1.Wait)) :: (.own s26 3 1 (encs r22.2.1)) :: (.blk b20 (enc r11.2.1) 61) :: (.blk b18 (enc (SkeenR.mk r11.1 s13)) 59) :: (.own Sl.nil 77 4 (encs ([] : List Wait))) :: (.own s13 77 4 (encs r11.1.Wait)) :: (.blk b5 (enc a2) 61) :: (.blk b3 (enc a1) 3) :: (.blk b1 (enc (SkeenR.mk a0 s_a0_2)) 59) :: L) (fun _ y56 => y56 = o55) ?_ ?_
  ·rcases Bool.eq_false_or_eq_true (r33.2 != (0 : Int)) with hb57 | hb57
   ·replace H := ite_t hb57 H
    refine Lst.skip rfl rfl rfl hb57 rfl (by decide) ?_
    refine Lst.skip rfl rfl rfl hb57 rfl (by decide) ?_
    refine Lst.skip rfl rfl rfl hb57 rfl (by decide) ?_
    refine Lst.skip rfl rfl rfl hb57 rfl (by decide) ?_
    refine Lst.r (Ev.pickT rfl hb57 rfl) ?_
    refine Lst.nil ?_
    exact At.meet true (FLe.refl _) ⟨rfl, rfl, rfl, rfl, rfl, rfl, rfl, rfl, rfl, rfl, rfl, rfl, rfl, rfl, trivial⟩ rfl (some_inj H)
   replace H := ite_f hb57 H
   refine Lst.rG hb57 (Ev.move rfl) ?_
   refine Lst.rG hb57 (Ev.loadA (i := 2) rfl rfl Try.isAgg61 Try.sizeOf61 (ch := enc r33.1) (Enc.len _) (Get.here _)) ?_
   obtain ⟨r58, h59, H⟩ := bind_some H
   refine Lst.call1G rfl rfl rfl hb57 rfl (by decide) (vs := [Sl.v s_a3, .agg (enc r33.1).toArray]) ⟨rfl, rfl, trivial⟩ Try.call35 (slices_Contains_api_Num_api_Num_sim h59 w0 _ M _ (sc8 (sc4 (sc2 hM))) (hs_a3.mono (FLe.trans hF16 hF29) (.refl _))) ?_
   refine Lst.rG hb57 (Ev.not rfl) ?_
   refine Lst.r (Ev.pickF rfl hb57 rfl) ?_
   refine Lst.nil ?_
   exact At.meet (!r58) (FLe.refl _) ⟨rfl, rfl, rfl, rfl, rfl, rfl, rfl, rfl, rfl, rfl, rfl, rfl, rfl, rfl, trivial⟩ rfl (some_inj H)
  rintro F62 y56 hF63 hy
  subst hy
  refine Lst.as (e' := [(3, Sl.v s_a3), (4, pv b1 0), (5, pv b3 0), (6, pv b5 0), (9, iv r7), (10, pv b18 0), (11, pv b20 0), (12, iv r11.2.2), (13, pv b31 0), (14, Sl.v s26), (15, iv r22.2.2), (16, pv b37 0), (18, pv b40 0), (69, .bool y56)]) (L' := (.blk b40 (enc (SkeenR.mk Skeen.zero Sl.nil)) 59) :: (.own Sl.nil 77 4 (encs ([] : List Wait))) :: (.blk b37 (enc r33.1) 61) :: (.blk b31 (enc (SkeenR.mk r22.1 s24)) 59) :: (.own Sl.nil 77 4 (encs ([] : List Wait))) :: (.own s24 77 4 (encs r22.1.Wait)) :: (.own s26 3 1 (encs r22.2.1)) :: (.blk b20 (enc r11.2.1) 61) :: (.blk b18 (enc (SkeenR.mk r11.1 s13)) 59) :: (.own Sl.nil 77 4 (encs ([] : List Wait))) :: (.own s13 77 4 (encs r11.1.Wait)) :: (.blk b5 (enc a2) 61) :: (.blk b3 (enc a1) 3) :: (.blk b1 (enc (SkeenR.mk a0 s_a0_2)) 59) :: L) ⟨rfl, rfl, rfl, rfl, rfl, rfl, rfl, rfl, rfl, rfl, rfl, rfl, rfl, rfl, trivial⟩ rfl ?_
  replace H := HKo55
  refine Lst.r (Ev.move rfl) ?_
  rcases Bool.eq_false_or_eq_true y56 with hb64 | hb64
  ·replace H := ite_t hb64 H
   refine Lst.skip rfl rfl rfl hb64 rfl (by decide) ?_
   refine Lst.skip rfl rfl rfl hb64 rfl (by decide) ?_
   refine Lst.skip rfl rfl rfl hb64 rfl (by decide) ?_
   refine Lst.r (Ev.pickT rfl hb64 rfl) ?_
   refine Lst.nil ?_
   refine At.then ?_
   refine Cd.condT rfl rfl ?_
   refine Cd.seq ?_
   refine Cd.as (e' := []) (L' := (.blk b40 (enc (SkeenR.mk Skeen.zero Sl.nil)) 59) :: (.own Sl.nil 77 4 (encs ([] : List Wait))) :: (.blk b37 (enc r33.1) 61) :: (.blk b31 (enc (SkeenR.mk r22.1 s24)) 59) :: (.own Sl.nil 77 4 (encs ([] : List Wait))) :: (.own s24 77 4 (encs r22.1.Wait)) :: (.own s26 3 1 (encs r22.2.1)) :: (.blk b20 (enc r11.2.1) 61) :: (.blk b18 (enc (SkeenR.mk r11.1 s13)) 59) :: (.own Sl.nil 77 4 (encs ([] : List Wait))) :: (.own s13 77 4 (encs r11.1.Wait)) :: (.blk b5 (enc a2) 61) :: (.blk b3 (enc a1) 3) :: (.blk b1 (enc (SkeenR.mk a0 s_a0_2)) 59) :: L) trivial rfl ?_
   refine Cd.region ?_
   refine Lst.r (Ev.assign rfl) ?_
   refine Lst.nil ?_
   refine At.then ?_
   obtain rfl := some_inj H
   replace H := HKo47
   obtain rfl := some_inj H
   refine Cd.ret ?_
   refine At.then_ret ?_
   exact At.ret1 rfl (Res.tmp rfl) (FLe.trans (FLe.trans hF16 hF29) hF63) (sc1 (sc1 (sc1 (sc1 (sc1 (sc1 (sc1 (sc1 (sc1 (sc1 (sc1 (sc1 (sc1 (sc1 (.refl _))))))))))))))) ⟨rfl, rfl⟩
  replace H := ite_f hb64 H
  refine Lst.rG hb64 (Ev.move rfl) ?_
  refine Lst.rG hb64 (Ev.makeFunc (us := []) (vs := [pv b37 0]) trivial ⟨rfl, trivial⟩) ?_
  obtain ⟨r65, h66, H⟩ := bind_some H
  refine Lst.front (i := 2) rfl (L' := (.blk b37 (enc r33.1) 61) :: (.blk b40 (enc (SkeenR.mk Skeen.zero Sl.nil)) 59) :: (.own Sl.nil 77 4 (encs ([] : List Wait))) :: (.blk b31 (enc (SkeenR.mk r22.1 s24)) 59) :: (.own Sl.nil 77 4 (encs ([] : List Wait))) :: (.own s24 77 4 (encs r22.1.Wait)) :: (.own s26 3 1 (encs r22.2.1)) :: (.blk b20 (enc r11.2.1) 61) :: (.blk b18 (enc (SkeenR.mk r11.1 s13)) 59) :: (.own Sl.nil 77 4 (encs ([] : List Wait))) :: (.own s13 77 4 (encs r11.1.Wait)) :: (.blk b5 (enc a2) 61) :: (.blk b3 (enc a1) 3) :: (.blk b1 (enc (SkeenR.mk a0 s_a0_2)) 59) :: L) rfl ?_
  refine Lst.call1G rfl rfl rfl hb64 rfl (by decide) (vs := [Sl.v s_a3, .func (.func 37) #[] #[pv b37 0]]) ⟨rfl, rfl, trivial⟩ Try.call36 (slices_ContainsFunc_api_Num_api_Num_SkeenSays_1_sim h66 w0 _ M _ (sc8 (sc4 (sc1 hM))) (hs_a3.mono (FLe.trans (FLe.trans hF16 hF29) hF63) (.refl _))) ?_
  refine Lst.r (Ev.pickF rfl hb64 rfl) ?_
  refine Lst.nil ?_
  refine At.then ?_
  rcases Bool.eq_false_or_eq_true r65 with hb69 | hb69
  ·replace H := ite_t hb69 H
   refine Cd.condT rfl hb69 ?_
   refine Cd.seq ?_
   refine Cd.as (e' := []) (L' := (.blk b37 (enc r33.1) 61) :: (.blk b40 (enc (SkeenR.mk Skeen.zero Sl.nil)) 59) :: (.own Sl.nil 77 4 (encs ([] : List Wait))) :: (.blk b31 (enc (SkeenR.mk r22.1 s24)) 59) :: (.own Sl.nil 77 4 (encs ([] : List Wait))) :: (.own s24 77 4 (encs r22.1.Wait)) :: (.own s26 3 1 (encs r22.2.1)) :: (.blk b20 (enc r11.2.1) 61) :: (.blk b18 (enc (SkeenR.mk r11.1 s13)) 59) :: (.own Sl.nil 77 4 (encs ([] : List Wait))) :: (.own s13 77 4 (encs r11.1.Wait)) :: (.blk b5 (enc a2) 61) :: (.blk b3 (enc a1) 3) :: (.blk b1 (enc (SkeenR.mk a0 s_a0_2)) 59) :: L) trivial rfl ?_
   refine Cd.region ?_
   refine Lst.r (Ev.assign rfl) ?_
   refine Lst.nil ?_
   refine At.then ?_
   obtain rfl := some_inj H
   replace H := HKo47
   obtain rfl := some_inj H
   refine Cd.ret ?_
   refine At.then_ret ?_
   exact At.ret1 rfl (Res.tmp rfl) (FLe.trans (FLe.trans hF16 hF29) hF63) (sc1 (sc1 (sc1 (sc1 (sc1 (sc1 (sc1 (sc1 (sc1 (sc1 (sc1 (sc1 (sc1 (sc1 (.refl _))))))))))))))) ⟨rfl, rfl⟩
  replace H := ite_f hb69 H
  refine Cd.condF rfl hb69 ?_
  refine Cd.skip ?_
  refine At.front (i := 2) rfl rfl ?_
  refine At.front (i := 2) rfl (L' := (.blk b40 (enc (SkeenR.mk Skeen.zero Sl.nil)) 59) :: (.own Sl.nil 77 4 (encs ([] : List Wait))) :: (.blk b37 (enc r33.1) 61) :: (.blk b31 (enc (SkeenR.mk r22.1 s24)) 59) :: (.own Sl.nil 77 4 (encs ([] : List Wait))) :: (.own s24 77 4 (encs r22.1.Wait)) :: (.own s26 3 1 (encs r22.2.1)) :: (.blk b20 (enc r11.2.1) 61) :: (.blk b18 (enc (SkeenR.mk r11.1 s13)) 59) :: (.own Sl.nil 77 4 (encs ([] : List Wait))) :: (.own s13 77 4 (encs r11.1.Wait)) :: (.blk b5 (enc a2) 61) :: (.blk b3 (enc a1) 3) :: (.blk b1 (enc (SkeenR.mk a0 s_a0_2)) 59) :: L) rfl ?_
  exact At.meet () hF63 ⟨rfl, rfl, rfl, rfl, rfl, rfl, rfl, rfl, rfl, rfl, rfl, trivial⟩ rfl (some_inj H)
 rintro F70 _u hF71 hy
 subst hy
 refine Cd.as (e' := [(4, pv b1 0), (5, pv b3 0), (6, pv b5 0), (9, iv r7), (10, pv b18 0), (11, pv b20 0), (12, iv r11.2.2), (13, pv b31 0), (14, Sl.v s26), (15, iv r22.2.2), (18, pv b40 0)]) (L' := (.blk b40 (enc (SkeenR.mk Skeen.zero Sl.nil)) 59) :: (.own Sl.nil 77 4 (encs ([] : List Wait))) :: (.blk b37 (enc r33.1) 61) :: (.blk b31 (enc (SkeenR.mk r22.1 s24)) 59) :: (.own Sl.nil 77 4 (encs ([] : List Wait))) :: (.own s24 77 4 (encs r22.1.Wait)) :: (.own s26 3 1 (encs r22.2.1)) :: (.blk b20 (enc r11.2.1) 61) :: (.blk b18 (enc (SkeenR.mk r11.1 s13)) 59) :: (.own Sl.nil 77 4 (encs ([] : List Wait))) :: (.own s13 77 4 (encs r11.1.Wait)) :: (.blk b5 (enc a2) 61) :: (.blk b3 (enc a1) 3) :: (.blk b1 (enc (SkeenR.mk a0 s_a0_2)) 59) :: L) ⟨rfl, rfl, rfl, rfl, rfl, rfl, rfl, rfl, rfl, rfl, rfl, trivial⟩ rfl ?_
 replace H := HKo47
 refine Cd.seq ?_
 refine Cd.seq ?_
 refine Cd.region ?_
 refine Lst.r (Ev.move rfl) ?_
 refine Lst.r (Ev.neq rfl rfl) ?_
 refine Lst.nil ?_
 refine At.then ?_
 rcases Bool.eq_false_or_eq_true (r7 != (0 : Int)) with hb72 | hb72
 ·replace H := ite_t hb72 H
  refine Cd.condT rfl hb72 ?_
  refine Cd.seq ?_
  refine Cd.region ?_
  refine Lst.r (Ev.loadA (i := 8) rfl rfl Try.isAgg59 Try.sizeOf59 (ch := enc (SkeenR.mk r11.1 s13)) (Enc.len _) (Get.here _)) ?_
  refine Lst.r (Ev.loadA (i := 0) rfl rfl Try.isAgg59 Try.sizeOf59 (ch := enc (SkeenR.mk Skeen.zero Sl.nil)) (Enc.len _) (Get.here _)) ?_
  obtain ⟨r73, h74, H⟩ := bind_some H
  refine Lst.call1 rfl rfl (by decide) (vs := [.agg (enc (SkeenR.mk r11.1 s13)).toArray, .agg (enc (SkeenR.mk Skeen.zero Sl.nil)).toArray]) ⟨rfl, rfl, trivial⟩ Try.call39 (partref_SameSkeen_sim h74 w0 _ _ _ (.refl _) (Rd.own (i := 10) rfl rfl rfl) Rd.nil) ?_
  refine Lst.r (Ev.move rfl) ?_
  obtain ⟨o77, H, HKo77⟩ := bind_some H
  refine Lst.join (σ := Bool) 4 (fun y78 => [(9, iv r7), (12, iv r11.2.2), (13, pv b31 0), (14, Sl.v s26), (15, iv r22.2.2), (18, pv b40 0), (84, .bool y78)]) (fun y78 => (.blk b40 (enc (SkeenR.mk Skeen.zero Sl.nil)) 59) :: (.own Sl.nil 77 4 (encs ([] : List Wait))) :: (.blk b37 (enc r33.1) 61) :: (.blk b31 (enc (SkeenR.mk r22.1 s24)) 59) :: (.own Sl.nil 77 4 (encs ([] : List Wait))) :: (.own s24 77 4 (encs r22.1.Wait)) :: (.own s26 3 1 (encs r22.2.1)) :: (.blk b20 (enc r11.2.1) 61) :: (.blk b18 (enc (SkeenR.mk r11.1 s13)) 59) :: (.own Sl.nil 77 4 (encs ([] : List Wait))) :: (.own s13 77 4 (encs r11.1.Wait)) :: (.blk b5 (enc a2) 61) :: (.blk b3 (enc a1) 3) :: (.blk b1 (enc (SkeenR.mk a0 s_a0_2)) 59) :: L) (fun _ y78 => y78 = o77) ?_ ?_
  ·rcases (Bool.eq_false_or_eq_true r73).symm with hb79 | hb79
   ·replace H := ite_f hb79 H
    refine Lst.skip rfl rfl rfl hb79 rfl (by decide) ?_
    refine Lst.skip rfl rfl rfl hb79 rfl (by decide) ?_
    refine Lst.skip rfl rfl rfl hb79 rfl (by decide) ?_
    refine Lst.r (Ev.pickF rfl hb79 rfl) ?_
    refine Lst.nil ?_
    exact At.meet false (FLe.refl _) ⟨rfl, rfl, rfl, rfl, rfl, rfl, rfl, trivial⟩ rfl (some_inj H)
   replace H := ite_t hb79 H
   refine Lst.rG hb79 (Ev.loadA (i := 7) rfl rfl Try.isAgg61 Try.sizeOf61 (ch := enc r11.2.1) (Enc.len _) (Get.here _)) ?_
   refine Lst.rG hb79 (Ev.build (v := .agg (enc Num.zero).toArray) (pv := []) trivial (fun w => by kernel_rfl)) ?_
   refine Lst.rG hb79 (Ev.eqlA rfl rfl (by kernel_rfl) (eq61 _ _)) ?_
   refine Lst.r (Ev.pickT rfl hb79 rfl) ?_
   refine Lst.nil ?_
   exact At.meet (decide (r11.2.1 = Num.zero)) (FLe.refl _) ⟨rfl, rfl, rfl, rfl, rfl, rfl, rfl, trivial⟩ rfl (some_inj H)
  rintro F80 y78 hF81 hy
  subst hy
  refine Lst.as (e' := [(9, iv r7), (12, iv r11.2.2), (13, pv b31 0), (14, Sl.v s26), (15, iv r22.2.2), (18, pv b40 0), (84, .bool y78)]) (L' := (.blk b40 (enc (SkeenR.mk Skeen.zero Sl.nil)) 59) :: (.own Sl.nil 77 4 (encs ([] : List Wait))) :: (.blk b37 (enc r33.1) 61) :: (.blk b31 (enc (SkeenR.mk r22.1 s24)) 59) :: (.own Sl.nil 77 4 (encs ([] : List Wait))) :: (.own s24 77 4 (encs r22.1.Wait)) :: (.own s26 3 1 (encs r22.2.1)) :: (.blk b20 (enc r11.2.1) 61) :: (.blk b18 (enc (SkeenR.mk r11.1 s13)) 59) :: (.own Sl.nil 77 4 (encs ([] : List Wait))) :: (.own s13 77 4 (encs r11.1.Wait)) :: (.blk b5 (enc a2) 61) :: (.blk b3 (enc a1) 3) :: (.blk b1 (enc (SkeenR.mk a0 s_a0_2)) 59) :: L) ⟨rfl, rfl, rfl, rfl, rfl, rfl, rfl, trivial⟩ rfl ?_
  replace H := HKo77
  refine Lst.r (Ev.move rfl) ?_
  obtain ⟨o82, H, HKo82⟩ := bind_some H
  refine Lst.join (σ := Bool) 4 (fun y83 => [(9, iv r7), (13, pv b31 0), (14, Sl.v s26), (15, iv r22.2.2), (18, pv b40 0), (89, .bool y83)]) (fun y83 => (.blk b40 (enc (SkeenR.mk Skeen.zero Sl.nil)) 59) :: (.own Sl.nil 77 4 (encs ([] : List Wait))) :: (.blk b37 (enc r33.1) 61) :: (.blk b31 (enc (SkeenR.mk r22.1 s24)) 59) :: (.own Sl.nil 77 4 (encs ([] : List Wait))) :: (.own s24 77 4 (encs r22.1.Wait)) :: (.own s26 3 1 (encs r22.2.1)) :: (.blk b20 (enc r11.2.1) 61) :: (.blk b18 (enc (SkeenR.mk r11.1 s13)) 59) :: (.own Sl.nil 77 4 (encs ([] : List Wait))) :: (.own s13 77 4 (encs r11.1.Wait)) :: (.blk b5 (enc a2) 61) :: (.blk b3 (enc a1) 3) :: (.blk b1 (enc (SkeenR.mk a0 s_a0_2)) 59) :: L) (fun _ y83 => y83 = o82) ?_ ?_
  ·rcases (Bool.eq_false_or_eq_true y78).symm with hb84 | hb84
   ·replace H := ite_f hb84 H
    refine Lst.skip rfl rfl rfl hb84 rfl (by decide) ?_
    refine Lst.skip rfl rfl rfl hb84 rfl (by decide) ?_
    refine Lst.skip rfl rfl rfl hb84 rfl (by decide) ?_
    refine Lst.r (Ev.pickF rfl hb84 rfl) ?_
    refine Lst.nil ?_
    exact At.meet false (FLe.refl _) ⟨rfl, rfl, rfl, rfl, rfl, rfl, trivial⟩ rfl (some_inj H)
   replace H := ite_t hb84 H
   refine Lst.rG hb84 (Ev.move rfl) ?_
   refine Lst.rG hb84 (Ev.move rfl) ?_
   refine Lst.rG hb84 (Ev.eql rfl rfl) ?_
   refine Lst.r (Ev.pickT rfl hb84 rfl) ?_
   refine Lst.nil ?_
   exact At.meet (r11.2.2 == r7) (FLe.refl _) ⟨rfl, rfl, rfl, rfl, rfl, rfl, trivial⟩ rfl (some_inj H)
  rintro F85 y83 hF86 hy
  subst hy
  refine Lst.as (e' := [(9, iv r7), (13, pv b31 0), (14, Sl.v s26), (15, iv r22.2.2), (18, pv b40 0), (89, .bool y83)]) (L' := (.blk b40 (enc (SkeenR.mk Skeen.zero Sl.nil)) 59) :: (.own Sl.nil 77 4 (encs ([] : List Wait))) :: (.blk b37 (enc r33.1) 61) :: (.blk b31 (enc (SkeenR.mk r22.1 s24)) 59) :: (.own Sl.nil 77 4 (encs ([] : List Wait))) :: (.own s24 77 4 (encs r22.1.Wait)) :: (.own s26 3 1 (encs r22.2.1)) :: (.blk b20 (enc r11.2.1) 61) :: (.blk b18 (enc (SkeenR.mk r11.1 s13)) 59) :: (.own Sl.nil 77 4 (encs ([] : List Wait))) :: (.own s13 77 4 (encs r11.1.Wait)) :: (.blk b5 (enc a2) 61) :: (.blk b3 (enc a1) 3) :: (.blk b1 (enc (SkeenR.mk a0 s_a0_2)) 59) :: L) ⟨rfl, rfl, rfl, rfl, rfl, rfl, trivial⟩ rfl ?_
  replace H := HKo82
  refine Lst.r (Ev.move rfl) ?_
  obtain ⟨o87, H, HKo87⟩ := bind_some H
  refine Lst.join (σ := Bool) 4 (fun y88 => [(9, iv r7), (14, Sl.v s26), (15, iv r22.2.2), (94, .bool y88)]) (fun y88 => (.blk b40 (enc (SkeenR.mk Skeen.zero Sl.nil)) 59) :: (.own Sl.nil 77 4 (encs ([] : List Wait))) :: (.blk b37 (enc r33.1) 61) :: (.blk b31 (enc (SkeenR.mk r22.1 s24)) 59) :: (.own Sl.nil 77 4 (encs ([] : List Wait))) :: (.own s24 77 4 (encs r22.1.Wait)) :: (.own s26 3 1 (encs r22.2.1)) :: (.blk b20 (enc r11.2.1) 61) :: (.blk b18 (enc (SkeenR.mk r11.1 s13)) 59) :: (.own Sl.nil 77 4 (encs ([] : List Wait))) :: (.own s13 77 4 (encs r11.1.Wait)) :: (.blk b5 (enc a2) 61) :: (.blk b3 (enc a1) 3) :: (.blk b1 (enc (SkeenR.mk a0 s_a0_2)) 59) :: L) (fun _ y88 => y88 = o87) ?_ ?_
  ·rcases (Bool.eq_false_or_eq_true y83).symm with hb89 | hb89
   ·replace H := ite_f hb89 H
    refine Lst.skip rfl rfl rfl hb89 rfl (by decide) ?_
    refine Lst.skip rfl rfl rfl hb89 rfl (by decide) ?_
    refine Lst.skip rfl rfl rfl hb89 rfl (by decide) ?_
    refine Lst.r (Ev.pickF rfl hb89 rfl) ?_
    refine Lst.nil ?_
    exact At.meet false (FLe.refl _) ⟨rfl, rfl, rfl, rfl, trivial⟩ rfl (some_inj H)
   replace H := ite_t hb89 H
   refine Lst.rG hb89 (Ev.loadA (i := 3) rfl rfl Try.isAgg59 Try.sizeOf59 (ch := enc (SkeenR.mk r22.1 s24)) (Enc.len _) (Get.here _)) ?_
   refine Lst.rG hb89 (Ev.loadA (i := 0) rfl rfl Try.isAgg59 Try.sizeOf59 (ch := enc (SkeenR.mk Skeen.zero Sl.nil)) (Enc.len _) (Get.here _)) ?_
   obtain ⟨r90, h91, H⟩ := bind_some H
   refine Lst.call1G rfl rfl rfl hb89 rfl (by decide) (vs := [.agg (enc (SkeenR.mk r22.1 s24)).toArray, .agg (enc (SkeenR.mk Skeen.zero Sl.nil)).toArray]) ⟨rfl, rfl, trivial⟩ Try.call39 (partref_SameSkeen_sim h91 w0 _ _ _ (.refl _) (Rd.own (i := 5) rfl rfl rfl) Rd.nil) ?_
   refine Lst.r (Ev.pickT rfl hb89 rfl) ?_
   refine Lst.nil ?_
   exact At.meet r90 (FLe.refl _) ⟨rfl, rfl, rfl, rfl, trivial⟩ rfl (some_inj H)
  rintro F94 y88 hF95 hy
  subst hy
  refine Lst.as (e' := [(9, iv r7), (14, Sl.v s26), (15, iv r22.2.2), (94, .bool y88)]) (L' := (.blk b40 (enc (SkeenR.mk Skeen.zero Sl.nil)) 59) :: (.own Sl.nil 77 4 (encs ([] : List Wait))) :: (.blk b37 (enc r33.1) 61) :: (.blk b31 (enc (SkeenR.mk r22.1 s24)) 59) :: (.own Sl.nil 77 4 (encs ([] : List Wait))) :: (.own s24 77 4 (encs r22.1.Wait)) :: (.own s26 3 1 (encs r22.2.1)) :: (.blk b20 (enc r11.2.1) 61) :: (.blk b18 (enc (SkeenR.mk r11.1 s13)) 59) :: (.own Sl.nil 77 4 (encs ([] : List Wait))) :: (.own s13 77 4 (encs r11.1.Wait)) :: (.blk b5 (enc a2) 61) :: (.blk b3 (enc a1) 3) :: (.blk b1 (enc (SkeenR.mk a0 s_a0_2)) 59) :: L) ⟨rfl, rfl, rfl, rfl, trivial⟩ rfl ?_
  replace H := HKo87
  refine Lst.r (Ev.move rfl) ?_
  obtain ⟨o96, H, HKo96⟩ := bind_some H
  refine Lst.join (σ := Bool) 4 (fun y97 => [(9, iv r7), (15, iv r22.2.2), (99, .bool y97)]) (fun y97 => (.blk b40 (enc (SkeenR.mk Skeen.zero Sl.nil)) 59) :: (.own Sl.nil 77 4 (encs ([] : List Wait))) :: (.blk b37 (enc r33.1) 61) :: (.blk b31 (enc (SkeenR.mk r22.1 s24)) 59) :: (.own Sl.nil 77 4 (encs ([] : List Wait))) :: (.own s24 77 4 (encs r22.1.Wait)) :: (.own s26 3 1 (encs r22.2.1)) :: (.blk b20 (enc r11.2.1) 61) :: (.blk b18 (enc (SkeenR.mk r11.1 s13)) 59) :: (.own Sl.nil 77 4 (encs ([] : List Wait))) :: (.own s13 77 4 (encs r11.1.Wait)) :: (.blk b5 (enc a2) 61) :: (.blk b3 (enc a1) 3) :: (.blk b1 (enc (SkeenR.mk a0 s_a0_2)) 59) :: L) (fun _ y97 => y97 = o96) ?_ ?_
  ·rcases (Bool.eq_false_or_eq_true y88).symm with hb98 | hb98
   ·replace H := ite_f hb98 H
    refine Lst.skip rfl rfl rfl hb98 rfl (by decide) ?_
    refine Lst.skip rfl rfl rfl hb98 rfl (by decide) ?_
    refine Lst.skip rfl rfl rfl hb98 rfl (by decide) ?_
    refine Lst.r (Ev.pickF rfl hb98 rfl) ?_
    refine Lst.nil ?_
    exact At.meet false (FLe.refl _) ⟨rfl, rfl, rfl, trivial⟩ rfl (some_inj H)
   replace H := ite_t hb98 H
   refine Lst.rG hb98 (Ev.move rfl) ?_
   refine Lst.rG hb98 (Ev.lenS (α := Int) (xs := r22.2.1) (by decide) rfl rfl Try.runUnderlying36 (Rd.own (i := 6) rfl rfl rfl)) ?_
   refine Lst.rG hb98 (Ev.eql rfl rfl) ?_
   refine Lst.r (Ev.pickT rfl hb98 rfl) ?_
   refine Lst.nil ?_
   exact At.meet ((r22.2.1.length : Int) == (0 : Int)) (FLe.refl _) ⟨rfl, rfl, rfl, trivial⟩ rfl (some_inj H)
  rintro F99 y97 hF100 hy
  subst hy
  refine Lst.as (e' := [(9, iv r7), (15, iv r22.2.2), (99, .bool y97)]) (L' := (.blk b40 (enc (SkeenR.mk Skeen.zero Sl.nil)) 59) :: (.own Sl.nil 77 4 (encs ([] : List Wait))) :: (.blk b37 (enc r33.1) 61) :: (.blk b31 (enc (SkeenR.mk r22.1 s24)) 59) :: (.own Sl.nil 77 4 (encs ([] : List Wait))) :: (.own s24 77 4 (encs r22.1.Wait)) :: (.own s26 3 1 (encs r22.2.1)) :: (.blk b20 (enc r11.2.1) 61) :: (.blk b18 (enc (SkeenR.mk r11.1 s13)) 59) :: (.own Sl.nil 77 4 (encs ([] : List Wait))) :: (.own s13 77 4 (encs r11.1.Wait)) :: (.blk b5 (enc a2) 61) :: (.blk b3 (enc a1) 3) :: (.blk b1 (enc (SkeenR.mk a0 s_a0_2)) 59) :: L) ⟨rfl, rfl, rfl, trivial⟩ rfl ?_
  replace H := HKo96
  refine Lst.r (Ev.move rfl) ?_
  obtain ⟨o101, H, HKo101⟩ := bind_some H
  refine Lst.join (σ := Bool) 4 (fun y102 => [(104, .bool y102)]) (fun y102 => (.blk b40 (enc (SkeenR.mk Skeen.zero Sl.nil)) 59) :: (.own Sl.nil 77 4 (encs ([] : List Wait))) :: (.blk b37 (enc r33.1) 61) :: (.blk b31 (enc (SkeenR.mk r22.1 s24)) 59) :: (.own Sl.nil 77 4 (encs ([] : List Wait))) :: (.own s24 77 4 (encs r22.1.Wait)) :: (.own s26 3 1 (encs r22.2.1)) :: (.blk b20 (enc r11.2.1) 61) :: (.blk b18 (enc (SkeenR.mk r11.1 s13)) 59) :: (.own Sl.nil 77 4 (encs ([] : List Wait))) :: (.own s13 77 4 (encs r11.1.Wait)) :: (.blk b5 (enc a2) 61) :: (.blk b3 (enc a1) 3) :: (.blk b1 (enc (SkeenR.mk a0 s_a0_2)) 59) :: L) (fun _ y102 => y102 = o101) ?_ ?_
  ·rcases (Bool.eq_false_or_eq_true y97).symm with hb103 | hb103
   ·replace H := ite_f hb103 H
    refine Lst.skip rfl rfl rfl hb103 rfl (by decide) ?_
    refine Lst.skip rfl rfl rfl hb103 rfl (by decide) ?_
    refine Lst.skip rfl rfl rfl hb103 rfl (by decide) ?_
    refine Lst.r (Ev.pickF rfl hb103 rfl) ?_
    refine Lst.nil ?_
    exact At.meet false (FLe.refl _) ⟨rfl, trivial⟩ rfl (some_inj H)
   replace H := ite_t hb103 H
   refine Lst.rG hb103 (Ev.move rfl) ?_
   refine Lst.rG hb103 (Ev.move rfl) ?_
   refine Lst.rG hb103 (Ev.eql rfl rfl) ?_
   refine Lst.r (Ev.pickT rfl hb103 rfl) ?_
   refine Lst.nil ?_
   exact At.meet (r22.2.2 == r7) (FLe.refl _) ⟨rfl, trivial⟩ rfl (some_inj H)
  rintro F104 y102 hF105 hy
  subst hy
  refine Lst.as (e' := [(104, .bool y102)]) (L' := (.blk b40 (enc (SkeenR.mk Skeen.zero Sl.nil)) 59) :: (.own Sl.nil 77 4 (encs ([] : List Wait))) :: (.blk b37 (enc r33.1) 61) :: (.blk b31 (enc (SkeenR.mk r22.1 s24)) 59) :: (.own Sl.nil 77 4 (encs ([] : List Wait))) :: (.own s24 77 4 (encs r22.1.Wait)) :: (.own s26 3 1 (encs r22.2.1)) :: (.blk b20 (enc r11.2.1) 61) :: (.blk b18 (enc (SkeenR.mk r11.1 s13)) 59) :: (.own Sl.nil 77 4 (encs ([] : List Wait))) :: (.own s13 77 4 (encs r11.1.Wait)) :: (.blk b5 (enc a2) 61) :: (.blk b3 (enc a1) 3) :: (.blk b1 (enc (SkeenR.mk a0 s_a0_2)) 59) :: L) ⟨rfl, trivial⟩ rfl ?_
  replace H := HKo101
  refine Lst.r (Ev.assign rfl) ?_
  refine Lst.nil ?_
  refine At.then ?_
  obtain rfl := some_inj H
  refine Cd.ret ?_
  refine At.then_ret ?_
  exact At.ret1 rfl (Res.tmp rfl) (FLe.trans (FLe.trans (FLe.trans (FLe.trans (FLe.trans (FLe.trans (FLe.trans hF16 hF29) hF71) hF81) hF86) hF95) hF100) hF105) (sc1 (sc1 (sc1 (sc1 (sc1 (sc1 (sc1 (sc1 (sc1 (sc1 (sc1 (sc1 (sc1 (sc1 (.refl _))))))))))))))) ⟨rfl, rfl⟩
 replace H := ite_f hb72 H
 refine Cd.condF rfl hb72 ?_
 refine Cd.skip ?_
 refine At.then ?_
 refine Cd.seq ?_
 refine Cd.region ?_
 refine Lst.r (Ev.loadA (i := 13) rfl rfl Try.isAgg59 Try.sizeOf59 (ch := enc (SkeenR.mk a0 s_a0_2)) (Enc.len _) (Get.here _)) ?_
 refine Lst.r (Ev.build (v := .agg (enc Num.zero).toArray) (pv := []) trivial (fun w => by kernel_rfl)) ?_
 refine Lst.addNil 77 4 ?_
 refine Lst.alloc (cs := enc (SkeenR.mk ({ Skeen.zero with Wait := ([] : List Wait) } : Skeen) Sl.nil)) rfl rfl (by decide) Try.zeroValue59 rfl (fun b107 => ?_)
 refine Lst.alloc (cs := enc Num.zero) rfl rfl (by decide) Try.zeroValue61 rfl (fun b109 => ?_)
 refine Lst.store (i := 1) rfl rfl rfl rfl rfl Try.sizeOf59 (vs := enc (SkeenR.mk a0 s_a0_2)) rfl (Enc.len _) (Enc.one _) (cs' := enc (SkeenR.mk a0 s_a0_2)) (Put.here ((Enc.len _).trans (Enc.len _).symm)) (L' := (.blk b109 (enc Num.zero) 61) :: (.blk b107 (enc (SkeenR.mk a0 s_a0_2)) 59) :: (.own Sl.nil 77 4 (encs ([] : List Wait))) :: (.blk b40 (enc (SkeenR.mk Skeen.zero Sl.nil)) 59) :: (.own Sl.nil 77 4 (encs ([] : List Wait))) :: (.blk b37 (enc r33.1) 61) :: (.blk b31 (enc (SkeenR.mk r22.1 s24)) 59) :: (.own Sl.nil 77 4 (encs ([] : List Wait))) :: (.own s24 77 4 (encs r22.1.Wait)) :: (.own s26 3 1 (encs r22.2.1)) :: (.blk b20 (enc r11.2.1) 61) :: (.blk b18 (enc (SkeenR.mk r11.1 s13)) 59) :: (.own Sl.nil 77 4 (encs ([] : List Wait))) :: (.own s13 77 4 (encs r11.1.Wait)) :: (.blk b5 (enc a2) 61) :: (.blk b3 (enc a1) 3) :: (.blk b1 (enc (SkeenR.mk a0 s_a0_2)) 59) :: L) rfl ?_
 refine Lst.store (i := 0) rfl rfl rfl rfl rfl Try.sizeOf61 (vs := enc Num.zero) rfl (Enc.len _) (Enc.one _) (cs' := enc Num.zero) (Put.here ((Enc.len _).trans (Enc.len _).symm)) (L' := (.blk b109 (enc Num.zero) 61) :: (.blk b107 (enc (SkeenR.mk a0 s_a0_2)) 59) :: (.own Sl.nil 77 4 (encs ([] : List Wait))) :: (.blk b40 (enc (SkeenR.mk Skeen.zero Sl.nil)) 59) :: (.own Sl.nil 77 4 (encs ([] : List Wait))) :: (.blk b37 (enc r33.1) 61) :: (.blk b31 (enc (SkeenR.mk r22.1 s24)) 59) :: (.own Sl.nil 77 4 (encs ([] : List Wait))) :: (.own s24 77 4 (encs r22.1.Wait)) :: (.own s26 3 1 (encs r22.2.1)) :: (.blk b20 (enc r11.2.1) 61) :: (.blk b18 (enc (SkeenR.mk r11.1 s13)) 59) :: (.own Sl.nil 77 4 (encs ([] : List Wait))) :: (.own s13 77 4 (encs r11.1.Wait)) :: (.blk b5 (enc a2) 61) :: (.blk b3 (enc a1) 3) :: (.blk b1 (enc (SkeenR.mk a0 s_a0_2)) 59) :: L) rfl ?_
 refine Lst.r (Ev.assign rfl) ?_
 refine Lst.nil ?_
 refine At.then ?_
 obtain ⟨o116, H, HKo116⟩ := bind_some H
 refine Cd.join (σ := Int × Num × Skeen × Sl) (fun (y111, y112, y113, s114) => [(4, pv b1 0), (5, pv b3 0), (6, pv b5 0), (10, pv b18 0), (11, pv b20 0), (12, iv r11.2.2), (13, pv b31 0), (14, Sl.v s26), (15, iv r22.2.2), (18, pv b40 0), (19, pv b107 0), (20, pv b109 0), (21, iv y111)]) (fun (y111, y112, y113, s114) => (.blk b109 (enc y112) 61) :: (.blk b107 (enc (SkeenR.mk y113 s114)) 59) :: (.own Sl.nil 77 4 (encs ([] : List Wait))) :: (.blk b40 (enc (SkeenR.mk Skeen.zero Sl.nil)) 59) :: (.own Sl.nil 77 4 (encs ([] : List Wait))) :: (.blk b37 (enc r33.1) 61) :: (.blk b31 (enc (SkeenR.mk r22.1 s24)) 59) :: (.own Sl.nil 77 4 (encs ([] : List Wait))) :: (.own s24 77 4 (encs r22.1.Wait)) :: (.own s26 3 1 (encs r22.2.1)) :: (.blk b20 (enc r11.2.1) 61) :: (.blk b18 (enc (SkeenR.mk r11.1 s13)) 59) :: (.own Sl.nil 77 4 (encs ([] : List Wait))) :: (.own s13 77 4 (encs r11.1.Wait)) :: (.blk b5 (enc a2) 61) :: (.blk b3 (enc a1) 3) :: (.blk b1 (enc (SkeenR.mk a0 s_a0_2)) 59) :: L) (fun Fx (y111, y112, y113, s114) => (y111, y112, y113) = o116 ∧ Rd w0 Fx M s114 y113.Wait) ?_ ?_
 ·refine Cd.block ?_
  refine Cd.seq ?_
  refine Cd.region ?_
  refine Lst.r (Ev.load (i := 15) rfl rfl Try.isAgg3 (v := iv a1) (Get.here _)) ?_
  refine Lst.r (Ev.lss rfl rfl) ?_
  refine Lst.r (Ev.assign rfl) ?_
  refine Lst.nil ?_
  refine At.then ?_
  rcases Bool.eq_false_or_eq_true (decide (a1 < (0 : Int))) with hb117 | hb117
  ·replace H := ite_t hb117 H
   refine Cd.condT rfl hb117 ?_
   refine Cd.region ?_
   refine Lst.r (Ev.assign rfl) ?_
   refine Lst.nil ?_
   refine At.in_normal ?_
   exact At.meet ((1 : Int), Num.zero, a0, s_a0_2) (FLe.refl _) ⟨rfl, rfl, rfl, rfl, rfl, rfl, rfl, rfl, rfl, rfl, rfl, rfl, rfl, trivial⟩ rfl ⟨some_inj H, (hs_a0_2.mono (FLe.trans (FLe.trans hF16 hF29) hF71) (.refl _))⟩
  replace H := ite_f hb117 H
  refine Cd.condF rfl hb117 ?_
  refine Cd.seq ?_
  refine Cd.region ?_
  refine Lst.r (Ev.fieldAddr (off' := 2) rfl Try.runUnderlying59 rfl Try.sizeOf57 rfl rfl) ?_
  refine Lst.r (Ev.load (i := 16) rfl rfl Try.isAgg57 (v := Sl.v s_a0_2) ((SkeenR.get_Wait (Get.here _)).off (by rfl))) ?_
  refine Lst.r (Ev.makeFunc (us := []) (vs := [pv b3 0]) trivial ⟨rfl, trivial⟩) ?_
  obtain ⟨r118, h119, H⟩ := bind_some H
  refine Lst.front (i := 15) rfl (L' := (.blk b3 (enc a1) 3) :: (.blk b109 (enc Num.zero) 61) :: (.blk b107 (enc (SkeenR.mk a0 s_a0_2)) 59) :: (.own Sl.nil 77 4 (encs ([] : List Wait))) :: (.blk b40 (enc (SkeenR.mk Skeen.zero Sl.nil)) 59) :: (.own Sl.nil 77 4 (encs ([] : List Wait))) :: (.blk b37 (enc r33.1) 61) :: (.blk b31 (enc (SkeenR.mk r22.1 s24)) 59) :: (.own Sl.nil 77 4 (encs ([] : List Wait))) :: (.own s24 77 4 (encs r22.1.Wait)) :: (.own s26 3 1 (encs r22.2.1)) :: (.blk b20 (enc r11.2.1) 61) :: (.blk b18 (enc (SkeenR.mk r11.1 s13)) 59) :: (.own Sl.nil 77 4 (encs ([] : List Wait))) :: (.own s13 77 4 (encs r11.1.Wait)) :: (.blk b5 (enc a2) 61) :: (.blk b1 (enc (SkeenR.mk a0 s_a0_2)) 59) :: L) rfl ?_
  refine Lst.call1 rfl rfl (by decide) (vs := [Sl.v s_a0_2, .func (.func 41) #[] #[pv b3 0]]) ⟨rfl, rfl, trivial⟩ Try.call40 (slices_ContainsFunc_api_Wait_api_Wait_SkeenSays_2_sim h119 w0 _ M _ (sc8 (sc8 hM)) (hs_a0_2.mono (FLe.trans (FLe.trans hF16 hF29) hF71) (.refl _))) ?_
  refine Lst.r (Ev.assign rfl) ?_
  refine Lst.nil ?_
  refine At.then ?_
  rcases Bool.eq_false_or_eq_true r118 with hb122 | hb122
  ·replace H := ite_t hb122 H
   refine Cd.condT rfl hb122 ?_
   refine Cd.region ?_
   refine Lst.r (Ev.assign rfl) ?_
   refine Lst.nil ?_
   refine At.in_normal ?_
   refine At.front (i := 15) rfl rfl ?_
   refine At.front (i := 15) rfl rfl ?_
   refine At.front (i := 15) rfl (L' := (.own Sl.nil 77 4 (encs ([] : List Wait))) :: (.own s13 77 4 (encs r11.1.Wait)) :: (.blk b5 (enc a2) 61) :: (.blk b3 (enc a1) 3) :: (.blk b109 (enc Num.zero) 61) :: (.blk b107 (enc (SkeenR.mk a0 s_a0_2)) 59) :: (.own Sl.nil 77 4 (encs ([] : List Wait))) :: (.blk b40 (enc (SkeenR.mk Skeen.zero Sl.nil)) 59) :: (.own Sl.nil 77 4 (encs ([] : List Wait))) :: (.blk b37 (enc r33.1) 61) :: (.blk b31 (enc (SkeenR.mk r22.1 s24)) 59) :: (.own Sl.nil 77 4 (encs ([] : List Wait))) :: (.own s24 77 4 (encs r22.1.Wait)) :: (.own s26 3 1 (encs r22.2.1)) :: (.blk b20 (enc r11.2.1) 61) :: (.blk b18 (enc (SkeenR.mk r11.1 s13)) 59) :: (.blk b1 (enc (SkeenR.mk a0 s_a0_2)) 59) :: L) rfl ?_
   refine At.front (i := 15) rfl rfl ?_
   refine At.front (i := 15) rfl rfl ?_
   refine At.front (i := 15) rfl (L' := (.own s26 3 1 (encs r22.2.1)) :: (.blk b20 (enc r11.2.1) 61) :: (.blk b18 (enc (SkeenR.mk r11.1 s13)) 59) :: (.own Sl.nil 77 4 (encs ([] : List Wait))) :: (.own s13 77 4 (encs r11.1.Wait)) :: (.blk b5 (enc a2) 61) :: (.blk b3 (enc a1) 3) :: (.blk b109 (enc Num.zero) 61) :: (.blk b107 (enc (SkeenR.mk a0 s_a0_2)) 59) :: (.own Sl.nil 77 4 (encs ([] : List Wait))) :: (.blk b40 (enc (SkeenR.mk Skeen.zero Sl.nil)) 59) :: (.own Sl.nil 77 4 (encs ([] : List Wait))) :: (.blk b37 (enc r33.1) 61) :: (.blk b31 (enc (SkeenR.mk r22.1 s24)) 59) :: (.own Sl.nil 77 4 (encs ([] : List Wait))) :: (.own s24 77 4 (encs r22.1.Wait)) :: (.blk b1 (enc (SkeenR.mk a0 s_a0_2)) 59) :: L) rfl ?_
   refine At.front (i := 15) rfl rfl ?_
   refine At.front (i := 15) rfl rfl ?_
   refine At.front (i := 15) rfl (L' := (.blk b31 (enc (SkeenR.mk r22.1 s24)) 59) :: (.own Sl.nil 77 4 (encs ([] : List Wait))) :: (.own s24 77 4 (encs r22.1.Wait)) :: (.own s26 3 1 (encs r22.2.1)) :: (.blk b20 (enc r11.2.1) 61) :: (.blk b18 (enc (SkeenR.mk r11.1 s13)) 59) :: (.own Sl.nil 77 4 (encs ([] : List Wait))) :: (.own s13 77 4 (encs r11.1.Wait)) :: (.blk b5 (enc a2) 61) :: (.blk b3 (enc a1) 3) :: (.blk b109 (enc Num.zero) 61) :: (.blk b107 (enc (SkeenR.mk a0 s_a0_2)) 59) :: (.own Sl.nil 77 4 (encs ([] : List Wait))) :: (.blk b40 (enc (SkeenR.mk Skeen.zero Sl.nil)) 59) :: (.own Sl.nil 77 4 (encs ([] : List Wait))) :: (.blk b37 (enc r33.1) 61) :: (.blk b1 (enc (SkeenR.mk a0 s_a0_2)) 59) :: L) rfl ?_
   refine At.front (i := 15) rfl rfl ?_
   refine At.front (i := 15) rfl rfl ?_
   refine At.front (i := 15) rfl (L' := (.blk b40 (enc (SkeenR.mk Skeen.zero Sl.nil)) 59) :: (.own Sl.nil 77 4 (encs ([] : List Wait))) :: (.blk b37 (enc r33.1) 61) :: (.blk b31 (enc (SkeenR.mk r22.1 s24)) 59) :: (.own Sl.nil 77 4 (encs ([] : List Wait))) :: (.own s24 77 4 (encs r22.1.Wait)) :: (.own s26 3 1 (encs r22.2.1)) :: (.blk b20 (enc r11.2.1) 61) :: (.blk b18 (enc (SkeenR.mk r11.1 s13)) 59) :: (.own Sl.nil 77 4 (encs ([] : List Wait))) :: (.own s13 77 4 (encs r11.1.Wait)) :: (.blk b5 (enc a2) 61) :: (.blk b3 (enc a1) 3) :: (.blk b109 (enc Num.zero) 61) :: (.blk b107 (enc (SkeenR.mk a0 s_a0_2)) 59) :: (.own Sl.nil 77 4 (encs ([] : List Wait))) :: (.blk b1 (enc (SkeenR.mk a0 s_a0_2)) 59) :: L) rfl ?_
   refine At.front (i := 15) rfl rfl ?_
   refine At.front (i := 15) rfl rfl ?_
   refine At.front (i := 15) rfl (L' := (.blk b109 (enc Num.zero) 61) :: (.blk b107 (enc (SkeenR.mk a0 s_a0_2)) 59) :: (.own Sl.nil 77 4 (encs ([] : List Wait))) :: (.blk b40 (enc (SkeenR.mk Skeen.zero Sl.nil)) 59) :: (.own Sl.nil 77 4 (encs ([] : List Wait))) :: (.blk b37 (enc r33.1) 61) :: (.blk b31 (enc (SkeenR.mk r22.1 s24)) 59) :: (.own Sl.nil 77 4 (encs ([] : List Wait))) :: (.own s24 77 4 (encs r22.1.Wait)) :: (.own s26 3 1 (encs r22.2.1)) :: (.blk b20 (enc r11.2.1) 61) :: (.blk b18 (enc (SkeenR.mk r11.1 s13)) 59) :: (.own Sl.nil 77 4 (encs ([] : List Wait))) :: (.own s13 77 4 (encs r11.1.Wait)) :: (.blk b5 (enc a2) 61) :: (.blk b3 (enc a1) 3) :: (.blk b1 (enc (SkeenR.mk a0 s_a0_2)) 59) :: L) rfl ?_
   exact At.meet ((7 : Int), Num.zero, a0, s_a0_2) (FLe.refl _) ⟨rfl, rfl, rfl, rfl, rfl, rfl, rfl, rfl, rfl, rfl, rfl, rfl, rfl, trivial⟩ rfl ⟨some_inj H, (hs_a0_2.mono (FLe.trans (FLe.trans hF16 hF29) hF71) (.refl _))⟩
  replace H := ite_f hb122 H
  refine Cd.condF rfl hb122 ?_
  refine Cd.seq ?_
  refine Cd.region ?_
  refine Lst.r (Ev.fieldAddr (off' := 2) rfl Try.runUnderlying59 rfl Try.sizeOf57 rfl rfl) ?_
  refine Lst.r (Ev.load (i := 16) rfl rfl Try.isAgg57 (v := Sl.v s_a0_2) ((SkeenR.get_Wait (Get.here _)).off (by rfl))) ?_
  refine Lst.r (Ev.lenS (α := Wait) (xs := a0.Wait) (by decide) rfl rfl Try.runUnderlying57 (hs_a0_2.mono (FLe.trans (FLe.trans hF16 hF29) hF71) (sc8 (sc8 (sc1 hM))))) ?_
  refine Lst.r (Ev.eql rfl rfl) ?_
  refine Lst.r (Ev.move rfl) ?_
  obtain ⟨o123, H, HKo123⟩ := bind_some H
  refine Lst.join (σ := Bool) 4 (fun y124 => [(4, pv b1 0), (5, pv b3 0), (6, pv b5 0), (10, pv b18 0), (11, pv b20 0), (12, iv r11.2.2), (13, pv b31 0), (14, Sl.v s26), (15, iv r22.2.2), (18, pv b40 0), (19, pv b107 0), (20, pv b109 0), (21, iv (0 : Int)), (144, .bool y124)]) (fun y124 => (.blk b3 (enc a1) 3) :: (.blk b109 (enc Num.zero) 61) :: (.blk b107 (enc (SkeenR.mk a0 s_a0_2)) 59) :: (.own Sl.nil 77 4 (encs ([] : List Wait))) :: (.blk b40 (enc (SkeenR.mk Skeen.zero Sl.nil)) 59) :: (.own Sl.nil 77 4 (encs ([] : List Wait))) :: (.blk b37 (enc r33.1) 61) :: (.blk b31 (enc (SkeenR.mk r22.1 s24)) 59) :: (.own Sl.nil 77 4 (encs ([] : List Wait))) :: (.own s24 77 4 (encs r22.1.Wait)) :: (.own s26 3 1 (encs r22.2.1)) :: (.blk b20 (enc r11.2.1) 61) :: (.blk b18 (enc (SkeenR.mk r11.1 s13)) 59) :: (.own Sl.nil 77 4 (encs ([] : List Wait))) :: (.own s13 77 4 (encs r11.1.Wait)) :: (.blk b5 (enc a2) 61) :: (.blk b1 (enc (SkeenR.mk a0 s_a0_2)) 59) :: L) (fun _ y124 => y124 = o123) ?_ ?_
  ·rcases Bool.eq_false_or_eq_true ((a0.Wait.length : Int) == (40 : Int)) with hb125 | hb125
   ·replace H := ite_t hb125 H
    refine Lst.skip rfl rfl rfl hb125 rfl (by decide) ?_
    refine Lst.skip rfl rfl rfl hb125 rfl (by decide) ?_
    refine Lst.skip rfl rfl rfl hb125 rfl (by decide) ?_
    refine Lst.r (Ev.pickT rfl hb125 rfl) ?_
    refine Lst.nil ?_
    exact At.meet true (FLe.refl _) ⟨rfl, rfl, rfl, rfl, rfl, rfl, rfl, rfl, rfl, rfl, rfl, rfl, rfl, rfl, trivial⟩ rfl (some_inj H)
   replace H := ite_f hb125 H
   refine Lst.rG hb125 (Ev.fieldAddr (off' := 1) rfl Try.runUnderlying59 rfl Try.sizeOf3 rfl rfl) ?_
   refine Lst.rG hb125 (Ev.load (i := 16) rfl rfl Try.isAgg3 (v := iv a0.Clock) ((SkeenR.get_Clock (Get.here _)).off (by rfl))) ?_
   refine Lst.rG hb125 (Ev.eql rfl rfl) ?_
   refine Lst.r (Ev.pickF rfl hb125 rfl) ?_
   refine Lst.nil ?_
   exact At.meet (a0.Clock == (16777215 : Int)) (FLe.refl _) ⟨rfl, rfl, rfl, rfl, rfl, rfl, rfl, rfl, rfl, rfl, rfl, rfl, rfl, rfl, trivial⟩ rfl (some_inj H)
  rintro F126 y124 hF127 hy
  subst hy
  refine Lst.as (e' := [(4, pv b1 0), (5, pv b3 0), (6, pv b5 0), (10, pv b18 0), (11, pv b20 0), (12, iv r11.2.2), (13, pv b31 0), (14, Sl.v s26), (15, iv r22.2.2), (18, pv b40 0), (19, pv b107 0), (20, pv b109 0), (21, iv (0 : Int)), (144, .bool y124)]) (L' := (.blk b3 (enc a1) 3) :: (.blk b109 (enc Num.zero) 61) :: (.blk b107 (enc (SkeenR.mk a0 s_a0_2)) 59) :: (.own Sl.nil 77 4 (encs ([] : List Wait))) :: (.blk b40 (enc (SkeenR.mk Skeen.zero Sl.nil)) 59) :: (.own Sl.nil 77 4 (encs ([] : List Wait))) :: (.blk b37 (enc r33.1) 61) :: (.blk b31 (enc (SkeenR.mk r22.1 s24)) 59) :: (.own Sl.nil 77 4 (encs ([] : List Wait))) :: (.own s24 77 4 (encs r22.1.Wait)) :: (.own s26 3 1 (encs r22.2.1)) :: (.blk b20 (enc r11.2.1) 61) :: (.blk b18 (enc (SkeenR.mk r11.1 s13)) 59) :: (.own Sl.nil 77 4 (encs ([] : List Wait))) :: (.own s13 77 4 (encs r11.1.Wait)) :: (.blk b5 (enc a2) 61) :: (.blk b1 (enc (SkeenR.mk a0 s_a0_2)) 59) :: L) ⟨rfl, rfl, rfl, rfl, rfl, rfl, rfl, rfl, rfl, rfl, rfl, rfl, rfl, rfl, trivial⟩ rfl ?_
  replace H := HKo123
  refine Lst.r (Ev.assign rfl) ?_
  refine Lst.nil ?_
  refine At.then ?_
  rcases Bool.eq_false_or_eq_true y124 with hb128 | hb128
  ·replace H := ite_t hb128 H
   refine Cd.condT rfl hb128 ?_
   refine Cd.region ?_
   refine Lst.r (Ev.assign rfl) ?_
   refine Lst.nil ?_
   refine At.in_normal ?_
   refine At.front (i := 15) rfl rfl ?_
   refine At.front (i := 15) rfl rfl ?_
   refine At.front (i := 15) rfl (L' := (.own Sl.nil 77 4 (encs ([] : List Wait))) :: (.own s13 77 4 (encs r11.1.Wait)) :: (.blk b5 (enc a2) 61) :: (.blk b3 (enc a1) 3) :: (.blk b109 (enc Num.zero) 61) :: (.blk b107 (enc (SkeenR.mk a0 s_a0_2)) 59) :: (.own Sl.nil 77 4 (encs ([] : List Wait))) :: (.blk b40 (enc (SkeenR.mk Skeen.zero Sl.nil)) 59) :: (.own Sl.nil 77 4 (encs ([] : List Wait))) :: (.blk b37 (enc r33.1) 61) :: (.blk b31 (enc (SkeenR.mk r22.1 s24)) 59) :: (.own Sl.nil 77 4 (encs ([] : List Wait))) :: (.own s24 77 4 (encs r22.1.Wait)) :: (.own s26 3 1 (encs r22.2.1)) :: (.blk b20 (enc r11.2.1) 61) :: (.blk b18 (enc (SkeenR.mk r11.1 s13)) 59) :: (.blk b1 (enc (SkeenR.mk a0 s_a0_2)) 59) :: L) rfl ?_
   refine At.front (i := 15) rfl rfl ?_
   refine At.front (i := 15) rfl rfl ?_
   refine At.front (i := 15) rfl (L' := (.own s26 3 1 (encs r22.2.1)) :: (.blk b20 (enc r11.2.1) 61) :: (.blk b18 (enc (SkeenR.mk r11.1 s13)) 59) :: (.own Sl.nil 77 4 (encs ([] : List Wait))) :: (.own s13 77 4 (encs r11.1.Wait)) :: (.blk b5 (enc a2) 61) :: (.blk b3 (enc a1) 3) :: (.blk b109 (enc Num.zero) 61) :: (.blk b107 (enc (SkeenR.mk a0 s_a0_2)) 59) :: (.own Sl.nil 77 4 (encs ([] : List Wait))) :: (.blk b40 (enc (SkeenR.mk Skeen.zero Sl.nil)) 59) :: (.own Sl.nil 77 4 (encs ([] : List Wait))) :: (.blk b37 (enc r33.1) 61) :: (.blk b31 (enc (SkeenR.mk r22.1 s24)) 59) :: (.own Sl.nil 77 4 (encs ([] : List Wait))) :: (.own s24 77 4 (encs r22.1.Wait)) :: (.blk b1 (enc (SkeenR.mk a0 s_a0_2)) 59) :: L) rfl ?_
   refine At.front (i := 15) rfl rfl ?_
   refine At.front (i := 15) rfl rfl ?_
   refine At.front (i := 15) rfl (L' := (.blk b31 (enc (SkeenR.mk r22.1 s24)) 59) :: (.own Sl.nil 77 4 (encs ([] : List Wait))) :: (.own s24 77 4 (encs r22.1.Wait)) :: (.own s26 3 1 (encs r22.2.1)) :: (.blk b20 (enc r11.2.1) 61) :: (.blk b18 (enc (SkeenR.mk r11.1 s13)) 59) :: (.own Sl.nil 77 4 (encs ([] : List Wait))) :: (.own s13 77 4 (encs r11.1.Wait)) :: (.blk b5 (enc a2) 61) :: (.blk b3 (enc a1) 3) :: (.blk b109 (enc Num.zero) 61) :: (.blk b107 (enc (SkeenR.mk a0 s_a0_2)) 59) :: (.own Sl.nil 77 4 (encs ([] : List Wait))) :: (.blk b40 (enc (SkeenR.mk Skeen.zero Sl.nil)) 59) :: (.own Sl.nil 77 4 (encs ([] : List Wait))) :: (.blk b37 (enc r33.1) 61) :: (.blk b1 (enc (SkeenR.mk a0 s_a0_2)) 59) :: L) rfl ?_
   refine At.front (i := 15) rfl rfl ?_
   refine At.front (i := 15) rfl rfl ?_
   refine At.front (i := 15) rfl (L' := (.blk b40 (enc (SkeenR.mk Skeen.zero Sl.nil)) 59) :: (.own Sl.nil 77 4 (encs ([] : List Wait))) :: (.blk b37 (enc r33.1) 61) :: (.blk b31 (enc (SkeenR.mk r22.1 s24)) 59) :: (.own Sl.nil 77 4 (encs ([] : List Wait))) :: (.own s24 77 4 (encs r22.1.Wait)) :: (.own s26 3 1 (encs r22.2.1)) :: (.blk b20 (enc r11.2.1) 61) :: (.blk b18 (enc (SkeenR.mk r11.1 s13)) 59) :: (.own Sl.nil 77 4 (encs ([] : List Wait))) :: (.own s13 77 4 (encs r11.1.Wait)) :: (.blk b5 (enc a2) 61) :: (.blk b3 (enc a1) 3) :: (.blk b109 (enc Num.zero) 61) :: (.blk b107 (enc (SkeenR.mk a0 s_a0_2)) 59) :: (.own Sl.nil 77 4 (encs ([] : List Wait))) :: (.blk b1 (enc (SkeenR.mk a0 s_a0_2)) 59) :: L) rfl ?_
   refine At.front (i := 15) rfl rfl ?_
   refine At.front (i := 15) rfl rfl ?_
   refine At.front (i := 15) rfl (L' := (.blk b109 (enc Num.zero) 61) :: (.blk b107 (enc (SkeenR.mk a0 s_a0_2)) 59) :: (.own Sl.nil 77 4 (encs ([] : List Wait))) :: (.blk b40 (enc (SkeenR.mk Skeen.zero Sl.nil)) 59) :: (.own Sl.nil 77 4 (encs ([] : List Wait))) :: (.blk b37 (enc r33.1) 61) :: (.blk b31 (enc (SkeenR.mk r22.1 s24)) 59) :: (.own Sl.nil 77 4 (encs ([] : List Wait))) :: (.own s24 77 4 (encs r22.1.Wait)) :: (.own s26 3 1 (encs r22.2.1)) :: (.blk b20 (enc r11.2.1) 61) :: (.blk b18 (enc (SkeenR.mk r11.1 s13)) 59) :: (.own Sl.nil 77 4 (encs ([] : List Wait))) :: (.own s13 77 4 (encs r11.1.Wait)) :: (.blk b5 (enc a2) 61) :: (.blk b3 (enc a1) 3) :: (.blk b1 (enc (SkeenR.mk a0 s_a0_2)) 59) :: L) rfl ?_
   exact At.meet ((8 : Int), Num.zero, a0, s_a0_2) hF127 ⟨rfl, rfl, rfl, rfl, rfl, rfl, rfl, rfl, rfl, rfl, rfl, rfl, rfl, trivial⟩ rfl ⟨some_inj H, (hs_a0_2.mono (FLe.trans (FLe.trans (FLe.trans hF16 hF29) hF71) hF127) (.refl _))⟩
  replace H := ite_f hb128 H
  refine Cd.condF rfl hb128 ?_
  refine Cd.seq ?_
  refine Cd.region ?_
  refine Lst.r (Ev.fieldAddr (off' := 1) rfl Try.runUnderlying59 rfl Try.sizeOf3 rfl rfl) ?_
  refine Lst.r (Ev.load (i := 16) rfl rfl Try.isAgg3 (v := iv a0.Clock) ((SkeenR.get_Clock (Get.here _)).off (by rfl))) ?_
  refine Lst.r (Ev.add rfl rfl) ?_
  refine Lst.r (Ev.fieldAddr (off' := 0) rfl Try.runUnderlying59 rfl Try.sizeOf3 rfl rfl) ?_
  refine Lst.r (Ev.load (i := 16) rfl rfl Try.isAgg3 (v := iv a0.Me) ((SkeenR.get_Me (Get.here _)).off (by rfl))) ?_
  refine Lst.r (Ev.build (v := .agg (enc ({ Num.zero with N := w64 (a0.Clock + (1 : Int)), By := a0.Me } : Num)).toArray) (pv := [(0, iv (w64 (a0.Clock + (1 : Int)))), (1, iv a0.Me)]) ⟨rfl, rfl, ⟨rfl, rfl, trivial⟩⟩ (fun w => by kernel_rfl)) ?_
  refine Lst.store (i := 1) rfl rfl rfl rfl rfl Try.sizeOf61 (vs := enc ({ Num.zero with N := w64 (a0.Clock + (1 : Int)), By := a0.Me } : Num)) rfl (Enc.len _) (Enc.one _) (cs' := enc ({ Num.zero with N := w64 (a0.Clock + (1 : Int)), By := a0.Me } : Num)) (Put.here ((Enc.len _).trans (Enc.len _).symm)) (L' := (.blk b3 (enc a1) 3) :: (.blk b109 (enc ({ Num.zero with N := w64 (a0.Clock + (1 : Int)), By := a0.Me } : Num)) 61) :: (.blk b107 (enc (SkeenR.mk a0 s_a0_2)) 59) :: (.own Sl.nil 77 4 (encs ([] : List Wait))) :: (.blk b40 (enc (SkeenR.mk Skeen.zero Sl.nil)) 59) :: (.own Sl.nil 77 4 (encs ([] : List Wait))) :: (.blk b37 (enc r33.1) 61) :: (.blk b31 (enc (SkeenR.mk r22.1 s24)) 59) :: (.own Sl.nil 77 4 (encs ([] : List Wait))) :: (.own s24 77 4 (encs r22.1.Wait)) :: (.own s26 3 1 (encs r22.2.1)) :: (.blk b20 (enc r11.2.1) 61) :: (.blk b18 (enc (SkeenR.mk r11.1 s13)) 59) :: (.own Sl.nil 77 4 (encs ([] : List Wait))) :: (.own s13 77 4 (encs r11.1.Wait)) :: (.blk b5 (enc a2) 61) :: (.blk b1 (enc (SkeenR.mk a0 s_a0_2)) 59) :: L) rfl ?_
  refine Lst.nil ?_
  refine At.then ?_
  obtain ⟨r139, h140, H⟩ := bind_some H
  obtain ⟨o148, h149, H⟩ := Let_some H
  refine Cd.headMeet (σ := Sl × (List Wait)) 13 (fun (s146, l147) => [(4, pv b1 0), (5, pv b3 0), (6, pv b5 0), (10, pv b18 0), (11, pv b20 0), (12, iv r11.2.2), (13, pv b31 0), (14, Sl.v s26), (15, iv r22.2.2), (18, pv b40 0), (19, pv b107 0), (20, pv b109 0), (21, iv (0 : Int)), (114, iv a0.Me), (117, iv (w64 (a0.Clock + (1 : Int)))), (125, Sl.v s146)]) (fun (s146, l147) => (.own s146 77 4 (encs l147)) :: (.blk b3 (enc a1) 3) :: (.blk b109 (enc ({ Num.zero with N := w64 (a0.Clock + (1 : Int)), By := a0.Me } : Num)) 61) :: (.blk b107 (enc (SkeenR.mk a0 s_a0_2)) 59) :: (.own Sl.nil 77 4 (encs ([] : List Wait))) :: (.blk b40 (enc (SkeenR.mk Skeen.zero Sl.nil)) 59) :: (.own Sl.nil 77 4 (encs ([] : List Wait))) :: (.blk b37 (enc r33.1) 61) :: (.blk b31 (enc (SkeenR.mk r22.1 s24)) 59) :: (.own Sl.nil 77 4 (encs ([] : List Wait))) :: (.own s24 77 4 (encs r22.1.Wait)) :: (.own s26 3 1 (encs r22.2.1)) :: (.blk b20 (enc r11.2.1) 61) :: (.blk b18 (enc (SkeenR.mk r11.1 s13)) 59) :: (.own Sl.nil 77 4 (encs ([] : List Wait))) :: (.own s13 77 4 (encs r11.1.Wait)) :: (.blk b5 (enc a2) 61) :: (.blk b1 (enc (SkeenR.mk a0 s_a0_2)) 59) :: L) (fun _ (s146, l147) => l147 = o148) (by kernel_rfl) (by kernel_rfl) (behind_sink (by kernel_rfl) (by kernel_rfl) (by kernel_rfl)) (by kernel_rfl) (fun hsel hlt => ?_) ?_
  ·refine HdJ.keep (fun w => St w0 F126 ((.blk b3 (enc a1) 3) :: (.blk b109 (enc ({ Num.zero with N := w64 (a0.Clock + (1 : Int)), By := a0.Me } : Num)) 61) :: (.blk b107 (enc (SkeenR.mk a0 s_a0_2)) 59) :: (.own Sl.nil 77 4 (encs ([] : List Wait))) :: (.blk b40 (enc (SkeenR.mk Skeen.zero Sl.nil)) 59) :: (.own Sl.nil 77 4 (encs ([] : List Wait))) :: (.blk b37 (enc r33.1) 61) :: (.blk b31 (enc (SkeenR.mk r22.1 s24)) 59) :: (.own Sl.nil 77 4 (encs ([] : List Wait))) :: (.own s24 77 4 (encs r22.1.Wait)) :: (.own s26 3 1 (encs r22.2.1)) :: (.blk b20 (enc r11.2.1) 61) :: (.blk b18 (enc (SkeenR.mk r11.1 s13)) 59) :: (.own Sl.nil 77 4 (encs ([] : List Wait))) :: (.own s13 77 4 (encs r11.1.Wait)) :: (.blk b5 (enc a2) 61) :: (.blk b1 (enc (SkeenR.mk a0 s_a0_2)) 59) :: L) w) (fun w h => trivial) ?_
   refine HdJ.tk hsel hlt 0 (fun w h => h.sublist (sk1 (sk1 (sk1 (sk1 (sk1 (sk1 (sk1 (sk1 (sk1 (sk1 (sk1 (sk1 (sk1 (sk1 (sk1 (sk1 (sk1 (.refl _))))))))))))))))))) rfl (Ev.fieldAddr (off' := 0) rfl Try.runUnderlying59 rfl Try.sizeOf3 rfl rfl) ?_
   refine HdJ.tk hsel hlt 1 (fun w h => h.sublist (sk1 (sk1 (sk1 (sk1 (sk1 (sk1 (sk1 (sk1 (sk1 (sk1 (sk1 (sk1 (sk1 (sk1 (sk1 (sk1 (sk1 (.refl _))))))))))))))))))) rfl (Ev.load (i := 16) rfl rfl Try.isAgg3 (v := iv a0.Me) ((SkeenR.get_Me (Get.here _)).off (by rfl))) ?_
   refine HdJ.tk hsel hlt 2 (fun w h => h.sublist (sk1 (sk1 (sk1 (sk1 (sk1 (sk1 (sk1 (sk1 (sk1 (sk1 (sk1 (sk1 (sk1 (sk1 (sk1 (sk1 (sk1 (.refl _))))))))))))))))))) rfl (Ev.fieldAddr (off' := 1) rfl Try.runUnderlying59 rfl Try.sizeOf3 rfl rfl) ?_
   refine HdJ.tk hsel hlt 3 (fun w h => h.sublist (sk1 (sk1 (sk1 (sk1 (sk1 (sk1 (sk1 (sk1 (sk1 (sk1 (sk1 (sk1 (sk1 (sk1 (sk1 (sk1 (sk1 (.refl _))))))))))))))))))) rfl (Ev.load (i := 16) rfl rfl Try.isAgg3 (v := iv a0.Clock) ((SkeenR.get_Clock (Get.here _)).off (by rfl))) ?_
   refine HdJ.tk hsel hlt 4 (fun w h => h.sublist (sk1 (sk1 (sk1 (sk1 (sk1 (sk1 (sk1 (sk1 (sk1 (sk1 (sk1 (sk1 (sk1 (sk1 (sk1 (sk1 (sk1 (.refl _))))))))))))))))))) rfl (Ev.add rfl rfl) ?_
   refine HdJ.tk hsel hlt 5 (fun w h => h.sublist (sk1 (sk1 (sk1 (sk1 (sk1 (sk1 (sk1 (sk1 (sk1 (sk1 (sk1 (sk1 (sk1 (sk1 (sk1 (sk1 (sk1 (.refl _))))))))))))))))))) rfl (Ev.fieldAddr (off' := 2) rfl Try.runUnderlying59 rfl Try.sizeOf57 rfl rfl) ?_
   refine HdJ.tk hsel hlt 6 (fun w h => h.sublist (sk1 (sk1 (sk1 (sk1 (sk1 (sk1 (sk1 (sk1 (sk1 (sk1 (sk1 (sk1 (sk1 (sk1 (sk1 (sk1 (sk1 (.refl _))))))))))))))))))) rfl (Ev.load (i := 16) rfl rfl Try.isAgg57 (v := Sl.v s_a0_2) ((SkeenR.get_Wait (Get.here _)).off (by rfl))) ?_
   refine HdJ.tk hsel hlt 7 (fun w h => h.sublist (sk1 (sk1 (sk1 (sk1 (sk1 (sk1 (sk1 (sk1 (sk1 (sk1 (sk1 (sk1 (sk1 (sk1 (sk1 (sk1 (sk1 (.refl _))))))))))))))))))) rfl (Ev.load (i := 0) rfl rfl Try.isAgg3 (v := iv a1) (Get.here _)) ?_
   refine HdJ.tk hsel hlt 8 (fun w h => h.sublist (sk1 (sk1 (sk1 (sk1 (sk1 (sk1 (sk1 (sk1 (sk1 (sk1 (sk1 (sk1 (sk1 (sk1 (sk1 (sk1 (sk1 (.refl _))))))))))))))))))) rfl (Ev.loadA (i := 1) rfl rfl Try.isAgg61 Try.sizeOf61 (ch := enc ({ Num.zero with N := w64 (a0.Clock + (1 : Int)), By := a0.Me } : Num)) (Enc.len _) (Get.here _)) ?_
   refine HdJ.tk hsel hlt 9 (fun w h => h.sublist (sk1 (sk1 (sk1 (sk1 (sk1 (sk1 (sk1 (sk1 (sk1 (sk1 (sk1 (sk1 (sk1 (sk1 (sk1 (sk1 (sk1 (.refl _))))))))))))))))))) rfl (Ev.build (v := .agg (enc ({ Wait.zero with Id := a1, Num_ := ({ Num.zero with N := w64 (a0.Clock + (1 : Int)), By := a0.Me } : Num) } : Wait)).toArray) (pv := [(0, iv a1), (1, .agg (enc ({ Num.zero with N := w64 (a0.Clock + (1 : Int)), By := a0.Me } : Num)).toArray)]) ⟨rfl, rfl, ⟨rfl, rfl, trivial⟩⟩ (run_buildStruct (places := #[(0, 1), (1, 2), (3, 1)]) Try.zeroValue77 (zs := enc Wait.zero) rfl Try.runUnderlying77 (fun w => by kernel_rfl) (fill_cons (cs := enc Wait.zero) (cs' := enc ({ Wait.zero with Id := a1 } : Wait)) (vs := [iv a1]) rfl rfl rfl ((Wait.put_Id (p := Wait.zero) (y := a1) (Put.here (vs := [iv a1]) rfl)).off rfl) (fill_cons (cs := enc ({ Wait.zero with Id := a1 } : Wait)) (cs' := enc ({ Wait.zero with Id := a1, Num_ := ({ Num.zero with N := w64 (a0.Clock + (1 : Int)), By := a0.Me } : Num) } : Wait)) (vs := enc ({ Num.zero with N := w64 (a0.Clock + (1 : Int)), By := a0.Me } : Num)) rfl rfl (Enc.len _) ((Wait.put_Num_ (p := ({ Wait.zero with Id := a1 } : Wait)) (y := ({ Num.zero with N := w64 (a0.Clock + (1 : Int)), By := a0.Me } : Num)) (Put.here ((Enc.len _).trans (Enc.len _).symm))).off rfl) fill_nil)))) ?_
   refine HdJ.step [10] (by kernel_rfl) rfl ?_
   refine HdStep.c (fun inv => ?_) ?_
   ·refine Lst.buildSlice (α := Wait) (xs := ([({ Wait.zero with Id := a1, Num_ := ({ Num.zero with N := w64 (a0.Clock + (1 : Int)), By := a0.Me } : Num) } : Wait)] : List Wait)) (pv := [(0, .agg (enc ({ Wait.zero with Id := a1, Num_ := ({ Num.zero with N := w64 (a0.Clock + (1 : Int)), By := a0.Me } : Num) } : Wait)).toArray)]) rfl rfl (by decide) ⟨rfl, rfl, trivial⟩ (run_buildSlice (α := Wait) (z0 := Wait.zero) (xs := ([({ Wait.zero with Id := a1, Num_ := ({ Num.zero with N := w64 (a0.Clock + (1 : Int)), By := a0.Me } : Num) } : Wait)] : List Wait)) Try.runUnderlying57 Try.sizeOf77 Try.zeroValue77 rfl rfl rfl (by decide) rfl (fill_cons (cs := encs (List.replicate 1 Wait.zero)) (cs' := encs ((List.replicate 1 Wait.zero).set 0 ({ Wait.zero with Id := a1, Num_ := ({ Num.zero with N := w64 (a0.Clock + (1 : Int)), By := a0.Me } : Num) } : Wait))) (vs := enc ({ Wait.zero with Id := a1, Num_ := ({ Num.zero with N := w64 (a0.Clock + (1 : Int)), By := a0.Me } : Num) } : Wait)) rfl rfl (Enc.len _) ((Put.elemN (s := 4) (i := 0) (x := Wait.zero) (y := ({ Wait.zero with Id := a1, Num_ := ({ Num.zero with N := w64 (a0.Clock + (1 : Int)), By := a0.Me } : Num) } : Wait)) rfl rfl (Put.here ((Enc.len _).trans (Enc.len _).symm))).off rfl) fill_nil)) rfl rfl (by decide) (fun s150 _ => ?_)
    refine Lst.nil ?_
    refine At.hd inv (fun w h => (h.weaken (FLe.refl _)).sublist (sc1 (sk1 (sk1 (sk1 (sk1 (sk1 (sk1 (sk1 (sk1 (sk1 (sk1 (sk1 (sk1 (sk1 (sk1 (sk1 (sk1 (sk1 (.refl _)))))))))))))))))))) ?_
    refine HdJ.step [11] (by kernel_rfl) rfl ?_
    refine HdStep.c (fun inv => ?_) ?_
    ·refine Lst.freeze (i := 0) rfl (fun F151 hF152 hz153 => ?_)
     have hq154 : Rd w0 F151 [] s150 ([({ Wait.zero with Id := a1, Num_ := ({ Num.zero with N := w64 (a0.Clock + (1 : Int)), By := a0.Me } : Num) } : Wait)] : List Wait) := Rd.frozen hz153 rfl rfl
     refine Lst.its (L' := (.blk b3 (enc a1) 3) :: (.blk b109 (enc ({ Num.zero with N := w64 (a0.Clock + (1 : Int)), By := a0.Me } : Num)) 61) :: (.blk b107 (enc (SkeenR.mk a0 s_a0_2)) 59) :: (.own Sl.nil 77 4 (encs ([] : List Wait))) :: (.blk b40 (enc (SkeenR.mk Skeen.zero Sl.nil)) 59) :: (.own Sl.nil 77 4 (encs ([] : List Wait))) :: (.blk b37 (enc r33.1) 61) :: (.blk b31 (enc (SkeenR.mk r22.1 s24)) 59) :: (.own Sl.nil 77 4 (encs ([] : List Wait))) :: (.own s24 77 4 (encs r22.1.Wait)) :: (.own s26 3 1 (encs r22.2.1)) :: (.blk b20 (enc r11.2.1) 61) :: (.blk b18 (enc (SkeenR.mk r11.1 s13)) 59) :: (.own Sl.nil 77 4 (encs ([] : List Wait))) :: (.own s13 77 4 (encs r11.1.Wait)) :: (.blk b5 (enc a2) 61) :: (.blk b1 (enc (SkeenR.mk a0 s_a0_2)) 59) :: L) rfl ?_
     have hm156 : ([(LR.mk a0.Wait s_a0_2), (LR.mk ([({ Wait.zero with Id := a1, Num_ := ({ Num.zero with N := w64 (a0.Clock + (1 : Int)), By := a0.Me } : Num) } : Wait)] : List Wait) s150)] : List (LR Wait)).map LR.v = ([a0.Wait, ([({ Wait.zero with Id := a1, Num_ := ({ Num.zero with N := w64 (a0.Clock + (1 : Int)), By := a0.Me } : Num) } : Wait)] : List Wait)] : List (List Wait)) := rfl
     have ha157 : All LR.rel w0 F151 M ([(LR.mk a0.Wait s_a0_2), (LR.mk ([({ Wait.zero with Id := a1, Num_ := ({ Num.zero with N := w64 (a0.Clock + (1 : Int)), By := a0.Me } : Num) } : Wait)] : List Wait) s150)] : List (LR Wait)) := All.of2 (hs_a0_2.mono (FLe.trans (FLe.trans (FLe.trans (FLe.trans hF16 hF29) hF71) hF127) hF152) (.refl _)) (hq154.mono (FLe.refl _) (List.nil_sublist _))
     refine Lst.buildSlice (α := LR Wait) (xs := ([(LR.mk a0.Wait s_a0_2), (LR.mk ([({ Wait.zero with Id := a1, Num_ := ({ Num.zero with N := w64 (a0.Clock + (1 : Int)), By := a0.Me } : Num) } : Wait)] : List Wait) s150)] : List (LR Wait))) (pv := [(0, Sl.v s_a0_2), (1, Sl.v s150)]) rfl rfl (by decide) ⟨rfl, rfl, ⟨rfl, rfl, trivial⟩⟩ (run_buildSlice (α := LR Wait) (z0 := ((LR.mk [] Sl.nil) : LR Wait)) (xs := ([(LR.mk a0.Wait s_a0_2), (LR.mk ([({ Wait.zero with Id := a1, Num_ := ({ Num.zero with N := w64 (a0.Clock + (1 : Int)), By := a0.Me } : Num) } : Wait)] : List Wait) s150)] : List (LR Wait))) Try.runUnderlying120 Try.sizeOf57 Try.zeroValue57 rfl rfl rfl (by decide) rfl (fill_cons (cs := encs (List.replicate 2 ((LR.mk [] Sl.nil) : LR Wait))) (cs' := encs ((List.replicate 2 ((LR.mk [] Sl.nil) : LR Wait)).set 0 (LR.mk a0.Wait s_a0_2))) (vs := [Sl.v s_a0_2]) rfl rfl rfl ((Put.elemN (s := 1) (i := 0) (x := ((LR.mk [] Sl.nil) : LR Wait)) (y := (LR.mk a0.Wait s_a0_2)) rfl rfl (Put.here (vs := [Sl.v s_a0_2]) rfl)).off rfl) (fill_cons (cs := encs ((List.replicate 2 ((LR.mk [] Sl.nil) : LR Wait)).set 0 (LR.mk a0.Wait s_a0_2))) (cs' := encs (((List.replicate 2 ((LR.mk [] Sl.nil) : LR Wait)).set 0 (LR.mk a0.Wait s_a0_2)).set 1 (LR.mk ([({ Wait.zero with Id := a1, Num_ := ({ Num.zero with N := w64 (a0.Clock + (1 : Int)), By := a0.Me } : Num) } : Wait)] : List Wait) s150))) (vs := [Sl.v s150]) rfl rfl rfl ((Put.elemN (s := 1) (i := 1) (x := ((LR.mk [] Sl.nil) : LR Wait)) (y := (LR.mk ([({ Wait.zero with Id := a1, Num_ := ({ Num.zero with N := w64 (a0.Clock + (1 : Int)), By := a0.Me } : Num) } : Wait)] : List Wait) s150)) rfl rfl (Put.here (vs := [Sl.v s150]) rfl)).off rfl) fill_nil))) rfl rfl (by decide) (fun s155 _ => ?_)
     refine Lst.nil ?_
     refine At.hd inv (fun w h => (h.weaken hF152).sublist (sc1 (sk1 (sk1 (sk1 (sk1 (sk1 (sk1 (sk1 (sk1 (sk1 (sk1 (sk1 (sk1 (sk1 (sk1 (sk1 (sk1 (sk1 (.refl _)))))))))))))))))))) ?_
     refine HdJ.step [12] (by kernel_rfl) rfl ?_
     refine HdStep.c (fun inv => ?_) ?_
     ·refine Lst.call rfl rfl (by decide) (vs := [Sl.v s155]) ⟨rfl, trivial⟩ Try.call42 (slices_Concat_api_Wait_api_Wait_sim h140 w0 _ _ _ (.refl _) hm156 (Rd.own (i := 0) rfl rfl rfl) (All.monoLR ha157 (FLe.refl _) (sc8 (sc8 (sc2 hM))))) (fun F159 L' v hF160 hv => ?_)
      obtain ⟨s158, rfl, rfl⟩ := hv
      refine Lst.nil ?_
      refine At.hd inv (fun w h => (h.weaken (FLe.trans hF152 hF160)).sublist (sc1 (sc1 (sk1 (sk1 (sk1 (sk1 (sk1 (sk1 (sk1 (sk1 (sk1 (sk1 (sk1 (sk1 (sk1 (sk1 (sk1 (sk1 (sk1 (.refl _))))))))))))))))))))) ?_
      refine HdJ.done (by kernel_rfl) ?_
      refine At.less (L' := (.own s158 77 4 (encs r139)) :: (.blk b3 (enc a1) 3) :: (.blk b109 (enc ({ Num.zero with N := w64 (a0.Clock + (1 : Int)), By := a0.Me } : Num)) 61) :: (.blk b107 (enc (SkeenR.mk a0 s_a0_2)) 59) :: (.own Sl.nil 77 4 (encs ([] : List Wait))) :: (.blk b40 (enc (SkeenR.mk Skeen.zero Sl.nil)) 59) :: (.own Sl.nil 77 4 (encs ([] : List Wait))) :: (.blk b37 (enc r33.1) 61) :: (.blk b31 (enc (SkeenR.mk r22.1 s24)) 59) :: (.own Sl.nil 77 4 (encs ([] : List Wait))) :: (.own s24 77 4 (encs r22.1.Wait)) :: (.own s26 3 1 (encs r22.2.1)) :: (.blk b20 (enc r11.2.1) 61) :: (.blk b18 (enc (SkeenR.mk r11.1 s13)) 59) :: (.own Sl.nil 77 4 (encs ([] : List Wait))) :: (.own s13 77 4 (encs r11.1.Wait)) :: (.blk b5 (enc a2) 61) :: (.blk b1 (enc (SkeenR.mk a0 s_a0_2)) 59) :: L) (sk1 (sc1 (sk1 (sk1 (sk1 (sk1 (sk1 (sk1 (sk1 (sk1 (sk1 (sk1 (sk1 (sk1 (sk1 (sk1 (sk1 (sk1 (sk1 (.refl _)))))))))))))))))))) ?_
      exact At.meetN (s158, r139) (FLe.trans hF152 hF160) ⟨rfl, rfl, rfl, rfl, rfl, rfl, rfl, rfl, rfl, rfl, rfl, rfl, rfl, rfl, rfl, rfl, trivial⟩ rfl h149
     exact trivial
    exact trivial
   exact trivial
  rintro F161 ⟨s146, l147⟩ hF162 hy
  subst hy
  refine Lst.as (e' := [(4, pv b1 0), (5, pv b3 0), (6, pv b5 0), (10, pv b18 0), (11, pv b20 0), (12, iv r11.2.2), (13, pv b31 0), (14, Sl.v s26), (15, iv r22.2.2), (18, pv b40 0), (19, pv b107 0), (20, pv b109 0), (21, iv (0 : Int)), (114, iv a0.Me), (117, iv (w64 (a0.Clock + (1 : Int)))), (125, Sl.v s146)]) (L' := (.own s146 77 4 (encs l147)) :: (.blk b3 (enc a1) 3) :: (.blk b109 (enc ({ Num.zero with N := w64 (a0.Clock + (1 : Int)), By := a0.Me } : Num)) 61) :: (.blk b107 (enc (SkeenR.mk a0 s_a0_2)) 59) :: (.own Sl.nil 77 4 (encs ([] : List Wait))) :: (.blk b40 (enc (SkeenR.mk Skeen.zero Sl.nil)) 59) :: (.own Sl.nil 77 4 (encs ([] : List Wait))) :: (.blk b37 (enc r33.1) 61) :: (.blk b31 (enc (SkeenR.mk r22.1 s24)) 59) :: (.own Sl.nil 77 4 (encs ([] : List Wait))) :: (.own s24 77 4 (encs r22.1.Wait)) :: (.own s26 3 1 (encs r22.2.1)) :: (.blk b20 (enc r11.2.1) 61) :: (.blk b18 (enc (SkeenR.mk r11.1 s13)) 59) :: (.own Sl.nil 77 4 (encs ([] : List Wait))) :: (.own s13 77 4 (encs r11.1.Wait)) :: (.blk b5 (enc a2) 61) :: (.blk b1 (enc (SkeenR.mk a0 s_a0_2)) 59) :: L) ⟨rfl, rfl, rfl, rfl, rfl, rfl, rfl, rfl, rfl, rfl, rfl, rfl, rfl, rfl, rfl, rfl, trivial⟩ rfl ?_
  refine Lst.r (Ev.build (v := .agg (enc (SkeenR.mk ({ Skeen.zero with Me := a0.Me, Clock := w64 (a0.Clock + (1 : Int)), Wait := l147 } : Skeen) s146)).toArray) (pv := [(0, iv a0.Me), (1, iv (w64 (a0.Clock + (1 : Int)))), (2, Sl.v s146)]) ⟨rfl, rfl, ⟨rfl, rfl, ⟨rfl, rfl, trivial⟩⟩⟩ (run_buildStruct (places := #[(0, 1), (1, 1), (2, 1)]) Try.zeroValue59 (zs := enc (SkeenR.mk Skeen.zero Sl.nil)) rfl Try.runUnderlying59 (fun w => by kernel_rfl) (fill_cons (cs := enc (SkeenR.mk Skeen.zero Sl.nil)) (cs' := enc (SkeenR.mk ({ Skeen.zero with Me := a0.Me } : Skeen) Sl.nil)) (vs := [iv a0.Me]) rfl rfl rfl ((SkeenR.put_Me (p := (SkeenR.mk Skeen.zero Sl.nil)) (y := a0.Me) (Put.here (vs := [iv a0.Me]) rfl)).off rfl) (fill_cons (cs := enc (SkeenR.mk ({ Skeen.zero with Me := a0.Me } : Skeen) Sl.nil)) (cs' := enc (SkeenR.mk ({ Skeen.zero with Me := a0.Me, Clock := w64 (a0.Clock + (1 : Int)) } : Skeen) Sl.nil)) (vs := [iv (w64 (a0.Clock + (1 : Int)))]) rfl rfl rfl ((SkeenR.put_Clock (p := (SkeenR.mk ({ Skeen.zero with Me := a0.Me } : Skeen) Sl.nil)) (y := (w64 (a0.Clock + (1 : Int)))) (Put.here (vs := [iv (w64 (a0.Clock + (1 : Int)))]) rfl)).off rfl) (fill_cons (cs := enc (SkeenR.mk ({ Skeen.zero with Me := a0.Me, Clock := w64 (a0.Clock + (1 : Int)) } : Skeen) Sl.nil)) (cs' := enc (SkeenR.mk ({ Skeen.zero with Me := a0.Me, Clock := w64 (a0.Clock + (1 : Int)), Wait := l147 } : Skeen) s146)) (vs := [Sl.v s146]) rfl rfl rfl ((SkeenR.put_Wait (p := (SkeenR.mk ({ Skeen.zero with Me := a0.Me, Clock := w64 (a0.Clock + (1 : Int)) } : Skeen) Sl.nil)) (y := s146) (Put.here (vs := [Sl.v s146]) rfl)).off rfl) fill_nil))))) ?_
  refine Lst.store (i := 3) rfl rfl rfl rfl rfl Try.sizeOf59 (vs := enc (SkeenR.mk ({ Skeen.zero with Me := a0.Me, Clock := w64 (a0.Clock + (1 : Int)), Wait := l147 } : Skeen) s146)) rfl (Enc.len _) (Enc.one _) (cs' := enc (SkeenR.mk ({ Skeen.zero with Me := a0.Me, Clock := w64 (a0.Clock + (1 : Int)), Wait := l147 } : Skeen) s146)) (Put.here ((Enc.len _).trans (Enc.len _).symm)) (L' := (.own s146 77 4 (encs l147)) :: (.blk b3 (enc a1) 3) :: (.blk b109 (enc ({ Num.zero with N := w64 (a0.Clock + (1 : Int)), By := a0.Me } : Num)) 61) :: (.blk b107 (enc (SkeenR.mk ({ Skeen.zero with Me := a0.Me, Clock := w64 (a0.Clock + (1 : Int)), Wait := l147 } : Skeen) s146)) 59) :: (.own Sl.nil 77 4 (encs ([] : List Wait))) :: (.blk b40 (enc (SkeenR.mk Skeen.zero Sl.nil)) 59) :: (.own Sl.nil 77 4 (encs ([] : List Wait))) :: (.blk b37 (enc r33.1) 61) :: (.blk b31 (enc (SkeenR.mk r22.1 s24)) 59) :: (.own Sl.nil 77 4 (encs ([] : List Wait))) :: (.own s24 77 4 (encs r22.1.Wait)) :: (.own s26 3 1 (encs r22.2.1)) :: (.blk b20 (enc r11.2.1) 61) :: (.blk b18 (enc (SkeenR.mk r11.1 s13)) 59) :: (.own Sl.nil 77 4 (encs ([] : List Wait))) :: (.own s13 77 4 (encs r11.1.Wait)) :: (.blk b5 (enc a2) 61) :: (.blk b1 (enc (SkeenR.mk a0 s_a0_2)) 59) :: L) rfl ?_
  refine Lst.nil ?_
  refine At.in_normal ?_
  refine At.freeze (i := 0) rfl (fun F163 hF164 hz165 => ?_)
  have hq166 : Rd w0 F163 [] s146 l147 := Rd.frozen hz165 rfl rfl
  refine At.its (L' := (.blk b3 (enc a1) 3) :: (.blk b109 (enc ({ Num.zero with N := w64 (a0.Clock + (1 : Int)), By := a0.Me } : Num)) 61) :: (.blk b107 (enc (SkeenR.mk ({ Skeen.zero with Me := a0.Me, Clock := w64 (a0.Clock + (1 : Int)), Wait := l147 } : Skeen) s146)) 59) :: (.own Sl.nil 77 4 (encs ([] : List Wait))) :: (.blk b40 (enc (SkeenR.mk Skeen.zero Sl.nil)) 59) :: (.own Sl.nil 77 4 (encs ([] : List Wait))) :: (.blk b37 (enc r33.1) 61) :: (.blk b31 (enc (SkeenR.mk r22.1 s24)) 59) :: (.own Sl.nil 77 4 (encs ([] : List Wait))) :: (.own s24 77 4 (encs r22.1.Wait)) :: (.own s26 3 1 (encs r22.2.1)) :: (.blk b20 (enc r11.2.1) 61) :: (.blk b18 (enc (SkeenR.mk r11.1 s13)) 59) :: (.own Sl.nil 77 4 (encs ([] : List Wait))) :: (.own s13 77 4 (encs r11.1.Wait)) :: (.blk b5 (enc a2) 61) :: (.blk b1 (enc (SkeenR.mk a0 s_a0_2)) 59) :: L) rfl ?_
  refine At.front (i := 15) rfl rfl ?_
  refine At.front (i := 15) rfl rfl ?_
  refine At.front (i := 15) rfl (L' := (.own Sl.nil 77 4 (encs ([] : List Wait))) :: (.own s13 77 4 (encs r11.1.Wait)) :: (.blk b5 (enc a2) 61) :: (.blk b3 (enc a1) 3) :: (.blk b109 (enc ({ Num.zero with N := w64 (a0.Clock + (1 : Int)), By := a0.Me } : Num)) 61) :: (.blk b107 (enc (SkeenR.mk ({ Skeen.zero with Me := a0.Me, Clock := w64 (a0.Clock + (1 : Int)), Wait := l147 } : Skeen) s146)) 59) :: (.own Sl.nil 77 4 (encs ([] : List Wait))) :: (.blk b40 (enc (SkeenR.mk Skeen.zero Sl.nil)) 59) :: (.own Sl.nil 77 4 (encs ([] : List Wait))) :: (.blk b37 (enc r33.1) 61) :: (.blk b31 (enc (SkeenR.mk r22.1 s24)) 59) :: (.own Sl.nil 77 4 (encs ([] : List Wait))) :: (.own s24 77 4 (encs r22.1.Wait)) :: (.own s26 3 1 (encs r22.2.1)) :: (.blk b20 (enc r11.2.1) 61) :: (.blk b18 (enc (SkeenR.mk r11.1 s13)) 59) :: (.blk b1 (enc (SkeenR.mk a0 s_a0_2)) 59) :: L) rfl ?_
  refine At.front (i := 15) rfl rfl ?_
  refine At.front (i := 15) rfl rfl ?_
  refine At.front (i := 15) rfl (L' := (.own s26 3 1 (encs r22.2.1)) :: (.blk b20 (enc r11.2.1) 61) :: (.blk b18 (enc (SkeenR.mk r11.1 s13)) 59) :: (.own Sl.nil 77 4 (encs ([] : List Wait))) :: (.own s13 77 4 (encs r11.1.Wait)) :: (.blk b5 (enc a2) 61) :: (.blk b3 (enc a1) 3) :: (.blk b109 (enc ({ Num.zero with N := w64 (a0.Clock + (1 : Int)), By := a0.Me } : Num)) 61) :: (.blk b107 (enc (SkeenR.mk ({ Skeen.zero with Me := a0.Me, Clock := w64 (a0.Clock + (1 : Int)), Wait := l147 } : Skeen) s146)) 59) :: (.own Sl.nil 77 4 (encs ([] : List Wait))) :: (.blk b40 (enc (SkeenR.mk Skeen.zero Sl.nil)) 59) :: (.own Sl.nil 77 4 (encs ([] : List Wait))) :: (.blk b37 (enc r33.1) 61) :: (.blk b31 (enc (SkeenR.mk r22.1 s24)) 59) :: (.own Sl.nil 77 4 (encs ([] : List Wait))) :: (.own s24 77 4 (encs r22.1.Wait)) :: (.blk b1 (enc (SkeenR.mk a0 s_a0_2)) 59) :: L) rfl ?_
  refine At.front (i := 15) rfl rfl ?_
  refine At.front (i := 15) rfl rfl ?_
  refine At.front (i := 15) rfl (L' := (.blk b31 (enc (SkeenR.mk r22.1 s24)) 59) :: (.own Sl.nil 77 4 (encs ([] : List Wait))) :: (.own s24 77 4 (encs r22.1.Wait)) :: (.own s26 3 1 (encs r22.2.1)) :: (.blk b20 (enc r11.2.1) 61) :: (.blk b18 (enc (SkeenR.mk r11.1 s13)) 59) :: (.own Sl.nil 77 4 (encs ([] : List Wait))) :: (.own s13 77 4 (encs r11.1.Wait)) :: (.blk b5 (enc a2) 61) :: (.blk b3 (enc a1) 3) :: (.blk b109 (enc ({ Num.zero with N := w64 (a0.Clock + (1 : Int)), By := a0.Me } : Num)) 61) :: (.blk b107 (enc (SkeenR.mk ({ Skeen.zero with Me := a0.Me, Clock := w64 (a0.Clock + (1 : Int)), Wait := l147 } : Skeen) s146)) 59) :: (.own Sl.nil 77 4 (encs ([] : List Wait))) :: (.blk b40 (enc (SkeenR.mk Skeen.zero Sl.nil)) 59) :: (.own Sl.nil 77 4 (encs ([] : List Wait))) :: (.blk b37 (enc r33.1) 61) :: (.blk b1 (enc (SkeenR.mk a0 s_a0_2)) 59) :: L) rfl ?_
  refine At.front (i := 15) rfl rfl ?_
  refine At.front (i := 15) rfl rfl ?_
  refine At.front (i := 15) rfl (L' := (.blk b40 (enc (SkeenR.mk Skeen.zero Sl.nil)) 59) :: (.own Sl.nil 77 4 (encs ([] : List Wait))) :: (.blk b37 (enc r33.1) 61) :: (.blk b31 (enc (SkeenR.mk r22.1 s24)) 59) :: (.own Sl.nil 77 4 (encs ([] : List Wait))) :: (.own s24 77 4 (encs r22.1.Wait)) :: (.own s26 3 1 (encs r22.2.1)) :: (.blk b20 (enc r11.2.1) 61) :: (.blk b18 (enc (SkeenR.mk r11.1 s13)) 59) :: (.own Sl.nil 77 4 (encs ([] : List Wait))) :: (.own s13 77 4 (encs r11.1.Wait)) :: (.blk b5 (enc a2) 61) :: (.blk b3 (enc a1) 3) :: (.blk b109 (enc ({ Num.zero with N := w64 (a0.Clock + (1 : Int)), By := a0.Me } : Num)) 61) :: (.blk b107 (enc (SkeenR.mk ({ Skeen.zero with Me := a0.Me, Clock := w64 (a0.Clock + (1 : Int)), Wait := l147 } : Skeen) s146)) 59) :: (.own Sl.nil 77 4 (encs ([] : List Wait))) :: (.blk b1 (enc (SkeenR.mk a0 s_a0_2)) 59) :: L) rfl ?_
  refine At.front (i := 15) rfl rfl ?_
  refine At.front (i := 15) rfl rfl ?_
  refine At.front (i := 15) rfl (L' := (.blk b109 (enc ({ Num.zero with N := w64 (a0.Clock + (1 : Int)), By := a0.Me } : Num)) 61) :: (.blk b107 (enc (SkeenR.mk ({ Skeen.zero with Me := a0.Me, Clock := w64 (a0.Clock + (1 : Int)), Wait := l147 } : Skeen) s146)) 59) :: (.own Sl.nil 77 4 (encs ([] : List Wait))) :: (.blk b40 (enc (SkeenR.mk Skeen.zero Sl.nil)) 59) :: (.own Sl.nil 77 4 (encs ([] : List Wait))) :: (.blk b37 (enc r33.1) 61) :: (.blk b31 (enc (SkeenR.mk r22.1 s24)) 59) :: (.own Sl.nil 77 4 (encs ([] : List Wait))) :: (.own s24 77 4 (encs r22.1.Wait)) :: (.own s26 3 1 (encs r22.2.1)) :: (.blk b20 (enc r11.2.1) 61) :: (.blk b18 (enc (SkeenR.mk r11.1 s13)) 59) :: (.own Sl.nil 77 4 (encs ([] : List Wait))) :: (.own s13 77 4 (encs r11.1.Wait)) :: (.blk b5 (enc a2) 61) :: (.blk b3 (enc a1) 3) :: (.blk b1 (enc (SkeenR.mk a0 s_a0_2)) 59) :: L) rfl ?_
  exact At.meet ((0 : Int), ({ Num.zero with N := w64 (a0.Clock + (1 : Int)), By := a0.Me } : Num), ({ Skeen.zero with Me := a0.Me, Clock := w64 (a0.Clock + (1 : Int)), Wait := l147 } : Skeen), s146) (FLe.trans (FLe.trans hF127 hF162) hF164) ⟨rfl, rfl, rfl, rfl, rfl, rfl, rfl, rfl, rfl, rfl, rfl, rfl, rfl, trivial⟩ rfl ⟨some_inj H, (hq166.mono (FLe.refl _) (List.nil_sublist _))⟩
 rintro F167 ⟨y111, y112, y113, s114⟩ hF168 ⟨hy, f115⟩
 subst hy
 refine Cd.as (e' := [(4, pv b1 0), (5, pv b3 0), (6, pv b5 0), (10, pv b18 0), (11, pv b20 0), (12, iv r11.2.2), (13, pv b31 0), (14, Sl.v s26), (15, iv r22.2.2), (18, pv b40 0), (19, pv b107 0), (20, pv b109 0), (21, iv y111)]) (L' := (.blk b109 (enc y112) 61) :: (.blk b107 (enc (SkeenR.mk y113 s114)) 59) :: (.own Sl.nil 77 4 (encs ([] : List Wait))) :: (.blk b40 (enc (SkeenR.mk Skeen.zero Sl.nil)) 59) :: (.own Sl.nil 77 4 (encs ([] : List Wait))) :: (.blk b37 (enc r33.1) 61) :: (.blk b31 (enc (SkeenR.mk r22.1 s24)) 59) :: (.own Sl.nil 77 4 (encs ([] : List Wait))) :: (.own s24 77 4 (encs r22.1.Wait)) :: (.own s26 3 1 (encs r22.2.1)) :: (.blk b20 (enc r11.2.1) 61) :: (.blk b18 (enc (SkeenR.mk r11.1 s13)) 59) :: (.own Sl.nil 77 4 (encs ([] : List Wait))) :: (.own s13 77 4 (encs r11.1.Wait)) :: (.blk b5 (enc a2) 61) :: (.blk b3 (enc a1) 3) :: (.blk b1 (enc (SkeenR.mk a0 s_a0_2)) 59) :: L) ⟨rfl, rfl, rfl, rfl, rfl, rfl, rfl, rfl, rfl, rfl, rfl, rfl, rfl, trivial⟩ rfl ?_
 replace H := HKo116
 obtain ⟨o172, H, HKo172⟩ := bind_some H
 refine Cd.join (σ := Skeen × Sl) (fun (y169, s170) => [(4, pv b1 0), (5, pv b3 0), (6, pv b5 0), (10, pv b18 0), (11, pv b20 0), (12, iv r11.2.2), (13, pv b31 0), (14, Sl.v s26), (15, iv r22.2.2), (18, pv b40 0), (19, pv b107 0), (20, pv b109 0), (21, iv y111)]) (fun (y169, s170) => (.blk b109 (enc y112) 61) :: (.blk b107 (enc (SkeenR.mk y169 s170)) 59) :: (.own Sl.nil 77 4 (encs ([] : List Wait))) :: (.blk b40 (enc (SkeenR.mk Skeen.zero Sl.nil)) 59) :: (.own Sl.nil 77 4 (encs ([] : List Wait))) :: (.blk b37 (enc r33.1) 61) :: (.blk b31 (enc (SkeenR.mk r22.1 s24)) 59) :: (.own Sl.nil 77 4 (encs ([] : List Wait))) :: (.own s24 77 4 (encs r22.1.Wait)) :: (.own s26 3 1 (encs r22.2.1)) :: (.blk b20 (enc r11.2.1) 61) :: (.blk b18 (enc (SkeenR.mk r11.1 s13)) 59) :: (.own Sl.nil 77 4 (encs ([] : List Wait))) :: (.own s13 77 4 (encs r11.1.Wait)) :: (.blk b5 (enc a2) 61) :: (.blk b3 (enc a1) 3) :: (.blk b1 (enc (SkeenR.mk a0 s_a0_2)) 59) :: L) (fun Fx (y169, s170) => y169 = o172 ∧ Rd w0 Fx M s170 y169.Wait) ?_ ?_
 ·refine Cd.seq ?_
  refine Cd.region ?_
  refine Lst.r (Ev.move rfl) ?_
  refine Lst.r (Ev.neq rfl rfl) ?_
  refine Lst.nil ?_
  refine At.then ?_
  rcases (Bool.eq_false_or_eq_true (y111 != (0 : Int))).symm with hb173 | hb173
  ·replace H := ite_f hb173 H
   refine Cd.condF rfl hb173 ?_
   refine Cd.skip ?_
   exact At.meet (y113, s114) (FLe.refl _) ⟨rfl, rfl, rfl, rfl, rfl, rfl, rfl, rfl, rfl, rfl, rfl, rfl, rfl, trivial⟩ rfl ⟨some_inj H, (f115.mono (FLe.refl _) (.refl _))⟩
  replace H := ite_t hb173 H
  refine Cd.condT rfl hb173 ?_
  refine Cd.region ?_
  refine Lst.r (Ev.loadA (i := 3) rfl rfl Try.isAgg59 Try.sizeOf59 (ch := enc (SkeenR.mk Skeen.zero Sl.nil)) (Enc.len _) (Get.here _)) ?_
  refine Lst.store (i := 1) rfl rfl rfl rfl rfl Try.sizeOf59 (vs := enc (SkeenR.mk Skeen.zero Sl.nil)) rfl (Enc.len _) (Enc.one _) (cs' := enc (SkeenR.mk Skeen.zero Sl.nil)) (Put.here ((Enc.len _).trans (Enc.len _).symm)) (L' := (.blk b109 (enc y112) 61) :: (.blk b107 (enc (SkeenR.mk Skeen.zero Sl.nil)) 59) :: (.own Sl.nil 77 4 (encs ([] : List Wait))) :: (.blk b40 (enc (SkeenR.mk Skeen.zero Sl.nil)) 59) :: (.own Sl.nil 77 4 (encs ([] : List Wait))) :: (.blk b37 (enc r33.1) 61) :: (.blk b31 (enc (SkeenR.mk r22.1 s24)) 59) :: (.own Sl.nil 77 4 (encs ([] : List Wait))) :: (.own s24 77 4 (encs r22.1.Wait)) :: (.own s26 3 1 (encs r22.2.1)) :: (.blk b20 (enc r11.2.1) 61) :: (.blk b18 (enc (SkeenR.mk r11.1 s13)) 59) :: (.own Sl.nil 77 4 (encs ([] : List Wait))) :: (.own s13 77 4 (encs r11.1.Wait)) :: (.blk b5 (enc a2) 61) :: (.blk b3 (enc a1) 3) :: (.blk b1 (enc (SkeenR.mk a0 s_a0_2)) 59) :: L) rfl ?_
  refine Lst.nil ?_
  exact At.meet (Skeen.zero, Sl.nil) (FLe.refl _) ⟨rfl, rfl, rfl, rfl, rfl, rfl, rfl, rfl, rfl, rfl, rfl, rfl, rfl, trivial⟩ rfl ⟨some_inj H, Rd.nil⟩
 rintro F174 ⟨y169, s170⟩ hF175 ⟨hy, f171⟩
 subst hy
 refine Cd.as (e' := [(4, pv b1 0), (5, pv b3 0), (6, pv b5 0), (10, pv b18 0), (11, pv b20 0), (12, iv r11.2.2), (13, pv b31 0), (14, Sl.v s26), (15, iv r22.2.2), (18, pv b40 0), (19, pv b107 0), (20, pv b109 0), (21, iv y111)]) (L' := (.blk b109 (enc y112) 61) :: (.blk b107 (enc (SkeenR.mk y169 s170)) 59) :: (.own Sl.nil 77 4 (encs ([] : List Wait))) :: (.blk b40 (enc (SkeenR.mk Skeen.zero Sl.nil)) 59) :: (.own Sl.nil 77 4 (encs ([] : List Wait))) :: (.blk b37 (enc r33.1) 61) :: (.blk b31 (enc (SkeenR.mk r22.1 s24)) 59) :: (.own Sl.nil 77 4 (encs ([] : List Wait))) :: (.own s24 77 4 (encs r22.1.Wait)) :: (.own s26 3 1 (encs r22.2.1)) :: (.blk b20 (enc r11.2.1) 61) :: (.blk b18 (enc (SkeenR.mk r11.1 s13)) 59) :: (.own Sl.nil 77 4 (encs ([] : List Wait))) :: (.own s13 77 4 (encs r11.1.Wait)) :: (.blk b5 (enc a2) 61) :: (.blk b3 (enc a1) 3) :: (.blk b1 (enc (SkeenR.mk a0 s_a0_2)) 59) :: L) ⟨rfl, rfl, rfl, rfl, rfl, rfl, rfl, rfl, rfl, rfl, rfl, rfl, rfl, trivial⟩ rfl ?_
 replace H := HKo172
 refine Cd.seq ?_
 refine Cd.seq ?_
 refine Cd.region ?_
 refine Lst.r (Ev.loadA (i := 11) rfl rfl Try.isAgg59 Try.sizeOf59 (ch := enc (SkeenR.mk r11.1 s13)) (Enc.len _) (Get.here _)) ?_
 refine Lst.r (Ev.loadA (i := 1) rfl rfl Try.isAgg59 Try.sizeOf59 (ch := enc (SkeenR.mk y169 s170)) (Enc.len _) (Get.here _)) ?_
 obtain ⟨r176, h177, H⟩ := bind_some H
 refine Lst.call1 rfl rfl (by decide) (vs := [.agg (enc (SkeenR.mk r11.1 s13)).toArray, .agg (enc (SkeenR.mk y169 s170)).toArray]) ⟨rfl, rfl, trivial⟩ Try.call39 (partref_SameSkeen_sim h177 w0 _ _ _ (.refl _) (Rd.own (i := 13) rfl rfl rfl) (f171.mono (FLe.refl _) (sc8 (sc8 (sc1 hM))))) ?_
 refine Lst.r (Ev.not rfl) ?_
 refine Lst.r (Ev.move rfl) ?_
 obtain ⟨o180, H, HKo180⟩ := bind_some H
 refine Lst.join (σ := Bool) 4 (fun y181 => [(4, pv b1 0), (5, pv b3 0), (6, pv b5 0), (12, iv r11.2.2), (13, pv b31 0), (14, Sl.v s26), (15, iv r22.2.2), (18, pv b40 0), (21, iv y111), (156, .bool y181)]) (fun y181 => (.blk b109 (enc y112) 61) :: (.blk b107 (enc (SkeenR.mk y169 s170)) 59) :: (.own Sl.nil 77 4 (encs ([] : List Wait))) :: (.blk b40 (enc (SkeenR.mk Skeen.zero Sl.nil)) 59) :: (.own Sl.nil 77 4 (encs ([] : List Wait))) :: (.blk b37 (enc r33.1) 61) :: (.blk b31 (enc (SkeenR.mk r22.1 s24)) 59) :: (.own Sl.nil 77 4 (encs ([] : List Wait))) :: (.own s24 77 4 (encs r22.1.Wait)) :: (.own s26 3 1 (encs r22.2.1)) :: (.blk b20 (enc r11.2.1) 61) :: (.blk b18 (enc (SkeenR.mk r11.1 s13)) 59) :: (.own Sl.nil 77 4 (encs ([] : List Wait))) :: (.own s13 77 4 (encs r11.1.Wait)) :: (.blk b5 (enc a2) 61) :: (.blk b3 (enc a1) 3) :: (.blk b1 (enc (SkeenR.mk a0 s_a0_2)) 59) :: L) (fun _ y181 => y181 = o180) ?_ ?_
 ·rcases Bool.eq_false_or_eq_true (!r176) with hb182 | hb182
  ·replace H := ite_t hb182 H
   refine Lst.skip rfl rfl rfl hb182 rfl (by decide) ?_
   refine Lst.skip rfl rfl rfl hb182 rfl (by decide) ?_
   refine Lst.skip rfl rfl rfl hb182 rfl (by decide) ?_
   refine Lst.r (Ev.pickT rfl hb182 rfl) ?_
   refine Lst.nil ?_
   exact At.meet true (FLe.refl _) ⟨rfl, rfl, rfl, rfl, rfl, rfl, rfl, rfl, rfl, rfl, trivial⟩ rfl (some_inj H)
  replace H := ite_f hb182 H
  refine Lst.rG hb182 (Ev.loadA (i := 10) rfl rfl Try.isAgg61 Try.sizeOf61 (ch := enc r11.2.1) (Enc.len _) (Get.here _)) ?_
  refine Lst.rG hb182 (Ev.loadA (i := 0) rfl rfl Try.isAgg61 Try.sizeOf61 (ch := enc y112) (Enc.len _) (Get.here _)) ?_
  refine Lst.rG hb182 (Ev.neqA rfl rfl (by kernel_rfl) (eq61 _ _)) ?_
  refine Lst.r (Ev.pickF rfl hb182 rfl) ?_
  refine Lst.nil ?_
  exact At.meet (!(decide (r11.2.1 = y112))) (FLe.refl _) ⟨rfl, rfl, rfl, rfl, rfl, rfl, rfl, rfl, rfl, rfl, trivial⟩ rfl (some_inj H)
 rintro F183 y181 hF184 hy
 subst hy
 refine Lst.as (e' := [(4, pv b1 0), (5, pv b3 0), (6, pv b5 0), (12, iv r11.2.2), (13, pv b31 0), (14, Sl.v s26), (15, iv r22.2.2), (18, pv b40 0), (21, iv y111), (156, .bool y181)]) (L' := (.blk b109 (enc y112) 61) :: (.blk b107 (enc (SkeenR.mk y169 s170)) 59) :: (.own Sl.nil 77 4 (encs ([] : List Wait))) :: (.blk b40 (enc (SkeenR.mk Skeen.zero Sl.nil)) 59) :: (.own Sl.nil 77 4 (encs ([] : List Wait))) :: (.blk b37 (enc r33.1) 61) :: (.blk b31 (enc (SkeenR.mk r22.1 s24)) 59) :: (.own Sl.nil 77 4 (encs ([] : List Wait))) :: (.own s24 77 4 (encs r22.1.Wait)) :: (.own s26 3 1 (encs r22.2.1)) :: (.blk b20 (enc r11.2.1) 61) :: (.blk b18 (enc (SkeenR.mk r11.1 s13)) 59) :: (.own Sl.nil 77 4 (encs ([] : List Wait))) :: (.own s13 77 4 (encs r11.1.Wait)) :: (.blk b5 (enc a2) 61) :: (.blk b3 (enc a1) 3) :: (.blk b1 (enc (SkeenR.mk a0 s_a0_2)) 59) :: L) ⟨rfl, rfl, rfl, rfl, rfl, rfl, rfl, rfl, rfl, rfl, trivial⟩ rfl ?_
 replace H := HKo180
 refine Lst.r (Ev.move rfl) ?_
 obtain ⟨o185, H, HKo185⟩ := bind_some H
 refine Lst.join (σ := Bool) 4 (fun y186 => [(4, pv b1 0), (5, pv b3 0), (6, pv b5 0), (13, pv b31 0), (14, Sl.v s26), (15, iv r22.2.2), (18, pv b40 0), (161, .bool y186)]) (fun y186 => (.blk b109 (enc y112) 61) :: (.blk b107 (enc (SkeenR.mk y169 s170)) 59) :: (.own Sl.nil 77 4 (encs ([] : List Wait))) :: (.blk b40 (enc (SkeenR.mk Skeen.zero Sl.nil)) 59) :: (.own Sl.nil 77 4 (encs ([] : List Wait))) :: (.blk b37 (enc r33.1) 61) :: (.blk b31 (enc (SkeenR.mk r22.1 s24)) 59) :: (.own Sl.nil 77 4 (encs ([] : List Wait))) :: (.own s24 77 4 (encs r22.1.Wait)) :: (.own s26 3 1 (encs r22.2.1)) :: (.blk b20 (enc r11.2.1) 61) :: (.blk b18 (enc (SkeenR.mk r11.1 s13)) 59) :: (.own Sl.nil 77 4 (encs ([] : List Wait))) :: (.own s13 77 4 (encs r11.1.Wait)) :: (.blk b5 (enc a2) 61) :: (.blk b3 (enc a1) 3) :: (.blk b1 (enc (SkeenR.mk a0 s_a0_2)) 59) :: L) (fun _ y186 => y186 = o185) ?_ ?_
 ·rcases Bool.eq_false_or_eq_true y181 with hb187 | hb187
  ·replace H := ite_t hb187 H
   refine Lst.skip rfl rfl rfl hb187 rfl (by decide) ?_
   refine Lst.skip rfl rfl rfl hb187 rfl (by decide) ?_
   refine Lst.skip rfl rfl rfl hb187 rfl (by decide) ?_
   refine Lst.r (Ev.pickT rfl hb187 rfl) ?_
   refine Lst.nil ?_
   exact At.meet true (FLe.refl _) ⟨rfl, rfl, rfl, rfl, rfl, rfl, rfl, rfl, trivial⟩ rfl (some_inj H)
  replace H := ite_f hb187 H
  refine Lst.rG hb187 (Ev.move rfl) ?_
  refine Lst.rG hb187 (Ev.move rfl) ?_
  refine Lst.rG hb187 (Ev.neq rfl rfl) ?_
  refine Lst.r (Ev.pickF rfl hb187 rfl) ?_
  refine Lst.nil ?_
  exact At.meet (r11.2.2 != y111) (FLe.refl _) ⟨rfl, rfl, rfl, rfl, rfl, rfl, rfl, rfl, trivial⟩ rfl (some_inj H)
 rintro F188 y186 hF189 hy
 subst hy
 refine Lst.as (e' := [(4, pv b1 0), (5, pv b3 0), (6, pv b5 0), (13, pv b31 0), (14, Sl.v s26), (15, iv r22.2.2), (18, pv b40 0), (161, .bool y186)]) (L' := (.blk b109 (enc y112) 61) :: (.blk b107 (enc (SkeenR.mk y169 s170)) 59) :: (.own Sl.nil 77 4 (encs ([] : List Wait))) :: (.blk b40 (enc (SkeenR.mk Skeen.zero Sl.nil)) 59) :: (.own Sl.nil 77 4 (encs ([] : List Wait))) :: (.blk b37 (enc r33.1) 61) :: (.blk b31 (enc (SkeenR.mk r22.1 s24)) 59) :: (.own Sl.nil 77 4 (encs ([] : List Wait))) :: (.own s24 77 4 (encs r22.1.Wait)) :: (.own s26 3 1 (encs r22.2.1)) :: (.blk b20 (enc r11.2.1) 61) :: (.blk b18 (enc (SkeenR.mk r11.1 s13)) 59) :: (.own Sl.nil 77 4 (encs ([] : List Wait))) :: (.own s13 77 4 (encs r11.1.Wait)) :: (.blk b5 (enc a2) 61) :: (.blk b3 (enc a1) 3) :: (.blk b1 (enc (SkeenR.mk a0 s_a0_2)) 59) :: L) ⟨rfl, rfl, rfl, rfl, rfl, rfl, rfl, rfl, trivial⟩ rfl ?_
 replace H := HKo185
 refine Lst.nil ?_
 refine At.then ?_
 rcases Bool.eq_false_or_eq_true y186 with hb190 | hb190
 ·replace H := ite_t hb190 H
  refine Cd.condT rfl hb190 ?_
  refine Cd.seq ?_
  refine Cd.region ?_
  refine Lst.r (Ev.assign rfl) ?_
  refine Lst.nil ?_
  refine At.then ?_
  obtain rfl := some_inj H
  refine Cd.ret ?_
  refine At.then_ret ?_
  exact At.ret1 rfl (Res.tmp rfl) (FLe.trans (FLe.trans (FLe.trans (FLe.trans (FLe.trans (FLe.trans hF16 hF29) hF71) hF168) hF175) hF184) hF189) (sc1 (sc1 (sc1 (sc1 (sc1 (sc1 (sc1 (sc1 (sc1 (sc1 (sc1 (sc1 (sc1 (sc1 (sc1 (sc1 (sc1 (.refl _)))))))))))))))))) ⟨rfl, rfl⟩
 replace H := ite_f hb190 H
 refine Cd.condF rfl hb190 ?_
 refine Cd.skip ?_
 refine At.then ?_
 refine Cd.seq ?_
 refine Cd.seq ?_
 refine Cd.region ?_
 refine Lst.r (Ev.fieldAddr (off' := 0) rfl Try.runUnderlying61 rfl Try.sizeOf3 rfl rfl) ?_
 refine Lst.r (Ev.load (i := 14) rfl rfl Try.isAgg3 (v := iv a2.N) ((Num.get_N (Get.here _)).off (by rfl))) ?_
 refine Lst.r (Ev.lss rfl rfl) ?_
 refine Lst.r (Ev.move rfl) ?_
 obtain ⟨o191, H, HKo191⟩ := bind_some H
 refine Lst.join (σ := Bool) 4 (fun y192 => [(4, pv b1 0), (5, pv b3 0), (6, pv b5 0), (13, pv b31 0), (14, Sl.v s26), (15, iv r22.2.2), (18, pv b40 0), (169, .bool y192)]) (fun y192 => (.blk b109 (enc y112) 61) :: (.blk b107 (enc (SkeenR.mk y169 s170)) 59) :: (.own Sl.nil 77 4 (encs ([] : List Wait))) :: (.blk b40 (enc (SkeenR.mk Skeen.zero Sl.nil)) 59) :: (.own Sl.nil 77 4 (encs ([] : List Wait))) :: (.blk b37 (enc r33.1) 61) :: (.blk b31 (enc (SkeenR.mk r22.1 s24)) 59) :: (.own Sl.nil 77 4 (encs ([] : List Wait))) :: (.own s24 77 4 (encs r22.1.Wait)) :: (.own s26 3 1 (encs r22.2.1)) :: (.blk b20 (enc r11.2.1) 61) :: (.blk b18 (enc (SkeenR.mk r11.1 s13)) 59) :: (.own Sl.nil 77 4 (encs ([] : List Wait))) :: (.own s13 77 4 (encs r11.1.Wait)) :: (.blk b5 (enc a2) 61) :: (.blk b3 (enc a1) 3) :: (.blk b1 (enc (SkeenR.mk a0 s_a0_2)) 59) :: L) (fun _ y192 => y192 = o191) ?_ ?_
 ·rcases Bool.eq_false_or_eq_true (decide (a2.N < (1 : Int))) with hb193 | hb193
  ·replace H := ite_t hb193 H
   refine Lst.skip rfl rfl rfl hb193 rfl (by decide) ?_
   refine Lst.skip rfl rfl rfl hb193 rfl (by decide) ?_
   refine Lst.skip rfl rfl rfl hb193 rfl (by decide) ?_
   refine Lst.r (Ev.pickT rfl hb193 rfl) ?_
   refine Lst.nil ?_
   exact At.meet true (FLe.refl _) ⟨rfl, rfl, rfl, rfl, rfl, rfl, rfl, rfl, trivial⟩ rfl (some_inj H)
  replace H := ite_f hb193 H
  refine Lst.rG hb193 (Ev.fieldAddr (off' := 0) rfl Try.runUnderlying61 rfl Try.sizeOf3 rfl rfl) ?_
  refine Lst.rG hb193 (Ev.load (i := 14) rfl rfl Try.isAgg3 (v := iv a2.N) ((Num.get_N (Get.here _)).off (by rfl))) ?_
  refine Lst.rG hb193 (Ev.gtr rfl rfl) ?_
  refine Lst.r (Ev.pickF rfl hb193 rfl) ?_
  refine Lst.nil ?_
  exact At.meet (decide (a2.N > (16777215 : Int))) (FLe.refl _) ⟨rfl, rfl, rfl, rfl, rfl, rfl, rfl, rfl, trivial⟩ rfl (some_inj H)
 rintro F194 y192 hF195 hy
 subst hy
 refine Lst.as (e' := [(4, pv b1 0), (5, pv b3 0), (6, pv b5 0), (13, pv b31 0), (14, Sl.v s26), (15, iv r22.2.2), (18, pv b40 0), (169, .bool y192)]) (L' := (.blk b109 (enc y112) 61) :: (.blk b107 (enc (SkeenR.mk y169 s170)) 59) :: (.own Sl.nil 77 4 (encs ([] : List Wait))) :: (.blk b40 (enc (SkeenR.mk Skeen.zero Sl.nil)) 59) :: (.own Sl.nil 77 4 (encs ([] : List Wait))) :: (.blk b37 (enc r33.1) 61) :: (.blk b31 (enc (SkeenR.mk r22.1 s24)) 59) :: (.own Sl.nil 77 4 (encs ([] : List Wait))) :: (.own s24 77 4 (encs r22.1.Wait)) :: (.own s26 3 1 (encs r22.2.1)) :: (.blk b20 (enc r11.2.1) 61) :: (.blk b18 (enc (SkeenR.mk r11.1 s13)) 59) :: (.own Sl.nil 77 4 (encs ([] : List Wait))) :: (.own s13 77 4 (encs r11.1.Wait)) :: (.blk b5 (enc a2) 61) :: (.blk b3 (enc a1) 3) :: (.blk b1 (enc (SkeenR.mk a0 s_a0_2)) 59) :: L) ⟨rfl, rfl, rfl, rfl, rfl, rfl, rfl, rfl, trivial⟩ rfl ?_
 replace H := HKo191
 refine Lst.r (Ev.move rfl) ?_
 obtain ⟨o196, H, HKo196⟩ := bind_some H
 refine Lst.join (σ := Bool) 4 (fun y197 => [(4, pv b1 0), (5, pv b3 0), (6, pv b5 0), (13, pv b31 0), (14, Sl.v s26), (15, iv r22.2.2), (18, pv b40 0), (174, .bool y197)]) (fun y197 => (.blk b109 (enc y112) 61) :: (.blk b107 (enc (SkeenR.mk y169 s170)) 59) :: (.own Sl.nil 77 4 (encs ([] : List Wait))) :: (.blk b40 (enc (SkeenR.mk Skeen.zero Sl.nil)) 59) :: (.own Sl.nil 77 4 (encs ([] : List Wait))) :: (.blk b37 (enc r33.1) 61) :: (.blk b31 (enc (SkeenR.mk r22.1 s24)) 59) :: (.own Sl.nil 77 4 (encs ([] : List Wait))) :: (.own s24 77 4 (encs r22.1.Wait)) :: (.own s26 3 1 (encs r22.2.1)) :: (.blk b20 (enc r11.2.1) 61) :: (.blk b18 (enc (SkeenR.mk r11.1 s13)) 59) :: (.own Sl.nil 77 4 (encs ([] : List Wait))) :: (.own s13 77 4 (encs r11.1.Wait)) :: (.blk b5 (enc a2) 61) :: (.blk b3 (enc a1) 3) :: (.blk b1 (enc (SkeenR.mk a0 s_a0_2)) 59) :: L) (fun _ y197 => y197 = o196) ?_ ?_
 ·rcases Bool.eq_false_or_eq_true y192 with hb198 | hb198
  ·replace H := ite_t hb198 H
   refine Lst.skip rfl rfl rfl hb198 rfl (by decide) ?_
   refine Lst.skip rfl rfl rfl hb198 rfl (by decide) ?_
   refine Lst.skip rfl rfl rfl hb198 rfl (by decide) ?_
   refine Lst.r (Ev.pickT rfl hb198 rfl) ?_
   refine Lst.nil ?_
   exact At.meet true (FLe.refl _) ⟨rfl, rfl, rfl, rfl, rfl, rfl, rfl, rfl, trivial⟩ rfl (some_inj H)
  replace H := ite_f hb198 H
  refine Lst.rG hb198 (Ev.fieldAddr (off' := 1) rfl Try.runUnderlying61 rfl Try.sizeOf3 rfl rfl) ?_
  refine Lst.rG hb198 (Ev.load (i := 14) rfl rfl Try.isAgg3 (v := iv a2.By) ((Num.get_By (Get.here _)).off (by rfl))) ?_
  refine Lst.rG hb198 (Ev.lss rfl rfl) ?_
  refine Lst.r (Ev.pickF rfl hb198 rfl) ?_
  refine Lst.nil ?_
  exact At.meet (decide (a2.By < (0 : Int))) (FLe.refl _) ⟨rfl, rfl, rfl, rfl, rfl, rfl, rfl, rfl, trivial⟩ rfl (some_inj H)
 rintro F199 y197 hF200 hy
 subst hy
 refine Lst.as (e' := [(4, pv b1 0), (5, pv b3 0), (6, pv b5 0), (13, pv b31 0), (14, Sl.v s26), (15, iv r22.2.2), (18, pv b40 0), (174, .bool y197)]) (L' := (.blk b109 (enc y112) 61) :: (.blk b107 (enc (SkeenR.mk y169 s170)) 59) :: (.own Sl.nil 77 4 (encs ([] : List Wait))) :: (.blk b40 (enc (SkeenR.mk Skeen.zero Sl.nil)) 59) :: (.own Sl.nil 77 4 (encs ([] : List Wait))) :: (.blk b37 (enc r33.1) 61) :: (.blk b31 (enc (SkeenR.mk r22.1 s24)) 59) :: (.own Sl.nil 77 4 (encs ([] : List Wait))) :: (.own s24 77 4 (encs r22.1.Wait)) :: (.own s26 3 1 (encs r22.2.1)) :: (.blk b20 (enc r11.2.1) 61) :: (.blk b18 (enc (SkeenR.mk r11.1 s13)) 59) :: (.own Sl.nil 77 4 (encs ([] : List Wait))) :: (.own s13 77 4 (encs r11.1.Wait)) :: (.blk b5 (enc a2) 61) :: (.blk b3 (enc a1) 3) :: (.blk b1 (enc (SkeenR.mk a0 s_a0_2)) 59) :: L) ⟨rfl, rfl, rfl, rfl, rfl, rfl, rfl, rfl, trivial⟩ rfl ?_
 replace H := HKo196
 refine Lst.r (Ev.move rfl) ?_
 obtain ⟨o201, H, HKo201⟩ := bind_some H
 refine Lst.join (σ := Bool) 4 (fun y202 => [(4, pv b1 0), (5, pv b3 0), (6, pv b5 0), (13, pv b31 0), (14, Sl.v s26), (15, iv r22.2.2), (18, pv b40 0), (179, .bool y202)]) (fun y202 => (.blk b109 (enc y112) 61) :: (.blk b107 (enc (SkeenR.mk y169 s170)) 59) :: (.own Sl.nil 77 4 (encs ([] : List Wait))) :: (.blk b40 (enc (SkeenR.mk Skeen.zero Sl.nil)) 59) :: (.own Sl.nil 77 4 (encs ([] : List Wait))) :: (.blk b37 (enc r33.1) 61) :: (.blk b31 (enc (SkeenR.mk r22.1 s24)) 59) :: (.own Sl.nil 77 4 (encs ([] : List Wait))) :: (.own s24 77 4 (encs r22.1.Wait)) :: (.own s26 3 1 (encs r22.2.1)) :: (.blk b20 (enc r11.2.1) 61) :: (.blk b18 (enc (SkeenR.mk r11.1 s13)) 59) :: (.own Sl.nil 77 4 (encs ([] : List Wait))) :: (.own s13 77 4 (encs r11.1.Wait)) :: (.blk b5 (enc a2) 61) :: (.blk b3 (enc a1) 3) :: (.blk b1 (enc (SkeenR.mk a0 s_a0_2)) 59) :: L) (fun _ y202 => y202 = o201) ?_ ?_
 ·rcases Bool.eq_false_or_eq_true y197 with hb203 | hb203
  ·replace H := ite_t hb203 H
   refine Lst.skip rfl rfl rfl hb203 rfl (by decide) ?_
   refine Lst.skip rfl rfl rfl hb203 rfl (by decide) ?_
   refine Lst.skip rfl rfl rfl hb203 rfl (by decide) ?_
   refine Lst.r (Ev.pickT rfl hb203 rfl) ?_
   refine Lst.nil ?_
   exact At.meet true (FLe.refl _) ⟨rfl, rfl, rfl, rfl, rfl, rfl, rfl, rfl, trivial⟩ rfl (some_inj H)
  replace H := ite_f hb203 H
  refine Lst.rG hb203 (Ev.fieldAddr (off' := 1) rfl Try.runUnderlying61 rfl Try.sizeOf3 rfl rfl) ?_
  refine Lst.rG hb203 (Ev.load (i := 14) rfl rfl Try.isAgg3 (v := iv a2.By) ((Num.get_By (Get.here _)).off (by rfl))) ?_
  refine Lst.rG hb203 (Ev.gtr rfl rfl) ?_
  refine Lst.r (Ev.pickF rfl hb203 rfl) ?_
  refine Lst.nil ?_
  exact At.meet (decide (a2.By > (5 : Int))) (FLe.refl _) ⟨rfl, rfl, rfl, rfl, rfl, rfl, rfl, rfl, trivial⟩ rfl (some_inj H)
 rintro F204 y202 hF205 hy
 subst hy
 refine Lst.as (e' := [(4, pv b1 0), (5, pv b3 0), (6, pv b5 0), (13, pv b31 0), (14, Sl.v s26), (15, iv r22.2.2), (18, pv b40 0), (179, .bool y202)]) (L' := (.blk b109 (enc y112) 61) :: (.blk b107 (enc (SkeenR.mk y169 s170)) 59) :: (.own Sl.nil 77 4 (encs ([] : List Wait))) :: (.blk b40 (enc (SkeenR.mk Skeen.zero Sl.nil)) 59) :: (.own Sl.nil 77 4 (encs ([] : List Wait))) :: (.blk b37 (enc r33.1) 61) :: (.blk b31 (enc (SkeenR.mk r22.1 s24)) 59) :: (.own Sl.nil 77 4 (encs ([] : List Wait))) :: (.own s24 77 4 (encs r22.1.Wait)) :: (.own s26 3 1 (encs r22.2.1)) :: (.blk b20 (enc r11.2.1) 61) :: (.blk b18 (enc (SkeenR.mk r11.1 s13)) 59) :: (.own Sl.nil 77 4 (encs ([] : List Wait))) :: (.own s13 77 4 (encs r11.1.Wait)) :: (.blk b5 (enc a2) 61) :: (.blk b3 (enc a1) 3) :: (.blk b1 (enc (SkeenR.mk a0 s_a0_2)) 59) :: L) ⟨rfl, rfl, rfl, rfl, rfl, rfl, rfl, rfl, trivial⟩ rfl ?_
 replace H := HKo201
 refine Lst.nil ?_
 refine At.then ?_
 rcases Bool.eq_false_or_eq_true y202 with hb206 | hb206
 ·replace H := ite_t hb206 H
  refine Cd.condT rfl hb206 ?_
  refine Cd.seq ?_
  refine Cd.region ?_
  refine Lst.r (Ev.loadA (i := 6) rfl rfl Try.isAgg59 Try.sizeOf59 (ch := enc (SkeenR.mk r22.1 s24)) (Enc.len _) (Get.here _)) ?_
  refine Lst.r (Ev.loadA (i := 3) rfl rfl Try.isAgg59 Try.sizeOf59 (ch := enc (SkeenR.mk Skeen.zero Sl.nil)) (Enc.len _) (Get.here _)) ?_
  obtain ⟨r207, h208, H⟩ := bind_some H
  refine Lst.call1 rfl rfl (by decide) (vs := [.agg (enc (SkeenR.mk r22.1 s24)).toArray, .agg (enc (SkeenR.mk Skeen.zero Sl.nil)).toArray]) ⟨rfl, rfl, trivial⟩ Try.call39 (partref_SameSkeen_sim h208 w0 _ _ _ (.refl _) (Rd.own (i := 8) rfl rfl rfl) Rd.nil) ?_
  refine Lst.r (Ev.move rfl) ?_
  obtain ⟨o211, H, HKo211⟩ := bind_some H
  refine Lst.join (σ := Bool) 4 (fun y212 => [(15, iv r22.2.2), (187, .bool y212)]) (fun y212 => (.blk b109 (enc y112) 61) :: (.blk b107 (enc (SkeenR.mk y169 s170)) 59) :: (.own Sl.nil 77 4 (encs ([] : List Wait))) :: (.blk b40 (enc (SkeenR.mk Skeen.zero Sl.nil)) 59) :: (.own Sl.nil 77 4 (encs ([] : List Wait))) :: (.blk b37 (enc r33.1) 61) :: (.blk b31 (enc (SkeenR.mk r22.1 s24)) 59) :: (.own Sl.nil 77 4 (encs ([] : List Wait))) :: (.own s24 77 4 (encs r22.1.Wait)) :: (.own s26 3 1 (encs r22.2.1)) :: (.blk b20 (enc r11.2.1) 61) :: (.blk b18 (enc (SkeenR.mk r11.1 s13)) 59) :: (.own Sl.nil 77 4 (encs ([] : List Wait))) :: (.own s13 77 4 (encs r11.1.Wait)) :: (.blk b5 (enc a2) 61) :: (.blk b3 (enc a1) 3) :: (.blk b1 (enc (SkeenR.mk a0 s_a0_2)) 59) :: L) (fun _ y212 => y212 = o211) ?_ ?_
  ·rcases (Bool.eq_false_or_eq_true r207).symm with hb213 | hb213
   ·replace H := ite_f hb213 H
    refine Lst.skip rfl rfl rfl hb213 rfl (by decide) ?_
    refine Lst.skip rfl rfl rfl hb213 rfl (by decide) ?_
    refine Lst.skip rfl rfl rfl hb213 rfl (by decide) ?_
    refine Lst.r (Ev.pickF rfl hb213 rfl) ?_
    refine Lst.nil ?_
    exact At.meet false (FLe.refl _) ⟨rfl, rfl, trivial⟩ rfl (some_inj H)
   replace H := ite_t hb213 H
   refine Lst.rG hb213 (Ev.move rfl) ?_
   refine Lst.rG hb213 (Ev.lenS (α := Int) (xs := r22.2.1) (by decide) rfl rfl Try.runUnderlying36 (Rd.own (i := 9) rfl rfl rfl)) ?_
   refine Lst.rG hb213 (Ev.eql rfl rfl) ?_
   refine Lst.r (Ev.pickT rfl hb213 rfl) ?_
   refine Lst.nil ?_
   exact At.meet ((r22.2.1.length : Int) == (0 : Int)) (FLe.refl _) ⟨rfl, rfl, trivial⟩ rfl (some_inj H)
  rintro F214 y212 hF215 hy
  subst hy
  refine Lst.as (e' := [(15, iv r22.2.2), (187, .bool y212)]) (L' := (.blk b109 (enc y112) 61) :: (.blk b107 (enc (SkeenR.mk y169 s170)) 59) :: (.own Sl.nil 77 4 (encs ([] : List Wait))) :: (.blk b40 (enc (SkeenR.mk Skeen.zero Sl.nil)) 59) :: (.own Sl.nil 77 4 (encs ([] : List Wait))) :: (.blk b37 (enc r33.1) 61) :: (.blk b31 (enc (SkeenR.mk r22.1 s24)) 59) :: (.own Sl.nil 77 4 (encs ([] : List Wait))) :: (.own s24 77 4 (encs r22.1.Wait)) :: (.own s26 3 1 (encs r22.2.1)) :: (.blk b20 (enc r11.2.1) 61) :: (.blk b18 (enc (SkeenR.mk r11.1 s13)) 59) :: (.own Sl.nil 77 4 (encs ([] : List Wait))) :: (.own s13 77 4 (encs r11.1.Wait)) :: (.blk b5 (enc a2) 61) :: (.blk b3 (enc a1) 3) :: (.blk b1 (enc (SkeenR.mk a0 s_a0_2)) 59) :: L) ⟨rfl, rfl, trivial⟩ rfl ?_
  replace H := HKo211
  refine Lst.r (Ev.move rfl) ?_
  obtain ⟨o216, H, HKo216⟩ := bind_some H
  refine Lst.join (σ := Bool) 3 (fun y217 => [(191, .bool y217)]) (fun y217 => (.blk b109 (enc y112) 61) :: (.blk b107 (enc (SkeenR.mk y169 s170)) 59) :: (.own Sl.nil 77 4 (encs ([] : List Wait))) :: (.blk b40 (enc (SkeenR.mk Skeen.zero Sl.nil)) 59) :: (.own Sl.nil 77 4 (encs ([] : List Wait))) :: (.blk b37 (enc r33.1) 61) :: (.blk b31 (enc (SkeenR.mk r22.1 s24)) 59) :: (.own Sl.nil 77 4 (encs ([] : List Wait))) :: (.own s24 77 4 (encs r22.1.Wait)) :: (.own s26 3 1 (encs r22.2.1)) :: (.blk b20 (enc r11.2.1) 61) :: (.blk b18 (enc (SkeenR.mk r11.1 s13)) 59) :: (.own Sl.nil 77 4 (encs ([] : List Wait))) :: (.own s13 77 4 (encs r11.1.Wait)) :: (.blk b5 (enc a2) 61) :: (.blk b3 (enc a1) 3) :: (.blk b1 (enc (SkeenR.mk a0 s_a0_2)) 59) :: L) (fun _ y217 => y217 = o216) ?_ ?_
  ·rcases (Bool.eq_false_or_eq_true y212).symm with hb218 | hb218
   ·replace H := ite_f hb218 H
    refine Lst.skip rfl rfl rfl hb218 rfl (by decide) ?_
    refine Lst.skip rfl rfl rfl hb218 rfl (by decide) ?_
    refine Lst.r (Ev.pickF rfl hb218 rfl) ?_
    refine Lst.nil ?_
    exact At.meet false (FLe.refl _) ⟨rfl, trivial⟩ rfl (some_inj H)
   replace H := ite_t hb218 H
   refine Lst.rG hb218 (Ev.move rfl) ?_
   refine Lst.rG hb218 (Ev.eql rfl rfl) ?_
   refine Lst.r (Ev.pickT rfl hb218 rfl) ?_
   refine Lst.nil ?_
   exact At.meet (r22.2.2 == (1 : Int)) (FLe.refl _) ⟨rfl, trivial⟩ rfl (some_inj H)
  rintro F219 y217 hF220 hy
  subst hy
  refine Lst.as (e' := [(191, .bool y217)]) (L' := (.blk b109 (enc y112) 61) :: (.blk b107 (enc (SkeenR.mk y169 s170)) 59) :: (.own Sl.nil 77 4 (encs ([] : List Wait))) :: (.blk b40 (enc (SkeenR.mk Skeen.zero Sl.nil)) 59) :: (.own Sl.nil 77 4 (encs ([] : List Wait))) :: (.blk b37 (enc r33.1) 61) :: (.blk b31 (enc (SkeenR.mk r22.1 s24)) 59) :: (.own Sl.nil 77 4 (encs ([] : List Wait))) :: (.own s24 77 4 (encs r22.1.Wait)) :: (.own s26 3 1 (encs r22.2.1)) :: (.blk b20 (enc r11.2.1) 61) :: (.blk b18 (enc (SkeenR.mk r11.1 s13)) 59) :: (.own Sl.nil 77 4 (encs ([] : List Wait))) :: (.own s13 77 4 (encs r11.1.Wait)) :: (.blk b5 (enc a2) 61) :: (.blk b3 (enc a1) 3) :: (.blk b1 (enc (SkeenR.mk a0 s_a0_2)) 59) :: L) ⟨rfl, trivial⟩ rfl ?_
  replace H := HKo216
  refine Lst.r (Ev.assign rfl) ?_
  refine Lst.nil ?_
  refine At.then ?_
  obtain rfl := some_inj H
  refine Cd.ret ?_
  refine At.then_ret ?_
  exact At.ret1 rfl (Res.tmp rfl) (FLe.trans (FLe.trans (FLe.trans (FLe.trans (FLe.trans (FLe.trans (FLe.trans (FLe.trans (FLe.trans (FLe.trans (FLe.trans hF16 hF29) hF71) hF168) hF175) hF184) hF189) hF195) hF200) hF205) hF215) hF220) (sc1 (sc1 (sc1 (sc1 (sc1 (sc1 (sc1 (sc1 (sc1 (sc1 (sc1 (sc1 (sc1 (sc1 (sc1 (sc1 (sc1 (.refl _)))))))))))))))))) ⟨rfl, rfl⟩
 replace H := ite_f hb206 H
 refine Cd.condF rfl hb206 ?_
 refine Cd.skip ?_
 refine At.then ?_
 refine Cd.seq ?_
 refine Cd.region ?_
 refine Lst.r (Ev.loadA (i := 16) rfl rfl Try.isAgg59 Try.sizeOf59 (ch := enc (SkeenR.mk a0 s_a0_2)) (Enc.len _) (Get.here _)) ?_
 refine Lst.r (Ev.load (i := 15) rfl rfl Try.isAgg3 (v := iv a1) (Get.here _)) ?_
 refine Lst.r (Ev.loadA (i := 14) rfl rfl Try.isAgg61 Try.sizeOf61 (ch := enc a2) (Enc.len _) (Get.here _)) ?_
 obtain ⟨r221, h222, H⟩ := bind_some H
 refine Lst.call rfl rfl (by decide) (vs := [.agg (enc (SkeenR.mk a0 s_a0_2)).toArray, iv a1, .agg (enc a2).toArray]) ⟨rfl, rfl, rfl, trivial⟩ Try.call43 (partref_Fix_sim h222 w0 _ M _ (sc8 (sc8 (sc1 hM))) (hs_a0_2.mono (FLe.trans (FLe.trans (FLe.trans (FLe.trans (FLe.trans (FLe.trans (FLe.trans (FLe.trans (FLe.trans hF16 hF29) hF71) hF168) hF175) hF184) hF189) hF195) hF200) hF205) (.refl _))) (fun F227 L' v hF228 hv => ?_)
 obtain ⟨s223, s225, rfl, rfl, f224⟩ := hv
 refine Lst.r (Ev.move rfl) ?_
 refine Lst.r (Ev.extract rfl rfl) ?_
 refine Lst.r (Ev.extract rfl rfl) ?_
 refine Lst.r (Ev.extract rfl rfl) ?_
 refine Lst.addNil 77 4 ?_
 refine Lst.alloc (cs := enc (SkeenR.mk ({ Skeen.zero with Wait := ([] : List Wait) } : Skeen) Sl.nil)) rfl rfl (by decide) Try.zeroValue59 rfl (fun b230 => ?_)
 refine Lst.store (i := 0) rfl rfl rfl rfl rfl Try.sizeOf59 (vs := enc (SkeenR.mk r221.1 s223)) rfl (Enc.len _) (Enc.one _) (cs' := enc (SkeenR.mk r221.1 s223)) (Put.here ((Enc.len _).trans (Enc.len _).symm)) (L' := (.blk b230 (enc (SkeenR.mk r221.1 s223)) 59) :: (.own Sl.nil 77 4 (encs ([] : List Wait))) :: (.own s225 3 1 (encs r221.2.1)) :: (.blk b109 (enc y112) 61) :: (.blk b107 (enc (SkeenR.mk y169 s170)) 59) :: (.own Sl.nil 77 4 (encs ([] : List Wait))) :: (.blk b40 (enc (SkeenR.mk Skeen.zero Sl.nil)) 59) :: (.own Sl.nil 77 4 (encs ([] : List Wait))) :: (.blk b37 (enc r33.1) 61) :: (.blk b31 (enc (SkeenR.mk r22.1 s24)) 59) :: (.own Sl.nil 77 4 (encs ([] : List Wait))) :: (.own s24 77 4 (encs r22.1.Wait)) :: (.own s26 3 1 (encs r22.2.1)) :: (.blk b20 (enc r11.2.1) 61) :: (.blk b18 (enc (SkeenR.mk r11.1 s13)) 59) :: (.own Sl.nil 77 4 (encs ([] : List Wait))) :: (.own s13 77 4 (encs r11.1.Wait)) :: (.blk b5 (enc a2) 61) :: (.blk b3 (enc a1) 3) :: (.blk b1 (enc (SkeenR.mk a0 s_a0_2)) 59) :: L) rfl ?_
 refine Lst.r (Ev.assign rfl) ?_
 refine Lst.r (Ev.assign rfl) ?_
 refine Lst.nil ?_
 refine At.then ?_
 refine Cd.seq ?_
 refine Cd.region ?_
 refine Lst.r (Ev.loadA (i := 9) rfl rfl Try.isAgg59 Try.sizeOf59 (ch := enc (SkeenR.mk r22.1 s24)) (Enc.len _) (Get.here _)) ?_
 refine Lst.r (Ev.loadA (i := 0) rfl rfl Try.isAgg59 Try.sizeOf59 (ch := enc (SkeenR.mk r221.1 s223)) (Enc.len _) (Get.here _)) ?_
 obtain ⟨r232, h233, H⟩ := bind_some H
 refine Lst.call1 rfl rfl (by decide) (vs := [.agg (enc (SkeenR.mk r22.1 s24)).toArray, .agg (enc (SkeenR.mk r221.1 s223)).toArray]) ⟨rfl, rfl, trivial⟩ Try.call39 (partref_SameSkeen_sim h233 w0 _ _ _ (.refl _) (Rd.own (i := 11) rfl rfl rfl) (f224.mono (FLe.refl _) (sc8 (sc8 (sc4 hM))))) ?_
 refine Lst.r (Ev.move rfl) ?_
 obtain ⟨o236, H, HKo236⟩ := bind_some H
 refine Lst.join (σ := Bool) 4 (fun y237 => [(15, iv r22.2.2), (24, iv r221.2.2), (207, .bool y237)]) (fun y237 => (.blk b230 (enc (SkeenR.mk r221.1 s223)) 59) :: (.own Sl.nil 77 4 (encs ([] : List Wait))) :: (.own s225 3 1 (encs r221.2.1)) :: (.blk b109 (enc y112) 61) :: (.blk b107 (enc (SkeenR.mk y169 s170)) 59) :: (.own Sl.nil 77 4 (encs ([] : List Wait))) :: (.blk b40 (enc (SkeenR.mk Skeen.zero Sl.nil)) 59) :: (.own Sl.nil 77 4 (encs ([] : List Wait))) :: (.blk b37 (enc r33.1) 61) :: (.blk b31 (enc (SkeenR.mk r22.1 s24)) 59) :: (.own Sl.nil 77 4 (encs ([] : List Wait))) :: (.own s24 77 4 (encs r22.1.Wait)) :: (.own s26 3 1 (encs r22.2.1)) :: (.blk b20 (enc r11.2.1) 61) :: (.blk b18 (enc (SkeenR.mk r11.1 s13)) 59) :: (.own Sl.nil 77 4 (encs ([] : List Wait))) :: (.own s13 77 4 (encs r11.1.Wait)) :: (.blk b5 (enc a2) 61) :: (.blk b3 (enc a1) 3) :: (.blk b1 (enc (SkeenR.mk a0 s_a0_2)) 59) :: L) (fun _ y237 => y237 = o236) ?_ ?_
 ·rcases (Bool.eq_false_or_eq_true r232).symm with hb238 | hb238
  ·replace H := ite_f hb238 H
   refine Lst.skip rfl rfl rfl hb238 rfl (by decide) ?_
   refine Lst.skip rfl rfl rfl hb238 rfl (by decide) ?_
   refine Lst.skip rfl rfl rfl hb238 rfl (by decide) ?_
   refine Lst.r (Ev.pickF rfl hb238 rfl) ?_
   refine Lst.nil ?_
   exact At.meet false (FLe.refl _) ⟨rfl, rfl, rfl, trivial⟩ rfl (some_inj H)
  replace H := ite_t hb238 H
  refine Lst.rG hb238 (Ev.move rfl) ?_
  refine Lst.rG hb238 (Ev.move rfl) ?_
  obtain ⟨r239, h240, H⟩ := bind_some H
  refine Lst.call1G rfl rfl rfl hb238 rfl (by decide) (vs := [Sl.v s26, Sl.v s225]) ⟨rfl, rfl, trivial⟩ Try.call44 (slices_Equal_int_int_sim h240 w0 _ _ _ (.refl _) (Rd.own (i := 12) rfl rfl rfl) (Rd.own (i := 2) rfl rfl rfl)) ?_
  refine Lst.r (Ev.pickT rfl hb238 rfl) ?_
  refine Lst.nil ?_
  exact At.meet r239 (FLe.refl _) ⟨rfl, rfl, rfl, trivial⟩ rfl (some_inj H)
 rintro F243 y237 hF244 hy
 subst hy
 refine Lst.as (e' := [(15, iv r22.2.2), (24, iv r221.2.2), (207, .bool y237)]) (L' := (.blk b230 (enc (SkeenR.mk r221.1 s223)) 59) :: (.own Sl.nil 77 4 (encs ([] : List Wait))) :: (.own s225 3 1 (encs r221.2.1)) :: (.blk b109 (enc y112) 61) :: (.blk b107 (enc (SkeenR.mk y169 s170)) 59) :: (.own Sl.nil 77 4 (encs ([] : List Wait))) :: (.blk b40 (enc (SkeenR.mk Skeen.zero Sl.nil)) 59) :: (.own Sl.nil 77 4 (encs ([] : List Wait))) :: (.blk b37 (enc r33.1) 61) :: (.blk b31 (enc (SkeenR.mk r22.1 s24)) 59) :: (.own Sl.nil 77 4 (encs ([] : List Wait))) :: (.own s24 77 4 (encs r22.1.Wait)) :: (.own s26 3 1 (encs r22.2.1)) :: (.blk b20 (enc r11.2.1) 61) :: (.blk b18 (enc (SkeenR.mk r11.1 s13)) 59) :: (.own Sl.nil 77 4 (encs ([] : List Wait))) :: (.own s13 77 4 (encs r11.1.Wait)) :: (.blk b5 (enc a2) 61) :: (.blk b3 (enc a1) 3) :: (.blk b1 (enc (SkeenR.mk a0 s_a0_2)) 59) :: L) ⟨rfl, rfl, rfl, trivial⟩ rfl ?_
 replace H := HKo236
 refine Lst.r (Ev.move rfl) ?_
 obtain ⟨o245, H, HKo245⟩ := bind_some H
 refine Lst.join (σ := Bool) 4 (fun y246 => [(212, .bool y246)]) (fun y246 => (.blk b230 (enc (SkeenR.mk r221.1 s223)) 59) :: (.own Sl.nil 77 4 (encs ([] : List Wait))) :: (.own s225 3 1 (encs r221.2.1)) :: (.blk b109 (enc y112) 61) :: (.blk b107 (enc (SkeenR.mk y169 s170)) 59) :: (.own Sl.nil 77 4 (encs ([] : List Wait))) :: (.blk b40 (enc (SkeenR.mk Skeen.zero Sl.nil)) 59) :: (.own Sl.nil 77 4 (encs ([] : List Wait))) :: (.blk b37 (enc r33.1) 61) :: (.blk b31 (enc (SkeenR.mk r22.1 s24)) 59) :: (.own Sl.nil 77 4 (encs ([] : List Wait))) :: (.own s24 77 4 (encs r22.1.Wait)) :: (.own s26 3 1 (encs r22.2.1)) :: (.blk b20 (enc r11.2.1) 61) :: (.blk b18 (enc (SkeenR.mk r11.1 s13)) 59) :: (.own Sl.nil 77 4 (encs ([] : List Wait))) :: (.own s13 77 4 (encs r11.1.Wait)) :: (.blk b5 (enc a2) 61) :: (.blk b3 (enc a1) 3) :: (.blk b1 (enc (SkeenR.mk a0 s_a0_2)) 59) :: L) (fun _ y246 => y246 = o245) ?_ ?_
 ·rcases (Bool.eq_false_or_eq_true y237).symm with hb247 | hb247
  ·replace H := ite_f hb247 H
   refine Lst.skip rfl rfl rfl hb247 rfl (by decide) ?_
   refine Lst.skip rfl rfl rfl hb247 rfl (by decide) ?_
   refine Lst.skip rfl rfl rfl hb247 rfl (by decide) ?_
   refine Lst.r (Ev.pickF rfl hb247 rfl) ?_
   refine Lst.nil ?_
   exact At.meet false (FLe.refl _) ⟨rfl, trivial⟩ rfl (some_inj H)
  replace H := ite_t hb247 H
  refine Lst.rG hb247 (Ev.move rfl) ?_
  refine Lst.rG hb247 (Ev.move rfl) ?_
  refine Lst.rG hb247 (Ev.eql rfl rfl) ?_
  refine Lst.r (Ev.pickT rfl hb247 rfl) ?_
  refine Lst.nil ?_
  exact At.meet (r22.2.2 == r221.2.2) (FLe.refl _) ⟨rfl, trivial⟩ rfl (some_inj H)
 rintro F248 y246 hF249 hy
 subst hy
 refine Lst.as (e' := [(212, .bool y246)]) (L' := (.blk b230 (enc (SkeenR.mk r221.1 s223)) 59) :: (.own Sl.nil 77 4 (encs ([] : List Wait))) :: (.own s225 3 1 (encs r221.2.1)) :: (.blk b109 (enc y112) 61) :: (.blk b107 (enc (SkeenR.mk y169 s170)) 59) :: (.own Sl.nil 77 4 (encs ([] : List Wait))) :: (.blk b40 (enc (SkeenR.mk Skeen.zero Sl.nil)) 59) :: (.own Sl.nil 77 4 (encs ([] : List Wait))) :: (.blk b37 (enc r33.1) 61) :: (.blk b31 (enc (SkeenR.mk r22.1 s24)) 59) :: (.own Sl.nil 77 4 (encs ([] : List Wait))) :: (.own s24 77 4 (encs r22.1.Wait)) :: (.own s26 3 1 (encs r22.2.1)) :: (.blk b20 (enc r11.2.1) 61) :: (.blk b18 (enc (SkeenR.mk r11.1 s13)) 59) :: (.own Sl.nil 77 4 (encs ([] : List Wait))) :: (.own s13 77 4 (encs r11.1.Wait)) :: (.blk b5 (enc a2) 61) :: (.blk b3 (enc a1) 3) :: (.blk b1 (enc (SkeenR.mk a0 s_a0_2)) 59) :: L) ⟨rfl, trivial⟩ rfl ?_
 replace H := HKo245
 refine Lst.r (Ev.assign rfl) ?_
 refine Lst.nil ?_
 refine At.then ?_
 obtain rfl := some_inj H
 refine Cd.ret ?_
 exact At.ret1 rfl (Res.tmp rfl) (FLe.trans (FLe.trans (FLe.trans (FLe.trans (FLe.trans (FLe.trans (FLe.trans (FLe.trans (FLe.trans (FLe.trans (FLe.trans (FLe.trans hF16 hF29) hF71) hF168) hF175) hF184) hF189) hF195) hF200) hF205) hF228) hF244) hF249) (sc1 (sc1 (sc1 (sc1 (sc1 (sc1 (sc1 (sc1 (sc1 (sc1 (sc1 (sc1 (sc1 (sc1 (sc1 (sc1 (sc1 (sc1 (sc1 (sc1 (.refl _))))))))))))))))))))) ⟨rfl, rfl⟩
end Go.Proofs.Ytnljiedichjagaa
