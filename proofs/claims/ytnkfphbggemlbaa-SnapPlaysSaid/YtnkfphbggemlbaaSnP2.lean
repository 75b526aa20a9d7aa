/-
  The functions compute their specs; printed by a program.
-/
import Derived.Test.YtnkfphbggemlbaaSnP1
namespace Go.Proofs.Ytnkfphbggemlbaa
open Go.RowKit Enc
set_option linter.unusedVariables false
set_option linter.unusedSimpArgs false
set_option maxRecDepth 20000 in
theorem slices_EqualFunc_int_int_int_int_int_int_sim {a0 : List (List Int)} {a1 : List (List Int)} {s_a0 : Sl} {rs_a0 : List (LR Int)} {s_a1 : Sl} {rs_a1 : List (LR Int)} {r : Bool} (H : slices_EqualFunc_int_int_int_int_int_int a0 a1 = some r) (w0 : World) (F : Frz) (M L : List Item) (hM : M.Sublist L) (hm_a0 : rs_a0.map LR.v = a0) (hs_a0 : Rd w0 F M s_a0 rs_a0) (ha_a0 : All LR.rel w0 F M rs_a0) (hm_a1 : rs_a1.map LR.v = a1) (hs_a1 : Rd w0 F M s_a1 rs_a1) (ha_a1 : All LR.rel w0 F M rs_a1) : Ok Try.prog w0 16 [Sl.v s_a0, Sl.v s_a1, .func (.func 15) #[] #[]] F (L) (Is (.bool r) (L)) := by
 unfold slices_EqualFunc_int_int_int_int_int_int at H
 refine Ok.enter (m := 3) (n := 32) Try.func16 rfl rfl rfl (by decide) ?_
 refine Cd.env (e' := [(0, Sl.v s_a0), (1, Sl.v s_a1), (2, .func (.func 15) #[] #[])]) rfl ?_
 refine sr0 ?_
 refine Lst.r (Ev.assign rfl) ?_
 refine nt0 ?_
 refine Cd.seq ?_
 refine sr0 ?_
 refine mv0 rfl ?_
 refine Lst.r (Ev.lenM (map_len hm_a0) (Ev.lenS (α := LR Int) (xs := rs_a0) (by decide) rfl rfl Try.runUnderlying26 (hs_a0.mono fl hM))) ?_
 refine mv0 rfl ?_
 refine Lst.r (Ev.lenM (map_len hm_a1) (Ev.lenS (α := LR Int) (xs := rs_a1) (by decide) rfl rfl Try.runUnderlying26 (hs_a1.mono fl hM))) ?_
 refine Lst.r (Ev.neq rfl rfl) ?_
 refine nt0 ?_
 rcases Bool.eq_false_or_eq_true ((a0.length : Int) != (a1.length : Int)) with hb3 | hb3
 ·replace H := ite_t hb3 H
  refine Cd.condT rfl hb3 ?_
  refine sr0 ?_
  refine Lst.r (Ev.assign rfl) ?_
  refine nt0 ?_
  obtain rfl := some_inj H
  refine Cd.ret ?_
  refine At.then_ret ?_
  exact At.ret1 rfl (Res.tmp rfl) fl (.refl _) ⟨rfl, rfl⟩
 replace H := ite_f hb3 H
 refine Cd.condF rfl hb3 ?_
 refine Cd.skip ?_
 refine At.then ?_
 refine Cd.seq ?_
 refine sr0 ?_
 refine mv0 rfl ?_
 refine Lst.r (Ev.lenM (map_len hm_a0) (Ev.lenS (α := LR Int) (xs := rs_a0) (by decide) rfl rfl Try.runUnderlying26 (hs_a0.mono fl hM))) ?_
 refine mv0 rfl ?_
 refine nt0 ?_
 refine Cd.block ?_
 refine Cd.bound (Rd.le (α := LR Int) (xs := rs_a0) (by decide) (hs_a0.mono fl hM)) (fun hN21 => ?_)
 rw [map_len hm_a0] at hN21
 obtain ⟨ol5, H, HKl5⟩ := andThen_some H
 refine Cd.loop (σ := Nat × Nat × Unit) (fun (i5, k5, _u) => [(1, Sl.v s_a1), (2, .func (.func 15) #[] #[]), (15, Sl.v s_a0), (16, iv (a0.length : Int)), (17, iv (i5 : Int))]) (fun (i5, k5, _u) => L) (fun _ => (fun (i5, k5, _u) => rangeM (slices_EqualFunc_int_int_int_int_int_int_B0 a0 a1) k5 i5 () = some ol5 ∧ i5 + k5 = a0.length)) (fun (i5, k5, _u) => k5) (0, a0.length, ()) ⟨rfl, rfl, rfl, rfl, rfl, trivial⟩ rfl ⟨H, by omega⟩ ?_
 rintro F6 ⟨i5, k5, _u⟩ hF7 ⟨H, hik5⟩
 refine Cd.as (e' := [(1, Sl.v s_a1), (2, .func (.func 15) #[] #[]), (15, Sl.v s_a0), (16, iv (a0.length : Int)), (17, iv (i5 : Int))]) (L' := L) ⟨rfl, rfl, rfl, rfl, rfl, trivial⟩ rfl ?_
 rcases k5 with _ | k5
 ·have hc5 : decide ((i5 : Int) < (a0.length : Int)) = false := decide_eq_false (by omega)
  replace H := rangeM_end H
  refine sr0 ?_
  refine Lst.r (Ev.lss rfl rfl) ?_
  refine nt0 ?_
  refine Cd.seq ?_
  refine Cd.condF rfl hc5 ?_
  refine Cd.exit ?_
  refine At.then_exit ?_
  refine At.then_exit ?_
  refine At.in_exit ?_
  subst H
  replace H := HKl5
  refine At.then ?_
  refine sr0 ?_
  refine Lst.r (Ev.assign rfl) ?_
  refine nt0 ?_
  obtain rfl := some_inj H
  refine Cd.ret ?_
  exact At.ret1 rfl (Res.tmp rfl) hF7 (.refl _) ⟨rfl, rfl⟩
 have hc5 : decide ((i5 : Int) < (a0.length : Int)) = true := decide_eq_true (by omega)
 obtain ⟨c5, H, hgo5, hbrk5, hret5⟩ := rangeM_go H
 unfold slices_EqualFunc_int_int_int_int_int_int_B0 at H
 try dsimp only at H
 refine sr0 ?_
 refine Lst.r (Ev.lss rfl rfl) ?_
 refine nt0 ?_
 refine Cd.seq ?_
 refine Cd.condT rfl hc5 ?_
 refine Cd.skip ?_
 refine At.then ?_
 refine Cd.seq ?_
 refine Cd.block ?_
 refine sr0 ?_
 refine mv0 rfl ?_
 obtain ⟨x8, h9, H⟩ := bind_some H
 have g10 := lat_some h9
 obtain ⟨⟨r11v, r11h⟩, r11g, r11e, r11m⟩ := map_get hm_a0 g10.2.2
 obtain rfl : x8 = r11v := r11e.symm
 have r11q : Rd w0 _ _ r11h x8 := ha_a0 _ r11m
 refine Lst.r (Ev.indexS (α := LR Int) (xs := rs_a0) rfl rfl Try.runUnderlying26 Try.sizeOf22 rfl (by decide) (hs_a0.mono hF7 hM) g10.1 (by have := map_len hm_a0; omega)) ?_
 refine Lst.r (Ev.loadS (α := LR Int) rfl (hs_a0.mono hF7 hM) Try.isAgg22 (v := Sl.v r11h) ((Get.elemN (s := 1) rfl r11g gh0).off (by omega))) ?_
 refine Lst.r (Ev.assign rfl) ?_
 refine Lst.r (Ev.assign rfl) ?_
 refine nsr ?_
 refine mv0 rfl ?_
 refine mv0 rfl ?_
 obtain ⟨x12, h13, H⟩ := bind_some H
 have g14 := lat_some h13
 obtain ⟨⟨r15v, r15h⟩, r15g, r15e, r15m⟩ := map_get hm_a1 g14.2.2
 obtain rfl : x12 = r15v := r15e.symm
 have r15q : Rd w0 _ _ r15h x12 := ha_a1 _ r15m
 refine Lst.r (Ev.indexS (α := LR Int) (xs := rs_a1) rfl rfl Try.runUnderlying26 Try.sizeOf22 rfl (by decide) (hs_a1.mono hF7 hM) g14.1 (by have := map_len hm_a1; omega)) ?_
 refine Lst.r (Ev.loadS (α := LR Int) rfl (hs_a1.mono hF7 hM) Try.isAgg22 (v := Sl.v r15h) ((Get.elemN (s := 1) rfl r15g gh0).off (by omega))) ?_
 refine Lst.r (Ev.assign rfl) ?_
 refine nsr ?_
 refine mv0 rfl ?_
 refine mv0 rfl ?_
 refine mv0 rfl ?_
 obtain ⟨r16, h17, H⟩ := bind_some H
 refine Lst.callV1 rfl rfl (by decide) (vs := [Sl.v r11h, Sl.v r15h]) (cs := []) rfl ⟨rfl, rfl, trivial⟩ Try.call15 (slices_Equal_int_int_sim h17 w0 _ M _ hM (r11q.mono hF7 (.refl _)) (r15q.mono hF7 (.refl _))) ?_
 refine Lst.r (Ev.not rfl) ?_
 refine nt0 ?_
 rcases Bool.eq_false_or_eq_true (!r16) with hb20 | hb20
 ·replace H := ite_t hb20 H
  refine Cd.condT rfl hb20 ?_
  refine Cd.seq ?_
  refine Cd.as (e' := []) (L' := L) trivial rfl ?_
  refine Cd.region ?_
  refine Lst.r (Ev.assign rfl) ?_
  refine nt0 ?_
  have H := hret5 _ (some_inj H).symm
  subst H
  replace H := HKl5
  obtain rfl := some_inj H
  refine Cd.ret ?_
  refine At.in_ret ?_
  refine At.then_ret ?_
  refine At.then_ret ?_
  refine At.in_ret ?_
  refine At.then_ret ?_
  exact At.ret1 rfl (Res.tmp rfl) hF7 (.refl _) ⟨rfl, rfl⟩
 replace H := ite_f hb20 H
 refine Cd.condF rfl hb20 ?_
 refine Cd.skip ?_
 refine At.in_normal ?_
 refine At.then ?_
 refine Cd.as (e' := [(1, Sl.v s_a1), (2, .func (.func 15) #[] #[]), (15, Sl.v s_a0), (16, iv (a0.length : Int)), (17, iv (i5 : Int))]) (L' := L) ⟨rfl, rfl, rfl, rfl, rfl, trivial⟩ rfl ?_
 refine Cd.region ?_
 refine Lst.r (Ev.incr (by omega) rfl rfl) ?_
 refine mv0 rfl ?_
 refine Lst.nil ?_
 exact At.meet (i5 + 1, k5, ()) hF7 ⟨rfl, rfl, rfl, rfl, rfl, trivial⟩ rfl ⟨⟨hgo5 _ (some_inj H).symm, by omega⟩, Nat.lt_succ_self _⟩
set_option maxRecDepth 20000 in
theorem partref_SamePicture_sim {a0 : Picture} {a1 : Picture} {s_a0_0 : Sl} {s_a0_1 : Sl} {rs_a0_1 : List (LR Int)} {s_a0_3 : Sl} {s_a1_0 : Sl} {s_a1_1 : Sl} {rs_a1_1 : List (LR Int)} {s_a1_3 : Sl} {r : Bool} (H : partref_SamePicture a0 a1 = some r) (w0 : World) (F : Frz) (M L : List Item) (hM : M.Sublist L) (hs_a0_0 : Rd w0 F M s_a0_0 a0.Have) (hm_a0_1 : rs_a0_1.map LR.v = a0.Lanes) (hs_a0_1 : Rd w0 F M s_a0_1 rs_a0_1) (ha_a0_1 : All LR.rel w0 F M rs_a0_1) (hs_a0_3 : Rd w0 F M s_a0_3 a0.Now) (hs_a1_0 : Rd w0 F M s_a1_0 a1.Have) (hm_a1_1 : rs_a1_1.map LR.v = a1.Lanes) (hs_a1_1 : Rd w0 F M s_a1_1 rs_a1_1) (ha_a1_1 : All LR.rel w0 F M rs_a1_1) (hs_a1_3 : Rd w0 F M s_a1_3 a1.Now) : Ok Try.prog w0 7 [.agg (enc (PictureR.mk a0 s_a0_0 s_a0_1 s_a0_3)).toArray, .agg (enc (PictureR.mk a1 s_a1_0 s_a1_1 s_a1_3)).toArray] F (L) (Is (.bool r) (L)) := by
 unfold partref_SamePicture at H
 refine Ok.enter (m := 2) (n := 38) Try.func7 rfl rfl rfl (by decide) ?_
 refine Cd.env (e' := [(0, .agg (enc (PictureR.mk a0 s_a0_0 s_a0_1 s_a0_3)).toArray), (1, .agg (enc (PictureR.mk a1 s_a1_0 s_a1_1 s_a1_3)).toArray)]) rfl ?_
 refine sr0 ?_
 refine Lst.box rfl rfl (by decide) rfl (cs := enc (PictureR.mk a0 s_a0_0 s_a0_1 s_a0_3)) rfl (fun b1 => ?_)
 refine Lst.box rfl rfl (by decide) rfl (cs := enc (PictureR.mk a1 s_a1_0 s_a1_1 s_a1_3)) rfl (fun b3 => ?_)
 refine Lst.r (Ev.assign rfl) ?_
 refine nsr ?_
 refine Lst.r (Ev.fieldAddr (off' := 0) rfl Try.runUnderlying28 rfl Try.sizeOf22 rfl rfl) ?_
 refine Lst.r (Ev.load (i := 1) rfl rfl Try.isAgg22 (v := Sl.v s_a0_0) ((PictureR.get_Have gh0).off (by rfl))) ?_
 refine Lst.r (Ev.fieldAddr (off' := 0) rfl Try.runUnderlying28 rfl Try.sizeOf22 rfl rfl) ?_
 refine Lst.r (Ev.load (i := 0) rfl rfl Try.isAgg22 (v := Sl.v s_a1_0) ((PictureR.get_Have gh0).off (by rfl))) ?_
 obtain ⟨r5, h6, H⟩ := bind_some H
 refine Lst.call1 rfl rfl (by decide) (vs := [Sl.v s_a0_0, Sl.v s_a1_0]) ⟨rfl, rfl, trivial⟩ Try.call15 (slices_Equal_int_int_sim h6 w0 _ M _ (sc2 hM) (hs_a0_0.mono fl (.refl _)) (hs_a1_0.mono fl (.refl _))) ?_
 refine mv0 rfl ?_
 obtain ⟨o9, H, HKo9⟩ := bind_some H
 refine Lst.join (σ := Bool) 6 (fun y10 => [(2, pv b1 0), (3, pv b3 0), (16, .bool y10)]) (fun y10 => (.blk b3 (enc (PictureR.mk a1 s_a1_0 s_a1_1 s_a1_3)) 28) :: (.blk b1 (enc (PictureR.mk a0 s_a0_0 s_a0_1 s_a0_3)) 28) :: L) (fun _ y10 => y10 = o9) ?_ ?_
 ·rcases (Bool.eq_false_or_eq_true r5).symm with hb11 | hb11
  ·replace H := ite_f hb11 H
   refine Lst.skip rfl rfl rfl hb11 rfl (by decide) ?_
   refine Lst.skip rfl rfl rfl hb11 rfl (by decide) ?_
   refine Lst.skip rfl rfl rfl hb11 rfl (by decide) ?_
   refine Lst.skip rfl rfl rfl hb11 rfl (by decide) ?_
   refine Lst.skip rfl rfl rfl hb11 rfl (by decide) ?_
   refine Lst.r (Ev.pickF rfl hb11 rfl) ?_
   refine Lst.nil ?_
   exact At.meet false fl ⟨rfl, rfl, rfl, trivial⟩ rfl (some_inj H)
  replace H := ite_t hb11 H
  refine Lst.rG hb11 (Ev.fieldAddr (off' := 1) rfl Try.runUnderlying28 rfl Try.sizeOf26 rfl rfl) ?_
  refine Lst.rG hb11 (Ev.load (i := 1) rfl rfl Try.isAgg26 (v := Sl.v s_a0_1) ((PictureR.get_Lanes gh0).off (by rfl))) ?_
  refine Lst.rG hb11 (Ev.fieldAddr (off' := 1) rfl Try.runUnderlying28 rfl Try.sizeOf26 rfl rfl) ?_
  refine Lst.rG hb11 (Ev.load (i := 0) rfl rfl Try.isAgg26 (v := Sl.v s_a1_1) ((PictureR.get_Lanes gh0).off (by rfl))) ?_
  obtain ⟨r12, h13, H⟩ := bind_some H
  refine Lst.call1G rfl rfl rfl hb11 rfl (by decide) (vs := [Sl.v s_a0_1, Sl.v s_a1_1, .func (.func 15) #[] #[]]) ⟨rfl, rfl, rfl, trivial⟩ Try.call16 (slices_EqualFunc_int_int_int_int_int_int_sim h13 w0 _ M _ (sc2 hM) hm_a0_1 (hs_a0_1.mono fl (.refl _)) (All.monoLR ha_a0_1 fl (.refl _)) hm_a1_1 (hs_a1_1.mono fl (.refl _)) (All.monoLR ha_a1_1 fl (.refl _))) ?_
  refine Lst.r (Ev.pickT rfl hb11 rfl) ?_
  refine Lst.nil ?_
  exact At.meet r12 fl ⟨rfl, rfl, rfl, trivial⟩ rfl (some_inj H)
 rintro F16 y10 hF17 hy
 subst hy
 refine Lst.as (e' := [(2, pv b1 0), (3, pv b3 0), (16, .bool y10)]) (L' := (.blk b3 (enc (PictureR.mk a1 s_a1_0 s_a1_1 s_a1_3)) 28) :: (.blk b1 (enc (PictureR.mk a0 s_a0_0 s_a0_1 s_a0_3)) 28) :: L) ⟨rfl, rfl, rfl, trivial⟩ rfl ?_
 replace H := HKo9
 refine mv0 rfl ?_
 obtain ⟨o18, H, HKo18⟩ := bind_some H
 refine Lst.join (σ := Bool) 6 (fun y19 => [(2, pv b1 0), (3, pv b3 0), (23, .bool y19)]) (fun y19 => (.blk b3 (enc (PictureR.mk a1 s_a1_0 s_a1_1 s_a1_3)) 28) :: (.blk b1 (enc (PictureR.mk a0 s_a0_0 s_a0_1 s_a0_3)) 28) :: L) (fun _ y19 => y19 = o18) ?_ ?_
 ·rcases (Bool.eq_false_or_eq_true y10).symm with hb20 | hb20
  ·replace H := ite_f hb20 H
   refine Lst.skip rfl rfl rfl hb20 rfl (by decide) ?_
   refine Lst.skip rfl rfl rfl hb20 rfl (by decide) ?_
   refine Lst.skip rfl rfl rfl hb20 rfl (by decide) ?_
   refine Lst.skip rfl rfl rfl hb20 rfl (by decide) ?_
   refine Lst.skip rfl rfl rfl hb20 rfl (by decide) ?_
   refine Lst.r (Ev.pickF rfl hb20 rfl) ?_
   refine Lst.nil ?_
   exact At.meet false fl ⟨rfl, rfl, rfl, trivial⟩ rfl (some_inj H)
  replace H := ite_t hb20 H
  refine Lst.rG hb20 (Ev.fieldAddr (off' := 2) rfl Try.runUnderlying28 rfl Try.sizeOf4 rfl rfl) ?_
  refine Lst.rG hb20 (Ev.load (i := 1) rfl rfl Try.isAgg4 (v := .bool a0.Whole) ((PictureR.get_Whole gh0).off (by rfl))) ?_
  refine Lst.rG hb20 (Ev.fieldAddr (off' := 2) rfl Try.runUnderlying28 rfl Try.sizeOf4 rfl rfl) ?_
  refine Lst.rG hb20 (Ev.load (i := 0) rfl rfl Try.isAgg4 (v := .bool a1.Whole) ((PictureR.get_Whole gh0).off (by rfl))) ?_
  refine Lst.rG hb20 (Ev.eqlB rfl rfl Try.runUnderlying4) ?_
  refine Lst.r (Ev.pickT rfl hb20 rfl) ?_
  refine Lst.nil ?_
  exact At.meet (a0.Whole == a1.Whole) fl ⟨rfl, rfl, rfl, trivial⟩ rfl (some_inj H)
 rintro F21 y19 hF22 hy
 subst hy
 refine Lst.as (e' := [(2, pv b1 0), (3, pv b3 0), (23, .bool y19)]) (L' := (.blk b3 (enc (PictureR.mk a1 s_a1_0 s_a1_1 s_a1_3)) 28) :: (.blk b1 (enc (PictureR.mk a0 s_a0_0 s_a0_1 s_a0_3)) 28) :: L) ⟨rfl, rfl, rfl, trivial⟩ rfl ?_
 replace H := HKo18
 refine mv0 rfl ?_
 obtain ⟨o23, H, HKo23⟩ := bind_some H
 refine Lst.join (σ := Bool) 6 (fun y24 => [(2, pv b1 0), (3, pv b3 0), (30, .bool y24)]) (fun y24 => (.blk b3 (enc (PictureR.mk a1 s_a1_0 s_a1_1 s_a1_3)) 28) :: (.blk b1 (enc (PictureR.mk a0 s_a0_0 s_a0_1 s_a0_3)) 28) :: L) (fun _ y24 => y24 = o23) ?_ ?_
 ·rcases (Bool.eq_false_or_eq_true y19).symm with hb25 | hb25
  ·replace H := ite_f hb25 H
   refine Lst.skip rfl rfl rfl hb25 rfl (by decide) ?_
   refine Lst.skip rfl rfl rfl hb25 rfl (by decide) ?_
   refine Lst.skip rfl rfl rfl hb25 rfl (by decide) ?_
   refine Lst.skip rfl rfl rfl hb25 rfl (by decide) ?_
   refine Lst.skip rfl rfl rfl hb25 rfl (by decide) ?_
   refine Lst.r (Ev.pickF rfl hb25 rfl) ?_
   refine Lst.nil ?_
   exact At.meet false fl ⟨rfl, rfl, rfl, trivial⟩ rfl (some_inj H)
  replace H := ite_t hb25 H
  refine Lst.rG hb25 (Ev.fieldAddr (off' := 3) rfl Try.runUnderlying28 rfl Try.sizeOf22 rfl rfl) ?_
  refine Lst.rG hb25 (Ev.load (i := 1) rfl rfl Try.isAgg22 (v := Sl.v s_a0_3) ((PictureR.get_Now gh0).off (by rfl))) ?_
  refine Lst.rG hb25 (Ev.fieldAddr (off' := 3) rfl Try.runUnderlying28 rfl Try.sizeOf22 rfl rfl) ?_
  refine Lst.rG hb25 (Ev.load (i := 0) rfl rfl Try.isAgg22 (v := Sl.v s_a1_3) ((PictureR.get_Now gh0).off (by rfl))) ?_
  obtain ⟨r26, h27, H⟩ := bind_some H
  refine Lst.call1G rfl rfl rfl hb25 rfl (by decide) (vs := [Sl.v s_a0_3, Sl.v s_a1_3]) ⟨rfl, rfl, trivial⟩ Try.call15 (slices_Equal_int_int_sim h27 w0 _ M _ (sc2 hM) (hs_a0_3.mono (FLe.trans hF17 hF22) (.refl _)) (hs_a1_3.mono (FLe.trans hF17 hF22) (.refl _))) ?_
  refine Lst.r (Ev.pickT rfl hb25 rfl) ?_
  refine Lst.nil ?_
  exact At.meet r26 fl ⟨rfl, rfl, rfl, trivial⟩ rfl (some_inj H)
 rintro F30 y24 hF31 hy
 subst hy
 refine Lst.as (e' := [(2, pv b1 0), (3, pv b3 0), (30, .bool y24)]) (L' := (.blk b3 (enc (PictureR.mk a1 s_a1_0 s_a1_1 s_a1_3)) 28) :: (.blk b1 (enc (PictureR.mk a0 s_a0_0 s_a0_1 s_a0_3)) 28) :: L) ⟨rfl, rfl, rfl, trivial⟩ rfl ?_
 replace H := HKo23
 refine mv0 rfl ?_
 obtain ⟨o32, H, HKo32⟩ := bind_some H
 refine Lst.join (σ := Bool) 6 (fun y33 => [(37, .bool y33)]) (fun y33 => (.blk b3 (enc (PictureR.mk a1 s_a1_0 s_a1_1 s_a1_3)) 28) :: (.blk b1 (enc (PictureR.mk a0 s_a0_0 s_a0_1 s_a0_3)) 28) :: L) (fun _ y33 => y33 = o32) ?_ ?_
 ·rcases (Bool.eq_false_or_eq_true y24).symm with hb34 | hb34
  ·replace H := ite_f hb34 H
   refine Lst.skip rfl rfl rfl hb34 rfl (by decide) ?_
   refine Lst.skip rfl rfl rfl hb34 rfl (by decide) ?_
   refine Lst.skip rfl rfl rfl hb34 rfl (by decide) ?_
   refine Lst.skip rfl rfl rfl hb34 rfl (by decide) ?_
   refine Lst.skip rfl rfl rfl hb34 rfl (by decide) ?_
   refine Lst.r (Ev.pickF rfl hb34 rfl) ?_
   refine Lst.nil ?_
   exact At.meet false fl ⟨rfl, trivial⟩ rfl (some_inj H)
  replace H := ite_t hb34 H
  refine Lst.rG hb34 (Ev.fieldAddr (off' := 4) rfl Try.runUnderlying28 rfl Try.sizeOf3 rfl rfl) ?_
  refine Lst.rG hb34 (Ev.load (i := 1) rfl rfl Try.isAgg3 (v := iv a0.Under) ((PictureR.get_Under gh0).off (by rfl))) ?_
  refine Lst.rG hb34 (Ev.fieldAddr (off' := 4) rfl Try.runUnderlying28 rfl Try.sizeOf3 rfl rfl) ?_
  refine Lst.rG hb34 (Ev.load (i := 0) rfl rfl Try.isAgg3 (v := iv a1.Under) ((PictureR.get_Under gh0).off (by rfl))) ?_
  refine Lst.rG hb34 (Ev.eql rfl rfl) ?_
  refine Lst.r (Ev.pickT rfl hb34 rfl) ?_
  refine Lst.nil ?_
  exact At.meet (a0.Under == a1.Under) fl ⟨rfl, trivial⟩ rfl (some_inj H)
 rintro F35 y33 hF36 hy
 subst hy
 refine Lst.as (e' := [(37, .bool y33)]) (L' := (.blk b3 (enc (PictureR.mk a1 s_a1_0 s_a1_1 s_a1_3)) 28) :: (.blk b1 (enc (PictureR.mk a0 s_a0_0 s_a0_1 s_a0_3)) 28) :: L) ⟨rfl, trivial⟩ rfl ?_
 replace H := HKo32
 refine Lst.r (Ev.assign rfl) ?_
 refine nt0 ?_
 obtain rfl := some_inj H
 refine Cd.ret ?_
 exact At.ret1 rfl (Res.tmp rfl) (FLe.trans (FLe.trans (FLe.trans hF17 hF22) hF31) hF36) (sc1 (sc1 (.refl _))) ⟨rfl, rfl⟩
set_option maxRecDepth 20000 in
theorem math_bits_Mul64_sim {a0 : BitVec 64} {a1 : BitVec 64} {r : (BitVec 64) × (BitVec 64)} (H : math_bits_Mul64 a0 a1 = some r) (w0 : World) (F : Frz) (M L : List Item) (hM : M.Sublist L) : Ok Try.prog w0 31 [.int .u64 a0.toNat, .int .u64 a1.toNat] F (L) (Is (.tuple #[.int .u64 r.1.toNat, .int .u64 r.2.toNat]) (L)) := by
 unfold math_bits_Mul64 at H
 refine Ok.enter (m := 2) (n := 51) Try.func31 rfl rfl rfl (by decide) ?_
 refine Cd.env (e' := [(0, .int .u64 a0.toNat), (1, .int .u64 a1.toNat)]) rfl ?_
 refine sr0 ?_
 refine Lst.r (Ev.assign rfl) ?_
 refine Lst.r (Ev.assign rfl) ?_
 refine nsr ?_
 refine mv0 rfl ?_
 refine Lst.r (Ev.andU64 (i := a0) (j := (4294967295 : BitVec 64)) rfl rfl) ?_
 refine Lst.r (Ev.assign rfl) ?_
 refine nsr ?_
 refine mv0 rfl ?_
 refine Lst.r (Ev.shrU64 (i := a0) (m := 32) rfl rfl) ?_
 refine Lst.r (Ev.assign rfl) ?_
 refine nsr ?_
 refine mv0 rfl ?_
 refine Lst.r (Ev.andU64 (i := a1) (j := (4294967295 : BitVec 64)) rfl rfl) ?_
 refine Lst.r (Ev.assign rfl) ?_
 refine nsr ?_
 refine mv0 rfl ?_
 refine Lst.r (Ev.shrU64 (i := a1) (m := 32) rfl rfl) ?_
 refine Lst.r (Ev.assign rfl) ?_
 refine nsr ?_
 refine mv0 rfl ?_
 refine mv0 rfl ?_
 refine Lst.r (Ev.mulU64 (i := a0 &&& (4294967295 : BitVec 64)) (j := a1 &&& (4294967295 : BitVec 64)) rfl rfl) ?_
 refine Lst.r (Ev.assign rfl) ?_
 refine nsr ?_
 refine mv0 rfl ?_
 refine mv0 rfl ?_
 refine Lst.r (Ev.mulU64 (i := a0 >>> 32) (j := a1 &&& (4294967295 : BitVec 64)) rfl rfl) ?_
 refine mv0 rfl ?_
 refine Lst.r (Ev.shrU64 (i := (a0 &&& (4294967295 : BitVec 64)) * (a1 &&& (4294967295 : BitVec 64))) (m := 32) rfl rfl) ?_
 refine Lst.r (Ev.addU64 (i := (a0 >>> 32) * (a1 &&& (4294967295 : BitVec 64))) (j := ((a0 &&& (4294967295 : BitVec 64)) * (a1 &&& (4294967295 : BitVec 64))) >>> 32) rfl rfl) ?_
 refine Lst.r (Ev.assign rfl) ?_
 refine nt0 ?_
 refine Cd.seq ?_
 refine Cd.as (e' := [(0, .int .u64 a0.toNat), (1, .int .u64 a1.toNat), (6, .int .u64 (a0 &&& (4294967295 : BitVec 64)).toNat), (7, .int .u64 (a0 >>> 32).toNat), (9, .int .u64 (a1 >>> 32).toNat), (11, .int .u64 (((a0 >>> 32) * (a1 &&& (4294967295 : BitVec 64))) + (((a0 &&& (4294967295 : BitVec 64)) * (a1 &&& (4294967295 : BitVec 64))) >>> 32)).toNat)]) (L' := L) ⟨rfl, rfl, rfl, rfl, rfl, rfl, trivial⟩ rfl ?_
 refine Cd.region ?_
 refine mv0 rfl ?_
 refine Lst.r (Ev.andU64 (i := ((a0 >>> 32) * (a1 &&& (4294967295 : BitVec 64))) + (((a0 &&& (4294967295 : BitVec 64)) * (a1 &&& (4294967295 : BitVec 64))) >>> 32)) (j := (4294967295 : BitVec 64)) rfl rfl) ?_
 refine Lst.r (Ev.assign rfl) ?_
 refine nsr ?_
 refine mv0 rfl ?_
 refine Lst.r (Ev.shrU64 (i := ((a0 >>> 32) * (a1 &&& (4294967295 : BitVec 64))) + (((a0 &&& (4294967295 : BitVec 64)) * (a1 &&& (4294967295 : BitVec 64))) >>> 32)) (m := 32) rfl rfl) ?_
 refine Lst.r (Ev.assign rfl) ?_
 refine nsr ?_
 refine mv0 rfl ?_
 refine mv0 rfl ?_
 refine mv0 rfl ?_
 refine Lst.r (Ev.mulU64 (i := a0 &&& (4294967295 : BitVec 64)) (j := a1 >>> 32) rfl rfl) ?_
 refine Lst.r (Ev.addU64 (i := (((a0 >>> 32) * (a1 &&& (4294967295 : BitVec 64))) + (((a0 &&& (4294967295 : BitVec 64)) * (a1 &&& (4294967295 : BitVec 64))) >>> 32)) &&& (4294967295 : BitVec 64)) (j := (a0 &&& (4294967295 : BitVec 64)) * (a1 >>> 32)) rfl rfl) ?_
 refine Lst.r (Ev.assign rfl) ?_
 refine nsr ?_
 refine mv0 rfl ?_
 refine mv0 rfl ?_
 refine Lst.r (Ev.mulU64 (i := a0 >>> 32) (j := a1 >>> 32) rfl rfl) ?_
 refine mv0 rfl ?_
 refine Lst.r (Ev.addU64 (i := (a0 >>> 32) * (a1 >>> 32)) (j := (((a0 >>> 32) * (a1 &&& (4294967295 : BitVec 64))) + (((a0 &&& (4294967295 : BitVec 64)) * (a1 &&& (4294967295 : BitVec 64))) >>> 32)) >>> 32) rfl rfl) ?_
 refine mv0 rfl ?_
 refine Lst.r (Ev.shrU64 (i := ((((a0 >>> 32) * (a1 &&& (4294967295 : BitVec 64))) + (((a0 &&& (4294967295 : BitVec 64)) * (a1 &&& (4294967295 : BitVec 64))) >>> 32)) &&& (4294967295 : BitVec 64)) + ((a0 &&& (4294967295 : BitVec 64)) * (a1 >>> 32))) (m := 32) rfl rfl) ?_
 refine Lst.r (Ev.addU64 (i := ((a0 >>> 32) * (a1 >>> 32)) + ((((a0 >>> 32) * (a1 &&& (4294967295 : BitVec 64))) + (((a0 &&& (4294967295 : BitVec 64)) * (a1 &&& (4294967295 : BitVec 64))) >>> 32)) >>> 32)) (j := (((((a0 >>> 32) * (a1 &&& (4294967295 : BitVec 64))) + (((a0 &&& (4294967295 : BitVec 64)) * (a1 &&& (4294967295 : BitVec 64))) >>> 32)) &&& (4294967295 : BitVec 64)) + ((a0 &&& (4294967295 : BitVec 64)) * (a1 >>> 32))) >>> 32) rfl rfl) ?_
 refine Lst.r (Ev.assign rfl) ?_
 refine nt0 ?_
 refine Cd.seq ?_
 refine Cd.as (e' := [(0, .int .u64 a0.toNat), (1, .int .u64 a1.toNat), (4, .int .u64 ((((a0 >>> 32) * (a1 >>> 32)) + ((((a0 >>> 32) * (a1 &&& (4294967295 : BitVec 64))) + (((a0 &&& (4294967295 : BitVec 64)) * (a1 &&& (4294967295 : BitVec 64))) >>> 32)) >>> 32)) + ((((((a0 >>> 32) * (a1 &&& (4294967295 : BitVec 64))) + (((a0 &&& (4294967295 : BitVec 64)) * (a1 &&& (4294967295 : BitVec 64))) >>> 32)) &&& (4294967295 : BitVec 64)) + ((a0 &&& (4294967295 : BitVec 64)) * (a1 >>> 32))) >>> 32)).toNat)]) (L' := L) ⟨rfl, rfl, rfl, trivial⟩ rfl ?_
 refine Cd.region ?_
 refine mv0 rfl ?_
 refine mv0 rfl ?_
 refine Lst.r (Ev.mulU64 (i := a0) (j := a1) rfl rfl) ?_
 refine Lst.r (Ev.assign rfl) ?_
 refine nt0 ?_
 obtain rfl := some_inj H
 refine Cd.ret ?_
 exact At.ret2 rfl (Res.tmp rfl) (Res.tmp rfl) fl (.refl _) ⟨rfl, rfl⟩
set_option maxRecDepth 20000 in
theorem math_bits_Mul_sim {a0 : BitVec 64} {a1 : BitVec 64} {r : (BitVec 64) × (BitVec 64)} (H : math_bits_Mul a0 a1 = some r) (w0 : World) (F : Frz) (M L : List Item) (hM : M.Sublist L) : Ok Try.prog w0 27 [.int .u64 a0.toNat, .int .u64 a1.toNat] F (L) (Is (.tuple #[.int .u64 r.1.toNat, .int .u64 r.2.toNat]) (L)) := by
 unfold math_bits_Mul at H
 refine Ok.enter (m := 2) (n := 30) Try.func27 rfl rfl rfl (by decide) ?_
 refine Cd.env (e' := [(0, .int .u64 a0.toNat), (1, .int .u64 a1.toNat)]) rfl ?_
 refine sr0 ?_
 refine Lst.r (Ev.assign rfl) ?_
 refine Lst.r (Ev.assign rfl) ?_
 refine nt0 ?_
 refine Cd.seq ?_
 refine Cd.condF rfl rfl ?_
 refine Cd.skip ?_
 refine At.then ?_
 refine sr0 ?_
 refine mv0 rfl ?_
 refine mv0 rfl ?_
 obtain ⟨r1, h2, H⟩ := bind_some H
 refine Lst.call1 rfl rfl (by decide) (vs := [.int .u64 a0.toNat, .int .u64 a1.toNat]) ⟨rfl, rfl, trivial⟩ Try.call31 (math_bits_Mul64_sim h2 w0 _ M _ hM) ?_
 refine mv0 rfl ?_
 refine Lst.r (Ev.extract rfl rfl) ?_
 refine Lst.r (Ev.extract rfl rfl) ?_
 refine Lst.r (Ev.assign rfl) ?_
 refine Lst.r (Ev.assign rfl) ?_
 refine nsr ?_
 refine mv0 rfl ?_
 refine mv0 rfl ?_
 refine Lst.r (Ev.assign rfl) ?_
 refine Lst.r (Ev.assign rfl) ?_
 refine nt0 ?_
 obtain rfl := some_inj H
 refine Cd.ret ?_
 exact At.ret2 rfl (Res.tmp rfl) (Res.tmp rfl) fl (.refl _) ⟨rfl, rfl⟩
set_option maxRecDepth 20000 in
theorem slices_Repeat_int_int_sim {fu : Nat} {a0 : List Int} {a1 : Int} {s_a0 : Sl} {r : (List Int)} (H : slices_Repeat_int_int fu a0 a1 = some r) (w0 : World) (F : Frz) (M L : List Item) (hM : M.Sublist L) (hs_a0 : Rd w0 F M s_a0 a0) : Ok Try.prog w0 17 [Sl.v s_a0, iv a1] F (L) (fun _ L' v => ∃ (s1 : Sl), v = Sl.v s1 ∧ L' = (.own s1 3 1 (encs r)) :: L) := by
 unfold slices_Repeat_int_int at H
 refine Ok.enter (m := 2) (n := 48) Try.func17 rfl rfl rfl (by decide) ?_
 refine Cd.env (e' := [(0, Sl.v s_a0), (1, iv a1)]) rfl ?_
 refine sr0 ?_
 refine Lst.addNil 3 1 ?_
 refine Lst.r (Ev.assign rfl) ?_
 refine nt0 ?_
 refine Cd.seq ?_
 refine sr0 ?_
 refine mv0 rfl ?_
 refine Lst.r (Ev.lss rfl rfl) ?_
 refine nt0 ?_
 rcases Bool.eq_false_or_eq_true (decide (a1 < (0 : Int))) with hb2 | hb2
 ·replace H := ite_t hb2 H
  cases H
 replace H := ite_f hb2 H
 refine Cd.condF rfl hb2 ?_
 refine Cd.skip ?_
 refine At.then ?_
 refine sr0 ?_
 refine mv0 rfl ?_
 refine Lst.r (Ev.lenS (α := Int) (xs := a0) (by decide) rfl rfl Try.runUnderlying22 (hs_a0.mono fl (sc1 hM))) ?_
 refine Lst.r (Ev.convTo64 rfl Try.runUnderlying3 Try.runUnderlying67) ?_
 refine mv0 rfl ?_
 refine Lst.r (Ev.convTo64 rfl Try.runUnderlying3 Try.runUnderlying67) ?_
 obtain ⟨r3, h4, H⟩ := bind_some H
 refine Lst.call1 rfl rfl (by decide) (vs := [.int .u64 (BitVec.ofInt 64 (a0.length : Int)).toNat, .int .u64 (BitVec.ofInt 64 a1).toNat]) ⟨rfl, rfl, trivial⟩ Try.call27 (math_bits_Mul_sim h4 w0 _ M _ (sc1 hM)) ?_
 refine mv0 rfl ?_
 refine Lst.r (Ev.extract rfl rfl) ?_
 refine Lst.r (Ev.extract rfl rfl) ?_
 refine Lst.r (Ev.assign rfl) ?_
 refine Lst.r (Ev.assign rfl) ?_
 refine nt0 ?_
 refine Cd.seq ?_
 refine sr0 ?_
 refine mv0 rfl ?_
 refine Lst.r (Ev.gtr rfl rfl) ?_
 refine mv0 rfl ?_
 obtain ⟨o7, H, HKo7⟩ := bind_some H
 refine Lst.join (σ := Bool) 3 (fun y8 => [(0, Sl.v s_a0), (6, .int .u64 r3.2.toNat), (26, .bool y8)]) (fun y8 => (.own Sl.nil 3 1 (encs ([] : List Int))) :: L) (fun _ y8 => y8 = o7) ?_ ?_
 ·rcases Bool.eq_false_or_eq_true (decide ((r3.1.toNat : Int) > ((0 : BitVec 64).toNat : Int))) with hb9 | hb9
  ·replace H := ite_t hb9 H
   refine Lst.skip rfl rfl rfl hb9 rfl (by decide) ?_
   refine Lst.skip rfl rfl rfl hb9 rfl (by decide) ?_
   refine Lst.r (Ev.pickT rfl hb9 rfl) ?_
   refine Lst.nil ?_
   exact At.meet true fl ⟨rfl, rfl, rfl, trivial⟩ rfl (some_inj H)
  replace H := ite_f hb9 H
  refine Lst.rG hb9 (Ev.move rfl) ?_
  refine Lst.rG hb9 (Ev.gtr rfl rfl) ?_
  refine Lst.r (Ev.pickF rfl hb9 rfl) ?_
  refine Lst.nil ?_
  exact At.meet (decide ((r3.2.toNat : Int) > ((9223372036854775807 : BitVec 64).toNat : Int))) fl ⟨rfl, rfl, rfl, trivial⟩ rfl (some_inj H)
 rintro F10 y8 hF11 hy
 subst hy
 refine Lst.as (e' := [(0, Sl.v s_a0), (6, .int .u64 r3.2.toNat), (26, .bool y8)]) (L' := (.own Sl.nil 3 1 (encs ([] : List Int))) :: L) ⟨rfl, rfl, rfl, trivial⟩ rfl ?_
 replace H := HKo7
 refine nt0 ?_
 rcases Bool.eq_false_or_eq_true y8 with hb12 | hb12
 ·replace H := ite_t hb12 H
  cases H
 replace H := ite_f hb12 H
 refine Cd.condF rfl hb12 ?_
 refine Cd.skip ?_
 refine At.then ?_
 refine sr0 ?_
 refine mv0 rfl ?_
 refine Lst.r (Ev.conv64 rfl Try.runUnderlying67 Try.runUnderlying3) ?_
 obtain ⟨n13, h14, H⟩ := bind_some H
 have g15 := mkLen_some h14
 refine Lst.make (α := Int) (z0 := (0 : Int)) (k := n13) rfl rfl (by decide) (congrArg some (congrArg (Value.int .i64) g15.1)) (congrArg some (congrArg (Value.int .i64) g15.1)) Try.runUnderlying22 Try.typeInfo3 rfl rfl rfl rfl rfl g15.2 rfl (fun s16 => ?_)
 refine Lst.r (Ev.assign rfl) ?_
 refine nsr ?_
 refine mv0 rfl ?_
 refine mv0 rfl ?_
 obtain ⟨p18, h19, H⟩ := Let_some H
 refine Lst.copyAll (i := 0) (α := Int) (xs := (List.replicate n13 (0 : Int))) (ys := a0) rfl rfl (by decide) rfl rfl Try.runUnderlying22 Try.sizeOf3 rfl (by decide) rfl rfl (hs_a0.mono hF11 (sc2 hM)) ?_
 refine Lst.its (L' := (.own s16 3 1 (encs p18)) :: (.own Sl.nil 3 1 (encs ([] : List Int))) :: L) (by rw [← h19]; rfl) ?_
 refine Lst.r (Ev.assign rfl) ?_
 refine nt0 ?_
 refine Cd.seq ?_
 refine Cd.block ?_
 obtain ⟨ol20, H, HKl20⟩ := andThen_some H
 refine Cd.loop (σ := Nat × Int × (List Int)) (fun (k20, y21, l22) => [(7, Sl.v s16), (8, iv y21)]) (fun (k20, y21, l22) => (.own s16 3 1 (encs l22)) :: (.own Sl.nil 3 1 (encs ([] : List Int))) :: L) (fun _ => (fun (k20, y21, l22) => whileM (slices_Repeat_int_int_B0) k20 (y21, l22) = some ol20)) (fun (k20, y21, l22) => k20) (fu, copyN 0 ((List.replicate n13 (0 : Int)).length) a0, p18) ⟨rfl, rfl, trivial⟩ rfl H ?_
 rintro F23 ⟨k20, y21, l22⟩ hF24 H
 refine Cd.as (e' := [(7, Sl.v s16), (8, iv y21)]) (L' := (.own s16 3 1 (encs l22)) :: (.own Sl.nil 3 1 (encs ([] : List Int))) :: L) ⟨rfl, rfl, trivial⟩ rfl ?_
 rcases k20 with _ | k20
 ·cases H
 obtain ⟨c20, H, hgo20, hbrk20, hret20⟩ := whileM_go H
 unfold slices_Repeat_int_int_B0 at H
 try dsimp only at H
 refine Cd.seq ?_
 refine sr0 ?_
 refine mv0 rfl ?_
 refine mv0 rfl ?_
 refine Lst.r (Ev.lenS (α := Int) (xs := l22) (by decide) rfl rfl Try.runUnderlying22 (rdo 0 rfl rfl rfl)) ?_
 refine Lst.r (Ev.lss rfl rfl) ?_
 refine nt0 ?_
 rcases (Bool.eq_false_or_eq_true (decide (y21 < (l22.length : Int)))).symm with hb25 | hb25
 ·replace H := ite_f hb25 H
  refine Cd.condF rfl hb25 ?_
  refine Cd.exit ?_
  refine At.then_exit ?_
  refine At.then_exit ?_
  refine At.in_exit ?_
  have H := hbrk20 _ (some_inj H).symm
  subst H
  replace H := HKl20
  refine At.then ?_
  refine sr0 ?_
  refine mv0 rfl ?_
  refine Lst.r (Ev.assign rfl) ?_
  refine nt0 ?_
  obtain rfl := some_inj H
  refine Cd.ret ?_
  exact At.ret1 rfl (Res.tmp rfl) (FLe.trans hF11 hF24) (sk1 (sc1 (.refl _))) ⟨s16, rfl, rfl⟩
 replace H := ite_t hb25 H
 refine Cd.condT rfl hb25 ?_
 refine Cd.skip ?_
 refine At.then ?_
 refine Cd.block ?_
 obtain ⟨m26, h27, H⟩ := bind_some H
 obtain ⟨m30, h31, H⟩ := bind_some H
 obtain ⟨p34, h35, H⟩ := Let_some H
 obtain ⟨o38, h39, H⟩ := Let_some H
 refine Cd.headMeet (σ := (List Int)) 8 (fun l37 => [(7, Sl.v s16), (8, iv y21), (38, iv y21), (45, iv (copyN ((y21 : Int).toNat) (((l22.length : Int) : Int).toNat) m30))]) (fun l37 => (.own s16 3 1 (encs l37)) :: (.own Sl.nil 3 1 (encs ([] : List Int))) :: L) (fun _ l37 => l37 = o38) (by kernel_rfl) (by kernel_rfl) (behind_sink (by kernel_rfl) (by kernel_rfl) (by kernel_rfl)) (by kernel_rfl) (fun hsel hlt => ?_) ?_
 ·refine HdJ.keep (fun w => St w0 F23 ((.own Sl.nil 3 1 (encs ([] : List Int))) :: L) w) (fun w h => trivial) ?_
  refine HdJ.ts hsel hlt 0 (sc1 (sk1 (.refl _))) rfl (Ev.move rfl) ?_
  refine HdJ.ts hsel hlt 1 (sc1 (sk1 (.refl _))) rfl (Ev.move rfl) ?_
  refine HdJ.ts hsel hlt 2 (sc1 (sk1 (.refl _))) rfl (Ev.move rfl) ?_
  refine HdJ.ts hsel hlt 4 (sc1 (sk1 (.refl _))) rfl (Ev.move rfl) ?_
  refine HdJ.ts hsel hlt 5 (sc1 (sk1 (.refl _))) rfl (Ev.move rfl) ?_
  refine HdJ.step [3, 6] (by kernel_rfl) rfl ?_
  refine HdStep.c (fun inv => ?_) ?_
  ·obtain ⟨g40, gl41⟩ := cutL_some h27
   try dsimp only at g40
   refine Lst.r (Ev.cut (α := Int) (xs := l22) (i := y21) (j := (l22.length : Int)) rfl rfl rfl Try.runUnderlying22 Try.sizeOf3 rfl (by decide) (rdo 0 rfl rfl rfl) g40.1 g40.2.1 g40.2.2) ?_
   refine hds inv (sc1 (sk1 (.refl _))) ?_
   refine HdJ.o1 6 (fun inv => ?_)
   obtain ⟨g42, gl43⟩ := cutL_some h31
   try dsimp only at g42
   refine Lst.r (Ev.cut (α := Int) (xs := l22) (i := 0) (j := y21) rfl rfl rfl Try.runUnderlying22 Try.sizeOf3 rfl (by decide) (rdo 0 rfl rfl rfl) g42.1 g42.2.1 g42.2.2) ?_
   refine hds inv (sc1 (sk1 (.refl _))) ?_
   refine HdJ.o1 7 (fun inv => ?_)
   refine Lst.copy (i := 0) (α := Int) (lo := ((y21 : Int).toNat)) (hi := (((l22.length : Int) : Int).toNat)) (xs := l22) (ys := m30) rfl rfl (by decide) rfl rfl Try.runUnderlying22 Try.sizeOf3 rfl (by decide) rfl rfl (by rw [← gl43]; exact Rd.cut (by decide) (rdo 0 rfl rfl rfl) (by omega) (by omega)) (by omega) (by omega) ?_
   refine Lst.its (L' := (.own s16 3 1 (encs p34)) :: (.own Sl.nil 3 1 (encs ([] : List Int))) :: L) (by rw [← h35]; rfl) ?_
   refine hds inv (sc1 (sk1 (.refl _))) ?_
   refine HdJ.done (by kernel_rfl) ?_
   exact At.meetN p34 fl ⟨rfl, rfl, rfl, rfl, trivial⟩ rfl h39
  refine HdStep.c (fun inv => ?_) trivial
  obtain ⟨g44, gl45⟩ := cutL_some h31
  try dsimp only at g44
  refine Lst.r (Ev.cut (α := Int) (xs := l22) (i := 0) (j := y21) rfl rfl rfl Try.runUnderlying22 Try.sizeOf3 rfl (by decide) (rdo 0 rfl rfl rfl) g44.1 g44.2.1 g44.2.2) ?_
  refine hds inv (sc1 (sk1 (.refl _))) ?_
  refine HdJ.o1 3 (fun inv => ?_)
  obtain ⟨g46, gl47⟩ := cutL_some h27
  try dsimp only at g46
  refine Lst.r (Ev.cut (α := Int) (xs := l22) (i := y21) (j := (l22.length : Int)) rfl rfl rfl Try.runUnderlying22 Try.sizeOf3 rfl (by decide) (rdo 0 rfl rfl rfl) g46.1 g46.2.1 g46.2.2) ?_
  refine hds inv (sc1 (sk1 (.refl _))) ?_
  refine HdJ.o1 7 (fun inv => ?_)
  refine Lst.copy (i := 0) (α := Int) (lo := ((y21 : Int).toNat)) (hi := (((l22.length : Int) : Int).toNat)) (xs := l22) (ys := m30) rfl rfl (by decide) rfl rfl Try.runUnderlying22 Try.sizeOf3 rfl (by decide) rfl rfl (by rw [← gl45]; exact Rd.cut (by decide) (rdo 0 rfl rfl rfl) (by omega) (by omega)) (by omega) (by omega) ?_
  refine Lst.its (L' := (.own s16 3 1 (encs p34)) :: (.own Sl.nil 3 1 (encs ([] : List Int))) :: L) (by rw [← h35]; rfl) ?_
  refine hds inv (sc1 (sk1 (.refl _))) ?_
  refine HdJ.done (by kernel_rfl) ?_
  exact At.meetN p34 fl ⟨rfl, rfl, rfl, rfl, trivial⟩ rfl h39
 rintro F48 l37 hF49 hy
 subst hy
 refine Lst.as (e' := [(7, Sl.v s16), (8, iv y21), (38, iv y21), (45, iv (copyN ((y21 : Int).toNat) (((l22.length : Int) : Int).toNat) m30))]) (L' := (.own s16 3 1 (encs l37)) :: (.own Sl.nil 3 1 (encs ([] : List Int))) :: L) ⟨rfl, rfl, rfl, rfl, trivial⟩ rfl ?_
 refine Lst.r (Ev.add rfl rfl) ?_
 refine Lst.r (Ev.assign rfl) ?_
 refine Lst.nil ?_
 refine At.in_normal ?_
 exact At.meet (k20, w64 (y21 + (copyN ((y21 : Int).toNat) (((l22.length : Int) : Int).toNat) m30)), l37) (FLe.trans hF24 hF49) ⟨rfl, rfl, trivial⟩ rfl ⟨hgo20 _ (some_inj H).symm, Nat.lt_succ_self _⟩
set_option maxRecDepth 20000 in
theorem partref_Picture_1_sim {a0 : Int} {a1 : List Int} {a2 : List Int} {a3 : Int} {a4 : List Thing} {b_a1 : Nat} {s_a1 : Sl} {b_a2 : Nat} {s_a2 : Sl} {b_a3 : Nat} {b_a4 : Nat} {s_a4 : Sl} {r : (List Int) × (List Thing)} (H : partref_Picture_1 a0 a1 a2 a3 a4 = some r) (w0 : World) (F : Frz) (M L : List Item) (hM : M.Sublist L) (hs_a2 : Rd w0 F M s_a2 a2) : Ok Try.prog w0 18 [iv a0, pv b_a1 0, pv b_a2 0, pv b_a3 0, pv b_a4 0] F ((.own s_a1 3 1 (encs a1)) :: (.blk b_a1 (enc s_a1) 22) :: (.blk b_a2 (enc s_a2) 22) :: (.blk b_a3 (enc a3) 3) :: (.own s_a4 54 4 (encs a4)) :: (.blk b_a4 (enc s_a4) 52) :: L) (fun _ L' v => ∃ (s7 : Sl), v = .tuple #[] ∧ L' = (.own s_a1 3 1 (encs r.1)) :: (.blk b_a1 (enc s_a1) 22) :: (.blk b_a2 (enc s_a2) 22) :: (.blk b_a3 (enc a3) 3) :: (.own s7 54 4 (encs r.2)) :: (.blk b_a4 (enc s7) 52) :: L) := by
 unfold partref_Picture_1 at H
 refine Ok.enter (m := 5) (n := 33) Try.func18 rfl rfl rfl (by decide) ?_
 refine Cd.env (e' := [(0, iv a0), (1, pv b_a1 0), (2, pv b_a2 0), (3, pv b_a3 0), (4, pv b_a4 0)]) rfl ?_
 refine Cd.seq ?_
 refine sr0 ?_
 refine Lst.r (Ev.load (i := 1) rfl rfl Try.isAgg22 (v := Sl.v s_a1) gh0) ?_
 refine mv0 rfl ?_
 obtain ⟨x7, h8, H⟩ := bind_some H
 have g9 := lat_some h8
 refine Lst.r (Ev.indexS (α := Int) (xs := a1) rfl rfl Try.runUnderlying22 Try.sizeOf3 rfl (by decide) (rdo 0 rfl rfl rfl) g9.1 g9.2.1) ?_
 refine Lst.r (Ev.loadS (α := Int) rfl (rdo 0 rfl rfl rfl) Try.isAgg3 (v := iv x7) ((Get.elemN (s := 1) (x := x7) rfl g9.2.2 gh0).off (by omega))) ?_
 refine Lst.r (Ev.geq rfl rfl) ?_
 refine nt0 ?_
 rcases Bool.eq_false_or_eq_true (decide (x7 ≥ (0 : Int))) with hb10 | hb10
 ·replace H := ite_t hb10 H
  refine Cd.condT rfl hb10 ?_
  obtain rfl := some_inj H
  refine Cd.ret ?_
  refine At.then_ret ?_
  exact At.ret0 (.inl rfl) rfl fl (sk1 (sk1 (sk1 (sk1 (sk1 (sk1 (.refl _))))))) ⟨s_a4, rfl, rfl⟩
 replace H := ite_f hb10 H
 refine Cd.condF rfl hb10 ?_
 refine Cd.skip ?_
 refine At.then ?_
 refine Cd.seq ?_
 refine Cd.tail 7 (by kernel_rfl) (by kernel_rfl) ?_
 refine Qt.r (Ev.load (i := 1) rfl rfl Try.isAgg22 (v := Sl.v s_a1) gh0) ?_
 refine Qt.r (Ev.move rfl) ?_
 refine Qt.r (Ev.load (i := 2) rfl rfl Try.isAgg22 (v := Sl.v s_a2) gh0) ?_
 refine Qt.r (Ev.move rfl) ?_
 obtain ⟨x11, h12, H⟩ := bind_some H
 have g13 := lat_some h12
 refine Qt.r (Ev.indexS (α := Int) (xs := a2) rfl rfl Try.runUnderlying22 Try.sizeOf3 rfl (by decide) (hs_a2.mono fl (sc4 (sc2 hM))) g13.1 g13.2.1) ?_
 refine Qt.r (Ev.loadS (α := Int) rfl (hs_a2.mono fl (sc4 (sc2 hM))) Try.isAgg3 (v := iv x11) ((Get.elemN (s := 1) (x := x11) rfl g13.2.2 gh0).off (by omega))) ?_
 obtain ⟨x14, h15, H⟩ := bind_some H
 have g16 := lat_some h15
 refine Qt.r (Ev.indexS (α := Int) (xs := a1) rfl rfl Try.runUnderlying22 Try.sizeOf3 rfl (by decide) (rdo 0 rfl rfl rfl) g16.1 g16.2.1) ?_
 refine Qt.tail ?_
 obtain ⟨p17, h18, H⟩ := Let_some H
 refine Lst.storeS (i := 0) rfl rfl rfl rfl rfl Try.sizeOf3 (vs := [iv x11]) rfl rfl (by decide) rfl (xs' := encs p17) (by rw [← h18]; exact (Put.elemN (s := 1) (x := x14) rfl g16.2.2 (Put.here (vs := [iv x11]) rfl)).off (by omega)) (L' := (.own s_a1 3 1 (encs p17)) :: (.blk b_a1 (enc s_a1) 22) :: (.blk b_a2 (enc s_a2) 22) :: (.blk b_a3 (enc a3) 3) :: (.own s_a4 54 4 (encs a4)) :: (.blk b_a4 (enc s_a4) 52) :: L) rfl ?_
 refine nsr ?_
 refine Lst.r (Ev.load (i := 3) rfl rfl Try.isAgg3 (v := iv a3) gh0) ?_
 refine mv0 rfl ?_
 refine nt0 ?_
 refine Cd.block ?_
 obtain ⟨nn24, hN31, H⟩ := bind_some H
 replace hN31 := upTo_some hN31
 obtain ⟨ol19, H, HKl19⟩ := bind_some H
 refine Cd.loop (σ := Nat × Nat × Sl × (List Thing)) (fun (i19, k19, s20, l21) => [(0, iv a0), (4, pv b_a4 0), (19, iv a3), (20, iv (i19 : Int))]) (fun (i19, k19, s20, l21) => (.own s_a1 3 1 (encs p17)) :: (.blk b_a1 (enc s_a1) 22) :: (.blk b_a2 (enc s_a2) 22) :: (.blk b_a3 (enc a3) 3) :: (.own s20 54 4 (encs l21)) :: (.blk b_a4 (enc s20) 52) :: L) (fun _ => (fun (i19, k19, s20, l21) => rangeF (partref_Picture_1_B0 a0) k19 i19 l21 = some ol19 ∧ i19 + k19 = nn24)) (fun (i19, k19, s20, l21) => k19) (0, nn24, s_a4, a4) ⟨rfl, rfl, rfl, rfl, trivial⟩ rfl ⟨H, by omega⟩ ?_
 rintro F22 ⟨i19, k19, s20, l21⟩ hF23 ⟨H, hik19⟩
 refine Cd.as (e' := [(0, iv a0), (4, pv b_a4 0), (19, iv a3), (20, iv (i19 : Int))]) (L' := (.own s_a1 3 1 (encs p17)) :: (.blk b_a1 (enc s_a1) 22) :: (.blk b_a2 (enc s_a2) 22) :: (.blk b_a3 (enc a3) 3) :: (.own s20 54 4 (encs l21)) :: (.blk b_a4 (enc s20) 52) :: L) ⟨rfl, rfl, rfl, rfl, trivial⟩ rfl ?_
 rcases k19 with _ | k19
 ·have hc19 : decide ((i19 : Int) < a3) = false := decide_eq_false (by omega)
  replace H := rangeF_end H
  refine sr0 ?_
  refine Lst.r (Ev.lss rfl rfl) ?_
  refine nt0 ?_
  refine Cd.seq ?_
  refine Cd.condF rfl hc19 ?_
  refine Cd.exit ?_
  refine At.then_exit ?_
  refine At.then_exit ?_
  refine At.in_exit ?_
  subst H
  replace H := HKl19
  obtain rfl := some_inj H
  exact At.ret0 (.inr rfl) rfl hF23 (sk1 (sk1 (sk1 (sk1 (sk1 (sk1 (.refl _))))))) ⟨s20, rfl, rfl⟩
 have hc19 : decide ((i19 : Int) < a3) = true := decide_eq_true (by omega)
 obtain ⟨c19, H, hgo19⟩ := rangeF_go H
 unfold partref_Picture_1_B0 at H
 try dsimp only at H
 refine sr0 ?_
 refine Lst.r (Ev.lss rfl rfl) ?_
 refine nt0 ?_
 refine Cd.seq ?_
 refine Cd.condT rfl hc19 ?_
 refine Cd.skip ?_
 refine At.then ?_
 refine Cd.seq ?_
 refine Cd.block ?_
 refine sr0 ?_
 refine mv0 rfl ?_
 refine Lst.r (Ev.assign rfl) ?_
 refine nsr ?_
 refine mv0 rfl ?_
 refine mv0 rfl ?_
 refine Lst.r (Ev.neq rfl rfl) ?_
 refine nt0 ?_
 rcases (Bool.eq_false_or_eq_true ((i19 : Int) != a0)).symm with hb25 | hb25
 ·replace H := ite_f hb25 H
  refine Cd.condF rfl hb25 ?_
  refine Cd.skip ?_
  refine At.in_normal ?_
  refine At.then ?_
  refine Cd.region ?_
  refine Lst.r (Ev.incr (by omega) rfl rfl) ?_
  refine mv0 rfl ?_
  refine Lst.nil ?_
  exact At.meet (i19 + 1, k19, s20, l21) hF23 ⟨rfl, rfl, rfl, rfl, trivial⟩ rfl ⟨⟨hgo19 _ (some_inj H).symm, by omega⟩, Nat.lt_succ_self _⟩
 replace H := ite_t hb25 H
 refine Cd.condT rfl hb25 ?_
 refine Cd.region ?_
 refine Lst.r (Ev.load (i := 5) rfl rfl Try.isAgg52 (v := Sl.v s20) gh0) ?_
 refine mv0 rfl ?_
 refine mv0 rfl ?_
 refine Lst.r (Ev.build (v := .agg (enc ({ Thing.zero with from_ := a0, to := (i19 : Int), mark := true } : Thing)).toArray) (pv := [(0, iv a0), (1, iv (i19 : Int)), (3, .bool true)]) ⟨rfl, rfl, ⟨rfl, rfl, ⟨rfl, rfl, trivial⟩⟩⟩ (fun w => by kernel_rfl)) ?_
 refine Lst.buildSlice (α := Thing) (xs := ([({ Thing.zero with from_ := a0, to := (i19 : Int), mark := true } : Thing)] : List Thing)) (pv := [(0, .agg (enc ({ Thing.zero with from_ := a0, to := (i19 : Int), mark := true } : Thing)).toArray)]) rfl rfl (by decide) ⟨rfl, rfl, trivial⟩ (run_buildSlice (α := Thing) (z0 := Thing.zero) (xs := ([({ Thing.zero with from_ := a0, to := (i19 : Int), mark := true } : Thing)] : List Thing)) Try.runUnderlying52 Try.sizeOf54 Try.zeroValue54 rfl rfl rfl (by decide) rfl (fill_cons (cs := encs (List.replicate 1 Thing.zero)) (cs' := encs ((List.replicate 1 Thing.zero).set 0 ({ Thing.zero with from_ := a0, to := (i19 : Int), mark := true } : Thing))) (vs := enc ({ Thing.zero with from_ := a0, to := (i19 : Int), mark := true } : Thing)) rfl rfl (Enc.len _) ((Put.elemN (s := 4) (i := 0) (x := Thing.zero) (y := ({ Thing.zero with from_ := a0, to := (i19 : Int), mark := true } : Thing)) rfl rfl (Put.here ((Enc.len _).trans (Enc.len _).symm))).off rfl) fill_nil)) rfl rfl (by decide) (fun s26 _ => ?_)
 obtain ⟨u28, h29, H⟩ := bind_some H
 refine Lst.append (i := 5) (α := Thing) (xs := l21) (ys := ([({ Thing.zero with from_ := a0, to := (i19 : Int), mark := true } : Thing)] : List Thing)) rfl rfl (by decide) rfl rfl Try.runUnderlying52 Try.typeInfo54 rfl rfl rfl rfl rfl rfl (rdo 0 rfl rfl rfl) rfl (room_some h29) rfl (fun s30 => ?_)
 refine Lst.its (L' := (.own s26 54 4 (encs ([({ Thing.zero with from_ := a0, to := (i19 : Int), mark := true } : Thing)] : List Thing))) :: (.own s_a1 3 1 (encs p17)) :: (.blk b_a1 (enc s_a1) 22) :: (.blk b_a2 (enc s_a2) 22) :: (.blk b_a3 (enc a3) 3) :: (.own s30 54 4 (encs (l21 ++ ([({ Thing.zero with from_ := a0, to := (i19 : Int), mark := true } : Thing)] : List Thing)))) :: (.blk b_a4 (enc s20) 52) :: L) rfl ?_
 refine Lst.store (i := 6) rfl rfl rfl rfl rfl Try.sizeOf52 (vs := [Sl.v s30]) rfl rfl rfl (cs' := enc s30) (Put.here (vs := [Sl.v s30]) rfl) (L' := (.own s26 54 4 (encs ([({ Thing.zero with from_ := a0, to := (i19 : Int), mark := true } : Thing)] : List Thing))) :: (.own s_a1 3 1 (encs p17)) :: (.blk b_a1 (enc s_a1) 22) :: (.blk b_a2 (enc s_a2) 22) :: (.blk b_a3 (enc a3) 3) :: (.own s30 54 4 (encs (l21 ++ ([({ Thing.zero with from_ := a0, to := (i19 : Int), mark := true } : Thing)] : List Thing)))) :: (.blk b_a4 (enc s30) 52) :: L) rfl ?_
 refine Lst.nil ?_
 refine At.in_normal ?_
 refine At.then ?_
 refine Cd.region ?_
 refine Lst.r (Ev.incr (by omega) rfl rfl) ?_
 refine mv0 rfl ?_
 refine Lst.nil ?_
 refine At.less (L' := (.own s_a1 3 1 (encs p17)) :: (.blk b_a1 (enc s_a1) 22) :: (.blk b_a2 (enc s_a2) 22) :: (.blk b_a3 (enc a3) 3) :: (.own s30 54 4 (encs (l21 ++ ([({ Thing.zero with from_ := a0, to := (i19 : Int), mark := true } : Thing)] : List Thing)))) :: (.blk b_a4 (enc s30) 52) :: L) (sc1 (sk1 (sk1 (sk1 (sk1 (sk1 (sk1 (.refl _)))))))) ?_
 exact At.meet (i19 + 1, k19, s30, l21 ++ ([({ Thing.zero with from_ := a0, to := (i19 : Int), mark := true } : Thing)] : List Thing)) hF23 ⟨rfl, rfl, rfl, rfl, trivial⟩ rfl ⟨⟨hgo19 _ (some_inj H).symm, by omega⟩, Nat.lt_succ_self _⟩
set_option maxRecDepth 20000 in
theorem partref_Picture_2_sim {a0 : Thing} {a1 : Move} {b_a1 : Nat} {r : Bool} (H : partref_Picture_2 a0 a1 = some r) (w0 : World) (F : Frz) (M L : List Item) (hM : M.Sublist L) : Ok Try.prog w0 20 [.agg (enc a0).toArray, pv b_a1 0] F ((.blk b_a1 (enc a1) 35) :: L) (Is (.bool r) ((.blk b_a1 (enc a1) 35) :: L)) := by
 unfold partref_Picture_2 at H
 refine Ok.enter (m := 2) (n := 16) Try.func20 rfl rfl rfl (by decide) ?_
 refine Cd.env (e' := [(0, .agg (enc a0).toArray), (1, pv b_a1 0)]) rfl ?_
 refine sr0 ?_
 refine Lst.box rfl rfl (by decide) rfl (cs := enc a0) rfl (fun b2 => ?_)
 refine Lst.r (Ev.assign rfl) ?_
 refine nsr ?_
 refine Lst.r (Ev.fieldAddr (off' := 0) rfl Try.runUnderlying54 rfl Try.sizeOf3 rfl rfl) ?_
 refine Lst.r (Ev.load (i := 0) rfl rfl Try.isAgg3 (v := iv a0.from_) ((Thing.get_from_ gh0).off (by rfl))) ?_
 refine Lst.r (Ev.fieldAddr (off' := 1) rfl Try.runUnderlying35 rfl Try.sizeOf3 rfl rfl) ?_
 refine Lst.r (Ev.load (i := 1) rfl rfl Try.isAgg3 (v := iv a1.From) ((Move.get_From gh0).off (by rfl))) ?_
 refine Lst.r (Ev.eql rfl rfl) ?_
 refine mv0 rfl ?_
 obtain ⟨o4, H, HKo4⟩ := bind_some H
 refine Lst.join (σ := Bool) 6 (fun y5 => [(15, .bool y5)]) (fun y5 => (.blk b2 (enc a0) 54) :: (.blk b_a1 (enc a1) 35) :: L) (fun _ y5 => y5 = o4) ?_ ?_
 ·rcases (Bool.eq_false_or_eq_true (a0.from_ == a1.From)).symm with hb6 | hb6
  ·replace H := ite_f hb6 H
   refine Lst.skip rfl rfl rfl hb6 rfl (by decide) ?_
   refine Lst.skip rfl rfl rfl hb6 rfl (by decide) ?_
   refine Lst.skip rfl rfl rfl hb6 rfl (by decide) ?_
   refine Lst.skip rfl rfl rfl hb6 rfl (by decide) ?_
   refine Lst.skip rfl rfl rfl hb6 rfl (by decide) ?_
   refine Lst.r (Ev.pickF rfl hb6 rfl) ?_
   refine Lst.nil ?_
   exact At.meet false fl ⟨rfl, trivial⟩ rfl (some_inj H)
  replace H := ite_t hb6 H
  refine Lst.rG hb6 (Ev.fieldAddr (off' := 1) rfl Try.runUnderlying54 rfl Try.sizeOf3 rfl rfl) ?_
  refine Lst.rG hb6 (Ev.load (i := 0) rfl rfl Try.isAgg3 (v := iv a0.to) ((Thing.get_to gh0).off (by rfl))) ?_
  refine Lst.rG hb6 (Ev.fieldAddr (off' := 2) rfl Try.runUnderlying35 rfl Try.sizeOf3 rfl rfl) ?_
  refine Lst.rG hb6 (Ev.load (i := 1) rfl rfl Try.isAgg3 (v := iv a1.To) ((Move.get_To gh0).off (by rfl))) ?_
  refine Lst.rG hb6 (Ev.eql rfl rfl) ?_
  refine Lst.r (Ev.pickT rfl hb6 rfl) ?_
  refine Lst.nil ?_
  exact At.meet (a0.to == a1.To) fl ⟨rfl, trivial⟩ rfl (some_inj H)
 rintro F7 y5 hF8 hy
 subst hy
 refine Lst.as (e' := [(15, .bool y5)]) (L' := (.blk b2 (enc a0) 54) :: (.blk b_a1 (enc a1) 35) :: L) ⟨rfl, trivial⟩ rfl ?_
 replace H := HKo4
 refine Lst.r (Ev.assign rfl) ?_
 refine nt0 ?_
 obtain rfl := some_inj H
 refine Cd.ret ?_
 exact At.ret1 rfl (Res.tmp rfl) hF8 (sc1 (sk1 (.refl _))) ⟨rfl, rfl⟩
set_option maxRecDepth 20000 in
theorem slices_IndexFunc_partref_thing_partref_thing_Picture_2_sim {a0 : List Thing} {a1_c0 : Move} {s_a0 : Sl} {b_a1_c0 : Nat} {r : Int} (H : slices_IndexFunc_partref_thing_partref_thing_Picture_2 a0 a1_c0 = some r) (w0 : World) (F : Frz) (M L : List Item) (hM : M.Sublist L) (hs_a0 : Rd w0 F M s_a0 a0) : Ok Try.prog w0 19 [Sl.v s_a0, .func (.func 20) #[] #[pv b_a1_c0 0]] F ((.blk b_a1_c0 (enc a1_c0) 35) :: L) (Is (iv r) ((.blk b_a1_c0 (enc a1_c0) 35) :: L)) := by
 unfold slices_IndexFunc_partref_thing_partref_thing_Picture_2 at H
 refine Ok.enter (m := 2) (n := 19) Try.func19 rfl rfl rfl (by decide) ?_
 refine Cd.env (e' := [(0, Sl.v s_a0), (1, .func (.func 20) #[] #[pv b_a1_c0 0])]) rfl ?_
 refine sr0 ?_
 refine Lst.r (Ev.assign rfl) ?_
 refine nt0 ?_
 refine Cd.seq ?_
 refine sr0 ?_
 refine mv0 rfl ?_
 refine Lst.r (Ev.lenS (α := Thing) (xs := a0) (by decide) rfl rfl Try.runUnderlying52 (hs_a0.mono fl (sc1 hM))) ?_
 refine mv0 rfl ?_
 refine nt0 ?_
 refine Cd.block ?_
 refine Cd.bound (Rd.le (α := Thing) (xs := a0) (by decide) (hs_a0.mono fl (sc1 hM))) (fun hN13 => ?_)
 obtain ⟨ol2, H, HKl2⟩ := andThen_some H
 refine Cd.loop (σ := Nat × Nat × Unit) (fun (i2, k2, _u) => [(0, Sl.v s_a0), (1, .func (.func 20) #[] #[pv b_a1_c0 0]), (7, iv (a0.length : Int)), (8, iv (i2 : Int))]) (fun (i2, k2, _u) => (.blk b_a1_c0 (enc a1_c0) 35) :: L) (fun _ => (fun (i2, k2, _u) => rangeM (slices_IndexFunc_partref_thing_partref_thing_Picture_2_B0 a0 a1_c0) k2 i2 () = some ol2 ∧ i2 + k2 = a0.length)) (fun (i2, k2, _u) => k2) (0, a0.length, ()) ⟨rfl, rfl, rfl, rfl, trivial⟩ rfl ⟨H, by omega⟩ ?_
 rintro F3 ⟨i2, k2, _u⟩ hF4 ⟨H, hik2⟩
 refine Cd.as (e' := [(0, Sl.v s_a0), (1, .func (.func 20) #[] #[pv b_a1_c0 0]), (7, iv (a0.length : Int)), (8, iv (i2 : Int))]) (L' := (.blk b_a1_c0 (enc a1_c0) 35) :: L) ⟨rfl, rfl, rfl, rfl, trivial⟩ rfl ?_
 rcases k2 with _ | k2
 ·have hc2 : decide ((i2 : Int) < (a0.length : Int)) = false := decide_eq_false (by omega)
  replace H := rangeM_end H
  refine sr0 ?_
  refine Lst.r (Ev.lss rfl rfl) ?_
  refine nt0 ?_
  refine Cd.seq ?_
  refine Cd.condF rfl hc2 ?_
  refine Cd.exit ?_
  refine At.then_exit ?_
  refine At.then_exit ?_
  refine At.in_exit ?_
  subst H
  replace H := HKl2
  refine At.then ?_
  refine sr0 ?_
  refine Lst.r (Ev.assign rfl) ?_
  refine nt0 ?_
  obtain rfl := some_inj H
  refine Cd.ret ?_
  exact At.ret1 rfl (Res.tmp rfl) hF4 (sk1 (.refl _)) ⟨rfl, rfl⟩
 have hc2 : decide ((i2 : Int) < (a0.length : Int)) = true := decide_eq_true (by omega)
 obtain ⟨c2, H, hgo2, hbrk2, hret2⟩ := rangeM_go H
 unfold slices_IndexFunc_partref_thing_partref_thing_Picture_2_B0 at H
 try dsimp only at H
 refine sr0 ?_
 refine Lst.r (Ev.lss rfl rfl) ?_
 refine nt0 ?_
 refine Cd.seq ?_
 refine Cd.condT rfl hc2 ?_
 refine Cd.skip ?_
 refine At.then ?_
 refine Cd.seq ?_
 refine Cd.block ?_
 refine sr0 ?_
 refine mv0 rfl ?_
 refine Lst.r (Ev.assign rfl) ?_
 refine nsr ?_
 refine mv0 rfl ?_
 refine mv0 rfl ?_
 refine mv0 rfl ?_
 obtain ⟨x5, h6, H⟩ := bind_some H
 have g7 := lat_some h6
 refine Lst.r (Ev.indexS (α := Thing) (xs := a0) rfl rfl Try.runUnderlying52 Try.sizeOf54 rfl (by decide) (hs_a0.mono hF4 (sc1 hM)) g7.1 g7.2.1) ?_
 refine Lst.r (Ev.loadSA (α := Thing) rfl (hs_a0.mono hF4 (sc1 hM)) Try.isAgg54 Try.sizeOf54 (ch := enc x5) (Enc.len _) (by decide) ((Get.elemN (s := 4) (x := x5) rfl g7.2.2 gh0).off (by omega))) ?_
 obtain ⟨r8, h9, H⟩ := bind_some H
 refine Lst.callV1 rfl rfl (by decide) (vs := [.agg (enc x5).toArray]) (cs := [pv b_a1_c0 0]) rfl ⟨rfl, trivial⟩ Try.call20 (partref_Picture_2_sim h9 w0 _ M _ hM) ?_
 refine nt0 ?_
 rcases Bool.eq_false_or_eq_true r8 with hb12 | hb12
 ·replace H := ite_t hb12 H
  refine Cd.condT rfl hb12 ?_
  refine sr0 ?_
  refine mv0 rfl ?_
  refine Lst.r (Ev.assign rfl) ?_
  refine nt0 ?_
  have H := hret2 _ (some_inj H).symm
  subst H
  replace H := HKl2
  obtain rfl := some_inj H
  refine Cd.ret ?_
  refine At.in_ret ?_
  refine At.then_ret ?_
  refine At.then_ret ?_
  refine At.in_ret ?_
  refine At.then_ret ?_
  exact At.ret1 rfl (Res.tmp rfl) hF4 (sk1 (.refl _)) ⟨rfl, rfl⟩
 replace H := ite_f hb12 H
 refine Cd.condF rfl hb12 ?_
 refine Cd.skip ?_
 refine At.in_normal ?_
 refine At.then ?_
 refine Cd.region ?_
 refine Lst.r (Ev.incr (by omega) rfl rfl) ?_
 refine mv0 rfl ?_
 refine Lst.nil ?_
 exact At.meet (i2 + 1, k2, ()) hF4 ⟨rfl, rfl, rfl, rfl, trivial⟩ rfl ⟨⟨hgo2 _ (some_inj H).symm, by omega⟩, Nat.lt_succ_self _⟩
set_option maxRecDepth 20000 in
theorem slices_Delete_partref_thing_partref_thing_sim {a0 : List Thing} {a1 : Int} {a2 : Int} {s_a0 : Sl} {r : (List Thing)} (H : slices_Delete_partref_thing_partref_thing a0 a1 a2 = some r) (w0 : World) (F : Frz) (M L : List Item) (hM : M.Sublist L) : Ok Try.prog w0 21 [Sl.v s_a0, iv a1, iv a2] F ((.own s_a0 54 4 (encs a0)) :: L) (fun _ L' v => ∃ (s2 : Sl), v = Sl.v s2 ∧ L' = (.own s2 54 4 (encs r)) :: L) := by
 unfold slices_Delete_partref_thing_partref_thing at H
 refine Ok.enter (m := 3) (n := 33) Try.func21 rfl rfl rfl (by decide) ?_
 refine Cd.env (e' := [(0, Sl.v s_a0), (1, iv a1), (2, iv a2)]) rfl ?_
 refine sr0 ?_
 refine Lst.addNil 54 4 ?_
 refine Lst.r (Ev.assign rfl) ?_
 refine nsr ?_
 refine mv0 rfl ?_
 refine mv0 rfl ?_
 refine mv0 rfl ?_
 refine mv0 rfl ?_
 refine Lst.r (Ev.lenS (α := Thing) (xs := a0) (by decide) rfl rfl Try.runUnderlying52 (rdo 1 rfl rfl rfl)) ?_
 obtain ⟨m3, h4, H⟩ := bind_some H
 have g5 := cutL_some h4
 refine Lst.capOwn (α := Thing) (i := 1) (xs := a0) rfl rfl rfl (by decide) (fun hl6 hc7 => ?_)
 refine Lst.r (Ev.cut3 (i := a1) (j := a2) (k := (a0.length : Int)) rfl rfl rfl rfl Try.runUnderlying52 Try.sizeOf54 g5.1.1 g5.1.2.1 g5.1.2.2 (Int.ofNat_le.2 hc7)) ?_
 refine nt0 ?_
 refine Cd.seq ?_
 refine sr0 ?_
 refine mv0 rfl ?_
 refine mv0 rfl ?_
 refine Lst.r (Ev.eql rfl rfl) ?_
 refine nt0 ?_
 rcases Bool.eq_false_or_eq_true (a1 == a2) with hb8 | hb8
 ·replace H := ite_t hb8 H
  refine Cd.condT rfl hb8 ?_
  refine sr0 ?_
  refine mv0 rfl ?_
  refine Lst.r (Ev.assign rfl) ?_
  refine nt0 ?_
  obtain rfl := some_inj H
  refine Cd.ret ?_
  refine At.then_ret ?_
  exact At.ret1 rfl (Res.tmp rfl) fl (sc1 (sk1 (.refl _))) ⟨s_a0, rfl, rfl⟩
 replace H := ite_f hb8 H
 refine Cd.condF rfl hb8 ?_
 refine Cd.skip ?_
 refine At.then ?_
 refine sr0 ?_
 refine mv0 rfl ?_
 refine Lst.r (Ev.lenS (α := Thing) (xs := a0) (by decide) rfl rfl Try.runUnderlying52 (rdo 1 rfl rfl rfl)) ?_
 refine Lst.r (Ev.assign rfl) ?_
 refine nt0 ?_
 refine Cd.seq ?_
 refine Cd.tail 6 (by kernel_rfl) (by kernel_rfl) ?_
 refine Qt.r (Ev.move rfl) ?_
 refine Qt.r (Ev.move rfl) ?_
 obtain ⟨m9, h10, H⟩ := bind_some H
 obtain ⟨g11, gl12⟩ := cutL_some h10
 try dsimp only at g11
 refine Qt.r (Ev.cut (α := Thing) (xs := a0) (i := 0) (j := a1) rfl rfl rfl Try.runUnderlying52 Try.sizeOf54 rfl (by decide) (rdo 1 rfl rfl rfl) g11.1 g11.2.1 g11.2.2) ?_
 refine Qt.r (Ev.move rfl) ?_
 refine Qt.r (Ev.move rfl) ?_
 obtain ⟨m13, h14, H⟩ := bind_some H
 obtain ⟨g15, gl16⟩ := cutL_some h14
 try dsimp only at g15
 refine Qt.r (Ev.cut (α := Thing) (xs := a0) (i := a2) (j := (a0.length : Int)) rfl rfl rfl Try.runUnderlying52 Try.sizeOf54 rfl (by decide) (rdo 1 rfl rfl rfl) g15.1 g15.2.1 g15.2.2) ?_
 refine Qt.tail ?_
 refine Lst.capOwn (α := Thing) (i := 1) (xs := a0) rfl rfl rfl (by decide) (fun hl17 hc18 => ?_)
 refine Lst.shift (α := Thing) (k := 1) (i := (a1 : Int).toNat) (j := (a2 : Int).toNat) (xs := a0) rfl rfl (by decide) rfl rfl Try.runUnderlying52 Try.typeInfo54 rfl rfl (by decide) rfl rfl (by omega) (by omega) ?_
 refine Lst.its (L' := (.own Sl.nil 54 4 (encs ([] : List Thing))) :: (.own (Sl.mk (Sl.a s_a0) ((a1 : Int).toNat + (a0.length - (a2 : Int).toNat)) (Sl.cap s_a0)) 54 4 (encs (a0.take ((a1 : Int).toNat) ++ a0.drop ((a2 : Int).toNat)))) :: L) rfl ?_
 refine Lst.r (Ev.assign rfl) ?_
 refine nt0 ?_
 refine Cd.seq ?_
 refine Cd.as (e' := [(7, iv (a0.length : Int)), (0, Sl.v (Sl.mk (Sl.a s_a0) ((a1 : Int).toNat + (a0.length - (a2 : Int).toNat)) (Sl.cap s_a0)))]) (L' := (.own Sl.nil 54 4 (encs ([] : List Thing))) :: (.own (Sl.mk (Sl.a s_a0) ((a1 : Int).toNat + (a0.length - (a2 : Int).toNat)) (Sl.cap s_a0)) 54 4 (encs (a0.take ((a1 : Int).toNat) ++ a0.drop ((a2 : Int).toNat)))) :: L) ⟨rfl, rfl, trivial⟩ rfl ?_
 refine Cd.region ?_
 refine mv0 rfl ?_
 refine mv0 rfl ?_
 refine Lst.r (Ev.lenS (α := Thing) (xs := (a0.take ((a1 : Int).toNat) ++ a0.drop ((a2 : Int).toNat))) (by decide) rfl rfl Try.runUnderlying52 (rdo 1 rfl rfl rfl)) ?_
 refine mv0 rfl ?_
 refine Lst.r (Ev.cutBeyond (i := ((a0.take ((a1 : Int).toNat) ++ a0.drop ((a2 : Int).toNat)).length : Int)) (j := (a0.length : Int)) rfl rfl rfl Try.runUnderlying52 Try.sizeOf54 (Int.natCast_nonneg _) (Int.ofNat_le.2 (shift_len (by omega) (by omega))) (Int.ofNat_le.2 hc18)) ?_
 refine Lst.clearBehind (α := Thing) (k := 1) (xs := (a0.take ((a1 : Int).toNat) ++ a0.drop ((a2 : Int).toNat))) rfl rfl rfl Try.runUnderlying52 Try.zeroValue54 Thing.zero rfl rfl (by decide) rfl rfl (Nat.le_refl _) hc18 ?_
 refine nsr ?_
 refine mv0 rfl ?_
 refine Lst.r (Ev.assign rfl) ?_
 refine nt0 ?_
 obtain rfl := some_inj H
 refine Cd.ret ?_
 exact At.ret1 rfl (Res.tmp rfl) fl (sc1 (sk1 (.refl _))) ⟨(Sl.mk (Sl.a s_a0) ((a1 : Int).toNat + (a0.length - (a2 : Int).toNat)) (Sl.cap s_a0)), rfl, rfl⟩
set_option maxRecDepth 20000 in
theorem slices_Index_int_int_sim {a0 : List Int} {a1 : Int} {s_a0 : Sl} {r : Int} (H : slices_Index_int_int a0 a1 = some r) (w0 : World) (F : Frz) (M L : List Item) (hM : M.Sublist L) (hs_a0 : Rd w0 F M s_a0 a0) : Ok Try.prog w0 28 [Sl.v s_a0, iv a1] F (L) (Is (iv r) (L)) := by
 unfold slices_Index_int_int at H
 refine Ok.enter (m := 2) (n := 19) Try.func28 rfl rfl rfl (by decide) ?_
 refine Cd.env (e' := [(0, Sl.v s_a0), (1, iv a1)]) rfl ?_
 refine sr0 ?_
 refine Lst.r (Ev.assign rfl) ?_
 refine nt0 ?_
 refine Cd.seq ?_
 refine sr0 ?_
 refine mv0 rfl ?_
 refine Lst.r (Ev.lenS (α := Int) (xs := a0) (by decide) rfl rfl Try.runUnderlying22 (hs_a0.mono fl hM)) ?_
 refine mv0 rfl ?_
 refine nt0 ?_
 refine Cd.block ?_
 refine Cd.bound (Rd.le (α := Int) (xs := a0) (by decide) (hs_a0.mono fl hM)) (fun hN8 => ?_)
 obtain ⟨ol1, H, HKl1⟩ := andThen_some H
 refine Cd.loop (σ := Nat × Nat × Unit) (fun (i1, k1, _u) => [(0, Sl.v s_a0), (1, iv a1), (7, iv (a0.length : Int)), (8, iv (i1 : Int))]) (fun (i1, k1, _u) => L) (fun _ => (fun (i1, k1, _u) => rangeM (slices_Index_int_int_B0 a0 a1) k1 i1 () = some ol1 ∧ i1 + k1 = a0.length)) (fun (i1, k1, _u) => k1) (0, a0.length, ()) ⟨rfl, rfl, rfl, rfl, trivial⟩ rfl ⟨H, by omega⟩ ?_
 rintro F2 ⟨i1, k1, _u⟩ hF3 ⟨H, hik1⟩
 refine Cd.as (e' := [(0, Sl.v s_a0), (1, iv a1), (7, iv (a0.length : Int)), (8, iv (i1 : Int))]) (L' := L) ⟨rfl, rfl, rfl, rfl, trivial⟩ rfl ?_
 rcases k1 with _ | k1
 ·have hc1 : decide ((i1 : Int) < (a0.length : Int)) = false := decide_eq_false (by omega)
  replace H := rangeM_end H
  refine sr0 ?_
  refine Lst.r (Ev.lss rfl rfl) ?_
  refine nt0 ?_
  refine Cd.seq ?_
  refine Cd.condF rfl hc1 ?_
  refine Cd.exit ?_
  refine At.then_exit ?_
  refine At.then_exit ?_
  refine At.in_exit ?_
  subst H
  replace H := HKl1
  refine At.then ?_
  refine sr0 ?_
  refine Lst.r (Ev.assign rfl) ?_
  refine nt0 ?_
  obtain rfl := some_inj H
  refine Cd.ret ?_
  exact At.ret1 rfl (Res.tmp rfl) hF3 (.refl _) ⟨rfl, rfl⟩
 have hc1 : decide ((i1 : Int) < (a0.length : Int)) = true := decide_eq_true (by omega)
 obtain ⟨c1, H, hgo1, hbrk1, hret1⟩ := rangeM_go H
 unfold slices_Index_int_int_B0 at H
 try dsimp only at H
 refine sr0 ?_
 refine Lst.r (Ev.lss rfl rfl) ?_
 refine nt0 ?_
 refine Cd.seq ?_
 refine Cd.condT rfl hc1 ?_
 refine Cd.skip ?_
 refine At.then ?_
 refine Cd.seq ?_
 refine Cd.block ?_
 refine sr0 ?_
 refine mv0 rfl ?_
 refine Lst.r (Ev.assign rfl) ?_
 refine nsr ?_
 refine mv0 rfl ?_
 refine mv0 rfl ?_
 refine mv0 rfl ?_
 obtain ⟨x4, h5, H⟩ := bind_some H
 have g6 := lat_some h5
 refine Lst.r (Ev.indexS (α := Int) (xs := a0) rfl rfl Try.runUnderlying22 Try.sizeOf3 rfl (by decide) (hs_a0.mono hF3 hM) g6.1 g6.2.1) ?_
 refine Lst.r (Ev.loadS (α := Int) rfl (hs_a0.mono hF3 hM) Try.isAgg3 (v := iv x4) ((Get.elemN (s := 1) (x := x4) rfl g6.2.2 gh0).off (by omega))) ?_
 refine Lst.r (Ev.eql rfl rfl) ?_
 refine nt0 ?_
 rcases Bool.eq_false_or_eq_true (a1 == x4) with hb7 | hb7
 ·replace H := ite_t hb7 H
  refine Cd.condT rfl hb7 ?_
  refine sr0 ?_
  refine mv0 rfl ?_
  refine Lst.r (Ev.assign rfl) ?_
  refine nt0 ?_
  have H := hret1 _ (some_inj H).symm
  subst H
  replace H := HKl1
  obtain rfl := some_inj H
  refine Cd.ret ?_
  refine At.in_ret ?_
  refine At.then_ret ?_
  refine At.then_ret ?_
  refine At.in_ret ?_
  refine At.then_ret ?_
  exact At.ret1 rfl (Res.tmp rfl) hF3 (.refl _) ⟨rfl, rfl⟩
 replace H := ite_f hb7 H
 refine Cd.condF rfl hb7 ?_
 refine Cd.skip ?_
 refine At.in_normal ?_
 refine At.then ?_
 refine Cd.region ?_
 refine Lst.r (Ev.incr (by omega) rfl rfl) ?_
 refine mv0 rfl ?_
 refine Lst.nil ?_
 exact At.meet (i1 + 1, k1, ()) hF3 ⟨rfl, rfl, rfl, rfl, trivial⟩ rfl ⟨⟨hgo1 _ (some_inj H).symm, by omega⟩, Nat.lt_succ_self _⟩
set_option maxRecDepth 20000 in
theorem slices_Contains_int_int_sim {a0 : List Int} {a1 : Int} {s_a0 : Sl} {r : Bool} (H : slices_Contains_int_int a0 a1 = some r) (w0 : World) (F : Frz) (M L : List Item) (hM : M.Sublist L) (hs_a0 : Rd w0 F M s_a0 a0) : Ok Try.prog w0 22 [Sl.v s_a0, iv a1] F (L) (Is (.bool r) (L)) := by
 unfold slices_Contains_int_int at H
 refine Ok.enter (m := 2) (n := 9) Try.func22 rfl rfl rfl (by decide) ?_
 refine Cd.env (e' := [(0, Sl.v s_a0), (1, iv a1)]) rfl ?_
 refine sr0 ?_
 refine Lst.r (Ev.assign rfl) ?_
 refine nsr ?_
 refine mv0 rfl ?_
 refine mv0 rfl ?_
 obtain ⟨r1, h2, H⟩ := bind_some H
 refine Lst.call1 rfl rfl (by decide) (vs := [Sl.v s_a0, iv a1]) ⟨rfl, rfl, trivial⟩ Try.call28 (slices_Index_int_int_sim h2 w0 _ M _ hM (hs_a0.mono fl (.refl _))) ?_
 refine Lst.r (Ev.geq rfl rfl) ?_
 refine Lst.r (Ev.assign rfl) ?_
 refine nt0 ?_
 obtain rfl := some_inj H
 refine Cd.ret ?_
 exact At.ret1 rfl (Res.tmp rfl) fl (.refl _) ⟨rfl, rfl⟩
end Go.Proofs.Ytnkfphbggemlbaa
