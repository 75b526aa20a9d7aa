/-
  The functions compute their specs; printed by a program.
-/
import Derived.Test.YticifbmaapnfbaaMaP2
namespace Go.Proofs.Yticifbmaapnfbaa
open Go.RowKit Enc
set_option linter.unusedVariables false
set_option linter.unusedSimpArgs false
set_option maxRecDepth 20000 in
theorem partlaw_MatchSays_sim {fu : Nat} {a0 : Int} {a1 : Int} {a2 : List Pair} {s_a2 : Sl} {r : Bool} (H : partlaw_MatchSays fu a0 a1 a2 = some r) (w0 : World) (F : Frz) (M L : List Item) (hM : M.Sublist L) (hs_a2 : Rd w0 F M s_a2 a2) : Ok Try.prog w0 7 [iv a0, iv a1, Sl.v s_a2] F (L) (Is (.bool r) (L)) := by
 unfold partlaw_MatchSays at H
 refine Ok.enter (m := 3) (n := 97) Try.func7 rfl rfl rfl (by decide) ?_
 refine Cd.env (e' := [(0, iv a0), (1, iv a1), (2, Sl.v s_a2)]) rfl ?_
 refine Cd.seq ?_
 refine Cd.region ?_
 refine Lst.r (Ev.assign rfl) ?_
 refine Lst.nil ?_
 refine At.then ?_
 refine Cd.seq ?_
 refine Cd.region ?_
 refine Lst.r (Ev.move rfl) ?_
 refine Lst.r (Ev.move rfl) ?_
 refine Lst.r (Ev.move rfl) ?_
 obtain ⟨r1, h2, H⟩ := bind_some H
 refine Lst.call1 rfl rfl (by decide) (vs := [iv a0, iv a1, Sl.v s_a2]) ⟨rfl, rfl, rfl, trivial⟩ Try.call34 (partref_PairsErr_sim h2 w0 _ M _ hM (hs_a2.mono (FLe.refl _) (.refl _))) ?_
 refine Lst.r (Ev.assign rfl) ?_
 refine Lst.nil ?_
 refine At.then ?_
 refine Cd.seq ?_
 refine Cd.region ?_
 refine Lst.r (Ev.move rfl) ?_
 refine Lst.r (Ev.move rfl) ?_
 refine Lst.r (Ev.move rfl) ?_
 obtain ⟨r5, h6, H⟩ := bind_some H
 refine Lst.call rfl rfl (by decide) (vs := [iv a0, iv a1, Sl.v s_a2]) ⟨rfl, rfl, rfl, trivial⟩ Try.call35 (match_Most_sim h6 w0 _ M _ hM (hs_a2.mono (FLe.refl _) (.refl _))) (fun F9 L' v hF10 hv => ?_)
 obtain ⟨s7, rfl, rfl⟩ := hv
 refine Lst.r (Ev.move rfl) ?_
 refine Lst.r (Ev.extract rfl rfl) ?_
 refine Lst.r (Ev.extract rfl rfl) ?_
 refine Lst.r (Ev.assign rfl) ?_
 refine Lst.r (Ev.assign rfl) ?_
 refine Lst.nil ?_
 refine At.then ?_
 refine Cd.seq ?_
 refine Cd.region ?_
 refine Lst.r (Ev.move rfl) ?_
 refine Lst.r (Ev.move rfl) ?_
 refine Lst.r (Ev.move rfl) ?_
 obtain ⟨r11, h12, H⟩ := bind_some H
 refine Lst.call rfl rfl (by decide) (vs := [iv a0, iv a1, Sl.v s_a2]) ⟨rfl, rfl, rfl, trivial⟩ Try.call36 (match_Cover_sim h12 w0 _ M _ (sc1 hM) (hs_a2.mono hF10 (.refl _))) (fun F17 L' v hF18 hv => ?_)
 obtain ⟨s13, s15, rfl, rfl⟩ := hv
 refine Lst.r (Ev.move rfl) ?_
 refine Lst.r (Ev.extract rfl rfl) ?_
 refine Lst.r (Ev.extract rfl rfl) ?_
 refine Lst.r (Ev.extract rfl rfl) ?_
 refine Lst.r (Ev.assign rfl) ?_
 refine Lst.r (Ev.assign rfl) ?_
 refine Lst.r (Ev.assign rfl) ?_
 refine Lst.nil ?_
 refine At.then ?_
 refine Cd.seq ?_
 refine Cd.seq ?_
 refine Cd.as (e' := [(0, iv a0), (1, iv a1), (2, Sl.v s_a2), (7, iv r1), (8, Sl.v s7), (9, iv r5.2), (10, Sl.v s13), (11, Sl.v s15), (12, iv r11.2.2)]) (L' := (.own s13 3 1 (encs r11.1)) :: (.own s15 3 1 (encs r11.2.1)) :: (.own s7 49 2 (encs r5.1)) :: L) ⟨rfl, rfl, rfl, rfl, rfl, rfl, rfl, rfl, rfl, trivial⟩ rfl ?_
 refine Cd.region ?_
 refine Lst.r (Ev.move rfl) ?_
 refine Lst.r (Ev.move rfl) ?_
 refine Lst.r (Ev.move rfl) ?_
 obtain ⟨r19, h20, H⟩ := bind_some H
 refine Lst.call1 rfl rfl (by decide) (vs := [iv a0, iv a1, Sl.v s_a2]) ⟨rfl, rfl, rfl, trivial⟩ Try.call37 (match_Check_sim h20 w0 _ M _ (sc2 (sc1 hM)) (hs_a2.mono (FLe.trans hF10 hF18) (.refl _))) ?_
 refine Lst.r (Ev.move rfl) ?_
 refine Lst.r (Ev.neq rfl rfl) ?_
 refine Lst.nil ?_
 refine At.then ?_
 rcases Bool.eq_false_or_eq_true (r19 != r1) with hb23 | hb23
 ·replace H := ite_t hb23 H
  refine Cd.condT rfl hb23 ?_
  refine Cd.seq ?_
  refine Cd.as (e' := []) (L' := (.own s13 3 1 (encs r11.1)) :: (.own s15 3 1 (encs r11.2.1)) :: (.own s7 49 2 (encs r5.1)) :: L) trivial rfl ?_
  refine Cd.region ?_
  refine Lst.r (Ev.assign rfl) ?_
  refine Lst.nil ?_
  refine At.then ?_
  obtain rfl := some_inj H
  refine Cd.ret ?_
  refine At.then_ret ?_
  exact At.ret1 rfl (Res.tmp rfl) (FLe.trans hF10 hF18) (sc1 (sc1 (sc1 (.refl _)))) ⟨rfl, rfl⟩
 replace H := ite_f hb23 H
 refine Cd.condF rfl hb23 ?_
 refine Cd.skip ?_
 refine At.then ?_
 refine Cd.seq ?_
 refine Cd.seq ?_
 refine Cd.region ?_
 refine Lst.r (Ev.move rfl) ?_
 refine Lst.r (Ev.neq rfl rfl) ?_
 refine Lst.nil ?_
 refine At.then ?_
 rcases Bool.eq_false_or_eq_true (r1 != (0 : Int)) with hb24 | hb24
 ·replace H := ite_t hb24 H
  refine Cd.condT rfl hb24 ?_
  refine Cd.seq ?_
  refine Cd.region ?_
  refine Lst.r (Ev.move rfl) ?_
  refine Lst.r (Ev.lenS (α := Pair) (xs := r5.1) (by decide) rfl rfl Try.runUnderlying22 (Rd.own (i := 2) rfl rfl rfl)) ?_
  refine Lst.r (Ev.eql rfl rfl) ?_
  refine Lst.r (Ev.move rfl) ?_
  obtain ⟨o25, H, HKo25⟩ := bind_some H
  refine Lst.join (σ := Bool) 4 (fun y26 => [(7, iv r1), (10, Sl.v s13), (11, Sl.v s15), (12, iv r11.2.2), (49, .bool y26)]) (fun y26 => (.own s13 3 1 (encs r11.1)) :: (.own s15 3 1 (encs r11.2.1)) :: (.own s7 49 2 (encs r5.1)) :: L) (fun _ y26 => y26 = o25) ?_ ?_
  ·rcases (Bool.eq_false_or_eq_true ((r5.1.length : Int) == (0 : Int))).symm with hb27 | hb27
   ·replace H := ite_f hb27 H
    refine Lst.skip rfl rfl rfl hb27 rfl (by decide) ?_
    refine Lst.skip rfl rfl rfl hb27 rfl (by decide) ?_
    refine Lst.skip rfl rfl rfl hb27 rfl (by decide) ?_
    refine Lst.r (Ev.pickF rfl hb27 rfl) ?_
    refine Lst.nil ?_
    exact At.meet false (FLe.refl _) ⟨rfl, rfl, rfl, rfl, rfl, trivial⟩ rfl (some_inj H)
   replace H := ite_t hb27 H
   refine Lst.rG hb27 (Ev.move rfl) ?_
   refine Lst.rG hb27 (Ev.move rfl) ?_
   refine Lst.rG hb27 (Ev.eql rfl rfl) ?_
   refine Lst.r (Ev.pickT rfl hb27 rfl) ?_
   refine Lst.nil ?_
   exact At.meet (r5.2 == r1) (FLe.refl _) ⟨rfl, rfl, rfl, rfl, rfl, trivial⟩ rfl (some_inj H)
  rintro F28 y26 hF29 hy
  subst hy
  refine Lst.as (e' := [(7, iv r1), (10, Sl.v s13), (11, Sl.v s15), (12, iv r11.2.2), (49, .bool y26)]) (L' := (.own s13 3 1 (encs r11.1)) :: (.own s15 3 1 (encs r11.2.1)) :: (.own s7 49 2 (encs r5.1)) :: L) ⟨rfl, rfl, rfl, rfl, rfl, trivial⟩ rfl ?_
  replace H := HKo25
  refine Lst.r (Ev.move rfl) ?_
  obtain ⟨o30, H, HKo30⟩ := bind_some H
  refine Lst.join (σ := Bool) 4 (fun y31 => [(7, iv r1), (11, Sl.v s15), (12, iv r11.2.2), (54, .bool y31)]) (fun y31 => (.own s13 3 1 (encs r11.1)) :: (.own s15 3 1 (encs r11.2.1)) :: (.own s7 49 2 (encs r5.1)) :: L) (fun _ y31 => y31 = o30) ?_ ?_
  ·rcases (Bool.eq_false_or_eq_true y26).symm with hb32 | hb32
   ·replace H := ite_f hb32 H
    refine Lst.skip rfl rfl rfl hb32 rfl (by decide) ?_
    refine Lst.skip rfl rfl rfl hb32 rfl (by decide) ?_
    refine Lst.skip rfl rfl rfl hb32 rfl (by decide) ?_
    refine Lst.r (Ev.pickF rfl hb32 rfl) ?_
    refine Lst.nil ?_
    exact At.meet false (FLe.refl _) ⟨rfl, rfl, rfl, rfl, trivial⟩ rfl (some_inj H)
   replace H := ite_t hb32 H
   refine Lst.rG hb32 (Ev.move rfl) ?_
   refine Lst.rG hb32 (Ev.lenS (α := Int) (xs := r11.1) (by decide) rfl rfl Try.runUnderlying34 (Rd.own (i := 0) rfl rfl rfl)) ?_
   refine Lst.rG hb32 (Ev.eql rfl rfl) ?_
   refine Lst.r (Ev.pickT rfl hb32 rfl) ?_
   refine Lst.nil ?_
   exact At.meet ((r11.1.length : Int) == (0 : Int)) (FLe.refl _) ⟨rfl, rfl, rfl, rfl, trivial⟩ rfl (some_inj H)
  rintro F33 y31 hF34 hy
  subst hy
  refine Lst.as (e' := [(7, iv r1), (11, Sl.v s15), (12, iv r11.2.2), (54, .bool y31)]) (L' := (.own s13 3 1 (encs r11.1)) :: (.own s15 3 1 (encs r11.2.1)) :: (.own s7 49 2 (encs r5.1)) :: L) ⟨rfl, rfl, rfl, rfl, trivial⟩ rfl ?_
  replace H := HKo30
  refine Lst.r (Ev.move rfl) ?_
  obtain ⟨o35, H, HKo35⟩ := bind_some H
  refine Lst.join (σ := Bool) 4 (fun y36 => [(7, iv r1), (12, iv r11.2.2), (59, .bool y36)]) (fun y36 => (.own s13 3 1 (encs r11.1)) :: (.own s15 3 1 (encs r11.2.1)) :: (.own s7 49 2 (encs r5.1)) :: L) (fun _ y36 => y36 = o35) ?_ ?_
  ·rcases (Bool.eq_false_or_eq_true y31).symm with hb37 | hb37
   ·replace H := ite_f hb37 H
    refine Lst.skip rfl rfl rfl hb37 rfl (by decide) ?_
    refine Lst.skip rfl rfl rfl hb37 rfl (by decide) ?_
    refine Lst.skip rfl rfl rfl hb37 rfl (by decide) ?_
    refine Lst.r (Ev.pickF rfl hb37 rfl) ?_
    refine Lst.nil ?_
    exact At.meet false (FLe.refl _) ⟨rfl, rfl, rfl, trivial⟩ rfl (some_inj H)
   replace H := ite_t hb37 H
   refine Lst.rG hb37 (Ev.move rfl) ?_
   refine Lst.rG hb37 (Ev.lenS (α := Int) (xs := r11.2.1) (by decide) rfl rfl Try.runUnderlying34 (Rd.own (i := 1) rfl rfl rfl)) ?_
   refine Lst.rG hb37 (Ev.eql rfl rfl) ?_
   refine Lst.r (Ev.pickT rfl hb37 rfl) ?_
   refine Lst.nil ?_
   exact At.meet ((r11.2.1.length : Int) == (0 : Int)) (FLe.refl _) ⟨rfl, rfl, rfl, trivial⟩ rfl (some_inj H)
  rintro F38 y36 hF39 hy
  subst hy
  refine Lst.as (e' := [(7, iv r1), (12, iv r11.2.2), (59, .bool y36)]) (L' := (.own s13 3 1 (encs r11.1)) :: (.own s15 3 1 (encs r11.2.1)) :: (.own s7 49 2 (encs r5.1)) :: L) ⟨rfl, rfl, rfl, trivial⟩ rfl ?_
  replace H := HKo35
  refine Lst.r (Ev.move rfl) ?_
  obtain ⟨o40, H, HKo40⟩ := bind_some H
  refine Lst.join (σ := Bool) 4 (fun y41 => [(64, .bool y41)]) (fun y41 => (.own s13 3 1 (encs r11.1)) :: (.own s15 3 1 (encs r11.2.1)) :: (.own s7 49 2 (encs r5.1)) :: L) (fun _ y41 => y41 = o40) ?_ ?_
  ·rcases (Bool.eq_false_or_eq_true y36).symm with hb42 | hb42
   ·replace H := ite_f hb42 H
    refine Lst.skip rfl rfl rfl hb42 rfl (by decide) ?_
    refine Lst.skip rfl rfl rfl hb42 rfl (by decide) ?_
    refine Lst.skip rfl rfl rfl hb42 rfl (by decide) ?_
    refine Lst.r (Ev.pickF rfl hb42 rfl) ?_
    refine Lst.nil ?_
    exact At.meet false (FLe.refl _) ⟨rfl, trivial⟩ rfl (some_inj H)
   replace H := ite_t hb42 H
   refine Lst.rG hb42 (Ev.move rfl) ?_
   refine Lst.rG hb42 (Ev.move rfl) ?_
   refine Lst.rG hb42 (Ev.eql rfl rfl) ?_
   refine Lst.r (Ev.pickT rfl hb42 rfl) ?_
   refine Lst.nil ?_
   exact At.meet (r11.2.2 == r1) (FLe.refl _) ⟨rfl, trivial⟩ rfl (some_inj H)
  rintro F43 y41 hF44 hy
  subst hy
  refine Lst.as (e' := [(64, .bool y41)]) (L' := (.own s13 3 1 (encs r11.1)) :: (.own s15 3 1 (encs r11.2.1)) :: (.own s7 49 2 (encs r5.1)) :: L) ⟨rfl, trivial⟩ rfl ?_
  replace H := HKo40
  refine Lst.r (Ev.assign rfl) ?_
  refine Lst.nil ?_
  refine At.then ?_
  obtain rfl := some_inj H
  refine Cd.ret ?_
  refine At.then_ret ?_
  exact At.ret1 rfl (Res.tmp rfl) (FLe.trans (FLe.trans (FLe.trans (FLe.trans (FLe.trans hF10 hF18) hF29) hF34) hF39) hF44) (sc1 (sc1 (sc1 (.refl _)))) ⟨rfl, rfl⟩
 replace H := ite_f hb24 H
 refine Cd.condF rfl hb24 ?_
 refine Cd.skip ?_
 refine At.then ?_
 refine Cd.seq ?_
 refine Cd.region ?_
 refine Lst.r (Ev.move rfl) ?_
 refine Lst.r (Ev.move rfl) ?_
 refine Lst.r (Ev.move rfl) ?_
 obtain ⟨r45, h46, H⟩ := bind_some H
 refine Lst.call rfl rfl (by decide) (vs := [iv a0, iv a1, Sl.v s_a2]) ⟨rfl, rfl, rfl, trivial⟩ Try.call38 (partref_Cover_sim h46 w0 _ M _ (sc2 (sc1 hM)) (hs_a2.mono (FLe.trans hF10 hF18) (.refl _))) (fun F51 L' v hF52 hv => ?_)
 obtain ⟨s47, s49, rfl, rfl⟩ := hv
 refine Lst.r (Ev.move rfl) ?_
 refine Lst.r (Ev.extract rfl rfl) ?_
 refine Lst.r (Ev.extract rfl rfl) ?_
 refine Lst.r (Ev.assign rfl) ?_
 refine Lst.r (Ev.assign rfl) ?_
 refine Lst.nil ?_
 refine At.then ?_
 refine Cd.seq ?_
 refine Cd.as (e' := [(0, iv a0), (1, iv a1), (2, Sl.v s_a2), (8, Sl.v s7), (9, iv r5.2), (10, Sl.v s13), (11, Sl.v s15), (12, iv r11.2.2), (13, Sl.v s47), (14, Sl.v s49)]) (L' := (.own s47 3 1 (encs r45.1)) :: (.own s49 3 1 (encs r45.2)) :: (.own s13 3 1 (encs r11.1)) :: (.own s15 3 1 (encs r11.2.1)) :: (.own s7 49 2 (encs r5.1)) :: L) ⟨rfl, rfl, rfl, rfl, rfl, rfl, rfl, rfl, rfl, rfl, trivial⟩ rfl ?_
 refine Cd.region ?_
 refine Lst.r (Ev.move rfl) ?_
 refine Lst.r (Ev.move rfl) ?_
 refine Lst.r (Ev.move rfl) ?_
 refine Lst.r (Ev.move rfl) ?_
 obtain ⟨r53, h54, H⟩ := bind_some H
 refine Lst.call rfl rfl (by decide) (vs := [iv a0, iv a1, Sl.v s_a2]) ⟨rfl, rfl, rfl, trivial⟩ Try.call40 (partref_Most_sim h54 w0 _ M _ (sc4 (sc1 hM)) (hs_a2.mono (FLe.trans (FLe.trans hF10 hF18) hF52) (.refl _))) (fun F57 L' v hF58 hv => ?_)
 obtain ⟨s55, rfl, rfl⟩ := hv
 obtain ⟨r59, h60, H⟩ := bind_some H
 refine Lst.call rfl rfl (by decide) (vs := [Sl.v s55]) ⟨rfl, trivial⟩ Try.call39 (partref_PairsOf_sim h60 w0 _ _ _ (.refl _) (Rd.own (i := 0) rfl rfl rfl)) (fun F63 L' v hF64 hv => ?_)
 obtain ⟨s61, rfl, rfl⟩ := hv
 obtain ⟨r65, h66, H⟩ := bind_some H
 refine Lst.call1 rfl rfl (by decide) (vs := [Sl.v s7, Sl.v s61]) ⟨rfl, rfl, trivial⟩ Try.call23 (slices_Equal_api_Pair_api_Pair_sim h66 w0 _ _ _ (.refl _) (Rd.own (i := 6) rfl rfl rfl) (Rd.own (i := 0) rfl rfl rfl)) ?_
 refine Lst.r (Ev.move rfl) ?_
 obtain ⟨o69, H, HKo69⟩ := bind_some H
 refine Lst.join (σ := Bool) 3 (fun y70 => [(10, Sl.v s13), (11, Sl.v s15), (12, iv r11.2.2), (13, Sl.v s47), (14, Sl.v s49), (82, .bool y70)]) (fun y70 => (.own s61 49 2 (encs r59)) :: (.own s55 3 1 (encs r53)) :: (.own s47 3 1 (encs r45.1)) :: (.own s49 3 1 (encs r45.2)) :: (.own s13 3 1 (encs r11.1)) :: (.own s15 3 1 (encs r11.2.1)) :: (.own s7 49 2 (encs r5.1)) :: L) (fun _ y70 => y70 = o69) ?_ ?_
 ·rcases (Bool.eq_false_or_eq_true r65).symm with hb71 | hb71
  ·replace H := ite_f hb71 H
   refine Lst.skip rfl rfl rfl hb71 rfl (by decide) ?_
   refine Lst.skip rfl rfl rfl hb71 rfl (by decide) ?_
   refine Lst.r (Ev.pickF rfl hb71 rfl) ?_
   refine Lst.nil ?_
   exact At.meet false (FLe.refl _) ⟨rfl, rfl, rfl, rfl, rfl, rfl, trivial⟩ rfl (some_inj H)
  replace H := ite_t hb71 H
  refine Lst.rG hb71 (Ev.move rfl) ?_
  refine Lst.rG hb71 (Ev.eql rfl rfl) ?_
  refine Lst.r (Ev.pickT rfl hb71 rfl) ?_
  refine Lst.nil ?_
  exact At.meet (r5.2 == (0 : Int)) (FLe.refl _) ⟨rfl, rfl, rfl, rfl, rfl, rfl, trivial⟩ rfl (some_inj H)
 rintro F72 y70 hF73 hy
 subst hy
 refine Lst.as (e' := [(10, Sl.v s13), (11, Sl.v s15), (12, iv r11.2.2), (13, Sl.v s47), (14, Sl.v s49), (82, .bool y70)]) (L' := (.own s61 49 2 (encs r59)) :: (.own s55 3 1 (encs r53)) :: (.own s47 3 1 (encs r45.1)) :: (.own s49 3 1 (encs r45.2)) :: (.own s13 3 1 (encs r11.1)) :: (.own s15 3 1 (encs r11.2.1)) :: (.own s7 49 2 (encs r5.1)) :: L) ⟨rfl, rfl, rfl, rfl, rfl, rfl, trivial⟩ rfl ?_
 replace H := HKo69
 refine Lst.r (Ev.move rfl) ?_
 obtain ⟨o74, H, HKo74⟩ := bind_some H
 refine Lst.join (σ := Bool) 4 (fun y75 => [(11, Sl.v s15), (12, iv r11.2.2), (14, Sl.v s49), (87, .bool y75)]) (fun y75 => (.own s61 49 2 (encs r59)) :: (.own s55 3 1 (encs r53)) :: (.own s47 3 1 (encs r45.1)) :: (.own s49 3 1 (encs r45.2)) :: (.own s13 3 1 (encs r11.1)) :: (.own s15 3 1 (encs r11.2.1)) :: (.own s7 49 2 (encs r5.1)) :: L) (fun _ y75 => y75 = o74) ?_ ?_
 ·rcases (Bool.eq_false_or_eq_true y70).symm with hb76 | hb76
  ·replace H := ite_f hb76 H
   refine Lst.skip rfl rfl rfl hb76 rfl (by decide) ?_
   refine Lst.skip rfl rfl rfl hb76 rfl (by decide) ?_
   refine Lst.skip rfl rfl rfl hb76 rfl (by decide) ?_
   refine Lst.r (Ev.pickF rfl hb76 rfl) ?_
   refine Lst.nil ?_
   exact At.meet false (FLe.refl _) ⟨rfl, rfl, rfl, rfl, trivial⟩ rfl (some_inj H)
  replace H := ite_t hb76 H
  refine Lst.rG hb76 (Ev.move rfl) ?_
  refine Lst.rG hb76 (Ev.move rfl) ?_
  obtain ⟨r77, h78, H⟩ := bind_some H
  refine Lst.call1G rfl rfl rfl hb76 rfl (by decide) (vs := [Sl.v s13, Sl.v s47]) ⟨rfl, rfl, trivial⟩ Try.call30 (slices_Equal_int_int_sim h78 w0 _ _ _ (.refl _) (Rd.own (i := 4) rfl rfl rfl) (Rd.own (i := 2) rfl rfl rfl)) ?_
  refine Lst.r (Ev.pickT rfl hb76 rfl) ?_
  refine Lst.nil ?_
  exact At.meet r77 (FLe.refl _) ⟨rfl, rfl, rfl, rfl, trivial⟩ rfl (some_inj H)
 rintro F81 y75 hF82 hy
 subst hy
 refine Lst.as (e' := [(11, Sl.v s15), (12, iv r11.2.2), (14, Sl.v s49), (87, .bool y75)]) (L' := (.own s61 49 2 (encs r59)) :: (.own s55 3 1 (encs r53)) :: (.own s47 3 1 (encs r45.1)) :: (.own s49 3 1 (encs r45.2)) :: (.own s13 3 1 (encs r11.1)) :: (.own s15 3 1 (encs r11.2.1)) :: (.own s7 49 2 (encs r5.1)) :: L) ⟨rfl, rfl, rfl, rfl, trivial⟩ rfl ?_
 replace H := HKo74
 refine Lst.r (Ev.move rfl) ?_
 obtain ⟨o83, H, HKo83⟩ := bind_some H
 refine Lst.join (σ := Bool) 4 (fun y84 => [(12, iv r11.2.2), (92, .bool y84)]) (fun y84 => (.own s61 49 2 (encs r59)) :: (.own s55 3 1 (encs r53)) :: (.own s47 3 1 (encs r45.1)) :: (.own s49 3 1 (encs r45.2)) :: (.own s13 3 1 (encs r11.1)) :: (.own s15 3 1 (encs r11.2.1)) :: (.own s7 49 2 (encs r5.1)) :: L) (fun _ y84 => y84 = o83) ?_ ?_
 ·rcases (Bool.eq_false_or_eq_true y75).symm with hb85 | hb85
  ·replace H := ite_f hb85 H
   refine Lst.skip rfl rfl rfl hb85 rfl (by decide) ?_
   refine Lst.skip rfl rfl rfl hb85 rfl (by decide) ?_
   refine Lst.skip rfl rfl rfl hb85 rfl (by decide) ?_
   refine Lst.r (Ev.pickF rfl hb85 rfl) ?_
   refine Lst.nil ?_
   exact At.meet false (FLe.refl _) ⟨rfl, rfl, trivial⟩ rfl (some_inj H)
  replace H := ite_t hb85 H
  refine Lst.rG hb85 (Ev.move rfl) ?_
  refine Lst.rG hb85 (Ev.move rfl) ?_
  obtain ⟨r86, h87, H⟩ := bind_some H
  refine Lst.call1G rfl rfl rfl hb85 rfl (by decide) (vs := [Sl.v s15, Sl.v s49]) ⟨rfl, rfl, trivial⟩ Try.call30 (slices_Equal_int_int_sim h87 w0 _ _ _ (.refl _) (Rd.own (i := 5) rfl rfl rfl) (Rd.own (i := 3) rfl rfl rfl)) ?_
  refine Lst.r (Ev.pickT rfl hb85 rfl) ?_
  refine Lst.nil ?_
  exact At.meet r86 (FLe.refl _) ⟨rfl, rfl, trivial⟩ rfl (some_inj H)
 rintro F90 y84 hF91 hy
 subst hy
 refine Lst.as (e' := [(12, iv r11.2.2), (92, .bool y84)]) (L' := (.own s61 49 2 (encs r59)) :: (.own s55 3 1 (encs r53)) :: (.own s47 3 1 (encs r45.1)) :: (.own s49 3 1 (encs r45.2)) :: (.own s13 3 1 (encs r11.1)) :: (.own s15 3 1 (encs r11.2.1)) :: (.own s7 49 2 (encs r5.1)) :: L) ⟨rfl, rfl, trivial⟩ rfl ?_
 replace H := HKo83
 refine Lst.r (Ev.move rfl) ?_
 obtain ⟨o92, H, HKo92⟩ := bind_some H
 refine Lst.join (σ := Bool) 3 (fun y93 => [(96, .bool y93)]) (fun y93 => (.own s61 49 2 (encs r59)) :: (.own s55 3 1 (encs r53)) :: (.own s47 3 1 (encs r45.1)) :: (.own s49 3 1 (encs r45.2)) :: (.own s13 3 1 (encs r11.1)) :: (.own s15 3 1 (encs r11.2.1)) :: (.own s7 49 2 (encs r5.1)) :: L) (fun _ y93 => y93 = o92) ?_ ?_
 ·rcases (Bool.eq_false_or_eq_true y84).symm with hb94 | hb94
  ·replace H := ite_f hb94 H
   refine Lst.skip rfl rfl rfl hb94 rfl (by decide) ?_
   refine Lst.skip rfl rfl rfl hb94 rfl (by decide) ?_
   refine Lst.r (Ev.pickF rfl hb94 rfl) ?_
   refine Lst.nil ?_
   exact At.meet false (FLe.refl _) ⟨rfl, trivial⟩ rfl (some_inj H)
  replace H := ite_t hb94 H
  refine Lst.rG hb94 (Ev.move rfl) ?_
  refine Lst.rG hb94 (Ev.eql rfl rfl) ?_
  refine Lst.r (Ev.pickT rfl hb94 rfl) ?_
  refine Lst.nil ?_
  exact At.meet (r11.2.2 == (0 : Int)) (FLe.refl _) ⟨rfl, trivial⟩ rfl (some_inj H)
 rintro F95 y93 hF96 hy
 subst hy
 refine Lst.as (e' := [(96, .bool y93)]) (L' := (.own s61 49 2 (encs r59)) :: (.own s55 3 1 (encs r53)) :: (.own s47 3 1 (encs r45.1)) :: (.own s49 3 1 (encs r45.2)) :: (.own s13 3 1 (encs r11.1)) :: (.own s15 3 1 (encs r11.2.1)) :: (.own s7 49 2 (encs r5.1)) :: L) ⟨rfl, trivial⟩ rfl ?_
 replace H := HKo92
 refine Lst.r (Ev.assign rfl) ?_
 refine Lst.nil ?_
 refine At.then ?_
 obtain rfl := some_inj H
 refine Cd.ret ?_
 exact At.ret1 rfl (Res.tmp rfl) (FLe.trans (FLe.trans (FLe.trans (FLe.trans (FLe.trans (FLe.trans (FLe.trans (FLe.trans hF10 hF18) hF52) hF58) hF64) hF73) hF82) hF91) hF96) (sc1 (sc1 (sc1 (sc1 (sc1 (sc1 (sc1 (.refl _)))))))) ⟨rfl, rfl⟩
end Go.Proofs.Yticifbmaapnfbaa
