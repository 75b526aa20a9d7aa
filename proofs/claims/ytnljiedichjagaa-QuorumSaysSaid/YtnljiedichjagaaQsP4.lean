/-
  The functions compute their specs; printed by a program.
-/
import Derived.Test.YtnljiedichjagaaQsP3
namespace Go.Proofs.Ytnljiedichjagaa
open Go.RowKit Enc
set_option linter.unusedVariables false
set_option linter.unusedSimpArgs false
set_option maxRecDepth 20000 in
theorem partlaw_QuorumSays_sim {fu : Nat} {a0 : Int} {a1 : List (BitVec 16)} {a2 : BitVec 16} {s_a1 : Sl} {r : Bool} (H : partlaw_QuorumSays fu a0 a1 a2 = some r) (w0 : World) (F : Frz) (M L : List Item) (hM : M.Sublist L) (hs_a1 : Rd w0 F M s_a1 a1) : Ok Try.prog w0 3 [.int .i64 a0, Sl.v s_a1, .int .u16 a2.toNat] F (L) (Is (.bool r) (L)) := by
  unfold partlaw_QuorumSays at H
  refine Ok.enter (m := 3) (n := 133) Try.func3 rfl rfl rfl (by decide) ?_
  refine Cd.env (e' := [(0, .int .i64 a0), (1, Sl.v s_a1), (2, .int .u16 a2.toNat)]) rfl ?_
  refine Cd.seq ?_
  refine Cd.region ?_
  refine Lst.box rfl rfl (by decide) rfl (cs := enc s_a1) rfl (fun b1 => ?_)
  refine Lst.run rfl rfl (by decide) (Ev.assign rfl) ?_
  refine Lst.nil ?_
  refine At.then ?_
  refine Cd.seq ?_
  refine Cd.region ?_
  refine Lst.run rfl rfl (by decide) (Ev.move rfl) ?_
  refine Lst.run rfl rfl (by decide) (Ev.load (i := 0) rfl rfl Try.isAgg22 (v := Sl.v s_a1) (Get.here _)) ?_
  obtain ⟨r3, h4, H⟩ := bind_some H
  refine Lst.call1 rfl rfl (by decide) (vs := [.int .i64 a0, Sl.v s_a1]) ⟨rfl, rfl, trivial⟩ Try.call7 (partref_QuorumErr_sim h4 w0 _ M _ (List.Sublist.cons _ hM) (hs_a1.mono (FLe.refl _) (List.Sublist.refl _))) ?_
  refine Lst.run rfl rfl (by decide) (Ev.assign rfl) ?_
  refine Lst.nil ?_
  refine At.then ?_
  refine Cd.seq ?_
  refine Cd.region ?_
  refine Lst.run rfl rfl (by decide) (Ev.move rfl) ?_
  refine Lst.run rfl rfl (by decide) (Ev.load (i := 0) rfl rfl Try.isAgg22 (v := Sl.v s_a1) (Get.here _)) ?_
  obtain ⟨r7, h8, H⟩ := bind_some H
  refine Lst.call1 rfl rfl (by decide) (vs := [.int .i64 a0, Sl.v s_a1]) ⟨rfl, rfl, trivial⟩ Try.call8 (quorum_Meets_sim h8 w0 _ M _ (List.Sublist.cons _ hM) (hs_a1.mono (FLe.refl _) (List.Sublist.refl _))) ?_
  refine Lst.run rfl rfl (by decide) (Ev.move rfl) ?_
  refine Lst.run rfl rfl (by decide) (Ev.extract rfl rfl) ?_
  refine Lst.run rfl rfl (by decide) (Ev.extract rfl rfl) ?_
  refine Lst.run rfl rfl (by decide) (Ev.assign rfl) ?_
  refine Lst.run rfl rfl (by decide) (Ev.assign rfl) ?_
  refine Lst.nil ?_
  refine At.then ?_
  refine Cd.seq ?_
  refine Cd.region ?_
  refine Lst.run rfl rfl (by decide) (Ev.move rfl) ?_
  refine Lst.run rfl rfl (by decide) (Ev.load (i := 0) rfl rfl Try.isAgg22 (v := Sl.v s_a1) (Get.here _)) ?_
  obtain ⟨r11, h12, H⟩ := bind_some H
  refine Lst.call rfl rfl (by decide) (vs := [.int .i64 a0, Sl.v s_a1]) ⟨rfl, rfl, trivial⟩ Try.call9 (quorum_Dual_sim h12 w0 _ M _ (List.Sublist.cons _ hM) (hs_a1.mono (FLe.refl _) (List.Sublist.refl _))) (fun F15 L' v hF16 hv => ?_)
  obtain ⟨s13, rfl, rfl⟩ := hv
  refine Lst.run rfl rfl (by decide) (Ev.move rfl) ?_
  refine Lst.run rfl rfl (by decide) (Ev.extract rfl rfl) ?_
  refine Lst.run rfl rfl (by decide) (Ev.extract rfl rfl) ?_
  refine Lst.run rfl rfl (by decide) (Ev.assign rfl) ?_
  refine Lst.run rfl rfl (by decide) (Ev.assign rfl) ?_
  refine Lst.nil ?_
  refine At.then ?_
  refine Cd.seq ?_
  refine Cd.as (e' := [(0, .int .i64 a0), (2, .int .u16 a2.toNat), (4, .pointer (some ⟨b1, 0, none⟩)), (7, .int .i64 r3), (8, .bool r7.1), (9, .int .i64 r7.2), (10, Sl.v s13), (11, .int .i64 r11.2)]) (L' := (.own s13 23 1 (encs r11.1)) :: (.blk b1 (enc s_a1) 22) :: L) ⟨rfl, rfl, rfl, rfl, rfl, rfl, rfl, rfl, trivial⟩ rfl ?_
  refine Cd.region ?_
  refine Lst.run rfl rfl (by decide) (Ev.move rfl) ?_
  refine Lst.run rfl rfl (by decide) (Ev.load (i := 1) rfl rfl Try.isAgg22 (v := Sl.v s_a1) (Get.here _)) ?_
  refine Lst.run rfl rfl (by decide) (Ev.move rfl) ?_
  obtain ⟨r17, h18, H⟩ := bind_some H
  refine Lst.call1 rfl rfl (by decide) (vs := [.int .i64 a0, Sl.v s_a1, .int .u16 a2.toNat]) ⟨rfl, rfl, rfl, trivial⟩ Try.call10 (quorum_Has_sim h18 w0 _ M _ (List.Sublist.cons _ (List.Sublist.cons _ hM)) (hs_a1.mono hF16 (List.Sublist.refl _))) ?_
  refine Lst.run rfl rfl (by decide) (Ev.move rfl) ?_
  refine Lst.run rfl rfl (by decide) (Ev.extract rfl rfl) ?_
  refine Lst.run rfl rfl (by decide) (Ev.extract rfl rfl) ?_
  refine Lst.run rfl rfl (by decide) (Ev.assign rfl) ?_
  refine Lst.run rfl rfl (by decide) (Ev.assign rfl) ?_
  refine Lst.nil ?_
  refine At.then ?_
  refine Cd.seq ?_
  refine Cd.seq ?_
  refine Cd.region ?_
  refine Lst.run rfl rfl (by decide) (Ev.move rfl) ?_
  refine Lst.run rfl rfl (by decide) (Ev.load (i := 1) rfl rfl Try.isAgg22 (v := Sl.v s_a1) (Get.here _)) ?_
  obtain ⟨r21, h22, H⟩ := bind_some H
  refine Lst.call1 rfl rfl (by decide) (vs := [.int .i64 a0, Sl.v s_a1]) ⟨rfl, rfl, trivial⟩ Try.call11 (quorum_Check_sim h22 w0 _ M _ (List.Sublist.cons _ (List.Sublist.cons _ hM)) (hs_a1.mono hF16 (List.Sublist.refl _))) ?_
  refine Lst.run rfl rfl (by decide) (Ev.move rfl) ?_
  refine Lst.run rfl rfl (by decide) (Ev.neq rfl rfl) ?_
  refine Lst.nil ?_
  refine At.then ?_
  rcases Bool.eq_false_or_eq_true (r21 != r3) with hb25 | hb25
  · replace H := ite_t hb25 H
    refine Cd.condT rfl hb25 ?_
    refine Cd.seq ?_
    refine Cd.as (e' := []) (L' := (.own s13 23 1 (encs r11.1)) :: (.blk b1 (enc s_a1) 22) :: L) trivial rfl ?_
    refine Cd.region ?_
    refine Lst.run rfl rfl (by decide) (Ev.assign rfl) ?_
    refine Lst.nil ?_
    refine At.then ?_
    obtain rfl := some_inj H
    refine Cd.ret ?_
    refine At.then_ret ?_
    exact At.ret1 rfl (Res.tmp rfl) hF16 (List.Sublist.cons _ (List.Sublist.cons _ (List.Sublist.refl _))) ⟨rfl, rfl⟩
  replace H := ite_f hb25 H
  refine Cd.condF rfl hb25 ?_
  refine Cd.skip ?_
  refine At.then ?_
  refine Cd.seq ?_
  refine Cd.seq ?_
  refine Cd.region ?_
  refine Lst.run rfl rfl (by decide) (Ev.move rfl) ?_
  refine Lst.run rfl rfl (by decide) (Ev.neq rfl rfl) ?_
  refine Lst.nil ?_
  refine At.then ?_
  rcases Bool.eq_false_or_eq_true (r3 != (0 : Int)) with hb26 | hb26
  · replace H := ite_t hb26 H
    refine Cd.condT rfl hb26 ?_
    refine Cd.seq ?_
    refine Cd.as (e' := [(7, .int .i64 r3), (8, .bool r7.1), (9, .int .i64 r7.2), (10, Sl.v s13), (11, .int .i64 r11.2), (12, .bool r17.1), (13, .int .i64 r17.2)]) (L' := (.own s13 23 1 (encs r11.1)) :: (.blk b1 (enc s_a1) 22) :: L) ⟨rfl, rfl, rfl, rfl, rfl, rfl, rfl, trivial⟩ rfl ?_
    refine Cd.region ?_
    refine Lst.run rfl rfl (by decide) (Ev.move rfl) ?_
    refine Lst.run rfl rfl (by decide) (Ev.not rfl) ?_
    refine Lst.run rfl rfl (by decide) (Ev.move rfl) ?_
    obtain ⟨o27, H, HKo27⟩ := bind_some H
    refine Lst.join (σ := Bool) 4 (fun y28 => [(7, .int .i64 r3), (10, Sl.v s13), (11, .int .i64 r11.2), (12, .bool r17.1), (13, .int .i64 r17.2), (56, .bool y28)]) (fun y28 => (.own s13 23 1 (encs r11.1)) :: (.blk b1 (enc s_a1) 22) :: L) (fun _ y28 => y28 = o27) ?_ ?_
    · rcases (Bool.eq_false_or_eq_true (!r7.1)).symm with hb29 | hb29
      · replace H := ite_f hb29 H
        refine Lst.skip rfl rfl rfl hb29 rfl (by decide) ?_
        refine Lst.skip rfl rfl rfl hb29 rfl (by decide) ?_
        refine Lst.skip rfl rfl rfl hb29 rfl (by decide) ?_
        refine Lst.run rfl rfl (by decide) (Ev.pickF rfl hb29 rfl) ?_
        refine Lst.nil ?_
        exact At.meet false (FLe.refl _) ⟨rfl, rfl, rfl, rfl, rfl, rfl, trivial⟩ rfl (some_inj H)
      replace H := ite_t hb29 H
      refine Lst.runG rfl rfl rfl hb29 rfl (by decide) (Ev.move rfl) ?_
      refine Lst.runG rfl rfl rfl hb29 rfl (by decide) (Ev.move rfl) ?_
      refine Lst.runG rfl rfl rfl hb29 rfl (by decide) (Ev.eql rfl rfl) ?_
      refine Lst.run rfl rfl (by decide) (Ev.pickT rfl hb29 rfl) ?_
      refine Lst.nil ?_
      exact At.meet (r7.2 == r3) (FLe.refl _) ⟨rfl, rfl, rfl, rfl, rfl, rfl, trivial⟩ rfl (some_inj H)
    rintro F30 y28 hF31 hy
    subst hy
    refine Lst.as (e' := [(7, .int .i64 r3), (10, Sl.v s13), (11, .int .i64 r11.2), (12, .bool r17.1), (13, .int .i64 r17.2), (56, .bool y28)]) (L' := (.own s13 23 1 (encs r11.1)) :: (.blk b1 (enc s_a1) 22) :: L) ⟨rfl, rfl, rfl, rfl, rfl, rfl, trivial⟩ rfl ?_
    replace H := HKo27
    refine Lst.run rfl rfl (by decide) (Ev.move rfl) ?_
    obtain ⟨o32, H, HKo32⟩ := bind_some H
    refine Lst.join (σ := Bool) 4 (fun y33 => [(7, .int .i64 r3), (11, .int .i64 r11.2), (12, .bool r17.1), (13, .int .i64 r17.2), (61, .bool y33)]) (fun y33 => (.own s13 23 1 (encs r11.1)) :: (.blk b1 (enc s_a1) 22) :: L) (fun _ y33 => y33 = o32) ?_ ?_
    · rcases (Bool.eq_false_or_eq_true y28).symm with hb34 | hb34
      · replace H := ite_f hb34 H
        refine Lst.skip rfl rfl rfl hb34 rfl (by decide) ?_
        refine Lst.skip rfl rfl rfl hb34 rfl (by decide) ?_
        refine Lst.skip rfl rfl rfl hb34 rfl (by decide) ?_
        refine Lst.run rfl rfl (by decide) (Ev.pickF rfl hb34 rfl) ?_
        refine Lst.nil ?_
        exact At.meet false (FLe.refl _) ⟨rfl, rfl, rfl, rfl, rfl, trivial⟩ rfl (some_inj H)
      replace H := ite_t hb34 H
      refine Lst.runG rfl rfl rfl hb34 rfl (by decide) (Ev.move rfl) ?_
      refine Lst.runG rfl rfl rfl hb34 rfl (by decide) (Ev.lenS (α := BitVec 16) (xs := r11.1) (by decide) rfl rfl Try.runUnderlying22 (Rd.own (i := 0) rfl rfl rfl)) ?_
      refine Lst.runG rfl rfl rfl hb34 rfl (by decide) (Ev.eql rfl rfl) ?_
      refine Lst.run rfl rfl (by decide) (Ev.pickT rfl hb34 rfl) ?_
      refine Lst.nil ?_
      exact At.meet ((r11.1.length : Int) == (0 : Int)) (FLe.refl _) ⟨rfl, rfl, rfl, rfl, rfl, trivial⟩ rfl (some_inj H)
    rintro F35 y33 hF36 hy
    subst hy
    refine Lst.as (e' := [(7, .int .i64 r3), (11, .int .i64 r11.2), (12, .bool r17.1), (13, .int .i64 r17.2), (61, .bool y33)]) (L' := (.own s13 23 1 (encs r11.1)) :: (.blk b1 (enc s_a1) 22) :: L) ⟨rfl, rfl, rfl, rfl, rfl, trivial⟩ rfl ?_
    replace H := HKo32
    refine Lst.run rfl rfl (by decide) (Ev.move rfl) ?_
    obtain ⟨o37, H, HKo37⟩ := bind_some H
    refine Lst.join (σ := Bool) 4 (fun y38 => [(7, .int .i64 r3), (12, .bool r17.1), (13, .int .i64 r17.2), (66, .bool y38)]) (fun y38 => (.own s13 23 1 (encs r11.1)) :: (.blk b1 (enc s_a1) 22) :: L) (fun _ y38 => y38 = o37) ?_ ?_
    · rcases (Bool.eq_false_or_eq_true y33).symm with hb39 | hb39
      · replace H := ite_f hb39 H
        refine Lst.skip rfl rfl rfl hb39 rfl (by decide) ?_
        refine Lst.skip rfl rfl rfl hb39 rfl (by decide) ?_
        refine Lst.skip rfl rfl rfl hb39 rfl (by decide) ?_
        refine Lst.run rfl rfl (by decide) (Ev.pickF rfl hb39 rfl) ?_
        refine Lst.nil ?_
        exact At.meet false (FLe.refl _) ⟨rfl, rfl, rfl, rfl, trivial⟩ rfl (some_inj H)
      replace H := ite_t hb39 H
      refine Lst.runG rfl rfl rfl hb39 rfl (by decide) (Ev.move rfl) ?_
      refine Lst.runG rfl rfl rfl hb39 rfl (by decide) (Ev.move rfl) ?_
      refine Lst.runG rfl rfl rfl hb39 rfl (by decide) (Ev.eql rfl rfl) ?_
      refine Lst.run rfl rfl (by decide) (Ev.pickT rfl hb39 rfl) ?_
      refine Lst.nil ?_
      exact At.meet (r11.2 == r3) (FLe.refl _) ⟨rfl, rfl, rfl, rfl, trivial⟩ rfl (some_inj H)
    rintro F40 y38 hF41 hy
    subst hy
    refine Lst.as (e' := [(7, .int .i64 r3), (12, .bool r17.1), (13, .int .i64 r17.2), (66, .bool y38)]) (L' := (.own s13 23 1 (encs r11.1)) :: (.blk b1 (enc s_a1) 22) :: L) ⟨rfl, rfl, rfl, rfl, trivial⟩ rfl ?_
    replace H := HKo37
    refine Lst.run rfl rfl (by decide) (Ev.move rfl) ?_
    obtain ⟨o42, H, HKo42⟩ := bind_some H
    refine Lst.join (σ := Bool) 3 (fun y43 => [(7, .int .i64 r3), (13, .int .i64 r17.2), (70, .bool y43)]) (fun y43 => (.own s13 23 1 (encs r11.1)) :: (.blk b1 (enc s_a1) 22) :: L) (fun _ y43 => y43 = o42) ?_ ?_
    · rcases (Bool.eq_false_or_eq_true y38).symm with hb44 | hb44
      · replace H := ite_f hb44 H
        refine Lst.skip rfl rfl rfl hb44 rfl (by decide) ?_
        refine Lst.skip rfl rfl rfl hb44 rfl (by decide) ?_
        refine Lst.run rfl rfl (by decide) (Ev.pickF rfl hb44 rfl) ?_
        refine Lst.nil ?_
        exact At.meet false (FLe.refl _) ⟨rfl, rfl, rfl, trivial⟩ rfl (some_inj H)
      replace H := ite_t hb44 H
      refine Lst.runG rfl rfl rfl hb44 rfl (by decide) (Ev.move rfl) ?_
      refine Lst.runG rfl rfl rfl hb44 rfl (by decide) (Ev.not rfl) ?_
      refine Lst.run rfl rfl (by decide) (Ev.pickT rfl hb44 rfl) ?_
      refine Lst.nil ?_
      exact At.meet (!r17.1) (FLe.refl _) ⟨rfl, rfl, rfl, trivial⟩ rfl (some_inj H)
    rintro F45 y43 hF46 hy
    subst hy
    refine Lst.as (e' := [(7, .int .i64 r3), (13, .int .i64 r17.2), (70, .bool y43)]) (L' := (.own s13 23 1 (encs r11.1)) :: (.blk b1 (enc s_a1) 22) :: L) ⟨rfl, rfl, rfl, trivial⟩ rfl ?_
    replace H := HKo42
    refine Lst.run rfl rfl (by decide) (Ev.move rfl) ?_
    obtain ⟨o47, H, HKo47⟩ := bind_some H
    refine Lst.join (σ := Bool) 4 (fun y48 => [(75, .bool y48)]) (fun y48 => (.own s13 23 1 (encs r11.1)) :: (.blk b1 (enc s_a1) 22) :: L) (fun _ y48 => y48 = o47) ?_ ?_
    · rcases (Bool.eq_false_or_eq_true y43).symm with hb49 | hb49
      · replace H := ite_f hb49 H
        refine Lst.skip rfl rfl rfl hb49 rfl (by decide) ?_
        refine Lst.skip rfl rfl rfl hb49 rfl (by decide) ?_
        refine Lst.skip rfl rfl rfl hb49 rfl (by decide) ?_
        refine Lst.run rfl rfl (by decide) (Ev.pickF rfl hb49 rfl) ?_
        refine Lst.nil ?_
        exact At.meet false (FLe.refl _) ⟨rfl, trivial⟩ rfl (some_inj H)
      replace H := ite_t hb49 H
      refine Lst.runG rfl rfl rfl hb49 rfl (by decide) (Ev.move rfl) ?_
      refine Lst.runG rfl rfl rfl hb49 rfl (by decide) (Ev.move rfl) ?_
      refine Lst.runG rfl rfl rfl hb49 rfl (by decide) (Ev.eql rfl rfl) ?_
      refine Lst.run rfl rfl (by decide) (Ev.pickT rfl hb49 rfl) ?_
      refine Lst.nil ?_
      exact At.meet (r17.2 == r3) (FLe.refl _) ⟨rfl, trivial⟩ rfl (some_inj H)
    rintro F50 y48 hF51 hy
    subst hy
    refine Lst.as (e' := [(75, .bool y48)]) (L' := (.own s13 23 1 (encs r11.1)) :: (.blk b1 (enc s_a1) 22) :: L) ⟨rfl, trivial⟩ rfl ?_
    replace H := HKo47
    refine Lst.run rfl rfl (by decide) (Ev.assign rfl) ?_
    refine Lst.nil ?_
    refine At.then ?_
    obtain rfl := some_inj H
    refine Cd.ret ?_
    refine At.then_ret ?_
    exact At.ret1 rfl (Res.tmp rfl) (FLe.trans (FLe.trans (FLe.trans (FLe.trans (FLe.trans hF16 hF31) hF36) hF41) hF46) hF51) (List.Sublist.cons _ (List.Sublist.cons _ (List.Sublist.refl _))) ⟨rfl, rfl⟩
  replace H := ite_f hb26 H
  refine Cd.condF rfl hb26 ?_
  refine Cd.skip ?_
  refine At.then ?_
  refine Cd.seq ?_
  refine Cd.as (e' := [(0, .int .i64 a0), (2, .int .u16 a2.toNat), (4, .pointer (some ⟨b1, 0, none⟩)), (8, .bool r7.1), (9, .int .i64 r7.2), (10, Sl.v s13), (11, .int .i64 r11.2), (12, .bool r17.1), (13, .int .i64 r17.2)]) (L' := (.own s13 23 1 (encs r11.1)) :: (.blk b1 (enc s_a1) 22) :: L) ⟨rfl, rfl, rfl, rfl, rfl, rfl, rfl, rfl, rfl, trivial⟩ rfl ?_
  refine Cd.region ?_
  refine Lst.run rfl rfl (by decide) (Ev.assign rfl) ?_
  refine Lst.run rfl rfl (by decide) (Ev.assign rfl) ?_
  refine Lst.nil ?_
  refine At.then ?_
  refine Cd.seq ?_
  refine Cd.seq ?_
  refine Cd.region ?_
  refine Lst.run rfl rfl (by decide) (Ev.load (i := 1) rfl rfl Try.isAgg22 (v := Sl.v s_a1) (Get.here _)) ?_
  refine Lst.run rfl rfl (by decide) (Ev.lenS (α := BitVec 16) (xs := a1) (by decide) rfl rfl Try.runUnderlying22 (hs_a1.mono hF16 (List.Sublist.cons _ (List.Sublist.cons _ hM)))) ?_
  refine Lst.run rfl rfl (by decide) (Ev.move rfl) ?_
  refine Lst.nil ?_
  refine At.then ?_
  refine Cd.block ?_
  refine Cd.bound (Rd.le (α := BitVec 16) (xs := a1) (by decide) (hs_a1.mono hF16 (List.Sublist.cons _ (List.Sublist.cons _ hM)))) (fun hN113 => ?_)
  obtain ⟨ol52, H, HKl52⟩ := bind_some H
  refine Cd.loop (σ := Nat × Nat × Bool × Bool) (fun (i52, k52, y53, y54) => [(0, .int .i64 a0), (2, .int .u16 a2.toNat), (4, .pointer (some ⟨b1, 0, none⟩)), (8, .bool r7.1), (9, .int .i64 r7.2), (10, Sl.v s13), (11, .int .i64 r11.2), (12, .bool r17.1), (13, .int .i64 r17.2), (14, .bool y53), (15, .bool y54), (76, Sl.v s_a1), (77, .int .i64 (a1.length : Int)), (78, .int .i64 (i52 : Int))]) (fun (i52, k52, y53, y54) => (.own s13 23 1 (encs r11.1)) :: (.blk b1 (enc s_a1) 22) :: L) (fun _ => (fun (i52, k52, y53, y54) => rangeF (partlaw_QuorumSays_B0 a1 a2) k52 i52 (y53, y54) = some ol52 ∧ i52 + k52 = a1.length)) (fun (i52, k52, y53, y54) => k52) (0, a1.length, true, false) ⟨rfl, rfl, rfl, rfl, rfl, rfl, rfl, rfl, rfl, rfl, rfl, rfl, rfl, rfl, trivial⟩ rfl ⟨H, by omega⟩ ?_
  rintro F55 ⟨i52, k52, y53, y54⟩ hF56 ⟨H, hik52⟩
  refine Cd.as (e' := [(0, .int .i64 a0), (2, .int .u16 a2.toNat), (4, .pointer (some ⟨b1, 0, none⟩)), (8, .bool r7.1), (9, .int .i64 r7.2), (10, Sl.v s13), (11, .int .i64 r11.2), (12, .bool r17.1), (13, .int .i64 r17.2), (14, .bool y53), (15, .bool y54), (76, Sl.v s_a1), (77, .int .i64 (a1.length : Int)), (78, .int .i64 (i52 : Int))]) (L' := (.own s13 23 1 (encs r11.1)) :: (.blk b1 (enc s_a1) 22) :: L) ⟨rfl, rfl, rfl, rfl, rfl, rfl, rfl, rfl, rfl, rfl, rfl, rfl, rfl, rfl, trivial⟩ rfl ?_
  rcases k52 with _ | k52
  · have hc52 : decide ((i52 : Int) < (a1.length : Int)) = false := decide_eq_false (by omega)
    replace H := rangeF_end H
    refine Cd.seq ?_
    refine Cd.region ?_
    refine Lst.run rfl rfl (by decide) (Ev.lss rfl rfl) ?_
    refine Lst.nil ?_
    refine At.then ?_
    refine Cd.seq ?_
    refine Cd.condF rfl hc52 ?_
    refine Cd.exit ?_
    refine At.then_exit ?_
    refine At.then_exit ?_
    refine At.in_exit ?_
    subst H
    replace H := HKl52
    refine At.then ?_
    refine Cd.seq ?_
    refine Cd.region ?_
    refine Lst.run rfl rfl (by decide) (Ev.move rfl) ?_
    refine Lst.run rfl rfl (by decide) (Ev.makeFunc (us := []) (vs := [.pointer (some ⟨b1, 0, none⟩)]) trivial ⟨rfl, trivial⟩) ?_
    obtain ⟨r78, h79, H⟩ := bind_some H
    refine Lst.front (i := 1) rfl (L' := (.blk b1 (enc s_a1) 22) :: (.own s13 23 1 (encs r11.1)) :: L) rfl ?_
    refine Lst.call rfl rfl (by decide) (vs := [.int .i64 a0, .func (.func 13) #[] #[.pointer (some ⟨b1, 0, none⟩)]]) ⟨rfl, rfl, trivial⟩ Try.call12 (partref_LeastSets_QuorumSays_1_sim h79 w0 _ M _ (List.Sublist.cons _ hM) (hs_a1.mono (FLe.trans hF16 hF56) (List.Sublist.refl _))) (fun F82 L' v hF83 hv => ?_)
    obtain ⟨s80, rfl, rfl⟩ := hv
    refine Lst.run rfl rfl (by decide) (Ev.assign rfl) ?_
    refine Lst.nil ?_
    refine At.then ?_
    refine Cd.seq ?_
    refine Cd.region ?_
    refine Lst.run rfl rfl (by decide) (Ev.move rfl) ?_
    refine Lst.run rfl rfl (by decide) (Ev.move rfl) ?_
    refine Lst.run rfl rfl (by decide) (Ev.eqlB rfl rfl Try.runUnderlying4) ?_
    refine Lst.run rfl rfl (by decide) (Ev.move rfl) ?_
    obtain ⟨o84, H, HKo84⟩ := bind_some H
    refine Lst.join (σ := Bool) 3 (fun y85 => [(10, Sl.v s13), (11, .int .i64 r11.2), (12, .bool r17.1), (13, .int .i64 r17.2), (15, .bool y54), (20, Sl.v s80), (114, .bool y85)]) (fun y85 => (.own s80 23 1 (encs r78)) :: (.blk b1 (enc s_a1) 22) :: (.own s13 23 1 (encs r11.1)) :: L) (fun _ y85 => y85 = o84) ?_ ?_
    · rcases (Bool.eq_false_or_eq_true (r7.1 == y53)).symm with hb86 | hb86
      · replace H := ite_f hb86 H
        refine Lst.skip rfl rfl rfl hb86 rfl (by decide) ?_
        refine Lst.skip rfl rfl rfl hb86 rfl (by decide) ?_
        refine Lst.run rfl rfl (by decide) (Ev.pickF rfl hb86 rfl) ?_
        refine Lst.nil ?_
        exact At.meet false (FLe.refl _) ⟨rfl, rfl, rfl, rfl, rfl, rfl, rfl, trivial⟩ rfl (some_inj H)
      replace H := ite_t hb86 H
      refine Lst.runG rfl rfl rfl hb86 rfl (by decide) (Ev.move rfl) ?_
      refine Lst.runG rfl rfl rfl hb86 rfl (by decide) (Ev.eql rfl rfl) ?_
      refine Lst.run rfl rfl (by decide) (Ev.pickT rfl hb86 rfl) ?_
      refine Lst.nil ?_
      exact At.meet (r7.2 == (0 : Int)) (FLe.refl _) ⟨rfl, rfl, rfl, rfl, rfl, rfl, rfl, trivial⟩ rfl (some_inj H)
    rintro F87 y85 hF88 hy
    subst hy
    refine Lst.as (e' := [(10, Sl.v s13), (11, .int .i64 r11.2), (12, .bool r17.1), (13, .int .i64 r17.2), (15, .bool y54), (20, Sl.v s80), (114, .bool y85)]) (L' := (.own s80 23 1 (encs r78)) :: (.blk b1 (enc s_a1) 22) :: (.own s13 23 1 (encs r11.1)) :: L) ⟨rfl, rfl, rfl, rfl, rfl, rfl, rfl, trivial⟩ rfl ?_
    replace H := HKo84
    refine Lst.run rfl rfl (by decide) (Ev.move rfl) ?_
    obtain ⟨o89, H, HKo89⟩ := bind_some H
    refine Lst.join (σ := Bool) 4 (fun y90 => [(11, .int .i64 r11.2), (12, .bool r17.1), (13, .int .i64 r17.2), (15, .bool y54), (119, .bool y90)]) (fun y90 => (.own s80 23 1 (encs r78)) :: (.blk b1 (enc s_a1) 22) :: (.own s13 23 1 (encs r11.1)) :: L) (fun _ y90 => y90 = o89) ?_ ?_
    · rcases (Bool.eq_false_or_eq_true y85).symm with hb91 | hb91
      · replace H := ite_f hb91 H
        refine Lst.skip rfl rfl rfl hb91 rfl (by decide) ?_
        refine Lst.skip rfl rfl rfl hb91 rfl (by decide) ?_
        refine Lst.skip rfl rfl rfl hb91 rfl (by decide) ?_
        refine Lst.run rfl rfl (by decide) (Ev.pickF rfl hb91 rfl) ?_
        refine Lst.nil ?_
        exact At.meet false (FLe.refl _) ⟨rfl, rfl, rfl, rfl, rfl, trivial⟩ rfl (some_inj H)
      replace H := ite_t hb91 H
      refine Lst.runG rfl rfl rfl hb91 rfl (by decide) (Ev.move rfl) ?_
      refine Lst.runG rfl rfl rfl hb91 rfl (by decide) (Ev.move rfl) ?_
      obtain ⟨r92, h93, H⟩ := bind_some H
      refine Lst.call1G rfl rfl rfl hb91 rfl (by decide) (vs := [Sl.v s13, Sl.v s80]) ⟨rfl, rfl, trivial⟩ Try.call16 (slices_Equal_uint16_uint16_sim h93 w0 _ _ _ (List.Sublist.refl _) (Rd.own (i := 2) rfl rfl rfl) (Rd.own (i := 0) rfl rfl rfl)) ?_
      refine Lst.run rfl rfl (by decide) (Ev.pickT rfl hb91 rfl) ?_
      refine Lst.nil ?_
      exact At.meet r92 (FLe.refl _) ⟨rfl, rfl, rfl, rfl, rfl, trivial⟩ rfl (some_inj H)
    rintro F96 y90 hF97 hy
    subst hy
    refine Lst.as (e' := [(11, .int .i64 r11.2), (12, .bool r17.1), (13, .int .i64 r17.2), (15, .bool y54), (119, .bool y90)]) (L' := (.own s80 23 1 (encs r78)) :: (.blk b1 (enc s_a1) 22) :: (.own s13 23 1 (encs r11.1)) :: L) ⟨rfl, rfl, rfl, rfl, rfl, trivial⟩ rfl ?_
    replace H := HKo89
    refine Lst.run rfl rfl (by decide) (Ev.move rfl) ?_
    obtain ⟨o98, H, HKo98⟩ := bind_some H
    refine Lst.join (σ := Bool) 3 (fun y99 => [(12, .bool r17.1), (13, .int .i64 r17.2), (15, .bool y54), (123, .bool y99)]) (fun y99 => (.own s80 23 1 (encs r78)) :: (.blk b1 (enc s_a1) 22) :: (.own s13 23 1 (encs r11.1)) :: L) (fun _ y99 => y99 = o98) ?_ ?_
    · rcases (Bool.eq_false_or_eq_true y90).symm with hb100 | hb100
      · replace H := ite_f hb100 H
        refine Lst.skip rfl rfl rfl hb100 rfl (by decide) ?_
        refine Lst.skip rfl rfl rfl hb100 rfl (by decide) ?_
        refine Lst.run rfl rfl (by decide) (Ev.pickF rfl hb100 rfl) ?_
        refine Lst.nil ?_
        exact At.meet false (FLe.refl _) ⟨rfl, rfl, rfl, rfl, trivial⟩ rfl (some_inj H)
      replace H := ite_t hb100 H
      refine Lst.runG rfl rfl rfl hb100 rfl (by decide) (Ev.move rfl) ?_
      refine Lst.runG rfl rfl rfl hb100 rfl (by decide) (Ev.eql rfl rfl) ?_
      refine Lst.run rfl rfl (by decide) (Ev.pickT rfl hb100 rfl) ?_
      refine Lst.nil ?_
      exact At.meet (r11.2 == (0 : Int)) (FLe.refl _) ⟨rfl, rfl, rfl, rfl, trivial⟩ rfl (some_inj H)
    rintro F101 y99 hF102 hy
    subst hy
    refine Lst.as (e' := [(12, .bool r17.1), (13, .int .i64 r17.2), (15, .bool y54), (123, .bool y99)]) (L' := (.own s80 23 1 (encs r78)) :: (.blk b1 (enc s_a1) 22) :: (.own s13 23 1 (encs r11.1)) :: L) ⟨rfl, rfl, rfl, rfl, trivial⟩ rfl ?_
    replace H := HKo98
    refine Lst.run rfl rfl (by decide) (Ev.move rfl) ?_
    obtain ⟨o103, H, HKo103⟩ := bind_some H
    refine Lst.join (σ := Bool) 4 (fun y104 => [(13, .int .i64 r17.2), (128, .bool y104)]) (fun y104 => (.own s80 23 1 (encs r78)) :: (.blk b1 (enc s_a1) 22) :: (.own s13 23 1 (encs r11.1)) :: L) (fun _ y104 => y104 = o103) ?_ ?_
    · rcases (Bool.eq_false_or_eq_true y99).symm with hb105 | hb105
      · replace H := ite_f hb105 H
        refine Lst.skip rfl rfl rfl hb105 rfl (by decide) ?_
        refine Lst.skip rfl rfl rfl hb105 rfl (by decide) ?_
        refine Lst.skip rfl rfl rfl hb105 rfl (by decide) ?_
        refine Lst.run rfl rfl (by decide) (Ev.pickF rfl hb105 rfl) ?_
        refine Lst.nil ?_
        exact At.meet false (FLe.refl _) ⟨rfl, rfl, trivial⟩ rfl (some_inj H)
      replace H := ite_t hb105 H
      refine Lst.runG rfl rfl rfl hb105 rfl (by decide) (Ev.move rfl) ?_
      refine Lst.runG rfl rfl rfl hb105 rfl (by decide) (Ev.move rfl) ?_
      refine Lst.runG rfl rfl rfl hb105 rfl (by decide) (Ev.eqlB rfl rfl Try.runUnderlying4) ?_
      refine Lst.run rfl rfl (by decide) (Ev.pickT rfl hb105 rfl) ?_
      refine Lst.nil ?_
      exact At.meet (r17.1 == y54) (FLe.refl _) ⟨rfl, rfl, trivial⟩ rfl (some_inj H)
    rintro F106 y104 hF107 hy
    subst hy
    refine Lst.as (e' := [(13, .int .i64 r17.2), (128, .bool y104)]) (L' := (.own s80 23 1 (encs r78)) :: (.blk b1 (enc s_a1) 22) :: (.own s13 23 1 (encs r11.1)) :: L) ⟨rfl, rfl, trivial⟩ rfl ?_
    replace H := HKo103
    refine Lst.run rfl rfl (by decide) (Ev.move rfl) ?_
    obtain ⟨o108, H, HKo108⟩ := bind_some H
    refine Lst.join (σ := Bool) 3 (fun y109 => [(132, .bool y109)]) (fun y109 => (.own s80 23 1 (encs r78)) :: (.blk b1 (enc s_a1) 22) :: (.own s13 23 1 (encs r11.1)) :: L) (fun _ y109 => y109 = o108) ?_ ?_
    · rcases (Bool.eq_false_or_eq_true y104).symm with hb110 | hb110
      · replace H := ite_f hb110 H
        refine Lst.skip rfl rfl rfl hb110 rfl (by decide) ?_
        refine Lst.skip rfl rfl rfl hb110 rfl (by decide) ?_
        refine Lst.run rfl rfl (by decide) (Ev.pickF rfl hb110 rfl) ?_
        refine Lst.nil ?_
        exact At.meet false (FLe.refl _) ⟨rfl, trivial⟩ rfl (some_inj H)
      replace H := ite_t hb110 H
      refine Lst.runG rfl rfl rfl hb110 rfl (by decide) (Ev.move rfl) ?_
      refine Lst.runG rfl rfl rfl hb110 rfl (by decide) (Ev.eql rfl rfl) ?_
      refine Lst.run rfl rfl (by decide) (Ev.pickT rfl hb110 rfl) ?_
      refine Lst.nil ?_
      exact At.meet (r17.2 == (0 : Int)) (FLe.refl _) ⟨rfl, trivial⟩ rfl (some_inj H)
    rintro F111 y109 hF112 hy
    subst hy
    refine Lst.as (e' := [(132, .bool y109)]) (L' := (.own s80 23 1 (encs r78)) :: (.blk b1 (enc s_a1) 22) :: (.own s13 23 1 (encs r11.1)) :: L) ⟨rfl, trivial⟩ rfl ?_
    replace H := HKo108
    refine Lst.run rfl rfl (by decide) (Ev.assign rfl) ?_
    refine Lst.nil ?_
    refine At.then ?_
    obtain rfl := some_inj H
    refine Cd.ret ?_
    exact At.ret1 rfl (Res.tmp rfl) (FLe.trans (FLe.trans (FLe.trans (FLe.trans (FLe.trans (FLe.trans (FLe.trans hF16 hF56) hF83) hF88) hF97) hF102) hF107) hF112) (List.Sublist.cons _ (List.Sublist.cons _ (List.Sublist.cons _ (List.Sublist.refl _)))) ⟨rfl, rfl⟩
  have hc52 : decide ((i52 : Int) < (a1.length : Int)) = true := decide_eq_true (by omega)
  obtain ⟨c52, H, hgo52⟩ := rangeF_go H
  unfold partlaw_QuorumSays_B0 at H
  try dsimp only at H
  refine Cd.seq ?_
  refine Cd.region ?_
  refine Lst.run rfl rfl (by decide) (Ev.lss rfl rfl) ?_
  refine Lst.nil ?_
  refine At.then ?_
  refine Cd.seq ?_
  refine Cd.condT rfl hc52 ?_
  refine Cd.skip ?_
  refine At.then ?_
  refine Cd.seq ?_
  refine Cd.block ?_
  refine Cd.seq ?_
  refine Cd.region ?_
  obtain ⟨x57, h58, H⟩ := bind_some H
  have g59 := lat_some h58
  refine Lst.run rfl rfl (by decide) (Ev.indexS (α := BitVec 16) (xs := a1) rfl rfl Try.runUnderlying22 Try.sizeOf23 rfl (by decide) (hs_a1.mono (FLe.trans hF16 hF56) (List.Sublist.cons _ (List.Sublist.cons _ hM))) g59.1 g59.2.1) ?_
  refine Lst.run rfl rfl (by decide) (Ev.loadS (α := BitVec 16) rfl (hs_a1.mono (FLe.trans hF16 hF56) (List.Sublist.cons _ (List.Sublist.cons _ hM))) Try.isAgg23 (v := .int .u16 x57.toNat) ((Get.elemN (s := 1) (x := x57) rfl g59.2.2 (Get.here _)).off (by omega))) ?_
  refine Lst.run rfl rfl (by decide) (Ev.assign rfl) ?_
  refine Lst.nil ?_
  refine At.then ?_
  refine Cd.seq ?_
  refine Cd.region ?_
  refine Lst.run rfl rfl (by decide) (Ev.move rfl) ?_
  refine Lst.run rfl rfl (by decide) (Ev.move rfl) ?_
  obtain ⟨o60, H, HKo60⟩ := bind_some H
  refine Lst.join (σ := Bool) 6 (fun y61 => [(0, .int .i64 a0), (2, .int .u16 a2.toNat), (4, .pointer (some ⟨b1, 0, none⟩)), (8, .bool r7.1), (9, .int .i64 r7.2), (10, Sl.v s13), (11, .int .i64 r11.2), (12, .bool r17.1), (13, .int .i64 r17.2), (14, .bool y53), (15, .bool y54), (17, .int .u16 x57.toNat), (76, Sl.v s_a1), (77, .int .i64 (a1.length : Int)), (78, .int .i64 (i52 : Int)), (89, .bool y61)]) (fun y61 => (.own s13 23 1 (encs r11.1)) :: (.blk b1 (enc s_a1) 22) :: L) (fun _ y61 => y61 = o60) ?_ ?_
  · rcases Bool.eq_false_or_eq_true y54 with hb62 | hb62
    · replace H := ite_t hb62 H
      refine Lst.skip rfl rfl rfl hb62 rfl (by decide) ?_
      refine Lst.skip rfl rfl rfl hb62 rfl (by decide) ?_
      refine Lst.skip rfl rfl rfl hb62 rfl (by decide) ?_
      refine Lst.skip rfl rfl rfl hb62 rfl (by decide) ?_
      refine Lst.skip rfl rfl rfl hb62 rfl (by decide) ?_
      refine Lst.run rfl rfl (by decide) (Ev.pickT rfl hb62 rfl) ?_
      refine Lst.nil ?_
      exact At.meet true (FLe.refl _) ⟨rfl, rfl, rfl, rfl, rfl, rfl, rfl, rfl, rfl, rfl, rfl, rfl, rfl, rfl, rfl, rfl, trivial⟩ rfl (some_inj H)
    replace H := ite_f hb62 H
    refine Lst.runG rfl rfl rfl hb62 rfl (by decide) (Ev.move rfl) ?_
    refine Lst.runG rfl rfl rfl hb62 rfl (by decide) (Ev.move rfl) ?_
    refine Lst.runG rfl rfl rfl hb62 rfl (by decide) (Ev.orU16 (i := x57) (j := a2) rfl rfl) ?_
    refine Lst.runG rfl rfl rfl hb62 rfl (by decide) (Ev.move rfl) ?_
    refine Lst.runG rfl rfl rfl hb62 rfl (by decide) (Ev.eql rfl rfl) ?_
    refine Lst.run rfl rfl (by decide) (Ev.pickF rfl hb62 rfl) ?_
    refine Lst.nil ?_
    exact At.meet (((x57 ||| a2).toNat : Int) == (a2.toNat : Int)) (FLe.refl _) ⟨rfl, rfl, rfl, rfl, rfl, rfl, rfl, rfl, rfl, rfl, rfl, rfl, rfl, rfl, rfl, rfl, trivial⟩ rfl (some_inj H)
  rintro F63 y61 hF64 hy
  subst hy
  refine Lst.as (e' := [(0, .int .i64 a0), (2, .int .u16 a2.toNat), (4, .pointer (some ⟨b1, 0, none⟩)), (8, .bool r7.1), (9, .int .i64 r7.2), (10, Sl.v s13), (11, .int .i64 r11.2), (12, .bool r17.1), (13, .int .i64 r17.2), (14, .bool y53), (15, .bool y54), (17, .int .u16 x57.toNat), (76, Sl.v s_a1), (77, .int .i64 (a1.length : Int)), (78, .int .i64 (i52 : Int)), (89, .bool y61)]) (L' := (.own s13 23 1 (encs r11.1)) :: (.blk b1 (enc s_a1) 22) :: L) ⟨rfl, rfl, rfl, rfl, rfl, rfl, rfl, rfl, rfl, rfl, rfl, rfl, rfl, rfl, rfl, rfl, trivial⟩ rfl ?_
  replace H := HKo60
  refine Lst.run rfl rfl (by decide) (Ev.assign rfl) ?_
  refine Lst.nil ?_
  refine At.then ?_
  refine Cd.seq ?_
  refine Cd.region ?_
  refine Lst.run rfl rfl (by decide) (Ev.load (i := 1) rfl rfl Try.isAgg22 (v := Sl.v s_a1) (Get.here _)) ?_
  refine Lst.run rfl rfl (by decide) (Ev.lenS (α := BitVec 16) (xs := a1) (by decide) rfl rfl Try.runUnderlying22 (hs_a1.mono (FLe.trans (FLe.trans hF16 hF56) hF64) (List.Sublist.cons _ (List.Sublist.cons _ hM)))) ?_
  refine Lst.run rfl rfl (by decide) (Ev.move rfl) ?_
  refine Lst.nil ?_
  refine At.then ?_
  refine Cd.block ?_
  refine Cd.bound (Rd.le (α := BitVec 16) (xs := a1) (by decide) (hs_a1.mono (FLe.trans (FLe.trans hF16 hF56) hF64) (List.Sublist.cons _ (List.Sublist.cons _ hM)))) (fun hN77 => ?_)
  obtain ⟨ol65, H, HKl65⟩ := bind_some H
  refine Cd.loop (σ := Nat × Nat × Bool) (fun (i65, k65, y66) => [(0, .int .i64 a0), (2, .int .u16 a2.toNat), (4, .pointer (some ⟨b1, 0, none⟩)), (8, .bool r7.1), (9, .int .i64 r7.2), (10, Sl.v s13), (11, .int .i64 r11.2), (12, .bool r17.1), (13, .int .i64 r17.2), (14, .bool y66), (15, .bool y61), (17, .int .u16 x57.toNat), (76, Sl.v s_a1), (77, .int .i64 (a1.length : Int)), (78, .int .i64 (i52 : Int)), (90, Sl.v s_a1), (91, .int .i64 (a1.length : Int)), (92, .int .i64 (i65 : Int))]) (fun (i65, k65, y66) => (.own s13 23 1 (encs r11.1)) :: (.blk b1 (enc s_a1) 22) :: L) (fun _ => (fun (i65, k65, y66) => rangeF (partlaw_QuorumSays_B2 a1 x57) k65 i65 y66 = some ol65 ∧ i65 + k65 = a1.length)) (fun (i65, k65, y66) => k65) (0, a1.length, y53) ⟨rfl, rfl, rfl, rfl, rfl, rfl, rfl, rfl, rfl, rfl, rfl, rfl, rfl, rfl, rfl, rfl, rfl, rfl, trivial⟩ rfl ⟨H, by omega⟩ ?_
  rintro F67 ⟨i65, k65, y66⟩ hF68 ⟨H, hik65⟩
  refine Cd.as (e' := [(0, .int .i64 a0), (2, .int .u16 a2.toNat), (4, .pointer (some ⟨b1, 0, none⟩)), (8, .bool r7.1), (9, .int .i64 r7.2), (10, Sl.v s13), (11, .int .i64 r11.2), (12, .bool r17.1), (13, .int .i64 r17.2), (14, .bool y66), (15, .bool y61), (17, .int .u16 x57.toNat), (76, Sl.v s_a1), (77, .int .i64 (a1.length : Int)), (78, .int .i64 (i52 : Int)), (90, Sl.v s_a1), (91, .int .i64 (a1.length : Int)), (92, .int .i64 (i65 : Int))]) (L' := (.own s13 23 1 (encs r11.1)) :: (.blk b1 (enc s_a1) 22) :: L) ⟨rfl, rfl, rfl, rfl, rfl, rfl, rfl, rfl, rfl, rfl, rfl, rfl, rfl, rfl, rfl, rfl, rfl, rfl, trivial⟩ rfl ?_
  rcases k65 with _ | k65
  · have hc65 : decide ((i65 : Int) < (a1.length : Int)) = false := decide_eq_false (by omega)
    replace H := rangeF_end H
    refine Cd.seq ?_
    refine Cd.region ?_
    refine Lst.run rfl rfl (by decide) (Ev.lss rfl rfl) ?_
    refine Lst.nil ?_
    refine At.then ?_
    refine Cd.seq ?_
    refine Cd.condF rfl hc65 ?_
    refine Cd.exit ?_
    refine At.then_exit ?_
    refine At.then_exit ?_
    refine At.in_exit ?_
    subst H
    replace H := HKl65
    refine At.in_normal ?_
    refine At.then ?_
    refine Cd.region ?_
    refine Lst.run rfl rfl (by decide) (Ev.incr (by omega) rfl rfl) ?_
    refine Lst.run rfl rfl (by decide) (Ev.move rfl) ?_
    refine Lst.nil ?_
    exact At.meet (i52 + 1, k52, y66, y61) (FLe.trans (FLe.trans hF56 hF64) hF68) ⟨rfl, rfl, rfl, rfl, rfl, rfl, rfl, rfl, rfl, rfl, rfl, rfl, rfl, rfl, trivial⟩ rfl ⟨⟨hgo52 _ (some_inj H).symm, by omega⟩, Nat.lt_succ_self _⟩
  have hc65 : decide ((i65 : Int) < (a1.length : Int)) = true := decide_eq_true (by omega)
  obtain ⟨c65, H, hgo65⟩ := rangeF_go H
  unfold partlaw_QuorumSays_B2 at H
  try dsimp only at H
  refine Cd.seq ?_
  refine Cd.region ?_
  refine Lst.run rfl rfl (by decide) (Ev.lss rfl rfl) ?_
  refine Lst.nil ?_
  refine At.then ?_
  refine Cd.seq ?_
  refine Cd.condT rfl hc65 ?_
  refine Cd.skip ?_
  refine At.then ?_
  refine Cd.seq ?_
  refine Cd.block ?_
  refine Cd.seq ?_
  refine Cd.region ?_
  obtain ⟨x69, h70, H⟩ := bind_some H
  have g71 := lat_some h70
  refine Lst.run rfl rfl (by decide) (Ev.indexS (α := BitVec 16) (xs := a1) rfl rfl Try.runUnderlying22 Try.sizeOf23 rfl (by decide) (hs_a1.mono (FLe.trans (FLe.trans (FLe.trans hF16 hF56) hF64) hF68) (List.Sublist.cons _ (List.Sublist.cons _ hM))) g71.1 g71.2.1) ?_
  refine Lst.run rfl rfl (by decide) (Ev.loadS (α := BitVec 16) rfl (hs_a1.mono (FLe.trans (FLe.trans (FLe.trans hF16 hF56) hF64) hF68) (List.Sublist.cons _ (List.Sublist.cons _ hM))) Try.isAgg23 (v := .int .u16 x69.toNat) ((Get.elemN (s := 1) (x := x69) rfl g71.2.2 (Get.here _)).off (by omega))) ?_
  refine Lst.run rfl rfl (by decide) (Ev.assign rfl) ?_
  refine Lst.nil ?_
  refine At.then ?_
  refine Cd.region ?_
  refine Lst.run rfl rfl (by decide) (Ev.move rfl) ?_
  refine Lst.run rfl rfl (by decide) (Ev.move rfl) ?_
  obtain ⟨o72, H, HKo72⟩ := bind_some H
  refine Lst.join (σ := Bool) 5 (fun y73 => [(0, .int .i64 a0), (2, .int .u16 a2.toNat), (4, .pointer (some ⟨b1, 0, none⟩)), (8, .bool r7.1), (9, .int .i64 r7.2), (10, Sl.v s13), (11, .int .i64 r11.2), (12, .bool r17.1), (13, .int .i64 r17.2), (14, .bool y66), (15, .bool y61), (17, .int .u16 x57.toNat), (76, Sl.v s_a1), (77, .int .i64 (a1.length : Int)), (78, .int .i64 (i52 : Int)), (90, Sl.v s_a1), (91, .int .i64 (a1.length : Int)), (92, .int .i64 (i65 : Int)), (102, .bool y73)]) (fun y73 => (.own s13 23 1 (encs r11.1)) :: (.blk b1 (enc s_a1) 22) :: L) (fun _ y73 => y73 = o72) ?_ ?_
  · rcases (Bool.eq_false_or_eq_true y66).symm with hb74 | hb74
    · replace H := ite_f hb74 H
      refine Lst.skip rfl rfl rfl hb74 rfl (by decide) ?_
      refine Lst.skip rfl rfl rfl hb74 rfl (by decide) ?_
      refine Lst.skip rfl rfl rfl hb74 rfl (by decide) ?_
      refine Lst.skip rfl rfl rfl hb74 rfl (by decide) ?_
      refine Lst.run rfl rfl (by decide) (Ev.pickF rfl hb74 rfl) ?_
      refine Lst.nil ?_
      exact At.meet false (FLe.refl _) ⟨rfl, rfl, rfl, rfl, rfl, rfl, rfl, rfl, rfl, rfl, rfl, rfl, rfl, rfl, rfl, rfl, rfl, rfl, rfl, trivial⟩ rfl (some_inj H)
    replace H := ite_t hb74 H
    refine Lst.runG rfl rfl rfl hb74 rfl (by decide) (Ev.move rfl) ?_
    refine Lst.runG rfl rfl rfl hb74 rfl (by decide) (Ev.move rfl) ?_
    refine Lst.runG rfl rfl rfl hb74 rfl (by decide) (Ev.andU16 (i := x57) (j := x69) rfl rfl) ?_
    refine Lst.runG rfl rfl rfl hb74 rfl (by decide) (Ev.gtr rfl rfl) ?_
    refine Lst.run rfl rfl (by decide) (Ev.pickT rfl hb74 rfl) ?_
    refine Lst.nil ?_
    exact At.meet (decide (((x57 &&& x69).toNat : Int) > ((0 : BitVec 16).toNat : Int))) (FLe.refl _) ⟨rfl, rfl, rfl, rfl, rfl, rfl, rfl, rfl, rfl, rfl, rfl, rfl, rfl, rfl, rfl, rfl, rfl, rfl, rfl, trivial⟩ rfl (some_inj H)
  rintro F75 y73 hF76 hy
  subst hy
  refine Lst.as (e' := [(0, .int .i64 a0), (2, .int .u16 a2.toNat), (4, .pointer (some ⟨b1, 0, none⟩)), (8, .bool r7.1), (9, .int .i64 r7.2), (10, Sl.v s13), (11, .int .i64 r11.2), (12, .bool r17.1), (13, .int .i64 r17.2), (14, .bool y66), (15, .bool y61), (17, .int .u16 x57.toNat), (76, Sl.v s_a1), (77, .int .i64 (a1.length : Int)), (78, .int .i64 (i52 : Int)), (90, Sl.v s_a1), (91, .int .i64 (a1.length : Int)), (92, .int .i64 (i65 : Int)), (102, .bool y73)]) (L' := (.own s13 23 1 (encs r11.1)) :: (.blk b1 (enc s_a1) 22) :: L) ⟨rfl, rfl, rfl, rfl, rfl, rfl, rfl, rfl, rfl, rfl, rfl, rfl, rfl, rfl, rfl, rfl, rfl, rfl, rfl, trivial⟩ rfl ?_
  replace H := HKo72
  refine Lst.run rfl rfl (by decide) (Ev.assign rfl) ?_
  refine Lst.nil ?_
  refine At.in_normal ?_
  refine At.then ?_
  refine Cd.region ?_
  refine Lst.run rfl rfl (by decide) (Ev.incr (by omega) rfl rfl) ?_
  refine Lst.run rfl rfl (by decide) (Ev.move rfl) ?_
  refine Lst.nil ?_
  exact At.meet (i65 + 1, k65, y73) (FLe.trans hF68 hF76) ⟨rfl, rfl, rfl, rfl, rfl, rfl, rfl, rfl, rfl, rfl, rfl, rfl, rfl, rfl, rfl, rfl, rfl, rfl, trivial⟩ rfl ⟨⟨hgo65 _ (some_inj H).symm, by omega⟩, Nat.lt_succ_self _⟩
end Go.Proofs.Ytnljiedichjagaa
