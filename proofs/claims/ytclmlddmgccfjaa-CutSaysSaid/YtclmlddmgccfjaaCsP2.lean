/-
  The functions compute their specs; printed by a program.
-/
import Derived.Test.YtclmlddmgccfjaaCsP1
namespace Go.Proofs.Ytclmlddmgccfjaa
open Go.RowKit Enc
set_option linter.unusedVariables false
set_option linter.unusedSimpArgs false
set_option maxRecDepth 20000 in
theorem partref_Grow_sim {fu : Nat} {a0 : List Event} {a1 : Vector Int 6} {s_a0 : Sl} {r : (Vector Int 6)} (H : partref_Grow fu a0 a1 = some r) (w0 : World) (F : Frz) (M L : List Item) (hM : M.Sublist L) (hs_a0 : Rd w0 F M s_a0 a0) : Ok Try.prog w0 33 [Sl.v s_a0, .agg (enc a1).toArray] F (L) (Is (.agg (enc r).toArray) (L)) := by
  unfold partref_Grow at H
  refine Ok.enter (m := 2) (n := 54) Try.func33 rfl rfl rfl (by decide) ?_
  refine Cd.env (e' := [(0, Sl.v s_a0), (1, .agg (enc a1).toArray)]) rfl ?_
  refine Cd.seq ?_
  refine Cd.region ?_
  refine Lst.box rfl rfl (by decide) rfl (cs := enc a1) rfl (fun b1 => ?_)
  refine Lst.alloc (cs := enc (Vector.replicate 6 (0 : Int))) rfl rfl (by decide) Try.zeroValue23 rfl (fun b3 => ?_)
  refine Lst.nil ?_
  refine At.then ?_
  refine Cd.seq ?_
  refine Cd.region ?_
  refine Lst.run rfl rfl (by decide) (Ev.move rfl) ?_
  refine Lst.run rfl rfl (by decide) (Ev.loadA (i := 1) rfl rfl Try.isAgg23 Try.sizeOf23 (ch := enc a1) (Enc.len _) (Get.here _)) ?_
  obtain ⟨r5, h6, H⟩ := bind_some H
  refine Lst.call rfl rfl (by decide) (vs := [Sl.v s_a0, .agg (enc a1).toArray]) ⟨rfl, rfl, trivial⟩ Try.call58 (partref_inCut_sim h6 w0 _ M _ (List.Sublist.cons _ (List.Sublist.cons _ hM)) (hs_a0.mono (FLe.refl _) (List.Sublist.refl _))) (fun F9 L' v hF10 hv => ?_)
  obtain ⟨s7, rfl, rfl⟩ := hv
  refine Lst.run rfl rfl (by decide) (Ev.move rfl) ?_
  obtain ⟨r11, h12, H⟩ := bind_some H
  refine Lst.call rfl rfl (by decide) (vs := [Sl.v s_a0]) ⟨rfl, trivial⟩ Try.call23 (partref_Causes_sim h12 w0 _ M _ (List.Sublist.cons _ (List.Sublist.cons _ (List.Sublist.cons _ hM))) (hs_a0.mono hF10 (List.Sublist.refl _))) (fun F18 L' v hF19 hv => ?_)
  obtain ⟨s13, rs14, rfl, rfl, fm15⟩ := hv
  refine Lst.run rfl rfl (by decide) (Ev.assign rfl) ?_
  refine Lst.run rfl rfl (by decide) (Ev.assign rfl) ?_
  refine Lst.nil ?_
  refine At.then ?_
  refine Cd.seq ?_
  refine Cd.region ?_
  refine Lst.run rfl rfl (by decide) (Ev.move rfl) ?_
  obtain ⟨r20, h21, H⟩ := bind_some H
  refine Lst.call rfl rfl (by decide) (vs := [Sl.v s7]) ⟨rfl, trivial⟩ Try.call59 (slices_Clone_bool_bool_sim h21 w0 _ _ _ (List.Sublist.refl _) (Rd.own (i := 2) rfl rfl rfl)) (fun F24 L' v hF25 hv => ?_)
  obtain ⟨s22, rfl, rfl⟩ := hv
  refine Lst.run rfl rfl (by decide) (Ev.assign rfl) ?_
  refine Lst.nil ?_
  refine At.then ?_
  refine Cd.seq ?_
  refine Cd.seq ?_
  refine Cd.region ?_
  refine Lst.run rfl rfl (by decide) (Ev.move rfl) ?_
  refine Lst.run rfl rfl (by decide) (Ev.lenS (α := Event) (xs := a0) (by decide) rfl rfl Try.runUnderlying24 (hs_a0.mono (FLe.trans (FLe.trans hF10 hF19) hF25) (List.Sublist.cons _ (List.Sublist.cons _ (List.Sublist.cons _ (List.Sublist.cons _ (List.Sublist.cons _ (List.Sublist.cons _ hM)))))))) ?_
  refine Lst.run rfl rfl (by decide) (Ev.move rfl) ?_
  refine Lst.nil ?_
  refine At.then ?_
  refine Cd.block ?_
  refine Cd.bound (Rd.le (α := Event) (xs := a0) (by decide) (hs_a0.mono (FLe.trans (FLe.trans hF10 hF19) hF25) (List.Sublist.cons _ (List.Sublist.cons _ (List.Sublist.cons _ (List.Sublist.cons _ (List.Sublist.cons _ (List.Sublist.cons _ hM)))))))) (fun hN69 => ?_)
  obtain ⟨ol26, H, HKl26⟩ := bind_some H
  refine Cd.loop (σ := Nat × Nat × (List Bool)) (fun (i26, k26, l27) => [(0, Sl.v s_a0), (4, .pointer (some ⟨b3, 0, none⟩)), (5, Sl.v s7), (6, Sl.v s13), (7, Sl.v s22), (18, .int .i64 (a0.length : Int)), (19, .int .i64 (i26 : Int))]) (fun (i26, k26, l27) => (.own s22 4 1 (encs l27)) :: (.rows (α := Bool) 4 rs14) :: (.own s13 44 1 (encs rs14)) :: (.own s7 4 1 (encs r5)) :: (.blk b3 (enc (Vector.replicate 6 (0 : Int))) 23) :: (.blk b1 (enc a1) 23) :: L) (fun _ => (fun (i26, k26, l27) => rangeF (partref_Grow_B0 a0 r5 r11) k26 i26 l27 = some ol26 ∧ i26 + k26 = a0.length)) (fun (i26, k26, l27) => k26) (0, a0.length, r20) ⟨rfl, rfl, rfl, rfl, rfl, rfl, rfl, trivial⟩ rfl ⟨H, by omega⟩ ?_
  rintro F28 ⟨i26, k26, l27⟩ hF29 ⟨H, hik26⟩
  refine Cd.as (e' := [(0, Sl.v s_a0), (4, .pointer (some ⟨b3, 0, none⟩)), (5, Sl.v s7), (6, Sl.v s13), (7, Sl.v s22), (18, .int .i64 (a0.length : Int)), (19, .int .i64 (i26 : Int))]) (L' := (.own s22 4 1 (encs l27)) :: (.rows (α := Bool) 4 rs14) :: (.own s13 44 1 (encs rs14)) :: (.own s7 4 1 (encs r5)) :: (.blk b3 (enc (Vector.replicate 6 (0 : Int))) 23) :: (.blk b1 (enc a1) 23) :: L) ⟨rfl, rfl, rfl, rfl, rfl, rfl, rfl, trivial⟩ rfl ?_
  rcases k26 with _ | k26
  · have hc26 : decide ((i26 : Int) < (a0.length : Int)) = false := decide_eq_false (by omega)
    replace H := rangeF_end H
    refine Cd.seq ?_
    refine Cd.region ?_
    refine Lst.run rfl rfl (by decide) (Ev.lss rfl rfl) ?_
    refine Lst.nil ?_
    refine At.then ?_
    refine Cd.seq ?_
    refine Cd.condF rfl hc26 ?_
    refine Cd.exit ?_
    refine At.then_exit ?_
    refine At.then_exit ?_
    refine At.in_exit ?_
    subst H
    replace H := HKl26
    refine At.then ?_
    refine Cd.seq ?_
    refine Cd.region ?_
    refine Lst.run rfl rfl (by decide) (Ev.move rfl) ?_
    refine Lst.run rfl rfl (by decide) (Ev.move rfl) ?_
    obtain ⟨r65, h66, H⟩ := bind_some H
    refine Lst.call1 rfl rfl (by decide) (vs := [Sl.v s_a0, Sl.v s22]) ⟨rfl, rfl, trivial⟩ Try.call60 (partref_cutOf_sim h66 w0 _ _ _ (List.Sublist.refl _) (hs_a0.mono (FLe.trans (FLe.trans (FLe.trans hF10 hF19) hF25) hF29) (List.Sublist.cons _ (List.Sublist.cons _ (List.Sublist.cons _ (List.Sublist.cons _ (List.Sublist.cons _ (List.Sublist.cons _ hM))))))) (Rd.own (i := 0) rfl rfl rfl)) ?_
    refine Lst.store (i := 4) rfl rfl rfl rfl rfl Try.sizeOf23 (vs := enc r65) rfl (Enc.len _) (Enc.one _) (cs' := enc r65) (Put.here ((Enc.len _).trans (Enc.len _).symm)) (L' := (.own s22 4 1 (encs l27)) :: (.rows (α := Bool) 4 rs14) :: (.own s13 44 1 (encs rs14)) :: (.own s7 4 1 (encs r5)) :: (.blk b3 (enc r65) 23) :: (.blk b1 (enc a1) 23) :: L) rfl ?_
    refine Lst.nil ?_
    refine At.then ?_
    obtain rfl := some_inj H
    refine Cd.ret ?_
    exact At.ret1 rfl (Res.cellA (i := 4) rfl rfl Try.isAgg23 Try.sizeOf23 (Enc.len _)) (FLe.trans (FLe.trans (FLe.trans hF10 hF19) hF25) hF29) (List.Sublist.cons _ (List.Sublist.cons _ (List.Sublist.cons _ (List.Sublist.cons _ (List.Sublist.cons _ (List.Sublist.cons _ (List.Sublist.refl _))))))) ⟨rfl, rfl⟩
  have hc26 : decide ((i26 : Int) < (a0.length : Int)) = true := decide_eq_true (by omega)
  obtain ⟨c26, H, hgo26⟩ := rangeF_go H
  unfold partref_Grow_B0 at H
  try dsimp only at H
  refine Cd.seq ?_
  refine Cd.region ?_
  refine Lst.run rfl rfl (by decide) (Ev.lss rfl rfl) ?_
  refine Lst.nil ?_
  refine At.then ?_
  refine Cd.seq ?_
  refine Cd.condT rfl hc26 ?_
  refine Cd.skip ?_
  refine At.then ?_
  refine Cd.seq ?_
  refine Cd.block ?_
  refine Cd.seq ?_
  refine Cd.region ?_
  refine Lst.run rfl rfl (by decide) (Ev.move rfl) ?_
  refine Lst.run rfl rfl (by decide) (Ev.assign rfl) ?_
  refine Lst.nil ?_
  refine At.then ?_
  refine Cd.seq ?_
  refine Cd.region ?_
  refine Lst.run rfl rfl (by decide) (Ev.move rfl) ?_
  refine Lst.run rfl rfl (by decide) (Ev.lenS (α := Event) (xs := a0) (by decide) rfl rfl Try.runUnderlying24 (hs_a0.mono (FLe.trans (FLe.trans (FLe.trans hF10 hF19) hF25) hF29) (List.Sublist.cons _ (List.Sublist.cons _ (List.Sublist.cons _ (List.Sublist.cons _ (List.Sublist.cons _ (List.Sublist.cons _ hM)))))))) ?_
  refine Lst.run rfl rfl (by decide) (Ev.move rfl) ?_
  refine Lst.nil ?_
  refine At.then ?_
  refine Cd.block ?_
  refine Cd.bound (Rd.le (α := Event) (xs := a0) (by decide) (hs_a0.mono (FLe.trans (FLe.trans (FLe.trans hF10 hF19) hF25) hF29) (List.Sublist.cons _ (List.Sublist.cons _ (List.Sublist.cons _ (List.Sublist.cons _ (List.Sublist.cons _ (List.Sublist.cons _ hM)))))))) (fun hN64 => ?_)
  obtain ⟨ol30, H, HKl30⟩ := bind_some H
  refine Cd.loop (σ := Nat × Nat × (List Bool)) (fun (i30, k30, l31) => [(0, Sl.v s_a0), (4, .pointer (some ⟨b3, 0, none⟩)), (5, Sl.v s7), (6, Sl.v s13), (7, Sl.v s22), (8, .int .i64 (i26 : Int)), (18, .int .i64 (a0.length : Int)), (19, .int .i64 (i26 : Int)), (23, .int .i64 (a0.length : Int)), (24, .int .i64 (i30 : Int))]) (fun (i30, k30, l31) => (.own s22 4 1 (encs l31)) :: (.rows (α := Bool) 4 rs14) :: (.own s13 44 1 (encs rs14)) :: (.own s7 4 1 (encs r5)) :: (.blk b3 (enc (Vector.replicate 6 (0 : Int))) 23) :: (.blk b1 (enc a1) 23) :: L) (fun _ => (fun (i30, k30, l31) => rangeF (partref_Grow_B2 r5 r11 i26) k30 i30 l31 = some ol30 ∧ i30 + k30 = a0.length)) (fun (i30, k30, l31) => k30) (0, a0.length, l27) ⟨rfl, rfl, rfl, rfl, rfl, rfl, rfl, rfl, rfl, rfl, trivial⟩ rfl ⟨H, by omega⟩ ?_
  rintro F32 ⟨i30, k30, l31⟩ hF33 ⟨H, hik30⟩
  refine Cd.as (e' := [(0, Sl.v s_a0), (4, .pointer (some ⟨b3, 0, none⟩)), (5, Sl.v s7), (6, Sl.v s13), (7, Sl.v s22), (8, .int .i64 (i26 : Int)), (18, .int .i64 (a0.length : Int)), (19, .int .i64 (i26 : Int)), (23, .int .i64 (a0.length : Int)), (24, .int .i64 (i30 : Int))]) (L' := (.own s22 4 1 (encs l31)) :: (.rows (α := Bool) 4 rs14) :: (.own s13 44 1 (encs rs14)) :: (.own s7 4 1 (encs r5)) :: (.blk b3 (enc (Vector.replicate 6 (0 : Int))) 23) :: (.blk b1 (enc a1) 23) :: L) ⟨rfl, rfl, rfl, rfl, rfl, rfl, rfl, rfl, rfl, rfl, trivial⟩ rfl ?_
  rcases k30 with _ | k30
  · have hc30 : decide ((i30 : Int) < (a0.length : Int)) = false := decide_eq_false (by omega)
    replace H := rangeF_end H
    refine Cd.seq ?_
    refine Cd.region ?_
    refine Lst.run rfl rfl (by decide) (Ev.lss rfl rfl) ?_
    refine Lst.nil ?_
    refine At.then ?_
    refine Cd.seq ?_
    refine Cd.condF rfl hc30 ?_
    refine Cd.exit ?_
    refine At.then_exit ?_
    refine At.then_exit ?_
    refine At.in_exit ?_
    subst H
    replace H := HKl30
    refine At.in_normal ?_
    refine At.then ?_
    refine Cd.region ?_
    refine Lst.run rfl rfl (by decide) (Ev.incr (by omega) rfl rfl) ?_
    refine Lst.run rfl rfl (by decide) (Ev.move rfl) ?_
    refine Lst.nil ?_
    exact At.meet (i26 + 1, k26, l31) (FLe.trans hF29 hF33) ⟨rfl, rfl, rfl, rfl, rfl, rfl, rfl, trivial⟩ rfl ⟨⟨hgo26 _ (some_inj H).symm, by omega⟩, Nat.lt_succ_self _⟩
  have hc30 : decide ((i30 : Int) < (a0.length : Int)) = true := decide_eq_true (by omega)
  obtain ⟨c30, H, hgo30⟩ := rangeF_go H
  unfold partref_Grow_B2 at H
  try dsimp only at H
  refine Cd.seq ?_
  refine Cd.region ?_
  refine Lst.run rfl rfl (by decide) (Ev.lss rfl rfl) ?_
  refine Lst.nil ?_
  refine At.then ?_
  refine Cd.seq ?_
  refine Cd.condT rfl hc30 ?_
  refine Cd.skip ?_
  refine At.then ?_
  refine Cd.seq ?_
  refine Cd.block ?_
  refine Cd.seq ?_
  refine Cd.region ?_
  refine Lst.run rfl rfl (by decide) (Ev.move rfl) ?_
  refine Lst.run rfl rfl (by decide) (Ev.assign rfl) ?_
  refine Lst.nil ?_
  refine At.then ?_
  refine Cd.region ?_
  refine Lst.run rfl rfl (by decide) (Ev.move rfl) ?_
  refine Lst.run rfl rfl (by decide) (Ev.move rfl) ?_
  refine Lst.run rfl rfl (by decide) (Ev.move rfl) ?_
  refine Lst.run rfl rfl (by decide) (Ev.move rfl) ?_
  obtain ⟨x34, h35, H⟩ := bind_some H
  have g36 := lat_some h35
  refine Lst.run rfl rfl (by decide) (Ev.indexS (α := Bool) (xs := l31) rfl rfl Try.runUnderlying44 Try.sizeOf4 rfl (by decide) (Rd.own (i := 0) rfl rfl rfl) g36.1 g36.2.1) ?_
  refine Lst.run rfl rfl (by decide) (Ev.loadS (α := Bool) rfl (Rd.own (i := 0) rfl rfl rfl) Try.isAgg4 (v := .bool x34) ((Get.elemN (s := 1) (x := x34) rfl g36.2.2 (Get.here _)).off (by omega))) ?_
  refine Lst.run rfl rfl (by decide) (Ev.move rfl) ?_
  rcases Bool.eq_false_or_eq_true x34 with hb37 | hb37
  · replace H := ite_t hb37 H
    refine Lst.skip rfl rfl rfl hb37 rfl (by decide) ?_
    refine Lst.skip rfl rfl rfl hb37 rfl (by decide) ?_
    refine Lst.skip rfl rfl rfl hb37 rfl (by decide) ?_
    refine Lst.skip rfl rfl rfl hb37 rfl (by decide) ?_
    refine Lst.skip rfl rfl rfl hb37 rfl (by decide) ?_
    refine Lst.skipU rfl rfl rfl rfl (by decide) ?_
    refine Lst.skipU rfl rfl rfl rfl (by decide) ?_
    refine Lst.skipU rfl rfl rfl rfl (by decide) ?_
    refine Lst.skipU rfl rfl rfl rfl (by decide) ?_
    refine Lst.skipU rfl rfl rfl rfl (by decide) ?_
    refine Lst.skipU rfl rfl rfl rfl (by decide) ?_
    refine Lst.skipU rfl rfl rfl rfl (by decide) ?_
    refine Lst.skip rfl rfl rfl hb37 rfl (by decide) ?_
    refine Lst.run rfl rfl (by decide) (Ev.pickT rfl hb37 rfl) ?_
    obtain ⟨x38, h39, H⟩ := bind_some H
    have g40 := lat_some h39
    refine Lst.run rfl rfl (by decide) (Ev.indexS (α := Bool) (xs := l31) rfl rfl Try.runUnderlying44 Try.sizeOf4 rfl (by decide) (Rd.own (i := 0) rfl rfl rfl) g40.1 g40.2.1) ?_
    obtain ⟨p41, h42, H⟩ := Let_some H
    refine Lst.storeS (i := 0) rfl rfl rfl rfl rfl Try.sizeOf4 (vs := [.bool true]) rfl rfl (by decide) rfl (xs' := encs p41) (by rw [← h42]; exact (Put.elemN (s := 1) (x := x38) rfl g40.2.2 (Put.here (vs := [.bool true]) rfl)).off (by omega)) (L' := (.own s22 4 1 (encs p41)) :: (.rows (α := Bool) 4 rs14) :: (.own s13 44 1 (encs rs14)) :: (.own s7 4 1 (encs r5)) :: (.blk b3 (enc (Vector.replicate 6 (0 : Int))) 23) :: (.blk b1 (enc a1) 23) :: L) rfl ?_
    refine Lst.nil ?_
    refine At.in_normal ?_
    refine At.then ?_
    refine Cd.as (e' := [(0, Sl.v s_a0), (4, .pointer (some ⟨b3, 0, none⟩)), (5, Sl.v s7), (6, Sl.v s13), (7, Sl.v s22), (8, .int .i64 (i26 : Int)), (18, .int .i64 (a0.length : Int)), (19, .int .i64 (i26 : Int)), (23, .int .i64 (a0.length : Int)), (24, .int .i64 (i30 : Int))]) (L' := (.own s22 4 1 (encs p41)) :: (.rows (α := Bool) 4 rs14) :: (.own s13 44 1 (encs rs14)) :: (.own s7 4 1 (encs r5)) :: (.blk b3 (enc (Vector.replicate 6 (0 : Int))) 23) :: (.blk b1 (enc a1) 23) :: L) ⟨rfl, rfl, rfl, rfl, rfl, rfl, rfl, rfl, rfl, rfl, trivial⟩ rfl ?_
    refine Cd.region ?_
    refine Lst.run rfl rfl (by decide) (Ev.incr (by omega) rfl rfl) ?_
    refine Lst.run rfl rfl (by decide) (Ev.move rfl) ?_
    refine Lst.nil ?_
    exact At.meet (i30 + 1, k30, p41) hF33 ⟨rfl, rfl, rfl, rfl, rfl, rfl, rfl, rfl, rfl, rfl, trivial⟩ rfl ⟨⟨hgo30 _ (some_inj H).symm, by omega⟩, Nat.lt_succ_self _⟩
  replace H := ite_f hb37 H
  refine Lst.runG rfl rfl rfl hb37 rfl (by decide) (Ev.move rfl) ?_
  refine Lst.runG rfl rfl rfl hb37 rfl (by decide) (Ev.move rfl) ?_
  obtain ⟨x43, h44, H⟩ := bind_some H
  have g45 := lat_some h44
  refine Lst.runG rfl rfl rfl hb37 rfl (by decide) (Ev.indexS (α := Bool) (xs := r5) rfl rfl Try.runUnderlying44 Try.sizeOf4 rfl (by decide) (Rd.own (i := 3) rfl rfl rfl) g45.1 g45.2.1) ?_
  refine Lst.runG rfl rfl rfl hb37 rfl (by decide) (Ev.loadS (α := Bool) rfl (Rd.own (i := 3) rfl rfl rfl) Try.isAgg4 (v := .bool x43) ((Get.elemN (s := 1) (x := x43) rfl g45.2.2 (Get.here _)).off (by omega))) ?_
  refine Lst.runG rfl rfl rfl hb37 rfl (by decide) (Ev.move rfl) ?_
  obtain ⟨o46, H, HKo46⟩ := bind_some H
  refine Lst.join (σ := Bool) 8 (fun y47 => [(0, Sl.v s_a0), (4, .pointer (some ⟨b3, 0, none⟩)), (5, Sl.v s7), (6, Sl.v s13), (7, Sl.v s22), (8, .int .i64 (i26 : Int)), (18, .int .i64 (a0.length : Int)), (19, .int .i64 (i26 : Int)), (23, .int .i64 (a0.length : Int)), (24, .int .i64 (i30 : Int)), (27, Sl.v s22), (28, .int .i64 (i26 : Int)), (33, .bool x34), (46, .bool y47)]) (fun y47 => (.own s22 4 1 (encs l31)) :: (.rows (α := Bool) 4 rs14) :: (.own s13 44 1 (encs rs14)) :: (.own s7 4 1 (encs r5)) :: (.blk b3 (enc (Vector.replicate 6 (0 : Int))) 23) :: (.blk b1 (enc a1) 23) :: L) (fun _ y47 => y47 = o46) ?_ ?_
  · rcases (Bool.eq_false_or_eq_true x43).symm with hb48 | hb48
    · replace H := ite_f hb48 H
      refine Lst.skip rfl rfl rfl hb48 rfl (by decide) ?_
      refine Lst.skip rfl rfl rfl hb48 rfl (by decide) ?_
      refine Lst.skip rfl rfl rfl hb48 rfl (by decide) ?_
      refine Lst.skip rfl rfl rfl hb48 rfl (by decide) ?_
      refine Lst.skip rfl rfl rfl hb48 rfl (by decide) ?_
      refine Lst.skip rfl rfl rfl hb48 rfl (by decide) ?_
      refine Lst.skip rfl rfl rfl hb48 rfl (by decide) ?_
      refine Lst.runG rfl rfl rfl hb37 rfl (by decide) (Ev.pickF rfl hb48 rfl) ?_
      refine Lst.nil ?_
      exact At.meet false (FLe.refl _) ⟨rfl, rfl, rfl, rfl, rfl, rfl, rfl, rfl, rfl, rfl, rfl, rfl, rfl, rfl, trivial⟩ rfl (some_inj H)
    replace H := ite_t hb48 H
    refine Lst.runG rfl rfl rfl hb48 rfl (by decide) (Ev.move rfl) ?_
    refine Lst.runG rfl rfl rfl hb48 rfl (by decide) (Ev.move rfl) ?_
    obtain ⟨x49, h50, H⟩ := bind_some H
    have g51 := lat_some h50
    obtain ⟨⟨r52v, r52h⟩, r52g, r52e, r52m⟩ := map_get fm15 g51.2.2
    obtain rfl : x49 = r52v := r52e.symm
    have hh53 := row_h r52g
    refine Lst.runG rfl rfl rfl hb48 rfl (by decide) (Ev.indexS (α := LR Bool) (xs := rs14) rfl rfl Try.runUnderlying42 Try.sizeOf44 rfl (by decide) (Rd.own (i := 2) rfl rfl rfl) g51.1 (by have := map_len fm15; omega)) ?_
    refine Lst.runG rfl rfl rfl hb48 rfl (by decide) (Ev.loadS (α := LR Bool) rfl (Rd.own (i := 2) rfl rfl rfl) Try.isAgg44 (v := Sl.v r52h) ((Get.elemN (s := 1) rfl r52g (Get.here _)).off (by omega))) ?_
    refine Lst.runG rfl rfl rfl hb48 rfl (by decide) (Ev.move rfl) ?_
    obtain ⟨x54, h55, H⟩ := bind_some H
    have g56 := lat_some h55
    refine Lst.runG rfl rfl rfl hb48 rfl (by decide) (Ev.indexS (α := Bool) (xs := x49) rfl rfl Try.runUnderlying44 Try.sizeOf4 rfl (by decide) (Rd.row (j := 1) rfl r52g) g56.1 g56.2.1) ?_
    refine Lst.runG rfl rfl rfl hb48 rfl (by decide) (Ev.loadS (α := Bool) rfl (Rd.row (j := 1) rfl r52g) Try.isAgg4 (v := .bool x54) ((Get.elemN (s := 1) (x := x54) rfl g56.2.2 (Get.here _)).off (by omega))) ?_
    refine Lst.runG rfl rfl rfl hb37 rfl (by decide) (Ev.pickT rfl hb48 rfl) ?_
    refine Lst.nil ?_
    exact At.meet x54 (FLe.refl _) ⟨rfl, rfl, rfl, rfl, rfl, rfl, rfl, rfl, rfl, rfl, rfl, rfl, rfl, rfl, trivial⟩ rfl (some_inj H)
  rintro F57 y47 hF58 hy
  subst hy
  refine Lst.as (e' := [(0, Sl.v s_a0), (4, .pointer (some ⟨b3, 0, none⟩)), (5, Sl.v s7), (6, Sl.v s13), (7, Sl.v s22), (8, .int .i64 (i26 : Int)), (18, .int .i64 (a0.length : Int)), (19, .int .i64 (i26 : Int)), (23, .int .i64 (a0.length : Int)), (24, .int .i64 (i30 : Int)), (27, Sl.v s22), (28, .int .i64 (i26 : Int)), (33, .bool x34), (46, .bool y47)]) (L' := (.own s22 4 1 (encs l31)) :: (.rows (α := Bool) 4 rs14) :: (.own s13 44 1 (encs rs14)) :: (.own s7 4 1 (encs r5)) :: (.blk b3 (enc (Vector.replicate 6 (0 : Int))) 23) :: (.blk b1 (enc a1) 23) :: L) ⟨rfl, rfl, rfl, rfl, rfl, rfl, rfl, rfl, rfl, rfl, rfl, rfl, rfl, rfl, trivial⟩ rfl ?_
  replace H := HKo46
  refine Lst.run rfl rfl (by decide) (Ev.pickF rfl hb37 rfl) ?_
  obtain ⟨x59, h60, H⟩ := bind_some H
  have g61 := lat_some h60
  refine Lst.run rfl rfl (by decide) (Ev.indexS (α := Bool) (xs := l31) rfl rfl Try.runUnderlying44 Try.sizeOf4 rfl (by decide) (Rd.own (i := 0) rfl rfl rfl) g61.1 g61.2.1) ?_
  obtain ⟨p62, h63, H⟩ := Let_some H
  refine Lst.storeS (i := 0) rfl rfl rfl rfl rfl Try.sizeOf4 (vs := [.bool y47]) rfl rfl (by decide) rfl (xs' := encs p62) (by rw [← h63]; exact (Put.elemN (s := 1) (x := x59) rfl g61.2.2 (Put.here (vs := [.bool y47]) rfl)).off (by omega)) (L' := (.own s22 4 1 (encs p62)) :: (.rows (α := Bool) 4 rs14) :: (.own s13 44 1 (encs rs14)) :: (.own s7 4 1 (encs r5)) :: (.blk b3 (enc (Vector.replicate 6 (0 : Int))) 23) :: (.blk b1 (enc a1) 23) :: L) rfl ?_
  refine Lst.nil ?_
  refine At.in_normal ?_
  refine At.then ?_
  refine Cd.region ?_
  refine Lst.run rfl rfl (by decide) (Ev.incr (by omega) rfl rfl) ?_
  refine Lst.run rfl rfl (by decide) (Ev.move rfl) ?_
  refine Lst.nil ?_
  exact At.meet (i30 + 1, k30, p62) (FLe.trans hF33 hF58) ⟨rfl, rfl, rfl, rfl, rfl, rfl, rfl, rfl, rfl, rfl, trivial⟩ rfl ⟨⟨hgo30 _ (some_inj H).symm, by omega⟩, Nat.lt_succ_self _⟩
set_option maxRecDepth 20000 in
theorem partref_Shrink_sim {fu : Nat} {a0 : List Event} {a1 : Vector Int 6} {s_a0 : Sl} {r : (Vector Int 6)} (H : partref_Shrink fu a0 a1 = some r) (w0 : World) (F : Frz) (M L : List Item) (hM : M.Sublist L) (hs_a0 : Rd w0 F M s_a0 a0) : Ok Try.prog w0 34 [Sl.v s_a0, .agg (enc a1).toArray] F (L) (Is (.agg (enc r).toArray) (L)) := by
  unfold partref_Shrink at H
  refine Ok.enter (m := 2) (n := 55) Try.func34 rfl rfl rfl (by decide) ?_
  refine Cd.env (e' := [(0, Sl.v s_a0), (1, .agg (enc a1).toArray)]) rfl ?_
  refine Cd.seq ?_
  refine Cd.region ?_
  refine Lst.box rfl rfl (by decide) rfl (cs := enc a1) rfl (fun b1 => ?_)
  refine Lst.alloc (cs := enc (Vector.replicate 6 (0 : Int))) rfl rfl (by decide) Try.zeroValue23 rfl (fun b3 => ?_)
  refine Lst.nil ?_
  refine At.then ?_
  refine Cd.seq ?_
  refine Cd.region ?_
  refine Lst.run rfl rfl (by decide) (Ev.move rfl) ?_
  refine Lst.run rfl rfl (by decide) (Ev.loadA (i := 1) rfl rfl Try.isAgg23 Try.sizeOf23 (ch := enc a1) (Enc.len _) (Get.here _)) ?_
  obtain ⟨r5, h6, H⟩ := bind_some H
  refine Lst.call rfl rfl (by decide) (vs := [Sl.v s_a0, .agg (enc a1).toArray]) ⟨rfl, rfl, trivial⟩ Try.call58 (partref_inCut_sim h6 w0 _ M _ (List.Sublist.cons _ (List.Sublist.cons _ hM)) (hs_a0.mono (FLe.refl _) (List.Sublist.refl _))) (fun F9 L' v hF10 hv => ?_)
  obtain ⟨s7, rfl, rfl⟩ := hv
  refine Lst.run rfl rfl (by decide) (Ev.move rfl) ?_
  obtain ⟨r11, h12, H⟩ := bind_some H
  refine Lst.call rfl rfl (by decide) (vs := [Sl.v s_a0]) ⟨rfl, trivial⟩ Try.call23 (partref_Causes_sim h12 w0 _ M _ (List.Sublist.cons _ (List.Sublist.cons _ (List.Sublist.cons _ hM))) (hs_a0.mono hF10 (List.Sublist.refl _))) (fun F18 L' v hF19 hv => ?_)
  obtain ⟨s13, rs14, rfl, rfl, fm15⟩ := hv
  refine Lst.run rfl rfl (by decide) (Ev.assign rfl) ?_
  refine Lst.run rfl rfl (by decide) (Ev.assign rfl) ?_
  refine Lst.nil ?_
  refine At.then ?_
  refine Cd.seq ?_
  refine Cd.region ?_
  refine Lst.run rfl rfl (by decide) (Ev.move rfl) ?_
  obtain ⟨r20, h21, H⟩ := bind_some H
  refine Lst.call rfl rfl (by decide) (vs := [Sl.v s7]) ⟨rfl, trivial⟩ Try.call59 (slices_Clone_bool_bool_sim h21 w0 _ _ _ (List.Sublist.refl _) (Rd.own (i := 2) rfl rfl rfl)) (fun F24 L' v hF25 hv => ?_)
  obtain ⟨s22, rfl, rfl⟩ := hv
  refine Lst.run rfl rfl (by decide) (Ev.assign rfl) ?_
  refine Lst.nil ?_
  refine At.then ?_
  refine Cd.seq ?_
  refine Cd.seq ?_
  refine Cd.region ?_
  refine Lst.run rfl rfl (by decide) (Ev.move rfl) ?_
  refine Lst.run rfl rfl (by decide) (Ev.lenS (α := Event) (xs := a0) (by decide) rfl rfl Try.runUnderlying24 (hs_a0.mono (FLe.trans (FLe.trans hF10 hF19) hF25) (List.Sublist.cons _ (List.Sublist.cons _ (List.Sublist.cons _ (List.Sublist.cons _ (List.Sublist.cons _ (List.Sublist.cons _ hM)))))))) ?_
  refine Lst.run rfl rfl (by decide) (Ev.move rfl) ?_
  refine Lst.nil ?_
  refine At.then ?_
  refine Cd.block ?_
  refine Cd.bound (Rd.le (α := Event) (xs := a0) (by decide) (hs_a0.mono (FLe.trans (FLe.trans hF10 hF19) hF25) (List.Sublist.cons _ (List.Sublist.cons _ (List.Sublist.cons _ (List.Sublist.cons _ (List.Sublist.cons _ (List.Sublist.cons _ hM)))))))) (fun hN69 => ?_)
  obtain ⟨ol26, H, HKl26⟩ := bind_some H
  refine Cd.loop (σ := Nat × Nat × (List Bool)) (fun (i26, k26, l27) => [(0, Sl.v s_a0), (4, .pointer (some ⟨b3, 0, none⟩)), (5, Sl.v s7), (6, Sl.v s13), (7, Sl.v s22), (18, .int .i64 (a0.length : Int)), (19, .int .i64 (i26 : Int))]) (fun (i26, k26, l27) => (.own s22 4 1 (encs l27)) :: (.rows (α := Bool) 4 rs14) :: (.own s13 44 1 (encs rs14)) :: (.own s7 4 1 (encs r5)) :: (.blk b3 (enc (Vector.replicate 6 (0 : Int))) 23) :: (.blk b1 (enc a1) 23) :: L) (fun _ => (fun (i26, k26, l27) => rangeF (partref_Shrink_B0 a0 r5 r11) k26 i26 l27 = some ol26 ∧ i26 + k26 = a0.length)) (fun (i26, k26, l27) => k26) (0, a0.length, r20) ⟨rfl, rfl, rfl, rfl, rfl, rfl, rfl, trivial⟩ rfl ⟨H, by omega⟩ ?_
  rintro F28 ⟨i26, k26, l27⟩ hF29 ⟨H, hik26⟩
  refine Cd.as (e' := [(0, Sl.v s_a0), (4, .pointer (some ⟨b3, 0, none⟩)), (5, Sl.v s7), (6, Sl.v s13), (7, Sl.v s22), (18, .int .i64 (a0.length : Int)), (19, .int .i64 (i26 : Int))]) (L' := (.own s22 4 1 (encs l27)) :: (.rows (α := Bool) 4 rs14) :: (.own s13 44 1 (encs rs14)) :: (.own s7 4 1 (encs r5)) :: (.blk b3 (enc (Vector.replicate 6 (0 : Int))) 23) :: (.blk b1 (enc a1) 23) :: L) ⟨rfl, rfl, rfl, rfl, rfl, rfl, rfl, trivial⟩ rfl ?_
  rcases k26 with _ | k26
  · have hc26 : decide ((i26 : Int) < (a0.length : Int)) = false := decide_eq_false (by omega)
    replace H := rangeF_end H
    refine Cd.seq ?_
    refine Cd.region ?_
    refine Lst.run rfl rfl (by decide) (Ev.lss rfl rfl) ?_
    refine Lst.nil ?_
    refine At.then ?_
    refine Cd.seq ?_
    refine Cd.condF rfl hc26 ?_
    refine Cd.exit ?_
    refine At.then_exit ?_
    refine At.then_exit ?_
    refine At.in_exit ?_
    subst H
    replace H := HKl26
    refine At.then ?_
    refine Cd.seq ?_
    refine Cd.region ?_
    refine Lst.run rfl rfl (by decide) (Ev.move rfl) ?_
    refine Lst.run rfl rfl (by decide) (Ev.move rfl) ?_
    obtain ⟨r65, h66, H⟩ := bind_some H
    refine Lst.call1 rfl rfl (by decide) (vs := [Sl.v s_a0, Sl.v s22]) ⟨rfl, rfl, trivial⟩ Try.call60 (partref_cutOf_sim h66 w0 _ _ _ (List.Sublist.refl _) (hs_a0.mono (FLe.trans (FLe.trans (FLe.trans hF10 hF19) hF25) hF29) (List.Sublist.cons _ (List.Sublist.cons _ (List.Sublist.cons _ (List.Sublist.cons _ (List.Sublist.cons _ (List.Sublist.cons _ hM))))))) (Rd.own (i := 0) rfl rfl rfl)) ?_
    refine Lst.store (i := 4) rfl rfl rfl rfl rfl Try.sizeOf23 (vs := enc r65) rfl (Enc.len _) (Enc.one _) (cs' := enc r65) (Put.here ((Enc.len _).trans (Enc.len _).symm)) (L' := (.own s22 4 1 (encs l27)) :: (.rows (α := Bool) 4 rs14) :: (.own s13 44 1 (encs rs14)) :: (.own s7 4 1 (encs r5)) :: (.blk b3 (enc r65) 23) :: (.blk b1 (enc a1) 23) :: L) rfl ?_
    refine Lst.nil ?_
    refine At.then ?_
    obtain rfl := some_inj H
    refine Cd.ret ?_
    exact At.ret1 rfl (Res.cellA (i := 4) rfl rfl Try.isAgg23 Try.sizeOf23 (Enc.len _)) (FLe.trans (FLe.trans (FLe.trans hF10 hF19) hF25) hF29) (List.Sublist.cons _ (List.Sublist.cons _ (List.Sublist.cons _ (List.Sublist.cons _ (List.Sublist.cons _ (List.Sublist.cons _ (List.Sublist.refl _))))))) ⟨rfl, rfl⟩
  have hc26 : decide ((i26 : Int) < (a0.length : Int)) = true := decide_eq_true (by omega)
  obtain ⟨c26, H, hgo26⟩ := rangeF_go H
  unfold partref_Shrink_B0 at H
  try dsimp only at H
  refine Cd.seq ?_
  refine Cd.region ?_
  refine Lst.run rfl rfl (by decide) (Ev.lss rfl rfl) ?_
  refine Lst.nil ?_
  refine At.then ?_
  refine Cd.seq ?_
  refine Cd.condT rfl hc26 ?_
  refine Cd.skip ?_
  refine At.then ?_
  refine Cd.seq ?_
  refine Cd.block ?_
  refine Cd.seq ?_
  refine Cd.region ?_
  refine Lst.run rfl rfl (by decide) (Ev.move rfl) ?_
  refine Lst.run rfl rfl (by decide) (Ev.assign rfl) ?_
  refine Lst.nil ?_
  refine At.then ?_
  refine Cd.seq ?_
  refine Cd.region ?_
  refine Lst.run rfl rfl (by decide) (Ev.move rfl) ?_
  refine Lst.run rfl rfl (by decide) (Ev.lenS (α := Event) (xs := a0) (by decide) rfl rfl Try.runUnderlying24 (hs_a0.mono (FLe.trans (FLe.trans (FLe.trans hF10 hF19) hF25) hF29) (List.Sublist.cons _ (List.Sublist.cons _ (List.Sublist.cons _ (List.Sublist.cons _ (List.Sublist.cons _ (List.Sublist.cons _ hM)))))))) ?_
  refine Lst.run rfl rfl (by decide) (Ev.move rfl) ?_
  refine Lst.nil ?_
  refine At.then ?_
  refine Cd.block ?_
  refine Cd.bound (Rd.le (α := Event) (xs := a0) (by decide) (hs_a0.mono (FLe.trans (FLe.trans (FLe.trans hF10 hF19) hF25) hF29) (List.Sublist.cons _ (List.Sublist.cons _ (List.Sublist.cons _ (List.Sublist.cons _ (List.Sublist.cons _ (List.Sublist.cons _ hM)))))))) (fun hN64 => ?_)
  obtain ⟨ol30, H, HKl30⟩ := bind_some H
  refine Cd.loop (σ := Nat × Nat × (List Bool)) (fun (i30, k30, l31) => [(0, Sl.v s_a0), (4, .pointer (some ⟨b3, 0, none⟩)), (5, Sl.v s7), (6, Sl.v s13), (7, Sl.v s22), (8, .int .i64 (i26 : Int)), (18, .int .i64 (a0.length : Int)), (19, .int .i64 (i26 : Int)), (23, .int .i64 (a0.length : Int)), (24, .int .i64 (i30 : Int))]) (fun (i30, k30, l31) => (.own s22 4 1 (encs l31)) :: (.rows (α := Bool) 4 rs14) :: (.own s13 44 1 (encs rs14)) :: (.own s7 4 1 (encs r5)) :: (.blk b3 (enc (Vector.replicate 6 (0 : Int))) 23) :: (.blk b1 (enc a1) 23) :: L) (fun _ => (fun (i30, k30, l31) => rangeF (partref_Shrink_B2 r5 r11 i26) k30 i30 l31 = some ol30 ∧ i30 + k30 = a0.length)) (fun (i30, k30, l31) => k30) (0, a0.length, l27) ⟨rfl, rfl, rfl, rfl, rfl, rfl, rfl, rfl, rfl, rfl, trivial⟩ rfl ⟨H, by omega⟩ ?_
  rintro F32 ⟨i30, k30, l31⟩ hF33 ⟨H, hik30⟩
  refine Cd.as (e' := [(0, Sl.v s_a0), (4, .pointer (some ⟨b3, 0, none⟩)), (5, Sl.v s7), (6, Sl.v s13), (7, Sl.v s22), (8, .int .i64 (i26 : Int)), (18, .int .i64 (a0.length : Int)), (19, .int .i64 (i26 : Int)), (23, .int .i64 (a0.length : Int)), (24, .int .i64 (i30 : Int))]) (L' := (.own s22 4 1 (encs l31)) :: (.rows (α := Bool) 4 rs14) :: (.own s13 44 1 (encs rs14)) :: (.own s7 4 1 (encs r5)) :: (.blk b3 (enc (Vector.replicate 6 (0 : Int))) 23) :: (.blk b1 (enc a1) 23) :: L) ⟨rfl, rfl, rfl, rfl, rfl, rfl, rfl, rfl, rfl, rfl, trivial⟩ rfl ?_
  rcases k30 with _ | k30
  · have hc30 : decide ((i30 : Int) < (a0.length : Int)) = false := decide_eq_false (by omega)
    replace H := rangeF_end H
    refine Cd.seq ?_
    refine Cd.region ?_
    refine Lst.run rfl rfl (by decide) (Ev.lss rfl rfl) ?_
    refine Lst.nil ?_
    refine At.then ?_
    refine Cd.seq ?_
    refine Cd.condF rfl hc30 ?_
    refine Cd.exit ?_
    refine At.then_exit ?_
    refine At.then_exit ?_
    refine At.in_exit ?_
    subst H
    replace H := HKl30
    refine At.in_normal ?_
    refine At.then ?_
    refine Cd.region ?_
    refine Lst.run rfl rfl (by decide) (Ev.incr (by omega) rfl rfl) ?_
    refine Lst.run rfl rfl (by decide) (Ev.move rfl) ?_
    refine Lst.nil ?_
    exact At.meet (i26 + 1, k26, l31) (FLe.trans hF29 hF33) ⟨rfl, rfl, rfl, rfl, rfl, rfl, rfl, trivial⟩ rfl ⟨⟨hgo26 _ (some_inj H).symm, by omega⟩, Nat.lt_succ_self _⟩
  have hc30 : decide ((i30 : Int) < (a0.length : Int)) = true := decide_eq_true (by omega)
  obtain ⟨c30, H, hgo30⟩ := rangeF_go H
  unfold partref_Shrink_B2 at H
  try dsimp only at H
  refine Cd.seq ?_
  refine Cd.region ?_
  refine Lst.run rfl rfl (by decide) (Ev.lss rfl rfl) ?_
  refine Lst.nil ?_
  refine At.then ?_
  refine Cd.seq ?_
  refine Cd.condT rfl hc30 ?_
  refine Cd.skip ?_
  refine At.then ?_
  refine Cd.seq ?_
  refine Cd.block ?_
  refine Cd.seq ?_
  refine Cd.region ?_
  refine Lst.run rfl rfl (by decide) (Ev.move rfl) ?_
  refine Lst.run rfl rfl (by decide) (Ev.assign rfl) ?_
  refine Lst.nil ?_
  refine At.then ?_
  refine Cd.region ?_
  refine Lst.run rfl rfl (by decide) (Ev.move rfl) ?_
  refine Lst.run rfl rfl (by decide) (Ev.move rfl) ?_
  refine Lst.run rfl rfl (by decide) (Ev.move rfl) ?_
  refine Lst.run rfl rfl (by decide) (Ev.move rfl) ?_
  obtain ⟨x34, h35, H⟩ := bind_some H
  have g36 := lat_some h35
  refine Lst.run rfl rfl (by decide) (Ev.indexS (α := Bool) (xs := l31) rfl rfl Try.runUnderlying44 Try.sizeOf4 rfl (by decide) (Rd.own (i := 0) rfl rfl rfl) g36.1 g36.2.1) ?_
  refine Lst.run rfl rfl (by decide) (Ev.loadS (α := Bool) rfl (Rd.own (i := 0) rfl rfl rfl) Try.isAgg4 (v := .bool x34) ((Get.elemN (s := 1) (x := x34) rfl g36.2.2 (Get.here _)).off (by omega))) ?_
  refine Lst.run rfl rfl (by decide) (Ev.move rfl) ?_
  rcases (Bool.eq_false_or_eq_true x34).symm with hb37 | hb37
  · replace H := ite_f hb37 H
    refine Lst.skip rfl rfl rfl hb37 rfl (by decide) ?_
    refine Lst.skip rfl rfl rfl hb37 rfl (by decide) ?_
    refine Lst.skip rfl rfl rfl hb37 rfl (by decide) ?_
    refine Lst.skip rfl rfl rfl hb37 rfl (by decide) ?_
    refine Lst.skip rfl rfl rfl hb37 rfl (by decide) ?_
    refine Lst.skipU rfl rfl rfl rfl (by decide) ?_
    refine Lst.skipU rfl rfl rfl rfl (by decide) ?_
    refine Lst.skipU rfl rfl rfl rfl (by decide) ?_
    refine Lst.skipU rfl rfl rfl rfl (by decide) ?_
    refine Lst.skipU rfl rfl rfl rfl (by decide) ?_
    refine Lst.skipU rfl rfl rfl rfl (by decide) ?_
    refine Lst.skipU rfl rfl rfl rfl (by decide) ?_
    refine Lst.skipU rfl rfl rfl rfl (by decide) ?_
    refine Lst.skip rfl rfl rfl hb37 rfl (by decide) ?_
    refine Lst.run rfl rfl (by decide) (Ev.pickF rfl hb37 rfl) ?_
    obtain ⟨x38, h39, H⟩ := bind_some H
    have g40 := lat_some h39
    refine Lst.run rfl rfl (by decide) (Ev.indexS (α := Bool) (xs := l31) rfl rfl Try.runUnderlying44 Try.sizeOf4 rfl (by decide) (Rd.own (i := 0) rfl rfl rfl) g40.1 g40.2.1) ?_
    obtain ⟨p41, h42, H⟩ := Let_some H
    refine Lst.storeS (i := 0) rfl rfl rfl rfl rfl Try.sizeOf4 (vs := [.bool false]) rfl rfl (by decide) rfl (xs' := encs p41) (by rw [← h42]; exact (Put.elemN (s := 1) (x := x38) rfl g40.2.2 (Put.here (vs := [.bool false]) rfl)).off (by omega)) (L' := (.own s22 4 1 (encs p41)) :: (.rows (α := Bool) 4 rs14) :: (.own s13 44 1 (encs rs14)) :: (.own s7 4 1 (encs r5)) :: (.blk b3 (enc (Vector.replicate 6 (0 : Int))) 23) :: (.blk b1 (enc a1) 23) :: L) rfl ?_
    refine Lst.nil ?_
    refine At.in_normal ?_
    refine At.then ?_
    refine Cd.as (e' := [(0, Sl.v s_a0), (4, .pointer (some ⟨b3, 0, none⟩)), (5, Sl.v s7), (6, Sl.v s13), (7, Sl.v s22), (8, .int .i64 (i26 : Int)), (18, .int .i64 (a0.length : Int)), (19, .int .i64 (i26 : Int)), (23, .int .i64 (a0.length : Int)), (24, .int .i64 (i30 : Int))]) (L' := (.own s22 4 1 (encs p41)) :: (.rows (α := Bool) 4 rs14) :: (.own s13 44 1 (encs rs14)) :: (.own s7 4 1 (encs r5)) :: (.blk b3 (enc (Vector.replicate 6 (0 : Int))) 23) :: (.blk b1 (enc a1) 23) :: L) ⟨rfl, rfl, rfl, rfl, rfl, rfl, rfl, rfl, rfl, rfl, trivial⟩ rfl ?_
    refine Cd.region ?_
    refine Lst.run rfl rfl (by decide) (Ev.incr (by omega) rfl rfl) ?_
    refine Lst.run rfl rfl (by decide) (Ev.move rfl) ?_
    refine Lst.nil ?_
    exact At.meet (i30 + 1, k30, p41) hF33 ⟨rfl, rfl, rfl, rfl, rfl, rfl, rfl, rfl, rfl, rfl, trivial⟩ rfl ⟨⟨hgo30 _ (some_inj H).symm, by omega⟩, Nat.lt_succ_self _⟩
  replace H := ite_t hb37 H
  refine Lst.runG rfl rfl rfl hb37 rfl (by decide) (Ev.move rfl) ?_
  refine Lst.runG rfl rfl rfl hb37 rfl (by decide) (Ev.move rfl) ?_
  obtain ⟨x43, h44, H⟩ := bind_some H
  have g45 := lat_some h44
  refine Lst.runG rfl rfl rfl hb37 rfl (by decide) (Ev.indexS (α := Bool) (xs := r5) rfl rfl Try.runUnderlying44 Try.sizeOf4 rfl (by decide) (Rd.own (i := 3) rfl rfl rfl) g45.1 g45.2.1) ?_
  refine Lst.runG rfl rfl rfl hb37 rfl (by decide) (Ev.loadS (α := Bool) rfl (Rd.own (i := 3) rfl rfl rfl) Try.isAgg4 (v := .bool x43) ((Get.elemN (s := 1) (x := x43) rfl g45.2.2 (Get.here _)).off (by omega))) ?_
  refine Lst.runG rfl rfl rfl hb37 rfl (by decide) (Ev.move rfl) ?_
  obtain ⟨o46, H, HKo46⟩ := bind_some H
  refine Lst.join (σ := Bool) 9 (fun y47 => [(0, Sl.v s_a0), (4, .pointer (some ⟨b3, 0, none⟩)), (5, Sl.v s7), (6, Sl.v s13), (7, Sl.v s22), (8, .int .i64 (i26 : Int)), (18, .int .i64 (a0.length : Int)), (19, .int .i64 (i26 : Int)), (23, .int .i64 (a0.length : Int)), (24, .int .i64 (i30 : Int)), (27, Sl.v s22), (28, .int .i64 (i26 : Int)), (33, .bool x34), (47, .bool y47)]) (fun y47 => (.own s22 4 1 (encs l31)) :: (.rows (α := Bool) 4 rs14) :: (.own s13 44 1 (encs rs14)) :: (.own s7 4 1 (encs r5)) :: (.blk b3 (enc (Vector.replicate 6 (0 : Int))) 23) :: (.blk b1 (enc a1) 23) :: L) (fun _ y47 => y47 = o46) ?_ ?_
  · rcases Bool.eq_false_or_eq_true x43 with hb48 | hb48
    · replace H := ite_t hb48 H
      refine Lst.skip rfl rfl rfl hb48 rfl (by decide) ?_
      refine Lst.skip rfl rfl rfl hb48 rfl (by decide) ?_
      refine Lst.skip rfl rfl rfl hb48 rfl (by decide) ?_
      refine Lst.skip rfl rfl rfl hb48 rfl (by decide) ?_
      refine Lst.skip rfl rfl rfl hb48 rfl (by decide) ?_
      refine Lst.skip rfl rfl rfl hb48 rfl (by decide) ?_
      refine Lst.skip rfl rfl rfl hb48 rfl (by decide) ?_
      refine Lst.skip rfl rfl rfl hb48 rfl (by decide) ?_
      refine Lst.runG rfl rfl rfl hb37 rfl (by decide) (Ev.pickT rfl hb48 rfl) ?_
      refine Lst.nil ?_
      exact At.meet true (FLe.refl _) ⟨rfl, rfl, rfl, rfl, rfl, rfl, rfl, rfl, rfl, rfl, rfl, rfl, rfl, rfl, trivial⟩ rfl (some_inj H)
    replace H := ite_f hb48 H
    refine Lst.runG rfl rfl rfl hb48 rfl (by decide) (Ev.move rfl) ?_
    refine Lst.runG rfl rfl rfl hb48 rfl (by decide) (Ev.move rfl) ?_
    obtain ⟨x49, h50, H⟩ := bind_some H
    have g51 := lat_some h50
    obtain ⟨⟨r52v, r52h⟩, r52g, r52e, r52m⟩ := map_get fm15 g51.2.2
    obtain rfl : x49 = r52v := r52e.symm
    have hh53 := row_h r52g
    refine Lst.runG rfl rfl rfl hb48 rfl (by decide) (Ev.indexS (α := LR Bool) (xs := rs14) rfl rfl Try.runUnderlying42 Try.sizeOf44 rfl (by decide) (Rd.own (i := 2) rfl rfl rfl) g51.1 (by have := map_len fm15; omega)) ?_
    refine Lst.runG rfl rfl rfl hb48 rfl (by decide) (Ev.loadS (α := LR Bool) rfl (Rd.own (i := 2) rfl rfl rfl) Try.isAgg44 (v := Sl.v r52h) ((Get.elemN (s := 1) rfl r52g (Get.here _)).off (by omega))) ?_
    refine Lst.runG rfl rfl rfl hb48 rfl (by decide) (Ev.move rfl) ?_
    obtain ⟨x54, h55, H⟩ := bind_some H
    have g56 := lat_some h55
    refine Lst.runG rfl rfl rfl hb48 rfl (by decide) (Ev.indexS (α := Bool) (xs := x49) rfl rfl Try.runUnderlying44 Try.sizeOf4 rfl (by decide) (Rd.row (j := 1) rfl r52g) g56.1 g56.2.1) ?_
    refine Lst.runG rfl rfl rfl hb48 rfl (by decide) (Ev.loadS (α := Bool) rfl (Rd.row (j := 1) rfl r52g) Try.isAgg4 (v := .bool x54) ((Get.elemN (s := 1) (x := x54) rfl g56.2.2 (Get.here _)).off (by omega))) ?_
    refine Lst.runG rfl rfl rfl hb48 rfl (by decide) (Ev.not rfl) ?_
    refine Lst.runG rfl rfl rfl hb37 rfl (by decide) (Ev.pickF rfl hb48 rfl) ?_
    refine Lst.nil ?_
    exact At.meet (!x54) (FLe.refl _) ⟨rfl, rfl, rfl, rfl, rfl, rfl, rfl, rfl, rfl, rfl, rfl, rfl, rfl, rfl, trivial⟩ rfl (some_inj H)
  rintro F57 y47 hF58 hy
  subst hy
  refine Lst.as (e' := [(0, Sl.v s_a0), (4, .pointer (some ⟨b3, 0, none⟩)), (5, Sl.v s7), (6, Sl.v s13), (7, Sl.v s22), (8, .int .i64 (i26 : Int)), (18, .int .i64 (a0.length : Int)), (19, .int .i64 (i26 : Int)), (23, .int .i64 (a0.length : Int)), (24, .int .i64 (i30 : Int)), (27, Sl.v s22), (28, .int .i64 (i26 : Int)), (33, .bool x34), (47, .bool y47)]) (L' := (.own s22 4 1 (encs l31)) :: (.rows (α := Bool) 4 rs14) :: (.own s13 44 1 (encs rs14)) :: (.own s7 4 1 (encs r5)) :: (.blk b3 (enc (Vector.replicate 6 (0 : Int))) 23) :: (.blk b1 (enc a1) 23) :: L) ⟨rfl, rfl, rfl, rfl, rfl, rfl, rfl, rfl, rfl, rfl, rfl, rfl, rfl, rfl, trivial⟩ rfl ?_
  replace H := HKo46
  refine Lst.run rfl rfl (by decide) (Ev.pickT rfl hb37 rfl) ?_
  obtain ⟨x59, h60, H⟩ := bind_some H
  have g61 := lat_some h60
  refine Lst.run rfl rfl (by decide) (Ev.indexS (α := Bool) (xs := l31) rfl rfl Try.runUnderlying44 Try.sizeOf4 rfl (by decide) (Rd.own (i := 0) rfl rfl rfl) g61.1 g61.2.1) ?_
  obtain ⟨p62, h63, H⟩ := Let_some H
  refine Lst.storeS (i := 0) rfl rfl rfl rfl rfl Try.sizeOf4 (vs := [.bool y47]) rfl rfl (by decide) rfl (xs' := encs p62) (by rw [← h63]; exact (Put.elemN (s := 1) (x := x59) rfl g61.2.2 (Put.here (vs := [.bool y47]) rfl)).off (by omega)) (L' := (.own s22 4 1 (encs p62)) :: (.rows (α := Bool) 4 rs14) :: (.own s13 44 1 (encs rs14)) :: (.own s7 4 1 (encs r5)) :: (.blk b3 (enc (Vector.replicate 6 (0 : Int))) 23) :: (.blk b1 (enc a1) 23) :: L) rfl ?_
  refine Lst.nil ?_
  refine At.in_normal ?_
  refine At.then ?_
  refine Cd.region ?_
  refine Lst.run rfl rfl (by decide) (Ev.incr (by omega) rfl rfl) ?_
  refine Lst.run rfl rfl (by decide) (Ev.move rfl) ?_
  refine Lst.nil ?_
  exact At.meet (i30 + 1, k30, p62) (FLe.trans hF33 hF58) ⟨rfl, rfl, rfl, rfl, rfl, rfl, rfl, rfl, rfl, rfl, trivial⟩ rfl ⟨⟨hgo30 _ (some_inj H).symm, by omega⟩, Nat.lt_succ_self _⟩
set_option maxRecDepth 20000 in
theorem partlaw_CutSays_sim {fu : Nat} {a0 : List Event} {a1 : Vector Int 6} {s_a0 : Sl} {r : Bool} (H : partlaw_CutSays fu a0 a1 = some r) (w0 : World) (F : Frz) (M L : List Item) (hM : M.Sublist L) (hs_a0 : Rd w0 F M s_a0 a0) : Ok Try.prog w0 5 [Sl.v s_a0, .agg (enc a1).toArray] F (L) (Is (.bool r) (L)) := by
  unfold partlaw_CutSays at H
  refine Ok.enter (m := 2) (n := 102) Try.func5 rfl rfl rfl (by decide) ?_
  refine Cd.env (e' := [(0, Sl.v s_a0), (1, .agg (enc a1).toArray)]) rfl ?_
  refine Cd.seq ?_
  refine Cd.region ?_
  refine Lst.box rfl rfl (by decide) rfl (cs := enc a1) rfl (fun b1 => ?_)
  refine Lst.run rfl rfl (by decide) (Ev.assign rfl) ?_
  refine Lst.nil ?_
  refine At.then ?_
  refine Cd.seq ?_
  refine Cd.region ?_
  refine Lst.run rfl rfl (by decide) (Ev.move rfl) ?_
  refine Lst.run rfl rfl (by decide) (Ev.loadA (i := 0) rfl rfl Try.isAgg23 Try.sizeOf23 (ch := enc a1) (Enc.len _) (Get.here _)) ?_
  obtain ⟨r3, h4, H⟩ := bind_some H
  refine Lst.call1 rfl rfl (by decide) (vs := [Sl.v s_a0, .agg (enc a1).toArray]) ⟨rfl, rfl, trivial⟩ Try.call28 (partref_CutErr_sim h4 w0 _ M _ (List.Sublist.cons _ hM) (hs_a0.mono (FLe.refl _) (List.Sublist.refl _))) ?_
  refine Lst.run rfl rfl (by decide) (Ev.assign rfl) ?_
  refine Lst.nil ?_
  refine At.then ?_
  refine Cd.seq ?_
  refine Cd.region ?_
  refine Lst.run rfl rfl (by decide) (Ev.move rfl) ?_
  refine Lst.run rfl rfl (by decide) (Ev.loadA (i := 0) rfl rfl Try.isAgg23 Try.sizeOf23 (ch := enc a1) (Enc.len _) (Get.here _)) ?_
  obtain ⟨r7, h8, H⟩ := bind_some H
  refine Lst.call1 rfl rfl (by decide) (vs := [Sl.v s_a0, .agg (enc a1).toArray]) ⟨rfl, rfl, trivial⟩ Try.call29 (cut_Right_sim h8 w0 _ M _ (List.Sublist.cons _ hM) (hs_a0.mono (FLe.refl _) (List.Sublist.refl _))) ?_
  refine Lst.run rfl rfl (by decide) (Ev.move rfl) ?_
  refine Lst.run rfl rfl (by decide) (Ev.extract rfl rfl) ?_
  refine Lst.run rfl rfl (by decide) (Ev.extract rfl rfl) ?_
  refine Lst.run rfl rfl (by decide) (Ev.assign rfl) ?_
  refine Lst.run rfl rfl (by decide) (Ev.assign rfl) ?_
  refine Lst.nil ?_
  refine At.then ?_
  refine Cd.seq ?_
  refine Cd.region ?_
  refine Lst.run rfl rfl (by decide) (Ev.move rfl) ?_
  refine Lst.run rfl rfl (by decide) (Ev.loadA (i := 0) rfl rfl Try.isAgg23 Try.sizeOf23 (ch := enc a1) (Enc.len _) (Get.here _)) ?_
  obtain ⟨r11, h12, H⟩ := bind_some H
  refine Lst.call1 rfl rfl (by decide) (vs := [Sl.v s_a0, .agg (enc a1).toArray]) ⟨rfl, rfl, trivial⟩ Try.call30 (cut_Grow_sim h12 w0 _ M _ (List.Sublist.cons _ hM) (hs_a0.mono (FLe.refl _) (List.Sublist.refl _))) ?_
  refine Lst.run rfl rfl (by decide) (Ev.move rfl) ?_
  refine Lst.run rfl rfl (by decide) (Ev.extract rfl rfl) ?_
  refine Lst.run rfl rfl (by decide) (Ev.extract rfl rfl) ?_
  refine Lst.alloc (cs := enc (Vector.replicate 6 (0 : Int))) rfl rfl (by decide) Try.zeroValue23 rfl (fun b15 => ?_)
  refine Lst.store (i := 0) rfl rfl rfl rfl rfl Try.sizeOf23 (vs := enc r11.1) rfl (Enc.len _) (Enc.one _) (cs' := enc r11.1) (Put.here ((Enc.len _).trans (Enc.len _).symm)) (L' := (.blk b15 (enc r11.1) 23) :: (.blk b1 (enc a1) 23) :: L) rfl ?_
  refine Lst.run rfl rfl (by decide) (Ev.assign rfl) ?_
  refine Lst.nil ?_
  refine At.then ?_
  refine Cd.seq ?_
  refine Cd.as (e' := [(0, Sl.v s_a0), (3, .pointer (some ⟨b1, 0, none⟩)), (5, .int .i64 r3), (6, .bool r7.1), (7, .int .i64 r7.2), (8, .pointer (some ⟨b15, 0, none⟩)), (9, .int .i64 r11.2)]) (L' := (.blk b15 (enc r11.1) 23) :: (.blk b1 (enc a1) 23) :: L) ⟨rfl, rfl, rfl, rfl, rfl, rfl, rfl, trivial⟩ rfl ?_
  refine Cd.region ?_
  refine Lst.run rfl rfl (by decide) (Ev.move rfl) ?_
  refine Lst.run rfl rfl (by decide) (Ev.loadA (i := 1) rfl rfl Try.isAgg23 Try.sizeOf23 (ch := enc a1) (Enc.len _) (Get.here _)) ?_
  obtain ⟨r17, h18, H⟩ := bind_some H
  refine Lst.call1 rfl rfl (by decide) (vs := [Sl.v s_a0, .agg (enc a1).toArray]) ⟨rfl, rfl, trivial⟩ Try.call31 (cut_Shrink_sim h18 w0 _ M _ (List.Sublist.cons _ (List.Sublist.cons _ hM)) (hs_a0.mono (FLe.refl _) (List.Sublist.refl _))) ?_
  refine Lst.run rfl rfl (by decide) (Ev.move rfl) ?_
  refine Lst.run rfl rfl (by decide) (Ev.extract rfl rfl) ?_
  refine Lst.run rfl rfl (by decide) (Ev.extract rfl rfl) ?_
  refine Lst.alloc (cs := enc (Vector.replicate 6 (0 : Int))) rfl rfl (by decide) Try.zeroValue23 rfl (fun b21 => ?_)
  refine Lst.store (i := 0) rfl rfl rfl rfl rfl Try.sizeOf23 (vs := enc r17.1) rfl (Enc.len _) (Enc.one _) (cs' := enc r17.1) (Put.here ((Enc.len _).trans (Enc.len _).symm)) (L' := (.blk b21 (enc r17.1) 23) :: (.blk b15 (enc r11.1) 23) :: (.blk b1 (enc a1) 23) :: L) rfl ?_
  refine Lst.run rfl rfl (by decide) (Ev.assign rfl) ?_
  refine Lst.nil ?_
  refine At.then ?_
  refine Cd.seq ?_
  refine Cd.seq ?_
  refine Cd.region ?_
  refine Lst.run rfl rfl (by decide) (Ev.move rfl) ?_
  refine Lst.run rfl rfl (by decide) (Ev.loadA (i := 2) rfl rfl Try.isAgg23 Try.sizeOf23 (ch := enc a1) (Enc.len _) (Get.here _)) ?_
  obtain ⟨r23, h24, H⟩ := bind_some H
  refine Lst.call1 rfl rfl (by decide) (vs := [Sl.v s_a0, .agg (enc a1).toArray]) ⟨rfl, rfl, trivial⟩ Try.call32 (cut_Check_sim h24 w0 _ M _ (List.Sublist.cons _ (List.Sublist.cons _ (List.Sublist.cons _ hM))) (hs_a0.mono (FLe.refl _) (List.Sublist.refl _))) ?_
  refine Lst.run rfl rfl (by decide) (Ev.move rfl) ?_
  refine Lst.run rfl rfl (by decide) (Ev.neq rfl rfl) ?_
  refine Lst.nil ?_
  refine At.then ?_
  rcases Bool.eq_false_or_eq_true (r23 != r3) with hb27 | hb27
  · replace H := ite_t hb27 H
    refine Cd.condT rfl hb27 ?_
    refine Cd.seq ?_
    refine Cd.as (e' := []) (L' := (.blk b21 (enc r17.1) 23) :: (.blk b15 (enc r11.1) 23) :: (.blk b1 (enc a1) 23) :: L) trivial rfl ?_
    refine Cd.region ?_
    refine Lst.run rfl rfl (by decide) (Ev.assign rfl) ?_
    refine Lst.nil ?_
    refine At.then ?_
    obtain rfl := some_inj H
    refine Cd.ret ?_
    refine At.then_ret ?_
    exact At.ret1 rfl (Res.tmp rfl) (FLe.refl _) (List.Sublist.cons _ (List.Sublist.cons _ (List.Sublist.cons _ (List.Sublist.refl _)))) ⟨rfl, rfl⟩
  replace H := ite_f hb27 H
  refine Cd.condF rfl hb27 ?_
  refine Cd.skip ?_
  refine At.then ?_
  refine Cd.seq ?_
  refine Cd.region ?_
  refine Lst.run rfl rfl (by decide) (Ev.build (v := .agg (enc ((Vector.replicate 6 (0 : Int)) : Vector Int 6)).toArray) (pv := []) trivial (fun w => by kernel_rfl)) ?_
  refine Lst.alloc (cs := enc (Vector.replicate 6 (0 : Int))) rfl rfl (by decide) Try.zeroValue23 rfl (fun b28 => ?_)
  refine Lst.store (i := 0) rfl rfl rfl rfl rfl Try.sizeOf23 (vs := enc ((Vector.replicate 6 (0 : Int)) : Vector Int 6)) rfl (Enc.len _) (Enc.one _) (cs' := enc ((Vector.replicate 6 (0 : Int)) : Vector Int 6)) (Put.here ((Enc.len _).trans (Enc.len _).symm)) (L' := (.blk b28 (enc ((Vector.replicate 6 (0 : Int)) : Vector Int 6)) 23) :: (.blk b21 (enc r17.1) 23) :: (.blk b15 (enc r11.1) 23) :: (.blk b1 (enc a1) 23) :: L) rfl ?_
  refine Lst.nil ?_
  refine At.then ?_
  refine Cd.seq ?_
  refine Cd.seq ?_
  refine Cd.region ?_
  refine Lst.run rfl rfl (by decide) (Ev.move rfl) ?_
  refine Lst.run rfl rfl (by decide) (Ev.neq rfl rfl) ?_
  refine Lst.nil ?_
  refine At.then ?_
  rcases Bool.eq_false_or_eq_true (r3 != (0 : Int)) with hb30 | hb30
  · replace H := ite_t hb30 H
    refine Cd.condT rfl hb30 ?_
    refine Cd.seq ?_
    refine Cd.as (e' := [(5, .int .i64 r3), (6, .bool r7.1), (7, .int .i64 r7.2), (8, .pointer (some ⟨b15, 0, none⟩)), (9, .int .i64 r11.2), (10, .pointer (some ⟨b21, 0, none⟩)), (11, .int .i64 r17.2), (12, .pointer (some ⟨b28, 0, none⟩))]) (L' := (.blk b28 (enc ((Vector.replicate 6 (0 : Int)) : Vector Int 6)) 23) :: (.blk b21 (enc r17.1) 23) :: (.blk b15 (enc r11.1) 23) :: (.blk b1 (enc a1) 23) :: L) ⟨rfl, rfl, rfl, rfl, rfl, rfl, rfl, rfl, trivial⟩ rfl ?_
    refine Cd.region ?_
    refine Lst.run rfl rfl (by decide) (Ev.move rfl) ?_
    refine Lst.run rfl rfl (by decide) (Ev.not rfl) ?_
    refine Lst.run rfl rfl (by decide) (Ev.move rfl) ?_
    obtain ⟨o31, H, HKo31⟩ := bind_some H
    refine Lst.join (σ := Bool) 4 (fun y32 => [(5, .int .i64 r3), (8, .pointer (some ⟨b15, 0, none⟩)), (9, .int .i64 r11.2), (10, .pointer (some ⟨b21, 0, none⟩)), (11, .int .i64 r17.2), (12, .pointer (some ⟨b28, 0, none⟩)), (48, .bool y32)]) (fun y32 => (.blk b28 (enc ((Vector.replicate 6 (0 : Int)) : Vector Int 6)) 23) :: (.blk b21 (enc r17.1) 23) :: (.blk b15 (enc r11.1) 23) :: (.blk b1 (enc a1) 23) :: L) (fun _ y32 => y32 = o31) ?_ ?_
    · rcases (Bool.eq_false_or_eq_true (!r7.1)).symm with hb33 | hb33
      · replace H := ite_f hb33 H
        refine Lst.skip rfl rfl rfl hb33 rfl (by decide) ?_
        refine Lst.skip rfl rfl rfl hb33 rfl (by decide) ?_
        refine Lst.skip rfl rfl rfl hb33 rfl (by decide) ?_
        refine Lst.run rfl rfl (by decide) (Ev.pickF rfl hb33 rfl) ?_
        refine Lst.nil ?_
        exact At.meet false (FLe.refl _) ⟨rfl, rfl, rfl, rfl, rfl, rfl, rfl, trivial⟩ rfl (some_inj H)
      replace H := ite_t hb33 H
      refine Lst.runG rfl rfl rfl hb33 rfl (by decide) (Ev.move rfl) ?_
      refine Lst.runG rfl rfl rfl hb33 rfl (by decide) (Ev.move rfl) ?_
      refine Lst.runG rfl rfl rfl hb33 rfl (by decide) (Ev.eql rfl rfl) ?_
      refine Lst.run rfl rfl (by decide) (Ev.pickT rfl hb33 rfl) ?_
      refine Lst.nil ?_
      exact At.meet (r7.2 == r3) (FLe.refl _) ⟨rfl, rfl, rfl, rfl, rfl, rfl, rfl, trivial⟩ rfl (some_inj H)
    rintro F34 y32 hF35 hy
    subst hy
    refine Lst.as (e' := [(5, .int .i64 r3), (8, .pointer (some ⟨b15, 0, none⟩)), (9, .int .i64 r11.2), (10, .pointer (some ⟨b21, 0, none⟩)), (11, .int .i64 r17.2), (12, .pointer (some ⟨b28, 0, none⟩)), (48, .bool y32)]) (L' := (.blk b28 (enc ((Vector.replicate 6 (0 : Int)) : Vector Int 6)) 23) :: (.blk b21 (enc r17.1) 23) :: (.blk b15 (enc r11.1) 23) :: (.blk b1 (enc a1) 23) :: L) ⟨rfl, rfl, rfl, rfl, rfl, rfl, rfl, trivial⟩ rfl ?_
    replace H := HKo31
    refine Lst.run rfl rfl (by decide) (Ev.move rfl) ?_
    obtain ⟨o36, H, HKo36⟩ := bind_some H
    refine Lst.join (σ := Bool) 4 (fun y37 => [(5, .int .i64 r3), (9, .int .i64 r11.2), (10, .pointer (some ⟨b21, 0, none⟩)), (11, .int .i64 r17.2), (12, .pointer (some ⟨b28, 0, none⟩)), (53, .bool y37)]) (fun y37 => (.blk b28 (enc ((Vector.replicate 6 (0 : Int)) : Vector Int 6)) 23) :: (.blk b21 (enc r17.1) 23) :: (.blk b15 (enc r11.1) 23) :: (.blk b1 (enc a1) 23) :: L) (fun _ y37 => y37 = o36) ?_ ?_
    · rcases (Bool.eq_false_or_eq_true y32).symm with hb38 | hb38
      · replace H := ite_f hb38 H
        refine Lst.skip rfl rfl rfl hb38 rfl (by decide) ?_
        refine Lst.skip rfl rfl rfl hb38 rfl (by decide) ?_
        refine Lst.skip rfl rfl rfl hb38 rfl (by decide) ?_
        refine Lst.run rfl rfl (by decide) (Ev.pickF rfl hb38 rfl) ?_
        refine Lst.nil ?_
        exact At.meet false (FLe.refl _) ⟨rfl, rfl, rfl, rfl, rfl, rfl, trivial⟩ rfl (some_inj H)
      replace H := ite_t hb38 H
      refine Lst.runG rfl rfl rfl hb38 rfl (by decide) (Ev.loadA (i := 2) rfl rfl Try.isAgg23 Try.sizeOf23 (ch := enc r11.1) (Enc.len _) (Get.here _)) ?_
      refine Lst.runG rfl rfl rfl hb38 rfl (by decide) (Ev.loadA (i := 0) rfl rfl Try.isAgg23 Try.sizeOf23 (ch := enc ((Vector.replicate 6 (0 : Int)) : Vector Int 6)) (Enc.len _) (Get.here _)) ?_
      refine Lst.runG rfl rfl rfl hb38 rfl (by decide) (Ev.eqlA rfl rfl (by kernel_rfl) (eq23 _ _)) ?_
      refine Lst.run rfl rfl (by decide) (Ev.pickT rfl hb38 rfl) ?_
      refine Lst.nil ?_
      exact At.meet (decide (r11.1 = ((Vector.replicate 6 (0 : Int)) : Vector Int 6))) (FLe.refl _) ⟨rfl, rfl, rfl, rfl, rfl, rfl, trivial⟩ rfl (some_inj H)
    rintro F39 y37 hF40 hy
    subst hy
    refine Lst.as (e' := [(5, .int .i64 r3), (9, .int .i64 r11.2), (10, .pointer (some ⟨b21, 0, none⟩)), (11, .int .i64 r17.2), (12, .pointer (some ⟨b28, 0, none⟩)), (53, .bool y37)]) (L' := (.blk b28 (enc ((Vector.replicate 6 (0 : Int)) : Vector Int 6)) 23) :: (.blk b21 (enc r17.1) 23) :: (.blk b15 (enc r11.1) 23) :: (.blk b1 (enc a1) 23) :: L) ⟨rfl, rfl, rfl, rfl, rfl, rfl, trivial⟩ rfl ?_
    replace H := HKo36
    refine Lst.run rfl rfl (by decide) (Ev.move rfl) ?_
    obtain ⟨o41, H, HKo41⟩ := bind_some H
    refine Lst.join (σ := Bool) 4 (fun y42 => [(5, .int .i64 r3), (10, .pointer (some ⟨b21, 0, none⟩)), (11, .int .i64 r17.2), (12, .pointer (some ⟨b28, 0, none⟩)), (58, .bool y42)]) (fun y42 => (.blk b28 (enc ((Vector.replicate 6 (0 : Int)) : Vector Int 6)) 23) :: (.blk b21 (enc r17.1) 23) :: (.blk b15 (enc r11.1) 23) :: (.blk b1 (enc a1) 23) :: L) (fun _ y42 => y42 = o41) ?_ ?_
    · rcases (Bool.eq_false_or_eq_true y37).symm with hb43 | hb43
      · replace H := ite_f hb43 H
        refine Lst.skip rfl rfl rfl hb43 rfl (by decide) ?_
        refine Lst.skip rfl rfl rfl hb43 rfl (by decide) ?_
        refine Lst.skip rfl rfl rfl hb43 rfl (by decide) ?_
        refine Lst.run rfl rfl (by decide) (Ev.pickF rfl hb43 rfl) ?_
        refine Lst.nil ?_
        exact At.meet false (FLe.refl _) ⟨rfl, rfl, rfl, rfl, rfl, trivial⟩ rfl (some_inj H)
      replace H := ite_t hb43 H
      refine Lst.runG rfl rfl rfl hb43 rfl (by decide) (Ev.move rfl) ?_
      refine Lst.runG rfl rfl rfl hb43 rfl (by decide) (Ev.move rfl) ?_
      refine Lst.runG rfl rfl rfl hb43 rfl (by decide) (Ev.eql rfl rfl) ?_
      refine Lst.run rfl rfl (by decide) (Ev.pickT rfl hb43 rfl) ?_
      refine Lst.nil ?_
      exact At.meet (r11.2 == r3) (FLe.refl _) ⟨rfl, rfl, rfl, rfl, rfl, trivial⟩ rfl (some_inj H)
    rintro F44 y42 hF45 hy
    subst hy
    refine Lst.as (e' := [(5, .int .i64 r3), (10, .pointer (some ⟨b21, 0, none⟩)), (11, .int .i64 r17.2), (12, .pointer (some ⟨b28, 0, none⟩)), (58, .bool y42)]) (L' := (.blk b28 (enc ((Vector.replicate 6 (0 : Int)) : Vector Int 6)) 23) :: (.blk b21 (enc r17.1) 23) :: (.blk b15 (enc r11.1) 23) :: (.blk b1 (enc a1) 23) :: L) ⟨rfl, rfl, rfl, rfl, rfl, trivial⟩ rfl ?_
    replace H := HKo41
    refine Lst.run rfl rfl (by decide) (Ev.move rfl) ?_
    obtain ⟨o46, H, HKo46⟩ := bind_some H
    refine Lst.join (σ := Bool) 4 (fun y47 => [(5, .int .i64 r3), (11, .int .i64 r17.2), (63, .bool y47)]) (fun y47 => (.blk b28 (enc ((Vector.replicate 6 (0 : Int)) : Vector Int 6)) 23) :: (.blk b21 (enc r17.1) 23) :: (.blk b15 (enc r11.1) 23) :: (.blk b1 (enc a1) 23) :: L) (fun _ y47 => y47 = o46) ?_ ?_
    · rcases (Bool.eq_false_or_eq_true y42).symm with hb48 | hb48
      · replace H := ite_f hb48 H
        refine Lst.skip rfl rfl rfl hb48 rfl (by decide) ?_
        refine Lst.skip rfl rfl rfl hb48 rfl (by decide) ?_
        refine Lst.skip rfl rfl rfl hb48 rfl (by decide) ?_
        refine Lst.run rfl rfl (by decide) (Ev.pickF rfl hb48 rfl) ?_
        refine Lst.nil ?_
        exact At.meet false (FLe.refl _) ⟨rfl, rfl, rfl, trivial⟩ rfl (some_inj H)
      replace H := ite_t hb48 H
      refine Lst.runG rfl rfl rfl hb48 rfl (by decide) (Ev.loadA (i := 1) rfl rfl Try.isAgg23 Try.sizeOf23 (ch := enc r17.1) (Enc.len _) (Get.here _)) ?_
      refine Lst.runG rfl rfl rfl hb48 rfl (by decide) (Ev.loadA (i := 0) rfl rfl Try.isAgg23 Try.sizeOf23 (ch := enc ((Vector.replicate 6 (0 : Int)) : Vector Int 6)) (Enc.len _) (Get.here _)) ?_
      refine Lst.runG rfl rfl rfl hb48 rfl (by decide) (Ev.eqlA rfl rfl (by kernel_rfl) (eq23 _ _)) ?_
      refine Lst.run rfl rfl (by decide) (Ev.pickT rfl hb48 rfl) ?_
      refine Lst.nil ?_
      exact At.meet (decide (r17.1 = ((Vector.replicate 6 (0 : Int)) : Vector Int 6))) (FLe.refl _) ⟨rfl, rfl, rfl, trivial⟩ rfl (some_inj H)
    rintro F49 y47 hF50 hy
    subst hy
    refine Lst.as (e' := [(5, .int .i64 r3), (11, .int .i64 r17.2), (63, .bool y47)]) (L' := (.blk b28 (enc ((Vector.replicate 6 (0 : Int)) : Vector Int 6)) 23) :: (.blk b21 (enc r17.1) 23) :: (.blk b15 (enc r11.1) 23) :: (.blk b1 (enc a1) 23) :: L) ⟨rfl, rfl, rfl, trivial⟩ rfl ?_
    replace H := HKo46
    refine Lst.run rfl rfl (by decide) (Ev.move rfl) ?_
    obtain ⟨o51, H, HKo51⟩ := bind_some H
    refine Lst.join (σ := Bool) 4 (fun y52 => [(68, .bool y52)]) (fun y52 => (.blk b28 (enc ((Vector.replicate 6 (0 : Int)) : Vector Int 6)) 23) :: (.blk b21 (enc r17.1) 23) :: (.blk b15 (enc r11.1) 23) :: (.blk b1 (enc a1) 23) :: L) (fun _ y52 => y52 = o51) ?_ ?_
    · rcases (Bool.eq_false_or_eq_true y47).symm with hb53 | hb53
      · replace H := ite_f hb53 H
        refine Lst.skip rfl rfl rfl hb53 rfl (by decide) ?_
        refine Lst.skip rfl rfl rfl hb53 rfl (by decide) ?_
        refine Lst.skip rfl rfl rfl hb53 rfl (by decide) ?_
        refine Lst.run rfl rfl (by decide) (Ev.pickF rfl hb53 rfl) ?_
        refine Lst.nil ?_
        exact At.meet false (FLe.refl _) ⟨rfl, trivial⟩ rfl (some_inj H)
      replace H := ite_t hb53 H
      refine Lst.runG rfl rfl rfl hb53 rfl (by decide) (Ev.move rfl) ?_
      refine Lst.runG rfl rfl rfl hb53 rfl (by decide) (Ev.move rfl) ?_
      refine Lst.runG rfl rfl rfl hb53 rfl (by decide) (Ev.eql rfl rfl) ?_
      refine Lst.run rfl rfl (by decide) (Ev.pickT rfl hb53 rfl) ?_
      refine Lst.nil ?_
      exact At.meet (r17.2 == r3) (FLe.refl _) ⟨rfl, trivial⟩ rfl (some_inj H)
    rintro F54 y52 hF55 hy
    subst hy
    refine Lst.as (e' := [(68, .bool y52)]) (L' := (.blk b28 (enc ((Vector.replicate 6 (0 : Int)) : Vector Int 6)) 23) :: (.blk b21 (enc r17.1) 23) :: (.blk b15 (enc r11.1) 23) :: (.blk b1 (enc a1) 23) :: L) ⟨rfl, trivial⟩ rfl ?_
    replace H := HKo51
    refine Lst.run rfl rfl (by decide) (Ev.assign rfl) ?_
    refine Lst.nil ?_
    refine At.then ?_
    obtain rfl := some_inj H
    refine Cd.ret ?_
    refine At.then_ret ?_
    exact At.ret1 rfl (Res.tmp rfl) (FLe.trans (FLe.trans (FLe.trans (FLe.trans hF35 hF40) hF45) hF50) hF55) (List.Sublist.cons _ (List.Sublist.cons _ (List.Sublist.cons _ (List.Sublist.cons _ (List.Sublist.refl _))))) ⟨rfl, rfl⟩
  replace H := ite_f hb30 H
  refine Cd.condF rfl hb30 ?_
  refine Cd.skip ?_
  refine At.then ?_
  refine Cd.seq ?_
  refine Cd.as (e' := [(0, Sl.v s_a0), (3, .pointer (some ⟨b1, 0, none⟩)), (6, .bool r7.1), (7, .int .i64 r7.2), (8, .pointer (some ⟨b15, 0, none⟩)), (9, .int .i64 r11.2), (10, .pointer (some ⟨b21, 0, none⟩)), (11, .int .i64 r17.2)]) (L' := (.blk b28 (enc ((Vector.replicate 6 (0 : Int)) : Vector Int 6)) 23) :: (.blk b21 (enc r17.1) 23) :: (.blk b15 (enc r11.1) 23) :: (.blk b1 (enc a1) 23) :: L) ⟨rfl, rfl, rfl, rfl, rfl, rfl, rfl, rfl, trivial⟩ rfl ?_
  refine Cd.quiet (by kernel_rfl) (by kernel_rfl) ?_
  refine Qt.run rfl rfl (by decide) (Ev.move rfl) ?_
  refine Qt.run rfl rfl (by decide) (Ev.move rfl) ?_
  refine Qt.run rfl rfl (by decide) (Ev.loadA (i := 3) rfl rfl Try.isAgg23 Try.sizeOf23 (ch := enc a1) (Enc.len _) (Get.here _)) ?_
  obtain ⟨r56, h57, H⟩ := bind_some H
  refine Qt.call rfl rfl (by decide) (vs := [Sl.v s_a0, .agg (enc a1).toArray]) ⟨rfl, rfl, trivial⟩ Try.call33 (partref_Grow_sim h57 w0 _ M _ (List.Sublist.cons _ (List.Sublist.cons _ (List.Sublist.cons _ (List.Sublist.cons _ hM)))) (hs_a0.mono (FLe.refl _) (List.Sublist.refl _))) ?_
  refine Qt.run rfl rfl (by decide) (Ev.loadA (i := 3) rfl rfl Try.isAgg23 Try.sizeOf23 (ch := enc a1) (Enc.len _) (Get.here _)) ?_
  refine Qt.run rfl rfl (by decide) (Ev.eqlA rfl rfl (by kernel_rfl) (eq23 _ _)) ?_
  refine Qt.run rfl rfl (by decide) (Ev.eqlB rfl rfl Try.runUnderlying4) ?_
  refine Qt.run rfl rfl (by decide) (Ev.move rfl) ?_
  obtain ⟨o60, H, HKo60⟩ := bind_some H
  refine Qt.join (σ := Bool) 3 (fun y61 => [(0, Sl.v s_a0), (3, .pointer (some ⟨b1, 0, none⟩)), (8, .pointer (some ⟨b15, 0, none⟩)), (9, .int .i64 r11.2), (10, .pointer (some ⟨b21, 0, none⟩)), (11, .int .i64 r17.2), (79, .bool y61)]) (fun y61 => y61 = o60) ?_ ?_
  · rcases (Bool.eq_false_or_eq_true (r7.1 == (decide (r56 = a1)))).symm with hb62 | hb62
    · replace H := ite_f hb62 H
      refine Qt.skip rfl rfl rfl hb62 rfl (by decide) ?_
      refine Qt.skip rfl rfl rfl hb62 rfl (by decide) ?_
      refine Qt.run rfl rfl (by decide) (Ev.pickF rfl hb62 rfl) ?_
      exact Qt.meet false ⟨rfl, rfl, rfl, rfl, rfl, rfl, rfl, trivial⟩ (some_inj H)
    replace H := ite_t hb62 H
    refine Qt.runG rfl rfl rfl hb62 rfl (by decide) (Ev.move rfl) ?_
    refine Qt.runG rfl rfl rfl hb62 rfl (by decide) (Ev.eql rfl rfl) ?_
    refine Qt.run rfl rfl (by decide) (Ev.pickT rfl hb62 rfl) ?_
    exact Qt.meet (r7.2 == (0 : Int)) ⟨rfl, rfl, rfl, rfl, rfl, rfl, rfl, trivial⟩ (some_inj H)
  rintro y61 hy
  subst hy
  refine Qt.as (e' := [(0, Sl.v s_a0), (3, .pointer (some ⟨b1, 0, none⟩)), (8, .pointer (some ⟨b15, 0, none⟩)), (9, .int .i64 r11.2), (10, .pointer (some ⟨b21, 0, none⟩)), (11, .int .i64 r17.2), (79, .bool y61)]) ⟨rfl, rfl, rfl, rfl, rfl, rfl, rfl, trivial⟩ ?_
  replace H := HKo60
  refine Qt.run rfl rfl (by decide) (Ev.move rfl) ?_
  obtain ⟨o63, H, HKo63⟩ := bind_some H
  refine Qt.join (σ := Bool) 6 (fun y64 => [(0, Sl.v s_a0), (3, .pointer (some ⟨b1, 0, none⟩)), (9, .int .i64 r11.2), (10, .pointer (some ⟨b21, 0, none⟩)), (11, .int .i64 r17.2), (86, .bool y64)]) (fun y64 => y64 = o63) ?_ ?_
  · rcases (Bool.eq_false_or_eq_true y61).symm with hb65 | hb65
    · replace H := ite_f hb65 H
      refine Qt.skip rfl rfl rfl hb65 rfl (by decide) ?_
      refine Qt.skip rfl rfl rfl hb65 rfl (by decide) ?_
      refine Qt.skip rfl rfl rfl hb65 rfl (by decide) ?_
      refine Qt.skip rfl rfl rfl hb65 rfl (by decide) ?_
      refine Qt.skip rfl rfl rfl hb65 rfl (by decide) ?_
      refine Qt.run rfl rfl (by decide) (Ev.pickF rfl hb65 rfl) ?_
      exact Qt.meet false ⟨rfl, rfl, rfl, rfl, rfl, rfl, trivial⟩ (some_inj H)
    replace H := ite_t hb65 H
    refine Qt.runG rfl rfl rfl hb65 rfl (by decide) (Ev.loadA (i := 2) rfl rfl Try.isAgg23 Try.sizeOf23 (ch := enc r11.1) (Enc.len _) (Get.here _)) ?_
    refine Qt.runG rfl rfl rfl hb65 rfl (by decide) (Ev.move rfl) ?_
    refine Qt.runG rfl rfl rfl hb65 rfl (by decide) (Ev.loadA (i := 3) rfl rfl Try.isAgg23 Try.sizeOf23 (ch := enc a1) (Enc.len _) (Get.here _)) ?_
    obtain ⟨r66, h67, H⟩ := bind_some H
    refine Qt.callG rfl rfl rfl hb65 rfl (by decide) (vs := [Sl.v s_a0, .agg (enc a1).toArray]) ⟨rfl, rfl, trivial⟩ Try.call33 (partref_Grow_sim h67 w0 _ M _ (List.Sublist.cons _ (List.Sublist.cons _ (List.Sublist.cons _ (List.Sublist.cons _ hM)))) (hs_a0.mono (FLe.refl _) (List.Sublist.refl _))) ?_
    refine Qt.runG rfl rfl rfl hb65 rfl (by decide) (Ev.eqlA rfl rfl (by kernel_rfl) (eq23 _ _)) ?_
    refine Qt.run rfl rfl (by decide) (Ev.pickT rfl hb65 rfl) ?_
    exact Qt.meet (decide (r11.1 = r66)) ⟨rfl, rfl, rfl, rfl, rfl, rfl, trivial⟩ (some_inj H)
  rintro y64 hy
  subst hy
  refine Qt.as (e' := [(0, Sl.v s_a0), (3, .pointer (some ⟨b1, 0, none⟩)), (9, .int .i64 r11.2), (10, .pointer (some ⟨b21, 0, none⟩)), (11, .int .i64 r17.2), (86, .bool y64)]) ⟨rfl, rfl, rfl, rfl, rfl, rfl, trivial⟩ ?_
  replace H := HKo63
  refine Qt.run rfl rfl (by decide) (Ev.move rfl) ?_
  obtain ⟨o70, H, HKo70⟩ := bind_some H
  refine Qt.join (σ := Bool) 3 (fun y71 => [(0, Sl.v s_a0), (3, .pointer (some ⟨b1, 0, none⟩)), (10, .pointer (some ⟨b21, 0, none⟩)), (11, .int .i64 r17.2), (90, .bool y71)]) (fun y71 => y71 = o70) ?_ ?_
  · rcases (Bool.eq_false_or_eq_true y64).symm with hb72 | hb72
    · replace H := ite_f hb72 H
      refine Qt.skip rfl rfl rfl hb72 rfl (by decide) ?_
      refine Qt.skip rfl rfl rfl hb72 rfl (by decide) ?_
      refine Qt.run rfl rfl (by decide) (Ev.pickF rfl hb72 rfl) ?_
      exact Qt.meet false ⟨rfl, rfl, rfl, rfl, rfl, trivial⟩ (some_inj H)
    replace H := ite_t hb72 H
    refine Qt.runG rfl rfl rfl hb72 rfl (by decide) (Ev.move rfl) ?_
    refine Qt.runG rfl rfl rfl hb72 rfl (by decide) (Ev.eql rfl rfl) ?_
    refine Qt.run rfl rfl (by decide) (Ev.pickT rfl hb72 rfl) ?_
    exact Qt.meet (r11.2 == (0 : Int)) ⟨rfl, rfl, rfl, rfl, rfl, trivial⟩ (some_inj H)
  rintro y71 hy
  subst hy
  refine Qt.as (e' := [(0, Sl.v s_a0), (3, .pointer (some ⟨b1, 0, none⟩)), (10, .pointer (some ⟨b21, 0, none⟩)), (11, .int .i64 r17.2), (90, .bool y71)]) ⟨rfl, rfl, rfl, rfl, rfl, trivial⟩ ?_
  replace H := HKo70
  refine Qt.run rfl rfl (by decide) (Ev.move rfl) ?_
  obtain ⟨o73, H, HKo73⟩ := bind_some H
  refine Qt.join (σ := Bool) 6 (fun y74 => [(11, .int .i64 r17.2), (97, .bool y74)]) (fun y74 => y74 = o73) ?_ ?_
  · rcases (Bool.eq_false_or_eq_true y71).symm with hb75 | hb75
    · replace H := ite_f hb75 H
      refine Qt.skip rfl rfl rfl hb75 rfl (by decide) ?_
      refine Qt.skip rfl rfl rfl hb75 rfl (by decide) ?_
      refine Qt.skip rfl rfl rfl hb75 rfl (by decide) ?_
      refine Qt.skip rfl rfl rfl hb75 rfl (by decide) ?_
      refine Qt.skip rfl rfl rfl hb75 rfl (by decide) ?_
      refine Qt.run rfl rfl (by decide) (Ev.pickF rfl hb75 rfl) ?_
      exact Qt.meet false ⟨rfl, rfl, trivial⟩ (some_inj H)
    replace H := ite_t hb75 H
    refine Qt.runG rfl rfl rfl hb75 rfl (by decide) (Ev.loadA (i := 1) rfl rfl Try.isAgg23 Try.sizeOf23 (ch := enc r17.1) (Enc.len _) (Get.here _)) ?_
    refine Qt.runG rfl rfl rfl hb75 rfl (by decide) (Ev.move rfl) ?_
    refine Qt.runG rfl rfl rfl hb75 rfl (by decide) (Ev.loadA (i := 3) rfl rfl Try.isAgg23 Try.sizeOf23 (ch := enc a1) (Enc.len _) (Get.here _)) ?_
    obtain ⟨r76, h77, H⟩ := bind_some H
    refine Qt.callG rfl rfl rfl hb75 rfl (by decide) (vs := [Sl.v s_a0, .agg (enc a1).toArray]) ⟨rfl, rfl, trivial⟩ Try.call34 (partref_Shrink_sim h77 w0 _ M _ (List.Sublist.cons _ (List.Sublist.cons _ (List.Sublist.cons _ (List.Sublist.cons _ hM)))) (hs_a0.mono (FLe.refl _) (List.Sublist.refl _))) ?_
    refine Qt.runG rfl rfl rfl hb75 rfl (by decide) (Ev.eqlA rfl rfl (by kernel_rfl) (eq23 _ _)) ?_
    refine Qt.run rfl rfl (by decide) (Ev.pickT rfl hb75 rfl) ?_
    exact Qt.meet (decide (r17.1 = r76)) ⟨rfl, rfl, trivial⟩ (some_inj H)
  rintro y74 hy
  subst hy
  refine Qt.as (e' := [(11, .int .i64 r17.2), (97, .bool y74)]) ⟨rfl, rfl, trivial⟩ ?_
  replace H := HKo73
  refine Qt.run rfl rfl (by decide) (Ev.move rfl) ?_
  obtain ⟨o80, H, HKo80⟩ := bind_some H
  refine Qt.join (σ := Bool) 3 (fun y81 => [(101, .bool y81)]) (fun y81 => y81 = o80) ?_ ?_
  · rcases (Bool.eq_false_or_eq_true y74).symm with hb82 | hb82
    · replace H := ite_f hb82 H
      refine Qt.skip rfl rfl rfl hb82 rfl (by decide) ?_
      refine Qt.skip rfl rfl rfl hb82 rfl (by decide) ?_
      refine Qt.run rfl rfl (by decide) (Ev.pickF rfl hb82 rfl) ?_
      exact Qt.meet false ⟨rfl, trivial⟩ (some_inj H)
    replace H := ite_t hb82 H
    refine Qt.runG rfl rfl rfl hb82 rfl (by decide) (Ev.move rfl) ?_
    refine Qt.runG rfl rfl rfl hb82 rfl (by decide) (Ev.eql rfl rfl) ?_
    refine Qt.run rfl rfl (by decide) (Ev.pickT rfl hb82 rfl) ?_
    exact Qt.meet (r17.2 == (0 : Int)) ⟨rfl, trivial⟩ (some_inj H)
  rintro y81 hy
  subst hy
  refine Qt.as (e' := [(101, .bool y81)]) ⟨rfl, trivial⟩ ?_
  replace H := HKo80
  refine Qt.run rfl rfl (by decide) (Ev.assign rfl) ?_
  refine Qt.done ?_
  refine At.then ?_
  obtain rfl := some_inj H
  refine Cd.ret ?_
  exact At.ret1 rfl (Res.tmp rfl) (FLe.refl _) (List.Sublist.cons _ (List.Sublist.cons _ (List.Sublist.cons _ (List.Sublist.cons _ (List.Sublist.refl _))))) ⟨rfl, rfl⟩
end Go.Proofs.Ytclmlddmgccfjaa
