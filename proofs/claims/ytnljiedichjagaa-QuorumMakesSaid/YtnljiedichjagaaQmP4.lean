/-
  The functions compute their specs; printed by a program.
-/
import Derived.Test.YtnljiedichjagaaQmP3
namespace Go.Proofs.Ytnljiedichjagaa
open Go.RowKit Enc
set_option linter.unusedVariables false
set_option linter.unusedSimpArgs false
set_option maxRecDepth 20000 in
theorem slices_ContainsFunc_uint16_uint16_LeastSets_1_sim {a0 : List (BitVec 16)} {a1_c0 : BitVec 16} {s_a0 : Sl} {b_a1_c0 : Nat} {r : Bool} (H : slices_ContainsFunc_uint16_uint16_LeastSets_1 a0 a1_c0 = some r) (w0 : World) (F : Frz) (M L : List Item) (hM : M.Sublist L) (hs_a0 : Rd w0 F M s_a0 a0) : Ok Try.prog w0 14 [Sl.v s_a0, .func (.func 54) #[] #[.pointer (some ⟨b_a1_c0, 0, none⟩)]] F ((.blk b_a1_c0 (enc a1_c0) 23) :: L) (Is (.bool r) ((.blk b_a1_c0 (enc a1_c0) 23) :: L)) := by
  unfold slices_ContainsFunc_uint16_uint16_LeastSets_1 at H
  refine Ok.enter (m := 2) (n := 9) Try.func14 rfl rfl rfl (by decide) ?_
  refine Cd.env (e' := [(0, Sl.v s_a0), (1, .func (.func 54) #[] #[.pointer (some ⟨b_a1_c0, 0, none⟩)])]) rfl ?_
  refine Cd.seq ?_
  refine Cd.region ?_
  refine Lst.run rfl rfl (by decide) (Ev.assign rfl) ?_
  refine Lst.nil ?_
  refine At.then ?_
  refine Cd.seq ?_
  refine Cd.region ?_
  refine Lst.run rfl rfl (by decide) (Ev.move rfl) ?_
  refine Lst.run rfl rfl (by decide) (Ev.move rfl) ?_
  obtain ⟨r2, h3, H⟩ := bind_some H
  refine Lst.call1 rfl rfl (by decide) (vs := [Sl.v s_a0, .func (.func 54) #[] #[.pointer (some ⟨b_a1_c0, 0, none⟩)]]) ⟨rfl, rfl, trivial⟩ Try.call55 (slices_IndexFunc_uint16_uint16_LeastSets_1_sim h3 w0 _ M _ hM (hs_a0.mono (FLe.refl _) (List.Sublist.refl _))) ?_
  refine Lst.run rfl rfl (by decide) (Ev.geq rfl rfl) ?_
  refine Lst.run rfl rfl (by decide) (Ev.assign rfl) ?_
  refine Lst.nil ?_
  refine At.then ?_
  obtain rfl := some_inj H
  refine Cd.ret ?_
  exact At.ret1 rfl (Res.tmp rfl) (FLe.refl _) (List.Sublist.cons_cons _ (List.Sublist.refl _)) ⟨rfl, rfl⟩
set_option maxRecDepth 20000 in
theorem partref_LeastSets_QuorumMakes_1_sim {fu : Nat} {a0 : Int} {a1_c0 : List Int} {a1_c1 : Int} {b_a1_c0 : Nat} {s_a1_c0 : Sl} {b_a1_c1 : Nat} {r : (List (BitVec 16))} (H : partref_LeastSets_QuorumMakes_1 fu a0 a1_c0 a1_c1 = some r) (w0 : World) (F : Frz) (M L : List Item) (hM : M.Sublist L) (hs_a1_c0 : Rd w0 F M s_a1_c0 a1_c0) : Ok Try.prog w0 12 [.int .i64 a0, .func (.func 19) #[] #[.pointer (some ⟨b_a1_c0, 0, none⟩), .pointer (some ⟨b_a1_c1, 0, none⟩)]] F ((.blk b_a1_c0 (enc s_a1_c0) 36) :: (.blk b_a1_c1 (enc a1_c1) 3) :: L) (fun _ L' v => ∃ (s3 : Sl), v = Sl.v s3 ∧ L' = (.own s3 23 1 (encs r)) :: (.blk b_a1_c0 (enc s_a1_c0) 36) :: (.blk b_a1_c1 (enc a1_c1) 3) :: L) := by
  unfold partref_LeastSets_QuorumMakes_1 at H
  refine Ok.enter (m := 2) (n := 40) Try.func12 rfl rfl rfl (by decide) ?_
  refine Cd.env (e' := [(0, .int .i64 a0), (1, .func (.func 19) #[] #[.pointer (some ⟨b_a1_c0, 0, none⟩), .pointer (some ⟨b_a1_c1, 0, none⟩)])]) rfl ?_
  refine Cd.seq ?_
  refine Cd.region ?_
  refine Lst.addNil 23 1 ?_
  refine Lst.run rfl rfl (by decide) (Ev.assign rfl) ?_
  refine Lst.nil ?_
  refine At.then ?_
  refine Cd.seq ?_
  refine Cd.region ?_
  refine Lst.addNil 23 1 ?_
  refine Lst.run rfl rfl (by decide) (Ev.assign rfl) ?_
  refine Lst.nil ?_
  refine At.then ?_
  refine Cd.seq ?_
  refine Cd.seq ?_
  refine Cd.region ?_
  refine Lst.run rfl rfl (by decide) (Ev.move rfl) ?_
  refine Lst.run rfl rfl (by decide) (Ev.add rfl rfl) ?_
  refine Lst.run rfl rfl (by decide) (Ev.move rfl) ?_
  refine Lst.nil ?_
  refine At.then ?_
  refine Cd.block ?_
  obtain ⟨nn10, hN43, H⟩ := bind_some H
  replace hN43 := upTo_some hN43
  obtain ⟨ol5, H, HKl5⟩ := bind_some H
  refine Cd.loop (σ := Nat × Nat × Sl × (List (BitVec 16))) (fun (i5, k5, s6, l7) => [(0, .int .i64 a0), (1, .func (.func 19) #[] #[.pointer (some ⟨b_a1_c0, 0, none⟩), .pointer (some ⟨b_a1_c1, 0, none⟩)]), (5, Sl.v s6), (9, .int .i64 (w64 (a0 + (1 : Int)))), (10, .int .i64 (i5 : Int))]) (fun (i5, k5, s6, l7) => (.own s6 23 1 (encs l7)) :: (.own Sl.nil 23 1 (encs ([] : List (BitVec 16)))) :: (.blk b_a1_c0 (enc s_a1_c0) 36) :: (.blk b_a1_c1 (enc a1_c1) 3) :: L) (fun _ => (fun (i5, k5, s6, l7) => rangeF (partref_LeastSets_QuorumMakes_1_B0 fu a0 a1_c0 a1_c1) k5 i5 l7 = some ol5 ∧ i5 + k5 = nn10)) (fun (i5, k5, s6, l7) => k5) (0, nn10, Sl.nil, ([] : List (BitVec 16))) ⟨rfl, rfl, rfl, rfl, rfl, trivial⟩ rfl ⟨H, by omega⟩ ?_
  rintro F8 ⟨i5, k5, s6, l7⟩ hF9 ⟨H, hik5⟩
  refine Cd.as (e' := [(0, .int .i64 a0), (1, .func (.func 19) #[] #[.pointer (some ⟨b_a1_c0, 0, none⟩), .pointer (some ⟨b_a1_c1, 0, none⟩)]), (5, Sl.v s6), (9, .int .i64 (w64 (a0 + (1 : Int)))), (10, .int .i64 (i5 : Int))]) (L' := (.own s6 23 1 (encs l7)) :: (.own Sl.nil 23 1 (encs ([] : List (BitVec 16)))) :: (.blk b_a1_c0 (enc s_a1_c0) 36) :: (.blk b_a1_c1 (enc a1_c1) 3) :: L) ⟨rfl, rfl, rfl, rfl, rfl, trivial⟩ rfl ?_
  rcases k5 with _ | k5
  · have hc5 : decide ((i5 : Int) < (w64 (a0 + (1 : Int)))) = false := decide_eq_false (by omega)
    replace H := rangeF_end H
    refine Cd.seq ?_
    refine Cd.region ?_
    refine Lst.run rfl rfl (by decide) (Ev.lss rfl rfl) ?_
    refine Lst.nil ?_
    refine At.then ?_
    refine Cd.seq ?_
    refine Cd.condF rfl hc5 ?_
    refine Cd.exit ?_
    refine At.then_exit ?_
    refine At.then_exit ?_
    refine At.in_exit ?_
    subst H
    replace H := HKl5
    refine At.then ?_
    refine Cd.seq ?_
    refine Cd.region ?_
    refine Lst.run rfl rfl (by decide) (Ev.move rfl) ?_
    refine Lst.run rfl rfl (by decide) (Ev.assign rfl) ?_
    refine Lst.nil ?_
    refine At.then ?_
    obtain rfl := some_inj H
    refine Cd.ret ?_
    exact At.ret1 rfl (Res.tmp rfl) hF9 (List.Sublist.cons_cons _ (List.Sublist.cons _ (List.Sublist.cons_cons _ (List.Sublist.cons_cons _ (List.Sublist.refl _))))) ⟨s6, rfl, rfl⟩
  have hc5 : decide ((i5 : Int) < (w64 (a0 + (1 : Int)))) = true := decide_eq_true (by omega)
  obtain ⟨c5, H, hgo5⟩ := rangeF_go H
  unfold partref_LeastSets_QuorumMakes_1_B0 at H
  try dsimp only at H
  refine Cd.seq ?_
  refine Cd.region ?_
  refine Lst.run rfl rfl (by decide) (Ev.lss rfl rfl) ?_
  refine Lst.nil ?_
  refine At.then ?_
  refine Cd.seq ?_
  refine Cd.condT rfl hc5 ?_
  refine Cd.skip ?_
  refine At.then ?_
  refine Cd.seq ?_
  refine Cd.block ?_
  refine Cd.seq ?_
  refine Cd.region ?_
  refine Lst.run rfl rfl (by decide) (Ev.move rfl) ?_
  refine Lst.run rfl rfl (by decide) (Ev.assign rfl) ?_
  refine Lst.nil ?_
  refine At.then ?_
  refine Cd.seq ?_
  refine Cd.region ?_
  refine Lst.run rfl rfl (by decide) (Ev.move rfl) ?_
  obtain ⟨n11, h12, H⟩ := bind_some H
  refine Lst.run rfl rfl (by decide) (Ev.shlU16 (i := (1 : BitVec 16)) (m := n11) rfl (congrArg some (congrArg (Value.int .i64) (cnt_some h12)))) ?_
  refine Lst.run rfl rfl (by decide) (Ev.move rfl) ?_
  refine Lst.nil ?_
  refine At.then ?_
  refine Cd.block ?_
  obtain ⟨ol14, H, HKl14⟩ := andThen_some H
  refine Cd.loop (σ := Nat × (BitVec 16) × Sl × (List (BitVec 16))) (fun (k14, y15, s16, l17) => [(0, .int .i64 a0), (1, .func (.func 19) #[] #[.pointer (some ⟨b_a1_c0, 0, none⟩), .pointer (some ⟨b_a1_c1, 0, none⟩)]), (5, Sl.v s16), (6, .int .i64 (i5 : Int)), (9, .int .i64 (w64 (a0 + (1 : Int)))), (10, .int .i64 (i5 : Int)), (14, .int .u16 ((1 : BitVec 16) <<< n11).toNat), (15, .int .u16 y15.toNat)]) (fun (k14, y15, s16, l17) => (.own s16 23 1 (encs l17)) :: (.own Sl.nil 23 1 (encs ([] : List (BitVec 16)))) :: (.blk b_a1_c0 (enc s_a1_c0) 36) :: (.blk b_a1_c1 (enc a1_c1) 3) :: L) (fun _ => (fun (k14, y15, s16, l17) => whileM (partref_LeastSets_QuorumMakes_1_B2 fu a1_c0 a1_c1 i5 n11) k14 (y15, l17) = some ol14)) (fun (k14, y15, s16, l17) => k14) (fu, (0 : BitVec 16), s6, l7) ⟨rfl, rfl, rfl, rfl, rfl, rfl, rfl, rfl, trivial⟩ rfl H ?_
  rintro F18 ⟨k14, y15, s16, l17⟩ hF19 H
  refine Cd.as (e' := [(0, .int .i64 a0), (1, .func (.func 19) #[] #[.pointer (some ⟨b_a1_c0, 0, none⟩), .pointer (some ⟨b_a1_c1, 0, none⟩)]), (5, Sl.v s16), (6, .int .i64 (i5 : Int)), (9, .int .i64 (w64 (a0 + (1 : Int)))), (10, .int .i64 (i5 : Int)), (14, .int .u16 ((1 : BitVec 16) <<< n11).toNat), (15, .int .u16 y15.toNat)]) (L' := (.own s16 23 1 (encs l17)) :: (.own Sl.nil 23 1 (encs ([] : List (BitVec 16)))) :: (.blk b_a1_c0 (enc s_a1_c0) 36) :: (.blk b_a1_c1 (enc a1_c1) 3) :: L) ⟨rfl, rfl, rfl, rfl, rfl, rfl, rfl, rfl, trivial⟩ rfl ?_
  rcases k14 with _ | k14
  · cases H
  obtain ⟨c14, H, hgo14, hbrk14, hret14⟩ := whileM_go H
  unfold partref_LeastSets_QuorumMakes_1_B2 at H
  try dsimp only at H
  refine Cd.seq ?_
  refine Cd.region ?_
  refine Lst.run rfl rfl (by decide) (Ev.lss rfl rfl) ?_
  refine Lst.nil ?_
  refine At.then ?_
  refine Cd.seq ?_
  rcases (Bool.eq_false_or_eq_true (decide ((y15.toNat : Int) < (((1 : BitVec 16) <<< n11).toNat : Int)))).symm with hb20 | hb20
  · replace H := ite_f hb20 H
    refine Cd.condF rfl hb20 ?_
    refine Cd.exit ?_
    refine At.then_exit ?_
    refine At.then_exit ?_
    refine At.in_exit ?_
    have H := hbrk14 _ (some_inj H).symm
    subst H
    replace H := HKl14
    refine At.in_normal ?_
    refine At.then ?_
    refine Cd.region ?_
    refine Lst.run rfl rfl (by decide) (Ev.incr (by omega) rfl rfl) ?_
    refine Lst.run rfl rfl (by decide) (Ev.move rfl) ?_
    refine Lst.nil ?_
    exact At.meet (i5 + 1, k5, s16, l17) (FLe.trans hF9 hF19) ⟨rfl, rfl, rfl, rfl, rfl, trivial⟩ rfl ⟨⟨hgo5 _ (some_inj H).symm, by omega⟩, Nat.lt_succ_self _⟩
  replace H := ite_t hb20 H
  refine Cd.condT rfl hb20 ?_
  refine Cd.skip ?_
  refine At.then ?_
  refine Cd.seq ?_
  refine Cd.block ?_
  refine Cd.seq ?_
  refine Cd.region ?_
  refine Lst.run rfl rfl (by decide) (Ev.move rfl) ?_
  refine Lst.alloc (cs := enc (0 : BitVec 16)) rfl rfl (by decide) Try.zeroValue23 rfl (fun b21 => ?_)
  refine Lst.store (i := 0) rfl rfl rfl rfl rfl Try.sizeOf23 (vs := [.int .u16 y15.toNat]) rfl rfl rfl (cs' := enc y15) (Put.here (vs := [.int .u16 y15.toNat]) rfl) (L' := (.blk b21 (enc y15) 23) :: (.own s16 23 1 (encs l17)) :: (.own Sl.nil 23 1 (encs ([] : List (BitVec 16)))) :: (.blk b_a1_c0 (enc s_a1_c0) 36) :: (.blk b_a1_c1 (enc a1_c1) 3) :: L) rfl ?_
  refine Lst.nil ?_
  refine At.then ?_
  refine Cd.seq ?_
  refine Cd.region ?_
  refine Lst.run rfl rfl (by decide) (Ev.load (i := 0) rfl rfl Try.isAgg23 (v := .int .u16 y15.toNat) (Get.here _)) ?_
  obtain ⟨r23, h24, H⟩ := bind_some H
  refine Lst.call1 rfl rfl (by decide) (vs := [.int .u16 y15.toNat]) ⟨rfl, trivial⟩ Try.call45 (partref_size_sim h24 w0 _ M _ (List.Sublist.cons _ (List.Sublist.cons _ (List.Sublist.cons _ (List.Sublist.cons _ (List.Sublist.cons _ hM)))))) ?_
  refine Lst.run rfl rfl (by decide) (Ev.move rfl) ?_
  refine Lst.run rfl rfl (by decide) (Ev.eql rfl rfl) ?_
  refine Lst.run rfl rfl (by decide) (Ev.move rfl) ?_
  rcases (Bool.eq_false_or_eq_true (r23 == (i5 : Int))).symm with hb27 | hb27
  · replace H := ite_f hb27 H
    refine Lst.skip rfl rfl rfl hb27 rfl (by decide) ?_
    refine Lst.skip rfl rfl rfl hb27 rfl (by decide) ?_
    refine Lst.skip rfl rfl rfl hb27 rfl (by decide) ?_
    refine Lst.run rfl rfl (by decide) (Ev.pickF rfl hb27 rfl) ?_
    refine Lst.run rfl rfl (by decide) (Ev.move rfl) ?_
    refine Lst.skip rfl rfl rfl rfl rfl (by decide) ?_
    refine Lst.skip rfl rfl rfl rfl rfl (by decide) ?_
    refine Lst.skip rfl rfl rfl rfl rfl (by decide) ?_
    refine Lst.skip rfl rfl rfl rfl rfl (by decide) ?_
    refine Lst.run rfl rfl (by decide) (Ev.pickF rfl rfl rfl) ?_
    refine Lst.nil ?_
    refine At.then ?_
    refine Cd.condF rfl rfl ?_
    refine Cd.skip ?_
    refine At.in_normal ?_
    refine At.then ?_
    refine Cd.as (e' := [(0, .int .i64 a0), (1, .func (.func 19) #[] #[.pointer (some ⟨b_a1_c0, 0, none⟩), .pointer (some ⟨b_a1_c1, 0, none⟩)]), (5, Sl.v s16), (6, .int .i64 (i5 : Int)), (9, .int .i64 (w64 (a0 + (1 : Int)))), (10, .int .i64 (i5 : Int)), (14, .int .u16 ((1 : BitVec 16) <<< n11).toNat), (15, .int .u16 y15.toNat)]) (L' := (.blk b21 (enc y15) 23) :: (.own s16 23 1 (encs l17)) :: (.own Sl.nil 23 1 (encs ([] : List (BitVec 16)))) :: (.blk b_a1_c0 (enc s_a1_c0) 36) :: (.blk b_a1_c1 (enc a1_c1) 3) :: L) ⟨rfl, rfl, rfl, rfl, rfl, rfl, rfl, rfl, trivial⟩ rfl ?_
    refine Cd.region ?_
    refine Lst.run rfl rfl (by decide) (Ev.addU16 (i := y15) (j := (1 : BitVec 16)) rfl rfl) ?_
    refine Lst.run rfl rfl (by decide) (Ev.move rfl) ?_
    refine Lst.nil ?_
    refine At.less (L' := (.own s16 23 1 (encs l17)) :: (.own Sl.nil 23 1 (encs ([] : List (BitVec 16)))) :: (.blk b_a1_c0 (enc s_a1_c0) 36) :: (.blk b_a1_c1 (enc a1_c1) 3) :: L) (List.Sublist.cons _ (List.Sublist.cons_cons _ (List.Sublist.cons_cons _ (List.Sublist.cons_cons _ (List.Sublist.cons_cons _ (List.Sublist.refl _)))))) ?_
    exact At.meet (k14, y15 + (1 : BitVec 16), s16, l17) hF19 ⟨rfl, rfl, rfl, rfl, rfl, rfl, rfl, rfl, trivial⟩ rfl ⟨hgo14 _ (some_inj H).symm, Nat.lt_succ_self _⟩
  replace H := ite_t hb27 H
  refine Lst.runG rfl rfl rfl hb27 rfl (by decide) (Ev.move rfl) ?_
  refine Lst.runG rfl rfl rfl hb27 rfl (by decide) (Ev.load (i := 0) rfl rfl Try.isAgg23 (v := .int .u16 y15.toNat) (Get.here _)) ?_
  obtain ⟨r28, h29, H⟩ := bind_some H
  refine Lst.front (i := 4) rfl (L' := (.blk b_a1_c1 (enc a1_c1) 3) :: (.blk b21 (enc y15) 23) :: (.own s16 23 1 (encs l17)) :: (.own Sl.nil 23 1 (encs ([] : List (BitVec 16)))) :: (.blk b_a1_c0 (enc s_a1_c0) 36) :: L) rfl ?_
  refine Lst.front (i := 4) rfl (L' := (.blk b_a1_c0 (enc s_a1_c0) 36) :: (.blk b_a1_c1 (enc a1_c1) 3) :: (.blk b21 (enc y15) 23) :: (.own s16 23 1 (encs l17)) :: (.own Sl.nil 23 1 (encs ([] : List (BitVec 16)))) :: L) rfl ?_
  refine Lst.callV1G rfl rfl rfl hb27 rfl (by decide) (vs := [.int .u16 y15.toNat]) (cs := [.pointer (some ⟨b_a1_c0, 0, none⟩), .pointer (some ⟨b_a1_c1, 0, none⟩)]) rfl ⟨rfl, trivial⟩ Try.call19 (partlaw_QuorumMakes_1_sim h29 w0 _ M _ (List.Sublist.cons _ (List.Sublist.cons _ (List.Sublist.cons _ hM))) (hs_a1_c0.mono (FLe.trans hF9 hF19) (List.Sublist.refl _))) ?_
  refine Lst.run rfl rfl (by decide) (Ev.pickT rfl hb27 rfl) ?_
  refine Lst.run rfl rfl (by decide) (Ev.move rfl) ?_
  rcases (Bool.eq_false_or_eq_true r28).symm with hb32 | hb32
  · replace H := ite_f hb32 H
    refine Lst.skip rfl rfl rfl hb32 rfl (by decide) ?_
    refine Lst.skip rfl rfl rfl hb32 rfl (by decide) ?_
    refine Lst.skip rfl rfl rfl hb32 rfl (by decide) ?_
    refine Lst.skip rfl rfl rfl hb32 rfl (by decide) ?_
    refine Lst.run rfl rfl (by decide) (Ev.pickF rfl hb32 rfl) ?_
    refine Lst.nil ?_
    refine At.then ?_
    refine Cd.condF rfl rfl ?_
    refine Cd.skip ?_
    refine At.in_normal ?_
    refine At.then ?_
    refine Cd.as (e' := [(0, .int .i64 a0), (1, .func (.func 19) #[] #[.pointer (some ⟨b_a1_c0, 0, none⟩), .pointer (some ⟨b_a1_c1, 0, none⟩)]), (5, Sl.v s16), (6, .int .i64 (i5 : Int)), (9, .int .i64 (w64 (a0 + (1 : Int)))), (10, .int .i64 (i5 : Int)), (14, .int .u16 ((1 : BitVec 16) <<< n11).toNat), (15, .int .u16 y15.toNat)]) (L' := (.blk b_a1_c0 (enc s_a1_c0) 36) :: (.blk b_a1_c1 (enc a1_c1) 3) :: (.blk b21 (enc y15) 23) :: (.own s16 23 1 (encs l17)) :: (.own Sl.nil 23 1 (encs ([] : List (BitVec 16)))) :: L) ⟨rfl, rfl, rfl, rfl, rfl, rfl, rfl, rfl, trivial⟩ rfl ?_
    refine Cd.region ?_
    refine Lst.run rfl rfl (by decide) (Ev.addU16 (i := y15) (j := (1 : BitVec 16)) rfl rfl) ?_
    refine Lst.run rfl rfl (by decide) (Ev.move rfl) ?_
    refine Lst.nil ?_
    refine At.front (i := 1) rfl rfl ?_
    refine At.front (i := 1) rfl rfl ?_
    refine At.front (i := 4) rfl rfl ?_
    refine At.front (i := 4) rfl rfl ?_
    refine At.less (L' := (.own s16 23 1 (encs l17)) :: (.own Sl.nil 23 1 (encs ([] : List (BitVec 16)))) :: (.blk b_a1_c0 (enc s_a1_c0) 36) :: (.blk b_a1_c1 (enc a1_c1) 3) :: L) (List.Sublist.cons_cons _ (List.Sublist.cons_cons _ (List.Sublist.cons_cons _ (List.Sublist.cons_cons _ (List.Sublist.cons _ (List.Sublist.refl _)))))) ?_
    exact At.meet (k14, y15 + (1 : BitVec 16), s16, l17) hF19 ⟨rfl, rfl, rfl, rfl, rfl, rfl, rfl, rfl, trivial⟩ rfl ⟨hgo14 _ (some_inj H).symm, Nat.lt_succ_self _⟩
  replace H := ite_t hb32 H
  refine Lst.runG rfl rfl rfl hb32 rfl (by decide) (Ev.move rfl) ?_
  refine Lst.runG rfl rfl rfl hb32 rfl (by decide) (Ev.makeFunc (us := []) (vs := [.pointer (some ⟨b21, 0, none⟩)]) trivial ⟨rfl, trivial⟩) ?_
  obtain ⟨r33, h34, H⟩ := bind_some H
  refine Lst.front (i := 2) rfl (L' := (.blk b21 (enc y15) 23) :: (.blk b_a1_c0 (enc s_a1_c0) 36) :: (.blk b_a1_c1 (enc a1_c1) 3) :: (.own s16 23 1 (encs l17)) :: (.own Sl.nil 23 1 (encs ([] : List (BitVec 16)))) :: L) rfl ?_
  refine Lst.call1G rfl rfl rfl hb32 rfl (by decide) (vs := [Sl.v s16, .func (.func 54) #[] #[.pointer (some ⟨b21, 0, none⟩)]]) ⟨rfl, rfl, trivial⟩ Try.call14 (slices_ContainsFunc_uint16_uint16_LeastSets_1_sim h34 w0 _ _ _ (List.Sublist.refl _) (Rd.own (i := 2) rfl rfl rfl)) ?_
  refine Lst.runG rfl rfl rfl hb32 rfl (by decide) (Ev.not rfl) ?_
  refine Lst.run rfl rfl (by decide) (Ev.pickT rfl hb32 rfl) ?_
  refine Lst.nil ?_
  refine At.then ?_
  rcases (Bool.eq_false_or_eq_true (!r33)).symm with hb37 | hb37
  · replace H := ite_f hb37 H
    refine Cd.condF rfl hb37 ?_
    refine Cd.skip ?_
    refine At.in_normal ?_
    refine At.then ?_
    refine Cd.as (e' := [(0, .int .i64 a0), (1, .func (.func 19) #[] #[.pointer (some ⟨b_a1_c0, 0, none⟩), .pointer (some ⟨b_a1_c1, 0, none⟩)]), (5, Sl.v s16), (6, .int .i64 (i5 : Int)), (9, .int .i64 (w64 (a0 + (1 : Int)))), (10, .int .i64 (i5 : Int)), (14, .int .u16 ((1 : BitVec 16) <<< n11).toNat), (15, .int .u16 y15.toNat)]) (L' := (.blk b21 (enc y15) 23) :: (.blk b_a1_c0 (enc s_a1_c0) 36) :: (.blk b_a1_c1 (enc a1_c1) 3) :: (.own s16 23 1 (encs l17)) :: (.own Sl.nil 23 1 (encs ([] : List (BitVec 16)))) :: L) ⟨rfl, rfl, rfl, rfl, rfl, rfl, rfl, rfl, trivial⟩ rfl ?_
    refine Cd.region ?_
    refine Lst.run rfl rfl (by decide) (Ev.addU16 (i := y15) (j := (1 : BitVec 16)) rfl rfl) ?_
    refine Lst.run rfl rfl (by decide) (Ev.move rfl) ?_
    refine Lst.nil ?_
    refine At.front (i := 2) rfl rfl ?_
    refine At.front (i := 2) rfl rfl ?_
    refine At.front (i := 4) rfl rfl ?_
    refine At.front (i := 4) rfl rfl ?_
    refine At.less (L' := (.own s16 23 1 (encs l17)) :: (.own Sl.nil 23 1 (encs ([] : List (BitVec 16)))) :: (.blk b_a1_c0 (enc s_a1_c0) 36) :: (.blk b_a1_c1 (enc a1_c1) 3) :: L) (List.Sublist.cons_cons _ (List.Sublist.cons_cons _ (List.Sublist.cons_cons _ (List.Sublist.cons_cons _ (List.Sublist.cons _ (List.Sublist.refl _)))))) ?_
    exact At.meet (k14, y15 + (1 : BitVec 16), s16, l17) hF19 ⟨rfl, rfl, rfl, rfl, rfl, rfl, rfl, rfl, trivial⟩ rfl ⟨hgo14 _ (some_inj H).symm, Nat.lt_succ_self _⟩
  replace H := ite_t hb37 H
  refine Cd.condT rfl hb37 ?_
  refine Cd.as (e' := [(0, .int .i64 a0), (1, .func (.func 19) #[] #[.pointer (some ⟨b_a1_c0, 0, none⟩), .pointer (some ⟨b_a1_c1, 0, none⟩)]), (5, Sl.v s16), (6, .int .i64 (i5 : Int)), (9, .int .i64 (w64 (a0 + (1 : Int)))), (10, .int .i64 (i5 : Int)), (14, .int .u16 ((1 : BitVec 16) <<< n11).toNat), (15, .int .u16 y15.toNat), (7, .pointer (some ⟨b21, 0, none⟩))]) (L' := (.blk b21 (enc y15) 23) :: (.blk b_a1_c0 (enc s_a1_c0) 36) :: (.blk b_a1_c1 (enc a1_c1) 3) :: (.own s16 23 1 (encs l17)) :: (.own Sl.nil 23 1 (encs ([] : List (BitVec 16)))) :: L) ⟨rfl, rfl, rfl, rfl, rfl, rfl, rfl, rfl, rfl, trivial⟩ rfl ?_
  refine Cd.region ?_
  refine Lst.run rfl rfl (by decide) (Ev.move rfl) ?_
  refine Lst.run rfl rfl (by decide) (Ev.load (i := 0) rfl rfl Try.isAgg23 (v := .int .u16 y15.toNat) (Get.here _)) ?_
  refine Lst.buildSlice (α := BitVec 16) (xs := ([y15] : List (BitVec 16))) (pv := [(0, .int .u16 y15.toNat)]) rfl rfl (by decide) ⟨rfl, rfl, trivial⟩ (run_buildSlice (α := BitVec 16) (z0 := (0 : BitVec 16)) (xs := ([y15] : List (BitVec 16))) Try.runUnderlying22 Try.sizeOf23 Try.zeroValue23 rfl rfl rfl (by decide) rfl (fill_cons (cs := encs (List.replicate 1 (0 : BitVec 16))) (cs' := encs ((List.replicate 1 (0 : BitVec 16)).set 0 y15)) (vs := [.int .u16 y15.toNat]) rfl rfl rfl ((Put.elemN (s := 1) (i := 0) (x := (0 : BitVec 16)) (y := y15) rfl rfl (Put.here (vs := [.int .u16 y15.toNat]) rfl)).off rfl) fill_nil)) rfl rfl (by decide) (fun s38 _ => ?_)
  obtain ⟨u40, h41, H⟩ := bind_some H
  refine Lst.append (i := 4) (α := BitVec 16) (xs := l17) (ys := ([y15] : List (BitVec 16))) rfl rfl (by decide) rfl rfl Try.runUnderlying22 Try.typeInfo23 rfl rfl rfl rfl rfl rfl (Rd.own (i := 0) rfl rfl rfl) rfl (room_some h41) rfl (fun s42 => ?_)
  refine Lst.its (L' := (.own s38 23 1 (encs ([y15] : List (BitVec 16)))) :: (.blk b21 (enc y15) 23) :: (.blk b_a1_c0 (enc s_a1_c0) 36) :: (.blk b_a1_c1 (enc a1_c1) 3) :: (.own s42 23 1 (encs (l17 ++ ([y15] : List (BitVec 16))))) :: (.own Sl.nil 23 1 (encs ([] : List (BitVec 16)))) :: L) rfl ?_
  refine Lst.run rfl rfl (by decide) (Ev.assign rfl) ?_
  refine Lst.nil ?_
  refine At.in_normal ?_
  refine At.then ?_
  refine Cd.region ?_
  refine Lst.run rfl rfl (by decide) (Ev.addU16 (i := y15) (j := (1 : BitVec 16)) rfl rfl) ?_
  refine Lst.run rfl rfl (by decide) (Ev.move rfl) ?_
  refine Lst.nil ?_
  refine At.front (i := 3) rfl rfl ?_
  refine At.front (i := 3) rfl rfl ?_
  refine At.front (i := 5) rfl rfl ?_
  refine At.front (i := 5) rfl rfl ?_
  refine At.less (L' := (.own s42 23 1 (encs (l17 ++ ([y15] : List (BitVec 16))))) :: (.own Sl.nil 23 1 (encs ([] : List (BitVec 16)))) :: (.blk b_a1_c0 (enc s_a1_c0) 36) :: (.blk b_a1_c1 (enc a1_c1) 3) :: L) (List.Sublist.cons_cons _ (List.Sublist.cons_cons _ (List.Sublist.cons_cons _ (List.Sublist.cons_cons _ (List.Sublist.cons _ (List.Sublist.cons _ (List.Sublist.refl _))))))) ?_
  exact At.meet (k14, y15 + (1 : BitVec 16), s42, l17 ++ ([y15] : List (BitVec 16))) hF19 ⟨rfl, rfl, rfl, rfl, rfl, rfl, rfl, rfl, trivial⟩ rfl ⟨hgo14 _ (some_inj H).symm, Nat.lt_succ_self _⟩
set_option maxRecDepth 20000 in
theorem slices_Equal_uint16_uint16_sim {a0 : List (BitVec 16)} {a1 : List (BitVec 16)} {s_a0 : Sl} {s_a1 : Sl} {r : Bool} (H : slices_Equal_uint16_uint16 a0 a1 = some r) (w0 : World) (F : Frz) (M L : List Item) (hM : M.Sublist L) (hs_a0 : Rd w0 F M s_a0 a0) (hs_a1 : Rd w0 F M s_a1 a1) : Ok Try.prog w0 16 [Sl.v s_a0, Sl.v s_a1] F (L) (Is (.bool r) (L)) := by
  unfold slices_Equal_uint16_uint16 at H
  refine Ok.enter (m := 2) (n := 26) Try.func16 rfl rfl rfl (by decide) ?_
  refine Cd.env (e' := [(0, Sl.v s_a0), (1, Sl.v s_a1)]) rfl ?_
  refine Cd.seq ?_
  refine Cd.region ?_
  refine Lst.run rfl rfl (by decide) (Ev.assign rfl) ?_
  refine Lst.nil ?_
  refine At.then ?_
  refine Cd.seq ?_
  refine Cd.seq ?_
  refine Cd.region ?_
  refine Lst.run rfl rfl (by decide) (Ev.move rfl) ?_
  refine Lst.run rfl rfl (by decide) (Ev.lenS (α := BitVec 16) (xs := a0) (by decide) rfl rfl Try.runUnderlying22 (hs_a0.mono (FLe.refl _) hM)) ?_
  refine Lst.run rfl rfl (by decide) (Ev.move rfl) ?_
  refine Lst.run rfl rfl (by decide) (Ev.lenS (α := BitVec 16) (xs := a1) (by decide) rfl rfl Try.runUnderlying22 (hs_a1.mono (FLe.refl _) hM)) ?_
  refine Lst.run rfl rfl (by decide) (Ev.neq rfl rfl) ?_
  refine Lst.nil ?_
  refine At.then ?_
  rcases Bool.eq_false_or_eq_true ((a0.length : Int) != (a1.length : Int)) with hb1 | hb1
  · replace H := ite_t hb1 H
    refine Cd.condT rfl hb1 ?_
    refine Cd.seq ?_
    refine Cd.region ?_
    refine Lst.run rfl rfl (by decide) (Ev.assign rfl) ?_
    refine Lst.nil ?_
    refine At.then ?_
    obtain rfl := some_inj H
    refine Cd.ret ?_
    refine At.then_ret ?_
    exact At.ret1 rfl (Res.tmp rfl) (FLe.refl _) (List.Sublist.refl _) ⟨rfl, rfl⟩
  replace H := ite_f hb1 H
  refine Cd.condF rfl hb1 ?_
  refine Cd.skip ?_
  refine At.then ?_
  refine Cd.seq ?_
  refine Cd.seq ?_
  refine Cd.region ?_
  refine Lst.run rfl rfl (by decide) (Ev.move rfl) ?_
  refine Lst.run rfl rfl (by decide) (Ev.lenS (α := BitVec 16) (xs := a0) (by decide) rfl rfl Try.runUnderlying22 (hs_a0.mono (FLe.refl _) hM)) ?_
  refine Lst.run rfl rfl (by decide) (Ev.move rfl) ?_
  refine Lst.nil ?_
  refine At.then ?_
  refine Cd.block ?_
  refine Cd.bound (Rd.le (α := BitVec 16) (xs := a0) (by decide) (hs_a0.mono (FLe.refl _) hM)) (fun hN12 => ?_)
  obtain ⟨ol2, H, HKl2⟩ := andThen_some H
  refine Cd.loop (σ := Nat × Nat × Unit) (fun (i2, k2, _u) => [(0, Sl.v s_a0), (1, Sl.v s_a1), (12, .int .i64 (a0.length : Int)), (13, .int .i64 (i2 : Int))]) (fun (i2, k2, _u) => L) (fun _ => (fun (i2, k2, _u) => rangeM (slices_Equal_uint16_uint16_B0 a0 a1) k2 i2 () = some ol2 ∧ i2 + k2 = a0.length)) (fun (i2, k2, _u) => k2) (0, a0.length, ()) ⟨rfl, rfl, rfl, rfl, trivial⟩ rfl ⟨H, by omega⟩ ?_
  rintro F3 ⟨i2, k2, _u⟩ hF4 ⟨H, hik2⟩
  refine Cd.as (e' := [(0, Sl.v s_a0), (1, Sl.v s_a1), (12, .int .i64 (a0.length : Int)), (13, .int .i64 (i2 : Int))]) (L' := L) ⟨rfl, rfl, rfl, rfl, trivial⟩ rfl ?_
  rcases k2 with _ | k2
  · have hc2 : decide ((i2 : Int) < (a0.length : Int)) = false := decide_eq_false (by omega)
    replace H := rangeM_end H
    refine Cd.seq ?_
    refine Cd.region ?_
    refine Lst.run rfl rfl (by decide) (Ev.lss rfl rfl) ?_
    refine Lst.nil ?_
    refine At.then ?_
    refine Cd.seq ?_
    refine Cd.condF rfl hc2 ?_
    refine Cd.exit ?_
    refine At.then_exit ?_
    refine At.then_exit ?_
    refine At.in_exit ?_
    subst H
    replace H := HKl2
    refine At.then ?_
    refine Cd.seq ?_
    refine Cd.region ?_
    refine Lst.run rfl rfl (by decide) (Ev.assign rfl) ?_
    refine Lst.nil ?_
    refine At.then ?_
    obtain rfl := some_inj H
    refine Cd.ret ?_
    exact At.ret1 rfl (Res.tmp rfl) hF4 (List.Sublist.refl _) ⟨rfl, rfl⟩
  have hc2 : decide ((i2 : Int) < (a0.length : Int)) = true := decide_eq_true (by omega)
  obtain ⟨c2, H, hgo2, hbrk2, hret2⟩ := rangeM_go H
  unfold slices_Equal_uint16_uint16_B0 at H
  try dsimp only at H
  refine Cd.seq ?_
  refine Cd.region ?_
  refine Lst.run rfl rfl (by decide) (Ev.lss rfl rfl) ?_
  refine Lst.nil ?_
  refine At.then ?_
  refine Cd.seq ?_
  refine Cd.condT rfl hc2 ?_
  refine Cd.skip ?_
  refine At.then ?_
  refine Cd.seq ?_
  refine Cd.block ?_
  refine Cd.seq ?_
  refine Cd.region ?_
  refine Lst.run rfl rfl (by decide) (Ev.move rfl) ?_
  refine Lst.run rfl rfl (by decide) (Ev.assign rfl) ?_
  refine Lst.nil ?_
  refine At.then ?_
  refine Cd.seq ?_
  refine Cd.quiet (by kernel_rfl) (by kernel_rfl) ?_
  refine Qt.run rfl rfl (by decide) (Ev.move rfl) ?_
  refine Qt.run rfl rfl (by decide) (Ev.move rfl) ?_
  obtain ⟨x5, h6, H⟩ := bind_some H
  have g7 := lat_some h6
  refine Qt.run rfl rfl (by decide) (Ev.indexS (α := BitVec 16) (xs := a0) rfl rfl Try.runUnderlying22 Try.sizeOf23 rfl (by decide) (hs_a0.mono hF4 hM) g7.1 g7.2.1) ?_
  refine Qt.run rfl rfl (by decide) (Ev.loadS (α := BitVec 16) rfl (hs_a0.mono hF4 hM) Try.isAgg23 (v := .int .u16 x5.toNat) ((Get.elemN (s := 1) (x := x5) rfl g7.2.2 (Get.here _)).off (by omega))) ?_
  refine Qt.run rfl rfl (by decide) (Ev.move rfl) ?_
  refine Qt.run rfl rfl (by decide) (Ev.move rfl) ?_
  obtain ⟨x8, h9, H⟩ := bind_some H
  have g10 := lat_some h9
  refine Qt.run rfl rfl (by decide) (Ev.indexS (α := BitVec 16) (xs := a1) rfl rfl Try.runUnderlying22 Try.sizeOf23 rfl (by decide) (hs_a1.mono hF4 hM) g10.1 g10.2.1) ?_
  refine Qt.run rfl rfl (by decide) (Ev.loadS (α := BitVec 16) rfl (hs_a1.mono hF4 hM) Try.isAgg23 (v := .int .u16 x8.toNat) ((Get.elemN (s := 1) (x := x8) rfl g10.2.2 (Get.here _)).off (by omega))) ?_
  refine Qt.run rfl rfl (by decide) (Ev.neq rfl rfl) ?_
  refine Qt.done ?_
  refine At.then ?_
  rcases Bool.eq_false_or_eq_true ((x5.toNat : Int) != (x8.toNat : Int)) with hb11 | hb11
  · replace H := ite_t hb11 H
    refine Cd.condT rfl hb11 ?_
    refine Cd.seq ?_
    refine Cd.as (e' := []) (L' := L) trivial rfl ?_
    refine Cd.region ?_
    refine Lst.run rfl rfl (by decide) (Ev.assign rfl) ?_
    refine Lst.nil ?_
    refine At.then ?_
    have H := hret2 _ (some_inj H).symm
    subst H
    replace H := HKl2
    obtain rfl := some_inj H
    refine Cd.ret ?_
    refine At.in_ret ?_
    refine At.then_ret ?_
    refine At.then_ret ?_
    refine At.in_ret ?_
    refine At.then_ret ?_
    exact At.ret1 rfl (Res.tmp rfl) hF4 (List.Sublist.refl _) ⟨rfl, rfl⟩
  replace H := ite_f hb11 H
  refine Cd.condF rfl hb11 ?_
  refine Cd.skip ?_
  refine At.in_normal ?_
  refine At.then ?_
  refine Cd.region ?_
  refine Lst.run rfl rfl (by decide) (Ev.incr (by omega) rfl rfl) ?_
  refine Lst.run rfl rfl (by decide) (Ev.move rfl) ?_
  refine Lst.nil ?_
  exact At.meet (i2 + 1, k2, ()) hF4 ⟨rfl, rfl, rfl, rfl, trivial⟩ rfl ⟨⟨hgo2 _ (some_inj H).symm, by omega⟩, Nat.lt_succ_self _⟩
set_option maxRecDepth 20000 in
theorem partlaw_QuorumMakes_2_sim {a0 : BitVec 16} {a1 : Int} {a2 : Int} {b_a1 : Nat} {b_a2 : Nat} {r : Bool} (H : partlaw_QuorumMakes_2 a0 a1 a2 = some r) (w0 : World) (F : Frz) (M L : List Item) (hM : M.Sublist L) : Ok Try.prog w0 21 [.int .u16 a0.toNat, .pointer (some ⟨b_a1, 0, none⟩), .pointer (some ⟨b_a2, 0, none⟩)] F ((.blk b_a1 (enc a1) 3) :: (.blk b_a2 (enc a2) 3) :: L) (Is (.bool r) ((.blk b_a1 (enc a1) 3) :: (.blk b_a2 (enc a2) 3) :: L)) := by
  unfold partlaw_QuorumMakes_2 at H
  refine Ok.enter (m := 3) (n := 69) Try.func21 rfl rfl rfl (by decide) ?_
  refine Cd.env (e' := [(0, .int .u16 a0.toNat), (1, .pointer (some ⟨b_a1, 0, none⟩)), (2, .pointer (some ⟨b_a2, 0, none⟩))]) rfl ?_
  refine Cd.seq ?_
  refine Cd.region ?_
  refine Lst.run rfl rfl (by decide) (Ev.assign rfl) ?_
  refine Lst.nil ?_
  refine At.then ?_
  refine Cd.seq ?_
  refine Cd.region ?_
  refine Lst.run rfl rfl (by decide) (Ev.assign rfl) ?_
  refine Lst.run rfl rfl (by decide) (Ev.assign rfl) ?_
  refine Lst.nil ?_
  refine At.then ?_
  refine Cd.seq ?_
  refine Cd.seq ?_
  refine Cd.region ?_
  refine Lst.run rfl rfl (by decide) (Ev.load (i := 0) rfl rfl Try.isAgg3 (v := .int .i64 a1) (Get.here _)) ?_
  refine Lst.run rfl rfl (by decide) (Ev.move rfl) ?_
  refine Lst.nil ?_
  refine At.then ?_
  refine Cd.block ?_
  obtain ⟨nn7, hN57, H⟩ := bind_some H
  replace hN57 := upTo_some hN57
  obtain ⟨ol3, H, HKl3⟩ := bind_some H
  refine Cd.loop (σ := Nat × Nat × Bool) (fun (i3, k3, y4) => [(0, .int .u16 a0.toNat), (1, .pointer (some ⟨b_a1, 0, none⟩)), (2, .pointer (some ⟨b_a2, 0, none⟩)), (5, .bool y4), (6, .bool false), (13, .int .i64 a1), (14, .int .i64 (i3 : Int))]) (fun (i3, k3, y4) => (.blk b_a1 (enc a1) 3) :: (.blk b_a2 (enc a2) 3) :: L) (fun _ => (fun (i3, k3, y4) => rangeF (partlaw_QuorumMakes_2_B0 a0 a2) k3 i3 y4 = some ol3 ∧ i3 + k3 = nn7)) (fun (i3, k3, y4) => k3) (0, nn7, false) ⟨rfl, rfl, rfl, rfl, rfl, rfl, rfl, trivial⟩ rfl ⟨H, by omega⟩ ?_
  rintro F5 ⟨i3, k3, y4⟩ hF6 ⟨H, hik3⟩
  refine Cd.as (e' := [(0, .int .u16 a0.toNat), (1, .pointer (some ⟨b_a1, 0, none⟩)), (2, .pointer (some ⟨b_a2, 0, none⟩)), (5, .bool y4), (6, .bool false), (13, .int .i64 a1), (14, .int .i64 (i3 : Int))]) (L' := (.blk b_a1 (enc a1) 3) :: (.blk b_a2 (enc a2) 3) :: L) ⟨rfl, rfl, rfl, rfl, rfl, rfl, rfl, trivial⟩ rfl ?_
  rcases k3 with _ | k3
  · have hc3 : decide ((i3 : Int) < a1) = false := decide_eq_false (by omega)
    replace H := rangeF_end H
    refine Cd.seq ?_
    refine Cd.region ?_
    refine Lst.run rfl rfl (by decide) (Ev.lss rfl rfl) ?_
    refine Lst.nil ?_
    refine At.then ?_
    refine Cd.seq ?_
    refine Cd.condF rfl hc3 ?_
    refine Cd.exit ?_
    refine At.then_exit ?_
    refine At.then_exit ?_
    refine At.in_exit ?_
    subst H
    replace H := HKl3
    refine At.then ?_
    refine Cd.seq ?_
    refine Cd.seq ?_
    refine Cd.region ?_
    refine Lst.run rfl rfl (by decide) (Ev.load (i := 1) rfl rfl Try.isAgg3 (v := .int .i64 a2) (Get.here _)) ?_
    refine Lst.run rfl rfl (by decide) (Ev.move rfl) ?_
    refine Lst.nil ?_
    refine At.then ?_
    refine Cd.block ?_
    obtain ⟨nn31, hN56, H⟩ := bind_some H
    replace hN56 := upTo_some hN56
    obtain ⟨ol27, H, HKl27⟩ := bind_some H
    refine Cd.loop (σ := Nat × Nat × Bool) (fun (i27, k27, y28) => [(0, .int .u16 a0.toNat), (1, .pointer (some ⟨b_a1, 0, none⟩)), (2, .pointer (some ⟨b_a2, 0, none⟩)), (5, .bool y4), (6, .bool y28), (39, .int .i64 a2), (40, .int .i64 (i27 : Int))]) (fun (i27, k27, y28) => (.blk b_a1 (enc a1) 3) :: (.blk b_a2 (enc a2) 3) :: L) (fun _ => (fun (i27, k27, y28) => rangeF (partlaw_QuorumMakes_2_B4 a0 a1 a2) k27 i27 y28 = some ol27 ∧ i27 + k27 = nn31)) (fun (i27, k27, y28) => k27) (0, nn31, false) ⟨rfl, rfl, rfl, rfl, rfl, rfl, rfl, trivial⟩ rfl ⟨H, by omega⟩ ?_
    rintro F29 ⟨i27, k27, y28⟩ hF30 ⟨H, hik27⟩
    refine Cd.as (e' := [(0, .int .u16 a0.toNat), (1, .pointer (some ⟨b_a1, 0, none⟩)), (2, .pointer (some ⟨b_a2, 0, none⟩)), (5, .bool y4), (6, .bool y28), (39, .int .i64 a2), (40, .int .i64 (i27 : Int))]) (L' := (.blk b_a1 (enc a1) 3) :: (.blk b_a2 (enc a2) 3) :: L) ⟨rfl, rfl, rfl, rfl, rfl, rfl, rfl, trivial⟩ rfl ?_
    rcases k27 with _ | k27
    · have hc27 : decide ((i27 : Int) < a2) = false := decide_eq_false (by omega)
      replace H := rangeF_end H
      refine Cd.seq ?_
      refine Cd.region ?_
      refine Lst.run rfl rfl (by decide) (Ev.lss rfl rfl) ?_
      refine Lst.nil ?_
      refine At.then ?_
      refine Cd.seq ?_
      refine Cd.condF rfl hc27 ?_
      refine Cd.exit ?_
      refine At.then_exit ?_
      refine At.then_exit ?_
      refine At.in_exit ?_
      subst H
      replace H := HKl27
      refine At.then ?_
      refine Cd.seq ?_
      refine Cd.region ?_
      refine Lst.run rfl rfl (by decide) (Ev.move rfl) ?_
      refine Lst.run rfl rfl (by decide) (Ev.move rfl) ?_
      obtain ⟨o51, H, HKo51⟩ := bind_some H
      refine Lst.join (σ := Bool) 2 (fun y52 => [(68, .bool y52)]) (fun y52 => (.blk b_a1 (enc a1) 3) :: (.blk b_a2 (enc a2) 3) :: L) (fun _ y52 => y52 = o51) ?_ ?_
      · rcases (Bool.eq_false_or_eq_true y4).symm with hb53 | hb53
        · replace H := ite_f hb53 H
          refine Lst.skip rfl rfl rfl hb53 rfl (by decide) ?_
          refine Lst.run rfl rfl (by decide) (Ev.pickF rfl hb53 rfl) ?_
          refine Lst.nil ?_
          exact At.meet false (FLe.refl _) ⟨rfl, trivial⟩ rfl (some_inj H)
        replace H := ite_t hb53 H
        refine Lst.runG rfl rfl rfl hb53 rfl (by decide) (Ev.move rfl) ?_
        refine Lst.run rfl rfl (by decide) (Ev.pickT rfl hb53 rfl) ?_
        refine Lst.nil ?_
        exact At.meet y28 (FLe.refl _) ⟨rfl, trivial⟩ rfl (some_inj H)
      rintro F54 y52 hF55 hy
      subst hy
      refine Lst.as (e' := [(68, .bool y52)]) (L' := (.blk b_a1 (enc a1) 3) :: (.blk b_a2 (enc a2) 3) :: L) ⟨rfl, trivial⟩ rfl ?_
      replace H := HKo51
      refine Lst.run rfl rfl (by decide) (Ev.assign rfl) ?_
      refine Lst.nil ?_
      refine At.then ?_
      obtain rfl := some_inj H
      refine Cd.ret ?_
      exact At.ret1 rfl (Res.tmp rfl) (FLe.trans (FLe.trans hF6 hF30) hF55) (List.Sublist.cons_cons _ (List.Sublist.cons_cons _ (List.Sublist.refl _))) ⟨rfl, rfl⟩
    have hc27 : decide ((i27 : Int) < a2) = true := decide_eq_true (by omega)
    obtain ⟨c27, H, hgo27⟩ := rangeF_go H
    unfold partlaw_QuorumMakes_2_B4 at H
    try dsimp only at H
    refine Cd.seq ?_
    refine Cd.region ?_
    refine Lst.run rfl rfl (by decide) (Ev.lss rfl rfl) ?_
    refine Lst.nil ?_
    refine At.then ?_
    refine Cd.seq ?_
    refine Cd.condT rfl hc27 ?_
    refine Cd.skip ?_
    refine At.then ?_
    refine Cd.seq ?_
    refine Cd.block ?_
    refine Cd.seq ?_
    refine Cd.region ?_
    refine Lst.run rfl rfl (by decide) (Ev.move rfl) ?_
    refine Lst.run rfl rfl (by decide) (Ev.assign rfl) ?_
    refine Lst.nil ?_
    refine At.then ?_
    refine Cd.seq ?_
    refine Cd.region ?_
    refine Lst.run rfl rfl (by decide) (Ev.assign rfl) ?_
    refine Lst.nil ?_
    refine At.then ?_
    refine Cd.seq ?_
    refine Cd.seq ?_
    refine Cd.region ?_
    refine Lst.run rfl rfl (by decide) (Ev.load (i := 0) rfl rfl Try.isAgg3 (v := .int .i64 a1) (Get.here _)) ?_
    refine Lst.run rfl rfl (by decide) (Ev.move rfl) ?_
    refine Lst.nil ?_
    refine At.then ?_
    refine Cd.block ?_
    obtain ⟨nn36, hN50, H⟩ := bind_some H
    replace hN50 := upTo_some hN50
    obtain ⟨ol32, H, HKl32⟩ := bind_some H
    refine Cd.loop (σ := Nat × Nat × Bool) (fun (i32, k32, y33) => [(0, .int .u16 a0.toNat), (1, .pointer (some ⟨b_a1, 0, none⟩)), (2, .pointer (some ⟨b_a2, 0, none⟩)), (5, .bool y4), (6, .bool y28), (10, .int .i64 (i27 : Int)), (11, .bool y33), (39, .int .i64 a2), (40, .int .i64 (i27 : Int)), (43, .int .i64 a1), (44, .int .i64 (i32 : Int))]) (fun (i32, k32, y33) => (.blk b_a1 (enc a1) 3) :: (.blk b_a2 (enc a2) 3) :: L) (fun _ => (fun (i32, k32, y33) => rangeF (partlaw_QuorumMakes_2_B6 a0 a2 i27) k32 i32 y33 = some ol32 ∧ i32 + k32 = nn36)) (fun (i32, k32, y33) => k32) (0, nn36, true) ⟨rfl, rfl, rfl, rfl, rfl, rfl, rfl, rfl, rfl, rfl, rfl, trivial⟩ rfl ⟨H, by omega⟩ ?_
    rintro F34 ⟨i32, k32, y33⟩ hF35 ⟨H, hik32⟩
    refine Cd.as (e' := [(0, .int .u16 a0.toNat), (1, .pointer (some ⟨b_a1, 0, none⟩)), (2, .pointer (some ⟨b_a2, 0, none⟩)), (5, .bool y4), (6, .bool y28), (10, .int .i64 (i27 : Int)), (11, .bool y33), (39, .int .i64 a2), (40, .int .i64 (i27 : Int)), (43, .int .i64 a1), (44, .int .i64 (i32 : Int))]) (L' := (.blk b_a1 (enc a1) 3) :: (.blk b_a2 (enc a2) 3) :: L) ⟨rfl, rfl, rfl, rfl, rfl, rfl, rfl, rfl, rfl, rfl, rfl, trivial⟩ rfl ?_
    rcases k32 with _ | k32
    · have hc32 : decide ((i32 : Int) < a1) = false := decide_eq_false (by omega)
      replace H := rangeF_end H
      refine Cd.seq ?_
      refine Cd.region ?_
      refine Lst.run rfl rfl (by decide) (Ev.lss rfl rfl) ?_
      refine Lst.nil ?_
      refine At.then ?_
      refine Cd.seq ?_
      refine Cd.condF rfl hc32 ?_
      refine Cd.exit ?_
      refine At.then_exit ?_
      refine At.then_exit ?_
      refine At.in_exit ?_
      subst H
      replace H := HKl32
      refine At.then ?_
      refine Cd.region ?_
      refine Lst.run rfl rfl (by decide) (Ev.move rfl) ?_
      refine Lst.run rfl rfl (by decide) (Ev.move rfl) ?_
      obtain ⟨o45, H, HKo45⟩ := bind_some H
      refine Lst.join (σ := Bool) 2 (fun y46 => [(0, .int .u16 a0.toNat), (1, .pointer (some ⟨b_a1, 0, none⟩)), (2, .pointer (some ⟨b_a2, 0, none⟩)), (5, .bool y4), (6, .bool y28), (39, .int .i64 a2), (40, .int .i64 (i27 : Int)), (63, .bool y46)]) (fun y46 => (.blk b_a1 (enc a1) 3) :: (.blk b_a2 (enc a2) 3) :: L) (fun _ y46 => y46 = o45) ?_ ?_
      · rcases Bool.eq_false_or_eq_true y28 with hb47 | hb47
        · replace H := ite_t hb47 H
          refine Lst.skip rfl rfl rfl hb47 rfl (by decide) ?_
          refine Lst.run rfl rfl (by decide) (Ev.pickT rfl hb47 rfl) ?_
          refine Lst.nil ?_
          exact At.meet true (FLe.refl _) ⟨rfl, rfl, rfl, rfl, rfl, rfl, rfl, rfl, trivial⟩ rfl (some_inj H)
        replace H := ite_f hb47 H
        refine Lst.runG rfl rfl rfl hb47 rfl (by decide) (Ev.move rfl) ?_
        refine Lst.run rfl rfl (by decide) (Ev.pickF rfl hb47 rfl) ?_
        refine Lst.nil ?_
        exact At.meet y33 (FLe.refl _) ⟨rfl, rfl, rfl, rfl, rfl, rfl, rfl, rfl, trivial⟩ rfl (some_inj H)
      rintro F48 y46 hF49 hy
      subst hy
      refine Lst.as (e' := [(0, .int .u16 a0.toNat), (1, .pointer (some ⟨b_a1, 0, none⟩)), (2, .pointer (some ⟨b_a2, 0, none⟩)), (5, .bool y4), (6, .bool y28), (39, .int .i64 a2), (40, .int .i64 (i27 : Int)), (63, .bool y46)]) (L' := (.blk b_a1 (enc a1) 3) :: (.blk b_a2 (enc a2) 3) :: L) ⟨rfl, rfl, rfl, rfl, rfl, rfl, rfl, rfl, trivial⟩ rfl ?_
      replace H := HKo45
      refine Lst.run rfl rfl (by decide) (Ev.assign rfl) ?_
      refine Lst.nil ?_
      refine At.in_normal ?_
      refine At.then ?_
      refine Cd.region ?_
      refine Lst.run rfl rfl (by decide) (Ev.incr (by omega) rfl rfl) ?_
      refine Lst.run rfl rfl (by decide) (Ev.move rfl) ?_
      refine Lst.nil ?_
      exact At.meet (i27 + 1, k27, y46) (FLe.trans (FLe.trans hF30 hF35) hF49) ⟨rfl, rfl, rfl, rfl, rfl, rfl, rfl, trivial⟩ rfl ⟨⟨hgo27 _ (some_inj H).symm, by omega⟩, Nat.lt_succ_self _⟩
    have hc32 : decide ((i32 : Int) < a1) = true := decide_eq_true (by omega)
    obtain ⟨c32, H, hgo32⟩ := rangeF_go H
    unfold partlaw_QuorumMakes_2_B6 at H
    try dsimp only at H
    refine Cd.seq ?_
    refine Cd.region ?_
    refine Lst.run rfl rfl (by decide) (Ev.lss rfl rfl) ?_
    refine Lst.nil ?_
    refine At.then ?_
    refine Cd.seq ?_
    refine Cd.condT rfl hc32 ?_
    refine Cd.skip ?_
    refine At.then ?_
    refine Cd.seq ?_
    refine Cd.block ?_
    refine Cd.seq ?_
    refine Cd.region ?_
    refine Lst.run rfl rfl (by decide) (Ev.move rfl) ?_
    refine Lst.run rfl rfl (by decide) (Ev.assign rfl) ?_
    refine Lst.nil ?_
    refine At.then ?_
    refine Cd.region ?_
    refine Lst.run rfl rfl (by decide) (Ev.move rfl) ?_
    refine Lst.run rfl rfl (by decide) (Ev.move rfl) ?_
    obtain ⟨o37, H, HKo37⟩ := bind_some H
    refine Lst.join (σ := Bool) 10 (fun y38 => [(0, .int .u16 a0.toNat), (1, .pointer (some ⟨b_a1, 0, none⟩)), (2, .pointer (some ⟨b_a2, 0, none⟩)), (5, .bool y4), (6, .bool y28), (10, .int .i64 (i27 : Int)), (11, .bool y33), (39, .int .i64 a2), (40, .int .i64 (i27 : Int)), (43, .int .i64 a1), (44, .int .i64 (i32 : Int)), (58, .bool y38)]) (fun y38 => (.blk b_a1 (enc a1) 3) :: (.blk b_a2 (enc a2) 3) :: L) (fun _ y38 => y38 = o37) ?_ ?_
    · rcases (Bool.eq_false_or_eq_true y33).symm with hb39 | hb39
      · replace H := ite_f hb39 H
        refine Lst.skip rfl rfl rfl hb39 rfl (by decide) ?_
        refine Lst.skip rfl rfl rfl hb39 rfl (by decide) ?_
        refine Lst.skip rfl rfl rfl hb39 rfl (by decide) ?_
        refine Lst.skip rfl rfl rfl hb39 rfl (by decide) ?_
        refine Lst.skip rfl rfl rfl hb39 rfl (by decide) ?_
        refine Lst.skip rfl rfl rfl hb39 rfl (by decide) ?_
        refine Lst.skip rfl rfl rfl hb39 rfl (by decide) ?_
        refine Lst.skip rfl rfl rfl hb39 rfl (by decide) ?_
        refine Lst.skip rfl rfl rfl hb39 rfl (by decide) ?_
        refine Lst.run rfl rfl (by decide) (Ev.pickF rfl hb39 rfl) ?_
        refine Lst.nil ?_
        exact At.meet false (FLe.refl _) ⟨rfl, rfl, rfl, rfl, rfl, rfl, rfl, rfl, rfl, rfl, rfl, rfl, trivial⟩ rfl (some_inj H)
      replace H := ite_t hb39 H
      refine Lst.runG rfl rfl rfl hb39 rfl (by decide) (Ev.move rfl) ?_
      refine Lst.runG rfl rfl rfl hb39 rfl (by decide) (Ev.move rfl) ?_
      refine Lst.runG rfl rfl rfl hb39 rfl (by decide) (Ev.load (i := 1) rfl rfl Try.isAgg3 (v := .int .i64 a2) (Get.here _)) ?_
      refine Lst.runG rfl rfl rfl hb39 rfl (by decide) (Ev.mul rfl rfl) ?_
      refine Lst.runG rfl rfl rfl hb39 rfl (by decide) (Ev.move rfl) ?_
      refine Lst.runG rfl rfl rfl hb39 rfl (by decide) (Ev.add rfl rfl) ?_
      obtain ⟨n40, h41, H⟩ := bind_some H
      refine Lst.runG rfl rfl rfl hb39 rfl (by decide) (Ev.shrU16 (i := a0) (m := n40) rfl (congrArg some (congrArg (Value.int .i64) (cnt_some h41)))) ?_
      refine Lst.runG rfl rfl rfl hb39 rfl (by decide) (Ev.remU16 (i := a0 >>> n40) (j := (2 : BitVec 16)) rfl rfl (by decide)) ?_
      refine Lst.runG rfl rfl rfl hb39 rfl (by decide) (Ev.eql rfl rfl) ?_
      refine Lst.run rfl rfl (by decide) (Ev.pickT rfl hb39 rfl) ?_
      refine Lst.nil ?_
      exact At.meet ((((a0 >>> n40) % (2 : BitVec 16)).toNat : Int) == ((1 : BitVec 16).toNat : Int)) (FLe.refl _) ⟨rfl, rfl, rfl, rfl, rfl, rfl, rfl, rfl, rfl, rfl, rfl, rfl, trivial⟩ rfl (some_inj H)
    rintro F43 y38 hF44 hy
    subst hy
    refine Lst.as (e' := [(0, .int .u16 a0.toNat), (1, .pointer (some ⟨b_a1, 0, none⟩)), (2, .pointer (some ⟨b_a2, 0, none⟩)), (5, .bool y4), (6, .bool y28), (10, .int .i64 (i27 : Int)), (11, .bool y33), (39, .int .i64 a2), (40, .int .i64 (i27 : Int)), (43, .int .i64 a1), (44, .int .i64 (i32 : Int)), (58, .bool y38)]) (L' := (.blk b_a1 (enc a1) 3) :: (.blk b_a2 (enc a2) 3) :: L) ⟨rfl, rfl, rfl, rfl, rfl, rfl, rfl, rfl, rfl, rfl, rfl, rfl, trivial⟩ rfl ?_
    replace H := HKo37
    refine Lst.run rfl rfl (by decide) (Ev.assign rfl) ?_
    refine Lst.nil ?_
    refine At.in_normal ?_
    refine At.then ?_
    refine Cd.region ?_
    refine Lst.run rfl rfl (by decide) (Ev.incr (by omega) rfl rfl) ?_
    refine Lst.run rfl rfl (by decide) (Ev.move rfl) ?_
    refine Lst.nil ?_
    exact At.meet (i32 + 1, k32, y38) (FLe.trans hF35 hF44) ⟨rfl, rfl, rfl, rfl, rfl, rfl, rfl, rfl, rfl, rfl, rfl, trivial⟩ rfl ⟨⟨hgo32 _ (some_inj H).symm, by omega⟩, Nat.lt_succ_self _⟩
  have hc3 : decide ((i3 : Int) < a1) = true := decide_eq_true (by omega)
  obtain ⟨c3, H, hgo3⟩ := rangeF_go H
  unfold partlaw_QuorumMakes_2_B0 at H
  try dsimp only at H
  refine Cd.seq ?_
  refine Cd.region ?_
  refine Lst.run rfl rfl (by decide) (Ev.lss rfl rfl) ?_
  refine Lst.nil ?_
  refine At.then ?_
  refine Cd.seq ?_
  refine Cd.condT rfl hc3 ?_
  refine Cd.skip ?_
  refine At.then ?_
  refine Cd.seq ?_
  refine Cd.block ?_
  refine Cd.seq ?_
  refine Cd.region ?_
  refine Lst.run rfl rfl (by decide) (Ev.move rfl) ?_
  refine Lst.run rfl rfl (by decide) (Ev.assign rfl) ?_
  refine Lst.nil ?_
  refine At.then ?_
  refine Cd.seq ?_
  refine Cd.region ?_
  refine Lst.run rfl rfl (by decide) (Ev.assign rfl) ?_
  refine Lst.nil ?_
  refine At.then ?_
  refine Cd.seq ?_
  refine Cd.seq ?_
  refine Cd.region ?_
  refine Lst.run rfl rfl (by decide) (Ev.load (i := 1) rfl rfl Try.isAgg3 (v := .int .i64 a2) (Get.here _)) ?_
  refine Lst.run rfl rfl (by decide) (Ev.move rfl) ?_
  refine Lst.nil ?_
  refine At.then ?_
  refine Cd.block ?_
  obtain ⟨nn12, hN26, H⟩ := bind_some H
  replace hN26 := upTo_some hN26
  obtain ⟨ol8, H, HKl8⟩ := bind_some H
  refine Cd.loop (σ := Nat × Nat × Bool) (fun (i8, k8, y9) => [(0, .int .u16 a0.toNat), (1, .pointer (some ⟨b_a1, 0, none⟩)), (2, .pointer (some ⟨b_a2, 0, none⟩)), (5, .bool y4), (6, .bool false), (7, .int .i64 (i3 : Int)), (8, .bool y9), (13, .int .i64 a1), (14, .int .i64 (i3 : Int)), (17, .int .i64 a2), (18, .int .i64 (i8 : Int))]) (fun (i8, k8, y9) => (.blk b_a1 (enc a1) 3) :: (.blk b_a2 (enc a2) 3) :: L) (fun _ => (fun (i8, k8, y9) => rangeF (partlaw_QuorumMakes_2_B2 a0 a2 i3) k8 i8 y9 = some ol8 ∧ i8 + k8 = nn12)) (fun (i8, k8, y9) => k8) (0, nn12, true) ⟨rfl, rfl, rfl, rfl, rfl, rfl, rfl, rfl, rfl, rfl, rfl, trivial⟩ rfl ⟨H, by omega⟩ ?_
  rintro F10 ⟨i8, k8, y9⟩ hF11 ⟨H, hik8⟩
  refine Cd.as (e' := [(0, .int .u16 a0.toNat), (1, .pointer (some ⟨b_a1, 0, none⟩)), (2, .pointer (some ⟨b_a2, 0, none⟩)), (5, .bool y4), (6, .bool false), (7, .int .i64 (i3 : Int)), (8, .bool y9), (13, .int .i64 a1), (14, .int .i64 (i3 : Int)), (17, .int .i64 a2), (18, .int .i64 (i8 : Int))]) (L' := (.blk b_a1 (enc a1) 3) :: (.blk b_a2 (enc a2) 3) :: L) ⟨rfl, rfl, rfl, rfl, rfl, rfl, rfl, rfl, rfl, rfl, rfl, trivial⟩ rfl ?_
  rcases k8 with _ | k8
  · have hc8 : decide ((i8 : Int) < a2) = false := decide_eq_false (by omega)
    replace H := rangeF_end H
    refine Cd.seq ?_
    refine Cd.region ?_
    refine Lst.run rfl rfl (by decide) (Ev.lss rfl rfl) ?_
    refine Lst.nil ?_
    refine At.then ?_
    refine Cd.seq ?_
    refine Cd.condF rfl hc8 ?_
    refine Cd.exit ?_
    refine At.then_exit ?_
    refine At.then_exit ?_
    refine At.in_exit ?_
    subst H
    replace H := HKl8
    refine At.then ?_
    refine Cd.region ?_
    refine Lst.run rfl rfl (by decide) (Ev.move rfl) ?_
    refine Lst.run rfl rfl (by decide) (Ev.move rfl) ?_
    obtain ⟨o21, H, HKo21⟩ := bind_some H
    refine Lst.join (σ := Bool) 2 (fun y22 => [(0, .int .u16 a0.toNat), (1, .pointer (some ⟨b_a1, 0, none⟩)), (2, .pointer (some ⟨b_a2, 0, none⟩)), (5, .bool y4), (6, .bool false), (13, .int .i64 a1), (14, .int .i64 (i3 : Int)), (37, .bool y22)]) (fun y22 => (.blk b_a1 (enc a1) 3) :: (.blk b_a2 (enc a2) 3) :: L) (fun _ y22 => y22 = o21) ?_ ?_
    · rcases Bool.eq_false_or_eq_true y4 with hb23 | hb23
      · replace H := ite_t hb23 H
        refine Lst.skip rfl rfl rfl hb23 rfl (by decide) ?_
        refine Lst.run rfl rfl (by decide) (Ev.pickT rfl hb23 rfl) ?_
        refine Lst.nil ?_
        exact At.meet true (FLe.refl _) ⟨rfl, rfl, rfl, rfl, rfl, rfl, rfl, rfl, trivial⟩ rfl (some_inj H)
      replace H := ite_f hb23 H
      refine Lst.runG rfl rfl rfl hb23 rfl (by decide) (Ev.move rfl) ?_
      refine Lst.run rfl rfl (by decide) (Ev.pickF rfl hb23 rfl) ?_
      refine Lst.nil ?_
      exact At.meet y9 (FLe.refl _) ⟨rfl, rfl, rfl, rfl, rfl, rfl, rfl, rfl, trivial⟩ rfl (some_inj H)
    rintro F24 y22 hF25 hy
    subst hy
    refine Lst.as (e' := [(0, .int .u16 a0.toNat), (1, .pointer (some ⟨b_a1, 0, none⟩)), (2, .pointer (some ⟨b_a2, 0, none⟩)), (5, .bool y4), (6, .bool false), (13, .int .i64 a1), (14, .int .i64 (i3 : Int)), (37, .bool y22)]) (L' := (.blk b_a1 (enc a1) 3) :: (.blk b_a2 (enc a2) 3) :: L) ⟨rfl, rfl, rfl, rfl, rfl, rfl, rfl, rfl, trivial⟩ rfl ?_
    replace H := HKo21
    refine Lst.run rfl rfl (by decide) (Ev.assign rfl) ?_
    refine Lst.nil ?_
    refine At.in_normal ?_
    refine At.then ?_
    refine Cd.region ?_
    refine Lst.run rfl rfl (by decide) (Ev.incr (by omega) rfl rfl) ?_
    refine Lst.run rfl rfl (by decide) (Ev.move rfl) ?_
    refine Lst.nil ?_
    exact At.meet (i3 + 1, k3, y22) (FLe.trans (FLe.trans hF6 hF11) hF25) ⟨rfl, rfl, rfl, rfl, rfl, rfl, rfl, trivial⟩ rfl ⟨⟨hgo3 _ (some_inj H).symm, by omega⟩, Nat.lt_succ_self _⟩
  have hc8 : decide ((i8 : Int) < a2) = true := decide_eq_true (by omega)
  obtain ⟨c8, H, hgo8⟩ := rangeF_go H
  unfold partlaw_QuorumMakes_2_B2 at H
  try dsimp only at H
  refine Cd.seq ?_
  refine Cd.region ?_
  refine Lst.run rfl rfl (by decide) (Ev.lss rfl rfl) ?_
  refine Lst.nil ?_
  refine At.then ?_
  refine Cd.seq ?_
  refine Cd.condT rfl hc8 ?_
  refine Cd.skip ?_
  refine At.then ?_
  refine Cd.seq ?_
  refine Cd.block ?_
  refine Cd.seq ?_
  refine Cd.region ?_
  refine Lst.run rfl rfl (by decide) (Ev.move rfl) ?_
  refine Lst.run rfl rfl (by decide) (Ev.assign rfl) ?_
  refine Lst.nil ?_
  refine At.then ?_
  refine Cd.region ?_
  refine Lst.run rfl rfl (by decide) (Ev.move rfl) ?_
  refine Lst.run rfl rfl (by decide) (Ev.move rfl) ?_
  obtain ⟨o13, H, HKo13⟩ := bind_some H
  refine Lst.join (σ := Bool) 10 (fun y14 => [(0, .int .u16 a0.toNat), (1, .pointer (some ⟨b_a1, 0, none⟩)), (2, .pointer (some ⟨b_a2, 0, none⟩)), (5, .bool y4), (6, .bool false), (7, .int .i64 (i3 : Int)), (8, .bool y9), (13, .int .i64 a1), (14, .int .i64 (i3 : Int)), (17, .int .i64 a2), (18, .int .i64 (i8 : Int)), (32, .bool y14)]) (fun y14 => (.blk b_a1 (enc a1) 3) :: (.blk b_a2 (enc a2) 3) :: L) (fun _ y14 => y14 = o13) ?_ ?_
  · rcases (Bool.eq_false_or_eq_true y9).symm with hb15 | hb15
    · replace H := ite_f hb15 H
      refine Lst.skip rfl rfl rfl hb15 rfl (by decide) ?_
      refine Lst.skip rfl rfl rfl hb15 rfl (by decide) ?_
      refine Lst.skip rfl rfl rfl hb15 rfl (by decide) ?_
      refine Lst.skip rfl rfl rfl hb15 rfl (by decide) ?_
      refine Lst.skip rfl rfl rfl hb15 rfl (by decide) ?_
      refine Lst.skip rfl rfl rfl hb15 rfl (by decide) ?_
      refine Lst.skip rfl rfl rfl hb15 rfl (by decide) ?_
      refine Lst.skip rfl rfl rfl hb15 rfl (by decide) ?_
      refine Lst.skip rfl rfl rfl hb15 rfl (by decide) ?_
      refine Lst.run rfl rfl (by decide) (Ev.pickF rfl hb15 rfl) ?_
      refine Lst.nil ?_
      exact At.meet false (FLe.refl _) ⟨rfl, rfl, rfl, rfl, rfl, rfl, rfl, rfl, rfl, rfl, rfl, rfl, trivial⟩ rfl (some_inj H)
    replace H := ite_t hb15 H
    refine Lst.runG rfl rfl rfl hb15 rfl (by decide) (Ev.move rfl) ?_
    refine Lst.runG rfl rfl rfl hb15 rfl (by decide) (Ev.move rfl) ?_
    refine Lst.runG rfl rfl rfl hb15 rfl (by decide) (Ev.load (i := 1) rfl rfl Try.isAgg3 (v := .int .i64 a2) (Get.here _)) ?_
    refine Lst.runG rfl rfl rfl hb15 rfl (by decide) (Ev.mul rfl rfl) ?_
    refine Lst.runG rfl rfl rfl hb15 rfl (by decide) (Ev.move rfl) ?_
    refine Lst.runG rfl rfl rfl hb15 rfl (by decide) (Ev.add rfl rfl) ?_
    obtain ⟨n16, h17, H⟩ := bind_some H
    refine Lst.runG rfl rfl rfl hb15 rfl (by decide) (Ev.shrU16 (i := a0) (m := n16) rfl (congrArg some (congrArg (Value.int .i64) (cnt_some h17)))) ?_
    refine Lst.runG rfl rfl rfl hb15 rfl (by decide) (Ev.remU16 (i := a0 >>> n16) (j := (2 : BitVec 16)) rfl rfl (by decide)) ?_
    refine Lst.runG rfl rfl rfl hb15 rfl (by decide) (Ev.eql rfl rfl) ?_
    refine Lst.run rfl rfl (by decide) (Ev.pickT rfl hb15 rfl) ?_
    refine Lst.nil ?_
    exact At.meet ((((a0 >>> n16) % (2 : BitVec 16)).toNat : Int) == ((1 : BitVec 16).toNat : Int)) (FLe.refl _) ⟨rfl, rfl, rfl, rfl, rfl, rfl, rfl, rfl, rfl, rfl, rfl, rfl, trivial⟩ rfl (some_inj H)
  rintro F19 y14 hF20 hy
  subst hy
  refine Lst.as (e' := [(0, .int .u16 a0.toNat), (1, .pointer (some ⟨b_a1, 0, none⟩)), (2, .pointer (some ⟨b_a2, 0, none⟩)), (5, .bool y4), (6, .bool false), (7, .int .i64 (i3 : Int)), (8, .bool y9), (13, .int .i64 a1), (14, .int .i64 (i3 : Int)), (17, .int .i64 a2), (18, .int .i64 (i8 : Int)), (32, .bool y14)]) (L' := (.blk b_a1 (enc a1) 3) :: (.blk b_a2 (enc a2) 3) :: L) ⟨rfl, rfl, rfl, rfl, rfl, rfl, rfl, rfl, rfl, rfl, rfl, rfl, trivial⟩ rfl ?_
  replace H := HKo13
  refine Lst.run rfl rfl (by decide) (Ev.assign rfl) ?_
  refine Lst.nil ?_
  refine At.in_normal ?_
  refine At.then ?_
  refine Cd.region ?_
  refine Lst.run rfl rfl (by decide) (Ev.incr (by omega) rfl rfl) ?_
  refine Lst.run rfl rfl (by decide) (Ev.move rfl) ?_
  refine Lst.nil ?_
  exact At.meet (i8 + 1, k8, y14) (FLe.trans hF11 hF20) ⟨rfl, rfl, rfl, rfl, rfl, rfl, rfl, rfl, rfl, rfl, rfl, trivial⟩ rfl ⟨⟨hgo8 _ (some_inj H).symm, by omega⟩, Nat.lt_succ_self _⟩
set_option maxRecDepth 20000 in
theorem partref_LeastSets_QuorumMakes_2_sim {fu : Nat} {a0 : Int} {a1_c0 : Int} {a1_c1 : Int} {b_a1_c0 : Nat} {b_a1_c1 : Nat} {r : (List (BitVec 16))} (H : partref_LeastSets_QuorumMakes_2 fu a0 a1_c0 a1_c1 = some r) (w0 : World) (F : Frz) (M L : List Item) (hM : M.Sublist L) : Ok Try.prog w0 12 [.int .i64 a0, .func (.func 21) #[] #[.pointer (some ⟨b_a1_c0, 0, none⟩), .pointer (some ⟨b_a1_c1, 0, none⟩)]] F ((.blk b_a1_c0 (enc a1_c0) 3) :: (.blk b_a1_c1 (enc a1_c1) 3) :: L) (fun _ L' v => ∃ (s3 : Sl), v = Sl.v s3 ∧ L' = (.own s3 23 1 (encs r)) :: (.blk b_a1_c0 (enc a1_c0) 3) :: (.blk b_a1_c1 (enc a1_c1) 3) :: L) := by
  unfold partref_LeastSets_QuorumMakes_2 at H
  refine Ok.enter (m := 2) (n := 40) Try.func12 rfl rfl rfl (by decide) ?_
  refine Cd.env (e' := [(0, .int .i64 a0), (1, .func (.func 21) #[] #[.pointer (some ⟨b_a1_c0, 0, none⟩), .pointer (some ⟨b_a1_c1, 0, none⟩)])]) rfl ?_
  refine Cd.seq ?_
  refine Cd.region ?_
  refine Lst.addNil 23 1 ?_
  refine Lst.run rfl rfl (by decide) (Ev.assign rfl) ?_
  refine Lst.nil ?_
  refine At.then ?_
  refine Cd.seq ?_
  refine Cd.region ?_
  refine Lst.addNil 23 1 ?_
  refine Lst.run rfl rfl (by decide) (Ev.assign rfl) ?_
  refine Lst.nil ?_
  refine At.then ?_
  refine Cd.seq ?_
  refine Cd.seq ?_
  refine Cd.region ?_
  refine Lst.run rfl rfl (by decide) (Ev.move rfl) ?_
  refine Lst.run rfl rfl (by decide) (Ev.add rfl rfl) ?_
  refine Lst.run rfl rfl (by decide) (Ev.move rfl) ?_
  refine Lst.nil ?_
  refine At.then ?_
  refine Cd.block ?_
  obtain ⟨nn10, hN43, H⟩ := bind_some H
  replace hN43 := upTo_some hN43
  obtain ⟨ol5, H, HKl5⟩ := bind_some H
  refine Cd.loop (σ := Nat × Nat × Sl × (List (BitVec 16))) (fun (i5, k5, s6, l7) => [(0, .int .i64 a0), (1, .func (.func 21) #[] #[.pointer (some ⟨b_a1_c0, 0, none⟩), .pointer (some ⟨b_a1_c1, 0, none⟩)]), (5, Sl.v s6), (9, .int .i64 (w64 (a0 + (1 : Int)))), (10, .int .i64 (i5 : Int))]) (fun (i5, k5, s6, l7) => (.own s6 23 1 (encs l7)) :: (.own Sl.nil 23 1 (encs ([] : List (BitVec 16)))) :: (.blk b_a1_c0 (enc a1_c0) 3) :: (.blk b_a1_c1 (enc a1_c1) 3) :: L) (fun _ => (fun (i5, k5, s6, l7) => rangeF (partref_LeastSets_QuorumMakes_2_B0 fu a0 a1_c0 a1_c1) k5 i5 l7 = some ol5 ∧ i5 + k5 = nn10)) (fun (i5, k5, s6, l7) => k5) (0, nn10, Sl.nil, ([] : List (BitVec 16))) ⟨rfl, rfl, rfl, rfl, rfl, trivial⟩ rfl ⟨H, by omega⟩ ?_
  rintro F8 ⟨i5, k5, s6, l7⟩ hF9 ⟨H, hik5⟩
  refine Cd.as (e' := [(0, .int .i64 a0), (1, .func (.func 21) #[] #[.pointer (some ⟨b_a1_c0, 0, none⟩), .pointer (some ⟨b_a1_c1, 0, none⟩)]), (5, Sl.v s6), (9, .int .i64 (w64 (a0 + (1 : Int)))), (10, .int .i64 (i5 : Int))]) (L' := (.own s6 23 1 (encs l7)) :: (.own Sl.nil 23 1 (encs ([] : List (BitVec 16)))) :: (.blk b_a1_c0 (enc a1_c0) 3) :: (.blk b_a1_c1 (enc a1_c1) 3) :: L) ⟨rfl, rfl, rfl, rfl, rfl, trivial⟩ rfl ?_
  rcases k5 with _ | k5
  · have hc5 : decide ((i5 : Int) < (w64 (a0 + (1 : Int)))) = false := decide_eq_false (by omega)
    replace H := rangeF_end H
    refine Cd.seq ?_
    refine Cd.region ?_
    refine Lst.run rfl rfl (by decide) (Ev.lss rfl rfl) ?_
    refine Lst.nil ?_
    refine At.then ?_
    refine Cd.seq ?_
    refine Cd.condF rfl hc5 ?_
    refine Cd.exit ?_
    refine At.then_exit ?_
    refine At.then_exit ?_
    refine At.in_exit ?_
    subst H
    replace H := HKl5
    refine At.then ?_
    refine Cd.seq ?_
    refine Cd.region ?_
    refine Lst.run rfl rfl (by decide) (Ev.move rfl) ?_
    refine Lst.run rfl rfl (by decide) (Ev.assign rfl) ?_
    refine Lst.nil ?_
    refine At.then ?_
    obtain rfl := some_inj H
    refine Cd.ret ?_
    exact At.ret1 rfl (Res.tmp rfl) hF9 (List.Sublist.cons_cons _ (List.Sublist.cons _ (List.Sublist.cons_cons _ (List.Sublist.cons_cons _ (List.Sublist.refl _))))) ⟨s6, rfl, rfl⟩
  have hc5 : decide ((i5 : Int) < (w64 (a0 + (1 : Int)))) = true := decide_eq_true (by omega)
  obtain ⟨c5, H, hgo5⟩ := rangeF_go H
  unfold partref_LeastSets_QuorumMakes_2_B0 at H
  try dsimp only at H
  refine Cd.seq ?_
  refine Cd.region ?_
  refine Lst.run rfl rfl (by decide) (Ev.lss rfl rfl) ?_
  refine Lst.nil ?_
  refine At.then ?_
  refine Cd.seq ?_
  refine Cd.condT rfl hc5 ?_
  refine Cd.skip ?_
  refine At.then ?_
  refine Cd.seq ?_
  refine Cd.block ?_
  refine Cd.seq ?_
  refine Cd.region ?_
  refine Lst.run rfl rfl (by decide) (Ev.move rfl) ?_
  refine Lst.run rfl rfl (by decide) (Ev.assign rfl) ?_
  refine Lst.nil ?_
  refine At.then ?_
  refine Cd.seq ?_
  refine Cd.region ?_
  refine Lst.run rfl rfl (by decide) (Ev.move rfl) ?_
  obtain ⟨n11, h12, H⟩ := bind_some H
  refine Lst.run rfl rfl (by decide) (Ev.shlU16 (i := (1 : BitVec 16)) (m := n11) rfl (congrArg some (congrArg (Value.int .i64) (cnt_some h12)))) ?_
  refine Lst.run rfl rfl (by decide) (Ev.move rfl) ?_
  refine Lst.nil ?_
  refine At.then ?_
  refine Cd.block ?_
  obtain ⟨ol14, H, HKl14⟩ := andThen_some H
  refine Cd.loop (σ := Nat × (BitVec 16) × Sl × (List (BitVec 16))) (fun (k14, y15, s16, l17) => [(0, .int .i64 a0), (1, .func (.func 21) #[] #[.pointer (some ⟨b_a1_c0, 0, none⟩), .pointer (some ⟨b_a1_c1, 0, none⟩)]), (5, Sl.v s16), (6, .int .i64 (i5 : Int)), (9, .int .i64 (w64 (a0 + (1 : Int)))), (10, .int .i64 (i5 : Int)), (14, .int .u16 ((1 : BitVec 16) <<< n11).toNat), (15, .int .u16 y15.toNat)]) (fun (k14, y15, s16, l17) => (.own s16 23 1 (encs l17)) :: (.own Sl.nil 23 1 (encs ([] : List (BitVec 16)))) :: (.blk b_a1_c0 (enc a1_c0) 3) :: (.blk b_a1_c1 (enc a1_c1) 3) :: L) (fun _ => (fun (k14, y15, s16, l17) => whileM (partref_LeastSets_QuorumMakes_2_B2 fu a1_c0 a1_c1 i5 n11) k14 (y15, l17) = some ol14)) (fun (k14, y15, s16, l17) => k14) (fu, (0 : BitVec 16), s6, l7) ⟨rfl, rfl, rfl, rfl, rfl, rfl, rfl, rfl, trivial⟩ rfl H ?_
  rintro F18 ⟨k14, y15, s16, l17⟩ hF19 H
  refine Cd.as (e' := [(0, .int .i64 a0), (1, .func (.func 21) #[] #[.pointer (some ⟨b_a1_c0, 0, none⟩), .pointer (some ⟨b_a1_c1, 0, none⟩)]), (5, Sl.v s16), (6, .int .i64 (i5 : Int)), (9, .int .i64 (w64 (a0 + (1 : Int)))), (10, .int .i64 (i5 : Int)), (14, .int .u16 ((1 : BitVec 16) <<< n11).toNat), (15, .int .u16 y15.toNat)]) (L' := (.own s16 23 1 (encs l17)) :: (.own Sl.nil 23 1 (encs ([] : List (BitVec 16)))) :: (.blk b_a1_c0 (enc a1_c0) 3) :: (.blk b_a1_c1 (enc a1_c1) 3) :: L) ⟨rfl, rfl, rfl, rfl, rfl, rfl, rfl, rfl, trivial⟩ rfl ?_
  rcases k14 with _ | k14
  · cases H
  obtain ⟨c14, H, hgo14, hbrk14, hret14⟩ := whileM_go H
  unfold partref_LeastSets_QuorumMakes_2_B2 at H
  try dsimp only at H
  refine Cd.seq ?_
  refine Cd.region ?_
  refine Lst.run rfl rfl (by decide) (Ev.lss rfl rfl) ?_
  refine Lst.nil ?_
  refine At.then ?_
  refine Cd.seq ?_
  rcases (Bool.eq_false_or_eq_true (decide ((y15.toNat : Int) < (((1 : BitVec 16) <<< n11).toNat : Int)))).symm with hb20 | hb20
  · replace H := ite_f hb20 H
    refine Cd.condF rfl hb20 ?_
    refine Cd.exit ?_
    refine At.then_exit ?_
    refine At.then_exit ?_
    refine At.in_exit ?_
    have H := hbrk14 _ (some_inj H).symm
    subst H
    replace H := HKl14
    refine At.in_normal ?_
    refine At.then ?_
    refine Cd.region ?_
    refine Lst.run rfl rfl (by decide) (Ev.incr (by omega) rfl rfl) ?_
    refine Lst.run rfl rfl (by decide) (Ev.move rfl) ?_
    refine Lst.nil ?_
    exact At.meet (i5 + 1, k5, s16, l17) (FLe.trans hF9 hF19) ⟨rfl, rfl, rfl, rfl, rfl, trivial⟩ rfl ⟨⟨hgo5 _ (some_inj H).symm, by omega⟩, Nat.lt_succ_self _⟩
  replace H := ite_t hb20 H
  refine Cd.condT rfl hb20 ?_
  refine Cd.skip ?_
  refine At.then ?_
  refine Cd.seq ?_
  refine Cd.block ?_
  refine Cd.seq ?_
  refine Cd.region ?_
  refine Lst.run rfl rfl (by decide) (Ev.move rfl) ?_
  refine Lst.alloc (cs := enc (0 : BitVec 16)) rfl rfl (by decide) Try.zeroValue23 rfl (fun b21 => ?_)
  refine Lst.store (i := 0) rfl rfl rfl rfl rfl Try.sizeOf23 (vs := [.int .u16 y15.toNat]) rfl rfl rfl (cs' := enc y15) (Put.here (vs := [.int .u16 y15.toNat]) rfl) (L' := (.blk b21 (enc y15) 23) :: (.own s16 23 1 (encs l17)) :: (.own Sl.nil 23 1 (encs ([] : List (BitVec 16)))) :: (.blk b_a1_c0 (enc a1_c0) 3) :: (.blk b_a1_c1 (enc a1_c1) 3) :: L) rfl ?_
  refine Lst.nil ?_
  refine At.then ?_
  refine Cd.seq ?_
  refine Cd.region ?_
  refine Lst.run rfl rfl (by decide) (Ev.load (i := 0) rfl rfl Try.isAgg23 (v := .int .u16 y15.toNat) (Get.here _)) ?_
  obtain ⟨r23, h24, H⟩ := bind_some H
  refine Lst.call1 rfl rfl (by decide) (vs := [.int .u16 y15.toNat]) ⟨rfl, trivial⟩ Try.call45 (partref_size_sim h24 w0 _ M _ (List.Sublist.cons _ (List.Sublist.cons _ (List.Sublist.cons _ (List.Sublist.cons _ (List.Sublist.cons _ hM)))))) ?_
  refine Lst.run rfl rfl (by decide) (Ev.move rfl) ?_
  refine Lst.run rfl rfl (by decide) (Ev.eql rfl rfl) ?_
  refine Lst.run rfl rfl (by decide) (Ev.move rfl) ?_
  rcases (Bool.eq_false_or_eq_true (r23 == (i5 : Int))).symm with hb27 | hb27
  · replace H := ite_f hb27 H
    refine Lst.skip rfl rfl rfl hb27 rfl (by decide) ?_
    refine Lst.skip rfl rfl rfl hb27 rfl (by decide) ?_
    refine Lst.skip rfl rfl rfl hb27 rfl (by decide) ?_
    refine Lst.run rfl rfl (by decide) (Ev.pickF rfl hb27 rfl) ?_
    refine Lst.run rfl rfl (by decide) (Ev.move rfl) ?_
    refine Lst.skip rfl rfl rfl rfl rfl (by decide) ?_
    refine Lst.skip rfl rfl rfl rfl rfl (by decide) ?_
    refine Lst.skip rfl rfl rfl rfl rfl (by decide) ?_
    refine Lst.skip rfl rfl rfl rfl rfl (by decide) ?_
    refine Lst.run rfl rfl (by decide) (Ev.pickF rfl rfl rfl) ?_
    refine Lst.nil ?_
    refine At.then ?_
    refine Cd.condF rfl rfl ?_
    refine Cd.skip ?_
    refine At.in_normal ?_
    refine At.then ?_
    refine Cd.as (e' := [(0, .int .i64 a0), (1, .func (.func 21) #[] #[.pointer (some ⟨b_a1_c0, 0, none⟩), .pointer (some ⟨b_a1_c1, 0, none⟩)]), (5, Sl.v s16), (6, .int .i64 (i5 : Int)), (9, .int .i64 (w64 (a0 + (1 : Int)))), (10, .int .i64 (i5 : Int)), (14, .int .u16 ((1 : BitVec 16) <<< n11).toNat), (15, .int .u16 y15.toNat)]) (L' := (.blk b21 (enc y15) 23) :: (.own s16 23 1 (encs l17)) :: (.own Sl.nil 23 1 (encs ([] : List (BitVec 16)))) :: (.blk b_a1_c0 (enc a1_c0) 3) :: (.blk b_a1_c1 (enc a1_c1) 3) :: L) ⟨rfl, rfl, rfl, rfl, rfl, rfl, rfl, rfl, trivial⟩ rfl ?_
    refine Cd.region ?_
    refine Lst.run rfl rfl (by decide) (Ev.addU16 (i := y15) (j := (1 : BitVec 16)) rfl rfl) ?_
    refine Lst.run rfl rfl (by decide) (Ev.move rfl) ?_
    refine Lst.nil ?_
    refine At.less (L' := (.own s16 23 1 (encs l17)) :: (.own Sl.nil 23 1 (encs ([] : List (BitVec 16)))) :: (.blk b_a1_c0 (enc a1_c0) 3) :: (.blk b_a1_c1 (enc a1_c1) 3) :: L) (List.Sublist.cons _ (List.Sublist.cons_cons _ (List.Sublist.cons_cons _ (List.Sublist.cons_cons _ (List.Sublist.cons_cons _ (List.Sublist.refl _)))))) ?_
    exact At.meet (k14, y15 + (1 : BitVec 16), s16, l17) hF19 ⟨rfl, rfl, rfl, rfl, rfl, rfl, rfl, rfl, trivial⟩ rfl ⟨hgo14 _ (some_inj H).symm, Nat.lt_succ_self _⟩
  replace H := ite_t hb27 H
  refine Lst.runG rfl rfl rfl hb27 rfl (by decide) (Ev.move rfl) ?_
  refine Lst.runG rfl rfl rfl hb27 rfl (by decide) (Ev.load (i := 0) rfl rfl Try.isAgg23 (v := .int .u16 y15.toNat) (Get.here _)) ?_
  obtain ⟨r28, h29, H⟩ := bind_some H
  refine Lst.front (i := 4) rfl (L' := (.blk b_a1_c1 (enc a1_c1) 3) :: (.blk b21 (enc y15) 23) :: (.own s16 23 1 (encs l17)) :: (.own Sl.nil 23 1 (encs ([] : List (BitVec 16)))) :: (.blk b_a1_c0 (enc a1_c0) 3) :: L) rfl ?_
  refine Lst.front (i := 4) rfl (L' := (.blk b_a1_c0 (enc a1_c0) 3) :: (.blk b_a1_c1 (enc a1_c1) 3) :: (.blk b21 (enc y15) 23) :: (.own s16 23 1 (encs l17)) :: (.own Sl.nil 23 1 (encs ([] : List (BitVec 16)))) :: L) rfl ?_
  refine Lst.callV1G rfl rfl rfl hb27 rfl (by decide) (vs := [.int .u16 y15.toNat]) (cs := [.pointer (some ⟨b_a1_c0, 0, none⟩), .pointer (some ⟨b_a1_c1, 0, none⟩)]) rfl ⟨rfl, trivial⟩ Try.call21 (partlaw_QuorumMakes_2_sim h29 w0 _ M _ (List.Sublist.cons _ (List.Sublist.cons _ (List.Sublist.cons _ hM)))) ?_
  refine Lst.run rfl rfl (by decide) (Ev.pickT rfl hb27 rfl) ?_
  refine Lst.run rfl rfl (by decide) (Ev.move rfl) ?_
  rcases (Bool.eq_false_or_eq_true r28).symm with hb32 | hb32
  · replace H := ite_f hb32 H
    refine Lst.skip rfl rfl rfl hb32 rfl (by decide) ?_
    refine Lst.skip rfl rfl rfl hb32 rfl (by decide) ?_
    refine Lst.skip rfl rfl rfl hb32 rfl (by decide) ?_
    refine Lst.skip rfl rfl rfl hb32 rfl (by decide) ?_
    refine Lst.run rfl rfl (by decide) (Ev.pickF rfl hb32 rfl) ?_
    refine Lst.nil ?_
    refine At.then ?_
    refine Cd.condF rfl rfl ?_
    refine Cd.skip ?_
    refine At.in_normal ?_
    refine At.then ?_
    refine Cd.as (e' := [(0, .int .i64 a0), (1, .func (.func 21) #[] #[.pointer (some ⟨b_a1_c0, 0, none⟩), .pointer (some ⟨b_a1_c1, 0, none⟩)]), (5, Sl.v s16), (6, .int .i64 (i5 : Int)), (9, .int .i64 (w64 (a0 + (1 : Int)))), (10, .int .i64 (i5 : Int)), (14, .int .u16 ((1 : BitVec 16) <<< n11).toNat), (15, .int .u16 y15.toNat)]) (L' := (.blk b_a1_c0 (enc a1_c0) 3) :: (.blk b_a1_c1 (enc a1_c1) 3) :: (.blk b21 (enc y15) 23) :: (.own s16 23 1 (encs l17)) :: (.own Sl.nil 23 1 (encs ([] : List (BitVec 16)))) :: L) ⟨rfl, rfl, rfl, rfl, rfl, rfl, rfl, rfl, trivial⟩ rfl ?_
    refine Cd.region ?_
    refine Lst.run rfl rfl (by decide) (Ev.addU16 (i := y15) (j := (1 : BitVec 16)) rfl rfl) ?_
    refine Lst.run rfl rfl (by decide) (Ev.move rfl) ?_
    refine Lst.nil ?_
    refine At.front (i := 1) rfl rfl ?_
    refine At.front (i := 1) rfl rfl ?_
    refine At.front (i := 4) rfl rfl ?_
    refine At.front (i := 4) rfl rfl ?_
    refine At.less (L' := (.own s16 23 1 (encs l17)) :: (.own Sl.nil 23 1 (encs ([] : List (BitVec 16)))) :: (.blk b_a1_c0 (enc a1_c0) 3) :: (.blk b_a1_c1 (enc a1_c1) 3) :: L) (List.Sublist.cons_cons _ (List.Sublist.cons_cons _ (List.Sublist.cons_cons _ (List.Sublist.cons_cons _ (List.Sublist.cons _ (List.Sublist.refl _)))))) ?_
    exact At.meet (k14, y15 + (1 : BitVec 16), s16, l17) hF19 ⟨rfl, rfl, rfl, rfl, rfl, rfl, rfl, rfl, trivial⟩ rfl ⟨hgo14 _ (some_inj H).symm, Nat.lt_succ_self _⟩
  replace H := ite_t hb32 H
  refine Lst.runG rfl rfl rfl hb32 rfl (by decide) (Ev.move rfl) ?_
  refine Lst.runG rfl rfl rfl hb32 rfl (by decide) (Ev.makeFunc (us := []) (vs := [.pointer (some ⟨b21, 0, none⟩)]) trivial ⟨rfl, trivial⟩) ?_
  obtain ⟨r33, h34, H⟩ := bind_some H
  refine Lst.front (i := 2) rfl (L' := (.blk b21 (enc y15) 23) :: (.blk b_a1_c0 (enc a1_c0) 3) :: (.blk b_a1_c1 (enc a1_c1) 3) :: (.own s16 23 1 (encs l17)) :: (.own Sl.nil 23 1 (encs ([] : List (BitVec 16)))) :: L) rfl ?_
  refine Lst.call1G rfl rfl rfl hb32 rfl (by decide) (vs := [Sl.v s16, .func (.func 54) #[] #[.pointer (some ⟨b21, 0, none⟩)]]) ⟨rfl, rfl, trivial⟩ Try.call14 (slices_ContainsFunc_uint16_uint16_LeastSets_1_sim h34 w0 _ _ _ (List.Sublist.refl _) (Rd.own (i := 2) rfl rfl rfl)) ?_
  refine Lst.runG rfl rfl rfl hb32 rfl (by decide) (Ev.not rfl) ?_
  refine Lst.run rfl rfl (by decide) (Ev.pickT rfl hb32 rfl) ?_
  refine Lst.nil ?_
  refine At.then ?_
  rcases (Bool.eq_false_or_eq_true (!r33)).symm with hb37 | hb37
  · replace H := ite_f hb37 H
    refine Cd.condF rfl hb37 ?_
    refine Cd.skip ?_
    refine At.in_normal ?_
    refine At.then ?_
    refine Cd.as (e' := [(0, .int .i64 a0), (1, .func (.func 21) #[] #[.pointer (some ⟨b_a1_c0, 0, none⟩), .pointer (some ⟨b_a1_c1, 0, none⟩)]), (5, Sl.v s16), (6, .int .i64 (i5 : Int)), (9, .int .i64 (w64 (a0 + (1 : Int)))), (10, .int .i64 (i5 : Int)), (14, .int .u16 ((1 : BitVec 16) <<< n11).toNat), (15, .int .u16 y15.toNat)]) (L' := (.blk b21 (enc y15) 23) :: (.blk b_a1_c0 (enc a1_c0) 3) :: (.blk b_a1_c1 (enc a1_c1) 3) :: (.own s16 23 1 (encs l17)) :: (.own Sl.nil 23 1 (encs ([] : List (BitVec 16)))) :: L) ⟨rfl, rfl, rfl, rfl, rfl, rfl, rfl, rfl, trivial⟩ rfl ?_
    refine Cd.region ?_
    refine Lst.run rfl rfl (by decide) (Ev.addU16 (i := y15) (j := (1 : BitVec 16)) rfl rfl) ?_
    refine Lst.run rfl rfl (by decide) (Ev.move rfl) ?_
    refine Lst.nil ?_
    refine At.front (i := 2) rfl rfl ?_
    refine At.front (i := 2) rfl rfl ?_
    refine At.front (i := 4) rfl rfl ?_
    refine At.front (i := 4) rfl rfl ?_
    refine At.less (L' := (.own s16 23 1 (encs l17)) :: (.own Sl.nil 23 1 (encs ([] : List (BitVec 16)))) :: (.blk b_a1_c0 (enc a1_c0) 3) :: (.blk b_a1_c1 (enc a1_c1) 3) :: L) (List.Sublist.cons_cons _ (List.Sublist.cons_cons _ (List.Sublist.cons_cons _ (List.Sublist.cons_cons _ (List.Sublist.cons _ (List.Sublist.refl _)))))) ?_
    exact At.meet (k14, y15 + (1 : BitVec 16), s16, l17) hF19 ⟨rfl, rfl, rfl, rfl, rfl, rfl, rfl, rfl, trivial⟩ rfl ⟨hgo14 _ (some_inj H).symm, Nat.lt_succ_self _⟩
  replace H := ite_t hb37 H
  refine Cd.condT rfl hb37 ?_
  refine Cd.as (e' := [(0, .int .i64 a0), (1, .func (.func 21) #[] #[.pointer (some ⟨b_a1_c0, 0, none⟩), .pointer (some ⟨b_a1_c1, 0, none⟩)]), (5, Sl.v s16), (6, .int .i64 (i5 : Int)), (9, .int .i64 (w64 (a0 + (1 : Int)))), (10, .int .i64 (i5 : Int)), (14, .int .u16 ((1 : BitVec 16) <<< n11).toNat), (15, .int .u16 y15.toNat), (7, .pointer (some ⟨b21, 0, none⟩))]) (L' := (.blk b21 (enc y15) 23) :: (.blk b_a1_c0 (enc a1_c0) 3) :: (.blk b_a1_c1 (enc a1_c1) 3) :: (.own s16 23 1 (encs l17)) :: (.own Sl.nil 23 1 (encs ([] : List (BitVec 16)))) :: L) ⟨rfl, rfl, rfl, rfl, rfl, rfl, rfl, rfl, rfl, trivial⟩ rfl ?_
  refine Cd.region ?_
  refine Lst.run rfl rfl (by decide) (Ev.move rfl) ?_
  refine Lst.run rfl rfl (by decide) (Ev.load (i := 0) rfl rfl Try.isAgg23 (v := .int .u16 y15.toNat) (Get.here _)) ?_
  refine Lst.buildSlice (α := BitVec 16) (xs := ([y15] : List (BitVec 16))) (pv := [(0, .int .u16 y15.toNat)]) rfl rfl (by decide) ⟨rfl, rfl, trivial⟩ (run_buildSlice (α := BitVec 16) (z0 := (0 : BitVec 16)) (xs := ([y15] : List (BitVec 16))) Try.runUnderlying22 Try.sizeOf23 Try.zeroValue23 rfl rfl rfl (by decide) rfl (fill_cons (cs := encs (List.replicate 1 (0 : BitVec 16))) (cs' := encs ((List.replicate 1 (0 : BitVec 16)).set 0 y15)) (vs := [.int .u16 y15.toNat]) rfl rfl rfl ((Put.elemN (s := 1) (i := 0) (x := (0 : BitVec 16)) (y := y15) rfl rfl (Put.here (vs := [.int .u16 y15.toNat]) rfl)).off rfl) fill_nil)) rfl rfl (by decide) (fun s38 _ => ?_)
  obtain ⟨u40, h41, H⟩ := bind_some H
  refine Lst.append (i := 4) (α := BitVec 16) (xs := l17) (ys := ([y15] : List (BitVec 16))) rfl rfl (by decide) rfl rfl Try.runUnderlying22 Try.typeInfo23 rfl rfl rfl rfl rfl rfl (Rd.own (i := 0) rfl rfl rfl) rfl (room_some h41) rfl (fun s42 => ?_)
  refine Lst.its (L' := (.own s38 23 1 (encs ([y15] : List (BitVec 16)))) :: (.blk b21 (enc y15) 23) :: (.blk b_a1_c0 (enc a1_c0) 3) :: (.blk b_a1_c1 (enc a1_c1) 3) :: (.own s42 23 1 (encs (l17 ++ ([y15] : List (BitVec 16))))) :: (.own Sl.nil 23 1 (encs ([] : List (BitVec 16)))) :: L) rfl ?_
  refine Lst.run rfl rfl (by decide) (Ev.assign rfl) ?_
  refine Lst.nil ?_
  refine At.in_normal ?_
  refine At.then ?_
  refine Cd.region ?_
  refine Lst.run rfl rfl (by decide) (Ev.addU16 (i := y15) (j := (1 : BitVec 16)) rfl rfl) ?_
  refine Lst.run rfl rfl (by decide) (Ev.move rfl) ?_
  refine Lst.nil ?_
  refine At.front (i := 3) rfl rfl ?_
  refine At.front (i := 3) rfl rfl ?_
  refine At.front (i := 5) rfl rfl ?_
  refine At.front (i := 5) rfl rfl ?_
  refine At.less (L' := (.own s42 23 1 (encs (l17 ++ ([y15] : List (BitVec 16))))) :: (.own Sl.nil 23 1 (encs ([] : List (BitVec 16)))) :: (.blk b_a1_c0 (enc a1_c0) 3) :: (.blk b_a1_c1 (enc a1_c1) 3) :: L) (List.Sublist.cons_cons _ (List.Sublist.cons_cons _ (List.Sublist.cons_cons _ (List.Sublist.cons_cons _ (List.Sublist.cons _ (List.Sublist.cons _ (List.Sublist.refl _))))))) ?_
  exact At.meet (k14, y15 + (1 : BitVec 16), s42, l17 ++ ([y15] : List (BitVec 16))) hF19 ⟨rfl, rfl, rfl, rfl, rfl, rfl, rfl, rfl, trivial⟩ rfl ⟨hgo14 _ (some_inj H).symm, Nat.lt_succ_self _⟩
set_option maxRecDepth 20000 in
theorem partlaw_QuorumMakes_sim {fu : Nat} {a0 : List Int} {a1 : Int} {a2 : Int} {a3 : Int} {s_a0 : Sl} {r : Bool} (H : partlaw_QuorumMakes fu a0 a1 a2 a3 = some r) (w0 : World) (F : Frz) (M L : List Item) (hM : M.Sublist L) (hs_a0 : Rd w0 F M s_a0 a0) : Ok Try.prog w0 4 [Sl.v s_a0, .int .i64 a1, .int .i64 a2, .int .i64 a3] F (L) (Is (.bool r) (L)) := by
  unfold partlaw_QuorumMakes at H
  refine Ok.enter (m := 4) (n := 120) Try.func4 rfl rfl rfl (by decide) ?_
  refine Cd.env (e' := [(0, Sl.v s_a0), (1, .int .i64 a1), (2, .int .i64 a2), (3, .int .i64 a3)]) rfl ?_
  refine Cd.seq ?_
  refine Cd.region ?_
  refine Lst.box rfl rfl (by decide) rfl (cs := enc s_a0) rfl (fun b1 => ?_)
  refine Lst.box rfl rfl (by decide) rfl (cs := enc a1) rfl (fun b3 => ?_)
  refine Lst.box rfl rfl (by decide) rfl (cs := enc a2) rfl (fun b5 => ?_)
  refine Lst.box rfl rfl (by decide) rfl (cs := enc a3) rfl (fun b7 => ?_)
  refine Lst.run rfl rfl (by decide) (Ev.assign rfl) ?_
  refine Lst.nil ?_
  refine At.then ?_
  refine Cd.seq ?_
  refine Cd.region ?_
  refine Lst.run rfl rfl (by decide) (Ev.load (i := 3) rfl rfl Try.isAgg36 (v := Sl.v s_a0) (Get.here _)) ?_
  refine Lst.run rfl rfl (by decide) (Ev.load (i := 2) rfl rfl Try.isAgg3 (v := .int .i64 a1) (Get.here _)) ?_
  obtain ⟨r9, h10, H⟩ := bind_some H
  refine Lst.call rfl rfl (by decide) (vs := [Sl.v s_a0, .int .i64 a1]) ⟨rfl, rfl, trivial⟩ Try.call17 (quorum_Votes_sim h10 w0 _ M _ (List.Sublist.cons _ (List.Sublist.cons _ (List.Sublist.cons _ (List.Sublist.cons _ hM)))) (hs_a0.mono (FLe.refl _) (List.Sublist.refl _))) (fun F13 L' v hF14 hv => ?_)
  obtain ⟨s11, rfl, rfl⟩ := hv
  refine Lst.run rfl rfl (by decide) (Ev.move rfl) ?_
  refine Lst.run rfl rfl (by decide) (Ev.extract rfl rfl) ?_
  refine Lst.run rfl rfl (by decide) (Ev.extract rfl rfl) ?_
  refine Lst.run rfl rfl (by decide) (Ev.assign rfl) ?_
  refine Lst.run rfl rfl (by decide) (Ev.assign rfl) ?_
  refine Lst.nil ?_
  refine At.then ?_
  refine Cd.seq ?_
  refine Cd.region ?_
  refine Lst.run rfl rfl (by decide) (Ev.load (i := 2) rfl rfl Try.isAgg3 (v := .int .i64 a2) (Get.here _)) ?_
  refine Lst.run rfl rfl (by decide) (Ev.load (i := 1) rfl rfl Try.isAgg3 (v := .int .i64 a3) (Get.here _)) ?_
  obtain ⟨r15, h16, H⟩ := bind_some H
  refine Lst.call rfl rfl (by decide) (vs := [.int .i64 a2, .int .i64 a3]) ⟨rfl, rfl, trivial⟩ Try.call18 (quorum_Grid_sim h16 w0 _ M _ (List.Sublist.cons _ (List.Sublist.cons _ (List.Sublist.cons _ (List.Sublist.cons _ (List.Sublist.cons _ hM)))))) (fun F19 L' v hF20 hv => ?_)
  obtain ⟨s17, rfl, rfl⟩ := hv
  refine Lst.run rfl rfl (by decide) (Ev.move rfl) ?_
  refine Lst.run rfl rfl (by decide) (Ev.extract rfl rfl) ?_
  refine Lst.run rfl rfl (by decide) (Ev.extract rfl rfl) ?_
  refine Lst.run rfl rfl (by decide) (Ev.assign rfl) ?_
  refine Lst.run rfl rfl (by decide) (Ev.assign rfl) ?_
  refine Lst.nil ?_
  refine At.then ?_
  refine Cd.seq ?_
  refine Cd.as (e' := [(4, .pointer (some ⟨b1, 0, none⟩)), (5, .pointer (some ⟨b3, 0, none⟩)), (6, .pointer (some ⟨b5, 0, none⟩)), (7, .pointer (some ⟨b7, 0, none⟩)), (9, Sl.v s11), (10, .int .i64 r9.2), (11, Sl.v s17), (12, .int .i64 r15.2)]) (L' := (.own s17 23 1 (encs r15.1)) :: (.own s11 23 1 (encs r9.1)) :: (.blk b7 (enc a3) 3) :: (.blk b5 (enc a2) 3) :: (.blk b3 (enc a1) 3) :: (.blk b1 (enc s_a0) 36) :: L) ⟨rfl, rfl, rfl, rfl, rfl, rfl, rfl, rfl, trivial⟩ rfl ?_
  refine Cd.region ?_
  refine Lst.run rfl rfl (by decide) (Ev.load (i := 5) rfl rfl Try.isAgg36 (v := Sl.v s_a0) (Get.here _)) ?_
  refine Lst.run rfl rfl (by decide) (Ev.lenS (α := Int) (xs := a0) (by decide) rfl rfl Try.runUnderlying36 (hs_a0.mono (FLe.trans hF14 hF20) (List.Sublist.cons _ (List.Sublist.cons _ (List.Sublist.cons _ (List.Sublist.cons _ (List.Sublist.cons _ (List.Sublist.cons _ hM)))))))) ?_
  refine Lst.run rfl rfl (by decide) (Ev.gtr rfl rfl) ?_
  refine Lst.run rfl rfl (by decide) (Ev.move rfl) ?_
  obtain ⟨o21, H, HKo21⟩ := bind_some H
  refine Lst.join (σ := Bool) 4 (fun y22 => [(4, .pointer (some ⟨b1, 0, none⟩)), (5, .pointer (some ⟨b3, 0, none⟩)), (6, .pointer (some ⟨b5, 0, none⟩)), (7, .pointer (some ⟨b7, 0, none⟩)), (9, Sl.v s11), (10, .int .i64 r9.2), (11, Sl.v s17), (12, .int .i64 r15.2), (36, .bool y22)]) (fun y22 => (.own s17 23 1 (encs r15.1)) :: (.own s11 23 1 (encs r9.1)) :: (.blk b7 (enc a3) 3) :: (.blk b5 (enc a2) 3) :: (.blk b3 (enc a1) 3) :: (.blk b1 (enc s_a0) 36) :: L) (fun _ y22 => y22 = o21) ?_ ?_
  · rcases (Bool.eq_false_or_eq_true (decide ((a0.length : Int) > (0 : Int)))).symm with hb23 | hb23
    · replace H := ite_f hb23 H
      refine Lst.skip rfl rfl rfl hb23 rfl (by decide) ?_
      refine Lst.skip rfl rfl rfl hb23 rfl (by decide) ?_
      refine Lst.skip rfl rfl rfl hb23 rfl (by decide) ?_
      refine Lst.run rfl rfl (by decide) (Ev.pickF rfl hb23 rfl) ?_
      refine Lst.nil ?_
      exact At.meet false (FLe.refl _) ⟨rfl, rfl, rfl, rfl, rfl, rfl, rfl, rfl, rfl, trivial⟩ rfl (some_inj H)
    replace H := ite_t hb23 H
    refine Lst.runG rfl rfl rfl hb23 rfl (by decide) (Ev.load (i := 5) rfl rfl Try.isAgg36 (v := Sl.v s_a0) (Get.here _)) ?_
    refine Lst.runG rfl rfl rfl hb23 rfl (by decide) (Ev.lenS (α := Int) (xs := a0) (by decide) rfl rfl Try.runUnderlying36 (hs_a0.mono (FLe.trans hF14 hF20) (List.Sublist.cons _ (List.Sublist.cons _ (List.Sublist.cons _ (List.Sublist.cons _ (List.Sublist.cons _ (List.Sublist.cons _ hM)))))))) ?_
    refine Lst.runG rfl rfl rfl hb23 rfl (by decide) (Ev.lss rfl rfl) ?_
    refine Lst.run rfl rfl (by decide) (Ev.pickT rfl hb23 rfl) ?_
    refine Lst.nil ?_
    exact At.meet (decide ((a0.length : Int) < (11 : Int))) (FLe.refl _) ⟨rfl, rfl, rfl, rfl, rfl, rfl, rfl, rfl, rfl, trivial⟩ rfl (some_inj H)
  rintro F24 y22 hF25 hy
  subst hy
  refine Lst.as (e' := [(4, .pointer (some ⟨b1, 0, none⟩)), (5, .pointer (some ⟨b3, 0, none⟩)), (6, .pointer (some ⟨b5, 0, none⟩)), (7, .pointer (some ⟨b7, 0, none⟩)), (9, Sl.v s11), (10, .int .i64 r9.2), (11, Sl.v s17), (12, .int .i64 r15.2), (36, .bool y22)]) (L' := (.own s17 23 1 (encs r15.1)) :: (.own s11 23 1 (encs r9.1)) :: (.blk b7 (enc a3) 3) :: (.blk b5 (enc a2) 3) :: (.blk b3 (enc a1) 3) :: (.blk b1 (enc s_a0) 36) :: L) ⟨rfl, rfl, rfl, rfl, rfl, rfl, rfl, rfl, rfl, trivial⟩ rfl ?_
  replace H := HKo21
  refine Lst.run rfl rfl (by decide) (Ev.move rfl) ?_
  obtain ⟨o26, H, HKo26⟩ := bind_some H
  refine Lst.join (σ := Bool) 3 (fun y27 => [(4, .pointer (some ⟨b1, 0, none⟩)), (5, .pointer (some ⟨b3, 0, none⟩)), (6, .pointer (some ⟨b5, 0, none⟩)), (7, .pointer (some ⟨b7, 0, none⟩)), (9, Sl.v s11), (10, .int .i64 r9.2), (11, Sl.v s17), (12, .int .i64 r15.2), (40, .bool y27)]) (fun y27 => (.own s17 23 1 (encs r15.1)) :: (.own s11 23 1 (encs r9.1)) :: (.blk b7 (enc a3) 3) :: (.blk b5 (enc a2) 3) :: (.blk b3 (enc a1) 3) :: (.blk b1 (enc s_a0) 36) :: L) (fun _ y27 => y27 = o26) ?_ ?_
  · rcases (Bool.eq_false_or_eq_true y22).symm with hb28 | hb28
    · replace H := ite_f hb28 H
      refine Lst.skip rfl rfl rfl hb28 rfl (by decide) ?_
      refine Lst.skip rfl rfl rfl hb28 rfl (by decide) ?_
      refine Lst.run rfl rfl (by decide) (Ev.pickF rfl hb28 rfl) ?_
      refine Lst.nil ?_
      exact At.meet false (FLe.refl _) ⟨rfl, rfl, rfl, rfl, rfl, rfl, rfl, rfl, rfl, trivial⟩ rfl (some_inj H)
    replace H := ite_t hb28 H
    refine Lst.runG rfl rfl rfl hb28 rfl (by decide) (Ev.load (i := 4) rfl rfl Try.isAgg3 (v := .int .i64 a1) (Get.here _)) ?_
    refine Lst.runG rfl rfl rfl hb28 rfl (by decide) (Ev.gtr rfl rfl) ?_
    refine Lst.run rfl rfl (by decide) (Ev.pickT rfl hb28 rfl) ?_
    refine Lst.nil ?_
    exact At.meet (decide (a1 > (0 : Int))) (FLe.refl _) ⟨rfl, rfl, rfl, rfl, rfl, rfl, rfl, rfl, rfl, trivial⟩ rfl (some_inj H)
  rintro F29 y27 hF30 hy
  subst hy
  refine Lst.as (e' := [(4, .pointer (some ⟨b1, 0, none⟩)), (5, .pointer (some ⟨b3, 0, none⟩)), (6, .pointer (some ⟨b5, 0, none⟩)), (7, .pointer (some ⟨b7, 0, none⟩)), (9, Sl.v s11), (10, .int .i64 r9.2), (11, Sl.v s17), (12, .int .i64 r15.2), (40, .bool y27)]) (L' := (.own s17 23 1 (encs r15.1)) :: (.own s11 23 1 (encs r9.1)) :: (.blk b7 (enc a3) 3) :: (.blk b5 (enc a2) 3) :: (.blk b3 (enc a1) 3) :: (.blk b1 (enc s_a0) 36) :: L) ⟨rfl, rfl, rfl, rfl, rfl, rfl, rfl, rfl, rfl, trivial⟩ rfl ?_
  replace H := HKo26
  refine Lst.run rfl rfl (by decide) (Ev.move rfl) ?_
  obtain ⟨o31, H, HKo31⟩ := bind_some H
  refine Lst.join (σ := Bool) 3 (fun y32 => [(4, .pointer (some ⟨b1, 0, none⟩)), (5, .pointer (some ⟨b3, 0, none⟩)), (6, .pointer (some ⟨b5, 0, none⟩)), (7, .pointer (some ⟨b7, 0, none⟩)), (9, Sl.v s11), (10, .int .i64 r9.2), (11, Sl.v s17), (12, .int .i64 r15.2), (44, .bool y32)]) (fun y32 => (.own s17 23 1 (encs r15.1)) :: (.own s11 23 1 (encs r9.1)) :: (.blk b7 (enc a3) 3) :: (.blk b5 (enc a2) 3) :: (.blk b3 (enc a1) 3) :: (.blk b1 (enc s_a0) 36) :: L) (fun _ y32 => y32 = o31) ?_ ?_
  · rcases (Bool.eq_false_or_eq_true y27).symm with hb33 | hb33
    · replace H := ite_f hb33 H
      refine Lst.skip rfl rfl rfl hb33 rfl (by decide) ?_
      refine Lst.skip rfl rfl rfl hb33 rfl (by decide) ?_
      refine Lst.run rfl rfl (by decide) (Ev.pickF rfl hb33 rfl) ?_
      refine Lst.nil ?_
      exact At.meet false (FLe.refl _) ⟨rfl, rfl, rfl, rfl, rfl, rfl, rfl, rfl, rfl, trivial⟩ rfl (some_inj H)
    replace H := ite_t hb33 H
    refine Lst.runG rfl rfl rfl hb33 rfl (by decide) (Ev.load (i := 4) rfl rfl Try.isAgg3 (v := .int .i64 a1) (Get.here _)) ?_
    refine Lst.runG rfl rfl rfl hb33 rfl (by decide) (Ev.leq rfl rfl) ?_
    refine Lst.run rfl rfl (by decide) (Ev.pickT rfl hb33 rfl) ?_
    refine Lst.nil ?_
    exact At.meet (decide (a1 ≤ (16777215 : Int))) (FLe.refl _) ⟨rfl, rfl, rfl, rfl, rfl, rfl, rfl, rfl, rfl, trivial⟩ rfl (some_inj H)
  rintro F34 y32 hF35 hy
  subst hy
  refine Lst.as (e' := [(4, .pointer (some ⟨b1, 0, none⟩)), (5, .pointer (some ⟨b3, 0, none⟩)), (6, .pointer (some ⟨b5, 0, none⟩)), (7, .pointer (some ⟨b7, 0, none⟩)), (9, Sl.v s11), (10, .int .i64 r9.2), (11, Sl.v s17), (12, .int .i64 r15.2), (44, .bool y32)]) (L' := (.own s17 23 1 (encs r15.1)) :: (.own s11 23 1 (encs r9.1)) :: (.blk b7 (enc a3) 3) :: (.blk b5 (enc a2) 3) :: (.blk b3 (enc a1) 3) :: (.blk b1 (enc s_a0) 36) :: L) ⟨rfl, rfl, rfl, rfl, rfl, rfl, rfl, rfl, rfl, trivial⟩ rfl ?_
  replace H := HKo31
  refine Lst.run rfl rfl (by decide) (Ev.assign rfl) ?_
  refine Lst.nil ?_
  refine At.then ?_
  refine Cd.seq ?_
  refine Cd.seq ?_
  refine Cd.region ?_
  refine Lst.run rfl rfl (by decide) (Ev.load (i := 5) rfl rfl Try.isAgg36 (v := Sl.v s_a0) (Get.here _)) ?_
  refine Lst.run rfl rfl (by decide) (Ev.lenS (α := Int) (xs := a0) (by decide) rfl rfl Try.runUnderlying36 (hs_a0.mono (FLe.trans (FLe.trans (FLe.trans (FLe.trans hF14 hF20) hF25) hF30) hF35) (List.Sublist.cons _ (List.Sublist.cons _ (List.Sublist.cons _ (List.Sublist.cons _ (List.Sublist.cons _ (List.Sublist.cons _ hM)))))))) ?_
  refine Lst.run rfl rfl (by decide) (Ev.move rfl) ?_
  refine Lst.nil ?_
  refine At.then ?_
  refine Cd.block ?_
  refine Cd.bound (Rd.le (α := Int) (xs := a0) (by decide) (hs_a0.mono (FLe.trans (FLe.trans (FLe.trans (FLe.trans hF14 hF20) hF25) hF30) hF35) (List.Sublist.cons _ (List.Sublist.cons _ (List.Sublist.cons _ (List.Sublist.cons _ (List.Sublist.cons _ (List.Sublist.cons _ hM)))))))) (fun hN120 => ?_)
  obtain ⟨ol36, H, HKl36⟩ := bind_some H
  refine Cd.loop (σ := Nat × Nat × Bool) (fun (i36, k36, y37) => [(4, .pointer (some ⟨b1, 0, none⟩)), (5, .pointer (some ⟨b3, 0, none⟩)), (6, .pointer (some ⟨b5, 0, none⟩)), (7, .pointer (some ⟨b7, 0, none⟩)), (9, Sl.v s11), (10, .int .i64 r9.2), (11, Sl.v s17), (12, .int .i64 r15.2), (13, .bool y37), (45, Sl.v s_a0), (46, .int .i64 (a0.length : Int)), (47, .int .i64 (i36 : Int))]) (fun (i36, k36, y37) => (.own s17 23 1 (encs r15.1)) :: (.own s11 23 1 (encs r9.1)) :: (.blk b7 (enc a3) 3) :: (.blk b5 (enc a2) 3) :: (.blk b3 (enc a1) 3) :: (.blk b1 (enc s_a0) 36) :: L) (fun _ => (fun (i36, k36, y37) => rangeF (partlaw_QuorumMakes_B0 a0) k36 i36 y37 = some ol36 ∧ i36 + k36 = a0.length)) (fun (i36, k36, y37) => k36) (0, a0.length, y32) ⟨rfl, rfl, rfl, rfl, rfl, rfl, rfl, rfl, rfl, rfl, rfl, rfl, trivial⟩ rfl ⟨H, by omega⟩ ?_
  rintro F38 ⟨i36, k36, y37⟩ hF39 ⟨H, hik36⟩
  refine Cd.as (e' := [(4, .pointer (some ⟨b1, 0, none⟩)), (5, .pointer (some ⟨b3, 0, none⟩)), (6, .pointer (some ⟨b5, 0, none⟩)), (7, .pointer (some ⟨b7, 0, none⟩)), (9, Sl.v s11), (10, .int .i64 r9.2), (11, Sl.v s17), (12, .int .i64 r15.2), (13, .bool y37), (45, Sl.v s_a0), (46, .int .i64 (a0.length : Int)), (47, .int .i64 (i36 : Int))]) (L' := (.own s17 23 1 (encs r15.1)) :: (.own s11 23 1 (encs r9.1)) :: (.blk b7 (enc a3) 3) :: (.blk b5 (enc a2) 3) :: (.blk b3 (enc a1) 3) :: (.blk b1 (enc s_a0) 36) :: L) ⟨rfl, rfl, rfl, rfl, rfl, rfl, rfl, rfl, rfl, rfl, rfl, rfl, trivial⟩ rfl ?_
  rcases k36 with _ | k36
  · have hc36 : decide ((i36 : Int) < (a0.length : Int)) = false := decide_eq_false (by omega)
    replace H := rangeF_end H
    refine Cd.seq ?_
    refine Cd.region ?_
    refine Lst.run rfl rfl (by decide) (Ev.lss rfl rfl) ?_
    refine Lst.nil ?_
    refine At.then ?_
    refine Cd.seq ?_
    refine Cd.condF rfl hc36 ?_
    refine Cd.exit ?_
    refine At.then_exit ?_
    refine At.then_exit ?_
    refine At.in_exit ?_
    subst H
    replace H := HKl36
    refine At.then ?_
    obtain ⟨o53, H, HKo53⟩ := andThen_some H
    refine Cd.join (σ := Unit) (fun (_ : Unit) => [(6, .pointer (some ⟨b5, 0, none⟩)), (7, .pointer (some ⟨b7, 0, none⟩)), (11, Sl.v s17), (12, .int .i64 r15.2)]) (fun (_ : Unit) => (.own s17 23 1 (encs r15.1)) :: (.own s11 23 1 (encs r9.1)) :: (.blk b7 (enc a3) 3) :: (.blk b5 (enc a2) 3) :: (.blk b3 (enc a1) 3) :: (.blk b1 (enc s_a0) 36) :: L) (fun _ (_ : Unit) => .inl () = o53) ?_ ?_
    · refine Cd.seq ?_
      refine Cd.region ?_
      refine Lst.run rfl rfl (by decide) (Ev.move rfl) ?_
      refine Lst.run rfl rfl (by decide) (Ev.not rfl) ?_
      refine Lst.nil ?_
      refine At.then ?_
      rcases Bool.eq_false_or_eq_true (!y37) with hb54 | hb54
      · replace H := ite_t hb54 H
        refine Cd.condT rfl hb54 ?_
        refine Cd.seq ?_
        refine Cd.region ?_
        refine Lst.run rfl rfl (by decide) (Ev.move rfl) ?_
        refine Lst.run rfl rfl (by decide) (Ev.lenS (α := BitVec 16) (xs := r9.1) (by decide) rfl rfl Try.runUnderlying22 (Rd.own (i := 1) rfl rfl rfl)) ?_
        refine Lst.run rfl rfl (by decide) (Ev.gtr rfl rfl) ?_
        refine Lst.run rfl rfl (by decide) (Ev.move rfl) ?_
        obtain ⟨o55, H, HKo55⟩ := bind_some H
        refine Lst.join (σ := Bool) 3 (fun y56 => [(6, .pointer (some ⟨b5, 0, none⟩)), (7, .pointer (some ⟨b7, 0, none⟩)), (11, Sl.v s17), (12, .int .i64 r15.2), (69, .bool y56)]) (fun y56 => (.own s17 23 1 (encs r15.1)) :: (.own s11 23 1 (encs r9.1)) :: (.blk b7 (enc a3) 3) :: (.blk b5 (enc a2) 3) :: (.blk b3 (enc a1) 3) :: (.blk b1 (enc s_a0) 36) :: L) (fun _ y56 => y56 = o55) ?_ ?_
        · rcases Bool.eq_false_or_eq_true (decide ((r9.1.length : Int) > (0 : Int))) with hb57 | hb57
          · replace H := ite_t hb57 H
            refine Lst.skip rfl rfl rfl hb57 rfl (by decide) ?_
            refine Lst.skip rfl rfl rfl hb57 rfl (by decide) ?_
            refine Lst.run rfl rfl (by decide) (Ev.pickT rfl hb57 rfl) ?_
            refine Lst.nil ?_
            exact At.meet true (FLe.refl _) ⟨rfl, rfl, rfl, rfl, rfl, trivial⟩ rfl (some_inj H)
          replace H := ite_f hb57 H
          refine Lst.runG rfl rfl rfl hb57 rfl (by decide) (Ev.move rfl) ?_
          refine Lst.runG rfl rfl rfl hb57 rfl (by decide) (Ev.neq rfl rfl) ?_
          refine Lst.run rfl rfl (by decide) (Ev.pickF rfl hb57 rfl) ?_
          refine Lst.nil ?_
          exact At.meet (r9.2 != (1 : Int)) (FLe.refl _) ⟨rfl, rfl, rfl, rfl, rfl, trivial⟩ rfl (some_inj H)
        rintro F58 y56 hF59 hy
        subst hy
        refine Lst.as (e' := [(6, .pointer (some ⟨b5, 0, none⟩)), (7, .pointer (some ⟨b7, 0, none⟩)), (11, Sl.v s17), (12, .int .i64 r15.2), (69, .bool y56)]) (L' := (.own s17 23 1 (encs r15.1)) :: (.own s11 23 1 (encs r9.1)) :: (.blk b7 (enc a3) 3) :: (.blk b5 (enc a2) 3) :: (.blk b3 (enc a1) 3) :: (.blk b1 (enc s_a0) 36) :: L) ⟨rfl, rfl, rfl, rfl, rfl, trivial⟩ rfl ?_
        replace H := HKo55
        refine Lst.nil ?_
        refine At.then ?_
        rcases Bool.eq_false_or_eq_true y56 with hb60 | hb60
        · replace H := ite_t hb60 H
          refine Cd.condT rfl hb60 ?_
          refine Cd.seq ?_
          refine Cd.region ?_
          refine Lst.run rfl rfl (by decide) (Ev.assign rfl) ?_
          refine Lst.nil ?_
          refine At.then ?_
          obtain rfl := some_inj H
          replace H := HKo53
          obtain rfl := some_inj H
          refine Cd.ret ?_
          refine At.then_ret ?_
          exact At.ret1 rfl (Res.tmp rfl) (FLe.trans (FLe.trans (FLe.trans (FLe.trans (FLe.trans (FLe.trans hF14 hF20) hF25) hF30) hF35) hF39) hF59) (List.Sublist.cons _ (List.Sublist.cons _ (List.Sublist.cons _ (List.Sublist.cons _ (List.Sublist.cons _ (List.Sublist.cons _ (List.Sublist.refl _))))))) ⟨rfl, rfl⟩
        replace H := ite_f hb60 H
        refine Cd.condF rfl hb60 ?_
        refine Cd.skip ?_
        exact At.meet () hF59 ⟨rfl, rfl, rfl, rfl, trivial⟩ rfl (some_inj H)
      replace H := ite_f hb54 H
      refine Cd.condF rfl hb54 ?_
      refine Cd.seq ?_
      refine Cd.region ?_
      refine Lst.run rfl rfl (by decide) (Ev.move rfl) ?_
      refine Lst.run rfl rfl (by decide) (Ev.load (i := 5) rfl rfl Try.isAgg36 (v := Sl.v s_a0) (Get.here _)) ?_
      refine Lst.run rfl rfl (by decide) (Ev.lenS (α := Int) (xs := a0) (by decide) rfl rfl Try.runUnderlying36 (hs_a0.mono (FLe.trans (FLe.trans (FLe.trans (FLe.trans (FLe.trans hF14 hF20) hF25) hF30) hF35) hF39) (List.Sublist.cons _ (List.Sublist.cons _ (List.Sublist.cons _ (List.Sublist.cons _ (List.Sublist.cons _ (List.Sublist.cons _ hM)))))))) ?_
      refine Lst.run rfl rfl (by decide) (Ev.makeFunc (us := []) (vs := [.pointer (some ⟨b1, 0, none⟩), .pointer (some ⟨b3, 0, none⟩)]) trivial ⟨rfl, rfl, trivial⟩) ?_
      obtain ⟨r61, h62, H⟩ := bind_some H
      refine Lst.front (i := 4) rfl (L' := (.blk b3 (enc a1) 3) :: (.own s17 23 1 (encs r15.1)) :: (.own s11 23 1 (encs r9.1)) :: (.blk b7 (enc a3) 3) :: (.blk b5 (enc a2) 3) :: (.blk b1 (enc s_a0) 36) :: L) rfl ?_
      refine Lst.front (i := 5) rfl (L' := (.blk b1 (enc s_a0) 36) :: (.blk b3 (enc a1) 3) :: (.own s17 23 1 (encs r15.1)) :: (.own s11 23 1 (encs r9.1)) :: (.blk b7 (enc a3) 3) :: (.blk b5 (enc a2) 3) :: L) rfl ?_
      refine Lst.call rfl rfl (by decide) (vs := [.int .i64 (a0.length : Int), .func (.func 19) #[] #[.pointer (some ⟨b1, 0, none⟩), .pointer (some ⟨b3, 0, none⟩)]]) ⟨rfl, rfl, trivial⟩ Try.call12 (partref_LeastSets_QuorumMakes_1_sim h62 w0 _ M _ (List.Sublist.cons _ (List.Sublist.cons _ (List.Sublist.cons _ (List.Sublist.cons _ hM)))) (hs_a0.mono (FLe.trans (FLe.trans (FLe.trans (FLe.trans (FLe.trans hF14 hF20) hF25) hF30) hF35) hF39) (List.Sublist.refl _))) (fun F65 L' v hF66 hv => ?_)
      obtain ⟨s63, rfl, rfl⟩ := hv
      obtain ⟨r67, h68, H⟩ := bind_some H
      refine Lst.call1 rfl rfl (by decide) (vs := [Sl.v s11, Sl.v s63]) ⟨rfl, rfl, trivial⟩ Try.call16 (slices_Equal_uint16_uint16_sim h68 w0 _ _ _ (List.Sublist.refl _) (Rd.own (i := 4) rfl rfl rfl) (Rd.own (i := 0) rfl rfl rfl)) ?_
      refine Lst.run rfl rfl (by decide) (Ev.not rfl) ?_
      refine Lst.run rfl rfl (by decide) (Ev.move rfl) ?_
      obtain ⟨o71, H, HKo71⟩ := bind_some H
      refine Lst.join (σ := Bool) 3 (fun y72 => [(6, .pointer (some ⟨b5, 0, none⟩)), (7, .pointer (some ⟨b7, 0, none⟩)), (11, Sl.v s17), (12, .int .i64 r15.2), (80, .bool y72)]) (fun y72 => (.own s63 23 1 (encs r61)) :: (.blk b1 (enc s_a0) 36) :: (.blk b3 (enc a1) 3) :: (.own s17 23 1 (encs r15.1)) :: (.own s11 23 1 (encs r9.1)) :: (.blk b7 (enc a3) 3) :: (.blk b5 (enc a2) 3) :: L) (fun _ y72 => y72 = o71) ?_ ?_
      · rcases Bool.eq_false_or_eq_true (!r67) with hb73 | hb73
        · replace H := ite_t hb73 H
          refine Lst.skip rfl rfl rfl hb73 rfl (by decide) ?_
          refine Lst.skip rfl rfl rfl hb73 rfl (by decide) ?_
          refine Lst.run rfl rfl (by decide) (Ev.pickT rfl hb73 rfl) ?_
          refine Lst.nil ?_
          exact At.meet true (FLe.refl _) ⟨rfl, rfl, rfl, rfl, rfl, trivial⟩ rfl (some_inj H)
        replace H := ite_f hb73 H
        refine Lst.runG rfl rfl rfl hb73 rfl (by decide) (Ev.move rfl) ?_
        refine Lst.runG rfl rfl rfl hb73 rfl (by decide) (Ev.neq rfl rfl) ?_
        refine Lst.run rfl rfl (by decide) (Ev.pickF rfl hb73 rfl) ?_
        refine Lst.nil ?_
        exact At.meet (r9.2 != (0 : Int)) (FLe.refl _) ⟨rfl, rfl, rfl, rfl, rfl, trivial⟩ rfl (some_inj H)
      rintro F74 y72 hF75 hy
      subst hy
      refine Lst.as (e' := [(6, .pointer (some ⟨b5, 0, none⟩)), (7, .pointer (some ⟨b7, 0, none⟩)), (11, Sl.v s17), (12, .int .i64 r15.2), (80, .bool y72)]) (L' := (.own s63 23 1 (encs r61)) :: (.blk b1 (enc s_a0) 36) :: (.blk b3 (enc a1) 3) :: (.own s17 23 1 (encs r15.1)) :: (.own s11 23 1 (encs r9.1)) :: (.blk b7 (enc a3) 3) :: (.blk b5 (enc a2) 3) :: L) ⟨rfl, rfl, rfl, rfl, rfl, trivial⟩ rfl ?_
      replace H := HKo71
      refine Lst.nil ?_
      refine At.then ?_
      rcases Bool.eq_false_or_eq_true y72 with hb76 | hb76
      · replace H := ite_t hb76 H
        refine Cd.condT rfl hb76 ?_
        refine Cd.seq ?_
        refine Cd.region ?_
        refine Lst.run rfl rfl (by decide) (Ev.assign rfl) ?_
        refine Lst.nil ?_
        refine At.then ?_
        obtain rfl := some_inj H
        replace H := HKo53
        obtain rfl := some_inj H
        refine Cd.ret ?_
        refine At.then_ret ?_
        exact At.ret1 rfl (Res.tmp rfl) (FLe.trans (FLe.trans (FLe.trans (FLe.trans (FLe.trans (FLe.trans (FLe.trans hF14 hF20) hF25) hF30) hF35) hF39) hF66) hF75) (List.Sublist.cons _ (List.Sublist.cons _ (List.Sublist.cons _ (List.Sublist.cons _ (List.Sublist.cons _ (List.Sublist.cons _ (List.Sublist.cons _ (List.Sublist.refl _)))))))) ⟨rfl, rfl⟩
      replace H := ite_f hb76 H
      refine Cd.condF rfl hb76 ?_
      refine Cd.skip ?_
      refine At.front (i := 1) rfl rfl ?_
      refine At.front (i := 2) rfl rfl ?_
      refine At.front (i := 6) rfl rfl ?_
      refine At.front (i := 6) rfl rfl ?_
      refine At.front (i := 6) rfl rfl ?_
      refine At.front (i := 6) rfl rfl ?_
      refine At.less (L' := (.own s17 23 1 (encs r15.1)) :: (.own s11 23 1 (encs r9.1)) :: (.blk b7 (enc a3) 3) :: (.blk b5 (enc a2) 3) :: (.blk b3 (enc a1) 3) :: (.blk b1 (enc s_a0) 36) :: L) (List.Sublist.cons_cons _ (List.Sublist.cons_cons _ (List.Sublist.cons_cons _ (List.Sublist.cons_cons _ (List.Sublist.cons_cons _ (List.Sublist.cons_cons _ (List.Sublist.cons _ (List.Sublist.refl _)))))))) ?_
      exact At.meet () (FLe.trans hF66 hF75) ⟨rfl, rfl, rfl, rfl, trivial⟩ rfl (some_inj H)
    rintro F77 _u hF78 hy
    subst hy
    refine Cd.as (e' := [(6, .pointer (some ⟨b5, 0, none⟩)), (7, .pointer (some ⟨b7, 0, none⟩)), (11, Sl.v s17), (12, .int .i64 r15.2)]) (L' := (.own s17 23 1 (encs r15.1)) :: (.own s11 23 1 (encs r9.1)) :: (.blk b7 (enc a3) 3) :: (.blk b5 (enc a2) 3) :: (.blk b3 (enc a1) 3) :: (.blk b1 (enc s_a0) 36) :: L) ⟨rfl, rfl, rfl, rfl, trivial⟩ rfl ?_
    replace H := HKo53
    refine Cd.seq ?_
    refine Cd.seq ?_
    refine Cd.region ?_
    refine Lst.run rfl rfl (by decide) (Ev.load (i := 3) rfl rfl Try.isAgg3 (v := .int .i64 a2) (Get.here _)) ?_
    refine Lst.run rfl rfl (by decide) (Ev.lss rfl rfl) ?_
    refine Lst.run rfl rfl (by decide) (Ev.move rfl) ?_
    obtain ⟨o79, H, HKo79⟩ := bind_some H
    refine Lst.join (σ := Bool) 3 (fun y80 => [(6, .pointer (some ⟨b5, 0, none⟩)), (7, .pointer (some ⟨b7, 0, none⟩)), (11, Sl.v s17), (12, .int .i64 r15.2), (86, .bool y80)]) (fun y80 => (.own s17 23 1 (encs r15.1)) :: (.own s11 23 1 (encs r9.1)) :: (.blk b7 (enc a3) 3) :: (.blk b5 (enc a2) 3) :: (.blk b3 (enc a1) 3) :: (.blk b1 (enc s_a0) 36) :: L) (fun _ y80 => y80 = o79) ?_ ?_
    · rcases Bool.eq_false_or_eq_true (decide (a2 < (1 : Int))) with hb81 | hb81
      · replace H := ite_t hb81 H
        refine Lst.skip rfl rfl rfl hb81 rfl (by decide) ?_
        refine Lst.skip rfl rfl rfl hb81 rfl (by decide) ?_
        refine Lst.run rfl rfl (by decide) (Ev.pickT rfl hb81 rfl) ?_
        refine Lst.nil ?_
        exact At.meet true (FLe.refl _) ⟨rfl, rfl, rfl, rfl, rfl, trivial⟩ rfl (some_inj H)
      replace H := ite_f hb81 H
      refine Lst.runG rfl rfl rfl hb81 rfl (by decide) (Ev.load (i := 2) rfl rfl Try.isAgg3 (v := .int .i64 a3) (Get.here _)) ?_
      refine Lst.runG rfl rfl rfl hb81 rfl (by decide) (Ev.lss rfl rfl) ?_
      refine Lst.run rfl rfl (by decide) (Ev.pickF rfl hb81 rfl) ?_
      refine Lst.nil ?_
      exact At.meet (decide (a3 < (1 : Int))) (FLe.refl _) ⟨rfl, rfl, rfl, rfl, rfl, trivial⟩ rfl (some_inj H)
    rintro F82 y80 hF83 hy
    subst hy
    refine Lst.as (e' := [(6, .pointer (some ⟨b5, 0, none⟩)), (7, .pointer (some ⟨b7, 0, none⟩)), (11, Sl.v s17), (12, .int .i64 r15.2), (86, .bool y80)]) (L' := (.own s17 23 1 (encs r15.1)) :: (.own s11 23 1 (encs r9.1)) :: (.blk b7 (enc a3) 3) :: (.blk b5 (enc a2) 3) :: (.blk b3 (enc a1) 3) :: (.blk b1 (enc s_a0) 36) :: L) ⟨rfl, rfl, rfl, rfl, rfl, trivial⟩ rfl ?_
    replace H := HKo79
    refine Lst.run rfl rfl (by decide) (Ev.move rfl) ?_
    obtain ⟨o84, H, HKo84⟩ := bind_some H
    refine Lst.join (σ := Bool) 3 (fun y85 => [(6, .pointer (some ⟨b5, 0, none⟩)), (7, .pointer (some ⟨b7, 0, none⟩)), (11, Sl.v s17), (12, .int .i64 r15.2), (90, .bool y85)]) (fun y85 => (.own s17 23 1 (encs r15.1)) :: (.own s11 23 1 (encs r9.1)) :: (.blk b7 (enc a3) 3) :: (.blk b5 (enc a2) 3) :: (.blk b3 (enc a1) 3) :: (.blk b1 (enc s_a0) 36) :: L) (fun _ y85 => y85 = o84) ?_ ?_
    · rcases Bool.eq_false_or_eq_true y80 with hb86 | hb86
      · replace H := ite_t hb86 H
        refine Lst.skip rfl rfl rfl hb86 rfl (by decide) ?_
        refine Lst.skip rfl rfl rfl hb86 rfl (by decide) ?_
        refine Lst.run rfl rfl (by decide) (Ev.pickT rfl hb86 rfl) ?_
        refine Lst.nil ?_
        exact At.meet true (FLe.refl _) ⟨rfl, rfl, rfl, rfl, rfl, trivial⟩ rfl (some_inj H)
      replace H := ite_f hb86 H
      refine Lst.runG rfl rfl rfl hb86 rfl (by decide) (Ev.load (i := 3) rfl rfl Try.isAgg3 (v := .int .i64 a2) (Get.here _)) ?_
      refine Lst.runG rfl rfl rfl hb86 rfl (by decide) (Ev.gtr rfl rfl) ?_
      refine Lst.run rfl rfl (by decide) (Ev.pickF rfl hb86 rfl) ?_
      refine Lst.nil ?_
      exact At.meet (decide (a2 > (10 : Int))) (FLe.refl _) ⟨rfl, rfl, rfl, rfl, rfl, trivial⟩ rfl (some_inj H)
    rintro F87 y85 hF88 hy
    subst hy
    refine Lst.as (e' := [(6, .pointer (some ⟨b5, 0, none⟩)), (7, .pointer (some ⟨b7, 0, none⟩)), (11, Sl.v s17), (12, .int .i64 r15.2), (90, .bool y85)]) (L' := (.own s17 23 1 (encs r15.1)) :: (.own s11 23 1 (encs r9.1)) :: (.blk b7 (enc a3) 3) :: (.blk b5 (enc a2) 3) :: (.blk b3 (enc a1) 3) :: (.blk b1 (enc s_a0) 36) :: L) ⟨rfl, rfl, rfl, rfl, rfl, trivial⟩ rfl ?_
    replace H := HKo84
    refine Lst.run rfl rfl (by decide) (Ev.move rfl) ?_
    obtain ⟨o89, H, HKo89⟩ := bind_some H
    refine Lst.join (σ := Bool) 3 (fun y90 => [(6, .pointer (some ⟨b5, 0, none⟩)), (7, .pointer (some ⟨b7, 0, none⟩)), (11, Sl.v s17), (12, .int .i64 r15.2), (94, .bool y90)]) (fun y90 => (.own s17 23 1 (encs r15.1)) :: (.own s11 23 1 (encs r9.1)) :: (.blk b7 (enc a3) 3) :: (.blk b5 (enc a2) 3) :: (.blk b3 (enc a1) 3) :: (.blk b1 (enc s_a0) 36) :: L) (fun _ y90 => y90 = o89) ?_ ?_
    · rcases Bool.eq_false_or_eq_true y85 with hb91 | hb91
      · replace H := ite_t hb91 H
        refine Lst.skip rfl rfl rfl hb91 rfl (by decide) ?_
        refine Lst.skip rfl rfl rfl hb91 rfl (by decide) ?_
        refine Lst.run rfl rfl (by decide) (Ev.pickT rfl hb91 rfl) ?_
        refine Lst.nil ?_
        exact At.meet true (FLe.refl _) ⟨rfl, rfl, rfl, rfl, rfl, trivial⟩ rfl (some_inj H)
      replace H := ite_f hb91 H
      refine Lst.runG rfl rfl rfl hb91 rfl (by decide) (Ev.load (i := 2) rfl rfl Try.isAgg3 (v := .int .i64 a3) (Get.here _)) ?_
      refine Lst.runG rfl rfl rfl hb91 rfl (by decide) (Ev.gtr rfl rfl) ?_
      refine Lst.run rfl rfl (by decide) (Ev.pickF rfl hb91 rfl) ?_
      refine Lst.nil ?_
      exact At.meet (decide (a3 > (10 : Int))) (FLe.refl _) ⟨rfl, rfl, rfl, rfl, rfl, trivial⟩ rfl (some_inj H)
    rintro F92 y90 hF93 hy
    subst hy
    refine Lst.as (e' := [(6, .pointer (some ⟨b5, 0, none⟩)), (7, .pointer (some ⟨b7, 0, none⟩)), (11, Sl.v s17), (12, .int .i64 r15.2), (94, .bool y90)]) (L' := (.own s17 23 1 (encs r15.1)) :: (.own s11 23 1 (encs r9.1)) :: (.blk b7 (enc a3) 3) :: (.blk b5 (enc a2) 3) :: (.blk b3 (enc a1) 3) :: (.blk b1 (enc s_a0) 36) :: L) ⟨rfl, rfl, rfl, rfl, rfl, trivial⟩ rfl ?_
    replace H := HKo89
    refine Lst.run rfl rfl (by decide) (Ev.move rfl) ?_
    obtain ⟨o94, H, HKo94⟩ := bind_some H
    refine Lst.join (σ := Bool) 5 (fun y95 => [(6, .pointer (some ⟨b5, 0, none⟩)), (7, .pointer (some ⟨b7, 0, none⟩)), (11, Sl.v s17), (12, .int .i64 r15.2), (100, .bool y95)]) (fun y95 => (.own s17 23 1 (encs r15.1)) :: (.own s11 23 1 (encs r9.1)) :: (.blk b7 (enc a3) 3) :: (.blk b5 (enc a2) 3) :: (.blk b3 (enc a1) 3) :: (.blk b1 (enc s_a0) 36) :: L) (fun _ y95 => y95 = o94) ?_ ?_
    · rcases Bool.eq_false_or_eq_true y90 with hb96 | hb96
      · replace H := ite_t hb96 H
        refine Lst.skip rfl rfl rfl hb96 rfl (by decide) ?_
        refine Lst.skip rfl rfl rfl hb96 rfl (by decide) ?_
        refine Lst.skip rfl rfl rfl hb96 rfl (by decide) ?_
        refine Lst.skip rfl rfl rfl hb96 rfl (by decide) ?_
        refine Lst.run rfl rfl (by decide) (Ev.pickT rfl hb96 rfl) ?_
        refine Lst.nil ?_
        exact At.meet true (FLe.refl _) ⟨rfl, rfl, rfl, rfl, rfl, trivial⟩ rfl (some_inj H)
      replace H := ite_f hb96 H
      refine Lst.runG rfl rfl rfl hb96 rfl (by decide) (Ev.load (i := 3) rfl rfl Try.isAgg3 (v := .int .i64 a2) (Get.here _)) ?_
      refine Lst.runG rfl rfl rfl hb96 rfl (by decide) (Ev.load (i := 2) rfl rfl Try.isAgg3 (v := .int .i64 a3) (Get.here _)) ?_
      refine Lst.runG rfl rfl rfl hb96 rfl (by decide) (Ev.mul rfl rfl) ?_
      refine Lst.runG rfl rfl rfl hb96 rfl (by decide) (Ev.gtr rfl rfl) ?_
      refine Lst.run rfl rfl (by decide) (Ev.pickF rfl hb96 rfl) ?_
      refine Lst.nil ?_
      exact At.meet (decide ((w64 (a2 * a3)) > (10 : Int))) (FLe.refl _) ⟨rfl, rfl, rfl, rfl, rfl, trivial⟩ rfl (some_inj H)
    rintro F97 y95 hF98 hy
    subst hy
    refine Lst.as (e' := [(6, .pointer (some ⟨b5, 0, none⟩)), (7, .pointer (some ⟨b7, 0, none⟩)), (11, Sl.v s17), (12, .int .i64 r15.2), (100, .bool y95)]) (L' := (.own s17 23 1 (encs r15.1)) :: (.own s11 23 1 (encs r9.1)) :: (.blk b7 (enc a3) 3) :: (.blk b5 (enc a2) 3) :: (.blk b3 (enc a1) 3) :: (.blk b1 (enc s_a0) 36) :: L) ⟨rfl, rfl, rfl, rfl, rfl, trivial⟩ rfl ?_
    replace H := HKo94
    refine Lst.nil ?_
    refine At.then ?_
    rcases Bool.eq_false_or_eq_true y95 with hb99 | hb99
    · replace H := ite_t hb99 H
      refine Cd.condT rfl hb99 ?_
      refine Cd.seq ?_
      refine Cd.region ?_
      refine Lst.run rfl rfl (by decide) (Ev.move rfl) ?_
      refine Lst.run rfl rfl (by decide) (Ev.lenS (α := BitVec 16) (xs := r15.1) (by decide) rfl rfl Try.runUnderlying22 (Rd.own (i := 0) rfl rfl rfl)) ?_
      refine Lst.run rfl rfl (by decide) (Ev.eql rfl rfl) ?_
      refine Lst.run rfl rfl (by decide) (Ev.move rfl) ?_
      obtain ⟨o100, H, HKo100⟩ := bind_some H
      refine Lst.join (σ := Bool) 3 (fun y101 => [(107, .bool y101)]) (fun y101 => (.own s17 23 1 (encs r15.1)) :: (.own s11 23 1 (encs r9.1)) :: (.blk b7 (enc a3) 3) :: (.blk b5 (enc a2) 3) :: (.blk b3 (enc a1) 3) :: (.blk b1 (enc s_a0) 36) :: L) (fun _ y101 => y101 = o100) ?_ ?_
      · rcases (Bool.eq_false_or_eq_true ((r15.1.length : Int) == (0 : Int))).symm with hb102 | hb102
        · replace H := ite_f hb102 H
          refine Lst.skip rfl rfl rfl hb102 rfl (by decide) ?_
          refine Lst.skip rfl rfl rfl hb102 rfl (by decide) ?_
          refine Lst.run rfl rfl (by decide) (Ev.pickF rfl hb102 rfl) ?_
          refine Lst.nil ?_
          exact At.meet false (FLe.refl _) ⟨rfl, trivial⟩ rfl (some_inj H)
        replace H := ite_t hb102 H
        refine Lst.runG rfl rfl rfl hb102 rfl (by decide) (Ev.move rfl) ?_
        refine Lst.runG rfl rfl rfl hb102 rfl (by decide) (Ev.eql rfl rfl) ?_
        refine Lst.run rfl rfl (by decide) (Ev.pickT rfl hb102 rfl) ?_
        refine Lst.nil ?_
        exact At.meet (r15.2 == (1 : Int)) (FLe.refl _) ⟨rfl, trivial⟩ rfl (some_inj H)
      rintro F103 y101 hF104 hy
      subst hy
      refine Lst.as (e' := [(107, .bool y101)]) (L' := (.own s17 23 1 (encs r15.1)) :: (.own s11 23 1 (encs r9.1)) :: (.blk b7 (enc a3) 3) :: (.blk b5 (enc a2) 3) :: (.blk b3 (enc a1) 3) :: (.blk b1 (enc s_a0) 36) :: L) ⟨rfl, trivial⟩ rfl ?_
      replace H := HKo100
      refine Lst.run rfl rfl (by decide) (Ev.assign rfl) ?_
      refine Lst.nil ?_
      refine At.then ?_
      obtain rfl := some_inj H
      refine Cd.ret ?_
      refine At.then_ret ?_
      exact At.ret1 rfl (Res.tmp rfl) (FLe.trans (FLe.trans (FLe.trans (FLe.trans (FLe.trans (FLe.trans (FLe.trans (FLe.trans (FLe.trans (FLe.trans (FLe.trans hF14 hF20) hF25) hF30) hF35) hF39) hF78) hF83) hF88) hF93) hF98) hF104) (List.Sublist.cons _ (List.Sublist.cons _ (List.Sublist.cons _ (List.Sublist.cons _ (List.Sublist.cons _ (List.Sublist.cons _ (List.Sublist.refl _))))))) ⟨rfl, rfl⟩
    replace H := ite_f hb99 H
    refine Cd.condF rfl hb99 ?_
    refine Cd.skip ?_
    refine At.then ?_
    refine Cd.seq ?_
    refine Cd.region ?_
    refine Lst.run rfl rfl (by decide) (Ev.load (i := 3) rfl rfl Try.isAgg3 (v := .int .i64 a2) (Get.here _)) ?_
    refine Lst.run rfl rfl (by decide) (Ev.load (i := 2) rfl rfl Try.isAgg3 (v := .int .i64 a3) (Get.here _)) ?_
    refine Lst.run rfl rfl (by decide) (Ev.mul rfl rfl) ?_
    refine Lst.run rfl rfl (by decide) (Ev.makeFunc (us := []) (vs := [.pointer (some ⟨b5, 0, none⟩), .pointer (some ⟨b7, 0, none⟩)]) trivial ⟨rfl, rfl, trivial⟩) ?_
    obtain ⟨r105, h106, H⟩ := bind_some H
    refine Lst.front (i := 2) rfl (L' := (.blk b7 (enc a3) 3) :: (.own s17 23 1 (encs r15.1)) :: (.own s11 23 1 (encs r9.1)) :: (.blk b5 (enc a2) 3) :: (.blk b3 (enc a1) 3) :: (.blk b1 (enc s_a0) 36) :: L) rfl ?_
    refine Lst.front (i := 3) rfl (L' := (.blk b5 (enc a2) 3) :: (.blk b7 (enc a3) 3) :: (.own s17 23 1 (encs r15.1)) :: (.own s11 23 1 (encs r9.1)) :: (.blk b3 (enc a1) 3) :: (.blk b1 (enc s_a0) 36) :: L) rfl ?_
    refine Lst.call rfl rfl (by decide) (vs := [.int .i64 (w64 (a2 * a3)), .func (.func 21) #[] #[.pointer (some ⟨b5, 0, none⟩), .pointer (some ⟨b7, 0, none⟩)]]) ⟨rfl, rfl, trivial⟩ Try.call12 (partref_LeastSets_QuorumMakes_2_sim h106 w0 _ M _ (List.Sublist.cons _ (List.Sublist.cons _ (List.Sublist.cons _ (List.Sublist.cons _ hM))))) (fun F109 L' v hF110 hv => ?_)
    obtain ⟨s107, rfl, rfl⟩ := hv
    refine Lst.run rfl rfl (by decide) (Ev.assign rfl) ?_
    refine Lst.nil ?_
    refine At.then ?_
    refine Cd.seq ?_
    refine Cd.region ?_
    refine Lst.run rfl rfl (by decide) (Ev.move rfl) ?_
    refine Lst.run rfl rfl (by decide) (Ev.move rfl) ?_
    obtain ⟨r111, h112, H⟩ := bind_some H
    refine Lst.call1 rfl rfl (by decide) (vs := [Sl.v s17, Sl.v s107]) ⟨rfl, rfl, trivial⟩ Try.call16 (slices_Equal_uint16_uint16_sim h112 w0 _ _ _ (List.Sublist.refl _) (Rd.own (i := 3) rfl rfl rfl) (Rd.own (i := 0) rfl rfl rfl)) ?_
    refine Lst.run rfl rfl (by decide) (Ev.move rfl) ?_
    obtain ⟨o115, H, HKo115⟩ := bind_some H
    refine Lst.join (σ := Bool) 3 (fun y116 => [(119, .bool y116)]) (fun y116 => (.own s107 23 1 (encs r105)) :: (.blk b5 (enc a2) 3) :: (.blk b7 (enc a3) 3) :: (.own s17 23 1 (encs r15.1)) :: (.own s11 23 1 (encs r9.1)) :: (.blk b3 (enc a1) 3) :: (.blk b1 (enc s_a0) 36) :: L) (fun _ y116 => y116 = o115) ?_ ?_
    · rcases (Bool.eq_false_or_eq_true r111).symm with hb117 | hb117
      · replace H := ite_f hb117 H
        refine Lst.skip rfl rfl rfl hb117 rfl (by decide) ?_
        refine Lst.skip rfl rfl rfl hb117 rfl (by decide) ?_
        refine Lst.run rfl rfl (by decide) (Ev.pickF rfl hb117 rfl) ?_
        refine Lst.nil ?_
        exact At.meet false (FLe.refl _) ⟨rfl, trivial⟩ rfl (some_inj H)
      replace H := ite_t hb117 H
      refine Lst.runG rfl rfl rfl hb117 rfl (by decide) (Ev.move rfl) ?_
      refine Lst.runG rfl rfl rfl hb117 rfl (by decide) (Ev.eql rfl rfl) ?_
      refine Lst.run rfl rfl (by decide) (Ev.pickT rfl hb117 rfl) ?_
      refine Lst.nil ?_
      exact At.meet (r15.2 == (0 : Int)) (FLe.refl _) ⟨rfl, trivial⟩ rfl (some_inj H)
    rintro F118 y116 hF119 hy
    subst hy
    refine Lst.as (e' := [(119, .bool y116)]) (L' := (.own s107 23 1 (encs r105)) :: (.blk b5 (enc a2) 3) :: (.blk b7 (enc a3) 3) :: (.own s17 23 1 (encs r15.1)) :: (.own s11 23 1 (encs r9.1)) :: (.blk b3 (enc a1) 3) :: (.blk b1 (enc s_a0) 36) :: L) ⟨rfl, trivial⟩ rfl ?_
    replace H := HKo115
    refine Lst.run rfl rfl (by decide) (Ev.assign rfl) ?_
    refine Lst.nil ?_
    refine At.then ?_
    obtain rfl := some_inj H
    refine Cd.ret ?_
    exact At.ret1 rfl (Res.tmp rfl) (FLe.trans (FLe.trans (FLe.trans (FLe.trans (FLe.trans (FLe.trans (FLe.trans (FLe.trans (FLe.trans (FLe.trans (FLe.trans (FLe.trans hF14 hF20) hF25) hF30) hF35) hF39) hF78) hF83) hF88) hF93) hF98) hF110) hF119) (List.Sublist.cons _ (List.Sublist.cons _ (List.Sublist.cons _ (List.Sublist.cons _ (List.Sublist.cons _ (List.Sublist.cons _ (List.Sublist.cons _ (List.Sublist.refl _)))))))) ⟨rfl, rfl⟩
  have hc36 : decide ((i36 : Int) < (a0.length : Int)) = true := decide_eq_true (by omega)
  obtain ⟨c36, H, hgo36⟩ := rangeF_go H
  unfold partlaw_QuorumMakes_B0 at H
  try dsimp only at H
  refine Cd.seq ?_
  refine Cd.region ?_
  refine Lst.run rfl rfl (by decide) (Ev.lss rfl rfl) ?_
  refine Lst.nil ?_
  refine At.then ?_
  refine Cd.seq ?_
  refine Cd.condT rfl hc36 ?_
  refine Cd.skip ?_
  refine At.then ?_
  refine Cd.seq ?_
  refine Cd.block ?_
  refine Cd.seq ?_
  refine Cd.region ?_
  obtain ⟨x40, h41, H⟩ := bind_some H
  have g42 := lat_some h41
  refine Lst.run rfl rfl (by decide) (Ev.indexS (α := Int) (xs := a0) rfl rfl Try.runUnderlying36 Try.sizeOf3 rfl (by decide) (hs_a0.mono (FLe.trans (FLe.trans (FLe.trans (FLe.trans (FLe.trans hF14 hF20) hF25) hF30) hF35) hF39) (List.Sublist.cons _ (List.Sublist.cons _ (List.Sublist.cons _ (List.Sublist.cons _ (List.Sublist.cons _ (List.Sublist.cons _ hM))))))) g42.1 g42.2.1) ?_
  refine Lst.run rfl rfl (by decide) (Ev.loadS (α := Int) rfl (hs_a0.mono (FLe.trans (FLe.trans (FLe.trans (FLe.trans (FLe.trans hF14 hF20) hF25) hF30) hF35) hF39) (List.Sublist.cons _ (List.Sublist.cons _ (List.Sublist.cons _ (List.Sublist.cons _ (List.Sublist.cons _ (List.Sublist.cons _ hM))))))) Try.isAgg3 (v := .int .i64 x40) ((Get.elemN (s := 1) (x := x40) rfl g42.2.2 (Get.here _)).off (by omega))) ?_
  refine Lst.run rfl rfl (by decide) (Ev.assign rfl) ?_
  refine Lst.nil ?_
  refine At.then ?_
  refine Cd.region ?_
  refine Lst.run rfl rfl (by decide) (Ev.move rfl) ?_
  refine Lst.run rfl rfl (by decide) (Ev.move rfl) ?_
  obtain ⟨o43, H, HKo43⟩ := bind_some H
  refine Lst.join (σ := Bool) 3 (fun y44 => [(4, .pointer (some ⟨b1, 0, none⟩)), (5, .pointer (some ⟨b3, 0, none⟩)), (6, .pointer (some ⟨b5, 0, none⟩)), (7, .pointer (some ⟨b7, 0, none⟩)), (9, Sl.v s11), (10, .int .i64 r9.2), (11, Sl.v s17), (12, .int .i64 r15.2), (13, .bool y37), (15, .int .i64 x40), (45, Sl.v s_a0), (46, .int .i64 (a0.length : Int)), (47, .int .i64 (i36 : Int)), (55, .bool y44)]) (fun y44 => (.own s17 23 1 (encs r15.1)) :: (.own s11 23 1 (encs r9.1)) :: (.blk b7 (enc a3) 3) :: (.blk b5 (enc a2) 3) :: (.blk b3 (enc a1) 3) :: (.blk b1 (enc s_a0) 36) :: L) (fun _ y44 => y44 = o43) ?_ ?_
  · rcases (Bool.eq_false_or_eq_true y37).symm with hb45 | hb45
    · replace H := ite_f hb45 H
      refine Lst.skip rfl rfl rfl hb45 rfl (by decide) ?_
      refine Lst.skip rfl rfl rfl hb45 rfl (by decide) ?_
      refine Lst.run rfl rfl (by decide) (Ev.pickF rfl hb45 rfl) ?_
      refine Lst.nil ?_
      exact At.meet false (FLe.refl _) ⟨rfl, rfl, rfl, rfl, rfl, rfl, rfl, rfl, rfl, rfl, rfl, rfl, rfl, rfl, trivial⟩ rfl (some_inj H)
    replace H := ite_t hb45 H
    refine Lst.runG rfl rfl rfl hb45 rfl (by decide) (Ev.move rfl) ?_
    refine Lst.runG rfl rfl rfl hb45 rfl (by decide) (Ev.geq rfl rfl) ?_
    refine Lst.run rfl rfl (by decide) (Ev.pickT rfl hb45 rfl) ?_
    refine Lst.nil ?_
    exact At.meet (decide (x40 ≥ (0 : Int))) (FLe.refl _) ⟨rfl, rfl, rfl, rfl, rfl, rfl, rfl, rfl, rfl, rfl, rfl, rfl, rfl, rfl, trivial⟩ rfl (some_inj H)
  rintro F46 y44 hF47 hy
  subst hy
  refine Lst.as (e' := [(4, .pointer (some ⟨b1, 0, none⟩)), (5, .pointer (some ⟨b3, 0, none⟩)), (6, .pointer (some ⟨b5, 0, none⟩)), (7, .pointer (some ⟨b7, 0, none⟩)), (9, Sl.v s11), (10, .int .i64 r9.2), (11, Sl.v s17), (12, .int .i64 r15.2), (13, .bool y37), (15, .int .i64 x40), (45, Sl.v s_a0), (46, .int .i64 (a0.length : Int)), (47, .int .i64 (i36 : Int)), (55, .bool y44)]) (L' := (.own s17 23 1 (encs r15.1)) :: (.own s11 23 1 (encs r9.1)) :: (.blk b7 (enc a3) 3) :: (.blk b5 (enc a2) 3) :: (.blk b3 (enc a1) 3) :: (.blk b1 (enc s_a0) 36) :: L) ⟨rfl, rfl, rfl, rfl, rfl, rfl, rfl, rfl, rfl, rfl, rfl, rfl, rfl, rfl, trivial⟩ rfl ?_
  replace H := HKo43
  refine Lst.run rfl rfl (by decide) (Ev.move rfl) ?_
  obtain ⟨o48, H, HKo48⟩ := bind_some H
  refine Lst.join (σ := Bool) 3 (fun y49 => [(4, .pointer (some ⟨b1, 0, none⟩)), (5, .pointer (some ⟨b3, 0, none⟩)), (6, .pointer (some ⟨b5, 0, none⟩)), (7, .pointer (some ⟨b7, 0, none⟩)), (9, Sl.v s11), (10, .int .i64 r9.2), (11, Sl.v s17), (12, .int .i64 r15.2), (13, .bool y37), (45, Sl.v s_a0), (46, .int .i64 (a0.length : Int)), (47, .int .i64 (i36 : Int)), (59, .bool y49)]) (fun y49 => (.own s17 23 1 (encs r15.1)) :: (.own s11 23 1 (encs r9.1)) :: (.blk b7 (enc a3) 3) :: (.blk b5 (enc a2) 3) :: (.blk b3 (enc a1) 3) :: (.blk b1 (enc s_a0) 36) :: L) (fun _ y49 => y49 = o48) ?_ ?_
  · rcases (Bool.eq_false_or_eq_true y44).symm with hb50 | hb50
    · replace H := ite_f hb50 H
      refine Lst.skip rfl rfl rfl hb50 rfl (by decide) ?_
      refine Lst.skip rfl rfl rfl hb50 rfl (by decide) ?_
      refine Lst.run rfl rfl (by decide) (Ev.pickF rfl hb50 rfl) ?_
      refine Lst.nil ?_
      exact At.meet false (FLe.refl _) ⟨rfl, rfl, rfl, rfl, rfl, rfl, rfl, rfl, rfl, rfl, rfl, rfl, rfl, trivial⟩ rfl (some_inj H)
    replace H := ite_t hb50 H
    refine Lst.runG rfl rfl rfl hb50 rfl (by decide) (Ev.move rfl) ?_
    refine Lst.runG rfl rfl rfl hb50 rfl (by decide) (Ev.leq rfl rfl) ?_
    refine Lst.run rfl rfl (by decide) (Ev.pickT rfl hb50 rfl) ?_
    refine Lst.nil ?_
    exact At.meet (decide (x40 ≤ (16777215 : Int))) (FLe.refl _) ⟨rfl, rfl, rfl, rfl, rfl, rfl, rfl, rfl, rfl, rfl, rfl, rfl, rfl, trivial⟩ rfl (some_inj H)
  rintro F51 y49 hF52 hy
  subst hy
  refine Lst.as (e' := [(4, .pointer (some ⟨b1, 0, none⟩)), (5, .pointer (some ⟨b3, 0, none⟩)), (6, .pointer (some ⟨b5, 0, none⟩)), (7, .pointer (some ⟨b7, 0, none⟩)), (9, Sl.v s11), (10, .int .i64 r9.2), (11, Sl.v s17), (12, .int .i64 r15.2), (13, .bool y37), (45, Sl.v s_a0), (46, .int .i64 (a0.length : Int)), (47, .int .i64 (i36 : Int)), (59, .bool y49)]) (L' := (.own s17 23 1 (encs r15.1)) :: (.own s11 23 1 (encs r9.1)) :: (.blk b7 (enc a3) 3) :: (.blk b5 (enc a2) 3) :: (.blk b3 (enc a1) 3) :: (.blk b1 (enc s_a0) 36) :: L) ⟨rfl, rfl, rfl, rfl, rfl, rfl, rfl, rfl, rfl, rfl, rfl, rfl, rfl, trivial⟩ rfl ?_
  replace H := HKo48
  refine Lst.run rfl rfl (by decide) (Ev.assign rfl) ?_
  refine Lst.nil ?_
  refine At.in_normal ?_
  refine At.then ?_
  refine Cd.region ?_
  refine Lst.run rfl rfl (by decide) (Ev.incr (by omega) rfl rfl) ?_
  refine Lst.run rfl rfl (by decide) (Ev.move rfl) ?_
  refine Lst.nil ?_
  exact At.meet (i36 + 1, k36, y49) (FLe.trans (FLe.trans hF39 hF47) hF52) ⟨rfl, rfl, rfl, rfl, rfl, rfl, rfl, rfl, rfl, rfl, rfl, rfl, trivial⟩ rfl ⟨⟨hgo36 _ (some_inj H).symm, by omega⟩, Nat.lt_succ_self _⟩
end Go.Proofs.Ytnljiedichjagaa
