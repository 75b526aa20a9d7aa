/-
  The functions compute their specs; printed by a program.
-/
import Derived.Test.YtnljiedichjagaaQsSp
import Derived.Test.YtnljiedichjagaaGoL
import Derived.Test.YtnljiedichjagaaGoK
import Derived.Test.YtnljiedichjagaaGoI
import Derived.Test.YtnljiedichjagaaGoU
import Derived.Test.YtnljiedichjagaaGoM
import Derived.Test.YtnljiedichjagaaGoS
import Derived.Test.YtnljiedichjagaaGoR
import Derived.Test.YtnljiedichjagaaProg
namespace Go.Proofs.Ytnljiedichjagaa
open Go.RowKit Enc
set_option linter.unusedVariables false
set_option linter.unusedSimpArgs false
set_option maxRecDepth 20000 in
theorem partref_size_sim {fu : Nat} {a0 : BitVec 16} {r : Int} (H : partref_size fu a0 = some r) (w0 : World) (F : Frz) (M L : List Item) (hM : M.Sublist L) : Ok Try.prog w0 45 [.int .u16 a0.toNat] F (L) (Is (.int .i64 r) (L)) := by
  unfold partref_size at H
  refine Ok.enter (m := 1) (n := 14) Try.func45 rfl rfl rfl (by decide) ?_
  refine Cd.env (e' := [(0, .int .u16 a0.toNat)]) rfl ?_
  refine Cd.seq ?_
  refine Cd.region ?_
  refine Lst.run rfl rfl (by decide) (Ev.assign rfl) ?_
  refine Lst.nil ?_
  refine At.then ?_
  refine Cd.seq ?_
  refine Cd.region ?_
  refine Lst.run rfl rfl (by decide) (Ev.assign rfl) ?_
  refine Lst.nil ?_
  refine At.then ?_
  refine Cd.seq ?_
  refine Cd.block ?_
  obtain ⟨ol1, H, HKl1⟩ := andThen_some H
  refine Cd.loop (σ := Nat × (BitVec 16) × Int) (fun (k1, y2, y3) => [(0, .int .u16 y2.toNat), (3, .int .i64 y3)]) (fun (k1, y2, y3) => L) (fun _ => (fun (k1, y2, y3) => whileM (partref_size_B0) k1 (y2, y3) = some ol1)) (fun (k1, y2, y3) => k1) (fu, a0, (0 : Int)) ⟨rfl, rfl, trivial⟩ rfl H ?_
  rintro F4 ⟨k1, y2, y3⟩ hF5 H
  refine Cd.as (e' := [(0, .int .u16 y2.toNat), (3, .int .i64 y3)]) (L' := L) ⟨rfl, rfl, trivial⟩ rfl ?_
  rcases k1 with _ | k1
  · cases H
  obtain ⟨c1, H, hgo1, hbrk1, hret1⟩ := whileM_go H
  unfold partref_size_B0 at H
  try dsimp only at H
  refine Cd.seq ?_
  refine Cd.seq ?_
  refine Cd.region ?_
  refine Lst.run rfl rfl (by decide) (Ev.move rfl) ?_
  refine Lst.run rfl rfl (by decide) (Ev.gtr rfl rfl) ?_
  refine Lst.nil ?_
  refine At.then ?_
  rcases (Bool.eq_false_or_eq_true (decide ((y2.toNat : Int) > ((0 : BitVec 16).toNat : Int)))).symm with hb6 | hb6
  · replace H := ite_f hb6 H
    refine Cd.condF rfl hb6 ?_
    refine Cd.exit ?_
    refine At.then_exit ?_
    refine At.then_exit ?_
    refine At.in_exit ?_
    have H := hbrk1 _ (some_inj H).symm
    subst H
    replace H := HKl1
    refine At.then ?_
    refine Cd.seq ?_
    refine Cd.region ?_
    refine Lst.run rfl rfl (by decide) (Ev.move rfl) ?_
    refine Lst.run rfl rfl (by decide) (Ev.assign rfl) ?_
    refine Lst.nil ?_
    refine At.then ?_
    obtain rfl := some_inj H
    refine Cd.ret ?_
    exact At.ret1 rfl (Res.tmp rfl) hF5 (List.Sublist.refl _) ⟨rfl, rfl⟩
  replace H := ite_t hb6 H
  refine Cd.condT rfl hb6 ?_
  refine Cd.skip ?_
  refine At.then ?_
  refine Cd.seq ?_
  refine Cd.block ?_
  refine Cd.region ?_
  refine Lst.run rfl rfl (by decide) (Ev.move rfl) ?_
  refine Lst.run rfl rfl (by decide) (Ev.move rfl) ?_
  refine Lst.run rfl rfl (by decide) (Ev.remU16 (i := y2) (j := (2 : BitVec 16)) rfl rfl (by decide)) ?_
  refine Lst.run rfl rfl (by decide) (Ev.convIS (j := ((y2 % (2 : BitVec 16)).toNat : Int)) rfl Try.runUnderlying23 Try.runUnderlying3 (w64_id (by omega) (by omega))) ?_
  refine Lst.run rfl rfl (by decide) (Ev.add rfl rfl) ?_
  refine Lst.run rfl rfl (by decide) (Ev.assign rfl) ?_
  refine Lst.nil ?_
  refine At.in_normal ?_
  refine At.then ?_
  refine Cd.region ?_
  refine Lst.run rfl rfl (by decide) (Ev.move rfl) ?_
  refine Lst.run rfl rfl (by decide) (Ev.quoU16 (i := y2) (j := (2 : BitVec 16)) rfl rfl (by decide)) ?_
  refine Lst.run rfl rfl (by decide) (Ev.assign rfl) ?_
  refine Lst.nil ?_
  exact At.meet (k1, y2 / (2 : BitVec 16), w64 (y3 + ((y2 % (2 : BitVec 16)).toNat : Int))) hF5 ⟨rfl, rfl, trivial⟩ rfl ⟨hgo1 _ (some_inj H).symm, Nat.lt_succ_self _⟩
set_option maxRecDepth 20000 in
theorem partref_QuorumErr_1_sim {a0 : BitVec 16} {a1 : BitVec 16} {b_a1 : Nat} {r : Bool} (H : partref_QuorumErr_1 a0 a1 = some r) (w0 : World) (F : Frz) (M L : List Item) (hM : M.Sublist L) : Ok Try.prog w0 46 [.int .u16 a0.toNat, .pointer (some ⟨b_a1, 0, none⟩)] F ((.blk b_a1 (enc a1) 23) :: L) (Is (.bool r) ((.blk b_a1 (enc a1) 23) :: L)) := by
  unfold partref_QuorumErr_1 at H
  refine Ok.enter (m := 2) (n := 9) Try.func46 rfl rfl rfl (by decide) ?_
  refine Cd.env (e' := [(0, .int .u16 a0.toNat), (1, .pointer (some ⟨b_a1, 0, none⟩))]) rfl ?_
  refine Cd.seq ?_
  refine Cd.region ?_
  refine Lst.run rfl rfl (by decide) (Ev.assign rfl) ?_
  refine Lst.nil ?_
  refine At.then ?_
  refine Cd.seq ?_
  refine Cd.region ?_
  refine Lst.run rfl rfl (by decide) (Ev.load (i := 0) rfl rfl Try.isAgg23 (v := .int .u16 a1.toNat) (Get.here _)) ?_
  refine Lst.run rfl rfl (by decide) (Ev.move rfl) ?_
  refine Lst.run rfl rfl (by decide) (Ev.orU16 (i := a1) (j := a0) rfl rfl) ?_
  refine Lst.run rfl rfl (by decide) (Ev.load (i := 0) rfl rfl Try.isAgg23 (v := .int .u16 a1.toNat) (Get.here _)) ?_
  refine Lst.run rfl rfl (by decide) (Ev.eql rfl rfl) ?_
  refine Lst.run rfl rfl (by decide) (Ev.assign rfl) ?_
  refine Lst.nil ?_
  refine At.then ?_
  obtain rfl := some_inj H
  refine Cd.ret ?_
  exact At.ret1 rfl (Res.tmp rfl) (FLe.refl _) (List.Sublist.cons_cons _ (List.Sublist.refl _)) ⟨rfl, rfl⟩
set_option maxRecDepth 20000 in
theorem slices_IndexFunc_uint16_uint16_QuorumErr_1_sim {a0 : List (BitVec 16)} {a1_c0 : BitVec 16} {s_a0 : Sl} {b_a1_c0 : Nat} {r : Int} (H : slices_IndexFunc_uint16_uint16_QuorumErr_1 a0 a1_c0 = some r) (w0 : World) (F : Frz) (M L : List Item) (hM : M.Sublist L) (hs_a0 : Rd w0 F M s_a0 a0) : Ok Try.prog w0 55 [Sl.v s_a0, .func (.func 46) #[] #[.pointer (some ⟨b_a1_c0, 0, none⟩)]] F ((.blk b_a1_c0 (enc a1_c0) 23) :: L) (Is (.int .i64 r) ((.blk b_a1_c0 (enc a1_c0) 23) :: L)) := by
  unfold slices_IndexFunc_uint16_uint16_QuorumErr_1 at H
  refine Ok.enter (m := 2) (n := 19) Try.func55 rfl rfl rfl (by decide) ?_
  refine Cd.env (e' := [(0, Sl.v s_a0), (1, .func (.func 46) #[] #[.pointer (some ⟨b_a1_c0, 0, none⟩)])]) rfl ?_
  refine Cd.seq ?_
  refine Cd.region ?_
  refine Lst.run rfl rfl (by decide) (Ev.assign rfl) ?_
  refine Lst.nil ?_
  refine At.then ?_
  refine Cd.seq ?_
  refine Cd.seq ?_
  refine Cd.region ?_
  refine Lst.run rfl rfl (by decide) (Ev.move rfl) ?_
  refine Lst.run rfl rfl (by decide) (Ev.lenS (α := BitVec 16) (xs := a0) (by decide) rfl rfl Try.runUnderlying22 (hs_a0.mono (FLe.refl _) (List.Sublist.cons _ hM))) ?_
  refine Lst.run rfl rfl (by decide) (Ev.move rfl) ?_
  refine Lst.nil ?_
  refine At.then ?_
  refine Cd.block ?_
  refine Cd.bound (Rd.le (α := BitVec 16) (xs := a0) (by decide) (hs_a0.mono (FLe.refl _) (List.Sublist.cons _ hM))) (fun hN13 => ?_)
  obtain ⟨ol2, H, HKl2⟩ := andThen_some H
  refine Cd.loop (σ := Nat × Nat × Unit) (fun (i2, k2, _u) => [(0, Sl.v s_a0), (1, .func (.func 46) #[] #[.pointer (some ⟨b_a1_c0, 0, none⟩)]), (7, .int .i64 (a0.length : Int)), (8, .int .i64 (i2 : Int))]) (fun (i2, k2, _u) => (.blk b_a1_c0 (enc a1_c0) 23) :: L) (fun _ => (fun (i2, k2, _u) => rangeM (slices_IndexFunc_uint16_uint16_QuorumErr_1_B0 a0 a1_c0) k2 i2 () = some ol2 ∧ i2 + k2 = a0.length)) (fun (i2, k2, _u) => k2) (0, a0.length, ()) ⟨rfl, rfl, rfl, rfl, trivial⟩ rfl ⟨H, by omega⟩ ?_
  rintro F3 ⟨i2, k2, _u⟩ hF4 ⟨H, hik2⟩
  refine Cd.as (e' := [(0, Sl.v s_a0), (1, .func (.func 46) #[] #[.pointer (some ⟨b_a1_c0, 0, none⟩)]), (7, .int .i64 (a0.length : Int)), (8, .int .i64 (i2 : Int))]) (L' := (.blk b_a1_c0 (enc a1_c0) 23) :: L) ⟨rfl, rfl, rfl, rfl, trivial⟩ rfl ?_
  rcases k2 with _ | k2
  · have hc2 : decide ((i2 : Int) < (a0.length : Int)) = false := decide_eq_false (by omega)
    replace H := rangeM_end H
    refine Cd.seq ?_
    refine Cd.region ?_
    refine Lst.run rfl rfl (by decide) (Ev.lss rfl rfl) ?_
    refine Lst.nil ?_
    refine At.then ?_
    refine Cd.seq ?_
    refine Cd.condF rfl hc2 ?_
    refine Cd.exit ?_
    refine At.then_exit ?_
    refine At.then_exit ?_
    refine At.in_exit ?_
    subst H
    replace H := HKl2
    refine At.then ?_
    refine Cd.seq ?_
    refine Cd.region ?_
    refine Lst.run rfl rfl (by decide) (Ev.assign rfl) ?_
    refine Lst.nil ?_
    refine At.then ?_
    obtain rfl := some_inj H
    refine Cd.ret ?_
    exact At.ret1 rfl (Res.tmp rfl) hF4 (List.Sublist.cons_cons _ (List.Sublist.refl _)) ⟨rfl, rfl⟩
  have hc2 : decide ((i2 : Int) < (a0.length : Int)) = true := decide_eq_true (by omega)
  obtain ⟨c2, H, hgo2, hbrk2, hret2⟩ := rangeM_go H
  unfold slices_IndexFunc_uint16_uint16_QuorumErr_1_B0 at H
  try dsimp only at H
  refine Cd.seq ?_
  refine Cd.region ?_
  refine Lst.run rfl rfl (by decide) (Ev.lss rfl rfl) ?_
  refine Lst.nil ?_
  refine At.then ?_
  refine Cd.seq ?_
  refine Cd.condT rfl hc2 ?_
  refine Cd.skip ?_
  refine At.then ?_
  refine Cd.seq ?_
  refine Cd.block ?_
  refine Cd.seq ?_
  refine Cd.region ?_
  refine Lst.run rfl rfl (by decide) (Ev.move rfl) ?_
  refine Lst.run rfl rfl (by decide) (Ev.assign rfl) ?_
  refine Lst.nil ?_
  refine At.then ?_
  refine Cd.seq ?_
  refine Cd.region ?_
  refine Lst.run rfl rfl (by decide) (Ev.move rfl) ?_
  refine Lst.run rfl rfl (by decide) (Ev.move rfl) ?_
  refine Lst.run rfl rfl (by decide) (Ev.move rfl) ?_
  obtain ⟨x5, h6, H⟩ := bind_some H
  have g7 := lat_some h6
  refine Lst.run rfl rfl (by decide) (Ev.indexS (α := BitVec 16) (xs := a0) rfl rfl Try.runUnderlying22 Try.sizeOf23 rfl (by decide) (hs_a0.mono hF4 (List.Sublist.cons _ hM)) g7.1 g7.2.1) ?_
  refine Lst.run rfl rfl (by decide) (Ev.loadS (α := BitVec 16) rfl (hs_a0.mono hF4 (List.Sublist.cons _ hM)) Try.isAgg23 (v := .int .u16 x5.toNat) ((Get.elemN (s := 1) (x := x5) rfl g7.2.2 (Get.here _)).off (by omega))) ?_
  obtain ⟨r8, h9, H⟩ := bind_some H
  refine Lst.callV1 rfl rfl (by decide) (vs := [.int .u16 x5.toNat]) (cs := [.pointer (some ⟨b_a1_c0, 0, none⟩)]) rfl ⟨rfl, trivial⟩ Try.call46 (partref_QuorumErr_1_sim h9 w0 _ M _ hM) ?_
  refine Lst.nil ?_
  refine At.then ?_
  rcases Bool.eq_false_or_eq_true r8 with hb12 | hb12
  · replace H := ite_t hb12 H
    refine Cd.condT rfl hb12 ?_
    refine Cd.seq ?_
    refine Cd.region ?_
    refine Lst.run rfl rfl (by decide) (Ev.move rfl) ?_
    refine Lst.run rfl rfl (by decide) (Ev.assign rfl) ?_
    refine Lst.nil ?_
    refine At.then ?_
    have H := hret2 _ (some_inj H).symm
    subst H
    replace H := HKl2
    obtain rfl := some_inj H
    refine Cd.ret ?_
    refine At.in_ret ?_
    refine At.then_ret ?_
    refine At.then_ret ?_
    refine At.in_ret ?_
    refine At.then_ret ?_
    exact At.ret1 rfl (Res.tmp rfl) hF4 (List.Sublist.cons_cons _ (List.Sublist.refl _)) ⟨rfl, rfl⟩
  replace H := ite_f hb12 H
  refine Cd.condF rfl hb12 ?_
  refine Cd.skip ?_
  refine At.in_normal ?_
  refine At.then ?_
  refine Cd.region ?_
  refine Lst.run rfl rfl (by decide) (Ev.incr (by omega) rfl rfl) ?_
  refine Lst.run rfl rfl (by decide) (Ev.move rfl) ?_
  refine Lst.nil ?_
  exact At.meet (i2 + 1, k2, ()) hF4 ⟨rfl, rfl, rfl, rfl, trivial⟩ rfl ⟨⟨hgo2 _ (some_inj H).symm, by omega⟩, Nat.lt_succ_self _⟩
set_option maxRecDepth 20000 in
theorem slices_ContainsFunc_uint16_uint16_QuorumErr_1_sim {a0 : List (BitVec 16)} {a1_c0 : BitVec 16} {s_a0 : Sl} {b_a1_c0 : Nat} {r : Bool} (H : slices_ContainsFunc_uint16_uint16_QuorumErr_1 a0 a1_c0 = some r) (w0 : World) (F : Frz) (M L : List Item) (hM : M.Sublist L) (hs_a0 : Rd w0 F M s_a0 a0) : Ok Try.prog w0 14 [Sl.v s_a0, .func (.func 46) #[] #[.pointer (some ⟨b_a1_c0, 0, none⟩)]] F ((.blk b_a1_c0 (enc a1_c0) 23) :: L) (Is (.bool r) ((.blk b_a1_c0 (enc a1_c0) 23) :: L)) := by
  unfold slices_ContainsFunc_uint16_uint16_QuorumErr_1 at H
  refine Ok.enter (m := 2) (n := 9) Try.func14 rfl rfl rfl (by decide) ?_
  refine Cd.env (e' := [(0, Sl.v s_a0), (1, .func (.func 46) #[] #[.pointer (some ⟨b_a1_c0, 0, none⟩)])]) rfl ?_
  refine Cd.seq ?_
  refine Cd.region ?_
  refine Lst.run rfl rfl (by decide) (Ev.assign rfl) ?_
  refine Lst.nil ?_
  refine At.then ?_
  refine Cd.seq ?_
  refine Cd.region ?_
  refine Lst.run rfl rfl (by decide) (Ev.move rfl) ?_
  refine Lst.run rfl rfl (by decide) (Ev.move rfl) ?_
  obtain ⟨r2, h3, H⟩ := bind_some H
  refine Lst.call1 rfl rfl (by decide) (vs := [Sl.v s_a0, .func (.func 46) #[] #[.pointer (some ⟨b_a1_c0, 0, none⟩)]]) ⟨rfl, rfl, trivial⟩ Try.call55 (slices_IndexFunc_uint16_uint16_QuorumErr_1_sim h3 w0 _ M _ hM (hs_a0.mono (FLe.refl _) (List.Sublist.refl _))) ?_
  refine Lst.run rfl rfl (by decide) (Ev.geq rfl rfl) ?_
  refine Lst.run rfl rfl (by decide) (Ev.assign rfl) ?_
  refine Lst.nil ?_
  refine At.then ?_
  obtain rfl := some_inj H
  refine Cd.ret ?_
  exact At.ret1 rfl (Res.tmp rfl) (FLe.refl _) (List.Sublist.cons_cons _ (List.Sublist.refl _)) ⟨rfl, rfl⟩
set_option maxRecDepth 20000 in
theorem partref_QuorumErr_sim {fu : Nat} {a0 : Int} {a1 : List (BitVec 16)} {s_a1 : Sl} {r : Int} (H : partref_QuorumErr fu a0 a1 = some r) (w0 : World) (F : Frz) (M L : List Item) (hM : M.Sublist L) (hs_a1 : Rd w0 F M s_a1 a1) : Ok Try.prog w0 7 [.int .i64 a0, Sl.v s_a1] F (L) (Is (.int .i64 r) (L)) := by
  unfold partref_QuorumErr at H
  refine Ok.enter (m := 2) (n := 69) Try.func7 rfl rfl rfl (by decide) ?_
  refine Cd.env (e' := [(0, .int .i64 a0), (1, Sl.v s_a1)]) rfl ?_
  refine Cd.seq ?_
  refine Cd.region ?_
  refine Lst.run rfl rfl (by decide) (Ev.assign rfl) ?_
  refine Lst.nil ?_
  refine At.then ?_
  refine Cd.seq ?_
  refine Cd.seq ?_
  refine Cd.region ?_
  refine Lst.run rfl rfl (by decide) (Ev.move rfl) ?_
  refine Lst.run rfl rfl (by decide) (Ev.lss rfl rfl) ?_
  refine Lst.run rfl rfl (by decide) (Ev.move rfl) ?_
  obtain ⟨o1, H, HKo1⟩ := bind_some H
  refine Lst.join (σ := Bool) 3 (fun y2 => [(0, .int .i64 a0), (1, Sl.v s_a1), (12, .bool y2)]) (fun y2 => L) (fun _ y2 => y2 = o1) ?_ ?_
  · rcases Bool.eq_false_or_eq_true (decide (a0 < (1 : Int))) with hb3 | hb3
    · replace H := ite_t hb3 H
      refine Lst.skip rfl rfl rfl hb3 rfl (by decide) ?_
      refine Lst.skip rfl rfl rfl hb3 rfl (by decide) ?_
      refine Lst.run rfl rfl (by decide) (Ev.pickT rfl hb3 rfl) ?_
      refine Lst.nil ?_
      exact At.meet true (FLe.refl _) ⟨rfl, rfl, rfl, trivial⟩ rfl (some_inj H)
    replace H := ite_f hb3 H
    refine Lst.runG rfl rfl rfl hb3 rfl (by decide) (Ev.move rfl) ?_
    refine Lst.runG rfl rfl rfl hb3 rfl (by decide) (Ev.gtr rfl rfl) ?_
    refine Lst.run rfl rfl (by decide) (Ev.pickF rfl hb3 rfl) ?_
    refine Lst.nil ?_
    exact At.meet (decide (a0 > (10 : Int))) (FLe.refl _) ⟨rfl, rfl, rfl, trivial⟩ rfl (some_inj H)
  rintro F4 y2 hF5 hy
  subst hy
  refine Lst.as (e' := [(0, .int .i64 a0), (1, Sl.v s_a1), (12, .bool y2)]) (L' := L) ⟨rfl, rfl, rfl, trivial⟩ rfl ?_
  replace H := HKo1
  refine Lst.nil ?_
  refine At.then ?_
  rcases Bool.eq_false_or_eq_true y2 with hb6 | hb6
  · replace H := ite_t hb6 H
    refine Cd.condT rfl hb6 ?_
    refine Cd.seq ?_
    refine Cd.region ?_
    refine Lst.run rfl rfl (by decide) (Ev.assign rfl) ?_
    refine Lst.nil ?_
    refine At.then ?_
    obtain rfl := some_inj H
    refine Cd.ret ?_
    refine At.then_ret ?_
    exact At.ret1 rfl (Res.tmp rfl) hF5 (List.Sublist.refl _) ⟨rfl, rfl⟩
  replace H := ite_f hb6 H
  refine Cd.condF rfl hb6 ?_
  refine Cd.skip ?_
  refine At.then ?_
  refine Cd.seq ?_
  refine Cd.seq ?_
  refine Cd.region ?_
  refine Lst.run rfl rfl (by decide) (Ev.move rfl) ?_
  refine Lst.run rfl rfl (by decide) (Ev.lenS (α := BitVec 16) (xs := a1) (by decide) rfl rfl Try.runUnderlying22 (hs_a1.mono hF5 hM)) ?_
  refine Lst.run rfl rfl (by decide) (Ev.gtr rfl rfl) ?_
  refine Lst.nil ?_
  refine At.then ?_
  rcases Bool.eq_false_or_eq_true (decide ((a1.length : Int) > (300 : Int))) with hb7 | hb7
  · replace H := ite_t hb7 H
    refine Cd.condT rfl hb7 ?_
    refine Cd.seq ?_
    refine Cd.region ?_
    refine Lst.run rfl rfl (by decide) (Ev.assign rfl) ?_
    refine Lst.nil ?_
    refine At.then ?_
    obtain rfl := some_inj H
    refine Cd.ret ?_
    refine At.then_ret ?_
    exact At.ret1 rfl (Res.tmp rfl) hF5 (List.Sublist.refl _) ⟨rfl, rfl⟩
  replace H := ite_f hb7 H
  refine Cd.condF rfl hb7 ?_
  refine Cd.skip ?_
  refine At.then ?_
  refine Cd.seq ?_
  refine Cd.seq ?_
  refine Cd.region ?_
  refine Lst.run rfl rfl (by decide) (Ev.move rfl) ?_
  refine Lst.run rfl rfl (by decide) (Ev.lenS (α := BitVec 16) (xs := a1) (by decide) rfl rfl Try.runUnderlying22 (hs_a1.mono hF5 hM)) ?_
  refine Lst.run rfl rfl (by decide) (Ev.move rfl) ?_
  refine Lst.nil ?_
  refine At.then ?_
  refine Cd.block ?_
  refine Cd.bound (Rd.le (α := BitVec 16) (xs := a1) (by decide) (hs_a1.mono hF5 hM)) (fun hN67 => ?_)
  obtain ⟨ol8, H, HKl8⟩ := andThen_some H
  refine Cd.loop (σ := Nat × Nat × Unit) (fun (i8, k8, _u) => [(0, .int .i64 a0), (1, Sl.v s_a1), (16, Sl.v s_a1), (17, .int .i64 (a1.length : Int)), (18, .int .i64 (i8 : Int))]) (fun (i8, k8, _u) => L) (fun _ => (fun (i8, k8, _u) => rangeM (partref_QuorumErr_B0 fu a0 a1) k8 i8 () = some ol8 ∧ i8 + k8 = a1.length)) (fun (i8, k8, _u) => k8) (0, a1.length, ()) ⟨rfl, rfl, rfl, rfl, rfl, trivial⟩ rfl ⟨H, by omega⟩ ?_
  rintro F9 ⟨i8, k8, _u⟩ hF10 ⟨H, hik8⟩
  refine Cd.as (e' := [(0, .int .i64 a0), (1, Sl.v s_a1), (16, Sl.v s_a1), (17, .int .i64 (a1.length : Int)), (18, .int .i64 (i8 : Int))]) (L' := L) ⟨rfl, rfl, rfl, rfl, rfl, trivial⟩ rfl ?_
  rcases k8 with _ | k8
  · have hc8 : decide ((i8 : Int) < (a1.length : Int)) = false := decide_eq_false (by omega)
    replace H := rangeM_end H
    refine Cd.seq ?_
    refine Cd.region ?_
    refine Lst.run rfl rfl (by decide) (Ev.lss rfl rfl) ?_
    refine Lst.nil ?_
    refine At.then ?_
    refine Cd.seq ?_
    refine Cd.condF rfl hc8 ?_
    refine Cd.exit ?_
    refine At.then_exit ?_
    refine At.then_exit ?_
    refine At.in_exit ?_
    subst H
    replace H := HKl8
    refine At.then ?_
    refine Cd.seq ?_
    refine Cd.region ?_
    refine Lst.run rfl rfl (by decide) (Ev.assign rfl) ?_
    refine Lst.nil ?_
    refine At.then ?_
    obtain rfl := some_inj H
    refine Cd.ret ?_
    exact At.ret1 rfl (Res.tmp rfl) (FLe.trans hF5 hF10) (List.Sublist.refl _) ⟨rfl, rfl⟩
  have hc8 : decide ((i8 : Int) < (a1.length : Int)) = true := decide_eq_true (by omega)
  obtain ⟨c8, H, hgo8, hbrk8, hret8⟩ := rangeM_go H
  unfold partref_QuorumErr_B0 at H
  try dsimp only at H
  refine Cd.seq ?_
  refine Cd.region ?_
  refine Lst.run rfl rfl (by decide) (Ev.lss rfl rfl) ?_
  refine Lst.nil ?_
  refine At.then ?_
  refine Cd.seq ?_
  refine Cd.condT rfl hc8 ?_
  refine Cd.skip ?_
  refine At.then ?_
  refine Cd.seq ?_
  refine Cd.block ?_
  refine Cd.seq ?_
  refine Cd.region ?_
  refine Lst.run rfl rfl (by decide) (Ev.move rfl) ?_
  obtain ⟨x11, h12, H⟩ := bind_some H
  have g13 := lat_some h12
  refine Lst.run rfl rfl (by decide) (Ev.indexS (α := BitVec 16) (xs := a1) rfl rfl Try.runUnderlying22 Try.sizeOf23 rfl (by decide) (hs_a1.mono (FLe.trans hF5 hF10) hM) g13.1 g13.2.1) ?_
  refine Lst.run rfl rfl (by decide) (Ev.loadS (α := BitVec 16) rfl (hs_a1.mono (FLe.trans hF5 hF10) hM) Try.isAgg23 (v := .int .u16 x11.toNat) ((Get.elemN (s := 1) (x := x11) rfl g13.2.2 (Get.here _)).off (by omega))) ?_
  refine Lst.alloc (cs := enc (0 : BitVec 16)) rfl rfl (by decide) Try.zeroValue23 rfl (fun b14 => ?_)
  refine Lst.run rfl rfl (by decide) (Ev.assign rfl) ?_
  refine Lst.store (i := 0) rfl rfl rfl rfl rfl Try.sizeOf23 (vs := [.int .u16 x11.toNat]) rfl rfl rfl (cs' := enc x11) (Put.here (vs := [.int .u16 x11.toNat]) rfl) (L' := (.blk b14 (enc x11) 23) :: L) rfl ?_
  refine Lst.nil ?_
  refine At.then ?_
  refine Cd.seq ?_
  refine Cd.seq ?_
  refine Cd.quiet (by kernel_rfl) (by kernel_rfl) ?_
  refine Qt.run rfl rfl (by decide) (Ev.load (i := 0) rfl rfl Try.isAgg23 (v := .int .u16 x11.toNat) (Get.here _)) ?_
  refine Qt.run rfl rfl (by decide) (Ev.convIS (j := (x11.toNat : Int)) rfl Try.runUnderlying23 Try.runUnderlying3 (w64_id (by omega) (by omega))) ?_
  refine Qt.run rfl rfl (by decide) (Ev.move rfl) ?_
  obtain ⟨n16, h17, H⟩ := bind_some H
  refine Qt.run rfl rfl (by decide) (Ev.shl64 (i := (1 : Int)) (m := n16) rfl (congrArg some (congrArg (Value.int .i64) (cnt_some h17)))) ?_
  refine Qt.run rfl rfl (by decide) (Ev.geq rfl rfl) ?_
  refine Qt.done ?_
  refine At.then ?_
  rcases Bool.eq_false_or_eq_true (decide ((x11.toNat : Int) ≥ (w64 ((1 : Int) * 2 ^ (min n16 64))))) with hb19 | hb19
  · replace H := ite_t hb19 H
    refine Cd.condT rfl hb19 ?_
    refine Cd.seq ?_
    refine Cd.as (e' := []) (L' := (.blk b14 (enc x11) 23) :: L) trivial rfl ?_
    refine Cd.region ?_
    refine Lst.run rfl rfl (by decide) (Ev.assign rfl) ?_
    refine Lst.nil ?_
    refine At.then ?_
    have H := hret8 _ (some_inj H).symm
    subst H
    replace H := HKl8
    obtain rfl := some_inj H
    refine Cd.ret ?_
    refine At.then_ret ?_
    refine At.in_ret ?_
    refine At.then_ret ?_
    refine At.then_ret ?_
    refine At.in_ret ?_
    refine At.then_ret ?_
    exact At.ret1 rfl (Res.tmp rfl) (FLe.trans hF5 hF10) (List.Sublist.cons _ (List.Sublist.refl _)) ⟨rfl, rfl⟩
  replace H := ite_f hb19 H
  refine Cd.condF rfl hb19 ?_
  refine Cd.skip ?_
  refine At.then ?_
  refine Cd.seq ?_
  refine Cd.quiet (by kernel_rfl) (by kernel_rfl) ?_
  refine Qt.run rfl rfl (by decide) (Ev.move rfl) ?_
  refine Qt.run rfl rfl (by decide) (Ev.gtr rfl rfl) ?_
  refine Qt.run rfl rfl (by decide) (Ev.move rfl) ?_
  obtain ⟨o20, H, HKo20⟩ := bind_some H
  refine Qt.join (σ := Bool) 30 (fun y21 => [(0, .int .i64 a0), (1, Sl.v s_a1), (5, .int .i64 (i8 : Int)), (6, .pointer (some ⟨b14, 0, none⟩)), (16, Sl.v s_a1), (17, .int .i64 (a1.length : Int)), (18, .int .i64 (i8 : Int)), (60, .bool y21)]) (fun y21 => y21 = o20) ?_ ?_
  · rcases (Bool.eq_false_or_eq_true (decide ((i8 : Int) > (0 : Int)))).symm with hb22 | hb22
    · replace H := ite_f hb22 H
      refine Qt.skip rfl rfl rfl hb22 rfl (by decide) ?_
      refine Qt.skip rfl rfl rfl hb22 rfl (by decide) ?_
      refine Qt.skip rfl rfl rfl hb22 rfl (by decide) ?_
      refine Qt.skip rfl rfl rfl hb22 rfl (by decide) ?_
      refine Qt.skip rfl rfl rfl hb22 rfl (by decide) ?_
      refine Qt.skip rfl rfl rfl hb22 rfl (by decide) ?_
      refine Qt.skip rfl rfl rfl hb22 rfl (by decide) ?_
      refine Qt.skip rfl rfl rfl hb22 rfl (by decide) ?_
      refine Qt.skip rfl rfl rfl hb22 rfl (by decide) ?_
      refine Qt.skip rfl rfl rfl hb22 rfl (by decide) ?_
      refine Qt.skipU rfl rfl rfl rfl (by decide) ?_
      refine Qt.skipU rfl rfl rfl rfl (by decide) ?_
      refine Qt.skipU rfl rfl rfl rfl (by decide) ?_
      refine Qt.skipU rfl rfl rfl rfl (by decide) ?_
      refine Qt.skipU rfl rfl rfl rfl (by decide) ?_
      refine Qt.skipU rfl rfl rfl rfl (by decide) ?_
      refine Qt.skipU rfl rfl rfl rfl (by decide) ?_
      refine Qt.skipU rfl rfl rfl rfl (by decide) ?_
      refine Qt.skipU rfl rfl rfl rfl (by decide) ?_
      refine Qt.skipU rfl rfl rfl rfl (by decide) ?_
      refine Qt.skipU rfl rfl rfl rfl (by decide) ?_
      refine Qt.skipU rfl rfl rfl rfl (by decide) ?_
      refine Qt.skipU rfl rfl rfl rfl (by decide) ?_
      refine Qt.skipU rfl rfl rfl rfl (by decide) ?_
      refine Qt.skipU rfl rfl rfl rfl (by decide) ?_
      refine Qt.skipU rfl rfl rfl rfl (by decide) ?_
      refine Qt.skipU rfl rfl rfl rfl (by decide) ?_
      refine Qt.skipU rfl rfl rfl rfl (by decide) ?_
      refine Qt.skip rfl rfl rfl hb22 rfl (by decide) ?_
      refine Qt.run rfl rfl (by decide) (Ev.pickF rfl hb22 rfl) ?_
      exact Qt.meet false ⟨rfl, rfl, rfl, rfl, rfl, rfl, rfl, rfl, trivial⟩ (some_inj H)
    replace H := ite_t hb22 H
    refine Qt.runG rfl rfl rfl hb22 rfl (by decide) (Ev.load (i := 0) rfl rfl Try.isAgg23 (v := .int .u16 x11.toNat) (Get.here _)) ?_
    obtain ⟨r23, h24, H⟩ := bind_some H
    refine Qt.callG rfl rfl rfl hb22 rfl (by decide) (vs := [.int .u16 x11.toNat]) ⟨rfl, trivial⟩ Try.call45 (partref_size_sim h24 w0 _ M _ (List.Sublist.cons _ hM)) ?_
    refine Qt.runG rfl rfl rfl hb22 rfl (by decide) (Ev.move rfl) ?_
    refine Qt.runG rfl rfl rfl hb22 rfl (by decide) (Ev.move rfl) ?_
    refine Qt.runG rfl rfl rfl hb22 rfl (by decide) (Ev.sub rfl rfl) ?_
    obtain ⟨x27, h28, H⟩ := bind_some H
    have g29 := lat_some h28
    refine Qt.runG rfl rfl rfl hb22 rfl (by decide) (Ev.indexS (α := BitVec 16) (xs := a1) rfl rfl Try.runUnderlying22 Try.sizeOf23 rfl (by decide) (hs_a1.mono (FLe.trans hF5 hF10) (List.Sublist.cons _ hM)) g29.1 g29.2.1) ?_
    refine Qt.runG rfl rfl rfl hb22 rfl (by decide) (Ev.loadS (α := BitVec 16) rfl (hs_a1.mono (FLe.trans hF5 hF10) (List.Sublist.cons _ hM)) Try.isAgg23 (v := .int .u16 x27.toNat) ((Get.elemN (s := 1) (x := x27) rfl g29.2.2 (Get.here _)).off (by omega))) ?_
    obtain ⟨r30, h31, H⟩ := bind_some H
    refine Qt.callG rfl rfl rfl hb22 rfl (by decide) (vs := [.int .u16 x27.toNat]) ⟨rfl, trivial⟩ Try.call45 (partref_size_sim h31 w0 _ M _ (List.Sublist.cons _ hM)) ?_
    refine Qt.runG rfl rfl rfl hb22 rfl (by decide) (Ev.lss rfl rfl) ?_
    refine Qt.runG rfl rfl rfl hb22 rfl (by decide) (Ev.move rfl) ?_
    obtain ⟨o34, H, HKo34⟩ := bind_some H
    refine Qt.join (σ := Bool) 19 (fun y35 => [(0, .int .i64 a0), (1, Sl.v s_a1), (5, .int .i64 (i8 : Int)), (6, .pointer (some ⟨b14, 0, none⟩)), (16, Sl.v s_a1), (17, .int .i64 (a1.length : Int)), (18, .int .i64 (i8 : Int)), (30, .bool (decide ((i8 : Int) > (0 : Int)))), (59, .bool y35)]) (fun y35 => y35 = o34) ?_ ?_
    · rcases Bool.eq_false_or_eq_true (decide (r23 < r30)) with hb36 | hb36
      · replace H := ite_t hb36 H
        refine Qt.skip rfl rfl rfl hb36 rfl (by decide) ?_
        refine Qt.skip rfl rfl rfl hb36 rfl (by decide) ?_
        refine Qt.skip rfl rfl rfl hb36 rfl (by decide) ?_
        refine Qt.skip rfl rfl rfl hb36 rfl (by decide) ?_
        refine Qt.skip rfl rfl rfl hb36 rfl (by decide) ?_
        refine Qt.skip rfl rfl rfl hb36 rfl (by decide) ?_
        refine Qt.skip rfl rfl rfl hb36 rfl (by decide) ?_
        refine Qt.skip rfl rfl rfl hb36 rfl (by decide) ?_
        refine Qt.skip rfl rfl rfl hb36 rfl (by decide) ?_
        refine Qt.skip rfl rfl rfl hb36 rfl (by decide) ?_
        refine Qt.skipU rfl rfl rfl rfl (by decide) ?_
        refine Qt.skipU rfl rfl rfl rfl (by decide) ?_
        refine Qt.skipU rfl rfl rfl rfl (by decide) ?_
        refine Qt.skipU rfl rfl rfl rfl (by decide) ?_
        refine Qt.skipU rfl rfl rfl rfl (by decide) ?_
        refine Qt.skipU rfl rfl rfl rfl (by decide) ?_
        refine Qt.skipU rfl rfl rfl rfl (by decide) ?_
        refine Qt.skip rfl rfl rfl hb36 rfl (by decide) ?_
        refine Qt.runG rfl rfl rfl hb22 rfl (by decide) (Ev.pickT rfl hb36 rfl) ?_
        exact Qt.meet true ⟨rfl, rfl, rfl, rfl, rfl, rfl, rfl, rfl, rfl, trivial⟩ (some_inj H)
      replace H := ite_f hb36 H
      refine Qt.runG rfl rfl rfl hb36 rfl (by decide) (Ev.load (i := 0) rfl rfl Try.isAgg23 (v := .int .u16 x11.toNat) (Get.here _)) ?_
      obtain ⟨r37, h38, H⟩ := bind_some H
      refine Qt.callG rfl rfl rfl hb36 rfl (by decide) (vs := [.int .u16 x11.toNat]) ⟨rfl, trivial⟩ Try.call45 (partref_size_sim h38 w0 _ M _ (List.Sublist.cons _ hM)) ?_
      refine Qt.runG rfl rfl rfl hb36 rfl (by decide) (Ev.move rfl) ?_
      refine Qt.runG rfl rfl rfl hb36 rfl (by decide) (Ev.move rfl) ?_
      refine Qt.runG rfl rfl rfl hb36 rfl (by decide) (Ev.sub rfl rfl) ?_
      obtain ⟨x41, h42, H⟩ := bind_some H
      have g43 := lat_some h42
      refine Qt.runG rfl rfl rfl hb36 rfl (by decide) (Ev.indexS (α := BitVec 16) (xs := a1) rfl rfl Try.runUnderlying22 Try.sizeOf23 rfl (by decide) (hs_a1.mono (FLe.trans hF5 hF10) (List.Sublist.cons _ hM)) g43.1 g43.2.1) ?_
      refine Qt.runG rfl rfl rfl hb36 rfl (by decide) (Ev.loadS (α := BitVec 16) rfl (hs_a1.mono (FLe.trans hF5 hF10) (List.Sublist.cons _ hM)) Try.isAgg23 (v := .int .u16 x41.toNat) ((Get.elemN (s := 1) (x := x41) rfl g43.2.2 (Get.here _)).off (by omega))) ?_
      obtain ⟨r44, h45, H⟩ := bind_some H
      refine Qt.callG rfl rfl rfl hb36 rfl (by decide) (vs := [.int .u16 x41.toNat]) ⟨rfl, trivial⟩ Try.call45 (partref_size_sim h45 w0 _ M _ (List.Sublist.cons _ hM)) ?_
      refine Qt.runG rfl rfl rfl hb36 rfl (by decide) (Ev.eql rfl rfl) ?_
      refine Qt.runG rfl rfl rfl hb36 rfl (by decide) (Ev.move rfl) ?_
      obtain ⟨o48, H, HKo48⟩ := bind_some H
      refine Qt.join (σ := Bool) 8 (fun y49 => [(0, .int .i64 a0), (1, Sl.v s_a1), (5, .int .i64 (i8 : Int)), (6, .pointer (some ⟨b14, 0, none⟩)), (16, Sl.v s_a1), (17, .int .i64 (a1.length : Int)), (18, .int .i64 (i8 : Int)), (30, .bool (decide ((i8 : Int) > (0 : Int)))), (40, .bool (decide (r23 < r30))), (58, .bool y49)]) (fun y49 => y49 = o48) ?_ ?_
      · rcases (Bool.eq_false_or_eq_true (r37 == r44)).symm with hb50 | hb50
        · replace H := ite_f hb50 H
          refine Qt.skip rfl rfl rfl hb50 rfl (by decide) ?_
          refine Qt.skip rfl rfl rfl hb50 rfl (by decide) ?_
          refine Qt.skip rfl rfl rfl hb50 rfl (by decide) ?_
          refine Qt.skip rfl rfl rfl hb50 rfl (by decide) ?_
          refine Qt.skip rfl rfl rfl hb50 rfl (by decide) ?_
          refine Qt.skip rfl rfl rfl hb50 rfl (by decide) ?_
          refine Qt.skip rfl rfl rfl hb50 rfl (by decide) ?_
          refine Qt.runG rfl rfl rfl hb36 rfl (by decide) (Ev.pickF rfl hb50 rfl) ?_
          exact Qt.meet false ⟨rfl, rfl, rfl, rfl, rfl, rfl, rfl, rfl, rfl, rfl, trivial⟩ (some_inj H)
        replace H := ite_t hb50 H
        refine Qt.runG rfl rfl rfl hb50 rfl (by decide) (Ev.load (i := 0) rfl rfl Try.isAgg23 (v := .int .u16 x11.toNat) (Get.here _)) ?_
        refine Qt.runG rfl rfl rfl hb50 rfl (by decide) (Ev.move rfl) ?_
        refine Qt.runG rfl rfl rfl hb50 rfl (by decide) (Ev.move rfl) ?_
        refine Qt.runG rfl rfl rfl hb50 rfl (by decide) (Ev.sub rfl rfl) ?_
        obtain ⟨x51, h52, H⟩ := bind_some H
        have g53 := lat_some h52
        refine Qt.runG rfl rfl rfl hb50 rfl (by decide) (Ev.indexS (α := BitVec 16) (xs := a1) rfl rfl Try.runUnderlying22 Try.sizeOf23 rfl (by decide) (hs_a1.mono (FLe.trans hF5 hF10) (List.Sublist.cons _ hM)) g53.1 g53.2.1) ?_
        refine Qt.runG rfl rfl rfl hb50 rfl (by decide) (Ev.loadS (α := BitVec 16) rfl (hs_a1.mono (FLe.trans hF5 hF10) (List.Sublist.cons _ hM)) Try.isAgg23 (v := .int .u16 x51.toNat) ((Get.elemN (s := 1) (x := x51) rfl g53.2.2 (Get.here _)).off (by omega))) ?_
        refine Qt.runG rfl rfl rfl hb50 rfl (by decide) (Ev.leq rfl rfl) ?_
        refine Qt.runG rfl rfl rfl hb36 rfl (by decide) (Ev.pickT rfl hb50 rfl) ?_
        exact Qt.meet (decide ((x11.toNat : Int) ≤ (x51.toNat : Int))) ⟨rfl, rfl, rfl, rfl, rfl, rfl, rfl, rfl, rfl, rfl, trivial⟩ (some_inj H)
      rintro y49 hy
      subst hy
      refine Qt.as (e' := [(0, .int .i64 a0), (1, Sl.v s_a1), (5, .int .i64 (i8 : Int)), (6, .pointer (some ⟨b14, 0, none⟩)), (16, Sl.v s_a1), (17, .int .i64 (a1.length : Int)), (18, .int .i64 (i8 : Int)), (30, .bool (decide ((i8 : Int) > (0 : Int)))), (40, .bool (decide (r23 < r30))), (58, .bool y49)]) ⟨rfl, rfl, rfl, rfl, rfl, rfl, rfl, rfl, rfl, rfl, trivial⟩ ?_
      replace H := HKo48
      refine Qt.runG rfl rfl rfl hb22 rfl (by decide) (Ev.pickF rfl hb36 rfl) ?_
      exact Qt.meet y49 ⟨rfl, rfl, rfl, rfl, rfl, rfl, rfl, rfl, rfl, trivial⟩ (some_inj H)
    rintro y35 hy
    subst hy
    refine Qt.as (e' := [(0, .int .i64 a0), (1, Sl.v s_a1), (5, .int .i64 (i8 : Int)), (6, .pointer (some ⟨b14, 0, none⟩)), (16, Sl.v s_a1), (17, .int .i64 (a1.length : Int)), (18, .int .i64 (i8 : Int)), (30, .bool (decide ((i8 : Int) > (0 : Int)))), (59, .bool y35)]) ⟨rfl, rfl, rfl, rfl, rfl, rfl, rfl, rfl, rfl, trivial⟩ ?_
    replace H := HKo34
    refine Qt.run rfl rfl (by decide) (Ev.pickT rfl hb22 rfl) ?_
    exact Qt.meet y35 ⟨rfl, rfl, rfl, rfl, rfl, rfl, rfl, rfl, trivial⟩ (some_inj H)
  rintro y21 hy
  subst hy
  refine Qt.as (e' := [(0, .int .i64 a0), (1, Sl.v s_a1), (5, .int .i64 (i8 : Int)), (6, .pointer (some ⟨b14, 0, none⟩)), (16, Sl.v s_a1), (17, .int .i64 (a1.length : Int)), (18, .int .i64 (i8 : Int)), (60, .bool y21)]) ⟨rfl, rfl, rfl, rfl, rfl, rfl, rfl, rfl, trivial⟩ ?_
  replace H := HKo20
  refine Qt.run rfl rfl (by decide) (Ev.move rfl) ?_
  obtain ⟨o54, H, HKo54⟩ := bind_some H
  refine Qt.join (σ := Bool) 6 (fun y55 => [(0, .int .i64 a0), (1, Sl.v s_a1), (16, Sl.v s_a1), (17, .int .i64 (a1.length : Int)), (18, .int .i64 (i8 : Int)), (67, .bool y55)]) (fun y55 => y55 = o54) ?_ ?_
  · rcases Bool.eq_false_or_eq_true y21 with hb56 | hb56
    · replace H := ite_t hb56 H
      refine Qt.skip rfl rfl rfl hb56 rfl (by decide) ?_
      refine Qt.skip rfl rfl rfl hb56 rfl (by decide) ?_
      refine Qt.skip rfl rfl rfl hb56 rfl (by decide) ?_
      refine Qt.skip rfl rfl rfl hb56 rfl (by decide) ?_
      refine Qt.skip rfl rfl rfl hb56 rfl (by decide) ?_
      refine Qt.run rfl rfl (by decide) (Ev.pickT rfl hb56 rfl) ?_
      exact Qt.meet true ⟨rfl, rfl, rfl, rfl, rfl, rfl, trivial⟩ (some_inj H)
    replace H := ite_f hb56 H
    refine Qt.runG rfl rfl rfl hb56 rfl (by decide) (Ev.move rfl) ?_
    refine Qt.runG rfl rfl rfl hb56 rfl (by decide) (Ev.move rfl) ?_
    obtain ⟨m57, h58, H⟩ := bind_some H
    obtain ⟨g59, gl60⟩ := cutL_some h58
    have hq61 : Rd w0 F M (s_a1.cut (0 : Int).toNat ((i8 : Int) : Int).toNat 1) m57 := by rw [← gl60]; exact Rd.cut (by decide) hs_a1 (by omega) (by omega)
    refine Qt.runG rfl rfl rfl hb56 rfl (by decide) (Ev.cut (α := BitVec 16) (xs := a1) (i := 0) (j := (i8 : Int)) rfl rfl rfl Try.runUnderlying22 Try.sizeOf23 rfl (by decide) (hs_a1.mono (FLe.trans hF5 hF10) (List.Sublist.cons _ hM)) g59.1 g59.2.1 g59.2.2) ?_
    refine Qt.runG rfl rfl rfl hb56 rfl (by decide) (Ev.makeFunc (us := []) (vs := [.pointer (some ⟨b14, 0, none⟩)]) trivial ⟨rfl, trivial⟩) ?_
    obtain ⟨r62, h63, H⟩ := bind_some H
    refine Qt.callG rfl rfl rfl hb56 rfl (by decide) (vs := [Sl.v (s_a1.cut (0 : Int).toNat ((i8 : Int) : Int).toNat 1), .func (.func 46) #[] #[.pointer (some ⟨b14, 0, none⟩)]]) ⟨rfl, rfl, trivial⟩ Try.call14 (slices_ContainsFunc_uint16_uint16_QuorumErr_1_sim h63 w0 _ M _ hM (hq61.mono (FLe.trans hF5 hF10) (List.Sublist.refl _))) ?_
    refine Qt.run rfl rfl (by decide) (Ev.pickF rfl hb56 rfl) ?_
    exact Qt.meet r62 ⟨rfl, rfl, rfl, rfl, rfl, rfl, trivial⟩ (some_inj H)
  rintro y55 hy
  subst hy
  refine Qt.as (e' := [(0, .int .i64 a0), (1, Sl.v s_a1), (16, Sl.v s_a1), (17, .int .i64 (a1.length : Int)), (18, .int .i64 (i8 : Int)), (67, .bool y55)]) ⟨rfl, rfl, rfl, rfl, rfl, rfl, trivial⟩ ?_
  replace H := HKo54
  refine Qt.done ?_
  refine At.then ?_
  rcases Bool.eq_false_or_eq_true y55 with hb66 | hb66
  · replace H := ite_t hb66 H
    refine Cd.condT rfl hb66 ?_
    refine Cd.seq ?_
    refine Cd.region ?_
    refine Lst.run rfl rfl (by decide) (Ev.assign rfl) ?_
    refine Lst.nil ?_
    refine At.then ?_
    have H := hret8 _ (some_inj H).symm
    subst H
    replace H := HKl8
    obtain rfl := some_inj H
    refine Cd.ret ?_
    refine At.in_ret ?_
    refine At.then_ret ?_
    refine At.then_ret ?_
    refine At.in_ret ?_
    refine At.then_ret ?_
    exact At.ret1 rfl (Res.tmp rfl) (FLe.trans hF5 hF10) (List.Sublist.cons _ (List.Sublist.refl _)) ⟨rfl, rfl⟩
  replace H := ite_f hb66 H
  refine Cd.condF rfl hb66 ?_
  refine Cd.skip ?_
  refine At.in_normal ?_
  refine At.then ?_
  refine Cd.region ?_
  refine Lst.run rfl rfl (by decide) (Ev.incr (by omega) rfl rfl) ?_
  refine Lst.run rfl rfl (by decide) (Ev.move rfl) ?_
  refine Lst.nil ?_
  refine At.less (L' := L) (List.Sublist.cons _ (List.Sublist.refl _)) ?_
  exact At.meet (i8 + 1, k8, ()) hF10 ⟨rfl, rfl, rfl, rfl, rfl, trivial⟩ rfl ⟨⟨hgo8 _ (some_inj H).symm, by omega⟩, Nat.lt_succ_self _⟩
set_option maxRecDepth 20000 in
theorem quorum_in_sim {a0 : Int} {a1 : Int} {a2 : Int} {r : Bool} (H : quorum_in a0 a1 a2 = some r) (w0 : World) (F : Frz) (M L : List Item) (hM : M.Sublist L) : Ok Try.prog w0 52 [.int .i64 a0, .int .i64 a1, .int .i64 a2] F (L) (Is (.bool r) (L)) := by
  unfold quorum_in at H
  refine Ok.enter (m := 3) (n := 15) Try.func52 rfl rfl rfl (by decide) ?_
  refine Cd.env (e' := [(0, .int .i64 a0), (1, .int .i64 a1), (2, .int .i64 a2)]) rfl ?_
  refine Cd.seq ?_
  refine Cd.region ?_
  refine Lst.run rfl rfl (by decide) (Ev.assign rfl) ?_
  refine Lst.nil ?_
  refine At.then ?_
  refine Cd.seq ?_
  refine Cd.region ?_
  refine Lst.run rfl rfl (by decide) (Ev.move rfl) ?_
  refine Lst.run rfl rfl (by decide) (Ev.move rfl) ?_
  refine Lst.run rfl rfl (by decide) (Ev.geq rfl rfl) ?_
  refine Lst.run rfl rfl (by decide) (Ev.move rfl) ?_
  obtain ⟨o1, H, HKo1⟩ := bind_some H
  refine Lst.join (σ := Bool) 4 (fun y2 => [(14, .bool y2)]) (fun y2 => L) (fun _ y2 => y2 = o1) ?_ ?_
  · rcases (Bool.eq_false_or_eq_true (decide (a0 ≥ a1))).symm with hb3 | hb3
    · replace H := ite_f hb3 H
      refine Lst.skip rfl rfl rfl hb3 rfl (by decide) ?_
      refine Lst.skip rfl rfl rfl hb3 rfl (by decide) ?_
      refine Lst.skip rfl rfl rfl hb3 rfl (by decide) ?_
      refine Lst.run rfl rfl (by decide) (Ev.pickF rfl hb3 rfl) ?_
      refine Lst.nil ?_
      exact At.meet false (FLe.refl _) ⟨rfl, trivial⟩ rfl (some_inj H)
    replace H := ite_t hb3 H
    refine Lst.runG rfl rfl rfl hb3 rfl (by decide) (Ev.move rfl) ?_
    refine Lst.runG rfl rfl rfl hb3 rfl (by decide) (Ev.move rfl) ?_
    refine Lst.runG rfl rfl rfl hb3 rfl (by decide) (Ev.leq rfl rfl) ?_
    refine Lst.run rfl rfl (by decide) (Ev.pickT rfl hb3 rfl) ?_
    refine Lst.nil ?_
    exact At.meet (decide (a0 ≤ a2)) (FLe.refl _) ⟨rfl, trivial⟩ rfl (some_inj H)
  rintro F4 y2 hF5 hy
  subst hy
  refine Lst.as (e' := [(14, .bool y2)]) (L' := L) ⟨rfl, trivial⟩ rfl ?_
  replace H := HKo1
  refine Lst.run rfl rfl (by decide) (Ev.assign rfl) ?_
  refine Lst.nil ?_
  refine At.then ?_
  obtain rfl := some_inj H
  refine Cd.ret ?_
  exact At.ret1 rfl (Res.tmp rfl) hF5 (List.Sublist.refl _) ⟨rfl, rfl⟩
set_option maxRecDepth 20000 in
theorem math_bits_OnesCount16_sim {a0 : BitVec 16} {r : Int} (H : math_bits_OnesCount16 a0 = some r) (w0 : World) (F : Frz) (M L : List Item) (hM : M.Sublist L) : Ok Try.prog w0 99 [.int .u16 a0.toNat] F (L) (Is (.int .i64 r) (L)) := by
  unfold math_bits_OnesCount16 at H
  refine Ok.enter (m := 1) (n := 11) Try.func99 rfl rfl rfl (by decide) ?_
  refine Cd.env (e' := [(0, .int .u16 a0.toNat)]) rfl ?_
  refine Cd.seq ?_
  refine Cd.region ?_
  refine Lst.run rfl rfl (by decide) (Ev.assign rfl) ?_
  refine Lst.nil ?_
  refine At.then ?_
  refine Cd.seq ?_
  refine Cd.quiet (by kernel_rfl) (by kernel_rfl) ?_
  refine Qt.run rfl rfl (by decide) (Ev.move rfl) ?_
  refine Qt.run rfl rfl (by decide) (Ev.shrU16 (i := a0) (m := 8) rfl rfl) ?_
  obtain ⟨x1, h2, H⟩ := bind_some H
  refine Qt.run rfl rfl (by decide) (Ev.indexStr rfl rfl Try.runUnderlying9 h2) ?_
  refine Qt.run rfl rfl (by decide) (Ev.move rfl) ?_
  refine Qt.run rfl rfl (by decide) (Ev.andU16 (i := a0) (j := (255 : BitVec 16)) rfl rfl) ?_
  obtain ⟨x3, h4, H⟩ := bind_some H
  refine Qt.run rfl rfl (by decide) (Ev.indexStr rfl rfl Try.runUnderlying9 h4) ?_
  refine Qt.run rfl rfl (by decide) (Ev.addU8 (i := x1.toBitVec) (j := x3.toBitVec) rfl rfl) ?_
  refine Qt.run rfl rfl (by decide) (Ev.convIS (j := ((x1.toBitVec + x3.toBitVec).toNat : Int)) rfl Try.runUnderlying5 Try.runUnderlying3 (w64_id (by omega) (by omega))) ?_
  refine Qt.run rfl rfl (by decide) (Ev.assign rfl) ?_
  refine Qt.done ?_
  refine At.then ?_
  obtain rfl := some_inj H
  refine Cd.ret ?_
  exact At.ret1 rfl (Res.tmp rfl) (FLe.refl _) (List.Sublist.refl _) ⟨rfl, rfl⟩
set_option maxRecDepth 20000 in
theorem cmp_isNaN_int_sim {a0 : Int} {r : Bool} (H : cmp_isNaN_int a0 = some r) (w0 : World) (F : Frz) (M L : List Item) (hM : M.Sublist L) : Ok Try.prog w0 113 [.int .i64 a0] F (L) (Is (.bool r) (L)) := by
  unfold cmp_isNaN_int at H
  refine Ok.enter (m := 1) (n := 6) Try.func113 rfl rfl rfl (by decide) ?_
  refine Cd.env (e' := [(0, .int .i64 a0)]) rfl ?_
  refine Cd.seq ?_
  refine Cd.region ?_
  refine Lst.run rfl rfl (by decide) (Ev.assign rfl) ?_
  refine Lst.nil ?_
  refine At.then ?_
  refine Cd.seq ?_
  refine Cd.region ?_
  refine Lst.run rfl rfl (by decide) (Ev.move rfl) ?_
  refine Lst.run rfl rfl (by decide) (Ev.move rfl) ?_
  refine Lst.run rfl rfl (by decide) (Ev.neq rfl rfl) ?_
  refine Lst.run rfl rfl (by decide) (Ev.assign rfl) ?_
  refine Lst.nil ?_
  refine At.then ?_
  obtain rfl := some_inj H
  refine Cd.ret ?_
  exact At.ret1 rfl (Res.tmp rfl) (FLe.refl _) (List.Sublist.refl _) ⟨rfl, rfl⟩
set_option maxRecDepth 20000 in
theorem cmp_Compare_int_sim {a0 : Int} {a1 : Int} {r : Int} (H : cmp_Compare_int a0 a1 = some r) (w0 : World) (F : Frz) (M L : List Item) (hM : M.Sublist L) : Ok Try.prog w0 98 [.int .i64 a0, .int .i64 a1] F (L) (Is (.int .i64 r) (L)) := by
  unfold cmp_Compare_int at H
  refine Ok.enter (m := 2) (n := 20) Try.func98 rfl rfl rfl (by decide) ?_
  refine Cd.env (e' := [(0, .int .i64 a0), (1, .int .i64 a1)]) rfl ?_
  refine Cd.seq ?_
  refine Cd.region ?_
  refine Lst.run rfl rfl (by decide) (Ev.assign rfl) ?_
  refine Lst.nil ?_
  refine At.then ?_
  refine Cd.seq ?_
  refine Cd.region ?_
  refine Lst.run rfl rfl (by decide) (Ev.move rfl) ?_
  obtain ⟨r1, h2, H⟩ := bind_some H
  refine Lst.call1 rfl rfl (by decide) (vs := [.int .i64 a0]) ⟨rfl, trivial⟩ Try.call113 (cmp_isNaN_int_sim h2 w0 _ M _ hM) ?_
  refine Lst.run rfl rfl (by decide) (Ev.assign rfl) ?_
  refine Lst.nil ?_
  refine At.then ?_
  refine Cd.seq ?_
  refine Cd.region ?_
  refine Lst.run rfl rfl (by decide) (Ev.move rfl) ?_
  obtain ⟨r5, h6, H⟩ := bind_some H
  refine Lst.call1 rfl rfl (by decide) (vs := [.int .i64 a1]) ⟨rfl, trivial⟩ Try.call113 (cmp_isNaN_int_sim h6 w0 _ M _ hM) ?_
  refine Lst.run rfl rfl (by decide) (Ev.assign rfl) ?_
  refine Lst.nil ?_
  refine At.then ?_
  refine Cd.seq ?_
  refine Cd.seq ?_
  refine Cd.region ?_
  refine Lst.run rfl rfl (by decide) (Ev.move rfl) ?_
  refine Lst.nil ?_
  refine At.then ?_
  rcases Bool.eq_false_or_eq_true r1 with hb9 | hb9
  · replace H := ite_t hb9 H
    refine Cd.condT rfl hb9 ?_
    refine Cd.seq ?_
    refine Cd.seq ?_
    refine Cd.region ?_
    refine Lst.run rfl rfl (by decide) (Ev.move rfl) ?_
    refine Lst.nil ?_
    refine At.then ?_
    rcases Bool.eq_false_or_eq_true r5 with hb10 | hb10
    · replace H := ite_t hb10 H
      refine Cd.condT rfl hb10 ?_
      refine Cd.seq ?_
      refine Cd.region ?_
      refine Lst.run rfl rfl (by decide) (Ev.assign rfl) ?_
      refine Lst.nil ?_
      refine At.then ?_
      obtain rfl := some_inj H
      refine Cd.ret ?_
      refine At.then_ret ?_
      refine At.then_ret ?_
      exact At.ret1 rfl (Res.tmp rfl) (FLe.refl _) (List.Sublist.refl _) ⟨rfl, rfl⟩
    replace H := ite_f hb10 H
    refine Cd.condF rfl hb10 ?_
    refine Cd.skip ?_
    refine At.then ?_
    refine Cd.seq ?_
    refine Cd.region ?_
    refine Lst.run rfl rfl (by decide) (Ev.assign rfl) ?_
    refine Lst.nil ?_
    refine At.then ?_
    obtain rfl := some_inj H
    refine Cd.ret ?_
    refine At.then_ret ?_
    exact At.ret1 rfl (Res.tmp rfl) (FLe.refl _) (List.Sublist.refl _) ⟨rfl, rfl⟩
  replace H := ite_f hb9 H
  refine Cd.condF rfl hb9 ?_
  refine Cd.skip ?_
  refine At.then ?_
  refine Cd.seq ?_
  refine Cd.seq ?_
  refine Cd.region ?_
  refine Lst.run rfl rfl (by decide) (Ev.move rfl) ?_
  refine Lst.nil ?_
  refine At.then ?_
  rcases Bool.eq_false_or_eq_true r5 with hb11 | hb11
  · replace H := ite_t hb11 H
    refine Cd.condT rfl hb11 ?_
    refine Cd.seq ?_
    refine Cd.region ?_
    refine Lst.run rfl rfl (by decide) (Ev.assign rfl) ?_
    refine Lst.nil ?_
    refine At.then ?_
    obtain rfl := some_inj H
    refine Cd.ret ?_
    refine At.then_ret ?_
    exact At.ret1 rfl (Res.tmp rfl) (FLe.refl _) (List.Sublist.refl _) ⟨rfl, rfl⟩
  replace H := ite_f hb11 H
  refine Cd.condF rfl hb11 ?_
  refine Cd.skip ?_
  refine At.then ?_
  refine Cd.seq ?_
  refine Cd.seq ?_
  refine Cd.region ?_
  refine Lst.run rfl rfl (by decide) (Ev.move rfl) ?_
  refine Lst.run rfl rfl (by decide) (Ev.move rfl) ?_
  refine Lst.run rfl rfl (by decide) (Ev.lss rfl rfl) ?_
  refine Lst.nil ?_
  refine At.then ?_
  rcases Bool.eq_false_or_eq_true (decide (a0 < a1)) with hb12 | hb12
  · replace H := ite_t hb12 H
    refine Cd.condT rfl hb12 ?_
    refine Cd.seq ?_
    refine Cd.region ?_
    refine Lst.run rfl rfl (by decide) (Ev.assign rfl) ?_
    refine Lst.nil ?_
    refine At.then ?_
    obtain rfl := some_inj H
    refine Cd.ret ?_
    refine At.then_ret ?_
    exact At.ret1 rfl (Res.tmp rfl) (FLe.refl _) (List.Sublist.refl _) ⟨rfl, rfl⟩
  replace H := ite_f hb12 H
  refine Cd.condF rfl hb12 ?_
  refine Cd.skip ?_
  refine At.then ?_
  refine Cd.seq ?_
  refine Cd.seq ?_
  refine Cd.region ?_
  refine Lst.run rfl rfl (by decide) (Ev.move rfl) ?_
  refine Lst.run rfl rfl (by decide) (Ev.move rfl) ?_
  refine Lst.run rfl rfl (by decide) (Ev.gtr rfl rfl) ?_
  refine Lst.nil ?_
  refine At.then ?_
  rcases Bool.eq_false_or_eq_true (decide (a0 > a1)) with hb13 | hb13
  · replace H := ite_t hb13 H
    refine Cd.condT rfl hb13 ?_
    refine Cd.seq ?_
    refine Cd.as (e' := []) (L' := L) trivial rfl ?_
    refine Cd.region ?_
    refine Lst.run rfl rfl (by decide) (Ev.assign rfl) ?_
    refine Lst.nil ?_
    refine At.then ?_
    obtain rfl := some_inj H
    refine Cd.ret ?_
    refine At.then_ret ?_
    exact At.ret1 rfl (Res.tmp rfl) (FLe.refl _) (List.Sublist.refl _) ⟨rfl, rfl⟩
  replace H := ite_f hb13 H
  refine Cd.condF rfl hb13 ?_
  refine Cd.skip ?_
  refine At.then ?_
  refine Cd.seq ?_
  refine Cd.as (e' := []) (L' := L) trivial rfl ?_
  refine Cd.region ?_
  refine Lst.run rfl rfl (by decide) (Ev.assign rfl) ?_
  refine Lst.nil ?_
  refine At.then ?_
  obtain rfl := some_inj H
  refine Cd.ret ?_
  exact At.ret1 rfl (Res.tmp rfl) (FLe.refl _) (List.Sublist.refl _) ⟨rfl, rfl⟩
set_option maxRecDepth 20000 in
theorem cmp_isNaN_uint16_sim {a0 : BitVec 16} {r : Bool} (H : cmp_isNaN_uint16 a0 = some r) (w0 : World) (F : Frz) (M L : List Item) (hM : M.Sublist L) : Ok Try.prog w0 114 [.int .u16 a0.toNat] F (L) (Is (.bool r) (L)) := by
  unfold cmp_isNaN_uint16 at H
  refine Ok.enter (m := 1) (n := 6) Try.func114 rfl rfl rfl (by decide) ?_
  refine Cd.env (e' := [(0, .int .u16 a0.toNat)]) rfl ?_
  refine Cd.seq ?_
  refine Cd.region ?_
  refine Lst.run rfl rfl (by decide) (Ev.assign rfl) ?_
  refine Lst.nil ?_
  refine At.then ?_
  refine Cd.seq ?_
  refine Cd.region ?_
  refine Lst.run rfl rfl (by decide) (Ev.move rfl) ?_
  refine Lst.run rfl rfl (by decide) (Ev.move rfl) ?_
  refine Lst.run rfl rfl (by decide) (Ev.neq rfl rfl) ?_
  refine Lst.run rfl rfl (by decide) (Ev.assign rfl) ?_
  refine Lst.nil ?_
  refine At.then ?_
  obtain rfl := some_inj H
  refine Cd.ret ?_
  exact At.ret1 rfl (Res.tmp rfl) (FLe.refl _) (List.Sublist.refl _) ⟨rfl, rfl⟩
set_option maxRecDepth 20000 in
theorem cmp_Compare_uint16_sim {a0 : BitVec 16} {a1 : BitVec 16} {r : Int} (H : cmp_Compare_uint16 a0 a1 = some r) (w0 : World) (F : Frz) (M L : List Item) (hM : M.Sublist L) : Ok Try.prog w0 100 [.int .u16 a0.toNat, .int .u16 a1.toNat] F (L) (Is (.int .i64 r) (L)) := by
  unfold cmp_Compare_uint16 at H
  refine Ok.enter (m := 2) (n := 20) Try.func100 rfl rfl rfl (by decide) ?_
  refine Cd.env (e' := [(0, .int .u16 a0.toNat), (1, .int .u16 a1.toNat)]) rfl ?_
  refine Cd.seq ?_
  refine Cd.region ?_
  refine Lst.run rfl rfl (by decide) (Ev.assign rfl) ?_
  refine Lst.nil ?_
  refine At.then ?_
  refine Cd.seq ?_
  refine Cd.region ?_
  refine Lst.run rfl rfl (by decide) (Ev.move rfl) ?_
  obtain ⟨r1, h2, H⟩ := bind_some H
  refine Lst.call1 rfl rfl (by decide) (vs := [.int .u16 a0.toNat]) ⟨rfl, trivial⟩ Try.call114 (cmp_isNaN_uint16_sim h2 w0 _ M _ hM) ?_
  refine Lst.run rfl rfl (by decide) (Ev.assign rfl) ?_
  refine Lst.nil ?_
  refine At.then ?_
  refine Cd.seq ?_
  refine Cd.region ?_
  refine Lst.run rfl rfl (by decide) (Ev.move rfl) ?_
  obtain ⟨r5, h6, H⟩ := bind_some H
  refine Lst.call1 rfl rfl (by decide) (vs := [.int .u16 a1.toNat]) ⟨rfl, trivial⟩ Try.call114 (cmp_isNaN_uint16_sim h6 w0 _ M _ hM) ?_
  refine Lst.run rfl rfl (by decide) (Ev.assign rfl) ?_
  refine Lst.nil ?_
  refine At.then ?_
  refine Cd.seq ?_
  refine Cd.seq ?_
  refine Cd.region ?_
  refine Lst.run rfl rfl (by decide) (Ev.move rfl) ?_
  refine Lst.nil ?_
  refine At.then ?_
  rcases Bool.eq_false_or_eq_true r1 with hb9 | hb9
  · replace H := ite_t hb9 H
    refine Cd.condT rfl hb9 ?_
    refine Cd.seq ?_
    refine Cd.seq ?_
    refine Cd.region ?_
    refine Lst.run rfl rfl (by decide) (Ev.move rfl) ?_
    refine Lst.nil ?_
    refine At.then ?_
    rcases Bool.eq_false_or_eq_true r5 with hb10 | hb10
    · replace H := ite_t hb10 H
      refine Cd.condT rfl hb10 ?_
      refine Cd.seq ?_
      refine Cd.region ?_
      refine Lst.run rfl rfl (by decide) (Ev.assign rfl) ?_
      refine Lst.nil ?_
      refine At.then ?_
      obtain rfl := some_inj H
      refine Cd.ret ?_
      refine At.then_ret ?_
      refine At.then_ret ?_
      exact At.ret1 rfl (Res.tmp rfl) (FLe.refl _) (List.Sublist.refl _) ⟨rfl, rfl⟩
    replace H := ite_f hb10 H
    refine Cd.condF rfl hb10 ?_
    refine Cd.skip ?_
    refine At.then ?_
    refine Cd.seq ?_
    refine Cd.region ?_
    refine Lst.run rfl rfl (by decide) (Ev.assign rfl) ?_
    refine Lst.nil ?_
    refine At.then ?_
    obtain rfl := some_inj H
    refine Cd.ret ?_
    refine At.then_ret ?_
    exact At.ret1 rfl (Res.tmp rfl) (FLe.refl _) (List.Sublist.refl _) ⟨rfl, rfl⟩
  replace H := ite_f hb9 H
  refine Cd.condF rfl hb9 ?_
  refine Cd.skip ?_
  refine At.then ?_
  refine Cd.seq ?_
  refine Cd.seq ?_
  refine Cd.region ?_
  refine Lst.run rfl rfl (by decide) (Ev.move rfl) ?_
  refine Lst.nil ?_
  refine At.then ?_
  rcases Bool.eq_false_or_eq_true r5 with hb11 | hb11
  · replace H := ite_t hb11 H
    refine Cd.condT rfl hb11 ?_
    refine Cd.seq ?_
    refine Cd.region ?_
    refine Lst.run rfl rfl (by decide) (Ev.assign rfl) ?_
    refine Lst.nil ?_
    refine At.then ?_
    obtain rfl := some_inj H
    refine Cd.ret ?_
    refine At.then_ret ?_
    exact At.ret1 rfl (Res.tmp rfl) (FLe.refl _) (List.Sublist.refl _) ⟨rfl, rfl⟩
  replace H := ite_f hb11 H
  refine Cd.condF rfl hb11 ?_
  refine Cd.skip ?_
  refine At.then ?_
  refine Cd.seq ?_
  refine Cd.seq ?_
  refine Cd.region ?_
  refine Lst.run rfl rfl (by decide) (Ev.move rfl) ?_
  refine Lst.run rfl rfl (by decide) (Ev.move rfl) ?_
  refine Lst.run rfl rfl (by decide) (Ev.lss rfl rfl) ?_
  refine Lst.nil ?_
  refine At.then ?_
  rcases Bool.eq_false_or_eq_true (decide ((a0.toNat : Int) < (a1.toNat : Int))) with hb12 | hb12
  · replace H := ite_t hb12 H
    refine Cd.condT rfl hb12 ?_
    refine Cd.seq ?_
    refine Cd.region ?_
    refine Lst.run rfl rfl (by decide) (Ev.assign rfl) ?_
    refine Lst.nil ?_
    refine At.then ?_
    obtain rfl := some_inj H
    refine Cd.ret ?_
    refine At.then_ret ?_
    exact At.ret1 rfl (Res.tmp rfl) (FLe.refl _) (List.Sublist.refl _) ⟨rfl, rfl⟩
  replace H := ite_f hb12 H
  refine Cd.condF rfl hb12 ?_
  refine Cd.skip ?_
  refine At.then ?_
  refine Cd.seq ?_
  refine Cd.seq ?_
  refine Cd.region ?_
  refine Lst.run rfl rfl (by decide) (Ev.move rfl) ?_
  refine Lst.run rfl rfl (by decide) (Ev.move rfl) ?_
  refine Lst.run rfl rfl (by decide) (Ev.gtr rfl rfl) ?_
  refine Lst.nil ?_
  refine At.then ?_
  rcases Bool.eq_false_or_eq_true (decide ((a0.toNat : Int) > (a1.toNat : Int))) with hb13 | hb13
  · replace H := ite_t hb13 H
    refine Cd.condT rfl hb13 ?_
    refine Cd.seq ?_
    refine Cd.as (e' := []) (L' := L) trivial rfl ?_
    refine Cd.region ?_
    refine Lst.run rfl rfl (by decide) (Ev.assign rfl) ?_
    refine Lst.nil ?_
    refine At.then ?_
    obtain rfl := some_inj H
    refine Cd.ret ?_
    refine At.then_ret ?_
    exact At.ret1 rfl (Res.tmp rfl) (FLe.refl _) (List.Sublist.refl _) ⟨rfl, rfl⟩
  replace H := ite_f hb13 H
  refine Cd.condF rfl hb13 ?_
  refine Cd.skip ?_
  refine At.then ?_
  refine Cd.seq ?_
  refine Cd.as (e' := []) (L' := L) trivial rfl ?_
  refine Cd.region ?_
  refine Lst.run rfl rfl (by decide) (Ev.assign rfl) ?_
  refine Lst.nil ?_
  refine At.then ?_
  obtain rfl := some_inj H
  refine Cd.ret ?_
  exact At.ret1 rfl (Res.tmp rfl) (FLe.refl _) (List.Sublist.refl _) ⟨rfl, rfl⟩
set_option maxRecDepth 20000 in
theorem cmp_Or_int_sim {a0 : List Int} {s_a0 : Sl} {r : Int} (H : cmp_Or_int a0 = some r) (w0 : World) (F : Frz) (M L : List Item) (hM : M.Sublist L) (hs_a0 : Rd w0 F M s_a0 a0) : Ok Try.prog w0 97 [Sl.v s_a0] F (L) (Is (.int .i64 r) (L)) := by
  unfold cmp_Or_int at H
  refine Ok.enter (m := 1) (n := 18) Try.func97 rfl rfl rfl (by decide) ?_
  refine Cd.env (e' := [(0, Sl.v s_a0)]) rfl ?_
  refine Cd.seq ?_
  refine Cd.region ?_
  refine Lst.run rfl rfl (by decide) (Ev.assign rfl) ?_
  refine Lst.nil ?_
  refine At.then ?_
  refine Cd.seq ?_
  refine Cd.region ?_
  refine Lst.run rfl rfl (by decide) (Ev.assign rfl) ?_
  refine Lst.nil ?_
  refine At.then ?_
  refine Cd.seq ?_
  refine Cd.seq ?_
  refine Cd.region ?_
  refine Lst.run rfl rfl (by decide) (Ev.move rfl) ?_
  refine Lst.run rfl rfl (by decide) (Ev.lenS (α := Int) (xs := a0) (by decide) rfl rfl Try.runUnderlying36 (hs_a0.mono (FLe.refl _) hM)) ?_
  refine Lst.run rfl rfl (by decide) (Ev.move rfl) ?_
  refine Lst.nil ?_
  refine At.then ?_
  refine Cd.block ?_
  refine Cd.bound (Rd.le (α := Int) (xs := a0) (by decide) (hs_a0.mono (FLe.refl _) hM)) (fun hN8 => ?_)
  obtain ⟨ol1, H, HKl1⟩ := andThen_some H
  refine Cd.loop (σ := Nat × Nat × Unit) (fun (i1, k1, _u) => [(3, .int .i64 (0 : Int)), (6, Sl.v s_a0), (7, .int .i64 (a0.length : Int)), (8, .int .i64 (i1 : Int))]) (fun (i1, k1, _u) => L) (fun _ => (fun (i1, k1, _u) => rangeM (cmp_Or_int_B0 a0) k1 i1 () = some ol1 ∧ i1 + k1 = a0.length)) (fun (i1, k1, _u) => k1) (0, a0.length, ()) ⟨rfl, rfl, rfl, rfl, trivial⟩ rfl ⟨H, by omega⟩ ?_
  rintro F2 ⟨i1, k1, _u⟩ hF3 ⟨H, hik1⟩
  refine Cd.as (e' := [(3, .int .i64 (0 : Int)), (6, Sl.v s_a0), (7, .int .i64 (a0.length : Int)), (8, .int .i64 (i1 : Int))]) (L' := L) ⟨rfl, rfl, rfl, rfl, trivial⟩ rfl ?_
  rcases k1 with _ | k1
  · have hc1 : decide ((i1 : Int) < (a0.length : Int)) = false := decide_eq_false (by omega)
    replace H := rangeM_end H
    refine Cd.seq ?_
    refine Cd.region ?_
    refine Lst.run rfl rfl (by decide) (Ev.lss rfl rfl) ?_
    refine Lst.nil ?_
    refine At.then ?_
    refine Cd.seq ?_
    refine Cd.condF rfl hc1 ?_
    refine Cd.exit ?_
    refine At.then_exit ?_
    refine At.then_exit ?_
    refine At.in_exit ?_
    subst H
    replace H := HKl1
    refine At.then ?_
    refine Cd.seq ?_
    refine Cd.region ?_
    refine Lst.run rfl rfl (by decide) (Ev.move rfl) ?_
    refine Lst.run rfl rfl (by decide) (Ev.assign rfl) ?_
    refine Lst.nil ?_
    refine At.then ?_
    obtain rfl := some_inj H
    refine Cd.ret ?_
    exact At.ret1 rfl (Res.tmp rfl) hF3 (List.Sublist.refl _) ⟨rfl, rfl⟩
  have hc1 : decide ((i1 : Int) < (a0.length : Int)) = true := decide_eq_true (by omega)
  obtain ⟨c1, H, hgo1, hbrk1, hret1⟩ := rangeM_go H
  unfold cmp_Or_int_B0 at H
  try dsimp only at H
  refine Cd.seq ?_
  refine Cd.region ?_
  refine Lst.run rfl rfl (by decide) (Ev.lss rfl rfl) ?_
  refine Lst.nil ?_
  refine At.then ?_
  refine Cd.seq ?_
  refine Cd.condT rfl hc1 ?_
  refine Cd.skip ?_
  refine At.then ?_
  refine Cd.seq ?_
  refine Cd.block ?_
  refine Cd.seq ?_
  refine Cd.region ?_
  obtain ⟨x4, h5, H⟩ := bind_some H
  have g6 := lat_some h5
  refine Lst.run rfl rfl (by decide) (Ev.indexS (α := Int) (xs := a0) rfl rfl Try.runUnderlying36 Try.sizeOf3 rfl (by decide) (hs_a0.mono hF3 hM) g6.1 g6.2.1) ?_
  refine Lst.run rfl rfl (by decide) (Ev.loadS (α := Int) rfl (hs_a0.mono hF3 hM) Try.isAgg3 (v := .int .i64 x4) ((Get.elemN (s := 1) (x := x4) rfl g6.2.2 (Get.here _)).off (by omega))) ?_
  refine Lst.run rfl rfl (by decide) (Ev.assign rfl) ?_
  refine Lst.nil ?_
  refine At.then ?_
  refine Cd.seq ?_
  refine Cd.region ?_
  refine Lst.run rfl rfl (by decide) (Ev.move rfl) ?_
  refine Lst.run rfl rfl (by decide) (Ev.move rfl) ?_
  refine Lst.run rfl rfl (by decide) (Ev.neq rfl rfl) ?_
  refine Lst.nil ?_
  refine At.then ?_
  rcases Bool.eq_false_or_eq_true (x4 != (0 : Int)) with hb7 | hb7
  · replace H := ite_t hb7 H
    refine Cd.condT rfl hb7 ?_
    refine Cd.seq ?_
    refine Cd.region ?_
    refine Lst.run rfl rfl (by decide) (Ev.move rfl) ?_
    refine Lst.run rfl rfl (by decide) (Ev.assign rfl) ?_
    refine Lst.nil ?_
    refine At.then ?_
    have H := hret1 _ (some_inj H).symm
    subst H
    replace H := HKl1
    obtain rfl := some_inj H
    refine Cd.ret ?_
    refine At.in_ret ?_
    refine At.then_ret ?_
    refine At.then_ret ?_
    refine At.in_ret ?_
    refine At.then_ret ?_
    exact At.ret1 rfl (Res.tmp rfl) hF3 (List.Sublist.refl _) ⟨rfl, rfl⟩
  replace H := ite_f hb7 H
  refine Cd.condF rfl hb7 ?_
  refine Cd.skip ?_
  refine At.in_normal ?_
  refine At.then ?_
  refine Cd.region ?_
  refine Lst.run rfl rfl (by decide) (Ev.incr (by omega) rfl rfl) ?_
  refine Lst.run rfl rfl (by decide) (Ev.move rfl) ?_
  refine Lst.nil ?_
  exact At.meet (i1 + 1, k1, ()) hF3 ⟨rfl, rfl, rfl, rfl, trivial⟩ rfl ⟨⟨hgo1 _ (some_inj H).symm, by omega⟩, Nat.lt_succ_self _⟩
set_option maxRecDepth 20000 in
theorem quorum_compare_sim {a0 : BitVec 16} {a1 : BitVec 16} {r : Int} (H : quorum_compare a0 a1 = some r) (w0 : World) (F : Frz) (M L : List Item) (hM : M.Sublist L) : Ok Try.prog w0 53 [.int .u16 a0.toNat, .int .u16 a1.toNat] F (L) (Is (.int .i64 r) (L)) := by
  unfold quorum_compare at H
  refine Ok.enter (m := 2) (n := 15) Try.func53 rfl rfl rfl (by decide) ?_
  refine Cd.env (e' := [(0, .int .u16 a0.toNat), (1, .int .u16 a1.toNat)]) rfl ?_
  refine Cd.seq ?_
  refine Cd.region ?_
  refine Lst.run rfl rfl (by decide) (Ev.assign rfl) ?_
  refine Lst.nil ?_
  refine At.then ?_
  refine Cd.seq ?_
  refine Cd.region ?_
  refine Lst.run rfl rfl (by decide) (Ev.move rfl) ?_
  obtain ⟨r1, h2, H⟩ := bind_some H
  refine Lst.call1 rfl rfl (by decide) (vs := [.int .u16 a0.toNat]) ⟨rfl, trivial⟩ Try.call99 (math_bits_OnesCount16_sim h2 w0 _ M _ hM) ?_
  refine Lst.run rfl rfl (by decide) (Ev.move rfl) ?_
  obtain ⟨r5, h6, H⟩ := bind_some H
  refine Lst.call1 rfl rfl (by decide) (vs := [.int .u16 a1.toNat]) ⟨rfl, trivial⟩ Try.call99 (math_bits_OnesCount16_sim h6 w0 _ M _ hM) ?_
  obtain ⟨r9, h10, H⟩ := bind_some H
  refine Lst.call1 rfl rfl (by decide) (vs := [.int .i64 r1, .int .i64 r5]) ⟨rfl, rfl, trivial⟩ Try.call98 (cmp_Compare_int_sim h10 w0 _ M _ hM) ?_
  refine Lst.run rfl rfl (by decide) (Ev.move rfl) ?_
  refine Lst.run rfl rfl (by decide) (Ev.move rfl) ?_
  obtain ⟨r13, h14, H⟩ := bind_some H
  refine Lst.call1 rfl rfl (by decide) (vs := [.int .u16 a0.toNat, .int .u16 a1.toNat]) ⟨rfl, rfl, trivial⟩ Try.call100 (cmp_Compare_uint16_sim h14 w0 _ M _ hM) ?_
  refine Lst.buildSlice (α := Int) (xs := ([r9, r13] : List Int)) (pv := [(0, .int .i64 r9), (1, .int .i64 r13)]) rfl rfl (by decide) ⟨rfl, rfl, ⟨rfl, rfl, trivial⟩⟩ (run_buildSlice (α := Int) (z0 := (0 : Int)) (xs := ([r9, r13] : List Int)) Try.runUnderlying36 Try.sizeOf3 Try.zeroValue3 rfl rfl rfl (by decide) rfl (fill_cons (cs := encs (List.replicate 2 (0 : Int))) (cs' := encs ((List.replicate 2 (0 : Int)).set 0 r9)) (vs := [.int .i64 r9]) rfl rfl rfl ((Put.elemN (s := 1) (i := 0) (x := (0 : Int)) (y := r9) rfl rfl (Put.here (vs := [.int .i64 r9]) rfl)).off rfl) (fill_cons (cs := encs ((List.replicate 2 (0 : Int)).set 0 r9)) (cs' := encs (((List.replicate 2 (0 : Int)).set 0 r9).set 1 r13)) (vs := [.int .i64 r13]) rfl rfl rfl ((Put.elemN (s := 1) (i := 1) (x := (0 : Int)) (y := r13) rfl rfl (Put.here (vs := [.int .i64 r13]) rfl)).off rfl) fill_nil))) rfl rfl (by decide) (fun s17 _ => ?_)
  obtain ⟨r19, h20, H⟩ := bind_some H
  refine Lst.call1 rfl rfl (by decide) (vs := [Sl.v s17]) ⟨rfl, trivial⟩ Try.call97 (cmp_Or_int_sim h20 w0 _ _ _ (List.Sublist.refl _) (Rd.own (i := 0) rfl rfl rfl)) ?_
  refine Lst.run rfl rfl (by decide) (Ev.assign rfl) ?_
  refine Lst.nil ?_
  refine At.then ?_
  obtain rfl := some_inj H
  refine Cd.ret ?_
  exact At.ret1 rfl (Res.tmp rfl) (FLe.refl _) (List.Sublist.cons _ (List.Sublist.refl _)) ⟨rfl, rfl⟩
set_option maxRecDepth 20000 in
theorem quorum_within_sim {a0 : BitVec 16} {a1 : BitVec 16} {r : Bool} (H : quorum_within a0 a1 = some r) (w0 : World) (F : Frz) (M L : List Item) (hM : M.Sublist L) : Ok Try.prog w0 96 [.int .u16 a0.toNat, .int .u16 a1.toNat] F (L) (Is (.bool r) (L)) := by
  unfold quorum_within at H
  refine Ok.enter (m := 2) (n := 9) Try.func96 rfl rfl rfl (by decide) ?_
  refine Cd.env (e' := [(0, .int .u16 a0.toNat), (1, .int .u16 a1.toNat)]) rfl ?_
  refine Cd.seq ?_
  refine Cd.region ?_
  refine Lst.run rfl rfl (by decide) (Ev.assign rfl) ?_
  refine Lst.nil ?_
  refine At.then ?_
  refine Cd.seq ?_
  refine Cd.region ?_
  refine Lst.run rfl rfl (by decide) (Ev.move rfl) ?_
  refine Lst.run rfl rfl (by decide) (Ev.move rfl) ?_
  refine Lst.run rfl rfl (by decide) (Ev.andNotU16 (i := a0) (j := a1) rfl rfl) ?_
  refine Lst.run rfl rfl (by decide) (Ev.eql rfl rfl) ?_
  refine Lst.run rfl rfl (by decide) (Ev.assign rfl) ?_
  refine Lst.nil ?_
  refine At.then ?_
  obtain rfl := some_inj H
  refine Cd.ret ?_
  exact At.ret1 rfl (Res.tmp rfl) (FLe.refl _) (List.Sublist.refl _) ⟨rfl, rfl⟩
set_option maxRecDepth 20000 in
theorem quorum_contains_1_sim {a0 : BitVec 16} {a1 : BitVec 16} {b_a1 : Nat} {r : Bool} (H : quorum_contains_1 a0 a1 = some r) (w0 : World) (F : Frz) (M L : List Item) (hM : M.Sublist L) : Ok Try.prog w0 95 [.int .u16 a0.toNat, .pointer (some ⟨b_a1, 0, none⟩)] F ((.blk b_a1 (enc a1) 23) :: L) (Is (.bool r) ((.blk b_a1 (enc a1) 23) :: L)) := by
  unfold quorum_contains_1 at H
  refine Ok.enter (m := 2) (n := 7) Try.func95 rfl rfl rfl (by decide) ?_
  refine Cd.env (e' := [(0, .int .u16 a0.toNat), (1, .pointer (some ⟨b_a1, 0, none⟩))]) rfl ?_
  refine Cd.seq ?_
  refine Cd.region ?_
  refine Lst.run rfl rfl (by decide) (Ev.assign rfl) ?_
  refine Lst.nil ?_
  refine At.then ?_
  refine Cd.seq ?_
  refine Cd.region ?_
  refine Lst.run rfl rfl (by decide) (Ev.move rfl) ?_
  refine Lst.run rfl rfl (by decide) (Ev.load (i := 0) rfl rfl Try.isAgg23 (v := .int .u16 a1.toNat) (Get.here _)) ?_
  obtain ⟨r2, h3, H⟩ := bind_some H
  refine Lst.call1 rfl rfl (by decide) (vs := [.int .u16 a0.toNat, .int .u16 a1.toNat]) ⟨rfl, rfl, trivial⟩ Try.call96 (quorum_within_sim h3 w0 _ M _ (List.Sublist.cons _ hM)) ?_
  refine Lst.run rfl rfl (by decide) (Ev.assign rfl) ?_
  refine Lst.nil ?_
  refine At.then ?_
  obtain rfl := some_inj H
  refine Cd.ret ?_
  exact At.ret1 rfl (Res.tmp rfl) (FLe.refl _) (List.Sublist.cons_cons _ (List.Sublist.refl _)) ⟨rfl, rfl⟩
set_option maxRecDepth 20000 in
theorem slices_IndexFunc_uint16_uint16_contains_1_sim {a0 : List (BitVec 16)} {a1_c0 : BitVec 16} {s_a0 : Sl} {b_a1_c0 : Nat} {r : Int} (H : slices_IndexFunc_uint16_uint16_contains_1 a0 a1_c0 = some r) (w0 : World) (F : Frz) (M L : List Item) (hM : M.Sublist L) (hs_a0 : Rd w0 F M s_a0 a0) : Ok Try.prog w0 55 [Sl.v s_a0, .func (.func 95) #[] #[.pointer (some ⟨b_a1_c0, 0, none⟩)]] F ((.blk b_a1_c0 (enc a1_c0) 23) :: L) (Is (.int .i64 r) ((.blk b_a1_c0 (enc a1_c0) 23) :: L)) := by
  unfold slices_IndexFunc_uint16_uint16_contains_1 at H
  refine Ok.enter (m := 2) (n := 19) Try.func55 rfl rfl rfl (by decide) ?_
  refine Cd.env (e' := [(0, Sl.v s_a0), (1, .func (.func 95) #[] #[.pointer (some ⟨b_a1_c0, 0, none⟩)])]) rfl ?_
  refine Cd.seq ?_
  refine Cd.region ?_
  refine Lst.run rfl rfl (by decide) (Ev.assign rfl) ?_
  refine Lst.nil ?_
  refine At.then ?_
  refine Cd.seq ?_
  refine Cd.seq ?_
  refine Cd.region ?_
  refine Lst.run rfl rfl (by decide) (Ev.move rfl) ?_
  refine Lst.run rfl rfl (by decide) (Ev.lenS (α := BitVec 16) (xs := a0) (by decide) rfl rfl Try.runUnderlying22 (hs_a0.mono (FLe.refl _) (List.Sublist.cons _ hM))) ?_
  refine Lst.run rfl rfl (by decide) (Ev.move rfl) ?_
  refine Lst.nil ?_
  refine At.then ?_
  refine Cd.block ?_
  refine Cd.bound (Rd.le (α := BitVec 16) (xs := a0) (by decide) (hs_a0.mono (FLe.refl _) (List.Sublist.cons _ hM))) (fun hN13 => ?_)
  obtain ⟨ol2, H, HKl2⟩ := andThen_some H
  refine Cd.loop (σ := Nat × Nat × Unit) (fun (i2, k2, _u) => [(0, Sl.v s_a0), (1, .func (.func 95) #[] #[.pointer (some ⟨b_a1_c0, 0, none⟩)]), (7, .int .i64 (a0.length : Int)), (8, .int .i64 (i2 : Int))]) (fun (i2, k2, _u) => (.blk b_a1_c0 (enc a1_c0) 23) :: L) (fun _ => (fun (i2, k2, _u) => rangeM (slices_IndexFunc_uint16_uint16_contains_1_B0 a0 a1_c0) k2 i2 () = some ol2 ∧ i2 + k2 = a0.length)) (fun (i2, k2, _u) => k2) (0, a0.length, ()) ⟨rfl, rfl, rfl, rfl, trivial⟩ rfl ⟨H, by omega⟩ ?_
  rintro F3 ⟨i2, k2, _u⟩ hF4 ⟨H, hik2⟩
  refine Cd.as (e' := [(0, Sl.v s_a0), (1, .func (.func 95) #[] #[.pointer (some ⟨b_a1_c0, 0, none⟩)]), (7, .int .i64 (a0.length : Int)), (8, .int .i64 (i2 : Int))]) (L' := (.blk b_a1_c0 (enc a1_c0) 23) :: L) ⟨rfl, rfl, rfl, rfl, trivial⟩ rfl ?_
  rcases k2 with _ | k2
  · have hc2 : decide ((i2 : Int) < (a0.length : Int)) = false := decide_eq_false (by omega)
    replace H := rangeM_end H
    refine Cd.seq ?_
    refine Cd.region ?_
    refine Lst.run rfl rfl (by decide) (Ev.lss rfl rfl) ?_
    refine Lst.nil ?_
    refine At.then ?_
    refine Cd.seq ?_
    refine Cd.condF rfl hc2 ?_
    refine Cd.exit ?_
    refine At.then_exit ?_
    refine At.then_exit ?_
    refine At.in_exit ?_
    subst H
    replace H := HKl2
    refine At.then ?_
    refine Cd.seq ?_
    refine Cd.region ?_
    refine Lst.run rfl rfl (by decide) (Ev.assign rfl) ?_
    refine Lst.nil ?_
    refine At.then ?_
    obtain rfl := some_inj H
    refine Cd.ret ?_
    exact At.ret1 rfl (Res.tmp rfl) hF4 (List.Sublist.cons_cons _ (List.Sublist.refl _)) ⟨rfl, rfl⟩
  have hc2 : decide ((i2 : Int) < (a0.length : Int)) = true := decide_eq_true (by omega)
  obtain ⟨c2, H, hgo2, hbrk2, hret2⟩ := rangeM_go H
  unfold slices_IndexFunc_uint16_uint16_contains_1_B0 at H
  try dsimp only at H
  refine Cd.seq ?_
  refine Cd.region ?_
  refine Lst.run rfl rfl (by decide) (Ev.lss rfl rfl) ?_
  refine Lst.nil ?_
  refine At.then ?_
  refine Cd.seq ?_
  refine Cd.condT rfl hc2 ?_
  refine Cd.skip ?_
  refine At.then ?_
  refine Cd.seq ?_
  refine Cd.block ?_
  refine Cd.seq ?_
  refine Cd.region ?_
  refine Lst.run rfl rfl (by decide) (Ev.move rfl) ?_
  refine Lst.run rfl rfl (by decide) (Ev.assign rfl) ?_
  refine Lst.nil ?_
  refine At.then ?_
  refine Cd.seq ?_
  refine Cd.region ?_
  refine Lst.run rfl rfl (by decide) (Ev.move rfl) ?_
  refine Lst.run rfl rfl (by decide) (Ev.move rfl) ?_
  refine Lst.run rfl rfl (by decide) (Ev.move rfl) ?_
  obtain ⟨x5, h6, H⟩ := bind_some H
  have g7 := lat_some h6
  refine Lst.run rfl rfl (by decide) (Ev.indexS (α := BitVec 16) (xs := a0) rfl rfl Try.runUnderlying22 Try.sizeOf23 rfl (by decide) (hs_a0.mono hF4 (List.Sublist.cons _ hM)) g7.1 g7.2.1) ?_
  refine Lst.run rfl rfl (by decide) (Ev.loadS (α := BitVec 16) rfl (hs_a0.mono hF4 (List.Sublist.cons _ hM)) Try.isAgg23 (v := .int .u16 x5.toNat) ((Get.elemN (s := 1) (x := x5) rfl g7.2.2 (Get.here _)).off (by omega))) ?_
  obtain ⟨r8, h9, H⟩ := bind_some H
  refine Lst.callV1 rfl rfl (by decide) (vs := [.int .u16 x5.toNat]) (cs := [.pointer (some ⟨b_a1_c0, 0, none⟩)]) rfl ⟨rfl, trivial⟩ Try.call95 (quorum_contains_1_sim h9 w0 _ M _ hM) ?_
  refine Lst.nil ?_
  refine At.then ?_
  rcases Bool.eq_false_or_eq_true r8 with hb12 | hb12
  · replace H := ite_t hb12 H
    refine Cd.condT rfl hb12 ?_
    refine Cd.seq ?_
    refine Cd.region ?_
    refine Lst.run rfl rfl (by decide) (Ev.move rfl) ?_
    refine Lst.run rfl rfl (by decide) (Ev.assign rfl) ?_
    refine Lst.nil ?_
    refine At.then ?_
    have H := hret2 _ (some_inj H).symm
    subst H
    replace H := HKl2
    obtain rfl := some_inj H
    refine Cd.ret ?_
    refine At.in_ret ?_
    refine At.then_ret ?_
    refine At.then_ret ?_
    refine At.in_ret ?_
    refine At.then_ret ?_
    exact At.ret1 rfl (Res.tmp rfl) hF4 (List.Sublist.cons_cons _ (List.Sublist.refl _)) ⟨rfl, rfl⟩
  replace H := ite_f hb12 H
  refine Cd.condF rfl hb12 ?_
  refine Cd.skip ?_
  refine At.in_normal ?_
  refine At.then ?_
  refine Cd.region ?_
  refine Lst.run rfl rfl (by decide) (Ev.incr (by omega) rfl rfl) ?_
  refine Lst.run rfl rfl (by decide) (Ev.move rfl) ?_
  refine Lst.nil ?_
  exact At.meet (i2 + 1, k2, ()) hF4 ⟨rfl, rfl, rfl, rfl, trivial⟩ rfl ⟨⟨hgo2 _ (some_inj H).symm, by omega⟩, Nat.lt_succ_self _⟩
set_option maxRecDepth 20000 in
theorem slices_ContainsFunc_uint16_uint16_contains_1_sim {a0 : List (BitVec 16)} {a1_c0 : BitVec 16} {s_a0 : Sl} {b_a1_c0 : Nat} {r : Bool} (H : slices_ContainsFunc_uint16_uint16_contains_1 a0 a1_c0 = some r) (w0 : World) (F : Frz) (M L : List Item) (hM : M.Sublist L) (hs_a0 : Rd w0 F M s_a0 a0) : Ok Try.prog w0 14 [Sl.v s_a0, .func (.func 95) #[] #[.pointer (some ⟨b_a1_c0, 0, none⟩)]] F ((.blk b_a1_c0 (enc a1_c0) 23) :: L) (Is (.bool r) ((.blk b_a1_c0 (enc a1_c0) 23) :: L)) := by
  unfold slices_ContainsFunc_uint16_uint16_contains_1 at H
  refine Ok.enter (m := 2) (n := 9) Try.func14 rfl rfl rfl (by decide) ?_
  refine Cd.env (e' := [(0, Sl.v s_a0), (1, .func (.func 95) #[] #[.pointer (some ⟨b_a1_c0, 0, none⟩)])]) rfl ?_
  refine Cd.seq ?_
  refine Cd.region ?_
  refine Lst.run rfl rfl (by decide) (Ev.assign rfl) ?_
  refine Lst.nil ?_
  refine At.then ?_
  refine Cd.seq ?_
  refine Cd.region ?_
  refine Lst.run rfl rfl (by decide) (Ev.move rfl) ?_
  refine Lst.run rfl rfl (by decide) (Ev.move rfl) ?_
  obtain ⟨r2, h3, H⟩ := bind_some H
  refine Lst.call1 rfl rfl (by decide) (vs := [Sl.v s_a0, .func (.func 95) #[] #[.pointer (some ⟨b_a1_c0, 0, none⟩)]]) ⟨rfl, rfl, trivial⟩ Try.call55 (slices_IndexFunc_uint16_uint16_contains_1_sim h3 w0 _ M _ hM (hs_a0.mono (FLe.refl _) (List.Sublist.refl _))) ?_
  refine Lst.run rfl rfl (by decide) (Ev.geq rfl rfl) ?_
  refine Lst.run rfl rfl (by decide) (Ev.assign rfl) ?_
  refine Lst.nil ?_
  refine At.then ?_
  obtain rfl := some_inj H
  refine Cd.ret ?_
  exact At.ret1 rfl (Res.tmp rfl) (FLe.refl _) (List.Sublist.cons_cons _ (List.Sublist.refl _)) ⟨rfl, rfl⟩
set_option maxRecDepth 20000 in
theorem quorum_contains_sim {a0 : BitVec 16} {a1 : List (BitVec 16)} {s_a1 : Sl} {r : Bool} (H : quorum_contains a0 a1 = some r) (w0 : World) (F : Frz) (M L : List Item) (hM : M.Sublist L) (hs_a1 : Rd w0 F M s_a1 a1) : Ok Try.prog w0 51 [.int .u16 a0.toNat, Sl.v s_a1] F (L) (Is (.bool r) (L)) := by
  unfold quorum_contains at H
  refine Ok.enter (m := 2) (n := 8) Try.func51 rfl rfl rfl (by decide) ?_
  refine Cd.env (e' := [(0, .int .u16 a0.toNat), (1, Sl.v s_a1)]) rfl ?_
  refine Cd.seq ?_
  refine Cd.region ?_
  refine Lst.box rfl rfl (by decide) rfl (cs := enc a0) rfl (fun b1 => ?_)
  refine Lst.run rfl rfl (by decide) (Ev.assign rfl) ?_
  refine Lst.nil ?_
  refine At.then ?_
  refine Cd.seq ?_
  refine Cd.region ?_
  refine Lst.run rfl rfl (by decide) (Ev.move rfl) ?_
  refine Lst.run rfl rfl (by decide) (Ev.makeFunc (us := []) (vs := [.pointer (some ⟨b1, 0, none⟩)]) trivial ⟨rfl, trivial⟩) ?_
  obtain ⟨r3, h4, H⟩ := bind_some H
  refine Lst.call1 rfl rfl (by decide) (vs := [Sl.v s_a1, .func (.func 95) #[] #[.pointer (some ⟨b1, 0, none⟩)]]) ⟨rfl, rfl, trivial⟩ Try.call14 (slices_ContainsFunc_uint16_uint16_contains_1_sim h4 w0 _ M _ hM (hs_a1.mono (FLe.refl _) (List.Sublist.refl _))) ?_
  refine Lst.run rfl rfl (by decide) (Ev.assign rfl) ?_
  refine Lst.nil ?_
  refine At.then ?_
  obtain rfl := some_inj H
  refine Cd.ret ?_
  exact At.ret1 rfl (Res.tmp rfl) (FLe.refl _) (List.Sublist.cons _ (List.Sublist.refl _)) ⟨rfl, rfl⟩
set_option maxRecDepth 20000 in
theorem quorum_Check_sim {a0 : Int} {a1 : List (BitVec 16)} {s_a1 : Sl} {r : Int} (H : quorum_Check a0 a1 = some r) (w0 : World) (F : Frz) (M L : List Item) (hM : M.Sublist L) (hs_a1 : Rd w0 F M s_a1 a1) : Ok Try.prog w0 11 [.int .i64 a0, Sl.v s_a1] F (L) (Is (.int .i64 r) (L)) := by
  unfold quorum_Check at H
  refine Ok.enter (m := 2) (n := 48) Try.func11 rfl rfl rfl (by decide) ?_
  refine Cd.env (e' := [(0, .int .i64 a0), (1, Sl.v s_a1)]) rfl ?_
  refine Cd.seq ?_
  refine Cd.region ?_
  refine Lst.run rfl rfl (by decide) (Ev.assign rfl) ?_
  refine Lst.nil ?_
  refine At.then ?_
  refine Cd.seq ?_
  refine Cd.block ?_
  refine Cd.seq ?_
  refine Cd.region ?_
  refine Lst.run rfl rfl (by decide) (Ev.move rfl) ?_
  obtain ⟨r1, h2, H⟩ := bind_some H
  refine Lst.call1 rfl rfl (by decide) (vs := [.int .i64 a0, .int .i64 (1 : Int), .int .i64 (10 : Int)]) ⟨rfl, rfl, rfl, trivial⟩ Try.call52 (quorum_in_sim h2 w0 _ M _ hM) ?_
  refine Lst.run rfl rfl (by decide) (Ev.not rfl) ?_
  refine Lst.run rfl rfl (by decide) (Ev.assign rfl) ?_
  refine Lst.nil ?_
  refine At.then ?_
  rcases Bool.eq_false_or_eq_true (!r1) with hb5 | hb5
  · replace H := ite_t hb5 H
    refine Cd.condT rfl hb5 ?_
    refine Cd.seq ?_
    refine Cd.region ?_
    refine Lst.run rfl rfl (by decide) (Ev.assign rfl) ?_
    refine Lst.nil ?_
    refine At.then ?_
    obtain rfl := some_inj H
    refine Cd.ret ?_
    refine At.in_ret ?_
    refine At.then_ret ?_
    exact At.ret1 rfl (Res.tmp rfl) (FLe.refl _) (List.Sublist.refl _) ⟨rfl, rfl⟩
  replace H := ite_f hb5 H
  refine Cd.condF rfl hb5 ?_
  refine Cd.seq ?_
  refine Cd.region ?_
  refine Lst.run rfl rfl (by decide) (Ev.move rfl) ?_
  refine Lst.run rfl rfl (by decide) (Ev.lenS (α := BitVec 16) (xs := a1) (by decide) rfl rfl Try.runUnderlying22 (hs_a1.mono (FLe.refl _) hM)) ?_
  refine Lst.run rfl rfl (by decide) (Ev.gtr rfl rfl) ?_
  refine Lst.run rfl rfl (by decide) (Ev.assign rfl) ?_
  refine Lst.nil ?_
  refine At.then ?_
  rcases Bool.eq_false_or_eq_true (decide ((a1.length : Int) > (300 : Int))) with hb6 | hb6
  · replace H := ite_t hb6 H
    refine Cd.condT rfl hb6 ?_
    refine Cd.seq ?_
    refine Cd.region ?_
    refine Lst.run rfl rfl (by decide) (Ev.assign rfl) ?_
    refine Lst.nil ?_
    refine At.then ?_
    obtain rfl := some_inj H
    refine Cd.ret ?_
    refine At.in_ret ?_
    refine At.then_ret ?_
    exact At.ret1 rfl (Res.tmp rfl) (FLe.refl _) (List.Sublist.refl _) ⟨rfl, rfl⟩
  replace H := ite_f hb6 H
  refine Cd.condF rfl hb6 ?_
  refine Cd.skip ?_
  refine At.in_normal ?_
  refine At.then ?_
  refine Cd.seq ?_
  refine Cd.seq ?_
  refine Cd.region ?_
  refine Lst.run rfl rfl (by decide) (Ev.move rfl) ?_
  refine Lst.run rfl rfl (by decide) (Ev.lenS (α := BitVec 16) (xs := a1) (by decide) rfl rfl Try.runUnderlying22 (hs_a1.mono (FLe.refl _) hM)) ?_
  refine Lst.run rfl rfl (by decide) (Ev.move rfl) ?_
  refine Lst.nil ?_
  refine At.then ?_
  refine Cd.block ?_
  refine Cd.bound (Rd.le (α := BitVec 16) (xs := a1) (by decide) (hs_a1.mono (FLe.refl _) hM)) (fun hN44 => ?_)
  obtain ⟨ol7, H, HKl7⟩ := andThen_some H
  refine Cd.loop (σ := Nat × Nat × Unit) (fun (i7, k7, _u) => [(0, .int .i64 a0), (1, Sl.v s_a1), (15, Sl.v s_a1), (16, .int .i64 (a1.length : Int)), (17, .int .i64 (i7 : Int))]) (fun (i7, k7, _u) => L) (fun _ => (fun (i7, k7, _u) => rangeM (quorum_Check_B1 a0 a1) k7 i7 () = some ol7 ∧ i7 + k7 = a1.length)) (fun (i7, k7, _u) => k7) (0, a1.length, ()) ⟨rfl, rfl, rfl, rfl, rfl, trivial⟩ rfl ⟨H, by omega⟩ ?_
  rintro F8 ⟨i7, k7, _u⟩ hF9 ⟨H, hik7⟩
  refine Cd.as (e' := [(0, .int .i64 a0), (1, Sl.v s_a1), (15, Sl.v s_a1), (16, .int .i64 (a1.length : Int)), (17, .int .i64 (i7 : Int))]) (L' := L) ⟨rfl, rfl, rfl, rfl, rfl, trivial⟩ rfl ?_
  rcases k7 with _ | k7
  · have hc7 : decide ((i7 : Int) < (a1.length : Int)) = false := decide_eq_false (by omega)
    replace H := rangeM_end H
    refine Cd.seq ?_
    refine Cd.region ?_
    refine Lst.run rfl rfl (by decide) (Ev.lss rfl rfl) ?_
    refine Lst.nil ?_
    refine At.then ?_
    refine Cd.seq ?_
    refine Cd.condF rfl hc7 ?_
    refine Cd.exit ?_
    refine At.then_exit ?_
    refine At.then_exit ?_
    refine At.in_exit ?_
    subst H
    replace H := HKl7
    refine At.then ?_
    refine Cd.seq ?_
    refine Cd.region ?_
    refine Lst.run rfl rfl (by decide) (Ev.assign rfl) ?_
    refine Lst.nil ?_
    refine At.then ?_
    obtain rfl := some_inj H
    refine Cd.ret ?_
    exact At.ret1 rfl (Res.tmp rfl) hF9 (List.Sublist.refl _) ⟨rfl, rfl⟩
  have hc7 : decide ((i7 : Int) < (a1.length : Int)) = true := decide_eq_true (by omega)
  obtain ⟨c7, H, hgo7, hbrk7, hret7⟩ := rangeM_go H
  unfold quorum_Check_B1 at H
  try dsimp only at H
  refine Cd.seq ?_
  refine Cd.region ?_
  refine Lst.run rfl rfl (by decide) (Ev.lss rfl rfl) ?_
  refine Lst.nil ?_
  refine At.then ?_
  refine Cd.seq ?_
  refine Cd.condT rfl hc7 ?_
  refine Cd.skip ?_
  refine At.then ?_
  refine Cd.seq ?_
  refine Cd.block ?_
  refine Cd.seq ?_
  refine Cd.region ?_
  refine Lst.run rfl rfl (by decide) (Ev.move rfl) ?_
  obtain ⟨x10, h11, H⟩ := bind_some H
  have g12 := lat_some h11
  refine Lst.run rfl rfl (by decide) (Ev.indexS (α := BitVec 16) (xs := a1) rfl rfl Try.runUnderlying22 Try.sizeOf23 rfl (by decide) (hs_a1.mono hF9 hM) g12.1 g12.2.1) ?_
  refine Lst.run rfl rfl (by decide) (Ev.loadS (α := BitVec 16) rfl (hs_a1.mono hF9 hM) Try.isAgg23 (v := .int .u16 x10.toNat) ((Get.elemN (s := 1) (x := x10) rfl g12.2.2 (Get.here _)).off (by omega))) ?_
  refine Lst.run rfl rfl (by decide) (Ev.assign rfl) ?_
  refine Lst.run rfl rfl (by decide) (Ev.assign rfl) ?_
  refine Lst.nil ?_
  refine At.then ?_
  refine Cd.block ?_
  refine Cd.seq ?_
  refine Cd.region ?_
  refine Lst.run rfl rfl (by decide) (Ev.move rfl) ?_
  refine Lst.run rfl rfl (by decide) (Ev.move rfl) ?_
  obtain ⟨n13, h14, H⟩ := bind_some H
  refine Lst.run rfl rfl (by decide) (Ev.shrU16 (i := x10) (m := n13) rfl (congrArg some (congrArg (Value.int .i64) (cnt_some h14)))) ?_
  refine Lst.run rfl rfl (by decide) (Ev.neq rfl rfl) ?_
  refine Lst.run rfl rfl (by decide) (Ev.assign rfl) ?_
  refine Lst.nil ?_
  refine At.then ?_
  rcases Bool.eq_false_or_eq_true (((x10 >>> n13).toNat : Int) != ((0 : BitVec 16).toNat : Int)) with hb16 | hb16
  · replace H := ite_t hb16 H
    refine Cd.condT rfl hb16 ?_
    refine Cd.seq ?_
    refine Cd.as (e' := []) (L' := L) trivial rfl ?_
    refine Cd.region ?_
    refine Lst.run rfl rfl (by decide) (Ev.assign rfl) ?_
    refine Lst.nil ?_
    refine At.then ?_
    have H := hret7 _ (some_inj H).symm
    subst H
    replace H := HKl7
    obtain rfl := some_inj H
    refine Cd.ret ?_
    refine At.in_ret ?_
    refine At.in_ret ?_
    refine At.then_ret ?_
    refine At.then_ret ?_
    refine At.in_ret ?_
    refine At.then_ret ?_
    exact At.ret1 rfl (Res.tmp rfl) hF9 (List.Sublist.refl _) ⟨rfl, rfl⟩
  replace H := ite_f hb16 H
  refine Cd.condF rfl hb16 ?_
  refine Cd.seq ?_
  refine Cd.region ?_
  refine Lst.run rfl rfl (by decide) (Ev.move rfl) ?_
  refine Lst.run rfl rfl (by decide) (Ev.gtr rfl rfl) ?_
  refine Lst.run rfl rfl (by decide) (Ev.move rfl) ?_
  obtain ⟨o17, H, HKo17⟩ := bind_some H
  refine Lst.join (σ := Bool) 9 (fun y18 => [(0, .int .i64 a0), (1, Sl.v s_a1), (5, .int .i64 (i7 : Int)), (6, .int .u16 x10.toNat), (15, Sl.v s_a1), (16, .int .i64 (a1.length : Int)), (17, .int .i64 (i7 : Int)), (39, .bool y18)]) (fun y18 => L) (fun _ y18 => y18 = o17) ?_ ?_
  · rcases (Bool.eq_false_or_eq_true (decide ((i7 : Int) > (0 : Int)))).symm with hb19 | hb19
    · replace H := ite_f hb19 H
      refine Lst.skip rfl rfl rfl hb19 rfl (by decide) ?_
      refine Lst.skip rfl rfl rfl hb19 rfl (by decide) ?_
      refine Lst.skip rfl rfl rfl hb19 rfl (by decide) ?_
      refine Lst.skip rfl rfl rfl hb19 rfl (by decide) ?_
      refine Lst.skip rfl rfl rfl hb19 rfl (by decide) ?_
      refine Lst.skip rfl rfl rfl hb19 rfl (by decide) ?_
      refine Lst.skip rfl rfl rfl hb19 rfl (by decide) ?_
      refine Lst.skip rfl rfl rfl hb19 rfl (by decide) ?_
      refine Lst.run rfl rfl (by decide) (Ev.pickF rfl hb19 rfl) ?_
      refine Lst.nil ?_
      exact At.meet false (FLe.refl _) ⟨rfl, rfl, rfl, rfl, rfl, rfl, rfl, rfl, trivial⟩ rfl (some_inj H)
    replace H := ite_t hb19 H
    refine Lst.runG rfl rfl rfl hb19 rfl (by decide) (Ev.move rfl) ?_
    refine Lst.runG rfl rfl rfl hb19 rfl (by decide) (Ev.move rfl) ?_
    refine Lst.runG rfl rfl rfl hb19 rfl (by decide) (Ev.sub rfl rfl) ?_
    obtain ⟨x20, h21, H⟩ := bind_some H
    have g22 := lat_some h21
    refine Lst.runG rfl rfl rfl hb19 rfl (by decide) (Ev.indexS (α := BitVec 16) (xs := a1) rfl rfl Try.runUnderlying22 Try.sizeOf23 rfl (by decide) (hs_a1.mono hF9 hM) g22.1 g22.2.1) ?_
    refine Lst.runG rfl rfl rfl hb19 rfl (by decide) (Ev.loadS (α := BitVec 16) rfl (hs_a1.mono hF9 hM) Try.isAgg23 (v := .int .u16 x20.toNat) ((Get.elemN (s := 1) (x := x20) rfl g22.2.2 (Get.here _)).off (by omega))) ?_
    refine Lst.runG rfl rfl rfl hb19 rfl (by decide) (Ev.move rfl) ?_
    obtain ⟨r23, h24, H⟩ := bind_some H
    refine Lst.call1G rfl rfl rfl hb19 rfl (by decide) (vs := [.int .u16 x20.toNat, .int .u16 x10.toNat]) ⟨rfl, rfl, trivial⟩ Try.call53 (quorum_compare_sim h24 w0 _ M _ hM) ?_
    refine Lst.runG rfl rfl rfl hb19 rfl (by decide) (Ev.geq rfl rfl) ?_
    refine Lst.run rfl rfl (by decide) (Ev.pickT rfl hb19 rfl) ?_
    refine Lst.nil ?_
    exact At.meet (decide (r23 ≥ (0 : Int))) (FLe.refl _) ⟨rfl, rfl, rfl, rfl, rfl, rfl, rfl, rfl, trivial⟩ rfl (some_inj H)
  rintro F27 y18 hF28 hy
  subst hy
  refine Lst.as (e' := [(0, .int .i64 a0), (1, Sl.v s_a1), (5, .int .i64 (i7 : Int)), (6, .int .u16 x10.toNat), (15, Sl.v s_a1), (16, .int .i64 (a1.length : Int)), (17, .int .i64 (i7 : Int)), (39, .bool y18)]) (L' := L) ⟨rfl, rfl, rfl, rfl, rfl, rfl, rfl, rfl, trivial⟩ rfl ?_
  replace H := HKo17
  refine Lst.run rfl rfl (by decide) (Ev.move rfl) ?_
  obtain ⟨o29, H, HKo29⟩ := bind_some H
  refine Lst.join (σ := Bool) 6 (fun y30 => [(0, .int .i64 a0), (1, Sl.v s_a1), (15, Sl.v s_a1), (16, .int .i64 (a1.length : Int)), (17, .int .i64 (i7 : Int)), (46, .bool y30)]) (fun y30 => L) (fun _ y30 => y30 = o29) ?_ ?_
  · rcases Bool.eq_false_or_eq_true y18 with hb31 | hb31
    · replace H := ite_t hb31 H
      refine Lst.skip rfl rfl rfl hb31 rfl (by decide) ?_
      refine Lst.skip rfl rfl rfl hb31 rfl (by decide) ?_
      refine Lst.skip rfl rfl rfl hb31 rfl (by decide) ?_
      refine Lst.skip rfl rfl rfl hb31 rfl (by decide) ?_
      refine Lst.skip rfl rfl rfl hb31 rfl (by decide) ?_
      refine Lst.run rfl rfl (by decide) (Ev.pickT rfl hb31 rfl) ?_
      refine Lst.nil ?_
      exact At.meet true (FLe.refl _) ⟨rfl, rfl, rfl, rfl, rfl, rfl, trivial⟩ rfl (some_inj H)
    replace H := ite_f hb31 H
    refine Lst.runG rfl rfl rfl hb31 rfl (by decide) (Ev.move rfl) ?_
    refine Lst.runG rfl rfl rfl hb31 rfl (by decide) (Ev.move rfl) ?_
    refine Lst.runG rfl rfl rfl hb31 rfl (by decide) (Ev.move rfl) ?_
    obtain ⟨m32, h33, H⟩ := bind_some H
    obtain ⟨g34, gl35⟩ := cutL_some h33
    have hq36 : Rd w0 F M (s_a1.cut (0 : Int).toNat ((i7 : Int) : Int).toNat 1) m32 := by rw [← gl35]; exact Rd.cut (by decide) hs_a1 (by omega) (by omega)
    refine Lst.runG rfl rfl rfl hb31 rfl (by decide) (Ev.cut (α := BitVec 16) (xs := a1) (i := 0) (j := (i7 : Int)) rfl rfl rfl Try.runUnderlying22 Try.sizeOf23 rfl (by decide) (hs_a1.mono (FLe.trans hF9 hF28) hM) g34.1 g34.2.1 g34.2.2) ?_
    obtain ⟨r37, h38, H⟩ := bind_some H
    refine Lst.call1G rfl rfl rfl hb31 rfl (by decide) (vs := [.int .u16 x10.toNat, Sl.v (s_a1.cut (0 : Int).toNat ((i7 : Int) : Int).toNat 1)]) ⟨rfl, rfl, trivial⟩ Try.call51 (quorum_contains_sim h38 w0 _ M _ hM (hq36.mono (FLe.trans hF9 hF28) (List.Sublist.refl _))) ?_
    refine Lst.run rfl rfl (by decide) (Ev.pickF rfl hb31 rfl) ?_
    refine Lst.nil ?_
    exact At.meet r37 (FLe.refl _) ⟨rfl, rfl, rfl, rfl, rfl, rfl, trivial⟩ rfl (some_inj H)
  rintro F41 y30 hF42 hy
  subst hy
  refine Lst.as (e' := [(0, .int .i64 a0), (1, Sl.v s_a1), (15, Sl.v s_a1), (16, .int .i64 (a1.length : Int)), (17, .int .i64 (i7 : Int)), (46, .bool y30)]) (L' := L) ⟨rfl, rfl, rfl, rfl, rfl, rfl, trivial⟩ rfl ?_
  replace H := HKo29
  refine Lst.run rfl rfl (by decide) (Ev.assign rfl) ?_
  refine Lst.nil ?_
  refine At.then ?_
  rcases Bool.eq_false_or_eq_true y30 with hb43 | hb43
  · replace H := ite_t hb43 H
    refine Cd.condT rfl hb43 ?_
    refine Cd.seq ?_
    refine Cd.region ?_
    refine Lst.run rfl rfl (by decide) (Ev.assign rfl) ?_
    refine Lst.nil ?_
    refine At.then ?_
    have H := hret7 _ (some_inj H).symm
    subst H
    replace H := HKl7
    obtain rfl := some_inj H
    refine Cd.ret ?_
    refine At.in_ret ?_
    refine At.in_ret ?_
    refine At.then_ret ?_
    refine At.then_ret ?_
    refine At.in_ret ?_
    refine At.then_ret ?_
    exact At.ret1 rfl (Res.tmp rfl) (FLe.trans (FLe.trans hF9 hF28) hF42) (List.Sublist.refl _) ⟨rfl, rfl⟩
  replace H := ite_f hb43 H
  refine Cd.condF rfl hb43 ?_
  refine Cd.skip ?_
  refine At.in_normal ?_
  refine At.in_normal ?_
  refine At.then ?_
  refine Cd.region ?_
  refine Lst.run rfl rfl (by decide) (Ev.incr (by omega) rfl rfl) ?_
  refine Lst.run rfl rfl (by decide) (Ev.move rfl) ?_
  refine Lst.nil ?_
  exact At.meet (i7 + 1, k7, ()) (FLe.trans (FLe.trans hF9 hF28) hF42) ⟨rfl, rfl, rfl, rfl, rfl, trivial⟩ rfl ⟨⟨hgo7 _ (some_inj H).symm, by omega⟩, Nat.lt_succ_self _⟩
set_option maxRecDepth 20000 in
theorem quorum_meets_1_sim {a0 : BitVec 16} {a1 : BitVec 16} {b_a1 : Nat} {r : Bool} (H : quorum_meets_1 a0 a1 = some r) (w0 : World) (F : Frz) (M L : List Item) (hM : M.Sublist L) : Ok Try.prog w0 93 [.int .u16 a0.toNat, .pointer (some ⟨b_a1, 0, none⟩)] F ((.blk b_a1 (enc a1) 23) :: L) (Is (.bool r) ((.blk b_a1 (enc a1) 23) :: L)) := by
  unfold quorum_meets_1 at H
  refine Ok.enter (m := 2) (n := 8) Try.func93 rfl rfl rfl (by decide) ?_
  refine Cd.env (e' := [(0, .int .u16 a0.toNat), (1, .pointer (some ⟨b_a1, 0, none⟩))]) rfl ?_
  refine Cd.seq ?_
  refine Cd.region ?_
  refine Lst.run rfl rfl (by decide) (Ev.assign rfl) ?_
  refine Lst.nil ?_
  refine At.then ?_
  refine Cd.seq ?_
  refine Cd.region ?_
  refine Lst.run rfl rfl (by decide) (Ev.load (i := 0) rfl rfl Try.isAgg23 (v := .int .u16 a1.toNat) (Get.here _)) ?_
  refine Lst.run rfl rfl (by decide) (Ev.move rfl) ?_
  refine Lst.run rfl rfl (by decide) (Ev.andU16 (i := a1) (j := a0) rfl rfl) ?_
  refine Lst.run rfl rfl (by decide) (Ev.eql rfl rfl) ?_
  refine Lst.run rfl rfl (by decide) (Ev.assign rfl) ?_
  refine Lst.nil ?_
  refine At.then ?_
  obtain rfl := some_inj H
  refine Cd.ret ?_
  exact At.ret1 rfl (Res.tmp rfl) (FLe.refl _) (List.Sublist.cons_cons _ (List.Sublist.refl _)) ⟨rfl, rfl⟩
set_option maxRecDepth 20000 in
theorem slices_IndexFunc_uint16_uint16_meets_1_sim {a0 : List (BitVec 16)} {a1_c0 : BitVec 16} {s_a0 : Sl} {b_a1_c0 : Nat} {r : Int} (H : slices_IndexFunc_uint16_uint16_meets_1 a0 a1_c0 = some r) (w0 : World) (F : Frz) (M L : List Item) (hM : M.Sublist L) (hs_a0 : Rd w0 F M s_a0 a0) : Ok Try.prog w0 55 [Sl.v s_a0, .func (.func 93) #[] #[.pointer (some ⟨b_a1_c0, 0, none⟩)]] F ((.blk b_a1_c0 (enc a1_c0) 23) :: L) (Is (.int .i64 r) ((.blk b_a1_c0 (enc a1_c0) 23) :: L)) := by
  unfold slices_IndexFunc_uint16_uint16_meets_1 at H
  refine Ok.enter (m := 2) (n := 19) Try.func55 rfl rfl rfl (by decide) ?_
  refine Cd.env (e' := [(0, Sl.v s_a0), (1, .func (.func 93) #[] #[.pointer (some ⟨b_a1_c0, 0, none⟩)])]) rfl ?_
  refine Cd.seq ?_
  refine Cd.region ?_
  refine Lst.run rfl rfl (by decide) (Ev.assign rfl) ?_
  refine Lst.nil ?_
  refine At.then ?_
  refine Cd.seq ?_
  refine Cd.seq ?_
  refine Cd.region ?_
  refine Lst.run rfl rfl (by decide) (Ev.move rfl) ?_
  refine Lst.run rfl rfl (by decide) (Ev.lenS (α := BitVec 16) (xs := a0) (by decide) rfl rfl Try.runUnderlying22 (hs_a0.mono (FLe.refl _) (List.Sublist.cons _ hM))) ?_
  refine Lst.run rfl rfl (by decide) (Ev.move rfl) ?_
  refine Lst.nil ?_
  refine At.then ?_
  refine Cd.block ?_
  refine Cd.bound (Rd.le (α := BitVec 16) (xs := a0) (by decide) (hs_a0.mono (FLe.refl _) (List.Sublist.cons _ hM))) (fun hN13 => ?_)
  obtain ⟨ol2, H, HKl2⟩ := andThen_some H
  refine Cd.loop (σ := Nat × Nat × Unit) (fun (i2, k2, _u) => [(0, Sl.v s_a0), (1, .func (.func 93) #[] #[.pointer (some ⟨b_a1_c0, 0, none⟩)]), (7, .int .i64 (a0.length : Int)), (8, .int .i64 (i2 : Int))]) (fun (i2, k2, _u) => (.blk b_a1_c0 (enc a1_c0) 23) :: L) (fun _ => (fun (i2, k2, _u) => rangeM (slices_IndexFunc_uint16_uint16_meets_1_B0 a0 a1_c0) k2 i2 () = some ol2 ∧ i2 + k2 = a0.length)) (fun (i2, k2, _u) => k2) (0, a0.length, ()) ⟨rfl, rfl, rfl, rfl, trivial⟩ rfl ⟨H, by omega⟩ ?_
  rintro F3 ⟨i2, k2, _u⟩ hF4 ⟨H, hik2⟩
  refine Cd.as (e' := [(0, Sl.v s_a0), (1, .func (.func 93) #[] #[.pointer (some ⟨b_a1_c0, 0, none⟩)]), (7, .int .i64 (a0.length : Int)), (8, .int .i64 (i2 : Int))]) (L' := (.blk b_a1_c0 (enc a1_c0) 23) :: L) ⟨rfl, rfl, rfl, rfl, trivial⟩ rfl ?_
  rcases k2 with _ | k2
  · have hc2 : decide ((i2 : Int) < (a0.length : Int)) = false := decide_eq_false (by omega)
    replace H := rangeM_end H
    refine Cd.seq ?_
    refine Cd.region ?_
    refine Lst.run rfl rfl (by decide) (Ev.lss rfl rfl) ?_
    refine Lst.nil ?_
    refine At.then ?_
    refine Cd.seq ?_
    refine Cd.condF rfl hc2 ?_
    refine Cd.exit ?_
    refine At.then_exit ?_
    refine At.then_exit ?_
    refine At.in_exit ?_
    subst H
    replace H := HKl2
    refine At.then ?_
    refine Cd.seq ?_
    refine Cd.region ?_
    refine Lst.run rfl rfl (by decide) (Ev.assign rfl) ?_
    refine Lst.nil ?_
    refine At.then ?_
    obtain rfl := some_inj H
    refine Cd.ret ?_
    exact At.ret1 rfl (Res.tmp rfl) hF4 (List.Sublist.cons_cons _ (List.Sublist.refl _)) ⟨rfl, rfl⟩
  have hc2 : decide ((i2 : Int) < (a0.length : Int)) = true := decide_eq_true (by omega)
  obtain ⟨c2, H, hgo2, hbrk2, hret2⟩ := rangeM_go H
  unfold slices_IndexFunc_uint16_uint16_meets_1_B0 at H
  try dsimp only at H
  refine Cd.seq ?_
  refine Cd.region ?_
  refine Lst.run rfl rfl (by decide) (Ev.lss rfl rfl) ?_
  refine Lst.nil ?_
  refine At.then ?_
  refine Cd.seq ?_
  refine Cd.condT rfl hc2 ?_
  refine Cd.skip ?_
  refine At.then ?_
  refine Cd.seq ?_
  refine Cd.block ?_
  refine Cd.seq ?_
  refine Cd.region ?_
  refine Lst.run rfl rfl (by decide) (Ev.move rfl) ?_
  refine Lst.run rfl rfl (by decide) (Ev.assign rfl) ?_
  refine Lst.nil ?_
  refine At.then ?_
  refine Cd.seq ?_
  refine Cd.region ?_
  refine Lst.run rfl rfl (by decide) (Ev.move rfl) ?_
  refine Lst.run rfl rfl (by decide) (Ev.move rfl) ?_
  refine Lst.run rfl rfl (by decide) (Ev.move rfl) ?_
  obtain ⟨x5, h6, H⟩ := bind_some H
  have g7 := lat_some h6
  refine Lst.run rfl rfl (by decide) (Ev.indexS (α := BitVec 16) (xs := a0) rfl rfl Try.runUnderlying22 Try.sizeOf23 rfl (by decide) (hs_a0.mono hF4 (List.Sublist.cons _ hM)) g7.1 g7.2.1) ?_
  refine Lst.run rfl rfl (by decide) (Ev.loadS (α := BitVec 16) rfl (hs_a0.mono hF4 (List.Sublist.cons _ hM)) Try.isAgg23 (v := .int .u16 x5.toNat) ((Get.elemN (s := 1) (x := x5) rfl g7.2.2 (Get.here _)).off (by omega))) ?_
  obtain ⟨r8, h9, H⟩ := bind_some H
  refine Lst.callV1 rfl rfl (by decide) (vs := [.int .u16 x5.toNat]) (cs := [.pointer (some ⟨b_a1_c0, 0, none⟩)]) rfl ⟨rfl, trivial⟩ Try.call93 (quorum_meets_1_sim h9 w0 _ M _ hM) ?_
  refine Lst.nil ?_
  refine At.then ?_
  rcases Bool.eq_false_or_eq_true r8 with hb12 | hb12
  · replace H := ite_t hb12 H
    refine Cd.condT rfl hb12 ?_
    refine Cd.seq ?_
    refine Cd.region ?_
    refine Lst.run rfl rfl (by decide) (Ev.move rfl) ?_
    refine Lst.run rfl rfl (by decide) (Ev.assign rfl) ?_
    refine Lst.nil ?_
    refine At.then ?_
    have H := hret2 _ (some_inj H).symm
    subst H
    replace H := HKl2
    obtain rfl := some_inj H
    refine Cd.ret ?_
    refine At.in_ret ?_
    refine At.then_ret ?_
    refine At.then_ret ?_
    refine At.in_ret ?_
    refine At.then_ret ?_
    exact At.ret1 rfl (Res.tmp rfl) hF4 (List.Sublist.cons_cons _ (List.Sublist.refl _)) ⟨rfl, rfl⟩
  replace H := ite_f hb12 H
  refine Cd.condF rfl hb12 ?_
  refine Cd.skip ?_
  refine At.in_normal ?_
  refine At.then ?_
  refine Cd.region ?_
  refine Lst.run rfl rfl (by decide) (Ev.incr (by omega) rfl rfl) ?_
  refine Lst.run rfl rfl (by decide) (Ev.move rfl) ?_
  refine Lst.nil ?_
  exact At.meet (i2 + 1, k2, ()) hF4 ⟨rfl, rfl, rfl, rfl, trivial⟩ rfl ⟨⟨hgo2 _ (some_inj H).symm, by omega⟩, Nat.lt_succ_self _⟩
set_option maxRecDepth 20000 in
theorem slices_ContainsFunc_uint16_uint16_meets_1_sim {a0 : List (BitVec 16)} {a1_c0 : BitVec 16} {s_a0 : Sl} {b_a1_c0 : Nat} {r : Bool} (H : slices_ContainsFunc_uint16_uint16_meets_1 a0 a1_c0 = some r) (w0 : World) (F : Frz) (M L : List Item) (hM : M.Sublist L) (hs_a0 : Rd w0 F M s_a0 a0) : Ok Try.prog w0 14 [Sl.v s_a0, .func (.func 93) #[] #[.pointer (some ⟨b_a1_c0, 0, none⟩)]] F ((.blk b_a1_c0 (enc a1_c0) 23) :: L) (Is (.bool r) ((.blk b_a1_c0 (enc a1_c0) 23) :: L)) := by
  unfold slices_ContainsFunc_uint16_uint16_meets_1 at H
  refine Ok.enter (m := 2) (n := 9) Try.func14 rfl rfl rfl (by decide) ?_
  refine Cd.env (e' := [(0, Sl.v s_a0), (1, .func (.func 93) #[] #[.pointer (some ⟨b_a1_c0, 0, none⟩)])]) rfl ?_
  refine Cd.seq ?_
  refine Cd.region ?_
  refine Lst.run rfl rfl (by decide) (Ev.assign rfl) ?_
  refine Lst.nil ?_
  refine At.then ?_
  refine Cd.seq ?_
  refine Cd.region ?_
  refine Lst.run rfl rfl (by decide) (Ev.move rfl) ?_
  refine Lst.run rfl rfl (by decide) (Ev.move rfl) ?_
  obtain ⟨r2, h3, H⟩ := bind_some H
  refine Lst.call1 rfl rfl (by decide) (vs := [Sl.v s_a0, .func (.func 93) #[] #[.pointer (some ⟨b_a1_c0, 0, none⟩)]]) ⟨rfl, rfl, trivial⟩ Try.call55 (slices_IndexFunc_uint16_uint16_meets_1_sim h3 w0 _ M _ hM (hs_a0.mono (FLe.refl _) (List.Sublist.refl _))) ?_
  refine Lst.run rfl rfl (by decide) (Ev.geq rfl rfl) ?_
  refine Lst.run rfl rfl (by decide) (Ev.assign rfl) ?_
  refine Lst.nil ?_
  refine At.then ?_
  obtain rfl := some_inj H
  refine Cd.ret ?_
  exact At.ret1 rfl (Res.tmp rfl) (FLe.refl _) (List.Sublist.cons_cons _ (List.Sublist.refl _)) ⟨rfl, rfl⟩
set_option maxRecDepth 20000 in
theorem quorum_meets_sim {a0 : BitVec 16} {a1 : List (BitVec 16)} {s_a1 : Sl} {r : Bool} (H : quorum_meets a0 a1 = some r) (w0 : World) (F : Frz) (M L : List Item) (hM : M.Sublist L) (hs_a1 : Rd w0 F M s_a1 a1) : Ok Try.prog w0 48 [.int .u16 a0.toNat, Sl.v s_a1] F (L) (Is (.bool r) (L)) := by
  unfold quorum_meets at H
  refine Ok.enter (m := 2) (n := 9) Try.func48 rfl rfl rfl (by decide) ?_
  refine Cd.env (e' := [(0, .int .u16 a0.toNat), (1, Sl.v s_a1)]) rfl ?_
  refine Cd.seq ?_
  refine Cd.region ?_
  refine Lst.box rfl rfl (by decide) rfl (cs := enc a0) rfl (fun b1 => ?_)
  refine Lst.run rfl rfl (by decide) (Ev.assign rfl) ?_
  refine Lst.nil ?_
  refine At.then ?_
  refine Cd.seq ?_
  refine Cd.region ?_
  refine Lst.run rfl rfl (by decide) (Ev.move rfl) ?_
  refine Lst.run rfl rfl (by decide) (Ev.makeFunc (us := []) (vs := [.pointer (some ⟨b1, 0, none⟩)]) trivial ⟨rfl, trivial⟩) ?_
  obtain ⟨r3, h4, H⟩ := bind_some H
  refine Lst.call1 rfl rfl (by decide) (vs := [Sl.v s_a1, .func (.func 93) #[] #[.pointer (some ⟨b1, 0, none⟩)]]) ⟨rfl, rfl, trivial⟩ Try.call14 (slices_ContainsFunc_uint16_uint16_meets_1_sim h4 w0 _ M _ hM (hs_a1.mono (FLe.refl _) (List.Sublist.refl _))) ?_
  refine Lst.run rfl rfl (by decide) (Ev.not rfl) ?_
  refine Lst.run rfl rfl (by decide) (Ev.assign rfl) ?_
  refine Lst.nil ?_
  refine At.then ?_
  obtain rfl := some_inj H
  refine Cd.ret ?_
  exact At.ret1 rfl (Res.tmp rfl) (FLe.refl _) (List.Sublist.cons _ (List.Sublist.refl _)) ⟨rfl, rfl⟩
set_option maxRecDepth 20000 in
theorem quorum_Meets_1_sim {a0 : BitVec 16} {a1 : List (BitVec 16)} {b_a1 : Nat} {s_a1 : Sl} {r : Bool} (H : quorum_Meets_1 a0 a1 = some r) (w0 : World) (F : Frz) (M L : List Item) (hM : M.Sublist L) (hs_a1 : Rd w0 F M s_a1 a1) : Ok Try.prog w0 47 [.int .u16 a0.toNat, .pointer (some ⟨b_a1, 0, none⟩)] F ((.blk b_a1 (enc s_a1) 22) :: L) (Is (.bool r) ((.blk b_a1 (enc s_a1) 22) :: L)) := by
  unfold quorum_Meets_1 at H
  refine Ok.enter (m := 2) (n := 8) Try.func47 rfl rfl rfl (by decide) ?_
  refine Cd.env (e' := [(0, .int .u16 a0.toNat), (1, .pointer (some ⟨b_a1, 0, none⟩))]) rfl ?_
  refine Cd.seq ?_
  refine Cd.region ?_
  refine Lst.run rfl rfl (by decide) (Ev.assign rfl) ?_
  refine Lst.nil ?_
  refine At.then ?_
  refine Cd.seq ?_
  refine Cd.region ?_
  refine Lst.run rfl rfl (by decide) (Ev.move rfl) ?_
  refine Lst.run rfl rfl (by decide) (Ev.load (i := 0) rfl rfl Try.isAgg22 (v := Sl.v s_a1) (Get.here _)) ?_
  obtain ⟨r2, h3, H⟩ := bind_some H
  refine Lst.call1 rfl rfl (by decide) (vs := [.int .u16 a0.toNat, Sl.v s_a1]) ⟨rfl, rfl, trivial⟩ Try.call48 (quorum_meets_sim h3 w0 _ M _ (List.Sublist.cons _ hM) (hs_a1.mono (FLe.refl _) (List.Sublist.refl _))) ?_
  refine Lst.run rfl rfl (by decide) (Ev.not rfl) ?_
  refine Lst.run rfl rfl (by decide) (Ev.assign rfl) ?_
  refine Lst.nil ?_
  refine At.then ?_
  obtain rfl := some_inj H
  refine Cd.ret ?_
  exact At.ret1 rfl (Res.tmp rfl) (FLe.refl _) (List.Sublist.cons_cons _ (List.Sublist.refl _)) ⟨rfl, rfl⟩
set_option maxRecDepth 20000 in
theorem slices_IndexFunc_uint16_uint16_Meets_1_sim {a0 : List (BitVec 16)} {a1_c0 : List (BitVec 16)} {s_a0 : Sl} {b_a1_c0 : Nat} {s_a1_c0 : Sl} {r : Int} (H : slices_IndexFunc_uint16_uint16_Meets_1 a0 a1_c0 = some r) (w0 : World) (F : Frz) (M L : List Item) (hM : M.Sublist L) (hs_a0 : Rd w0 F M s_a0 a0) (hs_a1_c0 : Rd w0 F M s_a1_c0 a1_c0) : Ok Try.prog w0 55 [Sl.v s_a0, .func (.func 47) #[] #[.pointer (some ⟨b_a1_c0, 0, none⟩)]] F ((.blk b_a1_c0 (enc s_a1_c0) 22) :: L) (Is (.int .i64 r) ((.blk b_a1_c0 (enc s_a1_c0) 22) :: L)) := by
  unfold slices_IndexFunc_uint16_uint16_Meets_1 at H
  refine Ok.enter (m := 2) (n := 19) Try.func55 rfl rfl rfl (by decide) ?_
  refine Cd.env (e' := [(0, Sl.v s_a0), (1, .func (.func 47) #[] #[.pointer (some ⟨b_a1_c0, 0, none⟩)])]) rfl ?_
  refine Cd.seq ?_
  refine Cd.region ?_
  refine Lst.run rfl rfl (by decide) (Ev.assign rfl) ?_
  refine Lst.nil ?_
  refine At.then ?_
  refine Cd.seq ?_
  refine Cd.seq ?_
  refine Cd.region ?_
  refine Lst.run rfl rfl (by decide) (Ev.move rfl) ?_
  refine Lst.run rfl rfl (by decide) (Ev.lenS (α := BitVec 16) (xs := a0) (by decide) rfl rfl Try.runUnderlying22 (hs_a0.mono (FLe.refl _) (List.Sublist.cons _ hM))) ?_
  refine Lst.run rfl rfl (by decide) (Ev.move rfl) ?_
  refine Lst.nil ?_
  refine At.then ?_
  refine Cd.block ?_
  refine Cd.bound (Rd.le (α := BitVec 16) (xs := a0) (by decide) (hs_a0.mono (FLe.refl _) (List.Sublist.cons _ hM))) (fun hN13 => ?_)
  obtain ⟨ol2, H, HKl2⟩ := andThen_some H
  refine Cd.loop (σ := Nat × Nat × Unit) (fun (i2, k2, _u) => [(0, Sl.v s_a0), (1, .func (.func 47) #[] #[.pointer (some ⟨b_a1_c0, 0, none⟩)]), (7, .int .i64 (a0.length : Int)), (8, .int .i64 (i2 : Int))]) (fun (i2, k2, _u) => (.blk b_a1_c0 (enc s_a1_c0) 22) :: L) (fun _ => (fun (i2, k2, _u) => rangeM (slices_IndexFunc_uint16_uint16_Meets_1_B0 a0 a1_c0) k2 i2 () = some ol2 ∧ i2 + k2 = a0.length)) (fun (i2, k2, _u) => k2) (0, a0.length, ()) ⟨rfl, rfl, rfl, rfl, trivial⟩ rfl ⟨H, by omega⟩ ?_
  rintro F3 ⟨i2, k2, _u⟩ hF4 ⟨H, hik2⟩
  refine Cd.as (e' := [(0, Sl.v s_a0), (1, .func (.func 47) #[] #[.pointer (some ⟨b_a1_c0, 0, none⟩)]), (7, .int .i64 (a0.length : Int)), (8, .int .i64 (i2 : Int))]) (L' := (.blk b_a1_c0 (enc s_a1_c0) 22) :: L) ⟨rfl, rfl, rfl, rfl, trivial⟩ rfl ?_
  rcases k2 with _ | k2
  · have hc2 : decide ((i2 : Int) < (a0.length : Int)) = false := decide_eq_false (by omega)
    replace H := rangeM_end H
    refine Cd.seq ?_
    refine Cd.region ?_
    refine Lst.run rfl rfl (by decide) (Ev.lss rfl rfl) ?_
    refine Lst.nil ?_
    refine At.then ?_
    refine Cd.seq ?_
    refine Cd.condF rfl hc2 ?_
    refine Cd.exit ?_
    refine At.then_exit ?_
    refine At.then_exit ?_
    refine At.in_exit ?_
    subst H
    replace H := HKl2
    refine At.then ?_
    refine Cd.seq ?_
    refine Cd.region ?_
    refine Lst.run rfl rfl (by decide) (Ev.assign rfl) ?_
    refine Lst.nil ?_
    refine At.then ?_
    obtain rfl := some_inj H
    refine Cd.ret ?_
    exact At.ret1 rfl (Res.tmp rfl) hF4 (List.Sublist.cons_cons _ (List.Sublist.refl _)) ⟨rfl, rfl⟩
  have hc2 : decide ((i2 : Int) < (a0.length : Int)) = true := decide_eq_true (by omega)
  obtain ⟨c2, H, hgo2, hbrk2, hret2⟩ := rangeM_go H
  unfold slices_IndexFunc_uint16_uint16_Meets_1_B0 at H
  try dsimp only at H
  refine Cd.seq ?_
  refine Cd.region ?_
  refine Lst.run rfl rfl (by decide) (Ev.lss rfl rfl) ?_
  refine Lst.nil ?_
  refine At.then ?_
  refine Cd.seq ?_
  refine Cd.condT rfl hc2 ?_
  refine Cd.skip ?_
  refine At.then ?_
  refine Cd.seq ?_
  refine Cd.block ?_
  refine Cd.seq ?_
  refine Cd.region ?_
  refine Lst.run rfl rfl (by decide) (Ev.move rfl) ?_
  refine Lst.run rfl rfl (by decide) (Ev.assign rfl) ?_
  refine Lst.nil ?_
  refine At.then ?_
  refine Cd.seq ?_
  refine Cd.region ?_
  refine Lst.run rfl rfl (by decide) (Ev.move rfl) ?_
  refine Lst.run rfl rfl (by decide) (Ev.move rfl) ?_
  refine Lst.run rfl rfl (by decide) (Ev.move rfl) ?_
  obtain ⟨x5, h6, H⟩ := bind_some H
  have g7 := lat_some h6
  refine Lst.run rfl rfl (by decide) (Ev.indexS (α := BitVec 16) (xs := a0) rfl rfl Try.runUnderlying22 Try.sizeOf23 rfl (by decide) (hs_a0.mono hF4 (List.Sublist.cons _ hM)) g7.1 g7.2.1) ?_
  refine Lst.run rfl rfl (by decide) (Ev.loadS (α := BitVec 16) rfl (hs_a0.mono hF4 (List.Sublist.cons _ hM)) Try.isAgg23 (v := .int .u16 x5.toNat) ((Get.elemN (s := 1) (x := x5) rfl g7.2.2 (Get.here _)).off (by omega))) ?_
  obtain ⟨r8, h9, H⟩ := bind_some H
  refine Lst.callV1 rfl rfl (by decide) (vs := [.int .u16 x5.toNat]) (cs := [.pointer (some ⟨b_a1_c0, 0, none⟩)]) rfl ⟨rfl, trivial⟩ Try.call47 (quorum_Meets_1_sim h9 w0 _ M _ hM (hs_a1_c0.mono hF4 (List.Sublist.refl _))) ?_
  refine Lst.nil ?_
  refine At.then ?_
  rcases Bool.eq_false_or_eq_true r8 with hb12 | hb12
  · replace H := ite_t hb12 H
    refine Cd.condT rfl hb12 ?_
    refine Cd.seq ?_
    refine Cd.region ?_
    refine Lst.run rfl rfl (by decide) (Ev.move rfl) ?_
    refine Lst.run rfl rfl (by decide) (Ev.assign rfl) ?_
    refine Lst.nil ?_
    refine At.then ?_
    have H := hret2 _ (some_inj H).symm
    subst H
    replace H := HKl2
    obtain rfl := some_inj H
    refine Cd.ret ?_
    refine At.in_ret ?_
    refine At.then_ret ?_
    refine At.then_ret ?_
    refine At.in_ret ?_
    refine At.then_ret ?_
    exact At.ret1 rfl (Res.tmp rfl) hF4 (List.Sublist.cons_cons _ (List.Sublist.refl _)) ⟨rfl, rfl⟩
  replace H := ite_f hb12 H
  refine Cd.condF rfl hb12 ?_
  refine Cd.skip ?_
  refine At.in_normal ?_
  refine At.then ?_
  refine Cd.region ?_
  refine Lst.run rfl rfl (by decide) (Ev.incr (by omega) rfl rfl) ?_
  refine Lst.run rfl rfl (by decide) (Ev.move rfl) ?_
  refine Lst.nil ?_
  exact At.meet (i2 + 1, k2, ()) hF4 ⟨rfl, rfl, rfl, rfl, trivial⟩ rfl ⟨⟨hgo2 _ (some_inj H).symm, by omega⟩, Nat.lt_succ_self _⟩
set_option maxRecDepth 20000 in
theorem slices_ContainsFunc_uint16_uint16_Meets_1_sim {a0 : List (BitVec 16)} {a1_c0 : List (BitVec 16)} {s_a0 : Sl} {b_a1_c0 : Nat} {s_a1_c0 : Sl} {r : Bool} (H : slices_ContainsFunc_uint16_uint16_Meets_1 a0 a1_c0 = some r) (w0 : World) (F : Frz) (M L : List Item) (hM : M.Sublist L) (hs_a0 : Rd w0 F M s_a0 a0) (hs_a1_c0 : Rd w0 F M s_a1_c0 a1_c0) : Ok Try.prog w0 14 [Sl.v s_a0, .func (.func 47) #[] #[.pointer (some ⟨b_a1_c0, 0, none⟩)]] F ((.blk b_a1_c0 (enc s_a1_c0) 22) :: L) (Is (.bool r) ((.blk b_a1_c0 (enc s_a1_c0) 22) :: L)) := by
  unfold slices_ContainsFunc_uint16_uint16_Meets_1 at H
  refine Ok.enter (m := 2) (n := 9) Try.func14 rfl rfl rfl (by decide) ?_
  refine Cd.env (e' := [(0, Sl.v s_a0), (1, .func (.func 47) #[] #[.pointer (some ⟨b_a1_c0, 0, none⟩)])]) rfl ?_
  refine Cd.seq ?_
  refine Cd.region ?_
  refine Lst.run rfl rfl (by decide) (Ev.assign rfl) ?_
  refine Lst.nil ?_
  refine At.then ?_
  refine Cd.seq ?_
  refine Cd.region ?_
  refine Lst.run rfl rfl (by decide) (Ev.move rfl) ?_
  refine Lst.run rfl rfl (by decide) (Ev.move rfl) ?_
  obtain ⟨r2, h3, H⟩ := bind_some H
  refine Lst.call1 rfl rfl (by decide) (vs := [Sl.v s_a0, .func (.func 47) #[] #[.pointer (some ⟨b_a1_c0, 0, none⟩)]]) ⟨rfl, rfl, trivial⟩ Try.call55 (slices_IndexFunc_uint16_uint16_Meets_1_sim h3 w0 _ M _ hM (hs_a0.mono (FLe.refl _) (List.Sublist.refl _)) (hs_a1_c0.mono (FLe.refl _) (List.Sublist.refl _))) ?_
  refine Lst.run rfl rfl (by decide) (Ev.geq rfl rfl) ?_
  refine Lst.run rfl rfl (by decide) (Ev.assign rfl) ?_
  refine Lst.nil ?_
  refine At.then ?_
  obtain rfl := some_inj H
  refine Cd.ret ?_
  exact At.ret1 rfl (Res.tmp rfl) (FLe.refl _) (List.Sublist.cons_cons _ (List.Sublist.refl _)) ⟨rfl, rfl⟩
set_option maxRecDepth 20000 in
theorem quorum_Meets_sim {a0 : Int} {a1 : List (BitVec 16)} {s_a1 : Sl} {r : Bool × Int} (H : quorum_Meets a0 a1 = some r) (w0 : World) (F : Frz) (M L : List Item) (hM : M.Sublist L) (hs_a1 : Rd w0 F M s_a1 a1) : Ok Try.prog w0 8 [.int .i64 a0, Sl.v s_a1] F (L) (Is (.tuple #[.bool r.1, .int .i64 r.2]) (L)) := by
  unfold quorum_Meets at H
  refine Ok.enter (m := 2) (n := 17) Try.func8 rfl rfl rfl (by decide) ?_
  refine Cd.env (e' := [(0, .int .i64 a0), (1, Sl.v s_a1)]) rfl ?_
  refine Cd.seq ?_
  refine Cd.region ?_
  refine Lst.box rfl rfl (by decide) rfl (cs := enc s_a1) rfl (fun b1 => ?_)
  refine Lst.run rfl rfl (by decide) (Ev.assign rfl) ?_
  refine Lst.run rfl rfl (by decide) (Ev.assign rfl) ?_
  refine Lst.nil ?_
  refine At.then ?_
  refine Cd.seq ?_
  refine Cd.seq ?_
  refine Cd.region ?_
  refine Lst.run rfl rfl (by decide) (Ev.move rfl) ?_
  refine Lst.run rfl rfl (by decide) (Ev.load (i := 0) rfl rfl Try.isAgg22 (v := Sl.v s_a1) (Get.here _)) ?_
  obtain ⟨r3, h4, H⟩ := bind_some H
  refine Lst.call1 rfl rfl (by decide) (vs := [.int .i64 a0, Sl.v s_a1]) ⟨rfl, rfl, trivial⟩ Try.call11 (quorum_Check_sim h4 w0 _ M _ (List.Sublist.cons _ hM) (hs_a1.mono (FLe.refl _) (List.Sublist.refl _))) ?_
  refine Lst.run rfl rfl (by decide) (Ev.assign rfl) ?_
  refine Lst.nil ?_
  refine At.then ?_
  refine Cd.seq ?_
  refine Cd.region ?_
  refine Lst.run rfl rfl (by decide) (Ev.move rfl) ?_
  refine Lst.run rfl rfl (by decide) (Ev.neq rfl rfl) ?_
  refine Lst.nil ?_
  refine At.then ?_
  rcases Bool.eq_false_or_eq_true (r3 != (0 : Int)) with hb7 | hb7
  · replace H := ite_t hb7 H
    refine Cd.condT rfl hb7 ?_
    refine Cd.seq ?_
    refine Cd.region ?_
    refine Lst.run rfl rfl (by decide) (Ev.move rfl) ?_
    refine Lst.run rfl rfl (by decide) (Ev.assign rfl) ?_
    refine Lst.run rfl rfl (by decide) (Ev.assign rfl) ?_
    refine Lst.nil ?_
    refine At.then ?_
    obtain rfl := some_inj H
    refine Cd.ret ?_
    refine At.then_ret ?_
    exact At.ret2 rfl (Res.tmp rfl) (Res.tmp rfl) (FLe.refl _) (List.Sublist.cons _ (List.Sublist.refl _)) ⟨rfl, rfl⟩
  replace H := ite_f hb7 H
  refine Cd.condF rfl hb7 ?_
  refine Cd.skip ?_
  refine At.then ?_
  refine Cd.seq ?_
  refine Cd.region ?_
  refine Lst.run rfl rfl (by decide) (Ev.load (i := 0) rfl rfl Try.isAgg22 (v := Sl.v s_a1) (Get.here _)) ?_
  refine Lst.run rfl rfl (by decide) (Ev.makeFunc (us := []) (vs := [.pointer (some ⟨b1, 0, none⟩)]) trivial ⟨rfl, trivial⟩) ?_
  obtain ⟨r8, h9, H⟩ := bind_some H
  refine Lst.call1 rfl rfl (by decide) (vs := [Sl.v s_a1, .func (.func 47) #[] #[.pointer (some ⟨b1, 0, none⟩)]]) ⟨rfl, rfl, trivial⟩ Try.call14 (slices_ContainsFunc_uint16_uint16_Meets_1_sim h9 w0 _ M _ hM (hs_a1.mono (FLe.refl _) (List.Sublist.refl _)) (hs_a1.mono (FLe.refl _) (List.Sublist.refl _))) ?_
  refine Lst.run rfl rfl (by decide) (Ev.not rfl) ?_
  refine Lst.run rfl rfl (by decide) (Ev.assign rfl) ?_
  refine Lst.run rfl rfl (by decide) (Ev.assign rfl) ?_
  refine Lst.nil ?_
  refine At.then ?_
  obtain rfl := some_inj H
  refine Cd.ret ?_
  exact At.ret2 rfl (Res.tmp rfl) (Res.tmp rfl) (FLe.refl _) (List.Sublist.cons _ (List.Sublist.refl _)) ⟨rfl, rfl⟩
set_option maxRecDepth 20000 in
theorem quorum_Dual_1_sim {a0 : BitVec 16} {a1 : List (BitVec 16)} {b_a1 : Nat} {s_a1 : Sl} {r : Bool} (H : quorum_Dual_1 a0 a1 = some r) (w0 : World) (F : Frz) (M L : List Item) (hM : M.Sublist L) (hs_a1 : Rd w0 F M s_a1 a1) : Ok Try.prog w0 50 [.int .u16 a0.toNat, .pointer (some ⟨b_a1, 0, none⟩)] F ((.blk b_a1 (enc s_a1) 22) :: L) (Is (.bool r) ((.blk b_a1 (enc s_a1) 22) :: L)) := by
  unfold quorum_Dual_1 at H
  refine Ok.enter (m := 2) (n := 7) Try.func50 rfl rfl rfl (by decide) ?_
  refine Cd.env (e' := [(0, .int .u16 a0.toNat), (1, .pointer (some ⟨b_a1, 0, none⟩))]) rfl ?_
  refine Cd.seq ?_
  refine Cd.region ?_
  refine Lst.run rfl rfl (by decide) (Ev.assign rfl) ?_
  refine Lst.nil ?_
  refine At.then ?_
  refine Cd.seq ?_
  refine Cd.region ?_
  refine Lst.run rfl rfl (by decide) (Ev.move rfl) ?_
  refine Lst.run rfl rfl (by decide) (Ev.load (i := 0) rfl rfl Try.isAgg22 (v := Sl.v s_a1) (Get.here _)) ?_
  obtain ⟨r2, h3, H⟩ := bind_some H
  refine Lst.call1 rfl rfl (by decide) (vs := [.int .u16 a0.toNat, Sl.v s_a1]) ⟨rfl, rfl, trivial⟩ Try.call48 (quorum_meets_sim h3 w0 _ M _ (List.Sublist.cons _ hM) (hs_a1.mono (FLe.refl _) (List.Sublist.refl _))) ?_
  refine Lst.run rfl rfl (by decide) (Ev.assign rfl) ?_
  refine Lst.nil ?_
  refine At.then ?_
  obtain rfl := some_inj H
  refine Cd.ret ?_
  exact At.ret1 rfl (Res.tmp rfl) (FLe.refl _) (List.Sublist.cons_cons _ (List.Sublist.refl _)) ⟨rfl, rfl⟩
set_option maxRecDepth 20000 in
theorem math_bits_Len64_sim {a0 : BitVec 64} {r : Int} (H : math_bits_Len64 a0 = some r) (w0 : World) (F : Frz) (M L : List Item) (hM : M.Sublist L) : Ok Try.prog w0 125 [.int .u64 a0.toNat] F (L) (Is (.int .i64 r) (L)) := by
  unfold math_bits_Len64 at H
  refine Ok.enter (m := 1) (n := 25) Try.func125 rfl rfl rfl (by decide) ?_
  refine Cd.env (e' := [(0, .int .u64 a0.toNat)]) rfl ?_
  refine Cd.seq ?_
  refine Cd.region ?_
  refine Lst.run rfl rfl (by decide) (Ev.assign rfl) ?_
  refine Lst.nil ?_
  refine At.then ?_
  obtain ⟨o3, H, HKo3⟩ := bind_some H
  refine Cd.join (σ := (BitVec 64) × Int) (fun (y1, y2) => [(0, .int .u64 y1.toNat), (2, .int .i64 y2)]) (fun (y1, y2) => L) (fun _ (y1, y2) => (y1, y2) = o3) ?_ ?_
  · refine Cd.seq ?_
    refine Cd.region ?_
    refine Lst.run rfl rfl (by decide) (Ev.move rfl) ?_
    refine Lst.run rfl rfl (by decide) (Ev.geq rfl rfl) ?_
    refine Lst.nil ?_
    refine At.then ?_
    rcases (Bool.eq_false_or_eq_true (decide ((a0.toNat : Int) ≥ ((4294967296 : BitVec 64).toNat : Int)))).symm with hb4 | hb4
    · replace H := ite_f hb4 H
      refine Cd.condF rfl hb4 ?_
      refine Cd.skip ?_
      exact At.meet (a0, (0 : Int)) (FLe.refl _) ⟨rfl, rfl, trivial⟩ rfl (some_inj H)
    replace H := ite_t hb4 H
    refine Cd.condT rfl hb4 ?_
    refine Cd.seq ?_
    refine Cd.region ?_
    refine Lst.run rfl rfl (by decide) (Ev.move rfl) ?_
    refine Lst.run rfl rfl (by decide) (Ev.shrU64 (i := a0) (m := 32) rfl rfl) ?_
    refine Lst.run rfl rfl (by decide) (Ev.assign rfl) ?_
    refine Lst.nil ?_
    refine At.then ?_
    refine Cd.region ?_
    refine Lst.run rfl rfl (by decide) (Ev.assign rfl) ?_
    refine Lst.nil ?_
    exact At.meet (a0 >>> 32, (32 : Int)) (FLe.refl _) ⟨rfl, rfl, trivial⟩ rfl (some_inj H)
  rintro F5 ⟨y1, y2⟩ hF6 hy
  subst hy
  refine Cd.as (e' := [(0, .int .u64 y1.toNat), (2, .int .i64 y2)]) (L' := L) ⟨rfl, rfl, trivial⟩ rfl ?_
  replace H := HKo3
  obtain ⟨o9, H, HKo9⟩ := bind_some H
  refine Cd.join (σ := (BitVec 64) × Int) (fun (y7, y8) => [(0, .int .u64 y7.toNat), (2, .int .i64 y8)]) (fun (y7, y8) => L) (fun _ (y7, y8) => (y7, y8) = o9) ?_ ?_
  · refine Cd.seq ?_
    refine Cd.region ?_
    refine Lst.run rfl rfl (by decide) (Ev.move rfl) ?_
    refine Lst.run rfl rfl (by decide) (Ev.geq rfl rfl) ?_
    refine Lst.nil ?_
    refine At.then ?_
    rcases (Bool.eq_false_or_eq_true (decide ((y1.toNat : Int) ≥ ((65536 : BitVec 64).toNat : Int)))).symm with hb10 | hb10
    · replace H := ite_f hb10 H
      refine Cd.condF rfl hb10 ?_
      refine Cd.skip ?_
      exact At.meet (y1, y2) (FLe.refl _) ⟨rfl, rfl, trivial⟩ rfl (some_inj H)
    replace H := ite_t hb10 H
    refine Cd.condT rfl hb10 ?_
    refine Cd.seq ?_
    refine Cd.region ?_
    refine Lst.run rfl rfl (by decide) (Ev.move rfl) ?_
    refine Lst.run rfl rfl (by decide) (Ev.shrU64 (i := y1) (m := 16) rfl rfl) ?_
    refine Lst.run rfl rfl (by decide) (Ev.assign rfl) ?_
    refine Lst.nil ?_
    refine At.then ?_
    refine Cd.region ?_
    refine Lst.run rfl rfl (by decide) (Ev.move rfl) ?_
    refine Lst.run rfl rfl (by decide) (Ev.add rfl rfl) ?_
    refine Lst.run rfl rfl (by decide) (Ev.assign rfl) ?_
    refine Lst.nil ?_
    exact At.meet (y1 >>> 16, w64 (y2 + (16 : Int))) (FLe.refl _) ⟨rfl, rfl, trivial⟩ rfl (some_inj H)
  rintro F11 ⟨y7, y8⟩ hF12 hy
  subst hy
  refine Cd.as (e' := [(0, .int .u64 y7.toNat), (2, .int .i64 y8)]) (L' := L) ⟨rfl, rfl, trivial⟩ rfl ?_
  replace H := HKo9
  obtain ⟨o15, H, HKo15⟩ := bind_some H
  refine Cd.join (σ := (BitVec 64) × Int) (fun (y13, y14) => [(0, .int .u64 y13.toNat), (2, .int .i64 y14)]) (fun (y13, y14) => L) (fun _ (y13, y14) => (y13, y14) = o15) ?_ ?_
  · refine Cd.seq ?_
    refine Cd.region ?_
    refine Lst.run rfl rfl (by decide) (Ev.move rfl) ?_
    refine Lst.run rfl rfl (by decide) (Ev.geq rfl rfl) ?_
    refine Lst.nil ?_
    refine At.then ?_
    rcases (Bool.eq_false_or_eq_true (decide ((y7.toNat : Int) ≥ ((256 : BitVec 64).toNat : Int)))).symm with hb16 | hb16
    · replace H := ite_f hb16 H
      refine Cd.condF rfl hb16 ?_
      refine Cd.skip ?_
      exact At.meet (y7, y8) (FLe.refl _) ⟨rfl, rfl, trivial⟩ rfl (some_inj H)
    replace H := ite_t hb16 H
    refine Cd.condT rfl hb16 ?_
    refine Cd.seq ?_
    refine Cd.region ?_
    refine Lst.run rfl rfl (by decide) (Ev.move rfl) ?_
    refine Lst.run rfl rfl (by decide) (Ev.shrU64 (i := y7) (m := 8) rfl rfl) ?_
    refine Lst.run rfl rfl (by decide) (Ev.assign rfl) ?_
    refine Lst.nil ?_
    refine At.then ?_
    refine Cd.region ?_
    refine Lst.run rfl rfl (by decide) (Ev.move rfl) ?_
    refine Lst.run rfl rfl (by decide) (Ev.add rfl rfl) ?_
    refine Lst.run rfl rfl (by decide) (Ev.assign rfl) ?_
    refine Lst.nil ?_
    exact At.meet (y7 >>> 8, w64 (y8 + (8 : Int))) (FLe.refl _) ⟨rfl, rfl, trivial⟩ rfl (some_inj H)
  rintro F17 ⟨y13, y14⟩ hF18 hy
  subst hy
  refine Cd.as (e' := [(0, .int .u64 y13.toNat), (2, .int .i64 y14)]) (L' := L) ⟨rfl, rfl, trivial⟩ rfl ?_
  replace H := HKo15
  refine Cd.seq ?_
  refine Cd.region ?_
  refine Lst.run rfl rfl (by decide) (Ev.move rfl) ?_
  refine Lst.run rfl rfl (by decide) (Ev.move rfl) ?_
  refine Lst.run rfl rfl (by decide) (Ev.convTo8 rfl Try.runUnderlying148 Try.runUnderlying5) ?_
  obtain ⟨x19, h20, H⟩ := bind_some H
  refine Lst.run rfl rfl (by decide) (Ev.indexStr rfl rfl Try.runUnderlying9 h20) ?_
  refine Lst.run rfl rfl (by decide) (Ev.convIS (j := (x19.toBitVec.toNat : Int)) rfl Try.runUnderlying5 Try.runUnderlying3 (w64_id (by omega) (by omega))) ?_
  refine Lst.run rfl rfl (by decide) (Ev.add rfl rfl) ?_
  refine Lst.run rfl rfl (by decide) (Ev.assign rfl) ?_
  refine Lst.nil ?_
  refine At.then ?_
  obtain rfl := some_inj H
  refine Cd.ret ?_
  exact At.ret1 rfl (Res.tmp rfl) (FLe.trans (FLe.trans hF6 hF12) hF18) (List.Sublist.refl _) ⟨rfl, rfl⟩
set_option maxRecDepth 20000 in
theorem math_bits_Len_sim {a0 : BitVec 64} {r : Int} (H : math_bits_Len a0 = some r) (w0 : World) (F : Frz) (M L : List Item) (hM : M.Sublist L) : Ok Try.prog w0 106 [.int .u64 a0.toNat] F (L) (Is (.int .i64 r) (L)) := by
  unfold math_bits_Len at H
  refine Ok.enter (m := 1) (n := 8) Try.func106 rfl rfl rfl (by decide) ?_
  refine Cd.env (e' := [(0, .int .u64 a0.toNat)]) rfl ?_
  refine Cd.seq ?_
  refine Cd.region ?_
  refine Lst.run rfl rfl (by decide) (Ev.assign rfl) ?_
  refine Lst.nil ?_
  refine At.then ?_
  refine Cd.seq ?_
  refine Cd.condF rfl rfl ?_
  refine Cd.skip ?_
  refine At.then ?_
  refine Cd.seq ?_
  refine Cd.region ?_
  refine Lst.run rfl rfl (by decide) (Ev.move rfl) ?_
  obtain ⟨r1, h2, H⟩ := bind_some H
  refine Lst.call1 rfl rfl (by decide) (vs := [.int .u64 a0.toNat]) ⟨rfl, trivial⟩ Try.call125 (math_bits_Len64_sim h2 w0 _ M _ hM) ?_
  refine Lst.run rfl rfl (by decide) (Ev.assign rfl) ?_
  refine Lst.nil ?_
  refine At.then ?_
  obtain rfl := some_inj H
  refine Cd.ret ?_
  exact At.ret1 rfl (Res.tmp rfl) (FLe.refl _) (List.Sublist.refl _) ⟨rfl, rfl⟩
set_option maxRecDepth 20000 in
theorem slices_insertionSortCmpFunc_uint16_quorum_compare_sim {fu : Nat} {a0 : List (BitVec 16)} {a1 : Int} {a2 : Int} {s_a0 : Sl} {r : (List (BitVec 16))} (H : slices_insertionSortCmpFunc_uint16_quorum_compare fu a0 a1 a2 = some r) (w0 : World) (F : Frz) (M L : List Item) (hM : M.Sublist L) : Ok Try.prog w0 134 [Sl.v s_a0, .int .i64 a1, .int .i64 a2, .func (.func 53) #[] #[]] F ((.own s_a0 23 1 (encs a0)) :: L) (fun _ L' v => v = .tuple #[] ∧ L' = (.own s_a0 23 1 (encs r)) :: L) := by
  unfold slices_insertionSortCmpFunc_uint16_quorum_compare at H
  refine Ok.enter (m := 4) (n := 53) Try.func134 rfl rfl rfl (by decide) ?_
  refine Cd.env (e' := [(0, Sl.v s_a0), (1, .int .i64 a1), (2, .int .i64 a2), (3, .func (.func 53) #[] #[])]) rfl ?_
  refine Cd.seq ?_
  refine Cd.region ?_
  refine Lst.run rfl rfl (by decide) (Ev.move rfl) ?_
  refine Lst.run rfl rfl (by decide) (Ev.add rfl rfl) ?_
  refine Lst.run rfl rfl (by decide) (Ev.assign rfl) ?_
  refine Lst.nil ?_
  refine At.then ?_
  refine Cd.block ?_
  obtain ⟨ol2, H, HKl2⟩ := andThen_some H
  refine Cd.loop (σ := Nat × Int × (List (BitVec 16))) (fun (k2, y3, l4) => [(0, Sl.v s_a0), (1, .int .i64 a1), (2, .int .i64 a2), (3, .func (.func 53) #[] #[]), (8, .int .i64 y3)]) (fun (k2, y3, l4) => (.own s_a0 23 1 (encs l4)) :: L) (fun _ => (fun (k2, y3, l4) => whileM (slices_insertionSortCmpFunc_uint16_quorum_compare_B0 fu a1 a2) k2 (y3, l4) = some ol2)) (fun (k2, y3, l4) => k2) (fu, w64 (a1 + (1 : Int)), a0) ⟨rfl, rfl, rfl, rfl, rfl, trivial⟩ rfl H ?_
  rintro F5 ⟨k2, y3, l4⟩ hF6 H
  refine Cd.as (e' := [(0, Sl.v s_a0), (1, .int .i64 a1), (2, .int .i64 a2), (3, .func (.func 53) #[] #[]), (8, .int .i64 y3)]) (L' := (.own s_a0 23 1 (encs l4)) :: L) ⟨rfl, rfl, rfl, rfl, rfl, trivial⟩ rfl ?_
  rcases k2 with _ | k2
  · cases H
  obtain ⟨c2, H, hgo2, hbrk2, hret2⟩ := whileM_go H
  unfold slices_insertionSortCmpFunc_uint16_quorum_compare_B0 at H
  try dsimp only at H
  refine Cd.seq ?_
  refine Cd.seq ?_
  refine Cd.region ?_
  refine Lst.run rfl rfl (by decide) (Ev.move rfl) ?_
  refine Lst.run rfl rfl (by decide) (Ev.move rfl) ?_
  refine Lst.run rfl rfl (by decide) (Ev.lss rfl rfl) ?_
  refine Lst.nil ?_
  refine At.then ?_
  rcases (Bool.eq_false_or_eq_true (decide (y3 < a2))).symm with hb7 | hb7
  · replace H := ite_f hb7 H
    refine Cd.condF rfl hb7 ?_
    refine Cd.exit ?_
    refine At.then_exit ?_
    refine At.then_exit ?_
    refine At.in_exit ?_
    have H := hbrk2 _ (some_inj H).symm
    subst H
    replace H := HKl2
    obtain rfl := some_inj H
    exact At.ret0 (.inr rfl) rfl hF6 (List.Sublist.cons_cons _ (List.Sublist.refl _)) ⟨rfl, rfl⟩
  replace H := ite_t hb7 H
  refine Cd.condT rfl hb7 ?_
  refine Cd.skip ?_
  refine At.then ?_
  refine Cd.seq ?_
  refine Cd.block ?_
  refine Cd.seq ?_
  refine Cd.region ?_
  refine Lst.run rfl rfl (by decide) (Ev.move rfl) ?_
  refine Lst.run rfl rfl (by decide) (Ev.assign rfl) ?_
  refine Lst.nil ?_
  refine At.then ?_
  refine Cd.block ?_
  obtain ⟨ol8, H, HKl8⟩ := andThen_some H
  refine Cd.loop (σ := Nat × Int × (List (BitVec 16))) (fun (k8, y9, l10) => [(0, Sl.v s_a0), (1, .int .i64 a1), (2, .int .i64 a2), (3, .func (.func 53) #[] #[]), (8, .int .i64 y3), (9, .int .i64 y9)]) (fun (k8, y9, l10) => (.own s_a0 23 1 (encs l10)) :: L) (fun _ => (fun (k8, y9, l10) => whileM (slices_insertionSortCmpFunc_uint16_quorum_compare_B2 a1) k8 (y9, l10) = some ol8)) (fun (k8, y9, l10) => k8) (fu, y3, l4) ⟨rfl, rfl, rfl, rfl, rfl, rfl, trivial⟩ rfl H ?_
  rintro F11 ⟨k8, y9, l10⟩ hF12 H
  refine Cd.as (e' := [(0, Sl.v s_a0), (1, .int .i64 a1), (2, .int .i64 a2), (3, .func (.func 53) #[] #[]), (8, .int .i64 y3), (9, .int .i64 y9)]) (L' := (.own s_a0 23 1 (encs l10)) :: L) ⟨rfl, rfl, rfl, rfl, rfl, rfl, trivial⟩ rfl ?_
  rcases k8 with _ | k8
  · cases H
  obtain ⟨c8, H, hgo8, hbrk8, hret8⟩ := whileM_go H
  unfold slices_insertionSortCmpFunc_uint16_quorum_compare_B2 at H
  try dsimp only at H
  refine Cd.seq ?_
  refine Cd.seq ?_
  refine Cd.quiet (by kernel_rfl) (by kernel_rfl) ?_
  refine Qt.run rfl rfl (by decide) (Ev.move rfl) ?_
  refine Qt.run rfl rfl (by decide) (Ev.move rfl) ?_
  refine Qt.run rfl rfl (by decide) (Ev.gtr rfl rfl) ?_
  refine Qt.run rfl rfl (by decide) (Ev.move rfl) ?_
  obtain ⟨o13, H, HKo13⟩ := bind_some H
  refine Qt.join (σ := Bool) 13 (fun y14 => [(0, Sl.v s_a0), (1, .int .i64 a1), (2, .int .i64 a2), (3, .func (.func 53) #[] #[]), (8, .int .i64 y3), (9, .int .i64 y9), (34, .bool y14)]) (fun y14 => y14 = o13) ?_ ?_
  · rcases (Bool.eq_false_or_eq_true (decide (y9 > a1))).symm with hb15 | hb15
    · replace H := ite_f hb15 H
      refine Qt.skip rfl rfl rfl hb15 rfl (by decide) ?_
      refine Qt.skip rfl rfl rfl hb15 rfl (by decide) ?_
      refine Qt.skip rfl rfl rfl hb15 rfl (by decide) ?_
      refine Qt.skip rfl rfl rfl hb15 rfl (by decide) ?_
      refine Qt.skip rfl rfl rfl hb15 rfl (by decide) ?_
      refine Qt.skip rfl rfl rfl hb15 rfl (by decide) ?_
      refine Qt.skip rfl rfl rfl hb15 rfl (by decide) ?_
      refine Qt.skip rfl rfl rfl hb15 rfl (by decide) ?_
      refine Qt.skip rfl rfl rfl hb15 rfl (by decide) ?_
      refine Qt.skip rfl rfl rfl hb15 rfl (by decide) ?_
      refine Qt.skip rfl rfl rfl hb15 rfl (by decide) ?_
      refine Qt.skip rfl rfl rfl hb15 rfl (by decide) ?_
      refine Qt.run rfl rfl (by decide) (Ev.pickF rfl hb15 rfl) ?_
      exact Qt.meet false ⟨rfl, rfl, rfl, rfl, rfl, rfl, rfl, trivial⟩ (some_inj H)
    replace H := ite_t hb15 H
    refine Qt.runG rfl rfl rfl hb15 rfl (by decide) (Ev.move rfl) ?_
    refine Qt.runG rfl rfl rfl hb15 rfl (by decide) (Ev.move rfl) ?_
    refine Qt.runG rfl rfl rfl hb15 rfl (by decide) (Ev.move rfl) ?_
    obtain ⟨x16, h17, H⟩ := bind_some H
    have g18 := lat_some h17
    refine Qt.runG rfl rfl rfl hb15 rfl (by decide) (Ev.indexS (α := BitVec 16) (xs := l10) rfl rfl Try.runUnderlying22 Try.sizeOf23 rfl (by decide) (Rd.own (i := 0) rfl rfl rfl) g18.1 g18.2.1) ?_
    refine Qt.runG rfl rfl rfl hb15 rfl (by decide) (Ev.loadS (α := BitVec 16) rfl (Rd.own (i := 0) rfl rfl rfl) Try.isAgg23 (v := .int .u16 x16.toNat) ((Get.elemN (s := 1) (x := x16) rfl g18.2.2 (Get.here _)).off (by omega))) ?_
    refine Qt.runG rfl rfl rfl hb15 rfl (by decide) (Ev.move rfl) ?_
    refine Qt.runG rfl rfl rfl hb15 rfl (by decide) (Ev.move rfl) ?_
    refine Qt.runG rfl rfl rfl hb15 rfl (by decide) (Ev.sub rfl rfl) ?_
    obtain ⟨x19, h20, H⟩ := bind_some H
    have g21 := lat_some h20
    refine Qt.runG rfl rfl rfl hb15 rfl (by decide) (Ev.indexS (α := BitVec 16) (xs := l10) rfl rfl Try.runUnderlying22 Try.sizeOf23 rfl (by decide) (Rd.own (i := 0) rfl rfl rfl) g21.1 g21.2.1) ?_
    refine Qt.runG rfl rfl rfl hb15 rfl (by decide) (Ev.loadS (α := BitVec 16) rfl (Rd.own (i := 0) rfl rfl rfl) Try.isAgg23 (v := .int .u16 x19.toNat) ((Get.elemN (s := 1) (x := x19) rfl g21.2.2 (Get.here _)).off (by omega))) ?_
    obtain ⟨r22, h23, H⟩ := bind_some H
    refine Qt.callVG rfl rfl rfl hb15 rfl (by decide) (vs := [.int .u16 x16.toNat, .int .u16 x19.toNat]) (cs := []) rfl ⟨rfl, rfl, trivial⟩ Try.call53 (quorum_compare_sim h23 w0 _ M _ (List.Sublist.cons _ hM)) ?_
    refine Qt.runG rfl rfl rfl hb15 rfl (by decide) (Ev.lss rfl rfl) ?_
    refine Qt.run rfl rfl (by decide) (Ev.pickT rfl hb15 rfl) ?_
    exact Qt.meet (decide (r22 < (0 : Int))) ⟨rfl, rfl, rfl, rfl, rfl, rfl, rfl, trivial⟩ (some_inj H)
  rintro y14 hy
  subst hy
  refine Qt.as (e' := [(0, Sl.v s_a0), (1, .int .i64 a1), (2, .int .i64 a2), (3, .func (.func 53) #[] #[]), (8, .int .i64 y3), (9, .int .i64 y9), (34, .bool y14)]) ⟨rfl, rfl, rfl, rfl, rfl, rfl, rfl, trivial⟩ ?_
  replace H := HKo13
  refine Qt.done ?_
  refine At.then ?_
  rcases (Bool.eq_false_or_eq_true y14).symm with hb26 | hb26
  · replace H := ite_f hb26 H
    refine Cd.condF rfl hb26 ?_
    refine Cd.exit ?_
    refine At.then_exit ?_
    refine At.then_exit ?_
    refine At.in_exit ?_
    have H := hbrk8 _ (some_inj H).symm
    subst H
    replace H := HKl8
    refine At.in_normal ?_
    refine At.then ?_
    refine Cd.region ?_
    refine Lst.run rfl rfl (by decide) (Ev.move rfl) ?_
    refine Lst.run rfl rfl (by decide) (Ev.add rfl rfl) ?_
    refine Lst.run rfl rfl (by decide) (Ev.assign rfl) ?_
    refine Lst.nil ?_
    exact At.meet (k2, w64 (y3 + (1 : Int)), l10) (FLe.trans hF6 hF12) ⟨rfl, rfl, rfl, rfl, rfl, trivial⟩ rfl ⟨hgo2 _ (some_inj H).symm, Nat.lt_succ_self _⟩
  replace H := ite_t hb26 H
  refine Cd.condT rfl hb26 ?_
  refine Cd.skip ?_
  refine At.then ?_
  refine Cd.seq ?_
  refine Cd.block ?_
  obtain ⟨x27, h28, H⟩ := bind_some H
  obtain ⟨x30, h31, H⟩ := bind_some H
  obtain ⟨x33, h34, H⟩ := bind_some H
  obtain ⟨p36, h37, H⟩ := Let_some H
  obtain ⟨o40, h41, H⟩ := Let_some H
  refine Cd.headMeet (σ := (List (BitVec 16))) 16 (fun l39 => [(0, Sl.v s_a0), (1, .int .i64 a1), (2, .int .i64 a2), (3, .func (.func 53) #[] #[]), (8, .int .i64 y3), (9, .int .i64 y9), (39, Sl.v s_a0), (41, .int .i64 (w64 (y9 - (1 : Int)))), (50, .int .u16 x30.toNat)]) (fun l39 => (.own s_a0 23 1 (encs l39)) :: L) (fun _ l39 => l39 = o40) (by kernel_rfl) (by kernel_rfl) (behind_sink (by kernel_rfl) (by kernel_rfl) (by kernel_rfl)) (by kernel_rfl) (fun hsel hlt => ?_) ?_
  · refine HdJ.keep (fun w => St w0 F11 (L) w) (fun w h => trivial) ?_
    refine HdJ.takeK hsel hlt 0 (fun w h => h.sublist (List.Sublist.cons _ (List.Sublist.refl _))) rfl rfl (by decide) (by decide) (by kernel_rfl) (by kernel_rfl) rfl (Ev.move rfl) ?_
    refine HdJ.takeK hsel hlt 1 (fun w h => h.sublist (List.Sublist.cons _ (List.Sublist.refl _))) rfl rfl (by decide) (by decide) (by kernel_rfl) (by kernel_rfl) rfl (Ev.move rfl) ?_
    refine HdJ.takeK hsel hlt 2 (fun w h => h.sublist (List.Sublist.cons _ (List.Sublist.refl _))) rfl rfl (by decide) (by decide) (by kernel_rfl) (by kernel_rfl) rfl (Ev.move rfl) ?_
    refine HdJ.takeK hsel hlt 3 (fun w h => h.sublist (List.Sublist.cons _ (List.Sublist.refl _))) rfl rfl (by decide) (by decide) (by kernel_rfl) (by kernel_rfl) rfl (Ev.move rfl) ?_
    refine HdJ.takeK hsel hlt 4 (fun w h => h.sublist (List.Sublist.cons _ (List.Sublist.refl _))) rfl rfl (by decide) (by decide) (by kernel_rfl) (by kernel_rfl) rfl (Ev.sub rfl rfl) ?_
    refine HdJ.takeK hsel hlt 5 (fun w h => h.sublist (List.Sublist.cons _ (List.Sublist.refl _))) rfl rfl (by decide) (by decide) (by kernel_rfl) (by kernel_rfl) rfl (Ev.move rfl) ?_
    refine HdJ.takeK hsel hlt 6 (fun w h => h.sublist (List.Sublist.cons _ (List.Sublist.refl _))) rfl rfl (by decide) (by decide) (by kernel_rfl) (by kernel_rfl) rfl (Ev.move rfl) ?_
    refine HdJ.takeK hsel hlt 7 (fun w h => h.sublist (List.Sublist.cons _ (List.Sublist.refl _))) rfl rfl (by decide) (by decide) (by kernel_rfl) (by kernel_rfl) rfl (Ev.sub rfl rfl) ?_
    refine HdJ.takeK hsel hlt 10 (fun w h => h.sublist (List.Sublist.cons _ (List.Sublist.refl _))) rfl rfl (by decide) (by decide) (by kernel_rfl) (by kernel_rfl) rfl (Ev.move rfl) ?_
    refine HdJ.takeK hsel hlt 11 (fun w h => h.sublist (List.Sublist.cons _ (List.Sublist.refl _))) rfl rfl (by decide) (by decide) (by kernel_rfl) (by kernel_rfl) rfl (Ev.move rfl) ?_
    refine HdJ.step [8, 12] (by kernel_rfl) rfl ?_
    refine HdStep.cons (by decide) rfl (fun inv => ?_) ?_
    · have g42 := lat_some h28
      refine Lst.run rfl rfl (by decide) (Ev.indexS (α := BitVec 16) (xs := l10) rfl rfl Try.runUnderlying22 Try.sizeOf23 rfl (by decide) (Rd.own (i := 0) rfl rfl rfl) g42.1 g42.2.1) ?_
      refine Lst.nil ?_
      refine At.hd inv (fun w h => (h.weaken (FLe.refl _)).sublist (List.Sublist.cons _ (List.Sublist.refl _))) ?_
      refine HdJ.step [9, 12] (by kernel_rfl) rfl ?_
      refine HdStep.cons (by decide) rfl (fun inv => ?_) ?_
      · refine Lst.run rfl rfl (by decide) (Ev.loadS (α := BitVec 16) rfl (Rd.own (i := 0) rfl rfl rfl) Try.isAgg23 (v := .int .u16 x27.toNat) ((Get.elemN (s := 1) (x := x27) rfl g42.2.2 (Get.here _)).off (by omega))) ?_
        refine Lst.nil ?_
        refine At.hd inv (fun w h => (h.weaken (FLe.refl _)).sublist (List.Sublist.cons _ (List.Sublist.refl _))) ?_
        refine HdJ.step [12] (by kernel_rfl) rfl ?_
        refine HdStep.cons (by decide) rfl (fun inv => ?_) ?_
        · have g43 := lat_some h31
          refine Lst.run rfl rfl (by decide) (Ev.indexS (α := BitVec 16) (xs := l10) rfl rfl Try.runUnderlying22 Try.sizeOf23 rfl (by decide) (Rd.own (i := 0) rfl rfl rfl) g43.1 g43.2.1) ?_
          refine Lst.nil ?_
          refine At.hd inv (fun w h => (h.weaken (FLe.refl _)).sublist (List.Sublist.cons _ (List.Sublist.refl _))) ?_
          refine HdJ.step [13] (by kernel_rfl) rfl ?_
          refine HdStep.cons (by decide) rfl (fun inv => ?_) ?_
          · refine Lst.run rfl rfl (by decide) (Ev.loadS (α := BitVec 16) rfl (Rd.own (i := 0) rfl rfl rfl) Try.isAgg23 (v := .int .u16 x30.toNat) ((Get.elemN (s := 1) (x := x30) rfl g43.2.2 (Get.here _)).off (by omega))) ?_
            refine Lst.nil ?_
            refine At.hd inv (fun w h => (h.weaken (FLe.refl _)).sublist (List.Sublist.cons _ (List.Sublist.refl _))) ?_
            refine HdJ.step [14] (by kernel_rfl) rfl ?_
            refine HdStep.cons (by decide) rfl (fun inv => ?_) ?_
            · have g44 := lat_some h34
              refine Lst.run rfl rfl (by decide) (Ev.indexS (α := BitVec 16) (xs := l10) rfl rfl Try.runUnderlying22 Try.sizeOf23 rfl (by decide) (Rd.own (i := 0) rfl rfl rfl) g44.1 g44.2.1) ?_
              refine Lst.nil ?_
              refine At.hd inv (fun w h => (h.weaken (FLe.refl _)).sublist (List.Sublist.cons _ (List.Sublist.refl _))) ?_
              refine HdJ.step [15] (by kernel_rfl) rfl ?_
              refine HdStep.cons (by decide) rfl (fun inv => ?_) ?_
              · refine Lst.storeS (i := 0) rfl rfl rfl rfl rfl Try.sizeOf23 (vs := [.int .u16 x27.toNat]) rfl rfl (by decide) rfl (xs' := encs p36) (by rw [← h37]; exact (Put.elemN (s := 1) (x := x33) rfl g44.2.2 (Put.here (vs := [.int .u16 x27.toNat]) rfl)).off (by omega)) (L' := (.own s_a0 23 1 (encs p36)) :: L) rfl ?_
                refine Lst.nil ?_
                refine At.hd inv (fun w h => (h.weaken (FLe.refl _)).sublist (List.Sublist.cons _ (List.Sublist.refl _))) ?_
                refine HdJ.done (by kernel_rfl) ?_
                exact At.meetN p36 (FLe.refl _) ⟨rfl, rfl, rfl, rfl, rfl, rfl, rfl, rfl, rfl, trivial⟩ rfl h41
              exact trivial
            exact trivial
          exact trivial
        exact trivial
      refine HdStep.cons (by decide) rfl (fun inv => ?_) ?_
      · have g45 := lat_some h31
        refine Lst.run rfl rfl (by decide) (Ev.indexS (α := BitVec 16) (xs := l10) rfl rfl Try.runUnderlying22 Try.sizeOf23 rfl (by decide) (Rd.own (i := 0) rfl rfl rfl) g45.1 g45.2.1) ?_
        refine Lst.nil ?_
        refine At.hd inv (fun w h => (h.weaken (FLe.refl _)).sublist (List.Sublist.cons _ (List.Sublist.refl _))) ?_
        refine HdJ.step [9, 13] (by kernel_rfl) rfl ?_
        refine HdStep.cons (by decide) rfl (fun inv => ?_) ?_
        · refine Lst.run rfl rfl (by decide) (Ev.loadS (α := BitVec 16) rfl (Rd.own (i := 0) rfl rfl rfl) Try.isAgg23 (v := .int .u16 x27.toNat) ((Get.elemN (s := 1) (x := x27) rfl g42.2.2 (Get.here _)).off (by omega))) ?_
          refine Lst.nil ?_
          refine At.hd inv (fun w h => (h.weaken (FLe.refl _)).sublist (List.Sublist.cons _ (List.Sublist.refl _))) ?_
          refine HdJ.step [13] (by kernel_rfl) rfl ?_
          refine HdStep.cons (by decide) rfl (fun inv => ?_) ?_
          · refine Lst.run rfl rfl (by decide) (Ev.loadS (α := BitVec 16) rfl (Rd.own (i := 0) rfl rfl rfl) Try.isAgg23 (v := .int .u16 x30.toNat) ((Get.elemN (s := 1) (x := x30) rfl g45.2.2 (Get.here _)).off (by omega))) ?_
            refine Lst.nil ?_
            refine At.hd inv (fun w h => (h.weaken (FLe.refl _)).sublist (List.Sublist.cons _ (List.Sublist.refl _))) ?_
            refine HdJ.step [14] (by kernel_rfl) rfl ?_
            refine HdStep.cons (by decide) rfl (fun inv => ?_) ?_
            · have g46 := lat_some h34
              refine Lst.run rfl rfl (by decide) (Ev.indexS (α := BitVec 16) (xs := l10) rfl rfl Try.runUnderlying22 Try.sizeOf23 rfl (by decide) (Rd.own (i := 0) rfl rfl rfl) g46.1 g46.2.1) ?_
              refine Lst.nil ?_
              refine At.hd inv (fun w h => (h.weaken (FLe.refl _)).sublist (List.Sublist.cons _ (List.Sublist.refl _))) ?_
              refine HdJ.step [15] (by kernel_rfl) rfl ?_
              refine HdStep.cons (by decide) rfl (fun inv => ?_) ?_
              · refine Lst.storeS (i := 0) rfl rfl rfl rfl rfl Try.sizeOf23 (vs := [.int .u16 x27.toNat]) rfl rfl (by decide) rfl (xs' := encs p36) (by rw [← h37]; exact (Put.elemN (s := 1) (x := x33) rfl g46.2.2 (Put.here (vs := [.int .u16 x27.toNat]) rfl)).off (by omega)) (L' := (.own s_a0 23 1 (encs p36)) :: L) rfl ?_
                refine Lst.nil ?_
                refine At.hd inv (fun w h => (h.weaken (FLe.refl _)).sublist (List.Sublist.cons _ (List.Sublist.refl _))) ?_
                refine HdJ.done (by kernel_rfl) ?_
                exact At.meetN p36 (FLe.refl _) ⟨rfl, rfl, rfl, rfl, rfl, rfl, rfl, rfl, rfl, trivial⟩ rfl h41
              exact trivial
            exact trivial
          exact trivial
        refine HdStep.cons (by decide) rfl (fun inv => ?_) ?_
        · refine Lst.run rfl rfl (by decide) (Ev.loadS (α := BitVec 16) rfl (Rd.own (i := 0) rfl rfl rfl) Try.isAgg23 (v := .int .u16 x30.toNat) ((Get.elemN (s := 1) (x := x30) rfl g45.2.2 (Get.here _)).off (by omega))) ?_
          refine Lst.nil ?_
          refine At.hd inv (fun w h => (h.weaken (FLe.refl _)).sublist (List.Sublist.cons _ (List.Sublist.refl _))) ?_
          refine HdJ.step [9] (by kernel_rfl) rfl ?_
          refine HdStep.cons (by decide) rfl (fun inv => ?_) ?_
          · refine Lst.run rfl rfl (by decide) (Ev.loadS (α := BitVec 16) rfl (Rd.own (i := 0) rfl rfl rfl) Try.isAgg23 (v := .int .u16 x27.toNat) ((Get.elemN (s := 1) (x := x27) rfl g42.2.2 (Get.here _)).off (by omega))) ?_
            refine Lst.nil ?_
            refine At.hd inv (fun w h => (h.weaken (FLe.refl _)).sublist (List.Sublist.cons _ (List.Sublist.refl _))) ?_
            refine HdJ.step [14] (by kernel_rfl) rfl ?_
            refine HdStep.cons (by decide) rfl (fun inv => ?_) ?_
            · have g47 := lat_some h34
              refine Lst.run rfl rfl (by decide) (Ev.indexS (α := BitVec 16) (xs := l10) rfl rfl Try.runUnderlying22 Try.sizeOf23 rfl (by decide) (Rd.own (i := 0) rfl rfl rfl) g47.1 g47.2.1) ?_
              refine Lst.nil ?_
              refine At.hd inv (fun w h => (h.weaken (FLe.refl _)).sublist (List.Sublist.cons _ (List.Sublist.refl _))) ?_
              refine HdJ.step [15] (by kernel_rfl) rfl ?_
              refine HdStep.cons (by decide) rfl (fun inv => ?_) ?_
              · refine Lst.storeS (i := 0) rfl rfl rfl rfl rfl Try.sizeOf23 (vs := [.int .u16 x27.toNat]) rfl rfl (by decide) rfl (xs' := encs p36) (by rw [← h37]; exact (Put.elemN (s := 1) (x := x33) rfl g47.2.2 (Put.here (vs := [.int .u16 x27.toNat]) rfl)).off (by omega)) (L' := (.own s_a0 23 1 (encs p36)) :: L) rfl ?_
                refine Lst.nil ?_
                refine At.hd inv (fun w h => (h.weaken (FLe.refl _)).sublist (List.Sublist.cons _ (List.Sublist.refl _))) ?_
                refine HdJ.done (by kernel_rfl) ?_
                exact At.meetN p36 (FLe.refl _) ⟨rfl, rfl, rfl, rfl, rfl, rfl, rfl, rfl, rfl, trivial⟩ rfl h41
              exact trivial
            exact trivial
          exact trivial
        exact trivial
      exact trivial
    refine HdStep.cons (by decide) rfl (fun inv => ?_) ?_
    · have g48 := lat_some h31
      refine Lst.run rfl rfl (by decide) (Ev.indexS (α := BitVec 16) (xs := l10) rfl rfl Try.runUnderlying22 Try.sizeOf23 rfl (by decide) (Rd.own (i := 0) rfl rfl rfl) g48.1 g48.2.1) ?_
      refine Lst.nil ?_
      refine At.hd inv (fun w h => (h.weaken (FLe.refl _)).sublist (List.Sublist.cons _ (List.Sublist.refl _))) ?_
      refine HdJ.step [8, 13] (by kernel_rfl) rfl ?_
      refine HdStep.cons (by decide) rfl (fun inv => ?_) ?_
      · have g49 := lat_some h28
        refine Lst.run rfl rfl (by decide) (Ev.indexS (α := BitVec 16) (xs := l10) rfl rfl Try.runUnderlying22 Try.sizeOf23 rfl (by decide) (Rd.own (i := 0) rfl rfl rfl) g49.1 g49.2.1) ?_
        refine Lst.nil ?_
        refine At.hd inv (fun w h => (h.weaken (FLe.refl _)).sublist (List.Sublist.cons _ (List.Sublist.refl _))) ?_
        refine HdJ.step [9, 13] (by kernel_rfl) rfl ?_
        refine HdStep.cons (by decide) rfl (fun inv => ?_) ?_
        · refine Lst.run rfl rfl (by decide) (Ev.loadS (α := BitVec 16) rfl (Rd.own (i := 0) rfl rfl rfl) Try.isAgg23 (v := .int .u16 x27.toNat) ((Get.elemN (s := 1) (x := x27) rfl g49.2.2 (Get.here _)).off (by omega))) ?_
          refine Lst.nil ?_
          refine At.hd inv (fun w h => (h.weaken (FLe.refl _)).sublist (List.Sublist.cons _ (List.Sublist.refl _))) ?_
          refine HdJ.step [13] (by kernel_rfl) rfl ?_
          refine HdStep.cons (by decide) rfl (fun inv => ?_) ?_
          · refine Lst.run rfl rfl (by decide) (Ev.loadS (α := BitVec 16) rfl (Rd.own (i := 0) rfl rfl rfl) Try.isAgg23 (v := .int .u16 x30.toNat) ((Get.elemN (s := 1) (x := x30) rfl g48.2.2 (Get.here _)).off (by omega))) ?_
            refine Lst.nil ?_
            refine At.hd inv (fun w h => (h.weaken (FLe.refl _)).sublist (List.Sublist.cons _ (List.Sublist.refl _))) ?_
            refine HdJ.step [14] (by kernel_rfl) rfl ?_
            refine HdStep.cons (by decide) rfl (fun inv => ?_) ?_
            · have g50 := lat_some h34
              refine Lst.run rfl rfl (by decide) (Ev.indexS (α := BitVec 16) (xs := l10) rfl rfl Try.runUnderlying22 Try.sizeOf23 rfl (by decide) (Rd.own (i := 0) rfl rfl rfl) g50.1 g50.2.1) ?_
              refine Lst.nil ?_
              refine At.hd inv (fun w h => (h.weaken (FLe.refl _)).sublist (List.Sublist.cons _ (List.Sublist.refl _))) ?_
              refine HdJ.step [15] (by kernel_rfl) rfl ?_
              refine HdStep.cons (by decide) rfl (fun inv => ?_) ?_
              · refine Lst.storeS (i := 0) rfl rfl rfl rfl rfl Try.sizeOf23 (vs := [.int .u16 x27.toNat]) rfl rfl (by decide) rfl (xs' := encs p36) (by rw [← h37]; exact (Put.elemN (s := 1) (x := x33) rfl g50.2.2 (Put.here (vs := [.int .u16 x27.toNat]) rfl)).off (by omega)) (L' := (.own s_a0 23 1 (encs p36)) :: L) rfl ?_
                refine Lst.nil ?_
                refine At.hd inv (fun w h => (h.weaken (FLe.refl _)).sublist (List.Sublist.cons _ (List.Sublist.refl _))) ?_
                refine HdJ.done (by kernel_rfl) ?_
                exact At.meetN p36 (FLe.refl _) ⟨rfl, rfl, rfl, rfl, rfl, rfl, rfl, rfl, rfl, trivial⟩ rfl h41
              exact trivial
            exact trivial
          exact trivial
        refine HdStep.cons (by decide) rfl (fun inv => ?_) ?_
        · refine Lst.run rfl rfl (by decide) (Ev.loadS (α := BitVec 16) rfl (Rd.own (i := 0) rfl rfl rfl) Try.isAgg23 (v := .int .u16 x30.toNat) ((Get.elemN (s := 1) (x := x30) rfl g48.2.2 (Get.here _)).off (by omega))) ?_
          refine Lst.nil ?_
          refine At.hd inv (fun w h => (h.weaken (FLe.refl _)).sublist (List.Sublist.cons _ (List.Sublist.refl _))) ?_
          refine HdJ.step [9] (by kernel_rfl) rfl ?_
          refine HdStep.cons (by decide) rfl (fun inv => ?_) ?_
          · refine Lst.run rfl rfl (by decide) (Ev.loadS (α := BitVec 16) rfl (Rd.own (i := 0) rfl rfl rfl) Try.isAgg23 (v := .int .u16 x27.toNat) ((Get.elemN (s := 1) (x := x27) rfl g49.2.2 (Get.here _)).off (by omega))) ?_
            refine Lst.nil ?_
            refine At.hd inv (fun w h => (h.weaken (FLe.refl _)).sublist (List.Sublist.cons _ (List.Sublist.refl _))) ?_
            refine HdJ.step [14] (by kernel_rfl) rfl ?_
            refine HdStep.cons (by decide) rfl (fun inv => ?_) ?_
            · have g51 := lat_some h34
              refine Lst.run rfl rfl (by decide) (Ev.indexS (α := BitVec 16) (xs := l10) rfl rfl Try.runUnderlying22 Try.sizeOf23 rfl (by decide) (Rd.own (i := 0) rfl rfl rfl) g51.1 g51.2.1) ?_
              refine Lst.nil ?_
              refine At.hd inv (fun w h => (h.weaken (FLe.refl _)).sublist (List.Sublist.cons _ (List.Sublist.refl _))) ?_
              refine HdJ.step [15] (by kernel_rfl) rfl ?_
              refine HdStep.cons (by decide) rfl (fun inv => ?_) ?_
              · refine Lst.storeS (i := 0) rfl rfl rfl rfl rfl Try.sizeOf23 (vs := [.int .u16 x27.toNat]) rfl rfl (by decide) rfl (xs' := encs p36) (by rw [← h37]; exact (Put.elemN (s := 1) (x := x33) rfl g51.2.2 (Put.here (vs := [.int .u16 x27.toNat]) rfl)).off (by omega)) (L' := (.own s_a0 23 1 (encs p36)) :: L) rfl ?_
                refine Lst.nil ?_
                refine At.hd inv (fun w h => (h.weaken (FLe.refl _)).sublist (List.Sublist.cons _ (List.Sublist.refl _))) ?_
                refine HdJ.done (by kernel_rfl) ?_
                exact At.meetN p36 (FLe.refl _) ⟨rfl, rfl, rfl, rfl, rfl, rfl, rfl, rfl, rfl, trivial⟩ rfl h41
              exact trivial
            exact trivial
          exact trivial
        exact trivial
      refine HdStep.cons (by decide) rfl (fun inv => ?_) ?_
      · refine Lst.run rfl rfl (by decide) (Ev.loadS (α := BitVec 16) rfl (Rd.own (i := 0) rfl rfl rfl) Try.isAgg23 (v := .int .u16 x30.toNat) ((Get.elemN (s := 1) (x := x30) rfl g48.2.2 (Get.here _)).off (by omega))) ?_
        refine Lst.nil ?_
        refine At.hd inv (fun w h => (h.weaken (FLe.refl _)).sublist (List.Sublist.cons _ (List.Sublist.refl _))) ?_
        refine HdJ.step [8] (by kernel_rfl) rfl ?_
        refine HdStep.cons (by decide) rfl (fun inv => ?_) ?_
        · have g52 := lat_some h28
          refine Lst.run rfl rfl (by decide) (Ev.indexS (α := BitVec 16) (xs := l10) rfl rfl Try.runUnderlying22 Try.sizeOf23 rfl (by decide) (Rd.own (i := 0) rfl rfl rfl) g52.1 g52.2.1) ?_
          refine Lst.nil ?_
          refine At.hd inv (fun w h => (h.weaken (FLe.refl _)).sublist (List.Sublist.cons _ (List.Sublist.refl _))) ?_
          refine HdJ.step [9] (by kernel_rfl) rfl ?_
          refine HdStep.cons (by decide) rfl (fun inv => ?_) ?_
          · refine Lst.run rfl rfl (by decide) (Ev.loadS (α := BitVec 16) rfl (Rd.own (i := 0) rfl rfl rfl) Try.isAgg23 (v := .int .u16 x27.toNat) ((Get.elemN (s := 1) (x := x27) rfl g52.2.2 (Get.here _)).off (by omega))) ?_
            refine Lst.nil ?_
            refine At.hd inv (fun w h => (h.weaken (FLe.refl _)).sublist (List.Sublist.cons _ (List.Sublist.refl _))) ?_
            refine HdJ.step [14] (by kernel_rfl) rfl ?_
            refine HdStep.cons (by decide) rfl (fun inv => ?_) ?_
            · have g53 := lat_some h34
              refine Lst.run rfl rfl (by decide) (Ev.indexS (α := BitVec 16) (xs := l10) rfl rfl Try.runUnderlying22 Try.sizeOf23 rfl (by decide) (Rd.own (i := 0) rfl rfl rfl) g53.1 g53.2.1) ?_
              refine Lst.nil ?_
              refine At.hd inv (fun w h => (h.weaken (FLe.refl _)).sublist (List.Sublist.cons _ (List.Sublist.refl _))) ?_
              refine HdJ.step [15] (by kernel_rfl) rfl ?_
              refine HdStep.cons (by decide) rfl (fun inv => ?_) ?_
              · refine Lst.storeS (i := 0) rfl rfl rfl rfl rfl Try.sizeOf23 (vs := [.int .u16 x27.toNat]) rfl rfl (by decide) rfl (xs' := encs p36) (by rw [← h37]; exact (Put.elemN (s := 1) (x := x33) rfl g53.2.2 (Put.here (vs := [.int .u16 x27.toNat]) rfl)).off (by omega)) (L' := (.own s_a0 23 1 (encs p36)) :: L) rfl ?_
                refine Lst.nil ?_
                refine At.hd inv (fun w h => (h.weaken (FLe.refl _)).sublist (List.Sublist.cons _ (List.Sublist.refl _))) ?_
                refine HdJ.done (by kernel_rfl) ?_
                exact At.meetN p36 (FLe.refl _) ⟨rfl, rfl, rfl, rfl, rfl, rfl, rfl, rfl, rfl, trivial⟩ rfl h41
              exact trivial
            exact trivial
          exact trivial
        exact trivial
      exact trivial
    exact trivial
  rintro F54 l39 hF55 hy
  subst hy
  refine Lst.as (e' := [(0, Sl.v s_a0), (1, .int .i64 a1), (2, .int .i64 a2), (3, .func (.func 53) #[] #[]), (8, .int .i64 y3), (9, .int .i64 y9), (39, Sl.v s_a0), (41, .int .i64 (w64 (y9 - (1 : Int)))), (50, .int .u16 x30.toNat)]) (L' := (.own s_a0 23 1 (encs l39)) :: L) ⟨rfl, rfl, rfl, rfl, rfl, rfl, rfl, rfl, rfl, trivial⟩ rfl ?_
  obtain ⟨x56, h57, H⟩ := bind_some H
  have g58 := lat_some h57
  refine Lst.run rfl rfl (by decide) (Ev.indexS (α := BitVec 16) (xs := l39) rfl rfl Try.runUnderlying22 Try.sizeOf23 rfl (by decide) (Rd.own (i := 0) rfl rfl rfl) g58.1 g58.2.1) ?_
  obtain ⟨p59, h60, H⟩ := Let_some H
  refine Lst.storeS (i := 0) rfl rfl rfl rfl rfl Try.sizeOf23 (vs := [.int .u16 x30.toNat]) rfl rfl (by decide) rfl (xs' := encs p59) (by rw [← h60]; exact (Put.elemN (s := 1) (x := x56) rfl g58.2.2 (Put.here (vs := [.int .u16 x30.toNat]) rfl)).off (by omega)) (L' := (.own s_a0 23 1 (encs p59)) :: L) rfl ?_
  refine Lst.nil ?_
  refine At.in_normal ?_
  refine At.then ?_
  refine Cd.region ?_
  refine Lst.run rfl rfl (by decide) (Ev.move rfl) ?_
  refine Lst.run rfl rfl (by decide) (Ev.sub rfl rfl) ?_
  refine Lst.run rfl rfl (by decide) (Ev.assign rfl) ?_
  refine Lst.nil ?_
  exact At.meet (k8, w64 (y9 - (1 : Int)), p59) (FLe.trans hF12 hF55) ⟨rfl, rfl, rfl, rfl, rfl, rfl, trivial⟩ rfl ⟨hgo8 _ (some_inj H).symm, Nat.lt_succ_self _⟩
set_option maxRecDepth 20000 in
theorem slices_siftDownCmpFunc_uint16_quorum_compare_sim {fu : Nat} {a0 : List (BitVec 16)} {a1 : Int} {a2 : Int} {a3 : Int} {s_a0 : Sl} {r : (List (BitVec 16))} (H : slices_siftDownCmpFunc_uint16_quorum_compare fu a0 a1 a2 a3 = some r) (w0 : World) (F : Frz) (M L : List Item) (hM : M.Sublist L) : Ok Try.prog w0 151 [Sl.v s_a0, .int .i64 a1, .int .i64 a2, .int .i64 a3, .func (.func 53) #[] #[]] F ((.own s_a0 23 1 (encs a0)) :: L) (fun _ L' v => v = .tuple #[] ∧ L' = (.own s_a0 23 1 (encs r)) :: L) := by
  unfold slices_siftDownCmpFunc_uint16_quorum_compare at H
  refine Ok.enter (m := 5) (n := 82) Try.func151 rfl rfl rfl (by decide) ?_
  refine Cd.env (e' := [(0, Sl.v s_a0), (1, .int .i64 a1), (2, .int .i64 a2), (3, .int .i64 a3), (4, .func (.func 53) #[] #[])]) rfl ?_
  refine Cd.seq ?_
  refine Cd.region ?_
  refine Lst.run rfl rfl (by decide) (Ev.move rfl) ?_
  refine Lst.run rfl rfl (by decide) (Ev.assign rfl) ?_
  refine Lst.nil ?_
  refine At.then ?_
  refine Cd.block ?_
  obtain ⟨ol2, H, HKl2⟩ := andThen_some H
  refine Cd.loop (σ := Nat × Int × (List (BitVec 16))) (fun (k2, y3, l4) => [(0, Sl.v s_a0), (2, .int .i64 a2), (3, .int .i64 a3), (4, .func (.func 53) #[] #[]), (10, .int .i64 y3)]) (fun (k2, y3, l4) => (.own s_a0 23 1 (encs l4)) :: L) (fun _ => (fun (k2, y3, l4) => whileM (slices_siftDownCmpFunc_uint16_quorum_compare_B0 a2 a3) k2 (y3, l4) = some ol2)) (fun (k2, y3, l4) => k2) (fu, a1, a0) ⟨rfl, rfl, rfl, rfl, rfl, trivial⟩ rfl H ?_
  rintro F5 ⟨k2, y3, l4⟩ hF6 H
  refine Cd.as (e' := [(0, Sl.v s_a0), (2, .int .i64 a2), (3, .int .i64 a3), (4, .func (.func 53) #[] #[]), (10, .int .i64 y3)]) (L' := (.own s_a0 23 1 (encs l4)) :: L) ⟨rfl, rfl, rfl, rfl, rfl, trivial⟩ rfl ?_
  rcases k2 with _ | k2
  · cases H
  obtain ⟨c2, H, hgo2, hbrk2, hret2⟩ := whileM_go H
  unfold slices_siftDownCmpFunc_uint16_quorum_compare_B0 at H
  try dsimp only at H
  refine Cd.block ?_
  refine Cd.seq ?_
  refine Cd.region ?_
  refine Lst.run rfl rfl (by decide) (Ev.move rfl) ?_
  refine Lst.run rfl rfl (by decide) (Ev.mul rfl rfl) ?_
  refine Lst.run rfl rfl (by decide) (Ev.add rfl rfl) ?_
  refine Lst.run rfl rfl (by decide) (Ev.assign rfl) ?_
  refine Lst.nil ?_
  refine At.then ?_
  refine Cd.seq ?_
  refine Cd.seq ?_
  refine Cd.region ?_
  refine Lst.run rfl rfl (by decide) (Ev.move rfl) ?_
  refine Lst.run rfl rfl (by decide) (Ev.move rfl) ?_
  refine Lst.run rfl rfl (by decide) (Ev.geq rfl rfl) ?_
  refine Lst.nil ?_
  refine At.then ?_
  rcases Bool.eq_false_or_eq_true (decide ((w64 ((w64 ((2 : Int) * y3)) + (1 : Int))) ≥ a2)) with hb7 | hb7
  · replace H := ite_t hb7 H
    refine Cd.condT rfl hb7 ?_
    refine Cd.exit ?_
    refine At.then_exit ?_
    refine At.in_other rfl ?_
    refine At.then_exit ?_
    refine At.in_exit ?_
    have H := hbrk2 _ (some_inj H).symm
    subst H
    replace H := HKl2
    obtain rfl := some_inj H
    exact At.ret0 (.inr rfl) rfl hF6 (List.Sublist.cons_cons _ (List.Sublist.refl _)) ⟨rfl, rfl⟩
  replace H := ite_f hb7 H
  refine Cd.condF rfl hb7 ?_
  refine Cd.skip ?_
  refine At.then ?_
  obtain ⟨o9, H, HKo9⟩ := bind_some H
  refine Cd.join (σ := Int) (fun y8 => [(0, Sl.v s_a0), (2, .int .i64 a2), (3, .int .i64 a3), (4, .func (.func 53) #[] #[]), (10, .int .i64 y3), (11, .int .i64 y8)]) (fun y8 => (.own s_a0 23 1 (encs l4)) :: L) (fun _ y8 => y8 = o9) ?_ ?_
  · refine Cd.seq ?_
    refine Cd.quiet (by kernel_rfl) (by kernel_rfl) ?_
    refine Qt.run rfl rfl (by decide) (Ev.move rfl) ?_
    refine Qt.run rfl rfl (by decide) (Ev.add rfl rfl) ?_
    refine Qt.run rfl rfl (by decide) (Ev.move rfl) ?_
    refine Qt.run rfl rfl (by decide) (Ev.lss rfl rfl) ?_
    refine Qt.run rfl rfl (by decide) (Ev.move rfl) ?_
    obtain ⟨o10, H, HKo10⟩ := bind_some H
    refine Qt.join (σ := Bool) 17 (fun y11 => [(0, Sl.v s_a0), (2, .int .i64 a2), (3, .int .i64 a3), (4, .func (.func 53) #[] #[]), (10, .int .i64 y3), (11, .int .i64 (w64 ((w64 ((2 : Int) * y3)) + (1 : Int)))), (40, .bool y11)]) (fun y11 => y11 = o10) ?_ ?_
    · rcases (Bool.eq_false_or_eq_true (decide ((w64 ((w64 ((w64 ((2 : Int) * y3)) + (1 : Int))) + (1 : Int))) < a2))).symm with hb12 | hb12
      · replace H := ite_f hb12 H
        refine Qt.skip rfl rfl rfl hb12 rfl (by decide) ?_
        refine Qt.skip rfl rfl rfl hb12 rfl (by decide) ?_
        refine Qt.skip rfl rfl rfl hb12 rfl (by decide) ?_
        refine Qt.skip rfl rfl rfl hb12 rfl (by decide) ?_
        refine Qt.skip rfl rfl rfl hb12 rfl (by decide) ?_
        refine Qt.skip rfl rfl rfl hb12 rfl (by decide) ?_
        refine Qt.skip rfl rfl rfl hb12 rfl (by decide) ?_
        refine Qt.skip rfl rfl rfl hb12 rfl (by decide) ?_
        refine Qt.skip rfl rfl rfl hb12 rfl (by decide) ?_
        refine Qt.skip rfl rfl rfl hb12 rfl (by decide) ?_
        refine Qt.skip rfl rfl rfl hb12 rfl (by decide) ?_
        refine Qt.skip rfl rfl rfl hb12 rfl (by decide) ?_
        refine Qt.skip rfl rfl rfl hb12 rfl (by decide) ?_
        refine Qt.skip rfl rfl rfl hb12 rfl (by decide) ?_
        refine Qt.skip rfl rfl rfl hb12 rfl (by decide) ?_
        refine Qt.skip rfl rfl rfl hb12 rfl (by decide) ?_
        refine Qt.run rfl rfl (by decide) (Ev.pickF rfl hb12 rfl) ?_
        exact Qt.meet false ⟨rfl, rfl, rfl, rfl, rfl, rfl, rfl, trivial⟩ (some_inj H)
      replace H := ite_t hb12 H
      refine Qt.runG rfl rfl rfl hb12 rfl (by decide) (Ev.move rfl) ?_
      refine Qt.runG rfl rfl rfl hb12 rfl (by decide) (Ev.move rfl) ?_
      refine Qt.runG rfl rfl rfl hb12 rfl (by decide) (Ev.move rfl) ?_
      refine Qt.runG rfl rfl rfl hb12 rfl (by decide) (Ev.move rfl) ?_
      refine Qt.runG rfl rfl rfl hb12 rfl (by decide) (Ev.add rfl rfl) ?_
      obtain ⟨x13, h14, H⟩ := bind_some H
      have g15 := lat_some h14
      refine Qt.runG rfl rfl rfl hb12 rfl (by decide) (Ev.indexS (α := BitVec 16) (xs := l4) rfl rfl Try.runUnderlying22 Try.sizeOf23 rfl (by decide) (Rd.own (i := 0) rfl rfl rfl) g15.1 g15.2.1) ?_
      refine Qt.runG rfl rfl rfl hb12 rfl (by decide) (Ev.loadS (α := BitVec 16) rfl (Rd.own (i := 0) rfl rfl rfl) Try.isAgg23 (v := .int .u16 x13.toNat) ((Get.elemN (s := 1) (x := x13) rfl g15.2.2 (Get.here _)).off (by omega))) ?_
      refine Qt.runG rfl rfl rfl hb12 rfl (by decide) (Ev.move rfl) ?_
      refine Qt.runG rfl rfl rfl hb12 rfl (by decide) (Ev.move rfl) ?_
      refine Qt.runG rfl rfl rfl hb12 rfl (by decide) (Ev.move rfl) ?_
      refine Qt.runG rfl rfl rfl hb12 rfl (by decide) (Ev.add rfl rfl) ?_
      refine Qt.runG rfl rfl rfl hb12 rfl (by decide) (Ev.add rfl rfl) ?_
      obtain ⟨x16, h17, H⟩ := bind_some H
      have g18 := lat_some h17
      refine Qt.runG rfl rfl rfl hb12 rfl (by decide) (Ev.indexS (α := BitVec 16) (xs := l4) rfl rfl Try.runUnderlying22 Try.sizeOf23 rfl (by decide) (Rd.own (i := 0) rfl rfl rfl) g18.1 g18.2.1) ?_
      refine Qt.runG rfl rfl rfl hb12 rfl (by decide) (Ev.loadS (α := BitVec 16) rfl (Rd.own (i := 0) rfl rfl rfl) Try.isAgg23 (v := .int .u16 x16.toNat) ((Get.elemN (s := 1) (x := x16) rfl g18.2.2 (Get.here _)).off (by omega))) ?_
      obtain ⟨r19, h20, H⟩ := bind_some H
      refine Qt.callVG rfl rfl rfl hb12 rfl (by decide) (vs := [.int .u16 x13.toNat, .int .u16 x16.toNat]) (cs := []) rfl ⟨rfl, rfl, trivial⟩ Try.call53 (quorum_compare_sim h20 w0 _ M _ (List.Sublist.cons _ hM)) ?_
      refine Qt.runG rfl rfl rfl hb12 rfl (by decide) (Ev.lss rfl rfl) ?_
      refine Qt.run rfl rfl (by decide) (Ev.pickT rfl hb12 rfl) ?_
      exact Qt.meet (decide (r19 < (0 : Int))) ⟨rfl, rfl, rfl, rfl, rfl, rfl, rfl, trivial⟩ (some_inj H)
    rintro y11 hy
    subst hy
    refine Qt.as (e' := [(0, Sl.v s_a0), (2, .int .i64 a2), (3, .int .i64 a3), (4, .func (.func 53) #[] #[]), (10, .int .i64 y3), (11, .int .i64 (w64 ((w64 ((2 : Int) * y3)) + (1 : Int)))), (40, .bool y11)]) ⟨rfl, rfl, rfl, rfl, rfl, rfl, rfl, trivial⟩ ?_
    replace H := HKo10
    refine Qt.done ?_
    refine At.then ?_
    rcases (Bool.eq_false_or_eq_true y11).symm with hb23 | hb23
    · replace H := ite_f hb23 H
      refine Cd.condF rfl hb23 ?_
      refine Cd.skip ?_
      exact At.meet (w64 ((w64 ((2 : Int) * y3)) + (1 : Int))) (FLe.refl _) ⟨rfl, rfl, rfl, rfl, rfl, rfl, trivial⟩ rfl (some_inj H)
    replace H := ite_t hb23 H
    refine Cd.condT rfl hb23 ?_
    refine Cd.region ?_
    refine Lst.run rfl rfl (by decide) (Ev.move rfl) ?_
    refine Lst.run rfl rfl (by decide) (Ev.add rfl rfl) ?_
    refine Lst.run rfl rfl (by decide) (Ev.assign rfl) ?_
    refine Lst.nil ?_
    exact At.meet (w64 ((w64 ((w64 ((2 : Int) * y3)) + (1 : Int))) + (1 : Int))) (FLe.refl _) ⟨rfl, rfl, rfl, rfl, rfl, rfl, trivial⟩ rfl (some_inj H)
  rintro F24 y8 hF25 hy
  subst hy
  refine Cd.as (e' := [(0, Sl.v s_a0), (2, .int .i64 a2), (3, .int .i64 a3), (4, .func (.func 53) #[] #[]), (10, .int .i64 y3), (11, .int .i64 y8)]) (L' := (.own s_a0 23 1 (encs l4)) :: L) ⟨rfl, rfl, rfl, rfl, rfl, rfl, trivial⟩ rfl ?_
  replace H := HKo9
  refine Cd.seq ?_
  refine Cd.seq ?_
  refine Cd.quiet (by kernel_rfl) (by kernel_rfl) ?_
  refine Qt.run rfl rfl (by decide) (Ev.move rfl) ?_
  refine Qt.run rfl rfl (by decide) (Ev.move rfl) ?_
  refine Qt.run rfl rfl (by decide) (Ev.move rfl) ?_
  refine Qt.run rfl rfl (by decide) (Ev.move rfl) ?_
  refine Qt.run rfl rfl (by decide) (Ev.add rfl rfl) ?_
  obtain ⟨x26, h27, H⟩ := bind_some H
  have g28 := lat_some h27
  refine Qt.run rfl rfl (by decide) (Ev.indexS (α := BitVec 16) (xs := l4) rfl rfl Try.runUnderlying22 Try.sizeOf23 rfl (by decide) (Rd.own (i := 0) rfl rfl rfl) g28.1 g28.2.1) ?_
  refine Qt.run rfl rfl (by decide) (Ev.loadS (α := BitVec 16) rfl (Rd.own (i := 0) rfl rfl rfl) Try.isAgg23 (v := .int .u16 x26.toNat) ((Get.elemN (s := 1) (x := x26) rfl g28.2.2 (Get.here _)).off (by omega))) ?_
  refine Qt.run rfl rfl (by decide) (Ev.move rfl) ?_
  refine Qt.run rfl rfl (by decide) (Ev.move rfl) ?_
  refine Qt.run rfl rfl (by decide) (Ev.move rfl) ?_
  refine Qt.run rfl rfl (by decide) (Ev.add rfl rfl) ?_
  obtain ⟨x29, h30, H⟩ := bind_some H
  have g31 := lat_some h30
  refine Qt.run rfl rfl (by decide) (Ev.indexS (α := BitVec 16) (xs := l4) rfl rfl Try.runUnderlying22 Try.sizeOf23 rfl (by decide) (Rd.own (i := 0) rfl rfl rfl) g31.1 g31.2.1) ?_
  refine Qt.run rfl rfl (by decide) (Ev.loadS (α := BitVec 16) rfl (Rd.own (i := 0) rfl rfl rfl) Try.isAgg23 (v := .int .u16 x29.toNat) ((Get.elemN (s := 1) (x := x29) rfl g31.2.2 (Get.here _)).off (by omega))) ?_
  obtain ⟨r32, h33, H⟩ := bind_some H
  refine Qt.callV rfl rfl (by decide) (vs := [.int .u16 x26.toNat, .int .u16 x29.toNat]) (cs := []) rfl ⟨rfl, rfl, trivial⟩ Try.call53 (quorum_compare_sim h33 w0 _ M _ (List.Sublist.cons _ hM)) ?_
  refine Qt.run rfl rfl (by decide) (Ev.lss rfl rfl) ?_
  refine Qt.run rfl rfl (by decide) (Ev.not rfl) ?_
  refine Qt.done ?_
  refine At.then ?_
  rcases Bool.eq_false_or_eq_true (!(decide (r32 < (0 : Int)))) with hb36 | hb36
  · replace H := ite_t hb36 H
    refine Cd.condT rfl hb36 ?_
    have H := hret2 _ (some_inj H).symm
    subst H
    replace H := HKl2
    obtain rfl := some_inj H
    refine Cd.ret ?_
    refine At.then_ret ?_
    refine At.in_ret ?_
    refine At.then_ret ?_
    refine At.in_ret ?_
    exact At.ret0 (.inl rfl) rfl (FLe.trans hF6 hF25) (List.Sublist.cons_cons _ (List.Sublist.refl _)) ⟨rfl, rfl⟩
  replace H := ite_f hb36 H
  refine Cd.condF rfl hb36 ?_
  refine Cd.skip ?_
  refine At.then ?_
  refine Cd.seq ?_
  refine Cd.as (e' := [(0, Sl.v s_a0), (2, .int .i64 a2), (3, .int .i64 a3), (4, .func (.func 53) #[] #[]), (10, .int .i64 y3), (11, .int .i64 y8)]) (L' := (.own s_a0 23 1 (encs l4)) :: L) ⟨rfl, rfl, rfl, rfl, rfl, rfl, trivial⟩ rfl ?_
  obtain ⟨x37, h38, H⟩ := bind_some H
  obtain ⟨x40, h41, H⟩ := bind_some H
  obtain ⟨x43, h44, H⟩ := bind_some H
  obtain ⟨p46, h47, H⟩ := Let_some H
  obtain ⟨o50, h51, H⟩ := Let_some H
  refine Cd.headMeet (σ := (List (BitVec 16))) 22 (fun l49 => [(0, Sl.v s_a0), (2, .int .i64 a2), (3, .int .i64 a3), (4, .func (.func 53) #[] #[]), (10, .int .i64 y3), (11, .int .i64 y8), (63, Sl.v s_a0), (66, .int .i64 (w64 (a3 + y8))), (78, .int .u16 x40.toNat)]) (fun l49 => (.own s_a0 23 1 (encs l49)) :: L) (fun _ l49 => l49 = o50) (by kernel_rfl) (by kernel_rfl) (behind_sink (by kernel_rfl) (by kernel_rfl) (by kernel_rfl)) (by kernel_rfl) (fun hsel hlt => ?_) ?_
  · refine HdJ.keep (fun w => St w0 F24 (L) w) (fun w h => trivial) ?_
    refine HdJ.takeK hsel hlt 0 (fun w h => h.sublist (List.Sublist.cons _ (List.Sublist.refl _))) rfl rfl (by decide) (by decide) (by kernel_rfl) (by kernel_rfl) rfl (Ev.move rfl) ?_
    refine HdJ.takeK hsel hlt 1 (fun w h => h.sublist (List.Sublist.cons _ (List.Sublist.refl _))) rfl rfl (by decide) (by decide) (by kernel_rfl) (by kernel_rfl) rfl (Ev.move rfl) ?_
    refine HdJ.takeK hsel hlt 2 (fun w h => h.sublist (List.Sublist.cons _ (List.Sublist.refl _))) rfl rfl (by decide) (by decide) (by kernel_rfl) (by kernel_rfl) rfl (Ev.move rfl) ?_
    refine HdJ.takeK hsel hlt 3 (fun w h => h.sublist (List.Sublist.cons _ (List.Sublist.refl _))) rfl rfl (by decide) (by decide) (by kernel_rfl) (by kernel_rfl) rfl (Ev.add rfl rfl) ?_
    refine HdJ.takeK hsel hlt 4 (fun w h => h.sublist (List.Sublist.cons _ (List.Sublist.refl _))) rfl rfl (by decide) (by decide) (by kernel_rfl) (by kernel_rfl) rfl (Ev.move rfl) ?_
    refine HdJ.takeK hsel hlt 5 (fun w h => h.sublist (List.Sublist.cons _ (List.Sublist.refl _))) rfl rfl (by decide) (by decide) (by kernel_rfl) (by kernel_rfl) rfl (Ev.move rfl) ?_
    refine HdJ.takeK hsel hlt 6 (fun w h => h.sublist (List.Sublist.cons _ (List.Sublist.refl _))) rfl rfl (by decide) (by decide) (by kernel_rfl) (by kernel_rfl) rfl (Ev.move rfl) ?_
    refine HdJ.takeK hsel hlt 7 (fun w h => h.sublist (List.Sublist.cons _ (List.Sublist.refl _))) rfl rfl (by decide) (by decide) (by kernel_rfl) (by kernel_rfl) rfl (Ev.add rfl rfl) ?_
    refine HdJ.takeK hsel hlt 8 (fun w h => h.sublist (List.Sublist.cons _ (List.Sublist.refl _))) rfl rfl (by decide) (by decide) (by kernel_rfl) (by kernel_rfl) rfl (Ev.move rfl) ?_
    refine HdJ.takeK hsel hlt 9 (fun w h => h.sublist (List.Sublist.cons _ (List.Sublist.refl _))) rfl rfl (by decide) (by decide) (by kernel_rfl) (by kernel_rfl) rfl (Ev.move rfl) ?_
    refine HdJ.takeK hsel hlt 10 (fun w h => h.sublist (List.Sublist.cons _ (List.Sublist.refl _))) rfl rfl (by decide) (by decide) (by kernel_rfl) (by kernel_rfl) rfl (Ev.move rfl) ?_
    refine HdJ.takeK hsel hlt 11 (fun w h => h.sublist (List.Sublist.cons _ (List.Sublist.refl _))) rfl rfl (by decide) (by decide) (by kernel_rfl) (by kernel_rfl) rfl (Ev.add rfl rfl) ?_
    refine HdJ.takeK hsel hlt 14 (fun w h => h.sublist (List.Sublist.cons _ (List.Sublist.refl _))) rfl rfl (by decide) (by decide) (by kernel_rfl) (by kernel_rfl) rfl (Ev.move rfl) ?_
    refine HdJ.takeK hsel hlt 15 (fun w h => h.sublist (List.Sublist.cons _ (List.Sublist.refl _))) rfl rfl (by decide) (by decide) (by kernel_rfl) (by kernel_rfl) rfl (Ev.move rfl) ?_
    refine HdJ.takeK hsel hlt 16 (fun w h => h.sublist (List.Sublist.cons _ (List.Sublist.refl _))) rfl rfl (by decide) (by decide) (by kernel_rfl) (by kernel_rfl) rfl (Ev.move rfl) ?_
    refine HdJ.takeK hsel hlt 17 (fun w h => h.sublist (List.Sublist.cons _ (List.Sublist.refl _))) rfl rfl (by decide) (by decide) (by kernel_rfl) (by kernel_rfl) rfl (Ev.add rfl rfl) ?_
    refine HdJ.step [12, 18] (by kernel_rfl) rfl ?_
    refine HdStep.cons (by decide) rfl (fun inv => ?_) ?_
    · have g52 := lat_some h38
      refine Lst.run rfl rfl (by decide) (Ev.indexS (α := BitVec 16) (xs := l4) rfl rfl Try.runUnderlying22 Try.sizeOf23 rfl (by decide) (Rd.own (i := 0) rfl rfl rfl) g52.1 g52.2.1) ?_
      refine Lst.nil ?_
      refine At.hd inv (fun w h => (h.weaken (FLe.refl _)).sublist (List.Sublist.cons _ (List.Sublist.refl _))) ?_
      refine HdJ.step [13, 18] (by kernel_rfl) rfl ?_
      refine HdStep.cons (by decide) rfl (fun inv => ?_) ?_
      · refine Lst.run rfl rfl (by decide) (Ev.loadS (α := BitVec 16) rfl (Rd.own (i := 0) rfl rfl rfl) Try.isAgg23 (v := .int .u16 x37.toNat) ((Get.elemN (s := 1) (x := x37) rfl g52.2.2 (Get.here _)).off (by omega))) ?_
        refine Lst.nil ?_
        refine At.hd inv (fun w h => (h.weaken (FLe.refl _)).sublist (List.Sublist.cons _ (List.Sublist.refl _))) ?_
        refine HdJ.step [18] (by kernel_rfl) rfl ?_
        refine HdStep.cons (by decide) rfl (fun inv => ?_) ?_
        · have g53 := lat_some h41
          refine Lst.run rfl rfl (by decide) (Ev.indexS (α := BitVec 16) (xs := l4) rfl rfl Try.runUnderlying22 Try.sizeOf23 rfl (by decide) (Rd.own (i := 0) rfl rfl rfl) g53.1 g53.2.1) ?_
          refine Lst.nil ?_
          refine At.hd inv (fun w h => (h.weaken (FLe.refl _)).sublist (List.Sublist.cons _ (List.Sublist.refl _))) ?_
          refine HdJ.step [19] (by kernel_rfl) rfl ?_
          refine HdStep.cons (by decide) rfl (fun inv => ?_) ?_
          · refine Lst.run rfl rfl (by decide) (Ev.loadS (α := BitVec 16) rfl (Rd.own (i := 0) rfl rfl rfl) Try.isAgg23 (v := .int .u16 x40.toNat) ((Get.elemN (s := 1) (x := x40) rfl g53.2.2 (Get.here _)).off (by omega))) ?_
            refine Lst.nil ?_
            refine At.hd inv (fun w h => (h.weaken (FLe.refl _)).sublist (List.Sublist.cons _ (List.Sublist.refl _))) ?_
            refine HdJ.step [20] (by kernel_rfl) rfl ?_
            refine HdStep.cons (by decide) rfl (fun inv => ?_) ?_
            · have g54 := lat_some h44
              refine Lst.run rfl rfl (by decide) (Ev.indexS (α := BitVec 16) (xs := l4) rfl rfl Try.runUnderlying22 Try.sizeOf23 rfl (by decide) (Rd.own (i := 0) rfl rfl rfl) g54.1 g54.2.1) ?_
              refine Lst.nil ?_
              refine At.hd inv (fun w h => (h.weaken (FLe.refl _)).sublist (List.Sublist.cons _ (List.Sublist.refl _))) ?_
              refine HdJ.step [21] (by kernel_rfl) rfl ?_
              refine HdStep.cons (by decide) rfl (fun inv => ?_) ?_
              · refine Lst.storeS (i := 0) rfl rfl rfl rfl rfl Try.sizeOf23 (vs := [.int .u16 x37.toNat]) rfl rfl (by decide) rfl (xs' := encs p46) (by rw [← h47]; exact (Put.elemN (s := 1) (x := x43) rfl g54.2.2 (Put.here (vs := [.int .u16 x37.toNat]) rfl)).off (by omega)) (L' := (.own s_a0 23 1 (encs p46)) :: L) rfl ?_
                refine Lst.nil ?_
                refine At.hd inv (fun w h => (h.weaken (FLe.refl _)).sublist (List.Sublist.cons _ (List.Sublist.refl _))) ?_
                refine HdJ.done (by kernel_rfl) ?_
                exact At.meetN p46 (FLe.refl _) ⟨rfl, rfl, rfl, rfl, rfl, rfl, rfl, rfl, rfl, trivial⟩ rfl h51
              exact trivial
            exact trivial
          exact trivial
        exact trivial
      refine HdStep.cons (by decide) rfl (fun inv => ?_) ?_
      · have g55 := lat_some h41
        refine Lst.run rfl rfl (by decide) (Ev.indexS (α := BitVec 16) (xs := l4) rfl rfl Try.runUnderlying22 Try.sizeOf23 rfl (by decide) (Rd.own (i := 0) rfl rfl rfl) g55.1 g55.2.1) ?_
        refine Lst.nil ?_
        refine At.hd inv (fun w h => (h.weaken (FLe.refl _)).sublist (List.Sublist.cons _ (List.Sublist.refl _))) ?_
        refine HdJ.step [13, 19] (by kernel_rfl) rfl ?_
        refine HdStep.cons (by decide) rfl (fun inv => ?_) ?_
        · refine Lst.run rfl rfl (by decide) (Ev.loadS (α := BitVec 16) rfl (Rd.own (i := 0) rfl rfl rfl) Try.isAgg23 (v := .int .u16 x37.toNat) ((Get.elemN (s := 1) (x := x37) rfl g52.2.2 (Get.here _)).off (by omega))) ?_
          refine Lst.nil ?_
          refine At.hd inv (fun w h => (h.weaken (FLe.refl _)).sublist (List.Sublist.cons _ (List.Sublist.refl _))) ?_
          refine HdJ.step [19] (by kernel_rfl) rfl ?_
          refine HdStep.cons (by decide) rfl (fun inv => ?_) ?_
          · refine Lst.run rfl rfl (by decide) (Ev.loadS (α := BitVec 16) rfl (Rd.own (i := 0) rfl rfl rfl) Try.isAgg23 (v := .int .u16 x40.toNat) ((Get.elemN (s := 1) (x := x40) rfl g55.2.2 (Get.here _)).off (by omega))) ?_
            refine Lst.nil ?_
            refine At.hd inv (fun w h => (h.weaken (FLe.refl _)).sublist (List.Sublist.cons _ (List.Sublist.refl _))) ?_
            refine HdJ.step [20] (by kernel_rfl) rfl ?_
            refine HdStep.cons (by decide) rfl (fun inv => ?_) ?_
            · have g56 := lat_some h44
              refine Lst.run rfl rfl (by decide) (Ev.indexS (α := BitVec 16) (xs := l4) rfl rfl Try.runUnderlying22 Try.sizeOf23 rfl (by decide) (Rd.own (i := 0) rfl rfl rfl) g56.1 g56.2.1) ?_
              refine Lst.nil ?_
              refine At.hd inv (fun w h => (h.weaken (FLe.refl _)).sublist (List.Sublist.cons _ (List.Sublist.refl _))) ?_
              refine HdJ.step [21] (by kernel_rfl) rfl ?_
              refine HdStep.cons (by decide) rfl (fun inv => ?_) ?_
              · refine Lst.storeS (i := 0) rfl rfl rfl rfl rfl Try.sizeOf23 (vs := [.int .u16 x37.toNat]) rfl rfl (by decide) rfl (xs' := encs p46) (by rw [← h47]; exact (Put.elemN (s := 1) (x := x43) rfl g56.2.2 (Put.here (vs := [.int .u16 x37.toNat]) rfl)).off (by omega)) (L' := (.own s_a0 23 1 (encs p46)) :: L) rfl ?_
                refine Lst.nil ?_
                refine At.hd inv (fun w h => (h.weaken (FLe.refl _)).sublist (List.Sublist.cons _ (List.Sublist.refl _))) ?_
                refine HdJ.done (by kernel_rfl) ?_
                exact At.meetN p46 (FLe.refl _) ⟨rfl, rfl, rfl, rfl, rfl, rfl, rfl, rfl, rfl, trivial⟩ rfl h51
              exact trivial
            exact trivial
          exact trivial
        refine HdStep.cons (by decide) rfl (fun inv => ?_) ?_
        · refine Lst.run rfl rfl (by decide) (Ev.loadS (α := BitVec 16) rfl (Rd.own (i := 0) rfl rfl rfl) Try.isAgg23 (v := .int .u16 x40.toNat) ((Get.elemN (s := 1) (x := x40) rfl g55.2.2 (Get.here _)).off (by omega))) ?_
          refine Lst.nil ?_
          refine At.hd inv (fun w h => (h.weaken (FLe.refl _)).sublist (List.Sublist.cons _ (List.Sublist.refl _))) ?_
          refine HdJ.step [13] (by kernel_rfl) rfl ?_
          refine HdStep.cons (by decide) rfl (fun inv => ?_) ?_
          · refine Lst.run rfl rfl (by decide) (Ev.loadS (α := BitVec 16) rfl (Rd.own (i := 0) rfl rfl rfl) Try.isAgg23 (v := .int .u16 x37.toNat) ((Get.elemN (s := 1) (x := x37) rfl g52.2.2 (Get.here _)).off (by omega))) ?_
            refine Lst.nil ?_
            refine At.hd inv (fun w h => (h.weaken (FLe.refl _)).sublist (List.Sublist.cons _ (List.Sublist.refl _))) ?_
            refine HdJ.step [20] (by kernel_rfl) rfl ?_
            refine HdStep.cons (by decide) rfl (fun inv => ?_) ?_
            · have g57 := lat_some h44
              refine Lst.run rfl rfl (by decide) (Ev.indexS (α := BitVec 16) (xs := l4) rfl rfl Try.runUnderlying22 Try.sizeOf23 rfl (by decide) (Rd.own (i := 0) rfl rfl rfl) g57.1 g57.2.1) ?_
              refine Lst.nil ?_
              refine At.hd inv (fun w h => (h.weaken (FLe.refl _)).sublist (List.Sublist.cons _ (List.Sublist.refl _))) ?_
              refine HdJ.step [21] (by kernel_rfl) rfl ?_
              refine HdStep.cons (by decide) rfl (fun inv => ?_) ?_
              · refine Lst.storeS (i := 0) rfl rfl rfl rfl rfl Try.sizeOf23 (vs := [.int .u16 x37.toNat]) rfl rfl (by decide) rfl (xs' := encs p46) (by rw [← h47]; exact (Put.elemN (s := 1) (x := x43) rfl g57.2.2 (Put.here (vs := [.int .u16 x37.toNat]) rfl)).off (by omega)) (L' := (.own s_a0 23 1 (encs p46)) :: L) rfl ?_
                refine Lst.nil ?_
                refine At.hd inv (fun w h => (h.weaken (FLe.refl _)).sublist (List.Sublist.cons _ (List.Sublist.refl _))) ?_
                refine HdJ.done (by kernel_rfl) ?_
                exact At.meetN p46 (FLe.refl _) ⟨rfl, rfl, rfl, rfl, rfl, rfl, rfl, rfl, rfl, trivial⟩ rfl h51
              exact trivial
            exact trivial
          exact trivial
        exact trivial
      exact trivial
    refine HdStep.cons (by decide) rfl (fun inv => ?_) ?_
    · have g58 := lat_some h41
      refine Lst.run rfl rfl (by decide) (Ev.indexS (α := BitVec 16) (xs := l4) rfl rfl Try.runUnderlying22 Try.sizeOf23 rfl (by decide) (Rd.own (i := 0) rfl rfl rfl) g58.1 g58.2.1) ?_
      refine Lst.nil ?_
      refine At.hd inv (fun w h => (h.weaken (FLe.refl _)).sublist (List.Sublist.cons _ (List.Sublist.refl _))) ?_
      refine HdJ.step [12, 19] (by kernel_rfl) rfl ?_
      refine HdStep.cons (by decide) rfl (fun inv => ?_) ?_
      · have g59 := lat_some h38
        refine Lst.run rfl rfl (by decide) (Ev.indexS (α := BitVec 16) (xs := l4) rfl rfl Try.runUnderlying22 Try.sizeOf23 rfl (by decide) (Rd.own (i := 0) rfl rfl rfl) g59.1 g59.2.1) ?_
        refine Lst.nil ?_
        refine At.hd inv (fun w h => (h.weaken (FLe.refl _)).sublist (List.Sublist.cons _ (List.Sublist.refl _))) ?_
        refine HdJ.step [13, 19] (by kernel_rfl) rfl ?_
        refine HdStep.cons (by decide) rfl (fun inv => ?_) ?_
        · refine Lst.run rfl rfl (by decide) (Ev.loadS (α := BitVec 16) rfl (Rd.own (i := 0) rfl rfl rfl) Try.isAgg23 (v := .int .u16 x37.toNat) ((Get.elemN (s := 1) (x := x37) rfl g59.2.2 (Get.here _)).off (by omega))) ?_
          refine Lst.nil ?_
          refine At.hd inv (fun w h => (h.weaken (FLe.refl _)).sublist (List.Sublist.cons _ (List.Sublist.refl _))) ?_
          refine HdJ.step [19] (by kernel_rfl) rfl ?_
          refine HdStep.cons (by decide) rfl (fun inv => ?_) ?_
          · refine Lst.run rfl rfl (by decide) (Ev.loadS (α := BitVec 16) rfl (Rd.own (i := 0) rfl rfl rfl) Try.isAgg23 (v := .int .u16 x40.toNat) ((Get.elemN (s := 1) (x := x40) rfl g58.2.2 (Get.here _)).off (by omega))) ?_
            refine Lst.nil ?_
            refine At.hd inv (fun w h => (h.weaken (FLe.refl _)).sublist (List.Sublist.cons _ (List.Sublist.refl _))) ?_
            refine HdJ.step [20] (by kernel_rfl) rfl ?_
            refine HdStep.cons (by decide) rfl (fun inv => ?_) ?_
            · have g60 := lat_some h44
              refine Lst.run rfl rfl (by decide) (Ev.indexS (α := BitVec 16) (xs := l4) rfl rfl Try.runUnderlying22 Try.sizeOf23 rfl (by decide) (Rd.own (i := 0) rfl rfl rfl) g60.1 g60.2.1) ?_
              refine Lst.nil ?_
              refine At.hd inv (fun w h => (h.weaken (FLe.refl _)).sublist (List.Sublist.cons _ (List.Sublist.refl _))) ?_
              refine HdJ.step [21] (by kernel_rfl) rfl ?_
              refine HdStep.cons (by decide) rfl (fun inv => ?_) ?_
              · refine Lst.storeS (i := 0) rfl rfl rfl rfl rfl Try.sizeOf23 (vs := [.int .u16 x37.toNat]) rfl rfl (by decide) rfl (xs' := encs p46) (by rw [← h47]; exact (Put.elemN (s := 1) (x := x43) rfl g60.2.2 (Put.here (vs := [.int .u16 x37.toNat]) rfl)).off (by omega)) (L' := (.own s_a0 23 1 (encs p46)) :: L) rfl ?_
                refine Lst.nil ?_
                refine At.hd inv (fun w h => (h.weaken (FLe.refl _)).sublist (List.Sublist.cons _ (List.Sublist.refl _))) ?_
                refine HdJ.done (by kernel_rfl) ?_
                exact At.meetN p46 (FLe.refl _) ⟨rfl, rfl, rfl, rfl, rfl, rfl, rfl, rfl, rfl, trivial⟩ rfl h51
              exact trivial
            exact trivial
          exact trivial
        refine HdStep.cons (by decide) rfl (fun inv => ?_) ?_
        · refine Lst.run rfl rfl (by decide) (Ev.loadS (α := BitVec 16) rfl (Rd.own (i := 0) rfl rfl rfl) Try.isAgg23 (v := .int .u16 x40.toNat) ((Get.elemN (s := 1) (x := x40) rfl g58.2.2 (Get.here _)).off (by omega))) ?_
          refine Lst.nil ?_
          refine At.hd inv (fun w h => (h.weaken (FLe.refl _)).sublist (List.Sublist.cons _ (List.Sublist.refl _))) ?_
          refine HdJ.step [13] (by kernel_rfl) rfl ?_
          refine HdStep.cons (by decide) rfl (fun inv => ?_) ?_
          · refine Lst.run rfl rfl (by decide) (Ev.loadS (α := BitVec 16) rfl (Rd.own (i := 0) rfl rfl rfl) Try.isAgg23 (v := .int .u16 x37.toNat) ((Get.elemN (s := 1) (x := x37) rfl g59.2.2 (Get.here _)).off (by omega))) ?_
            refine Lst.nil ?_
            refine At.hd inv (fun w h => (h.weaken (FLe.refl _)).sublist (List.Sublist.cons _ (List.Sublist.refl _))) ?_
            refine HdJ.step [20] (by kernel_rfl) rfl ?_
            refine HdStep.cons (by decide) rfl (fun inv => ?_) ?_
            · have g61 := lat_some h44
              refine Lst.run rfl rfl (by decide) (Ev.indexS (α := BitVec 16) (xs := l4) rfl rfl Try.runUnderlying22 Try.sizeOf23 rfl (by decide) (Rd.own (i := 0) rfl rfl rfl) g61.1 g61.2.1) ?_
              refine Lst.nil ?_
              refine At.hd inv (fun w h => (h.weaken (FLe.refl _)).sublist (List.Sublist.cons _ (List.Sublist.refl _))) ?_
              refine HdJ.step [21] (by kernel_rfl) rfl ?_
              refine HdStep.cons (by decide) rfl (fun inv => ?_) ?_
              · refine Lst.storeS (i := 0) rfl rfl rfl rfl rfl Try.sizeOf23 (vs := [.int .u16 x37.toNat]) rfl rfl (by decide) rfl (xs' := encs p46) (by rw [← h47]; exact (Put.elemN (s := 1) (x := x43) rfl g61.2.2 (Put.here (vs := [.int .u16 x37.toNat]) rfl)).off (by omega)) (L' := (.own s_a0 23 1 (encs p46)) :: L) rfl ?_
                refine Lst.nil ?_
                refine At.hd inv (fun w h => (h.weaken (FLe.refl _)).sublist (List.Sublist.cons _ (List.Sublist.refl _))) ?_
                refine HdJ.done (by kernel_rfl) ?_
                exact At.meetN p46 (FLe.refl _) ⟨rfl, rfl, rfl, rfl, rfl, rfl, rfl, rfl, rfl, trivial⟩ rfl h51
              exact trivial
            exact trivial
          exact trivial
        exact trivial
      refine HdStep.cons (by decide) rfl (fun inv => ?_) ?_
      · refine Lst.run rfl rfl (by decide) (Ev.loadS (α := BitVec 16) rfl (Rd.own (i := 0) rfl rfl rfl) Try.isAgg23 (v := .int .u16 x40.toNat) ((Get.elemN (s := 1) (x := x40) rfl g58.2.2 (Get.here _)).off (by omega))) ?_
        refine Lst.nil ?_
        refine At.hd inv (fun w h => (h.weaken (FLe.refl _)).sublist (List.Sublist.cons _ (List.Sublist.refl _))) ?_
        refine HdJ.step [12] (by kernel_rfl) rfl ?_
        refine HdStep.cons (by decide) rfl (fun inv => ?_) ?_
        · have g62 := lat_some h38
          refine Lst.run rfl rfl (by decide) (Ev.indexS (α := BitVec 16) (xs := l4) rfl rfl Try.runUnderlying22 Try.sizeOf23 rfl (by decide) (Rd.own (i := 0) rfl rfl rfl) g62.1 g62.2.1) ?_
          refine Lst.nil ?_
          refine At.hd inv (fun w h => (h.weaken (FLe.refl _)).sublist (List.Sublist.cons _ (List.Sublist.refl _))) ?_
          refine HdJ.step [13] (by kernel_rfl) rfl ?_
          refine HdStep.cons (by decide) rfl (fun inv => ?_) ?_
          · refine Lst.run rfl rfl (by decide) (Ev.loadS (α := BitVec 16) rfl (Rd.own (i := 0) rfl rfl rfl) Try.isAgg23 (v := .int .u16 x37.toNat) ((Get.elemN (s := 1) (x := x37) rfl g62.2.2 (Get.here _)).off (by omega))) ?_
            refine Lst.nil ?_
            refine At.hd inv (fun w h => (h.weaken (FLe.refl _)).sublist (List.Sublist.cons _ (List.Sublist.refl _))) ?_
            refine HdJ.step [20] (by kernel_rfl) rfl ?_
            refine HdStep.cons (by decide) rfl (fun inv => ?_) ?_
            · have g63 := lat_some h44
              refine Lst.run rfl rfl (by decide) (Ev.indexS (α := BitVec 16) (xs := l4) rfl rfl Try.runUnderlying22 Try.sizeOf23 rfl (by decide) (Rd.own (i := 0) rfl rfl rfl) g63.1 g63.2.1) ?_
              refine Lst.nil ?_
              refine At.hd inv (fun w h => (h.weaken (FLe.refl _)).sublist (List.Sublist.cons _ (List.Sublist.refl _))) ?_
              refine HdJ.step [21] (by kernel_rfl) rfl ?_
              refine HdStep.cons (by decide) rfl (fun inv => ?_) ?_
              · refine Lst.storeS (i := 0) rfl rfl rfl rfl rfl Try.sizeOf23 (vs := [.int .u16 x37.toNat]) rfl rfl (by decide) rfl (xs' := encs p46) (by rw [← h47]; exact (Put.elemN (s := 1) (x := x43) rfl g63.2.2 (Put.here (vs := [.int .u16 x37.toNat]) rfl)).off (by omega)) (L' := (.own s_a0 23 1 (encs p46)) :: L) rfl ?_
                refine Lst.nil ?_
                refine At.hd inv (fun w h => (h.weaken (FLe.refl _)).sublist (List.Sublist.cons _ (List.Sublist.refl _))) ?_
                refine HdJ.done (by kernel_rfl) ?_
                exact At.meetN p46 (FLe.refl _) ⟨rfl, rfl, rfl, rfl, rfl, rfl, rfl, rfl, rfl, trivial⟩ rfl h51
              exact trivial
            exact trivial
          exact trivial
        exact trivial
      exact trivial
    exact trivial
  rintro F64 l49 hF65 hy
  subst hy
  refine Lst.as (e' := [(0, Sl.v s_a0), (2, .int .i64 a2), (3, .int .i64 a3), (4, .func (.func 53) #[] #[]), (10, .int .i64 y3), (11, .int .i64 y8), (63, Sl.v s_a0), (66, .int .i64 (w64 (a3 + y8))), (78, .int .u16 x40.toNat)]) (L' := (.own s_a0 23 1 (encs l49)) :: L) ⟨rfl, rfl, rfl, rfl, rfl, rfl, rfl, rfl, rfl, trivial⟩ rfl ?_
  obtain ⟨x66, h67, H⟩ := bind_some H
  have g68 := lat_some h67
  refine Lst.run rfl rfl (by decide) (Ev.indexS (α := BitVec 16) (xs := l49) rfl rfl Try.runUnderlying22 Try.sizeOf23 rfl (by decide) (Rd.own (i := 0) rfl rfl rfl) g68.1 g68.2.1) ?_
  obtain ⟨p69, h70, H⟩ := Let_some H
  refine Lst.storeS (i := 0) rfl rfl rfl rfl rfl Try.sizeOf23 (vs := [.int .u16 x40.toNat]) rfl rfl (by decide) rfl (xs' := encs p69) (by rw [← h70]; exact (Put.elemN (s := 1) (x := x66) rfl g68.2.2 (Put.here (vs := [.int .u16 x40.toNat]) rfl)).off (by omega)) (L' := (.own s_a0 23 1 (encs p69)) :: L) rfl ?_
  refine Lst.nil ?_
  refine At.then ?_
  refine Cd.region ?_
  refine Lst.run rfl rfl (by decide) (Ev.move rfl) ?_
  refine Lst.run rfl rfl (by decide) (Ev.assign rfl) ?_
  refine Lst.nil ?_
  refine At.in_normal ?_
  exact At.meet (k2, y8, p69) (FLe.trans (FLe.trans hF6 hF25) hF65) ⟨rfl, rfl, rfl, rfl, rfl, trivial⟩ rfl ⟨hgo2 _ (some_inj H).symm, Nat.lt_succ_self _⟩
set_option maxRecDepth 20000 in
theorem slices_heapSortCmpFunc_uint16_quorum_compare_sim {fu : Nat} {a0 : List (BitVec 16)} {a1 : Int} {a2 : Int} {s_a0 : Sl} {r : (List (BitVec 16))} (H : slices_heapSortCmpFunc_uint16_quorum_compare fu a0 a1 a2 = some r) (w0 : World) (F : Frz) (M L : List Item) (hM : M.Sublist L) : Ok Try.prog w0 135 [Sl.v s_a0, .int .i64 a1, .int .i64 a2, .func (.func 53) #[] #[]] F ((.own s_a0 23 1 (encs a0)) :: L) (fun _ L' v => v = .tuple #[] ∧ L' = (.own s_a0 23 1 (encs r)) :: L) := by
  unfold slices_heapSortCmpFunc_uint16_quorum_compare at H
  refine Ok.enter (m := 4) (n := 60) Try.func135 rfl rfl rfl (by decide) ?_
  refine Cd.env (e' := [(0, Sl.v s_a0), (1, .int .i64 a1), (2, .int .i64 a2), (3, .func (.func 53) #[] #[])]) rfl ?_
  refine Cd.seq ?_
  refine Cd.region ?_
  refine Lst.run rfl rfl (by decide) (Ev.move rfl) ?_
  refine Lst.run rfl rfl (by decide) (Ev.assign rfl) ?_
  refine Lst.nil ?_
  refine At.then ?_
  refine Cd.seq ?_
  refine Cd.region ?_
  refine Lst.run rfl rfl (by decide) (Ev.assign rfl) ?_
  refine Lst.nil ?_
  refine At.then ?_
  refine Cd.seq ?_
  refine Cd.region ?_
  refine Lst.run rfl rfl (by decide) (Ev.move rfl) ?_
  refine Lst.run rfl rfl (by decide) (Ev.move rfl) ?_
  refine Lst.run rfl rfl (by decide) (Ev.sub rfl rfl) ?_
  refine Lst.run rfl rfl (by decide) (Ev.assign rfl) ?_
  refine Lst.nil ?_
  refine At.then ?_
  refine Cd.seq ?_
  refine Cd.seq ?_
  refine Cd.region ?_
  refine Lst.run rfl rfl (by decide) (Ev.move rfl) ?_
  refine Lst.run rfl rfl (by decide) (Ev.sub rfl rfl) ?_
  refine Lst.run rfl rfl (by decide) (Ev.quo (i := w64 ((w64 (a2 - a1)) - (1 : Int))) (j := (2 : Int)) rfl rfl (by decide)) ?_
  refine Lst.run rfl rfl (by decide) (Ev.assign rfl) ?_
  refine Lst.nil ?_
  refine At.then ?_
  refine Cd.block ?_
  obtain ⟨ol2, H, HKl2⟩ := andThen_some H
  refine Cd.loop (σ := Nat × Int × (List (BitVec 16))) (fun (k2, y3, l4) => [(0, Sl.v s_a0), (3, .func (.func 53) #[] #[]), (8, .int .i64 a1), (9, .int .i64 (0 : Int)), (10, .int .i64 (w64 (a2 - a1))), (11, .int .i64 y3)]) (fun (k2, y3, l4) => (.own s_a0 23 1 (encs l4)) :: L) (fun _ => (fun (k2, y3, l4) => whileM (slices_heapSortCmpFunc_uint16_quorum_compare_B0 fu a1 a2) k2 (y3, l4) = some ol2)) (fun (k2, y3, l4) => k2) (fu, w64 ((w64 ((w64 (a2 - a1)) - (1 : Int))).tdiv (2 : Int)), a0) ⟨rfl, rfl, rfl, rfl, rfl, rfl, trivial⟩ rfl H ?_
  rintro F5 ⟨k2, y3, l4⟩ hF6 H
  refine Cd.as (e' := [(0, Sl.v s_a0), (3, .func (.func 53) #[] #[]), (8, .int .i64 a1), (9, .int .i64 (0 : Int)), (10, .int .i64 (w64 (a2 - a1))), (11, .int .i64 y3)]) (L' := (.own s_a0 23 1 (encs l4)) :: L) ⟨rfl, rfl, rfl, rfl, rfl, rfl, trivial⟩ rfl ?_
  rcases k2 with _ | k2
  · cases H
  obtain ⟨c2, H, hgo2, hbrk2, hret2⟩ := whileM_go H
  unfold slices_heapSortCmpFunc_uint16_quorum_compare_B0 at H
  try dsimp only at H
  refine Cd.seq ?_
  refine Cd.seq ?_
  refine Cd.region ?_
  refine Lst.run rfl rfl (by decide) (Ev.move rfl) ?_
  refine Lst.run rfl rfl (by decide) (Ev.geq rfl rfl) ?_
  refine Lst.nil ?_
  refine At.then ?_
  rcases (Bool.eq_false_or_eq_true (decide (y3 ≥ (0 : Int)))).symm with hb7 | hb7
  · replace H := ite_f hb7 H
    refine Cd.condF rfl hb7 ?_
    refine Cd.exit ?_
    refine At.then_exit ?_
    refine At.then_exit ?_
    refine At.in_exit ?_
    have H := hbrk2 _ (some_inj H).symm
    subst H
    replace H := HKl2
    refine At.then ?_
    refine Cd.seq ?_
    refine Cd.region ?_
    refine Lst.run rfl rfl (by decide) (Ev.move rfl) ?_
    refine Lst.run rfl rfl (by decide) (Ev.sub rfl rfl) ?_
    refine Lst.run rfl rfl (by decide) (Ev.assign rfl) ?_
    refine Lst.nil ?_
    refine At.then ?_
    refine Cd.block ?_
    obtain ⟨ol8, H, HKl8⟩ := andThen_some H
    refine Cd.loop (σ := Nat × Int × (List (BitVec 16))) (fun (k8, y9, l10) => [(0, Sl.v s_a0), (3, .func (.func 53) #[] #[]), (8, .int .i64 a1), (9, .int .i64 (0 : Int)), (12, .int .i64 y9)]) (fun (k8, y9, l10) => (.own s_a0 23 1 (encs l10)) :: L) (fun _ => (fun (k8, y9, l10) => whileM (slices_heapSortCmpFunc_uint16_quorum_compare_B2 fu a1) k8 (y9, l10) = some ol8)) (fun (k8, y9, l10) => k8) (fu, w64 ((w64 (a2 - a1)) - (1 : Int)), l4) ⟨rfl, rfl, rfl, rfl, rfl, trivial⟩ rfl H ?_
    rintro F11 ⟨k8, y9, l10⟩ hF12 H
    refine Cd.as (e' := [(0, Sl.v s_a0), (3, .func (.func 53) #[] #[]), (8, .int .i64 a1), (9, .int .i64 (0 : Int)), (12, .int .i64 y9)]) (L' := (.own s_a0 23 1 (encs l10)) :: L) ⟨rfl, rfl, rfl, rfl, rfl, trivial⟩ rfl ?_
    rcases k8 with _ | k8
    · cases H
    obtain ⟨c8, H, hgo8, hbrk8, hret8⟩ := whileM_go H
    unfold slices_heapSortCmpFunc_uint16_quorum_compare_B2 at H
    try dsimp only at H
    refine Cd.seq ?_
    refine Cd.seq ?_
    refine Cd.region ?_
    refine Lst.run rfl rfl (by decide) (Ev.move rfl) ?_
    refine Lst.run rfl rfl (by decide) (Ev.geq rfl rfl) ?_
    refine Lst.nil ?_
    refine At.then ?_
    rcases (Bool.eq_false_or_eq_true (decide (y9 ≥ (0 : Int)))).symm with hb13 | hb13
    · replace H := ite_f hb13 H
      refine Cd.condF rfl hb13 ?_
      refine Cd.exit ?_
      refine At.then_exit ?_
      refine At.then_exit ?_
      refine At.in_exit ?_
      have H := hbrk8 _ (some_inj H).symm
      subst H
      replace H := HKl8
      obtain rfl := some_inj H
      exact At.ret0 (.inr rfl) rfl (FLe.trans hF6 hF12) (List.Sublist.cons_cons _ (List.Sublist.refl _)) ⟨rfl, rfl⟩
    replace H := ite_t hb13 H
    refine Cd.condT rfl hb13 ?_
    refine Cd.skip ?_
    refine At.then ?_
    refine Cd.seq ?_
    refine Cd.block ?_
    refine Cd.seq ?_
    obtain ⟨x14, h15, H⟩ := bind_some H
    obtain ⟨x17, h18, H⟩ := bind_some H
    obtain ⟨x20, h21, H⟩ := bind_some H
    obtain ⟨p23, h24, H⟩ := Let_some H
    obtain ⟨o27, h28, H⟩ := Let_some H
    refine Cd.headMeet (σ := (List (BitVec 16))) 18 (fun l26 => [(0, Sl.v s_a0), (3, .func (.func 53) #[] #[]), (8, .int .i64 a1), (9, .int .i64 (0 : Int)), (12, .int .i64 y9), (38, Sl.v s_a0), (41, .int .i64 (w64 (a1 + y9))), (51, .int .u16 x17.toNat)]) (fun l26 => (.own s_a0 23 1 (encs l26)) :: L) (fun _ l26 => l26 = o27) (by kernel_rfl) (by kernel_rfl) (behind_sink (by kernel_rfl) (by kernel_rfl) (by kernel_rfl)) (by kernel_rfl) (fun hsel hlt => ?_) ?_
    · refine HdJ.keep (fun w => St w0 F11 (L) w) (fun w h => trivial) ?_
      refine HdJ.takeK hsel hlt 0 (fun w h => h.sublist (List.Sublist.cons _ (List.Sublist.refl _))) rfl rfl (by decide) (by decide) (by kernel_rfl) (by kernel_rfl) rfl (Ev.move rfl) ?_
      refine HdJ.takeK hsel hlt 1 (fun w h => h.sublist (List.Sublist.cons _ (List.Sublist.refl _))) rfl rfl (by decide) (by decide) (by kernel_rfl) (by kernel_rfl) rfl (Ev.move rfl) ?_
      refine HdJ.takeK hsel hlt 2 (fun w h => h.sublist (List.Sublist.cons _ (List.Sublist.refl _))) rfl rfl (by decide) (by decide) (by kernel_rfl) (by kernel_rfl) rfl (Ev.move rfl) ?_
      refine HdJ.takeK hsel hlt 3 (fun w h => h.sublist (List.Sublist.cons _ (List.Sublist.refl _))) rfl rfl (by decide) (by decide) (by kernel_rfl) (by kernel_rfl) rfl (Ev.move rfl) ?_
      refine HdJ.takeK hsel hlt 4 (fun w h => h.sublist (List.Sublist.cons _ (List.Sublist.refl _))) rfl rfl (by decide) (by decide) (by kernel_rfl) (by kernel_rfl) rfl (Ev.move rfl) ?_
      refine HdJ.takeK hsel hlt 5 (fun w h => h.sublist (List.Sublist.cons _ (List.Sublist.refl _))) rfl rfl (by decide) (by decide) (by kernel_rfl) (by kernel_rfl) rfl (Ev.add rfl rfl) ?_
      refine HdJ.takeK hsel hlt 6 (fun w h => h.sublist (List.Sublist.cons _ (List.Sublist.refl _))) rfl rfl (by decide) (by decide) (by kernel_rfl) (by kernel_rfl) rfl (Ev.move rfl) ?_
      refine HdJ.takeK hsel hlt 7 (fun w h => h.sublist (List.Sublist.cons _ (List.Sublist.refl _))) rfl rfl (by decide) (by decide) (by kernel_rfl) (by kernel_rfl) rfl (Ev.move rfl) ?_
      refine HdJ.takeK hsel hlt 8 (fun w h => h.sublist (List.Sublist.cons _ (List.Sublist.refl _))) rfl rfl (by decide) (by decide) (by kernel_rfl) (by kernel_rfl) rfl (Ev.move rfl) ?_
      refine HdJ.takeK hsel hlt 9 (fun w h => h.sublist (List.Sublist.cons _ (List.Sublist.refl _))) rfl rfl (by decide) (by decide) (by kernel_rfl) (by kernel_rfl) rfl (Ev.add rfl rfl) ?_
      refine HdJ.takeK hsel hlt 12 (fun w h => h.sublist (List.Sublist.cons _ (List.Sublist.refl _))) rfl rfl (by decide) (by decide) (by kernel_rfl) (by kernel_rfl) rfl (Ev.move rfl) ?_
      refine HdJ.takeK hsel hlt 13 (fun w h => h.sublist (List.Sublist.cons _ (List.Sublist.refl _))) rfl rfl (by decide) (by decide) (by kernel_rfl) (by kernel_rfl) rfl (Ev.move rfl) ?_
      refine HdJ.step [10, 14] (by kernel_rfl) rfl ?_
      refine HdStep.cons (by decide) rfl (fun inv => ?_) ?_
      · have g29 := lat_some h15
        refine Lst.run rfl rfl (by decide) (Ev.indexS (α := BitVec 16) (xs := l10) rfl rfl Try.runUnderlying22 Try.sizeOf23 rfl (by decide) (Rd.own (i := 0) rfl rfl rfl) g29.1 g29.2.1) ?_
        refine Lst.nil ?_
        refine At.hd inv (fun w h => (h.weaken (FLe.refl _)).sublist (List.Sublist.cons _ (List.Sublist.refl _))) ?_
        refine HdJ.step [11, 14] (by kernel_rfl) rfl ?_
        refine HdStep.cons (by decide) rfl (fun inv => ?_) ?_
        · refine Lst.run rfl rfl (by decide) (Ev.loadS (α := BitVec 16) rfl (Rd.own (i := 0) rfl rfl rfl) Try.isAgg23 (v := .int .u16 x14.toNat) ((Get.elemN (s := 1) (x := x14) rfl g29.2.2 (Get.here _)).off (by omega))) ?_
          refine Lst.nil ?_
          refine At.hd inv (fun w h => (h.weaken (FLe.refl _)).sublist (List.Sublist.cons _ (List.Sublist.refl _))) ?_
          refine HdJ.step [14] (by kernel_rfl) rfl ?_
          refine HdStep.cons (by decide) rfl (fun inv => ?_) ?_
          · have g30 := lat_some h18
            refine Lst.run rfl rfl (by decide) (Ev.indexS (α := BitVec 16) (xs := l10) rfl rfl Try.runUnderlying22 Try.sizeOf23 rfl (by decide) (Rd.own (i := 0) rfl rfl rfl) g30.1 g30.2.1) ?_
            refine Lst.nil ?_
            refine At.hd inv (fun w h => (h.weaken (FLe.refl _)).sublist (List.Sublist.cons _ (List.Sublist.refl _))) ?_
            refine HdJ.step [15] (by kernel_rfl) rfl ?_
            refine HdStep.cons (by decide) rfl (fun inv => ?_) ?_
            · refine Lst.run rfl rfl (by decide) (Ev.loadS (α := BitVec 16) rfl (Rd.own (i := 0) rfl rfl rfl) Try.isAgg23 (v := .int .u16 x17.toNat) ((Get.elemN (s := 1) (x := x17) rfl g30.2.2 (Get.here _)).off (by omega))) ?_
              refine Lst.nil ?_
              refine At.hd inv (fun w h => (h.weaken (FLe.refl _)).sublist (List.Sublist.cons _ (List.Sublist.refl _))) ?_
              refine HdJ.step [16] (by kernel_rfl) rfl ?_
              refine HdStep.cons (by decide) rfl (fun inv => ?_) ?_
              · have g31 := lat_some h21
                refine Lst.run rfl rfl (by decide) (Ev.indexS (α := BitVec 16) (xs := l10) rfl rfl Try.runUnderlying22 Try.sizeOf23 rfl (by decide) (Rd.own (i := 0) rfl rfl rfl) g31.1 g31.2.1) ?_
                refine Lst.nil ?_
                refine At.hd inv (fun w h => (h.weaken (FLe.refl _)).sublist (List.Sublist.cons _ (List.Sublist.refl _))) ?_
                refine HdJ.step [17] (by kernel_rfl) rfl ?_
                refine HdStep.cons (by decide) rfl (fun inv => ?_) ?_
                · refine Lst.storeS (i := 0) rfl rfl rfl rfl rfl Try.sizeOf23 (vs := [.int .u16 x14.toNat]) rfl rfl (by decide) rfl (xs' := encs p23) (by rw [← h24]; exact (Put.elemN (s := 1) (x := x20) rfl g31.2.2 (Put.here (vs := [.int .u16 x14.toNat]) rfl)).off (by omega)) (L' := (.own s_a0 23 1 (encs p23)) :: L) rfl ?_
                  refine Lst.nil ?_
                  refine At.hd inv (fun w h => (h.weaken (FLe.refl _)).sublist (List.Sublist.cons _ (List.Sublist.refl _))) ?_
                  refine HdJ.done (by kernel_rfl) ?_
                  exact At.meetN p23 (FLe.refl _) ⟨rfl, rfl, rfl, rfl, rfl, rfl, rfl, rfl, trivial⟩ rfl h28
                exact trivial
              exact trivial
            exact trivial
          exact trivial
        refine HdStep.cons (by decide) rfl (fun inv => ?_) ?_
        · have g32 := lat_some h18
          refine Lst.run rfl rfl (by decide) (Ev.indexS (α := BitVec 16) (xs := l10) rfl rfl Try.runUnderlying22 Try.sizeOf23 rfl (by decide) (Rd.own (i := 0) rfl rfl rfl) g32.1 g32.2.1) ?_
          refine Lst.nil ?_
          refine At.hd inv (fun w h => (h.weaken (FLe.refl _)).sublist (List.Sublist.cons _ (List.Sublist.refl _))) ?_
          refine HdJ.step [11, 15] (by kernel_rfl) rfl ?_
          refine HdStep.cons (by decide) rfl (fun inv => ?_) ?_
          · refine Lst.run rfl rfl (by decide) (Ev.loadS (α := BitVec 16) rfl (Rd.own (i := 0) rfl rfl rfl) Try.isAgg23 (v := .int .u16 x14.toNat) ((Get.elemN (s := 1) (x := x14) rfl g29.2.2 (Get.here _)).off (by omega))) ?_
            refine Lst.nil ?_
            refine At.hd inv (fun w h => (h.weaken (FLe.refl _)).sublist (List.Sublist.cons _ (List.Sublist.refl _))) ?_
            refine HdJ.step [15] (by kernel_rfl) rfl ?_
            refine HdStep.cons (by decide) rfl (fun inv => ?_) ?_
            · refine Lst.run rfl rfl (by decide) (Ev.loadS (α := BitVec 16) rfl (Rd.own (i := 0) rfl rfl rfl) Try.isAgg23 (v := .int .u16 x17.toNat) ((Get.elemN (s := 1) (x := x17) rfl g32.2.2 (Get.here _)).off (by omega))) ?_
              refine Lst.nil ?_
              refine At.hd inv (fun w h => (h.weaken (FLe.refl _)).sublist (List.Sublist.cons _ (List.Sublist.refl _))) ?_
              refine HdJ.step [16] (by kernel_rfl) rfl ?_
              refine HdStep.cons (by decide) rfl (fun inv => ?_) ?_
              · have g33 := lat_some h21
                refine Lst.run rfl rfl (by decide) (Ev.indexS (α := BitVec 16) (xs := l10) rfl rfl Try.runUnderlying22 Try.sizeOf23 rfl (by decide) (Rd.own (i := 0) rfl rfl rfl) g33.1 g33.2.1) ?_
                refine Lst.nil ?_
                refine At.hd inv (fun w h => (h.weaken (FLe.refl _)).sublist (List.Sublist.cons _ (List.Sublist.refl _))) ?_
                refine HdJ.step [17] (by kernel_rfl) rfl ?_
                refine HdStep.cons (by decide) rfl (fun inv => ?_) ?_
                · refine Lst.storeS (i := 0) rfl rfl rfl rfl rfl Try.sizeOf23 (vs := [.int .u16 x14.toNat]) rfl rfl (by decide) rfl (xs' := encs p23) (by rw [← h24]; exact (Put.elemN (s := 1) (x := x20) rfl g33.2.2 (Put.here (vs := [.int .u16 x14.toNat]) rfl)).off (by omega)) (L' := (.own s_a0 23 1 (encs p23)) :: L) rfl ?_
                  refine Lst.nil ?_
                  refine At.hd inv (fun w h => (h.weaken (FLe.refl _)).sublist (List.Sublist.cons _ (List.Sublist.refl _))) ?_
                  refine HdJ.done (by kernel_rfl) ?_
                  exact At.meetN p23 (FLe.refl _) ⟨rfl, rfl, rfl, rfl, rfl, rfl, rfl, rfl, trivial⟩ rfl h28
                exact trivial
              exact trivial
            exact trivial
          refine HdStep.cons (by decide) rfl (fun inv => ?_) ?_
          · refine Lst.run rfl rfl (by decide) (Ev.loadS (α := BitVec 16) rfl (Rd.own (i := 0) rfl rfl rfl) Try.isAgg23 (v := .int .u16 x17.toNat) ((Get.elemN (s := 1) (x := x17) rfl g32.2.2 (Get.here _)).off (by omega))) ?_
            refine Lst.nil ?_
            refine At.hd inv (fun w h => (h.weaken (FLe.refl _)).sublist (List.Sublist.cons _ (List.Sublist.refl _))) ?_
            refine HdJ.step [11] (by kernel_rfl) rfl ?_
            refine HdStep.cons (by decide) rfl (fun inv => ?_) ?_
            · refine Lst.run rfl rfl (by decide) (Ev.loadS (α := BitVec 16) rfl (Rd.own (i := 0) rfl rfl rfl) Try.isAgg23 (v := .int .u16 x14.toNat) ((Get.elemN (s := 1) (x := x14) rfl g29.2.2 (Get.here _)).off (by omega))) ?_
              refine Lst.nil ?_
              refine At.hd inv (fun w h => (h.weaken (FLe.refl _)).sublist (List.Sublist.cons _ (List.Sublist.refl _))) ?_
              refine HdJ.step [16] (by kernel_rfl) rfl ?_
              refine HdStep.cons (by decide) rfl (fun inv => ?_) ?_
              · have g34 := lat_some h21
                refine Lst.run rfl rfl (by decide) (Ev.indexS (α := BitVec 16) (xs := l10) rfl rfl Try.runUnderlying22 Try.sizeOf23 rfl (by decide) (Rd.own (i := 0) rfl rfl rfl) g34.1 g34.2.1) ?_
                refine Lst.nil ?_
                refine At.hd inv (fun w h => (h.weaken (FLe.refl _)).sublist (List.Sublist.cons _ (List.Sublist.refl _))) ?_
                refine HdJ.step [17] (by kernel_rfl) rfl ?_
                refine HdStep.cons (by decide) rfl (fun inv => ?_) ?_
                · refine Lst.storeS (i := 0) rfl rfl rfl rfl rfl Try.sizeOf23 (vs := [.int .u16 x14.toNat]) rfl rfl (by decide) rfl (xs' := encs p23) (by rw [← h24]; exact (Put.elemN (s := 1) (x := x20) rfl g34.2.2 (Put.here (vs := [.int .u16 x14.toNat]) rfl)).off (by omega)) (L' := (.own s_a0 23 1 (encs p23)) :: L) rfl ?_
                  refine Lst.nil ?_
                  refine At.hd inv (fun w h => (h.weaken (FLe.refl _)).sublist (List.Sublist.cons _ (List.Sublist.refl _))) ?_
                  refine HdJ.done (by kernel_rfl) ?_
                  exact At.meetN p23 (FLe.refl _) ⟨rfl, rfl, rfl, rfl, rfl, rfl, rfl, rfl, trivial⟩ rfl h28
                exact trivial
              exact trivial
            exact trivial
          exact trivial
        exact trivial
      refine HdStep.cons (by decide) rfl (fun inv => ?_) ?_
      · have g35 := lat_some h18
        refine Lst.run rfl rfl (by decide) (Ev.indexS (α := BitVec 16) (xs := l10) rfl rfl Try.runUnderlying22 Try.sizeOf23 rfl (by decide) (Rd.own (i := 0) rfl rfl rfl) g35.1 g35.2.1) ?_
        refine Lst.nil ?_
        refine At.hd inv (fun w h => (h.weaken (FLe.refl _)).sublist (List.Sublist.cons _ (List.Sublist.refl _))) ?_
        refine HdJ.step [10, 15] (by kernel_rfl) rfl ?_
        refine HdStep.cons (by decide) rfl (fun inv => ?_) ?_
        · have g36 := lat_some h15
          refine Lst.run rfl rfl (by decide) (Ev.indexS (α := BitVec 16) (xs := l10) rfl rfl Try.runUnderlying22 Try.sizeOf23 rfl (by decide) (Rd.own (i := 0) rfl rfl rfl) g36.1 g36.2.1) ?_
          refine Lst.nil ?_
          refine At.hd inv (fun w h => (h.weaken (FLe.refl _)).sublist (List.Sublist.cons _ (List.Sublist.refl _))) ?_
          refine HdJ.step [11, 15] (by kernel_rfl) rfl ?_
          refine HdStep.cons (by decide) rfl (fun inv => ?_) ?_
          · refine Lst.run rfl rfl (by decide) (Ev.loadS (α := BitVec 16) rfl (Rd.own (i := 0) rfl rfl rfl) Try.isAgg23 (v := .int .u16 x14.toNat) ((Get.elemN (s := 1) (x := x14) rfl g36.2.2 (Get.here _)).off (by omega))) ?_
            refine Lst.nil ?_
            refine At.hd inv (fun w h => (h.weaken (FLe.refl _)).sublist (List.Sublist.cons _ (List.Sublist.refl _))) ?_
            refine HdJ.step [15] (by kernel_rfl) rfl ?_
            refine HdStep.cons (by decide) rfl (fun inv => ?_) ?_
            · refine Lst.run rfl rfl (by decide) (Ev.loadS (α := BitVec 16) rfl (Rd.own (i := 0) rfl rfl rfl) Try.isAgg23 (v := .int .u16 x17.toNat) ((Get.elemN (s := 1) (x := x17) rfl g35.2.2 (Get.here _)).off (by omega))) ?_
              refine Lst.nil ?_
              refine At.hd inv (fun w h => (h.weaken (FLe.refl _)).sublist (List.Sublist.cons _ (List.Sublist.refl _))) ?_
              refine HdJ.step [16] (by kernel_rfl) rfl ?_
              refine HdStep.cons (by decide) rfl (fun inv => ?_) ?_
              · have g37 := lat_some h21
                refine Lst.run rfl rfl (by decide) (Ev.indexS (α := BitVec 16) (xs := l10) rfl rfl Try.runUnderlying22 Try.sizeOf23 rfl (by decide) (Rd.own (i := 0) rfl rfl rfl) g37.1 g37.2.1) ?_
                refine Lst.nil ?_
                refine At.hd inv (fun w h => (h.weaken (FLe.refl _)).sublist (List.Sublist.cons _ (List.Sublist.refl _))) ?_
                refine HdJ.step [17] (by kernel_rfl) rfl ?_
                refine HdStep.cons (by decide) rfl (fun inv => ?_) ?_
                · refine Lst.storeS (i := 0) rfl rfl rfl rfl rfl Try.sizeOf23 (vs := [.int .u16 x14.toNat]) rfl rfl (by decide) rfl (xs' := encs p23) (by rw [← h24]; exact (Put.elemN (s := 1) (x := x20) rfl g37.2.2 (Put.here (vs := [.int .u16 x14.toNat]) rfl)).off (by omega)) (L' := (.own s_a0 23 1 (encs p23)) :: L) rfl ?_
                  refine Lst.nil ?_
                  refine At.hd inv (fun w h => (h.weaken (FLe.refl _)).sublist (List.Sublist.cons _ (List.Sublist.refl _))) ?_
                  refine HdJ.done (by kernel_rfl) ?_
                  exact At.meetN p23 (FLe.refl _) ⟨rfl, rfl, rfl, rfl, rfl, rfl, rfl, rfl, trivial⟩ rfl h28
                exact trivial
              exact trivial
            exact trivial
          refine HdStep.cons (by decide) rfl (fun inv => ?_) ?_
          · refine Lst.run rfl rfl (by decide) (Ev.loadS (α := BitVec 16) rfl (Rd.own (i := 0) rfl rfl rfl) Try.isAgg23 (v := .int .u16 x17.toNat) ((Get.elemN (s := 1) (x := x17) rfl g35.2.2 (Get.here _)).off (by omega))) ?_
            refine Lst.nil ?_
            refine At.hd inv (fun w h => (h.weaken (FLe.refl _)).sublist (List.Sublist.cons _ (List.Sublist.refl _))) ?_
            refine HdJ.step [11] (by kernel_rfl) rfl ?_
            refine HdStep.cons (by decide) rfl (fun inv => ?_) ?_
            · refine Lst.run rfl rfl (by decide) (Ev.loadS (α := BitVec 16) rfl (Rd.own (i := 0) rfl rfl rfl) Try.isAgg23 (v := .int .u16 x14.toNat) ((Get.elemN (s := 1) (x := x14) rfl g36.2.2 (Get.here _)).off (by omega))) ?_
              refine Lst.nil ?_
              refine At.hd inv (fun w h => (h.weaken (FLe.refl _)).sublist (List.Sublist.cons _ (List.Sublist.refl _))) ?_
              refine HdJ.step [16] (by kernel_rfl) rfl ?_
              refine HdStep.cons (by decide) rfl (fun inv => ?_) ?_
              · have g38 := lat_some h21
                refine Lst.run rfl rfl (by decide) (Ev.indexS (α := BitVec 16) (xs := l10) rfl rfl Try.runUnderlying22 Try.sizeOf23 rfl (by decide) (Rd.own (i := 0) rfl rfl rfl) g38.1 g38.2.1) ?_
                refine Lst.nil ?_
                refine At.hd inv (fun w h => (h.weaken (FLe.refl _)).sublist (List.Sublist.cons _ (List.Sublist.refl _))) ?_
                refine HdJ.step [17] (by kernel_rfl) rfl ?_
                refine HdStep.cons (by decide) rfl (fun inv => ?_) ?_
                · refine Lst.storeS (i := 0) rfl rfl rfl rfl rfl Try.sizeOf23 (vs := [.int .u16 x14.toNat]) rfl rfl (by decide) rfl (xs' := encs p23) (by rw [← h24]; exact (Put.elemN (s := 1) (x := x20) rfl g38.2.2 (Put.here (vs := [.int .u16 x14.toNat]) rfl)).off (by omega)) (L' := (.own s_a0 23 1 (encs p23)) :: L) rfl ?_
                  refine Lst.nil ?_
                  refine At.hd inv (fun w h => (h.weaken (FLe.refl _)).sublist (List.Sublist.cons _ (List.Sublist.refl _))) ?_
                  refine HdJ.done (by kernel_rfl) ?_
                  exact At.meetN p23 (FLe.refl _) ⟨rfl, rfl, rfl, rfl, rfl, rfl, rfl, rfl, trivial⟩ rfl h28
                exact trivial
              exact trivial
            exact trivial
          exact trivial
        refine HdStep.cons (by decide) rfl (fun inv => ?_) ?_
        · refine Lst.run rfl rfl (by decide) (Ev.loadS (α := BitVec 16) rfl (Rd.own (i := 0) rfl rfl rfl) Try.isAgg23 (v := .int .u16 x17.toNat) ((Get.elemN (s := 1) (x := x17) rfl g35.2.2 (Get.here _)).off (by omega))) ?_
          refine Lst.nil ?_
          refine At.hd inv (fun w h => (h.weaken (FLe.refl _)).sublist (List.Sublist.cons _ (List.Sublist.refl _))) ?_
          refine HdJ.step [10] (by kernel_rfl) rfl ?_
          refine HdStep.cons (by decide) rfl (fun inv => ?_) ?_
          · have g39 := lat_some h15
            refine Lst.run rfl rfl (by decide) (Ev.indexS (α := BitVec 16) (xs := l10) rfl rfl Try.runUnderlying22 Try.sizeOf23 rfl (by decide) (Rd.own (i := 0) rfl rfl rfl) g39.1 g39.2.1) ?_
            refine Lst.nil ?_
            refine At.hd inv (fun w h => (h.weaken (FLe.refl _)).sublist (List.Sublist.cons _ (List.Sublist.refl _))) ?_
            refine HdJ.step [11] (by kernel_rfl) rfl ?_
            refine HdStep.cons (by decide) rfl (fun inv => ?_) ?_
            · refine Lst.run rfl rfl (by decide) (Ev.loadS (α := BitVec 16) rfl (Rd.own (i := 0) rfl rfl rfl) Try.isAgg23 (v := .int .u16 x14.toNat) ((Get.elemN (s := 1) (x := x14) rfl g39.2.2 (Get.here _)).off (by omega))) ?_
              refine Lst.nil ?_
              refine At.hd inv (fun w h => (h.weaken (FLe.refl _)).sublist (List.Sublist.cons _ (List.Sublist.refl _))) ?_
              refine HdJ.step [16] (by kernel_rfl) rfl ?_
              refine HdStep.cons (by decide) rfl (fun inv => ?_) ?_
              · have g40 := lat_some h21
                refine Lst.run rfl rfl (by decide) (Ev.indexS (α := BitVec 16) (xs := l10) rfl rfl Try.runUnderlying22 Try.sizeOf23 rfl (by decide) (Rd.own (i := 0) rfl rfl rfl) g40.1 g40.2.1) ?_
                refine Lst.nil ?_
                refine At.hd inv (fun w h => (h.weaken (FLe.refl _)).sublist (List.Sublist.cons _ (List.Sublist.refl _))) ?_
                refine HdJ.step [17] (by kernel_rfl) rfl ?_
                refine HdStep.cons (by decide) rfl (fun inv => ?_) ?_
                · refine Lst.storeS (i := 0) rfl rfl rfl rfl rfl Try.sizeOf23 (vs := [.int .u16 x14.toNat]) rfl rfl (by decide) rfl (xs' := encs p23) (by rw [← h24]; exact (Put.elemN (s := 1) (x := x20) rfl g40.2.2 (Put.here (vs := [.int .u16 x14.toNat]) rfl)).off (by omega)) (L' := (.own s_a0 23 1 (encs p23)) :: L) rfl ?_
                  refine Lst.nil ?_
                  refine At.hd inv (fun w h => (h.weaken (FLe.refl _)).sublist (List.Sublist.cons _ (List.Sublist.refl _))) ?_
                  refine HdJ.done (by kernel_rfl) ?_
                  exact At.meetN p23 (FLe.refl _) ⟨rfl, rfl, rfl, rfl, rfl, rfl, rfl, rfl, trivial⟩ rfl h28
                exact trivial
              exact trivial
            exact trivial
          exact trivial
        exact trivial
      exact trivial
    rintro F41 l26 hF42 hy
    subst hy
    refine Lst.as (e' := [(0, Sl.v s_a0), (3, .func (.func 53) #[] #[]), (8, .int .i64 a1), (9, .int .i64 (0 : Int)), (12, .int .i64 y9), (38, Sl.v s_a0), (41, .int .i64 (w64 (a1 + y9))), (51, .int .u16 x17.toNat)]) (L' := (.own s_a0 23 1 (encs l26)) :: L) ⟨rfl, rfl, rfl, rfl, rfl, rfl, rfl, rfl, trivial⟩ rfl ?_
    obtain ⟨x43, h44, H⟩ := bind_some H
    have g45 := lat_some h44
    refine Lst.run rfl rfl (by decide) (Ev.indexS (α := BitVec 16) (xs := l26) rfl rfl Try.runUnderlying22 Try.sizeOf23 rfl (by decide) (Rd.own (i := 0) rfl rfl rfl) g45.1 g45.2.1) ?_
    obtain ⟨p46, h47, H⟩ := Let_some H
    refine Lst.storeS (i := 0) rfl rfl rfl rfl rfl Try.sizeOf23 (vs := [.int .u16 x17.toNat]) rfl rfl (by decide) rfl (xs' := encs p46) (by rw [← h47]; exact (Put.elemN (s := 1) (x := x43) rfl g45.2.2 (Put.here (vs := [.int .u16 x17.toNat]) rfl)).off (by omega)) (L' := (.own s_a0 23 1 (encs p46)) :: L) rfl ?_
    refine Lst.nil ?_
    refine At.then ?_
    refine Cd.region ?_
    refine Lst.run rfl rfl (by decide) (Ev.move rfl) ?_
    refine Lst.run rfl rfl (by decide) (Ev.move rfl) ?_
    refine Lst.run rfl rfl (by decide) (Ev.move rfl) ?_
    refine Lst.run rfl rfl (by decide) (Ev.move rfl) ?_
    refine Lst.run rfl rfl (by decide) (Ev.move rfl) ?_
    obtain ⟨r48, h49, H⟩ := bind_some H
    refine Lst.call rfl rfl (by decide) (vs := [Sl.v s_a0, .int .i64 (0 : Int), .int .i64 y9, .int .i64 a1, .func (.func 53) #[] #[]]) ⟨rfl, rfl, rfl, rfl, rfl, trivial⟩ Try.call151 (slices_siftDownCmpFunc_uint16_quorum_compare_sim h49 w0 _ M _ hM) (fun F50 L' v hF51 hv => ?_)
    obtain ⟨rfl, rfl⟩ := hv
    refine Lst.nil ?_
    refine At.in_normal ?_
    refine At.then ?_
    refine Cd.region ?_
    refine Lst.run rfl rfl (by decide) (Ev.move rfl) ?_
    refine Lst.run rfl rfl (by decide) (Ev.sub rfl rfl) ?_
    refine Lst.run rfl rfl (by decide) (Ev.assign rfl) ?_
    refine Lst.nil ?_
    exact At.meet (k8, w64 (y9 - (1 : Int)), r48) (FLe.trans (FLe.trans hF12 hF42) hF51) ⟨rfl, rfl, rfl, rfl, rfl, trivial⟩ rfl ⟨hgo8 _ (some_inj H).symm, Nat.lt_succ_self _⟩
  replace H := ite_t hb7 H
  refine Cd.condT rfl hb7 ?_
  refine Cd.skip ?_
  refine At.then ?_
  refine Cd.seq ?_
  refine Cd.block ?_
  refine Cd.region ?_
  refine Lst.run rfl rfl (by decide) (Ev.move rfl) ?_
  refine Lst.run rfl rfl (by decide) (Ev.move rfl) ?_
  refine Lst.run rfl rfl (by decide) (Ev.move rfl) ?_
  refine Lst.run rfl rfl (by decide) (Ev.move rfl) ?_
  refine Lst.run rfl rfl (by decide) (Ev.move rfl) ?_
  obtain ⟨r52, h53, H⟩ := bind_some H
  refine Lst.call rfl rfl (by decide) (vs := [Sl.v s_a0, .int .i64 y3, .int .i64 (w64 (a2 - a1)), .int .i64 a1, .func (.func 53) #[] #[]]) ⟨rfl, rfl, rfl, rfl, rfl, trivial⟩ Try.call151 (slices_siftDownCmpFunc_uint16_quorum_compare_sim h53 w0 _ M _ hM) (fun F54 L' v hF55 hv => ?_)
  obtain ⟨rfl, rfl⟩ := hv
  refine Lst.nil ?_
  refine At.in_normal ?_
  refine At.then ?_
  refine Cd.region ?_
  refine Lst.run rfl rfl (by decide) (Ev.move rfl) ?_
  refine Lst.run rfl rfl (by decide) (Ev.sub rfl rfl) ?_
  refine Lst.run rfl rfl (by decide) (Ev.assign rfl) ?_
  refine Lst.nil ?_
  exact At.meet (k2, w64 (y3 - (1 : Int)), r52) (FLe.trans hF6 hF55) ⟨rfl, rfl, rfl, rfl, rfl, rfl, trivial⟩ rfl ⟨hgo2 _ (some_inj H).symm, Nat.lt_succ_self _⟩
set_option maxRecDepth 20000 in
theorem slices_nextPowerOfTwo_sim {a0 : Int} {r : (BitVec 64)} (H : slices_nextPowerOfTwo a0 = some r) (w0 : World) (F : Frz) (M L : List Item) (hM : M.Sublist L) : Ok Try.prog w0 143 [.int .i64 a0] F (L) (Is (.int .u64 r.toNat) (L)) := by
  unfold slices_nextPowerOfTwo at H
  refine Ok.enter (m := 1) (n := 7) Try.func143 rfl rfl rfl (by decide) ?_
  refine Cd.env (e' := [(0, .int .i64 a0)]) rfl ?_
  refine Cd.seq ?_
  refine Cd.region ?_
  refine Lst.run rfl rfl (by decide) (Ev.assign rfl) ?_
  refine Lst.nil ?_
  refine At.then ?_
  refine Cd.seq ?_
  refine Cd.region ?_
  refine Lst.run rfl rfl (by decide) (Ev.move rfl) ?_
  refine Lst.run rfl rfl (by decide) (Ev.convTo64 rfl Try.runUnderlying3 Try.runUnderlying131) ?_
  obtain ⟨r1, h2, H⟩ := bind_some H
  refine Lst.call1 rfl rfl (by decide) (vs := [.int .u64 (BitVec.ofInt 64 a0).toNat]) ⟨rfl, trivial⟩ Try.call106 (math_bits_Len_sim h2 w0 _ M _ hM) ?_
  obtain ⟨n5, h6, H⟩ := bind_some H
  refine Lst.run rfl rfl (by decide) (Ev.shlU64 (i := (1 : BitVec 64)) (m := n5) rfl (congrArg some (congrArg (Value.int .i64) (cnt_some h6)))) ?_
  refine Lst.run rfl rfl (by decide) (Ev.assign rfl) ?_
  refine Lst.nil ?_
  refine At.then ?_
  obtain rfl := some_inj H
  refine Cd.ret ?_
  exact At.ret1 rfl (Res.tmp rfl) (FLe.refl _) (List.Sublist.refl _) ⟨rfl, rfl⟩
set_option maxRecDepth 20000 in
theorem slices_xorshift_Next_sim {a0 : BitVec 64} {b_a0 : Nat} {r : (BitVec 64) × (BitVec 64)} (H : slices_xorshift_Next a0 = some r) (w0 : World) (F : Frz) (M L : List Item) (hM : M.Sublist L) : Ok Try.prog w0 144 [.pointer (some ⟨b_a0, 0, none⟩)] F ((.blk b_a0 (enc a0) 159) :: L) (fun _ L' v => v = .int .u64 r.2.toNat ∧ L' = (.blk b_a0 (enc r.1) 159) :: L) := by
  unfold slices_xorshift_Next at H
  refine Ok.enter (m := 1) (n := 33) Try.func144 rfl rfl rfl (by decide) ?_
  refine Cd.env (e' := [(0, .pointer (some ⟨b_a0, 0, none⟩))]) rfl ?_
  refine Cd.seq ?_
  refine Cd.region ?_
  refine Lst.run rfl rfl (by decide) (Ev.assign rfl) ?_
  refine Lst.nil ?_
  refine At.then ?_
  refine Cd.seq ?_
  refine Cd.tail 9 (by kernel_rfl) (by kernel_rfl) ?_
  refine Qt.run rfl rfl (by decide) (Ev.move rfl) ?_
  refine Qt.run rfl rfl (by decide) (Ev.nilCheck rfl) ?_
  refine Qt.run rfl rfl (by decide) (Ev.load (i := 0) rfl rfl Try.isAgg159 (v := .int .u64 a0.toNat) (Get.here _)) ?_
  refine Qt.run rfl rfl (by decide) (Ev.move rfl) ?_
  refine Qt.run rfl rfl (by decide) (Ev.nilCheck rfl) ?_
  refine Qt.run rfl rfl (by decide) (Ev.load (i := 0) rfl rfl Try.isAgg159 (v := .int .u64 a0.toNat) (Get.here _)) ?_
  refine Qt.run rfl rfl (by decide) (Ev.shlU64 (i := a0) (m := 13) rfl rfl) ?_
  refine Qt.run rfl rfl (by decide) (Ev.xorU64 (i := a0) (j := a0 <<< 13) rfl rfl) ?_
  refine Qt.run rfl rfl (by decide) (Ev.nilCheck rfl) ?_
  refine Qt.tail ?_
  refine Lst.store (i := 0) rfl rfl rfl rfl rfl Try.sizeOf159 (vs := [.int .u64 (a0 ^^^ (a0 <<< 13)).toNat]) rfl rfl rfl (cs' := enc (a0 ^^^ (a0 <<< 13))) (Put.here (vs := [.int .u64 (a0 ^^^ (a0 <<< 13)).toNat]) rfl) (L' := (.blk b_a0 (enc (a0 ^^^ (a0 <<< 13))) 159) :: L) rfl ?_
  refine Lst.nil ?_
  refine At.then ?_
  refine Cd.seq ?_
  refine Cd.tail 9 (by kernel_rfl) (by kernel_rfl) ?_
  refine Qt.run rfl rfl (by decide) (Ev.move rfl) ?_
  refine Qt.run rfl rfl (by decide) (Ev.nilCheck rfl) ?_
  refine Qt.run rfl rfl (by decide) (Ev.load (i := 0) rfl rfl Try.isAgg159 (v := .int .u64 (a0 ^^^ (a0 <<< 13)).toNat) (Get.here _)) ?_
  refine Qt.run rfl rfl (by decide) (Ev.move rfl) ?_
  refine Qt.run rfl rfl (by decide) (Ev.nilCheck rfl) ?_
  refine Qt.run rfl rfl (by decide) (Ev.load (i := 0) rfl rfl Try.isAgg159 (v := .int .u64 (a0 ^^^ (a0 <<< 13)).toNat) (Get.here _)) ?_
  refine Qt.run rfl rfl (by decide) (Ev.shrU64 (i := a0 ^^^ (a0 <<< 13)) (m := 7) rfl rfl) ?_
  refine Qt.run rfl rfl (by decide) (Ev.xorU64 (i := a0 ^^^ (a0 <<< 13)) (j := (a0 ^^^ (a0 <<< 13)) >>> 7) rfl rfl) ?_
  refine Qt.run rfl rfl (by decide) (Ev.nilCheck rfl) ?_
  refine Qt.tail ?_
  refine Lst.store (i := 0) rfl rfl rfl rfl rfl Try.sizeOf159 (vs := [.int .u64 ((a0 ^^^ (a0 <<< 13)) ^^^ ((a0 ^^^ (a0 <<< 13)) >>> 7)).toNat]) rfl rfl rfl (cs' := enc ((a0 ^^^ (a0 <<< 13)) ^^^ ((a0 ^^^ (a0 <<< 13)) >>> 7))) (Put.here (vs := [.int .u64 ((a0 ^^^ (a0 <<< 13)) ^^^ ((a0 ^^^ (a0 <<< 13)) >>> 7)).toNat]) rfl) (L' := (.blk b_a0 (enc ((a0 ^^^ (a0 <<< 13)) ^^^ ((a0 ^^^ (a0 <<< 13)) >>> 7))) 159) :: L) rfl ?_
  refine Lst.nil ?_
  refine At.then ?_
  refine Cd.seq ?_
  refine Cd.as (e' := [(0, .pointer (some ⟨b_a0, 0, none⟩))]) (L' := (.blk b_a0 (enc ((a0 ^^^ (a0 <<< 13)) ^^^ ((a0 ^^^ (a0 <<< 13)) >>> 7))) 159) :: L) ⟨rfl, trivial⟩ rfl ?_
  refine Cd.tail 9 (by kernel_rfl) (by kernel_rfl) ?_
  refine Qt.run rfl rfl (by decide) (Ev.move rfl) ?_
  refine Qt.run rfl rfl (by decide) (Ev.nilCheck rfl) ?_
  refine Qt.run rfl rfl (by decide) (Ev.load (i := 0) rfl rfl Try.isAgg159 (v := .int .u64 ((a0 ^^^ (a0 <<< 13)) ^^^ ((a0 ^^^ (a0 <<< 13)) >>> 7)).toNat) (Get.here _)) ?_
  refine Qt.run rfl rfl (by decide) (Ev.move rfl) ?_
  refine Qt.run rfl rfl (by decide) (Ev.nilCheck rfl) ?_
  refine Qt.run rfl rfl (by decide) (Ev.load (i := 0) rfl rfl Try.isAgg159 (v := .int .u64 ((a0 ^^^ (a0 <<< 13)) ^^^ ((a0 ^^^ (a0 <<< 13)) >>> 7)).toNat) (Get.here _)) ?_
  refine Qt.run rfl rfl (by decide) (Ev.shlU64 (i := (a0 ^^^ (a0 <<< 13)) ^^^ ((a0 ^^^ (a0 <<< 13)) >>> 7)) (m := 17) rfl rfl) ?_
  refine Qt.run rfl rfl (by decide) (Ev.xorU64 (i := (a0 ^^^ (a0 <<< 13)) ^^^ ((a0 ^^^ (a0 <<< 13)) >>> 7)) (j := ((a0 ^^^ (a0 <<< 13)) ^^^ ((a0 ^^^ (a0 <<< 13)) >>> 7)) <<< 17) rfl rfl) ?_
  refine Qt.run rfl rfl (by decide) (Ev.nilCheck rfl) ?_
  refine Qt.tail ?_
  refine Lst.store (i := 0) rfl rfl rfl rfl rfl Try.sizeOf159 (vs := [.int .u64 (((a0 ^^^ (a0 <<< 13)) ^^^ ((a0 ^^^ (a0 <<< 13)) >>> 7)) ^^^ (((a0 ^^^ (a0 <<< 13)) ^^^ ((a0 ^^^ (a0 <<< 13)) >>> 7)) <<< 17)).toNat]) rfl rfl rfl (cs' := enc (((a0 ^^^ (a0 <<< 13)) ^^^ ((a0 ^^^ (a0 <<< 13)) >>> 7)) ^^^ (((a0 ^^^ (a0 <<< 13)) ^^^ ((a0 ^^^ (a0 <<< 13)) >>> 7)) <<< 17))) (Put.here (vs := [.int .u64 (((a0 ^^^ (a0 <<< 13)) ^^^ ((a0 ^^^ (a0 <<< 13)) >>> 7)) ^^^ (((a0 ^^^ (a0 <<< 13)) ^^^ ((a0 ^^^ (a0 <<< 13)) >>> 7)) <<< 17)).toNat]) rfl) (L' := (.blk b_a0 (enc (((a0 ^^^ (a0 <<< 13)) ^^^ ((a0 ^^^ (a0 <<< 13)) >>> 7)) ^^^ (((a0 ^^^ (a0 <<< 13)) ^^^ ((a0 ^^^ (a0 <<< 13)) >>> 7)) <<< 17))) 159) :: L) rfl ?_
  refine Lst.nil ?_
  refine At.then ?_
  refine Cd.seq ?_
  refine Cd.region ?_
  refine Lst.run rfl rfl (by decide) (Ev.move rfl) ?_
  refine Lst.run rfl rfl (by decide) (Ev.nilCheck rfl) ?_
  refine Lst.run rfl rfl (by decide) (Ev.load (i := 0) rfl rfl Try.isAgg159 (v := .int .u64 (((a0 ^^^ (a0 <<< 13)) ^^^ ((a0 ^^^ (a0 <<< 13)) >>> 7)) ^^^ (((a0 ^^^ (a0 <<< 13)) ^^^ ((a0 ^^^ (a0 <<< 13)) >>> 7)) <<< 17)).toNat) (Get.here _)) ?_
  refine Lst.run rfl rfl (by decide) (Ev.assign rfl) ?_
  refine Lst.nil ?_
  refine At.then ?_
  obtain rfl := some_inj H
  refine Cd.ret ?_
  exact At.ret1 rfl (Res.tmp rfl) (FLe.refl _) (List.Sublist.cons_cons _ (List.Sublist.refl _)) ⟨rfl, rfl⟩
set_option maxRecDepth 20000 in
theorem slices_breakPatternsCmpFunc_uint16_quorum_compare_sim {fu : Nat} {a0 : List (BitVec 16)} {a1 : Int} {a2 : Int} {s_a0 : Sl} {r : (List (BitVec 16))} (H : slices_breakPatternsCmpFunc_uint16_quorum_compare fu a0 a1 a2 = some r) (w0 : World) (F : Frz) (M L : List Item) (hM : M.Sublist L) : Ok Try.prog w0 136 [Sl.v s_a0, .int .i64 a1, .int .i64 a2, .func (.func 53) #[] #[]] F ((.own s_a0 23 1 (encs a0)) :: L) (fun _ L' v => v = .tuple #[] ∧ L' = (.own s_a0 23 1 (encs r)) :: L) := by
  unfold slices_breakPatternsCmpFunc_uint16_quorum_compare at H
  refine Ok.enter (m := 4) (n := 67) Try.func136 rfl rfl rfl (by decide) ?_
  refine Cd.env (e' := [(0, Sl.v s_a0), (1, .int .i64 a1), (2, .int .i64 a2), (3, .func (.func 53) #[] #[])]) rfl ?_
  refine Cd.seq ?_
  refine Cd.region ?_
  refine Lst.run rfl rfl (by decide) (Ev.move rfl) ?_
  refine Lst.run rfl rfl (by decide) (Ev.move rfl) ?_
  refine Lst.run rfl rfl (by decide) (Ev.sub rfl rfl) ?_
  refine Lst.run rfl rfl (by decide) (Ev.assign rfl) ?_
  refine Lst.nil ?_
  refine At.then ?_
  refine Cd.seq ?_
  refine Cd.region ?_
  refine Lst.run rfl rfl (by decide) (Ev.move rfl) ?_
  refine Lst.run rfl rfl (by decide) (Ev.geq rfl rfl) ?_
  refine Lst.nil ?_
  refine At.then ?_
  rcases (Bool.eq_false_or_eq_true (decide ((w64 (a2 - a1)) ≥ (8 : Int)))).symm with hb2 | hb2
  · replace H := ite_f hb2 H
    refine Cd.condF rfl hb2 ?_
    refine Cd.skip ?_
    obtain rfl := some_inj H
    exact At.ret0 (.inr rfl) rfl (FLe.refl _) (List.Sublist.cons_cons _ (List.Sublist.refl _)) ⟨rfl, rfl⟩
  replace H := ite_t hb2 H
  refine Cd.condT rfl hb2 ?_
  refine Cd.seq ?_
  refine Cd.region ?_
  refine Lst.run rfl rfl (by decide) (Ev.move rfl) ?_
  refine Lst.run rfl rfl (by decide) (Ev.convTo64 rfl Try.runUnderlying3 Try.runUnderlying159) ?_
  refine Lst.alloc (cs := enc (0 : BitVec 64)) rfl rfl (by decide) Try.zeroValue159 rfl (fun b3 => ?_)
  refine Lst.store (i := 0) rfl rfl rfl rfl rfl Try.sizeOf159 (vs := [.int .u64 (BitVec.ofInt 64 (w64 (a2 - a1))).toNat]) rfl rfl rfl (cs' := enc (BitVec.ofInt 64 (w64 (a2 - a1)))) (Put.here (vs := [.int .u64 (BitVec.ofInt 64 (w64 (a2 - a1))).toNat]) rfl) (L' := (.blk b3 (enc (BitVec.ofInt 64 (w64 (a2 - a1)))) 159) :: (.own s_a0 23 1 (encs a0)) :: L) rfl ?_
  refine Lst.nil ?_
  refine At.then ?_
  refine Cd.seq ?_
  refine Cd.region ?_
  refine Lst.run rfl rfl (by decide) (Ev.move rfl) ?_
  obtain ⟨r5, h6, H⟩ := bind_some H
  refine Lst.call1 rfl rfl (by decide) (vs := [.int .i64 (w64 (a2 - a1))]) ⟨rfl, trivial⟩ Try.call143 (slices_nextPowerOfTwo_sim h6 w0 _ M _ (List.Sublist.cons _ (List.Sublist.cons _ hM))) ?_
  refine Lst.run rfl rfl (by decide) (Ev.assign rfl) ?_
  refine Lst.nil ?_
  refine At.then ?_
  refine Cd.seq ?_
  refine Cd.region ?_
  refine Lst.run rfl rfl (by decide) (Ev.move rfl) ?_
  refine Lst.run rfl rfl (by decide) (Ev.move rfl) ?_
  refine Lst.run rfl rfl (by decide) (Ev.quo (i := w64 (a2 - a1)) (j := (4 : Int)) rfl rfl (by decide)) ?_
  refine Lst.run rfl rfl (by decide) (Ev.mul rfl rfl) ?_
  refine Lst.run rfl rfl (by decide) (Ev.add rfl rfl) ?_
  refine Lst.run rfl rfl (by decide) (Ev.sub rfl rfl) ?_
  refine Lst.run rfl rfl (by decide) (Ev.assign rfl) ?_
  refine Lst.nil ?_
  refine At.then ?_
  refine Cd.block ?_
  obtain ⟨ol9, H, HKl9⟩ := andThen_some H
  refine Cd.loop (σ := Nat × Int × (BitVec 64) × (List (BitVec 16))) (fun (k9, y10, y11, l12) => [(0, Sl.v s_a0), (1, .int .i64 a1), (8, .int .i64 (w64 (a2 - a1))), (9, .pointer (some ⟨b3, 0, none⟩)), (10, .int .u64 r5.toNat), (11, .int .i64 y10)]) (fun (k9, y10, y11, l12) => (.blk b3 (enc y11) 159) :: (.own s_a0 23 1 (encs l12)) :: L) (fun _ => (fun (k9, y10, y11, l12) => whileM (slices_breakPatternsCmpFunc_uint16_quorum_compare_B0 a1 a2 r5) k9 (y10, y11, l12) = some ol9)) (fun (k9, y10, y11, l12) => k9) (fu, w64 ((w64 (a1 + (w64 ((w64 ((w64 (a2 - a1)).tdiv (4 : Int))) * (2 : Int))))) - (1 : Int)), BitVec.ofInt 64 (w64 (a2 - a1)), a0) ⟨rfl, rfl, rfl, rfl, rfl, rfl, trivial⟩ rfl H ?_
  rintro F13 ⟨k9, y10, y11, l12⟩ hF14 H
  refine Cd.as (e' := [(0, Sl.v s_a0), (1, .int .i64 a1), (8, .int .i64 (w64 (a2 - a1))), (9, .pointer (some ⟨b3, 0, none⟩)), (10, .int .u64 r5.toNat), (11, .int .i64 y10)]) (L' := (.blk b3 (enc y11) 159) :: (.own s_a0 23 1 (encs l12)) :: L) ⟨rfl, rfl, rfl, rfl, rfl, rfl, trivial⟩ rfl ?_
  rcases k9 with _ | k9
  · cases H
  obtain ⟨c9, H, hgo9, hbrk9, hret9⟩ := whileM_go H
  unfold slices_breakPatternsCmpFunc_uint16_quorum_compare_B0 at H
  try dsimp only at H
  refine Cd.seq ?_
  refine Cd.seq ?_
  refine Cd.region ?_
  refine Lst.run rfl rfl (by decide) (Ev.move rfl) ?_
  refine Lst.run rfl rfl (by decide) (Ev.move rfl) ?_
  refine Lst.run rfl rfl (by decide) (Ev.move rfl) ?_
  refine Lst.run rfl rfl (by decide) (Ev.quo (i := w64 (a2 - a1)) (j := (4 : Int)) rfl rfl (by decide)) ?_
  refine Lst.run rfl rfl (by decide) (Ev.mul rfl rfl) ?_
  refine Lst.run rfl rfl (by decide) (Ev.add rfl rfl) ?_
  refine Lst.run rfl rfl (by decide) (Ev.add rfl rfl) ?_
  refine Lst.run rfl rfl (by decide) (Ev.leq rfl rfl) ?_
  refine Lst.nil ?_
  refine At.then ?_
  rcases (Bool.eq_false_or_eq_true (decide (y10 ≤ (w64 ((w64 (a1 + (w64 ((w64 ((w64 (a2 - a1)).tdiv (4 : Int))) * (2 : Int))))) + (1 : Int)))))).symm with hb15 | hb15
  · replace H := ite_f hb15 H
    refine Cd.condF rfl hb15 ?_
    refine Cd.exit ?_
    refine At.then_exit ?_
    refine At.then_exit ?_
    refine At.in_exit ?_
    have H := hbrk9 _ (some_inj H).symm
    subst H
    replace H := HKl9
    obtain rfl := some_inj H
    exact At.ret0 (.inr rfl) rfl hF14 (List.Sublist.cons _ (List.Sublist.cons_cons _ (List.Sublist.refl _))) ⟨rfl, rfl⟩
  replace H := ite_t hb15 H
  refine Cd.condT rfl hb15 ?_
  refine Cd.skip ?_
  refine At.then ?_
  refine Cd.seq ?_
  refine Cd.block ?_
  refine Cd.seq ?_
  refine Cd.region ?_
  obtain ⟨r16, h17, H⟩ := bind_some H
  refine Lst.call rfl rfl (by decide) (vs := [.pointer (some ⟨b3, 0, none⟩)]) ⟨rfl, trivial⟩ Try.call144 (slices_xorshift_Next_sim h17 w0 _ M _ (List.Sublist.cons _ hM)) (fun F18 L' v hF19 hv => ?_)
  obtain ⟨rfl, rfl⟩ := hv
  refine Lst.run rfl rfl (by decide) (Ev.move rfl) ?_
  refine Lst.run rfl rfl (by decide) (Ev.subU64 (i := r5) (j := (1 : BitVec 64)) rfl rfl) ?_
  refine Lst.run rfl rfl (by decide) (Ev.andU64 (i := r16.2) (j := r5 - (1 : BitVec 64)) rfl rfl) ?_
  refine Lst.run rfl rfl (by decide) (Ev.conv64 rfl Try.runUnderlying131 Try.runUnderlying3) ?_
  refine Lst.run rfl rfl (by decide) (Ev.assign rfl) ?_
  refine Lst.nil ?_
  refine At.then ?_
  obtain ⟨o21, H, HKo21⟩ := bind_some H
  refine Cd.join (σ := Int) (fun y20 => [(0, Sl.v s_a0), (1, .int .i64 a1), (8, .int .i64 (w64 (a2 - a1))), (9, .pointer (some ⟨b3, 0, none⟩)), (10, .int .u64 r5.toNat), (11, .int .i64 y10), (12, .int .i64 y20)]) (fun y20 => (.blk b3 (enc r16.1) 159) :: (.own s_a0 23 1 (encs l12)) :: L) (fun _ y20 => y20 = o21) ?_ ?_
  · refine Cd.seq ?_
    refine Cd.region ?_
    refine Lst.run rfl rfl (by decide) (Ev.move rfl) ?_
    refine Lst.run rfl rfl (by decide) (Ev.move rfl) ?_
    refine Lst.run rfl rfl (by decide) (Ev.geq rfl rfl) ?_
    refine Lst.nil ?_
    refine At.then ?_
    rcases (Bool.eq_false_or_eq_true (decide ((w64 ((r16.2 &&& (r5 - (1 : BitVec 64))).toNat : Int)) ≥ (w64 (a2 - a1))))).symm with hb22 | hb22
    · replace H := ite_f hb22 H
      refine Cd.condF rfl hb22 ?_
      refine Cd.skip ?_
      exact At.meet (w64 ((r16.2 &&& (r5 - (1 : BitVec 64))).toNat : Int)) (FLe.refl _) ⟨rfl, rfl, rfl, rfl, rfl, rfl, rfl, trivial⟩ rfl (some_inj H)
    replace H := ite_t hb22 H
    refine Cd.condT rfl hb22 ?_
    refine Cd.as (e' := [(0, Sl.v s_a0), (1, .int .i64 a1), (8, .int .i64 (w64 (a2 - a1))), (9, .pointer (some ⟨b3, 0, none⟩)), (10, .int .u64 r5.toNat), (11, .int .i64 y10), (12, .int .i64 (w64 ((r16.2 &&& (r5 - (1 : BitVec 64))).toNat : Int)))]) (L' := (.blk b3 (enc r16.1) 159) :: (.own s_a0 23 1 (encs l12)) :: L) ⟨rfl, rfl, rfl, rfl, rfl, rfl, rfl, trivial⟩ rfl ?_
    refine Cd.region ?_
    refine Lst.run rfl rfl (by decide) (Ev.move rfl) ?_
    refine Lst.run rfl rfl (by decide) (Ev.move rfl) ?_
    refine Lst.run rfl rfl (by decide) (Ev.sub rfl rfl) ?_
    refine Lst.run rfl rfl (by decide) (Ev.assign rfl) ?_
    refine Lst.nil ?_
    exact At.meet (w64 ((w64 ((r16.2 &&& (r5 - (1 : BitVec 64))).toNat : Int)) - (w64 (a2 - a1)))) (FLe.refl _) ⟨rfl, rfl, rfl, rfl, rfl, rfl, rfl, trivial⟩ rfl (some_inj H)
  rintro F23 y20 hF24 hy
  subst hy
  refine Cd.as (e' := [(0, Sl.v s_a0), (1, .int .i64 a1), (8, .int .i64 (w64 (a2 - a1))), (9, .pointer (some ⟨b3, 0, none⟩)), (10, .int .u64 r5.toNat), (11, .int .i64 y10), (12, .int .i64 y20)]) (L' := (.blk b3 (enc r16.1) 159) :: (.own s_a0 23 1 (encs l12)) :: L) ⟨rfl, rfl, rfl, rfl, rfl, rfl, rfl, trivial⟩ rfl ?_
  replace H := HKo21
  obtain ⟨x25, h26, H⟩ := bind_some H
  obtain ⟨x28, h29, H⟩ := bind_some H
  obtain ⟨x31, h32, H⟩ := bind_some H
  obtain ⟨p34, h35, H⟩ := Let_some H
  obtain ⟨o38, h39, H⟩ := Let_some H
  refine Cd.headMeet (σ := (List (BitVec 16))) 18 (fun l37 => [(0, Sl.v s_a0), (1, .int .i64 a1), (8, .int .i64 (w64 (a2 - a1))), (9, .pointer (some ⟨b3, 0, none⟩)), (10, .int .u64 r5.toNat), (11, .int .i64 y10), (51, Sl.v s_a0), (54, .int .i64 (w64 (a1 + y20))), (64, .int .u16 x28.toNat)]) (fun l37 => (.blk b3 (enc r16.1) 159) :: (.own s_a0 23 1 (encs l37)) :: L) (fun _ l37 => l37 = o38) (by kernel_rfl) (by kernel_rfl) (behind_sink (by kernel_rfl) (by kernel_rfl) (by kernel_rfl)) (by kernel_rfl) (fun hsel hlt => ?_) ?_
  · refine HdJ.keep (fun w => St w0 F23 ((.blk b3 (enc r16.1) 159) :: L) w) (fun w h => trivial) ?_
    refine HdJ.takeK hsel hlt 0 (fun w h => h.sublist (List.Sublist.cons_cons _ (List.Sublist.cons _ (List.Sublist.refl _)))) rfl rfl (by decide) (by decide) (by kernel_rfl) (by kernel_rfl) rfl (Ev.move rfl) ?_
    refine HdJ.takeK hsel hlt 1 (fun w h => h.sublist (List.Sublist.cons_cons _ (List.Sublist.cons _ (List.Sublist.refl _)))) rfl rfl (by decide) (by decide) (by kernel_rfl) (by kernel_rfl) rfl (Ev.move rfl) ?_
    refine HdJ.takeK hsel hlt 2 (fun w h => h.sublist (List.Sublist.cons_cons _ (List.Sublist.cons _ (List.Sublist.refl _)))) rfl rfl (by decide) (by decide) (by kernel_rfl) (by kernel_rfl) rfl (Ev.move rfl) ?_
    refine HdJ.takeK hsel hlt 3 (fun w h => h.sublist (List.Sublist.cons_cons _ (List.Sublist.cons _ (List.Sublist.refl _)))) rfl rfl (by decide) (by decide) (by kernel_rfl) (by kernel_rfl) rfl (Ev.move rfl) ?_
    refine HdJ.takeK hsel hlt 4 (fun w h => h.sublist (List.Sublist.cons_cons _ (List.Sublist.cons _ (List.Sublist.refl _)))) rfl rfl (by decide) (by decide) (by kernel_rfl) (by kernel_rfl) rfl (Ev.move rfl) ?_
    refine HdJ.takeK hsel hlt 5 (fun w h => h.sublist (List.Sublist.cons_cons _ (List.Sublist.cons _ (List.Sublist.refl _)))) rfl rfl (by decide) (by decide) (by kernel_rfl) (by kernel_rfl) rfl (Ev.add rfl rfl) ?_
    refine HdJ.takeK hsel hlt 6 (fun w h => h.sublist (List.Sublist.cons_cons _ (List.Sublist.cons _ (List.Sublist.refl _)))) rfl rfl (by decide) (by decide) (by kernel_rfl) (by kernel_rfl) rfl (Ev.move rfl) ?_
    refine HdJ.takeK hsel hlt 7 (fun w h => h.sublist (List.Sublist.cons_cons _ (List.Sublist.cons _ (List.Sublist.refl _)))) rfl rfl (by decide) (by decide) (by kernel_rfl) (by kernel_rfl) rfl (Ev.move rfl) ?_
    refine HdJ.takeK hsel hlt 8 (fun w h => h.sublist (List.Sublist.cons_cons _ (List.Sublist.cons _ (List.Sublist.refl _)))) rfl rfl (by decide) (by decide) (by kernel_rfl) (by kernel_rfl) rfl (Ev.move rfl) ?_
    refine HdJ.takeK hsel hlt 9 (fun w h => h.sublist (List.Sublist.cons_cons _ (List.Sublist.cons _ (List.Sublist.refl _)))) rfl rfl (by decide) (by decide) (by kernel_rfl) (by kernel_rfl) rfl (Ev.add rfl rfl) ?_
    refine HdJ.takeK hsel hlt 12 (fun w h => h.sublist (List.Sublist.cons_cons _ (List.Sublist.cons _ (List.Sublist.refl _)))) rfl rfl (by decide) (by decide) (by kernel_rfl) (by kernel_rfl) rfl (Ev.move rfl) ?_
    refine HdJ.takeK hsel hlt 13 (fun w h => h.sublist (List.Sublist.cons_cons _ (List.Sublist.cons _ (List.Sublist.refl _)))) rfl rfl (by decide) (by decide) (by kernel_rfl) (by kernel_rfl) rfl (Ev.move rfl) ?_
    refine HdJ.step [10, 14] (by kernel_rfl) rfl ?_
    refine HdStep.cons (by decide) rfl (fun inv => ?_) ?_
    · have g40 := lat_some h26
      refine Lst.run rfl rfl (by decide) (Ev.indexS (α := BitVec 16) (xs := l12) rfl rfl Try.runUnderlying22 Try.sizeOf23 rfl (by decide) (Rd.own (i := 1) rfl rfl rfl) g40.1 g40.2.1) ?_
      refine Lst.nil ?_
      refine At.hd inv (fun w h => (h.weaken (FLe.refl _)).sublist (List.Sublist.cons_cons _ (List.Sublist.cons _ (List.Sublist.refl _)))) ?_
      refine HdJ.step [11, 14] (by kernel_rfl) rfl ?_
      refine HdStep.cons (by decide) rfl (fun inv => ?_) ?_
      · refine Lst.run rfl rfl (by decide) (Ev.loadS (α := BitVec 16) rfl (Rd.own (i := 1) rfl rfl rfl) Try.isAgg23 (v := .int .u16 x25.toNat) ((Get.elemN (s := 1) (x := x25) rfl g40.2.2 (Get.here _)).off (by omega))) ?_
        refine Lst.nil ?_
        refine At.hd inv (fun w h => (h.weaken (FLe.refl _)).sublist (List.Sublist.cons_cons _ (List.Sublist.cons _ (List.Sublist.refl _)))) ?_
        refine HdJ.step [14] (by kernel_rfl) rfl ?_
        refine HdStep.cons (by decide) rfl (fun inv => ?_) ?_
        · have g41 := lat_some h29
          refine Lst.run rfl rfl (by decide) (Ev.indexS (α := BitVec 16) (xs := l12) rfl rfl Try.runUnderlying22 Try.sizeOf23 rfl (by decide) (Rd.own (i := 1) rfl rfl rfl) g41.1 g41.2.1) ?_
          refine Lst.nil ?_
          refine At.hd inv (fun w h => (h.weaken (FLe.refl _)).sublist (List.Sublist.cons_cons _ (List.Sublist.cons _ (List.Sublist.refl _)))) ?_
          refine HdJ.step [15] (by kernel_rfl) rfl ?_
          refine HdStep.cons (by decide) rfl (fun inv => ?_) ?_
          · refine Lst.run rfl rfl (by decide) (Ev.loadS (α := BitVec 16) rfl (Rd.own (i := 1) rfl rfl rfl) Try.isAgg23 (v := .int .u16 x28.toNat) ((Get.elemN (s := 1) (x := x28) rfl g41.2.2 (Get.here _)).off (by omega))) ?_
            refine Lst.nil ?_
            refine At.hd inv (fun w h => (h.weaken (FLe.refl _)).sublist (List.Sublist.cons_cons _ (List.Sublist.cons _ (List.Sublist.refl _)))) ?_
            refine HdJ.step [16] (by kernel_rfl) rfl ?_
            refine HdStep.cons (by decide) rfl (fun inv => ?_) ?_
            · have g42 := lat_some h32
              refine Lst.run rfl rfl (by decide) (Ev.indexS (α := BitVec 16) (xs := l12) rfl rfl Try.runUnderlying22 Try.sizeOf23 rfl (by decide) (Rd.own (i := 1) rfl rfl rfl) g42.1 g42.2.1) ?_
              refine Lst.nil ?_
              refine At.hd inv (fun w h => (h.weaken (FLe.refl _)).sublist (List.Sublist.cons_cons _ (List.Sublist.cons _ (List.Sublist.refl _)))) ?_
              refine HdJ.step [17] (by kernel_rfl) rfl ?_
              refine HdStep.cons (by decide) rfl (fun inv => ?_) ?_
              · refine Lst.storeS (i := 1) rfl rfl rfl rfl rfl Try.sizeOf23 (vs := [.int .u16 x25.toNat]) rfl rfl (by decide) rfl (xs' := encs p34) (by rw [← h35]; exact (Put.elemN (s := 1) (x := x31) rfl g42.2.2 (Put.here (vs := [.int .u16 x25.toNat]) rfl)).off (by omega)) (L' := (.blk b3 (enc r16.1) 159) :: (.own s_a0 23 1 (encs p34)) :: L) rfl ?_
                refine Lst.nil ?_
                refine At.hd inv (fun w h => (h.weaken (FLe.refl _)).sublist (List.Sublist.cons_cons _ (List.Sublist.cons _ (List.Sublist.refl _)))) ?_
                refine HdJ.done (by kernel_rfl) ?_
                exact At.meetN p34 (FLe.refl _) ⟨rfl, rfl, rfl, rfl, rfl, rfl, rfl, rfl, rfl, trivial⟩ rfl h39
              exact trivial
            exact trivial
          exact trivial
        exact trivial
      refine HdStep.cons (by decide) rfl (fun inv => ?_) ?_
      · have g43 := lat_some h29
        refine Lst.run rfl rfl (by decide) (Ev.indexS (α := BitVec 16) (xs := l12) rfl rfl Try.runUnderlying22 Try.sizeOf23 rfl (by decide) (Rd.own (i := 1) rfl rfl rfl) g43.1 g43.2.1) ?_
        refine Lst.nil ?_
        refine At.hd inv (fun w h => (h.weaken (FLe.refl _)).sublist (List.Sublist.cons_cons _ (List.Sublist.cons _ (List.Sublist.refl _)))) ?_
        refine HdJ.step [11, 15] (by kernel_rfl) rfl ?_
        refine HdStep.cons (by decide) rfl (fun inv => ?_) ?_
        · refine Lst.run rfl rfl (by decide) (Ev.loadS (α := BitVec 16) rfl (Rd.own (i := 1) rfl rfl rfl) Try.isAgg23 (v := .int .u16 x25.toNat) ((Get.elemN (s := 1) (x := x25) rfl g40.2.2 (Get.here _)).off (by omega))) ?_
          refine Lst.nil ?_
          refine At.hd inv (fun w h => (h.weaken (FLe.refl _)).sublist (List.Sublist.cons_cons _ (List.Sublist.cons _ (List.Sublist.refl _)))) ?_
          refine HdJ.step [15] (by kernel_rfl) rfl ?_
          refine HdStep.cons (by decide) rfl (fun inv => ?_) ?_
          · refine Lst.run rfl rfl (by decide) (Ev.loadS (α := BitVec 16) rfl (Rd.own (i := 1) rfl rfl rfl) Try.isAgg23 (v := .int .u16 x28.toNat) ((Get.elemN (s := 1) (x := x28) rfl g43.2.2 (Get.here _)).off (by omega))) ?_
            refine Lst.nil ?_
            refine At.hd inv (fun w h => (h.weaken (FLe.refl _)).sublist (List.Sublist.cons_cons _ (List.Sublist.cons _ (List.Sublist.refl _)))) ?_
            refine HdJ.step [16] (by kernel_rfl) rfl ?_
            refine HdStep.cons (by decide) rfl (fun inv => ?_) ?_
            · have g44 := lat_some h32
              refine Lst.run rfl rfl (by decide) (Ev.indexS (α := BitVec 16) (xs := l12) rfl rfl Try.runUnderlying22 Try.sizeOf23 rfl (by decide) (Rd.own (i := 1) rfl rfl rfl) g44.1 g44.2.1) ?_
              refine Lst.nil ?_
              refine At.hd inv (fun w h => (h.weaken (FLe.refl _)).sublist (List.Sublist.cons_cons _ (List.Sublist.cons _ (List.Sublist.refl _)))) ?_
              refine HdJ.step [17] (by kernel_rfl) rfl ?_
              refine HdStep.cons (by decide) rfl (fun inv => ?_) ?_
              · refine Lst.storeS (i := 1) rfl rfl rfl rfl rfl Try.sizeOf23 (vs := [.int .u16 x25.toNat]) rfl rfl (by decide) rfl (xs' := encs p34) (by rw [← h35]; exact (Put.elemN (s := 1) (x := x31) rfl g44.2.2 (Put.here (vs := [.int .u16 x25.toNat]) rfl)).off (by omega)) (L' := (.blk b3 (enc r16.1) 159) :: (.own s_a0 23 1 (encs p34)) :: L) rfl ?_
                refine Lst.nil ?_
                refine At.hd inv (fun w h => (h.weaken (FLe.refl _)).sublist (List.Sublist.cons_cons _ (List.Sublist.cons _ (List.Sublist.refl _)))) ?_
                refine HdJ.done (by kernel_rfl) ?_
                exact At.meetN p34 (FLe.refl _) ⟨rfl, rfl, rfl, rfl, rfl, rfl, rfl, rfl, rfl, trivial⟩ rfl h39
              exact trivial
            exact trivial
          exact trivial
        refine HdStep.cons (by decide) rfl (fun inv => ?_) ?_
        · refine Lst.run rfl rfl (by decide) (Ev.loadS (α := BitVec 16) rfl (Rd.own (i := 1) rfl rfl rfl) Try.isAgg23 (v := .int .u16 x28.toNat) ((Get.elemN (s := 1) (x := x28) rfl g43.2.2 (Get.here _)).off (by omega))) ?_
          refine Lst.nil ?_
          refine At.hd inv (fun w h => (h.weaken (FLe.refl _)).sublist (List.Sublist.cons_cons _ (List.Sublist.cons _ (List.Sublist.refl _)))) ?_
          refine HdJ.step [11] (by kernel_rfl) rfl ?_
          refine HdStep.cons (by decide) rfl (fun inv => ?_) ?_
          · refine Lst.run rfl rfl (by decide) (Ev.loadS (α := BitVec 16) rfl (Rd.own (i := 1) rfl rfl rfl) Try.isAgg23 (v := .int .u16 x25.toNat) ((Get.elemN (s := 1) (x := x25) rfl g40.2.2 (Get.here _)).off (by omega))) ?_
            refine Lst.nil ?_
            refine At.hd inv (fun w h => (h.weaken (FLe.refl _)).sublist (List.Sublist.cons_cons _ (List.Sublist.cons _ (List.Sublist.refl _)))) ?_
            refine HdJ.step [16] (by kernel_rfl) rfl ?_
            refine HdStep.cons (by decide) rfl (fun inv => ?_) ?_
            · have g45 := lat_some h32
              refine Lst.run rfl rfl (by decide) (Ev.indexS (α := BitVec 16) (xs := l12) rfl rfl Try.runUnderlying22 Try.sizeOf23 rfl (by decide) (Rd.own (i := 1) rfl rfl rfl) g45.1 g45.2.1) ?_
              refine Lst.nil ?_
              refine At.hd inv (fun w h => (h.weaken (FLe.refl _)).sublist (List.Sublist.cons_cons _ (List.Sublist.cons _ (List.Sublist.refl _)))) ?_
              refine HdJ.step [17] (by kernel_rfl) rfl ?_
              refine HdStep.cons (by decide) rfl (fun inv => ?_) ?_
              · refine Lst.storeS (i := 1) rfl rfl rfl rfl rfl Try.sizeOf23 (vs := [.int .u16 x25.toNat]) rfl rfl (by decide) rfl (xs' := encs p34) (by rw [← h35]; exact (Put.elemN (s := 1) (x := x31) rfl g45.2.2 (Put.here (vs := [.int .u16 x25.toNat]) rfl)).off (by omega)) (L' := (.blk b3 (enc r16.1) 159) :: (.own s_a0 23 1 (encs p34)) :: L) rfl ?_
                refine Lst.nil ?_
                refine At.hd inv (fun w h => (h.weaken (FLe.refl _)).sublist (List.Sublist.cons_cons _ (List.Sublist.cons _ (List.Sublist.refl _)))) ?_
                refine HdJ.done (by kernel_rfl) ?_
                exact At.meetN p34 (FLe.refl _) ⟨rfl, rfl, rfl, rfl, rfl, rfl, rfl, rfl, rfl, trivial⟩ rfl h39
              exact trivial
            exact trivial
          exact trivial
        exact trivial
      exact trivial
    refine HdStep.cons (by decide) rfl (fun inv => ?_) ?_
    · have g46 := lat_some h29
      refine Lst.run rfl rfl (by decide) (Ev.indexS (α := BitVec 16) (xs := l12) rfl rfl Try.runUnderlying22 Try.sizeOf23 rfl (by decide) (Rd.own (i := 1) rfl rfl rfl) g46.1 g46.2.1) ?_
      refine Lst.nil ?_
      refine At.hd inv (fun w h => (h.weaken (FLe.refl _)).sublist (List.Sublist.cons_cons _ (List.Sublist.cons _ (List.Sublist.refl _)))) ?_
      refine HdJ.step [10, 15] (by kernel_rfl) rfl ?_
      refine HdStep.cons (by decide) rfl (fun inv => ?_) ?_
      · have g47 := lat_some h26
        refine Lst.run rfl rfl (by decide) (Ev.indexS (α := BitVec 16) (xs := l12) rfl rfl Try.runUnderlying22 Try.sizeOf23 rfl (by decide) (Rd.own (i := 1) rfl rfl rfl) g47.1 g47.2.1) ?_
        refine Lst.nil ?_
        refine At.hd inv (fun w h => (h.weaken (FLe.refl _)).sublist (List.Sublist.cons_cons _ (List.Sublist.cons _ (List.Sublist.refl _)))) ?_
        refine HdJ.step [11, 15] (by kernel_rfl) rfl ?_
        refine HdStep.cons (by decide) rfl (fun inv => ?_) ?_
        · refine Lst.run rfl rfl (by decide) (Ev.loadS (α := BitVec 16) rfl (Rd.own (i := 1) rfl rfl rfl) Try.isAgg23 (v := .int .u16 x25.toNat) ((Get.elemN (s := 1) (x := x25) rfl g47.2.2 (Get.here _)).off (by omega))) ?_
          refine Lst.nil ?_
          refine At.hd inv (fun w h => (h.weaken (FLe.refl _)).sublist (List.Sublist.cons_cons _ (List.Sublist.cons _ (List.Sublist.refl _)))) ?_
          refine HdJ.step [15] (by kernel_rfl) rfl ?_
          refine HdStep.cons (by decide) rfl (fun inv => ?_) ?_
          · refine Lst.run rfl rfl (by decide) (Ev.loadS (α := BitVec 16) rfl (Rd.own (i := 1) rfl rfl rfl) Try.isAgg23 (v := .int .u16 x28.toNat) ((Get.elemN (s := 1) (x := x28) rfl g46.2.2 (Get.here _)).off (by omega))) ?_
            refine Lst.nil ?_
            refine At.hd inv (fun w h => (h.weaken (FLe.refl _)).sublist (List.Sublist.cons_cons _ (List.Sublist.cons _ (List.Sublist.refl _)))) ?_
            refine HdJ.step [16] (by kernel_rfl) rfl ?_
            refine HdStep.cons (by decide) rfl (fun inv => ?_) ?_
            · have g48 := lat_some h32
              refine Lst.run rfl rfl (by decide) (Ev.indexS (α := BitVec 16) (xs := l12) rfl rfl Try.runUnderlying22 Try.sizeOf23 rfl (by decide) (Rd.own (i := 1) rfl rfl rfl) g48.1 g48.2.1) ?_
              refine Lst.nil ?_
              refine At.hd inv (fun w h => (h.weaken (FLe.refl _)).sublist (List.Sublist.cons_cons _ (List.Sublist.cons _ (List.Sublist.refl _)))) ?_
              refine HdJ.step [17] (by kernel_rfl) rfl ?_
              refine HdStep.cons (by decide) rfl (fun inv => ?_) ?_
              · refine Lst.storeS (i := 1) rfl rfl rfl rfl rfl Try.sizeOf23 (vs := [.int .u16 x25.toNat]) rfl rfl (by decide) rfl (xs' := encs p34) (by rw [← h35]; exact (Put.elemN (s := 1) (x := x31) rfl g48.2.2 (Put.here (vs := [.int .u16 x25.toNat]) rfl)).off (by omega)) (L' := (.blk b3 (enc r16.1) 159) :: (.own s_a0 23 1 (encs p34)) :: L) rfl ?_
                refine Lst.nil ?_
                refine At.hd inv (fun w h => (h.weaken (FLe.refl _)).sublist (List.Sublist.cons_cons _ (List.Sublist.cons _ (List.Sublist.refl _)))) ?_
                refine HdJ.done (by kernel_rfl) ?_
                exact At.meetN p34 (FLe.refl _) ⟨rfl, rfl, rfl, rfl, rfl, rfl, rfl, rfl, rfl, trivial⟩ rfl h39
              exact trivial
            exact trivial
          exact trivial
        refine HdStep.cons (by decide) rfl (fun inv => ?_) ?_
        · refine Lst.run rfl rfl (by decide) (Ev.loadS (α := BitVec 16) rfl (Rd.own (i := 1) rfl rfl rfl) Try.isAgg23 (v := .int .u16 x28.toNat) ((Get.elemN (s := 1) (x := x28) rfl g46.2.2 (Get.here _)).off (by omega))) ?_
          refine Lst.nil ?_
          refine At.hd inv (fun w h => (h.weaken (FLe.refl _)).sublist (List.Sublist.cons_cons _ (List.Sublist.cons _ (List.Sublist.refl _)))) ?_
          refine HdJ.step [11] (by kernel_rfl) rfl ?_
          refine HdStep.cons (by decide) rfl (fun inv => ?_) ?_
          · refine Lst.run rfl rfl (by decide) (Ev.loadS (α := BitVec 16) rfl (Rd.own (i := 1) rfl rfl rfl) Try.isAgg23 (v := .int .u16 x25.toNat) ((Get.elemN (s := 1) (x := x25) rfl g47.2.2 (Get.here _)).off (by omega))) ?_
            refine Lst.nil ?_
            refine At.hd inv (fun w h => (h.weaken (FLe.refl _)).sublist (List.Sublist.cons_cons _ (List.Sublist.cons _ (List.Sublist.refl _)))) ?_
            refine HdJ.step [16] (by kernel_rfl) rfl ?_
            refine HdStep.cons (by decide) rfl (fun inv => ?_) ?_
            · have g49 := lat_some h32
              refine Lst.run rfl rfl (by decide) (Ev.indexS (α := BitVec 16) (xs := l12) rfl rfl Try.runUnderlying22 Try.sizeOf23 rfl (by decide) (Rd.own (i := 1) rfl rfl rfl) g49.1 g49.2.1) ?_
              refine Lst.nil ?_
              refine At.hd inv (fun w h => (h.weaken (FLe.refl _)).sublist (List.Sublist.cons_cons _ (List.Sublist.cons _ (List.Sublist.refl _)))) ?_
              refine HdJ.step [17] (by kernel_rfl) rfl ?_
              refine HdStep.cons (by decide) rfl (fun inv => ?_) ?_
              · refine Lst.storeS (i := 1) rfl rfl rfl rfl rfl Try.sizeOf23 (vs := [.int .u16 x25.toNat]) rfl rfl (by decide) rfl (xs' := encs p34) (by rw [← h35]; exact (Put.elemN (s := 1) (x := x31) rfl g49.2.2 (Put.here (vs := [.int .u16 x25.toNat]) rfl)).off (by omega)) (L' := (.blk b3 (enc r16.1) 159) :: (.own s_a0 23 1 (encs p34)) :: L) rfl ?_
                refine Lst.nil ?_
                refine At.hd inv (fun w h => (h.weaken (FLe.refl _)).sublist (List.Sublist.cons_cons _ (List.Sublist.cons _ (List.Sublist.refl _)))) ?_
                refine HdJ.done (by kernel_rfl) ?_
                exact At.meetN p34 (FLe.refl _) ⟨rfl, rfl, rfl, rfl, rfl, rfl, rfl, rfl, rfl, trivial⟩ rfl h39
              exact trivial
            exact trivial
          exact trivial
        exact trivial
      refine HdStep.cons (by decide) rfl (fun inv => ?_) ?_
      · refine Lst.run rfl rfl (by decide) (Ev.loadS (α := BitVec 16) rfl (Rd.own (i := 1) rfl rfl rfl) Try.isAgg23 (v := .int .u16 x28.toNat) ((Get.elemN (s := 1) (x := x28) rfl g46.2.2 (Get.here _)).off (by omega))) ?_
        refine Lst.nil ?_
        refine At.hd inv (fun w h => (h.weaken (FLe.refl _)).sublist (List.Sublist.cons_cons _ (List.Sublist.cons _ (List.Sublist.refl _)))) ?_
        refine HdJ.step [10] (by kernel_rfl) rfl ?_
        refine HdStep.cons (by decide) rfl (fun inv => ?_) ?_
        · have g50 := lat_some h26
          refine Lst.run rfl rfl (by decide) (Ev.indexS (α := BitVec 16) (xs := l12) rfl rfl Try.runUnderlying22 Try.sizeOf23 rfl (by decide) (Rd.own (i := 1) rfl rfl rfl) g50.1 g50.2.1) ?_
          refine Lst.nil ?_
          refine At.hd inv (fun w h => (h.weaken (FLe.refl _)).sublist (List.Sublist.cons_cons _ (List.Sublist.cons _ (List.Sublist.refl _)))) ?_
          refine HdJ.step [11] (by kernel_rfl) rfl ?_
          refine HdStep.cons (by decide) rfl (fun inv => ?_) ?_
          · refine Lst.run rfl rfl (by decide) (Ev.loadS (α := BitVec 16) rfl (Rd.own (i := 1) rfl rfl rfl) Try.isAgg23 (v := .int .u16 x25.toNat) ((Get.elemN (s := 1) (x := x25) rfl g50.2.2 (Get.here _)).off (by omega))) ?_
            refine Lst.nil ?_
            refine At.hd inv (fun w h => (h.weaken (FLe.refl _)).sublist (List.Sublist.cons_cons _ (List.Sublist.cons _ (List.Sublist.refl _)))) ?_
            refine HdJ.step [16] (by kernel_rfl) rfl ?_
            refine HdStep.cons (by decide) rfl (fun inv => ?_) ?_
            · have g51 := lat_some h32
              refine Lst.run rfl rfl (by decide) (Ev.indexS (α := BitVec 16) (xs := l12) rfl rfl Try.runUnderlying22 Try.sizeOf23 rfl (by decide) (Rd.own (i := 1) rfl rfl rfl) g51.1 g51.2.1) ?_
              refine Lst.nil ?_
              refine At.hd inv (fun w h => (h.weaken (FLe.refl _)).sublist (List.Sublist.cons_cons _ (List.Sublist.cons _ (List.Sublist.refl _)))) ?_
              refine HdJ.step [17] (by kernel_rfl) rfl ?_
              refine HdStep.cons (by decide) rfl (fun inv => ?_) ?_
              · refine Lst.storeS (i := 1) rfl rfl rfl rfl rfl Try.sizeOf23 (vs := [.int .u16 x25.toNat]) rfl rfl (by decide) rfl (xs' := encs p34) (by rw [← h35]; exact (Put.elemN (s := 1) (x := x31) rfl g51.2.2 (Put.here (vs := [.int .u16 x25.toNat]) rfl)).off (by omega)) (L' := (.blk b3 (enc r16.1) 159) :: (.own s_a0 23 1 (encs p34)) :: L) rfl ?_
                refine Lst.nil ?_
                refine At.hd inv (fun w h => (h.weaken (FLe.refl _)).sublist (List.Sublist.cons_cons _ (List.Sublist.cons _ (List.Sublist.refl _)))) ?_
                refine HdJ.done (by kernel_rfl) ?_
                exact At.meetN p34 (FLe.refl _) ⟨rfl, rfl, rfl, rfl, rfl, rfl, rfl, rfl, rfl, trivial⟩ rfl h39
              exact trivial
            exact trivial
          exact trivial
        exact trivial
      exact trivial
    exact trivial
  rintro F52 l37 hF53 hy
  subst hy
  refine Lst.as (e' := [(0, Sl.v s_a0), (1, .int .i64 a1), (8, .int .i64 (w64 (a2 - a1))), (9, .pointer (some ⟨b3, 0, none⟩)), (10, .int .u64 r5.toNat), (11, .int .i64 y10), (51, Sl.v s_a0), (54, .int .i64 (w64 (a1 + y20))), (64, .int .u16 x28.toNat)]) (L' := (.blk b3 (enc r16.1) 159) :: (.own s_a0 23 1 (encs l37)) :: L) ⟨rfl, rfl, rfl, rfl, rfl, rfl, rfl, rfl, rfl, trivial⟩ rfl ?_
  obtain ⟨x54, h55, H⟩ := bind_some H
  have g56 := lat_some h55
  refine Lst.run rfl rfl (by decide) (Ev.indexS (α := BitVec 16) (xs := l37) rfl rfl Try.runUnderlying22 Try.sizeOf23 rfl (by decide) (Rd.own (i := 1) rfl rfl rfl) g56.1 g56.2.1) ?_
  obtain ⟨p57, h58, H⟩ := Let_some H
  refine Lst.storeS (i := 1) rfl rfl rfl rfl rfl Try.sizeOf23 (vs := [.int .u16 x28.toNat]) rfl rfl (by decide) rfl (xs' := encs p57) (by rw [← h58]; exact (Put.elemN (s := 1) (x := x54) rfl g56.2.2 (Put.here (vs := [.int .u16 x28.toNat]) rfl)).off (by omega)) (L' := (.blk b3 (enc r16.1) 159) :: (.own s_a0 23 1 (encs p57)) :: L) rfl ?_
  refine Lst.nil ?_
  refine At.in_normal ?_
  refine At.then ?_
  refine Cd.region ?_
  refine Lst.run rfl rfl (by decide) (Ev.move rfl) ?_
  refine Lst.run rfl rfl (by decide) (Ev.add rfl rfl) ?_
  refine Lst.run rfl rfl (by decide) (Ev.assign rfl) ?_
  refine Lst.nil ?_
  exact At.meet (k9, w64 (y10 + (1 : Int)), r16.1, p57) (FLe.trans (FLe.trans (FLe.trans hF14 hF19) hF24) hF53) ⟨rfl, rfl, rfl, rfl, rfl, rfl, trivial⟩ rfl ⟨hgo9 _ (some_inj H).symm, Nat.lt_succ_self _⟩
set_option maxRecDepth 20000 in
theorem slices_order2CmpFunc_uint16_quorum_compare_sim {a0 : List (BitVec 16)} {a1 : Int} {a2 : Int} {a3 : Int} {s_a0 : Sl} {b_a3 : Nat} {r : Int × Int × Int} (H : slices_order2CmpFunc_uint16_quorum_compare a0 a1 a2 a3 = some r) (w0 : World) (F : Frz) (M L : List Item) (hM : M.Sublist L) (hs_a0 : Rd w0 F M s_a0 a0) : Ok Try.prog w0 156 [Sl.v s_a0, .int .i64 a1, .int .i64 a2, .pointer (some ⟨b_a3, 0, none⟩), .func (.func 53) #[] #[]] F ((.blk b_a3 (enc a3) 3) :: L) (fun _ L' v => v = .tuple #[.int .i64 r.2.1, .int .i64 r.2.2] ∧ L' = (.blk b_a3 (enc r.1) 3) :: L) := by
  unfold slices_order2CmpFunc_uint16_quorum_compare at H
  refine Ok.enter (m := 5) (n := 32) Try.func156 rfl rfl rfl (by decide) ?_
  refine Cd.env (e' := [(0, Sl.v s_a0), (1, .int .i64 a1), (2, .int .i64 a2), (3, .pointer (some ⟨b_a3, 0, none⟩)), (4, .func (.func 53) #[] #[])]) rfl ?_
  refine Cd.seq ?_
  refine Cd.region ?_
  refine Lst.run rfl rfl (by decide) (Ev.assign rfl) ?_
  refine Lst.run rfl rfl (by decide) (Ev.assign rfl) ?_
  refine Lst.nil ?_
  refine At.then ?_
  refine Cd.seq ?_
  refine Cd.seq ?_
  refine Cd.quiet (by kernel_rfl) (by kernel_rfl) ?_
  refine Qt.run rfl rfl (by decide) (Ev.move rfl) ?_
  refine Qt.run rfl rfl (by decide) (Ev.move rfl) ?_
  refine Qt.run rfl rfl (by decide) (Ev.move rfl) ?_
  obtain ⟨x2, h3, H⟩ := bind_some H
  have g4 := lat_some h3
  refine Qt.run rfl rfl (by decide) (Ev.indexS (α := BitVec 16) (xs := a0) rfl rfl Try.runUnderlying22 Try.sizeOf23 rfl (by decide) (hs_a0.mono (FLe.refl _) (List.Sublist.cons _ hM)) g4.1 g4.2.1) ?_
  refine Qt.run rfl rfl (by decide) (Ev.loadS (α := BitVec 16) rfl (hs_a0.mono (FLe.refl _) (List.Sublist.cons _ hM)) Try.isAgg23 (v := .int .u16 x2.toNat) ((Get.elemN (s := 1) (x := x2) rfl g4.2.2 (Get.here _)).off (by omega))) ?_
  refine Qt.run rfl rfl (by decide) (Ev.move rfl) ?_
  refine Qt.run rfl rfl (by decide) (Ev.move rfl) ?_
  obtain ⟨x5, h6, H⟩ := bind_some H
  have g7 := lat_some h6
  refine Qt.run rfl rfl (by decide) (Ev.indexS (α := BitVec 16) (xs := a0) rfl rfl Try.runUnderlying22 Try.sizeOf23 rfl (by decide) (hs_a0.mono (FLe.refl _) (List.Sublist.cons _ hM)) g7.1 g7.2.1) ?_
  refine Qt.run rfl rfl (by decide) (Ev.loadS (α := BitVec 16) rfl (hs_a0.mono (FLe.refl _) (List.Sublist.cons _ hM)) Try.isAgg23 (v := .int .u16 x5.toNat) ((Get.elemN (s := 1) (x := x5) rfl g7.2.2 (Get.here _)).off (by omega))) ?_
  obtain ⟨r8, h9, H⟩ := bind_some H
  refine Qt.callV rfl rfl (by decide) (vs := [.int .u16 x2.toNat, .int .u16 x5.toNat]) (cs := []) rfl ⟨rfl, rfl, trivial⟩ Try.call53 (quorum_compare_sim h9 w0 _ M _ (List.Sublist.cons _ hM)) ?_
  refine Qt.run rfl rfl (by decide) (Ev.lss rfl rfl) ?_
  refine Qt.done ?_
  refine At.then ?_
  rcases Bool.eq_false_or_eq_true (decide (r8 < (0 : Int))) with hb12 | hb12
  · replace H := ite_t hb12 H
    refine Cd.condT rfl hb12 ?_
    refine Cd.seq ?_
    refine Cd.as (e' := [(1, .int .i64 a1), (2, .int .i64 a2), (3, .pointer (some ⟨b_a3, 0, none⟩))]) (L' := (.blk b_a3 (enc a3) 3) :: L) ⟨rfl, rfl, rfl, trivial⟩ rfl ?_
    refine Cd.region ?_
    refine Lst.run rfl rfl (by decide) (Ev.move rfl) ?_
    refine Lst.run rfl rfl (by decide) (Ev.nilCheck rfl) ?_
    refine Lst.run rfl rfl (by decide) (Ev.load (i := 0) rfl rfl Try.isAgg3 (v := .int .i64 a3) (Get.here _)) ?_
    refine Lst.run rfl rfl (by decide) (Ev.add rfl rfl) ?_
    refine Lst.run rfl rfl (by decide) (Ev.nilCheck rfl) ?_
    refine Lst.store (i := 0) rfl rfl rfl rfl rfl Try.sizeOf3 (vs := [.int .i64 (w64 (a3 + (1 : Int)))]) rfl rfl rfl (cs' := enc (w64 (a3 + (1 : Int)))) (Put.here (vs := [.int .i64 (w64 (a3 + (1 : Int)))]) rfl) (L' := (.blk b_a3 (enc (w64 (a3 + (1 : Int)))) 3) :: L) rfl ?_
    refine Lst.nil ?_
    refine At.then ?_
    refine Cd.seq ?_
    refine Cd.region ?_
    refine Lst.run rfl rfl (by decide) (Ev.move rfl) ?_
    refine Lst.run rfl rfl (by decide) (Ev.move rfl) ?_
    refine Lst.run rfl rfl (by decide) (Ev.assign rfl) ?_
    refine Lst.run rfl rfl (by decide) (Ev.assign rfl) ?_
    refine Lst.nil ?_
    refine At.then ?_
    obtain rfl := some_inj H
    refine Cd.ret ?_
    refine At.then_ret ?_
    exact At.ret2 rfl (Res.tmp rfl) (Res.tmp rfl) (FLe.refl _) (List.Sublist.cons_cons _ (List.Sublist.refl _)) ⟨rfl, rfl⟩
  replace H := ite_f hb12 H
  refine Cd.condF rfl hb12 ?_
  refine Cd.skip ?_
  refine At.then ?_
  refine Cd.seq ?_
  refine Cd.as (e' := [(1, .int .i64 a1), (2, .int .i64 a2)]) (L' := (.blk b_a3 (enc a3) 3) :: L) ⟨rfl, rfl, trivial⟩ rfl ?_
  refine Cd.region ?_
  refine Lst.run rfl rfl (by decide) (Ev.move rfl) ?_
  refine Lst.run rfl rfl (by decide) (Ev.move rfl) ?_
  refine Lst.run rfl rfl (by decide) (Ev.assign rfl) ?_
  refine Lst.run rfl rfl (by decide) (Ev.assign rfl) ?_
  refine Lst.nil ?_
  refine At.then ?_
  obtain rfl := some_inj H
  refine Cd.ret ?_
  exact At.ret2 rfl (Res.tmp rfl) (Res.tmp rfl) (FLe.refl _) (List.Sublist.cons_cons _ (List.Sublist.refl _)) ⟨rfl, rfl⟩
set_option maxRecDepth 20000 in
theorem slices_medianCmpFunc_uint16_quorum_compare_sim {a0 : List (BitVec 16)} {a1 : Int} {a2 : Int} {a3 : Int} {a4 : Int} {s_a0 : Sl} {b_a4 : Nat} {r : Int × Int} (H : slices_medianCmpFunc_uint16_quorum_compare a0 a1 a2 a3 a4 = some r) (w0 : World) (F : Frz) (M L : List Item) (hM : M.Sublist L) (hs_a0 : Rd w0 F M s_a0 a0) : Ok Try.prog w0 153 [Sl.v s_a0, .int .i64 a1, .int .i64 a2, .int .i64 a3, .pointer (some ⟨b_a4, 0, none⟩), .func (.func 53) #[] #[]] F ((.blk b_a4 (enc a4) 3) :: L) (fun _ L' v => v = .int .i64 r.2 ∧ L' = (.blk b_a4 (enc r.1) 3) :: L) := by
  unfold slices_medianCmpFunc_uint16_quorum_compare at H
  refine Ok.enter (m := 6) (n := 41) Try.func153 rfl rfl rfl (by decide) ?_
  refine Cd.env (e' := [(0, Sl.v s_a0), (1, .int .i64 a1), (2, .int .i64 a2), (3, .int .i64 a3), (4, .pointer (some ⟨b_a4, 0, none⟩)), (5, .func (.func 53) #[] #[])]) rfl ?_
  refine Cd.seq ?_
  refine Cd.region ?_
  refine Lst.run rfl rfl (by decide) (Ev.assign rfl) ?_
  refine Lst.nil ?_
  refine At.then ?_
  refine Cd.seq ?_
  refine Cd.region ?_
  refine Lst.run rfl rfl (by decide) (Ev.move rfl) ?_
  refine Lst.run rfl rfl (by decide) (Ev.move rfl) ?_
  refine Lst.run rfl rfl (by decide) (Ev.move rfl) ?_
  refine Lst.run rfl rfl (by decide) (Ev.move rfl) ?_
  refine Lst.run rfl rfl (by decide) (Ev.move rfl) ?_
  obtain ⟨r2, h3, H⟩ := bind_some H
  refine Lst.call rfl rfl (by decide) (vs := [Sl.v s_a0, .int .i64 a1, .int .i64 a2, .pointer (some ⟨b_a4, 0, none⟩), .func (.func 53) #[] #[]]) ⟨rfl, rfl, rfl, rfl, rfl, trivial⟩ Try.call156 (slices_order2CmpFunc_uint16_quorum_compare_sim h3 w0 _ M _ hM (hs_a0.mono (FLe.refl _) (List.Sublist.refl _))) (fun F4 L' v hF5 hv => ?_)
  obtain ⟨rfl, rfl⟩ := hv
  refine Lst.run rfl rfl (by decide) (Ev.move rfl) ?_
  refine Lst.run rfl rfl (by decide) (Ev.extract rfl rfl) ?_
  refine Lst.run rfl rfl (by decide) (Ev.extract rfl rfl) ?_
  refine Lst.run rfl rfl (by decide) (Ev.assign rfl) ?_
  refine Lst.run rfl rfl (by decide) (Ev.assign rfl) ?_
  refine Lst.nil ?_
  refine At.then ?_
  refine Cd.seq ?_
  refine Cd.region ?_
  refine Lst.run rfl rfl (by decide) (Ev.move rfl) ?_
  refine Lst.run rfl rfl (by decide) (Ev.move rfl) ?_
  refine Lst.run rfl rfl (by decide) (Ev.move rfl) ?_
  refine Lst.run rfl rfl (by decide) (Ev.move rfl) ?_
  refine Lst.run rfl rfl (by decide) (Ev.move rfl) ?_
  obtain ⟨r6, h7, H⟩ := bind_some H
  refine Lst.call rfl rfl (by decide) (vs := [Sl.v s_a0, .int .i64 r2.2.2, .int .i64 a3, .pointer (some ⟨b_a4, 0, none⟩), .func (.func 53) #[] #[]]) ⟨rfl, rfl, rfl, rfl, rfl, trivial⟩ Try.call156 (slices_order2CmpFunc_uint16_quorum_compare_sim h7 w0 _ M _ hM (hs_a0.mono hF5 (List.Sublist.refl _))) (fun F8 L' v hF9 hv => ?_)
  obtain ⟨rfl, rfl⟩ := hv
  refine Lst.run rfl rfl (by decide) (Ev.move rfl) ?_
  refine Lst.run rfl rfl (by decide) (Ev.extract rfl rfl) ?_
  refine Lst.run rfl rfl (by decide) (Ev.extract rfl rfl) ?_
  refine Lst.run rfl rfl (by decide) (Ev.assign rfl) ?_
  refine Lst.run rfl rfl (by decide) (Ev.assign rfl) ?_
  refine Lst.nil ?_
  refine At.then ?_
  refine Cd.seq ?_
  refine Cd.as (e' := [(0, Sl.v s_a0), (1, .int .i64 r2.2.1), (2, .int .i64 r6.2.1), (4, .pointer (some ⟨b_a4, 0, none⟩)), (5, .func (.func 53) #[] #[])]) (L' := (.blk b_a4 (enc r6.1) 3) :: L) ⟨rfl, rfl, rfl, rfl, rfl, trivial⟩ rfl ?_
  refine Cd.region ?_
  refine Lst.run rfl rfl (by decide) (Ev.move rfl) ?_
  refine Lst.run rfl rfl (by decide) (Ev.move rfl) ?_
  refine Lst.run rfl rfl (by decide) (Ev.move rfl) ?_
  refine Lst.run rfl rfl (by decide) (Ev.move rfl) ?_
  refine Lst.run rfl rfl (by decide) (Ev.move rfl) ?_
  obtain ⟨r10, h11, H⟩ := bind_some H
  refine Lst.call rfl rfl (by decide) (vs := [Sl.v s_a0, .int .i64 r2.2.1, .int .i64 r6.2.1, .pointer (some ⟨b_a4, 0, none⟩), .func (.func 53) #[] #[]]) ⟨rfl, rfl, rfl, rfl, rfl, trivial⟩ Try.call156 (slices_order2CmpFunc_uint16_quorum_compare_sim h11 w0 _ M _ hM (hs_a0.mono (FLe.trans hF5 hF9) (List.Sublist.refl _))) (fun F12 L' v hF13 hv => ?_)
  obtain ⟨rfl, rfl⟩ := hv
  refine Lst.run rfl rfl (by decide) (Ev.move rfl) ?_
  refine Lst.run rfl rfl (by decide) (Ev.extract rfl rfl) ?_
  refine Lst.run rfl rfl (by decide) (Ev.extract rfl rfl) ?_
  refine Lst.run rfl rfl (by decide) (Ev.assign rfl) ?_
  refine Lst.run rfl rfl (by decide) (Ev.assign rfl) ?_
  refine Lst.nil ?_
  refine At.then ?_
  refine Cd.seq ?_
  refine Cd.as (e' := [(2, .int .i64 r10.2.2)]) (L' := (.blk b_a4 (enc r10.1) 3) :: L) ⟨rfl, trivial⟩ rfl ?_
  refine Cd.region ?_
  refine Lst.run rfl rfl (by decide) (Ev.move rfl) ?_
  refine Lst.run rfl rfl (by decide) (Ev.assign rfl) ?_
  refine Lst.nil ?_
  refine At.then ?_
  obtain rfl := some_inj H
  refine Cd.ret ?_
  exact At.ret1 rfl (Res.tmp rfl) (FLe.trans (FLe.trans hF5 hF9) hF13) (List.Sublist.cons_cons _ (List.Sublist.refl _)) ⟨rfl, rfl⟩
set_option maxRecDepth 20000 in
theorem slices_medianAdjacentCmpFunc_uint16_quorum_compare_sim {a0 : List (BitVec 16)} {a1 : Int} {a2 : Int} {s_a0 : Sl} {b_a2 : Nat} {r : Int × Int} (H : slices_medianAdjacentCmpFunc_uint16_quorum_compare a0 a1 a2 = some r) (w0 : World) (F : Frz) (M L : List Item) (hM : M.Sublist L) (hs_a0 : Rd w0 F M s_a0 a0) : Ok Try.prog w0 152 [Sl.v s_a0, .int .i64 a1, .pointer (some ⟨b_a2, 0, none⟩), .func (.func 53) #[] #[]] F ((.blk b_a2 (enc a2) 3) :: L) (fun _ L' v => v = .int .i64 r.2 ∧ L' = (.blk b_a2 (enc r.1) 3) :: L) := by
  unfold slices_medianAdjacentCmpFunc_uint16_quorum_compare at H
  refine Ok.enter (m := 4) (n := 18) Try.func152 rfl rfl rfl (by decide) ?_
  refine Cd.env (e' := [(0, Sl.v s_a0), (1, .int .i64 a1), (2, .pointer (some ⟨b_a2, 0, none⟩)), (3, .func (.func 53) #[] #[])]) rfl ?_
  refine Cd.seq ?_
  refine Cd.region ?_
  refine Lst.run rfl rfl (by decide) (Ev.assign rfl) ?_
  refine Lst.nil ?_
  refine At.then ?_
  refine Cd.seq ?_
  refine Cd.region ?_
  refine Lst.run rfl rfl (by decide) (Ev.move rfl) ?_
  refine Lst.run rfl rfl (by decide) (Ev.move rfl) ?_
  refine Lst.run rfl rfl (by decide) (Ev.sub rfl rfl) ?_
  refine Lst.run rfl rfl (by decide) (Ev.move rfl) ?_
  refine Lst.run rfl rfl (by decide) (Ev.move rfl) ?_
  refine Lst.run rfl rfl (by decide) (Ev.add rfl rfl) ?_
  refine Lst.run rfl rfl (by decide) (Ev.move rfl) ?_
  refine Lst.run rfl rfl (by decide) (Ev.move rfl) ?_
  obtain ⟨r2, h3, H⟩ := bind_some H
  refine Lst.call rfl rfl (by decide) (vs := [Sl.v s_a0, .int .i64 (w64 (a1 - (1 : Int))), .int .i64 a1, .int .i64 (w64 (a1 + (1 : Int))), .pointer (some ⟨b_a2, 0, none⟩), .func (.func 53) #[] #[]]) ⟨rfl, rfl, rfl, rfl, rfl, rfl, trivial⟩ Try.call153 (slices_medianCmpFunc_uint16_quorum_compare_sim h3 w0 _ M _ hM (hs_a0.mono (FLe.refl _) (List.Sublist.refl _))) (fun F4 L' v hF5 hv => ?_)
  obtain ⟨rfl, rfl⟩ := hv
  refine Lst.run rfl rfl (by decide) (Ev.assign rfl) ?_
  refine Lst.nil ?_
  refine At.then ?_
  obtain rfl := some_inj H
  refine Cd.ret ?_
  exact At.ret1 rfl (Res.tmp rfl) hF5 (List.Sublist.cons_cons _ (List.Sublist.refl _)) ⟨rfl, rfl⟩
end Go.Proofs.Ytnljiedichjagaa
