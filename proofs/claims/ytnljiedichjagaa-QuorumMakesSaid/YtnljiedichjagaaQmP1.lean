/-
  The functions compute their specs; printed by a program.
-/
import Derived.Test.YtnljiedichjagaaQmSp
import Derived.Test.YtnljiedichjagaaGoL
import Derived.Test.YtnljiedichjagaaGoK
import Derived.Test.YtnljiedichjagaaGoI
import Derived.Test.YtnljiedichjagaaGoU
import Derived.Test.YtnljiedichjagaaGoM
import Derived.Test.YtnljiedichjagaaGoS
import Derived.Test.YtnljiedichjagaaGoR
import Derived.Test.YtnljiedichjagaaProg
namespace Go.Proofs.Ytnljiedichjagaa
open Go.RowKit Enc
set_option linter.unusedVariables false
set_option linter.unusedSimpArgs false
set_option maxRecDepth 20000 in
theorem quorum_in_sim {a0 : Int} {a1 : Int} {a2 : Int} {r : Bool} (H : quorum_in a0 a1 a2 = some r) (w0 : World) (F : Frz) (M L : List Item) (hM : M.Sublist L) : Ok Try.prog w0 52 [.int .i64 a0, .int .i64 a1, .int .i64 a2] F (L) (Is (.bool r) (L)) := by
  unfold quorum_in at H
  refine Ok.enter (m := 3) (n := 15) Try.func52 rfl rfl rfl (by decide) ?_
  refine Cd.env (e' := [(0, .int .i64 a0), (1, .int .i64 a1), (2, .int .i64 a2)]) rfl ?_
  refine Cd.seq ?_
  refine Cd.region ?_
  refine Lst.run rfl rfl (by decide) (Ev.assign rfl) ?_
  refine Lst.nil ?_
  refine At.then ?_
  refine Cd.seq ?_
  refine Cd.region ?_
  refine Lst.run rfl rfl (by decide) (Ev.move rfl) ?_
  refine Lst.run rfl rfl (by decide) (Ev.move rfl) ?_
  refine Lst.run rfl rfl (by decide) (Ev.geq rfl rfl) ?_
  refine Lst.run rfl rfl (by decide) (Ev.move rfl) ?_
  obtain ⟨o1, H, HKo1⟩ := bind_some H
  refine Lst.join (σ := Bool) 4 (fun y2 => [(14, .bool y2)]) (fun y2 => L) (fun _ y2 => y2 = o1) ?_ ?_
  · rcases (Bool.eq_false_or_eq_true (decide (a0 ≥ a1))).symm with hb3 | hb3
    · replace H := ite_f hb3 H
      refine Lst.skip rfl rfl rfl hb3 rfl (by decide) ?_
      refine Lst.skip rfl rfl rfl hb3 rfl (by decide) ?_
      refine Lst.skip rfl rfl rfl hb3 rfl (by decide) ?_
      refine Lst.run rfl rfl (by decide) (Ev.pickF rfl hb3 rfl) ?_
      refine Lst.nil ?_
      exact At.meet false (FLe.refl _) ⟨rfl, trivial⟩ rfl (some_inj H)
    replace H := ite_t hb3 H
    refine Lst.runG rfl rfl rfl hb3 rfl (by decide) (Ev.move rfl) ?_
    refine Lst.runG rfl rfl rfl hb3 rfl (by decide) (Ev.move rfl) ?_
    refine Lst.runG rfl rfl rfl hb3 rfl (by decide) (Ev.leq rfl rfl) ?_
    refine Lst.run rfl rfl (by decide) (Ev.pickT rfl hb3 rfl) ?_
    refine Lst.nil ?_
    exact At.meet (decide (a0 ≤ a2)) (FLe.refl _) ⟨rfl, trivial⟩ rfl (some_inj H)
  rintro F4 y2 hF5 hy
  subst hy
  refine Lst.as (e' := [(14, .bool y2)]) (L' := L) ⟨rfl, trivial⟩ rfl ?_
  replace H := HKo1
  refine Lst.run rfl rfl (by decide) (Ev.assign rfl) ?_
  refine Lst.nil ?_
  refine At.then ?_
  obtain rfl := some_inj H
  refine Cd.ret ?_
  exact At.ret1 rfl (Res.tmp rfl) hF5 (List.Sublist.refl _) ⟨rfl, rfl⟩
set_option maxRecDepth 20000 in
theorem quorum_Votes_1_sim {a0 : Int} {r : Bool} (H : quorum_Votes_1 a0 = some r) (w0 : World) (F : Frz) (M L : List Item) (hM : M.Sublist L) : Ok Try.prog w0 57 [.int .i64 a0] F (L) (Is (.bool r) (L)) := by
  unfold quorum_Votes_1 at H
  refine Ok.enter (m := 1) (n := 6) Try.func57 rfl rfl rfl (by decide) ?_
  refine Cd.env (e' := [(0, .int .i64 a0)]) rfl ?_
  refine Cd.seq ?_
  refine Cd.region ?_
  refine Lst.run rfl rfl (by decide) (Ev.assign rfl) ?_
  refine Lst.nil ?_
  refine At.then ?_
  refine Cd.seq ?_
  refine Cd.region ?_
  refine Lst.run rfl rfl (by decide) (Ev.move rfl) ?_
  obtain ⟨r1, h2, H⟩ := bind_some H
  refine Lst.call1 rfl rfl (by decide) (vs := [.int .i64 a0, .int .i64 (0 : Int), .int .i64 (16777215 : Int)]) ⟨rfl, rfl, rfl, trivial⟩ Try.call52 (quorum_in_sim h2 w0 _ M _ hM) ?_
  refine Lst.run rfl rfl (by decide) (Ev.not rfl) ?_
  refine Lst.run rfl rfl (by decide) (Ev.assign rfl) ?_
  refine Lst.nil ?_
  refine At.then ?_
  obtain rfl := some_inj H
  refine Cd.ret ?_
  exact At.ret1 rfl (Res.tmp rfl) (FLe.refl _) (List.Sublist.refl _) ⟨rfl, rfl⟩
set_option maxRecDepth 20000 in
theorem slices_IndexFunc_int_int_Votes_1_sim {a0 : List Int} {s_a0 : Sl} {r : Int} (H : slices_IndexFunc_int_int_Votes_1 a0 = some r) (w0 : World) (F : Frz) (M L : List Item) (hM : M.Sublist L) (hs_a0 : Rd w0 F M s_a0 a0) : Ok Try.prog w0 101 [Sl.v s_a0, .func (.func 57) #[] #[]] F (L) (Is (.int .i64 r) (L)) := by
  unfold slices_IndexFunc_int_int_Votes_1 at H
  refine Ok.enter (m := 2) (n := 19) Try.func101 rfl rfl rfl (by decide) ?_
  refine Cd.env (e' := [(0, Sl.v s_a0), (1, .func (.func 57) #[] #[])]) rfl ?_
  refine Cd.seq ?_
  refine Cd.region ?_
  refine Lst.run rfl rfl (by decide) (Ev.assign rfl) ?_
  refine Lst.nil ?_
  refine At.then ?_
  refine Cd.seq ?_
  refine Cd.seq ?_
  refine Cd.region ?_
  refine Lst.run rfl rfl (by decide) (Ev.move rfl) ?_
  refine Lst.run rfl rfl (by decide) (Ev.lenS (α := Int) (xs := a0) (by decide) rfl rfl Try.runUnderlying36 (hs_a0.mono (FLe.refl _) hM)) ?_
  refine Lst.run rfl rfl (by decide) (Ev.move rfl) ?_
  refine Lst.nil ?_
  refine At.then ?_
  refine Cd.block ?_
  refine Cd.bound (Rd.le (α := Int) (xs := a0) (by decide) (hs_a0.mono (FLe.refl _) hM)) (fun hN12 => ?_)
  obtain ⟨ol1, H, HKl1⟩ := andThen_some H
  refine Cd.loop (σ := Nat × Nat × Unit) (fun (i1, k1, _u) => [(0, Sl.v s_a0), (1, .func (.func 57) #[] #[]), (7, .int .i64 (a0.length : Int)), (8, .int .i64 (i1 : Int))]) (fun (i1, k1, _u) => L) (fun _ => (fun (i1, k1, _u) => rangeM (slices_IndexFunc_int_int_Votes_1_B0 a0) k1 i1 () = some ol1 ∧ i1 + k1 = a0.length)) (fun (i1, k1, _u) => k1) (0, a0.length, ()) ⟨rfl, rfl, rfl, rfl, trivial⟩ rfl ⟨H, by omega⟩ ?_
  rintro F2 ⟨i1, k1, _u⟩ hF3 ⟨H, hik1⟩
  refine Cd.as (e' := [(0, Sl.v s_a0), (1, .func (.func 57) #[] #[]), (7, .int .i64 (a0.length : Int)), (8, .int .i64 (i1 : Int))]) (L' := L) ⟨rfl, rfl, rfl, rfl, trivial⟩ rfl ?_
  rcases k1 with _ | k1
  · have hc1 : decide ((i1 : Int) < (a0.length : Int)) = false := decide_eq_false (by omega)
    replace H := rangeM_end H
    refine Cd.seq ?_
    refine Cd.region ?_
    refine Lst.run rfl rfl (by decide) (Ev.lss rfl rfl) ?_
    refine Lst.nil ?_
    refine At.then ?_
    refine Cd.seq ?_
    refine Cd.condF rfl hc1 ?_
    refine Cd.exit ?_
    refine At.then_exit ?_
    refine At.then_exit ?_
    refine At.in_exit ?_
    subst H
    replace H := HKl1
    refine At.then ?_
    refine Cd.seq ?_
    refine Cd.region ?_
    refine Lst.run rfl rfl (by decide) (Ev.assign rfl) ?_
    refine Lst.nil ?_
    refine At.then ?_
    obtain rfl := some_inj H
    refine Cd.ret ?_
    exact At.ret1 rfl (Res.tmp rfl) hF3 (List.Sublist.refl _) ⟨rfl, rfl⟩
  have hc1 : decide ((i1 : Int) < (a0.length : Int)) = true := decide_eq_true (by omega)
  obtain ⟨c1, H, hgo1, hbrk1, hret1⟩ := rangeM_go H
  unfold slices_IndexFunc_int_int_Votes_1_B0 at H
  try dsimp only at H
  refine Cd.seq ?_
  refine Cd.region ?_
  refine Lst.run rfl rfl (by decide) (Ev.lss rfl rfl) ?_
  refine Lst.nil ?_
  refine At.then ?_
  refine Cd.seq ?_
  refine Cd.condT rfl hc1 ?_
  refine Cd.skip ?_
  refine At.then ?_
  refine Cd.seq ?_
  refine Cd.block ?_
  refine Cd.seq ?_
  refine Cd.region ?_
  refine Lst.run rfl rfl (by decide) (Ev.move rfl) ?_
  refine Lst.run rfl rfl (by decide) (Ev.assign rfl) ?_
  refine Lst.nil ?_
  refine At.then ?_
  refine Cd.seq ?_
  refine Cd.region ?_
  refine Lst.run rfl rfl (by decide) (Ev.move rfl) ?_
  refine Lst.run rfl rfl (by decide) (Ev.move rfl) ?_
  refine Lst.run rfl rfl (by decide) (Ev.move rfl) ?_
  obtain ⟨x4, h5, H⟩ := bind_some H
  have g6 := lat_some h5
  refine Lst.run rfl rfl (by decide) (Ev.indexS (α := Int) (xs := a0) rfl rfl Try.runUnderlying36 Try.sizeOf3 rfl (by decide) (hs_a0.mono hF3 hM) g6.1 g6.2.1) ?_
  refine Lst.run rfl rfl (by decide) (Ev.loadS (α := Int) rfl (hs_a0.mono hF3 hM) Try.isAgg3 (v := .int .i64 x4) ((Get.elemN (s := 1) (x := x4) rfl g6.2.2 (Get.here _)).off (by omega))) ?_
  obtain ⟨r7, h8, H⟩ := bind_some H
  refine Lst.callV1 rfl rfl (by decide) (vs := [.int .i64 x4]) (cs := []) rfl ⟨rfl, trivial⟩ Try.call57 (quorum_Votes_1_sim h8 w0 _ M _ hM) ?_
  refine Lst.nil ?_
  refine At.then ?_
  rcases Bool.eq_false_or_eq_true r7 with hb11 | hb11
  · replace H := ite_t hb11 H
    refine Cd.condT rfl hb11 ?_
    refine Cd.seq ?_
    refine Cd.region ?_
    refine Lst.run rfl rfl (by decide) (Ev.move rfl) ?_
    refine Lst.run rfl rfl (by decide) (Ev.assign rfl) ?_
    refine Lst.nil ?_
    refine At.then ?_
    have H := hret1 _ (some_inj H).symm
    subst H
    replace H := HKl1
    obtain rfl := some_inj H
    refine Cd.ret ?_
    refine At.in_ret ?_
    refine At.then_ret ?_
    refine At.then_ret ?_
    refine At.in_ret ?_
    refine At.then_ret ?_
    exact At.ret1 rfl (Res.tmp rfl) hF3 (List.Sublist.refl _) ⟨rfl, rfl⟩
  replace H := ite_f hb11 H
  refine Cd.condF rfl hb11 ?_
  refine Cd.skip ?_
  refine At.in_normal ?_
  refine At.then ?_
  refine Cd.region ?_
  refine Lst.run rfl rfl (by decide) (Ev.incr (by omega) rfl rfl) ?_
  refine Lst.run rfl rfl (by decide) (Ev.move rfl) ?_
  refine Lst.nil ?_
  exact At.meet (i1 + 1, k1, ()) hF3 ⟨rfl, rfl, rfl, rfl, trivial⟩ rfl ⟨⟨hgo1 _ (some_inj H).symm, by omega⟩, Nat.lt_succ_self _⟩
set_option maxRecDepth 20000 in
theorem slices_ContainsFunc_int_int_Votes_1_sim {a0 : List Int} {s_a0 : Sl} {r : Bool} (H : slices_ContainsFunc_int_int_Votes_1 a0 = some r) (w0 : World) (F : Frz) (M L : List Item) (hM : M.Sublist L) (hs_a0 : Rd w0 F M s_a0 a0) : Ok Try.prog w0 56 [Sl.v s_a0, .func (.func 57) #[] #[]] F (L) (Is (.bool r) (L)) := by
  unfold slices_ContainsFunc_int_int_Votes_1 at H
  refine Ok.enter (m := 2) (n := 9) Try.func56 rfl rfl rfl (by decide) ?_
  refine Cd.env (e' := [(0, Sl.v s_a0), (1, .func (.func 57) #[] #[])]) rfl ?_
  refine Cd.seq ?_
  refine Cd.region ?_
  refine Lst.run rfl rfl (by decide) (Ev.assign rfl) ?_
  refine Lst.nil ?_
  refine At.then ?_
  refine Cd.seq ?_
  refine Cd.region ?_
  refine Lst.run rfl rfl (by decide) (Ev.move rfl) ?_
  refine Lst.run rfl rfl (by decide) (Ev.move rfl) ?_
  obtain ⟨r1, h2, H⟩ := bind_some H
  refine Lst.call1 rfl rfl (by decide) (vs := [Sl.v s_a0, .func (.func 57) #[] #[]]) ⟨rfl, rfl, trivial⟩ Try.call101 (slices_IndexFunc_int_int_Votes_1_sim h2 w0 _ M _ hM (hs_a0.mono (FLe.refl _) (List.Sublist.refl _))) ?_
  refine Lst.run rfl rfl (by decide) (Ev.geq rfl rfl) ?_
  refine Lst.run rfl rfl (by decide) (Ev.assign rfl) ?_
  refine Lst.nil ?_
  refine At.then ?_
  obtain rfl := some_inj H
  refine Cd.ret ?_
  exact At.ret1 rfl (Res.tmp rfl) (FLe.refl _) (List.Sublist.refl _) ⟨rfl, rfl⟩
set_option maxRecDepth 20000 in
theorem quorum_Votes_2_sim {a0 : BitVec 16} {a1 : List Int} {a2 : Int} {b_a1 : Nat} {s_a1 : Sl} {b_a2 : Nat} {r : Bool} (H : quorum_Votes_2 a0 a1 a2 = some r) (w0 : World) (F : Frz) (M L : List Item) (hM : M.Sublist L) (hs_a1 : Rd w0 F M s_a1 a1) : Ok Try.prog w0 58 [.int .u16 a0.toNat, .pointer (some ⟨b_a1, 0, none⟩), .pointer (some ⟨b_a2, 0, none⟩)] F ((.blk b_a1 (enc s_a1) 36) :: (.blk b_a2 (enc a2) 3) :: L) (Is (.bool r) ((.blk b_a1 (enc s_a1) 36) :: (.blk b_a2 (enc a2) 3) :: L)) := by
  unfold quorum_Votes_2 at H
  refine Ok.enter (m := 3) (n := 28) Try.func58 rfl rfl rfl (by decide) ?_
  refine Cd.env (e' := [(0, .int .u16 a0.toNat), (1, .pointer (some ⟨b_a1, 0, none⟩)), (2, .pointer (some ⟨b_a2, 0, none⟩))]) rfl ?_
  refine Cd.seq ?_
  refine Cd.region ?_
  refine Lst.run rfl rfl (by decide) (Ev.assign rfl) ?_
  refine Lst.nil ?_
  refine At.then ?_
  refine Cd.seq ?_
  refine Cd.region ?_
  refine Lst.run rfl rfl (by decide) (Ev.assign rfl) ?_
  refine Lst.nil ?_
  refine At.then ?_
  refine Cd.seq ?_
  refine Cd.seq ?_
  refine Cd.region ?_
  refine Lst.run rfl rfl (by decide) (Ev.load (i := 0) rfl rfl Try.isAgg36 (v := Sl.v s_a1) (Get.here _)) ?_
  refine Lst.run rfl rfl (by decide) (Ev.lenS (α := Int) (xs := a1) (by decide) rfl rfl Try.runUnderlying36 (hs_a1.mono (FLe.refl _) (List.Sublist.cons _ (List.Sublist.cons _ hM)))) ?_
  refine Lst.run rfl rfl (by decide) (Ev.move rfl) ?_
  refine Lst.nil ?_
  refine At.then ?_
  refine Cd.block ?_
  refine Cd.bound (Rd.le (α := Int) (xs := a1) (by decide) (hs_a1.mono (FLe.refl _) (List.Sublist.cons _ (List.Sublist.cons _ hM)))) (fun hN13 => ?_)
  obtain ⟨ol3, H, HKl3⟩ := bind_some H
  refine Cd.loop (σ := Nat × Nat × Int) (fun (i3, k3, y4) => [(0, .int .u16 a0.toNat), (2, .pointer (some ⟨b_a2, 0, none⟩)), (5, .int .i64 y4), (8, Sl.v s_a1), (9, .int .i64 (a1.length : Int)), (10, .int .i64 (i3 : Int))]) (fun (i3, k3, y4) => (.blk b_a1 (enc s_a1) 36) :: (.blk b_a2 (enc a2) 3) :: L) (fun _ => (fun (i3, k3, y4) => rangeF (quorum_Votes_2_B0 a0 a1) k3 i3 y4 = some ol3 ∧ i3 + k3 = a1.length)) (fun (i3, k3, y4) => k3) (0, a1.length, (0 : Int)) ⟨rfl, rfl, rfl, rfl, rfl, rfl, trivial⟩ rfl ⟨H, by omega⟩ ?_
  rintro F5 ⟨i3, k3, y4⟩ hF6 ⟨H, hik3⟩
  refine Cd.as (e' := [(0, .int .u16 a0.toNat), (2, .pointer (some ⟨b_a2, 0, none⟩)), (5, .int .i64 y4), (8, Sl.v s_a1), (9, .int .i64 (a1.length : Int)), (10, .int .i64 (i3 : Int))]) (L' := (.blk b_a1 (enc s_a1) 36) :: (.blk b_a2 (enc a2) 3) :: L) ⟨rfl, rfl, rfl, rfl, rfl, rfl, trivial⟩ rfl ?_
  rcases k3 with _ | k3
  · have hc3 : decide ((i3 : Int) < (a1.length : Int)) = false := decide_eq_false (by omega)
    replace H := rangeF_end H
    refine Cd.seq ?_
    refine Cd.region ?_
    refine Lst.run rfl rfl (by decide) (Ev.lss rfl rfl) ?_
    refine Lst.nil ?_
    refine At.then ?_
    refine Cd.seq ?_
    refine Cd.condF rfl hc3 ?_
    refine Cd.exit ?_
    refine At.then_exit ?_
    refine At.then_exit ?_
    refine At.in_exit ?_
    subst H
    replace H := HKl3
    refine At.then ?_
    refine Cd.seq ?_
    refine Cd.region ?_
    refine Lst.run rfl rfl (by decide) (Ev.move rfl) ?_
    refine Lst.run rfl rfl (by decide) (Ev.load (i := 1) rfl rfl Try.isAgg3 (v := .int .i64 a2) (Get.here _)) ?_
    refine Lst.run rfl rfl (by decide) (Ev.geq rfl rfl) ?_
    refine Lst.run rfl rfl (by decide) (Ev.assign rfl) ?_
    refine Lst.nil ?_
    refine At.then ?_
    obtain rfl := some_inj H
    refine Cd.ret ?_
    exact At.ret1 rfl (Res.tmp rfl) hF6 (List.Sublist.cons_cons _ (List.Sublist.cons_cons _ (List.Sublist.refl _))) ⟨rfl, rfl⟩
  have hc3 : decide ((i3 : Int) < (a1.length : Int)) = true := decide_eq_true (by omega)
  obtain ⟨c3, H, hgo3⟩ := rangeF_go H
  unfold quorum_Votes_2_B0 at H
  try dsimp only at H
  refine Cd.seq ?_
  refine Cd.region ?_
  refine Lst.run rfl rfl (by decide) (Ev.lss rfl rfl) ?_
  refine Lst.nil ?_
  refine At.then ?_
  refine Cd.seq ?_
  refine Cd.condT rfl hc3 ?_
  refine Cd.skip ?_
  refine At.then ?_
  refine Cd.seq ?_
  refine Cd.block ?_
  refine Cd.seq ?_
  refine Cd.region ?_
  refine Lst.run rfl rfl (by decide) (Ev.move rfl) ?_
  obtain ⟨x7, h8, H⟩ := bind_some H
  have g9 := lat_some h8
  refine Lst.run rfl rfl (by decide) (Ev.indexS (α := Int) (xs := a1) rfl rfl Try.runUnderlying36 Try.sizeOf3 rfl (by decide) (hs_a1.mono hF6 (List.Sublist.cons _ (List.Sublist.cons _ hM))) g9.1 g9.2.1) ?_
  refine Lst.run rfl rfl (by decide) (Ev.loadS (α := Int) rfl (hs_a1.mono hF6 (List.Sublist.cons _ (List.Sublist.cons _ hM))) Try.isAgg3 (v := .int .i64 x7) ((Get.elemN (s := 1) (x := x7) rfl g9.2.2 (Get.here _)).off (by omega))) ?_
  refine Lst.run rfl rfl (by decide) (Ev.assign rfl) ?_
  refine Lst.run rfl rfl (by decide) (Ev.assign rfl) ?_
  refine Lst.nil ?_
  refine At.then ?_
  refine Cd.region ?_
  refine Lst.run rfl rfl (by decide) (Ev.move rfl) ?_
  refine Lst.run rfl rfl (by decide) (Ev.move rfl) ?_
  refine Lst.run rfl rfl (by decide) (Ev.move rfl) ?_
  refine Lst.run rfl rfl (by decide) (Ev.move rfl) ?_
  obtain ⟨n10, h11, H⟩ := bind_some H
  refine Lst.run rfl rfl (by decide) (Ev.shrU16 (i := a0) (m := n10) rfl (congrArg some (congrArg (Value.int .i64) (cnt_some h11)))) ?_
  refine Lst.run rfl rfl (by decide) (Ev.andU16 (i := a0 >>> n10) (j := (1 : BitVec 16)) rfl rfl) ?_
  refine Lst.run rfl rfl (by decide) (Ev.convIS (j := (((a0 >>> n10) &&& (1 : BitVec 16)).toNat : Int)) rfl Try.runUnderlying23 Try.runUnderlying3 (w64_id (by omega) (by omega))) ?_
  refine Lst.run rfl rfl (by decide) (Ev.mul rfl rfl) ?_
  refine Lst.run rfl rfl (by decide) (Ev.add rfl rfl) ?_
  refine Lst.run rfl rfl (by decide) (Ev.assign rfl) ?_
  refine Lst.nil ?_
  refine At.in_normal ?_
  refine At.then ?_
  refine Cd.as (e' := [(0, .int .u16 a0.toNat), (2, .pointer (some ⟨b_a2, 0, none⟩)), (5, .int .i64 (w64 (y4 + (w64 (x7 * (((a0 >>> n10) &&& (1 : BitVec 16)).toNat : Int)))))), (8, Sl.v s_a1), (9, .int .i64 (a1.length : Int)), (10, .int .i64 (i3 : Int))]) (L' := (.blk b_a1 (enc s_a1) 36) :: (.blk b_a2 (enc a2) 3) :: L) ⟨rfl, rfl, rfl, rfl, rfl, rfl, trivial⟩ rfl ?_
  refine Cd.region ?_
  refine Lst.run rfl rfl (by decide) (Ev.incr (by omega) rfl rfl) ?_
  refine Lst.run rfl rfl (by decide) (Ev.move rfl) ?_
  refine Lst.nil ?_
  exact At.meet (i3 + 1, k3, w64 (y4 + (w64 (x7 * (((a0 >>> n10) &&& (1 : BitVec 16)).toNat : Int))))) hF6 ⟨rfl, rfl, rfl, rfl, rfl, rfl, trivial⟩ rfl ⟨⟨hgo3 _ (some_inj H).symm, by omega⟩, Nat.lt_succ_self _⟩
set_option maxRecDepth 20000 in
theorem math_bits_Len64_sim {a0 : BitVec 64} {r : Int} (H : math_bits_Len64 a0 = some r) (w0 : World) (F : Frz) (M L : List Item) (hM : M.Sublist L) : Ok Try.prog w0 125 [.int .u64 a0.toNat] F (L) (Is (.int .i64 r) (L)) := by
  unfold math_bits_Len64 at H
  refine Ok.enter (m := 1) (n := 25) Try.func125 rfl rfl rfl (by decide) ?_
  refine Cd.env (e' := [(0, .int .u64 a0.toNat)]) rfl ?_
  refine Cd.seq ?_
  refine Cd.region ?_
  refine Lst.run rfl rfl (by decide) (Ev.assign rfl) ?_
  refine Lst.nil ?_
  refine At.then ?_
  obtain ⟨o3, H, HKo3⟩ := bind_some H
  refine Cd.join (σ := (BitVec 64) × Int) (fun (y1, y2) => [(0, .int .u64 y1.toNat), (2, .int .i64 y2)]) (fun (y1, y2) => L) (fun _ (y1, y2) => (y1, y2) = o3) ?_ ?_
  · refine Cd.seq ?_
    refine Cd.region ?_
    refine Lst.run rfl rfl (by decide) (Ev.move rfl) ?_
    refine Lst.run rfl rfl (by decide) (Ev.geq rfl rfl) ?_
    refine Lst.nil ?_
    refine At.then ?_
    rcases (Bool.eq_false_or_eq_true (decide ((a0.toNat : Int) ≥ ((4294967296 : BitVec 64).toNat : Int)))).symm with hb4 | hb4
    · replace H := ite_f hb4 H
      refine Cd.condF rfl hb4 ?_
      refine Cd.skip ?_
      exact At.meet (a0, (0 : Int)) (FLe.refl _) ⟨rfl, rfl, trivial⟩ rfl (some_inj H)
    replace H := ite_t hb4 H
    refine Cd.condT rfl hb4 ?_
    refine Cd.seq ?_
    refine Cd.region ?_
    refine Lst.run rfl rfl (by decide) (Ev.move rfl) ?_
    refine Lst.run rfl rfl (by decide) (Ev.shrU64 (i := a0) (m := 32) rfl rfl) ?_
    refine Lst.run rfl rfl (by decide) (Ev.assign rfl) ?_
    refine Lst.nil ?_
    refine At.then ?_
    refine Cd.region ?_
    refine Lst.run rfl rfl (by decide) (Ev.assign rfl) ?_
    refine Lst.nil ?_
    exact At.meet (a0 >>> 32, (32 : Int)) (FLe.refl _) ⟨rfl, rfl, trivial⟩ rfl (some_inj H)
  rintro F5 ⟨y1, y2⟩ hF6 hy
  subst hy
  refine Cd.as (e' := [(0, .int .u64 y1.toNat), (2, .int .i64 y2)]) (L' := L) ⟨rfl, rfl, trivial⟩ rfl ?_
  replace H := HKo3
  obtain ⟨o9, H, HKo9⟩ := bind_some H
  refine Cd.join (σ := (BitVec 64) × Int) (fun (y7, y8) => [(0, .int .u64 y7.toNat), (2, .int .i64 y8)]) (fun (y7, y8) => L) (fun _ (y7, y8) => (y7, y8) = o9) ?_ ?_
  · refine Cd.seq ?_
    refine Cd.region ?_
    refine Lst.run rfl rfl (by decide) (Ev.move rfl) ?_
    refine Lst.run rfl rfl (by decide) (Ev.geq rfl rfl) ?_
    refine Lst.nil ?_
    refine At.then ?_
    rcases (Bool.eq_false_or_eq_true (decide ((y1.toNat : Int) ≥ ((65536 : BitVec 64).toNat : Int)))).symm with hb10 | hb10
    · replace H := ite_f hb10 H
      refine Cd.condF rfl hb10 ?_
      refine Cd.skip ?_
      exact At.meet (y1, y2) (FLe.refl _) ⟨rfl, rfl, trivial⟩ rfl (some_inj H)
    replace H := ite_t hb10 H
    refine Cd.condT rfl hb10 ?_
    refine Cd.seq ?_
    refine Cd.region ?_
    refine Lst.run rfl rfl (by decide) (Ev.move rfl) ?_
    refine Lst.run rfl rfl (by decide) (Ev.shrU64 (i := y1) (m := 16) rfl rfl) ?_
    refine Lst.run rfl rfl (by decide) (Ev.assign rfl) ?_
    refine Lst.nil ?_
    refine At.then ?_
    refine Cd.region ?_
    refine Lst.run rfl rfl (by decide) (Ev.move rfl) ?_
    refine Lst.run rfl rfl (by decide) (Ev.add rfl rfl) ?_
    refine Lst.run rfl rfl (by decide) (Ev.assign rfl) ?_
    refine Lst.nil ?_
    exact At.meet (y1 >>> 16, w64 (y2 + (16 : Int))) (FLe.refl _) ⟨rfl, rfl, trivial⟩ rfl (some_inj H)
  rintro F11 ⟨y7, y8⟩ hF12 hy
  subst hy
  refine Cd.as (e' := [(0, .int .u64 y7.toNat), (2, .int .i64 y8)]) (L' := L) ⟨rfl, rfl, trivial⟩ rfl ?_
  replace H := HKo9
  obtain ⟨o15, H, HKo15⟩ := bind_some H
  refine Cd.join (σ := (BitVec 64) × Int) (fun (y13, y14) => [(0, .int .u64 y13.toNat), (2, .int .i64 y14)]) (fun (y13, y14) => L) (fun _ (y13, y14) => (y13, y14) = o15) ?_ ?_
  · refine Cd.seq ?_
    refine Cd.region ?_
    refine Lst.run rfl rfl (by decide) (Ev.move rfl) ?_
    refine Lst.run rfl rfl (by decide) (Ev.geq rfl rfl) ?_
    refine Lst.nil ?_
    refine At.then ?_
    rcases (Bool.eq_false_or_eq_true (decide ((y7.toNat : Int) ≥ ((256 : BitVec 64).toNat : Int)))).symm with hb16 | hb16
    · replace H := ite_f hb16 H
      refine Cd.condF rfl hb16 ?_
      refine Cd.skip ?_
      exact At.meet (y7, y8) (FLe.refl _) ⟨rfl, rfl, trivial⟩ rfl (some_inj H)
    replace H := ite_t hb16 H
    refine Cd.condT rfl hb16 ?_
    refine Cd.seq ?_
    refine Cd.region ?_
    refine Lst.run rfl rfl (by decide) (Ev.move rfl) ?_
    refine Lst.run rfl rfl (by decide) (Ev.shrU64 (i := y7) (m := 8) rfl rfl) ?_
    refine Lst.run rfl rfl (by decide) (Ev.assign rfl) ?_
    refine Lst.nil ?_
    refine At.then ?_
    refine Cd.region ?_
    refine Lst.run rfl rfl (by decide) (Ev.move rfl) ?_
    refine Lst.run rfl rfl (by decide) (Ev.add rfl rfl) ?_
    refine Lst.run rfl rfl (by decide) (Ev.assign rfl) ?_
    refine Lst.nil ?_
    exact At.meet (y7 >>> 8, w64 (y8 + (8 : Int))) (FLe.refl _) ⟨rfl, rfl, trivial⟩ rfl (some_inj H)
  rintro F17 ⟨y13, y14⟩ hF18 hy
  subst hy
  refine Cd.as (e' := [(0, .int .u64 y13.toNat), (2, .int .i64 y14)]) (L' := L) ⟨rfl, rfl, trivial⟩ rfl ?_
  replace H := HKo15
  refine Cd.seq ?_
  refine Cd.region ?_
  refine Lst.run rfl rfl (by decide) (Ev.move rfl) ?_
  refine Lst.run rfl rfl (by decide) (Ev.move rfl) ?_
  refine Lst.run rfl rfl (by decide) (Ev.convTo8 rfl Try.runUnderlying148 Try.runUnderlying5) ?_
  obtain ⟨x19, h20, H⟩ := bind_some H
  refine Lst.run rfl rfl (by decide) (Ev.indexStr rfl rfl Try.runUnderlying9 h20) ?_
  refine Lst.run rfl rfl (by decide) (Ev.convIS (j := (x19.toBitVec.toNat : Int)) rfl Try.runUnderlying5 Try.runUnderlying3 (w64_id (by omega) (by omega))) ?_
  refine Lst.run rfl rfl (by decide) (Ev.add rfl rfl) ?_
  refine Lst.run rfl rfl (by decide) (Ev.assign rfl) ?_
  refine Lst.nil ?_
  refine At.then ?_
  obtain rfl := some_inj H
  refine Cd.ret ?_
  exact At.ret1 rfl (Res.tmp rfl) (FLe.trans (FLe.trans hF6 hF12) hF18) (List.Sublist.refl _) ⟨rfl, rfl⟩
set_option maxRecDepth 20000 in
theorem math_bits_Len_sim {a0 : BitVec 64} {r : Int} (H : math_bits_Len a0 = some r) (w0 : World) (F : Frz) (M L : List Item) (hM : M.Sublist L) : Ok Try.prog w0 106 [.int .u64 a0.toNat] F (L) (Is (.int .i64 r) (L)) := by
  unfold math_bits_Len at H
  refine Ok.enter (m := 1) (n := 8) Try.func106 rfl rfl rfl (by decide) ?_
  refine Cd.env (e' := [(0, .int .u64 a0.toNat)]) rfl ?_
  refine Cd.seq ?_
  refine Cd.region ?_
  refine Lst.run rfl rfl (by decide) (Ev.assign rfl) ?_
  refine Lst.nil ?_
  refine At.then ?_
  refine Cd.seq ?_
  refine Cd.condF rfl rfl ?_
  refine Cd.skip ?_
  refine At.then ?_
  refine Cd.seq ?_
  refine Cd.region ?_
  refine Lst.run rfl rfl (by decide) (Ev.move rfl) ?_
  obtain ⟨r1, h2, H⟩ := bind_some H
  refine Lst.call1 rfl rfl (by decide) (vs := [.int .u64 a0.toNat]) ⟨rfl, trivial⟩ Try.call125 (math_bits_Len64_sim h2 w0 _ M _ hM) ?_
  refine Lst.run rfl rfl (by decide) (Ev.assign rfl) ?_
  refine Lst.nil ?_
  refine At.then ?_
  obtain rfl := some_inj H
  refine Cd.ret ?_
  exact At.ret1 rfl (Res.tmp rfl) (FLe.refl _) (List.Sublist.refl _) ⟨rfl, rfl⟩
set_option maxRecDepth 20000 in
theorem math_bits_OnesCount16_sim {a0 : BitVec 16} {r : Int} (H : math_bits_OnesCount16 a0 = some r) (w0 : World) (F : Frz) (M L : List Item) (hM : M.Sublist L) : Ok Try.prog w0 99 [.int .u16 a0.toNat] F (L) (Is (.int .i64 r) (L)) := by
  unfold math_bits_OnesCount16 at H
  refine Ok.enter (m := 1) (n := 11) Try.func99 rfl rfl rfl (by decide) ?_
  refine Cd.env (e' := [(0, .int .u16 a0.toNat)]) rfl ?_
  refine Cd.seq ?_
  refine Cd.region ?_
  refine Lst.run rfl rfl (by decide) (Ev.assign rfl) ?_
  refine Lst.nil ?_
  refine At.then ?_
  refine Cd.seq ?_
  refine Cd.quiet (by kernel_rfl) (by kernel_rfl) ?_
  refine Qt.run rfl rfl (by decide) (Ev.move rfl) ?_
  refine Qt.run rfl rfl (by decide) (Ev.shrU16 (i := a0) (m := 8) rfl rfl) ?_
  obtain ⟨x1, h2, H⟩ := bind_some H
  refine Qt.run rfl rfl (by decide) (Ev.indexStr rfl rfl Try.runUnderlying9 h2) ?_
  refine Qt.run rfl rfl (by decide) (Ev.move rfl) ?_
  refine Qt.run rfl rfl (by decide) (Ev.andU16 (i := a0) (j := (255 : BitVec 16)) rfl rfl) ?_
  obtain ⟨x3, h4, H⟩ := bind_some H
  refine Qt.run rfl rfl (by decide) (Ev.indexStr rfl rfl Try.runUnderlying9 h4) ?_
  refine Qt.run rfl rfl (by decide) (Ev.addU8 (i := x1.toBitVec) (j := x3.toBitVec) rfl rfl) ?_
  refine Qt.run rfl rfl (by decide) (Ev.convIS (j := ((x1.toBitVec + x3.toBitVec).toNat : Int)) rfl Try.runUnderlying5 Try.runUnderlying3 (w64_id (by omega) (by omega))) ?_
  refine Qt.run rfl rfl (by decide) (Ev.assign rfl) ?_
  refine Qt.done ?_
  refine At.then ?_
  obtain rfl := some_inj H
  refine Cd.ret ?_
  exact At.ret1 rfl (Res.tmp rfl) (FLe.refl _) (List.Sublist.refl _) ⟨rfl, rfl⟩
set_option maxRecDepth 20000 in
theorem cmp_isNaN_int_sim {a0 : Int} {r : Bool} (H : cmp_isNaN_int a0 = some r) (w0 : World) (F : Frz) (M L : List Item) (hM : M.Sublist L) : Ok Try.prog w0 113 [.int .i64 a0] F (L) (Is (.bool r) (L)) := by
  unfold cmp_isNaN_int at H
  refine Ok.enter (m := 1) (n := 6) Try.func113 rfl rfl rfl (by decide) ?_
  refine Cd.env (e' := [(0, .int .i64 a0)]) rfl ?_
  refine Cd.seq ?_
  refine Cd.region ?_
  refine Lst.run rfl rfl (by decide) (Ev.assign rfl) ?_
  refine Lst.nil ?_
  refine At.then ?_
  refine Cd.seq ?_
  refine Cd.region ?_
  refine Lst.run rfl rfl (by decide) (Ev.move rfl) ?_
  refine Lst.run rfl rfl (by decide) (Ev.move rfl) ?_
  refine Lst.run rfl rfl (by decide) (Ev.neq rfl rfl) ?_
  refine Lst.run rfl rfl (by decide) (Ev.assign rfl) ?_
  refine Lst.nil ?_
  refine At.then ?_
  obtain rfl := some_inj H
  refine Cd.ret ?_
  exact At.ret1 rfl (Res.tmp rfl) (FLe.refl _) (List.Sublist.refl _) ⟨rfl, rfl⟩
set_option maxRecDepth 20000 in
theorem cmp_Compare_int_sim {a0 : Int} {a1 : Int} {r : Int} (H : cmp_Compare_int a0 a1 = some r) (w0 : World) (F : Frz) (M L : List Item) (hM : M.Sublist L) : Ok Try.prog w0 98 [.int .i64 a0, .int .i64 a1] F (L) (Is (.int .i64 r) (L)) := by
  unfold cmp_Compare_int at H
  refine Ok.enter (m := 2) (n := 20) Try.func98 rfl rfl rfl (by decide) ?_
  refine Cd.env (e' := [(0, .int .i64 a0), (1, .int .i64 a1)]) rfl ?_
  refine Cd.seq ?_
  refine Cd.region ?_
  refine Lst.run rfl rfl (by decide) (Ev.assign rfl) ?_
  refine Lst.nil ?_
  refine At.then ?_
  refine Cd.seq ?_
  refine Cd.region ?_
  refine Lst.run rfl rfl (by decide) (Ev.move rfl) ?_
  obtain ⟨r1, h2, H⟩ := bind_some H
  refine Lst.call1 rfl rfl (by decide) (vs := [.int .i64 a0]) ⟨rfl, trivial⟩ Try.call113 (cmp_isNaN_int_sim h2 w0 _ M _ hM) ?_
  refine Lst.run rfl rfl (by decide) (Ev.assign rfl) ?_
  refine Lst.nil ?_
  refine At.then ?_
  refine Cd.seq ?_
  refine Cd.region ?_
  refine Lst.run rfl rfl (by decide) (Ev.move rfl) ?_
  obtain ⟨r5, h6, H⟩ := bind_some H
  refine Lst.call1 rfl rfl (by decide) (vs := [.int .i64 a1]) ⟨rfl, trivial⟩ Try.call113 (cmp_isNaN_int_sim h6 w0 _ M _ hM) ?_
  refine Lst.run rfl rfl (by decide) (Ev.assign rfl) ?_
  refine Lst.nil ?_
  refine At.then ?_
  refine Cd.seq ?_
  refine Cd.seq ?_
  refine Cd.region ?_
  refine Lst.run rfl rfl (by decide) (Ev.move rfl) ?_
  refine Lst.nil ?_
  refine At.then ?_
  rcases Bool.eq_false_or_eq_true r1 with hb9 | hb9
  · replace H := ite_t hb9 H
    refine Cd.condT rfl hb9 ?_
    refine Cd.seq ?_
    refine Cd.seq ?_
    refine Cd.region ?_
    refine Lst.run rfl rfl (by decide) (Ev.move rfl) ?_
    refine Lst.nil ?_
    refine At.then ?_
    rcases Bool.eq_false_or_eq_true r5 with hb10 | hb10
    · replace H := ite_t hb10 H
      refine Cd.condT rfl hb10 ?_
      refine Cd.seq ?_
      refine Cd.region ?_
      refine Lst.run rfl rfl (by decide) (Ev.assign rfl) ?_
      refine Lst.nil ?_
      refine At.then ?_
      obtain rfl := some_inj H
      refine Cd.ret ?_
      refine At.then_ret ?_
      refine At.then_ret ?_
      exact At.ret1 rfl (Res.tmp rfl) (FLe.refl _) (List.Sublist.refl _) ⟨rfl, rfl⟩
    replace H := ite_f hb10 H
    refine Cd.condF rfl hb10 ?_
    refine Cd.skip ?_
    refine At.then ?_
    refine Cd.seq ?_
    refine Cd.region ?_
    refine Lst.run rfl rfl (by decide) (Ev.assign rfl) ?_
    refine Lst.nil ?_
    refine At.then ?_
    obtain rfl := some_inj H
    refine Cd.ret ?_
    refine At.then_ret ?_
    exact At.ret1 rfl (Res.tmp rfl) (FLe.refl _) (List.Sublist.refl _) ⟨rfl, rfl⟩
  replace H := ite_f hb9 H
  refine Cd.condF rfl hb9 ?_
  refine Cd.skip ?_
  refine At.then ?_
  refine Cd.seq ?_
  refine Cd.seq ?_
  refine Cd.region ?_
  refine Lst.run rfl rfl (by decide) (Ev.move rfl) ?_
  refine Lst.nil ?_
  refine At.then ?_
  rcases Bool.eq_false_or_eq_true r5 with hb11 | hb11
  · replace H := ite_t hb11 H
    refine Cd.condT rfl hb11 ?_
    refine Cd.seq ?_
    refine Cd.region ?_
    refine Lst.run rfl rfl (by decide) (Ev.assign rfl) ?_
    refine Lst.nil ?_
    refine At.then ?_
    obtain rfl := some_inj H
    refine Cd.ret ?_
    refine At.then_ret ?_
    exact At.ret1 rfl (Res.tmp rfl) (FLe.refl _) (List.Sublist.refl _) ⟨rfl, rfl⟩
  replace H := ite_f hb11 H
  refine Cd.condF rfl hb11 ?_
  refine Cd.skip ?_
  refine At.then ?_
  refine Cd.seq ?_
  refine Cd.seq ?_
  refine Cd.region ?_
  refine Lst.run rfl rfl (by decide) (Ev.move rfl) ?_
  refine Lst.run rfl rfl (by decide) (Ev.move rfl) ?_
  refine Lst.run rfl rfl (by decide) (Ev.lss rfl rfl) ?_
  refine Lst.nil ?_
  refine At.then ?_
  rcases Bool.eq_false_or_eq_true (decide (a0 < a1)) with hb12 | hb12
  · replace H := ite_t hb12 H
    refine Cd.condT rfl hb12 ?_
    refine Cd.seq ?_
    refine Cd.region ?_
    refine Lst.run rfl rfl (by decide) (Ev.assign rfl) ?_
    refine Lst.nil ?_
    refine At.then ?_
    obtain rfl := some_inj H
    refine Cd.ret ?_
    refine At.then_ret ?_
    exact At.ret1 rfl (Res.tmp rfl) (FLe.refl _) (List.Sublist.refl _) ⟨rfl, rfl⟩
  replace H := ite_f hb12 H
  refine Cd.condF rfl hb12 ?_
  refine Cd.skip ?_
  refine At.then ?_
  refine Cd.seq ?_
  refine Cd.seq ?_
  refine Cd.region ?_
  refine Lst.run rfl rfl (by decide) (Ev.move rfl) ?_
  refine Lst.run rfl rfl (by decide) (Ev.move rfl) ?_
  refine Lst.run rfl rfl (by decide) (Ev.gtr rfl rfl) ?_
  refine Lst.nil ?_
  refine At.then ?_
  rcases Bool.eq_false_or_eq_true (decide (a0 > a1)) with hb13 | hb13
  · replace H := ite_t hb13 H
    refine Cd.condT rfl hb13 ?_
    refine Cd.seq ?_
    refine Cd.as (e' := []) (L' := L) trivial rfl ?_
    refine Cd.region ?_
    refine Lst.run rfl rfl (by decide) (Ev.assign rfl) ?_
    refine Lst.nil ?_
    refine At.then ?_
    obtain rfl := some_inj H
    refine Cd.ret ?_
    refine At.then_ret ?_
    exact At.ret1 rfl (Res.tmp rfl) (FLe.refl _) (List.Sublist.refl _) ⟨rfl, rfl⟩
  replace H := ite_f hb13 H
  refine Cd.condF rfl hb13 ?_
  refine Cd.skip ?_
  refine At.then ?_
  refine Cd.seq ?_
  refine Cd.as (e' := []) (L' := L) trivial rfl ?_
  refine Cd.region ?_
  refine Lst.run rfl rfl (by decide) (Ev.assign rfl) ?_
  refine Lst.nil ?_
  refine At.then ?_
  obtain rfl := some_inj H
  refine Cd.ret ?_
  exact At.ret1 rfl (Res.tmp rfl) (FLe.refl _) (List.Sublist.refl _) ⟨rfl, rfl⟩
set_option maxRecDepth 20000 in
theorem cmp_isNaN_uint16_sim {a0 : BitVec 16} {r : Bool} (H : cmp_isNaN_uint16 a0 = some r) (w0 : World) (F : Frz) (M L : List Item) (hM : M.Sublist L) : Ok Try.prog w0 114 [.int .u16 a0.toNat] F (L) (Is (.bool r) (L)) := by
  unfold cmp_isNaN_uint16 at H
  refine Ok.enter (m := 1) (n := 6) Try.func114 rfl rfl rfl (by decide) ?_
  refine Cd.env (e' := [(0, .int .u16 a0.toNat)]) rfl ?_
  refine Cd.seq ?_
  refine Cd.region ?_
  refine Lst.run rfl rfl (by decide) (Ev.assign rfl) ?_
  refine Lst.nil ?_
  refine At.then ?_
  refine Cd.seq ?_
  refine Cd.region ?_
  refine Lst.run rfl rfl (by decide) (Ev.move rfl) ?_
  refine Lst.run rfl rfl (by decide) (Ev.move rfl) ?_
  refine Lst.run rfl rfl (by decide) (Ev.neq rfl rfl) ?_
  refine Lst.run rfl rfl (by decide) (Ev.assign rfl) ?_
  refine Lst.nil ?_
  refine At.then ?_
  obtain rfl := some_inj H
  refine Cd.ret ?_
  exact At.ret1 rfl (Res.tmp rfl) (FLe.refl _) (List.Sublist.refl _) ⟨rfl, rfl⟩
set_option maxRecDepth 20000 in
theorem cmp_Compare_uint16_sim {a0 : BitVec 16} {a1 : BitVec 16} {r : Int} (H : cmp_Compare_uint16 a0 a1 = some r) (w0 : World) (F : Frz) (M L : List Item) (hM : M.Sublist L) : Ok Try.prog w0 100 [.int .u16 a0.toNat, .int .u16 a1.toNat] F (L) (Is (.int .i64 r) (L)) := by
  unfold cmp_Compare_uint16 at H
  refine Ok.enter (m := 2) (n := 20) Try.func100 rfl rfl rfl (by decide) ?_
  refine Cd.env (e' := [(0, .int .u16 a0.toNat), (1, .int .u16 a1.toNat)]) rfl ?_
  refine Cd.seq ?_
  refine Cd.region ?_
  refine Lst.run rfl rfl (by decide) (Ev.assign rfl) ?_
  refine Lst.nil ?_
  refine At.then ?_
  refine Cd.seq ?_
  refine Cd.region ?_
  refine Lst.run rfl rfl (by decide) (Ev.move rfl) ?_
  obtain ⟨r1, h2, H⟩ := bind_some H
  refine Lst.call1 rfl rfl (by decide) (vs := [.int .u16 a0.toNat]) ⟨rfl, trivial⟩ Try.call114 (cmp_isNaN_uint16_sim h2 w0 _ M _ hM) ?_
  refine Lst.run rfl rfl (by decide) (Ev.assign rfl) ?_
  refine Lst.nil ?_
  refine At.then ?_
  refine Cd.seq ?_
  refine Cd.region ?_
  refine Lst.run rfl rfl (by decide) (Ev.move rfl) ?_
  obtain ⟨r5, h6, H⟩ := bind_some H
  refine Lst.call1 rfl rfl (by decide) (vs := [.int .u16 a1.toNat]) ⟨rfl, trivial⟩ Try.call114 (cmp_isNaN_uint16_sim h6 w0 _ M _ hM) ?_
  refine Lst.run rfl rfl (by decide) (Ev.assign rfl) ?_
  refine Lst.nil ?_
  refine At.then ?_
  refine Cd.seq ?_
  refine Cd.seq ?_
  refine Cd.region ?_
  refine Lst.run rfl rfl (by decide) (Ev.move rfl) ?_
  refine Lst.nil ?_
  refine At.then ?_
  rcases Bool.eq_false_or_eq_true r1 with hb9 | hb9
  · replace H := ite_t hb9 H
    refine Cd.condT rfl hb9 ?_
    refine Cd.seq ?_
    refine Cd.seq ?_
    refine Cd.region ?_
    refine Lst.run rfl rfl (by decide) (Ev.move rfl) ?_
    refine Lst.nil ?_
    refine At.then ?_
    rcases Bool.eq_false_or_eq_true r5 with hb10 | hb10
    · replace H := ite_t hb10 H
      refine Cd.condT rfl hb10 ?_
      refine Cd.seq ?_
      refine Cd.region ?_
      refine Lst.run rfl rfl (by decide) (Ev.assign rfl) ?_
      refine Lst.nil ?_
      refine At.then ?_
      obtain rfl := some_inj H
      refine Cd.ret ?_
      refine At.then_ret ?_
      refine At.then_ret ?_
      exact At.ret1 rfl (Res.tmp rfl) (FLe.refl _) (List.Sublist.refl _) ⟨rfl, rfl⟩
    replace H := ite_f hb10 H
    refine Cd.condF rfl hb10 ?_
    refine Cd.skip ?_
    refine At.then ?_
    refine Cd.seq ?_
    refine Cd.region ?_
    refine Lst.run rfl rfl (by decide) (Ev.assign rfl) ?_
    refine Lst.nil ?_
    refine At.then ?_
    obtain rfl := some_inj H
    refine Cd.ret ?_
    refine At.then_ret ?_
    exact At.ret1 rfl (Res.tmp rfl) (FLe.refl _) (List.Sublist.refl _) ⟨rfl, rfl⟩
  replace H := ite_f hb9 H
  refine Cd.condF rfl hb9 ?_
  refine Cd.skip ?_
  refine At.then ?_
  refine Cd.seq ?_
  refine Cd.seq ?_
  refine Cd.region ?_
  refine Lst.run rfl rfl (by decide) (Ev.move rfl) ?_
  refine Lst.nil ?_
  refine At.then ?_
  rcases Bool.eq_false_or_eq_true r5 with hb11 | hb11
  · replace H := ite_t hb11 H
    refine Cd.condT rfl hb11 ?_
    refine Cd.seq ?_
    refine Cd.region ?_
    refine Lst.run rfl rfl (by decide) (Ev.assign rfl) ?_
    refine Lst.nil ?_
    refine At.then ?_
    obtain rfl := some_inj H
    refine Cd.ret ?_
    refine At.then_ret ?_
    exact At.ret1 rfl (Res.tmp rfl) (FLe.refl _) (List.Sublist.refl _) ⟨rfl, rfl⟩
  replace H := ite_f hb11 H
  refine Cd.condF rfl hb11 ?_
  refine Cd.skip ?_
  refine At.then ?_
  refine Cd.seq ?_
  refine Cd.seq ?_
  refine Cd.region ?_
  refine Lst.run rfl rfl (by decide) (Ev.move rfl) ?_
  refine Lst.run rfl rfl (by decide) (Ev.move rfl) ?_
  refine Lst.run rfl rfl (by decide) (Ev.lss rfl rfl) ?_
  refine Lst.nil ?_
  refine At.then ?_
  rcases Bool.eq_false_or_eq_true (decide ((a0.toNat : Int) < (a1.toNat : Int))) with hb12 | hb12
  · replace H := ite_t hb12 H
    refine Cd.condT rfl hb12 ?_
    refine Cd.seq ?_
    refine Cd.region ?_
    refine Lst.run rfl rfl (by decide) (Ev.assign rfl) ?_
    refine Lst.nil ?_
    refine At.then ?_
    obtain rfl := some_inj H
    refine Cd.ret ?_
    refine At.then_ret ?_
    exact At.ret1 rfl (Res.tmp rfl) (FLe.refl _) (List.Sublist.refl _) ⟨rfl, rfl⟩
  replace H := ite_f hb12 H
  refine Cd.condF rfl hb12 ?_
  refine Cd.skip ?_
  refine At.then ?_
  refine Cd.seq ?_
  refine Cd.seq ?_
  refine Cd.region ?_
  refine Lst.run rfl rfl (by decide) (Ev.move rfl) ?_
  refine Lst.run rfl rfl (by decide) (Ev.move rfl) ?_
  refine Lst.run rfl rfl (by decide) (Ev.gtr rfl rfl) ?_
  refine Lst.nil ?_
  refine At.then ?_
  rcases Bool.eq_false_or_eq_true (decide ((a0.toNat : Int) > (a1.toNat : Int))) with hb13 | hb13
  · replace H := ite_t hb13 H
    refine Cd.condT rfl hb13 ?_
    refine Cd.seq ?_
    refine Cd.as (e' := []) (L' := L) trivial rfl ?_
    refine Cd.region ?_
    refine Lst.run rfl rfl (by decide) (Ev.assign rfl) ?_
    refine Lst.nil ?_
    refine At.then ?_
    obtain rfl := some_inj H
    refine Cd.ret ?_
    refine At.then_ret ?_
    exact At.ret1 rfl (Res.tmp rfl) (FLe.refl _) (List.Sublist.refl _) ⟨rfl, rfl⟩
  replace H := ite_f hb13 H
  refine Cd.condF rfl hb13 ?_
  refine Cd.skip ?_
  refine At.then ?_
  refine Cd.seq ?_
  refine Cd.as (e' := []) (L' := L) trivial rfl ?_
  refine Cd.region ?_
  refine Lst.run rfl rfl (by decide) (Ev.assign rfl) ?_
  refine Lst.nil ?_
  refine At.then ?_
  obtain rfl := some_inj H
  refine Cd.ret ?_
  exact At.ret1 rfl (Res.tmp rfl) (FLe.refl _) (List.Sublist.refl _) ⟨rfl, rfl⟩
set_option maxRecDepth 20000 in
theorem cmp_Or_int_sim {a0 : List Int} {s_a0 : Sl} {r : Int} (H : cmp_Or_int a0 = some r) (w0 : World) (F : Frz) (M L : List Item) (hM : M.Sublist L) (hs_a0 : Rd w0 F M s_a0 a0) : Ok Try.prog w0 97 [Sl.v s_a0] F (L) (Is (.int .i64 r) (L)) := by
  unfold cmp_Or_int at H
  refine Ok.enter (m := 1) (n := 18) Try.func97 rfl rfl rfl (by decide) ?_
  refine Cd.env (e' := [(0, Sl.v s_a0)]) rfl ?_
  refine Cd.seq ?_
  refine Cd.region ?_
  refine Lst.run rfl rfl (by decide) (Ev.assign rfl) ?_
  refine Lst.nil ?_
  refine At.then ?_
  refine Cd.seq ?_
  refine Cd.region ?_
  refine Lst.run rfl rfl (by decide) (Ev.assign rfl) ?_
  refine Lst.nil ?_
  refine At.then ?_
  refine Cd.seq ?_
  refine Cd.seq ?_
  refine Cd.region ?_
  refine Lst.run rfl rfl (by decide) (Ev.move rfl) ?_
  refine Lst.run rfl rfl (by decide) (Ev.lenS (α := Int) (xs := a0) (by decide) rfl rfl Try.runUnderlying36 (hs_a0.mono (FLe.refl _) hM)) ?_
  refine Lst.run rfl rfl (by decide) (Ev.move rfl) ?_
  refine Lst.nil ?_
  refine At.then ?_
  refine Cd.block ?_
  refine Cd.bound (Rd.le (α := Int) (xs := a0) (by decide) (hs_a0.mono (FLe.refl _) hM)) (fun hN8 => ?_)
  obtain ⟨ol1, H, HKl1⟩ := andThen_some H
  refine Cd.loop (σ := Nat × Nat × Unit) (fun (i1, k1, _u) => [(3, .int .i64 (0 : Int)), (6, Sl.v s_a0), (7, .int .i64 (a0.length : Int)), (8, .int .i64 (i1 : Int))]) (fun (i1, k1, _u) => L) (fun _ => (fun (i1, k1, _u) => rangeM (cmp_Or_int_B0 a0) k1 i1 () = some ol1 ∧ i1 + k1 = a0.length)) (fun (i1, k1, _u) => k1) (0, a0.length, ()) ⟨rfl, rfl, rfl, rfl, trivial⟩ rfl ⟨H, by omega⟩ ?_
  rintro F2 ⟨i1, k1, _u⟩ hF3 ⟨H, hik1⟩
  refine Cd.as (e' := [(3, .int .i64 (0 : Int)), (6, Sl.v s_a0), (7, .int .i64 (a0.length : Int)), (8, .int .i64 (i1 : Int))]) (L' := L) ⟨rfl, rfl, rfl, rfl, trivial⟩ rfl ?_
  rcases k1 with _ | k1
  · have hc1 : decide ((i1 : Int) < (a0.length : Int)) = false := decide_eq_false (by omega)
    replace H := rangeM_end H
    refine Cd.seq ?_
    refine Cd.region ?_
    refine Lst.run rfl rfl (by decide) (Ev.lss rfl rfl) ?_
    refine Lst.nil ?_
    refine At.then ?_
    refine Cd.seq ?_
    refine Cd.condF rfl hc1 ?_
    refine Cd.exit ?_
    refine At.then_exit ?_
    refine At.then_exit ?_
    refine At.in_exit ?_
    subst H
    replace H := HKl1
    refine At.then ?_
    refine Cd.seq ?_
    refine Cd.region ?_
    refine Lst.run rfl rfl (by decide) (Ev.move rfl) ?_
    refine Lst.run rfl rfl (by decide) (Ev.assign rfl) ?_
    refine Lst.nil ?_
    refine At.then ?_
    obtain rfl := some_inj H
    refine Cd.ret ?_
    exact At.ret1 rfl (Res.tmp rfl) hF3 (List.Sublist.refl _) ⟨rfl, rfl⟩
  have hc1 : decide ((i1 : Int) < (a0.length : Int)) = true := decide_eq_true (by omega)
  obtain ⟨c1, H, hgo1, hbrk1, hret1⟩ := rangeM_go H
  unfold cmp_Or_int_B0 at H
  try dsimp only at H
  refine Cd.seq ?_
  refine Cd.region ?_
  refine Lst.run rfl rfl (by decide) (Ev.lss rfl rfl) ?_
  refine Lst.nil ?_
  refine At.then ?_
  refine Cd.seq ?_
  refine Cd.condT rfl hc1 ?_
  refine Cd.skip ?_
  refine At.then ?_
  refine Cd.seq ?_
  refine Cd.block ?_
  refine Cd.seq ?_
  refine Cd.region ?_
  obtain ⟨x4, h5, H⟩ := bind_some H
  have g6 := lat_some h5
  refine Lst.run rfl rfl (by decide) (Ev.indexS (α := Int) (xs := a0) rfl rfl Try.runUnderlying36 Try.sizeOf3 rfl (by decide) (hs_a0.mono hF3 hM) g6.1 g6.2.1) ?_
  refine Lst.run rfl rfl (by decide) (Ev.loadS (α := Int) rfl (hs_a0.mono hF3 hM) Try.isAgg3 (v := .int .i64 x4) ((Get.elemN (s := 1) (x := x4) rfl g6.2.2 (Get.here _)).off (by omega))) ?_
  refine Lst.run rfl rfl (by decide) (Ev.assign rfl) ?_
  refine Lst.nil ?_
  refine At.then ?_
  refine Cd.seq ?_
  refine Cd.region ?_
  refine Lst.run rfl rfl (by decide) (Ev.move rfl) ?_
  refine Lst.run rfl rfl (by decide) (Ev.move rfl) ?_
  refine Lst.run rfl rfl (by decide) (Ev.neq rfl rfl) ?_
  refine Lst.nil ?_
  refine At.then ?_
  rcases Bool.eq_false_or_eq_true (x4 != (0 : Int)) with hb7 | hb7
  · replace H := ite_t hb7 H
    refine Cd.condT rfl hb7 ?_
    refine Cd.seq ?_
    refine Cd.region ?_
    refine Lst.run rfl rfl (by decide) (Ev.move rfl) ?_
    refine Lst.run rfl rfl (by decide) (Ev.assign rfl) ?_
    refine Lst.nil ?_
    refine At.then ?_
    have H := hret1 _ (some_inj H).symm
    subst H
    replace H := HKl1
    obtain rfl := some_inj H
    refine Cd.ret ?_
    refine At.in_ret ?_
    refine At.then_ret ?_
    refine At.then_ret ?_
    refine At.in_ret ?_
    refine At.then_ret ?_
    exact At.ret1 rfl (Res.tmp rfl) hF3 (List.Sublist.refl _) ⟨rfl, rfl⟩
  replace H := ite_f hb7 H
  refine Cd.condF rfl hb7 ?_
  refine Cd.skip ?_
  refine At.in_normal ?_
  refine At.then ?_
  refine Cd.region ?_
  refine Lst.run rfl rfl (by decide) (Ev.incr (by omega) rfl rfl) ?_
  refine Lst.run rfl rfl (by decide) (Ev.move rfl) ?_
  refine Lst.nil ?_
  exact At.meet (i1 + 1, k1, ()) hF3 ⟨rfl, rfl, rfl, rfl, trivial⟩ rfl ⟨⟨hgo1 _ (some_inj H).symm, by omega⟩, Nat.lt_succ_self _⟩
set_option maxRecDepth 20000 in
theorem quorum_compare_sim {a0 : BitVec 16} {a1 : BitVec 16} {r : Int} (H : quorum_compare a0 a1 = some r) (w0 : World) (F : Frz) (M L : List Item) (hM : M.Sublist L) : Ok Try.prog w0 53 [.int .u16 a0.toNat, .int .u16 a1.toNat] F (L) (Is (.int .i64 r) (L)) := by
  unfold quorum_compare at H
  refine Ok.enter (m := 2) (n := 15) Try.func53 rfl rfl rfl (by decide) ?_
  refine Cd.env (e' := [(0, .int .u16 a0.toNat), (1, .int .u16 a1.toNat)]) rfl ?_
  refine Cd.seq ?_
  refine Cd.region ?_
  refine Lst.run rfl rfl (by decide) (Ev.assign rfl) ?_
  refine Lst.nil ?_
  refine At.then ?_
  refine Cd.seq ?_
  refine Cd.region ?_
  refine Lst.run rfl rfl (by decide) (Ev.move rfl) ?_
  obtain ⟨r1, h2, H⟩ := bind_some H
  refine Lst.call1 rfl rfl (by decide) (vs := [.int .u16 a0.toNat]) ⟨rfl, trivial⟩ Try.call99 (math_bits_OnesCount16_sim h2 w0 _ M _ hM) ?_
  refine Lst.run rfl rfl (by decide) (Ev.move rfl) ?_
  obtain ⟨r5, h6, H⟩ := bind_some H
  refine Lst.call1 rfl rfl (by decide) (vs := [.int .u16 a1.toNat]) ⟨rfl, trivial⟩ Try.call99 (math_bits_OnesCount16_sim h6 w0 _ M _ hM) ?_
  obtain ⟨r9, h10, H⟩ := bind_some H
  refine Lst.call1 rfl rfl (by decide) (vs := [.int .i64 r1, .int .i64 r5]) ⟨rfl, rfl, trivial⟩ Try.call98 (cmp_Compare_int_sim h10 w0 _ M _ hM) ?_
  refine Lst.run rfl rfl (by decide) (Ev.move rfl) ?_
  refine Lst.run rfl rfl (by decide) (Ev.move rfl) ?_
  obtain ⟨r13, h14, H⟩ := bind_some H
  refine Lst.call1 rfl rfl (by decide) (vs := [.int .u16 a0.toNat, .int .u16 a1.toNat]) ⟨rfl, rfl, trivial⟩ Try.call100 (cmp_Compare_uint16_sim h14 w0 _ M _ hM) ?_
  refine Lst.buildSlice (α := Int) (xs := ([r9, r13] : List Int)) (pv := [(0, .int .i64 r9), (1, .int .i64 r13)]) rfl rfl (by decide) ⟨rfl, rfl, ⟨rfl, rfl, trivial⟩⟩ (run_buildSlice (α := Int) (z0 := (0 : Int)) (xs := ([r9, r13] : List Int)) Try.runUnderlying36 Try.sizeOf3 Try.zeroValue3 rfl rfl rfl (by decide) rfl (fill_cons (cs := encs (List.replicate 2 (0 : Int))) (cs' := encs ((List.replicate 2 (0 : Int)).set 0 r9)) (vs := [.int .i64 r9]) rfl rfl rfl ((Put.elemN (s := 1) (i := 0) (x := (0 : Int)) (y := r9) rfl rfl (Put.here (vs := [.int .i64 r9]) rfl)).off rfl) (fill_cons (cs := encs ((List.replicate 2 (0 : Int)).set 0 r9)) (cs' := encs (((List.replicate 2 (0 : Int)).set 0 r9).set 1 r13)) (vs := [.int .i64 r13]) rfl rfl rfl ((Put.elemN (s := 1) (i := 1) (x := (0 : Int)) (y := r13) rfl rfl (Put.here (vs := [.int .i64 r13]) rfl)).off rfl) fill_nil))) rfl rfl (by decide) (fun s17 _ => ?_)
  obtain ⟨r19, h20, H⟩ := bind_some H
  refine Lst.call1 rfl rfl (by decide) (vs := [Sl.v s17]) ⟨rfl, trivial⟩ Try.call97 (cmp_Or_int_sim h20 w0 _ _ _ (List.Sublist.refl _) (Rd.own (i := 0) rfl rfl rfl)) ?_
  refine Lst.run rfl rfl (by decide) (Ev.assign rfl) ?_
  refine Lst.nil ?_
  refine At.then ?_
  obtain rfl := some_inj H
  refine Cd.ret ?_
  exact At.ret1 rfl (Res.tmp rfl) (FLe.refl _) (List.Sublist.cons _ (List.Sublist.refl _)) ⟨rfl, rfl⟩
set_option maxRecDepth 20000 in
theorem slices_insertionSortCmpFunc_uint16_quorum_compare_sim {fu : Nat} {a0 : List (BitVec 16)} {a1 : Int} {a2 : Int} {s_a0 : Sl} {r : (List (BitVec 16))} (H : slices_insertionSortCmpFunc_uint16_quorum_compare fu a0 a1 a2 = some r) (w0 : World) (F : Frz) (M L : List Item) (hM : M.Sublist L) : Ok Try.prog w0 134 [Sl.v s_a0, .int .i64 a1, .int .i64 a2, .func (.func 53) #[] #[]] F ((.own s_a0 23 1 (encs a0)) :: L) (fun _ L' v => v = .tuple #[] ∧ L' = (.own s_a0 23 1 (encs r)) :: L) := by
  unfold slices_insertionSortCmpFunc_uint16_quorum_compare at H
  refine Ok.enter (m := 4) (n := 53) Try.func134 rfl rfl rfl (by decide) ?_
  refine Cd.env (e' := [(0, Sl.v s_a0), (1, .int .i64 a1), (2, .int .i64 a2), (3, .func (.func 53) #[] #[])]) rfl ?_
  refine Cd.seq ?_
  refine Cd.region ?_
  refine Lst.run rfl rfl (by decide) (Ev.move rfl) ?_
  refine Lst.run rfl rfl (by decide) (Ev.add rfl rfl) ?_
  refine Lst.run rfl rfl (by decide) (Ev.assign rfl) ?_
  refine Lst.nil ?_
  refine At.then ?_
  refine Cd.block ?_
  obtain ⟨ol2, H, HKl2⟩ := andThen_some H
  refine Cd.loop (σ := Nat × Int × (List (BitVec 16))) (fun (k2, y3, l4) => [(0, Sl.v s_a0), (1, .int .i64 a1), (2, .int .i64 a2), (3, .func (.func 53) #[] #[]), (8, .int .i64 y3)]) (fun (k2, y3, l4) => (.own s_a0 23 1 (encs l4)) :: L) (fun _ => (fun (k2, y3, l4) => whileM (slices_insertionSortCmpFunc_uint16_quorum_compare_B0 fu a1 a2) k2 (y3, l4) = some ol2)) (fun (k2, y3, l4) => k2) (fu, w64 (a1 + (1 : Int)), a0) ⟨rfl, rfl, rfl, rfl, rfl, trivial⟩ rfl H ?_
  rintro F5 ⟨k2, y3, l4⟩ hF6 H
  refine Cd.as (e' := [(0, Sl.v s_a0), (1, .int .i64 a1), (2, .int .i64 a2), (3, .func (.func 53) #[] #[]), (8, .int .i64 y3)]) (L' := (.own s_a0 23 1 (encs l4)) :: L) ⟨rfl, rfl, rfl, rfl, rfl, trivial⟩ rfl ?_
  rcases k2 with _ | k2
  · cases H
  obtain ⟨c2, H, hgo2, hbrk2, hret2⟩ := whileM_go H
  unfold slices_insertionSortCmpFunc_uint16_quorum_compare_B0 at H
  try dsimp only at H
  refine Cd.seq ?_
  refine Cd.seq ?_
  refine Cd.region ?_
  refine Lst.run rfl rfl (by decide) (Ev.move rfl) ?_
  refine Lst.run rfl rfl (by decide) (Ev.move rfl) ?_
  refine Lst.run rfl rfl (by decide) (Ev.lss rfl rfl) ?_
  refine Lst.nil ?_
  refine At.then ?_
  rcases (Bool.eq_false_or_eq_true (decide (y3 < a2))).symm with hb7 | hb7
  · replace H := ite_f hb7 H
    refine Cd.condF rfl hb7 ?_
    refine Cd.exit ?_
    refine At.then_exit ?_
    refine At.then_exit ?_
    refine At.in_exit ?_
    have H := hbrk2 _ (some_inj H).symm
    subst H
    replace H := HKl2
    obtain rfl := some_inj H
    exact At.ret0 (.inr rfl) rfl hF6 (List.Sublist.cons_cons _ (List.Sublist.refl _)) ⟨rfl, rfl⟩
  replace H := ite_t hb7 H
  refine Cd.condT rfl hb7 ?_
  refine Cd.skip ?_
  refine At.then ?_
  refine Cd.seq ?_
  refine Cd.block ?_
  refine Cd.seq ?_
  refine Cd.region ?_
  refine Lst.run rfl rfl (by decide) (Ev.move rfl) ?_
  refine Lst.run rfl rfl (by decide) (Ev.assign rfl) ?_
  refine Lst.nil ?_
  refine At.then ?_
  refine Cd.block ?_
  obtain ⟨ol8, H, HKl8⟩ := andThen_some H
  refine Cd.loop (σ := Nat × Int × (List (BitVec 16))) (fun (k8, y9, l10) => [(0, Sl.v s_a0), (1, .int .i64 a1), (2, .int .i64 a2), (3, .func (.func 53) #[] #[]), (8, .int .i64 y3), (9, .int .i64 y9)]) (fun (k8, y9, l10) => (.own s_a0 23 1 (encs l10)) :: L) (fun _ => (fun (k8, y9, l10) => whileM (slices_insertionSortCmpFunc_uint16_quorum_compare_B2 a1) k8 (y9, l10) = some ol8)) (fun (k8, y9, l10) => k8) (fu, y3, l4) ⟨rfl, rfl, rfl, rfl, rfl, rfl, trivial⟩ rfl H ?_
  rintro F11 ⟨k8, y9, l10⟩ hF12 H
  refine Cd.as (e' := [(0, Sl.v s_a0), (1, .int .i64 a1), (2, .int .i64 a2), (3, .func (.func 53) #[] #[]), (8, .int .i64 y3), (9, .int .i64 y9)]) (L' := (.own s_a0 23 1 (encs l10)) :: L) ⟨rfl, rfl, rfl, rfl, rfl, rfl, trivial⟩ rfl ?_
  rcases k8 with _ | k8
  · cases H
  obtain ⟨c8, H, hgo8, hbrk8, hret8⟩ := whileM_go H
  unfold slices_insertionSortCmpFunc_uint16_quorum_compare_B2 at H
  try dsimp only at H
  refine Cd.seq ?_
  refine Cd.seq ?_
  refine Cd.quiet (by kernel_rfl) (by kernel_rfl) ?_
  refine Qt.run rfl rfl (by decide) (Ev.move rfl) ?_
  refine Qt.run rfl rfl (by decide) (Ev.move rfl) ?_
  refine Qt.run rfl rfl (by decide) (Ev.gtr rfl rfl) ?_
  refine Qt.run rfl rfl (by decide) (Ev.move rfl) ?_
  obtain ⟨o13, H, HKo13⟩ := bind_some H
  refine Qt.join (σ := Bool) 13 (fun y14 => [(0, Sl.v s_a0), (1, .int .i64 a1), (2, .int .i64 a2), (3, .func (.func 53) #[] #[]), (8, .int .i64 y3), (9, .int .i64 y9), (34, .bool y14)]) (fun y14 => y14 = o13) ?_ ?_
  · rcases (Bool.eq_false_or_eq_true (decide (y9 > a1))).symm with hb15 | hb15
    · replace H := ite_f hb15 H
      refine Qt.skip rfl rfl rfl hb15 rfl (by decide) ?_
      refine Qt.skip rfl rfl rfl hb15 rfl (by decide) ?_
      refine Qt.skip rfl rfl rfl hb15 rfl (by decide) ?_
      refine Qt.skip rfl rfl rfl hb15 rfl (by decide) ?_
      refine Qt.skip rfl rfl rfl hb15 rfl (by decide) ?_
      refine Qt.skip rfl rfl rfl hb15 rfl (by decide) ?_
      refine Qt.skip rfl rfl rfl hb15 rfl (by decide) ?_
      refine Qt.skip rfl rfl rfl hb15 rfl (by decide) ?_
      refine Qt.skip rfl rfl rfl hb15 rfl (by decide) ?_
      refine Qt.skip rfl rfl rfl hb15 rfl (by decide) ?_
      refine Qt.skip rfl rfl rfl hb15 rfl (by decide) ?_
      refine Qt.skip rfl rfl rfl hb15 rfl (by decide) ?_
      refine Qt.run rfl rfl (by decide) (Ev.pickF rfl hb15 rfl) ?_
      exact Qt.meet false ⟨rfl, rfl, rfl, rfl, rfl, rfl, rfl, trivial⟩ (some_inj H)
    replace H := ite_t hb15 H
    refine Qt.runG rfl rfl rfl hb15 rfl (by decide) (Ev.move rfl) ?_
    refine Qt.runG rfl rfl rfl hb15 rfl (by decide) (Ev.move rfl) ?_
    refine Qt.runG rfl rfl rfl hb15 rfl (by decide) (Ev.move rfl) ?_
    obtain ⟨x16, h17, H⟩ := bind_some H
    have g18 := lat_some h17
    refine Qt.runG rfl rfl rfl hb15 rfl (by decide) (Ev.indexS (α := BitVec 16) (xs := l10) rfl rfl Try.runUnderlying22 Try.sizeOf23 rfl (by decide) (Rd.own (i := 0) rfl rfl rfl) g18.1 g18.2.1) ?_
    refine Qt.runG rfl rfl rfl hb15 rfl (by decide) (Ev.loadS (α := BitVec 16) rfl (Rd.own (i := 0) rfl rfl rfl) Try.isAgg23 (v := .int .u16 x16.toNat) ((Get.elemN (s := 1) (x := x16) rfl g18.2.2 (Get.here _)).off (by omega))) ?_
    refine Qt.runG rfl rfl rfl hb15 rfl (by decide) (Ev.move rfl) ?_
    refine Qt.runG rfl rfl rfl hb15 rfl (by decide) (Ev.move rfl) ?_
    refine Qt.runG rfl rfl rfl hb15 rfl (by decide) (Ev.sub rfl rfl) ?_
    obtain ⟨x19, h20, H⟩ := bind_some H
    have g21 := lat_some h20
    refine Qt.runG rfl rfl rfl hb15 rfl (by decide) (Ev.indexS (α := BitVec 16) (xs := l10) rfl rfl Try.runUnderlying22 Try.sizeOf23 rfl (by decide) (Rd.own (i := 0) rfl rfl rfl) g21.1 g21.2.1) ?_
    refine Qt.runG rfl rfl rfl hb15 rfl (by decide) (Ev.loadS (α := BitVec 16) rfl (Rd.own (i := 0) rfl rfl rfl) Try.isAgg23 (v := .int .u16 x19.toNat) ((Get.elemN (s := 1) (x := x19) rfl g21.2.2 (Get.here _)).off (by omega))) ?_
    obtain ⟨r22, h23, H⟩ := bind_some H
    refine Qt.callVG rfl rfl rfl hb15 rfl (by decide) (vs := [.int .u16 x16.toNat, .int .u16 x19.toNat]) (cs := []) rfl ⟨rfl, rfl, trivial⟩ Try.call53 (quorum_compare_sim h23 w0 _ M _ (List.Sublist.cons _ hM)) ?_
    refine Qt.runG rfl rfl rfl hb15 rfl (by decide) (Ev.lss rfl rfl) ?_
    refine Qt.run rfl rfl (by decide) (Ev.pickT rfl hb15 rfl) ?_
    exact Qt.meet (decide (r22 < (0 : Int))) ⟨rfl, rfl, rfl, rfl, rfl, rfl, rfl, trivial⟩ (some_inj H)
  rintro y14 hy
  subst hy
  refine Qt.as (e' := [(0, Sl.v s_a0), (1, .int .i64 a1), (2, .int .i64 a2), (3, .func (.func 53) #[] #[]), (8, .int .i64 y3), (9, .int .i64 y9), (34, .bool y14)]) ⟨rfl, rfl, rfl, rfl, rfl, rfl, rfl, trivial⟩ ?_
  replace H := HKo13
  refine Qt.done ?_
  refine At.then ?_
  rcases (Bool.eq_false_or_eq_true y14).symm with hb26 | hb26
  · replace H := ite_f hb26 H
    refine Cd.condF rfl hb26 ?_
    refine Cd.exit ?_
    refine At.then_exit ?_
    refine At.then_exit ?_
    refine At.in_exit ?_
    have H := hbrk8 _ (some_inj H).symm
    subst H
    replace H := HKl8
    refine At.in_normal ?_
    refine At.then ?_
    refine Cd.region ?_
    refine Lst.run rfl rfl (by decide) (Ev.move rfl) ?_
    refine Lst.run rfl rfl (by decide) (Ev.add rfl rfl) ?_
    refine Lst.run rfl rfl (by decide) (Ev.assign rfl) ?_
    refine Lst.nil ?_
    exact At.meet (k2, w64 (y3 + (1 : Int)), l10) (FLe.trans hF6 hF12) ⟨rfl, rfl, rfl, rfl, rfl, trivial⟩ rfl ⟨hgo2 _ (some_inj H).symm, Nat.lt_succ_self _⟩
  replace H := ite_t hb26 H
  refine Cd.condT rfl hb26 ?_
  refine Cd.skip ?_
  refine At.then ?_
  refine Cd.seq ?_
  refine Cd.block ?_
  obtain ⟨x27, h28, H⟩ := bind_some H
  obtain ⟨x30, h31, H⟩ := bind_some H
  obtain ⟨x33, h34, H⟩ := bind_some H
  obtain ⟨p36, h37, H⟩ := Let_some H
  obtain ⟨o40, h41, H⟩ := Let_some H
  refine Cd.headMeet (σ := (List (BitVec 16))) 16 (fun l39 => [(0, Sl.v s_a0), (1, .int .i64 a1), (2, .int .i64 a2), (3, .func (.func 53) #[] #[]), (8, .int .i64 y3), (9, .int .i64 y9), (39, Sl.v s_a0), (41, .int .i64 (w64 (y9 - (1 : Int)))), (50, .int .u16 x30.toNat)]) (fun l39 => (.own s_a0 23 1 (encs l39)) :: L) (fun _ l39 => l39 = o40) (by kernel_rfl) (by kernel_rfl) (behind_sink (by kernel_rfl) (by kernel_rfl) (by kernel_rfl)) (by kernel_rfl) (fun hsel hlt => ?_) ?_
  · refine HdJ.keep (fun w => St w0 F11 (L) w) (fun w h => trivial) ?_
    refine HdJ.takeK hsel hlt 0 (fun w h => h.sublist (List.Sublist.cons _ (List.Sublist.refl _))) rfl rfl (by decide) (by decide) (by kernel_rfl) (by kernel_rfl) rfl (Ev.move rfl) ?_
    refine HdJ.takeK hsel hlt 1 (fun w h => h.sublist (List.Sublist.cons _ (List.Sublist.refl _))) rfl rfl (by decide) (by decide) (by kernel_rfl) (by kernel_rfl) rfl (Ev.move rfl) ?_
    refine HdJ.takeK hsel hlt 2 (fun w h => h.sublist (List.Sublist.cons _ (List.Sublist.refl _))) rfl rfl (by decide) (by decide) (by kernel_rfl) (by kernel_rfl) rfl (Ev.move rfl) ?_
    refine HdJ.takeK hsel hlt 3 (fun w h => h.sublist (List.Sublist.cons _ (List.Sublist.refl _))) rfl rfl (by decide) (by decide) (by kernel_rfl) (by kernel_rfl) rfl (Ev.move rfl) ?_
    refine HdJ.takeK hsel hlt 4 (fun w h => h.sublist (List.Sublist.cons _ (List.Sublist.refl _))) rfl rfl (by decide) (by decide) (by kernel_rfl) (by kernel_rfl) rfl (Ev.sub rfl rfl) ?_
    refine HdJ.takeK hsel hlt 5 (fun w h => h.sublist (List.Sublist.cons _ (List.Sublist.refl _))) rfl rfl (by decide) (by decide) (by kernel_rfl) (by kernel_rfl) rfl (Ev.move rfl) ?_
    refine HdJ.takeK hsel hlt 6 (fun w h => h.sublist (List.Sublist.cons _ (List.Sublist.refl _))) rfl rfl (by decide) (by decide) (by kernel_rfl) (by kernel_rfl) rfl (Ev.move rfl) ?_
    refine HdJ.takeK hsel hlt 7 (fun w h => h.sublist (List.Sublist.cons _ (List.Sublist.refl _))) rfl rfl (by decide) (by decide) (by kernel_rfl) (by kernel_rfl) rfl (Ev.sub rfl rfl) ?_
    refine HdJ.takeK hsel hlt 10 (fun w h => h.sublist (List.Sublist.cons _ (List.Sublist.refl _))) rfl rfl (by decide) (by decide) (by kernel_rfl) (by kernel_rfl) rfl (Ev.move rfl) ?_
    refine HdJ.takeK hsel hlt 11 (fun w h => h.sublist (List.Sublist.cons _ (List.Sublist.refl _))) rfl rfl (by decide) (by decide) (by kernel_rfl) (by kernel_rfl) rfl (Ev.move rfl) ?_
    refine HdJ.step [8, 12] (by kernel_rfl) rfl ?_
    refine HdStep.cons (by decide) rfl (fun inv => ?_) ?_
    · have g42 := lat_some h28
      refine Lst.run rfl rfl (by decide) (Ev.indexS (α := BitVec 16) (xs := l10) rfl rfl Try.runUnderlying22 Try.sizeOf23 rfl (by decide) (Rd.own (i := 0) rfl rfl rfl) g42.1 g42.2.1) ?_
      refine Lst.nil ?_
      refine At.hd inv (fun w h => (h.weaken (FLe.refl _)).sublist (List.Sublist.cons _ (List.Sublist.refl _))) ?_
      refine HdJ.step [9, 12] (by kernel_rfl) rfl ?_
      refine HdStep.cons (by decide) rfl (fun inv => ?_) ?_
      · refine Lst.run rfl rfl (by decide) (Ev.loadS (α := BitVec 16) rfl (Rd.own (i := 0) rfl rfl rfl) Try.isAgg23 (v := .int .u16 x27.toNat) ((Get.elemN (s := 1) (x := x27) rfl g42.2.2 (Get.here _)).off (by omega))) ?_
        refine Lst.nil ?_
        refine At.hd inv (fun w h => (h.weaken (FLe.refl _)).sublist (List.Sublist.cons _ (List.Sublist.refl _))) ?_
        refine HdJ.step [12] (by kernel_rfl) rfl ?_
        refine HdStep.cons (by decide) rfl (fun inv => ?_) ?_
        · have g43 := lat_some h31
          refine Lst.run rfl rfl (by decide) (Ev.indexS (α := BitVec 16) (xs := l10) rfl rfl Try.runUnderlying22 Try.sizeOf23 rfl (by decide) (Rd.own (i := 0) rfl rfl rfl) g43.1 g43.2.1) ?_
          refine Lst.nil ?_
          refine At.hd inv (fun w h => (h.weaken (FLe.refl _)).sublist (List.Sublist.cons _ (List.Sublist.refl _))) ?_
          refine HdJ.step [13] (by kernel_rfl) rfl ?_
          refine HdStep.cons (by decide) rfl (fun inv => ?_) ?_
          · refine Lst.run rfl rfl (by decide) (Ev.loadS (α := BitVec 16) rfl (Rd.own (i := 0) rfl rfl rfl) Try.isAgg23 (v := .int .u16 x30.toNat) ((Get.elemN (s := 1) (x := x30) rfl g43.2.2 (Get.here _)).off (by omega))) ?_
            refine Lst.nil ?_
            refine At.hd inv (fun w h => (h.weaken (FLe.refl _)).sublist (List.Sublist.cons _ (List.Sublist.refl _))) ?_
            refine HdJ.step [14] (by kernel_rfl) rfl ?_
            refine HdStep.cons (by decide) rfl (fun inv => ?_) ?_
            · have g44 := lat_some h34
              refine Lst.run rfl rfl (by decide) (Ev.indexS (α := BitVec 16) (xs := l10) rfl rfl Try.runUnderlying22 Try.sizeOf23 rfl (by decide) (Rd.own (i := 0) rfl rfl rfl) g44.1 g44.2.1) ?_
              refine Lst.nil ?_
              refine At.hd inv (fun w h => (h.weaken (FLe.refl _)).sublist (List.Sublist.cons _ (List.Sublist.refl _))) ?_
              refine HdJ.step [15] (by kernel_rfl) rfl ?_
              refine HdStep.cons (by decide) rfl (fun inv => ?_) ?_
              · refine Lst.storeS (i := 0) rfl rfl rfl rfl rfl Try.sizeOf23 (vs := [.int .u16 x27.toNat]) rfl rfl (by decide) rfl (xs' := encs p36) (by rw [← h37]; exact (Put.elemN (s := 1) (x := x33) rfl g44.2.2 (Put.here (vs := [.int .u16 x27.toNat]) rfl)).off (by omega)) (L' := (.own s_a0 23 1 (encs p36)) :: L) rfl ?_
                refine Lst.nil ?_
                refine At.hd inv (fun w h => (h.weaken (FLe.refl _)).sublist (List.Sublist.cons _ (List.Sublist.refl _))) ?_
                refine HdJ.done (by kernel_rfl) ?_
                exact At.meetN p36 (FLe.refl _) ⟨rfl, rfl, rfl, rfl, rfl, rfl, rfl, rfl, rfl, trivial⟩ rfl h41
              exact trivial
            exact trivial
          exact trivial
        exact trivial
      refine HdStep.cons (by decide) rfl (fun inv => ?_) ?_
      · have g45 := lat_some h31
        refine Lst.run rfl rfl (by decide) (Ev.indexS (α := BitVec 16) (xs := l10) rfl rfl Try.runUnderlying22 Try.sizeOf23 rfl (by decide) (Rd.own (i := 0) rfl rfl rfl) g45.1 g45.2.1) ?_
        refine Lst.nil ?_
        refine At.hd inv (fun w h => (h.weaken (FLe.refl _)).sublist (List.Sublist.cons _ (List.Sublist.refl _))) ?_
        refine HdJ.step [9, 13] (by kernel_rfl) rfl ?_
        refine HdStep.cons (by decide) rfl (fun inv => ?_) ?_
        · refine Lst.run rfl rfl (by decide) (Ev.loadS (α := BitVec 16) rfl (Rd.own (i := 0) rfl rfl rfl) Try.isAgg23 (v := .int .u16 x27.toNat) ((Get.elemN (s := 1) (x := x27) rfl g42.2.2 (Get.here _)).off (by omega))) ?_
          refine Lst.nil ?_
          refine At.hd inv (fun w h => (h.weaken (FLe.refl _)).sublist (List.Sublist.cons _ (List.Sublist.refl _))) ?_
          refine HdJ.step [13] (by kernel_rfl) rfl ?_
          refine HdStep.cons (by decide) rfl (fun inv => ?_) ?_
          · refine Lst.run rfl rfl (by decide) (Ev.loadS (α := BitVec 16) rfl (Rd.own (i := 0) rfl rfl rfl) Try.isAgg23 (v := .int .u16 x30.toNat) ((Get.elemN (s := 1) (x := x30) rfl g45.2.2 (Get.here _)).off (by omega))) ?_
            refine Lst.nil ?_
            refine At.hd inv (fun w h => (h.weaken (FLe.refl _)).sublist (List.Sublist.cons _ (List.Sublist.refl _))) ?_
            refine HdJ.step [14] (by kernel_rfl) rfl ?_
            refine HdStep.cons (by decide) rfl (fun inv => ?_) ?_
            · have g46 := lat_some h34
              refine Lst.run rfl rfl (by decide) (Ev.indexS (α := BitVec 16) (xs := l10) rfl rfl Try.runUnderlying22 Try.sizeOf23 rfl (by decide) (Rd.own (i := 0) rfl rfl rfl) g46.1 g46.2.1) ?_
              refine Lst.nil ?_
              refine At.hd inv (fun w h => (h.weaken (FLe.refl _)).sublist (List.Sublist.cons _ (List.Sublist.refl _))) ?_
              refine HdJ.step [15] (by kernel_rfl) rfl ?_
              refine HdStep.cons (by decide) rfl (fun inv => ?_) ?_
              · refine Lst.storeS (i := 0) rfl rfl rfl rfl rfl Try.sizeOf23 (vs := [.int .u16 x27.toNat]) rfl rfl (by decide) rfl (xs' := encs p36) (by rw [← h37]; exact (Put.elemN (s := 1) (x := x33) rfl g46.2.2 (Put.here (vs := [.int .u16 x27.toNat]) rfl)).off (by omega)) (L' := (.own s_a0 23 1 (encs p36)) :: L) rfl ?_
                refine Lst.nil ?_
                refine At.hd inv (fun w h => (h.weaken (FLe.refl _)).sublist (List.Sublist.cons _ (List.Sublist.refl _))) ?_
                refine HdJ.done (by kernel_rfl) ?_
                exact At.meetN p36 (FLe.refl _) ⟨rfl, rfl, rfl, rfl, rfl, rfl, rfl, rfl, rfl, trivial⟩ rfl h41
              exact trivial
            exact trivial
          exact trivial
        refine HdStep.cons (by decide) rfl (fun inv => ?_) ?_
        · refine Lst.run rfl rfl (by decide) (Ev.loadS (α := BitVec 16) rfl (Rd.own (i := 0) rfl rfl rfl) Try.isAgg23 (v := .int .u16 x30.toNat) ((Get.elemN (s := 1) (x := x30) rfl g45.2.2 (Get.here _)).off (by omega))) ?_
          refine Lst.nil ?_
          refine At.hd inv (fun w h => (h.weaken (FLe.refl _)).sublist (List.Sublist.cons _ (List.Sublist.refl _))) ?_
          refine HdJ.step [9] (by kernel_rfl) rfl ?_
          refine HdStep.cons (by decide) rfl (fun inv => ?_) ?_
          · refine Lst.run rfl rfl (by decide) (Ev.loadS (α := BitVec 16) rfl (Rd.own (i := 0) rfl rfl rfl) Try.isAgg23 (v := .int .u16 x27.toNat) ((Get.elemN (s := 1) (x := x27) rfl g42.2.2 (Get.here _)).off (by omega))) ?_
            refine Lst.nil ?_
            refine At.hd inv (fun w h => (h.weaken (FLe.refl _)).sublist (List.Sublist.cons _ (List.Sublist.refl _))) ?_
            refine HdJ.step [14] (by kernel_rfl) rfl ?_
            refine HdStep.cons (by decide) rfl (fun inv => ?_) ?_
            · have g47 := lat_some h34
              refine Lst.run rfl rfl (by decide) (Ev.indexS (α := BitVec 16) (xs := l10) rfl rfl Try.runUnderlying22 Try.sizeOf23 rfl (by decide) (Rd.own (i := 0) rfl rfl rfl) g47.1 g47.2.1) ?_
              refine Lst.nil ?_
              refine At.hd inv (fun w h => (h.weaken (FLe.refl _)).sublist (List.Sublist.cons _ (List.Sublist.refl _))) ?_
              refine HdJ.step [15] (by kernel_rfl) rfl ?_
              refine HdStep.cons (by decide) rfl (fun inv => ?_) ?_
              · refine Lst.storeS (i := 0) rfl rfl rfl rfl rfl Try.sizeOf23 (vs := [.int .u16 x27.toNat]) rfl rfl (by decide) rfl (xs' := encs p36) (by rw [← h37]; exact (Put.elemN (s := 1) (x := x33) rfl g47.2.2 (Put.here (vs := [.int .u16 x27.toNat]) rfl)).off (by omega)) (L' := (.own s_a0 23 1 (encs p36)) :: L) rfl ?_
                refine Lst.nil ?_
                refine At.hd inv (fun w h => (h.weaken (FLe.refl _)).sublist (List.Sublist.cons _ (List.Sublist.refl _))) ?_
                refine HdJ.done (by kernel_rfl) ?_
                exact At.meetN p36 (FLe.refl _) ⟨rfl, rfl, rfl, rfl, rfl, rfl, rfl, rfl, rfl, trivial⟩ rfl h41
              exact trivial
            exact trivial
          exact trivial
        exact trivial
      exact trivial
    refine HdStep.cons (by decide) rfl (fun inv => ?_) ?_
    · have g48 := lat_some h31
      refine Lst.run rfl rfl (by decide) (Ev.indexS (α := BitVec 16) (xs := l10) rfl rfl Try.runUnderlying22 Try.sizeOf23 rfl (by decide) (Rd.own (i := 0) rfl rfl rfl) g48.1 g48.2.1) ?_
      refine Lst.nil ?_
      refine At.hd inv (fun w h => (h.weaken (FLe.refl _)).sublist (List.Sublist.cons _ (List.Sublist.refl _))) ?_
      refine HdJ.step [8, 13] (by kernel_rfl) rfl ?_
      refine HdStep.cons (by decide) rfl (fun inv => ?_) ?_
      · have g49 := lat_some h28
        refine Lst.run rfl rfl (by decide) (Ev.indexS (α := BitVec 16) (xs := l10) rfl rfl Try.runUnderlying22 Try.sizeOf23 rfl (by decide) (Rd.own (i := 0) rfl rfl rfl) g49.1 g49.2.1) ?_
        refine Lst.nil ?_
        refine At.hd inv (fun w h => (h.weaken (FLe.refl _)).sublist (List.Sublist.cons _ (List.Sublist.refl _))) ?_
        refine HdJ.step [9, 13] (by kernel_rfl) rfl ?_
        refine HdStep.cons (by decide) rfl (fun inv => ?_) ?_
        · refine Lst.run rfl rfl (by decide) (Ev.loadS (α := BitVec 16) rfl (Rd.own (i := 0) rfl rfl rfl) Try.isAgg23 (v := .int .u16 x27.toNat) ((Get.elemN (s := 1) (x := x27) rfl g49.2.2 (Get.here _)).off (by omega))) ?_
          refine Lst.nil ?_
          refine At.hd inv (fun w h => (h.weaken (FLe.refl _)).sublist (List.Sublist.cons _ (List.Sublist.refl _))) ?_
          refine HdJ.step [13] (by kernel_rfl) rfl ?_
          refine HdStep.cons (by decide) rfl (fun inv => ?_) ?_
          · refine Lst.run rfl rfl (by decide) (Ev.loadS (α := BitVec 16) rfl (Rd.own (i := 0) rfl rfl rfl) Try.isAgg23 (v := .int .u16 x30.toNat) ((Get.elemN (s := 1) (x := x30) rfl g48.2.2 (Get.here _)).off (by omega))) ?_
            refine Lst.nil ?_
            refine At.hd inv (fun w h => (h.weaken (FLe.refl _)).sublist (List.Sublist.cons _ (List.Sublist.refl _))) ?_
            refine HdJ.step [14] (by kernel_rfl) rfl ?_
            refine HdStep.cons (by decide) rfl (fun inv => ?_) ?_
            · have g50 := lat_some h34
              refine Lst.run rfl rfl (by decide) (Ev.indexS (α := BitVec 16) (xs := l10) rfl rfl Try.runUnderlying22 Try.sizeOf23 rfl (by decide) (Rd.own (i := 0) rfl rfl rfl) g50.1 g50.2.1) ?_
              refine Lst.nil ?_
              refine At.hd inv (fun w h => (h.weaken (FLe.refl _)).sublist (List.Sublist.cons _ (List.Sublist.refl _))) ?_
              refine HdJ.step [15] (by kernel_rfl) rfl ?_
              refine HdStep.cons (by decide) rfl (fun inv => ?_) ?_
              · refine Lst.storeS (i := 0) rfl rfl rfl rfl rfl Try.sizeOf23 (vs := [.int .u16 x27.toNat]) rfl rfl (by decide) rfl (xs' := encs p36) (by rw [← h37]; exact (Put.elemN (s := 1) (x := x33) rfl g50.2.2 (Put.here (vs := [.int .u16 x27.toNat]) rfl)).off (by omega)) (L' := (.own s_a0 23 1 (encs p36)) :: L) rfl ?_
                refine Lst.nil ?_
                refine At.hd inv (fun w h => (h.weaken (FLe.refl _)).sublist (List.Sublist.cons _ (List.Sublist.refl _))) ?_
                refine HdJ.done (by kernel_rfl) ?_
                exact At.meetN p36 (FLe.refl _) ⟨rfl, rfl, rfl, rfl, rfl, rfl, rfl, rfl, rfl, trivial⟩ rfl h41
              exact trivial
            exact trivial
          exact trivial
        refine HdStep.cons (by decide) rfl (fun inv => ?_) ?_
        · refine Lst.run rfl rfl (by decide) (Ev.loadS (α := BitVec 16) rfl (Rd.own (i := 0) rfl rfl rfl) Try.isAgg23 (v := .int .u16 x30.toNat) ((Get.elemN (s := 1) (x := x30) rfl g48.2.2 (Get.here _)).off (by omega))) ?_
          refine Lst.nil ?_
          refine At.hd inv (fun w h => (h.weaken (FLe.refl _)).sublist (List.Sublist.cons _ (List.Sublist.refl _))) ?_
          refine HdJ.step [9] (by kernel_rfl) rfl ?_
          refine HdStep.cons (by decide) rfl (fun inv => ?_) ?_
          · refine Lst.run rfl rfl (by decide) (Ev.loadS (α := BitVec 16) rfl (Rd.own (i := 0) rfl rfl rfl) Try.isAgg23 (v := .int .u16 x27.toNat) ((Get.elemN (s := 1) (x := x27) rfl g49.2.2 (Get.here _)).off (by omega))) ?_
            refine Lst.nil ?_
            refine At.hd inv (fun w h => (h.weaken (FLe.refl _)).sublist (List.Sublist.cons _ (List.Sublist.refl _))) ?_
            refine HdJ.step [14] (by kernel_rfl) rfl ?_
            refine HdStep.cons (by decide) rfl (fun inv => ?_) ?_
            · have g51 := lat_some h34
              refine Lst.run rfl rfl (by decide) (Ev.indexS (α := BitVec 16) (xs := l10) rfl rfl Try.runUnderlying22 Try.sizeOf23 rfl (by decide) (Rd.own (i := 0) rfl rfl rfl) g51.1 g51.2.1) ?_
              refine Lst.nil ?_
              refine At.hd inv (fun w h => (h.weaken (FLe.refl _)).sublist (List.Sublist.cons _ (List.Sublist.refl _))) ?_
              refine HdJ.step [15] (by kernel_rfl) rfl ?_
              refine HdStep.cons (by decide) rfl (fun inv => ?_) ?_
              · refine Lst.storeS (i := 0) rfl rfl rfl rfl rfl Try.sizeOf23 (vs := [.int .u16 x27.toNat]) rfl rfl (by decide) rfl (xs' := encs p36) (by rw [← h37]; exact (Put.elemN (s := 1) (x := x33) rfl g51.2.2 (Put.here (vs := [.int .u16 x27.toNat]) rfl)).off (by omega)) (L' := (.own s_a0 23 1 (encs p36)) :: L) rfl ?_
                refine Lst.nil ?_
                refine At.hd inv (fun w h => (h.weaken (FLe.refl _)).sublist (List.Sublist.cons _ (List.Sublist.refl _))) ?_
                refine HdJ.done (by kernel_rfl) ?_
                exact At.meetN p36 (FLe.refl _) ⟨rfl, rfl, rfl, rfl, rfl, rfl, rfl, rfl, rfl, trivial⟩ rfl h41
              exact trivial
            exact trivial
          exact trivial
        exact trivial
      refine HdStep.cons (by decide) rfl (fun inv => ?_) ?_
      · refine Lst.run rfl rfl (by decide) (Ev.loadS (α := BitVec 16) rfl (Rd.own (i := 0) rfl rfl rfl) Try.isAgg23 (v := .int .u16 x30.toNat) ((Get.elemN (s := 1) (x := x30) rfl g48.2.2 (Get.here _)).off (by omega))) ?_
        refine Lst.nil ?_
        refine At.hd inv (fun w h => (h.weaken (FLe.refl _)).sublist (List.Sublist.cons _ (List.Sublist.refl _))) ?_
        refine HdJ.step [8] (by kernel_rfl) rfl ?_
        refine HdStep.cons (by decide) rfl (fun inv => ?_) ?_
        · have g52 := lat_some h28
          refine Lst.run rfl rfl (by decide) (Ev.indexS (α := BitVec 16) (xs := l10) rfl rfl Try.runUnderlying22 Try.sizeOf23 rfl (by decide) (Rd.own (i := 0) rfl rfl rfl) g52.1 g52.2.1) ?_
          refine Lst.nil ?_
          refine At.hd inv (fun w h => (h.weaken (FLe.refl _)).sublist (List.Sublist.cons _ (List.Sublist.refl _))) ?_
          refine HdJ.step [9] (by kernel_rfl) rfl ?_
          refine HdStep.cons (by decide) rfl (fun inv => ?_) ?_
          · refine Lst.run rfl rfl (by decide) (Ev.loadS (α := BitVec 16) rfl (Rd.own (i := 0) rfl rfl rfl) Try.isAgg23 (v := .int .u16 x27.toNat) ((Get.elemN (s := 1) (x := x27) rfl g52.2.2 (Get.here _)).off (by omega))) ?_
            refine Lst.nil ?_
            refine At.hd inv (fun w h => (h.weaken (FLe.refl _)).sublist (List.Sublist.cons _ (List.Sublist.refl _))) ?_
            refine HdJ.step [14] (by kernel_rfl) rfl ?_
            refine HdStep.cons (by decide) rfl (fun inv => ?_) ?_
            · have g53 := lat_some h34
              refine Lst.run rfl rfl (by decide) (Ev.indexS (α := BitVec 16) (xs := l10) rfl rfl Try.runUnderlying22 Try.sizeOf23 rfl (by decide) (Rd.own (i := 0) rfl rfl rfl) g53.1 g53.2.1) ?_
              refine Lst.nil ?_
              refine At.hd inv (fun w h => (h.weaken (FLe.refl _)).sublist (List.Sublist.cons _ (List.Sublist.refl _))) ?_
              refine HdJ.step [15] (by kernel_rfl) rfl ?_
              refine HdStep.cons (by decide) rfl (fun inv => ?_) ?_
              · refine Lst.storeS (i := 0) rfl rfl rfl rfl rfl Try.sizeOf23 (vs := [.int .u16 x27.toNat]) rfl rfl (by decide) rfl (xs' := encs p36) (by rw [← h37]; exact (Put.elemN (s := 1) (x := x33) rfl g53.2.2 (Put.here (vs := [.int .u16 x27.toNat]) rfl)).off (by omega)) (L' := (.own s_a0 23 1 (encs p36)) :: L) rfl ?_
                refine Lst.nil ?_
                refine At.hd inv (fun w h => (h.weaken (FLe.refl _)).sublist (List.Sublist.cons _ (List.Sublist.refl _))) ?_
                refine HdJ.done (by kernel_rfl) ?_
                exact At.meetN p36 (FLe.refl _) ⟨rfl, rfl, rfl, rfl, rfl, rfl, rfl, rfl, rfl, trivial⟩ rfl h41
              exact trivial
            exact trivial
          exact trivial
        exact trivial
      exact trivial
    exact trivial
  rintro F54 l39 hF55 hy
  subst hy
  refine Lst.as (e' := [(0, Sl.v s_a0), (1, .int .i64 a1), (2, .int .i64 a2), (3, .func (.func 53) #[] #[]), (8, .int .i64 y3), (9, .int .i64 y9), (39, Sl.v s_a0), (41, .int .i64 (w64 (y9 - (1 : Int)))), (50, .int .u16 x30.toNat)]) (L' := (.own s_a0 23 1 (encs l39)) :: L) ⟨rfl, rfl, rfl, rfl, rfl, rfl, rfl, rfl, rfl, trivial⟩ rfl ?_
  obtain ⟨x56, h57, H⟩ := bind_some H
  have g58 := lat_some h57
  refine Lst.run rfl rfl (by decide) (Ev.indexS (α := BitVec 16) (xs := l39) rfl rfl Try.runUnderlying22 Try.sizeOf23 rfl (by decide) (Rd.own (i := 0) rfl rfl rfl) g58.1 g58.2.1) ?_
  obtain ⟨p59, h60, H⟩ := Let_some H
  refine Lst.storeS (i := 0) rfl rfl rfl rfl rfl Try.sizeOf23 (vs := [.int .u16 x30.toNat]) rfl rfl (by decide) rfl (xs' := encs p59) (by rw [← h60]; exact (Put.elemN (s := 1) (x := x56) rfl g58.2.2 (Put.here (vs := [.int .u16 x30.toNat]) rfl)).off (by omega)) (L' := (.own s_a0 23 1 (encs p59)) :: L) rfl ?_
  refine Lst.nil ?_
  refine At.in_normal ?_
  refine At.then ?_
  refine Cd.region ?_
  refine Lst.run rfl rfl (by decide) (Ev.move rfl) ?_
  refine Lst.run rfl rfl (by decide) (Ev.sub rfl rfl) ?_
  refine Lst.run rfl rfl (by decide) (Ev.assign rfl) ?_
  refine Lst.nil ?_
  exact At.meet (k8, w64 (y9 - (1 : Int)), p59) (FLe.trans hF12 hF55) ⟨rfl, rfl, rfl, rfl, rfl, rfl, trivial⟩ rfl ⟨hgo8 _ (some_inj H).symm, Nat.lt_succ_self _⟩
set_option maxRecDepth 20000 in
theorem slices_siftDownCmpFunc_uint16_quorum_compare_sim {fu : Nat} {a0 : List (BitVec 16)} {a1 : Int} {a2 : Int} {a3 : Int} {s_a0 : Sl} {r : (List (BitVec 16))} (H : slices_siftDownCmpFunc_uint16_quorum_compare fu a0 a1 a2 a3 = some r) (w0 : World) (F : Frz) (M L : List Item) (hM : M.Sublist L) : Ok Try.prog w0 151 [Sl.v s_a0, .int .i64 a1, .int .i64 a2, .int .i64 a3, .func (.func 53) #[] #[]] F ((.own s_a0 23 1 (encs a0)) :: L) (fun _ L' v => v = .tuple #[] ∧ L' = (.own s_a0 23 1 (encs r)) :: L) := by
  unfold slices_siftDownCmpFunc_uint16_quorum_compare at H
  refine Ok.enter (m := 5) (n := 82) Try.func151 rfl rfl rfl (by decide) ?_
  refine Cd.env (e' := [(0, Sl.v s_a0), (1, .int .i64 a1), (2, .int .i64 a2), (3, .int .i64 a3), (4, .func (.func 53) #[] #[])]) rfl ?_
  refine Cd.seq ?_
  refine Cd.region ?_
  refine Lst.run rfl rfl (by decide) (Ev.move rfl) ?_
  refine Lst.run rfl rfl (by decide) (Ev.assign rfl) ?_
  refine Lst.nil ?_
  refine At.then ?_
  refine Cd.block ?_
  obtain ⟨ol2, H, HKl2⟩ := andThen_some H
  refine Cd.loop (σ := Nat × Int × (List (BitVec 16))) (fun (k2, y3, l4) => [(0, Sl.v s_a0), (2, .int .i64 a2), (3, .int .i64 a3), (4, .func (.func 53) #[] #[]), (10, .int .i64 y3)]) (fun (k2, y3, l4) => (.own s_a0 23 1 (encs l4)) :: L) (fun _ => (fun (k2, y3, l4) => whileM (slices_siftDownCmpFunc_uint16_quorum_compare_B0 a2 a3) k2 (y3, l4) = some ol2)) (fun (k2, y3, l4) => k2) (fu, a1, a0) ⟨rfl, rfl, rfl, rfl, rfl, trivial⟩ rfl H ?_
  rintro F5 ⟨k2, y3, l4⟩ hF6 H
  refine Cd.as (e' := [(0, Sl.v s_a0), (2, .int .i64 a2), (3, .int .i64 a3), (4, .func (.func 53) #[] #[]), (10, .int .i64 y3)]) (L' := (.own s_a0 23 1 (encs l4)) :: L) ⟨rfl, rfl, rfl, rfl, rfl, trivial⟩ rfl ?_
  rcases k2 with _ | k2
  · cases H
  obtain ⟨c2, H, hgo2, hbrk2, hret2⟩ := whileM_go H
  unfold slices_siftDownCmpFunc_uint16_quorum_compare_B0 at H
  try dsimp only at H
  refine Cd.block ?_
  refine Cd.seq ?_
  refine Cd.region ?_
  refine Lst.run rfl rfl (by decide) (Ev.move rfl) ?_
  refine Lst.run rfl rfl (by decide) (Ev.mul rfl rfl) ?_
  refine Lst.run rfl rfl (by decide) (Ev.add rfl rfl) ?_
  refine Lst.run rfl rfl (by decide) (Ev.assign rfl) ?_
  refine Lst.nil ?_
  refine At.then ?_
  refine Cd.seq ?_
  refine Cd.seq ?_
  refine Cd.region ?_
  refine Lst.run rfl rfl (by decide) (Ev.move rfl) ?_
  refine Lst.run rfl rfl (by decide) (Ev.move rfl) ?_
  refine Lst.run rfl rfl (by decide) (Ev.geq rfl rfl) ?_
  refine Lst.nil ?_
  refine At.then ?_
  rcases Bool.eq_false_or_eq_true (decide ((w64 ((w64 ((2 : Int) * y3)) + (1 : Int))) ≥ a2)) with hb7 | hb7
  · replace H := ite_t hb7 H
    refine Cd.condT rfl hb7 ?_
    refine Cd.exit ?_
    refine At.then_exit ?_
    refine At.in_other rfl ?_
    refine At.then_exit ?_
    refine At.in_exit ?_
    have H := hbrk2 _ (some_inj H).symm
    subst H
    replace H := HKl2
    obtain rfl := some_inj H
    exact At.ret0 (.inr rfl) rfl hF6 (List.Sublist.cons_cons _ (List.Sublist.refl _)) ⟨rfl, rfl⟩
  replace H := ite_f hb7 H
  refine Cd.condF rfl hb7 ?_
  refine Cd.skip ?_
  refine At.then ?_
  obtain ⟨o9, H, HKo9⟩ := bind_some H
  refine Cd.join (σ := Int) (fun y8 => [(0, Sl.v s_a0), (2, .int .i64 a2), (3, .int .i64 a3), (4, .func (.func 53) #[] #[]), (10, .int .i64 y3), (11, .int .i64 y8)]) (fun y8 => (.own s_a0 23 1 (encs l4)) :: L) (fun _ y8 => y8 = o9) ?_ ?_
  · refine Cd.seq ?_
    refine Cd.quiet (by kernel_rfl) (by kernel_rfl) ?_
    refine Qt.run rfl rfl (by decide) (Ev.move rfl) ?_
    refine Qt.run rfl rfl (by decide) (Ev.add rfl rfl) ?_
    refine Qt.run rfl rfl (by decide) (Ev.move rfl) ?_
    refine Qt.run rfl rfl (by decide) (Ev.lss rfl rfl) ?_
    refine Qt.run rfl rfl (by decide) (Ev.move rfl) ?_
    obtain ⟨o10, H, HKo10⟩ := bind_some H
    refine Qt.join (σ := Bool) 17 (fun y11 => [(0, Sl.v s_a0), (2, .int .i64 a2), (3, .int .i64 a3), (4, .func (.func 53) #[] #[]), (10, .int .i64 y3), (11, .int .i64 (w64 ((w64 ((2 : Int) * y3)) + (1 : Int)))), (40, .bool y11)]) (fun y11 => y11 = o10) ?_ ?_
    · rcases (Bool.eq_false_or_eq_true (decide ((w64 ((w64 ((w64 ((2 : Int) * y3)) + (1 : Int))) + (1 : Int))) < a2))).symm with hb12 | hb12
      · replace H := ite_f hb12 H
        refine Qt.skip rfl rfl rfl hb12 rfl (by decide) ?_
        refine Qt.skip rfl rfl rfl hb12 rfl (by decide) ?_
        refine Qt.skip rfl rfl rfl hb12 rfl (by decide) ?_
        refine Qt.skip rfl rfl rfl hb12 rfl (by decide) ?_
        refine Qt.skip rfl rfl rfl hb12 rfl (by decide) ?_
        refine Qt.skip rfl rfl rfl hb12 rfl (by decide) ?_
        refine Qt.skip rfl rfl rfl hb12 rfl (by decide) ?_
        refine Qt.skip rfl rfl rfl hb12 rfl (by decide) ?_
        refine Qt.skip rfl rfl rfl hb12 rfl (by decide) ?_
        refine Qt.skip rfl rfl rfl hb12 rfl (by decide) ?_
        refine Qt.skip rfl rfl rfl hb12 rfl (by decide) ?_
        refine Qt.skip rfl rfl rfl hb12 rfl (by decide) ?_
        refine Qt.skip rfl rfl rfl hb12 rfl (by decide) ?_
        refine Qt.skip rfl rfl rfl hb12 rfl (by decide) ?_
        refine Qt.skip rfl rfl rfl hb12 rfl (by decide) ?_
        refine Qt.skip rfl rfl rfl hb12 rfl (by decide) ?_
        refine Qt.run rfl rfl (by decide) (Ev.pickF rfl hb12 rfl) ?_
        exact Qt.meet false ⟨rfl, rfl, rfl, rfl, rfl, rfl, rfl, trivial⟩ (some_inj H)
      replace H := ite_t hb12 H
      refine Qt.runG rfl rfl rfl hb12 rfl (by decide) (Ev.move rfl) ?_
      refine Qt.runG rfl rfl rfl hb12 rfl (by decide) (Ev.move rfl) ?_
      refine Qt.runG rfl rfl rfl hb12 rfl (by decide) (Ev.move rfl) ?_
      refine Qt.runG rfl rfl rfl hb12 rfl (by decide) (Ev.move rfl) ?_
      refine Qt.runG rfl rfl rfl hb12 rfl (by decide) (Ev.add rfl rfl) ?_
      obtain ⟨x13, h14, H⟩ := bind_some H
      have g15 := lat_some h14
      refine Qt.runG rfl rfl rfl hb12 rfl (by decide) (Ev.indexS (α := BitVec 16) (xs := l4) rfl rfl Try.runUnderlying22 Try.sizeOf23 rfl (by decide) (Rd.own (i := 0) rfl rfl rfl) g15.1 g15.2.1) ?_
      refine Qt.runG rfl rfl rfl hb12 rfl (by decide) (Ev.loadS (α := BitVec 16) rfl (Rd.own (i := 0) rfl rfl rfl) Try.isAgg23 (v := .int .u16 x13.toNat) ((Get.elemN (s := 1) (x := x13) rfl g15.2.2 (Get.here _)).off (by omega))) ?_
      refine Qt.runG rfl rfl rfl hb12 rfl (by decide) (Ev.move rfl) ?_
      refine Qt.runG rfl rfl rfl hb12 rfl (by decide) (Ev.move rfl) ?_
      refine Qt.runG rfl rfl rfl hb12 rfl (by decide) (Ev.move rfl) ?_
      refine Qt.runG rfl rfl rfl hb12 rfl (by decide) (Ev.add rfl rfl) ?_
      refine Qt.runG rfl rfl rfl hb12 rfl (by decide) (Ev.add rfl rfl) ?_
      obtain ⟨x16, h17, H⟩ := bind_some H
      have g18 := lat_some h17
      refine Qt.runG rfl rfl rfl hb12 rfl (by decide) (Ev.indexS (α := BitVec 16) (xs := l4) rfl rfl Try.runUnderlying22 Try.sizeOf23 rfl (by decide) (Rd.own (i := 0) rfl rfl rfl) g18.1 g18.2.1) ?_
      refine Qt.runG rfl rfl rfl hb12 rfl (by decide) (Ev.loadS (α := BitVec 16) rfl (Rd.own (i := 0) rfl rfl rfl) Try.isAgg23 (v := .int .u16 x16.toNat) ((Get.elemN (s := 1) (x := x16) rfl g18.2.2 (Get.here _)).off (by omega))) ?_
      obtain ⟨r19, h20, H⟩ := bind_some H
      refine Qt.callVG rfl rfl rfl hb12 rfl (by decide) (vs := [.int .u16 x13.toNat, .int .u16 x16.toNat]) (cs := []) rfl ⟨rfl, rfl, trivial⟩ Try.call53 (quorum_compare_sim h20 w0 _ M _ (List.Sublist.cons _ hM)) ?_
      refine Qt.runG rfl rfl rfl hb12 rfl (by decide) (Ev.lss rfl rfl) ?_
      refine Qt.run rfl rfl (by decide) (Ev.pickT rfl hb12 rfl) ?_
      exact Qt.meet (decide (r19 < (0 : Int))) ⟨rfl, rfl, rfl, rfl, rfl, rfl, rfl, trivial⟩ (some_inj H)
    rintro y11 hy
    subst hy
    refine Qt.as (e' := [(0, Sl.v s_a0), (2, .int .i64 a2), (3, .int .i64 a3), (4, .func (.func 53) #[] #[]), (10, .int .i64 y3), (11, .int .i64 (w64 ((w64 ((2 : Int) * y3)) + (1 : Int)))), (40, .bool y11)]) ⟨rfl, rfl, rfl, rfl, rfl, rfl, rfl, trivial⟩ ?_
    replace H := HKo10
    refine Qt.done ?_
    refine At.then ?_
    rcases (Bool.eq_false_or_eq_true y11).symm with hb23 | hb23
    · replace H := ite_f hb23 H
      refine Cd.condF rfl hb23 ?_
      refine Cd.skip ?_
      exact At.meet (w64 ((w64 ((2 : Int) * y3)) + (1 : Int))) (FLe.refl _) ⟨rfl, rfl, rfl, rfl, rfl, rfl, trivial⟩ rfl (some_inj H)
    replace H := ite_t hb23 H
    refine Cd.condT rfl hb23 ?_
    refine Cd.region ?_
    refine Lst.run rfl rfl (by decide) (Ev.move rfl) ?_
    refine Lst.run rfl rfl (by decide) (Ev.add rfl rfl) ?_
    refine Lst.run rfl rfl (by decide) (Ev.assign rfl) ?_
    refine Lst.nil ?_
    exact At.meet (w64 ((w64 ((w64 ((2 : Int) * y3)) + (1 : Int))) + (1 : Int))) (FLe.refl _) ⟨rfl, rfl, rfl, rfl, rfl, rfl, trivial⟩ rfl (some_inj H)
  rintro F24 y8 hF25 hy
  subst hy
  refine Cd.as (e' := [(0, Sl.v s_a0), (2, .int .i64 a2), (3, .int .i64 a3), (4, .func (.func 53) #[] #[]), (10, .int .i64 y3), (11, .int .i64 y8)]) (L' := (.own s_a0 23 1 (encs l4)) :: L) ⟨rfl, rfl, rfl, rfl, rfl, rfl, trivial⟩ rfl ?_
  replace H := HKo9
  refine Cd.seq ?_
  refine Cd.seq ?_
  refine Cd.quiet (by kernel_rfl) (by kernel_rfl) ?_
  refine Qt.run rfl rfl (by decide) (Ev.move rfl) ?_
  refine Qt.run rfl rfl (by decide) (Ev.move rfl) ?_
  refine Qt.run rfl rfl (by decide) (Ev.move rfl) ?_
  refine Qt.run rfl rfl (by decide) (Ev.move rfl) ?_
  refine Qt.run rfl rfl (by decide) (Ev.add rfl rfl) ?_
  obtain ⟨x26, h27, H⟩ := bind_some H
  have g28 := lat_some h27
  refine Qt.run rfl rfl (by decide) (Ev.indexS (α := BitVec 16) (xs := l4) rfl rfl Try.runUnderlying22 Try.sizeOf23 rfl (by decide) (Rd.own (i := 0) rfl rfl rfl) g28.1 g28.2.1) ?_
  refine Qt.run rfl rfl (by decide) (Ev.loadS (α := BitVec 16) rfl (Rd.own (i := 0) rfl rfl rfl) Try.isAgg23 (v := .int .u16 x26.toNat) ((Get.elemN (s := 1) (x := x26) rfl g28.2.2 (Get.here _)).off (by omega))) ?_
  refine Qt.run rfl rfl (by decide) (Ev.move rfl) ?_
  refine Qt.run rfl rfl (by decide) (Ev.move rfl) ?_
  refine Qt.run rfl rfl (by decide) (Ev.move rfl) ?_
  refine Qt.run rfl rfl (by decide) (Ev.add rfl rfl) ?_
  obtain ⟨x29, h30, H⟩ := bind_some H
  have g31 := lat_some h30
  refine Qt.run rfl rfl (by decide) (Ev.indexS (α := BitVec 16) (xs := l4) rfl rfl Try.runUnderlying22 Try.sizeOf23 rfl (by decide) (Rd.own (i := 0) rfl rfl rfl) g31.1 g31.2.1) ?_
  refine Qt.run rfl rfl (by decide) (Ev.loadS (α := BitVec 16) rfl (Rd.own (i := 0) rfl rfl rfl) Try.isAgg23 (v := .int .u16 x29.toNat) ((Get.elemN (s := 1) (x := x29) rfl g31.2.2 (Get.here _)).off (by omega))) ?_
  obtain ⟨r32, h33, H⟩ := bind_some H
  refine Qt.callV rfl rfl (by decide) (vs := [.int .u16 x26.toNat, .int .u16 x29.toNat]) (cs := []) rfl ⟨rfl, rfl, trivial⟩ Try.call53 (quorum_compare_sim h33 w0 _ M _ (List.Sublist.cons _ hM)) ?_
  refine Qt.run rfl rfl (by decide) (Ev.lss rfl rfl) ?_
  refine Qt.run rfl rfl (by decide) (Ev.not rfl) ?_
  refine Qt.done ?_
  refine At.then ?_
  rcases Bool.eq_false_or_eq_true (!(decide (r32 < (0 : Int)))) with hb36 | hb36
  · replace H := ite_t hb36 H
    refine Cd.condT rfl hb36 ?_
    have H := hret2 _ (some_inj H).symm
    subst H
    replace H := HKl2
    obtain rfl := some_inj H
    refine Cd.ret ?_
    refine At.then_ret ?_
    refine At.in_ret ?_
    refine At.then_ret ?_
    refine At.in_ret ?_
    exact At.ret0 (.inl rfl) rfl (FLe.trans hF6 hF25) (List.Sublist.cons_cons _ (List.Sublist.refl _)) ⟨rfl, rfl⟩
  replace H := ite_f hb36 H
  refine Cd.condF rfl hb36 ?_
  refine Cd.skip ?_
  refine At.then ?_
  refine Cd.seq ?_
  refine Cd.as (e' := [(0, Sl.v s_a0), (2, .int .i64 a2), (3, .int .i64 a3), (4, .func (.func 53) #[] #[]), (10, .int .i64 y3), (11, .int .i64 y8)]) (L' := (.own s_a0 23 1 (encs l4)) :: L) ⟨rfl, rfl, rfl, rfl, rfl, rfl, trivial⟩ rfl ?_
  obtain ⟨x37, h38, H⟩ := bind_some H
  obtain ⟨x40, h41, H⟩ := bind_some H
  obtain ⟨x43, h44, H⟩ := bind_some H
  obtain ⟨p46, h47, H⟩ := Let_some H
  obtain ⟨o50, h51, H⟩ := Let_some H
  refine Cd.headMeet (σ := (List (BitVec 16))) 22 (fun l49 => [(0, Sl.v s_a0), (2, .int .i64 a2), (3, .int .i64 a3), (4, .func (.func 53) #[] #[]), (10, .int .i64 y3), (11, .int .i64 y8), (63, Sl.v s_a0), (66, .int .i64 (w64 (a3 + y8))), (78, .int .u16 x40.toNat)]) (fun l49 => (.own s_a0 23 1 (encs l49)) :: L) (fun _ l49 => l49 = o50) (by kernel_rfl) (by kernel_rfl) (behind_sink (by kernel_rfl) (by kernel_rfl) (by kernel_rfl)) (by kernel_rfl) (fun hsel hlt => ?_) ?_
  · refine HdJ.keep (fun w => St w0 F24 (L) w) (fun w h => trivial) ?_
    refine HdJ.takeK hsel hlt 0 (fun w h => h.sublist (List.Sublist.cons _ (List.Sublist.refl _))) rfl rfl (by decide) (by decide) (by kernel_rfl) (by kernel_rfl) rfl (Ev.move rfl) ?_
    refine HdJ.takeK hsel hlt 1 (fun w h => h.sublist (List.Sublist.cons _ (List.Sublist.refl _))) rfl rfl (by decide) (by decide) (by kernel_rfl) (by kernel_rfl) rfl (Ev.move rfl) ?_
    refine HdJ.takeK hsel hlt 2 (fun w h => h.sublist (List.Sublist.cons _ (List.Sublist.refl _))) rfl rfl (by decide) (by decide) (by kernel_rfl) (by kernel_rfl) rfl (Ev.move rfl) ?_
    refine HdJ.takeK hsel hlt 3 (fun w h => h.sublist (List.Sublist.cons _ (List.Sublist.refl _))) rfl rfl (by decide) (by decide) (by kernel_rfl) (by kernel_rfl) rfl (Ev.add rfl rfl) ?_
    refine HdJ.takeK hsel hlt 4 (fun w h => h.sublist (List.Sublist.cons _ (List.Sublist.refl _))) rfl rfl (by decide) (by decide) (by kernel_rfl) (by kernel_rfl) rfl (Ev.move rfl) ?_
    refine HdJ.takeK hsel hlt 5 (fun w h => h.sublist (List.Sublist.cons _ (List.Sublist.refl _))) rfl rfl (by decide) (by decide) (by kernel_rfl) (by kernel_rfl) rfl (Ev.move rfl) ?_
    refine HdJ.takeK hsel hlt 6 (fun w h => h.sublist (List.Sublist.cons _ (List.Sublist.refl _))) rfl rfl (by decide) (by decide) (by kernel_rfl) (by kernel_rfl) rfl (Ev.move rfl) ?_
    refine HdJ.takeK hsel hlt 7 (fun w h => h.sublist (List.Sublist.cons _ (List.Sublist.refl _))) rfl rfl (by decide) (by decide) (by kernel_rfl) (by kernel_rfl) rfl (Ev.add rfl rfl) ?_
    refine HdJ.takeK hsel hlt 8 (fun w h => h.sublist (List.Sublist.cons _ (List.Sublist.refl _))) rfl rfl (by decide) (by decide) (by kernel_rfl) (by kernel_rfl) rfl (Ev.move rfl) ?_
    refine HdJ.takeK hsel hlt 9 (fun w h => h.sublist (List.Sublist.cons _ (List.Sublist.refl _))) rfl rfl (by decide) (by decide) (by kernel_rfl) (by kernel_rfl) rfl (Ev.move rfl) ?_
    refine HdJ.takeK hsel hlt 10 (fun w h => h.sublist (List.Sublist.cons _ (List.Sublist.refl _))) rfl rfl (by decide) (by decide) (by kernel_rfl) (by kernel_rfl) rfl (Ev.move rfl) ?_
    refine HdJ.takeK hsel hlt 11 (fun w h => h.sublist (List.Sublist.cons _ (List.Sublist.refl _))) rfl rfl (by decide) (by decide) (by kernel_rfl) (by kernel_rfl) rfl (Ev.add rfl rfl) ?_
    refine HdJ.takeK hsel hlt 14 (fun w h => h.sublist (List.Sublist.cons _ (List.Sublist.refl _))) rfl rfl (by decide) (by decide) (by kernel_rfl) (by kernel_rfl) rfl (Ev.move rfl) ?_
    refine HdJ.takeK hsel hlt 15 (fun w h => h.sublist (List.Sublist.cons _ (List.Sublist.refl _))) rfl rfl (by decide) (by decide) (by kernel_rfl) (by kernel_rfl) rfl (Ev.move rfl) ?_
    refine HdJ.takeK hsel hlt 16 (fun w h => h.sublist (List.Sublist.cons _ (List.Sublist.refl _))) rfl rfl (by decide) (by decide) (by kernel_rfl) (by kernel_rfl) rfl (Ev.move rfl) ?_
    refine HdJ.takeK hsel hlt 17 (fun w h => h.sublist (List.Sublist.cons _ (List.Sublist.refl _))) rfl rfl (by decide) (by decide) (by kernel_rfl) (by kernel_rfl) rfl (Ev.add rfl rfl) ?_
    refine HdJ.step [12, 18] (by kernel_rfl) rfl ?_
    refine HdStep.cons (by decide) rfl (fun inv => ?_) ?_
    · have g52 := lat_some h38
      refine Lst.run rfl rfl (by decide) (Ev.indexS (α := BitVec 16) (xs := l4) rfl rfl Try.runUnderlying22 Try.sizeOf23 rfl (by decide) (Rd.own (i := 0) rfl rfl rfl) g52.1 g52.2.1) ?_
      refine Lst.nil ?_
      refine At.hd inv (fun w h => (h.weaken (FLe.refl _)).sublist (List.Sublist.cons _ (List.Sublist.refl _))) ?_
      refine HdJ.step [13, 18] (by kernel_rfl) rfl ?_
      refine HdStep.cons (by decide) rfl (fun inv => ?_) ?_
      · refine Lst.run rfl rfl (by decide) (Ev.loadS (α := BitVec 16) rfl (Rd.own (i := 0) rfl rfl rfl) Try.isAgg23 (v := .int .u16 x37.toNat) ((Get.elemN (s := 1) (x := x37) rfl g52.2.2 (Get.here _)).off (by omega))) ?_
        refine Lst.nil ?_
        refine At.hd inv (fun w h => (h.weaken (FLe.refl _)).sublist (List.Sublist.cons _ (List.Sublist.refl _))) ?_
        refine HdJ.step [18] (by kernel_rfl) rfl ?_
        refine HdStep.cons (by decide) rfl (fun inv => ?_) ?_
        · have g53 := lat_some h41
          refine Lst.run rfl rfl (by decide) (Ev.indexS (α := BitVec 16) (xs := l4) rfl rfl Try.runUnderlying22 Try.sizeOf23 rfl (by decide) (Rd.own (i := 0) rfl rfl rfl) g53.1 g53.2.1) ?_
          refine Lst.nil ?_
          refine At.hd inv (fun w h => (h.weaken (FLe.refl _)).sublist (List.Sublist.cons _ (List.Sublist.refl _))) ?_
          refine HdJ.step [19] (by kernel_rfl) rfl ?_
          refine HdStep.cons (by decide) rfl (fun inv => ?_) ?_
          · refine Lst.run rfl rfl (by decide) (Ev.loadS (α := BitVec 16) rfl (Rd.own (i := 0) rfl rfl rfl) Try.isAgg23 (v := .int .u16 x40.toNat) ((Get.elemN (s := 1) (x := x40) rfl g53.2.2 (Get.here _)).off (by omega))) ?_
            refine Lst.nil ?_
            refine At.hd inv (fun w h => (h.weaken (FLe.refl _)).sublist (List.Sublist.cons _ (List.Sublist.refl _))) ?_
            refine HdJ.step [20] (by kernel_rfl) rfl ?_
            refine HdStep.cons (by decide) rfl (fun inv => ?_) ?_
            · have g54 := lat_some h44
              refine Lst.run rfl rfl (by decide) (Ev.indexS (α := BitVec 16) (xs := l4) rfl rfl Try.runUnderlying22 Try.sizeOf23 rfl (by decide) (Rd.own (i := 0) rfl rfl rfl) g54.1 g54.2.1) ?_
              refine Lst.nil ?_
              refine At.hd inv (fun w h => (h.weaken (FLe.refl _)).sublist (List.Sublist.cons _ (List.Sublist.refl _))) ?_
              refine HdJ.step [21] (by kernel_rfl) rfl ?_
              refine HdStep.cons (by decide) rfl (fun inv => ?_) ?_
              · refine Lst.storeS (i := 0) rfl rfl rfl rfl rfl Try.sizeOf23 (vs := [.int .u16 x37.toNat]) rfl rfl (by decide) rfl (xs' := encs p46) (by rw [← h47]; exact (Put.elemN (s := 1) (x := x43) rfl g54.2.2 (Put.here (vs := [.int .u16 x37.toNat]) rfl)).off (by omega)) (L' := (.own s_a0 23 1 (encs p46)) :: L) rfl ?_
                refine Lst.nil ?_
                refine At.hd inv (fun w h => (h.weaken (FLe.refl _)).sublist (List.Sublist.cons _ (List.Sublist.refl _))) ?_
                refine HdJ.done (by kernel_rfl) ?_
                exact At.meetN p46 (FLe.refl _) ⟨rfl, rfl, rfl, rfl, rfl, rfl, rfl, rfl, rfl, trivial⟩ rfl h51
              exact trivial
            exact trivial
          exact trivial
        exact trivial
      refine HdStep.cons (by decide) rfl (fun inv => ?_) ?_
      · have g55 := lat_some h41
        refine Lst.run rfl rfl (by decide) (Ev.indexS (α := BitVec 16) (xs := l4) rfl rfl Try.runUnderlying22 Try.sizeOf23 rfl (by decide) (Rd.own (i := 0) rfl rfl rfl) g55.1 g55.2.1) ?_
        refine Lst.nil ?_
        refine At.hd inv (fun w h => (h.weaken (FLe.refl _)).sublist (List.Sublist.cons _ (List.Sublist.refl _))) ?_
        refine HdJ.step [13, 19] (by kernel_rfl) rfl ?_
        refine HdStep.cons (by decide) rfl (fun inv => ?_) ?_
        · refine Lst.run rfl rfl (by decide) (Ev.loadS (α := BitVec 16) rfl (Rd.own (i := 0) rfl rfl rfl) Try.isAgg23 (v := .int .u16 x37.toNat) ((Get.elemN (s := 1) (x := x37) rfl g52.2.2 (Get.here _)).off (by omega))) ?_
          refine Lst.nil ?_
          refine At.hd inv (fun w h => (h.weaken (FLe.refl _)).sublist (List.Sublist.cons _ (List.Sublist.refl _))) ?_
          refine HdJ.step [19] (by kernel_rfl) rfl ?_
          refine HdStep.cons (by decide) rfl (fun inv => ?_) ?_
          · refine Lst.run rfl rfl (by decide) (Ev.loadS (α := BitVec 16) rfl (Rd.own (i := 0) rfl rfl rfl) Try.isAgg23 (v := .int .u16 x40.toNat) ((Get.elemN (s := 1) (x := x40) rfl g55.2.2 (Get.here _)).off (by omega))) ?_
            refine Lst.nil ?_
            refine At.hd inv (fun w h => (h.weaken (FLe.refl _)).sublist (List.Sublist.cons _ (List.Sublist.refl _))) ?_
            refine HdJ.step [20] (by kernel_rfl) rfl ?_
            refine HdStep.cons (by decide) rfl (fun inv => ?_) ?_
            · have g56 := lat_some h44
              refine Lst.run rfl rfl (by decide) (Ev.indexS (α := BitVec 16) (xs := l4) rfl rfl Try.runUnderlying22 Try.sizeOf23 rfl (by decide) (Rd.own (i := 0) rfl rfl rfl) g56.1 g56.2.1) ?_
              refine Lst.nil ?_
              refine At.hd inv (fun w h => (h.weaken (FLe.refl _)).sublist (List.Sublist.cons _ (List.Sublist.refl _))) ?_
              refine HdJ.step [21] (by kernel_rfl) rfl ?_
              refine HdStep.cons (by decide) rfl (fun inv => ?_) ?_
              · refine Lst.storeS (i := 0) rfl rfl rfl rfl rfl Try.sizeOf23 (vs := [.int .u16 x37.toNat]) rfl rfl (by decide) rfl (xs' := encs p46) (by rw [← h47]; exact (Put.elemN (s := 1) (x := x43) rfl g56.2.2 (Put.here (vs := [.int .u16 x37.toNat]) rfl)).off (by omega)) (L' := (.own s_a0 23 1 (encs p46)) :: L) rfl ?_
                refine Lst.nil ?_
                refine At.hd inv (fun w h => (h.weaken (FLe.refl _)).sublist (List.Sublist.cons _ (List.Sublist.refl _))) ?_
                refine HdJ.done (by kernel_rfl) ?_
                exact At.meetN p46 (FLe.refl _) ⟨rfl, rfl, rfl, rfl, rfl, rfl, rfl, rfl, rfl, trivial⟩ rfl h51
              exact trivial
            exact trivial
          exact trivial
        refine HdStep.cons (by decide) rfl (fun inv => ?_) ?_
        · refine Lst.run rfl rfl (by decide) (Ev.loadS (α := BitVec 16) rfl (Rd.own (i := 0) rfl rfl rfl) Try.isAgg23 (v := .int .u16 x40.toNat) ((Get.elemN (s := 1) (x := x40) rfl g55.2.2 (Get.here _)).off (by omega))) ?_
          refine Lst.nil ?_
          refine At.hd inv (fun w h => (h.weaken (FLe.refl _)).sublist (List.Sublist.cons _ (List.Sublist.refl _))) ?_
          refine HdJ.step [13] (by kernel_rfl) rfl ?_
          refine HdStep.cons (by decide) rfl (fun inv => ?_) ?_
          · refine Lst.run rfl rfl (by decide) (Ev.loadS (α := BitVec 16) rfl (Rd.own (i := 0) rfl rfl rfl) Try.isAgg23 (v := .int .u16 x37.toNat) ((Get.elemN (s := 1) (x := x37) rfl g52.2.2 (Get.here _)).off (by omega))) ?_
            refine Lst.nil ?_
            refine At.hd inv (fun w h => (h.weaken (FLe.refl _)).sublist (List.Sublist.cons _ (List.Sublist.refl _))) ?_
            refine HdJ.step [20] (by kernel_rfl) rfl ?_
            refine HdStep.cons (by decide) rfl (fun inv => ?_) ?_
            · have g57 := lat_some h44
              refine Lst.run rfl rfl (by decide) (Ev.indexS (α := BitVec 16) (xs := l4) rfl rfl Try.runUnderlying22 Try.sizeOf23 rfl (by decide) (Rd.own (i := 0) rfl rfl rfl) g57.1 g57.2.1) ?_
              refine Lst.nil ?_
              refine At.hd inv (fun w h => (h.weaken (FLe.refl _)).sublist (List.Sublist.cons _ (List.Sublist.refl _))) ?_
              refine HdJ.step [21] (by kernel_rfl) rfl ?_
              refine HdStep.cons (by decide) rfl (fun inv => ?_) ?_
              · refine Lst.storeS (i := 0) rfl rfl rfl rfl rfl Try.sizeOf23 (vs := [.int .u16 x37.toNat]) rfl rfl (by decide) rfl (xs' := encs p46) (by rw [← h47]; exact (Put.elemN (s := 1) (x := x43) rfl g57.2.2 (Put.here (vs := [.int .u16 x37.toNat]) rfl)).off (by omega)) (L' := (.own s_a0 23 1 (encs p46)) :: L) rfl ?_
                refine Lst.nil ?_
                refine At.hd inv (fun w h => (h.weaken (FLe.refl _)).sublist (List.Sublist.cons _ (List.Sublist.refl _))) ?_
                refine HdJ.done (by kernel_rfl) ?_
                exact At.meetN p46 (FLe.refl _) ⟨rfl, rfl, rfl, rfl, rfl, rfl, rfl, rfl, rfl, trivial⟩ rfl h51
              exact trivial
            exact trivial
          exact trivial
        exact trivial
      exact trivial
    refine HdStep.cons (by decide) rfl (fun inv => ?_) ?_
    · have g58 := lat_some h41
      refine Lst.run rfl rfl (by decide) (Ev.indexS (α := BitVec 16) (xs := l4) rfl rfl Try.runUnderlying22 Try.sizeOf23 rfl (by decide) (Rd.own (i := 0) rfl rfl rfl) g58.1 g58.2.1) ?_
      refine Lst.nil ?_
      refine At.hd inv (fun w h => (h.weaken (FLe.refl _)).sublist (List.Sublist.cons _ (List.Sublist.refl _))) ?_
      refine HdJ.step [12, 19] (by kernel_rfl) rfl ?_
      refine HdStep.cons (by decide) rfl (fun inv => ?_) ?_
      · have g59 := lat_some h38
        refine Lst.run rfl rfl (by decide) (Ev.indexS (α := BitVec 16) (xs := l4) rfl rfl Try.runUnderlying22 Try.sizeOf23 rfl (by decide) (Rd.own (i := 0) rfl rfl rfl) g59.1 g59.2.1) ?_
        refine Lst.nil ?_
        refine At.hd inv (fun w h => (h.weaken (FLe.refl _)).sublist (List.Sublist.cons _ (List.Sublist.refl _))) ?_
        refine HdJ.step [13, 19] (by kernel_rfl) rfl ?_
        refine HdStep.cons (by decide) rfl (fun inv => ?_) ?_
        · refine Lst.run rfl rfl (by decide) (Ev.loadS (α := BitVec 16) rfl (Rd.own (i := 0) rfl rfl rfl) Try.isAgg23 (v := .int .u16 x37.toNat) ((Get.elemN (s := 1) (x := x37) rfl g59.2.2 (Get.here _)).off (by omega))) ?_
          refine Lst.nil ?_
          refine At.hd inv (fun w h => (h.weaken (FLe.refl _)).sublist (List.Sublist.cons _ (List.Sublist.refl _))) ?_
          refine HdJ.step [19] (by kernel_rfl) rfl ?_
          refine HdStep.cons (by decide) rfl (fun inv => ?_) ?_
          · refine Lst.run rfl rfl (by decide) (Ev.loadS (α := BitVec 16) rfl (Rd.own (i := 0) rfl rfl rfl) Try.isAgg23 (v := .int .u16 x40.toNat) ((Get.elemN (s := 1) (x := x40) rfl g58.2.2 (Get.here _)).off (by omega))) ?_
            refine Lst.nil ?_
            refine At.hd inv (fun w h => (h.weaken (FLe.refl _)).sublist (List.Sublist.cons _ (List.Sublist.refl _))) ?_
            refine HdJ.step [20] (by kernel_rfl) rfl ?_
            refine HdStep.cons (by decide) rfl (fun inv => ?_) ?_
            · have g60 := lat_some h44
              refine Lst.run rfl rfl (by decide) (Ev.indexS (α := BitVec 16) (xs := l4) rfl rfl Try.runUnderlying22 Try.sizeOf23 rfl (by decide) (Rd.own (i := 0) rfl rfl rfl) g60.1 g60.2.1) ?_
              refine Lst.nil ?_
              refine At.hd inv (fun w h => (h.weaken (FLe.refl _)).sublist (List.Sublist.cons _ (List.Sublist.refl _))) ?_
              refine HdJ.step [21] (by kernel_rfl) rfl ?_
              refine HdStep.cons (by decide) rfl (fun inv => ?_) ?_
              · refine Lst.storeS (i := 0) rfl rfl rfl rfl rfl Try.sizeOf23 (vs := [.int .u16 x37.toNat]) rfl rfl (by decide) rfl (xs' := encs p46) (by rw [← h47]; exact (Put.elemN (s := 1) (x := x43) rfl g60.2.2 (Put.here (vs := [.int .u16 x37.toNat]) rfl)).off (by omega)) (L' := (.own s_a0 23 1 (encs p46)) :: L) rfl ?_
                refine Lst.nil ?_
                refine At.hd inv (fun w h => (h.weaken (FLe.refl _)).sublist (List.Sublist.cons _ (List.Sublist.refl _))) ?_
                refine HdJ.done (by kernel_rfl) ?_
                exact At.meetN p46 (FLe.refl _) ⟨rfl, rfl, rfl, rfl, rfl, rfl, rfl, rfl, rfl, trivial⟩ rfl h51
              exact trivial
            exact trivial
          exact trivial
        refine HdStep.cons (by decide) rfl (fun inv => ?_) ?_
        · refine Lst.run rfl rfl (by decide) (Ev.loadS (α := BitVec 16) rfl (Rd.own (i := 0) rfl rfl rfl) Try.isAgg23 (v := .int .u16 x40.toNat) ((Get.elemN (s := 1) (x := x40) rfl g58.2.2 (Get.here _)).off (by omega))) ?_
          refine Lst.nil ?_
          refine At.hd inv (fun w h => (h.weaken (FLe.refl _)).sublist (List.Sublist.cons _ (List.Sublist.refl _))) ?_
          refine HdJ.step [13] (by kernel_rfl) rfl ?_
          refine HdStep.cons (by decide) rfl (fun inv => ?_) ?_
          · refine Lst.run rfl rfl (by decide) (Ev.loadS (α := BitVec 16) rfl (Rd.own (i := 0) rfl rfl rfl) Try.isAgg23 (v := .int .u16 x37.toNat) ((Get.elemN (s := 1) (x := x37) rfl g59.2.2 (Get.here _)).off (by omega))) ?_
            refine Lst.nil ?_
            refine At.hd inv (fun w h => (h.weaken (FLe.refl _)).sublist (List.Sublist.cons _ (List.Sublist.refl _))) ?_
            refine HdJ.step [20] (by kernel_rfl) rfl ?_
            refine HdStep.cons (by decide) rfl (fun inv => ?_) ?_
            · have g61 := lat_some h44
              refine Lst.run rfl rfl (by decide) (Ev.indexS (α := BitVec 16) (xs := l4) rfl rfl Try.runUnderlying22 Try.sizeOf23 rfl (by decide) (Rd.own (i := 0) rfl rfl rfl) g61.1 g61.2.1) ?_
              refine Lst.nil ?_
              refine At.hd inv (fun w h => (h.weaken (FLe.refl _)).sublist (List.Sublist.cons _ (List.Sublist.refl _))) ?_
              refine HdJ.step [21] (by kernel_rfl) rfl ?_
              refine HdStep.cons (by decide) rfl (fun inv => ?_) ?_
              · refine Lst.storeS (i := 0) rfl rfl rfl rfl rfl Try.sizeOf23 (vs := [.int .u16 x37.toNat]) rfl rfl (by decide) rfl (xs' := encs p46) (by rw [← h47]; exact (Put.elemN (s := 1) (x := x43) rfl g61.2.2 (Put.here (vs := [.int .u16 x37.toNat]) rfl)).off (by omega)) (L' := (.own s_a0 23 1 (encs p46)) :: L) rfl ?_
                refine Lst.nil ?_
                refine At.hd inv (fun w h => (h.weaken (FLe.refl _)).sublist (List.Sublist.cons _ (List.Sublist.refl _))) ?_
                refine HdJ.done (by kernel_rfl) ?_
                exact At.meetN p46 (FLe.refl _) ⟨rfl, rfl, rfl, rfl, rfl, rfl, rfl, rfl, rfl, trivial⟩ rfl h51
              exact trivial
            exact trivial
          exact trivial
        exact trivial
      refine HdStep.cons (by decide) rfl (fun inv => ?_) ?_
      · refine Lst.run rfl rfl (by decide) (Ev.loadS (α := BitVec 16) rfl (Rd.own (i := 0) rfl rfl rfl) Try.isAgg23 (v := .int .u16 x40.toNat) ((Get.elemN (s := 1) (x := x40) rfl g58.2.2 (Get.here _)).off (by omega))) ?_
        refine Lst.nil ?_
        refine At.hd inv (fun w h => (h.weaken (FLe.refl _)).sublist (List.Sublist.cons _ (List.Sublist.refl _))) ?_
        refine HdJ.step [12] (by kernel_rfl) rfl ?_
        refine HdStep.cons (by decide) rfl (fun inv => ?_) ?_
        · have g62 := lat_some h38
          refine Lst.run rfl rfl (by decide) (Ev.indexS (α := BitVec 16) (xs := l4) rfl rfl Try.runUnderlying22 Try.sizeOf23 rfl (by decide) (Rd.own (i := 0) rfl rfl rfl) g62.1 g62.2.1) ?_
          refine Lst.nil ?_
          refine At.hd inv (fun w h => (h.weaken (FLe.refl _)).sublist (List.Sublist.cons _ (List.Sublist.refl _))) ?_
          refine HdJ.step [13] (by kernel_rfl) rfl ?_
          refine HdStep.cons (by decide) rfl (fun inv => ?_) ?_
          · refine Lst.run rfl rfl (by decide) (Ev.loadS (α := BitVec 16) rfl (Rd.own (i := 0) rfl rfl rfl) Try.isAgg23 (v := .int .u16 x37.toNat) ((Get.elemN (s := 1) (x := x37) rfl g62.2.2 (Get.here _)).off (by omega))) ?_
            refine Lst.nil ?_
            refine At.hd inv (fun w h => (h.weaken (FLe.refl _)).sublist (List.Sublist.cons _ (List.Sublist.refl _))) ?_
            refine HdJ.step [20] (by kernel_rfl) rfl ?_
            refine HdStep.cons (by decide) rfl (fun inv => ?_) ?_
            · have g63 := lat_some h44
              refine Lst.run rfl rfl (by decide) (Ev.indexS (α := BitVec 16) (xs := l4) rfl rfl Try.runUnderlying22 Try.sizeOf23 rfl (by decide) (Rd.own (i := 0) rfl rfl rfl) g63.1 g63.2.1) ?_
              refine Lst.nil ?_
              refine At.hd inv (fun w h => (h.weaken (FLe.refl _)).sublist (List.Sublist.cons _ (List.Sublist.refl _))) ?_
              refine HdJ.step [21] (by kernel_rfl) rfl ?_
              refine HdStep.cons (by decide) rfl (fun inv => ?_) ?_
              · refine Lst.storeS (i := 0) rfl rfl rfl rfl rfl Try.sizeOf23 (vs := [.int .u16 x37.toNat]) rfl rfl (by decide) rfl (xs' := encs p46) (by rw [← h47]; exact (Put.elemN (s := 1) (x := x43) rfl g63.2.2 (Put.here (vs := [.int .u16 x37.toNat]) rfl)).off (by omega)) (L' := (.own s_a0 23 1 (encs p46)) :: L) rfl ?_
                refine Lst.nil ?_
                refine At.hd inv (fun w h => (h.weaken (FLe.refl _)).sublist (List.Sublist.cons _ (List.Sublist.refl _))) ?_
                refine HdJ.done (by kernel_rfl) ?_
                exact At.meetN p46 (FLe.refl _) ⟨rfl, rfl, rfl, rfl, rfl, rfl, rfl, rfl, rfl, trivial⟩ rfl h51
              exact trivial
            exact trivial
          exact trivial
        exact trivial
      exact trivial
    exact trivial
  rintro F64 l49 hF65 hy
  subst hy
  refine Lst.as (e' := [(0, Sl.v s_a0), (2, .int .i64 a2), (3, .int .i64 a3), (4, .func (.func 53) #[] #[]), (10, .int .i64 y3), (11, .int .i64 y8), (63, Sl.v s_a0), (66, .int .i64 (w64 (a3 + y8))), (78, .int .u16 x40.toNat)]) (L' := (.own s_a0 23 1 (encs l49)) :: L) ⟨rfl, rfl, rfl, rfl, rfl, rfl, rfl, rfl, rfl, trivial⟩ rfl ?_
  obtain ⟨x66, h67, H⟩ := bind_some H
  have g68 := lat_some h67
  refine Lst.run rfl rfl (by decide) (Ev.indexS (α := BitVec 16) (xs := l49) rfl rfl Try.runUnderlying22 Try.sizeOf23 rfl (by decide) (Rd.own (i := 0) rfl rfl rfl) g68.1 g68.2.1) ?_
  obtain ⟨p69, h70, H⟩ := Let_some H
  refine Lst.storeS (i := 0) rfl rfl rfl rfl rfl Try.sizeOf23 (vs := [.int .u16 x40.toNat]) rfl rfl (by decide) rfl (xs' := encs p69) (by rw [← h70]; exact (Put.elemN (s := 1) (x := x66) rfl g68.2.2 (Put.here (vs := [.int .u16 x40.toNat]) rfl)).off (by omega)) (L' := (.own s_a0 23 1 (encs p69)) :: L) rfl ?_
  refine Lst.nil ?_
  refine At.then ?_
  refine Cd.region ?_
  refine Lst.run rfl rfl (by decide) (Ev.move rfl) ?_
  refine Lst.run rfl rfl (by decide) (Ev.assign rfl) ?_
  refine Lst.nil ?_
  refine At.in_normal ?_
  exact At.meet (k2, y8, p69) (FLe.trans (FLe.trans hF6 hF25) hF65) ⟨rfl, rfl, rfl, rfl, rfl, trivial⟩ rfl ⟨hgo2 _ (some_inj H).symm, Nat.lt_succ_self _⟩
set_option maxRecDepth 20000 in
theorem slices_heapSortCmpFunc_uint16_quorum_compare_sim {fu : Nat} {a0 : List (BitVec 16)} {a1 : Int} {a2 : Int} {s_a0 : Sl} {r : (List (BitVec 16))} (H : slices_heapSortCmpFunc_uint16_quorum_compare fu a0 a1 a2 = some r) (w0 : World) (F : Frz) (M L : List Item) (hM : M.Sublist L) : Ok Try.prog w0 135 [Sl.v s_a0, .int .i64 a1, .int .i64 a2, .func (.func 53) #[] #[]] F ((.own s_a0 23 1 (encs a0)) :: L) (fun _ L' v => v = .tuple #[] ∧ L' = (.own s_a0 23 1 (encs r)) :: L) := by
  unfold slices_heapSortCmpFunc_uint16_quorum_compare at H
  refine Ok.enter (m := 4) (n := 60) Try.func135 rfl rfl rfl (by decide) ?_
  refine Cd.env (e' := [(0, Sl.v s_a0), (1, .int .i64 a1), (2, .int .i64 a2), (3, .func (.func 53) #[] #[])]) rfl ?_
  refine Cd.seq ?_
  refine Cd.region ?_
  refine Lst.run rfl rfl (by decide) (Ev.move rfl) ?_
  refine Lst.run rfl rfl (by decide) (Ev.assign rfl) ?_
  refine Lst.nil ?_
  refine At.then ?_
  refine Cd.seq ?_
  refine Cd.region ?_
  refine Lst.run rfl rfl (by decide) (Ev.assign rfl) ?_
  refine Lst.nil ?_
  refine At.then ?_
  refine Cd.seq ?_
  refine Cd.region ?_
  refine Lst.run rfl rfl (by decide) (Ev.move rfl) ?_
  refine Lst.run rfl rfl (by decide) (Ev.move rfl) ?_
  refine Lst.run rfl rfl (by decide) (Ev.sub rfl rfl) ?_
  refine Lst.run rfl rfl (by decide) (Ev.assign rfl) ?_
  refine Lst.nil ?_
  refine At.then ?_
  refine Cd.seq ?_
  refine Cd.seq ?_
  refine Cd.region ?_
  refine Lst.run rfl rfl (by decide) (Ev.move rfl) ?_
  refine Lst.run rfl rfl (by decide) (Ev.sub rfl rfl) ?_
  refine Lst.run rfl rfl (by decide) (Ev.quo (i := w64 ((w64 (a2 - a1)) - (1 : Int))) (j := (2 : Int)) rfl rfl (by decide)) ?_
  refine Lst.run rfl rfl (by decide) (Ev.assign rfl) ?_
  refine Lst.nil ?_
  refine At.then ?_
  refine Cd.block ?_
  obtain ⟨ol2, H, HKl2⟩ := andThen_some H
  refine Cd.loop (σ := Nat × Int × (List (BitVec 16))) (fun (k2, y3, l4) => [(0, Sl.v s_a0), (3, .func (.func 53) #[] #[]), (8, .int .i64 a1), (9, .int .i64 (0 : Int)), (10, .int .i64 (w64 (a2 - a1))), (11, .int .i64 y3)]) (fun (k2, y3, l4) => (.own s_a0 23 1 (encs l4)) :: L) (fun _ => (fun (k2, y3, l4) => whileM (slices_heapSortCmpFunc_uint16_quorum_compare_B0 fu a1 a2) k2 (y3, l4) = some ol2)) (fun (k2, y3, l4) => k2) (fu, w64 ((w64 ((w64 (a2 - a1)) - (1 : Int))).tdiv (2 : Int)), a0) ⟨rfl, rfl, rfl, rfl, rfl, rfl, trivial⟩ rfl H ?_
  rintro F5 ⟨k2, y3, l4⟩ hF6 H
  refine Cd.as (e' := [(0, Sl.v s_a0), (3, .func (.func 53) #[] #[]), (8, .int .i64 a1), (9, .int .i64 (0 : Int)), (10, .int .i64 (w64 (a2 - a1))), (11, .int .i64 y3)]) (L' := (.own s_a0 23 1 (encs l4)) :: L) ⟨rfl, rfl, rfl, rfl, rfl, rfl, trivial⟩ rfl ?_
  rcases k2 with _ | k2
  · cases H
  obtain ⟨c2, H, hgo2, hbrk2, hret2⟩ := whileM_go H
  unfold slices_heapSortCmpFunc_uint16_quorum_compare_B0 at H
  try dsimp only at H
  refine Cd.seq ?_
  refine Cd.seq ?_
  refine Cd.region ?_
  refine Lst.run rfl rfl (by decide) (Ev.move rfl) ?_
  refine Lst.run rfl rfl (by decide) (Ev.geq rfl rfl) ?_
  refine Lst.nil ?_
  refine At.then ?_
  rcases (Bool.eq_false_or_eq_true (decide (y3 ≥ (0 : Int)))).symm with hb7 | hb7
  · replace H := ite_f hb7 H
    refine Cd.condF rfl hb7 ?_
    refine Cd.exit ?_
    refine At.then_exit ?_
    refine At.then_exit ?_
    refine At.in_exit ?_
    have H := hbrk2 _ (some_inj H).symm
    subst H
    replace H := HKl2
    refine At.then ?_
    refine Cd.seq ?_
    refine Cd.region ?_
    refine Lst.run rfl rfl (by decide) (Ev.move rfl) ?_
    refine Lst.run rfl rfl (by decide) (Ev.sub rfl rfl) ?_
    refine Lst.run rfl rfl (by decide) (Ev.assign rfl) ?_
    refine Lst.nil ?_
    refine At.then ?_
    refine Cd.block ?_
    obtain ⟨ol8, H, HKl8⟩ := andThen_some H
    refine Cd.loop (σ := Nat × Int × (List (BitVec 16))) (fun (k8, y9, l10) => [(0, Sl.v s_a0), (3, .func (.func 53) #[] #[]), (8, .int .i64 a1), (9, .int .i64 (0 : Int)), (12, .int .i64 y9)]) (fun (k8, y9, l10) => (.own s_a0 23 1 (encs l10)) :: L) (fun _ => (fun (k8, y9, l10) => whileM (slices_heapSortCmpFunc_uint16_quorum_compare_B2 fu a1) k8 (y9, l10) = some ol8)) (fun (k8, y9, l10) => k8) (fu, w64 ((w64 (a2 - a1)) - (1 : Int)), l4) ⟨rfl, rfl, rfl, rfl, rfl, trivial⟩ rfl H ?_
    rintro F11 ⟨k8, y9, l10⟩ hF12 H
    refine Cd.as (e' := [(0, Sl.v s_a0), (3, .func (.func 53) #[] #[]), (8, .int .i64 a1), (9, .int .i64 (0 : Int)), (12, .int .i64 y9)]) (L' := (.own s_a0 23 1 (encs l10)) :: L) ⟨rfl, rfl, rfl, rfl, rfl, trivial⟩ rfl ?_
    rcases k8 with _ | k8
    · cases H
    obtain ⟨c8, H, hgo8, hbrk8, hret8⟩ := whileM_go H
    unfold slices_heapSortCmpFunc_uint16_quorum_compare_B2 at H
    try dsimp only at H
    refine Cd.seq ?_
    refine Cd.seq ?_
    refine Cd.region ?_
    refine Lst.run rfl rfl (by decide) (Ev.move rfl) ?_
    refine Lst.run rfl rfl (by decide) (Ev.geq rfl rfl) ?_
    refine Lst.nil ?_
    refine At.then ?_
    rcases (Bool.eq_false_or_eq_true (decide (y9 ≥ (0 : Int)))).symm with hb13 | hb13
    · replace H := ite_f hb13 H
      refine Cd.condF rfl hb13 ?_
      refine Cd.exit ?_
      refine At.then_exit ?_
      refine At.then_exit ?_
      refine At.in_exit ?_
      have H := hbrk8 _ (some_inj H).symm
      subst H
      replace H := HKl8
      obtain rfl := some_inj H
      exact At.ret0 (.inr rfl) rfl (FLe.trans hF6 hF12) (List.Sublist.cons_cons _ (List.Sublist.refl _)) ⟨rfl, rfl⟩
    replace H := ite_t hb13 H
    refine Cd.condT rfl hb13 ?_
    refine Cd.skip ?_
    refine At.then ?_
    refine Cd.seq ?_
    refine Cd.block ?_
    refine Cd.seq ?_
    obtain ⟨x14, h15, H⟩ := bind_some H
    obtain ⟨x17, h18, H⟩ := bind_some H
    obtain ⟨x20, h21, H⟩ := bind_some H
    obtain ⟨p23, h24, H⟩ := Let_some H
    obtain ⟨o27, h28, H⟩ := Let_some H
    refine Cd.headMeet (σ := (List (BitVec 16))) 18 (fun l26 => [(0, Sl.v s_a0), (3, .func (.func 53) #[] #[]), (8, .int .i64 a1), (9, .int .i64 (0 : Int)), (12, .int .i64 y9), (38, Sl.v s_a0), (41, .int .i64 (w64 (a1 + y9))), (51, .int .u16 x17.toNat)]) (fun l26 => (.own s_a0 23 1 (encs l26)) :: L) (fun _ l26 => l26 = o27) (by kernel_rfl) (by kernel_rfl) (behind_sink (by kernel_rfl) (by kernel_rfl) (by kernel_rfl)) (by kernel_rfl) (fun hsel hlt => ?_) ?_
    · refine HdJ.keep (fun w => St w0 F11 (L) w) (fun w h => trivial) ?_
      refine HdJ.takeK hsel hlt 0 (fun w h => h.sublist (List.Sublist.cons _ (List.Sublist.refl _))) rfl rfl (by decide) (by decide) (by kernel_rfl) (by kernel_rfl) rfl (Ev.move rfl) ?_
      refine HdJ.takeK hsel hlt 1 (fun w h => h.sublist (List.Sublist.cons _ (List.Sublist.refl _))) rfl rfl (by decide) (by decide) (by kernel_rfl) (by kernel_rfl) rfl (Ev.move rfl) ?_
      refine HdJ.takeK hsel hlt 2 (fun w h => h.sublist (List.Sublist.cons _ (List.Sublist.refl _))) rfl rfl (by decide) (by decide) (by kernel_rfl) (by kernel_rfl) rfl (Ev.move rfl) ?_
      refine HdJ.takeK hsel hlt 3 (fun w h => h.sublist (List.Sublist.cons _ (List.Sublist.refl _))) rfl rfl (by decide) (by decide) (by kernel_rfl) (by kernel_rfl) rfl (Ev.move rfl) ?_
      refine HdJ.takeK hsel hlt 4 (fun w h => h.sublist (List.Sublist.cons _ (List.Sublist.refl _))) rfl rfl (by decide) (by decide) (by kernel_rfl) (by kernel_rfl) rfl (Ev.move rfl) ?_
      refine HdJ.takeK hsel hlt 5 (fun w h => h.sublist (List.Sublist.cons _ (List.Sublist.refl _))) rfl rfl (by decide) (by decide) (by kernel_rfl) (by kernel_rfl) rfl (Ev.add rfl rfl) ?_
      refine HdJ.takeK hsel hlt 6 (fun w h => h.sublist (List.Sublist.cons _ (List.Sublist.refl _))) rfl rfl (by decide) (by decide) (by kernel_rfl) (by kernel_rfl) rfl (Ev.move rfl) ?_
      refine HdJ.takeK hsel hlt 7 (fun w h => h.sublist (List.Sublist.cons _ (List.Sublist.refl _))) rfl rfl (by decide) (by decide) (by kernel_rfl) (by kernel_rfl) rfl (Ev.move rfl) ?_
      refine HdJ.takeK hsel hlt 8 (fun w h => h.sublist (List.Sublist.cons _ (List.Sublist.refl _))) rfl rfl (by decide) (by decide) (by kernel_rfl) (by kernel_rfl) rfl (Ev.move rfl) ?_
      refine HdJ.takeK hsel hlt 9 (fun w h => h.sublist (List.Sublist.cons _ (List.Sublist.refl _))) rfl rfl (by decide) (by decide) (by kernel_rfl) (by kernel_rfl) rfl (Ev.add rfl rfl) ?_
      refine HdJ.takeK hsel hlt 12 (fun w h => h.sublist (List.Sublist.cons _ (List.Sublist.refl _))) rfl rfl (by decide) (by decide) (by kernel_rfl) (by kernel_rfl) rfl (Ev.move rfl) ?_
      refine HdJ.takeK hsel hlt 13 (fun w h => h.sublist (List.Sublist.cons _ (List.Sublist.refl _))) rfl rfl (by decide) (by decide) (by kernel_rfl) (by kernel_rfl) rfl (Ev.move rfl) ?_
      refine HdJ.step [10, 14] (by kernel_rfl) rfl ?_
      refine HdStep.cons (by decide) rfl (fun inv => ?_) ?_
      · have g29 := lat_some h15
        refine Lst.run rfl rfl (by decide) (Ev.indexS (α := BitVec 16) (xs := l10) rfl rfl Try.runUnderlying22 Try.sizeOf23 rfl (by decide) (Rd.own (i := 0) rfl rfl rfl) g29.1 g29.2.1) ?_
        refine Lst.nil ?_
        refine At.hd inv (fun w h => (h.weaken (FLe.refl _)).sublist (List.Sublist.cons _ (List.Sublist.refl _))) ?_
        refine HdJ.step [11, 14] (by kernel_rfl) rfl ?_
        refine HdStep.cons (by decide) rfl (fun inv => ?_) ?_
        · refine Lst.run rfl rfl (by decide) (Ev.loadS (α := BitVec 16) rfl (Rd.own (i := 0) rfl rfl rfl) Try.isAgg23 (v := .int .u16 x14.toNat) ((Get.elemN (s := 1) (x := x14) rfl g29.2.2 (Get.here _)).off (by omega))) ?_
          refine Lst.nil ?_
          refine At.hd inv (fun w h => (h.weaken (FLe.refl _)).sublist (List.Sublist.cons _ (List.Sublist.refl _))) ?_
          refine HdJ.step [14] (by kernel_rfl) rfl ?_
          refine HdStep.cons (by decide) rfl (fun inv => ?_) ?_
          · have g30 := lat_some h18
            refine Lst.run rfl rfl (by decide) (Ev.indexS (α := BitVec 16) (xs := l10) rfl rfl Try.runUnderlying22 Try.sizeOf23 rfl (by decide) (Rd.own (i := 0) rfl rfl rfl) g30.1 g30.2.1) ?_
            refine Lst.nil ?_
            refine At.hd inv (fun w h => (h.weaken (FLe.refl _)).sublist (List.Sublist.cons _ (List.Sublist.refl _))) ?_
            refine HdJ.step [15] (by kernel_rfl) rfl ?_
            refine HdStep.cons (by decide) rfl (fun inv => ?_) ?_
            · refine Lst.run rfl rfl (by decide) (Ev.loadS (α := BitVec 16) rfl (Rd.own (i := 0) rfl rfl rfl) Try.isAgg23 (v := .int .u16 x17.toNat) ((Get.elemN (s := 1) (x := x17) rfl g30.2.2 (Get.here _)).off (by omega))) ?_
              refine Lst.nil ?_
              refine At.hd inv (fun w h => (h.weaken (FLe.refl _)).sublist (List.Sublist.cons _ (List.Sublist.refl _))) ?_
              refine HdJ.step [16] (by kernel_rfl) rfl ?_
              refine HdStep.cons (by decide) rfl (fun inv => ?_) ?_
              · have g31 := lat_some h21
                refine Lst.run rfl rfl (by decide) (Ev.indexS (α := BitVec 16) (xs := l10) rfl rfl Try.runUnderlying22 Try.sizeOf23 rfl (by decide) (Rd.own (i := 0) rfl rfl rfl) g31.1 g31.2.1) ?_
                refine Lst.nil ?_
                refine At.hd inv (fun w h => (h.weaken (FLe.refl _)).sublist (List.Sublist.cons _ (List.Sublist.refl _))) ?_
                refine HdJ.step [17] (by kernel_rfl) rfl ?_
                refine HdStep.cons (by decide) rfl (fun inv => ?_) ?_
                · refine Lst.storeS (i := 0) rfl rfl rfl rfl rfl Try.sizeOf23 (vs := [.int .u16 x14.toNat]) rfl rfl (by decide) rfl (xs' := encs p23) (by rw [← h24]; exact (Put.elemN (s := 1) (x := x20) rfl g31.2.2 (Put.here (vs := [.int .u16 x14.toNat]) rfl)).off (by omega)) (L' := (.own s_a0 23 1 (encs p23)) :: L) rfl ?_
                  refine Lst.nil ?_
                  refine At.hd inv (fun w h => (h.weaken (FLe.refl _)).sublist (List.Sublist.cons _ (List.Sublist.refl _))) ?_
                  refine HdJ.done (by kernel_rfl) ?_
                  exact At.meetN p23 (FLe.refl _) ⟨rfl, rfl, rfl, rfl, rfl, rfl, rfl, rfl, trivial⟩ rfl h28
                exact trivial
              exact trivial
            exact trivial
          exact trivial
        refine HdStep.cons (by decide) rfl (fun inv => ?_) ?_
        · have g32 := lat_some h18
          refine Lst.run rfl rfl (by decide) (Ev.indexS (α := BitVec 16) (xs := l10) rfl rfl Try.runUnderlying22 Try.sizeOf23 rfl (by decide) (Rd.own (i := 0) rfl rfl rfl) g32.1 g32.2.1) ?_
          refine Lst.nil ?_
          refine At.hd inv (fun w h => (h.weaken (FLe.refl _)).sublist (List.Sublist.cons _ (List.Sublist.refl _))) ?_
          refine HdJ.step [11, 15] (by kernel_rfl) rfl ?_
          refine HdStep.cons (by decide) rfl (fun inv => ?_) ?_
          · refine Lst.run rfl rfl (by decide) (Ev.loadS (α := BitVec 16) rfl (Rd.own (i := 0) rfl rfl rfl) Try.isAgg23 (v := .int .u16 x14.toNat) ((Get.elemN (s := 1) (x := x14) rfl g29.2.2 (Get.here _)).off (by omega))) ?_
            refine Lst.nil ?_
            refine At.hd inv (fun w h => (h.weaken (FLe.refl _)).sublist (List.Sublist.cons _ (List.Sublist.refl _))) ?_
            refine HdJ.step [15] (by kernel_rfl) rfl ?_
            refine HdStep.cons (by decide) rfl (fun inv => ?_) ?_
            · refine Lst.run rfl rfl (by decide) (Ev.loadS (α := BitVec 16) rfl (Rd.own (i := 0) rfl rfl rfl) Try.isAgg23 (v := .int .u16 x17.toNat) ((Get.elemN (s := 1) (x := x17) rfl g32.2.2 (Get.here _)).off (by omega))) ?_
              refine Lst.nil ?_
              refine At.hd inv (fun w h => (h.weaken (FLe.refl _)).sublist (List.Sublist.cons _ (List.Sublist.refl _))) ?_
              refine HdJ.step [16] (by kernel_rfl) rfl ?_
              refine HdStep.cons (by decide) rfl (fun inv => ?_) ?_
              · have g33 := lat_some h21
                refine Lst.run rfl rfl (by decide) (Ev.indexS (α := BitVec 16) (xs := l10) rfl rfl Try.runUnderlying22 Try.sizeOf23 rfl (by decide) (Rd.own (i := 0) rfl rfl rfl) g33.1 g33.2.1) ?_
                refine Lst.nil ?_
                refine At.hd inv (fun w h => (h.weaken (FLe.refl _)).sublist (List.Sublist.cons _ (List.Sublist.refl _))) ?_
                refine HdJ.step [17] (by kernel_rfl) rfl ?_
                refine HdStep.cons (by decide) rfl (fun inv => ?_) ?_
                · refine Lst.storeS (i := 0) rfl rfl rfl rfl rfl Try.sizeOf23 (vs := [.int .u16 x14.toNat]) rfl rfl (by decide) rfl (xs' := encs p23) (by rw [← h24]; exact (Put.elemN (s := 1) (x := x20) rfl g33.2.2 (Put.here (vs := [.int .u16 x14.toNat]) rfl)).off (by omega)) (L' := (.own s_a0 23 1 (encs p23)) :: L) rfl ?_
                  refine Lst.nil ?_
                  refine At.hd inv (fun w h => (h.weaken (FLe.refl _)).sublist (List.Sublist.cons _ (List.Sublist.refl _))) ?_
                  refine HdJ.done (by kernel_rfl) ?_
                  exact At.meetN p23 (FLe.refl _) ⟨rfl, rfl, rfl, rfl, rfl, rfl, rfl, rfl, trivial⟩ rfl h28
                exact trivial
              exact trivial
            exact trivial
          refine HdStep.cons (by decide) rfl (fun inv => ?_) ?_
          · refine Lst.run rfl rfl (by decide) (Ev.loadS (α := BitVec 16) rfl (Rd.own (i := 0) rfl rfl rfl) Try.isAgg23 (v := .int .u16 x17.toNat) ((Get.elemN (s := 1) (x := x17) rfl g32.2.2 (Get.here _)).off (by omega))) ?_
            refine Lst.nil ?_
            refine At.hd inv (fun w h => (h.weaken (FLe.refl _)).sublist (List.Sublist.cons _ (List.Sublist.refl _))) ?_
            refine HdJ.step [11] (by kernel_rfl) rfl ?_
            refine HdStep.cons (by decide) rfl (fun inv => ?_) ?_
            · refine Lst.run rfl rfl (by decide) (Ev.loadS (α := BitVec 16) rfl (Rd.own (i := 0) rfl rfl rfl) Try.isAgg23 (v := .int .u16 x14.toNat) ((Get.elemN (s := 1) (x := x14) rfl g29.2.2 (Get.here _)).off (by omega))) ?_
              refine Lst.nil ?_
              refine At.hd inv (fun w h => (h.weaken (FLe.refl _)).sublist (List.Sublist.cons _ (List.Sublist.refl _))) ?_
              refine HdJ.step [16] (by kernel_rfl) rfl ?_
              refine HdStep.cons (by decide) rfl (fun inv => ?_) ?_
              · have g34 := lat_some h21
                refine Lst.run rfl rfl (by decide) (Ev.indexS (α := BitVec 16) (xs := l10) rfl rfl Try.runUnderlying22 Try.sizeOf23 rfl (by decide) (Rd.own (i := 0) rfl rfl rfl) g34.1 g34.2.1) ?_
                refine Lst.nil ?_
                refine At.hd inv (fun w h => (h.weaken (FLe.refl _)).sublist (List.Sublist.cons _ (List.Sublist.refl _))) ?_
                refine HdJ.step [17] (by kernel_rfl) rfl ?_
                refine HdStep.cons (by decide) rfl (fun inv => ?_) ?_
                · refine Lst.storeS (i := 0) rfl rfl rfl rfl rfl Try.sizeOf23 (vs := [.int .u16 x14.toNat]) rfl rfl (by decide) rfl (xs' := encs p23) (by rw [← h24]; exact (Put.elemN (s := 1) (x := x20) rfl g34.2.2 (Put.here (vs := [.int .u16 x14.toNat]) rfl)).off (by omega)) (L' := (.own s_a0 23 1 (encs p23)) :: L) rfl ?_
                  refine Lst.nil ?_
                  refine At.hd inv (fun w h => (h.weaken (FLe.refl _)).sublist (List.Sublist.cons _ (List.Sublist.refl _))) ?_
                  refine HdJ.done (by kernel_rfl) ?_
                  exact At.meetN p23 (FLe.refl _) ⟨rfl, rfl, rfl, rfl, rfl, rfl, rfl, rfl, trivial⟩ rfl h28
                exact trivial
              exact trivial
            exact trivial
          exact trivial
        exact trivial
      refine HdStep.cons (by decide) rfl (fun inv => ?_) ?_
      · have g35 := lat_some h18
        refine Lst.run rfl rfl (by decide) (Ev.indexS (α := BitVec 16) (xs := l10) rfl rfl Try.runUnderlying22 Try.sizeOf23 rfl (by decide) (Rd.own (i := 0) rfl rfl rfl) g35.1 g35.2.1) ?_
        refine Lst.nil ?_
        refine At.hd inv (fun w h => (h.weaken (FLe.refl _)).sublist (List.Sublist.cons _ (List.Sublist.refl _))) ?_
        refine HdJ.step [10, 15] (by kernel_rfl) rfl ?_
        refine HdStep.cons (by decide) rfl (fun inv => ?_) ?_
        · have g36 := lat_some h15
          refine Lst.run rfl rfl (by decide) (Ev.indexS (α := BitVec 16) (xs := l10) rfl rfl Try.runUnderlying22 Try.sizeOf23 rfl (by decide) (Rd.own (i := 0) rfl rfl rfl) g36.1 g36.2.1) ?_
          refine Lst.nil ?_
          refine At.hd inv (fun w h => (h.weaken (FLe.refl _)).sublist (List.Sublist.cons _ (List.Sublist.refl _))) ?_
          refine HdJ.step [11, 15] (by kernel_rfl) rfl ?_
          refine HdStep.cons (by decide) rfl (fun inv => ?_) ?_
          · refine Lst.run rfl rfl (by decide) (Ev.loadS (α := BitVec 16) rfl (Rd.own (i := 0) rfl rfl rfl) Try.isAgg23 (v := .int .u16 x14.toNat) ((Get.elemN (s := 1) (x := x14) rfl g36.2.2 (Get.here _)).off (by omega))) ?_
            refine Lst.nil ?_
            refine At.hd inv (fun w h => (h.weaken (FLe.refl _)).sublist (List.Sublist.cons _ (List.Sublist.refl _))) ?_
            refine HdJ.step [15] (by kernel_rfl) rfl ?_
            refine HdStep.cons (by decide) rfl (fun inv => ?_) ?_
            · refine Lst.run rfl rfl (by decide) (Ev.loadS (α := BitVec 16) rfl (Rd.own (i := 0) rfl rfl rfl) Try.isAgg23 (v := .int .u16 x17.toNat) ((Get.elemN (s := 1) (x := x17) rfl g35.2.2 (Get.here _)).off (by omega))) ?_
              refine Lst.nil ?_
              refine At.hd inv (fun w h => (h.weaken (FLe.refl _)).sublist (List.Sublist.cons _ (List.Sublist.refl _))) ?_
              refine HdJ.step [16] (by kernel_rfl) rfl ?_
              refine HdStep.cons (by decide) rfl (fun inv => ?_) ?_
              · have g37 := lat_some h21
                refine Lst.run rfl rfl (by decide) (Ev.indexS (α := BitVec 16) (xs := l10) rfl rfl Try.runUnderlying22 Try.sizeOf23 rfl (by decide) (Rd.own (i := 0) rfl rfl rfl) g37.1 g37.2.1) ?_
                refine Lst.nil ?_
                refine At.hd inv (fun w h => (h.weaken (FLe.refl _)).sublist (List.Sublist.cons _ (List.Sublist.refl _))) ?_
                refine HdJ.step [17] (by kernel_rfl) rfl ?_
                refine HdStep.cons (by decide) rfl (fun inv => ?_) ?_
                · refine Lst.storeS (i := 0) rfl rfl rfl rfl rfl Try.sizeOf23 (vs := [.int .u16 x14.toNat]) rfl rfl (by decide) rfl (xs' := encs p23) (by rw [← h24]; exact (Put.elemN (s := 1) (x := x20) rfl g37.2.2 (Put.here (vs := [.int .u16 x14.toNat]) rfl)).off (by omega)) (L' := (.own s_a0 23 1 (encs p23)) :: L) rfl ?_
                  refine Lst.nil ?_
                  refine At.hd inv (fun w h => (h.weaken (FLe.refl _)).sublist (List.Sublist.cons _ (List.Sublist.refl _))) ?_
                  refine HdJ.done (by kernel_rfl) ?_
                  exact At.meetN p23 (FLe.refl _) ⟨rfl, rfl, rfl, rfl, rfl, rfl, rfl, rfl, trivial⟩ rfl h28
                exact trivial
              exact trivial
            exact trivial
          refine HdStep.cons (by decide) rfl (fun inv => ?_) ?_
          · refine Lst.run rfl rfl (by decide) (Ev.loadS (α := BitVec 16) rfl (Rd.own (i := 0) rfl rfl rfl) Try.isAgg23 (v := .int .u16 x17.toNat) ((Get.elemN (s := 1) (x := x17) rfl g35.2.2 (Get.here _)).off (by omega))) ?_
            refine Lst.nil ?_
            refine At.hd inv (fun w h => (h.weaken (FLe.refl _)).sublist (List.Sublist.cons _ (List.Sublist.refl _))) ?_
            refine HdJ.step [11] (by kernel_rfl) rfl ?_
            refine HdStep.cons (by decide) rfl (fun inv => ?_) ?_
            · refine Lst.run rfl rfl (by decide) (Ev.loadS (α := BitVec 16) rfl (Rd.own (i := 0) rfl rfl rfl) Try.isAgg23 (v := .int .u16 x14.toNat) ((Get.elemN (s := 1) (x := x14) rfl g36.2.2 (Get.here _)).off (by omega))) ?_
              refine Lst.nil ?_
              refine At.hd inv (fun w h => (h.weaken (FLe.refl _)).sublist (List.Sublist.cons _ (List.Sublist.refl _))) ?_
              refine HdJ.step [16] (by kernel_rfl) rfl ?_
              refine HdStep.cons (by decide) rfl (fun inv => ?_) ?_
              · have g38 := lat_some h21
                refine Lst.run rfl rfl (by decide) (Ev.indexS (α := BitVec 16) (xs := l10) rfl rfl Try.runUnderlying22 Try.sizeOf23 rfl (by decide) (Rd.own (i := 0) rfl rfl rfl) g38.1 g38.2.1) ?_
                refine Lst.nil ?_
                refine At.hd inv (fun w h => (h.weaken (FLe.refl _)).sublist (List.Sublist.cons _ (List.Sublist.refl _))) ?_
                refine HdJ.step [17] (by kernel_rfl) rfl ?_
                refine HdStep.cons (by decide) rfl (fun inv => ?_) ?_
                · refine Lst.storeS (i := 0) rfl rfl rfl rfl rfl Try.sizeOf23 (vs := [.int .u16 x14.toNat]) rfl rfl (by decide) rfl (xs' := encs p23) (by rw [← h24]; exact (Put.elemN (s := 1) (x := x20) rfl g38.2.2 (Put.here (vs := [.int .u16 x14.toNat]) rfl)).off (by omega)) (L' := (.own s_a0 23 1 (encs p23)) :: L) rfl ?_
                  refine Lst.nil ?_
                  refine At.hd inv (fun w h => (h.weaken (FLe.refl _)).sublist (List.Sublist.cons _ (List.Sublist.refl _))) ?_
                  refine HdJ.done (by kernel_rfl) ?_
                  exact At.meetN p23 (FLe.refl _) ⟨rfl, rfl, rfl, rfl, rfl, rfl, rfl, rfl, trivial⟩ rfl h28
                exact trivial
              exact trivial
            exact trivial
          exact trivial
        refine HdStep.cons (by decide) rfl (fun inv => ?_) ?_
        · refine Lst.run rfl rfl (by decide) (Ev.loadS (α := BitVec 16) rfl (Rd.own (i := 0) rfl rfl rfl) Try.isAgg23 (v := .int .u16 x17.toNat) ((Get.elemN (s := 1) (x := x17) rfl g35.2.2 (Get.here _)).off (by omega))) ?_
          refine Lst.nil ?_
          refine At.hd inv (fun w h => (h.weaken (FLe.refl _)).sublist (List.Sublist.cons _ (List.Sublist.refl _))) ?_
          refine HdJ.step [10] (by kernel_rfl) rfl ?_
          refine HdStep.cons (by decide) rfl (fun inv => ?_) ?_
          · have g39 := lat_some h15
            refine Lst.run rfl rfl (by decide) (Ev.indexS (α := BitVec 16) (xs := l10) rfl rfl Try.runUnderlying22 Try.sizeOf23 rfl (by decide) (Rd.own (i := 0) rfl rfl rfl) g39.1 g39.2.1) ?_
            refine Lst.nil ?_
            refine At.hd inv (fun w h => (h.weaken (FLe.refl _)).sublist (List.Sublist.cons _ (List.Sublist.refl _))) ?_
            refine HdJ.step [11] (by kernel_rfl) rfl ?_
            refine HdStep.cons (by decide) rfl (fun inv => ?_) ?_
            · refine Lst.run rfl rfl (by decide) (Ev.loadS (α := BitVec 16) rfl (Rd.own (i := 0) rfl rfl rfl) Try.isAgg23 (v := .int .u16 x14.toNat) ((Get.elemN (s := 1) (x := x14) rfl g39.2.2 (Get.here _)).off (by omega))) ?_
              refine Lst.nil ?_
              refine At.hd inv (fun w h => (h.weaken (FLe.refl _)).sublist (List.Sublist.cons _ (List.Sublist.refl _))) ?_
              refine HdJ.step [16] (by kernel_rfl) rfl ?_
              refine HdStep.cons (by decide) rfl (fun inv => ?_) ?_
              · have g40 := lat_some h21
                refine Lst.run rfl rfl (by decide) (Ev.indexS (α := BitVec 16) (xs := l10) rfl rfl Try.runUnderlying22 Try.sizeOf23 rfl (by decide) (Rd.own (i := 0) rfl rfl rfl) g40.1 g40.2.1) ?_
                refine Lst.nil ?_
                refine At.hd inv (fun w h => (h.weaken (FLe.refl _)).sublist (List.Sublist.cons _ (List.Sublist.refl _))) ?_
                refine HdJ.step [17] (by kernel_rfl) rfl ?_
                refine HdStep.cons (by decide) rfl (fun inv => ?_) ?_
                · refine Lst.storeS (i := 0) rfl rfl rfl rfl rfl Try.sizeOf23 (vs := [.int .u16 x14.toNat]) rfl rfl (by decide) rfl (xs' := encs p23) (by rw [← h24]; exact (Put.elemN (s := 1) (x := x20) rfl g40.2.2 (Put.here (vs := [.int .u16 x14.toNat]) rfl)).off (by omega)) (L' := (.own s_a0 23 1 (encs p23)) :: L) rfl ?_
                  refine Lst.nil ?_
                  refine At.hd inv (fun w h => (h.weaken (FLe.refl _)).sublist (List.Sublist.cons _ (List.Sublist.refl _))) ?_
                  refine HdJ.done (by kernel_rfl) ?_
                  exact At.meetN p23 (FLe.refl _) ⟨rfl, rfl, rfl, rfl, rfl, rfl, rfl, rfl, trivial⟩ rfl h28
                exact trivial
              exact trivial
            exact trivial
          exact trivial
        exact trivial
      exact trivial
    rintro F41 l26 hF42 hy
    subst hy
    refine Lst.as (e' := [(0, Sl.v s_a0), (3, .func (.func 53) #[] #[]), (8, .int .i64 a1), (9, .int .i64 (0 : Int)), (12, .int .i64 y9), (38, Sl.v s_a0), (41, .int .i64 (w64 (a1 + y9))), (51, .int .u16 x17.toNat)]) (L' := (.own s_a0 23 1 (encs l26)) :: L) ⟨rfl, rfl, rfl, rfl, rfl, rfl, rfl, rfl, trivial⟩ rfl ?_
    obtain ⟨x43, h44, H⟩ := bind_some H
    have g45 := lat_some h44
    refine Lst.run rfl rfl (by decide) (Ev.indexS (α := BitVec 16) (xs := l26) rfl rfl Try.runUnderlying22 Try.sizeOf23 rfl (by decide) (Rd.own (i := 0) rfl rfl rfl) g45.1 g45.2.1) ?_
    obtain ⟨p46, h47, H⟩ := Let_some H
    refine Lst.storeS (i := 0) rfl rfl rfl rfl rfl Try.sizeOf23 (vs := [.int .u16 x17.toNat]) rfl rfl (by decide) rfl (xs' := encs p46) (by rw [← h47]; exact (Put.elemN (s := 1) (x := x43) rfl g45.2.2 (Put.here (vs := [.int .u16 x17.toNat]) rfl)).off (by omega)) (L' := (.own s_a0 23 1 (encs p46)) :: L) rfl ?_
    refine Lst.nil ?_
    refine At.then ?_
    refine Cd.region ?_
    refine Lst.run rfl rfl (by decide) (Ev.move rfl) ?_
    refine Lst.run rfl rfl (by decide) (Ev.move rfl) ?_
    refine Lst.run rfl rfl (by decide) (Ev.move rfl) ?_
    refine Lst.run rfl rfl (by decide) (Ev.move rfl) ?_
    refine Lst.run rfl rfl (by decide) (Ev.move rfl) ?_
    obtain ⟨r48, h49, H⟩ := bind_some H
    refine Lst.call rfl rfl (by decide) (vs := [Sl.v s_a0, .int .i64 (0 : Int), .int .i64 y9, .int .i64 a1, .func (.func 53) #[] #[]]) ⟨rfl, rfl, rfl, rfl, rfl, trivial⟩ Try.call151 (slices_siftDownCmpFunc_uint16_quorum_compare_sim h49 w0 _ M _ hM) (fun F50 L' v hF51 hv => ?_)
    obtain ⟨rfl, rfl⟩ := hv
    refine Lst.nil ?_
    refine At.in_normal ?_
    refine At.then ?_
    refine Cd.region ?_
    refine Lst.run rfl rfl (by decide) (Ev.move rfl) ?_
    refine Lst.run rfl rfl (by decide) (Ev.sub rfl rfl) ?_
    refine Lst.run rfl rfl (by decide) (Ev.assign rfl) ?_
    refine Lst.nil ?_
    exact At.meet (k8, w64 (y9 - (1 : Int)), r48) (FLe.trans (FLe.trans hF12 hF42) hF51) ⟨rfl, rfl, rfl, rfl, rfl, trivial⟩ rfl ⟨hgo8 _ (some_inj H).symm, Nat.lt_succ_self _⟩
  replace H := ite_t hb7 H
  refine Cd.condT rfl hb7 ?_
  refine Cd.skip ?_
  refine At.then ?_
  refine Cd.seq ?_
  refine Cd.block ?_
  refine Cd.region ?_
  refine Lst.run rfl rfl (by decide) (Ev.move rfl) ?_
  refine Lst.run rfl rfl (by decide) (Ev.move rfl) ?_
  refine Lst.run rfl rfl (by decide) (Ev.move rfl) ?_
  refine Lst.run rfl rfl (by decide) (Ev.move rfl) ?_
  refine Lst.run rfl rfl (by decide) (Ev.move rfl) ?_
  obtain ⟨r52, h53, H⟩ := bind_some H
  refine Lst.call rfl rfl (by decide) (vs := [Sl.v s_a0, .int .i64 y3, .int .i64 (w64 (a2 - a1)), .int .i64 a1, .func (.func 53) #[] #[]]) ⟨rfl, rfl, rfl, rfl, rfl, trivial⟩ Try.call151 (slices_siftDownCmpFunc_uint16_quorum_compare_sim h53 w0 _ M _ hM) (fun F54 L' v hF55 hv => ?_)
  obtain ⟨rfl, rfl⟩ := hv
  refine Lst.nil ?_
  refine At.in_normal ?_
  refine At.then ?_
  refine Cd.region ?_
  refine Lst.run rfl rfl (by decide) (Ev.move rfl) ?_
  refine Lst.run rfl rfl (by decide) (Ev.sub rfl rfl) ?_
  refine Lst.run rfl rfl (by decide) (Ev.assign rfl) ?_
  refine Lst.nil ?_
  exact At.meet (k2, w64 (y3 - (1 : Int)), r52) (FLe.trans hF6 hF55) ⟨rfl, rfl, rfl, rfl, rfl, rfl, trivial⟩ rfl ⟨hgo2 _ (some_inj H).symm, Nat.lt_succ_self _⟩
set_option maxRecDepth 20000 in
theorem slices_nextPowerOfTwo_sim {a0 : Int} {r : (BitVec 64)} (H : slices_nextPowerOfTwo a0 = some r) (w0 : World) (F : Frz) (M L : List Item) (hM : M.Sublist L) : Ok Try.prog w0 143 [.int .i64 a0] F (L) (Is (.int .u64 r.toNat) (L)) := by
  unfold slices_nextPowerOfTwo at H
  refine Ok.enter (m := 1) (n := 7) Try.func143 rfl rfl rfl (by decide) ?_
  refine Cd.env (e' := [(0, .int .i64 a0)]) rfl ?_
  refine Cd.seq ?_
  refine Cd.region ?_
  refine Lst.run rfl rfl (by decide) (Ev.assign rfl) ?_
  refine Lst.nil ?_
  refine At.then ?_
  refine Cd.seq ?_
  refine Cd.region ?_
  refine Lst.run rfl rfl (by decide) (Ev.move rfl) ?_
  refine Lst.run rfl rfl (by decide) (Ev.convTo64 rfl Try.runUnderlying3 Try.runUnderlying131) ?_
  obtain ⟨r1, h2, H⟩ := bind_some H
  refine Lst.call1 rfl rfl (by decide) (vs := [.int .u64 (BitVec.ofInt 64 a0).toNat]) ⟨rfl, trivial⟩ Try.call106 (math_bits_Len_sim h2 w0 _ M _ hM) ?_
  obtain ⟨n5, h6, H⟩ := bind_some H
  refine Lst.run rfl rfl (by decide) (Ev.shlU64 (i := (1 : BitVec 64)) (m := n5) rfl (congrArg some (congrArg (Value.int .i64) (cnt_some h6)))) ?_
  refine Lst.run rfl rfl (by decide) (Ev.assign rfl) ?_
  refine Lst.nil ?_
  refine At.then ?_
  obtain rfl := some_inj H
  refine Cd.ret ?_
  exact At.ret1 rfl (Res.tmp rfl) (FLe.refl _) (List.Sublist.refl _) ⟨rfl, rfl⟩
set_option maxRecDepth 20000 in
theorem slices_xorshift_Next_sim {a0 : BitVec 64} {b_a0 : Nat} {r : (BitVec 64) × (BitVec 64)} (H : slices_xorshift_Next a0 = some r) (w0 : World) (F : Frz) (M L : List Item) (hM : M.Sublist L) : Ok Try.prog w0 144 [.pointer (some ⟨b_a0, 0, none⟩)] F ((.blk b_a0 (enc a0) 159) :: L) (fun _ L' v => v = .int .u64 r.2.toNat ∧ L' = (.blk b_a0 (enc r.1) 159) :: L) := by
  unfold slices_xorshift_Next at H
  refine Ok.enter (m := 1) (n := 33) Try.func144 rfl rfl rfl (by decide) ?_
  refine Cd.env (e' := [(0, .pointer (some ⟨b_a0, 0, none⟩))]) rfl ?_
  refine Cd.seq ?_
  refine Cd.region ?_
  refine Lst.run rfl rfl (by decide) (Ev.assign rfl) ?_
  refine Lst.nil ?_
  refine At.then ?_
  refine Cd.seq ?_
  refine Cd.tail 9 (by kernel_rfl) (by kernel_rfl) ?_
  refine Qt.run rfl rfl (by decide) (Ev.move rfl) ?_
  refine Qt.run rfl rfl (by decide) (Ev.nilCheck rfl) ?_
  refine Qt.run rfl rfl (by decide) (Ev.load (i := 0) rfl rfl Try.isAgg159 (v := .int .u64 a0.toNat) (Get.here _)) ?_
  refine Qt.run rfl rfl (by decide) (Ev.move rfl) ?_
  refine Qt.run rfl rfl (by decide) (Ev.nilCheck rfl) ?_
  refine Qt.run rfl rfl (by decide) (Ev.load (i := 0) rfl rfl Try.isAgg159 (v := .int .u64 a0.toNat) (Get.here _)) ?_
  refine Qt.run rfl rfl (by decide) (Ev.shlU64 (i := a0) (m := 13) rfl rfl) ?_
  refine Qt.run rfl rfl (by decide) (Ev.xorU64 (i := a0) (j := a0 <<< 13) rfl rfl) ?_
  refine Qt.run rfl rfl (by decide) (Ev.nilCheck rfl) ?_
  refine Qt.tail ?_
  refine Lst.store (i := 0) rfl rfl rfl rfl rfl Try.sizeOf159 (vs := [.int .u64 (a0 ^^^ (a0 <<< 13)).toNat]) rfl rfl rfl (cs' := enc (a0 ^^^ (a0 <<< 13))) (Put.here (vs := [.int .u64 (a0 ^^^ (a0 <<< 13)).toNat]) rfl) (L' := (.blk b_a0 (enc (a0 ^^^ (a0 <<< 13))) 159) :: L) rfl ?_
  refine Lst.nil ?_
  refine At.then ?_
  refine Cd.seq ?_
  refine Cd.tail 9 (by kernel_rfl) (by kernel_rfl) ?_
  refine Qt.run rfl rfl (by decide) (Ev.move rfl) ?_
  refine Qt.run rfl rfl (by decide) (Ev.nilCheck rfl) ?_
  refine Qt.run rfl rfl (by decide) (Ev.load (i := 0) rfl rfl Try.isAgg159 (v := .int .u64 (a0 ^^^ (a0 <<< 13)).toNat) (Get.here _)) ?_
  refine Qt.run rfl rfl (by decide) (Ev.move rfl) ?_
  refine Qt.run rfl rfl (by decide) (Ev.nilCheck rfl) ?_
  refine Qt.run rfl rfl (by decide) (Ev.load (i := 0) rfl rfl Try.isAgg159 (v := .int .u64 (a0 ^^^ (a0 <<< 13)).toNat) (Get.here _)) ?_
  refine Qt.run rfl rfl (by decide) (Ev.shrU64 (i := a0 ^^^ (a0 <<< 13)) (m := 7) rfl rfl) ?_
  refine Qt.run rfl rfl (by decide) (Ev.xorU64 (i := a0 ^^^ (a0 <<< 13)) (j := (a0 ^^^ (a0 <<< 13)) >>> 7) rfl rfl) ?_
  refine Qt.run rfl rfl (by decide) (Ev.nilCheck rfl) ?_
  refine Qt.tail ?_
  refine Lst.store (i := 0) rfl rfl rfl rfl rfl Try.sizeOf159 (vs := [.int .u64 ((a0 ^^^ (a0 <<< 13)) ^^^ ((a0 ^^^ (a0 <<< 13)) >>> 7)).toNat]) rfl rfl rfl (cs' := enc ((a0 ^^^ (a0 <<< 13)) ^^^ ((a0 ^^^ (a0 <<< 13)) >>> 7))) (Put.here (vs := [.int .u64 ((a0 ^^^ (a0 <<< 13)) ^^^ ((a0 ^^^ (a0 <<< 13)) >>> 7)).toNat]) rfl) (L' := (.blk b_a0 (enc ((a0 ^^^ (a0 <<< 13)) ^^^ ((a0 ^^^ (a0 <<< 13)) >>> 7))) 159) :: L) rfl ?_
  refine Lst.nil ?_
  refine At.then ?_
  refine Cd.seq ?_
  refine Cd.as (e' := [(0, .pointer (some ⟨b_a0, 0, none⟩))]) (L' := (.blk b_a0 (enc ((a0 ^^^ (a0 <<< 13)) ^^^ ((a0 ^^^ (a0 <<< 13)) >>> 7))) 159) :: L) ⟨rfl, trivial⟩ rfl ?_
  refine Cd.tail 9 (by kernel_rfl) (by kernel_rfl) ?_
  refine Qt.run rfl rfl (by decide) (Ev.move rfl) ?_
  refine Qt.run rfl rfl (by decide) (Ev.nilCheck rfl) ?_
  refine Qt.run rfl rfl (by decide) (Ev.load (i := 0) rfl rfl Try.isAgg159 (v := .int .u64 ((a0 ^^^ (a0 <<< 13)) ^^^ ((a0 ^^^ (a0 <<< 13)) >>> 7)).toNat) (Get.here _)) ?_
  refine Qt.run rfl rfl (by decide) (Ev.move rfl) ?_
  refine Qt.run rfl rfl (by decide) (Ev.nilCheck rfl) ?_
  refine Qt.run rfl rfl (by decide) (Ev.load (i := 0) rfl rfl Try.isAgg159 (v := .int .u64 ((a0 ^^^ (a0 <<< 13)) ^^^ ((a0 ^^^ (a0 <<< 13)) >>> 7)).toNat) (Get.here _)) ?_
  refine Qt.run rfl rfl (by decide) (Ev.shlU64 (i := (a0 ^^^ (a0 <<< 13)) ^^^ ((a0 ^^^ (a0 <<< 13)) >>> 7)) (m := 17) rfl rfl) ?_
  refine Qt.run rfl rfl (by decide) (Ev.xorU64 (i := (a0 ^^^ (a0 <<< 13)) ^^^ ((a0 ^^^ (a0 <<< 13)) >>> 7)) (j := ((a0 ^^^ (a0 <<< 13)) ^^^ ((a0 ^^^ (a0 <<< 13)) >>> 7)) <<< 17) rfl rfl) ?_
  refine Qt.run rfl rfl (by decide) (Ev.nilCheck rfl) ?_
  refine Qt.tail ?_
  refine Lst.store (i := 0) rfl rfl rfl rfl rfl Try.sizeOf159 (vs := [.int .u64 (((a0 ^^^ (a0 <<< 13)) ^^^ ((a0 ^^^ (a0 <<< 13)) >>> 7)) ^^^ (((a0 ^^^ (a0 <<< 13)) ^^^ ((a0 ^^^ (a0 <<< 13)) >>> 7)) <<< 17)).toNat]) rfl rfl rfl (cs' := enc (((a0 ^^^ (a0 <<< 13)) ^^^ ((a0 ^^^ (a0 <<< 13)) >>> 7)) ^^^ (((a0 ^^^ (a0 <<< 13)) ^^^ ((a0 ^^^ (a0 <<< 13)) >>> 7)) <<< 17))) (Put.here (vs := [.int .u64 (((a0 ^^^ (a0 <<< 13)) ^^^ ((a0 ^^^ (a0 <<< 13)) >>> 7)) ^^^ (((a0 ^^^ (a0 <<< 13)) ^^^ ((a0 ^^^ (a0 <<< 13)) >>> 7)) <<< 17)).toNat]) rfl) (L' := (.blk b_a0 (enc (((a0 ^^^ (a0 <<< 13)) ^^^ ((a0 ^^^ (a0 <<< 13)) >>> 7)) ^^^ (((a0 ^^^ (a0 <<< 13)) ^^^ ((a0 ^^^ (a0 <<< 13)) >>> 7)) <<< 17))) 159) :: L) rfl ?_
  refine Lst.nil ?_
  refine At.then ?_
  refine Cd.seq ?_
  refine Cd.region ?_
  refine Lst.run rfl rfl (by decide) (Ev.move rfl) ?_
  refine Lst.run rfl rfl (by decide) (Ev.nilCheck rfl) ?_
  refine Lst.run rfl rfl (by decide) (Ev.load (i := 0) rfl rfl Try.isAgg159 (v := .int .u64 (((a0 ^^^ (a0 <<< 13)) ^^^ ((a0 ^^^ (a0 <<< 13)) >>> 7)) ^^^ (((a0 ^^^ (a0 <<< 13)) ^^^ ((a0 ^^^ (a0 <<< 13)) >>> 7)) <<< 17)).toNat) (Get.here _)) ?_
  refine Lst.run rfl rfl (by decide) (Ev.assign rfl) ?_
  refine Lst.nil ?_
  refine At.then ?_
  obtain rfl := some_inj H
  refine Cd.ret ?_
  exact At.ret1 rfl (Res.tmp rfl) (FLe.refl _) (List.Sublist.cons_cons _ (List.Sublist.refl _)) ⟨rfl, rfl⟩
set_option maxRecDepth 20000 in
theorem slices_breakPatternsCmpFunc_uint16_quorum_compare_sim {fu : Nat} {a0 : List (BitVec 16)} {a1 : Int} {a2 : Int} {s_a0 : Sl} {r : (List (BitVec 16))} (H : slices_breakPatternsCmpFunc_uint16_quorum_compare fu a0 a1 a2 = some r) (w0 : World) (F : Frz) (M L : List Item) (hM : M.Sublist L) : Ok Try.prog w0 136 [Sl.v s_a0, .int .i64 a1, .int .i64 a2, .func (.func 53) #[] #[]] F ((.own s_a0 23 1 (encs a0)) :: L) (fun _ L' v => v = .tuple #[] ∧ L' = (.own s_a0 23 1 (encs r)) :: L) := by
  unfold slices_breakPatternsCmpFunc_uint16_quorum_compare at H
  refine Ok.enter (m := 4) (n := 67) Try.func136 rfl rfl rfl (by decide) ?_
  refine Cd.env (e' := [(0, Sl.v s_a0), (1, .int .i64 a1), (2, .int .i64 a2), (3, .func (.func 53) #[] #[])]) rfl ?_
  refine Cd.seq ?_
  refine Cd.region ?_
  refine Lst.run rfl rfl (by decide) (Ev.move rfl) ?_
  refine Lst.run rfl rfl (by decide) (Ev.move rfl) ?_
  refine Lst.run rfl rfl (by decide) (Ev.sub rfl rfl) ?_
  refine Lst.run rfl rfl (by decide) (Ev.assign rfl) ?_
  refine Lst.nil ?_
  refine At.then ?_
  refine Cd.seq ?_
  refine Cd.region ?_
  refine Lst.run rfl rfl (by decide) (Ev.move rfl) ?_
  refine Lst.run rfl rfl (by decide) (Ev.geq rfl rfl) ?_
  refine Lst.nil ?_
  refine At.then ?_
  rcases (Bool.eq_false_or_eq_true (decide ((w64 (a2 - a1)) ≥ (8 : Int)))).symm with hb2 | hb2
  · replace H := ite_f hb2 H
    refine Cd.condF rfl hb2 ?_
    refine Cd.skip ?_
    obtain rfl := some_inj H
    exact At.ret0 (.inr rfl) rfl (FLe.refl _) (List.Sublist.cons_cons _ (List.Sublist.refl _)) ⟨rfl, rfl⟩
  replace H := ite_t hb2 H
  refine Cd.condT rfl hb2 ?_
  refine Cd.seq ?_
  refine Cd.region ?_
  refine Lst.run rfl rfl (by decide) (Ev.move rfl) ?_
  refine Lst.run rfl rfl (by decide) (Ev.convTo64 rfl Try.runUnderlying3 Try.runUnderlying159) ?_
  refine Lst.alloc (cs := enc (0 : BitVec 64)) rfl rfl (by decide) Try.zeroValue159 rfl (fun b3 => ?_)
  refine Lst.store (i := 0) rfl rfl rfl rfl rfl Try.sizeOf159 (vs := [.int .u64 (BitVec.ofInt 64 (w64 (a2 - a1))).toNat]) rfl rfl rfl (cs' := enc (BitVec.ofInt 64 (w64 (a2 - a1)))) (Put.here (vs := [.int .u64 (BitVec.ofInt 64 (w64 (a2 - a1))).toNat]) rfl) (L' := (.blk b3 (enc (BitVec.ofInt 64 (w64 (a2 - a1)))) 159) :: (.own s_a0 23 1 (encs a0)) :: L) rfl ?_
  refine Lst.nil ?_
  refine At.then ?_
  refine Cd.seq ?_
  refine Cd.region ?_
  refine Lst.run rfl rfl (by decide) (Ev.move rfl) ?_
  obtain ⟨r5, h6, H⟩ := bind_some H
  refine Lst.call1 rfl rfl (by decide) (vs := [.int .i64 (w64 (a2 - a1))]) ⟨rfl, trivial⟩ Try.call143 (slices_nextPowerOfTwo_sim h6 w0 _ M _ (List.Sublist.cons _ (List.Sublist.cons _ hM))) ?_
  refine Lst.run rfl rfl (by decide) (Ev.assign rfl) ?_
  refine Lst.nil ?_
  refine At.then ?_
  refine Cd.seq ?_
  refine Cd.region ?_
  refine Lst.run rfl rfl (by decide) (Ev.move rfl) ?_
  refine Lst.run rfl rfl (by decide) (Ev.move rfl) ?_
  refine Lst.run rfl rfl (by decide) (Ev.quo (i := w64 (a2 - a1)) (j := (4 : Int)) rfl rfl (by decide)) ?_
  refine Lst.run rfl rfl (by decide) (Ev.mul rfl rfl) ?_
  refine Lst.run rfl rfl (by decide) (Ev.add rfl rfl) ?_
  refine Lst.run rfl rfl (by decide) (Ev.sub rfl rfl) ?_
  refine Lst.run rfl rfl (by decide) (Ev.assign rfl) ?_
  refine Lst.nil ?_
  refine At.then ?_
  refine Cd.block ?_
  obtain ⟨ol9, H, HKl9⟩ := andThen_some H
  refine Cd.loop (σ := Nat × Int × (BitVec 64) × (List (BitVec 16))) (fun (k9, y10, y11, l12) => [(0, Sl.v s_a0), (1, .int .i64 a1), (8, .int .i64 (w64 (a2 - a1))), (9, .pointer (some ⟨b3, 0, none⟩)), (10, .int .u64 r5.toNat), (11, .int .i64 y10)]) (fun (k9, y10, y11, l12) => (.blk b3 (enc y11) 159) :: (.own s_a0 23 1 (encs l12)) :: L) (fun _ => (fun (k9, y10, y11, l12) => whileM (slices_breakPatternsCmpFunc_uint16_quorum_compare_B0 a1 a2 r5) k9 (y10, y11, l12) = some ol9)) (fun (k9, y10, y11, l12) => k9) (fu, w64 ((w64 (a1 + (w64 ((w64 ((w64 (a2 - a1)).tdiv (4 : Int))) * (2 : Int))))) - (1 : Int)), BitVec.ofInt 64 (w64 (a2 - a1)), a0) ⟨rfl, rfl, rfl, rfl, rfl, rfl, trivial⟩ rfl H ?_
  rintro F13 ⟨k9, y10, y11, l12⟩ hF14 H
  refine Cd.as (e' := [(0, Sl.v s_a0), (1, .int .i64 a1), (8, .int .i64 (w64 (a2 - a1))), (9, .pointer (some ⟨b3, 0, none⟩)), (10, .int .u64 r5.toNat), (11, .int .i64 y10)]) (L' := (.blk b3 (enc y11) 159) :: (.own s_a0 23 1 (encs l12)) :: L) ⟨rfl, rfl, rfl, rfl, rfl, rfl, trivial⟩ rfl ?_
  rcases k9 with _ | k9
  · cases H
  obtain ⟨c9, H, hgo9, hbrk9, hret9⟩ := whileM_go H
  unfold slices_breakPatternsCmpFunc_uint16_quorum_compare_B0 at H
  try dsimp only at H
  refine Cd.seq ?_
  refine Cd.seq ?_
  refine Cd.region ?_
  refine Lst.run rfl rfl (by decide) (Ev.move rfl) ?_
  refine Lst.run rfl rfl (by decide) (Ev.move rfl) ?_
  refine Lst.run rfl rfl (by decide) (Ev.move rfl) ?_
  refine Lst.run rfl rfl (by decide) (Ev.quo (i := w64 (a2 - a1)) (j := (4 : Int)) rfl rfl (by decide)) ?_
  refine Lst.run rfl rfl (by decide) (Ev.mul rfl rfl) ?_
  refine Lst.run rfl rfl (by decide) (Ev.add rfl rfl) ?_
  refine Lst.run rfl rfl (by decide) (Ev.add rfl rfl) ?_
  refine Lst.run rfl rfl (by decide) (Ev.leq rfl rfl) ?_
  refine Lst.nil ?_
  refine At.then ?_
  rcases (Bool.eq_false_or_eq_true (decide (y10 ≤ (w64 ((w64 (a1 + (w64 ((w64 ((w64 (a2 - a1)).tdiv (4 : Int))) * (2 : Int))))) + (1 : Int)))))).symm with hb15 | hb15
  · replace H := ite_f hb15 H
    refine Cd.condF rfl hb15 ?_
    refine Cd.exit ?_
    refine At.then_exit ?_
    refine At.then_exit ?_
    refine At.in_exit ?_
    have H := hbrk9 _ (some_inj H).symm
    subst H
    replace H := HKl9
    obtain rfl := some_inj H
    exact At.ret0 (.inr rfl) rfl hF14 (List.Sublist.cons _ (List.Sublist.cons_cons _ (List.Sublist.refl _))) ⟨rfl, rfl⟩
  replace H := ite_t hb15 H
  refine Cd.condT rfl hb15 ?_
  refine Cd.skip ?_
  refine At.then ?_
  refine Cd.seq ?_
  refine Cd.block ?_
  refine Cd.seq ?_
  refine Cd.region ?_
  obtain ⟨r16, h17, H⟩ := bind_some H
  refine Lst.call rfl rfl (by decide) (vs := [.pointer (some ⟨b3, 0, none⟩)]) ⟨rfl, trivial⟩ Try.call144 (slices_xorshift_Next_sim h17 w0 _ M _ (List.Sublist.cons _ hM)) (fun F18 L' v hF19 hv => ?_)
  obtain ⟨rfl, rfl⟩ := hv
  refine Lst.run rfl rfl (by decide) (Ev.move rfl) ?_
  refine Lst.run rfl rfl (by decide) (Ev.subU64 (i := r5) (j := (1 : BitVec 64)) rfl rfl) ?_
  refine Lst.run rfl rfl (by decide) (Ev.andU64 (i := r16.2) (j := r5 - (1 : BitVec 64)) rfl rfl) ?_
  refine Lst.run rfl rfl (by decide) (Ev.conv64 rfl Try.runUnderlying131 Try.runUnderlying3) ?_
  refine Lst.run rfl rfl (by decide) (Ev.assign rfl) ?_
  refine Lst.nil ?_
  refine At.then ?_
  obtain ⟨o21, H, HKo21⟩ := bind_some H
  refine Cd.join (σ := Int) (fun y20 => [(0, Sl.v s_a0), (1, .int .i64 a1), (8, .int .i64 (w64 (a2 - a1))), (9, .pointer (some ⟨b3, 0, none⟩)), (10, .int .u64 r5.toNat), (11, .int .i64 y10), (12, .int .i64 y20)]) (fun y20 => (.blk b3 (enc r16.1) 159) :: (.own s_a0 23 1 (encs l12)) :: L) (fun _ y20 => y20 = o21) ?_ ?_
  · refine Cd.seq ?_
    refine Cd.region ?_
    refine Lst.run rfl rfl (by decide) (Ev.move rfl) ?_
    refine Lst.run rfl rfl (by decide) (Ev.move rfl) ?_
    refine Lst.run rfl rfl (by decide) (Ev.geq rfl rfl) ?_
    refine Lst.nil ?_
    refine At.then ?_
    rcases (Bool.eq_false_or_eq_true (decide ((w64 ((r16.2 &&& (r5 - (1 : BitVec 64))).toNat : Int)) ≥ (w64 (a2 - a1))))).symm with hb22 | hb22
    · replace H := ite_f hb22 H
      refine Cd.condF rfl hb22 ?_
      refine Cd.skip ?_
      exact At.meet (w64 ((r16.2 &&& (r5 - (1 : BitVec 64))).toNat : Int)) (FLe.refl _) ⟨rfl, rfl, rfl, rfl, rfl, rfl, rfl, trivial⟩ rfl (some_inj H)
    replace H := ite_t hb22 H
    refine Cd.condT rfl hb22 ?_
    refine Cd.as (e' := [(0, Sl.v s_a0), (1, .int .i64 a1), (8, .int .i64 (w64 (a2 - a1))), (9, .pointer (some ⟨b3, 0, none⟩)), (10, .int .u64 r5.toNat), (11, .int .i64 y10), (12, .int .i64 (w64 ((r16.2 &&& (r5 - (1 : BitVec 64))).toNat : Int)))]) (L' := (.blk b3 (enc r16.1) 159) :: (.own s_a0 23 1 (encs l12)) :: L) ⟨rfl, rfl, rfl, rfl, rfl, rfl, rfl, trivial⟩ rfl ?_
    refine Cd.region ?_
    refine Lst.run rfl rfl (by decide) (Ev.move rfl) ?_
    refine Lst.run rfl rfl (by decide) (Ev.move rfl) ?_
    refine Lst.run rfl rfl (by decide) (Ev.sub rfl rfl) ?_
    refine Lst.run rfl rfl (by decide) (Ev.assign rfl) ?_
    refine Lst.nil ?_
    exact At.meet (w64 ((w64 ((r16.2 &&& (r5 - (1 : BitVec 64))).toNat : Int)) - (w64 (a2 - a1)))) (FLe.refl _) ⟨rfl, rfl, rfl, rfl, rfl, rfl, rfl, trivial⟩ rfl (some_inj H)
  rintro F23 y20 hF24 hy
  subst hy
  refine Cd.as (e' := [(0, Sl.v s_a0), (1, .int .i64 a1), (8, .int .i64 (w64 (a2 - a1))), (9, .pointer (some ⟨b3, 0, none⟩)), (10, .int .u64 r5.toNat), (11, .int .i64 y10), (12, .int .i64 y20)]) (L' := (.blk b3 (enc r16.1) 159) :: (.own s_a0 23 1 (encs l12)) :: L) ⟨rfl, rfl, rfl, rfl, rfl, rfl, rfl, trivial⟩ rfl ?_
  replace H := HKo21
  obtain ⟨x25, h26, H⟩ := bind_some H
  obtain ⟨x28, h29, H⟩ := bind_some H
  obtain ⟨x31, h32, H⟩ := bind_some H
  obtain ⟨p34, h35, H⟩ := Let_some H
  obtain ⟨o38, h39, H⟩ := Let_some H
  refine Cd.headMeet (σ := (List (BitVec 16))) 18 (fun l37 => [(0, Sl.v s_a0), (1, .int .i64 a1), (8, .int .i64 (w64 (a2 - a1))), (9, .pointer (some ⟨b3, 0, none⟩)), (10, .int .u64 r5.toNat), (11, .int .i64 y10), (51, Sl.v s_a0), (54, .int .i64 (w64 (a1 + y20))), (64, .int .u16 x28.toNat)]) (fun l37 => (.blk b3 (enc r16.1) 159) :: (.own s_a0 23 1 (encs l37)) :: L) (fun _ l37 => l37 = o38) (by kernel_rfl) (by kernel_rfl) (behind_sink (by kernel_rfl) (by kernel_rfl) (by kernel_rfl)) (by kernel_rfl) (fun hsel hlt => ?_) ?_
  · refine HdJ.keep (fun w => St w0 F23 ((.blk b3 (enc r16.1) 159) :: L) w) (fun w h => trivial) ?_
    refine HdJ.takeK hsel hlt 0 (fun w h => h.sublist (List.Sublist.cons_cons _ (List.Sublist.cons _ (List.Sublist.refl _)))) rfl rfl (by decide) (by decide) (by kernel_rfl) (by kernel_rfl) rfl (Ev.move rfl) ?_
    refine HdJ.takeK hsel hlt 1 (fun w h => h.sublist (List.Sublist.cons_cons _ (List.Sublist.cons _ (List.Sublist.refl _)))) rfl rfl (by decide) (by decide) (by kernel_rfl) (by kernel_rfl) rfl (Ev.move rfl) ?_
    refine HdJ.takeK hsel hlt 2 (fun w h => h.sublist (List.Sublist.cons_cons _ (List.Sublist.cons _ (List.Sublist.refl _)))) rfl rfl (by decide) (by decide) (by kernel_rfl) (by kernel_rfl) rfl (Ev.move rfl) ?_
    refine HdJ.takeK hsel hlt 3 (fun w h => h.sublist (List.Sublist.cons_cons _ (List.Sublist.cons _ (List.Sublist.refl _)))) rfl rfl (by decide) (by decide) (by kernel_rfl) (by kernel_rfl) rfl (Ev.move rfl) ?_
    refine HdJ.takeK hsel hlt 4 (fun w h => h.sublist (List.Sublist.cons_cons _ (List.Sublist.cons _ (List.Sublist.refl _)))) rfl rfl (by decide) (by decide) (by kernel_rfl) (by kernel_rfl) rfl (Ev.move rfl) ?_
    refine HdJ.takeK hsel hlt 5 (fun w h => h.sublist (List.Sublist.cons_cons _ (List.Sublist.cons _ (List.Sublist.refl _)))) rfl rfl (by decide) (by decide) (by kernel_rfl) (by kernel_rfl) rfl (Ev.add rfl rfl) ?_
    refine HdJ.takeK hsel hlt 6 (fun w h => h.sublist (List.Sublist.cons_cons _ (List.Sublist.cons _ (List.Sublist.refl _)))) rfl rfl (by decide) (by decide) (by kernel_rfl) (by kernel_rfl) rfl (Ev.move rfl) ?_
    refine HdJ.takeK hsel hlt 7 (fun w h => h.sublist (List.Sublist.cons_cons _ (List.Sublist.cons _ (List.Sublist.refl _)))) rfl rfl (by decide) (by decide) (by kernel_rfl) (by kernel_rfl) rfl (Ev.move rfl) ?_
    refine HdJ.takeK hsel hlt 8 (fun w h => h.sublist (List.Sublist.cons_cons _ (List.Sublist.cons _ (List.Sublist.refl _)))) rfl rfl (by decide) (by decide) (by kernel_rfl) (by kernel_rfl) rfl (Ev.move rfl) ?_
    refine HdJ.takeK hsel hlt 9 (fun w h => h.sublist (List.Sublist.cons_cons _ (List.Sublist.cons _ (List.Sublist.refl _)))) rfl rfl (by decide) (by decide) (by kernel_rfl) (by kernel_rfl) rfl (Ev.add rfl rfl) ?_
    refine HdJ.takeK hsel hlt 12 (fun w h => h.sublist (List.Sublist.cons_cons _ (List.Sublist.cons _ (List.Sublist.refl _)))) rfl rfl (by decide) (by decide) (by kernel_rfl) (by kernel_rfl) rfl (Ev.move rfl) ?_
    refine HdJ.takeK hsel hlt 13 (fun w h => h.sublist (List.Sublist.cons_cons _ (List.Sublist.cons _ (List.Sublist.refl _)))) rfl rfl (by decide) (by decide) (by kernel_rfl) (by kernel_rfl) rfl (Ev.move rfl) ?_
    refine HdJ.step [10, 14] (by kernel_rfl) rfl ?_
    refine HdStep.cons (by decide) rfl (fun inv => ?_) ?_
    · have g40 := lat_some h26
      refine Lst.run rfl rfl (by decide) (Ev.indexS (α := BitVec 16) (xs := l12) rfl rfl Try.runUnderlying22 Try.sizeOf23 rfl (by decide) (Rd.own (i := 1) rfl rfl rfl) g40.1 g40.2.1) ?_
      refine Lst.nil ?_
      refine At.hd inv (fun w h => (h.weaken (FLe.refl _)).sublist (List.Sublist.cons_cons _ (List.Sublist.cons _ (List.Sublist.refl _)))) ?_
      refine HdJ.step [11, 14] (by kernel_rfl) rfl ?_
      refine HdStep.cons (by decide) rfl (fun inv => ?_) ?_
      · refine Lst.run rfl rfl (by decide) (Ev.loadS (α := BitVec 16) rfl (Rd.own (i := 1) rfl rfl rfl) Try.isAgg23 (v := .int .u16 x25.toNat) ((Get.elemN (s := 1) (x := x25) rfl g40.2.2 (Get.here _)).off (by omega))) ?_
        refine Lst.nil ?_
        refine At.hd inv (fun w h => (h.weaken (FLe.refl _)).sublist (List.Sublist.cons_cons _ (List.Sublist.cons _ (List.Sublist.refl _)))) ?_
        refine HdJ.step [14] (by kernel_rfl) rfl ?_
        refine HdStep.cons (by decide) rfl (fun inv => ?_) ?_
        · have g41 := lat_some h29
          refine Lst.run rfl rfl (by decide) (Ev.indexS (α := BitVec 16) (xs := l12) rfl rfl Try.runUnderlying22 Try.sizeOf23 rfl (by decide) (Rd.own (i := 1) rfl rfl rfl) g41.1 g41.2.1) ?_
          refine Lst.nil ?_
          refine At.hd inv (fun w h => (h.weaken (FLe.refl _)).sublist (List.Sublist.cons_cons _ (List.Sublist.cons _ (List.Sublist.refl _)))) ?_
          refine HdJ.step [15] (by kernel_rfl) rfl ?_
          refine HdStep.cons (by decide) rfl (fun inv => ?_) ?_
          · refine Lst.run rfl rfl (by decide) (Ev.loadS (α := BitVec 16) rfl (Rd.own (i := 1) rfl rfl rfl) Try.isAgg23 (v := .int .u16 x28.toNat) ((Get.elemN (s := 1) (x := x28) rfl g41.2.2 (Get.here _)).off (by omega))) ?_
            refine Lst.nil ?_
            refine At.hd inv (fun w h => (h.weaken (FLe.refl _)).sublist (List.Sublist.cons_cons _ (List.Sublist.cons _ (List.Sublist.refl _)))) ?_
            refine HdJ.step [16] (by kernel_rfl) rfl ?_
            refine HdStep.cons (by decide) rfl (fun inv => ?_) ?_
            · have g42 := lat_some h32
              refine Lst.run rfl rfl (by decide) (Ev.indexS (α := BitVec 16) (xs := l12) rfl rfl Try.runUnderlying22 Try.sizeOf23 rfl (by decide) (Rd.own (i := 1) rfl rfl rfl) g42.1 g42.2.1) ?_
              refine Lst.nil ?_
              refine At.hd inv (fun w h => (h.weaken (FLe.refl _)).sublist (List.Sublist.cons_cons _ (List.Sublist.cons _ (List.Sublist.refl _)))) ?_
              refine HdJ.step [17] (by kernel_rfl) rfl ?_
              refine HdStep.cons (by decide) rfl (fun inv => ?_) ?_
              · refine Lst.storeS (i := 1) rfl rfl rfl rfl rfl Try.sizeOf23 (vs := [.int .u16 x25.toNat]) rfl rfl (by decide) rfl (xs' := encs p34) (by rw [← h35]; exact (Put.elemN (s := 1) (x := x31) rfl g42.2.2 (Put.here (vs := [.int .u16 x25.toNat]) rfl)).off (by omega)) (L' := (.blk b3 (enc r16.1) 159) :: (.own s_a0 23 1 (encs p34)) :: L) rfl ?_
                refine Lst.nil ?_
                refine At.hd inv (fun w h => (h.weaken (FLe.refl _)).sublist (List.Sublist.cons_cons _ (List.Sublist.cons _ (List.Sublist.refl _)))) ?_
                refine HdJ.done (by kernel_rfl) ?_
                exact At.meetN p34 (FLe.refl _) ⟨rfl, rfl, rfl, rfl, rfl, rfl, rfl, rfl, rfl, trivial⟩ rfl h39
              exact trivial
            exact trivial
          exact trivial
        exact trivial
      refine HdStep.cons (by decide) rfl (fun inv => ?_) ?_
      · have g43 := lat_some h29
        refine Lst.run rfl rfl (by decide) (Ev.indexS (α := BitVec 16) (xs := l12) rfl rfl Try.runUnderlying22 Try.sizeOf23 rfl (by decide) (Rd.own (i := 1) rfl rfl rfl) g43.1 g43.2.1) ?_
        refine Lst.nil ?_
        refine At.hd inv (fun w h => (h.weaken (FLe.refl _)).sublist (List.Sublist.cons_cons _ (List.Sublist.cons _ (List.Sublist.refl _)))) ?_
        refine HdJ.step [11, 15] (by kernel_rfl) rfl ?_
        refine HdStep.cons (by decide) rfl (fun inv => ?_) ?_
        · refine Lst.run rfl rfl (by decide) (Ev.loadS (α := BitVec 16) rfl (Rd.own (i := 1) rfl rfl rfl) Try.isAgg23 (v := .int .u16 x25.toNat) ((Get.elemN (s := 1) (x := x25) rfl g40.2.2 (Get.here _)).off (by omega))) ?_
          refine Lst.nil ?_
          refine At.hd inv (fun w h => (h.weaken (FLe.refl _)).sublist (List.Sublist.cons_cons _ (List.Sublist.cons _ (List.Sublist.refl _)))) ?_
          refine HdJ.step [15] (by kernel_rfl) rfl ?_
          refine HdStep.cons (by decide) rfl (fun inv => ?_) ?_
          · refine Lst.run rfl rfl (by decide) (Ev.loadS (α := BitVec 16) rfl (Rd.own (i := 1) rfl rfl rfl) Try.isAgg23 (v := .int .u16 x28.toNat) ((Get.elemN (s := 1) (x := x28) rfl g43.2.2 (Get.here _)).off (by omega))) ?_
            refine Lst.nil ?_
            refine At.hd inv (fun w h => (h.weaken (FLe.refl _)).sublist (List.Sublist.cons_cons _ (List.Sublist.cons _ (List.Sublist.refl _)))) ?_
            refine HdJ.step [16] (by kernel_rfl) rfl ?_
            refine HdStep.cons (by decide) rfl (fun inv => ?_) ?_
            · have g44 := lat_some h32
              refine Lst.run rfl rfl (by decide) (Ev.indexS (α := BitVec 16) (xs := l12) rfl rfl Try.runUnderlying22 Try.sizeOf23 rfl (by decide) (Rd.own (i := 1) rfl rfl rfl) g44.1 g44.2.1) ?_
              refine Lst.nil ?_
              refine At.hd inv (fun w h => (h.weaken (FLe.refl _)).sublist (List.Sublist.cons_cons _ (List.Sublist.cons _ (List.Sublist.refl _)))) ?_
              refine HdJ.step [17] (by kernel_rfl) rfl ?_
              refine HdStep.cons (by decide) rfl (fun inv => ?_) ?_
              · refine Lst.storeS (i := 1) rfl rfl rfl rfl rfl Try.sizeOf23 (vs := [.int .u16 x25.toNat]) rfl rfl (by decide) rfl (xs' := encs p34) (by rw [← h35]; exact (Put.elemN (s := 1) (x := x31) rfl g44.2.2 (Put.here (vs := [.int .u16 x25.toNat]) rfl)).off (by omega)) (L' := (.blk b3 (enc r16.1) 159) :: (.own s_a0 23 1 (encs p34)) :: L) rfl ?_
                refine Lst.nil ?_
                refine At.hd inv (fun w h => (h.weaken (FLe.refl _)).sublist (List.Sublist.cons_cons _ (List.Sublist.cons _ (List.Sublist.refl _)))) ?_
                refine HdJ.done (by kernel_rfl) ?_
                exact At.meetN p34 (FLe.refl _) ⟨rfl, rfl, rfl, rfl, rfl, rfl, rfl, rfl, rfl, trivial⟩ rfl h39
              exact trivial
            exact trivial
          exact trivial
        refine HdStep.cons (by decide) rfl (fun inv => ?_) ?_
        · refine Lst.run rfl rfl (by decide) (Ev.loadS (α := BitVec 16) rfl (Rd.own (i := 1) rfl rfl rfl) Try.isAgg23 (v := .int .u16 x28.toNat) ((Get.elemN (s := 1) (x := x28) rfl g43.2.2 (Get.here _)).off (by omega))) ?_
          refine Lst.nil ?_
          refine At.hd inv (fun w h => (h.weaken (FLe.refl _)).sublist (List.Sublist.cons_cons _ (List.Sublist.cons _ (List.Sublist.refl _)))) ?_
          refine HdJ.step [11] (by kernel_rfl) rfl ?_
          refine HdStep.cons (by decide) rfl (fun inv => ?_) ?_
          · refine Lst.run rfl rfl (by decide) (Ev.loadS (α := BitVec 16) rfl (Rd.own (i := 1) rfl rfl rfl) Try.isAgg23 (v := .int .u16 x25.toNat) ((Get.elemN (s := 1) (x := x25) rfl g40.2.2 (Get.here _)).off (by omega))) ?_
            refine Lst.nil ?_
            refine At.hd inv (fun w h => (h.weaken (FLe.refl _)).sublist (List.Sublist.cons_cons _ (List.Sublist.cons _ (List.Sublist.refl _)))) ?_
            refine HdJ.step [16] (by kernel_rfl) rfl ?_
            refine HdStep.cons (by decide) rfl (fun inv => ?_) ?_
            · have g45 := lat_some h32
              refine Lst.run rfl rfl (by decide) (Ev.indexS (α := BitVec 16) (xs := l12) rfl rfl Try.runUnderlying22 Try.sizeOf23 rfl (by decide) (Rd.own (i := 1) rfl rfl rfl) g45.1 g45.2.1) ?_
              refine Lst.nil ?_
              refine At.hd inv (fun w h => (h.weaken (FLe.refl _)).sublist (List.Sublist.cons_cons _ (List.Sublist.cons _ (List.Sublist.refl _)))) ?_
              refine HdJ.step [17] (by kernel_rfl) rfl ?_
              refine HdStep.cons (by decide) rfl (fun inv => ?_) ?_
              · refine Lst.storeS (i := 1) rfl rfl rfl rfl rfl Try.sizeOf23 (vs := [.int .u16 x25.toNat]) rfl rfl (by decide) rfl (xs' := encs p34) (by rw [← h35]; exact (Put.elemN (s := 1) (x := x31) rfl g45.2.2 (Put.here (vs := [.int .u16 x25.toNat]) rfl)).off (by omega)) (L' := (.blk b3 (enc r16.1) 159) :: (.own s_a0 23 1 (encs p34)) :: L) rfl ?_
                refine Lst.nil ?_
                refine At.hd inv (fun w h => (h.weaken (FLe.refl _)).sublist (List.Sublist.cons_cons _ (List.Sublist.cons _ (List.Sublist.refl _)))) ?_
                refine HdJ.done (by kernel_rfl) ?_
                exact At.meetN p34 (FLe.refl _) ⟨rfl, rfl, rfl, rfl, rfl, rfl, rfl, rfl, rfl, trivial⟩ rfl h39
              exact trivial
            exact trivial
          exact trivial
        exact trivial
      exact trivial
    refine HdStep.cons (by decide) rfl (fun inv => ?_) ?_
    · have g46 := lat_some h29
      refine Lst.run rfl rfl (by decide) (Ev.indexS (α := BitVec 16) (xs := l12) rfl rfl Try.runUnderlying22 Try.sizeOf23 rfl (by decide) (Rd.own (i := 1) rfl rfl rfl) g46.1 g46.2.1) ?_
      refine Lst.nil ?_
      refine At.hd inv (fun w h => (h.weaken (FLe.refl _)).sublist (List.Sublist.cons_cons _ (List.Sublist.cons _ (List.Sublist.refl _)))) ?_
      refine HdJ.step [10, 15] (by kernel_rfl) rfl ?_
      refine HdStep.cons (by decide) rfl (fun inv => ?_) ?_
      · have g47 := lat_some h26
        refine Lst.run rfl rfl (by decide) (Ev.indexS (α := BitVec 16) (xs := l12) rfl rfl Try.runUnderlying22 Try.sizeOf23 rfl (by decide) (Rd.own (i := 1) rfl rfl rfl) g47.1 g47.2.1) ?_
        refine Lst.nil ?_
        refine At.hd inv (fun w h => (h.weaken (FLe.refl _)).sublist (List.Sublist.cons_cons _ (List.Sublist.cons _ (List.Sublist.refl _)))) ?_
        refine HdJ.step [11, 15] (by kernel_rfl) rfl ?_
        refine HdStep.cons (by decide) rfl (fun inv => ?_) ?_
        · refine Lst.run rfl rfl (by decide) (Ev.loadS (α := BitVec 16) rfl (Rd.own (i := 1) rfl rfl rfl) Try.isAgg23 (v := .int .u16 x25.toNat) ((Get.elemN (s := 1) (x := x25) rfl g47.2.2 (Get.here _)).off (by omega))) ?_
          refine Lst.nil ?_
          refine At.hd inv (fun w h => (h.weaken (FLe.refl _)).sublist (List.Sublist.cons_cons _ (List.Sublist.cons _ (List.Sublist.refl _)))) ?_
          refine HdJ.step [15] (by kernel_rfl) rfl ?_
          refine HdStep.cons (by decide) rfl (fun inv => ?_) ?_
          · refine Lst.run rfl rfl (by decide) (Ev.loadS (α := BitVec 16) rfl (Rd.own (i := 1) rfl rfl rfl) Try.isAgg23 (v := .int .u16 x28.toNat) ((Get.elemN (s := 1) (x := x28) rfl g46.2.2 (Get.here _)).off (by omega))) ?_
            refine Lst.nil ?_
            refine At.hd inv (fun w h => (h.weaken (FLe.refl _)).sublist (List.Sublist.cons_cons _ (List.Sublist.cons _ (List.Sublist.refl _)))) ?_
            refine HdJ.step [16] (by kernel_rfl) rfl ?_
            refine HdStep.cons (by decide) rfl (fun inv => ?_) ?_
            · have g48 := lat_some h32
              refine Lst.run rfl rfl (by decide) (Ev.indexS (α := BitVec 16) (xs := l12) rfl rfl Try.runUnderlying22 Try.sizeOf23 rfl (by decide) (Rd.own (i := 1) rfl rfl rfl) g48.1 g48.2.1) ?_
              refine Lst.nil ?_
              refine At.hd inv (fun w h => (h.weaken (FLe.refl _)).sublist (List.Sublist.cons_cons _ (List.Sublist.cons _ (List.Sublist.refl _)))) ?_
              refine HdJ.step [17] (by kernel_rfl) rfl ?_
              refine HdStep.cons (by decide) rfl (fun inv => ?_) ?_
              · refine Lst.storeS (i := 1) rfl rfl rfl rfl rfl Try.sizeOf23 (vs := [.int .u16 x25.toNat]) rfl rfl (by decide) rfl (xs' := encs p34) (by rw [← h35]; exact (Put.elemN (s := 1) (x := x31) rfl g48.2.2 (Put.here (vs := [.int .u16 x25.toNat]) rfl)).off (by omega)) (L' := (.blk b3 (enc r16.1) 159) :: (.own s_a0 23 1 (encs p34)) :: L) rfl ?_
                refine Lst.nil ?_
                refine At.hd inv (fun w h => (h.weaken (FLe.refl _)).sublist (List.Sublist.cons_cons _ (List.Sublist.cons _ (List.Sublist.refl _)))) ?_
                refine HdJ.done (by kernel_rfl) ?_
                exact At.meetN p34 (FLe.refl _) ⟨rfl, rfl, rfl, rfl, rfl, rfl, rfl, rfl, rfl, trivial⟩ rfl h39
              exact trivial
            exact trivial
          exact trivial
        refine HdStep.cons (by decide) rfl (fun inv => ?_) ?_
        · refine Lst.run rfl rfl (by decide) (Ev.loadS (α := BitVec 16) rfl (Rd.own (i := 1) rfl rfl rfl) Try.isAgg23 (v := .int .u16 x28.toNat) ((Get.elemN (s := 1) (x := x28) rfl g46.2.2 (Get.here _)).off (by omega))) ?_
          refine Lst.nil ?_
          refine At.hd inv (fun w h => (h.weaken (FLe.refl _)).sublist (List.Sublist.cons_cons _ (List.Sublist.cons _ (List.Sublist.refl _)))) ?_
          refine HdJ.step [11] (by kernel_rfl) rfl ?_
          refine HdStep.cons (by decide) rfl (fun inv => ?_) ?_
          · refine Lst.run rfl rfl (by decide) (Ev.loadS (α := BitVec 16) rfl (Rd.own (i := 1) rfl rfl rfl) Try.isAgg23 (v := .int .u16 x25.toNat) ((Get.elemN (s := 1) (x := x25) rfl g47.2.2 (Get.here _)).off (by omega))) ?_
            refine Lst.nil ?_
            refine At.hd inv (fun w h => (h.weaken (FLe.refl _)).sublist (List.Sublist.cons_cons _ (List.Sublist.cons _ (List.Sublist.refl _)))) ?_
            refine HdJ.step [16] (by kernel_rfl) rfl ?_
            refine HdStep.cons (by decide) rfl (fun inv => ?_) ?_
            · have g49 := lat_some h32
              refine Lst.run rfl rfl (by decide) (Ev.indexS (α := BitVec 16) (xs := l12) rfl rfl Try.runUnderlying22 Try.sizeOf23 rfl (by decide) (Rd.own (i := 1) rfl rfl rfl) g49.1 g49.2.1) ?_
              refine Lst.nil ?_
              refine At.hd inv (fun w h => (h.weaken (FLe.refl _)).sublist (List.Sublist.cons_cons _ (List.Sublist.cons _ (List.Sublist.refl _)))) ?_
              refine HdJ.step [17] (by kernel_rfl) rfl ?_
              refine HdStep.cons (by decide) rfl (fun inv => ?_) ?_
              · refine Lst.storeS (i := 1) rfl rfl rfl rfl rfl Try.sizeOf23 (vs := [.int .u16 x25.toNat]) rfl rfl (by decide) rfl (xs' := encs p34) (by rw [← h35]; exact (Put.elemN (s := 1) (x := x31) rfl g49.2.2 (Put.here (vs := [.int .u16 x25.toNat]) rfl)).off (by omega)) (L' := (.blk b3 (enc r16.1) 159) :: (.own s_a0 23 1 (encs p34)) :: L) rfl ?_
                refine Lst.nil ?_
                refine At.hd inv (fun w h => (h.weaken (FLe.refl _)).sublist (List.Sublist.cons_cons _ (List.Sublist.cons _ (List.Sublist.refl _)))) ?_
                refine HdJ.done (by kernel_rfl) ?_
                exact At.meetN p34 (FLe.refl _) ⟨rfl, rfl, rfl, rfl, rfl, rfl, rfl, rfl, rfl, trivial⟩ rfl h39
              exact trivial
            exact trivial
          exact trivial
        exact trivial
      refine HdStep.cons (by decide) rfl (fun inv => ?_) ?_
      · refine Lst.run rfl rfl (by decide) (Ev.loadS (α := BitVec 16) rfl (Rd.own (i := 1) rfl rfl rfl) Try.isAgg23 (v := .int .u16 x28.toNat) ((Get.elemN (s := 1) (x := x28) rfl g46.2.2 (Get.here _)).off (by omega))) ?_
        refine Lst.nil ?_
        refine At.hd inv (fun w h => (h.weaken (FLe.refl _)).sublist (List.Sublist.cons_cons _ (List.Sublist.cons _ (List.Sublist.refl _)))) ?_
        refine HdJ.step [10] (by kernel_rfl) rfl ?_
        refine HdStep.cons (by decide) rfl (fun inv => ?_) ?_
        · have g50 := lat_some h26
          refine Lst.run rfl rfl (by decide) (Ev.indexS (α := BitVec 16) (xs := l12) rfl rfl Try.runUnderlying22 Try.sizeOf23 rfl (by decide) (Rd.own (i := 1) rfl rfl rfl) g50.1 g50.2.1) ?_
          refine Lst.nil ?_
          refine At.hd inv (fun w h => (h.weaken (FLe.refl _)).sublist (List.Sublist.cons_cons _ (List.Sublist.cons _ (List.Sublist.refl _)))) ?_
          refine HdJ.step [11] (by kernel_rfl) rfl ?_
          refine HdStep.cons (by decide) rfl (fun inv => ?_) ?_
          · refine Lst.run rfl rfl (by decide) (Ev.loadS (α := BitVec 16) rfl (Rd.own (i := 1) rfl rfl rfl) Try.isAgg23 (v := .int .u16 x25.toNat) ((Get.elemN (s := 1) (x := x25) rfl g50.2.2 (Get.here _)).off (by omega))) ?_
            refine Lst.nil ?_
            refine At.hd inv (fun w h => (h.weaken (FLe.refl _)).sublist (List.Sublist.cons_cons _ (List.Sublist.cons _ (List.Sublist.refl _)))) ?_
            refine HdJ.step [16] (by kernel_rfl) rfl ?_
            refine HdStep.cons (by decide) rfl (fun inv => ?_) ?_
            · have g51 := lat_some h32
              refine Lst.run rfl rfl (by decide) (Ev.indexS (α := BitVec 16) (xs := l12) rfl rfl Try.runUnderlying22 Try.sizeOf23 rfl (by decide) (Rd.own (i := 1) rfl rfl rfl) g51.1 g51.2.1) ?_
              refine Lst.nil ?_
              refine At.hd inv (fun w h => (h.weaken (FLe.refl _)).sublist (List.Sublist.cons_cons _ (List.Sublist.cons _ (List.Sublist.refl _)))) ?_
              refine HdJ.step [17] (by kernel_rfl) rfl ?_
              refine HdStep.cons (by decide) rfl (fun inv => ?_) ?_
              · refine Lst.storeS (i := 1) rfl rfl rfl rfl rfl Try.sizeOf23 (vs := [.int .u16 x25.toNat]) rfl rfl (by decide) rfl (xs' := encs p34) (by rw [← h35]; exact (Put.elemN (s := 1) (x := x31) rfl g51.2.2 (Put.here (vs := [.int .u16 x25.toNat]) rfl)).off (by omega)) (L' := (.blk b3 (enc r16.1) 159) :: (.own s_a0 23 1 (encs p34)) :: L) rfl ?_
                refine Lst.nil ?_
                refine At.hd inv (fun w h => (h.weaken (FLe.refl _)).sublist (List.Sublist.cons_cons _ (List.Sublist.cons _ (List.Sublist.refl _)))) ?_
                refine HdJ.done (by kernel_rfl) ?_
                exact At.meetN p34 (FLe.refl _) ⟨rfl, rfl, rfl, rfl, rfl, rfl, rfl, rfl, rfl, trivial⟩ rfl h39
              exact trivial
            exact trivial
          exact trivial
        exact trivial
      exact trivial
    exact trivial
  rintro F52 l37 hF53 hy
  subst hy
  refine Lst.as (e' := [(0, Sl.v s_a0), (1, .int .i64 a1), (8, .int .i64 (w64 (a2 - a1))), (9, .pointer (some ⟨b3, 0, none⟩)), (10, .int .u64 r5.toNat), (11, .int .i64 y10), (51, Sl.v s_a0), (54, .int .i64 (w64 (a1 + y20))), (64, .int .u16 x28.toNat)]) (L' := (.blk b3 (enc r16.1) 159) :: (.own s_a0 23 1 (encs l37)) :: L) ⟨rfl, rfl, rfl, rfl, rfl, rfl, rfl, rfl, rfl, trivial⟩ rfl ?_
  obtain ⟨x54, h55, H⟩ := bind_some H
  have g56 := lat_some h55
  refine Lst.run rfl rfl (by decide) (Ev.indexS (α := BitVec 16) (xs := l37) rfl rfl Try.runUnderlying22 Try.sizeOf23 rfl (by decide) (Rd.own (i := 1) rfl rfl rfl) g56.1 g56.2.1) ?_
  obtain ⟨p57, h58, H⟩ := Let_some H
  refine Lst.storeS (i := 1) rfl rfl rfl rfl rfl Try.sizeOf23 (vs := [.int .u16 x28.toNat]) rfl rfl (by decide) rfl (xs' := encs p57) (by rw [← h58]; exact (Put.elemN (s := 1) (x := x54) rfl g56.2.2 (Put.here (vs := [.int .u16 x28.toNat]) rfl)).off (by omega)) (L' := (.blk b3 (enc r16.1) 159) :: (.own s_a0 23 1 (encs p57)) :: L) rfl ?_
  refine Lst.nil ?_
  refine At.in_normal ?_
  refine At.then ?_
  refine Cd.region ?_
  refine Lst.run rfl rfl (by decide) (Ev.move rfl) ?_
  refine Lst.run rfl rfl (by decide) (Ev.add rfl rfl) ?_
  refine Lst.run rfl rfl (by decide) (Ev.assign rfl) ?_
  refine Lst.nil ?_
  exact At.meet (k9, w64 (y10 + (1 : Int)), r16.1, p57) (FLe.trans (FLe.trans (FLe.trans hF14 hF19) hF24) hF53) ⟨rfl, rfl, rfl, rfl, rfl, rfl, trivial⟩ rfl ⟨hgo9 _ (some_inj H).symm, Nat.lt_succ_self _⟩
set_option maxRecDepth 20000 in
theorem slices_order2CmpFunc_uint16_quorum_compare_sim {a0 : List (BitVec 16)} {a1 : Int} {a2 : Int} {a3 : Int} {s_a0 : Sl} {b_a3 : Nat} {r : Int × Int × Int} (H : slices_order2CmpFunc_uint16_quorum_compare a0 a1 a2 a3 = some r) (w0 : World) (F : Frz) (M L : List Item) (hM : M.Sublist L) (hs_a0 : Rd w0 F M s_a0 a0) : Ok Try.prog w0 156 [Sl.v s_a0, .int .i64 a1, .int .i64 a2, .pointer (some ⟨b_a3, 0, none⟩), .func (.func 53) #[] #[]] F ((.blk b_a3 (enc a3) 3) :: L) (fun _ L' v => v = .tuple #[.int .i64 r.2.1, .int .i64 r.2.2] ∧ L' = (.blk b_a3 (enc r.1) 3) :: L) := by
  unfold slices_order2CmpFunc_uint16_quorum_compare at H
  refine Ok.enter (m := 5) (n := 32) Try.func156 rfl rfl rfl (by decide) ?_
  refine Cd.env (e' := [(0, Sl.v s_a0), (1, .int .i64 a1), (2, .int .i64 a2), (3, .pointer (some ⟨b_a3, 0, none⟩)), (4, .func (.func 53) #[] #[])]) rfl ?_
  refine Cd.seq ?_
  refine Cd.region ?_
  refine Lst.run rfl rfl (by decide) (Ev.assign rfl) ?_
  refine Lst.run rfl rfl (by decide) (Ev.assign rfl) ?_
  refine Lst.nil ?_
  refine At.then ?_
  refine Cd.seq ?_
  refine Cd.seq ?_
  refine Cd.quiet (by kernel_rfl) (by kernel_rfl) ?_
  refine Qt.run rfl rfl (by decide) (Ev.move rfl) ?_
  refine Qt.run rfl rfl (by decide) (Ev.move rfl) ?_
  refine Qt.run rfl rfl (by decide) (Ev.move rfl) ?_
  obtain ⟨x2, h3, H⟩ := bind_some H
  have g4 := lat_some h3
  refine Qt.run rfl rfl (by decide) (Ev.indexS (α := BitVec 16) (xs := a0) rfl rfl Try.runUnderlying22 Try.sizeOf23 rfl (by decide) (hs_a0.mono (FLe.refl _) (List.Sublist.cons _ hM)) g4.1 g4.2.1) ?_
  refine Qt.run rfl rfl (by decide) (Ev.loadS (α := BitVec 16) rfl (hs_a0.mono (FLe.refl _) (List.Sublist.cons _ hM)) Try.isAgg23 (v := .int .u16 x2.toNat) ((Get.elemN (s := 1) (x := x2) rfl g4.2.2 (Get.here _)).off (by omega))) ?_
  refine Qt.run rfl rfl (by decide) (Ev.move rfl) ?_
  refine Qt.run rfl rfl (by decide) (Ev.move rfl) ?_
  obtain ⟨x5, h6, H⟩ := bind_some H
  have g7 := lat_some h6
  refine Qt.run rfl rfl (by decide) (Ev.indexS (α := BitVec 16) (xs := a0) rfl rfl Try.runUnderlying22 Try.sizeOf23 rfl (by decide) (hs_a0.mono (FLe.refl _) (List.Sublist.cons _ hM)) g7.1 g7.2.1) ?_
  refine Qt.run rfl rfl (by decide) (Ev.loadS (α := BitVec 16) rfl (hs_a0.mono (FLe.refl _) (List.Sublist.cons _ hM)) Try.isAgg23 (v := .int .u16 x5.toNat) ((Get.elemN (s := 1) (x := x5) rfl g7.2.2 (Get.here _)).off (by omega))) ?_
  obtain ⟨r8, h9, H⟩ := bind_some H
  refine Qt.callV rfl rfl (by decide) (vs := [.int .u16 x2.toNat, .int .u16 x5.toNat]) (cs := []) rfl ⟨rfl, rfl, trivial⟩ Try.call53 (quorum_compare_sim h9 w0 _ M _ (List.Sublist.cons _ hM)) ?_
  refine Qt.run rfl rfl (by decide) (Ev.lss rfl rfl) ?_
  refine Qt.done ?_
  refine At.then ?_
  rcases Bool.eq_false_or_eq_true (decide (r8 < (0 : Int))) with hb12 | hb12
  · replace H := ite_t hb12 H
    refine Cd.condT rfl hb12 ?_
    refine Cd.seq ?_
    refine Cd.as (e' := [(1, .int .i64 a1), (2, .int .i64 a2), (3, .pointer (some ⟨b_a3, 0, none⟩))]) (L' := (.blk b_a3 (enc a3) 3) :: L) ⟨rfl, rfl, rfl, trivial⟩ rfl ?_
    refine Cd.region ?_
    refine Lst.run rfl rfl (by decide) (Ev.move rfl) ?_
    refine Lst.run rfl rfl (by decide) (Ev.nilCheck rfl) ?_
    refine Lst.run rfl rfl (by decide) (Ev.load (i := 0) rfl rfl Try.isAgg3 (v := .int .i64 a3) (Get.here _)) ?_
    refine Lst.run rfl rfl (by decide) (Ev.add rfl rfl) ?_
    refine Lst.run rfl rfl (by decide) (Ev.nilCheck rfl) ?_
    refine Lst.store (i := 0) rfl rfl rfl rfl rfl Try.sizeOf3 (vs := [.int .i64 (w64 (a3 + (1 : Int)))]) rfl rfl rfl (cs' := enc (w64 (a3 + (1 : Int)))) (Put.here (vs := [.int .i64 (w64 (a3 + (1 : Int)))]) rfl) (L' := (.blk b_a3 (enc (w64 (a3 + (1 : Int)))) 3) :: L) rfl ?_
    refine Lst.nil ?_
    refine At.then ?_
    refine Cd.seq ?_
    refine Cd.region ?_
    refine Lst.run rfl rfl (by decide) (Ev.move rfl) ?_
    refine Lst.run rfl rfl (by decide) (Ev.move rfl) ?_
    refine Lst.run rfl rfl (by decide) (Ev.assign rfl) ?_
    refine Lst.run rfl rfl (by decide) (Ev.assign rfl) ?_
    refine Lst.nil ?_
    refine At.then ?_
    obtain rfl := some_inj H
    refine Cd.ret ?_
    refine At.then_ret ?_
    exact At.ret2 rfl (Res.tmp rfl) (Res.tmp rfl) (FLe.refl _) (List.Sublist.cons_cons _ (List.Sublist.refl _)) ⟨rfl, rfl⟩
  replace H := ite_f hb12 H
  refine Cd.condF rfl hb12 ?_
  refine Cd.skip ?_
  refine At.then ?_
  refine Cd.seq ?_
  refine Cd.as (e' := [(1, .int .i64 a1), (2, .int .i64 a2)]) (L' := (.blk b_a3 (enc a3) 3) :: L) ⟨rfl, rfl, trivial⟩ rfl ?_
  refine Cd.region ?_
  refine Lst.run rfl rfl (by decide) (Ev.move rfl) ?_
  refine Lst.run rfl rfl (by decide) (Ev.move rfl) ?_
  refine Lst.run rfl rfl (by decide) (Ev.assign rfl) ?_
  refine Lst.run rfl rfl (by decide) (Ev.assign rfl) ?_
  refine Lst.nil ?_
  refine At.then ?_
  obtain rfl := some_inj H
  refine Cd.ret ?_
  exact At.ret2 rfl (Res.tmp rfl) (Res.tmp rfl) (FLe.refl _) (List.Sublist.cons_cons _ (List.Sublist.refl _)) ⟨rfl, rfl⟩
set_option maxRecDepth 20000 in
theorem slices_medianCmpFunc_uint16_quorum_compare_sim {a0 : List (BitVec 16)} {a1 : Int} {a2 : Int} {a3 : Int} {a4 : Int} {s_a0 : Sl} {b_a4 : Nat} {r : Int × Int} (H : slices_medianCmpFunc_uint16_quorum_compare a0 a1 a2 a3 a4 = some r) (w0 : World) (F : Frz) (M L : List Item) (hM : M.Sublist L) (hs_a0 : Rd w0 F M s_a0 a0) : Ok Try.prog w0 153 [Sl.v s_a0, .int .i64 a1, .int .i64 a2, .int .i64 a3, .pointer (some ⟨b_a4, 0, none⟩), .func (.func 53) #[] #[]] F ((.blk b_a4 (enc a4) 3) :: L) (fun _ L' v => v = .int .i64 r.2 ∧ L' = (.blk b_a4 (enc r.1) 3) :: L) := by
  unfold slices_medianCmpFunc_uint16_quorum_compare at H
  refine Ok.enter (m := 6) (n := 41) Try.func153 rfl rfl rfl (by decide) ?_
  refine Cd.env (e' := [(0, Sl.v s_a0), (1, .int .i64 a1), (2, .int .i64 a2), (3, .int .i64 a3), (4, .pointer (some ⟨b_a4, 0, none⟩)), (5, .func (.func 53) #[] #[])]) rfl ?_
  refine Cd.seq ?_
  refine Cd.region ?_
  refine Lst.run rfl rfl (by decide) (Ev.assign rfl) ?_
  refine Lst.nil ?_
  refine At.then ?_
  refine Cd.seq ?_
  refine Cd.region ?_
  refine Lst.run rfl rfl (by decide) (Ev.move rfl) ?_
  refine Lst.run rfl rfl (by decide) (Ev.move rfl) ?_
  refine Lst.run rfl rfl (by decide) (Ev.move rfl) ?_
  refine Lst.run rfl rfl (by decide) (Ev.move rfl) ?_
  refine Lst.run rfl rfl (by decide) (Ev.move rfl) ?_
  obtain ⟨r2, h3, H⟩ := bind_some H
  refine Lst.call rfl rfl (by decide) (vs := [Sl.v s_a0, .int .i64 a1, .int .i64 a2, .pointer (some ⟨b_a4, 0, none⟩), .func (.func 53) #[] #[]]) ⟨rfl, rfl, rfl, rfl, rfl, trivial⟩ Try.call156 (slices_order2CmpFunc_uint16_quorum_compare_sim h3 w0 _ M _ hM (hs_a0.mono (FLe.refl _) (List.Sublist.refl _))) (fun F4 L' v hF5 hv => ?_)
  obtain ⟨rfl, rfl⟩ := hv
  refine Lst.run rfl rfl (by decide) (Ev.move rfl) ?_
  refine Lst.run rfl rfl (by decide) (Ev.extract rfl rfl) ?_
  refine Lst.run rfl rfl (by decide) (Ev.extract rfl rfl) ?_
  refine Lst.run rfl rfl (by decide) (Ev.assign rfl) ?_
  refine Lst.run rfl rfl (by decide) (Ev.assign rfl) ?_
  refine Lst.nil ?_
  refine At.then ?_
  refine Cd.seq ?_
  refine Cd.region ?_
  refine Lst.run rfl rfl (by decide) (Ev.move rfl) ?_
  refine Lst.run rfl rfl (by decide) (Ev.move rfl) ?_
  refine Lst.run rfl rfl (by decide) (Ev.move rfl) ?_
  refine Lst.run rfl rfl (by decide) (Ev.move rfl) ?_
  refine Lst.run rfl rfl (by decide) (Ev.move rfl) ?_
  obtain ⟨r6, h7, H⟩ := bind_some H
  refine Lst.call rfl rfl (by decide) (vs := [Sl.v s_a0, .int .i64 r2.2.2, .int .i64 a3, .pointer (some ⟨b_a4, 0, none⟩), .func (.func 53) #[] #[]]) ⟨rfl, rfl, rfl, rfl, rfl, trivial⟩ Try.call156 (slices_order2CmpFunc_uint16_quorum_compare_sim h7 w0 _ M _ hM (hs_a0.mono hF5 (List.Sublist.refl _))) (fun F8 L' v hF9 hv => ?_)
  obtain ⟨rfl, rfl⟩ := hv
  refine Lst.run rfl rfl (by decide) (Ev.move rfl) ?_
  refine Lst.run rfl rfl (by decide) (Ev.extract rfl rfl) ?_
  refine Lst.run rfl rfl (by decide) (Ev.extract rfl rfl) ?_
  refine Lst.run rfl rfl (by decide) (Ev.assign rfl) ?_
  refine Lst.run rfl rfl (by decide) (Ev.assign rfl) ?_
  refine Lst.nil ?_
  refine At.then ?_
  refine Cd.seq ?_
  refine Cd.as (e' := [(0, Sl.v s_a0), (1, .int .i64 r2.2.1), (2, .int .i64 r6.2.1), (4, .pointer (some ⟨b_a4, 0, none⟩)), (5, .func (.func 53) #[] #[])]) (L' := (.blk b_a4 (enc r6.1) 3) :: L) ⟨rfl, rfl, rfl, rfl, rfl, trivial⟩ rfl ?_
  refine Cd.region ?_
  refine Lst.run rfl rfl (by decide) (Ev.move rfl) ?_
  refine Lst.run rfl rfl (by decide) (Ev.move rfl) ?_
  refine Lst.run rfl rfl (by decide) (Ev.move rfl) ?_
  refine Lst.run rfl rfl (by decide) (Ev.move rfl) ?_
  refine Lst.run rfl rfl (by decide) (Ev.move rfl) ?_
  obtain ⟨r10, h11, H⟩ := bind_some H
  refine Lst.call rfl rfl (by decide) (vs := [Sl.v s_a0, .int .i64 r2.2.1, .int .i64 r6.2.1, .pointer (some ⟨b_a4, 0, none⟩), .func (.func 53) #[] #[]]) ⟨rfl, rfl, rfl, rfl, rfl, trivial⟩ Try.call156 (slices_order2CmpFunc_uint16_quorum_compare_sim h11 w0 _ M _ hM (hs_a0.mono (FLe.trans hF5 hF9) (List.Sublist.refl _))) (fun F12 L' v hF13 hv => ?_)
  obtain ⟨rfl, rfl⟩ := hv
  refine Lst.run rfl rfl (by decide) (Ev.move rfl) ?_
  refine Lst.run rfl rfl (by decide) (Ev.extract rfl rfl) ?_
  refine Lst.run rfl rfl (by decide) (Ev.extract rfl rfl) ?_
  refine Lst.run rfl rfl (by decide) (Ev.assign rfl) ?_
  refine Lst.run rfl rfl (by decide) (Ev.assign rfl) ?_
  refine Lst.nil ?_
  refine At.then ?_
  refine Cd.seq ?_
  refine Cd.as (e' := [(2, .int .i64 r10.2.2)]) (L' := (.blk b_a4 (enc r10.1) 3) :: L) ⟨rfl, trivial⟩ rfl ?_
  refine Cd.region ?_
  refine Lst.run rfl rfl (by decide) (Ev.move rfl) ?_
  refine Lst.run rfl rfl (by decide) (Ev.assign rfl) ?_
  refine Lst.nil ?_
  refine At.then ?_
  obtain rfl := some_inj H
  refine Cd.ret ?_
  exact At.ret1 rfl (Res.tmp rfl) (FLe.trans (FLe.trans hF5 hF9) hF13) (List.Sublist.cons_cons _ (List.Sublist.refl _)) ⟨rfl, rfl⟩
set_option maxRecDepth 20000 in
theorem slices_medianAdjacentCmpFunc_uint16_quorum_compare_sim {a0 : List (BitVec 16)} {a1 : Int} {a2 : Int} {s_a0 : Sl} {b_a2 : Nat} {r : Int × Int} (H : slices_medianAdjacentCmpFunc_uint16_quorum_compare a0 a1 a2 = some r) (w0 : World) (F : Frz) (M L : List Item) (hM : M.Sublist L) (hs_a0 : Rd w0 F M s_a0 a0) : Ok Try.prog w0 152 [Sl.v s_a0, .int .i64 a1, .pointer (some ⟨b_a2, 0, none⟩), .func (.func 53) #[] #[]] F ((.blk b_a2 (enc a2) 3) :: L) (fun _ L' v => v = .int .i64 r.2 ∧ L' = (.blk b_a2 (enc r.1) 3) :: L) := by
  unfold slices_medianAdjacentCmpFunc_uint16_quorum_compare at H
  refine Ok.enter (m := 4) (n := 18) Try.func152 rfl rfl rfl (by decide) ?_
  refine Cd.env (e' := [(0, Sl.v s_a0), (1, .int .i64 a1), (2, .pointer (some ⟨b_a2, 0, none⟩)), (3, .func (.func 53) #[] #[])]) rfl ?_
  refine Cd.seq ?_
  refine Cd.region ?_
  refine Lst.run rfl rfl (by decide) (Ev.assign rfl) ?_
  refine Lst.nil ?_
  refine At.then ?_
  refine Cd.seq ?_
  refine Cd.region ?_
  refine Lst.run rfl rfl (by decide) (Ev.move rfl) ?_
  refine Lst.run rfl rfl (by decide) (Ev.move rfl) ?_
  refine Lst.run rfl rfl (by decide) (Ev.sub rfl rfl) ?_
  refine Lst.run rfl rfl (by decide) (Ev.move rfl) ?_
  refine Lst.run rfl rfl (by decide) (Ev.move rfl) ?_
  refine Lst.run rfl rfl (by decide) (Ev.add rfl rfl) ?_
  refine Lst.run rfl rfl (by decide) (Ev.move rfl) ?_
  refine Lst.run rfl rfl (by decide) (Ev.move rfl) ?_
  obtain ⟨r2, h3, H⟩ := bind_some H
  refine Lst.call rfl rfl (by decide) (vs := [Sl.v s_a0, .int .i64 (w64 (a1 - (1 : Int))), .int .i64 a1, .int .i64 (w64 (a1 + (1 : Int))), .pointer (some ⟨b_a2, 0, none⟩), .func (.func 53) #[] #[]]) ⟨rfl, rfl, rfl, rfl, rfl, rfl, trivial⟩ Try.call153 (slices_medianCmpFunc_uint16_quorum_compare_sim h3 w0 _ M _ hM (hs_a0.mono (FLe.refl _) (List.Sublist.refl _))) (fun F4 L' v hF5 hv => ?_)
  obtain ⟨rfl, rfl⟩ := hv
  refine Lst.run rfl rfl (by decide) (Ev.assign rfl) ?_
  refine Lst.nil ?_
  refine At.then ?_
  obtain rfl := some_inj H
  refine Cd.ret ?_
  exact At.ret1 rfl (Res.tmp rfl) hF5 (List.Sublist.cons_cons _ (List.Sublist.refl _)) ⟨rfl, rfl⟩
set_option maxRecDepth 20000 in
theorem slices_choosePivotCmpFunc_uint16_quorum_compare_sim {a0 : List (BitVec 16)} {a1 : Int} {a2 : Int} {s_a0 : Sl} {r : Int × Int} (H : slices_choosePivotCmpFunc_uint16_quorum_compare a0 a1 a2 = some r) (w0 : World) (F : Frz) (M L : List Item) (hM : M.Sublist L) (hs_a0 : Rd w0 F M s_a0 a0) : Ok Try.prog w0 137 [Sl.v s_a0, .int .i64 a1, .int .i64 a2, .func (.func 53) #[] #[]] F (L) (Is (.tuple #[.int .i64 r.1, .int .i64 r.2]) (L)) := by
  unfold slices_choosePivotCmpFunc_uint16_quorum_compare at H
  refine Ok.enter (m := 4) (n := 63) Try.func137 rfl rfl rfl (by decide) ?_
  refine Cd.env (e' := [(0, Sl.v s_a0), (1, .int .i64 a1), (2, .int .i64 a2), (3, .func (.func 53) #[] #[])]) rfl ?_
  refine Cd.seq ?_
  refine Cd.region ?_
  refine Lst.run rfl rfl (by decide) (Ev.assign rfl) ?_
  refine Lst.run rfl rfl (by decide) (Ev.assign rfl) ?_
  refine Lst.nil ?_
  refine At.then ?_
  refine Cd.seq ?_
  refine Cd.region ?_
  refine Lst.run rfl rfl (by decide) (Ev.move rfl) ?_
  refine Lst.run rfl rfl (by decide) (Ev.move rfl) ?_
  refine Lst.run rfl rfl (by decide) (Ev.sub rfl rfl) ?_
  refine Lst.run rfl rfl (by decide) (Ev.assign rfl) ?_
  refine Lst.nil ?_
  refine At.then ?_
  refine Cd.seq ?_
  refine Cd.region ?_
  refine Lst.alloc (cs := enc (0 : Int)) rfl rfl (by decide) Try.zeroValue3 rfl (fun b1 => ?_)
  refine Lst.nil ?_
  refine At.then ?_
  refine Cd.seq ?_
  refine Cd.region ?_
  refine Lst.run rfl rfl (by decide) (Ev.move rfl) ?_
  refine Lst.run rfl rfl (by decide) (Ev.move rfl) ?_
  refine Lst.run rfl rfl (by decide) (Ev.quo (i := w64 (a2 - a1)) (j := (4 : Int)) rfl rfl (by decide)) ?_
  refine Lst.run rfl rfl (by decide) (Ev.mul rfl rfl) ?_
  refine Lst.run rfl rfl (by decide) (Ev.add rfl rfl) ?_
  refine Lst.run rfl rfl (by decide) (Ev.assign rfl) ?_
  refine Lst.nil ?_
  refine At.then ?_
  refine Cd.seq ?_
  refine Cd.region ?_
  refine Lst.run rfl rfl (by decide) (Ev.move rfl) ?_
  refine Lst.run rfl rfl (by decide) (Ev.move rfl) ?_
  refine Lst.run rfl rfl (by decide) (Ev.quo (i := w64 (a2 - a1)) (j := (4 : Int)) rfl rfl (by decide)) ?_
  refine Lst.run rfl rfl (by decide) (Ev.mul rfl rfl) ?_
  refine Lst.run rfl rfl (by decide) (Ev.add rfl rfl) ?_
  refine Lst.run rfl rfl (by decide) (Ev.assign rfl) ?_
  refine Lst.nil ?_
  refine At.then ?_
  refine Cd.seq ?_
  refine Cd.as (e' := [(0, Sl.v s_a0), (1, .int .i64 a1), (3, .func (.func 53) #[] #[]), (10, .int .i64 (w64 (a2 - a1))), (11, .pointer (some ⟨b1, 0, none⟩)), (12, .int .i64 (w64 (a1 + (w64 ((w64 ((w64 (a2 - a1)).tdiv (4 : Int))) * (1 : Int)))))), (13, .int .i64 (w64 (a1 + (w64 ((w64 ((w64 (a2 - a1)).tdiv (4 : Int))) * (2 : Int))))))]) (L' := (.blk b1 (enc (0 : Int)) 3) :: L) ⟨rfl, rfl, rfl, rfl, rfl, rfl, rfl, trivial⟩ rfl ?_
  refine Cd.region ?_
  refine Lst.run rfl rfl (by decide) (Ev.move rfl) ?_
  refine Lst.run rfl rfl (by decide) (Ev.move rfl) ?_
  refine Lst.run rfl rfl (by decide) (Ev.quo (i := w64 (a2 - a1)) (j := (4 : Int)) rfl rfl (by decide)) ?_
  refine Lst.run rfl rfl (by decide) (Ev.mul rfl rfl) ?_
  refine Lst.run rfl rfl (by decide) (Ev.add rfl rfl) ?_
  refine Lst.run rfl rfl (by decide) (Ev.assign rfl) ?_
  refine Lst.nil ?_
  refine At.then ?_
  obtain ⟨o5, H, HKo5⟩ := bind_some H
  refine Cd.join (σ := Int × Int) (fun (y3, y4) => [(11, .pointer (some ⟨b1, 0, none⟩)), (13, .int .i64 y3)]) (fun (y3, y4) => (.blk b1 (enc y4) 3) :: L) (fun _ (y3, y4) => (y3, y4) = o5) ?_ ?_
  · refine Cd.seq ?_
    refine Cd.region ?_
    refine Lst.run rfl rfl (by decide) (Ev.move rfl) ?_
    refine Lst.run rfl rfl (by decide) (Ev.geq rfl rfl) ?_
    refine Lst.nil ?_
    refine At.then ?_
    rcases (Bool.eq_false_or_eq_true (decide ((w64 (a2 - a1)) ≥ (8 : Int)))).symm with hb6 | hb6
    · replace H := ite_f hb6 H
      refine Cd.condF rfl hb6 ?_
      refine Cd.skip ?_
      exact At.meet (w64 (a1 + (w64 ((w64 ((w64 (a2 - a1)).tdiv (4 : Int))) * (2 : Int)))), (0 : Int)) (FLe.refl _) ⟨rfl, rfl, trivial⟩ rfl (some_inj H)
    replace H := ite_t hb6 H
    refine Cd.condT rfl hb6 ?_
    obtain ⟨o11, H, HKo11⟩ := bind_some H
    refine Cd.join (σ := Int × Int × Int × Int) (fun (y7, y8, y9, y10) => [(0, Sl.v s_a0), (3, .func (.func 53) #[] #[]), (11, .pointer (some ⟨b1, 0, none⟩)), (12, .int .i64 y7), (13, .int .i64 y8), (14, .int .i64 y9)]) (fun (y7, y8, y9, y10) => (.blk b1 (enc y10) 3) :: L) (fun _ (y7, y8, y9, y10) => (y7, y8, y9, y10) = o11) ?_ ?_
    · refine Cd.seq ?_
      refine Cd.region ?_
      refine Lst.run rfl rfl (by decide) (Ev.move rfl) ?_
      refine Lst.run rfl rfl (by decide) (Ev.geq rfl rfl) ?_
      refine Lst.nil ?_
      refine At.then ?_
      rcases (Bool.eq_false_or_eq_true (decide ((w64 (a2 - a1)) ≥ (50 : Int)))).symm with hb12 | hb12
      · replace H := ite_f hb12 H
        refine Cd.condF rfl hb12 ?_
        refine Cd.skip ?_
        exact At.meet (w64 (a1 + (w64 ((w64 ((w64 (a2 - a1)).tdiv (4 : Int))) * (1 : Int)))), w64 (a1 + (w64 ((w64 ((w64 (a2 - a1)).tdiv (4 : Int))) * (2 : Int)))), w64 (a1 + (w64 ((w64 ((w64 (a2 - a1)).tdiv (4 : Int))) * (3 : Int)))), (0 : Int)) (FLe.refl _) ⟨rfl, rfl, rfl, rfl, rfl, rfl, trivial⟩ rfl (some_inj H)
      replace H := ite_t hb12 H
      refine Cd.condT rfl hb12 ?_
      refine Cd.seq ?_
      refine Cd.region ?_
      refine Lst.run rfl rfl (by decide) (Ev.move rfl) ?_
      refine Lst.run rfl rfl (by decide) (Ev.move rfl) ?_
      refine Lst.run rfl rfl (by decide) (Ev.move rfl) ?_
      obtain ⟨r13, h14, H⟩ := bind_some H
      refine Lst.call rfl rfl (by decide) (vs := [Sl.v s_a0, .int .i64 (w64 (a1 + (w64 ((w64 ((w64 (a2 - a1)).tdiv (4 : Int))) * (1 : Int))))), .pointer (some ⟨b1, 0, none⟩), .func (.func 53) #[] #[]]) ⟨rfl, rfl, rfl, rfl, trivial⟩ Try.call152 (slices_medianAdjacentCmpFunc_uint16_quorum_compare_sim h14 w0 _ M _ hM (hs_a0.mono (FLe.refl _) (List.Sublist.refl _))) (fun F15 L' v hF16 hv => ?_)
      obtain ⟨rfl, rfl⟩ := hv
      refine Lst.run rfl rfl (by decide) (Ev.assign rfl) ?_
      refine Lst.nil ?_
      refine At.then ?_
      refine Cd.seq ?_
      refine Cd.as (e' := [(0, Sl.v s_a0), (3, .func (.func 53) #[] #[]), (11, .pointer (some ⟨b1, 0, none⟩)), (12, .int .i64 r13.2), (13, .int .i64 (w64 (a1 + (w64 ((w64 ((w64 (a2 - a1)).tdiv (4 : Int))) * (2 : Int)))))), (14, .int .i64 (w64 (a1 + (w64 ((w64 ((w64 (a2 - a1)).tdiv (4 : Int))) * (3 : Int))))))]) (L' := (.blk b1 (enc r13.1) 3) :: L) ⟨rfl, rfl, rfl, rfl, rfl, rfl, trivial⟩ rfl ?_
      refine Cd.region ?_
      refine Lst.run rfl rfl (by decide) (Ev.move rfl) ?_
      refine Lst.run rfl rfl (by decide) (Ev.move rfl) ?_
      refine Lst.run rfl rfl (by decide) (Ev.move rfl) ?_
      obtain ⟨r17, h18, H⟩ := bind_some H
      refine Lst.call rfl rfl (by decide) (vs := [Sl.v s_a0, .int .i64 (w64 (a1 + (w64 ((w64 ((w64 (a2 - a1)).tdiv (4 : Int))) * (2 : Int))))), .pointer (some ⟨b1, 0, none⟩), .func (.func 53) #[] #[]]) ⟨rfl, rfl, rfl, rfl, trivial⟩ Try.call152 (slices_medianAdjacentCmpFunc_uint16_quorum_compare_sim h18 w0 _ M _ hM (hs_a0.mono hF16 (List.Sublist.refl _))) (fun F19 L' v hF20 hv => ?_)
      obtain ⟨rfl, rfl⟩ := hv
      refine Lst.run rfl rfl (by decide) (Ev.assign rfl) ?_
      refine Lst.nil ?_
      refine At.then ?_
      refine Cd.region ?_
      refine Lst.run rfl rfl (by decide) (Ev.move rfl) ?_
      refine Lst.run rfl rfl (by decide) (Ev.move rfl) ?_
      refine Lst.run rfl rfl (by decide) (Ev.move rfl) ?_
      obtain ⟨r21, h22, H⟩ := bind_some H
      refine Lst.call rfl rfl (by decide) (vs := [Sl.v s_a0, .int .i64 (w64 (a1 + (w64 ((w64 ((w64 (a2 - a1)).tdiv (4 : Int))) * (3 : Int))))), .pointer (some ⟨b1, 0, none⟩), .func (.func 53) #[] #[]]) ⟨rfl, rfl, rfl, rfl, trivial⟩ Try.call152 (slices_medianAdjacentCmpFunc_uint16_quorum_compare_sim h22 w0 _ M _ hM (hs_a0.mono (FLe.trans hF16 hF20) (List.Sublist.refl _))) (fun F23 L' v hF24 hv => ?_)
      obtain ⟨rfl, rfl⟩ := hv
      refine Lst.run rfl rfl (by decide) (Ev.assign rfl) ?_
      refine Lst.nil ?_
      exact At.meet (r13.2, r17.2, r21.2, r21.1) (FLe.trans (FLe.trans hF16 hF20) hF24) ⟨rfl, rfl, rfl, rfl, rfl, rfl, trivial⟩ rfl (some_inj H)
    rintro F25 ⟨y7, y8, y9, y10⟩ hF26 hy
    subst hy
    refine Cd.as (e' := [(0, Sl.v s_a0), (3, .func (.func 53) #[] #[]), (11, .pointer (some ⟨b1, 0, none⟩)), (12, .int .i64 y7), (13, .int .i64 y8), (14, .int .i64 y9)]) (L' := (.blk b1 (enc y10) 3) :: L) ⟨rfl, rfl, rfl, rfl, rfl, rfl, trivial⟩ rfl ?_
    replace H := HKo11
    refine Cd.region ?_
    refine Lst.run rfl rfl (by decide) (Ev.move rfl) ?_
    refine Lst.run rfl rfl (by decide) (Ev.move rfl) ?_
    refine Lst.run rfl rfl (by decide) (Ev.move rfl) ?_
    refine Lst.run rfl rfl (by decide) (Ev.move rfl) ?_
    refine Lst.run rfl rfl (by decide) (Ev.move rfl) ?_
    obtain ⟨r27, h28, H⟩ := bind_some H
    refine Lst.call rfl rfl (by decide) (vs := [Sl.v s_a0, .int .i64 y7, .int .i64 y8, .int .i64 y9, .pointer (some ⟨b1, 0, none⟩), .func (.func 53) #[] #[]]) ⟨rfl, rfl, rfl, rfl, rfl, rfl, trivial⟩ Try.call153 (slices_medianCmpFunc_uint16_quorum_compare_sim h28 w0 _ M _ hM (hs_a0.mono hF26 (List.Sublist.refl _))) (fun F29 L' v hF30 hv => ?_)
    obtain ⟨rfl, rfl⟩ := hv
    refine Lst.run rfl rfl (by decide) (Ev.assign rfl) ?_
    refine Lst.nil ?_
    exact At.meet (r27.2, r27.1) (FLe.trans hF26 hF30) ⟨rfl, rfl, trivial⟩ rfl (some_inj H)
  rintro F31 ⟨y3, y4⟩ hF32 hy
  subst hy
  refine Cd.as (e' := [(11, .pointer (some ⟨b1, 0, none⟩)), (13, .int .i64 y3)]) (L' := (.blk b1 (enc y4) 3) :: L) ⟨rfl, rfl, trivial⟩ rfl ?_
  replace H := HKo5
  refine Cd.seq ?_
  refine Cd.region ?_
  refine Lst.run rfl rfl (by decide) (Ev.load (i := 0) rfl rfl Try.isAgg3 (v := .int .i64 y4) (Get.here _)) ?_
  refine Lst.nil ?_
  refine At.then ?_
  refine Cd.block ?_
  refine Cd.seq ?_
  refine Cd.region ?_
  refine Lst.run rfl rfl (by decide) (Ev.eql rfl rfl) ?_
  refine Lst.run rfl rfl (by decide) (Ev.assign rfl) ?_
  refine Lst.nil ?_
  refine At.then ?_
  rcases Bool.eq_false_or_eq_true (y4 == (0 : Int)) with hb33 | hb33
  · replace H := ite_t hb33 H
    refine Cd.condT rfl hb33 ?_
    refine Cd.seq ?_
    refine Cd.region ?_
    refine Lst.run rfl rfl (by decide) (Ev.move rfl) ?_
    refine Lst.run rfl rfl (by decide) (Ev.assign rfl) ?_
    refine Lst.run rfl rfl (by decide) (Ev.assign rfl) ?_
    refine Lst.nil ?_
    refine At.then ?_
    obtain rfl := some_inj H
    refine Cd.ret ?_
    refine At.in_ret ?_
    exact At.ret2 rfl (Res.tmp rfl) (Res.tmp rfl) hF32 (List.Sublist.cons _ (List.Sublist.refl _)) ⟨rfl, rfl⟩
  replace H := ite_f hb33 H
  refine Cd.condF rfl hb33 ?_
  refine Cd.seq ?_
  refine Cd.region ?_
  refine Lst.run rfl rfl (by decide) (Ev.eql rfl rfl) ?_
  refine Lst.run rfl rfl (by decide) (Ev.assign rfl) ?_
  refine Lst.nil ?_
  refine At.then ?_
  rcases Bool.eq_false_or_eq_true (y4 == (12 : Int)) with hb34 | hb34
  · replace H := ite_t hb34 H
    refine Cd.condT rfl hb34 ?_
    refine Cd.seq ?_
    refine Cd.region ?_
    refine Lst.run rfl rfl (by decide) (Ev.move rfl) ?_
    refine Lst.run rfl rfl (by decide) (Ev.assign rfl) ?_
    refine Lst.run rfl rfl (by decide) (Ev.assign rfl) ?_
    refine Lst.nil ?_
    refine At.then ?_
    obtain rfl := some_inj H
    refine Cd.ret ?_
    refine At.in_ret ?_
    exact At.ret2 rfl (Res.tmp rfl) (Res.tmp rfl) hF32 (List.Sublist.cons _ (List.Sublist.refl _)) ⟨rfl, rfl⟩
  replace H := ite_f hb34 H
  refine Cd.condF rfl hb34 ?_
  refine Cd.seq ?_
  refine Cd.region ?_
  refine Lst.run rfl rfl (by decide) (Ev.move rfl) ?_
  refine Lst.run rfl rfl (by decide) (Ev.assign rfl) ?_
  refine Lst.run rfl rfl (by decide) (Ev.assign rfl) ?_
  refine Lst.nil ?_
  refine At.then ?_
  obtain rfl := some_inj H
  refine Cd.ret ?_
  refine At.in_ret ?_
  exact At.ret2 rfl (Res.tmp rfl) (Res.tmp rfl) hF32 (List.Sublist.cons _ (List.Sublist.refl _)) ⟨rfl, rfl⟩
set_option maxRecDepth 20000 in
theorem slices_reverseRangeCmpFunc_uint16_quorum_compare_sim {fu : Nat} {a0 : List (BitVec 16)} {a1 : Int} {a2 : Int} {s_a0 : Sl} {r : (List (BitVec 16))} (H : slices_reverseRangeCmpFunc_uint16_quorum_compare fu a0 a1 a2 = some r) (w0 : World) (F : Frz) (M L : List Item) (hM : M.Sublist L) : Ok Try.prog w0 138 [Sl.v s_a0, .int .i64 a1, .int .i64 a2, .func (.func 53) #[] #[]] F ((.own s_a0 23 1 (encs a0)) :: L) (fun _ L' v => v = .tuple #[] ∧ L' = (.own s_a0 23 1 (encs r)) :: L) := by
  unfold slices_reverseRangeCmpFunc_uint16_quorum_compare at H
  refine Ok.enter (m := 4) (n := 34) Try.func138 rfl rfl rfl (by decide) ?_
  refine Cd.env (e' := [(0, Sl.v s_a0), (1, .int .i64 a1), (2, .int .i64 a2), (3, .func (.func 53) #[] #[])]) rfl ?_
  refine Cd.seq ?_
  refine Cd.region ?_
  refine Lst.run rfl rfl (by decide) (Ev.move rfl) ?_
  refine Lst.run rfl rfl (by decide) (Ev.assign rfl) ?_
  refine Lst.nil ?_
  refine At.then ?_
  refine Cd.seq ?_
  refine Cd.region ?_
  refine Lst.run rfl rfl (by decide) (Ev.move rfl) ?_
  refine Lst.run rfl rfl (by decide) (Ev.sub rfl rfl) ?_
  refine Lst.run rfl rfl (by decide) (Ev.assign rfl) ?_
  refine Lst.nil ?_
  refine At.then ?_
  refine Cd.block ?_
  obtain ⟨ol2, H, HKl2⟩ := andThen_some H
  refine Cd.loop (σ := Nat × Int × Int × (List (BitVec 16))) (fun (k2, y3, y4, l5) => [(0, Sl.v s_a0), (8, .int .i64 y3), (9, .int .i64 y4)]) (fun (k2, y3, y4, l5) => (.own s_a0 23 1 (encs l5)) :: L) (fun _ => (fun (k2, y3, y4, l5) => whileM (slices_reverseRangeCmpFunc_uint16_quorum_compare_B0) k2 (y3, y4, l5) = some ol2)) (fun (k2, y3, y4, l5) => k2) (fu, a1, w64 (a2 - (1 : Int)), a0) ⟨rfl, rfl, rfl, trivial⟩ rfl H ?_
  rintro F6 ⟨k2, y3, y4, l5⟩ hF7 H
  refine Cd.as (e' := [(0, Sl.v s_a0), (8, .int .i64 y3), (9, .int .i64 y4)]) (L' := (.own s_a0 23 1 (encs l5)) :: L) ⟨rfl, rfl, rfl, trivial⟩ rfl ?_
  rcases k2 with _ | k2
  · cases H
  obtain ⟨c2, H, hgo2, hbrk2, hret2⟩ := whileM_go H
  unfold slices_reverseRangeCmpFunc_uint16_quorum_compare_B0 at H
  try dsimp only at H
  refine Cd.seq ?_
  refine Cd.seq ?_
  refine Cd.region ?_
  refine Lst.run rfl rfl (by decide) (Ev.move rfl) ?_
  refine Lst.run rfl rfl (by decide) (Ev.move rfl) ?_
  refine Lst.run rfl rfl (by decide) (Ev.lss rfl rfl) ?_
  refine Lst.nil ?_
  refine At.then ?_
  rcases (Bool.eq_false_or_eq_true (decide (y3 < y4))).symm with hb8 | hb8
  · replace H := ite_f hb8 H
    refine Cd.condF rfl hb8 ?_
    refine Cd.exit ?_
    refine At.then_exit ?_
    refine At.then_exit ?_
    refine At.in_exit ?_
    have H := hbrk2 _ (some_inj H).symm
    subst H
    replace H := HKl2
    obtain rfl := some_inj H
    exact At.ret0 (.inr rfl) rfl hF7 (List.Sublist.cons_cons _ (List.Sublist.refl _)) ⟨rfl, rfl⟩
  replace H := ite_t hb8 H
  refine Cd.condT rfl hb8 ?_
  refine Cd.skip ?_
  refine At.then ?_
  refine Cd.block ?_
  refine Cd.seq ?_
  obtain ⟨x9, h10, H⟩ := bind_some H
  obtain ⟨x12, h13, H⟩ := bind_some H
  obtain ⟨x15, h16, H⟩ := bind_some H
  obtain ⟨p18, h19, H⟩ := Let_some H
  obtain ⟨o22, h23, H⟩ := Let_some H
  refine Cd.headMeet (σ := (List (BitVec 16))) 14 (fun l21 => [(0, Sl.v s_a0), (8, .int .i64 y3), (9, .int .i64 y4), (18, Sl.v s_a0), (19, .int .i64 y4), (27, .int .u16 x12.toNat)]) (fun l21 => (.own s_a0 23 1 (encs l21)) :: L) (fun _ l21 => l21 = o22) (by kernel_rfl) (by kernel_rfl) (behind_sink (by kernel_rfl) (by kernel_rfl) (by kernel_rfl)) (by kernel_rfl) (fun hsel hlt => ?_) ?_
  · refine HdJ.keep (fun w => St w0 F6 (L) w) (fun w h => trivial) ?_
    refine HdJ.takeK hsel hlt 0 (fun w h => h.sublist (List.Sublist.cons _ (List.Sublist.refl _))) rfl rfl (by decide) (by decide) (by kernel_rfl) (by kernel_rfl) rfl (Ev.move rfl) ?_
    refine HdJ.takeK hsel hlt 1 (fun w h => h.sublist (List.Sublist.cons _ (List.Sublist.refl _))) rfl rfl (by decide) (by decide) (by kernel_rfl) (by kernel_rfl) rfl (Ev.move rfl) ?_
    refine HdJ.takeK hsel hlt 2 (fun w h => h.sublist (List.Sublist.cons _ (List.Sublist.refl _))) rfl rfl (by decide) (by decide) (by kernel_rfl) (by kernel_rfl) rfl (Ev.move rfl) ?_
    refine HdJ.takeK hsel hlt 3 (fun w h => h.sublist (List.Sublist.cons _ (List.Sublist.refl _))) rfl rfl (by decide) (by decide) (by kernel_rfl) (by kernel_rfl) rfl (Ev.move rfl) ?_
    refine HdJ.takeK hsel hlt 4 (fun w h => h.sublist (List.Sublist.cons _ (List.Sublist.refl _))) rfl rfl (by decide) (by decide) (by kernel_rfl) (by kernel_rfl) rfl (Ev.move rfl) ?_
    refine HdJ.takeK hsel hlt 5 (fun w h => h.sublist (List.Sublist.cons _ (List.Sublist.refl _))) rfl rfl (by decide) (by decide) (by kernel_rfl) (by kernel_rfl) rfl (Ev.move rfl) ?_
    refine HdJ.takeK hsel hlt 8 (fun w h => h.sublist (List.Sublist.cons _ (List.Sublist.refl _))) rfl rfl (by decide) (by decide) (by kernel_rfl) (by kernel_rfl) rfl (Ev.move rfl) ?_
    refine HdJ.takeK hsel hlt 9 (fun w h => h.sublist (List.Sublist.cons _ (List.Sublist.refl _))) rfl rfl (by decide) (by decide) (by kernel_rfl) (by kernel_rfl) rfl (Ev.move rfl) ?_
    refine HdJ.step [6, 10] (by kernel_rfl) rfl ?_
    refine HdStep.cons (by decide) rfl (fun inv => ?_) ?_
    · have g24 := lat_some h10
      refine Lst.run rfl rfl (by decide) (Ev.indexS (α := BitVec 16) (xs := l5) rfl rfl Try.runUnderlying22 Try.sizeOf23 rfl (by decide) (Rd.own (i := 0) rfl rfl rfl) g24.1 g24.2.1) ?_
      refine Lst.nil ?_
      refine At.hd inv (fun w h => (h.weaken (FLe.refl _)).sublist (List.Sublist.cons _ (List.Sublist.refl _))) ?_
      refine HdJ.step [7, 10] (by kernel_rfl) rfl ?_
      refine HdStep.cons (by decide) rfl (fun inv => ?_) ?_
      · refine Lst.run rfl rfl (by decide) (Ev.loadS (α := BitVec 16) rfl (Rd.own (i := 0) rfl rfl rfl) Try.isAgg23 (v := .int .u16 x9.toNat) ((Get.elemN (s := 1) (x := x9) rfl g24.2.2 (Get.here _)).off (by omega))) ?_
        refine Lst.nil ?_
        refine At.hd inv (fun w h => (h.weaken (FLe.refl _)).sublist (List.Sublist.cons _ (List.Sublist.refl _))) ?_
        refine HdJ.step [10] (by kernel_rfl) rfl ?_
        refine HdStep.cons (by decide) rfl (fun inv => ?_) ?_
        · have g25 := lat_some h13
          refine Lst.run rfl rfl (by decide) (Ev.indexS (α := BitVec 16) (xs := l5) rfl rfl Try.runUnderlying22 Try.sizeOf23 rfl (by decide) (Rd.own (i := 0) rfl rfl rfl) g25.1 g25.2.1) ?_
          refine Lst.nil ?_
          refine At.hd inv (fun w h => (h.weaken (FLe.refl _)).sublist (List.Sublist.cons _ (List.Sublist.refl _))) ?_
          refine HdJ.step [11] (by kernel_rfl) rfl ?_
          refine HdStep.cons (by decide) rfl (fun inv => ?_) ?_
          · refine Lst.run rfl rfl (by decide) (Ev.loadS (α := BitVec 16) rfl (Rd.own (i := 0) rfl rfl rfl) Try.isAgg23 (v := .int .u16 x12.toNat) ((Get.elemN (s := 1) (x := x12) rfl g25.2.2 (Get.here _)).off (by omega))) ?_
            refine Lst.nil ?_
            refine At.hd inv (fun w h => (h.weaken (FLe.refl _)).sublist (List.Sublist.cons _ (List.Sublist.refl _))) ?_
            refine HdJ.step [12] (by kernel_rfl) rfl ?_
            refine HdStep.cons (by decide) rfl (fun inv => ?_) ?_
            · have g26 := lat_some h16
              refine Lst.run rfl rfl (by decide) (Ev.indexS (α := BitVec 16) (xs := l5) rfl rfl Try.runUnderlying22 Try.sizeOf23 rfl (by decide) (Rd.own (i := 0) rfl rfl rfl) g26.1 g26.2.1) ?_
              refine Lst.nil ?_
              refine At.hd inv (fun w h => (h.weaken (FLe.refl _)).sublist (List.Sublist.cons _ (List.Sublist.refl _))) ?_
              refine HdJ.step [13] (by kernel_rfl) rfl ?_
              refine HdStep.cons (by decide) rfl (fun inv => ?_) ?_
              · refine Lst.storeS (i := 0) rfl rfl rfl rfl rfl Try.sizeOf23 (vs := [.int .u16 x9.toNat]) rfl rfl (by decide) rfl (xs' := encs p18) (by rw [← h19]; exact (Put.elemN (s := 1) (x := x15) rfl g26.2.2 (Put.here (vs := [.int .u16 x9.toNat]) rfl)).off (by omega)) (L' := (.own s_a0 23 1 (encs p18)) :: L) rfl ?_
                refine Lst.nil ?_
                refine At.hd inv (fun w h => (h.weaken (FLe.refl _)).sublist (List.Sublist.cons _ (List.Sublist.refl _))) ?_
                refine HdJ.done (by kernel_rfl) ?_
                exact At.meetN p18 (FLe.refl _) ⟨rfl, rfl, rfl, rfl, rfl, rfl, trivial⟩ rfl h23
              exact trivial
            exact trivial
          exact trivial
        exact trivial
      refine HdStep.cons (by decide) rfl (fun inv => ?_) ?_
      · have g27 := lat_some h13
        refine Lst.run rfl rfl (by decide) (Ev.indexS (α := BitVec 16) (xs := l5) rfl rfl Try.runUnderlying22 Try.sizeOf23 rfl (by decide) (Rd.own (i := 0) rfl rfl rfl) g27.1 g27.2.1) ?_
        refine Lst.nil ?_
        refine At.hd inv (fun w h => (h.weaken (FLe.refl _)).sublist (List.Sublist.cons _ (List.Sublist.refl _))) ?_
        refine HdJ.step [7, 11] (by kernel_rfl) rfl ?_
        refine HdStep.cons (by decide) rfl (fun inv => ?_) ?_
        · refine Lst.run rfl rfl (by decide) (Ev.loadS (α := BitVec 16) rfl (Rd.own (i := 0) rfl rfl rfl) Try.isAgg23 (v := .int .u16 x9.toNat) ((Get.elemN (s := 1) (x := x9) rfl g24.2.2 (Get.here _)).off (by omega))) ?_
          refine Lst.nil ?_
          refine At.hd inv (fun w h => (h.weaken (FLe.refl _)).sublist (List.Sublist.cons _ (List.Sublist.refl _))) ?_
          refine HdJ.step [11] (by kernel_rfl) rfl ?_
          refine HdStep.cons (by decide) rfl (fun inv => ?_) ?_
          · refine Lst.run rfl rfl (by decide) (Ev.loadS (α := BitVec 16) rfl (Rd.own (i := 0) rfl rfl rfl) Try.isAgg23 (v := .int .u16 x12.toNat) ((Get.elemN (s := 1) (x := x12) rfl g27.2.2 (Get.here _)).off (by omega))) ?_
            refine Lst.nil ?_
            refine At.hd inv (fun w h => (h.weaken (FLe.refl _)).sublist (List.Sublist.cons _ (List.Sublist.refl _))) ?_
            refine HdJ.step [12] (by kernel_rfl) rfl ?_
            refine HdStep.cons (by decide) rfl (fun inv => ?_) ?_
            · have g28 := lat_some h16
              refine Lst.run rfl rfl (by decide) (Ev.indexS (α := BitVec 16) (xs := l5) rfl rfl Try.runUnderlying22 Try.sizeOf23 rfl (by decide) (Rd.own (i := 0) rfl rfl rfl) g28.1 g28.2.1) ?_
              refine Lst.nil ?_
              refine At.hd inv (fun w h => (h.weaken (FLe.refl _)).sublist (List.Sublist.cons _ (List.Sublist.refl _))) ?_
              refine HdJ.step [13] (by kernel_rfl) rfl ?_
              refine HdStep.cons (by decide) rfl (fun inv => ?_) ?_
              · refine Lst.storeS (i := 0) rfl rfl rfl rfl rfl Try.sizeOf23 (vs := [.int .u16 x9.toNat]) rfl rfl (by decide) rfl (xs' := encs p18) (by rw [← h19]; exact (Put.elemN (s := 1) (x := x15) rfl g28.2.2 (Put.here (vs := [.int .u16 x9.toNat]) rfl)).off (by omega)) (L' := (.own s_a0 23 1 (encs p18)) :: L) rfl ?_
                refine Lst.nil ?_
                refine At.hd inv (fun w h => (h.weaken (FLe.refl _)).sublist (List.Sublist.cons _ (List.Sublist.refl _))) ?_
                refine HdJ.done (by kernel_rfl) ?_
                exact At.meetN p18 (FLe.refl _) ⟨rfl, rfl, rfl, rfl, rfl, rfl, trivial⟩ rfl h23
              exact trivial
            exact trivial
          exact trivial
        refine HdStep.cons (by decide) rfl (fun inv => ?_) ?_
        · refine Lst.run rfl rfl (by decide) (Ev.loadS (α := BitVec 16) rfl (Rd.own (i := 0) rfl rfl rfl) Try.isAgg23 (v := .int .u16 x12.toNat) ((Get.elemN (s := 1) (x := x12) rfl g27.2.2 (Get.here _)).off (by omega))) ?_
          refine Lst.nil ?_
          refine At.hd inv (fun w h => (h.weaken (FLe.refl _)).sublist (List.Sublist.cons _ (List.Sublist.refl _))) ?_
          refine HdJ.step [7] (by kernel_rfl) rfl ?_
          refine HdStep.cons (by decide) rfl (fun inv => ?_) ?_
          · refine Lst.run rfl rfl (by decide) (Ev.loadS (α := BitVec 16) rfl (Rd.own (i := 0) rfl rfl rfl) Try.isAgg23 (v := .int .u16 x9.toNat) ((Get.elemN (s := 1) (x := x9) rfl g24.2.2 (Get.here _)).off (by omega))) ?_
            refine Lst.nil ?_
            refine At.hd inv (fun w h => (h.weaken (FLe.refl _)).sublist (List.Sublist.cons _ (List.Sublist.refl _))) ?_
            refine HdJ.step [12] (by kernel_rfl) rfl ?_
            refine HdStep.cons (by decide) rfl (fun inv => ?_) ?_
            · have g29 := lat_some h16
              refine Lst.run rfl rfl (by decide) (Ev.indexS (α := BitVec 16) (xs := l5) rfl rfl Try.runUnderlying22 Try.sizeOf23 rfl (by decide) (Rd.own (i := 0) rfl rfl rfl) g29.1 g29.2.1) ?_
              refine Lst.nil ?_
              refine At.hd inv (fun w h => (h.weaken (FLe.refl _)).sublist (List.Sublist.cons _ (List.Sublist.refl _))) ?_
              refine HdJ.step [13] (by kernel_rfl) rfl ?_
              refine HdStep.cons (by decide) rfl (fun inv => ?_) ?_
              · refine Lst.storeS (i := 0) rfl rfl rfl rfl rfl Try.sizeOf23 (vs := [.int .u16 x9.toNat]) rfl rfl (by decide) rfl (xs' := encs p18) (by rw [← h19]; exact (Put.elemN (s := 1) (x := x15) rfl g29.2.2 (Put.here (vs := [.int .u16 x9.toNat]) rfl)).off (by omega)) (L' := (.own s_a0 23 1 (encs p18)) :: L) rfl ?_
                refine Lst.nil ?_
                refine At.hd inv (fun w h => (h.weaken (FLe.refl _)).sublist (List.Sublist.cons _ (List.Sublist.refl _))) ?_
                refine HdJ.done (by kernel_rfl) ?_
                exact At.meetN p18 (FLe.refl _) ⟨rfl, rfl, rfl, rfl, rfl, rfl, trivial⟩ rfl h23
              exact trivial
            exact trivial
          exact trivial
        exact trivial
      exact trivial
    refine HdStep.cons (by decide) rfl (fun inv => ?_) ?_
    · have g30 := lat_some h13
      refine Lst.run rfl rfl (by decide) (Ev.indexS (α := BitVec 16) (xs := l5) rfl rfl Try.runUnderlying22 Try.sizeOf23 rfl (by decide) (Rd.own (i := 0) rfl rfl rfl) g30.1 g30.2.1) ?_
      refine Lst.nil ?_
      refine At.hd inv (fun w h => (h.weaken (FLe.refl _)).sublist (List.Sublist.cons _ (List.Sublist.refl _))) ?_
      refine HdJ.step [6, 11] (by kernel_rfl) rfl ?_
      refine HdStep.cons (by decide) rfl (fun inv => ?_) ?_
      · have g31 := lat_some h10
        refine Lst.run rfl rfl (by decide) (Ev.indexS (α := BitVec 16) (xs := l5) rfl rfl Try.runUnderlying22 Try.sizeOf23 rfl (by decide) (Rd.own (i := 0) rfl rfl rfl) g31.1 g31.2.1) ?_
        refine Lst.nil ?_
        refine At.hd inv (fun w h => (h.weaken (FLe.refl _)).sublist (List.Sublist.cons _ (List.Sublist.refl _))) ?_
        refine HdJ.step [7, 11] (by kernel_rfl) rfl ?_
        refine HdStep.cons (by decide) rfl (fun inv => ?_) ?_
        · refine Lst.run rfl rfl (by decide) (Ev.loadS (α := BitVec 16) rfl (Rd.own (i := 0) rfl rfl rfl) Try.isAgg23 (v := .int .u16 x9.toNat) ((Get.elemN (s := 1) (x := x9) rfl g31.2.2 (Get.here _)).off (by omega))) ?_
          refine Lst.nil ?_
          refine At.hd inv (fun w h => (h.weaken (FLe.refl _)).sublist (List.Sublist.cons _ (List.Sublist.refl _))) ?_
          refine HdJ.step [11] (by kernel_rfl) rfl ?_
          refine HdStep.cons (by decide) rfl (fun inv => ?_) ?_
          · refine Lst.run rfl rfl (by decide) (Ev.loadS (α := BitVec 16) rfl (Rd.own (i := 0) rfl rfl rfl) Try.isAgg23 (v := .int .u16 x12.toNat) ((Get.elemN (s := 1) (x := x12) rfl g30.2.2 (Get.here _)).off (by omega))) ?_
            refine Lst.nil ?_
            refine At.hd inv (fun w h => (h.weaken (FLe.refl _)).sublist (List.Sublist.cons _ (List.Sublist.refl _))) ?_
            refine HdJ.step [12] (by kernel_rfl) rfl ?_
            refine HdStep.cons (by decide) rfl (fun inv => ?_) ?_
            · have g32 := lat_some h16
              refine Lst.run rfl rfl (by decide) (Ev.indexS (α := BitVec 16) (xs := l5) rfl rfl Try.runUnderlying22 Try.sizeOf23 rfl (by decide) (Rd.own (i := 0) rfl rfl rfl) g32.1 g32.2.1) ?_
              refine Lst.nil ?_
              refine At.hd inv (fun w h => (h.weaken (FLe.refl _)).sublist (List.Sublist.cons _ (List.Sublist.refl _))) ?_
              refine HdJ.step [13] (by kernel_rfl) rfl ?_
              refine HdStep.cons (by decide) rfl (fun inv => ?_) ?_
              · refine Lst.storeS (i := 0) rfl rfl rfl rfl rfl Try.sizeOf23 (vs := [.int .u16 x9.toNat]) rfl rfl (by decide) rfl (xs' := encs p18) (by rw [← h19]; exact (Put.elemN (s := 1) (x := x15) rfl g32.2.2 (Put.here (vs := [.int .u16 x9.toNat]) rfl)).off (by omega)) (L' := (.own s_a0 23 1 (encs p18)) :: L) rfl ?_
                refine Lst.nil ?_
                refine At.hd inv (fun w h => (h.weaken (FLe.refl _)).sublist (List.Sublist.cons _ (List.Sublist.refl _))) ?_
                refine HdJ.done (by kernel_rfl) ?_
                exact At.meetN p18 (FLe.refl _) ⟨rfl, rfl, rfl, rfl, rfl, rfl, trivial⟩ rfl h23
              exact trivial
            exact trivial
          exact trivial
        refine HdStep.cons (by decide) rfl (fun inv => ?_) ?_
        · refine Lst.run rfl rfl (by decide) (Ev.loadS (α := BitVec 16) rfl (Rd.own (i := 0) rfl rfl rfl) Try.isAgg23 (v := .int .u16 x12.toNat) ((Get.elemN (s := 1) (x := x12) rfl g30.2.2 (Get.here _)).off (by omega))) ?_
          refine Lst.nil ?_
          refine At.hd inv (fun w h => (h.weaken (FLe.refl _)).sublist (List.Sublist.cons _ (List.Sublist.refl _))) ?_
          refine HdJ.step [7] (by kernel_rfl) rfl ?_
          refine HdStep.cons (by decide) rfl (fun inv => ?_) ?_
          · refine Lst.run rfl rfl (by decide) (Ev.loadS (α := BitVec 16) rfl (Rd.own (i := 0) rfl rfl rfl) Try.isAgg23 (v := .int .u16 x9.toNat) ((Get.elemN (s := 1) (x := x9) rfl g31.2.2 (Get.here _)).off (by omega))) ?_
            refine Lst.nil ?_
            refine At.hd inv (fun w h => (h.weaken (FLe.refl _)).sublist (List.Sublist.cons _ (List.Sublist.refl _))) ?_
            refine HdJ.step [12] (by kernel_rfl) rfl ?_
            refine HdStep.cons (by decide) rfl (fun inv => ?_) ?_
            · have g33 := lat_some h16
              refine Lst.run rfl rfl (by decide) (Ev.indexS (α := BitVec 16) (xs := l5) rfl rfl Try.runUnderlying22 Try.sizeOf23 rfl (by decide) (Rd.own (i := 0) rfl rfl rfl) g33.1 g33.2.1) ?_
              refine Lst.nil ?_
              refine At.hd inv (fun w h => (h.weaken (FLe.refl _)).sublist (List.Sublist.cons _ (List.Sublist.refl _))) ?_
              refine HdJ.step [13] (by kernel_rfl) rfl ?_
              refine HdStep.cons (by decide) rfl (fun inv => ?_) ?_
              · refine Lst.storeS (i := 0) rfl rfl rfl rfl rfl Try.sizeOf23 (vs := [.int .u16 x9.toNat]) rfl rfl (by decide) rfl (xs' := encs p18) (by rw [← h19]; exact (Put.elemN (s := 1) (x := x15) rfl g33.2.2 (Put.here (vs := [.int .u16 x9.toNat]) rfl)).off (by omega)) (L' := (.own s_a0 23 1 (encs p18)) :: L) rfl ?_
                refine Lst.nil ?_
                refine At.hd inv (fun w h => (h.weaken (FLe.refl _)).sublist (List.Sublist.cons _ (List.Sublist.refl _))) ?_
                refine HdJ.done (by kernel_rfl) ?_
                exact At.meetN p18 (FLe.refl _) ⟨rfl, rfl, rfl, rfl, rfl, rfl, trivial⟩ rfl h23
              exact trivial
            exact trivial
          exact trivial
        exact trivial
      refine HdStep.cons (by decide) rfl (fun inv => ?_) ?_
      · refine Lst.run rfl rfl (by decide) (Ev.loadS (α := BitVec 16) rfl (Rd.own (i := 0) rfl rfl rfl) Try.isAgg23 (v := .int .u16 x12.toNat) ((Get.elemN (s := 1) (x := x12) rfl g30.2.2 (Get.here _)).off (by omega))) ?_
        refine Lst.nil ?_
        refine At.hd inv (fun w h => (h.weaken (FLe.refl _)).sublist (List.Sublist.cons _ (List.Sublist.refl _))) ?_
        refine HdJ.step [6] (by kernel_rfl) rfl ?_
        refine HdStep.cons (by decide) rfl (fun inv => ?_) ?_
        · have g34 := lat_some h10
          refine Lst.run rfl rfl (by decide) (Ev.indexS (α := BitVec 16) (xs := l5) rfl rfl Try.runUnderlying22 Try.sizeOf23 rfl (by decide) (Rd.own (i := 0) rfl rfl rfl) g34.1 g34.2.1) ?_
          refine Lst.nil ?_
          refine At.hd inv (fun w h => (h.weaken (FLe.refl _)).sublist (List.Sublist.cons _ (List.Sublist.refl _))) ?_
          refine HdJ.step [7] (by kernel_rfl) rfl ?_
          refine HdStep.cons (by decide) rfl (fun inv => ?_) ?_
          · refine Lst.run rfl rfl (by decide) (Ev.loadS (α := BitVec 16) rfl (Rd.own (i := 0) rfl rfl rfl) Try.isAgg23 (v := .int .u16 x9.toNat) ((Get.elemN (s := 1) (x := x9) rfl g34.2.2 (Get.here _)).off (by omega))) ?_
            refine Lst.nil ?_
            refine At.hd inv (fun w h => (h.weaken (FLe.refl _)).sublist (List.Sublist.cons _ (List.Sublist.refl _))) ?_
            refine HdJ.step [12] (by kernel_rfl) rfl ?_
            refine HdStep.cons (by decide) rfl (fun inv => ?_) ?_
            · have g35 := lat_some h16
              refine Lst.run rfl rfl (by decide) (Ev.indexS (α := BitVec 16) (xs := l5) rfl rfl Try.runUnderlying22 Try.sizeOf23 rfl (by decide) (Rd.own (i := 0) rfl rfl rfl) g35.1 g35.2.1) ?_
              refine Lst.nil ?_
              refine At.hd inv (fun w h => (h.weaken (FLe.refl _)).sublist (List.Sublist.cons _ (List.Sublist.refl _))) ?_
              refine HdJ.step [13] (by kernel_rfl) rfl ?_
              refine HdStep.cons (by decide) rfl (fun inv => ?_) ?_
              · refine Lst.storeS (i := 0) rfl rfl rfl rfl rfl Try.sizeOf23 (vs := [.int .u16 x9.toNat]) rfl rfl (by decide) rfl (xs' := encs p18) (by rw [← h19]; exact (Put.elemN (s := 1) (x := x15) rfl g35.2.2 (Put.here (vs := [.int .u16 x9.toNat]) rfl)).off (by omega)) (L' := (.own s_a0 23 1 (encs p18)) :: L) rfl ?_
                refine Lst.nil ?_
                refine At.hd inv (fun w h => (h.weaken (FLe.refl _)).sublist (List.Sublist.cons _ (List.Sublist.refl _))) ?_
                refine HdJ.done (by kernel_rfl) ?_
                exact At.meetN p18 (FLe.refl _) ⟨rfl, rfl, rfl, rfl, rfl, rfl, trivial⟩ rfl h23
              exact trivial
            exact trivial
          exact trivial
        exact trivial
      exact trivial
    exact trivial
  rintro F36 l21 hF37 hy
  subst hy
  refine Lst.as (e' := [(0, Sl.v s_a0), (8, .int .i64 y3), (9, .int .i64 y4), (18, Sl.v s_a0), (19, .int .i64 y4), (27, .int .u16 x12.toNat)]) (L' := (.own s_a0 23 1 (encs l21)) :: L) ⟨rfl, rfl, rfl, rfl, rfl, rfl, trivial⟩ rfl ?_
  obtain ⟨x38, h39, H⟩ := bind_some H
  have g40 := lat_some h39
  refine Lst.run rfl rfl (by decide) (Ev.indexS (α := BitVec 16) (xs := l21) rfl rfl Try.runUnderlying22 Try.sizeOf23 rfl (by decide) (Rd.own (i := 0) rfl rfl rfl) g40.1 g40.2.1) ?_
  obtain ⟨p41, h42, H⟩ := Let_some H
  refine Lst.storeS (i := 0) rfl rfl rfl rfl rfl Try.sizeOf23 (vs := [.int .u16 x12.toNat]) rfl rfl (by decide) rfl (xs' := encs p41) (by rw [← h42]; exact (Put.elemN (s := 1) (x := x38) rfl g40.2.2 (Put.here (vs := [.int .u16 x12.toNat]) rfl)).off (by omega)) (L' := (.own s_a0 23 1 (encs p41)) :: L) rfl ?_
  refine Lst.nil ?_
  refine At.then ?_
  refine Cd.seq ?_
  refine Cd.region ?_
  refine Lst.run rfl rfl (by decide) (Ev.move rfl) ?_
  refine Lst.run rfl rfl (by decide) (Ev.add rfl rfl) ?_
  refine Lst.run rfl rfl (by decide) (Ev.assign rfl) ?_
  refine Lst.nil ?_
  refine At.then ?_
  refine Cd.region ?_
  refine Lst.run rfl rfl (by decide) (Ev.move rfl) ?_
  refine Lst.run rfl rfl (by decide) (Ev.sub rfl rfl) ?_
  refine Lst.run rfl rfl (by decide) (Ev.assign rfl) ?_
  refine Lst.nil ?_
  refine At.in_normal ?_
  exact At.meet (k2, w64 (y3 + (1 : Int)), w64 (y4 - (1 : Int)), p41) (FLe.trans hF7 hF37) ⟨rfl, rfl, rfl, trivial⟩ rfl ⟨hgo2 _ (some_inj H).symm, Nat.lt_succ_self _⟩
end Go.Proofs.Ytnljiedichjagaa
