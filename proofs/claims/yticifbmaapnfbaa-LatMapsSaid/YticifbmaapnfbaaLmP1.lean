/-
  The functions compute their specs; printed by a program.
-/
import Derived.Test.YticifbmaapnfbaaLmSp
import Derived.Test.YticifbmaapnfbaaGoL
import Derived.Test.YticifbmaapnfbaaGoK
import Derived.Test.YticifbmaapnfbaaGoI
import Derived.Test.YticifbmaapnfbaaGoU
import Derived.Test.YticifbmaapnfbaaGoM
import Derived.Test.YticifbmaapnfbaaProg
namespace Go.Proofs.Yticifbmaapnfbaa
open Go.RowKit Enc
set_option linter.unusedVariables false
set_option linter.unusedSimpArgs false
set_option maxRecDepth 20000 in
theorem cmp_isNaN_uint16_sim {a0 : BitVec 16} {r : Bool} (H : cmp_isNaN_uint16 a0 = some r) (w0 : World) (F : Frz) (M L : List Item) (hM : M.Sublist L) : Ok Try.prog w0 84 [.int .u16 a0.toNat] F (L) (Is (.bool r) (L)) := by
  unfold cmp_isNaN_uint16 at H
  refine Ok.enter (m := 1) (n := 6) Try.func84 rfl rfl rfl (by decide) ?_
  refine Cd.env (e' := [(0, .int .u16 a0.toNat)]) rfl ?_
  refine Cd.seq ?_
  refine Cd.region ?_
  refine Lst.run rfl rfl (by decide) (Ev.assign rfl) ?_
  refine Lst.nil ?_
  refine At.then ?_
  refine Cd.seq ?_
  refine Cd.region ?_
  refine Lst.run rfl rfl (by decide) (Ev.move rfl) ?_
  refine Lst.run rfl rfl (by decide) (Ev.move rfl) ?_
  refine Lst.run rfl rfl (by decide) (Ev.neq rfl rfl) ?_
  refine Lst.run rfl rfl (by decide) (Ev.assign rfl) ?_
  refine Lst.nil ?_
  refine At.then ?_
  obtain rfl := some_inj H
  refine Cd.ret ?_
  exact At.ret1 rfl (Res.tmp rfl) (FLe.refl _) (List.Sublist.refl _) ⟨rfl, rfl⟩
set_option maxRecDepth 20000 in
theorem cmp_Less_uint16_sim {a0 : BitVec 16} {a1 : BitVec 16} {r : Bool} (H : cmp_Less_uint16 a0 a1 = some r) (w0 : World) (F : Frz) (M L : List Item) (hM : M.Sublist L) : Ok Try.prog w0 74 [.int .u16 a0.toNat, .int .u16 a1.toNat] F (L) (Is (.bool r) (L)) := by
  unfold cmp_Less_uint16 at H
  refine Ok.enter (m := 2) (n := 17) Try.func74 rfl rfl rfl (by decide) ?_
  refine Cd.env (e' := [(0, .int .u16 a0.toNat), (1, .int .u16 a1.toNat)]) rfl ?_
  refine Cd.seq ?_
  refine Cd.region ?_
  refine Lst.run rfl rfl (by decide) (Ev.assign rfl) ?_
  refine Lst.nil ?_
  refine At.then ?_
  refine Cd.seq ?_
  refine Cd.region ?_
  refine Lst.run rfl rfl (by decide) (Ev.move rfl) ?_
  obtain ⟨r1, h2, H⟩ := bind_some H
  refine Lst.call1 rfl rfl (by decide) (vs := [.int .u16 a0.toNat]) ⟨rfl, trivial⟩ Try.call84 (cmp_isNaN_uint16_sim h2 w0 _ M _ hM) ?_
  refine Lst.run rfl rfl (by decide) (Ev.move rfl) ?_
  obtain ⟨o5, H, HKo5⟩ := bind_some H
  refine Lst.join (σ := Bool) 4 (fun y6 => [(0, .int .u16 a0.toNat), (1, .int .u16 a1.toNat), (11, .bool y6)]) (fun y6 => L) (fun _ y6 => y6 = o5) ?_ ?_
  · rcases (Bool.eq_false_or_eq_true r1).symm with hb7 | hb7
    · replace H := ite_f hb7 H
      refine Lst.skip rfl rfl rfl hb7 rfl (by decide) ?_
      refine Lst.skip rfl rfl rfl hb7 rfl (by decide) ?_
      refine Lst.skip rfl rfl rfl hb7 rfl (by decide) ?_
      refine Lst.run rfl rfl (by decide) (Ev.pickF rfl hb7 rfl) ?_
      refine Lst.nil ?_
      exact At.meet false (FLe.refl _) ⟨rfl, rfl, rfl, trivial⟩ rfl (some_inj H)
    replace H := ite_t hb7 H
    refine Lst.runG rfl rfl rfl hb7 rfl (by decide) (Ev.move rfl) ?_
    obtain ⟨r8, h9, H⟩ := bind_some H
    refine Lst.call1G rfl rfl rfl hb7 rfl (by decide) (vs := [.int .u16 a1.toNat]) ⟨rfl, trivial⟩ Try.call84 (cmp_isNaN_uint16_sim h9 w0 _ M _ hM) ?_
    refine Lst.runG rfl rfl rfl hb7 rfl (by decide) (Ev.not rfl) ?_
    refine Lst.run rfl rfl (by decide) (Ev.pickT rfl hb7 rfl) ?_
    refine Lst.nil ?_
    exact At.meet (!r8) (FLe.refl _) ⟨rfl, rfl, rfl, trivial⟩ rfl (some_inj H)
  rintro F12 y6 hF13 hy
  subst hy
  refine Lst.as (e' := [(0, .int .u16 a0.toNat), (1, .int .u16 a1.toNat), (11, .bool y6)]) (L' := L) ⟨rfl, rfl, rfl, trivial⟩ rfl ?_
  replace H := HKo5
  refine Lst.run rfl rfl (by decide) (Ev.move rfl) ?_
  obtain ⟨o14, H, HKo14⟩ := bind_some H
  refine Lst.join (σ := Bool) 4 (fun y15 => [(16, .bool y15)]) (fun y15 => L) (fun _ y15 => y15 = o14) ?_ ?_
  · rcases Bool.eq_false_or_eq_true y6 with hb16 | hb16
    · replace H := ite_t hb16 H
      refine Lst.skip rfl rfl rfl hb16 rfl (by decide) ?_
      refine Lst.skip rfl rfl rfl hb16 rfl (by decide) ?_
      refine Lst.skip rfl rfl rfl hb16 rfl (by decide) ?_
      refine Lst.run rfl rfl (by decide) (Ev.pickT rfl hb16 rfl) ?_
      refine Lst.nil ?_
      exact At.meet true (FLe.refl _) ⟨rfl, trivial⟩ rfl (some_inj H)
    replace H := ite_f hb16 H
    refine Lst.runG rfl rfl rfl hb16 rfl (by decide) (Ev.move rfl) ?_
    refine Lst.runG rfl rfl rfl hb16 rfl (by decide) (Ev.move rfl) ?_
    refine Lst.runG rfl rfl rfl hb16 rfl (by decide) (Ev.lss rfl rfl) ?_
    refine Lst.run rfl rfl (by decide) (Ev.pickF rfl hb16 rfl) ?_
    refine Lst.nil ?_
    exact At.meet (decide ((a0.toNat : Int) < (a1.toNat : Int))) (FLe.refl _) ⟨rfl, trivial⟩ rfl (some_inj H)
  rintro F17 y15 hF18 hy
  subst hy
  refine Lst.as (e' := [(16, .bool y15)]) (L' := L) ⟨rfl, trivial⟩ rfl ?_
  replace H := HKo14
  refine Lst.run rfl rfl (by decide) (Ev.assign rfl) ?_
  refine Lst.nil ?_
  refine At.then ?_
  obtain rfl := some_inj H
  refine Cd.ret ?_
  exact At.ret1 rfl (Res.tmp rfl) (FLe.trans hF13 hF18) (List.Sublist.refl _) ⟨rfl, rfl⟩
set_option maxRecDepth 20000 in
theorem slices_isNaN_uint16_sim {a0 : BitVec 16} {r : Bool} (H : slices_isNaN_uint16 a0 = some r) (w0 : World) (F : Frz) (M L : List Item) (hM : M.Sublist L) : Ok Try.prog w0 75 [.int .u16 a0.toNat] F (L) (Is (.bool r) (L)) := by
  unfold slices_isNaN_uint16 at H
  refine Ok.enter (m := 1) (n := 6) Try.func75 rfl rfl rfl (by decide) ?_
  refine Cd.env (e' := [(0, .int .u16 a0.toNat)]) rfl ?_
  refine Cd.seq ?_
  refine Cd.region ?_
  refine Lst.run rfl rfl (by decide) (Ev.assign rfl) ?_
  refine Lst.nil ?_
  refine At.then ?_
  refine Cd.seq ?_
  refine Cd.region ?_
  refine Lst.run rfl rfl (by decide) (Ev.move rfl) ?_
  refine Lst.run rfl rfl (by decide) (Ev.move rfl) ?_
  refine Lst.run rfl rfl (by decide) (Ev.neq rfl rfl) ?_
  refine Lst.run rfl rfl (by decide) (Ev.assign rfl) ?_
  refine Lst.nil ?_
  refine At.then ?_
  obtain rfl := some_inj H
  refine Cd.ret ?_
  exact At.ret1 rfl (Res.tmp rfl) (FLe.refl _) (List.Sublist.refl _) ⟨rfl, rfl⟩
set_option maxRecDepth 20000 in
theorem slices_BinarySearch_uint16_uint16_sim {fu : Nat} {a0 : List (BitVec 16)} {a1 : BitVec 16} {s_a0 : Sl} {r : Int × Bool} (H : slices_BinarySearch_uint16_uint16 fu a0 a1 = some r) (w0 : World) (F : Frz) (M L : List Item) (hM : M.Sublist L) (hs_a0 : Rd w0 F M s_a0 a0) : Ok Try.prog w0 51 [Sl.v s_a0, .int .u16 a1.toNat] F (L) (Is (.tuple #[.int .i64 r.1, .bool r.2]) (L)) := by
  unfold slices_BinarySearch_uint16_uint16 at H
  refine Ok.enter (m := 2) (n := 54) Try.func51 rfl rfl rfl (by decide) ?_
  refine Cd.env (e' := [(0, Sl.v s_a0), (1, .int .u16 a1.toNat)]) rfl ?_
  refine Cd.seq ?_
  refine Cd.region ?_
  refine Lst.run rfl rfl (by decide) (Ev.assign rfl) ?_
  refine Lst.run rfl rfl (by decide) (Ev.assign rfl) ?_
  refine Lst.nil ?_
  refine At.then ?_
  refine Cd.seq ?_
  refine Cd.region ?_
  refine Lst.run rfl rfl (by decide) (Ev.move rfl) ?_
  refine Lst.run rfl rfl (by decide) (Ev.lenS (α := BitVec 16) (xs := a0) (by decide) rfl rfl Try.runUnderlying27 (hs_a0.mono (FLe.refl _) hM)) ?_
  refine Lst.run rfl rfl (by decide) (Ev.assign rfl) ?_
  refine Lst.nil ?_
  refine At.then ?_
  refine Cd.seq ?_
  refine Cd.region ?_
  refine Lst.run rfl rfl (by decide) (Ev.move rfl) ?_
  refine Lst.run rfl rfl (by decide) (Ev.assign rfl) ?_
  refine Lst.run rfl rfl (by decide) (Ev.assign rfl) ?_
  refine Lst.nil ?_
  refine At.then ?_
  refine Cd.seq ?_
  refine Cd.block ?_
  obtain ⟨ol1, H, HKl1⟩ := andThen_some H
  refine Cd.loop (σ := Nat × Int × Int) (fun (k1, y2, y3) => [(0, Sl.v s_a0), (1, .int .u16 a1.toNat), (6, .int .i64 (a0.length : Int)), (7, .int .i64 y2), (8, .int .i64 y3)]) (fun (k1, y2, y3) => L) (fun _ => (fun (k1, y2, y3) => whileM (slices_BinarySearch_uint16_uint16_B0 a0 a1) k1 (y2, y3) = some ol1)) (fun (k1, y2, y3) => k1) (fu, (0 : Int), (a0.length : Int)) ⟨rfl, rfl, rfl, rfl, rfl, trivial⟩ rfl H ?_
  rintro F4 ⟨k1, y2, y3⟩ hF5 H
  refine Cd.as (e' := [(0, Sl.v s_a0), (1, .int .u16 a1.toNat), (6, .int .i64 (a0.length : Int)), (7, .int .i64 y2), (8, .int .i64 y3)]) (L' := L) ⟨rfl, rfl, rfl, rfl, rfl, trivial⟩ rfl ?_
  rcases k1 with _ | k1
  · cases H
  obtain ⟨c1, H, hgo1, hbrk1, hret1⟩ := whileM_go H
  unfold slices_BinarySearch_uint16_uint16_B0 at H
  try dsimp only at H
  refine Cd.seq ?_
  refine Cd.seq ?_
  refine Cd.region ?_
  refine Lst.run rfl rfl (by decide) (Ev.move rfl) ?_
  refine Lst.run rfl rfl (by decide) (Ev.move rfl) ?_
  refine Lst.run rfl rfl (by decide) (Ev.lss rfl rfl) ?_
  refine Lst.nil ?_
  refine At.then ?_
  rcases (Bool.eq_false_or_eq_true (decide (y2 < y3))).symm with hb6 | hb6
  · replace H := ite_f hb6 H
    refine Cd.condF rfl hb6 ?_
    refine Cd.exit ?_
    refine At.then_exit ?_
    refine At.then_exit ?_
    refine At.in_exit ?_
    have H := hbrk1 _ (some_inj H).symm
    subst H
    replace H := HKl1
    refine At.then ?_
    refine Cd.seq ?_
    refine Cd.region ?_
    refine Lst.run rfl rfl (by decide) (Ev.move rfl) ?_
    refine Lst.run rfl rfl (by decide) (Ev.move rfl) ?_
    refine Lst.run rfl rfl (by decide) (Ev.move rfl) ?_
    refine Lst.run rfl rfl (by decide) (Ev.lss rfl rfl) ?_
    refine Lst.run rfl rfl (by decide) (Ev.move rfl) ?_
    rcases (Bool.eq_false_or_eq_true (decide (y2 < (a0.length : Int)))).symm with hb7 | hb7
    · replace H := ite_f hb7 H
      refine Lst.skip rfl rfl rfl hb7 rfl (by decide) ?_
      refine Lst.skip rfl rfl rfl hb7 rfl (by decide) ?_
      refine Lst.skip rfl rfl rfl hb7 rfl (by decide) ?_
      refine Lst.skip rfl rfl rfl hb7 rfl (by decide) ?_
      refine Lst.skip rfl rfl rfl hb7 rfl (by decide) ?_
      refine Lst.skip rfl rfl rfl hb7 rfl (by decide) ?_
      refine Lst.skip rfl rfl rfl hb7 rfl (by decide) ?_
      refine Lst.skipU rfl rfl rfl rfl (by decide) ?_
      refine Lst.skipU rfl rfl rfl rfl (by decide) ?_
      refine Lst.skipU rfl rfl rfl rfl (by decide) ?_
      refine Lst.skipU rfl rfl rfl rfl (by decide) ?_
      refine Lst.skipU rfl rfl rfl rfl (by decide) ?_
      refine Lst.skipU rfl rfl rfl rfl (by decide) ?_
      refine Lst.skipU rfl rfl rfl rfl (by decide) ?_
      refine Lst.skipU rfl rfl rfl rfl (by decide) ?_
      refine Lst.skipU rfl rfl rfl rfl (by decide) ?_
      refine Lst.skip rfl rfl rfl hb7 rfl (by decide) ?_
      refine Lst.run rfl rfl (by decide) (Ev.pickF rfl hb7 rfl) ?_
      refine Lst.run rfl rfl (by decide) (Ev.assign rfl) ?_
      refine Lst.run rfl rfl (by decide) (Ev.assign rfl) ?_
      refine Lst.nil ?_
      refine At.then ?_
      obtain rfl := some_inj H
      refine Cd.ret ?_
      exact At.ret2 rfl (Res.tmp rfl) (Res.tmp rfl) hF5 (List.Sublist.refl _) ⟨rfl, rfl⟩
    replace H := ite_t hb7 H
    refine Lst.runG rfl rfl rfl hb7 rfl (by decide) (Ev.move rfl) ?_
    refine Lst.runG rfl rfl rfl hb7 rfl (by decide) (Ev.move rfl) ?_
    obtain ⟨x8, h9, H⟩ := bind_some H
    have g10 := lat_some h9
    refine Lst.runG rfl rfl rfl hb7 rfl (by decide) (Ev.indexS (α := BitVec 16) (xs := a0) rfl rfl Try.runUnderlying27 Try.sizeOf31 rfl (by decide) (hs_a0.mono hF5 hM) g10.1 g10.2.1) ?_
    refine Lst.runG rfl rfl rfl hb7 rfl (by decide) (Ev.loadS (α := BitVec 16) rfl (hs_a0.mono hF5 hM) Try.isAgg31 (v := .int .u16 x8.toNat) ((Get.elemN (s := 1) (x := x8) rfl g10.2.2 (Get.here _)).off (by omega))) ?_
    refine Lst.runG rfl rfl rfl hb7 rfl (by decide) (Ev.move rfl) ?_
    refine Lst.runG rfl rfl rfl hb7 rfl (by decide) (Ev.eql rfl rfl) ?_
    refine Lst.runG rfl rfl rfl hb7 rfl (by decide) (Ev.move rfl) ?_
    rcases Bool.eq_false_or_eq_true ((x8.toNat : Int) == (a1.toNat : Int)) with hb11 | hb11
    · replace H := ite_t hb11 H
      refine Lst.skip rfl rfl rfl hb11 rfl (by decide) ?_
      refine Lst.skip rfl rfl rfl hb11 rfl (by decide) ?_
      refine Lst.skip rfl rfl rfl hb11 rfl (by decide) ?_
      refine Lst.skip rfl rfl rfl hb11 rfl (by decide) ?_
      refine Lst.skip rfl rfl rfl hb11 rfl (by decide) ?_
      refine Lst.skip rfl rfl rfl hb11 rfl (by decide) ?_
      refine Lst.skipU rfl rfl rfl rfl (by decide) ?_
      refine Lst.skipU rfl rfl rfl rfl (by decide) ?_
      refine Lst.skip rfl rfl rfl hb11 rfl (by decide) ?_
      refine Lst.runG rfl rfl rfl hb7 rfl (by decide) (Ev.pickT rfl hb11 rfl) ?_
      refine Lst.run rfl rfl (by decide) (Ev.pickT rfl hb7 rfl) ?_
      refine Lst.run rfl rfl (by decide) (Ev.assign rfl) ?_
      refine Lst.run rfl rfl (by decide) (Ev.assign rfl) ?_
      refine Lst.nil ?_
      refine At.then ?_
      obtain rfl := some_inj H
      refine Cd.ret ?_
      exact At.ret2 rfl (Res.tmp rfl) (Res.tmp rfl) hF5 (List.Sublist.refl _) ⟨rfl, rfl⟩
    replace H := ite_f hb11 H
    refine Lst.runG rfl rfl rfl hb11 rfl (by decide) (Ev.move rfl) ?_
    refine Lst.runG rfl rfl rfl hb11 rfl (by decide) (Ev.move rfl) ?_
    obtain ⟨x12, h13, H⟩ := bind_some H
    have g14 := lat_some h13
    refine Lst.runG rfl rfl rfl hb11 rfl (by decide) (Ev.indexS (α := BitVec 16) (xs := a0) rfl rfl Try.runUnderlying27 Try.sizeOf31 rfl (by decide) (hs_a0.mono hF5 hM) g14.1 g14.2.1) ?_
    refine Lst.runG rfl rfl rfl hb11 rfl (by decide) (Ev.loadS (α := BitVec 16) rfl (hs_a0.mono hF5 hM) Try.isAgg31 (v := .int .u16 x12.toNat) ((Get.elemN (s := 1) (x := x12) rfl g14.2.2 (Get.here _)).off (by omega))) ?_
    obtain ⟨r15, h16, H⟩ := bind_some H
    refine Lst.call1G rfl rfl rfl hb11 rfl (by decide) (vs := [.int .u16 x12.toNat]) ⟨rfl, trivial⟩ Try.call75 (slices_isNaN_uint16_sim h16 w0 _ M _ hM) ?_
    refine Lst.runG rfl rfl rfl hb11 rfl (by decide) (Ev.move rfl) ?_
    obtain ⟨o19, H, HKo19⟩ := bind_some H
    refine Lst.join (σ := Bool) 3 (fun y20 => [(31, .int .i64 y2), (35, .bool (decide (y2 < (a0.length : Int)))), (42, .bool ((x8.toNat : Int) == (a1.toNat : Int))), (51, .bool y20)]) (fun y20 => L) (fun _ y20 => y20 = o19) ?_ ?_
    · rcases (Bool.eq_false_or_eq_true r15).symm with hb21 | hb21
      · replace H := ite_f hb21 H
        refine Lst.skip rfl rfl rfl hb21 rfl (by decide) ?_
        refine Lst.skip rfl rfl rfl hb21 rfl (by decide) ?_
        refine Lst.runG rfl rfl rfl hb11 rfl (by decide) (Ev.pickF rfl hb21 rfl) ?_
        refine Lst.nil ?_
        exact At.meet false (FLe.refl _) ⟨rfl, rfl, rfl, rfl, trivial⟩ rfl (some_inj H)
      replace H := ite_t hb21 H
      refine Lst.runG rfl rfl rfl hb21 rfl (by decide) (Ev.move rfl) ?_
      obtain ⟨r22, h23, H⟩ := bind_some H
      refine Lst.call1G rfl rfl rfl hb21 rfl (by decide) (vs := [.int .u16 a1.toNat]) ⟨rfl, trivial⟩ Try.call75 (slices_isNaN_uint16_sim h23 w0 _ M _ hM) ?_
      refine Lst.runG rfl rfl rfl hb11 rfl (by decide) (Ev.pickT rfl hb21 rfl) ?_
      refine Lst.nil ?_
      exact At.meet r22 (FLe.refl _) ⟨rfl, rfl, rfl, rfl, trivial⟩ rfl (some_inj H)
    rintro F26 y20 hF27 hy
    subst hy
    refine Lst.as (e' := [(31, .int .i64 y2), (35, .bool (decide (y2 < (a0.length : Int)))), (42, .bool ((x8.toNat : Int) == (a1.toNat : Int))), (51, .bool y20)]) (L' := L) ⟨rfl, rfl, rfl, rfl, trivial⟩ rfl ?_
    replace H := HKo19
    refine Lst.runG rfl rfl rfl hb7 rfl (by decide) (Ev.pickF rfl hb11 rfl) ?_
    refine Lst.run rfl rfl (by decide) (Ev.pickT rfl hb7 rfl) ?_
    refine Lst.run rfl rfl (by decide) (Ev.assign rfl) ?_
    refine Lst.run rfl rfl (by decide) (Ev.assign rfl) ?_
    refine Lst.nil ?_
    refine At.then ?_
    obtain rfl := some_inj H
    refine Cd.ret ?_
    exact At.ret2 rfl (Res.tmp rfl) (Res.tmp rfl) (FLe.trans hF5 hF27) (List.Sublist.refl _) ⟨rfl, rfl⟩
  replace H := ite_t hb6 H
  refine Cd.condT rfl hb6 ?_
  refine Cd.skip ?_
  refine At.then ?_
  refine Cd.block ?_
  refine Cd.seq ?_
  refine Cd.region ?_
  refine Lst.run rfl rfl (by decide) (Ev.move rfl) ?_
  refine Lst.run rfl rfl (by decide) (Ev.move rfl) ?_
  refine Lst.run rfl rfl (by decide) (Ev.add rfl rfl) ?_
  refine Lst.run rfl rfl (by decide) (Ev.convTo64 rfl Try.runUnderlying3 Try.runUnderlying84) ?_
  refine Lst.run rfl rfl (by decide) (Ev.shrU64 (i := BitVec.ofInt 64 (w64 (y2 + y3))) (m := 1) rfl rfl) ?_
  refine Lst.run rfl rfl (by decide) (Ev.conv64 rfl Try.runUnderlying84 Try.runUnderlying3) ?_
  refine Lst.run rfl rfl (by decide) (Ev.assign rfl) ?_
  refine Lst.nil ?_
  refine At.then ?_
  refine Cd.seq ?_
  refine Cd.region ?_
  refine Lst.run rfl rfl (by decide) (Ev.move rfl) ?_
  refine Lst.run rfl rfl (by decide) (Ev.move rfl) ?_
  obtain ⟨x28, h29, H⟩ := bind_some H
  have g30 := lat_some h29
  refine Lst.run rfl rfl (by decide) (Ev.indexS (α := BitVec 16) (xs := a0) rfl rfl Try.runUnderlying27 Try.sizeOf31 rfl (by decide) (hs_a0.mono hF5 hM) g30.1 g30.2.1) ?_
  refine Lst.run rfl rfl (by decide) (Ev.loadS (α := BitVec 16) rfl (hs_a0.mono hF5 hM) Try.isAgg31 (v := .int .u16 x28.toNat) ((Get.elemN (s := 1) (x := x28) rfl g30.2.2 (Get.here _)).off (by omega))) ?_
  refine Lst.run rfl rfl (by decide) (Ev.move rfl) ?_
  obtain ⟨r31, h32, H⟩ := bind_some H
  refine Lst.call1 rfl rfl (by decide) (vs := [.int .u16 x28.toNat, .int .u16 a1.toNat]) ⟨rfl, rfl, trivial⟩ Try.call74 (cmp_Less_uint16_sim h32 w0 _ M _ hM) ?_
  refine Lst.nil ?_
  refine At.then ?_
  rcases (Bool.eq_false_or_eq_true r31).symm with hb35 | hb35
  · replace H := ite_f hb35 H
    refine Cd.condF rfl hb35 ?_
    refine Cd.as (e' := [(0, Sl.v s_a0), (1, .int .u16 a1.toNat), (6, .int .i64 (a0.length : Int)), (7, .int .i64 y2), (9, .int .i64 (w64 (((BitVec.ofInt 64 (w64 (y2 + y3))) >>> 1).toNat : Int)))]) (L' := L) ⟨rfl, rfl, rfl, rfl, rfl, trivial⟩ rfl ?_
    refine Cd.region ?_
    refine Lst.run rfl rfl (by decide) (Ev.move rfl) ?_
    refine Lst.run rfl rfl (by decide) (Ev.assign rfl) ?_
    refine Lst.nil ?_
    refine At.in_normal ?_
    exact At.meet (k1, y2, w64 (((BitVec.ofInt 64 (w64 (y2 + y3))) >>> 1).toNat : Int)) hF5 ⟨rfl, rfl, rfl, rfl, rfl, trivial⟩ rfl ⟨hgo1 _ (some_inj H).symm, Nat.lt_succ_self _⟩
  replace H := ite_t hb35 H
  refine Cd.condT rfl hb35 ?_
  refine Cd.as (e' := [(0, Sl.v s_a0), (1, .int .u16 a1.toNat), (6, .int .i64 (a0.length : Int)), (8, .int .i64 y3), (9, .int .i64 (w64 (((BitVec.ofInt 64 (w64 (y2 + y3))) >>> 1).toNat : Int)))]) (L' := L) ⟨rfl, rfl, rfl, rfl, rfl, trivial⟩ rfl ?_
  refine Cd.region ?_
  refine Lst.run rfl rfl (by decide) (Ev.move rfl) ?_
  refine Lst.run rfl rfl (by decide) (Ev.add rfl rfl) ?_
  refine Lst.run rfl rfl (by decide) (Ev.assign rfl) ?_
  refine Lst.nil ?_
  refine At.in_normal ?_
  exact At.meet (k1, w64 ((w64 (((BitVec.ofInt 64 (w64 (y2 + y3))) >>> 1).toNat : Int)) + (1 : Int)), y3) hF5 ⟨rfl, rfl, rfl, rfl, rfl, trivial⟩ rfl ⟨hgo1 _ (some_inj H).symm, Nat.lt_succ_self _⟩
set_option maxRecDepth 20000 in
theorem partref_SetsErr_sim {fu : Nat} {a0 : List (BitVec 16)} {s_a0 : Sl} {r : Int} (H : partref_SetsErr fu a0 = some r) (w0 : World) (F : Frz) (M L : List Item) (hM : M.Sublist L) (hs_a0 : Rd w0 F M s_a0 a0) : Ok Try.prog w0 17 [Sl.v s_a0] F (L) (Is (.int .i64 r) (L)) := by
  unfold partref_SetsErr at H
  refine Ok.enter (m := 1) (n := 83) Try.func17 rfl rfl rfl (by decide) ?_
  refine Cd.env (e' := [(0, Sl.v s_a0)]) rfl ?_
  refine Cd.seq ?_
  refine Cd.region ?_
  refine Lst.run rfl rfl (by decide) (Ev.assign rfl) ?_
  refine Lst.nil ?_
  refine At.then ?_
  refine Cd.seq ?_
  refine Cd.seq ?_
  refine Cd.region ?_
  refine Lst.run rfl rfl (by decide) (Ev.move rfl) ?_
  refine Lst.run rfl rfl (by decide) (Ev.lenS (α := BitVec 16) (xs := a0) (by decide) rfl rfl Try.runUnderlying27 (hs_a0.mono (FLe.refl _) hM)) ?_
  refine Lst.run rfl rfl (by decide) (Ev.eql rfl rfl) ?_
  refine Lst.run rfl rfl (by decide) (Ev.move rfl) ?_
  obtain ⟨o1, H, HKo1⟩ := bind_some H
  refine Lst.join (σ := Bool) 4 (fun y2 => [(0, Sl.v s_a0), (20, .bool y2)]) (fun y2 => L) (fun _ y2 => y2 = o1) ?_ ?_
  · rcases Bool.eq_false_or_eq_true ((a0.length : Int) == (0 : Int)) with hb3 | hb3
    · replace H := ite_t hb3 H
      refine Lst.skip rfl rfl rfl hb3 rfl (by decide) ?_
      refine Lst.skip rfl rfl rfl hb3 rfl (by decide) ?_
      refine Lst.skip rfl rfl rfl hb3 rfl (by decide) ?_
      refine Lst.run rfl rfl (by decide) (Ev.pickT rfl hb3 rfl) ?_
      refine Lst.nil ?_
      exact At.meet true (FLe.refl _) ⟨rfl, rfl, trivial⟩ rfl (some_inj H)
    replace H := ite_f hb3 H
    refine Lst.runG rfl rfl rfl hb3 rfl (by decide) (Ev.move rfl) ?_
    refine Lst.runG rfl rfl rfl hb3 rfl (by decide) (Ev.lenS (α := BitVec 16) (xs := a0) (by decide) rfl rfl Try.runUnderlying27 (hs_a0.mono (FLe.refl _) hM)) ?_
    refine Lst.runG rfl rfl rfl hb3 rfl (by decide) (Ev.gtr rfl rfl) ?_
    refine Lst.run rfl rfl (by decide) (Ev.pickF rfl hb3 rfl) ?_
    refine Lst.nil ?_
    exact At.meet (decide ((a0.length : Int) > (4096 : Int))) (FLe.refl _) ⟨rfl, rfl, trivial⟩ rfl (some_inj H)
  rintro F4 y2 hF5 hy
  subst hy
  refine Lst.as (e' := [(0, Sl.v s_a0), (20, .bool y2)]) (L' := L) ⟨rfl, rfl, trivial⟩ rfl ?_
  replace H := HKo1
  refine Lst.nil ?_
  refine At.then ?_
  rcases Bool.eq_false_or_eq_true y2 with hb6 | hb6
  · replace H := ite_t hb6 H
    refine Cd.condT rfl hb6 ?_
    refine Cd.seq ?_
    refine Cd.region ?_
    refine Lst.run rfl rfl (by decide) (Ev.assign rfl) ?_
    refine Lst.nil ?_
    refine At.then ?_
    obtain rfl := some_inj H
    refine Cd.ret ?_
    refine At.then_ret ?_
    exact At.ret1 rfl (Res.tmp rfl) hF5 (List.Sublist.refl _) ⟨rfl, rfl⟩
  replace H := ite_f hb6 H
  refine Cd.condF rfl hb6 ?_
  refine Cd.skip ?_
  refine At.then ?_
  refine Cd.seq ?_
  refine Cd.seq ?_
  refine Cd.region ?_
  refine Lst.run rfl rfl (by decide) (Ev.move rfl) ?_
  obtain ⟨x7, h8, H⟩ := bind_some H
  have g9 := lat_some h8
  refine Lst.run rfl rfl (by decide) (Ev.indexS (α := BitVec 16) (xs := a0) rfl rfl Try.runUnderlying27 Try.sizeOf31 rfl (by decide) (hs_a0.mono hF5 hM) g9.1 g9.2.1) ?_
  refine Lst.run rfl rfl (by decide) (Ev.loadS (α := BitVec 16) rfl (hs_a0.mono hF5 hM) Try.isAgg31 (v := .int .u16 x7.toNat) ((Get.elemN (s := 1) (x := x7) rfl g9.2.2 (Get.here _)).off (by omega))) ?_
  refine Lst.run rfl rfl (by decide) (Ev.gtr rfl rfl) ?_
  refine Lst.nil ?_
  refine At.then ?_
  rcases Bool.eq_false_or_eq_true (decide ((x7.toNat : Int) > ((0 : BitVec 16).toNat : Int))) with hb10 | hb10
  · replace H := ite_t hb10 H
    refine Cd.condT rfl hb10 ?_
    refine Cd.seq ?_
    refine Cd.region ?_
    refine Lst.run rfl rfl (by decide) (Ev.assign rfl) ?_
    refine Lst.nil ?_
    refine At.then ?_
    obtain rfl := some_inj H
    refine Cd.ret ?_
    refine At.then_ret ?_
    exact At.ret1 rfl (Res.tmp rfl) hF5 (List.Sublist.refl _) ⟨rfl, rfl⟩
  replace H := ite_f hb10 H
  refine Cd.condF rfl hb10 ?_
  refine Cd.skip ?_
  refine At.then ?_
  refine Cd.seq ?_
  refine Cd.seq ?_
  refine Cd.region ?_
  refine Lst.run rfl rfl (by decide) (Ev.move rfl) ?_
  refine Lst.run rfl rfl (by decide) (Ev.lenS (α := BitVec 16) (xs := a0) (by decide) rfl rfl Try.runUnderlying27 (hs_a0.mono hF5 hM)) ?_
  refine Lst.run rfl rfl (by decide) (Ev.move rfl) ?_
  refine Lst.nil ?_
  refine At.then ?_
  refine Cd.block ?_
  refine Cd.bound (Rd.le (α := BitVec 16) (xs := a0) (by decide) (hs_a0.mono hF5 hM)) (fun hN52 => ?_)
  obtain ⟨ol11, H, HKl11⟩ := andThen_some H
  refine Cd.loop (σ := Nat × Nat × Unit) (fun (i11, k11, _u) => [(0, Sl.v s_a0), (25, Sl.v s_a0), (26, .int .i64 (a0.length : Int)), (27, .int .i64 (i11 : Int))]) (fun (i11, k11, _u) => L) (fun _ => (fun (i11, k11, _u) => rangeM (partref_SetsErr_B0 a0) k11 i11 () = some ol11 ∧ i11 + k11 = a0.length)) (fun (i11, k11, _u) => k11) (0, a0.length, ()) ⟨rfl, rfl, rfl, rfl, trivial⟩ rfl ⟨H, by omega⟩ ?_
  rintro F12 ⟨i11, k11, _u⟩ hF13 ⟨H, hik11⟩
  refine Cd.as (e' := [(0, Sl.v s_a0), (25, Sl.v s_a0), (26, .int .i64 (a0.length : Int)), (27, .int .i64 (i11 : Int))]) (L' := L) ⟨rfl, rfl, rfl, rfl, trivial⟩ rfl ?_
  rcases k11 with _ | k11
  · have hc11 : decide ((i11 : Int) < (a0.length : Int)) = false := decide_eq_false (by omega)
    replace H := rangeM_end H
    refine Cd.seq ?_
    refine Cd.region ?_
    refine Lst.run rfl rfl (by decide) (Ev.lss rfl rfl) ?_
    refine Lst.nil ?_
    refine At.then ?_
    refine Cd.seq ?_
    refine Cd.condF rfl hc11 ?_
    refine Cd.exit ?_
    refine At.then_exit ?_
    refine At.then_exit ?_
    refine At.in_exit ?_
    subst H
    replace H := HKl11
    refine At.then ?_
    refine Cd.seq ?_
    refine Cd.seq ?_
    refine Cd.region ?_
    refine Lst.run rfl rfl (by decide) (Ev.move rfl) ?_
    refine Lst.run rfl rfl (by decide) (Ev.lenS (α := BitVec 16) (xs := a0) (by decide) rfl rfl Try.runUnderlying27 (hs_a0.mono (FLe.trans hF5 hF13) hM)) ?_
    refine Lst.run rfl rfl (by decide) (Ev.gtr rfl rfl) ?_
    refine Lst.nil ?_
    refine At.then ?_
    rcases Bool.eq_false_or_eq_true (decide ((a0.length : Int) > (300 : Int))) with hb27 | hb27
    · replace H := ite_t hb27 H
      refine Cd.condT rfl hb27 ?_
      refine Cd.seq ?_
      refine Cd.region ?_
      refine Lst.run rfl rfl (by decide) (Ev.assign rfl) ?_
      refine Lst.nil ?_
      refine At.then ?_
      obtain rfl := some_inj H
      refine Cd.ret ?_
      refine At.then_ret ?_
      exact At.ret1 rfl (Res.tmp rfl) (FLe.trans hF5 hF13) (List.Sublist.refl _) ⟨rfl, rfl⟩
    replace H := ite_f hb27 H
    refine Cd.condF rfl hb27 ?_
    refine Cd.skip ?_
    refine At.then ?_
    refine Cd.seq ?_
    refine Cd.seq ?_
    refine Cd.region ?_
    refine Lst.run rfl rfl (by decide) (Ev.move rfl) ?_
    refine Lst.run rfl rfl (by decide) (Ev.lenS (α := BitVec 16) (xs := a0) (by decide) rfl rfl Try.runUnderlying27 (hs_a0.mono (FLe.trans hF5 hF13) hM)) ?_
    refine Lst.run rfl rfl (by decide) (Ev.move rfl) ?_
    refine Lst.nil ?_
    refine At.then ?_
    refine Cd.block ?_
    refine Cd.bound (Rd.le (α := BitVec 16) (xs := a0) (by decide) (hs_a0.mono (FLe.trans hF5 hF13) hM)) (fun hN51 => ?_)
    obtain ⟨ol28, H, HKl28⟩ := andThen_some H
    refine Cd.loop (σ := Nat × Nat × Unit) (fun (i28, k28, _u) => [(0, Sl.v s_a0), (49, Sl.v s_a0), (50, .int .i64 (a0.length : Int)), (51, .int .i64 (i28 : Int))]) (fun (i28, k28, _u) => L) (fun _ => (fun (i28, k28, _u) => rangeM (partref_SetsErr_B2 fu a0) k28 i28 () = some ol28 ∧ i28 + k28 = a0.length)) (fun (i28, k28, _u) => k28) (0, a0.length, ()) ⟨rfl, rfl, rfl, rfl, trivial⟩ rfl ⟨H, by omega⟩ ?_
    rintro F29 ⟨i28, k28, _u⟩ hF30 ⟨H, hik28⟩
    refine Cd.as (e' := [(0, Sl.v s_a0), (49, Sl.v s_a0), (50, .int .i64 (a0.length : Int)), (51, .int .i64 (i28 : Int))]) (L' := L) ⟨rfl, rfl, rfl, rfl, trivial⟩ rfl ?_
    rcases k28 with _ | k28
    · have hc28 : decide ((i28 : Int) < (a0.length : Int)) = false := decide_eq_false (by omega)
      replace H := rangeM_end H
      refine Cd.seq ?_
      refine Cd.region ?_
      refine Lst.run rfl rfl (by decide) (Ev.lss rfl rfl) ?_
      refine Lst.nil ?_
      refine At.then ?_
      refine Cd.seq ?_
      refine Cd.condF rfl hc28 ?_
      refine Cd.exit ?_
      refine At.then_exit ?_
      refine At.then_exit ?_
      refine At.in_exit ?_
      subst H
      replace H := HKl28
      refine At.then ?_
      refine Cd.seq ?_
      refine Cd.region ?_
      refine Lst.run rfl rfl (by decide) (Ev.assign rfl) ?_
      refine Lst.nil ?_
      refine At.then ?_
      obtain rfl := some_inj H
      refine Cd.ret ?_
      exact At.ret1 rfl (Res.tmp rfl) (FLe.trans (FLe.trans hF5 hF13) hF30) (List.Sublist.refl _) ⟨rfl, rfl⟩
    have hc28 : decide ((i28 : Int) < (a0.length : Int)) = true := decide_eq_true (by omega)
    obtain ⟨c28, H, hgo28, hbrk28, hret28⟩ := rangeM_go H
    unfold partref_SetsErr_B2 at H
    try dsimp only at H
    refine Cd.seq ?_
    refine Cd.region ?_
    refine Lst.run rfl rfl (by decide) (Ev.lss rfl rfl) ?_
    refine Lst.nil ?_
    refine At.then ?_
    refine Cd.seq ?_
    refine Cd.condT rfl hc28 ?_
    refine Cd.skip ?_
    refine At.then ?_
    refine Cd.seq ?_
    refine Cd.block ?_
    refine Cd.seq ?_
    refine Cd.region ?_
    obtain ⟨x31, h32, H⟩ := bind_some H
    have g33 := lat_some h32
    refine Lst.run rfl rfl (by decide) (Ev.indexS (α := BitVec 16) (xs := a0) rfl rfl Try.runUnderlying27 Try.sizeOf31 rfl (by decide) (hs_a0.mono (FLe.trans (FLe.trans hF5 hF13) hF30) hM) g33.1 g33.2.1) ?_
    refine Lst.run rfl rfl (by decide) (Ev.loadS (α := BitVec 16) rfl (hs_a0.mono (FLe.trans (FLe.trans hF5 hF13) hF30) hM) Try.isAgg31 (v := .int .u16 x31.toNat) ((Get.elemN (s := 1) (x := x31) rfl g33.2.2 (Get.here _)).off (by omega))) ?_
    refine Lst.run rfl rfl (by decide) (Ev.assign rfl) ?_
    refine Lst.nil ?_
    refine At.then ?_
    refine Cd.seq ?_
    refine Cd.region ?_
    refine Lst.run rfl rfl (by decide) (Ev.move rfl) ?_
    refine Lst.run rfl rfl (by decide) (Ev.lenS (α := BitVec 16) (xs := a0) (by decide) rfl rfl Try.runUnderlying27 (hs_a0.mono (FLe.trans (FLe.trans hF5 hF13) hF30) hM)) ?_
    refine Lst.run rfl rfl (by decide) (Ev.move rfl) ?_
    refine Lst.nil ?_
    refine At.then ?_
    refine Cd.block ?_
    refine Cd.bound (Rd.le (α := BitVec 16) (xs := a0) (by decide) (hs_a0.mono (FLe.trans (FLe.trans hF5 hF13) hF30) hM)) (fun hN50 => ?_)
    obtain ⟨ol34, H, HKl34⟩ := andThen_some H
    refine Cd.loop (σ := Nat × Nat × Unit) (fun (i34, k34, _u) => [(0, Sl.v s_a0), (6, .int .u16 x31.toNat), (49, Sl.v s_a0), (50, .int .i64 (a0.length : Int)), (51, .int .i64 (i28 : Int)), (55, Sl.v s_a0), (56, .int .i64 (a0.length : Int)), (57, .int .i64 (i34 : Int))]) (fun (i34, k34, _u) => L) (fun _ => (fun (i34, k34, _u) => rangeM (partref_SetsErr_B4 fu a0 x31) k34 i34 () = some ol34 ∧ i34 + k34 = a0.length)) (fun (i34, k34, _u) => k34) (0, a0.length, ()) ⟨rfl, rfl, rfl, rfl, rfl, rfl, rfl, rfl, trivial⟩ rfl ⟨H, by omega⟩ ?_
    rintro F35 ⟨i34, k34, _u⟩ hF36 ⟨H, hik34⟩
    refine Cd.as (e' := [(0, Sl.v s_a0), (6, .int .u16 x31.toNat), (49, Sl.v s_a0), (50, .int .i64 (a0.length : Int)), (51, .int .i64 (i28 : Int)), (55, Sl.v s_a0), (56, .int .i64 (a0.length : Int)), (57, .int .i64 (i34 : Int))]) (L' := L) ⟨rfl, rfl, rfl, rfl, rfl, rfl, rfl, rfl, trivial⟩ rfl ?_
    rcases k34 with _ | k34
    · have hc34 : decide ((i34 : Int) < (a0.length : Int)) = false := decide_eq_false (by omega)
      replace H := rangeM_end H
      refine Cd.seq ?_
      refine Cd.region ?_
      refine Lst.run rfl rfl (by decide) (Ev.lss rfl rfl) ?_
      refine Lst.nil ?_
      refine At.then ?_
      refine Cd.seq ?_
      refine Cd.condF rfl hc34 ?_
      refine Cd.exit ?_
      refine At.then_exit ?_
      refine At.then_exit ?_
      refine At.in_exit ?_
      subst H
      replace H := HKl34
      refine At.in_normal ?_
      refine At.then ?_
      refine Cd.region ?_
      refine Lst.run rfl rfl (by decide) (Ev.incr (by omega) rfl rfl) ?_
      refine Lst.run rfl rfl (by decide) (Ev.move rfl) ?_
      refine Lst.nil ?_
      exact At.meet (i28 + 1, k28, ()) (FLe.trans hF30 hF36) ⟨rfl, rfl, rfl, rfl, trivial⟩ rfl ⟨⟨hgo28 _ (some_inj H).symm, by omega⟩, Nat.lt_succ_self _⟩
    have hc34 : decide ((i34 : Int) < (a0.length : Int)) = true := decide_eq_true (by omega)
    obtain ⟨c34, H, hgo34, hbrk34, hret34⟩ := rangeM_go H
    unfold partref_SetsErr_B4 at H
    try dsimp only at H
    refine Cd.seq ?_
    refine Cd.region ?_
    refine Lst.run rfl rfl (by decide) (Ev.lss rfl rfl) ?_
    refine Lst.nil ?_
    refine At.then ?_
    refine Cd.seq ?_
    refine Cd.condT rfl hc34 ?_
    refine Cd.skip ?_
    refine At.then ?_
    refine Cd.seq ?_
    refine Cd.block ?_
    refine Cd.seq ?_
    refine Cd.region ?_
    obtain ⟨x37, h38, H⟩ := bind_some H
    have g39 := lat_some h38
    refine Lst.run rfl rfl (by decide) (Ev.indexS (α := BitVec 16) (xs := a0) rfl rfl Try.runUnderlying27 Try.sizeOf31 rfl (by decide) (hs_a0.mono (FLe.trans (FLe.trans (FLe.trans hF5 hF13) hF30) hF36) hM) g39.1 g39.2.1) ?_
    refine Lst.run rfl rfl (by decide) (Ev.loadS (α := BitVec 16) rfl (hs_a0.mono (FLe.trans (FLe.trans (FLe.trans hF5 hF13) hF30) hF36) hM) Try.isAgg31 (v := .int .u16 x37.toNat) ((Get.elemN (s := 1) (x := x37) rfl g39.2.2 (Get.here _)).off (by omega))) ?_
    refine Lst.run rfl rfl (by decide) (Ev.assign rfl) ?_
    refine Lst.nil ?_
    refine At.then ?_
    refine Cd.seq ?_
    refine Cd.seq ?_
    refine Cd.region ?_
    refine Lst.run rfl rfl (by decide) (Ev.move rfl) ?_
    refine Lst.run rfl rfl (by decide) (Ev.move rfl) ?_
    refine Lst.run rfl rfl (by decide) (Ev.move rfl) ?_
    refine Lst.run rfl rfl (by decide) (Ev.orU16 (i := x31) (j := x37) rfl rfl) ?_
    obtain ⟨r40, h41, H⟩ := bind_some H
    refine Lst.call1 rfl rfl (by decide) (vs := [Sl.v s_a0, .int .u16 (x31 ||| x37).toNat]) ⟨rfl, rfl, trivial⟩ Try.call51 (slices_BinarySearch_uint16_uint16_sim h41 w0 _ M _ hM (hs_a0.mono (FLe.trans (FLe.trans (FLe.trans hF5 hF13) hF30) hF36) (List.Sublist.refl _))) ?_
    refine Lst.run rfl rfl (by decide) (Ev.move rfl) ?_
    refine Lst.run rfl rfl (by decide) (Ev.extract rfl rfl) ?_
    refine Lst.run rfl rfl (by decide) (Ev.extract rfl rfl) ?_
    refine Lst.run rfl rfl (by decide) (Ev.assign rfl) ?_
    refine Lst.run rfl rfl (by decide) (Ev.assign rfl) ?_
    refine Lst.nil ?_
    refine At.then ?_
    refine Cd.seq ?_
    refine Cd.region ?_
    refine Lst.run rfl rfl (by decide) (Ev.move rfl) ?_
    refine Lst.run rfl rfl (by decide) (Ev.not rfl) ?_
    refine Lst.nil ?_
    refine At.then ?_
    rcases Bool.eq_false_or_eq_true (!r40.2) with hb44 | hb44
    · replace H := ite_t hb44 H
      refine Cd.condT rfl hb44 ?_
      refine Cd.seq ?_
      refine Cd.as (e' := []) (L' := L) trivial rfl ?_
      refine Cd.region ?_
      refine Lst.run rfl rfl (by decide) (Ev.assign rfl) ?_
      refine Lst.nil ?_
      refine At.then ?_
      have H := hret34 _ (some_inj H).symm
      subst H
      replace H := HKl34
      have H := hret28 _ (some_inj H).symm
      subst H
      replace H := HKl28
      obtain rfl := some_inj H
      refine Cd.ret ?_
      refine At.then_ret ?_
      refine At.in_ret ?_
      refine At.then_ret ?_
      refine At.then_ret ?_
      refine At.in_ret ?_
      refine At.in_ret ?_
      refine At.then_ret ?_
      refine At.then_ret ?_
      refine At.in_ret ?_
      refine At.then_ret ?_
      exact At.ret1 rfl (Res.tmp rfl) (FLe.trans (FLe.trans (FLe.trans hF5 hF13) hF30) hF36) (List.Sublist.refl _) ⟨rfl, rfl⟩
    replace H := ite_f hb44 H
    refine Cd.condF rfl hb44 ?_
    refine Cd.skip ?_
    refine At.then ?_
    refine Cd.seq ?_
    refine Cd.as (e' := [(0, Sl.v s_a0), (6, .int .u16 x31.toNat), (49, Sl.v s_a0), (50, .int .i64 (a0.length : Int)), (51, .int .i64 (i28 : Int)), (55, Sl.v s_a0), (56, .int .i64 (a0.length : Int)), (57, .int .i64 (i34 : Int)), (8, .int .u16 x37.toNat)]) (L' := L) ⟨rfl, rfl, rfl, rfl, rfl, rfl, rfl, rfl, rfl, trivial⟩ rfl ?_
    refine Cd.region ?_
    refine Lst.run rfl rfl (by decide) (Ev.move rfl) ?_
    refine Lst.run rfl rfl (by decide) (Ev.move rfl) ?_
    refine Lst.run rfl rfl (by decide) (Ev.move rfl) ?_
    refine Lst.run rfl rfl (by decide) (Ev.andU16 (i := x31) (j := x37) rfl rfl) ?_
    obtain ⟨r45, h46, H⟩ := bind_some H
    refine Lst.call1 rfl rfl (by decide) (vs := [Sl.v s_a0, .int .u16 (x31 &&& x37).toNat]) ⟨rfl, rfl, trivial⟩ Try.call51 (slices_BinarySearch_uint16_uint16_sim h46 w0 _ M _ hM (hs_a0.mono (FLe.trans (FLe.trans (FLe.trans hF5 hF13) hF30) hF36) (List.Sublist.refl _))) ?_
    refine Lst.run rfl rfl (by decide) (Ev.move rfl) ?_
    refine Lst.run rfl rfl (by decide) (Ev.extract rfl rfl) ?_
    refine Lst.run rfl rfl (by decide) (Ev.extract rfl rfl) ?_
    refine Lst.run rfl rfl (by decide) (Ev.assign rfl) ?_
    refine Lst.run rfl rfl (by decide) (Ev.assign rfl) ?_
    refine Lst.nil ?_
    refine At.then ?_
    refine Cd.seq ?_
    refine Cd.region ?_
    refine Lst.run rfl rfl (by decide) (Ev.move rfl) ?_
    refine Lst.run rfl rfl (by decide) (Ev.not rfl) ?_
    refine Lst.nil ?_
    refine At.then ?_
    rcases Bool.eq_false_or_eq_true (!r45.2) with hb49 | hb49
    · replace H := ite_t hb49 H
      refine Cd.condT rfl hb49 ?_
      refine Cd.seq ?_
      refine Cd.as (e' := []) (L' := L) trivial rfl ?_
      refine Cd.region ?_
      refine Lst.run rfl rfl (by decide) (Ev.assign rfl) ?_
      refine Lst.nil ?_
      refine At.then ?_
      have H := hret34 _ (some_inj H).symm
      subst H
      replace H := HKl34
      have H := hret28 _ (some_inj H).symm
      subst H
      replace H := HKl28
      obtain rfl := some_inj H
      refine Cd.ret ?_
      refine At.in_ret ?_
      refine At.then_ret ?_
      refine At.then_ret ?_
      refine At.in_ret ?_
      refine At.in_ret ?_
      refine At.then_ret ?_
      refine At.then_ret ?_
      refine At.in_ret ?_
      refine At.then_ret ?_
      exact At.ret1 rfl (Res.tmp rfl) (FLe.trans (FLe.trans (FLe.trans hF5 hF13) hF30) hF36) (List.Sublist.refl _) ⟨rfl, rfl⟩
    replace H := ite_f hb49 H
    refine Cd.condF rfl hb49 ?_
    refine Cd.skip ?_
    refine At.in_normal ?_
    refine At.then ?_
    refine Cd.region ?_
    refine Lst.run rfl rfl (by decide) (Ev.incr (by omega) rfl rfl) ?_
    refine Lst.run rfl rfl (by decide) (Ev.move rfl) ?_
    refine Lst.nil ?_
    exact At.meet (i34 + 1, k34, ()) hF36 ⟨rfl, rfl, rfl, rfl, rfl, rfl, rfl, rfl, trivial⟩ rfl ⟨⟨hgo34 _ (some_inj H).symm, by omega⟩, Nat.lt_succ_self _⟩
  have hc11 : decide ((i11 : Int) < (a0.length : Int)) = true := decide_eq_true (by omega)
  obtain ⟨c11, H, hgo11, hbrk11, hret11⟩ := rangeM_go H
  unfold partref_SetsErr_B0 at H
  try dsimp only at H
  refine Cd.seq ?_
  refine Cd.region ?_
  refine Lst.run rfl rfl (by decide) (Ev.lss rfl rfl) ?_
  refine Lst.nil ?_
  refine At.then ?_
  refine Cd.seq ?_
  refine Cd.condT rfl hc11 ?_
  refine Cd.skip ?_
  refine At.then ?_
  refine Cd.seq ?_
  refine Cd.block ?_
  refine Cd.seq ?_
  refine Cd.region ?_
  refine Lst.run rfl rfl (by decide) (Ev.move rfl) ?_
  obtain ⟨x14, h15, H⟩ := bind_some H
  have g16 := lat_some h15
  refine Lst.run rfl rfl (by decide) (Ev.indexS (α := BitVec 16) (xs := a0) rfl rfl Try.runUnderlying27 Try.sizeOf31 rfl (by decide) (hs_a0.mono (FLe.trans hF5 hF13) hM) g16.1 g16.2.1) ?_
  refine Lst.run rfl rfl (by decide) (Ev.loadS (α := BitVec 16) rfl (hs_a0.mono (FLe.trans hF5 hF13) hM) Try.isAgg31 (v := .int .u16 x14.toNat) ((Get.elemN (s := 1) (x := x14) rfl g16.2.2 (Get.here _)).off (by omega))) ?_
  refine Lst.run rfl rfl (by decide) (Ev.assign rfl) ?_
  refine Lst.run rfl rfl (by decide) (Ev.assign rfl) ?_
  refine Lst.nil ?_
  refine At.then ?_
  refine Cd.seq ?_
  refine Cd.seq ?_
  refine Cd.region ?_
  refine Lst.run rfl rfl (by decide) (Ev.move rfl) ?_
  refine Lst.run rfl rfl (by decide) (Ev.gtr rfl rfl) ?_
  refine Lst.nil ?_
  refine At.then ?_
  rcases Bool.eq_false_or_eq_true (decide ((x14.toNat : Int) > ((4095 : BitVec 16).toNat : Int))) with hb17 | hb17
  · replace H := ite_t hb17 H
    refine Cd.condT rfl hb17 ?_
    refine Cd.seq ?_
    refine Cd.region ?_
    refine Lst.run rfl rfl (by decide) (Ev.assign rfl) ?_
    refine Lst.nil ?_
    refine At.then ?_
    have H := hret11 _ (some_inj H).symm
    subst H
    replace H := HKl11
    obtain rfl := some_inj H
    refine Cd.ret ?_
    refine At.then_ret ?_
    refine At.in_ret ?_
    refine At.then_ret ?_
    refine At.then_ret ?_
    refine At.in_ret ?_
    refine At.then_ret ?_
    exact At.ret1 rfl (Res.tmp rfl) (FLe.trans hF5 hF13) (List.Sublist.refl _) ⟨rfl, rfl⟩
  replace H := ite_f hb17 H
  refine Cd.condF rfl hb17 ?_
  refine Cd.skip ?_
  refine At.then ?_
  refine Cd.seq ?_
  refine Cd.region ?_
  refine Lst.run rfl rfl (by decide) (Ev.move rfl) ?_
  refine Lst.run rfl rfl (by decide) (Ev.gtr rfl rfl) ?_
  refine Lst.run rfl rfl (by decide) (Ev.move rfl) ?_
  obtain ⟨o18, H, HKo18⟩ := bind_some H
  refine Lst.join (σ := Bool) 8 (fun y19 => [(0, Sl.v s_a0), (25, Sl.v s_a0), (26, .int .i64 (a0.length : Int)), (27, .int .i64 (i11 : Int)), (44, .bool y19)]) (fun y19 => L) (fun _ y19 => y19 = o18) ?_ ?_
  · rcases (Bool.eq_false_or_eq_true (decide ((i11 : Int) > (0 : Int)))).symm with hb20 | hb20
    · replace H := ite_f hb20 H
      refine Lst.skip rfl rfl rfl hb20 rfl (by decide) ?_
      refine Lst.skip rfl rfl rfl hb20 rfl (by decide) ?_
      refine Lst.skip rfl rfl rfl hb20 rfl (by decide) ?_
      refine Lst.skip rfl rfl rfl hb20 rfl (by decide) ?_
      refine Lst.skip rfl rfl rfl hb20 rfl (by decide) ?_
      refine Lst.skip rfl rfl rfl hb20 rfl (by decide) ?_
      refine Lst.skip rfl rfl rfl hb20 rfl (by decide) ?_
      refine Lst.run rfl rfl (by decide) (Ev.pickF rfl hb20 rfl) ?_
      refine Lst.nil ?_
      exact At.meet false (FLe.refl _) ⟨rfl, rfl, rfl, rfl, rfl, trivial⟩ rfl (some_inj H)
    replace H := ite_t hb20 H
    refine Lst.runG rfl rfl rfl hb20 rfl (by decide) (Ev.move rfl) ?_
    refine Lst.runG rfl rfl rfl hb20 rfl (by decide) (Ev.move rfl) ?_
    refine Lst.runG rfl rfl rfl hb20 rfl (by decide) (Ev.sub rfl rfl) ?_
    obtain ⟨x21, h22, H⟩ := bind_some H
    have g23 := lat_some h22
    refine Lst.runG rfl rfl rfl hb20 rfl (by decide) (Ev.indexS (α := BitVec 16) (xs := a0) rfl rfl Try.runUnderlying27 Try.sizeOf31 rfl (by decide) (hs_a0.mono (FLe.trans hF5 hF13) hM) g23.1 g23.2.1) ?_
    refine Lst.runG rfl rfl rfl hb20 rfl (by decide) (Ev.loadS (α := BitVec 16) rfl (hs_a0.mono (FLe.trans hF5 hF13) hM) Try.isAgg31 (v := .int .u16 x21.toNat) ((Get.elemN (s := 1) (x := x21) rfl g23.2.2 (Get.here _)).off (by omega))) ?_
    refine Lst.runG rfl rfl rfl hb20 rfl (by decide) (Ev.move rfl) ?_
    refine Lst.runG rfl rfl rfl hb20 rfl (by decide) (Ev.geq rfl rfl) ?_
    refine Lst.run rfl rfl (by decide) (Ev.pickT rfl hb20 rfl) ?_
    refine Lst.nil ?_
    exact At.meet (decide ((x21.toNat : Int) ≥ (x14.toNat : Int))) (FLe.refl _) ⟨rfl, rfl, rfl, rfl, rfl, trivial⟩ rfl (some_inj H)
  rintro F24 y19 hF25 hy
  subst hy
  refine Lst.as (e' := [(0, Sl.v s_a0), (25, Sl.v s_a0), (26, .int .i64 (a0.length : Int)), (27, .int .i64 (i11 : Int)), (44, .bool y19)]) (L' := L) ⟨rfl, rfl, rfl, rfl, rfl, trivial⟩ rfl ?_
  replace H := HKo18
  refine Lst.nil ?_
  refine At.then ?_
  rcases Bool.eq_false_or_eq_true y19 with hb26 | hb26
  · replace H := ite_t hb26 H
    refine Cd.condT rfl hb26 ?_
    refine Cd.seq ?_
    refine Cd.region ?_
    refine Lst.run rfl rfl (by decide) (Ev.assign rfl) ?_
    refine Lst.nil ?_
    refine At.then ?_
    have H := hret11 _ (some_inj H).symm
    subst H
    replace H := HKl11
    obtain rfl := some_inj H
    refine Cd.ret ?_
    refine At.in_ret ?_
    refine At.then_ret ?_
    refine At.then_ret ?_
    refine At.in_ret ?_
    refine At.then_ret ?_
    exact At.ret1 rfl (Res.tmp rfl) (FLe.trans (FLe.trans hF5 hF13) hF25) (List.Sublist.refl _) ⟨rfl, rfl⟩
  replace H := ite_f hb26 H
  refine Cd.condF rfl hb26 ?_
  refine Cd.skip ?_
  refine At.in_normal ?_
  refine At.then ?_
  refine Cd.region ?_
  refine Lst.run rfl rfl (by decide) (Ev.incr (by omega) rfl rfl) ?_
  refine Lst.run rfl rfl (by decide) (Ev.move rfl) ?_
  refine Lst.nil ?_
  exact At.meet (i11 + 1, k11, ()) (FLe.trans hF13 hF25) ⟨rfl, rfl, rfl, rfl, trivial⟩ rfl ⟨⟨hgo11 _ (some_inj H).symm, by omega⟩, Nat.lt_succ_self _⟩
set_option maxRecDepth 20000 in
theorem partref_MapErr_sim {fu : Nat} {a0 : List (BitVec 16)} {a1 : List Int} {s_a0 : Sl} {s_a1 : Sl} {r : Int} (H : partref_MapErr fu a0 a1 = some r) (w0 : World) (F : Frz) (M L : List Item) (hM : M.Sublist L) (hs_a0 : Rd w0 F M s_a0 a0) (hs_a1 : Rd w0 F M s_a1 a1) : Ok Try.prog w0 13 [Sl.v s_a0, Sl.v s_a1] F (L) (Is (.int .i64 r) (L)) := by
  unfold partref_MapErr at H
  refine Ok.enter (m := 2) (n := 83) Try.func13 rfl rfl rfl (by decide) ?_
  refine Cd.env (e' := [(0, Sl.v s_a0), (1, Sl.v s_a1)]) rfl ?_
  refine Cd.seq ?_
  refine Cd.region ?_
  refine Lst.run rfl rfl (by decide) (Ev.assign rfl) ?_
  refine Lst.nil ?_
  refine At.then ?_
  refine Cd.seq ?_
  refine Cd.seq ?_
  refine Cd.region ?_
  refine Lst.run rfl rfl (by decide) (Ev.move rfl) ?_
  obtain ⟨r1, h2, H⟩ := bind_some H
  refine Lst.call1 rfl rfl (by decide) (vs := [Sl.v s_a0]) ⟨rfl, trivial⟩ Try.call17 (partref_SetsErr_sim h2 w0 _ M _ hM (hs_a0.mono (FLe.refl _) (List.Sublist.refl _))) ?_
  refine Lst.run rfl rfl (by decide) (Ev.assign rfl) ?_
  refine Lst.nil ?_
  refine At.then ?_
  refine Cd.seq ?_
  refine Cd.region ?_
  refine Lst.run rfl rfl (by decide) (Ev.move rfl) ?_
  refine Lst.run rfl rfl (by decide) (Ev.neq rfl rfl) ?_
  refine Lst.nil ?_
  refine At.then ?_
  rcases Bool.eq_false_or_eq_true (r1 != (0 : Int)) with hb5 | hb5
  · replace H := ite_t hb5 H
    refine Cd.condT rfl hb5 ?_
    refine Cd.seq ?_
    refine Cd.region ?_
    refine Lst.run rfl rfl (by decide) (Ev.move rfl) ?_
    refine Lst.run rfl rfl (by decide) (Ev.assign rfl) ?_
    refine Lst.nil ?_
    refine At.then ?_
    obtain rfl := some_inj H
    refine Cd.ret ?_
    refine At.then_ret ?_
    exact At.ret1 rfl (Res.tmp rfl) (FLe.refl _) (List.Sublist.refl _) ⟨rfl, rfl⟩
  replace H := ite_f hb5 H
  refine Cd.condF rfl hb5 ?_
  refine Cd.skip ?_
  refine At.then ?_
  refine Cd.seq ?_
  refine Cd.seq ?_
  refine Cd.region ?_
  refine Lst.run rfl rfl (by decide) (Ev.move rfl) ?_
  refine Lst.run rfl rfl (by decide) (Ev.lenS (α := Int) (xs := a1) (by decide) rfl rfl Try.runUnderlying34 (hs_a1.mono (FLe.refl _) hM)) ?_
  refine Lst.run rfl rfl (by decide) (Ev.move rfl) ?_
  refine Lst.run rfl rfl (by decide) (Ev.lenS (α := BitVec 16) (xs := a0) (by decide) rfl rfl Try.runUnderlying27 (hs_a0.mono (FLe.refl _) hM)) ?_
  refine Lst.run rfl rfl (by decide) (Ev.neq rfl rfl) ?_
  refine Lst.nil ?_
  refine At.then ?_
  rcases Bool.eq_false_or_eq_true ((a1.length : Int) != (a0.length : Int)) with hb6 | hb6
  · replace H := ite_t hb6 H
    refine Cd.condT rfl hb6 ?_
    refine Cd.seq ?_
    refine Cd.region ?_
    refine Lst.run rfl rfl (by decide) (Ev.assign rfl) ?_
    refine Lst.nil ?_
    refine At.then ?_
    obtain rfl := some_inj H
    refine Cd.ret ?_
    refine At.then_ret ?_
    exact At.ret1 rfl (Res.tmp rfl) (FLe.refl _) (List.Sublist.refl _) ⟨rfl, rfl⟩
  replace H := ite_f hb6 H
  refine Cd.condF rfl hb6 ?_
  refine Cd.skip ?_
  refine At.then ?_
  refine Cd.seq ?_
  refine Cd.seq ?_
  refine Cd.region ?_
  refine Lst.run rfl rfl (by decide) (Ev.move rfl) ?_
  refine Lst.run rfl rfl (by decide) (Ev.lenS (α := Int) (xs := a1) (by decide) rfl rfl Try.runUnderlying34 (hs_a1.mono (FLe.refl _) hM)) ?_
  refine Lst.run rfl rfl (by decide) (Ev.move rfl) ?_
  refine Lst.nil ?_
  refine At.then ?_
  refine Cd.block ?_
  refine Cd.bound (Rd.le (α := Int) (xs := a1) (by decide) (hs_a1.mono (FLe.refl _) hM)) (fun hN55 => ?_)
  obtain ⟨ol7, H, HKl7⟩ := andThen_some H
  refine Cd.loop (σ := Nat × Nat × Unit) (fun (i7, k7, _u) => [(0, Sl.v s_a0), (1, Sl.v s_a1), (22, Sl.v s_a1), (23, .int .i64 (a1.length : Int)), (24, .int .i64 (i7 : Int))]) (fun (i7, k7, _u) => L) (fun _ => (fun (i7, k7, _u) => rangeM (partref_MapErr_B0 a0 a1) k7 i7 () = some ol7 ∧ i7 + k7 = a1.length)) (fun (i7, k7, _u) => k7) (0, a1.length, ()) ⟨rfl, rfl, rfl, rfl, rfl, trivial⟩ rfl ⟨H, by omega⟩ ?_
  rintro F8 ⟨i7, k7, _u⟩ hF9 ⟨H, hik7⟩
  refine Cd.as (e' := [(0, Sl.v s_a0), (1, Sl.v s_a1), (22, Sl.v s_a1), (23, .int .i64 (a1.length : Int)), (24, .int .i64 (i7 : Int))]) (L' := L) ⟨rfl, rfl, rfl, rfl, rfl, trivial⟩ rfl ?_
  rcases k7 with _ | k7
  · have hc7 : decide ((i7 : Int) < (a1.length : Int)) = false := decide_eq_false (by omega)
    replace H := rangeM_end H
    refine Cd.seq ?_
    refine Cd.region ?_
    refine Lst.run rfl rfl (by decide) (Ev.lss rfl rfl) ?_
    refine Lst.nil ?_
    refine At.then ?_
    refine Cd.seq ?_
    refine Cd.condF rfl hc7 ?_
    refine Cd.exit ?_
    refine At.then_exit ?_
    refine At.then_exit ?_
    refine At.in_exit ?_
    subst H
    replace H := HKl7
    refine At.then ?_
    refine Cd.seq ?_
    refine Cd.seq ?_
    refine Cd.region ?_
    refine Lst.run rfl rfl (by decide) (Ev.move rfl) ?_
    refine Lst.run rfl rfl (by decide) (Ev.lenS (α := BitVec 16) (xs := a0) (by decide) rfl rfl Try.runUnderlying27 (hs_a0.mono hF9 hM)) ?_
    refine Lst.run rfl rfl (by decide) (Ev.move rfl) ?_
    refine Lst.nil ?_
    refine At.then ?_
    refine Cd.block ?_
    refine Cd.bound (Rd.le (α := BitVec 16) (xs := a0) (by decide) (hs_a0.mono hF9 hM)) (fun hN54 => ?_)
    obtain ⟨ol19, H, HKl19⟩ := andThen_some H
    refine Cd.loop (σ := Nat × Nat × Unit) (fun (i19, k19, _u) => [(0, Sl.v s_a0), (1, Sl.v s_a1), (37, Sl.v s_a0), (38, .int .i64 (a0.length : Int)), (39, .int .i64 (i19 : Int))]) (fun (i19, k19, _u) => L) (fun _ => (fun (i19, k19, _u) => rangeM (partref_MapErr_B2 a0 a1) k19 i19 () = some ol19 ∧ i19 + k19 = a0.length)) (fun (i19, k19, _u) => k19) (0, a0.length, ()) ⟨rfl, rfl, rfl, rfl, rfl, trivial⟩ rfl ⟨H, by omega⟩ ?_
    rintro F20 ⟨i19, k19, _u⟩ hF21 ⟨H, hik19⟩
    refine Cd.as (e' := [(0, Sl.v s_a0), (1, Sl.v s_a1), (37, Sl.v s_a0), (38, .int .i64 (a0.length : Int)), (39, .int .i64 (i19 : Int))]) (L' := L) ⟨rfl, rfl, rfl, rfl, rfl, trivial⟩ rfl ?_
    rcases k19 with _ | k19
    · have hc19 : decide ((i19 : Int) < (a0.length : Int)) = false := decide_eq_false (by omega)
      replace H := rangeM_end H
      refine Cd.seq ?_
      refine Cd.region ?_
      refine Lst.run rfl rfl (by decide) (Ev.lss rfl rfl) ?_
      refine Lst.nil ?_
      refine At.then ?_
      refine Cd.seq ?_
      refine Cd.condF rfl hc19 ?_
      refine Cd.exit ?_
      refine At.then_exit ?_
      refine At.then_exit ?_
      refine At.in_exit ?_
      subst H
      replace H := HKl19
      refine At.then ?_
      refine Cd.seq ?_
      refine Cd.region ?_
      refine Lst.run rfl rfl (by decide) (Ev.assign rfl) ?_
      refine Lst.nil ?_
      refine At.then ?_
      obtain rfl := some_inj H
      refine Cd.ret ?_
      exact At.ret1 rfl (Res.tmp rfl) (FLe.trans hF9 hF21) (List.Sublist.refl _) ⟨rfl, rfl⟩
    have hc19 : decide ((i19 : Int) < (a0.length : Int)) = true := decide_eq_true (by omega)
    obtain ⟨c19, H, hgo19, hbrk19, hret19⟩ := rangeM_go H
    unfold partref_MapErr_B2 at H
    try dsimp only at H
    refine Cd.seq ?_
    refine Cd.region ?_
    refine Lst.run rfl rfl (by decide) (Ev.lss rfl rfl) ?_
    refine Lst.nil ?_
    refine At.then ?_
    refine Cd.seq ?_
    refine Cd.condT rfl hc19 ?_
    refine Cd.skip ?_
    refine At.then ?_
    refine Cd.seq ?_
    refine Cd.block ?_
    refine Cd.seq ?_
    refine Cd.region ?_
    refine Lst.run rfl rfl (by decide) (Ev.move rfl) ?_
    obtain ⟨x22, h23, H⟩ := bind_some H
    have g24 := lat_some h23
    refine Lst.run rfl rfl (by decide) (Ev.indexS (α := BitVec 16) (xs := a0) rfl rfl Try.runUnderlying27 Try.sizeOf31 rfl (by decide) (hs_a0.mono (FLe.trans hF9 hF21) hM) g24.1 g24.2.1) ?_
    refine Lst.run rfl rfl (by decide) (Ev.loadS (α := BitVec 16) rfl (hs_a0.mono (FLe.trans hF9 hF21) hM) Try.isAgg31 (v := .int .u16 x22.toNat) ((Get.elemN (s := 1) (x := x22) rfl g24.2.2 (Get.here _)).off (by omega))) ?_
    refine Lst.run rfl rfl (by decide) (Ev.assign rfl) ?_
    refine Lst.run rfl rfl (by decide) (Ev.assign rfl) ?_
    refine Lst.nil ?_
    refine At.then ?_
    refine Cd.seq ?_
    refine Cd.region ?_
    refine Lst.run rfl rfl (by decide) (Ev.move rfl) ?_
    refine Lst.run rfl rfl (by decide) (Ev.lenS (α := BitVec 16) (xs := a0) (by decide) rfl rfl Try.runUnderlying27 (hs_a0.mono (FLe.trans hF9 hF21) hM)) ?_
    refine Lst.run rfl rfl (by decide) (Ev.move rfl) ?_
    refine Lst.nil ?_
    refine At.then ?_
    refine Cd.block ?_
    refine Cd.bound (Rd.le (α := BitVec 16) (xs := a0) (by decide) (hs_a0.mono (FLe.trans hF9 hF21) hM)) (fun hN53 => ?_)
    obtain ⟨ol25, H, HKl25⟩ := andThen_some H
    refine Cd.loop (σ := Nat × Nat × Unit) (fun (i25, k25, _u) => [(0, Sl.v s_a0), (1, Sl.v s_a1), (8, .int .i64 (i19 : Int)), (9, .int .u16 x22.toNat), (37, Sl.v s_a0), (38, .int .i64 (a0.length : Int)), (39, .int .i64 (i19 : Int)), (44, Sl.v s_a0), (45, .int .i64 (a0.length : Int)), (46, .int .i64 (i25 : Int))]) (fun (i25, k25, _u) => L) (fun _ => (fun (i25, k25, _u) => rangeM (partref_MapErr_B4 a0 a1 i19 x22) k25 i25 () = some ol25 ∧ i25 + k25 = a0.length)) (fun (i25, k25, _u) => k25) (0, a0.length, ()) ⟨rfl, rfl, rfl, rfl, rfl, rfl, rfl, rfl, rfl, rfl, trivial⟩ rfl ⟨H, by omega⟩ ?_
    rintro F26 ⟨i25, k25, _u⟩ hF27 ⟨H, hik25⟩
    refine Cd.as (e' := [(0, Sl.v s_a0), (1, Sl.v s_a1), (8, .int .i64 (i19 : Int)), (9, .int .u16 x22.toNat), (37, Sl.v s_a0), (38, .int .i64 (a0.length : Int)), (39, .int .i64 (i19 : Int)), (44, Sl.v s_a0), (45, .int .i64 (a0.length : Int)), (46, .int .i64 (i25 : Int))]) (L' := L) ⟨rfl, rfl, rfl, rfl, rfl, rfl, rfl, rfl, rfl, rfl, trivial⟩ rfl ?_
    rcases k25 with _ | k25
    · have hc25 : decide ((i25 : Int) < (a0.length : Int)) = false := decide_eq_false (by omega)
      replace H := rangeM_end H
      refine Cd.seq ?_
      refine Cd.region ?_
      refine Lst.run rfl rfl (by decide) (Ev.lss rfl rfl) ?_
      refine Lst.nil ?_
      refine At.then ?_
      refine Cd.seq ?_
      refine Cd.condF rfl hc25 ?_
      refine Cd.exit ?_
      refine At.then_exit ?_
      refine At.then_exit ?_
      refine At.in_exit ?_
      subst H
      replace H := HKl25
      refine At.in_normal ?_
      refine At.then ?_
      refine Cd.region ?_
      refine Lst.run rfl rfl (by decide) (Ev.incr (by omega) rfl rfl) ?_
      refine Lst.run rfl rfl (by decide) (Ev.move rfl) ?_
      refine Lst.nil ?_
      exact At.meet (i19 + 1, k19, ()) (FLe.trans hF21 hF27) ⟨rfl, rfl, rfl, rfl, rfl, trivial⟩ rfl ⟨⟨hgo19 _ (some_inj H).symm, by omega⟩, Nat.lt_succ_self _⟩
    have hc25 : decide ((i25 : Int) < (a0.length : Int)) = true := decide_eq_true (by omega)
    obtain ⟨c25, H, hgo25, hbrk25, hret25⟩ := rangeM_go H
    unfold partref_MapErr_B4 at H
    try dsimp only at H
    refine Cd.seq ?_
    refine Cd.region ?_
    refine Lst.run rfl rfl (by decide) (Ev.lss rfl rfl) ?_
    refine Lst.nil ?_
    refine At.then ?_
    refine Cd.seq ?_
    refine Cd.condT rfl hc25 ?_
    refine Cd.skip ?_
    refine At.then ?_
    refine Cd.seq ?_
    refine Cd.block ?_
    refine Cd.seq ?_
    refine Cd.region ?_
    refine Lst.run rfl rfl (by decide) (Ev.move rfl) ?_
    obtain ⟨x28, h29, H⟩ := bind_some H
    have g30 := lat_some h29
    refine Lst.run rfl rfl (by decide) (Ev.indexS (α := BitVec 16) (xs := a0) rfl rfl Try.runUnderlying27 Try.sizeOf31 rfl (by decide) (hs_a0.mono (FLe.trans (FLe.trans hF9 hF21) hF27) hM) g30.1 g30.2.1) ?_
    refine Lst.run rfl rfl (by decide) (Ev.loadS (α := BitVec 16) rfl (hs_a0.mono (FLe.trans (FLe.trans hF9 hF21) hF27) hM) Try.isAgg31 (v := .int .u16 x28.toNat) ((Get.elemN (s := 1) (x := x28) rfl g30.2.2 (Get.here _)).off (by omega))) ?_
    refine Lst.run rfl rfl (by decide) (Ev.assign rfl) ?_
    refine Lst.run rfl rfl (by decide) (Ev.assign rfl) ?_
    refine Lst.nil ?_
    refine At.then ?_
    refine Cd.seq ?_
    refine Cd.quiet (by kernel_rfl) (by kernel_rfl) ?_
    refine Qt.run rfl rfl (by decide) (Ev.move rfl) ?_
    refine Qt.run rfl rfl (by decide) (Ev.move rfl) ?_
    refine Qt.run rfl rfl (by decide) (Ev.orU16 (i := x22) (j := x28) rfl rfl) ?_
    refine Qt.run rfl rfl (by decide) (Ev.move rfl) ?_
    refine Qt.run rfl rfl (by decide) (Ev.eql rfl rfl) ?_
    refine Qt.run rfl rfl (by decide) (Ev.move rfl) ?_
    obtain ⟨o31, H, HKo31⟩ := bind_some H
    refine Qt.join (σ := Bool) 24 (fun y32 => [(0, Sl.v s_a0), (1, Sl.v s_a1), (8, .int .i64 (i19 : Int)), (9, .int .u16 x22.toNat), (37, Sl.v s_a0), (38, .int .i64 (a0.length : Int)), (39, .int .i64 (i19 : Int)), (44, Sl.v s_a0), (45, .int .i64 (a0.length : Int)), (46, .int .i64 (i25 : Int)), (80, .bool y32)]) (fun y32 => y32 = o31) ?_ ?_
    · rcases (Bool.eq_false_or_eq_true (((x22 ||| x28).toNat : Int) == (x28.toNat : Int))).symm with hb33 | hb33
      · replace H := ite_f hb33 H
        refine Qt.skip rfl rfl rfl hb33 rfl (by decide) ?_
        refine Qt.skip rfl rfl rfl hb33 rfl (by decide) ?_
        refine Qt.skip rfl rfl rfl hb33 rfl (by decide) ?_
        refine Qt.skip rfl rfl rfl hb33 rfl (by decide) ?_
        refine Qt.skip rfl rfl rfl hb33 rfl (by decide) ?_
        refine Qt.skip rfl rfl rfl hb33 rfl (by decide) ?_
        refine Qt.skip rfl rfl rfl hb33 rfl (by decide) ?_
        refine Qt.skip rfl rfl rfl hb33 rfl (by decide) ?_
        refine Qt.skip rfl rfl rfl hb33 rfl (by decide) ?_
        refine Qt.skip rfl rfl rfl hb33 rfl (by decide) ?_
        refine Qt.skip rfl rfl rfl hb33 rfl (by decide) ?_
        refine Qt.skip rfl rfl rfl hb33 rfl (by decide) ?_
        refine Qt.skip rfl rfl rfl hb33 rfl (by decide) ?_
        refine Qt.skip rfl rfl rfl hb33 rfl (by decide) ?_
        refine Qt.skip rfl rfl rfl hb33 rfl (by decide) ?_
        refine Qt.skip rfl rfl rfl hb33 rfl (by decide) ?_
        refine Qt.skip rfl rfl rfl hb33 rfl (by decide) ?_
        refine Qt.skip rfl rfl rfl hb33 rfl (by decide) ?_
        refine Qt.skip rfl rfl rfl hb33 rfl (by decide) ?_
        refine Qt.skip rfl rfl rfl hb33 rfl (by decide) ?_
        refine Qt.skip rfl rfl rfl hb33 rfl (by decide) ?_
        refine Qt.skip rfl rfl rfl hb33 rfl (by decide) ?_
        refine Qt.skip rfl rfl rfl hb33 rfl (by decide) ?_
        refine Qt.run rfl rfl (by decide) (Ev.pickF rfl hb33 rfl) ?_
        exact Qt.meet false ⟨rfl, rfl, rfl, rfl, rfl, rfl, rfl, rfl, rfl, rfl, rfl, trivial⟩ (some_inj H)
      replace H := ite_t hb33 H
      refine Qt.runG rfl rfl rfl hb33 rfl (by decide) (Ev.move rfl) ?_
      refine Qt.runG rfl rfl rfl hb33 rfl (by decide) (Ev.move rfl) ?_
      refine Qt.runG rfl rfl rfl hb33 rfl (by decide) (Ev.move rfl) ?_
      obtain ⟨x34, h35, H⟩ := bind_some H
      have g36 := lat_some h35
      refine Qt.runG rfl rfl rfl hb33 rfl (by decide) (Ev.indexS (α := Int) (xs := a1) rfl rfl Try.runUnderlying34 Try.sizeOf3 rfl (by decide) (hs_a1.mono (FLe.trans (FLe.trans hF9 hF21) hF27) hM) g36.1 g36.2.1) ?_
      refine Qt.runG rfl rfl rfl hb33 rfl (by decide) (Ev.loadS (α := Int) rfl (hs_a1.mono (FLe.trans (FLe.trans hF9 hF21) hF27) hM) Try.isAgg3 (v := .int .i64 x34) ((Get.elemN (s := 1) (x := x34) rfl g36.2.2 (Get.here _)).off (by omega))) ?_
      obtain ⟨x37, h38, H⟩ := bind_some H
      have g39 := lat_some h38
      refine Qt.runG rfl rfl rfl hb33 rfl (by decide) (Ev.indexS (α := BitVec 16) (xs := a0) rfl rfl Try.runUnderlying27 Try.sizeOf31 rfl (by decide) (hs_a0.mono (FLe.trans (FLe.trans hF9 hF21) hF27) hM) g39.1 g39.2.1) ?_
      refine Qt.runG rfl rfl rfl hb33 rfl (by decide) (Ev.loadS (α := BitVec 16) rfl (hs_a0.mono (FLe.trans (FLe.trans hF9 hF21) hF27) hM) Try.isAgg31 (v := .int .u16 x37.toNat) ((Get.elemN (s := 1) (x := x37) rfl g39.2.2 (Get.here _)).off (by omega))) ?_
      refine Qt.runG rfl rfl rfl hb33 rfl (by decide) (Ev.move rfl) ?_
      refine Qt.runG rfl rfl rfl hb33 rfl (by decide) (Ev.move rfl) ?_
      refine Qt.runG rfl rfl rfl hb33 rfl (by decide) (Ev.move rfl) ?_
      obtain ⟨x40, h41, H⟩ := bind_some H
      have g42 := lat_some h41
      refine Qt.runG rfl rfl rfl hb33 rfl (by decide) (Ev.indexS (α := Int) (xs := a1) rfl rfl Try.runUnderlying34 Try.sizeOf3 rfl (by decide) (hs_a1.mono (FLe.trans (FLe.trans hF9 hF21) hF27) hM) g42.1 g42.2.1) ?_
      refine Qt.runG rfl rfl rfl hb33 rfl (by decide) (Ev.loadS (α := Int) rfl (hs_a1.mono (FLe.trans (FLe.trans hF9 hF21) hF27) hM) Try.isAgg3 (v := .int .i64 x40) ((Get.elemN (s := 1) (x := x40) rfl g42.2.2 (Get.here _)).off (by omega))) ?_
      obtain ⟨x43, h44, H⟩ := bind_some H
      have g45 := lat_some h44
      refine Qt.runG rfl rfl rfl hb33 rfl (by decide) (Ev.indexS (α := BitVec 16) (xs := a0) rfl rfl Try.runUnderlying27 Try.sizeOf31 rfl (by decide) (hs_a0.mono (FLe.trans (FLe.trans hF9 hF21) hF27) hM) g45.1 g45.2.1) ?_
      refine Qt.runG rfl rfl rfl hb33 rfl (by decide) (Ev.loadS (α := BitVec 16) rfl (hs_a0.mono (FLe.trans (FLe.trans hF9 hF21) hF27) hM) Try.isAgg31 (v := .int .u16 x43.toNat) ((Get.elemN (s := 1) (x := x43) rfl g45.2.2 (Get.here _)).off (by omega))) ?_
      refine Qt.runG rfl rfl rfl hb33 rfl (by decide) (Ev.orU16 (i := x37) (j := x43) rfl rfl) ?_
      refine Qt.runG rfl rfl rfl hb33 rfl (by decide) (Ev.move rfl) ?_
      refine Qt.runG rfl rfl rfl hb33 rfl (by decide) (Ev.move rfl) ?_
      refine Qt.runG rfl rfl rfl hb33 rfl (by decide) (Ev.move rfl) ?_
      obtain ⟨x46, h47, H⟩ := bind_some H
      have g48 := lat_some h47
      refine Qt.runG rfl rfl rfl hb33 rfl (by decide) (Ev.indexS (α := Int) (xs := a1) rfl rfl Try.runUnderlying34 Try.sizeOf3 rfl (by decide) (hs_a1.mono (FLe.trans (FLe.trans hF9 hF21) hF27) hM) g48.1 g48.2.1) ?_
      refine Qt.runG rfl rfl rfl hb33 rfl (by decide) (Ev.loadS (α := Int) rfl (hs_a1.mono (FLe.trans (FLe.trans hF9 hF21) hF27) hM) Try.isAgg3 (v := .int .i64 x46) ((Get.elemN (s := 1) (x := x46) rfl g48.2.2 (Get.here _)).off (by omega))) ?_
      obtain ⟨x49, h50, H⟩ := bind_some H
      have g51 := lat_some h50
      refine Qt.runG rfl rfl rfl hb33 rfl (by decide) (Ev.indexS (α := BitVec 16) (xs := a0) rfl rfl Try.runUnderlying27 Try.sizeOf31 rfl (by decide) (hs_a0.mono (FLe.trans (FLe.trans hF9 hF21) hF27) hM) g51.1 g51.2.1) ?_
      refine Qt.runG rfl rfl rfl hb33 rfl (by decide) (Ev.loadS (α := BitVec 16) rfl (hs_a0.mono (FLe.trans (FLe.trans hF9 hF21) hF27) hM) Try.isAgg31 (v := .int .u16 x49.toNat) ((Get.elemN (s := 1) (x := x49) rfl g51.2.2 (Get.here _)).off (by omega))) ?_
      refine Qt.runG rfl rfl rfl hb33 rfl (by decide) (Ev.neq rfl rfl) ?_
      refine Qt.run rfl rfl (by decide) (Ev.pickT rfl hb33 rfl) ?_
      exact Qt.meet (((x37 ||| x43).toNat : Int) != (x49.toNat : Int)) ⟨rfl, rfl, rfl, rfl, rfl, rfl, rfl, rfl, rfl, rfl, rfl, trivial⟩ (some_inj H)
    rintro y32 hy
    subst hy
    refine Qt.as (e' := [(0, Sl.v s_a0), (1, Sl.v s_a1), (8, .int .i64 (i19 : Int)), (9, .int .u16 x22.toNat), (37, Sl.v s_a0), (38, .int .i64 (a0.length : Int)), (39, .int .i64 (i19 : Int)), (44, Sl.v s_a0), (45, .int .i64 (a0.length : Int)), (46, .int .i64 (i25 : Int)), (80, .bool y32)]) ⟨rfl, rfl, rfl, rfl, rfl, rfl, rfl, rfl, rfl, rfl, rfl, trivial⟩ ?_
    replace H := HKo31
    refine Qt.done ?_
    refine At.then ?_
    rcases Bool.eq_false_or_eq_true y32 with hb52 | hb52
    · replace H := ite_t hb52 H
      refine Cd.condT rfl hb52 ?_
      refine Cd.seq ?_
      refine Cd.region ?_
      refine Lst.run rfl rfl (by decide) (Ev.assign rfl) ?_
      refine Lst.nil ?_
      refine At.then ?_
      have H := hret25 _ (some_inj H).symm
      subst H
      replace H := HKl25
      have H := hret19 _ (some_inj H).symm
      subst H
      replace H := HKl19
      obtain rfl := some_inj H
      refine Cd.ret ?_
      refine At.in_ret ?_
      refine At.then_ret ?_
      refine At.then_ret ?_
      refine At.in_ret ?_
      refine At.in_ret ?_
      refine At.then_ret ?_
      refine At.then_ret ?_
      refine At.in_ret ?_
      refine At.then_ret ?_
      exact At.ret1 rfl (Res.tmp rfl) (FLe.trans (FLe.trans hF9 hF21) hF27) (List.Sublist.refl _) ⟨rfl, rfl⟩
    replace H := ite_f hb52 H
    refine Cd.condF rfl hb52 ?_
    refine Cd.skip ?_
    refine At.in_normal ?_
    refine At.then ?_
    refine Cd.region ?_
    refine Lst.run rfl rfl (by decide) (Ev.incr (by omega) rfl rfl) ?_
    refine Lst.run rfl rfl (by decide) (Ev.move rfl) ?_
    refine Lst.nil ?_
    exact At.meet (i25 + 1, k25, ()) hF27 ⟨rfl, rfl, rfl, rfl, rfl, rfl, rfl, rfl, rfl, rfl, trivial⟩ rfl ⟨⟨hgo25 _ (some_inj H).symm, by omega⟩, Nat.lt_succ_self _⟩
  have hc7 : decide ((i7 : Int) < (a1.length : Int)) = true := decide_eq_true (by omega)
  obtain ⟨c7, H, hgo7, hbrk7, hret7⟩ := rangeM_go H
  unfold partref_MapErr_B0 at H
  try dsimp only at H
  refine Cd.seq ?_
  refine Cd.region ?_
  refine Lst.run rfl rfl (by decide) (Ev.lss rfl rfl) ?_
  refine Lst.nil ?_
  refine At.then ?_
  refine Cd.seq ?_
  refine Cd.condT rfl hc7 ?_
  refine Cd.skip ?_
  refine At.then ?_
  refine Cd.seq ?_
  refine Cd.block ?_
  refine Cd.seq ?_
  refine Cd.region ?_
  obtain ⟨x10, h11, H⟩ := bind_some H
  have g12 := lat_some h11
  refine Lst.run rfl rfl (by decide) (Ev.indexS (α := Int) (xs := a1) rfl rfl Try.runUnderlying34 Try.sizeOf3 rfl (by decide) (hs_a1.mono hF9 hM) g12.1 g12.2.1) ?_
  refine Lst.run rfl rfl (by decide) (Ev.loadS (α := Int) rfl (hs_a1.mono hF9 hM) Try.isAgg3 (v := .int .i64 x10) ((Get.elemN (s := 1) (x := x10) rfl g12.2.2 (Get.here _)).off (by omega))) ?_
  refine Lst.run rfl rfl (by decide) (Ev.assign rfl) ?_
  refine Lst.nil ?_
  refine At.then ?_
  refine Cd.seq ?_
  refine Cd.region ?_
  refine Lst.run rfl rfl (by decide) (Ev.move rfl) ?_
  refine Lst.run rfl rfl (by decide) (Ev.lss rfl rfl) ?_
  refine Lst.run rfl rfl (by decide) (Ev.move rfl) ?_
  obtain ⟨o13, H, HKo13⟩ := bind_some H
  refine Lst.join (σ := Bool) 5 (fun y14 => [(0, Sl.v s_a0), (1, Sl.v s_a1), (22, Sl.v s_a1), (23, .int .i64 (a1.length : Int)), (24, .int .i64 (i7 : Int)), (35, .bool y14)]) (fun y14 => L) (fun _ y14 => y14 = o13) ?_ ?_
  · rcases Bool.eq_false_or_eq_true (decide (x10 < (0 : Int))) with hb15 | hb15
    · replace H := ite_t hb15 H
      refine Lst.skip rfl rfl rfl hb15 rfl (by decide) ?_
      refine Lst.skip rfl rfl rfl hb15 rfl (by decide) ?_
      refine Lst.skip rfl rfl rfl hb15 rfl (by decide) ?_
      refine Lst.skip rfl rfl rfl hb15 rfl (by decide) ?_
      refine Lst.run rfl rfl (by decide) (Ev.pickT rfl hb15 rfl) ?_
      refine Lst.nil ?_
      exact At.meet true (FLe.refl _) ⟨rfl, rfl, rfl, rfl, rfl, rfl, trivial⟩ rfl (some_inj H)
    replace H := ite_f hb15 H
    refine Lst.runG rfl rfl rfl hb15 rfl (by decide) (Ev.move rfl) ?_
    refine Lst.runG rfl rfl rfl hb15 rfl (by decide) (Ev.move rfl) ?_
    refine Lst.runG rfl rfl rfl hb15 rfl (by decide) (Ev.lenS (α := BitVec 16) (xs := a0) (by decide) rfl rfl Try.runUnderlying27 (hs_a0.mono hF9 hM)) ?_
    refine Lst.runG rfl rfl rfl hb15 rfl (by decide) (Ev.geq rfl rfl) ?_
    refine Lst.run rfl rfl (by decide) (Ev.pickF rfl hb15 rfl) ?_
    refine Lst.nil ?_
    exact At.meet (decide (x10 ≥ (a0.length : Int))) (FLe.refl _) ⟨rfl, rfl, rfl, rfl, rfl, rfl, trivial⟩ rfl (some_inj H)
  rintro F16 y14 hF17 hy
  subst hy
  refine Lst.as (e' := [(0, Sl.v s_a0), (1, Sl.v s_a1), (22, Sl.v s_a1), (23, .int .i64 (a1.length : Int)), (24, .int .i64 (i7 : Int)), (35, .bool y14)]) (L' := L) ⟨rfl, rfl, rfl, rfl, rfl, rfl, trivial⟩ rfl ?_
  replace H := HKo13
  refine Lst.nil ?_
  refine At.then ?_
  rcases Bool.eq_false_or_eq_true y14 with hb18 | hb18
  · replace H := ite_t hb18 H
    refine Cd.condT rfl hb18 ?_
    refine Cd.seq ?_
    refine Cd.region ?_
    refine Lst.run rfl rfl (by decide) (Ev.assign rfl) ?_
    refine Lst.nil ?_
    refine At.then ?_
    have H := hret7 _ (some_inj H).symm
    subst H
    replace H := HKl7
    obtain rfl := some_inj H
    refine Cd.ret ?_
    refine At.in_ret ?_
    refine At.then_ret ?_
    refine At.then_ret ?_
    refine At.in_ret ?_
    refine At.then_ret ?_
    exact At.ret1 rfl (Res.tmp rfl) (FLe.trans hF9 hF17) (List.Sublist.refl _) ⟨rfl, rfl⟩
  replace H := ite_f hb18 H
  refine Cd.condF rfl hb18 ?_
  refine Cd.skip ?_
  refine At.in_normal ?_
  refine At.then ?_
  refine Cd.region ?_
  refine Lst.run rfl rfl (by decide) (Ev.incr (by omega) rfl rfl) ?_
  refine Lst.run rfl rfl (by decide) (Ev.move rfl) ?_
  refine Lst.nil ?_
  exact At.meet (i7 + 1, k7, ()) (FLe.trans hF9 hF17) ⟨rfl, rfl, rfl, rfl, rfl, trivial⟩ rfl ⟨⟨hgo7 _ (some_inj H).symm, by omega⟩, Nat.lt_succ_self _⟩
set_option maxRecDepth 20000 in
theorem lat_indices_sim {a0 : List (BitVec 16)} {s_a0 : Sl} {r : (List ((BitVec 16) × Int))} (H : lat_indices a0 = some r) (w0 : World) (F : Frz) (M L : List Item) (hM : M.Sublist L) (hs_a0 : Rd w0 F M s_a0 a0) : Ok Try.prog w0 52 [Sl.v s_a0] F (L) (fun _ L' v => ∃ (b13 : Nat), v = .map (some b13) ∧ L' = (mitem b13 (fun x : BitVec 16 => (.int .u16 x.toNat : Value)) (fun x : Int => (.int .i64 x : Value)) r) :: L) := by
  unfold lat_indices at H
  refine Ok.enter (m := 1) (n := 19) Try.func52 rfl rfl rfl (by decide) ?_
  refine Cd.env (e' := [(0, Sl.v s_a0)]) rfl ?_
  refine Cd.seq ?_
  refine Cd.region ?_
  refine Lst.run rfl rfl (by decide) (Ev.assign rfl) ?_
  refine Lst.nil ?_
  refine At.then ?_
  refine Cd.seq ?_
  refine Cd.region ?_
  refine Lst.makeMap (fun x : BitVec 16 => (.int .u16 x.toNat : Value)) (fun x : Int => (.int .i64 x : Value)) rfl rfl (by decide) (fun b1 => ?_)
  refine Lst.run rfl rfl (by decide) (Ev.assign rfl) ?_
  refine Lst.nil ?_
  refine At.then ?_
  refine Cd.seq ?_
  refine Cd.seq ?_
  refine Cd.region ?_
  refine Lst.run rfl rfl (by decide) (Ev.move rfl) ?_
  refine Lst.run rfl rfl (by decide) (Ev.lenS (α := BitVec 16) (xs := a0) (by decide) rfl rfl Try.runUnderlying27 (hs_a0.mono (FLe.refl _) (List.Sublist.cons _ hM))) ?_
  refine Lst.run rfl rfl (by decide) (Ev.move rfl) ?_
  refine Lst.nil ?_
  refine At.then ?_
  refine Cd.block ?_
  refine Cd.bound (Rd.le (α := BitVec 16) (xs := a0) (by decide) (hs_a0.mono (FLe.refl _) (List.Sublist.cons _ hM))) (fun hN12 => ?_)
  obtain ⟨ol3, H, HKl3⟩ := bind_some H
  refine Cd.loop (σ := Nat × Nat × (List ((BitVec 16) × Int))) (fun (i3, k3, l4) => [(3, .map (some b1)), (7, Sl.v s_a0), (8, .int .i64 (a0.length : Int)), (9, .int .i64 (i3 : Int))]) (fun (i3, k3, l4) => (mitem b1 (fun x : BitVec 16 => (.int .u16 x.toNat : Value)) (fun x : Int => (.int .i64 x : Value)) l4) :: L) (fun _ => (fun (i3, k3, l4) => rangeF (lat_indices_B0 a0) k3 i3 l4 = some ol3 ∧ i3 + k3 = a0.length)) (fun (i3, k3, l4) => k3) (0, a0.length, ([] : List ((BitVec 16) × Int))) ⟨rfl, rfl, rfl, rfl, trivial⟩ rfl ⟨H, by omega⟩ ?_
  rintro F5 ⟨i3, k3, l4⟩ hF6 ⟨H, hik3⟩
  refine Cd.as (e' := [(3, .map (some b1)), (7, Sl.v s_a0), (8, .int .i64 (a0.length : Int)), (9, .int .i64 (i3 : Int))]) (L' := (mitem b1 (fun x : BitVec 16 => (.int .u16 x.toNat : Value)) (fun x : Int => (.int .i64 x : Value)) l4) :: L) ⟨rfl, rfl, rfl, rfl, trivial⟩ rfl ?_
  rcases k3 with _ | k3
  · have hc3 : decide ((i3 : Int) < (a0.length : Int)) = false := decide_eq_false (by omega)
    replace H := rangeF_end H
    refine Cd.seq ?_
    refine Cd.region ?_
    refine Lst.run rfl rfl (by decide) (Ev.lss rfl rfl) ?_
    refine Lst.nil ?_
    refine At.then ?_
    refine Cd.seq ?_
    refine Cd.condF rfl hc3 ?_
    refine Cd.exit ?_
    refine At.then_exit ?_
    refine At.then_exit ?_
    refine At.in_exit ?_
    subst H
    replace H := HKl3
    refine At.then ?_
    refine Cd.seq ?_
    refine Cd.region ?_
    refine Lst.run rfl rfl (by decide) (Ev.move rfl) ?_
    refine Lst.run rfl rfl (by decide) (Ev.assign rfl) ?_
    refine Lst.nil ?_
    refine At.then ?_
    obtain rfl := some_inj H
    refine Cd.ret ?_
    exact At.ret1 rfl (Res.tmp rfl) hF6 (List.Sublist.cons_cons _ (List.Sublist.refl _)) ⟨b1, rfl, rfl⟩
  have hc3 : decide ((i3 : Int) < (a0.length : Int)) = true := decide_eq_true (by omega)
  obtain ⟨c3, H, hgo3⟩ := rangeF_go H
  unfold lat_indices_B0 at H
  try dsimp only at H
  refine Cd.seq ?_
  refine Cd.region ?_
  refine Lst.run rfl rfl (by decide) (Ev.lss rfl rfl) ?_
  refine Lst.nil ?_
  refine At.then ?_
  refine Cd.seq ?_
  refine Cd.condT rfl hc3 ?_
  refine Cd.skip ?_
  refine At.then ?_
  refine Cd.seq ?_
  refine Cd.block ?_
  refine Cd.seq ?_
  refine Cd.region ?_
  refine Lst.run rfl rfl (by decide) (Ev.move rfl) ?_
  obtain ⟨x7, h8, H⟩ := bind_some H
  have g9 := lat_some h8
  refine Lst.run rfl rfl (by decide) (Ev.indexS (α := BitVec 16) (xs := a0) rfl rfl Try.runUnderlying27 Try.sizeOf31 rfl (by decide) (hs_a0.mono hF6 (List.Sublist.cons _ hM)) g9.1 g9.2.1) ?_
  refine Lst.run rfl rfl (by decide) (Ev.loadS (α := BitVec 16) rfl (hs_a0.mono hF6 (List.Sublist.cons _ hM)) Try.isAgg31 (v := .int .u16 x7.toNat) ((Get.elemN (s := 1) (x := x7) rfl g9.2.2 (Get.here _)).off (by omega))) ?_
  refine Lst.run rfl rfl (by decide) (Ev.assign rfl) ?_
  refine Lst.run rfl rfl (by decide) (Ev.assign rfl) ?_
  refine Lst.nil ?_
  refine At.then ?_
  refine Cd.region ?_
  refine Lst.run rfl rfl (by decide) (Ev.move rfl) ?_
  refine Lst.run rfl rfl (by decide) (Ev.move rfl) ?_
  refine Lst.run rfl rfl (by decide) (Ev.move rfl) ?_
  obtain ⟨m10, h11, H⟩ := Let_some H
  refine Lst.mapUpdate (i := 0) (kf := (fun x : BitVec 16 => (.int .u16 x.toNat : Value))) (vf := (fun x : Int => (.int .i64 x : Value))) (m := l4) (k := x7) (v := (i3 : Int)) rfl rfl rfl rfl rfl rfl (KeyOk.u16 Try.runUnderlying31) Try.runUnderlying85 ?_
  refine Lst.its (L' := (mitem b1 (fun x : BitVec 16 => (.int .u16 x.toNat : Value)) (fun x : Int => (.int .i64 x : Value)) m10) :: L) (by rw [← h11]; rfl) ?_
  refine Lst.nil ?_
  refine At.in_normal ?_
  refine At.then ?_
  refine Cd.region ?_
  refine Lst.run rfl rfl (by decide) (Ev.incr (by omega) rfl rfl) ?_
  refine Lst.run rfl rfl (by decide) (Ev.move rfl) ?_
  refine Lst.nil ?_
  exact At.meet (i3 + 1, k3, m10) hF6 ⟨rfl, rfl, rfl, rfl, trivial⟩ rfl ⟨⟨hgo3 _ (some_inj H).symm, by omega⟩, Nat.lt_succ_self _⟩
set_option maxRecDepth 20000 in
theorem lat_Check_sim {a0 : List (BitVec 16)} {s_a0 : Sl} {r : Int} (H : lat_Check a0 = some r) (w0 : World) (F : Frz) (M L : List Item) (hM : M.Sublist L) (hs_a0 : Rd w0 F M s_a0 a0) : Ok Try.prog w0 21 [Sl.v s_a0] F (L) (Is (.int .i64 r) (L)) := by
  unfold lat_Check at H
  refine Ok.enter (m := 1) (n := 91) Try.func21 rfl rfl rfl (by decide) ?_
  refine Cd.env (e' := [(0, Sl.v s_a0)]) rfl ?_
  refine Cd.seq ?_
  refine Cd.region ?_
  refine Lst.run rfl rfl (by decide) (Ev.assign rfl) ?_
  refine Lst.nil ?_
  refine At.then ?_
  refine Cd.seq ?_
  refine Cd.seq ?_
  refine Cd.region ?_
  refine Lst.run rfl rfl (by decide) (Ev.move rfl) ?_
  refine Lst.run rfl rfl (by decide) (Ev.lenS (α := BitVec 16) (xs := a0) (by decide) rfl rfl Try.runUnderlying27 (hs_a0.mono (FLe.refl _) hM)) ?_
  refine Lst.run rfl rfl (by decide) (Ev.lss rfl rfl) ?_
  refine Lst.run rfl rfl (by decide) (Ev.move rfl) ?_
  obtain ⟨o1, H, HKo1⟩ := bind_some H
  refine Lst.join (σ := Bool) 4 (fun y2 => [(0, Sl.v s_a0), (21, .bool y2)]) (fun y2 => L) (fun _ y2 => y2 = o1) ?_ ?_
  · rcases Bool.eq_false_or_eq_true (decide ((a0.length : Int) < (1 : Int))) with hb3 | hb3
    · replace H := ite_t hb3 H
      refine Lst.skip rfl rfl rfl hb3 rfl (by decide) ?_
      refine Lst.skip rfl rfl rfl hb3 rfl (by decide) ?_
      refine Lst.skip rfl rfl rfl hb3 rfl (by decide) ?_
      refine Lst.run rfl rfl (by decide) (Ev.pickT rfl hb3 rfl) ?_
      refine Lst.nil ?_
      exact At.meet true (FLe.refl _) ⟨rfl, rfl, trivial⟩ rfl (some_inj H)
    replace H := ite_f hb3 H
    refine Lst.runG rfl rfl rfl hb3 rfl (by decide) (Ev.move rfl) ?_
    refine Lst.runG rfl rfl rfl hb3 rfl (by decide) (Ev.lenS (α := BitVec 16) (xs := a0) (by decide) rfl rfl Try.runUnderlying27 (hs_a0.mono (FLe.refl _) hM)) ?_
    refine Lst.runG rfl rfl rfl hb3 rfl (by decide) (Ev.gtr rfl rfl) ?_
    refine Lst.run rfl rfl (by decide) (Ev.pickF rfl hb3 rfl) ?_
    refine Lst.nil ?_
    exact At.meet (decide ((a0.length : Int) > (4096 : Int))) (FLe.refl _) ⟨rfl, rfl, trivial⟩ rfl (some_inj H)
  rintro F4 y2 hF5 hy
  subst hy
  refine Lst.as (e' := [(0, Sl.v s_a0), (21, .bool y2)]) (L' := L) ⟨rfl, rfl, trivial⟩ rfl ?_
  replace H := HKo1
  refine Lst.nil ?_
  refine At.then ?_
  rcases Bool.eq_false_or_eq_true y2 with hb6 | hb6
  · replace H := ite_t hb6 H
    refine Cd.condT rfl hb6 ?_
    refine Cd.seq ?_
    refine Cd.region ?_
    refine Lst.run rfl rfl (by decide) (Ev.assign rfl) ?_
    refine Lst.nil ?_
    refine At.then ?_
    obtain rfl := some_inj H
    refine Cd.ret ?_
    refine At.then_ret ?_
    exact At.ret1 rfl (Res.tmp rfl) hF5 (List.Sublist.refl _) ⟨rfl, rfl⟩
  replace H := ite_f hb6 H
  refine Cd.condF rfl hb6 ?_
  refine Cd.skip ?_
  refine At.then ?_
  refine Cd.seq ?_
  refine Cd.seq ?_
  refine Cd.region ?_
  refine Lst.run rfl rfl (by decide) (Ev.move rfl) ?_
  obtain ⟨x7, h8, H⟩ := bind_some H
  have g9 := lat_some h8
  refine Lst.run rfl rfl (by decide) (Ev.indexS (α := BitVec 16) (xs := a0) rfl rfl Try.runUnderlying27 Try.sizeOf31 rfl (by decide) (hs_a0.mono hF5 hM) g9.1 g9.2.1) ?_
  refine Lst.run rfl rfl (by decide) (Ev.loadS (α := BitVec 16) rfl (hs_a0.mono hF5 hM) Try.isAgg31 (v := .int .u16 x7.toNat) ((Get.elemN (s := 1) (x := x7) rfl g9.2.2 (Get.here _)).off (by omega))) ?_
  refine Lst.run rfl rfl (by decide) (Ev.neq rfl rfl) ?_
  refine Lst.nil ?_
  refine At.then ?_
  rcases Bool.eq_false_or_eq_true ((x7.toNat : Int) != ((0 : BitVec 16).toNat : Int)) with hb10 | hb10
  · replace H := ite_t hb10 H
    refine Cd.condT rfl hb10 ?_
    refine Cd.seq ?_
    refine Cd.region ?_
    refine Lst.run rfl rfl (by decide) (Ev.assign rfl) ?_
    refine Lst.nil ?_
    refine At.then ?_
    obtain rfl := some_inj H
    refine Cd.ret ?_
    refine At.then_ret ?_
    exact At.ret1 rfl (Res.tmp rfl) hF5 (List.Sublist.refl _) ⟨rfl, rfl⟩
  replace H := ite_f hb10 H
  refine Cd.condF rfl hb10 ?_
  refine Cd.skip ?_
  refine At.then ?_
  refine Cd.seq ?_
  refine Cd.seq ?_
  refine Cd.region ?_
  refine Lst.run rfl rfl (by decide) (Ev.move rfl) ?_
  refine Lst.run rfl rfl (by decide) (Ev.lenS (α := BitVec 16) (xs := a0) (by decide) rfl rfl Try.runUnderlying27 (hs_a0.mono hF5 hM)) ?_
  refine Lst.run rfl rfl (by decide) (Ev.move rfl) ?_
  refine Lst.nil ?_
  refine At.then ?_
  refine Cd.block ?_
  refine Cd.bound (Rd.le (α := BitVec 16) (xs := a0) (by decide) (hs_a0.mono hF5 hM)) (fun hN54 => ?_)
  obtain ⟨ol11, H, HKl11⟩ := andThen_some H
  refine Cd.loop (σ := Nat × Nat × Unit) (fun (i11, k11, _u) => [(0, Sl.v s_a0), (26, Sl.v s_a0), (27, .int .i64 (a0.length : Int)), (28, .int .i64 (i11 : Int))]) (fun (i11, k11, _u) => L) (fun _ => (fun (i11, k11, _u) => rangeM (lat_Check_B0 a0) k11 i11 () = some ol11 ∧ i11 + k11 = a0.length)) (fun (i11, k11, _u) => k11) (0, a0.length, ()) ⟨rfl, rfl, rfl, rfl, trivial⟩ rfl ⟨H, by omega⟩ ?_
  rintro F12 ⟨i11, k11, _u⟩ hF13 ⟨H, hik11⟩
  refine Cd.as (e' := [(0, Sl.v s_a0), (26, Sl.v s_a0), (27, .int .i64 (a0.length : Int)), (28, .int .i64 (i11 : Int))]) (L' := L) ⟨rfl, rfl, rfl, rfl, trivial⟩ rfl ?_
  rcases k11 with _ | k11
  · have hc11 : decide ((i11 : Int) < (a0.length : Int)) = false := decide_eq_false (by omega)
    replace H := rangeM_end H
    refine Cd.seq ?_
    refine Cd.region ?_
    refine Lst.run rfl rfl (by decide) (Ev.lss rfl rfl) ?_
    refine Lst.nil ?_
    refine At.then ?_
    refine Cd.seq ?_
    refine Cd.condF rfl hc11 ?_
    refine Cd.exit ?_
    refine At.then_exit ?_
    refine At.then_exit ?_
    refine At.in_exit ?_
    subst H
    replace H := HKl11
    refine At.then ?_
    refine Cd.seq ?_
    refine Cd.seq ?_
    refine Cd.region ?_
    refine Lst.run rfl rfl (by decide) (Ev.move rfl) ?_
    refine Lst.run rfl rfl (by decide) (Ev.lenS (α := BitVec 16) (xs := a0) (by decide) rfl rfl Try.runUnderlying27 (hs_a0.mono (FLe.trans hF5 hF13) hM)) ?_
    refine Lst.run rfl rfl (by decide) (Ev.gtr rfl rfl) ?_
    refine Lst.nil ?_
    refine At.then ?_
    rcases Bool.eq_false_or_eq_true (decide ((a0.length : Int) > (300 : Int))) with hb27 | hb27
    · replace H := ite_t hb27 H
      refine Cd.condT rfl hb27 ?_
      refine Cd.seq ?_
      refine Cd.region ?_
      refine Lst.run rfl rfl (by decide) (Ev.assign rfl) ?_
      refine Lst.nil ?_
      refine At.then ?_
      obtain rfl := some_inj H
      refine Cd.ret ?_
      refine At.then_ret ?_
      exact At.ret1 rfl (Res.tmp rfl) (FLe.trans hF5 hF13) (List.Sublist.refl _) ⟨rfl, rfl⟩
    replace H := ite_f hb27 H
    refine Cd.condF rfl hb27 ?_
    refine Cd.skip ?_
    refine At.then ?_
    refine Cd.seq ?_
    refine Cd.region ?_
    refine Lst.run rfl rfl (by decide) (Ev.move rfl) ?_
    obtain ⟨r28, h29, H⟩ := bind_some H
    refine Lst.call rfl rfl (by decide) (vs := [Sl.v s_a0]) ⟨rfl, trivial⟩ Try.call52 (lat_indices_sim h29 w0 _ M _ hM (hs_a0.mono (FLe.trans hF5 hF13) (List.Sublist.refl _))) (fun F32 L' v hF33 hv => ?_)
    obtain ⟨b30, rfl, rfl⟩ := hv
    refine Lst.run rfl rfl (by decide) (Ev.assign rfl) ?_
    refine Lst.nil ?_
    refine At.then ?_
    refine Cd.seq ?_
    refine Cd.seq ?_
    refine Cd.region ?_
    refine Lst.run rfl rfl (by decide) (Ev.move rfl) ?_
    refine Lst.run rfl rfl (by decide) (Ev.lenS (α := BitVec 16) (xs := a0) (by decide) rfl rfl Try.runUnderlying27 (hs_a0.mono (FLe.trans (FLe.trans hF5 hF13) hF33) (List.Sublist.cons _ hM))) ?_
    refine Lst.run rfl rfl (by decide) (Ev.move rfl) ?_
    refine Lst.nil ?_
    refine At.then ?_
    refine Cd.block ?_
    refine Cd.bound (Rd.le (α := BitVec 16) (xs := a0) (by decide) (hs_a0.mono (FLe.trans (FLe.trans hF5 hF13) hF33) (List.Sublist.cons _ hM))) (fun hN53 => ?_)
    obtain ⟨ol34, H, HKl34⟩ := andThen_some H
    refine Cd.loop (σ := Nat × Nat × Unit) (fun (i34, k34, _u) => [(0, Sl.v s_a0), (5, .map (some b30)), (55, Sl.v s_a0), (56, .int .i64 (a0.length : Int)), (57, .int .i64 (i34 : Int))]) (fun (i34, k34, _u) => (mitem b30 (fun x : BitVec 16 => (.int .u16 x.toNat : Value)) (fun x : Int => (.int .i64 x : Value)) r28) :: L) (fun _ => (fun (i34, k34, _u) => rangeM (lat_Check_B3 a0 r28) k34 i34 () = some ol34 ∧ i34 + k34 = a0.length)) (fun (i34, k34, _u) => k34) (0, a0.length, ()) ⟨rfl, rfl, rfl, rfl, rfl, trivial⟩ rfl ⟨H, by omega⟩ ?_
    rintro F35 ⟨i34, k34, _u⟩ hF36 ⟨H, hik34⟩
    refine Cd.as (e' := [(0, Sl.v s_a0), (5, .map (some b30)), (55, Sl.v s_a0), (56, .int .i64 (a0.length : Int)), (57, .int .i64 (i34 : Int))]) (L' := (mitem b30 (fun x : BitVec 16 => (.int .u16 x.toNat : Value)) (fun x : Int => (.int .i64 x : Value)) r28) :: L) ⟨rfl, rfl, rfl, rfl, rfl, trivial⟩ rfl ?_
    rcases k34 with _ | k34
    · have hc34 : decide ((i34 : Int) < (a0.length : Int)) = false := decide_eq_false (by omega)
      replace H := rangeM_end H
      refine Cd.seq ?_
      refine Cd.region ?_
      refine Lst.run rfl rfl (by decide) (Ev.lss rfl rfl) ?_
      refine Lst.nil ?_
      refine At.then ?_
      refine Cd.seq ?_
      refine Cd.condF rfl hc34 ?_
      refine Cd.exit ?_
      refine At.then_exit ?_
      refine At.then_exit ?_
      refine At.in_exit ?_
      subst H
      replace H := HKl34
      refine At.then ?_
      refine Cd.seq ?_
      refine Cd.region ?_
      refine Lst.run rfl rfl (by decide) (Ev.assign rfl) ?_
      refine Lst.nil ?_
      refine At.then ?_
      obtain rfl := some_inj H
      refine Cd.ret ?_
      exact At.ret1 rfl (Res.tmp rfl) (FLe.trans (FLe.trans (FLe.trans hF5 hF13) hF33) hF36) (List.Sublist.cons _ (List.Sublist.refl _)) ⟨rfl, rfl⟩
    have hc34 : decide ((i34 : Int) < (a0.length : Int)) = true := decide_eq_true (by omega)
    obtain ⟨c34, H, hgo34, hbrk34, hret34⟩ := rangeM_go H
    unfold lat_Check_B3 at H
    try dsimp only at H
    refine Cd.seq ?_
    refine Cd.region ?_
    refine Lst.run rfl rfl (by decide) (Ev.lss rfl rfl) ?_
    refine Lst.nil ?_
    refine At.then ?_
    refine Cd.seq ?_
    refine Cd.condT rfl hc34 ?_
    refine Cd.skip ?_
    refine At.then ?_
    refine Cd.seq ?_
    refine Cd.block ?_
    refine Cd.seq ?_
    refine Cd.region ?_
    obtain ⟨x37, h38, H⟩ := bind_some H
    have g39 := lat_some h38
    refine Lst.run rfl rfl (by decide) (Ev.indexS (α := BitVec 16) (xs := a0) rfl rfl Try.runUnderlying27 Try.sizeOf31 rfl (by decide) (hs_a0.mono (FLe.trans (FLe.trans (FLe.trans hF5 hF13) hF33) hF36) (List.Sublist.cons _ hM)) g39.1 g39.2.1) ?_
    refine Lst.run rfl rfl (by decide) (Ev.loadS (α := BitVec 16) rfl (hs_a0.mono (FLe.trans (FLe.trans (FLe.trans hF5 hF13) hF33) hF36) (List.Sublist.cons _ hM)) Try.isAgg31 (v := .int .u16 x37.toNat) ((Get.elemN (s := 1) (x := x37) rfl g39.2.2 (Get.here _)).off (by omega))) ?_
    refine Lst.run rfl rfl (by decide) (Ev.assign rfl) ?_
    refine Lst.nil ?_
    refine At.then ?_
    refine Cd.seq ?_
    refine Cd.region ?_
    refine Lst.run rfl rfl (by decide) (Ev.move rfl) ?_
    refine Lst.run rfl rfl (by decide) (Ev.lenS (α := BitVec 16) (xs := a0) (by decide) rfl rfl Try.runUnderlying27 (hs_a0.mono (FLe.trans (FLe.trans (FLe.trans hF5 hF13) hF33) hF36) (List.Sublist.cons _ hM))) ?_
    refine Lst.run rfl rfl (by decide) (Ev.move rfl) ?_
    refine Lst.nil ?_
    refine At.then ?_
    refine Cd.block ?_
    refine Cd.bound (Rd.le (α := BitVec 16) (xs := a0) (by decide) (hs_a0.mono (FLe.trans (FLe.trans (FLe.trans hF5 hF13) hF33) hF36) (List.Sublist.cons _ hM))) (fun hN52 => ?_)
    obtain ⟨ol40, H, HKl40⟩ := andThen_some H
    refine Cd.loop (σ := Nat × Nat × Unit) (fun (i40, k40, _u) => [(0, Sl.v s_a0), (5, .map (some b30)), (7, .int .u16 x37.toNat), (55, Sl.v s_a0), (56, .int .i64 (a0.length : Int)), (57, .int .i64 (i34 : Int)), (61, Sl.v s_a0), (62, .int .i64 (a0.length : Int)), (63, .int .i64 (i40 : Int))]) (fun (i40, k40, _u) => (mitem b30 (fun x : BitVec 16 => (.int .u16 x.toNat : Value)) (fun x : Int => (.int .i64 x : Value)) r28) :: L) (fun _ => (fun (i40, k40, _u) => rangeM (lat_Check_B5 a0 r28 x37) k40 i40 () = some ol40 ∧ i40 + k40 = a0.length)) (fun (i40, k40, _u) => k40) (0, a0.length, ()) ⟨rfl, rfl, rfl, rfl, rfl, rfl, rfl, rfl, rfl, trivial⟩ rfl ⟨H, by omega⟩ ?_
    rintro F41 ⟨i40, k40, _u⟩ hF42 ⟨H, hik40⟩
    refine Cd.as (e' := [(0, Sl.v s_a0), (5, .map (some b30)), (7, .int .u16 x37.toNat), (55, Sl.v s_a0), (56, .int .i64 (a0.length : Int)), (57, .int .i64 (i34 : Int)), (61, Sl.v s_a0), (62, .int .i64 (a0.length : Int)), (63, .int .i64 (i40 : Int))]) (L' := (mitem b30 (fun x : BitVec 16 => (.int .u16 x.toNat : Value)) (fun x : Int => (.int .i64 x : Value)) r28) :: L) ⟨rfl, rfl, rfl, rfl, rfl, rfl, rfl, rfl, rfl, trivial⟩ rfl ?_
    rcases k40 with _ | k40
    · have hc40 : decide ((i40 : Int) < (a0.length : Int)) = false := decide_eq_false (by omega)
      replace H := rangeM_end H
      refine Cd.seq ?_
      refine Cd.region ?_
      refine Lst.run rfl rfl (by decide) (Ev.lss rfl rfl) ?_
      refine Lst.nil ?_
      refine At.then ?_
      refine Cd.seq ?_
      refine Cd.condF rfl hc40 ?_
      refine Cd.exit ?_
      refine At.then_exit ?_
      refine At.then_exit ?_
      refine At.in_exit ?_
      subst H
      replace H := HKl40
      refine At.in_normal ?_
      refine At.then ?_
      refine Cd.region ?_
      refine Lst.run rfl rfl (by decide) (Ev.incr (by omega) rfl rfl) ?_
      refine Lst.run rfl rfl (by decide) (Ev.move rfl) ?_
      refine Lst.nil ?_
      exact At.meet (i34 + 1, k34, ()) (FLe.trans hF36 hF42) ⟨rfl, rfl, rfl, rfl, rfl, trivial⟩ rfl ⟨⟨hgo34 _ (some_inj H).symm, by omega⟩, Nat.lt_succ_self _⟩
    have hc40 : decide ((i40 : Int) < (a0.length : Int)) = true := decide_eq_true (by omega)
    obtain ⟨c40, H, hgo40, hbrk40, hret40⟩ := rangeM_go H
    unfold lat_Check_B5 at H
    try dsimp only at H
    refine Cd.seq ?_
    refine Cd.region ?_
    refine Lst.run rfl rfl (by decide) (Ev.lss rfl rfl) ?_
    refine Lst.nil ?_
    refine At.then ?_
    refine Cd.seq ?_
    refine Cd.condT rfl hc40 ?_
    refine Cd.skip ?_
    refine At.then ?_
    refine Cd.seq ?_
    refine Cd.block ?_
    refine Cd.seq ?_
    refine Cd.region ?_
    obtain ⟨x43, h44, H⟩ := bind_some H
    have g45 := lat_some h44
    refine Lst.run rfl rfl (by decide) (Ev.indexS (α := BitVec 16) (xs := a0) rfl rfl Try.runUnderlying27 Try.sizeOf31 rfl (by decide) (hs_a0.mono (FLe.trans (FLe.trans (FLe.trans (FLe.trans hF5 hF13) hF33) hF36) hF42) (List.Sublist.cons _ hM)) g45.1 g45.2.1) ?_
    refine Lst.run rfl rfl (by decide) (Ev.loadS (α := BitVec 16) rfl (hs_a0.mono (FLe.trans (FLe.trans (FLe.trans (FLe.trans hF5 hF13) hF33) hF36) hF42) (List.Sublist.cons _ hM)) Try.isAgg31 (v := .int .u16 x43.toNat) ((Get.elemN (s := 1) (x := x43) rfl g45.2.2 (Get.here _)).off (by omega))) ?_
    refine Lst.run rfl rfl (by decide) (Ev.assign rfl) ?_
    refine Lst.nil ?_
    refine At.then ?_
    refine Cd.seq ?_
    refine Cd.region ?_
    refine Lst.run rfl rfl (by decide) (Ev.move rfl) ?_
    refine Lst.run rfl rfl (by decide) (Ev.move rfl) ?_
    refine Lst.run rfl rfl (by decide) (Ev.move rfl) ?_
    refine Lst.run rfl rfl (by decide) (Ev.orU16 (i := x37) (j := x43) rfl rfl) ?_
    refine Lst.run rfl rfl (by decide) (Ev.lookup2 (i := 0) (kf := (fun x : BitVec 16 => (.int .u16 x.toNat : Value))) (vf := (fun x : Int => (.int .i64 x : Value))) (m := r28) (k := (x37 ||| x43)) (z0 := (0 : Int)) rfl rfl rfl (KeyOk.u16 Try.runUnderlying31) Try.runUnderlying85 Try.zeroValue3) ?_
    refine Lst.run rfl rfl (by decide) (Ev.move rfl) ?_
    refine Lst.run rfl rfl (by decide) (Ev.extract rfl rfl) ?_
    refine Lst.run rfl rfl (by decide) (Ev.extract rfl rfl) ?_
    refine Lst.run rfl rfl (by decide) (Ev.assign rfl) ?_
    refine Lst.run rfl rfl (by decide) (Ev.assign rfl) ?_
    refine Lst.nil ?_
    refine At.then ?_
    refine Cd.seq ?_
    refine Cd.region ?_
    refine Lst.run rfl rfl (by decide) (Ev.move rfl) ?_
    refine Lst.run rfl rfl (by decide) (Ev.move rfl) ?_
    refine Lst.run rfl rfl (by decide) (Ev.move rfl) ?_
    refine Lst.run rfl rfl (by decide) (Ev.andU16 (i := x37) (j := x43) rfl rfl) ?_
    refine Lst.run rfl rfl (by decide) (Ev.lookup2 (i := 0) (kf := (fun x : BitVec 16 => (.int .u16 x.toNat : Value))) (vf := (fun x : Int => (.int .i64 x : Value))) (m := r28) (k := (x37 &&& x43)) (z0 := (0 : Int)) rfl rfl rfl (KeyOk.u16 Try.runUnderlying31) Try.runUnderlying85 Try.zeroValue3) ?_
    refine Lst.run rfl rfl (by decide) (Ev.move rfl) ?_
    refine Lst.run rfl rfl (by decide) (Ev.extract rfl rfl) ?_
    refine Lst.run rfl rfl (by decide) (Ev.extract rfl rfl) ?_
    refine Lst.run rfl rfl (by decide) (Ev.assign rfl) ?_
    refine Lst.run rfl rfl (by decide) (Ev.assign rfl) ?_
    refine Lst.nil ?_
    refine At.then ?_
    refine Cd.seq ?_
    refine Cd.as (e' := [(0, Sl.v s_a0), (5, .map (some b30)), (7, .int .u16 x37.toNat), (55, Sl.v s_a0), (56, .int .i64 (a0.length : Int)), (57, .int .i64 (i34 : Int)), (61, Sl.v s_a0), (62, .int .i64 (a0.length : Int)), (63, .int .i64 (i40 : Int)), (11, .bool ((mget r28 (x37 ||| x43)).isSome)), (13, .bool ((mget r28 (x37 &&& x43)).isSome))]) (L' := (mitem b30 (fun x : BitVec 16 => (.int .u16 x.toNat : Value)) (fun x : Int => (.int .i64 x : Value)) r28) :: L) ⟨rfl, rfl, rfl, rfl, rfl, rfl, rfl, rfl, rfl, rfl, rfl, trivial⟩ rfl ?_
    refine Cd.region ?_
    refine Lst.run rfl rfl (by decide) (Ev.move rfl) ?_
    refine Lst.run rfl rfl (by decide) (Ev.not rfl) ?_
    refine Lst.run rfl rfl (by decide) (Ev.move rfl) ?_
    obtain ⟨o46, H, HKo46⟩ := bind_some H
    refine Lst.join (σ := Bool) 3 (fun y47 => [(0, Sl.v s_a0), (5, .map (some b30)), (7, .int .u16 x37.toNat), (55, Sl.v s_a0), (56, .int .i64 (a0.length : Int)), (57, .int .i64 (i34 : Int)), (61, Sl.v s_a0), (62, .int .i64 (a0.length : Int)), (63, .int .i64 (i40 : Int)), (88, .bool y47)]) (fun y47 => (mitem b30 (fun x : BitVec 16 => (.int .u16 x.toNat : Value)) (fun x : Int => (.int .i64 x : Value)) r28) :: L) (fun _ y47 => y47 = o46) ?_ ?_
    · rcases Bool.eq_false_or_eq_true (!((mget r28 (x37 ||| x43)).isSome)) with hb48 | hb48
      · replace H := ite_t hb48 H
        refine Lst.skip rfl rfl rfl hb48 rfl (by decide) ?_
        refine Lst.skip rfl rfl rfl hb48 rfl (by decide) ?_
        refine Lst.run rfl rfl (by decide) (Ev.pickT rfl hb48 rfl) ?_
        refine Lst.nil ?_
        exact At.meet true (FLe.refl _) ⟨rfl, rfl, rfl, rfl, rfl, rfl, rfl, rfl, rfl, rfl, trivial⟩ rfl (some_inj H)
      replace H := ite_f hb48 H
      refine Lst.runG rfl rfl rfl hb48 rfl (by decide) (Ev.move rfl) ?_
      refine Lst.runG rfl rfl rfl hb48 rfl (by decide) (Ev.not rfl) ?_
      refine Lst.run rfl rfl (by decide) (Ev.pickF rfl hb48 rfl) ?_
      refine Lst.nil ?_
      exact At.meet (!((mget r28 (x37 &&& x43)).isSome)) (FLe.refl _) ⟨rfl, rfl, rfl, rfl, rfl, rfl, rfl, rfl, rfl, rfl, trivial⟩ rfl (some_inj H)
    rintro F49 y47 hF50 hy
    subst hy
    refine Lst.as (e' := [(0, Sl.v s_a0), (5, .map (some b30)), (7, .int .u16 x37.toNat), (55, Sl.v s_a0), (56, .int .i64 (a0.length : Int)), (57, .int .i64 (i34 : Int)), (61, Sl.v s_a0), (62, .int .i64 (a0.length : Int)), (63, .int .i64 (i40 : Int)), (88, .bool y47)]) (L' := (mitem b30 (fun x : BitVec 16 => (.int .u16 x.toNat : Value)) (fun x : Int => (.int .i64 x : Value)) r28) :: L) ⟨rfl, rfl, rfl, rfl, rfl, rfl, rfl, rfl, rfl, rfl, trivial⟩ rfl ?_
    replace H := HKo46
    refine Lst.nil ?_
    refine At.then ?_
    rcases Bool.eq_false_or_eq_true y47 with hb51 | hb51
    · replace H := ite_t hb51 H
      refine Cd.condT rfl hb51 ?_
      refine Cd.seq ?_
      refine Cd.region ?_
      refine Lst.run rfl rfl (by decide) (Ev.assign rfl) ?_
      refine Lst.nil ?_
      refine At.then ?_
      have H := hret40 _ (some_inj H).symm
      subst H
      replace H := HKl40
      have H := hret34 _ (some_inj H).symm
      subst H
      replace H := HKl34
      obtain rfl := some_inj H
      refine Cd.ret ?_
      refine At.in_ret ?_
      refine At.then_ret ?_
      refine At.then_ret ?_
      refine At.in_ret ?_
      refine At.in_ret ?_
      refine At.then_ret ?_
      refine At.then_ret ?_
      refine At.in_ret ?_
      refine At.then_ret ?_
      exact At.ret1 rfl (Res.tmp rfl) (FLe.trans (FLe.trans (FLe.trans (FLe.trans (FLe.trans hF5 hF13) hF33) hF36) hF42) hF50) (List.Sublist.cons _ (List.Sublist.refl _)) ⟨rfl, rfl⟩
    replace H := ite_f hb51 H
    refine Cd.condF rfl hb51 ?_
    refine Cd.skip ?_
    refine At.in_normal ?_
    refine At.then ?_
    refine Cd.region ?_
    refine Lst.run rfl rfl (by decide) (Ev.incr (by omega) rfl rfl) ?_
    refine Lst.run rfl rfl (by decide) (Ev.move rfl) ?_
    refine Lst.nil ?_
    exact At.meet (i40 + 1, k40, ()) (FLe.trans hF42 hF50) ⟨rfl, rfl, rfl, rfl, rfl, rfl, rfl, rfl, rfl, trivial⟩ rfl ⟨⟨hgo40 _ (some_inj H).symm, by omega⟩, Nat.lt_succ_self _⟩
  have hc11 : decide ((i11 : Int) < (a0.length : Int)) = true := decide_eq_true (by omega)
  obtain ⟨c11, H, hgo11, hbrk11, hret11⟩ := rangeM_go H
  unfold lat_Check_B0 at H
  try dsimp only at H
  refine Cd.seq ?_
  refine Cd.region ?_
  refine Lst.run rfl rfl (by decide) (Ev.lss rfl rfl) ?_
  refine Lst.nil ?_
  refine At.then ?_
  refine Cd.seq ?_
  refine Cd.condT rfl hc11 ?_
  refine Cd.skip ?_
  refine At.then ?_
  refine Cd.seq ?_
  refine Cd.block ?_
  refine Cd.seq ?_
  refine Cd.region ?_
  refine Lst.run rfl rfl (by decide) (Ev.move rfl) ?_
  obtain ⟨x14, h15, H⟩ := bind_some H
  have g16 := lat_some h15
  refine Lst.run rfl rfl (by decide) (Ev.indexS (α := BitVec 16) (xs := a0) rfl rfl Try.runUnderlying27 Try.sizeOf31 rfl (by decide) (hs_a0.mono (FLe.trans hF5 hF13) hM) g16.1 g16.2.1) ?_
  refine Lst.run rfl rfl (by decide) (Ev.loadS (α := BitVec 16) rfl (hs_a0.mono (FLe.trans hF5 hF13) hM) Try.isAgg31 (v := .int .u16 x14.toNat) ((Get.elemN (s := 1) (x := x14) rfl g16.2.2 (Get.here _)).off (by omega))) ?_
  refine Lst.run rfl rfl (by decide) (Ev.assign rfl) ?_
  refine Lst.run rfl rfl (by decide) (Ev.assign rfl) ?_
  refine Lst.nil ?_
  refine At.then ?_
  refine Cd.block ?_
  refine Cd.seq ?_
  refine Cd.region ?_
  refine Lst.run rfl rfl (by decide) (Ev.move rfl) ?_
  refine Lst.run rfl rfl (by decide) (Ev.shrU16 (i := x14) (m := 12) rfl rfl) ?_
  refine Lst.run rfl rfl (by decide) (Ev.neq rfl rfl) ?_
  refine Lst.run rfl rfl (by decide) (Ev.assign rfl) ?_
  refine Lst.nil ?_
  refine At.then ?_
  rcases Bool.eq_false_or_eq_true (((x14 >>> 12).toNat : Int) != ((0 : BitVec 16).toNat : Int)) with hb17 | hb17
  · replace H := ite_t hb17 H
    refine Cd.condT rfl hb17 ?_
    refine Cd.seq ?_
    refine Cd.region ?_
    refine Lst.run rfl rfl (by decide) (Ev.assign rfl) ?_
    refine Lst.nil ?_
    refine At.then ?_
    have H := hret11 _ (some_inj H).symm
    subst H
    replace H := HKl11
    obtain rfl := some_inj H
    refine Cd.ret ?_
    refine At.in_ret ?_
    refine At.in_ret ?_
    refine At.then_ret ?_
    refine At.then_ret ?_
    refine At.in_ret ?_
    refine At.then_ret ?_
    exact At.ret1 rfl (Res.tmp rfl) (FLe.trans hF5 hF13) (List.Sublist.refl _) ⟨rfl, rfl⟩
  replace H := ite_f hb17 H
  refine Cd.condF rfl hb17 ?_
  refine Cd.seq ?_
  refine Cd.region ?_
  refine Lst.run rfl rfl (by decide) (Ev.move rfl) ?_
  refine Lst.run rfl rfl (by decide) (Ev.gtr rfl rfl) ?_
  refine Lst.run rfl rfl (by decide) (Ev.move rfl) ?_
  obtain ⟨o18, H, HKo18⟩ := bind_some H
  refine Lst.join (σ := Bool) 8 (fun y19 => [(0, Sl.v s_a0), (26, Sl.v s_a0), (27, .int .i64 (a0.length : Int)), (28, .int .i64 (i11 : Int)), (48, .bool y19)]) (fun y19 => L) (fun _ y19 => y19 = o18) ?_ ?_
  · rcases (Bool.eq_false_or_eq_true (decide ((i11 : Int) > (0 : Int)))).symm with hb20 | hb20
    · replace H := ite_f hb20 H
      refine Lst.skip rfl rfl rfl hb20 rfl (by decide) ?_
      refine Lst.skip rfl rfl rfl hb20 rfl (by decide) ?_
      refine Lst.skip rfl rfl rfl hb20 rfl (by decide) ?_
      refine Lst.skip rfl rfl rfl hb20 rfl (by decide) ?_
      refine Lst.skip rfl rfl rfl hb20 rfl (by decide) ?_
      refine Lst.skip rfl rfl rfl hb20 rfl (by decide) ?_
      refine Lst.skip rfl rfl rfl hb20 rfl (by decide) ?_
      refine Lst.run rfl rfl (by decide) (Ev.pickF rfl hb20 rfl) ?_
      refine Lst.nil ?_
      exact At.meet false (FLe.refl _) ⟨rfl, rfl, rfl, rfl, rfl, trivial⟩ rfl (some_inj H)
    replace H := ite_t hb20 H
    refine Lst.runG rfl rfl rfl hb20 rfl (by decide) (Ev.move rfl) ?_
    refine Lst.runG rfl rfl rfl hb20 rfl (by decide) (Ev.move rfl) ?_
    refine Lst.runG rfl rfl rfl hb20 rfl (by decide) (Ev.move rfl) ?_
    refine Lst.runG rfl rfl rfl hb20 rfl (by decide) (Ev.sub rfl rfl) ?_
    obtain ⟨x21, h22, H⟩ := bind_some H
    have g23 := lat_some h22
    refine Lst.runG rfl rfl rfl hb20 rfl (by decide) (Ev.indexS (α := BitVec 16) (xs := a0) rfl rfl Try.runUnderlying27 Try.sizeOf31 rfl (by decide) (hs_a0.mono (FLe.trans hF5 hF13) hM) g23.1 g23.2.1) ?_
    refine Lst.runG rfl rfl rfl hb20 rfl (by decide) (Ev.loadS (α := BitVec 16) rfl (hs_a0.mono (FLe.trans hF5 hF13) hM) Try.isAgg31 (v := .int .u16 x21.toNat) ((Get.elemN (s := 1) (x := x21) rfl g23.2.2 (Get.here _)).off (by omega))) ?_
    refine Lst.runG rfl rfl rfl hb20 rfl (by decide) (Ev.leq rfl rfl) ?_
    refine Lst.run rfl rfl (by decide) (Ev.pickT rfl hb20 rfl) ?_
    refine Lst.nil ?_
    exact At.meet (decide ((x14.toNat : Int) ≤ (x21.toNat : Int))) (FLe.refl _) ⟨rfl, rfl, rfl, rfl, rfl, trivial⟩ rfl (some_inj H)
  rintro F24 y19 hF25 hy
  subst hy
  refine Lst.as (e' := [(0, Sl.v s_a0), (26, Sl.v s_a0), (27, .int .i64 (a0.length : Int)), (28, .int .i64 (i11 : Int)), (48, .bool y19)]) (L' := L) ⟨rfl, rfl, rfl, rfl, rfl, trivial⟩ rfl ?_
  replace H := HKo18
  refine Lst.run rfl rfl (by decide) (Ev.assign rfl) ?_
  refine Lst.nil ?_
  refine At.then ?_
  rcases Bool.eq_false_or_eq_true y19 with hb26 | hb26
  · replace H := ite_t hb26 H
    refine Cd.condT rfl hb26 ?_
    refine Cd.seq ?_
    refine Cd.region ?_
    refine Lst.run rfl rfl (by decide) (Ev.assign rfl) ?_
    refine Lst.nil ?_
    refine At.then ?_
    have H := hret11 _ (some_inj H).symm
    subst H
    replace H := HKl11
    obtain rfl := some_inj H
    refine Cd.ret ?_
    refine At.in_ret ?_
    refine At.in_ret ?_
    refine At.then_ret ?_
    refine At.then_ret ?_
    refine At.in_ret ?_
    refine At.then_ret ?_
    exact At.ret1 rfl (Res.tmp rfl) (FLe.trans (FLe.trans hF5 hF13) hF25) (List.Sublist.refl _) ⟨rfl, rfl⟩
  replace H := ite_f hb26 H
  refine Cd.condF rfl hb26 ?_
  refine Cd.skip ?_
  refine At.in_normal ?_
  refine At.in_normal ?_
  refine At.then ?_
  refine Cd.region ?_
  refine Lst.run rfl rfl (by decide) (Ev.incr (by omega) rfl rfl) ?_
  refine Lst.run rfl rfl (by decide) (Ev.move rfl) ?_
  refine Lst.nil ?_
  exact At.meet (i11 + 1, k11, ()) (FLe.trans hF13 hF25) ⟨rfl, rfl, rfl, rfl, trivial⟩ rfl ⟨⟨hgo11 _ (some_inj H).symm, by omega⟩, Nat.lt_succ_self _⟩
set_option maxRecDepth 20000 in
theorem lat_Rises_1_sim {a0 : Int} {a1 : List (BitVec 16)} {s_a1 : Sl} {b_a1 : Nat} {r : Bool} (H : lat_Rises_1 a0 a1 = some r) (w0 : World) (F : Frz) (M L : List Item) (hM : M.Sublist L) (hs_a1 : Rd w0 F M s_a1 a1) : Ok Try.prog w0 48 [.int .i64 a0, .pointer (some ⟨b_a1, 0, none⟩)] F ((.blk b_a1 (enc s_a1) 27) :: L) (Is (.bool r) ((.blk b_a1 (enc s_a1) 27) :: L)) := by
  unfold lat_Rises_1 at H
  refine Ok.enter (m := 2) (n := 12) Try.func48 rfl rfl rfl (by decide) ?_
  refine Cd.env (e' := [(0, .int .i64 a0), (1, .pointer (some ⟨b_a1, 0, none⟩))]) rfl ?_
  refine Cd.seq ?_
  refine Cd.region ?_
  refine Lst.run rfl rfl (by decide) (Ev.assign rfl) ?_
  refine Lst.nil ?_
  refine At.then ?_
  refine Cd.seq ?_
  refine Cd.region ?_
  refine Lst.run rfl rfl (by decide) (Ev.move rfl) ?_
  refine Lst.run rfl rfl (by decide) (Ev.lss rfl rfl) ?_
  refine Lst.run rfl rfl (by decide) (Ev.move rfl) ?_
  obtain ⟨o2, H, HKo2⟩ := bind_some H
  refine Lst.join (σ := Bool) 5 (fun y3 => [(11, .bool y3)]) (fun y3 => (.blk b_a1 (enc s_a1) 27) :: L) (fun _ y3 => y3 = o2) ?_ ?_
  · rcases Bool.eq_false_or_eq_true (decide (a0 < (0 : Int))) with hb4 | hb4
    · replace H := ite_t hb4 H
      refine Lst.skip rfl rfl rfl hb4 rfl (by decide) ?_
      refine Lst.skip rfl rfl rfl hb4 rfl (by decide) ?_
      refine Lst.skip rfl rfl rfl hb4 rfl (by decide) ?_
      refine Lst.skip rfl rfl rfl hb4 rfl (by decide) ?_
      refine Lst.run rfl rfl (by decide) (Ev.pickT rfl hb4 rfl) ?_
      refine Lst.nil ?_
      exact At.meet true (FLe.refl _) ⟨rfl, trivial⟩ rfl (some_inj H)
    replace H := ite_f hb4 H
    refine Lst.runG rfl rfl rfl hb4 rfl (by decide) (Ev.move rfl) ?_
    refine Lst.runG rfl rfl rfl hb4 rfl (by decide) (Ev.load (i := 0) rfl rfl Try.isAgg27 (v := Sl.v s_a1) (Get.here _)) ?_
    refine Lst.runG rfl rfl rfl hb4 rfl (by decide) (Ev.lenS (α := BitVec 16) (xs := a1) (by decide) rfl rfl Try.runUnderlying27 (hs_a1.mono (FLe.refl _) (List.Sublist.cons _ hM))) ?_
    refine Lst.runG rfl rfl rfl hb4 rfl (by decide) (Ev.geq rfl rfl) ?_
    refine Lst.run rfl rfl (by decide) (Ev.pickF rfl hb4 rfl) ?_
    refine Lst.nil ?_
    exact At.meet (decide (a0 ≥ (a1.length : Int))) (FLe.refl _) ⟨rfl, trivial⟩ rfl (some_inj H)
  rintro F5 y3 hF6 hy
  subst hy
  refine Lst.as (e' := [(11, .bool y3)]) (L' := (.blk b_a1 (enc s_a1) 27) :: L) ⟨rfl, trivial⟩ rfl ?_
  replace H := HKo2
  refine Lst.run rfl rfl (by decide) (Ev.assign rfl) ?_
  refine Lst.nil ?_
  refine At.then ?_
  obtain rfl := some_inj H
  refine Cd.ret ?_
  exact At.ret1 rfl (Res.tmp rfl) hF6 (List.Sublist.cons_cons _ (List.Sublist.refl _)) ⟨rfl, rfl⟩
set_option maxRecDepth 20000 in
theorem slices_IndexFunc_int_int_Rises_1_sim {a0 : List Int} {a1_c0 : List (BitVec 16)} {s_a0 : Sl} {s_a1_c0 : Sl} {b_a1_c0 : Nat} {r : Int} (H : slices_IndexFunc_int_int_Rises_1 a0 a1_c0 = some r) (w0 : World) (F : Frz) (M L : List Item) (hM : M.Sublist L) (hs_a0 : Rd w0 F M s_a0 a0) (hs_a1_c0 : Rd w0 F M s_a1_c0 a1_c0) : Ok Try.prog w0 73 [Sl.v s_a0, .func (.func 48) #[] #[.pointer (some ⟨b_a1_c0, 0, none⟩)]] F ((.blk b_a1_c0 (enc s_a1_c0) 27) :: L) (Is (.int .i64 r) ((.blk b_a1_c0 (enc s_a1_c0) 27) :: L)) := by
  unfold slices_IndexFunc_int_int_Rises_1 at H
  refine Ok.enter (m := 2) (n := 19) Try.func73 rfl rfl rfl (by decide) ?_
  refine Cd.env (e' := [(0, Sl.v s_a0), (1, .func (.func 48) #[] #[.pointer (some ⟨b_a1_c0, 0, none⟩)])]) rfl ?_
  refine Cd.seq ?_
  refine Cd.region ?_
  refine Lst.run rfl rfl (by decide) (Ev.assign rfl) ?_
  refine Lst.nil ?_
  refine At.then ?_
  refine Cd.seq ?_
  refine Cd.seq ?_
  refine Cd.region ?_
  refine Lst.run rfl rfl (by decide) (Ev.move rfl) ?_
  refine Lst.run rfl rfl (by decide) (Ev.lenS (α := Int) (xs := a0) (by decide) rfl rfl Try.runUnderlying34 (hs_a0.mono (FLe.refl _) (List.Sublist.cons _ hM))) ?_
  refine Lst.run rfl rfl (by decide) (Ev.move rfl) ?_
  refine Lst.nil ?_
  refine At.then ?_
  refine Cd.block ?_
  refine Cd.bound (Rd.le (α := Int) (xs := a0) (by decide) (hs_a0.mono (FLe.refl _) (List.Sublist.cons _ hM))) (fun hN13 => ?_)
  obtain ⟨ol2, H, HKl2⟩ := andThen_some H
  refine Cd.loop (σ := Nat × Nat × Unit) (fun (i2, k2, _u) => [(0, Sl.v s_a0), (1, .func (.func 48) #[] #[.pointer (some ⟨b_a1_c0, 0, none⟩)]), (7, .int .i64 (a0.length : Int)), (8, .int .i64 (i2 : Int))]) (fun (i2, k2, _u) => (.blk b_a1_c0 (enc s_a1_c0) 27) :: L) (fun _ => (fun (i2, k2, _u) => rangeM (slices_IndexFunc_int_int_Rises_1_B0 a0 a1_c0) k2 i2 () = some ol2 ∧ i2 + k2 = a0.length)) (fun (i2, k2, _u) => k2) (0, a0.length, ()) ⟨rfl, rfl, rfl, rfl, trivial⟩ rfl ⟨H, by omega⟩ ?_
  rintro F3 ⟨i2, k2, _u⟩ hF4 ⟨H, hik2⟩
  refine Cd.as (e' := [(0, Sl.v s_a0), (1, .func (.func 48) #[] #[.pointer (some ⟨b_a1_c0, 0, none⟩)]), (7, .int .i64 (a0.length : Int)), (8, .int .i64 (i2 : Int))]) (L' := (.blk b_a1_c0 (enc s_a1_c0) 27) :: L) ⟨rfl, rfl, rfl, rfl, trivial⟩ rfl ?_
  rcases k2 with _ | k2
  · have hc2 : decide ((i2 : Int) < (a0.length : Int)) = false := decide_eq_false (by omega)
    replace H := rangeM_end H
    refine Cd.seq ?_
    refine Cd.region ?_
    refine Lst.run rfl rfl (by decide) (Ev.lss rfl rfl) ?_
    refine Lst.nil ?_
    refine At.then ?_
    refine Cd.seq ?_
    refine Cd.condF rfl hc2 ?_
    refine Cd.exit ?_
    refine At.then_exit ?_
    refine At.then_exit ?_
    refine At.in_exit ?_
    subst H
    replace H := HKl2
    refine At.then ?_
    refine Cd.seq ?_
    refine Cd.region ?_
    refine Lst.run rfl rfl (by decide) (Ev.assign rfl) ?_
    refine Lst.nil ?_
    refine At.then ?_
    obtain rfl := some_inj H
    refine Cd.ret ?_
    exact At.ret1 rfl (Res.tmp rfl) hF4 (List.Sublist.cons_cons _ (List.Sublist.refl _)) ⟨rfl, rfl⟩
  have hc2 : decide ((i2 : Int) < (a0.length : Int)) = true := decide_eq_true (by omega)
  obtain ⟨c2, H, hgo2, hbrk2, hret2⟩ := rangeM_go H
  unfold slices_IndexFunc_int_int_Rises_1_B0 at H
  try dsimp only at H
  refine Cd.seq ?_
  refine Cd.region ?_
  refine Lst.run rfl rfl (by decide) (Ev.lss rfl rfl) ?_
  refine Lst.nil ?_
  refine At.then ?_
  refine Cd.seq ?_
  refine Cd.condT rfl hc2 ?_
  refine Cd.skip ?_
  refine At.then ?_
  refine Cd.seq ?_
  refine Cd.block ?_
  refine Cd.seq ?_
  refine Cd.region ?_
  refine Lst.run rfl rfl (by decide) (Ev.move rfl) ?_
  refine Lst.run rfl rfl (by decide) (Ev.assign rfl) ?_
  refine Lst.nil ?_
  refine At.then ?_
  refine Cd.seq ?_
  refine Cd.region ?_
  refine Lst.run rfl rfl (by decide) (Ev.move rfl) ?_
  refine Lst.run rfl rfl (by decide) (Ev.move rfl) ?_
  refine Lst.run rfl rfl (by decide) (Ev.move rfl) ?_
  obtain ⟨x5, h6, H⟩ := bind_some H
  have g7 := lat_some h6
  refine Lst.run rfl rfl (by decide) (Ev.indexS (α := Int) (xs := a0) rfl rfl Try.runUnderlying34 Try.sizeOf3 rfl (by decide) (hs_a0.mono hF4 (List.Sublist.cons _ hM)) g7.1 g7.2.1) ?_
  refine Lst.run rfl rfl (by decide) (Ev.loadS (α := Int) rfl (hs_a0.mono hF4 (List.Sublist.cons _ hM)) Try.isAgg3 (v := .int .i64 x5) ((Get.elemN (s := 1) (x := x5) rfl g7.2.2 (Get.here _)).off (by omega))) ?_
  obtain ⟨r8, h9, H⟩ := bind_some H
  refine Lst.callV1 rfl rfl (by decide) (vs := [.int .i64 x5]) (cs := [.pointer (some ⟨b_a1_c0, 0, none⟩)]) rfl ⟨rfl, trivial⟩ Try.call48 (lat_Rises_1_sim h9 w0 _ M _ hM (hs_a1_c0.mono hF4 (List.Sublist.refl _))) ?_
  refine Lst.nil ?_
  refine At.then ?_
  rcases Bool.eq_false_or_eq_true r8 with hb12 | hb12
  · replace H := ite_t hb12 H
    refine Cd.condT rfl hb12 ?_
    refine Cd.seq ?_
    refine Cd.region ?_
    refine Lst.run rfl rfl (by decide) (Ev.move rfl) ?_
    refine Lst.run rfl rfl (by decide) (Ev.assign rfl) ?_
    refine Lst.nil ?_
    refine At.then ?_
    have H := hret2 _ (some_inj H).symm
    subst H
    replace H := HKl2
    obtain rfl := some_inj H
    refine Cd.ret ?_
    refine At.in_ret ?_
    refine At.then_ret ?_
    refine At.then_ret ?_
    refine At.in_ret ?_
    refine At.then_ret ?_
    exact At.ret1 rfl (Res.tmp rfl) hF4 (List.Sublist.cons_cons _ (List.Sublist.refl _)) ⟨rfl, rfl⟩
  replace H := ite_f hb12 H
  refine Cd.condF rfl hb12 ?_
  refine Cd.skip ?_
  refine At.in_normal ?_
  refine At.then ?_
  refine Cd.region ?_
  refine Lst.run rfl rfl (by decide) (Ev.incr (by omega) rfl rfl) ?_
  refine Lst.run rfl rfl (by decide) (Ev.move rfl) ?_
  refine Lst.nil ?_
  exact At.meet (i2 + 1, k2, ()) hF4 ⟨rfl, rfl, rfl, rfl, trivial⟩ rfl ⟨⟨hgo2 _ (some_inj H).symm, by omega⟩, Nat.lt_succ_self _⟩
set_option maxRecDepth 20000 in
theorem slices_ContainsFunc_int_int_Rises_1_sim {a0 : List Int} {a1_c0 : List (BitVec 16)} {s_a0 : Sl} {s_a1_c0 : Sl} {b_a1_c0 : Nat} {r : Bool} (H : slices_ContainsFunc_int_int_Rises_1 a0 a1_c0 = some r) (w0 : World) (F : Frz) (M L : List Item) (hM : M.Sublist L) (hs_a0 : Rd w0 F M s_a0 a0) (hs_a1_c0 : Rd w0 F M s_a1_c0 a1_c0) : Ok Try.prog w0 47 [Sl.v s_a0, .func (.func 48) #[] #[.pointer (some ⟨b_a1_c0, 0, none⟩)]] F ((.blk b_a1_c0 (enc s_a1_c0) 27) :: L) (Is (.bool r) ((.blk b_a1_c0 (enc s_a1_c0) 27) :: L)) := by
  unfold slices_ContainsFunc_int_int_Rises_1 at H
  refine Ok.enter (m := 2) (n := 9) Try.func47 rfl rfl rfl (by decide) ?_
  refine Cd.env (e' := [(0, Sl.v s_a0), (1, .func (.func 48) #[] #[.pointer (some ⟨b_a1_c0, 0, none⟩)])]) rfl ?_
  refine Cd.seq ?_
  refine Cd.region ?_
  refine Lst.run rfl rfl (by decide) (Ev.assign rfl) ?_
  refine Lst.nil ?_
  refine At.then ?_
  refine Cd.seq ?_
  refine Cd.region ?_
  refine Lst.run rfl rfl (by decide) (Ev.move rfl) ?_
  refine Lst.run rfl rfl (by decide) (Ev.move rfl) ?_
  obtain ⟨r2, h3, H⟩ := bind_some H
  refine Lst.call1 rfl rfl (by decide) (vs := [Sl.v s_a0, .func (.func 48) #[] #[.pointer (some ⟨b_a1_c0, 0, none⟩)]]) ⟨rfl, rfl, trivial⟩ Try.call73 (slices_IndexFunc_int_int_Rises_1_sim h3 w0 _ M _ hM (hs_a0.mono (FLe.refl _) (List.Sublist.refl _)) (hs_a1_c0.mono (FLe.refl _) (List.Sublist.refl _))) ?_
  refine Lst.run rfl rfl (by decide) (Ev.geq rfl rfl) ?_
  refine Lst.run rfl rfl (by decide) (Ev.assign rfl) ?_
  refine Lst.nil ?_
  refine At.then ?_
  obtain rfl := some_inj H
  refine Cd.ret ?_
  exact At.ret1 rfl (Res.tmp rfl) (FLe.refl _) (List.Sublist.cons_cons _ (List.Sublist.refl _)) ⟨rfl, rfl⟩
set_option maxRecDepth 20000 in
theorem lat_within_sim {a0 : BitVec 16} {a1 : BitVec 16} {r : Bool} (H : lat_within a0 a1 = some r) (w0 : World) (F : Frz) (M L : List Item) (hM : M.Sublist L) : Ok Try.prog w0 49 [.int .u16 a0.toNat, .int .u16 a1.toNat] F (L) (Is (.bool r) (L)) := by
  unfold lat_within at H
  refine Ok.enter (m := 2) (n := 9) Try.func49 rfl rfl rfl (by decide) ?_
  refine Cd.env (e' := [(0, .int .u16 a0.toNat), (1, .int .u16 a1.toNat)]) rfl ?_
  refine Cd.seq ?_
  refine Cd.region ?_
  refine Lst.run rfl rfl (by decide) (Ev.assign rfl) ?_
  refine Lst.nil ?_
  refine At.then ?_
  refine Cd.seq ?_
  refine Cd.region ?_
  refine Lst.run rfl rfl (by decide) (Ev.move rfl) ?_
  refine Lst.run rfl rfl (by decide) (Ev.move rfl) ?_
  refine Lst.run rfl rfl (by decide) (Ev.andNotU16 (i := a0) (j := a1) rfl rfl) ?_
  refine Lst.run rfl rfl (by decide) (Ev.eql rfl rfl) ?_
  refine Lst.run rfl rfl (by decide) (Ev.assign rfl) ?_
  refine Lst.nil ?_
  refine At.then ?_
  obtain rfl := some_inj H
  refine Cd.ret ?_
  exact At.ret1 rfl (Res.tmp rfl) (FLe.refl _) (List.Sublist.refl _) ⟨rfl, rfl⟩
set_option maxRecDepth 20000 in
theorem lat_Rises_sim {a0 : List (BitVec 16)} {a1 : List Int} {s_a0 : Sl} {s_a1 : Sl} {r : Int} (H : lat_Rises a0 a1 = some r) (w0 : World) (F : Frz) (M L : List Item) (hM : M.Sublist L) (hs_a0 : Rd w0 F M s_a0 a0) (hs_a1 : Rd w0 F M s_a1 a1) : Ok Try.prog w0 15 [Sl.v s_a0, Sl.v s_a1] F (L) (Is (.int .i64 r) (L)) := by
  unfold lat_Rises at H
  refine Ok.enter (m := 2) (n := 62) Try.func15 rfl rfl rfl (by decide) ?_
  refine Cd.env (e' := [(0, Sl.v s_a0), (1, Sl.v s_a1)]) rfl ?_
  refine Cd.seq ?_
  refine Cd.region ?_
  refine Lst.box rfl rfl (by decide) rfl (cs := enc s_a0) rfl (fun b1 => ?_)
  refine Lst.run rfl rfl (by decide) (Ev.assign rfl) ?_
  refine Lst.nil ?_
  refine At.then ?_
  refine Cd.seq ?_
  refine Cd.seq ?_
  refine Cd.region ?_
  refine Lst.run rfl rfl (by decide) (Ev.load (i := 0) rfl rfl Try.isAgg27 (v := Sl.v s_a0) (Get.here _)) ?_
  obtain ⟨r3, h4, H⟩ := bind_some H
  refine Lst.call1 rfl rfl (by decide) (vs := [Sl.v s_a0]) ⟨rfl, trivial⟩ Try.call21 (lat_Check_sim h4 w0 _ M _ (List.Sublist.cons _ hM) (hs_a0.mono (FLe.refl _) (List.Sublist.refl _))) ?_
  refine Lst.run rfl rfl (by decide) (Ev.assign rfl) ?_
  refine Lst.nil ?_
  refine At.then ?_
  refine Cd.seq ?_
  refine Cd.region ?_
  refine Lst.run rfl rfl (by decide) (Ev.move rfl) ?_
  refine Lst.run rfl rfl (by decide) (Ev.neq rfl rfl) ?_
  refine Lst.nil ?_
  refine At.then ?_
  rcases Bool.eq_false_or_eq_true (r3 != (0 : Int)) with hb7 | hb7
  · replace H := ite_t hb7 H
    refine Cd.condT rfl hb7 ?_
    refine Cd.seq ?_
    refine Cd.region ?_
    refine Lst.run rfl rfl (by decide) (Ev.move rfl) ?_
    refine Lst.run rfl rfl (by decide) (Ev.assign rfl) ?_
    refine Lst.nil ?_
    refine At.then ?_
    obtain rfl := some_inj H
    refine Cd.ret ?_
    refine At.then_ret ?_
    exact At.ret1 rfl (Res.tmp rfl) (FLe.refl _) (List.Sublist.cons _ (List.Sublist.refl _)) ⟨rfl, rfl⟩
  replace H := ite_f hb7 H
  refine Cd.condF rfl hb7 ?_
  refine Cd.skip ?_
  refine At.then ?_
  refine Cd.seq ?_
  refine Cd.block ?_
  refine Cd.seq ?_
  refine Cd.region ?_
  refine Lst.run rfl rfl (by decide) (Ev.move rfl) ?_
  refine Lst.run rfl rfl (by decide) (Ev.lenS (α := Int) (xs := a1) (by decide) rfl rfl Try.runUnderlying34 (hs_a1.mono (FLe.refl _) (List.Sublist.cons _ hM))) ?_
  refine Lst.run rfl rfl (by decide) (Ev.load (i := 0) rfl rfl Try.isAgg27 (v := Sl.v s_a0) (Get.here _)) ?_
  refine Lst.run rfl rfl (by decide) (Ev.lenS (α := BitVec 16) (xs := a0) (by decide) rfl rfl Try.runUnderlying27 (hs_a0.mono (FLe.refl _) (List.Sublist.cons _ hM))) ?_
  refine Lst.run rfl rfl (by decide) (Ev.neq rfl rfl) ?_
  refine Lst.run rfl rfl (by decide) (Ev.assign rfl) ?_
  refine Lst.nil ?_
  refine At.then ?_
  rcases Bool.eq_false_or_eq_true ((a1.length : Int) != (a0.length : Int)) with hb8 | hb8
  · replace H := ite_t hb8 H
    refine Cd.condT rfl hb8 ?_
    refine Cd.seq ?_
    refine Cd.as (e' := []) (L' := (.blk b1 (enc s_a0) 27) :: L) trivial rfl ?_
    refine Cd.region ?_
    refine Lst.run rfl rfl (by decide) (Ev.assign rfl) ?_
    refine Lst.nil ?_
    refine At.then ?_
    obtain rfl := some_inj H
    refine Cd.ret ?_
    refine At.in_ret ?_
    refine At.then_ret ?_
    exact At.ret1 rfl (Res.tmp rfl) (FLe.refl _) (List.Sublist.cons _ (List.Sublist.refl _)) ⟨rfl, rfl⟩
  replace H := ite_f hb8 H
  refine Cd.condF rfl hb8 ?_
  refine Cd.seq ?_
  refine Cd.region ?_
  refine Lst.run rfl rfl (by decide) (Ev.move rfl) ?_
  refine Lst.run rfl rfl (by decide) (Ev.makeFunc (us := []) (vs := [.pointer (some ⟨b1, 0, none⟩)]) trivial ⟨rfl, trivial⟩) ?_
  obtain ⟨r9, h10, H⟩ := bind_some H
  refine Lst.call1 rfl rfl (by decide) (vs := [Sl.v s_a1, .func (.func 48) #[] #[.pointer (some ⟨b1, 0, none⟩)]]) ⟨rfl, rfl, trivial⟩ Try.call47 (slices_ContainsFunc_int_int_Rises_1_sim h10 w0 _ M _ hM (hs_a1.mono (FLe.refl _) (List.Sublist.refl _)) (hs_a0.mono (FLe.refl _) (List.Sublist.refl _))) ?_
  refine Lst.run rfl rfl (by decide) (Ev.assign rfl) ?_
  refine Lst.nil ?_
  refine At.then ?_
  rcases Bool.eq_false_or_eq_true r9 with hb13 | hb13
  · replace H := ite_t hb13 H
    refine Cd.condT rfl hb13 ?_
    refine Cd.seq ?_
    refine Cd.as (e' := []) (L' := (.blk b1 (enc s_a0) 27) :: L) trivial rfl ?_
    refine Cd.region ?_
    refine Lst.run rfl rfl (by decide) (Ev.assign rfl) ?_
    refine Lst.nil ?_
    refine At.then ?_
    obtain rfl := some_inj H
    refine Cd.ret ?_
    refine At.in_ret ?_
    refine At.then_ret ?_
    exact At.ret1 rfl (Res.tmp rfl) (FLe.refl _) (List.Sublist.cons _ (List.Sublist.refl _)) ⟨rfl, rfl⟩
  replace H := ite_f hb13 H
  refine Cd.condF rfl hb13 ?_
  refine Cd.skip ?_
  refine At.in_normal ?_
  refine At.then ?_
  refine Cd.seq ?_
  refine Cd.seq ?_
  refine Cd.as (e' := [(1, Sl.v s_a1), (2, .pointer (some ⟨b1, 0, none⟩))]) (L' := (.blk b1 (enc s_a0) 27) :: L) ⟨rfl, rfl, trivial⟩ rfl ?_
  refine Cd.region ?_
  refine Lst.run rfl rfl (by decide) (Ev.load (i := 0) rfl rfl Try.isAgg27 (v := Sl.v s_a0) (Get.here _)) ?_
  refine Lst.run rfl rfl (by decide) (Ev.lenS (α := BitVec 16) (xs := a0) (by decide) rfl rfl Try.runUnderlying27 (hs_a0.mono (FLe.refl _) (List.Sublist.cons _ hM))) ?_
  refine Lst.run rfl rfl (by decide) (Ev.move rfl) ?_
  refine Lst.nil ?_
  refine At.then ?_
  refine Cd.block ?_
  refine Cd.bound (Rd.le (α := BitVec 16) (xs := a0) (by decide) (hs_a0.mono (FLe.refl _) (List.Sublist.cons _ hM))) (fun hN51 => ?_)
  obtain ⟨ol14, H, HKl14⟩ := andThen_some H
  refine Cd.loop (σ := Nat × Nat × Unit) (fun (i14, k14, _u) => [(1, Sl.v s_a1), (2, .pointer (some ⟨b1, 0, none⟩)), (25, Sl.v s_a0), (26, .int .i64 (a0.length : Int)), (27, .int .i64 (i14 : Int))]) (fun (i14, k14, _u) => (.blk b1 (enc s_a0) 27) :: L) (fun _ => (fun (i14, k14, _u) => rangeM (lat_Rises_B1 a0 a1) k14 i14 () = some ol14 ∧ i14 + k14 = a0.length)) (fun (i14, k14, _u) => k14) (0, a0.length, ()) ⟨rfl, rfl, rfl, rfl, rfl, trivial⟩ rfl ⟨H, by omega⟩ ?_
  rintro F15 ⟨i14, k14, _u⟩ hF16 ⟨H, hik14⟩
  refine Cd.as (e' := [(1, Sl.v s_a1), (2, .pointer (some ⟨b1, 0, none⟩)), (25, Sl.v s_a0), (26, .int .i64 (a0.length : Int)), (27, .int .i64 (i14 : Int))]) (L' := (.blk b1 (enc s_a0) 27) :: L) ⟨rfl, rfl, rfl, rfl, rfl, trivial⟩ rfl ?_
  rcases k14 with _ | k14
  · have hc14 : decide ((i14 : Int) < (a0.length : Int)) = false := decide_eq_false (by omega)
    replace H := rangeM_end H
    refine Cd.seq ?_
    refine Cd.region ?_
    refine Lst.run rfl rfl (by decide) (Ev.lss rfl rfl) ?_
    refine Lst.nil ?_
    refine At.then ?_
    refine Cd.seq ?_
    refine Cd.condF rfl hc14 ?_
    refine Cd.exit ?_
    refine At.then_exit ?_
    refine At.then_exit ?_
    refine At.in_exit ?_
    subst H
    replace H := HKl14
    refine At.then ?_
    refine Cd.seq ?_
    refine Cd.region ?_
    refine Lst.run rfl rfl (by decide) (Ev.assign rfl) ?_
    refine Lst.nil ?_
    refine At.then ?_
    obtain rfl := some_inj H
    refine Cd.ret ?_
    exact At.ret1 rfl (Res.tmp rfl) hF16 (List.Sublist.cons _ (List.Sublist.refl _)) ⟨rfl, rfl⟩
  have hc14 : decide ((i14 : Int) < (a0.length : Int)) = true := decide_eq_true (by omega)
  obtain ⟨c14, H, hgo14, hbrk14, hret14⟩ := rangeM_go H
  unfold lat_Rises_B1 at H
  try dsimp only at H
  refine Cd.seq ?_
  refine Cd.region ?_
  refine Lst.run rfl rfl (by decide) (Ev.lss rfl rfl) ?_
  refine Lst.nil ?_
  refine At.then ?_
  refine Cd.seq ?_
  refine Cd.condT rfl hc14 ?_
  refine Cd.skip ?_
  refine At.then ?_
  refine Cd.seq ?_
  refine Cd.block ?_
  refine Cd.seq ?_
  refine Cd.region ?_
  refine Lst.run rfl rfl (by decide) (Ev.move rfl) ?_
  obtain ⟨x17, h18, H⟩ := bind_some H
  have g19 := lat_some h18
  refine Lst.run rfl rfl (by decide) (Ev.indexS (α := BitVec 16) (xs := a0) rfl rfl Try.runUnderlying27 Try.sizeOf31 rfl (by decide) (hs_a0.mono hF16 (List.Sublist.cons _ hM)) g19.1 g19.2.1) ?_
  refine Lst.run rfl rfl (by decide) (Ev.loadS (α := BitVec 16) rfl (hs_a0.mono hF16 (List.Sublist.cons _ hM)) Try.isAgg31 (v := .int .u16 x17.toNat) ((Get.elemN (s := 1) (x := x17) rfl g19.2.2 (Get.here _)).off (by omega))) ?_
  refine Lst.run rfl rfl (by decide) (Ev.assign rfl) ?_
  refine Lst.run rfl rfl (by decide) (Ev.assign rfl) ?_
  refine Lst.nil ?_
  refine At.then ?_
  refine Cd.seq ?_
  refine Cd.region ?_
  refine Lst.run rfl rfl (by decide) (Ev.load (i := 0) rfl rfl Try.isAgg27 (v := Sl.v s_a0) (Get.here _)) ?_
  refine Lst.run rfl rfl (by decide) (Ev.lenS (α := BitVec 16) (xs := a0) (by decide) rfl rfl Try.runUnderlying27 (hs_a0.mono hF16 (List.Sublist.cons _ hM))) ?_
  refine Lst.run rfl rfl (by decide) (Ev.move rfl) ?_
  refine Lst.nil ?_
  refine At.then ?_
  refine Cd.block ?_
  refine Cd.bound (Rd.le (α := BitVec 16) (xs := a0) (by decide) (hs_a0.mono hF16 (List.Sublist.cons _ hM))) (fun hN50 => ?_)
  obtain ⟨ol20, H, HKl20⟩ := andThen_some H
  refine Cd.loop (σ := Nat × Nat × Unit) (fun (i20, k20, _u) => [(1, Sl.v s_a1), (2, .pointer (some ⟨b1, 0, none⟩)), (6, .int .i64 (i14 : Int)), (7, .int .u16 x17.toNat), (25, Sl.v s_a0), (26, .int .i64 (a0.length : Int)), (27, .int .i64 (i14 : Int)), (32, Sl.v s_a0), (33, .int .i64 (a0.length : Int)), (34, .int .i64 (i20 : Int))]) (fun (i20, k20, _u) => (.blk b1 (enc s_a0) 27) :: L) (fun _ => (fun (i20, k20, _u) => rangeM (lat_Rises_B3 a0 a1 i14 x17) k20 i20 () = some ol20 ∧ i20 + k20 = a0.length)) (fun (i20, k20, _u) => k20) (0, a0.length, ()) ⟨rfl, rfl, rfl, rfl, rfl, rfl, rfl, rfl, rfl, rfl, trivial⟩ rfl ⟨H, by omega⟩ ?_
  rintro F21 ⟨i20, k20, _u⟩ hF22 ⟨H, hik20⟩
  refine Cd.as (e' := [(1, Sl.v s_a1), (2, .pointer (some ⟨b1, 0, none⟩)), (6, .int .i64 (i14 : Int)), (7, .int .u16 x17.toNat), (25, Sl.v s_a0), (26, .int .i64 (a0.length : Int)), (27, .int .i64 (i14 : Int)), (32, Sl.v s_a0), (33, .int .i64 (a0.length : Int)), (34, .int .i64 (i20 : Int))]) (L' := (.blk b1 (enc s_a0) 27) :: L) ⟨rfl, rfl, rfl, rfl, rfl, rfl, rfl, rfl, rfl, rfl, trivial⟩ rfl ?_
  rcases k20 with _ | k20
  · have hc20 : decide ((i20 : Int) < (a0.length : Int)) = false := decide_eq_false (by omega)
    replace H := rangeM_end H
    refine Cd.seq ?_
    refine Cd.region ?_
    refine Lst.run rfl rfl (by decide) (Ev.lss rfl rfl) ?_
    refine Lst.nil ?_
    refine At.then ?_
    refine Cd.seq ?_
    refine Cd.condF rfl hc20 ?_
    refine Cd.exit ?_
    refine At.then_exit ?_
    refine At.then_exit ?_
    refine At.in_exit ?_
    subst H
    replace H := HKl20
    refine At.in_normal ?_
    refine At.then ?_
    refine Cd.region ?_
    refine Lst.run rfl rfl (by decide) (Ev.incr (by omega) rfl rfl) ?_
    refine Lst.run rfl rfl (by decide) (Ev.move rfl) ?_
    refine Lst.nil ?_
    exact At.meet (i14 + 1, k14, ()) (FLe.trans hF16 hF22) ⟨rfl, rfl, rfl, rfl, rfl, trivial⟩ rfl ⟨⟨hgo14 _ (some_inj H).symm, by omega⟩, Nat.lt_succ_self _⟩
  have hc20 : decide ((i20 : Int) < (a0.length : Int)) = true := decide_eq_true (by omega)
  obtain ⟨c20, H, hgo20, hbrk20, hret20⟩ := rangeM_go H
  unfold lat_Rises_B3 at H
  try dsimp only at H
  refine Cd.seq ?_
  refine Cd.region ?_
  refine Lst.run rfl rfl (by decide) (Ev.lss rfl rfl) ?_
  refine Lst.nil ?_
  refine At.then ?_
  refine Cd.seq ?_
  refine Cd.condT rfl hc20 ?_
  refine Cd.skip ?_
  refine At.then ?_
  refine Cd.seq ?_
  refine Cd.block ?_
  refine Cd.seq ?_
  refine Cd.region ?_
  refine Lst.run rfl rfl (by decide) (Ev.move rfl) ?_
  obtain ⟨x23, h24, H⟩ := bind_some H
  have g25 := lat_some h24
  refine Lst.run rfl rfl (by decide) (Ev.indexS (α := BitVec 16) (xs := a0) rfl rfl Try.runUnderlying27 Try.sizeOf31 rfl (by decide) (hs_a0.mono (FLe.trans hF16 hF22) (List.Sublist.cons _ hM)) g25.1 g25.2.1) ?_
  refine Lst.run rfl rfl (by decide) (Ev.loadS (α := BitVec 16) rfl (hs_a0.mono (FLe.trans hF16 hF22) (List.Sublist.cons _ hM)) Try.isAgg31 (v := .int .u16 x23.toNat) ((Get.elemN (s := 1) (x := x23) rfl g25.2.2 (Get.here _)).off (by omega))) ?_
  refine Lst.run rfl rfl (by decide) (Ev.assign rfl) ?_
  refine Lst.run rfl rfl (by decide) (Ev.assign rfl) ?_
  refine Lst.nil ?_
  refine At.then ?_
  refine Cd.seq ?_
  refine Cd.quiet (by kernel_rfl) (by kernel_rfl) ?_
  refine Qt.run rfl rfl (by decide) (Ev.move rfl) ?_
  refine Qt.run rfl rfl (by decide) (Ev.move rfl) ?_
  obtain ⟨r26, h27, H⟩ := bind_some H
  refine Qt.call rfl rfl (by decide) (vs := [.int .u16 x17.toNat, .int .u16 x23.toNat]) ⟨rfl, rfl, trivial⟩ Try.call49 (lat_within_sim h27 w0 _ M _ (List.Sublist.cons _ hM)) ?_
  refine Qt.run rfl rfl (by decide) (Ev.move rfl) ?_
  obtain ⟨o30, H, HKo30⟩ := bind_some H
  refine Qt.join (σ := Bool) 17 (fun y31 => [(1, Sl.v s_a1), (2, .pointer (some ⟨b1, 0, none⟩)), (6, .int .i64 (i14 : Int)), (7, .int .u16 x17.toNat), (25, Sl.v s_a0), (26, .int .i64 (a0.length : Int)), (27, .int .i64 (i14 : Int)), (32, Sl.v s_a0), (33, .int .i64 (a0.length : Int)), (34, .int .i64 (i20 : Int)), (59, .bool y31)]) (fun y31 => y31 = o30) ?_ ?_
  · rcases (Bool.eq_false_or_eq_true r26).symm with hb32 | hb32
    · replace H := ite_f hb32 H
      refine Qt.skip rfl rfl rfl hb32 rfl (by decide) ?_
      refine Qt.skip rfl rfl rfl hb32 rfl (by decide) ?_
      refine Qt.skip rfl rfl rfl hb32 rfl (by decide) ?_
      refine Qt.skip rfl rfl rfl hb32 rfl (by decide) ?_
      refine Qt.skip rfl rfl rfl hb32 rfl (by decide) ?_
      refine Qt.skip rfl rfl rfl hb32 rfl (by decide) ?_
      refine Qt.skip rfl rfl rfl hb32 rfl (by decide) ?_
      refine Qt.skip rfl rfl rfl hb32 rfl (by decide) ?_
      refine Qt.skip rfl rfl rfl hb32 rfl (by decide) ?_
      refine Qt.skip rfl rfl rfl hb32 rfl (by decide) ?_
      refine Qt.skip rfl rfl rfl hb32 rfl (by decide) ?_
      refine Qt.skip rfl rfl rfl hb32 rfl (by decide) ?_
      refine Qt.skip rfl rfl rfl hb32 rfl (by decide) ?_
      refine Qt.skip rfl rfl rfl hb32 rfl (by decide) ?_
      refine Qt.skip rfl rfl rfl hb32 rfl (by decide) ?_
      refine Qt.skip rfl rfl rfl hb32 rfl (by decide) ?_
      refine Qt.run rfl rfl (by decide) (Ev.pickF rfl hb32 rfl) ?_
      exact Qt.meet false ⟨rfl, rfl, rfl, rfl, rfl, rfl, rfl, rfl, rfl, rfl, rfl, trivial⟩ (some_inj H)
    replace H := ite_t hb32 H
    refine Qt.runG rfl rfl rfl hb32 rfl (by decide) (Ev.load (i := 0) rfl rfl Try.isAgg27 (v := Sl.v s_a0) (Get.here _)) ?_
    refine Qt.runG rfl rfl rfl hb32 rfl (by decide) (Ev.move rfl) ?_
    refine Qt.runG rfl rfl rfl hb32 rfl (by decide) (Ev.move rfl) ?_
    obtain ⟨x33, h34, H⟩ := bind_some H
    have g35 := lat_some h34
    refine Qt.runG rfl rfl rfl hb32 rfl (by decide) (Ev.indexS (α := Int) (xs := a1) rfl rfl Try.runUnderlying34 Try.sizeOf3 rfl (by decide) (hs_a1.mono (FLe.trans hF16 hF22) (List.Sublist.cons _ hM)) g35.1 g35.2.1) ?_
    refine Qt.runG rfl rfl rfl hb32 rfl (by decide) (Ev.loadS (α := Int) rfl (hs_a1.mono (FLe.trans hF16 hF22) (List.Sublist.cons _ hM)) Try.isAgg3 (v := .int .i64 x33) ((Get.elemN (s := 1) (x := x33) rfl g35.2.2 (Get.here _)).off (by omega))) ?_
    obtain ⟨x36, h37, H⟩ := bind_some H
    have g38 := lat_some h37
    refine Qt.runG rfl rfl rfl hb32 rfl (by decide) (Ev.indexS (α := BitVec 16) (xs := a0) rfl rfl Try.runUnderlying27 Try.sizeOf31 rfl (by decide) (hs_a0.mono (FLe.trans hF16 hF22) (List.Sublist.cons _ hM)) g38.1 g38.2.1) ?_
    refine Qt.runG rfl rfl rfl hb32 rfl (by decide) (Ev.loadS (α := BitVec 16) rfl (hs_a0.mono (FLe.trans hF16 hF22) (List.Sublist.cons _ hM)) Try.isAgg31 (v := .int .u16 x36.toNat) ((Get.elemN (s := 1) (x := x36) rfl g38.2.2 (Get.here _)).off (by omega))) ?_
    refine Qt.runG rfl rfl rfl hb32 rfl (by decide) (Ev.load (i := 0) rfl rfl Try.isAgg27 (v := Sl.v s_a0) (Get.here _)) ?_
    refine Qt.runG rfl rfl rfl hb32 rfl (by decide) (Ev.move rfl) ?_
    refine Qt.runG rfl rfl rfl hb32 rfl (by decide) (Ev.move rfl) ?_
    obtain ⟨x39, h40, H⟩ := bind_some H
    have g41 := lat_some h40
    refine Qt.runG rfl rfl rfl hb32 rfl (by decide) (Ev.indexS (α := Int) (xs := a1) rfl rfl Try.runUnderlying34 Try.sizeOf3 rfl (by decide) (hs_a1.mono (FLe.trans hF16 hF22) (List.Sublist.cons _ hM)) g41.1 g41.2.1) ?_
    refine Qt.runG rfl rfl rfl hb32 rfl (by decide) (Ev.loadS (α := Int) rfl (hs_a1.mono (FLe.trans hF16 hF22) (List.Sublist.cons _ hM)) Try.isAgg3 (v := .int .i64 x39) ((Get.elemN (s := 1) (x := x39) rfl g41.2.2 (Get.here _)).off (by omega))) ?_
    obtain ⟨x42, h43, H⟩ := bind_some H
    have g44 := lat_some h43
    refine Qt.runG rfl rfl rfl hb32 rfl (by decide) (Ev.indexS (α := BitVec 16) (xs := a0) rfl rfl Try.runUnderlying27 Try.sizeOf31 rfl (by decide) (hs_a0.mono (FLe.trans hF16 hF22) (List.Sublist.cons _ hM)) g44.1 g44.2.1) ?_
    refine Qt.runG rfl rfl rfl hb32 rfl (by decide) (Ev.loadS (α := BitVec 16) rfl (hs_a0.mono (FLe.trans hF16 hF22) (List.Sublist.cons _ hM)) Try.isAgg31 (v := .int .u16 x42.toNat) ((Get.elemN (s := 1) (x := x42) rfl g44.2.2 (Get.here _)).off (by omega))) ?_
    obtain ⟨r45, h46, H⟩ := bind_some H
    refine Qt.callG rfl rfl rfl hb32 rfl (by decide) (vs := [.int .u16 x36.toNat, .int .u16 x42.toNat]) ⟨rfl, rfl, trivial⟩ Try.call49 (lat_within_sim h46 w0 _ M _ (List.Sublist.cons _ hM)) ?_
    refine Qt.runG rfl rfl rfl hb32 rfl (by decide) (Ev.not rfl) ?_
    refine Qt.run rfl rfl (by decide) (Ev.pickT rfl hb32 rfl) ?_
    exact Qt.meet (!r45) ⟨rfl, rfl, rfl, rfl, rfl, rfl, rfl, rfl, rfl, rfl, rfl, trivial⟩ (some_inj H)
  rintro y31 hy
  subst hy
  refine Qt.as (e' := [(1, Sl.v s_a1), (2, .pointer (some ⟨b1, 0, none⟩)), (6, .int .i64 (i14 : Int)), (7, .int .u16 x17.toNat), (25, Sl.v s_a0), (26, .int .i64 (a0.length : Int)), (27, .int .i64 (i14 : Int)), (32, Sl.v s_a0), (33, .int .i64 (a0.length : Int)), (34, .int .i64 (i20 : Int)), (59, .bool y31)]) ⟨rfl, rfl, rfl, rfl, rfl, rfl, rfl, rfl, rfl, rfl, rfl, trivial⟩ ?_
  replace H := HKo30
  refine Qt.done ?_
  refine At.then ?_
  rcases Bool.eq_false_or_eq_true y31 with hb49 | hb49
  · replace H := ite_t hb49 H
    refine Cd.condT rfl hb49 ?_
    refine Cd.seq ?_
    refine Cd.region ?_
    refine Lst.run rfl rfl (by decide) (Ev.assign rfl) ?_
    refine Lst.nil ?_
    refine At.then ?_
    have H := hret20 _ (some_inj H).symm
    subst H
    replace H := HKl20
    have H := hret14 _ (some_inj H).symm
    subst H
    replace H := HKl14
    obtain rfl := some_inj H
    refine Cd.ret ?_
    refine At.in_ret ?_
    refine At.then_ret ?_
    refine At.then_ret ?_
    refine At.in_ret ?_
    refine At.in_ret ?_
    refine At.then_ret ?_
    refine At.then_ret ?_
    refine At.in_ret ?_
    refine At.then_ret ?_
    exact At.ret1 rfl (Res.tmp rfl) (FLe.trans hF16 hF22) (List.Sublist.cons _ (List.Sublist.refl _)) ⟨rfl, rfl⟩
  replace H := ite_f hb49 H
  refine Cd.condF rfl hb49 ?_
  refine Cd.skip ?_
  refine At.in_normal ?_
  refine At.then ?_
  refine Cd.region ?_
  refine Lst.run rfl rfl (by decide) (Ev.incr (by omega) rfl rfl) ?_
  refine Lst.run rfl rfl (by decide) (Ev.move rfl) ?_
  refine Lst.nil ?_
  exact At.meet (i20 + 1, k20, ()) hF22 ⟨rfl, rfl, rfl, rfl, rfl, rfl, rfl, rfl, rfl, rfl, trivial⟩ rfl ⟨⟨hgo20 _ (some_inj H).symm, by omega⟩, Nat.lt_succ_self _⟩
set_option maxRecDepth 20000 in
theorem lat_Still_1_sim {fu : Nat} {a0 : Int} {a1 : List Int} {s_a1 : Sl} {b_a1 : Nat} {r : Int} (H : lat_Still_1 fu a0 a1 = some r) (w0 : World) (F : Frz) (M L : List Item) (hM : M.Sublist L) (hs_a1 : Rd w0 F M s_a1 a1) : Ok Try.prog w0 46 [.int .i64 a0, .pointer (some ⟨b_a1, 0, none⟩)] F ((.blk b_a1 (enc s_a1) 34) :: L) (Is (.int .i64 r) ((.blk b_a1 (enc s_a1) 34) :: L)) := by
  unfold lat_Still_1 at H
  refine Ok.enter (m := 2) (n := 15) Try.func46 rfl rfl rfl (by decide) ?_
  refine Cd.env (e' := [(0, .int .i64 a0), (1, .pointer (some ⟨b_a1, 0, none⟩))]) rfl ?_
  refine Cd.seq ?_
  refine Cd.region ?_
  refine Lst.run rfl rfl (by decide) (Ev.assign rfl) ?_
  refine Lst.nil ?_
  refine At.then ?_
  refine Cd.seq ?_
  refine Cd.block ?_
  obtain ⟨ol2, H, HKl2⟩ := andThen_some H
  refine Cd.loop (σ := Nat × Int) (fun (k2, y3) => [(0, .int .i64 y3), (1, .pointer (some ⟨b_a1, 0, none⟩))]) (fun (k2, y3) => (.blk b_a1 (enc s_a1) 34) :: L) (fun _ => (fun (k2, y3) => whileM (lat_Still_1_B0 a1) k2 y3 = some ol2)) (fun (k2, y3) => k2) (fu, a0) ⟨rfl, rfl, trivial⟩ rfl H ?_
  rintro F4 ⟨k2, y3⟩ hF5 H
  refine Cd.as (e' := [(0, .int .i64 y3), (1, .pointer (some ⟨b_a1, 0, none⟩))]) (L' := (.blk b_a1 (enc s_a1) 34) :: L) ⟨rfl, rfl, trivial⟩ rfl ?_
  rcases k2 with _ | k2
  · cases H
  obtain ⟨c2, H, hgo2, hbrk2, hret2⟩ := whileM_go H
  unfold lat_Still_1_B0 at H
  try dsimp only at H
  refine Cd.seq ?_
  refine Cd.seq ?_
  refine Cd.region ?_
  refine Lst.run rfl rfl (by decide) (Ev.load (i := 0) rfl rfl Try.isAgg34 (v := Sl.v s_a1) (Get.here _)) ?_
  refine Lst.run rfl rfl (by decide) (Ev.move rfl) ?_
  obtain ⟨x6, h7, H⟩ := bind_some H
  have g8 := lat_some h7
  refine Lst.run rfl rfl (by decide) (Ev.indexS (α := Int) (xs := a1) rfl rfl Try.runUnderlying34 Try.sizeOf3 rfl (by decide) (hs_a1.mono hF5 (List.Sublist.cons _ hM)) g8.1 g8.2.1) ?_
  refine Lst.run rfl rfl (by decide) (Ev.loadS (α := Int) rfl (hs_a1.mono hF5 (List.Sublist.cons _ hM)) Try.isAgg3 (v := .int .i64 x6) ((Get.elemN (s := 1) (x := x6) rfl g8.2.2 (Get.here _)).off (by omega))) ?_
  refine Lst.run rfl rfl (by decide) (Ev.move rfl) ?_
  refine Lst.run rfl rfl (by decide) (Ev.neq rfl rfl) ?_
  refine Lst.nil ?_
  refine At.then ?_
  rcases (Bool.eq_false_or_eq_true (x6 != y3)).symm with hb9 | hb9
  · replace H := ite_f hb9 H
    refine Cd.condF rfl hb9 ?_
    refine Cd.exit ?_
    refine At.then_exit ?_
    refine At.then_exit ?_
    refine At.in_exit ?_
    have H := hbrk2 _ (some_inj H).symm
    subst H
    replace H := HKl2
    refine At.then ?_
    refine Cd.seq ?_
    refine Cd.region ?_
    refine Lst.run rfl rfl (by decide) (Ev.move rfl) ?_
    refine Lst.run rfl rfl (by decide) (Ev.assign rfl) ?_
    refine Lst.nil ?_
    refine At.then ?_
    obtain rfl := some_inj H
    refine Cd.ret ?_
    exact At.ret1 rfl (Res.tmp rfl) hF5 (List.Sublist.cons_cons _ (List.Sublist.refl _)) ⟨rfl, rfl⟩
  replace H := ite_t hb9 H
  refine Cd.condT rfl hb9 ?_
  refine Cd.skip ?_
  refine At.then ?_
  refine Cd.block ?_
  refine Cd.region ?_
  refine Lst.run rfl rfl (by decide) (Ev.load (i := 0) rfl rfl Try.isAgg34 (v := Sl.v s_a1) (Get.here _)) ?_
  refine Lst.run rfl rfl (by decide) (Ev.move rfl) ?_
  obtain ⟨x10, h11, H⟩ := bind_some H
  have g12 := lat_some h11
  refine Lst.run rfl rfl (by decide) (Ev.indexS (α := Int) (xs := a1) rfl rfl Try.runUnderlying34 Try.sizeOf3 rfl (by decide) (hs_a1.mono hF5 (List.Sublist.cons _ hM)) g12.1 g12.2.1) ?_
  refine Lst.run rfl rfl (by decide) (Ev.loadS (α := Int) rfl (hs_a1.mono hF5 (List.Sublist.cons _ hM)) Try.isAgg3 (v := .int .i64 x10) ((Get.elemN (s := 1) (x := x10) rfl g12.2.2 (Get.here _)).off (by omega))) ?_
  refine Lst.run rfl rfl (by decide) (Ev.assign rfl) ?_
  refine Lst.nil ?_
  refine At.in_normal ?_
  exact At.meet (k2, x10) hF5 ⟨rfl, rfl, trivial⟩ rfl ⟨hgo2 _ (some_inj H).symm, Nat.lt_succ_self _⟩
set_option maxRecDepth 20000 in
theorem lat_Still_sim {fu : Nat} {a0 : List (BitVec 16)} {a1 : List Int} {s_a0 : Sl} {s_a1 : Sl} {r : Int × Int × Int} (H : lat_Still fu a0 a1 = some r) (w0 : World) (F : Frz) (M L : List Item) (hM : M.Sublist L) (hs_a0 : Rd w0 F M s_a0 a0) (hs_a1 : Rd w0 F M s_a1 a1) : Ok Try.prog w0 14 [Sl.v s_a0, Sl.v s_a1] F (L) (Is (.tuple #[.int .i64 r.1, .int .i64 r.2.1, .int .i64 r.2.2]) (L)) := by
  unfold lat_Still at H
  refine Ok.enter (m := 2) (n := 23) Try.func14 rfl rfl rfl (by decide) ?_
  refine Cd.env (e' := [(0, Sl.v s_a0), (1, Sl.v s_a1)]) rfl ?_
  refine Cd.seq ?_
  refine Cd.region ?_
  refine Lst.box rfl rfl (by decide) rfl (cs := enc s_a1) rfl (fun b1 => ?_)
  refine Lst.run rfl rfl (by decide) (Ev.assign rfl) ?_
  refine Lst.run rfl rfl (by decide) (Ev.assign rfl) ?_
  refine Lst.run rfl rfl (by decide) (Ev.assign rfl) ?_
  refine Lst.nil ?_
  refine At.then ?_
  refine Cd.seq ?_
  refine Cd.seq ?_
  refine Cd.region ?_
  refine Lst.run rfl rfl (by decide) (Ev.move rfl) ?_
  refine Lst.run rfl rfl (by decide) (Ev.load (i := 0) rfl rfl Try.isAgg34 (v := Sl.v s_a1) (Get.here _)) ?_
  obtain ⟨r3, h4, H⟩ := bind_some H
  refine Lst.call1 rfl rfl (by decide) (vs := [Sl.v s_a0, Sl.v s_a1]) ⟨rfl, rfl, trivial⟩ Try.call15 (lat_Rises_sim h4 w0 _ M _ (List.Sublist.cons _ hM) (hs_a0.mono (FLe.refl _) (List.Sublist.refl _)) (hs_a1.mono (FLe.refl _) (List.Sublist.refl _))) ?_
  refine Lst.run rfl rfl (by decide) (Ev.assign rfl) ?_
  refine Lst.nil ?_
  refine At.then ?_
  refine Cd.seq ?_
  refine Cd.region ?_
  refine Lst.run rfl rfl (by decide) (Ev.move rfl) ?_
  refine Lst.run rfl rfl (by decide) (Ev.neq rfl rfl) ?_
  refine Lst.nil ?_
  refine At.then ?_
  rcases Bool.eq_false_or_eq_true (r3 != (0 : Int)) with hb7 | hb7
  · replace H := ite_t hb7 H
    refine Cd.condT rfl hb7 ?_
    refine Cd.seq ?_
    refine Cd.region ?_
    refine Lst.run rfl rfl (by decide) (Ev.move rfl) ?_
    refine Lst.run rfl rfl (by decide) (Ev.assign rfl) ?_
    refine Lst.run rfl rfl (by decide) (Ev.assign rfl) ?_
    refine Lst.run rfl rfl (by decide) (Ev.assign rfl) ?_
    refine Lst.nil ?_
    refine At.then ?_
    obtain rfl := some_inj H
    refine Cd.ret ?_
    refine At.then_ret ?_
    exact At.ret3 rfl (Res.tmp rfl) (Res.tmp rfl) (Res.tmp rfl) (FLe.refl _) (List.Sublist.cons _ (List.Sublist.refl _)) ⟨rfl, rfl⟩
  replace H := ite_f hb7 H
  refine Cd.condF rfl hb7 ?_
  refine Cd.skip ?_
  refine At.then ?_
  refine Cd.seq ?_
  refine Cd.region ?_
  refine Lst.run rfl rfl (by decide) (Ev.makeFunc (us := []) (vs := [.pointer (some ⟨b1, 0, none⟩)]) trivial ⟨rfl, trivial⟩) ?_
  refine Lst.run rfl rfl (by decide) (Ev.assign rfl) ?_
  refine Lst.nil ?_
  refine At.then ?_
  refine Cd.seq ?_
  refine Cd.region ?_
  refine Lst.run rfl rfl (by decide) (Ev.move rfl) ?_
  obtain ⟨r8, h9, H⟩ := bind_some H
  refine Lst.callV1 rfl rfl (by decide) (vs := [.int .i64 (0 : Int)]) (cs := [.pointer (some ⟨b1, 0, none⟩)]) rfl ⟨rfl, trivial⟩ Try.call46 (lat_Still_1_sim h9 w0 _ M _ hM (hs_a1.mono (FLe.refl _) (List.Sublist.refl _))) ?_
  refine Lst.run rfl rfl (by decide) (Ev.move rfl) ?_
  refine Lst.run rfl rfl (by decide) (Ev.move rfl) ?_
  refine Lst.run rfl rfl (by decide) (Ev.lenS (α := BitVec 16) (xs := a0) (by decide) rfl rfl Try.runUnderlying27 (hs_a0.mono (FLe.refl _) (List.Sublist.cons _ hM))) ?_
  refine Lst.run rfl rfl (by decide) (Ev.sub rfl rfl) ?_
  obtain ⟨r12, h13, H⟩ := bind_some H
  refine Lst.callV1 rfl rfl (by decide) (vs := [.int .i64 (w64 ((a0.length : Int) - (1 : Int)))]) (cs := [.pointer (some ⟨b1, 0, none⟩)]) rfl ⟨rfl, trivial⟩ Try.call46 (lat_Still_1_sim h13 w0 _ M _ hM (hs_a1.mono (FLe.refl _) (List.Sublist.refl _))) ?_
  refine Lst.run rfl rfl (by decide) (Ev.assign rfl) ?_
  refine Lst.run rfl rfl (by decide) (Ev.assign rfl) ?_
  refine Lst.run rfl rfl (by decide) (Ev.assign rfl) ?_
  refine Lst.nil ?_
  refine At.then ?_
  obtain rfl := some_inj H
  refine Cd.ret ?_
  exact At.ret3 rfl (Res.tmp rfl) (Res.tmp rfl) (Res.tmp rfl) (FLe.refl _) (List.Sublist.cons _ (List.Sublist.refl _)) ⟨rfl, rfl⟩
set_option maxRecDepth 20000 in
theorem slices_Index_uint16_uint16_sim {a0 : List (BitVec 16)} {a1 : BitVec 16} {s_a0 : Sl} {r : Int} (H : slices_Index_uint16_uint16 a0 a1 = some r) (w0 : World) (F : Frz) (M L : List Item) (hM : M.Sublist L) (hs_a0 : Rd w0 F M s_a0 a0) : Ok Try.prog w0 50 [Sl.v s_a0, .int .u16 a1.toNat] F (L) (Is (.int .i64 r) (L)) := by
  unfold slices_Index_uint16_uint16 at H
  refine Ok.enter (m := 2) (n := 19) Try.func50 rfl rfl rfl (by decide) ?_
  refine Cd.env (e' := [(0, Sl.v s_a0), (1, .int .u16 a1.toNat)]) rfl ?_
  refine Cd.seq ?_
  refine Cd.region ?_
  refine Lst.run rfl rfl (by decide) (Ev.assign rfl) ?_
  refine Lst.nil ?_
  refine At.then ?_
  refine Cd.seq ?_
  refine Cd.seq ?_
  refine Cd.region ?_
  refine Lst.run rfl rfl (by decide) (Ev.move rfl) ?_
  refine Lst.run rfl rfl (by decide) (Ev.lenS (α := BitVec 16) (xs := a0) (by decide) rfl rfl Try.runUnderlying27 (hs_a0.mono (FLe.refl _) hM)) ?_
  refine Lst.run rfl rfl (by decide) (Ev.move rfl) ?_
  refine Lst.nil ?_
  refine At.then ?_
  refine Cd.block ?_
  refine Cd.bound (Rd.le (α := BitVec 16) (xs := a0) (by decide) (hs_a0.mono (FLe.refl _) hM)) (fun hN8 => ?_)
  obtain ⟨ol1, H, HKl1⟩ := andThen_some H
  refine Cd.loop (σ := Nat × Nat × Unit) (fun (i1, k1, _u) => [(0, Sl.v s_a0), (1, .int .u16 a1.toNat), (7, .int .i64 (a0.length : Int)), (8, .int .i64 (i1 : Int))]) (fun (i1, k1, _u) => L) (fun _ => (fun (i1, k1, _u) => rangeM (slices_Index_uint16_uint16_B0 a0 a1) k1 i1 () = some ol1 ∧ i1 + k1 = a0.length)) (fun (i1, k1, _u) => k1) (0, a0.length, ()) ⟨rfl, rfl, rfl, rfl, trivial⟩ rfl ⟨H, by omega⟩ ?_
  rintro F2 ⟨i1, k1, _u⟩ hF3 ⟨H, hik1⟩
  refine Cd.as (e' := [(0, Sl.v s_a0), (1, .int .u16 a1.toNat), (7, .int .i64 (a0.length : Int)), (8, .int .i64 (i1 : Int))]) (L' := L) ⟨rfl, rfl, rfl, rfl, trivial⟩ rfl ?_
  rcases k1 with _ | k1
  · have hc1 : decide ((i1 : Int) < (a0.length : Int)) = false := decide_eq_false (by omega)
    replace H := rangeM_end H
    refine Cd.seq ?_
    refine Cd.region ?_
    refine Lst.run rfl rfl (by decide) (Ev.lss rfl rfl) ?_
    refine Lst.nil ?_
    refine At.then ?_
    refine Cd.seq ?_
    refine Cd.condF rfl hc1 ?_
    refine Cd.exit ?_
    refine At.then_exit ?_
    refine At.then_exit ?_
    refine At.in_exit ?_
    subst H
    replace H := HKl1
    refine At.then ?_
    refine Cd.seq ?_
    refine Cd.region ?_
    refine Lst.run rfl rfl (by decide) (Ev.assign rfl) ?_
    refine Lst.nil ?_
    refine At.then ?_
    obtain rfl := some_inj H
    refine Cd.ret ?_
    exact At.ret1 rfl (Res.tmp rfl) hF3 (List.Sublist.refl _) ⟨rfl, rfl⟩
  have hc1 : decide ((i1 : Int) < (a0.length : Int)) = true := decide_eq_true (by omega)
  obtain ⟨c1, H, hgo1, hbrk1, hret1⟩ := rangeM_go H
  unfold slices_Index_uint16_uint16_B0 at H
  try dsimp only at H
  refine Cd.seq ?_
  refine Cd.region ?_
  refine Lst.run rfl rfl (by decide) (Ev.lss rfl rfl) ?_
  refine Lst.nil ?_
  refine At.then ?_
  refine Cd.seq ?_
  refine Cd.condT rfl hc1 ?_
  refine Cd.skip ?_
  refine At.then ?_
  refine Cd.seq ?_
  refine Cd.block ?_
  refine Cd.seq ?_
  refine Cd.region ?_
  refine Lst.run rfl rfl (by decide) (Ev.move rfl) ?_
  refine Lst.run rfl rfl (by decide) (Ev.assign rfl) ?_
  refine Lst.nil ?_
  refine At.then ?_
  refine Cd.seq ?_
  refine Cd.region ?_
  refine Lst.run rfl rfl (by decide) (Ev.move rfl) ?_
  refine Lst.run rfl rfl (by decide) (Ev.move rfl) ?_
  refine Lst.run rfl rfl (by decide) (Ev.move rfl) ?_
  obtain ⟨x4, h5, H⟩ := bind_some H
  have g6 := lat_some h5
  refine Lst.run rfl rfl (by decide) (Ev.indexS (α := BitVec 16) (xs := a0) rfl rfl Try.runUnderlying27 Try.sizeOf31 rfl (by decide) (hs_a0.mono hF3 hM) g6.1 g6.2.1) ?_
  refine Lst.run rfl rfl (by decide) (Ev.loadS (α := BitVec 16) rfl (hs_a0.mono hF3 hM) Try.isAgg31 (v := .int .u16 x4.toNat) ((Get.elemN (s := 1) (x := x4) rfl g6.2.2 (Get.here _)).off (by omega))) ?_
  refine Lst.run rfl rfl (by decide) (Ev.eql rfl rfl) ?_
  refine Lst.nil ?_
  refine At.then ?_
  rcases Bool.eq_false_or_eq_true ((a1.toNat : Int) == (x4.toNat : Int)) with hb7 | hb7
  · replace H := ite_t hb7 H
    refine Cd.condT rfl hb7 ?_
    refine Cd.seq ?_
    refine Cd.region ?_
    refine Lst.run rfl rfl (by decide) (Ev.move rfl) ?_
    refine Lst.run rfl rfl (by decide) (Ev.assign rfl) ?_
    refine Lst.nil ?_
    refine At.then ?_
    have H := hret1 _ (some_inj H).symm
    subst H
    replace H := HKl1
    obtain rfl := some_inj H
    refine Cd.ret ?_
    refine At.in_ret ?_
    refine At.then_ret ?_
    refine At.then_ret ?_
    refine At.in_ret ?_
    refine At.then_ret ?_
    exact At.ret1 rfl (Res.tmp rfl) hF3 (List.Sublist.refl _) ⟨rfl, rfl⟩
  replace H := ite_f hb7 H
  refine Cd.condF rfl hb7 ?_
  refine Cd.skip ?_
  refine At.in_normal ?_
  refine At.then ?_
  refine Cd.region ?_
  refine Lst.run rfl rfl (by decide) (Ev.incr (by omega) rfl rfl) ?_
  refine Lst.run rfl rfl (by decide) (Ev.move rfl) ?_
  refine Lst.nil ?_
  exact At.meet (i1 + 1, k1, ()) hF3 ⟨rfl, rfl, rfl, rfl, trivial⟩ rfl ⟨⟨hgo1 _ (some_inj H).symm, by omega⟩, Nat.lt_succ_self _⟩
set_option maxRecDepth 20000 in
theorem partref_Still_sim {a0 : List (BitVec 16)} {a1 : List Int} {s_a0 : Sl} {s_a1 : Sl} {r : Int × Int} (H : partref_Still a0 a1 = some r) (w0 : World) (F : Frz) (M L : List Item) (hM : M.Sublist L) (hs_a0 : Rd w0 F M s_a0 a0) (hs_a1 : Rd w0 F M s_a1 a1) : Ok Try.prog w0 16 [Sl.v s_a0, Sl.v s_a1] F (L) (Is (.tuple #[.int .i64 r.1, .int .i64 r.2]) (L)) := by
  unfold partref_Still at H
  refine Ok.enter (m := 2) (n := 67) Try.func16 rfl rfl rfl (by decide) ?_
  refine Cd.env (e' := [(0, Sl.v s_a0), (1, Sl.v s_a1)]) rfl ?_
  refine Cd.seq ?_
  refine Cd.region ?_
  refine Lst.run rfl rfl (by decide) (Ev.assign rfl) ?_
  refine Lst.run rfl rfl (by decide) (Ev.assign rfl) ?_
  refine Lst.nil ?_
  refine At.then ?_
  refine Cd.seq ?_
  refine Cd.quiet (by kernel_rfl) (by kernel_rfl) ?_
  refine Qt.run rfl rfl (by decide) (Ev.move rfl) ?_
  refine Qt.run rfl rfl (by decide) (Ev.move rfl) ?_
  refine Qt.run rfl rfl (by decide) (Ev.lenS (α := BitVec 16) (xs := a0) (by decide) rfl rfl Try.runUnderlying27 (hs_a0.mono (FLe.refl _) hM)) ?_
  refine Qt.run rfl rfl (by decide) (Ev.sub rfl rfl) ?_
  obtain ⟨x1, h2, H⟩ := bind_some H
  have g3 := lat_some h2
  refine Qt.run rfl rfl (by decide) (Ev.indexS (α := BitVec 16) (xs := a0) rfl rfl Try.runUnderlying27 Try.sizeOf31 rfl (by decide) (hs_a0.mono (FLe.refl _) hM) g3.1 g3.2.1) ?_
  refine Qt.run rfl rfl (by decide) (Ev.loadS (α := BitVec 16) rfl (hs_a0.mono (FLe.refl _) hM) Try.isAgg31 (v := .int .u16 x1.toNat) ((Get.elemN (s := 1) (x := x1) rfl g3.2.2 (Get.here _)).off (by omega))) ?_
  refine Qt.run rfl rfl (by decide) (Ev.move rfl) ?_
  obtain ⟨x4, h5, H⟩ := bind_some H
  have g6 := lat_some h5
  refine Qt.run rfl rfl (by decide) (Ev.indexS (α := BitVec 16) (xs := a0) rfl rfl Try.runUnderlying27 Try.sizeOf31 rfl (by decide) (hs_a0.mono (FLe.refl _) hM) g6.1 g6.2.1) ?_
  refine Qt.run rfl rfl (by decide) (Ev.loadS (α := BitVec 16) rfl (hs_a0.mono (FLe.refl _) hM) Try.isAgg31 (v := .int .u16 x4.toNat) ((Get.elemN (s := 1) (x := x4) rfl g6.2.2 (Get.here _)).off (by omega))) ?_
  refine Qt.run rfl rfl (by decide) (Ev.assign rfl) ?_
  refine Qt.run rfl rfl (by decide) (Ev.assign rfl) ?_
  refine Qt.done ?_
  refine At.then ?_
  refine Cd.seq ?_
  refine Cd.seq ?_
  refine Cd.region ?_
  refine Lst.run rfl rfl (by decide) (Ev.move rfl) ?_
  refine Lst.run rfl rfl (by decide) (Ev.lenS (α := BitVec 16) (xs := a0) (by decide) rfl rfl Try.runUnderlying27 (hs_a0.mono (FLe.refl _) hM)) ?_
  refine Lst.run rfl rfl (by decide) (Ev.move rfl) ?_
  refine Lst.nil ?_
  refine At.then ?_
  refine Cd.block ?_
  refine Cd.bound (Rd.le (α := BitVec 16) (xs := a0) (by decide) (hs_a0.mono (FLe.refl _) hM)) (fun hN47 => ?_)
  obtain ⟨ol7, H, HKl7⟩ := bind_some H
  refine Cd.loop (σ := Nat × Nat × (BitVec 16) × (BitVec 16)) (fun (i7, k7, y8, y9) => [(0, Sl.v s_a0), (1, Sl.v s_a1), (6, .int .u16 y8.toNat), (7, .int .u16 y9.toNat), (19, Sl.v s_a0), (20, .int .i64 (a0.length : Int)), (21, .int .i64 (i7 : Int))]) (fun (i7, k7, y8, y9) => L) (fun _ => (fun (i7, k7, y8, y9) => rangeF (partref_Still_B0 a0 a1) k7 i7 (y8, y9) = some ol7 ∧ i7 + k7 = a0.length)) (fun (i7, k7, y8, y9) => k7) (0, a0.length, x1, x4) ⟨rfl, rfl, rfl, rfl, rfl, rfl, rfl, trivial⟩ rfl ⟨H, by omega⟩ ?_
  rintro F10 ⟨i7, k7, y8, y9⟩ hF11 ⟨H, hik7⟩
  refine Cd.as (e' := [(0, Sl.v s_a0), (1, Sl.v s_a1), (6, .int .u16 y8.toNat), (7, .int .u16 y9.toNat), (19, Sl.v s_a0), (20, .int .i64 (a0.length : Int)), (21, .int .i64 (i7 : Int))]) (L' := L) ⟨rfl, rfl, rfl, rfl, rfl, rfl, rfl, trivial⟩ rfl ?_
  rcases k7 with _ | k7
  · have hc7 : decide ((i7 : Int) < (a0.length : Int)) = false := decide_eq_false (by omega)
    replace H := rangeF_end H
    refine Cd.seq ?_
    refine Cd.region ?_
    refine Lst.run rfl rfl (by decide) (Ev.lss rfl rfl) ?_
    refine Lst.nil ?_
    refine At.then ?_
    refine Cd.seq ?_
    refine Cd.condF rfl hc7 ?_
    refine Cd.exit ?_
    refine At.then_exit ?_
    refine At.then_exit ?_
    refine At.in_exit ?_
    subst H
    replace H := HKl7
    refine At.then ?_
    refine Cd.seq ?_
    refine Cd.region ?_
    refine Lst.run rfl rfl (by decide) (Ev.move rfl) ?_
    refine Lst.run rfl rfl (by decide) (Ev.move rfl) ?_
    obtain ⟨r39, h40, H⟩ := bind_some H
    refine Lst.call1 rfl rfl (by decide) (vs := [Sl.v s_a0, .int .u16 y8.toNat]) ⟨rfl, rfl, trivial⟩ Try.call50 (slices_Index_uint16_uint16_sim h40 w0 _ M _ hM (hs_a0.mono hF11 (List.Sublist.refl _))) ?_
    refine Lst.run rfl rfl (by decide) (Ev.move rfl) ?_
    refine Lst.run rfl rfl (by decide) (Ev.move rfl) ?_
    obtain ⟨r43, h44, H⟩ := bind_some H
    refine Lst.call1 rfl rfl (by decide) (vs := [Sl.v s_a0, .int .u16 y9.toNat]) ⟨rfl, rfl, trivial⟩ Try.call50 (slices_Index_uint16_uint16_sim h44 w0 _ M _ hM (hs_a0.mono hF11 (List.Sublist.refl _))) ?_
    refine Lst.run rfl rfl (by decide) (Ev.assign rfl) ?_
    refine Lst.run rfl rfl (by decide) (Ev.assign rfl) ?_
    refine Lst.nil ?_
    refine At.then ?_
    obtain rfl := some_inj H
    refine Cd.ret ?_
    exact At.ret2 rfl (Res.tmp rfl) (Res.tmp rfl) hF11 (List.Sublist.refl _) ⟨rfl, rfl⟩
  have hc7 : decide ((i7 : Int) < (a0.length : Int)) = true := decide_eq_true (by omega)
  obtain ⟨c7, H, hgo7⟩ := rangeF_go H
  unfold partref_Still_B0 at H
  try dsimp only at H
  refine Cd.seq ?_
  refine Cd.region ?_
  refine Lst.run rfl rfl (by decide) (Ev.lss rfl rfl) ?_
  refine Lst.nil ?_
  refine At.then ?_
  refine Cd.seq ?_
  refine Cd.condT rfl hc7 ?_
  refine Cd.skip ?_
  refine At.then ?_
  refine Cd.seq ?_
  refine Cd.block ?_
  refine Cd.seq ?_
  refine Cd.region ?_
  refine Lst.run rfl rfl (by decide) (Ev.move rfl) ?_
  obtain ⟨x12, h13, H⟩ := bind_some H
  have g14 := lat_some h13
  refine Lst.run rfl rfl (by decide) (Ev.indexS (α := BitVec 16) (xs := a0) rfl rfl Try.runUnderlying27 Try.sizeOf31 rfl (by decide) (hs_a0.mono hF11 hM) g14.1 g14.2.1) ?_
  refine Lst.run rfl rfl (by decide) (Ev.loadS (α := BitVec 16) rfl (hs_a0.mono hF11 hM) Try.isAgg31 (v := .int .u16 x12.toNat) ((Get.elemN (s := 1) (x := x12) rfl g14.2.2 (Get.here _)).off (by omega))) ?_
  refine Lst.run rfl rfl (by decide) (Ev.assign rfl) ?_
  refine Lst.run rfl rfl (by decide) (Ev.assign rfl) ?_
  refine Lst.nil ?_
  refine At.then ?_
  obtain ⟨o16, H, HKo16⟩ := bind_some H
  refine Cd.join (σ := (BitVec 16)) (fun y15 => [(0, Sl.v s_a0), (1, Sl.v s_a1), (6, .int .u16 y15.toNat), (7, .int .u16 y9.toNat), (8, .int .i64 (i7 : Int)), (9, .int .u16 x12.toNat), (19, Sl.v s_a0), (20, .int .i64 (a0.length : Int)), (21, .int .i64 (i7 : Int))]) (fun y15 => L) (fun _ y15 => y15 = o16) ?_ ?_
  · refine Cd.seq ?_
    refine Cd.region ?_
    refine Lst.run rfl rfl (by decide) (Ev.move rfl) ?_
    refine Lst.run rfl rfl (by decide) (Ev.move rfl) ?_
    refine Lst.run rfl rfl (by decide) (Ev.move rfl) ?_
    obtain ⟨x17, h18, H⟩ := bind_some H
    have g19 := lat_some h18
    refine Lst.run rfl rfl (by decide) (Ev.indexS (α := Int) (xs := a1) rfl rfl Try.runUnderlying34 Try.sizeOf3 rfl (by decide) (hs_a1.mono hF11 hM) g19.1 g19.2.1) ?_
    refine Lst.run rfl rfl (by decide) (Ev.loadS (α := Int) rfl (hs_a1.mono hF11 hM) Try.isAgg3 (v := .int .i64 x17) ((Get.elemN (s := 1) (x := x17) rfl g19.2.2 (Get.here _)).off (by omega))) ?_
    obtain ⟨x20, h21, H⟩ := bind_some H
    have g22 := lat_some h21
    refine Lst.run rfl rfl (by decide) (Ev.indexS (α := BitVec 16) (xs := a0) rfl rfl Try.runUnderlying27 Try.sizeOf31 rfl (by decide) (hs_a0.mono hF11 hM) g22.1 g22.2.1) ?_
    refine Lst.run rfl rfl (by decide) (Ev.loadS (α := BitVec 16) rfl (hs_a0.mono hF11 hM) Try.isAgg31 (v := .int .u16 x20.toNat) ((Get.elemN (s := 1) (x := x20) rfl g22.2.2 (Get.here _)).off (by omega))) ?_
    refine Lst.run rfl rfl (by decide) (Ev.move rfl) ?_
    refine Lst.run rfl rfl (by decide) (Ev.orU16 (i := x20) (j := x12) rfl rfl) ?_
    refine Lst.run rfl rfl (by decide) (Ev.move rfl) ?_
    refine Lst.run rfl rfl (by decide) (Ev.eql rfl rfl) ?_
    refine Lst.nil ?_
    refine At.then ?_
    rcases (Bool.eq_false_or_eq_true (((x20 ||| x12).toNat : Int) == (x12.toNat : Int))).symm with hb23 | hb23
    · replace H := ite_f hb23 H
      refine Cd.condF rfl hb23 ?_
      refine Cd.skip ?_
      exact At.meet y8 (FLe.refl _) ⟨rfl, rfl, rfl, rfl, rfl, rfl, rfl, rfl, rfl, trivial⟩ rfl (some_inj H)
    replace H := ite_t hb23 H
    refine Cd.condT rfl hb23 ?_
    refine Cd.as (e' := [(0, Sl.v s_a0), (1, Sl.v s_a1), (6, .int .u16 y8.toNat), (7, .int .u16 y9.toNat), (19, Sl.v s_a0), (20, .int .i64 (a0.length : Int)), (21, .int .i64 (i7 : Int)), (8, .int .i64 (i7 : Int)), (9, .int .u16 x12.toNat)]) (L' := L) ⟨rfl, rfl, rfl, rfl, rfl, rfl, rfl, rfl, rfl, trivial⟩ rfl ?_
    refine Cd.region ?_
    refine Lst.run rfl rfl (by decide) (Ev.move rfl) ?_
    refine Lst.run rfl rfl (by decide) (Ev.move rfl) ?_
    refine Lst.run rfl rfl (by decide) (Ev.andU16 (i := y8) (j := x12) rfl rfl) ?_
    refine Lst.run rfl rfl (by decide) (Ev.assign rfl) ?_
    refine Lst.nil ?_
    exact At.meet (y8 &&& x12) (FLe.refl _) ⟨rfl, rfl, rfl, rfl, rfl, rfl, rfl, rfl, rfl, trivial⟩ rfl (some_inj H)
  rintro F24 y15 hF25 hy
  subst hy
  refine Cd.as (e' := [(0, Sl.v s_a0), (1, Sl.v s_a1), (6, .int .u16 y15.toNat), (7, .int .u16 y9.toNat), (8, .int .i64 (i7 : Int)), (9, .int .u16 x12.toNat), (19, Sl.v s_a0), (20, .int .i64 (a0.length : Int)), (21, .int .i64 (i7 : Int))]) (L' := L) ⟨rfl, rfl, rfl, rfl, rfl, rfl, rfl, rfl, rfl, trivial⟩ rfl ?_
  replace H := HKo16
  refine Cd.seq ?_
  refine Cd.quiet (by kernel_rfl) (by kernel_rfl) ?_
  refine Qt.run rfl rfl (by decide) (Ev.move rfl) ?_
  refine Qt.run rfl rfl (by decide) (Ev.move rfl) ?_
  refine Qt.run rfl rfl (by decide) (Ev.move rfl) ?_
  obtain ⟨x26, h27, H⟩ := bind_some H
  have g28 := lat_some h27
  refine Qt.run rfl rfl (by decide) (Ev.indexS (α := Int) (xs := a1) rfl rfl Try.runUnderlying34 Try.sizeOf3 rfl (by decide) (hs_a1.mono (FLe.trans hF11 hF25) hM) g28.1 g28.2.1) ?_
  refine Qt.run rfl rfl (by decide) (Ev.loadS (α := Int) rfl (hs_a1.mono (FLe.trans hF11 hF25) hM) Try.isAgg3 (v := .int .i64 x26) ((Get.elemN (s := 1) (x := x26) rfl g28.2.2 (Get.here _)).off (by omega))) ?_
  obtain ⟨x29, h30, H⟩ := bind_some H
  have g31 := lat_some h30
  refine Qt.run rfl rfl (by decide) (Ev.indexS (α := BitVec 16) (xs := a0) rfl rfl Try.runUnderlying27 Try.sizeOf31 rfl (by decide) (hs_a0.mono (FLe.trans hF11 hF25) hM) g31.1 g31.2.1) ?_
  refine Qt.run rfl rfl (by decide) (Ev.loadS (α := BitVec 16) rfl (hs_a0.mono (FLe.trans hF11 hF25) hM) Try.isAgg31 (v := .int .u16 x29.toNat) ((Get.elemN (s := 1) (x := x29) rfl g31.2.2 (Get.here _)).off (by omega))) ?_
  refine Qt.run rfl rfl (by decide) (Ev.move rfl) ?_
  refine Qt.run rfl rfl (by decide) (Ev.orU16 (i := x29) (j := x12) rfl rfl) ?_
  refine Qt.run rfl rfl (by decide) (Ev.move rfl) ?_
  refine Qt.run rfl rfl (by decide) (Ev.move rfl) ?_
  refine Qt.run rfl rfl (by decide) (Ev.move rfl) ?_
  obtain ⟨x32, h33, H⟩ := bind_some H
  have g34 := lat_some h33
  refine Qt.run rfl rfl (by decide) (Ev.indexS (α := Int) (xs := a1) rfl rfl Try.runUnderlying34 Try.sizeOf3 rfl (by decide) (hs_a1.mono (FLe.trans hF11 hF25) hM) g34.1 g34.2.1) ?_
  refine Qt.run rfl rfl (by decide) (Ev.loadS (α := Int) rfl (hs_a1.mono (FLe.trans hF11 hF25) hM) Try.isAgg3 (v := .int .i64 x32) ((Get.elemN (s := 1) (x := x32) rfl g34.2.2 (Get.here _)).off (by omega))) ?_
  obtain ⟨x35, h36, H⟩ := bind_some H
  have g37 := lat_some h36
  refine Qt.run rfl rfl (by decide) (Ev.indexS (α := BitVec 16) (xs := a0) rfl rfl Try.runUnderlying27 Try.sizeOf31 rfl (by decide) (hs_a0.mono (FLe.trans hF11 hF25) hM) g37.1 g37.2.1) ?_
  refine Qt.run rfl rfl (by decide) (Ev.loadS (α := BitVec 16) rfl (hs_a0.mono (FLe.trans hF11 hF25) hM) Try.isAgg31 (v := .int .u16 x35.toNat) ((Get.elemN (s := 1) (x := x35) rfl g37.2.2 (Get.here _)).off (by omega))) ?_
  refine Qt.run rfl rfl (by decide) (Ev.eql rfl rfl) ?_
  refine Qt.done ?_
  refine At.then ?_
  rcases (Bool.eq_false_or_eq_true (((x29 ||| x12).toNat : Int) == (x35.toNat : Int))).symm with hb38 | hb38
  · replace H := ite_f hb38 H
    refine Cd.condF rfl hb38 ?_
    refine Cd.skip ?_
    refine At.in_normal ?_
    refine At.then ?_
    refine Cd.as (e' := [(0, Sl.v s_a0), (1, Sl.v s_a1), (6, .int .u16 y15.toNat), (7, .int .u16 y9.toNat), (19, Sl.v s_a0), (20, .int .i64 (a0.length : Int)), (21, .int .i64 (i7 : Int))]) (L' := L) ⟨rfl, rfl, rfl, rfl, rfl, rfl, rfl, trivial⟩ rfl ?_
    refine Cd.region ?_
    refine Lst.run rfl rfl (by decide) (Ev.incr (by omega) rfl rfl) ?_
    refine Lst.run rfl rfl (by decide) (Ev.move rfl) ?_
    refine Lst.nil ?_
    exact At.meet (i7 + 1, k7, y15, y9) (FLe.trans hF11 hF25) ⟨rfl, rfl, rfl, rfl, rfl, rfl, rfl, trivial⟩ rfl ⟨⟨hgo7 _ (some_inj H).symm, by omega⟩, Nat.lt_succ_self _⟩
  replace H := ite_t hb38 H
  refine Cd.condT rfl hb38 ?_
  refine Cd.as (e' := [(0, Sl.v s_a0), (1, Sl.v s_a1), (6, .int .u16 y15.toNat), (7, .int .u16 y9.toNat), (9, .int .u16 x12.toNat), (19, Sl.v s_a0), (20, .int .i64 (a0.length : Int)), (21, .int .i64 (i7 : Int))]) (L' := L) ⟨rfl, rfl, rfl, rfl, rfl, rfl, rfl, rfl, trivial⟩ rfl ?_
  refine Cd.region ?_
  refine Lst.run rfl rfl (by decide) (Ev.move rfl) ?_
  refine Lst.run rfl rfl (by decide) (Ev.move rfl) ?_
  refine Lst.run rfl rfl (by decide) (Ev.orU16 (i := y9) (j := x12) rfl rfl) ?_
  refine Lst.run rfl rfl (by decide) (Ev.assign rfl) ?_
  refine Lst.nil ?_
  refine At.in_normal ?_
  refine At.then ?_
  refine Cd.region ?_
  refine Lst.run rfl rfl (by decide) (Ev.incr (by omega) rfl rfl) ?_
  refine Lst.run rfl rfl (by decide) (Ev.move rfl) ?_
  refine Lst.nil ?_
  exact At.meet (i7 + 1, k7, y15, y9 ||| x12) (FLe.trans hF11 hF25) ⟨rfl, rfl, rfl, rfl, rfl, rfl, rfl, trivial⟩ rfl ⟨⟨hgo7 _ (some_inj H).symm, by omega⟩, Nat.lt_succ_self _⟩
set_option maxRecDepth 20000 in
theorem partlaw_LatMaps_sim {fu : Nat} {a0 : List (BitVec 16)} {a1 : List Int} {s_a0 : Sl} {s_a1 : Sl} {r : Bool} (H : partlaw_LatMaps fu a0 a1 = some r) (w0 : World) (F : Frz) (M L : List Item) (hM : M.Sublist L) (hs_a0 : Rd w0 F M s_a0 a0) (hs_a1 : Rd w0 F M s_a1 a1) : Ok Try.prog w0 4 [Sl.v s_a0, Sl.v s_a1] F (L) (Is (.bool r) (L)) := by
  unfold partlaw_LatMaps at H
  refine Ok.enter (m := 2) (n := 57) Try.func4 rfl rfl rfl (by decide) ?_
  refine Cd.env (e' := [(0, Sl.v s_a0), (1, Sl.v s_a1)]) rfl ?_
  refine Cd.seq ?_
  refine Cd.region ?_
  refine Lst.run rfl rfl (by decide) (Ev.assign rfl) ?_
  refine Lst.nil ?_
  refine At.then ?_
  refine Cd.seq ?_
  refine Cd.region ?_
  refine Lst.run rfl rfl (by decide) (Ev.move rfl) ?_
  refine Lst.run rfl rfl (by decide) (Ev.move rfl) ?_
  obtain ⟨r1, h2, H⟩ := bind_some H
  refine Lst.call1 rfl rfl (by decide) (vs := [Sl.v s_a0, Sl.v s_a1]) ⟨rfl, rfl, trivial⟩ Try.call13 (partref_MapErr_sim h2 w0 _ M _ hM (hs_a0.mono (FLe.refl _) (List.Sublist.refl _)) (hs_a1.mono (FLe.refl _) (List.Sublist.refl _))) ?_
  refine Lst.run rfl rfl (by decide) (Ev.assign rfl) ?_
  refine Lst.nil ?_
  refine At.then ?_
  refine Cd.seq ?_
  refine Cd.region ?_
  refine Lst.run rfl rfl (by decide) (Ev.move rfl) ?_
  refine Lst.run rfl rfl (by decide) (Ev.move rfl) ?_
  obtain ⟨r5, h6, H⟩ := bind_some H
  refine Lst.call1 rfl rfl (by decide) (vs := [Sl.v s_a0, Sl.v s_a1]) ⟨rfl, rfl, trivial⟩ Try.call14 (lat_Still_sim h6 w0 _ M _ hM (hs_a0.mono (FLe.refl _) (List.Sublist.refl _)) (hs_a1.mono (FLe.refl _) (List.Sublist.refl _))) ?_
  refine Lst.run rfl rfl (by decide) (Ev.move rfl) ?_
  refine Lst.run rfl rfl (by decide) (Ev.extract rfl rfl) ?_
  refine Lst.run rfl rfl (by decide) (Ev.extract rfl rfl) ?_
  refine Lst.run rfl rfl (by decide) (Ev.extract rfl rfl) ?_
  refine Lst.run rfl rfl (by decide) (Ev.assign rfl) ?_
  refine Lst.run rfl rfl (by decide) (Ev.assign rfl) ?_
  refine Lst.run rfl rfl (by decide) (Ev.assign rfl) ?_
  refine Lst.nil ?_
  refine At.then ?_
  refine Cd.seq ?_
  refine Cd.seq ?_
  refine Cd.region ?_
  refine Lst.run rfl rfl (by decide) (Ev.move rfl) ?_
  refine Lst.run rfl rfl (by decide) (Ev.move rfl) ?_
  obtain ⟨r9, h10, H⟩ := bind_some H
  refine Lst.call1 rfl rfl (by decide) (vs := [Sl.v s_a0, Sl.v s_a1]) ⟨rfl, rfl, trivial⟩ Try.call15 (lat_Rises_sim h10 w0 _ M _ hM (hs_a0.mono (FLe.refl _) (List.Sublist.refl _)) (hs_a1.mono (FLe.refl _) (List.Sublist.refl _))) ?_
  refine Lst.run rfl rfl (by decide) (Ev.move rfl) ?_
  refine Lst.run rfl rfl (by decide) (Ev.neq rfl rfl) ?_
  refine Lst.nil ?_
  refine At.then ?_
  rcases Bool.eq_false_or_eq_true (r9 != r1) with hb13 | hb13
  · replace H := ite_t hb13 H
    refine Cd.condT rfl hb13 ?_
    refine Cd.seq ?_
    refine Cd.as (e' := []) (L' := L) trivial rfl ?_
    refine Cd.region ?_
    refine Lst.run rfl rfl (by decide) (Ev.assign rfl) ?_
    refine Lst.nil ?_
    refine At.then ?_
    obtain rfl := some_inj H
    refine Cd.ret ?_
    refine At.then_ret ?_
    exact At.ret1 rfl (Res.tmp rfl) (FLe.refl _) (List.Sublist.refl _) ⟨rfl, rfl⟩
  replace H := ite_f hb13 H
  refine Cd.condF rfl hb13 ?_
  refine Cd.skip ?_
  refine At.then ?_
  refine Cd.seq ?_
  refine Cd.seq ?_
  refine Cd.as (e' := [(0, Sl.v s_a0), (1, Sl.v s_a1), (5, .int .i64 r1), (6, .int .i64 r5.1), (7, .int .i64 r5.2.1), (8, .int .i64 r5.2.2)]) (L' := L) ⟨rfl, rfl, rfl, rfl, rfl, rfl, trivial⟩ rfl ?_
  refine Cd.region ?_
  refine Lst.run rfl rfl (by decide) (Ev.move rfl) ?_
  refine Lst.run rfl rfl (by decide) (Ev.neq rfl rfl) ?_
  refine Lst.nil ?_
  refine At.then ?_
  rcases Bool.eq_false_or_eq_true (r1 != (0 : Int)) with hb14 | hb14
  · replace H := ite_t hb14 H
    refine Cd.condT rfl hb14 ?_
    refine Cd.seq ?_
    refine Cd.region ?_
    refine Lst.run rfl rfl (by decide) (Ev.move rfl) ?_
    refine Lst.run rfl rfl (by decide) (Ev.eql rfl rfl) ?_
    refine Lst.run rfl rfl (by decide) (Ev.move rfl) ?_
    obtain ⟨o15, H, HKo15⟩ := bind_some H
    refine Lst.join (σ := Bool) 3 (fun y16 => [(5, .int .i64 r1), (8, .int .i64 r5.2.2), (33, .bool y16)]) (fun y16 => L) (fun _ y16 => y16 = o15) ?_ ?_
    · rcases (Bool.eq_false_or_eq_true (r5.1 == (0 : Int))).symm with hb17 | hb17
      · replace H := ite_f hb17 H
        refine Lst.skip rfl rfl rfl hb17 rfl (by decide) ?_
        refine Lst.skip rfl rfl rfl hb17 rfl (by decide) ?_
        refine Lst.run rfl rfl (by decide) (Ev.pickF rfl hb17 rfl) ?_
        refine Lst.nil ?_
        exact At.meet false (FLe.refl _) ⟨rfl, rfl, rfl, trivial⟩ rfl (some_inj H)
      replace H := ite_t hb17 H
      refine Lst.runG rfl rfl rfl hb17 rfl (by decide) (Ev.move rfl) ?_
      refine Lst.runG rfl rfl rfl hb17 rfl (by decide) (Ev.eql rfl rfl) ?_
      refine Lst.run rfl rfl (by decide) (Ev.pickT rfl hb17 rfl) ?_
      refine Lst.nil ?_
      exact At.meet (r5.2.1 == (0 : Int)) (FLe.refl _) ⟨rfl, rfl, rfl, trivial⟩ rfl (some_inj H)
    rintro F18 y16 hF19 hy
    subst hy
    refine Lst.as (e' := [(5, .int .i64 r1), (8, .int .i64 r5.2.2), (33, .bool y16)]) (L' := L) ⟨rfl, rfl, rfl, trivial⟩ rfl ?_
    replace H := HKo15
    refine Lst.run rfl rfl (by decide) (Ev.move rfl) ?_
    obtain ⟨o20, H, HKo20⟩ := bind_some H
    refine Lst.join (σ := Bool) 4 (fun y21 => [(38, .bool y21)]) (fun y21 => L) (fun _ y21 => y21 = o20) ?_ ?_
    · rcases (Bool.eq_false_or_eq_true y16).symm with hb22 | hb22
      · replace H := ite_f hb22 H
        refine Lst.skip rfl rfl rfl hb22 rfl (by decide) ?_
        refine Lst.skip rfl rfl rfl hb22 rfl (by decide) ?_
        refine Lst.skip rfl rfl rfl hb22 rfl (by decide) ?_
        refine Lst.run rfl rfl (by decide) (Ev.pickF rfl hb22 rfl) ?_
        refine Lst.nil ?_
        exact At.meet false (FLe.refl _) ⟨rfl, trivial⟩ rfl (some_inj H)
      replace H := ite_t hb22 H
      refine Lst.runG rfl rfl rfl hb22 rfl (by decide) (Ev.move rfl) ?_
      refine Lst.runG rfl rfl rfl hb22 rfl (by decide) (Ev.move rfl) ?_
      refine Lst.runG rfl rfl rfl hb22 rfl (by decide) (Ev.eql rfl rfl) ?_
      refine Lst.run rfl rfl (by decide) (Ev.pickT rfl hb22 rfl) ?_
      refine Lst.nil ?_
      exact At.meet (r5.2.2 == r1) (FLe.refl _) ⟨rfl, trivial⟩ rfl (some_inj H)
    rintro F23 y21 hF24 hy
    subst hy
    refine Lst.as (e' := [(38, .bool y21)]) (L' := L) ⟨rfl, trivial⟩ rfl ?_
    replace H := HKo20
    refine Lst.run rfl rfl (by decide) (Ev.assign rfl) ?_
    refine Lst.nil ?_
    refine At.then ?_
    obtain rfl := some_inj H
    refine Cd.ret ?_
    refine At.then_ret ?_
    exact At.ret1 rfl (Res.tmp rfl) (FLe.trans hF19 hF24) (List.Sublist.refl _) ⟨rfl, rfl⟩
  replace H := ite_f hb14 H
  refine Cd.condF rfl hb14 ?_
  refine Cd.skip ?_
  refine At.then ?_
  refine Cd.seq ?_
  refine Cd.region ?_
  refine Lst.run rfl rfl (by decide) (Ev.move rfl) ?_
  refine Lst.run rfl rfl (by decide) (Ev.move rfl) ?_
  obtain ⟨r25, h26, H⟩ := bind_some H
  refine Lst.call1 rfl rfl (by decide) (vs := [Sl.v s_a0, Sl.v s_a1]) ⟨rfl, rfl, trivial⟩ Try.call16 (partref_Still_sim h26 w0 _ M _ hM (hs_a0.mono (FLe.refl _) (List.Sublist.refl _)) (hs_a1.mono (FLe.refl _) (List.Sublist.refl _))) ?_
  refine Lst.run rfl rfl (by decide) (Ev.move rfl) ?_
  refine Lst.run rfl rfl (by decide) (Ev.extract rfl rfl) ?_
  refine Lst.run rfl rfl (by decide) (Ev.extract rfl rfl) ?_
  refine Lst.run rfl rfl (by decide) (Ev.assign rfl) ?_
  refine Lst.run rfl rfl (by decide) (Ev.assign rfl) ?_
  refine Lst.nil ?_
  refine At.then ?_
  refine Cd.seq ?_
  refine Cd.region ?_
  refine Lst.run rfl rfl (by decide) (Ev.move rfl) ?_
  refine Lst.run rfl rfl (by decide) (Ev.move rfl) ?_
  refine Lst.run rfl rfl (by decide) (Ev.eql rfl rfl) ?_
  refine Lst.run rfl rfl (by decide) (Ev.move rfl) ?_
  obtain ⟨o29, H, HKo29⟩ := bind_some H
  refine Lst.join (σ := Bool) 4 (fun y30 => [(8, .int .i64 r5.2.2), (52, .bool y30)]) (fun y30 => L) (fun _ y30 => y30 = o29) ?_ ?_
  · rcases (Bool.eq_false_or_eq_true (r5.1 == r25.1)).symm with hb31 | hb31
    · replace H := ite_f hb31 H
      refine Lst.skip rfl rfl rfl hb31 rfl (by decide) ?_
      refine Lst.skip rfl rfl rfl hb31 rfl (by decide) ?_
      refine Lst.skip rfl rfl rfl hb31 rfl (by decide) ?_
      refine Lst.run rfl rfl (by decide) (Ev.pickF rfl hb31 rfl) ?_
      refine Lst.nil ?_
      exact At.meet false (FLe.refl _) ⟨rfl, rfl, trivial⟩ rfl (some_inj H)
    replace H := ite_t hb31 H
    refine Lst.runG rfl rfl rfl hb31 rfl (by decide) (Ev.move rfl) ?_
    refine Lst.runG rfl rfl rfl hb31 rfl (by decide) (Ev.move rfl) ?_
    refine Lst.runG rfl rfl rfl hb31 rfl (by decide) (Ev.eql rfl rfl) ?_
    refine Lst.run rfl rfl (by decide) (Ev.pickT rfl hb31 rfl) ?_
    refine Lst.nil ?_
    exact At.meet (r5.2.1 == r25.2) (FLe.refl _) ⟨rfl, rfl, trivial⟩ rfl (some_inj H)
  rintro F32 y30 hF33 hy
  subst hy
  refine Lst.as (e' := [(8, .int .i64 r5.2.2), (52, .bool y30)]) (L' := L) ⟨rfl, rfl, trivial⟩ rfl ?_
  replace H := HKo29
  refine Lst.run rfl rfl (by decide) (Ev.move rfl) ?_
  obtain ⟨o34, H, HKo34⟩ := bind_some H
  refine Lst.join (σ := Bool) 3 (fun y35 => [(56, .bool y35)]) (fun y35 => L) (fun _ y35 => y35 = o34) ?_ ?_
  · rcases (Bool.eq_false_or_eq_true y30).symm with hb36 | hb36
    · replace H := ite_f hb36 H
      refine Lst.skip rfl rfl rfl hb36 rfl (by decide) ?_
      refine Lst.skip rfl rfl rfl hb36 rfl (by decide) ?_
      refine Lst.run rfl rfl (by decide) (Ev.pickF rfl hb36 rfl) ?_
      refine Lst.nil ?_
      exact At.meet false (FLe.refl _) ⟨rfl, trivial⟩ rfl (some_inj H)
    replace H := ite_t hb36 H
    refine Lst.runG rfl rfl rfl hb36 rfl (by decide) (Ev.move rfl) ?_
    refine Lst.runG rfl rfl rfl hb36 rfl (by decide) (Ev.eql rfl rfl) ?_
    refine Lst.run rfl rfl (by decide) (Ev.pickT rfl hb36 rfl) ?_
    refine Lst.nil ?_
    exact At.meet (r5.2.2 == (0 : Int)) (FLe.refl _) ⟨rfl, trivial⟩ rfl (some_inj H)
  rintro F37 y35 hF38 hy
  subst hy
  refine Lst.as (e' := [(56, .bool y35)]) (L' := L) ⟨rfl, trivial⟩ rfl ?_
  replace H := HKo34
  refine Lst.run rfl rfl (by decide) (Ev.assign rfl) ?_
  refine Lst.nil ?_
  refine At.then ?_
  obtain rfl := some_inj H
  refine Cd.ret ?_
  exact At.ret1 rfl (Res.tmp rfl) (FLe.trans hF33 hF38) (List.Sublist.refl _) ⟨rfl, rfl⟩
end Go.Proofs.Yticifbmaapnfbaa
