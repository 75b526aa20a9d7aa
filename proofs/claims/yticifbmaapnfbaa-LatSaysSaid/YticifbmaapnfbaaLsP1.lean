/-
  The functions compute their specs; printed by a program.
-/
import Derived.Test.YticifbmaapnfbaaLsSp
import Derived.Test.YticifbmaapnfbaaGoL
import Derived.Test.YticifbmaapnfbaaGoK
import Derived.Test.YticifbmaapnfbaaGoI
import Derived.Test.YticifbmaapnfbaaGoU
import Derived.Test.YticifbmaapnfbaaGoM
import Derived.Test.YticifbmaapnfbaaProg
namespace Go.Proofs.Yticifbmaapnfbaa
open Go.RowKit Enc
set_option linter.unusedVariables false
set_option linter.unusedSimpArgs false
structure PosetR where
  v : Poset
  h1 : Sl
instance : Enc PosetR := ⟨fun p => enc p.v.N ++ (enc p.h1), 2, fun p => by simp only [List.length_append, Enc.len]; rfl, fun p => by simp only [List.all_append, Enc.one, Bool.and_self]⟩
theorem PosetR.get_N {p : PosetR} {k : Nat} {ch : List Value} (h : Get (enc p.v.N) k ch) : Get (enc p) (0 + k) ch := Get.off (Get.left h) (by omega)
theorem PosetR.put_N {p : PosetR} {k : Nat} {vs : List Value} {y : Int} (h : Put (enc p.v.N) k vs (enc y)) : Put (enc p) (0 + k) vs (enc ({ p with v := { p.v with N := y } } : PosetR)) := Put.off (cs' := enc ({ p with v := { p.v with N := y } } : PosetR)) (Put.left h) (by omega)
theorem PosetR.get_Pairs {p : PosetR} {k : Nat} {ch : List Value} (h : Get (enc p.h1) k ch) : Get (enc p) (1 + k) ch := Get.off (Get.right (m := 1) (Enc.len _) h) (by omega)
theorem PosetR.put_Pairs {p : PosetR} {k : Nat} {vs : List Value} {y : Sl} {l : List Pair} (h : Put (enc p.h1) k vs (enc y)) : Put (enc p) (1 + k) vs (enc ({ p with v := { p.v with Pairs := l }, h1 := y } : PosetR)) := Put.off (cs' := enc ({ p with v := { p.v with Pairs := l }, h1 := y } : PosetR)) (Put.right (m := 1) (Enc.len _) h) (by omega)
def PosetR.rel (w0 : World) (F : Frz) (L : List Item) (x : PosetR) : Prop := Rd w0 F L x.h1 x.v.Pairs
theorem PosetR.mono {w0 : World} {F F' : Frz} {L L' : List Item} {x : PosetR} (h : PosetR.rel w0 F L x) (hF : FLe F F') (hL : L.Sublist L') : PosetR.rel w0 F' L' x :=
  let h1 := h
  h1.mono hF hL
theorem All.monoPoset {w0 : World} {F F' : Frz} {L L' : List Item} {rs : List PosetR} (h : All PosetR.rel w0 F L rs) (hF : FLe F F') (hL : L.Sublist L') : All PosetR.rel w0 F' L' rs := fun x hx => PosetR.mono (h x hx) hF hL
set_option maxRecDepth 20000 in
theorem eq49 (x y : Pair) : ∀ w, (Op.equal 49 (.agg (enc x).toArray) (.agg (enc y).toArray)).run Try.prog w = .ok (decide (x = y)) w :=
  EqT.top (d := 10000) Try.isAgg49 Try.sizeOf49 rfl rfl (EqT.struct Try.isAgg49 Try.sizeOf49 rfl Try.runUnderlying49 (by kernel_rfl) (fun x y w => by
  refine Eq.trans (eqField (p := x.A) (q := y.A) rfl (EqT.int Try.isAgg3 Try.runUnderlying3) rfl ((Pair.get_A (Get.here _)).off rfl) ((Pair.get_A (Get.here _)).off rfl) (eqField (p := x.B) (q := y.B) rfl (EqT.int Try.isAgg3 Try.runUnderlying3) rfl ((Pair.get_B (Get.here _)).off rfl) ((Pair.get_B (Get.here _)).off rfl) (by rfl))) ?_
  congr 1
  rw [Bool.eq_iff_iff]; cases x; cases y; simp)) x y
set_option maxRecDepth 20000 in
theorem cmp_isNaN_uint16_sim {a0 : BitVec 16} {r : Bool} (H : cmp_isNaN_uint16 a0 = some r) (w0 : World) (F : Frz) (M L : List Item) (hM : M.Sublist L) : Ok Try.prog w0 84 [.int .u16 a0.toNat] F (L) (Is (.bool r) (L)) := by
  unfold cmp_isNaN_uint16 at H
  refine Ok.enter (m := 1) (n := 6) Try.func84 rfl rfl rfl (by decide) ?_
  refine Cd.env (e' := [(0, .int .u16 a0.toNat)]) rfl ?_
  refine Cd.seq ?_
  refine Cd.region ?_
  refine Lst.run rfl rfl (by decide) (Ev.assign rfl) ?_
  refine Lst.nil ?_
  refine At.then ?_
  refine Cd.seq ?_
  refine Cd.region ?_
  refine Lst.run rfl rfl (by decide) (Ev.move rfl) ?_
  refine Lst.run rfl rfl (by decide) (Ev.move rfl) ?_
  refine Lst.run rfl rfl (by decide) (Ev.neq rfl rfl) ?_
  refine Lst.run rfl rfl (by decide) (Ev.assign rfl) ?_
  refine Lst.nil ?_
  refine At.then ?_
  obtain rfl := some_inj H
  refine Cd.ret ?_
  exact At.ret1 rfl (Res.tmp rfl) (FLe.refl _) (List.Sublist.refl _) ⟨rfl, rfl⟩
set_option maxRecDepth 20000 in
theorem cmp_Less_uint16_sim {a0 : BitVec 16} {a1 : BitVec 16} {r : Bool} (H : cmp_Less_uint16 a0 a1 = some r) (w0 : World) (F : Frz) (M L : List Item) (hM : M.Sublist L) : Ok Try.prog w0 74 [.int .u16 a0.toNat, .int .u16 a1.toNat] F (L) (Is (.bool r) (L)) := by
  unfold cmp_Less_uint16 at H
  refine Ok.enter (m := 2) (n := 17) Try.func74 rfl rfl rfl (by decide) ?_
  refine Cd.env (e' := [(0, .int .u16 a0.toNat), (1, .int .u16 a1.toNat)]) rfl ?_
  refine Cd.seq ?_
  refine Cd.region ?_
  refine Lst.run rfl rfl (by decide) (Ev.assign rfl) ?_
  refine Lst.nil ?_
  refine At.then ?_
  refine Cd.seq ?_
  refine Cd.region ?_
  refine Lst.run rfl rfl (by decide) (Ev.move rfl) ?_
  obtain ⟨r1, h2, H⟩ := bind_some H
  refine Lst.call1 rfl rfl (by decide) (vs := [.int .u16 a0.toNat]) ⟨rfl, trivial⟩ Try.call84 (cmp_isNaN_uint16_sim h2 w0 _ M _ hM) ?_
  refine Lst.run rfl rfl (by decide) (Ev.move rfl) ?_
  obtain ⟨o5, H, HKo5⟩ := bind_some H
  refine Lst.join (σ := Bool) 4 (fun y6 => [(0, .int .u16 a0.toNat), (1, .int .u16 a1.toNat), (11, .bool y6)]) (fun y6 => L) (fun _ y6 => y6 = o5) ?_ ?_
  · rcases (Bool.eq_false_or_eq_true r1).symm with hb7 | hb7
    · replace H := ite_f hb7 H
      refine Lst.skip rfl rfl rfl hb7 rfl (by decide) ?_
      refine Lst.skip rfl rfl rfl hb7 rfl (by decide) ?_
      refine Lst.skip rfl rfl rfl hb7 rfl (by decide) ?_
      refine Lst.run rfl rfl (by decide) (Ev.pickF rfl hb7 rfl) ?_
      refine Lst.nil ?_
      exact At.meet false (FLe.refl _) ⟨rfl, rfl, rfl, trivial⟩ rfl (some_inj H)
    replace H := ite_t hb7 H
    refine Lst.runG rfl rfl rfl hb7 rfl (by decide) (Ev.move rfl) ?_
    obtain ⟨r8, h9, H⟩ := bind_some H
    refine Lst.call1G rfl rfl rfl hb7 rfl (by decide) (vs := [.int .u16 a1.toNat]) ⟨rfl, trivial⟩ Try.call84 (cmp_isNaN_uint16_sim h9 w0 _ M _ hM) ?_
    refine Lst.runG rfl rfl rfl hb7 rfl (by decide) (Ev.not rfl) ?_
    refine Lst.run rfl rfl (by decide) (Ev.pickT rfl hb7 rfl) ?_
    refine Lst.nil ?_
    exact At.meet (!r8) (FLe.refl _) ⟨rfl, rfl, rfl, trivial⟩ rfl (some_inj H)
  rintro F12 y6 hF13 hy
  subst hy
  refine Lst.as (e' := [(0, .int .u16 a0.toNat), (1, .int .u16 a1.toNat), (11, .bool y6)]) (L' := L) ⟨rfl, rfl, rfl, trivial⟩ rfl ?_
  replace H := HKo5
  refine Lst.run rfl rfl (by decide) (Ev.move rfl) ?_
  obtain ⟨o14, H, HKo14⟩ := bind_some H
  refine Lst.join (σ := Bool) 4 (fun y15 => [(16, .bool y15)]) (fun y15 => L) (fun _ y15 => y15 = o14) ?_ ?_
  · rcases Bool.eq_false_or_eq_true y6 with hb16 | hb16
    · replace H := ite_t hb16 H
      refine Lst.skip rfl rfl rfl hb16 rfl (by decide) ?_
      refine Lst.skip rfl rfl rfl hb16 rfl (by decide) ?_
      refine Lst.skip rfl rfl rfl hb16 rfl (by decide) ?_
      refine Lst.run rfl rfl (by decide) (Ev.pickT rfl hb16 rfl) ?_
      refine Lst.nil ?_
      exact At.meet true (FLe.refl _) ⟨rfl, trivial⟩ rfl (some_inj H)
    replace H := ite_f hb16 H
    refine Lst.runG rfl rfl rfl hb16 rfl (by decide) (Ev.move rfl) ?_
    refine Lst.runG rfl rfl rfl hb16 rfl (by decide) (Ev.move rfl) ?_
    refine Lst.runG rfl rfl rfl hb16 rfl (by decide) (Ev.lss rfl rfl) ?_
    refine Lst.run rfl rfl (by decide) (Ev.pickF rfl hb16 rfl) ?_
    refine Lst.nil ?_
    exact At.meet (decide ((a0.toNat : Int) < (a1.toNat : Int))) (FLe.refl _) ⟨rfl, trivial⟩ rfl (some_inj H)
  rintro F17 y15 hF18 hy
  subst hy
  refine Lst.as (e' := [(16, .bool y15)]) (L' := L) ⟨rfl, trivial⟩ rfl ?_
  replace H := HKo14
  refine Lst.run rfl rfl (by decide) (Ev.assign rfl) ?_
  refine Lst.nil ?_
  refine At.then ?_
  obtain rfl := some_inj H
  refine Cd.ret ?_
  exact At.ret1 rfl (Res.tmp rfl) (FLe.trans hF13 hF18) (List.Sublist.refl _) ⟨rfl, rfl⟩
set_option maxRecDepth 20000 in
theorem slices_isNaN_uint16_sim {a0 : BitVec 16} {r : Bool} (H : slices_isNaN_uint16 a0 = some r) (w0 : World) (F : Frz) (M L : List Item) (hM : M.Sublist L) : Ok Try.prog w0 75 [.int .u16 a0.toNat] F (L) (Is (.bool r) (L)) := by
  unfold slices_isNaN_uint16 at H
  refine Ok.enter (m := 1) (n := 6) Try.func75 rfl rfl rfl (by decide) ?_
  refine Cd.env (e' := [(0, .int .u16 a0.toNat)]) rfl ?_
  refine Cd.seq ?_
  refine Cd.region ?_
  refine Lst.run rfl rfl (by decide) (Ev.assign rfl) ?_
  refine Lst.nil ?_
  refine At.then ?_
  refine Cd.seq ?_
  refine Cd.region ?_
  refine Lst.run rfl rfl (by decide) (Ev.move rfl) ?_
  refine Lst.run rfl rfl (by decide) (Ev.move rfl) ?_
  refine Lst.run rfl rfl (by decide) (Ev.neq rfl rfl) ?_
  refine Lst.run rfl rfl (by decide) (Ev.assign rfl) ?_
  refine Lst.nil ?_
  refine At.then ?_
  obtain rfl := some_inj H
  refine Cd.ret ?_
  exact At.ret1 rfl (Res.tmp rfl) (FLe.refl _) (List.Sublist.refl _) ⟨rfl, rfl⟩
set_option maxRecDepth 20000 in
theorem slices_BinarySearch_uint16_uint16_sim {fu : Nat} {a0 : List (BitVec 16)} {a1 : BitVec 16} {s_a0 : Sl} {r : Int × Bool} (H : slices_BinarySearch_uint16_uint16 fu a0 a1 = some r) (w0 : World) (F : Frz) (M L : List Item) (hM : M.Sublist L) (hs_a0 : Rd w0 F M s_a0 a0) : Ok Try.prog w0 51 [Sl.v s_a0, .int .u16 a1.toNat] F (L) (Is (.tuple #[.int .i64 r.1, .bool r.2]) (L)) := by
  unfold slices_BinarySearch_uint16_uint16 at H
  refine Ok.enter (m := 2) (n := 54) Try.func51 rfl rfl rfl (by decide) ?_
  refine Cd.env (e' := [(0, Sl.v s_a0), (1, .int .u16 a1.toNat)]) rfl ?_
  refine Cd.seq ?_
  refine Cd.region ?_
  refine Lst.run rfl rfl (by decide) (Ev.assign rfl) ?_
  refine Lst.run rfl rfl (by decide) (Ev.assign rfl) ?_
  refine Lst.nil ?_
  refine At.then ?_
  refine Cd.seq ?_
  refine Cd.region ?_
  refine Lst.run rfl rfl (by decide) (Ev.move rfl) ?_
  refine Lst.run rfl rfl (by decide) (Ev.lenS (α := BitVec 16) (xs := a0) (by decide) rfl rfl Try.runUnderlying27 (hs_a0.mono (FLe.refl _) hM)) ?_
  refine Lst.run rfl rfl (by decide) (Ev.assign rfl) ?_
  refine Lst.nil ?_
  refine At.then ?_
  refine Cd.seq ?_
  refine Cd.region ?_
  refine Lst.run rfl rfl (by decide) (Ev.move rfl) ?_
  refine Lst.run rfl rfl (by decide) (Ev.assign rfl) ?_
  refine Lst.run rfl rfl (by decide) (Ev.assign rfl) ?_
  refine Lst.nil ?_
  refine At.then ?_
  refine Cd.seq ?_
  refine Cd.block ?_
  obtain ⟨ol1, H, HKl1⟩ := andThen_some H
  refine Cd.loop (σ := Nat × Int × Int) (fun (k1, y2, y3) => [(0, Sl.v s_a0), (1, .int .u16 a1.toNat), (6, .int .i64 (a0.length : Int)), (7, .int .i64 y2), (8, .int .i64 y3)]) (fun (k1, y2, y3) => L) (fun _ => (fun (k1, y2, y3) => whileM (slices_BinarySearch_uint16_uint16_B0 a0 a1) k1 (y2, y3) = some ol1)) (fun (k1, y2, y3) => k1) (fu, (0 : Int), (a0.length : Int)) ⟨rfl, rfl, rfl, rfl, rfl, trivial⟩ rfl H ?_
  rintro F4 ⟨k1, y2, y3⟩ hF5 H
  refine Cd.as (e' := [(0, Sl.v s_a0), (1, .int .u16 a1.toNat), (6, .int .i64 (a0.length : Int)), (7, .int .i64 y2), (8, .int .i64 y3)]) (L' := L) ⟨rfl, rfl, rfl, rfl, rfl, trivial⟩ rfl ?_
  rcases k1 with _ | k1
  · cases H
  obtain ⟨c1, H, hgo1, hbrk1, hret1⟩ := whileM_go H
  unfold slices_BinarySearch_uint16_uint16_B0 at H
  try dsimp only at H
  refine Cd.seq ?_
  refine Cd.seq ?_
  refine Cd.region ?_
  refine Lst.run rfl rfl (by decide) (Ev.move rfl) ?_
  refine Lst.run rfl rfl (by decide) (Ev.move rfl) ?_
  refine Lst.run rfl rfl (by decide) (Ev.lss rfl rfl) ?_
  refine Lst.nil ?_
  refine At.then ?_
  rcases (Bool.eq_false_or_eq_true (decide (y2 < y3))).symm with hb6 | hb6
  · replace H := ite_f hb6 H
    refine Cd.condF rfl hb6 ?_
    refine Cd.exit ?_
    refine At.then_exit ?_
    refine At.then_exit ?_
    refine At.in_exit ?_
    have H := hbrk1 _ (some_inj H).symm
    subst H
    replace H := HKl1
    refine At.then ?_
    refine Cd.seq ?_
    refine Cd.region ?_
    refine Lst.run rfl rfl (by decide) (Ev.move rfl) ?_
    refine Lst.run rfl rfl (by decide) (Ev.move rfl) ?_
    refine Lst.run rfl rfl (by decide) (Ev.move rfl) ?_
    refine Lst.run rfl rfl (by decide) (Ev.lss rfl rfl) ?_
    refine Lst.run rfl rfl (by decide) (Ev.move rfl) ?_
    rcases (Bool.eq_false_or_eq_true (decide (y2 < (a0.length : Int)))).symm with hb7 | hb7
    · replace H := ite_f hb7 H
      refine Lst.skip rfl rfl rfl hb7 rfl (by decide) ?_
      refine Lst.skip rfl rfl rfl hb7 rfl (by decide) ?_
      refine Lst.skip rfl rfl rfl hb7 rfl (by decide) ?_
      refine Lst.skip rfl rfl rfl hb7 rfl (by decide) ?_
      refine Lst.skip rfl rfl rfl hb7 rfl (by decide) ?_
      refine Lst.skip rfl rfl rfl hb7 rfl (by decide) ?_
      refine Lst.skip rfl rfl rfl hb7 rfl (by decide) ?_
      refine Lst.skipU rfl rfl rfl rfl (by decide) ?_
      refine Lst.skipU rfl rfl rfl rfl (by decide) ?_
      refine Lst.skipU rfl rfl rfl rfl (by decide) ?_
      refine Lst.skipU rfl rfl rfl rfl (by decide) ?_
      refine Lst.skipU rfl rfl rfl rfl (by decide) ?_
      refine Lst.skipU rfl rfl rfl rfl (by decide) ?_
      refine Lst.skipU rfl rfl rfl rfl (by decide) ?_
      refine Lst.skipU rfl rfl rfl rfl (by decide) ?_
      refine Lst.skipU rfl rfl rfl rfl (by decide) ?_
      refine Lst.skip rfl rfl rfl hb7 rfl (by decide) ?_
      refine Lst.run rfl rfl (by decide) (Ev.pickF rfl hb7 rfl) ?_
      refine Lst.run rfl rfl (by decide) (Ev.assign rfl) ?_
      refine Lst.run rfl rfl (by decide) (Ev.assign rfl) ?_
      refine Lst.nil ?_
      refine At.then ?_
      obtain rfl := some_inj H
      refine Cd.ret ?_
      exact At.ret2 rfl (Res.tmp rfl) (Res.tmp rfl) hF5 (List.Sublist.refl _) ⟨rfl, rfl⟩
    replace H := ite_t hb7 H
    refine Lst.runG rfl rfl rfl hb7 rfl (by decide) (Ev.move rfl) ?_
    refine Lst.runG rfl rfl rfl hb7 rfl (by decide) (Ev.move rfl) ?_
    obtain ⟨x8, h9, H⟩ := bind_some H
    have g10 := lat_some h9
    refine Lst.runG rfl rfl rfl hb7 rfl (by decide) (Ev.indexS (α := BitVec 16) (xs := a0) rfl rfl Try.runUnderlying27 Try.sizeOf31 rfl (by decide) (hs_a0.mono hF5 hM) g10.1 g10.2.1) ?_
    refine Lst.runG rfl rfl rfl hb7 rfl (by decide) (Ev.loadS (α := BitVec 16) rfl (hs_a0.mono hF5 hM) Try.isAgg31 (v := .int .u16 x8.toNat) ((Get.elemN (s := 1) (x := x8) rfl g10.2.2 (Get.here _)).off (by omega))) ?_
    refine Lst.runG rfl rfl rfl hb7 rfl (by decide) (Ev.move rfl) ?_
    refine Lst.runG rfl rfl rfl hb7 rfl (by decide) (Ev.eql rfl rfl) ?_
    refine Lst.runG rfl rfl rfl hb7 rfl (by decide) (Ev.move rfl) ?_
    rcases Bool.eq_false_or_eq_true ((x8.toNat : Int) == (a1.toNat : Int)) with hb11 | hb11
    · replace H := ite_t hb11 H
      refine Lst.skip rfl rfl rfl hb11 rfl (by decide) ?_
      refine Lst.skip rfl rfl rfl hb11 rfl (by decide) ?_
      refine Lst.skip rfl rfl rfl hb11 rfl (by decide) ?_
      refine Lst.skip rfl rfl rfl hb11 rfl (by decide) ?_
      refine Lst.skip rfl rfl rfl hb11 rfl (by decide) ?_
      refine Lst.skip rfl rfl rfl hb11 rfl (by decide) ?_
      refine Lst.skipU rfl rfl rfl rfl (by decide) ?_
      refine Lst.skipU rfl rfl rfl rfl (by decide) ?_
      refine Lst.skip rfl rfl rfl hb11 rfl (by decide) ?_
      refine Lst.runG rfl rfl rfl hb7 rfl (by decide) (Ev.pickT rfl hb11 rfl) ?_
      refine Lst.run rfl rfl (by decide) (Ev.pickT rfl hb7 rfl) ?_
      refine Lst.run rfl rfl (by decide) (Ev.assign rfl) ?_
      refine Lst.run rfl rfl (by decide) (Ev.assign rfl) ?_
      refine Lst.nil ?_
      refine At.then ?_
      obtain rfl := some_inj H
      refine Cd.ret ?_
      exact At.ret2 rfl (Res.tmp rfl) (Res.tmp rfl) hF5 (List.Sublist.refl _) ⟨rfl, rfl⟩
    replace H := ite_f hb11 H
    refine Lst.runG rfl rfl rfl hb11 rfl (by decide) (Ev.move rfl) ?_
    refine Lst.runG rfl rfl rfl hb11 rfl (by decide) (Ev.move rfl) ?_
    obtain ⟨x12, h13, H⟩ := bind_some H
    have g14 := lat_some h13
    refine Lst.runG rfl rfl rfl hb11 rfl (by decide) (Ev.indexS (α := BitVec 16) (xs := a0) rfl rfl Try.runUnderlying27 Try.sizeOf31 rfl (by decide) (hs_a0.mono hF5 hM) g14.1 g14.2.1) ?_
    refine Lst.runG rfl rfl rfl hb11 rfl (by decide) (Ev.loadS (α := BitVec 16) rfl (hs_a0.mono hF5 hM) Try.isAgg31 (v := .int .u16 x12.toNat) ((Get.elemN (s := 1) (x := x12) rfl g14.2.2 (Get.here _)).off (by omega))) ?_
    obtain ⟨r15, h16, H⟩ := bind_some H
    refine Lst.call1G rfl rfl rfl hb11 rfl (by decide) (vs := [.int .u16 x12.toNat]) ⟨rfl, trivial⟩ Try.call75 (slices_isNaN_uint16_sim h16 w0 _ M _ hM) ?_
    refine Lst.runG rfl rfl rfl hb11 rfl (by decide) (Ev.move rfl) ?_
    obtain ⟨o19, H, HKo19⟩ := bind_some H
    refine Lst.join (σ := Bool) 3 (fun y20 => [(31, .int .i64 y2), (35, .bool (decide (y2 < (a0.length : Int)))), (42, .bool ((x8.toNat : Int) == (a1.toNat : Int))), (51, .bool y20)]) (fun y20 => L) (fun _ y20 => y20 = o19) ?_ ?_
    · rcases (Bool.eq_false_or_eq_true r15).symm with hb21 | hb21
      · replace H := ite_f hb21 H
        refine Lst.skip rfl rfl rfl hb21 rfl (by decide) ?_
        refine Lst.skip rfl rfl rfl hb21 rfl (by decide) ?_
        refine Lst.runG rfl rfl rfl hb11 rfl (by decide) (Ev.pickF rfl hb21 rfl) ?_
        refine Lst.nil ?_
        exact At.meet false (FLe.refl _) ⟨rfl, rfl, rfl, rfl, trivial⟩ rfl (some_inj H)
      replace H := ite_t hb21 H
      refine Lst.runG rfl rfl rfl hb21 rfl (by decide) (Ev.move rfl) ?_
      obtain ⟨r22, h23, H⟩ := bind_some H
      refine Lst.call1G rfl rfl rfl hb21 rfl (by decide) (vs := [.int .u16 a1.toNat]) ⟨rfl, trivial⟩ Try.call75 (slices_isNaN_uint16_sim h23 w0 _ M _ hM) ?_
      refine Lst.runG rfl rfl rfl hb11 rfl (by decide) (Ev.pickT rfl hb21 rfl) ?_
      refine Lst.nil ?_
      exact At.meet r22 (FLe.refl _) ⟨rfl, rfl, rfl, rfl, trivial⟩ rfl (some_inj H)
    rintro F26 y20 hF27 hy
    subst hy
    refine Lst.as (e' := [(31, .int .i64 y2), (35, .bool (decide (y2 < (a0.length : Int)))), (42, .bool ((x8.toNat : Int) == (a1.toNat : Int))), (51, .bool y20)]) (L' := L) ⟨rfl, rfl, rfl, rfl, trivial⟩ rfl ?_
    replace H := HKo19
    refine Lst.runG rfl rfl rfl hb7 rfl (by decide) (Ev.pickF rfl hb11 rfl) ?_
    refine Lst.run rfl rfl (by decide) (Ev.pickT rfl hb7 rfl) ?_
    refine Lst.run rfl rfl (by decide) (Ev.assign rfl) ?_
    refine Lst.run rfl rfl (by decide) (Ev.assign rfl) ?_
    refine Lst.nil ?_
    refine At.then ?_
    obtain rfl := some_inj H
    refine Cd.ret ?_
    exact At.ret2 rfl (Res.tmp rfl) (Res.tmp rfl) (FLe.trans hF5 hF27) (List.Sublist.refl _) ⟨rfl, rfl⟩
  replace H := ite_t hb6 H
  refine Cd.condT rfl hb6 ?_
  refine Cd.skip ?_
  refine At.then ?_
  refine Cd.block ?_
  refine Cd.seq ?_
  refine Cd.region ?_
  refine Lst.run rfl rfl (by decide) (Ev.move rfl) ?_
  refine Lst.run rfl rfl (by decide) (Ev.move rfl) ?_
  refine Lst.run rfl rfl (by decide) (Ev.add rfl rfl) ?_
  refine Lst.run rfl rfl (by decide) (Ev.convTo64 rfl Try.runUnderlying3 Try.runUnderlying84) ?_
  refine Lst.run rfl rfl (by decide) (Ev.shrU64 (i := BitVec.ofInt 64 (w64 (y2 + y3))) (m := 1) rfl rfl) ?_
  refine Lst.run rfl rfl (by decide) (Ev.conv64 rfl Try.runUnderlying84 Try.runUnderlying3) ?_
  refine Lst.run rfl rfl (by decide) (Ev.assign rfl) ?_
  refine Lst.nil ?_
  refine At.then ?_
  refine Cd.seq ?_
  refine Cd.region ?_
  refine Lst.run rfl rfl (by decide) (Ev.move rfl) ?_
  refine Lst.run rfl rfl (by decide) (Ev.move rfl) ?_
  obtain ⟨x28, h29, H⟩ := bind_some H
  have g30 := lat_some h29
  refine Lst.run rfl rfl (by decide) (Ev.indexS (α := BitVec 16) (xs := a0) rfl rfl Try.runUnderlying27 Try.sizeOf31 rfl (by decide) (hs_a0.mono hF5 hM) g30.1 g30.2.1) ?_
  refine Lst.run rfl rfl (by decide) (Ev.loadS (α := BitVec 16) rfl (hs_a0.mono hF5 hM) Try.isAgg31 (v := .int .u16 x28.toNat) ((Get.elemN (s := 1) (x := x28) rfl g30.2.2 (Get.here _)).off (by omega))) ?_
  refine Lst.run rfl rfl (by decide) (Ev.move rfl) ?_
  obtain ⟨r31, h32, H⟩ := bind_some H
  refine Lst.call1 rfl rfl (by decide) (vs := [.int .u16 x28.toNat, .int .u16 a1.toNat]) ⟨rfl, rfl, trivial⟩ Try.call74 (cmp_Less_uint16_sim h32 w0 _ M _ hM) ?_
  refine Lst.nil ?_
  refine At.then ?_
  rcases (Bool.eq_false_or_eq_true r31).symm with hb35 | hb35
  · replace H := ite_f hb35 H
    refine Cd.condF rfl hb35 ?_
    refine Cd.as (e' := [(0, Sl.v s_a0), (1, .int .u16 a1.toNat), (6, .int .i64 (a0.length : Int)), (7, .int .i64 y2), (9, .int .i64 (w64 (((BitVec.ofInt 64 (w64 (y2 + y3))) >>> 1).toNat : Int)))]) (L' := L) ⟨rfl, rfl, rfl, rfl, rfl, trivial⟩ rfl ?_
    refine Cd.region ?_
    refine Lst.run rfl rfl (by decide) (Ev.move rfl) ?_
    refine Lst.run rfl rfl (by decide) (Ev.assign rfl) ?_
    refine Lst.nil ?_
    refine At.in_normal ?_
    exact At.meet (k1, y2, w64 (((BitVec.ofInt 64 (w64 (y2 + y3))) >>> 1).toNat : Int)) hF5 ⟨rfl, rfl, rfl, rfl, rfl, trivial⟩ rfl ⟨hgo1 _ (some_inj H).symm, Nat.lt_succ_self _⟩
  replace H := ite_t hb35 H
  refine Cd.condT rfl hb35 ?_
  refine Cd.as (e' := [(0, Sl.v s_a0), (1, .int .u16 a1.toNat), (6, .int .i64 (a0.length : Int)), (8, .int .i64 y3), (9, .int .i64 (w64 (((BitVec.ofInt 64 (w64 (y2 + y3))) >>> 1).toNat : Int)))]) (L' := L) ⟨rfl, rfl, rfl, rfl, rfl, trivial⟩ rfl ?_
  refine Cd.region ?_
  refine Lst.run rfl rfl (by decide) (Ev.move rfl) ?_
  refine Lst.run rfl rfl (by decide) (Ev.add rfl rfl) ?_
  refine Lst.run rfl rfl (by decide) (Ev.assign rfl) ?_
  refine Lst.nil ?_
  refine At.in_normal ?_
  exact At.meet (k1, w64 ((w64 (((BitVec.ofInt 64 (w64 (y2 + y3))) >>> 1).toNat : Int)) + (1 : Int)), y3) hF5 ⟨rfl, rfl, rfl, rfl, rfl, trivial⟩ rfl ⟨hgo1 _ (some_inj H).symm, Nat.lt_succ_self _⟩
set_option maxRecDepth 20000 in
theorem partref_SetsErr_sim {fu : Nat} {a0 : List (BitVec 16)} {s_a0 : Sl} {r : Int} (H : partref_SetsErr fu a0 = some r) (w0 : World) (F : Frz) (M L : List Item) (hM : M.Sublist L) (hs_a0 : Rd w0 F M s_a0 a0) : Ok Try.prog w0 17 [Sl.v s_a0] F (L) (Is (.int .i64 r) (L)) := by
  unfold partref_SetsErr at H
  refine Ok.enter (m := 1) (n := 83) Try.func17 rfl rfl rfl (by decide) ?_
  refine Cd.env (e' := [(0, Sl.v s_a0)]) rfl ?_
  refine Cd.seq ?_
  refine Cd.region ?_
  refine Lst.run rfl rfl (by decide) (Ev.assign rfl) ?_
  refine Lst.nil ?_
  refine At.then ?_
  refine Cd.seq ?_
  refine Cd.seq ?_
  refine Cd.region ?_
  refine Lst.run rfl rfl (by decide) (Ev.move rfl) ?_
  refine Lst.run rfl rfl (by decide) (Ev.lenS (α := BitVec 16) (xs := a0) (by decide) rfl rfl Try.runUnderlying27 (hs_a0.mono (FLe.refl _) hM)) ?_
  refine Lst.run rfl rfl (by decide) (Ev.eql rfl rfl) ?_
  refine Lst.run rfl rfl (by decide) (Ev.move rfl) ?_
  obtain ⟨o1, H, HKo1⟩ := bind_some H
  refine Lst.join (σ := Bool) 4 (fun y2 => [(0, Sl.v s_a0), (20, .bool y2)]) (fun y2 => L) (fun _ y2 => y2 = o1) ?_ ?_
  · rcases Bool.eq_false_or_eq_true ((a0.length : Int) == (0 : Int)) with hb3 | hb3
    · replace H := ite_t hb3 H
      refine Lst.skip rfl rfl rfl hb3 rfl (by decide) ?_
      refine Lst.skip rfl rfl rfl hb3 rfl (by decide) ?_
      refine Lst.skip rfl rfl rfl hb3 rfl (by decide) ?_
      refine Lst.run rfl rfl (by decide) (Ev.pickT rfl hb3 rfl) ?_
      refine Lst.nil ?_
      exact At.meet true (FLe.refl _) ⟨rfl, rfl, trivial⟩ rfl (some_inj H)
    replace H := ite_f hb3 H
    refine Lst.runG rfl rfl rfl hb3 rfl (by decide) (Ev.move rfl) ?_
    refine Lst.runG rfl rfl rfl hb3 rfl (by decide) (Ev.lenS (α := BitVec 16) (xs := a0) (by decide) rfl rfl Try.runUnderlying27 (hs_a0.mono (FLe.refl _) hM)) ?_
    refine Lst.runG rfl rfl rfl hb3 rfl (by decide) (Ev.gtr rfl rfl) ?_
    refine Lst.run rfl rfl (by decide) (Ev.pickF rfl hb3 rfl) ?_
    refine Lst.nil ?_
    exact At.meet (decide ((a0.length : Int) > (4096 : Int))) (FLe.refl _) ⟨rfl, rfl, trivial⟩ rfl (some_inj H)
  rintro F4 y2 hF5 hy
  subst hy
  refine Lst.as (e' := [(0, Sl.v s_a0), (20, .bool y2)]) (L' := L) ⟨rfl, rfl, trivial⟩ rfl ?_
  replace H := HKo1
  refine Lst.nil ?_
  refine At.then ?_
  rcases Bool.eq_false_or_eq_true y2 with hb6 | hb6
  · replace H := ite_t hb6 H
    refine Cd.condT rfl hb6 ?_
    refine Cd.seq ?_
    refine Cd.region ?_
    refine Lst.run rfl rfl (by decide) (Ev.assign rfl) ?_
    refine Lst.nil ?_
    refine At.then ?_
    obtain rfl := some_inj H
    refine Cd.ret ?_
    refine At.then_ret ?_
    exact At.ret1 rfl (Res.tmp rfl) hF5 (List.Sublist.refl _) ⟨rfl, rfl⟩
  replace H := ite_f hb6 H
  refine Cd.condF rfl hb6 ?_
  refine Cd.skip ?_
  refine At.then ?_
  refine Cd.seq ?_
  refine Cd.seq ?_
  refine Cd.region ?_
  refine Lst.run rfl rfl (by decide) (Ev.move rfl) ?_
  obtain ⟨x7, h8, H⟩ := bind_some H
  have g9 := lat_some h8
  refine Lst.run rfl rfl (by decide) (Ev.indexS (α := BitVec 16) (xs := a0) rfl rfl Try.runUnderlying27 Try.sizeOf31 rfl (by decide) (hs_a0.mono hF5 hM) g9.1 g9.2.1) ?_
  refine Lst.run rfl rfl (by decide) (Ev.loadS (α := BitVec 16) rfl (hs_a0.mono hF5 hM) Try.isAgg31 (v := .int .u16 x7.toNat) ((Get.elemN (s := 1) (x := x7) rfl g9.2.2 (Get.here _)).off (by omega))) ?_
  refine Lst.run rfl rfl (by decide) (Ev.gtr rfl rfl) ?_
  refine Lst.nil ?_
  refine At.then ?_
  rcases Bool.eq_false_or_eq_true (decide ((x7.toNat : Int) > ((0 : BitVec 16).toNat : Int))) with hb10 | hb10
  · replace H := ite_t hb10 H
    refine Cd.condT rfl hb10 ?_
    refine Cd.seq ?_
    refine Cd.region ?_
    refine Lst.run rfl rfl (by decide) (Ev.assign rfl) ?_
    refine Lst.nil ?_
    refine At.then ?_
    obtain rfl := some_inj H
    refine Cd.ret ?_
    refine At.then_ret ?_
    exact At.ret1 rfl (Res.tmp rfl) hF5 (List.Sublist.refl _) ⟨rfl, rfl⟩
  replace H := ite_f hb10 H
  refine Cd.condF rfl hb10 ?_
  refine Cd.skip ?_
  refine At.then ?_
  refine Cd.seq ?_
  refine Cd.seq ?_
  refine Cd.region ?_
  refine Lst.run rfl rfl (by decide) (Ev.move rfl) ?_
  refine Lst.run rfl rfl (by decide) (Ev.lenS (α := BitVec 16) (xs := a0) (by decide) rfl rfl Try.runUnderlying27 (hs_a0.mono hF5 hM)) ?_
  refine Lst.run rfl rfl (by decide) (Ev.move rfl) ?_
  refine Lst.nil ?_
  refine At.then ?_
  refine Cd.block ?_
  refine Cd.bound (Rd.le (α := BitVec 16) (xs := a0) (by decide) (hs_a0.mono hF5 hM)) (fun hN52 => ?_)
  obtain ⟨ol11, H, HKl11⟩ := andThen_some H
  refine Cd.loop (σ := Nat × Nat × Unit) (fun (i11, k11, _u) => [(0, Sl.v s_a0), (25, Sl.v s_a0), (26, .int .i64 (a0.length : Int)), (27, .int .i64 (i11 : Int))]) (fun (i11, k11, _u) => L) (fun _ => (fun (i11, k11, _u) => rangeM (partref_SetsErr_B0 a0) k11 i11 () = some ol11 ∧ i11 + k11 = a0.length)) (fun (i11, k11, _u) => k11) (0, a0.length, ()) ⟨rfl, rfl, rfl, rfl, trivial⟩ rfl ⟨H, by omega⟩ ?_
  rintro F12 ⟨i11, k11, _u⟩ hF13 ⟨H, hik11⟩
  refine Cd.as (e' := [(0, Sl.v s_a0), (25, Sl.v s_a0), (26, .int .i64 (a0.length : Int)), (27, .int .i64 (i11 : Int))]) (L' := L) ⟨rfl, rfl, rfl, rfl, trivial⟩ rfl ?_
  rcases k11 with _ | k11
  · have hc11 : decide ((i11 : Int) < (a0.length : Int)) = false := decide_eq_false (by omega)
    replace H := rangeM_end H
    refine Cd.seq ?_
    refine Cd.region ?_
    refine Lst.run rfl rfl (by decide) (Ev.lss rfl rfl) ?_
    refine Lst.nil ?_
    refine At.then ?_
    refine Cd.seq ?_
    refine Cd.condF rfl hc11 ?_
    refine Cd.exit ?_
    refine At.then_exit ?_
    refine At.then_exit ?_
    refine At.in_exit ?_
    subst H
    replace H := HKl11
    refine At.then ?_
    refine Cd.seq ?_
    refine Cd.seq ?_
    refine Cd.region ?_
    refine Lst.run rfl rfl (by decide) (Ev.move rfl) ?_
    refine Lst.run rfl rfl (by decide) (Ev.lenS (α := BitVec 16) (xs := a0) (by decide) rfl rfl Try.runUnderlying27 (hs_a0.mono (FLe.trans hF5 hF13) hM)) ?_
    refine Lst.run rfl rfl (by decide) (Ev.gtr rfl rfl) ?_
    refine Lst.nil ?_
    refine At.then ?_
    rcases Bool.eq_false_or_eq_true (decide ((a0.length : Int) > (300 : Int))) with hb27 | hb27
    · replace H := ite_t hb27 H
      refine Cd.condT rfl hb27 ?_
      refine Cd.seq ?_
      refine Cd.region ?_
      refine Lst.run rfl rfl (by decide) (Ev.assign rfl) ?_
      refine Lst.nil ?_
      refine At.then ?_
      obtain rfl := some_inj H
      refine Cd.ret ?_
      refine At.then_ret ?_
      exact At.ret1 rfl (Res.tmp rfl) (FLe.trans hF5 hF13) (List.Sublist.refl _) ⟨rfl, rfl⟩
    replace H := ite_f hb27 H
    refine Cd.condF rfl hb27 ?_
    refine Cd.skip ?_
    refine At.then ?_
    refine Cd.seq ?_
    refine Cd.seq ?_
    refine Cd.region ?_
    refine Lst.run rfl rfl (by decide) (Ev.move rfl) ?_
    refine Lst.run rfl rfl (by decide) (Ev.lenS (α := BitVec 16) (xs := a0) (by decide) rfl rfl Try.runUnderlying27 (hs_a0.mono (FLe.trans hF5 hF13) hM)) ?_
    refine Lst.run rfl rfl (by decide) (Ev.move rfl) ?_
    refine Lst.nil ?_
    refine At.then ?_
    refine Cd.block ?_
    refine Cd.bound (Rd.le (α := BitVec 16) (xs := a0) (by decide) (hs_a0.mono (FLe.trans hF5 hF13) hM)) (fun hN51 => ?_)
    obtain ⟨ol28, H, HKl28⟩ := andThen_some H
    refine Cd.loop (σ := Nat × Nat × Unit) (fun (i28, k28, _u) => [(0, Sl.v s_a0), (49, Sl.v s_a0), (50, .int .i64 (a0.length : Int)), (51, .int .i64 (i28 : Int))]) (fun (i28, k28, _u) => L) (fun _ => (fun (i28, k28, _u) => rangeM (partref_SetsErr_B2 fu a0) k28 i28 () = some ol28 ∧ i28 + k28 = a0.length)) (fun (i28, k28, _u) => k28) (0, a0.length, ()) ⟨rfl, rfl, rfl, rfl, trivial⟩ rfl ⟨H, by omega⟩ ?_
    rintro F29 ⟨i28, k28, _u⟩ hF30 ⟨H, hik28⟩
    refine Cd.as (e' := [(0, Sl.v s_a0), (49, Sl.v s_a0), (50, .int .i64 (a0.length : Int)), (51, .int .i64 (i28 : Int))]) (L' := L) ⟨rfl, rfl, rfl, rfl, trivial⟩ rfl ?_
    rcases k28 with _ | k28
    · have hc28 : decide ((i28 : Int) < (a0.length : Int)) = false := decide_eq_false (by omega)
      replace H := rangeM_end H
      refine Cd.seq ?_
      refine Cd.region ?_
      refine Lst.run rfl rfl (by decide) (Ev.lss rfl rfl) ?_
      refine Lst.nil ?_
      refine At.then ?_
      refine Cd.seq ?_
      refine Cd.condF rfl hc28 ?_
      refine Cd.exit ?_
      refine At.then_exit ?_
      refine At.then_exit ?_
      refine At.in_exit ?_
      subst H
      replace H := HKl28
      refine At.then ?_
      refine Cd.seq ?_
      refine Cd.region ?_
      refine Lst.run rfl rfl (by decide) (Ev.assign rfl) ?_
      refine Lst.nil ?_
      refine At.then ?_
      obtain rfl := some_inj H
      refine Cd.ret ?_
      exact At.ret1 rfl (Res.tmp rfl) (FLe.trans (FLe.trans hF5 hF13) hF30) (List.Sublist.refl _) ⟨rfl, rfl⟩
    have hc28 : decide ((i28 : Int) < (a0.length : Int)) = true := decide_eq_true (by omega)
    obtain ⟨c28, H, hgo28, hbrk28, hret28⟩ := rangeM_go H
    unfold partref_SetsErr_B2 at H
    try dsimp only at H
    refine Cd.seq ?_
    refine Cd.region ?_
    refine Lst.run rfl rfl (by decide) (Ev.lss rfl rfl) ?_
    refine Lst.nil ?_
    refine At.then ?_
    refine Cd.seq ?_
    refine Cd.condT rfl hc28 ?_
    refine Cd.skip ?_
    refine At.then ?_
    refine Cd.seq ?_
    refine Cd.block ?_
    refine Cd.seq ?_
    refine Cd.region ?_
    obtain ⟨x31, h32, H⟩ := bind_some H
    have g33 := lat_some h32
    refine Lst.run rfl rfl (by decide) (Ev.indexS (α := BitVec 16) (xs := a0) rfl rfl Try.runUnderlying27 Try.sizeOf31 rfl (by decide) (hs_a0.mono (FLe.trans (FLe.trans hF5 hF13) hF30) hM) g33.1 g33.2.1) ?_
    refine Lst.run rfl rfl (by decide) (Ev.loadS (α := BitVec 16) rfl (hs_a0.mono (FLe.trans (FLe.trans hF5 hF13) hF30) hM) Try.isAgg31 (v := .int .u16 x31.toNat) ((Get.elemN (s := 1) (x := x31) rfl g33.2.2 (Get.here _)).off (by omega))) ?_
    refine Lst.run rfl rfl (by decide) (Ev.assign rfl) ?_
    refine Lst.nil ?_
    refine At.then ?_
    refine Cd.seq ?_
    refine Cd.region ?_
    refine Lst.run rfl rfl (by decide) (Ev.move rfl) ?_
    refine Lst.run rfl rfl (by decide) (Ev.lenS (α := BitVec 16) (xs := a0) (by decide) rfl rfl Try.runUnderlying27 (hs_a0.mono (FLe.trans (FLe.trans hF5 hF13) hF30) hM)) ?_
    refine Lst.run rfl rfl (by decide) (Ev.move rfl) ?_
    refine Lst.nil ?_
    refine At.then ?_
    refine Cd.block ?_
    refine Cd.bound (Rd.le (α := BitVec 16) (xs := a0) (by decide) (hs_a0.mono (FLe.trans (FLe.trans hF5 hF13) hF30) hM)) (fun hN50 => ?_)
    obtain ⟨ol34, H, HKl34⟩ := andThen_some H
    refine Cd.loop (σ := Nat × Nat × Unit) (fun (i34, k34, _u) => [(0, Sl.v s_a0), (6, .int .u16 x31.toNat), (49, Sl.v s_a0), (50, .int .i64 (a0.length : Int)), (51, .int .i64 (i28 : Int)), (55, Sl.v s_a0), (56, .int .i64 (a0.length : Int)), (57, .int .i64 (i34 : Int))]) (fun (i34, k34, _u) => L) (fun _ => (fun (i34, k34, _u) => rangeM (partref_SetsErr_B4 fu a0 x31) k34 i34 () = some ol34 ∧ i34 + k34 = a0.length)) (fun (i34, k34, _u) => k34) (0, a0.length, ()) ⟨rfl, rfl, rfl, rfl, rfl, rfl, rfl, rfl, trivial⟩ rfl ⟨H, by omega⟩ ?_
    rintro F35 ⟨i34, k34, _u⟩ hF36 ⟨H, hik34⟩
    refine Cd.as (e' := [(0, Sl.v s_a0), (6, .int .u16 x31.toNat), (49, Sl.v s_a0), (50, .int .i64 (a0.length : Int)), (51, .int .i64 (i28 : Int)), (55, Sl.v s_a0), (56, .int .i64 (a0.length : Int)), (57, .int .i64 (i34 : Int))]) (L' := L) ⟨rfl, rfl, rfl, rfl, rfl, rfl, rfl, rfl, trivial⟩ rfl ?_
    rcases k34 with _ | k34
    · have hc34 : decide ((i34 : Int) < (a0.length : Int)) = false := decide_eq_false (by omega)
      replace H := rangeM_end H
      refine Cd.seq ?_
      refine Cd.region ?_
      refine Lst.run rfl rfl (by decide) (Ev.lss rfl rfl) ?_
      refine Lst.nil ?_
      refine At.then ?_
      refine Cd.seq ?_
      refine Cd.condF rfl hc34 ?_
      refine Cd.exit ?_
      refine At.then_exit ?_
      refine At.then_exit ?_
      refine At.in_exit ?_
      subst H
      replace H := HKl34
      refine At.in_normal ?_
      refine At.then ?_
      refine Cd.region ?_
      refine Lst.run rfl rfl (by decide) (Ev.incr (by omega) rfl rfl) ?_
      refine Lst.run rfl rfl (by decide) (Ev.move rfl) ?_
      refine Lst.nil ?_
      exact At.meet (i28 + 1, k28, ()) (FLe.trans hF30 hF36) ⟨rfl, rfl, rfl, rfl, trivial⟩ rfl ⟨⟨hgo28 _ (some_inj H).symm, by omega⟩, Nat.lt_succ_self _⟩
    have hc34 : decide ((i34 : Int) < (a0.length : Int)) = true := decide_eq_true (by omega)
    obtain ⟨c34, H, hgo34, hbrk34, hret34⟩ := rangeM_go H
    unfold partref_SetsErr_B4 at H
    try dsimp only at H
    refine Cd.seq ?_
    refine Cd.region ?_
    refine Lst.run rfl rfl (by decide) (Ev.lss rfl rfl) ?_
    refine Lst.nil ?_
    refine At.then ?_
    refine Cd.seq ?_
    refine Cd.condT rfl hc34 ?_
    refine Cd.skip ?_
    refine At.then ?_
    refine Cd.seq ?_
    refine Cd.block ?_
    refine Cd.seq ?_
    refine Cd.region ?_
    obtain ⟨x37, h38, H⟩ := bind_some H
    have g39 := lat_some h38
    refine Lst.run rfl rfl (by decide) (Ev.indexS (α := BitVec 16) (xs := a0) rfl rfl Try.runUnderlying27 Try.sizeOf31 rfl (by decide) (hs_a0.mono (FLe.trans (FLe.trans (FLe.trans hF5 hF13) hF30) hF36) hM) g39.1 g39.2.1) ?_
    refine Lst.run rfl rfl (by decide) (Ev.loadS (α := BitVec 16) rfl (hs_a0.mono (FLe.trans (FLe.trans (FLe.trans hF5 hF13) hF30) hF36) hM) Try.isAgg31 (v := .int .u16 x37.toNat) ((Get.elemN (s := 1) (x := x37) rfl g39.2.2 (Get.here _)).off (by omega))) ?_
    refine Lst.run rfl rfl (by decide) (Ev.assign rfl) ?_
    refine Lst.nil ?_
    refine At.then ?_
    refine Cd.seq ?_
    refine Cd.seq ?_
    refine Cd.region ?_
    refine Lst.run rfl rfl (by decide) (Ev.move rfl) ?_
    refine Lst.run rfl rfl (by decide) (Ev.move rfl) ?_
    refine Lst.run rfl rfl (by decide) (Ev.move rfl) ?_
    refine Lst.run rfl rfl (by decide) (Ev.orU16 (i := x31) (j := x37) rfl rfl) ?_
    obtain ⟨r40, h41, H⟩ := bind_some H
    refine Lst.call1 rfl rfl (by decide) (vs := [Sl.v s_a0, .int .u16 (x31 ||| x37).toNat]) ⟨rfl, rfl, trivial⟩ Try.call51 (slices_BinarySearch_uint16_uint16_sim h41 w0 _ M _ hM (hs_a0.mono (FLe.trans (FLe.trans (FLe.trans hF5 hF13) hF30) hF36) (List.Sublist.refl _))) ?_
    refine Lst.run rfl rfl (by decide) (Ev.move rfl) ?_
    refine Lst.run rfl rfl (by decide) (Ev.extract rfl rfl) ?_
    refine Lst.run rfl rfl (by decide) (Ev.extract rfl rfl) ?_
    refine Lst.run rfl rfl (by decide) (Ev.assign rfl) ?_
    refine Lst.run rfl rfl (by decide) (Ev.assign rfl) ?_
    refine Lst.nil ?_
    refine At.then ?_
    refine Cd.seq ?_
    refine Cd.region ?_
    refine Lst.run rfl rfl (by decide) (Ev.move rfl) ?_
    refine Lst.run rfl rfl (by decide) (Ev.not rfl) ?_
    refine Lst.nil ?_
    refine At.then ?_
    rcases Bool.eq_false_or_eq_true (!r40.2) with hb44 | hb44
    · replace H := ite_t hb44 H
      refine Cd.condT rfl hb44 ?_
      refine Cd.seq ?_
      refine Cd.as (e' := []) (L' := L) trivial rfl ?_
      refine Cd.region ?_
      refine Lst.run rfl rfl (by decide) (Ev.assign rfl) ?_
      refine Lst.nil ?_
      refine At.then ?_
      have H := hret34 _ (some_inj H).symm
      subst H
      replace H := HKl34
      have H := hret28 _ (some_inj H).symm
      subst H
      replace H := HKl28
      obtain rfl := some_inj H
      refine Cd.ret ?_
      refine At.then_ret ?_
      refine At.in_ret ?_
      refine At.then_ret ?_
      refine At.then_ret ?_
      refine At.in_ret ?_
      refine At.in_ret ?_
      refine At.then_ret ?_
      refine At.then_ret ?_
      refine At.in_ret ?_
      refine At.then_ret ?_
      exact At.ret1 rfl (Res.tmp rfl) (FLe.trans (FLe.trans (FLe.trans hF5 hF13) hF30) hF36) (List.Sublist.refl _) ⟨rfl, rfl⟩
    replace H := ite_f hb44 H
    refine Cd.condF rfl hb44 ?_
    refine Cd.skip ?_
    refine At.then ?_
    refine Cd.seq ?_
    refine Cd.as (e' := [(0, Sl.v s_a0), (6, .int .u16 x31.toNat), (49, Sl.v s_a0), (50, .int .i64 (a0.length : Int)), (51, .int .i64 (i28 : Int)), (55, Sl.v s_a0), (56, .int .i64 (a0.length : Int)), (57, .int .i64 (i34 : Int)), (8, .int .u16 x37.toNat)]) (L' := L) ⟨rfl, rfl, rfl, rfl, rfl, rfl, rfl, rfl, rfl, trivial⟩ rfl ?_
    refine Cd.region ?_
    refine Lst.run rfl rfl (by decide) (Ev.move rfl) ?_
    refine Lst.run rfl rfl (by decide) (Ev.move rfl) ?_
    refine Lst.run rfl rfl (by decide) (Ev.move rfl) ?_
    refine Lst.run rfl rfl (by decide) (Ev.andU16 (i := x31) (j := x37) rfl rfl) ?_
    obtain ⟨r45, h46, H⟩ := bind_some H
    refine Lst.call1 rfl rfl (by decide) (vs := [Sl.v s_a0, .int .u16 (x31 &&& x37).toNat]) ⟨rfl, rfl, trivial⟩ Try.call51 (slices_BinarySearch_uint16_uint16_sim h46 w0 _ M _ hM (hs_a0.mono (FLe.trans (FLe.trans (FLe.trans hF5 hF13) hF30) hF36) (List.Sublist.refl _))) ?_
    refine Lst.run rfl rfl (by decide) (Ev.move rfl) ?_
    refine Lst.run rfl rfl (by decide) (Ev.extract rfl rfl) ?_
    refine Lst.run rfl rfl (by decide) (Ev.extract rfl rfl) ?_
    refine Lst.run rfl rfl (by decide) (Ev.assign rfl) ?_
    refine Lst.run rfl rfl (by decide) (Ev.assign rfl) ?_
    refine Lst.nil ?_
    refine At.then ?_
    refine Cd.seq ?_
    refine Cd.region ?_
    refine Lst.run rfl rfl (by decide) (Ev.move rfl) ?_
    refine Lst.run rfl rfl (by decide) (Ev.not rfl) ?_
    refine Lst.nil ?_
    refine At.then ?_
    rcases Bool.eq_false_or_eq_true (!r45.2) with hb49 | hb49
    · replace H := ite_t hb49 H
      refine Cd.condT rfl hb49 ?_
      refine Cd.seq ?_
      refine Cd.as (e' := []) (L' := L) trivial rfl ?_
      refine Cd.region ?_
      refine Lst.run rfl rfl (by decide) (Ev.assign rfl) ?_
      refine Lst.nil ?_
      refine At.then ?_
      have H := hret34 _ (some_inj H).symm
      subst H
      replace H := HKl34
      have H := hret28 _ (some_inj H).symm
      subst H
      replace H := HKl28
      obtain rfl := some_inj H
      refine Cd.ret ?_
      refine At.in_ret ?_
      refine At.then_ret ?_
      refine At.then_ret ?_
      refine At.in_ret ?_
      refine At.in_ret ?_
      refine At.then_ret ?_
      refine At.then_ret ?_
      refine At.in_ret ?_
      refine At.then_ret ?_
      exact At.ret1 rfl (Res.tmp rfl) (FLe.trans (FLe.trans (FLe.trans hF5 hF13) hF30) hF36) (List.Sublist.refl _) ⟨rfl, rfl⟩
    replace H := ite_f hb49 H
    refine Cd.condF rfl hb49 ?_
    refine Cd.skip ?_
    refine At.in_normal ?_
    refine At.then ?_
    refine Cd.region ?_
    refine Lst.run rfl rfl (by decide) (Ev.incr (by omega) rfl rfl) ?_
    refine Lst.run rfl rfl (by decide) (Ev.move rfl) ?_
    refine Lst.nil ?_
    exact At.meet (i34 + 1, k34, ()) hF36 ⟨rfl, rfl, rfl, rfl, rfl, rfl, rfl, rfl, trivial⟩ rfl ⟨⟨hgo34 _ (some_inj H).symm, by omega⟩, Nat.lt_succ_self _⟩
  have hc11 : decide ((i11 : Int) < (a0.length : Int)) = true := decide_eq_true (by omega)
  obtain ⟨c11, H, hgo11, hbrk11, hret11⟩ := rangeM_go H
  unfold partref_SetsErr_B0 at H
  try dsimp only at H
  refine Cd.seq ?_
  refine Cd.region ?_
  refine Lst.run rfl rfl (by decide) (Ev.lss rfl rfl) ?_
  refine Lst.nil ?_
  refine At.then ?_
  refine Cd.seq ?_
  refine Cd.condT rfl hc11 ?_
  refine Cd.skip ?_
  refine At.then ?_
  refine Cd.seq ?_
  refine Cd.block ?_
  refine Cd.seq ?_
  refine Cd.region ?_
  refine Lst.run rfl rfl (by decide) (Ev.move rfl) ?_
  obtain ⟨x14, h15, H⟩ := bind_some H
  have g16 := lat_some h15
  refine Lst.run rfl rfl (by decide) (Ev.indexS (α := BitVec 16) (xs := a0) rfl rfl Try.runUnderlying27 Try.sizeOf31 rfl (by decide) (hs_a0.mono (FLe.trans hF5 hF13) hM) g16.1 g16.2.1) ?_
  refine Lst.run rfl rfl (by decide) (Ev.loadS (α := BitVec 16) rfl (hs_a0.mono (FLe.trans hF5 hF13) hM) Try.isAgg31 (v := .int .u16 x14.toNat) ((Get.elemN (s := 1) (x := x14) rfl g16.2.2 (Get.here _)).off (by omega))) ?_
  refine Lst.run rfl rfl (by decide) (Ev.assign rfl) ?_
  refine Lst.run rfl rfl (by decide) (Ev.assign rfl) ?_
  refine Lst.nil ?_
  refine At.then ?_
  refine Cd.seq ?_
  refine Cd.seq ?_
  refine Cd.region ?_
  refine Lst.run rfl rfl (by decide) (Ev.move rfl) ?_
  refine Lst.run rfl rfl (by decide) (Ev.gtr rfl rfl) ?_
  refine Lst.nil ?_
  refine At.then ?_
  rcases Bool.eq_false_or_eq_true (decide ((x14.toNat : Int) > ((4095 : BitVec 16).toNat : Int))) with hb17 | hb17
  · replace H := ite_t hb17 H
    refine Cd.condT rfl hb17 ?_
    refine Cd.seq ?_
    refine Cd.region ?_
    refine Lst.run rfl rfl (by decide) (Ev.assign rfl) ?_
    refine Lst.nil ?_
    refine At.then ?_
    have H := hret11 _ (some_inj H).symm
    subst H
    replace H := HKl11
    obtain rfl := some_inj H
    refine Cd.ret ?_
    refine At.then_ret ?_
    refine At.in_ret ?_
    refine At.then_ret ?_
    refine At.then_ret ?_
    refine At.in_ret ?_
    refine At.then_ret ?_
    exact At.ret1 rfl (Res.tmp rfl) (FLe.trans hF5 hF13) (List.Sublist.refl _) ⟨rfl, rfl⟩
  replace H := ite_f hb17 H
  refine Cd.condF rfl hb17 ?_
  refine Cd.skip ?_
  refine At.then ?_
  refine Cd.seq ?_
  refine Cd.region ?_
  refine Lst.run rfl rfl (by decide) (Ev.move rfl) ?_
  refine Lst.run rfl rfl (by decide) (Ev.gtr rfl rfl) ?_
  refine Lst.run rfl rfl (by decide) (Ev.move rfl) ?_
  obtain ⟨o18, H, HKo18⟩ := bind_some H
  refine Lst.join (σ := Bool) 8 (fun y19 => [(0, Sl.v s_a0), (25, Sl.v s_a0), (26, .int .i64 (a0.length : Int)), (27, .int .i64 (i11 : Int)), (44, .bool y19)]) (fun y19 => L) (fun _ y19 => y19 = o18) ?_ ?_
  · rcases (Bool.eq_false_or_eq_true (decide ((i11 : Int) > (0 : Int)))).symm with hb20 | hb20
    · replace H := ite_f hb20 H
      refine Lst.skip rfl rfl rfl hb20 rfl (by decide) ?_
      refine Lst.skip rfl rfl rfl hb20 rfl (by decide) ?_
      refine Lst.skip rfl rfl rfl hb20 rfl (by decide) ?_
      refine Lst.skip rfl rfl rfl hb20 rfl (by decide) ?_
      refine Lst.skip rfl rfl rfl hb20 rfl (by decide) ?_
      refine Lst.skip rfl rfl rfl hb20 rfl (by decide) ?_
      refine Lst.skip rfl rfl rfl hb20 rfl (by decide) ?_
      refine Lst.run rfl rfl (by decide) (Ev.pickF rfl hb20 rfl) ?_
      refine Lst.nil ?_
      exact At.meet false (FLe.refl _) ⟨rfl, rfl, rfl, rfl, rfl, trivial⟩ rfl (some_inj H)
    replace H := ite_t hb20 H
    refine Lst.runG rfl rfl rfl hb20 rfl (by decide) (Ev.move rfl) ?_
    refine Lst.runG rfl rfl rfl hb20 rfl (by decide) (Ev.move rfl) ?_
    refine Lst.runG rfl rfl rfl hb20 rfl (by decide) (Ev.sub rfl rfl) ?_
    obtain ⟨x21, h22, H⟩ := bind_some H
    have g23 := lat_some h22
    refine Lst.runG rfl rfl rfl hb20 rfl (by decide) (Ev.indexS (α := BitVec 16) (xs := a0) rfl rfl Try.runUnderlying27 Try.sizeOf31 rfl (by decide) (hs_a0.mono (FLe.trans hF5 hF13) hM) g23.1 g23.2.1) ?_
    refine Lst.runG rfl rfl rfl hb20 rfl (by decide) (Ev.loadS (α := BitVec 16) rfl (hs_a0.mono (FLe.trans hF5 hF13) hM) Try.isAgg31 (v := .int .u16 x21.toNat) ((Get.elemN (s := 1) (x := x21) rfl g23.2.2 (Get.here _)).off (by omega))) ?_
    refine Lst.runG rfl rfl rfl hb20 rfl (by decide) (Ev.move rfl) ?_
    refine Lst.runG rfl rfl rfl hb20 rfl (by decide) (Ev.geq rfl rfl) ?_
    refine Lst.run rfl rfl (by decide) (Ev.pickT rfl hb20 rfl) ?_
    refine Lst.nil ?_
    exact At.meet (decide ((x21.toNat : Int) ≥ (x14.toNat : Int))) (FLe.refl _) ⟨rfl, rfl, rfl, rfl, rfl, trivial⟩ rfl (some_inj H)
  rintro F24 y19 hF25 hy
  subst hy
  refine Lst.as (e' := [(0, Sl.v s_a0), (25, Sl.v s_a0), (26, .int .i64 (a0.length : Int)), (27, .int .i64 (i11 : Int)), (44, .bool y19)]) (L' := L) ⟨rfl, rfl, rfl, rfl, rfl, trivial⟩ rfl ?_
  replace H := HKo18
  refine Lst.nil ?_
  refine At.then ?_
  rcases Bool.eq_false_or_eq_true y19 with hb26 | hb26
  · replace H := ite_t hb26 H
    refine Cd.condT rfl hb26 ?_
    refine Cd.seq ?_
    refine Cd.region ?_
    refine Lst.run rfl rfl (by decide) (Ev.assign rfl) ?_
    refine Lst.nil ?_
    refine At.then ?_
    have H := hret11 _ (some_inj H).symm
    subst H
    replace H := HKl11
    obtain rfl := some_inj H
    refine Cd.ret ?_
    refine At.in_ret ?_
    refine At.then_ret ?_
    refine At.then_ret ?_
    refine At.in_ret ?_
    refine At.then_ret ?_
    exact At.ret1 rfl (Res.tmp rfl) (FLe.trans (FLe.trans hF5 hF13) hF25) (List.Sublist.refl _) ⟨rfl, rfl⟩
  replace H := ite_f hb26 H
  refine Cd.condF rfl hb26 ?_
  refine Cd.skip ?_
  refine At.in_normal ?_
  refine At.then ?_
  refine Cd.region ?_
  refine Lst.run rfl rfl (by decide) (Ev.incr (by omega) rfl rfl) ?_
  refine Lst.run rfl rfl (by decide) (Ev.move rfl) ?_
  refine Lst.nil ?_
  exact At.meet (i11 + 1, k11, ()) (FLe.trans hF13 hF25) ⟨rfl, rfl, rfl, rfl, trivial⟩ rfl ⟨⟨hgo11 _ (some_inj H).symm, by omega⟩, Nat.lt_succ_self _⟩
set_option maxRecDepth 20000 in
theorem lat_indices_sim {a0 : List (BitVec 16)} {s_a0 : Sl} {r : (List ((BitVec 16) × Int))} (H : lat_indices a0 = some r) (w0 : World) (F : Frz) (M L : List Item) (hM : M.Sublist L) (hs_a0 : Rd w0 F M s_a0 a0) : Ok Try.prog w0 52 [Sl.v s_a0] F (L) (fun _ L' v => ∃ (b13 : Nat), v = .map (some b13) ∧ L' = (mitem b13 (fun x : BitVec 16 => (.int .u16 x.toNat : Value)) (fun x : Int => (.int .i64 x : Value)) r) :: L) := by
  unfold lat_indices at H
  refine Ok.enter (m := 1) (n := 19) Try.func52 rfl rfl rfl (by decide) ?_
  refine Cd.env (e' := [(0, Sl.v s_a0)]) rfl ?_
  refine Cd.seq ?_
  refine Cd.region ?_
  refine Lst.run rfl rfl (by decide) (Ev.assign rfl) ?_
  refine Lst.nil ?_
  refine At.then ?_
  refine Cd.seq ?_
  refine Cd.region ?_
  refine Lst.makeMap (fun x : BitVec 16 => (.int .u16 x.toNat : Value)) (fun x : Int => (.int .i64 x : Value)) rfl rfl (by decide) (fun b1 => ?_)
  refine Lst.run rfl rfl (by decide) (Ev.assign rfl) ?_
  refine Lst.nil ?_
  refine At.then ?_
  refine Cd.seq ?_
  refine Cd.seq ?_
  refine Cd.region ?_
  refine Lst.run rfl rfl (by decide) (Ev.move rfl) ?_
  refine Lst.run rfl rfl (by decide) (Ev.lenS (α := BitVec 16) (xs := a0) (by decide) rfl rfl Try.runUnderlying27 (hs_a0.mono (FLe.refl _) (List.Sublist.cons _ hM))) ?_
  refine Lst.run rfl rfl (by decide) (Ev.move rfl) ?_
  refine Lst.nil ?_
  refine At.then ?_
  refine Cd.block ?_
  refine Cd.bound (Rd.le (α := BitVec 16) (xs := a0) (by decide) (hs_a0.mono (FLe.refl _) (List.Sublist.cons _ hM))) (fun hN12 => ?_)
  obtain ⟨ol3, H, HKl3⟩ := bind_some H
  refine Cd.loop (σ := Nat × Nat × (List ((BitVec 16) × Int))) (fun (i3, k3, l4) => [(3, .map (some b1)), (7, Sl.v s_a0), (8, .int .i64 (a0.length : Int)), (9, .int .i64 (i3 : Int))]) (fun (i3, k3, l4) => (mitem b1 (fun x : BitVec 16 => (.int .u16 x.toNat : Value)) (fun x : Int => (.int .i64 x : Value)) l4) :: L) (fun _ => (fun (i3, k3, l4) => rangeF (lat_indices_B0 a0) k3 i3 l4 = some ol3 ∧ i3 + k3 = a0.length)) (fun (i3, k3, l4) => k3) (0, a0.length, ([] : List ((BitVec 16) × Int))) ⟨rfl, rfl, rfl, rfl, trivial⟩ rfl ⟨H, by omega⟩ ?_
  rintro F5 ⟨i3, k3, l4⟩ hF6 ⟨H, hik3⟩
  refine Cd.as (e' := [(3, .map (some b1)), (7, Sl.v s_a0), (8, .int .i64 (a0.length : Int)), (9, .int .i64 (i3 : Int))]) (L' := (mitem b1 (fun x : BitVec 16 => (.int .u16 x.toNat : Value)) (fun x : Int => (.int .i64 x : Value)) l4) :: L) ⟨rfl, rfl, rfl, rfl, trivial⟩ rfl ?_
  rcases k3 with _ | k3
  · have hc3 : decide ((i3 : Int) < (a0.length : Int)) = false := decide_eq_false (by omega)
    replace H := rangeF_end H
    refine Cd.seq ?_
    refine Cd.region ?_
    refine Lst.run rfl rfl (by decide) (Ev.lss rfl rfl) ?_
    refine Lst.nil ?_
    refine At.then ?_
    refine Cd.seq ?_
    refine Cd.condF rfl hc3 ?_
    refine Cd.exit ?_
    refine At.then_exit ?_
    refine At.then_exit ?_
    refine At.in_exit ?_
    subst H
    replace H := HKl3
    refine At.then ?_
    refine Cd.seq ?_
    refine Cd.region ?_
    refine Lst.run rfl rfl (by decide) (Ev.move rfl) ?_
    refine Lst.run rfl rfl (by decide) (Ev.assign rfl) ?_
    refine Lst.nil ?_
    refine At.then ?_
    obtain rfl := some_inj H
    refine Cd.ret ?_
    exact At.ret1 rfl (Res.tmp rfl) hF6 (List.Sublist.cons_cons _ (List.Sublist.refl _)) ⟨b1, rfl, rfl⟩
  have hc3 : decide ((i3 : Int) < (a0.length : Int)) = true := decide_eq_true (by omega)
  obtain ⟨c3, H, hgo3⟩ := rangeF_go H
  unfold lat_indices_B0 at H
  try dsimp only at H
  refine Cd.seq ?_
  refine Cd.region ?_
  refine Lst.run rfl rfl (by decide) (Ev.lss rfl rfl) ?_
  refine Lst.nil ?_
  refine At.then ?_
  refine Cd.seq ?_
  refine Cd.condT rfl hc3 ?_
  refine Cd.skip ?_
  refine At.then ?_
  refine Cd.seq ?_
  refine Cd.block ?_
  refine Cd.seq ?_
  refine Cd.region ?_
  refine Lst.run rfl rfl (by decide) (Ev.move rfl) ?_
  obtain ⟨x7, h8, H⟩ := bind_some H
  have g9 := lat_some h8
  refine Lst.run rfl rfl (by decide) (Ev.indexS (α := BitVec 16) (xs := a0) rfl rfl Try.runUnderlying27 Try.sizeOf31 rfl (by decide) (hs_a0.mono hF6 (List.Sublist.cons _ hM)) g9.1 g9.2.1) ?_
  refine Lst.run rfl rfl (by decide) (Ev.loadS (α := BitVec 16) rfl (hs_a0.mono hF6 (List.Sublist.cons _ hM)) Try.isAgg31 (v := .int .u16 x7.toNat) ((Get.elemN (s := 1) (x := x7) rfl g9.2.2 (Get.here _)).off (by omega))) ?_
  refine Lst.run rfl rfl (by decide) (Ev.assign rfl) ?_
  refine Lst.run rfl rfl (by decide) (Ev.assign rfl) ?_
  refine Lst.nil ?_
  refine At.then ?_
  refine Cd.region ?_
  refine Lst.run rfl rfl (by decide) (Ev.move rfl) ?_
  refine Lst.run rfl rfl (by decide) (Ev.move rfl) ?_
  refine Lst.run rfl rfl (by decide) (Ev.move rfl) ?_
  obtain ⟨m10, h11, H⟩ := Let_some H
  refine Lst.mapUpdate (i := 0) (kf := (fun x : BitVec 16 => (.int .u16 x.toNat : Value))) (vf := (fun x : Int => (.int .i64 x : Value))) (m := l4) (k := x7) (v := (i3 : Int)) rfl rfl rfl rfl rfl rfl (KeyOk.u16 Try.runUnderlying31) Try.runUnderlying85 ?_
  refine Lst.its (L' := (mitem b1 (fun x : BitVec 16 => (.int .u16 x.toNat : Value)) (fun x : Int => (.int .i64 x : Value)) m10) :: L) (by rw [← h11]; rfl) ?_
  refine Lst.nil ?_
  refine At.in_normal ?_
  refine At.then ?_
  refine Cd.region ?_
  refine Lst.run rfl rfl (by decide) (Ev.incr (by omega) rfl rfl) ?_
  refine Lst.run rfl rfl (by decide) (Ev.move rfl) ?_
  refine Lst.nil ?_
  exact At.meet (i3 + 1, k3, m10) hF6 ⟨rfl, rfl, rfl, rfl, trivial⟩ rfl ⟨⟨hgo3 _ (some_inj H).symm, by omega⟩, Nat.lt_succ_self _⟩
set_option maxRecDepth 20000 in
theorem lat_Check_sim {a0 : List (BitVec 16)} {s_a0 : Sl} {r : Int} (H : lat_Check a0 = some r) (w0 : World) (F : Frz) (M L : List Item) (hM : M.Sublist L) (hs_a0 : Rd w0 F M s_a0 a0) : Ok Try.prog w0 21 [Sl.v s_a0] F (L) (Is (.int .i64 r) (L)) := by
  unfold lat_Check at H
  refine Ok.enter (m := 1) (n := 91) Try.func21 rfl rfl rfl (by decide) ?_
  refine Cd.env (e' := [(0, Sl.v s_a0)]) rfl ?_
  refine Cd.seq ?_
  refine Cd.region ?_
  refine Lst.run rfl rfl (by decide) (Ev.assign rfl) ?_
  refine Lst.nil ?_
  refine At.then ?_
  refine Cd.seq ?_
  refine Cd.seq ?_
  refine Cd.region ?_
  refine Lst.run rfl rfl (by decide) (Ev.move rfl) ?_
  refine Lst.run rfl rfl (by decide) (Ev.lenS (α := BitVec 16) (xs := a0) (by decide) rfl rfl Try.runUnderlying27 (hs_a0.mono (FLe.refl _) hM)) ?_
  refine Lst.run rfl rfl (by decide) (Ev.lss rfl rfl) ?_
  refine Lst.run rfl rfl (by decide) (Ev.move rfl) ?_
  obtain ⟨o1, H, HKo1⟩ := bind_some H
  refine Lst.join (σ := Bool) 4 (fun y2 => [(0, Sl.v s_a0), (21, .bool y2)]) (fun y2 => L) (fun _ y2 => y2 = o1) ?_ ?_
  · rcases Bool.eq_false_or_eq_true (decide ((a0.length : Int) < (1 : Int))) with hb3 | hb3
    · replace H := ite_t hb3 H
      refine Lst.skip rfl rfl rfl hb3 rfl (by decide) ?_
      refine Lst.skip rfl rfl rfl hb3 rfl (by decide) ?_
      refine Lst.skip rfl rfl rfl hb3 rfl (by decide) ?_
      refine Lst.run rfl rfl (by decide) (Ev.pickT rfl hb3 rfl) ?_
      refine Lst.nil ?_
      exact At.meet true (FLe.refl _) ⟨rfl, rfl, trivial⟩ rfl (some_inj H)
    replace H := ite_f hb3 H
    refine Lst.runG rfl rfl rfl hb3 rfl (by decide) (Ev.move rfl) ?_
    refine Lst.runG rfl rfl rfl hb3 rfl (by decide) (Ev.lenS (α := BitVec 16) (xs := a0) (by decide) rfl rfl Try.runUnderlying27 (hs_a0.mono (FLe.refl _) hM)) ?_
    refine Lst.runG rfl rfl rfl hb3 rfl (by decide) (Ev.gtr rfl rfl) ?_
    refine Lst.run rfl rfl (by decide) (Ev.pickF rfl hb3 rfl) ?_
    refine Lst.nil ?_
    exact At.meet (decide ((a0.length : Int) > (4096 : Int))) (FLe.refl _) ⟨rfl, rfl, trivial⟩ rfl (some_inj H)
  rintro F4 y2 hF5 hy
  subst hy
  refine Lst.as (e' := [(0, Sl.v s_a0), (21, .bool y2)]) (L' := L) ⟨rfl, rfl, trivial⟩ rfl ?_
  replace H := HKo1
  refine Lst.nil ?_
  refine At.then ?_
  rcases Bool.eq_false_or_eq_true y2 with hb6 | hb6
  · replace H := ite_t hb6 H
    refine Cd.condT rfl hb6 ?_
    refine Cd.seq ?_
    refine Cd.region ?_
    refine Lst.run rfl rfl (by decide) (Ev.assign rfl) ?_
    refine Lst.nil ?_
    refine At.then ?_
    obtain rfl := some_inj H
    refine Cd.ret ?_
    refine At.then_ret ?_
    exact At.ret1 rfl (Res.tmp rfl) hF5 (List.Sublist.refl _) ⟨rfl, rfl⟩
  replace H := ite_f hb6 H
  refine Cd.condF rfl hb6 ?_
  refine Cd.skip ?_
  refine At.then ?_
  refine Cd.seq ?_
  refine Cd.seq ?_
  refine Cd.region ?_
  refine Lst.run rfl rfl (by decide) (Ev.move rfl) ?_
  obtain ⟨x7, h8, H⟩ := bind_some H
  have g9 := lat_some h8
  refine Lst.run rfl rfl (by decide) (Ev.indexS (α := BitVec 16) (xs := a0) rfl rfl Try.runUnderlying27 Try.sizeOf31 rfl (by decide) (hs_a0.mono hF5 hM) g9.1 g9.2.1) ?_
  refine Lst.run rfl rfl (by decide) (Ev.loadS (α := BitVec 16) rfl (hs_a0.mono hF5 hM) Try.isAgg31 (v := .int .u16 x7.toNat) ((Get.elemN (s := 1) (x := x7) rfl g9.2.2 (Get.here _)).off (by omega))) ?_
  refine Lst.run rfl rfl (by decide) (Ev.neq rfl rfl) ?_
  refine Lst.nil ?_
  refine At.then ?_
  rcases Bool.eq_false_or_eq_true ((x7.toNat : Int) != ((0 : BitVec 16).toNat : Int)) with hb10 | hb10
  · replace H := ite_t hb10 H
    refine Cd.condT rfl hb10 ?_
    refine Cd.seq ?_
    refine Cd.region ?_
    refine Lst.run rfl rfl (by decide) (Ev.assign rfl) ?_
    refine Lst.nil ?_
    refine At.then ?_
    obtain rfl := some_inj H
    refine Cd.ret ?_
    refine At.then_ret ?_
    exact At.ret1 rfl (Res.tmp rfl) hF5 (List.Sublist.refl _) ⟨rfl, rfl⟩
  replace H := ite_f hb10 H
  refine Cd.condF rfl hb10 ?_
  refine Cd.skip ?_
  refine At.then ?_
  refine Cd.seq ?_
  refine Cd.seq ?_
  refine Cd.region ?_
  refine Lst.run rfl rfl (by decide) (Ev.move rfl) ?_
  refine Lst.run rfl rfl (by decide) (Ev.lenS (α := BitVec 16) (xs := a0) (by decide) rfl rfl Try.runUnderlying27 (hs_a0.mono hF5 hM)) ?_
  refine Lst.run rfl rfl (by decide) (Ev.move rfl) ?_
  refine Lst.nil ?_
  refine At.then ?_
  refine Cd.block ?_
  refine Cd.bound (Rd.le (α := BitVec 16) (xs := a0) (by decide) (hs_a0.mono hF5 hM)) (fun hN54 => ?_)
  obtain ⟨ol11, H, HKl11⟩ := andThen_some H
  refine Cd.loop (σ := Nat × Nat × Unit) (fun (i11, k11, _u) => [(0, Sl.v s_a0), (26, Sl.v s_a0), (27, .int .i64 (a0.length : Int)), (28, .int .i64 (i11 : Int))]) (fun (i11, k11, _u) => L) (fun _ => (fun (i11, k11, _u) => rangeM (lat_Check_B0 a0) k11 i11 () = some ol11 ∧ i11 + k11 = a0.length)) (fun (i11, k11, _u) => k11) (0, a0.length, ()) ⟨rfl, rfl, rfl, rfl, trivial⟩ rfl ⟨H, by omega⟩ ?_
  rintro F12 ⟨i11, k11, _u⟩ hF13 ⟨H, hik11⟩
  refine Cd.as (e' := [(0, Sl.v s_a0), (26, Sl.v s_a0), (27, .int .i64 (a0.length : Int)), (28, .int .i64 (i11 : Int))]) (L' := L) ⟨rfl, rfl, rfl, rfl, trivial⟩ rfl ?_
  rcases k11 with _ | k11
  · have hc11 : decide ((i11 : Int) < (a0.length : Int)) = false := decide_eq_false (by omega)
    replace H := rangeM_end H
    refine Cd.seq ?_
    refine Cd.region ?_
    refine Lst.run rfl rfl (by decide) (Ev.lss rfl rfl) ?_
    refine Lst.nil ?_
    refine At.then ?_
    refine Cd.seq ?_
    refine Cd.condF rfl hc11 ?_
    refine Cd.exit ?_
    refine At.then_exit ?_
    refine At.then_exit ?_
    refine At.in_exit ?_
    subst H
    replace H := HKl11
    refine At.then ?_
    refine Cd.seq ?_
    refine Cd.seq ?_
    refine Cd.region ?_
    refine Lst.run rfl rfl (by decide) (Ev.move rfl) ?_
    refine Lst.run rfl rfl (by decide) (Ev.lenS (α := BitVec 16) (xs := a0) (by decide) rfl rfl Try.runUnderlying27 (hs_a0.mono (FLe.trans hF5 hF13) hM)) ?_
    refine Lst.run rfl rfl (by decide) (Ev.gtr rfl rfl) ?_
    refine Lst.nil ?_
    refine At.then ?_
    rcases Bool.eq_false_or_eq_true (decide ((a0.length : Int) > (300 : Int))) with hb27 | hb27
    · replace H := ite_t hb27 H
      refine Cd.condT rfl hb27 ?_
      refine Cd.seq ?_
      refine Cd.region ?_
      refine Lst.run rfl rfl (by decide) (Ev.assign rfl) ?_
      refine Lst.nil ?_
      refine At.then ?_
      obtain rfl := some_inj H
      refine Cd.ret ?_
      refine At.then_ret ?_
      exact At.ret1 rfl (Res.tmp rfl) (FLe.trans hF5 hF13) (List.Sublist.refl _) ⟨rfl, rfl⟩
    replace H := ite_f hb27 H
    refine Cd.condF rfl hb27 ?_
    refine Cd.skip ?_
    refine At.then ?_
    refine Cd.seq ?_
    refine Cd.region ?_
    refine Lst.run rfl rfl (by decide) (Ev.move rfl) ?_
    obtain ⟨r28, h29, H⟩ := bind_some H
    refine Lst.call rfl rfl (by decide) (vs := [Sl.v s_a0]) ⟨rfl, trivial⟩ Try.call52 (lat_indices_sim h29 w0 _ M _ hM (hs_a0.mono (FLe.trans hF5 hF13) (List.Sublist.refl _))) (fun F32 L' v hF33 hv => ?_)
    obtain ⟨b30, rfl, rfl⟩ := hv
    refine Lst.run rfl rfl (by decide) (Ev.assign rfl) ?_
    refine Lst.nil ?_
    refine At.then ?_
    refine Cd.seq ?_
    refine Cd.seq ?_
    refine Cd.region ?_
    refine Lst.run rfl rfl (by decide) (Ev.move rfl) ?_
    refine Lst.run rfl rfl (by decide) (Ev.lenS (α := BitVec 16) (xs := a0) (by decide) rfl rfl Try.runUnderlying27 (hs_a0.mono (FLe.trans (FLe.trans hF5 hF13) hF33) (List.Sublist.cons _ hM))) ?_
    refine Lst.run rfl rfl (by decide) (Ev.move rfl) ?_
    refine Lst.nil ?_
    refine At.then ?_
    refine Cd.block ?_
    refine Cd.bound (Rd.le (α := BitVec 16) (xs := a0) (by decide) (hs_a0.mono (FLe.trans (FLe.trans hF5 hF13) hF33) (List.Sublist.cons _ hM))) (fun hN53 => ?_)
    obtain ⟨ol34, H, HKl34⟩ := andThen_some H
    refine Cd.loop (σ := Nat × Nat × Unit) (fun (i34, k34, _u) => [(0, Sl.v s_a0), (5, .map (some b30)), (55, Sl.v s_a0), (56, .int .i64 (a0.length : Int)), (57, .int .i64 (i34 : Int))]) (fun (i34, k34, _u) => (mitem b30 (fun x : BitVec 16 => (.int .u16 x.toNat : Value)) (fun x : Int => (.int .i64 x : Value)) r28) :: L) (fun _ => (fun (i34, k34, _u) => rangeM (lat_Check_B3 a0 r28) k34 i34 () = some ol34 ∧ i34 + k34 = a0.length)) (fun (i34, k34, _u) => k34) (0, a0.length, ()) ⟨rfl, rfl, rfl, rfl, rfl, trivial⟩ rfl ⟨H, by omega⟩ ?_
    rintro F35 ⟨i34, k34, _u⟩ hF36 ⟨H, hik34⟩
    refine Cd.as (e' := [(0, Sl.v s_a0), (5, .map (some b30)), (55, Sl.v s_a0), (56, .int .i64 (a0.length : Int)), (57, .int .i64 (i34 : Int))]) (L' := (mitem b30 (fun x : BitVec 16 => (.int .u16 x.toNat : Value)) (fun x : Int => (.int .i64 x : Value)) r28) :: L) ⟨rfl, rfl, rfl, rfl, rfl, trivial⟩ rfl ?_
    rcases k34 with _ | k34
    · have hc34 : decide ((i34 : Int) < (a0.length : Int)) = false := decide_eq_false (by omega)
      replace H := rangeM_end H
      refine Cd.seq ?_
      refine Cd.region ?_
      refine Lst.run rfl rfl (by decide) (Ev.lss rfl rfl) ?_
      refine Lst.nil ?_
      refine At.then ?_
      refine Cd.seq ?_
      refine Cd.condF rfl hc34 ?_
      refine Cd.exit ?_
      refine At.then_exit ?_
      refine At.then_exit ?_
      refine At.in_exit ?_
      subst H
      replace H := HKl34
      refine At.then ?_
      refine Cd.seq ?_
      refine Cd.region ?_
      refine Lst.run rfl rfl (by decide) (Ev.assign rfl) ?_
      refine Lst.nil ?_
      refine At.then ?_
      obtain rfl := some_inj H
      refine Cd.ret ?_
      exact At.ret1 rfl (Res.tmp rfl) (FLe.trans (FLe.trans (FLe.trans hF5 hF13) hF33) hF36) (List.Sublist.cons _ (List.Sublist.refl _)) ⟨rfl, rfl⟩
    have hc34 : decide ((i34 : Int) < (a0.length : Int)) = true := decide_eq_true (by omega)
    obtain ⟨c34, H, hgo34, hbrk34, hret34⟩ := rangeM_go H
    unfold lat_Check_B3 at H
    try dsimp only at H
    refine Cd.seq ?_
    refine Cd.region ?_
    refine Lst.run rfl rfl (by decide) (Ev.lss rfl rfl) ?_
    refine Lst.nil ?_
    refine At.then ?_
    refine Cd.seq ?_
    refine Cd.condT rfl hc34 ?_
    refine Cd.skip ?_
    refine At.then ?_
    refine Cd.seq ?_
    refine Cd.block ?_
    refine Cd.seq ?_
    refine Cd.region ?_
    obtain ⟨x37, h38, H⟩ := bind_some H
    have g39 := lat_some h38
    refine Lst.run rfl rfl (by decide) (Ev.indexS (α := BitVec 16) (xs := a0) rfl rfl Try.runUnderlying27 Try.sizeOf31 rfl (by decide) (hs_a0.mono (FLe.trans (FLe.trans (FLe.trans hF5 hF13) hF33) hF36) (List.Sublist.cons _ hM)) g39.1 g39.2.1) ?_
    refine Lst.run rfl rfl (by decide) (Ev.loadS (α := BitVec 16) rfl (hs_a0.mono (FLe.trans (FLe.trans (FLe.trans hF5 hF13) hF33) hF36) (List.Sublist.cons _ hM)) Try.isAgg31 (v := .int .u16 x37.toNat) ((Get.elemN (s := 1) (x := x37) rfl g39.2.2 (Get.here _)).off (by omega))) ?_
    refine Lst.run rfl rfl (by decide) (Ev.assign rfl) ?_
    refine Lst.nil ?_
    refine At.then ?_
    refine Cd.seq ?_
    refine Cd.region ?_
    refine Lst.run rfl rfl (by decide) (Ev.move rfl) ?_
    refine Lst.run rfl rfl (by decide) (Ev.lenS (α := BitVec 16) (xs := a0) (by decide) rfl rfl Try.runUnderlying27 (hs_a0.mono (FLe.trans (FLe.trans (FLe.trans hF5 hF13) hF33) hF36) (List.Sublist.cons _ hM))) ?_
    refine Lst.run rfl rfl (by decide) (Ev.move rfl) ?_
    refine Lst.nil ?_
    refine At.then ?_
    refine Cd.block ?_
    refine Cd.bound (Rd.le (α := BitVec 16) (xs := a0) (by decide) (hs_a0.mono (FLe.trans (FLe.trans (FLe.trans hF5 hF13) hF33) hF36) (List.Sublist.cons _ hM))) (fun hN52 => ?_)
    obtain ⟨ol40, H, HKl40⟩ := andThen_some H
    refine Cd.loop (σ := Nat × Nat × Unit) (fun (i40, k40, _u) => [(0, Sl.v s_a0), (5, .map (some b30)), (7, .int .u16 x37.toNat), (55, Sl.v s_a0), (56, .int .i64 (a0.length : Int)), (57, .int .i64 (i34 : Int)), (61, Sl.v s_a0), (62, .int .i64 (a0.length : Int)), (63, .int .i64 (i40 : Int))]) (fun (i40, k40, _u) => (mitem b30 (fun x : BitVec 16 => (.int .u16 x.toNat : Value)) (fun x : Int => (.int .i64 x : Value)) r28) :: L) (fun _ => (fun (i40, k40, _u) => rangeM (lat_Check_B5 a0 r28 x37) k40 i40 () = some ol40 ∧ i40 + k40 = a0.length)) (fun (i40, k40, _u) => k40) (0, a0.length, ()) ⟨rfl, rfl, rfl, rfl, rfl, rfl, rfl, rfl, rfl, trivial⟩ rfl ⟨H, by omega⟩ ?_
    rintro F41 ⟨i40, k40, _u⟩ hF42 ⟨H, hik40⟩
    refine Cd.as (e' := [(0, Sl.v s_a0), (5, .map (some b30)), (7, .int .u16 x37.toNat), (55, Sl.v s_a0), (56, .int .i64 (a0.length : Int)), (57, .int .i64 (i34 : Int)), (61, Sl.v s_a0), (62, .int .i64 (a0.length : Int)), (63, .int .i64 (i40 : Int))]) (L' := (mitem b30 (fun x : BitVec 16 => (.int .u16 x.toNat : Value)) (fun x : Int => (.int .i64 x : Value)) r28) :: L) ⟨rfl, rfl, rfl, rfl, rfl, rfl, rfl, rfl, rfl, trivial⟩ rfl ?_
    rcases k40 with _ | k40
    · have hc40 : decide ((i40 : Int) < (a0.length : Int)) = false := decide_eq_false (by omega)
      replace H := rangeM_end H
      refine Cd.seq ?_
      refine Cd.region ?_
      refine Lst.run rfl rfl (by decide) (Ev.lss rfl rfl) ?_
      refine Lst.nil ?_
      refine At.then ?_
      refine Cd.seq ?_
      refine Cd.condF rfl hc40 ?_
      refine Cd.exit ?_
      refine At.then_exit ?_
      refine At.then_exit ?_
      refine At.in_exit ?_
      subst H
      replace H := HKl40
      refine At.in_normal ?_
      refine At.then ?_
      refine Cd.region ?_
      refine Lst.run rfl rfl (by decide) (Ev.incr (by omega) rfl rfl) ?_
      refine Lst.run rfl rfl (by decide) (Ev.move rfl) ?_
      refine Lst.nil ?_
      exact At.meet (i34 + 1, k34, ()) (FLe.trans hF36 hF42) ⟨rfl, rfl, rfl, rfl, rfl, trivial⟩ rfl ⟨⟨hgo34 _ (some_inj H).symm, by omega⟩, Nat.lt_succ_self _⟩
    have hc40 : decide ((i40 : Int) < (a0.length : Int)) = true := decide_eq_true (by omega)
    obtain ⟨c40, H, hgo40, hbrk40, hret40⟩ := rangeM_go H
    unfold lat_Check_B5 at H
    try dsimp only at H
    refine Cd.seq ?_
    refine Cd.region ?_
    refine Lst.run rfl rfl (by decide) (Ev.lss rfl rfl) ?_
    refine Lst.nil ?_
    refine At.then ?_
    refine Cd.seq ?_
    refine Cd.condT rfl hc40 ?_
    refine Cd.skip ?_
    refine At.then ?_
    refine Cd.seq ?_
    refine Cd.block ?_
    refine Cd.seq ?_
    refine Cd.region ?_
    obtain ⟨x43, h44, H⟩ := bind_some H
    have g45 := lat_some h44
    refine Lst.run rfl rfl (by decide) (Ev.indexS (α := BitVec 16) (xs := a0) rfl rfl Try.runUnderlying27 Try.sizeOf31 rfl (by decide) (hs_a0.mono (FLe.trans (FLe.trans (FLe.trans (FLe.trans hF5 hF13) hF33) hF36) hF42) (List.Sublist.cons _ hM)) g45.1 g45.2.1) ?_
    refine Lst.run rfl rfl (by decide) (Ev.loadS (α := BitVec 16) rfl (hs_a0.mono (FLe.trans (FLe.trans (FLe.trans (FLe.trans hF5 hF13) hF33) hF36) hF42) (List.Sublist.cons _ hM)) Try.isAgg31 (v := .int .u16 x43.toNat) ((Get.elemN (s := 1) (x := x43) rfl g45.2.2 (Get.here _)).off (by omega))) ?_
    refine Lst.run rfl rfl (by decide) (Ev.assign rfl) ?_
    refine Lst.nil ?_
    refine At.then ?_
    refine Cd.seq ?_
    refine Cd.region ?_
    refine Lst.run rfl rfl (by decide) (Ev.move rfl) ?_
    refine Lst.run rfl rfl (by decide) (Ev.move rfl) ?_
    refine Lst.run rfl rfl (by decide) (Ev.move rfl) ?_
    refine Lst.run rfl rfl (by decide) (Ev.orU16 (i := x37) (j := x43) rfl rfl) ?_
    refine Lst.run rfl rfl (by decide) (Ev.lookup2 (i := 0) (kf := (fun x : BitVec 16 => (.int .u16 x.toNat : Value))) (vf := (fun x : Int => (.int .i64 x : Value))) (m := r28) (k := (x37 ||| x43)) (z0 := (0 : Int)) rfl rfl rfl (KeyOk.u16 Try.runUnderlying31) Try.runUnderlying85 Try.zeroValue3) ?_
    refine Lst.run rfl rfl (by decide) (Ev.move rfl) ?_
    refine Lst.run rfl rfl (by decide) (Ev.extract rfl rfl) ?_
    refine Lst.run rfl rfl (by decide) (Ev.extract rfl rfl) ?_
    refine Lst.run rfl rfl (by decide) (Ev.assign rfl) ?_
    refine Lst.run rfl rfl (by decide) (Ev.assign rfl) ?_
    refine Lst.nil ?_
    refine At.then ?_
    refine Cd.seq ?_
    refine Cd.region ?_
    refine Lst.run rfl rfl (by decide) (Ev.move rfl) ?_
    refine Lst.run rfl rfl (by decide) (Ev.move rfl) ?_
    refine Lst.run rfl rfl (by decide) (Ev.move rfl) ?_
    refine Lst.run rfl rfl (by decide) (Ev.andU16 (i := x37) (j := x43) rfl rfl) ?_
    refine Lst.run rfl rfl (by decide) (Ev.lookup2 (i := 0) (kf := (fun x : BitVec 16 => (.int .u16 x.toNat : Value))) (vf := (fun x : Int => (.int .i64 x : Value))) (m := r28) (k := (x37 &&& x43)) (z0 := (0 : Int)) rfl rfl rfl (KeyOk.u16 Try.runUnderlying31) Try.runUnderlying85 Try.zeroValue3) ?_
    refine Lst.run rfl rfl (by decide) (Ev.move rfl) ?_
    refine Lst.run rfl rfl (by decide) (Ev.extract rfl rfl) ?_
    refine Lst.run rfl rfl (by decide) (Ev.extract rfl rfl) ?_
    refine Lst.run rfl rfl (by decide) (Ev.assign rfl) ?_
    refine Lst.run rfl rfl (by decide) (Ev.assign rfl) ?_
    refine Lst.nil ?_
    refine At.then ?_
    refine Cd.seq ?_
    refine Cd.as (e' := [(0, Sl.v s_a0), (5, .map (some b30)), (7, .int .u16 x37.toNat), (55, Sl.v s_a0), (56, .int .i64 (a0.length : Int)), (57, .int .i64 (i34 : Int)), (61, Sl.v s_a0), (62, .int .i64 (a0.length : Int)), (63, .int .i64 (i40 : Int)), (11, .bool ((mget r28 (x37 ||| x43)).isSome)), (13, .bool ((mget r28 (x37 &&& x43)).isSome))]) (L' := (mitem b30 (fun x : BitVec 16 => (.int .u16 x.toNat : Value)) (fun x : Int => (.int .i64 x : Value)) r28) :: L) ⟨rfl, rfl, rfl, rfl, rfl, rfl, rfl, rfl, rfl, rfl, rfl, trivial⟩ rfl ?_
    refine Cd.region ?_
    refine Lst.run rfl rfl (by decide) (Ev.move rfl) ?_
    refine Lst.run rfl rfl (by decide) (Ev.not rfl) ?_
    refine Lst.run rfl rfl (by decide) (Ev.move rfl) ?_
    obtain ⟨o46, H, HKo46⟩ := bind_some H
    refine Lst.join (σ := Bool) 3 (fun y47 => [(0, Sl.v s_a0), (5, .map (some b30)), (7, .int .u16 x37.toNat), (55, Sl.v s_a0), (56, .int .i64 (a0.length : Int)), (57, .int .i64 (i34 : Int)), (61, Sl.v s_a0), (62, .int .i64 (a0.length : Int)), (63, .int .i64 (i40 : Int)), (88, .bool y47)]) (fun y47 => (mitem b30 (fun x : BitVec 16 => (.int .u16 x.toNat : Value)) (fun x : Int => (.int .i64 x : Value)) r28) :: L) (fun _ y47 => y47 = o46) ?_ ?_
    · rcases Bool.eq_false_or_eq_true (!((mget r28 (x37 ||| x43)).isSome)) with hb48 | hb48
      · replace H := ite_t hb48 H
        refine Lst.skip rfl rfl rfl hb48 rfl (by decide) ?_
        refine Lst.skip rfl rfl rfl hb48 rfl (by decide) ?_
        refine Lst.run rfl rfl (by decide) (Ev.pickT rfl hb48 rfl) ?_
        refine Lst.nil ?_
        exact At.meet true (FLe.refl _) ⟨rfl, rfl, rfl, rfl, rfl, rfl, rfl, rfl, rfl, rfl, trivial⟩ rfl (some_inj H)
      replace H := ite_f hb48 H
      refine Lst.runG rfl rfl rfl hb48 rfl (by decide) (Ev.move rfl) ?_
      refine Lst.runG rfl rfl rfl hb48 rfl (by decide) (Ev.not rfl) ?_
      refine Lst.run rfl rfl (by decide) (Ev.pickF rfl hb48 rfl) ?_
      refine Lst.nil ?_
      exact At.meet (!((mget r28 (x37 &&& x43)).isSome)) (FLe.refl _) ⟨rfl, rfl, rfl, rfl, rfl, rfl, rfl, rfl, rfl, rfl, trivial⟩ rfl (some_inj H)
    rintro F49 y47 hF50 hy
    subst hy
    refine Lst.as (e' := [(0, Sl.v s_a0), (5, .map (some b30)), (7, .int .u16 x37.toNat), (55, Sl.v s_a0), (56, .int .i64 (a0.length : Int)), (57, .int .i64 (i34 : Int)), (61, Sl.v s_a0), (62, .int .i64 (a0.length : Int)), (63, .int .i64 (i40 : Int)), (88, .bool y47)]) (L' := (mitem b30 (fun x : BitVec 16 => (.int .u16 x.toNat : Value)) (fun x : Int => (.int .i64 x : Value)) r28) :: L) ⟨rfl, rfl, rfl, rfl, rfl, rfl, rfl, rfl, rfl, rfl, trivial⟩ rfl ?_
    replace H := HKo46
    refine Lst.nil ?_
    refine At.then ?_
    rcases Bool.eq_false_or_eq_true y47 with hb51 | hb51
    · replace H := ite_t hb51 H
      refine Cd.condT rfl hb51 ?_
      refine Cd.seq ?_
      refine Cd.region ?_
      refine Lst.run rfl rfl (by decide) (Ev.assign rfl) ?_
      refine Lst.nil ?_
      refine At.then ?_
      have H := hret40 _ (some_inj H).symm
      subst H
      replace H := HKl40
      have H := hret34 _ (some_inj H).symm
      subst H
      replace H := HKl34
      obtain rfl := some_inj H
      refine Cd.ret ?_
      refine At.in_ret ?_
      refine At.then_ret ?_
      refine At.then_ret ?_
      refine At.in_ret ?_
      refine At.in_ret ?_
      refine At.then_ret ?_
      refine At.then_ret ?_
      refine At.in_ret ?_
      refine At.then_ret ?_
      exact At.ret1 rfl (Res.tmp rfl) (FLe.trans (FLe.trans (FLe.trans (FLe.trans (FLe.trans hF5 hF13) hF33) hF36) hF42) hF50) (List.Sublist.cons _ (List.Sublist.refl _)) ⟨rfl, rfl⟩
    replace H := ite_f hb51 H
    refine Cd.condF rfl hb51 ?_
    refine Cd.skip ?_
    refine At.in_normal ?_
    refine At.then ?_
    refine Cd.region ?_
    refine Lst.run rfl rfl (by decide) (Ev.incr (by omega) rfl rfl) ?_
    refine Lst.run rfl rfl (by decide) (Ev.move rfl) ?_
    refine Lst.nil ?_
    exact At.meet (i40 + 1, k40, ()) (FLe.trans hF42 hF50) ⟨rfl, rfl, rfl, rfl, rfl, rfl, rfl, rfl, rfl, trivial⟩ rfl ⟨⟨hgo40 _ (some_inj H).symm, by omega⟩, Nat.lt_succ_self _⟩
  have hc11 : decide ((i11 : Int) < (a0.length : Int)) = true := decide_eq_true (by omega)
  obtain ⟨c11, H, hgo11, hbrk11, hret11⟩ := rangeM_go H
  unfold lat_Check_B0 at H
  try dsimp only at H
  refine Cd.seq ?_
  refine Cd.region ?_
  refine Lst.run rfl rfl (by decide) (Ev.lss rfl rfl) ?_
  refine Lst.nil ?_
  refine At.then ?_
  refine Cd.seq ?_
  refine Cd.condT rfl hc11 ?_
  refine Cd.skip ?_
  refine At.then ?_
  refine Cd.seq ?_
  refine Cd.block ?_
  refine Cd.seq ?_
  refine Cd.region ?_
  refine Lst.run rfl rfl (by decide) (Ev.move rfl) ?_
  obtain ⟨x14, h15, H⟩ := bind_some H
  have g16 := lat_some h15
  refine Lst.run rfl rfl (by decide) (Ev.indexS (α := BitVec 16) (xs := a0) rfl rfl Try.runUnderlying27 Try.sizeOf31 rfl (by decide) (hs_a0.mono (FLe.trans hF5 hF13) hM) g16.1 g16.2.1) ?_
  refine Lst.run rfl rfl (by decide) (Ev.loadS (α := BitVec 16) rfl (hs_a0.mono (FLe.trans hF5 hF13) hM) Try.isAgg31 (v := .int .u16 x14.toNat) ((Get.elemN (s := 1) (x := x14) rfl g16.2.2 (Get.here _)).off (by omega))) ?_
  refine Lst.run rfl rfl (by decide) (Ev.assign rfl) ?_
  refine Lst.run rfl rfl (by decide) (Ev.assign rfl) ?_
  refine Lst.nil ?_
  refine At.then ?_
  refine Cd.block ?_
  refine Cd.seq ?_
  refine Cd.region ?_
  refine Lst.run rfl rfl (by decide) (Ev.move rfl) ?_
  refine Lst.run rfl rfl (by decide) (Ev.shrU16 (i := x14) (m := 12) rfl rfl) ?_
  refine Lst.run rfl rfl (by decide) (Ev.neq rfl rfl) ?_
  refine Lst.run rfl rfl (by decide) (Ev.assign rfl) ?_
  refine Lst.nil ?_
  refine At.then ?_
  rcases Bool.eq_false_or_eq_true (((x14 >>> 12).toNat : Int) != ((0 : BitVec 16).toNat : Int)) with hb17 | hb17
  · replace H := ite_t hb17 H
    refine Cd.condT rfl hb17 ?_
    refine Cd.seq ?_
    refine Cd.region ?_
    refine Lst.run rfl rfl (by decide) (Ev.assign rfl) ?_
    refine Lst.nil ?_
    refine At.then ?_
    have H := hret11 _ (some_inj H).symm
    subst H
    replace H := HKl11
    obtain rfl := some_inj H
    refine Cd.ret ?_
    refine At.in_ret ?_
    refine At.in_ret ?_
    refine At.then_ret ?_
    refine At.then_ret ?_
    refine At.in_ret ?_
    refine At.then_ret ?_
    exact At.ret1 rfl (Res.tmp rfl) (FLe.trans hF5 hF13) (List.Sublist.refl _) ⟨rfl, rfl⟩
  replace H := ite_f hb17 H
  refine Cd.condF rfl hb17 ?_
  refine Cd.seq ?_
  refine Cd.region ?_
  refine Lst.run rfl rfl (by decide) (Ev.move rfl) ?_
  refine Lst.run rfl rfl (by decide) (Ev.gtr rfl rfl) ?_
  refine Lst.run rfl rfl (by decide) (Ev.move rfl) ?_
  obtain ⟨o18, H, HKo18⟩ := bind_some H
  refine Lst.join (σ := Bool) 8 (fun y19 => [(0, Sl.v s_a0), (26, Sl.v s_a0), (27, .int .i64 (a0.length : Int)), (28, .int .i64 (i11 : Int)), (48, .bool y19)]) (fun y19 => L) (fun _ y19 => y19 = o18) ?_ ?_
  · rcases (Bool.eq_false_or_eq_true (decide ((i11 : Int) > (0 : Int)))).symm with hb20 | hb20
    · replace H := ite_f hb20 H
      refine Lst.skip rfl rfl rfl hb20 rfl (by decide) ?_
      refine Lst.skip rfl rfl rfl hb20 rfl (by decide) ?_
      refine Lst.skip rfl rfl rfl hb20 rfl (by decide) ?_
      refine Lst.skip rfl rfl rfl hb20 rfl (by decide) ?_
      refine Lst.skip rfl rfl rfl hb20 rfl (by decide) ?_
      refine Lst.skip rfl rfl rfl hb20 rfl (by decide) ?_
      refine Lst.skip rfl rfl rfl hb20 rfl (by decide) ?_
      refine Lst.run rfl rfl (by decide) (Ev.pickF rfl hb20 rfl) ?_
      refine Lst.nil ?_
      exact At.meet false (FLe.refl _) ⟨rfl, rfl, rfl, rfl, rfl, trivial⟩ rfl (some_inj H)
    replace H := ite_t hb20 H
    refine Lst.runG rfl rfl rfl hb20 rfl (by decide) (Ev.move rfl) ?_
    refine Lst.runG rfl rfl rfl hb20 rfl (by decide) (Ev.move rfl) ?_
    refine Lst.runG rfl rfl rfl hb20 rfl (by decide) (Ev.move rfl) ?_
    refine Lst.runG rfl rfl rfl hb20 rfl (by decide) (Ev.sub rfl rfl) ?_
    obtain ⟨x21, h22, H⟩ := bind_some H
    have g23 := lat_some h22
    refine Lst.runG rfl rfl rfl hb20 rfl (by decide) (Ev.indexS (α := BitVec 16) (xs := a0) rfl rfl Try.runUnderlying27 Try.sizeOf31 rfl (by decide) (hs_a0.mono (FLe.trans hF5 hF13) hM) g23.1 g23.2.1) ?_
    refine Lst.runG rfl rfl rfl hb20 rfl (by decide) (Ev.loadS (α := BitVec 16) rfl (hs_a0.mono (FLe.trans hF5 hF13) hM) Try.isAgg31 (v := .int .u16 x21.toNat) ((Get.elemN (s := 1) (x := x21) rfl g23.2.2 (Get.here _)).off (by omega))) ?_
    refine Lst.runG rfl rfl rfl hb20 rfl (by decide) (Ev.leq rfl rfl) ?_
    refine Lst.run rfl rfl (by decide) (Ev.pickT rfl hb20 rfl) ?_
    refine Lst.nil ?_
    exact At.meet (decide ((x14.toNat : Int) ≤ (x21.toNat : Int))) (FLe.refl _) ⟨rfl, rfl, rfl, rfl, rfl, trivial⟩ rfl (some_inj H)
  rintro F24 y19 hF25 hy
  subst hy
  refine Lst.as (e' := [(0, Sl.v s_a0), (26, Sl.v s_a0), (27, .int .i64 (a0.length : Int)), (28, .int .i64 (i11 : Int)), (48, .bool y19)]) (L' := L) ⟨rfl, rfl, rfl, rfl, rfl, trivial⟩ rfl ?_
  replace H := HKo18
  refine Lst.run rfl rfl (by decide) (Ev.assign rfl) ?_
  refine Lst.nil ?_
  refine At.then ?_
  rcases Bool.eq_false_or_eq_true y19 with hb26 | hb26
  · replace H := ite_t hb26 H
    refine Cd.condT rfl hb26 ?_
    refine Cd.seq ?_
    refine Cd.region ?_
    refine Lst.run rfl rfl (by decide) (Ev.assign rfl) ?_
    refine Lst.nil ?_
    refine At.then ?_
    have H := hret11 _ (some_inj H).symm
    subst H
    replace H := HKl11
    obtain rfl := some_inj H
    refine Cd.ret ?_
    refine At.in_ret ?_
    refine At.in_ret ?_
    refine At.then_ret ?_
    refine At.then_ret ?_
    refine At.in_ret ?_
    refine At.then_ret ?_
    exact At.ret1 rfl (Res.tmp rfl) (FLe.trans (FLe.trans hF5 hF13) hF25) (List.Sublist.refl _) ⟨rfl, rfl⟩
  replace H := ite_f hb26 H
  refine Cd.condF rfl hb26 ?_
  refine Cd.skip ?_
  refine At.in_normal ?_
  refine At.in_normal ?_
  refine At.then ?_
  refine Cd.region ?_
  refine Lst.run rfl rfl (by decide) (Ev.incr (by omega) rfl rfl) ?_
  refine Lst.run rfl rfl (by decide) (Ev.move rfl) ?_
  refine Lst.nil ?_
  exact At.meet (i11 + 1, k11, ()) (FLe.trans hF13 hF25) ⟨rfl, rfl, rfl, rfl, trivial⟩ rfl ⟨⟨hgo11 _ (some_inj H).symm, by omega⟩, Nat.lt_succ_self _⟩
set_option maxRecDepth 20000 in
theorem lat_within_sim {a0 : BitVec 16} {a1 : BitVec 16} {r : Bool} (H : lat_within a0 a1 = some r) (w0 : World) (F : Frz) (M L : List Item) (hM : M.Sublist L) : Ok Try.prog w0 49 [.int .u16 a0.toNat, .int .u16 a1.toNat] F (L) (Is (.bool r) (L)) := by
  unfold lat_within at H
  refine Ok.enter (m := 2) (n := 9) Try.func49 rfl rfl rfl (by decide) ?_
  refine Cd.env (e' := [(0, .int .u16 a0.toNat), (1, .int .u16 a1.toNat)]) rfl ?_
  refine Cd.seq ?_
  refine Cd.region ?_
  refine Lst.run rfl rfl (by decide) (Ev.assign rfl) ?_
  refine Lst.nil ?_
  refine At.then ?_
  refine Cd.seq ?_
  refine Cd.region ?_
  refine Lst.run rfl rfl (by decide) (Ev.move rfl) ?_
  refine Lst.run rfl rfl (by decide) (Ev.move rfl) ?_
  refine Lst.run rfl rfl (by decide) (Ev.andNotU16 (i := a0) (j := a1) rfl rfl) ?_
  refine Lst.run rfl rfl (by decide) (Ev.eql rfl rfl) ?_
  refine Lst.run rfl rfl (by decide) (Ev.assign rfl) ?_
  refine Lst.nil ?_
  refine At.then ?_
  obtain rfl := some_inj H
  refine Cd.ret ?_
  exact At.ret1 rfl (Res.tmp rfl) (FLe.refl _) (List.Sublist.refl _) ⟨rfl, rfl⟩
set_option maxRecDepth 20000 in
theorem lat_Firm_sim {a0 : List (BitVec 16)} {s_a0 : Sl} {r : (List (BitVec 16)) × Int} (H : lat_Firm a0 = some r) (w0 : World) (F : Frz) (M L : List Item) (hM : M.Sublist L) (hs_a0 : Rd w0 F M s_a0 a0) : Ok Try.prog w0 18 [Sl.v s_a0] F (L) (fun _ L' v => ∃ (s42 : Sl), v = .tuple #[Sl.v s42, .int .i64 r.2] ∧ L' = (.own s42 31 1 (encs r.1)) :: L) := by
  unfold lat_Firm at H
  refine Ok.enter (m := 1) (n := 49) Try.func18 rfl rfl rfl (by decide) ?_
  refine Cd.env (e' := [(0, Sl.v s_a0)]) rfl ?_
  refine Cd.seq ?_
  refine Cd.region ?_
  refine Lst.addNil 31 1 ?_
  refine Lst.run rfl rfl (by decide) (Ev.assign rfl) ?_
  refine Lst.run rfl rfl (by decide) (Ev.assign rfl) ?_
  refine Lst.nil ?_
  refine At.then ?_
  refine Cd.seq ?_
  refine Cd.seq ?_
  refine Cd.region ?_
  refine Lst.run rfl rfl (by decide) (Ev.move rfl) ?_
  obtain ⟨r2, h3, H⟩ := bind_some H
  refine Lst.call1 rfl rfl (by decide) (vs := [Sl.v s_a0]) ⟨rfl, trivial⟩ Try.call21 (lat_Check_sim h3 w0 _ M _ (List.Sublist.cons _ hM) (hs_a0.mono (FLe.refl _) (List.Sublist.refl _))) ?_
  refine Lst.run rfl rfl (by decide) (Ev.assign rfl) ?_
  refine Lst.nil ?_
  refine At.then ?_
  refine Cd.seq ?_
  refine Cd.region ?_
  refine Lst.run rfl rfl (by decide) (Ev.move rfl) ?_
  refine Lst.run rfl rfl (by decide) (Ev.neq rfl rfl) ?_
  refine Lst.nil ?_
  refine At.then ?_
  rcases Bool.eq_false_or_eq_true (r2 != (0 : Int)) with hb6 | hb6
  · replace H := ite_t hb6 H
    refine Cd.condT rfl hb6 ?_
    refine Cd.seq ?_
    refine Cd.region ?_
    refine Lst.run rfl rfl (by decide) (Ev.move rfl) ?_
    refine Lst.addNil 31 1 ?_
    refine Lst.run rfl rfl (by decide) (Ev.assign rfl) ?_
    refine Lst.run rfl rfl (by decide) (Ev.assign rfl) ?_
    refine Lst.nil ?_
    refine At.then ?_
    obtain rfl := some_inj H
    refine Cd.ret ?_
    refine At.then_ret ?_
    exact At.ret2 rfl (Res.tmp rfl) (Res.tmp rfl) (FLe.refl _) (List.Sublist.cons_cons _ (List.Sublist.cons _ (List.Sublist.refl _))) ⟨Sl.nil, rfl, rfl⟩
  replace H := ite_f hb6 H
  refine Cd.condF rfl hb6 ?_
  refine Cd.skip ?_
  refine At.then ?_
  refine Cd.seq ?_
  refine Cd.region ?_
  refine Lst.addNil 31 1 ?_
  refine Lst.run rfl rfl (by decide) (Ev.assign rfl) ?_
  refine Lst.nil ?_
  refine At.then ?_
  refine Cd.seq ?_
  refine Cd.seq ?_
  refine Cd.region ?_
  refine Lst.run rfl rfl (by decide) (Ev.move rfl) ?_
  refine Lst.run rfl rfl (by decide) (Ev.lenS (α := BitVec 16) (xs := a0) (by decide) rfl rfl Try.runUnderlying27 (hs_a0.mono (FLe.refl _) (List.Sublist.cons _ (List.Sublist.cons _ hM)))) ?_
  refine Lst.run rfl rfl (by decide) (Ev.move rfl) ?_
  refine Lst.nil ?_
  refine At.then ?_
  refine Cd.block ?_
  refine Cd.bound (Rd.le (α := BitVec 16) (xs := a0) (by decide) (hs_a0.mono (FLe.refl _) (List.Sublist.cons _ (List.Sublist.cons _ hM)))) (fun hN41 => ?_)
  obtain ⟨ol9, H, HKl9⟩ := bind_some H
  refine Cd.loop (σ := Nat × Nat × Sl × (List (BitVec 16))) (fun (i9, k9, s10, l11) => [(0, Sl.v s_a0), (5, Sl.v s10), (16, Sl.v s_a0), (17, .int .i64 (a0.length : Int)), (18, .int .i64 (i9 : Int))]) (fun (i9, k9, s10, l11) => (.own s10 31 1 (encs l11)) :: (.own Sl.nil 31 1 (encs ([] : List (BitVec 16)))) :: L) (fun _ => (fun (i9, k9, s10, l11) => rangeF (lat_Firm_B0 a0) k9 i9 l11 = some ol9 ∧ i9 + k9 = a0.length)) (fun (i9, k9, s10, l11) => k9) (0, a0.length, Sl.nil, ([] : List (BitVec 16))) ⟨rfl, rfl, rfl, rfl, rfl, trivial⟩ rfl ⟨H, by omega⟩ ?_
  rintro F12 ⟨i9, k9, s10, l11⟩ hF13 ⟨H, hik9⟩
  refine Cd.as (e' := [(0, Sl.v s_a0), (5, Sl.v s10), (16, Sl.v s_a0), (17, .int .i64 (a0.length : Int)), (18, .int .i64 (i9 : Int))]) (L' := (.own s10 31 1 (encs l11)) :: (.own Sl.nil 31 1 (encs ([] : List (BitVec 16)))) :: L) ⟨rfl, rfl, rfl, rfl, rfl, trivial⟩ rfl ?_
  rcases k9 with _ | k9
  · have hc9 : decide ((i9 : Int) < (a0.length : Int)) = false := decide_eq_false (by omega)
    replace H := rangeF_end H
    refine Cd.seq ?_
    refine Cd.region ?_
    refine Lst.run rfl rfl (by decide) (Ev.lss rfl rfl) ?_
    refine Lst.nil ?_
    refine At.then ?_
    refine Cd.seq ?_
    refine Cd.condF rfl hc9 ?_
    refine Cd.exit ?_
    refine At.then_exit ?_
    refine At.then_exit ?_
    refine At.in_exit ?_
    subst H
    replace H := HKl9
    refine At.then ?_
    refine Cd.seq ?_
    refine Cd.region ?_
    refine Lst.run rfl rfl (by decide) (Ev.move rfl) ?_
    refine Lst.run rfl rfl (by decide) (Ev.assign rfl) ?_
    refine Lst.run rfl rfl (by decide) (Ev.assign rfl) ?_
    refine Lst.nil ?_
    refine At.then ?_
    obtain rfl := some_inj H
    refine Cd.ret ?_
    exact At.ret2 rfl (Res.tmp rfl) (Res.tmp rfl) hF13 (List.Sublist.cons_cons _ (List.Sublist.cons _ (List.Sublist.refl _))) ⟨s10, rfl, rfl⟩
  have hc9 : decide ((i9 : Int) < (a0.length : Int)) = true := decide_eq_true (by omega)
  obtain ⟨c9, H, hgo9⟩ := rangeF_go H
  unfold lat_Firm_B0 at H
  try dsimp only at H
  refine Cd.seq ?_
  refine Cd.region ?_
  refine Lst.run rfl rfl (by decide) (Ev.lss rfl rfl) ?_
  refine Lst.nil ?_
  refine At.then ?_
  refine Cd.seq ?_
  refine Cd.condT rfl hc9 ?_
  refine Cd.skip ?_
  refine At.then ?_
  refine Cd.seq ?_
  refine Cd.block ?_
  refine Cd.seq ?_
  refine Cd.region ?_
  obtain ⟨x14, h15, H⟩ := bind_some H
  have g16 := lat_some h15
  refine Lst.run rfl rfl (by decide) (Ev.indexS (α := BitVec 16) (xs := a0) rfl rfl Try.runUnderlying27 Try.sizeOf31 rfl (by decide) (hs_a0.mono hF13 (List.Sublist.cons _ (List.Sublist.cons _ hM))) g16.1 g16.2.1) ?_
  refine Lst.run rfl rfl (by decide) (Ev.loadS (α := BitVec 16) rfl (hs_a0.mono hF13 (List.Sublist.cons _ (List.Sublist.cons _ hM))) Try.isAgg31 (v := .int .u16 x14.toNat) ((Get.elemN (s := 1) (x := x14) rfl g16.2.2 (Get.here _)).off (by omega))) ?_
  refine Lst.run rfl rfl (by decide) (Ev.assign rfl) ?_
  refine Lst.nil ?_
  refine At.then ?_
  refine Cd.seq ?_
  refine Cd.region ?_
  refine Lst.run rfl rfl (by decide) (Ev.assign rfl) ?_
  refine Lst.nil ?_
  refine At.then ?_
  refine Cd.seq ?_
  refine Cd.seq ?_
  refine Cd.region ?_
  refine Lst.run rfl rfl (by decide) (Ev.move rfl) ?_
  refine Lst.run rfl rfl (by decide) (Ev.lenS (α := BitVec 16) (xs := a0) (by decide) rfl rfl Try.runUnderlying27 (hs_a0.mono hF13 (List.Sublist.cons _ (List.Sublist.cons _ hM)))) ?_
  refine Lst.run rfl rfl (by decide) (Ev.move rfl) ?_
  refine Lst.nil ?_
  refine At.then ?_
  refine Cd.block ?_
  refine Cd.bound (Rd.le (α := BitVec 16) (xs := a0) (by decide) (hs_a0.mono hF13 (List.Sublist.cons _ (List.Sublist.cons _ hM)))) (fun hN40 => ?_)
  obtain ⟨ol17, H, HKl17⟩ := bind_some H
  refine Cd.loop (σ := Nat × Nat × (BitVec 16)) (fun (i17, k17, y18) => [(0, Sl.v s_a0), (5, Sl.v s10), (7, .int .u16 x14.toNat), (8, .int .u16 y18.toNat), (16, Sl.v s_a0), (17, .int .i64 (a0.length : Int)), (18, .int .i64 (i9 : Int)), (22, Sl.v s_a0), (23, .int .i64 (a0.length : Int)), (24, .int .i64 (i17 : Int))]) (fun (i17, k17, y18) => (.own s10 31 1 (encs l11)) :: (.own Sl.nil 31 1 (encs ([] : List (BitVec 16)))) :: L) (fun _ => (fun (i17, k17, y18) => rangeF (lat_Firm_B2 a0 x14) k17 i17 y18 = some ol17 ∧ i17 + k17 = a0.length)) (fun (i17, k17, y18) => k17) (0, a0.length, (0 : BitVec 16)) ⟨rfl, rfl, rfl, rfl, rfl, rfl, rfl, rfl, rfl, rfl, trivial⟩ rfl ⟨H, by omega⟩ ?_
  rintro F19 ⟨i17, k17, y18⟩ hF20 ⟨H, hik17⟩
  refine Cd.as (e' := [(0, Sl.v s_a0), (5, Sl.v s10), (7, .int .u16 x14.toNat), (8, .int .u16 y18.toNat), (16, Sl.v s_a0), (17, .int .i64 (a0.length : Int)), (18, .int .i64 (i9 : Int)), (22, Sl.v s_a0), (23, .int .i64 (a0.length : Int)), (24, .int .i64 (i17 : Int))]) (L' := (.own s10 31 1 (encs l11)) :: (.own Sl.nil 31 1 (encs ([] : List (BitVec 16)))) :: L) ⟨rfl, rfl, rfl, rfl, rfl, rfl, rfl, rfl, rfl, rfl, trivial⟩ rfl ?_
  rcases k17 with _ | k17
  · have hc17 : decide ((i17 : Int) < (a0.length : Int)) = false := decide_eq_false (by omega)
    replace H := rangeF_end H
    refine Cd.seq ?_
    refine Cd.region ?_
    refine Lst.run rfl rfl (by decide) (Ev.lss rfl rfl) ?_
    refine Lst.nil ?_
    refine At.then ?_
    refine Cd.seq ?_
    refine Cd.condF rfl hc17 ?_
    refine Cd.exit ?_
    refine At.then_exit ?_
    refine At.then_exit ?_
    refine At.in_exit ?_
    subst H
    replace H := HKl17
    refine At.then ?_
    refine Cd.seq ?_
    refine Cd.region ?_
    refine Lst.run rfl rfl (by decide) (Ev.move rfl) ?_
    refine Lst.run rfl rfl (by decide) (Ev.move rfl) ?_
    refine Lst.run rfl rfl (by decide) (Ev.neq rfl rfl) ?_
    refine Lst.nil ?_
    refine At.then ?_
    rcases (Bool.eq_false_or_eq_true ((y18.toNat : Int) != (x14.toNat : Int))).symm with hb34 | hb34
    · replace H := ite_f hb34 H
      refine Cd.condF rfl hb34 ?_
      refine Cd.skip ?_
      refine At.in_normal ?_
      refine At.then ?_
      refine Cd.region ?_
      refine Lst.run rfl rfl (by decide) (Ev.incr (by omega) rfl rfl) ?_
      refine Lst.run rfl rfl (by decide) (Ev.move rfl) ?_
      refine Lst.nil ?_
      exact At.meet (i9 + 1, k9, s10, l11) (FLe.trans hF13 hF20) ⟨rfl, rfl, rfl, rfl, rfl, trivial⟩ rfl ⟨⟨hgo9 _ (some_inj H).symm, by omega⟩, Nat.lt_succ_self _⟩
    replace H := ite_t hb34 H
    refine Cd.condT rfl hb34 ?_
    refine Cd.region ?_
    refine Lst.run rfl rfl (by decide) (Ev.move rfl) ?_
    refine Lst.run rfl rfl (by decide) (Ev.move rfl) ?_
    refine Lst.buildSlice (α := BitVec 16) (xs := ([x14] : List (BitVec 16))) (pv := [(0, .int .u16 x14.toNat)]) rfl rfl (by decide) ⟨rfl, rfl, trivial⟩ (run_buildSlice (α := BitVec 16) (z0 := (0 : BitVec 16)) (xs := ([x14] : List (BitVec 16))) Try.runUnderlying27 Try.sizeOf31 Try.zeroValue31 rfl rfl rfl (by decide) rfl (fill_cons (cs := encs (List.replicate 1 (0 : BitVec 16))) (cs' := encs ((List.replicate 1 (0 : BitVec 16)).set 0 x14)) (vs := [.int .u16 x14.toNat]) rfl rfl rfl ((Put.elemN (s := 1) (i := 0) (x := (0 : BitVec 16)) (y := x14) rfl rfl (Put.here (vs := [.int .u16 x14.toNat]) rfl)).off rfl) fill_nil)) rfl rfl (by decide) (fun s35 _ => ?_)
    obtain ⟨u37, h38, H⟩ := bind_some H
    refine Lst.append (i := 1) (α := BitVec 16) (xs := l11) (ys := ([x14] : List (BitVec 16))) rfl rfl (by decide) rfl rfl Try.runUnderlying27 Try.typeInfo31 rfl rfl rfl rfl rfl rfl (Rd.own (i := 0) rfl rfl rfl) rfl (room_some h38) rfl (fun s39 => ?_)
    refine Lst.its (L' := (.own s35 31 1 (encs ([x14] : List (BitVec 16)))) :: (.own s39 31 1 (encs (l11 ++ ([x14] : List (BitVec 16))))) :: (.own Sl.nil 31 1 (encs ([] : List (BitVec 16)))) :: L) rfl ?_
    refine Lst.run rfl rfl (by decide) (Ev.assign rfl) ?_
    refine Lst.nil ?_
    refine At.in_normal ?_
    refine At.then ?_
    refine Cd.region ?_
    refine Lst.run rfl rfl (by decide) (Ev.incr (by omega) rfl rfl) ?_
    refine Lst.run rfl rfl (by decide) (Ev.move rfl) ?_
    refine Lst.nil ?_
    refine At.less (L' := (.own s39 31 1 (encs (l11 ++ ([x14] : List (BitVec 16))))) :: (.own Sl.nil 31 1 (encs ([] : List (BitVec 16)))) :: L) (List.Sublist.cons _ (List.Sublist.cons_cons _ (List.Sublist.cons_cons _ (List.Sublist.refl _)))) ?_
    exact At.meet (i9 + 1, k9, s39, l11 ++ ([x14] : List (BitVec 16))) (FLe.trans hF13 hF20) ⟨rfl, rfl, rfl, rfl, rfl, trivial⟩ rfl ⟨⟨hgo9 _ (some_inj H).symm, by omega⟩, Nat.lt_succ_self _⟩
  have hc17 : decide ((i17 : Int) < (a0.length : Int)) = true := decide_eq_true (by omega)
  obtain ⟨c17, H, hgo17⟩ := rangeF_go H
  unfold lat_Firm_B2 at H
  try dsimp only at H
  refine Cd.seq ?_
  refine Cd.region ?_
  refine Lst.run rfl rfl (by decide) (Ev.lss rfl rfl) ?_
  refine Lst.nil ?_
  refine At.then ?_
  refine Cd.seq ?_
  refine Cd.condT rfl hc17 ?_
  refine Cd.skip ?_
  refine At.then ?_
  refine Cd.seq ?_
  refine Cd.block ?_
  refine Cd.seq ?_
  refine Cd.region ?_
  obtain ⟨x21, h22, H⟩ := bind_some H
  have g23 := lat_some h22
  refine Lst.run rfl rfl (by decide) (Ev.indexS (α := BitVec 16) (xs := a0) rfl rfl Try.runUnderlying27 Try.sizeOf31 rfl (by decide) (hs_a0.mono (FLe.trans hF13 hF20) (List.Sublist.cons _ (List.Sublist.cons _ hM))) g23.1 g23.2.1) ?_
  refine Lst.run rfl rfl (by decide) (Ev.loadS (α := BitVec 16) rfl (hs_a0.mono (FLe.trans hF13 hF20) (List.Sublist.cons _ (List.Sublist.cons _ hM))) Try.isAgg31 (v := .int .u16 x21.toNat) ((Get.elemN (s := 1) (x := x21) rfl g23.2.2 (Get.here _)).off (by omega))) ?_
  refine Lst.run rfl rfl (by decide) (Ev.assign rfl) ?_
  refine Lst.nil ?_
  refine At.then ?_
  refine Cd.seq ?_
  refine Cd.region ?_
  refine Lst.run rfl rfl (by decide) (Ev.move rfl) ?_
  refine Lst.run rfl rfl (by decide) (Ev.move rfl) ?_
  refine Lst.run rfl rfl (by decide) (Ev.neq rfl rfl) ?_
  refine Lst.run rfl rfl (by decide) (Ev.move rfl) ?_
  obtain ⟨o24, H, HKo24⟩ := bind_some H
  refine Lst.join (σ := Bool) 4 (fun y25 => [(0, Sl.v s_a0), (5, Sl.v s10), (7, .int .u16 x14.toNat), (8, .int .u16 y18.toNat), (10, .int .u16 x21.toNat), (16, Sl.v s_a0), (17, .int .i64 (a0.length : Int)), (18, .int .i64 (i9 : Int)), (22, Sl.v s_a0), (23, .int .i64 (a0.length : Int)), (24, .int .i64 (i17 : Int)), (35, .bool y25)]) (fun y25 => (.own s10 31 1 (encs l11)) :: (.own Sl.nil 31 1 (encs ([] : List (BitVec 16)))) :: L) (fun _ y25 => y25 = o24) ?_ ?_
  · rcases (Bool.eq_false_or_eq_true ((x21.toNat : Int) != (x14.toNat : Int))).symm with hb26 | hb26
    · replace H := ite_f hb26 H
      refine Lst.skip rfl rfl rfl hb26 rfl (by decide) ?_
      refine Lst.skip rfl rfl rfl hb26 rfl (by decide) ?_
      refine Lst.skip rfl rfl rfl hb26 rfl (by decide) ?_
      refine Lst.run rfl rfl (by decide) (Ev.pickF rfl hb26 rfl) ?_
      refine Lst.nil ?_
      exact At.meet false (FLe.refl _) ⟨rfl, rfl, rfl, rfl, rfl, rfl, rfl, rfl, rfl, rfl, rfl, rfl, trivial⟩ rfl (some_inj H)
    replace H := ite_t hb26 H
    refine Lst.runG rfl rfl rfl hb26 rfl (by decide) (Ev.move rfl) ?_
    refine Lst.runG rfl rfl rfl hb26 rfl (by decide) (Ev.move rfl) ?_
    obtain ⟨r27, h28, H⟩ := bind_some H
    refine Lst.call1G rfl rfl rfl hb26 rfl (by decide) (vs := [.int .u16 x21.toNat, .int .u16 x14.toNat]) ⟨rfl, rfl, trivial⟩ Try.call49 (lat_within_sim h28 w0 _ M _ (List.Sublist.cons _ (List.Sublist.cons _ hM))) ?_
    refine Lst.run rfl rfl (by decide) (Ev.pickT rfl hb26 rfl) ?_
    refine Lst.nil ?_
    exact At.meet r27 (FLe.refl _) ⟨rfl, rfl, rfl, rfl, rfl, rfl, rfl, rfl, rfl, rfl, rfl, rfl, trivial⟩ rfl (some_inj H)
  rintro F31 y25 hF32 hy
  subst hy
  refine Lst.as (e' := [(0, Sl.v s_a0), (5, Sl.v s10), (7, .int .u16 x14.toNat), (8, .int .u16 y18.toNat), (10, .int .u16 x21.toNat), (16, Sl.v s_a0), (17, .int .i64 (a0.length : Int)), (18, .int .i64 (i9 : Int)), (22, Sl.v s_a0), (23, .int .i64 (a0.length : Int)), (24, .int .i64 (i17 : Int)), (35, .bool y25)]) (L' := (.own s10 31 1 (encs l11)) :: (.own Sl.nil 31 1 (encs ([] : List (BitVec 16)))) :: L) ⟨rfl, rfl, rfl, rfl, rfl, rfl, rfl, rfl, rfl, rfl, rfl, rfl, trivial⟩ rfl ?_
  replace H := HKo24
  refine Lst.nil ?_
  refine At.then ?_
  rcases (Bool.eq_false_or_eq_true y25).symm with hb33 | hb33
  · replace H := ite_f hb33 H
    refine Cd.condF rfl hb33 ?_
    refine Cd.skip ?_
    refine At.in_normal ?_
    refine At.then ?_
    refine Cd.region ?_
    refine Lst.run rfl rfl (by decide) (Ev.incr (by omega) rfl rfl) ?_
    refine Lst.run rfl rfl (by decide) (Ev.move rfl) ?_
    refine Lst.nil ?_
    exact At.meet (i17 + 1, k17, y18) (FLe.trans hF20 hF32) ⟨rfl, rfl, rfl, rfl, rfl, rfl, rfl, rfl, rfl, rfl, trivial⟩ rfl ⟨⟨hgo17 _ (some_inj H).symm, by omega⟩, Nat.lt_succ_self _⟩
  replace H := ite_t hb33 H
  refine Cd.condT rfl hb33 ?_
  refine Cd.region ?_
  refine Lst.run rfl rfl (by decide) (Ev.move rfl) ?_
  refine Lst.run rfl rfl (by decide) (Ev.move rfl) ?_
  refine Lst.run rfl rfl (by decide) (Ev.orU16 (i := y18) (j := x21) rfl rfl) ?_
  refine Lst.run rfl rfl (by decide) (Ev.assign rfl) ?_
  refine Lst.nil ?_
  refine At.in_normal ?_
  refine At.then ?_
  refine Cd.region ?_
  refine Lst.run rfl rfl (by decide) (Ev.incr (by omega) rfl rfl) ?_
  refine Lst.run rfl rfl (by decide) (Ev.move rfl) ?_
  refine Lst.nil ?_
  exact At.meet (i17 + 1, k17, y18 ||| x21) (FLe.trans hF20 hF32) ⟨rfl, rfl, rfl, rfl, rfl, rfl, rfl, rfl, rfl, rfl, trivial⟩ rfl ⟨⟨hgo17 _ (some_inj H).symm, by omega⟩, Nat.lt_succ_self _⟩
set_option maxRecDepth 20000 in
theorem lat_Back_sim {a0 : List (BitVec 16)} {s_a0 : Sl} {r : Poset × Int} (H : lat_Back a0 = some r) (w0 : World) (F : Frz) (M L : List Item) (hM : M.Sublist L) (hs_a0 : Rd w0 F M s_a0 a0) : Ok Try.prog w0 19 [Sl.v s_a0] F (L) (fun _ L' v => ∃ (s50 : Sl), v = .tuple #[.agg (enc (PosetR.mk r.1 s50)).toArray, .int .i64 r.2] ∧ L' = (.own s50 49 2 (encs r.1.Pairs)) :: L) := by
  unfold lat_Back at H
  refine Ok.enter (m := 1) (n := 56) Try.func19 rfl rfl rfl (by decide) ?_
  refine Cd.env (e' := [(0, Sl.v s_a0)]) rfl ?_
  refine Cd.seq ?_
  refine Cd.region ?_
  refine Lst.addNil 49 2 ?_
  refine Lst.alloc (cs := enc (PosetR.mk ({ Poset.zero with Pairs := ([] : List Pair) } : Poset) Sl.nil)) rfl rfl (by decide) Try.zeroValue24 rfl (fun b2 => ?_)
  refine Lst.run rfl rfl (by decide) (Ev.assign rfl) ?_
  refine Lst.nil ?_
  refine At.then ?_
  refine Cd.seq ?_
  refine Cd.region ?_
  refine Lst.run rfl rfl (by decide) (Ev.move rfl) ?_
  obtain ⟨r4, h5, H⟩ := bind_some H
  refine Lst.call rfl rfl (by decide) (vs := [Sl.v s_a0]) ⟨rfl, trivial⟩ Try.call18 (lat_Firm_sim h5 w0 _ M _ (List.Sublist.cons _ (List.Sublist.cons _ hM)) (hs_a0.mono (FLe.refl _) (List.Sublist.refl _))) (fun F8 L' v hF9 hv => ?_)
  obtain ⟨s6, rfl, rfl⟩ := hv
  refine Lst.run rfl rfl (by decide) (Ev.move rfl) ?_
  refine Lst.run rfl rfl (by decide) (Ev.extract rfl rfl) ?_
  refine Lst.run rfl rfl (by decide) (Ev.extract rfl rfl) ?_
  refine Lst.run rfl rfl (by decide) (Ev.assign rfl) ?_
  refine Lst.run rfl rfl (by decide) (Ev.assign rfl) ?_
  refine Lst.nil ?_
  refine At.then ?_
  refine Cd.seq ?_
  refine Cd.seq ?_
  refine Cd.region ?_
  refine Lst.run rfl rfl (by decide) (Ev.move rfl) ?_
  refine Lst.run rfl rfl (by decide) (Ev.neq rfl rfl) ?_
  refine Lst.nil ?_
  refine At.then ?_
  rcases Bool.eq_false_or_eq_true (r4.2 != (0 : Int)) with hb10 | hb10
  · replace H := ite_t hb10 H
    refine Cd.condT rfl hb10 ?_
    refine Cd.seq ?_
    refine Cd.region ?_
    refine Lst.run rfl rfl (by decide) (Ev.build (v := .agg (enc (PosetR.mk Poset.zero Sl.nil)).toArray) (pv := []) trivial (fun w => by kernel_rfl)) ?_
    refine Lst.run rfl rfl (by decide) (Ev.move rfl) ?_
    refine Lst.store (i := 1) rfl rfl rfl rfl rfl Try.sizeOf24 (vs := enc (PosetR.mk Poset.zero Sl.nil)) rfl (Enc.len _) (Enc.one _) (cs' := enc (PosetR.mk Poset.zero Sl.nil)) (Put.here ((Enc.len _).trans (Enc.len _).symm)) (L' := (.own s6 31 1 (encs r4.1)) :: (.blk b2 (enc (PosetR.mk Poset.zero Sl.nil)) 24) :: (.own Sl.nil 49 2 (encs ([] : List Pair))) :: L) rfl ?_
    refine Lst.run rfl rfl (by decide) (Ev.assign rfl) ?_
    refine Lst.nil ?_
    refine At.then ?_
    obtain rfl := some_inj H
    refine Cd.ret ?_
    refine At.then_ret ?_
    refine At.addNil 49 2 ?_
    exact At.ret2 rfl (Res.cellA (i := 2) rfl rfl Try.isAgg24 Try.sizeOf24 (Enc.len _)) (Res.tmp rfl) hF9 (List.Sublist.cons_cons _ (List.Sublist.cons _ (List.Sublist.cons _ (List.Sublist.cons _ (List.Sublist.refl _))))) ⟨Sl.nil, rfl, rfl⟩
  replace H := ite_f hb10 H
  refine Cd.condF rfl hb10 ?_
  refine Cd.skip ?_
  refine At.then ?_
  refine Cd.seq ?_
  refine Cd.region ?_
  refine Lst.run rfl rfl (by decide) (Ev.move rfl) ?_
  refine Lst.run rfl rfl (by decide) (Ev.lenS (α := BitVec 16) (xs := r4.1) (by decide) rfl rfl Try.runUnderlying27 (Rd.own (i := 0) rfl rfl rfl)) ?_
  refine Lst.run rfl rfl (by decide) (Ev.build (v := .agg (enc (PosetR.mk ({ Poset.zero with N := (r4.1.length : Int) } : Poset) Sl.nil)).toArray) (pv := [(0, .int .i64 (r4.1.length : Int))]) ⟨rfl, rfl, trivial⟩ (fun w => by kernel_rfl)) ?_
  refine Lst.addNil 49 2 ?_
  refine Lst.alloc (cs := enc (PosetR.mk ({ Poset.zero with Pairs := ([] : List Pair) } : Poset) Sl.nil)) rfl rfl (by decide) Try.zeroValue24 rfl (fun b13 => ?_)
  refine Lst.store (i := 0) rfl rfl rfl rfl rfl Try.sizeOf24 (vs := enc (PosetR.mk ({ Poset.zero with N := (r4.1.length : Int) } : Poset) Sl.nil)) rfl (Enc.len _) (Enc.one _) (cs' := enc (PosetR.mk ({ Poset.zero with N := (r4.1.length : Int) } : Poset) Sl.nil)) (Put.here ((Enc.len _).trans (Enc.len _).symm)) (L' := (.blk b13 (enc (PosetR.mk ({ Poset.zero with N := (r4.1.length : Int) } : Poset) Sl.nil)) 24) :: (.own Sl.nil 49 2 (encs ([] : List Pair))) :: (.own s6 31 1 (encs r4.1)) :: (.blk b2 (enc (PosetR.mk ({ Poset.zero with Pairs := ([] : List Pair) } : Poset) Sl.nil)) 24) :: (.own Sl.nil 49 2 (encs ([] : List Pair))) :: L) rfl ?_
  refine Lst.nil ?_
  refine At.then ?_
  refine Cd.seq ?_
  refine Cd.seq ?_
  refine Cd.region ?_
  refine Lst.run rfl rfl (by decide) (Ev.move rfl) ?_
  refine Lst.run rfl rfl (by decide) (Ev.lenS (α := BitVec 16) (xs := r4.1) (by decide) rfl rfl Try.runUnderlying27 (Rd.own (i := 2) rfl rfl rfl)) ?_
  refine Lst.run rfl rfl (by decide) (Ev.move rfl) ?_
  refine Lst.nil ?_
  refine At.then ?_
  refine Cd.block ?_
  refine Cd.addNil 49 2 ?_
  refine Cd.bound (Rd.le (α := BitVec 16) (xs := r4.1) (by decide) (Rd.own (i := 3) rfl rfl rfl)) (fun hN50 => ?_)
  obtain ⟨ol15, H, HKl15⟩ := bind_some H
  refine Cd.loop (σ := Nat × Nat × Poset × Sl) (fun (i15, k15, y17, s18) => [(2, .pointer (some ⟨b2, 0, none⟩)), (4, Sl.v s6), (6, .pointer (some ⟨b13, 0, none⟩)), (23, Sl.v s6), (24, .int .i64 (r4.1.length : Int)), (25, .int .i64 (i15 : Int))]) (fun (i15, k15, y17, s18) => (.own s18 49 2 (encs y17.Pairs)) :: (.blk b13 (enc (PosetR.mk y17 s18)) 24) :: (.own Sl.nil 49 2 (encs ([] : List Pair))) :: (.own s6 31 1 (encs r4.1)) :: (.blk b2 (enc (PosetR.mk ({ Poset.zero with Pairs := ([] : List Pair) } : Poset) Sl.nil)) 24) :: (.own Sl.nil 49 2 (encs ([] : List Pair))) :: L) (fun _ => (fun (i15, k15, y17, s18) => rangeF (lat_Back_B0 r4) k15 i15 y17 = some ol15 ∧ i15 + k15 = r4.1.length)) (fun (i15, k15, y17, s18) => k15) (0, r4.1.length, ({ Poset.zero with N := (r4.1.length : Int), Pairs := ([] : List Pair) } : Poset), Sl.nil) ⟨rfl, rfl, rfl, rfl, rfl, rfl, trivial⟩ rfl ⟨H, by omega⟩ ?_
  rintro F20 ⟨i15, k15, y17, s18⟩ hF21 ⟨H, hik15⟩
  refine Cd.as (e' := [(2, .pointer (some ⟨b2, 0, none⟩)), (4, Sl.v s6), (6, .pointer (some ⟨b13, 0, none⟩)), (23, Sl.v s6), (24, .int .i64 (r4.1.length : Int)), (25, .int .i64 (i15 : Int))]) (L' := (.own s18 49 2 (encs y17.Pairs)) :: (.blk b13 (enc (PosetR.mk y17 s18)) 24) :: (.own Sl.nil 49 2 (encs ([] : List Pair))) :: (.own s6 31 1 (encs r4.1)) :: (.blk b2 (enc (PosetR.mk ({ Poset.zero with Pairs := ([] : List Pair) } : Poset) Sl.nil)) 24) :: (.own Sl.nil 49 2 (encs ([] : List Pair))) :: L) ⟨rfl, rfl, rfl, rfl, rfl, rfl, trivial⟩ rfl ?_
  rcases k15 with _ | k15
  · have hc15 : decide ((i15 : Int) < (r4.1.length : Int)) = false := decide_eq_false (by omega)
    replace H := rangeF_end H
    refine Cd.seq ?_
    refine Cd.region ?_
    refine Lst.run rfl rfl (by decide) (Ev.lss rfl rfl) ?_
    refine Lst.nil ?_
    refine At.then ?_
    refine Cd.seq ?_
    refine Cd.condF rfl hc15 ?_
    refine Cd.exit ?_
    refine At.then_exit ?_
    refine At.then_exit ?_
    refine At.in_exit ?_
    subst H
    replace H := HKl15
    refine At.then ?_
    refine Cd.seq ?_
    refine Cd.region ?_
    refine Lst.run rfl rfl (by decide) (Ev.loadA (i := 1) rfl rfl Try.isAgg24 Try.sizeOf24 (ch := enc (PosetR.mk y17 s18)) (Enc.len _) (Get.here _)) ?_
    refine Lst.store (i := 4) rfl rfl rfl rfl rfl Try.sizeOf24 (vs := enc (PosetR.mk y17 s18)) rfl (Enc.len _) (Enc.one _) (cs' := enc (PosetR.mk y17 s18)) (Put.here ((Enc.len _).trans (Enc.len _).symm)) (L' := (.own s18 49 2 (encs y17.Pairs)) :: (.blk b13 (enc (PosetR.mk y17 s18)) 24) :: (.own Sl.nil 49 2 (encs ([] : List Pair))) :: (.own s6 31 1 (encs r4.1)) :: (.blk b2 (enc (PosetR.mk y17 s18)) 24) :: (.own Sl.nil 49 2 (encs ([] : List Pair))) :: L) rfl ?_
    refine Lst.run rfl rfl (by decide) (Ev.assign rfl) ?_
    refine Lst.nil ?_
    refine At.then ?_
    obtain rfl := some_inj H
    refine Cd.ret ?_
    exact At.ret2 rfl (Res.cellA (i := 4) rfl rfl Try.isAgg24 Try.sizeOf24 (Enc.len _)) (Res.tmp rfl) (FLe.trans hF9 hF21) (List.Sublist.cons_cons _ (List.Sublist.cons _ (List.Sublist.cons _ (List.Sublist.cons _ (List.Sublist.cons _ (List.Sublist.cons _ (List.Sublist.refl _))))))) ⟨s18, rfl, rfl⟩
  have hc15 : decide ((i15 : Int) < (r4.1.length : Int)) = true := decide_eq_true (by omega)
  obtain ⟨c15, H, hgo15⟩ := rangeF_go H
  unfold lat_Back_B0 at H
  try dsimp only at H
  refine Cd.seq ?_
  refine Cd.region ?_
  refine Lst.run rfl rfl (by decide) (Ev.lss rfl rfl) ?_
  refine Lst.nil ?_
  refine At.then ?_
  refine Cd.seq ?_
  refine Cd.condT rfl hc15 ?_
  refine Cd.skip ?_
  refine At.then ?_
  refine Cd.seq ?_
  refine Cd.block ?_
  refine Cd.seq ?_
  refine Cd.region ?_
  refine Lst.run rfl rfl (by decide) (Ev.move rfl) ?_
  obtain ⟨x22, h23, H⟩ := bind_some H
  have g24 := lat_some h23
  refine Lst.run rfl rfl (by decide) (Ev.indexS (α := BitVec 16) (xs := r4.1) rfl rfl Try.runUnderlying27 Try.sizeOf31 rfl (by decide) (Rd.own (i := 3) rfl rfl rfl) g24.1 g24.2.1) ?_
  refine Lst.run rfl rfl (by decide) (Ev.loadS (α := BitVec 16) rfl (Rd.own (i := 3) rfl rfl rfl) Try.isAgg31 (v := .int .u16 x22.toNat) ((Get.elemN (s := 1) (x := x22) rfl g24.2.2 (Get.here _)).off (by omega))) ?_
  refine Lst.run rfl rfl (by decide) (Ev.assign rfl) ?_
  refine Lst.run rfl rfl (by decide) (Ev.assign rfl) ?_
  refine Lst.nil ?_
  refine At.then ?_
  refine Cd.seq ?_
  refine Cd.region ?_
  refine Lst.run rfl rfl (by decide) (Ev.move rfl) ?_
  refine Lst.run rfl rfl (by decide) (Ev.lenS (α := BitVec 16) (xs := r4.1) (by decide) rfl rfl Try.runUnderlying27 (Rd.own (i := 3) rfl rfl rfl)) ?_
  refine Lst.run rfl rfl (by decide) (Ev.move rfl) ?_
  refine Lst.nil ?_
  refine At.then ?_
  refine Cd.block ?_
  refine Cd.bound (Rd.le (α := BitVec 16) (xs := r4.1) (by decide) (Rd.own (i := 3) rfl rfl rfl)) (fun hN49 => ?_)
  obtain ⟨ol25, H, HKl25⟩ := bind_some H
  refine Cd.loop (σ := Nat × Nat × Poset × Sl × (List Pair)) (fun (i25, k25, y26, s27, l28) => [(2, .pointer (some ⟨b2, 0, none⟩)), (4, Sl.v s6), (6, .pointer (some ⟨b13, 0, none⟩)), (7, .int .i64 (i15 : Int)), (8, .int .u16 x22.toNat), (23, Sl.v s6), (24, .int .i64 (r4.1.length : Int)), (25, .int .i64 (i15 : Int)), (30, Sl.v s6), (31, .int .i64 (r4.1.length : Int)), (32, .int .i64 (i25 : Int))]) (fun (i25, k25, y26, s27, l28) => (.own s27 49 2 (encs l28)) :: (.blk b13 (enc (PosetR.mk ({ y26 with Pairs := l28 } : Poset) s27)) 24) :: (.own Sl.nil 49 2 (encs ([] : List Pair))) :: (.own s6 31 1 (encs r4.1)) :: (.blk b2 (enc (PosetR.mk ({ Poset.zero with Pairs := ([] : List Pair) } : Poset) Sl.nil)) 24) :: (.own Sl.nil 49 2 (encs ([] : List Pair))) :: L) (fun _ => (fun (i25, k25, y26, s27, l28) => rangeF (lat_Back_B2 r4 i15 x22) k25 i25 (y26, l28) = some ol25 ∧ i25 + k25 = r4.1.length)) (fun (i25, k25, y26, s27, l28) => k25) (0, r4.1.length, y17, s18, y17.Pairs) ⟨rfl, rfl, rfl, rfl, rfl, rfl, rfl, rfl, rfl, rfl, rfl, trivial⟩ rfl ⟨H, by omega⟩ ?_
  rintro F29 ⟨i25, k25, y26, s27, l28⟩ hF30 ⟨H, hik25⟩
  refine Cd.as (e' := [(2, .pointer (some ⟨b2, 0, none⟩)), (4, Sl.v s6), (6, .pointer (some ⟨b13, 0, none⟩)), (7, .int .i64 (i15 : Int)), (8, .int .u16 x22.toNat), (23, Sl.v s6), (24, .int .i64 (r4.1.length : Int)), (25, .int .i64 (i15 : Int)), (30, Sl.v s6), (31, .int .i64 (r4.1.length : Int)), (32, .int .i64 (i25 : Int))]) (L' := (.own s27 49 2 (encs l28)) :: (.blk b13 (enc (PosetR.mk ({ y26 with Pairs := l28 } : Poset) s27)) 24) :: (.own Sl.nil 49 2 (encs ([] : List Pair))) :: (.own s6 31 1 (encs r4.1)) :: (.blk b2 (enc (PosetR.mk ({ Poset.zero with Pairs := ([] : List Pair) } : Poset) Sl.nil)) 24) :: (.own Sl.nil 49 2 (encs ([] : List Pair))) :: L) ⟨rfl, rfl, rfl, rfl, rfl, rfl, rfl, rfl, rfl, rfl, rfl, trivial⟩ rfl ?_
  rcases k25 with _ | k25
  · have hc25 : decide ((i25 : Int) < (r4.1.length : Int)) = false := decide_eq_false (by omega)
    replace H := rangeF_end H
    refine Cd.seq ?_
    refine Cd.region ?_
    refine Lst.run rfl rfl (by decide) (Ev.lss rfl rfl) ?_
    refine Lst.nil ?_
    refine At.then ?_
    refine Cd.seq ?_
    refine Cd.condF rfl hc25 ?_
    refine Cd.exit ?_
    refine At.then_exit ?_
    refine At.then_exit ?_
    refine At.in_exit ?_
    subst H
    replace H := HKl25
    refine At.in_normal ?_
    refine At.then ?_
    refine Cd.region ?_
    refine Lst.run rfl rfl (by decide) (Ev.incr (by omega) rfl rfl) ?_
    refine Lst.run rfl rfl (by decide) (Ev.move rfl) ?_
    refine Lst.nil ?_
    exact At.meet (i15 + 1, k15, ({ y26 with Pairs := l28 } : Poset), s27) (FLe.trans hF21 hF30) ⟨rfl, rfl, rfl, rfl, rfl, rfl, trivial⟩ rfl ⟨⟨hgo15 _ (some_inj H).symm, by omega⟩, Nat.lt_succ_self _⟩
  have hc25 : decide ((i25 : Int) < (r4.1.length : Int)) = true := decide_eq_true (by omega)
  obtain ⟨c25, H, hgo25⟩ := rangeF_go H
  unfold lat_Back_B2 at H
  try dsimp only at H
  refine Cd.seq ?_
  refine Cd.region ?_
  refine Lst.run rfl rfl (by decide) (Ev.lss rfl rfl) ?_
  refine Lst.nil ?_
  refine At.then ?_
  refine Cd.seq ?_
  refine Cd.condT rfl hc25 ?_
  refine Cd.skip ?_
  refine At.then ?_
  refine Cd.seq ?_
  refine Cd.block ?_
  refine Cd.seq ?_
  refine Cd.region ?_
  refine Lst.run rfl rfl (by decide) (Ev.move rfl) ?_
  obtain ⟨x31, h32, H⟩ := bind_some H
  have g33 := lat_some h32
  refine Lst.run rfl rfl (by decide) (Ev.indexS (α := BitVec 16) (xs := r4.1) rfl rfl Try.runUnderlying27 Try.sizeOf31 rfl (by decide) (Rd.own (i := 3) rfl rfl rfl) g33.1 g33.2.1) ?_
  refine Lst.run rfl rfl (by decide) (Ev.loadS (α := BitVec 16) rfl (Rd.own (i := 3) rfl rfl rfl) Try.isAgg31 (v := .int .u16 x31.toNat) ((Get.elemN (s := 1) (x := x31) rfl g33.2.2 (Get.here _)).off (by omega))) ?_
  refine Lst.run rfl rfl (by decide) (Ev.assign rfl) ?_
  refine Lst.run rfl rfl (by decide) (Ev.assign rfl) ?_
  refine Lst.nil ?_
  refine At.then ?_
  refine Cd.seq ?_
  refine Cd.region ?_
  refine Lst.run rfl rfl (by decide) (Ev.move rfl) ?_
  refine Lst.run rfl rfl (by decide) (Ev.move rfl) ?_
  refine Lst.run rfl rfl (by decide) (Ev.neq rfl rfl) ?_
  refine Lst.run rfl rfl (by decide) (Ev.move rfl) ?_
  obtain ⟨o34, H, HKo34⟩ := bind_some H
  refine Lst.join (σ := Bool) 4 (fun y35 => [(2, .pointer (some ⟨b2, 0, none⟩)), (4, Sl.v s6), (6, .pointer (some ⟨b13, 0, none⟩)), (7, .int .i64 (i15 : Int)), (8, .int .u16 x22.toNat), (9, .int .i64 (i25 : Int)), (23, Sl.v s6), (24, .int .i64 (r4.1.length : Int)), (25, .int .i64 (i15 : Int)), (30, Sl.v s6), (31, .int .i64 (r4.1.length : Int)), (32, .int .i64 (i25 : Int)), (44, .bool y35)]) (fun y35 => (.own s27 49 2 (encs l28)) :: (.blk b13 (enc (PosetR.mk ({ y26 with Pairs := l28 } : Poset) s27)) 24) :: (.own Sl.nil 49 2 (encs ([] : List Pair))) :: (.own s6 31 1 (encs r4.1)) :: (.blk b2 (enc (PosetR.mk ({ Poset.zero with Pairs := ([] : List Pair) } : Poset) Sl.nil)) 24) :: (.own Sl.nil 49 2 (encs ([] : List Pair))) :: L) (fun _ y35 => y35 = o34) ?_ ?_
  · rcases (Bool.eq_false_or_eq_true ((i15 : Int) != (i25 : Int))).symm with hb36 | hb36
    · replace H := ite_f hb36 H
      refine Lst.skip rfl rfl rfl hb36 rfl (by decide) ?_
      refine Lst.skip rfl rfl rfl hb36 rfl (by decide) ?_
      refine Lst.skip rfl rfl rfl hb36 rfl (by decide) ?_
      refine Lst.run rfl rfl (by decide) (Ev.pickF rfl hb36 rfl) ?_
      refine Lst.nil ?_
      exact At.meet false (FLe.refl _) ⟨rfl, rfl, rfl, rfl, rfl, rfl, rfl, rfl, rfl, rfl, rfl, rfl, rfl, trivial⟩ rfl (some_inj H)
    replace H := ite_t hb36 H
    refine Lst.runG rfl rfl rfl hb36 rfl (by decide) (Ev.move rfl) ?_
    refine Lst.runG rfl rfl rfl hb36 rfl (by decide) (Ev.move rfl) ?_
    obtain ⟨r37, h38, H⟩ := bind_some H
    refine Lst.call1G rfl rfl rfl hb36 rfl (by decide) (vs := [.int .u16 x22.toNat, .int .u16 x31.toNat]) ⟨rfl, rfl, trivial⟩ Try.call49 (lat_within_sim h38 w0 _ M _ (List.Sublist.cons _ (List.Sublist.cons _ (List.Sublist.cons _ (List.Sublist.cons _ (List.Sublist.cons _ (List.Sublist.cons _ hM))))))) ?_
    refine Lst.run rfl rfl (by decide) (Ev.pickT rfl hb36 rfl) ?_
    refine Lst.nil ?_
    exact At.meet r37 (FLe.refl _) ⟨rfl, rfl, rfl, rfl, rfl, rfl, rfl, rfl, rfl, rfl, rfl, rfl, rfl, trivial⟩ rfl (some_inj H)
  rintro F41 y35 hF42 hy
  subst hy
  refine Lst.as (e' := [(2, .pointer (some ⟨b2, 0, none⟩)), (4, Sl.v s6), (6, .pointer (some ⟨b13, 0, none⟩)), (7, .int .i64 (i15 : Int)), (8, .int .u16 x22.toNat), (9, .int .i64 (i25 : Int)), (23, Sl.v s6), (24, .int .i64 (r4.1.length : Int)), (25, .int .i64 (i15 : Int)), (30, Sl.v s6), (31, .int .i64 (r4.1.length : Int)), (32, .int .i64 (i25 : Int)), (44, .bool y35)]) (L' := (.own s27 49 2 (encs l28)) :: (.blk b13 (enc (PosetR.mk ({ y26 with Pairs := l28 } : Poset) s27)) 24) :: (.own Sl.nil 49 2 (encs ([] : List Pair))) :: (.own s6 31 1 (encs r4.1)) :: (.blk b2 (enc (PosetR.mk ({ Poset.zero with Pairs := ([] : List Pair) } : Poset) Sl.nil)) 24) :: (.own Sl.nil 49 2 (encs ([] : List Pair))) :: L) ⟨rfl, rfl, rfl, rfl, rfl, rfl, rfl, rfl, rfl, rfl, rfl, rfl, rfl, trivial⟩ rfl ?_
  replace H := HKo34
  refine Lst.nil ?_
  refine At.then ?_
  rcases (Bool.eq_false_or_eq_true y35).symm with hb43 | hb43
  · replace H := ite_f hb43 H
    refine Cd.condF rfl hb43 ?_
    refine Cd.skip ?_
    refine At.in_normal ?_
    refine At.then ?_
    refine Cd.region ?_
    refine Lst.run rfl rfl (by decide) (Ev.incr (by omega) rfl rfl) ?_
    refine Lst.run rfl rfl (by decide) (Ev.move rfl) ?_
    refine Lst.nil ?_
    exact At.meet (i25 + 1, k25, ({ y26 with Pairs := l28 } : Poset), s27, l28) (FLe.trans hF30 hF42) ⟨rfl, rfl, rfl, rfl, rfl, rfl, rfl, rfl, rfl, rfl, rfl, trivial⟩ rfl ⟨⟨hgo25 _ (some_inj H).symm, by omega⟩, Nat.lt_succ_self _⟩
  replace H := ite_t hb43 H
  refine Cd.condT rfl hb43 ?_
  refine Cd.region ?_
  refine Lst.run rfl rfl (by decide) (Ev.fieldAddr (off' := 1) rfl Try.runUnderlying24 rfl Try.sizeOf22 rfl rfl) ?_
  refine Lst.run rfl rfl (by decide) (Ev.load (i := 1) rfl rfl Try.isAgg22 (v := Sl.v s27) ((PosetR.get_Pairs (Get.here _)).off (by rfl))) ?_
  refine Lst.run rfl rfl (by decide) (Ev.move rfl) ?_
  refine Lst.run rfl rfl (by decide) (Ev.move rfl) ?_
  refine Lst.run rfl rfl (by decide) (Ev.build (v := .agg (enc ({ Pair.zero with A := (i15 : Int), B := (i25 : Int) } : Pair)).toArray) (pv := [(0, .int .i64 (i15 : Int)), (1, .int .i64 (i25 : Int))]) ⟨rfl, rfl, ⟨rfl, rfl, trivial⟩⟩ (fun w => by kernel_rfl)) ?_
  refine Lst.buildSlice (α := Pair) (xs := ([({ Pair.zero with A := (i15 : Int), B := (i25 : Int) } : Pair)] : List Pair)) (pv := [(0, .agg (enc ({ Pair.zero with A := (i15 : Int), B := (i25 : Int) } : Pair)).toArray)]) rfl rfl (by decide) ⟨rfl, rfl, trivial⟩ (run_buildSlice (α := Pair) (z0 := Pair.zero) (xs := ([({ Pair.zero with A := (i15 : Int), B := (i25 : Int) } : Pair)] : List Pair)) Try.runUnderlying22 Try.sizeOf49 Try.zeroValue49 rfl rfl rfl (by decide) rfl (fill_cons (cs := encs (List.replicate 1 Pair.zero)) (cs' := encs ((List.replicate 1 Pair.zero).set 0 ({ Pair.zero with A := (i15 : Int), B := (i25 : Int) } : Pair))) (vs := enc ({ Pair.zero with A := (i15 : Int), B := (i25 : Int) } : Pair)) rfl rfl (Enc.len _) ((Put.elemN (s := 2) (i := 0) (x := Pair.zero) (y := ({ Pair.zero with A := (i15 : Int), B := (i25 : Int) } : Pair)) rfl rfl (Put.here ((Enc.len _).trans (Enc.len _).symm))).off rfl) fill_nil)) rfl rfl (by decide) (fun s44 _ => ?_)
  obtain ⟨u46, h47, H⟩ := bind_some H
  refine Lst.append (i := 1) (α := Pair) (xs := l28) (ys := ([({ Pair.zero with A := (i15 : Int), B := (i25 : Int) } : Pair)] : List Pair)) rfl rfl (by decide) rfl rfl Try.runUnderlying22 Try.typeInfo49 rfl rfl rfl rfl rfl rfl (Rd.own (i := 0) rfl rfl rfl) rfl (room_some h47) rfl (fun s48 => ?_)
  refine Lst.its (L' := (.own s44 49 2 (encs ([({ Pair.zero with A := (i15 : Int), B := (i25 : Int) } : Pair)] : List Pair))) :: (.own s48 49 2 (encs (l28 ++ ([({ Pair.zero with A := (i15 : Int), B := (i25 : Int) } : Pair)] : List Pair)))) :: (.blk b13 (enc (PosetR.mk y26 s27)) 24) :: (.own Sl.nil 49 2 (encs ([] : List Pair))) :: (.own s6 31 1 (encs r4.1)) :: (.blk b2 (enc (PosetR.mk ({ Poset.zero with Pairs := ([] : List Pair) } : Poset) Sl.nil)) 24) :: (.own Sl.nil 49 2 (encs ([] : List Pair))) :: L) rfl ?_
  refine Lst.run rfl rfl (by decide) (Ev.fieldAddr (off' := 1) rfl Try.runUnderlying24 rfl Try.sizeOf22 rfl rfl) ?_
  refine Lst.store (i := 2) rfl rfl rfl rfl rfl Try.sizeOf22 (vs := [Sl.v s48]) rfl rfl rfl (cs' := enc (PosetR.mk ({ y26 with Pairs := l28 ++ ([({ Pair.zero with A := (i15 : Int), B := (i25 : Int) } : Pair)] : List Pair) } : Poset) s48)) ((PosetR.put_Pairs (Put.here (vs := [Sl.v s48]) rfl)).off (by rfl)) (L' := (.own s44 49 2 (encs ([({ Pair.zero with A := (i15 : Int), B := (i25 : Int) } : Pair)] : List Pair))) :: (.own s48 49 2 (encs (l28 ++ ([({ Pair.zero with A := (i15 : Int), B := (i25 : Int) } : Pair)] : List Pair)))) :: (.blk b13 (enc (PosetR.mk ({ y26 with Pairs := l28 ++ ([({ Pair.zero with A := (i15 : Int), B := (i25 : Int) } : Pair)] : List Pair) } : Poset) s48)) 24) :: (.own Sl.nil 49 2 (encs ([] : List Pair))) :: (.own s6 31 1 (encs r4.1)) :: (.blk b2 (enc (PosetR.mk ({ Poset.zero with Pairs := ([] : List Pair) } : Poset) Sl.nil)) 24) :: (.own Sl.nil 49 2 (encs ([] : List Pair))) :: L) rfl ?_
  refine Lst.nil ?_
  refine At.in_normal ?_
  refine At.then ?_
  refine Cd.region ?_
  refine Lst.run rfl rfl (by decide) (Ev.incr (by omega) rfl rfl) ?_
  refine Lst.run rfl rfl (by decide) (Ev.move rfl) ?_
  refine Lst.nil ?_
  refine At.less (L' := (.own s48 49 2 (encs (l28 ++ ([({ Pair.zero with A := (i15 : Int), B := (i25 : Int) } : Pair)] : List Pair)))) :: (.blk b13 (enc (PosetR.mk ({ y26 with Pairs := l28 ++ ([({ Pair.zero with A := (i15 : Int), B := (i25 : Int) } : Pair)] : List Pair) } : Poset) s48)) 24) :: (.own Sl.nil 49 2 (encs ([] : List Pair))) :: (.own s6 31 1 (encs r4.1)) :: (.blk b2 (enc (PosetR.mk ({ Poset.zero with Pairs := ([] : List Pair) } : Poset) Sl.nil)) 24) :: (.own Sl.nil 49 2 (encs ([] : List Pair))) :: L) (List.Sublist.cons _ (List.Sublist.cons_cons _ (List.Sublist.cons_cons _ (List.Sublist.cons_cons _ (List.Sublist.cons_cons _ (List.Sublist.cons_cons _ (List.Sublist.cons_cons _ (List.Sublist.refl _)))))))) ?_
  exact At.meet (i25 + 1, k25, ({ y26 with Pairs := l28 ++ ([({ Pair.zero with A := (i15 : Int), B := (i25 : Int) } : Pair)] : List Pair) } : Poset), s48, l28 ++ ([({ Pair.zero with A := (i15 : Int), B := (i25 : Int) } : Pair)] : List Pair)) (FLe.trans hF30 hF42) ⟨rfl, rfl, rfl, rfl, rfl, rfl, rfl, rfl, rfl, rfl, rfl, trivial⟩ rfl ⟨⟨hgo25 _ (some_inj H).symm, by omega⟩, Nat.lt_succ_self _⟩
set_option maxRecDepth 20000 in
theorem lat_Both_sim {a0 : List (BitVec 16)} {a1 : Int} {a2 : Int} {s_a0 : Sl} {r : (BitVec 16) × (BitVec 16) × Int} (H : lat_Both a0 a1 a2 = some r) (w0 : World) (F : Frz) (M L : List Item) (hM : M.Sublist L) (hs_a0 : Rd w0 F M s_a0 a0) : Ok Try.prog w0 20 [Sl.v s_a0, .int .i64 a1, .int .i64 a2] F (L) (Is (.tuple #[.int .u16 r.1.toNat, .int .u16 r.2.1.toNat, .int .i64 r.2.2]) (L)) := by
  unfold lat_Both at H
  refine Ok.enter (m := 3) (n := 51) Try.func20 rfl rfl rfl (by decide) ?_
  refine Cd.env (e' := [(0, Sl.v s_a0), (1, .int .i64 a1), (2, .int .i64 a2)]) rfl ?_
  refine Cd.seq ?_
  refine Cd.region ?_
  refine Lst.run rfl rfl (by decide) (Ev.assign rfl) ?_
  refine Lst.run rfl rfl (by decide) (Ev.assign rfl) ?_
  refine Lst.run rfl rfl (by decide) (Ev.assign rfl) ?_
  refine Lst.nil ?_
  refine At.then ?_
  refine Cd.seq ?_
  refine Cd.seq ?_
  refine Cd.region ?_
  refine Lst.run rfl rfl (by decide) (Ev.move rfl) ?_
  obtain ⟨r1, h2, H⟩ := bind_some H
  refine Lst.call1 rfl rfl (by decide) (vs := [Sl.v s_a0]) ⟨rfl, trivial⟩ Try.call21 (lat_Check_sim h2 w0 _ M _ hM (hs_a0.mono (FLe.refl _) (List.Sublist.refl _))) ?_
  refine Lst.run rfl rfl (by decide) (Ev.assign rfl) ?_
  refine Lst.nil ?_
  refine At.then ?_
  refine Cd.seq ?_
  refine Cd.region ?_
  refine Lst.run rfl rfl (by decide) (Ev.move rfl) ?_
  refine Lst.run rfl rfl (by decide) (Ev.neq rfl rfl) ?_
  refine Lst.nil ?_
  refine At.then ?_
  rcases Bool.eq_false_or_eq_true (r1 != (0 : Int)) with hb5 | hb5
  · replace H := ite_t hb5 H
    refine Cd.condT rfl hb5 ?_
    refine Cd.seq ?_
    refine Cd.region ?_
    refine Lst.run rfl rfl (by decide) (Ev.move rfl) ?_
    refine Lst.run rfl rfl (by decide) (Ev.assign rfl) ?_
    refine Lst.run rfl rfl (by decide) (Ev.assign rfl) ?_
    refine Lst.run rfl rfl (by decide) (Ev.assign rfl) ?_
    refine Lst.nil ?_
    refine At.then ?_
    obtain rfl := some_inj H
    refine Cd.ret ?_
    refine At.then_ret ?_
    exact At.ret3 rfl (Res.tmp rfl) (Res.tmp rfl) (Res.tmp rfl) (FLe.refl _) (List.Sublist.refl _) ⟨rfl, rfl⟩
  replace H := ite_f hb5 H
  refine Cd.condF rfl hb5 ?_
  refine Cd.skip ?_
  refine At.then ?_
  refine Cd.seq ?_
  refine Cd.seq ?_
  refine Cd.region ?_
  refine Lst.run rfl rfl (by decide) (Ev.move rfl) ?_
  refine Lst.run rfl rfl (by decide) (Ev.lss rfl rfl) ?_
  refine Lst.run rfl rfl (by decide) (Ev.move rfl) ?_
  obtain ⟨o6, H, HKo6⟩ := bind_some H
  refine Lst.join (σ := Bool) 5 (fun y7 => [(0, Sl.v s_a0), (1, .int .i64 a1), (2, .int .i64 a2), (22, .bool y7)]) (fun y7 => L) (fun _ y7 => y7 = o6) ?_ ?_
  · rcases Bool.eq_false_or_eq_true (decide (a1 < (0 : Int))) with hb8 | hb8
    · replace H := ite_t hb8 H
      refine Lst.skip rfl rfl rfl hb8 rfl (by decide) ?_
      refine Lst.skip rfl rfl rfl hb8 rfl (by decide) ?_
      refine Lst.skip rfl rfl rfl hb8 rfl (by decide) ?_
      refine Lst.skip rfl rfl rfl hb8 rfl (by decide) ?_
      refine Lst.run rfl rfl (by decide) (Ev.pickT rfl hb8 rfl) ?_
      refine Lst.nil ?_
      exact At.meet true (FLe.refl _) ⟨rfl, rfl, rfl, rfl, trivial⟩ rfl (some_inj H)
    replace H := ite_f hb8 H
    refine Lst.runG rfl rfl rfl hb8 rfl (by decide) (Ev.move rfl) ?_
    refine Lst.runG rfl rfl rfl hb8 rfl (by decide) (Ev.move rfl) ?_
    refine Lst.runG rfl rfl rfl hb8 rfl (by decide) (Ev.lenS (α := BitVec 16) (xs := a0) (by decide) rfl rfl Try.runUnderlying27 (hs_a0.mono (FLe.refl _) hM)) ?_
    refine Lst.runG rfl rfl rfl hb8 rfl (by decide) (Ev.geq rfl rfl) ?_
    refine Lst.run rfl rfl (by decide) (Ev.pickF rfl hb8 rfl) ?_
    refine Lst.nil ?_
    exact At.meet (decide (a1 ≥ (a0.length : Int))) (FLe.refl _) ⟨rfl, rfl, rfl, rfl, trivial⟩ rfl (some_inj H)
  rintro F9 y7 hF10 hy
  subst hy
  refine Lst.as (e' := [(0, Sl.v s_a0), (1, .int .i64 a1), (2, .int .i64 a2), (22, .bool y7)]) (L' := L) ⟨rfl, rfl, rfl, rfl, trivial⟩ rfl ?_
  replace H := HKo6
  refine Lst.run rfl rfl (by decide) (Ev.move rfl) ?_
  obtain ⟨o11, H, HKo11⟩ := bind_some H
  refine Lst.join (σ := Bool) 3 (fun y12 => [(0, Sl.v s_a0), (1, .int .i64 a1), (2, .int .i64 a2), (26, .bool y12)]) (fun y12 => L) (fun _ y12 => y12 = o11) ?_ ?_
  · rcases Bool.eq_false_or_eq_true y7 with hb13 | hb13
    · replace H := ite_t hb13 H
      refine Lst.skip rfl rfl rfl hb13 rfl (by decide) ?_
      refine Lst.skip rfl rfl rfl hb13 rfl (by decide) ?_
      refine Lst.run rfl rfl (by decide) (Ev.pickT rfl hb13 rfl) ?_
      refine Lst.nil ?_
      exact At.meet true (FLe.refl _) ⟨rfl, rfl, rfl, rfl, trivial⟩ rfl (some_inj H)
    replace H := ite_f hb13 H
    refine Lst.runG rfl rfl rfl hb13 rfl (by decide) (Ev.move rfl) ?_
    refine Lst.runG rfl rfl rfl hb13 rfl (by decide) (Ev.lss rfl rfl) ?_
    refine Lst.run rfl rfl (by decide) (Ev.pickF rfl hb13 rfl) ?_
    refine Lst.nil ?_
    exact At.meet (decide (a2 < (0 : Int))) (FLe.refl _) ⟨rfl, rfl, rfl, rfl, trivial⟩ rfl (some_inj H)
  rintro F14 y12 hF15 hy
  subst hy
  refine Lst.as (e' := [(0, Sl.v s_a0), (1, .int .i64 a1), (2, .int .i64 a2), (26, .bool y12)]) (L' := L) ⟨rfl, rfl, rfl, rfl, trivial⟩ rfl ?_
  replace H := HKo11
  refine Lst.run rfl rfl (by decide) (Ev.move rfl) ?_
  obtain ⟨o16, H, HKo16⟩ := bind_some H
  refine Lst.join (σ := Bool) 5 (fun y17 => [(0, Sl.v s_a0), (1, .int .i64 a1), (2, .int .i64 a2), (32, .bool y17)]) (fun y17 => L) (fun _ y17 => y17 = o16) ?_ ?_
  · rcases Bool.eq_false_or_eq_true y12 with hb18 | hb18
    · replace H := ite_t hb18 H
      refine Lst.skip rfl rfl rfl hb18 rfl (by decide) ?_
      refine Lst.skip rfl rfl rfl hb18 rfl (by decide) ?_
      refine Lst.skip rfl rfl rfl hb18 rfl (by decide) ?_
      refine Lst.skip rfl rfl rfl hb18 rfl (by decide) ?_
      refine Lst.run rfl rfl (by decide) (Ev.pickT rfl hb18 rfl) ?_
      refine Lst.nil ?_
      exact At.meet true (FLe.refl _) ⟨rfl, rfl, rfl, rfl, trivial⟩ rfl (some_inj H)
    replace H := ite_f hb18 H
    refine Lst.runG rfl rfl rfl hb18 rfl (by decide) (Ev.move rfl) ?_
    refine Lst.runG rfl rfl rfl hb18 rfl (by decide) (Ev.move rfl) ?_
    refine Lst.runG rfl rfl rfl hb18 rfl (by decide) (Ev.lenS (α := BitVec 16) (xs := a0) (by decide) rfl rfl Try.runUnderlying27 (hs_a0.mono (FLe.trans hF10 hF15) hM)) ?_
    refine Lst.runG rfl rfl rfl hb18 rfl (by decide) (Ev.geq rfl rfl) ?_
    refine Lst.run rfl rfl (by decide) (Ev.pickF rfl hb18 rfl) ?_
    refine Lst.nil ?_
    exact At.meet (decide (a2 ≥ (a0.length : Int))) (FLe.refl _) ⟨rfl, rfl, rfl, rfl, trivial⟩ rfl (some_inj H)
  rintro F19 y17 hF20 hy
  subst hy
  refine Lst.as (e' := [(0, Sl.v s_a0), (1, .int .i64 a1), (2, .int .i64 a2), (32, .bool y17)]) (L' := L) ⟨rfl, rfl, rfl, rfl, trivial⟩ rfl ?_
  replace H := HKo16
  refine Lst.nil ?_
  refine At.then ?_
  rcases Bool.eq_false_or_eq_true y17 with hb21 | hb21
  · replace H := ite_t hb21 H
    refine Cd.condT rfl hb21 ?_
    refine Cd.seq ?_
    refine Cd.region ?_
    refine Lst.run rfl rfl (by decide) (Ev.assign rfl) ?_
    refine Lst.run rfl rfl (by decide) (Ev.assign rfl) ?_
    refine Lst.run rfl rfl (by decide) (Ev.assign rfl) ?_
    refine Lst.nil ?_
    refine At.then ?_
    obtain rfl := some_inj H
    refine Cd.ret ?_
    refine At.then_ret ?_
    exact At.ret3 rfl (Res.tmp rfl) (Res.tmp rfl) (Res.tmp rfl) (FLe.trans (FLe.trans hF10 hF15) hF20) (List.Sublist.refl _) ⟨rfl, rfl⟩
  replace H := ite_f hb21 H
  refine Cd.condF rfl hb21 ?_
  refine Cd.skip ?_
  refine At.then ?_
  refine Cd.seq ?_
  refine Cd.quiet (by kernel_rfl) (by kernel_rfl) ?_
  refine Qt.run rfl rfl (by decide) (Ev.move rfl) ?_
  refine Qt.run rfl rfl (by decide) (Ev.move rfl) ?_
  obtain ⟨x22, h23, H⟩ := bind_some H
  have g24 := lat_some h23
  refine Qt.run rfl rfl (by decide) (Ev.indexS (α := BitVec 16) (xs := a0) rfl rfl Try.runUnderlying27 Try.sizeOf31 rfl (by decide) (hs_a0.mono (FLe.trans (FLe.trans hF10 hF15) hF20) hM) g24.1 g24.2.1) ?_
  refine Qt.run rfl rfl (by decide) (Ev.loadS (α := BitVec 16) rfl (hs_a0.mono (FLe.trans (FLe.trans hF10 hF15) hF20) hM) Try.isAgg31 (v := .int .u16 x22.toNat) ((Get.elemN (s := 1) (x := x22) rfl g24.2.2 (Get.here _)).off (by omega))) ?_
  refine Qt.run rfl rfl (by decide) (Ev.move rfl) ?_
  refine Qt.run rfl rfl (by decide) (Ev.move rfl) ?_
  obtain ⟨x25, h26, H⟩ := bind_some H
  have g27 := lat_some h26
  refine Qt.run rfl rfl (by decide) (Ev.indexS (α := BitVec 16) (xs := a0) rfl rfl Try.runUnderlying27 Try.sizeOf31 rfl (by decide) (hs_a0.mono (FLe.trans (FLe.trans hF10 hF15) hF20) hM) g27.1 g27.2.1) ?_
  refine Qt.run rfl rfl (by decide) (Ev.loadS (α := BitVec 16) rfl (hs_a0.mono (FLe.trans (FLe.trans hF10 hF15) hF20) hM) Try.isAgg31 (v := .int .u16 x25.toNat) ((Get.elemN (s := 1) (x := x25) rfl g27.2.2 (Get.here _)).off (by omega))) ?_
  refine Qt.run rfl rfl (by decide) (Ev.orU16 (i := x22) (j := x25) rfl rfl) ?_
  refine Qt.run rfl rfl (by decide) (Ev.move rfl) ?_
  refine Qt.run rfl rfl (by decide) (Ev.move rfl) ?_
  obtain ⟨x28, h29, H⟩ := bind_some H
  have g30 := lat_some h29
  refine Qt.run rfl rfl (by decide) (Ev.indexS (α := BitVec 16) (xs := a0) rfl rfl Try.runUnderlying27 Try.sizeOf31 rfl (by decide) (hs_a0.mono (FLe.trans (FLe.trans hF10 hF15) hF20) hM) g30.1 g30.2.1) ?_
  refine Qt.run rfl rfl (by decide) (Ev.loadS (α := BitVec 16) rfl (hs_a0.mono (FLe.trans (FLe.trans hF10 hF15) hF20) hM) Try.isAgg31 (v := .int .u16 x28.toNat) ((Get.elemN (s := 1) (x := x28) rfl g30.2.2 (Get.here _)).off (by omega))) ?_
  refine Qt.run rfl rfl (by decide) (Ev.move rfl) ?_
  refine Qt.run rfl rfl (by decide) (Ev.move rfl) ?_
  obtain ⟨x31, h32, H⟩ := bind_some H
  have g33 := lat_some h32
  refine Qt.run rfl rfl (by decide) (Ev.indexS (α := BitVec 16) (xs := a0) rfl rfl Try.runUnderlying27 Try.sizeOf31 rfl (by decide) (hs_a0.mono (FLe.trans (FLe.trans hF10 hF15) hF20) hM) g33.1 g33.2.1) ?_
  refine Qt.run rfl rfl (by decide) (Ev.loadS (α := BitVec 16) rfl (hs_a0.mono (FLe.trans (FLe.trans hF10 hF15) hF20) hM) Try.isAgg31 (v := .int .u16 x31.toNat) ((Get.elemN (s := 1) (x := x31) rfl g33.2.2 (Get.here _)).off (by omega))) ?_
  refine Qt.run rfl rfl (by decide) (Ev.andU16 (i := x28) (j := x31) rfl rfl) ?_
  refine Qt.run rfl rfl (by decide) (Ev.assign rfl) ?_
  refine Qt.run rfl rfl (by decide) (Ev.assign rfl) ?_
  refine Qt.run rfl rfl (by decide) (Ev.assign rfl) ?_
  refine Qt.done ?_
  refine At.then ?_
  obtain rfl := some_inj H
  refine Cd.ret ?_
  exact At.ret3 rfl (Res.tmp rfl) (Res.tmp rfl) (Res.tmp rfl) (FLe.trans (FLe.trans hF10 hF15) hF20) (List.Sublist.refl _) ⟨rfl, rfl⟩
set_option maxRecDepth 20000 in
theorem partref_Firm_sim {a0 : List (BitVec 16)} {s_a0 : Sl} {r : (List (BitVec 16))} (H : partref_Firm a0 = some r) (w0 : World) (F : Frz) (M L : List Item) (hM : M.Sublist L) (hs_a0 : Rd w0 F M s_a0 a0) : Ok Try.prog w0 22 [Sl.v s_a0] F (L) (fun _ L' v => ∃ (s32 : Sl), v = Sl.v s32 ∧ L' = (.own s32 31 1 (encs r)) :: L) := by
  unfold partref_Firm at H
  refine Ok.enter (m := 1) (n := 44) Try.func22 rfl rfl rfl (by decide) ?_
  refine Cd.env (e' := [(0, Sl.v s_a0)]) rfl ?_
  refine Cd.seq ?_
  refine Cd.region ?_
  refine Lst.addNil 31 1 ?_
  refine Lst.run rfl rfl (by decide) (Ev.assign rfl) ?_
  refine Lst.nil ?_
  refine At.then ?_
  refine Cd.seq ?_
  refine Cd.region ?_
  refine Lst.addNil 31 1 ?_
  refine Lst.run rfl rfl (by decide) (Ev.assign rfl) ?_
  refine Lst.nil ?_
  refine At.then ?_
  refine Cd.seq ?_
  refine Cd.seq ?_
  refine Cd.region ?_
  refine Lst.run rfl rfl (by decide) (Ev.move rfl) ?_
  refine Lst.run rfl rfl (by decide) (Ev.lenS (α := BitVec 16) (xs := a0) (by decide) rfl rfl Try.runUnderlying27 (hs_a0.mono (FLe.refl _) (List.Sublist.cons _ (List.Sublist.cons _ hM)))) ?_
  refine Lst.run rfl rfl (by decide) (Ev.move rfl) ?_
  refine Lst.nil ?_
  refine At.then ?_
  refine Cd.block ?_
  refine Cd.bound (Rd.le (α := BitVec 16) (xs := a0) (by decide) (hs_a0.mono (FLe.refl _) (List.Sublist.cons _ (List.Sublist.cons _ hM)))) (fun hN31 => ?_)
  obtain ⟨ol3, H, HKl3⟩ := bind_some H
  refine Cd.loop (σ := Nat × Nat × Sl × (List (BitVec 16))) (fun (i3, k3, s4, l5) => [(0, Sl.v s_a0), (3, Sl.v s4), (9, Sl.v s_a0), (10, .int .i64 (a0.length : Int)), (11, .int .i64 (i3 : Int))]) (fun (i3, k3, s4, l5) => (.own s4 31 1 (encs l5)) :: (.own Sl.nil 31 1 (encs ([] : List (BitVec 16)))) :: L) (fun _ => (fun (i3, k3, s4, l5) => rangeF (partref_Firm_B0 a0) k3 i3 l5 = some ol3 ∧ i3 + k3 = a0.length)) (fun (i3, k3, s4, l5) => k3) (0, a0.length, Sl.nil, ([] : List (BitVec 16))) ⟨rfl, rfl, rfl, rfl, rfl, trivial⟩ rfl ⟨H, by omega⟩ ?_
  rintro F6 ⟨i3, k3, s4, l5⟩ hF7 ⟨H, hik3⟩
  refine Cd.as (e' := [(0, Sl.v s_a0), (3, Sl.v s4), (9, Sl.v s_a0), (10, .int .i64 (a0.length : Int)), (11, .int .i64 (i3 : Int))]) (L' := (.own s4 31 1 (encs l5)) :: (.own Sl.nil 31 1 (encs ([] : List (BitVec 16)))) :: L) ⟨rfl, rfl, rfl, rfl, rfl, trivial⟩ rfl ?_
  rcases k3 with _ | k3
  · have hc3 : decide ((i3 : Int) < (a0.length : Int)) = false := decide_eq_false (by omega)
    replace H := rangeF_end H
    refine Cd.seq ?_
    refine Cd.region ?_
    refine Lst.run rfl rfl (by decide) (Ev.lss rfl rfl) ?_
    refine Lst.nil ?_
    refine At.then ?_
    refine Cd.seq ?_
    refine Cd.condF rfl hc3 ?_
    refine Cd.exit ?_
    refine At.then_exit ?_
    refine At.then_exit ?_
    refine At.in_exit ?_
    subst H
    replace H := HKl3
    refine At.then ?_
    refine Cd.seq ?_
    refine Cd.region ?_
    refine Lst.run rfl rfl (by decide) (Ev.move rfl) ?_
    refine Lst.run rfl rfl (by decide) (Ev.assign rfl) ?_
    refine Lst.nil ?_
    refine At.then ?_
    obtain rfl := some_inj H
    refine Cd.ret ?_
    exact At.ret1 rfl (Res.tmp rfl) hF7 (List.Sublist.cons_cons _ (List.Sublist.cons _ (List.Sublist.refl _))) ⟨s4, rfl, rfl⟩
  have hc3 : decide ((i3 : Int) < (a0.length : Int)) = true := decide_eq_true (by omega)
  obtain ⟨c3, H, hgo3⟩ := rangeF_go H
  unfold partref_Firm_B0 at H
  try dsimp only at H
  refine Cd.seq ?_
  refine Cd.region ?_
  refine Lst.run rfl rfl (by decide) (Ev.lss rfl rfl) ?_
  refine Lst.nil ?_
  refine At.then ?_
  refine Cd.seq ?_
  refine Cd.condT rfl hc3 ?_
  refine Cd.skip ?_
  refine At.then ?_
  refine Cd.seq ?_
  refine Cd.block ?_
  refine Cd.seq ?_
  refine Cd.region ?_
  obtain ⟨x8, h9, H⟩ := bind_some H
  have g10 := lat_some h9
  refine Lst.run rfl rfl (by decide) (Ev.indexS (α := BitVec 16) (xs := a0) rfl rfl Try.runUnderlying27 Try.sizeOf31 rfl (by decide) (hs_a0.mono hF7 (List.Sublist.cons _ (List.Sublist.cons _ hM))) g10.1 g10.2.1) ?_
  refine Lst.run rfl rfl (by decide) (Ev.loadS (α := BitVec 16) rfl (hs_a0.mono hF7 (List.Sublist.cons _ (List.Sublist.cons _ hM))) Try.isAgg31 (v := .int .u16 x8.toNat) ((Get.elemN (s := 1) (x := x8) rfl g10.2.2 (Get.here _)).off (by omega))) ?_
  refine Lst.run rfl rfl (by decide) (Ev.assign rfl) ?_
  refine Lst.nil ?_
  refine At.then ?_
  refine Cd.seq ?_
  refine Cd.region ?_
  refine Lst.run rfl rfl (by decide) (Ev.assign rfl) ?_
  refine Lst.nil ?_
  refine At.then ?_
  refine Cd.seq ?_
  refine Cd.seq ?_
  refine Cd.region ?_
  refine Lst.run rfl rfl (by decide) (Ev.move rfl) ?_
  refine Lst.run rfl rfl (by decide) (Ev.lenS (α := BitVec 16) (xs := a0) (by decide) rfl rfl Try.runUnderlying27 (hs_a0.mono hF7 (List.Sublist.cons _ (List.Sublist.cons _ hM)))) ?_
  refine Lst.run rfl rfl (by decide) (Ev.move rfl) ?_
  refine Lst.nil ?_
  refine At.then ?_
  refine Cd.block ?_
  refine Cd.bound (Rd.le (α := BitVec 16) (xs := a0) (by decide) (hs_a0.mono hF7 (List.Sublist.cons _ (List.Sublist.cons _ hM)))) (fun hN30 => ?_)
  obtain ⟨ol11, H, HKl11⟩ := bind_some H
  refine Cd.loop (σ := Nat × Nat × (BitVec 16)) (fun (i11, k11, y12) => [(0, Sl.v s_a0), (3, Sl.v s4), (5, .int .u16 x8.toNat), (6, .int .u16 y12.toNat), (9, Sl.v s_a0), (10, .int .i64 (a0.length : Int)), (11, .int .i64 (i3 : Int)), (15, Sl.v s_a0), (16, .int .i64 (a0.length : Int)), (17, .int .i64 (i11 : Int))]) (fun (i11, k11, y12) => (.own s4 31 1 (encs l5)) :: (.own Sl.nil 31 1 (encs ([] : List (BitVec 16)))) :: L) (fun _ => (fun (i11, k11, y12) => rangeF (partref_Firm_B2 a0 x8) k11 i11 y12 = some ol11 ∧ i11 + k11 = a0.length)) (fun (i11, k11, y12) => k11) (0, a0.length, (0 : BitVec 16)) ⟨rfl, rfl, rfl, rfl, rfl, rfl, rfl, rfl, rfl, rfl, trivial⟩ rfl ⟨H, by omega⟩ ?_
  rintro F13 ⟨i11, k11, y12⟩ hF14 ⟨H, hik11⟩
  refine Cd.as (e' := [(0, Sl.v s_a0), (3, Sl.v s4), (5, .int .u16 x8.toNat), (6, .int .u16 y12.toNat), (9, Sl.v s_a0), (10, .int .i64 (a0.length : Int)), (11, .int .i64 (i3 : Int)), (15, Sl.v s_a0), (16, .int .i64 (a0.length : Int)), (17, .int .i64 (i11 : Int))]) (L' := (.own s4 31 1 (encs l5)) :: (.own Sl.nil 31 1 (encs ([] : List (BitVec 16)))) :: L) ⟨rfl, rfl, rfl, rfl, rfl, rfl, rfl, rfl, rfl, rfl, trivial⟩ rfl ?_
  rcases k11 with _ | k11
  · have hc11 : decide ((i11 : Int) < (a0.length : Int)) = false := decide_eq_false (by omega)
    replace H := rangeF_end H
    refine Cd.seq ?_
    refine Cd.region ?_
    refine Lst.run rfl rfl (by decide) (Ev.lss rfl rfl) ?_
    refine Lst.nil ?_
    refine At.then ?_
    refine Cd.seq ?_
    refine Cd.condF rfl hc11 ?_
    refine Cd.exit ?_
    refine At.then_exit ?_
    refine At.then_exit ?_
    refine At.in_exit ?_
    subst H
    replace H := HKl11
    refine At.then ?_
    refine Cd.seq ?_
    refine Cd.region ?_
    refine Lst.run rfl rfl (by decide) (Ev.move rfl) ?_
    refine Lst.run rfl rfl (by decide) (Ev.move rfl) ?_
    refine Lst.run rfl rfl (by decide) (Ev.lss rfl rfl) ?_
    refine Lst.nil ?_
    refine At.then ?_
    rcases (Bool.eq_false_or_eq_true (decide ((y12.toNat : Int) < (x8.toNat : Int)))).symm with hb24 | hb24
    · replace H := ite_f hb24 H
      refine Cd.condF rfl hb24 ?_
      refine Cd.skip ?_
      refine At.in_normal ?_
      refine At.then ?_
      refine Cd.region ?_
      refine Lst.run rfl rfl (by decide) (Ev.incr (by omega) rfl rfl) ?_
      refine Lst.run rfl rfl (by decide) (Ev.move rfl) ?_
      refine Lst.nil ?_
      exact At.meet (i3 + 1, k3, s4, l5) (FLe.trans hF7 hF14) ⟨rfl, rfl, rfl, rfl, rfl, trivial⟩ rfl ⟨⟨hgo3 _ (some_inj H).symm, by omega⟩, Nat.lt_succ_self _⟩
    replace H := ite_t hb24 H
    refine Cd.condT rfl hb24 ?_
    refine Cd.region ?_
    refine Lst.run rfl rfl (by decide) (Ev.move rfl) ?_
    refine Lst.run rfl rfl (by decide) (Ev.move rfl) ?_
    refine Lst.buildSlice (α := BitVec 16) (xs := ([x8] : List (BitVec 16))) (pv := [(0, .int .u16 x8.toNat)]) rfl rfl (by decide) ⟨rfl, rfl, trivial⟩ (run_buildSlice (α := BitVec 16) (z0 := (0 : BitVec 16)) (xs := ([x8] : List (BitVec 16))) Try.runUnderlying27 Try.sizeOf31 Try.zeroValue31 rfl rfl rfl (by decide) rfl (fill_cons (cs := encs (List.replicate 1 (0 : BitVec 16))) (cs' := encs ((List.replicate 1 (0 : BitVec 16)).set 0 x8)) (vs := [.int .u16 x8.toNat]) rfl rfl rfl ((Put.elemN (s := 1) (i := 0) (x := (0 : BitVec 16)) (y := x8) rfl rfl (Put.here (vs := [.int .u16 x8.toNat]) rfl)).off rfl) fill_nil)) rfl rfl (by decide) (fun s25 _ => ?_)
    obtain ⟨u27, h28, H⟩ := bind_some H
    refine Lst.append (i := 1) (α := BitVec 16) (xs := l5) (ys := ([x8] : List (BitVec 16))) rfl rfl (by decide) rfl rfl Try.runUnderlying27 Try.typeInfo31 rfl rfl rfl rfl rfl rfl (Rd.own (i := 0) rfl rfl rfl) rfl (room_some h28) rfl (fun s29 => ?_)
    refine Lst.its (L' := (.own s25 31 1 (encs ([x8] : List (BitVec 16)))) :: (.own s29 31 1 (encs (l5 ++ ([x8] : List (BitVec 16))))) :: (.own Sl.nil 31 1 (encs ([] : List (BitVec 16)))) :: L) rfl ?_
    refine Lst.run rfl rfl (by decide) (Ev.assign rfl) ?_
    refine Lst.nil ?_
    refine At.in_normal ?_
    refine At.then ?_
    refine Cd.region ?_
    refine Lst.run rfl rfl (by decide) (Ev.incr (by omega) rfl rfl) ?_
    refine Lst.run rfl rfl (by decide) (Ev.move rfl) ?_
    refine Lst.nil ?_
    refine At.less (L' := (.own s29 31 1 (encs (l5 ++ ([x8] : List (BitVec 16))))) :: (.own Sl.nil 31 1 (encs ([] : List (BitVec 16)))) :: L) (List.Sublist.cons _ (List.Sublist.cons_cons _ (List.Sublist.cons_cons _ (List.Sublist.refl _)))) ?_
    exact At.meet (i3 + 1, k3, s29, l5 ++ ([x8] : List (BitVec 16))) (FLe.trans hF7 hF14) ⟨rfl, rfl, rfl, rfl, rfl, trivial⟩ rfl ⟨⟨hgo3 _ (some_inj H).symm, by omega⟩, Nat.lt_succ_self _⟩
  have hc11 : decide ((i11 : Int) < (a0.length : Int)) = true := decide_eq_true (by omega)
  obtain ⟨c11, H, hgo11⟩ := rangeF_go H
  unfold partref_Firm_B2 at H
  try dsimp only at H
  refine Cd.seq ?_
  refine Cd.region ?_
  refine Lst.run rfl rfl (by decide) (Ev.lss rfl rfl) ?_
  refine Lst.nil ?_
  refine At.then ?_
  refine Cd.seq ?_
  refine Cd.condT rfl hc11 ?_
  refine Cd.skip ?_
  refine At.then ?_
  refine Cd.seq ?_
  refine Cd.block ?_
  refine Cd.seq ?_
  refine Cd.region ?_
  obtain ⟨x15, h16, H⟩ := bind_some H
  have g17 := lat_some h16
  refine Lst.run rfl rfl (by decide) (Ev.indexS (α := BitVec 16) (xs := a0) rfl rfl Try.runUnderlying27 Try.sizeOf31 rfl (by decide) (hs_a0.mono (FLe.trans hF7 hF14) (List.Sublist.cons _ (List.Sublist.cons _ hM))) g17.1 g17.2.1) ?_
  refine Lst.run rfl rfl (by decide) (Ev.loadS (α := BitVec 16) rfl (hs_a0.mono (FLe.trans hF7 hF14) (List.Sublist.cons _ (List.Sublist.cons _ hM))) Try.isAgg31 (v := .int .u16 x15.toNat) ((Get.elemN (s := 1) (x := x15) rfl g17.2.2 (Get.here _)).off (by omega))) ?_
  refine Lst.run rfl rfl (by decide) (Ev.assign rfl) ?_
  refine Lst.nil ?_
  refine At.then ?_
  refine Cd.seq ?_
  refine Cd.region ?_
  refine Lst.run rfl rfl (by decide) (Ev.move rfl) ?_
  refine Lst.run rfl rfl (by decide) (Ev.move rfl) ?_
  refine Lst.run rfl rfl (by decide) (Ev.orU16 (i := x15) (j := x8) rfl rfl) ?_
  refine Lst.run rfl rfl (by decide) (Ev.move rfl) ?_
  refine Lst.run rfl rfl (by decide) (Ev.eql rfl rfl) ?_
  refine Lst.run rfl rfl (by decide) (Ev.move rfl) ?_
  obtain ⟨o18, H, HKo18⟩ := bind_some H
  refine Lst.join (σ := Bool) 4 (fun y19 => [(0, Sl.v s_a0), (3, Sl.v s4), (5, .int .u16 x8.toNat), (6, .int .u16 y12.toNat), (8, .int .u16 x15.toNat), (9, Sl.v s_a0), (10, .int .i64 (a0.length : Int)), (11, .int .i64 (i3 : Int)), (15, Sl.v s_a0), (16, .int .i64 (a0.length : Int)), (17, .int .i64 (i11 : Int)), (30, .bool y19)]) (fun y19 => (.own s4 31 1 (encs l5)) :: (.own Sl.nil 31 1 (encs ([] : List (BitVec 16)))) :: L) (fun _ y19 => y19 = o18) ?_ ?_
  · rcases (Bool.eq_false_or_eq_true (((x15 ||| x8).toNat : Int) == (x8.toNat : Int))).symm with hb20 | hb20
    · replace H := ite_f hb20 H
      refine Lst.skip rfl rfl rfl hb20 rfl (by decide) ?_
      refine Lst.skip rfl rfl rfl hb20 rfl (by decide) ?_
      refine Lst.skip rfl rfl rfl hb20 rfl (by decide) ?_
      refine Lst.run rfl rfl (by decide) (Ev.pickF rfl hb20 rfl) ?_
      refine Lst.nil ?_
      exact At.meet false (FLe.refl _) ⟨rfl, rfl, rfl, rfl, rfl, rfl, rfl, rfl, rfl, rfl, rfl, rfl, trivial⟩ rfl (some_inj H)
    replace H := ite_t hb20 H
    refine Lst.runG rfl rfl rfl hb20 rfl (by decide) (Ev.move rfl) ?_
    refine Lst.runG rfl rfl rfl hb20 rfl (by decide) (Ev.move rfl) ?_
    refine Lst.runG rfl rfl rfl hb20 rfl (by decide) (Ev.lss rfl rfl) ?_
    refine Lst.run rfl rfl (by decide) (Ev.pickT rfl hb20 rfl) ?_
    refine Lst.nil ?_
    exact At.meet (decide ((x15.toNat : Int) < (x8.toNat : Int))) (FLe.refl _) ⟨rfl, rfl, rfl, rfl, rfl, rfl, rfl, rfl, rfl, rfl, rfl, rfl, trivial⟩ rfl (some_inj H)
  rintro F21 y19 hF22 hy
  subst hy
  refine Lst.as (e' := [(0, Sl.v s_a0), (3, Sl.v s4), (5, .int .u16 x8.toNat), (6, .int .u16 y12.toNat), (8, .int .u16 x15.toNat), (9, Sl.v s_a0), (10, .int .i64 (a0.length : Int)), (11, .int .i64 (i3 : Int)), (15, Sl.v s_a0), (16, .int .i64 (a0.length : Int)), (17, .int .i64 (i11 : Int)), (30, .bool y19)]) (L' := (.own s4 31 1 (encs l5)) :: (.own Sl.nil 31 1 (encs ([] : List (BitVec 16)))) :: L) ⟨rfl, rfl, rfl, rfl, rfl, rfl, rfl, rfl, rfl, rfl, rfl, rfl, trivial⟩ rfl ?_
  replace H := HKo18
  refine Lst.nil ?_
  refine At.then ?_
  rcases (Bool.eq_false_or_eq_true y19).symm with hb23 | hb23
  · replace H := ite_f hb23 H
    refine Cd.condF rfl hb23 ?_
    refine Cd.skip ?_
    refine At.in_normal ?_
    refine At.then ?_
    refine Cd.region ?_
    refine Lst.run rfl rfl (by decide) (Ev.incr (by omega) rfl rfl) ?_
    refine Lst.run rfl rfl (by decide) (Ev.move rfl) ?_
    refine Lst.nil ?_
    exact At.meet (i11 + 1, k11, y12) (FLe.trans hF14 hF22) ⟨rfl, rfl, rfl, rfl, rfl, rfl, rfl, rfl, rfl, rfl, trivial⟩ rfl ⟨⟨hgo11 _ (some_inj H).symm, by omega⟩, Nat.lt_succ_self _⟩
  replace H := ite_t hb23 H
  refine Cd.condT rfl hb23 ?_
  refine Cd.region ?_
  refine Lst.run rfl rfl (by decide) (Ev.move rfl) ?_
  refine Lst.run rfl rfl (by decide) (Ev.move rfl) ?_
  refine Lst.run rfl rfl (by decide) (Ev.orU16 (i := y12) (j := x15) rfl rfl) ?_
  refine Lst.run rfl rfl (by decide) (Ev.assign rfl) ?_
  refine Lst.nil ?_
  refine At.in_normal ?_
  refine At.then ?_
  refine Cd.region ?_
  refine Lst.run rfl rfl (by decide) (Ev.incr (by omega) rfl rfl) ?_
  refine Lst.run rfl rfl (by decide) (Ev.move rfl) ?_
  refine Lst.nil ?_
  exact At.meet (i11 + 1, k11, y12 ||| x15) (FLe.trans hF14 hF22) ⟨rfl, rfl, rfl, rfl, rfl, rfl, rfl, rfl, rfl, rfl, trivial⟩ rfl ⟨⟨hgo11 _ (some_inj H).symm, by omega⟩, Nat.lt_succ_self _⟩
set_option maxRecDepth 20000 in
theorem slices_Equal_uint16_uint16_sim {a0 : List (BitVec 16)} {a1 : List (BitVec 16)} {s_a0 : Sl} {s_a1 : Sl} {r : Bool} (H : slices_Equal_uint16_uint16 a0 a1 = some r) (w0 : World) (F : Frz) (M L : List Item) (hM : M.Sublist L) (hs_a0 : Rd w0 F M s_a0 a0) (hs_a1 : Rd w0 F M s_a1 a1) : Ok Try.prog w0 11 [Sl.v s_a0, Sl.v s_a1] F (L) (Is (.bool r) (L)) := by
  unfold slices_Equal_uint16_uint16 at H
  refine Ok.enter (m := 2) (n := 26) Try.func11 rfl rfl rfl (by decide) ?_
  refine Cd.env (e' := [(0, Sl.v s_a0), (1, Sl.v s_a1)]) rfl ?_
  refine Cd.seq ?_
  refine Cd.region ?_
  refine Lst.run rfl rfl (by decide) (Ev.assign rfl) ?_
  refine Lst.nil ?_
  refine At.then ?_
  refine Cd.seq ?_
  refine Cd.seq ?_
  refine Cd.region ?_
  refine Lst.run rfl rfl (by decide) (Ev.move rfl) ?_
  refine Lst.run rfl rfl (by decide) (Ev.lenS (α := BitVec 16) (xs := a0) (by decide) rfl rfl Try.runUnderlying27 (hs_a0.mono (FLe.refl _) hM)) ?_
  refine Lst.run rfl rfl (by decide) (Ev.move rfl) ?_
  refine Lst.run rfl rfl (by decide) (Ev.lenS (α := BitVec 16) (xs := a1) (by decide) rfl rfl Try.runUnderlying27 (hs_a1.mono (FLe.refl _) hM)) ?_
  refine Lst.run rfl rfl (by decide) (Ev.neq rfl rfl) ?_
  refine Lst.nil ?_
  refine At.then ?_
  rcases Bool.eq_false_or_eq_true ((a0.length : Int) != (a1.length : Int)) with hb1 | hb1
  · replace H := ite_t hb1 H
    refine Cd.condT rfl hb1 ?_
    refine Cd.seq ?_
    refine Cd.region ?_
    refine Lst.run rfl rfl (by decide) (Ev.assign rfl) ?_
    refine Lst.nil ?_
    refine At.then ?_
    obtain rfl := some_inj H
    refine Cd.ret ?_
    refine At.then_ret ?_
    exact At.ret1 rfl (Res.tmp rfl) (FLe.refl _) (List.Sublist.refl _) ⟨rfl, rfl⟩
  replace H := ite_f hb1 H
  refine Cd.condF rfl hb1 ?_
  refine Cd.skip ?_
  refine At.then ?_
  refine Cd.seq ?_
  refine Cd.seq ?_
  refine Cd.region ?_
  refine Lst.run rfl rfl (by decide) (Ev.move rfl) ?_
  refine Lst.run rfl rfl (by decide) (Ev.lenS (α := BitVec 16) (xs := a0) (by decide) rfl rfl Try.runUnderlying27 (hs_a0.mono (FLe.refl _) hM)) ?_
  refine Lst.run rfl rfl (by decide) (Ev.move rfl) ?_
  refine Lst.nil ?_
  refine At.then ?_
  refine Cd.block ?_
  refine Cd.bound (Rd.le (α := BitVec 16) (xs := a0) (by decide) (hs_a0.mono (FLe.refl _) hM)) (fun hN12 => ?_)
  obtain ⟨ol2, H, HKl2⟩ := andThen_some H
  refine Cd.loop (σ := Nat × Nat × Unit) (fun (i2, k2, _u) => [(0, Sl.v s_a0), (1, Sl.v s_a1), (12, .int .i64 (a0.length : Int)), (13, .int .i64 (i2 : Int))]) (fun (i2, k2, _u) => L) (fun _ => (fun (i2, k2, _u) => rangeM (slices_Equal_uint16_uint16_B0 a0 a1) k2 i2 () = some ol2 ∧ i2 + k2 = a0.length)) (fun (i2, k2, _u) => k2) (0, a0.length, ()) ⟨rfl, rfl, rfl, rfl, trivial⟩ rfl ⟨H, by omega⟩ ?_
  rintro F3 ⟨i2, k2, _u⟩ hF4 ⟨H, hik2⟩
  refine Cd.as (e' := [(0, Sl.v s_a0), (1, Sl.v s_a1), (12, .int .i64 (a0.length : Int)), (13, .int .i64 (i2 : Int))]) (L' := L) ⟨rfl, rfl, rfl, rfl, trivial⟩ rfl ?_
  rcases k2 with _ | k2
  · have hc2 : decide ((i2 : Int) < (a0.length : Int)) = false := decide_eq_false (by omega)
    replace H := rangeM_end H
    refine Cd.seq ?_
    refine Cd.region ?_
    refine Lst.run rfl rfl (by decide) (Ev.lss rfl rfl) ?_
    refine Lst.nil ?_
    refine At.then ?_
    refine Cd.seq ?_
    refine Cd.condF rfl hc2 ?_
    refine Cd.exit ?_
    refine At.then_exit ?_
    refine At.then_exit ?_
    refine At.in_exit ?_
    subst H
    replace H := HKl2
    refine At.then ?_
    refine Cd.seq ?_
    refine Cd.region ?_
    refine Lst.run rfl rfl (by decide) (Ev.assign rfl) ?_
    refine Lst.nil ?_
    refine At.then ?_
    obtain rfl := some_inj H
    refine Cd.ret ?_
    exact At.ret1 rfl (Res.tmp rfl) hF4 (List.Sublist.refl _) ⟨rfl, rfl⟩
  have hc2 : decide ((i2 : Int) < (a0.length : Int)) = true := decide_eq_true (by omega)
  obtain ⟨c2, H, hgo2, hbrk2, hret2⟩ := rangeM_go H
  unfold slices_Equal_uint16_uint16_B0 at H
  try dsimp only at H
  refine Cd.seq ?_
  refine Cd.region ?_
  refine Lst.run rfl rfl (by decide) (Ev.lss rfl rfl) ?_
  refine Lst.nil ?_
  refine At.then ?_
  refine Cd.seq ?_
  refine Cd.condT rfl hc2 ?_
  refine Cd.skip ?_
  refine At.then ?_
  refine Cd.seq ?_
  refine Cd.block ?_
  refine Cd.seq ?_
  refine Cd.region ?_
  refine Lst.run rfl rfl (by decide) (Ev.move rfl) ?_
  refine Lst.run rfl rfl (by decide) (Ev.assign rfl) ?_
  refine Lst.nil ?_
  refine At.then ?_
  refine Cd.seq ?_
  refine Cd.quiet (by kernel_rfl) (by kernel_rfl) ?_
  refine Qt.run rfl rfl (by decide) (Ev.move rfl) ?_
  refine Qt.run rfl rfl (by decide) (Ev.move rfl) ?_
  obtain ⟨x5, h6, H⟩ := bind_some H
  have g7 := lat_some h6
  refine Qt.run rfl rfl (by decide) (Ev.indexS (α := BitVec 16) (xs := a0) rfl rfl Try.runUnderlying27 Try.sizeOf31 rfl (by decide) (hs_a0.mono hF4 hM) g7.1 g7.2.1) ?_
  refine Qt.run rfl rfl (by decide) (Ev.loadS (α := BitVec 16) rfl (hs_a0.mono hF4 hM) Try.isAgg31 (v := .int .u16 x5.toNat) ((Get.elemN (s := 1) (x := x5) rfl g7.2.2 (Get.here _)).off (by omega))) ?_
  refine Qt.run rfl rfl (by decide) (Ev.move rfl) ?_
  refine Qt.run rfl rfl (by decide) (Ev.move rfl) ?_
  obtain ⟨x8, h9, H⟩ := bind_some H
  have g10 := lat_some h9
  refine Qt.run rfl rfl (by decide) (Ev.indexS (α := BitVec 16) (xs := a1) rfl rfl Try.runUnderlying27 Try.sizeOf31 rfl (by decide) (hs_a1.mono hF4 hM) g10.1 g10.2.1) ?_
  refine Qt.run rfl rfl (by decide) (Ev.loadS (α := BitVec 16) rfl (hs_a1.mono hF4 hM) Try.isAgg31 (v := .int .u16 x8.toNat) ((Get.elemN (s := 1) (x := x8) rfl g10.2.2 (Get.here _)).off (by omega))) ?_
  refine Qt.run rfl rfl (by decide) (Ev.neq rfl rfl) ?_
  refine Qt.done ?_
  refine At.then ?_
  rcases Bool.eq_false_or_eq_true ((x5.toNat : Int) != (x8.toNat : Int)) with hb11 | hb11
  · replace H := ite_t hb11 H
    refine Cd.condT rfl hb11 ?_
    refine Cd.seq ?_
    refine Cd.as (e' := []) (L' := L) trivial rfl ?_
    refine Cd.region ?_
    refine Lst.run rfl rfl (by decide) (Ev.assign rfl) ?_
    refine Lst.nil ?_
    refine At.then ?_
    have H := hret2 _ (some_inj H).symm
    subst H
    replace H := HKl2
    obtain rfl := some_inj H
    refine Cd.ret ?_
    refine At.in_ret ?_
    refine At.then_ret ?_
    refine At.then_ret ?_
    refine At.in_ret ?_
    refine At.then_ret ?_
    exact At.ret1 rfl (Res.tmp rfl) hF4 (List.Sublist.refl _) ⟨rfl, rfl⟩
  replace H := ite_f hb11 H
  refine Cd.condF rfl hb11 ?_
  refine Cd.skip ?_
  refine At.in_normal ?_
  refine At.then ?_
  refine Cd.region ?_
  refine Lst.run rfl rfl (by decide) (Ev.incr (by omega) rfl rfl) ?_
  refine Lst.run rfl rfl (by decide) (Ev.move rfl) ?_
  refine Lst.nil ?_
  exact At.meet (i2 + 1, k2, ()) hF4 ⟨rfl, rfl, rfl, rfl, trivial⟩ rfl ⟨⟨hgo2 _ (some_inj H).symm, by omega⟩, Nat.lt_succ_self _⟩
set_option maxRecDepth 20000 in
theorem slices_Equal_api_Pair_api_Pair_sim {a0 : List Pair} {a1 : List Pair} {s_a0 : Sl} {s_a1 : Sl} {r : Bool} (H : slices_Equal_api_Pair_api_Pair a0 a1 = some r) (w0 : World) (F : Frz) (M L : List Item) (hM : M.Sublist L) (hs_a0 : Rd w0 F M s_a0 a0) (hs_a1 : Rd w0 F M s_a1 a1) : Ok Try.prog w0 23 [Sl.v s_a0, Sl.v s_a1] F (L) (Is (.bool r) (L)) := by
  unfold slices_Equal_api_Pair_api_Pair at H
  refine Ok.enter (m := 2) (n := 26) Try.func23 rfl rfl rfl (by decide) ?_
  refine Cd.env (e' := [(0, Sl.v s_a0), (1, Sl.v s_a1)]) rfl ?_
  refine Cd.seq ?_
  refine Cd.region ?_
  refine Lst.run rfl rfl (by decide) (Ev.assign rfl) ?_
  refine Lst.nil ?_
  refine At.then ?_
  refine Cd.seq ?_
  refine Cd.seq ?_
  refine Cd.region ?_
  refine Lst.run rfl rfl (by decide) (Ev.move rfl) ?_
  refine Lst.run rfl rfl (by decide) (Ev.lenS (α := Pair) (xs := a0) (by decide) rfl rfl Try.runUnderlying22 (hs_a0.mono (FLe.refl _) hM)) ?_
  refine Lst.run rfl rfl (by decide) (Ev.move rfl) ?_
  refine Lst.run rfl rfl (by decide) (Ev.lenS (α := Pair) (xs := a1) (by decide) rfl rfl Try.runUnderlying22 (hs_a1.mono (FLe.refl _) hM)) ?_
  refine Lst.run rfl rfl (by decide) (Ev.neq rfl rfl) ?_
  refine Lst.nil ?_
  refine At.then ?_
  rcases Bool.eq_false_or_eq_true ((a0.length : Int) != (a1.length : Int)) with hb1 | hb1
  · replace H := ite_t hb1 H
    refine Cd.condT rfl hb1 ?_
    refine Cd.seq ?_
    refine Cd.region ?_
    refine Lst.run rfl rfl (by decide) (Ev.assign rfl) ?_
    refine Lst.nil ?_
    refine At.then ?_
    obtain rfl := some_inj H
    refine Cd.ret ?_
    refine At.then_ret ?_
    exact At.ret1 rfl (Res.tmp rfl) (FLe.refl _) (List.Sublist.refl _) ⟨rfl, rfl⟩
  replace H := ite_f hb1 H
  refine Cd.condF rfl hb1 ?_
  refine Cd.skip ?_
  refine At.then ?_
  refine Cd.seq ?_
  refine Cd.seq ?_
  refine Cd.region ?_
  refine Lst.run rfl rfl (by decide) (Ev.move rfl) ?_
  refine Lst.run rfl rfl (by decide) (Ev.lenS (α := Pair) (xs := a0) (by decide) rfl rfl Try.runUnderlying22 (hs_a0.mono (FLe.refl _) hM)) ?_
  refine Lst.run rfl rfl (by decide) (Ev.move rfl) ?_
  refine Lst.nil ?_
  refine At.then ?_
  refine Cd.block ?_
  refine Cd.bound (Rd.le (α := Pair) (xs := a0) (by decide) (hs_a0.mono (FLe.refl _) hM)) (fun hN12 => ?_)
  obtain ⟨ol2, H, HKl2⟩ := andThen_some H
  refine Cd.loop (σ := Nat × Nat × Unit) (fun (i2, k2, _u) => [(0, Sl.v s_a0), (1, Sl.v s_a1), (12, .int .i64 (a0.length : Int)), (13, .int .i64 (i2 : Int))]) (fun (i2, k2, _u) => L) (fun _ => (fun (i2, k2, _u) => rangeM (slices_Equal_api_Pair_api_Pair_B0 a0 a1) k2 i2 () = some ol2 ∧ i2 + k2 = a0.length)) (fun (i2, k2, _u) => k2) (0, a0.length, ()) ⟨rfl, rfl, rfl, rfl, trivial⟩ rfl ⟨H, by omega⟩ ?_
  rintro F3 ⟨i2, k2, _u⟩ hF4 ⟨H, hik2⟩
  refine Cd.as (e' := [(0, Sl.v s_a0), (1, Sl.v s_a1), (12, .int .i64 (a0.length : Int)), (13, .int .i64 (i2 : Int))]) (L' := L) ⟨rfl, rfl, rfl, rfl, trivial⟩ rfl ?_
  rcases k2 with _ | k2
  · have hc2 : decide ((i2 : Int) < (a0.length : Int)) = false := decide_eq_false (by omega)
    replace H := rangeM_end H
    refine Cd.seq ?_
    refine Cd.region ?_
    refine Lst.run rfl rfl (by decide) (Ev.lss rfl rfl) ?_
    refine Lst.nil ?_
    refine At.then ?_
    refine Cd.seq ?_
    refine Cd.condF rfl hc2 ?_
    refine Cd.exit ?_
    refine At.then_exit ?_
    refine At.then_exit ?_
    refine At.in_exit ?_
    subst H
    replace H := HKl2
    refine At.then ?_
    refine Cd.seq ?_
    refine Cd.region ?_
    refine Lst.run rfl rfl (by decide) (Ev.assign rfl) ?_
    refine Lst.nil ?_
    refine At.then ?_
    obtain rfl := some_inj H
    refine Cd.ret ?_
    exact At.ret1 rfl (Res.tmp rfl) hF4 (List.Sublist.refl _) ⟨rfl, rfl⟩
  have hc2 : decide ((i2 : Int) < (a0.length : Int)) = true := decide_eq_true (by omega)
  obtain ⟨c2, H, hgo2, hbrk2, hret2⟩ := rangeM_go H
  unfold slices_Equal_api_Pair_api_Pair_B0 at H
  try dsimp only at H
  refine Cd.seq ?_
  refine Cd.region ?_
  refine Lst.run rfl rfl (by decide) (Ev.lss rfl rfl) ?_
  refine Lst.nil ?_
  refine At.then ?_
  refine Cd.seq ?_
  refine Cd.condT rfl hc2 ?_
  refine Cd.skip ?_
  refine At.then ?_
  refine Cd.seq ?_
  refine Cd.block ?_
  refine Cd.seq ?_
  refine Cd.region ?_
  refine Lst.run rfl rfl (by decide) (Ev.move rfl) ?_
  refine Lst.run rfl rfl (by decide) (Ev.assign rfl) ?_
  refine Lst.nil ?_
  refine At.then ?_
  refine Cd.seq ?_
  refine Cd.quiet (by kernel_rfl) (by kernel_rfl) ?_
  refine Qt.run rfl rfl (by decide) (Ev.move rfl) ?_
  refine Qt.run rfl rfl (by decide) (Ev.move rfl) ?_
  obtain ⟨x5, h6, H⟩ := bind_some H
  have g7 := lat_some h6
  refine Qt.run rfl rfl (by decide) (Ev.indexS (α := Pair) (xs := a0) rfl rfl Try.runUnderlying22 Try.sizeOf49 rfl (by decide) (hs_a0.mono hF4 hM) g7.1 g7.2.1) ?_
  refine Qt.run rfl rfl (by decide) (Ev.loadSA (α := Pair) rfl (hs_a0.mono hF4 hM) Try.isAgg49 Try.sizeOf49 (ch := enc x5) (Enc.len _) (by decide) ((Get.elemN (s := 2) (x := x5) rfl g7.2.2 (Get.here _)).off (by omega))) ?_
  refine Qt.run rfl rfl (by decide) (Ev.move rfl) ?_
  refine Qt.run rfl rfl (by decide) (Ev.move rfl) ?_
  obtain ⟨x8, h9, H⟩ := bind_some H
  have g10 := lat_some h9
  refine Qt.run rfl rfl (by decide) (Ev.indexS (α := Pair) (xs := a1) rfl rfl Try.runUnderlying22 Try.sizeOf49 rfl (by decide) (hs_a1.mono hF4 hM) g10.1 g10.2.1) ?_
  refine Qt.run rfl rfl (by decide) (Ev.loadSA (α := Pair) rfl (hs_a1.mono hF4 hM) Try.isAgg49 Try.sizeOf49 (ch := enc x8) (Enc.len _) (by decide) ((Get.elemN (s := 2) (x := x8) rfl g10.2.2 (Get.here _)).off (by omega))) ?_
  refine Qt.run rfl rfl (by decide) (Ev.neqA rfl rfl (by kernel_rfl) (eq49 _ _)) ?_
  refine Qt.done ?_
  refine At.then ?_
  rcases Bool.eq_false_or_eq_true (!(decide (x5 = x8))) with hb11 | hb11
  · replace H := ite_t hb11 H
    refine Cd.condT rfl hb11 ?_
    refine Cd.seq ?_
    refine Cd.as (e' := []) (L' := L) trivial rfl ?_
    refine Cd.region ?_
    refine Lst.run rfl rfl (by decide) (Ev.assign rfl) ?_
    refine Lst.nil ?_
    refine At.then ?_
    have H := hret2 _ (some_inj H).symm
    subst H
    replace H := HKl2
    obtain rfl := some_inj H
    refine Cd.ret ?_
    refine At.in_ret ?_
    refine At.then_ret ?_
    refine At.then_ret ?_
    refine At.in_ret ?_
    refine At.then_ret ?_
    exact At.ret1 rfl (Res.tmp rfl) hF4 (List.Sublist.refl _) ⟨rfl, rfl⟩
  replace H := ite_f hb11 H
  refine Cd.condF rfl hb11 ?_
  refine Cd.skip ?_
  refine At.in_normal ?_
  refine At.then ?_
  refine Cd.region ?_
  refine Lst.run rfl rfl (by decide) (Ev.incr (by omega) rfl rfl) ?_
  refine Lst.run rfl rfl (by decide) (Ev.move rfl) ?_
  refine Lst.nil ?_
  exact At.meet (i2 + 1, k2, ()) hF4 ⟨rfl, rfl, rfl, rfl, trivial⟩ rfl ⟨⟨hgo2 _ (some_inj H).symm, by omega⟩, Nat.lt_succ_self _⟩
set_option maxRecDepth 20000 in
theorem partlaw_LatSays_sim {fu : Nat} {a0 : List (BitVec 16)} {a1 : Int} {a2 : Int} {s_a0 : Sl} {r : Bool} (H : partlaw_LatSays fu a0 a1 a2 = some r) (w0 : World) (F : Frz) (M L : List Item) (hM : M.Sublist L) (hs_a0 : Rd w0 F M s_a0 a0) : Ok Try.prog w0 5 [Sl.v s_a0, .int .i64 a1, .int .i64 a2] F (L) (Is (.bool r) (L)) := by
  unfold partlaw_LatSays at H
  refine Ok.enter (m := 3) (n := 194) Try.func5 rfl rfl rfl (by decide) ?_
  refine Cd.env (e' := [(0, Sl.v s_a0), (1, .int .i64 a1), (2, .int .i64 a2)]) rfl ?_
  refine Cd.seq ?_
  refine Cd.region ?_
  refine Lst.run rfl rfl (by decide) (Ev.assign rfl) ?_
  refine Lst.nil ?_
  refine At.then ?_
  refine Cd.seq ?_
  refine Cd.region ?_
  refine Lst.run rfl rfl (by decide) (Ev.move rfl) ?_
  obtain ⟨r1, h2, H⟩ := bind_some H
  refine Lst.call1 rfl rfl (by decide) (vs := [Sl.v s_a0]) ⟨rfl, trivial⟩ Try.call17 (partref_SetsErr_sim h2 w0 _ M _ hM (hs_a0.mono (FLe.refl _) (List.Sublist.refl _))) ?_
  refine Lst.run rfl rfl (by decide) (Ev.assign rfl) ?_
  refine Lst.nil ?_
  refine At.then ?_
  refine Cd.seq ?_
  refine Cd.region ?_
  refine Lst.run rfl rfl (by decide) (Ev.move rfl) ?_
  obtain ⟨r5, h6, H⟩ := bind_some H
  refine Lst.call rfl rfl (by decide) (vs := [Sl.v s_a0]) ⟨rfl, trivial⟩ Try.call18 (lat_Firm_sim h6 w0 _ M _ hM (hs_a0.mono (FLe.refl _) (List.Sublist.refl _))) (fun F9 L' v hF10 hv => ?_)
  obtain ⟨s7, rfl, rfl⟩ := hv
  refine Lst.run rfl rfl (by decide) (Ev.move rfl) ?_
  refine Lst.run rfl rfl (by decide) (Ev.extract rfl rfl) ?_
  refine Lst.run rfl rfl (by decide) (Ev.extract rfl rfl) ?_
  refine Lst.run rfl rfl (by decide) (Ev.assign rfl) ?_
  refine Lst.run rfl rfl (by decide) (Ev.assign rfl) ?_
  refine Lst.nil ?_
  refine At.then ?_
  refine Cd.seq ?_
  refine Cd.region ?_
  refine Lst.run rfl rfl (by decide) (Ev.move rfl) ?_
  obtain ⟨r11, h12, H⟩ := bind_some H
  refine Lst.call rfl rfl (by decide) (vs := [Sl.v s_a0]) ⟨rfl, trivial⟩ Try.call19 (lat_Back_sim h12 w0 _ M _ (List.Sublist.cons _ hM) (hs_a0.mono hF10 (List.Sublist.refl _))) (fun F15 L' v hF16 hv => ?_)
  obtain ⟨s13, rfl, rfl⟩ := hv
  refine Lst.run rfl rfl (by decide) (Ev.move rfl) ?_
  refine Lst.run rfl rfl (by decide) (Ev.extract rfl rfl) ?_
  refine Lst.run rfl rfl (by decide) (Ev.extract rfl rfl) ?_
  refine Lst.addNil 49 2 ?_
  refine Lst.alloc (cs := enc (PosetR.mk ({ Poset.zero with Pairs := ([] : List Pair) } : Poset) Sl.nil)) rfl rfl (by decide) Try.zeroValue24 rfl (fun b18 => ?_)
  refine Lst.store (i := 0) rfl rfl rfl rfl rfl Try.sizeOf24 (vs := enc (PosetR.mk r11.1 s13)) rfl (Enc.len _) (Enc.one _) (cs' := enc (PosetR.mk r11.1 s13)) (Put.here ((Enc.len _).trans (Enc.len _).symm)) (L' := (.blk b18 (enc (PosetR.mk r11.1 s13)) 24) :: (.own Sl.nil 49 2 (encs ([] : List Pair))) :: (.own s13 49 2 (encs r11.1.Pairs)) :: (.own s7 31 1 (encs r5.1)) :: L) rfl ?_
  refine Lst.run rfl rfl (by decide) (Ev.assign rfl) ?_
  refine Lst.nil ?_
  refine At.then ?_
  refine Cd.seq ?_
  refine Cd.region ?_
  refine Lst.run rfl rfl (by decide) (Ev.move rfl) ?_
  refine Lst.run rfl rfl (by decide) (Ev.move rfl) ?_
  refine Lst.run rfl rfl (by decide) (Ev.move rfl) ?_
  obtain ⟨r20, h21, H⟩ := bind_some H
  refine Lst.call1 rfl rfl (by decide) (vs := [Sl.v s_a0, .int .i64 a1, .int .i64 a2]) ⟨rfl, rfl, rfl, trivial⟩ Try.call20 (lat_Both_sim h21 w0 _ M _ (List.Sublist.cons _ (List.Sublist.cons _ (List.Sublist.cons _ (List.Sublist.cons _ hM)))) (hs_a0.mono (FLe.trans hF10 hF16) (List.Sublist.refl _))) ?_
  refine Lst.run rfl rfl (by decide) (Ev.move rfl) ?_
  refine Lst.run rfl rfl (by decide) (Ev.extract rfl rfl) ?_
  refine Lst.run rfl rfl (by decide) (Ev.extract rfl rfl) ?_
  refine Lst.run rfl rfl (by decide) (Ev.extract rfl rfl) ?_
  refine Lst.run rfl rfl (by decide) (Ev.assign rfl) ?_
  refine Lst.run rfl rfl (by decide) (Ev.assign rfl) ?_
  refine Lst.run rfl rfl (by decide) (Ev.assign rfl) ?_
  refine Lst.nil ?_
  refine At.then ?_
  refine Cd.seq ?_
  refine Cd.seq ?_
  refine Cd.as (e' := [(0, Sl.v s_a0), (1, .int .i64 a1), (2, .int .i64 a2), (7, .int .i64 r1), (8, Sl.v s7), (9, .int .i64 r5.2), (10, .pointer (some ⟨b18, 0, none⟩)), (11, .int .i64 r11.2), (12, .int .u16 r20.1.toNat), (13, .int .u16 r20.2.1.toNat), (14, .int .i64 r20.2.2)]) (L' := (.blk b18 (enc (PosetR.mk r11.1 s13)) 24) :: (.own Sl.nil 49 2 (encs ([] : List Pair))) :: (.own s13 49 2 (encs r11.1.Pairs)) :: (.own s7 31 1 (encs r5.1)) :: L) ⟨rfl, rfl, rfl, rfl, rfl, rfl, rfl, rfl, rfl, rfl, rfl, trivial⟩ rfl ?_
  refine Cd.region ?_
  refine Lst.run rfl rfl (by decide) (Ev.move rfl) ?_
  obtain ⟨r24, h25, H⟩ := bind_some H
  refine Lst.call1 rfl rfl (by decide) (vs := [Sl.v s_a0]) ⟨rfl, trivial⟩ Try.call21 (lat_Check_sim h25 w0 _ M _ (List.Sublist.cons _ (List.Sublist.cons _ (List.Sublist.cons _ (List.Sublist.cons _ hM)))) (hs_a0.mono (FLe.trans hF10 hF16) (List.Sublist.refl _))) ?_
  refine Lst.run rfl rfl (by decide) (Ev.move rfl) ?_
  refine Lst.run rfl rfl (by decide) (Ev.neq rfl rfl) ?_
  refine Lst.nil ?_
  refine At.then ?_
  rcases Bool.eq_false_or_eq_true (r24 != r1) with hb28 | hb28
  · replace H := ite_t hb28 H
    refine Cd.condT rfl hb28 ?_
    refine Cd.seq ?_
    refine Cd.as (e' := []) (L' := (.blk b18 (enc (PosetR.mk r11.1 s13)) 24) :: (.own Sl.nil 49 2 (encs ([] : List Pair))) :: (.own s13 49 2 (encs r11.1.Pairs)) :: (.own s7 31 1 (encs r5.1)) :: L) trivial rfl ?_
    refine Cd.region ?_
    refine Lst.run rfl rfl (by decide) (Ev.assign rfl) ?_
    refine Lst.nil ?_
    refine At.then ?_
    obtain rfl := some_inj H
    refine Cd.ret ?_
    refine At.then_ret ?_
    exact At.ret1 rfl (Res.tmp rfl) (FLe.trans hF10 hF16) (List.Sublist.cons _ (List.Sublist.cons _ (List.Sublist.cons _ (List.Sublist.cons _ (List.Sublist.refl _))))) ⟨rfl, rfl⟩
  replace H := ite_f hb28 H
  refine Cd.condF rfl hb28 ?_
  refine Cd.skip ?_
  refine At.then ?_
  refine Cd.seq ?_
  refine Cd.seq ?_
  refine Cd.region ?_
  refine Lst.run rfl rfl (by decide) (Ev.move rfl) ?_
  refine Lst.run rfl rfl (by decide) (Ev.neq rfl rfl) ?_
  refine Lst.nil ?_
  refine At.then ?_
  rcases Bool.eq_false_or_eq_true (r1 != (0 : Int)) with hb29 | hb29
  · replace H := ite_t hb29 H
    refine Cd.condT rfl hb29 ?_
    refine Cd.seq ?_
    refine Cd.region ?_
    refine Lst.run rfl rfl (by decide) (Ev.move rfl) ?_
    refine Lst.run rfl rfl (by decide) (Ev.lenS (α := BitVec 16) (xs := r5.1) (by decide) rfl rfl Try.runUnderlying27 (Rd.own (i := 3) rfl rfl rfl)) ?_
    refine Lst.run rfl rfl (by decide) (Ev.eql rfl rfl) ?_
    refine Lst.run rfl rfl (by decide) (Ev.move rfl) ?_
    obtain ⟨o30, H, HKo30⟩ := bind_some H
    refine Lst.join (σ := Bool) 4 (fun y31 => [(7, .int .i64 r1), (10, .pointer (some ⟨b18, 0, none⟩)), (11, .int .i64 r11.2), (12, .int .u16 r20.1.toNat), (13, .int .u16 r20.2.1.toNat), (14, .int .i64 r20.2.2), (54, .bool y31)]) (fun y31 => (.blk b18 (enc (PosetR.mk r11.1 s13)) 24) :: (.own Sl.nil 49 2 (encs ([] : List Pair))) :: (.own s13 49 2 (encs r11.1.Pairs)) :: (.own s7 31 1 (encs r5.1)) :: L) (fun _ y31 => y31 = o30) ?_ ?_
    · rcases (Bool.eq_false_or_eq_true ((r5.1.length : Int) == (0 : Int))).symm with hb32 | hb32
      · replace H := ite_f hb32 H
        refine Lst.skip rfl rfl rfl hb32 rfl (by decide) ?_
        refine Lst.skip rfl rfl rfl hb32 rfl (by decide) ?_
        refine Lst.skip rfl rfl rfl hb32 rfl (by decide) ?_
        refine Lst.run rfl rfl (by decide) (Ev.pickF rfl hb32 rfl) ?_
        refine Lst.nil ?_
        exact At.meet false (FLe.refl _) ⟨rfl, rfl, rfl, rfl, rfl, rfl, rfl, trivial⟩ rfl (some_inj H)
      replace H := ite_t hb32 H
      refine Lst.runG rfl rfl rfl hb32 rfl (by decide) (Ev.move rfl) ?_
      refine Lst.runG rfl rfl rfl hb32 rfl (by decide) (Ev.move rfl) ?_
      refine Lst.runG rfl rfl rfl hb32 rfl (by decide) (Ev.eql rfl rfl) ?_
      refine Lst.run rfl rfl (by decide) (Ev.pickT rfl hb32 rfl) ?_
      refine Lst.nil ?_
      exact At.meet (r5.2 == r1) (FLe.refl _) ⟨rfl, rfl, rfl, rfl, rfl, rfl, rfl, trivial⟩ rfl (some_inj H)
    rintro F33 y31 hF34 hy
    subst hy
    refine Lst.as (e' := [(7, .int .i64 r1), (10, .pointer (some ⟨b18, 0, none⟩)), (11, .int .i64 r11.2), (12, .int .u16 r20.1.toNat), (13, .int .u16 r20.2.1.toNat), (14, .int .i64 r20.2.2), (54, .bool y31)]) (L' := (.blk b18 (enc (PosetR.mk r11.1 s13)) 24) :: (.own Sl.nil 49 2 (encs ([] : List Pair))) :: (.own s13 49 2 (encs r11.1.Pairs)) :: (.own s7 31 1 (encs r5.1)) :: L) ⟨rfl, rfl, rfl, rfl, rfl, rfl, rfl, trivial⟩ rfl ?_
    replace H := HKo30
    refine Lst.run rfl rfl (by decide) (Ev.move rfl) ?_
    obtain ⟨o35, H, HKo35⟩ := bind_some H
    refine Lst.join (σ := Bool) 4 (fun y36 => [(7, .int .i64 r1), (10, .pointer (some ⟨b18, 0, none⟩)), (11, .int .i64 r11.2), (12, .int .u16 r20.1.toNat), (13, .int .u16 r20.2.1.toNat), (14, .int .i64 r20.2.2), (59, .bool y36)]) (fun y36 => (.blk b18 (enc (PosetR.mk r11.1 s13)) 24) :: (.own Sl.nil 49 2 (encs ([] : List Pair))) :: (.own s13 49 2 (encs r11.1.Pairs)) :: (.own s7 31 1 (encs r5.1)) :: L) (fun _ y36 => y36 = o35) ?_ ?_
    · rcases (Bool.eq_false_or_eq_true y31).symm with hb37 | hb37
      · replace H := ite_f hb37 H
        refine Lst.skip rfl rfl rfl hb37 rfl (by decide) ?_
        refine Lst.skip rfl rfl rfl hb37 rfl (by decide) ?_
        refine Lst.skip rfl rfl rfl hb37 rfl (by decide) ?_
        refine Lst.run rfl rfl (by decide) (Ev.pickF rfl hb37 rfl) ?_
        refine Lst.nil ?_
        exact At.meet false (FLe.refl _) ⟨rfl, rfl, rfl, rfl, rfl, rfl, rfl, trivial⟩ rfl (some_inj H)
      replace H := ite_t hb37 H
      refine Lst.runG rfl rfl rfl hb37 rfl (by decide) (Ev.fieldAddr (off' := 0) rfl Try.runUnderlying24 rfl Try.sizeOf3 rfl rfl) ?_
      refine Lst.runG rfl rfl rfl hb37 rfl (by decide) (Ev.load (i := 0) rfl rfl Try.isAgg3 (v := .int .i64 r11.1.N) ((PosetR.get_N (Get.here _)).off (by rfl))) ?_
      refine Lst.runG rfl rfl rfl hb37 rfl (by decide) (Ev.eql rfl rfl) ?_
      refine Lst.run rfl rfl (by decide) (Ev.pickT rfl hb37 rfl) ?_
      refine Lst.nil ?_
      exact At.meet (r11.1.N == (0 : Int)) (FLe.refl _) ⟨rfl, rfl, rfl, rfl, rfl, rfl, rfl, trivial⟩ rfl (some_inj H)
    rintro F38 y36 hF39 hy
    subst hy
    refine Lst.as (e' := [(7, .int .i64 r1), (10, .pointer (some ⟨b18, 0, none⟩)), (11, .int .i64 r11.2), (12, .int .u16 r20.1.toNat), (13, .int .u16 r20.2.1.toNat), (14, .int .i64 r20.2.2), (59, .bool y36)]) (L' := (.blk b18 (enc (PosetR.mk r11.1 s13)) 24) :: (.own Sl.nil 49 2 (encs ([] : List Pair))) :: (.own s13 49 2 (encs r11.1.Pairs)) :: (.own s7 31 1 (encs r5.1)) :: L) ⟨rfl, rfl, rfl, rfl, rfl, rfl, rfl, trivial⟩ rfl ?_
    replace H := HKo35
    refine Lst.run rfl rfl (by decide) (Ev.move rfl) ?_
    obtain ⟨o40, H, HKo40⟩ := bind_some H
    refine Lst.join (σ := Bool) 5 (fun y41 => [(7, .int .i64 r1), (11, .int .i64 r11.2), (12, .int .u16 r20.1.toNat), (13, .int .u16 r20.2.1.toNat), (14, .int .i64 r20.2.2), (65, .bool y41)]) (fun y41 => (.blk b18 (enc (PosetR.mk r11.1 s13)) 24) :: (.own Sl.nil 49 2 (encs ([] : List Pair))) :: (.own s13 49 2 (encs r11.1.Pairs)) :: (.own s7 31 1 (encs r5.1)) :: L) (fun _ y41 => y41 = o40) ?_ ?_
    · rcases (Bool.eq_false_or_eq_true y36).symm with hb42 | hb42
      · replace H := ite_f hb42 H
        refine Lst.skip rfl rfl rfl hb42 rfl (by decide) ?_
        refine Lst.skip rfl rfl rfl hb42 rfl (by decide) ?_
        refine Lst.skip rfl rfl rfl hb42 rfl (by decide) ?_
        refine Lst.skip rfl rfl rfl hb42 rfl (by decide) ?_
        refine Lst.run rfl rfl (by decide) (Ev.pickF rfl hb42 rfl) ?_
        refine Lst.nil ?_
        exact At.meet false (FLe.refl _) ⟨rfl, rfl, rfl, rfl, rfl, rfl, trivial⟩ rfl (some_inj H)
      replace H := ite_t hb42 H
      refine Lst.runG rfl rfl rfl hb42 rfl (by decide) (Ev.fieldAddr (off' := 1) rfl Try.runUnderlying24 rfl Try.sizeOf22 rfl rfl) ?_
      refine Lst.runG rfl rfl rfl hb42 rfl (by decide) (Ev.load (i := 0) rfl rfl Try.isAgg22 (v := Sl.v s13) ((PosetR.get_Pairs (Get.here _)).off (by rfl))) ?_
      refine Lst.runG rfl rfl rfl hb42 rfl (by decide) (Ev.lenS (α := Pair) (xs := r11.1.Pairs) (by decide) rfl rfl Try.runUnderlying22 (Rd.own (i := 2) rfl rfl rfl)) ?_
      refine Lst.runG rfl rfl rfl hb42 rfl (by decide) (Ev.eql rfl rfl) ?_
      refine Lst.run rfl rfl (by decide) (Ev.pickT rfl hb42 rfl) ?_
      refine Lst.nil ?_
      exact At.meet ((r11.1.Pairs.length : Int) == (0 : Int)) (FLe.refl _) ⟨rfl, rfl, rfl, rfl, rfl, rfl, trivial⟩ rfl (some_inj H)
    rintro F43 y41 hF44 hy
    subst hy
    refine Lst.as (e' := [(7, .int .i64 r1), (11, .int .i64 r11.2), (12, .int .u16 r20.1.toNat), (13, .int .u16 r20.2.1.toNat), (14, .int .i64 r20.2.2), (65, .bool y41)]) (L' := (.blk b18 (enc (PosetR.mk r11.1 s13)) 24) :: (.own Sl.nil 49 2 (encs ([] : List Pair))) :: (.own s13 49 2 (encs r11.1.Pairs)) :: (.own s7 31 1 (encs r5.1)) :: L) ⟨rfl, rfl, rfl, rfl, rfl, rfl, trivial⟩ rfl ?_
    replace H := HKo40
    refine Lst.run rfl rfl (by decide) (Ev.move rfl) ?_
    obtain ⟨o45, H, HKo45⟩ := bind_some H
    refine Lst.join (σ := Bool) 4 (fun y46 => [(7, .int .i64 r1), (12, .int .u16 r20.1.toNat), (13, .int .u16 r20.2.1.toNat), (14, .int .i64 r20.2.2), (70, .bool y46)]) (fun y46 => (.blk b18 (enc (PosetR.mk r11.1 s13)) 24) :: (.own Sl.nil 49 2 (encs ([] : List Pair))) :: (.own s13 49 2 (encs r11.1.Pairs)) :: (.own s7 31 1 (encs r5.1)) :: L) (fun _ y46 => y46 = o45) ?_ ?_
    · rcases (Bool.eq_false_or_eq_true y41).symm with hb47 | hb47
      · replace H := ite_f hb47 H
        refine Lst.skip rfl rfl rfl hb47 rfl (by decide) ?_
        refine Lst.skip rfl rfl rfl hb47 rfl (by decide) ?_
        refine Lst.skip rfl rfl rfl hb47 rfl (by decide) ?_
        refine Lst.run rfl rfl (by decide) (Ev.pickF rfl hb47 rfl) ?_
        refine Lst.nil ?_
        exact At.meet false (FLe.refl _) ⟨rfl, rfl, rfl, rfl, rfl, trivial⟩ rfl (some_inj H)
      replace H := ite_t hb47 H
      refine Lst.runG rfl rfl rfl hb47 rfl (by decide) (Ev.move rfl) ?_
      refine Lst.runG rfl rfl rfl hb47 rfl (by decide) (Ev.move rfl) ?_
      refine Lst.runG rfl rfl rfl hb47 rfl (by decide) (Ev.eql rfl rfl) ?_
      refine Lst.run rfl rfl (by decide) (Ev.pickT rfl hb47 rfl) ?_
      refine Lst.nil ?_
      exact At.meet (r11.2 == r1) (FLe.refl _) ⟨rfl, rfl, rfl, rfl, rfl, trivial⟩ rfl (some_inj H)
    rintro F48 y46 hF49 hy
    subst hy
    refine Lst.as (e' := [(7, .int .i64 r1), (12, .int .u16 r20.1.toNat), (13, .int .u16 r20.2.1.toNat), (14, .int .i64 r20.2.2), (70, .bool y46)]) (L' := (.blk b18 (enc (PosetR.mk r11.1 s13)) 24) :: (.own Sl.nil 49 2 (encs ([] : List Pair))) :: (.own s13 49 2 (encs r11.1.Pairs)) :: (.own s7 31 1 (encs r5.1)) :: L) ⟨rfl, rfl, rfl, rfl, rfl, trivial⟩ rfl ?_
    replace H := HKo45
    refine Lst.run rfl rfl (by decide) (Ev.move rfl) ?_
    obtain ⟨o50, H, HKo50⟩ := bind_some H
    refine Lst.join (σ := Bool) 3 (fun y51 => [(7, .int .i64 r1), (13, .int .u16 r20.2.1.toNat), (14, .int .i64 r20.2.2), (74, .bool y51)]) (fun y51 => (.blk b18 (enc (PosetR.mk r11.1 s13)) 24) :: (.own Sl.nil 49 2 (encs ([] : List Pair))) :: (.own s13 49 2 (encs r11.1.Pairs)) :: (.own s7 31 1 (encs r5.1)) :: L) (fun _ y51 => y51 = o50) ?_ ?_
    · rcases (Bool.eq_false_or_eq_true y46).symm with hb52 | hb52
      · replace H := ite_f hb52 H
        refine Lst.skip rfl rfl rfl hb52 rfl (by decide) ?_
        refine Lst.skip rfl rfl rfl hb52 rfl (by decide) ?_
        refine Lst.run rfl rfl (by decide) (Ev.pickF rfl hb52 rfl) ?_
        refine Lst.nil ?_
        exact At.meet false (FLe.refl _) ⟨rfl, rfl, rfl, rfl, trivial⟩ rfl (some_inj H)
      replace H := ite_t hb52 H
      refine Lst.runG rfl rfl rfl hb52 rfl (by decide) (Ev.move rfl) ?_
      refine Lst.runG rfl rfl rfl hb52 rfl (by decide) (Ev.eql rfl rfl) ?_
      refine Lst.run rfl rfl (by decide) (Ev.pickT rfl hb52 rfl) ?_
      refine Lst.nil ?_
      exact At.meet ((r20.1.toNat : Int) == ((0 : BitVec 16).toNat : Int)) (FLe.refl _) ⟨rfl, rfl, rfl, rfl, trivial⟩ rfl (some_inj H)
    rintro F53 y51 hF54 hy
    subst hy
    refine Lst.as (e' := [(7, .int .i64 r1), (13, .int .u16 r20.2.1.toNat), (14, .int .i64 r20.2.2), (74, .bool y51)]) (L' := (.blk b18 (enc (PosetR.mk r11.1 s13)) 24) :: (.own Sl.nil 49 2 (encs ([] : List Pair))) :: (.own s13 49 2 (encs r11.1.Pairs)) :: (.own s7 31 1 (encs r5.1)) :: L) ⟨rfl, rfl, rfl, rfl, trivial⟩ rfl ?_
    replace H := HKo50
    refine Lst.run rfl rfl (by decide) (Ev.move rfl) ?_
    obtain ⟨o55, H, HKo55⟩ := bind_some H
    refine Lst.join (σ := Bool) 3 (fun y56 => [(7, .int .i64 r1), (14, .int .i64 r20.2.2), (78, .bool y56)]) (fun y56 => (.blk b18 (enc (PosetR.mk r11.1 s13)) 24) :: (.own Sl.nil 49 2 (encs ([] : List Pair))) :: (.own s13 49 2 (encs r11.1.Pairs)) :: (.own s7 31 1 (encs r5.1)) :: L) (fun _ y56 => y56 = o55) ?_ ?_
    · rcases (Bool.eq_false_or_eq_true y51).symm with hb57 | hb57
      · replace H := ite_f hb57 H
        refine Lst.skip rfl rfl rfl hb57 rfl (by decide) ?_
        refine Lst.skip rfl rfl rfl hb57 rfl (by decide) ?_
        refine Lst.run rfl rfl (by decide) (Ev.pickF rfl hb57 rfl) ?_
        refine Lst.nil ?_
        exact At.meet false (FLe.refl _) ⟨rfl, rfl, rfl, trivial⟩ rfl (some_inj H)
      replace H := ite_t hb57 H
      refine Lst.runG rfl rfl rfl hb57 rfl (by decide) (Ev.move rfl) ?_
      refine Lst.runG rfl rfl rfl hb57 rfl (by decide) (Ev.eql rfl rfl) ?_
      refine Lst.run rfl rfl (by decide) (Ev.pickT rfl hb57 rfl) ?_
      refine Lst.nil ?_
      exact At.meet ((r20.2.1.toNat : Int) == ((0 : BitVec 16).toNat : Int)) (FLe.refl _) ⟨rfl, rfl, rfl, trivial⟩ rfl (some_inj H)
    rintro F58 y56 hF59 hy
    subst hy
    refine Lst.as (e' := [(7, .int .i64 r1), (14, .int .i64 r20.2.2), (78, .bool y56)]) (L' := (.blk b18 (enc (PosetR.mk r11.1 s13)) 24) :: (.own Sl.nil 49 2 (encs ([] : List Pair))) :: (.own s13 49 2 (encs r11.1.Pairs)) :: (.own s7 31 1 (encs r5.1)) :: L) ⟨rfl, rfl, rfl, trivial⟩ rfl ?_
    replace H := HKo55
    refine Lst.run rfl rfl (by decide) (Ev.move rfl) ?_
    obtain ⟨o60, H, HKo60⟩ := bind_some H
    refine Lst.join (σ := Bool) 4 (fun y61 => [(83, .bool y61)]) (fun y61 => (.blk b18 (enc (PosetR.mk r11.1 s13)) 24) :: (.own Sl.nil 49 2 (encs ([] : List Pair))) :: (.own s13 49 2 (encs r11.1.Pairs)) :: (.own s7 31 1 (encs r5.1)) :: L) (fun _ y61 => y61 = o60) ?_ ?_
    · rcases (Bool.eq_false_or_eq_true y56).symm with hb62 | hb62
      · replace H := ite_f hb62 H
        refine Lst.skip rfl rfl rfl hb62 rfl (by decide) ?_
        refine Lst.skip rfl rfl rfl hb62 rfl (by decide) ?_
        refine Lst.skip rfl rfl rfl hb62 rfl (by decide) ?_
        refine Lst.run rfl rfl (by decide) (Ev.pickF rfl hb62 rfl) ?_
        refine Lst.nil ?_
        exact At.meet false (FLe.refl _) ⟨rfl, trivial⟩ rfl (some_inj H)
      replace H := ite_t hb62 H
      refine Lst.runG rfl rfl rfl hb62 rfl (by decide) (Ev.move rfl) ?_
      refine Lst.runG rfl rfl rfl hb62 rfl (by decide) (Ev.move rfl) ?_
      refine Lst.runG rfl rfl rfl hb62 rfl (by decide) (Ev.eql rfl rfl) ?_
      refine Lst.run rfl rfl (by decide) (Ev.pickT rfl hb62 rfl) ?_
      refine Lst.nil ?_
      exact At.meet (r20.2.2 == r1) (FLe.refl _) ⟨rfl, trivial⟩ rfl (some_inj H)
    rintro F63 y61 hF64 hy
    subst hy
    refine Lst.as (e' := [(83, .bool y61)]) (L' := (.blk b18 (enc (PosetR.mk r11.1 s13)) 24) :: (.own Sl.nil 49 2 (encs ([] : List Pair))) :: (.own s13 49 2 (encs r11.1.Pairs)) :: (.own s7 31 1 (encs r5.1)) :: L) ⟨rfl, trivial⟩ rfl ?_
    replace H := HKo60
    refine Lst.run rfl rfl (by decide) (Ev.assign rfl) ?_
    refine Lst.nil ?_
    refine At.then ?_
    obtain rfl := some_inj H
    refine Cd.ret ?_
    refine At.then_ret ?_
    exact At.ret1 rfl (Res.tmp rfl) (FLe.trans (FLe.trans (FLe.trans (FLe.trans (FLe.trans (FLe.trans (FLe.trans (FLe.trans hF10 hF16) hF34) hF39) hF44) hF49) hF54) hF59) hF64) (List.Sublist.cons _ (List.Sublist.cons _ (List.Sublist.cons _ (List.Sublist.cons _ (List.Sublist.refl _))))) ⟨rfl, rfl⟩
  replace H := ite_f hb29 H
  refine Cd.condF rfl hb29 ?_
  refine Cd.skip ?_
  refine At.then ?_
  refine Cd.seq ?_
  refine Cd.region ?_
  refine Lst.run rfl rfl (by decide) (Ev.move rfl) ?_
  obtain ⟨r65, h66, H⟩ := bind_some H
  refine Lst.call rfl rfl (by decide) (vs := [Sl.v s_a0]) ⟨rfl, trivial⟩ Try.call22 (partref_Firm_sim h66 w0 _ M _ (List.Sublist.cons _ (List.Sublist.cons _ (List.Sublist.cons _ (List.Sublist.cons _ hM)))) (hs_a0.mono (FLe.trans hF10 hF16) (List.Sublist.refl _))) (fun F69 L' v hF70 hv => ?_)
  obtain ⟨s67, rfl, rfl⟩ := hv
  refine Lst.run rfl rfl (by decide) (Ev.assign rfl) ?_
  refine Lst.nil ?_
  refine At.then ?_
  refine Cd.seq ?_
  refine Cd.region ?_
  refine Lst.addNil 49 2 ?_
  refine Lst.run rfl rfl (by decide) (Ev.assign rfl) ?_
  refine Lst.nil ?_
  refine At.then ?_
  refine Cd.seq ?_
  refine Cd.seq ?_
  refine Cd.region ?_
  refine Lst.run rfl rfl (by decide) (Ev.move rfl) ?_
  refine Lst.run rfl rfl (by decide) (Ev.lenS (α := BitVec 16) (xs := r65) (by decide) rfl rfl Try.runUnderlying27 (Rd.own (i := 1) rfl rfl rfl)) ?_
  refine Lst.run rfl rfl (by decide) (Ev.move rfl) ?_
  refine Lst.nil ?_
  refine At.then ?_
  refine Cd.block ?_
  refine Cd.bound (Rd.le (α := BitVec 16) (xs := r65) (by decide) (Rd.own (i := 1) rfl rfl rfl)) (fun hN163 => ?_)
  obtain ⟨ol72, H, HKl72⟩ := bind_some H
  refine Cd.loop (σ := Nat × Nat × Sl × (List Pair)) (fun (i72, k72, s73, l74) => [(0, Sl.v s_a0), (1, .int .i64 a1), (2, .int .i64 a2), (8, Sl.v s7), (9, .int .i64 r5.2), (10, .pointer (some ⟨b18, 0, none⟩)), (11, .int .i64 r11.2), (12, .int .u16 r20.1.toNat), (13, .int .u16 r20.2.1.toNat), (14, .int .i64 r20.2.2), (15, Sl.v s67), (16, Sl.v s73), (86, Sl.v s67), (87, .int .i64 (r65.length : Int)), (88, .int .i64 (i72 : Int))]) (fun (i72, k72, s73, l74) => (.own s73 49 2 (encs l74)) :: (.own s67 31 1 (encs r65)) :: (.blk b18 (enc (PosetR.mk r11.1 s13)) 24) :: (.own Sl.nil 49 2 (encs ([] : List Pair))) :: (.own s13 49 2 (encs r11.1.Pairs)) :: (.own s7 31 1 (encs r5.1)) :: L) (fun _ => (fun (i72, k72, s73, l74) => rangeF (partlaw_LatSays_B0 r65) k72 i72 l74 = some ol72 ∧ i72 + k72 = r65.length)) (fun (i72, k72, s73, l74) => k72) (0, r65.length, Sl.nil, ([] : List Pair)) ⟨rfl, rfl, rfl, rfl, rfl, rfl, rfl, rfl, rfl, rfl, rfl, rfl, rfl, rfl, rfl, trivial⟩ rfl ⟨H, by omega⟩ ?_
  rintro F75 ⟨i72, k72, s73, l74⟩ hF76 ⟨H, hik72⟩
  refine Cd.as (e' := [(0, Sl.v s_a0), (1, .int .i64 a1), (2, .int .i64 a2), (8, Sl.v s7), (9, .int .i64 r5.2), (10, .pointer (some ⟨b18, 0, none⟩)), (11, .int .i64 r11.2), (12, .int .u16 r20.1.toNat), (13, .int .u16 r20.2.1.toNat), (14, .int .i64 r20.2.2), (15, Sl.v s67), (16, Sl.v s73), (86, Sl.v s67), (87, .int .i64 (r65.length : Int)), (88, .int .i64 (i72 : Int))]) (L' := (.own s73 49 2 (encs l74)) :: (.own s67 31 1 (encs r65)) :: (.blk b18 (enc (PosetR.mk r11.1 s13)) 24) :: (.own Sl.nil 49 2 (encs ([] : List Pair))) :: (.own s13 49 2 (encs r11.1.Pairs)) :: (.own s7 31 1 (encs r5.1)) :: L) ⟨rfl, rfl, rfl, rfl, rfl, rfl, rfl, rfl, rfl, rfl, rfl, rfl, rfl, rfl, rfl, trivial⟩ rfl ?_
  rcases k72 with _ | k72
  · have hc72 : decide ((i72 : Int) < (r65.length : Int)) = false := decide_eq_false (by omega)
    replace H := rangeF_end H
    refine Cd.seq ?_
    refine Cd.region ?_
    refine Lst.run rfl rfl (by decide) (Ev.lss rfl rfl) ?_
    refine Lst.nil ?_
    refine At.then ?_
    refine Cd.seq ?_
    refine Cd.condF rfl hc72 ?_
    refine Cd.exit ?_
    refine At.then_exit ?_
    refine At.then_exit ?_
    refine At.in_exit ?_
    subst H
    replace H := HKl72
    refine At.then ?_
    refine Cd.seq ?_
    refine Cd.seq ?_
    refine Cd.region ?_
    refine Lst.run rfl rfl (by decide) (Ev.move rfl) ?_
    refine Lst.run rfl rfl (by decide) (Ev.move rfl) ?_
    obtain ⟨r100, h101, H⟩ := bind_some H
    refine Lst.call1 rfl rfl (by decide) (vs := [Sl.v s7, Sl.v s67]) ⟨rfl, rfl, trivial⟩ Try.call11 (slices_Equal_uint16_uint16_sim h101 w0 _ _ _ (List.Sublist.refl _) (Rd.own (i := 5) rfl rfl rfl) (Rd.own (i := 1) rfl rfl rfl)) ?_
    refine Lst.run rfl rfl (by decide) (Ev.not rfl) ?_
    refine Lst.run rfl rfl (by decide) (Ev.move rfl) ?_
    obtain ⟨o104, H, HKo104⟩ := bind_some H
    refine Lst.join (σ := Bool) 3 (fun y105 => [(0, Sl.v s_a0), (1, .int .i64 a1), (2, .int .i64 a2), (10, .pointer (some ⟨b18, 0, none⟩)), (11, .int .i64 r11.2), (12, .int .u16 r20.1.toNat), (13, .int .u16 r20.2.1.toNat), (14, .int .i64 r20.2.2), (15, Sl.v s67), (16, Sl.v s73), (125, .bool y105)]) (fun y105 => (.own s73 49 2 (encs l74)) :: (.own s67 31 1 (encs r65)) :: (.blk b18 (enc (PosetR.mk r11.1 s13)) 24) :: (.own Sl.nil 49 2 (encs ([] : List Pair))) :: (.own s13 49 2 (encs r11.1.Pairs)) :: (.own s7 31 1 (encs r5.1)) :: L) (fun _ y105 => y105 = o104) ?_ ?_
    · rcases Bool.eq_false_or_eq_true (!r100) with hb106 | hb106
      · replace H := ite_t hb106 H
        refine Lst.skip rfl rfl rfl hb106 rfl (by decide) ?_
        refine Lst.skip rfl rfl rfl hb106 rfl (by decide) ?_
        refine Lst.run rfl rfl (by decide) (Ev.pickT rfl hb106 rfl) ?_
        refine Lst.nil ?_
        exact At.meet true (FLe.refl _) ⟨rfl, rfl, rfl, rfl, rfl, rfl, rfl, rfl, rfl, rfl, rfl, trivial⟩ rfl (some_inj H)
      replace H := ite_f hb106 H
      refine Lst.runG rfl rfl rfl hb106 rfl (by decide) (Ev.move rfl) ?_
      refine Lst.runG rfl rfl rfl hb106 rfl (by decide) (Ev.neq rfl rfl) ?_
      refine Lst.run rfl rfl (by decide) (Ev.pickF rfl hb106 rfl) ?_
      refine Lst.nil ?_
      exact At.meet (r5.2 != (0 : Int)) (FLe.refl _) ⟨rfl, rfl, rfl, rfl, rfl, rfl, rfl, rfl, rfl, rfl, rfl, trivial⟩ rfl (some_inj H)
    rintro F107 y105 hF108 hy
    subst hy
    refine Lst.as (e' := [(0, Sl.v s_a0), (1, .int .i64 a1), (2, .int .i64 a2), (10, .pointer (some ⟨b18, 0, none⟩)), (11, .int .i64 r11.2), (12, .int .u16 r20.1.toNat), (13, .int .u16 r20.2.1.toNat), (14, .int .i64 r20.2.2), (15, Sl.v s67), (16, Sl.v s73), (125, .bool y105)]) (L' := (.own s73 49 2 (encs l74)) :: (.own s67 31 1 (encs r65)) :: (.blk b18 (enc (PosetR.mk r11.1 s13)) 24) :: (.own Sl.nil 49 2 (encs ([] : List Pair))) :: (.own s13 49 2 (encs r11.1.Pairs)) :: (.own s7 31 1 (encs r5.1)) :: L) ⟨rfl, rfl, rfl, rfl, rfl, rfl, rfl, rfl, rfl, rfl, rfl, trivial⟩ rfl ?_
    replace H := HKo104
    refine Lst.run rfl rfl (by decide) (Ev.move rfl) ?_
    obtain ⟨o109, H, HKo109⟩ := bind_some H
    refine Lst.join (σ := Bool) 6 (fun y110 => [(0, Sl.v s_a0), (1, .int .i64 a1), (2, .int .i64 a2), (10, .pointer (some ⟨b18, 0, none⟩)), (11, .int .i64 r11.2), (12, .int .u16 r20.1.toNat), (13, .int .u16 r20.2.1.toNat), (14, .int .i64 r20.2.2), (16, Sl.v s73), (132, .bool y110)]) (fun y110 => (.own s73 49 2 (encs l74)) :: (.own s67 31 1 (encs r65)) :: (.blk b18 (enc (PosetR.mk r11.1 s13)) 24) :: (.own Sl.nil 49 2 (encs ([] : List Pair))) :: (.own s13 49 2 (encs r11.1.Pairs)) :: (.own s7 31 1 (encs r5.1)) :: L) (fun _ y110 => y110 = o109) ?_ ?_
    · rcases Bool.eq_false_or_eq_true y105 with hb111 | hb111
      · replace H := ite_t hb111 H
        refine Lst.skip rfl rfl rfl hb111 rfl (by decide) ?_
        refine Lst.skip rfl rfl rfl hb111 rfl (by decide) ?_
        refine Lst.skip rfl rfl rfl hb111 rfl (by decide) ?_
        refine Lst.skip rfl rfl rfl hb111 rfl (by decide) ?_
        refine Lst.skip rfl rfl rfl hb111 rfl (by decide) ?_
        refine Lst.run rfl rfl (by decide) (Ev.pickT rfl hb111 rfl) ?_
        refine Lst.nil ?_
        exact At.meet true (FLe.refl _) ⟨rfl, rfl, rfl, rfl, rfl, rfl, rfl, rfl, rfl, rfl, trivial⟩ rfl (some_inj H)
      replace H := ite_f hb111 H
      refine Lst.runG rfl rfl rfl hb111 rfl (by decide) (Ev.fieldAddr (off' := 0) rfl Try.runUnderlying24 rfl Try.sizeOf3 rfl rfl) ?_
      refine Lst.runG rfl rfl rfl hb111 rfl (by decide) (Ev.load (i := 2) rfl rfl Try.isAgg3 (v := .int .i64 r11.1.N) ((PosetR.get_N (Get.here _)).off (by rfl))) ?_
      refine Lst.runG rfl rfl rfl hb111 rfl (by decide) (Ev.move rfl) ?_
      refine Lst.runG rfl rfl rfl hb111 rfl (by decide) (Ev.lenS (α := BitVec 16) (xs := r65) (by decide) rfl rfl Try.runUnderlying27 (Rd.own (i := 1) rfl rfl rfl)) ?_
      refine Lst.runG rfl rfl rfl hb111 rfl (by decide) (Ev.neq rfl rfl) ?_
      refine Lst.run rfl rfl (by decide) (Ev.pickF rfl hb111 rfl) ?_
      refine Lst.nil ?_
      exact At.meet (r11.1.N != (r65.length : Int)) (FLe.refl _) ⟨rfl, rfl, rfl, rfl, rfl, rfl, rfl, rfl, rfl, rfl, trivial⟩ rfl (some_inj H)
    rintro F112 y110 hF113 hy
    subst hy
    refine Lst.as (e' := [(0, Sl.v s_a0), (1, .int .i64 a1), (2, .int .i64 a2), (10, .pointer (some ⟨b18, 0, none⟩)), (11, .int .i64 r11.2), (12, .int .u16 r20.1.toNat), (13, .int .u16 r20.2.1.toNat), (14, .int .i64 r20.2.2), (16, Sl.v s73), (132, .bool y110)]) (L' := (.own s73 49 2 (encs l74)) :: (.own s67 31 1 (encs r65)) :: (.blk b18 (enc (PosetR.mk r11.1 s13)) 24) :: (.own Sl.nil 49 2 (encs ([] : List Pair))) :: (.own s13 49 2 (encs r11.1.Pairs)) :: (.own s7 31 1 (encs r5.1)) :: L) ⟨rfl, rfl, rfl, rfl, rfl, rfl, rfl, rfl, rfl, rfl, trivial⟩ rfl ?_
    replace H := HKo109
    refine Lst.run rfl rfl (by decide) (Ev.move rfl) ?_
    obtain ⟨o114, H, HKo114⟩ := bind_some H
    refine Lst.join (σ := Bool) 6 (fun y115 => [(0, Sl.v s_a0), (1, .int .i64 a1), (2, .int .i64 a2), (11, .int .i64 r11.2), (12, .int .u16 r20.1.toNat), (13, .int .u16 r20.2.1.toNat), (14, .int .i64 r20.2.2), (139, .bool y115)]) (fun y115 => (.own s73 49 2 (encs l74)) :: (.own s67 31 1 (encs r65)) :: (.blk b18 (enc (PosetR.mk r11.1 s13)) 24) :: (.own Sl.nil 49 2 (encs ([] : List Pair))) :: (.own s13 49 2 (encs r11.1.Pairs)) :: (.own s7 31 1 (encs r5.1)) :: L) (fun _ y115 => y115 = o114) ?_ ?_
    · rcases Bool.eq_false_or_eq_true y110 with hb116 | hb116
      · replace H := ite_t hb116 H
        refine Lst.skip rfl rfl rfl hb116 rfl (by decide) ?_
        refine Lst.skip rfl rfl rfl hb116 rfl (by decide) ?_
        refine Lst.skip rfl rfl rfl hb116 rfl (by decide) ?_
        refine Lst.skip rfl rfl rfl hb116 rfl (by decide) ?_
        refine Lst.skip rfl rfl rfl hb116 rfl (by decide) ?_
        refine Lst.run rfl rfl (by decide) (Ev.pickT rfl hb116 rfl) ?_
        refine Lst.nil ?_
        exact At.meet true (FLe.refl _) ⟨rfl, rfl, rfl, rfl, rfl, rfl, rfl, rfl, trivial⟩ rfl (some_inj H)
      replace H := ite_f hb116 H
      refine Lst.runG rfl rfl rfl hb116 rfl (by decide) (Ev.fieldAddr (off' := 1) rfl Try.runUnderlying24 rfl Try.sizeOf22 rfl rfl) ?_
      refine Lst.runG rfl rfl rfl hb116 rfl (by decide) (Ev.load (i := 2) rfl rfl Try.isAgg22 (v := Sl.v s13) ((PosetR.get_Pairs (Get.here _)).off (by rfl))) ?_
      refine Lst.runG rfl rfl rfl hb116 rfl (by decide) (Ev.move rfl) ?_
      obtain ⟨r117, h118, H⟩ := bind_some H
      refine Lst.call1G rfl rfl rfl hb116 rfl (by decide) (vs := [Sl.v s13, Sl.v s73]) ⟨rfl, rfl, trivial⟩ Try.call23 (slices_Equal_api_Pair_api_Pair_sim h118 w0 _ _ _ (List.Sublist.refl _) (Rd.own (i := 4) rfl rfl rfl) (Rd.own (i := 0) rfl rfl rfl)) ?_
      refine Lst.runG rfl rfl rfl hb116 rfl (by decide) (Ev.not rfl) ?_
      refine Lst.run rfl rfl (by decide) (Ev.pickF rfl hb116 rfl) ?_
      refine Lst.nil ?_
      exact At.meet (!r117) (FLe.refl _) ⟨rfl, rfl, rfl, rfl, rfl, rfl, rfl, rfl, trivial⟩ rfl (some_inj H)
    rintro F121 y115 hF122 hy
    subst hy
    refine Lst.as (e' := [(0, Sl.v s_a0), (1, .int .i64 a1), (2, .int .i64 a2), (11, .int .i64 r11.2), (12, .int .u16 r20.1.toNat), (13, .int .u16 r20.2.1.toNat), (14, .int .i64 r20.2.2), (139, .bool y115)]) (L' := (.own s73 49 2 (encs l74)) :: (.own s67 31 1 (encs r65)) :: (.blk b18 (enc (PosetR.mk r11.1 s13)) 24) :: (.own Sl.nil 49 2 (encs ([] : List Pair))) :: (.own s13 49 2 (encs r11.1.Pairs)) :: (.own s7 31 1 (encs r5.1)) :: L) ⟨rfl, rfl, rfl, rfl, rfl, rfl, rfl, rfl, trivial⟩ rfl ?_
    replace H := HKo114
    refine Lst.run rfl rfl (by decide) (Ev.move rfl) ?_
    obtain ⟨o123, H, HKo123⟩ := bind_some H
    refine Lst.join (σ := Bool) 3 (fun y124 => [(0, Sl.v s_a0), (1, .int .i64 a1), (2, .int .i64 a2), (12, .int .u16 r20.1.toNat), (13, .int .u16 r20.2.1.toNat), (14, .int .i64 r20.2.2), (143, .bool y124)]) (fun y124 => (.own s73 49 2 (encs l74)) :: (.own s67 31 1 (encs r65)) :: (.blk b18 (enc (PosetR.mk r11.1 s13)) 24) :: (.own Sl.nil 49 2 (encs ([] : List Pair))) :: (.own s13 49 2 (encs r11.1.Pairs)) :: (.own s7 31 1 (encs r5.1)) :: L) (fun _ y124 => y124 = o123) ?_ ?_
    · rcases Bool.eq_false_or_eq_true y115 with hb125 | hb125
      · replace H := ite_t hb125 H
        refine Lst.skip rfl rfl rfl hb125 rfl (by decide) ?_
        refine Lst.skip rfl rfl rfl hb125 rfl (by decide) ?_
        refine Lst.run rfl rfl (by decide) (Ev.pickT rfl hb125 rfl) ?_
        refine Lst.nil ?_
        exact At.meet true (FLe.refl _) ⟨rfl, rfl, rfl, rfl, rfl, rfl, rfl, trivial⟩ rfl (some_inj H)
      replace H := ite_f hb125 H
      refine Lst.runG rfl rfl rfl hb125 rfl (by decide) (Ev.move rfl) ?_
      refine Lst.runG rfl rfl rfl hb125 rfl (by decide) (Ev.neq rfl rfl) ?_
      refine Lst.run rfl rfl (by decide) (Ev.pickF rfl hb125 rfl) ?_
      refine Lst.nil ?_
      exact At.meet (r11.2 != (0 : Int)) (FLe.refl _) ⟨rfl, rfl, rfl, rfl, rfl, rfl, rfl, trivial⟩ rfl (some_inj H)
    rintro F126 y124 hF127 hy
    subst hy
    refine Lst.as (e' := [(0, Sl.v s_a0), (1, .int .i64 a1), (2, .int .i64 a2), (12, .int .u16 r20.1.toNat), (13, .int .u16 r20.2.1.toNat), (14, .int .i64 r20.2.2), (143, .bool y124)]) (L' := (.own s73 49 2 (encs l74)) :: (.own s67 31 1 (encs r65)) :: (.blk b18 (enc (PosetR.mk r11.1 s13)) 24) :: (.own Sl.nil 49 2 (encs ([] : List Pair))) :: (.own s13 49 2 (encs r11.1.Pairs)) :: (.own s7 31 1 (encs r5.1)) :: L) ⟨rfl, rfl, rfl, rfl, rfl, rfl, rfl, trivial⟩ rfl ?_
    replace H := HKo123
    refine Lst.nil ?_
    refine At.then ?_
    rcases Bool.eq_false_or_eq_true y124 with hb128 | hb128
    · replace H := ite_t hb128 H
      refine Cd.condT rfl hb128 ?_
      refine Cd.seq ?_
      refine Cd.region ?_
      refine Lst.run rfl rfl (by decide) (Ev.assign rfl) ?_
      refine Lst.nil ?_
      refine At.then ?_
      obtain rfl := some_inj H
      refine Cd.ret ?_
      refine At.then_ret ?_
      exact At.ret1 rfl (Res.tmp rfl) (FLe.trans (FLe.trans (FLe.trans (FLe.trans (FLe.trans (FLe.trans (FLe.trans hF10 hF16) hF70) hF76) hF108) hF113) hF122) hF127) (List.Sublist.cons _ (List.Sublist.cons _ (List.Sublist.cons _ (List.Sublist.cons _ (List.Sublist.cons _ (List.Sublist.cons _ (List.Sublist.refl _))))))) ⟨rfl, rfl⟩
    replace H := ite_f hb128 H
    refine Cd.condF rfl hb128 ?_
    refine Cd.skip ?_
    refine At.then ?_
    refine Cd.seq ?_
    refine Cd.seq ?_
    refine Cd.region ?_
    refine Lst.run rfl rfl (by decide) (Ev.move rfl) ?_
    refine Lst.run rfl rfl (by decide) (Ev.move rfl) ?_
    refine Lst.run rfl rfl (by decide) (Ev.min2 rfl rfl) ?_
    refine Lst.run rfl rfl (by decide) (Ev.lss rfl rfl) ?_
    refine Lst.run rfl rfl (by decide) (Ev.move rfl) ?_
    obtain ⟨o129, H, HKo129⟩ := bind_some H
    refine Lst.join (σ := Bool) 7 (fun y130 => [(0, Sl.v s_a0), (1, .int .i64 a1), (2, .int .i64 a2), (12, .int .u16 r20.1.toNat), (13, .int .u16 r20.2.1.toNat), (14, .int .i64 r20.2.2), (155, .bool y130)]) (fun y130 => (.own s73 49 2 (encs l74)) :: (.own s67 31 1 (encs r65)) :: (.blk b18 (enc (PosetR.mk r11.1 s13)) 24) :: (.own Sl.nil 49 2 (encs ([] : List Pair))) :: (.own s13 49 2 (encs r11.1.Pairs)) :: (.own s7 31 1 (encs r5.1)) :: L) (fun _ y130 => y130 = o129) ?_ ?_
    · rcases Bool.eq_false_or_eq_true (decide ((min a1 a2) < (0 : Int))) with hb131 | hb131
      · replace H := ite_t hb131 H
        refine Lst.skip rfl rfl rfl hb131 rfl (by decide) ?_
        refine Lst.skip rfl rfl rfl hb131 rfl (by decide) ?_
        refine Lst.skip rfl rfl rfl hb131 rfl (by decide) ?_
        refine Lst.skip rfl rfl rfl hb131 rfl (by decide) ?_
        refine Lst.skip rfl rfl rfl hb131 rfl (by decide) ?_
        refine Lst.skip rfl rfl rfl hb131 rfl (by decide) ?_
        refine Lst.run rfl rfl (by decide) (Ev.pickT rfl hb131 rfl) ?_
        refine Lst.nil ?_
        exact At.meet true (FLe.refl _) ⟨rfl, rfl, rfl, rfl, rfl, rfl, rfl, trivial⟩ rfl (some_inj H)
      replace H := ite_f hb131 H
      refine Lst.runG rfl rfl rfl hb131 rfl (by decide) (Ev.move rfl) ?_
      refine Lst.runG rfl rfl rfl hb131 rfl (by decide) (Ev.move rfl) ?_
      refine Lst.runG rfl rfl rfl hb131 rfl (by decide) (Ev.max2 rfl rfl) ?_
      refine Lst.runG rfl rfl rfl hb131 rfl (by decide) (Ev.move rfl) ?_
      refine Lst.runG rfl rfl rfl hb131 rfl (by decide) (Ev.lenS (α := BitVec 16) (xs := a0) (by decide) rfl rfl Try.runUnderlying27 (hs_a0.mono (FLe.trans (FLe.trans (FLe.trans (FLe.trans (FLe.trans (FLe.trans (FLe.trans hF10 hF16) hF70) hF76) hF108) hF113) hF122) hF127) (List.Sublist.cons _ (List.Sublist.cons _ (List.Sublist.cons _ (List.Sublist.cons _ (List.Sublist.cons _ (List.Sublist.cons _ hM)))))))) ?_
      refine Lst.runG rfl rfl rfl hb131 rfl (by decide) (Ev.geq rfl rfl) ?_
      refine Lst.run rfl rfl (by decide) (Ev.pickF rfl hb131 rfl) ?_
      refine Lst.nil ?_
      exact At.meet (decide ((max a1 a2) ≥ (a0.length : Int))) (FLe.refl _) ⟨rfl, rfl, rfl, rfl, rfl, rfl, rfl, trivial⟩ rfl (some_inj H)
    rintro F132 y130 hF133 hy
    subst hy
    refine Lst.as (e' := [(0, Sl.v s_a0), (1, .int .i64 a1), (2, .int .i64 a2), (12, .int .u16 r20.1.toNat), (13, .int .u16 r20.2.1.toNat), (14, .int .i64 r20.2.2), (155, .bool y130)]) (L' := (.own s73 49 2 (encs l74)) :: (.own s67 31 1 (encs r65)) :: (.blk b18 (enc (PosetR.mk r11.1 s13)) 24) :: (.own Sl.nil 49 2 (encs ([] : List Pair))) :: (.own s13 49 2 (encs r11.1.Pairs)) :: (.own s7 31 1 (encs r5.1)) :: L) ⟨rfl, rfl, rfl, rfl, rfl, rfl, rfl, trivial⟩ rfl ?_
    replace H := HKo129
    refine Lst.nil ?_
    refine At.then ?_
    rcases Bool.eq_false_or_eq_true y130 with hb134 | hb134
    · replace H := ite_t hb134 H
      refine Cd.condT rfl hb134 ?_
      refine Cd.seq ?_
      refine Cd.region ?_
      refine Lst.run rfl rfl (by decide) (Ev.move rfl) ?_
      refine Lst.run rfl rfl (by decide) (Ev.eql rfl rfl) ?_
      refine Lst.run rfl rfl (by decide) (Ev.move rfl) ?_
      obtain ⟨o135, H, HKo135⟩ := bind_some H
      refine Lst.join (σ := Bool) 3 (fun y136 => [(14, .int .i64 r20.2.2), (161, .bool y136)]) (fun y136 => (.own s73 49 2 (encs l74)) :: (.own s67 31 1 (encs r65)) :: (.blk b18 (enc (PosetR.mk r11.1 s13)) 24) :: (.own Sl.nil 49 2 (encs ([] : List Pair))) :: (.own s13 49 2 (encs r11.1.Pairs)) :: (.own s7 31 1 (encs r5.1)) :: L) (fun _ y136 => y136 = o135) ?_ ?_
      · rcases (Bool.eq_false_or_eq_true ((r20.1.toNat : Int) == ((0 : BitVec 16).toNat : Int))).symm with hb137 | hb137
        · replace H := ite_f hb137 H
          refine Lst.skip rfl rfl rfl hb137 rfl (by decide) ?_
          refine Lst.skip rfl rfl rfl hb137 rfl (by decide) ?_
          refine Lst.run rfl rfl (by decide) (Ev.pickF rfl hb137 rfl) ?_
          refine Lst.nil ?_
          exact At.meet false (FLe.refl _) ⟨rfl, rfl, trivial⟩ rfl (some_inj H)
        replace H := ite_t hb137 H
        refine Lst.runG rfl rfl rfl hb137 rfl (by decide) (Ev.move rfl) ?_
        refine Lst.runG rfl rfl rfl hb137 rfl (by decide) (Ev.eql rfl rfl) ?_
        refine Lst.run rfl rfl (by decide) (Ev.pickT rfl hb137 rfl) ?_
        refine Lst.nil ?_
        exact At.meet ((r20.2.1.toNat : Int) == ((0 : BitVec 16).toNat : Int)) (FLe.refl _) ⟨rfl, rfl, trivial⟩ rfl (some_inj H)
      rintro F138 y136 hF139 hy
      subst hy
      refine Lst.as (e' := [(14, .int .i64 r20.2.2), (161, .bool y136)]) (L' := (.own s73 49 2 (encs l74)) :: (.own s67 31 1 (encs r65)) :: (.blk b18 (enc (PosetR.mk r11.1 s13)) 24) :: (.own Sl.nil 49 2 (encs ([] : List Pair))) :: (.own s13 49 2 (encs r11.1.Pairs)) :: (.own s7 31 1 (encs r5.1)) :: L) ⟨rfl, rfl, trivial⟩ rfl ?_
      replace H := HKo135
      refine Lst.run rfl rfl (by decide) (Ev.move rfl) ?_
      obtain ⟨o140, H, HKo140⟩ := bind_some H
      refine Lst.join (σ := Bool) 3 (fun y141 => [(165, .bool y141)]) (fun y141 => (.own s73 49 2 (encs l74)) :: (.own s67 31 1 (encs r65)) :: (.blk b18 (enc (PosetR.mk r11.1 s13)) 24) :: (.own Sl.nil 49 2 (encs ([] : List Pair))) :: (.own s13 49 2 (encs r11.1.Pairs)) :: (.own s7 31 1 (encs r5.1)) :: L) (fun _ y141 => y141 = o140) ?_ ?_
      · rcases (Bool.eq_false_or_eq_true y136).symm with hb142 | hb142
        · replace H := ite_f hb142 H
          refine Lst.skip rfl rfl rfl hb142 rfl (by decide) ?_
          refine Lst.skip rfl rfl rfl hb142 rfl (by decide) ?_
          refine Lst.run rfl rfl (by decide) (Ev.pickF rfl hb142 rfl) ?_
          refine Lst.nil ?_
          exact At.meet false (FLe.refl _) ⟨rfl, trivial⟩ rfl (some_inj H)
        replace H := ite_t hb142 H
        refine Lst.runG rfl rfl rfl hb142 rfl (by decide) (Ev.move rfl) ?_
        refine Lst.runG rfl rfl rfl hb142 rfl (by decide) (Ev.eql rfl rfl) ?_
        refine Lst.run rfl rfl (by decide) (Ev.pickT rfl hb142 rfl) ?_
        refine Lst.nil ?_
        exact At.meet (r20.2.2 == (1 : Int)) (FLe.refl _) ⟨rfl, trivial⟩ rfl (some_inj H)
      rintro F143 y141 hF144 hy
      subst hy
      refine Lst.as (e' := [(165, .bool y141)]) (L' := (.own s73 49 2 (encs l74)) :: (.own s67 31 1 (encs r65)) :: (.blk b18 (enc (PosetR.mk r11.1 s13)) 24) :: (.own Sl.nil 49 2 (encs ([] : List Pair))) :: (.own s13 49 2 (encs r11.1.Pairs)) :: (.own s7 31 1 (encs r5.1)) :: L) ⟨rfl, trivial⟩ rfl ?_
      replace H := HKo140
      refine Lst.run rfl rfl (by decide) (Ev.assign rfl) ?_
      refine Lst.nil ?_
      refine At.then ?_
      obtain rfl := some_inj H
      refine Cd.ret ?_
      refine At.then_ret ?_
      exact At.ret1 rfl (Res.tmp rfl) (FLe.trans (FLe.trans (FLe.trans (FLe.trans (FLe.trans (FLe.trans (FLe.trans (FLe.trans (FLe.trans (FLe.trans hF10 hF16) hF70) hF76) hF108) hF113) hF122) hF127) hF133) hF139) hF144) (List.Sublist.cons _ (List.Sublist.cons _ (List.Sublist.cons _ (List.Sublist.cons _ (List.Sublist.cons _ (List.Sublist.cons _ (List.Sublist.refl _))))))) ⟨rfl, rfl⟩
    replace H := ite_f hb134 H
    refine Cd.condF rfl hb134 ?_
    refine Cd.skip ?_
    refine At.then ?_
    refine Cd.seq ?_
    refine Cd.quiet (by kernel_rfl) (by kernel_rfl) ?_
    refine Qt.run rfl rfl (by decide) (Ev.move rfl) ?_
    refine Qt.run rfl rfl (by decide) (Ev.move rfl) ?_
    refine Qt.run rfl rfl (by decide) (Ev.move rfl) ?_
    obtain ⟨x145, h146, H⟩ := bind_some H
    have g147 := lat_some h146
    refine Qt.run rfl rfl (by decide) (Ev.indexS (α := BitVec 16) (xs := a0) rfl rfl Try.runUnderlying27 Try.sizeOf31 rfl (by decide) (hs_a0.mono (FLe.trans (FLe.trans (FLe.trans (FLe.trans (FLe.trans (FLe.trans (FLe.trans (FLe.trans hF10 hF16) hF70) hF76) hF108) hF113) hF122) hF127) hF133) (List.Sublist.cons _ (List.Sublist.cons _ (List.Sublist.cons _ (List.Sublist.cons _ (List.Sublist.cons _ (List.Sublist.cons _ hM))))))) g147.1 g147.2.1) ?_
    refine Qt.run rfl rfl (by decide) (Ev.loadS (α := BitVec 16) rfl (hs_a0.mono (FLe.trans (FLe.trans (FLe.trans (FLe.trans (FLe.trans (FLe.trans (FLe.trans (FLe.trans hF10 hF16) hF70) hF76) hF108) hF113) hF122) hF127) hF133) (List.Sublist.cons _ (List.Sublist.cons _ (List.Sublist.cons _ (List.Sublist.cons _ (List.Sublist.cons _ (List.Sublist.cons _ hM))))))) Try.isAgg31 (v := .int .u16 x145.toNat) ((Get.elemN (s := 1) (x := x145) rfl g147.2.2 (Get.here _)).off (by omega))) ?_
    refine Qt.run rfl rfl (by decide) (Ev.move rfl) ?_
    refine Qt.run rfl rfl (by decide) (Ev.move rfl) ?_
    obtain ⟨x148, h149, H⟩ := bind_some H
    have g150 := lat_some h149
    refine Qt.run rfl rfl (by decide) (Ev.indexS (α := BitVec 16) (xs := a0) rfl rfl Try.runUnderlying27 Try.sizeOf31 rfl (by decide) (hs_a0.mono (FLe.trans (FLe.trans (FLe.trans (FLe.trans (FLe.trans (FLe.trans (FLe.trans (FLe.trans hF10 hF16) hF70) hF76) hF108) hF113) hF122) hF127) hF133) (List.Sublist.cons _ (List.Sublist.cons _ (List.Sublist.cons _ (List.Sublist.cons _ (List.Sublist.cons _ (List.Sublist.cons _ hM))))))) g150.1 g150.2.1) ?_
    refine Qt.run rfl rfl (by decide) (Ev.loadS (α := BitVec 16) rfl (hs_a0.mono (FLe.trans (FLe.trans (FLe.trans (FLe.trans (FLe.trans (FLe.trans (FLe.trans (FLe.trans hF10 hF16) hF70) hF76) hF108) hF113) hF122) hF127) hF133) (List.Sublist.cons _ (List.Sublist.cons _ (List.Sublist.cons _ (List.Sublist.cons _ (List.Sublist.cons _ (List.Sublist.cons _ hM))))))) Try.isAgg31 (v := .int .u16 x148.toNat) ((Get.elemN (s := 1) (x := x148) rfl g150.2.2 (Get.here _)).off (by omega))) ?_
    refine Qt.run rfl rfl (by decide) (Ev.orU16 (i := x145) (j := x148) rfl rfl) ?_
    refine Qt.run rfl rfl (by decide) (Ev.eql rfl rfl) ?_
    refine Qt.run rfl rfl (by decide) (Ev.move rfl) ?_
    obtain ⟨o151, H, HKo151⟩ := bind_some H
    refine Qt.join (σ := Bool) 12 (fun y152 => [(14, .int .i64 r20.2.2), (189, .bool y152)]) (fun y152 => y152 = o151) ?_ ?_
    · rcases (Bool.eq_false_or_eq_true ((r20.1.toNat : Int) == ((x145 ||| x148).toNat : Int))).symm with hb153 | hb153
      · replace H := ite_f hb153 H
        refine Qt.skip rfl rfl rfl hb153 rfl (by decide) ?_
        refine Qt.skip rfl rfl rfl hb153 rfl (by decide) ?_
        refine Qt.skip rfl rfl rfl hb153 rfl (by decide) ?_
        refine Qt.skip rfl rfl rfl hb153 rfl (by decide) ?_
        refine Qt.skip rfl rfl rfl hb153 rfl (by decide) ?_
        refine Qt.skip rfl rfl rfl hb153 rfl (by decide) ?_
        refine Qt.skip rfl rfl rfl hb153 rfl (by decide) ?_
        refine Qt.skip rfl rfl rfl hb153 rfl (by decide) ?_
        refine Qt.skip rfl rfl rfl hb153 rfl (by decide) ?_
        refine Qt.skip rfl rfl rfl hb153 rfl (by decide) ?_
        refine Qt.skip rfl rfl rfl hb153 rfl (by decide) ?_
        refine Qt.run rfl rfl (by decide) (Ev.pickF rfl hb153 rfl) ?_
        exact Qt.meet false ⟨rfl, rfl, trivial⟩ (some_inj H)
      replace H := ite_t hb153 H
      refine Qt.runG rfl rfl rfl hb153 rfl (by decide) (Ev.move rfl) ?_
      refine Qt.runG rfl rfl rfl hb153 rfl (by decide) (Ev.move rfl) ?_
      refine Qt.runG rfl rfl rfl hb153 rfl (by decide) (Ev.move rfl) ?_
      obtain ⟨x154, h155, H⟩ := bind_some H
      have g156 := lat_some h155
      refine Qt.runG rfl rfl rfl hb153 rfl (by decide) (Ev.indexS (α := BitVec 16) (xs := a0) rfl rfl Try.runUnderlying27 Try.sizeOf31 rfl (by decide) (hs_a0.mono (FLe.trans (FLe.trans (FLe.trans (FLe.trans (FLe.trans (FLe.trans (FLe.trans (FLe.trans hF10 hF16) hF70) hF76) hF108) hF113) hF122) hF127) hF133) (List.Sublist.cons _ (List.Sublist.cons _ (List.Sublist.cons _ (List.Sublist.cons _ (List.Sublist.cons _ (List.Sublist.cons _ hM))))))) g156.1 g156.2.1) ?_
      refine Qt.runG rfl rfl rfl hb153 rfl (by decide) (Ev.loadS (α := BitVec 16) rfl (hs_a0.mono (FLe.trans (FLe.trans (FLe.trans (FLe.trans (FLe.trans (FLe.trans (FLe.trans (FLe.trans hF10 hF16) hF70) hF76) hF108) hF113) hF122) hF127) hF133) (List.Sublist.cons _ (List.Sublist.cons _ (List.Sublist.cons _ (List.Sublist.cons _ (List.Sublist.cons _ (List.Sublist.cons _ hM))))))) Try.isAgg31 (v := .int .u16 x154.toNat) ((Get.elemN (s := 1) (x := x154) rfl g156.2.2 (Get.here _)).off (by omega))) ?_
      refine Qt.runG rfl rfl rfl hb153 rfl (by decide) (Ev.move rfl) ?_
      refine Qt.runG rfl rfl rfl hb153 rfl (by decide) (Ev.move rfl) ?_
      obtain ⟨x157, h158, H⟩ := bind_some H
      have g159 := lat_some h158
      refine Qt.runG rfl rfl rfl hb153 rfl (by decide) (Ev.indexS (α := BitVec 16) (xs := a0) rfl rfl Try.runUnderlying27 Try.sizeOf31 rfl (by decide) (hs_a0.mono (FLe.trans (FLe.trans (FLe.trans (FLe.trans (FLe.trans (FLe.trans (FLe.trans (FLe.trans hF10 hF16) hF70) hF76) hF108) hF113) hF122) hF127) hF133) (List.Sublist.cons _ (List.Sublist.cons _ (List.Sublist.cons _ (List.Sublist.cons _ (List.Sublist.cons _ (List.Sublist.cons _ hM))))))) g159.1 g159.2.1) ?_
      refine Qt.runG rfl rfl rfl hb153 rfl (by decide) (Ev.loadS (α := BitVec 16) rfl (hs_a0.mono (FLe.trans (FLe.trans (FLe.trans (FLe.trans (FLe.trans (FLe.trans (FLe.trans (FLe.trans hF10 hF16) hF70) hF76) hF108) hF113) hF122) hF127) hF133) (List.Sublist.cons _ (List.Sublist.cons _ (List.Sublist.cons _ (List.Sublist.cons _ (List.Sublist.cons _ (List.Sublist.cons _ hM))))))) Try.isAgg31 (v := .int .u16 x157.toNat) ((Get.elemN (s := 1) (x := x157) rfl g159.2.2 (Get.here _)).off (by omega))) ?_
      refine Qt.runG rfl rfl rfl hb153 rfl (by decide) (Ev.andU16 (i := x154) (j := x157) rfl rfl) ?_
      refine Qt.runG rfl rfl rfl hb153 rfl (by decide) (Ev.eql rfl rfl) ?_
      refine Qt.run rfl rfl (by decide) (Ev.pickT rfl hb153 rfl) ?_
      exact Qt.meet ((r20.2.1.toNat : Int) == ((x154 &&& x157).toNat : Int)) ⟨rfl, rfl, trivial⟩ (some_inj H)
    rintro y152 hy
    subst hy
    refine Qt.as (e' := [(14, .int .i64 r20.2.2), (189, .bool y152)]) ⟨rfl, rfl, trivial⟩ ?_
    replace H := HKo151
    refine Qt.run rfl rfl (by decide) (Ev.move rfl) ?_
    obtain ⟨o160, H, HKo160⟩ := bind_some H
    refine Qt.join (σ := Bool) 3 (fun y161 => [(193, .bool y161)]) (fun y161 => y161 = o160) ?_ ?_
    · rcases (Bool.eq_false_or_eq_true y152).symm with hb162 | hb162
      · replace H := ite_f hb162 H
        refine Qt.skip rfl rfl rfl hb162 rfl (by decide) ?_
        refine Qt.skip rfl rfl rfl hb162 rfl (by decide) ?_
        refine Qt.run rfl rfl (by decide) (Ev.pickF rfl hb162 rfl) ?_
        exact Qt.meet false ⟨rfl, trivial⟩ (some_inj H)
      replace H := ite_t hb162 H
      refine Qt.runG rfl rfl rfl hb162 rfl (by decide) (Ev.move rfl) ?_
      refine Qt.runG rfl rfl rfl hb162 rfl (by decide) (Ev.eql rfl rfl) ?_
      refine Qt.run rfl rfl (by decide) (Ev.pickT rfl hb162 rfl) ?_
      exact Qt.meet (r20.2.2 == (0 : Int)) ⟨rfl, trivial⟩ (some_inj H)
    rintro y161 hy
    subst hy
    refine Qt.as (e' := [(193, .bool y161)]) ⟨rfl, trivial⟩ ?_
    replace H := HKo160
    refine Qt.run rfl rfl (by decide) (Ev.assign rfl) ?_
    refine Qt.done ?_
    refine At.then ?_
    obtain rfl := some_inj H
    refine Cd.ret ?_
    exact At.ret1 rfl (Res.tmp rfl) (FLe.trans (FLe.trans (FLe.trans (FLe.trans (FLe.trans (FLe.trans (FLe.trans (FLe.trans hF10 hF16) hF70) hF76) hF108) hF113) hF122) hF127) hF133) (List.Sublist.cons _ (List.Sublist.cons _ (List.Sublist.cons _ (List.Sublist.cons _ (List.Sublist.cons _ (List.Sublist.cons _ (List.Sublist.refl _))))))) ⟨rfl, rfl⟩
  have hc72 : decide ((i72 : Int) < (r65.length : Int)) = true := decide_eq_true (by omega)
  obtain ⟨c72, H, hgo72⟩ := rangeF_go H
  unfold partlaw_LatSays_B0 at H
  try dsimp only at H
  refine Cd.seq ?_
  refine Cd.region ?_
  refine Lst.run rfl rfl (by decide) (Ev.lss rfl rfl) ?_
  refine Lst.nil ?_
  refine At.then ?_
  refine Cd.seq ?_
  refine Cd.condT rfl hc72 ?_
  refine Cd.skip ?_
  refine At.then ?_
  refine Cd.seq ?_
  refine Cd.block ?_
  refine Cd.seq ?_
  refine Cd.region ?_
  refine Lst.run rfl rfl (by decide) (Ev.move rfl) ?_
  obtain ⟨x77, h78, H⟩ := bind_some H
  have g79 := lat_some h78
  refine Lst.run rfl rfl (by decide) (Ev.indexS (α := BitVec 16) (xs := r65) rfl rfl Try.runUnderlying27 Try.sizeOf31 rfl (by decide) (Rd.own (i := 1) rfl rfl rfl) g79.1 g79.2.1) ?_
  refine Lst.run rfl rfl (by decide) (Ev.loadS (α := BitVec 16) rfl (Rd.own (i := 1) rfl rfl rfl) Try.isAgg31 (v := .int .u16 x77.toNat) ((Get.elemN (s := 1) (x := x77) rfl g79.2.2 (Get.here _)).off (by omega))) ?_
  refine Lst.run rfl rfl (by decide) (Ev.assign rfl) ?_
  refine Lst.run rfl rfl (by decide) (Ev.assign rfl) ?_
  refine Lst.nil ?_
  refine At.then ?_
  refine Cd.seq ?_
  refine Cd.region ?_
  refine Lst.run rfl rfl (by decide) (Ev.move rfl) ?_
  refine Lst.run rfl rfl (by decide) (Ev.lenS (α := BitVec 16) (xs := r65) (by decide) rfl rfl Try.runUnderlying27 (Rd.own (i := 1) rfl rfl rfl)) ?_
  refine Lst.run rfl rfl (by decide) (Ev.move rfl) ?_
  refine Lst.nil ?_
  refine At.then ?_
  refine Cd.block ?_
  refine Cd.bound (Rd.le (α := BitVec 16) (xs := r65) (by decide) (Rd.own (i := 1) rfl rfl rfl)) (fun hN99 => ?_)
  obtain ⟨ol80, H, HKl80⟩ := bind_some H
  refine Cd.loop (σ := Nat × Nat × Sl × (List Pair)) (fun (i80, k80, s81, l82) => [(0, Sl.v s_a0), (1, .int .i64 a1), (2, .int .i64 a2), (8, Sl.v s7), (9, .int .i64 r5.2), (10, .pointer (some ⟨b18, 0, none⟩)), (11, .int .i64 r11.2), (12, .int .u16 r20.1.toNat), (13, .int .u16 r20.2.1.toNat), (14, .int .i64 r20.2.2), (15, Sl.v s67), (16, Sl.v s81), (17, .int .i64 (i72 : Int)), (18, .int .u16 x77.toNat), (86, Sl.v s67), (87, .int .i64 (r65.length : Int)), (88, .int .i64 (i72 : Int)), (93, Sl.v s67), (94, .int .i64 (r65.length : Int)), (95, .int .i64 (i80 : Int))]) (fun (i80, k80, s81, l82) => (.own s81 49 2 (encs l82)) :: (.own s67 31 1 (encs r65)) :: (.blk b18 (enc (PosetR.mk r11.1 s13)) 24) :: (.own Sl.nil 49 2 (encs ([] : List Pair))) :: (.own s13 49 2 (encs r11.1.Pairs)) :: (.own s7 31 1 (encs r5.1)) :: L) (fun _ => (fun (i80, k80, s81, l82) => rangeF (partlaw_LatSays_B2 r65 i72 x77) k80 i80 l82 = some ol80 ∧ i80 + k80 = r65.length)) (fun (i80, k80, s81, l82) => k80) (0, r65.length, s73, l74) ⟨rfl, rfl, rfl, rfl, rfl, rfl, rfl, rfl, rfl, rfl, rfl, rfl, rfl, rfl, rfl, rfl, rfl, rfl, rfl, rfl, trivial⟩ rfl ⟨H, by omega⟩ ?_
  rintro F83 ⟨i80, k80, s81, l82⟩ hF84 ⟨H, hik80⟩
  refine Cd.as (e' := [(0, Sl.v s_a0), (1, .int .i64 a1), (2, .int .i64 a2), (8, Sl.v s7), (9, .int .i64 r5.2), (10, .pointer (some ⟨b18, 0, none⟩)), (11, .int .i64 r11.2), (12, .int .u16 r20.1.toNat), (13, .int .u16 r20.2.1.toNat), (14, .int .i64 r20.2.2), (15, Sl.v s67), (16, Sl.v s81), (17, .int .i64 (i72 : Int)), (18, .int .u16 x77.toNat), (86, Sl.v s67), (87, .int .i64 (r65.length : Int)), (88, .int .i64 (i72 : Int)), (93, Sl.v s67), (94, .int .i64 (r65.length : Int)), (95, .int .i64 (i80 : Int))]) (L' := (.own s81 49 2 (encs l82)) :: (.own s67 31 1 (encs r65)) :: (.blk b18 (enc (PosetR.mk r11.1 s13)) 24) :: (.own Sl.nil 49 2 (encs ([] : List Pair))) :: (.own s13 49 2 (encs r11.1.Pairs)) :: (.own s7 31 1 (encs r5.1)) :: L) ⟨rfl, rfl, rfl, rfl, rfl, rfl, rfl, rfl, rfl, rfl, rfl, rfl, rfl, rfl, rfl, rfl, rfl, rfl, rfl, rfl, trivial⟩ rfl ?_
  rcases k80 with _ | k80
  · have hc80 : decide ((i80 : Int) < (r65.length : Int)) = false := decide_eq_false (by omega)
    replace H := rangeF_end H
    refine Cd.seq ?_
    refine Cd.region ?_
    refine Lst.run rfl rfl (by decide) (Ev.lss rfl rfl) ?_
    refine Lst.nil ?_
    refine At.then ?_
    refine Cd.seq ?_
    refine Cd.condF rfl hc80 ?_
    refine Cd.exit ?_
    refine At.then_exit ?_
    refine At.then_exit ?_
    refine At.in_exit ?_
    subst H
    replace H := HKl80
    refine At.in_normal ?_
    refine At.then ?_
    refine Cd.region ?_
    refine Lst.run rfl rfl (by decide) (Ev.incr (by omega) rfl rfl) ?_
    refine Lst.run rfl rfl (by decide) (Ev.move rfl) ?_
    refine Lst.nil ?_
    exact At.meet (i72 + 1, k72, s81, l82) (FLe.trans hF76 hF84) ⟨rfl, rfl, rfl, rfl, rfl, rfl, rfl, rfl, rfl, rfl, rfl, rfl, rfl, rfl, rfl, trivial⟩ rfl ⟨⟨hgo72 _ (some_inj H).symm, by omega⟩, Nat.lt_succ_self _⟩
  have hc80 : decide ((i80 : Int) < (r65.length : Int)) = true := decide_eq_true (by omega)
  obtain ⟨c80, H, hgo80⟩ := rangeF_go H
  unfold partlaw_LatSays_B2 at H
  try dsimp only at H
  refine Cd.seq ?_
  refine Cd.region ?_
  refine Lst.run rfl rfl (by decide) (Ev.lss rfl rfl) ?_
  refine Lst.nil ?_
  refine At.then ?_
  refine Cd.seq ?_
  refine Cd.condT rfl hc80 ?_
  refine Cd.skip ?_
  refine At.then ?_
  refine Cd.seq ?_
  refine Cd.block ?_
  refine Cd.seq ?_
  refine Cd.region ?_
  refine Lst.run rfl rfl (by decide) (Ev.move rfl) ?_
  obtain ⟨x85, h86, H⟩ := bind_some H
  have g87 := lat_some h86
  refine Lst.run rfl rfl (by decide) (Ev.indexS (α := BitVec 16) (xs := r65) rfl rfl Try.runUnderlying27 Try.sizeOf31 rfl (by decide) (Rd.own (i := 1) rfl rfl rfl) g87.1 g87.2.1) ?_
  refine Lst.run rfl rfl (by decide) (Ev.loadS (α := BitVec 16) rfl (Rd.own (i := 1) rfl rfl rfl) Try.isAgg31 (v := .int .u16 x85.toNat) ((Get.elemN (s := 1) (x := x85) rfl g87.2.2 (Get.here _)).off (by omega))) ?_
  refine Lst.run rfl rfl (by decide) (Ev.assign rfl) ?_
  refine Lst.run rfl rfl (by decide) (Ev.assign rfl) ?_
  refine Lst.nil ?_
  refine At.then ?_
  refine Cd.seq ?_
  refine Cd.region ?_
  refine Lst.run rfl rfl (by decide) (Ev.move rfl) ?_
  refine Lst.run rfl rfl (by decide) (Ev.move rfl) ?_
  refine Lst.run rfl rfl (by decide) (Ev.orU16 (i := x77) (j := x85) rfl rfl) ?_
  refine Lst.run rfl rfl (by decide) (Ev.move rfl) ?_
  refine Lst.run rfl rfl (by decide) (Ev.eql rfl rfl) ?_
  refine Lst.run rfl rfl (by decide) (Ev.move rfl) ?_
  obtain ⟨o88, H, HKo88⟩ := bind_some H
  refine Lst.join (σ := Bool) 4 (fun y89 => [(0, Sl.v s_a0), (1, .int .i64 a1), (2, .int .i64 a2), (8, Sl.v s7), (9, .int .i64 r5.2), (10, .pointer (some ⟨b18, 0, none⟩)), (11, .int .i64 r11.2), (12, .int .u16 r20.1.toNat), (13, .int .u16 r20.2.1.toNat), (14, .int .i64 r20.2.2), (15, Sl.v s67), (16, Sl.v s81), (17, .int .i64 (i72 : Int)), (18, .int .u16 x77.toNat), (19, .int .i64 (i80 : Int)), (86, Sl.v s67), (87, .int .i64 (r65.length : Int)), (88, .int .i64 (i72 : Int)), (93, Sl.v s67), (94, .int .i64 (r65.length : Int)), (95, .int .i64 (i80 : Int)), (109, .bool y89)]) (fun y89 => (.own s81 49 2 (encs l82)) :: (.own s67 31 1 (encs r65)) :: (.blk b18 (enc (PosetR.mk r11.1 s13)) 24) :: (.own Sl.nil 49 2 (encs ([] : List Pair))) :: (.own s13 49 2 (encs r11.1.Pairs)) :: (.own s7 31 1 (encs r5.1)) :: L) (fun _ y89 => y89 = o88) ?_ ?_
  · rcases (Bool.eq_false_or_eq_true (((x77 ||| x85).toNat : Int) == (x85.toNat : Int))).symm with hb90 | hb90
    · replace H := ite_f hb90 H
      refine Lst.skip rfl rfl rfl hb90 rfl (by decide) ?_
      refine Lst.skip rfl rfl rfl hb90 rfl (by decide) ?_
      refine Lst.skip rfl rfl rfl hb90 rfl (by decide) ?_
      refine Lst.run rfl rfl (by decide) (Ev.pickF rfl hb90 rfl) ?_
      refine Lst.nil ?_
      exact At.meet false (FLe.refl _) ⟨rfl, rfl, rfl, rfl, rfl, rfl, rfl, rfl, rfl, rfl, rfl, rfl, rfl, rfl, rfl, rfl, rfl, rfl, rfl, rfl, rfl, rfl, trivial⟩ rfl (some_inj H)
    replace H := ite_t hb90 H
    refine Lst.runG rfl rfl rfl hb90 rfl (by decide) (Ev.move rfl) ?_
    refine Lst.runG rfl rfl rfl hb90 rfl (by decide) (Ev.move rfl) ?_
    refine Lst.runG rfl rfl rfl hb90 rfl (by decide) (Ev.neq rfl rfl) ?_
    refine Lst.run rfl rfl (by decide) (Ev.pickT rfl hb90 rfl) ?_
    refine Lst.nil ?_
    exact At.meet ((x77.toNat : Int) != (x85.toNat : Int)) (FLe.refl _) ⟨rfl, rfl, rfl, rfl, rfl, rfl, rfl, rfl, rfl, rfl, rfl, rfl, rfl, rfl, rfl, rfl, rfl, rfl, rfl, rfl, rfl, rfl, trivial⟩ rfl (some_inj H)
  rintro F91 y89 hF92 hy
  subst hy
  refine Lst.as (e' := [(0, Sl.v s_a0), (1, .int .i64 a1), (2, .int .i64 a2), (8, Sl.v s7), (9, .int .i64 r5.2), (10, .pointer (some ⟨b18, 0, none⟩)), (11, .int .i64 r11.2), (12, .int .u16 r20.1.toNat), (13, .int .u16 r20.2.1.toNat), (14, .int .i64 r20.2.2), (15, Sl.v s67), (16, Sl.v s81), (17, .int .i64 (i72 : Int)), (18, .int .u16 x77.toNat), (19, .int .i64 (i80 : Int)), (86, Sl.v s67), (87, .int .i64 (r65.length : Int)), (88, .int .i64 (i72 : Int)), (93, Sl.v s67), (94, .int .i64 (r65.length : Int)), (95, .int .i64 (i80 : Int)), (109, .bool y89)]) (L' := (.own s81 49 2 (encs l82)) :: (.own s67 31 1 (encs r65)) :: (.blk b18 (enc (PosetR.mk r11.1 s13)) 24) :: (.own Sl.nil 49 2 (encs ([] : List Pair))) :: (.own s13 49 2 (encs r11.1.Pairs)) :: (.own s7 31 1 (encs r5.1)) :: L) ⟨rfl, rfl, rfl, rfl, rfl, rfl, rfl, rfl, rfl, rfl, rfl, rfl, rfl, rfl, rfl, rfl, rfl, rfl, rfl, rfl, rfl, rfl, trivial⟩ rfl ?_
  replace H := HKo88
  refine Lst.nil ?_
  refine At.then ?_
  rcases (Bool.eq_false_or_eq_true y89).symm with hb93 | hb93
  · replace H := ite_f hb93 H
    refine Cd.condF rfl hb93 ?_
    refine Cd.skip ?_
    refine At.in_normal ?_
    refine At.then ?_
    refine Cd.region ?_
    refine Lst.run rfl rfl (by decide) (Ev.incr (by omega) rfl rfl) ?_
    refine Lst.run rfl rfl (by decide) (Ev.move rfl) ?_
    refine Lst.nil ?_
    exact At.meet (i80 + 1, k80, s81, l82) (FLe.trans hF84 hF92) ⟨rfl, rfl, rfl, rfl, rfl, rfl, rfl, rfl, rfl, rfl, rfl, rfl, rfl, rfl, rfl, rfl, rfl, rfl, rfl, rfl, trivial⟩ rfl ⟨⟨hgo80 _ (some_inj H).symm, by omega⟩, Nat.lt_succ_self _⟩
  replace H := ite_t hb93 H
  refine Cd.condT rfl hb93 ?_
  refine Cd.region ?_
  refine Lst.run rfl rfl (by decide) (Ev.move rfl) ?_
  refine Lst.run rfl rfl (by decide) (Ev.move rfl) ?_
  refine Lst.run rfl rfl (by decide) (Ev.move rfl) ?_
  refine Lst.run rfl rfl (by decide) (Ev.build (v := .agg (enc ({ Pair.zero with A := (i72 : Int), B := (i80 : Int) } : Pair)).toArray) (pv := [(0, .int .i64 (i72 : Int)), (1, .int .i64 (i80 : Int))]) ⟨rfl, rfl, ⟨rfl, rfl, trivial⟩⟩ (fun w => by kernel_rfl)) ?_
  refine Lst.buildSlice (α := Pair) (xs := ([({ Pair.zero with A := (i72 : Int), B := (i80 : Int) } : Pair)] : List Pair)) (pv := [(0, .agg (enc ({ Pair.zero with A := (i72 : Int), B := (i80 : Int) } : Pair)).toArray)]) rfl rfl (by decide) ⟨rfl, rfl, trivial⟩ (run_buildSlice (α := Pair) (z0 := Pair.zero) (xs := ([({ Pair.zero with A := (i72 : Int), B := (i80 : Int) } : Pair)] : List Pair)) Try.runUnderlying22 Try.sizeOf49 Try.zeroValue49 rfl rfl rfl (by decide) rfl (fill_cons (cs := encs (List.replicate 1 Pair.zero)) (cs' := encs ((List.replicate 1 Pair.zero).set 0 ({ Pair.zero with A := (i72 : Int), B := (i80 : Int) } : Pair))) (vs := enc ({ Pair.zero with A := (i72 : Int), B := (i80 : Int) } : Pair)) rfl rfl (Enc.len _) ((Put.elemN (s := 2) (i := 0) (x := Pair.zero) (y := ({ Pair.zero with A := (i72 : Int), B := (i80 : Int) } : Pair)) rfl rfl (Put.here ((Enc.len _).trans (Enc.len _).symm))).off rfl) fill_nil)) rfl rfl (by decide) (fun s94 _ => ?_)
  obtain ⟨u96, h97, H⟩ := bind_some H
  refine Lst.append (i := 1) (α := Pair) (xs := l82) (ys := ([({ Pair.zero with A := (i72 : Int), B := (i80 : Int) } : Pair)] : List Pair)) rfl rfl (by decide) rfl rfl Try.runUnderlying22 Try.typeInfo49 rfl rfl rfl rfl rfl rfl (Rd.own (i := 0) rfl rfl rfl) rfl (room_some h97) rfl (fun s98 => ?_)
  refine Lst.its (L' := (.own s94 49 2 (encs ([({ Pair.zero with A := (i72 : Int), B := (i80 : Int) } : Pair)] : List Pair))) :: (.own s98 49 2 (encs (l82 ++ ([({ Pair.zero with A := (i72 : Int), B := (i80 : Int) } : Pair)] : List Pair)))) :: (.own s67 31 1 (encs r65)) :: (.blk b18 (enc (PosetR.mk r11.1 s13)) 24) :: (.own Sl.nil 49 2 (encs ([] : List Pair))) :: (.own s13 49 2 (encs r11.1.Pairs)) :: (.own s7 31 1 (encs r5.1)) :: L) rfl ?_
  refine Lst.run rfl rfl (by decide) (Ev.assign rfl) ?_
  refine Lst.nil ?_
  refine At.in_normal ?_
  refine At.then ?_
  refine Cd.region ?_
  refine Lst.run rfl rfl (by decide) (Ev.incr (by omega) rfl rfl) ?_
  refine Lst.run rfl rfl (by decide) (Ev.move rfl) ?_
  refine Lst.nil ?_
  refine At.less (L' := (.own s98 49 2 (encs (l82 ++ ([({ Pair.zero with A := (i72 : Int), B := (i80 : Int) } : Pair)] : List Pair)))) :: (.own s67 31 1 (encs r65)) :: (.blk b18 (enc (PosetR.mk r11.1 s13)) 24) :: (.own Sl.nil 49 2 (encs ([] : List Pair))) :: (.own s13 49 2 (encs r11.1.Pairs)) :: (.own s7 31 1 (encs r5.1)) :: L) (List.Sublist.cons _ (List.Sublist.cons_cons _ (List.Sublist.cons_cons _ (List.Sublist.cons_cons _ (List.Sublist.cons_cons _ (List.Sublist.cons_cons _ (List.Sublist.cons_cons _ (List.Sublist.refl _)))))))) ?_
  exact At.meet (i80 + 1, k80, s98, l82 ++ ([({ Pair.zero with A := (i72 : Int), B := (i80 : Int) } : Pair)] : List Pair)) (FLe.trans hF84 hF92) ⟨rfl, rfl, rfl, rfl, rfl, rfl, rfl, rfl, rfl, rfl, rfl, rfl, rfl, rfl, rfl, rfl, rfl, rfl, rfl, rfl, trivial⟩ rfl ⟨⟨hgo80 _ (some_inj H).symm, by omega⟩, Nat.lt_succ_self _⟩
end Go.Proofs.Yticifbmaapnfbaa
