/-
  The functions compute their specs; printed by a program.
-/
import Derived.Test.YticifbmaapnfbaaPsSp
import Derived.Test.YticifbmaapnfbaaGoL
import Derived.Test.YticifbmaapnfbaaGoK
import Derived.Test.YticifbmaapnfbaaGoI
import Derived.Test.YticifbmaapnfbaaGoU
import Derived.Test.YticifbmaapnfbaaGoM
import Derived.Test.YticifbmaapnfbaaGoS
import Derived.Test.YticifbmaapnfbaaGoR
import Derived.Test.YticifbmaapnfbaaProg
namespace Go.Proofs.Yticifbmaapnfbaa
open Go.RowKit Enc
set_option linter.unusedVariables false
set_option linter.unusedSimpArgs false
structure PosetR where
  v : Poset
  h1 : Sl
instance : Enc PosetR := ⟨fun p => enc p.v.N ++ (enc p.h1), 2, fun p => by simp only [List.length_append, Enc.len]; rfl, fun p => by simp only [List.all_append, Enc.one, Bool.and_self]⟩
theorem PosetR.get_N {p : PosetR} {k : Nat} {ch : List Value} (h : Get (enc p.v.N) k ch) : Get (enc p) (0 + k) ch := Get.off (Get.left h) (by omega)
theorem PosetR.put_N {p : PosetR} {k : Nat} {vs : List Value} {y : Int} (h : Put (enc p.v.N) k vs (enc y)) : Put (enc p) (0 + k) vs (enc ({ p with v := { p.v with N := y } } : PosetR)) := Put.off (cs' := enc ({ p with v := { p.v with N := y } } : PosetR)) (Put.left h) (by omega)
theorem PosetR.get_Pairs {p : PosetR} {k : Nat} {ch : List Value} (h : Get (enc p.h1) k ch) : Get (enc p) (1 + k) ch := Get.off (Get.right (m := 1) (Enc.len _) h) (by omega)
theorem PosetR.put_Pairs {p : PosetR} {k : Nat} {vs : List Value} {y : Sl} {l : List Pair} (h : Put (enc p.h1) k vs (enc y)) : Put (enc p) (1 + k) vs (enc ({ p with v := { p.v with Pairs := l }, h1 := y } : PosetR)) := Put.off (cs' := enc ({ p with v := { p.v with Pairs := l }, h1 := y } : PosetR)) (Put.right (m := 1) (Enc.len _) h) (by omega)
def PosetR.rel (w0 : World) (F : Frz) (L : List Item) (x : PosetR) : Prop := Rd w0 F L x.h1 x.v.Pairs
theorem PosetR.mono {w0 : World} {F F' : Frz} {L L' : List Item} {x : PosetR} (h : PosetR.rel w0 F L x) (hF : FLe F F') (hL : L.Sublist L') : PosetR.rel w0 F' L' x :=
  let h1 := h
  h1.mono hF hL
theorem All.monoPoset {w0 : World} {F F' : Frz} {L L' : List Item} {rs : List PosetR} (h : All PosetR.rel w0 F L rs) (hF : FLe F F') (hL : L.Sublist L') : All PosetR.rel w0 F' L' rs := fun x hx => PosetR.mono (h x hx) hF hL
set_option maxRecDepth 20000 in
theorem eq49 (x y : Pair) : ∀ w, (Op.equal 49 (.agg (enc x).toArray) (.agg (enc y).toArray)).run Try.prog w = .ok (decide (x = y)) w :=
  EqT.top (d := 10000) Try.isAgg49 Try.sizeOf49 rfl rfl (EqT.struct Try.isAgg49 Try.sizeOf49 rfl Try.runUnderlying49 (by kernel_rfl) (fun x y w => by
  refine Eq.trans (eqField (p := x.A) (q := y.A) rfl (EqT.int Try.isAgg3 Try.runUnderlying3) rfl ((Pair.get_A (Get.here _)).off rfl) ((Pair.get_A (Get.here _)).off rfl) (eqField (p := x.B) (q := y.B) rfl (EqT.int Try.isAgg3 Try.runUnderlying3) rfl ((Pair.get_B (Get.here _)).off rfl) ((Pair.get_B (Get.here _)).off rfl) (by rfl))) ?_
  congr 1
  rw [Bool.eq_iff_iff]; cases x; cases y; simp)) x y
set_option maxRecDepth 20000 in
theorem partref_PairsErr_sim {a0 : Int} {a1 : Int} {a2 : List Pair} {s_a2 : Sl} {r : Int} (H : partref_PairsErr a0 a1 a2 = some r) (w0 : World) (F : Frz) (M L : List Item) (hM : M.Sublist L) (hs_a2 : Rd w0 F M s_a2 a2) : Ok Try.prog w0 34 [.int .i64 a0, .int .i64 a1, Sl.v s_a2] F (L) (Is (.int .i64 r) (L)) := by
  unfold partref_PairsErr at H
  refine Ok.enter (m := 3) (n := 49) Try.func34 rfl rfl rfl (by decide) ?_
  refine Cd.env (e' := [(0, .int .i64 a0), (1, .int .i64 a1), (2, Sl.v s_a2)]) rfl ?_
  refine Cd.seq ?_
  refine Cd.region ?_
  refine Lst.run rfl rfl (by decide) (Ev.assign rfl) ?_
  refine Lst.nil ?_
  refine At.then ?_
  refine Cd.seq ?_
  refine Cd.seq ?_
  refine Cd.region ?_
  refine Lst.run rfl rfl (by decide) (Ev.move rfl) ?_
  refine Lst.run rfl rfl (by decide) (Ev.move rfl) ?_
  refine Lst.run rfl rfl (by decide) (Ev.min2 rfl rfl) ?_
  refine Lst.run rfl rfl (by decide) (Ev.lss rfl rfl) ?_
  refine Lst.run rfl rfl (by decide) (Ev.move rfl) ?_
  obtain ⟨o1, H, HKo1⟩ := bind_some H
  refine Lst.join (σ := Bool) 5 (fun y2 => [(0, .int .i64 a0), (1, .int .i64 a1), (2, Sl.v s_a2), (18, .bool y2)]) (fun y2 => L) (fun _ y2 => y2 = o1) ?_ ?_
  · rcases Bool.eq_false_or_eq_true (decide ((min a0 a1) < (0 : Int))) with hb3 | hb3
    · replace H := ite_t hb3 H
      refine Lst.skip rfl rfl rfl hb3 rfl (by decide) ?_
      refine Lst.skip rfl rfl rfl hb3 rfl (by decide) ?_
      refine Lst.skip rfl rfl rfl hb3 rfl (by decide) ?_
      refine Lst.skip rfl rfl rfl hb3 rfl (by decide) ?_
      refine Lst.run rfl rfl (by decide) (Ev.pickT rfl hb3 rfl) ?_
      refine Lst.nil ?_
      exact At.meet true (FLe.refl _) ⟨rfl, rfl, rfl, rfl, trivial⟩ rfl (some_inj H)
    replace H := ite_f hb3 H
    refine Lst.runG rfl rfl rfl hb3 rfl (by decide) (Ev.move rfl) ?_
    refine Lst.runG rfl rfl rfl hb3 rfl (by decide) (Ev.move rfl) ?_
    refine Lst.runG rfl rfl rfl hb3 rfl (by decide) (Ev.max2 rfl rfl) ?_
    refine Lst.runG rfl rfl rfl hb3 rfl (by decide) (Ev.gtr rfl rfl) ?_
    refine Lst.run rfl rfl (by decide) (Ev.pickF rfl hb3 rfl) ?_
    refine Lst.nil ?_
    exact At.meet (decide ((max a0 a1) > (40 : Int))) (FLe.refl _) ⟨rfl, rfl, rfl, rfl, trivial⟩ rfl (some_inj H)
  rintro F4 y2 hF5 hy
  subst hy
  refine Lst.as (e' := [(0, .int .i64 a0), (1, .int .i64 a1), (2, Sl.v s_a2), (18, .bool y2)]) (L' := L) ⟨rfl, rfl, rfl, rfl, trivial⟩ rfl ?_
  replace H := HKo1
  refine Lst.nil ?_
  refine At.then ?_
  rcases Bool.eq_false_or_eq_true y2 with hb6 | hb6
  · replace H := ite_t hb6 H
    refine Cd.condT rfl hb6 ?_
    refine Cd.seq ?_
    refine Cd.region ?_
    refine Lst.run rfl rfl (by decide) (Ev.assign rfl) ?_
    refine Lst.nil ?_
    refine At.then ?_
    obtain rfl := some_inj H
    refine Cd.ret ?_
    refine At.then_ret ?_
    exact At.ret1 rfl (Res.tmp rfl) hF5 (List.Sublist.refl _) ⟨rfl, rfl⟩
  replace H := ite_f hb6 H
  refine Cd.condF rfl hb6 ?_
  refine Cd.skip ?_
  refine At.then ?_
  refine Cd.seq ?_
  refine Cd.seq ?_
  refine Cd.region ?_
  refine Lst.run rfl rfl (by decide) (Ev.move rfl) ?_
  refine Lst.run rfl rfl (by decide) (Ev.lenS (α := Pair) (xs := a2) (by decide) rfl rfl Try.runUnderlying22 (hs_a2.mono hF5 hM)) ?_
  refine Lst.run rfl rfl (by decide) (Ev.gtr rfl rfl) ?_
  refine Lst.nil ?_
  refine At.then ?_
  rcases Bool.eq_false_or_eq_true (decide ((a2.length : Int) > (600 : Int))) with hb7 | hb7
  · replace H := ite_t hb7 H
    refine Cd.condT rfl hb7 ?_
    refine Cd.seq ?_
    refine Cd.region ?_
    refine Lst.run rfl rfl (by decide) (Ev.assign rfl) ?_
    refine Lst.nil ?_
    refine At.then ?_
    obtain rfl := some_inj H
    refine Cd.ret ?_
    refine At.then_ret ?_
    exact At.ret1 rfl (Res.tmp rfl) hF5 (List.Sublist.refl _) ⟨rfl, rfl⟩
  replace H := ite_f hb7 H
  refine Cd.condF rfl hb7 ?_
  refine Cd.skip ?_
  refine At.then ?_
  refine Cd.seq ?_
  refine Cd.seq ?_
  refine Cd.region ?_
  refine Lst.run rfl rfl (by decide) (Ev.move rfl) ?_
  refine Lst.run rfl rfl (by decide) (Ev.lenS (α := Pair) (xs := a2) (by decide) rfl rfl Try.runUnderlying22 (hs_a2.mono hF5 hM)) ?_
  refine Lst.run rfl rfl (by decide) (Ev.move rfl) ?_
  refine Lst.nil ?_
  refine At.then ?_
  refine Cd.block ?_
  refine Cd.bound (Rd.le (α := Pair) (xs := a2) (by decide) (hs_a2.mono hF5 hM)) (fun hN32 => ?_)
  obtain ⟨ol8, H, HKl8⟩ := andThen_some H
  refine Cd.loop (σ := Nat × Nat × Unit) (fun (i8, k8, _u) => [(0, .int .i64 a0), (1, .int .i64 a1), (22, Sl.v s_a2), (23, .int .i64 (a2.length : Int)), (24, .int .i64 (i8 : Int))]) (fun (i8, k8, _u) => L) (fun _ => (fun (i8, k8, _u) => rangeM (partref_PairsErr_B0 a0 a1 a2) k8 i8 () = some ol8 ∧ i8 + k8 = a2.length)) (fun (i8, k8, _u) => k8) (0, a2.length, ()) ⟨rfl, rfl, rfl, rfl, rfl, trivial⟩ rfl ⟨H, by omega⟩ ?_
  rintro F9 ⟨i8, k8, _u⟩ hF10 ⟨H, hik8⟩
  refine Cd.as (e' := [(0, .int .i64 a0), (1, .int .i64 a1), (22, Sl.v s_a2), (23, .int .i64 (a2.length : Int)), (24, .int .i64 (i8 : Int))]) (L' := L) ⟨rfl, rfl, rfl, rfl, rfl, trivial⟩ rfl ?_
  rcases k8 with _ | k8
  · have hc8 : decide ((i8 : Int) < (a2.length : Int)) = false := decide_eq_false (by omega)
    replace H := rangeM_end H
    refine Cd.seq ?_
    refine Cd.region ?_
    refine Lst.run rfl rfl (by decide) (Ev.lss rfl rfl) ?_
    refine Lst.nil ?_
    refine At.then ?_
    refine Cd.seq ?_
    refine Cd.condF rfl hc8 ?_
    refine Cd.exit ?_
    refine At.then_exit ?_
    refine At.then_exit ?_
    refine At.in_exit ?_
    subst H
    replace H := HKl8
    refine At.then ?_
    refine Cd.seq ?_
    refine Cd.region ?_
    refine Lst.run rfl rfl (by decide) (Ev.assign rfl) ?_
    refine Lst.nil ?_
    refine At.then ?_
    obtain rfl := some_inj H
    refine Cd.ret ?_
    exact At.ret1 rfl (Res.tmp rfl) (FLe.trans hF5 hF10) (List.Sublist.refl _) ⟨rfl, rfl⟩
  have hc8 : decide ((i8 : Int) < (a2.length : Int)) = true := decide_eq_true (by omega)
  obtain ⟨c8, H, hgo8, hbrk8, hret8⟩ := rangeM_go H
  unfold partref_PairsErr_B0 at H
  try dsimp only at H
  refine Cd.seq ?_
  refine Cd.region ?_
  refine Lst.run rfl rfl (by decide) (Ev.lss rfl rfl) ?_
  refine Lst.nil ?_
  refine At.then ?_
  refine Cd.seq ?_
  refine Cd.condT rfl hc8 ?_
  refine Cd.skip ?_
  refine At.then ?_
  refine Cd.seq ?_
  refine Cd.block ?_
  refine Cd.seq ?_
  refine Cd.region ?_
  obtain ⟨x11, h12, H⟩ := bind_some H
  have g13 := lat_some h12
  refine Lst.run rfl rfl (by decide) (Ev.indexS (α := Pair) (xs := a2) rfl rfl Try.runUnderlying22 Try.sizeOf49 rfl (by decide) (hs_a2.mono (FLe.trans hF5 hF10) hM) g13.1 g13.2.1) ?_
  refine Lst.run rfl rfl (by decide) (Ev.loadSA (α := Pair) rfl (hs_a2.mono (FLe.trans hF5 hF10) hM) Try.isAgg49 Try.sizeOf49 (ch := enc x11) (Enc.len _) (by decide) ((Get.elemN (s := 2) (x := x11) rfl g13.2.2 (Get.here _)).off (by omega))) ?_
  refine Lst.alloc (cs := enc Pair.zero) rfl rfl (by decide) Try.zeroValue49 rfl (fun b14 => ?_)
  refine Lst.store (i := 0) rfl rfl rfl rfl rfl Try.sizeOf49 (vs := enc x11) rfl (Enc.len _) (Enc.one _) (cs' := enc x11) (Put.here ((Enc.len _).trans (Enc.len _).symm)) (L' := (.blk b14 (enc x11) 49) :: L) rfl ?_
  refine Lst.nil ?_
  refine At.then ?_
  refine Cd.seq ?_
  refine Cd.region ?_
  refine Lst.run rfl rfl (by decide) (Ev.fieldAddr (off' := 0) rfl Try.runUnderlying49 rfl Try.sizeOf3 rfl rfl) ?_
  refine Lst.run rfl rfl (by decide) (Ev.load (i := 0) rfl rfl Try.isAgg3 (v := .int .i64 x11.A) ((Pair.get_A (Get.here _)).off (by rfl))) ?_
  refine Lst.run rfl rfl (by decide) (Ev.lss rfl rfl) ?_
  refine Lst.run rfl rfl (by decide) (Ev.move rfl) ?_
  obtain ⟨o16, H, HKo16⟩ := bind_some H
  refine Lst.join (σ := Bool) 4 (fun y17 => [(0, .int .i64 a0), (1, .int .i64 a1), (8, .pointer (some ⟨b14, 0, none⟩)), (22, Sl.v s_a2), (23, .int .i64 (a2.length : Int)), (24, .int .i64 (i8 : Int)), (35, .bool y17)]) (fun y17 => (.blk b14 (enc x11) 49) :: L) (fun _ y17 => y17 = o16) ?_ ?_
  · rcases Bool.eq_false_or_eq_true (decide (x11.A < (0 : Int))) with hb18 | hb18
    · replace H := ite_t hb18 H
      refine Lst.skip rfl rfl rfl hb18 rfl (by decide) ?_
      refine Lst.skip rfl rfl rfl hb18 rfl (by decide) ?_
      refine Lst.skip rfl rfl rfl hb18 rfl (by decide) ?_
      refine Lst.run rfl rfl (by decide) (Ev.pickT rfl hb18 rfl) ?_
      refine Lst.nil ?_
      exact At.meet true (FLe.refl _) ⟨rfl, rfl, rfl, rfl, rfl, rfl, rfl, trivial⟩ rfl (some_inj H)
    replace H := ite_f hb18 H
    refine Lst.runG rfl rfl rfl hb18 rfl (by decide) (Ev.fieldAddr (off' := 1) rfl Try.runUnderlying49 rfl Try.sizeOf3 rfl rfl) ?_
    refine Lst.runG rfl rfl rfl hb18 rfl (by decide) (Ev.load (i := 0) rfl rfl Try.isAgg3 (v := .int .i64 x11.B) ((Pair.get_B (Get.here _)).off (by rfl))) ?_
    refine Lst.runG rfl rfl rfl hb18 rfl (by decide) (Ev.lss rfl rfl) ?_
    refine Lst.run rfl rfl (by decide) (Ev.pickF rfl hb18 rfl) ?_
    refine Lst.nil ?_
    exact At.meet (decide (x11.B < (0 : Int))) (FLe.refl _) ⟨rfl, rfl, rfl, rfl, rfl, rfl, rfl, trivial⟩ rfl (some_inj H)
  rintro F19 y17 hF20 hy
  subst hy
  refine Lst.as (e' := [(0, .int .i64 a0), (1, .int .i64 a1), (8, .pointer (some ⟨b14, 0, none⟩)), (22, Sl.v s_a2), (23, .int .i64 (a2.length : Int)), (24, .int .i64 (i8 : Int)), (35, .bool y17)]) (L' := (.blk b14 (enc x11) 49) :: L) ⟨rfl, rfl, rfl, rfl, rfl, rfl, rfl, trivial⟩ rfl ?_
  replace H := HKo16
  refine Lst.run rfl rfl (by decide) (Ev.move rfl) ?_
  obtain ⟨o21, H, HKo21⟩ := bind_some H
  refine Lst.join (σ := Bool) 5 (fun y22 => [(0, .int .i64 a0), (1, .int .i64 a1), (8, .pointer (some ⟨b14, 0, none⟩)), (22, Sl.v s_a2), (23, .int .i64 (a2.length : Int)), (24, .int .i64 (i8 : Int)), (41, .bool y22)]) (fun y22 => (.blk b14 (enc x11) 49) :: L) (fun _ y22 => y22 = o21) ?_ ?_
  · rcases Bool.eq_false_or_eq_true y17 with hb23 | hb23
    · replace H := ite_t hb23 H
      refine Lst.skip rfl rfl rfl hb23 rfl (by decide) ?_
      refine Lst.skip rfl rfl rfl hb23 rfl (by decide) ?_
      refine Lst.skip rfl rfl rfl hb23 rfl (by decide) ?_
      refine Lst.skip rfl rfl rfl hb23 rfl (by decide) ?_
      refine Lst.run rfl rfl (by decide) (Ev.pickT rfl hb23 rfl) ?_
      refine Lst.nil ?_
      exact At.meet true (FLe.refl _) ⟨rfl, rfl, rfl, rfl, rfl, rfl, rfl, trivial⟩ rfl (some_inj H)
    replace H := ite_f hb23 H
    refine Lst.runG rfl rfl rfl hb23 rfl (by decide) (Ev.fieldAddr (off' := 0) rfl Try.runUnderlying49 rfl Try.sizeOf3 rfl rfl) ?_
    refine Lst.runG rfl rfl rfl hb23 rfl (by decide) (Ev.load (i := 0) rfl rfl Try.isAgg3 (v := .int .i64 x11.A) ((Pair.get_A (Get.here _)).off (by rfl))) ?_
    refine Lst.runG rfl rfl rfl hb23 rfl (by decide) (Ev.move rfl) ?_
    refine Lst.runG rfl rfl rfl hb23 rfl (by decide) (Ev.geq rfl rfl) ?_
    refine Lst.run rfl rfl (by decide) (Ev.pickF rfl hb23 rfl) ?_
    refine Lst.nil ?_
    exact At.meet (decide (x11.A ≥ a0)) (FLe.refl _) ⟨rfl, rfl, rfl, rfl, rfl, rfl, rfl, trivial⟩ rfl (some_inj H)
  rintro F24 y22 hF25 hy
  subst hy
  refine Lst.as (e' := [(0, .int .i64 a0), (1, .int .i64 a1), (8, .pointer (some ⟨b14, 0, none⟩)), (22, Sl.v s_a2), (23, .int .i64 (a2.length : Int)), (24, .int .i64 (i8 : Int)), (41, .bool y22)]) (L' := (.blk b14 (enc x11) 49) :: L) ⟨rfl, rfl, rfl, rfl, rfl, rfl, rfl, trivial⟩ rfl ?_
  replace H := HKo21
  refine Lst.run rfl rfl (by decide) (Ev.move rfl) ?_
  obtain ⟨o26, H, HKo26⟩ := bind_some H
  refine Lst.join (σ := Bool) 5 (fun y27 => [(0, .int .i64 a0), (1, .int .i64 a1), (22, Sl.v s_a2), (23, .int .i64 (a2.length : Int)), (24, .int .i64 (i8 : Int)), (47, .bool y27)]) (fun y27 => (.blk b14 (enc x11) 49) :: L) (fun _ y27 => y27 = o26) ?_ ?_
  · rcases Bool.eq_false_or_eq_true y22 with hb28 | hb28
    · replace H := ite_t hb28 H
      refine Lst.skip rfl rfl rfl hb28 rfl (by decide) ?_
      refine Lst.skip rfl rfl rfl hb28 rfl (by decide) ?_
      refine Lst.skip rfl rfl rfl hb28 rfl (by decide) ?_
      refine Lst.skip rfl rfl rfl hb28 rfl (by decide) ?_
      refine Lst.run rfl rfl (by decide) (Ev.pickT rfl hb28 rfl) ?_
      refine Lst.nil ?_
      exact At.meet true (FLe.refl _) ⟨rfl, rfl, rfl, rfl, rfl, rfl, trivial⟩ rfl (some_inj H)
    replace H := ite_f hb28 H
    refine Lst.runG rfl rfl rfl hb28 rfl (by decide) (Ev.fieldAddr (off' := 1) rfl Try.runUnderlying49 rfl Try.sizeOf3 rfl rfl) ?_
    refine Lst.runG rfl rfl rfl hb28 rfl (by decide) (Ev.load (i := 0) rfl rfl Try.isAgg3 (v := .int .i64 x11.B) ((Pair.get_B (Get.here _)).off (by rfl))) ?_
    refine Lst.runG rfl rfl rfl hb28 rfl (by decide) (Ev.move rfl) ?_
    refine Lst.runG rfl rfl rfl hb28 rfl (by decide) (Ev.geq rfl rfl) ?_
    refine Lst.run rfl rfl (by decide) (Ev.pickF rfl hb28 rfl) ?_
    refine Lst.nil ?_
    exact At.meet (decide (x11.B ≥ a1)) (FLe.refl _) ⟨rfl, rfl, rfl, rfl, rfl, rfl, trivial⟩ rfl (some_inj H)
  rintro F29 y27 hF30 hy
  subst hy
  refine Lst.as (e' := [(0, .int .i64 a0), (1, .int .i64 a1), (22, Sl.v s_a2), (23, .int .i64 (a2.length : Int)), (24, .int .i64 (i8 : Int)), (47, .bool y27)]) (L' := (.blk b14 (enc x11) 49) :: L) ⟨rfl, rfl, rfl, rfl, rfl, rfl, trivial⟩ rfl ?_
  replace H := HKo26
  refine Lst.nil ?_
  refine At.then ?_
  rcases Bool.eq_false_or_eq_true y27 with hb31 | hb31
  · replace H := ite_t hb31 H
    refine Cd.condT rfl hb31 ?_
    refine Cd.seq ?_
    refine Cd.region ?_
    refine Lst.run rfl rfl (by decide) (Ev.assign rfl) ?_
    refine Lst.nil ?_
    refine At.then ?_
    have H := hret8 _ (some_inj H).symm
    subst H
    replace H := HKl8
    obtain rfl := some_inj H
    refine Cd.ret ?_
    refine At.in_ret ?_
    refine At.then_ret ?_
    refine At.then_ret ?_
    refine At.in_ret ?_
    refine At.then_ret ?_
    exact At.ret1 rfl (Res.tmp rfl) (FLe.trans (FLe.trans (FLe.trans (FLe.trans hF5 hF10) hF20) hF25) hF30) (List.Sublist.cons _ (List.Sublist.refl _)) ⟨rfl, rfl⟩
  replace H := ite_f hb31 H
  refine Cd.condF rfl hb31 ?_
  refine Cd.skip ?_
  refine At.in_normal ?_
  refine At.then ?_
  refine Cd.region ?_
  refine Lst.run rfl rfl (by decide) (Ev.incr (by omega) rfl rfl) ?_
  refine Lst.run rfl rfl (by decide) (Ev.move rfl) ?_
  refine Lst.nil ?_
  refine At.less (L' := L) (List.Sublist.cons _ (List.Sublist.refl _)) ?_
  exact At.meet (i8 + 1, k8, ()) (FLe.trans (FLe.trans (FLe.trans hF10 hF20) hF25) hF30) ⟨rfl, rfl, rfl, rfl, rfl, trivial⟩ rfl ⟨⟨hgo8 _ (some_inj H).symm, by omega⟩, Nat.lt_succ_self _⟩
set_option maxRecDepth 20000 in
theorem partref_Closure_sim {fu : Nat} {a0 : Int} {a1 : List Pair} {s_a1 : Sl} {r : (List (List Bool))} (H : partref_Closure fu a0 a1 = some r) (w0 : World) (F : Frz) (M L : List Item) (hM : M.Sublist L) (hs_a1 : Rd w0 F M s_a1 a1) : Ok Try.prog w0 45 [.int .i64 a0, Sl.v s_a1] F (L) (fun Fx L' v => ∃ (s1 : Sl) (rs2 : List (LR Bool)), v = Sl.v s1 ∧ L' = (.rows (α := Bool) 4 rs2) :: (.own s1 75 1 (encs rs2)) :: L ∧ rs2.map LR.v = r) := by
  unfold partref_Closure at H
  refine Ok.enter (m := 2) (n := 68) Try.func45 rfl rfl rfl (by decide) ?_
  refine Cd.env (e' := [(0, .int .i64 a0), (1, Sl.v s_a1)]) rfl ?_
  refine Cd.seq ?_
  refine Cd.region ?_
  have ha2 : All LR.rel w0 F [] ([] : List (LR Bool)) := All.nil
  have ha2m : List.map LR.v ([] : List (LR Bool)) = ([] : List (List Bool)) := rfl
  refine Lst.addNil 75 1 ?_
  refine Lst.run rfl rfl (by decide) (Ev.assign rfl) ?_
  refine Lst.nil ?_
  refine At.then ?_
  refine Cd.seq ?_
  refine Cd.region ?_
  refine Lst.run rfl rfl (by decide) (Ev.move rfl) ?_
  obtain ⟨n3, h4, H⟩ := bind_some H
  have g5 := mkLen_some h4
  have hm8 : (List.replicate n3 ((LR.mk [] Sl.nil) : LR Bool)).map LR.v = (List.replicate n3 ([] : List Bool)) := map_rep _ _
  refine Lst.make (α := LR Bool) (z0 := ((LR.mk [] Sl.nil) : LR Bool)) (k := n3) rfl rfl (by decide) (congrArg some (congrArg (Value.int .i64) g5.1)) (congrArg some (congrArg (Value.int .i64) g5.1)) Try.runUnderlying73 Try.typeInfo75 rfl rfl rfl rfl rfl g5.2 rfl (fun s6 => ?_)
  refine Lst.rowsNil Bool 4 n3 ?_
  refine Lst.its (L' := (.rows (α := Bool) 4 (List.replicate n3 ((LR.mk [] Sl.nil) : LR Bool))) :: (.own s6 75 1 (encs (List.replicate n3 ((LR.mk [] Sl.nil) : LR Bool)))) :: (.own Sl.nil 75 1 (encs ([] : List (LR Bool)))) :: L) rfl ?_
  refine Lst.run rfl rfl (by decide) (Ev.assign rfl) ?_
  refine Lst.nil ?_
  refine At.then ?_
  refine Cd.seq ?_
  refine Cd.seq ?_
  refine Cd.region ?_
  refine Lst.run rfl rfl (by decide) (Ev.move rfl) ?_
  refine Lst.run rfl rfl (by decide) (Ev.move rfl) ?_
  refine Lst.nil ?_
  refine At.then ?_
  refine Cd.block ?_
  obtain ⟨nn17, hN93, H⟩ := bind_some H
  replace hN93 := upTo_some hN93
  obtain ⟨ol11, H, HKl11⟩ := bind_some H
  refine Cd.loop (σ := Nat × Nat × (List (List Bool)) × (List (LR Bool))) (fun (i11, k11, l12, rs13) => [(0, .int .i64 a0), (1, Sl.v s_a1), (5, Sl.v s6), (13, .int .i64 a0), (14, .int .i64 (i11 : Int))]) (fun (i11, k11, l12, rs13) => (.rows (α := Bool) 4 rs13) :: (.own s6 75 1 (encs rs13)) :: (.own Sl.nil 75 1 (encs ([] : List (LR Bool)))) :: L) (fun Fx => (fun (i11, k11, l12, rs13) => rangeF (partref_Closure_B0 fu a0 a1) k11 i11 l12 = some ol11 ∧ i11 + k11 = nn17 ∧ rs13.map LR.v = l12)) (fun (i11, k11, l12, rs13) => k11) (0, nn17, (List.replicate n3 ([] : List Bool)), (List.replicate n3 ((LR.mk [] Sl.nil) : LR Bool))) ⟨rfl, rfl, rfl, rfl, rfl, trivial⟩ rfl ⟨H, by omega, hm8⟩ ?_
  rintro F15 ⟨i11, k11, l12, rs13⟩ hF16 ⟨H, hik11, fm14⟩
  refine Cd.as (e' := [(0, .int .i64 a0), (1, Sl.v s_a1), (5, Sl.v s6), (13, .int .i64 a0), (14, .int .i64 (i11 : Int))]) (L' := (.rows (α := Bool) 4 rs13) :: (.own s6 75 1 (encs rs13)) :: (.own Sl.nil 75 1 (encs ([] : List (LR Bool)))) :: L) ⟨rfl, rfl, rfl, rfl, rfl, trivial⟩ rfl ?_
  rcases k11 with _ | k11
  · have hc11 : decide ((i11 : Int) < a0) = false := decide_eq_false (by omega)
    replace H := rangeF_end H
    refine Cd.seq ?_
    refine Cd.region ?_
    refine Lst.run rfl rfl (by decide) (Ev.lss rfl rfl) ?_
    refine Lst.nil ?_
    refine At.then ?_
    refine Cd.seq ?_
    refine Cd.condF rfl hc11 ?_
    refine Cd.exit ?_
    refine At.then_exit ?_
    refine At.then_exit ?_
    refine At.in_exit ?_
    subst H
    replace H := HKl11
    refine At.then ?_
    refine Cd.seq ?_
    refine Cd.region ?_
    refine Lst.run rfl rfl (by decide) (Ev.move rfl) ?_
    refine Lst.run rfl rfl (by decide) (Ev.assign rfl) ?_
    refine Lst.nil ?_
    refine At.then ?_
    obtain rfl := some_inj H
    refine Cd.ret ?_
    exact At.ret1 rfl (Res.tmp rfl) hF16 (List.Sublist.cons_cons _ (List.Sublist.cons_cons _ (List.Sublist.cons _ (List.Sublist.refl _)))) ⟨s6, rs13, rfl, rfl, fm14⟩
  have hc11 : decide ((i11 : Int) < a0) = true := decide_eq_true (by omega)
  obtain ⟨c11, H, hgo11⟩ := rangeF_go H
  unfold partref_Closure_B0 at H
  try dsimp only at H
  refine Cd.seq ?_
  refine Cd.region ?_
  refine Lst.run rfl rfl (by decide) (Ev.lss rfl rfl) ?_
  refine Lst.nil ?_
  refine At.then ?_
  refine Cd.seq ?_
  refine Cd.condT rfl hc11 ?_
  refine Cd.skip ?_
  refine At.then ?_
  refine Cd.seq ?_
  refine Cd.block ?_
  refine Cd.seq ?_
  refine Cd.region ?_
  refine Lst.run rfl rfl (by decide) (Ev.move rfl) ?_
  refine Lst.run rfl rfl (by decide) (Ev.assign rfl) ?_
  refine Lst.nil ?_
  refine At.then ?_
  refine Cd.seq ?_
  refine Cd.region ?_
  refine Lst.run rfl rfl (by decide) (Ev.move rfl) ?_
  refine Lst.run rfl rfl (by decide) (Ev.move rfl) ?_
  refine Lst.run rfl rfl (by decide) (Ev.move rfl) ?_
  obtain ⟨n18, h19, H⟩ := bind_some H
  have g20 := mkLen_some h19
  refine Lst.make (α := Bool) (z0 := false) (k := n18) rfl rfl (by decide) (congrArg some (congrArg (Value.int .i64) g20.1)) (congrArg some (congrArg (Value.int .i64) g20.1)) Try.runUnderlying75 Try.typeInfo4 rfl rfl rfl rfl rfl g20.2 rfl (fun s21 => ?_)
  obtain ⟨x23, h24, H⟩ := bind_some H
  have g25 := lat_some h24
  obtain ⟨⟨r26v, r26h⟩, r26g, r26e, r26m⟩ := map_get fm14 g25.2.2
  obtain rfl : x23 = r26v := r26e.symm
  have hh27 := row_h r26g
  refine Lst.run rfl rfl (by decide) (Ev.indexS (α := LR Bool) (xs := rs13) rfl rfl Try.runUnderlying73 Try.sizeOf75 rfl (by decide) (Rd.own (i := 2) rfl rfl rfl) g25.1 (by have := map_len fm14; omega)) ?_
  obtain ⟨p28, h29, H⟩ := Let_some H
  have hm30 : (rs13.set (i11 : Int).toNat (LR.mk (List.replicate n18 false) s21)).map LR.v = p28 := (map_set fm14 _ _).trans h29
  refine Lst.storeS (i := 2) rfl rfl rfl rfl rfl Try.sizeOf75 (vs := [Sl.v s21]) rfl rfl (by decide) rfl (xs' := encs (rs13.set (i11 : Int).toNat (LR.mk (List.replicate n18 false) s21))) ((Put.elemN (s := 1) (y := (LR.mk (List.replicate n18 false) s21)) rfl r26g (Put.here (vs := [Sl.v s21]) rfl)).off (by omega)) (L' := (.own s21 4 1 (encs (List.replicate n18 false))) :: (.rows (α := Bool) 4 rs13) :: (.own s6 75 1 (encs (rs13.set (i11 : Int).toNat (LR.mk (List.replicate n18 false) s21)))) :: (.own Sl.nil 75 1 (encs ([] : List (LR Bool)))) :: L) rfl ?_
  refine Lst.rowIn (k := (i11 : Int).toNat) r26g rfl ?_
  refine Lst.its (L' := (.rows (α := Bool) 4 (rs13.set (i11 : Int).toNat (LR.mk (List.replicate n18 false) s21))) :: (.own s6 75 1 (encs (rs13.set (i11 : Int).toNat (LR.mk (List.replicate n18 false) s21)))) :: (.own Sl.nil 75 1 (encs ([] : List (LR Bool)))) :: L) rfl ?_
  refine Lst.nil ?_
  refine At.then ?_
  refine Cd.seq ?_
  refine Cd.region ?_
  refine Lst.run rfl rfl (by decide) (Ev.move rfl) ?_
  refine Lst.buildSlice (α := Int) (xs := ([(i11 : Int)] : List Int)) (pv := [(0, .int .i64 (i11 : Int))]) rfl rfl (by decide) ⟨rfl, rfl, trivial⟩ (run_buildSlice (α := Int) (z0 := (0 : Int)) (xs := ([(i11 : Int)] : List Int)) Try.runUnderlying34 Try.sizeOf3 Try.zeroValue3 rfl rfl rfl (by decide) rfl (fill_cons (cs := encs (List.replicate 1 (0 : Int))) (cs' := encs ((List.replicate 1 (0 : Int)).set 0 (i11 : Int))) (vs := [.int .i64 (i11 : Int)]) rfl rfl rfl ((Put.elemN (s := 1) (i := 0) (x := (0 : Int)) (y := (i11 : Int)) rfl rfl (Put.here (vs := [.int .i64 (i11 : Int)]) rfl)).off rfl) fill_nil)) rfl rfl (by decide) (fun s31 _ => ?_)
  refine Lst.run rfl rfl (by decide) (Ev.assign rfl) ?_
  refine Lst.nil ?_
  refine At.then ?_
  refine Cd.block ?_
  obtain ⟨ol33, H, HKl33⟩ := andThen_some H
  refine Cd.loop (σ := Nat × Sl × (List Int) × (List (List Bool)) × (List (LR Bool))) (fun (k33, s34, l35, l36, rs37) => [(0, .int .i64 a0), (1, Sl.v s_a1), (5, Sl.v s6), (6, .int .i64 (i11 : Int)), (7, Sl.v s34), (13, .int .i64 a0), (14, .int .i64 (i11 : Int))]) (fun (k33, s34, l35, l36, rs37) => (.own s34 3 1 (encs l35)) :: (.rows (α := Bool) 4 rs37) :: (.own s6 75 1 (encs rs37)) :: (.own Sl.nil 75 1 (encs ([] : List (LR Bool)))) :: L) (fun Fx => (fun (k33, s34, l35, l36, rs37) => whileM (partref_Closure_B2 a1 i11) k33 (l35, l36) = some ol33 ∧ rs37.map LR.v = l36)) (fun (k33, s34, l35, l36, rs37) => k33) (fu, s31, ([(i11 : Int)] : List Int), p28, (rs13.set (i11 : Int).toNat (LR.mk (List.replicate n18 false) s21))) ⟨rfl, rfl, rfl, rfl, rfl, rfl, rfl, trivial⟩ rfl ⟨H, hm30⟩ ?_
  rintro F39 ⟨k33, s34, l35, l36, rs37⟩ hF40 ⟨H, fm38⟩
  refine Cd.as (e' := [(0, .int .i64 a0), (1, Sl.v s_a1), (5, Sl.v s6), (6, .int .i64 (i11 : Int)), (7, Sl.v s34), (13, .int .i64 a0), (14, .int .i64 (i11 : Int))]) (L' := (.own s34 3 1 (encs l35)) :: (.rows (α := Bool) 4 rs37) :: (.own s6 75 1 (encs rs37)) :: (.own Sl.nil 75 1 (encs ([] : List (LR Bool)))) :: L) ⟨rfl, rfl, rfl, rfl, rfl, rfl, rfl, trivial⟩ rfl ?_
  rcases k33 with _ | k33
  · cases H
  obtain ⟨c33, H, hgo33, hbrk33, hret33⟩ := whileM_go H
  unfold partref_Closure_B2 at H
  try dsimp only at H
  refine Cd.seq ?_
  refine Cd.seq ?_
  refine Cd.region ?_
  refine Lst.run rfl rfl (by decide) (Ev.move rfl) ?_
  refine Lst.run rfl rfl (by decide) (Ev.lenS (α := Int) (xs := l35) (by decide) rfl rfl Try.runUnderlying34 (Rd.own (i := 0) rfl rfl rfl)) ?_
  refine Lst.run rfl rfl (by decide) (Ev.gtr rfl rfl) ?_
  refine Lst.nil ?_
  refine At.then ?_
  rcases (Bool.eq_false_or_eq_true (decide ((l35.length : Int) > (0 : Int)))).symm with hb41 | hb41
  · replace H := ite_f hb41 H
    refine Cd.condF rfl hb41 ?_
    refine Cd.exit ?_
    refine At.then_exit ?_
    refine At.then_exit ?_
    refine At.in_exit ?_
    have H := hbrk33 _ (some_inj H).symm
    subst H
    replace H := HKl33
    refine At.in_normal ?_
    refine At.then ?_
    refine Cd.region ?_
    refine Lst.run rfl rfl (by decide) (Ev.incr (by omega) rfl rfl) ?_
    refine Lst.run rfl rfl (by decide) (Ev.move rfl) ?_
    refine Lst.nil ?_
    refine At.less (L' := (.rows (α := Bool) 4 rs37) :: (.own s6 75 1 (encs rs37)) :: (.own Sl.nil 75 1 (encs ([] : List (LR Bool)))) :: L) (List.Sublist.cons _ (List.Sublist.cons_cons _ (List.Sublist.cons_cons _ (List.Sublist.cons_cons _ (List.Sublist.refl _))))) ?_
    exact At.meet (i11 + 1, k11, l36, rs37) (FLe.trans hF16 hF40) ⟨rfl, rfl, rfl, rfl, rfl, trivial⟩ rfl ⟨⟨hgo11 _ (some_inj H).symm, by omega, fm38⟩, Nat.lt_succ_self _⟩
  replace H := ite_t hb41 H
  refine Cd.condT rfl hb41 ?_
  refine Cd.skip ?_
  refine At.then ?_
  refine Cd.block ?_
  refine Cd.seq ?_
  refine Cd.region ?_
  refine Lst.run rfl rfl (by decide) (Ev.move rfl) ?_
  obtain ⟨x42, h43, H⟩ := bind_some H
  have g44 := lat_some h43
  refine Lst.run rfl rfl (by decide) (Ev.indexS (α := Int) (xs := l35) rfl rfl Try.runUnderlying34 Try.sizeOf3 rfl (by decide) (Rd.own (i := 0) rfl rfl rfl) g44.1 g44.2.1) ?_
  refine Lst.run rfl rfl (by decide) (Ev.loadS (α := Int) rfl (Rd.own (i := 0) rfl rfl rfl) Try.isAgg3 (v := .int .i64 x42) ((Get.elemN (s := 1) (x := x42) rfl g44.2.2 (Get.here _)).off (by omega))) ?_
  refine Lst.run rfl rfl (by decide) (Ev.assign rfl) ?_
  refine Lst.nil ?_
  refine At.then ?_
  refine Cd.seq ?_
  refine Cd.region ?_
  refine Lst.run rfl rfl (by decide) (Ev.move rfl) ?_
  obtain ⟨m45, h46, H⟩ := bind_some H
  obtain ⟨g47, gl48⟩ := cutL_some h46
  try dsimp only at g47
  refine Lst.run rfl rfl (by decide) (Ev.cut (α := Int) (xs := l35) (i := (1 : Int)) (j := (l35.length : Int)) rfl rfl rfl Try.runUnderlying34 Try.sizeOf3 rfl (by decide) (Rd.own (i := 0) rfl rfl rfl) g47.1 g47.2.1 g47.2.2) ?_
  refine Lst.cutOwn (i := 0) (α := Int) (lo := ((1 : Int) : Int).toNat) (hi := ((l35.length : Int) : Int).toNat) rfl rfl rfl (by decide) (by omega) (by omega) (L' := (.own (s34.cut ((1 : Int) : Int).toNat ((l35.length : Int) : Int).toNat 1) 3 1 (encs m45)) :: (.rows (α := Bool) 4 rs37) :: (.own s6 75 1 (encs rs37)) :: (.own Sl.nil 75 1 (encs ([] : List (LR Bool)))) :: L) (by subst gl48; rfl) ?_
  refine Lst.run rfl rfl (by decide) (Ev.assign rfl) ?_
  refine Lst.nil ?_
  refine At.then ?_
  refine Cd.seq ?_
  refine Cd.region ?_
  refine Lst.run rfl rfl (by decide) (Ev.move rfl) ?_
  refine Lst.run rfl rfl (by decide) (Ev.lenS (α := Pair) (xs := a1) (by decide) rfl rfl Try.runUnderlying22 (hs_a1.mono (FLe.trans hF16 hF40) (List.Sublist.cons _ (List.Sublist.cons _ (List.Sublist.cons _ (List.Sublist.cons _ hM)))))) ?_
  refine Lst.run rfl rfl (by decide) (Ev.move rfl) ?_
  refine Lst.nil ?_
  refine At.then ?_
  refine Cd.block ?_
  refine Cd.bound (Rd.le (α := Pair) (xs := a1) (by decide) (hs_a1.mono (FLe.trans hF16 hF40) (List.Sublist.cons _ (List.Sublist.cons _ (List.Sublist.cons _ (List.Sublist.cons _ hM)))))) (fun hN92 => ?_)
  obtain ⟨ol50, H, HKl50⟩ := bind_some H
  refine Cd.loop (σ := Nat × Nat × Sl × (List Int) × (List (List Bool)) × (List (LR Bool))) (fun (i50, k50, s51, l52, l53, rs54) => [(0, .int .i64 a0), (1, Sl.v s_a1), (5, Sl.v s6), (6, .int .i64 (i11 : Int)), (7, Sl.v s51), (8, .int .i64 x42), (13, .int .i64 a0), (14, .int .i64 (i11 : Int)), (32, Sl.v s_a1), (33, .int .i64 (a1.length : Int)), (34, .int .i64 (i50 : Int))]) (fun (i50, k50, s51, l52, l53, rs54) => (.own s51 3 1 (encs l52)) :: (.rows (α := Bool) 4 rs54) :: (.own s6 75 1 (encs rs54)) :: (.own Sl.nil 75 1 (encs ([] : List (LR Bool)))) :: L) (fun Fx => (fun (i50, k50, s51, l52, l53, rs54) => rangeF (partref_Closure_B4 a1 i11 x42) k50 i50 (l52, l53) = some ol50 ∧ i50 + k50 = a1.length ∧ rs54.map LR.v = l53)) (fun (i50, k50, s51, l52, l53, rs54) => k50) (0, a1.length, (s34.cut ((1 : Int) : Int).toNat ((l35.length : Int) : Int).toNat 1), m45, l36, rs37) ⟨rfl, rfl, rfl, rfl, rfl, rfl, rfl, rfl, rfl, rfl, rfl, trivial⟩ rfl ⟨H, by omega, fm38⟩ ?_
  rintro F56 ⟨i50, k50, s51, l52, l53, rs54⟩ hF57 ⟨H, hik50, fm55⟩
  refine Cd.as (e' := [(0, .int .i64 a0), (1, Sl.v s_a1), (5, Sl.v s6), (6, .int .i64 (i11 : Int)), (7, Sl.v s51), (8, .int .i64 x42), (13, .int .i64 a0), (14, .int .i64 (i11 : Int)), (32, Sl.v s_a1), (33, .int .i64 (a1.length : Int)), (34, .int .i64 (i50 : Int))]) (L' := (.own s51 3 1 (encs l52)) :: (.rows (α := Bool) 4 rs54) :: (.own s6 75 1 (encs rs54)) :: (.own Sl.nil 75 1 (encs ([] : List (LR Bool)))) :: L) ⟨rfl, rfl, rfl, rfl, rfl, rfl, rfl, rfl, rfl, rfl, rfl, trivial⟩ rfl ?_
  rcases k50 with _ | k50
  · have hc50 : decide ((i50 : Int) < (a1.length : Int)) = false := decide_eq_false (by omega)
    replace H := rangeF_end H
    refine Cd.seq ?_
    refine Cd.region ?_
    refine Lst.run rfl rfl (by decide) (Ev.lss rfl rfl) ?_
    refine Lst.nil ?_
    refine At.then ?_
    refine Cd.seq ?_
    refine Cd.condF rfl hc50 ?_
    refine Cd.exit ?_
    refine At.then_exit ?_
    refine At.then_exit ?_
    refine At.in_exit ?_
    subst H
    replace H := HKl50
    refine At.in_normal ?_
    exact At.meet (k33, s51, l52, l53, rs54) (FLe.trans hF40 hF57) ⟨rfl, rfl, rfl, rfl, rfl, rfl, rfl, trivial⟩ rfl ⟨⟨hgo33 _ (some_inj H).symm, fm55⟩, Nat.lt_succ_self _⟩
  have hc50 : decide ((i50 : Int) < (a1.length : Int)) = true := decide_eq_true (by omega)
  obtain ⟨c50, H, hgo50⟩ := rangeF_go H
  unfold partref_Closure_B4 at H
  try dsimp only at H
  refine Cd.seq ?_
  refine Cd.region ?_
  refine Lst.run rfl rfl (by decide) (Ev.lss rfl rfl) ?_
  refine Lst.nil ?_
  refine At.then ?_
  refine Cd.seq ?_
  refine Cd.condT rfl hc50 ?_
  refine Cd.skip ?_
  refine At.then ?_
  refine Cd.seq ?_
  refine Cd.block ?_
  refine Cd.seq ?_
  refine Cd.region ?_
  obtain ⟨x58, h59, H⟩ := bind_some H
  have g60 := lat_some h59
  refine Lst.run rfl rfl (by decide) (Ev.indexS (α := Pair) (xs := a1) rfl rfl Try.runUnderlying22 Try.sizeOf49 rfl (by decide) (hs_a1.mono (FLe.trans (FLe.trans hF16 hF40) hF57) (List.Sublist.cons _ (List.Sublist.cons _ (List.Sublist.cons _ (List.Sublist.cons _ hM))))) g60.1 g60.2.1) ?_
  refine Lst.run rfl rfl (by decide) (Ev.loadSA (α := Pair) rfl (hs_a1.mono (FLe.trans (FLe.trans hF16 hF40) hF57) (List.Sublist.cons _ (List.Sublist.cons _ (List.Sublist.cons _ (List.Sublist.cons _ hM))))) Try.isAgg49 Try.sizeOf49 (ch := enc x58) (Enc.len _) (by decide) ((Get.elemN (s := 2) (x := x58) rfl g60.2.2 (Get.here _)).off (by omega))) ?_
  refine Lst.alloc (cs := enc Pair.zero) rfl rfl (by decide) Try.zeroValue49 rfl (fun b61 => ?_)
  refine Lst.store (i := 0) rfl rfl rfl rfl rfl Try.sizeOf49 (vs := enc x58) rfl (Enc.len _) (Enc.one _) (cs' := enc x58) (Put.here ((Enc.len _).trans (Enc.len _).symm)) (L' := (.blk b61 (enc x58) 49) :: (.own s51 3 1 (encs l52)) :: (.rows (α := Bool) 4 rs54) :: (.own s6 75 1 (encs rs54)) :: (.own Sl.nil 75 1 (encs ([] : List (LR Bool)))) :: L) rfl ?_
  refine Lst.nil ?_
  refine At.then ?_
  refine Cd.seq ?_
  refine Cd.quiet (by kernel_rfl) (by kernel_rfl) ?_
  refine Qt.run rfl rfl (by decide) (Ev.fieldAddr (off' := 0) rfl Try.runUnderlying49 rfl Try.sizeOf3 rfl rfl) ?_
  refine Qt.run rfl rfl (by decide) (Ev.load (i := 0) rfl rfl Try.isAgg3 (v := .int .i64 x58.A) ((Pair.get_A (Get.here _)).off (by rfl))) ?_
  refine Qt.run rfl rfl (by decide) (Ev.move rfl) ?_
  refine Qt.run rfl rfl (by decide) (Ev.eql rfl rfl) ?_
  refine Qt.run rfl rfl (by decide) (Ev.move rfl) ?_
  obtain ⟨o63, H, HKo63⟩ := bind_some H
  refine Qt.join (σ := Bool) 10 (fun y64 => [(0, .int .i64 a0), (1, Sl.v s_a1), (5, Sl.v s6), (6, .int .i64 (i11 : Int)), (7, Sl.v s51), (8, .int .i64 x42), (10, .pointer (some ⟨b61, 0, none⟩)), (13, .int .i64 a0), (14, .int .i64 (i11 : Int)), (32, Sl.v s_a1), (33, .int .i64 (a1.length : Int)), (34, .int .i64 (i50 : Int)), (52, .bool y64)]) (fun y64 => y64 = o63) ?_ ?_
  · rcases (Bool.eq_false_or_eq_true (x58.A == x42)).symm with hb65 | hb65
    · replace H := ite_f hb65 H
      refine Qt.skip rfl rfl rfl hb65 rfl (by decide) ?_
      refine Qt.skip rfl rfl rfl hb65 rfl (by decide) ?_
      refine Qt.skip rfl rfl rfl hb65 rfl (by decide) ?_
      refine Qt.skip rfl rfl rfl hb65 rfl (by decide) ?_
      refine Qt.skip rfl rfl rfl hb65 rfl (by decide) ?_
      refine Qt.skip rfl rfl rfl hb65 rfl (by decide) ?_
      refine Qt.skip rfl rfl rfl hb65 rfl (by decide) ?_
      refine Qt.skip rfl rfl rfl hb65 rfl (by decide) ?_
      refine Qt.skip rfl rfl rfl hb65 rfl (by decide) ?_
      refine Qt.run rfl rfl (by decide) (Ev.pickF rfl hb65 rfl) ?_
      exact Qt.meet false ⟨rfl, rfl, rfl, rfl, rfl, rfl, rfl, rfl, rfl, rfl, rfl, rfl, rfl, trivial⟩ (some_inj H)
    replace H := ite_t hb65 H
    refine Qt.runG rfl rfl rfl hb65 rfl (by decide) (Ev.move rfl) ?_
    refine Qt.runG rfl rfl rfl hb65 rfl (by decide) (Ev.move rfl) ?_
    obtain ⟨x66, h67, H⟩ := bind_some H
    have g68 := lat_some h67
    obtain ⟨⟨r69v, r69h⟩, r69g, r69e, r69m⟩ := map_get fm55 g68.2.2
    obtain rfl : x66 = r69v := r69e.symm
    have hh70 := row_h r69g
    refine Qt.runG rfl rfl rfl hb65 rfl (by decide) (Ev.indexS (α := LR Bool) (xs := rs54) rfl rfl Try.runUnderlying73 Try.sizeOf75 rfl (by decide) (Rd.own (i := 3) rfl rfl rfl) g68.1 (by have := map_len fm55; omega)) ?_
    refine Qt.runG rfl rfl rfl hb65 rfl (by decide) (Ev.loadS (α := LR Bool) rfl (Rd.own (i := 3) rfl rfl rfl) Try.isAgg75 (v := Sl.v r69h) ((Get.elemN (s := 1) rfl r69g (Get.here _)).off (by omega))) ?_
    refine Qt.runG rfl rfl rfl hb65 rfl (by decide) (Ev.fieldAddr (off' := 1) rfl Try.runUnderlying49 rfl Try.sizeOf3 rfl rfl) ?_
    refine Qt.runG rfl rfl rfl hb65 rfl (by decide) (Ev.load (i := 0) rfl rfl Try.isAgg3 (v := .int .i64 x58.B) ((Pair.get_B (Get.here _)).off (by rfl))) ?_
    obtain ⟨x71, h72, H⟩ := bind_some H
    have g73 := lat_some h72
    refine Qt.runG rfl rfl rfl hb65 rfl (by decide) (Ev.indexS (α := Bool) (xs := x66) rfl rfl Try.runUnderlying75 Try.sizeOf4 rfl (by decide) (Rd.row (j := 2) rfl r69g) g73.1 g73.2.1) ?_
    refine Qt.runG rfl rfl rfl hb65 rfl (by decide) (Ev.loadS (α := Bool) rfl (Rd.row (j := 2) rfl r69g) Try.isAgg4 (v := .bool x71) ((Get.elemN (s := 1) (x := x71) rfl g73.2.2 (Get.here _)).off (by omega))) ?_
    refine Qt.runG rfl rfl rfl hb65 rfl (by decide) (Ev.not rfl) ?_
    refine Qt.run rfl rfl (by decide) (Ev.pickT rfl hb65 rfl) ?_
    exact Qt.meet (!x71) ⟨rfl, rfl, rfl, rfl, rfl, rfl, rfl, rfl, rfl, rfl, rfl, rfl, rfl, trivial⟩ (some_inj H)
  rintro y64 hy
  subst hy
  refine Qt.as (e' := [(0, .int .i64 a0), (1, Sl.v s_a1), (5, Sl.v s6), (6, .int .i64 (i11 : Int)), (7, Sl.v s51), (8, .int .i64 x42), (10, .pointer (some ⟨b61, 0, none⟩)), (13, .int .i64 a0), (14, .int .i64 (i11 : Int)), (32, Sl.v s_a1), (33, .int .i64 (a1.length : Int)), (34, .int .i64 (i50 : Int)), (52, .bool y64)]) ⟨rfl, rfl, rfl, rfl, rfl, rfl, rfl, rfl, rfl, rfl, rfl, rfl, rfl, trivial⟩ ?_
  replace H := HKo63
  refine Qt.done ?_
  refine At.then ?_
  rcases (Bool.eq_false_or_eq_true y64).symm with hb74 | hb74
  · replace H := ite_f hb74 H
    refine Cd.condF rfl hb74 ?_
    refine Cd.skip ?_
    refine At.in_normal ?_
    refine At.then ?_
    refine Cd.region ?_
    refine Lst.run rfl rfl (by decide) (Ev.incr (by omega) rfl rfl) ?_
    refine Lst.run rfl rfl (by decide) (Ev.move rfl) ?_
    refine Lst.nil ?_
    refine At.less (L' := (.own s51 3 1 (encs l52)) :: (.rows (α := Bool) 4 rs54) :: (.own s6 75 1 (encs rs54)) :: (.own Sl.nil 75 1 (encs ([] : List (LR Bool)))) :: L) (List.Sublist.cons _ (List.Sublist.cons_cons _ (List.Sublist.cons_cons _ (List.Sublist.cons_cons _ (List.Sublist.cons_cons _ (List.Sublist.refl _)))))) ?_
    exact At.meet (i50 + 1, k50, s51, l52, l53, rs54) hF57 ⟨rfl, rfl, rfl, rfl, rfl, rfl, rfl, rfl, rfl, rfl, rfl, trivial⟩ rfl ⟨⟨hgo50 _ (some_inj H).symm, by omega, fm55⟩, Nat.lt_succ_self _⟩
  replace H := ite_t hb74 H
  refine Cd.condT rfl hb74 ?_
  refine Cd.seq ?_
  refine Cd.tail 7 (by kernel_rfl) (by kernel_rfl) ?_
  refine Qt.run rfl rfl (by decide) (Ev.move rfl) ?_
  refine Qt.run rfl rfl (by decide) (Ev.move rfl) ?_
  obtain ⟨x75, h76, H⟩ := bind_some H
  have g77 := lat_some h76
  obtain ⟨⟨r78v, r78h⟩, r78g, r78e, r78m⟩ := map_get fm55 g77.2.2
  obtain rfl : x75 = r78v := r78e.symm
  have hh79 := row_h r78g
  refine Qt.run rfl rfl (by decide) (Ev.indexS (α := LR Bool) (xs := rs54) rfl rfl Try.runUnderlying73 Try.sizeOf75 rfl (by decide) (Rd.own (i := 3) rfl rfl rfl) g77.1 (by have := map_len fm55; omega)) ?_
  refine Qt.run rfl rfl (by decide) (Ev.loadS (α := LR Bool) rfl (Rd.own (i := 3) rfl rfl rfl) Try.isAgg75 (v := Sl.v r78h) ((Get.elemN (s := 1) rfl r78g (Get.here _)).off (by omega))) ?_
  refine Qt.run rfl rfl (by decide) (Ev.fieldAddr (off' := 1) rfl Try.runUnderlying49 rfl Try.sizeOf3 rfl rfl) ?_
  refine Qt.run rfl rfl (by decide) (Ev.load (i := 0) rfl rfl Try.isAgg3 (v := .int .i64 x58.B) ((Pair.get_B (Get.here _)).off (by rfl))) ?_
  obtain ⟨x80, h81, H⟩ := bind_some H
  have g82 := lat_some h81
  refine Qt.run rfl rfl (by decide) (Ev.indexS (α := Bool) (xs := x75) rfl rfl Try.runUnderlying75 Try.sizeOf4 rfl (by decide) (Rd.row (j := 2) rfl r78g) g82.1 g82.2.1) ?_
  refine Qt.tail ?_
  obtain ⟨p83, h84, H⟩ := Let_some H
  have hm85 : (rs54.set (i11 : Int).toNat (LR.mk (x75.set x58.B.toNat true) r78h)).map LR.v = p83 := (map_set fm55 _ _).trans h84
  refine Lst.front (i := 2) rfl (L' := (.rows (α := Bool) 4 rs54) :: (.blk b61 (enc x58) 49) :: (.own s51 3 1 (encs l52)) :: (.own s6 75 1 (encs rs54)) :: (.own Sl.nil 75 1 (encs ([] : List (LR Bool)))) :: L) rfl ?_
  refine Lst.storeR (α := Bool) rfl rfl rfl rfl r78g Try.sizeOf4 (vs := [.bool true]) rfl rfl (by decide) rfl (xs' := (x75.set x58.B.toNat true)) ((Put.elemN (s := 1) (x := x80) rfl g82.2.2 (Put.here (vs := [.bool true]) rfl)).off (by omega)) ?_
  refine Lst.its (L' := (.rows (α := Bool) 4 (rs54.set (i11 : Int).toNat (LR.mk (x75.set x58.B.toNat true) r78h))) :: (.blk b61 (enc x58) 49) :: (.own s51 3 1 (encs l52)) :: (.own s6 75 1 (encs (rs54.set (i11 : Int).toNat (LR.mk (x75.set x58.B.toNat true) r78h)))) :: (.own Sl.nil 75 1 (encs ([] : List (LR Bool)))) :: L) (by rw [show encs (rs54.set (i11 : Int).toNat (LR.mk (x75.set x58.B.toNat true) r78h)) = encs rs54 from encs_rowv r78g]) ?_
  refine Lst.nil ?_
  refine At.then ?_
  refine Cd.region ?_
  refine Lst.run rfl rfl (by decide) (Ev.move rfl) ?_
  refine Lst.run rfl rfl (by decide) (Ev.fieldAddr (off' := 1) rfl Try.runUnderlying49 rfl Try.sizeOf3 rfl rfl) ?_
  refine Lst.run rfl rfl (by decide) (Ev.load (i := 1) rfl rfl Try.isAgg3 (v := .int .i64 x58.B) ((Pair.get_B (Get.here _)).off (by rfl))) ?_
  refine Lst.buildSlice (α := Int) (xs := ([x58.B] : List Int)) (pv := [(0, .int .i64 x58.B)]) rfl rfl (by decide) ⟨rfl, rfl, trivial⟩ (run_buildSlice (α := Int) (z0 := (0 : Int)) (xs := ([x58.B] : List Int)) Try.runUnderlying34 Try.sizeOf3 Try.zeroValue3 rfl rfl rfl (by decide) rfl (fill_cons (cs := encs (List.replicate 1 (0 : Int))) (cs' := encs ((List.replicate 1 (0 : Int)).set 0 x58.B)) (vs := [.int .i64 x58.B]) rfl rfl rfl ((Put.elemN (s := 1) (i := 0) (x := (0 : Int)) (y := x58.B) rfl rfl (Put.here (vs := [.int .i64 x58.B]) rfl)).off rfl) fill_nil)) rfl rfl (by decide) (fun s87 _ => ?_)
  obtain ⟨u89, h90, H⟩ := bind_some H
  refine Lst.append (i := 3) (α := Int) (xs := l52) (ys := ([x58.B] : List Int)) rfl rfl (by decide) rfl rfl Try.runUnderlying34 Try.typeInfo3 rfl rfl rfl rfl rfl rfl (Rd.own (i := 0) rfl rfl rfl) rfl (room_some h90) rfl (fun s91 => ?_)
  refine Lst.its (L' := (.own s87 3 1 (encs ([x58.B] : List Int))) :: (.rows (α := Bool) 4 (rs54.set (i11 : Int).toNat (LR.mk (x75.set x58.B.toNat true) r78h))) :: (.blk b61 (enc x58) 49) :: (.own s91 3 1 (encs (l52 ++ ([x58.B] : List Int)))) :: (.own s6 75 1 (encs (rs54.set (i11 : Int).toNat (LR.mk (x75.set x58.B.toNat true) r78h)))) :: (.own Sl.nil 75 1 (encs ([] : List (LR Bool)))) :: L) rfl ?_
  refine Lst.run rfl rfl (by decide) (Ev.assign rfl) ?_
  refine Lst.nil ?_
  refine At.in_normal ?_
  refine At.then ?_
  refine Cd.as (e' := [(0, .int .i64 a0), (1, Sl.v s_a1), (5, Sl.v s6), (6, .int .i64 (i11 : Int)), (8, .int .i64 x42), (13, .int .i64 a0), (14, .int .i64 (i11 : Int)), (32, Sl.v s_a1), (33, .int .i64 (a1.length : Int)), (34, .int .i64 (i50 : Int)), (7, Sl.v s91)]) (L' := (.own s87 3 1 (encs ([x58.B] : List Int))) :: (.rows (α := Bool) 4 (rs54.set (i11 : Int).toNat (LR.mk (x75.set x58.B.toNat true) r78h))) :: (.blk b61 (enc x58) 49) :: (.own s91 3 1 (encs (l52 ++ ([x58.B] : List Int)))) :: (.own s6 75 1 (encs (rs54.set (i11 : Int).toNat (LR.mk (x75.set x58.B.toNat true) r78h)))) :: (.own Sl.nil 75 1 (encs ([] : List (LR Bool)))) :: L) ⟨rfl, rfl, rfl, rfl, rfl, rfl, rfl, rfl, rfl, rfl, rfl, trivial⟩ rfl ?_
  refine Cd.region ?_
  refine Lst.run rfl rfl (by decide) (Ev.incr (by omega) rfl rfl) ?_
  refine Lst.run rfl rfl (by decide) (Ev.move rfl) ?_
  refine Lst.nil ?_
  refine At.front (i := 3) rfl (L' := (.own s91 3 1 (encs (l52 ++ ([x58.B] : List Int)))) :: (.own s87 3 1 (encs ([x58.B] : List Int))) :: (.rows (α := Bool) 4 (rs54.set (i11 : Int).toNat (LR.mk (x75.set x58.B.toNat true) r78h))) :: (.blk b61 (enc x58) 49) :: (.own s6 75 1 (encs (rs54.set (i11 : Int).toNat (LR.mk (x75.set x58.B.toNat true) r78h)))) :: (.own Sl.nil 75 1 (encs ([] : List (LR Bool)))) :: L) rfl ?_
  refine At.less (L' := (.own s91 3 1 (encs (l52 ++ ([x58.B] : List Int)))) :: (.rows (α := Bool) 4 (rs54.set (i11 : Int).toNat (LR.mk (x75.set x58.B.toNat true) r78h))) :: (.own s6 75 1 (encs (rs54.set (i11 : Int).toNat (LR.mk (x75.set x58.B.toNat true) r78h)))) :: (.own Sl.nil 75 1 (encs ([] : List (LR Bool)))) :: L) (List.Sublist.cons_cons _ (List.Sublist.cons _ (List.Sublist.cons_cons _ (List.Sublist.cons _ (List.Sublist.cons_cons _ (List.Sublist.cons_cons _ (List.Sublist.refl _))))))) ?_
  exact At.meet (i50 + 1, k50, s91, l52 ++ ([x58.B] : List Int), p83, (rs54.set (i11 : Int).toNat (LR.mk (x75.set x58.B.toNat true) r78h))) hF57 ⟨rfl, rfl, rfl, rfl, rfl, rfl, rfl, rfl, rfl, rfl, rfl, trivial⟩ rfl ⟨⟨hgo50 _ (some_inj H).symm, by omega, hm85⟩, Nat.lt_succ_self _⟩
set_option maxRecDepth 20000 in
theorem partref_PosetErr_sim {fu : Nat} {a0 : Poset} {s_a0_1 : Sl} {r : Int} (H : partref_PosetErr fu a0 = some r) (w0 : World) (F : Frz) (M L : List Item) (hM : M.Sublist L) (hs_a0_1 : Rd w0 F M s_a0_1 a0.Pairs) : Ok Try.prog w0 9 [.agg (enc (PosetR.mk a0 s_a0_1)).toArray] F (L) (Is (.int .i64 r) (L)) := by
  unfold partref_PosetErr at H
  refine Ok.enter (m := 1) (n := 40) Try.func9 rfl rfl rfl (by decide) ?_
  refine Cd.env (e' := [(0, .agg (enc (PosetR.mk a0 s_a0_1)).toArray)]) rfl ?_
  refine Cd.seq ?_
  refine Cd.region ?_
  refine Lst.box rfl rfl (by decide) rfl (cs := enc (PosetR.mk a0 s_a0_1)) rfl (fun b1 => ?_)
  refine Lst.run rfl rfl (by decide) (Ev.assign rfl) ?_
  refine Lst.nil ?_
  refine At.then ?_
  refine Cd.seq ?_
  refine Cd.seq ?_
  refine Cd.region ?_
  refine Lst.run rfl rfl (by decide) (Ev.fieldAddr (off' := 0) rfl Try.runUnderlying24 rfl Try.sizeOf3 rfl rfl) ?_
  refine Lst.run rfl rfl (by decide) (Ev.load (i := 0) rfl rfl Try.isAgg3 (v := .int .i64 a0.N) ((PosetR.get_N (Get.here _)).off (by rfl))) ?_
  refine Lst.run rfl rfl (by decide) (Ev.lss rfl rfl) ?_
  refine Lst.run rfl rfl (by decide) (Ev.move rfl) ?_
  obtain ⟨o3, H, HKo3⟩ := bind_some H
  refine Lst.join (σ := Bool) 4 (fun y4 => [(1, .pointer (some ⟨b1, 0, none⟩)), (13, .bool y4)]) (fun y4 => (.blk b1 (enc (PosetR.mk a0 s_a0_1)) 24) :: L) (fun _ y4 => y4 = o3) ?_ ?_
  · rcases Bool.eq_false_or_eq_true (decide (a0.N < (0 : Int))) with hb5 | hb5
    · replace H := ite_t hb5 H
      refine Lst.skip rfl rfl rfl hb5 rfl (by decide) ?_
      refine Lst.skip rfl rfl rfl hb5 rfl (by decide) ?_
      refine Lst.skip rfl rfl rfl hb5 rfl (by decide) ?_
      refine Lst.run rfl rfl (by decide) (Ev.pickT rfl hb5 rfl) ?_
      refine Lst.nil ?_
      exact At.meet true (FLe.refl _) ⟨rfl, rfl, trivial⟩ rfl (some_inj H)
    replace H := ite_f hb5 H
    refine Lst.runG rfl rfl rfl hb5 rfl (by decide) (Ev.fieldAddr (off' := 0) rfl Try.runUnderlying24 rfl Try.sizeOf3 rfl rfl) ?_
    refine Lst.runG rfl rfl rfl hb5 rfl (by decide) (Ev.load (i := 0) rfl rfl Try.isAgg3 (v := .int .i64 a0.N) ((PosetR.get_N (Get.here _)).off (by rfl))) ?_
    refine Lst.runG rfl rfl rfl hb5 rfl (by decide) (Ev.gtr rfl rfl) ?_
    refine Lst.run rfl rfl (by decide) (Ev.pickF rfl hb5 rfl) ?_
    refine Lst.nil ?_
    exact At.meet (decide (a0.N > (20 : Int))) (FLe.refl _) ⟨rfl, rfl, trivial⟩ rfl (some_inj H)
  rintro F6 y4 hF7 hy
  subst hy
  refine Lst.as (e' := [(1, .pointer (some ⟨b1, 0, none⟩)), (13, .bool y4)]) (L' := (.blk b1 (enc (PosetR.mk a0 s_a0_1)) 24) :: L) ⟨rfl, rfl, trivial⟩ rfl ?_
  replace H := HKo3
  refine Lst.nil ?_
  refine At.then ?_
  rcases Bool.eq_false_or_eq_true y4 with hb8 | hb8
  · replace H := ite_t hb8 H
    refine Cd.condT rfl hb8 ?_
    refine Cd.seq ?_
    refine Cd.region ?_
    refine Lst.run rfl rfl (by decide) (Ev.assign rfl) ?_
    refine Lst.nil ?_
    refine At.then ?_
    obtain rfl := some_inj H
    refine Cd.ret ?_
    refine At.then_ret ?_
    exact At.ret1 rfl (Res.tmp rfl) hF7 (List.Sublist.cons _ (List.Sublist.refl _)) ⟨rfl, rfl⟩
  replace H := ite_f hb8 H
  refine Cd.condF rfl hb8 ?_
  refine Cd.skip ?_
  refine At.then ?_
  refine Cd.seq ?_
  refine Cd.seq ?_
  refine Cd.region ?_
  refine Lst.run rfl rfl (by decide) (Ev.fieldAddr (off' := 0) rfl Try.runUnderlying24 rfl Try.sizeOf3 rfl rfl) ?_
  refine Lst.run rfl rfl (by decide) (Ev.load (i := 0) rfl rfl Try.isAgg3 (v := .int .i64 a0.N) ((PosetR.get_N (Get.here _)).off (by rfl))) ?_
  refine Lst.run rfl rfl (by decide) (Ev.fieldAddr (off' := 0) rfl Try.runUnderlying24 rfl Try.sizeOf3 rfl rfl) ?_
  refine Lst.run rfl rfl (by decide) (Ev.load (i := 0) rfl rfl Try.isAgg3 (v := .int .i64 a0.N) ((PosetR.get_N (Get.here _)).off (by rfl))) ?_
  refine Lst.run rfl rfl (by decide) (Ev.fieldAddr (off' := 1) rfl Try.runUnderlying24 rfl Try.sizeOf22 rfl rfl) ?_
  refine Lst.run rfl rfl (by decide) (Ev.load (i := 0) rfl rfl Try.isAgg22 (v := Sl.v s_a0_1) ((PosetR.get_Pairs (Get.here _)).off (by rfl))) ?_
  obtain ⟨r9, h10, H⟩ := bind_some H
  refine Lst.call1 rfl rfl (by decide) (vs := [.int .i64 a0.N, .int .i64 a0.N, Sl.v s_a0_1]) ⟨rfl, rfl, rfl, trivial⟩ Try.call34 (partref_PairsErr_sim h10 w0 _ M _ (List.Sublist.cons _ hM) (hs_a0_1.mono hF7 (List.Sublist.refl _))) ?_
  refine Lst.run rfl rfl (by decide) (Ev.assign rfl) ?_
  refine Lst.nil ?_
  refine At.then ?_
  refine Cd.seq ?_
  refine Cd.region ?_
  refine Lst.run rfl rfl (by decide) (Ev.move rfl) ?_
  refine Lst.run rfl rfl (by decide) (Ev.neq rfl rfl) ?_
  refine Lst.nil ?_
  refine At.then ?_
  rcases Bool.eq_false_or_eq_true (r9 != (0 : Int)) with hb13 | hb13
  · replace H := ite_t hb13 H
    refine Cd.condT rfl hb13 ?_
    refine Cd.seq ?_
    refine Cd.region ?_
    refine Lst.run rfl rfl (by decide) (Ev.move rfl) ?_
    refine Lst.run rfl rfl (by decide) (Ev.assign rfl) ?_
    refine Lst.nil ?_
    refine At.then ?_
    obtain rfl := some_inj H
    refine Cd.ret ?_
    refine At.then_ret ?_
    exact At.ret1 rfl (Res.tmp rfl) hF7 (List.Sublist.cons _ (List.Sublist.refl _)) ⟨rfl, rfl⟩
  replace H := ite_f hb13 H
  refine Cd.condF rfl hb13 ?_
  refine Cd.skip ?_
  refine At.then ?_
  refine Cd.seq ?_
  refine Cd.seq ?_
  refine Cd.region ?_
  refine Lst.run rfl rfl (by decide) (Ev.fieldAddr (off' := 0) rfl Try.runUnderlying24 rfl Try.sizeOf3 rfl rfl) ?_
  refine Lst.run rfl rfl (by decide) (Ev.load (i := 0) rfl rfl Try.isAgg3 (v := .int .i64 a0.N) ((PosetR.get_N (Get.here _)).off (by rfl))) ?_
  refine Lst.run rfl rfl (by decide) (Ev.fieldAddr (off' := 1) rfl Try.runUnderlying24 rfl Try.sizeOf22 rfl rfl) ?_
  refine Lst.run rfl rfl (by decide) (Ev.load (i := 0) rfl rfl Try.isAgg22 (v := Sl.v s_a0_1) ((PosetR.get_Pairs (Get.here _)).off (by rfl))) ?_
  obtain ⟨r14, h15, H⟩ := bind_some H
  refine Lst.call rfl rfl (by decide) (vs := [.int .i64 a0.N, Sl.v s_a0_1]) ⟨rfl, rfl, trivial⟩ Try.call45 (partref_Closure_sim h15 w0 _ M _ (List.Sublist.cons _ hM) (hs_a0_1.mono hF7 (List.Sublist.refl _))) (fun F21 L' v hF22 hv => ?_)
  obtain ⟨s16, rs17, rfl, rfl, fm18⟩ := hv
  refine Lst.run rfl rfl (by decide) (Ev.lenM (map_len fm18) (Ev.lenS (α := LR Bool) (xs := rs17) (by decide) rfl rfl Try.runUnderlying73 (Rd.own (i := 1) rfl rfl rfl))) ?_
  refine Lst.run rfl rfl (by decide) (Ev.move rfl) ?_
  refine Lst.nil ?_
  refine At.then ?_
  refine Cd.block ?_
  refine Cd.bound (Rd.le (α := LR Bool) (xs := rs17) (by decide) (Rd.own (i := 1) rfl rfl rfl)) (fun hN36 => ?_)
  rw [map_len fm18] at hN36
  obtain ⟨ol24, H, HKl24⟩ := andThen_some H
  refine Cd.loop (σ := Nat × Nat × Unit) (fun (i24, k24, _u) => [(28, Sl.v s16), (29, .int .i64 (r14.length : Int)), (30, .int .i64 (i24 : Int))]) (fun (i24, k24, _u) => (.rows (α := Bool) 4 rs17) :: (.own s16 75 1 (encs rs17)) :: (.blk b1 (enc (PosetR.mk a0 s_a0_1)) 24) :: L) (fun _ => (fun (i24, k24, _u) => rangeM (partref_PosetErr_B0 r14) k24 i24 () = some ol24 ∧ i24 + k24 = r14.length)) (fun (i24, k24, _u) => k24) (0, r14.length, ()) ⟨rfl, rfl, rfl, trivial⟩ rfl ⟨H, by omega⟩ ?_
  rintro F25 ⟨i24, k24, _u⟩ hF26 ⟨H, hik24⟩
  refine Cd.as (e' := [(28, Sl.v s16), (29, .int .i64 (r14.length : Int)), (30, .int .i64 (i24 : Int))]) (L' := (.rows (α := Bool) 4 rs17) :: (.own s16 75 1 (encs rs17)) :: (.blk b1 (enc (PosetR.mk a0 s_a0_1)) 24) :: L) ⟨rfl, rfl, rfl, trivial⟩ rfl ?_
  rcases k24 with _ | k24
  · have hc24 : decide ((i24 : Int) < (r14.length : Int)) = false := decide_eq_false (by omega)
    replace H := rangeM_end H
    refine Cd.seq ?_
    refine Cd.region ?_
    refine Lst.run rfl rfl (by decide) (Ev.lss rfl rfl) ?_
    refine Lst.nil ?_
    refine At.then ?_
    refine Cd.seq ?_
    refine Cd.condF rfl hc24 ?_
    refine Cd.exit ?_
    refine At.then_exit ?_
    refine At.then_exit ?_
    refine At.in_exit ?_
    subst H
    replace H := HKl24
    refine At.then ?_
    refine Cd.seq ?_
    refine Cd.region ?_
    refine Lst.run rfl rfl (by decide) (Ev.assign rfl) ?_
    refine Lst.nil ?_
    refine At.then ?_
    obtain rfl := some_inj H
    refine Cd.ret ?_
    exact At.ret1 rfl (Res.tmp rfl) (FLe.trans (FLe.trans hF7 hF22) hF26) (List.Sublist.cons _ (List.Sublist.cons _ (List.Sublist.cons _ (List.Sublist.refl _)))) ⟨rfl, rfl⟩
  have hc24 : decide ((i24 : Int) < (r14.length : Int)) = true := decide_eq_true (by omega)
  obtain ⟨c24, H, hgo24, hbrk24, hret24⟩ := rangeM_go H
  unfold partref_PosetErr_B0 at H
  try dsimp only at H
  refine Cd.seq ?_
  refine Cd.region ?_
  refine Lst.run rfl rfl (by decide) (Ev.lss rfl rfl) ?_
  refine Lst.nil ?_
  refine At.then ?_
  refine Cd.seq ?_
  refine Cd.condT rfl hc24 ?_
  refine Cd.skip ?_
  refine At.then ?_
  refine Cd.seq ?_
  refine Cd.block ?_
  refine Cd.seq ?_
  refine Cd.region ?_
  refine Lst.run rfl rfl (by decide) (Ev.move rfl) ?_
  obtain ⟨x27, h28, H⟩ := bind_some H
  have g29 := lat_some h28
  obtain ⟨⟨r30v, r30h⟩, r30g, r30e, r30m⟩ := map_get fm18 g29.2.2
  obtain rfl : x27 = r30v := r30e.symm
  have hh31 := row_h r30g
  refine Lst.run rfl rfl (by decide) (Ev.indexS (α := LR Bool) (xs := rs17) rfl rfl Try.runUnderlying73 Try.sizeOf75 rfl (by decide) (Rd.own (i := 1) rfl rfl rfl) g29.1 (by have := map_len fm18; omega)) ?_
  refine Lst.run rfl rfl (by decide) (Ev.loadS (α := LR Bool) rfl (Rd.own (i := 1) rfl rfl rfl) Try.isAgg75 (v := Sl.v r30h) ((Get.elemN (s := 1) rfl r30g (Get.here _)).off (by omega))) ?_
  refine Lst.run rfl rfl (by decide) (Ev.assign rfl) ?_
  refine Lst.run rfl rfl (by decide) (Ev.assign rfl) ?_
  refine Lst.nil ?_
  refine At.then ?_
  refine Cd.seq ?_
  refine Cd.region ?_
  refine Lst.run rfl rfl (by decide) (Ev.move rfl) ?_
  refine Lst.run rfl rfl (by decide) (Ev.move rfl) ?_
  obtain ⟨x32, h33, H⟩ := bind_some H
  have g34 := lat_some h33
  refine Lst.run rfl rfl (by decide) (Ev.indexS (α := Bool) (xs := x27) rfl rfl Try.runUnderlying75 Try.sizeOf4 rfl (by decide) (Rd.row (j := 0) rfl r30g) g34.1 g34.2.1) ?_
  refine Lst.run rfl rfl (by decide) (Ev.loadS (α := Bool) rfl (Rd.row (j := 0) rfl r30g) Try.isAgg4 (v := .bool x32) ((Get.elemN (s := 1) (x := x32) rfl g34.2.2 (Get.here _)).off (by omega))) ?_
  refine Lst.nil ?_
  refine At.then ?_
  rcases Bool.eq_false_or_eq_true x32 with hb35 | hb35
  · replace H := ite_t hb35 H
    refine Cd.condT rfl hb35 ?_
    refine Cd.seq ?_
    refine Cd.region ?_
    refine Lst.run rfl rfl (by decide) (Ev.assign rfl) ?_
    refine Lst.nil ?_
    refine At.then ?_
    have H := hret24 _ (some_inj H).symm
    subst H
    replace H := HKl24
    obtain rfl := some_inj H
    refine Cd.ret ?_
    refine At.in_ret ?_
    refine At.then_ret ?_
    refine At.then_ret ?_
    refine At.in_ret ?_
    refine At.then_ret ?_
    exact At.ret1 rfl (Res.tmp rfl) (FLe.trans (FLe.trans hF7 hF22) hF26) (List.Sublist.cons _ (List.Sublist.cons _ (List.Sublist.cons _ (List.Sublist.refl _)))) ⟨rfl, rfl⟩
  replace H := ite_f hb35 H
  refine Cd.condF rfl hb35 ?_
  refine Cd.skip ?_
  refine At.in_normal ?_
  refine At.then ?_
  refine Cd.region ?_
  refine Lst.run rfl rfl (by decide) (Ev.incr (by omega) rfl rfl) ?_
  refine Lst.run rfl rfl (by decide) (Ev.move rfl) ?_
  refine Lst.nil ?_
  exact At.meet (i24 + 1, k24, ()) hF26 ⟨rfl, rfl, rfl, trivial⟩ rfl ⟨⟨hgo24 _ (some_inj H).symm, by omega⟩, Nat.lt_succ_self _⟩
set_option maxRecDepth 20000 in
theorem match_in_sim {a0 : Int} {a1 : Int} {a2 : Int} {r : Bool} (H : match_in a0 a1 a2 = some r) (w0 : World) (F : Frz) (M L : List Item) (hM : M.Sublist L) : Ok Try.prog w0 62 [.int .i64 a0, .int .i64 a1, .int .i64 a2] F (L) (Is (.bool r) (L)) := by
  unfold match_in at H
  refine Ok.enter (m := 3) (n := 15) Try.func62 rfl rfl rfl (by decide) ?_
  refine Cd.env (e' := [(0, .int .i64 a0), (1, .int .i64 a1), (2, .int .i64 a2)]) rfl ?_
  refine Cd.seq ?_
  refine Cd.region ?_
  refine Lst.run rfl rfl (by decide) (Ev.assign rfl) ?_
  refine Lst.nil ?_
  refine At.then ?_
  refine Cd.seq ?_
  refine Cd.region ?_
  refine Lst.run rfl rfl (by decide) (Ev.move rfl) ?_
  refine Lst.run rfl rfl (by decide) (Ev.move rfl) ?_
  refine Lst.run rfl rfl (by decide) (Ev.geq rfl rfl) ?_
  refine Lst.run rfl rfl (by decide) (Ev.move rfl) ?_
  obtain ⟨o1, H, HKo1⟩ := bind_some H
  refine Lst.join (σ := Bool) 4 (fun y2 => [(14, .bool y2)]) (fun y2 => L) (fun _ y2 => y2 = o1) ?_ ?_
  · rcases (Bool.eq_false_or_eq_true (decide (a0 ≥ a1))).symm with hb3 | hb3
    · replace H := ite_f hb3 H
      refine Lst.skip rfl rfl rfl hb3 rfl (by decide) ?_
      refine Lst.skip rfl rfl rfl hb3 rfl (by decide) ?_
      refine Lst.skip rfl rfl rfl hb3 rfl (by decide) ?_
      refine Lst.run rfl rfl (by decide) (Ev.pickF rfl hb3 rfl) ?_
      refine Lst.nil ?_
      exact At.meet false (FLe.refl _) ⟨rfl, trivial⟩ rfl (some_inj H)
    replace H := ite_t hb3 H
    refine Lst.runG rfl rfl rfl hb3 rfl (by decide) (Ev.move rfl) ?_
    refine Lst.runG rfl rfl rfl hb3 rfl (by decide) (Ev.move rfl) ?_
    refine Lst.runG rfl rfl rfl hb3 rfl (by decide) (Ev.leq rfl rfl) ?_
    refine Lst.run rfl rfl (by decide) (Ev.pickT rfl hb3 rfl) ?_
    refine Lst.nil ?_
    exact At.meet (decide (a0 ≤ a2)) (FLe.refl _) ⟨rfl, trivial⟩ rfl (some_inj H)
  rintro F4 y2 hF5 hy
  subst hy
  refine Lst.as (e' := [(14, .bool y2)]) (L' := L) ⟨rfl, trivial⟩ rfl ?_
  replace H := HKo1
  refine Lst.run rfl rfl (by decide) (Ev.assign rfl) ?_
  refine Lst.nil ?_
  refine At.then ?_
  obtain rfl := some_inj H
  refine Cd.ret ?_
  exact At.ret1 rfl (Res.tmp rfl) hF5 (List.Sublist.refl _) ⟨rfl, rfl⟩
set_option maxRecDepth 20000 in
theorem match_Check_1_sim {a0 : Pair} {a1 : Int} {a2 : Int} {b_a1 : Nat} {b_a2 : Nat} {r : Bool} (H : match_Check_1 a0 a1 a2 = some r) (w0 : World) (F : Frz) (M L : List Item) (hM : M.Sublist L) : Ok Try.prog w0 64 [.agg (enc a0).toArray, .pointer (some ⟨b_a1, 0, none⟩), .pointer (some ⟨b_a2, 0, none⟩)] F ((.blk b_a1 (enc a1) 3) :: (.blk b_a2 (enc a2) 3) :: L) (Is (.bool r) ((.blk b_a1 (enc a1) 3) :: (.blk b_a2 (enc a2) 3) :: L)) := by
  unfold match_Check_1 at H
  refine Ok.enter (m := 3) (n := 19) Try.func64 rfl rfl rfl (by decide) ?_
  refine Cd.env (e' := [(0, .agg (enc a0).toArray), (1, .pointer (some ⟨b_a1, 0, none⟩)), (2, .pointer (some ⟨b_a2, 0, none⟩))]) rfl ?_
  refine Cd.seq ?_
  refine Cd.region ?_
  refine Lst.box rfl rfl (by decide) rfl (cs := enc a0) rfl (fun b3 => ?_)
  refine Lst.run rfl rfl (by decide) (Ev.assign rfl) ?_
  refine Lst.nil ?_
  refine At.then ?_
  refine Cd.seq ?_
  refine Cd.region ?_
  refine Lst.run rfl rfl (by decide) (Ev.fieldAddr (off' := 0) rfl Try.runUnderlying49 rfl Try.sizeOf3 rfl rfl) ?_
  refine Lst.run rfl rfl (by decide) (Ev.load (i := 0) rfl rfl Try.isAgg3 (v := .int .i64 a0.A) ((Pair.get_A (Get.here _)).off (by rfl))) ?_
  refine Lst.run rfl rfl (by decide) (Ev.load (i := 1) rfl rfl Try.isAgg3 (v := .int .i64 a1) (Get.here _)) ?_
  refine Lst.run rfl rfl (by decide) (Ev.sub rfl rfl) ?_
  obtain ⟨r5, h6, H⟩ := bind_some H
  refine Lst.call1 rfl rfl (by decide) (vs := [.int .i64 a0.A, .int .i64 (0 : Int), .int .i64 (w64 (a1 - (1 : Int)))]) ⟨rfl, rfl, rfl, trivial⟩ Try.call62 (match_in_sim h6 w0 _ M _ (List.Sublist.cons _ (List.Sublist.cons _ (List.Sublist.cons _ hM)))) ?_
  refine Lst.run rfl rfl (by decide) (Ev.not rfl) ?_
  refine Lst.run rfl rfl (by decide) (Ev.move rfl) ?_
  obtain ⟨o9, H, HKo9⟩ := bind_some H
  refine Lst.join (σ := Bool) 7 (fun y10 => [(18, .bool y10)]) (fun y10 => (.blk b3 (enc a0) 49) :: (.blk b_a1 (enc a1) 3) :: (.blk b_a2 (enc a2) 3) :: L) (fun _ y10 => y10 = o9) ?_ ?_
  · rcases Bool.eq_false_or_eq_true (!r5) with hb11 | hb11
    · replace H := ite_t hb11 H
      refine Lst.skip rfl rfl rfl hb11 rfl (by decide) ?_
      refine Lst.skip rfl rfl rfl hb11 rfl (by decide) ?_
      refine Lst.skip rfl rfl rfl hb11 rfl (by decide) ?_
      refine Lst.skip rfl rfl rfl hb11 rfl (by decide) ?_
      refine Lst.skip rfl rfl rfl hb11 rfl (by decide) ?_
      refine Lst.skip rfl rfl rfl hb11 rfl (by decide) ?_
      refine Lst.run rfl rfl (by decide) (Ev.pickT rfl hb11 rfl) ?_
      refine Lst.nil ?_
      exact At.meet true (FLe.refl _) ⟨rfl, trivial⟩ rfl (some_inj H)
    replace H := ite_f hb11 H
    refine Lst.runG rfl rfl rfl hb11 rfl (by decide) (Ev.fieldAddr (off' := 1) rfl Try.runUnderlying49 rfl Try.sizeOf3 rfl rfl) ?_
    refine Lst.runG rfl rfl rfl hb11 rfl (by decide) (Ev.load (i := 0) rfl rfl Try.isAgg3 (v := .int .i64 a0.B) ((Pair.get_B (Get.here _)).off (by rfl))) ?_
    refine Lst.runG rfl rfl rfl hb11 rfl (by decide) (Ev.load (i := 2) rfl rfl Try.isAgg3 (v := .int .i64 a2) (Get.here _)) ?_
    refine Lst.runG rfl rfl rfl hb11 rfl (by decide) (Ev.sub rfl rfl) ?_
    obtain ⟨r12, h13, H⟩ := bind_some H
    refine Lst.call1G rfl rfl rfl hb11 rfl (by decide) (vs := [.int .i64 a0.B, .int .i64 (0 : Int), .int .i64 (w64 (a2 - (1 : Int)))]) ⟨rfl, rfl, rfl, trivial⟩ Try.call62 (match_in_sim h13 w0 _ M _ (List.Sublist.cons _ (List.Sublist.cons _ (List.Sublist.cons _ hM)))) ?_
    refine Lst.runG rfl rfl rfl hb11 rfl (by decide) (Ev.not rfl) ?_
    refine Lst.run rfl rfl (by decide) (Ev.pickF rfl hb11 rfl) ?_
    refine Lst.nil ?_
    exact At.meet (!r12) (FLe.refl _) ⟨rfl, trivial⟩ rfl (some_inj H)
  rintro F16 y10 hF17 hy
  subst hy
  refine Lst.as (e' := [(18, .bool y10)]) (L' := (.blk b3 (enc a0) 49) :: (.blk b_a1 (enc a1) 3) :: (.blk b_a2 (enc a2) 3) :: L) ⟨rfl, trivial⟩ rfl ?_
  replace H := HKo9
  refine Lst.run rfl rfl (by decide) (Ev.assign rfl) ?_
  refine Lst.nil ?_
  refine At.then ?_
  obtain rfl := some_inj H
  refine Cd.ret ?_
  exact At.ret1 rfl (Res.tmp rfl) hF17 (List.Sublist.cons _ (List.Sublist.cons_cons _ (List.Sublist.cons_cons _ (List.Sublist.refl _)))) ⟨rfl, rfl⟩
set_option maxRecDepth 20000 in
theorem slices_IndexFunc_api_Pair_api_Pair_Check_1_sim {a0 : List Pair} {a1_c0 : Int} {a1_c1 : Int} {s_a0 : Sl} {b_a1_c0 : Nat} {b_a1_c1 : Nat} {r : Int} (H : slices_IndexFunc_api_Pair_api_Pair_Check_1 a0 a1_c0 a1_c1 = some r) (w0 : World) (F : Frz) (M L : List Item) (hM : M.Sublist L) (hs_a0 : Rd w0 F M s_a0 a0) : Ok Try.prog w0 78 [Sl.v s_a0, .func (.func 64) #[] #[.pointer (some ⟨b_a1_c0, 0, none⟩), .pointer (some ⟨b_a1_c1, 0, none⟩)]] F ((.blk b_a1_c0 (enc a1_c0) 3) :: (.blk b_a1_c1 (enc a1_c1) 3) :: L) (Is (.int .i64 r) ((.blk b_a1_c0 (enc a1_c0) 3) :: (.blk b_a1_c1 (enc a1_c1) 3) :: L)) := by
  unfold slices_IndexFunc_api_Pair_api_Pair_Check_1 at H
  refine Ok.enter (m := 2) (n := 19) Try.func78 rfl rfl rfl (by decide) ?_
  refine Cd.env (e' := [(0, Sl.v s_a0), (1, .func (.func 64) #[] #[.pointer (some ⟨b_a1_c0, 0, none⟩), .pointer (some ⟨b_a1_c1, 0, none⟩)])]) rfl ?_
  refine Cd.seq ?_
  refine Cd.region ?_
  refine Lst.run rfl rfl (by decide) (Ev.assign rfl) ?_
  refine Lst.nil ?_
  refine At.then ?_
  refine Cd.seq ?_
  refine Cd.seq ?_
  refine Cd.region ?_
  refine Lst.run rfl rfl (by decide) (Ev.move rfl) ?_
  refine Lst.run rfl rfl (by decide) (Ev.lenS (α := Pair) (xs := a0) (by decide) rfl rfl Try.runUnderlying22 (hs_a0.mono (FLe.refl _) (List.Sublist.cons _ (List.Sublist.cons _ hM)))) ?_
  refine Lst.run rfl rfl (by decide) (Ev.move rfl) ?_
  refine Lst.nil ?_
  refine At.then ?_
  refine Cd.block ?_
  refine Cd.bound (Rd.le (α := Pair) (xs := a0) (by decide) (hs_a0.mono (FLe.refl _) (List.Sublist.cons _ (List.Sublist.cons _ hM)))) (fun hN14 => ?_)
  obtain ⟨ol3, H, HKl3⟩ := andThen_some H
  refine Cd.loop (σ := Nat × Nat × Unit) (fun (i3, k3, _u) => [(0, Sl.v s_a0), (1, .func (.func 64) #[] #[.pointer (some ⟨b_a1_c0, 0, none⟩), .pointer (some ⟨b_a1_c1, 0, none⟩)]), (7, .int .i64 (a0.length : Int)), (8, .int .i64 (i3 : Int))]) (fun (i3, k3, _u) => (.blk b_a1_c0 (enc a1_c0) 3) :: (.blk b_a1_c1 (enc a1_c1) 3) :: L) (fun _ => (fun (i3, k3, _u) => rangeM (slices_IndexFunc_api_Pair_api_Pair_Check_1_B0 a0 a1_c0 a1_c1) k3 i3 () = some ol3 ∧ i3 + k3 = a0.length)) (fun (i3, k3, _u) => k3) (0, a0.length, ()) ⟨rfl, rfl, rfl, rfl, trivial⟩ rfl ⟨H, by omega⟩ ?_
  rintro F4 ⟨i3, k3, _u⟩ hF5 ⟨H, hik3⟩
  refine Cd.as (e' := [(0, Sl.v s_a0), (1, .func (.func 64) #[] #[.pointer (some ⟨b_a1_c0, 0, none⟩), .pointer (some ⟨b_a1_c1, 0, none⟩)]), (7, .int .i64 (a0.length : Int)), (8, .int .i64 (i3 : Int))]) (L' := (.blk b_a1_c0 (enc a1_c0) 3) :: (.blk b_a1_c1 (enc a1_c1) 3) :: L) ⟨rfl, rfl, rfl, rfl, trivial⟩ rfl ?_
  rcases k3 with _ | k3
  · have hc3 : decide ((i3 : Int) < (a0.length : Int)) = false := decide_eq_false (by omega)
    replace H := rangeM_end H
    refine Cd.seq ?_
    refine Cd.region ?_
    refine Lst.run rfl rfl (by decide) (Ev.lss rfl rfl) ?_
    refine Lst.nil ?_
    refine At.then ?_
    refine Cd.seq ?_
    refine Cd.condF rfl hc3 ?_
    refine Cd.exit ?_
    refine At.then_exit ?_
    refine At.then_exit ?_
    refine At.in_exit ?_
    subst H
    replace H := HKl3
    refine At.then ?_
    refine Cd.seq ?_
    refine Cd.region ?_
    refine Lst.run rfl rfl (by decide) (Ev.assign rfl) ?_
    refine Lst.nil ?_
    refine At.then ?_
    obtain rfl := some_inj H
    refine Cd.ret ?_
    exact At.ret1 rfl (Res.tmp rfl) hF5 (List.Sublist.cons_cons _ (List.Sublist.cons_cons _ (List.Sublist.refl _))) ⟨rfl, rfl⟩
  have hc3 : decide ((i3 : Int) < (a0.length : Int)) = true := decide_eq_true (by omega)
  obtain ⟨c3, H, hgo3, hbrk3, hret3⟩ := rangeM_go H
  unfold slices_IndexFunc_api_Pair_api_Pair_Check_1_B0 at H
  try dsimp only at H
  refine Cd.seq ?_
  refine Cd.region ?_
  refine Lst.run rfl rfl (by decide) (Ev.lss rfl rfl) ?_
  refine Lst.nil ?_
  refine At.then ?_
  refine Cd.seq ?_
  refine Cd.condT rfl hc3 ?_
  refine Cd.skip ?_
  refine At.then ?_
  refine Cd.seq ?_
  refine Cd.block ?_
  refine Cd.seq ?_
  refine Cd.region ?_
  refine Lst.run rfl rfl (by decide) (Ev.move rfl) ?_
  refine Lst.run rfl rfl (by decide) (Ev.assign rfl) ?_
  refine Lst.nil ?_
  refine At.then ?_
  refine Cd.seq ?_
  refine Cd.region ?_
  refine Lst.run rfl rfl (by decide) (Ev.move rfl) ?_
  refine Lst.run rfl rfl (by decide) (Ev.move rfl) ?_
  refine Lst.run rfl rfl (by decide) (Ev.move rfl) ?_
  obtain ⟨x6, h7, H⟩ := bind_some H
  have g8 := lat_some h7
  refine Lst.run rfl rfl (by decide) (Ev.indexS (α := Pair) (xs := a0) rfl rfl Try.runUnderlying22 Try.sizeOf49 rfl (by decide) (hs_a0.mono hF5 (List.Sublist.cons _ (List.Sublist.cons _ hM))) g8.1 g8.2.1) ?_
  refine Lst.run rfl rfl (by decide) (Ev.loadSA (α := Pair) rfl (hs_a0.mono hF5 (List.Sublist.cons _ (List.Sublist.cons _ hM))) Try.isAgg49 Try.sizeOf49 (ch := enc x6) (Enc.len _) (by decide) ((Get.elemN (s := 2) (x := x6) rfl g8.2.2 (Get.here _)).off (by omega))) ?_
  obtain ⟨r9, h10, H⟩ := bind_some H
  refine Lst.callV1 rfl rfl (by decide) (vs := [.agg (enc x6).toArray]) (cs := [.pointer (some ⟨b_a1_c0, 0, none⟩), .pointer (some ⟨b_a1_c1, 0, none⟩)]) rfl ⟨rfl, trivial⟩ Try.call64 (match_Check_1_sim h10 w0 _ M _ hM) ?_
  refine Lst.nil ?_
  refine At.then ?_
  rcases Bool.eq_false_or_eq_true r9 with hb13 | hb13
  · replace H := ite_t hb13 H
    refine Cd.condT rfl hb13 ?_
    refine Cd.seq ?_
    refine Cd.region ?_
    refine Lst.run rfl rfl (by decide) (Ev.move rfl) ?_
    refine Lst.run rfl rfl (by decide) (Ev.assign rfl) ?_
    refine Lst.nil ?_
    refine At.then ?_
    have H := hret3 _ (some_inj H).symm
    subst H
    replace H := HKl3
    obtain rfl := some_inj H
    refine Cd.ret ?_
    refine At.in_ret ?_
    refine At.then_ret ?_
    refine At.then_ret ?_
    refine At.in_ret ?_
    refine At.then_ret ?_
    exact At.ret1 rfl (Res.tmp rfl) hF5 (List.Sublist.cons_cons _ (List.Sublist.cons_cons _ (List.Sublist.refl _))) ⟨rfl, rfl⟩
  replace H := ite_f hb13 H
  refine Cd.condF rfl hb13 ?_
  refine Cd.skip ?_
  refine At.in_normal ?_
  refine At.then ?_
  refine Cd.region ?_
  refine Lst.run rfl rfl (by decide) (Ev.incr (by omega) rfl rfl) ?_
  refine Lst.run rfl rfl (by decide) (Ev.move rfl) ?_
  refine Lst.nil ?_
  exact At.meet (i3 + 1, k3, ()) hF5 ⟨rfl, rfl, rfl, rfl, trivial⟩ rfl ⟨⟨hgo3 _ (some_inj H).symm, by omega⟩, Nat.lt_succ_self _⟩
set_option maxRecDepth 20000 in
theorem slices_ContainsFunc_api_Pair_api_Pair_Check_1_sim {a0 : List Pair} {a1_c0 : Int} {a1_c1 : Int} {s_a0 : Sl} {b_a1_c0 : Nat} {b_a1_c1 : Nat} {r : Bool} (H : slices_ContainsFunc_api_Pair_api_Pair_Check_1 a0 a1_c0 a1_c1 = some r) (w0 : World) (F : Frz) (M L : List Item) (hM : M.Sublist L) (hs_a0 : Rd w0 F M s_a0 a0) : Ok Try.prog w0 63 [Sl.v s_a0, .func (.func 64) #[] #[.pointer (some ⟨b_a1_c0, 0, none⟩), .pointer (some ⟨b_a1_c1, 0, none⟩)]] F ((.blk b_a1_c0 (enc a1_c0) 3) :: (.blk b_a1_c1 (enc a1_c1) 3) :: L) (Is (.bool r) ((.blk b_a1_c0 (enc a1_c0) 3) :: (.blk b_a1_c1 (enc a1_c1) 3) :: L)) := by
  unfold slices_ContainsFunc_api_Pair_api_Pair_Check_1 at H
  refine Ok.enter (m := 2) (n := 9) Try.func63 rfl rfl rfl (by decide) ?_
  refine Cd.env (e' := [(0, Sl.v s_a0), (1, .func (.func 64) #[] #[.pointer (some ⟨b_a1_c0, 0, none⟩), .pointer (some ⟨b_a1_c1, 0, none⟩)])]) rfl ?_
  refine Cd.seq ?_
  refine Cd.region ?_
  refine Lst.run rfl rfl (by decide) (Ev.assign rfl) ?_
  refine Lst.nil ?_
  refine At.then ?_
  refine Cd.seq ?_
  refine Cd.region ?_
  refine Lst.run rfl rfl (by decide) (Ev.move rfl) ?_
  refine Lst.run rfl rfl (by decide) (Ev.move rfl) ?_
  obtain ⟨r3, h4, H⟩ := bind_some H
  refine Lst.call1 rfl rfl (by decide) (vs := [Sl.v s_a0, .func (.func 64) #[] #[.pointer (some ⟨b_a1_c0, 0, none⟩), .pointer (some ⟨b_a1_c1, 0, none⟩)]]) ⟨rfl, rfl, trivial⟩ Try.call78 (slices_IndexFunc_api_Pair_api_Pair_Check_1_sim h4 w0 _ M _ hM (hs_a0.mono (FLe.refl _) (List.Sublist.refl _))) ?_
  refine Lst.run rfl rfl (by decide) (Ev.geq rfl rfl) ?_
  refine Lst.run rfl rfl (by decide) (Ev.assign rfl) ?_
  refine Lst.nil ?_
  refine At.then ?_
  obtain rfl := some_inj H
  refine Cd.ret ?_
  exact At.ret1 rfl (Res.tmp rfl) (FLe.refl _) (List.Sublist.cons_cons _ (List.Sublist.cons_cons _ (List.Sublist.refl _))) ⟨rfl, rfl⟩
set_option maxRecDepth 20000 in
theorem match_Check_sim {a0 : Int} {a1 : Int} {a2 : List Pair} {s_a2 : Sl} {r : Int} (H : match_Check a0 a1 a2 = some r) (w0 : World) (F : Frz) (M L : List Item) (hM : M.Sublist L) (hs_a2 : Rd w0 F M s_a2 a2) : Ok Try.prog w0 37 [.int .i64 a0, .int .i64 a1, Sl.v s_a2] F (L) (Is (.int .i64 r) (L)) := by
  unfold match_Check at H
  refine Ok.enter (m := 3) (n := 24) Try.func37 rfl rfl rfl (by decide) ?_
  refine Cd.env (e' := [(0, .int .i64 a0), (1, .int .i64 a1), (2, Sl.v s_a2)]) rfl ?_
  refine Cd.seq ?_
  refine Cd.region ?_
  refine Lst.box rfl rfl (by decide) rfl (cs := enc a0) rfl (fun b1 => ?_)
  refine Lst.box rfl rfl (by decide) rfl (cs := enc a1) rfl (fun b3 => ?_)
  refine Lst.run rfl rfl (by decide) (Ev.assign rfl) ?_
  refine Lst.nil ?_
  refine At.then ?_
  refine Cd.seq ?_
  refine Cd.block ?_
  refine Cd.seq ?_
  refine Cd.region ?_
  refine Lst.run rfl rfl (by decide) (Ev.load (i := 1) rfl rfl Try.isAgg3 (v := .int .i64 a0) (Get.here _)) ?_
  obtain ⟨r5, h6, H⟩ := bind_some H
  refine Lst.call1 rfl rfl (by decide) (vs := [.int .i64 a0, .int .i64 (0 : Int), .int .i64 (40 : Int)]) ⟨rfl, rfl, rfl, trivial⟩ Try.call62 (match_in_sim h6 w0 _ M _ (List.Sublist.cons _ (List.Sublist.cons _ hM))) ?_
  refine Lst.run rfl rfl (by decide) (Ev.not rfl) ?_
  refine Lst.run rfl rfl (by decide) (Ev.move rfl) ?_
  obtain ⟨o9, H, HKo9⟩ := bind_some H
  refine Lst.join (σ := Bool) 4 (fun y10 => [(2, Sl.v s_a2), (3, .pointer (some ⟨b1, 0, none⟩)), (4, .pointer (some ⟨b3, 0, none⟩)), (15, .bool y10)]) (fun y10 => (.blk b3 (enc a1) 3) :: (.blk b1 (enc a0) 3) :: L) (fun _ y10 => y10 = o9) ?_ ?_
  · rcases Bool.eq_false_or_eq_true (!r5) with hb11 | hb11
    · replace H := ite_t hb11 H
      refine Lst.skip rfl rfl rfl hb11 rfl (by decide) ?_
      refine Lst.skip rfl rfl rfl hb11 rfl (by decide) ?_
      refine Lst.skip rfl rfl rfl hb11 rfl (by decide) ?_
      refine Lst.run rfl rfl (by decide) (Ev.pickT rfl hb11 rfl) ?_
      refine Lst.nil ?_
      exact At.meet true (FLe.refl _) ⟨rfl, rfl, rfl, rfl, trivial⟩ rfl (some_inj H)
    replace H := ite_f hb11 H
    refine Lst.runG rfl rfl rfl hb11 rfl (by decide) (Ev.load (i := 0) rfl rfl Try.isAgg3 (v := .int .i64 a1) (Get.here _)) ?_
    obtain ⟨r12, h13, H⟩ := bind_some H
    refine Lst.call1G rfl rfl rfl hb11 rfl (by decide) (vs := [.int .i64 a1, .int .i64 (0 : Int), .int .i64 (40 : Int)]) ⟨rfl, rfl, rfl, trivial⟩ Try.call62 (match_in_sim h13 w0 _ M _ (List.Sublist.cons _ (List.Sublist.cons _ hM))) ?_
    refine Lst.runG rfl rfl rfl hb11 rfl (by decide) (Ev.not rfl) ?_
    refine Lst.run rfl rfl (by decide) (Ev.pickF rfl hb11 rfl) ?_
    refine Lst.nil ?_
    exact At.meet (!r12) (FLe.refl _) ⟨rfl, rfl, rfl, rfl, trivial⟩ rfl (some_inj H)
  rintro F16 y10 hF17 hy
  subst hy
  refine Lst.as (e' := [(2, Sl.v s_a2), (3, .pointer (some ⟨b1, 0, none⟩)), (4, .pointer (some ⟨b3, 0, none⟩)), (15, .bool y10)]) (L' := (.blk b3 (enc a1) 3) :: (.blk b1 (enc a0) 3) :: L) ⟨rfl, rfl, rfl, rfl, trivial⟩ rfl ?_
  replace H := HKo9
  refine Lst.run rfl rfl (by decide) (Ev.assign rfl) ?_
  refine Lst.nil ?_
  refine At.then ?_
  rcases Bool.eq_false_or_eq_true y10 with hb18 | hb18
  · replace H := ite_t hb18 H
    refine Cd.condT rfl hb18 ?_
    refine Cd.seq ?_
    refine Cd.region ?_
    refine Lst.run rfl rfl (by decide) (Ev.assign rfl) ?_
    refine Lst.nil ?_
    refine At.then ?_
    obtain rfl := some_inj H
    refine Cd.ret ?_
    refine At.in_ret ?_
    refine At.then_ret ?_
    exact At.ret1 rfl (Res.tmp rfl) hF17 (List.Sublist.cons _ (List.Sublist.cons _ (List.Sublist.refl _))) ⟨rfl, rfl⟩
  replace H := ite_f hb18 H
  refine Cd.condF rfl hb18 ?_
  refine Cd.seq ?_
  refine Cd.region ?_
  refine Lst.run rfl rfl (by decide) (Ev.move rfl) ?_
  refine Lst.run rfl rfl (by decide) (Ev.lenS (α := Pair) (xs := a2) (by decide) rfl rfl Try.runUnderlying22 (hs_a2.mono hF17 (List.Sublist.cons _ (List.Sublist.cons _ hM)))) ?_
  refine Lst.run rfl rfl (by decide) (Ev.gtr rfl rfl) ?_
  refine Lst.run rfl rfl (by decide) (Ev.assign rfl) ?_
  refine Lst.nil ?_
  refine At.then ?_
  rcases Bool.eq_false_or_eq_true (decide ((a2.length : Int) > (600 : Int))) with hb19 | hb19
  · replace H := ite_t hb19 H
    refine Cd.condT rfl hb19 ?_
    refine Cd.seq ?_
    refine Cd.region ?_
    refine Lst.run rfl rfl (by decide) (Ev.assign rfl) ?_
    refine Lst.nil ?_
    refine At.then ?_
    obtain rfl := some_inj H
    refine Cd.ret ?_
    refine At.in_ret ?_
    refine At.then_ret ?_
    exact At.ret1 rfl (Res.tmp rfl) hF17 (List.Sublist.cons _ (List.Sublist.cons _ (List.Sublist.refl _))) ⟨rfl, rfl⟩
  replace H := ite_f hb19 H
  refine Cd.condF rfl hb19 ?_
  refine Cd.seq ?_
  refine Cd.region ?_
  refine Lst.run rfl rfl (by decide) (Ev.move rfl) ?_
  refine Lst.run rfl rfl (by decide) (Ev.makeFunc (us := []) (vs := [.pointer (some ⟨b1, 0, none⟩), .pointer (some ⟨b3, 0, none⟩)]) trivial ⟨rfl, rfl, trivial⟩) ?_
  obtain ⟨r20, h21, H⟩ := bind_some H
  refine Lst.front (i := 1) rfl (L' := (.blk b1 (enc a0) 3) :: (.blk b3 (enc a1) 3) :: L) rfl ?_
  refine Lst.call1 rfl rfl (by decide) (vs := [Sl.v s_a2, .func (.func 64) #[] #[.pointer (some ⟨b1, 0, none⟩), .pointer (some ⟨b3, 0, none⟩)]]) ⟨rfl, rfl, trivial⟩ Try.call63 (slices_ContainsFunc_api_Pair_api_Pair_Check_1_sim h21 w0 _ M _ hM (hs_a2.mono hF17 (List.Sublist.refl _))) ?_
  refine Lst.run rfl rfl (by decide) (Ev.assign rfl) ?_
  refine Lst.nil ?_
  refine At.then ?_
  rcases Bool.eq_false_or_eq_true r20 with hb24 | hb24
  · replace H := ite_t hb24 H
    refine Cd.condT rfl hb24 ?_
    refine Cd.seq ?_
    refine Cd.region ?_
    refine Lst.run rfl rfl (by decide) (Ev.assign rfl) ?_
    refine Lst.nil ?_
    refine At.then ?_
    obtain rfl := some_inj H
    refine Cd.ret ?_
    refine At.in_ret ?_
    refine At.then_ret ?_
    exact At.ret1 rfl (Res.tmp rfl) hF17 (List.Sublist.cons _ (List.Sublist.cons _ (List.Sublist.refl _))) ⟨rfl, rfl⟩
  replace H := ite_f hb24 H
  refine Cd.condF rfl hb24 ?_
  refine Cd.skip ?_
  refine At.in_normal ?_
  refine At.then ?_
  refine Cd.seq ?_
  refine Cd.region ?_
  refine Lst.run rfl rfl (by decide) (Ev.assign rfl) ?_
  refine Lst.nil ?_
  refine At.then ?_
  obtain rfl := some_inj H
  refine Cd.ret ?_
  exact At.ret1 rfl (Res.tmp rfl) hF17 (List.Sublist.cons _ (List.Sublist.cons _ (List.Sublist.refl _))) ⟨rfl, rfl⟩
set_option maxRecDepth 20000 in
theorem poset_closed_sim {a0 : Poset} {s_a0_1 : Sl} {r : (Vector (Vector Bool 20) 20)} (H : poset_closed a0 = some r) (w0 : World) (F : Frz) (M L : List Item) (hM : M.Sublist L) (hs_a0_1 : Rd w0 F M s_a0_1 a0.Pairs) : Ok Try.prog w0 58 [.agg (enc (PosetR.mk a0 s_a0_1)).toArray] F (L) (Is (.agg (enc r).toArray) (L)) := by
  unfold poset_closed at H
  refine Ok.enter (m := 1) (n := 65) Try.func58 rfl rfl rfl (by decide) ?_
  refine Cd.env (e' := [(0, .agg (enc (PosetR.mk a0 s_a0_1)).toArray)]) rfl ?_
  refine Cd.seq ?_
  refine Cd.region ?_
  refine Lst.box rfl rfl (by decide) rfl (cs := enc (PosetR.mk a0 s_a0_1)) rfl (fun b1 => ?_)
  refine Lst.alloc (z := .agg (enc (Vector.replicate 20 (Vector.replicate 20 false))).toArray) (cs := enc (Vector.replicate 20 (Vector.replicate 20 false))) rfl rfl (by decide) (fun _ => by kernel_rfl) rfl (fun b3 => ?_)
  refine Lst.nil ?_
  refine At.then ?_
  refine Cd.seq ?_
  refine Cd.region ?_
  refine Lst.alloc (z := .agg (enc (Vector.replicate 20 (Vector.replicate 20 false))).toArray) (cs := enc (Vector.replicate 20 (Vector.replicate 20 false))) rfl rfl (by decide) (fun _ => by kernel_rfl) rfl (fun b5 => ?_)
  refine Lst.nil ?_
  refine At.then ?_
  refine Cd.seq ?_
  refine Cd.seq ?_
  refine Cd.region ?_
  refine Lst.run rfl rfl (by decide) (Ev.fieldAddr (off' := 1) rfl Try.runUnderlying24 rfl Try.sizeOf22 rfl rfl) ?_
  refine Lst.run rfl rfl (by decide) (Ev.load (i := 2) rfl rfl Try.isAgg22 (v := Sl.v s_a0_1) ((PosetR.get_Pairs (Get.here _)).off (by rfl))) ?_
  refine Lst.run rfl rfl (by decide) (Ev.lenS (α := Pair) (xs := a0.Pairs) (by decide) rfl rfl Try.runUnderlying22 (hs_a0_1.mono (FLe.refl _) (List.Sublist.cons _ (List.Sublist.cons _ (List.Sublist.cons _ hM))))) ?_
  refine Lst.run rfl rfl (by decide) (Ev.move rfl) ?_
  refine Lst.nil ?_
  refine At.then ?_
  refine Cd.block ?_
  refine Cd.bound (Rd.le (α := Pair) (xs := a0.Pairs) (by decide) (hs_a0_1.mono (FLe.refl _) (List.Sublist.cons _ (List.Sublist.cons _ (List.Sublist.cons _ hM))))) (fun hN74 => ?_)
  obtain ⟨ol7, H, HKl7⟩ := bind_some H
  refine Cd.loop (σ := Nat × Nat × (Vector (Vector Bool 20) 20)) (fun (i7, k7, y8) => [(1, .pointer (some ⟨b1, 0, none⟩)), (2, .pointer (some ⟨b3, 0, none⟩)), (3, .pointer (some ⟨b5, 0, none⟩)), (10, Sl.v s_a0_1), (11, .int .i64 (a0.Pairs.length : Int)), (12, .int .i64 (i7 : Int))]) (fun (i7, k7, y8) => (.blk b5 (enc y8) 89) :: (.blk b3 (enc (Vector.replicate 20 (Vector.replicate 20 false))) 89) :: (.blk b1 (enc (PosetR.mk a0 s_a0_1)) 24) :: L) (fun _ => (fun (i7, k7, y8) => rangeF (poset_closed_B0 a0) k7 i7 y8 = some ol7 ∧ i7 + k7 = a0.Pairs.length)) (fun (i7, k7, y8) => k7) (0, a0.Pairs.length, (Vector.replicate 20 (Vector.replicate 20 false))) ⟨rfl, rfl, rfl, rfl, rfl, rfl, trivial⟩ rfl ⟨H, by omega⟩ ?_
  rintro F9 ⟨i7, k7, y8⟩ hF10 ⟨H, hik7⟩
  refine Cd.as (e' := [(1, .pointer (some ⟨b1, 0, none⟩)), (2, .pointer (some ⟨b3, 0, none⟩)), (3, .pointer (some ⟨b5, 0, none⟩)), (10, Sl.v s_a0_1), (11, .int .i64 (a0.Pairs.length : Int)), (12, .int .i64 (i7 : Int))]) (L' := (.blk b5 (enc y8) 89) :: (.blk b3 (enc (Vector.replicate 20 (Vector.replicate 20 false))) 89) :: (.blk b1 (enc (PosetR.mk a0 s_a0_1)) 24) :: L) ⟨rfl, rfl, rfl, rfl, rfl, rfl, trivial⟩ rfl ?_
  rcases k7 with _ | k7
  · have hc7 : decide ((i7 : Int) < (a0.Pairs.length : Int)) = false := decide_eq_false (by omega)
    replace H := rangeF_end H
    refine Cd.seq ?_
    refine Cd.region ?_
    refine Lst.run rfl rfl (by decide) (Ev.lss rfl rfl) ?_
    refine Lst.nil ?_
    refine At.then ?_
    refine Cd.seq ?_
    refine Cd.condF rfl hc7 ?_
    refine Cd.exit ?_
    refine At.then_exit ?_
    refine At.then_exit ?_
    refine At.in_exit ?_
    subst H
    replace H := HKl7
    refine At.then ?_
    refine Cd.seq ?_
    refine Cd.seq ?_
    refine Cd.region ?_
    refine Lst.run rfl rfl (by decide) (Ev.fieldAddr (off' := 0) rfl Try.runUnderlying24 rfl Try.sizeOf3 rfl rfl) ?_
    refine Lst.run rfl rfl (by decide) (Ev.load (i := 2) rfl rfl Try.isAgg3 (v := .int .i64 a0.N) ((PosetR.get_N (Get.here _)).off (by rfl))) ?_
    refine Lst.run rfl rfl (by decide) (Ev.move rfl) ?_
    refine Lst.nil ?_
    refine At.then ?_
    refine Cd.block ?_
    obtain ⟨nn28, hN73, H⟩ := bind_some H
    replace hN73 := upTo_some hN73
    obtain ⟨ol24, H, HKl24⟩ := bind_some H
    refine Cd.loop (σ := Nat × Nat × (Vector (Vector Bool 20) 20)) (fun (i24, k24, y25) => [(1, .pointer (some ⟨b1, 0, none⟩)), (2, .pointer (some ⟨b3, 0, none⟩)), (3, .pointer (some ⟨b5, 0, none⟩)), (24, .int .i64 a0.N), (25, .int .i64 (i24 : Int))]) (fun (i24, k24, y25) => (.blk b5 (enc y25) 89) :: (.blk b3 (enc (Vector.replicate 20 (Vector.replicate 20 false))) 89) :: (.blk b1 (enc (PosetR.mk a0 s_a0_1)) 24) :: L) (fun _ => (fun (i24, k24, y25) => rangeF (poset_closed_B2 a0) k24 i24 y25 = some ol24 ∧ i24 + k24 = nn28)) (fun (i24, k24, y25) => k24) (0, nn28, y8) ⟨rfl, rfl, rfl, rfl, rfl, trivial⟩ rfl ⟨H, by omega⟩ ?_
    rintro F26 ⟨i24, k24, y25⟩ hF27 ⟨H, hik24⟩
    refine Cd.as (e' := [(1, .pointer (some ⟨b1, 0, none⟩)), (2, .pointer (some ⟨b3, 0, none⟩)), (3, .pointer (some ⟨b5, 0, none⟩)), (24, .int .i64 a0.N), (25, .int .i64 (i24 : Int))]) (L' := (.blk b5 (enc y25) 89) :: (.blk b3 (enc (Vector.replicate 20 (Vector.replicate 20 false))) 89) :: (.blk b1 (enc (PosetR.mk a0 s_a0_1)) 24) :: L) ⟨rfl, rfl, rfl, rfl, rfl, trivial⟩ rfl ?_
    rcases k24 with _ | k24
    · have hc24 : decide ((i24 : Int) < a0.N) = false := decide_eq_false (by omega)
      replace H := rangeF_end H
      refine Cd.seq ?_
      refine Cd.region ?_
      refine Lst.run rfl rfl (by decide) (Ev.lss rfl rfl) ?_
      refine Lst.nil ?_
      refine At.then ?_
      refine Cd.seq ?_
      refine Cd.condF rfl hc24 ?_
      refine Cd.exit ?_
      refine At.then_exit ?_
      refine At.then_exit ?_
      refine At.in_exit ?_
      subst H
      replace H := HKl24
      refine At.then ?_
      refine Cd.seq ?_
      refine Cd.region ?_
      refine Lst.run rfl rfl (by decide) (Ev.loadA (i := 0) rfl rfl Try.isAgg89 Try.sizeOf89 (ch := enc y25) (Enc.len _) (Get.here _)) ?_
      refine Lst.store (i := 1) rfl rfl rfl rfl rfl Try.sizeOf89 (vs := enc y25) rfl (Enc.len _) (Enc.one _) (cs' := enc y25) (Put.here ((Enc.len _).trans (Enc.len _).symm)) (L' := (.blk b5 (enc y25) 89) :: (.blk b3 (enc y25) 89) :: (.blk b1 (enc (PosetR.mk a0 s_a0_1)) 24) :: L) rfl ?_
      refine Lst.nil ?_
      refine At.then ?_
      obtain rfl := some_inj H
      refine Cd.ret ?_
      exact At.ret1 rfl (Res.cellA (i := 1) rfl rfl Try.isAgg89 Try.sizeOf89 (Enc.len _)) (FLe.trans hF10 hF27) (List.Sublist.cons _ (List.Sublist.cons _ (List.Sublist.cons _ (List.Sublist.refl _)))) ⟨rfl, rfl⟩
    have hc24 : decide ((i24 : Int) < a0.N) = true := decide_eq_true (by omega)
    obtain ⟨c24, H, hgo24⟩ := rangeF_go H
    unfold poset_closed_B2 at H
    try dsimp only at H
    refine Cd.seq ?_
    refine Cd.region ?_
    refine Lst.run rfl rfl (by decide) (Ev.lss rfl rfl) ?_
    refine Lst.nil ?_
    refine At.then ?_
    refine Cd.seq ?_
    refine Cd.condT rfl hc24 ?_
    refine Cd.skip ?_
    refine At.then ?_
    refine Cd.seq ?_
    refine Cd.block ?_
    refine Cd.seq ?_
    refine Cd.region ?_
    refine Lst.run rfl rfl (by decide) (Ev.move rfl) ?_
    refine Lst.run rfl rfl (by decide) (Ev.assign rfl) ?_
    refine Lst.nil ?_
    refine At.then ?_
    refine Cd.seq ?_
    refine Cd.region ?_
    refine Lst.run rfl rfl (by decide) (Ev.fieldAddr (off' := 0) rfl Try.runUnderlying24 rfl Try.sizeOf3 rfl rfl) ?_
    refine Lst.run rfl rfl (by decide) (Ev.load (i := 2) rfl rfl Try.isAgg3 (v := .int .i64 a0.N) ((PosetR.get_N (Get.here _)).off (by rfl))) ?_
    refine Lst.run rfl rfl (by decide) (Ev.move rfl) ?_
    refine Lst.nil ?_
    refine At.then ?_
    refine Cd.block ?_
    obtain ⟨nn33, hN72, H⟩ := bind_some H
    replace hN72 := upTo_some hN72
    obtain ⟨ol29, H, HKl29⟩ := bind_some H
    refine Cd.loop (σ := Nat × Nat × (Vector (Vector Bool 20) 20)) (fun (i29, k29, y30) => [(1, .pointer (some ⟨b1, 0, none⟩)), (2, .pointer (some ⟨b3, 0, none⟩)), (3, .pointer (some ⟨b5, 0, none⟩)), (6, .int .i64 (i24 : Int)), (24, .int .i64 a0.N), (25, .int .i64 (i24 : Int)), (29, .int .i64 a0.N), (30, .int .i64 (i29 : Int))]) (fun (i29, k29, y30) => (.blk b5 (enc y30) 89) :: (.blk b3 (enc (Vector.replicate 20 (Vector.replicate 20 false))) 89) :: (.blk b1 (enc (PosetR.mk a0 s_a0_1)) 24) :: L) (fun _ => (fun (i29, k29, y30) => rangeF (poset_closed_B4 a0 i24) k29 i29 y30 = some ol29 ∧ i29 + k29 = nn33)) (fun (i29, k29, y30) => k29) (0, nn33, y25) ⟨rfl, rfl, rfl, rfl, rfl, rfl, rfl, rfl, trivial⟩ rfl ⟨H, by omega⟩ ?_
    rintro F31 ⟨i29, k29, y30⟩ hF32 ⟨H, hik29⟩
    refine Cd.as (e' := [(1, .pointer (some ⟨b1, 0, none⟩)), (2, .pointer (some ⟨b3, 0, none⟩)), (3, .pointer (some ⟨b5, 0, none⟩)), (6, .int .i64 (i24 : Int)), (24, .int .i64 a0.N), (25, .int .i64 (i24 : Int)), (29, .int .i64 a0.N), (30, .int .i64 (i29 : Int))]) (L' := (.blk b5 (enc y30) 89) :: (.blk b3 (enc (Vector.replicate 20 (Vector.replicate 20 false))) 89) :: (.blk b1 (enc (PosetR.mk a0 s_a0_1)) 24) :: L) ⟨rfl, rfl, rfl, rfl, rfl, rfl, rfl, rfl, trivial⟩ rfl ?_
    rcases k29 with _ | k29
    · have hc29 : decide ((i29 : Int) < a0.N) = false := decide_eq_false (by omega)
      replace H := rangeF_end H
      refine Cd.seq ?_
      refine Cd.region ?_
      refine Lst.run rfl rfl (by decide) (Ev.lss rfl rfl) ?_
      refine Lst.nil ?_
      refine At.then ?_
      refine Cd.seq ?_
      refine Cd.condF rfl hc29 ?_
      refine Cd.exit ?_
      refine At.then_exit ?_
      refine At.then_exit ?_
      refine At.in_exit ?_
      subst H
      replace H := HKl29
      refine At.in_normal ?_
      refine At.then ?_
      refine Cd.region ?_
      refine Lst.run rfl rfl (by decide) (Ev.incr (by omega) rfl rfl) ?_
      refine Lst.run rfl rfl (by decide) (Ev.move rfl) ?_
      refine Lst.nil ?_
      exact At.meet (i24 + 1, k24, y30) (FLe.trans hF27 hF32) ⟨rfl, rfl, rfl, rfl, rfl, trivial⟩ rfl ⟨⟨hgo24 _ (some_inj H).symm, by omega⟩, Nat.lt_succ_self _⟩
    have hc29 : decide ((i29 : Int) < a0.N) = true := decide_eq_true (by omega)
    obtain ⟨c29, H, hgo29⟩ := rangeF_go H
    unfold poset_closed_B4 at H
    try dsimp only at H
    refine Cd.seq ?_
    refine Cd.region ?_
    refine Lst.run rfl rfl (by decide) (Ev.lss rfl rfl) ?_
    refine Lst.nil ?_
    refine At.then ?_
    refine Cd.seq ?_
    refine Cd.condT rfl hc29 ?_
    refine Cd.skip ?_
    refine At.then ?_
    refine Cd.seq ?_
    refine Cd.block ?_
    refine Cd.seq ?_
    refine Cd.region ?_
    refine Lst.run rfl rfl (by decide) (Ev.move rfl) ?_
    refine Lst.run rfl rfl (by decide) (Ev.assign rfl) ?_
    refine Lst.nil ?_
    refine At.then ?_
    refine Cd.seq ?_
    refine Cd.region ?_
    refine Lst.run rfl rfl (by decide) (Ev.fieldAddr (off' := 0) rfl Try.runUnderlying24 rfl Try.sizeOf3 rfl rfl) ?_
    refine Lst.run rfl rfl (by decide) (Ev.load (i := 2) rfl rfl Try.isAgg3 (v := .int .i64 a0.N) ((PosetR.get_N (Get.here _)).off (by rfl))) ?_
    refine Lst.run rfl rfl (by decide) (Ev.move rfl) ?_
    refine Lst.nil ?_
    refine At.then ?_
    refine Cd.block ?_
    obtain ⟨nn38, hN71, H⟩ := bind_some H
    replace hN71 := upTo_some hN71
    obtain ⟨ol34, H, HKl34⟩ := bind_some H
    refine Cd.loop (σ := Nat × Nat × (Vector (Vector Bool 20) 20)) (fun (i34, k34, y35) => [(1, .pointer (some ⟨b1, 0, none⟩)), (2, .pointer (some ⟨b3, 0, none⟩)), (3, .pointer (some ⟨b5, 0, none⟩)), (6, .int .i64 (i24 : Int)), (7, .int .i64 (i29 : Int)), (24, .int .i64 a0.N), (25, .int .i64 (i24 : Int)), (29, .int .i64 a0.N), (30, .int .i64 (i29 : Int)), (34, .int .i64 a0.N), (35, .int .i64 (i34 : Int))]) (fun (i34, k34, y35) => (.blk b5 (enc y35) 89) :: (.blk b3 (enc (Vector.replicate 20 (Vector.replicate 20 false))) 89) :: (.blk b1 (enc (PosetR.mk a0 s_a0_1)) 24) :: L) (fun _ => (fun (i34, k34, y35) => rangeF (poset_closed_B6 i24 i29) k34 i34 y35 = some ol34 ∧ i34 + k34 = nn38)) (fun (i34, k34, y35) => k34) (0, nn38, y30) ⟨rfl, rfl, rfl, rfl, rfl, rfl, rfl, rfl, rfl, rfl, rfl, trivial⟩ rfl ⟨H, by omega⟩ ?_
    rintro F36 ⟨i34, k34, y35⟩ hF37 ⟨H, hik34⟩
    refine Cd.as (e' := [(1, .pointer (some ⟨b1, 0, none⟩)), (2, .pointer (some ⟨b3, 0, none⟩)), (3, .pointer (some ⟨b5, 0, none⟩)), (6, .int .i64 (i24 : Int)), (7, .int .i64 (i29 : Int)), (24, .int .i64 a0.N), (25, .int .i64 (i24 : Int)), (29, .int .i64 a0.N), (30, .int .i64 (i29 : Int)), (34, .int .i64 a0.N), (35, .int .i64 (i34 : Int))]) (L' := (.blk b5 (enc y35) 89) :: (.blk b3 (enc (Vector.replicate 20 (Vector.replicate 20 false))) 89) :: (.blk b1 (enc (PosetR.mk a0 s_a0_1)) 24) :: L) ⟨rfl, rfl, rfl, rfl, rfl, rfl, rfl, rfl, rfl, rfl, rfl, trivial⟩ rfl ?_
    rcases k34 with _ | k34
    · have hc34 : decide ((i34 : Int) < a0.N) = false := decide_eq_false (by omega)
      replace H := rangeF_end H
      refine Cd.seq ?_
      refine Cd.region ?_
      refine Lst.run rfl rfl (by decide) (Ev.lss rfl rfl) ?_
      refine Lst.nil ?_
      refine At.then ?_
      refine Cd.seq ?_
      refine Cd.condF rfl hc34 ?_
      refine Cd.exit ?_
      refine At.then_exit ?_
      refine At.then_exit ?_
      refine At.in_exit ?_
      subst H
      replace H := HKl34
      refine At.in_normal ?_
      refine At.then ?_
      refine Cd.region ?_
      refine Lst.run rfl rfl (by decide) (Ev.incr (by omega) rfl rfl) ?_
      refine Lst.run rfl rfl (by decide) (Ev.move rfl) ?_
      refine Lst.nil ?_
      exact At.meet (i29 + 1, k29, y35) (FLe.trans hF32 hF37) ⟨rfl, rfl, rfl, rfl, rfl, rfl, rfl, rfl, trivial⟩ rfl ⟨⟨hgo29 _ (some_inj H).symm, by omega⟩, Nat.lt_succ_self _⟩
    have hc34 : decide ((i34 : Int) < a0.N) = true := decide_eq_true (by omega)
    obtain ⟨c34, H, hgo34⟩ := rangeF_go H
    unfold poset_closed_B6 at H
    try dsimp only at H
    refine Cd.seq ?_
    refine Cd.region ?_
    refine Lst.run rfl rfl (by decide) (Ev.lss rfl rfl) ?_
    refine Lst.nil ?_
    refine At.then ?_
    refine Cd.seq ?_
    refine Cd.condT rfl hc34 ?_
    refine Cd.skip ?_
    refine At.then ?_
    refine Cd.seq ?_
    refine Cd.block ?_
    refine Cd.seq ?_
    refine Cd.region ?_
    refine Lst.run rfl rfl (by decide) (Ev.move rfl) ?_
    refine Lst.run rfl rfl (by decide) (Ev.assign rfl) ?_
    refine Lst.nil ?_
    refine At.then ?_
    refine Cd.tail 23 (by kernel_rfl) (by kernel_rfl) ?_
    refine Qt.run rfl rfl (by decide) (Ev.move rfl) ?_
    refine Qt.run rfl rfl (by decide) (Ev.move rfl) ?_
    refine Qt.run rfl rfl (by decide) (Ev.move rfl) ?_
    refine Qt.run rfl rfl (by decide) (Ev.move rfl) ?_
    obtain ⟨x39, h40, H⟩ := bind_some H
    have g41 := vat_some h40
    refine Qt.run rfl rfl (by decide) (Ev.indexAddr (off' := 0 + (i29 : Int).toNat * 20) rfl rfl Try.runUnderlying89 Try.sizeOf87 g41.1 g41.2.1 rfl) ?_
    obtain ⟨x42, h43, H⟩ := bind_some H
    have g44 := vat_some h43
    refine Qt.run rfl rfl (by decide) (Ev.indexAddr (off' := 0 + (i29 : Int).toNat * 20 + (i34 : Int).toNat * 1) rfl rfl Try.runUnderlying87 Try.sizeOf4 g44.1 g44.2.1 rfl) ?_
    refine Qt.run rfl rfl (by decide) (Ev.load (i := 0) rfl rfl Try.isAgg4 (v := .bool x42) ((Get.vecN (s := 20) (x := x39) rfl g41.2.2 (Get.vecN (s := 1) (x := x42) rfl g44.2.2 (Get.here _))).off (by omega))) ?_
    refine Qt.run rfl rfl (by decide) (Ev.move rfl) ?_
    obtain ⟨o45, H, HKo45⟩ := bind_some H
    refine Qt.join (σ := Bool) 13 (fun y46 => [(1, .pointer (some ⟨b1, 0, none⟩)), (2, .pointer (some ⟨b3, 0, none⟩)), (3, .pointer (some ⟨b5, 0, none⟩)), (6, .int .i64 (i24 : Int)), (7, .int .i64 (i29 : Int)), (24, .int .i64 a0.N), (25, .int .i64 (i24 : Int)), (29, .int .i64 a0.N), (30, .int .i64 (i29 : Int)), (34, .int .i64 a0.N), (35, .int .i64 (i34 : Int)), (38, .int .i64 (i29 : Int)), (39, .int .i64 (i34 : Int)), (58, .bool y46)]) (fun y46 => y46 = o45) ?_ ?_
    · rcases Bool.eq_false_or_eq_true x42 with hb47 | hb47
      · replace H := ite_t hb47 H
        refine Qt.skip rfl rfl rfl hb47 rfl (by decide) ?_
        refine Qt.skip rfl rfl rfl hb47 rfl (by decide) ?_
        refine Qt.skip rfl rfl rfl hb47 rfl (by decide) ?_
        refine Qt.skip rfl rfl rfl hb47 rfl (by decide) ?_
        refine Qt.skip rfl rfl rfl hb47 rfl (by decide) ?_
        refine Qt.skip rfl rfl rfl hb47 rfl (by decide) ?_
        refine Qt.skipU rfl rfl rfl rfl (by decide) ?_
        refine Qt.skipU rfl rfl rfl rfl (by decide) ?_
        refine Qt.skipU rfl rfl rfl rfl (by decide) ?_
        refine Qt.skipU rfl rfl rfl rfl (by decide) ?_
        refine Qt.skipU rfl rfl rfl rfl (by decide) ?_
        refine Qt.skip rfl rfl rfl hb47 rfl (by decide) ?_
        refine Qt.run rfl rfl (by decide) (Ev.pickT rfl hb47 rfl) ?_
        exact Qt.meet true ⟨rfl, rfl, rfl, rfl, rfl, rfl, rfl, rfl, rfl, rfl, rfl, rfl, rfl, rfl, trivial⟩ (some_inj H)
      replace H := ite_f hb47 H
      refine Qt.runG rfl rfl rfl hb47 rfl (by decide) (Ev.move rfl) ?_
      refine Qt.runG rfl rfl rfl hb47 rfl (by decide) (Ev.move rfl) ?_
      obtain ⟨x48, h49, H⟩ := bind_some H
      have g50 := vat_some h49
      refine Qt.runG rfl rfl rfl hb47 rfl (by decide) (Ev.indexAddr (off' := 0 + (i29 : Int).toNat * 20) rfl rfl Try.runUnderlying89 Try.sizeOf87 g50.1 g50.2.1 rfl) ?_
      obtain ⟨x51, h52, H⟩ := bind_some H
      have g53 := vat_some h52
      refine Qt.runG rfl rfl rfl hb47 rfl (by decide) (Ev.indexAddr (off' := 0 + (i29 : Int).toNat * 20 + (i24 : Int).toNat * 1) rfl rfl Try.runUnderlying87 Try.sizeOf4 g53.1 g53.2.1 rfl) ?_
      refine Qt.runG rfl rfl rfl hb47 rfl (by decide) (Ev.load (i := 0) rfl rfl Try.isAgg4 (v := .bool x51) ((Get.vecN (s := 20) (x := x48) rfl g50.2.2 (Get.vecN (s := 1) (x := x51) rfl g53.2.2 (Get.here _))).off (by omega))) ?_
      refine Qt.runG rfl rfl rfl hb47 rfl (by decide) (Ev.move rfl) ?_
      obtain ⟨o54, H, HKo54⟩ := bind_some H
      refine Qt.join (σ := Bool) 6 (fun y55 => [(1, .pointer (some ⟨b1, 0, none⟩)), (2, .pointer (some ⟨b3, 0, none⟩)), (3, .pointer (some ⟨b5, 0, none⟩)), (6, .int .i64 (i24 : Int)), (7, .int .i64 (i29 : Int)), (24, .int .i64 a0.N), (25, .int .i64 (i24 : Int)), (29, .int .i64 a0.N), (30, .int .i64 (i29 : Int)), (34, .int .i64 a0.N), (35, .int .i64 (i34 : Int)), (38, .int .i64 (i29 : Int)), (39, .int .i64 (i34 : Int)), (45, .bool x42), (57, .bool y55)]) (fun y55 => y55 = o54) ?_ ?_
      · rcases (Bool.eq_false_or_eq_true x51).symm with hb56 | hb56
        · replace H := ite_f hb56 H
          refine Qt.skip rfl rfl rfl hb56 rfl (by decide) ?_
          refine Qt.skip rfl rfl rfl hb56 rfl (by decide) ?_
          refine Qt.skip rfl rfl rfl hb56 rfl (by decide) ?_
          refine Qt.skip rfl rfl rfl hb56 rfl (by decide) ?_
          refine Qt.skip rfl rfl rfl hb56 rfl (by decide) ?_
          refine Qt.runG rfl rfl rfl hb47 rfl (by decide) (Ev.pickF rfl hb56 rfl) ?_
          exact Qt.meet false ⟨rfl, rfl, rfl, rfl, rfl, rfl, rfl, rfl, rfl, rfl, rfl, rfl, rfl, rfl, rfl, trivial⟩ (some_inj H)
        replace H := ite_t hb56 H
        refine Qt.runG rfl rfl rfl hb56 rfl (by decide) (Ev.move rfl) ?_
        refine Qt.runG rfl rfl rfl hb56 rfl (by decide) (Ev.move rfl) ?_
        obtain ⟨x57, h58, H⟩ := bind_some H
        have g59 := vat_some h58
        refine Qt.runG rfl rfl rfl hb56 rfl (by decide) (Ev.indexAddr (off' := 0 + (i24 : Int).toNat * 20) rfl rfl Try.runUnderlying89 Try.sizeOf87 g59.1 g59.2.1 rfl) ?_
        obtain ⟨x60, h61, H⟩ := bind_some H
        have g62 := vat_some h61
        refine Qt.runG rfl rfl rfl hb56 rfl (by decide) (Ev.indexAddr (off' := 0 + (i24 : Int).toNat * 20 + (i34 : Int).toNat * 1) rfl rfl Try.runUnderlying87 Try.sizeOf4 g62.1 g62.2.1 rfl) ?_
        refine Qt.runG rfl rfl rfl hb56 rfl (by decide) (Ev.load (i := 0) rfl rfl Try.isAgg4 (v := .bool x60) ((Get.vecN (s := 20) (x := x57) rfl g59.2.2 (Get.vecN (s := 1) (x := x60) rfl g62.2.2 (Get.here _))).off (by omega))) ?_
        refine Qt.runG rfl rfl rfl hb47 rfl (by decide) (Ev.pickT rfl hb56 rfl) ?_
        exact Qt.meet x60 ⟨rfl, rfl, rfl, rfl, rfl, rfl, rfl, rfl, rfl, rfl, rfl, rfl, rfl, rfl, rfl, trivial⟩ (some_inj H)
      rintro y55 hy
      subst hy
      refine Qt.as (e' := [(1, .pointer (some ⟨b1, 0, none⟩)), (2, .pointer (some ⟨b3, 0, none⟩)), (3, .pointer (some ⟨b5, 0, none⟩)), (6, .int .i64 (i24 : Int)), (7, .int .i64 (i29 : Int)), (24, .int .i64 a0.N), (25, .int .i64 (i24 : Int)), (29, .int .i64 a0.N), (30, .int .i64 (i29 : Int)), (34, .int .i64 a0.N), (35, .int .i64 (i34 : Int)), (38, .int .i64 (i29 : Int)), (39, .int .i64 (i34 : Int)), (45, .bool x42), (57, .bool y55)]) ⟨rfl, rfl, rfl, rfl, rfl, rfl, rfl, rfl, rfl, rfl, rfl, rfl, rfl, rfl, rfl, trivial⟩ ?_
      replace H := HKo54
      refine Qt.run rfl rfl (by decide) (Ev.pickF rfl hb47 rfl) ?_
      exact Qt.meet y55 ⟨rfl, rfl, rfl, rfl, rfl, rfl, rfl, rfl, rfl, rfl, rfl, rfl, rfl, rfl, trivial⟩ (some_inj H)
    rintro y46 hy
    subst hy
    refine Qt.as (e' := [(1, .pointer (some ⟨b1, 0, none⟩)), (2, .pointer (some ⟨b3, 0, none⟩)), (3, .pointer (some ⟨b5, 0, none⟩)), (6, .int .i64 (i24 : Int)), (7, .int .i64 (i29 : Int)), (24, .int .i64 a0.N), (25, .int .i64 (i24 : Int)), (29, .int .i64 a0.N), (30, .int .i64 (i29 : Int)), (34, .int .i64 a0.N), (35, .int .i64 (i34 : Int)), (38, .int .i64 (i29 : Int)), (39, .int .i64 (i34 : Int)), (58, .bool y46)]) ⟨rfl, rfl, rfl, rfl, rfl, rfl, rfl, rfl, rfl, rfl, rfl, rfl, rfl, rfl, trivial⟩ ?_
    replace H := HKo45
    obtain ⟨x63, h64, H⟩ := bind_some H
    have g65 := vat_some h64
    refine Qt.run rfl rfl (by decide) (Ev.indexAddr (off' := 0 + (i29 : Int).toNat * 20) rfl rfl Try.runUnderlying89 Try.sizeOf87 g65.1 g65.2.1 rfl) ?_
    obtain ⟨x66, h67, H⟩ := bind_some H
    have g68 := vat_some h67
    refine Qt.run rfl rfl (by decide) (Ev.indexAddr (off' := 0 + (i29 : Int).toNat * 20 + (i34 : Int).toNat * 1) rfl rfl Try.runUnderlying87 Try.sizeOf4 g68.1 g68.2.1 rfl) ?_
    refine Qt.tail ?_
    obtain ⟨p69, h70, H⟩ := Let_some H
    refine Lst.store (i := 0) rfl rfl rfl rfl rfl Try.sizeOf4 (vs := [.bool y46]) rfl rfl rfl (cs' := enc p69) (by rw [← h70]; exact (Put.vecN (s := 20) (x := x63) rfl g65.2.2 (Put.vecN (s := 1) (x := x66) rfl g68.2.2 (Put.here (vs := [.bool y46]) rfl))).off (by omega)) (L' := (.blk b5 (enc p69) 89) :: (.blk b3 (enc (Vector.replicate 20 (Vector.replicate 20 false))) 89) :: (.blk b1 (enc (PosetR.mk a0 s_a0_1)) 24) :: L) rfl ?_
    refine Lst.nil ?_
    refine At.in_normal ?_
    refine At.then ?_
    refine Cd.region ?_
    refine Lst.run rfl rfl (by decide) (Ev.incr (by omega) rfl rfl) ?_
    refine Lst.run rfl rfl (by decide) (Ev.move rfl) ?_
    refine Lst.nil ?_
    exact At.meet (i34 + 1, k34, p69) hF37 ⟨rfl, rfl, rfl, rfl, rfl, rfl, rfl, rfl, rfl, rfl, rfl, trivial⟩ rfl ⟨⟨hgo34 _ (some_inj H).symm, by omega⟩, Nat.lt_succ_self _⟩
  have hc7 : decide ((i7 : Int) < (a0.Pairs.length : Int)) = true := decide_eq_true (by omega)
  obtain ⟨c7, H, hgo7⟩ := rangeF_go H
  unfold poset_closed_B0 at H
  try dsimp only at H
  refine Cd.seq ?_
  refine Cd.region ?_
  refine Lst.run rfl rfl (by decide) (Ev.lss rfl rfl) ?_
  refine Lst.nil ?_
  refine At.then ?_
  refine Cd.seq ?_
  refine Cd.condT rfl hc7 ?_
  refine Cd.skip ?_
  refine At.then ?_
  refine Cd.seq ?_
  refine Cd.block ?_
  refine Cd.seq ?_
  refine Cd.region ?_
  obtain ⟨x11, h12, H⟩ := bind_some H
  have g13 := lat_some h12
  refine Lst.run rfl rfl (by decide) (Ev.indexS (α := Pair) (xs := a0.Pairs) rfl rfl Try.runUnderlying22 Try.sizeOf49 rfl (by decide) (hs_a0_1.mono hF10 (List.Sublist.cons _ (List.Sublist.cons _ (List.Sublist.cons _ hM)))) g13.1 g13.2.1) ?_
  refine Lst.run rfl rfl (by decide) (Ev.loadSA (α := Pair) rfl (hs_a0_1.mono hF10 (List.Sublist.cons _ (List.Sublist.cons _ (List.Sublist.cons _ hM)))) Try.isAgg49 Try.sizeOf49 (ch := enc x11) (Enc.len _) (by decide) ((Get.elemN (s := 2) (x := x11) rfl g13.2.2 (Get.here _)).off (by omega))) ?_
  refine Lst.alloc (cs := enc Pair.zero) rfl rfl (by decide) Try.zeroValue49 rfl (fun b14 => ?_)
  refine Lst.store (i := 0) rfl rfl rfl rfl rfl Try.sizeOf49 (vs := enc x11) rfl (Enc.len _) (Enc.one _) (cs' := enc x11) (Put.here ((Enc.len _).trans (Enc.len _).symm)) (L' := (.blk b14 (enc x11) 49) :: (.blk b5 (enc y8) 89) :: (.blk b3 (enc (Vector.replicate 20 (Vector.replicate 20 false))) 89) :: (.blk b1 (enc (PosetR.mk a0 s_a0_1)) 24) :: L) rfl ?_
  refine Lst.nil ?_
  refine At.then ?_
  refine Cd.tail 6 (by kernel_rfl) (by kernel_rfl) ?_
  refine Qt.run rfl rfl (by decide) (Ev.fieldAddr (off' := 0) rfl Try.runUnderlying49 rfl Try.sizeOf3 rfl rfl) ?_
  refine Qt.run rfl rfl (by decide) (Ev.load (i := 0) rfl rfl Try.isAgg3 (v := .int .i64 x11.A) ((Pair.get_A (Get.here _)).off (by rfl))) ?_
  refine Qt.run rfl rfl (by decide) (Ev.fieldAddr (off' := 1) rfl Try.runUnderlying49 rfl Try.sizeOf3 rfl rfl) ?_
  refine Qt.run rfl rfl (by decide) (Ev.load (i := 0) rfl rfl Try.isAgg3 (v := .int .i64 x11.B) ((Pair.get_B (Get.here _)).off (by rfl))) ?_
  obtain ⟨x16, h17, H⟩ := bind_some H
  have g18 := vat_some h17
  refine Qt.run rfl rfl (by decide) (Ev.indexAddr (off' := 0 + x11.A.toNat * 20) rfl rfl Try.runUnderlying89 Try.sizeOf87 g18.1 g18.2.1 rfl) ?_
  obtain ⟨x19, h20, H⟩ := bind_some H
  have g21 := vat_some h20
  refine Qt.run rfl rfl (by decide) (Ev.indexAddr (off' := 0 + x11.A.toNat * 20 + x11.B.toNat * 1) rfl rfl Try.runUnderlying87 Try.sizeOf4 g21.1 g21.2.1 rfl) ?_
  refine Qt.tail ?_
  obtain ⟨p22, h23, H⟩ := Let_some H
  refine Lst.store (i := 1) rfl rfl rfl rfl rfl Try.sizeOf4 (vs := [.bool true]) rfl rfl rfl (cs' := enc p22) (by rw [← h23]; exact (Put.vecN (s := 20) (x := x16) rfl g18.2.2 (Put.vecN (s := 1) (x := x19) rfl g21.2.2 (Put.here (vs := [.bool true]) rfl))).off (by omega)) (L' := (.blk b14 (enc x11) 49) :: (.blk b5 (enc p22) 89) :: (.blk b3 (enc (Vector.replicate 20 (Vector.replicate 20 false))) 89) :: (.blk b1 (enc (PosetR.mk a0 s_a0_1)) 24) :: L) rfl ?_
  refine Lst.nil ?_
  refine At.in_normal ?_
  refine At.then ?_
  refine Cd.region ?_
  refine Lst.run rfl rfl (by decide) (Ev.incr (by omega) rfl rfl) ?_
  refine Lst.run rfl rfl (by decide) (Ev.move rfl) ?_
  refine Lst.nil ?_
  refine At.less (L' := (.blk b5 (enc p22) 89) :: (.blk b3 (enc (Vector.replicate 20 (Vector.replicate 20 false))) 89) :: (.blk b1 (enc (PosetR.mk a0 s_a0_1)) 24) :: L) (List.Sublist.cons _ (List.Sublist.cons_cons _ (List.Sublist.cons_cons _ (List.Sublist.cons_cons _ (List.Sublist.refl _))))) ?_
  exact At.meet (i7 + 1, k7, p22) hF10 ⟨rfl, rfl, rfl, rfl, rfl, rfl, trivial⟩ rfl ⟨⟨hgo7 _ (some_inj H).symm, by omega⟩, Nat.lt_succ_self _⟩
set_option maxRecDepth 20000 in
theorem poset_check_sim {a0 : Poset} {s_a0_1 : Sl} {r : (Vector (Vector Bool 20) 20) × Int} (H : poset_check a0 = some r) (w0 : World) (F : Frz) (M L : List Item) (hM : M.Sublist L) (hs_a0_1 : Rd w0 F M s_a0_1 a0.Pairs) : Ok Try.prog w0 53 [.agg (enc (PosetR.mk a0 s_a0_1)).toArray] F (L) (Is (.tuple #[.agg (enc r.1).toArray, .int .i64 r.2]) (L)) := by
  unfold poset_check at H
  refine Ok.enter (m := 1) (n := 42) Try.func53 rfl rfl rfl (by decide) ?_
  refine Cd.env (e' := [(0, .agg (enc (PosetR.mk a0 s_a0_1)).toArray)]) rfl ?_
  refine Cd.seq ?_
  refine Cd.region ?_
  refine Lst.box rfl rfl (by decide) rfl (cs := enc (PosetR.mk a0 s_a0_1)) rfl (fun b1 => ?_)
  refine Lst.alloc (z := .agg (enc (Vector.replicate 20 (Vector.replicate 20 false))).toArray) (cs := enc (Vector.replicate 20 (Vector.replicate 20 false))) rfl rfl (by decide) (fun _ => by kernel_rfl) rfl (fun b3 => ?_)
  refine Lst.run rfl rfl (by decide) (Ev.assign rfl) ?_
  refine Lst.nil ?_
  refine At.then ?_
  refine Cd.seq ?_
  refine Cd.seq ?_
  refine Cd.region ?_
  refine Lst.run rfl rfl (by decide) (Ev.fieldAddr (off' := 0) rfl Try.runUnderlying24 rfl Try.sizeOf3 rfl rfl) ?_
  refine Lst.run rfl rfl (by decide) (Ev.load (i := 1) rfl rfl Try.isAgg3 (v := .int .i64 a0.N) ((PosetR.get_N (Get.here _)).off (by rfl))) ?_
  refine Lst.run rfl rfl (by decide) (Ev.lss rfl rfl) ?_
  refine Lst.run rfl rfl (by decide) (Ev.move rfl) ?_
  obtain ⟨o5, H, HKo5⟩ := bind_some H
  refine Lst.join (σ := Bool) 4 (fun y6 => [(1, .pointer (some ⟨b1, 0, none⟩)), (2, .pointer (some ⟨b3, 0, none⟩)), (14, .bool y6)]) (fun y6 => (.blk b3 (enc (Vector.replicate 20 (Vector.replicate 20 false))) 89) :: (.blk b1 (enc (PosetR.mk a0 s_a0_1)) 24) :: L) (fun _ y6 => y6 = o5) ?_ ?_
  · rcases Bool.eq_false_or_eq_true (decide (a0.N < (0 : Int))) with hb7 | hb7
    · replace H := ite_t hb7 H
      refine Lst.skip rfl rfl rfl hb7 rfl (by decide) ?_
      refine Lst.skip rfl rfl rfl hb7 rfl (by decide) ?_
      refine Lst.skip rfl rfl rfl hb7 rfl (by decide) ?_
      refine Lst.run rfl rfl (by decide) (Ev.pickT rfl hb7 rfl) ?_
      refine Lst.nil ?_
      exact At.meet true (FLe.refl _) ⟨rfl, rfl, rfl, trivial⟩ rfl (some_inj H)
    replace H := ite_f hb7 H
    refine Lst.runG rfl rfl rfl hb7 rfl (by decide) (Ev.fieldAddr (off' := 0) rfl Try.runUnderlying24 rfl Try.sizeOf3 rfl rfl) ?_
    refine Lst.runG rfl rfl rfl hb7 rfl (by decide) (Ev.load (i := 1) rfl rfl Try.isAgg3 (v := .int .i64 a0.N) ((PosetR.get_N (Get.here _)).off (by rfl))) ?_
    refine Lst.runG rfl rfl rfl hb7 rfl (by decide) (Ev.gtr rfl rfl) ?_
    refine Lst.run rfl rfl (by decide) (Ev.pickF rfl hb7 rfl) ?_
    refine Lst.nil ?_
    exact At.meet (decide (a0.N > (20 : Int))) (FLe.refl _) ⟨rfl, rfl, rfl, trivial⟩ rfl (some_inj H)
  rintro F8 y6 hF9 hy
  subst hy
  refine Lst.as (e' := [(1, .pointer (some ⟨b1, 0, none⟩)), (2, .pointer (some ⟨b3, 0, none⟩)), (14, .bool y6)]) (L' := (.blk b3 (enc (Vector.replicate 20 (Vector.replicate 20 false))) 89) :: (.blk b1 (enc (PosetR.mk a0 s_a0_1)) 24) :: L) ⟨rfl, rfl, rfl, trivial⟩ rfl ?_
  replace H := HKo5
  refine Lst.nil ?_
  refine At.then ?_
  rcases Bool.eq_false_or_eq_true y6 with hb10 | hb10
  · replace H := ite_t hb10 H
    refine Cd.condT rfl hb10 ?_
    refine Cd.seq ?_
    refine Cd.region ?_
    refine Lst.run rfl rfl (by decide) (Ev.build (v := .agg (enc ((Vector.replicate 20 (Vector.replicate 20 false)) : Vector (Vector Bool 20) 20)).toArray) (pv := []) trivial (fun w => by kernel_rfl)) ?_
    refine Lst.store (i := 0) rfl rfl rfl rfl rfl Try.sizeOf89 (vs := enc ((Vector.replicate 20 (Vector.replicate 20 false)) : Vector (Vector Bool 20) 20)) rfl (Enc.len _) (Enc.one _) (cs' := enc ((Vector.replicate 20 (Vector.replicate 20 false)) : Vector (Vector Bool 20) 20)) (Put.here ((Enc.len _).trans (Enc.len _).symm)) (L' := (.blk b3 (enc ((Vector.replicate 20 (Vector.replicate 20 false)) : Vector (Vector Bool 20) 20)) 89) :: (.blk b1 (enc (PosetR.mk a0 s_a0_1)) 24) :: L) rfl ?_
    refine Lst.run rfl rfl (by decide) (Ev.assign rfl) ?_
    refine Lst.nil ?_
    refine At.then ?_
    obtain rfl := some_inj H
    refine Cd.ret ?_
    refine At.then_ret ?_
    exact At.ret2 rfl (Res.cellA (i := 0) rfl rfl Try.isAgg89 Try.sizeOf89 (Enc.len _)) (Res.tmp rfl) hF9 (List.Sublist.cons _ (List.Sublist.cons _ (List.Sublist.refl _))) ⟨rfl, rfl⟩
  replace H := ite_f hb10 H
  refine Cd.condF rfl hb10 ?_
  refine Cd.skip ?_
  refine At.then ?_
  refine Cd.seq ?_
  refine Cd.seq ?_
  refine Cd.region ?_
  refine Lst.run rfl rfl (by decide) (Ev.fieldAddr (off' := 0) rfl Try.runUnderlying24 rfl Try.sizeOf3 rfl rfl) ?_
  refine Lst.run rfl rfl (by decide) (Ev.load (i := 1) rfl rfl Try.isAgg3 (v := .int .i64 a0.N) ((PosetR.get_N (Get.here _)).off (by rfl))) ?_
  refine Lst.run rfl rfl (by decide) (Ev.fieldAddr (off' := 0) rfl Try.runUnderlying24 rfl Try.sizeOf3 rfl rfl) ?_
  refine Lst.run rfl rfl (by decide) (Ev.load (i := 1) rfl rfl Try.isAgg3 (v := .int .i64 a0.N) ((PosetR.get_N (Get.here _)).off (by rfl))) ?_
  refine Lst.run rfl rfl (by decide) (Ev.fieldAddr (off' := 1) rfl Try.runUnderlying24 rfl Try.sizeOf22 rfl rfl) ?_
  refine Lst.run rfl rfl (by decide) (Ev.load (i := 1) rfl rfl Try.isAgg22 (v := Sl.v s_a0_1) ((PosetR.get_Pairs (Get.here _)).off (by rfl))) ?_
  obtain ⟨r11, h12, H⟩ := bind_some H
  refine Lst.call1 rfl rfl (by decide) (vs := [.int .i64 a0.N, .int .i64 a0.N, Sl.v s_a0_1]) ⟨rfl, rfl, rfl, trivial⟩ Try.call37 (match_Check_sim h12 w0 _ M _ (List.Sublist.cons _ (List.Sublist.cons _ hM)) (hs_a0_1.mono hF9 (List.Sublist.refl _))) ?_
  refine Lst.run rfl rfl (by decide) (Ev.assign rfl) ?_
  refine Lst.nil ?_
  refine At.then ?_
  refine Cd.seq ?_
  refine Cd.region ?_
  refine Lst.run rfl rfl (by decide) (Ev.move rfl) ?_
  refine Lst.run rfl rfl (by decide) (Ev.neq rfl rfl) ?_
  refine Lst.nil ?_
  refine At.then ?_
  rcases Bool.eq_false_or_eq_true (r11 != (0 : Int)) with hb15 | hb15
  · replace H := ite_t hb15 H
    refine Cd.condT rfl hb15 ?_
    refine Cd.seq ?_
    refine Cd.region ?_
    refine Lst.run rfl rfl (by decide) (Ev.build (v := .agg (enc ((Vector.replicate 20 (Vector.replicate 20 false)) : Vector (Vector Bool 20) 20)).toArray) (pv := []) trivial (fun w => by kernel_rfl)) ?_
    refine Lst.run rfl rfl (by decide) (Ev.move rfl) ?_
    refine Lst.store (i := 0) rfl rfl rfl rfl rfl Try.sizeOf89 (vs := enc ((Vector.replicate 20 (Vector.replicate 20 false)) : Vector (Vector Bool 20) 20)) rfl (Enc.len _) (Enc.one _) (cs' := enc ((Vector.replicate 20 (Vector.replicate 20 false)) : Vector (Vector Bool 20) 20)) (Put.here ((Enc.len _).trans (Enc.len _).symm)) (L' := (.blk b3 (enc ((Vector.replicate 20 (Vector.replicate 20 false)) : Vector (Vector Bool 20) 20)) 89) :: (.blk b1 (enc (PosetR.mk a0 s_a0_1)) 24) :: L) rfl ?_
    refine Lst.run rfl rfl (by decide) (Ev.assign rfl) ?_
    refine Lst.nil ?_
    refine At.then ?_
    obtain rfl := some_inj H
    refine Cd.ret ?_
    refine At.then_ret ?_
    exact At.ret2 rfl (Res.cellA (i := 0) rfl rfl Try.isAgg89 Try.sizeOf89 (Enc.len _)) (Res.tmp rfl) hF9 (List.Sublist.cons _ (List.Sublist.cons _ (List.Sublist.refl _))) ⟨rfl, rfl⟩
  replace H := ite_f hb15 H
  refine Cd.condF rfl hb15 ?_
  refine Cd.skip ?_
  refine At.then ?_
  refine Cd.seq ?_
  refine Cd.region ?_
  refine Lst.run rfl rfl (by decide) (Ev.loadA (i := 1) rfl rfl Try.isAgg24 Try.sizeOf24 (ch := enc (PosetR.mk a0 s_a0_1)) (Enc.len _) (Get.here _)) ?_
  obtain ⟨r16, h17, H⟩ := bind_some H
  refine Lst.call1 rfl rfl (by decide) (vs := [.agg (enc (PosetR.mk a0 s_a0_1)).toArray]) ⟨rfl, trivial⟩ Try.call58 (poset_closed_sim h17 w0 _ M _ (List.Sublist.cons _ (List.Sublist.cons _ hM)) (hs_a0_1.mono hF9 (List.Sublist.refl _))) ?_
  refine Lst.alloc (z := .agg (enc (Vector.replicate 20 (Vector.replicate 20 false))).toArray) (cs := enc (Vector.replicate 20 (Vector.replicate 20 false))) rfl rfl (by decide) (fun _ => by kernel_rfl) rfl (fun b20 => ?_)
  refine Lst.store (i := 0) rfl rfl rfl rfl rfl Try.sizeOf89 (vs := enc r16) rfl (Enc.len _) (Enc.one _) (cs' := enc r16) (Put.here ((Enc.len _).trans (Enc.len _).symm)) (L' := (.blk b20 (enc r16) 89) :: (.blk b3 (enc (Vector.replicate 20 (Vector.replicate 20 false))) 89) :: (.blk b1 (enc (PosetR.mk a0 s_a0_1)) 24) :: L) rfl ?_
  refine Lst.nil ?_
  refine At.then ?_
  refine Cd.seq ?_
  refine Cd.seq ?_
  refine Cd.region ?_
  refine Lst.run rfl rfl (by decide) (Ev.fieldAddr (off' := 0) rfl Try.runUnderlying24 rfl Try.sizeOf3 rfl rfl) ?_
  refine Lst.run rfl rfl (by decide) (Ev.load (i := 2) rfl rfl Try.isAgg3 (v := .int .i64 a0.N) ((PosetR.get_N (Get.here _)).off (by rfl))) ?_
  refine Lst.run rfl rfl (by decide) (Ev.move rfl) ?_
  refine Lst.nil ?_
  refine At.then ?_
  refine Cd.block ?_
  obtain ⟨nn25, hN33, H⟩ := bind_some H
  replace hN33 := upTo_some hN33
  obtain ⟨ol22, H, HKl22⟩ := andThen_some H
  refine Cd.loop (σ := Nat × Nat × Unit) (fun (i22, k22, _u) => [(2, .pointer (some ⟨b3, 0, none⟩)), (5, .pointer (some ⟨b20, 0, none⟩)), (30, .int .i64 a0.N), (31, .int .i64 (i22 : Int))]) (fun (i22, k22, _u) => (.blk b20 (enc r16) 89) :: (.blk b3 (enc (Vector.replicate 20 (Vector.replicate 20 false))) 89) :: (.blk b1 (enc (PosetR.mk a0 s_a0_1)) 24) :: L) (fun _ => (fun (i22, k22, _u) => rangeM (poset_check_B0 r16) k22 i22 () = some ol22 ∧ i22 + k22 = nn25)) (fun (i22, k22, _u) => k22) (0, nn25, ()) ⟨rfl, rfl, rfl, rfl, trivial⟩ rfl ⟨H, by omega⟩ ?_
  rintro F23 ⟨i22, k22, _u⟩ hF24 ⟨H, hik22⟩
  refine Cd.as (e' := [(2, .pointer (some ⟨b3, 0, none⟩)), (5, .pointer (some ⟨b20, 0, none⟩)), (30, .int .i64 a0.N), (31, .int .i64 (i22 : Int))]) (L' := (.blk b20 (enc r16) 89) :: (.blk b3 (enc (Vector.replicate 20 (Vector.replicate 20 false))) 89) :: (.blk b1 (enc (PosetR.mk a0 s_a0_1)) 24) :: L) ⟨rfl, rfl, rfl, rfl, trivial⟩ rfl ?_
  rcases k22 with _ | k22
  · have hc22 : decide ((i22 : Int) < a0.N) = false := decide_eq_false (by omega)
    replace H := rangeM_end H
    refine Cd.seq ?_
    refine Cd.region ?_
    refine Lst.run rfl rfl (by decide) (Ev.lss rfl rfl) ?_
    refine Lst.nil ?_
    refine At.then ?_
    refine Cd.seq ?_
    refine Cd.condF rfl hc22 ?_
    refine Cd.exit ?_
    refine At.then_exit ?_
    refine At.then_exit ?_
    refine At.in_exit ?_
    subst H
    replace H := HKl22
    refine At.then ?_
    refine Cd.seq ?_
    refine Cd.region ?_
    refine Lst.run rfl rfl (by decide) (Ev.loadA (i := 0) rfl rfl Try.isAgg89 Try.sizeOf89 (ch := enc r16) (Enc.len _) (Get.here _)) ?_
    refine Lst.store (i := 1) rfl rfl rfl rfl rfl Try.sizeOf89 (vs := enc r16) rfl (Enc.len _) (Enc.one _) (cs' := enc r16) (Put.here ((Enc.len _).trans (Enc.len _).symm)) (L' := (.blk b20 (enc r16) 89) :: (.blk b3 (enc r16) 89) :: (.blk b1 (enc (PosetR.mk a0 s_a0_1)) 24) :: L) rfl ?_
    refine Lst.run rfl rfl (by decide) (Ev.assign rfl) ?_
    refine Lst.nil ?_
    refine At.then ?_
    obtain rfl := some_inj H
    refine Cd.ret ?_
    exact At.ret2 rfl (Res.cellA (i := 1) rfl rfl Try.isAgg89 Try.sizeOf89 (Enc.len _)) (Res.tmp rfl) (FLe.trans hF9 hF24) (List.Sublist.cons _ (List.Sublist.cons _ (List.Sublist.cons _ (List.Sublist.refl _)))) ⟨rfl, rfl⟩
  have hc22 : decide ((i22 : Int) < a0.N) = true := decide_eq_true (by omega)
  obtain ⟨c22, H, hgo22, hbrk22, hret22⟩ := rangeM_go H
  unfold poset_check_B0 at H
  try dsimp only at H
  refine Cd.seq ?_
  refine Cd.region ?_
  refine Lst.run rfl rfl (by decide) (Ev.lss rfl rfl) ?_
  refine Lst.nil ?_
  refine At.then ?_
  refine Cd.seq ?_
  refine Cd.condT rfl hc22 ?_
  refine Cd.skip ?_
  refine At.then ?_
  refine Cd.seq ?_
  refine Cd.block ?_
  refine Cd.seq ?_
  refine Cd.region ?_
  refine Lst.run rfl rfl (by decide) (Ev.move rfl) ?_
  refine Lst.run rfl rfl (by decide) (Ev.assign rfl) ?_
  refine Lst.nil ?_
  refine At.then ?_
  refine Cd.seq ?_
  refine Cd.region ?_
  refine Lst.run rfl rfl (by decide) (Ev.move rfl) ?_
  refine Lst.run rfl rfl (by decide) (Ev.move rfl) ?_
  obtain ⟨x26, h27, H⟩ := bind_some H
  have g28 := vat_some h27
  refine Lst.run rfl rfl (by decide) (Ev.indexAddr (off' := 0 + (i22 : Int).toNat * 20) rfl rfl Try.runUnderlying89 Try.sizeOf87 g28.1 g28.2.1 rfl) ?_
  obtain ⟨x29, h30, H⟩ := bind_some H
  have g31 := vat_some h30
  refine Lst.run rfl rfl (by decide) (Ev.indexAddr (off' := 0 + (i22 : Int).toNat * 20 + (i22 : Int).toNat * 1) rfl rfl Try.runUnderlying87 Try.sizeOf4 g31.1 g31.2.1 rfl) ?_
  refine Lst.run rfl rfl (by decide) (Ev.load (i := 0) rfl rfl Try.isAgg4 (v := .bool x29) ((Get.vecN (s := 20) (x := x26) rfl g28.2.2 (Get.vecN (s := 1) (x := x29) rfl g31.2.2 (Get.here _))).off (by omega))) ?_
  refine Lst.nil ?_
  refine At.then ?_
  rcases Bool.eq_false_or_eq_true x29 with hb32 | hb32
  · replace H := ite_t hb32 H
    refine Cd.condT rfl hb32 ?_
    refine Cd.seq ?_
    refine Cd.region ?_
    refine Lst.run rfl rfl (by decide) (Ev.build (v := .agg (enc ((Vector.replicate 20 (Vector.replicate 20 false)) : Vector (Vector Bool 20) 20)).toArray) (pv := []) trivial (fun w => by kernel_rfl)) ?_
    refine Lst.store (i := 1) rfl rfl rfl rfl rfl Try.sizeOf89 (vs := enc ((Vector.replicate 20 (Vector.replicate 20 false)) : Vector (Vector Bool 20) 20)) rfl (Enc.len _) (Enc.one _) (cs' := enc ((Vector.replicate 20 (Vector.replicate 20 false)) : Vector (Vector Bool 20) 20)) (Put.here ((Enc.len _).trans (Enc.len _).symm)) (L' := (.blk b20 (enc r16) 89) :: (.blk b3 (enc ((Vector.replicate 20 (Vector.replicate 20 false)) : Vector (Vector Bool 20) 20)) 89) :: (.blk b1 (enc (PosetR.mk a0 s_a0_1)) 24) :: L) rfl ?_
    refine Lst.run rfl rfl (by decide) (Ev.assign rfl) ?_
    refine Lst.nil ?_
    refine At.then ?_
    have H := hret22 _ (some_inj H).symm
    subst H
    replace H := HKl22
    obtain rfl := some_inj H
    refine Cd.ret ?_
    refine At.in_ret ?_
    refine At.then_ret ?_
    refine At.then_ret ?_
    refine At.in_ret ?_
    refine At.then_ret ?_
    exact At.ret2 rfl (Res.cellA (i := 1) rfl rfl Try.isAgg89 Try.sizeOf89 (Enc.len _)) (Res.tmp rfl) (FLe.trans hF9 hF24) (List.Sublist.cons _ (List.Sublist.cons _ (List.Sublist.cons _ (List.Sublist.refl _)))) ⟨rfl, rfl⟩
  replace H := ite_f hb32 H
  refine Cd.condF rfl hb32 ?_
  refine Cd.skip ?_
  refine At.in_normal ?_
  refine At.then ?_
  refine Cd.region ?_
  refine Lst.run rfl rfl (by decide) (Ev.incr (by omega) rfl rfl) ?_
  refine Lst.run rfl rfl (by decide) (Ev.move rfl) ?_
  refine Lst.nil ?_
  exact At.meet (i22 + 1, k22, ()) hF24 ⟨rfl, rfl, rfl, rfl, trivial⟩ rfl ⟨⟨hgo22 _ (some_inj H).symm, by omega⟩, Nat.lt_succ_self _⟩
set_option maxRecDepth 20000 in
theorem poset_order_all_1_sim {a0 : Int} {a1 : Int} {r : Bool} (H : poset_order_all_1 a0 a1 = some r) (w0 : World) (F : Frz) (M L : List Item) (hM : M.Sublist L) : Ok Try.prog w0 76 [.int .i64 a0, .int .i64 a1] F (L) (Is (.bool r) (L)) := by
  unfold poset_order_all_1 at H
  refine Ok.enter (m := 2) (n := 5) Try.func76 rfl rfl rfl (by decide) ?_
  refine Cd.env (e' := [(0, .int .i64 a0), (1, .int .i64 a1)]) rfl ?_
  refine Cd.seq ?_
  refine Cd.region ?_
  refine Lst.run rfl rfl (by decide) (Ev.assign rfl) ?_
  refine Lst.nil ?_
  refine At.then ?_
  refine Cd.seq ?_
  refine Cd.region ?_
  refine Lst.run rfl rfl (by decide) (Ev.assign rfl) ?_
  refine Lst.nil ?_
  refine At.then ?_
  obtain rfl := some_inj H
  refine Cd.ret ?_
  exact At.ret1 rfl (Res.tmp rfl) (FLe.refl _) (List.Sublist.refl _) ⟨rfl, rfl⟩
set_option maxRecDepth 20000 in
theorem poset_order_pairs_all_1_sim {a0 : Vector (Vector Bool 20) 20} {a1 : Int} {r : (List Pair)} (H : poset_order_pairs_all_1 a0 a1 = some r) (w0 : World) (F : Frz) (M L : List Item) (hM : M.Sublist L) : Ok Try.prog w0 55 [.agg (enc a0).toArray, .int .i64 a1, .func (.func 76) #[] #[]] F (L) (fun _ L' v => ∃ (s1 : Sl), v = Sl.v s1 ∧ L' = (.own s1 49 2 (encs r)) :: L) := by
  unfold poset_order_pairs_all_1 at H
  refine Ok.enter (m := 3) (n := 38) Try.func55 rfl rfl rfl (by decide) ?_
  refine Cd.env (e' := [(0, .agg (enc a0).toArray), (1, .int .i64 a1), (2, .func (.func 76) #[] #[])]) rfl ?_
  refine Cd.seq ?_
  refine Cd.region ?_
  refine Lst.box rfl rfl (by decide) rfl (cs := enc a0) rfl (fun b1 => ?_)
  refine Lst.addNil 49 2 ?_
  refine Lst.run rfl rfl (by decide) (Ev.assign rfl) ?_
  refine Lst.nil ?_
  refine At.then ?_
  refine Cd.seq ?_
  refine Cd.region ?_
  refine Lst.addNil 49 2 ?_
  refine Lst.run rfl rfl (by decide) (Ev.assign rfl) ?_
  refine Lst.nil ?_
  refine At.then ?_
  refine Cd.seq ?_
  refine Cd.seq ?_
  refine Cd.region ?_
  refine Lst.run rfl rfl (by decide) (Ev.move rfl) ?_
  refine Lst.run rfl rfl (by decide) (Ev.move rfl) ?_
  refine Lst.nil ?_
  refine At.then ?_
  refine Cd.block ?_
  obtain ⟨nn10, hN39, H⟩ := bind_some H
  replace hN39 := upTo_some hN39
  obtain ⟨ol5, H, HKl5⟩ := bind_some H
  refine Cd.loop (σ := Nat × Nat × Sl × (List Pair)) (fun (i5, k5, s6, l7) => [(1, .int .i64 a1), (2, .func (.func 76) #[] #[]), (3, .pointer (some ⟨b1, 0, none⟩)), (7, Sl.v s6), (10, .int .i64 a1), (11, .int .i64 (i5 : Int))]) (fun (i5, k5, s6, l7) => (.own s6 49 2 (encs l7)) :: (.own Sl.nil 49 2 (encs ([] : List Pair))) :: (.blk b1 (enc a0) 89) :: L) (fun _ => (fun (i5, k5, s6, l7) => rangeF (poset_order_pairs_all_1_B0 a0 a1) k5 i5 l7 = some ol5 ∧ i5 + k5 = nn10)) (fun (i5, k5, s6, l7) => k5) (0, nn10, Sl.nil, ([] : List Pair)) ⟨rfl, rfl, rfl, rfl, rfl, rfl, trivial⟩ rfl ⟨H, by omega⟩ ?_
  rintro F8 ⟨i5, k5, s6, l7⟩ hF9 ⟨H, hik5⟩
  refine Cd.as (e' := [(1, .int .i64 a1), (2, .func (.func 76) #[] #[]), (3, .pointer (some ⟨b1, 0, none⟩)), (7, Sl.v s6), (10, .int .i64 a1), (11, .int .i64 (i5 : Int))]) (L' := (.own s6 49 2 (encs l7)) :: (.own Sl.nil 49 2 (encs ([] : List Pair))) :: (.blk b1 (enc a0) 89) :: L) ⟨rfl, rfl, rfl, rfl, rfl, rfl, trivial⟩ rfl ?_
  rcases k5 with _ | k5
  · have hc5 : decide ((i5 : Int) < a1) = false := decide_eq_false (by omega)
    replace H := rangeF_end H
    refine Cd.seq ?_
    refine Cd.region ?_
    refine Lst.run rfl rfl (by decide) (Ev.lss rfl rfl) ?_
    refine Lst.nil ?_
    refine At.then ?_
    refine Cd.seq ?_
    refine Cd.condF rfl hc5 ?_
    refine Cd.exit ?_
    refine At.then_exit ?_
    refine At.then_exit ?_
    refine At.in_exit ?_
    subst H
    replace H := HKl5
    refine At.then ?_
    refine Cd.seq ?_
    refine Cd.region ?_
    refine Lst.run rfl rfl (by decide) (Ev.move rfl) ?_
    refine Lst.run rfl rfl (by decide) (Ev.assign rfl) ?_
    refine Lst.nil ?_
    refine At.then ?_
    obtain rfl := some_inj H
    refine Cd.ret ?_
    exact At.ret1 rfl (Res.tmp rfl) hF9 (List.Sublist.cons_cons _ (List.Sublist.cons _ (List.Sublist.cons _ (List.Sublist.refl _)))) ⟨s6, rfl, rfl⟩
  have hc5 : decide ((i5 : Int) < a1) = true := decide_eq_true (by omega)
  obtain ⟨c5, H, hgo5⟩ := rangeF_go H
  unfold poset_order_pairs_all_1_B0 at H
  try dsimp only at H
  refine Cd.seq ?_
  refine Cd.region ?_
  refine Lst.run rfl rfl (by decide) (Ev.lss rfl rfl) ?_
  refine Lst.nil ?_
  refine At.then ?_
  refine Cd.seq ?_
  refine Cd.condT rfl hc5 ?_
  refine Cd.skip ?_
  refine At.then ?_
  refine Cd.seq ?_
  refine Cd.block ?_
  refine Cd.seq ?_
  refine Cd.region ?_
  refine Lst.run rfl rfl (by decide) (Ev.move rfl) ?_
  refine Lst.run rfl rfl (by decide) (Ev.assign rfl) ?_
  refine Lst.nil ?_
  refine At.then ?_
  refine Cd.seq ?_
  refine Cd.region ?_
  refine Lst.run rfl rfl (by decide) (Ev.move rfl) ?_
  refine Lst.run rfl rfl (by decide) (Ev.move rfl) ?_
  refine Lst.nil ?_
  refine At.then ?_
  refine Cd.block ?_
  obtain ⟨nn16, hN38, H⟩ := bind_some H
  replace hN38 := upTo_some hN38
  obtain ⟨ol11, H, HKl11⟩ := bind_some H
  refine Cd.loop (σ := Nat × Nat × Sl × (List Pair)) (fun (i11, k11, s12, l13) => [(1, .int .i64 a1), (2, .func (.func 76) #[] #[]), (3, .pointer (some ⟨b1, 0, none⟩)), (7, Sl.v s12), (8, .int .i64 (i5 : Int)), (10, .int .i64 a1), (11, .int .i64 (i5 : Int)), (14, .int .i64 a1), (15, .int .i64 (i11 : Int))]) (fun (i11, k11, s12, l13) => (.own s12 49 2 (encs l13)) :: (.own Sl.nil 49 2 (encs ([] : List Pair))) :: (.blk b1 (enc a0) 89) :: L) (fun _ => (fun (i11, k11, s12, l13) => rangeF (poset_order_pairs_all_1_B2 a0 i5) k11 i11 l13 = some ol11 ∧ i11 + k11 = nn16)) (fun (i11, k11, s12, l13) => k11) (0, nn16, s6, l7) ⟨rfl, rfl, rfl, rfl, rfl, rfl, rfl, rfl, rfl, trivial⟩ rfl ⟨H, by omega⟩ ?_
  rintro F14 ⟨i11, k11, s12, l13⟩ hF15 ⟨H, hik11⟩
  refine Cd.as (e' := [(1, .int .i64 a1), (2, .func (.func 76) #[] #[]), (3, .pointer (some ⟨b1, 0, none⟩)), (7, Sl.v s12), (8, .int .i64 (i5 : Int)), (10, .int .i64 a1), (11, .int .i64 (i5 : Int)), (14, .int .i64 a1), (15, .int .i64 (i11 : Int))]) (L' := (.own s12 49 2 (encs l13)) :: (.own Sl.nil 49 2 (encs ([] : List Pair))) :: (.blk b1 (enc a0) 89) :: L) ⟨rfl, rfl, rfl, rfl, rfl, rfl, rfl, rfl, rfl, trivial⟩ rfl ?_
  rcases k11 with _ | k11
  · have hc11 : decide ((i11 : Int) < a1) = false := decide_eq_false (by omega)
    replace H := rangeF_end H
    refine Cd.seq ?_
    refine Cd.region ?_
    refine Lst.run rfl rfl (by decide) (Ev.lss rfl rfl) ?_
    refine Lst.nil ?_
    refine At.then ?_
    refine Cd.seq ?_
    refine Cd.condF rfl hc11 ?_
    refine Cd.exit ?_
    refine At.then_exit ?_
    refine At.then_exit ?_
    refine At.in_exit ?_
    subst H
    replace H := HKl11
    refine At.in_normal ?_
    refine At.then ?_
    refine Cd.region ?_
    refine Lst.run rfl rfl (by decide) (Ev.incr (by omega) rfl rfl) ?_
    refine Lst.run rfl rfl (by decide) (Ev.move rfl) ?_
    refine Lst.nil ?_
    exact At.meet (i5 + 1, k5, s12, l13) (FLe.trans hF9 hF15) ⟨rfl, rfl, rfl, rfl, rfl, rfl, trivial⟩ rfl ⟨⟨hgo5 _ (some_inj H).symm, by omega⟩, Nat.lt_succ_self _⟩
  have hc11 : decide ((i11 : Int) < a1) = true := decide_eq_true (by omega)
  obtain ⟨c11, H, hgo11⟩ := rangeF_go H
  unfold poset_order_pairs_all_1_B2 at H
  try dsimp only at H
  refine Cd.seq ?_
  refine Cd.region ?_
  refine Lst.run rfl rfl (by decide) (Ev.lss rfl rfl) ?_
  refine Lst.nil ?_
  refine At.then ?_
  refine Cd.seq ?_
  refine Cd.condT rfl hc11 ?_
  refine Cd.skip ?_
  refine At.then ?_
  refine Cd.seq ?_
  refine Cd.block ?_
  refine Cd.seq ?_
  refine Cd.region ?_
  refine Lst.run rfl rfl (by decide) (Ev.move rfl) ?_
  refine Lst.run rfl rfl (by decide) (Ev.assign rfl) ?_
  refine Lst.nil ?_
  refine At.then ?_
  refine Cd.seq ?_
  refine Cd.region ?_
  refine Lst.run rfl rfl (by decide) (Ev.move rfl) ?_
  refine Lst.run rfl rfl (by decide) (Ev.move rfl) ?_
  obtain ⟨x17, h18, H⟩ := bind_some H
  have g19 := vat_some h18
  refine Lst.run rfl rfl (by decide) (Ev.indexAddr (off' := 0 + (i5 : Int).toNat * 20) rfl rfl Try.runUnderlying89 Try.sizeOf87 g19.1 g19.2.1 rfl) ?_
  obtain ⟨x20, h21, H⟩ := bind_some H
  have g22 := vat_some h21
  refine Lst.run rfl rfl (by decide) (Ev.indexAddr (off' := 0 + (i5 : Int).toNat * 20 + (i11 : Int).toNat * 1) rfl rfl Try.runUnderlying87 Try.sizeOf4 g22.1 g22.2.1 rfl) ?_
  refine Lst.run rfl rfl (by decide) (Ev.load (i := 2) rfl rfl Try.isAgg4 (v := .bool x20) ((Get.vecN (s := 20) (x := x17) rfl g19.2.2 (Get.vecN (s := 1) (x := x20) rfl g22.2.2 (Get.here _))).off (by omega))) ?_
  refine Lst.run rfl rfl (by decide) (Ev.move rfl) ?_
  obtain ⟨o23, H, HKo23⟩ := bind_some H
  refine Lst.join (σ := Bool) 5 (fun y24 => [(1, .int .i64 a1), (2, .func (.func 76) #[] #[]), (3, .pointer (some ⟨b1, 0, none⟩)), (7, Sl.v s12), (8, .int .i64 (i5 : Int)), (9, .int .i64 (i11 : Int)), (10, .int .i64 a1), (11, .int .i64 (i5 : Int)), (14, .int .i64 a1), (15, .int .i64 (i11 : Int)), (28, .bool y24)]) (fun y24 => (.own s12 49 2 (encs l13)) :: (.own Sl.nil 49 2 (encs ([] : List Pair))) :: (.blk b1 (enc a0) 89) :: L) (fun _ y24 => y24 = o23) ?_ ?_
  · rcases (Bool.eq_false_or_eq_true x20).symm with hb25 | hb25
    · replace H := ite_f hb25 H
      refine Lst.skip rfl rfl rfl hb25 rfl (by decide) ?_
      refine Lst.skip rfl rfl rfl hb25 rfl (by decide) ?_
      refine Lst.skip rfl rfl rfl hb25 rfl (by decide) ?_
      refine Lst.skip rfl rfl rfl hb25 rfl (by decide) ?_
      refine Lst.run rfl rfl (by decide) (Ev.pickF rfl hb25 rfl) ?_
      refine Lst.nil ?_
      exact At.meet false (FLe.refl _) ⟨rfl, rfl, rfl, rfl, rfl, rfl, rfl, rfl, rfl, rfl, rfl, trivial⟩ rfl (some_inj H)
    replace H := ite_t hb25 H
    refine Lst.runG rfl rfl rfl hb25 rfl (by decide) (Ev.move rfl) ?_
    refine Lst.runG rfl rfl rfl hb25 rfl (by decide) (Ev.move rfl) ?_
    refine Lst.runG rfl rfl rfl hb25 rfl (by decide) (Ev.move rfl) ?_
    obtain ⟨r26, h27, H⟩ := bind_some H
    refine Lst.callV1G rfl rfl rfl hb25 rfl (by decide) (vs := [.int .i64 (i5 : Int), .int .i64 (i11 : Int)]) (cs := []) rfl ⟨rfl, rfl, trivial⟩ Try.call76 (poset_order_all_1_sim h27 w0 _ M _ (List.Sublist.cons _ (List.Sublist.cons _ (List.Sublist.cons _ hM)))) ?_
    refine Lst.run rfl rfl (by decide) (Ev.pickT rfl hb25 rfl) ?_
    refine Lst.nil ?_
    exact At.meet r26 (FLe.refl _) ⟨rfl, rfl, rfl, rfl, rfl, rfl, rfl, rfl, rfl, rfl, rfl, trivial⟩ rfl (some_inj H)
  rintro F30 y24 hF31 hy
  subst hy
  refine Lst.as (e' := [(1, .int .i64 a1), (2, .func (.func 76) #[] #[]), (3, .pointer (some ⟨b1, 0, none⟩)), (7, Sl.v s12), (8, .int .i64 (i5 : Int)), (9, .int .i64 (i11 : Int)), (10, .int .i64 a1), (11, .int .i64 (i5 : Int)), (14, .int .i64 a1), (15, .int .i64 (i11 : Int)), (28, .bool y24)]) (L' := (.own s12 49 2 (encs l13)) :: (.own Sl.nil 49 2 (encs ([] : List Pair))) :: (.blk b1 (enc a0) 89) :: L) ⟨rfl, rfl, rfl, rfl, rfl, rfl, rfl, rfl, rfl, rfl, rfl, trivial⟩ rfl ?_
  replace H := HKo23
  refine Lst.nil ?_
  refine At.then ?_
  rcases (Bool.eq_false_or_eq_true y24).symm with hb32 | hb32
  · replace H := ite_f hb32 H
    refine Cd.condF rfl hb32 ?_
    refine Cd.skip ?_
    refine At.in_normal ?_
    refine At.then ?_
    refine Cd.region ?_
    refine Lst.run rfl rfl (by decide) (Ev.incr (by omega) rfl rfl) ?_
    refine Lst.run rfl rfl (by decide) (Ev.move rfl) ?_
    refine Lst.nil ?_
    exact At.meet (i11 + 1, k11, s12, l13) (FLe.trans hF15 hF31) ⟨rfl, rfl, rfl, rfl, rfl, rfl, rfl, rfl, rfl, trivial⟩ rfl ⟨⟨hgo11 _ (some_inj H).symm, by omega⟩, Nat.lt_succ_self _⟩
  replace H := ite_t hb32 H
  refine Cd.condT rfl hb32 ?_
  refine Cd.region ?_
  refine Lst.run rfl rfl (by decide) (Ev.move rfl) ?_
  refine Lst.run rfl rfl (by decide) (Ev.move rfl) ?_
  refine Lst.run rfl rfl (by decide) (Ev.move rfl) ?_
  refine Lst.run rfl rfl (by decide) (Ev.build (v := .agg (enc ({ Pair.zero with A := (i5 : Int), B := (i11 : Int) } : Pair)).toArray) (pv := [(0, .int .i64 (i5 : Int)), (1, .int .i64 (i11 : Int))]) ⟨rfl, rfl, ⟨rfl, rfl, trivial⟩⟩ (fun w => by kernel_rfl)) ?_
  refine Lst.buildSlice (α := Pair) (xs := ([({ Pair.zero with A := (i5 : Int), B := (i11 : Int) } : Pair)] : List Pair)) (pv := [(0, .agg (enc ({ Pair.zero with A := (i5 : Int), B := (i11 : Int) } : Pair)).toArray)]) rfl rfl (by decide) ⟨rfl, rfl, trivial⟩ (run_buildSlice (α := Pair) (z0 := Pair.zero) (xs := ([({ Pair.zero with A := (i5 : Int), B := (i11 : Int) } : Pair)] : List Pair)) Try.runUnderlying22 Try.sizeOf49 Try.zeroValue49 rfl rfl rfl (by decide) rfl (fill_cons (cs := encs (List.replicate 1 Pair.zero)) (cs' := encs ((List.replicate 1 Pair.zero).set 0 ({ Pair.zero with A := (i5 : Int), B := (i11 : Int) } : Pair))) (vs := enc ({ Pair.zero with A := (i5 : Int), B := (i11 : Int) } : Pair)) rfl rfl (Enc.len _) ((Put.elemN (s := 2) (i := 0) (x := Pair.zero) (y := ({ Pair.zero with A := (i5 : Int), B := (i11 : Int) } : Pair)) rfl rfl (Put.here ((Enc.len _).trans (Enc.len _).symm))).off rfl) fill_nil)) rfl rfl (by decide) (fun s33 _ => ?_)
  obtain ⟨u35, h36, H⟩ := bind_some H
  refine Lst.append (i := 1) (α := Pair) (xs := l13) (ys := ([({ Pair.zero with A := (i5 : Int), B := (i11 : Int) } : Pair)] : List Pair)) rfl rfl (by decide) rfl rfl Try.runUnderlying22 Try.typeInfo49 rfl rfl rfl rfl rfl rfl (Rd.own (i := 0) rfl rfl rfl) rfl (room_some h36) rfl (fun s37 => ?_)
  refine Lst.its (L' := (.own s33 49 2 (encs ([({ Pair.zero with A := (i5 : Int), B := (i11 : Int) } : Pair)] : List Pair))) :: (.own s37 49 2 (encs (l13 ++ ([({ Pair.zero with A := (i5 : Int), B := (i11 : Int) } : Pair)] : List Pair)))) :: (.own Sl.nil 49 2 (encs ([] : List Pair))) :: (.blk b1 (enc a0) 89) :: L) rfl ?_
  refine Lst.run rfl rfl (by decide) (Ev.assign rfl) ?_
  refine Lst.nil ?_
  refine At.in_normal ?_
  refine At.then ?_
  refine Cd.region ?_
  refine Lst.run rfl rfl (by decide) (Ev.incr (by omega) rfl rfl) ?_
  refine Lst.run rfl rfl (by decide) (Ev.move rfl) ?_
  refine Lst.nil ?_
  refine At.less (L' := (.own s37 49 2 (encs (l13 ++ ([({ Pair.zero with A := (i5 : Int), B := (i11 : Int) } : Pair)] : List Pair)))) :: (.own Sl.nil 49 2 (encs ([] : List Pair))) :: (.blk b1 (enc a0) 89) :: L) (List.Sublist.cons _ (List.Sublist.cons_cons _ (List.Sublist.cons_cons _ (List.Sublist.cons_cons _ (List.Sublist.refl _))))) ?_
  exact At.meet (i11 + 1, k11, s37, l13 ++ ([({ Pair.zero with A := (i5 : Int), B := (i11 : Int) } : Pair)] : List Pair)) (FLe.trans hF15 hF31) ⟨rfl, rfl, rfl, rfl, rfl, rfl, rfl, rfl, rfl, trivial⟩ rfl ⟨⟨hgo11 _ (some_inj H).symm, by omega⟩, Nat.lt_succ_self _⟩
set_option maxRecDepth 20000 in
theorem poset_order_all_sim {a0 : Vector (Vector Bool 20) 20} {a1 : Int} {r : (List Pair)} (H : poset_order_all a0 a1 = some r) (w0 : World) (F : Frz) (M L : List Item) (hM : M.Sublist L) : Ok Try.prog w0 54 [.agg (enc a0).toArray, .int .i64 a1] F (L) (fun _ L' v => ∃ (s1 : Sl), v = Sl.v s1 ∧ L' = (.own s1 49 2 (encs r)) :: L) := by
  unfold poset_order_all at H
  refine Ok.enter (m := 2) (n := 8) Try.func54 rfl rfl rfl (by decide) ?_
  refine Cd.env (e' := [(0, .agg (enc a0).toArray), (1, .int .i64 a1)]) rfl ?_
  refine Cd.seq ?_
  refine Cd.region ?_
  refine Lst.box rfl rfl (by decide) rfl (cs := enc a0) rfl (fun b1 => ?_)
  refine Lst.addNil 49 2 ?_
  refine Lst.run rfl rfl (by decide) (Ev.assign rfl) ?_
  refine Lst.nil ?_
  refine At.then ?_
  refine Cd.seq ?_
  refine Cd.region ?_
  refine Lst.run rfl rfl (by decide) (Ev.loadA (i := 1) rfl rfl Try.isAgg89 Try.sizeOf89 (ch := enc a0) (Enc.len _) (Get.here _)) ?_
  refine Lst.run rfl rfl (by decide) (Ev.move rfl) ?_
  obtain ⟨r4, h5, H⟩ := bind_some H
  refine Lst.call rfl rfl (by decide) (vs := [.agg (enc a0).toArray, .int .i64 a1, .func (.func 76) #[] #[]]) ⟨rfl, rfl, rfl, trivial⟩ Try.call55 (poset_order_pairs_all_1_sim h5 w0 _ M _ (List.Sublist.cons _ (List.Sublist.cons _ hM))) (fun F8 L' v hF9 hv => ?_)
  obtain ⟨s6, rfl, rfl⟩ := hv
  refine Lst.run rfl rfl (by decide) (Ev.assign rfl) ?_
  refine Lst.nil ?_
  refine At.then ?_
  obtain rfl := some_inj H
  refine Cd.ret ?_
  exact At.ret1 rfl (Res.tmp rfl) hF9 (List.Sublist.cons_cons _ (List.Sublist.cons _ (List.Sublist.cons _ (List.Sublist.refl _)))) ⟨s6, rfl, rfl⟩
set_option maxRecDepth 20000 in
theorem poset_Close_sim {a0 : Poset} {s_a0_1 : Sl} {r : (List Pair) × Int} (H : poset_Close a0 = some r) (w0 : World) (F : Frz) (M L : List Item) (hM : M.Sublist L) (hs_a0_1 : Rd w0 F M s_a0_1 a0.Pairs) : Ok Try.prog w0 24 [.agg (enc (PosetR.mk a0 s_a0_1)).toArray] F (L) (fun _ L' v => ∃ (s1 : Sl), v = .tuple #[Sl.v s1, .int .i64 r.2] ∧ L' = (.own s1 49 2 (encs r.1)) :: L) := by
  unfold poset_Close at H
  refine Ok.enter (m := 1) (n := 18) Try.func24 rfl rfl rfl (by decide) ?_
  refine Cd.env (e' := [(0, .agg (enc (PosetR.mk a0 s_a0_1)).toArray)]) rfl ?_
  refine Cd.seq ?_
  refine Cd.region ?_
  refine Lst.box rfl rfl (by decide) rfl (cs := enc (PosetR.mk a0 s_a0_1)) rfl (fun b1 => ?_)
  refine Lst.addNil 49 2 ?_
  refine Lst.run rfl rfl (by decide) (Ev.assign rfl) ?_
  refine Lst.run rfl rfl (by decide) (Ev.assign rfl) ?_
  refine Lst.nil ?_
  refine At.then ?_
  refine Cd.seq ?_
  refine Cd.region ?_
  refine Lst.run rfl rfl (by decide) (Ev.loadA (i := 1) rfl rfl Try.isAgg24 Try.sizeOf24 (ch := enc (PosetR.mk a0 s_a0_1)) (Enc.len _) (Get.here _)) ?_
  obtain ⟨r4, h5, H⟩ := bind_some H
  refine Lst.call1 rfl rfl (by decide) (vs := [.agg (enc (PosetR.mk a0 s_a0_1)).toArray]) ⟨rfl, trivial⟩ Try.call53 (poset_check_sim h5 w0 _ M _ (List.Sublist.cons _ (List.Sublist.cons _ hM)) (hs_a0_1.mono (FLe.refl _) (List.Sublist.refl _))) ?_
  refine Lst.run rfl rfl (by decide) (Ev.move rfl) ?_
  refine Lst.run rfl rfl (by decide) (Ev.extract rfl rfl) ?_
  refine Lst.run rfl rfl (by decide) (Ev.extract rfl rfl) ?_
  refine Lst.alloc (z := .agg (enc (Vector.replicate 20 (Vector.replicate 20 false))).toArray) (cs := enc (Vector.replicate 20 (Vector.replicate 20 false))) rfl rfl (by decide) (fun _ => by kernel_rfl) rfl (fun b8 => ?_)
  refine Lst.store (i := 0) rfl rfl rfl rfl rfl Try.sizeOf89 (vs := enc r4.1) rfl (Enc.len _) (Enc.one _) (cs' := enc r4.1) (Put.here ((Enc.len _).trans (Enc.len _).symm)) (L' := (.blk b8 (enc r4.1) 89) :: (.own Sl.nil 49 2 (encs ([] : List Pair))) :: (.blk b1 (enc (PosetR.mk a0 s_a0_1)) 24) :: L) rfl ?_
  refine Lst.run rfl rfl (by decide) (Ev.assign rfl) ?_
  refine Lst.nil ?_
  refine At.then ?_
  refine Cd.seq ?_
  refine Cd.seq ?_
  refine Cd.region ?_
  refine Lst.run rfl rfl (by decide) (Ev.move rfl) ?_
  refine Lst.run rfl rfl (by decide) (Ev.neq rfl rfl) ?_
  refine Lst.nil ?_
  refine At.then ?_
  rcases Bool.eq_false_or_eq_true (r4.2 != (0 : Int)) with hb10 | hb10
  · replace H := ite_t hb10 H
    refine Cd.condT rfl hb10 ?_
    refine Cd.seq ?_
    refine Cd.region ?_
    refine Lst.run rfl rfl (by decide) (Ev.move rfl) ?_
    refine Lst.addNil 49 2 ?_
    refine Lst.run rfl rfl (by decide) (Ev.assign rfl) ?_
    refine Lst.run rfl rfl (by decide) (Ev.assign rfl) ?_
    refine Lst.nil ?_
    refine At.then ?_
    obtain rfl := some_inj H
    refine Cd.ret ?_
    refine At.then_ret ?_
    exact At.ret2 rfl (Res.tmp rfl) (Res.tmp rfl) (FLe.refl _) (List.Sublist.cons_cons _ (List.Sublist.cons _ (List.Sublist.cons _ (List.Sublist.cons _ (List.Sublist.refl _))))) ⟨Sl.nil, rfl, rfl⟩
  replace H := ite_f hb10 H
  refine Cd.condF rfl hb10 ?_
  refine Cd.skip ?_
  refine At.then ?_
  refine Cd.seq ?_
  refine Cd.region ?_
  refine Lst.run rfl rfl (by decide) (Ev.loadA (i := 0) rfl rfl Try.isAgg89 Try.sizeOf89 (ch := enc r4.1) (Enc.len _) (Get.here _)) ?_
  refine Lst.run rfl rfl (by decide) (Ev.fieldAddr (off' := 0) rfl Try.runUnderlying24 rfl Try.sizeOf3 rfl rfl) ?_
  refine Lst.run rfl rfl (by decide) (Ev.load (i := 2) rfl rfl Try.isAgg3 (v := .int .i64 a0.N) ((PosetR.get_N (Get.here _)).off (by rfl))) ?_
  obtain ⟨r12, h13, H⟩ := bind_some H
  refine Lst.call rfl rfl (by decide) (vs := [.agg (enc r4.1).toArray, .int .i64 a0.N]) ⟨rfl, rfl, trivial⟩ Try.call54 (poset_order_all_sim h13 w0 _ M _ (List.Sublist.cons _ (List.Sublist.cons _ (List.Sublist.cons _ hM)))) (fun F16 L' v hF17 hv => ?_)
  obtain ⟨s14, rfl, rfl⟩ := hv
  refine Lst.run rfl rfl (by decide) (Ev.assign rfl) ?_
  refine Lst.run rfl rfl (by decide) (Ev.assign rfl) ?_
  refine Lst.nil ?_
  refine At.then ?_
  obtain rfl := some_inj H
  refine Cd.ret ?_
  exact At.ret2 rfl (Res.tmp rfl) (Res.tmp rfl) hF17 (List.Sublist.cons_cons _ (List.Sublist.cons _ (List.Sublist.cons _ (List.Sublist.cons _ (List.Sublist.refl _))))) ⟨s14, rfl, rfl⟩
set_option maxRecDepth 20000 in
theorem poset_Cover_1_sim {a0 : Int} {a1 : Int} {a2 : Poset} {a3 : Vector (Vector Bool 20) 20} {b_a2 : Nat} {s_a2_1 : Sl} {b_a3 : Nat} {r : Bool} (H : poset_Cover_1 a0 a1 a2 a3 = some r) (w0 : World) (F : Frz) (M L : List Item) (hM : M.Sublist L) (hs_a2_1 : Rd w0 F M s_a2_1 a2.Pairs) : Ok Try.prog w0 56 [.int .i64 a0, .int .i64 a1, .pointer (some ⟨b_a2, 0, none⟩), .pointer (some ⟨b_a3, 0, none⟩)] F ((.blk b_a2 (enc (PosetR.mk a2 s_a2_1)) 24) :: (.blk b_a3 (enc a3) 89) :: L) (Is (.bool r) ((.blk b_a2 (enc (PosetR.mk a2 s_a2_1)) 24) :: (.blk b_a3 (enc a3) 89) :: L)) := by
  unfold poset_Cover_1 at H
  refine Ok.enter (m := 4) (n := 26) Try.func56 rfl rfl rfl (by decide) ?_
  refine Cd.env (e' := [(0, .int .i64 a0), (1, .int .i64 a1), (2, .pointer (some ⟨b_a2, 0, none⟩)), (3, .pointer (some ⟨b_a3, 0, none⟩))]) rfl ?_
  refine Cd.seq ?_
  refine Cd.region ?_
  refine Lst.run rfl rfl (by decide) (Ev.assign rfl) ?_
  refine Lst.nil ?_
  refine At.then ?_
  refine Cd.seq ?_
  refine Cd.seq ?_
  refine Cd.region ?_
  refine Lst.run rfl rfl (by decide) (Ev.fieldAddr (off' := 0) rfl Try.runUnderlying24 rfl Try.sizeOf3 rfl rfl) ?_
  refine Lst.run rfl rfl (by decide) (Ev.load (i := 0) rfl rfl Try.isAgg3 (v := .int .i64 a2.N) ((PosetR.get_N (Get.here _)).off (by rfl))) ?_
  refine Lst.run rfl rfl (by decide) (Ev.move rfl) ?_
  refine Lst.nil ?_
  refine At.then ?_
  refine Cd.block ?_
  obtain ⟨nn6, hN25, H⟩ := bind_some H
  replace hN25 := upTo_some hN25
  obtain ⟨ol3, H, HKl3⟩ := andThen_some H
  refine Cd.loop (σ := Nat × Nat × Unit) (fun (i3, k3, _u) => [(0, .int .i64 a0), (1, .int .i64 a1), (3, .pointer (some ⟨b_a3, 0, none⟩)), (9, .int .i64 a2.N), (10, .int .i64 (i3 : Int))]) (fun (i3, k3, _u) => (.blk b_a2 (enc (PosetR.mk a2 s_a2_1)) 24) :: (.blk b_a3 (enc a3) 89) :: L) (fun _ => (fun (i3, k3, _u) => rangeM (poset_Cover_1_B0 a0 a1 a3) k3 i3 () = some ol3 ∧ i3 + k3 = nn6)) (fun (i3, k3, _u) => k3) (0, nn6, ()) ⟨rfl, rfl, rfl, rfl, rfl, trivial⟩ rfl ⟨H, by omega⟩ ?_
  rintro F4 ⟨i3, k3, _u⟩ hF5 ⟨H, hik3⟩
  refine Cd.as (e' := [(0, .int .i64 a0), (1, .int .i64 a1), (3, .pointer (some ⟨b_a3, 0, none⟩)), (9, .int .i64 a2.N), (10, .int .i64 (i3 : Int))]) (L' := (.blk b_a2 (enc (PosetR.mk a2 s_a2_1)) 24) :: (.blk b_a3 (enc a3) 89) :: L) ⟨rfl, rfl, rfl, rfl, rfl, trivial⟩ rfl ?_
  rcases k3 with _ | k3
  · have hc3 : decide ((i3 : Int) < a2.N) = false := decide_eq_false (by omega)
    replace H := rangeM_end H
    refine Cd.seq ?_
    refine Cd.region ?_
    refine Lst.run rfl rfl (by decide) (Ev.lss rfl rfl) ?_
    refine Lst.nil ?_
    refine At.then ?_
    refine Cd.seq ?_
    refine Cd.condF rfl hc3 ?_
    refine Cd.exit ?_
    refine At.then_exit ?_
    refine At.then_exit ?_
    refine At.in_exit ?_
    subst H
    replace H := HKl3
    refine At.then ?_
    refine Cd.seq ?_
    refine Cd.region ?_
    refine Lst.run rfl rfl (by decide) (Ev.assign rfl) ?_
    refine Lst.nil ?_
    refine At.then ?_
    obtain rfl := some_inj H
    refine Cd.ret ?_
    exact At.ret1 rfl (Res.tmp rfl) hF5 (List.Sublist.cons_cons _ (List.Sublist.cons_cons _ (List.Sublist.refl _))) ⟨rfl, rfl⟩
  have hc3 : decide ((i3 : Int) < a2.N) = true := decide_eq_true (by omega)
  obtain ⟨c3, H, hgo3, hbrk3, hret3⟩ := rangeM_go H
  unfold poset_Cover_1_B0 at H
  try dsimp only at H
  refine Cd.seq ?_
  refine Cd.region ?_
  refine Lst.run rfl rfl (by decide) (Ev.lss rfl rfl) ?_
  refine Lst.nil ?_
  refine At.then ?_
  refine Cd.seq ?_
  refine Cd.condT rfl hc3 ?_
  refine Cd.skip ?_
  refine At.then ?_
  refine Cd.seq ?_
  refine Cd.block ?_
  refine Cd.seq ?_
  refine Cd.region ?_
  refine Lst.run rfl rfl (by decide) (Ev.move rfl) ?_
  refine Lst.run rfl rfl (by decide) (Ev.assign rfl) ?_
  refine Lst.nil ?_
  refine At.then ?_
  refine Cd.seq ?_
  refine Cd.region ?_
  refine Lst.run rfl rfl (by decide) (Ev.move rfl) ?_
  refine Lst.run rfl rfl (by decide) (Ev.move rfl) ?_
  obtain ⟨x7, h8, H⟩ := bind_some H
  have g9 := vat_some h8
  refine Lst.run rfl rfl (by decide) (Ev.indexAddr (off' := 0 + a0.toNat * 20) rfl rfl Try.runUnderlying89 Try.sizeOf87 g9.1 g9.2.1 rfl) ?_
  obtain ⟨x10, h11, H⟩ := bind_some H
  have g12 := vat_some h11
  refine Lst.run rfl rfl (by decide) (Ev.indexAddr (off' := 0 + a0.toNat * 20 + (i3 : Int).toNat * 1) rfl rfl Try.runUnderlying87 Try.sizeOf4 g12.1 g12.2.1 rfl) ?_
  refine Lst.run rfl rfl (by decide) (Ev.load (i := 1) rfl rfl Try.isAgg4 (v := .bool x10) ((Get.vecN (s := 20) (x := x7) rfl g9.2.2 (Get.vecN (s := 1) (x := x10) rfl g12.2.2 (Get.here _))).off (by omega))) ?_
  refine Lst.run rfl rfl (by decide) (Ev.move rfl) ?_
  obtain ⟨o13, H, HKo13⟩ := bind_some H
  refine Lst.join (σ := Bool) 6 (fun y14 => [(0, .int .i64 a0), (1, .int .i64 a1), (3, .pointer (some ⟨b_a3, 0, none⟩)), (9, .int .i64 a2.N), (10, .int .i64 (i3 : Int)), (24, .bool y14)]) (fun y14 => (.blk b_a2 (enc (PosetR.mk a2 s_a2_1)) 24) :: (.blk b_a3 (enc a3) 89) :: L) (fun _ y14 => y14 = o13) ?_ ?_
  · rcases (Bool.eq_false_or_eq_true x10).symm with hb15 | hb15
    · replace H := ite_f hb15 H
      refine Lst.skip rfl rfl rfl hb15 rfl (by decide) ?_
      refine Lst.skip rfl rfl rfl hb15 rfl (by decide) ?_
      refine Lst.skip rfl rfl rfl hb15 rfl (by decide) ?_
      refine Lst.skip rfl rfl rfl hb15 rfl (by decide) ?_
      refine Lst.skip rfl rfl rfl hb15 rfl (by decide) ?_
      refine Lst.run rfl rfl (by decide) (Ev.pickF rfl hb15 rfl) ?_
      refine Lst.nil ?_
      exact At.meet false (FLe.refl _) ⟨rfl, rfl, rfl, rfl, rfl, rfl, trivial⟩ rfl (some_inj H)
    replace H := ite_t hb15 H
    refine Lst.runG rfl rfl rfl hb15 rfl (by decide) (Ev.move rfl) ?_
    refine Lst.runG rfl rfl rfl hb15 rfl (by decide) (Ev.move rfl) ?_
    obtain ⟨x16, h17, H⟩ := bind_some H
    have g18 := vat_some h17
    refine Lst.runG rfl rfl rfl hb15 rfl (by decide) (Ev.indexAddr (off' := 0 + (i3 : Int).toNat * 20) rfl rfl Try.runUnderlying89 Try.sizeOf87 g18.1 g18.2.1 rfl) ?_
    obtain ⟨x19, h20, H⟩ := bind_some H
    have g21 := vat_some h20
    refine Lst.runG rfl rfl rfl hb15 rfl (by decide) (Ev.indexAddr (off' := 0 + (i3 : Int).toNat * 20 + a1.toNat * 1) rfl rfl Try.runUnderlying87 Try.sizeOf4 g21.1 g21.2.1 rfl) ?_
    refine Lst.runG rfl rfl rfl hb15 rfl (by decide) (Ev.load (i := 1) rfl rfl Try.isAgg4 (v := .bool x19) ((Get.vecN (s := 20) (x := x16) rfl g18.2.2 (Get.vecN (s := 1) (x := x19) rfl g21.2.2 (Get.here _))).off (by omega))) ?_
    refine Lst.run rfl rfl (by decide) (Ev.pickT rfl hb15 rfl) ?_
    refine Lst.nil ?_
    exact At.meet x19 (FLe.refl _) ⟨rfl, rfl, rfl, rfl, rfl, rfl, trivial⟩ rfl (some_inj H)
  rintro F22 y14 hF23 hy
  subst hy
  refine Lst.as (e' := [(0, .int .i64 a0), (1, .int .i64 a1), (3, .pointer (some ⟨b_a3, 0, none⟩)), (9, .int .i64 a2.N), (10, .int .i64 (i3 : Int)), (24, .bool y14)]) (L' := (.blk b_a2 (enc (PosetR.mk a2 s_a2_1)) 24) :: (.blk b_a3 (enc a3) 89) :: L) ⟨rfl, rfl, rfl, rfl, rfl, rfl, trivial⟩ rfl ?_
  replace H := HKo13
  refine Lst.nil ?_
  refine At.then ?_
  rcases Bool.eq_false_or_eq_true y14 with hb24 | hb24
  · replace H := ite_t hb24 H
    refine Cd.condT rfl hb24 ?_
    refine Cd.seq ?_
    refine Cd.region ?_
    refine Lst.run rfl rfl (by decide) (Ev.assign rfl) ?_
    refine Lst.nil ?_
    refine At.then ?_
    have H := hret3 _ (some_inj H).symm
    subst H
    replace H := HKl3
    obtain rfl := some_inj H
    refine Cd.ret ?_
    refine At.in_ret ?_
    refine At.then_ret ?_
    refine At.then_ret ?_
    refine At.in_ret ?_
    refine At.then_ret ?_
    exact At.ret1 rfl (Res.tmp rfl) (FLe.trans hF5 hF23) (List.Sublist.cons_cons _ (List.Sublist.cons_cons _ (List.Sublist.refl _))) ⟨rfl, rfl⟩
  replace H := ite_f hb24 H
  refine Cd.condF rfl hb24 ?_
  refine Cd.skip ?_
  refine At.in_normal ?_
  refine At.then ?_
  refine Cd.region ?_
  refine Lst.run rfl rfl (by decide) (Ev.incr (by omega) rfl rfl) ?_
  refine Lst.run rfl rfl (by decide) (Ev.move rfl) ?_
  refine Lst.nil ?_
  exact At.meet (i3 + 1, k3, ()) (FLe.trans hF5 hF23) ⟨rfl, rfl, rfl, rfl, rfl, trivial⟩ rfl ⟨⟨hgo3 _ (some_inj H).symm, by omega⟩, Nat.lt_succ_self _⟩
set_option maxRecDepth 20000 in
theorem poset_order_pairs_Cover_1_sim {a0 : Vector (Vector Bool 20) 20} {a1 : Int} {a2_c0 : Poset} {a2_c1 : Vector (Vector Bool 20) 20} {b_a2_c0 : Nat} {s_a2_c0_1 : Sl} {b_a2_c1 : Nat} {r : (List Pair)} (H : poset_order_pairs_Cover_1 a0 a1 a2_c0 a2_c1 = some r) (w0 : World) (F : Frz) (M L : List Item) (hM : M.Sublist L) (hs_a2_c0_1 : Rd w0 F M s_a2_c0_1 a2_c0.Pairs) : Ok Try.prog w0 55 [.agg (enc a0).toArray, .int .i64 a1, .func (.func 56) #[] #[.pointer (some ⟨b_a2_c0, 0, none⟩), .pointer (some ⟨b_a2_c1, 0, none⟩)]] F ((.blk b_a2_c0 (enc (PosetR.mk a2_c0 s_a2_c0_1)) 24) :: (.blk b_a2_c1 (enc a2_c1) 89) :: L) (fun _ L' v => ∃ (s3 : Sl), v = Sl.v s3 ∧ L' = (.own s3 49 2 (encs r)) :: (.blk b_a2_c0 (enc (PosetR.mk a2_c0 s_a2_c0_1)) 24) :: (.blk b_a2_c1 (enc a2_c1) 89) :: L) := by
  unfold poset_order_pairs_Cover_1 at H
  refine Ok.enter (m := 3) (n := 38) Try.func55 rfl rfl rfl (by decide) ?_
  refine Cd.env (e' := [(0, .agg (enc a0).toArray), (1, .int .i64 a1), (2, .func (.func 56) #[] #[.pointer (some ⟨b_a2_c0, 0, none⟩), .pointer (some ⟨b_a2_c1, 0, none⟩)])]) rfl ?_
  refine Cd.seq ?_
  refine Cd.region ?_
  refine Lst.box rfl rfl (by decide) rfl (cs := enc a0) rfl (fun b3 => ?_)
  refine Lst.addNil 49 2 ?_
  refine Lst.run rfl rfl (by decide) (Ev.assign rfl) ?_
  refine Lst.nil ?_
  refine At.then ?_
  refine Cd.seq ?_
  refine Cd.region ?_
  refine Lst.addNil 49 2 ?_
  refine Lst.run rfl rfl (by decide) (Ev.assign rfl) ?_
  refine Lst.nil ?_
  refine At.then ?_
  refine Cd.seq ?_
  refine Cd.seq ?_
  refine Cd.region ?_
  refine Lst.run rfl rfl (by decide) (Ev.move rfl) ?_
  refine Lst.run rfl rfl (by decide) (Ev.move rfl) ?_
  refine Lst.nil ?_
  refine At.then ?_
  refine Cd.block ?_
  obtain ⟨nn12, hN37, H⟩ := bind_some H
  replace hN37 := upTo_some hN37
  obtain ⟨ol7, H, HKl7⟩ := bind_some H
  refine Cd.loop (σ := Nat × Nat × Sl × (List Pair)) (fun (i7, k7, s8, l9) => [(1, .int .i64 a1), (2, .func (.func 56) #[] #[.pointer (some ⟨b_a2_c0, 0, none⟩), .pointer (some ⟨b_a2_c1, 0, none⟩)]), (3, .pointer (some ⟨b3, 0, none⟩)), (7, Sl.v s8), (10, .int .i64 a1), (11, .int .i64 (i7 : Int))]) (fun (i7, k7, s8, l9) => (.own s8 49 2 (encs l9)) :: (.own Sl.nil 49 2 (encs ([] : List Pair))) :: (.blk b3 (enc a0) 89) :: (.blk b_a2_c0 (enc (PosetR.mk a2_c0 s_a2_c0_1)) 24) :: (.blk b_a2_c1 (enc a2_c1) 89) :: L) (fun _ => (fun (i7, k7, s8, l9) => rangeF (poset_order_pairs_Cover_1_B0 a0 a1 a2_c0 a2_c1) k7 i7 l9 = some ol7 ∧ i7 + k7 = nn12)) (fun (i7, k7, s8, l9) => k7) (0, nn12, Sl.nil, ([] : List Pair)) ⟨rfl, rfl, rfl, rfl, rfl, rfl, trivial⟩ rfl ⟨H, by omega⟩ ?_
  rintro F10 ⟨i7, k7, s8, l9⟩ hF11 ⟨H, hik7⟩
  refine Cd.as (e' := [(1, .int .i64 a1), (2, .func (.func 56) #[] #[.pointer (some ⟨b_a2_c0, 0, none⟩), .pointer (some ⟨b_a2_c1, 0, none⟩)]), (3, .pointer (some ⟨b3, 0, none⟩)), (7, Sl.v s8), (10, .int .i64 a1), (11, .int .i64 (i7 : Int))]) (L' := (.own s8 49 2 (encs l9)) :: (.own Sl.nil 49 2 (encs ([] : List Pair))) :: (.blk b3 (enc a0) 89) :: (.blk b_a2_c0 (enc (PosetR.mk a2_c0 s_a2_c0_1)) 24) :: (.blk b_a2_c1 (enc a2_c1) 89) :: L) ⟨rfl, rfl, rfl, rfl, rfl, rfl, trivial⟩ rfl ?_
  rcases k7 with _ | k7
  · have hc7 : decide ((i7 : Int) < a1) = false := decide_eq_false (by omega)
    replace H := rangeF_end H
    refine Cd.seq ?_
    refine Cd.region ?_
    refine Lst.run rfl rfl (by decide) (Ev.lss rfl rfl) ?_
    refine Lst.nil ?_
    refine At.then ?_
    refine Cd.seq ?_
    refine Cd.condF rfl hc7 ?_
    refine Cd.exit ?_
    refine At.then_exit ?_
    refine At.then_exit ?_
    refine At.in_exit ?_
    subst H
    replace H := HKl7
    refine At.then ?_
    refine Cd.seq ?_
    refine Cd.region ?_
    refine Lst.run rfl rfl (by decide) (Ev.move rfl) ?_
    refine Lst.run rfl rfl (by decide) (Ev.assign rfl) ?_
    refine Lst.nil ?_
    refine At.then ?_
    obtain rfl := some_inj H
    refine Cd.ret ?_
    exact At.ret1 rfl (Res.tmp rfl) hF11 (List.Sublist.cons_cons _ (List.Sublist.cons _ (List.Sublist.cons _ (List.Sublist.cons_cons _ (List.Sublist.cons_cons _ (List.Sublist.refl _)))))) ⟨s8, rfl, rfl⟩
  have hc7 : decide ((i7 : Int) < a1) = true := decide_eq_true (by omega)
  obtain ⟨c7, H, hgo7⟩ := rangeF_go H
  unfold poset_order_pairs_Cover_1_B0 at H
  try dsimp only at H
  refine Cd.seq ?_
  refine Cd.region ?_
  refine Lst.run rfl rfl (by decide) (Ev.lss rfl rfl) ?_
  refine Lst.nil ?_
  refine At.then ?_
  refine Cd.seq ?_
  refine Cd.condT rfl hc7 ?_
  refine Cd.skip ?_
  refine At.then ?_
  refine Cd.seq ?_
  refine Cd.block ?_
  refine Cd.seq ?_
  refine Cd.region ?_
  refine Lst.run rfl rfl (by decide) (Ev.move rfl) ?_
  refine Lst.run rfl rfl (by decide) (Ev.assign rfl) ?_
  refine Lst.nil ?_
  refine At.then ?_
  refine Cd.seq ?_
  refine Cd.region ?_
  refine Lst.run rfl rfl (by decide) (Ev.move rfl) ?_
  refine Lst.run rfl rfl (by decide) (Ev.move rfl) ?_
  refine Lst.nil ?_
  refine At.then ?_
  refine Cd.block ?_
  obtain ⟨nn18, hN36, H⟩ := bind_some H
  replace hN36 := upTo_some hN36
  obtain ⟨ol13, H, HKl13⟩ := bind_some H
  refine Cd.loop (σ := Nat × Nat × Sl × (List Pair)) (fun (i13, k13, s14, l15) => [(1, .int .i64 a1), (2, .func (.func 56) #[] #[.pointer (some ⟨b_a2_c0, 0, none⟩), .pointer (some ⟨b_a2_c1, 0, none⟩)]), (3, .pointer (some ⟨b3, 0, none⟩)), (7, Sl.v s14), (8, .int .i64 (i7 : Int)), (10, .int .i64 a1), (11, .int .i64 (i7 : Int)), (14, .int .i64 a1), (15, .int .i64 (i13 : Int))]) (fun (i13, k13, s14, l15) => (.own s14 49 2 (encs l15)) :: (.own Sl.nil 49 2 (encs ([] : List Pair))) :: (.blk b3 (enc a0) 89) :: (.blk b_a2_c0 (enc (PosetR.mk a2_c0 s_a2_c0_1)) 24) :: (.blk b_a2_c1 (enc a2_c1) 89) :: L) (fun _ => (fun (i13, k13, s14, l15) => rangeF (poset_order_pairs_Cover_1_B2 a0 a2_c0 a2_c1 i7) k13 i13 l15 = some ol13 ∧ i13 + k13 = nn18)) (fun (i13, k13, s14, l15) => k13) (0, nn18, s8, l9) ⟨rfl, rfl, rfl, rfl, rfl, rfl, rfl, rfl, rfl, trivial⟩ rfl ⟨H, by omega⟩ ?_
  rintro F16 ⟨i13, k13, s14, l15⟩ hF17 ⟨H, hik13⟩
  refine Cd.as (e' := [(1, .int .i64 a1), (2, .func (.func 56) #[] #[.pointer (some ⟨b_a2_c0, 0, none⟩), .pointer (some ⟨b_a2_c1, 0, none⟩)]), (3, .pointer (some ⟨b3, 0, none⟩)), (7, Sl.v s14), (8, .int .i64 (i7 : Int)), (10, .int .i64 a1), (11, .int .i64 (i7 : Int)), (14, .int .i64 a1), (15, .int .i64 (i13 : Int))]) (L' := (.own s14 49 2 (encs l15)) :: (.own Sl.nil 49 2 (encs ([] : List Pair))) :: (.blk b3 (enc a0) 89) :: (.blk b_a2_c0 (enc (PosetR.mk a2_c0 s_a2_c0_1)) 24) :: (.blk b_a2_c1 (enc a2_c1) 89) :: L) ⟨rfl, rfl, rfl, rfl, rfl, rfl, rfl, rfl, rfl, trivial⟩ rfl ?_
  rcases k13 with _ | k13
  · have hc13 : decide ((i13 : Int) < a1) = false := decide_eq_false (by omega)
    replace H := rangeF_end H
    refine Cd.seq ?_
    refine Cd.region ?_
    refine Lst.run rfl rfl (by decide) (Ev.lss rfl rfl) ?_
    refine Lst.nil ?_
    refine At.then ?_
    refine Cd.seq ?_
    refine Cd.condF rfl hc13 ?_
    refine Cd.exit ?_
    refine At.then_exit ?_
    refine At.then_exit ?_
    refine At.in_exit ?_
    subst H
    replace H := HKl13
    refine At.in_normal ?_
    refine At.then ?_
    refine Cd.region ?_
    refine Lst.run rfl rfl (by decide) (Ev.incr (by omega) rfl rfl) ?_
    refine Lst.run rfl rfl (by decide) (Ev.move rfl) ?_
    refine Lst.nil ?_
    exact At.meet (i7 + 1, k7, s14, l15) (FLe.trans hF11 hF17) ⟨rfl, rfl, rfl, rfl, rfl, rfl, trivial⟩ rfl ⟨⟨hgo7 _ (some_inj H).symm, by omega⟩, Nat.lt_succ_self _⟩
  have hc13 : decide ((i13 : Int) < a1) = true := decide_eq_true (by omega)
  obtain ⟨c13, H, hgo13⟩ := rangeF_go H
  unfold poset_order_pairs_Cover_1_B2 at H
  try dsimp only at H
  refine Cd.seq ?_
  refine Cd.region ?_
  refine Lst.run rfl rfl (by decide) (Ev.lss rfl rfl) ?_
  refine Lst.nil ?_
  refine At.then ?_
  refine Cd.seq ?_
  refine Cd.condT rfl hc13 ?_
  refine Cd.skip ?_
  refine At.then ?_
  refine Cd.seq ?_
  refine Cd.block ?_
  refine Cd.seq ?_
  refine Cd.region ?_
  refine Lst.run rfl rfl (by decide) (Ev.move rfl) ?_
  refine Lst.run rfl rfl (by decide) (Ev.assign rfl) ?_
  refine Lst.nil ?_
  refine At.then ?_
  refine Cd.seq ?_
  refine Cd.region ?_
  refine Lst.run rfl rfl (by decide) (Ev.move rfl) ?_
  refine Lst.run rfl rfl (by decide) (Ev.move rfl) ?_
  obtain ⟨x19, h20, H⟩ := bind_some H
  have g21 := vat_some h20
  refine Lst.run rfl rfl (by decide) (Ev.indexAddr (off' := 0 + (i7 : Int).toNat * 20) rfl rfl Try.runUnderlying89 Try.sizeOf87 g21.1 g21.2.1 rfl) ?_
  obtain ⟨x22, h23, H⟩ := bind_some H
  have g24 := vat_some h23
  refine Lst.run rfl rfl (by decide) (Ev.indexAddr (off' := 0 + (i7 : Int).toNat * 20 + (i13 : Int).toNat * 1) rfl rfl Try.runUnderlying87 Try.sizeOf4 g24.1 g24.2.1 rfl) ?_
  refine Lst.run rfl rfl (by decide) (Ev.load (i := 2) rfl rfl Try.isAgg4 (v := .bool x22) ((Get.vecN (s := 20) (x := x19) rfl g21.2.2 (Get.vecN (s := 1) (x := x22) rfl g24.2.2 (Get.here _))).off (by omega))) ?_
  refine Lst.run rfl rfl (by decide) (Ev.move rfl) ?_
  rcases (Bool.eq_false_or_eq_true x22).symm with hb25 | hb25
  · replace H := ite_f hb25 H
    refine Lst.skip rfl rfl rfl hb25 rfl (by decide) ?_
    refine Lst.skip rfl rfl rfl hb25 rfl (by decide) ?_
    refine Lst.skip rfl rfl rfl hb25 rfl (by decide) ?_
    refine Lst.skip rfl rfl rfl hb25 rfl (by decide) ?_
    refine Lst.run rfl rfl (by decide) (Ev.pickF rfl hb25 rfl) ?_
    refine Lst.nil ?_
    refine At.then ?_
    refine Cd.condF rfl rfl ?_
    refine Cd.skip ?_
    refine At.in_normal ?_
    refine At.then ?_
    refine Cd.region ?_
    refine Lst.run rfl rfl (by decide) (Ev.incr (by omega) rfl rfl) ?_
    refine Lst.run rfl rfl (by decide) (Ev.move rfl) ?_
    refine Lst.nil ?_
    exact At.meet (i13 + 1, k13, s14, l15) hF17 ⟨rfl, rfl, rfl, rfl, rfl, rfl, rfl, rfl, rfl, trivial⟩ rfl ⟨⟨hgo13 _ (some_inj H).symm, by omega⟩, Nat.lt_succ_self _⟩
  replace H := ite_t hb25 H
  refine Lst.runG rfl rfl rfl hb25 rfl (by decide) (Ev.move rfl) ?_
  refine Lst.runG rfl rfl rfl hb25 rfl (by decide) (Ev.move rfl) ?_
  refine Lst.runG rfl rfl rfl hb25 rfl (by decide) (Ev.move rfl) ?_
  obtain ⟨r26, h27, H⟩ := bind_some H
  refine Lst.front (i := 4) rfl (L' := (.blk b_a2_c1 (enc a2_c1) 89) :: (.own s14 49 2 (encs l15)) :: (.own Sl.nil 49 2 (encs ([] : List Pair))) :: (.blk b3 (enc a0) 89) :: (.blk b_a2_c0 (enc (PosetR.mk a2_c0 s_a2_c0_1)) 24) :: L) rfl ?_
  refine Lst.front (i := 4) rfl (L' := (.blk b_a2_c0 (enc (PosetR.mk a2_c0 s_a2_c0_1)) 24) :: (.blk b_a2_c1 (enc a2_c1) 89) :: (.own s14 49 2 (encs l15)) :: (.own Sl.nil 49 2 (encs ([] : List Pair))) :: (.blk b3 (enc a0) 89) :: L) rfl ?_
  refine Lst.callV1G rfl rfl rfl hb25 rfl (by decide) (vs := [.int .i64 (i7 : Int), .int .i64 (i13 : Int)]) (cs := [.pointer (some ⟨b_a2_c0, 0, none⟩), .pointer (some ⟨b_a2_c1, 0, none⟩)]) rfl ⟨rfl, rfl, trivial⟩ Try.call56 (poset_Cover_1_sim h27 w0 _ M _ (List.Sublist.cons _ (List.Sublist.cons _ (List.Sublist.cons _ hM))) (hs_a2_c0_1.mono (FLe.trans hF11 hF17) (List.Sublist.refl _))) ?_
  refine Lst.run rfl rfl (by decide) (Ev.pickT rfl hb25 rfl) ?_
  refine Lst.nil ?_
  refine At.then ?_
  rcases (Bool.eq_false_or_eq_true r26).symm with hb30 | hb30
  · replace H := ite_f hb30 H
    refine Cd.condF rfl hb30 ?_
    refine Cd.skip ?_
    refine At.in_normal ?_
    refine At.then ?_
    refine Cd.region ?_
    refine Lst.run rfl rfl (by decide) (Ev.incr (by omega) rfl rfl) ?_
    refine Lst.run rfl rfl (by decide) (Ev.move rfl) ?_
    refine Lst.nil ?_
    refine At.front (i := 4) rfl (L' := (.blk b3 (enc a0) 89) :: (.blk b_a2_c0 (enc (PosetR.mk a2_c0 s_a2_c0_1)) 24) :: (.blk b_a2_c1 (enc a2_c1) 89) :: (.own s14 49 2 (encs l15)) :: (.own Sl.nil 49 2 (encs ([] : List Pair))) :: L) rfl ?_
    refine At.front (i := 4) rfl (L' := (.own Sl.nil 49 2 (encs ([] : List Pair))) :: (.blk b3 (enc a0) 89) :: (.blk b_a2_c0 (enc (PosetR.mk a2_c0 s_a2_c0_1)) 24) :: (.blk b_a2_c1 (enc a2_c1) 89) :: (.own s14 49 2 (encs l15)) :: L) rfl ?_
    refine At.front (i := 4) rfl (L' := (.own s14 49 2 (encs l15)) :: (.own Sl.nil 49 2 (encs ([] : List Pair))) :: (.blk b3 (enc a0) 89) :: (.blk b_a2_c0 (enc (PosetR.mk a2_c0 s_a2_c0_1)) 24) :: (.blk b_a2_c1 (enc a2_c1) 89) :: L) rfl ?_
    exact At.meet (i13 + 1, k13, s14, l15) hF17 ⟨rfl, rfl, rfl, rfl, rfl, rfl, rfl, rfl, rfl, trivial⟩ rfl ⟨⟨hgo13 _ (some_inj H).symm, by omega⟩, Nat.lt_succ_self _⟩
  replace H := ite_t hb30 H
  refine Cd.condT rfl hb30 ?_
  refine Cd.region ?_
  refine Lst.run rfl rfl (by decide) (Ev.move rfl) ?_
  refine Lst.run rfl rfl (by decide) (Ev.move rfl) ?_
  refine Lst.run rfl rfl (by decide) (Ev.move rfl) ?_
  refine Lst.run rfl rfl (by decide) (Ev.build (v := .agg (enc ({ Pair.zero with A := (i7 : Int), B := (i13 : Int) } : Pair)).toArray) (pv := [(0, .int .i64 (i7 : Int)), (1, .int .i64 (i13 : Int))]) ⟨rfl, rfl, ⟨rfl, rfl, trivial⟩⟩ (fun w => by kernel_rfl)) ?_
  refine Lst.buildSlice (α := Pair) (xs := ([({ Pair.zero with A := (i7 : Int), B := (i13 : Int) } : Pair)] : List Pair)) (pv := [(0, .agg (enc ({ Pair.zero with A := (i7 : Int), B := (i13 : Int) } : Pair)).toArray)]) rfl rfl (by decide) ⟨rfl, rfl, trivial⟩ (run_buildSlice (α := Pair) (z0 := Pair.zero) (xs := ([({ Pair.zero with A := (i7 : Int), B := (i13 : Int) } : Pair)] : List Pair)) Try.runUnderlying22 Try.sizeOf49 Try.zeroValue49 rfl rfl rfl (by decide) rfl (fill_cons (cs := encs (List.replicate 1 Pair.zero)) (cs' := encs ((List.replicate 1 Pair.zero).set 0 ({ Pair.zero with A := (i7 : Int), B := (i13 : Int) } : Pair))) (vs := enc ({ Pair.zero with A := (i7 : Int), B := (i13 : Int) } : Pair)) rfl rfl (Enc.len _) ((Put.elemN (s := 2) (i := 0) (x := Pair.zero) (y := ({ Pair.zero with A := (i7 : Int), B := (i13 : Int) } : Pair)) rfl rfl (Put.here ((Enc.len _).trans (Enc.len _).symm))).off rfl) fill_nil)) rfl rfl (by decide) (fun s31 _ => ?_)
  obtain ⟨u33, h34, H⟩ := bind_some H
  refine Lst.append (i := 3) (α := Pair) (xs := l15) (ys := ([({ Pair.zero with A := (i7 : Int), B := (i13 : Int) } : Pair)] : List Pair)) rfl rfl (by decide) rfl rfl Try.runUnderlying22 Try.typeInfo49 rfl rfl rfl rfl rfl rfl (Rd.own (i := 0) rfl rfl rfl) rfl (room_some h34) rfl (fun s35 => ?_)
  refine Lst.its (L' := (.own s31 49 2 (encs ([({ Pair.zero with A := (i7 : Int), B := (i13 : Int) } : Pair)] : List Pair))) :: (.blk b_a2_c0 (enc (PosetR.mk a2_c0 s_a2_c0_1)) 24) :: (.blk b_a2_c1 (enc a2_c1) 89) :: (.own s35 49 2 (encs (l15 ++ ([({ Pair.zero with A := (i7 : Int), B := (i13 : Int) } : Pair)] : List Pair)))) :: (.own Sl.nil 49 2 (encs ([] : List Pair))) :: (.blk b3 (enc a0) 89) :: L) rfl ?_
  refine Lst.run rfl rfl (by decide) (Ev.assign rfl) ?_
  refine Lst.nil ?_
  refine At.in_normal ?_
  refine At.then ?_
  refine Cd.as (e' := [(1, .int .i64 a1), (2, .func (.func 56) #[] #[.pointer (some ⟨b_a2_c0, 0, none⟩), .pointer (some ⟨b_a2_c1, 0, none⟩)]), (3, .pointer (some ⟨b3, 0, none⟩)), (8, .int .i64 (i7 : Int)), (10, .int .i64 a1), (11, .int .i64 (i7 : Int)), (14, .int .i64 a1), (15, .int .i64 (i13 : Int)), (7, Sl.v s35)]) (L' := (.own s31 49 2 (encs ([({ Pair.zero with A := (i7 : Int), B := (i13 : Int) } : Pair)] : List Pair))) :: (.blk b_a2_c0 (enc (PosetR.mk a2_c0 s_a2_c0_1)) 24) :: (.blk b_a2_c1 (enc a2_c1) 89) :: (.own s35 49 2 (encs (l15 ++ ([({ Pair.zero with A := (i7 : Int), B := (i13 : Int) } : Pair)] : List Pair)))) :: (.own Sl.nil 49 2 (encs ([] : List Pair))) :: (.blk b3 (enc a0) 89) :: L) ⟨rfl, rfl, rfl, rfl, rfl, rfl, rfl, rfl, rfl, trivial⟩ rfl ?_
  refine Cd.region ?_
  refine Lst.run rfl rfl (by decide) (Ev.incr (by omega) rfl rfl) ?_
  refine Lst.run rfl rfl (by decide) (Ev.move rfl) ?_
  refine Lst.nil ?_
  refine At.front (i := 5) rfl (L' := (.blk b3 (enc a0) 89) :: (.own s31 49 2 (encs ([({ Pair.zero with A := (i7 : Int), B := (i13 : Int) } : Pair)] : List Pair))) :: (.blk b_a2_c0 (enc (PosetR.mk a2_c0 s_a2_c0_1)) 24) :: (.blk b_a2_c1 (enc a2_c1) 89) :: (.own s35 49 2 (encs (l15 ++ ([({ Pair.zero with A := (i7 : Int), B := (i13 : Int) } : Pair)] : List Pair)))) :: (.own Sl.nil 49 2 (encs ([] : List Pair))) :: L) rfl ?_
  refine At.front (i := 5) rfl (L' := (.own Sl.nil 49 2 (encs ([] : List Pair))) :: (.blk b3 (enc a0) 89) :: (.own s31 49 2 (encs ([({ Pair.zero with A := (i7 : Int), B := (i13 : Int) } : Pair)] : List Pair))) :: (.blk b_a2_c0 (enc (PosetR.mk a2_c0 s_a2_c0_1)) 24) :: (.blk b_a2_c1 (enc a2_c1) 89) :: (.own s35 49 2 (encs (l15 ++ ([({ Pair.zero with A := (i7 : Int), B := (i13 : Int) } : Pair)] : List Pair)))) :: L) rfl ?_
  refine At.front (i := 5) rfl (L' := (.own s35 49 2 (encs (l15 ++ ([({ Pair.zero with A := (i7 : Int), B := (i13 : Int) } : Pair)] : List Pair)))) :: (.own Sl.nil 49 2 (encs ([] : List Pair))) :: (.blk b3 (enc a0) 89) :: (.own s31 49 2 (encs ([({ Pair.zero with A := (i7 : Int), B := (i13 : Int) } : Pair)] : List Pair))) :: (.blk b_a2_c0 (enc (PosetR.mk a2_c0 s_a2_c0_1)) 24) :: (.blk b_a2_c1 (enc a2_c1) 89) :: L) rfl ?_
  refine At.less (L' := (.own s35 49 2 (encs (l15 ++ ([({ Pair.zero with A := (i7 : Int), B := (i13 : Int) } : Pair)] : List Pair)))) :: (.own Sl.nil 49 2 (encs ([] : List Pair))) :: (.blk b3 (enc a0) 89) :: (.blk b_a2_c0 (enc (PosetR.mk a2_c0 s_a2_c0_1)) 24) :: (.blk b_a2_c1 (enc a2_c1) 89) :: L) (List.Sublist.cons_cons _ (List.Sublist.cons_cons _ (List.Sublist.cons_cons _ (List.Sublist.cons _ (List.Sublist.cons_cons _ (List.Sublist.cons_cons _ (List.Sublist.refl _))))))) ?_
  exact At.meet (i13 + 1, k13, s35, l15 ++ ([({ Pair.zero with A := (i7 : Int), B := (i13 : Int) } : Pair)] : List Pair)) hF17 ⟨rfl, rfl, rfl, rfl, rfl, rfl, rfl, rfl, rfl, trivial⟩ rfl ⟨⟨hgo13 _ (some_inj H).symm, by omega⟩, Nat.lt_succ_self _⟩
set_option maxRecDepth 20000 in
theorem poset_Cover_sim {a0 : Poset} {s_a0_1 : Sl} {r : (List Pair) × Int} (H : poset_Cover a0 = some r) (w0 : World) (F : Frz) (M L : List Item) (hM : M.Sublist L) (hs_a0_1 : Rd w0 F M s_a0_1 a0.Pairs) : Ok Try.prog w0 25 [.agg (enc (PosetR.mk a0 s_a0_1)).toArray] F (L) (fun _ L' v => ∃ (s1 : Sl), v = .tuple #[Sl.v s1, .int .i64 r.2] ∧ L' = (.own s1 49 2 (encs r.1)) :: L) := by
  unfold poset_Cover at H
  refine Ok.enter (m := 1) (n := 19) Try.func25 rfl rfl rfl (by decide) ?_
  refine Cd.env (e' := [(0, .agg (enc (PosetR.mk a0 s_a0_1)).toArray)]) rfl ?_
  refine Cd.seq ?_
  refine Cd.region ?_
  refine Lst.box rfl rfl (by decide) rfl (cs := enc (PosetR.mk a0 s_a0_1)) rfl (fun b1 => ?_)
  refine Lst.addNil 49 2 ?_
  refine Lst.run rfl rfl (by decide) (Ev.assign rfl) ?_
  refine Lst.run rfl rfl (by decide) (Ev.assign rfl) ?_
  refine Lst.nil ?_
  refine At.then ?_
  refine Cd.seq ?_
  refine Cd.region ?_
  refine Lst.run rfl rfl (by decide) (Ev.loadA (i := 1) rfl rfl Try.isAgg24 Try.sizeOf24 (ch := enc (PosetR.mk a0 s_a0_1)) (Enc.len _) (Get.here _)) ?_
  obtain ⟨r4, h5, H⟩ := bind_some H
  refine Lst.call1 rfl rfl (by decide) (vs := [.agg (enc (PosetR.mk a0 s_a0_1)).toArray]) ⟨rfl, trivial⟩ Try.call53 (poset_check_sim h5 w0 _ M _ (List.Sublist.cons _ (List.Sublist.cons _ hM)) (hs_a0_1.mono (FLe.refl _) (List.Sublist.refl _))) ?_
  refine Lst.run rfl rfl (by decide) (Ev.move rfl) ?_
  refine Lst.run rfl rfl (by decide) (Ev.extract rfl rfl) ?_
  refine Lst.run rfl rfl (by decide) (Ev.extract rfl rfl) ?_
  refine Lst.alloc (z := .agg (enc (Vector.replicate 20 (Vector.replicate 20 false))).toArray) (cs := enc (Vector.replicate 20 (Vector.replicate 20 false))) rfl rfl (by decide) (fun _ => by kernel_rfl) rfl (fun b8 => ?_)
  refine Lst.store (i := 0) rfl rfl rfl rfl rfl Try.sizeOf89 (vs := enc r4.1) rfl (Enc.len _) (Enc.one _) (cs' := enc r4.1) (Put.here ((Enc.len _).trans (Enc.len _).symm)) (L' := (.blk b8 (enc r4.1) 89) :: (.own Sl.nil 49 2 (encs ([] : List Pair))) :: (.blk b1 (enc (PosetR.mk a0 s_a0_1)) 24) :: L) rfl ?_
  refine Lst.run rfl rfl (by decide) (Ev.assign rfl) ?_
  refine Lst.nil ?_
  refine At.then ?_
  refine Cd.seq ?_
  refine Cd.seq ?_
  refine Cd.region ?_
  refine Lst.run rfl rfl (by decide) (Ev.move rfl) ?_
  refine Lst.run rfl rfl (by decide) (Ev.neq rfl rfl) ?_
  refine Lst.nil ?_
  refine At.then ?_
  rcases Bool.eq_false_or_eq_true (r4.2 != (0 : Int)) with hb10 | hb10
  · replace H := ite_t hb10 H
    refine Cd.condT rfl hb10 ?_
    refine Cd.seq ?_
    refine Cd.region ?_
    refine Lst.run rfl rfl (by decide) (Ev.move rfl) ?_
    refine Lst.addNil 49 2 ?_
    refine Lst.run rfl rfl (by decide) (Ev.assign rfl) ?_
    refine Lst.run rfl rfl (by decide) (Ev.assign rfl) ?_
    refine Lst.nil ?_
    refine At.then ?_
    obtain rfl := some_inj H
    refine Cd.ret ?_
    refine At.then_ret ?_
    exact At.ret2 rfl (Res.tmp rfl) (Res.tmp rfl) (FLe.refl _) (List.Sublist.cons_cons _ (List.Sublist.cons _ (List.Sublist.cons _ (List.Sublist.cons _ (List.Sublist.refl _))))) ⟨Sl.nil, rfl, rfl⟩
  replace H := ite_f hb10 H
  refine Cd.condF rfl hb10 ?_
  refine Cd.skip ?_
  refine At.then ?_
  refine Cd.seq ?_
  refine Cd.region ?_
  refine Lst.run rfl rfl (by decide) (Ev.loadA (i := 0) rfl rfl Try.isAgg89 Try.sizeOf89 (ch := enc r4.1) (Enc.len _) (Get.here _)) ?_
  refine Lst.run rfl rfl (by decide) (Ev.fieldAddr (off' := 0) rfl Try.runUnderlying24 rfl Try.sizeOf3 rfl rfl) ?_
  refine Lst.run rfl rfl (by decide) (Ev.load (i := 2) rfl rfl Try.isAgg3 (v := .int .i64 a0.N) ((PosetR.get_N (Get.here _)).off (by rfl))) ?_
  refine Lst.run rfl rfl (by decide) (Ev.makeFunc (us := []) (vs := [.pointer (some ⟨b1, 0, none⟩), .pointer (some ⟨b8, 0, none⟩)]) trivial ⟨rfl, rfl, trivial⟩) ?_
  obtain ⟨r12, h13, H⟩ := bind_some H
  refine Lst.front (i := 2) rfl (L' := (.blk b1 (enc (PosetR.mk a0 s_a0_1)) 24) :: (.blk b8 (enc r4.1) 89) :: (.own Sl.nil 49 2 (encs ([] : List Pair))) :: L) rfl ?_
  refine Lst.call rfl rfl (by decide) (vs := [.agg (enc r4.1).toArray, .int .i64 a0.N, .func (.func 56) #[] #[.pointer (some ⟨b1, 0, none⟩), .pointer (some ⟨b8, 0, none⟩)]]) ⟨rfl, rfl, rfl, trivial⟩ Try.call55 (poset_order_pairs_Cover_1_sim h13 w0 _ M _ (List.Sublist.cons _ hM) (hs_a0_1.mono (FLe.refl _) (List.Sublist.refl _))) (fun F16 L' v hF17 hv => ?_)
  obtain ⟨s14, rfl, rfl⟩ := hv
  refine Lst.run rfl rfl (by decide) (Ev.assign rfl) ?_
  refine Lst.run rfl rfl (by decide) (Ev.assign rfl) ?_
  refine Lst.nil ?_
  refine At.then ?_
  obtain rfl := some_inj H
  refine Cd.ret ?_
  exact At.ret2 rfl (Res.tmp rfl) (Res.tmp rfl) hF17 (List.Sublist.cons_cons _ (List.Sublist.cons _ (List.Sublist.cons _ (List.Sublist.cons _ (List.Sublist.refl _))))) ⟨s14, rfl, rfl⟩
set_option maxRecDepth 20000 in
theorem slices_Index_int_int_sim {a0 : List Int} {a1 : Int} {s_a0 : Sl} {r : Int} (H : slices_Index_int_int a0 a1 = some r) (w0 : World) (F : Frz) (M L : List Item) (hM : M.Sublist L) (hs_a0 : Rd w0 F M s_a0 a0) : Ok Try.prog w0 60 [Sl.v s_a0, .int .i64 a1] F (L) (Is (.int .i64 r) (L)) := by
  unfold slices_Index_int_int at H
  refine Ok.enter (m := 2) (n := 19) Try.func60 rfl rfl rfl (by decide) ?_
  refine Cd.env (e' := [(0, Sl.v s_a0), (1, .int .i64 a1)]) rfl ?_
  refine Cd.seq ?_
  refine Cd.region ?_
  refine Lst.run rfl rfl (by decide) (Ev.assign rfl) ?_
  refine Lst.nil ?_
  refine At.then ?_
  refine Cd.seq ?_
  refine Cd.seq ?_
  refine Cd.region ?_
  refine Lst.run rfl rfl (by decide) (Ev.move rfl) ?_
  refine Lst.run rfl rfl (by decide) (Ev.lenS (α := Int) (xs := a0) (by decide) rfl rfl Try.runUnderlying34 (hs_a0.mono (FLe.refl _) hM)) ?_
  refine Lst.run rfl rfl (by decide) (Ev.move rfl) ?_
  refine Lst.nil ?_
  refine At.then ?_
  refine Cd.block ?_
  refine Cd.bound (Rd.le (α := Int) (xs := a0) (by decide) (hs_a0.mono (FLe.refl _) hM)) (fun hN8 => ?_)
  obtain ⟨ol1, H, HKl1⟩ := andThen_some H
  refine Cd.loop (σ := Nat × Nat × Unit) (fun (i1, k1, _u) => [(0, Sl.v s_a0), (1, .int .i64 a1), (7, .int .i64 (a0.length : Int)), (8, .int .i64 (i1 : Int))]) (fun (i1, k1, _u) => L) (fun _ => (fun (i1, k1, _u) => rangeM (slices_Index_int_int_B0 a0 a1) k1 i1 () = some ol1 ∧ i1 + k1 = a0.length)) (fun (i1, k1, _u) => k1) (0, a0.length, ()) ⟨rfl, rfl, rfl, rfl, trivial⟩ rfl ⟨H, by omega⟩ ?_
  rintro F2 ⟨i1, k1, _u⟩ hF3 ⟨H, hik1⟩
  refine Cd.as (e' := [(0, Sl.v s_a0), (1, .int .i64 a1), (7, .int .i64 (a0.length : Int)), (8, .int .i64 (i1 : Int))]) (L' := L) ⟨rfl, rfl, rfl, rfl, trivial⟩ rfl ?_
  rcases k1 with _ | k1
  · have hc1 : decide ((i1 : Int) < (a0.length : Int)) = false := decide_eq_false (by omega)
    replace H := rangeM_end H
    refine Cd.seq ?_
    refine Cd.region ?_
    refine Lst.run rfl rfl (by decide) (Ev.lss rfl rfl) ?_
    refine Lst.nil ?_
    refine At.then ?_
    refine Cd.seq ?_
    refine Cd.condF rfl hc1 ?_
    refine Cd.exit ?_
    refine At.then_exit ?_
    refine At.then_exit ?_
    refine At.in_exit ?_
    subst H
    replace H := HKl1
    refine At.then ?_
    refine Cd.seq ?_
    refine Cd.region ?_
    refine Lst.run rfl rfl (by decide) (Ev.assign rfl) ?_
    refine Lst.nil ?_
    refine At.then ?_
    obtain rfl := some_inj H
    refine Cd.ret ?_
    exact At.ret1 rfl (Res.tmp rfl) hF3 (List.Sublist.refl _) ⟨rfl, rfl⟩
  have hc1 : decide ((i1 : Int) < (a0.length : Int)) = true := decide_eq_true (by omega)
  obtain ⟨c1, H, hgo1, hbrk1, hret1⟩ := rangeM_go H
  unfold slices_Index_int_int_B0 at H
  try dsimp only at H
  refine Cd.seq ?_
  refine Cd.region ?_
  refine Lst.run rfl rfl (by decide) (Ev.lss rfl rfl) ?_
  refine Lst.nil ?_
  refine At.then ?_
  refine Cd.seq ?_
  refine Cd.condT rfl hc1 ?_
  refine Cd.skip ?_
  refine At.then ?_
  refine Cd.seq ?_
  refine Cd.block ?_
  refine Cd.seq ?_
  refine Cd.region ?_
  refine Lst.run rfl rfl (by decide) (Ev.move rfl) ?_
  refine Lst.run rfl rfl (by decide) (Ev.assign rfl) ?_
  refine Lst.nil ?_
  refine At.then ?_
  refine Cd.seq ?_
  refine Cd.region ?_
  refine Lst.run rfl rfl (by decide) (Ev.move rfl) ?_
  refine Lst.run rfl rfl (by decide) (Ev.move rfl) ?_
  refine Lst.run rfl rfl (by decide) (Ev.move rfl) ?_
  obtain ⟨x4, h5, H⟩ := bind_some H
  have g6 := lat_some h5
  refine Lst.run rfl rfl (by decide) (Ev.indexS (α := Int) (xs := a0) rfl rfl Try.runUnderlying34 Try.sizeOf3 rfl (by decide) (hs_a0.mono hF3 hM) g6.1 g6.2.1) ?_
  refine Lst.run rfl rfl (by decide) (Ev.loadS (α := Int) rfl (hs_a0.mono hF3 hM) Try.isAgg3 (v := .int .i64 x4) ((Get.elemN (s := 1) (x := x4) rfl g6.2.2 (Get.here _)).off (by omega))) ?_
  refine Lst.run rfl rfl (by decide) (Ev.eql rfl rfl) ?_
  refine Lst.nil ?_
  refine At.then ?_
  rcases Bool.eq_false_or_eq_true (a1 == x4) with hb7 | hb7
  · replace H := ite_t hb7 H
    refine Cd.condT rfl hb7 ?_
    refine Cd.seq ?_
    refine Cd.region ?_
    refine Lst.run rfl rfl (by decide) (Ev.move rfl) ?_
    refine Lst.run rfl rfl (by decide) (Ev.assign rfl) ?_
    refine Lst.nil ?_
    refine At.then ?_
    have H := hret1 _ (some_inj H).symm
    subst H
    replace H := HKl1
    obtain rfl := some_inj H
    refine Cd.ret ?_
    refine At.in_ret ?_
    refine At.then_ret ?_
    refine At.then_ret ?_
    refine At.in_ret ?_
    refine At.then_ret ?_
    exact At.ret1 rfl (Res.tmp rfl) hF3 (List.Sublist.refl _) ⟨rfl, rfl⟩
  replace H := ite_f hb7 H
  refine Cd.condF rfl hb7 ?_
  refine Cd.skip ?_
  refine At.in_normal ?_
  refine At.then ?_
  refine Cd.region ?_
  refine Lst.run rfl rfl (by decide) (Ev.incr (by omega) rfl rfl) ?_
  refine Lst.run rfl rfl (by decide) (Ev.move rfl) ?_
  refine Lst.nil ?_
  exact At.meet (i1 + 1, k1, ()) hF3 ⟨rfl, rfl, rfl, rfl, trivial⟩ rfl ⟨⟨hgo1 _ (some_inj H).symm, by omega⟩, Nat.lt_succ_self _⟩
set_option maxRecDepth 20000 in
theorem slices_Contains_int_int_sim {a0 : List Int} {a1 : Int} {s_a0 : Sl} {r : Bool} (H : slices_Contains_int_int a0 a1 = some r) (w0 : World) (F : Frz) (M L : List Item) (hM : M.Sublist L) (hs_a0 : Rd w0 F M s_a0 a0) : Ok Try.prog w0 57 [Sl.v s_a0, .int .i64 a1] F (L) (Is (.bool r) (L)) := by
  unfold slices_Contains_int_int at H
  refine Ok.enter (m := 2) (n := 9) Try.func57 rfl rfl rfl (by decide) ?_
  refine Cd.env (e' := [(0, Sl.v s_a0), (1, .int .i64 a1)]) rfl ?_
  refine Cd.seq ?_
  refine Cd.region ?_
  refine Lst.run rfl rfl (by decide) (Ev.assign rfl) ?_
  refine Lst.nil ?_
  refine At.then ?_
  refine Cd.seq ?_
  refine Cd.region ?_
  refine Lst.run rfl rfl (by decide) (Ev.move rfl) ?_
  refine Lst.run rfl rfl (by decide) (Ev.move rfl) ?_
  obtain ⟨r1, h2, H⟩ := bind_some H
  refine Lst.call1 rfl rfl (by decide) (vs := [Sl.v s_a0, .int .i64 a1]) ⟨rfl, rfl, trivial⟩ Try.call60 (slices_Index_int_int_sim h2 w0 _ M _ hM (hs_a0.mono (FLe.refl _) (List.Sublist.refl _))) ?_
  refine Lst.run rfl rfl (by decide) (Ev.geq rfl rfl) ?_
  refine Lst.run rfl rfl (by decide) (Ev.assign rfl) ?_
  refine Lst.nil ?_
  refine At.then ?_
  obtain rfl := some_inj H
  refine Cd.ret ?_
  exact At.ret1 rfl (Res.tmp rfl) (FLe.refl _) (List.Sublist.refl _) ⟨rfl, rfl⟩
set_option maxRecDepth 20000 in
theorem poset_Order_sim {fu : Nat} {a0 : Poset} {s_a0_1 : Sl} {r : (List Int) × Int} (H : poset_Order fu a0 = some r) (w0 : World) (F : Frz) (M L : List Item) (hM : M.Sublist L) (hs_a0_1 : Rd w0 F M s_a0_1 a0.Pairs) : Ok Try.prog w0 26 [.agg (enc (PosetR.mk a0 s_a0_1)).toArray] F (L) (fun _ L' v => ∃ (s1 : Sl), v = .tuple #[Sl.v s1, .int .i64 r.2] ∧ L' = (.own s1 3 1 (encs r.1)) :: L) := by
  unfold poset_Order at H
  refine Ok.enter (m := 1) (n := 58) Try.func26 rfl rfl rfl (by decide) ?_
  refine Cd.env (e' := [(0, .agg (enc (PosetR.mk a0 s_a0_1)).toArray)]) rfl ?_
  refine Cd.seq ?_
  refine Cd.region ?_
  refine Lst.box rfl rfl (by decide) rfl (cs := enc (PosetR.mk a0 s_a0_1)) rfl (fun b1 => ?_)
  refine Lst.addNil 3 1 ?_
  refine Lst.run rfl rfl (by decide) (Ev.assign rfl) ?_
  refine Lst.run rfl rfl (by decide) (Ev.assign rfl) ?_
  refine Lst.nil ?_
  refine At.then ?_
  refine Cd.seq ?_
  refine Cd.region ?_
  refine Lst.run rfl rfl (by decide) (Ev.loadA (i := 1) rfl rfl Try.isAgg24 Try.sizeOf24 (ch := enc (PosetR.mk a0 s_a0_1)) (Enc.len _) (Get.here _)) ?_
  obtain ⟨r4, h5, H⟩ := bind_some H
  refine Lst.call1 rfl rfl (by decide) (vs := [.agg (enc (PosetR.mk a0 s_a0_1)).toArray]) ⟨rfl, trivial⟩ Try.call53 (poset_check_sim h5 w0 _ M _ (List.Sublist.cons _ (List.Sublist.cons _ hM)) (hs_a0_1.mono (FLe.refl _) (List.Sublist.refl _))) ?_
  refine Lst.run rfl rfl (by decide) (Ev.move rfl) ?_
  refine Lst.run rfl rfl (by decide) (Ev.extract rfl rfl) ?_
  refine Lst.run rfl rfl (by decide) (Ev.extract rfl rfl) ?_
  refine Lst.alloc (z := .agg (enc (Vector.replicate 20 (Vector.replicate 20 false))).toArray) (cs := enc (Vector.replicate 20 (Vector.replicate 20 false))) rfl rfl (by decide) (fun _ => by kernel_rfl) rfl (fun b8 => ?_)
  refine Lst.store (i := 0) rfl rfl rfl rfl rfl Try.sizeOf89 (vs := enc r4.1) rfl (Enc.len _) (Enc.one _) (cs' := enc r4.1) (Put.here ((Enc.len _).trans (Enc.len _).symm)) (L' := (.blk b8 (enc r4.1) 89) :: (.own Sl.nil 3 1 (encs ([] : List Int))) :: (.blk b1 (enc (PosetR.mk a0 s_a0_1)) 24) :: L) rfl ?_
  refine Lst.run rfl rfl (by decide) (Ev.assign rfl) ?_
  refine Lst.nil ?_
  refine At.then ?_
  refine Cd.seq ?_
  refine Cd.seq ?_
  refine Cd.region ?_
  refine Lst.run rfl rfl (by decide) (Ev.move rfl) ?_
  refine Lst.run rfl rfl (by decide) (Ev.neq rfl rfl) ?_
  refine Lst.nil ?_
  refine At.then ?_
  rcases Bool.eq_false_or_eq_true (r4.2 != (0 : Int)) with hb10 | hb10
  · replace H := ite_t hb10 H
    refine Cd.condT rfl hb10 ?_
    refine Cd.seq ?_
    refine Cd.region ?_
    refine Lst.run rfl rfl (by decide) (Ev.move rfl) ?_
    refine Lst.addNil 3 1 ?_
    refine Lst.run rfl rfl (by decide) (Ev.assign rfl) ?_
    refine Lst.run rfl rfl (by decide) (Ev.assign rfl) ?_
    refine Lst.nil ?_
    refine At.then ?_
    obtain rfl := some_inj H
    refine Cd.ret ?_
    refine At.then_ret ?_
    exact At.ret2 rfl (Res.tmp rfl) (Res.tmp rfl) (FLe.refl _) (List.Sublist.cons_cons _ (List.Sublist.cons _ (List.Sublist.cons _ (List.Sublist.cons _ (List.Sublist.refl _))))) ⟨Sl.nil, rfl, rfl⟩
  replace H := ite_f hb10 H
  refine Cd.condF rfl hb10 ?_
  refine Cd.skip ?_
  refine At.then ?_
  refine Cd.seq ?_
  refine Cd.region ?_
  refine Lst.addNil 3 1 ?_
  refine Lst.run rfl rfl (by decide) (Ev.assign rfl) ?_
  refine Lst.nil ?_
  refine At.then ?_
  refine Cd.seq ?_
  refine Cd.block ?_
  obtain ⟨ol13, H, HKl13⟩ := andThen_some H
  refine Cd.loop (σ := Nat × Sl × (List Int)) (fun (k13, s14, l15) => [(1, .pointer (some ⟨b1, 0, none⟩)), (4, .pointer (some ⟨b8, 0, none⟩)), (6, Sl.v s14)]) (fun (k13, s14, l15) => (.own s14 3 1 (encs l15)) :: (.blk b8 (enc r4.1) 89) :: (.own Sl.nil 3 1 (encs ([] : List Int))) :: (.blk b1 (enc (PosetR.mk a0 s_a0_1)) 24) :: L) (fun _ => (fun (k13, s14, l15) => whileM (poset_Order_B0 a0 r4) k13 l15 = some ol13)) (fun (k13, s14, l15) => k13) (fu, Sl.nil, ([] : List Int)) ⟨rfl, rfl, rfl, trivial⟩ rfl H ?_
  rintro F16 ⟨k13, s14, l15⟩ hF17 H
  refine Cd.as (e' := [(1, .pointer (some ⟨b1, 0, none⟩)), (4, .pointer (some ⟨b8, 0, none⟩)), (6, Sl.v s14)]) (L' := (.own s14 3 1 (encs l15)) :: (.blk b8 (enc r4.1) 89) :: (.own Sl.nil 3 1 (encs ([] : List Int))) :: (.blk b1 (enc (PosetR.mk a0 s_a0_1)) 24) :: L) ⟨rfl, rfl, rfl, trivial⟩ rfl ?_
  rcases k13 with _ | k13
  · cases H
  obtain ⟨c13, H, hgo13, hbrk13, hret13⟩ := whileM_go H
  unfold poset_Order_B0 at H
  try dsimp only at H
  refine Cd.seq ?_
  refine Cd.seq ?_
  refine Cd.region ?_
  refine Lst.run rfl rfl (by decide) (Ev.move rfl) ?_
  refine Lst.run rfl rfl (by decide) (Ev.lenS (α := Int) (xs := l15) (by decide) rfl rfl Try.runUnderlying34 (Rd.own (i := 0) rfl rfl rfl)) ?_
  refine Lst.run rfl rfl (by decide) (Ev.fieldAddr (off' := 0) rfl Try.runUnderlying24 rfl Try.sizeOf3 rfl rfl) ?_
  refine Lst.run rfl rfl (by decide) (Ev.load (i := 3) rfl rfl Try.isAgg3 (v := .int .i64 a0.N) ((PosetR.get_N (Get.here _)).off (by rfl))) ?_
  refine Lst.run rfl rfl (by decide) (Ev.lss rfl rfl) ?_
  refine Lst.nil ?_
  refine At.then ?_
  rcases (Bool.eq_false_or_eq_true (decide ((l15.length : Int) < a0.N))).symm with hb18 | hb18
  · replace H := ite_f hb18 H
    refine Cd.condF rfl hb18 ?_
    refine Cd.exit ?_
    refine At.then_exit ?_
    refine At.then_exit ?_
    refine At.in_exit ?_
    have H := hbrk13 _ (some_inj H).symm
    subst H
    replace H := HKl13
    refine At.then ?_
    refine Cd.seq ?_
    refine Cd.region ?_
    refine Lst.run rfl rfl (by decide) (Ev.move rfl) ?_
    refine Lst.run rfl rfl (by decide) (Ev.assign rfl) ?_
    refine Lst.run rfl rfl (by decide) (Ev.assign rfl) ?_
    refine Lst.nil ?_
    refine At.then ?_
    obtain rfl := some_inj H
    refine Cd.ret ?_
    exact At.ret2 rfl (Res.tmp rfl) (Res.tmp rfl) hF17 (List.Sublist.cons_cons _ (List.Sublist.cons _ (List.Sublist.cons _ (List.Sublist.cons _ (List.Sublist.refl _))))) ⟨s14, rfl, rfl⟩
  replace H := ite_t hb18 H
  refine Cd.condT rfl hb18 ?_
  refine Cd.skip ?_
  refine At.then ?_
  refine Cd.block ?_
  refine Cd.seq ?_
  refine Cd.region ?_
  refine Lst.run rfl rfl (by decide) (Ev.fieldAddr (off' := 0) rfl Try.runUnderlying24 rfl Try.sizeOf3 rfl rfl) ?_
  refine Lst.run rfl rfl (by decide) (Ev.load (i := 3) rfl rfl Try.isAgg3 (v := .int .i64 a0.N) ((PosetR.get_N (Get.here _)).off (by rfl))) ?_
  refine Lst.run rfl rfl (by decide) (Ev.move rfl) ?_
  refine Lst.nil ?_
  refine At.then ?_
  refine Cd.block ?_
  obtain ⟨nn24, hN58, H⟩ := bind_some H
  replace hN58 := upTo_some hN58
  obtain ⟨ol19, H, HKl19⟩ := andThen_some H
  refine Cd.loop (σ := Nat × Nat × Sl × (List Int)) (fun (i19, k19, s20, l21) => [(1, .pointer (some ⟨b1, 0, none⟩)), (4, .pointer (some ⟨b8, 0, none⟩)), (6, Sl.v s20), (24, .int .i64 a0.N), (25, .int .i64 (i19 : Int))]) (fun (i19, k19, s20, l21) => (.own s20 3 1 (encs l21)) :: (.blk b8 (enc r4.1) 89) :: (.own Sl.nil 3 1 (encs ([] : List Int))) :: (.blk b1 (enc (PosetR.mk a0 s_a0_1)) 24) :: L) (fun _ => (fun (i19, k19, s20, l21) => rangeM (poset_Order_B2 a0 r4) k19 i19 l21 = some ol19 ∧ i19 + k19 = nn24)) (fun (i19, k19, s20, l21) => k19) (0, nn24, s14, l15) ⟨rfl, rfl, rfl, rfl, rfl, trivial⟩ rfl ⟨H, by omega⟩ ?_
  rintro F22 ⟨i19, k19, s20, l21⟩ hF23 ⟨H, hik19⟩
  refine Cd.as (e' := [(1, .pointer (some ⟨b1, 0, none⟩)), (4, .pointer (some ⟨b8, 0, none⟩)), (6, Sl.v s20), (24, .int .i64 a0.N), (25, .int .i64 (i19 : Int))]) (L' := (.own s20 3 1 (encs l21)) :: (.blk b8 (enc r4.1) 89) :: (.own Sl.nil 3 1 (encs ([] : List Int))) :: (.blk b1 (enc (PosetR.mk a0 s_a0_1)) 24) :: L) ⟨rfl, rfl, rfl, rfl, rfl, trivial⟩ rfl ?_
  rcases k19 with _ | k19
  · have hc19 : decide ((i19 : Int) < a0.N) = false := decide_eq_false (by omega)
    replace H := rangeM_end H
    refine Cd.seq ?_
    refine Cd.region ?_
    refine Lst.run rfl rfl (by decide) (Ev.lss rfl rfl) ?_
    refine Lst.nil ?_
    refine At.then ?_
    refine Cd.seq ?_
    refine Cd.condF rfl hc19 ?_
    refine Cd.exit ?_
    refine At.then_exit ?_
    refine At.then_exit ?_
    refine At.in_exit ?_
    subst H
    replace H := HKl19
    refine At.in_normal ?_
    exact At.meet (k13, s20, l21) (FLe.trans hF17 hF23) ⟨rfl, rfl, rfl, trivial⟩ rfl ⟨hgo13 _ (some_inj H).symm, Nat.lt_succ_self _⟩
  have hc19 : decide ((i19 : Int) < a0.N) = true := decide_eq_true (by omega)
  obtain ⟨c19, H, hgo19, hbrk19, hret19⟩ := rangeM_go H
  unfold poset_Order_B2 at H
  try dsimp only at H
  refine Cd.seq ?_
  refine Cd.region ?_
  refine Lst.run rfl rfl (by decide) (Ev.lss rfl rfl) ?_
  refine Lst.nil ?_
  refine At.then ?_
  refine Cd.seq ?_
  refine Cd.condT rfl hc19 ?_
  refine Cd.skip ?_
  refine At.then ?_
  refine Cd.seq ?_
  refine Cd.block ?_
  refine Cd.seq ?_
  refine Cd.region ?_
  refine Lst.run rfl rfl (by decide) (Ev.move rfl) ?_
  refine Lst.run rfl rfl (by decide) (Ev.assign rfl) ?_
  refine Lst.nil ?_
  refine At.then ?_
  refine Cd.seq ?_
  refine Cd.seq ?_
  refine Cd.region ?_
  refine Lst.run rfl rfl (by decide) (Ev.move rfl) ?_
  refine Lst.run rfl rfl (by decide) (Ev.move rfl) ?_
  obtain ⟨r25, h26, H⟩ := bind_some H
  refine Lst.call1 rfl rfl (by decide) (vs := [Sl.v s20, .int .i64 (i19 : Int)]) ⟨rfl, rfl, trivial⟩ Try.call57 (slices_Contains_int_int_sim h26 w0 _ _ _ (List.Sublist.refl _) (Rd.own (i := 0) rfl rfl rfl)) ?_
  refine Lst.nil ?_
  refine At.then ?_
  rcases Bool.eq_false_or_eq_true r25 with hb29 | hb29
  · replace H := ite_t hb29 H
    refine Cd.condT rfl hb29 ?_
    refine Cd.exit ?_
    refine At.then_exit ?_
    refine At.in_exit ?_
    refine At.then ?_
    refine Cd.region ?_
    refine Lst.run rfl rfl (by decide) (Ev.incr (by omega) rfl rfl) ?_
    refine Lst.run rfl rfl (by decide) (Ev.move rfl) ?_
    refine Lst.nil ?_
    exact At.meet (i19 + 1, k19, s20, l21) hF23 ⟨rfl, rfl, rfl, rfl, rfl, trivial⟩ rfl ⟨⟨hgo19 _ (some_inj H).symm, by omega⟩, Nat.lt_succ_self _⟩
  replace H := ite_f hb29 H
  refine Cd.condF rfl hb29 ?_
  refine Cd.skip ?_
  refine At.then ?_
  refine Cd.seq ?_
  refine Cd.region ?_
  refine Lst.run rfl rfl (by decide) (Ev.assign rfl) ?_
  refine Lst.nil ?_
  refine At.then ?_
  refine Cd.seq ?_
  refine Cd.seq ?_
  refine Cd.region ?_
  refine Lst.run rfl rfl (by decide) (Ev.fieldAddr (off' := 0) rfl Try.runUnderlying24 rfl Try.sizeOf3 rfl rfl) ?_
  refine Lst.run rfl rfl (by decide) (Ev.load (i := 3) rfl rfl Try.isAgg3 (v := .int .i64 a0.N) ((PosetR.get_N (Get.here _)).off (by rfl))) ?_
  refine Lst.run rfl rfl (by decide) (Ev.move rfl) ?_
  refine Lst.nil ?_
  refine At.then ?_
  refine Cd.block ?_
  obtain ⟨nn34, hN57, H⟩ := bind_some H
  replace hN57 := upTo_some hN57
  obtain ⟨ol30, H, HKl30⟩ := bind_some H
  refine Cd.loop (σ := Nat × Nat × Bool) (fun (i30, k30, y31) => [(1, .pointer (some ⟨b1, 0, none⟩)), (4, .pointer (some ⟨b8, 0, none⟩)), (6, Sl.v s20), (7, .int .i64 (i19 : Int)), (8, .bool y31), (24, .int .i64 a0.N), (25, .int .i64 (i19 : Int)), (32, .int .i64 a0.N), (33, .int .i64 (i30 : Int))]) (fun (i30, k30, y31) => (.own s20 3 1 (encs l21)) :: (.blk b8 (enc r4.1) 89) :: (.own Sl.nil 3 1 (encs ([] : List Int))) :: (.blk b1 (enc (PosetR.mk a0 s_a0_1)) 24) :: L) (fun _ => (fun (i30, k30, y31) => rangeF (poset_Order_B4 r4 l21 i19) k30 i30 y31 = some ol30 ∧ i30 + k30 = nn34)) (fun (i30, k30, y31) => k30) (0, nn34, true) ⟨rfl, rfl, rfl, rfl, rfl, rfl, rfl, rfl, rfl, trivial⟩ rfl ⟨H, by omega⟩ ?_
  rintro F32 ⟨i30, k30, y31⟩ hF33 ⟨H, hik30⟩
  refine Cd.as (e' := [(1, .pointer (some ⟨b1, 0, none⟩)), (4, .pointer (some ⟨b8, 0, none⟩)), (6, Sl.v s20), (7, .int .i64 (i19 : Int)), (8, .bool y31), (24, .int .i64 a0.N), (25, .int .i64 (i19 : Int)), (32, .int .i64 a0.N), (33, .int .i64 (i30 : Int))]) (L' := (.own s20 3 1 (encs l21)) :: (.blk b8 (enc r4.1) 89) :: (.own Sl.nil 3 1 (encs ([] : List Int))) :: (.blk b1 (enc (PosetR.mk a0 s_a0_1)) 24) :: L) ⟨rfl, rfl, rfl, rfl, rfl, rfl, rfl, rfl, rfl, trivial⟩ rfl ?_
  rcases k30 with _ | k30
  · have hc30 : decide ((i30 : Int) < a0.N) = false := decide_eq_false (by omega)
    replace H := rangeF_end H
    refine Cd.seq ?_
    refine Cd.region ?_
    refine Lst.run rfl rfl (by decide) (Ev.lss rfl rfl) ?_
    refine Lst.nil ?_
    refine At.then ?_
    refine Cd.seq ?_
    refine Cd.condF rfl hc30 ?_
    refine Cd.exit ?_
    refine At.then_exit ?_
    refine At.then_exit ?_
    refine At.in_exit ?_
    subst H
    replace H := HKl30
    refine At.then ?_
    refine Cd.seq ?_
    refine Cd.region ?_
    refine Lst.run rfl rfl (by decide) (Ev.move rfl) ?_
    refine Lst.nil ?_
    refine At.then ?_
    rcases Bool.eq_false_or_eq_true y31 with hb51 | hb51
    · replace H := ite_t hb51 H
      refine Cd.condT rfl hb51 ?_
      refine Cd.seq ?_
      refine Cd.region ?_
      refine Lst.run rfl rfl (by decide) (Ev.move rfl) ?_
      refine Lst.run rfl rfl (by decide) (Ev.move rfl) ?_
      refine Lst.buildSlice (α := Int) (xs := ([(i19 : Int)] : List Int)) (pv := [(0, .int .i64 (i19 : Int))]) rfl rfl (by decide) ⟨rfl, rfl, trivial⟩ (run_buildSlice (α := Int) (z0 := (0 : Int)) (xs := ([(i19 : Int)] : List Int)) Try.runUnderlying34 Try.sizeOf3 Try.zeroValue3 rfl rfl rfl (by decide) rfl (fill_cons (cs := encs (List.replicate 1 (0 : Int))) (cs' := encs ((List.replicate 1 (0 : Int)).set 0 (i19 : Int))) (vs := [.int .i64 (i19 : Int)]) rfl rfl rfl ((Put.elemN (s := 1) (i := 0) (x := (0 : Int)) (y := (i19 : Int)) rfl rfl (Put.here (vs := [.int .i64 (i19 : Int)]) rfl)).off rfl) fill_nil)) rfl rfl (by decide) (fun s52 _ => ?_)
      obtain ⟨u54, h55, H⟩ := bind_some H
      refine Lst.append (i := 1) (α := Int) (xs := l21) (ys := ([(i19 : Int)] : List Int)) rfl rfl (by decide) rfl rfl Try.runUnderlying34 Try.typeInfo3 rfl rfl rfl rfl rfl rfl (Rd.own (i := 0) rfl rfl rfl) rfl (room_some h55) rfl (fun s56 => ?_)
      refine Lst.its (L' := (.own s52 3 1 (encs ([(i19 : Int)] : List Int))) :: (.own s56 3 1 (encs (l21 ++ ([(i19 : Int)] : List Int)))) :: (.blk b8 (enc r4.1) 89) :: (.own Sl.nil 3 1 (encs ([] : List Int))) :: (.blk b1 (enc (PosetR.mk a0 s_a0_1)) 24) :: L) rfl ?_
      refine Lst.run rfl rfl (by decide) (Ev.assign rfl) ?_
      refine Lst.nil ?_
      refine At.then ?_
      refine Cd.exit ?_
      refine At.in_other rfl ?_
      refine At.then_exit ?_
      refine At.then_exit ?_
      refine At.in_exit ?_
      have H := hbrk19 _ (some_inj H).symm
      subst H
      refine At.less (L' := (.own s56 3 1 (encs (l21 ++ ([(i19 : Int)] : List Int)))) :: (.blk b8 (enc r4.1) 89) :: (.own Sl.nil 3 1 (encs ([] : List Int))) :: (.blk b1 (enc (PosetR.mk a0 s_a0_1)) 24) :: L) (List.Sublist.cons _ (List.Sublist.cons_cons _ (List.Sublist.cons_cons _ (List.Sublist.cons_cons _ (List.Sublist.cons_cons _ (List.Sublist.refl _)))))) ?_
      replace H := HKl19
      refine At.in_normal ?_
      exact At.meet (k13, s56, l21 ++ ([(i19 : Int)] : List Int)) (FLe.trans (FLe.trans hF17 hF23) hF33) ⟨rfl, rfl, rfl, trivial⟩ rfl ⟨hgo13 _ (some_inj H).symm, Nat.lt_succ_self _⟩
    replace H := ite_f hb51 H
    refine Cd.condF rfl hb51 ?_
    refine Cd.skip ?_
    refine At.in_normal ?_
    refine At.then ?_
    refine Cd.region ?_
    refine Lst.run rfl rfl (by decide) (Ev.incr (by omega) rfl rfl) ?_
    refine Lst.run rfl rfl (by decide) (Ev.move rfl) ?_
    refine Lst.nil ?_
    exact At.meet (i19 + 1, k19, s20, l21) (FLe.trans hF23 hF33) ⟨rfl, rfl, rfl, rfl, rfl, trivial⟩ rfl ⟨⟨hgo19 _ (some_inj H).symm, by omega⟩, Nat.lt_succ_self _⟩
  have hc30 : decide ((i30 : Int) < a0.N) = true := decide_eq_true (by omega)
  obtain ⟨c30, H, hgo30⟩ := rangeF_go H
  unfold poset_Order_B4 at H
  try dsimp only at H
  refine Cd.seq ?_
  refine Cd.region ?_
  refine Lst.run rfl rfl (by decide) (Ev.lss rfl rfl) ?_
  refine Lst.nil ?_
  refine At.then ?_
  refine Cd.seq ?_
  refine Cd.condT rfl hc30 ?_
  refine Cd.skip ?_
  refine At.then ?_
  refine Cd.seq ?_
  refine Cd.block ?_
  refine Cd.seq ?_
  refine Cd.region ?_
  refine Lst.run rfl rfl (by decide) (Ev.move rfl) ?_
  refine Lst.run rfl rfl (by decide) (Ev.assign rfl) ?_
  refine Lst.nil ?_
  refine At.then ?_
  refine Cd.region ?_
  refine Lst.run rfl rfl (by decide) (Ev.move rfl) ?_
  refine Lst.run rfl rfl (by decide) (Ev.move rfl) ?_
  rcases (Bool.eq_false_or_eq_true y31).symm with hb35 | hb35
  · replace H := ite_f hb35 H
    refine Lst.skip rfl rfl rfl hb35 rfl (by decide) ?_
    refine Lst.skip rfl rfl rfl hb35 rfl (by decide) ?_
    refine Lst.skip rfl rfl rfl hb35 rfl (by decide) ?_
    refine Lst.skip rfl rfl rfl hb35 rfl (by decide) ?_
    refine Lst.skip rfl rfl rfl hb35 rfl (by decide) ?_
    refine Lst.skip rfl rfl rfl hb35 rfl (by decide) ?_
    refine Lst.skip rfl rfl rfl hb35 rfl (by decide) ?_
    refine Lst.skipU rfl rfl rfl rfl (by decide) ?_
    refine Lst.skipU rfl rfl rfl rfl (by decide) ?_
    refine Lst.skipU rfl rfl rfl rfl (by decide) ?_
    refine Lst.skip rfl rfl rfl hb35 rfl (by decide) ?_
    refine Lst.run rfl rfl (by decide) (Ev.pickF rfl hb35 rfl) ?_
    refine Lst.run rfl rfl (by decide) (Ev.assign rfl) ?_
    refine Lst.nil ?_
    refine At.in_normal ?_
    refine At.then ?_
    refine Cd.as (e' := [(1, .pointer (some ⟨b1, 0, none⟩)), (4, .pointer (some ⟨b8, 0, none⟩)), (6, Sl.v s20), (7, .int .i64 (i19 : Int)), (8, .bool false), (24, .int .i64 a0.N), (25, .int .i64 (i19 : Int)), (32, .int .i64 a0.N), (33, .int .i64 (i30 : Int))]) (L' := (.own s20 3 1 (encs l21)) :: (.blk b8 (enc r4.1) 89) :: (.own Sl.nil 3 1 (encs ([] : List Int))) :: (.blk b1 (enc (PosetR.mk a0 s_a0_1)) 24) :: L) ⟨rfl, rfl, rfl, rfl, rfl, rfl, rfl, rfl, rfl, trivial⟩ rfl ?_
    refine Cd.region ?_
    refine Lst.run rfl rfl (by decide) (Ev.incr (by omega) rfl rfl) ?_
    refine Lst.run rfl rfl (by decide) (Ev.move rfl) ?_
    refine Lst.nil ?_
    exact At.meet (i30 + 1, k30, false) hF33 ⟨rfl, rfl, rfl, rfl, rfl, rfl, rfl, rfl, rfl, trivial⟩ rfl ⟨⟨hgo30 _ (some_inj H).symm, by omega⟩, Nat.lt_succ_self _⟩
  replace H := ite_t hb35 H
  refine Lst.runG rfl rfl rfl hb35 rfl (by decide) (Ev.move rfl) ?_
  refine Lst.runG rfl rfl rfl hb35 rfl (by decide) (Ev.move rfl) ?_
  obtain ⟨x36, h37, H⟩ := bind_some H
  have g38 := vat_some h37
  refine Lst.runG rfl rfl rfl hb35 rfl (by decide) (Ev.indexAddr (off' := 0 + (i30 : Int).toNat * 20) rfl rfl Try.runUnderlying89 Try.sizeOf87 g38.1 g38.2.1 rfl) ?_
  obtain ⟨x39, h40, H⟩ := bind_some H
  have g41 := vat_some h40
  refine Lst.runG rfl rfl rfl hb35 rfl (by decide) (Ev.indexAddr (off' := 0 + (i30 : Int).toNat * 20 + (i19 : Int).toNat * 1) rfl rfl Try.runUnderlying87 Try.sizeOf4 g41.1 g41.2.1 rfl) ?_
  refine Lst.runG rfl rfl rfl hb35 rfl (by decide) (Ev.load (i := 1) rfl rfl Try.isAgg4 (v := .bool x39) ((Get.vecN (s := 20) (x := x36) rfl g38.2.2 (Get.vecN (s := 1) (x := x39) rfl g41.2.2 (Get.here _))).off (by omega))) ?_
  refine Lst.runG rfl rfl rfl hb35 rfl (by decide) (Ev.not rfl) ?_
  refine Lst.runG rfl rfl rfl hb35 rfl (by decide) (Ev.move rfl) ?_
  obtain ⟨o42, H, HKo42⟩ := bind_some H
  refine Lst.join (σ := Bool) 4 (fun y43 => [(1, .pointer (some ⟨b1, 0, none⟩)), (4, .pointer (some ⟨b8, 0, none⟩)), (6, Sl.v s20), (7, .int .i64 (i19 : Int)), (8, .bool y31), (24, .int .i64 a0.N), (25, .int .i64 (i19 : Int)), (32, .int .i64 a0.N), (33, .int .i64 (i30 : Int)), (37, .bool y31), (48, .bool y43)]) (fun y43 => (.own s20 3 1 (encs l21)) :: (.blk b8 (enc r4.1) 89) :: (.own Sl.nil 3 1 (encs ([] : List Int))) :: (.blk b1 (enc (PosetR.mk a0 s_a0_1)) 24) :: L) (fun _ y43 => y43 = o42) ?_ ?_
  · rcases Bool.eq_false_or_eq_true (!x39) with hb44 | hb44
    · replace H := ite_t hb44 H
      refine Lst.skip rfl rfl rfl hb44 rfl (by decide) ?_
      refine Lst.skip rfl rfl rfl hb44 rfl (by decide) ?_
      refine Lst.skip rfl rfl rfl hb44 rfl (by decide) ?_
      refine Lst.runG rfl rfl rfl hb35 rfl (by decide) (Ev.pickT rfl hb44 rfl) ?_
      refine Lst.nil ?_
      exact At.meet true (FLe.refl _) ⟨rfl, rfl, rfl, rfl, rfl, rfl, rfl, rfl, rfl, rfl, rfl, trivial⟩ rfl (some_inj H)
    replace H := ite_f hb44 H
    refine Lst.runG rfl rfl rfl hb44 rfl (by decide) (Ev.move rfl) ?_
    refine Lst.runG rfl rfl rfl hb44 rfl (by decide) (Ev.move rfl) ?_
    obtain ⟨r45, h46, H⟩ := bind_some H
    refine Lst.call1G rfl rfl rfl hb44 rfl (by decide) (vs := [Sl.v s20, .int .i64 (i30 : Int)]) ⟨rfl, rfl, trivial⟩ Try.call57 (slices_Contains_int_int_sim h46 w0 _ _ _ (List.Sublist.refl _) (Rd.own (i := 0) rfl rfl rfl)) ?_
    refine Lst.runG rfl rfl rfl hb35 rfl (by decide) (Ev.pickF rfl hb44 rfl) ?_
    refine Lst.nil ?_
    exact At.meet r45 (FLe.refl _) ⟨rfl, rfl, rfl, rfl, rfl, rfl, rfl, rfl, rfl, rfl, rfl, trivial⟩ rfl (some_inj H)
  rintro F49 y43 hF50 hy
  subst hy
  refine Lst.as (e' := [(1, .pointer (some ⟨b1, 0, none⟩)), (4, .pointer (some ⟨b8, 0, none⟩)), (6, Sl.v s20), (7, .int .i64 (i19 : Int)), (8, .bool y31), (24, .int .i64 a0.N), (25, .int .i64 (i19 : Int)), (32, .int .i64 a0.N), (33, .int .i64 (i30 : Int)), (37, .bool y31), (48, .bool y43)]) (L' := (.own s20 3 1 (encs l21)) :: (.blk b8 (enc r4.1) 89) :: (.own Sl.nil 3 1 (encs ([] : List Int))) :: (.blk b1 (enc (PosetR.mk a0 s_a0_1)) 24) :: L) ⟨rfl, rfl, rfl, rfl, rfl, rfl, rfl, rfl, rfl, rfl, rfl, trivial⟩ rfl ?_
  replace H := HKo42
  refine Lst.run rfl rfl (by decide) (Ev.pickT rfl hb35 rfl) ?_
  refine Lst.run rfl rfl (by decide) (Ev.assign rfl) ?_
  refine Lst.nil ?_
  refine At.in_normal ?_
  refine At.then ?_
  refine Cd.region ?_
  refine Lst.run rfl rfl (by decide) (Ev.incr (by omega) rfl rfl) ?_
  refine Lst.run rfl rfl (by decide) (Ev.move rfl) ?_
  refine Lst.nil ?_
  exact At.meet (i30 + 1, k30, y43) (FLe.trans hF33 hF50) ⟨rfl, rfl, rfl, rfl, rfl, rfl, rfl, rfl, rfl, trivial⟩ rfl ⟨⟨hgo30 _ (some_inj H).symm, by omega⟩, Nat.lt_succ_self _⟩
set_option maxRecDepth 20000 in
theorem poset_Levels_sim {fu : Nat} {a0 : Poset} {s_a0_1 : Sl} {r : (List (List Int)) × Int} (H : poset_Levels fu a0 = some r) (w0 : World) (F : Frz) (M L : List Item) (hM : M.Sublist L) (hs_a0_1 : Rd w0 F M s_a0_1 a0.Pairs) : Ok Try.prog w0 27 [.agg (enc (PosetR.mk a0 s_a0_1)).toArray] F (L) (fun Fx L' v => ∃ (s1 : Sl) (rs2 : List (LR Int)), v = .tuple #[Sl.v s1, .int .i64 r.2] ∧ L' = (.rows (α := Int) 3 rs2) :: (.own s1 34 1 (encs rs2)) :: L ∧ rs2.map LR.v = r.1) := by
  unfold poset_Levels at H
  refine Ok.enter (m := 1) (n := 84) Try.func27 rfl rfl rfl (by decide) ?_
  refine Cd.env (e' := [(0, .agg (enc (PosetR.mk a0 s_a0_1)).toArray)]) rfl ?_
  refine Cd.seq ?_
  refine Cd.region ?_
  refine Lst.box rfl rfl (by decide) rfl (cs := enc (PosetR.mk a0 s_a0_1)) rfl (fun b1 => ?_)
  have ha4 : All LR.rel w0 F [] ([] : List (LR Int)) := All.nil
  have ha4m : List.map LR.v ([] : List (LR Int)) = ([] : List (List Int)) := rfl
  refine Lst.addNil 34 1 ?_
  refine Lst.run rfl rfl (by decide) (Ev.assign rfl) ?_
  refine Lst.run rfl rfl (by decide) (Ev.assign rfl) ?_
  refine Lst.nil ?_
  refine At.then ?_
  refine Cd.seq ?_
  refine Cd.region ?_
  refine Lst.run rfl rfl (by decide) (Ev.loadA (i := 1) rfl rfl Try.isAgg24 Try.sizeOf24 (ch := enc (PosetR.mk a0 s_a0_1)) (Enc.len _) (Get.here _)) ?_
  obtain ⟨r5, h6, H⟩ := bind_some H
  refine Lst.call rfl rfl (by decide) (vs := [.agg (enc (PosetR.mk a0 s_a0_1)).toArray]) ⟨rfl, trivial⟩ Try.call26 (poset_Order_sim h6 w0 _ M _ (List.Sublist.cons _ (List.Sublist.cons _ hM)) (hs_a0_1.mono (FLe.refl _) (List.Sublist.refl _))) (fun F9 L' v hF10 hv => ?_)
  obtain ⟨s7, rfl, rfl⟩ := hv
  refine Lst.run rfl rfl (by decide) (Ev.move rfl) ?_
  refine Lst.run rfl rfl (by decide) (Ev.extract rfl rfl) ?_
  refine Lst.run rfl rfl (by decide) (Ev.extract rfl rfl) ?_
  refine Lst.run rfl rfl (by decide) (Ev.assign rfl) ?_
  refine Lst.run rfl rfl (by decide) (Ev.assign rfl) ?_
  refine Lst.nil ?_
  refine At.then ?_
  refine Cd.seq ?_
  refine Cd.seq ?_
  refine Cd.region ?_
  refine Lst.run rfl rfl (by decide) (Ev.move rfl) ?_
  refine Lst.run rfl rfl (by decide) (Ev.neq rfl rfl) ?_
  refine Lst.nil ?_
  refine At.then ?_
  rcases Bool.eq_false_or_eq_true (r5.2 != (0 : Int)) with hb11 | hb11
  · replace H := ite_t hb11 H
    refine Cd.condT rfl hb11 ?_
    refine Cd.seq ?_
    refine Cd.region ?_
    refine Lst.run rfl rfl (by decide) (Ev.move rfl) ?_
    have ha14m : List.map LR.v ([] : List (LR Int)) = ([] : List (List Int)) := rfl
    refine Lst.addNil 34 1 ?_
    refine Lst.rowsNil Int 3 0 ?_
    refine Lst.its (L' := (.rows (α := Int) 3 ([] : List (LR Int))) :: (.own Sl.nil 34 1 (encs ([] : List (LR Int)))) :: (.own s7 3 1 (encs r5.1)) :: (.own Sl.nil 34 1 (encs ([] : List (LR Int)))) :: (.blk b1 (enc (PosetR.mk a0 s_a0_1)) 24) :: L) rfl ?_
    refine Lst.run rfl rfl (by decide) (Ev.assign rfl) ?_
    refine Lst.run rfl rfl (by decide) (Ev.assign rfl) ?_
    refine Lst.nil ?_
    refine At.then ?_
    obtain rfl := some_inj H
    refine Cd.ret ?_
    refine At.then_ret ?_
    exact At.ret2 rfl (Res.tmp rfl) (Res.tmp rfl) hF10 (List.Sublist.cons_cons _ (List.Sublist.cons_cons _ (List.Sublist.cons _ (List.Sublist.cons _ (List.Sublist.cons _ (List.Sublist.refl _)))))) ⟨Sl.nil, ([] : List (LR Int)), rfl, rfl, ha14m⟩
  replace H := ite_f hb11 H
  refine Cd.condF rfl hb11 ?_
  refine Cd.skip ?_
  refine At.then ?_
  refine Cd.seq ?_
  refine Cd.region ?_
  refine Lst.run rfl rfl (by decide) (Ev.loadA (i := 2) rfl rfl Try.isAgg24 Try.sizeOf24 (ch := enc (PosetR.mk a0 s_a0_1)) (Enc.len _) (Get.here _)) ?_
  obtain ⟨r15, h16, H⟩ := bind_some H
  refine Lst.call1 rfl rfl (by decide) (vs := [.agg (enc (PosetR.mk a0 s_a0_1)).toArray]) ⟨rfl, trivial⟩ Try.call58 (poset_closed_sim h16 w0 _ M _ (List.Sublist.cons _ (List.Sublist.cons _ (List.Sublist.cons _ hM))) (hs_a0_1.mono hF10 (List.Sublist.refl _))) ?_
  refine Lst.alloc (z := .agg (enc (Vector.replicate 20 (Vector.replicate 20 false))).toArray) (cs := enc (Vector.replicate 20 (Vector.replicate 20 false))) rfl rfl (by decide) (fun _ => by kernel_rfl) rfl (fun b19 => ?_)
  refine Lst.store (i := 0) rfl rfl rfl rfl rfl Try.sizeOf89 (vs := enc r15) rfl (Enc.len _) (Enc.one _) (cs' := enc r15) (Put.here ((Enc.len _).trans (Enc.len _).symm)) (L' := (.blk b19 (enc r15) 89) :: (.own s7 3 1 (encs r5.1)) :: (.own Sl.nil 34 1 (encs ([] : List (LR Int)))) :: (.blk b1 (enc (PosetR.mk a0 s_a0_1)) 24) :: L) rfl ?_
  refine Lst.nil ?_
  refine At.then ?_
  refine Cd.seq ?_
  refine Cd.region ?_
  refine Lst.run rfl rfl (by decide) (Ev.fieldAddr (off' := 0) rfl Try.runUnderlying24 rfl Try.sizeOf3 rfl rfl) ?_
  refine Lst.run rfl rfl (by decide) (Ev.load (i := 3) rfl rfl Try.isAgg3 (v := .int .i64 a0.N) ((PosetR.get_N (Get.here _)).off (by rfl))) ?_
  obtain ⟨n21, h22, H⟩ := bind_some H
  have g23 := mkLen_some h22
  refine Lst.make (α := Int) (z0 := (0 : Int)) (k := n21) rfl rfl (by decide) (congrArg some (congrArg (Value.int .i64) g23.1)) (congrArg some (congrArg (Value.int .i64) g23.1)) Try.runUnderlying34 Try.typeInfo3 rfl rfl rfl rfl rfl g23.2 rfl (fun s24 => ?_)
  refine Lst.run rfl rfl (by decide) (Ev.assign rfl) ?_
  refine Lst.nil ?_
  refine At.then ?_
  refine Cd.seq ?_
  refine Cd.as (e' := [(1, .pointer (some ⟨b1, 0, none⟩)), (4, Sl.v s7), (6, .pointer (some ⟨b19, 0, none⟩)), (7, Sl.v s24)]) (L' := (.own s24 3 1 (encs (List.replicate n21 (0 : Int)))) :: (.blk b19 (enc r15) 89) :: (.own s7 3 1 (encs r5.1)) :: (.own Sl.nil 34 1 (encs ([] : List (LR Int)))) :: (.blk b1 (enc (PosetR.mk a0 s_a0_1)) 24) :: L) ⟨rfl, rfl, rfl, rfl, trivial⟩ rfl ?_
  refine Cd.region ?_
  have ha28m : List.map LR.v ([] : List (LR Int)) = ([] : List (List Int)) := rfl
  refine Lst.addNil 34 1 ?_
  refine Lst.rowsNil Int 3 0 ?_
  refine Lst.its (L' := (.rows (α := Int) 3 ([] : List (LR Int))) :: (.own Sl.nil 34 1 (encs ([] : List (LR Int)))) :: (.own s24 3 1 (encs (List.replicate n21 (0 : Int)))) :: (.blk b19 (enc r15) 89) :: (.own s7 3 1 (encs r5.1)) :: (.own Sl.nil 34 1 (encs ([] : List (LR Int)))) :: (.blk b1 (enc (PosetR.mk a0 s_a0_1)) 24) :: L) rfl ?_
  refine Lst.run rfl rfl (by decide) (Ev.assign rfl) ?_
  refine Lst.nil ?_
  refine At.then ?_
  refine Cd.seq ?_
  refine Cd.seq ?_
  refine Cd.region ?_
  refine Lst.run rfl rfl (by decide) (Ev.move rfl) ?_
  refine Lst.run rfl rfl (by decide) (Ev.lenS (α := Int) (xs := r5.1) (by decide) rfl rfl Try.runUnderlying34 (Rd.own (i := 4) rfl rfl rfl)) ?_
  refine Lst.run rfl rfl (by decide) (Ev.move rfl) ?_
  refine Lst.nil ?_
  refine At.then ?_
  refine Cd.block ?_
  refine Cd.bound (Rd.le (α := Int) (xs := r5.1) (by decide) (Rd.own (i := 4) rfl rfl rfl)) (fun hN108 => ?_)
  obtain ⟨ol29, H, HKl29⟩ := bind_some H
  refine Cd.loop (σ := Nat × Nat × (List Int)) (fun (i29, k29, l30) => [(1, .pointer (some ⟨b1, 0, none⟩)), (6, .pointer (some ⟨b19, 0, none⟩)), (7, Sl.v s24), (8, Sl.v Sl.nil), (27, Sl.v s7), (28, .int .i64 (r5.1.length : Int)), (29, .int .i64 (i29 : Int))]) (fun (i29, k29, l30) => (.rows (α := Int) 3 ([] : List (LR Int))) :: (.own Sl.nil 34 1 (encs ([] : List (LR Int)))) :: (.own s24 3 1 (encs l30)) :: (.blk b19 (enc r15) 89) :: (.own s7 3 1 (encs r5.1)) :: (.own Sl.nil 34 1 (encs ([] : List (LR Int)))) :: (.blk b1 (enc (PosetR.mk a0 s_a0_1)) 24) :: L) (fun _ => (fun (i29, k29, l30) => rangeF (poset_Levels_B0 a0 r5 r15) k29 i29 l30 = some ol29 ∧ i29 + k29 = r5.1.length)) (fun (i29, k29, l30) => k29) (0, r5.1.length, (List.replicate n21 (0 : Int))) ⟨rfl, rfl, rfl, rfl, rfl, rfl, rfl, trivial⟩ rfl ⟨H, by omega⟩ ?_
  rintro F31 ⟨i29, k29, l30⟩ hF32 ⟨H, hik29⟩
  refine Cd.as (e' := [(1, .pointer (some ⟨b1, 0, none⟩)), (6, .pointer (some ⟨b19, 0, none⟩)), (7, Sl.v s24), (8, Sl.v Sl.nil), (27, Sl.v s7), (28, .int .i64 (r5.1.length : Int)), (29, .int .i64 (i29 : Int))]) (L' := (.rows (α := Int) 3 ([] : List (LR Int))) :: (.own Sl.nil 34 1 (encs ([] : List (LR Int)))) :: (.own s24 3 1 (encs l30)) :: (.blk b19 (enc r15) 89) :: (.own s7 3 1 (encs r5.1)) :: (.own Sl.nil 34 1 (encs ([] : List (LR Int)))) :: (.blk b1 (enc (PosetR.mk a0 s_a0_1)) 24) :: L) ⟨rfl, rfl, rfl, rfl, rfl, rfl, rfl, trivial⟩ rfl ?_
  rcases k29 with _ | k29
  · have hc29 : decide ((i29 : Int) < (r5.1.length : Int)) = false := decide_eq_false (by omega)
    replace H := rangeF_end H
    refine Cd.seq ?_
    refine Cd.region ?_
    refine Lst.run rfl rfl (by decide) (Ev.lss rfl rfl) ?_
    refine Lst.nil ?_
    refine At.then ?_
    refine Cd.seq ?_
    refine Cd.condF rfl hc29 ?_
    refine Cd.exit ?_
    refine At.then_exit ?_
    refine At.then_exit ?_
    refine At.in_exit ?_
    subst H
    replace H := HKl29
    refine At.then ?_
    refine Cd.seq ?_
    refine Cd.seq ?_
    refine Cd.region ?_
    refine Lst.run rfl rfl (by decide) (Ev.move rfl) ?_
    refine Lst.run rfl rfl (by decide) (Ev.lenS (α := Int) (xs := l30) (by decide) rfl rfl Try.runUnderlying34 (Rd.own (i := 2) rfl rfl rfl)) ?_
    refine Lst.run rfl rfl (by decide) (Ev.move rfl) ?_
    refine Lst.nil ?_
    refine At.then ?_
    refine Cd.block ?_
    refine Cd.bound (Rd.le (α := Int) (xs := l30) (by decide) (Rd.own (i := 2) rfl rfl rfl)) (fun hN107 => ?_)
    obtain ⟨ol60, H, HKl60⟩ := bind_some H
    refine Cd.loop (σ := Nat × Nat × Sl × (List (List Int)) × (List (LR Int))) (fun (i60, k60, s61, l62, rs63) => [(8, Sl.v s61), (58, Sl.v s24), (59, .int .i64 (l30.length : Int)), (60, .int .i64 (i60 : Int))]) (fun (i60, k60, s61, l62, rs63) => (.rows (α := Int) 3 rs63) :: (.own s61 34 1 (encs rs63)) :: (.own s24 3 1 (encs l30)) :: (.blk b19 (enc r15) 89) :: (.own s7 3 1 (encs r5.1)) :: (.own Sl.nil 34 1 (encs ([] : List (LR Int)))) :: (.blk b1 (enc (PosetR.mk a0 s_a0_1)) 24) :: L) (fun Fx => (fun (i60, k60, s61, l62, rs63) => rangeF (poset_Levels_B4 fu l30) k60 i60 l62 = some ol60 ∧ i60 + k60 = l30.length ∧ rs63.map LR.v = l62)) (fun (i60, k60, s61, l62, rs63) => k60) (0, l30.length, Sl.nil, ([] : List (List Int)), ([] : List (LR Int))) ⟨rfl, rfl, rfl, rfl, trivial⟩ rfl ⟨H, by omega, ha28m⟩ ?_
    rintro F65 ⟨i60, k60, s61, l62, rs63⟩ hF66 ⟨H, hik60, fm64⟩
    refine Cd.as (e' := [(8, Sl.v s61), (58, Sl.v s24), (59, .int .i64 (l30.length : Int)), (60, .int .i64 (i60 : Int))]) (L' := (.rows (α := Int) 3 rs63) :: (.own s61 34 1 (encs rs63)) :: (.own s24 3 1 (encs l30)) :: (.blk b19 (enc r15) 89) :: (.own s7 3 1 (encs r5.1)) :: (.own Sl.nil 34 1 (encs ([] : List (LR Int)))) :: (.blk b1 (enc (PosetR.mk a0 s_a0_1)) 24) :: L) ⟨rfl, rfl, rfl, rfl, trivial⟩ rfl ?_
    rcases k60 with _ | k60
    · have hc60 : decide ((i60 : Int) < (l30.length : Int)) = false := decide_eq_false (by omega)
      replace H := rangeF_end H
      refine Cd.seq ?_
      refine Cd.region ?_
      refine Lst.run rfl rfl (by decide) (Ev.lss rfl rfl) ?_
      refine Lst.nil ?_
      refine At.then ?_
      refine Cd.seq ?_
      refine Cd.condF rfl hc60 ?_
      refine Cd.exit ?_
      refine At.then_exit ?_
      refine At.then_exit ?_
      refine At.in_exit ?_
      subst H
      replace H := HKl60
      refine At.then ?_
      refine Cd.seq ?_
      refine Cd.region ?_
      refine Lst.run rfl rfl (by decide) (Ev.move rfl) ?_
      refine Lst.run rfl rfl (by decide) (Ev.assign rfl) ?_
      refine Lst.run rfl rfl (by decide) (Ev.assign rfl) ?_
      refine Lst.nil ?_
      refine At.then ?_
      obtain rfl := some_inj H
      refine Cd.ret ?_
      exact At.ret2 rfl (Res.tmp rfl) (Res.tmp rfl) (FLe.trans (FLe.trans hF10 hF32) hF66) (List.Sublist.cons_cons _ (List.Sublist.cons_cons _ (List.Sublist.cons _ (List.Sublist.cons _ (List.Sublist.cons _ (List.Sublist.cons _ (List.Sublist.cons _ (List.Sublist.refl _)))))))) ⟨s61, rs63, rfl, rfl, fm64⟩
    have hc60 : decide ((i60 : Int) < (l30.length : Int)) = true := decide_eq_true (by omega)
    obtain ⟨c60, H, hgo60⟩ := rangeF_go H
    unfold poset_Levels_B4 at H
    try dsimp only at H
    refine Cd.seq ?_
    refine Cd.region ?_
    refine Lst.run rfl rfl (by decide) (Ev.lss rfl rfl) ?_
    refine Lst.nil ?_
    refine At.then ?_
    refine Cd.seq ?_
    refine Cd.condT rfl hc60 ?_
    refine Cd.skip ?_
    refine At.then ?_
    refine Cd.seq ?_
    refine Cd.block ?_
    refine Cd.seq ?_
    refine Cd.region ?_
    refine Lst.run rfl rfl (by decide) (Ev.move rfl) ?_
    obtain ⟨x67, h68, H⟩ := bind_some H
    have g69 := lat_some h68
    refine Lst.run rfl rfl (by decide) (Ev.indexS (α := Int) (xs := l30) rfl rfl Try.runUnderlying34 Try.sizeOf3 rfl (by decide) (Rd.own (i := 2) rfl rfl rfl) g69.1 g69.2.1) ?_
    refine Lst.run rfl rfl (by decide) (Ev.loadS (α := Int) rfl (Rd.own (i := 2) rfl rfl rfl) Try.isAgg3 (v := .int .i64 x67) ((Get.elemN (s := 1) (x := x67) rfl g69.2.2 (Get.here _)).off (by omega))) ?_
    refine Lst.run rfl rfl (by decide) (Ev.assign rfl) ?_
    refine Lst.run rfl rfl (by decide) (Ev.assign rfl) ?_
    refine Lst.nil ?_
    refine At.then ?_
    refine Cd.seq ?_
    refine Cd.block ?_
    obtain ⟨ol70, H, HKl70⟩ := andThen_some H
    refine Cd.loop (σ := Nat × Sl × (List (List Int)) × (List (LR Int))) (fun (k70, s71, l72, rs73) => [(8, Sl.v s71), (12, .int .i64 (i60 : Int)), (13, .int .i64 x67), (58, Sl.v s24), (59, .int .i64 (l30.length : Int)), (60, .int .i64 (i60 : Int))]) (fun (k70, s71, l72, rs73) => (.rows (α := Int) 3 rs73) :: (.own s71 34 1 (encs rs73)) :: (.own s24 3 1 (encs l30)) :: (.blk b19 (enc r15) 89) :: (.own s7 3 1 (encs r5.1)) :: (.own Sl.nil 34 1 (encs ([] : List (LR Int)))) :: (.blk b1 (enc (PosetR.mk a0 s_a0_1)) 24) :: L) (fun Fx => (fun (k70, s71, l72, rs73) => whileM (poset_Levels_B6 x67) k70 l72 = some ol70 ∧ rs73.map LR.v = l72)) (fun (k70, s71, l72, rs73) => k70) (fu, s61, l62, rs63) ⟨rfl, rfl, rfl, rfl, rfl, rfl, trivial⟩ rfl ⟨H, fm64⟩ ?_
    rintro F75 ⟨k70, s71, l72, rs73⟩ hF76 ⟨H, fm74⟩
    refine Cd.as (e' := [(8, Sl.v s71), (12, .int .i64 (i60 : Int)), (13, .int .i64 x67), (58, Sl.v s24), (59, .int .i64 (l30.length : Int)), (60, .int .i64 (i60 : Int))]) (L' := (.rows (α := Int) 3 rs73) :: (.own s71 34 1 (encs rs73)) :: (.own s24 3 1 (encs l30)) :: (.blk b19 (enc r15) 89) :: (.own s7 3 1 (encs r5.1)) :: (.own Sl.nil 34 1 (encs ([] : List (LR Int)))) :: (.blk b1 (enc (PosetR.mk a0 s_a0_1)) 24) :: L) ⟨rfl, rfl, rfl, rfl, rfl, rfl, trivial⟩ rfl ?_
    rcases k70 with _ | k70
    · cases H
    obtain ⟨c70, H, hgo70, hbrk70, hret70⟩ := whileM_go H
    unfold poset_Levels_B6 at H
    try dsimp only at H
    refine Cd.seq ?_
    refine Cd.seq ?_
    refine Cd.region ?_
    refine Lst.run rfl rfl (by decide) (Ev.move rfl) ?_
    refine Lst.run rfl rfl (by decide) (Ev.lenM (map_len fm74) (Ev.lenS (α := LR Int) (xs := rs73) (by decide) rfl rfl Try.runUnderlying56 (Rd.own (i := 1) rfl rfl rfl))) ?_
    refine Lst.run rfl rfl (by decide) (Ev.move rfl) ?_
    refine Lst.run rfl rfl (by decide) (Ev.leq rfl rfl) ?_
    refine Lst.nil ?_
    refine At.then ?_
    rcases (Bool.eq_false_or_eq_true (decide ((l72.length : Int) ≤ x67))).symm with hb78 | hb78
    · replace H := ite_f hb78 H
      refine Cd.condF rfl hb78 ?_
      refine Cd.exit ?_
      refine At.then_exit ?_
      refine At.then_exit ?_
      refine At.in_exit ?_
      have H := hbrk70 _ (some_inj H).symm
      subst H
      replace H := HKl70
      refine At.then ?_
      refine Cd.region ?_
      refine Lst.run rfl rfl (by decide) (Ev.move rfl) ?_
      refine Lst.run rfl rfl (by decide) (Ev.move rfl) ?_
      refine Lst.run rfl rfl (by decide) (Ev.move rfl) ?_
      refine Lst.run rfl rfl (by decide) (Ev.move rfl) ?_
      obtain ⟨x79, h80, H⟩ := bind_some H
      have g81 := lat_some h80
      obtain ⟨⟨r82v, r82h⟩, r82g, r82e, r82m⟩ := map_get fm74 g81.2.2
      obtain rfl : x79 = r82v := r82e.symm
      have hh83 := row_h r82g
      refine Lst.run rfl rfl (by decide) (Ev.indexS (α := LR Int) (xs := rs73) rfl rfl Try.runUnderlying56 Try.sizeOf34 rfl (by decide) (Rd.own (i := 1) rfl rfl rfl) g81.1 (by have := map_len fm74; omega)) ?_
      refine Lst.run rfl rfl (by decide) (Ev.loadS (α := LR Int) rfl (Rd.own (i := 1) rfl rfl rfl) Try.isAgg34 (v := Sl.v r82h) ((Get.elemN (s := 1) rfl r82g (Get.here _)).off (by omega))) ?_
      refine Lst.run rfl rfl (by decide) (Ev.move rfl) ?_
      refine Lst.buildSlice (α := Int) (xs := ([(i60 : Int)] : List Int)) (pv := [(0, .int .i64 (i60 : Int))]) rfl rfl (by decide) ⟨rfl, rfl, trivial⟩ (run_buildSlice (α := Int) (z0 := (0 : Int)) (xs := ([(i60 : Int)] : List Int)) Try.runUnderlying34 Try.sizeOf3 Try.zeroValue3 rfl rfl rfl (by decide) rfl (fill_cons (cs := encs (List.replicate 1 (0 : Int))) (cs' := encs ((List.replicate 1 (0 : Int)).set 0 (i60 : Int))) (vs := [.int .i64 (i60 : Int)]) rfl rfl rfl ((Put.elemN (s := 1) (i := 0) (x := (0 : Int)) (y := (i60 : Int)) rfl rfl (Put.here (vs := [.int .i64 (i60 : Int)]) rfl)).off rfl) fill_nil)) rfl rfl (by decide) (fun s84 _ => ?_)
      refine Lst.front (i := 1) rfl (L' := (.rows (α := Int) 3 rs73) :: (.own s84 3 1 (encs ([(i60 : Int)] : List Int))) :: (.own s71 34 1 (encs rs73)) :: (.own s24 3 1 (encs l30)) :: (.blk b19 (enc r15) 89) :: (.own s7 3 1 (encs r5.1)) :: (.own Sl.nil 34 1 (encs ([] : List (LR Int)))) :: (.blk b1 (enc (PosetR.mk a0 s_a0_1)) 24) :: L) rfl ?_
      refine Lst.rowOut (k := x67.toNat) r82g rfl ?_
      refine Lst.its (L' := (.own r82h 3 1 (encs x79)) :: (.rows (α := Int) 3 (rs73.set x67.toNat ⟨[], Sl.nil⟩)) :: (.own s84 3 1 (encs ([(i60 : Int)] : List Int))) :: (.own s71 34 1 (encs rs73)) :: (.own s24 3 1 (encs l30)) :: (.blk b19 (enc r15) 89) :: (.own s7 3 1 (encs r5.1)) :: (.own Sl.nil 34 1 (encs ([] : List (LR Int)))) :: (.blk b1 (enc (PosetR.mk a0 s_a0_1)) 24) :: L) rfl ?_
      obtain ⟨u87, h88, H⟩ := bind_some H
      refine Lst.append (i := 0) (α := Int) (xs := x79) (ys := ([(i60 : Int)] : List Int)) rfl rfl (by decide) rfl rfl Try.runUnderlying34 Try.typeInfo3 rfl rfl rfl rfl rfl rfl (Rd.own (i := 2) rfl rfl rfl) rfl (room_some h88) rfl (fun s89 => ?_)
      refine Lst.its (L' := (.own s89 3 1 (encs (x79 ++ ([(i60 : Int)] : List Int)))) :: (.rows (α := Int) 3 (rs73.set x67.toNat ⟨[], Sl.nil⟩)) :: (.own s84 3 1 (encs ([(i60 : Int)] : List Int))) :: (.own s71 34 1 (encs rs73)) :: (.own s24 3 1 (encs l30)) :: (.blk b19 (enc r15) 89) :: (.own s7 3 1 (encs r5.1)) :: (.own Sl.nil 34 1 (encs ([] : List (LR Int)))) :: (.blk b1 (enc (PosetR.mk a0 s_a0_1)) 24) :: L) rfl ?_
      obtain ⟨x90, h91, H⟩ := bind_some H
      have g92 := lat_some h91
      obtain ⟨⟨r93v, r93h⟩, r93g, r93e, r93m⟩ := map_get fm74 g92.2.2
      obtain rfl : x90 = r93v := r93e.symm
      have hh94 := row_h r93g
      refine Lst.run rfl rfl (by decide) (Ev.indexS (α := LR Int) (xs := rs73) rfl rfl Try.runUnderlying56 Try.sizeOf34 rfl (by decide) (Rd.own (i := 3) rfl rfl rfl) g92.1 (by have := map_len fm74; omega)) ?_
      obtain ⟨p95, h96, H⟩ := Let_some H
      have hm97 : (rs73.set x67.toNat (LR.mk (x79 ++ ([(i60 : Int)] : List Int)) s89)).map LR.v = p95 := (map_set fm74 _ _).trans h96
      refine Lst.storeS (i := 3) rfl rfl rfl rfl rfl Try.sizeOf34 (vs := [Sl.v s89]) rfl rfl (by decide) rfl (xs' := encs (rs73.set x67.toNat (LR.mk (x79 ++ ([(i60 : Int)] : List Int)) s89))) ((Put.elemN (s := 1) (y := (LR.mk (x79 ++ ([(i60 : Int)] : List Int)) s89)) rfl r93g (Put.here (vs := [Sl.v s89]) rfl)).off (by omega)) (L' := (.own s89 3 1 (encs (x79 ++ ([(i60 : Int)] : List Int)))) :: (.rows (α := Int) 3 (rs73.set x67.toNat ⟨[], Sl.nil⟩)) :: (.own s84 3 1 (encs ([(i60 : Int)] : List Int))) :: (.own s71 34 1 (encs (rs73.set x67.toNat (LR.mk (x79 ++ ([(i60 : Int)] : List Int)) s89)))) :: (.own s24 3 1 (encs l30)) :: (.blk b19 (enc r15) 89) :: (.own s7 3 1 (encs r5.1)) :: (.own Sl.nil 34 1 (encs ([] : List (LR Int)))) :: (.blk b1 (enc (PosetR.mk a0 s_a0_1)) 24) :: L) rfl ?_
      refine Lst.rowIn (k := x67.toNat) (by rw [List.getElem?_set_self (List.getElem?_eq_some_iff.1 r93g).1]) rfl ?_
      refine Lst.its (L' := (.rows (α := Int) 3 (rs73.set x67.toNat (LR.mk (x79 ++ ([(i60 : Int)] : List Int)) s89))) :: (.own s84 3 1 (encs ([(i60 : Int)] : List Int))) :: (.own s71 34 1 (encs (rs73.set x67.toNat (LR.mk (x79 ++ ([(i60 : Int)] : List Int)) s89)))) :: (.own s24 3 1 (encs l30)) :: (.blk b19 (enc r15) 89) :: (.own s7 3 1 (encs r5.1)) :: (.own Sl.nil 34 1 (encs ([] : List (LR Int)))) :: (.blk b1 (enc (PosetR.mk a0 s_a0_1)) 24) :: L) (by rw [List.set_set]) ?_
      refine Lst.nil ?_
      refine At.in_normal ?_
      refine At.then ?_
      refine Cd.as (e' := [(8, Sl.v s71), (58, Sl.v s24), (59, .int .i64 (l30.length : Int)), (60, .int .i64 (i60 : Int))]) (L' := (.rows (α := Int) 3 (rs73.set x67.toNat (LR.mk (x79 ++ ([(i60 : Int)] : List Int)) s89))) :: (.own s84 3 1 (encs ([(i60 : Int)] : List Int))) :: (.own s71 34 1 (encs (rs73.set x67.toNat (LR.mk (x79 ++ ([(i60 : Int)] : List Int)) s89)))) :: (.own s24 3 1 (encs l30)) :: (.blk b19 (enc r15) 89) :: (.own s7 3 1 (encs r5.1)) :: (.own Sl.nil 34 1 (encs ([] : List (LR Int)))) :: (.blk b1 (enc (PosetR.mk a0 s_a0_1)) 24) :: L) ⟨rfl, rfl, rfl, rfl, trivial⟩ rfl ?_
      refine Cd.region ?_
      refine Lst.run rfl rfl (by decide) (Ev.incr (by omega) rfl rfl) ?_
      refine Lst.run rfl rfl (by decide) (Ev.move rfl) ?_
      refine Lst.nil ?_
      refine At.less (L' := (.rows (α := Int) 3 (rs73.set x67.toNat (LR.mk (x79 ++ ([(i60 : Int)] : List Int)) s89))) :: (.own s71 34 1 (encs (rs73.set x67.toNat (LR.mk (x79 ++ ([(i60 : Int)] : List Int)) s89)))) :: (.own s24 3 1 (encs l30)) :: (.blk b19 (enc r15) 89) :: (.own s7 3 1 (encs r5.1)) :: (.own Sl.nil 34 1 (encs ([] : List (LR Int)))) :: (.blk b1 (enc (PosetR.mk a0 s_a0_1)) 24) :: L) (List.Sublist.cons_cons _ (List.Sublist.cons _ (List.Sublist.cons_cons _ (List.Sublist.cons_cons _ (List.Sublist.cons_cons _ (List.Sublist.cons_cons _ (List.Sublist.cons_cons _ (List.Sublist.cons_cons _ (List.Sublist.refl _))))))))) ?_
      exact At.meet (i60 + 1, k60, s71, p95, (rs73.set x67.toNat (LR.mk (x79 ++ ([(i60 : Int)] : List Int)) s89))) (FLe.trans hF66 hF76) ⟨rfl, rfl, rfl, rfl, trivial⟩ rfl ⟨⟨hgo60 _ (some_inj H).symm, by omega, hm97⟩, Nat.lt_succ_self _⟩
    replace H := ite_t hb78 H
    refine Cd.condT rfl hb78 ?_
    refine Cd.skip ?_
    refine At.then ?_
    refine Cd.block ?_
    refine Cd.region ?_
    refine Lst.run rfl rfl (by decide) (Ev.move rfl) ?_
    have hm100 : ([(LR.mk [] Sl.nil)] : List (LR Int)).map LR.v = ([[]] : List (List Int)) := rfl
    refine Lst.buildSlice (α := LR Int) (xs := ([(LR.mk [] Sl.nil)] : List (LR Int))) (pv := [(0, Sl.v Sl.nil)]) rfl rfl (by decide) ⟨rfl, rfl, trivial⟩ (run_buildSlice (α := LR Int) (z0 := ((LR.mk [] Sl.nil) : LR Int)) (xs := ([(LR.mk [] Sl.nil)] : List (LR Int))) Try.runUnderlying56 Try.sizeOf34 Try.zeroValue34 rfl rfl rfl (by decide) rfl (fill_cons (cs := encs (List.replicate 1 ((LR.mk [] Sl.nil) : LR Int))) (cs' := encs ((List.replicate 1 ((LR.mk [] Sl.nil) : LR Int)).set 0 (LR.mk [] Sl.nil))) (vs := [Sl.v Sl.nil]) rfl rfl rfl ((Put.elemN (s := 1) (i := 0) (x := ((LR.mk [] Sl.nil) : LR Int)) (y := (LR.mk [] Sl.nil)) rfl rfl (Put.here (vs := [Sl.v Sl.nil]) rfl)).off rfl) fill_nil)) rfl rfl (by decide) (fun s98 _ => ?_)
    refine Lst.rowsNil Int 3 0 ?_
    refine Lst.addNil 3 1 ?_
    refine Lst.rowEnd (α := Int) (xs := ([] : List Int)) (s := Sl.nil) rfl ?_
    refine Lst.its (L' := (.rows (α := Int) 3 ([(LR.mk [] Sl.nil)] : List (LR Int))) :: (.own s98 34 1 (encs ([(LR.mk [] Sl.nil)] : List (LR Int)))) :: (.rows (α := Int) 3 rs73) :: (.own s71 34 1 (encs rs73)) :: (.own s24 3 1 (encs l30)) :: (.blk b19 (enc r15) 89) :: (.own s7 3 1 (encs r5.1)) :: (.own Sl.nil 34 1 (encs ([] : List (LR Int)))) :: (.blk b1 (enc (PosetR.mk a0 s_a0_1)) 24) :: L) rfl ?_
    obtain ⟨u102, h103, H⟩ := bind_some H
    have hm105 : (rs73 ++ ([(LR.mk [] Sl.nil)] : List (LR Int))).map LR.v = l72 ++ ([[]] : List (List Int)) := map_app fm74 hm100
    refine Lst.append (i := 3) (α := LR Int) (xs := rs73) (ys := ([(LR.mk [] Sl.nil)] : List (LR Int))) rfl rfl (by decide) rfl rfl Try.runUnderlying56 Try.typeInfo34 rfl rfl rfl rfl rfl rfl (Rd.own (i := 1) rfl rfl rfl) rfl (by have := room_some h103; have := map_len fm74; have := map_len hm100; omega) rfl (fun s104 => ?_)
    refine Lst.its (L' := (.rows (α := Int) 3 ([(LR.mk [] Sl.nil)] : List (LR Int))) :: (.own s98 34 1 (encs ([(LR.mk [] Sl.nil)] : List (LR Int)))) :: (.rows (α := Int) 3 rs73) :: (.own s104 34 1 (encs (rs73 ++ ([(LR.mk [] Sl.nil)] : List (LR Int))))) :: (.own s24 3 1 (encs l30)) :: (.blk b19 (enc r15) 89) :: (.own s7 3 1 (encs r5.1)) :: (.own Sl.nil 34 1 (encs ([] : List (LR Int)))) :: (.blk b1 (enc (PosetR.mk a0 s_a0_1)) 24) :: L) rfl ?_
    refine Lst.front (i := 2) rfl (L' := (.rows (α := Int) 3 rs73) :: (.rows (α := Int) 3 ([(LR.mk [] Sl.nil)] : List (LR Int))) :: (.own s98 34 1 (encs ([(LR.mk [] Sl.nil)] : List (LR Int)))) :: (.own s104 34 1 (encs (rs73 ++ ([(LR.mk [] Sl.nil)] : List (LR Int))))) :: (.own s24 3 1 (encs l30)) :: (.blk b19 (enc r15) 89) :: (.own s7 3 1 (encs r5.1)) :: (.own Sl.nil 34 1 (encs ([] : List (LR Int)))) :: (.blk b1 (enc (PosetR.mk a0 s_a0_1)) 24) :: L) rfl ?_
    refine Lst.rowsApp ?_
    refine Lst.less (L' := (.rows (α := Int) 3 (rs73 ++ ([(LR.mk [] Sl.nil)] : List (LR Int)))) :: (.own s104 34 1 (encs (rs73 ++ ([(LR.mk [] Sl.nil)] : List (LR Int))))) :: (.own s24 3 1 (encs l30)) :: (.blk b19 (enc r15) 89) :: (.own s7 3 1 (encs r5.1)) :: (.own Sl.nil 34 1 (encs ([] : List (LR Int)))) :: (.blk b1 (enc (PosetR.mk a0 s_a0_1)) 24) :: L) (List.Sublist.cons_cons _ (List.Sublist.cons _ (List.Sublist.cons_cons _ (List.Sublist.cons_cons _ (List.Sublist.cons_cons _ (List.Sublist.cons_cons _ (List.Sublist.cons_cons _ (List.Sublist.cons_cons _ (List.Sublist.refl _))))))))) ?_
    refine Lst.its (L' := (.rows (α := Int) 3 (rs73 ++ ([(LR.mk [] Sl.nil)] : List (LR Int)))) :: (.own s104 34 1 (encs (rs73 ++ ([(LR.mk [] Sl.nil)] : List (LR Int))))) :: (.own s24 3 1 (encs l30)) :: (.blk b19 (enc r15) 89) :: (.own s7 3 1 (encs r5.1)) :: (.own Sl.nil 34 1 (encs ([] : List (LR Int)))) :: (.blk b1 (enc (PosetR.mk a0 s_a0_1)) 24) :: L) rfl ?_
    refine Lst.run rfl rfl (by decide) (Ev.assign rfl) ?_
    refine Lst.nil ?_
    refine At.in_normal ?_
    exact At.meet (k70, s104, l72 ++ ([[]] : List (List Int)), (rs73 ++ ([(LR.mk [] Sl.nil)] : List (LR Int)))) hF76 ⟨rfl, rfl, rfl, rfl, rfl, rfl, trivial⟩ rfl ⟨⟨hgo70 _ (some_inj H).symm, hm105⟩, Nat.lt_succ_self _⟩
  have hc29 : decide ((i29 : Int) < (r5.1.length : Int)) = true := decide_eq_true (by omega)
  obtain ⟨c29, H, hgo29⟩ := rangeF_go H
  unfold poset_Levels_B0 at H
  try dsimp only at H
  refine Cd.seq ?_
  refine Cd.region ?_
  refine Lst.run rfl rfl (by decide) (Ev.lss rfl rfl) ?_
  refine Lst.nil ?_
  refine At.then ?_
  refine Cd.seq ?_
  refine Cd.condT rfl hc29 ?_
  refine Cd.skip ?_
  refine At.then ?_
  refine Cd.seq ?_
  refine Cd.block ?_
  refine Cd.seq ?_
  refine Cd.region ?_
  obtain ⟨x33, h34, H⟩ := bind_some H
  have g35 := lat_some h34
  refine Lst.run rfl rfl (by decide) (Ev.indexS (α := Int) (xs := r5.1) rfl rfl Try.runUnderlying34 Try.sizeOf3 rfl (by decide) (Rd.own (i := 4) rfl rfl rfl) g35.1 g35.2.1) ?_
  refine Lst.run rfl rfl (by decide) (Ev.loadS (α := Int) rfl (Rd.own (i := 4) rfl rfl rfl) Try.isAgg3 (v := .int .i64 x33) ((Get.elemN (s := 1) (x := x33) rfl g35.2.2 (Get.here _)).off (by omega))) ?_
  refine Lst.run rfl rfl (by decide) (Ev.assign rfl) ?_
  refine Lst.nil ?_
  refine At.then ?_
  refine Cd.seq ?_
  refine Cd.region ?_
  refine Lst.run rfl rfl (by decide) (Ev.fieldAddr (off' := 0) rfl Try.runUnderlying24 rfl Try.sizeOf3 rfl rfl) ?_
  refine Lst.run rfl rfl (by decide) (Ev.load (i := 6) rfl rfl Try.isAgg3 (v := .int .i64 a0.N) ((PosetR.get_N (Get.here _)).off (by rfl))) ?_
  refine Lst.run rfl rfl (by decide) (Ev.move rfl) ?_
  refine Lst.nil ?_
  refine At.then ?_
  refine Cd.block ?_
  obtain ⟨nn40, hN59, H⟩ := bind_some H
  replace hN59 := upTo_some hN59
  obtain ⟨ol36, H, HKl36⟩ := bind_some H
  refine Cd.loop (σ := Nat × Nat × (List Int)) (fun (i36, k36, l37) => [(1, .pointer (some ⟨b1, 0, none⟩)), (6, .pointer (some ⟨b19, 0, none⟩)), (7, Sl.v s24), (8, Sl.v Sl.nil), (10, .int .i64 x33), (27, Sl.v s7), (28, .int .i64 (r5.1.length : Int)), (29, .int .i64 (i29 : Int)), (34, .int .i64 a0.N), (35, .int .i64 (i36 : Int))]) (fun (i36, k36, l37) => (.rows (α := Int) 3 ([] : List (LR Int))) :: (.own Sl.nil 34 1 (encs ([] : List (LR Int)))) :: (.own s24 3 1 (encs l37)) :: (.blk b19 (enc r15) 89) :: (.own s7 3 1 (encs r5.1)) :: (.own Sl.nil 34 1 (encs ([] : List (LR Int)))) :: (.blk b1 (enc (PosetR.mk a0 s_a0_1)) 24) :: L) (fun _ => (fun (i36, k36, l37) => rangeF (poset_Levels_B2 r15 x33) k36 i36 l37 = some ol36 ∧ i36 + k36 = nn40)) (fun (i36, k36, l37) => k36) (0, nn40, l30) ⟨rfl, rfl, rfl, rfl, rfl, rfl, rfl, rfl, rfl, rfl, trivial⟩ rfl ⟨H, by omega⟩ ?_
  rintro F38 ⟨i36, k36, l37⟩ hF39 ⟨H, hik36⟩
  refine Cd.as (e' := [(1, .pointer (some ⟨b1, 0, none⟩)), (6, .pointer (some ⟨b19, 0, none⟩)), (7, Sl.v s24), (8, Sl.v Sl.nil), (10, .int .i64 x33), (27, Sl.v s7), (28, .int .i64 (r5.1.length : Int)), (29, .int .i64 (i29 : Int)), (34, .int .i64 a0.N), (35, .int .i64 (i36 : Int))]) (L' := (.rows (α := Int) 3 ([] : List (LR Int))) :: (.own Sl.nil 34 1 (encs ([] : List (LR Int)))) :: (.own s24 3 1 (encs l37)) :: (.blk b19 (enc r15) 89) :: (.own s7 3 1 (encs r5.1)) :: (.own Sl.nil 34 1 (encs ([] : List (LR Int)))) :: (.blk b1 (enc (PosetR.mk a0 s_a0_1)) 24) :: L) ⟨rfl, rfl, rfl, rfl, rfl, rfl, rfl, rfl, rfl, rfl, trivial⟩ rfl ?_
  rcases k36 with _ | k36
  · have hc36 : decide ((i36 : Int) < a0.N) = false := decide_eq_false (by omega)
    replace H := rangeF_end H
    refine Cd.seq ?_
    refine Cd.region ?_
    refine Lst.run rfl rfl (by decide) (Ev.lss rfl rfl) ?_
    refine Lst.nil ?_
    refine At.then ?_
    refine Cd.seq ?_
    refine Cd.condF rfl hc36 ?_
    refine Cd.exit ?_
    refine At.then_exit ?_
    refine At.then_exit ?_
    refine At.in_exit ?_
    subst H
    replace H := HKl36
    refine At.in_normal ?_
    refine At.then ?_
    refine Cd.region ?_
    refine Lst.run rfl rfl (by decide) (Ev.incr (by omega) rfl rfl) ?_
    refine Lst.run rfl rfl (by decide) (Ev.move rfl) ?_
    refine Lst.nil ?_
    exact At.meet (i29 + 1, k29, l37) (FLe.trans hF32 hF39) ⟨rfl, rfl, rfl, rfl, rfl, rfl, rfl, trivial⟩ rfl ⟨⟨hgo29 _ (some_inj H).symm, by omega⟩, Nat.lt_succ_self _⟩
  have hc36 : decide ((i36 : Int) < a0.N) = true := decide_eq_true (by omega)
  obtain ⟨c36, H, hgo36⟩ := rangeF_go H
  unfold poset_Levels_B2 at H
  try dsimp only at H
  refine Cd.seq ?_
  refine Cd.region ?_
  refine Lst.run rfl rfl (by decide) (Ev.lss rfl rfl) ?_
  refine Lst.nil ?_
  refine At.then ?_
  refine Cd.seq ?_
  refine Cd.condT rfl hc36 ?_
  refine Cd.skip ?_
  refine At.then ?_
  refine Cd.seq ?_
  refine Cd.block ?_
  refine Cd.seq ?_
  refine Cd.region ?_
  refine Lst.run rfl rfl (by decide) (Ev.move rfl) ?_
  refine Lst.run rfl rfl (by decide) (Ev.assign rfl) ?_
  refine Lst.nil ?_
  refine At.then ?_
  refine Cd.seq ?_
  refine Cd.region ?_
  refine Lst.run rfl rfl (by decide) (Ev.move rfl) ?_
  refine Lst.run rfl rfl (by decide) (Ev.move rfl) ?_
  obtain ⟨x41, h42, H⟩ := bind_some H
  have g43 := vat_some h42
  refine Lst.run rfl rfl (by decide) (Ev.indexAddr (off' := 0 + (i36 : Int).toNat * 20) rfl rfl Try.runUnderlying89 Try.sizeOf87 g43.1 g43.2.1 rfl) ?_
  obtain ⟨x44, h45, H⟩ := bind_some H
  have g46 := vat_some h45
  refine Lst.run rfl rfl (by decide) (Ev.indexAddr (off' := 0 + (i36 : Int).toNat * 20 + x33.toNat * 1) rfl rfl Try.runUnderlying87 Try.sizeOf4 g46.1 g46.2.1 rfl) ?_
  refine Lst.run rfl rfl (by decide) (Ev.load (i := 3) rfl rfl Try.isAgg4 (v := .bool x44) ((Get.vecN (s := 20) (x := x41) rfl g43.2.2 (Get.vecN (s := 1) (x := x44) rfl g46.2.2 (Get.here _))).off (by omega))) ?_
  refine Lst.nil ?_
  refine At.then ?_
  rcases (Bool.eq_false_or_eq_true x44).symm with hb47 | hb47
  · replace H := ite_f hb47 H
    refine Cd.condF rfl hb47 ?_
    refine Cd.skip ?_
    refine At.in_normal ?_
    refine At.then ?_
    refine Cd.region ?_
    refine Lst.run rfl rfl (by decide) (Ev.incr (by omega) rfl rfl) ?_
    refine Lst.run rfl rfl (by decide) (Ev.move rfl) ?_
    refine Lst.nil ?_
    exact At.meet (i36 + 1, k36, l37) hF39 ⟨rfl, rfl, rfl, rfl, rfl, rfl, rfl, rfl, rfl, rfl, trivial⟩ rfl ⟨⟨hgo36 _ (some_inj H).symm, by omega⟩, Nat.lt_succ_self _⟩
  replace H := ite_t hb47 H
  refine Cd.condT rfl hb47 ?_
  refine Cd.tail 13 (by kernel_rfl) (by kernel_rfl) ?_
  refine Qt.run rfl rfl (by decide) (Ev.move rfl) ?_
  refine Qt.run rfl rfl (by decide) (Ev.move rfl) ?_
  refine Qt.run rfl rfl (by decide) (Ev.move rfl) ?_
  refine Qt.run rfl rfl (by decide) (Ev.move rfl) ?_
  obtain ⟨x48, h49, H⟩ := bind_some H
  have g50 := lat_some h49
  refine Qt.run rfl rfl (by decide) (Ev.indexS (α := Int) (xs := l37) rfl rfl Try.runUnderlying34 Try.sizeOf3 rfl (by decide) (Rd.own (i := 2) rfl rfl rfl) g50.1 g50.2.1) ?_
  refine Qt.run rfl rfl (by decide) (Ev.loadS (α := Int) rfl (Rd.own (i := 2) rfl rfl rfl) Try.isAgg3 (v := .int .i64 x48) ((Get.elemN (s := 1) (x := x48) rfl g50.2.2 (Get.here _)).off (by omega))) ?_
  refine Qt.run rfl rfl (by decide) (Ev.move rfl) ?_
  refine Qt.run rfl rfl (by decide) (Ev.move rfl) ?_
  obtain ⟨x51, h52, H⟩ := bind_some H
  have g53 := lat_some h52
  refine Qt.run rfl rfl (by decide) (Ev.indexS (α := Int) (xs := l37) rfl rfl Try.runUnderlying34 Try.sizeOf3 rfl (by decide) (Rd.own (i := 2) rfl rfl rfl) g53.1 g53.2.1) ?_
  refine Qt.run rfl rfl (by decide) (Ev.loadS (α := Int) rfl (Rd.own (i := 2) rfl rfl rfl) Try.isAgg3 (v := .int .i64 x51) ((Get.elemN (s := 1) (x := x51) rfl g53.2.2 (Get.here _)).off (by omega))) ?_
  refine Qt.run rfl rfl (by decide) (Ev.add rfl rfl) ?_
  refine Qt.run rfl rfl (by decide) (Ev.max2 rfl rfl) ?_
  obtain ⟨x54, h55, H⟩ := bind_some H
  have g56 := lat_some h55
  refine Qt.run rfl rfl (by decide) (Ev.indexS (α := Int) (xs := l37) rfl rfl Try.runUnderlying34 Try.sizeOf3 rfl (by decide) (Rd.own (i := 2) rfl rfl rfl) g56.1 g56.2.1) ?_
  refine Qt.tail ?_
  obtain ⟨p57, h58, H⟩ := Let_some H
  refine Lst.storeS (i := 2) rfl rfl rfl rfl rfl Try.sizeOf3 (vs := [.int .i64 (max x48 (w64 (x51 + (1 : Int))))]) rfl rfl (by decide) rfl (xs' := encs p57) (by rw [← h58]; exact (Put.elemN (s := 1) (x := x54) rfl g56.2.2 (Put.here (vs := [.int .i64 (max x48 (w64 (x51 + (1 : Int))))]) rfl)).off (by omega)) (L' := (.rows (α := Int) 3 ([] : List (LR Int))) :: (.own Sl.nil 34 1 (encs ([] : List (LR Int)))) :: (.own s24 3 1 (encs p57)) :: (.blk b19 (enc r15) 89) :: (.own s7 3 1 (encs r5.1)) :: (.own Sl.nil 34 1 (encs ([] : List (LR Int)))) :: (.blk b1 (enc (PosetR.mk a0 s_a0_1)) 24) :: L) rfl ?_
  refine Lst.nil ?_
  refine At.in_normal ?_
  refine At.then ?_
  refine Cd.as (e' := [(1, .pointer (some ⟨b1, 0, none⟩)), (6, .pointer (some ⟨b19, 0, none⟩)), (7, Sl.v s24), (8, Sl.v Sl.nil), (10, .int .i64 x33), (27, Sl.v s7), (28, .int .i64 (r5.1.length : Int)), (29, .int .i64 (i29 : Int)), (34, .int .i64 a0.N), (35, .int .i64 (i36 : Int))]) (L' := (.rows (α := Int) 3 ([] : List (LR Int))) :: (.own Sl.nil 34 1 (encs ([] : List (LR Int)))) :: (.own s24 3 1 (encs p57)) :: (.blk b19 (enc r15) 89) :: (.own s7 3 1 (encs r5.1)) :: (.own Sl.nil 34 1 (encs ([] : List (LR Int)))) :: (.blk b1 (enc (PosetR.mk a0 s_a0_1)) 24) :: L) ⟨rfl, rfl, rfl, rfl, rfl, rfl, rfl, rfl, rfl, rfl, trivial⟩ rfl ?_
  refine Cd.region ?_
  refine Lst.run rfl rfl (by decide) (Ev.incr (by omega) rfl rfl) ?_
  refine Lst.run rfl rfl (by decide) (Ev.move rfl) ?_
  refine Lst.nil ?_
  exact At.meet (i36 + 1, k36, p57) hF39 ⟨rfl, rfl, rfl, rfl, rfl, rfl, rfl, rfl, rfl, rfl, trivial⟩ rfl ⟨⟨hgo36 _ (some_inj H).symm, by omega⟩, Nat.lt_succ_self _⟩
set_option maxRecDepth 20000 in
theorem poset_Check_sim {a0 : Poset} {s_a0_1 : Sl} {r : Int} (H : poset_Check a0 = some r) (w0 : World) (F : Frz) (M L : List Item) (hM : M.Sublist L) (hs_a0_1 : Rd w0 F M s_a0_1 a0.Pairs) : Ok Try.prog w0 28 [.agg (enc (PosetR.mk a0 s_a0_1)).toArray] F (L) (Is (.int .i64 r) (L)) := by
  unfold poset_Check at H
  refine Ok.enter (m := 1) (n := 11) Try.func28 rfl rfl rfl (by decide) ?_
  refine Cd.env (e' := [(0, .agg (enc (PosetR.mk a0 s_a0_1)).toArray)]) rfl ?_
  refine Cd.seq ?_
  refine Cd.region ?_
  refine Lst.box rfl rfl (by decide) rfl (cs := enc (PosetR.mk a0 s_a0_1)) rfl (fun b1 => ?_)
  refine Lst.run rfl rfl (by decide) (Ev.assign rfl) ?_
  refine Lst.nil ?_
  refine At.then ?_
  refine Cd.seq ?_
  refine Cd.region ?_
  refine Lst.run rfl rfl (by decide) (Ev.loadA (i := 0) rfl rfl Try.isAgg24 Try.sizeOf24 (ch := enc (PosetR.mk a0 s_a0_1)) (Enc.len _) (Get.here _)) ?_
  obtain ⟨r3, h4, H⟩ := bind_some H
  refine Lst.call1 rfl rfl (by decide) (vs := [.agg (enc (PosetR.mk a0 s_a0_1)).toArray]) ⟨rfl, trivial⟩ Try.call53 (poset_check_sim h4 w0 _ M _ (List.Sublist.cons _ hM) (hs_a0_1.mono (FLe.refl _) (List.Sublist.refl _))) ?_
  refine Lst.run rfl rfl (by decide) (Ev.move rfl) ?_
  refine Lst.run rfl rfl (by decide) (Ev.extract rfl rfl) ?_
  refine Lst.run rfl rfl (by decide) (Ev.extract rfl rfl) ?_
  refine Lst.alloc (z := .agg (enc (Vector.replicate 20 (Vector.replicate 20 false))).toArray) (cs := enc (Vector.replicate 20 (Vector.replicate 20 false))) rfl rfl (by decide) (fun _ => by kernel_rfl) rfl (fun b7 => ?_)
  refine Lst.store (i := 0) rfl rfl rfl rfl rfl Try.sizeOf89 (vs := enc r3.1) rfl (Enc.len _) (Enc.one _) (cs' := enc r3.1) (Put.here ((Enc.len _).trans (Enc.len _).symm)) (L' := (.blk b7 (enc r3.1) 89) :: (.blk b1 (enc (PosetR.mk a0 s_a0_1)) 24) :: L) rfl ?_
  refine Lst.run rfl rfl (by decide) (Ev.assign rfl) ?_
  refine Lst.nil ?_
  refine At.then ?_
  refine Cd.seq ?_
  refine Cd.region ?_
  refine Lst.run rfl rfl (by decide) (Ev.move rfl) ?_
  refine Lst.run rfl rfl (by decide) (Ev.assign rfl) ?_
  refine Lst.nil ?_
  refine At.then ?_
  obtain rfl := some_inj H
  refine Cd.ret ?_
  exact At.ret1 rfl (Res.tmp rfl) (FLe.refl _) (List.Sublist.cons _ (List.Sublist.cons _ (List.Sublist.refl _))) ⟨rfl, rfl⟩
set_option maxRecDepth 20000 in
theorem partref_AllPairs_sim {fu : Nat} {a0 : Poset} {a1 : Bool} {s_a0_1 : Sl} {r : (List Pair)} (H : partref_AllPairs fu a0 a1 = some r) (w0 : World) (F : Frz) (M L : List Item) (hM : M.Sublist L) (hs_a0_1 : Rd w0 F M s_a0_1 a0.Pairs) : Ok Try.prog w0 29 [.agg (enc (PosetR.mk a0 s_a0_1)).toArray, .bool a1] F (L) (fun _ L' v => ∃ (s1 : Sl), v = Sl.v s1 ∧ L' = (.own s1 49 2 (encs r)) :: L) := by
  unfold partref_AllPairs at H
  refine Ok.enter (m := 2) (n := 74) Try.func29 rfl rfl rfl (by decide) ?_
  refine Cd.env (e' := [(0, .agg (enc (PosetR.mk a0 s_a0_1)).toArray), (1, .bool a1)]) rfl ?_
  refine Cd.seq ?_
  refine Cd.region ?_
  refine Lst.box rfl rfl (by decide) rfl (cs := enc (PosetR.mk a0 s_a0_1)) rfl (fun b1 => ?_)
  refine Lst.addNil 49 2 ?_
  refine Lst.run rfl rfl (by decide) (Ev.assign rfl) ?_
  refine Lst.nil ?_
  refine At.then ?_
  refine Cd.seq ?_
  refine Cd.region ?_
  refine Lst.run rfl rfl (by decide) (Ev.fieldAddr (off' := 0) rfl Try.runUnderlying24 rfl Try.sizeOf3 rfl rfl) ?_
  refine Lst.run rfl rfl (by decide) (Ev.load (i := 1) rfl rfl Try.isAgg3 (v := .int .i64 a0.N) ((PosetR.get_N (Get.here _)).off (by rfl))) ?_
  refine Lst.run rfl rfl (by decide) (Ev.fieldAddr (off' := 1) rfl Try.runUnderlying24 rfl Try.sizeOf22 rfl rfl) ?_
  refine Lst.run rfl rfl (by decide) (Ev.load (i := 1) rfl rfl Try.isAgg22 (v := Sl.v s_a0_1) ((PosetR.get_Pairs (Get.here _)).off (by rfl))) ?_
  obtain ⟨r4, h5, H⟩ := bind_some H
  refine Lst.call rfl rfl (by decide) (vs := [.int .i64 a0.N, Sl.v s_a0_1]) ⟨rfl, rfl, trivial⟩ Try.call45 (partref_Closure_sim h5 w0 _ M _ (List.Sublist.cons _ (List.Sublist.cons _ hM)) (hs_a0_1.mono (FLe.refl _) (List.Sublist.refl _))) (fun F11 L' v hF12 hv => ?_)
  obtain ⟨s6, rs7, rfl, rfl, fm8⟩ := hv
  refine Lst.run rfl rfl (by decide) (Ev.assign rfl) ?_
  refine Lst.nil ?_
  refine At.then ?_
  refine Cd.seq ?_
  refine Cd.region ?_
  refine Lst.addNil 49 2 ?_
  refine Lst.run rfl rfl (by decide) (Ev.assign rfl) ?_
  refine Lst.nil ?_
  refine At.then ?_
  refine Cd.seq ?_
  refine Cd.seq ?_
  refine Cd.region ?_
  refine Lst.run rfl rfl (by decide) (Ev.fieldAddr (off' := 0) rfl Try.runUnderlying24 rfl Try.sizeOf3 rfl rfl) ?_
  refine Lst.run rfl rfl (by decide) (Ev.load (i := 4) rfl rfl Try.isAgg3 (v := .int .i64 a0.N) ((PosetR.get_N (Get.here _)).off (by rfl))) ?_
  refine Lst.run rfl rfl (by decide) (Ev.move rfl) ?_
  refine Lst.nil ?_
  refine At.then ?_
  refine Cd.block ?_
  obtain ⟨nn19, hN75, H⟩ := bind_some H
  replace hN75 := upTo_some hN75
  obtain ⟨ol14, H, HKl14⟩ := bind_some H
  refine Cd.loop (σ := Nat × Nat × Sl × (List Pair)) (fun (i14, k14, s15, l16) => [(1, .bool a1), (2, .pointer (some ⟨b1, 0, none⟩)), (5, Sl.v s6), (6, Sl.v s15), (17, .int .i64 a0.N), (18, .int .i64 (i14 : Int))]) (fun (i14, k14, s15, l16) => (.own s15 49 2 (encs l16)) :: (.rows (α := Bool) 4 rs7) :: (.own s6 75 1 (encs rs7)) :: (.own Sl.nil 49 2 (encs ([] : List Pair))) :: (.blk b1 (enc (PosetR.mk a0 s_a0_1)) 24) :: L) (fun _ => (fun (i14, k14, s15, l16) => rangeF (partref_AllPairs_B0 a0 a1 r4) k14 i14 l16 = some ol14 ∧ i14 + k14 = nn19)) (fun (i14, k14, s15, l16) => k14) (0, nn19, Sl.nil, ([] : List Pair)) ⟨rfl, rfl, rfl, rfl, rfl, rfl, trivial⟩ rfl ⟨H, by omega⟩ ?_
  rintro F17 ⟨i14, k14, s15, l16⟩ hF18 ⟨H, hik14⟩
  refine Cd.as (e' := [(1, .bool a1), (2, .pointer (some ⟨b1, 0, none⟩)), (5, Sl.v s6), (6, Sl.v s15), (17, .int .i64 a0.N), (18, .int .i64 (i14 : Int))]) (L' := (.own s15 49 2 (encs l16)) :: (.rows (α := Bool) 4 rs7) :: (.own s6 75 1 (encs rs7)) :: (.own Sl.nil 49 2 (encs ([] : List Pair))) :: (.blk b1 (enc (PosetR.mk a0 s_a0_1)) 24) :: L) ⟨rfl, rfl, rfl, rfl, rfl, rfl, trivial⟩ rfl ?_
  rcases k14 with _ | k14
  · have hc14 : decide ((i14 : Int) < a0.N) = false := decide_eq_false (by omega)
    replace H := rangeF_end H
    refine Cd.seq ?_
    refine Cd.region ?_
    refine Lst.run rfl rfl (by decide) (Ev.lss rfl rfl) ?_
    refine Lst.nil ?_
    refine At.then ?_
    refine Cd.seq ?_
    refine Cd.condF rfl hc14 ?_
    refine Cd.exit ?_
    refine At.then_exit ?_
    refine At.then_exit ?_
    refine At.in_exit ?_
    subst H
    replace H := HKl14
    refine At.then ?_
    refine Cd.seq ?_
    refine Cd.region ?_
    refine Lst.run rfl rfl (by decide) (Ev.move rfl) ?_
    refine Lst.run rfl rfl (by decide) (Ev.assign rfl) ?_
    refine Lst.nil ?_
    refine At.then ?_
    obtain rfl := some_inj H
    refine Cd.ret ?_
    exact At.ret1 rfl (Res.tmp rfl) (FLe.trans hF12 hF18) (List.Sublist.cons_cons _ (List.Sublist.cons _ (List.Sublist.cons _ (List.Sublist.cons _ (List.Sublist.cons _ (List.Sublist.refl _)))))) ⟨s15, rfl, rfl⟩
  have hc14 : decide ((i14 : Int) < a0.N) = true := decide_eq_true (by omega)
  obtain ⟨c14, H, hgo14⟩ := rangeF_go H
  unfold partref_AllPairs_B0 at H
  try dsimp only at H
  refine Cd.seq ?_
  refine Cd.region ?_
  refine Lst.run rfl rfl (by decide) (Ev.lss rfl rfl) ?_
  refine Lst.nil ?_
  refine At.then ?_
  refine Cd.seq ?_
  refine Cd.condT rfl hc14 ?_
  refine Cd.skip ?_
  refine At.then ?_
  refine Cd.seq ?_
  refine Cd.block ?_
  refine Cd.seq ?_
  refine Cd.region ?_
  refine Lst.run rfl rfl (by decide) (Ev.move rfl) ?_
  refine Lst.run rfl rfl (by decide) (Ev.assign rfl) ?_
  refine Lst.nil ?_
  refine At.then ?_
  refine Cd.seq ?_
  refine Cd.region ?_
  refine Lst.run rfl rfl (by decide) (Ev.fieldAddr (off' := 0) rfl Try.runUnderlying24 rfl Try.sizeOf3 rfl rfl) ?_
  refine Lst.run rfl rfl (by decide) (Ev.load (i := 4) rfl rfl Try.isAgg3 (v := .int .i64 a0.N) ((PosetR.get_N (Get.here _)).off (by rfl))) ?_
  refine Lst.run rfl rfl (by decide) (Ev.move rfl) ?_
  refine Lst.nil ?_
  refine At.then ?_
  refine Cd.block ?_
  obtain ⟨nn25, hN74, H⟩ := bind_some H
  replace hN74 := upTo_some hN74
  obtain ⟨ol20, H, HKl20⟩ := bind_some H
  refine Cd.loop (σ := Nat × Nat × Sl × (List Pair)) (fun (i20, k20, s21, l22) => [(1, .bool a1), (2, .pointer (some ⟨b1, 0, none⟩)), (5, Sl.v s6), (6, Sl.v s21), (7, .int .i64 (i14 : Int)), (17, .int .i64 a0.N), (18, .int .i64 (i14 : Int)), (22, .int .i64 a0.N), (23, .int .i64 (i20 : Int))]) (fun (i20, k20, s21, l22) => (.own s21 49 2 (encs l22)) :: (.rows (α := Bool) 4 rs7) :: (.own s6 75 1 (encs rs7)) :: (.own Sl.nil 49 2 (encs ([] : List Pair))) :: (.blk b1 (enc (PosetR.mk a0 s_a0_1)) 24) :: L) (fun _ => (fun (i20, k20, s21, l22) => rangeF (partref_AllPairs_B2 a0 a1 r4 i14) k20 i20 l22 = some ol20 ∧ i20 + k20 = nn25)) (fun (i20, k20, s21, l22) => k20) (0, nn25, s15, l16) ⟨rfl, rfl, rfl, rfl, rfl, rfl, rfl, rfl, rfl, trivial⟩ rfl ⟨H, by omega⟩ ?_
  rintro F23 ⟨i20, k20, s21, l22⟩ hF24 ⟨H, hik20⟩
  refine Cd.as (e' := [(1, .bool a1), (2, .pointer (some ⟨b1, 0, none⟩)), (5, Sl.v s6), (6, Sl.v s21), (7, .int .i64 (i14 : Int)), (17, .int .i64 a0.N), (18, .int .i64 (i14 : Int)), (22, .int .i64 a0.N), (23, .int .i64 (i20 : Int))]) (L' := (.own s21 49 2 (encs l22)) :: (.rows (α := Bool) 4 rs7) :: (.own s6 75 1 (encs rs7)) :: (.own Sl.nil 49 2 (encs ([] : List Pair))) :: (.blk b1 (enc (PosetR.mk a0 s_a0_1)) 24) :: L) ⟨rfl, rfl, rfl, rfl, rfl, rfl, rfl, rfl, rfl, trivial⟩ rfl ?_
  rcases k20 with _ | k20
  · have hc20 : decide ((i20 : Int) < a0.N) = false := decide_eq_false (by omega)
    replace H := rangeF_end H
    refine Cd.seq ?_
    refine Cd.region ?_
    refine Lst.run rfl rfl (by decide) (Ev.lss rfl rfl) ?_
    refine Lst.nil ?_
    refine At.then ?_
    refine Cd.seq ?_
    refine Cd.condF rfl hc20 ?_
    refine Cd.exit ?_
    refine At.then_exit ?_
    refine At.then_exit ?_
    refine At.in_exit ?_
    subst H
    replace H := HKl20
    refine At.in_normal ?_
    refine At.then ?_
    refine Cd.region ?_
    refine Lst.run rfl rfl (by decide) (Ev.incr (by omega) rfl rfl) ?_
    refine Lst.run rfl rfl (by decide) (Ev.move rfl) ?_
    refine Lst.nil ?_
    exact At.meet (i14 + 1, k14, s21, l22) (FLe.trans hF18 hF24) ⟨rfl, rfl, rfl, rfl, rfl, rfl, trivial⟩ rfl ⟨⟨hgo14 _ (some_inj H).symm, by omega⟩, Nat.lt_succ_self _⟩
  have hc20 : decide ((i20 : Int) < a0.N) = true := decide_eq_true (by omega)
  obtain ⟨c20, H, hgo20⟩ := rangeF_go H
  unfold partref_AllPairs_B2 at H
  try dsimp only at H
  refine Cd.seq ?_
  refine Cd.region ?_
  refine Lst.run rfl rfl (by decide) (Ev.lss rfl rfl) ?_
  refine Lst.nil ?_
  refine At.then ?_
  refine Cd.seq ?_
  refine Cd.condT rfl hc20 ?_
  refine Cd.skip ?_
  refine At.then ?_
  refine Cd.seq ?_
  refine Cd.block ?_
  refine Cd.seq ?_
  refine Cd.region ?_
  refine Lst.run rfl rfl (by decide) (Ev.move rfl) ?_
  refine Lst.run rfl rfl (by decide) (Ev.assign rfl) ?_
  refine Lst.nil ?_
  refine At.then ?_
  refine Cd.seq ?_
  refine Cd.region ?_
  refine Lst.run rfl rfl (by decide) (Ev.assign rfl) ?_
  refine Lst.nil ?_
  refine At.then ?_
  refine Cd.seq ?_
  refine Cd.seq ?_
  refine Cd.region ?_
  refine Lst.run rfl rfl (by decide) (Ev.fieldAddr (off' := 0) rfl Try.runUnderlying24 rfl Try.sizeOf3 rfl rfl) ?_
  refine Lst.run rfl rfl (by decide) (Ev.load (i := 4) rfl rfl Try.isAgg3 (v := .int .i64 a0.N) ((PosetR.get_N (Get.here _)).off (by rfl))) ?_
  refine Lst.run rfl rfl (by decide) (Ev.move rfl) ?_
  refine Lst.nil ?_
  refine At.then ?_
  refine Cd.block ?_
  obtain ⟨nn30, hN73, H⟩ := bind_some H
  replace hN73 := upTo_some hN73
  obtain ⟨ol26, H, HKl26⟩ := bind_some H
  refine Cd.loop (σ := Nat × Nat × Bool) (fun (i26, k26, y27) => [(1, .bool a1), (2, .pointer (some ⟨b1, 0, none⟩)), (5, Sl.v s6), (6, Sl.v s21), (7, .int .i64 (i14 : Int)), (8, .int .i64 (i20 : Int)), (9, .bool y27), (17, .int .i64 a0.N), (18, .int .i64 (i14 : Int)), (22, .int .i64 a0.N), (23, .int .i64 (i20 : Int)), (27, .int .i64 a0.N), (28, .int .i64 (i26 : Int))]) (fun (i26, k26, y27) => (.own s21 49 2 (encs l22)) :: (.rows (α := Bool) 4 rs7) :: (.own s6 75 1 (encs rs7)) :: (.own Sl.nil 49 2 (encs ([] : List Pair))) :: (.blk b1 (enc (PosetR.mk a0 s_a0_1)) 24) :: L) (fun _ => (fun (i26, k26, y27) => rangeF (partref_AllPairs_B4 r4 i14 i20) k26 i26 y27 = some ol26 ∧ i26 + k26 = nn30)) (fun (i26, k26, y27) => k26) (0, nn30, false) ⟨rfl, rfl, rfl, rfl, rfl, rfl, rfl, rfl, rfl, rfl, rfl, rfl, rfl, trivial⟩ rfl ⟨H, by omega⟩ ?_
  rintro F28 ⟨i26, k26, y27⟩ hF29 ⟨H, hik26⟩
  refine Cd.as (e' := [(1, .bool a1), (2, .pointer (some ⟨b1, 0, none⟩)), (5, Sl.v s6), (6, Sl.v s21), (7, .int .i64 (i14 : Int)), (8, .int .i64 (i20 : Int)), (9, .bool y27), (17, .int .i64 a0.N), (18, .int .i64 (i14 : Int)), (22, .int .i64 a0.N), (23, .int .i64 (i20 : Int)), (27, .int .i64 a0.N), (28, .int .i64 (i26 : Int))]) (L' := (.own s21 49 2 (encs l22)) :: (.rows (α := Bool) 4 rs7) :: (.own s6 75 1 (encs rs7)) :: (.own Sl.nil 49 2 (encs ([] : List Pair))) :: (.blk b1 (enc (PosetR.mk a0 s_a0_1)) 24) :: L) ⟨rfl, rfl, rfl, rfl, rfl, rfl, rfl, rfl, rfl, rfl, rfl, rfl, rfl, trivial⟩ rfl ?_
  rcases k26 with _ | k26
  · have hc26 : decide ((i26 : Int) < a0.N) = false := decide_eq_false (by omega)
    replace H := rangeF_end H
    refine Cd.seq ?_
    refine Cd.region ?_
    refine Lst.run rfl rfl (by decide) (Ev.lss rfl rfl) ?_
    refine Lst.nil ?_
    refine At.then ?_
    refine Cd.seq ?_
    refine Cd.condF rfl hc26 ?_
    refine Cd.exit ?_
    refine At.then_exit ?_
    refine At.then_exit ?_
    refine At.in_exit ?_
    subst H
    replace H := HKl26
    refine At.then ?_
    refine Cd.seq ?_
    refine Cd.region ?_
    refine Lst.run rfl rfl (by decide) (Ev.move rfl) ?_
    refine Lst.run rfl rfl (by decide) (Ev.move rfl) ?_
    obtain ⟨x53, h54, H⟩ := bind_some H
    have g55 := lat_some h54
    obtain ⟨⟨r56v, r56h⟩, r56g, r56e, r56m⟩ := map_get fm8 g55.2.2
    obtain rfl : x53 = r56v := r56e.symm
    have hh57 := row_h r56g
    refine Lst.run rfl rfl (by decide) (Ev.indexS (α := LR Bool) (xs := rs7) rfl rfl Try.runUnderlying73 Try.sizeOf75 rfl (by decide) (Rd.own (i := 2) rfl rfl rfl) g55.1 (by have := map_len fm8; omega)) ?_
    refine Lst.run rfl rfl (by decide) (Ev.loadS (α := LR Bool) rfl (Rd.own (i := 2) rfl rfl rfl) Try.isAgg75 (v := Sl.v r56h) ((Get.elemN (s := 1) rfl r56g (Get.here _)).off (by omega))) ?_
    refine Lst.run rfl rfl (by decide) (Ev.move rfl) ?_
    obtain ⟨x58, h59, H⟩ := bind_some H
    have g60 := lat_some h59
    refine Lst.run rfl rfl (by decide) (Ev.indexS (α := Bool) (xs := x53) rfl rfl Try.runUnderlying75 Try.sizeOf4 rfl (by decide) (Rd.row (j := 1) rfl r56g) g60.1 g60.2.1) ?_
    refine Lst.run rfl rfl (by decide) (Ev.loadS (α := Bool) rfl (Rd.row (j := 1) rfl r56g) Try.isAgg4 (v := .bool x58) ((Get.elemN (s := 1) (x := x58) rfl g60.2.2 (Get.here _)).off (by omega))) ?_
    refine Lst.run rfl rfl (by decide) (Ev.move rfl) ?_
    rcases (Bool.eq_false_or_eq_true x58).symm with hb61 | hb61
    · replace H := ite_f hb61 H
      refine Lst.skip rfl rfl rfl hb61 rfl (by decide) ?_
      refine Lst.skip rfl rfl rfl hb61 rfl (by decide) ?_
      refine Lst.skipU rfl rfl rfl rfl (by decide) ?_
      refine Lst.skip rfl rfl rfl hb61 rfl (by decide) ?_
      refine Lst.skip rfl rfl rfl hb61 rfl (by decide) ?_
      refine Lst.run rfl rfl (by decide) (Ev.pickF rfl hb61 rfl) ?_
      refine Lst.nil ?_
      refine At.then ?_
      refine Cd.condF rfl rfl ?_
      refine Cd.skip ?_
      refine At.in_normal ?_
      refine At.then ?_
      refine Cd.as (e' := [(1, .bool a1), (2, .pointer (some ⟨b1, 0, none⟩)), (5, Sl.v s6), (6, Sl.v s21), (7, .int .i64 (i14 : Int)), (17, .int .i64 a0.N), (18, .int .i64 (i14 : Int)), (22, .int .i64 a0.N), (23, .int .i64 (i20 : Int))]) (L' := (.own s21 49 2 (encs l22)) :: (.rows (α := Bool) 4 rs7) :: (.own s6 75 1 (encs rs7)) :: (.own Sl.nil 49 2 (encs ([] : List Pair))) :: (.blk b1 (enc (PosetR.mk a0 s_a0_1)) 24) :: L) ⟨rfl, rfl, rfl, rfl, rfl, rfl, rfl, rfl, rfl, trivial⟩ rfl ?_
      refine Cd.region ?_
      refine Lst.run rfl rfl (by decide) (Ev.incr (by omega) rfl rfl) ?_
      refine Lst.run rfl rfl (by decide) (Ev.move rfl) ?_
      refine Lst.nil ?_
      exact At.meet (i20 + 1, k20, s21, l22) (FLe.trans hF24 hF29) ⟨rfl, rfl, rfl, rfl, rfl, rfl, rfl, rfl, rfl, trivial⟩ rfl ⟨⟨hgo20 _ (some_inj H).symm, by omega⟩, Nat.lt_succ_self _⟩
    replace H := ite_t hb61 H
    refine Lst.runG rfl rfl rfl hb61 rfl (by decide) (Ev.move rfl) ?_
    refine Lst.runG rfl rfl rfl hb61 rfl (by decide) (Ev.move rfl) ?_
    obtain ⟨o62, H, HKo62⟩ := bind_some H
    refine Lst.join (σ := Bool) 2 (fun y63 => [(1, .bool a1), (2, .pointer (some ⟨b1, 0, none⟩)), (5, Sl.v s6), (6, Sl.v s21), (7, .int .i64 (i14 : Int)), (8, .int .i64 (i20 : Int)), (17, .int .i64 a0.N), (18, .int .i64 (i14 : Int)), (22, .int .i64 a0.N), (23, .int .i64 (i20 : Int)), (58, .bool x58), (62, .bool y63)]) (fun y63 => (.own s21 49 2 (encs l22)) :: (.rows (α := Bool) 4 rs7) :: (.own s6 75 1 (encs rs7)) :: (.own Sl.nil 49 2 (encs ([] : List Pair))) :: (.blk b1 (enc (PosetR.mk a0 s_a0_1)) 24) :: L) (fun _ y63 => y63 = o62) ?_ ?_
    · rcases (Bool.eq_false_or_eq_true a1).symm with hb64 | hb64
      · replace H := ite_f hb64 H
        refine Lst.skip rfl rfl rfl hb64 rfl (by decide) ?_
        refine Lst.runG rfl rfl rfl hb61 rfl (by decide) (Ev.pickF rfl hb64 rfl) ?_
        refine Lst.nil ?_
        exact At.meet false (FLe.refl _) ⟨rfl, rfl, rfl, rfl, rfl, rfl, rfl, rfl, rfl, rfl, rfl, rfl, trivial⟩ rfl (some_inj H)
      replace H := ite_t hb64 H
      refine Lst.runG rfl rfl rfl hb64 rfl (by decide) (Ev.move rfl) ?_
      refine Lst.runG rfl rfl rfl hb61 rfl (by decide) (Ev.pickT rfl hb64 rfl) ?_
      refine Lst.nil ?_
      exact At.meet y27 (FLe.refl _) ⟨rfl, rfl, rfl, rfl, rfl, rfl, rfl, rfl, rfl, rfl, rfl, rfl, trivial⟩ rfl (some_inj H)
    rintro F65 y63 hF66 hy
    subst hy
    refine Lst.as (e' := [(1, .bool a1), (2, .pointer (some ⟨b1, 0, none⟩)), (5, Sl.v s6), (6, Sl.v s21), (7, .int .i64 (i14 : Int)), (8, .int .i64 (i20 : Int)), (17, .int .i64 a0.N), (18, .int .i64 (i14 : Int)), (22, .int .i64 a0.N), (23, .int .i64 (i20 : Int)), (58, .bool x58), (62, .bool y63)]) (L' := (.own s21 49 2 (encs l22)) :: (.rows (α := Bool) 4 rs7) :: (.own s6 75 1 (encs rs7)) :: (.own Sl.nil 49 2 (encs ([] : List Pair))) :: (.blk b1 (enc (PosetR.mk a0 s_a0_1)) 24) :: L) ⟨rfl, rfl, rfl, rfl, rfl, rfl, rfl, rfl, rfl, rfl, rfl, rfl, trivial⟩ rfl ?_
    replace H := HKo62
    refine Lst.runG rfl rfl rfl hb61 rfl (by decide) (Ev.not rfl) ?_
    refine Lst.run rfl rfl (by decide) (Ev.pickT rfl hb61 rfl) ?_
    refine Lst.nil ?_
    refine At.then ?_
    rcases (Bool.eq_false_or_eq_true (!y63)).symm with hb67 | hb67
    · replace H := ite_f hb67 H
      refine Cd.condF rfl hb67 ?_
      refine Cd.skip ?_
      refine At.in_normal ?_
      refine At.then ?_
      refine Cd.region ?_
      refine Lst.run rfl rfl (by decide) (Ev.incr (by omega) rfl rfl) ?_
      refine Lst.run rfl rfl (by decide) (Ev.move rfl) ?_
      refine Lst.nil ?_
      exact At.meet (i20 + 1, k20, s21, l22) (FLe.trans (FLe.trans hF24 hF29) hF66) ⟨rfl, rfl, rfl, rfl, rfl, rfl, rfl, rfl, rfl, trivial⟩ rfl ⟨⟨hgo20 _ (some_inj H).symm, by omega⟩, Nat.lt_succ_self _⟩
    replace H := ite_t hb67 H
    refine Cd.condT rfl hb67 ?_
    refine Cd.region ?_
    refine Lst.run rfl rfl (by decide) (Ev.move rfl) ?_
    refine Lst.run rfl rfl (by decide) (Ev.move rfl) ?_
    refine Lst.run rfl rfl (by decide) (Ev.move rfl) ?_
    refine Lst.run rfl rfl (by decide) (Ev.build (v := .agg (enc ({ Pair.zero with A := (i14 : Int), B := (i20 : Int) } : Pair)).toArray) (pv := [(0, .int .i64 (i14 : Int)), (1, .int .i64 (i20 : Int))]) ⟨rfl, rfl, ⟨rfl, rfl, trivial⟩⟩ (fun w => by kernel_rfl)) ?_
    refine Lst.buildSlice (α := Pair) (xs := ([({ Pair.zero with A := (i14 : Int), B := (i20 : Int) } : Pair)] : List Pair)) (pv := [(0, .agg (enc ({ Pair.zero with A := (i14 : Int), B := (i20 : Int) } : Pair)).toArray)]) rfl rfl (by decide) ⟨rfl, rfl, trivial⟩ (run_buildSlice (α := Pair) (z0 := Pair.zero) (xs := ([({ Pair.zero with A := (i14 : Int), B := (i20 : Int) } : Pair)] : List Pair)) Try.runUnderlying22 Try.sizeOf49 Try.zeroValue49 rfl rfl rfl (by decide) rfl (fill_cons (cs := encs (List.replicate 1 Pair.zero)) (cs' := encs ((List.replicate 1 Pair.zero).set 0 ({ Pair.zero with A := (i14 : Int), B := (i20 : Int) } : Pair))) (vs := enc ({ Pair.zero with A := (i14 : Int), B := (i20 : Int) } : Pair)) rfl rfl (Enc.len _) ((Put.elemN (s := 2) (i := 0) (x := Pair.zero) (y := ({ Pair.zero with A := (i14 : Int), B := (i20 : Int) } : Pair)) rfl rfl (Put.here ((Enc.len _).trans (Enc.len _).symm))).off rfl) fill_nil)) rfl rfl (by decide) (fun s68 _ => ?_)
    obtain ⟨u70, h71, H⟩ := bind_some H
    refine Lst.append (i := 1) (α := Pair) (xs := l22) (ys := ([({ Pair.zero with A := (i14 : Int), B := (i20 : Int) } : Pair)] : List Pair)) rfl rfl (by decide) rfl rfl Try.runUnderlying22 Try.typeInfo49 rfl rfl rfl rfl rfl rfl (Rd.own (i := 0) rfl rfl rfl) rfl (room_some h71) rfl (fun s72 => ?_)
    refine Lst.its (L' := (.own s68 49 2 (encs ([({ Pair.zero with A := (i14 : Int), B := (i20 : Int) } : Pair)] : List Pair))) :: (.own s72 49 2 (encs (l22 ++ ([({ Pair.zero with A := (i14 : Int), B := (i20 : Int) } : Pair)] : List Pair)))) :: (.rows (α := Bool) 4 rs7) :: (.own s6 75 1 (encs rs7)) :: (.own Sl.nil 49 2 (encs ([] : List Pair))) :: (.blk b1 (enc (PosetR.mk a0 s_a0_1)) 24) :: L) rfl ?_
    refine Lst.run rfl rfl (by decide) (Ev.assign rfl) ?_
    refine Lst.nil ?_
    refine At.in_normal ?_
    refine At.then ?_
    refine Cd.region ?_
    refine Lst.run rfl rfl (by decide) (Ev.incr (by omega) rfl rfl) ?_
    refine Lst.run rfl rfl (by decide) (Ev.move rfl) ?_
    refine Lst.nil ?_
    refine At.less (L' := (.own s72 49 2 (encs (l22 ++ ([({ Pair.zero with A := (i14 : Int), B := (i20 : Int) } : Pair)] : List Pair)))) :: (.rows (α := Bool) 4 rs7) :: (.own s6 75 1 (encs rs7)) :: (.own Sl.nil 49 2 (encs ([] : List Pair))) :: (.blk b1 (enc (PosetR.mk a0 s_a0_1)) 24) :: L) (List.Sublist.cons _ (List.Sublist.cons_cons _ (List.Sublist.cons_cons _ (List.Sublist.cons_cons _ (List.Sublist.cons_cons _ (List.Sublist.cons_cons _ (List.Sublist.refl _))))))) ?_
    exact At.meet (i20 + 1, k20, s72, l22 ++ ([({ Pair.zero with A := (i14 : Int), B := (i20 : Int) } : Pair)] : List Pair)) (FLe.trans (FLe.trans hF24 hF29) hF66) ⟨rfl, rfl, rfl, rfl, rfl, rfl, rfl, rfl, rfl, trivial⟩ rfl ⟨⟨hgo20 _ (some_inj H).symm, by omega⟩, Nat.lt_succ_self _⟩
  have hc26 : decide ((i26 : Int) < a0.N) = true := decide_eq_true (by omega)
  obtain ⟨c26, H, hgo26⟩ := rangeF_go H
  unfold partref_AllPairs_B4 at H
  try dsimp only at H
  refine Cd.seq ?_
  refine Cd.region ?_
  refine Lst.run rfl rfl (by decide) (Ev.lss rfl rfl) ?_
  refine Lst.nil ?_
  refine At.then ?_
  refine Cd.seq ?_
  refine Cd.condT rfl hc26 ?_
  refine Cd.skip ?_
  refine At.then ?_
  refine Cd.seq ?_
  refine Cd.block ?_
  refine Cd.seq ?_
  refine Cd.region ?_
  refine Lst.run rfl rfl (by decide) (Ev.move rfl) ?_
  refine Lst.run rfl rfl (by decide) (Ev.assign rfl) ?_
  refine Lst.nil ?_
  refine At.then ?_
  refine Cd.region ?_
  refine Lst.run rfl rfl (by decide) (Ev.move rfl) ?_
  refine Lst.run rfl rfl (by decide) (Ev.move rfl) ?_
  rcases Bool.eq_false_or_eq_true y27 with hb31 | hb31
  · replace H := ite_t hb31 H
    refine Lst.skip rfl rfl rfl hb31 rfl (by decide) ?_
    refine Lst.skip rfl rfl rfl hb31 rfl (by decide) ?_
    refine Lst.skip rfl rfl rfl hb31 rfl (by decide) ?_
    refine Lst.skip rfl rfl rfl hb31 rfl (by decide) ?_
    refine Lst.skip rfl rfl rfl hb31 rfl (by decide) ?_
    refine Lst.skip rfl rfl rfl hb31 rfl (by decide) ?_
    refine Lst.skip rfl rfl rfl hb31 rfl (by decide) ?_
    refine Lst.skip rfl rfl rfl hb31 rfl (by decide) ?_
    refine Lst.skipU rfl rfl rfl rfl (by decide) ?_
    refine Lst.skipU rfl rfl rfl rfl (by decide) ?_
    refine Lst.skipU rfl rfl rfl rfl (by decide) ?_
    refine Lst.skipU rfl rfl rfl rfl (by decide) ?_
    refine Lst.skipU rfl rfl rfl rfl (by decide) ?_
    refine Lst.skipU rfl rfl rfl rfl (by decide) ?_
    refine Lst.skipU rfl rfl rfl rfl (by decide) ?_
    refine Lst.skip rfl rfl rfl hb31 rfl (by decide) ?_
    refine Lst.run rfl rfl (by decide) (Ev.pickT rfl hb31 rfl) ?_
    refine Lst.run rfl rfl (by decide) (Ev.assign rfl) ?_
    refine Lst.nil ?_
    refine At.in_normal ?_
    refine At.then ?_
    refine Cd.as (e' := [(1, .bool a1), (2, .pointer (some ⟨b1, 0, none⟩)), (5, Sl.v s6), (6, Sl.v s21), (7, .int .i64 (i14 : Int)), (8, .int .i64 (i20 : Int)), (9, .bool true), (17, .int .i64 a0.N), (18, .int .i64 (i14 : Int)), (22, .int .i64 a0.N), (23, .int .i64 (i20 : Int)), (27, .int .i64 a0.N), (28, .int .i64 (i26 : Int))]) (L' := (.own s21 49 2 (encs l22)) :: (.rows (α := Bool) 4 rs7) :: (.own s6 75 1 (encs rs7)) :: (.own Sl.nil 49 2 (encs ([] : List Pair))) :: (.blk b1 (enc (PosetR.mk a0 s_a0_1)) 24) :: L) ⟨rfl, rfl, rfl, rfl, rfl, rfl, rfl, rfl, rfl, rfl, rfl, rfl, rfl, trivial⟩ rfl ?_
    refine Cd.region ?_
    refine Lst.run rfl rfl (by decide) (Ev.incr (by omega) rfl rfl) ?_
    refine Lst.run rfl rfl (by decide) (Ev.move rfl) ?_
    refine Lst.nil ?_
    exact At.meet (i26 + 1, k26, true) hF29 ⟨rfl, rfl, rfl, rfl, rfl, rfl, rfl, rfl, rfl, rfl, rfl, rfl, rfl, trivial⟩ rfl ⟨⟨hgo26 _ (some_inj H).symm, by omega⟩, Nat.lt_succ_self _⟩
  replace H := ite_f hb31 H
  refine Lst.runG rfl rfl rfl hb31 rfl (by decide) (Ev.move rfl) ?_
  refine Lst.runG rfl rfl rfl hb31 rfl (by decide) (Ev.move rfl) ?_
  obtain ⟨x32, h33, H⟩ := bind_some H
  have g34 := lat_some h33
  obtain ⟨⟨r35v, r35h⟩, r35g, r35e, r35m⟩ := map_get fm8 g34.2.2
  obtain rfl : x32 = r35v := r35e.symm
  have hh36 := row_h r35g
  refine Lst.runG rfl rfl rfl hb31 rfl (by decide) (Ev.indexS (α := LR Bool) (xs := rs7) rfl rfl Try.runUnderlying73 Try.sizeOf75 rfl (by decide) (Rd.own (i := 2) rfl rfl rfl) g34.1 (by have := map_len fm8; omega)) ?_
  refine Lst.runG rfl rfl rfl hb31 rfl (by decide) (Ev.loadS (α := LR Bool) rfl (Rd.own (i := 2) rfl rfl rfl) Try.isAgg75 (v := Sl.v r35h) ((Get.elemN (s := 1) rfl r35g (Get.here _)).off (by omega))) ?_
  refine Lst.runG rfl rfl rfl hb31 rfl (by decide) (Ev.move rfl) ?_
  obtain ⟨x37, h38, H⟩ := bind_some H
  have g39 := lat_some h38
  refine Lst.runG rfl rfl rfl hb31 rfl (by decide) (Ev.indexS (α := Bool) (xs := x32) rfl rfl Try.runUnderlying75 Try.sizeOf4 rfl (by decide) (Rd.row (j := 1) rfl r35g) g39.1 g39.2.1) ?_
  refine Lst.runG rfl rfl rfl hb31 rfl (by decide) (Ev.loadS (α := Bool) rfl (Rd.row (j := 1) rfl r35g) Try.isAgg4 (v := .bool x37) ((Get.elemN (s := 1) (x := x37) rfl g39.2.2 (Get.here _)).off (by omega))) ?_
  refine Lst.runG rfl rfl rfl hb31 rfl (by decide) (Ev.move rfl) ?_
  obtain ⟨o40, H, HKo40⟩ := bind_some H
  refine Lst.join (σ := Bool) 8 (fun y41 => [(1, .bool a1), (2, .pointer (some ⟨b1, 0, none⟩)), (5, Sl.v s6), (6, Sl.v s21), (7, .int .i64 (i14 : Int)), (8, .int .i64 (i20 : Int)), (9, .bool y27), (17, .int .i64 a0.N), (18, .int .i64 (i14 : Int)), (22, .int .i64 a0.N), (23, .int .i64 (i20 : Int)), (27, .int .i64 a0.N), (28, .int .i64 (i26 : Int)), (32, .bool y27), (48, .bool y41)]) (fun y41 => (.own s21 49 2 (encs l22)) :: (.rows (α := Bool) 4 rs7) :: (.own s6 75 1 (encs rs7)) :: (.own Sl.nil 49 2 (encs ([] : List Pair))) :: (.blk b1 (enc (PosetR.mk a0 s_a0_1)) 24) :: L) (fun _ y41 => y41 = o40) ?_ ?_
  · rcases (Bool.eq_false_or_eq_true x37).symm with hb42 | hb42
    · replace H := ite_f hb42 H
      refine Lst.skip rfl rfl rfl hb42 rfl (by decide) ?_
      refine Lst.skip rfl rfl rfl hb42 rfl (by decide) ?_
      refine Lst.skip rfl rfl rfl hb42 rfl (by decide) ?_
      refine Lst.skip rfl rfl rfl hb42 rfl (by decide) ?_
      refine Lst.skip rfl rfl rfl hb42 rfl (by decide) ?_
      refine Lst.skip rfl rfl rfl hb42 rfl (by decide) ?_
      refine Lst.skip rfl rfl rfl hb42 rfl (by decide) ?_
      refine Lst.runG rfl rfl rfl hb31 rfl (by decide) (Ev.pickF rfl hb42 rfl) ?_
      refine Lst.nil ?_
      exact At.meet false (FLe.refl _) ⟨rfl, rfl, rfl, rfl, rfl, rfl, rfl, rfl, rfl, rfl, rfl, rfl, rfl, rfl, rfl, trivial⟩ rfl (some_inj H)
    replace H := ite_t hb42 H
    refine Lst.runG rfl rfl rfl hb42 rfl (by decide) (Ev.move rfl) ?_
    refine Lst.runG rfl rfl rfl hb42 rfl (by decide) (Ev.move rfl) ?_
    obtain ⟨x43, h44, H⟩ := bind_some H
    have g45 := lat_some h44
    obtain ⟨⟨r46v, r46h⟩, r46g, r46e, r46m⟩ := map_get fm8 g45.2.2
    obtain rfl : x43 = r46v := r46e.symm
    have hh47 := row_h r46g
    refine Lst.runG rfl rfl rfl hb42 rfl (by decide) (Ev.indexS (α := LR Bool) (xs := rs7) rfl rfl Try.runUnderlying73 Try.sizeOf75 rfl (by decide) (Rd.own (i := 2) rfl rfl rfl) g45.1 (by have := map_len fm8; omega)) ?_
    refine Lst.runG rfl rfl rfl hb42 rfl (by decide) (Ev.loadS (α := LR Bool) rfl (Rd.own (i := 2) rfl rfl rfl) Try.isAgg75 (v := Sl.v r46h) ((Get.elemN (s := 1) rfl r46g (Get.here _)).off (by omega))) ?_
    refine Lst.runG rfl rfl rfl hb42 rfl (by decide) (Ev.move rfl) ?_
    obtain ⟨x48, h49, H⟩ := bind_some H
    have g50 := lat_some h49
    refine Lst.runG rfl rfl rfl hb42 rfl (by decide) (Ev.indexS (α := Bool) (xs := x43) rfl rfl Try.runUnderlying75 Try.sizeOf4 rfl (by decide) (Rd.row (j := 1) rfl r46g) g50.1 g50.2.1) ?_
    refine Lst.runG rfl rfl rfl hb42 rfl (by decide) (Ev.loadS (α := Bool) rfl (Rd.row (j := 1) rfl r46g) Try.isAgg4 (v := .bool x48) ((Get.elemN (s := 1) (x := x48) rfl g50.2.2 (Get.here _)).off (by omega))) ?_
    refine Lst.runG rfl rfl rfl hb31 rfl (by decide) (Ev.pickT rfl hb42 rfl) ?_
    refine Lst.nil ?_
    exact At.meet x48 (FLe.refl _) ⟨rfl, rfl, rfl, rfl, rfl, rfl, rfl, rfl, rfl, rfl, rfl, rfl, rfl, rfl, rfl, trivial⟩ rfl (some_inj H)
  rintro F51 y41 hF52 hy
  subst hy
  refine Lst.as (e' := [(1, .bool a1), (2, .pointer (some ⟨b1, 0, none⟩)), (5, Sl.v s6), (6, Sl.v s21), (7, .int .i64 (i14 : Int)), (8, .int .i64 (i20 : Int)), (9, .bool y27), (17, .int .i64 a0.N), (18, .int .i64 (i14 : Int)), (22, .int .i64 a0.N), (23, .int .i64 (i20 : Int)), (27, .int .i64 a0.N), (28, .int .i64 (i26 : Int)), (32, .bool y27), (48, .bool y41)]) (L' := (.own s21 49 2 (encs l22)) :: (.rows (α := Bool) 4 rs7) :: (.own s6 75 1 (encs rs7)) :: (.own Sl.nil 49 2 (encs ([] : List Pair))) :: (.blk b1 (enc (PosetR.mk a0 s_a0_1)) 24) :: L) ⟨rfl, rfl, rfl, rfl, rfl, rfl, rfl, rfl, rfl, rfl, rfl, rfl, rfl, rfl, rfl, trivial⟩ rfl ?_
  replace H := HKo40
  refine Lst.run rfl rfl (by decide) (Ev.pickF rfl hb31 rfl) ?_
  refine Lst.run rfl rfl (by decide) (Ev.assign rfl) ?_
  refine Lst.nil ?_
  refine At.in_normal ?_
  refine At.then ?_
  refine Cd.region ?_
  refine Lst.run rfl rfl (by decide) (Ev.incr (by omega) rfl rfl) ?_
  refine Lst.run rfl rfl (by decide) (Ev.move rfl) ?_
  refine Lst.nil ?_
  exact At.meet (i26 + 1, k26, y41) (FLe.trans hF29 hF52) ⟨rfl, rfl, rfl, rfl, rfl, rfl, rfl, rfl, rfl, rfl, rfl, rfl, rfl, trivial⟩ rfl ⟨⟨hgo26 _ (some_inj H).symm, by omega⟩, Nat.lt_succ_self _⟩
end Go.Proofs.Yticifbmaapnfbaa
