/-
  The functions compute their specs; printed by a program.
-/
import Derived.Test.YticifbmaapnfbaaLdSp
import Derived.Test.YticifbmaapnfbaaGoL
import Derived.Test.YticifbmaapnfbaaGoH
import Derived.Test.YticifbmaapnfbaaGoI
import Derived.Test.YticifbmaapnfbaaProg
namespace Go.Proofs.Yticifbmaapnfbaa
open Go.RowKit Enc
set_option linter.unusedVariables false
set_option linter.unusedSimpArgs false
structure PosetR where
  v : Poset
  h1 : Sl
instance : Enc PosetR := ⟨fun p => enc p.v.N ++ (enc p.h1), 2, fun p => by simp only [List.length_append, Enc.len]; rfl, fun p => by simp only [List.all_append, Enc.one, Bool.and_self]⟩
theorem PosetR.get_N {p : PosetR} {k : Nat} {ch : List Value} (h : Get (enc p.v.N) k ch) : Get (enc p) (0 + k) ch := Get.off (Get.left h) (by omega)
theorem PosetR.put_N {p : PosetR} {k : Nat} {vs : List Value} {y : Int} (h : Put (enc p.v.N) k vs (enc y)) : Put (enc p) (0 + k) vs (enc ({ p with v := { p.v with N := y } } : PosetR)) := Put.off (cs' := enc ({ p with v := { p.v with N := y } } : PosetR)) (Put.left h) (by omega)
theorem PosetR.get_Pairs {p : PosetR} {k : Nat} {ch : List Value} (h : Get (enc p.h1) k ch) : Get (enc p) (1 + k) ch := Get.off (Get.right (m := 1) (Enc.len _) h) (by omega)
theorem PosetR.put_Pairs {p : PosetR} {k : Nat} {vs : List Value} {y : Sl} {l : List Pair} (h : Put (enc p.h1) k vs (enc y)) : Put (enc p) (1 + k) vs (enc ({ p with v := { p.v with Pairs := l }, h1 := y } : PosetR)) := Put.off (cs' := enc ({ p with v := { p.v with Pairs := l }, h1 := y } : PosetR)) (Put.right (m := 1) (Enc.len _) h) (by omega)
def PosetR.rel (w0 : World) (F : Frz) (L : List Item) (x : PosetR) : Prop := Rd w0 F L x.h1 x.v.Pairs
theorem PosetR.mono {w0 : World} {F F' : Frz} {L L' : List Item} {x : PosetR} (h : PosetR.rel w0 F L x) (hF : FLe F F') (hL : L.Sublist L') : PosetR.rel w0 F' L' x :=
  let h1 := h
  h1.mono hF hL
theorem All.monoPoset {w0 : World} {F F' : Frz} {L L' : List Item} {rs : List PosetR} (h : All PosetR.rel w0 F L rs) (hF : FLe F F') (hL : L.Sublist L') : All PosetR.rel w0 F' L' rs := fun x hx => PosetR.mono (h x hx) hF hL
set_option maxRecDepth 20000 in
theorem partref_PairsErr_sim {a0 : Int} {a1 : Int} {a2 : List Pair} {s_a2 : Sl} {r : Int} (H : partref_PairsErr a0 a1 a2 = some r) (w0 : World) (F : Frz) (M L : List Item) (hM : M.Sublist L) (hs_a2 : Rd w0 F M s_a2 a2) : Ok Try.prog w0 34 [.int .i64 a0, .int .i64 a1, Sl.v s_a2] F (L) (Is (.int .i64 r) (L)) := by
  unfold partref_PairsErr at H
  refine Ok.enter (m := 3) (n := 49) Try.func34 rfl rfl rfl (by decide) ?_
  refine Cd.env (e' := [(0, .int .i64 a0), (1, .int .i64 a1), (2, Sl.v s_a2)]) rfl ?_
  refine Cd.seq ?_
  refine Cd.region ?_
  refine Lst.run rfl rfl (by decide) (Ev.assign rfl) ?_
  refine Lst.nil ?_
  refine At.then ?_
  refine Cd.seq ?_
  refine Cd.seq ?_
  refine Cd.region ?_
  refine Lst.run rfl rfl (by decide) (Ev.move rfl) ?_
  refine Lst.run rfl rfl (by decide) (Ev.move rfl) ?_
  refine Lst.run rfl rfl (by decide) (Ev.min2 rfl rfl) ?_
  refine Lst.run rfl rfl (by decide) (Ev.lss rfl rfl) ?_
  refine Lst.run rfl rfl (by decide) (Ev.move rfl) ?_
  obtain ⟨o1, H, HKo1⟩ := bind_some H
  refine Lst.join (σ := Bool) 5 (fun y2 => [(0, .int .i64 a0), (1, .int .i64 a1), (2, Sl.v s_a2), (18, .bool y2)]) (fun y2 => L) (fun _ y2 => y2 = o1) ?_ ?_
  · rcases Bool.eq_false_or_eq_true (decide ((min a0 a1) < (0 : Int))) with hb3 | hb3
    · replace H := ite_t hb3 H
      refine Lst.skip rfl rfl rfl hb3 rfl (by decide) ?_
      refine Lst.skip rfl rfl rfl hb3 rfl (by decide) ?_
      refine Lst.skip rfl rfl rfl hb3 rfl (by decide) ?_
      refine Lst.skip rfl rfl rfl hb3 rfl (by decide) ?_
      refine Lst.run rfl rfl (by decide) (Ev.pickT rfl hb3 rfl) ?_
      refine Lst.nil ?_
      exact At.meet true (FLe.refl _) ⟨rfl, rfl, rfl, rfl, trivial⟩ rfl (some_inj H)
    replace H := ite_f hb3 H
    refine Lst.runG rfl rfl rfl hb3 rfl (by decide) (Ev.move rfl) ?_
    refine Lst.runG rfl rfl rfl hb3 rfl (by decide) (Ev.move rfl) ?_
    refine Lst.runG rfl rfl rfl hb3 rfl (by decide) (Ev.max2 rfl rfl) ?_
    refine Lst.runG rfl rfl rfl hb3 rfl (by decide) (Ev.gtr rfl rfl) ?_
    refine Lst.run rfl rfl (by decide) (Ev.pickF rfl hb3 rfl) ?_
    refine Lst.nil ?_
    exact At.meet (decide ((max a0 a1) > (40 : Int))) (FLe.refl _) ⟨rfl, rfl, rfl, rfl, trivial⟩ rfl (some_inj H)
  rintro F4 y2 hF5 hy
  subst hy
  refine Lst.as (e' := [(0, .int .i64 a0), (1, .int .i64 a1), (2, Sl.v s_a2), (18, .bool y2)]) (L' := L) ⟨rfl, rfl, rfl, rfl, trivial⟩ rfl ?_
  replace H := HKo1
  refine Lst.nil ?_
  refine At.then ?_
  rcases Bool.eq_false_or_eq_true y2 with hb6 | hb6
  · replace H := ite_t hb6 H
    refine Cd.condT rfl hb6 ?_
    refine Cd.seq ?_
    refine Cd.region ?_
    refine Lst.run rfl rfl (by decide) (Ev.assign rfl) ?_
    refine Lst.nil ?_
    refine At.then ?_
    obtain rfl := some_inj H
    refine Cd.ret ?_
    refine At.then_ret ?_
    exact At.ret1 rfl (Res.tmp rfl) hF5 (List.Sublist.refl _) ⟨rfl, rfl⟩
  replace H := ite_f hb6 H
  refine Cd.condF rfl hb6 ?_
  refine Cd.skip ?_
  refine At.then ?_
  refine Cd.seq ?_
  refine Cd.seq ?_
  refine Cd.region ?_
  refine Lst.run rfl rfl (by decide) (Ev.move rfl) ?_
  refine Lst.run rfl rfl (by decide) (Ev.lenS (α := Pair) (xs := a2) (by decide) rfl rfl Try.runUnderlying22 (hs_a2.mono hF5 hM)) ?_
  refine Lst.run rfl rfl (by decide) (Ev.gtr rfl rfl) ?_
  refine Lst.nil ?_
  refine At.then ?_
  rcases Bool.eq_false_or_eq_true (decide ((a2.length : Int) > (600 : Int))) with hb7 | hb7
  · replace H := ite_t hb7 H
    refine Cd.condT rfl hb7 ?_
    refine Cd.seq ?_
    refine Cd.region ?_
    refine Lst.run rfl rfl (by decide) (Ev.assign rfl) ?_
    refine Lst.nil ?_
    refine At.then ?_
    obtain rfl := some_inj H
    refine Cd.ret ?_
    refine At.then_ret ?_
    exact At.ret1 rfl (Res.tmp rfl) hF5 (List.Sublist.refl _) ⟨rfl, rfl⟩
  replace H := ite_f hb7 H
  refine Cd.condF rfl hb7 ?_
  refine Cd.skip ?_
  refine At.then ?_
  refine Cd.seq ?_
  refine Cd.seq ?_
  refine Cd.region ?_
  refine Lst.run rfl rfl (by decide) (Ev.move rfl) ?_
  refine Lst.run rfl rfl (by decide) (Ev.lenS (α := Pair) (xs := a2) (by decide) rfl rfl Try.runUnderlying22 (hs_a2.mono hF5 hM)) ?_
  refine Lst.run rfl rfl (by decide) (Ev.move rfl) ?_
  refine Lst.nil ?_
  refine At.then ?_
  refine Cd.block ?_
  refine Cd.bound (Rd.le (α := Pair) (xs := a2) (by decide) (hs_a2.mono hF5 hM)) (fun hN32 => ?_)
  obtain ⟨ol8, H, HKl8⟩ := andThen_some H
  refine Cd.loop (σ := Nat × Nat × Unit) (fun (i8, k8, _u) => [(0, .int .i64 a0), (1, .int .i64 a1), (22, Sl.v s_a2), (23, .int .i64 (a2.length : Int)), (24, .int .i64 (i8 : Int))]) (fun (i8, k8, _u) => L) (fun _ => (fun (i8, k8, _u) => rangeM (partref_PairsErr_L8 a0 a1 a2) k8 i8 () = some ol8 ∧ i8 + k8 = a2.length)) (fun (i8, k8, _u) => k8) (0, a2.length, ()) ⟨rfl, rfl, rfl, rfl, rfl, trivial⟩ rfl ⟨H, by omega⟩ ?_
  rintro F9 ⟨i8, k8, _u⟩ hF10 ⟨H, hik8⟩
  refine Cd.as (e' := [(0, .int .i64 a0), (1, .int .i64 a1), (22, Sl.v s_a2), (23, .int .i64 (a2.length : Int)), (24, .int .i64 (i8 : Int))]) (L' := L) ⟨rfl, rfl, rfl, rfl, rfl, trivial⟩ rfl ?_
  rcases k8 with _ | k8
  · have hc8 : decide ((i8 : Int) < (a2.length : Int)) = false := decide_eq_false (by omega)
    replace H := rangeM_end H
    refine Cd.seq ?_
    refine Cd.region ?_
    refine Lst.run rfl rfl (by decide) (Ev.lss rfl rfl) ?_
    refine Lst.nil ?_
    refine At.then ?_
    refine Cd.seq ?_
    refine Cd.condF rfl hc8 ?_
    refine Cd.exit ?_
    refine At.then_exit ?_
    refine At.then_exit ?_
    refine At.in_exit ?_
    subst H
    replace H := HKl8
    refine At.then ?_
    refine Cd.seq ?_
    refine Cd.region ?_
    refine Lst.run rfl rfl (by decide) (Ev.assign rfl) ?_
    refine Lst.nil ?_
    refine At.then ?_
    obtain rfl := some_inj H
    refine Cd.ret ?_
    exact At.ret1 rfl (Res.tmp rfl) (FLe.trans hF5 hF10) (List.Sublist.refl _) ⟨rfl, rfl⟩
  have hc8 : decide ((i8 : Int) < (a2.length : Int)) = true := decide_eq_true (by omega)
  obtain ⟨c8, H, hgo8, hbrk8, hret8⟩ := rangeM_go H
  unfold partref_PairsErr_L8 at H
  try dsimp only at H
  refine Cd.seq ?_
  refine Cd.region ?_
  refine Lst.run rfl rfl (by decide) (Ev.lss rfl rfl) ?_
  refine Lst.nil ?_
  refine At.then ?_
  refine Cd.seq ?_
  refine Cd.condT rfl hc8 ?_
  refine Cd.skip ?_
  refine At.then ?_
  refine Cd.seq ?_
  refine Cd.block ?_
  refine Cd.seq ?_
  refine Cd.region ?_
  obtain ⟨x11, h12, H⟩ := bind_some H
  have g13 := lat_some h12
  refine Lst.run rfl rfl (by decide) (Ev.indexS (α := Pair) (xs := a2) rfl rfl Try.runUnderlying22 Try.sizeOf49 rfl (by decide) (hs_a2.mono (FLe.trans hF5 hF10) hM) g13.1 g13.2.1) ?_
  refine Lst.run rfl rfl (by decide) (Ev.loadSA (α := Pair) rfl (hs_a2.mono (FLe.trans hF5 hF10) hM) Try.isAgg49 Try.sizeOf49 (ch := enc x11) (Enc.len _) (by decide) ((Get.elemN (s := 2) rfl g13.2.2 (Get.here _)).off (by omega))) ?_
  refine Lst.alloc (cs := enc Pair.zero) rfl rfl (by decide) Try.zeroValue49 rfl (fun b14 => ?_)
  refine Lst.store (i := 0) rfl rfl rfl rfl rfl Try.sizeOf49 (vs := enc x11) rfl (Enc.len _) (Enc.one _) (cs' := enc x11) (Put.here ((Enc.len _).trans (Enc.len _).symm)) (L' := (.blk b14 (enc x11) 49) :: L) rfl ?_
  refine Lst.nil ?_
  refine At.then ?_
  refine Cd.seq ?_
  refine Cd.region ?_
  refine Lst.run rfl rfl (by decide) (Ev.fieldAddr (off' := 0) rfl Try.runUnderlying49 rfl Try.sizeOf3 rfl rfl) ?_
  refine Lst.run rfl rfl (by decide) (Ev.load (i := 0) rfl rfl Try.isAgg3 (v := .int .i64 x11.A) ((Pair.get_A (Get.here _)).off (by rfl))) ?_
  refine Lst.run rfl rfl (by decide) (Ev.lss rfl rfl) ?_
  refine Lst.run rfl rfl (by decide) (Ev.move rfl) ?_
  obtain ⟨o16, H, HKo16⟩ := bind_some H
  refine Lst.join (σ := Bool) 4 (fun y17 => [(0, .int .i64 a0), (1, .int .i64 a1), (8, .pointer (some ⟨b14, 0, none⟩)), (22, Sl.v s_a2), (23, .int .i64 (a2.length : Int)), (24, .int .i64 (i8 : Int)), (35, .bool y17)]) (fun y17 => (.blk b14 (enc x11) 49) :: L) (fun _ y17 => y17 = o16) ?_ ?_
  · rcases Bool.eq_false_or_eq_true (decide (x11.A < (0 : Int))) with hb18 | hb18
    · replace H := ite_t hb18 H
      refine Lst.skip rfl rfl rfl hb18 rfl (by decide) ?_
      refine Lst.skip rfl rfl rfl hb18 rfl (by decide) ?_
      refine Lst.skip rfl rfl rfl hb18 rfl (by decide) ?_
      refine Lst.run rfl rfl (by decide) (Ev.pickT rfl hb18 rfl) ?_
      refine Lst.nil ?_
      exact At.meet true (FLe.refl _) ⟨rfl, rfl, rfl, rfl, rfl, rfl, rfl, trivial⟩ rfl (some_inj H)
    replace H := ite_f hb18 H
    refine Lst.runG rfl rfl rfl hb18 rfl (by decide) (Ev.fieldAddr (off' := 1) rfl Try.runUnderlying49 rfl Try.sizeOf3 rfl rfl) ?_
    refine Lst.runG rfl rfl rfl hb18 rfl (by decide) (Ev.load (i := 0) rfl rfl Try.isAgg3 (v := .int .i64 x11.B) ((Pair.get_B (Get.here _)).off (by rfl))) ?_
    refine Lst.runG rfl rfl rfl hb18 rfl (by decide) (Ev.lss rfl rfl) ?_
    refine Lst.run rfl rfl (by decide) (Ev.pickF rfl hb18 rfl) ?_
    refine Lst.nil ?_
    exact At.meet (decide (x11.B < (0 : Int))) (FLe.refl _) ⟨rfl, rfl, rfl, rfl, rfl, rfl, rfl, trivial⟩ rfl (some_inj H)
  rintro F19 y17 hF20 hy
  subst hy
  refine Lst.as (e' := [(0, .int .i64 a0), (1, .int .i64 a1), (8, .pointer (some ⟨b14, 0, none⟩)), (22, Sl.v s_a2), (23, .int .i64 (a2.length : Int)), (24, .int .i64 (i8 : Int)), (35, .bool y17)]) (L' := (.blk b14 (enc x11) 49) :: L) ⟨rfl, rfl, rfl, rfl, rfl, rfl, rfl, trivial⟩ rfl ?_
  replace H := HKo16
  refine Lst.run rfl rfl (by decide) (Ev.move rfl) ?_
  obtain ⟨o21, H, HKo21⟩ := bind_some H
  refine Lst.join (σ := Bool) 5 (fun y22 => [(0, .int .i64 a0), (1, .int .i64 a1), (8, .pointer (some ⟨b14, 0, none⟩)), (22, Sl.v s_a2), (23, .int .i64 (a2.length : Int)), (24, .int .i64 (i8 : Int)), (41, .bool y22)]) (fun y22 => (.blk b14 (enc x11) 49) :: L) (fun _ y22 => y22 = o21) ?_ ?_
  · rcases Bool.eq_false_or_eq_true y17 with hb23 | hb23
    · replace H := ite_t hb23 H
      refine Lst.skip rfl rfl rfl hb23 rfl (by decide) ?_
      refine Lst.skip rfl rfl rfl hb23 rfl (by decide) ?_
      refine Lst.skip rfl rfl rfl hb23 rfl (by decide) ?_
      refine Lst.skip rfl rfl rfl hb23 rfl (by decide) ?_
      refine Lst.run rfl rfl (by decide) (Ev.pickT rfl hb23 rfl) ?_
      refine Lst.nil ?_
      exact At.meet true (FLe.refl _) ⟨rfl, rfl, rfl, rfl, rfl, rfl, rfl, trivial⟩ rfl (some_inj H)
    replace H := ite_f hb23 H
    refine Lst.runG rfl rfl rfl hb23 rfl (by decide) (Ev.fieldAddr (off' := 0) rfl Try.runUnderlying49 rfl Try.sizeOf3 rfl rfl) ?_
    refine Lst.runG rfl rfl rfl hb23 rfl (by decide) (Ev.load (i := 0) rfl rfl Try.isAgg3 (v := .int .i64 x11.A) ((Pair.get_A (Get.here _)).off (by rfl))) ?_
    refine Lst.runG rfl rfl rfl hb23 rfl (by decide) (Ev.move rfl) ?_
    refine Lst.runG rfl rfl rfl hb23 rfl (by decide) (Ev.geq rfl rfl) ?_
    refine Lst.run rfl rfl (by decide) (Ev.pickF rfl hb23 rfl) ?_
    refine Lst.nil ?_
    exact At.meet (decide (x11.A ≥ a0)) (FLe.refl _) ⟨rfl, rfl, rfl, rfl, rfl, rfl, rfl, trivial⟩ rfl (some_inj H)
  rintro F24 y22 hF25 hy
  subst hy
  refine Lst.as (e' := [(0, .int .i64 a0), (1, .int .i64 a1), (8, .pointer (some ⟨b14, 0, none⟩)), (22, Sl.v s_a2), (23, .int .i64 (a2.length : Int)), (24, .int .i64 (i8 : Int)), (41, .bool y22)]) (L' := (.blk b14 (enc x11) 49) :: L) ⟨rfl, rfl, rfl, rfl, rfl, rfl, rfl, trivial⟩ rfl ?_
  replace H := HKo21
  refine Lst.run rfl rfl (by decide) (Ev.move rfl) ?_
  obtain ⟨o26, H, HKo26⟩ := bind_some H
  refine Lst.join (σ := Bool) 5 (fun y27 => [(0, .int .i64 a0), (1, .int .i64 a1), (22, Sl.v s_a2), (23, .int .i64 (a2.length : Int)), (24, .int .i64 (i8 : Int)), (47, .bool y27)]) (fun y27 => (.blk b14 (enc x11) 49) :: L) (fun _ y27 => y27 = o26) ?_ ?_
  · rcases Bool.eq_false_or_eq_true y22 with hb28 | hb28
    · replace H := ite_t hb28 H
      refine Lst.skip rfl rfl rfl hb28 rfl (by decide) ?_
      refine Lst.skip rfl rfl rfl hb28 rfl (by decide) ?_
      refine Lst.skip rfl rfl rfl hb28 rfl (by decide) ?_
      refine Lst.skip rfl rfl rfl hb28 rfl (by decide) ?_
      refine Lst.run rfl rfl (by decide) (Ev.pickT rfl hb28 rfl) ?_
      refine Lst.nil ?_
      exact At.meet true (FLe.refl _) ⟨rfl, rfl, rfl, rfl, rfl, rfl, trivial⟩ rfl (some_inj H)
    replace H := ite_f hb28 H
    refine Lst.runG rfl rfl rfl hb28 rfl (by decide) (Ev.fieldAddr (off' := 1) rfl Try.runUnderlying49 rfl Try.sizeOf3 rfl rfl) ?_
    refine Lst.runG rfl rfl rfl hb28 rfl (by decide) (Ev.load (i := 0) rfl rfl Try.isAgg3 (v := .int .i64 x11.B) ((Pair.get_B (Get.here _)).off (by rfl))) ?_
    refine Lst.runG rfl rfl rfl hb28 rfl (by decide) (Ev.move rfl) ?_
    refine Lst.runG rfl rfl rfl hb28 rfl (by decide) (Ev.geq rfl rfl) ?_
    refine Lst.run rfl rfl (by decide) (Ev.pickF rfl hb28 rfl) ?_
    refine Lst.nil ?_
    exact At.meet (decide (x11.B ≥ a1)) (FLe.refl _) ⟨rfl, rfl, rfl, rfl, rfl, rfl, trivial⟩ rfl (some_inj H)
  rintro F29 y27 hF30 hy
  subst hy
  refine Lst.as (e' := [(0, .int .i64 a0), (1, .int .i64 a1), (22, Sl.v s_a2), (23, .int .i64 (a2.length : Int)), (24, .int .i64 (i8 : Int)), (47, .bool y27)]) (L' := (.blk b14 (enc x11) 49) :: L) ⟨rfl, rfl, rfl, rfl, rfl, rfl, trivial⟩ rfl ?_
  replace H := HKo26
  refine Lst.nil ?_
  refine At.then ?_
  rcases Bool.eq_false_or_eq_true y27 with hb31 | hb31
  · replace H := ite_t hb31 H
    refine Cd.condT rfl hb31 ?_
    refine Cd.seq ?_
    refine Cd.region ?_
    refine Lst.run rfl rfl (by decide) (Ev.assign rfl) ?_
    refine Lst.nil ?_
    refine At.then ?_
    have H := hret8 _ (some_inj H).symm
    subst H
    replace H := HKl8
    obtain rfl := some_inj H
    refine Cd.ret ?_
    refine At.in_ret ?_
    refine At.then_ret ?_
    refine At.then_ret ?_
    refine At.in_ret ?_
    refine At.then_ret ?_
    exact At.ret1 rfl (Res.tmp rfl) (FLe.trans (FLe.trans (FLe.trans (FLe.trans hF5 hF10) hF20) hF25) hF30) (List.Sublist.cons _ (List.Sublist.refl _)) ⟨rfl, rfl⟩
  replace H := ite_f hb31 H
  refine Cd.condF rfl hb31 ?_
  refine Cd.skip ?_
  refine At.in_normal ?_
  refine At.then ?_
  refine Cd.region ?_
  refine Lst.run rfl rfl (by decide) (Ev.incr (by omega) rfl rfl) ?_
  refine Lst.run rfl rfl (by decide) (Ev.move rfl) ?_
  refine Lst.nil ?_
  refine At.less (L' := L) (List.Sublist.cons _ (List.Sublist.refl _)) ?_
  exact At.meet (i8 + 1, k8, ()) (FLe.trans (FLe.trans (FLe.trans hF10 hF20) hF25) hF30) ⟨rfl, rfl, rfl, rfl, rfl, trivial⟩ rfl ⟨⟨hgo8 _ (some_inj H).symm, by omega⟩, Nat.lt_succ_self _⟩
set_option maxRecDepth 20000 in
theorem partref_Closure_sim {fu : Nat} {a0 : Int} {a1 : List Pair} {s_a1 : Sl} {r : (List (List Bool))} (H : partref_Closure fu a0 a1 = some r) (w0 : World) (F : Frz) (M L : List Item) (hM : M.Sublist L) (hs_a1 : Rd w0 F M s_a1 a1) : Ok Try.prog w0 45 [.int .i64 a0, Sl.v s_a1] F (L) (fun Fx L' v => ∃ (s94 : Sl) (rs95 : List (LR Bool)), v = Sl.v s94 ∧ L' = (.rows (α := Bool) 4 rs95) :: (.own s94 75 1 (encs rs95)) :: L ∧ rs95.map LR.v = r) := by
  unfold partref_Closure at H
  refine Ok.enter (m := 2) (n := 68) Try.func45 rfl rfl rfl (by decide) ?_
  refine Cd.env (e' := [(0, .int .i64 a0), (1, Sl.v s_a1)]) rfl ?_
  refine Cd.seq ?_
  refine Cd.region ?_
  have ha2 : All LR.rel w0 F [] ([] : List (LR Bool)) := All.nil
  have ha2m : List.map LR.v ([] : List (LR Bool)) = ([] : List (List Bool)) := rfl
  refine Lst.addNil 75 1 ?_
  refine Lst.run rfl rfl (by decide) (Ev.assign rfl) ?_
  refine Lst.nil ?_
  refine At.then ?_
  refine Cd.seq ?_
  refine Cd.region ?_
  refine Lst.run rfl rfl (by decide) (Ev.move rfl) ?_
  obtain ⟨n3, h4, H⟩ := bind_some H
  have g5 := mkLen_some h4
  have hm8 : (List.replicate n3 ((LR.mk [] Sl.nil) : LR Bool)).map LR.v = (List.replicate n3 ([] : List Bool)) := map_rep _ _
  refine Lst.make (α := LR Bool) (z0 := ((LR.mk [] Sl.nil) : LR Bool)) (k := n3) rfl rfl (by decide) (congrArg some (congrArg (Value.int .i64) g5.1)) (congrArg some (congrArg (Value.int .i64) g5.1)) Try.runUnderlying73 Try.typeInfo75 rfl rfl rfl rfl rfl g5.2 rfl (fun s6 => ?_)
  refine Lst.rowsNil Bool 4 n3 ?_
  refine Lst.its (L' := (.rows (α := Bool) 4 (List.replicate n3 ((LR.mk [] Sl.nil) : LR Bool))) :: (.own s6 75 1 (encs (List.replicate n3 ((LR.mk [] Sl.nil) : LR Bool)))) :: (.own Sl.nil 75 1 (encs ([] : List (LR Bool)))) :: L) rfl ?_
  refine Lst.run rfl rfl (by decide) (Ev.assign rfl) ?_
  refine Lst.nil ?_
  refine At.then ?_
  refine Cd.seq ?_
  refine Cd.seq ?_
  refine Cd.region ?_
  refine Lst.run rfl rfl (by decide) (Ev.move rfl) ?_
  refine Lst.run rfl rfl (by decide) (Ev.move rfl) ?_
  refine Lst.nil ?_
  refine At.then ?_
  refine Cd.block ?_
  obtain ⟨nn18, hN93, H⟩ := bind_some H
  replace hN93 := upTo_some hN93
  obtain ⟨ol11, H, HKl11⟩ := bind_some H
  refine Cd.loop (σ := Nat × Nat × Sl × (List (List Bool)) × (List (LR Bool))) (fun (i11, k11, s12, l13, rs14) => [(0, .int .i64 a0), (1, Sl.v s_a1), (5, Sl.v s12), (13, .int .i64 a0), (14, .int .i64 (i11 : Int))]) (fun (i11, k11, s12, l13, rs14) => (.rows (α := Bool) 4 rs14) :: (.own s12 75 1 (encs rs14)) :: (.own Sl.nil 75 1 (encs ([] : List (LR Bool)))) :: L) (fun Fx => (fun (i11, k11, s12, l13, rs14) => rangeF (partref_Closure_L11 fu a0 a1) k11 i11 l13 = some ol11 ∧ i11 + k11 = nn18 ∧ rs14.map LR.v = l13)) (fun (i11, k11, s12, l13, rs14) => k11) (0, nn18, s6, (List.replicate n3 ([] : List Bool)), (List.replicate n3 ((LR.mk [] Sl.nil) : LR Bool))) ⟨rfl, rfl, rfl, rfl, rfl, trivial⟩ rfl ⟨H, by omega, hm8⟩ ?_
  rintro F16 ⟨i11, k11, s12, l13, rs14⟩ hF17 ⟨H, hik11, fm15⟩
  refine Cd.as (e' := [(0, .int .i64 a0), (1, Sl.v s_a1), (5, Sl.v s12), (13, .int .i64 a0), (14, .int .i64 (i11 : Int))]) (L' := (.rows (α := Bool) 4 rs14) :: (.own s12 75 1 (encs rs14)) :: (.own Sl.nil 75 1 (encs ([] : List (LR Bool)))) :: L) ⟨rfl, rfl, rfl, rfl, rfl, trivial⟩ rfl ?_
  rcases k11 with _ | k11
  · have hc11 : decide ((i11 : Int) < a0) = false := decide_eq_false (by omega)
    replace H := rangeF_end H
    refine Cd.seq ?_
    refine Cd.region ?_
    refine Lst.run rfl rfl (by decide) (Ev.lss rfl rfl) ?_
    refine Lst.nil ?_
    refine At.then ?_
    refine Cd.seq ?_
    refine Cd.condF rfl hc11 ?_
    refine Cd.exit ?_
    refine At.then_exit ?_
    refine At.then_exit ?_
    refine At.in_exit ?_
    subst H
    replace H := HKl11
    refine At.then ?_
    refine Cd.seq ?_
    refine Cd.region ?_
    refine Lst.run rfl rfl (by decide) (Ev.move rfl) ?_
    refine Lst.run rfl rfl (by decide) (Ev.assign rfl) ?_
    refine Lst.nil ?_
    refine At.then ?_
    obtain rfl := some_inj H
    refine Cd.ret ?_
    exact At.ret1 rfl (Res.tmp rfl) hF17 (List.Sublist.cons_cons _ (List.Sublist.cons_cons _ (List.Sublist.cons _ (List.Sublist.refl _)))) ⟨s12, rs14, rfl, rfl, fm15⟩
  have hc11 : decide ((i11 : Int) < a0) = true := decide_eq_true (by omega)
  obtain ⟨c11, H, hgo11⟩ := rangeF_go H
  unfold partref_Closure_L11 at H
  try dsimp only at H
  refine Cd.seq ?_
  refine Cd.region ?_
  refine Lst.run rfl rfl (by decide) (Ev.lss rfl rfl) ?_
  refine Lst.nil ?_
  refine At.then ?_
  refine Cd.seq ?_
  refine Cd.condT rfl hc11 ?_
  refine Cd.skip ?_
  refine At.then ?_
  refine Cd.seq ?_
  refine Cd.block ?_
  refine Cd.seq ?_
  refine Cd.region ?_
  refine Lst.run rfl rfl (by decide) (Ev.move rfl) ?_
  refine Lst.run rfl rfl (by decide) (Ev.assign rfl) ?_
  refine Lst.nil ?_
  refine At.then ?_
  refine Cd.seq ?_
  refine Cd.region ?_
  refine Lst.run rfl rfl (by decide) (Ev.move rfl) ?_
  refine Lst.run rfl rfl (by decide) (Ev.move rfl) ?_
  refine Lst.run rfl rfl (by decide) (Ev.move rfl) ?_
  obtain ⟨n19, h20, H⟩ := bind_some H
  have g21 := mkLen_some h20
  refine Lst.make (α := Bool) (z0 := false) (k := n19) rfl rfl (by decide) (congrArg some (congrArg (Value.int .i64) g21.1)) (congrArg some (congrArg (Value.int .i64) g21.1)) Try.runUnderlying75 Try.typeInfo4 rfl rfl rfl rfl rfl g21.2 rfl (fun s22 => ?_)
  obtain ⟨x24, h25, H⟩ := bind_some H
  have g26 := lat_some h25
  obtain ⟨⟨r27v, r27h⟩, r27g, r27e, r27m⟩ := map_get fm15 g26.2.2
  obtain rfl : x24 = r27v := r27e.symm
  refine Lst.run rfl rfl (by decide) (Ev.indexS (α := LR Bool) (xs := rs14) rfl rfl Try.runUnderlying73 Try.sizeOf75 rfl (by decide) (Rd.own (i := 2) rfl rfl rfl) g26.1 (by have := map_len fm15; omega)) ?_
  obtain ⟨p28, h29, H⟩ := Let_some H
  have hm30 : (rs14.set (i11 : Int).toNat (LR.mk (List.replicate n19 false) s22)).map LR.v = p28 := (map_set fm15 _ _).trans h29
  refine Lst.storeS (i := 2) rfl rfl rfl rfl rfl Try.sizeOf75 (vs := [Sl.v s22]) rfl rfl (by decide) rfl (xs' := encs (rs14.set (i11 : Int).toNat (LR.mk (List.replicate n19 false) s22))) ((Put.elemN (s := 1) (y := (LR.mk (List.replicate n19 false) s22)) rfl r27g (Put.here (vs := [Sl.v s22]) rfl)).off (by omega)) (L' := (.own s22 4 1 (encs (List.replicate n19 false))) :: (.rows (α := Bool) 4 rs14) :: (.own s12 75 1 (encs (rs14.set (i11 : Int).toNat (LR.mk (List.replicate n19 false) s22)))) :: (.own Sl.nil 75 1 (encs ([] : List (LR Bool)))) :: L) rfl ?_
  refine Lst.rowIn (k := (i11 : Int).toNat) r27g rfl ?_
  refine Lst.its (L' := (.rows (α := Bool) 4 (rs14.set (i11 : Int).toNat (LR.mk (List.replicate n19 false) s22))) :: (.own s12 75 1 (encs (rs14.set (i11 : Int).toNat (LR.mk (List.replicate n19 false) s22)))) :: (.own Sl.nil 75 1 (encs ([] : List (LR Bool)))) :: L) rfl ?_
  refine Lst.nil ?_
  refine At.then ?_
  refine Cd.seq ?_
  refine Cd.region ?_
  refine Lst.run rfl rfl (by decide) (Ev.move rfl) ?_
  refine Lst.buildSlice (α := Int) (xs := ([(i11 : Int)] : List Int)) (pv := [(0, .int .i64 (i11 : Int))]) rfl rfl (by decide) ⟨rfl, rfl, trivial⟩ (run_buildSlice (α := Int) (z0 := (0 : Int)) (xs := ([(i11 : Int)] : List Int)) Try.runUnderlying34 Try.sizeOf3 Try.zeroValue3 rfl rfl rfl (by decide) rfl (fill_cons (cs := encs (List.replicate 1 (0 : Int))) (cs' := encs ((List.replicate 1 (0 : Int)).set 0 (i11 : Int))) (vs := [.int .i64 (i11 : Int)]) rfl rfl rfl ((Put.elemN (s := 1) (i := 0) (x := (0 : Int)) (y := (i11 : Int)) rfl rfl (Put.here (vs := [.int .i64 (i11 : Int)]) rfl)).off rfl) fill_nil)) rfl rfl (by decide) (fun s31 _ => ?_)
  refine Lst.run rfl rfl (by decide) (Ev.assign rfl) ?_
  refine Lst.nil ?_
  refine At.then ?_
  refine Cd.block ?_
  obtain ⟨ol33, H, HKl33⟩ := andThen_some H
  refine Cd.loop (σ := Nat × Sl × (List Int) × Sl × (List (List Bool)) × (List (LR Bool))) (fun (k33, s34, l35, s36, l37, rs38) => [(0, .int .i64 a0), (1, Sl.v s_a1), (5, Sl.v s36), (6, .int .i64 (i11 : Int)), (7, Sl.v s34), (13, .int .i64 a0), (14, .int .i64 (i11 : Int))]) (fun (k33, s34, l35, s36, l37, rs38) => (.own s34 3 1 (encs l35)) :: (.rows (α := Bool) 4 rs38) :: (.own s36 75 1 (encs rs38)) :: (.own Sl.nil 75 1 (encs ([] : List (LR Bool)))) :: L) (fun Fx => (fun (k33, s34, l35, s36, l37, rs38) => whileM (partref_Closure_L33 a1 i11) k33 (l35, l37) = some ol33 ∧ rs38.map LR.v = l37)) (fun (k33, s34, l35, s36, l37, rs38) => k33) (fu, s31, ([(i11 : Int)] : List Int), s12, p28, (rs14.set (i11 : Int).toNat (LR.mk (List.replicate n19 false) s22))) ⟨rfl, rfl, rfl, rfl, rfl, rfl, rfl, trivial⟩ rfl ⟨H, hm30⟩ ?_
  rintro F40 ⟨k33, s34, l35, s36, l37, rs38⟩ hF41 ⟨H, fm39⟩
  refine Cd.as (e' := [(0, .int .i64 a0), (1, Sl.v s_a1), (5, Sl.v s36), (6, .int .i64 (i11 : Int)), (7, Sl.v s34), (13, .int .i64 a0), (14, .int .i64 (i11 : Int))]) (L' := (.own s34 3 1 (encs l35)) :: (.rows (α := Bool) 4 rs38) :: (.own s36 75 1 (encs rs38)) :: (.own Sl.nil 75 1 (encs ([] : List (LR Bool)))) :: L) ⟨rfl, rfl, rfl, rfl, rfl, rfl, rfl, trivial⟩ rfl ?_
  rcases k33 with _ | k33
  · cases H
  obtain ⟨c33, H, hgo33, hbrk33, hret33⟩ := whileM_go H
  unfold partref_Closure_L33 at H
  try dsimp only at H
  refine Cd.seq ?_
  refine Cd.seq ?_
  refine Cd.region ?_
  refine Lst.run rfl rfl (by decide) (Ev.move rfl) ?_
  refine Lst.run rfl rfl (by decide) (Ev.lenS (α := Int) (xs := l35) (by decide) rfl rfl Try.runUnderlying34 (Rd.own (i := 0) rfl rfl rfl)) ?_
  refine Lst.run rfl rfl (by decide) (Ev.gtr rfl rfl) ?_
  refine Lst.nil ?_
  refine At.then ?_
  rcases (Bool.eq_false_or_eq_true (decide ((l35.length : Int) > (0 : Int)))).symm with hb42 | hb42
  · replace H := ite_f hb42 H
    refine Cd.condF rfl hb42 ?_
    refine Cd.exit ?_
    refine At.then_exit ?_
    refine At.then_exit ?_
    refine At.in_exit ?_
    have H := hbrk33 _ (some_inj H).symm
    subst H
    replace H := HKl33
    refine At.in_normal ?_
    refine At.then ?_
    refine Cd.region ?_
    refine Lst.run rfl rfl (by decide) (Ev.incr (by omega) rfl rfl) ?_
    refine Lst.run rfl rfl (by decide) (Ev.move rfl) ?_
    refine Lst.nil ?_
    refine At.less (L' := (.rows (α := Bool) 4 rs38) :: (.own s36 75 1 (encs rs38)) :: (.own Sl.nil 75 1 (encs ([] : List (LR Bool)))) :: L) (List.Sublist.cons _ (List.Sublist.cons_cons _ (List.Sublist.cons_cons _ (List.Sublist.cons_cons _ (List.Sublist.refl _))))) ?_
    exact At.meet (i11 + 1, k11, s36, l37, rs38) (FLe.trans hF17 hF41) ⟨rfl, rfl, rfl, rfl, rfl, trivial⟩ rfl ⟨⟨hgo11 _ (some_inj H).symm, by omega, fm39⟩, Nat.lt_succ_self _⟩
  replace H := ite_t hb42 H
  refine Cd.condT rfl hb42 ?_
  refine Cd.skip ?_
  refine At.then ?_
  refine Cd.block ?_
  refine Cd.seq ?_
  refine Cd.region ?_
  refine Lst.run rfl rfl (by decide) (Ev.move rfl) ?_
  obtain ⟨x43, h44, H⟩ := bind_some H
  have g45 := lat_some h44
  refine Lst.run rfl rfl (by decide) (Ev.indexS (α := Int) (xs := l35) rfl rfl Try.runUnderlying34 Try.sizeOf3 rfl (by decide) (Rd.own (i := 0) rfl rfl rfl) g45.1 g45.2.1) ?_
  refine Lst.run rfl rfl (by decide) (Ev.loadS (α := Int) rfl (Rd.own (i := 0) rfl rfl rfl) Try.isAgg3 (v := .int .i64 x43) ((Get.elemN (s := 1) rfl g45.2.2 (Get.here _)).off (by omega))) ?_
  refine Lst.run rfl rfl (by decide) (Ev.assign rfl) ?_
  refine Lst.nil ?_
  refine At.then ?_
  refine Cd.seq ?_
  refine Cd.region ?_
  refine Lst.run rfl rfl (by decide) (Ev.move rfl) ?_
  obtain ⟨m46, h47, H⟩ := bind_some H
  obtain ⟨g48, gl49⟩ := cutL_some h47
  refine Lst.run rfl rfl (by decide) (Ev.cut (α := Int) (xs := l35) (i := (1 : Int)) (j := (l35.length : Int)) rfl rfl rfl Try.runUnderlying34 Try.sizeOf3 rfl (by decide) (Rd.own (i := 0) rfl rfl rfl) g48.1 g48.2.1 g48.2.2) ?_
  refine Lst.cutOwn (i := 0) (α := Int) (lo := ((1 : Int) : Int).toNat) (hi := ((l35.length : Int) : Int).toNat) rfl rfl rfl (by decide) (by omega) (by omega) (L' := (.own (s34.cut ((1 : Int) : Int).toNat ((l35.length : Int) : Int).toNat 1) 3 1 (encs m46)) :: (.rows (α := Bool) 4 rs38) :: (.own s36 75 1 (encs rs38)) :: (.own Sl.nil 75 1 (encs ([] : List (LR Bool)))) :: L) (by subst gl49; rfl) ?_
  refine Lst.run rfl rfl (by decide) (Ev.assign rfl) ?_
  refine Lst.nil ?_
  refine At.then ?_
  refine Cd.seq ?_
  refine Cd.region ?_
  refine Lst.run rfl rfl (by decide) (Ev.move rfl) ?_
  refine Lst.run rfl rfl (by decide) (Ev.lenS (α := Pair) (xs := a1) (by decide) rfl rfl Try.runUnderlying22 (hs_a1.mono (FLe.trans hF17 hF41) (List.Sublist.cons _ (List.Sublist.cons _ (List.Sublist.cons _ (List.Sublist.cons _ hM)))))) ?_
  refine Lst.run rfl rfl (by decide) (Ev.move rfl) ?_
  refine Lst.nil ?_
  refine At.then ?_
  refine Cd.block ?_
  refine Cd.bound (Rd.le (α := Pair) (xs := a1) (by decide) (hs_a1.mono (FLe.trans hF17 hF41) (List.Sublist.cons _ (List.Sublist.cons _ (List.Sublist.cons _ (List.Sublist.cons _ hM)))))) (fun hN92 => ?_)
  obtain ⟨ol51, H, HKl51⟩ := bind_some H
  refine Cd.loop (σ := Nat × Nat × Sl × (List Int) × Sl × (List (List Bool)) × (List (LR Bool))) (fun (i51, k51, s52, l53, s54, l55, rs56) => [(0, .int .i64 a0), (1, Sl.v s_a1), (5, Sl.v s54), (6, .int .i64 (i11 : Int)), (7, Sl.v s52), (8, .int .i64 x43), (13, .int .i64 a0), (14, .int .i64 (i11 : Int)), (32, Sl.v s_a1), (33, .int .i64 (a1.length : Int)), (34, .int .i64 (i51 : Int))]) (fun (i51, k51, s52, l53, s54, l55, rs56) => (.own s52 3 1 (encs l53)) :: (.rows (α := Bool) 4 rs56) :: (.own s54 75 1 (encs rs56)) :: (.own Sl.nil 75 1 (encs ([] : List (LR Bool)))) :: L) (fun Fx => (fun (i51, k51, s52, l53, s54, l55, rs56) => rangeF (partref_Closure_L51 a1 i11 x43) k51 i51 (l53, l55) = some ol51 ∧ i51 + k51 = a1.length ∧ rs56.map LR.v = l55)) (fun (i51, k51, s52, l53, s54, l55, rs56) => k51) (0, a1.length, (s34.cut ((1 : Int) : Int).toNat ((l35.length : Int) : Int).toNat 1), m46, s36, l37, rs38) ⟨rfl, rfl, rfl, rfl, rfl, rfl, rfl, rfl, rfl, rfl, rfl, trivial⟩ rfl ⟨H, by omega, fm39⟩ ?_
  rintro F58 ⟨i51, k51, s52, l53, s54, l55, rs56⟩ hF59 ⟨H, hik51, fm57⟩
  refine Cd.as (e' := [(0, .int .i64 a0), (1, Sl.v s_a1), (5, Sl.v s54), (6, .int .i64 (i11 : Int)), (7, Sl.v s52), (8, .int .i64 x43), (13, .int .i64 a0), (14, .int .i64 (i11 : Int)), (32, Sl.v s_a1), (33, .int .i64 (a1.length : Int)), (34, .int .i64 (i51 : Int))]) (L' := (.own s52 3 1 (encs l53)) :: (.rows (α := Bool) 4 rs56) :: (.own s54 75 1 (encs rs56)) :: (.own Sl.nil 75 1 (encs ([] : List (LR Bool)))) :: L) ⟨rfl, rfl, rfl, rfl, rfl, rfl, rfl, rfl, rfl, rfl, rfl, trivial⟩ rfl ?_
  rcases k51 with _ | k51
  · have hc51 : decide ((i51 : Int) < (a1.length : Int)) = false := decide_eq_false (by omega)
    replace H := rangeF_end H
    refine Cd.seq ?_
    refine Cd.region ?_
    refine Lst.run rfl rfl (by decide) (Ev.lss rfl rfl) ?_
    refine Lst.nil ?_
    refine At.then ?_
    refine Cd.seq ?_
    refine Cd.condF rfl hc51 ?_
    refine Cd.exit ?_
    refine At.then_exit ?_
    refine At.then_exit ?_
    refine At.in_exit ?_
    subst H
    replace H := HKl51
    refine At.in_normal ?_
    exact At.meet (k33, s52, l53, s54, l55, rs56) (FLe.trans hF41 hF59) ⟨rfl, rfl, rfl, rfl, rfl, rfl, rfl, trivial⟩ rfl ⟨⟨hgo33 _ (some_inj H).symm, fm57⟩, Nat.lt_succ_self _⟩
  have hc51 : decide ((i51 : Int) < (a1.length : Int)) = true := decide_eq_true (by omega)
  obtain ⟨c51, H, hgo51⟩ := rangeF_go H
  unfold partref_Closure_L51 at H
  try dsimp only at H
  refine Cd.seq ?_
  refine Cd.region ?_
  refine Lst.run rfl rfl (by decide) (Ev.lss rfl rfl) ?_
  refine Lst.nil ?_
  refine At.then ?_
  refine Cd.seq ?_
  refine Cd.condT rfl hc51 ?_
  refine Cd.skip ?_
  refine At.then ?_
  refine Cd.seq ?_
  refine Cd.block ?_
  refine Cd.seq ?_
  refine Cd.region ?_
  obtain ⟨x60, h61, H⟩ := bind_some H
  have g62 := lat_some h61
  refine Lst.run rfl rfl (by decide) (Ev.indexS (α := Pair) (xs := a1) rfl rfl Try.runUnderlying22 Try.sizeOf49 rfl (by decide) (hs_a1.mono (FLe.trans (FLe.trans hF17 hF41) hF59) (List.Sublist.cons _ (List.Sublist.cons _ (List.Sublist.cons _ (List.Sublist.cons _ hM))))) g62.1 g62.2.1) ?_
  refine Lst.run rfl rfl (by decide) (Ev.loadSA (α := Pair) rfl (hs_a1.mono (FLe.trans (FLe.trans hF17 hF41) hF59) (List.Sublist.cons _ (List.Sublist.cons _ (List.Sublist.cons _ (List.Sublist.cons _ hM))))) Try.isAgg49 Try.sizeOf49 (ch := enc x60) (Enc.len _) (by decide) ((Get.elemN (s := 2) rfl g62.2.2 (Get.here _)).off (by omega))) ?_
  refine Lst.alloc (cs := enc Pair.zero) rfl rfl (by decide) Try.zeroValue49 rfl (fun b63 => ?_)
  refine Lst.store (i := 0) rfl rfl rfl rfl rfl Try.sizeOf49 (vs := enc x60) rfl (Enc.len _) (Enc.one _) (cs' := enc x60) (Put.here ((Enc.len _).trans (Enc.len _).symm)) (L' := (.blk b63 (enc x60) 49) :: (.own s52 3 1 (encs l53)) :: (.rows (α := Bool) 4 rs56) :: (.own s54 75 1 (encs rs56)) :: (.own Sl.nil 75 1 (encs ([] : List (LR Bool)))) :: L) rfl ?_
  refine Lst.nil ?_
  refine At.then ?_
  refine Cd.seq ?_
  refine Cd.quiet (by kernel_rfl) (by kernel_rfl) ?_
  refine Qt.run rfl rfl (by decide) (Ev.fieldAddr (off' := 0) rfl Try.runUnderlying49 rfl Try.sizeOf3 rfl rfl) ?_
  refine Qt.run rfl rfl (by decide) (Ev.load (i := 0) rfl rfl Try.isAgg3 (v := .int .i64 x60.A) ((Pair.get_A (Get.here _)).off (by rfl))) ?_
  refine Qt.run rfl rfl (by decide) (Ev.move rfl) ?_
  refine Qt.run rfl rfl (by decide) (Ev.eql rfl rfl) ?_
  refine Qt.run rfl rfl (by decide) (Ev.move rfl) ?_
  obtain ⟨o65, H, HKo65⟩ := bind_some H
  refine Qt.join (σ := Bool) 10 (fun y66 => [(0, .int .i64 a0), (1, Sl.v s_a1), (5, Sl.v s54), (6, .int .i64 (i11 : Int)), (7, Sl.v s52), (8, .int .i64 x43), (10, .pointer (some ⟨b63, 0, none⟩)), (13, .int .i64 a0), (14, .int .i64 (i11 : Int)), (32, Sl.v s_a1), (33, .int .i64 (a1.length : Int)), (34, .int .i64 (i51 : Int)), (52, .bool y66)]) (fun y66 => y66 = o65) ?_ ?_
  · rcases (Bool.eq_false_or_eq_true (x60.A == x43)).symm with hb67 | hb67
    · replace H := ite_f hb67 H
      refine Qt.skip rfl rfl rfl hb67 rfl (by decide) ?_
      refine Qt.skip rfl rfl rfl hb67 rfl (by decide) ?_
      refine Qt.skip rfl rfl rfl hb67 rfl (by decide) ?_
      refine Qt.skip rfl rfl rfl hb67 rfl (by decide) ?_
      refine Qt.skip rfl rfl rfl hb67 rfl (by decide) ?_
      refine Qt.skip rfl rfl rfl hb67 rfl (by decide) ?_
      refine Qt.skip rfl rfl rfl hb67 rfl (by decide) ?_
      refine Qt.skip rfl rfl rfl hb67 rfl (by decide) ?_
      refine Qt.skip rfl rfl rfl hb67 rfl (by decide) ?_
      refine Qt.run rfl rfl (by decide) (Ev.pickF rfl hb67 rfl) ?_
      exact Qt.meet false ⟨rfl, rfl, rfl, rfl, rfl, rfl, rfl, rfl, rfl, rfl, rfl, rfl, rfl, trivial⟩ (some_inj H)
    replace H := ite_t hb67 H
    refine Qt.runG rfl rfl rfl hb67 rfl (by decide) (Ev.move rfl) ?_
    refine Qt.runG rfl rfl rfl hb67 rfl (by decide) (Ev.move rfl) ?_
    obtain ⟨x68, h69, H⟩ := bind_some H
    have g70 := lat_some h69
    obtain ⟨⟨r71v, r71h⟩, r71g, r71e, r71m⟩ := map_get fm57 g70.2.2
    obtain rfl : x68 = r71v := r71e.symm
    refine Qt.runG rfl rfl rfl hb67 rfl (by decide) (Ev.indexS (α := LR Bool) (xs := rs56) rfl rfl Try.runUnderlying73 Try.sizeOf75 rfl (by decide) (Rd.own (i := 3) rfl rfl rfl) g70.1 (by have := map_len fm57; omega)) ?_
    refine Qt.runG rfl rfl rfl hb67 rfl (by decide) (Ev.loadS (α := LR Bool) rfl (Rd.own (i := 3) rfl rfl rfl) Try.isAgg75 (v := Sl.v r71h) ((Get.elemN (s := 1) rfl r71g (Get.here _)).off (by omega))) ?_
    refine Qt.runG rfl rfl rfl hb67 rfl (by decide) (Ev.fieldAddr (off' := 1) rfl Try.runUnderlying49 rfl Try.sizeOf3 rfl rfl) ?_
    refine Qt.runG rfl rfl rfl hb67 rfl (by decide) (Ev.load (i := 0) rfl rfl Try.isAgg3 (v := .int .i64 x60.B) ((Pair.get_B (Get.here _)).off (by rfl))) ?_
    obtain ⟨x72, h73, H⟩ := bind_some H
    have g74 := lat_some h73
    refine Qt.runG rfl rfl rfl hb67 rfl (by decide) (Ev.indexS (α := Bool) (xs := x68) rfl rfl Try.runUnderlying75 Try.sizeOf4 rfl (by decide) (Rd.row (j := 2) rfl r71g) g74.1 g74.2.1) ?_
    refine Qt.runG rfl rfl rfl hb67 rfl (by decide) (Ev.loadS (α := Bool) rfl (Rd.row (j := 2) rfl r71g) Try.isAgg4 (v := .bool x72) ((Get.elemN (s := 1) rfl g74.2.2 (Get.here _)).off (by omega))) ?_
    refine Qt.runG rfl rfl rfl hb67 rfl (by decide) (Ev.not rfl) ?_
    refine Qt.run rfl rfl (by decide) (Ev.pickT rfl hb67 rfl) ?_
    exact Qt.meet (!x72) ⟨rfl, rfl, rfl, rfl, rfl, rfl, rfl, rfl, rfl, rfl, rfl, rfl, rfl, trivial⟩ (some_inj H)
  rintro y66 hy
  subst hy
  refine Qt.as (e' := [(0, .int .i64 a0), (1, Sl.v s_a1), (5, Sl.v s54), (6, .int .i64 (i11 : Int)), (7, Sl.v s52), (8, .int .i64 x43), (10, .pointer (some ⟨b63, 0, none⟩)), (13, .int .i64 a0), (14, .int .i64 (i11 : Int)), (32, Sl.v s_a1), (33, .int .i64 (a1.length : Int)), (34, .int .i64 (i51 : Int)), (52, .bool y66)]) ⟨rfl, rfl, rfl, rfl, rfl, rfl, rfl, rfl, rfl, rfl, rfl, rfl, rfl, trivial⟩ ?_
  replace H := HKo65
  refine Qt.done ?_
  refine At.then ?_
  rcases (Bool.eq_false_or_eq_true y66).symm with hb75 | hb75
  · replace H := ite_f hb75 H
    refine Cd.condF rfl hb75 ?_
    refine Cd.skip ?_
    refine At.in_normal ?_
    refine At.then ?_
    refine Cd.region ?_
    refine Lst.run rfl rfl (by decide) (Ev.incr (by omega) rfl rfl) ?_
    refine Lst.run rfl rfl (by decide) (Ev.move rfl) ?_
    refine Lst.nil ?_
    refine At.less (L' := (.own s52 3 1 (encs l53)) :: (.rows (α := Bool) 4 rs56) :: (.own s54 75 1 (encs rs56)) :: (.own Sl.nil 75 1 (encs ([] : List (LR Bool)))) :: L) (List.Sublist.cons _ (List.Sublist.cons_cons _ (List.Sublist.cons_cons _ (List.Sublist.cons_cons _ (List.Sublist.cons_cons _ (List.Sublist.refl _)))))) ?_
    exact At.meet (i51 + 1, k51, s52, l53, s54, l55, rs56) hF59 ⟨rfl, rfl, rfl, rfl, rfl, rfl, rfl, rfl, rfl, rfl, rfl, trivial⟩ rfl ⟨⟨hgo51 _ (some_inj H).symm, by omega, fm57⟩, Nat.lt_succ_self _⟩
  replace H := ite_t hb75 H
  refine Cd.condT rfl hb75 ?_
  refine Cd.seq ?_
  refine Cd.tail 7 (by kernel_rfl) (by kernel_rfl) ?_
  refine Qt.run rfl rfl (by decide) (Ev.move rfl) ?_
  refine Qt.run rfl rfl (by decide) (Ev.move rfl) ?_
  obtain ⟨x76, h77, H⟩ := bind_some H
  have g78 := lat_some h77
  obtain ⟨⟨r79v, r79h⟩, r79g, r79e, r79m⟩ := map_get fm57 g78.2.2
  obtain rfl : x76 = r79v := r79e.symm
  refine Qt.run rfl rfl (by decide) (Ev.indexS (α := LR Bool) (xs := rs56) rfl rfl Try.runUnderlying73 Try.sizeOf75 rfl (by decide) (Rd.own (i := 3) rfl rfl rfl) g78.1 (by have := map_len fm57; omega)) ?_
  refine Qt.run rfl rfl (by decide) (Ev.loadS (α := LR Bool) rfl (Rd.own (i := 3) rfl rfl rfl) Try.isAgg75 (v := Sl.v r79h) ((Get.elemN (s := 1) rfl r79g (Get.here _)).off (by omega))) ?_
  refine Qt.run rfl rfl (by decide) (Ev.fieldAddr (off' := 1) rfl Try.runUnderlying49 rfl Try.sizeOf3 rfl rfl) ?_
  refine Qt.run rfl rfl (by decide) (Ev.load (i := 0) rfl rfl Try.isAgg3 (v := .int .i64 x60.B) ((Pair.get_B (Get.here _)).off (by rfl))) ?_
  obtain ⟨x80, h81, H⟩ := bind_some H
  have g82 := lat_some h81
  refine Qt.run rfl rfl (by decide) (Ev.indexS (α := Bool) (xs := x76) rfl rfl Try.runUnderlying75 Try.sizeOf4 rfl (by decide) (Rd.row (j := 2) rfl r79g) g82.1 g82.2.1) ?_
  refine Qt.tail ?_
  obtain ⟨p83, h84, H⟩ := Let_some H
  have hm85 : (rs56.set (i11 : Int).toNat (LR.mk (x76.set x60.B.toNat true) r79h)).map LR.v = p83 := (map_set fm57 _ _).trans h84
  refine Lst.front (i := 2) rfl (L' := (.rows (α := Bool) 4 rs56) :: (.blk b63 (enc x60) 49) :: (.own s52 3 1 (encs l53)) :: (.own s54 75 1 (encs rs56)) :: (.own Sl.nil 75 1 (encs ([] : List (LR Bool)))) :: L) rfl ?_
  refine Lst.storeR (α := Bool) rfl rfl rfl rfl r79g Try.sizeOf4 (vs := [.bool true]) rfl rfl (by decide) rfl (xs' := (x76.set x60.B.toNat true)) ((Put.elemN (s := 1) rfl g82.2.2 (Put.here (vs := [.bool true]) rfl)).off (by omega)) ?_
  refine Lst.its (L' := (.rows (α := Bool) 4 (rs56.set (i11 : Int).toNat (LR.mk (x76.set x60.B.toNat true) r79h))) :: (.blk b63 (enc x60) 49) :: (.own s52 3 1 (encs l53)) :: (.own s54 75 1 (encs (rs56.set (i11 : Int).toNat (LR.mk (x76.set x60.B.toNat true) r79h)))) :: (.own Sl.nil 75 1 (encs ([] : List (LR Bool)))) :: L) (by rw [show encs (rs56.set (i11 : Int).toNat (LR.mk (x76.set x60.B.toNat true) r79h)) = encs rs56 from encs_rowv r79g]) ?_
  refine Lst.nil ?_
  refine At.then ?_
  refine Cd.region ?_
  refine Lst.run rfl rfl (by decide) (Ev.move rfl) ?_
  refine Lst.run rfl rfl (by decide) (Ev.fieldAddr (off' := 1) rfl Try.runUnderlying49 rfl Try.sizeOf3 rfl rfl) ?_
  refine Lst.run rfl rfl (by decide) (Ev.load (i := 1) rfl rfl Try.isAgg3 (v := .int .i64 x60.B) ((Pair.get_B (Get.here _)).off (by rfl))) ?_
  refine Lst.buildSlice (α := Int) (xs := ([x60.B] : List Int)) (pv := [(0, .int .i64 x60.B)]) rfl rfl (by decide) ⟨rfl, rfl, trivial⟩ (run_buildSlice (α := Int) (z0 := (0 : Int)) (xs := ([x60.B] : List Int)) Try.runUnderlying34 Try.sizeOf3 Try.zeroValue3 rfl rfl rfl (by decide) rfl (fill_cons (cs := encs (List.replicate 1 (0 : Int))) (cs' := encs ((List.replicate 1 (0 : Int)).set 0 x60.B)) (vs := [.int .i64 x60.B]) rfl rfl rfl ((Put.elemN (s := 1) (i := 0) (x := (0 : Int)) (y := x60.B) rfl rfl (Put.here (vs := [.int .i64 x60.B]) rfl)).off rfl) fill_nil)) rfl rfl (by decide) (fun s87 _ => ?_)
  obtain ⟨u89, h90, H⟩ := bind_some H
  refine Lst.append (i := 3) (α := Int) (xs := l53) (ys := ([x60.B] : List Int)) rfl rfl (by decide) rfl rfl Try.runUnderlying34 Try.typeInfo3 rfl rfl rfl rfl rfl rfl (Rd.own (i := 0) rfl rfl rfl) rfl (room_some h90) rfl (fun s91 => ?_)
  refine Lst.its (L' := (.own s87 3 1 (encs ([x60.B] : List Int))) :: (.rows (α := Bool) 4 (rs56.set (i11 : Int).toNat (LR.mk (x76.set x60.B.toNat true) r79h))) :: (.blk b63 (enc x60) 49) :: (.own s91 3 1 (encs (l53 ++ ([x60.B] : List Int)))) :: (.own s54 75 1 (encs (rs56.set (i11 : Int).toNat (LR.mk (x76.set x60.B.toNat true) r79h)))) :: (.own Sl.nil 75 1 (encs ([] : List (LR Bool)))) :: L) rfl ?_
  refine Lst.run rfl rfl (by decide) (Ev.assign rfl) ?_
  refine Lst.nil ?_
  refine At.in_normal ?_
  refine At.then ?_
  refine Cd.as (e' := [(0, .int .i64 a0), (1, Sl.v s_a1), (5, Sl.v s54), (6, .int .i64 (i11 : Int)), (8, .int .i64 x43), (13, .int .i64 a0), (14, .int .i64 (i11 : Int)), (32, Sl.v s_a1), (33, .int .i64 (a1.length : Int)), (34, .int .i64 (i51 : Int)), (7, Sl.v s91)]) (L' := (.own s87 3 1 (encs ([x60.B] : List Int))) :: (.rows (α := Bool) 4 (rs56.set (i11 : Int).toNat (LR.mk (x76.set x60.B.toNat true) r79h))) :: (.blk b63 (enc x60) 49) :: (.own s91 3 1 (encs (l53 ++ ([x60.B] : List Int)))) :: (.own s54 75 1 (encs (rs56.set (i11 : Int).toNat (LR.mk (x76.set x60.B.toNat true) r79h)))) :: (.own Sl.nil 75 1 (encs ([] : List (LR Bool)))) :: L) ⟨rfl, rfl, rfl, rfl, rfl, rfl, rfl, rfl, rfl, rfl, rfl, trivial⟩ rfl ?_
  refine Cd.region ?_
  refine Lst.run rfl rfl (by decide) (Ev.incr (by omega) rfl rfl) ?_
  refine Lst.run rfl rfl (by decide) (Ev.move rfl) ?_
  refine Lst.nil ?_
  refine At.front (i := 5) rfl (L' := (.own Sl.nil 75 1 (encs ([] : List (LR Bool)))) :: (.own s87 3 1 (encs ([x60.B] : List Int))) :: (.rows (α := Bool) 4 (rs56.set (i11 : Int).toNat (LR.mk (x76.set x60.B.toNat true) r79h))) :: (.blk b63 (enc x60) 49) :: (.own s91 3 1 (encs (l53 ++ ([x60.B] : List Int)))) :: (.own s54 75 1 (encs (rs56.set (i11 : Int).toNat (LR.mk (x76.set x60.B.toNat true) r79h)))) :: L) rfl ?_
  refine At.front (i := 5) rfl (L' := (.own s54 75 1 (encs (rs56.set (i11 : Int).toNat (LR.mk (x76.set x60.B.toNat true) r79h)))) :: (.own Sl.nil 75 1 (encs ([] : List (LR Bool)))) :: (.own s87 3 1 (encs ([x60.B] : List Int))) :: (.rows (α := Bool) 4 (rs56.set (i11 : Int).toNat (LR.mk (x76.set x60.B.toNat true) r79h))) :: (.blk b63 (enc x60) 49) :: (.own s91 3 1 (encs (l53 ++ ([x60.B] : List Int)))) :: L) rfl ?_
  refine At.front (i := 3) rfl (L' := (.rows (α := Bool) 4 (rs56.set (i11 : Int).toNat (LR.mk (x76.set x60.B.toNat true) r79h))) :: (.own s54 75 1 (encs (rs56.set (i11 : Int).toNat (LR.mk (x76.set x60.B.toNat true) r79h)))) :: (.own Sl.nil 75 1 (encs ([] : List (LR Bool)))) :: (.own s87 3 1 (encs ([x60.B] : List Int))) :: (.blk b63 (enc x60) 49) :: (.own s91 3 1 (encs (l53 ++ ([x60.B] : List Int)))) :: L) rfl ?_
  refine At.front (i := 5) rfl (L' := (.own s91 3 1 (encs (l53 ++ ([x60.B] : List Int)))) :: (.rows (α := Bool) 4 (rs56.set (i11 : Int).toNat (LR.mk (x76.set x60.B.toNat true) r79h))) :: (.own s54 75 1 (encs (rs56.set (i11 : Int).toNat (LR.mk (x76.set x60.B.toNat true) r79h)))) :: (.own Sl.nil 75 1 (encs ([] : List (LR Bool)))) :: (.own s87 3 1 (encs ([x60.B] : List Int))) :: (.blk b63 (enc x60) 49) :: L) rfl ?_
  refine At.less (L' := (.own s91 3 1 (encs (l53 ++ ([x60.B] : List Int)))) :: (.rows (α := Bool) 4 (rs56.set (i11 : Int).toNat (LR.mk (x76.set x60.B.toNat true) r79h))) :: (.own s54 75 1 (encs (rs56.set (i11 : Int).toNat (LR.mk (x76.set x60.B.toNat true) r79h)))) :: (.own Sl.nil 75 1 (encs ([] : List (LR Bool)))) :: L) (List.Sublist.cons_cons _ (List.Sublist.cons_cons _ (List.Sublist.cons_cons _ (List.Sublist.cons_cons _ (List.Sublist.cons _ (List.Sublist.cons _ (List.Sublist.refl _))))))) ?_
  exact At.meet (i51 + 1, k51, s91, l53 ++ ([x60.B] : List Int), s54, p83, (rs56.set (i11 : Int).toNat (LR.mk (x76.set x60.B.toNat true) r79h))) hF59 ⟨rfl, rfl, rfl, rfl, rfl, rfl, rfl, rfl, rfl, rfl, rfl, trivial⟩ rfl ⟨⟨hgo51 _ (some_inj H).symm, by omega, hm85⟩, Nat.lt_succ_self _⟩
set_option maxRecDepth 20000 in
theorem partref_PosetErr_sim {fu : Nat} {a0 : Poset} {s_a0_1 : Sl} {r : Int} (H : partref_PosetErr fu a0 = some r) (w0 : World) (F : Frz) (M L : List Item) (hM : M.Sublist L) (hs_a0_1 : Rd w0 F M s_a0_1 a0.Pairs) : Ok Try.prog w0 9 [.agg (enc (PosetR.mk a0 s_a0_1)).toArray] F (L) (Is (.int .i64 r) (L)) := by
  unfold partref_PosetErr at H
  refine Ok.enter (m := 1) (n := 40) Try.func9 rfl rfl rfl (by decide) ?_
  refine Cd.env (e' := [(0, .agg (enc (PosetR.mk a0 s_a0_1)).toArray)]) rfl ?_
  refine Cd.seq ?_
  refine Cd.region ?_
  refine Lst.box rfl rfl (by decide) rfl (cs := enc (PosetR.mk a0 s_a0_1)) rfl (fun b1 => ?_)
  refine Lst.run rfl rfl (by decide) (Ev.assign rfl) ?_
  refine Lst.nil ?_
  refine At.then ?_
  refine Cd.seq ?_
  refine Cd.seq ?_
  refine Cd.region ?_
  refine Lst.run rfl rfl (by decide) (Ev.fieldAddr (off' := 0) rfl Try.runUnderlying24 rfl Try.sizeOf3 rfl rfl) ?_
  refine Lst.run rfl rfl (by decide) (Ev.load (i := 0) rfl rfl Try.isAgg3 (v := .int .i64 a0.N) ((PosetR.get_N (Get.here _)).off (by rfl))) ?_
  refine Lst.run rfl rfl (by decide) (Ev.lss rfl rfl) ?_
  refine Lst.run rfl rfl (by decide) (Ev.move rfl) ?_
  obtain ⟨o3, H, HKo3⟩ := bind_some H
  refine Lst.join (σ := Bool) 4 (fun y4 => [(1, .pointer (some ⟨b1, 0, none⟩)), (13, .bool y4)]) (fun y4 => (.blk b1 (enc (PosetR.mk a0 s_a0_1)) 24) :: L) (fun _ y4 => y4 = o3) ?_ ?_
  · rcases Bool.eq_false_or_eq_true (decide (a0.N < (0 : Int))) with hb5 | hb5
    · replace H := ite_t hb5 H
      refine Lst.skip rfl rfl rfl hb5 rfl (by decide) ?_
      refine Lst.skip rfl rfl rfl hb5 rfl (by decide) ?_
      refine Lst.skip rfl rfl rfl hb5 rfl (by decide) ?_
      refine Lst.run rfl rfl (by decide) (Ev.pickT rfl hb5 rfl) ?_
      refine Lst.nil ?_
      exact At.meet true (FLe.refl _) ⟨rfl, rfl, trivial⟩ rfl (some_inj H)
    replace H := ite_f hb5 H
    refine Lst.runG rfl rfl rfl hb5 rfl (by decide) (Ev.fieldAddr (off' := 0) rfl Try.runUnderlying24 rfl Try.sizeOf3 rfl rfl) ?_
    refine Lst.runG rfl rfl rfl hb5 rfl (by decide) (Ev.load (i := 0) rfl rfl Try.isAgg3 (v := .int .i64 a0.N) ((PosetR.get_N (Get.here _)).off (by rfl))) ?_
    refine Lst.runG rfl rfl rfl hb5 rfl (by decide) (Ev.gtr rfl rfl) ?_
    refine Lst.run rfl rfl (by decide) (Ev.pickF rfl hb5 rfl) ?_
    refine Lst.nil ?_
    exact At.meet (decide (a0.N > (20 : Int))) (FLe.refl _) ⟨rfl, rfl, trivial⟩ rfl (some_inj H)
  rintro F6 y4 hF7 hy
  subst hy
  refine Lst.as (e' := [(1, .pointer (some ⟨b1, 0, none⟩)), (13, .bool y4)]) (L' := (.blk b1 (enc (PosetR.mk a0 s_a0_1)) 24) :: L) ⟨rfl, rfl, trivial⟩ rfl ?_
  replace H := HKo3
  refine Lst.nil ?_
  refine At.then ?_
  rcases Bool.eq_false_or_eq_true y4 with hb8 | hb8
  · replace H := ite_t hb8 H
    refine Cd.condT rfl hb8 ?_
    refine Cd.seq ?_
    refine Cd.region ?_
    refine Lst.run rfl rfl (by decide) (Ev.assign rfl) ?_
    refine Lst.nil ?_
    refine At.then ?_
    obtain rfl := some_inj H
    refine Cd.ret ?_
    refine At.then_ret ?_
    exact At.ret1 rfl (Res.tmp rfl) hF7 (List.Sublist.cons _ (List.Sublist.refl _)) ⟨rfl, rfl⟩
  replace H := ite_f hb8 H
  refine Cd.condF rfl hb8 ?_
  refine Cd.skip ?_
  refine At.then ?_
  refine Cd.seq ?_
  refine Cd.seq ?_
  refine Cd.region ?_
  refine Lst.run rfl rfl (by decide) (Ev.fieldAddr (off' := 0) rfl Try.runUnderlying24 rfl Try.sizeOf3 rfl rfl) ?_
  refine Lst.run rfl rfl (by decide) (Ev.load (i := 0) rfl rfl Try.isAgg3 (v := .int .i64 a0.N) ((PosetR.get_N (Get.here _)).off (by rfl))) ?_
  refine Lst.run rfl rfl (by decide) (Ev.fieldAddr (off' := 0) rfl Try.runUnderlying24 rfl Try.sizeOf3 rfl rfl) ?_
  refine Lst.run rfl rfl (by decide) (Ev.load (i := 0) rfl rfl Try.isAgg3 (v := .int .i64 a0.N) ((PosetR.get_N (Get.here _)).off (by rfl))) ?_
  refine Lst.run rfl rfl (by decide) (Ev.fieldAddr (off' := 1) rfl Try.runUnderlying24 rfl Try.sizeOf22 rfl rfl) ?_
  refine Lst.run rfl rfl (by decide) (Ev.load (i := 0) rfl rfl Try.isAgg22 (v := Sl.v s_a0_1) ((PosetR.get_Pairs (Get.here _)).off (by rfl))) ?_
  obtain ⟨r9, h10, H⟩ := bind_some H
  refine Lst.call1 rfl rfl (by decide) (vs := [.int .i64 a0.N, .int .i64 a0.N, Sl.v s_a0_1]) ⟨rfl, rfl, rfl, trivial⟩ Try.call34 (partref_PairsErr_sim h10 w0 _ M _ (List.Sublist.cons _ hM) (hs_a0_1.mono hF7 (List.Sublist.refl _))) ?_
  refine Lst.run rfl rfl (by decide) (Ev.assign rfl) ?_
  refine Lst.nil ?_
  refine At.then ?_
  refine Cd.seq ?_
  refine Cd.region ?_
  refine Lst.run rfl rfl (by decide) (Ev.move rfl) ?_
  refine Lst.run rfl rfl (by decide) (Ev.neq rfl rfl) ?_
  refine Lst.nil ?_
  refine At.then ?_
  rcases Bool.eq_false_or_eq_true (r9 != (0 : Int)) with hb13 | hb13
  · replace H := ite_t hb13 H
    refine Cd.condT rfl hb13 ?_
    refine Cd.seq ?_
    refine Cd.region ?_
    refine Lst.run rfl rfl (by decide) (Ev.move rfl) ?_
    refine Lst.run rfl rfl (by decide) (Ev.assign rfl) ?_
    refine Lst.nil ?_
    refine At.then ?_
    obtain rfl := some_inj H
    refine Cd.ret ?_
    refine At.then_ret ?_
    exact At.ret1 rfl (Res.tmp rfl) hF7 (List.Sublist.cons _ (List.Sublist.refl _)) ⟨rfl, rfl⟩
  replace H := ite_f hb13 H
  refine Cd.condF rfl hb13 ?_
  refine Cd.skip ?_
  refine At.then ?_
  refine Cd.seq ?_
  refine Cd.seq ?_
  refine Cd.region ?_
  refine Lst.run rfl rfl (by decide) (Ev.fieldAddr (off' := 0) rfl Try.runUnderlying24 rfl Try.sizeOf3 rfl rfl) ?_
  refine Lst.run rfl rfl (by decide) (Ev.load (i := 0) rfl rfl Try.isAgg3 (v := .int .i64 a0.N) ((PosetR.get_N (Get.here _)).off (by rfl))) ?_
  refine Lst.run rfl rfl (by decide) (Ev.fieldAddr (off' := 1) rfl Try.runUnderlying24 rfl Try.sizeOf22 rfl rfl) ?_
  refine Lst.run rfl rfl (by decide) (Ev.load (i := 0) rfl rfl Try.isAgg22 (v := Sl.v s_a0_1) ((PosetR.get_Pairs (Get.here _)).off (by rfl))) ?_
  obtain ⟨r14, h15, H⟩ := bind_some H
  refine Lst.call rfl rfl (by decide) (vs := [.int .i64 a0.N, Sl.v s_a0_1]) ⟨rfl, rfl, trivial⟩ Try.call45 (partref_Closure_sim h15 w0 _ M _ (List.Sublist.cons _ hM) (hs_a0_1.mono hF7 (List.Sublist.refl _))) (fun F21 L' v hF22 hv => ?_)
  obtain ⟨s16, rs17, rfl, rfl, fm18⟩ := hv
  refine Lst.run rfl rfl (by decide) (Ev.lenM (map_len fm18) (Ev.lenS (α := LR Bool) (xs := rs17) (by decide) rfl rfl Try.runUnderlying73 (Rd.own (i := 1) rfl rfl rfl))) ?_
  refine Lst.run rfl rfl (by decide) (Ev.move rfl) ?_
  refine Lst.nil ?_
  refine At.then ?_
  refine Cd.block ?_
  refine Cd.bound (Rd.le (α := LR Bool) (xs := rs17) (by decide) (Rd.own (i := 1) rfl rfl rfl)) (fun hN35 => ?_)
  rw [map_len fm18] at hN35
  obtain ⟨ol24, H, HKl24⟩ := andThen_some H
  refine Cd.loop (σ := Nat × Nat × Unit) (fun (i24, k24, _u) => [(28, Sl.v s16), (29, .int .i64 (r14.length : Int)), (30, .int .i64 (i24 : Int))]) (fun (i24, k24, _u) => (.rows (α := Bool) 4 rs17) :: (.own s16 75 1 (encs rs17)) :: (.blk b1 (enc (PosetR.mk a0 s_a0_1)) 24) :: L) (fun _ => (fun (i24, k24, _u) => rangeM (partref_PosetErr_L24 r14) k24 i24 () = some ol24 ∧ i24 + k24 = r14.length)) (fun (i24, k24, _u) => k24) (0, r14.length, ()) ⟨rfl, rfl, rfl, trivial⟩ rfl ⟨H, by omega⟩ ?_
  rintro F25 ⟨i24, k24, _u⟩ hF26 ⟨H, hik24⟩
  refine Cd.as (e' := [(28, Sl.v s16), (29, .int .i64 (r14.length : Int)), (30, .int .i64 (i24 : Int))]) (L' := (.rows (α := Bool) 4 rs17) :: (.own s16 75 1 (encs rs17)) :: (.blk b1 (enc (PosetR.mk a0 s_a0_1)) 24) :: L) ⟨rfl, rfl, rfl, trivial⟩ rfl ?_
  rcases k24 with _ | k24
  · have hc24 : decide ((i24 : Int) < (r14.length : Int)) = false := decide_eq_false (by omega)
    replace H := rangeM_end H
    refine Cd.seq ?_
    refine Cd.region ?_
    refine Lst.run rfl rfl (by decide) (Ev.lss rfl rfl) ?_
    refine Lst.nil ?_
    refine At.then ?_
    refine Cd.seq ?_
    refine Cd.condF rfl hc24 ?_
    refine Cd.exit ?_
    refine At.then_exit ?_
    refine At.then_exit ?_
    refine At.in_exit ?_
    subst H
    replace H := HKl24
    refine At.then ?_
    refine Cd.seq ?_
    refine Cd.region ?_
    refine Lst.run rfl rfl (by decide) (Ev.assign rfl) ?_
    refine Lst.nil ?_
    refine At.then ?_
    obtain rfl := some_inj H
    refine Cd.ret ?_
    exact At.ret1 rfl (Res.tmp rfl) (FLe.trans (FLe.trans hF7 hF22) hF26) (List.Sublist.cons _ (List.Sublist.cons _ (List.Sublist.cons _ (List.Sublist.refl _)))) ⟨rfl, rfl⟩
  have hc24 : decide ((i24 : Int) < (r14.length : Int)) = true := decide_eq_true (by omega)
  obtain ⟨c24, H, hgo24, hbrk24, hret24⟩ := rangeM_go H
  unfold partref_PosetErr_L24 at H
  try dsimp only at H
  refine Cd.seq ?_
  refine Cd.region ?_
  refine Lst.run rfl rfl (by decide) (Ev.lss rfl rfl) ?_
  refine Lst.nil ?_
  refine At.then ?_
  refine Cd.seq ?_
  refine Cd.condT rfl hc24 ?_
  refine Cd.skip ?_
  refine At.then ?_
  refine Cd.seq ?_
  refine Cd.block ?_
  refine Cd.seq ?_
  refine Cd.region ?_
  refine Lst.run rfl rfl (by decide) (Ev.move rfl) ?_
  obtain ⟨x27, h28, H⟩ := bind_some H
  have g29 := lat_some h28
  obtain ⟨⟨r30v, r30h⟩, r30g, r30e, r30m⟩ := map_get fm18 g29.2.2
  obtain rfl : x27 = r30v := r30e.symm
  refine Lst.run rfl rfl (by decide) (Ev.indexS (α := LR Bool) (xs := rs17) rfl rfl Try.runUnderlying73 Try.sizeOf75 rfl (by decide) (Rd.own (i := 1) rfl rfl rfl) g29.1 (by have := map_len fm18; omega)) ?_
  refine Lst.run rfl rfl (by decide) (Ev.loadS (α := LR Bool) rfl (Rd.own (i := 1) rfl rfl rfl) Try.isAgg75 (v := Sl.v r30h) ((Get.elemN (s := 1) rfl r30g (Get.here _)).off (by omega))) ?_
  refine Lst.run rfl rfl (by decide) (Ev.assign rfl) ?_
  refine Lst.run rfl rfl (by decide) (Ev.assign rfl) ?_
  refine Lst.nil ?_
  refine At.then ?_
  refine Cd.seq ?_
  refine Cd.region ?_
  refine Lst.run rfl rfl (by decide) (Ev.move rfl) ?_
  refine Lst.run rfl rfl (by decide) (Ev.move rfl) ?_
  obtain ⟨x31, h32, H⟩ := bind_some H
  have g33 := lat_some h32
  refine Lst.run rfl rfl (by decide) (Ev.indexS (α := Bool) (xs := x27) rfl rfl Try.runUnderlying75 Try.sizeOf4 rfl (by decide) (Rd.row (j := 0) rfl r30g) g33.1 g33.2.1) ?_
  refine Lst.run rfl rfl (by decide) (Ev.loadS (α := Bool) rfl (Rd.row (j := 0) rfl r30g) Try.isAgg4 (v := .bool x31) ((Get.elemN (s := 1) rfl g33.2.2 (Get.here _)).off (by omega))) ?_
  refine Lst.nil ?_
  refine At.then ?_
  rcases Bool.eq_false_or_eq_true x31 with hb34 | hb34
  · replace H := ite_t hb34 H
    refine Cd.condT rfl hb34 ?_
    refine Cd.seq ?_
    refine Cd.region ?_
    refine Lst.run rfl rfl (by decide) (Ev.assign rfl) ?_
    refine Lst.nil ?_
    refine At.then ?_
    have H := hret24 _ (some_inj H).symm
    subst H
    replace H := HKl24
    obtain rfl := some_inj H
    refine Cd.ret ?_
    refine At.in_ret ?_
    refine At.then_ret ?_
    refine At.then_ret ?_
    refine At.in_ret ?_
    refine At.then_ret ?_
    exact At.ret1 rfl (Res.tmp rfl) (FLe.trans (FLe.trans hF7 hF22) hF26) (List.Sublist.cons _ (List.Sublist.cons _ (List.Sublist.cons _ (List.Sublist.refl _)))) ⟨rfl, rfl⟩
  replace H := ite_f hb34 H
  refine Cd.condF rfl hb34 ?_
  refine Cd.skip ?_
  refine At.in_normal ?_
  refine At.then ?_
  refine Cd.region ?_
  refine Lst.run rfl rfl (by decide) (Ev.incr (by omega) rfl rfl) ?_
  refine Lst.run rfl rfl (by decide) (Ev.move rfl) ?_
  refine Lst.nil ?_
  exact At.meet (i24 + 1, k24, ()) hF26 ⟨rfl, rfl, rfl, trivial⟩ rfl ⟨⟨hgo24 _ (some_inj H).symm, by omega⟩, Nat.lt_succ_self _⟩
set_option maxRecDepth 20000 in
theorem match_in_sim {a0 : Int} {a1 : Int} {a2 : Int} {r : Bool} (H : match_in a0 a1 a2 = some r) (w0 : World) (F : Frz) (M L : List Item) (hM : M.Sublist L) : Ok Try.prog w0 62 [.int .i64 a0, .int .i64 a1, .int .i64 a2] F (L) (Is (.bool r) (L)) := by
  unfold match_in at H
  refine Ok.enter (m := 3) (n := 15) Try.func62 rfl rfl rfl (by decide) ?_
  refine Cd.env (e' := [(0, .int .i64 a0), (1, .int .i64 a1), (2, .int .i64 a2)]) rfl ?_
  refine Cd.seq ?_
  refine Cd.region ?_
  refine Lst.run rfl rfl (by decide) (Ev.assign rfl) ?_
  refine Lst.nil ?_
  refine At.then ?_
  refine Cd.seq ?_
  refine Cd.region ?_
  refine Lst.run rfl rfl (by decide) (Ev.move rfl) ?_
  refine Lst.run rfl rfl (by decide) (Ev.move rfl) ?_
  refine Lst.run rfl rfl (by decide) (Ev.geq rfl rfl) ?_
  refine Lst.run rfl rfl (by decide) (Ev.move rfl) ?_
  obtain ⟨o1, H, HKo1⟩ := bind_some H
  refine Lst.join (σ := Bool) 4 (fun y2 => [(14, .bool y2)]) (fun y2 => L) (fun _ y2 => y2 = o1) ?_ ?_
  · rcases (Bool.eq_false_or_eq_true (decide (a0 ≥ a1))).symm with hb3 | hb3
    · replace H := ite_f hb3 H
      refine Lst.skip rfl rfl rfl hb3 rfl (by decide) ?_
      refine Lst.skip rfl rfl rfl hb3 rfl (by decide) ?_
      refine Lst.skip rfl rfl rfl hb3 rfl (by decide) ?_
      refine Lst.run rfl rfl (by decide) (Ev.pickF rfl hb3 rfl) ?_
      refine Lst.nil ?_
      exact At.meet false (FLe.refl _) ⟨rfl, trivial⟩ rfl (some_inj H)
    replace H := ite_t hb3 H
    refine Lst.runG rfl rfl rfl hb3 rfl (by decide) (Ev.move rfl) ?_
    refine Lst.runG rfl rfl rfl hb3 rfl (by decide) (Ev.move rfl) ?_
    refine Lst.runG rfl rfl rfl hb3 rfl (by decide) (Ev.leq rfl rfl) ?_
    refine Lst.run rfl rfl (by decide) (Ev.pickT rfl hb3 rfl) ?_
    refine Lst.nil ?_
    exact At.meet (decide (a0 ≤ a2)) (FLe.refl _) ⟨rfl, trivial⟩ rfl (some_inj H)
  rintro F4 y2 hF5 hy
  subst hy
  refine Lst.as (e' := [(14, .bool y2)]) (L' := L) ⟨rfl, trivial⟩ rfl ?_
  replace H := HKo1
  refine Lst.run rfl rfl (by decide) (Ev.assign rfl) ?_
  refine Lst.nil ?_
  refine At.then ?_
  obtain rfl := some_inj H
  refine Cd.ret ?_
  exact At.ret1 rfl (Res.tmp rfl) hF5 (List.Sublist.refl _) ⟨rfl, rfl⟩
set_option maxRecDepth 20000 in
theorem match_Check_1_sim {a0 : Pair} {a1 : Int} {a2 : Int} {b_a1 : Nat} {b_a2 : Nat} {r : Bool} (H : match_Check_1 a0 a1 a2 = some r) (w0 : World) (F : Frz) (M L : List Item) (hM : M.Sublist L) : Ok Try.prog w0 64 [.agg (enc a0).toArray, .pointer (some ⟨b_a1, 0, none⟩), .pointer (some ⟨b_a2, 0, none⟩)] F ((.blk b_a1 (enc a1) 3) :: (.blk b_a2 (enc a2) 3) :: L) (Is (.bool r) ((.blk b_a1 (enc a1) 3) :: (.blk b_a2 (enc a2) 3) :: L)) := by
  unfold match_Check_1 at H
  refine Ok.enter (m := 3) (n := 19) Try.func64 rfl rfl rfl (by decide) ?_
  refine Cd.env (e' := [(0, .agg (enc a0).toArray), (1, .pointer (some ⟨b_a1, 0, none⟩)), (2, .pointer (some ⟨b_a2, 0, none⟩))]) rfl ?_
  refine Cd.seq ?_
  refine Cd.region ?_
  refine Lst.box rfl rfl (by decide) rfl (cs := enc a0) rfl (fun b3 => ?_)
  refine Lst.run rfl rfl (by decide) (Ev.assign rfl) ?_
  refine Lst.nil ?_
  refine At.then ?_
  refine Cd.seq ?_
  refine Cd.region ?_
  refine Lst.run rfl rfl (by decide) (Ev.fieldAddr (off' := 0) rfl Try.runUnderlying49 rfl Try.sizeOf3 rfl rfl) ?_
  refine Lst.run rfl rfl (by decide) (Ev.load (i := 0) rfl rfl Try.isAgg3 (v := .int .i64 a0.A) ((Pair.get_A (Get.here _)).off (by rfl))) ?_
  refine Lst.run rfl rfl (by decide) (Ev.load (i := 1) rfl rfl Try.isAgg3 (v := .int .i64 a1) (Get.here _)) ?_
  refine Lst.run rfl rfl (by decide) (Ev.sub rfl rfl) ?_
  obtain ⟨r5, h6, H⟩ := bind_some H
  refine Lst.call1 rfl rfl (by decide) (vs := [.int .i64 a0.A, .int .i64 (0 : Int), .int .i64 (w64 (a1 - (1 : Int)))]) ⟨rfl, rfl, rfl, trivial⟩ Try.call62 (match_in_sim h6 w0 _ M _ (List.Sublist.cons _ (List.Sublist.cons _ (List.Sublist.cons _ hM)))) ?_
  refine Lst.run rfl rfl (by decide) (Ev.not rfl) ?_
  refine Lst.run rfl rfl (by decide) (Ev.move rfl) ?_
  obtain ⟨o9, H, HKo9⟩ := bind_some H
  refine Lst.join (σ := Bool) 7 (fun y10 => [(18, .bool y10)]) (fun y10 => (.blk b3 (enc a0) 49) :: (.blk b_a1 (enc a1) 3) :: (.blk b_a2 (enc a2) 3) :: L) (fun _ y10 => y10 = o9) ?_ ?_
  · rcases Bool.eq_false_or_eq_true (!r5) with hb11 | hb11
    · replace H := ite_t hb11 H
      refine Lst.skip rfl rfl rfl hb11 rfl (by decide) ?_
      refine Lst.skip rfl rfl rfl hb11 rfl (by decide) ?_
      refine Lst.skip rfl rfl rfl hb11 rfl (by decide) ?_
      refine Lst.skip rfl rfl rfl hb11 rfl (by decide) ?_
      refine Lst.skip rfl rfl rfl hb11 rfl (by decide) ?_
      refine Lst.skip rfl rfl rfl hb11 rfl (by decide) ?_
      refine Lst.run rfl rfl (by decide) (Ev.pickT rfl hb11 rfl) ?_
      refine Lst.nil ?_
      exact At.meet true (FLe.refl _) ⟨rfl, trivial⟩ rfl (some_inj H)
    replace H := ite_f hb11 H
    refine Lst.runG rfl rfl rfl hb11 rfl (by decide) (Ev.fieldAddr (off' := 1) rfl Try.runUnderlying49 rfl Try.sizeOf3 rfl rfl) ?_
    refine Lst.runG rfl rfl rfl hb11 rfl (by decide) (Ev.load (i := 0) rfl rfl Try.isAgg3 (v := .int .i64 a0.B) ((Pair.get_B (Get.here _)).off (by rfl))) ?_
    refine Lst.runG rfl rfl rfl hb11 rfl (by decide) (Ev.load (i := 2) rfl rfl Try.isAgg3 (v := .int .i64 a2) (Get.here _)) ?_
    refine Lst.runG rfl rfl rfl hb11 rfl (by decide) (Ev.sub rfl rfl) ?_
    obtain ⟨r12, h13, H⟩ := bind_some H
    refine Lst.call1G rfl rfl rfl hb11 rfl (by decide) (vs := [.int .i64 a0.B, .int .i64 (0 : Int), .int .i64 (w64 (a2 - (1 : Int)))]) ⟨rfl, rfl, rfl, trivial⟩ Try.call62 (match_in_sim h13 w0 _ M _ (List.Sublist.cons _ (List.Sublist.cons _ (List.Sublist.cons _ hM)))) ?_
    refine Lst.runG rfl rfl rfl hb11 rfl (by decide) (Ev.not rfl) ?_
    refine Lst.run rfl rfl (by decide) (Ev.pickF rfl hb11 rfl) ?_
    refine Lst.nil ?_
    exact At.meet (!r12) (FLe.refl _) ⟨rfl, trivial⟩ rfl (some_inj H)
  rintro F16 y10 hF17 hy
  subst hy
  refine Lst.as (e' := [(18, .bool y10)]) (L' := (.blk b3 (enc a0) 49) :: (.blk b_a1 (enc a1) 3) :: (.blk b_a2 (enc a2) 3) :: L) ⟨rfl, trivial⟩ rfl ?_
  replace H := HKo9
  refine Lst.run rfl rfl (by decide) (Ev.assign rfl) ?_
  refine Lst.nil ?_
  refine At.then ?_
  obtain rfl := some_inj H
  refine Cd.ret ?_
  exact At.ret1 rfl (Res.tmp rfl) hF17 (List.Sublist.cons _ (List.Sublist.cons_cons _ (List.Sublist.cons_cons _ (List.Sublist.refl _)))) ⟨rfl, rfl⟩
set_option maxRecDepth 20000 in
theorem slices_IndexFunc_api_Pair_api_Pair_Check_1_sim {a0 : List Pair} {a1_c0 : Int} {a1_c1 : Int} {s_a0 : Sl} {b_a1_c0 : Nat} {b_a1_c1 : Nat} {r : Int} (H : slices_IndexFunc_api_Pair_api_Pair_Check_1 a0 a1_c0 a1_c1 = some r) (w0 : World) (F : Frz) (M L : List Item) (hM : M.Sublist L) (hs_a0 : Rd w0 F M s_a0 a0) : Ok Try.prog w0 78 [Sl.v s_a0, .func (.func 64) #[] #[.pointer (some ⟨b_a1_c0, 0, none⟩), .pointer (some ⟨b_a1_c1, 0, none⟩)]] F ((.blk b_a1_c0 (enc a1_c0) 3) :: (.blk b_a1_c1 (enc a1_c1) 3) :: L) (Is (.int .i64 r) ((.blk b_a1_c0 (enc a1_c0) 3) :: (.blk b_a1_c1 (enc a1_c1) 3) :: L)) := by
  unfold slices_IndexFunc_api_Pair_api_Pair_Check_1 at H
  refine Ok.enter (m := 2) (n := 19) Try.func78 rfl rfl rfl (by decide) ?_
  refine Cd.env (e' := [(0, Sl.v s_a0), (1, .func (.func 64) #[] #[.pointer (some ⟨b_a1_c0, 0, none⟩), .pointer (some ⟨b_a1_c1, 0, none⟩)])]) rfl ?_
  refine Cd.seq ?_
  refine Cd.region ?_
  refine Lst.run rfl rfl (by decide) (Ev.assign rfl) ?_
  refine Lst.nil ?_
  refine At.then ?_
  refine Cd.seq ?_
  refine Cd.seq ?_
  refine Cd.region ?_
  refine Lst.run rfl rfl (by decide) (Ev.move rfl) ?_
  refine Lst.run rfl rfl (by decide) (Ev.lenS (α := Pair) (xs := a0) (by decide) rfl rfl Try.runUnderlying22 (hs_a0.mono (FLe.refl _) (List.Sublist.cons _ (List.Sublist.cons _ hM)))) ?_
  refine Lst.run rfl rfl (by decide) (Ev.move rfl) ?_
  refine Lst.nil ?_
  refine At.then ?_
  refine Cd.block ?_
  refine Cd.bound (Rd.le (α := Pair) (xs := a0) (by decide) (hs_a0.mono (FLe.refl _) (List.Sublist.cons _ (List.Sublist.cons _ hM)))) (fun hN14 => ?_)
  obtain ⟨ol3, H, HKl3⟩ := andThen_some H
  refine Cd.loop (σ := Nat × Nat × Unit) (fun (i3, k3, _u) => [(0, Sl.v s_a0), (1, .func (.func 64) #[] #[.pointer (some ⟨b_a1_c0, 0, none⟩), .pointer (some ⟨b_a1_c1, 0, none⟩)]), (7, .int .i64 (a0.length : Int)), (8, .int .i64 (i3 : Int))]) (fun (i3, k3, _u) => (.blk b_a1_c0 (enc a1_c0) 3) :: (.blk b_a1_c1 (enc a1_c1) 3) :: L) (fun _ => (fun (i3, k3, _u) => rangeM (slices_IndexFunc_api_Pair_api_Pair_Check_1_L3 a0 a1_c0 a1_c1) k3 i3 () = some ol3 ∧ i3 + k3 = a0.length)) (fun (i3, k3, _u) => k3) (0, a0.length, ()) ⟨rfl, rfl, rfl, rfl, trivial⟩ rfl ⟨H, by omega⟩ ?_
  rintro F4 ⟨i3, k3, _u⟩ hF5 ⟨H, hik3⟩
  refine Cd.as (e' := [(0, Sl.v s_a0), (1, .func (.func 64) #[] #[.pointer (some ⟨b_a1_c0, 0, none⟩), .pointer (some ⟨b_a1_c1, 0, none⟩)]), (7, .int .i64 (a0.length : Int)), (8, .int .i64 (i3 : Int))]) (L' := (.blk b_a1_c0 (enc a1_c0) 3) :: (.blk b_a1_c1 (enc a1_c1) 3) :: L) ⟨rfl, rfl, rfl, rfl, trivial⟩ rfl ?_
  rcases k3 with _ | k3
  · have hc3 : decide ((i3 : Int) < (a0.length : Int)) = false := decide_eq_false (by omega)
    replace H := rangeM_end H
    refine Cd.seq ?_
    refine Cd.region ?_
    refine Lst.run rfl rfl (by decide) (Ev.lss rfl rfl) ?_
    refine Lst.nil ?_
    refine At.then ?_
    refine Cd.seq ?_
    refine Cd.condF rfl hc3 ?_
    refine Cd.exit ?_
    refine At.then_exit ?_
    refine At.then_exit ?_
    refine At.in_exit ?_
    subst H
    replace H := HKl3
    refine At.then ?_
    refine Cd.seq ?_
    refine Cd.region ?_
    refine Lst.run rfl rfl (by decide) (Ev.assign rfl) ?_
    refine Lst.nil ?_
    refine At.then ?_
    obtain rfl := some_inj H
    refine Cd.ret ?_
    exact At.ret1 rfl (Res.tmp rfl) hF5 (List.Sublist.cons_cons _ (List.Sublist.cons_cons _ (List.Sublist.refl _))) ⟨rfl, rfl⟩
  have hc3 : decide ((i3 : Int) < (a0.length : Int)) = true := decide_eq_true (by omega)
  obtain ⟨c3, H, hgo3, hbrk3, hret3⟩ := rangeM_go H
  unfold slices_IndexFunc_api_Pair_api_Pair_Check_1_L3 at H
  try dsimp only at H
  refine Cd.seq ?_
  refine Cd.region ?_
  refine Lst.run rfl rfl (by decide) (Ev.lss rfl rfl) ?_
  refine Lst.nil ?_
  refine At.then ?_
  refine Cd.seq ?_
  refine Cd.condT rfl hc3 ?_
  refine Cd.skip ?_
  refine At.then ?_
  refine Cd.seq ?_
  refine Cd.block ?_
  refine Cd.seq ?_
  refine Cd.region ?_
  refine Lst.run rfl rfl (by decide) (Ev.move rfl) ?_
  refine Lst.run rfl rfl (by decide) (Ev.assign rfl) ?_
  refine Lst.nil ?_
  refine At.then ?_
  refine Cd.seq ?_
  refine Cd.region ?_
  refine Lst.run rfl rfl (by decide) (Ev.move rfl) ?_
  refine Lst.run rfl rfl (by decide) (Ev.move rfl) ?_
  refine Lst.run rfl rfl (by decide) (Ev.move rfl) ?_
  obtain ⟨x6, h7, H⟩ := bind_some H
  have g8 := lat_some h7
  refine Lst.run rfl rfl (by decide) (Ev.indexS (α := Pair) (xs := a0) rfl rfl Try.runUnderlying22 Try.sizeOf49 rfl (by decide) (hs_a0.mono hF5 (List.Sublist.cons _ (List.Sublist.cons _ hM))) g8.1 g8.2.1) ?_
  refine Lst.run rfl rfl (by decide) (Ev.loadSA (α := Pair) rfl (hs_a0.mono hF5 (List.Sublist.cons _ (List.Sublist.cons _ hM))) Try.isAgg49 Try.sizeOf49 (ch := enc x6) (Enc.len _) (by decide) ((Get.elemN (s := 2) rfl g8.2.2 (Get.here _)).off (by omega))) ?_
  obtain ⟨r9, h10, H⟩ := bind_some H
  refine Lst.callV1 rfl rfl (by decide) (vs := [.agg (enc x6).toArray]) (cs := [.pointer (some ⟨b_a1_c0, 0, none⟩), .pointer (some ⟨b_a1_c1, 0, none⟩)]) rfl ⟨rfl, trivial⟩ Try.call64 (match_Check_1_sim h10 w0 _ M _ hM) ?_
  refine Lst.nil ?_
  refine At.then ?_
  rcases Bool.eq_false_or_eq_true r9 with hb13 | hb13
  · replace H := ite_t hb13 H
    refine Cd.condT rfl hb13 ?_
    refine Cd.seq ?_
    refine Cd.region ?_
    refine Lst.run rfl rfl (by decide) (Ev.move rfl) ?_
    refine Lst.run rfl rfl (by decide) (Ev.assign rfl) ?_
    refine Lst.nil ?_
    refine At.then ?_
    have H := hret3 _ (some_inj H).symm
    subst H
    replace H := HKl3
    obtain rfl := some_inj H
    refine Cd.ret ?_
    refine At.in_ret ?_
    refine At.then_ret ?_
    refine At.then_ret ?_
    refine At.in_ret ?_
    refine At.then_ret ?_
    exact At.ret1 rfl (Res.tmp rfl) hF5 (List.Sublist.cons_cons _ (List.Sublist.cons_cons _ (List.Sublist.refl _))) ⟨rfl, rfl⟩
  replace H := ite_f hb13 H
  refine Cd.condF rfl hb13 ?_
  refine Cd.skip ?_
  refine At.in_normal ?_
  refine At.then ?_
  refine Cd.region ?_
  refine Lst.run rfl rfl (by decide) (Ev.incr (by omega) rfl rfl) ?_
  refine Lst.run rfl rfl (by decide) (Ev.move rfl) ?_
  refine Lst.nil ?_
  exact At.meet (i3 + 1, k3, ()) hF5 ⟨rfl, rfl, rfl, rfl, trivial⟩ rfl ⟨⟨hgo3 _ (some_inj H).symm, by omega⟩, Nat.lt_succ_self _⟩
set_option maxRecDepth 20000 in
theorem slices_ContainsFunc_api_Pair_api_Pair_Check_1_sim {a0 : List Pair} {a1_c0 : Int} {a1_c1 : Int} {s_a0 : Sl} {b_a1_c0 : Nat} {b_a1_c1 : Nat} {r : Bool} (H : slices_ContainsFunc_api_Pair_api_Pair_Check_1 a0 a1_c0 a1_c1 = some r) (w0 : World) (F : Frz) (M L : List Item) (hM : M.Sublist L) (hs_a0 : Rd w0 F M s_a0 a0) : Ok Try.prog w0 63 [Sl.v s_a0, .func (.func 64) #[] #[.pointer (some ⟨b_a1_c0, 0, none⟩), .pointer (some ⟨b_a1_c1, 0, none⟩)]] F ((.blk b_a1_c0 (enc a1_c0) 3) :: (.blk b_a1_c1 (enc a1_c1) 3) :: L) (Is (.bool r) ((.blk b_a1_c0 (enc a1_c0) 3) :: (.blk b_a1_c1 (enc a1_c1) 3) :: L)) := by
  unfold slices_ContainsFunc_api_Pair_api_Pair_Check_1 at H
  refine Ok.enter (m := 2) (n := 9) Try.func63 rfl rfl rfl (by decide) ?_
  refine Cd.env (e' := [(0, Sl.v s_a0), (1, .func (.func 64) #[] #[.pointer (some ⟨b_a1_c0, 0, none⟩), .pointer (some ⟨b_a1_c1, 0, none⟩)])]) rfl ?_
  refine Cd.seq ?_
  refine Cd.region ?_
  refine Lst.run rfl rfl (by decide) (Ev.assign rfl) ?_
  refine Lst.nil ?_
  refine At.then ?_
  refine Cd.seq ?_
  refine Cd.region ?_
  refine Lst.run rfl rfl (by decide) (Ev.move rfl) ?_
  refine Lst.run rfl rfl (by decide) (Ev.move rfl) ?_
  obtain ⟨r3, h4, H⟩ := bind_some H
  refine Lst.call1 rfl rfl (by decide) (vs := [Sl.v s_a0, .func (.func 64) #[] #[.pointer (some ⟨b_a1_c0, 0, none⟩), .pointer (some ⟨b_a1_c1, 0, none⟩)]]) ⟨rfl, rfl, trivial⟩ Try.call78 (slices_IndexFunc_api_Pair_api_Pair_Check_1_sim h4 w0 _ M _ hM (hs_a0.mono (FLe.refl _) (List.Sublist.refl _))) ?_
  refine Lst.run rfl rfl (by decide) (Ev.geq rfl rfl) ?_
  refine Lst.run rfl rfl (by decide) (Ev.assign rfl) ?_
  refine Lst.nil ?_
  refine At.then ?_
  obtain rfl := some_inj H
  refine Cd.ret ?_
  exact At.ret1 rfl (Res.tmp rfl) (FLe.refl _) (List.Sublist.cons_cons _ (List.Sublist.cons_cons _ (List.Sublist.refl _))) ⟨rfl, rfl⟩
set_option maxRecDepth 20000 in
theorem match_Check_sim {a0 : Int} {a1 : Int} {a2 : List Pair} {s_a2 : Sl} {r : Int} (H : match_Check a0 a1 a2 = some r) (w0 : World) (F : Frz) (M L : List Item) (hM : M.Sublist L) (hs_a2 : Rd w0 F M s_a2 a2) : Ok Try.prog w0 37 [.int .i64 a0, .int .i64 a1, Sl.v s_a2] F (L) (Is (.int .i64 r) (L)) := by
  unfold match_Check at H
  refine Ok.enter (m := 3) (n := 24) Try.func37 rfl rfl rfl (by decide) ?_
  refine Cd.env (e' := [(0, .int .i64 a0), (1, .int .i64 a1), (2, Sl.v s_a2)]) rfl ?_
  refine Cd.seq ?_
  refine Cd.region ?_
  refine Lst.box rfl rfl (by decide) rfl (cs := enc a0) rfl (fun b1 => ?_)
  refine Lst.box rfl rfl (by decide) rfl (cs := enc a1) rfl (fun b3 => ?_)
  refine Lst.run rfl rfl (by decide) (Ev.assign rfl) ?_
  refine Lst.nil ?_
  refine At.then ?_
  refine Cd.seq ?_
  refine Cd.block ?_
  refine Cd.seq ?_
  refine Cd.region ?_
  refine Lst.run rfl rfl (by decide) (Ev.load (i := 1) rfl rfl Try.isAgg3 (v := .int .i64 a0) (Get.here _)) ?_
  obtain ⟨r5, h6, H⟩ := bind_some H
  refine Lst.call1 rfl rfl (by decide) (vs := [.int .i64 a0, .int .i64 (0 : Int), .int .i64 (40 : Int)]) ⟨rfl, rfl, rfl, trivial⟩ Try.call62 (match_in_sim h6 w0 _ M _ (List.Sublist.cons _ (List.Sublist.cons _ hM))) ?_
  refine Lst.run rfl rfl (by decide) (Ev.not rfl) ?_
  refine Lst.run rfl rfl (by decide) (Ev.move rfl) ?_
  obtain ⟨o9, H, HKo9⟩ := bind_some H
  refine Lst.join (σ := Bool) 4 (fun y10 => [(2, Sl.v s_a2), (3, .pointer (some ⟨b1, 0, none⟩)), (4, .pointer (some ⟨b3, 0, none⟩)), (15, .bool y10)]) (fun y10 => (.blk b3 (enc a1) 3) :: (.blk b1 (enc a0) 3) :: L) (fun _ y10 => y10 = o9) ?_ ?_
  · rcases Bool.eq_false_or_eq_true (!r5) with hb11 | hb11
    · replace H := ite_t hb11 H
      refine Lst.skip rfl rfl rfl hb11 rfl (by decide) ?_
      refine Lst.skip rfl rfl rfl hb11 rfl (by decide) ?_
      refine Lst.skip rfl rfl rfl hb11 rfl (by decide) ?_
      refine Lst.run rfl rfl (by decide) (Ev.pickT rfl hb11 rfl) ?_
      refine Lst.nil ?_
      exact At.meet true (FLe.refl _) ⟨rfl, rfl, rfl, rfl, trivial⟩ rfl (some_inj H)
    replace H := ite_f hb11 H
    refine Lst.runG rfl rfl rfl hb11 rfl (by decide) (Ev.load (i := 0) rfl rfl Try.isAgg3 (v := .int .i64 a1) (Get.here _)) ?_
    obtain ⟨r12, h13, H⟩ := bind_some H
    refine Lst.call1G rfl rfl rfl hb11 rfl (by decide) (vs := [.int .i64 a1, .int .i64 (0 : Int), .int .i64 (40 : Int)]) ⟨rfl, rfl, rfl, trivial⟩ Try.call62 (match_in_sim h13 w0 _ M _ (List.Sublist.cons _ (List.Sublist.cons _ hM))) ?_
    refine Lst.runG rfl rfl rfl hb11 rfl (by decide) (Ev.not rfl) ?_
    refine Lst.run rfl rfl (by decide) (Ev.pickF rfl hb11 rfl) ?_
    refine Lst.nil ?_
    exact At.meet (!r12) (FLe.refl _) ⟨rfl, rfl, rfl, rfl, trivial⟩ rfl (some_inj H)
  rintro F16 y10 hF17 hy
  subst hy
  refine Lst.as (e' := [(2, Sl.v s_a2), (3, .pointer (some ⟨b1, 0, none⟩)), (4, .pointer (some ⟨b3, 0, none⟩)), (15, .bool y10)]) (L' := (.blk b3 (enc a1) 3) :: (.blk b1 (enc a0) 3) :: L) ⟨rfl, rfl, rfl, rfl, trivial⟩ rfl ?_
  replace H := HKo9
  refine Lst.run rfl rfl (by decide) (Ev.assign rfl) ?_
  refine Lst.nil ?_
  refine At.then ?_
  rcases Bool.eq_false_or_eq_true y10 with hb18 | hb18
  · replace H := ite_t hb18 H
    refine Cd.condT rfl hb18 ?_
    refine Cd.seq ?_
    refine Cd.region ?_
    refine Lst.run rfl rfl (by decide) (Ev.assign rfl) ?_
    refine Lst.nil ?_
    refine At.then ?_
    obtain rfl := some_inj H
    refine Cd.ret ?_
    refine At.in_ret ?_
    refine At.then_ret ?_
    exact At.ret1 rfl (Res.tmp rfl) hF17 (List.Sublist.cons _ (List.Sublist.cons _ (List.Sublist.refl _))) ⟨rfl, rfl⟩
  replace H := ite_f hb18 H
  refine Cd.condF rfl hb18 ?_
  refine Cd.seq ?_
  refine Cd.region ?_
  refine Lst.run rfl rfl (by decide) (Ev.move rfl) ?_
  refine Lst.run rfl rfl (by decide) (Ev.lenS (α := Pair) (xs := a2) (by decide) rfl rfl Try.runUnderlying22 (hs_a2.mono hF17 (List.Sublist.cons _ (List.Sublist.cons _ hM)))) ?_
  refine Lst.run rfl rfl (by decide) (Ev.gtr rfl rfl) ?_
  refine Lst.run rfl rfl (by decide) (Ev.assign rfl) ?_
  refine Lst.nil ?_
  refine At.then ?_
  rcases Bool.eq_false_or_eq_true (decide ((a2.length : Int) > (600 : Int))) with hb19 | hb19
  · replace H := ite_t hb19 H
    refine Cd.condT rfl hb19 ?_
    refine Cd.seq ?_
    refine Cd.region ?_
    refine Lst.run rfl rfl (by decide) (Ev.assign rfl) ?_
    refine Lst.nil ?_
    refine At.then ?_
    obtain rfl := some_inj H
    refine Cd.ret ?_
    refine At.in_ret ?_
    refine At.then_ret ?_
    exact At.ret1 rfl (Res.tmp rfl) hF17 (List.Sublist.cons _ (List.Sublist.cons _ (List.Sublist.refl _))) ⟨rfl, rfl⟩
  replace H := ite_f hb19 H
  refine Cd.condF rfl hb19 ?_
  refine Cd.seq ?_
  refine Cd.region ?_
  refine Lst.run rfl rfl (by decide) (Ev.move rfl) ?_
  refine Lst.run rfl rfl (by decide) (Ev.makeFunc (us := []) (vs := [.pointer (some ⟨b1, 0, none⟩), .pointer (some ⟨b3, 0, none⟩)]) trivial ⟨rfl, rfl, trivial⟩) ?_
  obtain ⟨r20, h21, H⟩ := bind_some H
  refine Lst.front (i := 1) rfl (L' := (.blk b1 (enc a0) 3) :: (.blk b3 (enc a1) 3) :: L) rfl ?_
  refine Lst.call1 rfl rfl (by decide) (vs := [Sl.v s_a2, .func (.func 64) #[] #[.pointer (some ⟨b1, 0, none⟩), .pointer (some ⟨b3, 0, none⟩)]]) ⟨rfl, rfl, trivial⟩ Try.call63 (slices_ContainsFunc_api_Pair_api_Pair_Check_1_sim h21 w0 _ M _ hM (hs_a2.mono hF17 (List.Sublist.refl _))) ?_
  refine Lst.run rfl rfl (by decide) (Ev.assign rfl) ?_
  refine Lst.nil ?_
  refine At.then ?_
  rcases Bool.eq_false_or_eq_true r20 with hb24 | hb24
  · replace H := ite_t hb24 H
    refine Cd.condT rfl hb24 ?_
    refine Cd.seq ?_
    refine Cd.region ?_
    refine Lst.run rfl rfl (by decide) (Ev.assign rfl) ?_
    refine Lst.nil ?_
    refine At.then ?_
    obtain rfl := some_inj H
    refine Cd.ret ?_
    refine At.in_ret ?_
    refine At.then_ret ?_
    exact At.ret1 rfl (Res.tmp rfl) hF17 (List.Sublist.cons _ (List.Sublist.cons _ (List.Sublist.refl _))) ⟨rfl, rfl⟩
  replace H := ite_f hb24 H
  refine Cd.condF rfl hb24 ?_
  refine Cd.skip ?_
  refine At.in_normal ?_
  refine At.then ?_
  refine Cd.seq ?_
  refine Cd.region ?_
  refine Lst.run rfl rfl (by decide) (Ev.assign rfl) ?_
  refine Lst.nil ?_
  refine At.then ?_
  obtain rfl := some_inj H
  refine Cd.ret ?_
  exact At.ret1 rfl (Res.tmp rfl) hF17 (List.Sublist.cons _ (List.Sublist.cons _ (List.Sublist.refl _))) ⟨rfl, rfl⟩
set_option maxRecDepth 20000 in
theorem poset_closed_sim {a0 : Poset} {s_a0_1 : Sl} {r : (Vector (Vector Bool 20) 20)} (H : poset_closed a0 = some r) (w0 : World) (F : Frz) (M L : List Item) (hM : M.Sublist L) (hs_a0_1 : Rd w0 F M s_a0_1 a0.Pairs) : Ok Try.prog w0 58 [.agg (enc (PosetR.mk a0 s_a0_1)).toArray] F (L) (Is (.agg (enc r).toArray) (L)) := by
  unfold poset_closed at H
  refine Ok.enter (m := 1) (n := 65) Try.func58 rfl rfl rfl (by decide) ?_
  refine Cd.env (e' := [(0, .agg (enc (PosetR.mk a0 s_a0_1)).toArray)]) rfl ?_
  refine Cd.seq ?_
  refine Cd.region ?_
  refine Lst.box rfl rfl (by decide) rfl (cs := enc (PosetR.mk a0 s_a0_1)) rfl (fun b1 => ?_)
  refine Lst.alloc (z := .agg (enc (Vector.replicate 20 (Vector.replicate 20 false))).toArray) (cs := enc (Vector.replicate 20 (Vector.replicate 20 false))) rfl rfl (by decide) (fun _ => by kernel_rfl) rfl (fun b3 => ?_)
  refine Lst.nil ?_
  refine At.then ?_
  refine Cd.seq ?_
  refine Cd.region ?_
  refine Lst.alloc (z := .agg (enc (Vector.replicate 20 (Vector.replicate 20 false))).toArray) (cs := enc (Vector.replicate 20 (Vector.replicate 20 false))) rfl rfl (by decide) (fun _ => by kernel_rfl) rfl (fun b5 => ?_)
  refine Lst.nil ?_
  refine At.then ?_
  refine Cd.seq ?_
  refine Cd.seq ?_
  refine Cd.region ?_
  refine Lst.run rfl rfl (by decide) (Ev.fieldAddr (off' := 1) rfl Try.runUnderlying24 rfl Try.sizeOf22 rfl rfl) ?_
  refine Lst.run rfl rfl (by decide) (Ev.load (i := 2) rfl rfl Try.isAgg22 (v := Sl.v s_a0_1) ((PosetR.get_Pairs (Get.here _)).off (by rfl))) ?_
  refine Lst.run rfl rfl (by decide) (Ev.lenS (α := Pair) (xs := a0.Pairs) (by decide) rfl rfl Try.runUnderlying22 (hs_a0_1.mono (FLe.refl _) (List.Sublist.cons _ (List.Sublist.cons _ (List.Sublist.cons _ hM))))) ?_
  refine Lst.run rfl rfl (by decide) (Ev.move rfl) ?_
  refine Lst.nil ?_
  refine At.then ?_
  refine Cd.block ?_
  refine Cd.bound (Rd.le (α := Pair) (xs := a0.Pairs) (by decide) (hs_a0_1.mono (FLe.refl _) (List.Sublist.cons _ (List.Sublist.cons _ (List.Sublist.cons _ hM))))) (fun hN74 => ?_)
  obtain ⟨ol7, H, HKl7⟩ := bind_some H
  refine Cd.loop (σ := Nat × Nat × (Vector (Vector Bool 20) 20)) (fun (i7, k7, y8) => [(1, .pointer (some ⟨b1, 0, none⟩)), (2, .pointer (some ⟨b3, 0, none⟩)), (3, .pointer (some ⟨b5, 0, none⟩)), (10, Sl.v s_a0_1), (11, .int .i64 (a0.Pairs.length : Int)), (12, .int .i64 (i7 : Int))]) (fun (i7, k7, y8) => (.blk b5 (enc y8) 89) :: (.blk b3 (enc (Vector.replicate 20 (Vector.replicate 20 false))) 89) :: (.blk b1 (enc (PosetR.mk a0 s_a0_1)) 24) :: L) (fun _ => (fun (i7, k7, y8) => rangeF (poset_closed_L7 a0) k7 i7 y8 = some ol7 ∧ i7 + k7 = a0.Pairs.length)) (fun (i7, k7, y8) => k7) (0, a0.Pairs.length, (Vector.replicate 20 (Vector.replicate 20 false))) ⟨rfl, rfl, rfl, rfl, rfl, rfl, trivial⟩ rfl ⟨H, by omega⟩ ?_
  rintro F9 ⟨i7, k7, y8⟩ hF10 ⟨H, hik7⟩
  refine Cd.as (e' := [(1, .pointer (some ⟨b1, 0, none⟩)), (2, .pointer (some ⟨b3, 0, none⟩)), (3, .pointer (some ⟨b5, 0, none⟩)), (10, Sl.v s_a0_1), (11, .int .i64 (a0.Pairs.length : Int)), (12, .int .i64 (i7 : Int))]) (L' := (.blk b5 (enc y8) 89) :: (.blk b3 (enc (Vector.replicate 20 (Vector.replicate 20 false))) 89) :: (.blk b1 (enc (PosetR.mk a0 s_a0_1)) 24) :: L) ⟨rfl, rfl, rfl, rfl, rfl, rfl, trivial⟩ rfl ?_
  rcases k7 with _ | k7
  · have hc7 : decide ((i7 : Int) < (a0.Pairs.length : Int)) = false := decide_eq_false (by omega)
    replace H := rangeF_end H
    refine Cd.seq ?_
    refine Cd.region ?_
    refine Lst.run rfl rfl (by decide) (Ev.lss rfl rfl) ?_
    refine Lst.nil ?_
    refine At.then ?_
    refine Cd.seq ?_
    refine Cd.condF rfl hc7 ?_
    refine Cd.exit ?_
    refine At.then_exit ?_
    refine At.then_exit ?_
    refine At.in_exit ?_
    subst H
    replace H := HKl7
    refine At.then ?_
    refine Cd.seq ?_
    refine Cd.seq ?_
    refine Cd.region ?_
    refine Lst.run rfl rfl (by decide) (Ev.fieldAddr (off' := 0) rfl Try.runUnderlying24 rfl Try.sizeOf3 rfl rfl) ?_
    refine Lst.run rfl rfl (by decide) (Ev.load (i := 2) rfl rfl Try.isAgg3 (v := .int .i64 a0.N) ((PosetR.get_N (Get.here _)).off (by rfl))) ?_
    refine Lst.run rfl rfl (by decide) (Ev.move rfl) ?_
    refine Lst.nil ?_
    refine At.then ?_
    refine Cd.block ?_
    obtain ⟨nn28, hN73, H⟩ := bind_some H
    replace hN73 := upTo_some hN73
    obtain ⟨ol24, H, HKl24⟩ := bind_some H
    refine Cd.loop (σ := Nat × Nat × (Vector (Vector Bool 20) 20)) (fun (i24, k24, y25) => [(1, .pointer (some ⟨b1, 0, none⟩)), (2, .pointer (some ⟨b3, 0, none⟩)), (3, .pointer (some ⟨b5, 0, none⟩)), (24, .int .i64 a0.N), (25, .int .i64 (i24 : Int))]) (fun (i24, k24, y25) => (.blk b5 (enc y25) 89) :: (.blk b3 (enc (Vector.replicate 20 (Vector.replicate 20 false))) 89) :: (.blk b1 (enc (PosetR.mk a0 s_a0_1)) 24) :: L) (fun _ => (fun (i24, k24, y25) => rangeF (poset_closed_L24 a0) k24 i24 y25 = some ol24 ∧ i24 + k24 = nn28)) (fun (i24, k24, y25) => k24) (0, nn28, y8) ⟨rfl, rfl, rfl, rfl, rfl, trivial⟩ rfl ⟨H, by omega⟩ ?_
    rintro F26 ⟨i24, k24, y25⟩ hF27 ⟨H, hik24⟩
    refine Cd.as (e' := [(1, .pointer (some ⟨b1, 0, none⟩)), (2, .pointer (some ⟨b3, 0, none⟩)), (3, .pointer (some ⟨b5, 0, none⟩)), (24, .int .i64 a0.N), (25, .int .i64 (i24 : Int))]) (L' := (.blk b5 (enc y25) 89) :: (.blk b3 (enc (Vector.replicate 20 (Vector.replicate 20 false))) 89) :: (.blk b1 (enc (PosetR.mk a0 s_a0_1)) 24) :: L) ⟨rfl, rfl, rfl, rfl, rfl, trivial⟩ rfl ?_
    rcases k24 with _ | k24
    · have hc24 : decide ((i24 : Int) < a0.N) = false := decide_eq_false (by omega)
      replace H := rangeF_end H
      refine Cd.seq ?_
      refine Cd.region ?_
      refine Lst.run rfl rfl (by decide) (Ev.lss rfl rfl) ?_
      refine Lst.nil ?_
      refine At.then ?_
      refine Cd.seq ?_
      refine Cd.condF rfl hc24 ?_
      refine Cd.exit ?_
      refine At.then_exit ?_
      refine At.then_exit ?_
      refine At.in_exit ?_
      subst H
      replace H := HKl24
      refine At.then ?_
      refine Cd.seq ?_
      refine Cd.region ?_
      refine Lst.run rfl rfl (by decide) (Ev.loadA (i := 0) rfl rfl Try.isAgg89 Try.sizeOf89 (ch := enc y25) (Enc.len _) (Get.here _)) ?_
      refine Lst.store (i := 1) rfl rfl rfl rfl rfl Try.sizeOf89 (vs := enc y25) rfl (Enc.len _) (Enc.one _) (cs' := enc y25) (Put.here ((Enc.len _).trans (Enc.len _).symm)) (L' := (.blk b5 (enc y25) 89) :: (.blk b3 (enc y25) 89) :: (.blk b1 (enc (PosetR.mk a0 s_a0_1)) 24) :: L) rfl ?_
      refine Lst.nil ?_
      refine At.then ?_
      obtain rfl := some_inj H
      refine Cd.ret ?_
      exact At.ret1 rfl (Res.cellA (i := 1) rfl rfl Try.isAgg89 Try.sizeOf89 (Enc.len _)) (FLe.trans hF10 hF27) (List.Sublist.cons _ (List.Sublist.cons _ (List.Sublist.cons _ (List.Sublist.refl _)))) ⟨rfl, rfl⟩
    have hc24 : decide ((i24 : Int) < a0.N) = true := decide_eq_true (by omega)
    obtain ⟨c24, H, hgo24⟩ := rangeF_go H
    unfold poset_closed_L24 at H
    try dsimp only at H
    refine Cd.seq ?_
    refine Cd.region ?_
    refine Lst.run rfl rfl (by decide) (Ev.lss rfl rfl) ?_
    refine Lst.nil ?_
    refine At.then ?_
    refine Cd.seq ?_
    refine Cd.condT rfl hc24 ?_
    refine Cd.skip ?_
    refine At.then ?_
    refine Cd.seq ?_
    refine Cd.block ?_
    refine Cd.seq ?_
    refine Cd.region ?_
    refine Lst.run rfl rfl (by decide) (Ev.move rfl) ?_
    refine Lst.run rfl rfl (by decide) (Ev.assign rfl) ?_
    refine Lst.nil ?_
    refine At.then ?_
    refine Cd.seq ?_
    refine Cd.region ?_
    refine Lst.run rfl rfl (by decide) (Ev.fieldAddr (off' := 0) rfl Try.runUnderlying24 rfl Try.sizeOf3 rfl rfl) ?_
    refine Lst.run rfl rfl (by decide) (Ev.load (i := 2) rfl rfl Try.isAgg3 (v := .int .i64 a0.N) ((PosetR.get_N (Get.here _)).off (by rfl))) ?_
    refine Lst.run rfl rfl (by decide) (Ev.move rfl) ?_
    refine Lst.nil ?_
    refine At.then ?_
    refine Cd.block ?_
    obtain ⟨nn33, hN72, H⟩ := bind_some H
    replace hN72 := upTo_some hN72
    obtain ⟨ol29, H, HKl29⟩ := bind_some H
    refine Cd.loop (σ := Nat × Nat × (Vector (Vector Bool 20) 20)) (fun (i29, k29, y30) => [(1, .pointer (some ⟨b1, 0, none⟩)), (2, .pointer (some ⟨b3, 0, none⟩)), (3, .pointer (some ⟨b5, 0, none⟩)), (6, .int .i64 (i24 : Int)), (24, .int .i64 a0.N), (25, .int .i64 (i24 : Int)), (29, .int .i64 a0.N), (30, .int .i64 (i29 : Int))]) (fun (i29, k29, y30) => (.blk b5 (enc y30) 89) :: (.blk b3 (enc (Vector.replicate 20 (Vector.replicate 20 false))) 89) :: (.blk b1 (enc (PosetR.mk a0 s_a0_1)) 24) :: L) (fun _ => (fun (i29, k29, y30) => rangeF (poset_closed_L29 a0 i24) k29 i29 y30 = some ol29 ∧ i29 + k29 = nn33)) (fun (i29, k29, y30) => k29) (0, nn33, y25) ⟨rfl, rfl, rfl, rfl, rfl, rfl, rfl, rfl, trivial⟩ rfl ⟨H, by omega⟩ ?_
    rintro F31 ⟨i29, k29, y30⟩ hF32 ⟨H, hik29⟩
    refine Cd.as (e' := [(1, .pointer (some ⟨b1, 0, none⟩)), (2, .pointer (some ⟨b3, 0, none⟩)), (3, .pointer (some ⟨b5, 0, none⟩)), (6, .int .i64 (i24 : Int)), (24, .int .i64 a0.N), (25, .int .i64 (i24 : Int)), (29, .int .i64 a0.N), (30, .int .i64 (i29 : Int))]) (L' := (.blk b5 (enc y30) 89) :: (.blk b3 (enc (Vector.replicate 20 (Vector.replicate 20 false))) 89) :: (.blk b1 (enc (PosetR.mk a0 s_a0_1)) 24) :: L) ⟨rfl, rfl, rfl, rfl, rfl, rfl, rfl, rfl, trivial⟩ rfl ?_
    rcases k29 with _ | k29
    · have hc29 : decide ((i29 : Int) < a0.N) = false := decide_eq_false (by omega)
      replace H := rangeF_end H
      refine Cd.seq ?_
      refine Cd.region ?_
      refine Lst.run rfl rfl (by decide) (Ev.lss rfl rfl) ?_
      refine Lst.nil ?_
      refine At.then ?_
      refine Cd.seq ?_
      refine Cd.condF rfl hc29 ?_
      refine Cd.exit ?_
      refine At.then_exit ?_
      refine At.then_exit ?_
      refine At.in_exit ?_
      subst H
      replace H := HKl29
      refine At.in_normal ?_
      refine At.then ?_
      refine Cd.region ?_
      refine Lst.run rfl rfl (by decide) (Ev.incr (by omega) rfl rfl) ?_
      refine Lst.run rfl rfl (by decide) (Ev.move rfl) ?_
      refine Lst.nil ?_
      exact At.meet (i24 + 1, k24, y30) (FLe.trans hF27 hF32) ⟨rfl, rfl, rfl, rfl, rfl, trivial⟩ rfl ⟨⟨hgo24 _ (some_inj H).symm, by omega⟩, Nat.lt_succ_self _⟩
    have hc29 : decide ((i29 : Int) < a0.N) = true := decide_eq_true (by omega)
    obtain ⟨c29, H, hgo29⟩ := rangeF_go H
    unfold poset_closed_L29 at H
    try dsimp only at H
    refine Cd.seq ?_
    refine Cd.region ?_
    refine Lst.run rfl rfl (by decide) (Ev.lss rfl rfl) ?_
    refine Lst.nil ?_
    refine At.then ?_
    refine Cd.seq ?_
    refine Cd.condT rfl hc29 ?_
    refine Cd.skip ?_
    refine At.then ?_
    refine Cd.seq ?_
    refine Cd.block ?_
    refine Cd.seq ?_
    refine Cd.region ?_
    refine Lst.run rfl rfl (by decide) (Ev.move rfl) ?_
    refine Lst.run rfl rfl (by decide) (Ev.assign rfl) ?_
    refine Lst.nil ?_
    refine At.then ?_
    refine Cd.seq ?_
    refine Cd.region ?_
    refine Lst.run rfl rfl (by decide) (Ev.fieldAddr (off' := 0) rfl Try.runUnderlying24 rfl Try.sizeOf3 rfl rfl) ?_
    refine Lst.run rfl rfl (by decide) (Ev.load (i := 2) rfl rfl Try.isAgg3 (v := .int .i64 a0.N) ((PosetR.get_N (Get.here _)).off (by rfl))) ?_
    refine Lst.run rfl rfl (by decide) (Ev.move rfl) ?_
    refine Lst.nil ?_
    refine At.then ?_
    refine Cd.block ?_
    obtain ⟨nn38, hN71, H⟩ := bind_some H
    replace hN71 := upTo_some hN71
    obtain ⟨ol34, H, HKl34⟩ := bind_some H
    refine Cd.loop (σ := Nat × Nat × (Vector (Vector Bool 20) 20)) (fun (i34, k34, y35) => [(1, .pointer (some ⟨b1, 0, none⟩)), (2, .pointer (some ⟨b3, 0, none⟩)), (3, .pointer (some ⟨b5, 0, none⟩)), (6, .int .i64 (i24 : Int)), (7, .int .i64 (i29 : Int)), (24, .int .i64 a0.N), (25, .int .i64 (i24 : Int)), (29, .int .i64 a0.N), (30, .int .i64 (i29 : Int)), (34, .int .i64 a0.N), (35, .int .i64 (i34 : Int))]) (fun (i34, k34, y35) => (.blk b5 (enc y35) 89) :: (.blk b3 (enc (Vector.replicate 20 (Vector.replicate 20 false))) 89) :: (.blk b1 (enc (PosetR.mk a0 s_a0_1)) 24) :: L) (fun _ => (fun (i34, k34, y35) => rangeF (poset_closed_L34 i24 i29) k34 i34 y35 = some ol34 ∧ i34 + k34 = nn38)) (fun (i34, k34, y35) => k34) (0, nn38, y30) ⟨rfl, rfl, rfl, rfl, rfl, rfl, rfl, rfl, rfl, rfl, rfl, trivial⟩ rfl ⟨H, by omega⟩ ?_
    rintro F36 ⟨i34, k34, y35⟩ hF37 ⟨H, hik34⟩
    refine Cd.as (e' := [(1, .pointer (some ⟨b1, 0, none⟩)), (2, .pointer (some ⟨b3, 0, none⟩)), (3, .pointer (some ⟨b5, 0, none⟩)), (6, .int .i64 (i24 : Int)), (7, .int .i64 (i29 : Int)), (24, .int .i64 a0.N), (25, .int .i64 (i24 : Int)), (29, .int .i64 a0.N), (30, .int .i64 (i29 : Int)), (34, .int .i64 a0.N), (35, .int .i64 (i34 : Int))]) (L' := (.blk b5 (enc y35) 89) :: (.blk b3 (enc (Vector.replicate 20 (Vector.replicate 20 false))) 89) :: (.blk b1 (enc (PosetR.mk a0 s_a0_1)) 24) :: L) ⟨rfl, rfl, rfl, rfl, rfl, rfl, rfl, rfl, rfl, rfl, rfl, trivial⟩ rfl ?_
    rcases k34 with _ | k34
    · have hc34 : decide ((i34 : Int) < a0.N) = false := decide_eq_false (by omega)
      replace H := rangeF_end H
      refine Cd.seq ?_
      refine Cd.region ?_
      refine Lst.run rfl rfl (by decide) (Ev.lss rfl rfl) ?_
      refine Lst.nil ?_
      refine At.then ?_
      refine Cd.seq ?_
      refine Cd.condF rfl hc34 ?_
      refine Cd.exit ?_
      refine At.then_exit ?_
      refine At.then_exit ?_
      refine At.in_exit ?_
      subst H
      replace H := HKl34
      refine At.in_normal ?_
      refine At.then ?_
      refine Cd.region ?_
      refine Lst.run rfl rfl (by decide) (Ev.incr (by omega) rfl rfl) ?_
      refine Lst.run rfl rfl (by decide) (Ev.move rfl) ?_
      refine Lst.nil ?_
      exact At.meet (i29 + 1, k29, y35) (FLe.trans hF32 hF37) ⟨rfl, rfl, rfl, rfl, rfl, rfl, rfl, rfl, trivial⟩ rfl ⟨⟨hgo29 _ (some_inj H).symm, by omega⟩, Nat.lt_succ_self _⟩
    have hc34 : decide ((i34 : Int) < a0.N) = true := decide_eq_true (by omega)
    obtain ⟨c34, H, hgo34⟩ := rangeF_go H
    unfold poset_closed_L34 at H
    try dsimp only at H
    refine Cd.seq ?_
    refine Cd.region ?_
    refine Lst.run rfl rfl (by decide) (Ev.lss rfl rfl) ?_
    refine Lst.nil ?_
    refine At.then ?_
    refine Cd.seq ?_
    refine Cd.condT rfl hc34 ?_
    refine Cd.skip ?_
    refine At.then ?_
    refine Cd.seq ?_
    refine Cd.block ?_
    refine Cd.seq ?_
    refine Cd.region ?_
    refine Lst.run rfl rfl (by decide) (Ev.move rfl) ?_
    refine Lst.run rfl rfl (by decide) (Ev.assign rfl) ?_
    refine Lst.nil ?_
    refine At.then ?_
    refine Cd.tail 23 (by kernel_rfl) (by kernel_rfl) ?_
    refine Qt.run rfl rfl (by decide) (Ev.move rfl) ?_
    refine Qt.run rfl rfl (by decide) (Ev.move rfl) ?_
    refine Qt.run rfl rfl (by decide) (Ev.move rfl) ?_
    refine Qt.run rfl rfl (by decide) (Ev.move rfl) ?_
    obtain ⟨x39, h40, H⟩ := bind_some H
    have g41 := vat_some h40
    refine Qt.run rfl rfl (by decide) (Ev.indexAddr (off' := 0 + (i29 : Int).toNat * 20) rfl rfl Try.runUnderlying89 Try.sizeOf87 g41.1 g41.2.1 rfl) ?_
    obtain ⟨x42, h43, H⟩ := bind_some H
    have g44 := vat_some h43
    refine Qt.run rfl rfl (by decide) (Ev.indexAddr (off' := 0 + (i29 : Int).toNat * 20 + (i34 : Int).toNat * 1) rfl rfl Try.runUnderlying87 Try.sizeOf4 g44.1 g44.2.1 rfl) ?_
    refine Qt.run rfl rfl (by decide) (Ev.load (i := 0) rfl rfl Try.isAgg4 (v := .bool x42) ((Get.vecN (s := 20) rfl g41.2.2 (Get.vecN (s := 1) rfl g44.2.2 (Get.here _))).off (by omega))) ?_
    refine Qt.run rfl rfl (by decide) (Ev.move rfl) ?_
    obtain ⟨o45, H, HKo45⟩ := bind_some H
    refine Qt.join (σ := Bool) 13 (fun y46 => [(1, .pointer (some ⟨b1, 0, none⟩)), (2, .pointer (some ⟨b3, 0, none⟩)), (3, .pointer (some ⟨b5, 0, none⟩)), (6, .int .i64 (i24 : Int)), (7, .int .i64 (i29 : Int)), (24, .int .i64 a0.N), (25, .int .i64 (i24 : Int)), (29, .int .i64 a0.N), (30, .int .i64 (i29 : Int)), (34, .int .i64 a0.N), (35, .int .i64 (i34 : Int)), (38, .int .i64 (i29 : Int)), (39, .int .i64 (i34 : Int)), (58, .bool y46)]) (fun y46 => y46 = o45) ?_ ?_
    · rcases Bool.eq_false_or_eq_true x42 with hb47 | hb47
      · replace H := ite_t hb47 H
        refine Qt.skip rfl rfl rfl hb47 rfl (by decide) ?_
        refine Qt.skip rfl rfl rfl hb47 rfl (by decide) ?_
        refine Qt.skip rfl rfl rfl hb47 rfl (by decide) ?_
        refine Qt.skip rfl rfl rfl hb47 rfl (by decide) ?_
        refine Qt.skip rfl rfl rfl hb47 rfl (by decide) ?_
        refine Qt.skip rfl rfl rfl hb47 rfl (by decide) ?_
        refine Qt.skipU rfl rfl rfl rfl (by decide) ?_
        refine Qt.skipU rfl rfl rfl rfl (by decide) ?_
        refine Qt.skipU rfl rfl rfl rfl (by decide) ?_
        refine Qt.skipU rfl rfl rfl rfl (by decide) ?_
        refine Qt.skipU rfl rfl rfl rfl (by decide) ?_
        refine Qt.skip rfl rfl rfl hb47 rfl (by decide) ?_
        refine Qt.run rfl rfl (by decide) (Ev.pickT rfl hb47 rfl) ?_
        exact Qt.meet true ⟨rfl, rfl, rfl, rfl, rfl, rfl, rfl, rfl, rfl, rfl, rfl, rfl, rfl, rfl, trivial⟩ (some_inj H)
      replace H := ite_f hb47 H
      refine Qt.runG rfl rfl rfl hb47 rfl (by decide) (Ev.move rfl) ?_
      refine Qt.runG rfl rfl rfl hb47 rfl (by decide) (Ev.move rfl) ?_
      obtain ⟨x48, h49, H⟩ := bind_some H
      have g50 := vat_some h49
      refine Qt.runG rfl rfl rfl hb47 rfl (by decide) (Ev.indexAddr (off' := 0 + (i29 : Int).toNat * 20) rfl rfl Try.runUnderlying89 Try.sizeOf87 g50.1 g50.2.1 rfl) ?_
      obtain ⟨x51, h52, H⟩ := bind_some H
      have g53 := vat_some h52
      refine Qt.runG rfl rfl rfl hb47 rfl (by decide) (Ev.indexAddr (off' := 0 + (i29 : Int).toNat * 20 + (i24 : Int).toNat * 1) rfl rfl Try.runUnderlying87 Try.sizeOf4 g53.1 g53.2.1 rfl) ?_
      refine Qt.runG rfl rfl rfl hb47 rfl (by decide) (Ev.load (i := 0) rfl rfl Try.isAgg4 (v := .bool x51) ((Get.vecN (s := 20) rfl g50.2.2 (Get.vecN (s := 1) rfl g53.2.2 (Get.here _))).off (by omega))) ?_
      refine Qt.runG rfl rfl rfl hb47 rfl (by decide) (Ev.move rfl) ?_
      obtain ⟨o54, H, HKo54⟩ := bind_some H
      refine Qt.join (σ := Bool) 6 (fun y55 => [(1, .pointer (some ⟨b1, 0, none⟩)), (2, .pointer (some ⟨b3, 0, none⟩)), (3, .pointer (some ⟨b5, 0, none⟩)), (6, .int .i64 (i24 : Int)), (7, .int .i64 (i29 : Int)), (24, .int .i64 a0.N), (25, .int .i64 (i24 : Int)), (29, .int .i64 a0.N), (30, .int .i64 (i29 : Int)), (34, .int .i64 a0.N), (35, .int .i64 (i34 : Int)), (38, .int .i64 (i29 : Int)), (39, .int .i64 (i34 : Int)), (45, .bool x42), (57, .bool y55)]) (fun y55 => y55 = o54) ?_ ?_
      · rcases (Bool.eq_false_or_eq_true x51).symm with hb56 | hb56
        · replace H := ite_f hb56 H
          refine Qt.skip rfl rfl rfl hb56 rfl (by decide) ?_
          refine Qt.skip rfl rfl rfl hb56 rfl (by decide) ?_
          refine Qt.skip rfl rfl rfl hb56 rfl (by decide) ?_
          refine Qt.skip rfl rfl rfl hb56 rfl (by decide) ?_
          refine Qt.skip rfl rfl rfl hb56 rfl (by decide) ?_
          refine Qt.runG rfl rfl rfl hb47 rfl (by decide) (Ev.pickF rfl hb56 rfl) ?_
          exact Qt.meet false ⟨rfl, rfl, rfl, rfl, rfl, rfl, rfl, rfl, rfl, rfl, rfl, rfl, rfl, rfl, rfl, trivial⟩ (some_inj H)
        replace H := ite_t hb56 H
        refine Qt.runG rfl rfl rfl hb56 rfl (by decide) (Ev.move rfl) ?_
        refine Qt.runG rfl rfl rfl hb56 rfl (by decide) (Ev.move rfl) ?_
        obtain ⟨x57, h58, H⟩ := bind_some H
        have g59 := vat_some h58
        refine Qt.runG rfl rfl rfl hb56 rfl (by decide) (Ev.indexAddr (off' := 0 + (i24 : Int).toNat * 20) rfl rfl Try.runUnderlying89 Try.sizeOf87 g59.1 g59.2.1 rfl) ?_
        obtain ⟨x60, h61, H⟩ := bind_some H
        have g62 := vat_some h61
        refine Qt.runG rfl rfl rfl hb56 rfl (by decide) (Ev.indexAddr (off' := 0 + (i24 : Int).toNat * 20 + (i34 : Int).toNat * 1) rfl rfl Try.runUnderlying87 Try.sizeOf4 g62.1 g62.2.1 rfl) ?_
        refine Qt.runG rfl rfl rfl hb56 rfl (by decide) (Ev.load (i := 0) rfl rfl Try.isAgg4 (v := .bool x60) ((Get.vecN (s := 20) rfl g59.2.2 (Get.vecN (s := 1) rfl g62.2.2 (Get.here _))).off (by omega))) ?_
        refine Qt.runG rfl rfl rfl hb47 rfl (by decide) (Ev.pickT rfl hb56 rfl) ?_
        exact Qt.meet x60 ⟨rfl, rfl, rfl, rfl, rfl, rfl, rfl, rfl, rfl, rfl, rfl, rfl, rfl, rfl, rfl, trivial⟩ (some_inj H)
      rintro y55 hy
      subst hy
      refine Qt.as (e' := [(1, .pointer (some ⟨b1, 0, none⟩)), (2, .pointer (some ⟨b3, 0, none⟩)), (3, .pointer (some ⟨b5, 0, none⟩)), (6, .int .i64 (i24 : Int)), (7, .int .i64 (i29 : Int)), (24, .int .i64 a0.N), (25, .int .i64 (i24 : Int)), (29, .int .i64 a0.N), (30, .int .i64 (i29 : Int)), (34, .int .i64 a0.N), (35, .int .i64 (i34 : Int)), (38, .int .i64 (i29 : Int)), (39, .int .i64 (i34 : Int)), (45, .bool x42), (57, .bool y55)]) ⟨rfl, rfl, rfl, rfl, rfl, rfl, rfl, rfl, rfl, rfl, rfl, rfl, rfl, rfl, rfl, trivial⟩ ?_
      replace H := HKo54
      refine Qt.run rfl rfl (by decide) (Ev.pickF rfl hb47 rfl) ?_
      exact Qt.meet y55 ⟨rfl, rfl, rfl, rfl, rfl, rfl, rfl, rfl, rfl, rfl, rfl, rfl, rfl, rfl, trivial⟩ (some_inj H)
    rintro y46 hy
    subst hy
    refine Qt.as (e' := [(1, .pointer (some ⟨b1, 0, none⟩)), (2, .pointer (some ⟨b3, 0, none⟩)), (3, .pointer (some ⟨b5, 0, none⟩)), (6, .int .i64 (i24 : Int)), (7, .int .i64 (i29 : Int)), (24, .int .i64 a0.N), (25, .int .i64 (i24 : Int)), (29, .int .i64 a0.N), (30, .int .i64 (i29 : Int)), (34, .int .i64 a0.N), (35, .int .i64 (i34 : Int)), (38, .int .i64 (i29 : Int)), (39, .int .i64 (i34 : Int)), (58, .bool y46)]) ⟨rfl, rfl, rfl, rfl, rfl, rfl, rfl, rfl, rfl, rfl, rfl, rfl, rfl, rfl, trivial⟩ ?_
    replace H := HKo45
    obtain ⟨x63, h64, H⟩ := bind_some H
    have g65 := vat_some h64
    refine Qt.run rfl rfl (by decide) (Ev.indexAddr (off' := 0 + (i29 : Int).toNat * 20) rfl rfl Try.runUnderlying89 Try.sizeOf87 g65.1 g65.2.1 rfl) ?_
    obtain ⟨x66, h67, H⟩ := bind_some H
    have g68 := vat_some h67
    refine Qt.run rfl rfl (by decide) (Ev.indexAddr (off' := 0 + (i29 : Int).toNat * 20 + (i34 : Int).toNat * 1) rfl rfl Try.runUnderlying87 Try.sizeOf4 g68.1 g68.2.1 rfl) ?_
    refine Qt.tail ?_
    obtain ⟨p69, h70, H⟩ := Let_some H
    refine Lst.store (i := 0) rfl rfl rfl rfl rfl Try.sizeOf4 (vs := [.bool y46]) rfl rfl rfl (cs' := enc p69) (by rw [← h70]; exact (Put.vecN (s := 20) rfl g65.2.2 (Put.vecN (s := 1) rfl g68.2.2 (Put.here (vs := [.bool y46]) rfl))).off (by omega)) (L' := (.blk b5 (enc p69) 89) :: (.blk b3 (enc (Vector.replicate 20 (Vector.replicate 20 false))) 89) :: (.blk b1 (enc (PosetR.mk a0 s_a0_1)) 24) :: L) rfl ?_
    refine Lst.nil ?_
    refine At.in_normal ?_
    refine At.then ?_
    refine Cd.region ?_
    refine Lst.run rfl rfl (by decide) (Ev.incr (by omega) rfl rfl) ?_
    refine Lst.run rfl rfl (by decide) (Ev.move rfl) ?_
    refine Lst.nil ?_
    exact At.meet (i34 + 1, k34, p69) hF37 ⟨rfl, rfl, rfl, rfl, rfl, rfl, rfl, rfl, rfl, rfl, rfl, trivial⟩ rfl ⟨⟨hgo34 _ (some_inj H).symm, by omega⟩, Nat.lt_succ_self _⟩
  have hc7 : decide ((i7 : Int) < (a0.Pairs.length : Int)) = true := decide_eq_true (by omega)
  obtain ⟨c7, H, hgo7⟩ := rangeF_go H
  unfold poset_closed_L7 at H
  try dsimp only at H
  refine Cd.seq ?_
  refine Cd.region ?_
  refine Lst.run rfl rfl (by decide) (Ev.lss rfl rfl) ?_
  refine Lst.nil ?_
  refine At.then ?_
  refine Cd.seq ?_
  refine Cd.condT rfl hc7 ?_
  refine Cd.skip ?_
  refine At.then ?_
  refine Cd.seq ?_
  refine Cd.block ?_
  refine Cd.seq ?_
  refine Cd.region ?_
  obtain ⟨x11, h12, H⟩ := bind_some H
  have g13 := lat_some h12
  refine Lst.run rfl rfl (by decide) (Ev.indexS (α := Pair) (xs := a0.Pairs) rfl rfl Try.runUnderlying22 Try.sizeOf49 rfl (by decide) (hs_a0_1.mono hF10 (List.Sublist.cons _ (List.Sublist.cons _ (List.Sublist.cons _ hM)))) g13.1 g13.2.1) ?_
  refine Lst.run rfl rfl (by decide) (Ev.loadSA (α := Pair) rfl (hs_a0_1.mono hF10 (List.Sublist.cons _ (List.Sublist.cons _ (List.Sublist.cons _ hM)))) Try.isAgg49 Try.sizeOf49 (ch := enc x11) (Enc.len _) (by decide) ((Get.elemN (s := 2) rfl g13.2.2 (Get.here _)).off (by omega))) ?_
  refine Lst.alloc (cs := enc Pair.zero) rfl rfl (by decide) Try.zeroValue49 rfl (fun b14 => ?_)
  refine Lst.store (i := 0) rfl rfl rfl rfl rfl Try.sizeOf49 (vs := enc x11) rfl (Enc.len _) (Enc.one _) (cs' := enc x11) (Put.here ((Enc.len _).trans (Enc.len _).symm)) (L' := (.blk b14 (enc x11) 49) :: (.blk b5 (enc y8) 89) :: (.blk b3 (enc (Vector.replicate 20 (Vector.replicate 20 false))) 89) :: (.blk b1 (enc (PosetR.mk a0 s_a0_1)) 24) :: L) rfl ?_
  refine Lst.nil ?_
  refine At.then ?_
  refine Cd.tail 6 (by kernel_rfl) (by kernel_rfl) ?_
  refine Qt.run rfl rfl (by decide) (Ev.fieldAddr (off' := 0) rfl Try.runUnderlying49 rfl Try.sizeOf3 rfl rfl) ?_
  refine Qt.run rfl rfl (by decide) (Ev.load (i := 0) rfl rfl Try.isAgg3 (v := .int .i64 x11.A) ((Pair.get_A (Get.here _)).off (by rfl))) ?_
  refine Qt.run rfl rfl (by decide) (Ev.fieldAddr (off' := 1) rfl Try.runUnderlying49 rfl Try.sizeOf3 rfl rfl) ?_
  refine Qt.run rfl rfl (by decide) (Ev.load (i := 0) rfl rfl Try.isAgg3 (v := .int .i64 x11.B) ((Pair.get_B (Get.here _)).off (by rfl))) ?_
  obtain ⟨x16, h17, H⟩ := bind_some H
  have g18 := vat_some h17
  refine Qt.run rfl rfl (by decide) (Ev.indexAddr (off' := 0 + x11.A.toNat * 20) rfl rfl Try.runUnderlying89 Try.sizeOf87 g18.1 g18.2.1 rfl) ?_
  obtain ⟨x19, h20, H⟩ := bind_some H
  have g21 := vat_some h20
  refine Qt.run rfl rfl (by decide) (Ev.indexAddr (off' := 0 + x11.A.toNat * 20 + x11.B.toNat * 1) rfl rfl Try.runUnderlying87 Try.sizeOf4 g21.1 g21.2.1 rfl) ?_
  refine Qt.tail ?_
  obtain ⟨p22, h23, H⟩ := Let_some H
  refine Lst.store (i := 1) rfl rfl rfl rfl rfl Try.sizeOf4 (vs := [.bool true]) rfl rfl rfl (cs' := enc p22) (by rw [← h23]; exact (Put.vecN (s := 20) rfl g18.2.2 (Put.vecN (s := 1) rfl g21.2.2 (Put.here (vs := [.bool true]) rfl))).off (by omega)) (L' := (.blk b14 (enc x11) 49) :: (.blk b5 (enc p22) 89) :: (.blk b3 (enc (Vector.replicate 20 (Vector.replicate 20 false))) 89) :: (.blk b1 (enc (PosetR.mk a0 s_a0_1)) 24) :: L) rfl ?_
  refine Lst.nil ?_
  refine At.in_normal ?_
  refine At.then ?_
  refine Cd.region ?_
  refine Lst.run rfl rfl (by decide) (Ev.incr (by omega) rfl rfl) ?_
  refine Lst.run rfl rfl (by decide) (Ev.move rfl) ?_
  refine Lst.nil ?_
  refine At.less (L' := (.blk b5 (enc p22) 89) :: (.blk b3 (enc (Vector.replicate 20 (Vector.replicate 20 false))) 89) :: (.blk b1 (enc (PosetR.mk a0 s_a0_1)) 24) :: L) (List.Sublist.cons _ (List.Sublist.cons_cons _ (List.Sublist.cons_cons _ (List.Sublist.cons_cons _ (List.Sublist.refl _))))) ?_
  exact At.meet (i7 + 1, k7, p22) hF10 ⟨rfl, rfl, rfl, rfl, rfl, rfl, trivial⟩ rfl ⟨⟨hgo7 _ (some_inj H).symm, by omega⟩, Nat.lt_succ_self _⟩
set_option maxRecDepth 20000 in
theorem poset_check_sim {a0 : Poset} {s_a0_1 : Sl} {r : (Vector (Vector Bool 20) 20) × Int} (H : poset_check a0 = some r) (w0 : World) (F : Frz) (M L : List Item) (hM : M.Sublist L) (hs_a0_1 : Rd w0 F M s_a0_1 a0.Pairs) : Ok Try.prog w0 53 [.agg (enc (PosetR.mk a0 s_a0_1)).toArray] F (L) (Is (.tuple #[.agg (enc r.1).toArray, .int .i64 r.2]) (L)) := by
  unfold poset_check at H
  refine Ok.enter (m := 1) (n := 42) Try.func53 rfl rfl rfl (by decide) ?_
  refine Cd.env (e' := [(0, .agg (enc (PosetR.mk a0 s_a0_1)).toArray)]) rfl ?_
  refine Cd.seq ?_
  refine Cd.region ?_
  refine Lst.box rfl rfl (by decide) rfl (cs := enc (PosetR.mk a0 s_a0_1)) rfl (fun b1 => ?_)
  refine Lst.alloc (z := .agg (enc (Vector.replicate 20 (Vector.replicate 20 false))).toArray) (cs := enc (Vector.replicate 20 (Vector.replicate 20 false))) rfl rfl (by decide) (fun _ => by kernel_rfl) rfl (fun b3 => ?_)
  refine Lst.run rfl rfl (by decide) (Ev.assign rfl) ?_
  refine Lst.nil ?_
  refine At.then ?_
  refine Cd.seq ?_
  refine Cd.seq ?_
  refine Cd.region ?_
  refine Lst.run rfl rfl (by decide) (Ev.fieldAddr (off' := 0) rfl Try.runUnderlying24 rfl Try.sizeOf3 rfl rfl) ?_
  refine Lst.run rfl rfl (by decide) (Ev.load (i := 1) rfl rfl Try.isAgg3 (v := .int .i64 a0.N) ((PosetR.get_N (Get.here _)).off (by rfl))) ?_
  refine Lst.run rfl rfl (by decide) (Ev.lss rfl rfl) ?_
  refine Lst.run rfl rfl (by decide) (Ev.move rfl) ?_
  obtain ⟨o5, H, HKo5⟩ := bind_some H
  refine Lst.join (σ := Bool) 4 (fun y6 => [(1, .pointer (some ⟨b1, 0, none⟩)), (2, .pointer (some ⟨b3, 0, none⟩)), (14, .bool y6)]) (fun y6 => (.blk b3 (enc (Vector.replicate 20 (Vector.replicate 20 false))) 89) :: (.blk b1 (enc (PosetR.mk a0 s_a0_1)) 24) :: L) (fun _ y6 => y6 = o5) ?_ ?_
  · rcases Bool.eq_false_or_eq_true (decide (a0.N < (0 : Int))) with hb7 | hb7
    · replace H := ite_t hb7 H
      refine Lst.skip rfl rfl rfl hb7 rfl (by decide) ?_
      refine Lst.skip rfl rfl rfl hb7 rfl (by decide) ?_
      refine Lst.skip rfl rfl rfl hb7 rfl (by decide) ?_
      refine Lst.run rfl rfl (by decide) (Ev.pickT rfl hb7 rfl) ?_
      refine Lst.nil ?_
      exact At.meet true (FLe.refl _) ⟨rfl, rfl, rfl, trivial⟩ rfl (some_inj H)
    replace H := ite_f hb7 H
    refine Lst.runG rfl rfl rfl hb7 rfl (by decide) (Ev.fieldAddr (off' := 0) rfl Try.runUnderlying24 rfl Try.sizeOf3 rfl rfl) ?_
    refine Lst.runG rfl rfl rfl hb7 rfl (by decide) (Ev.load (i := 1) rfl rfl Try.isAgg3 (v := .int .i64 a0.N) ((PosetR.get_N (Get.here _)).off (by rfl))) ?_
    refine Lst.runG rfl rfl rfl hb7 rfl (by decide) (Ev.gtr rfl rfl) ?_
    refine Lst.run rfl rfl (by decide) (Ev.pickF rfl hb7 rfl) ?_
    refine Lst.nil ?_
    exact At.meet (decide (a0.N > (20 : Int))) (FLe.refl _) ⟨rfl, rfl, rfl, trivial⟩ rfl (some_inj H)
  rintro F8 y6 hF9 hy
  subst hy
  refine Lst.as (e' := [(1, .pointer (some ⟨b1, 0, none⟩)), (2, .pointer (some ⟨b3, 0, none⟩)), (14, .bool y6)]) (L' := (.blk b3 (enc (Vector.replicate 20 (Vector.replicate 20 false))) 89) :: (.blk b1 (enc (PosetR.mk a0 s_a0_1)) 24) :: L) ⟨rfl, rfl, rfl, trivial⟩ rfl ?_
  replace H := HKo5
  refine Lst.nil ?_
  refine At.then ?_
  rcases Bool.eq_false_or_eq_true y6 with hb10 | hb10
  · replace H := ite_t hb10 H
    refine Cd.condT rfl hb10 ?_
    refine Cd.seq ?_
    refine Cd.region ?_
    refine Lst.run rfl rfl (by decide) (Ev.build (v := .agg (enc ((Vector.replicate 20 (Vector.replicate 20 false)) : Vector (Vector Bool 20) 20)).toArray) (pv := []) trivial (fun w => by kernel_rfl)) ?_
    refine Lst.store (i := 0) rfl rfl rfl rfl rfl Try.sizeOf89 (vs := enc ((Vector.replicate 20 (Vector.replicate 20 false)) : Vector (Vector Bool 20) 20)) rfl (Enc.len _) (Enc.one _) (cs' := enc ((Vector.replicate 20 (Vector.replicate 20 false)) : Vector (Vector Bool 20) 20)) (Put.here ((Enc.len _).trans (Enc.len _).symm)) (L' := (.blk b3 (enc ((Vector.replicate 20 (Vector.replicate 20 false)) : Vector (Vector Bool 20) 20)) 89) :: (.blk b1 (enc (PosetR.mk a0 s_a0_1)) 24) :: L) rfl ?_
    refine Lst.run rfl rfl (by decide) (Ev.assign rfl) ?_
    refine Lst.nil ?_
    refine At.then ?_
    obtain rfl := some_inj H
    refine Cd.ret ?_
    refine At.then_ret ?_
    exact At.ret2 rfl (Res.cellA (i := 0) rfl rfl Try.isAgg89 Try.sizeOf89 (Enc.len _)) (Res.tmp rfl) hF9 (List.Sublist.cons _ (List.Sublist.cons _ (List.Sublist.refl _))) ⟨rfl, rfl⟩
  replace H := ite_f hb10 H
  refine Cd.condF rfl hb10 ?_
  refine Cd.skip ?_
  refine At.then ?_
  refine Cd.seq ?_
  refine Cd.seq ?_
  refine Cd.region ?_
  refine Lst.run rfl rfl (by decide) (Ev.fieldAddr (off' := 0) rfl Try.runUnderlying24 rfl Try.sizeOf3 rfl rfl) ?_
  refine Lst.run rfl rfl (by decide) (Ev.load (i := 1) rfl rfl Try.isAgg3 (v := .int .i64 a0.N) ((PosetR.get_N (Get.here _)).off (by rfl))) ?_
  refine Lst.run rfl rfl (by decide) (Ev.fieldAddr (off' := 0) rfl Try.runUnderlying24 rfl Try.sizeOf3 rfl rfl) ?_
  refine Lst.run rfl rfl (by decide) (Ev.load (i := 1) rfl rfl Try.isAgg3 (v := .int .i64 a0.N) ((PosetR.get_N (Get.here _)).off (by rfl))) ?_
  refine Lst.run rfl rfl (by decide) (Ev.fieldAddr (off' := 1) rfl Try.runUnderlying24 rfl Try.sizeOf22 rfl rfl) ?_
  refine Lst.run rfl rfl (by decide) (Ev.load (i := 1) rfl rfl Try.isAgg22 (v := Sl.v s_a0_1) ((PosetR.get_Pairs (Get.here _)).off (by rfl))) ?_
  obtain ⟨r11, h12, H⟩ := bind_some H
  refine Lst.call1 rfl rfl (by decide) (vs := [.int .i64 a0.N, .int .i64 a0.N, Sl.v s_a0_1]) ⟨rfl, rfl, rfl, trivial⟩ Try.call37 (match_Check_sim h12 w0 _ M _ (List.Sublist.cons _ (List.Sublist.cons _ hM)) (hs_a0_1.mono hF9 (List.Sublist.refl _))) ?_
  refine Lst.run rfl rfl (by decide) (Ev.assign rfl) ?_
  refine Lst.nil ?_
  refine At.then ?_
  refine Cd.seq ?_
  refine Cd.region ?_
  refine Lst.run rfl rfl (by decide) (Ev.move rfl) ?_
  refine Lst.run rfl rfl (by decide) (Ev.neq rfl rfl) ?_
  refine Lst.nil ?_
  refine At.then ?_
  rcases Bool.eq_false_or_eq_true (r11 != (0 : Int)) with hb15 | hb15
  · replace H := ite_t hb15 H
    refine Cd.condT rfl hb15 ?_
    refine Cd.seq ?_
    refine Cd.region ?_
    refine Lst.run rfl rfl (by decide) (Ev.build (v := .agg (enc ((Vector.replicate 20 (Vector.replicate 20 false)) : Vector (Vector Bool 20) 20)).toArray) (pv := []) trivial (fun w => by kernel_rfl)) ?_
    refine Lst.run rfl rfl (by decide) (Ev.move rfl) ?_
    refine Lst.store (i := 0) rfl rfl rfl rfl rfl Try.sizeOf89 (vs := enc ((Vector.replicate 20 (Vector.replicate 20 false)) : Vector (Vector Bool 20) 20)) rfl (Enc.len _) (Enc.one _) (cs' := enc ((Vector.replicate 20 (Vector.replicate 20 false)) : Vector (Vector Bool 20) 20)) (Put.here ((Enc.len _).trans (Enc.len _).symm)) (L' := (.blk b3 (enc ((Vector.replicate 20 (Vector.replicate 20 false)) : Vector (Vector Bool 20) 20)) 89) :: (.blk b1 (enc (PosetR.mk a0 s_a0_1)) 24) :: L) rfl ?_
    refine Lst.run rfl rfl (by decide) (Ev.assign rfl) ?_
    refine Lst.nil ?_
    refine At.then ?_
    obtain rfl := some_inj H
    refine Cd.ret ?_
    refine At.then_ret ?_
    exact At.ret2 rfl (Res.cellA (i := 0) rfl rfl Try.isAgg89 Try.sizeOf89 (Enc.len _)) (Res.tmp rfl) hF9 (List.Sublist.cons _ (List.Sublist.cons _ (List.Sublist.refl _))) ⟨rfl, rfl⟩
  replace H := ite_f hb15 H
  refine Cd.condF rfl hb15 ?_
  refine Cd.skip ?_
  refine At.then ?_
  refine Cd.seq ?_
  refine Cd.region ?_
  refine Lst.run rfl rfl (by decide) (Ev.loadA (i := 1) rfl rfl Try.isAgg24 Try.sizeOf24 (ch := enc (PosetR.mk a0 s_a0_1)) (Enc.len _) (Get.here _)) ?_
  obtain ⟨r16, h17, H⟩ := bind_some H
  refine Lst.call1 rfl rfl (by decide) (vs := [.agg (enc (PosetR.mk a0 s_a0_1)).toArray]) ⟨rfl, trivial⟩ Try.call58 (poset_closed_sim h17 w0 _ M _ (List.Sublist.cons _ (List.Sublist.cons _ hM)) (hs_a0_1.mono hF9 (List.Sublist.refl _))) ?_
  refine Lst.alloc (z := .agg (enc (Vector.replicate 20 (Vector.replicate 20 false))).toArray) (cs := enc (Vector.replicate 20 (Vector.replicate 20 false))) rfl rfl (by decide) (fun _ => by kernel_rfl) rfl (fun b20 => ?_)
  refine Lst.store (i := 0) rfl rfl rfl rfl rfl Try.sizeOf89 (vs := enc r16) rfl (Enc.len _) (Enc.one _) (cs' := enc r16) (Put.here ((Enc.len _).trans (Enc.len _).symm)) (L' := (.blk b20 (enc r16) 89) :: (.blk b3 (enc (Vector.replicate 20 (Vector.replicate 20 false))) 89) :: (.blk b1 (enc (PosetR.mk a0 s_a0_1)) 24) :: L) rfl ?_
  refine Lst.nil ?_
  refine At.then ?_
  refine Cd.seq ?_
  refine Cd.seq ?_
  refine Cd.region ?_
  refine Lst.run rfl rfl (by decide) (Ev.fieldAddr (off' := 0) rfl Try.runUnderlying24 rfl Try.sizeOf3 rfl rfl) ?_
  refine Lst.run rfl rfl (by decide) (Ev.load (i := 2) rfl rfl Try.isAgg3 (v := .int .i64 a0.N) ((PosetR.get_N (Get.here _)).off (by rfl))) ?_
  refine Lst.run rfl rfl (by decide) (Ev.move rfl) ?_
  refine Lst.nil ?_
  refine At.then ?_
  refine Cd.block ?_
  obtain ⟨nn25, hN33, H⟩ := bind_some H
  replace hN33 := upTo_some hN33
  obtain ⟨ol22, H, HKl22⟩ := andThen_some H
  refine Cd.loop (σ := Nat × Nat × Unit) (fun (i22, k22, _u) => [(2, .pointer (some ⟨b3, 0, none⟩)), (5, .pointer (some ⟨b20, 0, none⟩)), (30, .int .i64 a0.N), (31, .int .i64 (i22 : Int))]) (fun (i22, k22, _u) => (.blk b20 (enc r16) 89) :: (.blk b3 (enc (Vector.replicate 20 (Vector.replicate 20 false))) 89) :: (.blk b1 (enc (PosetR.mk a0 s_a0_1)) 24) :: L) (fun _ => (fun (i22, k22, _u) => rangeM (poset_check_L22 r16) k22 i22 () = some ol22 ∧ i22 + k22 = nn25)) (fun (i22, k22, _u) => k22) (0, nn25, ()) ⟨rfl, rfl, rfl, rfl, trivial⟩ rfl ⟨H, by omega⟩ ?_
  rintro F23 ⟨i22, k22, _u⟩ hF24 ⟨H, hik22⟩
  refine Cd.as (e' := [(2, .pointer (some ⟨b3, 0, none⟩)), (5, .pointer (some ⟨b20, 0, none⟩)), (30, .int .i64 a0.N), (31, .int .i64 (i22 : Int))]) (L' := (.blk b20 (enc r16) 89) :: (.blk b3 (enc (Vector.replicate 20 (Vector.replicate 20 false))) 89) :: (.blk b1 (enc (PosetR.mk a0 s_a0_1)) 24) :: L) ⟨rfl, rfl, rfl, rfl, trivial⟩ rfl ?_
  rcases k22 with _ | k22
  · have hc22 : decide ((i22 : Int) < a0.N) = false := decide_eq_false (by omega)
    replace H := rangeM_end H
    refine Cd.seq ?_
    refine Cd.region ?_
    refine Lst.run rfl rfl (by decide) (Ev.lss rfl rfl) ?_
    refine Lst.nil ?_
    refine At.then ?_
    refine Cd.seq ?_
    refine Cd.condF rfl hc22 ?_
    refine Cd.exit ?_
    refine At.then_exit ?_
    refine At.then_exit ?_
    refine At.in_exit ?_
    subst H
    replace H := HKl22
    refine At.then ?_
    refine Cd.seq ?_
    refine Cd.region ?_
    refine Lst.run rfl rfl (by decide) (Ev.loadA (i := 0) rfl rfl Try.isAgg89 Try.sizeOf89 (ch := enc r16) (Enc.len _) (Get.here _)) ?_
    refine Lst.store (i := 1) rfl rfl rfl rfl rfl Try.sizeOf89 (vs := enc r16) rfl (Enc.len _) (Enc.one _) (cs' := enc r16) (Put.here ((Enc.len _).trans (Enc.len _).symm)) (L' := (.blk b20 (enc r16) 89) :: (.blk b3 (enc r16) 89) :: (.blk b1 (enc (PosetR.mk a0 s_a0_1)) 24) :: L) rfl ?_
    refine Lst.run rfl rfl (by decide) (Ev.assign rfl) ?_
    refine Lst.nil ?_
    refine At.then ?_
    obtain rfl := some_inj H
    refine Cd.ret ?_
    exact At.ret2 rfl (Res.cellA (i := 1) rfl rfl Try.isAgg89 Try.sizeOf89 (Enc.len _)) (Res.tmp rfl) (FLe.trans hF9 hF24) (List.Sublist.cons _ (List.Sublist.cons _ (List.Sublist.cons _ (List.Sublist.refl _)))) ⟨rfl, rfl⟩
  have hc22 : decide ((i22 : Int) < a0.N) = true := decide_eq_true (by omega)
  obtain ⟨c22, H, hgo22, hbrk22, hret22⟩ := rangeM_go H
  unfold poset_check_L22 at H
  try dsimp only at H
  refine Cd.seq ?_
  refine Cd.region ?_
  refine Lst.run rfl rfl (by decide) (Ev.lss rfl rfl) ?_
  refine Lst.nil ?_
  refine At.then ?_
  refine Cd.seq ?_
  refine Cd.condT rfl hc22 ?_
  refine Cd.skip ?_
  refine At.then ?_
  refine Cd.seq ?_
  refine Cd.block ?_
  refine Cd.seq ?_
  refine Cd.region ?_
  refine Lst.run rfl rfl (by decide) (Ev.move rfl) ?_
  refine Lst.run rfl rfl (by decide) (Ev.assign rfl) ?_
  refine Lst.nil ?_
  refine At.then ?_
  refine Cd.seq ?_
  refine Cd.region ?_
  refine Lst.run rfl rfl (by decide) (Ev.move rfl) ?_
  refine Lst.run rfl rfl (by decide) (Ev.move rfl) ?_
  obtain ⟨x26, h27, H⟩ := bind_some H
  have g28 := vat_some h27
  refine Lst.run rfl rfl (by decide) (Ev.indexAddr (off' := 0 + (i22 : Int).toNat * 20) rfl rfl Try.runUnderlying89 Try.sizeOf87 g28.1 g28.2.1 rfl) ?_
  obtain ⟨x29, h30, H⟩ := bind_some H
  have g31 := vat_some h30
  refine Lst.run rfl rfl (by decide) (Ev.indexAddr (off' := 0 + (i22 : Int).toNat * 20 + (i22 : Int).toNat * 1) rfl rfl Try.runUnderlying87 Try.sizeOf4 g31.1 g31.2.1 rfl) ?_
  refine Lst.run rfl rfl (by decide) (Ev.load (i := 0) rfl rfl Try.isAgg4 (v := .bool x29) ((Get.vecN (s := 20) rfl g28.2.2 (Get.vecN (s := 1) rfl g31.2.2 (Get.here _))).off (by omega))) ?_
  refine Lst.nil ?_
  refine At.then ?_
  rcases Bool.eq_false_or_eq_true x29 with hb32 | hb32
  · replace H := ite_t hb32 H
    refine Cd.condT rfl hb32 ?_
    refine Cd.seq ?_
    refine Cd.region ?_
    refine Lst.run rfl rfl (by decide) (Ev.build (v := .agg (enc ((Vector.replicate 20 (Vector.replicate 20 false)) : Vector (Vector Bool 20) 20)).toArray) (pv := []) trivial (fun w => by kernel_rfl)) ?_
    refine Lst.store (i := 1) rfl rfl rfl rfl rfl Try.sizeOf89 (vs := enc ((Vector.replicate 20 (Vector.replicate 20 false)) : Vector (Vector Bool 20) 20)) rfl (Enc.len _) (Enc.one _) (cs' := enc ((Vector.replicate 20 (Vector.replicate 20 false)) : Vector (Vector Bool 20) 20)) (Put.here ((Enc.len _).trans (Enc.len _).symm)) (L' := (.blk b20 (enc r16) 89) :: (.blk b3 (enc ((Vector.replicate 20 (Vector.replicate 20 false)) : Vector (Vector Bool 20) 20)) 89) :: (.blk b1 (enc (PosetR.mk a0 s_a0_1)) 24) :: L) rfl ?_
    refine Lst.run rfl rfl (by decide) (Ev.assign rfl) ?_
    refine Lst.nil ?_
    refine At.then ?_
    have H := hret22 _ (some_inj H).symm
    subst H
    replace H := HKl22
    obtain rfl := some_inj H
    refine Cd.ret ?_
    refine At.in_ret ?_
    refine At.then_ret ?_
    refine At.then_ret ?_
    refine At.in_ret ?_
    refine At.then_ret ?_
    exact At.ret2 rfl (Res.cellA (i := 1) rfl rfl Try.isAgg89 Try.sizeOf89 (Enc.len _)) (Res.tmp rfl) (FLe.trans hF9 hF24) (List.Sublist.cons _ (List.Sublist.cons _ (List.Sublist.cons _ (List.Sublist.refl _)))) ⟨rfl, rfl⟩
  replace H := ite_f hb32 H
  refine Cd.condF rfl hb32 ?_
  refine Cd.skip ?_
  refine At.in_normal ?_
  refine At.then ?_
  refine Cd.region ?_
  refine Lst.run rfl rfl (by decide) (Ev.incr (by omega) rfl rfl) ?_
  refine Lst.run rfl rfl (by decide) (Ev.move rfl) ?_
  refine Lst.nil ?_
  exact At.meet (i22 + 1, k22, ()) hF24 ⟨rfl, rfl, rfl, rfl, trivial⟩ rfl ⟨⟨hgo22 _ (some_inj H).symm, by omega⟩, Nat.lt_succ_self _⟩
set_option maxRecDepth 20000 in
theorem poset_order_all_1_sim {a0 : Int} {a1 : Int} {r : Bool} (H : poset_order_all_1 a0 a1 = some r) (w0 : World) (F : Frz) (M L : List Item) (hM : M.Sublist L) : Ok Try.prog w0 76 [.int .i64 a0, .int .i64 a1] F (L) (Is (.bool r) (L)) := by
  unfold poset_order_all_1 at H
  refine Ok.enter (m := 2) (n := 5) Try.func76 rfl rfl rfl (by decide) ?_
  refine Cd.env (e' := [(0, .int .i64 a0), (1, .int .i64 a1)]) rfl ?_
  refine Cd.seq ?_
  refine Cd.region ?_
  refine Lst.run rfl rfl (by decide) (Ev.assign rfl) ?_
  refine Lst.nil ?_
  refine At.then ?_
  refine Cd.seq ?_
  refine Cd.region ?_
  refine Lst.run rfl rfl (by decide) (Ev.assign rfl) ?_
  refine Lst.nil ?_
  refine At.then ?_
  obtain rfl := some_inj H
  refine Cd.ret ?_
  exact At.ret1 rfl (Res.tmp rfl) (FLe.refl _) (List.Sublist.refl _) ⟨rfl, rfl⟩
set_option maxRecDepth 20000 in
theorem poset_order_pairs_all_1_sim {a0 : Vector (Vector Bool 20) 20} {a1 : Int} {r : (List Pair)} (H : poset_order_pairs_all_1 a0 a1 = some r) (w0 : World) (F : Frz) (M L : List Item) (hM : M.Sublist L) : Ok Try.prog w0 55 [.agg (enc a0).toArray, .int .i64 a1, .func (.func 76) #[] #[]] F (L) (fun _ L' v => ∃ (s40 : Sl), v = Sl.v s40 ∧ L' = (.own s40 49 2 (encs r)) :: L) := by
  unfold poset_order_pairs_all_1 at H
  refine Ok.enter (m := 3) (n := 38) Try.func55 rfl rfl rfl (by decide) ?_
  refine Cd.env (e' := [(0, .agg (enc a0).toArray), (1, .int .i64 a1), (2, .func (.func 76) #[] #[])]) rfl ?_
  refine Cd.seq ?_
  refine Cd.region ?_
  refine Lst.box rfl rfl (by decide) rfl (cs := enc a0) rfl (fun b1 => ?_)
  refine Lst.addNil 49 2 ?_
  refine Lst.run rfl rfl (by decide) (Ev.assign rfl) ?_
  refine Lst.nil ?_
  refine At.then ?_
  refine Cd.seq ?_
  refine Cd.region ?_
  refine Lst.addNil 49 2 ?_
  refine Lst.run rfl rfl (by decide) (Ev.assign rfl) ?_
  refine Lst.nil ?_
  refine At.then ?_
  refine Cd.seq ?_
  refine Cd.seq ?_
  refine Cd.region ?_
  refine Lst.run rfl rfl (by decide) (Ev.move rfl) ?_
  refine Lst.run rfl rfl (by decide) (Ev.move rfl) ?_
  refine Lst.nil ?_
  refine At.then ?_
  refine Cd.block ?_
  obtain ⟨nn10, hN39, H⟩ := bind_some H
  replace hN39 := upTo_some hN39
  obtain ⟨ol5, H, HKl5⟩ := bind_some H
  refine Cd.loop (σ := Nat × Nat × Sl × (List Pair)) (fun (i5, k5, s6, l7) => [(1, .int .i64 a1), (2, .func (.func 76) #[] #[]), (3, .pointer (some ⟨b1, 0, none⟩)), (7, Sl.v s6), (10, .int .i64 a1), (11, .int .i64 (i5 : Int))]) (fun (i5, k5, s6, l7) => (.own s6 49 2 (encs l7)) :: (.own Sl.nil 49 2 (encs ([] : List Pair))) :: (.blk b1 (enc a0) 89) :: L) (fun _ => (fun (i5, k5, s6, l7) => rangeF (poset_order_pairs_all_1_L5 a0 a1) k5 i5 l7 = some ol5 ∧ i5 + k5 = nn10)) (fun (i5, k5, s6, l7) => k5) (0, nn10, Sl.nil, ([] : List Pair)) ⟨rfl, rfl, rfl, rfl, rfl, rfl, trivial⟩ rfl ⟨H, by omega⟩ ?_
  rintro F8 ⟨i5, k5, s6, l7⟩ hF9 ⟨H, hik5⟩
  refine Cd.as (e' := [(1, .int .i64 a1), (2, .func (.func 76) #[] #[]), (3, .pointer (some ⟨b1, 0, none⟩)), (7, Sl.v s6), (10, .int .i64 a1), (11, .int .i64 (i5 : Int))]) (L' := (.own s6 49 2 (encs l7)) :: (.own Sl.nil 49 2 (encs ([] : List Pair))) :: (.blk b1 (enc a0) 89) :: L) ⟨rfl, rfl, rfl, rfl, rfl, rfl, trivial⟩ rfl ?_
  rcases k5 with _ | k5
  · have hc5 : decide ((i5 : Int) < a1) = false := decide_eq_false (by omega)
    replace H := rangeF_end H
    refine Cd.seq ?_
    refine Cd.region ?_
    refine Lst.run rfl rfl (by decide) (Ev.lss rfl rfl) ?_
    refine Lst.nil ?_
    refine At.then ?_
    refine Cd.seq ?_
    refine Cd.condF rfl hc5 ?_
    refine Cd.exit ?_
    refine At.then_exit ?_
    refine At.then_exit ?_
    refine At.in_exit ?_
    subst H
    replace H := HKl5
    refine At.then ?_
    refine Cd.seq ?_
    refine Cd.region ?_
    refine Lst.run rfl rfl (by decide) (Ev.move rfl) ?_
    refine Lst.run rfl rfl (by decide) (Ev.assign rfl) ?_
    refine Lst.nil ?_
    refine At.then ?_
    obtain rfl := some_inj H
    refine Cd.ret ?_
    exact At.ret1 rfl (Res.tmp rfl) hF9 (List.Sublist.cons_cons _ (List.Sublist.cons _ (List.Sublist.cons _ (List.Sublist.refl _)))) ⟨s6, rfl, rfl⟩
  have hc5 : decide ((i5 : Int) < a1) = true := decide_eq_true (by omega)
  obtain ⟨c5, H, hgo5⟩ := rangeF_go H
  unfold poset_order_pairs_all_1_L5 at H
  try dsimp only at H
  refine Cd.seq ?_
  refine Cd.region ?_
  refine Lst.run rfl rfl (by decide) (Ev.lss rfl rfl) ?_
  refine Lst.nil ?_
  refine At.then ?_
  refine Cd.seq ?_
  refine Cd.condT rfl hc5 ?_
  refine Cd.skip ?_
  refine At.then ?_
  refine Cd.seq ?_
  refine Cd.block ?_
  refine Cd.seq ?_
  refine Cd.region ?_
  refine Lst.run rfl rfl (by decide) (Ev.move rfl) ?_
  refine Lst.run rfl rfl (by decide) (Ev.assign rfl) ?_
  refine Lst.nil ?_
  refine At.then ?_
  refine Cd.seq ?_
  refine Cd.region ?_
  refine Lst.run rfl rfl (by decide) (Ev.move rfl) ?_
  refine Lst.run rfl rfl (by decide) (Ev.move rfl) ?_
  refine Lst.nil ?_
  refine At.then ?_
  refine Cd.block ?_
  obtain ⟨nn16, hN38, H⟩ := bind_some H
  replace hN38 := upTo_some hN38
  obtain ⟨ol11, H, HKl11⟩ := bind_some H
  refine Cd.loop (σ := Nat × Nat × Sl × (List Pair)) (fun (i11, k11, s12, l13) => [(1, .int .i64 a1), (2, .func (.func 76) #[] #[]), (3, .pointer (some ⟨b1, 0, none⟩)), (7, Sl.v s12), (8, .int .i64 (i5 : Int)), (10, .int .i64 a1), (11, .int .i64 (i5 : Int)), (14, .int .i64 a1), (15, .int .i64 (i11 : Int))]) (fun (i11, k11, s12, l13) => (.own s12 49 2 (encs l13)) :: (.own Sl.nil 49 2 (encs ([] : List Pair))) :: (.blk b1 (enc a0) 89) :: L) (fun _ => (fun (i11, k11, s12, l13) => rangeF (poset_order_pairs_all_1_L11 a0 i5) k11 i11 l13 = some ol11 ∧ i11 + k11 = nn16)) (fun (i11, k11, s12, l13) => k11) (0, nn16, s6, l7) ⟨rfl, rfl, rfl, rfl, rfl, rfl, rfl, rfl, rfl, trivial⟩ rfl ⟨H, by omega⟩ ?_
  rintro F14 ⟨i11, k11, s12, l13⟩ hF15 ⟨H, hik11⟩
  refine Cd.as (e' := [(1, .int .i64 a1), (2, .func (.func 76) #[] #[]), (3, .pointer (some ⟨b1, 0, none⟩)), (7, Sl.v s12), (8, .int .i64 (i5 : Int)), (10, .int .i64 a1), (11, .int .i64 (i5 : Int)), (14, .int .i64 a1), (15, .int .i64 (i11 : Int))]) (L' := (.own s12 49 2 (encs l13)) :: (.own Sl.nil 49 2 (encs ([] : List Pair))) :: (.blk b1 (enc a0) 89) :: L) ⟨rfl, rfl, rfl, rfl, rfl, rfl, rfl, rfl, rfl, trivial⟩ rfl ?_
  rcases k11 with _ | k11
  · have hc11 : decide ((i11 : Int) < a1) = false := decide_eq_false (by omega)
    replace H := rangeF_end H
    refine Cd.seq ?_
    refine Cd.region ?_
    refine Lst.run rfl rfl (by decide) (Ev.lss rfl rfl) ?_
    refine Lst.nil ?_
    refine At.then ?_
    refine Cd.seq ?_
    refine Cd.condF rfl hc11 ?_
    refine Cd.exit ?_
    refine At.then_exit ?_
    refine At.then_exit ?_
    refine At.in_exit ?_
    subst H
    replace H := HKl11
    refine At.in_normal ?_
    refine At.then ?_
    refine Cd.region ?_
    refine Lst.run rfl rfl (by decide) (Ev.incr (by omega) rfl rfl) ?_
    refine Lst.run rfl rfl (by decide) (Ev.move rfl) ?_
    refine Lst.nil ?_
    exact At.meet (i5 + 1, k5, s12, l13) (FLe.trans hF9 hF15) ⟨rfl, rfl, rfl, rfl, rfl, rfl, trivial⟩ rfl ⟨⟨hgo5 _ (some_inj H).symm, by omega⟩, Nat.lt_succ_self _⟩
  have hc11 : decide ((i11 : Int) < a1) = true := decide_eq_true (by omega)
  obtain ⟨c11, H, hgo11⟩ := rangeF_go H
  unfold poset_order_pairs_all_1_L11 at H
  try dsimp only at H
  refine Cd.seq ?_
  refine Cd.region ?_
  refine Lst.run rfl rfl (by decide) (Ev.lss rfl rfl) ?_
  refine Lst.nil ?_
  refine At.then ?_
  refine Cd.seq ?_
  refine Cd.condT rfl hc11 ?_
  refine Cd.skip ?_
  refine At.then ?_
  refine Cd.seq ?_
  refine Cd.block ?_
  refine Cd.seq ?_
  refine Cd.region ?_
  refine Lst.run rfl rfl (by decide) (Ev.move rfl) ?_
  refine Lst.run rfl rfl (by decide) (Ev.assign rfl) ?_
  refine Lst.nil ?_
  refine At.then ?_
  refine Cd.seq ?_
  refine Cd.region ?_
  refine Lst.run rfl rfl (by decide) (Ev.move rfl) ?_
  refine Lst.run rfl rfl (by decide) (Ev.move rfl) ?_
  obtain ⟨x17, h18, H⟩ := bind_some H
  have g19 := vat_some h18
  refine Lst.run rfl rfl (by decide) (Ev.indexAddr (off' := 0 + (i5 : Int).toNat * 20) rfl rfl Try.runUnderlying89 Try.sizeOf87 g19.1 g19.2.1 rfl) ?_
  obtain ⟨x20, h21, H⟩ := bind_some H
  have g22 := vat_some h21
  refine Lst.run rfl rfl (by decide) (Ev.indexAddr (off' := 0 + (i5 : Int).toNat * 20 + (i11 : Int).toNat * 1) rfl rfl Try.runUnderlying87 Try.sizeOf4 g22.1 g22.2.1 rfl) ?_
  refine Lst.run rfl rfl (by decide) (Ev.load (i := 2) rfl rfl Try.isAgg4 (v := .bool x20) ((Get.vecN (s := 20) rfl g19.2.2 (Get.vecN (s := 1) rfl g22.2.2 (Get.here _))).off (by omega))) ?_
  refine Lst.run rfl rfl (by decide) (Ev.move rfl) ?_
  obtain ⟨o23, H, HKo23⟩ := bind_some H
  refine Lst.join (σ := Bool) 5 (fun y24 => [(1, .int .i64 a1), (2, .func (.func 76) #[] #[]), (3, .pointer (some ⟨b1, 0, none⟩)), (7, Sl.v s12), (8, .int .i64 (i5 : Int)), (9, .int .i64 (i11 : Int)), (10, .int .i64 a1), (11, .int .i64 (i5 : Int)), (14, .int .i64 a1), (15, .int .i64 (i11 : Int)), (28, .bool y24)]) (fun y24 => (.own s12 49 2 (encs l13)) :: (.own Sl.nil 49 2 (encs ([] : List Pair))) :: (.blk b1 (enc a0) 89) :: L) (fun _ y24 => y24 = o23) ?_ ?_
  · rcases (Bool.eq_false_or_eq_true x20).symm with hb25 | hb25
    · replace H := ite_f hb25 H
      refine Lst.skip rfl rfl rfl hb25 rfl (by decide) ?_
      refine Lst.skip rfl rfl rfl hb25 rfl (by decide) ?_
      refine Lst.skip rfl rfl rfl hb25 rfl (by decide) ?_
      refine Lst.skip rfl rfl rfl hb25 rfl (by decide) ?_
      refine Lst.run rfl rfl (by decide) (Ev.pickF rfl hb25 rfl) ?_
      refine Lst.nil ?_
      exact At.meet false (FLe.refl _) ⟨rfl, rfl, rfl, rfl, rfl, rfl, rfl, rfl, rfl, rfl, rfl, trivial⟩ rfl (some_inj H)
    replace H := ite_t hb25 H
    refine Lst.runG rfl rfl rfl hb25 rfl (by decide) (Ev.move rfl) ?_
    refine Lst.runG rfl rfl rfl hb25 rfl (by decide) (Ev.move rfl) ?_
    refine Lst.runG rfl rfl rfl hb25 rfl (by decide) (Ev.move rfl) ?_
    obtain ⟨r26, h27, H⟩ := bind_some H
    refine Lst.callV1G rfl rfl rfl hb25 rfl (by decide) (vs := [.int .i64 (i5 : Int), .int .i64 (i11 : Int)]) (cs := []) rfl ⟨rfl, rfl, trivial⟩ Try.call76 (poset_order_all_1_sim h27 w0 _ M _ (List.Sublist.cons _ (List.Sublist.cons _ (List.Sublist.cons _ hM)))) ?_
    refine Lst.run rfl rfl (by decide) (Ev.pickT rfl hb25 rfl) ?_
    refine Lst.nil ?_
    exact At.meet r26 (FLe.refl _) ⟨rfl, rfl, rfl, rfl, rfl, rfl, rfl, rfl, rfl, rfl, rfl, trivial⟩ rfl (some_inj H)
  rintro F30 y24 hF31 hy
  subst hy
  refine Lst.as (e' := [(1, .int .i64 a1), (2, .func (.func 76) #[] #[]), (3, .pointer (some ⟨b1, 0, none⟩)), (7, Sl.v s12), (8, .int .i64 (i5 : Int)), (9, .int .i64 (i11 : Int)), (10, .int .i64 a1), (11, .int .i64 (i5 : Int)), (14, .int .i64 a1), (15, .int .i64 (i11 : Int)), (28, .bool y24)]) (L' := (.own s12 49 2 (encs l13)) :: (.own Sl.nil 49 2 (encs ([] : List Pair))) :: (.blk b1 (enc a0) 89) :: L) ⟨rfl, rfl, rfl, rfl, rfl, rfl, rfl, rfl, rfl, rfl, rfl, trivial⟩ rfl ?_
  replace H := HKo23
  refine Lst.nil ?_
  refine At.then ?_
  rcases (Bool.eq_false_or_eq_true y24).symm with hb32 | hb32
  · replace H := ite_f hb32 H
    refine Cd.condF rfl hb32 ?_
    refine Cd.skip ?_
    refine At.in_normal ?_
    refine At.then ?_
    refine Cd.region ?_
    refine Lst.run rfl rfl (by decide) (Ev.incr (by omega) rfl rfl) ?_
    refine Lst.run rfl rfl (by decide) (Ev.move rfl) ?_
    refine Lst.nil ?_
    exact At.meet (i11 + 1, k11, s12, l13) (FLe.trans hF15 hF31) ⟨rfl, rfl, rfl, rfl, rfl, rfl, rfl, rfl, rfl, trivial⟩ rfl ⟨⟨hgo11 _ (some_inj H).symm, by omega⟩, Nat.lt_succ_self _⟩
  replace H := ite_t hb32 H
  refine Cd.condT rfl hb32 ?_
  refine Cd.region ?_
  refine Lst.run rfl rfl (by decide) (Ev.move rfl) ?_
  refine Lst.run rfl rfl (by decide) (Ev.move rfl) ?_
  refine Lst.run rfl rfl (by decide) (Ev.move rfl) ?_
  refine Lst.run rfl rfl (by decide) (Ev.build (v := .agg (enc ({ Pair.zero with A := (i5 : Int), B := (i11 : Int) } : Pair)).toArray) (pv := [(0, .int .i64 (i5 : Int)), (1, .int .i64 (i11 : Int))]) ⟨rfl, rfl, ⟨rfl, rfl, trivial⟩⟩ (fun w => by kernel_rfl)) ?_
  refine Lst.buildSlice (α := Pair) (xs := ([({ Pair.zero with A := (i5 : Int), B := (i11 : Int) } : Pair)] : List Pair)) (pv := [(0, .agg (enc ({ Pair.zero with A := (i5 : Int), B := (i11 : Int) } : Pair)).toArray)]) rfl rfl (by decide) ⟨rfl, rfl, trivial⟩ (run_buildSlice (α := Pair) (z0 := Pair.zero) (xs := ([({ Pair.zero with A := (i5 : Int), B := (i11 : Int) } : Pair)] : List Pair)) Try.runUnderlying22 Try.sizeOf49 Try.zeroValue49 rfl rfl rfl (by decide) rfl (fill_cons (cs := encs (List.replicate 1 Pair.zero)) (cs' := encs ((List.replicate 1 Pair.zero).set 0 ({ Pair.zero with A := (i5 : Int), B := (i11 : Int) } : Pair))) (vs := enc ({ Pair.zero with A := (i5 : Int), B := (i11 : Int) } : Pair)) rfl rfl (Enc.len _) ((Put.elemN (s := 2) (i := 0) (x := Pair.zero) (y := ({ Pair.zero with A := (i5 : Int), B := (i11 : Int) } : Pair)) rfl rfl (Put.here ((Enc.len _).trans (Enc.len _).symm))).off rfl) fill_nil)) rfl rfl (by decide) (fun s33 _ => ?_)
  obtain ⟨u35, h36, H⟩ := bind_some H
  refine Lst.append (i := 1) (α := Pair) (xs := l13) (ys := ([({ Pair.zero with A := (i5 : Int), B := (i11 : Int) } : Pair)] : List Pair)) rfl rfl (by decide) rfl rfl Try.runUnderlying22 Try.typeInfo49 rfl rfl rfl rfl rfl rfl (Rd.own (i := 0) rfl rfl rfl) rfl (room_some h36) rfl (fun s37 => ?_)
  refine Lst.its (L' := (.own s33 49 2 (encs ([({ Pair.zero with A := (i5 : Int), B := (i11 : Int) } : Pair)] : List Pair))) :: (.own s37 49 2 (encs (l13 ++ ([({ Pair.zero with A := (i5 : Int), B := (i11 : Int) } : Pair)] : List Pair)))) :: (.own Sl.nil 49 2 (encs ([] : List Pair))) :: (.blk b1 (enc a0) 89) :: L) rfl ?_
  refine Lst.run rfl rfl (by decide) (Ev.assign rfl) ?_
  refine Lst.nil ?_
  refine At.in_normal ?_
  refine At.then ?_
  refine Cd.region ?_
  refine Lst.run rfl rfl (by decide) (Ev.incr (by omega) rfl rfl) ?_
  refine Lst.run rfl rfl (by decide) (Ev.move rfl) ?_
  refine Lst.nil ?_
  refine At.less (L' := (.own s37 49 2 (encs (l13 ++ ([({ Pair.zero with A := (i5 : Int), B := (i11 : Int) } : Pair)] : List Pair)))) :: (.own Sl.nil 49 2 (encs ([] : List Pair))) :: (.blk b1 (enc a0) 89) :: L) (List.Sublist.cons _ (List.Sublist.cons_cons _ (List.Sublist.cons_cons _ (List.Sublist.cons_cons _ (List.Sublist.refl _))))) ?_
  exact At.meet (i11 + 1, k11, s37, l13 ++ ([({ Pair.zero with A := (i5 : Int), B := (i11 : Int) } : Pair)] : List Pair)) (FLe.trans hF15 hF31) ⟨rfl, rfl, rfl, rfl, rfl, rfl, rfl, rfl, rfl, trivial⟩ rfl ⟨⟨hgo11 _ (some_inj H).symm, by omega⟩, Nat.lt_succ_self _⟩
set_option maxRecDepth 20000 in
theorem poset_order_all_sim {a0 : Vector (Vector Bool 20) 20} {a1 : Int} {r : (List Pair)} (H : poset_order_all a0 a1 = some r) (w0 : World) (F : Frz) (M L : List Item) (hM : M.Sublist L) : Ok Try.prog w0 54 [.agg (enc a0).toArray, .int .i64 a1] F (L) (fun _ L' v => ∃ (s10 : Sl), v = Sl.v s10 ∧ L' = (.own s10 49 2 (encs r)) :: L) := by
  unfold poset_order_all at H
  refine Ok.enter (m := 2) (n := 8) Try.func54 rfl rfl rfl (by decide) ?_
  refine Cd.env (e' := [(0, .agg (enc a0).toArray), (1, .int .i64 a1)]) rfl ?_
  refine Cd.seq ?_
  refine Cd.region ?_
  refine Lst.box rfl rfl (by decide) rfl (cs := enc a0) rfl (fun b1 => ?_)
  refine Lst.addNil 49 2 ?_
  refine Lst.run rfl rfl (by decide) (Ev.assign rfl) ?_
  refine Lst.nil ?_
  refine At.then ?_
  refine Cd.seq ?_
  refine Cd.region ?_
  refine Lst.run rfl rfl (by decide) (Ev.loadA (i := 1) rfl rfl Try.isAgg89 Try.sizeOf89 (ch := enc a0) (Enc.len _) (Get.here _)) ?_
  refine Lst.run rfl rfl (by decide) (Ev.move rfl) ?_
  obtain ⟨r4, h5, H⟩ := bind_some H
  refine Lst.call rfl rfl (by decide) (vs := [.agg (enc a0).toArray, .int .i64 a1, .func (.func 76) #[] #[]]) ⟨rfl, rfl, rfl, trivial⟩ Try.call55 (poset_order_pairs_all_1_sim h5 w0 _ M _ (List.Sublist.cons _ (List.Sublist.cons _ hM))) (fun F8 L' v hF9 hv => ?_)
  obtain ⟨s6, rfl, rfl⟩ := hv
  refine Lst.run rfl rfl (by decide) (Ev.assign rfl) ?_
  refine Lst.nil ?_
  refine At.then ?_
  obtain rfl := some_inj H
  refine Cd.ret ?_
  exact At.ret1 rfl (Res.tmp rfl) hF9 (List.Sublist.cons_cons _ (List.Sublist.cons _ (List.Sublist.cons _ (List.Sublist.refl _)))) ⟨s6, rfl, rfl⟩
set_option maxRecDepth 20000 in
theorem poset_Close_sim {a0 : Poset} {s_a0_1 : Sl} {r : (List Pair) × Int} (H : poset_Close a0 = some r) (w0 : World) (F : Frz) (M L : List Item) (hM : M.Sublist L) (hs_a0_1 : Rd w0 F M s_a0_1 a0.Pairs) : Ok Try.prog w0 24 [.agg (enc (PosetR.mk a0 s_a0_1)).toArray] F (L) (fun _ L' v => ∃ (s18 : Sl), v = .tuple #[Sl.v s18, .int .i64 r.2] ∧ L' = (.own s18 49 2 (encs r.1)) :: L) := by
  unfold poset_Close at H
  refine Ok.enter (m := 1) (n := 18) Try.func24 rfl rfl rfl (by decide) ?_
  refine Cd.env (e' := [(0, .agg (enc (PosetR.mk a0 s_a0_1)).toArray)]) rfl ?_
  refine Cd.seq ?_
  refine Cd.region ?_
  refine Lst.box rfl rfl (by decide) rfl (cs := enc (PosetR.mk a0 s_a0_1)) rfl (fun b1 => ?_)
  refine Lst.addNil 49 2 ?_
  refine Lst.run rfl rfl (by decide) (Ev.assign rfl) ?_
  refine Lst.run rfl rfl (by decide) (Ev.assign rfl) ?_
  refine Lst.nil ?_
  refine At.then ?_
  refine Cd.seq ?_
  refine Cd.region ?_
  refine Lst.run rfl rfl (by decide) (Ev.loadA (i := 1) rfl rfl Try.isAgg24 Try.sizeOf24 (ch := enc (PosetR.mk a0 s_a0_1)) (Enc.len _) (Get.here _)) ?_
  obtain ⟨r4, h5, H⟩ := bind_some H
  refine Lst.call1 rfl rfl (by decide) (vs := [.agg (enc (PosetR.mk a0 s_a0_1)).toArray]) ⟨rfl, trivial⟩ Try.call53 (poset_check_sim h5 w0 _ M _ (List.Sublist.cons _ (List.Sublist.cons _ hM)) (hs_a0_1.mono (FLe.refl _) (List.Sublist.refl _))) ?_
  refine Lst.run rfl rfl (by decide) (Ev.move rfl) ?_
  refine Lst.run rfl rfl (by decide) (Ev.extract rfl rfl) ?_
  refine Lst.run rfl rfl (by decide) (Ev.extract rfl rfl) ?_
  refine Lst.alloc (z := .agg (enc (Vector.replicate 20 (Vector.replicate 20 false))).toArray) (cs := enc (Vector.replicate 20 (Vector.replicate 20 false))) rfl rfl (by decide) (fun _ => by kernel_rfl) rfl (fun b8 => ?_)
  refine Lst.store (i := 0) rfl rfl rfl rfl rfl Try.sizeOf89 (vs := enc r4.1) rfl (Enc.len _) (Enc.one _) (cs' := enc r4.1) (Put.here ((Enc.len _).trans (Enc.len _).symm)) (L' := (.blk b8 (enc r4.1) 89) :: (.own Sl.nil 49 2 (encs ([] : List Pair))) :: (.blk b1 (enc (PosetR.mk a0 s_a0_1)) 24) :: L) rfl ?_
  refine Lst.run rfl rfl (by decide) (Ev.assign rfl) ?_
  refine Lst.nil ?_
  refine At.then ?_
  refine Cd.seq ?_
  refine Cd.seq ?_
  refine Cd.region ?_
  refine Lst.run rfl rfl (by decide) (Ev.move rfl) ?_
  refine Lst.run rfl rfl (by decide) (Ev.neq rfl rfl) ?_
  refine Lst.nil ?_
  refine At.then ?_
  rcases Bool.eq_false_or_eq_true (r4.2 != (0 : Int)) with hb10 | hb10
  · replace H := ite_t hb10 H
    refine Cd.condT rfl hb10 ?_
    refine Cd.seq ?_
    refine Cd.region ?_
    refine Lst.run rfl rfl (by decide) (Ev.move rfl) ?_
    refine Lst.addNil 49 2 ?_
    refine Lst.run rfl rfl (by decide) (Ev.assign rfl) ?_
    refine Lst.run rfl rfl (by decide) (Ev.assign rfl) ?_
    refine Lst.nil ?_
    refine At.then ?_
    obtain rfl := some_inj H
    refine Cd.ret ?_
    refine At.then_ret ?_
    exact At.ret2 rfl (Res.tmp rfl) (Res.tmp rfl) (FLe.refl _) (List.Sublist.cons_cons _ (List.Sublist.cons _ (List.Sublist.cons _ (List.Sublist.cons _ (List.Sublist.refl _))))) ⟨Sl.nil, rfl, rfl⟩
  replace H := ite_f hb10 H
  refine Cd.condF rfl hb10 ?_
  refine Cd.skip ?_
  refine At.then ?_
  refine Cd.seq ?_
  refine Cd.region ?_
  refine Lst.run rfl rfl (by decide) (Ev.loadA (i := 0) rfl rfl Try.isAgg89 Try.sizeOf89 (ch := enc r4.1) (Enc.len _) (Get.here _)) ?_
  refine Lst.run rfl rfl (by decide) (Ev.fieldAddr (off' := 0) rfl Try.runUnderlying24 rfl Try.sizeOf3 rfl rfl) ?_
  refine Lst.run rfl rfl (by decide) (Ev.load (i := 2) rfl rfl Try.isAgg3 (v := .int .i64 a0.N) ((PosetR.get_N (Get.here _)).off (by rfl))) ?_
  obtain ⟨r12, h13, H⟩ := bind_some H
  refine Lst.call rfl rfl (by decide) (vs := [.agg (enc r4.1).toArray, .int .i64 a0.N]) ⟨rfl, rfl, trivial⟩ Try.call54 (poset_order_all_sim h13 w0 _ M _ (List.Sublist.cons _ (List.Sublist.cons _ (List.Sublist.cons _ hM)))) (fun F16 L' v hF17 hv => ?_)
  obtain ⟨s14, rfl, rfl⟩ := hv
  refine Lst.run rfl rfl (by decide) (Ev.assign rfl) ?_
  refine Lst.run rfl rfl (by decide) (Ev.assign rfl) ?_
  refine Lst.nil ?_
  refine At.then ?_
  obtain rfl := some_inj H
  refine Cd.ret ?_
  exact At.ret2 rfl (Res.tmp rfl) (Res.tmp rfl) hF17 (List.Sublist.cons_cons _ (List.Sublist.cons _ (List.Sublist.cons _ (List.Sublist.cons _ (List.Sublist.refl _))))) ⟨s14, rfl, rfl⟩
set_option maxRecDepth 20000 in
theorem lat_Downs_sim {fu : Nat} {a0 : Poset} {s_a0_1 : Sl} {r : (List (BitVec 16)) × Int} (H : lat_Downs fu a0 = some r) (w0 : World) (F : Frz) (M L : List Item) (hM : M.Sublist L) (hs_a0_1 : Rd w0 F M s_a0_1 a0.Pairs) : Ok Try.prog w0 10 [.agg (enc (PosetR.mk a0 s_a0_1)).toArray] F (L) (fun _ L' v => ∃ (s72 : Sl), v = .tuple #[Sl.v s72, .int .i64 r.2] ∧ L' = (.own s72 31 1 (encs r.1)) :: L) := by
  unfold lat_Downs at H
  refine Ok.enter (m := 1) (n := 75) Try.func10 rfl rfl rfl (by decide) ?_
  refine Cd.env (e' := [(0, .agg (enc (PosetR.mk a0 s_a0_1)).toArray)]) rfl ?_
  refine Cd.seq ?_
  refine Cd.region ?_
  refine Lst.box rfl rfl (by decide) rfl (cs := enc (PosetR.mk a0 s_a0_1)) rfl (fun b1 => ?_)
  refine Lst.addNil 31 1 ?_
  refine Lst.run rfl rfl (by decide) (Ev.assign rfl) ?_
  refine Lst.run rfl rfl (by decide) (Ev.assign rfl) ?_
  refine Lst.nil ?_
  refine At.then ?_
  refine Cd.seq ?_
  refine Cd.region ?_
  refine Lst.run rfl rfl (by decide) (Ev.loadA (i := 1) rfl rfl Try.isAgg24 Try.sizeOf24 (ch := enc (PosetR.mk a0 s_a0_1)) (Enc.len _) (Get.here _)) ?_
  obtain ⟨r4, h5, H⟩ := bind_some H
  refine Lst.call rfl rfl (by decide) (vs := [.agg (enc (PosetR.mk a0 s_a0_1)).toArray]) ⟨rfl, trivial⟩ Try.call24 (poset_Close_sim h5 w0 _ M _ (List.Sublist.cons _ (List.Sublist.cons _ hM)) (hs_a0_1.mono (FLe.refl _) (List.Sublist.refl _))) (fun F8 L' v hF9 hv => ?_)
  obtain ⟨s6, rfl, rfl⟩ := hv
  refine Lst.run rfl rfl (by decide) (Ev.move rfl) ?_
  refine Lst.run rfl rfl (by decide) (Ev.extract rfl rfl) ?_
  refine Lst.run rfl rfl (by decide) (Ev.extract rfl rfl) ?_
  refine Lst.run rfl rfl (by decide) (Ev.assign rfl) ?_
  refine Lst.run rfl rfl (by decide) (Ev.assign rfl) ?_
  refine Lst.nil ?_
  refine At.then ?_
  refine Cd.seq ?_
  refine Cd.seq ?_
  refine Cd.region ?_
  refine Lst.run rfl rfl (by decide) (Ev.move rfl) ?_
  refine Lst.run rfl rfl (by decide) (Ev.neq rfl rfl) ?_
  refine Lst.nil ?_
  refine At.then ?_
  rcases Bool.eq_false_or_eq_true (r4.2 != (0 : Int)) with hb10 | hb10
  · replace H := ite_t hb10 H
    refine Cd.condT rfl hb10 ?_
    refine Cd.seq ?_
    refine Cd.region ?_
    refine Lst.run rfl rfl (by decide) (Ev.move rfl) ?_
    refine Lst.addNil 31 1 ?_
    refine Lst.run rfl rfl (by decide) (Ev.assign rfl) ?_
    refine Lst.run rfl rfl (by decide) (Ev.assign rfl) ?_
    refine Lst.nil ?_
    refine At.then ?_
    obtain rfl := some_inj H
    refine Cd.ret ?_
    refine At.then_ret ?_
    exact At.ret2 rfl (Res.tmp rfl) (Res.tmp rfl) hF9 (List.Sublist.cons_cons _ (List.Sublist.cons _ (List.Sublist.cons _ (List.Sublist.cons _ (List.Sublist.refl _))))) ⟨Sl.nil, rfl, rfl⟩
  replace H := ite_f hb10 H
  refine Cd.condF rfl hb10 ?_
  refine Cd.skip ?_
  refine At.then ?_
  refine Cd.seq ?_
  refine Cd.seq ?_
  refine Cd.region ?_
  refine Lst.run rfl rfl (by decide) (Ev.fieldAddr (off' := 0) rfl Try.runUnderlying24 rfl Try.sizeOf3 rfl rfl) ?_
  refine Lst.run rfl rfl (by decide) (Ev.load (i := 2) rfl rfl Try.isAgg3 (v := .int .i64 a0.N) ((PosetR.get_N (Get.here _)).off (by rfl))) ?_
  refine Lst.run rfl rfl (by decide) (Ev.gtr rfl rfl) ?_
  refine Lst.nil ?_
  refine At.then ?_
  rcases Bool.eq_false_or_eq_true (decide (a0.N > (12 : Int))) with hb12 | hb12
  · replace H := ite_t hb12 H
    refine Cd.condT rfl hb12 ?_
    refine Cd.seq ?_
    refine Cd.as (e' := []) (L' := (.own s6 49 2 (encs r4.1)) :: (.own Sl.nil 31 1 (encs ([] : List (BitVec 16)))) :: (.blk b1 (enc (PosetR.mk a0 s_a0_1)) 24) :: L) trivial rfl ?_
    refine Cd.region ?_
    refine Lst.addNil 31 1 ?_
    refine Lst.run rfl rfl (by decide) (Ev.assign rfl) ?_
    refine Lst.run rfl rfl (by decide) (Ev.assign rfl) ?_
    refine Lst.nil ?_
    refine At.then ?_
    obtain rfl := some_inj H
    refine Cd.ret ?_
    refine At.then_ret ?_
    exact At.ret2 rfl (Res.tmp rfl) (Res.tmp rfl) hF9 (List.Sublist.cons_cons _ (List.Sublist.cons _ (List.Sublist.cons _ (List.Sublist.cons _ (List.Sublist.refl _))))) ⟨Sl.nil, rfl, rfl⟩
  replace H := ite_f hb12 H
  refine Cd.condF rfl hb12 ?_
  refine Cd.skip ?_
  refine At.then ?_
  refine Cd.seq ?_
  refine Cd.region ?_
  refine Lst.alloc (cs := enc (Vector.replicate 12 (0 : BitVec 16))) rfl rfl (by decide) Try.zeroValue76 rfl (fun b14 => ?_)
  refine Lst.nil ?_
  refine At.then ?_
  refine Cd.seq ?_
  refine Cd.seq ?_
  refine Cd.region ?_
  refine Lst.run rfl rfl (by decide) (Ev.move rfl) ?_
  refine Lst.run rfl rfl (by decide) (Ev.lenS (α := Pair) (xs := r4.1) (by decide) rfl rfl Try.runUnderlying22 (Rd.own (i := 1) rfl rfl rfl)) ?_
  refine Lst.run rfl rfl (by decide) (Ev.move rfl) ?_
  refine Lst.nil ?_
  refine At.then ?_
  refine Cd.block ?_
  refine Cd.bound (Rd.le (α := Pair) (xs := r4.1) (by decide) (Rd.own (i := 1) rfl rfl rfl)) (fun hN71 => ?_)
  obtain ⟨ol16, H, HKl16⟩ := bind_some H
  refine Cd.loop (σ := Nat × Nat × (Vector (BitVec 16) 12)) (fun (i16, k16, y17) => [(1, .pointer (some ⟨b1, 0, none⟩)), (6, .pointer (some ⟨b14, 0, none⟩)), (24, Sl.v s6), (25, .int .i64 (r4.1.length : Int)), (26, .int .i64 (i16 : Int))]) (fun (i16, k16, y17) => (.blk b14 (enc y17) 76) :: (.own s6 49 2 (encs r4.1)) :: (.own Sl.nil 31 1 (encs ([] : List (BitVec 16)))) :: (.blk b1 (enc (PosetR.mk a0 s_a0_1)) 24) :: L) (fun _ => (fun (i16, k16, y17) => rangeF (lat_Downs_L16 r4) k16 i16 y17 = some ol16 ∧ i16 + k16 = r4.1.length)) (fun (i16, k16, y17) => k16) (0, r4.1.length, (Vector.replicate 12 (0 : BitVec 16))) ⟨rfl, rfl, rfl, rfl, rfl, trivial⟩ rfl ⟨H, by omega⟩ ?_
  rintro F18 ⟨i16, k16, y17⟩ hF19 ⟨H, hik16⟩
  refine Cd.as (e' := [(1, .pointer (some ⟨b1, 0, none⟩)), (6, .pointer (some ⟨b14, 0, none⟩)), (24, Sl.v s6), (25, .int .i64 (r4.1.length : Int)), (26, .int .i64 (i16 : Int))]) (L' := (.blk b14 (enc y17) 76) :: (.own s6 49 2 (encs r4.1)) :: (.own Sl.nil 31 1 (encs ([] : List (BitVec 16)))) :: (.blk b1 (enc (PosetR.mk a0 s_a0_1)) 24) :: L) ⟨rfl, rfl, rfl, rfl, rfl, trivial⟩ rfl ?_
  rcases k16 with _ | k16
  · have hc16 : decide ((i16 : Int) < (r4.1.length : Int)) = false := decide_eq_false (by omega)
    replace H := rangeF_end H
    refine Cd.seq ?_
    refine Cd.region ?_
    refine Lst.run rfl rfl (by decide) (Ev.lss rfl rfl) ?_
    refine Lst.nil ?_
    refine At.then ?_
    refine Cd.seq ?_
    refine Cd.condF rfl hc16 ?_
    refine Cd.exit ?_
    refine At.then_exit ?_
    refine At.then_exit ?_
    refine At.in_exit ?_
    subst H
    replace H := HKl16
    refine At.then ?_
    refine Cd.seq ?_
    refine Cd.region ?_
    refine Lst.addNil 31 1 ?_
    refine Lst.run rfl rfl (by decide) (Ev.assign rfl) ?_
    refine Lst.nil ?_
    refine At.then ?_
    refine Cd.seq ?_
    refine Cd.seq ?_
    refine Cd.region ?_
    refine Lst.run rfl rfl (by decide) (Ev.fieldAddr (off' := 0) rfl Try.runUnderlying24 rfl Try.sizeOf3 rfl rfl) ?_
    refine Lst.run rfl rfl (by decide) (Ev.load (i := 4) rfl rfl Try.isAgg3 (v := .int .i64 a0.N) ((PosetR.get_N (Get.here _)).off (by rfl))) ?_
    obtain ⟨n37, h38, H⟩ := bind_some H
    refine Lst.run rfl rfl (by decide) (Ev.shlU16 (i := (1 : BitVec 16)) (m := n37) rfl (congrArg some (congrArg (Value.int .i64) (cnt_some h38)))) ?_
    refine Lst.run rfl rfl (by decide) (Ev.move rfl) ?_
    refine Lst.nil ?_
    refine At.then ?_
    refine Cd.block ?_
    obtain ⟨ol40, H, HKl40⟩ := andThen_some H
    refine Cd.loop (σ := Nat × (BitVec 16) × Sl × (List (BitVec 16))) (fun (k40, y41, s42, l43) => [(1, .pointer (some ⟨b1, 0, none⟩)), (6, .pointer (some ⟨b14, 0, none⟩)), (9, Sl.v s42), (42, .int .u16 ((1 : BitVec 16) <<< n37).toNat), (43, .int .u16 y41.toNat)]) (fun (k40, y41, s42, l43) => (.own s42 31 1 (encs l43)) :: (.blk b14 (enc y17) 76) :: (.own s6 49 2 (encs r4.1)) :: (.own Sl.nil 31 1 (encs ([] : List (BitVec 16)))) :: (.blk b1 (enc (PosetR.mk a0 s_a0_1)) 24) :: L) (fun _ => (fun (k40, y41, s42, l43) => whileM (lat_Downs_L40 a0 y17 n37) k40 (y41, l43) = some ol40)) (fun (k40, y41, s42, l43) => k40) (fu, (0 : BitVec 16), Sl.nil, ([] : List (BitVec 16))) ⟨rfl, rfl, rfl, rfl, rfl, trivial⟩ rfl H ?_
    rintro F44 ⟨k40, y41, s42, l43⟩ hF45 H
    refine Cd.as (e' := [(1, .pointer (some ⟨b1, 0, none⟩)), (6, .pointer (some ⟨b14, 0, none⟩)), (9, Sl.v s42), (42, .int .u16 ((1 : BitVec 16) <<< n37).toNat), (43, .int .u16 y41.toNat)]) (L' := (.own s42 31 1 (encs l43)) :: (.blk b14 (enc y17) 76) :: (.own s6 49 2 (encs r4.1)) :: (.own Sl.nil 31 1 (encs ([] : List (BitVec 16)))) :: (.blk b1 (enc (PosetR.mk a0 s_a0_1)) 24) :: L) ⟨rfl, rfl, rfl, rfl, rfl, trivial⟩ rfl ?_
    rcases k40 with _ | k40
    · cases H
    obtain ⟨c40, H, hgo40, hbrk40, hret40⟩ := whileM_go H
    unfold lat_Downs_L40 at H
    try dsimp only at H
    refine Cd.seq ?_
    refine Cd.region ?_
    refine Lst.run rfl rfl (by decide) (Ev.lss rfl rfl) ?_
    refine Lst.nil ?_
    refine At.then ?_
    refine Cd.seq ?_
    rcases (Bool.eq_false_or_eq_true (decide ((y41.toNat : Int) < (((1 : BitVec 16) <<< n37).toNat : Int)))).symm with hb46 | hb46
    · replace H := ite_f hb46 H
      refine Cd.condF rfl hb46 ?_
      refine Cd.exit ?_
      refine At.then_exit ?_
      refine At.then_exit ?_
      refine At.in_exit ?_
      have H := hbrk40 _ (some_inj H).symm
      subst H
      replace H := HKl40
      refine At.then ?_
      refine Cd.seq ?_
      refine Cd.region ?_
      refine Lst.run rfl rfl (by decide) (Ev.move rfl) ?_
      refine Lst.run rfl rfl (by decide) (Ev.assign rfl) ?_
      refine Lst.run rfl rfl (by decide) (Ev.assign rfl) ?_
      refine Lst.nil ?_
      refine At.then ?_
      obtain rfl := some_inj H
      refine Cd.ret ?_
      exact At.ret2 rfl (Res.tmp rfl) (Res.tmp rfl) (FLe.trans (FLe.trans hF9 hF19) hF45) (List.Sublist.cons_cons _ (List.Sublist.cons _ (List.Sublist.cons _ (List.Sublist.cons _ (List.Sublist.cons _ (List.Sublist.refl _)))))) ⟨s42, rfl, rfl⟩
    replace H := ite_t hb46 H
    refine Cd.condT rfl hb46 ?_
    refine Cd.skip ?_
    refine At.then ?_
    refine Cd.seq ?_
    refine Cd.block ?_
    refine Cd.seq ?_
    refine Cd.region ?_
    refine Lst.run rfl rfl (by decide) (Ev.move rfl) ?_
    refine Lst.run rfl rfl (by decide) (Ev.assign rfl) ?_
    refine Lst.nil ?_
    refine At.then ?_
    refine Cd.seq ?_
    refine Cd.region ?_
    refine Lst.run rfl rfl (by decide) (Ev.assign rfl) ?_
    refine Lst.nil ?_
    refine At.then ?_
    refine Cd.seq ?_
    refine Cd.seq ?_
    refine Cd.region ?_
    refine Lst.run rfl rfl (by decide) (Ev.fieldAddr (off' := 0) rfl Try.runUnderlying24 rfl Try.sizeOf3 rfl rfl) ?_
    refine Lst.run rfl rfl (by decide) (Ev.load (i := 4) rfl rfl Try.isAgg3 (v := .int .i64 a0.N) ((PosetR.get_N (Get.here _)).off (by rfl))) ?_
    refine Lst.run rfl rfl (by decide) (Ev.move rfl) ?_
    refine Lst.nil ?_
    refine At.then ?_
    refine Cd.block ?_
    obtain ⟨nn51, hN70, H⟩ := bind_some H
    replace hN70 := upTo_some hN70
    obtain ⟨ol47, H, HKl47⟩ := bind_some H
    refine Cd.loop (σ := Nat × Nat × Bool) (fun (i47, k47, y48) => [(1, .pointer (some ⟨b1, 0, none⟩)), (6, .pointer (some ⟨b14, 0, none⟩)), (9, Sl.v s42), (10, .int .u16 y41.toNat), (11, .bool y48), (42, .int .u16 ((1 : BitVec 16) <<< n37).toNat), (43, .int .u16 y41.toNat), (47, .int .i64 a0.N), (48, .int .i64 (i47 : Int))]) (fun (i47, k47, y48) => (.own s42 31 1 (encs l43)) :: (.blk b14 (enc y17) 76) :: (.own s6 49 2 (encs r4.1)) :: (.own Sl.nil 31 1 (encs ([] : List (BitVec 16)))) :: (.blk b1 (enc (PosetR.mk a0 s_a0_1)) 24) :: L) (fun _ => (fun (i47, k47, y48) => rangeF (lat_Downs_L47 y17 y41) k47 i47 y48 = some ol47 ∧ i47 + k47 = nn51)) (fun (i47, k47, y48) => k47) (0, nn51, true) ⟨rfl, rfl, rfl, rfl, rfl, rfl, rfl, rfl, rfl, trivial⟩ rfl ⟨H, by omega⟩ ?_
    rintro F49 ⟨i47, k47, y48⟩ hF50 ⟨H, hik47⟩
    refine Cd.as (e' := [(1, .pointer (some ⟨b1, 0, none⟩)), (6, .pointer (some ⟨b14, 0, none⟩)), (9, Sl.v s42), (10, .int .u16 y41.toNat), (11, .bool y48), (42, .int .u16 ((1 : BitVec 16) <<< n37).toNat), (43, .int .u16 y41.toNat), (47, .int .i64 a0.N), (48, .int .i64 (i47 : Int))]) (L' := (.own s42 31 1 (encs l43)) :: (.blk b14 (enc y17) 76) :: (.own s6 49 2 (encs r4.1)) :: (.own Sl.nil 31 1 (encs ([] : List (BitVec 16)))) :: (.blk b1 (enc (PosetR.mk a0 s_a0_1)) 24) :: L) ⟨rfl, rfl, rfl, rfl, rfl, rfl, rfl, rfl, rfl, trivial⟩ rfl ?_
    rcases k47 with _ | k47
    · have hc47 : decide ((i47 : Int) < a0.N) = false := decide_eq_false (by omega)
      replace H := rangeF_end H
      refine Cd.seq ?_
      refine Cd.region ?_
      refine Lst.run rfl rfl (by decide) (Ev.lss rfl rfl) ?_
      refine Lst.nil ?_
      refine At.then ?_
      refine Cd.seq ?_
      refine Cd.condF rfl hc47 ?_
      refine Cd.exit ?_
      refine At.then_exit ?_
      refine At.then_exit ?_
      refine At.in_exit ?_
      subst H
      replace H := HKl47
      refine At.then ?_
      refine Cd.seq ?_
      refine Cd.region ?_
      refine Lst.run rfl rfl (by decide) (Ev.move rfl) ?_
      refine Lst.nil ?_
      refine At.then ?_
      rcases (Bool.eq_false_or_eq_true y48).symm with hb64 | hb64
      · replace H := ite_f hb64 H
        refine Cd.condF rfl hb64 ?_
        refine Cd.skip ?_
        refine At.in_normal ?_
        refine At.then ?_
        refine Cd.region ?_
        refine Lst.run rfl rfl (by decide) (Ev.addU16 (i := y41) (j := (1 : BitVec 16)) rfl rfl) ?_
        refine Lst.run rfl rfl (by decide) (Ev.move rfl) ?_
        refine Lst.nil ?_
        exact At.meet (k40, y41 + (1 : BitVec 16), s42, l43) (FLe.trans hF45 hF50) ⟨rfl, rfl, rfl, rfl, rfl, trivial⟩ rfl ⟨hgo40 _ (some_inj H).symm, Nat.lt_succ_self _⟩
      replace H := ite_t hb64 H
      refine Cd.condT rfl hb64 ?_
      refine Cd.region ?_
      refine Lst.run rfl rfl (by decide) (Ev.move rfl) ?_
      refine Lst.run rfl rfl (by decide) (Ev.move rfl) ?_
      refine Lst.buildSlice (α := BitVec 16) (xs := ([y41] : List (BitVec 16))) (pv := [(0, .int .u16 y41.toNat)]) rfl rfl (by decide) ⟨rfl, rfl, trivial⟩ (run_buildSlice (α := BitVec 16) (z0 := (0 : BitVec 16)) (xs := ([y41] : List (BitVec 16))) Try.runUnderlying27 Try.sizeOf31 Try.zeroValue31 rfl rfl rfl (by decide) rfl (fill_cons (cs := encs (List.replicate 1 (0 : BitVec 16))) (cs' := encs ((List.replicate 1 (0 : BitVec 16)).set 0 y41)) (vs := [.int .u16 y41.toNat]) rfl rfl rfl ((Put.elemN (s := 1) (i := 0) (x := (0 : BitVec 16)) (y := y41) rfl rfl (Put.here (vs := [.int .u16 y41.toNat]) rfl)).off rfl) fill_nil)) rfl rfl (by decide) (fun s65 _ => ?_)
      obtain ⟨u67, h68, H⟩ := bind_some H
      refine Lst.append (i := 1) (α := BitVec 16) (xs := l43) (ys := ([y41] : List (BitVec 16))) rfl rfl (by decide) rfl rfl Try.runUnderlying27 Try.typeInfo31 rfl rfl rfl rfl rfl rfl (Rd.own (i := 0) rfl rfl rfl) rfl (room_some h68) rfl (fun s69 => ?_)
      refine Lst.its (L' := (.own s65 31 1 (encs ([y41] : List (BitVec 16)))) :: (.own s69 31 1 (encs (l43 ++ ([y41] : List (BitVec 16))))) :: (.blk b14 (enc y17) 76) :: (.own s6 49 2 (encs r4.1)) :: (.own Sl.nil 31 1 (encs ([] : List (BitVec 16)))) :: (.blk b1 (enc (PosetR.mk a0 s_a0_1)) 24) :: L) rfl ?_
      refine Lst.run rfl rfl (by decide) (Ev.assign rfl) ?_
      refine Lst.nil ?_
      refine At.in_normal ?_
      refine At.then ?_
      refine Cd.region ?_
      refine Lst.run rfl rfl (by decide) (Ev.addU16 (i := y41) (j := (1 : BitVec 16)) rfl rfl) ?_
      refine Lst.run rfl rfl (by decide) (Ev.move rfl) ?_
      refine Lst.nil ?_
      refine At.less (L' := (.own s69 31 1 (encs (l43 ++ ([y41] : List (BitVec 16))))) :: (.blk b14 (enc y17) 76) :: (.own s6 49 2 (encs r4.1)) :: (.own Sl.nil 31 1 (encs ([] : List (BitVec 16)))) :: (.blk b1 (enc (PosetR.mk a0 s_a0_1)) 24) :: L) (List.Sublist.cons _ (List.Sublist.cons_cons _ (List.Sublist.cons_cons _ (List.Sublist.cons_cons _ (List.Sublist.cons_cons _ (List.Sublist.cons_cons _ (List.Sublist.refl _))))))) ?_
      exact At.meet (k40, y41 + (1 : BitVec 16), s69, l43 ++ ([y41] : List (BitVec 16))) (FLe.trans hF45 hF50) ⟨rfl, rfl, rfl, rfl, rfl, trivial⟩ rfl ⟨hgo40 _ (some_inj H).symm, Nat.lt_succ_self _⟩
    have hc47 : decide ((i47 : Int) < a0.N) = true := decide_eq_true (by omega)
    obtain ⟨c47, H, hgo47⟩ := rangeF_go H
    unfold lat_Downs_L47 at H
    try dsimp only at H
    refine Cd.seq ?_
    refine Cd.region ?_
    refine Lst.run rfl rfl (by decide) (Ev.lss rfl rfl) ?_
    refine Lst.nil ?_
    refine At.then ?_
    refine Cd.seq ?_
    refine Cd.condT rfl hc47 ?_
    refine Cd.skip ?_
    refine At.then ?_
    refine Cd.seq ?_
    refine Cd.block ?_
    refine Cd.seq ?_
    refine Cd.region ?_
    refine Lst.run rfl rfl (by decide) (Ev.move rfl) ?_
    refine Lst.run rfl rfl (by decide) (Ev.assign rfl) ?_
    refine Lst.nil ?_
    refine At.then ?_
    refine Cd.region ?_
    refine Lst.run rfl rfl (by decide) (Ev.move rfl) ?_
    refine Lst.run rfl rfl (by decide) (Ev.move rfl) ?_
    rcases (Bool.eq_false_or_eq_true y48).symm with hb52 | hb52
    · replace H := ite_f hb52 H
      refine Lst.skip rfl rfl rfl hb52 rfl (by decide) ?_
      refine Lst.skip rfl rfl rfl hb52 rfl (by decide) ?_
      refine Lst.skip rfl rfl rfl hb52 rfl (by decide) ?_
      refine Lst.skip rfl rfl rfl hb52 rfl (by decide) ?_
      refine Lst.skip rfl rfl rfl hb52 rfl (by decide) ?_
      refine Lst.skip rfl rfl rfl hb52 rfl (by decide) ?_
      refine Lst.skipU rfl rfl rfl rfl (by decide) ?_
      refine Lst.skipU rfl rfl rfl rfl (by decide) ?_
      refine Lst.skipU rfl rfl rfl rfl (by decide) ?_
      refine Lst.skipU rfl rfl rfl rfl (by decide) ?_
      refine Lst.skipU rfl rfl rfl rfl (by decide) ?_
      refine Lst.skipU rfl rfl rfl rfl (by decide) ?_
      refine Lst.skip rfl rfl rfl hb52 rfl (by decide) ?_
      refine Lst.run rfl rfl (by decide) (Ev.pickF rfl hb52 rfl) ?_
      refine Lst.run rfl rfl (by decide) (Ev.assign rfl) ?_
      refine Lst.nil ?_
      refine At.in_normal ?_
      refine At.then ?_
      refine Cd.as (e' := [(1, .pointer (some ⟨b1, 0, none⟩)), (6, .pointer (some ⟨b14, 0, none⟩)), (9, Sl.v s42), (10, .int .u16 y41.toNat), (11, .bool false), (42, .int .u16 ((1 : BitVec 16) <<< n37).toNat), (43, .int .u16 y41.toNat), (47, .int .i64 a0.N), (48, .int .i64 (i47 : Int))]) (L' := (.own s42 31 1 (encs l43)) :: (.blk b14 (enc y17) 76) :: (.own s6 49 2 (encs r4.1)) :: (.own Sl.nil 31 1 (encs ([] : List (BitVec 16)))) :: (.blk b1 (enc (PosetR.mk a0 s_a0_1)) 24) :: L) ⟨rfl, rfl, rfl, rfl, rfl, rfl, rfl, rfl, rfl, trivial⟩ rfl ?_
      refine Cd.region ?_
      refine Lst.run rfl rfl (by decide) (Ev.incr (by omega) rfl rfl) ?_
      refine Lst.run rfl rfl (by decide) (Ev.move rfl) ?_
      refine Lst.nil ?_
      exact At.meet (i47 + 1, k47, false) hF50 ⟨rfl, rfl, rfl, rfl, rfl, rfl, rfl, rfl, rfl, trivial⟩ rfl ⟨⟨hgo47 _ (some_inj H).symm, by omega⟩, Nat.lt_succ_self _⟩
    replace H := ite_t hb52 H
    refine Lst.runG rfl rfl rfl hb52 rfl (by decide) (Ev.move rfl) ?_
    refine Lst.runG rfl rfl rfl hb52 rfl (by decide) (Ev.move rfl) ?_
    obtain ⟨n53, h54, H⟩ := bind_some H
    refine Lst.runG rfl rfl rfl hb52 rfl (by decide) (Ev.shrU16 (i := y41) (m := n53) rfl (congrArg some (congrArg (Value.int .i64) (cnt_some h54)))) ?_
    refine Lst.runG rfl rfl rfl hb52 rfl (by decide) (Ev.andU16 (i := y41 >>> n53) (j := (1 : BitVec 16)) rfl rfl) ?_
    refine Lst.runG rfl rfl rfl hb52 rfl (by decide) (Ev.eql rfl rfl) ?_
    refine Lst.runG rfl rfl rfl hb52 rfl (by decide) (Ev.move rfl) ?_
    obtain ⟨o56, H, HKo56⟩ := bind_some H
    refine Lst.join (σ := Bool) 7 (fun y57 => [(1, .pointer (some ⟨b1, 0, none⟩)), (6, .pointer (some ⟨b14, 0, none⟩)), (9, Sl.v s42), (10, .int .u16 y41.toNat), (11, .bool y48), (42, .int .u16 ((1 : BitVec 16) <<< n37).toNat), (43, .int .u16 y41.toNat), (47, .int .i64 a0.N), (48, .int .i64 (i47 : Int)), (52, .bool y48), (65, .bool y57)]) (fun y57 => (.own s42 31 1 (encs l43)) :: (.blk b14 (enc y17) 76) :: (.own s6 49 2 (encs r4.1)) :: (.own Sl.nil 31 1 (encs ([] : List (BitVec 16)))) :: (.blk b1 (enc (PosetR.mk a0 s_a0_1)) 24) :: L) (fun _ y57 => y57 = o56) ?_ ?_
    · rcases Bool.eq_false_or_eq_true ((((y41 >>> n53) &&& (1 : BitVec 16)).toNat : Int) == ((0 : BitVec 16).toNat : Int)) with hb58 | hb58
      · replace H := ite_t hb58 H
        refine Lst.skip rfl rfl rfl hb58 rfl (by decide) ?_
        refine Lst.skip rfl rfl rfl hb58 rfl (by decide) ?_
        refine Lst.skip rfl rfl rfl hb58 rfl (by decide) ?_
        refine Lst.skip rfl rfl rfl hb58 rfl (by decide) ?_
        refine Lst.skip rfl rfl rfl hb58 rfl (by decide) ?_
        refine Lst.skip rfl rfl rfl hb58 rfl (by decide) ?_
        refine Lst.runG rfl rfl rfl hb52 rfl (by decide) (Ev.pickT rfl hb58 rfl) ?_
        refine Lst.nil ?_
        exact At.meet true (FLe.refl _) ⟨rfl, rfl, rfl, rfl, rfl, rfl, rfl, rfl, rfl, rfl, rfl, trivial⟩ rfl (some_inj H)
      replace H := ite_f hb58 H
      refine Lst.runG rfl rfl rfl hb58 rfl (by decide) (Ev.move rfl) ?_
      obtain ⟨x59, h60, H⟩ := bind_some H
      have g61 := vat_some h60
      refine Lst.runG rfl rfl rfl hb58 rfl (by decide) (Ev.indexAddr (off' := 0 + (i47 : Int).toNat * 1) rfl rfl Try.runUnderlying76 Try.sizeOf31 g61.1 g61.2.1 rfl) ?_
      refine Lst.runG rfl rfl rfl hb58 rfl (by decide) (Ev.load (i := 1) rfl rfl Try.isAgg31 (v := .int .u16 x59.toNat) ((Get.vecN (s := 1) rfl g61.2.2 (Get.here _)).off (by omega))) ?_
      refine Lst.runG rfl rfl rfl hb58 rfl (by decide) (Ev.move rfl) ?_
      refine Lst.runG rfl rfl rfl hb58 rfl (by decide) (Ev.andNotU16 (i := x59) (j := y41) rfl rfl) ?_
      refine Lst.runG rfl rfl rfl hb58 rfl (by decide) (Ev.eql rfl rfl) ?_
      refine Lst.runG rfl rfl rfl hb52 rfl (by decide) (Ev.pickF rfl hb58 rfl) ?_
      refine Lst.nil ?_
      exact At.meet (((x59 &&& ~~~y41).toNat : Int) == ((0 : BitVec 16).toNat : Int)) (FLe.refl _) ⟨rfl, rfl, rfl, rfl, rfl, rfl, rfl, rfl, rfl, rfl, rfl, trivial⟩ rfl (some_inj H)
    rintro F62 y57 hF63 hy
    subst hy
    refine Lst.as (e' := [(1, .pointer (some ⟨b1, 0, none⟩)), (6, .pointer (some ⟨b14, 0, none⟩)), (9, Sl.v s42), (10, .int .u16 y41.toNat), (11, .bool y48), (42, .int .u16 ((1 : BitVec 16) <<< n37).toNat), (43, .int .u16 y41.toNat), (47, .int .i64 a0.N), (48, .int .i64 (i47 : Int)), (52, .bool y48), (65, .bool y57)]) (L' := (.own s42 31 1 (encs l43)) :: (.blk b14 (enc y17) 76) :: (.own s6 49 2 (encs r4.1)) :: (.own Sl.nil 31 1 (encs ([] : List (BitVec 16)))) :: (.blk b1 (enc (PosetR.mk a0 s_a0_1)) 24) :: L) ⟨rfl, rfl, rfl, rfl, rfl, rfl, rfl, rfl, rfl, rfl, rfl, trivial⟩ rfl ?_
    replace H := HKo56
    refine Lst.run rfl rfl (by decide) (Ev.pickT rfl hb52 rfl) ?_
    refine Lst.run rfl rfl (by decide) (Ev.assign rfl) ?_
    refine Lst.nil ?_
    refine At.in_normal ?_
    refine At.then ?_
    refine Cd.region ?_
    refine Lst.run rfl rfl (by decide) (Ev.incr (by omega) rfl rfl) ?_
    refine Lst.run rfl rfl (by decide) (Ev.move rfl) ?_
    refine Lst.nil ?_
    exact At.meet (i47 + 1, k47, y57) (FLe.trans hF50 hF63) ⟨rfl, rfl, rfl, rfl, rfl, rfl, rfl, rfl, rfl, trivial⟩ rfl ⟨⟨hgo47 _ (some_inj H).symm, by omega⟩, Nat.lt_succ_self _⟩
  have hc16 : decide ((i16 : Int) < (r4.1.length : Int)) = true := decide_eq_true (by omega)
  obtain ⟨c16, H, hgo16⟩ := rangeF_go H
  unfold lat_Downs_L16 at H
  try dsimp only at H
  refine Cd.seq ?_
  refine Cd.region ?_
  refine Lst.run rfl rfl (by decide) (Ev.lss rfl rfl) ?_
  refine Lst.nil ?_
  refine At.then ?_
  refine Cd.seq ?_
  refine Cd.condT rfl hc16 ?_
  refine Cd.skip ?_
  refine At.then ?_
  refine Cd.seq ?_
  refine Cd.block ?_
  refine Cd.seq ?_
  refine Cd.region ?_
  obtain ⟨x20, h21, H⟩ := bind_some H
  have g22 := lat_some h21
  refine Lst.run rfl rfl (by decide) (Ev.indexS (α := Pair) (xs := r4.1) rfl rfl Try.runUnderlying22 Try.sizeOf49 rfl (by decide) (Rd.own (i := 1) rfl rfl rfl) g22.1 g22.2.1) ?_
  refine Lst.run rfl rfl (by decide) (Ev.loadSA (α := Pair) rfl (Rd.own (i := 1) rfl rfl rfl) Try.isAgg49 Try.sizeOf49 (ch := enc x20) (Enc.len _) (by decide) ((Get.elemN (s := 2) rfl g22.2.2 (Get.here _)).off (by omega))) ?_
  refine Lst.alloc (cs := enc Pair.zero) rfl rfl (by decide) Try.zeroValue49 rfl (fun b23 => ?_)
  refine Lst.store (i := 0) rfl rfl rfl rfl rfl Try.sizeOf49 (vs := enc x20) rfl (Enc.len _) (Enc.one _) (cs' := enc x20) (Put.here ((Enc.len _).trans (Enc.len _).symm)) (L' := (.blk b23 (enc x20) 49) :: (.blk b14 (enc y17) 76) :: (.own s6 49 2 (encs r4.1)) :: (.own Sl.nil 31 1 (encs ([] : List (BitVec 16)))) :: (.blk b1 (enc (PosetR.mk a0 s_a0_1)) 24) :: L) rfl ?_
  refine Lst.nil ?_
  refine At.then ?_
  refine Cd.tail 9 (by kernel_rfl) (by kernel_rfl) ?_
  refine Qt.run rfl rfl (by decide) (Ev.fieldAddr (off' := 1) rfl Try.runUnderlying49 rfl Try.sizeOf3 rfl rfl) ?_
  refine Qt.run rfl rfl (by decide) (Ev.load (i := 0) rfl rfl Try.isAgg3 (v := .int .i64 x20.B) ((Pair.get_B (Get.here _)).off (by rfl))) ?_
  obtain ⟨x25, h26, H⟩ := bind_some H
  have g27 := vat_some h26
  refine Qt.run rfl rfl (by decide) (Ev.indexAddr (off' := 0 + x20.B.toNat * 1) rfl rfl Try.runUnderlying76 Try.sizeOf31 g27.1 g27.2.1 rfl) ?_
  refine Qt.run rfl rfl (by decide) (Ev.load (i := 1) rfl rfl Try.isAgg31 (v := .int .u16 x25.toNat) ((Get.vecN (s := 1) rfl g27.2.2 (Get.here _)).off (by omega))) ?_
  refine Qt.run rfl rfl (by decide) (Ev.fieldAddr (off' := 0) rfl Try.runUnderlying49 rfl Try.sizeOf3 rfl rfl) ?_
  refine Qt.run rfl rfl (by decide) (Ev.load (i := 0) rfl rfl Try.isAgg3 (v := .int .i64 x20.A) ((Pair.get_A (Get.here _)).off (by rfl))) ?_
  obtain ⟨n28, h29, H⟩ := bind_some H
  refine Qt.run rfl rfl (by decide) (Ev.shlU16 (i := (1 : BitVec 16)) (m := n28) rfl (congrArg some (congrArg (Value.int .i64) (cnt_some h29)))) ?_
  refine Qt.run rfl rfl (by decide) (Ev.orU16 (i := x25) (j := (1 : BitVec 16) <<< n28) rfl rfl) ?_
  obtain ⟨x31, h32, H⟩ := bind_some H
  have g33 := vat_some h32
  refine Qt.run rfl rfl (by decide) (Ev.indexAddr (off' := 0 + x20.B.toNat * 1) rfl rfl Try.runUnderlying76 Try.sizeOf31 g33.1 g33.2.1 rfl) ?_
  refine Qt.tail ?_
  obtain ⟨p34, h35, H⟩ := Let_some H
  refine Lst.store (i := 1) rfl rfl rfl rfl rfl Try.sizeOf31 (vs := [.int .u16 (x25 ||| ((1 : BitVec 16) <<< n28)).toNat]) rfl rfl rfl (cs' := enc p34) (by rw [← h35]; exact (Put.vecN (s := 1) rfl g33.2.2 (Put.here (vs := [.int .u16 (x25 ||| ((1 : BitVec 16) <<< n28)).toNat]) rfl)).off (by omega)) (L' := (.blk b23 (enc x20) 49) :: (.blk b14 (enc p34) 76) :: (.own s6 49 2 (encs r4.1)) :: (.own Sl.nil 31 1 (encs ([] : List (BitVec 16)))) :: (.blk b1 (enc (PosetR.mk a0 s_a0_1)) 24) :: L) rfl ?_
  refine Lst.nil ?_
  refine At.in_normal ?_
  refine At.then ?_
  refine Cd.region ?_
  refine Lst.run rfl rfl (by decide) (Ev.incr (by omega) rfl rfl) ?_
  refine Lst.run rfl rfl (by decide) (Ev.move rfl) ?_
  refine Lst.nil ?_
  refine At.less (L' := (.blk b14 (enc p34) 76) :: (.own s6 49 2 (encs r4.1)) :: (.own Sl.nil 31 1 (encs ([] : List (BitVec 16)))) :: (.blk b1 (enc (PosetR.mk a0 s_a0_1)) 24) :: L) (List.Sublist.cons _ (List.Sublist.cons_cons _ (List.Sublist.cons_cons _ (List.Sublist.cons_cons _ (List.Sublist.cons_cons _ (List.Sublist.refl _)))))) ?_
  exact At.meet (i16 + 1, k16, p34) hF19 ⟨rfl, rfl, rfl, rfl, rfl, trivial⟩ rfl ⟨⟨hgo16 _ (some_inj H).symm, by omega⟩, Nat.lt_succ_self _⟩
set_option maxRecDepth 20000 in
theorem partref_Downs_sim {fu : Nat} {a0 : Poset} {s_a0_1 : Sl} {r : (List (BitVec 16))} (H : partref_Downs fu a0 = some r) (w0 : World) (F : Frz) (M L : List Item) (hM : M.Sublist L) (hs_a0_1 : Rd w0 F M s_a0_1 a0.Pairs) : Ok Try.prog w0 12 [.agg (enc (PosetR.mk a0 s_a0_1)).toArray] F (L) (fun _ L' v => ∃ (s66 : Sl), v = Sl.v s66 ∧ L' = (.own s66 31 1 (encs r)) :: L) := by
  unfold partref_Downs at H
  refine Ok.enter (m := 1) (n := 65) Try.func12 rfl rfl rfl (by decide) ?_
  refine Cd.env (e' := [(0, .agg (enc (PosetR.mk a0 s_a0_1)).toArray)]) rfl ?_
  refine Cd.seq ?_
  refine Cd.region ?_
  refine Lst.box rfl rfl (by decide) rfl (cs := enc (PosetR.mk a0 s_a0_1)) rfl (fun b1 => ?_)
  refine Lst.addNil 31 1 ?_
  refine Lst.run rfl rfl (by decide) (Ev.assign rfl) ?_
  refine Lst.nil ?_
  refine At.then ?_
  refine Cd.seq ?_
  refine Cd.region ?_
  refine Lst.run rfl rfl (by decide) (Ev.fieldAddr (off' := 0) rfl Try.runUnderlying24 rfl Try.sizeOf3 rfl rfl) ?_
  refine Lst.run rfl rfl (by decide) (Ev.load (i := 1) rfl rfl Try.isAgg3 (v := .int .i64 a0.N) ((PosetR.get_N (Get.here _)).off (by rfl))) ?_
  refine Lst.run rfl rfl (by decide) (Ev.fieldAddr (off' := 1) rfl Try.runUnderlying24 rfl Try.sizeOf22 rfl rfl) ?_
  refine Lst.run rfl rfl (by decide) (Ev.load (i := 1) rfl rfl Try.isAgg22 (v := Sl.v s_a0_1) ((PosetR.get_Pairs (Get.here _)).off (by rfl))) ?_
  obtain ⟨r4, h5, H⟩ := bind_some H
  refine Lst.call rfl rfl (by decide) (vs := [.int .i64 a0.N, Sl.v s_a0_1]) ⟨rfl, rfl, trivial⟩ Try.call45 (partref_Closure_sim h5 w0 _ M _ (List.Sublist.cons _ (List.Sublist.cons _ hM)) (hs_a0_1.mono (FLe.refl _) (List.Sublist.refl _))) (fun F11 L' v hF12 hv => ?_)
  obtain ⟨s6, rs7, rfl, rfl, fm8⟩ := hv
  refine Lst.run rfl rfl (by decide) (Ev.assign rfl) ?_
  refine Lst.nil ?_
  refine At.then ?_
  refine Cd.seq ?_
  refine Cd.region ?_
  refine Lst.addNil 31 1 ?_
  refine Lst.run rfl rfl (by decide) (Ev.assign rfl) ?_
  refine Lst.nil ?_
  refine At.then ?_
  refine Cd.seq ?_
  refine Cd.seq ?_
  refine Cd.region ?_
  refine Lst.run rfl rfl (by decide) (Ev.fieldAddr (off' := 0) rfl Try.runUnderlying24 rfl Try.sizeOf3 rfl rfl) ?_
  refine Lst.run rfl rfl (by decide) (Ev.load (i := 4) rfl rfl Try.isAgg3 (v := .int .i64 a0.N) ((PosetR.get_N (Get.here _)).off (by rfl))) ?_
  obtain ⟨n14, h15, H⟩ := bind_some H
  refine Lst.run rfl rfl (by decide) (Ev.shl64 (i := (1 : Int)) (m := n14) rfl (congrArg some (congrArg (Value.int .i64) (cnt_some h15)))) ?_
  refine Lst.run rfl rfl (by decide) (Ev.move rfl) ?_
  refine Lst.nil ?_
  refine At.then ?_
  refine Cd.block ?_
  obtain ⟨nn22, hN65, H⟩ := bind_some H
  replace hN65 := upTo_some hN65
  obtain ⟨ol17, H, HKl17⟩ := bind_some H
  refine Cd.loop (σ := Nat × Nat × Sl × (List (BitVec 16))) (fun (i17, k17, s18, l19) => [(1, .pointer (some ⟨b1, 0, none⟩)), (3, Sl.v s6), (4, Sl.v s18), (16, .int .i64 (w64 ((1 : Int) * 2 ^ (min n14 64)))), (17, .int .i64 (i17 : Int))]) (fun (i17, k17, s18, l19) => (.own s18 31 1 (encs l19)) :: (.rows (α := Bool) 4 rs7) :: (.own s6 75 1 (encs rs7)) :: (.own Sl.nil 31 1 (encs ([] : List (BitVec 16)))) :: (.blk b1 (enc (PosetR.mk a0 s_a0_1)) 24) :: L) (fun _ => (fun (i17, k17, s18, l19) => rangeF (partref_Downs_L17 a0 r4) k17 i17 l19 = some ol17 ∧ i17 + k17 = nn22)) (fun (i17, k17, s18, l19) => k17) (0, nn22, Sl.nil, ([] : List (BitVec 16))) ⟨rfl, rfl, rfl, rfl, rfl, trivial⟩ rfl ⟨H, by omega⟩ ?_
  rintro F20 ⟨i17, k17, s18, l19⟩ hF21 ⟨H, hik17⟩
  refine Cd.as (e' := [(1, .pointer (some ⟨b1, 0, none⟩)), (3, Sl.v s6), (4, Sl.v s18), (16, .int .i64 (w64 ((1 : Int) * 2 ^ (min n14 64)))), (17, .int .i64 (i17 : Int))]) (L' := (.own s18 31 1 (encs l19)) :: (.rows (α := Bool) 4 rs7) :: (.own s6 75 1 (encs rs7)) :: (.own Sl.nil 31 1 (encs ([] : List (BitVec 16)))) :: (.blk b1 (enc (PosetR.mk a0 s_a0_1)) 24) :: L) ⟨rfl, rfl, rfl, rfl, rfl, trivial⟩ rfl ?_
  rcases k17 with _ | k17
  · have hc17 : decide ((i17 : Int) < (w64 ((1 : Int) * 2 ^ (min n14 64)))) = false := decide_eq_false (by omega)
    replace H := rangeF_end H
    refine Cd.seq ?_
    refine Cd.region ?_
    refine Lst.run rfl rfl (by decide) (Ev.lss rfl rfl) ?_
    refine Lst.nil ?_
    refine At.then ?_
    refine Cd.seq ?_
    refine Cd.condF rfl hc17 ?_
    refine Cd.exit ?_
    refine At.then_exit ?_
    refine At.then_exit ?_
    refine At.in_exit ?_
    subst H
    replace H := HKl17
    refine At.then ?_
    refine Cd.seq ?_
    refine Cd.region ?_
    refine Lst.run rfl rfl (by decide) (Ev.move rfl) ?_
    refine Lst.run rfl rfl (by decide) (Ev.assign rfl) ?_
    refine Lst.nil ?_
    refine At.then ?_
    obtain rfl := some_inj H
    refine Cd.ret ?_
    exact At.ret1 rfl (Res.tmp rfl) (FLe.trans hF12 hF21) (List.Sublist.cons_cons _ (List.Sublist.cons _ (List.Sublist.cons _ (List.Sublist.cons _ (List.Sublist.cons _ (List.Sublist.refl _)))))) ⟨s18, rfl, rfl⟩
  have hc17 : decide ((i17 : Int) < (w64 ((1 : Int) * 2 ^ (min n14 64)))) = true := decide_eq_true (by omega)
  obtain ⟨c17, H, hgo17⟩ := rangeF_go H
  unfold partref_Downs_L17 at H
  try dsimp only at H
  refine Cd.seq ?_
  refine Cd.region ?_
  refine Lst.run rfl rfl (by decide) (Ev.lss rfl rfl) ?_
  refine Lst.nil ?_
  refine At.then ?_
  refine Cd.seq ?_
  refine Cd.condT rfl hc17 ?_
  refine Cd.skip ?_
  refine At.then ?_
  refine Cd.seq ?_
  refine Cd.block ?_
  refine Cd.seq ?_
  refine Cd.region ?_
  refine Lst.run rfl rfl (by decide) (Ev.move rfl) ?_
  refine Lst.run rfl rfl (by decide) (Ev.assign rfl) ?_
  refine Lst.nil ?_
  refine At.then ?_
  refine Cd.seq ?_
  refine Cd.region ?_
  refine Lst.run rfl rfl (by decide) (Ev.assign rfl) ?_
  refine Lst.nil ?_
  refine At.then ?_
  refine Cd.seq ?_
  refine Cd.seq ?_
  refine Cd.region ?_
  refine Lst.run rfl rfl (by decide) (Ev.fieldAddr (off' := 0) rfl Try.runUnderlying24 rfl Try.sizeOf3 rfl rfl) ?_
  refine Lst.run rfl rfl (by decide) (Ev.load (i := 4) rfl rfl Try.isAgg3 (v := .int .i64 a0.N) ((PosetR.get_N (Get.here _)).off (by rfl))) ?_
  refine Lst.run rfl rfl (by decide) (Ev.move rfl) ?_
  refine Lst.nil ?_
  refine At.then ?_
  refine Cd.block ?_
  obtain ⟨nn27, hN64, H⟩ := bind_some H
  replace hN64 := upTo_some hN64
  obtain ⟨ol23, H, HKl23⟩ := bind_some H
  refine Cd.loop (σ := Nat × Nat × Bool) (fun (i23, k23, y24) => [(1, .pointer (some ⟨b1, 0, none⟩)), (3, Sl.v s6), (4, Sl.v s18), (5, .int .i64 (i17 : Int)), (6, .bool y24), (16, .int .i64 (w64 ((1 : Int) * 2 ^ (min n14 64)))), (17, .int .i64 (i17 : Int)), (21, .int .i64 a0.N), (22, .int .i64 (i23 : Int))]) (fun (i23, k23, y24) => (.own s18 31 1 (encs l19)) :: (.rows (α := Bool) 4 rs7) :: (.own s6 75 1 (encs rs7)) :: (.own Sl.nil 31 1 (encs ([] : List (BitVec 16)))) :: (.blk b1 (enc (PosetR.mk a0 s_a0_1)) 24) :: L) (fun _ => (fun (i23, k23, y24) => rangeF (partref_Downs_L23 a0 r4 i17) k23 i23 y24 = some ol23 ∧ i23 + k23 = nn27)) (fun (i23, k23, y24) => k23) (0, nn27, true) ⟨rfl, rfl, rfl, rfl, rfl, rfl, rfl, rfl, rfl, trivial⟩ rfl ⟨H, by omega⟩ ?_
  rintro F25 ⟨i23, k23, y24⟩ hF26 ⟨H, hik23⟩
  refine Cd.as (e' := [(1, .pointer (some ⟨b1, 0, none⟩)), (3, Sl.v s6), (4, Sl.v s18), (5, .int .i64 (i17 : Int)), (6, .bool y24), (16, .int .i64 (w64 ((1 : Int) * 2 ^ (min n14 64)))), (17, .int .i64 (i17 : Int)), (21, .int .i64 a0.N), (22, .int .i64 (i23 : Int))]) (L' := (.own s18 31 1 (encs l19)) :: (.rows (α := Bool) 4 rs7) :: (.own s6 75 1 (encs rs7)) :: (.own Sl.nil 31 1 (encs ([] : List (BitVec 16)))) :: (.blk b1 (enc (PosetR.mk a0 s_a0_1)) 24) :: L) ⟨rfl, rfl, rfl, rfl, rfl, rfl, rfl, rfl, rfl, trivial⟩ rfl ?_
  rcases k23 with _ | k23
  · have hc23 : decide ((i23 : Int) < a0.N) = false := decide_eq_false (by omega)
    replace H := rangeF_end H
    refine Cd.seq ?_
    refine Cd.region ?_
    refine Lst.run rfl rfl (by decide) (Ev.lss rfl rfl) ?_
    refine Lst.nil ?_
    refine At.then ?_
    refine Cd.seq ?_
    refine Cd.condF rfl hc23 ?_
    refine Cd.exit ?_
    refine At.then_exit ?_
    refine At.then_exit ?_
    refine At.in_exit ?_
    subst H
    replace H := HKl23
    refine At.then ?_
    refine Cd.seq ?_
    refine Cd.region ?_
    refine Lst.run rfl rfl (by decide) (Ev.move rfl) ?_
    refine Lst.nil ?_
    refine At.then ?_
    rcases (Bool.eq_false_or_eq_true y24).symm with hb58 | hb58
    · replace H := ite_f hb58 H
      refine Cd.condF rfl hb58 ?_
      refine Cd.skip ?_
      refine At.in_normal ?_
      refine At.then ?_
      refine Cd.region ?_
      refine Lst.run rfl rfl (by decide) (Ev.incr (by omega) rfl rfl) ?_
      refine Lst.run rfl rfl (by decide) (Ev.move rfl) ?_
      refine Lst.nil ?_
      exact At.meet (i17 + 1, k17, s18, l19) (FLe.trans hF21 hF26) ⟨rfl, rfl, rfl, rfl, rfl, trivial⟩ rfl ⟨⟨hgo17 _ (some_inj H).symm, by omega⟩, Nat.lt_succ_self _⟩
    replace H := ite_t hb58 H
    refine Cd.condT rfl hb58 ?_
    refine Cd.region ?_
    refine Lst.run rfl rfl (by decide) (Ev.move rfl) ?_
    refine Lst.run rfl rfl (by decide) (Ev.move rfl) ?_
    refine Lst.run rfl rfl (by decide) (Ev.convTo16 rfl Try.runUnderlying3 Try.runUnderlying31) ?_
    refine Lst.buildSlice (α := BitVec 16) (xs := ([BitVec.ofInt 16 (i17 : Int)] : List (BitVec 16))) (pv := [(0, .int .u16 (BitVec.ofInt 16 (i17 : Int)).toNat)]) rfl rfl (by decide) ⟨rfl, rfl, trivial⟩ (run_buildSlice (α := BitVec 16) (z0 := (0 : BitVec 16)) (xs := ([BitVec.ofInt 16 (i17 : Int)] : List (BitVec 16))) Try.runUnderlying27 Try.sizeOf31 Try.zeroValue31 rfl rfl rfl (by decide) rfl (fill_cons (cs := encs (List.replicate 1 (0 : BitVec 16))) (cs' := encs ((List.replicate 1 (0 : BitVec 16)).set 0 (BitVec.ofInt 16 (i17 : Int)))) (vs := [.int .u16 (BitVec.ofInt 16 (i17 : Int)).toNat]) rfl rfl rfl ((Put.elemN (s := 1) (i := 0) (x := (0 : BitVec 16)) (y := (BitVec.ofInt 16 (i17 : Int))) rfl rfl (Put.here (vs := [.int .u16 (BitVec.ofInt 16 (i17 : Int)).toNat]) rfl)).off rfl) fill_nil)) rfl rfl (by decide) (fun s59 _ => ?_)
    obtain ⟨u61, h62, H⟩ := bind_some H
    refine Lst.append (i := 1) (α := BitVec 16) (xs := l19) (ys := ([BitVec.ofInt 16 (i17 : Int)] : List (BitVec 16))) rfl rfl (by decide) rfl rfl Try.runUnderlying27 Try.typeInfo31 rfl rfl rfl rfl rfl rfl (Rd.own (i := 0) rfl rfl rfl) rfl (room_some h62) rfl (fun s63 => ?_)
    refine Lst.its (L' := (.own s59 31 1 (encs ([BitVec.ofInt 16 (i17 : Int)] : List (BitVec 16)))) :: (.own s63 31 1 (encs (l19 ++ ([BitVec.ofInt 16 (i17 : Int)] : List (BitVec 16))))) :: (.rows (α := Bool) 4 rs7) :: (.own s6 75 1 (encs rs7)) :: (.own Sl.nil 31 1 (encs ([] : List (BitVec 16)))) :: (.blk b1 (enc (PosetR.mk a0 s_a0_1)) 24) :: L) rfl ?_
    refine Lst.run rfl rfl (by decide) (Ev.assign rfl) ?_
    refine Lst.nil ?_
    refine At.in_normal ?_
    refine At.then ?_
    refine Cd.region ?_
    refine Lst.run rfl rfl (by decide) (Ev.incr (by omega) rfl rfl) ?_
    refine Lst.run rfl rfl (by decide) (Ev.move rfl) ?_
    refine Lst.nil ?_
    refine At.less (L' := (.own s63 31 1 (encs (l19 ++ ([BitVec.ofInt 16 (i17 : Int)] : List (BitVec 16))))) :: (.rows (α := Bool) 4 rs7) :: (.own s6 75 1 (encs rs7)) :: (.own Sl.nil 31 1 (encs ([] : List (BitVec 16)))) :: (.blk b1 (enc (PosetR.mk a0 s_a0_1)) 24) :: L) (List.Sublist.cons _ (List.Sublist.cons_cons _ (List.Sublist.cons_cons _ (List.Sublist.cons_cons _ (List.Sublist.cons_cons _ (List.Sublist.cons_cons _ (List.Sublist.refl _))))))) ?_
    exact At.meet (i17 + 1, k17, s63, l19 ++ ([BitVec.ofInt 16 (i17 : Int)] : List (BitVec 16))) (FLe.trans hF21 hF26) ⟨rfl, rfl, rfl, rfl, rfl, trivial⟩ rfl ⟨⟨hgo17 _ (some_inj H).symm, by omega⟩, Nat.lt_succ_self _⟩
  have hc23 : decide ((i23 : Int) < a0.N) = true := decide_eq_true (by omega)
  obtain ⟨c23, H, hgo23⟩ := rangeF_go H
  unfold partref_Downs_L23 at H
  try dsimp only at H
  refine Cd.seq ?_
  refine Cd.region ?_
  refine Lst.run rfl rfl (by decide) (Ev.lss rfl rfl) ?_
  refine Lst.nil ?_
  refine At.then ?_
  refine Cd.seq ?_
  refine Cd.condT rfl hc23 ?_
  refine Cd.skip ?_
  refine At.then ?_
  refine Cd.seq ?_
  refine Cd.block ?_
  refine Cd.seq ?_
  refine Cd.region ?_
  refine Lst.run rfl rfl (by decide) (Ev.move rfl) ?_
  refine Lst.run rfl rfl (by decide) (Ev.assign rfl) ?_
  refine Lst.nil ?_
  refine At.then ?_
  refine Cd.seq ?_
  refine Cd.region ?_
  refine Lst.run rfl rfl (by decide) (Ev.fieldAddr (off' := 0) rfl Try.runUnderlying24 rfl Try.sizeOf3 rfl rfl) ?_
  refine Lst.run rfl rfl (by decide) (Ev.load (i := 4) rfl rfl Try.isAgg3 (v := .int .i64 a0.N) ((PosetR.get_N (Get.here _)).off (by rfl))) ?_
  refine Lst.run rfl rfl (by decide) (Ev.move rfl) ?_
  refine Lst.nil ?_
  refine At.then ?_
  refine Cd.block ?_
  obtain ⟨nn32, hN57, H⟩ := bind_some H
  replace hN57 := upTo_some hN57
  obtain ⟨ol28, H, HKl28⟩ := bind_some H
  refine Cd.loop (σ := Nat × Nat × Bool) (fun (i28, k28, y29) => [(1, .pointer (some ⟨b1, 0, none⟩)), (3, Sl.v s6), (4, Sl.v s18), (5, .int .i64 (i17 : Int)), (6, .bool y29), (7, .int .i64 (i23 : Int)), (16, .int .i64 (w64 ((1 : Int) * 2 ^ (min n14 64)))), (17, .int .i64 (i17 : Int)), (21, .int .i64 a0.N), (22, .int .i64 (i23 : Int)), (26, .int .i64 a0.N), (27, .int .i64 (i28 : Int))]) (fun (i28, k28, y29) => (.own s18 31 1 (encs l19)) :: (.rows (α := Bool) 4 rs7) :: (.own s6 75 1 (encs rs7)) :: (.own Sl.nil 31 1 (encs ([] : List (BitVec 16)))) :: (.blk b1 (enc (PosetR.mk a0 s_a0_1)) 24) :: L) (fun _ => (fun (i28, k28, y29) => rangeF (partref_Downs_L28 r4 i17 i23) k28 i28 y29 = some ol28 ∧ i28 + k28 = nn32)) (fun (i28, k28, y29) => k28) (0, nn32, y24) ⟨rfl, rfl, rfl, rfl, rfl, rfl, rfl, rfl, rfl, rfl, rfl, rfl, trivial⟩ rfl ⟨H, by omega⟩ ?_
  rintro F30 ⟨i28, k28, y29⟩ hF31 ⟨H, hik28⟩
  refine Cd.as (e' := [(1, .pointer (some ⟨b1, 0, none⟩)), (3, Sl.v s6), (4, Sl.v s18), (5, .int .i64 (i17 : Int)), (6, .bool y29), (7, .int .i64 (i23 : Int)), (16, .int .i64 (w64 ((1 : Int) * 2 ^ (min n14 64)))), (17, .int .i64 (i17 : Int)), (21, .int .i64 a0.N), (22, .int .i64 (i23 : Int)), (26, .int .i64 a0.N), (27, .int .i64 (i28 : Int))]) (L' := (.own s18 31 1 (encs l19)) :: (.rows (α := Bool) 4 rs7) :: (.own s6 75 1 (encs rs7)) :: (.own Sl.nil 31 1 (encs ([] : List (BitVec 16)))) :: (.blk b1 (enc (PosetR.mk a0 s_a0_1)) 24) :: L) ⟨rfl, rfl, rfl, rfl, rfl, rfl, rfl, rfl, rfl, rfl, rfl, rfl, trivial⟩ rfl ?_
  rcases k28 with _ | k28
  · have hc28 : decide ((i28 : Int) < a0.N) = false := decide_eq_false (by omega)
    replace H := rangeF_end H
    refine Cd.seq ?_
    refine Cd.region ?_
    refine Lst.run rfl rfl (by decide) (Ev.lss rfl rfl) ?_
    refine Lst.nil ?_
    refine At.then ?_
    refine Cd.seq ?_
    refine Cd.condF rfl hc28 ?_
    refine Cd.exit ?_
    refine At.then_exit ?_
    refine At.then_exit ?_
    refine At.in_exit ?_
    subst H
    replace H := HKl28
    refine At.in_normal ?_
    refine At.then ?_
    refine Cd.region ?_
    refine Lst.run rfl rfl (by decide) (Ev.incr (by omega) rfl rfl) ?_
    refine Lst.run rfl rfl (by decide) (Ev.move rfl) ?_
    refine Lst.nil ?_
    exact At.meet (i23 + 1, k23, y29) (FLe.trans hF26 hF31) ⟨rfl, rfl, rfl, rfl, rfl, rfl, rfl, rfl, rfl, trivial⟩ rfl ⟨⟨hgo23 _ (some_inj H).symm, by omega⟩, Nat.lt_succ_self _⟩
  have hc28 : decide ((i28 : Int) < a0.N) = true := decide_eq_true (by omega)
  obtain ⟨c28, H, hgo28⟩ := rangeF_go H
  unfold partref_Downs_L28 at H
  try dsimp only at H
  refine Cd.seq ?_
  refine Cd.region ?_
  refine Lst.run rfl rfl (by decide) (Ev.lss rfl rfl) ?_
  refine Lst.nil ?_
  refine At.then ?_
  refine Cd.seq ?_
  refine Cd.condT rfl hc28 ?_
  refine Cd.skip ?_
  refine At.then ?_
  refine Cd.seq ?_
  refine Cd.block ?_
  refine Cd.seq ?_
  refine Cd.region ?_
  refine Lst.run rfl rfl (by decide) (Ev.move rfl) ?_
  refine Lst.run rfl rfl (by decide) (Ev.assign rfl) ?_
  refine Lst.nil ?_
  refine At.then ?_
  refine Cd.region ?_
  refine Lst.run rfl rfl (by decide) (Ev.move rfl) ?_
  refine Lst.run rfl rfl (by decide) (Ev.move rfl) ?_
  rcases (Bool.eq_false_or_eq_true y29).symm with hb33 | hb33
  · replace H := ite_f hb33 H
    refine Lst.skip rfl rfl rfl hb33 rfl (by decide) ?_
    refine Lst.skip rfl rfl rfl hb33 rfl (by decide) ?_
    refine Lst.skip rfl rfl rfl hb33 rfl (by decide) ?_
    refine Lst.skip rfl rfl rfl hb33 rfl (by decide) ?_
    refine Lst.skip rfl rfl rfl hb33 rfl (by decide) ?_
    refine Lst.skip rfl rfl rfl hb33 rfl (by decide) ?_
    refine Lst.skip rfl rfl rfl hb33 rfl (by decide) ?_
    refine Lst.skip rfl rfl rfl hb33 rfl (by decide) ?_
    refine Lst.skipU rfl rfl rfl rfl (by decide) ?_
    refine Lst.skipU rfl rfl rfl rfl (by decide) ?_
    refine Lst.skipU rfl rfl rfl rfl (by decide) ?_
    refine Lst.skipU rfl rfl rfl rfl (by decide) ?_
    refine Lst.skipU rfl rfl rfl rfl (by decide) ?_
    refine Lst.skip rfl rfl rfl hb33 rfl (by decide) ?_
    refine Lst.skip rfl rfl rfl hb33 rfl (by decide) ?_
    refine Lst.skipU rfl rfl rfl rfl (by decide) ?_
    refine Lst.skipU rfl rfl rfl rfl (by decide) ?_
    refine Lst.skipU rfl rfl rfl rfl (by decide) ?_
    refine Lst.skipU rfl rfl rfl rfl (by decide) ?_
    refine Lst.skipU rfl rfl rfl rfl (by decide) ?_
    refine Lst.skip rfl rfl rfl hb33 rfl (by decide) ?_
    refine Lst.skip rfl rfl rfl hb33 rfl (by decide) ?_
    refine Lst.run rfl rfl (by decide) (Ev.pickF rfl hb33 rfl) ?_
    refine Lst.run rfl rfl (by decide) (Ev.assign rfl) ?_
    refine Lst.nil ?_
    refine At.in_normal ?_
    refine At.then ?_
    refine Cd.as (e' := [(1, .pointer (some ⟨b1, 0, none⟩)), (3, Sl.v s6), (4, Sl.v s18), (5, .int .i64 (i17 : Int)), (6, .bool false), (7, .int .i64 (i23 : Int)), (16, .int .i64 (w64 ((1 : Int) * 2 ^ (min n14 64)))), (17, .int .i64 (i17 : Int)), (21, .int .i64 a0.N), (22, .int .i64 (i23 : Int)), (26, .int .i64 a0.N), (27, .int .i64 (i28 : Int))]) (L' := (.own s18 31 1 (encs l19)) :: (.rows (α := Bool) 4 rs7) :: (.own s6 75 1 (encs rs7)) :: (.own Sl.nil 31 1 (encs ([] : List (BitVec 16)))) :: (.blk b1 (enc (PosetR.mk a0 s_a0_1)) 24) :: L) ⟨rfl, rfl, rfl, rfl, rfl, rfl, rfl, rfl, rfl, rfl, rfl, rfl, trivial⟩ rfl ?_
    refine Cd.region ?_
    refine Lst.run rfl rfl (by decide) (Ev.incr (by omega) rfl rfl) ?_
    refine Lst.run rfl rfl (by decide) (Ev.move rfl) ?_
    refine Lst.nil ?_
    exact At.meet (i28 + 1, k28, false) hF31 ⟨rfl, rfl, rfl, rfl, rfl, rfl, rfl, rfl, rfl, rfl, rfl, rfl, trivial⟩ rfl ⟨⟨hgo28 _ (some_inj H).symm, by omega⟩, Nat.lt_succ_self _⟩
  replace H := ite_t hb33 H
  refine Lst.runG rfl rfl rfl hb33 rfl (by decide) (Ev.move rfl) ?_
  refine Lst.runG rfl rfl rfl hb33 rfl (by decide) (Ev.move rfl) ?_
  obtain ⟨x34, h35, H⟩ := bind_some H
  have g36 := lat_some h35
  obtain ⟨⟨r37v, r37h⟩, r37g, r37e, r37m⟩ := map_get fm8 g36.2.2
  obtain rfl : x34 = r37v := r37e.symm
  refine Lst.runG rfl rfl rfl hb33 rfl (by decide) (Ev.indexS (α := LR Bool) (xs := rs7) rfl rfl Try.runUnderlying73 Try.sizeOf75 rfl (by decide) (Rd.own (i := 2) rfl rfl rfl) g36.1 (by have := map_len fm8; omega)) ?_
  refine Lst.runG rfl rfl rfl hb33 rfl (by decide) (Ev.loadS (α := LR Bool) rfl (Rd.own (i := 2) rfl rfl rfl) Try.isAgg75 (v := Sl.v r37h) ((Get.elemN (s := 1) rfl r37g (Get.here _)).off (by omega))) ?_
  refine Lst.runG rfl rfl rfl hb33 rfl (by decide) (Ev.move rfl) ?_
  obtain ⟨x38, h39, H⟩ := bind_some H
  have g40 := lat_some h39
  refine Lst.runG rfl rfl rfl hb33 rfl (by decide) (Ev.indexS (α := Bool) (xs := x34) rfl rfl Try.runUnderlying75 Try.sizeOf4 rfl (by decide) (Rd.row (j := 1) rfl r37g) g40.1 g40.2.1) ?_
  refine Lst.runG rfl rfl rfl hb33 rfl (by decide) (Ev.loadS (α := Bool) rfl (Rd.row (j := 1) rfl r37g) Try.isAgg4 (v := .bool x38) ((Get.elemN (s := 1) rfl g40.2.2 (Get.here _)).off (by omega))) ?_
  refine Lst.runG rfl rfl rfl hb33 rfl (by decide) (Ev.move rfl) ?_
  obtain ⟨o41, H, HKo41⟩ := bind_some H
  refine Lst.join (σ := Bool) 6 (fun y42 => [(1, .pointer (some ⟨b1, 0, none⟩)), (3, Sl.v s6), (4, Sl.v s18), (5, .int .i64 (i17 : Int)), (6, .bool y29), (7, .int .i64 (i23 : Int)), (16, .int .i64 (w64 ((1 : Int) * 2 ^ (min n14 64)))), (17, .int .i64 (i17 : Int)), (21, .int .i64 a0.N), (22, .int .i64 (i23 : Int)), (26, .int .i64 a0.N), (27, .int .i64 (i28 : Int)), (31, .bool y29), (45, .bool y42)]) (fun y42 => (.own s18 31 1 (encs l19)) :: (.rows (α := Bool) 4 rs7) :: (.own s6 75 1 (encs rs7)) :: (.own Sl.nil 31 1 (encs ([] : List (BitVec 16)))) :: (.blk b1 (enc (PosetR.mk a0 s_a0_1)) 24) :: L) (fun _ y42 => y42 = o41) ?_ ?_
  · rcases (Bool.eq_false_or_eq_true x38).symm with hb43 | hb43
    · replace H := ite_f hb43 H
      refine Lst.skip rfl rfl rfl hb43 rfl (by decide) ?_
      refine Lst.skip rfl rfl rfl hb43 rfl (by decide) ?_
      refine Lst.skip rfl rfl rfl hb43 rfl (by decide) ?_
      refine Lst.skip rfl rfl rfl hb43 rfl (by decide) ?_
      refine Lst.skip rfl rfl rfl hb43 rfl (by decide) ?_
      refine Lst.runG rfl rfl rfl hb33 rfl (by decide) (Ev.pickF rfl hb43 rfl) ?_
      refine Lst.nil ?_
      exact At.meet false (FLe.refl _) ⟨rfl, rfl, rfl, rfl, rfl, rfl, rfl, rfl, rfl, rfl, rfl, rfl, rfl, rfl, trivial⟩ rfl (some_inj H)
    replace H := ite_t hb43 H
    refine Lst.runG rfl rfl rfl hb43 rfl (by decide) (Ev.move rfl) ?_
    refine Lst.runG rfl rfl rfl hb43 rfl (by decide) (Ev.move rfl) ?_
    obtain ⟨n44, h45, H⟩ := bind_some H
    refine Lst.runG rfl rfl rfl hb43 rfl (by decide) (Ev.shr64 (i := (i17 : Int)) (m := n44) rfl (congrArg some (congrArg (Value.int .i64) (cnt_some h45)))) ?_
    refine Lst.runG rfl rfl rfl hb43 rfl (by decide) (Ev.rem (i := ((i17 : Int).fdiv (2 ^ (min n44 64)) : Int)) (j := (2 : Int)) rfl rfl (by decide)) ?_
    refine Lst.runG rfl rfl rfl hb43 rfl (by decide) (Ev.eql rfl rfl) ?_
    refine Lst.runG rfl rfl rfl hb33 rfl (by decide) (Ev.pickT rfl hb43 rfl) ?_
    refine Lst.nil ?_
    exact At.meet ((((i17 : Int).fdiv (2 ^ (min n44 64)) : Int).tmod (2 : Int) : Int) == (1 : Int)) (FLe.refl _) ⟨rfl, rfl, rfl, rfl, rfl, rfl, rfl, rfl, rfl, rfl, rfl, rfl, rfl, rfl, trivial⟩ rfl (some_inj H)
  rintro F47 y42 hF48 hy
  subst hy
  refine Lst.as (e' := [(1, .pointer (some ⟨b1, 0, none⟩)), (3, Sl.v s6), (4, Sl.v s18), (5, .int .i64 (i17 : Int)), (6, .bool y29), (7, .int .i64 (i23 : Int)), (16, .int .i64 (w64 ((1 : Int) * 2 ^ (min n14 64)))), (17, .int .i64 (i17 : Int)), (21, .int .i64 a0.N), (22, .int .i64 (i23 : Int)), (26, .int .i64 a0.N), (27, .int .i64 (i28 : Int)), (31, .bool y29), (45, .bool y42)]) (L' := (.own s18 31 1 (encs l19)) :: (.rows (α := Bool) 4 rs7) :: (.own s6 75 1 (encs rs7)) :: (.own Sl.nil 31 1 (encs ([] : List (BitVec 16)))) :: (.blk b1 (enc (PosetR.mk a0 s_a0_1)) 24) :: L) ⟨rfl, rfl, rfl, rfl, rfl, rfl, rfl, rfl, rfl, rfl, rfl, rfl, rfl, rfl, trivial⟩ rfl ?_
  replace H := HKo41
  refine Lst.runG rfl rfl rfl hb33 rfl (by decide) (Ev.move rfl) ?_
  obtain ⟨o49, H, HKo49⟩ := bind_some H
  refine Lst.join (σ := Bool) 6 (fun y50 => [(1, .pointer (some ⟨b1, 0, none⟩)), (3, Sl.v s6), (4, Sl.v s18), (5, .int .i64 (i17 : Int)), (6, .bool y29), (7, .int .i64 (i23 : Int)), (16, .int .i64 (w64 ((1 : Int) * 2 ^ (min n14 64)))), (17, .int .i64 (i17 : Int)), (21, .int .i64 a0.N), (22, .int .i64 (i23 : Int)), (26, .int .i64 a0.N), (27, .int .i64 (i28 : Int)), (31, .bool y29), (52, .bool y50)]) (fun y50 => (.own s18 31 1 (encs l19)) :: (.rows (α := Bool) 4 rs7) :: (.own s6 75 1 (encs rs7)) :: (.own Sl.nil 31 1 (encs ([] : List (BitVec 16)))) :: (.blk b1 (enc (PosetR.mk a0 s_a0_1)) 24) :: L) (fun _ y50 => y50 = o49) ?_ ?_
  · rcases (Bool.eq_false_or_eq_true y42).symm with hb51 | hb51
    · replace H := ite_f hb51 H
      refine Lst.skip rfl rfl rfl hb51 rfl (by decide) ?_
      refine Lst.skip rfl rfl rfl hb51 rfl (by decide) ?_
      refine Lst.skip rfl rfl rfl hb51 rfl (by decide) ?_
      refine Lst.skip rfl rfl rfl hb51 rfl (by decide) ?_
      refine Lst.skip rfl rfl rfl hb51 rfl (by decide) ?_
      refine Lst.runG rfl rfl rfl hb33 rfl (by decide) (Ev.pickF rfl hb51 rfl) ?_
      refine Lst.nil ?_
      exact At.meet false (FLe.refl _) ⟨rfl, rfl, rfl, rfl, rfl, rfl, rfl, rfl, rfl, rfl, rfl, rfl, rfl, rfl, trivial⟩ rfl (some_inj H)
    replace H := ite_t hb51 H
    refine Lst.runG rfl rfl rfl hb51 rfl (by decide) (Ev.move rfl) ?_
    refine Lst.runG rfl rfl rfl hb51 rfl (by decide) (Ev.move rfl) ?_
    obtain ⟨n52, h53, H⟩ := bind_some H
    refine Lst.runG rfl rfl rfl hb51 rfl (by decide) (Ev.shr64 (i := (i17 : Int)) (m := n52) rfl (congrArg some (congrArg (Value.int .i64) (cnt_some h53)))) ?_
    refine Lst.runG rfl rfl rfl hb51 rfl (by decide) (Ev.rem (i := ((i17 : Int).fdiv (2 ^ (min n52 64)) : Int)) (j := (2 : Int)) rfl rfl (by decide)) ?_
    refine Lst.runG rfl rfl rfl hb51 rfl (by decide) (Ev.eql rfl rfl) ?_
    refine Lst.runG rfl rfl rfl hb33 rfl (by decide) (Ev.pickT rfl hb51 rfl) ?_
    refine Lst.nil ?_
    exact At.meet ((((i17 : Int).fdiv (2 ^ (min n52 64)) : Int).tmod (2 : Int) : Int) == (0 : Int)) (FLe.refl _) ⟨rfl, rfl, rfl, rfl, rfl, rfl, rfl, rfl, rfl, rfl, rfl, rfl, rfl, rfl, trivial⟩ rfl (some_inj H)
  rintro F55 y50 hF56 hy
  subst hy
  refine Lst.as (e' := [(1, .pointer (some ⟨b1, 0, none⟩)), (3, Sl.v s6), (4, Sl.v s18), (5, .int .i64 (i17 : Int)), (6, .bool y29), (7, .int .i64 (i23 : Int)), (16, .int .i64 (w64 ((1 : Int) * 2 ^ (min n14 64)))), (17, .int .i64 (i17 : Int)), (21, .int .i64 a0.N), (22, .int .i64 (i23 : Int)), (26, .int .i64 a0.N), (27, .int .i64 (i28 : Int)), (31, .bool y29), (52, .bool y50)]) (L' := (.own s18 31 1 (encs l19)) :: (.rows (α := Bool) 4 rs7) :: (.own s6 75 1 (encs rs7)) :: (.own Sl.nil 31 1 (encs ([] : List (BitVec 16)))) :: (.blk b1 (enc (PosetR.mk a0 s_a0_1)) 24) :: L) ⟨rfl, rfl, rfl, rfl, rfl, rfl, rfl, rfl, rfl, rfl, rfl, rfl, rfl, rfl, trivial⟩ rfl ?_
  replace H := HKo49
  refine Lst.runG rfl rfl rfl hb33 rfl (by decide) (Ev.not rfl) ?_
  refine Lst.run rfl rfl (by decide) (Ev.pickT rfl hb33 rfl) ?_
  refine Lst.run rfl rfl (by decide) (Ev.assign rfl) ?_
  refine Lst.nil ?_
  refine At.in_normal ?_
  refine At.then ?_
  refine Cd.region ?_
  refine Lst.run rfl rfl (by decide) (Ev.incr (by omega) rfl rfl) ?_
  refine Lst.run rfl rfl (by decide) (Ev.move rfl) ?_
  refine Lst.nil ?_
  exact At.meet (i28 + 1, k28, !y50) (FLe.trans (FLe.trans hF31 hF48) hF56) ⟨rfl, rfl, rfl, rfl, rfl, rfl, rfl, rfl, rfl, rfl, rfl, rfl, trivial⟩ rfl ⟨⟨hgo28 _ (some_inj H).symm, by omega⟩, Nat.lt_succ_self _⟩
set_option maxRecDepth 20000 in
theorem slices_Equal_uint16_uint16_sim {a0 : List (BitVec 16)} {a1 : List (BitVec 16)} {s_a0 : Sl} {s_a1 : Sl} {r : Bool} (H : slices_Equal_uint16_uint16 a0 a1 = some r) (w0 : World) (F : Frz) (M L : List Item) (hM : M.Sublist L) (hs_a0 : Rd w0 F M s_a0 a0) (hs_a1 : Rd w0 F M s_a1 a1) : Ok Try.prog w0 11 [Sl.v s_a0, Sl.v s_a1] F (L) (Is (.bool r) (L)) := by
  unfold slices_Equal_uint16_uint16 at H
  refine Ok.enter (m := 2) (n := 26) Try.func11 rfl rfl rfl (by decide) ?_
  refine Cd.env (e' := [(0, Sl.v s_a0), (1, Sl.v s_a1)]) rfl ?_
  refine Cd.seq ?_
  refine Cd.region ?_
  refine Lst.run rfl rfl (by decide) (Ev.assign rfl) ?_
  refine Lst.nil ?_
  refine At.then ?_
  refine Cd.seq ?_
  refine Cd.seq ?_
  refine Cd.region ?_
  refine Lst.run rfl rfl (by decide) (Ev.move rfl) ?_
  refine Lst.run rfl rfl (by decide) (Ev.lenS (α := BitVec 16) (xs := a0) (by decide) rfl rfl Try.runUnderlying27 (hs_a0.mono (FLe.refl _) hM)) ?_
  refine Lst.run rfl rfl (by decide) (Ev.move rfl) ?_
  refine Lst.run rfl rfl (by decide) (Ev.lenS (α := BitVec 16) (xs := a1) (by decide) rfl rfl Try.runUnderlying27 (hs_a1.mono (FLe.refl _) hM)) ?_
  refine Lst.run rfl rfl (by decide) (Ev.neq rfl rfl) ?_
  refine Lst.nil ?_
  refine At.then ?_
  rcases Bool.eq_false_or_eq_true ((a0.length : Int) != (a1.length : Int)) with hb1 | hb1
  · replace H := ite_t hb1 H
    refine Cd.condT rfl hb1 ?_
    refine Cd.seq ?_
    refine Cd.region ?_
    refine Lst.run rfl rfl (by decide) (Ev.assign rfl) ?_
    refine Lst.nil ?_
    refine At.then ?_
    obtain rfl := some_inj H
    refine Cd.ret ?_
    refine At.then_ret ?_
    exact At.ret1 rfl (Res.tmp rfl) (FLe.refl _) (List.Sublist.refl _) ⟨rfl, rfl⟩
  replace H := ite_f hb1 H
  refine Cd.condF rfl hb1 ?_
  refine Cd.skip ?_
  refine At.then ?_
  refine Cd.seq ?_
  refine Cd.seq ?_
  refine Cd.region ?_
  refine Lst.run rfl rfl (by decide) (Ev.move rfl) ?_
  refine Lst.run rfl rfl (by decide) (Ev.lenS (α := BitVec 16) (xs := a0) (by decide) rfl rfl Try.runUnderlying27 (hs_a0.mono (FLe.refl _) hM)) ?_
  refine Lst.run rfl rfl (by decide) (Ev.move rfl) ?_
  refine Lst.nil ?_
  refine At.then ?_
  refine Cd.block ?_
  refine Cd.bound (Rd.le (α := BitVec 16) (xs := a0) (by decide) (hs_a0.mono (FLe.refl _) hM)) (fun hN12 => ?_)
  obtain ⟨ol2, H, HKl2⟩ := andThen_some H
  refine Cd.loop (σ := Nat × Nat × Unit) (fun (i2, k2, _u) => [(0, Sl.v s_a0), (1, Sl.v s_a1), (12, .int .i64 (a0.length : Int)), (13, .int .i64 (i2 : Int))]) (fun (i2, k2, _u) => L) (fun _ => (fun (i2, k2, _u) => rangeM (slices_Equal_uint16_uint16_L2 a0 a1) k2 i2 () = some ol2 ∧ i2 + k2 = a0.length)) (fun (i2, k2, _u) => k2) (0, a0.length, ()) ⟨rfl, rfl, rfl, rfl, trivial⟩ rfl ⟨H, by omega⟩ ?_
  rintro F3 ⟨i2, k2, _u⟩ hF4 ⟨H, hik2⟩
  refine Cd.as (e' := [(0, Sl.v s_a0), (1, Sl.v s_a1), (12, .int .i64 (a0.length : Int)), (13, .int .i64 (i2 : Int))]) (L' := L) ⟨rfl, rfl, rfl, rfl, trivial⟩ rfl ?_
  rcases k2 with _ | k2
  · have hc2 : decide ((i2 : Int) < (a0.length : Int)) = false := decide_eq_false (by omega)
    replace H := rangeM_end H
    refine Cd.seq ?_
    refine Cd.region ?_
    refine Lst.run rfl rfl (by decide) (Ev.lss rfl rfl) ?_
    refine Lst.nil ?_
    refine At.then ?_
    refine Cd.seq ?_
    refine Cd.condF rfl hc2 ?_
    refine Cd.exit ?_
    refine At.then_exit ?_
    refine At.then_exit ?_
    refine At.in_exit ?_
    subst H
    replace H := HKl2
    refine At.then ?_
    refine Cd.seq ?_
    refine Cd.region ?_
    refine Lst.run rfl rfl (by decide) (Ev.assign rfl) ?_
    refine Lst.nil ?_
    refine At.then ?_
    obtain rfl := some_inj H
    refine Cd.ret ?_
    exact At.ret1 rfl (Res.tmp rfl) hF4 (List.Sublist.refl _) ⟨rfl, rfl⟩
  have hc2 : decide ((i2 : Int) < (a0.length : Int)) = true := decide_eq_true (by omega)
  obtain ⟨c2, H, hgo2, hbrk2, hret2⟩ := rangeM_go H
  unfold slices_Equal_uint16_uint16_L2 at H
  try dsimp only at H
  refine Cd.seq ?_
  refine Cd.region ?_
  refine Lst.run rfl rfl (by decide) (Ev.lss rfl rfl) ?_
  refine Lst.nil ?_
  refine At.then ?_
  refine Cd.seq ?_
  refine Cd.condT rfl hc2 ?_
  refine Cd.skip ?_
  refine At.then ?_
  refine Cd.seq ?_
  refine Cd.block ?_
  refine Cd.seq ?_
  refine Cd.region ?_
  refine Lst.run rfl rfl (by decide) (Ev.move rfl) ?_
  refine Lst.run rfl rfl (by decide) (Ev.assign rfl) ?_
  refine Lst.nil ?_
  refine At.then ?_
  refine Cd.seq ?_
  refine Cd.quiet (by kernel_rfl) (by kernel_rfl) ?_
  refine Qt.run rfl rfl (by decide) (Ev.move rfl) ?_
  refine Qt.run rfl rfl (by decide) (Ev.move rfl) ?_
  obtain ⟨x5, h6, H⟩ := bind_some H
  have g7 := lat_some h6
  refine Qt.run rfl rfl (by decide) (Ev.indexS (α := BitVec 16) (xs := a0) rfl rfl Try.runUnderlying27 Try.sizeOf31 rfl (by decide) (hs_a0.mono hF4 hM) g7.1 g7.2.1) ?_
  refine Qt.run rfl rfl (by decide) (Ev.loadS (α := BitVec 16) rfl (hs_a0.mono hF4 hM) Try.isAgg31 (v := .int .u16 x5.toNat) ((Get.elemN (s := 1) rfl g7.2.2 (Get.here _)).off (by omega))) ?_
  refine Qt.run rfl rfl (by decide) (Ev.move rfl) ?_
  refine Qt.run rfl rfl (by decide) (Ev.move rfl) ?_
  obtain ⟨x8, h9, H⟩ := bind_some H
  have g10 := lat_some h9
  refine Qt.run rfl rfl (by decide) (Ev.indexS (α := BitVec 16) (xs := a1) rfl rfl Try.runUnderlying27 Try.sizeOf31 rfl (by decide) (hs_a1.mono hF4 hM) g10.1 g10.2.1) ?_
  refine Qt.run rfl rfl (by decide) (Ev.loadS (α := BitVec 16) rfl (hs_a1.mono hF4 hM) Try.isAgg31 (v := .int .u16 x8.toNat) ((Get.elemN (s := 1) rfl g10.2.2 (Get.here _)).off (by omega))) ?_
  refine Qt.run rfl rfl (by decide) (Ev.neq rfl rfl) ?_
  refine Qt.done ?_
  refine At.then ?_
  rcases Bool.eq_false_or_eq_true ((x5.toNat : Int) != (x8.toNat : Int)) with hb11 | hb11
  · replace H := ite_t hb11 H
    refine Cd.condT rfl hb11 ?_
    refine Cd.seq ?_
    refine Cd.as (e' := []) (L' := L) trivial rfl ?_
    refine Cd.region ?_
    refine Lst.run rfl rfl (by decide) (Ev.assign rfl) ?_
    refine Lst.nil ?_
    refine At.then ?_
    have H := hret2 _ (some_inj H).symm
    subst H
    replace H := HKl2
    obtain rfl := some_inj H
    refine Cd.ret ?_
    refine At.in_ret ?_
    refine At.then_ret ?_
    refine At.then_ret ?_
    refine At.in_ret ?_
    refine At.then_ret ?_
    exact At.ret1 rfl (Res.tmp rfl) hF4 (List.Sublist.refl _) ⟨rfl, rfl⟩
  replace H := ite_f hb11 H
  refine Cd.condF rfl hb11 ?_
  refine Cd.skip ?_
  refine At.in_normal ?_
  refine At.then ?_
  refine Cd.region ?_
  refine Lst.run rfl rfl (by decide) (Ev.incr (by omega) rfl rfl) ?_
  refine Lst.run rfl rfl (by decide) (Ev.move rfl) ?_
  refine Lst.nil ?_
  exact At.meet (i2 + 1, k2, ()) hF4 ⟨rfl, rfl, rfl, rfl, trivial⟩ rfl ⟨⟨hgo2 _ (some_inj H).symm, by omega⟩, Nat.lt_succ_self _⟩
set_option maxRecDepth 20000 in
theorem partlaw_LatDowns_sim {fu : Nat} {a0 : Poset} {s_a0_1 : Sl} {r : Bool} (H : partlaw_LatDowns fu a0 = some r) (w0 : World) (F : Frz) (M L : List Item) (hM : M.Sublist L) (hs_a0_1 : Rd w0 F M s_a0_1 a0.Pairs) : Ok Try.prog w0 3 [.agg (enc (PosetR.mk a0 s_a0_1)).toArray] F (L) (Is (.bool r) (L)) := by
  unfold partlaw_LatDowns at H
  refine Ok.enter (m := 1) (n := 38) Try.func3 rfl rfl rfl (by decide) ?_
  refine Cd.env (e' := [(0, .agg (enc (PosetR.mk a0 s_a0_1)).toArray)]) rfl ?_
  refine Cd.seq ?_
  refine Cd.region ?_
  refine Lst.box rfl rfl (by decide) rfl (cs := enc (PosetR.mk a0 s_a0_1)) rfl (fun b1 => ?_)
  refine Lst.run rfl rfl (by decide) (Ev.assign rfl) ?_
  refine Lst.nil ?_
  refine At.then ?_
  refine Cd.seq ?_
  refine Cd.region ?_
  refine Lst.run rfl rfl (by decide) (Ev.loadA (i := 0) rfl rfl Try.isAgg24 Try.sizeOf24 (ch := enc (PosetR.mk a0 s_a0_1)) (Enc.len _) (Get.here _)) ?_
  obtain ⟨r3, h4, H⟩ := bind_some H
  refine Lst.call1 rfl rfl (by decide) (vs := [.agg (enc (PosetR.mk a0 s_a0_1)).toArray]) ⟨rfl, trivial⟩ Try.call9 (partref_PosetErr_sim h4 w0 _ M _ (List.Sublist.cons _ hM) (hs_a0_1.mono (FLe.refl _) (List.Sublist.refl _))) ?_
  refine Lst.run rfl rfl (by decide) (Ev.assign rfl) ?_
  refine Lst.nil ?_
  refine At.then ?_
  refine Cd.seq ?_
  refine Cd.region ?_
  refine Lst.run rfl rfl (by decide) (Ev.loadA (i := 0) rfl rfl Try.isAgg24 Try.sizeOf24 (ch := enc (PosetR.mk a0 s_a0_1)) (Enc.len _) (Get.here _)) ?_
  obtain ⟨r7, h8, H⟩ := bind_some H
  refine Lst.call rfl rfl (by decide) (vs := [.agg (enc (PosetR.mk a0 s_a0_1)).toArray]) ⟨rfl, trivial⟩ Try.call10 (lat_Downs_sim h8 w0 _ M _ (List.Sublist.cons _ hM) (hs_a0_1.mono (FLe.refl _) (List.Sublist.refl _))) (fun F11 L' v hF12 hv => ?_)
  obtain ⟨s9, rfl, rfl⟩ := hv
  refine Lst.run rfl rfl (by decide) (Ev.move rfl) ?_
  refine Lst.run rfl rfl (by decide) (Ev.extract rfl rfl) ?_
  refine Lst.run rfl rfl (by decide) (Ev.extract rfl rfl) ?_
  refine Lst.run rfl rfl (by decide) (Ev.assign rfl) ?_
  refine Lst.run rfl rfl (by decide) (Ev.assign rfl) ?_
  refine Lst.nil ?_
  refine At.then ?_
  obtain ⟨o14, H, HKo14⟩ := bind_some H
  refine Cd.join (σ := Int) (fun y13 => [(1, .pointer (some ⟨b1, 0, none⟩)), (3, .int .i64 y13), (4, Sl.v s9), (5, .int .i64 r7.2)]) (fun y13 => (.own s9 31 1 (encs r7.1)) :: (.blk b1 (enc (PosetR.mk a0 s_a0_1)) 24) :: L) (fun _ y13 => y13 = o14) ?_ ?_
  · refine Cd.seq ?_
    refine Cd.region ?_
    refine Lst.run rfl rfl (by decide) (Ev.move rfl) ?_
    refine Lst.run rfl rfl (by decide) (Ev.eql rfl rfl) ?_
    refine Lst.run rfl rfl (by decide) (Ev.move rfl) ?_
    obtain ⟨o15, H, HKo15⟩ := bind_some H
    refine Lst.join (σ := Bool) 4 (fun y16 => [(1, .pointer (some ⟨b1, 0, none⟩)), (3, .int .i64 r3), (4, Sl.v s9), (5, .int .i64 r7.2), (19, .bool y16)]) (fun y16 => (.own s9 31 1 (encs r7.1)) :: (.blk b1 (enc (PosetR.mk a0 s_a0_1)) 24) :: L) (fun _ y16 => y16 = o15) ?_ ?_
    · rcases (Bool.eq_false_or_eq_true (r3 == (0 : Int))).symm with hb17 | hb17
      · replace H := ite_f hb17 H
        refine Lst.skip rfl rfl rfl hb17 rfl (by decide) ?_
        refine Lst.skip rfl rfl rfl hb17 rfl (by decide) ?_
        refine Lst.skip rfl rfl rfl hb17 rfl (by decide) ?_
        refine Lst.run rfl rfl (by decide) (Ev.pickF rfl hb17 rfl) ?_
        refine Lst.nil ?_
        exact At.meet false (FLe.refl _) ⟨rfl, rfl, rfl, rfl, rfl, trivial⟩ rfl (some_inj H)
      replace H := ite_t hb17 H
      refine Lst.runG rfl rfl rfl hb17 rfl (by decide) (Ev.fieldAddr (off' := 0) rfl Try.runUnderlying24 rfl Try.sizeOf3 rfl rfl) ?_
      refine Lst.runG rfl rfl rfl hb17 rfl (by decide) (Ev.load (i := 1) rfl rfl Try.isAgg3 (v := .int .i64 a0.N) ((PosetR.get_N (Get.here _)).off (by rfl))) ?_
      refine Lst.runG rfl rfl rfl hb17 rfl (by decide) (Ev.gtr rfl rfl) ?_
      refine Lst.run rfl rfl (by decide) (Ev.pickT rfl hb17 rfl) ?_
      refine Lst.nil ?_
      exact At.meet (decide (a0.N > (12 : Int))) (FLe.refl _) ⟨rfl, rfl, rfl, rfl, rfl, trivial⟩ rfl (some_inj H)
    rintro F18 y16 hF19 hy
    subst hy
    refine Lst.as (e' := [(1, .pointer (some ⟨b1, 0, none⟩)), (3, .int .i64 r3), (4, Sl.v s9), (5, .int .i64 r7.2), (19, .bool y16)]) (L' := (.own s9 31 1 (encs r7.1)) :: (.blk b1 (enc (PosetR.mk a0 s_a0_1)) 24) :: L) ⟨rfl, rfl, rfl, rfl, rfl, trivial⟩ rfl ?_
    replace H := HKo15
    refine Lst.nil ?_
    refine At.then ?_
    rcases (Bool.eq_false_or_eq_true y16).symm with hb20 | hb20
    · replace H := ite_f hb20 H
      refine Cd.condF rfl hb20 ?_
      refine Cd.skip ?_
      exact At.meet r3 hF19 ⟨rfl, rfl, rfl, rfl, trivial⟩ rfl (some_inj H)
    replace H := ite_t hb20 H
    refine Cd.condT rfl hb20 ?_
    refine Cd.region ?_
    refine Lst.run rfl rfl (by decide) (Ev.assign rfl) ?_
    refine Lst.nil ?_
    exact At.meet (2 : Int) hF19 ⟨rfl, rfl, rfl, rfl, trivial⟩ rfl (some_inj H)
  rintro F21 y13 hF22 hy
  subst hy
  refine Cd.as (e' := [(1, .pointer (some ⟨b1, 0, none⟩)), (3, .int .i64 y13), (4, Sl.v s9), (5, .int .i64 r7.2)]) (L' := (.own s9 31 1 (encs r7.1)) :: (.blk b1 (enc (PosetR.mk a0 s_a0_1)) 24) :: L) ⟨rfl, rfl, rfl, rfl, trivial⟩ rfl ?_
  replace H := HKo14
  refine Cd.seq ?_
  refine Cd.seq ?_
  refine Cd.region ?_
  refine Lst.run rfl rfl (by decide) (Ev.move rfl) ?_
  refine Lst.run rfl rfl (by decide) (Ev.neq rfl rfl) ?_
  refine Lst.nil ?_
  refine At.then ?_
  rcases Bool.eq_false_or_eq_true (y13 != (0 : Int)) with hb23 | hb23
  · replace H := ite_t hb23 H
    refine Cd.condT rfl hb23 ?_
    refine Cd.seq ?_
    refine Cd.region ?_
    refine Lst.run rfl rfl (by decide) (Ev.move rfl) ?_
    refine Lst.run rfl rfl (by decide) (Ev.lenS (α := BitVec 16) (xs := r7.1) (by decide) rfl rfl Try.runUnderlying27 (Rd.own (i := 0) rfl rfl rfl)) ?_
    refine Lst.run rfl rfl (by decide) (Ev.eql rfl rfl) ?_
    refine Lst.run rfl rfl (by decide) (Ev.move rfl) ?_
    obtain ⟨o24, H, HKo24⟩ := bind_some H
    refine Lst.join (σ := Bool) 4 (fun y25 => [(29, .bool y25)]) (fun y25 => (.own s9 31 1 (encs r7.1)) :: (.blk b1 (enc (PosetR.mk a0 s_a0_1)) 24) :: L) (fun _ y25 => y25 = o24) ?_ ?_
    · rcases (Bool.eq_false_or_eq_true ((r7.1.length : Int) == (0 : Int))).symm with hb26 | hb26
      · replace H := ite_f hb26 H
        refine Lst.skip rfl rfl rfl hb26 rfl (by decide) ?_
        refine Lst.skip rfl rfl rfl hb26 rfl (by decide) ?_
        refine Lst.skip rfl rfl rfl hb26 rfl (by decide) ?_
        refine Lst.run rfl rfl (by decide) (Ev.pickF rfl hb26 rfl) ?_
        refine Lst.nil ?_
        exact At.meet false (FLe.refl _) ⟨rfl, trivial⟩ rfl (some_inj H)
      replace H := ite_t hb26 H
      refine Lst.runG rfl rfl rfl hb26 rfl (by decide) (Ev.move rfl) ?_
      refine Lst.runG rfl rfl rfl hb26 rfl (by decide) (Ev.move rfl) ?_
      refine Lst.runG rfl rfl rfl hb26 rfl (by decide) (Ev.eql rfl rfl) ?_
      refine Lst.run rfl rfl (by decide) (Ev.pickT rfl hb26 rfl) ?_
      refine Lst.nil ?_
      exact At.meet (r7.2 == y13) (FLe.refl _) ⟨rfl, trivial⟩ rfl (some_inj H)
    rintro F27 y25 hF28 hy
    subst hy
    refine Lst.as (e' := [(29, .bool y25)]) (L' := (.own s9 31 1 (encs r7.1)) :: (.blk b1 (enc (PosetR.mk a0 s_a0_1)) 24) :: L) ⟨rfl, trivial⟩ rfl ?_
    replace H := HKo24
    refine Lst.run rfl rfl (by decide) (Ev.assign rfl) ?_
    refine Lst.nil ?_
    refine At.then ?_
    obtain rfl := some_inj H
    refine Cd.ret ?_
    refine At.then_ret ?_
    exact At.ret1 rfl (Res.tmp rfl) (FLe.trans (FLe.trans hF12 hF22) hF28) (List.Sublist.cons _ (List.Sublist.cons _ (List.Sublist.refl _))) ⟨rfl, rfl⟩
  replace H := ite_f hb23 H
  refine Cd.condF rfl hb23 ?_
  refine Cd.skip ?_
  refine At.then ?_
  refine Cd.seq ?_
  refine Cd.region ?_
  refine Lst.run rfl rfl (by decide) (Ev.move rfl) ?_
  refine Lst.run rfl rfl (by decide) (Ev.loadA (i := 1) rfl rfl Try.isAgg24 Try.sizeOf24 (ch := enc (PosetR.mk a0 s_a0_1)) (Enc.len _) (Get.here _)) ?_
  obtain ⟨r29, h30, H⟩ := bind_some H
  refine Lst.call rfl rfl (by decide) (vs := [.agg (enc (PosetR.mk a0 s_a0_1)).toArray]) ⟨rfl, trivial⟩ Try.call12 (partref_Downs_sim h30 w0 _ M _ (List.Sublist.cons _ (List.Sublist.cons _ hM)) (hs_a0_1.mono (FLe.trans hF12 hF22) (List.Sublist.refl _))) (fun F33 L' v hF34 hv => ?_)
  obtain ⟨s31, rfl, rfl⟩ := hv
  obtain ⟨r35, h36, H⟩ := bind_some H
  refine Lst.call1 rfl rfl (by decide) (vs := [Sl.v s9, Sl.v s31]) ⟨rfl, rfl, trivial⟩ Try.call11 (slices_Equal_uint16_uint16_sim h36 w0 _ _ _ (List.Sublist.refl _) (Rd.own (i := 1) rfl rfl rfl) (Rd.own (i := 0) rfl rfl rfl)) ?_
  refine Lst.run rfl rfl (by decide) (Ev.move rfl) ?_
  obtain ⟨o39, H, HKo39⟩ := bind_some H
  refine Lst.join (σ := Bool) 3 (fun y40 => [(37, .bool y40)]) (fun y40 => (.own s31 31 1 (encs r29)) :: (.own s9 31 1 (encs r7.1)) :: (.blk b1 (enc (PosetR.mk a0 s_a0_1)) 24) :: L) (fun _ y40 => y40 = o39) ?_ ?_
  · rcases (Bool.eq_false_or_eq_true r35).symm with hb41 | hb41
    · replace H := ite_f hb41 H
      refine Lst.skip rfl rfl rfl hb41 rfl (by decide) ?_
      refine Lst.skip rfl rfl rfl hb41 rfl (by decide) ?_
      refine Lst.run rfl rfl (by decide) (Ev.pickF rfl hb41 rfl) ?_
      refine Lst.nil ?_
      exact At.meet false (FLe.refl _) ⟨rfl, trivial⟩ rfl (some_inj H)
    replace H := ite_t hb41 H
    refine Lst.runG rfl rfl rfl hb41 rfl (by decide) (Ev.move rfl) ?_
    refine Lst.runG rfl rfl rfl hb41 rfl (by decide) (Ev.eql rfl rfl) ?_
    refine Lst.run rfl rfl (by decide) (Ev.pickT rfl hb41 rfl) ?_
    refine Lst.nil ?_
    exact At.meet (r7.2 == (0 : Int)) (FLe.refl _) ⟨rfl, trivial⟩ rfl (some_inj H)
  rintro F42 y40 hF43 hy
  subst hy
  refine Lst.as (e' := [(37, .bool y40)]) (L' := (.own s31 31 1 (encs r29)) :: (.own s9 31 1 (encs r7.1)) :: (.blk b1 (enc (PosetR.mk a0 s_a0_1)) 24) :: L) ⟨rfl, trivial⟩ rfl ?_
  replace H := HKo39
  refine Lst.run rfl rfl (by decide) (Ev.assign rfl) ?_
  refine Lst.nil ?_
  refine At.then ?_
  obtain rfl := some_inj H
  refine Cd.ret ?_
  exact At.ret1 rfl (Res.tmp rfl) (FLe.trans (FLe.trans (FLe.trans hF12 hF22) hF34) hF43) (List.Sublist.cons _ (List.Sublist.cons _ (List.Sublist.cons _ (List.Sublist.refl _)))) ⟨rfl, rfl⟩
end Go.Proofs.Yticifbmaapnfbaa
