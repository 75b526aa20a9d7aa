/-
  The functions compute their specs; printed by a program.
-/
import Derived.Test.YticifbmaapnfbaaMaSp
import Derived.Test.YticifbmaapnfbaaGoL
import Derived.Test.YticifbmaapnfbaaGoK
import Derived.Test.YticifbmaapnfbaaGoI
import Derived.Test.YticifbmaapnfbaaGoU
import Derived.Test.YticifbmaapnfbaaGoR
import Derived.Test.YticifbmaapnfbaaProg
namespace Go.Proofs.Yticifbmaapnfbaa
open Go.RowKit Enc
set_option linter.unusedVariables false
set_option linter.unusedSimpArgs false
structure GraphR where
  v : Graph
  h0 : Sl
  h1 : Sl
  h2 : Sl
instance : Enc GraphR := ⟨fun p => enc p.h0 ++ (enc p.h1 ++ (enc p.h2)), 3, fun p => by simp only [List.length_append, Enc.len]; rfl, fun p => by simp only [List.all_append, Enc.one, Bool.and_self]⟩
theorem GraphR.get_may {p : GraphR} {k : Nat} {ch : List Value} (h : Get (enc p.h0) k ch) : Get (enc p) (0 + k) ch := Get.off (Get.left h) (by omega)
theorem GraphR.put_may {p : GraphR} {k : Nat} {vs : List Value} {y : Sl} {l : List (List Bool)} (h : Put (enc p.h0) k vs (enc y)) : Put (enc p) (0 + k) vs (enc ({ p with v := { p.v with may := l }, h0 := y } : GraphR)) := Put.off (cs' := enc ({ p with v := { p.v with may := l }, h0 := y } : GraphR)) (Put.left h) (by omega)
theorem GraphR.get_left {p : GraphR} {k : Nat} {ch : List Value} (h : Get (enc p.h1) k ch) : Get (enc p) (1 + k) ch := Get.off (Get.right (m := 1) (Enc.len _) (Get.left h)) (by omega)
theorem GraphR.put_left {p : GraphR} {k : Nat} {vs : List Value} {y : Sl} {l : List Int} (h : Put (enc p.h1) k vs (enc y)) : Put (enc p) (1 + k) vs (enc ({ p with v := { p.v with left := l }, h1 := y } : GraphR)) := Put.off (cs' := enc ({ p with v := { p.v with left := l }, h1 := y } : GraphR)) (Put.right (m := 1) (Enc.len _) (Put.left h)) (by omega)
theorem GraphR.get_seen {p : GraphR} {k : Nat} {ch : List Value} (h : Get (enc p.h2) k ch) : Get (enc p) (2 + k) ch := Get.off (Get.right (m := 1) (Enc.len _) (Get.right (m := 1) (Enc.len _) h)) (by omega)
theorem GraphR.put_seen {p : GraphR} {k : Nat} {vs : List Value} {y : Sl} {l : List Bool} (h : Put (enc p.h2) k vs (enc y)) : Put (enc p) (2 + k) vs (enc ({ p with v := { p.v with seen := l }, h2 := y } : GraphR)) := Put.off (cs' := enc ({ p with v := { p.v with seen := l }, h2 := y } : GraphR)) (Put.right (m := 1) (Enc.len _) (Put.right (m := 1) (Enc.len _) h)) (by omega)
def GraphR.rel (w0 : World) (F : Frz) (L : List Item) (x : GraphR) : Prop := (∃ rs : List (LR Bool), rs.map LR.v = x.v.may ∧ Rd w0 F L x.h0 rs ∧ All LR.rel w0 F L rs) ∧ Rd w0 F L x.h1 x.v.left ∧ Rd w0 F L x.h2 x.v.seen
theorem GraphR.mono {w0 : World} {F F' : Frz} {L L' : List Item} {x : GraphR} (h : GraphR.rel w0 F L x) (hF : FLe F F') (hL : L.Sublist L') : GraphR.rel w0 F' L' x :=
  let ⟨h0, h1, h2⟩ := h
  ⟨(let ⟨rs, a, b, c⟩ := h0; ⟨rs, a, b.mono hF hL, All.monoLR c hF hL⟩), h1.mono hF hL, h2.mono hF hL⟩
theorem All.monoGraph {w0 : World} {F F' : Frz} {L L' : List Item} {rs : List GraphR} (h : All GraphR.rel w0 F L rs) (hF : FLe F F') (hL : L.Sublist L') : All GraphR.rel w0 F' L' rs := fun x hx => GraphR.mono (h x hx) hF hL
set_option maxRecDepth 20000 in
theorem eq49 (x y : Pair) : ∀ w, (Op.equal 49 (.agg (enc x).toArray) (.agg (enc y).toArray)).run Try.prog w = .ok (decide (x = y)) w :=
  EqT.top (d := 10000) Try.isAgg49 Try.sizeOf49 rfl rfl (EqT.struct Try.isAgg49 Try.sizeOf49 rfl Try.runUnderlying49 (by kernel_rfl) (fun x y w => by
  refine Eq.trans (eqField (p := x.A) (q := y.A) rfl (EqT.int Try.isAgg3 Try.runUnderlying3) rfl ((Pair.get_A (Get.here _)).off rfl) ((Pair.get_A (Get.here _)).off rfl) (eqField (p := x.B) (q := y.B) rfl (EqT.int Try.isAgg3 Try.runUnderlying3) rfl ((Pair.get_B (Get.here _)).off rfl) ((Pair.get_B (Get.here _)).off rfl) (by rfl))) ?_
  congr 1
  rw [Bool.eq_iff_iff]; cases x; cases y; simp)) x y
set_option maxRecDepth 20000 in
theorem partref_PairsErr_sim {a0 : Int} {a1 : Int} {a2 : List Pair} {s_a2 : Sl} {r : Int} (H : partref_PairsErr a0 a1 a2 = some r) (w0 : World) (F : Frz) (M L : List Item) (hM : M.Sublist L) (hs_a2 : Rd w0 F M s_a2 a2) : Ok Try.prog w0 34 [iv a0, iv a1, Sl.v s_a2] F (L) (Is (iv r) (L)) := by
 unfold partref_PairsErr at H
 refine Ok.enter (m := 3) (n := 49) Try.func34 rfl rfl rfl (by decide) ?_
 refine Cd.env (e' := [(0, iv a0), (1, iv a1), (2, Sl.v s_a2)]) rfl ?_
 refine Cd.seq ?_
 refine Cd.region ?_
 refine Lst.r (Ev.assign rfl) ?_
 refine Lst.nil ?_
 refine At.then ?_
 refine Cd.seq ?_
 refine Cd.seq ?_
 refine Cd.region ?_
 refine Lst.r (Ev.move rfl) ?_
 refine Lst.r (Ev.move rfl) ?_
 refine Lst.r (Ev.min2 rfl rfl) ?_
 refine Lst.r (Ev.lss rfl rfl) ?_
 refine Lst.r (Ev.move rfl) ?_
 obtain ⟨o1, H, HKo1⟩ := bind_some H
 refine Lst.join (σ := Bool) 5 (fun y2 => [(0, iv a0), (1, iv a1), (2, Sl.v s_a2), (18, .bool y2)]) (fun y2 => L) (fun _ y2 => y2 = o1) ?_ ?_
 ·rcases Bool.eq_false_or_eq_true (decide ((min a0 a1) < (0 : Int))) with hb3 | hb3
  ·replace H := ite_t hb3 H
   refine Lst.skip rfl rfl rfl hb3 rfl (by decide) ?_
   refine Lst.skip rfl rfl rfl hb3 rfl (by decide) ?_
   refine Lst.skip rfl rfl rfl hb3 rfl (by decide) ?_
   refine Lst.skip rfl rfl rfl hb3 rfl (by decide) ?_
   refine Lst.r (Ev.pickT rfl hb3 rfl) ?_
   refine Lst.nil ?_
   exact At.meet true (FLe.refl _) ⟨rfl, rfl, rfl, rfl, trivial⟩ rfl (some_inj H)
  replace H := ite_f hb3 H
  refine Lst.rG hb3 (Ev.move rfl) ?_
  refine Lst.rG hb3 (Ev.move rfl) ?_
  refine Lst.rG hb3 (Ev.max2 rfl rfl) ?_
  refine Lst.rG hb3 (Ev.gtr rfl rfl) ?_
  refine Lst.r (Ev.pickF rfl hb3 rfl) ?_
  refine Lst.nil ?_
  exact At.meet (decide ((max a0 a1) > (40 : Int))) (FLe.refl _) ⟨rfl, rfl, rfl, rfl, trivial⟩ rfl (some_inj H)
 rintro F4 y2 hF5 hy
 subst hy
 refine Lst.as (e' := [(0, iv a0), (1, iv a1), (2, Sl.v s_a2), (18, .bool y2)]) (L' := L) ⟨rfl, rfl, rfl, rfl, trivial⟩ rfl ?_
 replace H := HKo1
 refine Lst.nil ?_
 refine At.then ?_
 rcases Bool.eq_false_or_eq_true y2 with hb6 | hb6
 ·replace H := ite_t hb6 H
  refine Cd.condT rfl hb6 ?_
  refine Cd.seq ?_
  refine Cd.region ?_
  refine Lst.r (Ev.assign rfl) ?_
  refine Lst.nil ?_
  refine At.then ?_
  obtain rfl := some_inj H
  refine Cd.ret ?_
  refine At.then_ret ?_
  exact At.ret1 rfl (Res.tmp rfl) hF5 (.refl _) ⟨rfl, rfl⟩
 replace H := ite_f hb6 H
 refine Cd.condF rfl hb6 ?_
 refine Cd.skip ?_
 refine At.then ?_
 refine Cd.seq ?_
 refine Cd.seq ?_
 refine Cd.region ?_
 refine Lst.r (Ev.move rfl) ?_
 refine Lst.r (Ev.lenS (α := Pair) (xs := a2) (by decide) rfl rfl Try.runUnderlying22 (hs_a2.mono hF5 hM)) ?_
 refine Lst.r (Ev.gtr rfl rfl) ?_
 refine Lst.nil ?_
 refine At.then ?_
 rcases Bool.eq_false_or_eq_true (decide ((a2.length : Int) > (600 : Int))) with hb7 | hb7
 ·replace H := ite_t hb7 H
  refine Cd.condT rfl hb7 ?_
  refine Cd.seq ?_
  refine Cd.region ?_
  refine Lst.r (Ev.assign rfl) ?_
  refine Lst.nil ?_
  refine At.then ?_
  obtain rfl := some_inj H
  refine Cd.ret ?_
  refine At.then_ret ?_
  exact At.ret1 rfl (Res.tmp rfl) hF5 (.refl _) ⟨rfl, rfl⟩
 replace H := ite_f hb7 H
 refine Cd.condF rfl hb7 ?_
 refine Cd.skip ?_
 refine At.then ?_
 refine Cd.seq ?_
 refine Cd.seq ?_
 refine Cd.region ?_
 refine Lst.r (Ev.move rfl) ?_
 refine Lst.r (Ev.lenS (α := Pair) (xs := a2) (by decide) rfl rfl Try.runUnderlying22 (hs_a2.mono hF5 hM)) ?_
 refine Lst.r (Ev.move rfl) ?_
 refine Lst.nil ?_
 refine At.then ?_
 refine Cd.block ?_
 refine Cd.bound (Rd.le (α := Pair) (xs := a2) (by decide) (hs_a2.mono hF5 hM)) (fun hN32 => ?_)
 obtain ⟨ol8, H, HKl8⟩ := andThen_some H
 refine Cd.loop (σ := Nat × Nat × Unit) (fun (i8, k8, _u) => [(0, iv a0), (1, iv a1), (22, Sl.v s_a2), (23, iv (a2.length : Int)), (24, iv (i8 : Int))]) (fun (i8, k8, _u) => L) (fun _ => (fun (i8, k8, _u) => rangeM (partref_PairsErr_B0 a0 a1 a2) k8 i8 () = some ol8 ∧ i8 + k8 = a2.length)) (fun (i8, k8, _u) => k8) (0, a2.length, ()) ⟨rfl, rfl, rfl, rfl, rfl, trivial⟩ rfl ⟨H, by omega⟩ ?_
 rintro F9 ⟨i8, k8, _u⟩ hF10 ⟨H, hik8⟩
 refine Cd.as (e' := [(0, iv a0), (1, iv a1), (22, Sl.v s_a2), (23, iv (a2.length : Int)), (24, iv (i8 : Int))]) (L' := L) ⟨rfl, rfl, rfl, rfl, rfl, trivial⟩ rfl ?_
 rcases k8 with _ | k8
 ·have hc8 : decide ((i8 : Int) < (a2.length : Int)) = false := decide_eq_false (by omega)
  replace H := rangeM_end H
  refine Cd.seq ?_
  refine Cd.region ?_
  refine Lst.r (Ev.lss rfl rfl) ?_
  refine Lst.nil ?_
  refine At.then ?_
  refine Cd.seq ?_
  refine Cd.condF rfl hc8 ?_
  refine Cd.exit ?_
  refine At.then_exit ?_
  refine At.then_exit ?_
  refine At.in_exit ?_
  subst H
  replace H := HKl8
  refine At.then ?_
  refine Cd.seq ?_
  refine Cd.region ?_
  refine Lst.r (Ev.assign rfl) ?_
  refine Lst.nil ?_
  refine At.then ?_
  obtain rfl := some_inj H
  refine Cd.ret ?_
  exact At.ret1 rfl (Res.tmp rfl) (FLe.trans hF5 hF10) (.refl _) ⟨rfl, rfl⟩
 have hc8 : decide ((i8 : Int) < (a2.length : Int)) = true := decide_eq_true (by omega)
 obtain ⟨c8, H, hgo8, hbrk8, hret8⟩ := rangeM_go H
 unfold partref_PairsErr_B0 at H
 try dsimp only at H
 refine Cd.seq ?_
 refine Cd.region ?_
 refine Lst.r (Ev.lss rfl rfl) ?_
 refine Lst.nil ?_
 refine At.then ?_
 refine Cd.seq ?_
 refine Cd.condT rfl hc8 ?_
 refine Cd.skip ?_
 refine At.then ?_
 refine Cd.seq ?_
 refine Cd.block ?_
 refine Cd.seq ?_
 refine Cd.region ?_
 obtain ⟨x11, h12, H⟩ := bind_some H
 have g13 := lat_some h12
 refine Lst.r (Ev.indexS (α := Pair) (xs := a2) rfl rfl Try.runUnderlying22 Try.sizeOf49 rfl (by decide) (hs_a2.mono (FLe.trans hF5 hF10) hM) g13.1 g13.2.1) ?_
 refine Lst.r (Ev.loadSA (α := Pair) rfl (hs_a2.mono (FLe.trans hF5 hF10) hM) Try.isAgg49 Try.sizeOf49 (ch := enc x11) (Enc.len _) (by decide) ((Get.elemN (s := 2) (x := x11) rfl g13.2.2 (Get.here _)).off (by omega))) ?_
 refine Lst.alloc (cs := enc Pair.zero) rfl rfl (by decide) Try.zeroValue49 rfl (fun b14 => ?_)
 refine Lst.store (i := 0) rfl rfl rfl rfl rfl Try.sizeOf49 (vs := enc x11) rfl (Enc.len _) (Enc.one _) (cs' := enc x11) (Put.here ((Enc.len _).trans (Enc.len _).symm)) (L' := (.blk b14 (enc x11) 49) :: L) rfl ?_
 refine Lst.nil ?_
 refine At.then ?_
 refine Cd.seq ?_
 refine Cd.region ?_
 refine Lst.r (Ev.fieldAddr (off' := 0) rfl Try.runUnderlying49 rfl Try.sizeOf3 rfl rfl) ?_
 refine Lst.r (Ev.load (i := 0) rfl rfl Try.isAgg3 (v := iv x11.A) ((Pair.get_A (Get.here _)).off (by rfl))) ?_
 refine Lst.r (Ev.lss rfl rfl) ?_
 refine Lst.r (Ev.move rfl) ?_
 obtain ⟨o16, H, HKo16⟩ := bind_some H
 refine Lst.join (σ := Bool) 4 (fun y17 => [(0, iv a0), (1, iv a1), (8, pv b14 0), (22, Sl.v s_a2), (23, iv (a2.length : Int)), (24, iv (i8 : Int)), (35, .bool y17)]) (fun y17 => (.blk b14 (enc x11) 49) :: L) (fun _ y17 => y17 = o16) ?_ ?_
 ·rcases Bool.eq_false_or_eq_true (decide (x11.A < (0 : Int))) with hb18 | hb18
  ·replace H := ite_t hb18 H
   refine Lst.skip rfl rfl rfl hb18 rfl (by decide) ?_
   refine Lst.skip rfl rfl rfl hb18 rfl (by decide) ?_
   refine Lst.skip rfl rfl rfl hb18 rfl (by decide) ?_
   refine Lst.r (Ev.pickT rfl hb18 rfl) ?_
   refine Lst.nil ?_
   exact At.meet true (FLe.refl _) ⟨rfl, rfl, rfl, rfl, rfl, rfl, rfl, trivial⟩ rfl (some_inj H)
  replace H := ite_f hb18 H
  refine Lst.rG hb18 (Ev.fieldAddr (off' := 1) rfl Try.runUnderlying49 rfl Try.sizeOf3 rfl rfl) ?_
  refine Lst.rG hb18 (Ev.load (i := 0) rfl rfl Try.isAgg3 (v := iv x11.B) ((Pair.get_B (Get.here _)).off (by rfl))) ?_
  refine Lst.rG hb18 (Ev.lss rfl rfl) ?_
  refine Lst.r (Ev.pickF rfl hb18 rfl) ?_
  refine Lst.nil ?_
  exact At.meet (decide (x11.B < (0 : Int))) (FLe.refl _) ⟨rfl, rfl, rfl, rfl, rfl, rfl, rfl, trivial⟩ rfl (some_inj H)
 rintro F19 y17 hF20 hy
 subst hy
 refine Lst.as (e' := [(0, iv a0), (1, iv a1), (8, pv b14 0), (22, Sl.v s_a2), (23, iv (a2.length : Int)), (24, iv (i8 : Int)), (35, .bool y17)]) (L' := (.blk b14 (enc x11) 49) :: L) ⟨rfl, rfl, rfl, rfl, rfl, rfl, rfl, trivial⟩ rfl ?_
 replace H := HKo16
 refine Lst.r (Ev.move rfl) ?_
 obtain ⟨o21, H, HKo21⟩ := bind_some H
 refine Lst.join (σ := Bool) 5 (fun y22 => [(0, iv a0), (1, iv a1), (8, pv b14 0), (22, Sl.v s_a2), (23, iv (a2.length : Int)), (24, iv (i8 : Int)), (41, .bool y22)]) (fun y22 => (.blk b14 (enc x11) 49) :: L) (fun _ y22 => y22 = o21) ?_ ?_
 ·rcases Bool.eq_false_or_eq_true y17 with hb23 | hb23
  ·replace H := ite_t hb23 H
   refine Lst.skip rfl rfl rfl hb23 rfl (by decide) ?_
   refine Lst.skip rfl rfl rfl hb23 rfl (by decide) ?_
   refine Lst.skip rfl rfl rfl hb23 rfl (by decide) ?_
   refine Lst.skip rfl rfl rfl hb23 rfl (by decide) ?_
   refine Lst.r (Ev.pickT rfl hb23 rfl) ?_
   refine Lst.nil ?_
   exact At.meet true (FLe.refl _) ⟨rfl, rfl, rfl, rfl, rfl, rfl, rfl, trivial⟩ rfl (some_inj H)
  replace H := ite_f hb23 H
  refine Lst.rG hb23 (Ev.fieldAddr (off' := 0) rfl Try.runUnderlying49 rfl Try.sizeOf3 rfl rfl) ?_
  refine Lst.rG hb23 (Ev.load (i := 0) rfl rfl Try.isAgg3 (v := iv x11.A) ((Pair.get_A (Get.here _)).off (by rfl))) ?_
  refine Lst.rG hb23 (Ev.move rfl) ?_
  refine Lst.rG hb23 (Ev.geq rfl rfl) ?_
  refine Lst.r (Ev.pickF rfl hb23 rfl) ?_
  refine Lst.nil ?_
  exact At.meet (decide (x11.A ≥ a0)) (FLe.refl _) ⟨rfl, rfl, rfl, rfl, rfl, rfl, rfl, trivial⟩ rfl (some_inj H)
 rintro F24 y22 hF25 hy
 subst hy
 refine Lst.as (e' := [(0, iv a0), (1, iv a1), (8, pv b14 0), (22, Sl.v s_a2), (23, iv (a2.length : Int)), (24, iv (i8 : Int)), (41, .bool y22)]) (L' := (.blk b14 (enc x11) 49) :: L) ⟨rfl, rfl, rfl, rfl, rfl, rfl, rfl, trivial⟩ rfl ?_
 replace H := HKo21
 refine Lst.r (Ev.move rfl) ?_
 obtain ⟨o26, H, HKo26⟩ := bind_some H
 refine Lst.join (σ := Bool) 5 (fun y27 => [(0, iv a0), (1, iv a1), (22, Sl.v s_a2), (23, iv (a2.length : Int)), (24, iv (i8 : Int)), (47, .bool y27)]) (fun y27 => (.blk b14 (enc x11) 49) :: L) (fun _ y27 => y27 = o26) ?_ ?_
 ·rcases Bool.eq_false_or_eq_true y22 with hb28 | hb28
  ·replace H := ite_t hb28 H
   refine Lst.skip rfl rfl rfl hb28 rfl (by decide) ?_
   refine Lst.skip rfl rfl rfl hb28 rfl (by decide) ?_
   refine Lst.skip rfl rfl rfl hb28 rfl (by decide) ?_
   refine Lst.skip rfl rfl rfl hb28 rfl (by decide) ?_
   refine Lst.r (Ev.pickT rfl hb28 rfl) ?_
   refine Lst.nil ?_
   exact At.meet true (FLe.refl _) ⟨rfl, rfl, rfl, rfl, rfl, rfl, trivial⟩ rfl (some_inj H)
  replace H := ite_f hb28 H
  refine Lst.rG hb28 (Ev.fieldAddr (off' := 1) rfl Try.runUnderlying49 rfl Try.sizeOf3 rfl rfl) ?_
  refine Lst.rG hb28 (Ev.load (i := 0) rfl rfl Try.isAgg3 (v := iv x11.B) ((Pair.get_B (Get.here _)).off (by rfl))) ?_
  refine Lst.rG hb28 (Ev.move rfl) ?_
  refine Lst.rG hb28 (Ev.geq rfl rfl) ?_
  refine Lst.r (Ev.pickF rfl hb28 rfl) ?_
  refine Lst.nil ?_
  exact At.meet (decide (x11.B ≥ a1)) (FLe.refl _) ⟨rfl, rfl, rfl, rfl, rfl, rfl, trivial⟩ rfl (some_inj H)
 rintro F29 y27 hF30 hy
 subst hy
 refine Lst.as (e' := [(0, iv a0), (1, iv a1), (22, Sl.v s_a2), (23, iv (a2.length : Int)), (24, iv (i8 : Int)), (47, .bool y27)]) (L' := (.blk b14 (enc x11) 49) :: L) ⟨rfl, rfl, rfl, rfl, rfl, rfl, trivial⟩ rfl ?_
 replace H := HKo26
 refine Lst.nil ?_
 refine At.then ?_
 rcases Bool.eq_false_or_eq_true y27 with hb31 | hb31
 ·replace H := ite_t hb31 H
  refine Cd.condT rfl hb31 ?_
  refine Cd.seq ?_
  refine Cd.region ?_
  refine Lst.r (Ev.assign rfl) ?_
  refine Lst.nil ?_
  refine At.then ?_
  have H := hret8 _ (some_inj H).symm
  subst H
  replace H := HKl8
  obtain rfl := some_inj H
  refine Cd.ret ?_
  refine At.in_ret ?_
  refine At.then_ret ?_
  refine At.then_ret ?_
  refine At.in_ret ?_
  refine At.then_ret ?_
  exact At.ret1 rfl (Res.tmp rfl) (FLe.trans (FLe.trans (FLe.trans (FLe.trans hF5 hF10) hF20) hF25) hF30) (sc1 (.refl _)) ⟨rfl, rfl⟩
 replace H := ite_f hb31 H
 refine Cd.condF rfl hb31 ?_
 refine Cd.skip ?_
 refine At.in_normal ?_
 refine At.then ?_
 refine Cd.region ?_
 refine Lst.r (Ev.incr (by omega) rfl rfl) ?_
 refine Lst.r (Ev.move rfl) ?_
 refine Lst.nil ?_
 refine At.less (L' := L) (sc1 (.refl _)) ?_
 exact At.meet (i8 + 1, k8, ()) (FLe.trans (FLe.trans (FLe.trans hF10 hF20) hF25) hF30) ⟨rfl, rfl, rfl, rfl, rfl, trivial⟩ rfl ⟨⟨hgo8 _ (some_inj H).symm, by omega⟩, Nat.lt_succ_self _⟩
set_option maxRecDepth 20000 in
theorem match_in_sim {a0 : Int} {a1 : Int} {a2 : Int} {r : Bool} (H : match_in a0 a1 a2 = some r) (w0 : World) (F : Frz) (M L : List Item) (hM : M.Sublist L) : Ok Try.prog w0 62 [iv a0, iv a1, iv a2] F (L) (Is (.bool r) (L)) := by
 unfold match_in at H
 refine Ok.enter (m := 3) (n := 15) Try.func62 rfl rfl rfl (by decide) ?_
 refine Cd.env (e' := [(0, iv a0), (1, iv a1), (2, iv a2)]) rfl ?_
 refine Cd.seq ?_
 refine Cd.region ?_
 refine Lst.r (Ev.assign rfl) ?_
 refine Lst.nil ?_
 refine At.then ?_
 refine Cd.seq ?_
 refine Cd.region ?_
 refine Lst.r (Ev.move rfl) ?_
 refine Lst.r (Ev.move rfl) ?_
 refine Lst.r (Ev.geq rfl rfl) ?_
 refine Lst.r (Ev.move rfl) ?_
 obtain ⟨o1, H, HKo1⟩ := bind_some H
 refine Lst.join (σ := Bool) 4 (fun y2 => [(14, .bool y2)]) (fun y2 => L) (fun _ y2 => y2 = o1) ?_ ?_
 ·rcases (Bool.eq_false_or_eq_true (decide (a0 ≥ a1))).symm with hb3 | hb3
  ·replace H := ite_f hb3 H
   refine Lst.skip rfl rfl rfl hb3 rfl (by decide) ?_
   refine Lst.skip rfl rfl rfl hb3 rfl (by decide) ?_
   refine Lst.skip rfl rfl rfl hb3 rfl (by decide) ?_
   refine Lst.r (Ev.pickF rfl hb3 rfl) ?_
   refine Lst.nil ?_
   exact At.meet false (FLe.refl _) ⟨rfl, trivial⟩ rfl (some_inj H)
  replace H := ite_t hb3 H
  refine Lst.rG hb3 (Ev.move rfl) ?_
  refine Lst.rG hb3 (Ev.move rfl) ?_
  refine Lst.rG hb3 (Ev.leq rfl rfl) ?_
  refine Lst.r (Ev.pickT rfl hb3 rfl) ?_
  refine Lst.nil ?_
  exact At.meet (decide (a0 ≤ a2)) (FLe.refl _) ⟨rfl, trivial⟩ rfl (some_inj H)
 rintro F4 y2 hF5 hy
 subst hy
 refine Lst.as (e' := [(14, .bool y2)]) (L' := L) ⟨rfl, trivial⟩ rfl ?_
 replace H := HKo1
 refine Lst.r (Ev.assign rfl) ?_
 refine Lst.nil ?_
 refine At.then ?_
 obtain rfl := some_inj H
 refine Cd.ret ?_
 exact At.ret1 rfl (Res.tmp rfl) hF5 (.refl _) ⟨rfl, rfl⟩
set_option maxRecDepth 20000 in
theorem match_Check_1_sim {a0 : Pair} {a1 : Int} {a2 : Int} {b_a1 : Nat} {b_a2 : Nat} {r : Bool} (H : match_Check_1 a0 a1 a2 = some r) (w0 : World) (F : Frz) (M L : List Item) (hM : M.Sublist L) : Ok Try.prog w0 64 [.agg (enc a0).toArray, pv b_a1 0, pv b_a2 0] F ((.blk b_a1 (enc a1) 3) :: (.blk b_a2 (enc a2) 3) :: L) (Is (.bool r) ((.blk b_a1 (enc a1) 3) :: (.blk b_a2 (enc a2) 3) :: L)) := by
 unfold match_Check_1 at H
 refine Ok.enter (m := 3) (n := 19) Try.func64 rfl rfl rfl (by decide) ?_
 refine Cd.env (e' := [(0, .agg (enc a0).toArray), (1, pv b_a1 0), (2, pv b_a2 0)]) rfl ?_
 refine Cd.seq ?_
 refine Cd.region ?_
 refine Lst.box rfl rfl (by decide) rfl (cs := enc a0) rfl (fun b3 => ?_)
 refine Lst.r (Ev.assign rfl) ?_
 refine Lst.nil ?_
 refine At.then ?_
 refine Cd.seq ?_
 refine Cd.region ?_
 refine Lst.r (Ev.fieldAddr (off' := 0) rfl Try.runUnderlying49 rfl Try.sizeOf3 rfl rfl) ?_
 refine Lst.r (Ev.load (i := 0) rfl rfl Try.isAgg3 (v := iv a0.A) ((Pair.get_A (Get.here _)).off (by rfl))) ?_
 refine Lst.r (Ev.load (i := 1) rfl rfl Try.isAgg3 (v := iv a1) (Get.here _)) ?_
 refine Lst.r (Ev.sub rfl rfl) ?_
 obtain ⟨r5, h6, H⟩ := bind_some H
 refine Lst.call1 rfl rfl (by decide) (vs := [iv a0.A, iv (0 : Int), iv (w64 (a1 - (1 : Int)))]) ⟨rfl, rfl, rfl, trivial⟩ Try.call62 (match_in_sim h6 w0 _ M _ (sc2 (sc1 hM))) ?_
 refine Lst.r (Ev.not rfl) ?_
 refine Lst.r (Ev.move rfl) ?_
 obtain ⟨o9, H, HKo9⟩ := bind_some H
 refine Lst.join (σ := Bool) 7 (fun y10 => [(18, .bool y10)]) (fun y10 => (.blk b3 (enc a0) 49) :: (.blk b_a1 (enc a1) 3) :: (.blk b_a2 (enc a2) 3) :: L) (fun _ y10 => y10 = o9) ?_ ?_
 ·rcases Bool.eq_false_or_eq_true (!r5) with hb11 | hb11
  ·replace H := ite_t hb11 H
   refine Lst.skip rfl rfl rfl hb11 rfl (by decide) ?_
   refine Lst.skip rfl rfl rfl hb11 rfl (by decide) ?_
   refine Lst.skip rfl rfl rfl hb11 rfl (by decide) ?_
   refine Lst.skip rfl rfl rfl hb11 rfl (by decide) ?_
   refine Lst.skip rfl rfl rfl hb11 rfl (by decide) ?_
   refine Lst.skip rfl rfl rfl hb11 rfl (by decide) ?_
   refine Lst.r (Ev.pickT rfl hb11 rfl) ?_
   refine Lst.nil ?_
   exact At.meet true (FLe.refl _) ⟨rfl, trivial⟩ rfl (some_inj H)
  replace H := ite_f hb11 H
  refine Lst.rG hb11 (Ev.fieldAddr (off' := 1) rfl Try.runUnderlying49 rfl Try.sizeOf3 rfl rfl) ?_
  refine Lst.rG hb11 (Ev.load (i := 0) rfl rfl Try.isAgg3 (v := iv a0.B) ((Pair.get_B (Get.here _)).off (by rfl))) ?_
  refine Lst.rG hb11 (Ev.load (i := 2) rfl rfl Try.isAgg3 (v := iv a2) (Get.here _)) ?_
  refine Lst.rG hb11 (Ev.sub rfl rfl) ?_
  obtain ⟨r12, h13, H⟩ := bind_some H
  refine Lst.call1G rfl rfl rfl hb11 rfl (by decide) (vs := [iv a0.B, iv (0 : Int), iv (w64 (a2 - (1 : Int)))]) ⟨rfl, rfl, rfl, trivial⟩ Try.call62 (match_in_sim h13 w0 _ M _ (sc2 (sc1 hM))) ?_
  refine Lst.rG hb11 (Ev.not rfl) ?_
  refine Lst.r (Ev.pickF rfl hb11 rfl) ?_
  refine Lst.nil ?_
  exact At.meet (!r12) (FLe.refl _) ⟨rfl, trivial⟩ rfl (some_inj H)
 rintro F16 y10 hF17 hy
 subst hy
 refine Lst.as (e' := [(18, .bool y10)]) (L' := (.blk b3 (enc a0) 49) :: (.blk b_a1 (enc a1) 3) :: (.blk b_a2 (enc a2) 3) :: L) ⟨rfl, trivial⟩ rfl ?_
 replace H := HKo9
 refine Lst.r (Ev.assign rfl) ?_
 refine Lst.nil ?_
 refine At.then ?_
 obtain rfl := some_inj H
 refine Cd.ret ?_
 exact At.ret1 rfl (Res.tmp rfl) hF17 (sc1 (sk1 (sk1 (.refl _)))) ⟨rfl, rfl⟩
set_option maxRecDepth 20000 in
theorem slices_IndexFunc_api_Pair_api_Pair_Check_1_sim {a0 : List Pair} {a1_c0 : Int} {a1_c1 : Int} {s_a0 : Sl} {b_a1_c0 : Nat} {b_a1_c1 : Nat} {r : Int} (H : slices_IndexFunc_api_Pair_api_Pair_Check_1 a0 a1_c0 a1_c1 = some r) (w0 : World) (F : Frz) (M L : List Item) (hM : M.Sublist L) (hs_a0 : Rd w0 F M s_a0 a0) : Ok Try.prog w0 78 [Sl.v s_a0, .func (.func 64) #[] #[pv b_a1_c0 0, pv b_a1_c1 0]] F ((.blk b_a1_c0 (enc a1_c0) 3) :: (.blk b_a1_c1 (enc a1_c1) 3) :: L) (Is (iv r) ((.blk b_a1_c0 (enc a1_c0) 3) :: (.blk b_a1_c1 (enc a1_c1) 3) :: L)) := by
 unfold slices_IndexFunc_api_Pair_api_Pair_Check_1 at H
 refine Ok.enter (m := 2) (n := 19) Try.func78 rfl rfl rfl (by decide) ?_
 refine Cd.env (e' := [(0, Sl.v s_a0), (1, .func (.func 64) #[] #[pv b_a1_c0 0, pv b_a1_c1 0])]) rfl ?_
 refine Cd.seq ?_
 refine Cd.region ?_
 refine Lst.r (Ev.assign rfl) ?_
 refine Lst.nil ?_
 refine At.then ?_
 refine Cd.seq ?_
 refine Cd.seq ?_
 refine Cd.region ?_
 refine Lst.r (Ev.move rfl) ?_
 refine Lst.r (Ev.lenS (α := Pair) (xs := a0) (by decide) rfl rfl Try.runUnderlying22 (hs_a0.mono (FLe.refl _) (sc2 hM))) ?_
 refine Lst.r (Ev.move rfl) ?_
 refine Lst.nil ?_
 refine At.then ?_
 refine Cd.block ?_
 refine Cd.bound (Rd.le (α := Pair) (xs := a0) (by decide) (hs_a0.mono (FLe.refl _) (sc2 hM))) (fun hN14 => ?_)
 obtain ⟨ol3, H, HKl3⟩ := andThen_some H
 refine Cd.loop (σ := Nat × Nat × Unit) (fun (i3, k3, _u) => [(0, Sl.v s_a0), (1, .func (.func 64) #[] #[pv b_a1_c0 0, pv b_a1_c1 0]), (7, iv (a0.length : Int)), (8, iv (i3 : Int))]) (fun (i3, k3, _u) => (.blk b_a1_c0 (enc a1_c0) 3) :: (.blk b_a1_c1 (enc a1_c1) 3) :: L) (fun _ => (fun (i3, k3, _u) => rangeM (slices_IndexFunc_api_Pair_api_Pair_Check_1_B0 a0 a1_c0 a1_c1) k3 i3 () = some ol3 ∧ i3 + k3 = a0.length)) (fun (i3, k3, _u) => k3) (0, a0.length, ()) ⟨rfl, rfl, rfl, rfl, trivial⟩ rfl ⟨H, by omega⟩ ?_
 rintro F4 ⟨i3, k3, _u⟩ hF5 ⟨H, hik3⟩
 refine Cd.as (e' := [(0, Sl.v s_a0), (1, .func (.func 64) #[] #[pv b_a1_c0 0, pv b_a1_c1 0]), (7, iv (a0.length : Int)), (8, iv (i3 : Int))]) (L' := (.blk b_a1_c0 (enc a1_c0) 3) :: (.blk b_a1_c1 (enc a1_c1) 3) :: L) ⟨rfl, rfl, rfl, rfl, trivial⟩ rfl ?_
 rcases k3 with _ | k3
 ·have hc3 : decide ((i3 : Int) < (a0.length : Int)) = false := decide_eq_false (by omega)
  replace H := rangeM_end H
  refine Cd.seq ?_
  refine Cd.region ?_
  refine Lst.r (Ev.lss rfl rfl) ?_
  refine Lst.nil ?_
  refine At.then ?_
  refine Cd.seq ?_
  refine Cd.condF rfl hc3 ?_
  refine Cd.exit ?_
  refine At.then_exit ?_
  refine At.then_exit ?_
  refine At.in_exit ?_
  subst H
  replace H := HKl3
  refine At.then ?_
  refine Cd.seq ?_
  refine Cd.region ?_
  refine Lst.r (Ev.assign rfl) ?_
  refine Lst.nil ?_
  refine At.then ?_
  obtain rfl := some_inj H
  refine Cd.ret ?_
  exact At.ret1 rfl (Res.tmp rfl) hF5 (sk1 (sk1 (.refl _))) ⟨rfl, rfl⟩
 have hc3 : decide ((i3 : Int) < (a0.length : Int)) = true := decide_eq_true (by omega)
 obtain ⟨c3, H, hgo3, hbrk3, hret3⟩ := rangeM_go H
 unfold slices_IndexFunc_api_Pair_api_Pair_Check_1_B0 at H
 try dsimp only at H
 refine Cd.seq ?_
 refine Cd.region ?_
 refine Lst.r (Ev.lss rfl rfl) ?_
 refine Lst.nil ?_
 refine At.then ?_
 refine Cd.seq ?_
 refine Cd.condT rfl hc3 ?_
 refine Cd.skip ?_
 refine At.then ?_
 refine Cd.seq ?_
 refine Cd.block ?_
 refine Cd.seq ?_
 refine Cd.region ?_
 refine Lst.r (Ev.move rfl) ?_
 refine Lst.r (Ev.assign rfl) ?_
 refine Lst.nil ?_
 refine At.then ?_
 refine Cd.seq ?_
 refine Cd.region ?_
 refine Lst.r (Ev.move rfl) ?_
 refine Lst.r (Ev.move rfl) ?_
 refine Lst.r (Ev.move rfl) ?_
 obtain ⟨x6, h7, H⟩ := bind_some H
 have g8 := lat_some h7
 refine Lst.r (Ev.indexS (α := Pair) (xs := a0) rfl rfl Try.runUnderlying22 Try.sizeOf49 rfl (by decide) (hs_a0.mono hF5 (sc2 hM)) g8.1 g8.2.1) ?_
 refine Lst.r (Ev.loadSA (α := Pair) rfl (hs_a0.mono hF5 (sc2 hM)) Try.isAgg49 Try.sizeOf49 (ch := enc x6) (Enc.len _) (by decide) ((Get.elemN (s := 2) (x := x6) rfl g8.2.2 (Get.here _)).off (by omega))) ?_
 obtain ⟨r9, h10, H⟩ := bind_some H
 refine Lst.callV1 rfl rfl (by decide) (vs := [.agg (enc x6).toArray]) (cs := [pv b_a1_c0 0, pv b_a1_c1 0]) rfl ⟨rfl, trivial⟩ Try.call64 (match_Check_1_sim h10 w0 _ M _ hM) ?_
 refine Lst.nil ?_
 refine At.then ?_
 rcases Bool.eq_false_or_eq_true r9 with hb13 | hb13
 ·replace H := ite_t hb13 H
  refine Cd.condT rfl hb13 ?_
  refine Cd.seq ?_
  refine Cd.region ?_
  refine Lst.r (Ev.move rfl) ?_
  refine Lst.r (Ev.assign rfl) ?_
  refine Lst.nil ?_
  refine At.then ?_
  have H := hret3 _ (some_inj H).symm
  subst H
  replace H := HKl3
  obtain rfl := some_inj H
  refine Cd.ret ?_
  refine At.in_ret ?_
  refine At.then_ret ?_
  refine At.then_ret ?_
  refine At.in_ret ?_
  refine At.then_ret ?_
  exact At.ret1 rfl (Res.tmp rfl) hF5 (sk1 (sk1 (.refl _))) ⟨rfl, rfl⟩
 replace H := ite_f hb13 H
 refine Cd.condF rfl hb13 ?_
 refine Cd.skip ?_
 refine At.in_normal ?_
 refine At.then ?_
 refine Cd.region ?_
 refine Lst.r (Ev.incr (by omega) rfl rfl) ?_
 refine Lst.r (Ev.move rfl) ?_
 refine Lst.nil ?_
 exact At.meet (i3 + 1, k3, ()) hF5 ⟨rfl, rfl, rfl, rfl, trivial⟩ rfl ⟨⟨hgo3 _ (some_inj H).symm, by omega⟩, Nat.lt_succ_self _⟩
set_option maxRecDepth 20000 in
theorem slices_ContainsFunc_api_Pair_api_Pair_Check_1_sim {a0 : List Pair} {a1_c0 : Int} {a1_c1 : Int} {s_a0 : Sl} {b_a1_c0 : Nat} {b_a1_c1 : Nat} {r : Bool} (H : slices_ContainsFunc_api_Pair_api_Pair_Check_1 a0 a1_c0 a1_c1 = some r) (w0 : World) (F : Frz) (M L : List Item) (hM : M.Sublist L) (hs_a0 : Rd w0 F M s_a0 a0) : Ok Try.prog w0 63 [Sl.v s_a0, .func (.func 64) #[] #[pv b_a1_c0 0, pv b_a1_c1 0]] F ((.blk b_a1_c0 (enc a1_c0) 3) :: (.blk b_a1_c1 (enc a1_c1) 3) :: L) (Is (.bool r) ((.blk b_a1_c0 (enc a1_c0) 3) :: (.blk b_a1_c1 (enc a1_c1) 3) :: L)) := by
 unfold slices_ContainsFunc_api_Pair_api_Pair_Check_1 at H
 refine Ok.enter (m := 2) (n := 9) Try.func63 rfl rfl rfl (by decide) ?_
 refine Cd.env (e' := [(0, Sl.v s_a0), (1, .func (.func 64) #[] #[pv b_a1_c0 0, pv b_a1_c1 0])]) rfl ?_
 refine Cd.seq ?_
 refine Cd.region ?_
 refine Lst.r (Ev.assign rfl) ?_
 refine Lst.nil ?_
 refine At.then ?_
 refine Cd.seq ?_
 refine Cd.region ?_
 refine Lst.r (Ev.move rfl) ?_
 refine Lst.r (Ev.move rfl) ?_
 obtain ⟨r3, h4, H⟩ := bind_some H
 refine Lst.call1 rfl rfl (by decide) (vs := [Sl.v s_a0, .func (.func 64) #[] #[pv b_a1_c0 0, pv b_a1_c1 0]]) ⟨rfl, rfl, trivial⟩ Try.call78 (slices_IndexFunc_api_Pair_api_Pair_Check_1_sim h4 w0 _ M _ hM (hs_a0.mono (FLe.refl _) (.refl _))) ?_
 refine Lst.r (Ev.geq rfl rfl) ?_
 refine Lst.r (Ev.assign rfl) ?_
 refine Lst.nil ?_
 refine At.then ?_
 obtain rfl := some_inj H
 refine Cd.ret ?_
 exact At.ret1 rfl (Res.tmp rfl) (FLe.refl _) (sk1 (sk1 (.refl _))) ⟨rfl, rfl⟩
set_option maxRecDepth 20000 in
theorem match_Check_sim {a0 : Int} {a1 : Int} {a2 : List Pair} {s_a2 : Sl} {r : Int} (H : match_Check a0 a1 a2 = some r) (w0 : World) (F : Frz) (M L : List Item) (hM : M.Sublist L) (hs_a2 : Rd w0 F M s_a2 a2) : Ok Try.prog w0 37 [iv a0, iv a1, Sl.v s_a2] F (L) (Is (iv r) (L)) := by
 unfold match_Check at H
 refine Ok.enter (m := 3) (n := 24) Try.func37 rfl rfl rfl (by decide) ?_
 refine Cd.env (e' := [(0, iv a0), (1, iv a1), (2, Sl.v s_a2)]) rfl ?_
 refine Cd.seq ?_
 refine Cd.region ?_
 refine Lst.box rfl rfl (by decide) rfl (cs := enc a0) rfl (fun b1 => ?_)
 refine Lst.box rfl rfl (by decide) rfl (cs := enc a1) rfl (fun b3 => ?_)
 refine Lst.r (Ev.assign rfl) ?_
 refine Lst.nil ?_
 refine At.then ?_
 refine Cd.seq ?_
 refine Cd.block ?_
 refine Cd.seq ?_
 refine Cd.region ?_
 refine Lst.r (Ev.load (i := 1) rfl rfl Try.isAgg3 (v := iv a0) (Get.here _)) ?_
 obtain ⟨r5, h6, H⟩ := bind_some H
 refine Lst.call1 rfl rfl (by decide) (vs := [iv a0, iv (0 : Int), iv (40 : Int)]) ⟨rfl, rfl, rfl, trivial⟩ Try.call62 (match_in_sim h6 w0 _ M _ (sc2 hM)) ?_
 refine Lst.r (Ev.not rfl) ?_
 refine Lst.r (Ev.move rfl) ?_
 obtain ⟨o9, H, HKo9⟩ := bind_some H
 refine Lst.join (σ := Bool) 4 (fun y10 => [(2, Sl.v s_a2), (3, pv b1 0), (4, pv b3 0), (15, .bool y10)]) (fun y10 => (.blk b3 (enc a1) 3) :: (.blk b1 (enc a0) 3) :: L) (fun _ y10 => y10 = o9) ?_ ?_
 ·rcases Bool.eq_false_or_eq_true (!r5) with hb11 | hb11
  ·replace H := ite_t hb11 H
   refine Lst.skip rfl rfl rfl hb11 rfl (by decide) ?_
   refine Lst.skip rfl rfl rfl hb11 rfl (by decide) ?_
   refine Lst.skip rfl rfl rfl hb11 rfl (by decide) ?_
   refine Lst.r (Ev.pickT rfl hb11 rfl) ?_
   refine Lst.nil ?_
   exact At.meet true (FLe.refl _) ⟨rfl, rfl, rfl, rfl, trivial⟩ rfl (some_inj H)
  replace H := ite_f hb11 H
  refine Lst.rG hb11 (Ev.load (i := 0) rfl rfl Try.isAgg3 (v := iv a1) (Get.here _)) ?_
  obtain ⟨r12, h13, H⟩ := bind_some H
  refine Lst.call1G rfl rfl rfl hb11 rfl (by decide) (vs := [iv a1, iv (0 : Int), iv (40 : Int)]) ⟨rfl, rfl, rfl, trivial⟩ Try.call62 (match_in_sim h13 w0 _ M _ (sc2 hM)) ?_
  refine Lst.rG hb11 (Ev.not rfl) ?_
  refine Lst.r (Ev.pickF rfl hb11 rfl) ?_
  refine Lst.nil ?_
  exact At.meet (!r12) (FLe.refl _) ⟨rfl, rfl, rfl, rfl, trivial⟩ rfl (some_inj H)
 rintro F16 y10 hF17 hy
 subst hy
 refine Lst.as (e' := [(2, Sl.v s_a2), (3, pv b1 0), (4, pv b3 0), (15, .bool y10)]) (L' := (.blk b3 (enc a1) 3) :: (.blk b1 (enc a0) 3) :: L) ⟨rfl, rfl, rfl, rfl, trivial⟩ rfl ?_
 replace H := HKo9
 refine Lst.r (Ev.assign rfl) ?_
 refine Lst.nil ?_
 refine At.then ?_
 rcases Bool.eq_false_or_eq_true y10 with hb18 | hb18
 ·replace H := ite_t hb18 H
  refine Cd.condT rfl hb18 ?_
  refine Cd.seq ?_
  refine Cd.region ?_
  refine Lst.r (Ev.assign rfl) ?_
  refine Lst.nil ?_
  refine At.then ?_
  obtain rfl := some_inj H
  refine Cd.ret ?_
  refine At.in_ret ?_
  refine At.then_ret ?_
  exact At.ret1 rfl (Res.tmp rfl) hF17 (sc1 (sc1 (.refl _))) ⟨rfl, rfl⟩
 replace H := ite_f hb18 H
 refine Cd.condF rfl hb18 ?_
 refine Cd.seq ?_
 refine Cd.region ?_
 refine Lst.r (Ev.move rfl) ?_
 refine Lst.r (Ev.lenS (α := Pair) (xs := a2) (by decide) rfl rfl Try.runUnderlying22 (hs_a2.mono hF17 (sc2 hM))) ?_
 refine Lst.r (Ev.gtr rfl rfl) ?_
 refine Lst.r (Ev.assign rfl) ?_
 refine Lst.nil ?_
 refine At.then ?_
 rcases Bool.eq_false_or_eq_true (decide ((a2.length : Int) > (600 : Int))) with hb19 | hb19
 ·replace H := ite_t hb19 H
  refine Cd.condT rfl hb19 ?_
  refine Cd.seq ?_
  refine Cd.region ?_
  refine Lst.r (Ev.assign rfl) ?_
  refine Lst.nil ?_
  refine At.then ?_
  obtain rfl := some_inj H
  refine Cd.ret ?_
  refine At.in_ret ?_
  refine At.then_ret ?_
  exact At.ret1 rfl (Res.tmp rfl) hF17 (sc1 (sc1 (.refl _))) ⟨rfl, rfl⟩
 replace H := ite_f hb19 H
 refine Cd.condF rfl hb19 ?_
 refine Cd.seq ?_
 refine Cd.region ?_
 refine Lst.r (Ev.move rfl) ?_
 refine Lst.r (Ev.makeFunc (us := []) (vs := [pv b1 0, pv b3 0]) trivial ⟨rfl, rfl, trivial⟩) ?_
 obtain ⟨r20, h21, H⟩ := bind_some H
 refine Lst.front (i := 1) rfl (L' := (.blk b1 (enc a0) 3) :: (.blk b3 (enc a1) 3) :: L) rfl ?_
 refine Lst.call1 rfl rfl (by decide) (vs := [Sl.v s_a2, .func (.func 64) #[] #[pv b1 0, pv b3 0]]) ⟨rfl, rfl, trivial⟩ Try.call63 (slices_ContainsFunc_api_Pair_api_Pair_Check_1_sim h21 w0 _ M _ hM (hs_a2.mono hF17 (.refl _))) ?_
 refine Lst.r (Ev.assign rfl) ?_
 refine Lst.nil ?_
 refine At.then ?_
 rcases Bool.eq_false_or_eq_true r20 with hb24 | hb24
 ·replace H := ite_t hb24 H
  refine Cd.condT rfl hb24 ?_
  refine Cd.seq ?_
  refine Cd.region ?_
  refine Lst.r (Ev.assign rfl) ?_
  refine Lst.nil ?_
  refine At.then ?_
  obtain rfl := some_inj H
  refine Cd.ret ?_
  refine At.in_ret ?_
  refine At.then_ret ?_
  exact At.ret1 rfl (Res.tmp rfl) hF17 (sc1 (sc1 (.refl _))) ⟨rfl, rfl⟩
 replace H := ite_f hb24 H
 refine Cd.condF rfl hb24 ?_
 refine Cd.skip ?_
 refine At.in_normal ?_
 refine At.then ?_
 refine Cd.seq ?_
 refine Cd.region ?_
 refine Lst.r (Ev.assign rfl) ?_
 refine Lst.nil ?_
 refine At.then ?_
 obtain rfl := some_inj H
 refine Cd.ret ?_
 exact At.ret1 rfl (Res.tmp rfl) hF17 (sc1 (sc1 (.refl _))) ⟨rfl, rfl⟩
set_option maxRecDepth 20000 in
theorem math_bits_Mul64_sim {a0 : BitVec 64} {a1 : BitVec 64} {r : (BitVec 64) × (BitVec 64)} (H : math_bits_Mul64 a0 a1 = some r) (w0 : World) (F : Frz) (M L : List Item) (hM : M.Sublist L) : Ok Try.prog w0 86 [.int .u64 a0.toNat, .int .u64 a1.toNat] F (L) (Is (.tuple #[.int .u64 r.1.toNat, .int .u64 r.2.toNat]) (L)) := by
 unfold math_bits_Mul64 at H
 refine Ok.enter (m := 2) (n := 51) Try.func86 rfl rfl rfl (by decide) ?_
 refine Cd.env (e' := [(0, .int .u64 a0.toNat), (1, .int .u64 a1.toNat)]) rfl ?_
 refine Cd.seq ?_
 refine Cd.region ?_
 refine Lst.r (Ev.assign rfl) ?_
 refine Lst.r (Ev.assign rfl) ?_
 refine Lst.nil ?_
 refine At.then ?_
 refine Cd.seq ?_
 refine Cd.region ?_
 refine Lst.r (Ev.move rfl) ?_
 refine Lst.r (Ev.andU64 (i := a0) (j := (4294967295 : BitVec 64)) rfl rfl) ?_
 refine Lst.r (Ev.assign rfl) ?_
 refine Lst.nil ?_
 refine At.then ?_
 refine Cd.seq ?_
 refine Cd.region ?_
 refine Lst.r (Ev.move rfl) ?_
 refine Lst.r (Ev.shrU64 (i := a0) (m := 32) rfl rfl) ?_
 refine Lst.r (Ev.assign rfl) ?_
 refine Lst.nil ?_
 refine At.then ?_
 refine Cd.seq ?_
 refine Cd.region ?_
 refine Lst.r (Ev.move rfl) ?_
 refine Lst.r (Ev.andU64 (i := a1) (j := (4294967295 : BitVec 64)) rfl rfl) ?_
 refine Lst.r (Ev.assign rfl) ?_
 refine Lst.nil ?_
 refine At.then ?_
 refine Cd.seq ?_
 refine Cd.region ?_
 refine Lst.r (Ev.move rfl) ?_
 refine Lst.r (Ev.shrU64 (i := a1) (m := 32) rfl rfl) ?_
 refine Lst.r (Ev.assign rfl) ?_
 refine Lst.nil ?_
 refine At.then ?_
 refine Cd.seq ?_
 refine Cd.region ?_
 refine Lst.r (Ev.move rfl) ?_
 refine Lst.r (Ev.move rfl) ?_
 refine Lst.r (Ev.mulU64 (i := a0 &&& (4294967295 : BitVec 64)) (j := a1 &&& (4294967295 : BitVec 64)) rfl rfl) ?_
 refine Lst.r (Ev.assign rfl) ?_
 refine Lst.nil ?_
 refine At.then ?_
 refine Cd.seq ?_
 refine Cd.region ?_
 refine Lst.r (Ev.move rfl) ?_
 refine Lst.r (Ev.move rfl) ?_
 refine Lst.r (Ev.mulU64 (i := a0 >>> 32) (j := a1 &&& (4294967295 : BitVec 64)) rfl rfl) ?_
 refine Lst.r (Ev.move rfl) ?_
 refine Lst.r (Ev.shrU64 (i := (a0 &&& (4294967295 : BitVec 64)) * (a1 &&& (4294967295 : BitVec 64))) (m := 32) rfl rfl) ?_
 refine Lst.r (Ev.addU64 (i := (a0 >>> 32) * (a1 &&& (4294967295 : BitVec 64))) (j := ((a0 &&& (4294967295 : BitVec 64)) * (a1 &&& (4294967295 : BitVec 64))) >>> 32) rfl rfl) ?_
 refine Lst.r (Ev.assign rfl) ?_
 refine Lst.nil ?_
 refine At.then ?_
 refine Cd.seq ?_
 refine Cd.as (e' := [(0, .int .u64 a0.toNat), (1, .int .u64 a1.toNat), (6, .int .u64 (a0 &&& (4294967295 : BitVec 64)).toNat), (7, .int .u64 (a0 >>> 32).toNat), (9, .int .u64 (a1 >>> 32).toNat), (11, .int .u64 (((a0 >>> 32) * (a1 &&& (4294967295 : BitVec 64))) + (((a0 &&& (4294967295 : BitVec 64)) * (a1 &&& (4294967295 : BitVec 64))) >>> 32)).toNat)]) (L' := L) ⟨rfl, rfl, rfl, rfl, rfl, rfl, trivial⟩ rfl ?_
 refine Cd.region ?_
 refine Lst.r (Ev.move rfl) ?_
 refine Lst.r (Ev.andU64 (i := ((a0 >>> 32) * (a1 &&& (4294967295 : BitVec 64))) + (((a0 &&& (4294967295 : BitVec 64)) * (a1 &&& (4294967295 : BitVec 64))) >>> 32)) (j := (4294967295 : BitVec 64)) rfl rfl) ?_
 refine Lst.r (Ev.assign rfl) ?_
 refine Lst.nil ?_
 refine At.then ?_
 refine Cd.seq ?_
 refine Cd.region ?_
 refine Lst.r (Ev.move rfl) ?_
 refine Lst.r (Ev.shrU64 (i := ((a0 >>> 32) * (a1 &&& (4294967295 : BitVec 64))) + (((a0 &&& (4294967295 : BitVec 64)) * (a1 &&& (4294967295 : BitVec 64))) >>> 32)) (m := 32) rfl rfl) ?_
 refine Lst.r (Ev.assign rfl) ?_
 refine Lst.nil ?_
 refine At.then ?_
 refine Cd.seq ?_
 refine Cd.region ?_
 refine Lst.r (Ev.move rfl) ?_
 refine Lst.r (Ev.move rfl) ?_
 refine Lst.r (Ev.move rfl) ?_
 refine Lst.r (Ev.mulU64 (i := a0 &&& (4294967295 : BitVec 64)) (j := a1 >>> 32) rfl rfl) ?_
 refine Lst.r (Ev.addU64 (i := (((a0 >>> 32) * (a1 &&& (4294967295 : BitVec 64))) + (((a0 &&& (4294967295 : BitVec 64)) * (a1 &&& (4294967295 : BitVec 64))) >>> 32)) &&& (4294967295 : BitVec 64)) (j := (a0 &&& (4294967295 : BitVec 64)) * (a1 >>> 32)) rfl rfl) ?_
 refine Lst.r (Ev.assign rfl) ?_
 refine Lst.nil ?_
 refine At.then ?_
 refine Cd.seq ?_
 refine Cd.region ?_
 refine Lst.r (Ev.move rfl) ?_
 refine Lst.r (Ev.move rfl) ?_
 refine Lst.r (Ev.mulU64 (i := a0 >>> 32) (j := a1 >>> 32) rfl rfl) ?_
 refine Lst.r (Ev.move rfl) ?_
 refine Lst.r (Ev.addU64 (i := (a0 >>> 32) * (a1 >>> 32)) (j := (((a0 >>> 32) * (a1 &&& (4294967295 : BitVec 64))) + (((a0 &&& (4294967295 : BitVec 64)) * (a1 &&& (4294967295 : BitVec 64))) >>> 32)) >>> 32) rfl rfl) ?_
 refine Lst.r (Ev.move rfl) ?_
 refine Lst.r (Ev.shrU64 (i := ((((a0 >>> 32) * (a1 &&& (4294967295 : BitVec 64))) + (((a0 &&& (4294967295 : BitVec 64)) * (a1 &&& (4294967295 : BitVec 64))) >>> 32)) &&& (4294967295 : BitVec 64)) + ((a0 &&& (4294967295 : BitVec 64)) * (a1 >>> 32))) (m := 32) rfl rfl) ?_
 refine Lst.r (Ev.addU64 (i := ((a0 >>> 32) * (a1 >>> 32)) + ((((a0 >>> 32) * (a1 &&& (4294967295 : BitVec 64))) + (((a0 &&& (4294967295 : BitVec 64)) * (a1 &&& (4294967295 : BitVec 64))) >>> 32)) >>> 32)) (j := (((((a0 >>> 32) * (a1 &&& (4294967295 : BitVec 64))) + (((a0 &&& (4294967295 : BitVec 64)) * (a1 &&& (4294967295 : BitVec 64))) >>> 32)) &&& (4294967295 : BitVec 64)) + ((a0 &&& (4294967295 : BitVec 64)) * (a1 >>> 32))) >>> 32) rfl rfl) ?_
 refine Lst.r (Ev.assign rfl) ?_
 refine Lst.nil ?_
 refine At.then ?_
 refine Cd.seq ?_
 refine Cd.as (e' := [(0, .int .u64 a0.toNat), (1, .int .u64 a1.toNat), (4, .int .u64 ((((a0 >>> 32) * (a1 >>> 32)) + ((((a0 >>> 32) * (a1 &&& (4294967295 : BitVec 64))) + (((a0 &&& (4294967295 : BitVec 64)) * (a1 &&& (4294967295 : BitVec 64))) >>> 32)) >>> 32)) + ((((((a0 >>> 32) * (a1 &&& (4294967295 : BitVec 64))) + (((a0 &&& (4294967295 : BitVec 64)) * (a1 &&& (4294967295 : BitVec 64))) >>> 32)) &&& (4294967295 : BitVec 64)) + ((a0 &&& (4294967295 : BitVec 64)) * (a1 >>> 32))) >>> 32)).toNat)]) (L' := L) ⟨rfl, rfl, rfl, trivial⟩ rfl ?_
 refine Cd.region ?_
 refine Lst.r (Ev.move rfl) ?_
 refine Lst.r (Ev.move rfl) ?_
 refine Lst.r (Ev.mulU64 (i := a0) (j := a1) rfl rfl) ?_
 refine Lst.r (Ev.assign rfl) ?_
 refine Lst.nil ?_
 refine At.then ?_
 obtain rfl := some_inj H
 refine Cd.ret ?_
 exact At.ret2 rfl (Res.tmp rfl) (Res.tmp rfl) (FLe.refl _) (.refl _) ⟨rfl, rfl⟩
set_option maxRecDepth 20000 in
theorem math_bits_Mul_sim {a0 : BitVec 64} {a1 : BitVec 64} {r : (BitVec 64) × (BitVec 64)} (H : math_bits_Mul a0 a1 = some r) (w0 : World) (F : Frz) (M L : List Item) (hM : M.Sublist L) : Ok Try.prog w0 80 [.int .u64 a0.toNat, .int .u64 a1.toNat] F (L) (Is (.tuple #[.int .u64 r.1.toNat, .int .u64 r.2.toNat]) (L)) := by
 unfold math_bits_Mul at H
 refine Ok.enter (m := 2) (n := 30) Try.func80 rfl rfl rfl (by decide) ?_
 refine Cd.env (e' := [(0, .int .u64 a0.toNat), (1, .int .u64 a1.toNat)]) rfl ?_
 refine Cd.seq ?_
 refine Cd.region ?_
 refine Lst.r (Ev.assign rfl) ?_
 refine Lst.r (Ev.assign rfl) ?_
 refine Lst.nil ?_
 refine At.then ?_
 refine Cd.seq ?_
 refine Cd.condF rfl rfl ?_
 refine Cd.skip ?_
 refine At.then ?_
 refine Cd.seq ?_
 refine Cd.region ?_
 refine Lst.r (Ev.move rfl) ?_
 refine Lst.r (Ev.move rfl) ?_
 obtain ⟨r1, h2, H⟩ := bind_some H
 refine Lst.call1 rfl rfl (by decide) (vs := [.int .u64 a0.toNat, .int .u64 a1.toNat]) ⟨rfl, rfl, trivial⟩ Try.call86 (math_bits_Mul64_sim h2 w0 _ M _ hM) ?_
 refine Lst.r (Ev.move rfl) ?_
 refine Lst.r (Ev.extract rfl rfl) ?_
 refine Lst.r (Ev.extract rfl rfl) ?_
 refine Lst.r (Ev.assign rfl) ?_
 refine Lst.r (Ev.assign rfl) ?_
 refine Lst.nil ?_
 refine At.then ?_
 refine Cd.seq ?_
 refine Cd.region ?_
 refine Lst.r (Ev.move rfl) ?_
 refine Lst.r (Ev.move rfl) ?_
 refine Lst.r (Ev.assign rfl) ?_
 refine Lst.r (Ev.assign rfl) ?_
 refine Lst.nil ?_
 refine At.then ?_
 obtain rfl := some_inj H
 refine Cd.ret ?_
 exact At.ret2 rfl (Res.tmp rfl) (Res.tmp rfl) (FLe.refl _) (.refl _) ⟨rfl, rfl⟩
set_option maxRecDepth 20000 in
theorem slices_Repeat_int_int_sim {fu : Nat} {a0 : List Int} {a1 : Int} {s_a0 : Sl} {r : (List Int)} (H : slices_Repeat_int_int fu a0 a1 = some r) (w0 : World) (F : Frz) (M L : List Item) (hM : M.Sublist L) (hs_a0 : Rd w0 F M s_a0 a0) : Ok Try.prog w0 67 [Sl.v s_a0, iv a1] F (L) (fun _ L' v => ∃ (s1 : Sl), v = Sl.v s1 ∧ L' = (.own s1 3 1 (encs r)) :: L) := by
 unfold slices_Repeat_int_int at H
 refine Ok.enter (m := 2) (n := 48) Try.func67 rfl rfl rfl (by decide) ?_
 refine Cd.env (e' := [(0, Sl.v s_a0), (1, iv a1)]) rfl ?_
 refine Cd.seq ?_
 refine Cd.region ?_
 refine Lst.addNil 3 1 ?_
 refine Lst.r (Ev.assign rfl) ?_
 refine Lst.nil ?_
 refine At.then ?_
 refine Cd.seq ?_
 refine Cd.seq ?_
 refine Cd.region ?_
 refine Lst.r (Ev.move rfl) ?_
 refine Lst.r (Ev.lss rfl rfl) ?_
 refine Lst.nil ?_
 refine At.then ?_
 rcases Bool.eq_false_or_eq_true (decide (a1 < (0 : Int))) with hb2 | hb2
 ·replace H := ite_t hb2 H
  cases H
 replace H := ite_f hb2 H
 refine Cd.condF rfl hb2 ?_
 refine Cd.skip ?_
 refine At.then ?_
 refine Cd.seq ?_
 refine Cd.region ?_
 refine Lst.r (Ev.move rfl) ?_
 refine Lst.r (Ev.lenS (α := Int) (xs := a0) (by decide) rfl rfl Try.runUnderlying34 (hs_a0.mono (FLe.refl _) (sc1 hM))) ?_
 refine Lst.r (Ev.convTo64 rfl Try.runUnderlying3 Try.runUnderlying84) ?_
 refine Lst.r (Ev.move rfl) ?_
 refine Lst.r (Ev.convTo64 rfl Try.runUnderlying3 Try.runUnderlying84) ?_
 obtain ⟨r3, h4, H⟩ := bind_some H
 refine Lst.call1 rfl rfl (by decide) (vs := [.int .u64 (BitVec.ofInt 64 (a0.length : Int)).toNat, .int .u64 (BitVec.ofInt 64 a1).toNat]) ⟨rfl, rfl, trivial⟩ Try.call80 (math_bits_Mul_sim h4 w0 _ M _ (sc1 hM)) ?_
 refine Lst.r (Ev.move rfl) ?_
 refine Lst.r (Ev.extract rfl rfl) ?_
 refine Lst.r (Ev.extract rfl rfl) ?_
 refine Lst.r (Ev.assign rfl) ?_
 refine Lst.r (Ev.assign rfl) ?_
 refine Lst.nil ?_
 refine At.then ?_
 refine Cd.seq ?_
 refine Cd.seq ?_
 refine Cd.region ?_
 refine Lst.r (Ev.move rfl) ?_
 refine Lst.r (Ev.gtr rfl rfl) ?_
 refine Lst.r (Ev.move rfl) ?_
 obtain ⟨o7, H, HKo7⟩ := bind_some H
 refine Lst.join (σ := Bool) 3 (fun y8 => [(0, Sl.v s_a0), (6, .int .u64 r3.2.toNat), (26, .bool y8)]) (fun y8 => (.own Sl.nil 3 1 (encs ([] : List Int))) :: L) (fun _ y8 => y8 = o7) ?_ ?_
 ·rcases Bool.eq_false_or_eq_true (decide ((r3.1.toNat : Int) > ((0 : BitVec 64).toNat : Int))) with hb9 | hb9
  ·replace H := ite_t hb9 H
   refine Lst.skip rfl rfl rfl hb9 rfl (by decide) ?_
   refine Lst.skip rfl rfl rfl hb9 rfl (by decide) ?_
   refine Lst.r (Ev.pickT rfl hb9 rfl) ?_
   refine Lst.nil ?_
   exact At.meet true (FLe.refl _) ⟨rfl, rfl, rfl, trivial⟩ rfl (some_inj H)
  replace H := ite_f hb9 H
  refine Lst.rG hb9 (Ev.move rfl) ?_
  refine Lst.rG hb9 (Ev.gtr rfl rfl) ?_
  refine Lst.r (Ev.pickF rfl hb9 rfl) ?_
  refine Lst.nil ?_
  exact At.meet (decide ((r3.2.toNat : Int) > ((9223372036854775807 : BitVec 64).toNat : Int))) (FLe.refl _) ⟨rfl, rfl, rfl, trivial⟩ rfl (some_inj H)
 rintro F10 y8 hF11 hy
 subst hy
 refine Lst.as (e' := [(0, Sl.v s_a0), (6, .int .u64 r3.2.toNat), (26, .bool y8)]) (L' := (.own Sl.nil 3 1 (encs ([] : List Int))) :: L) ⟨rfl, rfl, rfl, trivial⟩ rfl ?_
 replace H := HKo7
 refine Lst.nil ?_
 refine At.then ?_
 rcases Bool.eq_false_or_eq_true y8 with hb12 | hb12
 ·replace H := ite_t hb12 H
  cases H
 replace H := ite_f hb12 H
 refine Cd.condF rfl hb12 ?_
 refine Cd.skip ?_
 refine At.then ?_
 refine Cd.seq ?_
 refine Cd.region ?_
 refine Lst.r (Ev.move rfl) ?_
 refine Lst.r (Ev.conv64 rfl Try.runUnderlying84 Try.runUnderlying3) ?_
 obtain ⟨n13, h14, H⟩ := bind_some H
 have g15 := mkLen_some h14
 refine Lst.make (α := Int) (z0 := (0 : Int)) (k := n13) rfl rfl (by decide) (congrArg some (congrArg (Value.int .i64) g15.1)) (congrArg some (congrArg (Value.int .i64) g15.1)) Try.runUnderlying34 Try.typeInfo3 rfl rfl rfl rfl rfl g15.2 rfl (fun s16 => ?_)
 refine Lst.r (Ev.assign rfl) ?_
 refine Lst.nil ?_
 refine At.then ?_
 refine Cd.seq ?_
 refine Cd.region ?_
 refine Lst.r (Ev.move rfl) ?_
 refine Lst.r (Ev.move rfl) ?_
 obtain ⟨p18, h19, H⟩ := Let_some H
 refine Lst.copyAll (i := 0) (α := Int) (xs := (List.replicate n13 (0 : Int))) (ys := a0) rfl rfl (by decide) rfl rfl Try.runUnderlying34 Try.sizeOf3 rfl (by decide) rfl rfl (hs_a0.mono hF11 (sc2 hM)) ?_
 refine Lst.its (L' := (.own s16 3 1 (encs p18)) :: (.own Sl.nil 3 1 (encs ([] : List Int))) :: L) (by rw [← h19]; rfl) ?_
 refine Lst.r (Ev.assign rfl) ?_
 refine Lst.nil ?_
 refine At.then ?_
 refine Cd.seq ?_
 refine Cd.block ?_
 obtain ⟨ol20, H, HKl20⟩ := andThen_some H
 refine Cd.loop (σ := Nat × Int × (List Int)) (fun (k20, y21, l22) => [(7, Sl.v s16), (8, iv y21)]) (fun (k20, y21, l22) => (.own s16 3 1 (encs l22)) :: (.own Sl.nil 3 1 (encs ([] : List Int))) :: L) (fun _ => (fun (k20, y21, l22) => whileM (slices_Repeat_int_int_B0) k20 (y21, l22) = some ol20)) (fun (k20, y21, l22) => k20) (fu, copyN 0 ((List.replicate n13 (0 : Int)).length) a0, p18) ⟨rfl, rfl, trivial⟩ rfl H ?_
 rintro F23 ⟨k20, y21, l22⟩ hF24 H
 refine Cd.as (e' := [(7, Sl.v s16), (8, iv y21)]) (L' := (.own s16 3 1 (encs l22)) :: (.own Sl.nil 3 1 (encs ([] : List Int))) :: L) ⟨rfl, rfl, trivial⟩ rfl ?_
 rcases k20 with _ | k20
 ·cases H
 obtain ⟨c20, H, hgo20, hbrk20, hret20⟩ := whileM_go H
 unfold slices_Repeat_int_int_B0 at H
 try dsimp only at H
 refine Cd.seq ?_
 refine Cd.seq ?_
 refine Cd.region ?_
 refine Lst.r (Ev.move rfl) ?_
 refine Lst.r (Ev.move rfl) ?_
 refine Lst.r (Ev.lenS (α := Int) (xs := l22) (by decide) rfl rfl Try.runUnderlying34 (Rd.own (i := 0) rfl rfl rfl)) ?_
 refine Lst.r (Ev.lss rfl rfl) ?_
 refine Lst.nil ?_
 refine At.then ?_
 rcases (Bool.eq_false_or_eq_true (decide (y21 < (l22.length : Int)))).symm with hb25 | hb25
 ·replace H := ite_f hb25 H
  refine Cd.condF rfl hb25 ?_
  refine Cd.exit ?_
  refine At.then_exit ?_
  refine At.then_exit ?_
  refine At.in_exit ?_
  have H := hbrk20 _ (some_inj H).symm
  subst H
  replace H := HKl20
  refine At.then ?_
  refine Cd.seq ?_
  refine Cd.region ?_
  refine Lst.r (Ev.move rfl) ?_
  refine Lst.r (Ev.assign rfl) ?_
  refine Lst.nil ?_
  refine At.then ?_
  obtain rfl := some_inj H
  refine Cd.ret ?_
  exact At.ret1 rfl (Res.tmp rfl) (FLe.trans hF11 hF24) (sk1 (sc1 (.refl _))) ⟨s16, rfl, rfl⟩
 replace H := ite_t hb25 H
 refine Cd.condT rfl hb25 ?_
 refine Cd.skip ?_
 refine At.then ?_
 refine Cd.block ?_
 obtain ⟨m26, h27, H⟩ := bind_some H
 obtain ⟨m30, h31, H⟩ := bind_some H
 obtain ⟨p34, h35, H⟩ := Let_some H
 obtain ⟨o38, h39, H⟩ := Let_some H
 refine Cd.headMeet (σ := (List Int)) 8 (fun l37 => [(7, Sl.v s16), (8, iv y21), (38, iv y21), (45, iv (copyN ((y21 : Int).toNat) (((l22.length : Int) : Int).toNat) m30))]) (fun l37 => (.own s16 3 1 (encs l37)) :: (.own Sl.nil 3 1 (encs ([] : List Int))) :: L) (fun _ l37 => l37 = o38) (by kernel_rfl) (by kernel_rfl) (behind_sink (by kernel_rfl) (by kernel_rfl) (by kernel_rfl)) (by kernel_rfl) (fun hsel hlt => ?_) ?_
 ·refine HdJ.keep (fun w => St w0 F23 ((.own Sl.nil 3 1 (encs ([] : List Int))) :: L) w) (fun w h => trivial) ?_
  refine HdJ.tk hsel hlt 0 (fun w h => h.sublist (sc1 (sk1 (.refl _)))) rfl (Ev.move rfl) ?_
  refine HdJ.tk hsel hlt 1 (fun w h => h.sublist (sc1 (sk1 (.refl _)))) rfl (Ev.move rfl) ?_
  refine HdJ.tk hsel hlt 2 (fun w h => h.sublist (sc1 (sk1 (.refl _)))) rfl (Ev.move rfl) ?_
  refine HdJ.tk hsel hlt 4 (fun w h => h.sublist (sc1 (sk1 (.refl _)))) rfl (Ev.move rfl) ?_
  refine HdJ.tk hsel hlt 5 (fun w h => h.sublist (sc1 (sk1 (.refl _)))) rfl (Ev.move rfl) ?_
  refine HdJ.step [3, 6] (by kernel_rfl) rfl ?_
  refine HdStep.c (fun inv => ?_) ?_
  ·obtain ⟨g40, gl41⟩ := cutL_some h27
   try dsimp only at g40
   refine Lst.r (Ev.cut (α := Int) (xs := l22) (i := y21) (j := (l22.length : Int)) rfl rfl rfl Try.runUnderlying34 Try.sizeOf3 rfl (by decide) (Rd.own (i := 0) rfl rfl rfl) g40.1 g40.2.1 g40.2.2) ?_
   refine Lst.nil ?_
   refine At.hd inv (fun w h => (h.weaken (FLe.refl _)).sublist (sc1 (sk1 (.refl _)))) ?_
   refine HdJ.step [6] (by kernel_rfl) rfl ?_
   refine HdStep.c (fun inv => ?_) ?_
   ·obtain ⟨g42, gl43⟩ := cutL_some h31
    try dsimp only at g42
    refine Lst.r (Ev.cut (α := Int) (xs := l22) (i := 0) (j := y21) rfl rfl rfl Try.runUnderlying34 Try.sizeOf3 rfl (by decide) (Rd.own (i := 0) rfl rfl rfl) g42.1 g42.2.1 g42.2.2) ?_
    refine Lst.nil ?_
    refine At.hd inv (fun w h => (h.weaken (FLe.refl _)).sublist (sc1 (sk1 (.refl _)))) ?_
    refine HdJ.step [7] (by kernel_rfl) rfl ?_
    refine HdStep.c (fun inv => ?_) ?_
    ·refine Lst.copy (i := 0) (α := Int) (lo := ((y21 : Int).toNat)) (hi := (((l22.length : Int) : Int).toNat)) (xs := l22) (ys := m30) rfl rfl (by decide) rfl rfl Try.runUnderlying34 Try.sizeOf3 rfl (by decide) rfl rfl (by rw [← gl43]; exact Rd.cut (by decide) (Rd.own (i := 0) rfl rfl rfl) (by omega) (by omega)) (by omega) (by omega) ?_
     refine Lst.its (L' := (.own s16 3 1 (encs p34)) :: (.own Sl.nil 3 1 (encs ([] : List Int))) :: L) (by rw [← h35]; rfl) ?_
     refine Lst.nil ?_
     refine At.hd inv (fun w h => (h.weaken (FLe.refl _)).sublist (sc1 (sk1 (.refl _)))) ?_
     refine HdJ.done (by kernel_rfl) ?_
     exact At.meetN p34 (FLe.refl _) ⟨rfl, rfl, rfl, rfl, trivial⟩ rfl h39
    exact trivial
   exact trivial
  refine HdStep.c (fun inv => ?_) ?_
  ·obtain ⟨g44, gl45⟩ := cutL_some h31
   try dsimp only at g44
   refine Lst.r (Ev.cut (α := Int) (xs := l22) (i := 0) (j := y21) rfl rfl rfl Try.runUnderlying34 Try.sizeOf3 rfl (by decide) (Rd.own (i := 0) rfl rfl rfl) g44.1 g44.2.1 g44.2.2) ?_
   refine Lst.nil ?_
   refine At.hd inv (fun w h => (h.weaken (FLe.refl _)).sublist (sc1 (sk1 (.refl _)))) ?_
   refine HdJ.step [3] (by kernel_rfl) rfl ?_
   refine HdStep.c (fun inv => ?_) ?_
   ·obtain ⟨g46, gl47⟩ := cutL_some h27
    try dsimp only at g46
    refine Lst.r (Ev.cut (α := Int) (xs := l22) (i := y21) (j := (l22.length : Int)) rfl rfl rfl Try.runUnderlying34 Try.sizeOf3 rfl (by decide) (Rd.own (i := 0) rfl rfl rfl) g46.1 g46.2.1 g46.2.2) ?_
    refine Lst.nil ?_
    refine At.hd inv (fun w h => (h.weaken (FLe.refl _)).sublist (sc1 (sk1 (.refl _)))) ?_
    refine HdJ.step [7] (by kernel_rfl) rfl ?_
    refine HdStep.c (fun inv => ?_) ?_
    ·refine Lst.copy (i := 0) (α := Int) (lo := ((y21 : Int).toNat)) (hi := (((l22.length : Int) : Int).toNat)) (xs := l22) (ys := m30) rfl rfl (by decide) rfl rfl Try.runUnderlying34 Try.sizeOf3 rfl (by decide) rfl rfl (by rw [← gl45]; exact Rd.cut (by decide) (Rd.own (i := 0) rfl rfl rfl) (by omega) (by omega)) (by omega) (by omega) ?_
     refine Lst.its (L' := (.own s16 3 1 (encs p34)) :: (.own Sl.nil 3 1 (encs ([] : List Int))) :: L) (by rw [← h35]; rfl) ?_
     refine Lst.nil ?_
     refine At.hd inv (fun w h => (h.weaken (FLe.refl _)).sublist (sc1 (sk1 (.refl _)))) ?_
     refine HdJ.done (by kernel_rfl) ?_
     exact At.meetN p34 (FLe.refl _) ⟨rfl, rfl, rfl, rfl, trivial⟩ rfl h39
    exact trivial
   exact trivial
  exact trivial
 rintro F48 l37 hF49 hy
 subst hy
 refine Lst.as (e' := [(7, Sl.v s16), (8, iv y21), (38, iv y21), (45, iv (copyN ((y21 : Int).toNat) (((l22.length : Int) : Int).toNat) m30))]) (L' := (.own s16 3 1 (encs l37)) :: (.own Sl.nil 3 1 (encs ([] : List Int))) :: L) ⟨rfl, rfl, rfl, rfl, trivial⟩ rfl ?_
 refine Lst.r (Ev.add rfl rfl) ?_
 refine Lst.r (Ev.assign rfl) ?_
 refine Lst.nil ?_
 refine At.in_normal ?_
 exact At.meet (k20, w64 (y21 + (copyN ((y21 : Int).toNat) (((l22.length : Int) : Int).toNat) m30)), l37) (FLe.trans hF24 hF49) ⟨rfl, rfl, trivial⟩ rfl ⟨hgo20 _ (some_inj H).symm, Nat.lt_succ_self _⟩
set_option maxRecDepth 20000 in
theorem match_graph_search_simR : ∀ (fu : Nat) {a0 : Graph} {a1 : Int} {b_a0 : Nat} {s_a0_0 : Sl} {rs_a0_0 : List (LR Bool)} {s_a0_1 : Sl} {s_a0_2 : Sl} {r : (List Int) × (List Bool) × Graph × Bool} (H : match_graph_search fu a0 a1 = some r) (w0 : World) (F : Frz) (M L : List Item) (hM : M.Sublist L) (hm_a0_0 : rs_a0_0.map LR.v = a0.may) (hs_a0_0 : Rd w0 F M s_a0_0 rs_a0_0) (ha_a0_0 : All LR.rel w0 F M rs_a0_0), Ok Try.prog w0 77 [pv b_a0 0, iv a1] F ((.own s_a0_1 3 1 (encs a0.left)) :: (.own s_a0_2 4 1 (encs a0.seen)) :: (.blk b_a0 (enc (GraphR.mk a0 s_a0_0 s_a0_1 s_a0_2)) 101) :: L) (fun _ L' v => v = .bool r.2.2.2 ∧ L' = (.own s_a0_1 3 1 (encs r.1)) :: (.own s_a0_2 4 1 (encs r.2.1)) :: (.blk b_a0 (enc (GraphR.mk ({ r.2.2.1 with may := a0.may, left := r.1, seen := r.2.1 } : Graph) s_a0_0 s_a0_1 s_a0_2)) 101) :: L) := by
 intro fu
 induction fu with
 | zero => intro a0 a1 b_a0 s_a0_0 rs_a0_0 s_a0_1 s_a0_2 r H; exact nomatch (show (none : Option ((List Int) × (List Bool) × Graph × Bool)) = some _ from H)
 | succ fu ih =>
  intro a0 a1 b_a0 s_a0_0 rs_a0_0 s_a0_1 s_a0_2 r H w0 F M L hM hm_a0_0 hs_a0_0 ha_a0_0
  replace H : match_graph_search_R (match_graph_search fu) a0 a1 = some r := H
  generalize match_graph_search fu = rc at H ih
  unfold match_graph_search_R at H
  refine Ok.enter (m := 2) (n := 64) Try.func77 rfl rfl rfl (by decide) ?_
  refine Cd.env (e' := [(0, pv b_a0 0), (1, iv a1)]) rfl ?_
  refine Cd.seq ?_
  refine Cd.region ?_
  refine Lst.r (Ev.assign rfl) ?_
  refine Lst.nil ?_
  refine At.then ?_
  refine Cd.seq ?_
  refine Cd.seq ?_
  refine Cd.region ?_
  refine Lst.r (Ev.move rfl) ?_
  refine Lst.r (Ev.nilCheck rfl) ?_
  refine Lst.r (Ev.fieldAddr (off' := 0) rfl Try.runUnderlying101 rfl Try.sizeOf73 rfl rfl) ?_
  refine Lst.r (Ev.load (i := 2) rfl rfl Try.isAgg73 (v := Sl.v s_a0_0) ((GraphR.get_may (Get.here _)).off (by rfl))) ?_
  refine Lst.r (Ev.move rfl) ?_
  obtain ⟨x4, h5, H⟩ := bind_some H
  have g6 := lat_some h5
  obtain ⟨⟨r7v, r7h⟩, r7g, r7e, r7m⟩ := map_get hm_a0_0 g6.2.2
  obtain rfl : x4 = r7v := r7e.symm
  have r7q : Rd w0 _ _ r7h x4 := ha_a0_0 _ r7m
  refine Lst.r (Ev.indexS (α := LR Bool) (xs := rs_a0_0) rfl rfl Try.runUnderlying73 Try.sizeOf75 rfl (by decide) (hs_a0_0.mono (FLe.refl _) (sc2 (sc1 hM))) g6.1 (by have := map_len hm_a0_0; omega)) ?_
  refine Lst.r (Ev.loadS (α := LR Bool) rfl (hs_a0_0.mono (FLe.refl _) (sc2 (sc1 hM))) Try.isAgg75 (v := Sl.v r7h) ((Get.elemN (s := 1) rfl r7g (Get.here _)).off (by omega))) ?_
  refine Lst.r (Ev.lenS (α := Bool) (xs := x4) (by decide) rfl rfl Try.runUnderlying75 (r7q.mono (FLe.refl _) (sc2 (sc1 hM)))) ?_
  refine Lst.r (Ev.move rfl) ?_
  refine Lst.nil ?_
  refine At.then ?_
  refine Cd.block ?_
  refine Cd.bound (Rd.le (α := Bool) (xs := x4) (by decide) (r7q.mono (FLe.refl _) (sc2 (sc1 hM)))) (fun hN53 => ?_)
  obtain ⟨ol8, H, HKl8⟩ := andThen_some H
  refine Cd.loop (σ := Nat × Nat × Graph × (List Int) × (List Bool)) (fun (i8, k8, y9, l10, l11) => [(0, pv b_a0 0), (1, iv a1), (13, Sl.v r7h), (14, iv (x4.length : Int)), (15, iv (i8 : Int))]) (fun (i8, k8, y9, l10, l11) => (.own s_a0_1 3 1 (encs l10)) :: (.own s_a0_2 4 1 (encs l11)) :: (.blk b_a0 (enc (GraphR.mk ({ y9 with may := a0.may, left := l10, seen := l11 } : Graph) s_a0_0 s_a0_1 s_a0_2)) 101) :: L) (fun _ => (fun (i8, k8, y9, l10, l11) => rangeM (match_graph_search_B0 a0 a1 x4 rc) k8 i8 (y9, l10, l11) = some ol8 ∧ i8 + k8 = x4.length)) (fun (i8, k8, y9, l10, l11) => k8) (0, x4.length, a0, a0.left, a0.seen) ⟨rfl, rfl, rfl, rfl, rfl, trivial⟩ rfl ⟨H, by omega⟩ ?_
  rintro F12 ⟨i8, k8, y9, l10, l11⟩ hF13 ⟨H, hik8⟩
  refine Cd.as (e' := [(0, pv b_a0 0), (1, iv a1), (13, Sl.v r7h), (14, iv (x4.length : Int)), (15, iv (i8 : Int))]) (L' := (.own s_a0_1 3 1 (encs l10)) :: (.own s_a0_2 4 1 (encs l11)) :: (.blk b_a0 (enc (GraphR.mk ({ y9 with may := a0.may, left := l10, seen := l11 } : Graph) s_a0_0 s_a0_1 s_a0_2)) 101) :: L) ⟨rfl, rfl, rfl, rfl, rfl, trivial⟩ rfl ?_
  rcases k8 with _ | k8
  ·have hc8 : decide ((i8 : Int) < (x4.length : Int)) = false := decide_eq_false (by omega)
   replace H := rangeM_end H
   refine Cd.seq ?_
   refine Cd.region ?_
   refine Lst.r (Ev.lss rfl rfl) ?_
   refine Lst.nil ?_
   refine At.then ?_
   refine Cd.seq ?_
   refine Cd.condF rfl hc8 ?_
   refine Cd.exit ?_
   refine At.then_exit ?_
   refine At.then_exit ?_
   refine At.in_exit ?_
   subst H
   replace H := HKl8
   refine At.then ?_
   refine Cd.seq ?_
   refine Cd.region ?_
   refine Lst.r (Ev.assign rfl) ?_
   refine Lst.nil ?_
   refine At.then ?_
   obtain rfl := some_inj H
   refine Cd.ret ?_
   exact At.ret1 rfl (Res.tmp rfl) hF13 (sk1 (sk1 (sk1 (.refl _)))) ⟨rfl, rfl⟩
  have hc8 : decide ((i8 : Int) < (x4.length : Int)) = true := decide_eq_true (by omega)
  obtain ⟨c8, H, hgo8, hbrk8, hret8⟩ := rangeM_go H
  unfold match_graph_search_B0 at H
  try dsimp only at H
  refine Cd.seq ?_
  refine Cd.region ?_
  refine Lst.r (Ev.lss rfl rfl) ?_
  refine Lst.nil ?_
  refine At.then ?_
  refine Cd.seq ?_
  refine Cd.condT rfl hc8 ?_
  refine Cd.skip ?_
  refine At.then ?_
  refine Cd.seq ?_
  refine Cd.block ?_
  refine Cd.seq ?_
  refine Cd.region ?_
  refine Lst.r (Ev.move rfl) ?_
  obtain ⟨x14, h15, H⟩ := bind_some H
  have g16 := lat_some h15
  refine Lst.r (Ev.indexS (α := Bool) (xs := x4) rfl rfl Try.runUnderlying75 Try.sizeOf4 rfl (by decide) (r7q.mono hF13 (sc2 (sc1 hM))) g16.1 g16.2.1) ?_
  refine Lst.r (Ev.loadS (α := Bool) rfl (r7q.mono hF13 (sc2 (sc1 hM))) Try.isAgg4 (v := .bool x14) ((Get.elemN (s := 1) (x := x14) rfl g16.2.2 (Get.here _)).off (by omega))) ?_
  refine Lst.r (Ev.assign rfl) ?_
  refine Lst.r (Ev.assign rfl) ?_
  refine Lst.nil ?_
  refine At.then ?_
  refine Cd.seq ?_
  refine Cd.seq ?_
  refine Cd.region ?_
  refine Lst.r (Ev.move rfl) ?_
  refine Lst.r (Ev.not rfl) ?_
  refine Lst.r (Ev.move rfl) ?_
  obtain ⟨o17, H, HKo17⟩ := bind_some H
  refine Lst.join (σ := Bool) 8 (fun y18 => [(0, pv b_a0 0), (1, iv a1), (5, iv (i8 : Int)), (13, Sl.v r7h), (14, iv (x4.length : Int)), (15, iv (i8 : Int)), (30, .bool y18)]) (fun y18 => (.own s_a0_1 3 1 (encs l10)) :: (.own s_a0_2 4 1 (encs l11)) :: (.blk b_a0 (enc (GraphR.mk ({ y9 with may := a0.may, left := l10, seen := l11 } : Graph) s_a0_0 s_a0_1 s_a0_2)) 101) :: L) (fun _ y18 => y18 = o17) ?_ ?_
  ·rcases Bool.eq_false_or_eq_true (!x14) with hb19 | hb19
   ·replace H := ite_t hb19 H
    refine Lst.skip rfl rfl rfl hb19 rfl (by decide) ?_
    refine Lst.skip rfl rfl rfl hb19 rfl (by decide) ?_
    refine Lst.skip rfl rfl rfl hb19 rfl (by decide) ?_
    refine Lst.skip rfl rfl rfl hb19 rfl (by decide) ?_
    refine Lst.skip rfl rfl rfl hb19 rfl (by decide) ?_
    refine Lst.skip rfl rfl rfl hb19 rfl (by decide) ?_
    refine Lst.skip rfl rfl rfl hb19 rfl (by decide) ?_
    refine Lst.r (Ev.pickT rfl hb19 rfl) ?_
    refine Lst.nil ?_
    exact At.meet true (FLe.refl _) ⟨rfl, rfl, rfl, rfl, rfl, rfl, rfl, trivial⟩ rfl (some_inj H)
   replace H := ite_f hb19 H
   refine Lst.rG hb19 (Ev.move rfl) ?_
   refine Lst.rG hb19 (Ev.nilCheck rfl) ?_
   refine Lst.rG hb19 (Ev.fieldAddr (off' := 2) rfl Try.runUnderlying101 rfl Try.sizeOf75 rfl rfl) ?_
   refine Lst.rG hb19 (Ev.load (i := 2) rfl rfl Try.isAgg75 (v := Sl.v s_a0_2) ((GraphR.get_seen (Get.here _)).off (by rfl))) ?_
   refine Lst.rG hb19 (Ev.move rfl) ?_
   obtain ⟨x20, h21, H⟩ := bind_some H
   have g22 := lat_some h21
   refine Lst.rG hb19 (Ev.indexS (α := Bool) (xs := l11) rfl rfl Try.runUnderlying75 Try.sizeOf4 rfl (by decide) (Rd.own (i := 1) rfl rfl rfl) g22.1 g22.2.1) ?_
   refine Lst.rG hb19 (Ev.loadS (α := Bool) rfl (Rd.own (i := 1) rfl rfl rfl) Try.isAgg4 (v := .bool x20) ((Get.elemN (s := 1) (x := x20) rfl g22.2.2 (Get.here _)).off (by omega))) ?_
   refine Lst.r (Ev.pickF rfl hb19 rfl) ?_
   refine Lst.nil ?_
   exact At.meet x20 (FLe.refl _) ⟨rfl, rfl, rfl, rfl, rfl, rfl, rfl, trivial⟩ rfl (some_inj H)
  rintro F23 y18 hF24 hy
  subst hy
  refine Lst.as (e' := [(0, pv b_a0 0), (1, iv a1), (5, iv (i8 : Int)), (13, Sl.v r7h), (14, iv (x4.length : Int)), (15, iv (i8 : Int)), (30, .bool y18)]) (L' := (.own s_a0_1 3 1 (encs l10)) :: (.own s_a0_2 4 1 (encs l11)) :: (.blk b_a0 (enc (GraphR.mk ({ y9 with may := a0.may, left := l10, seen := l11 } : Graph) s_a0_0 s_a0_1 s_a0_2)) 101) :: L) ⟨rfl, rfl, rfl, rfl, rfl, rfl, rfl, trivial⟩ rfl ?_
  replace H := HKo17
  refine Lst.nil ?_
  refine At.then ?_
  rcases Bool.eq_false_or_eq_true y18 with hb25 | hb25
  ·replace H := ite_t hb25 H
   refine Cd.condT rfl hb25 ?_
   refine Cd.exit ?_
   refine At.then_exit ?_
   refine At.in_exit ?_
   refine At.then ?_
   refine Cd.region ?_
   refine Lst.r (Ev.incr (by omega) rfl rfl) ?_
   refine Lst.r (Ev.move rfl) ?_
   refine Lst.nil ?_
   exact At.meet (i8 + 1, k8, ({ y9 with may := a0.may, left := l10, seen := l11 } : Graph), l10, l11) (FLe.trans hF13 hF24) ⟨rfl, rfl, rfl, rfl, rfl, trivial⟩ rfl ⟨⟨hgo8 _ (some_inj H).symm, by omega⟩, Nat.lt_succ_self _⟩
  replace H := ite_f hb25 H
  refine Cd.condF rfl hb25 ?_
  refine Cd.skip ?_
  refine At.then ?_
  refine Cd.seq ?_
  refine Cd.region ?_
  refine Lst.r (Ev.move rfl) ?_
  refine Lst.r (Ev.nilCheck rfl) ?_
  refine Lst.r (Ev.fieldAddr (off' := 2) rfl Try.runUnderlying101 rfl Try.sizeOf75 rfl rfl) ?_
  refine Lst.r (Ev.load (i := 2) rfl rfl Try.isAgg75 (v := Sl.v s_a0_2) ((GraphR.get_seen (Get.here _)).off (by rfl))) ?_
  refine Lst.r (Ev.move rfl) ?_
  obtain ⟨x26, h27, H⟩ := bind_some H
  have g28 := lat_some h27
  refine Lst.r (Ev.indexS (α := Bool) (xs := l11) rfl rfl Try.runUnderlying75 Try.sizeOf4 rfl (by decide) (Rd.own (i := 1) rfl rfl rfl) g28.1 g28.2.1) ?_
  obtain ⟨p29, h30, H⟩ := Let_some H
  refine Lst.storeS (i := 1) rfl rfl rfl rfl rfl Try.sizeOf4 (vs := [.bool true]) rfl rfl (by decide) rfl (xs' := encs p29) (by rw [← h30]; exact (Put.elemN (s := 1) (x := x26) rfl g28.2.2 (Put.here (vs := [.bool true]) rfl)).off (by omega)) (L' := (.own s_a0_1 3 1 (encs l10)) :: (.own s_a0_2 4 1 (encs p29)) :: (.blk b_a0 (enc (GraphR.mk ({ y9 with may := a0.may, left := l10, seen := p29 } : Graph) s_a0_0 s_a0_1 s_a0_2)) 101) :: L) rfl ?_
  refine Lst.nil ?_
  refine At.then ?_
  refine Cd.seq ?_
  refine Cd.region ?_
  refine Lst.r (Ev.move rfl) ?_
  refine Lst.r (Ev.nilCheck rfl) ?_
  refine Lst.r (Ev.fieldAddr (off' := 1) rfl Try.runUnderlying101 rfl Try.sizeOf34 rfl rfl) ?_
  refine Lst.r (Ev.load (i := 2) rfl rfl Try.isAgg34 (v := Sl.v s_a0_1) ((GraphR.get_left (Get.here _)).off (by rfl))) ?_
  refine Lst.r (Ev.move rfl) ?_
  obtain ⟨x31, h32, H⟩ := bind_some H
  have g33 := lat_some h32
  refine Lst.r (Ev.indexS (α := Int) (xs := l10) rfl rfl Try.runUnderlying34 Try.sizeOf3 rfl (by decide) (Rd.own (i := 0) rfl rfl rfl) g33.1 g33.2.1) ?_
  refine Lst.r (Ev.loadS (α := Int) rfl (Rd.own (i := 0) rfl rfl rfl) Try.isAgg3 (v := iv x31) ((Get.elemN (s := 1) (x := x31) rfl g33.2.2 (Get.here _)).off (by omega))) ?_
  refine Lst.r (Ev.lss rfl rfl) ?_
  refine Lst.r (Ev.move rfl) ?_
  rcases Bool.eq_false_or_eq_true (decide (x31 < (0 : Int))) with hb34 | hb34
  ·replace H := ite_t hb34 H
   refine Lst.skip rfl rfl rfl hb34 rfl (by decide) ?_
   refine Lst.skip rfl rfl rfl hb34 rfl (by decide) ?_
   refine Lst.skip rfl rfl rfl hb34 rfl (by decide) ?_
   refine Lst.skip rfl rfl rfl hb34 rfl (by decide) ?_
   refine Lst.skip rfl rfl rfl hb34 rfl (by decide) ?_
   refine Lst.skip rfl rfl rfl hb34 rfl (by decide) ?_
   refine Lst.skip rfl rfl rfl hb34 rfl (by decide) ?_
   refine Lst.skip rfl rfl rfl hb34 rfl (by decide) ?_
   refine Lst.skip rfl rfl rfl hb34 rfl (by decide) ?_
   refine Lst.r (Ev.pickT rfl hb34 rfl) ?_
   refine Lst.nil ?_
   refine At.then ?_
   refine Cd.condT rfl rfl ?_
   refine Cd.seq ?_
   refine Cd.as (e' := [(0, pv b_a0 0), (1, iv a1), (5, iv (i8 : Int))]) (L' := (.own s_a0_1 3 1 (encs l10)) :: (.own s_a0_2 4 1 (encs p29)) :: (.blk b_a0 (enc (GraphR.mk ({ y9 with may := a0.may, left := l10, seen := p29 } : Graph) s_a0_0 s_a0_1 s_a0_2)) 101) :: L) ⟨rfl, rfl, rfl, trivial⟩ rfl ?_
   refine Cd.region ?_
   refine Lst.r (Ev.move rfl) ?_
   refine Lst.r (Ev.nilCheck rfl) ?_
   refine Lst.r (Ev.fieldAddr (off' := 1) rfl Try.runUnderlying101 rfl Try.sizeOf34 rfl rfl) ?_
   refine Lst.r (Ev.load (i := 2) rfl rfl Try.isAgg34 (v := Sl.v s_a0_1) ((GraphR.get_left (Get.here _)).off (by rfl))) ?_
   refine Lst.r (Ev.move rfl) ?_
   refine Lst.r (Ev.move rfl) ?_
   obtain ⟨x35, h36, H⟩ := bind_some H
   have g37 := lat_some h36
   refine Lst.r (Ev.indexS (α := Int) (xs := l10) rfl rfl Try.runUnderlying34 Try.sizeOf3 rfl (by decide) (Rd.own (i := 0) rfl rfl rfl) g37.1 g37.2.1) ?_
   obtain ⟨p38, h39, H⟩ := Let_some H
   refine Lst.storeS (i := 0) rfl rfl rfl rfl rfl Try.sizeOf3 (vs := [iv a1]) rfl rfl (by decide) rfl (xs' := encs p38) (by rw [← h39]; exact (Put.elemN (s := 1) (x := x35) rfl g37.2.2 (Put.here (vs := [iv a1]) rfl)).off (by omega)) (L' := (.own s_a0_1 3 1 (encs p38)) :: (.own s_a0_2 4 1 (encs p29)) :: (.blk b_a0 (enc (GraphR.mk ({ y9 with may := a0.may, left := p38, seen := p29 } : Graph) s_a0_0 s_a0_1 s_a0_2)) 101) :: L) rfl ?_
   refine Lst.nil ?_
   refine At.then ?_
   refine Cd.seq ?_
   refine Cd.region ?_
   refine Lst.r (Ev.assign rfl) ?_
   refine Lst.nil ?_
   refine At.then ?_
   have H := hret8 _ (some_inj H).symm
   subst H
   replace H := HKl8
   obtain rfl := some_inj H
   refine Cd.ret ?_
   refine At.in_ret ?_
   refine At.then_ret ?_
   refine At.then_ret ?_
   refine At.in_ret ?_
   refine At.then_ret ?_
   exact At.ret1 rfl (Res.tmp rfl) (FLe.trans hF13 hF24) (sk1 (sk1 (sk1 (.refl _)))) ⟨rfl, rfl⟩
  replace H := ite_f hb34 H
  refine Lst.rG hb34 (Ev.move rfl) ?_
  refine Lst.rG hb34 (Ev.move rfl) ?_
  refine Lst.rG hb34 (Ev.nilCheck rfl) ?_
  refine Lst.rG hb34 (Ev.fieldAddr (off' := 1) rfl Try.runUnderlying101 rfl Try.sizeOf34 rfl rfl) ?_
  refine Lst.rG hb34 (Ev.load (i := 2) rfl rfl Try.isAgg34 (v := Sl.v s_a0_1) ((GraphR.get_left (Get.here _)).off (by rfl))) ?_
  refine Lst.rG hb34 (Ev.move rfl) ?_
  obtain ⟨x40, h41, H⟩ := bind_some H
  have g42 := lat_some h41
  refine Lst.rG hb34 (Ev.indexS (α := Int) (xs := l10) rfl rfl Try.runUnderlying34 Try.sizeOf3 rfl (by decide) (Rd.own (i := 0) rfl rfl rfl) g42.1 g42.2.1) ?_
  refine Lst.rG hb34 (Ev.loadS (α := Int) rfl (Rd.own (i := 0) rfl rfl rfl) Try.isAgg3 (v := iv x40) ((Get.elemN (s := 1) (x := x40) rfl g42.2.2 (Get.here _)).off (by omega))) ?_
  obtain ⟨r43, h44, H⟩ := bind_some H
  refine Lst.callG rfl rfl rfl hb34 rfl (by decide) (vs := [pv b_a0 0, iv x40]) ⟨rfl, rfl, trivial⟩ Try.call77 (ih h44 w0 _ M _ hM hm_a0_0 (hs_a0_0.mono (FLe.trans hF13 hF24) (.refl _)) (All.monoLR ha_a0_0 (FLe.trans hF13 hF24) (.refl _))) (fun F45 L' v hF46 hv => ?_)
  obtain ⟨rfl, rfl⟩ := hv
  refine Lst.r (Ev.pickF rfl hb34 rfl) ?_
  refine Lst.nil ?_
  refine At.then ?_
  rcases Bool.eq_false_or_eq_true r43.2.2.2 with hb47 | hb47
  ·replace H := ite_t hb47 H
   refine Cd.condT rfl hb47 ?_
   refine Cd.seq ?_
   refine Cd.as (e' := [(0, pv b_a0 0), (1, iv a1), (5, iv (i8 : Int))]) (L' := (.own s_a0_1 3 1 (encs r43.1)) :: (.own s_a0_2 4 1 (encs r43.2.1)) :: (.blk b_a0 (enc (GraphR.mk ({ r43.2.2.1 with may := a0.may, left := r43.1, seen := r43.2.1 } : Graph) s_a0_0 s_a0_1 s_a0_2)) 101) :: L) ⟨rfl, rfl, rfl, trivial⟩ rfl ?_
   refine Cd.region ?_
   refine Lst.r (Ev.move rfl) ?_
   refine Lst.r (Ev.nilCheck rfl) ?_
   refine Lst.r (Ev.fieldAddr (off' := 1) rfl Try.runUnderlying101 rfl Try.sizeOf34 rfl rfl) ?_
   refine Lst.r (Ev.load (i := 2) rfl rfl Try.isAgg34 (v := Sl.v s_a0_1) ((GraphR.get_left (Get.here _)).off (by rfl))) ?_
   refine Lst.r (Ev.move rfl) ?_
   refine Lst.r (Ev.move rfl) ?_
   obtain ⟨x48, h49, H⟩ := bind_some H
   have g50 := lat_some h49
   refine Lst.r (Ev.indexS (α := Int) (xs := r43.1) rfl rfl Try.runUnderlying34 Try.sizeOf3 rfl (by decide) (Rd.own (i := 0) rfl rfl rfl) g50.1 g50.2.1) ?_
   obtain ⟨p51, h52, H⟩ := Let_some H
   refine Lst.storeS (i := 0) rfl rfl rfl rfl rfl Try.sizeOf3 (vs := [iv a1]) rfl rfl (by decide) rfl (xs' := encs p51) (by rw [← h52]; exact (Put.elemN (s := 1) (x := x48) rfl g50.2.2 (Put.here (vs := [iv a1]) rfl)).off (by omega)) (L' := (.own s_a0_1 3 1 (encs p51)) :: (.own s_a0_2 4 1 (encs r43.2.1)) :: (.blk b_a0 (enc (GraphR.mk ({ r43.2.2.1 with may := a0.may, left := p51, seen := r43.2.1 } : Graph) s_a0_0 s_a0_1 s_a0_2)) 101) :: L) rfl ?_
   refine Lst.nil ?_
   refine At.then ?_
   refine Cd.seq ?_
   refine Cd.region ?_
   refine Lst.r (Ev.assign rfl) ?_
   refine Lst.nil ?_
   refine At.then ?_
   have H := hret8 _ (some_inj H).symm
   subst H
   replace H := HKl8
   obtain rfl := some_inj H
   refine Cd.ret ?_
   refine At.in_ret ?_
   refine At.then_ret ?_
   refine At.then_ret ?_
   refine At.in_ret ?_
   refine At.then_ret ?_
   exact At.ret1 rfl (Res.tmp rfl) (FLe.trans (FLe.trans hF13 hF24) hF46) (sk1 (sk1 (sk1 (.refl _)))) ⟨rfl, rfl⟩
  replace H := ite_f hb47 H
  refine Cd.condF rfl hb47 ?_
  refine Cd.skip ?_
  refine At.in_normal ?_
  refine At.then ?_
  refine Cd.as (e' := [(0, pv b_a0 0), (1, iv a1), (13, Sl.v r7h), (14, iv (x4.length : Int)), (15, iv (i8 : Int))]) (L' := (.own s_a0_1 3 1 (encs r43.1)) :: (.own s_a0_2 4 1 (encs r43.2.1)) :: (.blk b_a0 (enc (GraphR.mk ({ r43.2.2.1 with may := a0.may, left := r43.1, seen := r43.2.1 } : Graph) s_a0_0 s_a0_1 s_a0_2)) 101) :: L) ⟨rfl, rfl, rfl, rfl, rfl, trivial⟩ rfl ?_
  refine Cd.region ?_
  refine Lst.r (Ev.incr (by omega) rfl rfl) ?_
  refine Lst.r (Ev.move rfl) ?_
  refine Lst.nil ?_
  exact At.meet (i8 + 1, k8, ({ r43.2.2.1 with may := a0.may, left := r43.1, seen := r43.2.1 } : Graph), r43.1, r43.2.1) (FLe.trans (FLe.trans hF13 hF24) hF46) ⟨rfl, rfl, rfl, rfl, rfl, trivial⟩ rfl ⟨⟨hgo8 _ (some_inj H).symm, by omega⟩, Nat.lt_succ_self _⟩
theorem match_graph_search_sim {fu : Nat} {a0 : Graph} {a1 : Int} {b_a0 : Nat} {s_a0_0 : Sl} {rs_a0_0 : List (LR Bool)} {s_a0_1 : Sl} {s_a0_2 : Sl} {r : (List Int) × (List Bool) × Graph × Bool} (H : match_graph_search fu a0 a1 = some r) (w0 : World) (F : Frz) (M L : List Item) (hM : M.Sublist L) (hm_a0_0 : rs_a0_0.map LR.v = a0.may) (hs_a0_0 : Rd w0 F M s_a0_0 rs_a0_0) (ha_a0_0 : All LR.rel w0 F M rs_a0_0) : Ok Try.prog w0 77 [pv b_a0 0, iv a1] F ((.own s_a0_1 3 1 (encs a0.left)) :: (.own s_a0_2 4 1 (encs a0.seen)) :: (.blk b_a0 (enc (GraphR.mk a0 s_a0_0 s_a0_1 s_a0_2)) 101) :: L) (fun _ L' v => v = .bool r.2.2.2 ∧ L' = (.own s_a0_1 3 1 (encs r.1)) :: (.own s_a0_2 4 1 (encs r.2.1)) :: (.blk b_a0 (enc (GraphR.mk ({ r.2.2.1 with may := a0.may, left := r.1, seen := r.2.1 } : Graph) s_a0_0 s_a0_1 s_a0_2)) 101) :: L) :=
  match_graph_search_simR fu H w0 F M L hM hm_a0_0 hs_a0_0 ha_a0_0
set_option maxRecDepth 20000 in
theorem match_most_sim {fu : Nat} {a0 : Int} {a1 : Int} {a2 : List Pair} {s_a2 : Sl} {r : Graph} (H : match_most fu a0 a1 a2 = some r) (w0 : World) (F : Frz) (M L : List Item) (hM : M.Sublist L) (hs_a2 : Rd w0 F M s_a2 a2) : Ok Try.prog w0 59 [iv a0, iv a1, Sl.v s_a2] F (L) (fun Fx L' v => ∃ (b1 : Nat) (s2 : Sl) (rs3 : List (LR Bool)) (s7 : Sl) (s9 : Sl), v = pv b1 0 ∧ L' = (.rows (α := Bool) 4 rs3) :: (.own s2 75 1 (encs rs3)) :: (.own s7 3 1 (encs r.left)) :: (.blk b1 (enc (GraphR.mk r s2 s7 s9)) 101) :: L ∧ rs3.map LR.v = r.may ∧ Rd w0 Fx M s9 r.seen) := by
 unfold match_most at H
 refine Ok.enter (m := 3) (n := 63) Try.func59 rfl rfl rfl (by decide) ?_
 refine Cd.env (e' := [(0, iv a0), (1, iv a1), (2, Sl.v s_a2)]) rfl ?_
 refine Cd.seq ?_
 refine Cd.region ?_
 refine Lst.r (Ev.assign rfl) ?_
 refine Lst.nil ?_
 refine At.then ?_
 refine Cd.seq ?_
 refine Cd.region ?_
 refine Lst.buildSlice (α := Int) (xs := ([(-1 : Int)] : List Int)) (pv := [(0, iv (-1 : Int))]) rfl rfl (by decide) ⟨rfl, rfl, trivial⟩ (run_buildSlice (α := Int) (z0 := (0 : Int)) (xs := ([(-1 : Int)] : List Int)) Try.runUnderlying34 Try.sizeOf3 Try.zeroValue3 rfl rfl rfl (by decide) rfl (fill_cons (cs := encs (List.replicate 1 (0 : Int))) (cs' := encs ((List.replicate 1 (0 : Int)).set 0 (-1 : Int))) (vs := [iv (-1 : Int)]) rfl rfl rfl ((Put.elemN (s := 1) (i := 0) (x := (0 : Int)) (y := (-1 : Int)) rfl rfl (Put.here (vs := [iv (-1 : Int)]) rfl)).off rfl) fill_nil)) rfl rfl (by decide) (fun s1 _ => ?_)
 refine Lst.r (Ev.move rfl) ?_
 obtain ⟨r3, h4, H⟩ := bind_some H
 refine Lst.call rfl rfl (by decide) (vs := [Sl.v s1, iv a1]) ⟨rfl, rfl, trivial⟩ Try.call67 (slices_Repeat_int_int_sim h4 w0 _ _ _ (.refl _) (Rd.own (i := 0) rfl rfl rfl)) (fun F7 L' v hF8 hv => ?_)
 obtain ⟨s5, rfl, rfl⟩ := hv
 refine Lst.r (Ev.build (v := .agg (enc (GraphR.mk ({ Graph.zero with left := r3 } : Graph) Sl.nil s5 Sl.nil)).toArray) (pv := [(1, Sl.v s5)]) ⟨rfl, rfl, trivial⟩ (run_buildStruct (places := #[(0, 1), (1, 1), (2, 1)]) Try.zeroValue101 (zs := enc (GraphR.mk Graph.zero Sl.nil Sl.nil Sl.nil)) rfl Try.runUnderlying101 (fun w => by kernel_rfl) (fill_cons (cs := enc (GraphR.mk Graph.zero Sl.nil Sl.nil Sl.nil)) (cs' := enc (GraphR.mk ({ Graph.zero with left := r3 } : Graph) Sl.nil s5 Sl.nil)) (vs := [Sl.v s5]) rfl rfl rfl ((GraphR.put_left (p := (GraphR.mk Graph.zero Sl.nil Sl.nil Sl.nil)) (y := s5) (Put.here (vs := [Sl.v s5]) rfl)).off rfl) fill_nil))) ?_
 refine Lst.box rfl rfl (by decide) rfl (cs := enc (GraphR.mk ({ Graph.zero with left := r3 } : Graph) Sl.nil s5 Sl.nil)) rfl (fun b9 => ?_)
 refine Lst.r (Ev.assign rfl) ?_
 refine Lst.nil ?_
 refine At.then ?_
 refine Cd.seq ?_
 refine Cd.seq ?_
 refine Cd.region ?_
 refine Lst.r (Ev.move rfl) ?_
 refine Lst.r (Ev.move rfl) ?_
 refine Lst.nil ?_
 refine At.then ?_
 refine Cd.block ?_
 have ha14m : List.map LR.v ([] : List (LR Bool)) = ([] : List (List Bool)) := rfl
 refine Cd.addNil 75 1 ?_
 refine Cd.rowsNil Bool 4 0 ?_
 refine Cd.its (L' := (.rows (α := Bool) 4 ([] : List (LR Bool))) :: (.own Sl.nil 75 1 (encs ([] : List (LR Bool)))) :: (.blk b9 (enc (GraphR.mk ({ Graph.zero with left := r3 } : Graph) Sl.nil s5 Sl.nil)) 101) :: (.own s5 3 1 (encs r3)) :: (.own s1 3 1 (encs ([(-1 : Int)] : List Int))) :: L) rfl ?_
 obtain ⟨nn25, hN117, H⟩ := bind_some H
 replace hN117 := upTo_some hN117
 obtain ⟨ol11, H, HKl11⟩ := bind_some H
 refine Cd.loop (σ := Nat × Nat × Graph × Sl × (List (LR Bool)) × Sl) (fun (i11, k11, y15, s16, rs17, s21) => [(0, iv a0), (1, iv a1), (2, Sl.v s_a2), (7, pv b9 0), (16, iv a0), (17, iv (i11 : Int))]) (fun (i11, k11, y15, s16, rs17, s21) => (.rows (α := Bool) 4 rs17) :: (.own s16 75 1 (encs rs17)) :: (.blk b9 (enc (GraphR.mk ({ y15 with left := r3 } : Graph) s16 s5 s21)) 101) :: (.own s5 3 1 (encs r3)) :: (.own s1 3 1 (encs ([(-1 : Int)] : List Int))) :: L) (fun Fx => (fun (i11, k11, y15, s16, rs17, s21) => rangeF (match_most_B0 a1 r3) k11 i11 y15 = some ol11 ∧ i11 + k11 = nn25 ∧ rs17.map LR.v = y15.may ∧ Rd w0 Fx M s21 y15.seen)) (fun (i11, k11, y15, s16, rs17, s21) => k11) (0, nn25, ({ Graph.zero with may := ([] : List (List Bool)), left := r3 } : Graph), Sl.nil, ([] : List (LR Bool)), Sl.nil) ⟨rfl, rfl, rfl, rfl, rfl, rfl, trivial⟩ rfl ⟨H, by omega, ha14m, Rd.nil⟩ ?_
 rintro F23 ⟨i11, k11, y15, s16, rs17, s21⟩ hF24 ⟨H, hik11, fm18, f22⟩
 refine Cd.as (e' := [(0, iv a0), (1, iv a1), (2, Sl.v s_a2), (7, pv b9 0), (16, iv a0), (17, iv (i11 : Int))]) (L' := (.rows (α := Bool) 4 rs17) :: (.own s16 75 1 (encs rs17)) :: (.blk b9 (enc (GraphR.mk ({ y15 with left := r3 } : Graph) s16 s5 s21)) 101) :: (.own s5 3 1 (encs r3)) :: (.own s1 3 1 (encs ([(-1 : Int)] : List Int))) :: L) ⟨rfl, rfl, rfl, rfl, rfl, rfl, trivial⟩ rfl ?_
 rcases k11 with _ | k11
 ·have hc11 : decide ((i11 : Int) < a0) = false := decide_eq_false (by omega)
  replace H := rangeF_end H
  refine Cd.seq ?_
  refine Cd.region ?_
  refine Lst.r (Ev.lss rfl rfl) ?_
  refine Lst.nil ?_
  refine At.then ?_
  refine Cd.seq ?_
  refine Cd.condF rfl hc11 ?_
  refine Cd.exit ?_
  refine At.then_exit ?_
  refine At.then_exit ?_
  refine At.in_exit ?_
  subst H
  replace H := HKl11
  refine At.then ?_
  refine Cd.seq ?_
  refine Cd.seq ?_
  refine Cd.region ?_
  refine Lst.r (Ev.move rfl) ?_
  refine Lst.r (Ev.lenS (α := Pair) (xs := a2) (by decide) rfl rfl Try.runUnderlying22 (hs_a2.mono (FLe.trans hF8 hF24) (sc4 (sc1 hM)))) ?_
  refine Lst.r (Ev.move rfl) ?_
  refine Lst.nil ?_
  refine At.then ?_
  refine Cd.block ?_
  refine Cd.bound (Rd.le (α := Pair) (xs := a2) (by decide) (hs_a2.mono (FLe.trans hF8 hF24) (sc4 (sc1 hM)))) (fun hN116 => ?_)
  obtain ⟨ol70, H, HKl70⟩ := bind_some H
  refine Cd.loop (σ := Nat × Nat × Graph × (List (List Bool)) × (List (LR Bool))) (fun (i70, k70, y71, l72, rs73) => [(0, iv a0), (1, iv a1), (7, pv b9 0), (31, Sl.v s_a2), (32, iv (a2.length : Int)), (33, iv (i70 : Int))]) (fun (i70, k70, y71, l72, rs73) => (.rows (α := Bool) 4 rs73) :: (.own s16 75 1 (encs rs73)) :: (.blk b9 (enc (GraphR.mk ({ y71 with may := l72, left := r3, seen := y15.seen } : Graph) s16 s5 s21)) 101) :: (.own s5 3 1 (encs r3)) :: (.own s1 3 1 (encs ([(-1 : Int)] : List Int))) :: L) (fun Fx => (fun (i70, k70, y71, l72, rs73) => rangeF (match_most_B2 a2 r3 y15) k70 i70 (y71, l72) = some ol70 ∧ i70 + k70 = a2.length ∧ rs73.map LR.v = l72)) (fun (i70, k70, y71, l72, rs73) => k70) (0, a2.length, ({ y15 with left := r3 } : Graph), y15.may, rs17) ⟨rfl, rfl, rfl, rfl, rfl, rfl, trivial⟩ rfl ⟨H, by omega, fm18⟩ ?_
  rintro F75 ⟨i70, k70, y71, l72, rs73⟩ hF76 ⟨H, hik70, fm74⟩
  refine Cd.as (e' := [(0, iv a0), (1, iv a1), (7, pv b9 0), (31, Sl.v s_a2), (32, iv (a2.length : Int)), (33, iv (i70 : Int))]) (L' := (.rows (α := Bool) 4 rs73) :: (.own s16 75 1 (encs rs73)) :: (.blk b9 (enc (GraphR.mk ({ y71 with may := l72, left := r3, seen := y15.seen } : Graph) s16 s5 s21)) 101) :: (.own s5 3 1 (encs r3)) :: (.own s1 3 1 (encs ([(-1 : Int)] : List Int))) :: L) ⟨rfl, rfl, rfl, rfl, rfl, rfl, trivial⟩ rfl ?_
  rcases k70 with _ | k70
  ·have hc70 : decide ((i70 : Int) < (a2.length : Int)) = false := decide_eq_false (by omega)
   replace H := rangeF_end H
   refine Cd.seq ?_
   refine Cd.region ?_
   refine Lst.r (Ev.lss rfl rfl) ?_
   refine Lst.nil ?_
   refine At.then ?_
   refine Cd.seq ?_
   refine Cd.condF rfl hc70 ?_
   refine Cd.exit ?_
   refine At.then_exit ?_
   refine At.then_exit ?_
   refine At.in_exit ?_
   subst H
   replace H := HKl70
   refine At.then ?_
   refine Cd.seq ?_
   refine Cd.seq ?_
   refine Cd.region ?_
   refine Lst.r (Ev.move rfl) ?_
   refine Lst.r (Ev.move rfl) ?_
   refine Lst.nil ?_
   refine At.then ?_
   refine Cd.block ?_
   obtain ⟨nn101, hN115, H⟩ := bind_some H
   replace hN115 := upTo_some hN115
   obtain ⟨ol94, H, HKl94⟩ := bind_some H
   refine Cd.loop (σ := Nat × Nat × Graph × Sl × (List Int)) (fun (i94, k94, y95, s96, l98) => [(1, iv a1), (7, pv b9 0), (49, iv a0), (50, iv (i94 : Int))]) (fun (i94, k94, y95, s96, l98) => (.rows (α := Bool) 4 rs73) :: (.own s16 75 1 (encs rs73)) :: (.blk b9 (enc (GraphR.mk ({ y95 with may := l72, left := l98 } : Graph) s16 s5 s96)) 101) :: (.own s5 3 1 (encs l98)) :: (.own s1 3 1 (encs ([(-1 : Int)] : List Int))) :: L) (fun Fx => (fun (i94, k94, y95, s96, l98) => rangeF (match_most_B4 fu a1 l72) k94 i94 (y95, l98) = some ol94 ∧ i94 + k94 = nn101 ∧ Rd w0 Fx M s96 y95.seen)) (fun (i94, k94, y95, s96, l98) => k94) (0, nn101, ({ y71 with may := l72, left := r3, seen := y15.seen } : Graph), s21, r3) ⟨rfl, rfl, rfl, rfl, trivial⟩ rfl ⟨H, by omega, (f22.mono hF76 (.refl _))⟩ ?_
   rintro F99 ⟨i94, k94, y95, s96, l98⟩ hF100 ⟨H, hik94, f97⟩
   refine Cd.as (e' := [(1, iv a1), (7, pv b9 0), (49, iv a0), (50, iv (i94 : Int))]) (L' := (.rows (α := Bool) 4 rs73) :: (.own s16 75 1 (encs rs73)) :: (.blk b9 (enc (GraphR.mk ({ y95 with may := l72, left := l98 } : Graph) s16 s5 s96)) 101) :: (.own s5 3 1 (encs l98)) :: (.own s1 3 1 (encs ([(-1 : Int)] : List Int))) :: L) ⟨rfl, rfl, rfl, rfl, trivial⟩ rfl ?_
   rcases k94 with _ | k94
   ·have hc94 : decide ((i94 : Int) < a0) = false := decide_eq_false (by omega)
    replace H := rangeF_end H
    refine Cd.seq ?_
    refine Cd.region ?_
    refine Lst.r (Ev.lss rfl rfl) ?_
    refine Lst.nil ?_
    refine At.then ?_
    refine Cd.seq ?_
    refine Cd.condF rfl hc94 ?_
    refine Cd.exit ?_
    refine At.then_exit ?_
    refine At.then_exit ?_
    refine At.in_exit ?_
    subst H
    replace H := HKl94
    refine At.then ?_
    refine Cd.seq ?_
    refine Cd.region ?_
    refine Lst.r (Ev.move rfl) ?_
    refine Lst.r (Ev.assign rfl) ?_
    refine Lst.nil ?_
    refine At.then ?_
    obtain rfl := some_inj H
    refine Cd.ret ?_
    refine At.front (i := 3) rfl rfl ?_
    refine At.front (i := 2) rfl rfl ?_
    refine At.front (i := 2) rfl (L' := (.rows (α := Bool) 4 rs73) :: (.own s16 75 1 (encs rs73)) :: (.own s5 3 1 (encs l98)) :: (.blk b9 (enc (GraphR.mk ({ y95 with may := l72, left := l98 } : Graph) s16 s5 s96)) 101) :: (.own s1 3 1 (encs ([(-1 : Int)] : List Int))) :: L) rfl ?_
    exact At.ret1 rfl (Res.tmp rfl) (FLe.trans (FLe.trans (FLe.trans hF8 hF24) hF76) hF100) (sk1 (sk1 (sk1 (sk1 (sc1 (.refl _)))))) ⟨b9, s16, rs73, s5, s96, rfl, rfl, fm74, (f97.mono (FLe.refl _) (.refl _))⟩
   have hc94 : decide ((i94 : Int) < a0) = true := decide_eq_true (by omega)
   obtain ⟨c94, H, hgo94⟩ := rangeF_go H
   unfold match_most_B4 at H
   try dsimp only at H
   refine Cd.seq ?_
   refine Cd.region ?_
   refine Lst.r (Ev.lss rfl rfl) ?_
   refine Lst.nil ?_
   refine At.then ?_
   refine Cd.seq ?_
   refine Cd.condT rfl hc94 ?_
   refine Cd.skip ?_
   refine At.then ?_
   refine Cd.seq ?_
   refine Cd.block ?_
   refine Cd.seq ?_
   refine Cd.region ?_
   refine Lst.r (Ev.move rfl) ?_
   refine Lst.r (Ev.assign rfl) ?_
   refine Lst.nil ?_
   refine At.then ?_
   refine Cd.seq ?_
   refine Cd.region ?_
   refine Lst.r (Ev.move rfl) ?_
   refine Lst.r (Ev.move rfl) ?_
   obtain ⟨n102, h103, H⟩ := bind_some H
   have g104 := mkLen_some h103
   refine Lst.make (α := Bool) (z0 := false) (k := n102) rfl rfl (by decide) (congrArg some (congrArg (Value.int .i64) g104.1)) (congrArg some (congrArg (Value.int .i64) g104.1)) Try.runUnderlying75 Try.typeInfo4 rfl rfl rfl rfl rfl g104.2 rfl (fun s105 => ?_)
   refine Lst.r (Ev.nilCheck rfl) ?_
   refine Lst.r (Ev.fieldAddr (off' := 2) rfl Try.runUnderlying101 rfl Try.sizeOf75 rfl rfl) ?_
   refine Lst.store (i := 3) rfl rfl rfl rfl rfl Try.sizeOf75 (vs := [Sl.v s105]) rfl rfl rfl (cs' := enc (GraphR.mk ({ y95 with may := l72, left := l98, seen := (List.replicate n102 false) } : Graph) s16 s5 s105)) ((GraphR.put_seen (Put.here (vs := [Sl.v s105]) rfl)).off (by rfl)) (L' := (.own s105 4 1 (encs (List.replicate n102 false))) :: (.rows (α := Bool) 4 rs73) :: (.own s16 75 1 (encs rs73)) :: (.blk b9 (enc (GraphR.mk ({ y95 with may := l72, left := l98, seen := (List.replicate n102 false) } : Graph) s16 s5 s105)) 101) :: (.own s5 3 1 (encs l98)) :: (.own s1 3 1 (encs ([(-1 : Int)] : List Int))) :: L) rfl ?_
   refine Lst.nil ?_
   refine At.then ?_
   refine Cd.region ?_
   refine Lst.r (Ev.move rfl) ?_
   refine Lst.r (Ev.move rfl) ?_
   obtain ⟨r107, h108, H⟩ := bind_some H
   refine Lst.front (i := 3) rfl rfl ?_
   refine Lst.front (i := 1) rfl rfl ?_
   refine Lst.front (i := 4) rfl (L' := (.own s5 3 1 (encs l98)) :: (.own s105 4 1 (encs (List.replicate n102 false))) :: (.blk b9 (enc (GraphR.mk ({ y95 with may := l72, left := l98, seen := (List.replicate n102 false) } : Graph) s16 s5 s105)) 101) :: (.rows (α := Bool) 4 rs73) :: (.own s16 75 1 (encs rs73)) :: (.own s1 3 1 (encs ([(-1 : Int)] : List Int))) :: L) rfl ?_
   refine Lst.call rfl rfl (by decide) (vs := [pv b9 0, iv (i94 : Int)]) ⟨rfl, rfl, trivial⟩ Try.call77 (match_graph_search_sim h108 w0 _ _ _ (.refl _) fm74 (Rd.own (i := 1) rfl rfl rfl) (All.rowsHead (j := 0) rfl)) (fun F109 L' v hF110 hv => ?_)
   obtain ⟨rfl, rfl⟩ := hv
   refine Lst.nil ?_
   refine At.in_normal ?_
   refine At.then ?_
   refine Cd.region ?_
   refine Lst.r (Ev.incr (by omega) rfl rfl) ?_
   refine Lst.r (Ev.move rfl) ?_
   refine Lst.nil ?_
   refine At.freeze (i := 1) rfl (fun F111 hF112 hz113 => ?_)
   have hq114 : Rd w0 F111 [] s105 r107.2.1 := Rd.frozen hz113 rfl rfl
   refine At.its (L' := (.own s5 3 1 (encs r107.1)) :: (.blk b9 (enc (GraphR.mk ({ r107.2.2.1 with may := l72, left := r107.1, seen := r107.2.1 } : Graph) s16 s5 s105)) 101) :: (.rows (α := Bool) 4 rs73) :: (.own s16 75 1 (encs rs73)) :: (.own s1 3 1 (encs ([(-1 : Int)] : List Int))) :: L) rfl ?_
   refine At.front (i := 1) rfl rfl ?_
   refine At.front (i := 3) rfl rfl ?_
   refine At.front (i := 3) rfl (L' := (.rows (α := Bool) 4 rs73) :: (.own s16 75 1 (encs rs73)) :: (.blk b9 (enc (GraphR.mk ({ r107.2.2.1 with may := l72, left := r107.1, seen := r107.2.1 } : Graph) s16 s5 s105)) 101) :: (.own s5 3 1 (encs r107.1)) :: (.own s1 3 1 (encs ([(-1 : Int)] : List Int))) :: L) rfl ?_
   exact At.meet (i94 + 1, k94, ({ r107.2.2.1 with may := l72, left := r107.1, seen := r107.2.1 } : Graph), s105, r107.1) (FLe.trans (FLe.trans hF100 hF110) hF112) ⟨rfl, rfl, rfl, rfl, trivial⟩ rfl ⟨⟨hgo94 _ (some_inj H).symm, by omega, (hq114.mono (FLe.refl _) (List.nil_sublist _))⟩, Nat.lt_succ_self _⟩
  have hc70 : decide ((i70 : Int) < (a2.length : Int)) = true := decide_eq_true (by omega)
  obtain ⟨c70, H, hgo70⟩ := rangeF_go H
  unfold match_most_B2 at H
  try dsimp only at H
  refine Cd.seq ?_
  refine Cd.region ?_
  refine Lst.r (Ev.lss rfl rfl) ?_
  refine Lst.nil ?_
  refine At.then ?_
  refine Cd.seq ?_
  refine Cd.condT rfl hc70 ?_
  refine Cd.skip ?_
  refine At.then ?_
  refine Cd.seq ?_
  refine Cd.block ?_
  refine Cd.seq ?_
  refine Cd.region ?_
  obtain ⟨x77, h78, H⟩ := bind_some H
  have g79 := lat_some h78
  refine Lst.r (Ev.indexS (α := Pair) (xs := a2) rfl rfl Try.runUnderlying22 Try.sizeOf49 rfl (by decide) (hs_a2.mono (FLe.trans (FLe.trans hF8 hF24) hF76) (sc4 (sc1 hM))) g79.1 g79.2.1) ?_
  refine Lst.r (Ev.loadSA (α := Pair) rfl (hs_a2.mono (FLe.trans (FLe.trans hF8 hF24) hF76) (sc4 (sc1 hM))) Try.isAgg49 Try.sizeOf49 (ch := enc x77) (Enc.len _) (by decide) ((Get.elemN (s := 2) (x := x77) rfl g79.2.2 (Get.here _)).off (by omega))) ?_
  refine Lst.alloc (cs := enc Pair.zero) rfl rfl (by decide) Try.zeroValue49 rfl (fun b80 => ?_)
  refine Lst.store (i := 0) rfl rfl rfl rfl rfl Try.sizeOf49 (vs := enc x77) rfl (Enc.len _) (Enc.one _) (cs' := enc x77) (Put.here ((Enc.len _).trans (Enc.len _).symm)) (L' := (.blk b80 (enc x77) 49) :: (.rows (α := Bool) 4 rs73) :: (.own s16 75 1 (encs rs73)) :: (.blk b9 (enc (GraphR.mk ({ y71 with may := l72, left := r3, seen := y15.seen } : Graph) s16 s5 s21)) 101) :: (.own s5 3 1 (encs r3)) :: (.own s1 3 1 (encs ([(-1 : Int)] : List Int))) :: L) rfl ?_
  refine Lst.nil ?_
  refine At.then ?_
  refine Cd.tail 11 (by kernel_rfl) (by kernel_rfl) ?_
  refine Qt.r (Ev.move rfl) ?_
  refine Qt.r (Ev.nilCheck rfl) ?_
  refine Qt.r (Ev.fieldAddr (off' := 0) rfl Try.runUnderlying101 rfl Try.sizeOf73 rfl rfl) ?_
  refine Qt.r (Ev.load (i := 3) rfl rfl Try.isAgg73 (v := Sl.v s16) ((GraphR.get_may (Get.here _)).off (by rfl))) ?_
  refine Qt.r (Ev.fieldAddr (off' := 0) rfl Try.runUnderlying49 rfl Try.sizeOf3 rfl rfl) ?_
  refine Qt.r (Ev.load (i := 0) rfl rfl Try.isAgg3 (v := iv x77.A) ((Pair.get_A (Get.here _)).off (by rfl))) ?_
  obtain ⟨x82, h83, H⟩ := bind_some H
  have g84 := lat_some h83
  obtain ⟨⟨r85v, r85h⟩, r85g, r85e, r85m⟩ := map_get fm74 g84.2.2
  obtain rfl : x82 = r85v := r85e.symm
  have hh86 := row_h r85g
  refine Qt.r (Ev.indexS (α := LR Bool) (xs := rs73) rfl rfl Try.runUnderlying73 Try.sizeOf75 rfl (by decide) (Rd.own (i := 2) rfl rfl rfl) g84.1 (by have := map_len fm74; omega)) ?_
  refine Qt.r (Ev.loadS (α := LR Bool) rfl (Rd.own (i := 2) rfl rfl rfl) Try.isAgg75 (v := Sl.v r85h) ((Get.elemN (s := 1) rfl r85g (Get.here _)).off (by omega))) ?_
  refine Qt.r (Ev.fieldAddr (off' := 1) rfl Try.runUnderlying49 rfl Try.sizeOf3 rfl rfl) ?_
  refine Qt.r (Ev.load (i := 0) rfl rfl Try.isAgg3 (v := iv x77.B) ((Pair.get_B (Get.here _)).off (by rfl))) ?_
  obtain ⟨x87, h88, H⟩ := bind_some H
  have g89 := lat_some h88
  refine Qt.r (Ev.indexS (α := Bool) (xs := x82) rfl rfl Try.runUnderlying75 Try.sizeOf4 rfl (by decide) (Rd.row (j := 1) rfl r85g) g89.1 g89.2.1) ?_
  refine Qt.tail ?_
  obtain ⟨p90, h91, H⟩ := Let_some H
  have hm92 : (rs73.set x77.A.toNat (LR.mk (x82.set x77.B.toNat true) r85h)).map LR.v = p90 := (map_set fm74 _ _).trans h91
  refine Lst.front (i := 1) rfl (L' := (.rows (α := Bool) 4 rs73) :: (.blk b80 (enc x77) 49) :: (.own s16 75 1 (encs rs73)) :: (.blk b9 (enc (GraphR.mk ({ y71 with may := l72, left := r3, seen := y15.seen } : Graph) s16 s5 s21)) 101) :: (.own s5 3 1 (encs r3)) :: (.own s1 3 1 (encs ([(-1 : Int)] : List Int))) :: L) rfl ?_
  refine Lst.storeR (α := Bool) rfl rfl rfl rfl r85g Try.sizeOf4 (vs := [.bool true]) rfl rfl (by decide) rfl (xs' := (x82.set x77.B.toNat true)) ((Put.elemN (s := 1) (x := x87) rfl g89.2.2 (Put.here (vs := [.bool true]) rfl)).off (by omega)) ?_
  refine Lst.its (L' := (.rows (α := Bool) 4 (rs73.set x77.A.toNat (LR.mk (x82.set x77.B.toNat true) r85h))) :: (.blk b80 (enc x77) 49) :: (.own s16 75 1 (encs (rs73.set x77.A.toNat (LR.mk (x82.set x77.B.toNat true) r85h)))) :: (.blk b9 (enc (GraphR.mk ({ y71 with may := p90, left := r3, seen := y15.seen } : Graph) s16 s5 s21)) 101) :: (.own s5 3 1 (encs r3)) :: (.own s1 3 1 (encs ([(-1 : Int)] : List Int))) :: L) (by rw [show encs (rs73.set x77.A.toNat (LR.mk (x82.set x77.B.toNat true) r85h)) = encs rs73 from encs_rowv r85g]; try rfl) ?_
  refine Lst.nil ?_
  refine At.in_normal ?_
  refine At.then ?_
  refine Cd.as (e' := [(0, iv a0), (1, iv a1), (7, pv b9 0), (31, Sl.v s_a2), (32, iv (a2.length : Int)), (33, iv (i70 : Int))]) (L' := (.rows (α := Bool) 4 (rs73.set x77.A.toNat (LR.mk (x82.set x77.B.toNat true) r85h))) :: (.blk b80 (enc x77) 49) :: (.own s16 75 1 (encs (rs73.set x77.A.toNat (LR.mk (x82.set x77.B.toNat true) r85h)))) :: (.blk b9 (enc (GraphR.mk ({ y71 with may := p90, left := r3, seen := y15.seen } : Graph) s16 s5 s21)) 101) :: (.own s5 3 1 (encs r3)) :: (.own s1 3 1 (encs ([(-1 : Int)] : List Int))) :: L) ⟨rfl, rfl, rfl, rfl, rfl, rfl, trivial⟩ rfl ?_
  refine Cd.region ?_
  refine Lst.r (Ev.incr (by omega) rfl rfl) ?_
  refine Lst.r (Ev.move rfl) ?_
  refine Lst.nil ?_
  refine At.less (L' := (.rows (α := Bool) 4 (rs73.set x77.A.toNat (LR.mk (x82.set x77.B.toNat true) r85h))) :: (.own s16 75 1 (encs (rs73.set x77.A.toNat (LR.mk (x82.set x77.B.toNat true) r85h)))) :: (.blk b9 (enc (GraphR.mk ({ y71 with may := p90, left := r3, seen := y15.seen } : Graph) s16 s5 s21)) 101) :: (.own s5 3 1 (encs r3)) :: (.own s1 3 1 (encs ([(-1 : Int)] : List Int))) :: L) (sk1 (sc1 (sk1 (sk1 (sk1 (sk1 (.refl _))))))) ?_
  exact At.meet (i70 + 1, k70, ({ y71 with may := p90, left := r3, seen := y15.seen } : Graph), p90, (rs73.set x77.A.toNat (LR.mk (x82.set x77.B.toNat true) r85h))) hF76 ⟨rfl, rfl, rfl, rfl, rfl, rfl, trivial⟩ rfl ⟨⟨hgo70 _ (some_inj H).symm, by omega, hm92⟩, Nat.lt_succ_self _⟩
 have hc11 : decide ((i11 : Int) < a0) = true := decide_eq_true (by omega)
 obtain ⟨c11, H, hgo11⟩ := rangeF_go H
 unfold match_most_B0 at H
 try dsimp only at H
 refine Cd.seq ?_
 refine Cd.region ?_
 refine Lst.r (Ev.lss rfl rfl) ?_
 refine Lst.nil ?_
 refine At.then ?_
 refine Cd.seq ?_
 refine Cd.condT rfl hc11 ?_
 refine Cd.skip ?_
 refine At.then ?_
 refine Cd.seq ?_
 refine Cd.block ?_
 obtain ⟨n26, h27, H⟩ := bind_some H
 obtain ⟨u35, h36, H⟩ := bind_some H
 obtain ⟨o47, h48, H⟩ := Let_some H
 refine Cd.headMeet (σ := Sl × (List (List Bool)) × (List (LR Bool)) × Graph × Sl) 9 (fun (s41, l42, rs43, y45, s46) => [(0, iv a0), (1, iv a1), (2, Sl.v s_a2), (7, pv b9 0), (16, iv a0), (17, iv (i11 : Int)), (19, pv b9 0), (27, Sl.v s41)]) (fun (s41, l42, rs43, y45, s46) => (.rows (α := Bool) 4 rs43) :: (.own s41 75 1 (encs rs43)) :: (.blk b9 (enc (GraphR.mk ({ y45 with left := r3, seen := y15.seen } : Graph) s46 s5 s21)) 101) :: (.own s5 3 1 (encs r3)) :: (.own s1 3 1 (encs ([(-1 : Int)] : List Int))) :: L) (fun Fx (s41, l42, rs43, y45, s46) => (l42, y45) = o47 ∧ rs43.map LR.v = l42) (by kernel_rfl) (by kernel_rfl) (behind_sink (by kernel_rfl) (by kernel_rfl) (by kernel_rfl)) (by kernel_rfl) (fun hsel hlt => ?_) ?_
 ·refine HdJ.keep (fun w => St w0 F23 ((.blk b9 (enc (GraphR.mk ({ y15 with left := r3 } : Graph) s16 s5 s21)) 101) :: (.own s5 3 1 (encs r3)) :: (.own s1 3 1 (encs ([(-1 : Int)] : List Int))) :: L) w) (fun w h => trivial) ?_
  refine HdJ.tk hsel hlt 0 (fun w h => h.sublist (sc1 (sc1 (sk1 (sk1 (sk1 (.refl _))))))) rfl (Ev.move rfl) ?_
  refine HdJ.tk hsel hlt 1 (fun w h => h.sublist (sc1 (sc1 (sk1 (sk1 (sk1 (.refl _))))))) rfl (Ev.move rfl) ?_
  refine HdJ.tk hsel hlt 2 (fun w h => h.sublist (sc1 (sc1 (sk1 (sk1 (sk1 (.refl _))))))) rfl (Ev.nilCheck rfl) ?_
  refine HdJ.tk hsel hlt 3 (fun w h => h.sublist (sc1 (sc1 (sk1 (sk1 (sk1 (.refl _))))))) rfl (Ev.fieldAddr (off' := 0) rfl Try.runUnderlying101 rfl Try.sizeOf73 rfl rfl) ?_
  refine HdJ.tk hsel hlt 5 (fun w h => h.sublist (sc1 (sc1 (sk1 (sk1 (sk1 (.refl _))))))) rfl (Ev.move rfl) ?_
  refine HdJ.step [4, 6] (by kernel_rfl) rfl ?_
  refine HdStep.c (fun inv => ?_) ?_
  ·refine Lst.r (Ev.load (i := 2) rfl rfl Try.isAgg73 (v := Sl.v s16) ((GraphR.get_may (Get.here _)).off (by rfl))) ?_
   refine Lst.nil ?_
   refine At.hd inv (fun w h => (h.weaken (FLe.refl _)).sublist (sc1 (sc1 (sk1 (sk1 (sk1 (.refl _))))))) ?_
   refine HdJ.step [6] (by kernel_rfl) rfl ?_
   refine HdStep.c (fun inv => ?_) ?_
   ·have g49 := mkLen_some h27
    refine Lst.make (α := Bool) (z0 := false) (k := n26) rfl rfl (by decide) (congrArg some (congrArg (Value.int .i64) g49.1)) (congrArg some (congrArg (Value.int .i64) g49.1)) Try.runUnderlying75 Try.typeInfo4 rfl rfl rfl rfl rfl g49.2 rfl (fun s50 => ?_)
    refine Lst.nil ?_
    refine At.hd inv (fun w h => (h.weaken (FLe.refl _)).sublist (sc1 (sc1 (sc1 (sk1 (sk1 (sk1 (.refl _)))))))) ?_
    refine HdJ.step [7] (by kernel_rfl) rfl ?_
    refine HdStep.c (fun inv => ?_) ?_
    ·have hm52 : ([(LR.mk (List.replicate n26 false) s50)] : List (LR Bool)).map LR.v = ([(List.replicate n26 false)] : List (List Bool)) := rfl
     refine Lst.buildSlice (α := LR Bool) (xs := ([(LR.mk (List.replicate n26 false) s50)] : List (LR Bool))) (pv := [(0, Sl.v s50)]) rfl rfl (by decide) ⟨rfl, rfl, trivial⟩ (run_buildSlice (α := LR Bool) (z0 := ((LR.mk [] Sl.nil) : LR Bool)) (xs := ([(LR.mk (List.replicate n26 false) s50)] : List (LR Bool))) Try.runUnderlying73 Try.sizeOf75 Try.zeroValue75 rfl rfl rfl (by decide) rfl (fill_cons (cs := encs (List.replicate 1 ((LR.mk [] Sl.nil) : LR Bool))) (cs' := encs ((List.replicate 1 ((LR.mk [] Sl.nil) : LR Bool)).set 0 (LR.mk (List.replicate n26 false) s50))) (vs := [Sl.v s50]) rfl rfl rfl ((Put.elemN (s := 1) (i := 0) (x := ((LR.mk [] Sl.nil) : LR Bool)) (y := (LR.mk (List.replicate n26 false) s50)) rfl rfl (Put.here (vs := [Sl.v s50]) rfl)).off rfl) fill_nil)) rfl rfl (by decide) (fun s51 _ => ?_)
     refine Lst.rowsNil Bool 4 0 ?_
     refine Lst.front (i := 2) rfl (L' := (.own s50 4 1 (encs (List.replicate n26 false))) :: (.rows (α := Bool) 4 (List.replicate 0 (⟨[], Sl.nil⟩ : LR Bool))) :: (.own s51 75 1 (encs ([(LR.mk (List.replicate n26 false) s50)] : List (LR Bool)))) :: (.rows (α := Bool) 4 rs17) :: (.own s16 75 1 (encs rs17)) :: (.blk b9 (enc (GraphR.mk ({ y15 with left := r3 } : Graph) s16 s5 s21)) 101) :: (.own s5 3 1 (encs r3)) :: (.own s1 3 1 (encs ([(-1 : Int)] : List Int))) :: L) rfl ?_
     refine Lst.rowEnd (α := Bool) (xs := (List.replicate n26 false)) (s := s50) rfl ?_
     refine Lst.its (L' := (.rows (α := Bool) 4 ([(LR.mk (List.replicate n26 false) s50)] : List (LR Bool))) :: (.own s51 75 1 (encs ([(LR.mk (List.replicate n26 false) s50)] : List (LR Bool)))) :: (.rows (α := Bool) 4 rs17) :: (.own s16 75 1 (encs rs17)) :: (.blk b9 (enc (GraphR.mk ({ y15 with left := r3 } : Graph) s16 s5 s21)) 101) :: (.own s5 3 1 (encs r3)) :: (.own s1 3 1 (encs ([(-1 : Int)] : List Int))) :: L) rfl ?_
     refine Lst.nil ?_
     refine At.hd inv (fun w h => (h.weaken (FLe.refl _)).sublist (sc1 (sc1 (sc1 (sc1 (sk1 (sk1 (sk1 (.refl _))))))))) ?_
     refine HdJ.step [8] (by kernel_rfl) rfl ?_
     refine HdStep.c (fun inv => ?_) ?_
     ·have hm54 : (rs17 ++ ([(LR.mk (List.replicate n26 false) s50)] : List (LR Bool))).map LR.v = y15.may ++ ([(List.replicate n26 false)] : List (List Bool)) := map_app fm18 hm52
      refine Lst.append (i := 3) (α := LR Bool) (xs := rs17) (ys := ([(LR.mk (List.replicate n26 false) s50)] : List (LR Bool))) rfl rfl (by decide) rfl rfl Try.runUnderlying73 Try.typeInfo75 rfl rfl rfl rfl rfl rfl (Rd.own (i := 1) rfl rfl rfl) rfl (by have := room_some h36; have := map_len fm18; have := map_len hm52; omega) rfl (fun s53 => ?_)
      refine Lst.its (L' := (.rows (α := Bool) 4 ([(LR.mk (List.replicate n26 false) s50)] : List (LR Bool))) :: (.own s51 75 1 (encs ([(LR.mk (List.replicate n26 false) s50)] : List (LR Bool)))) :: (.rows (α := Bool) 4 rs17) :: (.own s53 75 1 (encs (rs17 ++ ([(LR.mk (List.replicate n26 false) s50)] : List (LR Bool))))) :: (.blk b9 (enc (GraphR.mk ({ y15 with left := r3 } : Graph) s16 s5 s21)) 101) :: (.own s5 3 1 (encs r3)) :: (.own s1 3 1 (encs ([(-1 : Int)] : List Int))) :: L) rfl ?_
      refine Lst.front (i := 2) rfl (L' := (.rows (α := Bool) 4 rs17) :: (.rows (α := Bool) 4 ([(LR.mk (List.replicate n26 false) s50)] : List (LR Bool))) :: (.own s51 75 1 (encs ([(LR.mk (List.replicate n26 false) s50)] : List (LR Bool)))) :: (.own s53 75 1 (encs (rs17 ++ ([(LR.mk (List.replicate n26 false) s50)] : List (LR Bool))))) :: (.blk b9 (enc (GraphR.mk ({ y15 with left := r3 } : Graph) s16 s5 s21)) 101) :: (.own s5 3 1 (encs r3)) :: (.own s1 3 1 (encs ([(-1 : Int)] : List Int))) :: L) rfl ?_
      refine Lst.rowsApp ?_
      refine Lst.less (L' := (.rows (α := Bool) 4 (rs17 ++ ([(LR.mk (List.replicate n26 false) s50)] : List (LR Bool)))) :: (.own s53 75 1 (encs (rs17 ++ ([(LR.mk (List.replicate n26 false) s50)] : List (LR Bool))))) :: (.blk b9 (enc (GraphR.mk ({ y15 with left := r3 } : Graph) s16 s5 s21)) 101) :: (.own s5 3 1 (encs r3)) :: (.own s1 3 1 (encs ([(-1 : Int)] : List Int))) :: L) (List.Sublist.cons_cons _ (List.Sublist.cons _ (List.Sublist.cons_cons _ (List.Sublist.cons_cons _ (List.Sublist.cons_cons _ (List.Sublist.cons_cons _ (.refl _))))))) ?_
      refine Lst.its (L' := (.rows (α := Bool) 4 (rs17 ++ ([(LR.mk (List.replicate n26 false) s50)] : List (LR Bool)))) :: (.own s53 75 1 (encs (rs17 ++ ([(LR.mk (List.replicate n26 false) s50)] : List (LR Bool))))) :: (.blk b9 (enc (GraphR.mk ({ y15 with left := r3 } : Graph) s16 s5 s21)) 101) :: (.own s5 3 1 (encs r3)) :: (.own s1 3 1 (encs ([(-1 : Int)] : List Int))) :: L) rfl ?_
      refine Lst.nil ?_
      refine At.hd inv (fun w h => (h.weaken (FLe.refl _)).sublist (sc1 (sc1 (sk1 (sk1 (sk1 (.refl _))))))) ?_
      refine HdJ.done (by kernel_rfl) ?_
      exact At.meetN (s53, y15.may ++ ([(List.replicate n26 false)] : List (List Bool)), (rs17 ++ ([(LR.mk (List.replicate n26 false) s50)] : List (LR Bool))), ({ y15 with left := r3 } : Graph), s16) (FLe.refl _) ⟨rfl, rfl, rfl, rfl, rfl, rfl, rfl, rfl, trivial⟩ rfl ⟨h48, hm54⟩
     exact trivial
    exact trivial
   exact trivial
  refine HdStep.c (fun inv => ?_) ?_
  ·have g56 := mkLen_some h27
   refine Lst.make (α := Bool) (z0 := false) (k := n26) rfl rfl (by decide) (congrArg some (congrArg (Value.int .i64) g56.1)) (congrArg some (congrArg (Value.int .i64) g56.1)) Try.runUnderlying75 Try.typeInfo4 rfl rfl rfl rfl rfl g56.2 rfl (fun s57 => ?_)
   refine Lst.nil ?_
   refine At.hd inv (fun w h => (h.weaken (FLe.refl _)).sublist (sc1 (sc1 (sc1 (sk1 (sk1 (sk1 (.refl _)))))))) ?_
   refine HdJ.step [4, 7] (by kernel_rfl) rfl ?_
   refine HdStep.c (fun inv => ?_) ?_
   ·refine Lst.r (Ev.load (i := 3) rfl rfl Try.isAgg73 (v := Sl.v s16) ((GraphR.get_may (Get.here _)).off (by rfl))) ?_
    refine Lst.nil ?_
    refine At.hd inv (fun w h => (h.weaken (FLe.refl _)).sublist (sc1 (sc1 (sc1 (sk1 (sk1 (sk1 (.refl _)))))))) ?_
    refine HdJ.step [7] (by kernel_rfl) rfl ?_
    refine HdStep.c (fun inv => ?_) ?_
    ·have hm59 : ([(LR.mk (List.replicate n26 false) s57)] : List (LR Bool)).map LR.v = ([(List.replicate n26 false)] : List (List Bool)) := rfl
     refine Lst.buildSlice (α := LR Bool) (xs := ([(LR.mk (List.replicate n26 false) s57)] : List (LR Bool))) (pv := [(0, Sl.v s57)]) rfl rfl (by decide) ⟨rfl, rfl, trivial⟩ (run_buildSlice (α := LR Bool) (z0 := ((LR.mk [] Sl.nil) : LR Bool)) (xs := ([(LR.mk (List.replicate n26 false) s57)] : List (LR Bool))) Try.runUnderlying73 Try.sizeOf75 Try.zeroValue75 rfl rfl rfl (by decide) rfl (fill_cons (cs := encs (List.replicate 1 ((LR.mk [] Sl.nil) : LR Bool))) (cs' := encs ((List.replicate 1 ((LR.mk [] Sl.nil) : LR Bool)).set 0 (LR.mk (List.replicate n26 false) s57))) (vs := [Sl.v s57]) rfl rfl rfl ((Put.elemN (s := 1) (i := 0) (x := ((LR.mk [] Sl.nil) : LR Bool)) (y := (LR.mk (List.replicate n26 false) s57)) rfl rfl (Put.here (vs := [Sl.v s57]) rfl)).off rfl) fill_nil)) rfl rfl (by decide) (fun s58 _ => ?_)
     refine Lst.rowsNil Bool 4 0 ?_
     refine Lst.front (i := 2) rfl (L' := (.own s57 4 1 (encs (List.replicate n26 false))) :: (.rows (α := Bool) 4 (List.replicate 0 (⟨[], Sl.nil⟩ : LR Bool))) :: (.own s58 75 1 (encs ([(LR.mk (List.replicate n26 false) s57)] : List (LR Bool)))) :: (.rows (α := Bool) 4 rs17) :: (.own s16 75 1 (encs rs17)) :: (.blk b9 (enc (GraphR.mk ({ y15 with left := r3 } : Graph) s16 s5 s21)) 101) :: (.own s5 3 1 (encs r3)) :: (.own s1 3 1 (encs ([(-1 : Int)] : List Int))) :: L) rfl ?_
     refine Lst.rowEnd (α := Bool) (xs := (List.replicate n26 false)) (s := s57) rfl ?_
     refine Lst.its (L' := (.rows (α := Bool) 4 ([(LR.mk (List.replicate n26 false) s57)] : List (LR Bool))) :: (.own s58 75 1 (encs ([(LR.mk (List.replicate n26 false) s57)] : List (LR Bool)))) :: (.rows (α := Bool) 4 rs17) :: (.own s16 75 1 (encs rs17)) :: (.blk b9 (enc (GraphR.mk ({ y15 with left := r3 } : Graph) s16 s5 s21)) 101) :: (.own s5 3 1 (encs r3)) :: (.own s1 3 1 (encs ([(-1 : Int)] : List Int))) :: L) rfl ?_
     refine Lst.nil ?_
     refine At.hd inv (fun w h => (h.weaken (FLe.refl _)).sublist (sc1 (sc1 (sc1 (sc1 (sk1 (sk1 (sk1 (.refl _))))))))) ?_
     refine HdJ.step [8] (by kernel_rfl) rfl ?_
     refine HdStep.c (fun inv => ?_) ?_
     ·have hm61 : (rs17 ++ ([(LR.mk (List.replicate n26 false) s57)] : List (LR Bool))).map LR.v = y15.may ++ ([(List.replicate n26 false)] : List (List Bool)) := map_app fm18 hm59
      refine Lst.append (i := 3) (α := LR Bool) (xs := rs17) (ys := ([(LR.mk (List.replicate n26 false) s57)] : List (LR Bool))) rfl rfl (by decide) rfl rfl Try.runUnderlying73 Try.typeInfo75 rfl rfl rfl rfl rfl rfl (Rd.own (i := 1) rfl rfl rfl) rfl (by have := room_some h36; have := map_len fm18; have := map_len hm59; omega) rfl (fun s60 => ?_)
      refine Lst.its (L' := (.rows (α := Bool) 4 ([(LR.mk (List.replicate n26 false) s57)] : List (LR Bool))) :: (.own s58 75 1 (encs ([(LR.mk (List.replicate n26 false) s57)] : List (LR Bool)))) :: (.rows (α := Bool) 4 rs17) :: (.own s60 75 1 (encs (rs17 ++ ([(LR.mk (List.replicate n26 false) s57)] : List (LR Bool))))) :: (.blk b9 (enc (GraphR.mk ({ y15 with left := r3 } : Graph) s16 s5 s21)) 101) :: (.own s5 3 1 (encs r3)) :: (.own s1 3 1 (encs ([(-1 : Int)] : List Int))) :: L) rfl ?_
      refine Lst.front (i := 2) rfl (L' := (.rows (α := Bool) 4 rs17) :: (.rows (α := Bool) 4 ([(LR.mk (List.replicate n26 false) s57)] : List (LR Bool))) :: (.own s58 75 1 (encs ([(LR.mk (List.replicate n26 false) s57)] : List (LR Bool)))) :: (.own s60 75 1 (encs (rs17 ++ ([(LR.mk (List.replicate n26 false) s57)] : List (LR Bool))))) :: (.blk b9 (enc (GraphR.mk ({ y15 with left := r3 } : Graph) s16 s5 s21)) 101) :: (.own s5 3 1 (encs r3)) :: (.own s1 3 1 (encs ([(-1 : Int)] : List Int))) :: L) rfl ?_
      refine Lst.rowsApp ?_
      refine Lst.less (L' := (.rows (α := Bool) 4 (rs17 ++ ([(LR.mk (List.replicate n26 false) s57)] : List (LR Bool)))) :: (.own s60 75 1 (encs (rs17 ++ ([(LR.mk (List.replicate n26 false) s57)] : List (LR Bool))))) :: (.blk b9 (enc (GraphR.mk ({ y15 with left := r3 } : Graph) s16 s5 s21)) 101) :: (.own s5 3 1 (encs r3)) :: (.own s1 3 1 (encs ([(-1 : Int)] : List Int))) :: L) (List.Sublist.cons_cons _ (List.Sublist.cons _ (List.Sublist.cons_cons _ (List.Sublist.cons_cons _ (List.Sublist.cons_cons _ (List.Sublist.cons_cons _ (.refl _))))))) ?_
      refine Lst.its (L' := (.rows (α := Bool) 4 (rs17 ++ ([(LR.mk (List.replicate n26 false) s57)] : List (LR Bool)))) :: (.own s60 75 1 (encs (rs17 ++ ([(LR.mk (List.replicate n26 false) s57)] : List (LR Bool))))) :: (.blk b9 (enc (GraphR.mk ({ y15 with left := r3 } : Graph) s16 s5 s21)) 101) :: (.own s5 3 1 (encs r3)) :: (.own s1 3 1 (encs ([(-1 : Int)] : List Int))) :: L) rfl ?_
      refine Lst.nil ?_
      refine At.hd inv (fun w h => (h.weaken (FLe.refl _)).sublist (sc1 (sc1 (sk1 (sk1 (sk1 (.refl _))))))) ?_
      refine HdJ.done (by kernel_rfl) ?_
      exact At.meetN (s60, y15.may ++ ([(List.replicate n26 false)] : List (List Bool)), (rs17 ++ ([(LR.mk (List.replicate n26 false) s57)] : List (LR Bool))), ({ y15 with left := r3 } : Graph), s16) (FLe.refl _) ⟨rfl, rfl, rfl, rfl, rfl, rfl, rfl, rfl, trivial⟩ rfl ⟨h48, hm61⟩
     exact trivial
    exact trivial
   refine HdStep.c (fun inv => ?_) ?_
   ·have hm64 : ([(LR.mk (List.replicate n26 false) s57)] : List (LR Bool)).map LR.v = ([(List.replicate n26 false)] : List (List Bool)) := rfl
    refine Lst.buildSlice (α := LR Bool) (xs := ([(LR.mk (List.replicate n26 false) s57)] : List (LR Bool))) (pv := [(0, Sl.v s57)]) rfl rfl (by decide) ⟨rfl, rfl, trivial⟩ (run_buildSlice (α := LR Bool) (z0 := ((LR.mk [] Sl.nil) : LR Bool)) (xs := ([(LR.mk (List.replicate n26 false) s57)] : List (LR Bool))) Try.runUnderlying73 Try.sizeOf75 Try.zeroValue75 rfl rfl rfl (by decide) rfl (fill_cons (cs := encs (List.replicate 1 ((LR.mk [] Sl.nil) : LR Bool))) (cs' := encs ((List.replicate 1 ((LR.mk [] Sl.nil) : LR Bool)).set 0 (LR.mk (List.replicate n26 false) s57))) (vs := [Sl.v s57]) rfl rfl rfl ((Put.elemN (s := 1) (i := 0) (x := ((LR.mk [] Sl.nil) : LR Bool)) (y := (LR.mk (List.replicate n26 false) s57)) rfl rfl (Put.here (vs := [Sl.v s57]) rfl)).off rfl) fill_nil)) rfl rfl (by decide) (fun s63 _ => ?_)
    refine Lst.rowsNil Bool 4 0 ?_
    refine Lst.front (i := 2) rfl (L' := (.own s57 4 1 (encs (List.replicate n26 false))) :: (.rows (α := Bool) 4 (List.replicate 0 (⟨[], Sl.nil⟩ : LR Bool))) :: (.own s63 75 1 (encs ([(LR.mk (List.replicate n26 false) s57)] : List (LR Bool)))) :: (.rows (α := Bool) 4 rs17) :: (.own s16 75 1 (encs rs17)) :: (.blk b9 (enc (GraphR.mk ({ y15 with left := r3 } : Graph) s16 s5 s21)) 101) :: (.own s5 3 1 (encs r3)) :: (.own s1 3 1 (encs ([(-1 : Int)] : List Int))) :: L) rfl ?_
    refine Lst.rowEnd (α := Bool) (xs := (List.replicate n26 false)) (s := s57) rfl ?_
    refine Lst.its (L' := (.rows (α := Bool) 4 ([(LR.mk (List.replicate n26 false) s57)] : List (LR Bool))) :: (.own s63 75 1 (encs ([(LR.mk (List.replicate n26 false) s57)] : List (LR Bool)))) :: (.rows (α := Bool) 4 rs17) :: (.own s16 75 1 (encs rs17)) :: (.blk b9 (enc (GraphR.mk ({ y15 with left := r3 } : Graph) s16 s5 s21)) 101) :: (.own s5 3 1 (encs r3)) :: (.own s1 3 1 (encs ([(-1 : Int)] : List Int))) :: L) rfl ?_
    refine Lst.nil ?_
    refine At.hd inv (fun w h => (h.weaken (FLe.refl _)).sublist (sc1 (sc1 (sc1 (sc1 (sk1 (sk1 (sk1 (.refl _))))))))) ?_
    refine HdJ.step [4] (by kernel_rfl) rfl ?_
    refine HdStep.c (fun inv => ?_) ?_
    ·refine Lst.r (Ev.load (i := 4) rfl rfl Try.isAgg73 (v := Sl.v s16) ((GraphR.get_may (Get.here _)).off (by rfl))) ?_
     refine Lst.nil ?_
     refine At.hd inv (fun w h => (h.weaken (FLe.refl _)).sublist (sc1 (sc1 (sc1 (sc1 (sk1 (sk1 (sk1 (.refl _))))))))) ?_
     refine HdJ.step [8] (by kernel_rfl) rfl ?_
     refine HdStep.c (fun inv => ?_) ?_
     ·have hm66 : (rs17 ++ ([(LR.mk (List.replicate n26 false) s57)] : List (LR Bool))).map LR.v = y15.may ++ ([(List.replicate n26 false)] : List (List Bool)) := map_app fm18 hm64
      refine Lst.append (i := 3) (α := LR Bool) (xs := rs17) (ys := ([(LR.mk (List.replicate n26 false) s57)] : List (LR Bool))) rfl rfl (by decide) rfl rfl Try.runUnderlying73 Try.typeInfo75 rfl rfl rfl rfl rfl rfl (Rd.own (i := 1) rfl rfl rfl) rfl (by have := room_some h36; have := map_len fm18; have := map_len hm64; omega) rfl (fun s65 => ?_)
      refine Lst.its (L' := (.rows (α := Bool) 4 ([(LR.mk (List.replicate n26 false) s57)] : List (LR Bool))) :: (.own s63 75 1 (encs ([(LR.mk (List.replicate n26 false) s57)] : List (LR Bool)))) :: (.rows (α := Bool) 4 rs17) :: (.own s65 75 1 (encs (rs17 ++ ([(LR.mk (List.replicate n26 false) s57)] : List (LR Bool))))) :: (.blk b9 (enc (GraphR.mk ({ y15 with left := r3 } : Graph) s16 s5 s21)) 101) :: (.own s5 3 1 (encs r3)) :: (.own s1 3 1 (encs ([(-1 : Int)] : List Int))) :: L) rfl ?_
      refine Lst.front (i := 2) rfl (L' := (.rows (α := Bool) 4 rs17) :: (.rows (α := Bool) 4 ([(LR.mk (List.replicate n26 false) s57)] : List (LR Bool))) :: (.own s63 75 1 (encs ([(LR.mk (List.replicate n26 false) s57)] : List (LR Bool)))) :: (.own s65 75 1 (encs (rs17 ++ ([(LR.mk (List.replicate n26 false) s57)] : List (LR Bool))))) :: (.blk b9 (enc (GraphR.mk ({ y15 with left := r3 } : Graph) s16 s5 s21)) 101) :: (.own s5 3 1 (encs r3)) :: (.own s1 3 1 (encs ([(-1 : Int)] : List Int))) :: L) rfl ?_
      refine Lst.rowsApp ?_
      refine Lst.less (L' := (.rows (α := Bool) 4 (rs17 ++ ([(LR.mk (List.replicate n26 false) s57)] : List (LR Bool)))) :: (.own s65 75 1 (encs (rs17 ++ ([(LR.mk (List.replicate n26 false) s57)] : List (LR Bool))))) :: (.blk b9 (enc (GraphR.mk ({ y15 with left := r3 } : Graph) s16 s5 s21)) 101) :: (.own s5 3 1 (encs r3)) :: (.own s1 3 1 (encs ([(-1 : Int)] : List Int))) :: L) (List.Sublist.cons_cons _ (List.Sublist.cons _ (List.Sublist.cons_cons _ (List.Sublist.cons_cons _ (List.Sublist.cons_cons _ (List.Sublist.cons_cons _ (.refl _))))))) ?_
      refine Lst.its (L' := (.rows (α := Bool) 4 (rs17 ++ ([(LR.mk (List.replicate n26 false) s57)] : List (LR Bool)))) :: (.own s65 75 1 (encs (rs17 ++ ([(LR.mk (List.replicate n26 false) s57)] : List (LR Bool))))) :: (.blk b9 (enc (GraphR.mk ({ y15 with left := r3 } : Graph) s16 s5 s21)) 101) :: (.own s5 3 1 (encs r3)) :: (.own s1 3 1 (encs ([(-1 : Int)] : List Int))) :: L) rfl ?_
      refine Lst.nil ?_
      refine At.hd inv (fun w h => (h.weaken (FLe.refl _)).sublist (sc1 (sc1 (sk1 (sk1 (sk1 (.refl _))))))) ?_
      refine HdJ.done (by kernel_rfl) ?_
      exact At.meetN (s65, y15.may ++ ([(List.replicate n26 false)] : List (List Bool)), (rs17 ++ ([(LR.mk (List.replicate n26 false) s57)] : List (LR Bool))), ({ y15 with left := r3 } : Graph), s16) (FLe.refl _) ⟨rfl, rfl, rfl, rfl, rfl, rfl, rfl, rfl, trivial⟩ rfl ⟨h48, hm66⟩
     exact trivial
    exact trivial
   exact trivial
  exact trivial
 rintro F68 ⟨s41, l42, rs43, y45, s46⟩ hF69 ⟨hy, fm44⟩
 subst hy
 refine Lst.as (e' := [(0, iv a0), (1, iv a1), (2, Sl.v s_a2), (7, pv b9 0), (16, iv a0), (17, iv (i11 : Int)), (19, pv b9 0), (27, Sl.v s41)]) (L' := (.rows (α := Bool) 4 rs43) :: (.own s41 75 1 (encs rs43)) :: (.blk b9 (enc (GraphR.mk ({ y45 with left := r3, seen := y15.seen } : Graph) s46 s5 s21)) 101) :: (.own s5 3 1 (encs r3)) :: (.own s1 3 1 (encs ([(-1 : Int)] : List Int))) :: L) ⟨rfl, rfl, rfl, rfl, rfl, rfl, rfl, rfl, trivial⟩ rfl ?_
 refine Lst.r (Ev.nilCheck rfl) ?_
 refine Lst.r (Ev.fieldAddr (off' := 0) rfl Try.runUnderlying101 rfl Try.sizeOf73 rfl rfl) ?_
 refine Lst.store (i := 2) rfl rfl rfl rfl rfl Try.sizeOf73 (vs := [Sl.v s41]) rfl rfl rfl (cs' := enc (GraphR.mk ({ y45 with may := l42, left := r3, seen := y15.seen } : Graph) s41 s5 s21)) ((GraphR.put_may (Put.here (vs := [Sl.v s41]) rfl)).off (by rfl)) (L' := (.rows (α := Bool) 4 rs43) :: (.own s41 75 1 (encs rs43)) :: (.blk b9 (enc (GraphR.mk ({ y45 with may := l42, left := r3, seen := y15.seen } : Graph) s41 s5 s21)) 101) :: (.own s5 3 1 (encs r3)) :: (.own s1 3 1 (encs ([(-1 : Int)] : List Int))) :: L) rfl ?_
 refine Lst.nil ?_
 refine At.in_normal ?_
 refine At.then ?_
 refine Cd.region ?_
 refine Lst.r (Ev.incr (by omega) rfl rfl) ?_
 refine Lst.r (Ev.move rfl) ?_
 refine Lst.nil ?_
 exact At.meet (i11 + 1, k11, ({ y45 with may := l42, left := r3, seen := y15.seen } : Graph), s41, rs43, s21) (FLe.trans hF24 hF69) ⟨rfl, rfl, rfl, rfl, rfl, rfl, trivial⟩ rfl ⟨⟨hgo11 _ (some_inj H).symm, by omega, fm44, (f22.mono hF69 (.refl _))⟩, Nat.lt_succ_self _⟩
set_option maxRecDepth 20000 in
theorem slices_Index_int_int_sim {a0 : List Int} {a1 : Int} {s_a0 : Sl} {r : Int} (H : slices_Index_int_int a0 a1 = some r) (w0 : World) (F : Frz) (M L : List Item) (hM : M.Sublist L) (hs_a0 : Rd w0 F M s_a0 a0) : Ok Try.prog w0 60 [Sl.v s_a0, iv a1] F (L) (Is (iv r) (L)) := by
 unfold slices_Index_int_int at H
 refine Ok.enter (m := 2) (n := 19) Try.func60 rfl rfl rfl (by decide) ?_
 refine Cd.env (e' := [(0, Sl.v s_a0), (1, iv a1)]) rfl ?_
 refine Cd.seq ?_
 refine Cd.region ?_
 refine Lst.r (Ev.assign rfl) ?_
 refine Lst.nil ?_
 refine At.then ?_
 refine Cd.seq ?_
 refine Cd.seq ?_
 refine Cd.region ?_
 refine Lst.r (Ev.move rfl) ?_
 refine Lst.r (Ev.lenS (α := Int) (xs := a0) (by decide) rfl rfl Try.runUnderlying34 (hs_a0.mono (FLe.refl _) hM)) ?_
 refine Lst.r (Ev.move rfl) ?_
 refine Lst.nil ?_
 refine At.then ?_
 refine Cd.block ?_
 refine Cd.bound (Rd.le (α := Int) (xs := a0) (by decide) (hs_a0.mono (FLe.refl _) hM)) (fun hN8 => ?_)
 obtain ⟨ol1, H, HKl1⟩ := andThen_some H
 refine Cd.loop (σ := Nat × Nat × Unit) (fun (i1, k1, _u) => [(0, Sl.v s_a0), (1, iv a1), (7, iv (a0.length : Int)), (8, iv (i1 : Int))]) (fun (i1, k1, _u) => L) (fun _ => (fun (i1, k1, _u) => rangeM (slices_Index_int_int_B0 a0 a1) k1 i1 () = some ol1 ∧ i1 + k1 = a0.length)) (fun (i1, k1, _u) => k1) (0, a0.length, ()) ⟨rfl, rfl, rfl, rfl, trivial⟩ rfl ⟨H, by omega⟩ ?_
 rintro F2 ⟨i1, k1, _u⟩ hF3 ⟨H, hik1⟩
 refine Cd.as (e' := [(0, Sl.v s_a0), (1, iv a1), (7, iv (a0.length : Int)), (8, iv (i1 : Int))]) (L' := L) ⟨rfl, rfl, rfl, rfl, trivial⟩ rfl ?_
 rcases k1 with _ | k1
 ·have hc1 : decide ((i1 : Int) < (a0.length : Int)) = false := decide_eq_false (by omega)
  replace H := rangeM_end H
  refine Cd.seq ?_
  refine Cd.region ?_
  refine Lst.r (Ev.lss rfl rfl) ?_
  refine Lst.nil ?_
  refine At.then ?_
  refine Cd.seq ?_
  refine Cd.condF rfl hc1 ?_
  refine Cd.exit ?_
  refine At.then_exit ?_
  refine At.then_exit ?_
  refine At.in_exit ?_
  subst H
  replace H := HKl1
  refine At.then ?_
  refine Cd.seq ?_
  refine Cd.region ?_
  refine Lst.r (Ev.assign rfl) ?_
  refine Lst.nil ?_
  refine At.then ?_
  obtain rfl := some_inj H
  refine Cd.ret ?_
  exact At.ret1 rfl (Res.tmp rfl) hF3 (.refl _) ⟨rfl, rfl⟩
 have hc1 : decide ((i1 : Int) < (a0.length : Int)) = true := decide_eq_true (by omega)
 obtain ⟨c1, H, hgo1, hbrk1, hret1⟩ := rangeM_go H
 unfold slices_Index_int_int_B0 at H
 try dsimp only at H
 refine Cd.seq ?_
 refine Cd.region ?_
 refine Lst.r (Ev.lss rfl rfl) ?_
 refine Lst.nil ?_
 refine At.then ?_
 refine Cd.seq ?_
 refine Cd.condT rfl hc1 ?_
 refine Cd.skip ?_
 refine At.then ?_
 refine Cd.seq ?_
 refine Cd.block ?_
 refine Cd.seq ?_
 refine Cd.region ?_
 refine Lst.r (Ev.move rfl) ?_
 refine Lst.r (Ev.assign rfl) ?_
 refine Lst.nil ?_
 refine At.then ?_
 refine Cd.seq ?_
 refine Cd.region ?_
 refine Lst.r (Ev.move rfl) ?_
 refine Lst.r (Ev.move rfl) ?_
 refine Lst.r (Ev.move rfl) ?_
 obtain ⟨x4, h5, H⟩ := bind_some H
 have g6 := lat_some h5
 refine Lst.r (Ev.indexS (α := Int) (xs := a0) rfl rfl Try.runUnderlying34 Try.sizeOf3 rfl (by decide) (hs_a0.mono hF3 hM) g6.1 g6.2.1) ?_
 refine Lst.r (Ev.loadS (α := Int) rfl (hs_a0.mono hF3 hM) Try.isAgg3 (v := iv x4) ((Get.elemN (s := 1) (x := x4) rfl g6.2.2 (Get.here _)).off (by omega))) ?_
 refine Lst.r (Ev.eql rfl rfl) ?_
 refine Lst.nil ?_
 refine At.then ?_
 rcases Bool.eq_false_or_eq_true (a1 == x4) with hb7 | hb7
 ·replace H := ite_t hb7 H
  refine Cd.condT rfl hb7 ?_
  refine Cd.seq ?_
  refine Cd.region ?_
  refine Lst.r (Ev.move rfl) ?_
  refine Lst.r (Ev.assign rfl) ?_
  refine Lst.nil ?_
  refine At.then ?_
  have H := hret1 _ (some_inj H).symm
  subst H
  replace H := HKl1
  obtain rfl := some_inj H
  refine Cd.ret ?_
  refine At.in_ret ?_
  refine At.then_ret ?_
  refine At.then_ret ?_
  refine At.in_ret ?_
  refine At.then_ret ?_
  exact At.ret1 rfl (Res.tmp rfl) hF3 (.refl _) ⟨rfl, rfl⟩
 replace H := ite_f hb7 H
 refine Cd.condF rfl hb7 ?_
 refine Cd.skip ?_
 refine At.in_normal ?_
 refine At.then ?_
 refine Cd.region ?_
 refine Lst.r (Ev.incr (by omega) rfl rfl) ?_
 refine Lst.r (Ev.move rfl) ?_
 refine Lst.nil ?_
 exact At.meet (i1 + 1, k1, ()) hF3 ⟨rfl, rfl, rfl, rfl, trivial⟩ rfl ⟨⟨hgo1 _ (some_inj H).symm, by omega⟩, Nat.lt_succ_self _⟩
set_option maxRecDepth 20000 in
theorem match_Most_sim {fu : Nat} {a0 : Int} {a1 : Int} {a2 : List Pair} {s_a2 : Sl} {r : (List Pair) × Int} (H : match_Most fu a0 a1 a2 = some r) (w0 : World) (F : Frz) (M L : List Item) (hM : M.Sublist L) (hs_a2 : Rd w0 F M s_a2 a2) : Ok Try.prog w0 35 [iv a0, iv a1, Sl.v s_a2] F (L) (fun _ L' v => ∃ (s1 : Sl), v = .tuple #[Sl.v s1, iv r.2] ∧ L' = (.own s1 49 2 (encs r.1)) :: L) := by
 unfold match_Most at H
 refine Ok.enter (m := 3) (n := 44) Try.func35 rfl rfl rfl (by decide) ?_
 refine Cd.env (e' := [(0, iv a0), (1, iv a1), (2, Sl.v s_a2)]) rfl ?_
 refine Cd.seq ?_
 refine Cd.region ?_
 refine Lst.addNil 49 2 ?_
 refine Lst.r (Ev.assign rfl) ?_
 refine Lst.r (Ev.assign rfl) ?_
 refine Lst.nil ?_
 refine At.then ?_
 refine Cd.seq ?_
 refine Cd.seq ?_
 refine Cd.region ?_
 refine Lst.r (Ev.move rfl) ?_
 refine Lst.r (Ev.move rfl) ?_
 refine Lst.r (Ev.move rfl) ?_
 obtain ⟨r2, h3, H⟩ := bind_some H
 refine Lst.call1 rfl rfl (by decide) (vs := [iv a0, iv a1, Sl.v s_a2]) ⟨rfl, rfl, rfl, trivial⟩ Try.call37 (match_Check_sim h3 w0 _ M _ (sc1 hM) (hs_a2.mono (FLe.refl _) (.refl _))) ?_
 refine Lst.r (Ev.assign rfl) ?_
 refine Lst.nil ?_
 refine At.then ?_
 refine Cd.seq ?_
 refine Cd.region ?_
 refine Lst.r (Ev.move rfl) ?_
 refine Lst.r (Ev.neq rfl rfl) ?_
 refine Lst.nil ?_
 refine At.then ?_
 rcases Bool.eq_false_or_eq_true (r2 != (0 : Int)) with hb6 | hb6
 ·replace H := ite_t hb6 H
  refine Cd.condT rfl hb6 ?_
  refine Cd.seq ?_
  refine Cd.region ?_
  refine Lst.r (Ev.move rfl) ?_
  refine Lst.addNil 49 2 ?_
  refine Lst.r (Ev.assign rfl) ?_
  refine Lst.r (Ev.assign rfl) ?_
  refine Lst.nil ?_
  refine At.then ?_
  obtain rfl := some_inj H
  refine Cd.ret ?_
  refine At.then_ret ?_
  exact At.ret2 rfl (Res.tmp rfl) (Res.tmp rfl) (FLe.refl _) (sk1 (sc1 (.refl _))) ⟨Sl.nil, rfl, rfl⟩
 replace H := ite_f hb6 H
 refine Cd.condF rfl hb6 ?_
 refine Cd.skip ?_
 refine At.then ?_
 refine Cd.seq ?_
 refine Cd.region ?_
 refine Lst.r (Ev.move rfl) ?_
 refine Lst.r (Ev.move rfl) ?_
 refine Lst.r (Ev.move rfl) ?_
 obtain ⟨r8, h9, H⟩ := bind_some H
 refine Lst.call rfl rfl (by decide) (vs := [iv a0, iv a1, Sl.v s_a2]) ⟨rfl, rfl, rfl, trivial⟩ Try.call59 (match_most_sim h9 w0 _ M _ (sc1 hM) (hs_a2.mono (FLe.refl _) (.refl _))) (fun F21 L' v hF22 hv => ?_)
 obtain ⟨b10, s11, rs12, s16, s18, rfl, rfl, fm13, f19⟩ := hv
 refine Lst.r (Ev.assign rfl) ?_
 refine Lst.nil ?_
 refine At.then ?_
 refine Cd.seq ?_
 refine Cd.as (e' := [(0, iv a0), (9, pv b10 0)]) (L' := (.rows (α := Bool) 4 rs12) :: (.own s11 75 1 (encs rs12)) :: (.own s16 3 1 (encs r8.left)) :: (.blk b10 (enc (GraphR.mk r8 s11 s16 s18)) 101) :: (.own Sl.nil 49 2 (encs ([] : List Pair))) :: L) ⟨rfl, rfl, trivial⟩ rfl ?_
 refine Cd.region ?_
 refine Lst.addNil 49 2 ?_
 refine Lst.r (Ev.assign rfl) ?_
 refine Lst.nil ?_
 refine At.then ?_
 refine Cd.seq ?_
 refine Cd.seq ?_
 refine Cd.region ?_
 refine Lst.r (Ev.move rfl) ?_
 refine Lst.r (Ev.move rfl) ?_
 refine Lst.nil ?_
 refine At.then ?_
 refine Cd.block ?_
 obtain ⟨nn29, hN40, H⟩ := bind_some H
 replace hN40 := upTo_some hN40
 obtain ⟨ol24, H, HKl24⟩ := bind_some H
 refine Cd.loop (σ := Nat × Nat × Sl × (List Pair)) (fun (i24, k24, s25, l26) => [(9, pv b10 0), (10, Sl.v s25), (24, iv a0), (25, iv (i24 : Int))]) (fun (i24, k24, s25, l26) => (.own s25 49 2 (encs l26)) :: (.rows (α := Bool) 4 rs12) :: (.own s11 75 1 (encs rs12)) :: (.own s16 3 1 (encs r8.left)) :: (.blk b10 (enc (GraphR.mk r8 s11 s16 s18)) 101) :: (.own Sl.nil 49 2 (encs ([] : List Pair))) :: L) (fun _ => (fun (i24, k24, s25, l26) => rangeF (match_Most_B0 r8) k24 i24 l26 = some ol24 ∧ i24 + k24 = nn29)) (fun (i24, k24, s25, l26) => k24) (0, nn29, Sl.nil, ([] : List Pair)) ⟨rfl, rfl, rfl, rfl, trivial⟩ rfl ⟨H, by omega⟩ ?_
 rintro F27 ⟨i24, k24, s25, l26⟩ hF28 ⟨H, hik24⟩
 refine Cd.as (e' := [(9, pv b10 0), (10, Sl.v s25), (24, iv a0), (25, iv (i24 : Int))]) (L' := (.own s25 49 2 (encs l26)) :: (.rows (α := Bool) 4 rs12) :: (.own s11 75 1 (encs rs12)) :: (.own s16 3 1 (encs r8.left)) :: (.blk b10 (enc (GraphR.mk r8 s11 s16 s18)) 101) :: (.own Sl.nil 49 2 (encs ([] : List Pair))) :: L) ⟨rfl, rfl, rfl, rfl, trivial⟩ rfl ?_
 rcases k24 with _ | k24
 ·have hc24 : decide ((i24 : Int) < a0) = false := decide_eq_false (by omega)
  replace H := rangeF_end H
  refine Cd.seq ?_
  refine Cd.region ?_
  refine Lst.r (Ev.lss rfl rfl) ?_
  refine Lst.nil ?_
  refine At.then ?_
  refine Cd.seq ?_
  refine Cd.condF rfl hc24 ?_
  refine Cd.exit ?_
  refine At.then_exit ?_
  refine At.then_exit ?_
  refine At.in_exit ?_
  subst H
  replace H := HKl24
  refine At.then ?_
  refine Cd.seq ?_
  refine Cd.region ?_
  refine Lst.r (Ev.move rfl) ?_
  refine Lst.r (Ev.assign rfl) ?_
  refine Lst.r (Ev.assign rfl) ?_
  refine Lst.nil ?_
  refine At.then ?_
  obtain rfl := some_inj H
  refine Cd.ret ?_
  exact At.ret2 rfl (Res.tmp rfl) (Res.tmp rfl) (FLe.trans hF22 hF28) (sk1 (sc1 (sc1 (sc1 (sc1 (sc1 (.refl _))))))) ⟨s25, rfl, rfl⟩
 have hc24 : decide ((i24 : Int) < a0) = true := decide_eq_true (by omega)
 obtain ⟨c24, H, hgo24⟩ := rangeF_go H
 unfold match_Most_B0 at H
 try dsimp only at H
 refine Cd.seq ?_
 refine Cd.region ?_
 refine Lst.r (Ev.lss rfl rfl) ?_
 refine Lst.nil ?_
 refine At.then ?_
 refine Cd.seq ?_
 refine Cd.condT rfl hc24 ?_
 refine Cd.skip ?_
 refine At.then ?_
 refine Cd.seq ?_
 refine Cd.block ?_
 refine Cd.seq ?_
 refine Cd.region ?_
 refine Lst.r (Ev.move rfl) ?_
 refine Lst.r (Ev.assign rfl) ?_
 refine Lst.nil ?_
 refine At.then ?_
 refine Cd.seq ?_
 refine Cd.region ?_
 refine Lst.r (Ev.move rfl) ?_
 refine Lst.r (Ev.nilCheck rfl) ?_
 refine Lst.r (Ev.fieldAddr (off' := 1) rfl Try.runUnderlying101 rfl Try.sizeOf34 rfl rfl) ?_
 refine Lst.r (Ev.load (i := 4) rfl rfl Try.isAgg34 (v := Sl.v s16) ((GraphR.get_left (Get.here _)).off (by rfl))) ?_
 refine Lst.r (Ev.move rfl) ?_
 obtain ⟨r30, h31, H⟩ := bind_some H
 refine Lst.call1 rfl rfl (by decide) (vs := [Sl.v s16, iv (i24 : Int)]) ⟨rfl, rfl, trivial⟩ Try.call60 (slices_Index_int_int_sim h31 w0 _ _ _ (.refl _) (Rd.own (i := 3) rfl rfl rfl)) ?_
 refine Lst.r (Ev.assign rfl) ?_
 refine Lst.nil ?_
 refine At.then ?_
 refine Cd.seq ?_
 refine Cd.region ?_
 refine Lst.r (Ev.move rfl) ?_
 refine Lst.r (Ev.geq rfl rfl) ?_
 refine Lst.nil ?_
 refine At.then ?_
 rcases (Bool.eq_false_or_eq_true (decide (r30 ≥ (0 : Int)))).symm with hb34 | hb34
 ·replace H := ite_f hb34 H
  refine Cd.condF rfl hb34 ?_
  refine Cd.skip ?_
  refine At.in_normal ?_
  refine At.then ?_
  refine Cd.region ?_
  refine Lst.r (Ev.incr (by omega) rfl rfl) ?_
  refine Lst.r (Ev.move rfl) ?_
  refine Lst.nil ?_
  exact At.meet (i24 + 1, k24, s25, l26) hF28 ⟨rfl, rfl, rfl, rfl, trivial⟩ rfl ⟨⟨hgo24 _ (some_inj H).symm, by omega⟩, Nat.lt_succ_self _⟩
 replace H := ite_t hb34 H
 refine Cd.condT rfl hb34 ?_
 refine Cd.region ?_
 refine Lst.r (Ev.move rfl) ?_
 refine Lst.r (Ev.move rfl) ?_
 refine Lst.r (Ev.move rfl) ?_
 refine Lst.r (Ev.build (v := .agg (enc ({ Pair.zero with A := (i24 : Int), B := r30 } : Pair)).toArray) (pv := [(0, iv (i24 : Int)), (1, iv r30)]) ⟨rfl, rfl, ⟨rfl, rfl, trivial⟩⟩ (fun w => by kernel_rfl)) ?_
 refine Lst.buildSlice (α := Pair) (xs := ([({ Pair.zero with A := (i24 : Int), B := r30 } : Pair)] : List Pair)) (pv := [(0, .agg (enc ({ Pair.zero with A := (i24 : Int), B := r30 } : Pair)).toArray)]) rfl rfl (by decide) ⟨rfl, rfl, trivial⟩ (run_buildSlice (α := Pair) (z0 := Pair.zero) (xs := ([({ Pair.zero with A := (i24 : Int), B := r30 } : Pair)] : List Pair)) Try.runUnderlying22 Try.sizeOf49 Try.zeroValue49 rfl rfl rfl (by decide) rfl (fill_cons (cs := encs (List.replicate 1 Pair.zero)) (cs' := encs ((List.replicate 1 Pair.zero).set 0 ({ Pair.zero with A := (i24 : Int), B := r30 } : Pair))) (vs := enc ({ Pair.zero with A := (i24 : Int), B := r30 } : Pair)) rfl rfl (Enc.len _) ((Put.elemN (s := 2) (i := 0) (x := Pair.zero) (y := ({ Pair.zero with A := (i24 : Int), B := r30 } : Pair)) rfl rfl (Put.here ((Enc.len _).trans (Enc.len _).symm))).off rfl) fill_nil)) rfl rfl (by decide) (fun s35 _ => ?_)
 obtain ⟨u37, h38, H⟩ := bind_some H
 refine Lst.append (i := 1) (α := Pair) (xs := l26) (ys := ([({ Pair.zero with A := (i24 : Int), B := r30 } : Pair)] : List Pair)) rfl rfl (by decide) rfl rfl Try.runUnderlying22 Try.typeInfo49 rfl rfl rfl rfl rfl rfl (Rd.own (i := 0) rfl rfl rfl) rfl (room_some h38) rfl (fun s39 => ?_)
 refine Lst.its (L' := (.own s35 49 2 (encs ([({ Pair.zero with A := (i24 : Int), B := r30 } : Pair)] : List Pair))) :: (.own s39 49 2 (encs (l26 ++ ([({ Pair.zero with A := (i24 : Int), B := r30 } : Pair)] : List Pair)))) :: (.rows (α := Bool) 4 rs12) :: (.own s11 75 1 (encs rs12)) :: (.own s16 3 1 (encs r8.left)) :: (.blk b10 (enc (GraphR.mk r8 s11 s16 s18)) 101) :: (.own Sl.nil 49 2 (encs ([] : List Pair))) :: L) rfl ?_
 refine Lst.r (Ev.assign rfl) ?_
 refine Lst.nil ?_
 refine At.in_normal ?_
 refine At.then ?_
 refine Cd.as (e' := [(9, pv b10 0), (24, iv a0), (25, iv (i24 : Int)), (10, Sl.v s39)]) (L' := (.own s35 49 2 (encs ([({ Pair.zero with A := (i24 : Int), B := r30 } : Pair)] : List Pair))) :: (.own s39 49 2 (encs (l26 ++ ([({ Pair.zero with A := (i24 : Int), B := r30 } : Pair)] : List Pair)))) :: (.rows (α := Bool) 4 rs12) :: (.own s11 75 1 (encs rs12)) :: (.own s16 3 1 (encs r8.left)) :: (.blk b10 (enc (GraphR.mk r8 s11 s16 s18)) 101) :: (.own Sl.nil 49 2 (encs ([] : List Pair))) :: L) ⟨rfl, rfl, rfl, rfl, trivial⟩ rfl ?_
 refine Cd.region ?_
 refine Lst.r (Ev.incr (by omega) rfl rfl) ?_
 refine Lst.r (Ev.move rfl) ?_
 refine Lst.nil ?_
 refine At.less (L' := (.own s39 49 2 (encs (l26 ++ ([({ Pair.zero with A := (i24 : Int), B := r30 } : Pair)] : List Pair)))) :: (.rows (α := Bool) 4 rs12) :: (.own s11 75 1 (encs rs12)) :: (.own s16 3 1 (encs r8.left)) :: (.blk b10 (enc (GraphR.mk r8 s11 s16 s18)) 101) :: (.own Sl.nil 49 2 (encs ([] : List Pair))) :: L) (sc1 (sk1 (sk1 (sk1 (sk1 (sk1 (sk1 (.refl _)))))))) ?_
 exact At.meet (i24 + 1, k24, s39, l26 ++ ([({ Pair.zero with A := (i24 : Int), B := r30 } : Pair)] : List Pair)) hF28 ⟨rfl, rfl, rfl, rfl, trivial⟩ rfl ⟨⟨hgo24 _ (some_inj H).symm, by omega⟩, Nat.lt_succ_self _⟩
set_option maxRecDepth 20000 in
theorem slices_Contains_int_int_sim {a0 : List Int} {a1 : Int} {s_a0 : Sl} {r : Bool} (H : slices_Contains_int_int a0 a1 = some r) (w0 : World) (F : Frz) (M L : List Item) (hM : M.Sublist L) (hs_a0 : Rd w0 F M s_a0 a0) : Ok Try.prog w0 57 [Sl.v s_a0, iv a1] F (L) (Is (.bool r) (L)) := by
 unfold slices_Contains_int_int at H
 refine Ok.enter (m := 2) (n := 9) Try.func57 rfl rfl rfl (by decide) ?_
 refine Cd.env (e' := [(0, Sl.v s_a0), (1, iv a1)]) rfl ?_
 refine Cd.seq ?_
 refine Cd.region ?_
 refine Lst.r (Ev.assign rfl) ?_
 refine Lst.nil ?_
 refine At.then ?_
 refine Cd.seq ?_
 refine Cd.region ?_
 refine Lst.r (Ev.move rfl) ?_
 refine Lst.r (Ev.move rfl) ?_
 obtain ⟨r1, h2, H⟩ := bind_some H
 refine Lst.call1 rfl rfl (by decide) (vs := [Sl.v s_a0, iv a1]) ⟨rfl, rfl, trivial⟩ Try.call60 (slices_Index_int_int_sim h2 w0 _ M _ hM (hs_a0.mono (FLe.refl _) (.refl _))) ?_
 refine Lst.r (Ev.geq rfl rfl) ?_
 refine Lst.r (Ev.assign rfl) ?_
 refine Lst.nil ?_
 refine At.then ?_
 obtain rfl := some_inj H
 refine Cd.ret ?_
 exact At.ret1 rfl (Res.tmp rfl) (FLe.refl _) (.refl _) ⟨rfl, rfl⟩
set_option maxRecDepth 20000 in
theorem match_Cover_1_simR : ∀ (fu : Nat) {a0 : Int} {a1 : List Bool} {a2_p : Graph} {a3 : List Bool} {b_a1 : Nat} {s_a1 : Sl} {b_a2 : Nat} {b_a2_p : Nat} {s_a2_p_0 : Sl} {rs_a2_p_0 : List (LR Bool)} {s_a2_p_1 : Sl} {s_a2_p_2 : Sl} {b_a3 : Nat} {s_a3 : Sl} {b_a4 : Nat} {r : (List Bool) × (List Bool)} (H : match_Cover_1 fu a0 a1 a2_p a3 = some r) (w0 : World) (F : Frz) (M L : List Item) (hM : M.Sublist L) (hm_a2_p_0 : rs_a2_p_0.map LR.v = a2_p.may) (hs_a2_p_0 : Rd w0 F M s_a2_p_0 rs_a2_p_0) (ha_a2_p_0 : All LR.rel w0 F M rs_a2_p_0) (hs_a2_p_1 : Rd w0 F M s_a2_p_1 a2_p.left) (hs_a2_p_2 : Rd w0 F M s_a2_p_2 a2_p.seen), Ok Try.prog w0 61 [iv a0, pv b_a1 0, pv b_a2 0, pv b_a3 0, pv b_a4 0] F ((.own s_a1 4 1 (encs a1)) :: (.blk b_a1 (enc s_a1) 75) :: (.blk b_a2_p (enc (GraphR.mk a2_p s_a2_p_0 s_a2_p_1 s_a2_p_2)) 101) :: (.blk b_a2 [pv b_a2_p 0] 97) :: (.own s_a3 4 1 (encs a3)) :: (.blk b_a3 (enc s_a3) 75) :: (.blk b_a4 [.func (.func 61) #[] #[pv b_a1 0, pv b_a2 0, pv b_a3 0, pv b_a4 0]] 102) :: L) (fun _ L' v => v = .tuple #[] ∧ L' = (.own s_a1 4 1 (encs r.1)) :: (.blk b_a1 (enc s_a1) 75) :: (.blk b_a2_p (enc (GraphR.mk a2_p s_a2_p_0 s_a2_p_1 s_a2_p_2)) 101) :: (.blk b_a2 [pv b_a2_p 0] 97) :: (.own s_a3 4 1 (encs r.2)) :: (.blk b_a3 (enc s_a3) 75) :: (.blk b_a4 [.func (.func 61) #[] #[pv b_a1 0, pv b_a2 0, pv b_a3 0, pv b_a4 0]] 102) :: L) := by
 intro fu
 induction fu with
 | zero => intro a0 a1 a2_p a3 b_a1 s_a1 b_a2 b_a2_p s_a2_p_0 rs_a2_p_0 s_a2_p_1 s_a2_p_2 b_a3 s_a3 b_a4 r H; exact nomatch (show (none : Option ((List Bool) × (List Bool))) = some _ from H)
 | succ fu ih =>
  intro a0 a1 a2_p a3 b_a1 s_a1 b_a2 b_a2_p s_a2_p_0 rs_a2_p_0 s_a2_p_1 s_a2_p_2 b_a3 s_a3 b_a4 r H w0 F M L hM hm_a2_p_0 hs_a2_p_0 ha_a2_p_0 hs_a2_p_1 hs_a2_p_2
  replace H : match_Cover_1_R (match_Cover_1 fu) a0 a1 a2_p a3 = some r := H
  generalize match_Cover_1 fu = rc at H ih
  unfold match_Cover_1_R at H
  refine Ok.enter (m := 5) (n := 57) Try.func61 rfl rfl rfl (by decide) ?_
  refine Cd.env (e' := [(0, iv a0), (1, pv b_a1 0), (2, pv b_a2 0), (3, pv b_a3 0), (4, pv b_a4 0)]) rfl ?_
  refine Cd.seq ?_
  refine Cd.seq ?_
  refine Cd.region ?_
  refine Lst.r (Ev.load (i := 1) rfl rfl Try.isAgg75 (v := Sl.v s_a1) (Get.here _)) ?_
  refine Lst.r (Ev.move rfl) ?_
  obtain ⟨x8, h9, H⟩ := bind_some H
  have g10 := lat_some h9
  refine Lst.r (Ev.indexS (α := Bool) (xs := a1) rfl rfl Try.runUnderlying75 Try.sizeOf4 rfl (by decide) (Rd.own (i := 0) rfl rfl rfl) g10.1 g10.2.1) ?_
  refine Lst.r (Ev.loadS (α := Bool) rfl (Rd.own (i := 0) rfl rfl rfl) Try.isAgg4 (v := .bool x8) ((Get.elemN (s := 1) (x := x8) rfl g10.2.2 (Get.here _)).off (by omega))) ?_
  refine Lst.nil ?_
  refine At.then ?_
  rcases Bool.eq_false_or_eq_true x8 with hb11 | hb11
  ·replace H := ite_t hb11 H
   refine Cd.condT rfl hb11 ?_
   obtain rfl := some_inj H
   refine Cd.ret ?_
   refine At.then_ret ?_
   exact At.ret0 (.inl rfl) rfl (FLe.refl _) (sk1 (sk1 (sk1 (sk1 (sk1 (sk1 (sk1 (.refl _)))))))) ⟨rfl, rfl⟩
  replace H := ite_f hb11 H
  refine Cd.condF rfl hb11 ?_
  refine Cd.skip ?_
  refine At.then ?_
  refine Cd.seq ?_
  refine Cd.region ?_
  refine Lst.r (Ev.load (i := 1) rfl rfl Try.isAgg75 (v := Sl.v s_a1) (Get.here _)) ?_
  refine Lst.r (Ev.move rfl) ?_
  obtain ⟨x12, h13, H⟩ := bind_some H
  have g14 := lat_some h13
  refine Lst.r (Ev.indexS (α := Bool) (xs := a1) rfl rfl Try.runUnderlying75 Try.sizeOf4 rfl (by decide) (Rd.own (i := 0) rfl rfl rfl) g14.1 g14.2.1) ?_
  obtain ⟨p15, h16, H⟩ := Let_some H
  refine Lst.storeS (i := 0) rfl rfl rfl rfl rfl Try.sizeOf4 (vs := [.bool true]) rfl rfl (by decide) rfl (xs' := encs p15) (by rw [← h16]; exact (Put.elemN (s := 1) (x := x12) rfl g14.2.2 (Put.here (vs := [.bool true]) rfl)).off (by omega)) (L' := (.own s_a1 4 1 (encs p15)) :: (.blk b_a1 (enc s_a1) 75) :: (.blk b_a2_p (enc (GraphR.mk a2_p s_a2_p_0 s_a2_p_1 s_a2_p_2)) 101) :: (.blk b_a2 [pv b_a2_p 0] 97) :: (.own s_a3 4 1 (encs a3)) :: (.blk b_a3 (enc s_a3) 75) :: (.blk b_a4 [.func (.func 61) #[] #[pv b_a1 0, pv b_a2 0, pv b_a3 0, pv b_a4 0]] 102) :: L) rfl ?_
  refine Lst.nil ?_
  refine At.then ?_
  refine Cd.seq ?_
  refine Cd.region ?_
  refine Lst.r (Ev.load (i := 3) rfl rfl Try.isAgg97 (v := pv b_a2_p 0) (Get.here _)) ?_
  refine Lst.r (Ev.nilCheck rfl) ?_
  refine Lst.r (Ev.fieldAddr (off' := 0) rfl Try.runUnderlying101 rfl Try.sizeOf73 rfl rfl) ?_
  refine Lst.r (Ev.load (i := 2) rfl rfl Try.isAgg73 (v := Sl.v s_a2_p_0) ((GraphR.get_may (Get.here _)).off (by rfl))) ?_
  refine Lst.r (Ev.move rfl) ?_
  obtain ⟨x17, h18, H⟩ := bind_some H
  have g19 := lat_some h18
  obtain ⟨⟨r20v, r20h⟩, r20g, r20e, r20m⟩ := map_get hm_a2_p_0 g19.2.2
  obtain rfl : x17 = r20v := r20e.symm
  have r20q : Rd w0 _ _ r20h x17 := ha_a2_p_0 _ r20m
  refine Lst.r (Ev.indexS (α := LR Bool) (xs := rs_a2_p_0) rfl rfl Try.runUnderlying73 Try.sizeOf75 rfl (by decide) (hs_a2_p_0.mono (FLe.refl _) (sc4 (sc2 (sc1 hM)))) g19.1 (by have := map_len hm_a2_p_0; omega)) ?_
  refine Lst.r (Ev.loadS (α := LR Bool) rfl (hs_a2_p_0.mono (FLe.refl _) (sc4 (sc2 (sc1 hM)))) Try.isAgg75 (v := Sl.v r20h) ((Get.elemN (s := 1) rfl r20g (Get.here _)).off (by omega))) ?_
  refine Lst.r (Ev.lenS (α := Bool) (xs := x17) (by decide) rfl rfl Try.runUnderlying75 (r20q.mono (FLe.refl _) (sc4 (sc2 (sc1 hM))))) ?_
  refine Lst.r (Ev.move rfl) ?_
  refine Lst.nil ?_
  refine At.then ?_
  refine Cd.block ?_
  refine Cd.bound (Rd.le (α := Bool) (xs := x17) (by decide) (r20q.mono (FLe.refl _) (sc4 (sc2 (sc1 hM))))) (fun hN54 => ?_)
  obtain ⟨ol21, H, HKl21⟩ := bind_some H
  refine Cd.loop (σ := Nat × Nat × (List Bool) × (List Bool)) (fun (i21, k21, l22, l23) => [(2, pv b_a2 0), (3, pv b_a3 0), (4, pv b_a4 0), (21, Sl.v r20h), (22, iv (x17.length : Int)), (23, iv (i21 : Int))]) (fun (i21, k21, l22, l23) => (.own s_a1 4 1 (encs l22)) :: (.blk b_a1 (enc s_a1) 75) :: (.blk b_a2_p (enc (GraphR.mk a2_p s_a2_p_0 s_a2_p_1 s_a2_p_2)) 101) :: (.blk b_a2 [pv b_a2_p 0] 97) :: (.own s_a3 4 1 (encs l23)) :: (.blk b_a3 (enc s_a3) 75) :: (.blk b_a4 [.func (.func 61) #[] #[pv b_a1 0, pv b_a2 0, pv b_a3 0, pv b_a4 0]] 102) :: L) (fun _ => (fun (i21, k21, l22, l23) => rangeF (match_Cover_1_B0 a2_p x17 rc) k21 i21 (l22, l23) = some ol21 ∧ i21 + k21 = x17.length)) (fun (i21, k21, l22, l23) => k21) (0, x17.length, p15, a3) ⟨rfl, rfl, rfl, rfl, rfl, rfl, trivial⟩ rfl ⟨H, by omega⟩ ?_
  rintro F24 ⟨i21, k21, l22, l23⟩ hF25 ⟨H, hik21⟩
  refine Cd.as (e' := [(2, pv b_a2 0), (3, pv b_a3 0), (4, pv b_a4 0), (21, Sl.v r20h), (22, iv (x17.length : Int)), (23, iv (i21 : Int))]) (L' := (.own s_a1 4 1 (encs l22)) :: (.blk b_a1 (enc s_a1) 75) :: (.blk b_a2_p (enc (GraphR.mk a2_p s_a2_p_0 s_a2_p_1 s_a2_p_2)) 101) :: (.blk b_a2 [pv b_a2_p 0] 97) :: (.own s_a3 4 1 (encs l23)) :: (.blk b_a3 (enc s_a3) 75) :: (.blk b_a4 [.func (.func 61) #[] #[pv b_a1 0, pv b_a2 0, pv b_a3 0, pv b_a4 0]] 102) :: L) ⟨rfl, rfl, rfl, rfl, rfl, rfl, trivial⟩ rfl ?_
  rcases k21 with _ | k21
  ·have hc21 : decide ((i21 : Int) < (x17.length : Int)) = false := decide_eq_false (by omega)
   replace H := rangeF_end H
   refine Cd.seq ?_
   refine Cd.region ?_
   refine Lst.r (Ev.lss rfl rfl) ?_
   refine Lst.nil ?_
   refine At.then ?_
   refine Cd.seq ?_
   refine Cd.condF rfl hc21 ?_
   refine Cd.exit ?_
   refine At.then_exit ?_
   refine At.then_exit ?_
   refine At.in_exit ?_
   subst H
   replace H := HKl21
   obtain rfl := some_inj H
   exact At.ret0 (.inr rfl) rfl hF25 (sk1 (sk1 (sk1 (sk1 (sk1 (sk1 (sk1 (.refl _)))))))) ⟨rfl, rfl⟩
  have hc21 : decide ((i21 : Int) < (x17.length : Int)) = true := decide_eq_true (by omega)
  obtain ⟨c21, H, hgo21⟩ := rangeF_go H
  unfold match_Cover_1_B0 at H
  try dsimp only at H
  refine Cd.seq ?_
  refine Cd.region ?_
  refine Lst.r (Ev.lss rfl rfl) ?_
  refine Lst.nil ?_
  refine At.then ?_
  refine Cd.seq ?_
  refine Cd.condT rfl hc21 ?_
  refine Cd.skip ?_
  refine At.then ?_
  refine Cd.seq ?_
  refine Cd.block ?_
  refine Cd.seq ?_
  refine Cd.region ?_
  refine Lst.r (Ev.move rfl) ?_
  obtain ⟨x26, h27, H⟩ := bind_some H
  have g28 := lat_some h27
  refine Lst.r (Ev.indexS (α := Bool) (xs := x17) rfl rfl Try.runUnderlying75 Try.sizeOf4 rfl (by decide) (r20q.mono hF25 (sc4 (sc2 (sc1 hM)))) g28.1 g28.2.1) ?_
  refine Lst.r (Ev.loadS (α := Bool) rfl (r20q.mono hF25 (sc4 (sc2 (sc1 hM)))) Try.isAgg4 (v := .bool x26) ((Get.elemN (s := 1) (x := x26) rfl g28.2.2 (Get.here _)).off (by omega))) ?_
  refine Lst.r (Ev.assign rfl) ?_
  refine Lst.r (Ev.assign rfl) ?_
  refine Lst.nil ?_
  refine At.then ?_
  refine Cd.seq ?_
  refine Cd.region ?_
  refine Lst.r (Ev.move rfl) ?_
  refine Lst.r (Ev.move rfl) ?_
  obtain ⟨o29, H, HKo29⟩ := bind_some H
  refine Lst.join (σ := Bool) 6 (fun y30 => [(2, pv b_a2 0), (3, pv b_a3 0), (4, pv b_a4 0), (6, iv (i21 : Int)), (21, Sl.v r20h), (22, iv (x17.length : Int)), (23, iv (i21 : Int)), (35, .bool y30)]) (fun y30 => (.own s_a1 4 1 (encs l22)) :: (.blk b_a1 (enc s_a1) 75) :: (.blk b_a2_p (enc (GraphR.mk a2_p s_a2_p_0 s_a2_p_1 s_a2_p_2)) 101) :: (.blk b_a2 [pv b_a2_p 0] 97) :: (.own s_a3 4 1 (encs l23)) :: (.blk b_a3 (enc s_a3) 75) :: (.blk b_a4 [.func (.func 61) #[] #[pv b_a1 0, pv b_a2 0, pv b_a3 0, pv b_a4 0]] 102) :: L) (fun _ y30 => y30 = o29) ?_ ?_
  ·rcases (Bool.eq_false_or_eq_true x26).symm with hb31 | hb31
   ·replace H := ite_f hb31 H
    refine Lst.skip rfl rfl rfl hb31 rfl (by decide) ?_
    refine Lst.skip rfl rfl rfl hb31 rfl (by decide) ?_
    refine Lst.skip rfl rfl rfl hb31 rfl (by decide) ?_
    refine Lst.skip rfl rfl rfl hb31 rfl (by decide) ?_
    refine Lst.skip rfl rfl rfl hb31 rfl (by decide) ?_
    refine Lst.r (Ev.pickF rfl hb31 rfl) ?_
    refine Lst.nil ?_
    exact At.meet false (FLe.refl _) ⟨rfl, rfl, rfl, rfl, rfl, rfl, rfl, rfl, trivial⟩ rfl (some_inj H)
   replace H := ite_t hb31 H
   refine Lst.rG hb31 (Ev.load (i := 5) rfl rfl Try.isAgg75 (v := Sl.v s_a3) (Get.here _)) ?_
   refine Lst.rG hb31 (Ev.move rfl) ?_
   obtain ⟨x32, h33, H⟩ := bind_some H
   have g34 := lat_some h33
   refine Lst.rG hb31 (Ev.indexS (α := Bool) (xs := l23) rfl rfl Try.runUnderlying75 Try.sizeOf4 rfl (by decide) (Rd.own (i := 4) rfl rfl rfl) g34.1 g34.2.1) ?_
   refine Lst.rG hb31 (Ev.loadS (α := Bool) rfl (Rd.own (i := 4) rfl rfl rfl) Try.isAgg4 (v := .bool x32) ((Get.elemN (s := 1) (x := x32) rfl g34.2.2 (Get.here _)).off (by omega))) ?_
   refine Lst.rG hb31 (Ev.not rfl) ?_
   refine Lst.r (Ev.pickT rfl hb31 rfl) ?_
   refine Lst.nil ?_
   exact At.meet (!x32) (FLe.refl _) ⟨rfl, rfl, rfl, rfl, rfl, rfl, rfl, rfl, trivial⟩ rfl (some_inj H)
  rintro F35 y30 hF36 hy
  subst hy
  refine Lst.as (e' := [(2, pv b_a2 0), (3, pv b_a3 0), (4, pv b_a4 0), (6, iv (i21 : Int)), (21, Sl.v r20h), (22, iv (x17.length : Int)), (23, iv (i21 : Int)), (35, .bool y30)]) (L' := (.own s_a1 4 1 (encs l22)) :: (.blk b_a1 (enc s_a1) 75) :: (.blk b_a2_p (enc (GraphR.mk a2_p s_a2_p_0 s_a2_p_1 s_a2_p_2)) 101) :: (.blk b_a2 [pv b_a2_p 0] 97) :: (.own s_a3 4 1 (encs l23)) :: (.blk b_a3 (enc s_a3) 75) :: (.blk b_a4 [.func (.func 61) #[] #[pv b_a1 0, pv b_a2 0, pv b_a3 0, pv b_a4 0]] 102) :: L) ⟨rfl, rfl, rfl, rfl, rfl, rfl, rfl, rfl, trivial⟩ rfl ?_
  replace H := HKo29
  refine Lst.nil ?_
  refine At.then ?_
  rcases (Bool.eq_false_or_eq_true y30).symm with hb37 | hb37
  ·replace H := ite_f hb37 H
   refine Cd.condF rfl hb37 ?_
   refine Cd.skip ?_
   refine At.in_normal ?_
   refine At.then ?_
   refine Cd.region ?_
   refine Lst.r (Ev.incr (by omega) rfl rfl) ?_
   refine Lst.r (Ev.move rfl) ?_
   refine Lst.nil ?_
   exact At.meet (i21 + 1, k21, l22, l23) (FLe.trans hF25 hF36) ⟨rfl, rfl, rfl, rfl, rfl, rfl, trivial⟩ rfl ⟨⟨hgo21 _ (some_inj H).symm, by omega⟩, Nat.lt_succ_self _⟩
  replace H := ite_t hb37 H
  refine Cd.condT rfl hb37 ?_
  refine Cd.seq ?_
  refine Cd.region ?_
  refine Lst.r (Ev.load (i := 5) rfl rfl Try.isAgg75 (v := Sl.v s_a3) (Get.here _)) ?_
  refine Lst.r (Ev.move rfl) ?_
  obtain ⟨x38, h39, H⟩ := bind_some H
  have g40 := lat_some h39
  refine Lst.r (Ev.indexS (α := Bool) (xs := l23) rfl rfl Try.runUnderlying75 Try.sizeOf4 rfl (by decide) (Rd.own (i := 4) rfl rfl rfl) g40.1 g40.2.1) ?_
  obtain ⟨p41, h42, H⟩ := Let_some H
  refine Lst.storeS (i := 4) rfl rfl rfl rfl rfl Try.sizeOf4 (vs := [.bool true]) rfl rfl (by decide) rfl (xs' := encs p41) (by rw [← h42]; exact (Put.elemN (s := 1) (x := x38) rfl g40.2.2 (Put.here (vs := [.bool true]) rfl)).off (by omega)) (L' := (.own s_a1 4 1 (encs l22)) :: (.blk b_a1 (enc s_a1) 75) :: (.blk b_a2_p (enc (GraphR.mk a2_p s_a2_p_0 s_a2_p_1 s_a2_p_2)) 101) :: (.blk b_a2 [pv b_a2_p 0] 97) :: (.own s_a3 4 1 (encs p41)) :: (.blk b_a3 (enc s_a3) 75) :: (.blk b_a4 [.func (.func 61) #[] #[pv b_a1 0, pv b_a2 0, pv b_a3 0, pv b_a4 0]] 102) :: L) rfl ?_
  refine Lst.nil ?_
  refine At.then ?_
  refine Cd.seq ?_
  refine Cd.region ?_
  refine Lst.r (Ev.load (i := 3) rfl rfl Try.isAgg97 (v := pv b_a2_p 0) (Get.here _)) ?_
  refine Lst.r (Ev.nilCheck rfl) ?_
  refine Lst.r (Ev.fieldAddr (off' := 1) rfl Try.runUnderlying101 rfl Try.sizeOf34 rfl rfl) ?_
  refine Lst.r (Ev.load (i := 2) rfl rfl Try.isAgg34 (v := Sl.v s_a2_p_1) ((GraphR.get_left (Get.here _)).off (by rfl))) ?_
  refine Lst.r (Ev.move rfl) ?_
  obtain ⟨x43, h44, H⟩ := bind_some H
  have g45 := lat_some h44
  refine Lst.r (Ev.indexS (α := Int) (xs := a2_p.left) rfl rfl Try.runUnderlying34 Try.sizeOf3 rfl (by decide) (hs_a2_p_1.mono (FLe.trans hF25 hF36) (sc4 (sc2 (sc1 hM)))) g45.1 g45.2.1) ?_
  refine Lst.r (Ev.loadS (α := Int) rfl (hs_a2_p_1.mono (FLe.trans hF25 hF36) (sc4 (sc2 (sc1 hM)))) Try.isAgg3 (v := iv x43) ((Get.elemN (s := 1) (x := x43) rfl g45.2.2 (Get.here _)).off (by omega))) ?_
  refine Lst.r (Ev.geq rfl rfl) ?_
  refine Lst.nil ?_
  refine At.then ?_
  rcases (Bool.eq_false_or_eq_true (decide (x43 ≥ (0 : Int)))).symm with hb46 | hb46
  ·replace H := ite_f hb46 H
   refine Cd.condF rfl hb46 ?_
   refine Cd.skip ?_
   refine At.in_normal ?_
   refine At.then ?_
   refine Cd.region ?_
   refine Lst.r (Ev.incr (by omega) rfl rfl) ?_
   refine Lst.r (Ev.move rfl) ?_
   refine Lst.nil ?_
   exact At.meet (i21 + 1, k21, l22, p41) (FLe.trans hF25 hF36) ⟨rfl, rfl, rfl, rfl, rfl, rfl, trivial⟩ rfl ⟨⟨hgo21 _ (some_inj H).symm, by omega⟩, Nat.lt_succ_self _⟩
  replace H := ite_t hb46 H
  refine Cd.condT rfl hb46 ?_
  refine Cd.tail 8 (by kernel_rfl) (by kernel_rfl) ?_
  refine Qt.r (Ev.load (i := 6) rfl rfl Try.isAgg102 (v := .func (.func 61) #[] #[pv b_a1 0, pv b_a2 0, pv b_a3 0, pv b_a4 0]) (Get.here _)) ?_
  refine Qt.r (Ev.load (i := 3) rfl rfl Try.isAgg97 (v := pv b_a2_p 0) (Get.here _)) ?_
  refine Qt.r (Ev.nilCheck rfl) ?_
  refine Qt.r (Ev.fieldAddr (off' := 1) rfl Try.runUnderlying101 rfl Try.sizeOf34 rfl rfl) ?_
  refine Qt.r (Ev.load (i := 2) rfl rfl Try.isAgg34 (v := Sl.v s_a2_p_1) ((GraphR.get_left (Get.here _)).off (by rfl))) ?_
  refine Qt.r (Ev.move rfl) ?_
  obtain ⟨x47, h48, H⟩ := bind_some H
  have g49 := lat_some h48
  refine Qt.r (Ev.indexS (α := Int) (xs := a2_p.left) rfl rfl Try.runUnderlying34 Try.sizeOf3 rfl (by decide) (hs_a2_p_1.mono (FLe.trans hF25 hF36) (sc4 (sc2 (sc1 hM)))) g49.1 g49.2.1) ?_
  refine Qt.r (Ev.loadS (α := Int) rfl (hs_a2_p_1.mono (FLe.trans hF25 hF36) (sc4 (sc2 (sc1 hM)))) Try.isAgg3 (v := iv x47) ((Get.elemN (s := 1) (x := x47) rfl g49.2.2 (Get.here _)).off (by omega))) ?_
  refine Qt.tail ?_
  obtain ⟨r50, h51, H⟩ := bind_some H
  refine Lst.callV rfl rfl (by decide) (vs := [iv x47]) (cs := [pv b_a1 0, pv b_a2 0, pv b_a3 0, pv b_a4 0]) rfl ⟨rfl, trivial⟩ Try.call61 (ih h51 w0 _ M _ hM hm_a2_p_0 (hs_a2_p_0.mono (FLe.trans hF25 hF36) (.refl _)) (All.monoLR ha_a2_p_0 (FLe.trans hF25 hF36) (.refl _)) (hs_a2_p_1.mono (FLe.trans hF25 hF36) (.refl _)) (hs_a2_p_2.mono (FLe.trans hF25 hF36) (.refl _))) (fun F52 L' v hF53 hv => ?_)
  obtain ⟨rfl, rfl⟩ := hv
  refine Lst.nil ?_
  refine At.in_normal ?_
  refine At.then ?_
  refine Cd.as (e' := [(2, pv b_a2 0), (3, pv b_a3 0), (4, pv b_a4 0), (21, Sl.v r20h), (22, iv (x17.length : Int)), (23, iv (i21 : Int))]) (L' := (.own s_a1 4 1 (encs r50.1)) :: (.blk b_a1 (enc s_a1) 75) :: (.blk b_a2_p (enc (GraphR.mk a2_p s_a2_p_0 s_a2_p_1 s_a2_p_2)) 101) :: (.blk b_a2 [pv b_a2_p 0] 97) :: (.own s_a3 4 1 (encs r50.2)) :: (.blk b_a3 (enc s_a3) 75) :: (.blk b_a4 [.func (.func 61) #[] #[pv b_a1 0, pv b_a2 0, pv b_a3 0, pv b_a4 0]] 102) :: L) ⟨rfl, rfl, rfl, rfl, rfl, rfl, trivial⟩ rfl ?_
  refine Cd.region ?_
  refine Lst.r (Ev.incr (by omega) rfl rfl) ?_
  refine Lst.r (Ev.move rfl) ?_
  refine Lst.nil ?_
  exact At.meet (i21 + 1, k21, r50.1, r50.2) (FLe.trans (FLe.trans hF25 hF36) hF53) ⟨rfl, rfl, rfl, rfl, rfl, rfl, trivial⟩ rfl ⟨⟨hgo21 _ (some_inj H).symm, by omega⟩, Nat.lt_succ_self _⟩
theorem match_Cover_1_sim {fu : Nat} {a0 : Int} {a1 : List Bool} {a2_p : Graph} {a3 : List Bool} {b_a1 : Nat} {s_a1 : Sl} {b_a2 : Nat} {b_a2_p : Nat} {s_a2_p_0 : Sl} {rs_a2_p_0 : List (LR Bool)} {s_a2_p_1 : Sl} {s_a2_p_2 : Sl} {b_a3 : Nat} {s_a3 : Sl} {b_a4 : Nat} {r : (List Bool) × (List Bool)} (H : match_Cover_1 fu a0 a1 a2_p a3 = some r) (w0 : World) (F : Frz) (M L : List Item) (hM : M.Sublist L) (hm_a2_p_0 : rs_a2_p_0.map LR.v = a2_p.may) (hs_a2_p_0 : Rd w0 F M s_a2_p_0 rs_a2_p_0) (ha_a2_p_0 : All LR.rel w0 F M rs_a2_p_0) (hs_a2_p_1 : Rd w0 F M s_a2_p_1 a2_p.left) (hs_a2_p_2 : Rd w0 F M s_a2_p_2 a2_p.seen) : Ok Try.prog w0 61 [iv a0, pv b_a1 0, pv b_a2 0, pv b_a3 0, pv b_a4 0] F ((.own s_a1 4 1 (encs a1)) :: (.blk b_a1 (enc s_a1) 75) :: (.blk b_a2_p (enc (GraphR.mk a2_p s_a2_p_0 s_a2_p_1 s_a2_p_2)) 101) :: (.blk b_a2 [pv b_a2_p 0] 97) :: (.own s_a3 4 1 (encs a3)) :: (.blk b_a3 (enc s_a3) 75) :: (.blk b_a4 [.func (.func 61) #[] #[pv b_a1 0, pv b_a2 0, pv b_a3 0, pv b_a4 0]] 102) :: L) (fun _ L' v => v = .tuple #[] ∧ L' = (.own s_a1 4 1 (encs r.1)) :: (.blk b_a1 (enc s_a1) 75) :: (.blk b_a2_p (enc (GraphR.mk a2_p s_a2_p_0 s_a2_p_1 s_a2_p_2)) 101) :: (.blk b_a2 [pv b_a2_p 0] 97) :: (.own s_a3 4 1 (encs r.2)) :: (.blk b_a3 (enc s_a3) 75) :: (.blk b_a4 [.func (.func 61) #[] #[pv b_a1 0, pv b_a2 0, pv b_a3 0, pv b_a4 0]] 102) :: L) :=
  match_Cover_1_simR fu H w0 F M L hM hm_a2_p_0 hs_a2_p_0 ha_a2_p_0 hs_a2_p_1 hs_a2_p_2
end Go.Proofs.Yticifbmaapnfbaa
