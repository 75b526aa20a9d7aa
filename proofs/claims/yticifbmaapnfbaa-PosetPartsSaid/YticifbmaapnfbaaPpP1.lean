/-
  The functions compute their specs; printed by a program.
-/
import Derived.Test.YticifbmaapnfbaaPpSp
import Derived.Test.YticifbmaapnfbaaGoL
import Derived.Test.YticifbmaapnfbaaGoK
import Derived.Test.YticifbmaapnfbaaGoI
import Derived.Test.YticifbmaapnfbaaGoU
import Derived.Test.YticifbmaapnfbaaGoS
import Derived.Test.YticifbmaapnfbaaGoR
import Derived.Test.YticifbmaapnfbaaProg
namespace Go.Proofs.Yticifbmaapnfbaa
open Go.RowKit Enc
set_option linter.unusedVariables false
set_option linter.unusedSimpArgs false
structure PosetR where
  v : Poset
  h1 : Sl
instance : Enc PosetR := ⟨fun p => enc p.v.N ++ (enc p.h1), 2, fun p => by simp only [List.length_append, Enc.len]; rfl, fun p => by simp only [List.all_append, Enc.one, Bool.and_self]⟩
theorem PosetR.get_N {p : PosetR} {k : Nat} {ch : List Value} (h : Get (enc p.v.N) k ch) : Get (enc p) (0 + k) ch := Get.off (Get.left h) (by omega)
theorem PosetR.put_N {p : PosetR} {k : Nat} {vs : List Value} {y : Int} (h : Put (enc p.v.N) k vs (enc y)) : Put (enc p) (0 + k) vs (enc ({ p with v := { p.v with N := y } } : PosetR)) := Put.off (cs' := enc ({ p with v := { p.v with N := y } } : PosetR)) (Put.left h) (by omega)
theorem PosetR.get_Pairs {p : PosetR} {k : Nat} {ch : List Value} (h : Get (enc p.h1) k ch) : Get (enc p) (1 + k) ch := Get.off (Get.right (m := 1) (Enc.len _) h) (by omega)
theorem PosetR.put_Pairs {p : PosetR} {k : Nat} {vs : List Value} {y : Sl} {l : List Pair} (h : Put (enc p.h1) k vs (enc y)) : Put (enc p) (1 + k) vs (enc ({ p with v := { p.v with Pairs := l }, h1 := y } : PosetR)) := Put.off (cs' := enc ({ p with v := { p.v with Pairs := l }, h1 := y } : PosetR)) (Put.right (m := 1) (Enc.len _) h) (by omega)
def PosetR.rel (w0 : World) (F : Frz) (L : List Item) (x : PosetR) : Prop := Rd w0 F L x.h1 x.v.Pairs
theorem PosetR.mono {w0 : World} {F F' : Frz} {L L' : List Item} {x : PosetR} (h : PosetR.rel w0 F L x) (hF : FLe F F') (hL : L.Sublist L') : PosetR.rel w0 F' L' x :=
  let h1 := h
  h1.mono hF hL
def PosetR.row (x : PosetR) : LR Pair := ⟨x.v.Pairs, x.h1⟩
theorem PosetR.rowAll {w0 : World} {F : Frz} {L : List Item} {rs : List PosetR} (h : All LR.rel w0 F L (List.map PosetR.row rs)) : All PosetR.rel w0 F L rs := fun x hx => h (PosetR.row x) (List.mem_map_of_mem hx)
theorem All.monoPoset {w0 : World} {F F' : Frz} {L L' : List Item} {rs : List PosetR} (h : All PosetR.rel w0 F L rs) (hF : FLe F F') (hL : L.Sublist L') : All PosetR.rel w0 F' L' rs := fun x hx => PosetR.mono (h x hx) hF hL
structure GraphR where
  v : Graph
  h0 : Sl
  h1 : Sl
  h2 : Sl
instance : Enc GraphR := ⟨fun p => enc p.h0 ++ (enc p.h1 ++ (enc p.h2)), 3, fun p => by simp only [List.length_append, Enc.len]; rfl, fun p => by simp only [List.all_append, Enc.one, Bool.and_self]⟩
theorem GraphR.get_may {p : GraphR} {k : Nat} {ch : List Value} (h : Get (enc p.h0) k ch) : Get (enc p) (0 + k) ch := Get.off (Get.left h) (by omega)
theorem GraphR.put_may {p : GraphR} {k : Nat} {vs : List Value} {y : Sl} {l : List (List Bool)} (h : Put (enc p.h0) k vs (enc y)) : Put (enc p) (0 + k) vs (enc ({ p with v := { p.v with may := l }, h0 := y } : GraphR)) := Put.off (cs' := enc ({ p with v := { p.v with may := l }, h0 := y } : GraphR)) (Put.left h) (by omega)
theorem GraphR.get_left {p : GraphR} {k : Nat} {ch : List Value} (h : Get (enc p.h1) k ch) : Get (enc p) (1 + k) ch := Get.off (Get.right (m := 1) (Enc.len _) (Get.left h)) (by omega)
theorem GraphR.put_left {p : GraphR} {k : Nat} {vs : List Value} {y : Sl} {l : List Int} (h : Put (enc p.h1) k vs (enc y)) : Put (enc p) (1 + k) vs (enc ({ p with v := { p.v with left := l }, h1 := y } : GraphR)) := Put.off (cs' := enc ({ p with v := { p.v with left := l }, h1 := y } : GraphR)) (Put.right (m := 1) (Enc.len _) (Put.left h)) (by omega)
theorem GraphR.get_seen {p : GraphR} {k : Nat} {ch : List Value} (h : Get (enc p.h2) k ch) : Get (enc p) (2 + k) ch := Get.off (Get.right (m := 1) (Enc.len _) (Get.right (m := 1) (Enc.len _) h)) (by omega)
theorem GraphR.put_seen {p : GraphR} {k : Nat} {vs : List Value} {y : Sl} {l : List Bool} (h : Put (enc p.h2) k vs (enc y)) : Put (enc p) (2 + k) vs (enc ({ p with v := { p.v with seen := l }, h2 := y } : GraphR)) := Put.off (cs' := enc ({ p with v := { p.v with seen := l }, h2 := y } : GraphR)) (Put.right (m := 1) (Enc.len _) (Put.right (m := 1) (Enc.len _) h)) (by omega)
def GraphR.rel (w0 : World) (F : Frz) (L : List Item) (x : GraphR) : Prop := (∃ rs : List (LR Bool), rs.map LR.v = x.v.may ∧ Rd w0 F L x.h0 rs ∧ All LR.rel w0 F L rs) ∧ Rd w0 F L x.h1 x.v.left ∧ Rd w0 F L x.h2 x.v.seen
theorem GraphR.mono {w0 : World} {F F' : Frz} {L L' : List Item} {x : GraphR} (h : GraphR.rel w0 F L x) (hF : FLe F F') (hL : L.Sublist L') : GraphR.rel w0 F' L' x :=
  let ⟨h0, h1, h2⟩ := h
  ⟨(let ⟨rs, a, b, c⟩ := h0; ⟨rs, a, b.mono hF hL, All.monoLR c hF hL⟩), h1.mono hF hL, h2.mono hF hL⟩
theorem All.monoGraph {w0 : World} {F F' : Frz} {L L' : List Item} {rs : List GraphR} (h : All GraphR.rel w0 F L rs) (hF : FLe F F') (hL : L.Sublist L') : All GraphR.rel w0 F' L' rs := fun x hx => GraphR.mono (h x hx) hF hL
set_option maxRecDepth 20000 in
theorem eq49 (x y : Pair) : ∀ w, (Op.equal 49 (.agg (enc x).toArray) (.agg (enc y).toArray)).run Try.prog w = .ok (decide (x = y)) w :=
  EqT.top (d := 10000) Try.isAgg49 Try.sizeOf49 rfl rfl (EqT.struct Try.isAgg49 Try.sizeOf49 rfl Try.runUnderlying49 (by kernel_rfl) (fun x y w => by
  refine Eq.trans (eqField (p := x.A) (q := y.A) rfl (EqT.int Try.isAgg3 Try.runUnderlying3) rfl ((Pair.get_A (Get.here _)).off rfl) ((Pair.get_A (Get.here _)).off rfl) (eqField (p := x.B) (q := y.B) rfl (EqT.int Try.isAgg3 Try.runUnderlying3) rfl ((Pair.get_B (Get.here _)).off rfl) ((Pair.get_B (Get.here _)).off rfl) (by rfl))) ?_
  congr 1
  rw [Bool.eq_iff_iff]; cases x; cases y; simp)) x y
set_option maxRecDepth 20000 in
theorem partref_PairsErr_sim {a0 : Int} {a1 : Int} {a2 : List Pair} {s_a2 : Sl} {r : Int} (H : partref_PairsErr a0 a1 a2 = some r) (w0 : World) (F : Frz) (M L : List Item) (hM : M.Sublist L) (hs_a2 : Rd w0 F M s_a2 a2) : Ok Try.prog w0 34 [iv a0, iv a1, Sl.v s_a2] F (L) (Is (iv r) (L)) := by
 unfold partref_PairsErr at H
 refine Ok.enter (m := 3) (n := 49) Try.func34 rfl rfl rfl (by decide) ?_
 refine Cd.env (e' := [(0, iv a0), (1, iv a1), (2, Sl.v s_a2)]) rfl ?_
 refine sr0 ?_
 refine Lst.r (Ev.assign rfl) ?_
 refine nt0 ?_
 refine Cd.seq ?_
 refine sr0 ?_
 refine mv0 rfl ?_
 refine mv0 rfl ?_
 refine Lst.r (Ev.min2 rfl rfl) ?_
 refine Lst.r (Ev.lss rfl rfl) ?_
 refine mv0 rfl ?_
 obtain ⟨o1, H, HKo1⟩ := bind_some H
 refine Lst.join (σ := Bool) 5 (fun y2 => [(0, iv a0), (1, iv a1), (2, Sl.v s_a2), (18, .bool y2)]) (fun y2 => L) (fun _ y2 => y2 = o1) ?_ ?_
 ·rcases Bool.eq_false_or_eq_true (decide ((min a0 a1) < (0 : Int))) with hb3 | hb3
  ·replace H := ite_t hb3 H
   refine Lst.skip rfl rfl rfl hb3 rfl (by decide) ?_
   refine Lst.skip rfl rfl rfl hb3 rfl (by decide) ?_
   refine Lst.skip rfl rfl rfl hb3 rfl (by decide) ?_
   refine Lst.skip rfl rfl rfl hb3 rfl (by decide) ?_
   refine Lst.r (Ev.pickT rfl hb3 rfl) ?_
   refine Lst.nil ?_
   exact At.meet true fl ⟨rfl, rfl, rfl, rfl, trivial⟩ rfl (some_inj H)
  replace H := ite_f hb3 H
  refine Lst.rG hb3 (Ev.move rfl) ?_
  refine Lst.rG hb3 (Ev.move rfl) ?_
  refine Lst.rG hb3 (Ev.max2 rfl rfl) ?_
  refine Lst.rG hb3 (Ev.gtr rfl rfl) ?_
  refine Lst.r (Ev.pickF rfl hb3 rfl) ?_
  refine Lst.nil ?_
  exact At.meet (decide ((max a0 a1) > (40 : Int))) fl ⟨rfl, rfl, rfl, rfl, trivial⟩ rfl (some_inj H)
 rintro F4 y2 hF5 hy
 subst hy
 refine Lst.as (e' := [(0, iv a0), (1, iv a1), (2, Sl.v s_a2), (18, .bool y2)]) (L' := L) ⟨rfl, rfl, rfl, rfl, trivial⟩ rfl ?_
 replace H := HKo1
 refine nt0 ?_
 rcases Bool.eq_false_or_eq_true y2 with hb6 | hb6
 ·replace H := ite_t hb6 H
  refine Cd.condT rfl hb6 ?_
  refine sr0 ?_
  refine Lst.r (Ev.assign rfl) ?_
  refine nt0 ?_
  obtain rfl := some_inj H
  refine Cd.ret ?_
  refine At.then_ret ?_
  exact At.ret1 rfl (Res.tmp rfl) hF5 (.refl _) ⟨rfl, rfl⟩
 replace H := ite_f hb6 H
 refine Cd.condF rfl hb6 ?_
 refine Cd.skip ?_
 refine At.then ?_
 refine Cd.seq ?_
 refine sr0 ?_
 refine mv0 rfl ?_
 refine Lst.r (Ev.lenS (α := Pair) (xs := a2) (by decide) rfl rfl Try.runUnderlying22 (hs_a2.mono hF5 hM)) ?_
 refine Lst.r (Ev.gtr rfl rfl) ?_
 refine nt0 ?_
 rcases Bool.eq_false_or_eq_true (decide ((a2.length : Int) > (600 : Int))) with hb7 | hb7
 ·replace H := ite_t hb7 H
  refine Cd.condT rfl hb7 ?_
  refine sr0 ?_
  refine Lst.r (Ev.assign rfl) ?_
  refine nt0 ?_
  obtain rfl := some_inj H
  refine Cd.ret ?_
  refine At.then_ret ?_
  exact At.ret1 rfl (Res.tmp rfl) hF5 (.refl _) ⟨rfl, rfl⟩
 replace H := ite_f hb7 H
 refine Cd.condF rfl hb7 ?_
 refine Cd.skip ?_
 refine At.then ?_
 refine Cd.seq ?_
 refine sr0 ?_
 refine mv0 rfl ?_
 refine Lst.r (Ev.lenS (α := Pair) (xs := a2) (by decide) rfl rfl Try.runUnderlying22 (hs_a2.mono hF5 hM)) ?_
 refine mv0 rfl ?_
 refine nt0 ?_
 refine Cd.block ?_
 refine Cd.bound (Rd.le (α := Pair) (xs := a2) (by decide) (hs_a2.mono hF5 hM)) (fun hN32 => ?_)
 obtain ⟨ol8, H, HKl8⟩ := andThen_some H
 refine Cd.loop (σ := Nat × Nat × Unit) (fun (i8, k8, _u) => [(0, iv a0), (1, iv a1), (22, Sl.v s_a2), (23, iv (a2.length : Int)), (24, iv (i8 : Int))]) (fun (i8, k8, _u) => L) (fun _ => (fun (i8, k8, _u) => rangeM (partref_PairsErr_B0 a0 a1 a2) k8 i8 () = some ol8 ∧ i8 + k8 = a2.length)) (fun (i8, k8, _u) => k8) (0, a2.length, ()) ⟨rfl, rfl, rfl, rfl, rfl, trivial⟩ rfl ⟨H, by omega⟩ ?_
 rintro F9 ⟨i8, k8, _u⟩ hF10 ⟨H, hik8⟩
 refine Cd.as (e' := [(0, iv a0), (1, iv a1), (22, Sl.v s_a2), (23, iv (a2.length : Int)), (24, iv (i8 : Int))]) (L' := L) ⟨rfl, rfl, rfl, rfl, rfl, trivial⟩ rfl ?_
 rcases k8 with _ | k8
 ·have hc8 : decide ((i8 : Int) < (a2.length : Int)) = false := decide_eq_false (by omega)
  replace H := rangeM_end H
  refine sr0 ?_
  refine Lst.r (Ev.lss rfl rfl) ?_
  refine nt0 ?_
  refine Cd.seq ?_
  refine Cd.condF rfl hc8 ?_
  refine Cd.exit ?_
  refine At.then_exit ?_
  refine At.then_exit ?_
  refine At.in_exit ?_
  subst H
  replace H := HKl8
  refine At.then ?_
  refine sr0 ?_
  refine Lst.r (Ev.assign rfl) ?_
  refine nt0 ?_
  obtain rfl := some_inj H
  refine Cd.ret ?_
  exact At.ret1 rfl (Res.tmp rfl) (FLe.trans hF5 hF10) (.refl _) ⟨rfl, rfl⟩
 have hc8 : decide ((i8 : Int) < (a2.length : Int)) = true := decide_eq_true (by omega)
 obtain ⟨c8, H, hgo8, hbrk8, hret8⟩ := rangeM_go H
 unfold partref_PairsErr_B0 at H
 try dsimp only at H
 refine sr0 ?_
 refine Lst.r (Ev.lss rfl rfl) ?_
 refine nt0 ?_
 refine Cd.seq ?_
 refine Cd.condT rfl hc8 ?_
 refine Cd.skip ?_
 refine At.then ?_
 refine Cd.seq ?_
 refine Cd.block ?_
 refine sr0 ?_
 obtain ⟨x11, h12, H⟩ := bind_some H
 have g13 := lat_some h12
 refine Lst.r (Ev.indexS (α := Pair) (xs := a2) rfl rfl Try.runUnderlying22 Try.sizeOf49 rfl (by decide) (hs_a2.mono (FLe.trans hF5 hF10) hM) g13.1 g13.2.1) ?_
 refine Lst.r (Ev.loadSA (α := Pair) rfl (hs_a2.mono (FLe.trans hF5 hF10) hM) Try.isAgg49 Try.sizeOf49 (ch := enc x11) (Enc.len _) (by decide) ((Get.elemN (s := 2) (x := x11) rfl g13.2.2 gh0).off (by omega))) ?_
 refine Lst.alloc (cs := enc Pair.zero) rfl rfl (by decide) Try.zeroValue49 rfl (fun b14 => ?_)
 refine Lst.store (i := 0) rfl rfl rfl rfl rfl Try.sizeOf49 (vs := enc x11) rfl (Enc.len _) (Enc.one _) (cs' := enc x11) (Put.here ((Enc.len _).trans (Enc.len _).symm)) (L' := (.blk b14 (enc x11) 49) :: L) rfl ?_
 refine nsr ?_
 refine Lst.r (Ev.fieldAddr (off' := 0) rfl Try.runUnderlying49 rfl Try.sizeOf3 rfl rfl) ?_
 refine Lst.r (Ev.load (i := 0) rfl rfl Try.isAgg3 (v := iv x11.A) ((Pair.get_A gh0).off (by rfl))) ?_
 refine Lst.r (Ev.lss rfl rfl) ?_
 refine mv0 rfl ?_
 obtain ⟨o16, H, HKo16⟩ := bind_some H
 refine Lst.join (σ := Bool) 4 (fun y17 => [(0, iv a0), (1, iv a1), (8, pv b14 0), (22, Sl.v s_a2), (23, iv (a2.length : Int)), (24, iv (i8 : Int)), (35, .bool y17)]) (fun y17 => (.blk b14 (enc x11) 49) :: L) (fun _ y17 => y17 = o16) ?_ ?_
 ·rcases Bool.eq_false_or_eq_true (decide (x11.A < (0 : Int))) with hb18 | hb18
  ·replace H := ite_t hb18 H
   refine Lst.skip rfl rfl rfl hb18 rfl (by decide) ?_
   refine Lst.skip rfl rfl rfl hb18 rfl (by decide) ?_
   refine Lst.skip rfl rfl rfl hb18 rfl (by decide) ?_
   refine Lst.r (Ev.pickT rfl hb18 rfl) ?_
   refine Lst.nil ?_
   exact At.meet true fl ⟨rfl, rfl, rfl, rfl, rfl, rfl, rfl, trivial⟩ rfl (some_inj H)
  replace H := ite_f hb18 H
  refine Lst.rG hb18 (Ev.fieldAddr (off' := 1) rfl Try.runUnderlying49 rfl Try.sizeOf3 rfl rfl) ?_
  refine Lst.rG hb18 (Ev.load (i := 0) rfl rfl Try.isAgg3 (v := iv x11.B) ((Pair.get_B gh0).off (by rfl))) ?_
  refine Lst.rG hb18 (Ev.lss rfl rfl) ?_
  refine Lst.r (Ev.pickF rfl hb18 rfl) ?_
  refine Lst.nil ?_
  exact At.meet (decide (x11.B < (0 : Int))) fl ⟨rfl, rfl, rfl, rfl, rfl, rfl, rfl, trivial⟩ rfl (some_inj H)
 rintro F19 y17 hF20 hy
 subst hy
 refine Lst.as (e' := [(0, iv a0), (1, iv a1), (8, pv b14 0), (22, Sl.v s_a2), (23, iv (a2.length : Int)), (24, iv (i8 : Int)), (35, .bool y17)]) (L' := (.blk b14 (enc x11) 49) :: L) ⟨rfl, rfl, rfl, rfl, rfl, rfl, rfl, trivial⟩ rfl ?_
 replace H := HKo16
 refine mv0 rfl ?_
 obtain ⟨o21, H, HKo21⟩ := bind_some H
 refine Lst.join (σ := Bool) 5 (fun y22 => [(0, iv a0), (1, iv a1), (8, pv b14 0), (22, Sl.v s_a2), (23, iv (a2.length : Int)), (24, iv (i8 : Int)), (41, .bool y22)]) (fun y22 => (.blk b14 (enc x11) 49) :: L) (fun _ y22 => y22 = o21) ?_ ?_
 ·rcases Bool.eq_false_or_eq_true y17 with hb23 | hb23
  ·replace H := ite_t hb23 H
   refine Lst.skip rfl rfl rfl hb23 rfl (by decide) ?_
   refine Lst.skip rfl rfl rfl hb23 rfl (by decide) ?_
   refine Lst.skip rfl rfl rfl hb23 rfl (by decide) ?_
   refine Lst.skip rfl rfl rfl hb23 rfl (by decide) ?_
   refine Lst.r (Ev.pickT rfl hb23 rfl) ?_
   refine Lst.nil ?_
   exact At.meet true fl ⟨rfl, rfl, rfl, rfl, rfl, rfl, rfl, trivial⟩ rfl (some_inj H)
  replace H := ite_f hb23 H
  refine Lst.rG hb23 (Ev.fieldAddr (off' := 0) rfl Try.runUnderlying49 rfl Try.sizeOf3 rfl rfl) ?_
  refine Lst.rG hb23 (Ev.load (i := 0) rfl rfl Try.isAgg3 (v := iv x11.A) ((Pair.get_A gh0).off (by rfl))) ?_
  refine Lst.rG hb23 (Ev.move rfl) ?_
  refine Lst.rG hb23 (Ev.geq rfl rfl) ?_
  refine Lst.r (Ev.pickF rfl hb23 rfl) ?_
  refine Lst.nil ?_
  exact At.meet (decide (x11.A ≥ a0)) fl ⟨rfl, rfl, rfl, rfl, rfl, rfl, rfl, trivial⟩ rfl (some_inj H)
 rintro F24 y22 hF25 hy
 subst hy
 refine Lst.as (e' := [(0, iv a0), (1, iv a1), (8, pv b14 0), (22, Sl.v s_a2), (23, iv (a2.length : Int)), (24, iv (i8 : Int)), (41, .bool y22)]) (L' := (.blk b14 (enc x11) 49) :: L) ⟨rfl, rfl, rfl, rfl, rfl, rfl, rfl, trivial⟩ rfl ?_
 replace H := HKo21
 refine mv0 rfl ?_
 obtain ⟨o26, H, HKo26⟩ := bind_some H
 refine Lst.join (σ := Bool) 5 (fun y27 => [(0, iv a0), (1, iv a1), (22, Sl.v s_a2), (23, iv (a2.length : Int)), (24, iv (i8 : Int)), (47, .bool y27)]) (fun y27 => (.blk b14 (enc x11) 49) :: L) (fun _ y27 => y27 = o26) ?_ ?_
 ·rcases Bool.eq_false_or_eq_true y22 with hb28 | hb28
  ·replace H := ite_t hb28 H
   refine Lst.skip rfl rfl rfl hb28 rfl (by decide) ?_
   refine Lst.skip rfl rfl rfl hb28 rfl (by decide) ?_
   refine Lst.skip rfl rfl rfl hb28 rfl (by decide) ?_
   refine Lst.skip rfl rfl rfl hb28 rfl (by decide) ?_
   refine Lst.r (Ev.pickT rfl hb28 rfl) ?_
   refine Lst.nil ?_
   exact At.meet true fl ⟨rfl, rfl, rfl, rfl, rfl, rfl, trivial⟩ rfl (some_inj H)
  replace H := ite_f hb28 H
  refine Lst.rG hb28 (Ev.fieldAddr (off' := 1) rfl Try.runUnderlying49 rfl Try.sizeOf3 rfl rfl) ?_
  refine Lst.rG hb28 (Ev.load (i := 0) rfl rfl Try.isAgg3 (v := iv x11.B) ((Pair.get_B gh0).off (by rfl))) ?_
  refine Lst.rG hb28 (Ev.move rfl) ?_
  refine Lst.rG hb28 (Ev.geq rfl rfl) ?_
  refine Lst.r (Ev.pickF rfl hb28 rfl) ?_
  refine Lst.nil ?_
  exact At.meet (decide (x11.B ≥ a1)) fl ⟨rfl, rfl, rfl, rfl, rfl, rfl, trivial⟩ rfl (some_inj H)
 rintro F29 y27 hF30 hy
 subst hy
 refine Lst.as (e' := [(0, iv a0), (1, iv a1), (22, Sl.v s_a2), (23, iv (a2.length : Int)), (24, iv (i8 : Int)), (47, .bool y27)]) (L' := (.blk b14 (enc x11) 49) :: L) ⟨rfl, rfl, rfl, rfl, rfl, rfl, trivial⟩ rfl ?_
 replace H := HKo26
 refine nt0 ?_
 rcases Bool.eq_false_or_eq_true y27 with hb31 | hb31
 ·replace H := ite_t hb31 H
  refine Cd.condT rfl hb31 ?_
  refine sr0 ?_
  refine Lst.r (Ev.assign rfl) ?_
  refine nt0 ?_
  have H := hret8 _ (some_inj H).symm
  subst H
  replace H := HKl8
  obtain rfl := some_inj H
  refine Cd.ret ?_
  refine At.in_ret ?_
  refine At.then_ret ?_
  refine At.then_ret ?_
  refine At.in_ret ?_
  refine At.then_ret ?_
  exact At.ret1 rfl (Res.tmp rfl) (FLe.trans (FLe.trans (FLe.trans (FLe.trans hF5 hF10) hF20) hF25) hF30) (sc1 (.refl _)) ⟨rfl, rfl⟩
 replace H := ite_f hb31 H
 refine Cd.condF rfl hb31 ?_
 refine Cd.skip ?_
 refine At.in_normal ?_
 refine At.then ?_
 refine Cd.region ?_
 refine Lst.r (Ev.incr (by omega) rfl rfl) ?_
 refine mv0 rfl ?_
 refine Lst.nil ?_
 refine At.less (L' := L) (sc1 (.refl _)) ?_
 exact At.meet (i8 + 1, k8, ()) (FLe.trans (FLe.trans (FLe.trans hF10 hF20) hF25) hF30) ⟨rfl, rfl, rfl, rfl, rfl, trivial⟩ rfl ⟨⟨hgo8 _ (some_inj H).symm, by omega⟩, Nat.lt_succ_self _⟩
set_option maxRecDepth 20000 in
theorem partref_Closure_sim {fu : Nat} {a0 : Int} {a1 : List Pair} {s_a1 : Sl} {r : (List (List Bool))} (H : partref_Closure fu a0 a1 = some r) (w0 : World) (F : Frz) (M L : List Item) (hM : M.Sublist L) (hs_a1 : Rd w0 F M s_a1 a1) : Ok Try.prog w0 45 [iv a0, Sl.v s_a1] F (L) (fun Fx L' v => ∃ (s1 : Sl) (rs2 : List (LR Bool)), v = Sl.v s1 ∧ L' = (.rows (α := Bool) 4 rs2) :: (.own s1 75 1 (encs rs2)) :: L ∧ rs2.map LR.v = r) := by
 unfold partref_Closure at H
 refine Ok.enter (m := 2) (n := 68) Try.func45 rfl rfl rfl (by decide) ?_
 refine Cd.env (e' := [(0, iv a0), (1, Sl.v s_a1)]) rfl ?_
 refine sr0 ?_
 have ha2 : All LR.rel w0 F [] ([] : List (LR Bool)) := All.nil
 have ha2m : List.map LR.v ([] : List (LR Bool)) = ([] : List (List Bool)) := rfl
 refine Lst.addNil 75 1 ?_
 refine Lst.r (Ev.assign rfl) ?_
 refine nsr ?_
 refine mv0 rfl ?_
 obtain ⟨n3, h4, H⟩ := bind_some H
 have g5 := mkLen_some h4
 have hm8 : (List.replicate n3 ((LR.mk [] Sl.nil) : LR Bool)).map LR.v = (List.replicate n3 ([] : List Bool)) := map_rep _ _
 refine Lst.make (α := LR Bool) (z0 := ((LR.mk [] Sl.nil) : LR Bool)) (k := n3) rfl rfl (by decide) (congrArg some (congrArg (Value.int .i64) g5.1)) (congrArg some (congrArg (Value.int .i64) g5.1)) Try.runUnderlying73 Try.typeInfo75 rfl rfl rfl rfl rfl g5.2 rfl (fun s6 => ?_)
 refine Lst.rowsNil Bool 4 n3 ?_
 refine Lst.its (L' := (.rows (α := Bool) 4 (List.replicate n3 ((LR.mk [] Sl.nil) : LR Bool))) :: (.own s6 75 1 (encs (List.replicate n3 ((LR.mk [] Sl.nil) : LR Bool)))) :: (.own Sl.nil 75 1 (encs ([] : List (LR Bool)))) :: L) rfl ?_
 refine Lst.r (Ev.assign rfl) ?_
 refine nt0 ?_
 refine Cd.seq ?_
 refine sr0 ?_
 refine mv0 rfl ?_
 refine mv0 rfl ?_
 refine nt0 ?_
 refine Cd.block ?_
 obtain ⟨nn17, hN93, H⟩ := bind_some H
 replace hN93 := upTo_some hN93
 obtain ⟨ol11, H, HKl11⟩ := bind_some H
 refine Cd.loop (σ := Nat × Nat × (List (List Bool)) × (List (LR Bool))) (fun (i11, k11, l12, rs13) => [(0, iv a0), (1, Sl.v s_a1), (5, Sl.v s6), (13, iv a0), (14, iv (i11 : Int))]) (fun (i11, k11, l12, rs13) => (.rows (α := Bool) 4 rs13) :: (.own s6 75 1 (encs rs13)) :: (.own Sl.nil 75 1 (encs ([] : List (LR Bool)))) :: L) (fun Fx => (fun (i11, k11, l12, rs13) => rangeF (partref_Closure_B0 fu a0 a1) k11 i11 l12 = some ol11 ∧ i11 + k11 = nn17 ∧ rs13.map LR.v = l12)) (fun (i11, k11, l12, rs13) => k11) (0, nn17, (List.replicate n3 ([] : List Bool)), (List.replicate n3 ((LR.mk [] Sl.nil) : LR Bool))) ⟨rfl, rfl, rfl, rfl, rfl, trivial⟩ rfl ⟨H, by omega, hm8⟩ ?_
 rintro F15 ⟨i11, k11, l12, rs13⟩ hF16 ⟨H, hik11, fm14⟩
 refine Cd.as (e' := [(0, iv a0), (1, Sl.v s_a1), (5, Sl.v s6), (13, iv a0), (14, iv (i11 : Int))]) (L' := (.rows (α := Bool) 4 rs13) :: (.own s6 75 1 (encs rs13)) :: (.own Sl.nil 75 1 (encs ([] : List (LR Bool)))) :: L) ⟨rfl, rfl, rfl, rfl, rfl, trivial⟩ rfl ?_
 rcases k11 with _ | k11
 ·have hc11 : decide ((i11 : Int) < a0) = false := decide_eq_false (by omega)
  replace H := rangeF_end H
  refine sr0 ?_
  refine Lst.r (Ev.lss rfl rfl) ?_
  refine nt0 ?_
  refine Cd.seq ?_
  refine Cd.condF rfl hc11 ?_
  refine Cd.exit ?_
  refine At.then_exit ?_
  refine At.then_exit ?_
  refine At.in_exit ?_
  subst H
  replace H := HKl11
  refine At.then ?_
  refine sr0 ?_
  refine mv0 rfl ?_
  refine Lst.r (Ev.assign rfl) ?_
  refine nt0 ?_
  obtain rfl := some_inj H
  refine Cd.ret ?_
  exact At.ret1 rfl (Res.tmp rfl) hF16 (sk1 (sk1 (sc1 (.refl _)))) ⟨s6, rs13, rfl, rfl, fm14⟩
 have hc11 : decide ((i11 : Int) < a0) = true := decide_eq_true (by omega)
 obtain ⟨c11, H, hgo11⟩ := rangeF_go H
 unfold partref_Closure_B0 at H
 try dsimp only at H
 refine sr0 ?_
 refine Lst.r (Ev.lss rfl rfl) ?_
 refine nt0 ?_
 refine Cd.seq ?_
 refine Cd.condT rfl hc11 ?_
 refine Cd.skip ?_
 refine At.then ?_
 refine Cd.seq ?_
 refine Cd.block ?_
 refine sr0 ?_
 refine mv0 rfl ?_
 refine Lst.r (Ev.assign rfl) ?_
 refine nsr ?_
 refine mv0 rfl ?_
 refine mv0 rfl ?_
 refine mv0 rfl ?_
 obtain ⟨n18, h19, H⟩ := bind_some H
 have g20 := mkLen_some h19
 refine Lst.make (α := Bool) (z0 := false) (k := n18) rfl rfl (by decide) (congrArg some (congrArg (Value.int .i64) g20.1)) (congrArg some (congrArg (Value.int .i64) g20.1)) Try.runUnderlying75 Try.typeInfo4 rfl rfl rfl rfl rfl g20.2 rfl (fun s21 => ?_)
 obtain ⟨x23, h24, H⟩ := bind_some H
 have g25 := lat_some h24
 obtain ⟨⟨r26v, r26h⟩, r26g, r26e, r26m⟩ := map_get fm14 g25.2.2
 obtain rfl : x23 = r26v := r26e.symm
 have hh27 := row_h r26g
 refine Lst.r (Ev.indexS (α := LR Bool) (xs := rs13) rfl rfl Try.runUnderlying73 Try.sizeOf75 rfl (by decide) (rdo 2 rfl rfl rfl) g25.1 (by have := map_len fm14; omega)) ?_
 obtain ⟨p28, h29, H⟩ := Let_some H
 have hm30 : (rs13.set (i11 : Int).toNat (LR.mk (List.replicate n18 false) s21)).map LR.v = p28 := (map_set fm14 _ _).trans h29
 refine Lst.storeS (i := 2) rfl rfl rfl rfl rfl Try.sizeOf75 (vs := [Sl.v s21]) rfl rfl (by decide) rfl (xs' := encs (rs13.set (i11 : Int).toNat (LR.mk (List.replicate n18 false) s21))) ((Put.elemN (s := 1) (y := (LR.mk (List.replicate n18 false) s21)) rfl r26g (Put.here (vs := [Sl.v s21]) rfl)).off (by omega)) (L' := (.own s21 4 1 (encs (List.replicate n18 false))) :: (.rows (α := Bool) 4 rs13) :: (.own s6 75 1 (encs (rs13.set (i11 : Int).toNat (LR.mk (List.replicate n18 false) s21)))) :: (.own Sl.nil 75 1 (encs ([] : List (LR Bool)))) :: L) rfl ?_
 refine Lst.rowIn (k := (i11 : Int).toNat) r26g rfl ?_
 refine Lst.its (L' := (.rows (α := Bool) 4 (rs13.set (i11 : Int).toNat (LR.mk (List.replicate n18 false) s21))) :: (.own s6 75 1 (encs (rs13.set (i11 : Int).toNat (LR.mk (List.replicate n18 false) s21)))) :: (.own Sl.nil 75 1 (encs ([] : List (LR Bool)))) :: L) rfl ?_
 refine nsr ?_
 refine mv0 rfl ?_
 refine Lst.buildSlice (α := Int) (xs := ([(i11 : Int)] : List Int)) (pv := [(0, iv (i11 : Int))]) rfl rfl (by decide) ⟨rfl, rfl, trivial⟩ (run_buildSlice (α := Int) (z0 := (0 : Int)) (xs := ([(i11 : Int)] : List Int)) Try.runUnderlying34 Try.sizeOf3 Try.zeroValue3 rfl rfl rfl (by decide) rfl (fill_cons (cs := encs (List.replicate 1 (0 : Int))) (cs' := encs ((List.replicate 1 (0 : Int)).set 0 (i11 : Int))) (vs := [iv (i11 : Int)]) rfl rfl rfl ((Put.elemN (s := 1) (i := 0) (x := (0 : Int)) (y := (i11 : Int)) rfl rfl (Put.here (vs := [iv (i11 : Int)]) rfl)).off rfl) fill_nil)) rfl rfl (by decide) (fun s31 _ => ?_)
 refine Lst.r (Ev.assign rfl) ?_
 refine nt0 ?_
 refine Cd.block ?_
 obtain ⟨ol33, H, HKl33⟩ := andThen_some H
 refine Cd.loop (σ := Nat × Sl × (List Int) × (List (List Bool)) × (List (LR Bool))) (fun (k33, s34, l35, l36, rs37) => [(0, iv a0), (1, Sl.v s_a1), (5, Sl.v s6), (6, iv (i11 : Int)), (7, Sl.v s34), (13, iv a0), (14, iv (i11 : Int))]) (fun (k33, s34, l35, l36, rs37) => (.own s34 3 1 (encs l35)) :: (.rows (α := Bool) 4 rs37) :: (.own s6 75 1 (encs rs37)) :: (.own Sl.nil 75 1 (encs ([] : List (LR Bool)))) :: L) (fun Fx => (fun (k33, s34, l35, l36, rs37) => whileM (partref_Closure_B2 a1 i11) k33 (l35, l36) = some ol33 ∧ rs37.map LR.v = l36)) (fun (k33, s34, l35, l36, rs37) => k33) (fu, s31, ([(i11 : Int)] : List Int), p28, (rs13.set (i11 : Int).toNat (LR.mk (List.replicate n18 false) s21))) ⟨rfl, rfl, rfl, rfl, rfl, rfl, rfl, trivial⟩ rfl ⟨H, hm30⟩ ?_
 rintro F39 ⟨k33, s34, l35, l36, rs37⟩ hF40 ⟨H, fm38⟩
 refine Cd.as (e' := [(0, iv a0), (1, Sl.v s_a1), (5, Sl.v s6), (6, iv (i11 : Int)), (7, Sl.v s34), (13, iv a0), (14, iv (i11 : Int))]) (L' := (.own s34 3 1 (encs l35)) :: (.rows (α := Bool) 4 rs37) :: (.own s6 75 1 (encs rs37)) :: (.own Sl.nil 75 1 (encs ([] : List (LR Bool)))) :: L) ⟨rfl, rfl, rfl, rfl, rfl, rfl, rfl, trivial⟩ rfl ?_
 rcases k33 with _ | k33
 ·cases H
 obtain ⟨c33, H, hgo33, hbrk33, hret33⟩ := whileM_go H
 unfold partref_Closure_B2 at H
 try dsimp only at H
 refine Cd.seq ?_
 refine sr0 ?_
 refine mv0 rfl ?_
 refine Lst.r (Ev.lenS (α := Int) (xs := l35) (by decide) rfl rfl Try.runUnderlying34 (rdo 0 rfl rfl rfl)) ?_
 refine Lst.r (Ev.gtr rfl rfl) ?_
 refine nt0 ?_
 rcases (Bool.eq_false_or_eq_true (decide ((l35.length : Int) > (0 : Int)))).symm with hb41 | hb41
 ·replace H := ite_f hb41 H
  refine Cd.condF rfl hb41 ?_
  refine Cd.exit ?_
  refine At.then_exit ?_
  refine At.then_exit ?_
  refine At.in_exit ?_
  have H := hbrk33 _ (some_inj H).symm
  subst H
  replace H := HKl33
  try dsimp only [Sum.elim_inl] at H
  refine At.in_normal ?_
  refine At.then ?_
  refine Cd.region ?_
  refine Lst.r (Ev.incr (by omega) rfl rfl) ?_
  refine mv0 rfl ?_
  refine Lst.nil ?_
  refine At.less (L' := (.rows (α := Bool) 4 rs37) :: (.own s6 75 1 (encs rs37)) :: (.own Sl.nil 75 1 (encs ([] : List (LR Bool)))) :: L) (sc1 (sk1 (sk1 (sk1 (.refl _))))) ?_
  exact At.meet (i11 + 1, k11, l36, rs37) (FLe.trans hF16 hF40) ⟨rfl, rfl, rfl, rfl, rfl, trivial⟩ rfl ⟨⟨hgo11 _ (some_inj H).symm, by omega, fm38⟩, Nat.lt_succ_self _⟩
 replace H := ite_t hb41 H
 refine Cd.condT rfl hb41 ?_
 refine Cd.skip ?_
 refine At.then ?_
 refine Cd.block ?_
 refine sr0 ?_
 refine mv0 rfl ?_
 obtain ⟨x42, h43, H⟩ := bind_some H
 have g44 := lat_some h43
 refine Lst.r (Ev.indexS (α := Int) (xs := l35) rfl rfl Try.runUnderlying34 Try.sizeOf3 rfl (by decide) (rdo 0 rfl rfl rfl) g44.1 g44.2.1) ?_
 refine Lst.r (Ev.loadS (α := Int) rfl (rdo 0 rfl rfl rfl) Try.isAgg3 (v := iv x42) ((Get.elemN (s := 1) (x := x42) rfl g44.2.2 gh0).off (by omega))) ?_
 refine Lst.r (Ev.assign rfl) ?_
 refine nsr ?_
 refine mv0 rfl ?_
 obtain ⟨m45, h46, H⟩ := bind_some H
 obtain ⟨g47, gl48⟩ := cutL_some h46
 try dsimp only at g47
 refine Lst.r (Ev.cut (α := Int) (xs := l35) (i := (1 : Int)) (j := (l35.length : Int)) rfl rfl rfl Try.runUnderlying34 Try.sizeOf3 rfl (by decide) (rdo 0 rfl rfl rfl) g47.1 g47.2.1 g47.2.2) ?_
 refine Lst.cutOwn (i := 0) (α := Int) (lo := ((1 : Int) : Int).toNat) (hi := ((l35.length : Int) : Int).toNat) rfl rfl rfl (by decide) (by omega) (by omega) (L' := (.own (s34.cut ((1 : Int) : Int).toNat ((l35.length : Int) : Int).toNat 1) 3 1 (encs m45)) :: (.rows (α := Bool) 4 rs37) :: (.own s6 75 1 (encs rs37)) :: (.own Sl.nil 75 1 (encs ([] : List (LR Bool)))) :: L) (by subst gl48; rfl) ?_
 refine Lst.r (Ev.assign rfl) ?_
 refine nsr ?_
 refine mv0 rfl ?_
 refine Lst.r (Ev.lenS (α := Pair) (xs := a1) (by decide) rfl rfl Try.runUnderlying22 (hs_a1.mono (FLe.trans hF16 hF40) (sc4 hM))) ?_
 refine mv0 rfl ?_
 refine nt0 ?_
 refine Cd.block ?_
 refine Cd.bound (Rd.le (α := Pair) (xs := a1) (by decide) (hs_a1.mono (FLe.trans hF16 hF40) (sc4 hM))) (fun hN92 => ?_)
 obtain ⟨ol50, H, HKl50⟩ := bind_some H
 refine Cd.loop (σ := Nat × Nat × Sl × (List Int) × (List (List Bool)) × (List (LR Bool))) (fun (i50, k50, s51, l52, l53, rs54) => [(0, iv a0), (1, Sl.v s_a1), (5, Sl.v s6), (6, iv (i11 : Int)), (7, Sl.v s51), (8, iv x42), (13, iv a0), (14, iv (i11 : Int)), (32, Sl.v s_a1), (33, iv (a1.length : Int)), (34, iv (i50 : Int))]) (fun (i50, k50, s51, l52, l53, rs54) => (.own s51 3 1 (encs l52)) :: (.rows (α := Bool) 4 rs54) :: (.own s6 75 1 (encs rs54)) :: (.own Sl.nil 75 1 (encs ([] : List (LR Bool)))) :: L) (fun Fx => (fun (i50, k50, s51, l52, l53, rs54) => rangeF (partref_Closure_B4 a1 i11 x42) k50 i50 (l52, l53) = some ol50 ∧ i50 + k50 = a1.length ∧ rs54.map LR.v = l53)) (fun (i50, k50, s51, l52, l53, rs54) => k50) (0, a1.length, (s34.cut ((1 : Int) : Int).toNat ((l35.length : Int) : Int).toNat 1), m45, l36, rs37) ⟨rfl, rfl, rfl, rfl, rfl, rfl, rfl, rfl, rfl, rfl, rfl, trivial⟩ rfl ⟨H, by omega, fm38⟩ ?_
 rintro F56 ⟨i50, k50, s51, l52, l53, rs54⟩ hF57 ⟨H, hik50, fm55⟩
 refine Cd.as (e' := [(0, iv a0), (1, Sl.v s_a1), (5, Sl.v s6), (6, iv (i11 : Int)), (7, Sl.v s51), (8, iv x42), (13, iv a0), (14, iv (i11 : Int)), (32, Sl.v s_a1), (33, iv (a1.length : Int)), (34, iv (i50 : Int))]) (L' := (.own s51 3 1 (encs l52)) :: (.rows (α := Bool) 4 rs54) :: (.own s6 75 1 (encs rs54)) :: (.own Sl.nil 75 1 (encs ([] : List (LR Bool)))) :: L) ⟨rfl, rfl, rfl, rfl, rfl, rfl, rfl, rfl, rfl, rfl, rfl, trivial⟩ rfl ?_
 rcases k50 with _ | k50
 ·have hc50 : decide ((i50 : Int) < (a1.length : Int)) = false := decide_eq_false (by omega)
  replace H := rangeF_end H
  refine sr0 ?_
  refine Lst.r (Ev.lss rfl rfl) ?_
  refine nt0 ?_
  refine Cd.seq ?_
  refine Cd.condF rfl hc50 ?_
  refine Cd.exit ?_
  refine At.then_exit ?_
  refine At.then_exit ?_
  refine At.in_exit ?_
  subst H
  replace H := HKl50
  try dsimp only [Sum.elim_inl] at H
  refine At.in_normal ?_
  exact At.meet (k33, s51, l52, l53, rs54) (FLe.trans hF40 hF57) ⟨rfl, rfl, rfl, rfl, rfl, rfl, rfl, trivial⟩ rfl ⟨⟨hgo33 _ (some_inj H).symm, fm55⟩, Nat.lt_succ_self _⟩
 have hc50 : decide ((i50 : Int) < (a1.length : Int)) = true := decide_eq_true (by omega)
 obtain ⟨c50, H, hgo50⟩ := rangeF_go H
 unfold partref_Closure_B4 at H
 try dsimp only at H
 refine sr0 ?_
 refine Lst.r (Ev.lss rfl rfl) ?_
 refine nt0 ?_
 refine Cd.seq ?_
 refine Cd.condT rfl hc50 ?_
 refine Cd.skip ?_
 refine At.then ?_
 refine Cd.seq ?_
 refine Cd.block ?_
 refine sr0 ?_
 obtain ⟨x58, h59, H⟩ := bind_some H
 have g60 := lat_some h59
 refine Lst.r (Ev.indexS (α := Pair) (xs := a1) rfl rfl Try.runUnderlying22 Try.sizeOf49 rfl (by decide) (hs_a1.mono (FLe.trans (FLe.trans hF16 hF40) hF57) (sc4 hM)) g60.1 g60.2.1) ?_
 refine Lst.r (Ev.loadSA (α := Pair) rfl (hs_a1.mono (FLe.trans (FLe.trans hF16 hF40) hF57) (sc4 hM)) Try.isAgg49 Try.sizeOf49 (ch := enc x58) (Enc.len _) (by decide) ((Get.elemN (s := 2) (x := x58) rfl g60.2.2 gh0).off (by omega))) ?_
 refine Lst.alloc (cs := enc Pair.zero) rfl rfl (by decide) Try.zeroValue49 rfl (fun b61 => ?_)
 refine Lst.store (i := 0) rfl rfl rfl rfl rfl Try.sizeOf49 (vs := enc x58) rfl (Enc.len _) (Enc.one _) (cs' := enc x58) (Put.here ((Enc.len _).trans (Enc.len _).symm)) (L' := (.blk b61 (enc x58) 49) :: (.own s51 3 1 (encs l52)) :: (.rows (α := Bool) 4 rs54) :: (.own s6 75 1 (encs rs54)) :: (.own Sl.nil 75 1 (encs ([] : List (LR Bool)))) :: L) rfl ?_
 refine nt0 ?_
 refine Cd.seq ?_
 refine Cd.quiet (by kernel_rfl) (by kernel_rfl) ?_
 refine Qt.r (Ev.fieldAddr (off' := 0) rfl Try.runUnderlying49 rfl Try.sizeOf3 rfl rfl) ?_
 refine Qt.r (Ev.load (i := 0) rfl rfl Try.isAgg3 (v := iv x58.A) ((Pair.get_A gh0).off (by rfl))) ?_
 refine Qt.r (Ev.move rfl) ?_
 refine Qt.r (Ev.eql rfl rfl) ?_
 refine Qt.r (Ev.move rfl) ?_
 obtain ⟨o63, H, HKo63⟩ := bind_some H
 refine Qt.join (σ := Bool) 10 (fun y64 => [(0, iv a0), (1, Sl.v s_a1), (5, Sl.v s6), (6, iv (i11 : Int)), (7, Sl.v s51), (8, iv x42), (10, pv b61 0), (13, iv a0), (14, iv (i11 : Int)), (32, Sl.v s_a1), (33, iv (a1.length : Int)), (34, iv (i50 : Int)), (52, .bool y64)]) (fun y64 => y64 = o63) ?_ ?_
 ·rcases (Bool.eq_false_or_eq_true (x58.A == x42)).symm with hb65 | hb65
  ·replace H := ite_f hb65 H
   refine Qt.skip rfl rfl rfl hb65 rfl (by decide) ?_
   refine Qt.skip rfl rfl rfl hb65 rfl (by decide) ?_
   refine Qt.skip rfl rfl rfl hb65 rfl (by decide) ?_
   refine Qt.skip rfl rfl rfl hb65 rfl (by decide) ?_
   refine Qt.skip rfl rfl rfl hb65 rfl (by decide) ?_
   refine Qt.skip rfl rfl rfl hb65 rfl (by decide) ?_
   refine Qt.skip rfl rfl rfl hb65 rfl (by decide) ?_
   refine Qt.skip rfl rfl rfl hb65 rfl (by decide) ?_
   refine Qt.skip rfl rfl rfl hb65 rfl (by decide) ?_
   refine Qt.r (Ev.pickF rfl hb65 rfl) ?_
   exact Qt.meet false ⟨rfl, rfl, rfl, rfl, rfl, rfl, rfl, rfl, rfl, rfl, rfl, rfl, rfl, trivial⟩ (some_inj H)
  replace H := ite_t hb65 H
  refine Qt.rG hb65 (Ev.move rfl) ?_
  refine Qt.rG hb65 (Ev.move rfl) ?_
  obtain ⟨x66, h67, H⟩ := bind_some H
  have g68 := lat_some h67
  obtain ⟨⟨r69v, r69h⟩, r69g, r69e, r69m⟩ := map_get fm55 g68.2.2
  obtain rfl : x66 = r69v := r69e.symm
  have hh70 := row_h r69g
  refine Qt.rG hb65 (Ev.indexS (α := LR Bool) (xs := rs54) rfl rfl Try.runUnderlying73 Try.sizeOf75 rfl (by decide) (rdo 3 rfl rfl rfl) g68.1 (by have := map_len fm55; omega)) ?_
  refine Qt.rG hb65 (Ev.loadS (α := LR Bool) rfl (rdo 3 rfl rfl rfl) Try.isAgg75 (v := Sl.v r69h) ((Get.elemN (s := 1) rfl r69g gh0).off (by omega))) ?_
  refine Qt.rG hb65 (Ev.fieldAddr (off' := 1) rfl Try.runUnderlying49 rfl Try.sizeOf3 rfl rfl) ?_
  refine Qt.rG hb65 (Ev.load (i := 0) rfl rfl Try.isAgg3 (v := iv x58.B) ((Pair.get_B gh0).off (by rfl))) ?_
  obtain ⟨x71, h72, H⟩ := bind_some H
  have g73 := lat_some h72
  refine Qt.rG hb65 (Ev.indexS (α := Bool) (xs := x66) rfl rfl Try.runUnderlying75 Try.sizeOf4 rfl (by decide) (Rd.row (j := 2) rfl r69g) g73.1 g73.2.1) ?_
  refine Qt.rG hb65 (Ev.loadS (α := Bool) rfl (Rd.row (j := 2) rfl r69g) Try.isAgg4 (v := .bool x71) ((Get.elemN (s := 1) (x := x71) rfl g73.2.2 gh0).off (by omega))) ?_
  refine Qt.rG hb65 (Ev.not rfl) ?_
  refine Qt.r (Ev.pickT rfl hb65 rfl) ?_
  exact Qt.meet (!x71) ⟨rfl, rfl, rfl, rfl, rfl, rfl, rfl, rfl, rfl, rfl, rfl, rfl, rfl, trivial⟩ (some_inj H)
 rintro y64 hy
 subst hy
 refine Qt.as (e' := [(0, iv a0), (1, Sl.v s_a1), (5, Sl.v s6), (6, iv (i11 : Int)), (7, Sl.v s51), (8, iv x42), (10, pv b61 0), (13, iv a0), (14, iv (i11 : Int)), (32, Sl.v s_a1), (33, iv (a1.length : Int)), (34, iv (i50 : Int)), (52, .bool y64)]) ⟨rfl, rfl, rfl, rfl, rfl, rfl, rfl, rfl, rfl, rfl, rfl, rfl, rfl, trivial⟩ ?_
 replace H := HKo63
 refine Qt.done ?_
 refine At.then ?_
 rcases (Bool.eq_false_or_eq_true y64).symm with hb74 | hb74
 ·replace H := ite_f hb74 H
  refine Cd.condF rfl hb74 ?_
  refine Cd.skip ?_
  refine At.in_normal ?_
  refine At.then ?_
  refine Cd.region ?_
  refine Lst.r (Ev.incr (by omega) rfl rfl) ?_
  refine mv0 rfl ?_
  refine Lst.nil ?_
  refine At.less (L' := (.own s51 3 1 (encs l52)) :: (.rows (α := Bool) 4 rs54) :: (.own s6 75 1 (encs rs54)) :: (.own Sl.nil 75 1 (encs ([] : List (LR Bool)))) :: L) (sc1 (sk1 (sk1 (sk1 (sk1 (.refl _)))))) ?_
  exact At.meet (i50 + 1, k50, s51, l52, l53, rs54) hF57 ⟨rfl, rfl, rfl, rfl, rfl, rfl, rfl, rfl, rfl, rfl, rfl, trivial⟩ rfl ⟨⟨hgo50 _ (some_inj H).symm, by omega, fm55⟩, Nat.lt_succ_self _⟩
 replace H := ite_t hb74 H
 refine Cd.condT rfl hb74 ?_
 refine Cd.seq ?_
 refine Cd.tail 7 (by kernel_rfl) (by kernel_rfl) ?_
 refine Qt.r (Ev.move rfl) ?_
 refine Qt.r (Ev.move rfl) ?_
 obtain ⟨x75, h76, H⟩ := bind_some H
 have g77 := lat_some h76
 obtain ⟨⟨r78v, r78h⟩, r78g, r78e, r78m⟩ := map_get fm55 g77.2.2
 obtain rfl : x75 = r78v := r78e.symm
 have hh79 := row_h r78g
 refine Qt.r (Ev.indexS (α := LR Bool) (xs := rs54) rfl rfl Try.runUnderlying73 Try.sizeOf75 rfl (by decide) (rdo 3 rfl rfl rfl) g77.1 (by have := map_len fm55; omega)) ?_
 refine Qt.r (Ev.loadS (α := LR Bool) rfl (rdo 3 rfl rfl rfl) Try.isAgg75 (v := Sl.v r78h) ((Get.elemN (s := 1) rfl r78g gh0).off (by omega))) ?_
 refine Qt.r (Ev.fieldAddr (off' := 1) rfl Try.runUnderlying49 rfl Try.sizeOf3 rfl rfl) ?_
 refine Qt.r (Ev.load (i := 0) rfl rfl Try.isAgg3 (v := iv x58.B) ((Pair.get_B gh0).off (by rfl))) ?_
 obtain ⟨x80, h81, H⟩ := bind_some H
 have g82 := lat_some h81
 refine Qt.r (Ev.indexS (α := Bool) (xs := x75) rfl rfl Try.runUnderlying75 Try.sizeOf4 rfl (by decide) (Rd.row (j := 2) rfl r78g) g82.1 g82.2.1) ?_
 refine Qt.tail ?_
 obtain ⟨p83, h84, H⟩ := Let_some H
 have hm85 : (rs54.set (i11 : Int).toNat (LR.mk (x75.set x58.B.toNat true) r78h)).map LR.v = p83 := (map_set fm55 _ _).trans h84
 refine Lst.front (i := 2) rfl (L' := (.rows (α := Bool) 4 rs54) :: (.blk b61 (enc x58) 49) :: (.own s51 3 1 (encs l52)) :: (.own s6 75 1 (encs rs54)) :: (.own Sl.nil 75 1 (encs ([] : List (LR Bool)))) :: L) rfl ?_
 refine Lst.storeR (α := Bool) rfl rfl rfl rfl r78g Try.sizeOf4 (vs := [.bool true]) rfl rfl (by decide) rfl (xs' := (x75.set x58.B.toNat true)) ((Put.elemN (s := 1) (x := x80) rfl g82.2.2 (Put.here (vs := [.bool true]) rfl)).off (by omega)) ?_
 refine Lst.its (L' := (.rows (α := Bool) 4 (rs54.set (i11 : Int).toNat (LR.mk (x75.set x58.B.toNat true) r78h))) :: (.blk b61 (enc x58) 49) :: (.own s51 3 1 (encs l52)) :: (.own s6 75 1 (encs (rs54.set (i11 : Int).toNat (LR.mk (x75.set x58.B.toNat true) r78h)))) :: (.own Sl.nil 75 1 (encs ([] : List (LR Bool)))) :: L) (by rw [show encs (rs54.set (i11 : Int).toNat (LR.mk (x75.set x58.B.toNat true) r78h)) = encs rs54 from encs_rowv r78g]; try rfl) ?_
 refine nt0 ?_
 refine Cd.region ?_
 refine mv0 rfl ?_
 refine Lst.r (Ev.fieldAddr (off' := 1) rfl Try.runUnderlying49 rfl Try.sizeOf3 rfl rfl) ?_
 refine Lst.r (Ev.load (i := 1) rfl rfl Try.isAgg3 (v := iv x58.B) ((Pair.get_B gh0).off (by rfl))) ?_
 refine Lst.buildSlice (α := Int) (xs := ([x58.B] : List Int)) (pv := [(0, iv x58.B)]) rfl rfl (by decide) ⟨rfl, rfl, trivial⟩ (run_buildSlice (α := Int) (z0 := (0 : Int)) (xs := ([x58.B] : List Int)) Try.runUnderlying34 Try.sizeOf3 Try.zeroValue3 rfl rfl rfl (by decide) rfl (fill_cons (cs := encs (List.replicate 1 (0 : Int))) (cs' := encs ((List.replicate 1 (0 : Int)).set 0 x58.B)) (vs := [iv x58.B]) rfl rfl rfl ((Put.elemN (s := 1) (i := 0) (x := (0 : Int)) (y := x58.B) rfl rfl (Put.here (vs := [iv x58.B]) rfl)).off rfl) fill_nil)) rfl rfl (by decide) (fun s87 _ => ?_)
 obtain ⟨u89, h90, H⟩ := bind_some H
 refine Lst.append (i := 3) (α := Int) (xs := l52) (ys := ([x58.B] : List Int)) rfl rfl (by decide) rfl rfl Try.runUnderlying34 Try.typeInfo3 rfl rfl rfl rfl rfl rfl (rdo 0 rfl rfl rfl) rfl (room_some h90) rfl (fun s91 => ?_)
 refine Lst.its (L' := (.own s87 3 1 (encs ([x58.B] : List Int))) :: (.rows (α := Bool) 4 (rs54.set (i11 : Int).toNat (LR.mk (x75.set x58.B.toNat true) r78h))) :: (.blk b61 (enc x58) 49) :: (.own s91 3 1 (encs (l52 ++ ([x58.B] : List Int)))) :: (.own s6 75 1 (encs (rs54.set (i11 : Int).toNat (LR.mk (x75.set x58.B.toNat true) r78h)))) :: (.own Sl.nil 75 1 (encs ([] : List (LR Bool)))) :: L) rfl ?_
 refine Lst.r (Ev.assign rfl) ?_
 refine Lst.nil ?_
 refine At.in_normal ?_
 refine At.then ?_
 refine Cd.as (e' := [(0, iv a0), (1, Sl.v s_a1), (5, Sl.v s6), (6, iv (i11 : Int)), (8, iv x42), (13, iv a0), (14, iv (i11 : Int)), (32, Sl.v s_a1), (33, iv (a1.length : Int)), (34, iv (i50 : Int)), (7, Sl.v s91)]) (L' := (.own s87 3 1 (encs ([x58.B] : List Int))) :: (.rows (α := Bool) 4 (rs54.set (i11 : Int).toNat (LR.mk (x75.set x58.B.toNat true) r78h))) :: (.blk b61 (enc x58) 49) :: (.own s91 3 1 (encs (l52 ++ ([x58.B] : List Int)))) :: (.own s6 75 1 (encs (rs54.set (i11 : Int).toNat (LR.mk (x75.set x58.B.toNat true) r78h)))) :: (.own Sl.nil 75 1 (encs ([] : List (LR Bool)))) :: L) ⟨rfl, rfl, rfl, rfl, rfl, rfl, rfl, rfl, rfl, rfl, rfl, trivial⟩ rfl ?_
 refine Cd.region ?_
 refine Lst.r (Ev.incr (by omega) rfl rfl) ?_
 refine mv0 rfl ?_
 refine Lst.nil ?_
 refine At.front (i := 3) rfl (L' := (.own s91 3 1 (encs (l52 ++ ([x58.B] : List Int)))) :: (.own s87 3 1 (encs ([x58.B] : List Int))) :: (.rows (α := Bool) 4 (rs54.set (i11 : Int).toNat (LR.mk (x75.set x58.B.toNat true) r78h))) :: (.blk b61 (enc x58) 49) :: (.own s6 75 1 (encs (rs54.set (i11 : Int).toNat (LR.mk (x75.set x58.B.toNat true) r78h)))) :: (.own Sl.nil 75 1 (encs ([] : List (LR Bool)))) :: L) rfl ?_
 refine At.less (L' := (.own s91 3 1 (encs (l52 ++ ([x58.B] : List Int)))) :: (.rows (α := Bool) 4 (rs54.set (i11 : Int).toNat (LR.mk (x75.set x58.B.toNat true) r78h))) :: (.own s6 75 1 (encs (rs54.set (i11 : Int).toNat (LR.mk (x75.set x58.B.toNat true) r78h)))) :: (.own Sl.nil 75 1 (encs ([] : List (LR Bool)))) :: L) (sk1 (sc1 (sk1 (sc1 (sk1 (sk1 (.refl _))))))) ?_
 exact At.meet (i50 + 1, k50, s91, l52 ++ ([x58.B] : List Int), p83, (rs54.set (i11 : Int).toNat (LR.mk (x75.set x58.B.toNat true) r78h))) hF57 ⟨rfl, rfl, rfl, rfl, rfl, rfl, rfl, rfl, rfl, rfl, rfl, trivial⟩ rfl ⟨⟨hgo50 _ (some_inj H).symm, by omega, hm85⟩, Nat.lt_succ_self _⟩
set_option maxRecDepth 20000 in
theorem partref_PosetErr_sim {fu : Nat} {a0 : Poset} {s_a0_1 : Sl} {r : Int} (H : partref_PosetErr fu a0 = some r) (w0 : World) (F : Frz) (M L : List Item) (hM : M.Sublist L) (hs_a0_1 : Rd w0 F M s_a0_1 a0.Pairs) : Ok Try.prog w0 9 [.agg (enc (PosetR.mk a0 s_a0_1)).toArray] F (L) (Is (iv r) (L)) := by
 unfold partref_PosetErr at H
 refine Ok.enter (m := 1) (n := 40) Try.func9 rfl rfl rfl (by decide) ?_
 refine Cd.env (e' := [(0, .agg (enc (PosetR.mk a0 s_a0_1)).toArray)]) rfl ?_
 refine sr0 ?_
 refine Lst.box rfl rfl (by decide) rfl (cs := enc (PosetR.mk a0 s_a0_1)) rfl (fun b1 => ?_)
 refine Lst.r (Ev.assign rfl) ?_
 refine nt0 ?_
 refine Cd.seq ?_
 refine sr0 ?_
 refine Lst.r (Ev.fieldAddr (off' := 0) rfl Try.runUnderlying24 rfl Try.sizeOf3 rfl rfl) ?_
 refine Lst.r (Ev.load (i := 0) rfl rfl Try.isAgg3 (v := iv a0.N) ((PosetR.get_N gh0).off (by rfl))) ?_
 refine Lst.r (Ev.lss rfl rfl) ?_
 refine mv0 rfl ?_
 obtain ⟨o3, H, HKo3⟩ := bind_some H
 refine Lst.join (σ := Bool) 4 (fun y4 => [(1, pv b1 0), (13, .bool y4)]) (fun y4 => (.blk b1 (enc (PosetR.mk a0 s_a0_1)) 24) :: L) (fun _ y4 => y4 = o3) ?_ ?_
 ·rcases Bool.eq_false_or_eq_true (decide (a0.N < (0 : Int))) with hb5 | hb5
  ·replace H := ite_t hb5 H
   refine Lst.skip rfl rfl rfl hb5 rfl (by decide) ?_
   refine Lst.skip rfl rfl rfl hb5 rfl (by decide) ?_
   refine Lst.skip rfl rfl rfl hb5 rfl (by decide) ?_
   refine Lst.r (Ev.pickT rfl hb5 rfl) ?_
   refine Lst.nil ?_
   exact At.meet true fl ⟨rfl, rfl, trivial⟩ rfl (some_inj H)
  replace H := ite_f hb5 H
  refine Lst.rG hb5 (Ev.fieldAddr (off' := 0) rfl Try.runUnderlying24 rfl Try.sizeOf3 rfl rfl) ?_
  refine Lst.rG hb5 (Ev.load (i := 0) rfl rfl Try.isAgg3 (v := iv a0.N) ((PosetR.get_N gh0).off (by rfl))) ?_
  refine Lst.rG hb5 (Ev.gtr rfl rfl) ?_
  refine Lst.r (Ev.pickF rfl hb5 rfl) ?_
  refine Lst.nil ?_
  exact At.meet (decide (a0.N > (20 : Int))) fl ⟨rfl, rfl, trivial⟩ rfl (some_inj H)
 rintro F6 y4 hF7 hy
 subst hy
 refine Lst.as (e' := [(1, pv b1 0), (13, .bool y4)]) (L' := (.blk b1 (enc (PosetR.mk a0 s_a0_1)) 24) :: L) ⟨rfl, rfl, trivial⟩ rfl ?_
 replace H := HKo3
 refine nt0 ?_
 rcases Bool.eq_false_or_eq_true y4 with hb8 | hb8
 ·replace H := ite_t hb8 H
  refine Cd.condT rfl hb8 ?_
  refine sr0 ?_
  refine Lst.r (Ev.assign rfl) ?_
  refine nt0 ?_
  obtain rfl := some_inj H
  refine Cd.ret ?_
  refine At.then_ret ?_
  exact At.ret1 rfl (Res.tmp rfl) hF7 (sc1 (.refl _)) ⟨rfl, rfl⟩
 replace H := ite_f hb8 H
 refine Cd.condF rfl hb8 ?_
 refine Cd.skip ?_
 refine At.then ?_
 refine Cd.seq ?_
 refine sr0 ?_
 refine Lst.r (Ev.fieldAddr (off' := 0) rfl Try.runUnderlying24 rfl Try.sizeOf3 rfl rfl) ?_
 refine Lst.r (Ev.load (i := 0) rfl rfl Try.isAgg3 (v := iv a0.N) ((PosetR.get_N gh0).off (by rfl))) ?_
 refine Lst.r (Ev.fieldAddr (off' := 0) rfl Try.runUnderlying24 rfl Try.sizeOf3 rfl rfl) ?_
 refine Lst.r (Ev.load (i := 0) rfl rfl Try.isAgg3 (v := iv a0.N) ((PosetR.get_N gh0).off (by rfl))) ?_
 refine Lst.r (Ev.fieldAddr (off' := 1) rfl Try.runUnderlying24 rfl Try.sizeOf22 rfl rfl) ?_
 refine Lst.r (Ev.load (i := 0) rfl rfl Try.isAgg22 (v := Sl.v s_a0_1) ((PosetR.get_Pairs gh0).off (by rfl))) ?_
 obtain ⟨r9, h10, H⟩ := bind_some H
 refine Lst.call1 rfl rfl (by decide) (vs := [iv a0.N, iv a0.N, Sl.v s_a0_1]) ⟨rfl, rfl, rfl, trivial⟩ Try.call34 (partref_PairsErr_sim h10 w0 _ M _ (sc1 hM) (hs_a0_1.mono hF7 (.refl _))) ?_
 refine Lst.r (Ev.assign rfl) ?_
 refine nsr ?_
 refine mv0 rfl ?_
 refine Lst.r (Ev.neq rfl rfl) ?_
 refine nt0 ?_
 rcases Bool.eq_false_or_eq_true (r9 != (0 : Int)) with hb13 | hb13
 ·replace H := ite_t hb13 H
  refine Cd.condT rfl hb13 ?_
  refine sr0 ?_
  refine mv0 rfl ?_
  refine Lst.r (Ev.assign rfl) ?_
  refine nt0 ?_
  obtain rfl := some_inj H
  refine Cd.ret ?_
  refine At.then_ret ?_
  exact At.ret1 rfl (Res.tmp rfl) hF7 (sc1 (.refl _)) ⟨rfl, rfl⟩
 replace H := ite_f hb13 H
 refine Cd.condF rfl hb13 ?_
 refine Cd.skip ?_
 refine At.then ?_
 refine Cd.seq ?_
 refine sr0 ?_
 refine Lst.r (Ev.fieldAddr (off' := 0) rfl Try.runUnderlying24 rfl Try.sizeOf3 rfl rfl) ?_
 refine Lst.r (Ev.load (i := 0) rfl rfl Try.isAgg3 (v := iv a0.N) ((PosetR.get_N gh0).off (by rfl))) ?_
 refine Lst.r (Ev.fieldAddr (off' := 1) rfl Try.runUnderlying24 rfl Try.sizeOf22 rfl rfl) ?_
 refine Lst.r (Ev.load (i := 0) rfl rfl Try.isAgg22 (v := Sl.v s_a0_1) ((PosetR.get_Pairs gh0).off (by rfl))) ?_
 obtain ⟨r14, h15, H⟩ := bind_some H
 refine Lst.call rfl rfl (by decide) (vs := [iv a0.N, Sl.v s_a0_1]) ⟨rfl, rfl, trivial⟩ Try.call45 (partref_Closure_sim h15 w0 _ M _ (sc1 hM) (hs_a0_1.mono hF7 (.refl _))) (fun F21 L' v hF22 hv => ?_)
 obtain ⟨s16, rs17, rfl, rfl, fm18⟩ := hv
 refine Lst.r (Ev.lenM (map_len fm18) (Ev.lenS (α := LR Bool) (xs := rs17) (by decide) rfl rfl Try.runUnderlying73 (rdo 1 rfl rfl rfl))) ?_
 refine mv0 rfl ?_
 refine nt0 ?_
 refine Cd.block ?_
 refine Cd.bound (Rd.le (α := LR Bool) (xs := rs17) (by decide) (rdo 1 rfl rfl rfl)) (fun hN36 => ?_)
 rw [map_len fm18] at hN36
 obtain ⟨ol24, H, HKl24⟩ := andThen_some H
 refine Cd.loop (σ := Nat × Nat × Unit) (fun (i24, k24, _u) => [(28, Sl.v s16), (29, iv (r14.length : Int)), (30, iv (i24 : Int))]) (fun (i24, k24, _u) => (.rows (α := Bool) 4 rs17) :: (.own s16 75 1 (encs rs17)) :: (.blk b1 (enc (PosetR.mk a0 s_a0_1)) 24) :: L) (fun _ => (fun (i24, k24, _u) => rangeM (partref_PosetErr_B0 r14) k24 i24 () = some ol24 ∧ i24 + k24 = r14.length)) (fun (i24, k24, _u) => k24) (0, r14.length, ()) ⟨rfl, rfl, rfl, trivial⟩ rfl ⟨H, by omega⟩ ?_
 rintro F25 ⟨i24, k24, _u⟩ hF26 ⟨H, hik24⟩
 refine Cd.as (e' := [(28, Sl.v s16), (29, iv (r14.length : Int)), (30, iv (i24 : Int))]) (L' := (.rows (α := Bool) 4 rs17) :: (.own s16 75 1 (encs rs17)) :: (.blk b1 (enc (PosetR.mk a0 s_a0_1)) 24) :: L) ⟨rfl, rfl, rfl, trivial⟩ rfl ?_
 rcases k24 with _ | k24
 ·have hc24 : decide ((i24 : Int) < (r14.length : Int)) = false := decide_eq_false (by omega)
  replace H := rangeM_end H
  refine sr0 ?_
  refine Lst.r (Ev.lss rfl rfl) ?_
  refine nt0 ?_
  refine Cd.seq ?_
  refine Cd.condF rfl hc24 ?_
  refine Cd.exit ?_
  refine At.then_exit ?_
  refine At.then_exit ?_
  refine At.in_exit ?_
  subst H
  replace H := HKl24
  refine At.then ?_
  refine sr0 ?_
  refine Lst.r (Ev.assign rfl) ?_
  refine nt0 ?_
  obtain rfl := some_inj H
  refine Cd.ret ?_
  exact At.ret1 rfl (Res.tmp rfl) (FLe.trans (FLe.trans hF7 hF22) hF26) (sc1 (sc1 (sc1 (.refl _)))) ⟨rfl, rfl⟩
 have hc24 : decide ((i24 : Int) < (r14.length : Int)) = true := decide_eq_true (by omega)
 obtain ⟨c24, H, hgo24, hbrk24, hret24⟩ := rangeM_go H
 unfold partref_PosetErr_B0 at H
 try dsimp only at H
 refine sr0 ?_
 refine Lst.r (Ev.lss rfl rfl) ?_
 refine nt0 ?_
 refine Cd.seq ?_
 refine Cd.condT rfl hc24 ?_
 refine Cd.skip ?_
 refine At.then ?_
 refine Cd.seq ?_
 refine Cd.block ?_
 refine sr0 ?_
 refine mv0 rfl ?_
 obtain ⟨x27, h28, H⟩ := bind_some H
 have g29 := lat_some h28
 obtain ⟨⟨r30v, r30h⟩, r30g, r30e, r30m⟩ := map_get fm18 g29.2.2
 obtain rfl : x27 = r30v := r30e.symm
 have hh31 := row_h r30g
 refine Lst.r (Ev.indexS (α := LR Bool) (xs := rs17) rfl rfl Try.runUnderlying73 Try.sizeOf75 rfl (by decide) (rdo 1 rfl rfl rfl) g29.1 (by have := map_len fm18; omega)) ?_
 refine Lst.r (Ev.loadS (α := LR Bool) rfl (rdo 1 rfl rfl rfl) Try.isAgg75 (v := Sl.v r30h) ((Get.elemN (s := 1) rfl r30g gh0).off (by omega))) ?_
 refine Lst.r (Ev.assign rfl) ?_
 refine Lst.r (Ev.assign rfl) ?_
 refine nsr ?_
 refine mv0 rfl ?_
 refine mv0 rfl ?_
 obtain ⟨x32, h33, H⟩ := bind_some H
 have g34 := lat_some h33
 refine Lst.r (Ev.indexS (α := Bool) (xs := x27) rfl rfl Try.runUnderlying75 Try.sizeOf4 rfl (by decide) (Rd.row (j := 0) rfl r30g) g34.1 g34.2.1) ?_
 refine Lst.r (Ev.loadS (α := Bool) rfl (Rd.row (j := 0) rfl r30g) Try.isAgg4 (v := .bool x32) ((Get.elemN (s := 1) (x := x32) rfl g34.2.2 gh0).off (by omega))) ?_
 refine nt0 ?_
 rcases Bool.eq_false_or_eq_true x32 with hb35 | hb35
 ·replace H := ite_t hb35 H
  refine Cd.condT rfl hb35 ?_
  refine sr0 ?_
  refine Lst.r (Ev.assign rfl) ?_
  refine nt0 ?_
  have H := hret24 _ (some_inj H).symm
  subst H
  replace H := HKl24
  obtain rfl := some_inj H
  refine Cd.ret ?_
  refine At.in_ret ?_
  refine At.then_ret ?_
  refine At.then_ret ?_
  refine At.in_ret ?_
  refine At.then_ret ?_
  exact At.ret1 rfl (Res.tmp rfl) (FLe.trans (FLe.trans hF7 hF22) hF26) (sc1 (sc1 (sc1 (.refl _)))) ⟨rfl, rfl⟩
 replace H := ite_f hb35 H
 refine Cd.condF rfl hb35 ?_
 refine Cd.skip ?_
 refine At.in_normal ?_
 refine At.then ?_
 refine Cd.region ?_
 refine Lst.r (Ev.incr (by omega) rfl rfl) ?_
 refine mv0 rfl ?_
 refine Lst.nil ?_
 exact At.meet (i24 + 1, k24, ()) hF26 ⟨rfl, rfl, rfl, trivial⟩ rfl ⟨⟨hgo24 _ (some_inj H).symm, by omega⟩, Nat.lt_succ_self _⟩
set_option maxRecDepth 20000 in
theorem match_in_sim {a0 : Int} {a1 : Int} {a2 : Int} {r : Bool} (H : match_in a0 a1 a2 = some r) (w0 : World) (F : Frz) (M L : List Item) (hM : M.Sublist L) : Ok Try.prog w0 62 [iv a0, iv a1, iv a2] F (L) (Is (.bool r) (L)) := by
 unfold match_in at H
 refine Ok.enter (m := 3) (n := 15) Try.func62 rfl rfl rfl (by decide) ?_
 refine Cd.env (e' := [(0, iv a0), (1, iv a1), (2, iv a2)]) rfl ?_
 refine sr0 ?_
 refine Lst.r (Ev.assign rfl) ?_
 refine nsr ?_
 refine mv0 rfl ?_
 refine mv0 rfl ?_
 refine Lst.r (Ev.geq rfl rfl) ?_
 refine mv0 rfl ?_
 obtain ⟨o1, H, HKo1⟩ := bind_some H
 refine Lst.join (σ := Bool) 4 (fun y2 => [(14, .bool y2)]) (fun y2 => L) (fun _ y2 => y2 = o1) ?_ ?_
 ·rcases (Bool.eq_false_or_eq_true (decide (a0 ≥ a1))).symm with hb3 | hb3
  ·replace H := ite_f hb3 H
   refine Lst.skip rfl rfl rfl hb3 rfl (by decide) ?_
   refine Lst.skip rfl rfl rfl hb3 rfl (by decide) ?_
   refine Lst.skip rfl rfl rfl hb3 rfl (by decide) ?_
   refine Lst.r (Ev.pickF rfl hb3 rfl) ?_
   refine Lst.nil ?_
   exact At.meet false fl ⟨rfl, trivial⟩ rfl (some_inj H)
  replace H := ite_t hb3 H
  refine Lst.rG hb3 (Ev.move rfl) ?_
  refine Lst.rG hb3 (Ev.move rfl) ?_
  refine Lst.rG hb3 (Ev.leq rfl rfl) ?_
  refine Lst.r (Ev.pickT rfl hb3 rfl) ?_
  refine Lst.nil ?_
  exact At.meet (decide (a0 ≤ a2)) fl ⟨rfl, trivial⟩ rfl (some_inj H)
 rintro F4 y2 hF5 hy
 subst hy
 refine Lst.as (e' := [(14, .bool y2)]) (L' := L) ⟨rfl, trivial⟩ rfl ?_
 replace H := HKo1
 refine Lst.r (Ev.assign rfl) ?_
 refine nt0 ?_
 obtain rfl := some_inj H
 refine Cd.ret ?_
 exact At.ret1 rfl (Res.tmp rfl) hF5 (.refl _) ⟨rfl, rfl⟩
set_option maxRecDepth 20000 in
theorem match_Check_1_sim {a0 : Pair} {a1 : Int} {a2 : Int} {b_a1 : Nat} {b_a2 : Nat} {r : Bool} (H : match_Check_1 a0 a1 a2 = some r) (w0 : World) (F : Frz) (M L : List Item) (hM : M.Sublist L) : Ok Try.prog w0 64 [.agg (enc a0).toArray, pv b_a1 0, pv b_a2 0] F ((.blk b_a1 (enc a1) 3) :: (.blk b_a2 (enc a2) 3) :: L) (Is (.bool r) ((.blk b_a1 (enc a1) 3) :: (.blk b_a2 (enc a2) 3) :: L)) := by
 unfold match_Check_1 at H
 refine Ok.enter (m := 3) (n := 19) Try.func64 rfl rfl rfl (by decide) ?_
 refine Cd.env (e' := [(0, .agg (enc a0).toArray), (1, pv b_a1 0), (2, pv b_a2 0)]) rfl ?_
 refine sr0 ?_
 refine Lst.box rfl rfl (by decide) rfl (cs := enc a0) rfl (fun b3 => ?_)
 refine Lst.r (Ev.assign rfl) ?_
 refine nsr ?_
 refine Lst.r (Ev.fieldAddr (off' := 0) rfl Try.runUnderlying49 rfl Try.sizeOf3 rfl rfl) ?_
 refine Lst.r (Ev.load (i := 0) rfl rfl Try.isAgg3 (v := iv a0.A) ((Pair.get_A gh0).off (by rfl))) ?_
 refine Lst.r (Ev.load (i := 1) rfl rfl Try.isAgg3 (v := iv a1) gh0) ?_
 refine Lst.r (Ev.sub rfl rfl) ?_
 obtain ⟨r5, h6, H⟩ := bind_some H
 refine Lst.call1 rfl rfl (by decide) (vs := [iv a0.A, iv (0 : Int), iv (w64 (a1 - (1 : Int)))]) ⟨rfl, rfl, rfl, trivial⟩ Try.call62 (match_in_sim h6 w0 _ M _ (sc2 (sc1 hM))) ?_
 refine Lst.r (Ev.not rfl) ?_
 refine mv0 rfl ?_
 obtain ⟨o9, H, HKo9⟩ := bind_some H
 refine Lst.join (σ := Bool) 7 (fun y10 => [(18, .bool y10)]) (fun y10 => (.blk b3 (enc a0) 49) :: (.blk b_a1 (enc a1) 3) :: (.blk b_a2 (enc a2) 3) :: L) (fun _ y10 => y10 = o9) ?_ ?_
 ·rcases Bool.eq_false_or_eq_true (!r5) with hb11 | hb11
  ·replace H := ite_t hb11 H
   refine Lst.skip rfl rfl rfl hb11 rfl (by decide) ?_
   refine Lst.skip rfl rfl rfl hb11 rfl (by decide) ?_
   refine Lst.skip rfl rfl rfl hb11 rfl (by decide) ?_
   refine Lst.skip rfl rfl rfl hb11 rfl (by decide) ?_
   refine Lst.skip rfl rfl rfl hb11 rfl (by decide) ?_
   refine Lst.skip rfl rfl rfl hb11 rfl (by decide) ?_
   refine Lst.r (Ev.pickT rfl hb11 rfl) ?_
   refine Lst.nil ?_
   exact At.meet true fl ⟨rfl, trivial⟩ rfl (some_inj H)
  replace H := ite_f hb11 H
  refine Lst.rG hb11 (Ev.fieldAddr (off' := 1) rfl Try.runUnderlying49 rfl Try.sizeOf3 rfl rfl) ?_
  refine Lst.rG hb11 (Ev.load (i := 0) rfl rfl Try.isAgg3 (v := iv a0.B) ((Pair.get_B gh0).off (by rfl))) ?_
  refine Lst.rG hb11 (Ev.load (i := 2) rfl rfl Try.isAgg3 (v := iv a2) gh0) ?_
  refine Lst.rG hb11 (Ev.sub rfl rfl) ?_
  obtain ⟨r12, h13, H⟩ := bind_some H
  refine Lst.call1G rfl rfl rfl hb11 rfl (by decide) (vs := [iv a0.B, iv (0 : Int), iv (w64 (a2 - (1 : Int)))]) ⟨rfl, rfl, rfl, trivial⟩ Try.call62 (match_in_sim h13 w0 _ M _ (sc2 (sc1 hM))) ?_
  refine Lst.rG hb11 (Ev.not rfl) ?_
  refine Lst.r (Ev.pickF rfl hb11 rfl) ?_
  refine Lst.nil ?_
  exact At.meet (!r12) fl ⟨rfl, trivial⟩ rfl (some_inj H)
 rintro F16 y10 hF17 hy
 subst hy
 refine Lst.as (e' := [(18, .bool y10)]) (L' := (.blk b3 (enc a0) 49) :: (.blk b_a1 (enc a1) 3) :: (.blk b_a2 (enc a2) 3) :: L) ⟨rfl, trivial⟩ rfl ?_
 replace H := HKo9
 refine Lst.r (Ev.assign rfl) ?_
 refine nt0 ?_
 obtain rfl := some_inj H
 refine Cd.ret ?_
 exact At.ret1 rfl (Res.tmp rfl) hF17 (sc1 (sk1 (sk1 (.refl _)))) ⟨rfl, rfl⟩
set_option maxRecDepth 20000 in
theorem slices_IndexFunc_api_Pair_api_Pair_Check_1_sim {a0 : List Pair} {a1_c0 : Int} {a1_c1 : Int} {s_a0 : Sl} {b_a1_c0 : Nat} {b_a1_c1 : Nat} {r : Int} (H : slices_IndexFunc_api_Pair_api_Pair_Check_1 a0 a1_c0 a1_c1 = some r) (w0 : World) (F : Frz) (M L : List Item) (hM : M.Sublist L) (hs_a0 : Rd w0 F M s_a0 a0) : Ok Try.prog w0 78 [Sl.v s_a0, .func (.func 64) #[] #[pv b_a1_c0 0, pv b_a1_c1 0]] F ((.blk b_a1_c0 (enc a1_c0) 3) :: (.blk b_a1_c1 (enc a1_c1) 3) :: L) (Is (iv r) ((.blk b_a1_c0 (enc a1_c0) 3) :: (.blk b_a1_c1 (enc a1_c1) 3) :: L)) := by
 unfold slices_IndexFunc_api_Pair_api_Pair_Check_1 at H
 refine Ok.enter (m := 2) (n := 19) Try.func78 rfl rfl rfl (by decide) ?_
 refine Cd.env (e' := [(0, Sl.v s_a0), (1, .func (.func 64) #[] #[pv b_a1_c0 0, pv b_a1_c1 0])]) rfl ?_
 refine sr0 ?_
 refine Lst.r (Ev.assign rfl) ?_
 refine nt0 ?_
 refine Cd.seq ?_
 refine sr0 ?_
 refine mv0 rfl ?_
 refine Lst.r (Ev.lenS (α := Pair) (xs := a0) (by decide) rfl rfl Try.runUnderlying22 (hs_a0.mono fl (sc2 hM))) ?_
 refine mv0 rfl ?_
 refine nt0 ?_
 refine Cd.block ?_
 refine Cd.bound (Rd.le (α := Pair) (xs := a0) (by decide) (hs_a0.mono fl (sc2 hM))) (fun hN14 => ?_)
 obtain ⟨ol3, H, HKl3⟩ := andThen_some H
 refine Cd.loop (σ := Nat × Nat × Unit) (fun (i3, k3, _u) => [(0, Sl.v s_a0), (1, .func (.func 64) #[] #[pv b_a1_c0 0, pv b_a1_c1 0]), (7, iv (a0.length : Int)), (8, iv (i3 : Int))]) (fun (i3, k3, _u) => (.blk b_a1_c0 (enc a1_c0) 3) :: (.blk b_a1_c1 (enc a1_c1) 3) :: L) (fun _ => (fun (i3, k3, _u) => rangeM (slices_IndexFunc_api_Pair_api_Pair_Check_1_B0 a0 a1_c0 a1_c1) k3 i3 () = some ol3 ∧ i3 + k3 = a0.length)) (fun (i3, k3, _u) => k3) (0, a0.length, ()) ⟨rfl, rfl, rfl, rfl, trivial⟩ rfl ⟨H, by omega⟩ ?_
 rintro F4 ⟨i3, k3, _u⟩ hF5 ⟨H, hik3⟩
 refine Cd.as (e' := [(0, Sl.v s_a0), (1, .func (.func 64) #[] #[pv b_a1_c0 0, pv b_a1_c1 0]), (7, iv (a0.length : Int)), (8, iv (i3 : Int))]) (L' := (.blk b_a1_c0 (enc a1_c0) 3) :: (.blk b_a1_c1 (enc a1_c1) 3) :: L) ⟨rfl, rfl, rfl, rfl, trivial⟩ rfl ?_
 rcases k3 with _ | k3
 ·have hc3 : decide ((i3 : Int) < (a0.length : Int)) = false := decide_eq_false (by omega)
  replace H := rangeM_end H
  refine sr0 ?_
  refine Lst.r (Ev.lss rfl rfl) ?_
  refine nt0 ?_
  refine Cd.seq ?_
  refine Cd.condF rfl hc3 ?_
  refine Cd.exit ?_
  refine At.then_exit ?_
  refine At.then_exit ?_
  refine At.in_exit ?_
  subst H
  replace H := HKl3
  refine At.then ?_
  refine sr0 ?_
  refine Lst.r (Ev.assign rfl) ?_
  refine nt0 ?_
  obtain rfl := some_inj H
  refine Cd.ret ?_
  exact At.ret1 rfl (Res.tmp rfl) hF5 (sk1 (sk1 (.refl _))) ⟨rfl, rfl⟩
 have hc3 : decide ((i3 : Int) < (a0.length : Int)) = true := decide_eq_true (by omega)
 obtain ⟨c3, H, hgo3, hbrk3, hret3⟩ := rangeM_go H
 unfold slices_IndexFunc_api_Pair_api_Pair_Check_1_B0 at H
 try dsimp only at H
 refine sr0 ?_
 refine Lst.r (Ev.lss rfl rfl) ?_
 refine nt0 ?_
 refine Cd.seq ?_
 refine Cd.condT rfl hc3 ?_
 refine Cd.skip ?_
 refine At.then ?_
 refine Cd.seq ?_
 refine Cd.block ?_
 refine sr0 ?_
 refine mv0 rfl ?_
 refine Lst.r (Ev.assign rfl) ?_
 refine nsr ?_
 refine mv0 rfl ?_
 refine mv0 rfl ?_
 refine mv0 rfl ?_
 obtain ⟨x6, h7, H⟩ := bind_some H
 have g8 := lat_some h7
 refine Lst.r (Ev.indexS (α := Pair) (xs := a0) rfl rfl Try.runUnderlying22 Try.sizeOf49 rfl (by decide) (hs_a0.mono hF5 (sc2 hM)) g8.1 g8.2.1) ?_
 refine Lst.r (Ev.loadSA (α := Pair) rfl (hs_a0.mono hF5 (sc2 hM)) Try.isAgg49 Try.sizeOf49 (ch := enc x6) (Enc.len _) (by decide) ((Get.elemN (s := 2) (x := x6) rfl g8.2.2 gh0).off (by omega))) ?_
 obtain ⟨r9, h10, H⟩ := bind_some H
 refine Lst.callV1 rfl rfl (by decide) (vs := [.agg (enc x6).toArray]) (cs := [pv b_a1_c0 0, pv b_a1_c1 0]) rfl ⟨rfl, trivial⟩ Try.call64 (match_Check_1_sim h10 w0 _ M _ hM) ?_
 refine nt0 ?_
 rcases Bool.eq_false_or_eq_true r9 with hb13 | hb13
 ·replace H := ite_t hb13 H
  refine Cd.condT rfl hb13 ?_
  refine sr0 ?_
  refine mv0 rfl ?_
  refine Lst.r (Ev.assign rfl) ?_
  refine nt0 ?_
  have H := hret3 _ (some_inj H).symm
  subst H
  replace H := HKl3
  obtain rfl := some_inj H
  refine Cd.ret ?_
  refine At.in_ret ?_
  refine At.then_ret ?_
  refine At.then_ret ?_
  refine At.in_ret ?_
  refine At.then_ret ?_
  exact At.ret1 rfl (Res.tmp rfl) hF5 (sk1 (sk1 (.refl _))) ⟨rfl, rfl⟩
 replace H := ite_f hb13 H
 refine Cd.condF rfl hb13 ?_
 refine Cd.skip ?_
 refine At.in_normal ?_
 refine At.then ?_
 refine Cd.region ?_
 refine Lst.r (Ev.incr (by omega) rfl rfl) ?_
 refine mv0 rfl ?_
 refine Lst.nil ?_
 exact At.meet (i3 + 1, k3, ()) hF5 ⟨rfl, rfl, rfl, rfl, trivial⟩ rfl ⟨⟨hgo3 _ (some_inj H).symm, by omega⟩, Nat.lt_succ_self _⟩
set_option maxRecDepth 20000 in
theorem slices_ContainsFunc_api_Pair_api_Pair_Check_1_sim {a0 : List Pair} {a1_c0 : Int} {a1_c1 : Int} {s_a0 : Sl} {b_a1_c0 : Nat} {b_a1_c1 : Nat} {r : Bool} (H : slices_ContainsFunc_api_Pair_api_Pair_Check_1 a0 a1_c0 a1_c1 = some r) (w0 : World) (F : Frz) (M L : List Item) (hM : M.Sublist L) (hs_a0 : Rd w0 F M s_a0 a0) : Ok Try.prog w0 63 [Sl.v s_a0, .func (.func 64) #[] #[pv b_a1_c0 0, pv b_a1_c1 0]] F ((.blk b_a1_c0 (enc a1_c0) 3) :: (.blk b_a1_c1 (enc a1_c1) 3) :: L) (Is (.bool r) ((.blk b_a1_c0 (enc a1_c0) 3) :: (.blk b_a1_c1 (enc a1_c1) 3) :: L)) := by
 unfold slices_ContainsFunc_api_Pair_api_Pair_Check_1 at H
 refine Ok.enter (m := 2) (n := 9) Try.func63 rfl rfl rfl (by decide) ?_
 refine Cd.env (e' := [(0, Sl.v s_a0), (1, .func (.func 64) #[] #[pv b_a1_c0 0, pv b_a1_c1 0])]) rfl ?_
 refine sr0 ?_
 refine Lst.r (Ev.assign rfl) ?_
 refine nsr ?_
 refine mv0 rfl ?_
 refine mv0 rfl ?_
 obtain ⟨r3, h4, H⟩ := bind_some H
 refine Lst.call1 rfl rfl (by decide) (vs := [Sl.v s_a0, .func (.func 64) #[] #[pv b_a1_c0 0, pv b_a1_c1 0]]) ⟨rfl, rfl, trivial⟩ Try.call78 (slices_IndexFunc_api_Pair_api_Pair_Check_1_sim h4 w0 _ M _ hM (hs_a0.mono fl (.refl _))) ?_
 refine Lst.r (Ev.geq rfl rfl) ?_
 refine Lst.r (Ev.assign rfl) ?_
 refine nt0 ?_
 obtain rfl := some_inj H
 refine Cd.ret ?_
 exact At.ret1 rfl (Res.tmp rfl) fl (sk1 (sk1 (.refl _))) ⟨rfl, rfl⟩
set_option maxRecDepth 20000 in
theorem match_Check_sim {a0 : Int} {a1 : Int} {a2 : List Pair} {s_a2 : Sl} {r : Int} (H : match_Check a0 a1 a2 = some r) (w0 : World) (F : Frz) (M L : List Item) (hM : M.Sublist L) (hs_a2 : Rd w0 F M s_a2 a2) : Ok Try.prog w0 37 [iv a0, iv a1, Sl.v s_a2] F (L) (Is (iv r) (L)) := by
 unfold match_Check at H
 refine Ok.enter (m := 3) (n := 24) Try.func37 rfl rfl rfl (by decide) ?_
 refine Cd.env (e' := [(0, iv a0), (1, iv a1), (2, Sl.v s_a2)]) rfl ?_
 refine sr0 ?_
 refine Lst.box rfl rfl (by decide) rfl (cs := enc a0) rfl (fun b1 => ?_)
 refine Lst.box rfl rfl (by decide) rfl (cs := enc a1) rfl (fun b3 => ?_)
 refine Lst.r (Ev.assign rfl) ?_
 refine nt0 ?_
 refine Cd.seq ?_
 refine Cd.block ?_
 refine sr0 ?_
 refine Lst.r (Ev.load (i := 1) rfl rfl Try.isAgg3 (v := iv a0) gh0) ?_
 obtain ⟨r5, h6, H⟩ := bind_some H
 refine Lst.call1 rfl rfl (by decide) (vs := [iv a0, iv (0 : Int), iv (40 : Int)]) ⟨rfl, rfl, rfl, trivial⟩ Try.call62 (match_in_sim h6 w0 _ M _ (sc2 hM)) ?_
 refine Lst.r (Ev.not rfl) ?_
 refine mv0 rfl ?_
 obtain ⟨o9, H, HKo9⟩ := bind_some H
 refine Lst.join (σ := Bool) 4 (fun y10 => [(2, Sl.v s_a2), (3, pv b1 0), (4, pv b3 0), (15, .bool y10)]) (fun y10 => (.blk b3 (enc a1) 3) :: (.blk b1 (enc a0) 3) :: L) (fun _ y10 => y10 = o9) ?_ ?_
 ·rcases Bool.eq_false_or_eq_true (!r5) with hb11 | hb11
  ·replace H := ite_t hb11 H
   refine Lst.skip rfl rfl rfl hb11 rfl (by decide) ?_
   refine Lst.skip rfl rfl rfl hb11 rfl (by decide) ?_
   refine Lst.skip rfl rfl rfl hb11 rfl (by decide) ?_
   refine Lst.r (Ev.pickT rfl hb11 rfl) ?_
   refine Lst.nil ?_
   exact At.meet true fl ⟨rfl, rfl, rfl, rfl, trivial⟩ rfl (some_inj H)
  replace H := ite_f hb11 H
  refine Lst.rG hb11 (Ev.load (i := 0) rfl rfl Try.isAgg3 (v := iv a1) gh0) ?_
  obtain ⟨r12, h13, H⟩ := bind_some H
  refine Lst.call1G rfl rfl rfl hb11 rfl (by decide) (vs := [iv a1, iv (0 : Int), iv (40 : Int)]) ⟨rfl, rfl, rfl, trivial⟩ Try.call62 (match_in_sim h13 w0 _ M _ (sc2 hM)) ?_
  refine Lst.rG hb11 (Ev.not rfl) ?_
  refine Lst.r (Ev.pickF rfl hb11 rfl) ?_
  refine Lst.nil ?_
  exact At.meet (!r12) fl ⟨rfl, rfl, rfl, rfl, trivial⟩ rfl (some_inj H)
 rintro F16 y10 hF17 hy
 subst hy
 refine Lst.as (e' := [(2, Sl.v s_a2), (3, pv b1 0), (4, pv b3 0), (15, .bool y10)]) (L' := (.blk b3 (enc a1) 3) :: (.blk b1 (enc a0) 3) :: L) ⟨rfl, rfl, rfl, rfl, trivial⟩ rfl ?_
 replace H := HKo9
 refine Lst.r (Ev.assign rfl) ?_
 refine nt0 ?_
 rcases Bool.eq_false_or_eq_true y10 with hb18 | hb18
 ·replace H := ite_t hb18 H
  refine Cd.condT rfl hb18 ?_
  refine sr0 ?_
  refine Lst.r (Ev.assign rfl) ?_
  refine nt0 ?_
  obtain rfl := some_inj H
  refine Cd.ret ?_
  refine At.in_ret ?_
  refine At.then_ret ?_
  exact At.ret1 rfl (Res.tmp rfl) hF17 (sc1 (sc1 (.refl _))) ⟨rfl, rfl⟩
 replace H := ite_f hb18 H
 refine Cd.condF rfl hb18 ?_
 refine sr0 ?_
 refine mv0 rfl ?_
 refine Lst.r (Ev.lenS (α := Pair) (xs := a2) (by decide) rfl rfl Try.runUnderlying22 (hs_a2.mono hF17 (sc2 hM))) ?_
 refine Lst.r (Ev.gtr rfl rfl) ?_
 refine Lst.r (Ev.assign rfl) ?_
 refine nt0 ?_
 rcases Bool.eq_false_or_eq_true (decide ((a2.length : Int) > (600 : Int))) with hb19 | hb19
 ·replace H := ite_t hb19 H
  refine Cd.condT rfl hb19 ?_
  refine sr0 ?_
  refine Lst.r (Ev.assign rfl) ?_
  refine nt0 ?_
  obtain rfl := some_inj H
  refine Cd.ret ?_
  refine At.in_ret ?_
  refine At.then_ret ?_
  exact At.ret1 rfl (Res.tmp rfl) hF17 (sc1 (sc1 (.refl _))) ⟨rfl, rfl⟩
 replace H := ite_f hb19 H
 refine Cd.condF rfl hb19 ?_
 refine sr0 ?_
 refine mv0 rfl ?_
 refine Lst.r (Ev.makeFunc (us := []) (vs := [pv b1 0, pv b3 0]) trivial ⟨rfl, rfl, trivial⟩) ?_
 obtain ⟨r20, h21, H⟩ := bind_some H
 refine Lst.front (i := 1) rfl (L' := (.blk b1 (enc a0) 3) :: (.blk b3 (enc a1) 3) :: L) rfl ?_
 refine Lst.call1 rfl rfl (by decide) (vs := [Sl.v s_a2, .func (.func 64) #[] #[pv b1 0, pv b3 0]]) ⟨rfl, rfl, trivial⟩ Try.call63 (slices_ContainsFunc_api_Pair_api_Pair_Check_1_sim h21 w0 _ M _ hM (hs_a2.mono hF17 (.refl _))) ?_
 refine Lst.r (Ev.assign rfl) ?_
 refine nt0 ?_
 rcases Bool.eq_false_or_eq_true r20 with hb24 | hb24
 ·replace H := ite_t hb24 H
  refine Cd.condT rfl hb24 ?_
  refine sr0 ?_
  refine Lst.r (Ev.assign rfl) ?_
  refine nt0 ?_
  obtain rfl := some_inj H
  refine Cd.ret ?_
  refine At.in_ret ?_
  refine At.then_ret ?_
  exact At.ret1 rfl (Res.tmp rfl) hF17 (sc1 (sc1 (.refl _))) ⟨rfl, rfl⟩
 replace H := ite_f hb24 H
 refine Cd.condF rfl hb24 ?_
 refine Cd.skip ?_
 refine At.in_normal ?_
 refine At.then ?_
 refine sr0 ?_
 refine Lst.r (Ev.assign rfl) ?_
 refine nt0 ?_
 obtain rfl := some_inj H
 refine Cd.ret ?_
 exact At.ret1 rfl (Res.tmp rfl) hF17 (sc1 (sc1 (.refl _))) ⟨rfl, rfl⟩
set_option maxRecDepth 20000 in
theorem poset_closed_sim {a0 : Poset} {s_a0_1 : Sl} {r : (Vector (Vector Bool 20) 20)} (H : poset_closed a0 = some r) (w0 : World) (F : Frz) (M L : List Item) (hM : M.Sublist L) (hs_a0_1 : Rd w0 F M s_a0_1 a0.Pairs) : Ok Try.prog w0 58 [.agg (enc (PosetR.mk a0 s_a0_1)).toArray] F (L) (Is (.agg (enc r).toArray) (L)) := by
 unfold poset_closed at H
 refine Ok.enter (m := 1) (n := 65) Try.func58 rfl rfl rfl (by decide) ?_
 refine Cd.env (e' := [(0, .agg (enc (PosetR.mk a0 s_a0_1)).toArray)]) rfl ?_
 refine sr0 ?_
 refine Lst.box rfl rfl (by decide) rfl (cs := enc (PosetR.mk a0 s_a0_1)) rfl (fun b1 => ?_)
 refine Lst.alloc (z := .agg (enc (Vector.replicate 20 (Vector.replicate 20 false))).toArray) (cs := enc (Vector.replicate 20 (Vector.replicate 20 false))) rfl rfl (by decide) (fun _ => by kernel_rfl) rfl (fun b3 => ?_)
 refine nsr ?_
 refine Lst.alloc (z := .agg (enc (Vector.replicate 20 (Vector.replicate 20 false))).toArray) (cs := enc (Vector.replicate 20 (Vector.replicate 20 false))) rfl rfl (by decide) (fun _ => by kernel_rfl) rfl (fun b5 => ?_)
 refine nt0 ?_
 refine Cd.seq ?_
 refine sr0 ?_
 refine Lst.r (Ev.fieldAddr (off' := 1) rfl Try.runUnderlying24 rfl Try.sizeOf22 rfl rfl) ?_
 refine Lst.r (Ev.load (i := 2) rfl rfl Try.isAgg22 (v := Sl.v s_a0_1) ((PosetR.get_Pairs gh0).off (by rfl))) ?_
 refine Lst.r (Ev.lenS (α := Pair) (xs := a0.Pairs) (by decide) rfl rfl Try.runUnderlying22 (hs_a0_1.mono fl (sc2 (sc1 hM)))) ?_
 refine mv0 rfl ?_
 refine nt0 ?_
 refine Cd.block ?_
 refine Cd.bound (Rd.le (α := Pair) (xs := a0.Pairs) (by decide) (hs_a0_1.mono fl (sc2 (sc1 hM)))) (fun hN74 => ?_)
 obtain ⟨ol7, H, HKl7⟩ := bind_some H
 refine Cd.loop (σ := Nat × Nat × (Vector (Vector Bool 20) 20)) (fun (i7, k7, y8) => [(1, pv b1 0), (2, pv b3 0), (3, pv b5 0), (10, Sl.v s_a0_1), (11, iv (a0.Pairs.length : Int)), (12, iv (i7 : Int))]) (fun (i7, k7, y8) => (.blk b5 (enc y8) 89) :: (.blk b3 (enc (Vector.replicate 20 (Vector.replicate 20 false))) 89) :: (.blk b1 (enc (PosetR.mk a0 s_a0_1)) 24) :: L) (fun _ => (fun (i7, k7, y8) => rangeF (poset_closed_B0 a0) k7 i7 y8 = some ol7 ∧ i7 + k7 = a0.Pairs.length)) (fun (i7, k7, y8) => k7) (0, a0.Pairs.length, (Vector.replicate 20 (Vector.replicate 20 false))) ⟨rfl, rfl, rfl, rfl, rfl, rfl, trivial⟩ rfl ⟨H, by omega⟩ ?_
 rintro F9 ⟨i7, k7, y8⟩ hF10 ⟨H, hik7⟩
 refine Cd.as (e' := [(1, pv b1 0), (2, pv b3 0), (3, pv b5 0), (10, Sl.v s_a0_1), (11, iv (a0.Pairs.length : Int)), (12, iv (i7 : Int))]) (L' := (.blk b5 (enc y8) 89) :: (.blk b3 (enc (Vector.replicate 20 (Vector.replicate 20 false))) 89) :: (.blk b1 (enc (PosetR.mk a0 s_a0_1)) 24) :: L) ⟨rfl, rfl, rfl, rfl, rfl, rfl, trivial⟩ rfl ?_
 rcases k7 with _ | k7
 ·have hc7 : decide ((i7 : Int) < (a0.Pairs.length : Int)) = false := decide_eq_false (by omega)
  replace H := rangeF_end H
  refine sr0 ?_
  refine Lst.r (Ev.lss rfl rfl) ?_
  refine nt0 ?_
  refine Cd.seq ?_
  refine Cd.condF rfl hc7 ?_
  refine Cd.exit ?_
  refine At.then_exit ?_
  refine At.then_exit ?_
  refine At.in_exit ?_
  subst H
  replace H := HKl7
  refine At.then ?_
  refine Cd.seq ?_
  refine sr0 ?_
  refine Lst.r (Ev.fieldAddr (off' := 0) rfl Try.runUnderlying24 rfl Try.sizeOf3 rfl rfl) ?_
  refine Lst.r (Ev.load (i := 2) rfl rfl Try.isAgg3 (v := iv a0.N) ((PosetR.get_N gh0).off (by rfl))) ?_
  refine mv0 rfl ?_
  refine nt0 ?_
  refine Cd.block ?_
  obtain ⟨nn28, hN73, H⟩ := bind_some H
  replace hN73 := upTo_some hN73
  obtain ⟨ol24, H, HKl24⟩ := bind_some H
  refine Cd.loop (σ := Nat × Nat × (Vector (Vector Bool 20) 20)) (fun (i24, k24, y25) => [(1, pv b1 0), (2, pv b3 0), (3, pv b5 0), (24, iv a0.N), (25, iv (i24 : Int))]) (fun (i24, k24, y25) => (.blk b5 (enc y25) 89) :: (.blk b3 (enc (Vector.replicate 20 (Vector.replicate 20 false))) 89) :: (.blk b1 (enc (PosetR.mk a0 s_a0_1)) 24) :: L) (fun _ => (fun (i24, k24, y25) => rangeF (poset_closed_B2 a0) k24 i24 y25 = some ol24 ∧ i24 + k24 = nn28)) (fun (i24, k24, y25) => k24) (0, nn28, y8) ⟨rfl, rfl, rfl, rfl, rfl, trivial⟩ rfl ⟨H, by omega⟩ ?_
  rintro F26 ⟨i24, k24, y25⟩ hF27 ⟨H, hik24⟩
  refine Cd.as (e' := [(1, pv b1 0), (2, pv b3 0), (3, pv b5 0), (24, iv a0.N), (25, iv (i24 : Int))]) (L' := (.blk b5 (enc y25) 89) :: (.blk b3 (enc (Vector.replicate 20 (Vector.replicate 20 false))) 89) :: (.blk b1 (enc (PosetR.mk a0 s_a0_1)) 24) :: L) ⟨rfl, rfl, rfl, rfl, rfl, trivial⟩ rfl ?_
  rcases k24 with _ | k24
  ·have hc24 : decide ((i24 : Int) < a0.N) = false := decide_eq_false (by omega)
   replace H := rangeF_end H
   refine sr0 ?_
   refine Lst.r (Ev.lss rfl rfl) ?_
   refine nt0 ?_
   refine Cd.seq ?_
   refine Cd.condF rfl hc24 ?_
   refine Cd.exit ?_
   refine At.then_exit ?_
   refine At.then_exit ?_
   refine At.in_exit ?_
   subst H
   replace H := HKl24
   refine At.then ?_
   refine sr0 ?_
   refine Lst.r (Ev.loadA (i := 0) rfl rfl Try.isAgg89 Try.sizeOf89 (ch := enc y25) (Enc.len _) gh0) ?_
   refine Lst.store (i := 1) rfl rfl rfl rfl rfl Try.sizeOf89 (vs := enc y25) rfl (Enc.len _) (Enc.one _) (cs' := enc y25) (Put.here ((Enc.len _).trans (Enc.len _).symm)) (L' := (.blk b5 (enc y25) 89) :: (.blk b3 (enc y25) 89) :: (.blk b1 (enc (PosetR.mk a0 s_a0_1)) 24) :: L) rfl ?_
   refine nt0 ?_
   obtain rfl := some_inj H
   refine Cd.ret ?_
   exact At.ret1 rfl (Res.cellA (i := 1) rfl rfl Try.isAgg89 Try.sizeOf89 (Enc.len _)) (FLe.trans hF10 hF27) (sc1 (sc1 (sc1 (.refl _)))) ⟨rfl, rfl⟩
  have hc24 : decide ((i24 : Int) < a0.N) = true := decide_eq_true (by omega)
  obtain ⟨c24, H, hgo24⟩ := rangeF_go H
  unfold poset_closed_B2 at H
  try dsimp only at H
  refine sr0 ?_
  refine Lst.r (Ev.lss rfl rfl) ?_
  refine nt0 ?_
  refine Cd.seq ?_
  refine Cd.condT rfl hc24 ?_
  refine Cd.skip ?_
  refine At.then ?_
  refine Cd.seq ?_
  refine Cd.block ?_
  refine sr0 ?_
  refine mv0 rfl ?_
  refine Lst.r (Ev.assign rfl) ?_
  refine nsr ?_
  refine Lst.r (Ev.fieldAddr (off' := 0) rfl Try.runUnderlying24 rfl Try.sizeOf3 rfl rfl) ?_
  refine Lst.r (Ev.load (i := 2) rfl rfl Try.isAgg3 (v := iv a0.N) ((PosetR.get_N gh0).off (by rfl))) ?_
  refine mv0 rfl ?_
  refine nt0 ?_
  refine Cd.block ?_
  obtain ⟨nn33, hN72, H⟩ := bind_some H
  replace hN72 := upTo_some hN72
  obtain ⟨ol29, H, HKl29⟩ := bind_some H
  refine Cd.loop (σ := Nat × Nat × (Vector (Vector Bool 20) 20)) (fun (i29, k29, y30) => [(1, pv b1 0), (2, pv b3 0), (3, pv b5 0), (6, iv (i24 : Int)), (24, iv a0.N), (25, iv (i24 : Int)), (29, iv a0.N), (30, iv (i29 : Int))]) (fun (i29, k29, y30) => (.blk b5 (enc y30) 89) :: (.blk b3 (enc (Vector.replicate 20 (Vector.replicate 20 false))) 89) :: (.blk b1 (enc (PosetR.mk a0 s_a0_1)) 24) :: L) (fun _ => (fun (i29, k29, y30) => rangeF (poset_closed_B4 a0 i24) k29 i29 y30 = some ol29 ∧ i29 + k29 = nn33)) (fun (i29, k29, y30) => k29) (0, nn33, y25) ⟨rfl, rfl, rfl, rfl, rfl, rfl, rfl, rfl, trivial⟩ rfl ⟨H, by omega⟩ ?_
  rintro F31 ⟨i29, k29, y30⟩ hF32 ⟨H, hik29⟩
  refine Cd.as (e' := [(1, pv b1 0), (2, pv b3 0), (3, pv b5 0), (6, iv (i24 : Int)), (24, iv a0.N), (25, iv (i24 : Int)), (29, iv a0.N), (30, iv (i29 : Int))]) (L' := (.blk b5 (enc y30) 89) :: (.blk b3 (enc (Vector.replicate 20 (Vector.replicate 20 false))) 89) :: (.blk b1 (enc (PosetR.mk a0 s_a0_1)) 24) :: L) ⟨rfl, rfl, rfl, rfl, rfl, rfl, rfl, rfl, trivial⟩ rfl ?_
  rcases k29 with _ | k29
  ·have hc29 : decide ((i29 : Int) < a0.N) = false := decide_eq_false (by omega)
   replace H := rangeF_end H
   refine sr0 ?_
   refine Lst.r (Ev.lss rfl rfl) ?_
   refine nt0 ?_
   refine Cd.seq ?_
   refine Cd.condF rfl hc29 ?_
   refine Cd.exit ?_
   refine At.then_exit ?_
   refine At.then_exit ?_
   refine At.in_exit ?_
   subst H
   replace H := HKl29
   refine At.in_normal ?_
   refine At.then ?_
   refine Cd.region ?_
   refine Lst.r (Ev.incr (by omega) rfl rfl) ?_
   refine mv0 rfl ?_
   refine Lst.nil ?_
   exact At.meet (i24 + 1, k24, y30) (FLe.trans hF27 hF32) ⟨rfl, rfl, rfl, rfl, rfl, trivial⟩ rfl ⟨⟨hgo24 _ (some_inj H).symm, by omega⟩, Nat.lt_succ_self _⟩
  have hc29 : decide ((i29 : Int) < a0.N) = true := decide_eq_true (by omega)
  obtain ⟨c29, H, hgo29⟩ := rangeF_go H
  unfold poset_closed_B4 at H
  try dsimp only at H
  refine sr0 ?_
  refine Lst.r (Ev.lss rfl rfl) ?_
  refine nt0 ?_
  refine Cd.seq ?_
  refine Cd.condT rfl hc29 ?_
  refine Cd.skip ?_
  refine At.then ?_
  refine Cd.seq ?_
  refine Cd.block ?_
  refine sr0 ?_
  refine mv0 rfl ?_
  refine Lst.r (Ev.assign rfl) ?_
  refine nsr ?_
  refine Lst.r (Ev.fieldAddr (off' := 0) rfl Try.runUnderlying24 rfl Try.sizeOf3 rfl rfl) ?_
  refine Lst.r (Ev.load (i := 2) rfl rfl Try.isAgg3 (v := iv a0.N) ((PosetR.get_N gh0).off (by rfl))) ?_
  refine mv0 rfl ?_
  refine nt0 ?_
  refine Cd.block ?_
  obtain ⟨nn38, hN71, H⟩ := bind_some H
  replace hN71 := upTo_some hN71
  obtain ⟨ol34, H, HKl34⟩ := bind_some H
  refine Cd.loop (σ := Nat × Nat × (Vector (Vector Bool 20) 20)) (fun (i34, k34, y35) => [(1, pv b1 0), (2, pv b3 0), (3, pv b5 0), (6, iv (i24 : Int)), (7, iv (i29 : Int)), (24, iv a0.N), (25, iv (i24 : Int)), (29, iv a0.N), (30, iv (i29 : Int)), (34, iv a0.N), (35, iv (i34 : Int))]) (fun (i34, k34, y35) => (.blk b5 (enc y35) 89) :: (.blk b3 (enc (Vector.replicate 20 (Vector.replicate 20 false))) 89) :: (.blk b1 (enc (PosetR.mk a0 s_a0_1)) 24) :: L) (fun _ => (fun (i34, k34, y35) => rangeF (poset_closed_B6 i24 i29) k34 i34 y35 = some ol34 ∧ i34 + k34 = nn38)) (fun (i34, k34, y35) => k34) (0, nn38, y30) ⟨rfl, rfl, rfl, rfl, rfl, rfl, rfl, rfl, rfl, rfl, rfl, trivial⟩ rfl ⟨H, by omega⟩ ?_
  rintro F36 ⟨i34, k34, y35⟩ hF37 ⟨H, hik34⟩
  refine Cd.as (e' := [(1, pv b1 0), (2, pv b3 0), (3, pv b5 0), (6, iv (i24 : Int)), (7, iv (i29 : Int)), (24, iv a0.N), (25, iv (i24 : Int)), (29, iv a0.N), (30, iv (i29 : Int)), (34, iv a0.N), (35, iv (i34 : Int))]) (L' := (.blk b5 (enc y35) 89) :: (.blk b3 (enc (Vector.replicate 20 (Vector.replicate 20 false))) 89) :: (.blk b1 (enc (PosetR.mk a0 s_a0_1)) 24) :: L) ⟨rfl, rfl, rfl, rfl, rfl, rfl, rfl, rfl, rfl, rfl, rfl, trivial⟩ rfl ?_
  rcases k34 with _ | k34
  ·have hc34 : decide ((i34 : Int) < a0.N) = false := decide_eq_false (by omega)
   replace H := rangeF_end H
   refine sr0 ?_
   refine Lst.r (Ev.lss rfl rfl) ?_
   refine nt0 ?_
   refine Cd.seq ?_
   refine Cd.condF rfl hc34 ?_
   refine Cd.exit ?_
   refine At.then_exit ?_
   refine At.then_exit ?_
   refine At.in_exit ?_
   subst H
   replace H := HKl34
   refine At.in_normal ?_
   refine At.then ?_
   refine Cd.region ?_
   refine Lst.r (Ev.incr (by omega) rfl rfl) ?_
   refine mv0 rfl ?_
   refine Lst.nil ?_
   exact At.meet (i29 + 1, k29, y35) (FLe.trans hF32 hF37) ⟨rfl, rfl, rfl, rfl, rfl, rfl, rfl, rfl, trivial⟩ rfl ⟨⟨hgo29 _ (some_inj H).symm, by omega⟩, Nat.lt_succ_self _⟩
  have hc34 : decide ((i34 : Int) < a0.N) = true := decide_eq_true (by omega)
  obtain ⟨c34, H, hgo34⟩ := rangeF_go H
  unfold poset_closed_B6 at H
  try dsimp only at H
  refine sr0 ?_
  refine Lst.r (Ev.lss rfl rfl) ?_
  refine nt0 ?_
  refine Cd.seq ?_
  refine Cd.condT rfl hc34 ?_
  refine Cd.skip ?_
  refine At.then ?_
  refine Cd.seq ?_
  refine Cd.block ?_
  refine sr0 ?_
  refine mv0 rfl ?_
  refine Lst.r (Ev.assign rfl) ?_
  refine nt0 ?_
  refine Cd.tail 23 (by kernel_rfl) (by kernel_rfl) ?_
  refine Qt.r (Ev.move rfl) ?_
  refine Qt.r (Ev.move rfl) ?_
  refine Qt.r (Ev.move rfl) ?_
  refine Qt.r (Ev.move rfl) ?_
  obtain ⟨x39, h40, H⟩ := bind_some H
  have g41 := vat_some h40
  refine Qt.r (Ev.indexAddr (off' := 0 + (i29 : Int).toNat * 20) rfl rfl Try.runUnderlying89 Try.sizeOf87 g41.1 g41.2.1 rfl) ?_
  obtain ⟨x42, h43, H⟩ := bind_some H
  have g44 := vat_some h43
  refine Qt.r (Ev.indexAddr (off' := 0 + (i29 : Int).toNat * 20 + (i34 : Int).toNat * 1) rfl rfl Try.runUnderlying87 Try.sizeOf4 g44.1 g44.2.1 rfl) ?_
  refine Qt.r (Ev.load (i := 0) rfl rfl Try.isAgg4 (v := .bool x42) ((Get.vecN (s := 20) (x := x39) rfl g41.2.2 (Get.vecN (s := 1) (x := x42) rfl g44.2.2 gh0)).off (by omega))) ?_
  refine Qt.r (Ev.move rfl) ?_
  obtain ⟨o45, H, HKo45⟩ := bind_some H
  refine Qt.join (σ := Bool) 13 (fun y46 => [(1, pv b1 0), (2, pv b3 0), (3, pv b5 0), (6, iv (i24 : Int)), (7, iv (i29 : Int)), (24, iv a0.N), (25, iv (i24 : Int)), (29, iv a0.N), (30, iv (i29 : Int)), (34, iv a0.N), (35, iv (i34 : Int)), (38, iv (i29 : Int)), (39, iv (i34 : Int)), (58, .bool y46)]) (fun y46 => y46 = o45) ?_ ?_
  ·rcases Bool.eq_false_or_eq_true x42 with hb47 | hb47
   ·replace H := ite_t hb47 H
    refine Qt.skip rfl rfl rfl hb47 rfl (by decide) ?_
    refine Qt.skip rfl rfl rfl hb47 rfl (by decide) ?_
    refine Qt.skip rfl rfl rfl hb47 rfl (by decide) ?_
    refine Qt.skip rfl rfl rfl hb47 rfl (by decide) ?_
    refine Qt.skip rfl rfl rfl hb47 rfl (by decide) ?_
    refine Qt.skip rfl rfl rfl hb47 rfl (by decide) ?_
    refine Qt.skipU rfl rfl rfl rfl (by decide) ?_
    refine Qt.skipU rfl rfl rfl rfl (by decide) ?_
    refine Qt.skipU rfl rfl rfl rfl (by decide) ?_
    refine Qt.skipU rfl rfl rfl rfl (by decide) ?_
    refine Qt.skipU rfl rfl rfl rfl (by decide) ?_
    refine Qt.skip rfl rfl rfl hb47 rfl (by decide) ?_
    refine Qt.r (Ev.pickT rfl hb47 rfl) ?_
    exact Qt.meet true ⟨rfl, rfl, rfl, rfl, rfl, rfl, rfl, rfl, rfl, rfl, rfl, rfl, rfl, rfl, trivial⟩ (some_inj H)
   replace H := ite_f hb47 H
   refine Qt.rG hb47 (Ev.move rfl) ?_
   refine Qt.rG hb47 (Ev.move rfl) ?_
   obtain ⟨x48, h49, H⟩ := bind_some H
   have g50 := vat_some h49
   refine Qt.rG hb47 (Ev.indexAddr (off' := 0 + (i29 : Int).toNat * 20) rfl rfl Try.runUnderlying89 Try.sizeOf87 g50.1 g50.2.1 rfl) ?_
   obtain ⟨x51, h52, H⟩ := bind_some H
   have g53 := vat_some h52
   refine Qt.rG hb47 (Ev.indexAddr (off' := 0 + (i29 : Int).toNat * 20 + (i24 : Int).toNat * 1) rfl rfl Try.runUnderlying87 Try.sizeOf4 g53.1 g53.2.1 rfl) ?_
   refine Qt.rG hb47 (Ev.load (i := 0) rfl rfl Try.isAgg4 (v := .bool x51) ((Get.vecN (s := 20) (x := x48) rfl g50.2.2 (Get.vecN (s := 1) (x := x51) rfl g53.2.2 gh0)).off (by omega))) ?_
   refine Qt.rG hb47 (Ev.move rfl) ?_
   obtain ⟨o54, H, HKo54⟩ := bind_some H
   refine Qt.join (σ := Bool) 6 (fun y55 => [(1, pv b1 0), (2, pv b3 0), (3, pv b5 0), (6, iv (i24 : Int)), (7, iv (i29 : Int)), (24, iv a0.N), (25, iv (i24 : Int)), (29, iv a0.N), (30, iv (i29 : Int)), (34, iv a0.N), (35, iv (i34 : Int)), (38, iv (i29 : Int)), (39, iv (i34 : Int)), (45, .bool x42), (57, .bool y55)]) (fun y55 => y55 = o54) ?_ ?_
   ·rcases (Bool.eq_false_or_eq_true x51).symm with hb56 | hb56
    ·replace H := ite_f hb56 H
     refine Qt.skip rfl rfl rfl hb56 rfl (by decide) ?_
     refine Qt.skip rfl rfl rfl hb56 rfl (by decide) ?_
     refine Qt.skip rfl rfl rfl hb56 rfl (by decide) ?_
     refine Qt.skip rfl rfl rfl hb56 rfl (by decide) ?_
     refine Qt.skip rfl rfl rfl hb56 rfl (by decide) ?_
     refine Qt.rG hb47 (Ev.pickF rfl hb56 rfl) ?_
     exact Qt.meet false ⟨rfl, rfl, rfl, rfl, rfl, rfl, rfl, rfl, rfl, rfl, rfl, rfl, rfl, rfl, rfl, trivial⟩ (some_inj H)
    replace H := ite_t hb56 H
    refine Qt.rG hb56 (Ev.move rfl) ?_
    refine Qt.rG hb56 (Ev.move rfl) ?_
    obtain ⟨x57, h58, H⟩ := bind_some H
    have g59 := vat_some h58
    refine Qt.rG hb56 (Ev.indexAddr (off' := 0 + (i24 : Int).toNat * 20) rfl rfl Try.runUnderlying89 Try.sizeOf87 g59.1 g59.2.1 rfl) ?_
    obtain ⟨x60, h61, H⟩ := bind_some H
    have g62 := vat_some h61
    refine Qt.rG hb56 (Ev.indexAddr (off' := 0 + (i24 : Int).toNat * 20 + (i34 : Int).toNat * 1) rfl rfl Try.runUnderlying87 Try.sizeOf4 g62.1 g62.2.1 rfl) ?_
    refine Qt.rG hb56 (Ev.load (i := 0) rfl rfl Try.isAgg4 (v := .bool x60) ((Get.vecN (s := 20) (x := x57) rfl g59.2.2 (Get.vecN (s := 1) (x := x60) rfl g62.2.2 gh0)).off (by omega))) ?_
    refine Qt.rG hb47 (Ev.pickT rfl hb56 rfl) ?_
    exact Qt.meet x60 ⟨rfl, rfl, rfl, rfl, rfl, rfl, rfl, rfl, rfl, rfl, rfl, rfl, rfl, rfl, rfl, trivial⟩ (some_inj H)
   rintro y55 hy
   subst hy
   refine Qt.as (e' := [(1, pv b1 0), (2, pv b3 0), (3, pv b5 0), (6, iv (i24 : Int)), (7, iv (i29 : Int)), (24, iv a0.N), (25, iv (i24 : Int)), (29, iv a0.N), (30, iv (i29 : Int)), (34, iv a0.N), (35, iv (i34 : Int)), (38, iv (i29 : Int)), (39, iv (i34 : Int)), (45, .bool x42), (57, .bool y55)]) ⟨rfl, rfl, rfl, rfl, rfl, rfl, rfl, rfl, rfl, rfl, rfl, rfl, rfl, rfl, rfl, trivial⟩ ?_
   replace H := HKo54
   refine Qt.r (Ev.pickF rfl hb47 rfl) ?_
   exact Qt.meet y55 ⟨rfl, rfl, rfl, rfl, rfl, rfl, rfl, rfl, rfl, rfl, rfl, rfl, rfl, rfl, trivial⟩ (some_inj H)
  rintro y46 hy
  subst hy
  refine Qt.as (e' := [(1, pv b1 0), (2, pv b3 0), (3, pv b5 0), (6, iv (i24 : Int)), (7, iv (i29 : Int)), (24, iv a0.N), (25, iv (i24 : Int)), (29, iv a0.N), (30, iv (i29 : Int)), (34, iv a0.N), (35, iv (i34 : Int)), (38, iv (i29 : Int)), (39, iv (i34 : Int)), (58, .bool y46)]) ⟨rfl, rfl, rfl, rfl, rfl, rfl, rfl, rfl, rfl, rfl, rfl, rfl, rfl, rfl, trivial⟩ ?_
  replace H := HKo45
  obtain ⟨x63, h64, H⟩ := bind_some H
  have g65 := vat_some h64
  refine Qt.r (Ev.indexAddr (off' := 0 + (i29 : Int).toNat * 20) rfl rfl Try.runUnderlying89 Try.sizeOf87 g65.1 g65.2.1 rfl) ?_
  obtain ⟨x66, h67, H⟩ := bind_some H
  have g68 := vat_some h67
  refine Qt.r (Ev.indexAddr (off' := 0 + (i29 : Int).toNat * 20 + (i34 : Int).toNat * 1) rfl rfl Try.runUnderlying87 Try.sizeOf4 g68.1 g68.2.1 rfl) ?_
  refine Qt.tail ?_
  obtain ⟨p69, h70, H⟩ := Let_some H
  refine Lst.store (i := 0) rfl rfl rfl rfl rfl Try.sizeOf4 (vs := [.bool y46]) rfl rfl rfl (cs' := enc p69) (by rw [← h70]; exact (Put.vecN (s := 20) (x := x63) rfl g65.2.2 (Put.vecN (s := 1) (x := x66) rfl g68.2.2 (Put.here (vs := [.bool y46]) rfl))).off (by omega)) (L' := (.blk b5 (enc p69) 89) :: (.blk b3 (enc (Vector.replicate 20 (Vector.replicate 20 false))) 89) :: (.blk b1 (enc (PosetR.mk a0 s_a0_1)) 24) :: L) rfl ?_
  refine Lst.nil ?_
  refine At.in_normal ?_
  refine At.then ?_
  refine Cd.region ?_
  refine Lst.r (Ev.incr (by omega) rfl rfl) ?_
  refine mv0 rfl ?_
  refine Lst.nil ?_
  exact At.meet (i34 + 1, k34, p69) hF37 ⟨rfl, rfl, rfl, rfl, rfl, rfl, rfl, rfl, rfl, rfl, rfl, trivial⟩ rfl ⟨⟨hgo34 _ (some_inj H).symm, by omega⟩, Nat.lt_succ_self _⟩
 have hc7 : decide ((i7 : Int) < (a0.Pairs.length : Int)) = true := decide_eq_true (by omega)
 obtain ⟨c7, H, hgo7⟩ := rangeF_go H
 unfold poset_closed_B0 at H
 try dsimp only at H
 refine sr0 ?_
 refine Lst.r (Ev.lss rfl rfl) ?_
 refine nt0 ?_
 refine Cd.seq ?_
 refine Cd.condT rfl hc7 ?_
 refine Cd.skip ?_
 refine At.then ?_
 refine Cd.seq ?_
 refine Cd.block ?_
 refine sr0 ?_
 obtain ⟨x11, h12, H⟩ := bind_some H
 have g13 := lat_some h12
 refine Lst.r (Ev.indexS (α := Pair) (xs := a0.Pairs) rfl rfl Try.runUnderlying22 Try.sizeOf49 rfl (by decide) (hs_a0_1.mono hF10 (sc2 (sc1 hM))) g13.1 g13.2.1) ?_
 refine Lst.r (Ev.loadSA (α := Pair) rfl (hs_a0_1.mono hF10 (sc2 (sc1 hM))) Try.isAgg49 Try.sizeOf49 (ch := enc x11) (Enc.len _) (by decide) ((Get.elemN (s := 2) (x := x11) rfl g13.2.2 gh0).off (by omega))) ?_
 refine Lst.alloc (cs := enc Pair.zero) rfl rfl (by decide) Try.zeroValue49 rfl (fun b14 => ?_)
 refine Lst.store (i := 0) rfl rfl rfl rfl rfl Try.sizeOf49 (vs := enc x11) rfl (Enc.len _) (Enc.one _) (cs' := enc x11) (Put.here ((Enc.len _).trans (Enc.len _).symm)) (L' := (.blk b14 (enc x11) 49) :: (.blk b5 (enc y8) 89) :: (.blk b3 (enc (Vector.replicate 20 (Vector.replicate 20 false))) 89) :: (.blk b1 (enc (PosetR.mk a0 s_a0_1)) 24) :: L) rfl ?_
 refine nt0 ?_
 refine Cd.tail 6 (by kernel_rfl) (by kernel_rfl) ?_
 refine Qt.r (Ev.fieldAddr (off' := 0) rfl Try.runUnderlying49 rfl Try.sizeOf3 rfl rfl) ?_
 refine Qt.r (Ev.load (i := 0) rfl rfl Try.isAgg3 (v := iv x11.A) ((Pair.get_A gh0).off (by rfl))) ?_
 refine Qt.r (Ev.fieldAddr (off' := 1) rfl Try.runUnderlying49 rfl Try.sizeOf3 rfl rfl) ?_
 refine Qt.r (Ev.load (i := 0) rfl rfl Try.isAgg3 (v := iv x11.B) ((Pair.get_B gh0).off (by rfl))) ?_
 obtain ⟨x16, h17, H⟩ := bind_some H
 have g18 := vat_some h17
 refine Qt.r (Ev.indexAddr (off' := 0 + x11.A.toNat * 20) rfl rfl Try.runUnderlying89 Try.sizeOf87 g18.1 g18.2.1 rfl) ?_
 obtain ⟨x19, h20, H⟩ := bind_some H
 have g21 := vat_some h20
 refine Qt.r (Ev.indexAddr (off' := 0 + x11.A.toNat * 20 + x11.B.toNat * 1) rfl rfl Try.runUnderlying87 Try.sizeOf4 g21.1 g21.2.1 rfl) ?_
 refine Qt.tail ?_
 obtain ⟨p22, h23, H⟩ := Let_some H
 refine Lst.store (i := 1) rfl rfl rfl rfl rfl Try.sizeOf4 (vs := [.bool true]) rfl rfl rfl (cs' := enc p22) (by rw [← h23]; exact (Put.vecN (s := 20) (x := x16) rfl g18.2.2 (Put.vecN (s := 1) (x := x19) rfl g21.2.2 (Put.here (vs := [.bool true]) rfl))).off (by omega)) (L' := (.blk b14 (enc x11) 49) :: (.blk b5 (enc p22) 89) :: (.blk b3 (enc (Vector.replicate 20 (Vector.replicate 20 false))) 89) :: (.blk b1 (enc (PosetR.mk a0 s_a0_1)) 24) :: L) rfl ?_
 refine Lst.nil ?_
 refine At.in_normal ?_
 refine At.then ?_
 refine Cd.region ?_
 refine Lst.r (Ev.incr (by omega) rfl rfl) ?_
 refine mv0 rfl ?_
 refine Lst.nil ?_
 refine At.less (L' := (.blk b5 (enc p22) 89) :: (.blk b3 (enc (Vector.replicate 20 (Vector.replicate 20 false))) 89) :: (.blk b1 (enc (PosetR.mk a0 s_a0_1)) 24) :: L) (sc1 (sk1 (sk1 (sk1 (.refl _))))) ?_
 exact At.meet (i7 + 1, k7, p22) hF10 ⟨rfl, rfl, rfl, rfl, rfl, rfl, trivial⟩ rfl ⟨⟨hgo7 _ (some_inj H).symm, by omega⟩, Nat.lt_succ_self _⟩
set_option maxRecDepth 20000 in
theorem poset_check_sim {a0 : Poset} {s_a0_1 : Sl} {r : (Vector (Vector Bool 20) 20) × Int} (H : poset_check a0 = some r) (w0 : World) (F : Frz) (M L : List Item) (hM : M.Sublist L) (hs_a0_1 : Rd w0 F M s_a0_1 a0.Pairs) : Ok Try.prog w0 53 [.agg (enc (PosetR.mk a0 s_a0_1)).toArray] F (L) (Is (.tuple #[.agg (enc r.1).toArray, iv r.2]) (L)) := by
 unfold poset_check at H
 refine Ok.enter (m := 1) (n := 42) Try.func53 rfl rfl rfl (by decide) ?_
 refine Cd.env (e' := [(0, .agg (enc (PosetR.mk a0 s_a0_1)).toArray)]) rfl ?_
 refine sr0 ?_
 refine Lst.box rfl rfl (by decide) rfl (cs := enc (PosetR.mk a0 s_a0_1)) rfl (fun b1 => ?_)
 refine Lst.alloc (z := .agg (enc (Vector.replicate 20 (Vector.replicate 20 false))).toArray) (cs := enc (Vector.replicate 20 (Vector.replicate 20 false))) rfl rfl (by decide) (fun _ => by kernel_rfl) rfl (fun b3 => ?_)
 refine Lst.r (Ev.assign rfl) ?_
 refine nt0 ?_
 refine Cd.seq ?_
 refine sr0 ?_
 refine Lst.r (Ev.fieldAddr (off' := 0) rfl Try.runUnderlying24 rfl Try.sizeOf3 rfl rfl) ?_
 refine Lst.r (Ev.load (i := 1) rfl rfl Try.isAgg3 (v := iv a0.N) ((PosetR.get_N gh0).off (by rfl))) ?_
 refine Lst.r (Ev.lss rfl rfl) ?_
 refine mv0 rfl ?_
 obtain ⟨o5, H, HKo5⟩ := bind_some H
 refine Lst.join (σ := Bool) 4 (fun y6 => [(1, pv b1 0), (2, pv b3 0), (14, .bool y6)]) (fun y6 => (.blk b3 (enc (Vector.replicate 20 (Vector.replicate 20 false))) 89) :: (.blk b1 (enc (PosetR.mk a0 s_a0_1)) 24) :: L) (fun _ y6 => y6 = o5) ?_ ?_
 ·rcases Bool.eq_false_or_eq_true (decide (a0.N < (0 : Int))) with hb7 | hb7
  ·replace H := ite_t hb7 H
   refine Lst.skip rfl rfl rfl hb7 rfl (by decide) ?_
   refine Lst.skip rfl rfl rfl hb7 rfl (by decide) ?_
   refine Lst.skip rfl rfl rfl hb7 rfl (by decide) ?_
   refine Lst.r (Ev.pickT rfl hb7 rfl) ?_
   refine Lst.nil ?_
   exact At.meet true fl ⟨rfl, rfl, rfl, trivial⟩ rfl (some_inj H)
  replace H := ite_f hb7 H
  refine Lst.rG hb7 (Ev.fieldAddr (off' := 0) rfl Try.runUnderlying24 rfl Try.sizeOf3 rfl rfl) ?_
  refine Lst.rG hb7 (Ev.load (i := 1) rfl rfl Try.isAgg3 (v := iv a0.N) ((PosetR.get_N gh0).off (by rfl))) ?_
  refine Lst.rG hb7 (Ev.gtr rfl rfl) ?_
  refine Lst.r (Ev.pickF rfl hb7 rfl) ?_
  refine Lst.nil ?_
  exact At.meet (decide (a0.N > (20 : Int))) fl ⟨rfl, rfl, rfl, trivial⟩ rfl (some_inj H)
 rintro F8 y6 hF9 hy
 subst hy
 refine Lst.as (e' := [(1, pv b1 0), (2, pv b3 0), (14, .bool y6)]) (L' := (.blk b3 (enc (Vector.replicate 20 (Vector.replicate 20 false))) 89) :: (.blk b1 (enc (PosetR.mk a0 s_a0_1)) 24) :: L) ⟨rfl, rfl, rfl, trivial⟩ rfl ?_
 replace H := HKo5
 refine nt0 ?_
 rcases Bool.eq_false_or_eq_true y6 with hb10 | hb10
 ·replace H := ite_t hb10 H
  refine Cd.condT rfl hb10 ?_
  refine sr0 ?_
  refine Lst.r (Ev.build (v := .agg (enc ((Vector.replicate 20 (Vector.replicate 20 false)) : Vector (Vector Bool 20) 20)).toArray) (pv := []) trivial (fun w => by kernel_rfl)) ?_
  refine Lst.store (i := 0) rfl rfl rfl rfl rfl Try.sizeOf89 (vs := enc ((Vector.replicate 20 (Vector.replicate 20 false)) : Vector (Vector Bool 20) 20)) rfl (Enc.len _) (Enc.one _) (cs' := enc ((Vector.replicate 20 (Vector.replicate 20 false)) : Vector (Vector Bool 20) 20)) (Put.here ((Enc.len _).trans (Enc.len _).symm)) (L' := (.blk b3 (enc ((Vector.replicate 20 (Vector.replicate 20 false)) : Vector (Vector Bool 20) 20)) 89) :: (.blk b1 (enc (PosetR.mk a0 s_a0_1)) 24) :: L) rfl ?_
  refine Lst.r (Ev.assign rfl) ?_
  refine nt0 ?_
  obtain rfl := some_inj H
  refine Cd.ret ?_
  refine At.then_ret ?_
  exact At.ret2 rfl (Res.cellA (i := 0) rfl rfl Try.isAgg89 Try.sizeOf89 (Enc.len _)) (Res.tmp rfl) hF9 (sc1 (sc1 (.refl _))) ⟨rfl, rfl⟩
 replace H := ite_f hb10 H
 refine Cd.condF rfl hb10 ?_
 refine Cd.skip ?_
 refine At.then ?_
 refine Cd.seq ?_
 refine sr0 ?_
 refine Lst.r (Ev.fieldAddr (off' := 0) rfl Try.runUnderlying24 rfl Try.sizeOf3 rfl rfl) ?_
 refine Lst.r (Ev.load (i := 1) rfl rfl Try.isAgg3 (v := iv a0.N) ((PosetR.get_N gh0).off (by rfl))) ?_
 refine Lst.r (Ev.fieldAddr (off' := 0) rfl Try.runUnderlying24 rfl Try.sizeOf3 rfl rfl) ?_
 refine Lst.r (Ev.load (i := 1) rfl rfl Try.isAgg3 (v := iv a0.N) ((PosetR.get_N gh0).off (by rfl))) ?_
 refine Lst.r (Ev.fieldAddr (off' := 1) rfl Try.runUnderlying24 rfl Try.sizeOf22 rfl rfl) ?_
 refine Lst.r (Ev.load (i := 1) rfl rfl Try.isAgg22 (v := Sl.v s_a0_1) ((PosetR.get_Pairs gh0).off (by rfl))) ?_
 obtain ⟨r11, h12, H⟩ := bind_some H
 refine Lst.call1 rfl rfl (by decide) (vs := [iv a0.N, iv a0.N, Sl.v s_a0_1]) ⟨rfl, rfl, rfl, trivial⟩ Try.call37 (match_Check_sim h12 w0 _ M _ (sc2 hM) (hs_a0_1.mono hF9 (.refl _))) ?_
 refine Lst.r (Ev.assign rfl) ?_
 refine nsr ?_
 refine mv0 rfl ?_
 refine Lst.r (Ev.neq rfl rfl) ?_
 refine nt0 ?_
 rcases Bool.eq_false_or_eq_true (r11 != (0 : Int)) with hb15 | hb15
 ·replace H := ite_t hb15 H
  refine Cd.condT rfl hb15 ?_
  refine sr0 ?_
  refine Lst.r (Ev.build (v := .agg (enc ((Vector.replicate 20 (Vector.replicate 20 false)) : Vector (Vector Bool 20) 20)).toArray) (pv := []) trivial (fun w => by kernel_rfl)) ?_
  refine mv0 rfl ?_
  refine Lst.store (i := 0) rfl rfl rfl rfl rfl Try.sizeOf89 (vs := enc ((Vector.replicate 20 (Vector.replicate 20 false)) : Vector (Vector Bool 20) 20)) rfl (Enc.len _) (Enc.one _) (cs' := enc ((Vector.replicate 20 (Vector.replicate 20 false)) : Vector (Vector Bool 20) 20)) (Put.here ((Enc.len _).trans (Enc.len _).symm)) (L' := (.blk b3 (enc ((Vector.replicate 20 (Vector.replicate 20 false)) : Vector (Vector Bool 20) 20)) 89) :: (.blk b1 (enc (PosetR.mk a0 s_a0_1)) 24) :: L) rfl ?_
  refine Lst.r (Ev.assign rfl) ?_
  refine nt0 ?_
  obtain rfl := some_inj H
  refine Cd.ret ?_
  refine At.then_ret ?_
  exact At.ret2 rfl (Res.cellA (i := 0) rfl rfl Try.isAgg89 Try.sizeOf89 (Enc.len _)) (Res.tmp rfl) hF9 (sc1 (sc1 (.refl _))) ⟨rfl, rfl⟩
 replace H := ite_f hb15 H
 refine Cd.condF rfl hb15 ?_
 refine Cd.skip ?_
 refine At.then ?_
 refine sr0 ?_
 refine Lst.r (Ev.loadA (i := 1) rfl rfl Try.isAgg24 Try.sizeOf24 (ch := enc (PosetR.mk a0 s_a0_1)) (Enc.len _) gh0) ?_
 obtain ⟨r16, h17, H⟩ := bind_some H
 refine Lst.call1 rfl rfl (by decide) (vs := [.agg (enc (PosetR.mk a0 s_a0_1)).toArray]) ⟨rfl, trivial⟩ Try.call58 (poset_closed_sim h17 w0 _ M _ (sc2 hM) (hs_a0_1.mono hF9 (.refl _))) ?_
 refine Lst.alloc (z := .agg (enc (Vector.replicate 20 (Vector.replicate 20 false))).toArray) (cs := enc (Vector.replicate 20 (Vector.replicate 20 false))) rfl rfl (by decide) (fun _ => by kernel_rfl) rfl (fun b20 => ?_)
 refine Lst.store (i := 0) rfl rfl rfl rfl rfl Try.sizeOf89 (vs := enc r16) rfl (Enc.len _) (Enc.one _) (cs' := enc r16) (Put.here ((Enc.len _).trans (Enc.len _).symm)) (L' := (.blk b20 (enc r16) 89) :: (.blk b3 (enc (Vector.replicate 20 (Vector.replicate 20 false))) 89) :: (.blk b1 (enc (PosetR.mk a0 s_a0_1)) 24) :: L) rfl ?_
 refine nt0 ?_
 refine Cd.seq ?_
 refine sr0 ?_
 refine Lst.r (Ev.fieldAddr (off' := 0) rfl Try.runUnderlying24 rfl Try.sizeOf3 rfl rfl) ?_
 refine Lst.r (Ev.load (i := 2) rfl rfl Try.isAgg3 (v := iv a0.N) ((PosetR.get_N gh0).off (by rfl))) ?_
 refine mv0 rfl ?_
 refine nt0 ?_
 refine Cd.block ?_
 obtain ⟨nn25, hN33, H⟩ := bind_some H
 replace hN33 := upTo_some hN33
 obtain ⟨ol22, H, HKl22⟩ := andThen_some H
 refine Cd.loop (σ := Nat × Nat × Unit) (fun (i22, k22, _u) => [(2, pv b3 0), (5, pv b20 0), (30, iv a0.N), (31, iv (i22 : Int))]) (fun (i22, k22, _u) => (.blk b20 (enc r16) 89) :: (.blk b3 (enc (Vector.replicate 20 (Vector.replicate 20 false))) 89) :: (.blk b1 (enc (PosetR.mk a0 s_a0_1)) 24) :: L) (fun _ => (fun (i22, k22, _u) => rangeM (poset_check_B0 r16) k22 i22 () = some ol22 ∧ i22 + k22 = nn25)) (fun (i22, k22, _u) => k22) (0, nn25, ()) ⟨rfl, rfl, rfl, rfl, trivial⟩ rfl ⟨H, by omega⟩ ?_
 rintro F23 ⟨i22, k22, _u⟩ hF24 ⟨H, hik22⟩
 refine Cd.as (e' := [(2, pv b3 0), (5, pv b20 0), (30, iv a0.N), (31, iv (i22 : Int))]) (L' := (.blk b20 (enc r16) 89) :: (.blk b3 (enc (Vector.replicate 20 (Vector.replicate 20 false))) 89) :: (.blk b1 (enc (PosetR.mk a0 s_a0_1)) 24) :: L) ⟨rfl, rfl, rfl, rfl, trivial⟩ rfl ?_
 rcases k22 with _ | k22
 ·have hc22 : decide ((i22 : Int) < a0.N) = false := decide_eq_false (by omega)
  replace H := rangeM_end H
  refine sr0 ?_
  refine Lst.r (Ev.lss rfl rfl) ?_
  refine nt0 ?_
  refine Cd.seq ?_
  refine Cd.condF rfl hc22 ?_
  refine Cd.exit ?_
  refine At.then_exit ?_
  refine At.then_exit ?_
  refine At.in_exit ?_
  subst H
  replace H := HKl22
  refine At.then ?_
  refine sr0 ?_
  refine Lst.r (Ev.loadA (i := 0) rfl rfl Try.isAgg89 Try.sizeOf89 (ch := enc r16) (Enc.len _) gh0) ?_
  refine Lst.store (i := 1) rfl rfl rfl rfl rfl Try.sizeOf89 (vs := enc r16) rfl (Enc.len _) (Enc.one _) (cs' := enc r16) (Put.here ((Enc.len _).trans (Enc.len _).symm)) (L' := (.blk b20 (enc r16) 89) :: (.blk b3 (enc r16) 89) :: (.blk b1 (enc (PosetR.mk a0 s_a0_1)) 24) :: L) rfl ?_
  refine Lst.r (Ev.assign rfl) ?_
  refine nt0 ?_
  obtain rfl := some_inj H
  refine Cd.ret ?_
  exact At.ret2 rfl (Res.cellA (i := 1) rfl rfl Try.isAgg89 Try.sizeOf89 (Enc.len _)) (Res.tmp rfl) (FLe.trans hF9 hF24) (sc1 (sc1 (sc1 (.refl _)))) ⟨rfl, rfl⟩
 have hc22 : decide ((i22 : Int) < a0.N) = true := decide_eq_true (by omega)
 obtain ⟨c22, H, hgo22, hbrk22, hret22⟩ := rangeM_go H
 unfold poset_check_B0 at H
 try dsimp only at H
 refine sr0 ?_
 refine Lst.r (Ev.lss rfl rfl) ?_
 refine nt0 ?_
 refine Cd.seq ?_
 refine Cd.condT rfl hc22 ?_
 refine Cd.skip ?_
 refine At.then ?_
 refine Cd.seq ?_
 refine Cd.block ?_
 refine sr0 ?_
 refine mv0 rfl ?_
 refine Lst.r (Ev.assign rfl) ?_
 refine nsr ?_
 refine mv0 rfl ?_
 refine mv0 rfl ?_
 obtain ⟨x26, h27, H⟩ := bind_some H
 have g28 := vat_some h27
 refine Lst.r (Ev.indexAddr (off' := 0 + (i22 : Int).toNat * 20) rfl rfl Try.runUnderlying89 Try.sizeOf87 g28.1 g28.2.1 rfl) ?_
 obtain ⟨x29, h30, H⟩ := bind_some H
 have g31 := vat_some h30
 refine Lst.r (Ev.indexAddr (off' := 0 + (i22 : Int).toNat * 20 + (i22 : Int).toNat * 1) rfl rfl Try.runUnderlying87 Try.sizeOf4 g31.1 g31.2.1 rfl) ?_
 refine Lst.r (Ev.load (i := 0) rfl rfl Try.isAgg4 (v := .bool x29) ((Get.vecN (s := 20) (x := x26) rfl g28.2.2 (Get.vecN (s := 1) (x := x29) rfl g31.2.2 gh0)).off (by omega))) ?_
 refine nt0 ?_
 rcases Bool.eq_false_or_eq_true x29 with hb32 | hb32
 ·replace H := ite_t hb32 H
  refine Cd.condT rfl hb32 ?_
  refine sr0 ?_
  refine Lst.r (Ev.build (v := .agg (enc ((Vector.replicate 20 (Vector.replicate 20 false)) : Vector (Vector Bool 20) 20)).toArray) (pv := []) trivial (fun w => by kernel_rfl)) ?_
  refine Lst.store (i := 1) rfl rfl rfl rfl rfl Try.sizeOf89 (vs := enc ((Vector.replicate 20 (Vector.replicate 20 false)) : Vector (Vector Bool 20) 20)) rfl (Enc.len _) (Enc.one _) (cs' := enc ((Vector.replicate 20 (Vector.replicate 20 false)) : Vector (Vector Bool 20) 20)) (Put.here ((Enc.len _).trans (Enc.len _).symm)) (L' := (.blk b20 (enc r16) 89) :: (.blk b3 (enc ((Vector.replicate 20 (Vector.replicate 20 false)) : Vector (Vector Bool 20) 20)) 89) :: (.blk b1 (enc (PosetR.mk a0 s_a0_1)) 24) :: L) rfl ?_
  refine Lst.r (Ev.assign rfl) ?_
  refine nt0 ?_
  have H := hret22 _ (some_inj H).symm
  subst H
  replace H := HKl22
  obtain rfl := some_inj H
  refine Cd.ret ?_
  refine At.in_ret ?_
  refine At.then_ret ?_
  refine At.then_ret ?_
  refine At.in_ret ?_
  refine At.then_ret ?_
  exact At.ret2 rfl (Res.cellA (i := 1) rfl rfl Try.isAgg89 Try.sizeOf89 (Enc.len _)) (Res.tmp rfl) (FLe.trans hF9 hF24) (sc1 (sc1 (sc1 (.refl _)))) ⟨rfl, rfl⟩
 replace H := ite_f hb32 H
 refine Cd.condF rfl hb32 ?_
 refine Cd.skip ?_
 refine At.in_normal ?_
 refine At.then ?_
 refine Cd.region ?_
 refine Lst.r (Ev.incr (by omega) rfl rfl) ?_
 refine mv0 rfl ?_
 refine Lst.nil ?_
 exact At.meet (i22 + 1, k22, ()) hF24 ⟨rfl, rfl, rfl, rfl, trivial⟩ rfl ⟨⟨hgo22 _ (some_inj H).symm, by omega⟩, Nat.lt_succ_self _⟩
set_option maxRecDepth 20000 in
theorem poset_order_all_1_sim {a0 : Int} {a1 : Int} {r : Bool} (H : poset_order_all_1 a0 a1 = some r) (w0 : World) (F : Frz) (M L : List Item) (hM : M.Sublist L) : Ok Try.prog w0 76 [iv a0, iv a1] F (L) (Is (.bool r) (L)) := by
 unfold poset_order_all_1 at H
 refine Ok.enter (m := 2) (n := 5) Try.func76 rfl rfl rfl (by decide) ?_
 refine Cd.env (e' := [(0, iv a0), (1, iv a1)]) rfl ?_
 refine sr0 ?_
 refine Lst.r (Ev.assign rfl) ?_
 refine nsr ?_
 refine Lst.r (Ev.assign rfl) ?_
 refine nt0 ?_
 obtain rfl := some_inj H
 refine Cd.ret ?_
 exact At.ret1 rfl (Res.tmp rfl) fl (.refl _) ⟨rfl, rfl⟩
set_option maxRecDepth 20000 in
theorem poset_order_pairs_all_1_sim {a0 : Vector (Vector Bool 20) 20} {a1 : Int} {r : (List Pair)} (H : poset_order_pairs_all_1 a0 a1 = some r) (w0 : World) (F : Frz) (M L : List Item) (hM : M.Sublist L) : Ok Try.prog w0 55 [.agg (enc a0).toArray, iv a1, .func (.func 76) #[] #[]] F (L) (fun _ L' v => ∃ (s1 : Sl), v = Sl.v s1 ∧ L' = (.own s1 49 2 (encs r)) :: L) := by
 unfold poset_order_pairs_all_1 at H
 refine Ok.enter (m := 3) (n := 38) Try.func55 rfl rfl rfl (by decide) ?_
 refine Cd.env (e' := [(0, .agg (enc a0).toArray), (1, iv a1), (2, .func (.func 76) #[] #[])]) rfl ?_
 refine sr0 ?_
 refine Lst.box rfl rfl (by decide) rfl (cs := enc a0) rfl (fun b1 => ?_)
 refine Lst.addNil 49 2 ?_
 refine Lst.r (Ev.assign rfl) ?_
 refine nsr ?_
 refine Lst.addNil 49 2 ?_
 refine Lst.r (Ev.assign rfl) ?_
 refine nt0 ?_
 refine Cd.seq ?_
 refine sr0 ?_
 refine mv0 rfl ?_
 refine mv0 rfl ?_
 refine nt0 ?_
 refine Cd.block ?_
 obtain ⟨nn10, hN39, H⟩ := bind_some H
 replace hN39 := upTo_some hN39
 obtain ⟨ol5, H, HKl5⟩ := bind_some H
 refine Cd.loop (σ := Nat × Nat × Sl × (List Pair)) (fun (i5, k5, s6, l7) => [(1, iv a1), (2, .func (.func 76) #[] #[]), (3, pv b1 0), (7, Sl.v s6), (10, iv a1), (11, iv (i5 : Int))]) (fun (i5, k5, s6, l7) => (.own s6 49 2 (encs l7)) :: (.own Sl.nil 49 2 (encs ([] : List Pair))) :: (.blk b1 (enc a0) 89) :: L) (fun _ => (fun (i5, k5, s6, l7) => rangeF (poset_order_pairs_all_1_B0 a0 a1) k5 i5 l7 = some ol5 ∧ i5 + k5 = nn10)) (fun (i5, k5, s6, l7) => k5) (0, nn10, Sl.nil, ([] : List Pair)) ⟨rfl, rfl, rfl, rfl, rfl, rfl, trivial⟩ rfl ⟨H, by omega⟩ ?_
 rintro F8 ⟨i5, k5, s6, l7⟩ hF9 ⟨H, hik5⟩
 refine Cd.as (e' := [(1, iv a1), (2, .func (.func 76) #[] #[]), (3, pv b1 0), (7, Sl.v s6), (10, iv a1), (11, iv (i5 : Int))]) (L' := (.own s6 49 2 (encs l7)) :: (.own Sl.nil 49 2 (encs ([] : List Pair))) :: (.blk b1 (enc a0) 89) :: L) ⟨rfl, rfl, rfl, rfl, rfl, rfl, trivial⟩ rfl ?_
 rcases k5 with _ | k5
 ·have hc5 : decide ((i5 : Int) < a1) = false := decide_eq_false (by omega)
  replace H := rangeF_end H
  refine sr0 ?_
  refine Lst.r (Ev.lss rfl rfl) ?_
  refine nt0 ?_
  refine Cd.seq ?_
  refine Cd.condF rfl hc5 ?_
  refine Cd.exit ?_
  refine At.then_exit ?_
  refine At.then_exit ?_
  refine At.in_exit ?_
  subst H
  replace H := HKl5
  refine At.then ?_
  refine sr0 ?_
  refine mv0 rfl ?_
  refine Lst.r (Ev.assign rfl) ?_
  refine nt0 ?_
  obtain rfl := some_inj H
  refine Cd.ret ?_
  exact At.ret1 rfl (Res.tmp rfl) hF9 (sk1 (sc1 (sc1 (.refl _)))) ⟨s6, rfl, rfl⟩
 have hc5 : decide ((i5 : Int) < a1) = true := decide_eq_true (by omega)
 obtain ⟨c5, H, hgo5⟩ := rangeF_go H
 unfold poset_order_pairs_all_1_B0 at H
 try dsimp only at H
 refine sr0 ?_
 refine Lst.r (Ev.lss rfl rfl) ?_
 refine nt0 ?_
 refine Cd.seq ?_
 refine Cd.condT rfl hc5 ?_
 refine Cd.skip ?_
 refine At.then ?_
 refine Cd.seq ?_
 refine Cd.block ?_
 refine sr0 ?_
 refine mv0 rfl ?_
 refine Lst.r (Ev.assign rfl) ?_
 refine nsr ?_
 refine mv0 rfl ?_
 refine mv0 rfl ?_
 refine nt0 ?_
 refine Cd.block ?_
 obtain ⟨nn16, hN38, H⟩ := bind_some H
 replace hN38 := upTo_some hN38
 obtain ⟨ol11, H, HKl11⟩ := bind_some H
 refine Cd.loop (σ := Nat × Nat × Sl × (List Pair)) (fun (i11, k11, s12, l13) => [(1, iv a1), (2, .func (.func 76) #[] #[]), (3, pv b1 0), (7, Sl.v s12), (8, iv (i5 : Int)), (10, iv a1), (11, iv (i5 : Int)), (14, iv a1), (15, iv (i11 : Int))]) (fun (i11, k11, s12, l13) => (.own s12 49 2 (encs l13)) :: (.own Sl.nil 49 2 (encs ([] : List Pair))) :: (.blk b1 (enc a0) 89) :: L) (fun _ => (fun (i11, k11, s12, l13) => rangeF (poset_order_pairs_all_1_B2 a0 i5) k11 i11 l13 = some ol11 ∧ i11 + k11 = nn16)) (fun (i11, k11, s12, l13) => k11) (0, nn16, s6, l7) ⟨rfl, rfl, rfl, rfl, rfl, rfl, rfl, rfl, rfl, trivial⟩ rfl ⟨H, by omega⟩ ?_
 rintro F14 ⟨i11, k11, s12, l13⟩ hF15 ⟨H, hik11⟩
 refine Cd.as (e' := [(1, iv a1), (2, .func (.func 76) #[] #[]), (3, pv b1 0), (7, Sl.v s12), (8, iv (i5 : Int)), (10, iv a1), (11, iv (i5 : Int)), (14, iv a1), (15, iv (i11 : Int))]) (L' := (.own s12 49 2 (encs l13)) :: (.own Sl.nil 49 2 (encs ([] : List Pair))) :: (.blk b1 (enc a0) 89) :: L) ⟨rfl, rfl, rfl, rfl, rfl, rfl, rfl, rfl, rfl, trivial⟩ rfl ?_
 rcases k11 with _ | k11
 ·have hc11 : decide ((i11 : Int) < a1) = false := decide_eq_false (by omega)
  replace H := rangeF_end H
  refine sr0 ?_
  refine Lst.r (Ev.lss rfl rfl) ?_
  refine nt0 ?_
  refine Cd.seq ?_
  refine Cd.condF rfl hc11 ?_
  refine Cd.exit ?_
  refine At.then_exit ?_
  refine At.then_exit ?_
  refine At.in_exit ?_
  subst H
  replace H := HKl11
  refine At.in_normal ?_
  refine At.then ?_
  refine Cd.region ?_
  refine Lst.r (Ev.incr (by omega) rfl rfl) ?_
  refine mv0 rfl ?_
  refine Lst.nil ?_
  exact At.meet (i5 + 1, k5, s12, l13) (FLe.trans hF9 hF15) ⟨rfl, rfl, rfl, rfl, rfl, rfl, trivial⟩ rfl ⟨⟨hgo5 _ (some_inj H).symm, by omega⟩, Nat.lt_succ_self _⟩
 have hc11 : decide ((i11 : Int) < a1) = true := decide_eq_true (by omega)
 obtain ⟨c11, H, hgo11⟩ := rangeF_go H
 unfold poset_order_pairs_all_1_B2 at H
 try dsimp only at H
 refine sr0 ?_
 refine Lst.r (Ev.lss rfl rfl) ?_
 refine nt0 ?_
 refine Cd.seq ?_
 refine Cd.condT rfl hc11 ?_
 refine Cd.skip ?_
 refine At.then ?_
 refine Cd.seq ?_
 refine Cd.block ?_
 refine sr0 ?_
 refine mv0 rfl ?_
 refine Lst.r (Ev.assign rfl) ?_
 refine nsr ?_
 refine mv0 rfl ?_
 refine mv0 rfl ?_
 obtain ⟨x17, h18, H⟩ := bind_some H
 have g19 := vat_some h18
 refine Lst.r (Ev.indexAddr (off' := 0 + (i5 : Int).toNat * 20) rfl rfl Try.runUnderlying89 Try.sizeOf87 g19.1 g19.2.1 rfl) ?_
 obtain ⟨x20, h21, H⟩ := bind_some H
 have g22 := vat_some h21
 refine Lst.r (Ev.indexAddr (off' := 0 + (i5 : Int).toNat * 20 + (i11 : Int).toNat * 1) rfl rfl Try.runUnderlying87 Try.sizeOf4 g22.1 g22.2.1 rfl) ?_
 refine Lst.r (Ev.load (i := 2) rfl rfl Try.isAgg4 (v := .bool x20) ((Get.vecN (s := 20) (x := x17) rfl g19.2.2 (Get.vecN (s := 1) (x := x20) rfl g22.2.2 gh0)).off (by omega))) ?_
 refine mv0 rfl ?_
 obtain ⟨o23, H, HKo23⟩ := bind_some H
 refine Lst.join (σ := Bool) 5 (fun y24 => [(1, iv a1), (2, .func (.func 76) #[] #[]), (3, pv b1 0), (7, Sl.v s12), (8, iv (i5 : Int)), (9, iv (i11 : Int)), (10, iv a1), (11, iv (i5 : Int)), (14, iv a1), (15, iv (i11 : Int)), (28, .bool y24)]) (fun y24 => (.own s12 49 2 (encs l13)) :: (.own Sl.nil 49 2 (encs ([] : List Pair))) :: (.blk b1 (enc a0) 89) :: L) (fun _ y24 => y24 = o23) ?_ ?_
 ·rcases (Bool.eq_false_or_eq_true x20).symm with hb25 | hb25
  ·replace H := ite_f hb25 H
   refine Lst.skip rfl rfl rfl hb25 rfl (by decide) ?_
   refine Lst.skip rfl rfl rfl hb25 rfl (by decide) ?_
   refine Lst.skip rfl rfl rfl hb25 rfl (by decide) ?_
   refine Lst.skip rfl rfl rfl hb25 rfl (by decide) ?_
   refine Lst.r (Ev.pickF rfl hb25 rfl) ?_
   refine Lst.nil ?_
   exact At.meet false fl ⟨rfl, rfl, rfl, rfl, rfl, rfl, rfl, rfl, rfl, rfl, rfl, trivial⟩ rfl (some_inj H)
  replace H := ite_t hb25 H
  refine Lst.rG hb25 (Ev.move rfl) ?_
  refine Lst.rG hb25 (Ev.move rfl) ?_
  refine Lst.rG hb25 (Ev.move rfl) ?_
  obtain ⟨r26, h27, H⟩ := bind_some H
  refine Lst.callV1G rfl rfl rfl hb25 rfl (by decide) (vs := [iv (i5 : Int), iv (i11 : Int)]) (cs := []) rfl ⟨rfl, rfl, trivial⟩ Try.call76 (poset_order_all_1_sim h27 w0 _ M _ (sc2 (sc1 hM))) ?_
  refine Lst.r (Ev.pickT rfl hb25 rfl) ?_
  refine Lst.nil ?_
  exact At.meet r26 fl ⟨rfl, rfl, rfl, rfl, rfl, rfl, rfl, rfl, rfl, rfl, rfl, trivial⟩ rfl (some_inj H)
 rintro F30 y24 hF31 hy
 subst hy
 refine Lst.as (e' := [(1, iv a1), (2, .func (.func 76) #[] #[]), (3, pv b1 0), (7, Sl.v s12), (8, iv (i5 : Int)), (9, iv (i11 : Int)), (10, iv a1), (11, iv (i5 : Int)), (14, iv a1), (15, iv (i11 : Int)), (28, .bool y24)]) (L' := (.own s12 49 2 (encs l13)) :: (.own Sl.nil 49 2 (encs ([] : List Pair))) :: (.blk b1 (enc a0) 89) :: L) ⟨rfl, rfl, rfl, rfl, rfl, rfl, rfl, rfl, rfl, rfl, rfl, trivial⟩ rfl ?_
 replace H := HKo23
 refine nt0 ?_
 rcases (Bool.eq_false_or_eq_true y24).symm with hb32 | hb32
 ·replace H := ite_f hb32 H
  refine Cd.condF rfl hb32 ?_
  refine Cd.skip ?_
  refine At.in_normal ?_
  refine At.then ?_
  refine Cd.region ?_
  refine Lst.r (Ev.incr (by omega) rfl rfl) ?_
  refine mv0 rfl ?_
  refine Lst.nil ?_
  exact At.meet (i11 + 1, k11, s12, l13) (FLe.trans hF15 hF31) ⟨rfl, rfl, rfl, rfl, rfl, rfl, rfl, rfl, rfl, trivial⟩ rfl ⟨⟨hgo11 _ (some_inj H).symm, by omega⟩, Nat.lt_succ_self _⟩
 replace H := ite_t hb32 H
 refine Cd.condT rfl hb32 ?_
 refine Cd.region ?_
 refine mv0 rfl ?_
 refine mv0 rfl ?_
 refine mv0 rfl ?_
 refine Lst.r (Ev.build (v := .agg (enc ({ Pair.zero with A := (i5 : Int), B := (i11 : Int) } : Pair)).toArray) (pv := [(0, iv (i5 : Int)), (1, iv (i11 : Int))]) ⟨rfl, rfl, ⟨rfl, rfl, trivial⟩⟩ (fun w => by kernel_rfl)) ?_
 refine Lst.buildSlice (α := Pair) (xs := ([({ Pair.zero with A := (i5 : Int), B := (i11 : Int) } : Pair)] : List Pair)) (pv := [(0, .agg (enc ({ Pair.zero with A := (i5 : Int), B := (i11 : Int) } : Pair)).toArray)]) rfl rfl (by decide) ⟨rfl, rfl, trivial⟩ (run_buildSlice (α := Pair) (z0 := Pair.zero) (xs := ([({ Pair.zero with A := (i5 : Int), B := (i11 : Int) } : Pair)] : List Pair)) Try.runUnderlying22 Try.sizeOf49 Try.zeroValue49 rfl rfl rfl (by decide) rfl (fill_cons (cs := encs (List.replicate 1 Pair.zero)) (cs' := encs ((List.replicate 1 Pair.zero).set 0 ({ Pair.zero with A := (i5 : Int), B := (i11 : Int) } : Pair))) (vs := enc ({ Pair.zero with A := (i5 : Int), B := (i11 : Int) } : Pair)) rfl rfl (Enc.len _) ((Put.elemN (s := 2) (i := 0) (x := Pair.zero) (y := ({ Pair.zero with A := (i5 : Int), B := (i11 : Int) } : Pair)) rfl rfl (Put.here ((Enc.len _).trans (Enc.len _).symm))).off rfl) fill_nil)) rfl rfl (by decide) (fun s33 _ => ?_)
 obtain ⟨u35, h36, H⟩ := bind_some H
 refine Lst.append (i := 1) (α := Pair) (xs := l13) (ys := ([({ Pair.zero with A := (i5 : Int), B := (i11 : Int) } : Pair)] : List Pair)) rfl rfl (by decide) rfl rfl Try.runUnderlying22 Try.typeInfo49 rfl rfl rfl rfl rfl rfl (rdo 0 rfl rfl rfl) rfl (room_some h36) rfl (fun s37 => ?_)
 refine Lst.its (L' := (.own s33 49 2 (encs ([({ Pair.zero with A := (i5 : Int), B := (i11 : Int) } : Pair)] : List Pair))) :: (.own s37 49 2 (encs (l13 ++ ([({ Pair.zero with A := (i5 : Int), B := (i11 : Int) } : Pair)] : List Pair)))) :: (.own Sl.nil 49 2 (encs ([] : List Pair))) :: (.blk b1 (enc a0) 89) :: L) rfl ?_
 refine Lst.r (Ev.assign rfl) ?_
 refine Lst.nil ?_
 refine At.in_normal ?_
 refine At.then ?_
 refine Cd.region ?_
 refine Lst.r (Ev.incr (by omega) rfl rfl) ?_
 refine mv0 rfl ?_
 refine Lst.nil ?_
 refine At.less (L' := (.own s37 49 2 (encs (l13 ++ ([({ Pair.zero with A := (i5 : Int), B := (i11 : Int) } : Pair)] : List Pair)))) :: (.own Sl.nil 49 2 (encs ([] : List Pair))) :: (.blk b1 (enc a0) 89) :: L) (sc1 (sk1 (sk1 (sk1 (.refl _))))) ?_
 exact At.meet (i11 + 1, k11, s37, l13 ++ ([({ Pair.zero with A := (i5 : Int), B := (i11 : Int) } : Pair)] : List Pair)) (FLe.trans hF15 hF31) ⟨rfl, rfl, rfl, rfl, rfl, rfl, rfl, rfl, rfl, trivial⟩ rfl ⟨⟨hgo11 _ (some_inj H).symm, by omega⟩, Nat.lt_succ_self _⟩
set_option maxRecDepth 20000 in
theorem poset_order_all_sim {a0 : Vector (Vector Bool 20) 20} {a1 : Int} {r : (List Pair)} (H : poset_order_all a0 a1 = some r) (w0 : World) (F : Frz) (M L : List Item) (hM : M.Sublist L) : Ok Try.prog w0 54 [.agg (enc a0).toArray, iv a1] F (L) (fun _ L' v => ∃ (s1 : Sl), v = Sl.v s1 ∧ L' = (.own s1 49 2 (encs r)) :: L) := by
 unfold poset_order_all at H
 refine Ok.enter (m := 2) (n := 8) Try.func54 rfl rfl rfl (by decide) ?_
 refine Cd.env (e' := [(0, .agg (enc a0).toArray), (1, iv a1)]) rfl ?_
 refine sr0 ?_
 refine Lst.box rfl rfl (by decide) rfl (cs := enc a0) rfl (fun b1 => ?_)
 refine Lst.addNil 49 2 ?_
 refine Lst.r (Ev.assign rfl) ?_
 refine nsr ?_
 refine Lst.r (Ev.loadA (i := 1) rfl rfl Try.isAgg89 Try.sizeOf89 (ch := enc a0) (Enc.len _) gh0) ?_
 refine mv0 rfl ?_
 obtain ⟨r4, h5, H⟩ := bind_some H
 refine Lst.call rfl rfl (by decide) (vs := [.agg (enc a0).toArray, iv a1, .func (.func 76) #[] #[]]) ⟨rfl, rfl, rfl, trivial⟩ Try.call55 (poset_order_pairs_all_1_sim h5 w0 _ M _ (sc2 hM)) (fun F8 L' v hF9 hv => ?_)
 obtain ⟨s6, rfl, rfl⟩ := hv
 refine Lst.r (Ev.assign rfl) ?_
 refine nt0 ?_
 obtain rfl := some_inj H
 refine Cd.ret ?_
 exact At.ret1 rfl (Res.tmp rfl) hF9 (sk1 (sc1 (sc1 (.refl _)))) ⟨s6, rfl, rfl⟩
set_option maxRecDepth 20000 in
theorem math_bits_Mul64_sim {a0 : BitVec 64} {a1 : BitVec 64} {r : (BitVec 64) × (BitVec 64)} (H : math_bits_Mul64 a0 a1 = some r) (w0 : World) (F : Frz) (M L : List Item) (hM : M.Sublist L) : Ok Try.prog w0 86 [.int .u64 a0.toNat, .int .u64 a1.toNat] F (L) (Is (.tuple #[.int .u64 r.1.toNat, .int .u64 r.2.toNat]) (L)) := by
 unfold math_bits_Mul64 at H
 refine Ok.enter (m := 2) (n := 51) Try.func86 rfl rfl rfl (by decide) ?_
 refine Cd.env (e' := [(0, .int .u64 a0.toNat), (1, .int .u64 a1.toNat)]) rfl ?_
 refine sr0 ?_
 refine Lst.r (Ev.assign rfl) ?_
 refine Lst.r (Ev.assign rfl) ?_
 refine nsr ?_
 refine mv0 rfl ?_
 refine Lst.r (Ev.andU64 (i := a0) (j := (4294967295 : BitVec 64)) rfl rfl) ?_
 refine Lst.r (Ev.assign rfl) ?_
 refine nsr ?_
 refine mv0 rfl ?_
 refine Lst.r (Ev.shrU64 (i := a0) (m := 32) rfl rfl) ?_
 refine Lst.r (Ev.assign rfl) ?_
 refine nsr ?_
 refine mv0 rfl ?_
 refine Lst.r (Ev.andU64 (i := a1) (j := (4294967295 : BitVec 64)) rfl rfl) ?_
 refine Lst.r (Ev.assign rfl) ?_
 refine nsr ?_
 refine mv0 rfl ?_
 refine Lst.r (Ev.shrU64 (i := a1) (m := 32) rfl rfl) ?_
 refine Lst.r (Ev.assign rfl) ?_
 refine nsr ?_
 refine mv0 rfl ?_
 refine mv0 rfl ?_
 refine Lst.r (Ev.mulU64 (i := a0 &&& (4294967295 : BitVec 64)) (j := a1 &&& (4294967295 : BitVec 64)) rfl rfl) ?_
 refine Lst.r (Ev.assign rfl) ?_
 refine nsr ?_
 refine mv0 rfl ?_
 refine mv0 rfl ?_
 refine Lst.r (Ev.mulU64 (i := a0 >>> 32) (j := a1 &&& (4294967295 : BitVec 64)) rfl rfl) ?_
 refine mv0 rfl ?_
 refine Lst.r (Ev.shrU64 (i := (a0 &&& (4294967295 : BitVec 64)) * (a1 &&& (4294967295 : BitVec 64))) (m := 32) rfl rfl) ?_
 refine Lst.r (Ev.addU64 (i := (a0 >>> 32) * (a1 &&& (4294967295 : BitVec 64))) (j := ((a0 &&& (4294967295 : BitVec 64)) * (a1 &&& (4294967295 : BitVec 64))) >>> 32) rfl rfl) ?_
 refine Lst.r (Ev.assign rfl) ?_
 refine nt0 ?_
 refine Cd.seq ?_
 refine Cd.as (e' := [(0, .int .u64 a0.toNat), (1, .int .u64 a1.toNat), (6, .int .u64 (a0 &&& (4294967295 : BitVec 64)).toNat), (7, .int .u64 (a0 >>> 32).toNat), (9, .int .u64 (a1 >>> 32).toNat), (11, .int .u64 (((a0 >>> 32) * (a1 &&& (4294967295 : BitVec 64))) + (((a0 &&& (4294967295 : BitVec 64)) * (a1 &&& (4294967295 : BitVec 64))) >>> 32)).toNat)]) (L' := L) ⟨rfl, rfl, rfl, rfl, rfl, rfl, trivial⟩ rfl ?_
 refine Cd.region ?_
 refine mv0 rfl ?_
 refine Lst.r (Ev.andU64 (i := ((a0 >>> 32) * (a1 &&& (4294967295 : BitVec 64))) + (((a0 &&& (4294967295 : BitVec 64)) * (a1 &&& (4294967295 : BitVec 64))) >>> 32)) (j := (4294967295 : BitVec 64)) rfl rfl) ?_
 refine Lst.r (Ev.assign rfl) ?_
 refine nsr ?_
 refine mv0 rfl ?_
 refine Lst.r (Ev.shrU64 (i := ((a0 >>> 32) * (a1 &&& (4294967295 : BitVec 64))) + (((a0 &&& (4294967295 : BitVec 64)) * (a1 &&& (4294967295 : BitVec 64))) >>> 32)) (m := 32) rfl rfl) ?_
 refine Lst.r (Ev.assign rfl) ?_
 refine nsr ?_
 refine mv0 rfl ?_
 refine mv0 rfl ?_
 refine mv0 rfl ?_
 refine Lst.r (Ev.mulU64 (i := a0 &&& (4294967295 : BitVec 64)) (j := a1 >>> 32) rfl rfl) ?_
 refine Lst.r (Ev.addU64 (i := (((a0 >>> 32) * (a1 &&& (4294967295 : BitVec 64))) + (((a0 &&& (4294967295 : BitVec 64)) * (a1 &&& (4294967295 : BitVec 64))) >>> 32)) &&& (4294967295 : BitVec 64)) (j := (a0 &&& (4294967295 : BitVec 64)) * (a1 >>> 32)) rfl rfl) ?_
 refine Lst.r (Ev.assign rfl) ?_
 refine nsr ?_
 refine mv0 rfl ?_
 refine mv0 rfl ?_
 refine Lst.r (Ev.mulU64 (i := a0 >>> 32) (j := a1 >>> 32) rfl rfl) ?_
 refine mv0 rfl ?_
 refine Lst.r (Ev.addU64 (i := (a0 >>> 32) * (a1 >>> 32)) (j := (((a0 >>> 32) * (a1 &&& (4294967295 : BitVec 64))) + (((a0 &&& (4294967295 : BitVec 64)) * (a1 &&& (4294967295 : BitVec 64))) >>> 32)) >>> 32) rfl rfl) ?_
 refine mv0 rfl ?_
 refine Lst.r (Ev.shrU64 (i := ((((a0 >>> 32) * (a1 &&& (4294967295 : BitVec 64))) + (((a0 &&& (4294967295 : BitVec 64)) * (a1 &&& (4294967295 : BitVec 64))) >>> 32)) &&& (4294967295 : BitVec 64)) + ((a0 &&& (4294967295 : BitVec 64)) * (a1 >>> 32))) (m := 32) rfl rfl) ?_
 refine Lst.r (Ev.addU64 (i := ((a0 >>> 32) * (a1 >>> 32)) + ((((a0 >>> 32) * (a1 &&& (4294967295 : BitVec 64))) + (((a0 &&& (4294967295 : BitVec 64)) * (a1 &&& (4294967295 : BitVec 64))) >>> 32)) >>> 32)) (j := (((((a0 >>> 32) * (a1 &&& (4294967295 : BitVec 64))) + (((a0 &&& (4294967295 : BitVec 64)) * (a1 &&& (4294967295 : BitVec 64))) >>> 32)) &&& (4294967295 : BitVec 64)) + ((a0 &&& (4294967295 : BitVec 64)) * (a1 >>> 32))) >>> 32) rfl rfl) ?_
 refine Lst.r (Ev.assign rfl) ?_
 refine nt0 ?_
 refine Cd.seq ?_
 refine Cd.as (e' := [(0, .int .u64 a0.toNat), (1, .int .u64 a1.toNat), (4, .int .u64 ((((a0 >>> 32) * (a1 >>> 32)) + ((((a0 >>> 32) * (a1 &&& (4294967295 : BitVec 64))) + (((a0 &&& (4294967295 : BitVec 64)) * (a1 &&& (4294967295 : BitVec 64))) >>> 32)) >>> 32)) + ((((((a0 >>> 32) * (a1 &&& (4294967295 : BitVec 64))) + (((a0 &&& (4294967295 : BitVec 64)) * (a1 &&& (4294967295 : BitVec 64))) >>> 32)) &&& (4294967295 : BitVec 64)) + ((a0 &&& (4294967295 : BitVec 64)) * (a1 >>> 32))) >>> 32)).toNat)]) (L' := L) ⟨rfl, rfl, rfl, trivial⟩ rfl ?_
 refine Cd.region ?_
 refine mv0 rfl ?_
 refine mv0 rfl ?_
 refine Lst.r (Ev.mulU64 (i := a0) (j := a1) rfl rfl) ?_
 refine Lst.r (Ev.assign rfl) ?_
 refine nt0 ?_
 obtain rfl := some_inj H
 refine Cd.ret ?_
 exact At.ret2 rfl (Res.tmp rfl) (Res.tmp rfl) fl (.refl _) ⟨rfl, rfl⟩
set_option maxRecDepth 20000 in
theorem math_bits_Mul_sim {a0 : BitVec 64} {a1 : BitVec 64} {r : (BitVec 64) × (BitVec 64)} (H : math_bits_Mul a0 a1 = some r) (w0 : World) (F : Frz) (M L : List Item) (hM : M.Sublist L) : Ok Try.prog w0 80 [.int .u64 a0.toNat, .int .u64 a1.toNat] F (L) (Is (.tuple #[.int .u64 r.1.toNat, .int .u64 r.2.toNat]) (L)) := by
 unfold math_bits_Mul at H
 refine Ok.enter (m := 2) (n := 30) Try.func80 rfl rfl rfl (by decide) ?_
 refine Cd.env (e' := [(0, .int .u64 a0.toNat), (1, .int .u64 a1.toNat)]) rfl ?_
 refine sr0 ?_
 refine Lst.r (Ev.assign rfl) ?_
 refine Lst.r (Ev.assign rfl) ?_
 refine nt0 ?_
 refine Cd.seq ?_
 refine Cd.condF rfl rfl ?_
 refine Cd.skip ?_
 refine At.then ?_
 refine sr0 ?_
 refine mv0 rfl ?_
 refine mv0 rfl ?_
 obtain ⟨r1, h2, H⟩ := bind_some H
 refine Lst.call1 rfl rfl (by decide) (vs := [.int .u64 a0.toNat, .int .u64 a1.toNat]) ⟨rfl, rfl, trivial⟩ Try.call86 (math_bits_Mul64_sim h2 w0 _ M _ hM) ?_
 refine mv0 rfl ?_
 refine Lst.r (Ev.extract rfl rfl) ?_
 refine Lst.r (Ev.extract rfl rfl) ?_
 refine Lst.r (Ev.assign rfl) ?_
 refine Lst.r (Ev.assign rfl) ?_
 refine nsr ?_
 refine mv0 rfl ?_
 refine mv0 rfl ?_
 refine Lst.r (Ev.assign rfl) ?_
 refine Lst.r (Ev.assign rfl) ?_
 refine nt0 ?_
 obtain rfl := some_inj H
 refine Cd.ret ?_
 exact At.ret2 rfl (Res.tmp rfl) (Res.tmp rfl) fl (.refl _) ⟨rfl, rfl⟩
set_option maxRecDepth 20000 in
theorem slices_Repeat_int_int_sim {fu : Nat} {a0 : List Int} {a1 : Int} {s_a0 : Sl} {r : (List Int)} (H : slices_Repeat_int_int fu a0 a1 = some r) (w0 : World) (F : Frz) (M L : List Item) (hM : M.Sublist L) (hs_a0 : Rd w0 F M s_a0 a0) : Ok Try.prog w0 67 [Sl.v s_a0, iv a1] F (L) (fun _ L' v => ∃ (s1 : Sl), v = Sl.v s1 ∧ L' = (.own s1 3 1 (encs r)) :: L) := by
 unfold slices_Repeat_int_int at H
 refine Ok.enter (m := 2) (n := 48) Try.func67 rfl rfl rfl (by decide) ?_
 refine Cd.env (e' := [(0, Sl.v s_a0), (1, iv a1)]) rfl ?_
 refine sr0 ?_
 refine Lst.addNil 3 1 ?_
 refine Lst.r (Ev.assign rfl) ?_
 refine nt0 ?_
 refine Cd.seq ?_
 refine sr0 ?_
 refine mv0 rfl ?_
 refine Lst.r (Ev.lss rfl rfl) ?_
 refine nt0 ?_
 rcases Bool.eq_false_or_eq_true (decide (a1 < (0 : Int))) with hb2 | hb2
 ·replace H := ite_t hb2 H
  cases H
 replace H := ite_f hb2 H
 refine Cd.condF rfl hb2 ?_
 refine Cd.skip ?_
 refine At.then ?_
 refine sr0 ?_
 refine mv0 rfl ?_
 refine Lst.r (Ev.lenS (α := Int) (xs := a0) (by decide) rfl rfl Try.runUnderlying34 (hs_a0.mono fl (sc1 hM))) ?_
 refine Lst.r (Ev.convTo64 rfl Try.runUnderlying3 Try.runUnderlying84) ?_
 refine mv0 rfl ?_
 refine Lst.r (Ev.convTo64 rfl Try.runUnderlying3 Try.runUnderlying84) ?_
 obtain ⟨r3, h4, H⟩ := bind_some H
 refine Lst.call1 rfl rfl (by decide) (vs := [.int .u64 (BitVec.ofInt 64 (a0.length : Int)).toNat, .int .u64 (BitVec.ofInt 64 a1).toNat]) ⟨rfl, rfl, trivial⟩ Try.call80 (math_bits_Mul_sim h4 w0 _ M _ (sc1 hM)) ?_
 refine mv0 rfl ?_
 refine Lst.r (Ev.extract rfl rfl) ?_
 refine Lst.r (Ev.extract rfl rfl) ?_
 refine Lst.r (Ev.assign rfl) ?_
 refine Lst.r (Ev.assign rfl) ?_
 refine nt0 ?_
 refine Cd.seq ?_
 refine sr0 ?_
 refine mv0 rfl ?_
 refine Lst.r (Ev.gtr rfl rfl) ?_
 refine mv0 rfl ?_
 obtain ⟨o7, H, HKo7⟩ := bind_some H
 refine Lst.join (σ := Bool) 3 (fun y8 => [(0, Sl.v s_a0), (6, .int .u64 r3.2.toNat), (26, .bool y8)]) (fun y8 => (.own Sl.nil 3 1 (encs ([] : List Int))) :: L) (fun _ y8 => y8 = o7) ?_ ?_
 ·rcases Bool.eq_false_or_eq_true (decide ((r3.1.toNat : Int) > ((0 : BitVec 64).toNat : Int))) with hb9 | hb9
  ·replace H := ite_t hb9 H
   refine Lst.skip rfl rfl rfl hb9 rfl (by decide) ?_
   refine Lst.skip rfl rfl rfl hb9 rfl (by decide) ?_
   refine Lst.r (Ev.pickT rfl hb9 rfl) ?_
   refine Lst.nil ?_
   exact At.meet true fl ⟨rfl, rfl, rfl, trivial⟩ rfl (some_inj H)
  replace H := ite_f hb9 H
  refine Lst.rG hb9 (Ev.move rfl) ?_
  refine Lst.rG hb9 (Ev.gtr rfl rfl) ?_
  refine Lst.r (Ev.pickF rfl hb9 rfl) ?_
  refine Lst.nil ?_
  exact At.meet (decide ((r3.2.toNat : Int) > ((9223372036854775807 : BitVec 64).toNat : Int))) fl ⟨rfl, rfl, rfl, trivial⟩ rfl (some_inj H)
 rintro F10 y8 hF11 hy
 subst hy
 refine Lst.as (e' := [(0, Sl.v s_a0), (6, .int .u64 r3.2.toNat), (26, .bool y8)]) (L' := (.own Sl.nil 3 1 (encs ([] : List Int))) :: L) ⟨rfl, rfl, rfl, trivial⟩ rfl ?_
 replace H := HKo7
 refine nt0 ?_
 rcases Bool.eq_false_or_eq_true y8 with hb12 | hb12
 ·replace H := ite_t hb12 H
  cases H
 replace H := ite_f hb12 H
 refine Cd.condF rfl hb12 ?_
 refine Cd.skip ?_
 refine At.then ?_
 refine sr0 ?_
 refine mv0 rfl ?_
 refine Lst.r (Ev.conv64 rfl Try.runUnderlying84 Try.runUnderlying3) ?_
 obtain ⟨n13, h14, H⟩ := bind_some H
 have g15 := mkLen_some h14
 refine Lst.make (α := Int) (z0 := (0 : Int)) (k := n13) rfl rfl (by decide) (congrArg some (congrArg (Value.int .i64) g15.1)) (congrArg some (congrArg (Value.int .i64) g15.1)) Try.runUnderlying34 Try.typeInfo3 rfl rfl rfl rfl rfl g15.2 rfl (fun s16 => ?_)
 refine Lst.r (Ev.assign rfl) ?_
 refine nsr ?_
 refine mv0 rfl ?_
 refine mv0 rfl ?_
 obtain ⟨p18, h19, H⟩ := Let_some H
 refine Lst.copyAll (i := 0) (α := Int) (xs := (List.replicate n13 (0 : Int))) (ys := a0) rfl rfl (by decide) rfl rfl Try.runUnderlying34 Try.sizeOf3 rfl (by decide) rfl rfl (hs_a0.mono hF11 (sc2 hM)) ?_
 refine Lst.its (L' := (.own s16 3 1 (encs p18)) :: (.own Sl.nil 3 1 (encs ([] : List Int))) :: L) (by rw [← h19]; rfl) ?_
 refine Lst.r (Ev.assign rfl) ?_
 refine nt0 ?_
 refine Cd.seq ?_
 refine Cd.block ?_
 obtain ⟨ol20, H, HKl20⟩ := andThen_some H
 refine Cd.loop (σ := Nat × Int × (List Int)) (fun (k20, y21, l22) => [(7, Sl.v s16), (8, iv y21)]) (fun (k20, y21, l22) => (.own s16 3 1 (encs l22)) :: (.own Sl.nil 3 1 (encs ([] : List Int))) :: L) (fun _ => (fun (k20, y21, l22) => whileM (slices_Repeat_int_int_B0) k20 (y21, l22) = some ol20)) (fun (k20, y21, l22) => k20) (fu, copyN 0 ((List.replicate n13 (0 : Int)).length) a0, p18) ⟨rfl, rfl, trivial⟩ rfl H ?_
 rintro F23 ⟨k20, y21, l22⟩ hF24 H
 refine Cd.as (e' := [(7, Sl.v s16), (8, iv y21)]) (L' := (.own s16 3 1 (encs l22)) :: (.own Sl.nil 3 1 (encs ([] : List Int))) :: L) ⟨rfl, rfl, trivial⟩ rfl ?_
 rcases k20 with _ | k20
 ·cases H
 obtain ⟨c20, H, hgo20, hbrk20, hret20⟩ := whileM_go H
 unfold slices_Repeat_int_int_B0 at H
 try dsimp only at H
 refine Cd.seq ?_
 refine sr0 ?_
 refine mv0 rfl ?_
 refine mv0 rfl ?_
 refine Lst.r (Ev.lenS (α := Int) (xs := l22) (by decide) rfl rfl Try.runUnderlying34 (rdo 0 rfl rfl rfl)) ?_
 refine Lst.r (Ev.lss rfl rfl) ?_
 refine nt0 ?_
 rcases (Bool.eq_false_or_eq_true (decide (y21 < (l22.length : Int)))).symm with hb25 | hb25
 ·replace H := ite_f hb25 H
  refine Cd.condF rfl hb25 ?_
  refine Cd.exit ?_
  refine At.then_exit ?_
  refine At.then_exit ?_
  refine At.in_exit ?_
  have H := hbrk20 _ (some_inj H).symm
  subst H
  replace H := HKl20
  refine At.then ?_
  refine sr0 ?_
  refine mv0 rfl ?_
  refine Lst.r (Ev.assign rfl) ?_
  refine nt0 ?_
  obtain rfl := some_inj H
  refine Cd.ret ?_
  exact At.ret1 rfl (Res.tmp rfl) (FLe.trans hF11 hF24) (sk1 (sc1 (.refl _))) ⟨s16, rfl, rfl⟩
 replace H := ite_t hb25 H
 refine Cd.condT rfl hb25 ?_
 refine Cd.skip ?_
 refine At.then ?_
 refine Cd.block ?_
 obtain ⟨m26, h27, H⟩ := bind_some H
 obtain ⟨m30, h31, H⟩ := bind_some H
 obtain ⟨p34, h35, H⟩ := Let_some H
 obtain ⟨o38, h39, H⟩ := Let_some H
 refine Cd.headMeet (σ := (List Int)) 8 (fun l37 => [(7, Sl.v s16), (8, iv y21), (38, iv y21), (45, iv (copyN ((y21 : Int).toNat) (((l22.length : Int) : Int).toNat) m30))]) (fun l37 => (.own s16 3 1 (encs l37)) :: (.own Sl.nil 3 1 (encs ([] : List Int))) :: L) (fun _ l37 => l37 = o38) (by kernel_rfl) (by kernel_rfl) (behind_sink (by kernel_rfl) (by kernel_rfl) (by kernel_rfl)) (by kernel_rfl) (fun hsel hlt => ?_) ?_
 ·refine HdJ.keep (fun w => St w0 F23 ((.own Sl.nil 3 1 (encs ([] : List Int))) :: L) w) (fun w h => trivial) ?_
  refine HdJ.ts hsel hlt 0 (sc1 (sk1 (.refl _))) (Ev.move rfl) ?_
  refine HdJ.ts hsel hlt 1 (sc1 (sk1 (.refl _))) (Ev.move rfl) ?_
  refine HdJ.ts hsel hlt 2 (sc1 (sk1 (.refl _))) (Ev.move rfl) ?_
  refine HdJ.ts hsel hlt 4 (sc1 (sk1 (.refl _))) (Ev.move rfl) ?_
  refine HdJ.ts hsel hlt 5 (sc1 (sk1 (.refl _))) (Ev.move rfl) ?_
  refine HdJ.step [3, 6] (by kernel_rfl) rfl ?_
  refine HdStep.c (fun inv => ?_) ?_
  ·obtain ⟨g40, gl41⟩ := cutL_some h27
   try dsimp only at g40
   refine Lst.r (Ev.cut (α := Int) (xs := l22) (i := y21) (j := (l22.length : Int)) rfl rfl rfl Try.runUnderlying34 Try.sizeOf3 rfl (by decide) (rdo 0 rfl rfl rfl) g40.1 g40.2.1 g40.2.2) ?_
   refine hds inv (sc1 (sk1 (.refl _))) ?_
   refine HdJ.o1 6 (fun inv => ?_)
   obtain ⟨g42, gl43⟩ := cutL_some h31
   try dsimp only at g42
   refine Lst.r (Ev.cut (α := Int) (xs := l22) (i := 0) (j := y21) rfl rfl rfl Try.runUnderlying34 Try.sizeOf3 rfl (by decide) (rdo 0 rfl rfl rfl) g42.1 g42.2.1 g42.2.2) ?_
   refine hds inv (sc1 (sk1 (.refl _))) ?_
   refine HdJ.o1 7 (fun inv => ?_)
   refine Lst.copy (i := 0) (α := Int) (lo := ((y21 : Int).toNat)) (hi := (((l22.length : Int) : Int).toNat)) (xs := l22) (ys := m30) rfl rfl (by decide) rfl rfl Try.runUnderlying34 Try.sizeOf3 rfl (by decide) rfl rfl (by rw [← gl43]; exact Rd.cut (by decide) (rdo 0 rfl rfl rfl) (by omega) (by omega)) (by omega) (by omega) ?_
   refine Lst.its (L' := (.own s16 3 1 (encs p34)) :: (.own Sl.nil 3 1 (encs ([] : List Int))) :: L) (by rw [← h35]; rfl) ?_
   refine hds inv (sc1 (sk1 (.refl _))) ?_
   refine HdJ.done (by kernel_rfl) ?_
   exact At.meetN p34 fl ⟨rfl, rfl, rfl, rfl, trivial⟩ rfl h39
  refine HdStep.c (fun inv => ?_) trivial
  obtain ⟨g44, gl45⟩ := cutL_some h31
  try dsimp only at g44
  refine Lst.r (Ev.cut (α := Int) (xs := l22) (i := 0) (j := y21) rfl rfl rfl Try.runUnderlying34 Try.sizeOf3 rfl (by decide) (rdo 0 rfl rfl rfl) g44.1 g44.2.1 g44.2.2) ?_
  refine hds inv (sc1 (sk1 (.refl _))) ?_
  refine HdJ.o1 3 (fun inv => ?_)
  obtain ⟨g46, gl47⟩ := cutL_some h27
  try dsimp only at g46
  refine Lst.r (Ev.cut (α := Int) (xs := l22) (i := y21) (j := (l22.length : Int)) rfl rfl rfl Try.runUnderlying34 Try.sizeOf3 rfl (by decide) (rdo 0 rfl rfl rfl) g46.1 g46.2.1 g46.2.2) ?_
  refine hds inv (sc1 (sk1 (.refl _))) ?_
  refine HdJ.o1 7 (fun inv => ?_)
  refine Lst.copy (i := 0) (α := Int) (lo := ((y21 : Int).toNat)) (hi := (((l22.length : Int) : Int).toNat)) (xs := l22) (ys := m30) rfl rfl (by decide) rfl rfl Try.runUnderlying34 Try.sizeOf3 rfl (by decide) rfl rfl (by rw [← gl45]; exact Rd.cut (by decide) (rdo 0 rfl rfl rfl) (by omega) (by omega)) (by omega) (by omega) ?_
  refine Lst.its (L' := (.own s16 3 1 (encs p34)) :: (.own Sl.nil 3 1 (encs ([] : List Int))) :: L) (by rw [← h35]; rfl) ?_
  refine hds inv (sc1 (sk1 (.refl _))) ?_
  refine HdJ.done (by kernel_rfl) ?_
  exact At.meetN p34 fl ⟨rfl, rfl, rfl, rfl, trivial⟩ rfl h39
 rintro F48 l37 hF49 hy
 subst hy
 refine Lst.as (e' := [(7, Sl.v s16), (8, iv y21), (38, iv y21), (45, iv (copyN ((y21 : Int).toNat) (((l22.length : Int) : Int).toNat) m30))]) (L' := (.own s16 3 1 (encs l37)) :: (.own Sl.nil 3 1 (encs ([] : List Int))) :: L) ⟨rfl, rfl, rfl, rfl, trivial⟩ rfl ?_
 refine Lst.r (Ev.add rfl rfl) ?_
 refine Lst.r (Ev.assign rfl) ?_
 refine Lst.nil ?_
 refine At.in_normal ?_
 exact At.meet (k20, w64 (y21 + (copyN ((y21 : Int).toNat) (((l22.length : Int) : Int).toNat) m30)), l37) (FLe.trans hF24 hF49) ⟨rfl, rfl, trivial⟩ rfl ⟨hgo20 _ (some_inj H).symm, Nat.lt_succ_self _⟩
set_option maxRecDepth 20000 in
theorem match_graph_search_simR : ∀ (fu : Nat) {a0 : Graph} {a1 : Int} {b_a0 : Nat} {s_a0_0 : Sl} {rs_a0_0 : List (LR Bool)} {s_a0_1 : Sl} {s_a0_2 : Sl} {r : (List Int) × (List Bool) × Graph × Bool} (H : match_graph_search fu a0 a1 = some r) (w0 : World) (F : Frz) (M L : List Item) (hM : M.Sublist L) (hm_a0_0 : rs_a0_0.map LR.v = a0.may) (hs_a0_0 : Rd w0 F M s_a0_0 rs_a0_0) (ha_a0_0 : All LR.rel w0 F M rs_a0_0), Ok Try.prog w0 77 [pv b_a0 0, iv a1] F ((.own s_a0_1 3 1 (encs a0.left)) :: (.own s_a0_2 4 1 (encs a0.seen)) :: (.blk b_a0 (enc (GraphR.mk a0 s_a0_0 s_a0_1 s_a0_2)) 101) :: L) (fun _ L' v => v = .bool r.2.2.2 ∧ L' = (.own s_a0_1 3 1 (encs r.1)) :: (.own s_a0_2 4 1 (encs r.2.1)) :: (.blk b_a0 (enc (GraphR.mk ({ r.2.2.1 with may := a0.may, left := r.1, seen := r.2.1 } : Graph) s_a0_0 s_a0_1 s_a0_2)) 101) :: L) := by
 intro fu
 induction fu with
 | zero => intro a0 a1 b_a0 s_a0_0 rs_a0_0 s_a0_1 s_a0_2 r H; exact nomatch (show (none : Option ((List Int) × (List Bool) × Graph × Bool)) = some _ from H)
 | succ fu ih =>
  intro a0 a1 b_a0 s_a0_0 rs_a0_0 s_a0_1 s_a0_2 r H w0 F M L hM hm_a0_0 hs_a0_0 ha_a0_0
  replace H : match_graph_search_R (match_graph_search fu) a0 a1 = some r := H
  generalize match_graph_search fu = rc at H ih
  unfold match_graph_search_R at H
  refine Ok.enter (m := 2) (n := 64) Try.func77 rfl rfl rfl (by decide) ?_
  refine Cd.env (e' := [(0, pv b_a0 0), (1, iv a1)]) rfl ?_
  refine sr0 ?_
  refine Lst.r (Ev.assign rfl) ?_
  refine nt0 ?_
  refine Cd.seq ?_
  refine sr0 ?_
  refine mv0 rfl ?_
  refine Lst.r (Ev.nilCheck rfl) ?_
  refine Lst.r (Ev.fieldAddr (off' := 0) rfl Try.runUnderlying101 rfl Try.sizeOf73 rfl rfl) ?_
  refine Lst.r (Ev.load (i := 2) rfl rfl Try.isAgg73 (v := Sl.v s_a0_0) ((GraphR.get_may gh0).off (by rfl))) ?_
  refine mv0 rfl ?_
  obtain ⟨x4, h5, H⟩ := bind_some H
  have g6 := lat_some h5
  obtain ⟨⟨r7v, r7h⟩, r7g, r7e, r7m⟩ := map_get hm_a0_0 g6.2.2
  obtain rfl : x4 = r7v := r7e.symm
  have r7q : Rd w0 _ _ r7h x4 := ha_a0_0 _ r7m
  refine Lst.r (Ev.indexS (α := LR Bool) (xs := rs_a0_0) rfl rfl Try.runUnderlying73 Try.sizeOf75 rfl (by decide) (hs_a0_0.mono fl (sc2 (sc1 hM))) g6.1 (by have := map_len hm_a0_0; omega)) ?_
  refine Lst.r (Ev.loadS (α := LR Bool) rfl (hs_a0_0.mono fl (sc2 (sc1 hM))) Try.isAgg75 (v := Sl.v r7h) ((Get.elemN (s := 1) rfl r7g gh0).off (by omega))) ?_
  refine Lst.r (Ev.lenS (α := Bool) (xs := x4) (by decide) rfl rfl Try.runUnderlying75 (r7q.mono fl (sc2 (sc1 hM)))) ?_
  refine mv0 rfl ?_
  refine nt0 ?_
  refine Cd.block ?_
  refine Cd.bound (Rd.le (α := Bool) (xs := x4) (by decide) (r7q.mono fl (sc2 (sc1 hM)))) (fun hN53 => ?_)
  obtain ⟨ol8, H, HKl8⟩ := andThen_some H
  refine Cd.loop (σ := Nat × Nat × Graph × (List Int) × (List Bool)) (fun (i8, k8, y9, l10, l11) => [(0, pv b_a0 0), (1, iv a1), (13, Sl.v r7h), (14, iv (x4.length : Int)), (15, iv (i8 : Int))]) (fun (i8, k8, y9, l10, l11) => (.own s_a0_1 3 1 (encs l10)) :: (.own s_a0_2 4 1 (encs l11)) :: (.blk b_a0 (enc (GraphR.mk ({ y9 with may := a0.may, left := l10, seen := l11 } : Graph) s_a0_0 s_a0_1 s_a0_2)) 101) :: L) (fun _ => (fun (i8, k8, y9, l10, l11) => rangeM (match_graph_search_B0 a0 a1 x4 rc) k8 i8 (y9, l10, l11) = some ol8 ∧ i8 + k8 = x4.length)) (fun (i8, k8, y9, l10, l11) => k8) (0, x4.length, a0, a0.left, a0.seen) ⟨rfl, rfl, rfl, rfl, rfl, trivial⟩ rfl ⟨H, by omega⟩ ?_
  rintro F12 ⟨i8, k8, y9, l10, l11⟩ hF13 ⟨H, hik8⟩
  refine Cd.as (e' := [(0, pv b_a0 0), (1, iv a1), (13, Sl.v r7h), (14, iv (x4.length : Int)), (15, iv (i8 : Int))]) (L' := (.own s_a0_1 3 1 (encs l10)) :: (.own s_a0_2 4 1 (encs l11)) :: (.blk b_a0 (enc (GraphR.mk ({ y9 with may := a0.may, left := l10, seen := l11 } : Graph) s_a0_0 s_a0_1 s_a0_2)) 101) :: L) ⟨rfl, rfl, rfl, rfl, rfl, trivial⟩ rfl ?_
  rcases k8 with _ | k8
  ·have hc8 : decide ((i8 : Int) < (x4.length : Int)) = false := decide_eq_false (by omega)
   replace H := rangeM_end H
   refine sr0 ?_
   refine Lst.r (Ev.lss rfl rfl) ?_
   refine nt0 ?_
   refine Cd.seq ?_
   refine Cd.condF rfl hc8 ?_
   refine Cd.exit ?_
   refine At.then_exit ?_
   refine At.then_exit ?_
   refine At.in_exit ?_
   subst H
   replace H := HKl8
   refine At.then ?_
   refine sr0 ?_
   refine Lst.r (Ev.assign rfl) ?_
   refine nt0 ?_
   obtain rfl := some_inj H
   refine Cd.ret ?_
   exact At.ret1 rfl (Res.tmp rfl) hF13 (sk1 (sk1 (sk1 (.refl _)))) ⟨rfl, rfl⟩
  have hc8 : decide ((i8 : Int) < (x4.length : Int)) = true := decide_eq_true (by omega)
  obtain ⟨c8, H, hgo8, hbrk8, hret8⟩ := rangeM_go H
  unfold match_graph_search_B0 at H
  try dsimp only at H
  refine sr0 ?_
  refine Lst.r (Ev.lss rfl rfl) ?_
  refine nt0 ?_
  refine Cd.seq ?_
  refine Cd.condT rfl hc8 ?_
  refine Cd.skip ?_
  refine At.then ?_
  refine Cd.seq ?_
  refine Cd.block ?_
  refine sr0 ?_
  refine mv0 rfl ?_
  obtain ⟨x14, h15, H⟩ := bind_some H
  have g16 := lat_some h15
  refine Lst.r (Ev.indexS (α := Bool) (xs := x4) rfl rfl Try.runUnderlying75 Try.sizeOf4 rfl (by decide) (r7q.mono hF13 (sc2 (sc1 hM))) g16.1 g16.2.1) ?_
  refine Lst.r (Ev.loadS (α := Bool) rfl (r7q.mono hF13 (sc2 (sc1 hM))) Try.isAgg4 (v := .bool x14) ((Get.elemN (s := 1) (x := x14) rfl g16.2.2 gh0).off (by omega))) ?_
  refine Lst.r (Ev.assign rfl) ?_
  refine Lst.r (Ev.assign rfl) ?_
  refine nt0 ?_
  refine Cd.seq ?_
  refine sr0 ?_
  refine mv0 rfl ?_
  refine Lst.r (Ev.not rfl) ?_
  refine mv0 rfl ?_
  obtain ⟨o17, H, HKo17⟩ := bind_some H
  refine Lst.join (σ := Bool) 8 (fun y18 => [(0, pv b_a0 0), (1, iv a1), (5, iv (i8 : Int)), (13, Sl.v r7h), (14, iv (x4.length : Int)), (15, iv (i8 : Int)), (30, .bool y18)]) (fun y18 => (.own s_a0_1 3 1 (encs l10)) :: (.own s_a0_2 4 1 (encs l11)) :: (.blk b_a0 (enc (GraphR.mk ({ y9 with may := a0.may, left := l10, seen := l11 } : Graph) s_a0_0 s_a0_1 s_a0_2)) 101) :: L) (fun _ y18 => y18 = o17) ?_ ?_
  ·rcases Bool.eq_false_or_eq_true (!x14) with hb19 | hb19
   ·replace H := ite_t hb19 H
    refine Lst.skip rfl rfl rfl hb19 rfl (by decide) ?_
    refine Lst.skip rfl rfl rfl hb19 rfl (by decide) ?_
    refine Lst.skip rfl rfl rfl hb19 rfl (by decide) ?_
    refine Lst.skip rfl rfl rfl hb19 rfl (by decide) ?_
    refine Lst.skip rfl rfl rfl hb19 rfl (by decide) ?_
    refine Lst.skip rfl rfl rfl hb19 rfl (by decide) ?_
    refine Lst.skip rfl rfl rfl hb19 rfl (by decide) ?_
    refine Lst.r (Ev.pickT rfl hb19 rfl) ?_
    refine Lst.nil ?_
    exact At.meet true fl ⟨rfl, rfl, rfl, rfl, rfl, rfl, rfl, trivial⟩ rfl (some_inj H)
   replace H := ite_f hb19 H
   refine Lst.rG hb19 (Ev.move rfl) ?_
   refine Lst.rG hb19 (Ev.nilCheck rfl) ?_
   refine Lst.rG hb19 (Ev.fieldAddr (off' := 2) rfl Try.runUnderlying101 rfl Try.sizeOf75 rfl rfl) ?_
   refine Lst.rG hb19 (Ev.load (i := 2) rfl rfl Try.isAgg75 (v := Sl.v s_a0_2) ((GraphR.get_seen gh0).off (by rfl))) ?_
   refine Lst.rG hb19 (Ev.move rfl) ?_
   obtain ⟨x20, h21, H⟩ := bind_some H
   have g22 := lat_some h21
   refine Lst.rG hb19 (Ev.indexS (α := Bool) (xs := l11) rfl rfl Try.runUnderlying75 Try.sizeOf4 rfl (by decide) (rdo 1 rfl rfl rfl) g22.1 g22.2.1) ?_
   refine Lst.rG hb19 (Ev.loadS (α := Bool) rfl (rdo 1 rfl rfl rfl) Try.isAgg4 (v := .bool x20) ((Get.elemN (s := 1) (x := x20) rfl g22.2.2 gh0).off (by omega))) ?_
   refine Lst.r (Ev.pickF rfl hb19 rfl) ?_
   refine Lst.nil ?_
   exact At.meet x20 fl ⟨rfl, rfl, rfl, rfl, rfl, rfl, rfl, trivial⟩ rfl (some_inj H)
  rintro F23 y18 hF24 hy
  subst hy
  refine Lst.as (e' := [(0, pv b_a0 0), (1, iv a1), (5, iv (i8 : Int)), (13, Sl.v r7h), (14, iv (x4.length : Int)), (15, iv (i8 : Int)), (30, .bool y18)]) (L' := (.own s_a0_1 3 1 (encs l10)) :: (.own s_a0_2 4 1 (encs l11)) :: (.blk b_a0 (enc (GraphR.mk ({ y9 with may := a0.may, left := l10, seen := l11 } : Graph) s_a0_0 s_a0_1 s_a0_2)) 101) :: L) ⟨rfl, rfl, rfl, rfl, rfl, rfl, rfl, trivial⟩ rfl ?_
  replace H := HKo17
  refine nt0 ?_
  rcases Bool.eq_false_or_eq_true y18 with hb25 | hb25
  ·replace H := ite_t hb25 H
   refine Cd.condT rfl hb25 ?_
   refine Cd.exit ?_
   refine At.then_exit ?_
   refine At.in_exit ?_
   refine At.then ?_
   refine Cd.region ?_
   refine Lst.r (Ev.incr (by omega) rfl rfl) ?_
   refine mv0 rfl ?_
   refine Lst.nil ?_
   exact At.meet (i8 + 1, k8, ({ y9 with may := a0.may, left := l10, seen := l11 } : Graph), l10, l11) (FLe.trans hF13 hF24) ⟨rfl, rfl, rfl, rfl, rfl, trivial⟩ rfl ⟨⟨hgo8 _ (some_inj H).symm, by omega⟩, Nat.lt_succ_self _⟩
  replace H := ite_f hb25 H
  refine Cd.condF rfl hb25 ?_
  refine Cd.skip ?_
  refine At.then ?_
  refine sr0 ?_
  refine mv0 rfl ?_
  refine Lst.r (Ev.nilCheck rfl) ?_
  refine Lst.r (Ev.fieldAddr (off' := 2) rfl Try.runUnderlying101 rfl Try.sizeOf75 rfl rfl) ?_
  refine Lst.r (Ev.load (i := 2) rfl rfl Try.isAgg75 (v := Sl.v s_a0_2) ((GraphR.get_seen gh0).off (by rfl))) ?_
  refine mv0 rfl ?_
  obtain ⟨x26, h27, H⟩ := bind_some H
  have g28 := lat_some h27
  refine Lst.r (Ev.indexS (α := Bool) (xs := l11) rfl rfl Try.runUnderlying75 Try.sizeOf4 rfl (by decide) (rdo 1 rfl rfl rfl) g28.1 g28.2.1) ?_
  obtain ⟨p29, h30, H⟩ := Let_some H
  refine Lst.storeS (i := 1) rfl rfl rfl rfl rfl Try.sizeOf4 (vs := [.bool true]) rfl rfl (by decide) rfl (xs' := encs p29) (by rw [← h30]; exact (Put.elemN (s := 1) (x := x26) rfl g28.2.2 (Put.here (vs := [.bool true]) rfl)).off (by omega)) (L' := (.own s_a0_1 3 1 (encs l10)) :: (.own s_a0_2 4 1 (encs p29)) :: (.blk b_a0 (enc (GraphR.mk ({ y9 with may := a0.may, left := l10, seen := p29 } : Graph) s_a0_0 s_a0_1 s_a0_2)) 101) :: L) rfl ?_
  refine nsr ?_
  refine mv0 rfl ?_
  refine Lst.r (Ev.nilCheck rfl) ?_
  refine Lst.r (Ev.fieldAddr (off' := 1) rfl Try.runUnderlying101 rfl Try.sizeOf34 rfl rfl) ?_
  refine Lst.r (Ev.load (i := 2) rfl rfl Try.isAgg34 (v := Sl.v s_a0_1) ((GraphR.get_left gh0).off (by rfl))) ?_
  refine mv0 rfl ?_
  obtain ⟨x31, h32, H⟩ := bind_some H
  have g33 := lat_some h32
  refine Lst.r (Ev.indexS (α := Int) (xs := l10) rfl rfl Try.runUnderlying34 Try.sizeOf3 rfl (by decide) (rdo 0 rfl rfl rfl) g33.1 g33.2.1) ?_
  refine Lst.r (Ev.loadS (α := Int) rfl (rdo 0 rfl rfl rfl) Try.isAgg3 (v := iv x31) ((Get.elemN (s := 1) (x := x31) rfl g33.2.2 gh0).off (by omega))) ?_
  refine Lst.r (Ev.lss rfl rfl) ?_
  refine mv0 rfl ?_
  rcases Bool.eq_false_or_eq_true (decide (x31 < (0 : Int))) with hb34 | hb34
  ·replace H := ite_t hb34 H
   refine Lst.skip rfl rfl rfl hb34 rfl (by decide) ?_
   refine Lst.skip rfl rfl rfl hb34 rfl (by decide) ?_
   refine Lst.skip rfl rfl rfl hb34 rfl (by decide) ?_
   refine Lst.skip rfl rfl rfl hb34 rfl (by decide) ?_
   refine Lst.skip rfl rfl rfl hb34 rfl (by decide) ?_
   refine Lst.skip rfl rfl rfl hb34 rfl (by decide) ?_
   refine Lst.skip rfl rfl rfl hb34 rfl (by decide) ?_
   refine Lst.skip rfl rfl rfl hb34 rfl (by decide) ?_
   refine Lst.skip rfl rfl rfl hb34 rfl (by decide) ?_
   refine Lst.r (Ev.pickT rfl hb34 rfl) ?_
   refine nt0 ?_
   refine Cd.condT rfl rfl ?_
   refine Cd.seq ?_
   refine Cd.as (e' := [(0, pv b_a0 0), (1, iv a1), (5, iv (i8 : Int))]) (L' := (.own s_a0_1 3 1 (encs l10)) :: (.own s_a0_2 4 1 (encs p29)) :: (.blk b_a0 (enc (GraphR.mk ({ y9 with may := a0.may, left := l10, seen := p29 } : Graph) s_a0_0 s_a0_1 s_a0_2)) 101) :: L) ⟨rfl, rfl, rfl, trivial⟩ rfl ?_
   refine Cd.region ?_
   refine mv0 rfl ?_
   refine Lst.r (Ev.nilCheck rfl) ?_
   refine Lst.r (Ev.fieldAddr (off' := 1) rfl Try.runUnderlying101 rfl Try.sizeOf34 rfl rfl) ?_
   refine Lst.r (Ev.load (i := 2) rfl rfl Try.isAgg34 (v := Sl.v s_a0_1) ((GraphR.get_left gh0).off (by rfl))) ?_
   refine mv0 rfl ?_
   refine mv0 rfl ?_
   obtain ⟨x35, h36, H⟩ := bind_some H
   have g37 := lat_some h36
   refine Lst.r (Ev.indexS (α := Int) (xs := l10) rfl rfl Try.runUnderlying34 Try.sizeOf3 rfl (by decide) (rdo 0 rfl rfl rfl) g37.1 g37.2.1) ?_
   obtain ⟨p38, h39, H⟩ := Let_some H
   refine Lst.storeS (i := 0) rfl rfl rfl rfl rfl Try.sizeOf3 (vs := [iv a1]) rfl rfl (by decide) rfl (xs' := encs p38) (by rw [← h39]; exact (Put.elemN (s := 1) (x := x35) rfl g37.2.2 (Put.here (vs := [iv a1]) rfl)).off (by omega)) (L' := (.own s_a0_1 3 1 (encs p38)) :: (.own s_a0_2 4 1 (encs p29)) :: (.blk b_a0 (enc (GraphR.mk ({ y9 with may := a0.may, left := p38, seen := p29 } : Graph) s_a0_0 s_a0_1 s_a0_2)) 101) :: L) rfl ?_
   refine nsr ?_
   refine Lst.r (Ev.assign rfl) ?_
   refine nt0 ?_
   have H := hret8 _ (some_inj H).symm
   subst H
   replace H := HKl8
   obtain rfl := some_inj H
   refine Cd.ret ?_
   refine At.in_ret ?_
   refine At.then_ret ?_
   refine At.then_ret ?_
   refine At.in_ret ?_
   refine At.then_ret ?_
   exact At.ret1 rfl (Res.tmp rfl) (FLe.trans hF13 hF24) (sk1 (sk1 (sk1 (.refl _)))) ⟨rfl, rfl⟩
  replace H := ite_f hb34 H
  refine Lst.rG hb34 (Ev.move rfl) ?_
  refine Lst.rG hb34 (Ev.move rfl) ?_
  refine Lst.rG hb34 (Ev.nilCheck rfl) ?_
  refine Lst.rG hb34 (Ev.fieldAddr (off' := 1) rfl Try.runUnderlying101 rfl Try.sizeOf34 rfl rfl) ?_
  refine Lst.rG hb34 (Ev.load (i := 2) rfl rfl Try.isAgg34 (v := Sl.v s_a0_1) ((GraphR.get_left gh0).off (by rfl))) ?_
  refine Lst.rG hb34 (Ev.move rfl) ?_
  obtain ⟨x40, h41, H⟩ := bind_some H
  have g42 := lat_some h41
  refine Lst.rG hb34 (Ev.indexS (α := Int) (xs := l10) rfl rfl Try.runUnderlying34 Try.sizeOf3 rfl (by decide) (rdo 0 rfl rfl rfl) g42.1 g42.2.1) ?_
  refine Lst.rG hb34 (Ev.loadS (α := Int) rfl (rdo 0 rfl rfl rfl) Try.isAgg3 (v := iv x40) ((Get.elemN (s := 1) (x := x40) rfl g42.2.2 gh0).off (by omega))) ?_
  obtain ⟨r43, h44, H⟩ := bind_some H
  refine Lst.callG rfl rfl rfl hb34 rfl (by decide) (vs := [pv b_a0 0, iv x40]) ⟨rfl, rfl, trivial⟩ Try.call77 (ih h44 w0 _ M _ hM hm_a0_0 (hs_a0_0.mono (FLe.trans hF13 hF24) (.refl _)) (All.monoLR ha_a0_0 (FLe.trans hF13 hF24) (.refl _))) (fun F45 L' v hF46 hv => ?_)
  obtain ⟨rfl, rfl⟩ := hv
  refine Lst.r (Ev.pickF rfl hb34 rfl) ?_
  refine nt0 ?_
  rcases Bool.eq_false_or_eq_true r43.2.2.2 with hb47 | hb47
  ·replace H := ite_t hb47 H
   refine Cd.condT rfl hb47 ?_
   refine Cd.seq ?_
   refine Cd.as (e' := [(0, pv b_a0 0), (1, iv a1), (5, iv (i8 : Int))]) (L' := (.own s_a0_1 3 1 (encs r43.1)) :: (.own s_a0_2 4 1 (encs r43.2.1)) :: (.blk b_a0 (enc (GraphR.mk ({ r43.2.2.1 with may := a0.may, left := r43.1, seen := r43.2.1 } : Graph) s_a0_0 s_a0_1 s_a0_2)) 101) :: L) ⟨rfl, rfl, rfl, trivial⟩ rfl ?_
   refine Cd.region ?_
   refine mv0 rfl ?_
   refine Lst.r (Ev.nilCheck rfl) ?_
   refine Lst.r (Ev.fieldAddr (off' := 1) rfl Try.runUnderlying101 rfl Try.sizeOf34 rfl rfl) ?_
   refine Lst.r (Ev.load (i := 2) rfl rfl Try.isAgg34 (v := Sl.v s_a0_1) ((GraphR.get_left gh0).off (by rfl))) ?_
   refine mv0 rfl ?_
   refine mv0 rfl ?_
   obtain ⟨x48, h49, H⟩ := bind_some H
   have g50 := lat_some h49
   refine Lst.r (Ev.indexS (α := Int) (xs := r43.1) rfl rfl Try.runUnderlying34 Try.sizeOf3 rfl (by decide) (rdo 0 rfl rfl rfl) g50.1 g50.2.1) ?_
   obtain ⟨p51, h52, H⟩ := Let_some H
   refine Lst.storeS (i := 0) rfl rfl rfl rfl rfl Try.sizeOf3 (vs := [iv a1]) rfl rfl (by decide) rfl (xs' := encs p51) (by rw [← h52]; exact (Put.elemN (s := 1) (x := x48) rfl g50.2.2 (Put.here (vs := [iv a1]) rfl)).off (by omega)) (L' := (.own s_a0_1 3 1 (encs p51)) :: (.own s_a0_2 4 1 (encs r43.2.1)) :: (.blk b_a0 (enc (GraphR.mk ({ r43.2.2.1 with may := a0.may, left := p51, seen := r43.2.1 } : Graph) s_a0_0 s_a0_1 s_a0_2)) 101) :: L) rfl ?_
   refine nsr ?_
   refine Lst.r (Ev.assign rfl) ?_
   refine nt0 ?_
   have H := hret8 _ (some_inj H).symm
   subst H
   replace H := HKl8
   obtain rfl := some_inj H
   refine Cd.ret ?_
   refine At.in_ret ?_
   refine At.then_ret ?_
   refine At.then_ret ?_
   refine At.in_ret ?_
   refine At.then_ret ?_
   exact At.ret1 rfl (Res.tmp rfl) (FLe.trans (FLe.trans hF13 hF24) hF46) (sk1 (sk1 (sk1 (.refl _)))) ⟨rfl, rfl⟩
  replace H := ite_f hb47 H
  refine Cd.condF rfl hb47 ?_
  refine Cd.skip ?_
  refine At.in_normal ?_
  refine At.then ?_
  refine Cd.as (e' := [(0, pv b_a0 0), (1, iv a1), (13, Sl.v r7h), (14, iv (x4.length : Int)), (15, iv (i8 : Int))]) (L' := (.own s_a0_1 3 1 (encs r43.1)) :: (.own s_a0_2 4 1 (encs r43.2.1)) :: (.blk b_a0 (enc (GraphR.mk ({ r43.2.2.1 with may := a0.may, left := r43.1, seen := r43.2.1 } : Graph) s_a0_0 s_a0_1 s_a0_2)) 101) :: L) ⟨rfl, rfl, rfl, rfl, rfl, trivial⟩ rfl ?_
  refine Cd.region ?_
  refine Lst.r (Ev.incr (by omega) rfl rfl) ?_
  refine mv0 rfl ?_
  refine Lst.nil ?_
  exact At.meet (i8 + 1, k8, ({ r43.2.2.1 with may := a0.may, left := r43.1, seen := r43.2.1 } : Graph), r43.1, r43.2.1) (FLe.trans (FLe.trans hF13 hF24) hF46) ⟨rfl, rfl, rfl, rfl, rfl, trivial⟩ rfl ⟨⟨hgo8 _ (some_inj H).symm, by omega⟩, Nat.lt_succ_self _⟩
theorem match_graph_search_sim {fu : Nat} {a0 : Graph} {a1 : Int} {b_a0 : Nat} {s_a0_0 : Sl} {rs_a0_0 : List (LR Bool)} {s_a0_1 : Sl} {s_a0_2 : Sl} {r : (List Int) × (List Bool) × Graph × Bool} (H : match_graph_search fu a0 a1 = some r) (w0 : World) (F : Frz) (M L : List Item) (hM : M.Sublist L) (hm_a0_0 : rs_a0_0.map LR.v = a0.may) (hs_a0_0 : Rd w0 F M s_a0_0 rs_a0_0) (ha_a0_0 : All LR.rel w0 F M rs_a0_0) : Ok Try.prog w0 77 [pv b_a0 0, iv a1] F ((.own s_a0_1 3 1 (encs a0.left)) :: (.own s_a0_2 4 1 (encs a0.seen)) :: (.blk b_a0 (enc (GraphR.mk a0 s_a0_0 s_a0_1 s_a0_2)) 101) :: L) (fun _ L' v => v = .bool r.2.2.2 ∧ L' = (.own s_a0_1 3 1 (encs r.1)) :: (.own s_a0_2 4 1 (encs r.2.1)) :: (.blk b_a0 (enc (GraphR.mk ({ r.2.2.1 with may := a0.may, left := r.1, seen := r.2.1 } : Graph) s_a0_0 s_a0_1 s_a0_2)) 101) :: L) :=
  match_graph_search_simR fu H w0 F M L hM hm_a0_0 hs_a0_0 ha_a0_0
set_option maxRecDepth 20000 in
theorem match_most_sim {fu : Nat} {a0 : Int} {a1 : Int} {a2 : List Pair} {s_a2 : Sl} {r : Graph} (H : match_most fu a0 a1 a2 = some r) (w0 : World) (F : Frz) (M L : List Item) (hM : M.Sublist L) (hs_a2 : Rd w0 F M s_a2 a2) : Ok Try.prog w0 59 [iv a0, iv a1, Sl.v s_a2] F (L) (fun Fx L' v => ∃ (b1 : Nat) (s2 : Sl) (rs3 : List (LR Bool)) (s7 : Sl) (s9 : Sl), v = pv b1 0 ∧ L' = (.rows (α := Bool) 4 rs3) :: (.own s2 75 1 (encs rs3)) :: (.own s7 3 1 (encs r.left)) :: (.blk b1 (enc (GraphR.mk r s2 s7 s9)) 101) :: L ∧ rs3.map LR.v = r.may ∧ Rd w0 Fx M s9 r.seen) := by
 unfold match_most at H
 refine Ok.enter (m := 3) (n := 63) Try.func59 rfl rfl rfl (by decide) ?_
 refine Cd.env (e' := [(0, iv a0), (1, iv a1), (2, Sl.v s_a2)]) rfl ?_
 refine sr0 ?_
 refine Lst.r (Ev.assign rfl) ?_
 refine nsr ?_
 refine Lst.buildSlice (α := Int) (xs := ([(-1 : Int)] : List Int)) (pv := [(0, iv (-1 : Int))]) rfl rfl (by decide) ⟨rfl, rfl, trivial⟩ (run_buildSlice (α := Int) (z0 := (0 : Int)) (xs := ([(-1 : Int)] : List Int)) Try.runUnderlying34 Try.sizeOf3 Try.zeroValue3 rfl rfl rfl (by decide) rfl (fill_cons (cs := encs (List.replicate 1 (0 : Int))) (cs' := encs ((List.replicate 1 (0 : Int)).set 0 (-1 : Int))) (vs := [iv (-1 : Int)]) rfl rfl rfl ((Put.elemN (s := 1) (i := 0) (x := (0 : Int)) (y := (-1 : Int)) rfl rfl (Put.here (vs := [iv (-1 : Int)]) rfl)).off rfl) fill_nil)) rfl rfl (by decide) (fun s1 _ => ?_)
 refine mv0 rfl ?_
 obtain ⟨r3, h4, H⟩ := bind_some H
 refine Lst.call rfl rfl (by decide) (vs := [Sl.v s1, iv a1]) ⟨rfl, rfl, trivial⟩ Try.call67 (slices_Repeat_int_int_sim h4 w0 _ _ _ (.refl _) (rdo 0 rfl rfl rfl)) (fun F7 L' v hF8 hv => ?_)
 obtain ⟨s5, rfl, rfl⟩ := hv
 refine Lst.r (Ev.build (v := .agg (enc (GraphR.mk ({ Graph.zero with left := r3 } : Graph) Sl.nil s5 Sl.nil)).toArray) (pv := [(1, Sl.v s5)]) ⟨rfl, rfl, trivial⟩ (run_buildStruct (places := #[(0, 1), (1, 1), (2, 1)]) Try.zeroValue101 (zs := enc (GraphR.mk Graph.zero Sl.nil Sl.nil Sl.nil)) rfl Try.runUnderlying101 (fun w => by kernel_rfl) (fill_cons (cs := enc (GraphR.mk Graph.zero Sl.nil Sl.nil Sl.nil)) (cs' := enc (GraphR.mk ({ Graph.zero with left := r3 } : Graph) Sl.nil s5 Sl.nil)) (vs := [Sl.v s5]) rfl rfl rfl ((GraphR.put_left (p := (GraphR.mk Graph.zero Sl.nil Sl.nil Sl.nil)) (y := s5) (Put.here (vs := [Sl.v s5]) rfl)).off rfl) fill_nil))) ?_
 refine Lst.box rfl rfl (by decide) rfl (cs := enc (GraphR.mk ({ Graph.zero with left := r3 } : Graph) Sl.nil s5 Sl.nil)) rfl (fun b9 => ?_)
 refine Lst.r (Ev.assign rfl) ?_
 refine nt0 ?_
 refine Cd.seq ?_
 refine sr0 ?_
 refine mv0 rfl ?_
 refine mv0 rfl ?_
 refine nt0 ?_
 refine Cd.block ?_
 have ha14m : List.map LR.v ([] : List (LR Bool)) = ([] : List (List Bool)) := rfl
 refine Cd.addNil 75 1 ?_
 refine Cd.rowsNil Bool 4 0 ?_
 refine Cd.its (L' := (.rows (α := Bool) 4 ([] : List (LR Bool))) :: (.own Sl.nil 75 1 (encs ([] : List (LR Bool)))) :: (.blk b9 (enc (GraphR.mk ({ Graph.zero with left := r3 } : Graph) Sl.nil s5 Sl.nil)) 101) :: (.own s5 3 1 (encs r3)) :: (.own s1 3 1 (encs ([(-1 : Int)] : List Int))) :: L) rfl ?_
 obtain ⟨nn25, hN117, H⟩ := bind_some H
 replace hN117 := upTo_some hN117
 obtain ⟨ol11, H, HKl11⟩ := bind_some H
 refine Cd.loop (σ := Nat × Nat × Graph × Sl × (List (LR Bool)) × Sl) (fun (i11, k11, y15, s16, rs17, s21) => [(0, iv a0), (1, iv a1), (2, Sl.v s_a2), (7, pv b9 0), (16, iv a0), (17, iv (i11 : Int))]) (fun (i11, k11, y15, s16, rs17, s21) => (.rows (α := Bool) 4 rs17) :: (.own s16 75 1 (encs rs17)) :: (.blk b9 (enc (GraphR.mk ({ y15 with left := r3 } : Graph) s16 s5 s21)) 101) :: (.own s5 3 1 (encs r3)) :: (.own s1 3 1 (encs ([(-1 : Int)] : List Int))) :: L) (fun Fx => (fun (i11, k11, y15, s16, rs17, s21) => rangeF (match_most_B0 a1 r3) k11 i11 y15 = some ol11 ∧ i11 + k11 = nn25 ∧ rs17.map LR.v = y15.may ∧ Rd w0 Fx M s21 y15.seen)) (fun (i11, k11, y15, s16, rs17, s21) => k11) (0, nn25, ({ Graph.zero with may := ([] : List (List Bool)), left := r3 } : Graph), Sl.nil, ([] : List (LR Bool)), Sl.nil) ⟨rfl, rfl, rfl, rfl, rfl, rfl, trivial⟩ rfl ⟨H, by omega, ha14m, Rd.nil⟩ ?_
 rintro F23 ⟨i11, k11, y15, s16, rs17, s21⟩ hF24 ⟨H, hik11, fm18, f22⟩
 refine Cd.as (e' := [(0, iv a0), (1, iv a1), (2, Sl.v s_a2), (7, pv b9 0), (16, iv a0), (17, iv (i11 : Int))]) (L' := (.rows (α := Bool) 4 rs17) :: (.own s16 75 1 (encs rs17)) :: (.blk b9 (enc (GraphR.mk ({ y15 with left := r3 } : Graph) s16 s5 s21)) 101) :: (.own s5 3 1 (encs r3)) :: (.own s1 3 1 (encs ([(-1 : Int)] : List Int))) :: L) ⟨rfl, rfl, rfl, rfl, rfl, rfl, trivial⟩ rfl ?_
 rcases k11 with _ | k11
 ·have hc11 : decide ((i11 : Int) < a0) = false := decide_eq_false (by omega)
  replace H := rangeF_end H
  refine sr0 ?_
  refine Lst.r (Ev.lss rfl rfl) ?_
  refine nt0 ?_
  refine Cd.seq ?_
  refine Cd.condF rfl hc11 ?_
  refine Cd.exit ?_
  refine At.then_exit ?_
  refine At.then_exit ?_
  refine At.in_exit ?_
  subst H
  replace H := HKl11
  refine At.then ?_
  refine Cd.seq ?_
  refine sr0 ?_
  refine mv0 rfl ?_
  refine Lst.r (Ev.lenS (α := Pair) (xs := a2) (by decide) rfl rfl Try.runUnderlying22 (hs_a2.mono (FLe.trans hF8 hF24) (sc4 (sc1 hM)))) ?_
  refine mv0 rfl ?_
  refine nt0 ?_
  refine Cd.block ?_
  refine Cd.bound (Rd.le (α := Pair) (xs := a2) (by decide) (hs_a2.mono (FLe.trans hF8 hF24) (sc4 (sc1 hM)))) (fun hN116 => ?_)
  obtain ⟨ol70, H, HKl70⟩ := bind_some H
  refine Cd.loop (σ := Nat × Nat × Graph × (List (List Bool)) × (List (LR Bool))) (fun (i70, k70, y71, l72, rs73) => [(0, iv a0), (1, iv a1), (7, pv b9 0), (31, Sl.v s_a2), (32, iv (a2.length : Int)), (33, iv (i70 : Int))]) (fun (i70, k70, y71, l72, rs73) => (.rows (α := Bool) 4 rs73) :: (.own s16 75 1 (encs rs73)) :: (.blk b9 (enc (GraphR.mk ({ y71 with may := l72, left := r3, seen := y15.seen } : Graph) s16 s5 s21)) 101) :: (.own s5 3 1 (encs r3)) :: (.own s1 3 1 (encs ([(-1 : Int)] : List Int))) :: L) (fun Fx => (fun (i70, k70, y71, l72, rs73) => rangeF (match_most_B2 a2 r3 y15) k70 i70 (y71, l72) = some ol70 ∧ i70 + k70 = a2.length ∧ rs73.map LR.v = l72)) (fun (i70, k70, y71, l72, rs73) => k70) (0, a2.length, ({ y15 with left := r3 } : Graph), y15.may, rs17) ⟨rfl, rfl, rfl, rfl, rfl, rfl, trivial⟩ rfl ⟨H, by omega, fm18⟩ ?_
  rintro F75 ⟨i70, k70, y71, l72, rs73⟩ hF76 ⟨H, hik70, fm74⟩
  refine Cd.as (e' := [(0, iv a0), (1, iv a1), (7, pv b9 0), (31, Sl.v s_a2), (32, iv (a2.length : Int)), (33, iv (i70 : Int))]) (L' := (.rows (α := Bool) 4 rs73) :: (.own s16 75 1 (encs rs73)) :: (.blk b9 (enc (GraphR.mk ({ y71 with may := l72, left := r3, seen := y15.seen } : Graph) s16 s5 s21)) 101) :: (.own s5 3 1 (encs r3)) :: (.own s1 3 1 (encs ([(-1 : Int)] : List Int))) :: L) ⟨rfl, rfl, rfl, rfl, rfl, rfl, trivial⟩ rfl ?_
  rcases k70 with _ | k70
  ·have hc70 : decide ((i70 : Int) < (a2.length : Int)) = false := decide_eq_false (by omega)
   replace H := rangeF_end H
   refine sr0 ?_
   refine Lst.r (Ev.lss rfl rfl) ?_
   refine nt0 ?_
   refine Cd.seq ?_
   refine Cd.condF rfl hc70 ?_
   refine Cd.exit ?_
   refine At.then_exit ?_
   refine At.then_exit ?_
   refine At.in_exit ?_
   subst H
   replace H := HKl70
   try dsimp only [Sum.elim_inl] at H
   refine At.then ?_
   refine Cd.seq ?_
   refine sr0 ?_
   refine mv0 rfl ?_
   refine mv0 rfl ?_
   refine nt0 ?_
   refine Cd.block ?_
   obtain ⟨nn101, hN115, H⟩ := bind_some H
   replace hN115 := upTo_some hN115
   obtain ⟨ol94, H, HKl94⟩ := bind_some H
   refine Cd.loop (σ := Nat × Nat × Graph × Sl × (List Int)) (fun (i94, k94, y95, s96, l98) => [(1, iv a1), (7, pv b9 0), (49, iv a0), (50, iv (i94 : Int))]) (fun (i94, k94, y95, s96, l98) => (.rows (α := Bool) 4 rs73) :: (.own s16 75 1 (encs rs73)) :: (.blk b9 (enc (GraphR.mk ({ y95 with may := l72, left := l98 } : Graph) s16 s5 s96)) 101) :: (.own s5 3 1 (encs l98)) :: (.own s1 3 1 (encs ([(-1 : Int)] : List Int))) :: L) (fun Fx => (fun (i94, k94, y95, s96, l98) => rangeF (match_most_B4 fu a1 l72) k94 i94 (y95, l98) = some ol94 ∧ i94 + k94 = nn101 ∧ Rd w0 Fx M s96 y95.seen)) (fun (i94, k94, y95, s96, l98) => k94) (0, nn101, ({ y71 with may := l72, left := r3, seen := y15.seen } : Graph), s21, r3) ⟨rfl, rfl, rfl, rfl, trivial⟩ rfl ⟨H, by omega, (f22.mono hF76 (.refl _))⟩ ?_
   rintro F99 ⟨i94, k94, y95, s96, l98⟩ hF100 ⟨H, hik94, f97⟩
   refine Cd.as (e' := [(1, iv a1), (7, pv b9 0), (49, iv a0), (50, iv (i94 : Int))]) (L' := (.rows (α := Bool) 4 rs73) :: (.own s16 75 1 (encs rs73)) :: (.blk b9 (enc (GraphR.mk ({ y95 with may := l72, left := l98 } : Graph) s16 s5 s96)) 101) :: (.own s5 3 1 (encs l98)) :: (.own s1 3 1 (encs ([(-1 : Int)] : List Int))) :: L) ⟨rfl, rfl, rfl, rfl, trivial⟩ rfl ?_
   rcases k94 with _ | k94
   ·have hc94 : decide ((i94 : Int) < a0) = false := decide_eq_false (by omega)
    replace H := rangeF_end H
    refine sr0 ?_
    refine Lst.r (Ev.lss rfl rfl) ?_
    refine nt0 ?_
    refine Cd.seq ?_
    refine Cd.condF rfl hc94 ?_
    refine Cd.exit ?_
    refine At.then_exit ?_
    refine At.then_exit ?_
    refine At.in_exit ?_
    subst H
    replace H := HKl94
    try dsimp only [Sum.elim_inl] at H
    refine At.then ?_
    refine sr0 ?_
    refine mv0 rfl ?_
    refine Lst.r (Ev.assign rfl) ?_
    refine nt0 ?_
    obtain rfl := some_inj H
    refine Cd.ret ?_
    refine At.front (i := 3) rfl rfl ?_
    refine At.front (i := 2) rfl rfl ?_
    refine At.front (i := 2) rfl (L' := (.rows (α := Bool) 4 rs73) :: (.own s16 75 1 (encs rs73)) :: (.own s5 3 1 (encs l98)) :: (.blk b9 (enc (GraphR.mk ({ y95 with may := l72, left := l98 } : Graph) s16 s5 s96)) 101) :: (.own s1 3 1 (encs ([(-1 : Int)] : List Int))) :: L) rfl ?_
    exact At.ret1 rfl (Res.tmp rfl) (FLe.trans (FLe.trans (FLe.trans hF8 hF24) hF76) hF100) (sk1 (sk1 (sk1 (sk1 (sc1 (.refl _)))))) ⟨b9, s16, rs73, s5, s96, rfl, rfl, fm74, (f97.mono fl (.refl _))⟩
   have hc94 : decide ((i94 : Int) < a0) = true := decide_eq_true (by omega)
   obtain ⟨c94, H, hgo94⟩ := rangeF_go H
   unfold match_most_B4 at H
   try dsimp only at H
   refine sr0 ?_
   refine Lst.r (Ev.lss rfl rfl) ?_
   refine nt0 ?_
   refine Cd.seq ?_
   refine Cd.condT rfl hc94 ?_
   refine Cd.skip ?_
   refine At.then ?_
   refine Cd.seq ?_
   refine Cd.block ?_
   refine sr0 ?_
   refine mv0 rfl ?_
   refine Lst.r (Ev.assign rfl) ?_
   refine nsr ?_
   refine mv0 rfl ?_
   refine mv0 rfl ?_
   obtain ⟨n102, h103, H⟩ := bind_some H
   have g104 := mkLen_some h103
   refine Lst.make (α := Bool) (z0 := false) (k := n102) rfl rfl (by decide) (congrArg some (congrArg (Value.int .i64) g104.1)) (congrArg some (congrArg (Value.int .i64) g104.1)) Try.runUnderlying75 Try.typeInfo4 rfl rfl rfl rfl rfl g104.2 rfl (fun s105 => ?_)
   refine Lst.r (Ev.nilCheck rfl) ?_
   refine Lst.r (Ev.fieldAddr (off' := 2) rfl Try.runUnderlying101 rfl Try.sizeOf75 rfl rfl) ?_
   refine Lst.store (i := 3) rfl rfl rfl rfl rfl Try.sizeOf75 (vs := [Sl.v s105]) rfl rfl rfl (cs' := enc (GraphR.mk ({ y95 with may := l72, left := l98, seen := (List.replicate n102 false) } : Graph) s16 s5 s105)) ((GraphR.put_seen (Put.here (vs := [Sl.v s105]) rfl)).off (by rfl)) (L' := (.own s105 4 1 (encs (List.replicate n102 false))) :: (.rows (α := Bool) 4 rs73) :: (.own s16 75 1 (encs rs73)) :: (.blk b9 (enc (GraphR.mk ({ y95 with may := l72, left := l98, seen := (List.replicate n102 false) } : Graph) s16 s5 s105)) 101) :: (.own s5 3 1 (encs l98)) :: (.own s1 3 1 (encs ([(-1 : Int)] : List Int))) :: L) rfl ?_
   refine nt0 ?_
   refine Cd.region ?_
   refine mv0 rfl ?_
   refine mv0 rfl ?_
   obtain ⟨r107, h108, H⟩ := bind_some H
   refine Lst.front (i := 3) rfl rfl ?_
   refine Lst.front (i := 1) rfl rfl ?_
   refine Lst.front (i := 4) rfl (L' := (.own s5 3 1 (encs l98)) :: (.own s105 4 1 (encs (List.replicate n102 false))) :: (.blk b9 (enc (GraphR.mk ({ y95 with may := l72, left := l98, seen := (List.replicate n102 false) } : Graph) s16 s5 s105)) 101) :: (.rows (α := Bool) 4 rs73) :: (.own s16 75 1 (encs rs73)) :: (.own s1 3 1 (encs ([(-1 : Int)] : List Int))) :: L) rfl ?_
   refine Lst.call rfl rfl (by decide) (vs := [pv b9 0, iv (i94 : Int)]) ⟨rfl, rfl, trivial⟩ Try.call77 (match_graph_search_sim h108 w0 _ _ _ (.refl _) fm74 (rdo 1 rfl rfl rfl) (All.rowsHead (j := 0) rfl)) (fun F109 L' v hF110 hv => ?_)
   obtain ⟨rfl, rfl⟩ := hv
   refine Lst.nil ?_
   refine At.in_normal ?_
   refine At.then ?_
   refine Cd.region ?_
   refine Lst.r (Ev.incr (by omega) rfl rfl) ?_
   refine mv0 rfl ?_
   refine Lst.nil ?_
   refine At.freeze (i := 1) rfl (fun F111 hF112 hz113 => ?_)
   have hq114 : Rd w0 F111 [] s105 r107.2.1 := Rd.frozen hz113 rfl rfl
   refine At.its (L' := (.own s5 3 1 (encs r107.1)) :: (.blk b9 (enc (GraphR.mk ({ r107.2.2.1 with may := l72, left := r107.1, seen := r107.2.1 } : Graph) s16 s5 s105)) 101) :: (.rows (α := Bool) 4 rs73) :: (.own s16 75 1 (encs rs73)) :: (.own s1 3 1 (encs ([(-1 : Int)] : List Int))) :: L) rfl ?_
   refine At.front (i := 1) rfl rfl ?_
   refine At.front (i := 3) rfl rfl ?_
   refine At.front (i := 3) rfl (L' := (.rows (α := Bool) 4 rs73) :: (.own s16 75 1 (encs rs73)) :: (.blk b9 (enc (GraphR.mk ({ r107.2.2.1 with may := l72, left := r107.1, seen := r107.2.1 } : Graph) s16 s5 s105)) 101) :: (.own s5 3 1 (encs r107.1)) :: (.own s1 3 1 (encs ([(-1 : Int)] : List Int))) :: L) rfl ?_
   exact At.meet (i94 + 1, k94, ({ r107.2.2.1 with may := l72, left := r107.1, seen := r107.2.1 } : Graph), s105, r107.1) (FLe.trans (FLe.trans hF100 hF110) hF112) ⟨rfl, rfl, rfl, rfl, trivial⟩ rfl ⟨⟨hgo94 _ (some_inj H).symm, by omega, (hq114.mono fl (List.nil_sublist _))⟩, Nat.lt_succ_self _⟩
  have hc70 : decide ((i70 : Int) < (a2.length : Int)) = true := decide_eq_true (by omega)
  obtain ⟨c70, H, hgo70⟩ := rangeF_go H
  unfold match_most_B2 at H
  try dsimp only at H
  refine sr0 ?_
  refine Lst.r (Ev.lss rfl rfl) ?_
  refine nt0 ?_
  refine Cd.seq ?_
  refine Cd.condT rfl hc70 ?_
  refine Cd.skip ?_
  refine At.then ?_
  refine Cd.seq ?_
  refine Cd.block ?_
  refine sr0 ?_
  obtain ⟨x77, h78, H⟩ := bind_some H
  have g79 := lat_some h78
  refine Lst.r (Ev.indexS (α := Pair) (xs := a2) rfl rfl Try.runUnderlying22 Try.sizeOf49 rfl (by decide) (hs_a2.mono (FLe.trans (FLe.trans hF8 hF24) hF76) (sc4 (sc1 hM))) g79.1 g79.2.1) ?_
  refine Lst.r (Ev.loadSA (α := Pair) rfl (hs_a2.mono (FLe.trans (FLe.trans hF8 hF24) hF76) (sc4 (sc1 hM))) Try.isAgg49 Try.sizeOf49 (ch := enc x77) (Enc.len _) (by decide) ((Get.elemN (s := 2) (x := x77) rfl g79.2.2 gh0).off (by omega))) ?_
  refine Lst.alloc (cs := enc Pair.zero) rfl rfl (by decide) Try.zeroValue49 rfl (fun b80 => ?_)
  refine Lst.store (i := 0) rfl rfl rfl rfl rfl Try.sizeOf49 (vs := enc x77) rfl (Enc.len _) (Enc.one _) (cs' := enc x77) (Put.here ((Enc.len _).trans (Enc.len _).symm)) (L' := (.blk b80 (enc x77) 49) :: (.rows (α := Bool) 4 rs73) :: (.own s16 75 1 (encs rs73)) :: (.blk b9 (enc (GraphR.mk ({ y71 with may := l72, left := r3, seen := y15.seen } : Graph) s16 s5 s21)) 101) :: (.own s5 3 1 (encs r3)) :: (.own s1 3 1 (encs ([(-1 : Int)] : List Int))) :: L) rfl ?_
  refine nt0 ?_
  refine Cd.tail 11 (by kernel_rfl) (by kernel_rfl) ?_
  refine Qt.r (Ev.move rfl) ?_
  refine Qt.r (Ev.nilCheck rfl) ?_
  refine Qt.r (Ev.fieldAddr (off' := 0) rfl Try.runUnderlying101 rfl Try.sizeOf73 rfl rfl) ?_
  refine Qt.r (Ev.load (i := 3) rfl rfl Try.isAgg73 (v := Sl.v s16) ((GraphR.get_may gh0).off (by rfl))) ?_
  refine Qt.r (Ev.fieldAddr (off' := 0) rfl Try.runUnderlying49 rfl Try.sizeOf3 rfl rfl) ?_
  refine Qt.r (Ev.load (i := 0) rfl rfl Try.isAgg3 (v := iv x77.A) ((Pair.get_A gh0).off (by rfl))) ?_
  obtain ⟨x82, h83, H⟩ := bind_some H
  have g84 := lat_some h83
  obtain ⟨⟨r85v, r85h⟩, r85g, r85e, r85m⟩ := map_get fm74 g84.2.2
  obtain rfl : x82 = r85v := r85e.symm
  have hh86 := row_h r85g
  refine Qt.r (Ev.indexS (α := LR Bool) (xs := rs73) rfl rfl Try.runUnderlying73 Try.sizeOf75 rfl (by decide) (rdo 2 rfl rfl rfl) g84.1 (by have := map_len fm74; omega)) ?_
  refine Qt.r (Ev.loadS (α := LR Bool) rfl (rdo 2 rfl rfl rfl) Try.isAgg75 (v := Sl.v r85h) ((Get.elemN (s := 1) rfl r85g gh0).off (by omega))) ?_
  refine Qt.r (Ev.fieldAddr (off' := 1) rfl Try.runUnderlying49 rfl Try.sizeOf3 rfl rfl) ?_
  refine Qt.r (Ev.load (i := 0) rfl rfl Try.isAgg3 (v := iv x77.B) ((Pair.get_B gh0).off (by rfl))) ?_
  obtain ⟨x87, h88, H⟩ := bind_some H
  have g89 := lat_some h88
  refine Qt.r (Ev.indexS (α := Bool) (xs := x82) rfl rfl Try.runUnderlying75 Try.sizeOf4 rfl (by decide) (Rd.row (j := 1) rfl r85g) g89.1 g89.2.1) ?_
  refine Qt.tail ?_
  obtain ⟨p90, h91, H⟩ := Let_some H
  have hm92 : (rs73.set x77.A.toNat (LR.mk (x82.set x77.B.toNat true) r85h)).map LR.v = p90 := (map_set fm74 _ _).trans h91
  refine Lst.front (i := 1) rfl (L' := (.rows (α := Bool) 4 rs73) :: (.blk b80 (enc x77) 49) :: (.own s16 75 1 (encs rs73)) :: (.blk b9 (enc (GraphR.mk ({ y71 with may := l72, left := r3, seen := y15.seen } : Graph) s16 s5 s21)) 101) :: (.own s5 3 1 (encs r3)) :: (.own s1 3 1 (encs ([(-1 : Int)] : List Int))) :: L) rfl ?_
  refine Lst.storeR (α := Bool) rfl rfl rfl rfl r85g Try.sizeOf4 (vs := [.bool true]) rfl rfl (by decide) rfl (xs' := (x82.set x77.B.toNat true)) ((Put.elemN (s := 1) (x := x87) rfl g89.2.2 (Put.here (vs := [.bool true]) rfl)).off (by omega)) ?_
  refine Lst.its (L' := (.rows (α := Bool) 4 (rs73.set x77.A.toNat (LR.mk (x82.set x77.B.toNat true) r85h))) :: (.blk b80 (enc x77) 49) :: (.own s16 75 1 (encs (rs73.set x77.A.toNat (LR.mk (x82.set x77.B.toNat true) r85h)))) :: (.blk b9 (enc (GraphR.mk ({ y71 with may := p90, left := r3, seen := y15.seen } : Graph) s16 s5 s21)) 101) :: (.own s5 3 1 (encs r3)) :: (.own s1 3 1 (encs ([(-1 : Int)] : List Int))) :: L) (by rw [show encs (rs73.set x77.A.toNat (LR.mk (x82.set x77.B.toNat true) r85h)) = encs rs73 from encs_rowv r85g]; try rfl) ?_
  refine Lst.nil ?_
  refine At.in_normal ?_
  refine At.then ?_
  refine Cd.as (e' := [(0, iv a0), (1, iv a1), (7, pv b9 0), (31, Sl.v s_a2), (32, iv (a2.length : Int)), (33, iv (i70 : Int))]) (L' := (.rows (α := Bool) 4 (rs73.set x77.A.toNat (LR.mk (x82.set x77.B.toNat true) r85h))) :: (.blk b80 (enc x77) 49) :: (.own s16 75 1 (encs (rs73.set x77.A.toNat (LR.mk (x82.set x77.B.toNat true) r85h)))) :: (.blk b9 (enc (GraphR.mk ({ y71 with may := p90, left := r3, seen := y15.seen } : Graph) s16 s5 s21)) 101) :: (.own s5 3 1 (encs r3)) :: (.own s1 3 1 (encs ([(-1 : Int)] : List Int))) :: L) ⟨rfl, rfl, rfl, rfl, rfl, rfl, trivial⟩ rfl ?_
  refine Cd.region ?_
  refine Lst.r (Ev.incr (by omega) rfl rfl) ?_
  refine mv0 rfl ?_
  refine Lst.nil ?_
  refine At.less (L' := (.rows (α := Bool) 4 (rs73.set x77.A.toNat (LR.mk (x82.set x77.B.toNat true) r85h))) :: (.own s16 75 1 (encs (rs73.set x77.A.toNat (LR.mk (x82.set x77.B.toNat true) r85h)))) :: (.blk b9 (enc (GraphR.mk ({ y71 with may := p90, left := r3, seen := y15.seen } : Graph) s16 s5 s21)) 101) :: (.own s5 3 1 (encs r3)) :: (.own s1 3 1 (encs ([(-1 : Int)] : List Int))) :: L) (sk1 (sc1 (sk1 (sk1 (sk1 (sk1 (.refl _))))))) ?_
  exact At.meet (i70 + 1, k70, ({ y71 with may := p90, left := r3, seen := y15.seen } : Graph), p90, (rs73.set x77.A.toNat (LR.mk (x82.set x77.B.toNat true) r85h))) hF76 ⟨rfl, rfl, rfl, rfl, rfl, rfl, trivial⟩ rfl ⟨⟨hgo70 _ (some_inj H).symm, by omega, hm92⟩, Nat.lt_succ_self _⟩
 have hc11 : decide ((i11 : Int) < a0) = true := decide_eq_true (by omega)
 obtain ⟨c11, H, hgo11⟩ := rangeF_go H
 unfold match_most_B0 at H
 try dsimp only at H
 refine sr0 ?_
 refine Lst.r (Ev.lss rfl rfl) ?_
 refine nt0 ?_
 refine Cd.seq ?_
 refine Cd.condT rfl hc11 ?_
 refine Cd.skip ?_
 refine At.then ?_
 refine Cd.seq ?_
 refine Cd.block ?_
 obtain ⟨n26, h27, H⟩ := bind_some H
 obtain ⟨u35, h36, H⟩ := bind_some H
 obtain ⟨o47, h48, H⟩ := Let_some H
 refine Cd.headMeet (σ := Sl × (List (List Bool)) × (List (LR Bool)) × Graph × Sl) 9 (fun (s41, l42, rs43, y45, s46) => [(0, iv a0), (1, iv a1), (2, Sl.v s_a2), (7, pv b9 0), (16, iv a0), (17, iv (i11 : Int)), (19, pv b9 0), (27, Sl.v s41)]) (fun (s41, l42, rs43, y45, s46) => (.rows (α := Bool) 4 rs43) :: (.own s41 75 1 (encs rs43)) :: (.blk b9 (enc (GraphR.mk ({ y45 with left := r3, seen := y15.seen } : Graph) s46 s5 s21)) 101) :: (.own s5 3 1 (encs r3)) :: (.own s1 3 1 (encs ([(-1 : Int)] : List Int))) :: L) (fun Fx (s41, l42, rs43, y45, s46) => (l42, y45) = o47 ∧ rs43.map LR.v = l42) (by kernel_rfl) (by kernel_rfl) (behind_sink (by kernel_rfl) (by kernel_rfl) (by kernel_rfl)) (by kernel_rfl) (fun hsel hlt => ?_) ?_
 ·refine HdJ.keep (fun w => St w0 F23 ((.blk b9 (enc (GraphR.mk ({ y15 with left := r3 } : Graph) s16 s5 s21)) 101) :: (.own s5 3 1 (encs r3)) :: (.own s1 3 1 (encs ([(-1 : Int)] : List Int))) :: L) w) (fun w h => trivial) ?_
  refine HdJ.ts hsel hlt 0 (sc1 (sc1 (sk1 (sk1 (sk1 (.refl _)))))) (Ev.move rfl) ?_
  refine HdJ.ts hsel hlt 1 (sc1 (sc1 (sk1 (sk1 (sk1 (.refl _)))))) (Ev.move rfl) ?_
  refine HdJ.ts hsel hlt 2 (sc1 (sc1 (sk1 (sk1 (sk1 (.refl _)))))) (Ev.nilCheck rfl) ?_
  refine HdJ.ts hsel hlt 3 (sc1 (sc1 (sk1 (sk1 (sk1 (.refl _)))))) (Ev.fieldAddr (off' := 0) rfl Try.runUnderlying101 rfl Try.sizeOf73 rfl rfl) ?_
  refine HdJ.ts hsel hlt 5 (sc1 (sc1 (sk1 (sk1 (sk1 (.refl _)))))) (Ev.move rfl) ?_
  refine HdJ.step [4, 6] (by kernel_rfl) rfl ?_
  refine HdStep.c (fun inv => ?_) ?_
  ·refine Lst.r (Ev.load (i := 2) rfl rfl Try.isAgg73 (v := Sl.v s16) ((GraphR.get_may gh0).off (by rfl))) ?_
   refine hds inv (sc1 (sc1 (sk1 (sk1 (sk1 (.refl _)))))) ?_
   refine HdJ.o1 6 (fun inv => ?_)
   have g49 := mkLen_some h27
   refine Lst.make (α := Bool) (z0 := false) (k := n26) rfl rfl (by decide) (congrArg some (congrArg (Value.int .i64) g49.1)) (congrArg some (congrArg (Value.int .i64) g49.1)) Try.runUnderlying75 Try.typeInfo4 rfl rfl rfl rfl rfl g49.2 rfl (fun s50 => ?_)
   refine hds inv (sc1 (sc1 (sc1 (sk1 (sk1 (sk1 (.refl _))))))) ?_
   refine HdJ.o1 7 (fun inv => ?_)
   have hm52 : ([(LR.mk (List.replicate n26 false) s50)] : List (LR Bool)).map LR.v = ([(List.replicate n26 false)] : List (List Bool)) := rfl
   refine Lst.buildSlice (α := LR Bool) (xs := ([(LR.mk (List.replicate n26 false) s50)] : List (LR Bool))) (pv := [(0, Sl.v s50)]) rfl rfl (by decide) ⟨rfl, rfl, trivial⟩ (run_buildSlice (α := LR Bool) (z0 := ((LR.mk [] Sl.nil) : LR Bool)) (xs := ([(LR.mk (List.replicate n26 false) s50)] : List (LR Bool))) Try.runUnderlying73 Try.sizeOf75 Try.zeroValue75 rfl rfl rfl (by decide) rfl (fill_cons (cs := encs (List.replicate 1 ((LR.mk [] Sl.nil) : LR Bool))) (cs' := encs ((List.replicate 1 ((LR.mk [] Sl.nil) : LR Bool)).set 0 (LR.mk (List.replicate n26 false) s50))) (vs := [Sl.v s50]) rfl rfl rfl ((Put.elemN (s := 1) (i := 0) (x := ((LR.mk [] Sl.nil) : LR Bool)) (y := (LR.mk (List.replicate n26 false) s50)) rfl rfl (Put.here (vs := [Sl.v s50]) rfl)).off rfl) fill_nil)) rfl rfl (by decide) (fun s51 _ => ?_)
   refine Lst.rowsNil Bool 4 0 ?_
   refine Lst.front (i := 2) rfl (L' := (.own s50 4 1 (encs (List.replicate n26 false))) :: (.rows (α := Bool) 4 (List.replicate 0 (⟨[], Sl.nil⟩ : LR Bool))) :: (.own s51 75 1 (encs ([(LR.mk (List.replicate n26 false) s50)] : List (LR Bool)))) :: (.rows (α := Bool) 4 rs17) :: (.own s16 75 1 (encs rs17)) :: (.blk b9 (enc (GraphR.mk ({ y15 with left := r3 } : Graph) s16 s5 s21)) 101) :: (.own s5 3 1 (encs r3)) :: (.own s1 3 1 (encs ([(-1 : Int)] : List Int))) :: L) rfl ?_
   refine Lst.rowEnd (α := Bool) (xs := (List.replicate n26 false)) (s := s50) rfl ?_
   refine Lst.its (L' := (.rows (α := Bool) 4 ([(LR.mk (List.replicate n26 false) s50)] : List (LR Bool))) :: (.own s51 75 1 (encs ([(LR.mk (List.replicate n26 false) s50)] : List (LR Bool)))) :: (.rows (α := Bool) 4 rs17) :: (.own s16 75 1 (encs rs17)) :: (.blk b9 (enc (GraphR.mk ({ y15 with left := r3 } : Graph) s16 s5 s21)) 101) :: (.own s5 3 1 (encs r3)) :: (.own s1 3 1 (encs ([(-1 : Int)] : List Int))) :: L) rfl ?_
   refine hds inv (sc1 (sc1 (sc1 (sc1 (sk1 (sk1 (sk1 (.refl _)))))))) ?_
   refine HdJ.o1 8 (fun inv => ?_)
   have hm54 : (rs17 ++ ([(LR.mk (List.replicate n26 false) s50)] : List (LR Bool))).map LR.v = y15.may ++ ([(List.replicate n26 false)] : List (List Bool)) := map_app fm18 hm52
   refine Lst.append (i := 3) (α := LR Bool) (xs := rs17) (ys := ([(LR.mk (List.replicate n26 false) s50)] : List (LR Bool))) rfl rfl (by decide) rfl rfl Try.runUnderlying73 Try.typeInfo75 rfl rfl rfl rfl rfl rfl (rdo 1 rfl rfl rfl) rfl (by have := room_some h36; have := map_len fm18; have := map_len hm52; omega) rfl (fun s53 => ?_)
   refine Lst.its (L' := (.rows (α := Bool) 4 ([(LR.mk (List.replicate n26 false) s50)] : List (LR Bool))) :: (.own s51 75 1 (encs ([(LR.mk (List.replicate n26 false) s50)] : List (LR Bool)))) :: (.rows (α := Bool) 4 rs17) :: (.own s53 75 1 (encs (rs17 ++ ([(LR.mk (List.replicate n26 false) s50)] : List (LR Bool))))) :: (.blk b9 (enc (GraphR.mk ({ y15 with left := r3 } : Graph) s16 s5 s21)) 101) :: (.own s5 3 1 (encs r3)) :: (.own s1 3 1 (encs ([(-1 : Int)] : List Int))) :: L) rfl ?_
   refine Lst.front (i := 2) rfl (L' := (.rows (α := Bool) 4 rs17) :: (.rows (α := Bool) 4 ([(LR.mk (List.replicate n26 false) s50)] : List (LR Bool))) :: (.own s51 75 1 (encs ([(LR.mk (List.replicate n26 false) s50)] : List (LR Bool)))) :: (.own s53 75 1 (encs (rs17 ++ ([(LR.mk (List.replicate n26 false) s50)] : List (LR Bool))))) :: (.blk b9 (enc (GraphR.mk ({ y15 with left := r3 } : Graph) s16 s5 s21)) 101) :: (.own s5 3 1 (encs r3)) :: (.own s1 3 1 (encs ([(-1 : Int)] : List Int))) :: L) rfl ?_
   refine Lst.rowsApp ?_
   refine Lst.less (L' := (.rows (α := Bool) 4 (rs17 ++ ([(LR.mk (List.replicate n26 false) s50)] : List (LR Bool)))) :: (.own s53 75 1 (encs (rs17 ++ ([(LR.mk (List.replicate n26 false) s50)] : List (LR Bool))))) :: (.blk b9 (enc (GraphR.mk ({ y15 with left := r3 } : Graph) s16 s5 s21)) 101) :: (.own s5 3 1 (encs r3)) :: (.own s1 3 1 (encs ([(-1 : Int)] : List Int))) :: L) (List.Sublist.cons_cons _ (List.Sublist.cons _ (List.Sublist.cons_cons _ (List.Sublist.cons_cons _ (List.Sublist.cons_cons _ (List.Sublist.cons_cons _ (.refl _))))))) ?_
   refine Lst.its (L' := (.rows (α := Bool) 4 (rs17 ++ ([(LR.mk (List.replicate n26 false) s50)] : List (LR Bool)))) :: (.own s53 75 1 (encs (rs17 ++ ([(LR.mk (List.replicate n26 false) s50)] : List (LR Bool))))) :: (.blk b9 (enc (GraphR.mk ({ y15 with left := r3 } : Graph) s16 s5 s21)) 101) :: (.own s5 3 1 (encs r3)) :: (.own s1 3 1 (encs ([(-1 : Int)] : List Int))) :: L) rfl ?_
   refine hds inv (sc1 (sc1 (sk1 (sk1 (sk1 (.refl _)))))) ?_
   refine HdJ.done (by kernel_rfl) ?_
   exact At.meetN (s53, y15.may ++ ([(List.replicate n26 false)] : List (List Bool)), (rs17 ++ ([(LR.mk (List.replicate n26 false) s50)] : List (LR Bool))), ({ y15 with left := r3 } : Graph), s16) fl ⟨rfl, rfl, rfl, rfl, rfl, rfl, rfl, rfl, trivial⟩ rfl ⟨h48, hm54⟩
  refine HdStep.c (fun inv => ?_) trivial
  have g56 := mkLen_some h27
  refine Lst.make (α := Bool) (z0 := false) (k := n26) rfl rfl (by decide) (congrArg some (congrArg (Value.int .i64) g56.1)) (congrArg some (congrArg (Value.int .i64) g56.1)) Try.runUnderlying75 Try.typeInfo4 rfl rfl rfl rfl rfl g56.2 rfl (fun s57 => ?_)
  refine hds inv (sc1 (sc1 (sc1 (sk1 (sk1 (sk1 (.refl _))))))) ?_
  refine HdJ.step [4, 7] (by kernel_rfl) rfl ?_
  refine HdStep.c (fun inv => ?_) ?_
  ·refine Lst.r (Ev.load (i := 3) rfl rfl Try.isAgg73 (v := Sl.v s16) ((GraphR.get_may gh0).off (by rfl))) ?_
   refine hds inv (sc1 (sc1 (sc1 (sk1 (sk1 (sk1 (.refl _))))))) ?_
   refine HdJ.o1 7 (fun inv => ?_)
   have hm59 : ([(LR.mk (List.replicate n26 false) s57)] : List (LR Bool)).map LR.v = ([(List.replicate n26 false)] : List (List Bool)) := rfl
   refine Lst.buildSlice (α := LR Bool) (xs := ([(LR.mk (List.replicate n26 false) s57)] : List (LR Bool))) (pv := [(0, Sl.v s57)]) rfl rfl (by decide) ⟨rfl, rfl, trivial⟩ (run_buildSlice (α := LR Bool) (z0 := ((LR.mk [] Sl.nil) : LR Bool)) (xs := ([(LR.mk (List.replicate n26 false) s57)] : List (LR Bool))) Try.runUnderlying73 Try.sizeOf75 Try.zeroValue75 rfl rfl rfl (by decide) rfl (fill_cons (cs := encs (List.replicate 1 ((LR.mk [] Sl.nil) : LR Bool))) (cs' := encs ((List.replicate 1 ((LR.mk [] Sl.nil) : LR Bool)).set 0 (LR.mk (List.replicate n26 false) s57))) (vs := [Sl.v s57]) rfl rfl rfl ((Put.elemN (s := 1) (i := 0) (x := ((LR.mk [] Sl.nil) : LR Bool)) (y := (LR.mk (List.replicate n26 false) s57)) rfl rfl (Put.here (vs := [Sl.v s57]) rfl)).off rfl) fill_nil)) rfl rfl (by decide) (fun s58 _ => ?_)
   refine Lst.rowsNil Bool 4 0 ?_
   refine Lst.front (i := 2) rfl (L' := (.own s57 4 1 (encs (List.replicate n26 false))) :: (.rows (α := Bool) 4 (List.replicate 0 (⟨[], Sl.nil⟩ : LR Bool))) :: (.own s58 75 1 (encs ([(LR.mk (List.replicate n26 false) s57)] : List (LR Bool)))) :: (.rows (α := Bool) 4 rs17) :: (.own s16 75 1 (encs rs17)) :: (.blk b9 (enc (GraphR.mk ({ y15 with left := r3 } : Graph) s16 s5 s21)) 101) :: (.own s5 3 1 (encs r3)) :: (.own s1 3 1 (encs ([(-1 : Int)] : List Int))) :: L) rfl ?_
   refine Lst.rowEnd (α := Bool) (xs := (List.replicate n26 false)) (s := s57) rfl ?_
   refine Lst.its (L' := (.rows (α := Bool) 4 ([(LR.mk (List.replicate n26 false) s57)] : List (LR Bool))) :: (.own s58 75 1 (encs ([(LR.mk (List.replicate n26 false) s57)] : List (LR Bool)))) :: (.rows (α := Bool) 4 rs17) :: (.own s16 75 1 (encs rs17)) :: (.blk b9 (enc (GraphR.mk ({ y15 with left := r3 } : Graph) s16 s5 s21)) 101) :: (.own s5 3 1 (encs r3)) :: (.own s1 3 1 (encs ([(-1 : Int)] : List Int))) :: L) rfl ?_
   refine hds inv (sc1 (sc1 (sc1 (sc1 (sk1 (sk1 (sk1 (.refl _)))))))) ?_
   refine HdJ.o1 8 (fun inv => ?_)
   have hm61 : (rs17 ++ ([(LR.mk (List.replicate n26 false) s57)] : List (LR Bool))).map LR.v = y15.may ++ ([(List.replicate n26 false)] : List (List Bool)) := map_app fm18 hm59
   refine Lst.append (i := 3) (α := LR Bool) (xs := rs17) (ys := ([(LR.mk (List.replicate n26 false) s57)] : List (LR Bool))) rfl rfl (by decide) rfl rfl Try.runUnderlying73 Try.typeInfo75 rfl rfl rfl rfl rfl rfl (rdo 1 rfl rfl rfl) rfl (by have := room_some h36; have := map_len fm18; have := map_len hm59; omega) rfl (fun s60 => ?_)
   refine Lst.its (L' := (.rows (α := Bool) 4 ([(LR.mk (List.replicate n26 false) s57)] : List (LR Bool))) :: (.own s58 75 1 (encs ([(LR.mk (List.replicate n26 false) s57)] : List (LR Bool)))) :: (.rows (α := Bool) 4 rs17) :: (.own s60 75 1 (encs (rs17 ++ ([(LR.mk (List.replicate n26 false) s57)] : List (LR Bool))))) :: (.blk b9 (enc (GraphR.mk ({ y15 with left := r3 } : Graph) s16 s5 s21)) 101) :: (.own s5 3 1 (encs r3)) :: (.own s1 3 1 (encs ([(-1 : Int)] : List Int))) :: L) rfl ?_
   refine Lst.front (i := 2) rfl (L' := (.rows (α := Bool) 4 rs17) :: (.rows (α := Bool) 4 ([(LR.mk (List.replicate n26 false) s57)] : List (LR Bool))) :: (.own s58 75 1 (encs ([(LR.mk (List.replicate n26 false) s57)] : List (LR Bool)))) :: (.own s60 75 1 (encs (rs17 ++ ([(LR.mk (List.replicate n26 false) s57)] : List (LR Bool))))) :: (.blk b9 (enc (GraphR.mk ({ y15 with left := r3 } : Graph) s16 s5 s21)) 101) :: (.own s5 3 1 (encs r3)) :: (.own s1 3 1 (encs ([(-1 : Int)] : List Int))) :: L) rfl ?_
   refine Lst.rowsApp ?_
   refine Lst.less (L' := (.rows (α := Bool) 4 (rs17 ++ ([(LR.mk (List.replicate n26 false) s57)] : List (LR Bool)))) :: (.own s60 75 1 (encs (rs17 ++ ([(LR.mk (List.replicate n26 false) s57)] : List (LR Bool))))) :: (.blk b9 (enc (GraphR.mk ({ y15 with left := r3 } : Graph) s16 s5 s21)) 101) :: (.own s5 3 1 (encs r3)) :: (.own s1 3 1 (encs ([(-1 : Int)] : List Int))) :: L) (List.Sublist.cons_cons _ (List.Sublist.cons _ (List.Sublist.cons_cons _ (List.Sublist.cons_cons _ (List.Sublist.cons_cons _ (List.Sublist.cons_cons _ (.refl _))))))) ?_
   refine Lst.its (L' := (.rows (α := Bool) 4 (rs17 ++ ([(LR.mk (List.replicate n26 false) s57)] : List (LR Bool)))) :: (.own s60 75 1 (encs (rs17 ++ ([(LR.mk (List.replicate n26 false) s57)] : List (LR Bool))))) :: (.blk b9 (enc (GraphR.mk ({ y15 with left := r3 } : Graph) s16 s5 s21)) 101) :: (.own s5 3 1 (encs r3)) :: (.own s1 3 1 (encs ([(-1 : Int)] : List Int))) :: L) rfl ?_
   refine hds inv (sc1 (sc1 (sk1 (sk1 (sk1 (.refl _)))))) ?_
   refine HdJ.done (by kernel_rfl) ?_
   exact At.meetN (s60, y15.may ++ ([(List.replicate n26 false)] : List (List Bool)), (rs17 ++ ([(LR.mk (List.replicate n26 false) s57)] : List (LR Bool))), ({ y15 with left := r3 } : Graph), s16) fl ⟨rfl, rfl, rfl, rfl, rfl, rfl, rfl, rfl, trivial⟩ rfl ⟨h48, hm61⟩
  refine HdStep.c (fun inv => ?_) trivial
  have hm64 : ([(LR.mk (List.replicate n26 false) s57)] : List (LR Bool)).map LR.v = ([(List.replicate n26 false)] : List (List Bool)) := rfl
  refine Lst.buildSlice (α := LR Bool) (xs := ([(LR.mk (List.replicate n26 false) s57)] : List (LR Bool))) (pv := [(0, Sl.v s57)]) rfl rfl (by decide) ⟨rfl, rfl, trivial⟩ (run_buildSlice (α := LR Bool) (z0 := ((LR.mk [] Sl.nil) : LR Bool)) (xs := ([(LR.mk (List.replicate n26 false) s57)] : List (LR Bool))) Try.runUnderlying73 Try.sizeOf75 Try.zeroValue75 rfl rfl rfl (by decide) rfl (fill_cons (cs := encs (List.replicate 1 ((LR.mk [] Sl.nil) : LR Bool))) (cs' := encs ((List.replicate 1 ((LR.mk [] Sl.nil) : LR Bool)).set 0 (LR.mk (List.replicate n26 false) s57))) (vs := [Sl.v s57]) rfl rfl rfl ((Put.elemN (s := 1) (i := 0) (x := ((LR.mk [] Sl.nil) : LR Bool)) (y := (LR.mk (List.replicate n26 false) s57)) rfl rfl (Put.here (vs := [Sl.v s57]) rfl)).off rfl) fill_nil)) rfl rfl (by decide) (fun s63 _ => ?_)
  refine Lst.rowsNil Bool 4 0 ?_
  refine Lst.front (i := 2) rfl (L' := (.own s57 4 1 (encs (List.replicate n26 false))) :: (.rows (α := Bool) 4 (List.replicate 0 (⟨[], Sl.nil⟩ : LR Bool))) :: (.own s63 75 1 (encs ([(LR.mk (List.replicate n26 false) s57)] : List (LR Bool)))) :: (.rows (α := Bool) 4 rs17) :: (.own s16 75 1 (encs rs17)) :: (.blk b9 (enc (GraphR.mk ({ y15 with left := r3 } : Graph) s16 s5 s21)) 101) :: (.own s5 3 1 (encs r3)) :: (.own s1 3 1 (encs ([(-1 : Int)] : List Int))) :: L) rfl ?_
  refine Lst.rowEnd (α := Bool) (xs := (List.replicate n26 false)) (s := s57) rfl ?_
  refine Lst.its (L' := (.rows (α := Bool) 4 ([(LR.mk (List.replicate n26 false) s57)] : List (LR Bool))) :: (.own s63 75 1 (encs ([(LR.mk (List.replicate n26 false) s57)] : List (LR Bool)))) :: (.rows (α := Bool) 4 rs17) :: (.own s16 75 1 (encs rs17)) :: (.blk b9 (enc (GraphR.mk ({ y15 with left := r3 } : Graph) s16 s5 s21)) 101) :: (.own s5 3 1 (encs r3)) :: (.own s1 3 1 (encs ([(-1 : Int)] : List Int))) :: L) rfl ?_
  refine hds inv (sc1 (sc1 (sc1 (sc1 (sk1 (sk1 (sk1 (.refl _)))))))) ?_
  refine HdJ.o1 4 (fun inv => ?_)
  refine Lst.r (Ev.load (i := 4) rfl rfl Try.isAgg73 (v := Sl.v s16) ((GraphR.get_may gh0).off (by rfl))) ?_
  refine hds inv (sc1 (sc1 (sc1 (sc1 (sk1 (sk1 (sk1 (.refl _)))))))) ?_
  refine HdJ.o1 8 (fun inv => ?_)
  have hm66 : (rs17 ++ ([(LR.mk (List.replicate n26 false) s57)] : List (LR Bool))).map LR.v = y15.may ++ ([(List.replicate n26 false)] : List (List Bool)) := map_app fm18 hm64
  refine Lst.append (i := 3) (α := LR Bool) (xs := rs17) (ys := ([(LR.mk (List.replicate n26 false) s57)] : List (LR Bool))) rfl rfl (by decide) rfl rfl Try.runUnderlying73 Try.typeInfo75 rfl rfl rfl rfl rfl rfl (rdo 1 rfl rfl rfl) rfl (by have := room_some h36; have := map_len fm18; have := map_len hm64; omega) rfl (fun s65 => ?_)
  refine Lst.its (L' := (.rows (α := Bool) 4 ([(LR.mk (List.replicate n26 false) s57)] : List (LR Bool))) :: (.own s63 75 1 (encs ([(LR.mk (List.replicate n26 false) s57)] : List (LR Bool)))) :: (.rows (α := Bool) 4 rs17) :: (.own s65 75 1 (encs (rs17 ++ ([(LR.mk (List.replicate n26 false) s57)] : List (LR Bool))))) :: (.blk b9 (enc (GraphR.mk ({ y15 with left := r3 } : Graph) s16 s5 s21)) 101) :: (.own s5 3 1 (encs r3)) :: (.own s1 3 1 (encs ([(-1 : Int)] : List Int))) :: L) rfl ?_
  refine Lst.front (i := 2) rfl (L' := (.rows (α := Bool) 4 rs17) :: (.rows (α := Bool) 4 ([(LR.mk (List.replicate n26 false) s57)] : List (LR Bool))) :: (.own s63 75 1 (encs ([(LR.mk (List.replicate n26 false) s57)] : List (LR Bool)))) :: (.own s65 75 1 (encs (rs17 ++ ([(LR.mk (List.replicate n26 false) s57)] : List (LR Bool))))) :: (.blk b9 (enc (GraphR.mk ({ y15 with left := r3 } : Graph) s16 s5 s21)) 101) :: (.own s5 3 1 (encs r3)) :: (.own s1 3 1 (encs ([(-1 : Int)] : List Int))) :: L) rfl ?_
  refine Lst.rowsApp ?_
  refine Lst.less (L' := (.rows (α := Bool) 4 (rs17 ++ ([(LR.mk (List.replicate n26 false) s57)] : List (LR Bool)))) :: (.own s65 75 1 (encs (rs17 ++ ([(LR.mk (List.replicate n26 false) s57)] : List (LR Bool))))) :: (.blk b9 (enc (GraphR.mk ({ y15 with left := r3 } : Graph) s16 s5 s21)) 101) :: (.own s5 3 1 (encs r3)) :: (.own s1 3 1 (encs ([(-1 : Int)] : List Int))) :: L) (List.Sublist.cons_cons _ (List.Sublist.cons _ (List.Sublist.cons_cons _ (List.Sublist.cons_cons _ (List.Sublist.cons_cons _ (List.Sublist.cons_cons _ (.refl _))))))) ?_
  refine Lst.its (L' := (.rows (α := Bool) 4 (rs17 ++ ([(LR.mk (List.replicate n26 false) s57)] : List (LR Bool)))) :: (.own s65 75 1 (encs (rs17 ++ ([(LR.mk (List.replicate n26 false) s57)] : List (LR Bool))))) :: (.blk b9 (enc (GraphR.mk ({ y15 with left := r3 } : Graph) s16 s5 s21)) 101) :: (.own s5 3 1 (encs r3)) :: (.own s1 3 1 (encs ([(-1 : Int)] : List Int))) :: L) rfl ?_
  refine hds inv (sc1 (sc1 (sk1 (sk1 (sk1 (.refl _)))))) ?_
  refine HdJ.done (by kernel_rfl) ?_
  exact At.meetN (s65, y15.may ++ ([(List.replicate n26 false)] : List (List Bool)), (rs17 ++ ([(LR.mk (List.replicate n26 false) s57)] : List (LR Bool))), ({ y15 with left := r3 } : Graph), s16) fl ⟨rfl, rfl, rfl, rfl, rfl, rfl, rfl, rfl, trivial⟩ rfl ⟨h48, hm66⟩
 rintro F68 ⟨s41, l42, rs43, y45, s46⟩ hF69 ⟨hy, fm44⟩
 subst hy
 try dsimp only at H
 refine Lst.as (e' := [(0, iv a0), (1, iv a1), (2, Sl.v s_a2), (7, pv b9 0), (16, iv a0), (17, iv (i11 : Int)), (19, pv b9 0), (27, Sl.v s41)]) (L' := (.rows (α := Bool) 4 rs43) :: (.own s41 75 1 (encs rs43)) :: (.blk b9 (enc (GraphR.mk ({ y45 with left := r3, seen := y15.seen } : Graph) s46 s5 s21)) 101) :: (.own s5 3 1 (encs r3)) :: (.own s1 3 1 (encs ([(-1 : Int)] : List Int))) :: L) ⟨rfl, rfl, rfl, rfl, rfl, rfl, rfl, rfl, trivial⟩ rfl ?_
 refine Lst.r (Ev.nilCheck rfl) ?_
 refine Lst.r (Ev.fieldAddr (off' := 0) rfl Try.runUnderlying101 rfl Try.sizeOf73 rfl rfl) ?_
 refine Lst.store (i := 2) rfl rfl rfl rfl rfl Try.sizeOf73 (vs := [Sl.v s41]) rfl rfl rfl (cs' := enc (GraphR.mk ({ y45 with may := l42, left := r3, seen := y15.seen } : Graph) s41 s5 s21)) ((GraphR.put_may (Put.here (vs := [Sl.v s41]) rfl)).off (by rfl)) (L' := (.rows (α := Bool) 4 rs43) :: (.own s41 75 1 (encs rs43)) :: (.blk b9 (enc (GraphR.mk ({ y45 with may := l42, left := r3, seen := y15.seen } : Graph) s41 s5 s21)) 101) :: (.own s5 3 1 (encs r3)) :: (.own s1 3 1 (encs ([(-1 : Int)] : List Int))) :: L) rfl ?_
 refine Lst.nil ?_
 refine At.in_normal ?_
 refine At.then ?_
 refine Cd.region ?_
 refine Lst.r (Ev.incr (by omega) rfl rfl) ?_
 refine mv0 rfl ?_
 refine Lst.nil ?_
 exact At.meet (i11 + 1, k11, ({ y45 with may := l42, left := r3, seen := y15.seen } : Graph), s41, rs43, s21) (FLe.trans hF24 hF69) ⟨rfl, rfl, rfl, rfl, rfl, rfl, trivial⟩ rfl ⟨⟨hgo11 _ (some_inj H).symm, by omega, fm44, (f22.mono hF69 (.refl _))⟩, Nat.lt_succ_self _⟩
set_option maxRecDepth 20000 in
theorem slices_Index_int_int_sim {a0 : List Int} {a1 : Int} {s_a0 : Sl} {r : Int} (H : slices_Index_int_int a0 a1 = some r) (w0 : World) (F : Frz) (M L : List Item) (hM : M.Sublist L) (hs_a0 : Rd w0 F M s_a0 a0) : Ok Try.prog w0 60 [Sl.v s_a0, iv a1] F (L) (Is (iv r) (L)) := by
 unfold slices_Index_int_int at H
 refine Ok.enter (m := 2) (n := 19) Try.func60 rfl rfl rfl (by decide) ?_
 refine Cd.env (e' := [(0, Sl.v s_a0), (1, iv a1)]) rfl ?_
 refine sr0 ?_
 refine Lst.r (Ev.assign rfl) ?_
 refine nt0 ?_
 refine Cd.seq ?_
 refine sr0 ?_
 refine mv0 rfl ?_
 refine Lst.r (Ev.lenS (α := Int) (xs := a0) (by decide) rfl rfl Try.runUnderlying34 (hs_a0.mono fl hM)) ?_
 refine mv0 rfl ?_
 refine nt0 ?_
 refine Cd.block ?_
 refine Cd.bound (Rd.le (α := Int) (xs := a0) (by decide) (hs_a0.mono fl hM)) (fun hN8 => ?_)
 obtain ⟨ol1, H, HKl1⟩ := andThen_some H
 refine Cd.loop (σ := Nat × Nat × Unit) (fun (i1, k1, _u) => [(0, Sl.v s_a0), (1, iv a1), (7, iv (a0.length : Int)), (8, iv (i1 : Int))]) (fun (i1, k1, _u) => L) (fun _ => (fun (i1, k1, _u) => rangeM (slices_Index_int_int_B0 a0 a1) k1 i1 () = some ol1 ∧ i1 + k1 = a0.length)) (fun (i1, k1, _u) => k1) (0, a0.length, ()) ⟨rfl, rfl, rfl, rfl, trivial⟩ rfl ⟨H, by omega⟩ ?_
 rintro F2 ⟨i1, k1, _u⟩ hF3 ⟨H, hik1⟩
 refine Cd.as (e' := [(0, Sl.v s_a0), (1, iv a1), (7, iv (a0.length : Int)), (8, iv (i1 : Int))]) (L' := L) ⟨rfl, rfl, rfl, rfl, trivial⟩ rfl ?_
 rcases k1 with _ | k1
 ·have hc1 : decide ((i1 : Int) < (a0.length : Int)) = false := decide_eq_false (by omega)
  replace H := rangeM_end H
  refine sr0 ?_
  refine Lst.r (Ev.lss rfl rfl) ?_
  refine nt0 ?_
  refine Cd.seq ?_
  refine Cd.condF rfl hc1 ?_
  refine Cd.exit ?_
  refine At.then_exit ?_
  refine At.then_exit ?_
  refine At.in_exit ?_
  subst H
  replace H := HKl1
  refine At.then ?_
  refine sr0 ?_
  refine Lst.r (Ev.assign rfl) ?_
  refine nt0 ?_
  obtain rfl := some_inj H
  refine Cd.ret ?_
  exact At.ret1 rfl (Res.tmp rfl) hF3 (.refl _) ⟨rfl, rfl⟩
 have hc1 : decide ((i1 : Int) < (a0.length : Int)) = true := decide_eq_true (by omega)
 obtain ⟨c1, H, hgo1, hbrk1, hret1⟩ := rangeM_go H
 unfold slices_Index_int_int_B0 at H
 try dsimp only at H
 refine sr0 ?_
 refine Lst.r (Ev.lss rfl rfl) ?_
 refine nt0 ?_
 refine Cd.seq ?_
 refine Cd.condT rfl hc1 ?_
 refine Cd.skip ?_
 refine At.then ?_
 refine Cd.seq ?_
 refine Cd.block ?_
 refine sr0 ?_
 refine mv0 rfl ?_
 refine Lst.r (Ev.assign rfl) ?_
 refine nsr ?_
 refine mv0 rfl ?_
 refine mv0 rfl ?_
 refine mv0 rfl ?_
 obtain ⟨x4, h5, H⟩ := bind_some H
 have g6 := lat_some h5
 refine Lst.r (Ev.indexS (α := Int) (xs := a0) rfl rfl Try.runUnderlying34 Try.sizeOf3 rfl (by decide) (hs_a0.mono hF3 hM) g6.1 g6.2.1) ?_
 refine Lst.r (Ev.loadS (α := Int) rfl (hs_a0.mono hF3 hM) Try.isAgg3 (v := iv x4) ((Get.elemN (s := 1) (x := x4) rfl g6.2.2 gh0).off (by omega))) ?_
 refine Lst.r (Ev.eql rfl rfl) ?_
 refine nt0 ?_
 rcases Bool.eq_false_or_eq_true (a1 == x4) with hb7 | hb7
 ·replace H := ite_t hb7 H
  refine Cd.condT rfl hb7 ?_
  refine sr0 ?_
  refine mv0 rfl ?_
  refine Lst.r (Ev.assign rfl) ?_
  refine nt0 ?_
  have H := hret1 _ (some_inj H).symm
  subst H
  replace H := HKl1
  obtain rfl := some_inj H
  refine Cd.ret ?_
  refine At.in_ret ?_
  refine At.then_ret ?_
  refine At.then_ret ?_
  refine At.in_ret ?_
  refine At.then_ret ?_
  exact At.ret1 rfl (Res.tmp rfl) hF3 (.refl _) ⟨rfl, rfl⟩
 replace H := ite_f hb7 H
 refine Cd.condF rfl hb7 ?_
 refine Cd.skip ?_
 refine At.in_normal ?_
 refine At.then ?_
 refine Cd.region ?_
 refine Lst.r (Ev.incr (by omega) rfl rfl) ?_
 refine mv0 rfl ?_
 refine Lst.nil ?_
 exact At.meet (i1 + 1, k1, ()) hF3 ⟨rfl, rfl, rfl, rfl, trivial⟩ rfl ⟨⟨hgo1 _ (some_inj H).symm, by omega⟩, Nat.lt_succ_self _⟩
set_option maxRecDepth 20000 in
theorem match_Most_sim {fu : Nat} {a0 : Int} {a1 : Int} {a2 : List Pair} {s_a2 : Sl} {r : (List Pair) × Int} (H : match_Most fu a0 a1 a2 = some r) (w0 : World) (F : Frz) (M L : List Item) (hM : M.Sublist L) (hs_a2 : Rd w0 F M s_a2 a2) : Ok Try.prog w0 35 [iv a0, iv a1, Sl.v s_a2] F (L) (fun _ L' v => ∃ (s1 : Sl), v = .tuple #[Sl.v s1, iv r.2] ∧ L' = (.own s1 49 2 (encs r.1)) :: L) := by
 unfold match_Most at H
 refine Ok.enter (m := 3) (n := 44) Try.func35 rfl rfl rfl (by decide) ?_
 refine Cd.env (e' := [(0, iv a0), (1, iv a1), (2, Sl.v s_a2)]) rfl ?_
 refine sr0 ?_
 refine Lst.addNil 49 2 ?_
 refine Lst.r (Ev.assign rfl) ?_
 refine Lst.r (Ev.assign rfl) ?_
 refine nt0 ?_
 refine Cd.seq ?_
 refine sr0 ?_
 refine mv0 rfl ?_
 refine mv0 rfl ?_
 refine mv0 rfl ?_
 obtain ⟨r2, h3, H⟩ := bind_some H
 refine Lst.call1 rfl rfl (by decide) (vs := [iv a0, iv a1, Sl.v s_a2]) ⟨rfl, rfl, rfl, trivial⟩ Try.call37 (match_Check_sim h3 w0 _ M _ (sc1 hM) (hs_a2.mono fl (.refl _))) ?_
 refine Lst.r (Ev.assign rfl) ?_
 refine nsr ?_
 refine mv0 rfl ?_
 refine Lst.r (Ev.neq rfl rfl) ?_
 refine nt0 ?_
 rcases Bool.eq_false_or_eq_true (r2 != (0 : Int)) with hb6 | hb6
 ·replace H := ite_t hb6 H
  refine Cd.condT rfl hb6 ?_
  refine sr0 ?_
  refine mv0 rfl ?_
  refine Lst.addNil 49 2 ?_
  refine Lst.r (Ev.assign rfl) ?_
  refine Lst.r (Ev.assign rfl) ?_
  refine nt0 ?_
  obtain rfl := some_inj H
  refine Cd.ret ?_
  refine At.then_ret ?_
  exact At.ret2 rfl (Res.tmp rfl) (Res.tmp rfl) fl (sk1 (sc1 (.refl _))) ⟨Sl.nil, rfl, rfl⟩
 replace H := ite_f hb6 H
 refine Cd.condF rfl hb6 ?_
 refine Cd.skip ?_
 refine At.then ?_
 refine sr0 ?_
 refine mv0 rfl ?_
 refine mv0 rfl ?_
 refine mv0 rfl ?_
 obtain ⟨r8, h9, H⟩ := bind_some H
 refine Lst.call rfl rfl (by decide) (vs := [iv a0, iv a1, Sl.v s_a2]) ⟨rfl, rfl, rfl, trivial⟩ Try.call59 (match_most_sim h9 w0 _ M _ (sc1 hM) (hs_a2.mono fl (.refl _))) (fun F21 L' v hF22 hv => ?_)
 obtain ⟨b10, s11, rs12, s16, s18, rfl, rfl, fm13, f19⟩ := hv
 refine Lst.r (Ev.assign rfl) ?_
 refine nt0 ?_
 refine Cd.seq ?_
 refine Cd.as (e' := [(0, iv a0), (9, pv b10 0)]) (L' := (.rows (α := Bool) 4 rs12) :: (.own s11 75 1 (encs rs12)) :: (.own s16 3 1 (encs r8.left)) :: (.blk b10 (enc (GraphR.mk r8 s11 s16 s18)) 101) :: (.own Sl.nil 49 2 (encs ([] : List Pair))) :: L) ⟨rfl, rfl, trivial⟩ rfl ?_
 refine Cd.region ?_
 refine Lst.addNil 49 2 ?_
 refine Lst.r (Ev.assign rfl) ?_
 refine nt0 ?_
 refine Cd.seq ?_
 refine sr0 ?_
 refine mv0 rfl ?_
 refine mv0 rfl ?_
 refine nt0 ?_
 refine Cd.block ?_
 obtain ⟨nn29, hN40, H⟩ := bind_some H
 replace hN40 := upTo_some hN40
 obtain ⟨ol24, H, HKl24⟩ := bind_some H
 refine Cd.loop (σ := Nat × Nat × Sl × (List Pair)) (fun (i24, k24, s25, l26) => [(9, pv b10 0), (10, Sl.v s25), (24, iv a0), (25, iv (i24 : Int))]) (fun (i24, k24, s25, l26) => (.own s25 49 2 (encs l26)) :: (.rows (α := Bool) 4 rs12) :: (.own s11 75 1 (encs rs12)) :: (.own s16 3 1 (encs r8.left)) :: (.blk b10 (enc (GraphR.mk r8 s11 s16 s18)) 101) :: (.own Sl.nil 49 2 (encs ([] : List Pair))) :: L) (fun _ => (fun (i24, k24, s25, l26) => rangeF (match_Most_B0 r8) k24 i24 l26 = some ol24 ∧ i24 + k24 = nn29)) (fun (i24, k24, s25, l26) => k24) (0, nn29, Sl.nil, ([] : List Pair)) ⟨rfl, rfl, rfl, rfl, trivial⟩ rfl ⟨H, by omega⟩ ?_
 rintro F27 ⟨i24, k24, s25, l26⟩ hF28 ⟨H, hik24⟩
 refine Cd.as (e' := [(9, pv b10 0), (10, Sl.v s25), (24, iv a0), (25, iv (i24 : Int))]) (L' := (.own s25 49 2 (encs l26)) :: (.rows (α := Bool) 4 rs12) :: (.own s11 75 1 (encs rs12)) :: (.own s16 3 1 (encs r8.left)) :: (.blk b10 (enc (GraphR.mk r8 s11 s16 s18)) 101) :: (.own Sl.nil 49 2 (encs ([] : List Pair))) :: L) ⟨rfl, rfl, rfl, rfl, trivial⟩ rfl ?_
 rcases k24 with _ | k24
 ·have hc24 : decide ((i24 : Int) < a0) = false := decide_eq_false (by omega)
  replace H := rangeF_end H
  refine sr0 ?_
  refine Lst.r (Ev.lss rfl rfl) ?_
  refine nt0 ?_
  refine Cd.seq ?_
  refine Cd.condF rfl hc24 ?_
  refine Cd.exit ?_
  refine At.then_exit ?_
  refine At.then_exit ?_
  refine At.in_exit ?_
  subst H
  replace H := HKl24
  refine At.then ?_
  refine sr0 ?_
  refine mv0 rfl ?_
  refine Lst.r (Ev.assign rfl) ?_
  refine Lst.r (Ev.assign rfl) ?_
  refine nt0 ?_
  obtain rfl := some_inj H
  refine Cd.ret ?_
  exact At.ret2 rfl (Res.tmp rfl) (Res.tmp rfl) (FLe.trans hF22 hF28) (sk1 (sc1 (sc1 (sc1 (sc1 (sc1 (.refl _))))))) ⟨s25, rfl, rfl⟩
 have hc24 : decide ((i24 : Int) < a0) = true := decide_eq_true (by omega)
 obtain ⟨c24, H, hgo24⟩ := rangeF_go H
 unfold match_Most_B0 at H
 try dsimp only at H
 refine sr0 ?_
 refine Lst.r (Ev.lss rfl rfl) ?_
 refine nt0 ?_
 refine Cd.seq ?_
 refine Cd.condT rfl hc24 ?_
 refine Cd.skip ?_
 refine At.then ?_
 refine Cd.seq ?_
 refine Cd.block ?_
 refine sr0 ?_
 refine mv0 rfl ?_
 refine Lst.r (Ev.assign rfl) ?_
 refine nsr ?_
 refine mv0 rfl ?_
 refine Lst.r (Ev.nilCheck rfl) ?_
 refine Lst.r (Ev.fieldAddr (off' := 1) rfl Try.runUnderlying101 rfl Try.sizeOf34 rfl rfl) ?_
 refine Lst.r (Ev.load (i := 4) rfl rfl Try.isAgg34 (v := Sl.v s16) ((GraphR.get_left gh0).off (by rfl))) ?_
 refine mv0 rfl ?_
 obtain ⟨r30, h31, H⟩ := bind_some H
 refine Lst.call1 rfl rfl (by decide) (vs := [Sl.v s16, iv (i24 : Int)]) ⟨rfl, rfl, trivial⟩ Try.call60 (slices_Index_int_int_sim h31 w0 _ _ _ (.refl _) (rdo 3 rfl rfl rfl)) ?_
 refine Lst.r (Ev.assign rfl) ?_
 refine nsr ?_
 refine mv0 rfl ?_
 refine Lst.r (Ev.geq rfl rfl) ?_
 refine nt0 ?_
 rcases (Bool.eq_false_or_eq_true (decide (r30 ≥ (0 : Int)))).symm with hb34 | hb34
 ·replace H := ite_f hb34 H
  refine Cd.condF rfl hb34 ?_
  refine Cd.skip ?_
  refine At.in_normal ?_
  refine At.then ?_
  refine Cd.region ?_
  refine Lst.r (Ev.incr (by omega) rfl rfl) ?_
  refine mv0 rfl ?_
  refine Lst.nil ?_
  exact At.meet (i24 + 1, k24, s25, l26) hF28 ⟨rfl, rfl, rfl, rfl, trivial⟩ rfl ⟨⟨hgo24 _ (some_inj H).symm, by omega⟩, Nat.lt_succ_self _⟩
 replace H := ite_t hb34 H
 refine Cd.condT rfl hb34 ?_
 refine Cd.region ?_
 refine mv0 rfl ?_
 refine mv0 rfl ?_
 refine mv0 rfl ?_
 refine Lst.r (Ev.build (v := .agg (enc ({ Pair.zero with A := (i24 : Int), B := r30 } : Pair)).toArray) (pv := [(0, iv (i24 : Int)), (1, iv r30)]) ⟨rfl, rfl, ⟨rfl, rfl, trivial⟩⟩ (fun w => by kernel_rfl)) ?_
 refine Lst.buildSlice (α := Pair) (xs := ([({ Pair.zero with A := (i24 : Int), B := r30 } : Pair)] : List Pair)) (pv := [(0, .agg (enc ({ Pair.zero with A := (i24 : Int), B := r30 } : Pair)).toArray)]) rfl rfl (by decide) ⟨rfl, rfl, trivial⟩ (run_buildSlice (α := Pair) (z0 := Pair.zero) (xs := ([({ Pair.zero with A := (i24 : Int), B := r30 } : Pair)] : List Pair)) Try.runUnderlying22 Try.sizeOf49 Try.zeroValue49 rfl rfl rfl (by decide) rfl (fill_cons (cs := encs (List.replicate 1 Pair.zero)) (cs' := encs ((List.replicate 1 Pair.zero).set 0 ({ Pair.zero with A := (i24 : Int), B := r30 } : Pair))) (vs := enc ({ Pair.zero with A := (i24 : Int), B := r30 } : Pair)) rfl rfl (Enc.len _) ((Put.elemN (s := 2) (i := 0) (x := Pair.zero) (y := ({ Pair.zero with A := (i24 : Int), B := r30 } : Pair)) rfl rfl (Put.here ((Enc.len _).trans (Enc.len _).symm))).off rfl) fill_nil)) rfl rfl (by decide) (fun s35 _ => ?_)
 obtain ⟨u37, h38, H⟩ := bind_some H
 refine Lst.append (i := 1) (α := Pair) (xs := l26) (ys := ([({ Pair.zero with A := (i24 : Int), B := r30 } : Pair)] : List Pair)) rfl rfl (by decide) rfl rfl Try.runUnderlying22 Try.typeInfo49 rfl rfl rfl rfl rfl rfl (rdo 0 rfl rfl rfl) rfl (room_some h38) rfl (fun s39 => ?_)
 refine Lst.its (L' := (.own s35 49 2 (encs ([({ Pair.zero with A := (i24 : Int), B := r30 } : Pair)] : List Pair))) :: (.own s39 49 2 (encs (l26 ++ ([({ Pair.zero with A := (i24 : Int), B := r30 } : Pair)] : List Pair)))) :: (.rows (α := Bool) 4 rs12) :: (.own s11 75 1 (encs rs12)) :: (.own s16 3 1 (encs r8.left)) :: (.blk b10 (enc (GraphR.mk r8 s11 s16 s18)) 101) :: (.own Sl.nil 49 2 (encs ([] : List Pair))) :: L) rfl ?_
 refine Lst.r (Ev.assign rfl) ?_
 refine Lst.nil ?_
 refine At.in_normal ?_
 refine At.then ?_
 refine Cd.as (e' := [(9, pv b10 0), (24, iv a0), (25, iv (i24 : Int)), (10, Sl.v s39)]) (L' := (.own s35 49 2 (encs ([({ Pair.zero with A := (i24 : Int), B := r30 } : Pair)] : List Pair))) :: (.own s39 49 2 (encs (l26 ++ ([({ Pair.zero with A := (i24 : Int), B := r30 } : Pair)] : List Pair)))) :: (.rows (α := Bool) 4 rs12) :: (.own s11 75 1 (encs rs12)) :: (.own s16 3 1 (encs r8.left)) :: (.blk b10 (enc (GraphR.mk r8 s11 s16 s18)) 101) :: (.own Sl.nil 49 2 (encs ([] : List Pair))) :: L) ⟨rfl, rfl, rfl, rfl, trivial⟩ rfl ?_
 refine Cd.region ?_
 refine Lst.r (Ev.incr (by omega) rfl rfl) ?_
 refine mv0 rfl ?_
 refine Lst.nil ?_
 refine At.less (L' := (.own s39 49 2 (encs (l26 ++ ([({ Pair.zero with A := (i24 : Int), B := r30 } : Pair)] : List Pair)))) :: (.rows (α := Bool) 4 rs12) :: (.own s11 75 1 (encs rs12)) :: (.own s16 3 1 (encs r8.left)) :: (.blk b10 (enc (GraphR.mk r8 s11 s16 s18)) 101) :: (.own Sl.nil 49 2 (encs ([] : List Pair))) :: L) (sc1 (sk1 (sk1 (sk1 (sk1 (sk1 (sk1 (.refl _)))))))) ?_
 exact At.meet (i24 + 1, k24, s39, l26 ++ ([({ Pair.zero with A := (i24 : Int), B := r30 } : Pair)] : List Pair)) hF28 ⟨rfl, rfl, rfl, rfl, trivial⟩ rfl ⟨⟨hgo24 _ (some_inj H).symm, by omega⟩, Nat.lt_succ_self _⟩
set_option maxRecDepth 20000 in
theorem slices_Repeat_bool_bool_sim {fu : Nat} {a0 : List Bool} {a1 : Int} {s_a0 : Sl} {r : (List Bool)} (H : slices_Repeat_bool_bool fu a0 a1 = some r) (w0 : World) (F : Frz) (M L : List Item) (hM : M.Sublist L) (hs_a0 : Rd w0 F M s_a0 a0) : Ok Try.prog w0 69 [Sl.v s_a0, iv a1] F (L) (fun _ L' v => ∃ (s1 : Sl), v = Sl.v s1 ∧ L' = (.own s1 4 1 (encs r)) :: L) := by
 unfold slices_Repeat_bool_bool at H
 refine Ok.enter (m := 2) (n := 48) Try.func69 rfl rfl rfl (by decide) ?_
 refine Cd.env (e' := [(0, Sl.v s_a0), (1, iv a1)]) rfl ?_
 refine sr0 ?_
 refine Lst.addNil 4 1 ?_
 refine Lst.r (Ev.assign rfl) ?_
 refine nt0 ?_
 refine Cd.seq ?_
 refine sr0 ?_
 refine mv0 rfl ?_
 refine Lst.r (Ev.lss rfl rfl) ?_
 refine nt0 ?_
 rcases Bool.eq_false_or_eq_true (decide (a1 < (0 : Int))) with hb2 | hb2
 ·replace H := ite_t hb2 H
  cases H
 replace H := ite_f hb2 H
 refine Cd.condF rfl hb2 ?_
 refine Cd.skip ?_
 refine At.then ?_
 refine sr0 ?_
 refine mv0 rfl ?_
 refine Lst.r (Ev.lenS (α := Bool) (xs := a0) (by decide) rfl rfl Try.runUnderlying75 (hs_a0.mono fl (sc1 hM))) ?_
 refine Lst.r (Ev.convTo64 rfl Try.runUnderlying3 Try.runUnderlying84) ?_
 refine mv0 rfl ?_
 refine Lst.r (Ev.convTo64 rfl Try.runUnderlying3 Try.runUnderlying84) ?_
 obtain ⟨r3, h4, H⟩ := bind_some H
 refine Lst.call1 rfl rfl (by decide) (vs := [.int .u64 (BitVec.ofInt 64 (a0.length : Int)).toNat, .int .u64 (BitVec.ofInt 64 a1).toNat]) ⟨rfl, rfl, trivial⟩ Try.call80 (math_bits_Mul_sim h4 w0 _ M _ (sc1 hM)) ?_
 refine mv0 rfl ?_
 refine Lst.r (Ev.extract rfl rfl) ?_
 refine Lst.r (Ev.extract rfl rfl) ?_
 refine Lst.r (Ev.assign rfl) ?_
 refine Lst.r (Ev.assign rfl) ?_
 refine nt0 ?_
 refine Cd.seq ?_
 refine sr0 ?_
 refine mv0 rfl ?_
 refine Lst.r (Ev.gtr rfl rfl) ?_
 refine mv0 rfl ?_
 obtain ⟨o7, H, HKo7⟩ := bind_some H
 refine Lst.join (σ := Bool) 3 (fun y8 => [(0, Sl.v s_a0), (6, .int .u64 r3.2.toNat), (26, .bool y8)]) (fun y8 => (.own Sl.nil 4 1 (encs ([] : List Bool))) :: L) (fun _ y8 => y8 = o7) ?_ ?_
 ·rcases Bool.eq_false_or_eq_true (decide ((r3.1.toNat : Int) > ((0 : BitVec 64).toNat : Int))) with hb9 | hb9
  ·replace H := ite_t hb9 H
   refine Lst.skip rfl rfl rfl hb9 rfl (by decide) ?_
   refine Lst.skip rfl rfl rfl hb9 rfl (by decide) ?_
   refine Lst.r (Ev.pickT rfl hb9 rfl) ?_
   refine Lst.nil ?_
   exact At.meet true fl ⟨rfl, rfl, rfl, trivial⟩ rfl (some_inj H)
  replace H := ite_f hb9 H
  refine Lst.rG hb9 (Ev.move rfl) ?_
  refine Lst.rG hb9 (Ev.gtr rfl rfl) ?_
  refine Lst.r (Ev.pickF rfl hb9 rfl) ?_
  refine Lst.nil ?_
  exact At.meet (decide ((r3.2.toNat : Int) > ((9223372036854775807 : BitVec 64).toNat : Int))) fl ⟨rfl, rfl, rfl, trivial⟩ rfl (some_inj H)
 rintro F10 y8 hF11 hy
 subst hy
 refine Lst.as (e' := [(0, Sl.v s_a0), (6, .int .u64 r3.2.toNat), (26, .bool y8)]) (L' := (.own Sl.nil 4 1 (encs ([] : List Bool))) :: L) ⟨rfl, rfl, rfl, trivial⟩ rfl ?_
 replace H := HKo7
 refine nt0 ?_
 rcases Bool.eq_false_or_eq_true y8 with hb12 | hb12
 ·replace H := ite_t hb12 H
  cases H
 replace H := ite_f hb12 H
 refine Cd.condF rfl hb12 ?_
 refine Cd.skip ?_
 refine At.then ?_
 refine sr0 ?_
 refine mv0 rfl ?_
 refine Lst.r (Ev.conv64 rfl Try.runUnderlying84 Try.runUnderlying3) ?_
 obtain ⟨n13, h14, H⟩ := bind_some H
 have g15 := mkLen_some h14
 refine Lst.make (α := Bool) (z0 := false) (k := n13) rfl rfl (by decide) (congrArg some (congrArg (Value.int .i64) g15.1)) (congrArg some (congrArg (Value.int .i64) g15.1)) Try.runUnderlying75 Try.typeInfo4 rfl rfl rfl rfl rfl g15.2 rfl (fun s16 => ?_)
 refine Lst.r (Ev.assign rfl) ?_
 refine nsr ?_
 refine mv0 rfl ?_
 refine mv0 rfl ?_
 obtain ⟨p18, h19, H⟩ := Let_some H
 refine Lst.copyAll (i := 0) (α := Bool) (xs := (List.replicate n13 false)) (ys := a0) rfl rfl (by decide) rfl rfl Try.runUnderlying75 Try.sizeOf4 rfl (by decide) rfl rfl (hs_a0.mono hF11 (sc2 hM)) ?_
 refine Lst.its (L' := (.own s16 4 1 (encs p18)) :: (.own Sl.nil 4 1 (encs ([] : List Bool))) :: L) (by rw [← h19]; rfl) ?_
 refine Lst.r (Ev.assign rfl) ?_
 refine nt0 ?_
 refine Cd.seq ?_
 refine Cd.block ?_
 obtain ⟨ol20, H, HKl20⟩ := andThen_some H
 refine Cd.loop (σ := Nat × Int × (List Bool)) (fun (k20, y21, l22) => [(7, Sl.v s16), (8, iv y21)]) (fun (k20, y21, l22) => (.own s16 4 1 (encs l22)) :: (.own Sl.nil 4 1 (encs ([] : List Bool))) :: L) (fun _ => (fun (k20, y21, l22) => whileM (slices_Repeat_bool_bool_B0) k20 (y21, l22) = some ol20)) (fun (k20, y21, l22) => k20) (fu, copyN 0 ((List.replicate n13 false).length) a0, p18) ⟨rfl, rfl, trivial⟩ rfl H ?_
 rintro F23 ⟨k20, y21, l22⟩ hF24 H
 refine Cd.as (e' := [(7, Sl.v s16), (8, iv y21)]) (L' := (.own s16 4 1 (encs l22)) :: (.own Sl.nil 4 1 (encs ([] : List Bool))) :: L) ⟨rfl, rfl, trivial⟩ rfl ?_
 rcases k20 with _ | k20
 ·cases H
 obtain ⟨c20, H, hgo20, hbrk20, hret20⟩ := whileM_go H
 unfold slices_Repeat_bool_bool_B0 at H
 try dsimp only at H
 refine Cd.seq ?_
 refine sr0 ?_
 refine mv0 rfl ?_
 refine mv0 rfl ?_
 refine Lst.r (Ev.lenS (α := Bool) (xs := l22) (by decide) rfl rfl Try.runUnderlying75 (rdo 0 rfl rfl rfl)) ?_
 refine Lst.r (Ev.lss rfl rfl) ?_
 refine nt0 ?_
 rcases (Bool.eq_false_or_eq_true (decide (y21 < (l22.length : Int)))).symm with hb25 | hb25
 ·replace H := ite_f hb25 H
  refine Cd.condF rfl hb25 ?_
  refine Cd.exit ?_
  refine At.then_exit ?_
  refine At.then_exit ?_
  refine At.in_exit ?_
  have H := hbrk20 _ (some_inj H).symm
  subst H
  replace H := HKl20
  refine At.then ?_
  refine sr0 ?_
  refine mv0 rfl ?_
  refine Lst.r (Ev.assign rfl) ?_
  refine nt0 ?_
  obtain rfl := some_inj H
  refine Cd.ret ?_
  exact At.ret1 rfl (Res.tmp rfl) (FLe.trans hF11 hF24) (sk1 (sc1 (.refl _))) ⟨s16, rfl, rfl⟩
 replace H := ite_t hb25 H
 refine Cd.condT rfl hb25 ?_
 refine Cd.skip ?_
 refine At.then ?_
 refine Cd.block ?_
 obtain ⟨m26, h27, H⟩ := bind_some H
 obtain ⟨m30, h31, H⟩ := bind_some H
 obtain ⟨p34, h35, H⟩ := Let_some H
 obtain ⟨o38, h39, H⟩ := Let_some H
 refine Cd.headMeet (σ := (List Bool)) 8 (fun l37 => [(7, Sl.v s16), (8, iv y21), (38, iv y21), (45, iv (copyN ((y21 : Int).toNat) (((l22.length : Int) : Int).toNat) m30))]) (fun l37 => (.own s16 4 1 (encs l37)) :: (.own Sl.nil 4 1 (encs ([] : List Bool))) :: L) (fun _ l37 => l37 = o38) (by kernel_rfl) (by kernel_rfl) (behind_sink (by kernel_rfl) (by kernel_rfl) (by kernel_rfl)) (by kernel_rfl) (fun hsel hlt => ?_) ?_
 ·refine HdJ.keep (fun w => St w0 F23 ((.own Sl.nil 4 1 (encs ([] : List Bool))) :: L) w) (fun w h => trivial) ?_
  refine HdJ.ts hsel hlt 0 (sc1 (sk1 (.refl _))) (Ev.move rfl) ?_
  refine HdJ.ts hsel hlt 1 (sc1 (sk1 (.refl _))) (Ev.move rfl) ?_
  refine HdJ.ts hsel hlt 2 (sc1 (sk1 (.refl _))) (Ev.move rfl) ?_
  refine HdJ.ts hsel hlt 4 (sc1 (sk1 (.refl _))) (Ev.move rfl) ?_
  refine HdJ.ts hsel hlt 5 (sc1 (sk1 (.refl _))) (Ev.move rfl) ?_
  refine HdJ.step [3, 6] (by kernel_rfl) rfl ?_
  refine HdStep.c (fun inv => ?_) ?_
  ·obtain ⟨g40, gl41⟩ := cutL_some h27
   try dsimp only at g40
   refine Lst.r (Ev.cut (α := Bool) (xs := l22) (i := y21) (j := (l22.length : Int)) rfl rfl rfl Try.runUnderlying75 Try.sizeOf4 rfl (by decide) (rdo 0 rfl rfl rfl) g40.1 g40.2.1 g40.2.2) ?_
   refine hds inv (sc1 (sk1 (.refl _))) ?_
   refine HdJ.o1 6 (fun inv => ?_)
   obtain ⟨g42, gl43⟩ := cutL_some h31
   try dsimp only at g42
   refine Lst.r (Ev.cut (α := Bool) (xs := l22) (i := 0) (j := y21) rfl rfl rfl Try.runUnderlying75 Try.sizeOf4 rfl (by decide) (rdo 0 rfl rfl rfl) g42.1 g42.2.1 g42.2.2) ?_
   refine hds inv (sc1 (sk1 (.refl _))) ?_
   refine HdJ.o1 7 (fun inv => ?_)
   refine Lst.copy (i := 0) (α := Bool) (lo := ((y21 : Int).toNat)) (hi := (((l22.length : Int) : Int).toNat)) (xs := l22) (ys := m30) rfl rfl (by decide) rfl rfl Try.runUnderlying75 Try.sizeOf4 rfl (by decide) rfl rfl (by rw [← gl43]; exact Rd.cut (by decide) (rdo 0 rfl rfl rfl) (by omega) (by omega)) (by omega) (by omega) ?_
   refine Lst.its (L' := (.own s16 4 1 (encs p34)) :: (.own Sl.nil 4 1 (encs ([] : List Bool))) :: L) (by rw [← h35]; rfl) ?_
   refine hds inv (sc1 (sk1 (.refl _))) ?_
   refine HdJ.done (by kernel_rfl) ?_
   exact At.meetN p34 fl ⟨rfl, rfl, rfl, rfl, trivial⟩ rfl h39
  refine HdStep.c (fun inv => ?_) trivial
  obtain ⟨g44, gl45⟩ := cutL_some h31
  try dsimp only at g44
  refine Lst.r (Ev.cut (α := Bool) (xs := l22) (i := 0) (j := y21) rfl rfl rfl Try.runUnderlying75 Try.sizeOf4 rfl (by decide) (rdo 0 rfl rfl rfl) g44.1 g44.2.1 g44.2.2) ?_
  refine hds inv (sc1 (sk1 (.refl _))) ?_
  refine HdJ.o1 3 (fun inv => ?_)
  obtain ⟨g46, gl47⟩ := cutL_some h27
  try dsimp only at g46
  refine Lst.r (Ev.cut (α := Bool) (xs := l22) (i := y21) (j := (l22.length : Int)) rfl rfl rfl Try.runUnderlying75 Try.sizeOf4 rfl (by decide) (rdo 0 rfl rfl rfl) g46.1 g46.2.1 g46.2.2) ?_
  refine hds inv (sc1 (sk1 (.refl _))) ?_
  refine HdJ.o1 7 (fun inv => ?_)
  refine Lst.copy (i := 0) (α := Bool) (lo := ((y21 : Int).toNat)) (hi := (((l22.length : Int) : Int).toNat)) (xs := l22) (ys := m30) rfl rfl (by decide) rfl rfl Try.runUnderlying75 Try.sizeOf4 rfl (by decide) rfl rfl (by rw [← gl45]; exact Rd.cut (by decide) (rdo 0 rfl rfl rfl) (by omega) (by omega)) (by omega) (by omega) ?_
  refine Lst.its (L' := (.own s16 4 1 (encs p34)) :: (.own Sl.nil 4 1 (encs ([] : List Bool))) :: L) (by rw [← h35]; rfl) ?_
  refine hds inv (sc1 (sk1 (.refl _))) ?_
  refine HdJ.done (by kernel_rfl) ?_
  exact At.meetN p34 fl ⟨rfl, rfl, rfl, rfl, trivial⟩ rfl h39
 rintro F48 l37 hF49 hy
 subst hy
 refine Lst.as (e' := [(7, Sl.v s16), (8, iv y21), (38, iv y21), (45, iv (copyN ((y21 : Int).toNat) (((l22.length : Int) : Int).toNat) m30))]) (L' := (.own s16 4 1 (encs l37)) :: (.own Sl.nil 4 1 (encs ([] : List Bool))) :: L) ⟨rfl, rfl, rfl, rfl, trivial⟩ rfl ?_
 refine Lst.r (Ev.add rfl rfl) ?_
 refine Lst.r (Ev.assign rfl) ?_
 refine Lst.nil ?_
 refine At.in_normal ?_
 exact At.meet (k20, w64 (y21 + (copyN ((y21 : Int).toNat) (((l22.length : Int) : Int).toNat) m30)), l37) (FLe.trans hF24 hF49) ⟨rfl, rfl, trivial⟩ rfl ⟨hgo20 _ (some_inj H).symm, Nat.lt_succ_self _⟩
set_option maxRecDepth 20000 in
theorem math_bits_Len64_sim {a0 : BitVec 64} {r : Int} (H : math_bits_Len64 a0 = some r) (w0 : World) (F : Frz) (M L : List Item) (hM : M.Sublist L) : Ok Try.prog w0 96 [.int .u64 a0.toNat] F (L) (Is (iv r) (L)) := by
 unfold math_bits_Len64 at H
 refine Ok.enter (m := 1) (n := 25) Try.func96 rfl rfl rfl (by decide) ?_
 refine Cd.env (e' := [(0, .int .u64 a0.toNat)]) rfl ?_
 refine sr0 ?_
 refine Lst.r (Ev.assign rfl) ?_
 refine nt0 ?_
 obtain ⟨o3, H, HKo3⟩ := bind_some H
 refine Cd.join (σ := (BitVec 64) × Int) (fun (y1, y2) => [(0, .int .u64 y1.toNat), (2, iv y2)]) (fun (y1, y2) => L) (fun _ (y1, y2) => (y1, y2) = o3) ?_ ?_
 ·refine sr0 ?_
  refine mv0 rfl ?_
  refine Lst.r (Ev.geq rfl rfl) ?_
  refine nt0 ?_
  rcases (Bool.eq_false_or_eq_true (decide ((a0.toNat : Int) ≥ ((4294967296 : BitVec 64).toNat : Int)))).symm with hb4 | hb4
  ·replace H := ite_f hb4 H
   refine Cd.condF rfl hb4 ?_
   refine Cd.skip ?_
   exact At.meet (a0, (0 : Int)) fl ⟨rfl, rfl, trivial⟩ rfl (some_inj H)
  replace H := ite_t hb4 H
  refine Cd.condT rfl hb4 ?_
  refine sr0 ?_
  refine mv0 rfl ?_
  refine Lst.r (Ev.shrU64 (i := a0) (m := 32) rfl rfl) ?_
  refine Lst.r (Ev.assign rfl) ?_
  refine nt0 ?_
  refine Cd.region ?_
  refine Lst.r (Ev.assign rfl) ?_
  refine Lst.nil ?_
  exact At.meet (a0 >>> 32, (32 : Int)) fl ⟨rfl, rfl, trivial⟩ rfl (some_inj H)
 rintro F5 ⟨y1, y2⟩ hF6 hy
 subst hy
 refine Cd.as (e' := [(0, .int .u64 y1.toNat), (2, iv y2)]) (L' := L) ⟨rfl, rfl, trivial⟩ rfl ?_
 replace H := HKo3
 obtain ⟨o9, H, HKo9⟩ := bind_some H
 refine Cd.join (σ := (BitVec 64) × Int) (fun (y7, y8) => [(0, .int .u64 y7.toNat), (2, iv y8)]) (fun (y7, y8) => L) (fun _ (y7, y8) => (y7, y8) = o9) ?_ ?_
 ·refine sr0 ?_
  refine mv0 rfl ?_
  refine Lst.r (Ev.geq rfl rfl) ?_
  refine nt0 ?_
  rcases (Bool.eq_false_or_eq_true (decide ((y1.toNat : Int) ≥ ((65536 : BitVec 64).toNat : Int)))).symm with hb10 | hb10
  ·replace H := ite_f hb10 H
   refine Cd.condF rfl hb10 ?_
   refine Cd.skip ?_
   exact At.meet (y1, y2) fl ⟨rfl, rfl, trivial⟩ rfl (some_inj H)
  replace H := ite_t hb10 H
  refine Cd.condT rfl hb10 ?_
  refine sr0 ?_
  refine mv0 rfl ?_
  refine Lst.r (Ev.shrU64 (i := y1) (m := 16) rfl rfl) ?_
  refine Lst.r (Ev.assign rfl) ?_
  refine nt0 ?_
  refine Cd.region ?_
  refine mv0 rfl ?_
  refine Lst.r (Ev.add rfl rfl) ?_
  refine Lst.r (Ev.assign rfl) ?_
  refine Lst.nil ?_
  exact At.meet (y1 >>> 16, w64 (y2 + (16 : Int))) fl ⟨rfl, rfl, trivial⟩ rfl (some_inj H)
 rintro F11 ⟨y7, y8⟩ hF12 hy
 subst hy
 refine Cd.as (e' := [(0, .int .u64 y7.toNat), (2, iv y8)]) (L' := L) ⟨rfl, rfl, trivial⟩ rfl ?_
 replace H := HKo9
 obtain ⟨o15, H, HKo15⟩ := bind_some H
 refine Cd.join (σ := (BitVec 64) × Int) (fun (y13, y14) => [(0, .int .u64 y13.toNat), (2, iv y14)]) (fun (y13, y14) => L) (fun _ (y13, y14) => (y13, y14) = o15) ?_ ?_
 ·refine sr0 ?_
  refine mv0 rfl ?_
  refine Lst.r (Ev.geq rfl rfl) ?_
  refine nt0 ?_
  rcases (Bool.eq_false_or_eq_true (decide ((y7.toNat : Int) ≥ ((256 : BitVec 64).toNat : Int)))).symm with hb16 | hb16
  ·replace H := ite_f hb16 H
   refine Cd.condF rfl hb16 ?_
   refine Cd.skip ?_
   exact At.meet (y7, y8) fl ⟨rfl, rfl, trivial⟩ rfl (some_inj H)
  replace H := ite_t hb16 H
  refine Cd.condT rfl hb16 ?_
  refine sr0 ?_
  refine mv0 rfl ?_
  refine Lst.r (Ev.shrU64 (i := y7) (m := 8) rfl rfl) ?_
  refine Lst.r (Ev.assign rfl) ?_
  refine nt0 ?_
  refine Cd.region ?_
  refine mv0 rfl ?_
  refine Lst.r (Ev.add rfl rfl) ?_
  refine Lst.r (Ev.assign rfl) ?_
  refine Lst.nil ?_
  exact At.meet (y7 >>> 8, w64 (y8 + (8 : Int))) fl ⟨rfl, rfl, trivial⟩ rfl (some_inj H)
 rintro F17 ⟨y13, y14⟩ hF18 hy
 subst hy
 refine Cd.as (e' := [(0, .int .u64 y13.toNat), (2, iv y14)]) (L' := L) ⟨rfl, rfl, trivial⟩ rfl ?_
 replace H := HKo15
 refine sr0 ?_
 refine mv0 rfl ?_
 refine mv0 rfl ?_
 refine Lst.r (Ev.convTo8 rfl Try.runUnderlying124 Try.runUnderlying5) ?_
 obtain ⟨x19, h20, H⟩ := bind_some H
 refine Lst.r (Ev.indexStr rfl rfl Try.runUnderlying9 h20) ?_
 refine Lst.r (Ev.convIS (j := (x19.toBitVec.toNat : Int)) rfl Try.runUnderlying5 Try.runUnderlying3 (w64_id (by omega) (by omega))) ?_
 refine Lst.r (Ev.add rfl rfl) ?_
 refine Lst.r (Ev.assign rfl) ?_
 refine nt0 ?_
 obtain rfl := some_inj H
 refine Cd.ret ?_
 exact At.ret1 rfl (Res.tmp rfl) (FLe.trans (FLe.trans hF6 hF12) hF18) (.refl _) ⟨rfl, rfl⟩
set_option maxRecDepth 20000 in
theorem math_bits_Len_sim {a0 : BitVec 64} {r : Int} (H : math_bits_Len a0 = some r) (w0 : World) (F : Frz) (M L : List Item) (hM : M.Sublist L) : Ok Try.prog w0 82 [.int .u64 a0.toNat] F (L) (Is (iv r) (L)) := by
 unfold math_bits_Len at H
 refine Ok.enter (m := 1) (n := 8) Try.func82 rfl rfl rfl (by decide) ?_
 refine Cd.env (e' := [(0, .int .u64 a0.toNat)]) rfl ?_
 refine sr0 ?_
 refine Lst.r (Ev.assign rfl) ?_
 refine nt0 ?_
 refine Cd.seq ?_
 refine Cd.condF rfl rfl ?_
 refine Cd.skip ?_
 refine At.then ?_
 refine sr0 ?_
 refine mv0 rfl ?_
 obtain ⟨r1, h2, H⟩ := bind_some H
 refine Lst.call1 rfl rfl (by decide) (vs := [.int .u64 a0.toNat]) ⟨rfl, trivial⟩ Try.call96 (math_bits_Len64_sim h2 w0 _ M _ hM) ?_
 refine Lst.r (Ev.assign rfl) ?_
 refine nt0 ?_
 obtain rfl := some_inj H
 refine Cd.ret ?_
 exact At.ret1 rfl (Res.tmp rfl) fl (.refl _) ⟨rfl, rfl⟩
set_option maxRecDepth 20000 in
theorem cmp_isNaN_int_sim {a0 : Int} {r : Bool} (H : cmp_isNaN_int a0 = some r) (w0 : World) (F : Frz) (M L : List Item) (hM : M.Sublist L) : Ok Try.prog w0 83 [iv a0] F (L) (Is (.bool r) (L)) := by
 unfold cmp_isNaN_int at H
 refine Ok.enter (m := 1) (n := 6) Try.func83 rfl rfl rfl (by decide) ?_
 refine Cd.env (e' := [(0, iv a0)]) rfl ?_
 refine sr0 ?_
 refine Lst.r (Ev.assign rfl) ?_
 refine nsr ?_
 refine mv0 rfl ?_
 refine mv0 rfl ?_
 refine Lst.r (Ev.neq rfl rfl) ?_
 refine Lst.r (Ev.assign rfl) ?_
 refine nt0 ?_
 obtain rfl := some_inj H
 refine Cd.ret ?_
 exact At.ret1 rfl (Res.tmp rfl) fl (.refl _) ⟨rfl, rfl⟩
set_option maxRecDepth 20000 in
theorem cmp_Compare_int_sim {a0 : Int} {a1 : Int} {r : Int} (H : cmp_Compare_int a0 a1 = some r) (w0 : World) (F : Frz) (M L : List Item) (hM : M.Sublist L) : Ok Try.prog w0 72 [iv a0, iv a1] F (L) (Is (iv r) (L)) := by
 unfold cmp_Compare_int at H
 refine Ok.enter (m := 2) (n := 20) Try.func72 rfl rfl rfl (by decide) ?_
 refine Cd.env (e' := [(0, iv a0), (1, iv a1)]) rfl ?_
 refine sr0 ?_
 refine Lst.r (Ev.assign rfl) ?_
 refine nsr ?_
 refine mv0 rfl ?_
 obtain ⟨r1, h2, H⟩ := bind_some H
 refine Lst.call1 rfl rfl (by decide) (vs := [iv a0]) ⟨rfl, trivial⟩ Try.call83 (cmp_isNaN_int_sim h2 w0 _ M _ hM) ?_
 refine Lst.r (Ev.assign rfl) ?_
 refine nsr ?_
 refine mv0 rfl ?_
 obtain ⟨r5, h6, H⟩ := bind_some H
 refine Lst.call1 rfl rfl (by decide) (vs := [iv a1]) ⟨rfl, trivial⟩ Try.call83 (cmp_isNaN_int_sim h6 w0 _ M _ hM) ?_
 refine Lst.r (Ev.assign rfl) ?_
 refine nt0 ?_
 refine Cd.seq ?_
 refine sr0 ?_
 refine mv0 rfl ?_
 refine nt0 ?_
 rcases Bool.eq_false_or_eq_true r1 with hb9 | hb9
 ·replace H := ite_t hb9 H
  refine Cd.condT rfl hb9 ?_
  refine Cd.seq ?_
  refine sr0 ?_
  refine mv0 rfl ?_
  refine nt0 ?_
  rcases Bool.eq_false_or_eq_true r5 with hb10 | hb10
  ·replace H := ite_t hb10 H
   refine Cd.condT rfl hb10 ?_
   refine sr0 ?_
   refine Lst.r (Ev.assign rfl) ?_
   refine nt0 ?_
   obtain rfl := some_inj H
   refine Cd.ret ?_
   refine At.then_ret ?_
   refine At.then_ret ?_
   exact At.ret1 rfl (Res.tmp rfl) fl (.refl _) ⟨rfl, rfl⟩
  replace H := ite_f hb10 H
  refine Cd.condF rfl hb10 ?_
  refine Cd.skip ?_
  refine At.then ?_
  refine sr0 ?_
  refine Lst.r (Ev.assign rfl) ?_
  refine nt0 ?_
  obtain rfl := some_inj H
  refine Cd.ret ?_
  refine At.then_ret ?_
  exact At.ret1 rfl (Res.tmp rfl) fl (.refl _) ⟨rfl, rfl⟩
 replace H := ite_f hb9 H
 refine Cd.condF rfl hb9 ?_
 refine Cd.skip ?_
 refine At.then ?_
 refine Cd.seq ?_
 refine sr0 ?_
 refine mv0 rfl ?_
 refine nt0 ?_
 rcases Bool.eq_false_or_eq_true r5 with hb11 | hb11
 ·replace H := ite_t hb11 H
  refine Cd.condT rfl hb11 ?_
  refine sr0 ?_
  refine Lst.r (Ev.assign rfl) ?_
  refine nt0 ?_
  obtain rfl := some_inj H
  refine Cd.ret ?_
  refine At.then_ret ?_
  exact At.ret1 rfl (Res.tmp rfl) fl (.refl _) ⟨rfl, rfl⟩
 replace H := ite_f hb11 H
 refine Cd.condF rfl hb11 ?_
 refine Cd.skip ?_
 refine At.then ?_
 refine Cd.seq ?_
 refine sr0 ?_
 refine mv0 rfl ?_
 refine mv0 rfl ?_
 refine Lst.r (Ev.lss rfl rfl) ?_
 refine nt0 ?_
 rcases Bool.eq_false_or_eq_true (decide (a0 < a1)) with hb12 | hb12
 ·replace H := ite_t hb12 H
  refine Cd.condT rfl hb12 ?_
  refine sr0 ?_
  refine Lst.r (Ev.assign rfl) ?_
  refine nt0 ?_
  obtain rfl := some_inj H
  refine Cd.ret ?_
  refine At.then_ret ?_
  exact At.ret1 rfl (Res.tmp rfl) fl (.refl _) ⟨rfl, rfl⟩
 replace H := ite_f hb12 H
 refine Cd.condF rfl hb12 ?_
 refine Cd.skip ?_
 refine At.then ?_
 refine Cd.seq ?_
 refine sr0 ?_
 refine mv0 rfl ?_
 refine mv0 rfl ?_
 refine Lst.r (Ev.gtr rfl rfl) ?_
 refine nt0 ?_
 rcases Bool.eq_false_or_eq_true (decide (a0 > a1)) with hb13 | hb13
 ·replace H := ite_t hb13 H
  refine Cd.condT rfl hb13 ?_
  refine Cd.seq ?_
  refine Cd.as (e' := []) (L' := L) trivial rfl ?_
  refine Cd.region ?_
  refine Lst.r (Ev.assign rfl) ?_
  refine nt0 ?_
  obtain rfl := some_inj H
  refine Cd.ret ?_
  refine At.then_ret ?_
  exact At.ret1 rfl (Res.tmp rfl) fl (.refl _) ⟨rfl, rfl⟩
 replace H := ite_f hb13 H
 refine Cd.condF rfl hb13 ?_
 refine Cd.skip ?_
 refine At.then ?_
 refine Cd.seq ?_
 refine Cd.as (e' := []) (L' := L) trivial rfl ?_
 refine Cd.region ?_
 refine Lst.r (Ev.assign rfl) ?_
 refine nt0 ?_
 obtain rfl := some_inj H
 refine Cd.ret ?_
 exact At.ret1 rfl (Res.tmp rfl) fl (.refl _) ⟨rfl, rfl⟩
set_option maxRecDepth 20000 in
theorem poset_Chains_1_sim {a0 : List Int} {a1 : List Int} {s_a0 : Sl} {s_a1 : Sl} {r : Int} (H : poset_Chains_1 a0 a1 = some r) (w0 : World) (F : Frz) (M L : List Item) (hM : M.Sublist L) (hs_a0 : Rd w0 F M s_a0 a0) (hs_a1 : Rd w0 F M s_a1 a1) : Ok Try.prog w0 71 [Sl.v s_a0, Sl.v s_a1] F (L) (Is (iv r) (L)) := by
 unfold poset_Chains_1 at H
 refine Ok.enter (m := 2) (n := 12) Try.func71 rfl rfl rfl (by decide) ?_
 refine Cd.env (e' := [(0, Sl.v s_a0), (1, Sl.v s_a1)]) rfl ?_
 refine sr0 ?_
 refine Lst.r (Ev.assign rfl) ?_
 refine nt0 ?_
 refine Cd.seq ?_
 refine Cd.quiet (by kernel_rfl) (by kernel_rfl) ?_
 refine Qt.r (Ev.move rfl) ?_
 obtain ⟨x1, h2, H⟩ := bind_some H
 have g3 := lat_some h2
 refine Qt.r (Ev.indexS (α := Int) (xs := a0) rfl rfl Try.runUnderlying34 Try.sizeOf3 rfl (by decide) (hs_a0.mono fl hM) g3.1 g3.2.1) ?_
 refine Qt.r (Ev.loadS (α := Int) rfl (hs_a0.mono fl hM) Try.isAgg3 (v := iv x1) ((Get.elemN (s := 1) (x := x1) rfl g3.2.2 gh0).off (by omega))) ?_
 refine Qt.r (Ev.move rfl) ?_
 obtain ⟨x4, h5, H⟩ := bind_some H
 have g6 := lat_some h5
 refine Qt.r (Ev.indexS (α := Int) (xs := a1) rfl rfl Try.runUnderlying34 Try.sizeOf3 rfl (by decide) (hs_a1.mono fl hM) g6.1 g6.2.1) ?_
 refine Qt.r (Ev.loadS (α := Int) rfl (hs_a1.mono fl hM) Try.isAgg3 (v := iv x4) ((Get.elemN (s := 1) (x := x4) rfl g6.2.2 gh0).off (by omega))) ?_
 obtain ⟨r7, h8, H⟩ := bind_some H
 refine Qt.call rfl rfl (by decide) (vs := [iv x1, iv x4]) ⟨rfl, rfl, trivial⟩ Try.call72 (cmp_Compare_int_sim h8 w0 _ M _ hM) ?_
 refine Qt.r (Ev.assign rfl) ?_
 refine Qt.done ?_
 refine At.then ?_
 obtain rfl := some_inj H
 refine Cd.ret ?_
 exact At.ret1 rfl (Res.tmp rfl) fl (.refl _) ⟨rfl, rfl⟩
set_option maxRecDepth 20000 in
theorem slices_insertionSortCmpFunc_int_Chains_1_sim {fu : Nat} {a0 : List (List Int)} {a1 : Int} {a2 : Int} {s_a0 : Sl} {rs_a0 : List (LR Int)} {r : (List (List Int))} (H : slices_insertionSortCmpFunc_int_Chains_1 fu a0 a1 a2 = some r) (w0 : World) (F : Frz) (M L : List Item) (hM : M.Sublist L) (hm_a0 : rs_a0.map LR.v = a0) (ha_a0 : All LR.rel w0 F M rs_a0) : Ok Try.prog w0 87 [Sl.v s_a0, iv a1, iv a2, .func (.func 71) #[] #[]] F ((.own s_a0 34 1 (encs rs_a0)) :: L) (fun Fx L' v => ∃ (rs2 : List (LR Int)), v = .tuple #[] ∧ L' = (.own s_a0 34 1 (encs rs2)) :: L ∧ rs2.map LR.v = r ∧ All LR.rel w0 Fx M rs2) := by
 unfold slices_insertionSortCmpFunc_int_Chains_1 at H
 refine Ok.enter (m := 4) (n := 53) Try.func87 rfl rfl rfl (by decide) ?_
 refine Cd.env (e' := [(0, Sl.v s_a0), (1, iv a1), (2, iv a2), (3, .func (.func 71) #[] #[])]) rfl ?_
 refine sr0 ?_
 refine mv0 rfl ?_
 refine Lst.r (Ev.add rfl rfl) ?_
 refine Lst.r (Ev.assign rfl) ?_
 refine nt0 ?_
 refine Cd.block ?_
 obtain ⟨ol2, H, HKl2⟩ := andThen_some H
 refine Cd.loop (σ := Nat × Int × (List (List Int)) × (List (LR Int))) (fun (k2, y3, l4, rs5) => [(0, Sl.v s_a0), (1, iv a1), (2, iv a2), (3, .func (.func 71) #[] #[]), (8, iv y3)]) (fun (k2, y3, l4, rs5) => (.own s_a0 34 1 (encs rs5)) :: L) (fun Fx => (fun (k2, y3, l4, rs5) => whileM (slices_insertionSortCmpFunc_int_Chains_1_B0 fu a1 a2) k2 (y3, l4) = some ol2 ∧ rs5.map LR.v = l4 ∧ All LR.rel w0 Fx M rs5)) (fun (k2, y3, l4, rs5) => k2) (fu, w64 (a1 + (1 : Int)), a0, rs_a0) ⟨rfl, rfl, rfl, rfl, rfl, trivial⟩ rfl ⟨H, hm_a0, (All.monoLR ha_a0 fl (.refl _))⟩ ?_
 rintro F8 ⟨k2, y3, l4, rs5⟩ hF9 ⟨H, fm6, fa7⟩
 refine Cd.as (e' := [(0, Sl.v s_a0), (1, iv a1), (2, iv a2), (3, .func (.func 71) #[] #[]), (8, iv y3)]) (L' := (.own s_a0 34 1 (encs rs5)) :: L) ⟨rfl, rfl, rfl, rfl, rfl, trivial⟩ rfl ?_
 rcases k2 with _ | k2
 ·cases H
 obtain ⟨c2, H, hgo2, hbrk2, hret2⟩ := whileM_go H
 unfold slices_insertionSortCmpFunc_int_Chains_1_B0 at H
 try dsimp only at H
 refine Cd.seq ?_
 refine sr0 ?_
 refine mv0 rfl ?_
 refine mv0 rfl ?_
 refine Lst.r (Ev.lss rfl rfl) ?_
 refine nt0 ?_
 rcases (Bool.eq_false_or_eq_true (decide (y3 < a2))).symm with hb10 | hb10
 ·replace H := ite_f hb10 H
  refine Cd.condF rfl hb10 ?_
  refine Cd.exit ?_
  refine At.then_exit ?_
  refine At.then_exit ?_
  refine At.in_exit ?_
  have H := hbrk2 _ (some_inj H).symm
  subst H
  replace H := HKl2
  try dsimp only [Sum.elim_inl] at H
  obtain rfl := some_inj H
  exact At.ret0 (.inr rfl) rfl hF9 (sk1 (.refl _)) ⟨rs5, rfl, rfl, fm6, (All.monoLR fa7 fl (.refl _))⟩
 replace H := ite_t hb10 H
 refine Cd.condT rfl hb10 ?_
 refine Cd.skip ?_
 refine At.then ?_
 refine Cd.seq ?_
 refine Cd.block ?_
 refine sr0 ?_
 refine mv0 rfl ?_
 refine Lst.r (Ev.assign rfl) ?_
 refine nt0 ?_
 refine Cd.block ?_
 obtain ⟨ol11, H, HKl11⟩ := andThen_some H
 refine Cd.loop (σ := Nat × Int × (List (List Int)) × (List (LR Int))) (fun (k11, y12, l13, rs14) => [(0, Sl.v s_a0), (1, iv a1), (2, iv a2), (3, .func (.func 71) #[] #[]), (8, iv y3), (9, iv y12)]) (fun (k11, y12, l13, rs14) => (.own s_a0 34 1 (encs rs14)) :: L) (fun Fx => (fun (k11, y12, l13, rs14) => whileM (slices_insertionSortCmpFunc_int_Chains_1_B2 a1) k11 (y12, l13) = some ol11 ∧ rs14.map LR.v = l13 ∧ All LR.rel w0 Fx M rs14)) (fun (k11, y12, l13, rs14) => k11) (fu, y3, l4, rs5) ⟨rfl, rfl, rfl, rfl, rfl, rfl, trivial⟩ rfl ⟨H, fm6, (All.monoLR fa7 fl (.refl _))⟩ ?_
 rintro F17 ⟨k11, y12, l13, rs14⟩ hF18 ⟨H, fm15, fa16⟩
 refine Cd.as (e' := [(0, Sl.v s_a0), (1, iv a1), (2, iv a2), (3, .func (.func 71) #[] #[]), (8, iv y3), (9, iv y12)]) (L' := (.own s_a0 34 1 (encs rs14)) :: L) ⟨rfl, rfl, rfl, rfl, rfl, rfl, trivial⟩ rfl ?_
 rcases k11 with _ | k11
 ·cases H
 obtain ⟨c11, H, hgo11, hbrk11, hret11⟩ := whileM_go H
 unfold slices_insertionSortCmpFunc_int_Chains_1_B2 at H
 try dsimp only at H
 refine Cd.seq ?_
 refine Cd.seq ?_
 refine Cd.quiet (by kernel_rfl) (by kernel_rfl) ?_
 refine Qt.r (Ev.move rfl) ?_
 refine Qt.r (Ev.move rfl) ?_
 refine Qt.r (Ev.gtr rfl rfl) ?_
 refine Qt.r (Ev.move rfl) ?_
 obtain ⟨o19, H, HKo19⟩ := bind_some H
 refine Qt.join (σ := Bool) 13 (fun y20 => [(0, Sl.v s_a0), (1, iv a1), (2, iv a2), (3, .func (.func 71) #[] #[]), (8, iv y3), (9, iv y12), (34, .bool y20)]) (fun y20 => y20 = o19) ?_ ?_
 ·rcases (Bool.eq_false_or_eq_true (decide (y12 > a1))).symm with hb21 | hb21
  ·replace H := ite_f hb21 H
   refine Qt.skip rfl rfl rfl hb21 rfl (by decide) ?_
   refine Qt.skip rfl rfl rfl hb21 rfl (by decide) ?_
   refine Qt.skip rfl rfl rfl hb21 rfl (by decide) ?_
   refine Qt.skip rfl rfl rfl hb21 rfl (by decide) ?_
   refine Qt.skip rfl rfl rfl hb21 rfl (by decide) ?_
   refine Qt.skip rfl rfl rfl hb21 rfl (by decide) ?_
   refine Qt.skip rfl rfl rfl hb21 rfl (by decide) ?_
   refine Qt.skip rfl rfl rfl hb21 rfl (by decide) ?_
   refine Qt.skip rfl rfl rfl hb21 rfl (by decide) ?_
   refine Qt.skip rfl rfl rfl hb21 rfl (by decide) ?_
   refine Qt.skip rfl rfl rfl hb21 rfl (by decide) ?_
   refine Qt.skip rfl rfl rfl hb21 rfl (by decide) ?_
   refine Qt.r (Ev.pickF rfl hb21 rfl) ?_
   exact Qt.meet false ⟨rfl, rfl, rfl, rfl, rfl, rfl, rfl, trivial⟩ (some_inj H)
  replace H := ite_t hb21 H
  refine Qt.rG hb21 (Ev.move rfl) ?_
  refine Qt.rG hb21 (Ev.move rfl) ?_
  refine Qt.rG hb21 (Ev.move rfl) ?_
  obtain ⟨x22, h23, H⟩ := bind_some H
  have g24 := lat_some h23
  obtain ⟨⟨r25v, r25h⟩, r25g, r25e, r25m⟩ := map_get fm15 g24.2.2
  obtain rfl : x22 = r25v := r25e.symm
  have r25q : Rd w0 _ _ r25h x22 := fa16 _ r25m
  refine Qt.rG hb21 (Ev.indexS (α := LR Int) (xs := rs14) rfl rfl Try.runUnderlying56 Try.sizeOf34 rfl (by decide) (rdo 0 rfl rfl rfl) g24.1 (by have := map_len fm15; omega)) ?_
  refine Qt.rG hb21 (Ev.loadS (α := LR Int) rfl (rdo 0 rfl rfl rfl) Try.isAgg34 (v := Sl.v r25h) ((Get.elemN (s := 1) rfl r25g gh0).off (by omega))) ?_
  refine Qt.rG hb21 (Ev.move rfl) ?_
  refine Qt.rG hb21 (Ev.move rfl) ?_
  refine Qt.rG hb21 (Ev.sub rfl rfl) ?_
  obtain ⟨x26, h27, H⟩ := bind_some H
  have g28 := lat_some h27
  obtain ⟨⟨r29v, r29h⟩, r29g, r29e, r29m⟩ := map_get fm15 g28.2.2
  obtain rfl : x26 = r29v := r29e.symm
  have r29q : Rd w0 _ _ r29h x26 := fa16 _ r29m
  refine Qt.rG hb21 (Ev.indexS (α := LR Int) (xs := rs14) rfl rfl Try.runUnderlying56 Try.sizeOf34 rfl (by decide) (rdo 0 rfl rfl rfl) g28.1 (by have := map_len fm15; omega)) ?_
  refine Qt.rG hb21 (Ev.loadS (α := LR Int) rfl (rdo 0 rfl rfl rfl) Try.isAgg34 (v := Sl.v r29h) ((Get.elemN (s := 1) rfl r29g gh0).off (by omega))) ?_
  obtain ⟨r30, h31, H⟩ := bind_some H
  refine Qt.callVG rfl rfl rfl hb21 rfl (by decide) (vs := [Sl.v r25h, Sl.v r29h]) (cs := []) rfl ⟨rfl, rfl, trivial⟩ Try.call71 (poset_Chains_1_sim h31 w0 _ M _ (sc1 hM) (r25q.mono fl (.refl _)) (r29q.mono fl (.refl _))) ?_
  refine Qt.rG hb21 (Ev.lss rfl rfl) ?_
  refine Qt.r (Ev.pickT rfl hb21 rfl) ?_
  exact Qt.meet (decide (r30 < (0 : Int))) ⟨rfl, rfl, rfl, rfl, rfl, rfl, rfl, trivial⟩ (some_inj H)
 rintro y20 hy
 subst hy
 refine Qt.as (e' := [(0, Sl.v s_a0), (1, iv a1), (2, iv a2), (3, .func (.func 71) #[] #[]), (8, iv y3), (9, iv y12), (34, .bool y20)]) ⟨rfl, rfl, rfl, rfl, rfl, rfl, rfl, trivial⟩ ?_
 replace H := HKo19
 refine Qt.done ?_
 refine At.then ?_
 rcases (Bool.eq_false_or_eq_true y20).symm with hb34 | hb34
 ·replace H := ite_f hb34 H
  refine Cd.condF rfl hb34 ?_
  refine Cd.exit ?_
  refine At.then_exit ?_
  refine At.then_exit ?_
  refine At.in_exit ?_
  have H := hbrk11 _ (some_inj H).symm
  subst H
  replace H := HKl11
  try dsimp only [Sum.elim_inl] at H
  refine At.in_normal ?_
  refine At.then ?_
  refine Cd.region ?_
  refine mv0 rfl ?_
  refine Lst.r (Ev.add rfl rfl) ?_
  refine Lst.r (Ev.assign rfl) ?_
  refine Lst.nil ?_
  exact At.meet (k2, w64 (y3 + (1 : Int)), l13, rs14) (FLe.trans hF9 hF18) ⟨rfl, rfl, rfl, rfl, rfl, trivial⟩ rfl ⟨⟨hgo2 _ (some_inj H).symm, fm15, (All.monoLR fa16 fl (.refl _))⟩, Nat.lt_succ_self _⟩
 replace H := ite_t hb34 H
 refine Cd.condT rfl hb34 ?_
 refine Cd.skip ?_
 refine At.then ?_
 refine Cd.seq ?_
 refine Cd.block ?_
 obtain ⟨x35, h36, H⟩ := bind_some H
 obtain ⟨x39, h40, H⟩ := bind_some H
 obtain ⟨x43, h44, H⟩ := bind_some H
 obtain ⟨p47, h48, H⟩ := Let_some H
 obtain ⟨o59, h60, H⟩ := Let_some H
 refine Cd.headMeet (σ := Sl × (List Int) × (List (List Int)) × (List (LR Int))) 16 (fun (s52, l53, l55, rs56) => [(0, Sl.v s_a0), (1, iv a1), (2, iv a2), (3, .func (.func 71) #[] #[]), (8, iv y3), (9, iv y12), (39, Sl.v s_a0), (41, iv (w64 (y12 - (1 : Int)))), (50, Sl.v s52)]) (fun (s52, l53, l55, rs56) => (.own s_a0 34 1 (encs rs56)) :: L) (fun Fx (s52, l53, l55, rs56) => (l53, l55) = o59 ∧ Rd w0 Fx M s52 l53 ∧ rs56.map LR.v = l55 ∧ All LR.rel w0 Fx M rs56) (by kernel_rfl) (by kernel_rfl) (behind_sink (by kernel_rfl) (by kernel_rfl) (by kernel_rfl)) (by kernel_rfl) (fun hsel hlt => ?_) ?_
 ·refine HdJ.keep (fun w => St w0 F17 (L) w) (fun w h => trivial) ?_
  refine HdJ.ts hsel hlt 0 (sc1 (.refl _)) (Ev.move rfl) ?_
  refine HdJ.ts hsel hlt 1 (sc1 (.refl _)) (Ev.move rfl) ?_
  refine HdJ.ts hsel hlt 2 (sc1 (.refl _)) (Ev.move rfl) ?_
  refine HdJ.ts hsel hlt 3 (sc1 (.refl _)) (Ev.move rfl) ?_
  refine HdJ.ts hsel hlt 4 (sc1 (.refl _)) (Ev.sub rfl rfl) ?_
  refine HdJ.ts hsel hlt 5 (sc1 (.refl _)) (Ev.move rfl) ?_
  refine HdJ.ts hsel hlt 6 (sc1 (.refl _)) (Ev.move rfl) ?_
  refine HdJ.ts hsel hlt 7 (sc1 (.refl _)) (Ev.sub rfl rfl) ?_
  refine HdJ.ts hsel hlt 10 (sc1 (.refl _)) (Ev.move rfl) ?_
  refine HdJ.ts hsel hlt 11 (sc1 (.refl _)) (Ev.move rfl) ?_
  refine HdJ.step [8, 12] (by kernel_rfl) rfl ?_
  refine HdStep.c (fun inv => ?_) ?_
  ·have g61 := lat_some h36
   obtain ⟨⟨r62v, r62h⟩, r62g, r62e, r62m⟩ := map_get fm15 g61.2.2
   obtain rfl : x35 = r62v := r62e.symm
   have r62q : Rd w0 _ _ r62h x35 := fa16 _ r62m
   refine Lst.r (Ev.indexS (α := LR Int) (xs := rs14) rfl rfl Try.runUnderlying56 Try.sizeOf34 rfl (by decide) (rdo 0 rfl rfl rfl) g61.1 (by have := map_len fm15; omega)) ?_
   refine hds inv (sc1 (.refl _)) ?_
   refine HdJ.step [9, 12] (by kernel_rfl) rfl ?_
   refine HdStep.c (fun inv => ?_) ?_
   ·refine Lst.r (Ev.loadS (α := LR Int) rfl (rdo 0 rfl rfl rfl) Try.isAgg34 (v := Sl.v r62h) ((Get.elemN (s := 1) rfl r62g gh0).off (by omega))) ?_
    refine hds inv (sc1 (.refl _)) ?_
    refine HdJ.o1 12 (fun inv => ?_)
    have g63 := lat_some h40
    obtain ⟨⟨r64v, r64h⟩, r64g, r64e, r64m⟩ := map_get fm15 g63.2.2
    obtain rfl : x39 = r64v := r64e.symm
    have r64q : Rd w0 _ _ r64h x39 := fa16 _ r64m
    refine Lst.r (Ev.indexS (α := LR Int) (xs := rs14) rfl rfl Try.runUnderlying56 Try.sizeOf34 rfl (by decide) (rdo 0 rfl rfl rfl) g63.1 (by have := map_len fm15; omega)) ?_
    refine hds inv (sc1 (.refl _)) ?_
    refine HdJ.o1 13 (fun inv => ?_)
    refine Lst.r (Ev.loadS (α := LR Int) rfl (rdo 0 rfl rfl rfl) Try.isAgg34 (v := Sl.v r64h) ((Get.elemN (s := 1) rfl r64g gh0).off (by omega))) ?_
    refine hds inv (sc1 (.refl _)) ?_
    refine HdJ.o1 14 (fun inv => ?_)
    have g65 := lat_some h44
    obtain ⟨⟨r66v, r66h⟩, r66g, r66e, r66m⟩ := map_get fm15 g65.2.2
    obtain rfl : x43 = r66v := r66e.symm
    have r66q : Rd w0 _ _ r66h x43 := fa16 _ r66m
    refine Lst.r (Ev.indexS (α := LR Int) (xs := rs14) rfl rfl Try.runUnderlying56 Try.sizeOf34 rfl (by decide) (rdo 0 rfl rfl rfl) g65.1 (by have := map_len fm15; omega)) ?_
    refine hds inv (sc1 (.refl _)) ?_
    refine HdJ.o1 15 (fun inv => ?_)
    have hm67 : (rs14.set y12.toNat (LR.mk x35 r62h)).map LR.v = p47 := (map_set fm15 _ _).trans h48
    have ha68 : All LR.rel w0 F17 M (rs14.set y12.toNat (LR.mk x35 r62h)) := All.set (All.monoLR fa16 fl (.refl _)) ((r62q.mono fl (.refl _)))
    refine Lst.storeS (i := 0) rfl rfl rfl rfl rfl Try.sizeOf34 (vs := [Sl.v r62h]) rfl rfl (by decide) rfl (xs' := encs (rs14.set y12.toNat (LR.mk x35 r62h))) ((Put.elemN (s := 1) (y := (LR.mk x35 r62h)) rfl r66g (Put.here (vs := [Sl.v r62h]) rfl)).off (by omega)) (L' := (.own s_a0 34 1 (encs (rs14.set y12.toNat (LR.mk x35 r62h)))) :: L) rfl ?_
    refine hds inv (sc1 (.refl _)) ?_
    refine HdJ.done (by kernel_rfl) ?_
    exact At.meetN (r64h, x39, p47, (rs14.set y12.toNat (LR.mk x35 r62h))) fl ⟨rfl, rfl, rfl, rfl, rfl, rfl, rfl, rfl, rfl, trivial⟩ rfl ⟨h60, (r64q.mono fl (.refl _)), hm67, (All.monoLR ha68 fl (.refl _))⟩
   refine HdStep.c (fun inv => ?_) trivial
   have g69 := lat_some h40
   obtain ⟨⟨r70v, r70h⟩, r70g, r70e, r70m⟩ := map_get fm15 g69.2.2
   obtain rfl : x39 = r70v := r70e.symm
   have r70q : Rd w0 _ _ r70h x39 := fa16 _ r70m
   refine Lst.r (Ev.indexS (α := LR Int) (xs := rs14) rfl rfl Try.runUnderlying56 Try.sizeOf34 rfl (by decide) (rdo 0 rfl rfl rfl) g69.1 (by have := map_len fm15; omega)) ?_
   refine hds inv (sc1 (.refl _)) ?_
   refine HdJ.step [9, 13] (by kernel_rfl) rfl ?_
   refine HdStep.c (fun inv => ?_) ?_
   ·refine Lst.r (Ev.loadS (α := LR Int) rfl (rdo 0 rfl rfl rfl) Try.isAgg34 (v := Sl.v r62h) ((Get.elemN (s := 1) rfl r62g gh0).off (by omega))) ?_
    refine hds inv (sc1 (.refl _)) ?_
    refine HdJ.o1 13 (fun inv => ?_)
    refine Lst.r (Ev.loadS (α := LR Int) rfl (rdo 0 rfl rfl rfl) Try.isAgg34 (v := Sl.v r70h) ((Get.elemN (s := 1) rfl r70g gh0).off (by omega))) ?_
    refine hds inv (sc1 (.refl _)) ?_
    refine HdJ.o1 14 (fun inv => ?_)
    have g71 := lat_some h44
    obtain ⟨⟨r72v, r72h⟩, r72g, r72e, r72m⟩ := map_get fm15 g71.2.2
    obtain rfl : x43 = r72v := r72e.symm
    have r72q : Rd w0 _ _ r72h x43 := fa16 _ r72m
    refine Lst.r (Ev.indexS (α := LR Int) (xs := rs14) rfl rfl Try.runUnderlying56 Try.sizeOf34 rfl (by decide) (rdo 0 rfl rfl rfl) g71.1 (by have := map_len fm15; omega)) ?_
    refine hds inv (sc1 (.refl _)) ?_
    refine HdJ.o1 15 (fun inv => ?_)
    have hm73 : (rs14.set y12.toNat (LR.mk x35 r62h)).map LR.v = p47 := (map_set fm15 _ _).trans h48
    have ha74 : All LR.rel w0 F17 M (rs14.set y12.toNat (LR.mk x35 r62h)) := All.set (All.monoLR fa16 fl (.refl _)) ((r62q.mono fl (.refl _)))
    refine Lst.storeS (i := 0) rfl rfl rfl rfl rfl Try.sizeOf34 (vs := [Sl.v r62h]) rfl rfl (by decide) rfl (xs' := encs (rs14.set y12.toNat (LR.mk x35 r62h))) ((Put.elemN (s := 1) (y := (LR.mk x35 r62h)) rfl r72g (Put.here (vs := [Sl.v r62h]) rfl)).off (by omega)) (L' := (.own s_a0 34 1 (encs (rs14.set y12.toNat (LR.mk x35 r62h)))) :: L) rfl ?_
    refine hds inv (sc1 (.refl _)) ?_
    refine HdJ.done (by kernel_rfl) ?_
    exact At.meetN (r70h, x39, p47, (rs14.set y12.toNat (LR.mk x35 r62h))) fl ⟨rfl, rfl, rfl, rfl, rfl, rfl, rfl, rfl, rfl, trivial⟩ rfl ⟨h60, (r70q.mono fl (.refl _)), hm73, (All.monoLR ha74 fl (.refl _))⟩
   refine HdStep.c (fun inv => ?_) trivial
   refine Lst.r (Ev.loadS (α := LR Int) rfl (rdo 0 rfl rfl rfl) Try.isAgg34 (v := Sl.v r70h) ((Get.elemN (s := 1) rfl r70g gh0).off (by omega))) ?_
   refine hds inv (sc1 (.refl _)) ?_
   refine HdJ.o1 9 (fun inv => ?_)
   refine Lst.r (Ev.loadS (α := LR Int) rfl (rdo 0 rfl rfl rfl) Try.isAgg34 (v := Sl.v r62h) ((Get.elemN (s := 1) rfl r62g gh0).off (by omega))) ?_
   refine hds inv (sc1 (.refl _)) ?_
   refine HdJ.o1 14 (fun inv => ?_)
   have g75 := lat_some h44
   obtain ⟨⟨r76v, r76h⟩, r76g, r76e, r76m⟩ := map_get fm15 g75.2.2
   obtain rfl : x43 = r76v := r76e.symm
   have r76q : Rd w0 _ _ r76h x43 := fa16 _ r76m
   refine Lst.r (Ev.indexS (α := LR Int) (xs := rs14) rfl rfl Try.runUnderlying56 Try.sizeOf34 rfl (by decide) (rdo 0 rfl rfl rfl) g75.1 (by have := map_len fm15; omega)) ?_
   refine hds inv (sc1 (.refl _)) ?_
   refine HdJ.o1 15 (fun inv => ?_)
   have hm77 : (rs14.set y12.toNat (LR.mk x35 r62h)).map LR.v = p47 := (map_set fm15 _ _).trans h48
   have ha78 : All LR.rel w0 F17 M (rs14.set y12.toNat (LR.mk x35 r62h)) := All.set (All.monoLR fa16 fl (.refl _)) ((r62q.mono fl (.refl _)))
   refine Lst.storeS (i := 0) rfl rfl rfl rfl rfl Try.sizeOf34 (vs := [Sl.v r62h]) rfl rfl (by decide) rfl (xs' := encs (rs14.set y12.toNat (LR.mk x35 r62h))) ((Put.elemN (s := 1) (y := (LR.mk x35 r62h)) rfl r76g (Put.here (vs := [Sl.v r62h]) rfl)).off (by omega)) (L' := (.own s_a0 34 1 (encs (rs14.set y12.toNat (LR.mk x35 r62h)))) :: L) rfl ?_
   refine hds inv (sc1 (.refl _)) ?_
   refine HdJ.done (by kernel_rfl) ?_
   exact At.meetN (r70h, x39, p47, (rs14.set y12.toNat (LR.mk x35 r62h))) fl ⟨rfl, rfl, rfl, rfl, rfl, rfl, rfl, rfl, rfl, trivial⟩ rfl ⟨h60, (r70q.mono fl (.refl _)), hm77, (All.monoLR ha78 fl (.refl _))⟩
  refine HdStep.c (fun inv => ?_) trivial
  have g79 := lat_some h40
  obtain ⟨⟨r80v, r80h⟩, r80g, r80e, r80m⟩ := map_get fm15 g79.2.2
  obtain rfl : x39 = r80v := r80e.symm
  have r80q : Rd w0 _ _ r80h x39 := fa16 _ r80m
  refine Lst.r (Ev.indexS (α := LR Int) (xs := rs14) rfl rfl Try.runUnderlying56 Try.sizeOf34 rfl (by decide) (rdo 0 rfl rfl rfl) g79.1 (by have := map_len fm15; omega)) ?_
  refine hds inv (sc1 (.refl _)) ?_
  refine HdJ.step [8, 13] (by kernel_rfl) rfl ?_
  refine HdStep.c (fun inv => ?_) ?_
  ·have g81 := lat_some h36
   obtain ⟨⟨r82v, r82h⟩, r82g, r82e, r82m⟩ := map_get fm15 g81.2.2
   obtain rfl : x35 = r82v := r82e.symm
   have r82q : Rd w0 _ _ r82h x35 := fa16 _ r82m
   refine Lst.r (Ev.indexS (α := LR Int) (xs := rs14) rfl rfl Try.runUnderlying56 Try.sizeOf34 rfl (by decide) (rdo 0 rfl rfl rfl) g81.1 (by have := map_len fm15; omega)) ?_
   refine hds inv (sc1 (.refl _)) ?_
   refine HdJ.step [9, 13] (by kernel_rfl) rfl ?_
   refine HdStep.c (fun inv => ?_) ?_
   ·refine Lst.r (Ev.loadS (α := LR Int) rfl (rdo 0 rfl rfl rfl) Try.isAgg34 (v := Sl.v r82h) ((Get.elemN (s := 1) rfl r82g gh0).off (by omega))) ?_
    refine hds inv (sc1 (.refl _)) ?_
    refine HdJ.o1 13 (fun inv => ?_)
    refine Lst.r (Ev.loadS (α := LR Int) rfl (rdo 0 rfl rfl rfl) Try.isAgg34 (v := Sl.v r80h) ((Get.elemN (s := 1) rfl r80g gh0).off (by omega))) ?_
    refine hds inv (sc1 (.refl _)) ?_
    refine HdJ.o1 14 (fun inv => ?_)
    have g83 := lat_some h44
    obtain ⟨⟨r84v, r84h⟩, r84g, r84e, r84m⟩ := map_get fm15 g83.2.2
    obtain rfl : x43 = r84v := r84e.symm
    have r84q : Rd w0 _ _ r84h x43 := fa16 _ r84m
    refine Lst.r (Ev.indexS (α := LR Int) (xs := rs14) rfl rfl Try.runUnderlying56 Try.sizeOf34 rfl (by decide) (rdo 0 rfl rfl rfl) g83.1 (by have := map_len fm15; omega)) ?_
    refine hds inv (sc1 (.refl _)) ?_
    refine HdJ.o1 15 (fun inv => ?_)
    have hm85 : (rs14.set y12.toNat (LR.mk x35 r82h)).map LR.v = p47 := (map_set fm15 _ _).trans h48
    have ha86 : All LR.rel w0 F17 M (rs14.set y12.toNat (LR.mk x35 r82h)) := All.set (All.monoLR fa16 fl (.refl _)) ((r82q.mono fl (.refl _)))
    refine Lst.storeS (i := 0) rfl rfl rfl rfl rfl Try.sizeOf34 (vs := [Sl.v r82h]) rfl rfl (by decide) rfl (xs' := encs (rs14.set y12.toNat (LR.mk x35 r82h))) ((Put.elemN (s := 1) (y := (LR.mk x35 r82h)) rfl r84g (Put.here (vs := [Sl.v r82h]) rfl)).off (by omega)) (L' := (.own s_a0 34 1 (encs (rs14.set y12.toNat (LR.mk x35 r82h)))) :: L) rfl ?_
    refine hds inv (sc1 (.refl _)) ?_
    refine HdJ.done (by kernel_rfl) ?_
    exact At.meetN (r80h, x39, p47, (rs14.set y12.toNat (LR.mk x35 r82h))) fl ⟨rfl, rfl, rfl, rfl, rfl, rfl, rfl, rfl, rfl, trivial⟩ rfl ⟨h60, (r80q.mono fl (.refl _)), hm85, (All.monoLR ha86 fl (.refl _))⟩
   refine HdStep.c (fun inv => ?_) trivial
   refine Lst.r (Ev.loadS (α := LR Int) rfl (rdo 0 rfl rfl rfl) Try.isAgg34 (v := Sl.v r80h) ((Get.elemN (s := 1) rfl r80g gh0).off (by omega))) ?_
   refine hds inv (sc1 (.refl _)) ?_
   refine HdJ.o1 9 (fun inv => ?_)
   refine Lst.r (Ev.loadS (α := LR Int) rfl (rdo 0 rfl rfl rfl) Try.isAgg34 (v := Sl.v r82h) ((Get.elemN (s := 1) rfl r82g gh0).off (by omega))) ?_
   refine hds inv (sc1 (.refl _)) ?_
   refine HdJ.o1 14 (fun inv => ?_)
   have g87 := lat_some h44
   obtain ⟨⟨r88v, r88h⟩, r88g, r88e, r88m⟩ := map_get fm15 g87.2.2
   obtain rfl : x43 = r88v := r88e.symm
   have r88q : Rd w0 _ _ r88h x43 := fa16 _ r88m
   refine Lst.r (Ev.indexS (α := LR Int) (xs := rs14) rfl rfl Try.runUnderlying56 Try.sizeOf34 rfl (by decide) (rdo 0 rfl rfl rfl) g87.1 (by have := map_len fm15; omega)) ?_
   refine hds inv (sc1 (.refl _)) ?_
   refine HdJ.o1 15 (fun inv => ?_)
   have hm89 : (rs14.set y12.toNat (LR.mk x35 r82h)).map LR.v = p47 := (map_set fm15 _ _).trans h48
   have ha90 : All LR.rel w0 F17 M (rs14.set y12.toNat (LR.mk x35 r82h)) := All.set (All.monoLR fa16 fl (.refl _)) ((r82q.mono fl (.refl _)))
   refine Lst.storeS (i := 0) rfl rfl rfl rfl rfl Try.sizeOf34 (vs := [Sl.v r82h]) rfl rfl (by decide) rfl (xs' := encs (rs14.set y12.toNat (LR.mk x35 r82h))) ((Put.elemN (s := 1) (y := (LR.mk x35 r82h)) rfl r88g (Put.here (vs := [Sl.v r82h]) rfl)).off (by omega)) (L' := (.own s_a0 34 1 (encs (rs14.set y12.toNat (LR.mk x35 r82h)))) :: L) rfl ?_
   refine hds inv (sc1 (.refl _)) ?_
   refine HdJ.done (by kernel_rfl) ?_
   exact At.meetN (r80h, x39, p47, (rs14.set y12.toNat (LR.mk x35 r82h))) fl ⟨rfl, rfl, rfl, rfl, rfl, rfl, rfl, rfl, rfl, trivial⟩ rfl ⟨h60, (r80q.mono fl (.refl _)), hm89, (All.monoLR ha90 fl (.refl _))⟩
  refine HdStep.c (fun inv => ?_) trivial
  refine Lst.r (Ev.loadS (α := LR Int) rfl (rdo 0 rfl rfl rfl) Try.isAgg34 (v := Sl.v r80h) ((Get.elemN (s := 1) rfl r80g gh0).off (by omega))) ?_
  refine hds inv (sc1 (.refl _)) ?_
  refine HdJ.o1 8 (fun inv => ?_)
  have g91 := lat_some h36
  obtain ⟨⟨r92v, r92h⟩, r92g, r92e, r92m⟩ := map_get fm15 g91.2.2
  obtain rfl : x35 = r92v := r92e.symm
  have r92q : Rd w0 _ _ r92h x35 := fa16 _ r92m
  refine Lst.r (Ev.indexS (α := LR Int) (xs := rs14) rfl rfl Try.runUnderlying56 Try.sizeOf34 rfl (by decide) (rdo 0 rfl rfl rfl) g91.1 (by have := map_len fm15; omega)) ?_
  refine hds inv (sc1 (.refl _)) ?_
  refine HdJ.o1 9 (fun inv => ?_)
  refine Lst.r (Ev.loadS (α := LR Int) rfl (rdo 0 rfl rfl rfl) Try.isAgg34 (v := Sl.v r92h) ((Get.elemN (s := 1) rfl r92g gh0).off (by omega))) ?_
  refine hds inv (sc1 (.refl _)) ?_
  refine HdJ.o1 14 (fun inv => ?_)
  have g93 := lat_some h44
  obtain ⟨⟨r94v, r94h⟩, r94g, r94e, r94m⟩ := map_get fm15 g93.2.2
  obtain rfl : x43 = r94v := r94e.symm
  have r94q : Rd w0 _ _ r94h x43 := fa16 _ r94m
  refine Lst.r (Ev.indexS (α := LR Int) (xs := rs14) rfl rfl Try.runUnderlying56 Try.sizeOf34 rfl (by decide) (rdo 0 rfl rfl rfl) g93.1 (by have := map_len fm15; omega)) ?_
  refine hds inv (sc1 (.refl _)) ?_
  refine HdJ.o1 15 (fun inv => ?_)
  have hm95 : (rs14.set y12.toNat (LR.mk x35 r92h)).map LR.v = p47 := (map_set fm15 _ _).trans h48
  have ha96 : All LR.rel w0 F17 M (rs14.set y12.toNat (LR.mk x35 r92h)) := All.set (All.monoLR fa16 fl (.refl _)) ((r92q.mono fl (.refl _)))
  refine Lst.storeS (i := 0) rfl rfl rfl rfl rfl Try.sizeOf34 (vs := [Sl.v r92h]) rfl rfl (by decide) rfl (xs' := encs (rs14.set y12.toNat (LR.mk x35 r92h))) ((Put.elemN (s := 1) (y := (LR.mk x35 r92h)) rfl r94g (Put.here (vs := [Sl.v r92h]) rfl)).off (by omega)) (L' := (.own s_a0 34 1 (encs (rs14.set y12.toNat (LR.mk x35 r92h)))) :: L) rfl ?_
  refine hds inv (sc1 (.refl _)) ?_
  refine HdJ.done (by kernel_rfl) ?_
  exact At.meetN (r80h, x39, p47, (rs14.set y12.toNat (LR.mk x35 r92h))) fl ⟨rfl, rfl, rfl, rfl, rfl, rfl, rfl, rfl, rfl, trivial⟩ rfl ⟨h60, (r80q.mono fl (.refl _)), hm95, (All.monoLR ha96 fl (.refl _))⟩
 rintro F97 ⟨s52, l53, l55, rs56⟩ hF98 ⟨hy, f54, fm57, fa58⟩
 subst hy
 try dsimp only at H
 refine Lst.as (e' := [(0, Sl.v s_a0), (1, iv a1), (2, iv a2), (3, .func (.func 71) #[] #[]), (8, iv y3), (9, iv y12), (39, Sl.v s_a0), (41, iv (w64 (y12 - (1 : Int)))), (50, Sl.v s52)]) (L' := (.own s_a0 34 1 (encs rs56)) :: L) ⟨rfl, rfl, rfl, rfl, rfl, rfl, rfl, rfl, rfl, trivial⟩ rfl ?_
 obtain ⟨x99, h100, H⟩ := bind_some H
 have g101 := lat_some h100
 obtain ⟨⟨r102v, r102h⟩, r102g, r102e, r102m⟩ := map_get fm57 g101.2.2
 obtain rfl : x99 = r102v := r102e.symm
 have r102q : Rd w0 _ _ r102h x99 := fa58 _ r102m
 refine Lst.r (Ev.indexS (α := LR Int) (xs := rs56) rfl rfl Try.runUnderlying56 Try.sizeOf34 rfl (by decide) (rdo 0 rfl rfl rfl) g101.1 (by have := map_len fm57; omega)) ?_
 obtain ⟨p103, h104, H⟩ := Let_some H
 have hm105 : (rs56.set (w64 (y12 - (1 : Int))).toNat (LR.mk l53 s52)).map LR.v = p103 := (map_set fm57 _ _).trans h104
 have ha106 : All LR.rel w0 F97 M (rs56.set (w64 (y12 - (1 : Int))).toNat (LR.mk l53 s52)) := All.set (All.monoLR fa58 fl (.refl _)) ((f54.mono fl (.refl _)))
 refine Lst.storeS (i := 0) rfl rfl rfl rfl rfl Try.sizeOf34 (vs := [Sl.v s52]) rfl rfl (by decide) rfl (xs' := encs (rs56.set (w64 (y12 - (1 : Int))).toNat (LR.mk l53 s52))) ((Put.elemN (s := 1) (y := (LR.mk l53 s52)) rfl r102g (Put.here (vs := [Sl.v s52]) rfl)).off (by omega)) (L' := (.own s_a0 34 1 (encs (rs56.set (w64 (y12 - (1 : Int))).toNat (LR.mk l53 s52)))) :: L) rfl ?_
 refine Lst.nil ?_
 refine At.in_normal ?_
 refine At.then ?_
 refine Cd.region ?_
 refine mv0 rfl ?_
 refine Lst.r (Ev.sub rfl rfl) ?_
 refine Lst.r (Ev.assign rfl) ?_
 refine Lst.nil ?_
 exact At.meet (k11, w64 (y12 - (1 : Int)), p103, (rs56.set (w64 (y12 - (1 : Int))).toNat (LR.mk l53 s52))) (FLe.trans hF18 hF98) ⟨rfl, rfl, rfl, rfl, rfl, rfl, trivial⟩ rfl ⟨⟨hgo11 _ (some_inj H).symm, hm105, (All.monoLR ha106 fl (.refl _))⟩, Nat.lt_succ_self _⟩
end Go.Proofs.Yticifbmaapnfbaa
