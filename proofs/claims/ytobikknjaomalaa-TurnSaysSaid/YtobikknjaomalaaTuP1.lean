/-
  The functions compute their specs; printed by a program.
-/
import Derived.Test.YtobikknjaomalaaTuSp
import Derived.Test.YtobikknjaomalaaGoL
import Derived.Test.YtobikknjaomalaaGoK
import Derived.Test.YtobikknjaomalaaGoI
import Derived.Test.YtobikknjaomalaaGoU
import Derived.Test.YtobikknjaomalaaGoR
import Derived.Test.YtobikknjaomalaaProg
namespace Go.Proofs.Ytobikknjaomalaa
open Go.RowKit Enc
set_option linter.unusedVariables false
set_option linter.unusedSimpArgs false
structure TurnR where
  v : Turn
  h2 : Sl
  h3 : Sl
  h4 : Sl
instance : Enc TurnR := ⟨fun p => enc p.v.N ++ (enc p.v.Has ++ (enc p.h2 ++ (enc p.h3 ++ (enc p.h4)))), 5, fun p => by simp only [List.length_append, Enc.len]; rfl, fun p => by simp only [List.all_append, Enc.one, Bool.and_self]⟩
theorem TurnR.get_N {p : TurnR} {k : Nat} {ch : List Value} (h : Get (enc p.v.N) k ch) : Get (enc p) (0 + k) ch := Get.off (Get.left h) (by omega)
theorem TurnR.put_N {p : TurnR} {k : Nat} {vs : List Value} {y : Int} (h : Put (enc p.v.N) k vs (enc y)) : Put (enc p) (0 + k) vs (enc ({ p with v := { p.v with N := y } } : TurnR)) := Put.off (cs' := enc ({ p with v := { p.v with N := y } } : TurnR)) (Put.left h) (by omega)
theorem TurnR.get_Has {p : TurnR} {k : Nat} {ch : List Value} (h : Get (enc p.v.Has) k ch) : Get (enc p) (1 + k) ch := Get.off (Get.right (m := 1) (Enc.len _) (Get.left h)) (by omega)
theorem TurnR.put_Has {p : TurnR} {k : Nat} {vs : List Value} {y : Int} (h : Put (enc p.v.Has) k vs (enc y)) : Put (enc p) (1 + k) vs (enc ({ p with v := { p.v with Has := y } } : TurnR)) := Put.off (cs' := enc ({ p with v := { p.v with Has := y } } : TurnR)) (Put.right (m := 1) (Enc.len _) (Put.left h)) (by omega)
theorem TurnR.get_Want {p : TurnR} {k : Nat} {ch : List Value} (h : Get (enc p.h2) k ch) : Get (enc p) (2 + k) ch := Get.off (Get.right (m := 1) (Enc.len _) (Get.right (m := 1) (Enc.len _) (Get.left h))) (by omega)
theorem TurnR.put_Want {p : TurnR} {k : Nat} {vs : List Value} {y : Sl} {l : List (List Int)} (h : Put (enc p.h2) k vs (enc y)) : Put (enc p) (2 + k) vs (enc ({ p with v := { p.v with Want := l }, h2 := y } : TurnR)) := Put.off (cs' := enc ({ p with v := { p.v with Want := l }, h2 := y } : TurnR)) (Put.right (m := 1) (Enc.len _) (Put.right (m := 1) (Enc.len _) (Put.left h))) (by omega)
theorem TurnR.get_Log {p : TurnR} {k : Nat} {ch : List Value} (h : Get (enc p.h3) k ch) : Get (enc p) (3 + k) ch := Get.off (Get.right (m := 1) (Enc.len _) (Get.right (m := 1) (Enc.len _) (Get.right (m := 1) (Enc.len _) (Get.left h)))) (by omega)
theorem TurnR.put_Log {p : TurnR} {k : Nat} {vs : List Value} {y : Sl} {l : List Int} (h : Put (enc p.h3) k vs (enc y)) : Put (enc p) (3 + k) vs (enc ({ p with v := { p.v with Log := l }, h3 := y } : TurnR)) := Put.off (cs' := enc ({ p with v := { p.v with Log := l }, h3 := y } : TurnR)) (Put.right (m := 1) (Enc.len _) (Put.right (m := 1) (Enc.len _) (Put.right (m := 1) (Enc.len _) (Put.left h)))) (by omega)
theorem TurnR.get_Told {p : TurnR} {k : Nat} {ch : List Value} (h : Get (enc p.h4) k ch) : Get (enc p) (4 + k) ch := Get.off (Get.right (m := 1) (Enc.len _) (Get.right (m := 1) (Enc.len _) (Get.right (m := 1) (Enc.len _) (Get.right (m := 1) (Enc.len _) h)))) (by omega)
theorem TurnR.put_Told {p : TurnR} {k : Nat} {vs : List Value} {y : Sl} {l : List Int} (h : Put (enc p.h4) k vs (enc y)) : Put (enc p) (4 + k) vs (enc ({ p with v := { p.v with Told := l }, h4 := y } : TurnR)) := Put.off (cs' := enc ({ p with v := { p.v with Told := l }, h4 := y } : TurnR)) (Put.right (m := 1) (Enc.len _) (Put.right (m := 1) (Enc.len _) (Put.right (m := 1) (Enc.len _) (Put.right (m := 1) (Enc.len _) h)))) (by omega)
def TurnR.rel (w0 : World) (F : Frz) (L : List Item) (x : TurnR) : Prop := (∃ rs : List (LR Int), rs.map LR.v = x.v.Want ∧ Rd w0 F L x.h2 rs ∧ All LR.rel w0 F L rs) ∧ Rd w0 F L x.h3 x.v.Log ∧ Rd w0 F L x.h4 x.v.Told
theorem TurnR.mono {w0 : World} {F F' : Frz} {L L' : List Item} {x : TurnR} (h : TurnR.rel w0 F L x) (hF : FLe F F') (hL : L.Sublist L') : TurnR.rel w0 F' L' x :=
  let ⟨h2, h3, h4⟩ := h
  ⟨(let ⟨rs, a, b, c⟩ := h2; ⟨rs, a, b.mono hF hL, All.monoLR c hF hL⟩), h3.mono hF hL, h4.mono hF hL⟩
theorem All.monoTurn {w0 : World} {F F' : Frz} {L L' : List Item} {rs : List TurnR} (h : All TurnR.rel w0 F L rs) (hF : FLe F F') (hL : L.Sublist L') : All TurnR.rel w0 F' L' rs := fun x hx => TurnR.mono (h x hx) hF hL
set_option maxRecDepth 20000 in
theorem slices_Index_int_int_sim {a0 : List Int} {a1 : Int} {s_a0 : Sl} {r : Int} (H : slices_Index_int_int a0 a1 = some r) (w0 : World) (F : Frz) (M L : List Item) (hM : M.Sublist L) (hs_a0 : Rd w0 F M s_a0 a0) : Ok Try.prog w0 95 [Sl.v s_a0, iv a1] F (L) (Is (iv r) (L)) := by
 unfold slices_Index_int_int at H
 refine Ok.enter (m := 2) (n := 19) Try.func95 rfl rfl rfl (by decide) ?_
 refine Cd.env (e' := [(0, Sl.v s_a0), (1, iv a1)]) rfl ?_
 refine Cd.seq ?_
 refine Cd.region ?_
 refine Lst.r (Ev.assign rfl) ?_
 refine Lst.nil ?_
 refine At.then ?_
 refine Cd.seq ?_
 refine Cd.seq ?_
 refine Cd.region ?_
 refine Lst.r (Ev.move rfl) ?_
 refine Lst.r (Ev.lenS (α := Int) (xs := a0) (by decide) rfl rfl Try.runUnderlying36 (hs_a0.mono (FLe.refl _) hM)) ?_
 refine Lst.r (Ev.move rfl) ?_
 refine Lst.nil ?_
 refine At.then ?_
 refine Cd.block ?_
 refine Cd.bound (Rd.le (α := Int) (xs := a0) (by decide) (hs_a0.mono (FLe.refl _) hM)) (fun hN8 => ?_)
 obtain ⟨ol1, H, HKl1⟩ := andThen_some H
 refine Cd.loop (σ := Nat × Nat × Unit) (fun (i1, k1, _u) => [(0, Sl.v s_a0), (1, iv a1), (7, iv (a0.length : Int)), (8, iv (i1 : Int))]) (fun (i1, k1, _u) => L) (fun _ => (fun (i1, k1, _u) => rangeM (slices_Index_int_int_B0 a0 a1) k1 i1 () = some ol1 ∧ i1 + k1 = a0.length)) (fun (i1, k1, _u) => k1) (0, a0.length, ()) ⟨rfl, rfl, rfl, rfl, trivial⟩ rfl ⟨H, by omega⟩ ?_
 rintro F2 ⟨i1, k1, _u⟩ hF3 ⟨H, hik1⟩
 refine Cd.as (e' := [(0, Sl.v s_a0), (1, iv a1), (7, iv (a0.length : Int)), (8, iv (i1 : Int))]) (L' := L) ⟨rfl, rfl, rfl, rfl, trivial⟩ rfl ?_
 rcases k1 with _ | k1
 ·have hc1 : decide ((i1 : Int) < (a0.length : Int)) = false := decide_eq_false (by omega)
  replace H := rangeM_end H
  refine Cd.seq ?_
  refine Cd.region ?_
  refine Lst.r (Ev.lss rfl rfl) ?_
  refine Lst.nil ?_
  refine At.then ?_
  refine Cd.seq ?_
  refine Cd.condF rfl hc1 ?_
  refine Cd.exit ?_
  refine At.then_exit ?_
  refine At.then_exit ?_
  refine At.in_exit ?_
  subst H
  replace H := HKl1
  refine At.then ?_
  refine Cd.seq ?_
  refine Cd.region ?_
  refine Lst.r (Ev.assign rfl) ?_
  refine Lst.nil ?_
  refine At.then ?_
  obtain rfl := some_inj H
  refine Cd.ret ?_
  exact At.ret1 rfl (Res.tmp rfl) hF3 (.refl _) ⟨rfl, rfl⟩
 have hc1 : decide ((i1 : Int) < (a0.length : Int)) = true := decide_eq_true (by omega)
 obtain ⟨c1, H, hgo1, hbrk1, hret1⟩ := rangeM_go H
 unfold slices_Index_int_int_B0 at H
 try dsimp only at H
 refine Cd.seq ?_
 refine Cd.region ?_
 refine Lst.r (Ev.lss rfl rfl) ?_
 refine Lst.nil ?_
 refine At.then ?_
 refine Cd.seq ?_
 refine Cd.condT rfl hc1 ?_
 refine Cd.skip ?_
 refine At.then ?_
 refine Cd.seq ?_
 refine Cd.block ?_
 refine Cd.seq ?_
 refine Cd.region ?_
 refine Lst.r (Ev.move rfl) ?_
 refine Lst.r (Ev.assign rfl) ?_
 refine Lst.nil ?_
 refine At.then ?_
 refine Cd.seq ?_
 refine Cd.region ?_
 refine Lst.r (Ev.move rfl) ?_
 refine Lst.r (Ev.move rfl) ?_
 refine Lst.r (Ev.move rfl) ?_
 obtain ⟨x4, h5, H⟩ := bind_some H
 have g6 := lat_some h5
 refine Lst.r (Ev.indexS (α := Int) (xs := a0) rfl rfl Try.runUnderlying36 Try.sizeOf3 rfl (by decide) (hs_a0.mono hF3 hM) g6.1 g6.2.1) ?_
 refine Lst.r (Ev.loadS (α := Int) rfl (hs_a0.mono hF3 hM) Try.isAgg3 (v := iv x4) ((Get.elemN (s := 1) (x := x4) rfl g6.2.2 (Get.here _)).off (by omega))) ?_
 refine Lst.r (Ev.eql rfl rfl) ?_
 refine Lst.nil ?_
 refine At.then ?_
 rcases Bool.eq_false_or_eq_true (a1 == x4) with hb7 | hb7
 ·replace H := ite_t hb7 H
  refine Cd.condT rfl hb7 ?_
  refine Cd.seq ?_
  refine Cd.region ?_
  refine Lst.r (Ev.move rfl) ?_
  refine Lst.r (Ev.assign rfl) ?_
  refine Lst.nil ?_
  refine At.then ?_
  have H := hret1 _ (some_inj H).symm
  subst H
  replace H := HKl1
  obtain rfl := some_inj H
  refine Cd.ret ?_
  refine At.in_ret ?_
  refine At.then_ret ?_
  refine At.then_ret ?_
  refine At.in_ret ?_
  refine At.then_ret ?_
  exact At.ret1 rfl (Res.tmp rfl) hF3 (.refl _) ⟨rfl, rfl⟩
 replace H := ite_f hb7 H
 refine Cd.condF rfl hb7 ?_
 refine Cd.skip ?_
 refine At.in_normal ?_
 refine At.then ?_
 refine Cd.region ?_
 refine Lst.r (Ev.incr (by omega) rfl rfl) ?_
 refine Lst.r (Ev.move rfl) ?_
 refine Lst.nil ?_
 exact At.meet (i1 + 1, k1, ()) hF3 ⟨rfl, rfl, rfl, rfl, trivial⟩ rfl ⟨⟨hgo1 _ (some_inj H).symm, by omega⟩, Nat.lt_succ_self _⟩
set_option maxRecDepth 20000 in
theorem partref_twice_sim {a0 : List Int} {s_a0 : Sl} {r : Bool} (H : partref_twice a0 = some r) (w0 : World) (F : Frz) (M L : List Item) (hM : M.Sublist L) (hs_a0 : Rd w0 F M s_a0 a0) : Ok Try.prog w0 120 [Sl.v s_a0] F (L) (Is (.bool r) (L)) := by
 unfold partref_twice at H
 refine Ok.enter (m := 1) (n := 26) Try.func120 rfl rfl rfl (by decide) ?_
 refine Cd.env (e' := [(0, Sl.v s_a0)]) rfl ?_
 refine Cd.seq ?_
 refine Cd.region ?_
 refine Lst.r (Ev.assign rfl) ?_
 refine Lst.nil ?_
 refine At.then ?_
 refine Cd.seq ?_
 refine Cd.seq ?_
 refine Cd.region ?_
 refine Lst.r (Ev.move rfl) ?_
 refine Lst.r (Ev.lenS (α := Int) (xs := a0) (by decide) rfl rfl Try.runUnderlying36 (hs_a0.mono (FLe.refl _) hM)) ?_
 refine Lst.r (Ev.move rfl) ?_
 refine Lst.nil ?_
 refine At.then ?_
 refine Cd.block ?_
 refine Cd.bound (Rd.le (α := Int) (xs := a0) (by decide) (hs_a0.mono (FLe.refl _) hM)) (fun hN22 => ?_)
 obtain ⟨ol1, H, HKl1⟩ := andThen_some H
 refine Cd.loop (σ := Nat × Nat × Unit) (fun (i1, k1, _u) => [(0, Sl.v s_a0), (5, Sl.v s_a0), (6, iv (a0.length : Int)), (7, iv (i1 : Int))]) (fun (i1, k1, _u) => L) (fun _ => (fun (i1, k1, _u) => rangeM (partref_twice_B0 a0) k1 i1 () = some ol1 ∧ i1 + k1 = a0.length)) (fun (i1, k1, _u) => k1) (0, a0.length, ()) ⟨rfl, rfl, rfl, rfl, trivial⟩ rfl ⟨H, by omega⟩ ?_
 rintro F2 ⟨i1, k1, _u⟩ hF3 ⟨H, hik1⟩
 refine Cd.as (e' := [(0, Sl.v s_a0), (5, Sl.v s_a0), (6, iv (a0.length : Int)), (7, iv (i1 : Int))]) (L' := L) ⟨rfl, rfl, rfl, rfl, trivial⟩ rfl ?_
 rcases k1 with _ | k1
 ·have hc1 : decide ((i1 : Int) < (a0.length : Int)) = false := decide_eq_false (by omega)
  replace H := rangeM_end H
  refine Cd.seq ?_
  refine Cd.region ?_
  refine Lst.r (Ev.lss rfl rfl) ?_
  refine Lst.nil ?_
  refine At.then ?_
  refine Cd.seq ?_
  refine Cd.condF rfl hc1 ?_
  refine Cd.exit ?_
  refine At.then_exit ?_
  refine At.then_exit ?_
  refine At.in_exit ?_
  subst H
  replace H := HKl1
  refine At.then ?_
  refine Cd.seq ?_
  refine Cd.region ?_
  refine Lst.r (Ev.assign rfl) ?_
  refine Lst.nil ?_
  refine At.then ?_
  obtain rfl := some_inj H
  refine Cd.ret ?_
  exact At.ret1 rfl (Res.tmp rfl) hF3 (.refl _) ⟨rfl, rfl⟩
 have hc1 : decide ((i1 : Int) < (a0.length : Int)) = true := decide_eq_true (by omega)
 obtain ⟨c1, H, hgo1, hbrk1, hret1⟩ := rangeM_go H
 unfold partref_twice_B0 at H
 try dsimp only at H
 refine Cd.seq ?_
 refine Cd.region ?_
 refine Lst.r (Ev.lss rfl rfl) ?_
 refine Lst.nil ?_
 refine At.then ?_
 refine Cd.seq ?_
 refine Cd.condT rfl hc1 ?_
 refine Cd.skip ?_
 refine At.then ?_
 refine Cd.seq ?_
 refine Cd.block ?_
 refine Cd.seq ?_
 refine Cd.region ?_
 refine Lst.r (Ev.move rfl) ?_
 obtain ⟨x4, h5, H⟩ := bind_some H
 have g6 := lat_some h5
 refine Lst.r (Ev.indexS (α := Int) (xs := a0) rfl rfl Try.runUnderlying36 Try.sizeOf3 rfl (by decide) (hs_a0.mono hF3 hM) g6.1 g6.2.1) ?_
 refine Lst.r (Ev.loadS (α := Int) rfl (hs_a0.mono hF3 hM) Try.isAgg3 (v := iv x4) ((Get.elemN (s := 1) (x := x4) rfl g6.2.2 (Get.here _)).off (by omega))) ?_
 refine Lst.r (Ev.assign rfl) ?_
 refine Lst.r (Ev.assign rfl) ?_
 refine Lst.nil ?_
 refine At.then ?_
 refine Cd.seq ?_
 refine Cd.region ?_
 refine Lst.r (Ev.move rfl) ?_
 refine Lst.r (Ev.lss rfl rfl) ?_
 refine Lst.r (Ev.move rfl) ?_
 obtain ⟨o7, H, HKo7⟩ := bind_some H
 refine Lst.join (σ := Bool) 3 (fun y8 => [(0, Sl.v s_a0), (3, iv (i1 : Int)), (4, iv x4), (5, Sl.v s_a0), (6, iv (a0.length : Int)), (7, iv (i1 : Int)), (17, .bool y8)]) (fun y8 => L) (fun _ y8 => y8 = o7) ?_ ?_
 ·rcases Bool.eq_false_or_eq_true (decide (x4 < (0 : Int))) with hb9 | hb9
  ·replace H := ite_t hb9 H
   refine Lst.skip rfl rfl rfl hb9 rfl (by decide) ?_
   refine Lst.skip rfl rfl rfl hb9 rfl (by decide) ?_
   refine Lst.r (Ev.pickT rfl hb9 rfl) ?_
   refine Lst.nil ?_
   exact At.meet true (FLe.refl _) ⟨rfl, rfl, rfl, rfl, rfl, rfl, rfl, trivial⟩ rfl (some_inj H)
  replace H := ite_f hb9 H
  refine Lst.rG hb9 (Ev.move rfl) ?_
  refine Lst.rG hb9 (Ev.gtr rfl rfl) ?_
  refine Lst.r (Ev.pickF rfl hb9 rfl) ?_
  refine Lst.nil ?_
  exact At.meet (decide (x4 > (29 : Int))) (FLe.refl _) ⟨rfl, rfl, rfl, rfl, rfl, rfl, rfl, trivial⟩ rfl (some_inj H)
 rintro F10 y8 hF11 hy
 subst hy
 refine Lst.as (e' := [(0, Sl.v s_a0), (3, iv (i1 : Int)), (4, iv x4), (5, Sl.v s_a0), (6, iv (a0.length : Int)), (7, iv (i1 : Int)), (17, .bool y8)]) (L' := L) ⟨rfl, rfl, rfl, rfl, rfl, rfl, rfl, trivial⟩ rfl ?_
 replace H := HKo7
 refine Lst.r (Ev.move rfl) ?_
 obtain ⟨o12, H, HKo12⟩ := bind_some H
 refine Lst.join (σ := Bool) 6 (fun y13 => [(0, Sl.v s_a0), (5, Sl.v s_a0), (6, iv (a0.length : Int)), (7, iv (i1 : Int)), (24, .bool y13)]) (fun y13 => L) (fun _ y13 => y13 = o12) ?_ ?_
 ·rcases Bool.eq_false_or_eq_true y8 with hb14 | hb14
  ·replace H := ite_t hb14 H
   refine Lst.skip rfl rfl rfl hb14 rfl (by decide) ?_
   refine Lst.skip rfl rfl rfl hb14 rfl (by decide) ?_
   refine Lst.skip rfl rfl rfl hb14 rfl (by decide) ?_
   refine Lst.skip rfl rfl rfl hb14 rfl (by decide) ?_
   refine Lst.skip rfl rfl rfl hb14 rfl (by decide) ?_
   refine Lst.r (Ev.pickT rfl hb14 rfl) ?_
   refine Lst.nil ?_
   exact At.meet true (FLe.refl _) ⟨rfl, rfl, rfl, rfl, rfl, trivial⟩ rfl (some_inj H)
  replace H := ite_f hb14 H
  refine Lst.rG hb14 (Ev.move rfl) ?_
  refine Lst.rG hb14 (Ev.move rfl) ?_
  obtain ⟨r15, h16, H⟩ := bind_some H
  refine Lst.call1G rfl rfl rfl hb14 rfl (by decide) (vs := [Sl.v s_a0, iv x4]) ⟨rfl, rfl, trivial⟩ Try.call95 (slices_Index_int_int_sim h16 w0 _ M _ hM (hs_a0.mono (FLe.trans hF3 hF11) (.refl _))) ?_
  refine Lst.rG hb14 (Ev.move rfl) ?_
  refine Lst.rG hb14 (Ev.neq rfl rfl) ?_
  refine Lst.r (Ev.pickF rfl hb14 rfl) ?_
  refine Lst.nil ?_
  exact At.meet (r15 != (i1 : Int)) (FLe.refl _) ⟨rfl, rfl, rfl, rfl, rfl, trivial⟩ rfl (some_inj H)
 rintro F19 y13 hF20 hy
 subst hy
 refine Lst.as (e' := [(0, Sl.v s_a0), (5, Sl.v s_a0), (6, iv (a0.length : Int)), (7, iv (i1 : Int)), (24, .bool y13)]) (L' := L) ⟨rfl, rfl, rfl, rfl, rfl, trivial⟩ rfl ?_
 replace H := HKo12
 refine Lst.nil ?_
 refine At.then ?_
 rcases Bool.eq_false_or_eq_true y13 with hb21 | hb21
 ·replace H := ite_t hb21 H
  refine Cd.condT rfl hb21 ?_
  refine Cd.seq ?_
  refine Cd.region ?_
  refine Lst.r (Ev.assign rfl) ?_
  refine Lst.nil ?_
  refine At.then ?_
  have H := hret1 _ (some_inj H).symm
  subst H
  replace H := HKl1
  obtain rfl := some_inj H
  refine Cd.ret ?_
  refine At.in_ret ?_
  refine At.then_ret ?_
  refine At.then_ret ?_
  refine At.in_ret ?_
  refine At.then_ret ?_
  exact At.ret1 rfl (Res.tmp rfl) (FLe.trans (FLe.trans hF3 hF11) hF20) (.refl _) ⟨rfl, rfl⟩
 replace H := ite_f hb21 H
 refine Cd.condF rfl hb21 ?_
 refine Cd.skip ?_
 refine At.in_normal ?_
 refine At.then ?_
 refine Cd.region ?_
 refine Lst.r (Ev.incr (by omega) rfl rfl) ?_
 refine Lst.r (Ev.move rfl) ?_
 refine Lst.nil ?_
 exact At.meet (i1 + 1, k1, ()) (FLe.trans (FLe.trans hF3 hF11) hF20) ⟨rfl, rfl, rfl, rfl, trivial⟩ rfl ⟨⟨hgo1 _ (some_inj H).symm, by omega⟩, Nat.lt_succ_self _⟩
set_option maxRecDepth 20000 in
theorem slices_Contains_int_int_sim {a0 : List Int} {a1 : Int} {s_a0 : Sl} {r : Bool} (H : slices_Contains_int_int a0 a1 = some r) (w0 : World) (F : Frz) (M L : List Item) (hM : M.Sublist L) (hs_a0 : Rd w0 F M s_a0 a0) : Ok Try.prog w0 50 [Sl.v s_a0, iv a1] F (L) (Is (.bool r) (L)) := by
 unfold slices_Contains_int_int at H
 refine Ok.enter (m := 2) (n := 9) Try.func50 rfl rfl rfl (by decide) ?_
 refine Cd.env (e' := [(0, Sl.v s_a0), (1, iv a1)]) rfl ?_
 refine Cd.seq ?_
 refine Cd.region ?_
 refine Lst.r (Ev.assign rfl) ?_
 refine Lst.nil ?_
 refine At.then ?_
 refine Cd.seq ?_
 refine Cd.region ?_
 refine Lst.r (Ev.move rfl) ?_
 refine Lst.r (Ev.move rfl) ?_
 obtain ⟨r1, h2, H⟩ := bind_some H
 refine Lst.call1 rfl rfl (by decide) (vs := [Sl.v s_a0, iv a1]) ⟨rfl, rfl, trivial⟩ Try.call95 (slices_Index_int_int_sim h2 w0 _ M _ hM (hs_a0.mono (FLe.refl _) (.refl _))) ?_
 refine Lst.r (Ev.geq rfl rfl) ?_
 refine Lst.r (Ev.assign rfl) ?_
 refine Lst.nil ?_
 refine At.then ?_
 obtain rfl := some_inj H
 refine Cd.ret ?_
 exact At.ret1 rfl (Res.tmp rfl) (FLe.refl _) (.refl _) ⟨rfl, rfl⟩
set_option maxRecDepth 20000 in
theorem partref_TurnErr_sim {a0 : Turn} {s_a0_2 : Sl} {rs_a0_2 : List (LR Int)} {s_a0_3 : Sl} {s_a0_4 : Sl} {r : Int} (H : partref_TurnErr a0 = some r) (w0 : World) (F : Frz) (M L : List Item) (hM : M.Sublist L) (hm_a0_2 : rs_a0_2.map LR.v = a0.Want) (hs_a0_2 : Rd w0 F M s_a0_2 rs_a0_2) (ha_a0_2 : All LR.rel w0 F M rs_a0_2) (hs_a0_3 : Rd w0 F M s_a0_3 a0.Log) (hs_a0_4 : Rd w0 F M s_a0_4 a0.Told) : Ok Try.prog w0 34 [.agg (enc (TurnR.mk a0 s_a0_2 s_a0_3 s_a0_4)).toArray] F (L) (Is (iv r) (L)) := by
 unfold partref_TurnErr at H
 refine Ok.enter (m := 1) (n := 97) Try.func34 rfl rfl rfl (by decide) ?_
 refine Cd.env (e' := [(0, .agg (enc (TurnR.mk a0 s_a0_2 s_a0_3 s_a0_4)).toArray)]) rfl ?_
 refine Cd.seq ?_
 refine Cd.region ?_
 refine Lst.box rfl rfl (by decide) rfl (cs := enc (TurnR.mk a0 s_a0_2 s_a0_3 s_a0_4)) rfl (fun b1 => ?_)
 refine Lst.r (Ev.assign rfl) ?_
 refine Lst.nil ?_
 refine At.then ?_
 refine Cd.seq ?_
 refine Cd.seq ?_
 refine Cd.region ?_
 refine Lst.r (Ev.fieldAddr (off' := 0) rfl Try.runUnderlying59 rfl Try.sizeOf3 rfl rfl) ?_
 refine Lst.r (Ev.load (i := 0) rfl rfl Try.isAgg3 (v := iv a0.N) ((TurnR.get_N (Get.here _)).off (by rfl))) ?_
 refine Lst.r (Ev.lss rfl rfl) ?_
 refine Lst.r (Ev.move rfl) ?_
 obtain ⟨o3, H, HKo3⟩ := bind_some H
 refine Lst.join (σ := Bool) 4 (fun y4 => [(1, pv b1 0), (13, .bool y4)]) (fun y4 => (.blk b1 (enc (TurnR.mk a0 s_a0_2 s_a0_3 s_a0_4)) 59) :: L) (fun _ y4 => y4 = o3) ?_ ?_
 ·rcases Bool.eq_false_or_eq_true (decide (a0.N < (1 : Int))) with hb5 | hb5
  ·replace H := ite_t hb5 H
   refine Lst.skip rfl rfl rfl hb5 rfl (by decide) ?_
   refine Lst.skip rfl rfl rfl hb5 rfl (by decide) ?_
   refine Lst.skip rfl rfl rfl hb5 rfl (by decide) ?_
   refine Lst.r (Ev.pickT rfl hb5 rfl) ?_
   refine Lst.nil ?_
   exact At.meet true (FLe.refl _) ⟨rfl, rfl, trivial⟩ rfl (some_inj H)
  replace H := ite_f hb5 H
  refine Lst.rG hb5 (Ev.fieldAddr (off' := 0) rfl Try.runUnderlying59 rfl Try.sizeOf3 rfl rfl) ?_
  refine Lst.rG hb5 (Ev.load (i := 0) rfl rfl Try.isAgg3 (v := iv a0.N) ((TurnR.get_N (Get.here _)).off (by rfl))) ?_
  refine Lst.rG hb5 (Ev.gtr rfl rfl) ?_
  refine Lst.r (Ev.pickF rfl hb5 rfl) ?_
  refine Lst.nil ?_
  exact At.meet (decide (a0.N > (6 : Int))) (FLe.refl _) ⟨rfl, rfl, trivial⟩ rfl (some_inj H)
 rintro F6 y4 hF7 hy
 subst hy
 refine Lst.as (e' := [(1, pv b1 0), (13, .bool y4)]) (L' := (.blk b1 (enc (TurnR.mk a0 s_a0_2 s_a0_3 s_a0_4)) 59) :: L) ⟨rfl, rfl, trivial⟩ rfl ?_
 replace H := HKo3
 refine Lst.r (Ev.move rfl) ?_
 obtain ⟨o8, H, HKo8⟩ := bind_some H
 refine Lst.join (σ := Bool) 4 (fun y9 => [(1, pv b1 0), (18, .bool y9)]) (fun y9 => (.blk b1 (enc (TurnR.mk a0 s_a0_2 s_a0_3 s_a0_4)) 59) :: L) (fun _ y9 => y9 = o8) ?_ ?_
 ·rcases Bool.eq_false_or_eq_true y4 with hb10 | hb10
  ·replace H := ite_t hb10 H
   refine Lst.skip rfl rfl rfl hb10 rfl (by decide) ?_
   refine Lst.skip rfl rfl rfl hb10 rfl (by decide) ?_
   refine Lst.skip rfl rfl rfl hb10 rfl (by decide) ?_
   refine Lst.r (Ev.pickT rfl hb10 rfl) ?_
   refine Lst.nil ?_
   exact At.meet true (FLe.refl _) ⟨rfl, rfl, trivial⟩ rfl (some_inj H)
  replace H := ite_f hb10 H
  refine Lst.rG hb10 (Ev.fieldAddr (off' := 1) rfl Try.runUnderlying59 rfl Try.sizeOf3 rfl rfl) ?_
  refine Lst.rG hb10 (Ev.load (i := 0) rfl rfl Try.isAgg3 (v := iv a0.Has) ((TurnR.get_Has (Get.here _)).off (by rfl))) ?_
  refine Lst.rG hb10 (Ev.lss rfl rfl) ?_
  refine Lst.r (Ev.pickF rfl hb10 rfl) ?_
  refine Lst.nil ?_
  exact At.meet (decide (a0.Has < (0 : Int))) (FLe.refl _) ⟨rfl, rfl, trivial⟩ rfl (some_inj H)
 rintro F11 y9 hF12 hy
 subst hy
 refine Lst.as (e' := [(1, pv b1 0), (18, .bool y9)]) (L' := (.blk b1 (enc (TurnR.mk a0 s_a0_2 s_a0_3 s_a0_4)) 59) :: L) ⟨rfl, rfl, trivial⟩ rfl ?_
 replace H := HKo8
 refine Lst.r (Ev.move rfl) ?_
 obtain ⟨o13, H, HKo13⟩ := bind_some H
 refine Lst.join (σ := Bool) 6 (fun y14 => [(1, pv b1 0), (25, .bool y14)]) (fun y14 => (.blk b1 (enc (TurnR.mk a0 s_a0_2 s_a0_3 s_a0_4)) 59) :: L) (fun _ y14 => y14 = o13) ?_ ?_
 ·rcases Bool.eq_false_or_eq_true y9 with hb15 | hb15
  ·replace H := ite_t hb15 H
   refine Lst.skip rfl rfl rfl hb15 rfl (by decide) ?_
   refine Lst.skip rfl rfl rfl hb15 rfl (by decide) ?_
   refine Lst.skip rfl rfl rfl hb15 rfl (by decide) ?_
   refine Lst.skip rfl rfl rfl hb15 rfl (by decide) ?_
   refine Lst.skip rfl rfl rfl hb15 rfl (by decide) ?_
   refine Lst.r (Ev.pickT rfl hb15 rfl) ?_
   refine Lst.nil ?_
   exact At.meet true (FLe.refl _) ⟨rfl, rfl, trivial⟩ rfl (some_inj H)
  replace H := ite_f hb15 H
  refine Lst.rG hb15 (Ev.fieldAddr (off' := 1) rfl Try.runUnderlying59 rfl Try.sizeOf3 rfl rfl) ?_
  refine Lst.rG hb15 (Ev.load (i := 0) rfl rfl Try.isAgg3 (v := iv a0.Has) ((TurnR.get_Has (Get.here _)).off (by rfl))) ?_
  refine Lst.rG hb15 (Ev.fieldAddr (off' := 0) rfl Try.runUnderlying59 rfl Try.sizeOf3 rfl rfl) ?_
  refine Lst.rG hb15 (Ev.load (i := 0) rfl rfl Try.isAgg3 (v := iv a0.N) ((TurnR.get_N (Get.here _)).off (by rfl))) ?_
  refine Lst.rG hb15 (Ev.geq rfl rfl) ?_
  refine Lst.r (Ev.pickF rfl hb15 rfl) ?_
  refine Lst.nil ?_
  exact At.meet (decide (a0.Has ≥ a0.N)) (FLe.refl _) ⟨rfl, rfl, trivial⟩ rfl (some_inj H)
 rintro F16 y14 hF17 hy
 subst hy
 refine Lst.as (e' := [(1, pv b1 0), (25, .bool y14)]) (L' := (.blk b1 (enc (TurnR.mk a0 s_a0_2 s_a0_3 s_a0_4)) 59) :: L) ⟨rfl, rfl, trivial⟩ rfl ?_
 replace H := HKo13
 refine Lst.r (Ev.move rfl) ?_
 obtain ⟨o18, H, HKo18⟩ := bind_some H
 refine Lst.join (σ := Bool) 5 (fun y19 => [(1, pv b1 0), (31, .bool y19)]) (fun y19 => (.blk b1 (enc (TurnR.mk a0 s_a0_2 s_a0_3 s_a0_4)) 59) :: L) (fun _ y19 => y19 = o18) ?_ ?_
 ·rcases Bool.eq_false_or_eq_true y14 with hb20 | hb20
  ·replace H := ite_t hb20 H
   refine Lst.skip rfl rfl rfl hb20 rfl (by decide) ?_
   refine Lst.skip rfl rfl rfl hb20 rfl (by decide) ?_
   refine Lst.skip rfl rfl rfl hb20 rfl (by decide) ?_
   refine Lst.skip rfl rfl rfl hb20 rfl (by decide) ?_
   refine Lst.r (Ev.pickT rfl hb20 rfl) ?_
   refine Lst.nil ?_
   exact At.meet true (FLe.refl _) ⟨rfl, rfl, trivial⟩ rfl (some_inj H)
  replace H := ite_f hb20 H
  refine Lst.rG hb20 (Ev.fieldAddr (off' := 3) rfl Try.runUnderlying59 rfl Try.sizeOf36 rfl rfl) ?_
  refine Lst.rG hb20 (Ev.load (i := 0) rfl rfl Try.isAgg36 (v := Sl.v s_a0_3) ((TurnR.get_Log (Get.here _)).off (by rfl))) ?_
  refine Lst.rG hb20 (Ev.lenS (α := Int) (xs := a0.Log) (by decide) rfl rfl Try.runUnderlying36 (hs_a0_3.mono (FLe.trans (FLe.trans hF7 hF12) hF17) (sc1 hM))) ?_
  refine Lst.rG hb20 (Ev.gtr rfl rfl) ?_
  refine Lst.r (Ev.pickF rfl hb20 rfl) ?_
  refine Lst.nil ?_
  exact At.meet (decide ((a0.Log.length : Int) > (100 : Int))) (FLe.refl _) ⟨rfl, rfl, trivial⟩ rfl (some_inj H)
 rintro F21 y19 hF22 hy
 subst hy
 refine Lst.as (e' := [(1, pv b1 0), (31, .bool y19)]) (L' := (.blk b1 (enc (TurnR.mk a0 s_a0_2 s_a0_3 s_a0_4)) 59) :: L) ⟨rfl, rfl, trivial⟩ rfl ?_
 replace H := HKo18
 refine Lst.nil ?_
 refine At.then ?_
 rcases Bool.eq_false_or_eq_true y19 with hb23 | hb23
 ·replace H := ite_t hb23 H
  refine Cd.condT rfl hb23 ?_
  refine Cd.seq ?_
  refine Cd.region ?_
  refine Lst.r (Ev.assign rfl) ?_
  refine Lst.nil ?_
  refine At.then ?_
  obtain rfl := some_inj H
  refine Cd.ret ?_
  refine At.then_ret ?_
  exact At.ret1 rfl (Res.tmp rfl) (FLe.trans (FLe.trans (FLe.trans hF7 hF12) hF17) hF22) (sc1 (.refl _)) ⟨rfl, rfl⟩
 replace H := ite_f hb23 H
 refine Cd.condF rfl hb23 ?_
 refine Cd.skip ?_
 refine At.then ?_
 refine Cd.seq ?_
 refine Cd.seq ?_
 refine Cd.region ?_
 refine Lst.r (Ev.fieldAddr (off' := 2) rfl Try.runUnderlying59 rfl Try.sizeOf57 rfl rfl) ?_
 refine Lst.r (Ev.load (i := 0) rfl rfl Try.isAgg57 (v := Sl.v s_a0_2) ((TurnR.get_Want (Get.here _)).off (by rfl))) ?_
 refine Lst.r (Ev.lenM (map_len hm_a0_2) (Ev.lenS (α := LR Int) (xs := rs_a0_2) (by decide) rfl rfl Try.runUnderlying57 (hs_a0_2.mono (FLe.trans (FLe.trans (FLe.trans hF7 hF12) hF17) hF22) (sc1 hM)))) ?_
 refine Lst.r (Ev.fieldAddr (off' := 0) rfl Try.runUnderlying59 rfl Try.sizeOf3 rfl rfl) ?_
 refine Lst.r (Ev.load (i := 0) rfl rfl Try.isAgg3 (v := iv a0.N) ((TurnR.get_N (Get.here _)).off (by rfl))) ?_
 refine Lst.r (Ev.neq rfl rfl) ?_
 refine Lst.r (Ev.move rfl) ?_
 obtain ⟨o25, H, HKo25⟩ := bind_some H
 refine Lst.join (σ := Bool) 7 (fun y26 => [(1, pv b1 0), (45, .bool y26)]) (fun y26 => (.blk b1 (enc (TurnR.mk a0 s_a0_2 s_a0_3 s_a0_4)) 59) :: L) (fun _ y26 => y26 = o25) ?_ ?_
 ·rcases Bool.eq_false_or_eq_true ((a0.Want.length : Int) != a0.N) with hb27 | hb27
  ·replace H := ite_t hb27 H
   refine Lst.skip rfl rfl rfl hb27 rfl (by decide) ?_
   refine Lst.skip rfl rfl rfl hb27 rfl (by decide) ?_
   refine Lst.skip rfl rfl rfl hb27 rfl (by decide) ?_
   refine Lst.skip rfl rfl rfl hb27 rfl (by decide) ?_
   refine Lst.skip rfl rfl rfl hb27 rfl (by decide) ?_
   refine Lst.skip rfl rfl rfl hb27 rfl (by decide) ?_
   refine Lst.r (Ev.pickT rfl hb27 rfl) ?_
   refine Lst.nil ?_
   exact At.meet true (FLe.refl _) ⟨rfl, rfl, trivial⟩ rfl (some_inj H)
  replace H := ite_f hb27 H
  refine Lst.rG hb27 (Ev.fieldAddr (off' := 4) rfl Try.runUnderlying59 rfl Try.sizeOf36 rfl rfl) ?_
  refine Lst.rG hb27 (Ev.load (i := 0) rfl rfl Try.isAgg36 (v := Sl.v s_a0_4) ((TurnR.get_Told (Get.here _)).off (by rfl))) ?_
  refine Lst.rG hb27 (Ev.lenS (α := Int) (xs := a0.Told) (by decide) rfl rfl Try.runUnderlying36 (hs_a0_4.mono (FLe.trans (FLe.trans (FLe.trans hF7 hF12) hF17) hF22) (sc1 hM))) ?_
  refine Lst.rG hb27 (Ev.fieldAddr (off' := 0) rfl Try.runUnderlying59 rfl Try.sizeOf3 rfl rfl) ?_
  refine Lst.rG hb27 (Ev.load (i := 0) rfl rfl Try.isAgg3 (v := iv a0.N) ((TurnR.get_N (Get.here _)).off (by rfl))) ?_
  refine Lst.rG hb27 (Ev.neq rfl rfl) ?_
  refine Lst.r (Ev.pickF rfl hb27 rfl) ?_
  refine Lst.nil ?_
  exact At.meet ((a0.Told.length : Int) != a0.N) (FLe.refl _) ⟨rfl, rfl, trivial⟩ rfl (some_inj H)
 rintro F28 y26 hF29 hy
 subst hy
 refine Lst.as (e' := [(1, pv b1 0), (45, .bool y26)]) (L' := (.blk b1 (enc (TurnR.mk a0 s_a0_2 s_a0_3 s_a0_4)) 59) :: L) ⟨rfl, rfl, trivial⟩ rfl ?_
 replace H := HKo25
 refine Lst.r (Ev.move rfl) ?_
 obtain ⟨o30, H, HKo30⟩ := bind_some H
 refine Lst.join (σ := Bool) 4 (fun y31 => [(1, pv b1 0), (50, .bool y31)]) (fun y31 => (.blk b1 (enc (TurnR.mk a0 s_a0_2 s_a0_3 s_a0_4)) 59) :: L) (fun _ y31 => y31 = o30) ?_ ?_
 ·rcases Bool.eq_false_or_eq_true y26 with hb32 | hb32
  ·replace H := ite_t hb32 H
   refine Lst.skip rfl rfl rfl hb32 rfl (by decide) ?_
   refine Lst.skip rfl rfl rfl hb32 rfl (by decide) ?_
   refine Lst.skip rfl rfl rfl hb32 rfl (by decide) ?_
   refine Lst.r (Ev.pickT rfl hb32 rfl) ?_
   refine Lst.nil ?_
   exact At.meet true (FLe.refl _) ⟨rfl, rfl, trivial⟩ rfl (some_inj H)
  replace H := ite_f hb32 H
  refine Lst.rG hb32 (Ev.fieldAddr (off' := 3) rfl Try.runUnderlying59 rfl Try.sizeOf36 rfl rfl) ?_
  refine Lst.rG hb32 (Ev.load (i := 0) rfl rfl Try.isAgg36 (v := Sl.v s_a0_3) ((TurnR.get_Log (Get.here _)).off (by rfl))) ?_
  obtain ⟨r33, h34, H⟩ := bind_some H
  refine Lst.call1G rfl rfl rfl hb32 rfl (by decide) (vs := [Sl.v s_a0_3]) ⟨rfl, trivial⟩ Try.call120 (partref_twice_sim h34 w0 _ M _ (sc1 hM) (hs_a0_3.mono (FLe.trans (FLe.trans (FLe.trans (FLe.trans hF7 hF12) hF17) hF22) hF29) (.refl _))) ?_
  refine Lst.r (Ev.pickF rfl hb32 rfl) ?_
  refine Lst.nil ?_
  exact At.meet r33 (FLe.refl _) ⟨rfl, rfl, trivial⟩ rfl (some_inj H)
 rintro F37 y31 hF38 hy
 subst hy
 refine Lst.as (e' := [(1, pv b1 0), (50, .bool y31)]) (L' := (.blk b1 (enc (TurnR.mk a0 s_a0_2 s_a0_3 s_a0_4)) 59) :: L) ⟨rfl, rfl, trivial⟩ rfl ?_
 replace H := HKo30
 refine Lst.nil ?_
 refine At.then ?_
 rcases Bool.eq_false_or_eq_true y31 with hb39 | hb39
 ·replace H := ite_t hb39 H
  refine Cd.condT rfl hb39 ?_
  refine Cd.seq ?_
  refine Cd.region ?_
  refine Lst.r (Ev.assign rfl) ?_
  refine Lst.nil ?_
  refine At.then ?_
  obtain rfl := some_inj H
  refine Cd.ret ?_
  refine At.then_ret ?_
  exact At.ret1 rfl (Res.tmp rfl) (FLe.trans (FLe.trans (FLe.trans (FLe.trans (FLe.trans hF7 hF12) hF17) hF22) hF29) hF38) (sc1 (.refl _)) ⟨rfl, rfl⟩
 replace H := ite_f hb39 H
 refine Cd.condF rfl hb39 ?_
 refine Cd.skip ?_
 refine At.then ?_
 refine Cd.seq ?_
 refine Cd.seq ?_
 refine Cd.region ?_
 refine Lst.r (Ev.fieldAddr (off' := 0) rfl Try.runUnderlying59 rfl Try.sizeOf3 rfl rfl) ?_
 refine Lst.r (Ev.load (i := 0) rfl rfl Try.isAgg3 (v := iv a0.N) ((TurnR.get_N (Get.here _)).off (by rfl))) ?_
 refine Lst.r (Ev.move rfl) ?_
 refine Lst.nil ?_
 refine At.then ?_
 refine Cd.block ?_
 obtain ⟨nn43, hN81, H⟩ := bind_some H
 replace hN81 := upTo_some hN81
 obtain ⟨ol40, H, HKl40⟩ := andThen_some H
 refine Cd.loop (σ := Nat × Nat × Unit) (fun (i40, k40, _u) => [(1, pv b1 0), (52, iv a0.N), (53, iv (i40 : Int))]) (fun (i40, k40, _u) => (.blk b1 (enc (TurnR.mk a0 s_a0_2 s_a0_3 s_a0_4)) 59) :: L) (fun _ => (fun (i40, k40, _u) => rangeM (partref_TurnErr_B0 a0) k40 i40 () = some ol40 ∧ i40 + k40 = nn43)) (fun (i40, k40, _u) => k40) (0, nn43, ()) ⟨rfl, rfl, rfl, trivial⟩ rfl ⟨H, by omega⟩ ?_
 rintro F41 ⟨i40, k40, _u⟩ hF42 ⟨H, hik40⟩
 refine Cd.as (e' := [(1, pv b1 0), (52, iv a0.N), (53, iv (i40 : Int))]) (L' := (.blk b1 (enc (TurnR.mk a0 s_a0_2 s_a0_3 s_a0_4)) 59) :: L) ⟨rfl, rfl, rfl, trivial⟩ rfl ?_
 rcases k40 with _ | k40
 ·have hc40 : decide ((i40 : Int) < a0.N) = false := decide_eq_false (by omega)
  replace H := rangeM_end H
  refine Cd.seq ?_
  refine Cd.region ?_
  refine Lst.r (Ev.lss rfl rfl) ?_
  refine Lst.nil ?_
  refine At.then ?_
  refine Cd.seq ?_
  refine Cd.condF rfl hc40 ?_
  refine Cd.exit ?_
  refine At.then_exit ?_
  refine At.then_exit ?_
  refine At.in_exit ?_
  subst H
  replace H := HKl40
  refine At.then ?_
  refine Cd.seq ?_
  refine Cd.region ?_
  refine Lst.r (Ev.assign rfl) ?_
  refine Lst.nil ?_
  refine At.then ?_
  obtain rfl := some_inj H
  refine Cd.ret ?_
  exact At.ret1 rfl (Res.tmp rfl) (FLe.trans (FLe.trans (FLe.trans (FLe.trans (FLe.trans (FLe.trans hF7 hF12) hF17) hF22) hF29) hF38) hF42) (sc1 (.refl _)) ⟨rfl, rfl⟩
 have hc40 : decide ((i40 : Int) < a0.N) = true := decide_eq_true (by omega)
 obtain ⟨c40, H, hgo40, hbrk40, hret40⟩ := rangeM_go H
 unfold partref_TurnErr_B0 at H
 try dsimp only at H
 refine Cd.seq ?_
 refine Cd.region ?_
 refine Lst.r (Ev.lss rfl rfl) ?_
 refine Lst.nil ?_
 refine At.then ?_
 refine Cd.seq ?_
 refine Cd.condT rfl hc40 ?_
 refine Cd.skip ?_
 refine At.then ?_
 refine Cd.seq ?_
 refine Cd.block ?_
 refine Cd.seq ?_
 refine Cd.region ?_
 refine Lst.r (Ev.move rfl) ?_
 refine Lst.r (Ev.assign rfl) ?_
 refine Lst.nil ?_
 refine At.then ?_
 refine Cd.seq ?_
 refine Cd.seq ?_
 refine Cd.quiet (by kernel_rfl) (by kernel_rfl) ?_
 refine Qt.r (Ev.fieldAddr (off' := 4) rfl Try.runUnderlying59 rfl Try.sizeOf36 rfl rfl) ?_
 refine Qt.r (Ev.load (i := 0) rfl rfl Try.isAgg36 (v := Sl.v s_a0_4) ((TurnR.get_Told (Get.here _)).off (by rfl))) ?_
 refine Qt.r (Ev.move rfl) ?_
 obtain ⟨x44, h45, H⟩ := bind_some H
 have g46 := lat_some h45
 refine Qt.r (Ev.indexS (α := Int) (xs := a0.Told) rfl rfl Try.runUnderlying36 Try.sizeOf3 rfl (by decide) (hs_a0_4.mono (FLe.trans (FLe.trans (FLe.trans (FLe.trans (FLe.trans (FLe.trans hF7 hF12) hF17) hF22) hF29) hF38) hF42) (sc1 hM)) g46.1 g46.2.1) ?_
 refine Qt.r (Ev.loadS (α := Int) rfl (hs_a0_4.mono (FLe.trans (FLe.trans (FLe.trans (FLe.trans (FLe.trans (FLe.trans hF7 hF12) hF17) hF22) hF29) hF38) hF42) (sc1 hM)) Try.isAgg3 (v := iv x44) ((Get.elemN (s := 1) (x := x44) rfl g46.2.2 (Get.here _)).off (by omega))) ?_
 refine Qt.r (Ev.lss rfl rfl) ?_
 refine Qt.r (Ev.move rfl) ?_
 obtain ⟨o47, H, HKo47⟩ := bind_some H
 refine Qt.join (σ := Bool) 10 (fun y48 => [(1, pv b1 0), (3, iv (i40 : Int)), (52, iv a0.N), (53, iv (i40 : Int)), (72, .bool y48)]) (fun y48 => y48 = o47) ?_ ?_
 ·rcases Bool.eq_false_or_eq_true (decide (x44 < (0 : Int))) with hb49 | hb49
  ·replace H := ite_t hb49 H
   refine Qt.skip rfl rfl rfl hb49 rfl (by decide) ?_
   refine Qt.skip rfl rfl rfl hb49 rfl (by decide) ?_
   refine Qt.skip rfl rfl rfl hb49 rfl (by decide) ?_
   refine Qt.skip rfl rfl rfl hb49 rfl (by decide) ?_
   refine Qt.skip rfl rfl rfl hb49 rfl (by decide) ?_
   refine Qt.skip rfl rfl rfl hb49 rfl (by decide) ?_
   refine Qt.skip rfl rfl rfl hb49 rfl (by decide) ?_
   refine Qt.skip rfl rfl rfl hb49 rfl (by decide) ?_
   refine Qt.skip rfl rfl rfl hb49 rfl (by decide) ?_
   refine Qt.r (Ev.pickT rfl hb49 rfl) ?_
   exact Qt.meet true ⟨rfl, rfl, rfl, rfl, rfl, trivial⟩ (some_inj H)
  replace H := ite_f hb49 H
  refine Qt.rG hb49 (Ev.fieldAddr (off' := 4) rfl Try.runUnderlying59 rfl Try.sizeOf36 rfl rfl) ?_
  refine Qt.rG hb49 (Ev.load (i := 0) rfl rfl Try.isAgg36 (v := Sl.v s_a0_4) ((TurnR.get_Told (Get.here _)).off (by rfl))) ?_
  refine Qt.rG hb49 (Ev.move rfl) ?_
  obtain ⟨x50, h51, H⟩ := bind_some H
  have g52 := lat_some h51
  refine Qt.rG hb49 (Ev.indexS (α := Int) (xs := a0.Told) rfl rfl Try.runUnderlying36 Try.sizeOf3 rfl (by decide) (hs_a0_4.mono (FLe.trans (FLe.trans (FLe.trans (FLe.trans (FLe.trans (FLe.trans hF7 hF12) hF17) hF22) hF29) hF38) hF42) (sc1 hM)) g52.1 g52.2.1) ?_
  refine Qt.rG hb49 (Ev.loadS (α := Int) rfl (hs_a0_4.mono (FLe.trans (FLe.trans (FLe.trans (FLe.trans (FLe.trans (FLe.trans hF7 hF12) hF17) hF22) hF29) hF38) hF42) (sc1 hM)) Try.isAgg3 (v := iv x50) ((Get.elemN (s := 1) (x := x50) rfl g52.2.2 (Get.here _)).off (by omega))) ?_
  refine Qt.rG hb49 (Ev.fieldAddr (off' := 3) rfl Try.runUnderlying59 rfl Try.sizeOf36 rfl rfl) ?_
  refine Qt.rG hb49 (Ev.load (i := 0) rfl rfl Try.isAgg36 (v := Sl.v s_a0_3) ((TurnR.get_Log (Get.here _)).off (by rfl))) ?_
  refine Qt.rG hb49 (Ev.lenS (α := Int) (xs := a0.Log) (by decide) rfl rfl Try.runUnderlying36 (hs_a0_3.mono (FLe.trans (FLe.trans (FLe.trans (FLe.trans (FLe.trans (FLe.trans hF7 hF12) hF17) hF22) hF29) hF38) hF42) (sc1 hM))) ?_
  refine Qt.rG hb49 (Ev.gtr rfl rfl) ?_
  refine Qt.r (Ev.pickF rfl hb49 rfl) ?_
  exact Qt.meet (decide (x50 > (a0.Log.length : Int))) ⟨rfl, rfl, rfl, rfl, rfl, trivial⟩ (some_inj H)
 rintro y48 hy
 subst hy
 refine Qt.as (e' := [(1, pv b1 0), (3, iv (i40 : Int)), (52, iv a0.N), (53, iv (i40 : Int)), (72, .bool y48)]) ⟨rfl, rfl, rfl, rfl, rfl, trivial⟩ ?_
 replace H := HKo47
 refine Qt.r (Ev.move rfl) ?_
 obtain ⟨o53, H, HKo53⟩ := bind_some H
 refine Qt.join (σ := Bool) 7 (fun y54 => [(1, pv b1 0), (3, iv (i40 : Int)), (52, iv a0.N), (53, iv (i40 : Int)), (80, .bool y54)]) (fun y54 => y54 = o53) ?_ ?_
 ·rcases Bool.eq_false_or_eq_true y48 with hb55 | hb55
  ·replace H := ite_t hb55 H
   refine Qt.skip rfl rfl rfl hb55 rfl (by decide) ?_
   refine Qt.skip rfl rfl rfl hb55 rfl (by decide) ?_
   refine Qt.skip rfl rfl rfl hb55 rfl (by decide) ?_
   refine Qt.skip rfl rfl rfl hb55 rfl (by decide) ?_
   refine Qt.skip rfl rfl rfl hb55 rfl (by decide) ?_
   refine Qt.skip rfl rfl rfl hb55 rfl (by decide) ?_
   refine Qt.r (Ev.pickT rfl hb55 rfl) ?_
   exact Qt.meet true ⟨rfl, rfl, rfl, rfl, rfl, trivial⟩ (some_inj H)
  replace H := ite_f hb55 H
  refine Qt.rG hb55 (Ev.fieldAddr (off' := 2) rfl Try.runUnderlying59 rfl Try.sizeOf57 rfl rfl) ?_
  refine Qt.rG hb55 (Ev.load (i := 0) rfl rfl Try.isAgg57 (v := Sl.v s_a0_2) ((TurnR.get_Want (Get.here _)).off (by rfl))) ?_
  refine Qt.rG hb55 (Ev.move rfl) ?_
  obtain ⟨x56, h57, H⟩ := bind_some H
  have g58 := lat_some h57
  obtain ⟨⟨r59v, r59h⟩, r59g, r59e, r59m⟩ := map_get hm_a0_2 g58.2.2
  obtain rfl : x56 = r59v := r59e.symm
  have r59q : Rd w0 _ _ r59h x56 := ha_a0_2 _ r59m
  refine Qt.rG hb55 (Ev.indexS (α := LR Int) (xs := rs_a0_2) rfl rfl Try.runUnderlying57 Try.sizeOf36 rfl (by decide) (hs_a0_2.mono (FLe.trans (FLe.trans (FLe.trans (FLe.trans (FLe.trans (FLe.trans hF7 hF12) hF17) hF22) hF29) hF38) hF42) (sc1 hM)) g58.1 (by have := map_len hm_a0_2; omega)) ?_
  refine Qt.rG hb55 (Ev.loadS (α := LR Int) rfl (hs_a0_2.mono (FLe.trans (FLe.trans (FLe.trans (FLe.trans (FLe.trans (FLe.trans hF7 hF12) hF17) hF22) hF29) hF38) hF42) (sc1 hM)) Try.isAgg36 (v := Sl.v r59h) ((Get.elemN (s := 1) rfl r59g (Get.here _)).off (by omega))) ?_
  obtain ⟨r60, h61, H⟩ := bind_some H
  refine Qt.callG rfl rfl rfl hb55 rfl (by decide) (vs := [Sl.v r59h]) ⟨rfl, trivial⟩ Try.call120 (partref_twice_sim h61 w0 _ M _ (sc1 hM) (r59q.mono (FLe.trans (FLe.trans (FLe.trans (FLe.trans (FLe.trans (FLe.trans hF7 hF12) hF17) hF22) hF29) hF38) hF42) (.refl _))) ?_
  refine Qt.r (Ev.pickF rfl hb55 rfl) ?_
  exact Qt.meet r60 ⟨rfl, rfl, rfl, rfl, rfl, trivial⟩ (some_inj H)
 rintro y54 hy
 subst hy
 refine Qt.as (e' := [(1, pv b1 0), (3, iv (i40 : Int)), (52, iv a0.N), (53, iv (i40 : Int)), (80, .bool y54)]) ⟨rfl, rfl, rfl, rfl, rfl, trivial⟩ ?_
 replace H := HKo53
 refine Qt.done ?_
 refine At.then ?_
 rcases Bool.eq_false_or_eq_true y54 with hb64 | hb64
 ·replace H := ite_t hb64 H
  refine Cd.condT rfl hb64 ?_
  refine Cd.seq ?_
  refine Cd.region ?_
  refine Lst.r (Ev.assign rfl) ?_
  refine Lst.nil ?_
  refine At.then ?_
  have H := hret40 _ (some_inj H).symm
  subst H
  replace H := HKl40
  obtain rfl := some_inj H
  refine Cd.ret ?_
  refine At.then_ret ?_
  refine At.in_ret ?_
  refine At.then_ret ?_
  refine At.then_ret ?_
  refine At.in_ret ?_
  refine At.then_ret ?_
  exact At.ret1 rfl (Res.tmp rfl) (FLe.trans (FLe.trans (FLe.trans (FLe.trans (FLe.trans (FLe.trans hF7 hF12) hF17) hF22) hF29) hF38) hF42) (sc1 (.refl _)) ⟨rfl, rfl⟩
 replace H := ite_f hb64 H
 refine Cd.condF rfl hb64 ?_
 refine Cd.skip ?_
 refine At.then ?_
 refine Cd.seq ?_
 refine Cd.region ?_
 refine Lst.r (Ev.fieldAddr (off' := 2) rfl Try.runUnderlying59 rfl Try.sizeOf57 rfl rfl) ?_
 refine Lst.r (Ev.load (i := 0) rfl rfl Try.isAgg57 (v := Sl.v s_a0_2) ((TurnR.get_Want (Get.here _)).off (by rfl))) ?_
 refine Lst.r (Ev.move rfl) ?_
 obtain ⟨x65, h66, H⟩ := bind_some H
 have g67 := lat_some h66
 obtain ⟨⟨r68v, r68h⟩, r68g, r68e, r68m⟩ := map_get hm_a0_2 g67.2.2
 obtain rfl : x65 = r68v := r68e.symm
 have r68q : Rd w0 _ _ r68h x65 := ha_a0_2 _ r68m
 refine Lst.r (Ev.indexS (α := LR Int) (xs := rs_a0_2) rfl rfl Try.runUnderlying57 Try.sizeOf36 rfl (by decide) (hs_a0_2.mono (FLe.trans (FLe.trans (FLe.trans (FLe.trans (FLe.trans (FLe.trans hF7 hF12) hF17) hF22) hF29) hF38) hF42) (sc1 hM)) g67.1 (by have := map_len hm_a0_2; omega)) ?_
 refine Lst.r (Ev.loadS (α := LR Int) rfl (hs_a0_2.mono (FLe.trans (FLe.trans (FLe.trans (FLe.trans (FLe.trans (FLe.trans hF7 hF12) hF17) hF22) hF29) hF38) hF42) (sc1 hM)) Try.isAgg36 (v := Sl.v r68h) ((Get.elemN (s := 1) rfl r68g (Get.here _)).off (by omega))) ?_
 refine Lst.r (Ev.lenS (α := Int) (xs := x65) (by decide) rfl rfl Try.runUnderlying36 (r68q.mono (FLe.trans (FLe.trans (FLe.trans (FLe.trans (FLe.trans (FLe.trans hF7 hF12) hF17) hF22) hF29) hF38) hF42) (sc1 hM))) ?_
 refine Lst.r (Ev.move rfl) ?_
 refine Lst.nil ?_
 refine At.then ?_
 refine Cd.block ?_
 refine Cd.bound (Rd.le (α := Int) (xs := x65) (by decide) (r68q.mono (FLe.trans (FLe.trans (FLe.trans (FLe.trans (FLe.trans (FLe.trans hF7 hF12) hF17) hF22) hF29) hF38) hF42) (sc1 hM))) (fun hN80 => ?_)
 obtain ⟨ol69, H, HKl69⟩ := andThen_some H
 refine Cd.loop (σ := Nat × Nat × Unit) (fun (i69, k69, _u) => [(1, pv b1 0), (52, iv a0.N), (53, iv (i40 : Int)), (85, Sl.v r68h), (86, iv (x65.length : Int)), (87, iv (i69 : Int))]) (fun (i69, k69, _u) => (.blk b1 (enc (TurnR.mk a0 s_a0_2 s_a0_3 s_a0_4)) 59) :: L) (fun _ => (fun (i69, k69, _u) => rangeM (partref_TurnErr_B2 a0 x65) k69 i69 () = some ol69 ∧ i69 + k69 = x65.length)) (fun (i69, k69, _u) => k69) (0, x65.length, ()) ⟨rfl, rfl, rfl, rfl, rfl, rfl, trivial⟩ rfl ⟨H, by omega⟩ ?_
 rintro F70 ⟨i69, k69, _u⟩ hF71 ⟨H, hik69⟩
 refine Cd.as (e' := [(1, pv b1 0), (52, iv a0.N), (53, iv (i40 : Int)), (85, Sl.v r68h), (86, iv (x65.length : Int)), (87, iv (i69 : Int))]) (L' := (.blk b1 (enc (TurnR.mk a0 s_a0_2 s_a0_3 s_a0_4)) 59) :: L) ⟨rfl, rfl, rfl, rfl, rfl, rfl, trivial⟩ rfl ?_
 rcases k69 with _ | k69
 ·have hc69 : decide ((i69 : Int) < (x65.length : Int)) = false := decide_eq_false (by omega)
  replace H := rangeM_end H
  refine Cd.seq ?_
  refine Cd.region ?_
  refine Lst.r (Ev.lss rfl rfl) ?_
  refine Lst.nil ?_
  refine At.then ?_
  refine Cd.seq ?_
  refine Cd.condF rfl hc69 ?_
  refine Cd.exit ?_
  refine At.then_exit ?_
  refine At.then_exit ?_
  refine At.in_exit ?_
  subst H
  replace H := HKl69
  refine At.in_normal ?_
  refine At.then ?_
  refine Cd.region ?_
  refine Lst.r (Ev.incr (by omega) rfl rfl) ?_
  refine Lst.r (Ev.move rfl) ?_
  refine Lst.nil ?_
  exact At.meet (i40 + 1, k40, ()) (FLe.trans hF42 hF71) ⟨rfl, rfl, rfl, trivial⟩ rfl ⟨⟨hgo40 _ (some_inj H).symm, by omega⟩, Nat.lt_succ_self _⟩
 have hc69 : decide ((i69 : Int) < (x65.length : Int)) = true := decide_eq_true (by omega)
 obtain ⟨c69, H, hgo69, hbrk69, hret69⟩ := rangeM_go H
 unfold partref_TurnErr_B2 at H
 try dsimp only at H
 refine Cd.seq ?_
 refine Cd.region ?_
 refine Lst.r (Ev.lss rfl rfl) ?_
 refine Lst.nil ?_
 refine At.then ?_
 refine Cd.seq ?_
 refine Cd.condT rfl hc69 ?_
 refine Cd.skip ?_
 refine At.then ?_
 refine Cd.seq ?_
 refine Cd.block ?_
 refine Cd.seq ?_
 refine Cd.region ?_
 obtain ⟨x72, h73, H⟩ := bind_some H
 have g74 := lat_some h73
 refine Lst.r (Ev.indexS (α := Int) (xs := x65) rfl rfl Try.runUnderlying36 Try.sizeOf3 rfl (by decide) (r68q.mono (FLe.trans (FLe.trans (FLe.trans (FLe.trans (FLe.trans (FLe.trans (FLe.trans hF7 hF12) hF17) hF22) hF29) hF38) hF42) hF71) (sc1 hM)) g74.1 g74.2.1) ?_
 refine Lst.r (Ev.loadS (α := Int) rfl (r68q.mono (FLe.trans (FLe.trans (FLe.trans (FLe.trans (FLe.trans (FLe.trans (FLe.trans hF7 hF12) hF17) hF22) hF29) hF38) hF42) hF71) (sc1 hM)) Try.isAgg3 (v := iv x72) ((Get.elemN (s := 1) (x := x72) rfl g74.2.2 (Get.here _)).off (by omega))) ?_
 refine Lst.r (Ev.assign rfl) ?_
 refine Lst.nil ?_
 refine At.then ?_
 refine Cd.seq ?_
 refine Cd.region ?_
 refine Lst.r (Ev.fieldAddr (off' := 3) rfl Try.runUnderlying59 rfl Try.sizeOf36 rfl rfl) ?_
 refine Lst.r (Ev.load (i := 0) rfl rfl Try.isAgg36 (v := Sl.v s_a0_3) ((TurnR.get_Log (Get.here _)).off (by rfl))) ?_
 refine Lst.r (Ev.move rfl) ?_
 obtain ⟨r75, h76, H⟩ := bind_some H
 refine Lst.call1 rfl rfl (by decide) (vs := [Sl.v s_a0_3, iv x72]) ⟨rfl, rfl, trivial⟩ Try.call50 (slices_Contains_int_int_sim h76 w0 _ M _ (sc1 hM) (hs_a0_3.mono (FLe.trans (FLe.trans (FLe.trans (FLe.trans (FLe.trans (FLe.trans (FLe.trans hF7 hF12) hF17) hF22) hF29) hF38) hF42) hF71) (.refl _))) ?_
 refine Lst.nil ?_
 refine At.then ?_
 rcases Bool.eq_false_or_eq_true r75 with hb79 | hb79
 ·replace H := ite_t hb79 H
  refine Cd.condT rfl hb79 ?_
  refine Cd.seq ?_
  refine Cd.region ?_
  refine Lst.r (Ev.assign rfl) ?_
  refine Lst.nil ?_
  refine At.then ?_
  have H := hret69 _ (some_inj H).symm
  subst H
  replace H := HKl69
  have H := hret40 _ (some_inj H).symm
  subst H
  replace H := HKl40
  obtain rfl := some_inj H
  refine Cd.ret ?_
  refine At.in_ret ?_
  refine At.then_ret ?_
  refine At.then_ret ?_
  refine At.in_ret ?_
  refine At.in_ret ?_
  refine At.then_ret ?_
  refine At.then_ret ?_
  refine At.in_ret ?_
  refine At.then_ret ?_
  exact At.ret1 rfl (Res.tmp rfl) (FLe.trans (FLe.trans (FLe.trans (FLe.trans (FLe.trans (FLe.trans (FLe.trans hF7 hF12) hF17) hF22) hF29) hF38) hF42) hF71) (sc1 (.refl _)) ⟨rfl, rfl⟩
 replace H := ite_f hb79 H
 refine Cd.condF rfl hb79 ?_
 refine Cd.skip ?_
 refine At.in_normal ?_
 refine At.then ?_
 refine Cd.region ?_
 refine Lst.r (Ev.incr (by omega) rfl rfl) ?_
 refine Lst.r (Ev.move rfl) ?_
 refine Lst.nil ?_
 exact At.meet (i69 + 1, k69, ()) hF71 ⟨rfl, rfl, rfl, rfl, rfl, rfl, trivial⟩ rfl ⟨⟨hgo69 _ (some_inj H).symm, by omega⟩, Nat.lt_succ_self _⟩
set_option maxRecDepth 20000 in
theorem turn_in_sim {a0 : Int} {a1 : Int} {a2 : Int} {r : Bool} (H : turn_in a0 a1 a2 = some r) (w0 : World) (F : Frz) (M L : List Item) (hM : M.Sublist L) : Ok Try.prog w0 121 [iv a0, iv a1, iv a2] F (L) (Is (.bool r) (L)) := by
 unfold turn_in at H
 refine Ok.enter (m := 3) (n := 15) Try.func121 rfl rfl rfl (by decide) ?_
 refine Cd.env (e' := [(0, iv a0), (1, iv a1), (2, iv a2)]) rfl ?_
 refine Cd.seq ?_
 refine Cd.region ?_
 refine Lst.r (Ev.assign rfl) ?_
 refine Lst.nil ?_
 refine At.then ?_
 refine Cd.seq ?_
 refine Cd.region ?_
 refine Lst.r (Ev.move rfl) ?_
 refine Lst.r (Ev.move rfl) ?_
 refine Lst.r (Ev.geq rfl rfl) ?_
 refine Lst.r (Ev.move rfl) ?_
 obtain ⟨o1, H, HKo1⟩ := bind_some H
 refine Lst.join (σ := Bool) 4 (fun y2 => [(14, .bool y2)]) (fun y2 => L) (fun _ y2 => y2 = o1) ?_ ?_
 ·rcases (Bool.eq_false_or_eq_true (decide (a0 ≥ a1))).symm with hb3 | hb3
  ·replace H := ite_f hb3 H
   refine Lst.skip rfl rfl rfl hb3 rfl (by decide) ?_
   refine Lst.skip rfl rfl rfl hb3 rfl (by decide) ?_
   refine Lst.skip rfl rfl rfl hb3 rfl (by decide) ?_
   refine Lst.r (Ev.pickF rfl hb3 rfl) ?_
   refine Lst.nil ?_
   exact At.meet false (FLe.refl _) ⟨rfl, trivial⟩ rfl (some_inj H)
  replace H := ite_t hb3 H
  refine Lst.rG hb3 (Ev.move rfl) ?_
  refine Lst.rG hb3 (Ev.move rfl) ?_
  refine Lst.rG hb3 (Ev.leq rfl rfl) ?_
  refine Lst.r (Ev.pickT rfl hb3 rfl) ?_
  refine Lst.nil ?_
  exact At.meet (decide (a0 ≤ a2)) (FLe.refl _) ⟨rfl, trivial⟩ rfl (some_inj H)
 rintro F4 y2 hF5 hy
 subst hy
 refine Lst.as (e' := [(14, .bool y2)]) (L' := L) ⟨rfl, trivial⟩ rfl ?_
 replace H := HKo1
 refine Lst.r (Ev.assign rfl) ?_
 refine Lst.nil ?_
 refine At.then ?_
 obtain rfl := some_inj H
 refine Cd.ret ?_
 exact At.ret1 rfl (Res.tmp rfl) hF5 (.refl _) ⟨rfl, rfl⟩
set_option maxRecDepth 20000 in
theorem turn_message_sim {a0 : Int} {r : Bool} (H : turn_message a0 = some r) (w0 : World) (F : Frz) (M L : List Item) (hM : M.Sublist L) : Ok Try.prog w0 122 [iv a0] F (L) (Is (.bool r) (L)) := by
 unfold turn_message at H
 refine Ok.enter (m := 1) (n := 5) Try.func122 rfl rfl rfl (by decide) ?_
 refine Cd.env (e' := [(0, iv a0)]) rfl ?_
 refine Cd.seq ?_
 refine Cd.region ?_
 refine Lst.r (Ev.assign rfl) ?_
 refine Lst.nil ?_
 refine At.then ?_
 refine Cd.seq ?_
 refine Cd.region ?_
 refine Lst.r (Ev.move rfl) ?_
 obtain ⟨r1, h2, H⟩ := bind_some H
 refine Lst.call1 rfl rfl (by decide) (vs := [iv a0, iv (0 : Int), iv (29 : Int)]) ⟨rfl, rfl, rfl, trivial⟩ Try.call121 (turn_in_sim h2 w0 _ M _ hM) ?_
 refine Lst.r (Ev.assign rfl) ?_
 refine Lst.nil ?_
 refine At.then ?_
 obtain rfl := some_inj H
 refine Cd.ret ?_
 exact At.ret1 rfl (Res.tmp rfl) (FLe.refl _) (.refl _) ⟨rfl, rfl⟩
set_option maxRecDepth 20000 in
theorem turn_twice_sim {a0 : List Int} {s_a0 : Sl} {r : Bool} (H : turn_twice a0 = some r) (w0 : World) (F : Frz) (M L : List Item) (hM : M.Sublist L) (hs_a0 : Rd w0 F M s_a0 a0) : Ok Try.prog w0 125 [Sl.v s_a0] F (L) (Is (.bool r) (L)) := by
 unfold turn_twice at H
 refine Ok.enter (m := 1) (n := 23) Try.func125 rfl rfl rfl (by decide) ?_
 refine Cd.env (e' := [(0, Sl.v s_a0)]) rfl ?_
 refine Cd.seq ?_
 refine Cd.region ?_
 refine Lst.r (Ev.assign rfl) ?_
 refine Lst.nil ?_
 refine At.then ?_
 refine Cd.seq ?_
 refine Cd.seq ?_
 refine Cd.region ?_
 refine Lst.r (Ev.move rfl) ?_
 refine Lst.r (Ev.lenS (α := Int) (xs := a0) (by decide) rfl rfl Try.runUnderlying36 (hs_a0.mono (FLe.refl _) hM)) ?_
 refine Lst.r (Ev.move rfl) ?_
 refine Lst.nil ?_
 refine At.then ?_
 refine Cd.block ?_
 refine Cd.bound (Rd.le (α := Int) (xs := a0) (by decide) (hs_a0.mono (FLe.refl _) hM)) (fun hN26 => ?_)
 obtain ⟨ol1, H, HKl1⟩ := andThen_some H
 refine Cd.loop (σ := Nat × Nat × Unit) (fun (i1, k1, _u) => [(0, Sl.v s_a0), (5, Sl.v s_a0), (6, iv (a0.length : Int)), (7, iv (i1 : Int))]) (fun (i1, k1, _u) => L) (fun _ => (fun (i1, k1, _u) => rangeM (turn_twice_B0 a0) k1 i1 () = some ol1 ∧ i1 + k1 = a0.length)) (fun (i1, k1, _u) => k1) (0, a0.length, ()) ⟨rfl, rfl, rfl, rfl, trivial⟩ rfl ⟨H, by omega⟩ ?_
 rintro F2 ⟨i1, k1, _u⟩ hF3 ⟨H, hik1⟩
 refine Cd.as (e' := [(0, Sl.v s_a0), (5, Sl.v s_a0), (6, iv (a0.length : Int)), (7, iv (i1 : Int))]) (L' := L) ⟨rfl, rfl, rfl, rfl, trivial⟩ rfl ?_
 rcases k1 with _ | k1
 ·have hc1 : decide ((i1 : Int) < (a0.length : Int)) = false := decide_eq_false (by omega)
  replace H := rangeM_end H
  refine Cd.seq ?_
  refine Cd.region ?_
  refine Lst.r (Ev.lss rfl rfl) ?_
  refine Lst.nil ?_
  refine At.then ?_
  refine Cd.seq ?_
  refine Cd.condF rfl hc1 ?_
  refine Cd.exit ?_
  refine At.then_exit ?_
  refine At.then_exit ?_
  refine At.in_exit ?_
  subst H
  replace H := HKl1
  refine At.then ?_
  refine Cd.seq ?_
  refine Cd.region ?_
  refine Lst.r (Ev.assign rfl) ?_
  refine Lst.nil ?_
  refine At.then ?_
  obtain rfl := some_inj H
  refine Cd.ret ?_
  exact At.ret1 rfl (Res.tmp rfl) hF3 (.refl _) ⟨rfl, rfl⟩
 have hc1 : decide ((i1 : Int) < (a0.length : Int)) = true := decide_eq_true (by omega)
 obtain ⟨c1, H, hgo1, hbrk1, hret1⟩ := rangeM_go H
 unfold turn_twice_B0 at H
 try dsimp only at H
 refine Cd.seq ?_
 refine Cd.region ?_
 refine Lst.r (Ev.lss rfl rfl) ?_
 refine Lst.nil ?_
 refine At.then ?_
 refine Cd.seq ?_
 refine Cd.condT rfl hc1 ?_
 refine Cd.skip ?_
 refine At.then ?_
 refine Cd.seq ?_
 refine Cd.block ?_
 refine Cd.seq ?_
 refine Cd.region ?_
 refine Lst.r (Ev.move rfl) ?_
 obtain ⟨x4, h5, H⟩ := bind_some H
 have g6 := lat_some h5
 refine Lst.r (Ev.indexS (α := Int) (xs := a0) rfl rfl Try.runUnderlying36 Try.sizeOf3 rfl (by decide) (hs_a0.mono hF3 hM) g6.1 g6.2.1) ?_
 refine Lst.r (Ev.loadS (α := Int) rfl (hs_a0.mono hF3 hM) Try.isAgg3 (v := iv x4) ((Get.elemN (s := 1) (x := x4) rfl g6.2.2 (Get.here _)).off (by omega))) ?_
 refine Lst.r (Ev.assign rfl) ?_
 refine Lst.r (Ev.assign rfl) ?_
 refine Lst.nil ?_
 refine At.then ?_
 refine Cd.seq ?_
 refine Cd.region ?_
 refine Lst.r (Ev.move rfl) ?_
 obtain ⟨r7, h8, H⟩ := bind_some H
 refine Lst.call1 rfl rfl (by decide) (vs := [iv x4]) ⟨rfl, trivial⟩ Try.call122 (turn_message_sim h8 w0 _ M _ hM) ?_
 refine Lst.r (Ev.not rfl) ?_
 refine Lst.r (Ev.move rfl) ?_
 obtain ⟨o11, H, HKo11⟩ := bind_some H
 refine Lst.join (σ := Bool) 6 (fun y12 => [(0, Sl.v s_a0), (5, Sl.v s_a0), (6, iv (a0.length : Int)), (7, iv (i1 : Int)), (21, .bool y12)]) (fun y12 => L) (fun _ y12 => y12 = o11) ?_ ?_
 ·rcases Bool.eq_false_or_eq_true (!r7) with hb13 | hb13
  ·replace H := ite_t hb13 H
   refine Lst.skip rfl rfl rfl hb13 rfl (by decide) ?_
   refine Lst.skip rfl rfl rfl hb13 rfl (by decide) ?_
   refine Lst.skip rfl rfl rfl hb13 rfl (by decide) ?_
   refine Lst.skip rfl rfl rfl hb13 rfl (by decide) ?_
   refine Lst.skip rfl rfl rfl hb13 rfl (by decide) ?_
   refine Lst.r (Ev.pickT rfl hb13 rfl) ?_
   refine Lst.nil ?_
   exact At.meet true (FLe.refl _) ⟨rfl, rfl, rfl, rfl, rfl, trivial⟩ rfl (some_inj H)
  replace H := ite_f hb13 H
  refine Lst.rG hb13 (Ev.move rfl) ?_
  refine Lst.rG hb13 (Ev.move rfl) ?_
  obtain ⟨m14, h15, H⟩ := bind_some H
  obtain ⟨g16, gl17⟩ := cutL_some h15
  try dsimp only at g16
  have hq18 : Rd w0 F M (s_a0.cut (0 : Int).toNat ((i1 : Int) : Int).toNat 1) m14 := by rw [← gl17]; exact Rd.cut (by decide) hs_a0 (by omega) (by omega)
  refine Lst.rG hb13 (Ev.cut (α := Int) (xs := a0) (i := 0) (j := (i1 : Int)) rfl rfl rfl Try.runUnderlying36 Try.sizeOf3 rfl (by decide) (hs_a0.mono hF3 hM) g16.1 g16.2.1 g16.2.2) ?_
  refine Lst.rG hb13 (Ev.move rfl) ?_
  obtain ⟨r19, h20, H⟩ := bind_some H
  refine Lst.call1G rfl rfl rfl hb13 rfl (by decide) (vs := [Sl.v (s_a0.cut (0 : Int).toNat ((i1 : Int) : Int).toNat 1), iv x4]) ⟨rfl, rfl, trivial⟩ Try.call50 (slices_Contains_int_int_sim h20 w0 _ M _ hM (hq18.mono hF3 (.refl _))) ?_
  refine Lst.r (Ev.pickF rfl hb13 rfl) ?_
  refine Lst.nil ?_
  exact At.meet r19 (FLe.refl _) ⟨rfl, rfl, rfl, rfl, rfl, trivial⟩ rfl (some_inj H)
 rintro F23 y12 hF24 hy
 subst hy
 refine Lst.as (e' := [(0, Sl.v s_a0), (5, Sl.v s_a0), (6, iv (a0.length : Int)), (7, iv (i1 : Int)), (21, .bool y12)]) (L' := L) ⟨rfl, rfl, rfl, rfl, rfl, trivial⟩ rfl ?_
 replace H := HKo11
 refine Lst.nil ?_
 refine At.then ?_
 rcases Bool.eq_false_or_eq_true y12 with hb25 | hb25
 ·replace H := ite_t hb25 H
  refine Cd.condT rfl hb25 ?_
  refine Cd.seq ?_
  refine Cd.region ?_
  refine Lst.r (Ev.assign rfl) ?_
  refine Lst.nil ?_
  refine At.then ?_
  have H := hret1 _ (some_inj H).symm
  subst H
  replace H := HKl1
  obtain rfl := some_inj H
  refine Cd.ret ?_
  refine At.in_ret ?_
  refine At.then_ret ?_
  refine At.then_ret ?_
  refine At.in_ret ?_
  refine At.then_ret ?_
  exact At.ret1 rfl (Res.tmp rfl) (FLe.trans hF3 hF24) (.refl _) ⟨rfl, rfl⟩
 replace H := ite_f hb25 H
 refine Cd.condF rfl hb25 ?_
 refine Cd.skip ?_
 refine At.in_normal ?_
 refine At.then ?_
 refine Cd.region ?_
 refine Lst.r (Ev.incr (by omega) rfl rfl) ?_
 refine Lst.r (Ev.move rfl) ?_
 refine Lst.nil ?_
 exact At.meet (i1 + 1, k1, ()) (FLe.trans hF3 hF24) ⟨rfl, rfl, rfl, rfl, trivial⟩ rfl ⟨⟨hgo1 _ (some_inj H).symm, by omega⟩, Nat.lt_succ_self _⟩
set_option maxRecDepth 20000 in
theorem turn_Check_1_sim {a0 : Int} {a1 : Turn} {b_a1 : Nat} {s_a1_2 : Sl} {rs_a1_2 : List (LR Int)} {s_a1_3 : Sl} {s_a1_4 : Sl} {r : Bool} (H : turn_Check_1 a0 a1 = some r) (w0 : World) (F : Frz) (M L : List Item) (hM : M.Sublist L) (hm_a1_2 : rs_a1_2.map LR.v = a1.Want) (hs_a1_2 : Rd w0 F M s_a1_2 rs_a1_2) (ha_a1_2 : All LR.rel w0 F M rs_a1_2) (hs_a1_3 : Rd w0 F M s_a1_3 a1.Log) (hs_a1_4 : Rd w0 F M s_a1_4 a1.Told) : Ok Try.prog w0 126 [iv a0, pv b_a1 0] F ((.blk b_a1 (enc (TurnR.mk a1 s_a1_2 s_a1_3 s_a1_4)) 59) :: L) (Is (.bool r) ((.blk b_a1 (enc (TurnR.mk a1 s_a1_2 s_a1_3 s_a1_4)) 59) :: L)) := by
 unfold turn_Check_1 at H
 refine Ok.enter (m := 2) (n := 8) Try.func126 rfl rfl rfl (by decide) ?_
 refine Cd.env (e' := [(0, iv a0), (1, pv b_a1 0)]) rfl ?_
 refine Cd.seq ?_
 refine Cd.region ?_
 refine Lst.r (Ev.assign rfl) ?_
 refine Lst.nil ?_
 refine At.then ?_
 refine Cd.seq ?_
 refine Cd.region ?_
 refine Lst.r (Ev.fieldAddr (off' := 3) rfl Try.runUnderlying59 rfl Try.sizeOf36 rfl rfl) ?_
 refine Lst.r (Ev.load (i := 0) rfl rfl Try.isAgg36 (v := Sl.v s_a1_3) ((TurnR.get_Log (Get.here _)).off (by rfl))) ?_
 refine Lst.r (Ev.move rfl) ?_
 obtain ⟨r2, h3, H⟩ := bind_some H
 refine Lst.call1 rfl rfl (by decide) (vs := [Sl.v s_a1_3, iv a0]) ⟨rfl, rfl, trivial⟩ Try.call50 (slices_Contains_int_int_sim h3 w0 _ M _ (sc1 hM) (hs_a1_3.mono (FLe.refl _) (.refl _))) ?_
 refine Lst.r (Ev.assign rfl) ?_
 refine Lst.nil ?_
 refine At.then ?_
 obtain rfl := some_inj H
 refine Cd.ret ?_
 exact At.ret1 rfl (Res.tmp rfl) (FLe.refl _) (sk1 (.refl _)) ⟨rfl, rfl⟩
set_option maxRecDepth 20000 in
theorem slices_IndexFunc_int_int_Check_1_sim {a0 : List Int} {a1_c0 : Turn} {s_a0 : Sl} {b_a1_c0 : Nat} {s_a1_c0_2 : Sl} {rs_a1_c0_2 : List (LR Int)} {s_a1_c0_3 : Sl} {s_a1_c0_4 : Sl} {r : Int} (H : slices_IndexFunc_int_int_Check_1 a0 a1_c0 = some r) (w0 : World) (F : Frz) (M L : List Item) (hM : M.Sublist L) (hs_a0 : Rd w0 F M s_a0 a0) (hm_a1_c0_2 : rs_a1_c0_2.map LR.v = a1_c0.Want) (hs_a1_c0_2 : Rd w0 F M s_a1_c0_2 rs_a1_c0_2) (ha_a1_c0_2 : All LR.rel w0 F M rs_a1_c0_2) (hs_a1_c0_3 : Rd w0 F M s_a1_c0_3 a1_c0.Log) (hs_a1_c0_4 : Rd w0 F M s_a1_c0_4 a1_c0.Told) : Ok Try.prog w0 174 [Sl.v s_a0, .func (.func 126) #[] #[pv b_a1_c0 0]] F ((.blk b_a1_c0 (enc (TurnR.mk a1_c0 s_a1_c0_2 s_a1_c0_3 s_a1_c0_4)) 59) :: L) (Is (iv r) ((.blk b_a1_c0 (enc (TurnR.mk a1_c0 s_a1_c0_2 s_a1_c0_3 s_a1_c0_4)) 59) :: L)) := by
 unfold slices_IndexFunc_int_int_Check_1 at H
 refine Ok.enter (m := 2) (n := 19) Try.func174 rfl rfl rfl (by decide) ?_
 refine Cd.env (e' := [(0, Sl.v s_a0), (1, .func (.func 126) #[] #[pv b_a1_c0 0])]) rfl ?_
 refine Cd.seq ?_
 refine Cd.region ?_
 refine Lst.r (Ev.assign rfl) ?_
 refine Lst.nil ?_
 refine At.then ?_
 refine Cd.seq ?_
 refine Cd.seq ?_
 refine Cd.region ?_
 refine Lst.r (Ev.move rfl) ?_
 refine Lst.r (Ev.lenS (α := Int) (xs := a0) (by decide) rfl rfl Try.runUnderlying36 (hs_a0.mono (FLe.refl _) (sc1 hM))) ?_
 refine Lst.r (Ev.move rfl) ?_
 refine Lst.nil ?_
 refine At.then ?_
 refine Cd.block ?_
 refine Cd.bound (Rd.le (α := Int) (xs := a0) (by decide) (hs_a0.mono (FLe.refl _) (sc1 hM))) (fun hN13 => ?_)
 obtain ⟨ol2, H, HKl2⟩ := andThen_some H
 refine Cd.loop (σ := Nat × Nat × Unit) (fun (i2, k2, _u) => [(0, Sl.v s_a0), (1, .func (.func 126) #[] #[pv b_a1_c0 0]), (7, iv (a0.length : Int)), (8, iv (i2 : Int))]) (fun (i2, k2, _u) => (.blk b_a1_c0 (enc (TurnR.mk a1_c0 s_a1_c0_2 s_a1_c0_3 s_a1_c0_4)) 59) :: L) (fun _ => (fun (i2, k2, _u) => rangeM (slices_IndexFunc_int_int_Check_1_B0 a0 a1_c0) k2 i2 () = some ol2 ∧ i2 + k2 = a0.length)) (fun (i2, k2, _u) => k2) (0, a0.length, ()) ⟨rfl, rfl, rfl, rfl, trivial⟩ rfl ⟨H, by omega⟩ ?_
 rintro F3 ⟨i2, k2, _u⟩ hF4 ⟨H, hik2⟩
 refine Cd.as (e' := [(0, Sl.v s_a0), (1, .func (.func 126) #[] #[pv b_a1_c0 0]), (7, iv (a0.length : Int)), (8, iv (i2 : Int))]) (L' := (.blk b_a1_c0 (enc (TurnR.mk a1_c0 s_a1_c0_2 s_a1_c0_3 s_a1_c0_4)) 59) :: L) ⟨rfl, rfl, rfl, rfl, trivial⟩ rfl ?_
 rcases k2 with _ | k2
 ·have hc2 : decide ((i2 : Int) < (a0.length : Int)) = false := decide_eq_false (by omega)
  replace H := rangeM_end H
  refine Cd.seq ?_
  refine Cd.region ?_
  refine Lst.r (Ev.lss rfl rfl) ?_
  refine Lst.nil ?_
  refine At.then ?_
  refine Cd.seq ?_
  refine Cd.condF rfl hc2 ?_
  refine Cd.exit ?_
  refine At.then_exit ?_
  refine At.then_exit ?_
  refine At.in_exit ?_
  subst H
  replace H := HKl2
  refine At.then ?_
  refine Cd.seq ?_
  refine Cd.region ?_
  refine Lst.r (Ev.assign rfl) ?_
  refine Lst.nil ?_
  refine At.then ?_
  obtain rfl := some_inj H
  refine Cd.ret ?_
  exact At.ret1 rfl (Res.tmp rfl) hF4 (sk1 (.refl _)) ⟨rfl, rfl⟩
 have hc2 : decide ((i2 : Int) < (a0.length : Int)) = true := decide_eq_true (by omega)
 obtain ⟨c2, H, hgo2, hbrk2, hret2⟩ := rangeM_go H
 unfold slices_IndexFunc_int_int_Check_1_B0 at H
 try dsimp only at H
 refine Cd.seq ?_
 refine Cd.region ?_
 refine Lst.r (Ev.lss rfl rfl) ?_
 refine Lst.nil ?_
 refine At.then ?_
 refine Cd.seq ?_
 refine Cd.condT rfl hc2 ?_
 refine Cd.skip ?_
 refine At.then ?_
 refine Cd.seq ?_
 refine Cd.block ?_
 refine Cd.seq ?_
 refine Cd.region ?_
 refine Lst.r (Ev.move rfl) ?_
 refine Lst.r (Ev.assign rfl) ?_
 refine Lst.nil ?_
 refine At.then ?_
 refine Cd.seq ?_
 refine Cd.region ?_
 refine Lst.r (Ev.move rfl) ?_
 refine Lst.r (Ev.move rfl) ?_
 refine Lst.r (Ev.move rfl) ?_
 obtain ⟨x5, h6, H⟩ := bind_some H
 have g7 := lat_some h6
 refine Lst.r (Ev.indexS (α := Int) (xs := a0) rfl rfl Try.runUnderlying36 Try.sizeOf3 rfl (by decide) (hs_a0.mono hF4 (sc1 hM)) g7.1 g7.2.1) ?_
 refine Lst.r (Ev.loadS (α := Int) rfl (hs_a0.mono hF4 (sc1 hM)) Try.isAgg3 (v := iv x5) ((Get.elemN (s := 1) (x := x5) rfl g7.2.2 (Get.here _)).off (by omega))) ?_
 obtain ⟨r8, h9, H⟩ := bind_some H
 refine Lst.callV1 rfl rfl (by decide) (vs := [iv x5]) (cs := [pv b_a1_c0 0]) rfl ⟨rfl, trivial⟩ Try.call126 (turn_Check_1_sim h9 w0 _ M _ hM hm_a1_c0_2 (hs_a1_c0_2.mono hF4 (.refl _)) (All.monoLR ha_a1_c0_2 hF4 (.refl _)) (hs_a1_c0_3.mono hF4 (.refl _)) (hs_a1_c0_4.mono hF4 (.refl _))) ?_
 refine Lst.nil ?_
 refine At.then ?_
 rcases Bool.eq_false_or_eq_true r8 with hb12 | hb12
 ·replace H := ite_t hb12 H
  refine Cd.condT rfl hb12 ?_
  refine Cd.seq ?_
  refine Cd.region ?_
  refine Lst.r (Ev.move rfl) ?_
  refine Lst.r (Ev.assign rfl) ?_
  refine Lst.nil ?_
  refine At.then ?_
  have H := hret2 _ (some_inj H).symm
  subst H
  replace H := HKl2
  obtain rfl := some_inj H
  refine Cd.ret ?_
  refine At.in_ret ?_
  refine At.then_ret ?_
  refine At.then_ret ?_
  refine At.in_ret ?_
  refine At.then_ret ?_
  exact At.ret1 rfl (Res.tmp rfl) hF4 (sk1 (.refl _)) ⟨rfl, rfl⟩
 replace H := ite_f hb12 H
 refine Cd.condF rfl hb12 ?_
 refine Cd.skip ?_
 refine At.in_normal ?_
 refine At.then ?_
 refine Cd.region ?_
 refine Lst.r (Ev.incr (by omega) rfl rfl) ?_
 refine Lst.r (Ev.move rfl) ?_
 refine Lst.nil ?_
 exact At.meet (i2 + 1, k2, ()) hF4 ⟨rfl, rfl, rfl, rfl, trivial⟩ rfl ⟨⟨hgo2 _ (some_inj H).symm, by omega⟩, Nat.lt_succ_self _⟩
set_option maxRecDepth 20000 in
theorem slices_ContainsFunc_int_int_Check_1_sim {a0 : List Int} {a1_c0 : Turn} {s_a0 : Sl} {b_a1_c0 : Nat} {s_a1_c0_2 : Sl} {rs_a1_c0_2 : List (LR Int)} {s_a1_c0_3 : Sl} {s_a1_c0_4 : Sl} {r : Bool} (H : slices_ContainsFunc_int_int_Check_1 a0 a1_c0 = some r) (w0 : World) (F : Frz) (M L : List Item) (hM : M.Sublist L) (hs_a0 : Rd w0 F M s_a0 a0) (hm_a1_c0_2 : rs_a1_c0_2.map LR.v = a1_c0.Want) (hs_a1_c0_2 : Rd w0 F M s_a1_c0_2 rs_a1_c0_2) (ha_a1_c0_2 : All LR.rel w0 F M rs_a1_c0_2) (hs_a1_c0_3 : Rd w0 F M s_a1_c0_3 a1_c0.Log) (hs_a1_c0_4 : Rd w0 F M s_a1_c0_4 a1_c0.Told) : Ok Try.prog w0 93 [Sl.v s_a0, .func (.func 126) #[] #[pv b_a1_c0 0]] F ((.blk b_a1_c0 (enc (TurnR.mk a1_c0 s_a1_c0_2 s_a1_c0_3 s_a1_c0_4)) 59) :: L) (Is (.bool r) ((.blk b_a1_c0 (enc (TurnR.mk a1_c0 s_a1_c0_2 s_a1_c0_3 s_a1_c0_4)) 59) :: L)) := by
 unfold slices_ContainsFunc_int_int_Check_1 at H
 refine Ok.enter (m := 2) (n := 9) Try.func93 rfl rfl rfl (by decide) ?_
 refine Cd.env (e' := [(0, Sl.v s_a0), (1, .func (.func 126) #[] #[pv b_a1_c0 0])]) rfl ?_
 refine Cd.seq ?_
 refine Cd.region ?_
 refine Lst.r (Ev.assign rfl) ?_
 refine Lst.nil ?_
 refine At.then ?_
 refine Cd.seq ?_
 refine Cd.region ?_
 refine Lst.r (Ev.move rfl) ?_
 refine Lst.r (Ev.move rfl) ?_
 obtain ⟨r2, h3, H⟩ := bind_some H
 refine Lst.call1 rfl rfl (by decide) (vs := [Sl.v s_a0, .func (.func 126) #[] #[pv b_a1_c0 0]]) ⟨rfl, rfl, trivial⟩ Try.call174 (slices_IndexFunc_int_int_Check_1_sim h3 w0 _ M _ hM (hs_a0.mono (FLe.refl _) (.refl _)) hm_a1_c0_2 (hs_a1_c0_2.mono (FLe.refl _) (.refl _)) (All.monoLR ha_a1_c0_2 (FLe.refl _) (.refl _)) (hs_a1_c0_3.mono (FLe.refl _) (.refl _)) (hs_a1_c0_4.mono (FLe.refl _) (.refl _))) ?_
 refine Lst.r (Ev.geq rfl rfl) ?_
 refine Lst.r (Ev.assign rfl) ?_
 refine Lst.nil ?_
 refine At.then ?_
 obtain rfl := some_inj H
 refine Cd.ret ?_
 exact At.ret1 rfl (Res.tmp rfl) (FLe.refl _) (sk1 (.refl _)) ⟨rfl, rfl⟩
set_option maxRecDepth 20000 in
theorem turn_Check_sim {a0 : Turn} {s_a0_2 : Sl} {rs_a0_2 : List (LR Int)} {s_a0_3 : Sl} {s_a0_4 : Sl} {r : Int} (H : turn_Check a0 = some r) (w0 : World) (F : Frz) (M L : List Item) (hM : M.Sublist L) (hm_a0_2 : rs_a0_2.map LR.v = a0.Want) (hs_a0_2 : Rd w0 F M s_a0_2 rs_a0_2) (ha_a0_2 : All LR.rel w0 F M rs_a0_2) (hs_a0_3 : Rd w0 F M s_a0_3 a0.Log) (hs_a0_4 : Rd w0 F M s_a0_4 a0.Told) : Ok Try.prog w0 36 [.agg (enc (TurnR.mk a0 s_a0_2 s_a0_3 s_a0_4)).toArray] F (L) (Is (iv r) (L)) := by
 unfold turn_Check at H
 refine Ok.enter (m := 1) (n := 78) Try.func36 rfl rfl rfl (by decide) ?_
 refine Cd.env (e' := [(0, .agg (enc (TurnR.mk a0 s_a0_2 s_a0_3 s_a0_4)).toArray)]) rfl ?_
 refine Cd.seq ?_
 refine Cd.region ?_
 refine Lst.box rfl rfl (by decide) rfl (cs := enc (TurnR.mk a0 s_a0_2 s_a0_3 s_a0_4)) rfl (fun b1 => ?_)
 refine Lst.r (Ev.assign rfl) ?_
 refine Lst.nil ?_
 refine At.then ?_
 refine Cd.seq ?_
 refine Cd.block ?_
 refine Cd.seq ?_
 refine Cd.region ?_
 refine Lst.r (Ev.fieldAddr (off' := 0) rfl Try.runUnderlying59 rfl Try.sizeOf3 rfl rfl) ?_
 refine Lst.r (Ev.load (i := 0) rfl rfl Try.isAgg3 (v := iv a0.N) ((TurnR.get_N (Get.here _)).off (by rfl))) ?_
 obtain ⟨r3, h4, H⟩ := bind_some H
 refine Lst.call1 rfl rfl (by decide) (vs := [iv a0.N, iv (1 : Int), iv (6 : Int)]) ⟨rfl, rfl, rfl, trivial⟩ Try.call121 (turn_in_sim h4 w0 _ M _ (sc1 hM)) ?_
 refine Lst.r (Ev.not rfl) ?_
 refine Lst.r (Ev.move rfl) ?_
 obtain ⟨o7, H, HKo7⟩ := bind_some H
 refine Lst.join (σ := Bool) 8 (fun y8 => [(1, pv b1 0), (18, .bool y8)]) (fun y8 => (.blk b1 (enc (TurnR.mk a0 s_a0_2 s_a0_3 s_a0_4)) 59) :: L) (fun _ y8 => y8 = o7) ?_ ?_
 ·rcases Bool.eq_false_or_eq_true (!r3) with hb9 | hb9
  ·replace H := ite_t hb9 H
   refine Lst.skip rfl rfl rfl hb9 rfl (by decide) ?_
   refine Lst.skip rfl rfl rfl hb9 rfl (by decide) ?_
   refine Lst.skip rfl rfl rfl hb9 rfl (by decide) ?_
   refine Lst.skip rfl rfl rfl hb9 rfl (by decide) ?_
   refine Lst.skip rfl rfl rfl hb9 rfl (by decide) ?_
   refine Lst.skip rfl rfl rfl hb9 rfl (by decide) ?_
   refine Lst.skip rfl rfl rfl hb9 rfl (by decide) ?_
   refine Lst.r (Ev.pickT rfl hb9 rfl) ?_
   refine Lst.nil ?_
   exact At.meet true (FLe.refl _) ⟨rfl, rfl, trivial⟩ rfl (some_inj H)
  replace H := ite_f hb9 H
  refine Lst.rG hb9 (Ev.fieldAddr (off' := 1) rfl Try.runUnderlying59 rfl Try.sizeOf3 rfl rfl) ?_
  refine Lst.rG hb9 (Ev.load (i := 0) rfl rfl Try.isAgg3 (v := iv a0.Has) ((TurnR.get_Has (Get.here _)).off (by rfl))) ?_
  refine Lst.rG hb9 (Ev.fieldAddr (off' := 0) rfl Try.runUnderlying59 rfl Try.sizeOf3 rfl rfl) ?_
  refine Lst.rG hb9 (Ev.load (i := 0) rfl rfl Try.isAgg3 (v := iv a0.N) ((TurnR.get_N (Get.here _)).off (by rfl))) ?_
  refine Lst.rG hb9 (Ev.sub rfl rfl) ?_
  obtain ⟨r10, h11, H⟩ := bind_some H
  refine Lst.call1G rfl rfl rfl hb9 rfl (by decide) (vs := [iv a0.Has, iv (0 : Int), iv (w64 (a0.N - (1 : Int)))]) ⟨rfl, rfl, rfl, trivial⟩ Try.call121 (turn_in_sim h11 w0 _ M _ (sc1 hM)) ?_
  refine Lst.rG hb9 (Ev.not rfl) ?_
  refine Lst.r (Ev.pickF rfl hb9 rfl) ?_
  refine Lst.nil ?_
  exact At.meet (!r10) (FLe.refl _) ⟨rfl, rfl, trivial⟩ rfl (some_inj H)
 rintro F14 y8 hF15 hy
 subst hy
 refine Lst.as (e' := [(1, pv b1 0), (18, .bool y8)]) (L' := (.blk b1 (enc (TurnR.mk a0 s_a0_2 s_a0_3 s_a0_4)) 59) :: L) ⟨rfl, rfl, trivial⟩ rfl ?_
 replace H := HKo7
 refine Lst.r (Ev.move rfl) ?_
 obtain ⟨o16, H, HKo16⟩ := bind_some H
 refine Lst.join (σ := Bool) 5 (fun y17 => [(1, pv b1 0), (24, .bool y17)]) (fun y17 => (.blk b1 (enc (TurnR.mk a0 s_a0_2 s_a0_3 s_a0_4)) 59) :: L) (fun _ y17 => y17 = o16) ?_ ?_
 ·rcases Bool.eq_false_or_eq_true y8 with hb18 | hb18
  ·replace H := ite_t hb18 H
   refine Lst.skip rfl rfl rfl hb18 rfl (by decide) ?_
   refine Lst.skip rfl rfl rfl hb18 rfl (by decide) ?_
   refine Lst.skip rfl rfl rfl hb18 rfl (by decide) ?_
   refine Lst.skip rfl rfl rfl hb18 rfl (by decide) ?_
   refine Lst.r (Ev.pickT rfl hb18 rfl) ?_
   refine Lst.nil ?_
   exact At.meet true (FLe.refl _) ⟨rfl, rfl, trivial⟩ rfl (some_inj H)
  replace H := ite_f hb18 H
  refine Lst.rG hb18 (Ev.fieldAddr (off' := 3) rfl Try.runUnderlying59 rfl Try.sizeOf36 rfl rfl) ?_
  refine Lst.rG hb18 (Ev.load (i := 0) rfl rfl Try.isAgg36 (v := Sl.v s_a0_3) ((TurnR.get_Log (Get.here _)).off (by rfl))) ?_
  refine Lst.rG hb18 (Ev.lenS (α := Int) (xs := a0.Log) (by decide) rfl rfl Try.runUnderlying36 (hs_a0_3.mono hF15 (sc1 hM))) ?_
  refine Lst.rG hb18 (Ev.gtr rfl rfl) ?_
  refine Lst.r (Ev.pickF rfl hb18 rfl) ?_
  refine Lst.nil ?_
  exact At.meet (decide ((a0.Log.length : Int) > (100 : Int))) (FLe.refl _) ⟨rfl, rfl, trivial⟩ rfl (some_inj H)
 rintro F19 y17 hF20 hy
 subst hy
 refine Lst.as (e' := [(1, pv b1 0), (24, .bool y17)]) (L' := (.blk b1 (enc (TurnR.mk a0 s_a0_2 s_a0_3 s_a0_4)) 59) :: L) ⟨rfl, rfl, trivial⟩ rfl ?_
 replace H := HKo16
 refine Lst.r (Ev.assign rfl) ?_
 refine Lst.nil ?_
 refine At.then ?_
 rcases Bool.eq_false_or_eq_true y17 with hb21 | hb21
 ·replace H := ite_t hb21 H
  refine Cd.condT rfl hb21 ?_
  refine Cd.seq ?_
  refine Cd.region ?_
  refine Lst.r (Ev.assign rfl) ?_
  refine Lst.nil ?_
  refine At.then ?_
  obtain rfl := some_inj H
  refine Cd.ret ?_
  refine At.in_ret ?_
  refine At.then_ret ?_
  exact At.ret1 rfl (Res.tmp rfl) (FLe.trans hF15 hF20) (sc1 (.refl _)) ⟨rfl, rfl⟩
 replace H := ite_f hb21 H
 refine Cd.condF rfl hb21 ?_
 refine Cd.seq ?_
 refine Cd.region ?_
 refine Lst.r (Ev.fieldAddr (off' := 2) rfl Try.runUnderlying59 rfl Try.sizeOf57 rfl rfl) ?_
 refine Lst.r (Ev.load (i := 0) rfl rfl Try.isAgg57 (v := Sl.v s_a0_2) ((TurnR.get_Want (Get.here _)).off (by rfl))) ?_
 refine Lst.r (Ev.lenM (map_len hm_a0_2) (Ev.lenS (α := LR Int) (xs := rs_a0_2) (by decide) rfl rfl Try.runUnderlying57 (hs_a0_2.mono (FLe.trans hF15 hF20) (sc1 hM)))) ?_
 refine Lst.r (Ev.fieldAddr (off' := 0) rfl Try.runUnderlying59 rfl Try.sizeOf3 rfl rfl) ?_
 refine Lst.r (Ev.load (i := 0) rfl rfl Try.isAgg3 (v := iv a0.N) ((TurnR.get_N (Get.here _)).off (by rfl))) ?_
 refine Lst.r (Ev.neq rfl rfl) ?_
 refine Lst.r (Ev.move rfl) ?_
 obtain ⟨o23, H, HKo23⟩ := bind_some H
 refine Lst.join (σ := Bool) 7 (fun y24 => [(1, pv b1 0), (39, .bool y24)]) (fun y24 => (.blk b1 (enc (TurnR.mk a0 s_a0_2 s_a0_3 s_a0_4)) 59) :: L) (fun _ y24 => y24 = o23) ?_ ?_
 ·rcases Bool.eq_false_or_eq_true ((a0.Want.length : Int) != a0.N) with hb25 | hb25
  ·replace H := ite_t hb25 H
   refine Lst.skip rfl rfl rfl hb25 rfl (by decide) ?_
   refine Lst.skip rfl rfl rfl hb25 rfl (by decide) ?_
   refine Lst.skip rfl rfl rfl hb25 rfl (by decide) ?_
   refine Lst.skip rfl rfl rfl hb25 rfl (by decide) ?_
   refine Lst.skip rfl rfl rfl hb25 rfl (by decide) ?_
   refine Lst.skip rfl rfl rfl hb25 rfl (by decide) ?_
   refine Lst.r (Ev.pickT rfl hb25 rfl) ?_
   refine Lst.nil ?_
   exact At.meet true (FLe.refl _) ⟨rfl, rfl, trivial⟩ rfl (some_inj H)
  replace H := ite_f hb25 H
  refine Lst.rG hb25 (Ev.fieldAddr (off' := 4) rfl Try.runUnderlying59 rfl Try.sizeOf36 rfl rfl) ?_
  refine Lst.rG hb25 (Ev.load (i := 0) rfl rfl Try.isAgg36 (v := Sl.v s_a0_4) ((TurnR.get_Told (Get.here _)).off (by rfl))) ?_
  refine Lst.rG hb25 (Ev.lenS (α := Int) (xs := a0.Told) (by decide) rfl rfl Try.runUnderlying36 (hs_a0_4.mono (FLe.trans hF15 hF20) (sc1 hM))) ?_
  refine Lst.rG hb25 (Ev.fieldAddr (off' := 0) rfl Try.runUnderlying59 rfl Try.sizeOf3 rfl rfl) ?_
  refine Lst.rG hb25 (Ev.load (i := 0) rfl rfl Try.isAgg3 (v := iv a0.N) ((TurnR.get_N (Get.here _)).off (by rfl))) ?_
  refine Lst.rG hb25 (Ev.neq rfl rfl) ?_
  refine Lst.r (Ev.pickF rfl hb25 rfl) ?_
  refine Lst.nil ?_
  exact At.meet ((a0.Told.length : Int) != a0.N) (FLe.refl _) ⟨rfl, rfl, trivial⟩ rfl (some_inj H)
 rintro F26 y24 hF27 hy
 subst hy
 refine Lst.as (e' := [(1, pv b1 0), (39, .bool y24)]) (L' := (.blk b1 (enc (TurnR.mk a0 s_a0_2 s_a0_3 s_a0_4)) 59) :: L) ⟨rfl, rfl, trivial⟩ rfl ?_
 replace H := HKo23
 refine Lst.r (Ev.move rfl) ?_
 obtain ⟨o28, H, HKo28⟩ := bind_some H
 refine Lst.join (σ := Bool) 4 (fun y29 => [(1, pv b1 0), (44, .bool y29)]) (fun y29 => (.blk b1 (enc (TurnR.mk a0 s_a0_2 s_a0_3 s_a0_4)) 59) :: L) (fun _ y29 => y29 = o28) ?_ ?_
 ·rcases Bool.eq_false_or_eq_true y24 with hb30 | hb30
  ·replace H := ite_t hb30 H
   refine Lst.skip rfl rfl rfl hb30 rfl (by decide) ?_
   refine Lst.skip rfl rfl rfl hb30 rfl (by decide) ?_
   refine Lst.skip rfl rfl rfl hb30 rfl (by decide) ?_
   refine Lst.r (Ev.pickT rfl hb30 rfl) ?_
   refine Lst.nil ?_
   exact At.meet true (FLe.refl _) ⟨rfl, rfl, trivial⟩ rfl (some_inj H)
  replace H := ite_f hb30 H
  refine Lst.rG hb30 (Ev.fieldAddr (off' := 3) rfl Try.runUnderlying59 rfl Try.sizeOf36 rfl rfl) ?_
  refine Lst.rG hb30 (Ev.load (i := 0) rfl rfl Try.isAgg36 (v := Sl.v s_a0_3) ((TurnR.get_Log (Get.here _)).off (by rfl))) ?_
  obtain ⟨r31, h32, H⟩ := bind_some H
  refine Lst.call1G rfl rfl rfl hb30 rfl (by decide) (vs := [Sl.v s_a0_3]) ⟨rfl, trivial⟩ Try.call125 (turn_twice_sim h32 w0 _ M _ (sc1 hM) (hs_a0_3.mono (FLe.trans (FLe.trans hF15 hF20) hF27) (.refl _))) ?_
  refine Lst.r (Ev.pickF rfl hb30 rfl) ?_
  refine Lst.nil ?_
  exact At.meet r31 (FLe.refl _) ⟨rfl, rfl, trivial⟩ rfl (some_inj H)
 rintro F35 y29 hF36 hy
 subst hy
 refine Lst.as (e' := [(1, pv b1 0), (44, .bool y29)]) (L' := (.blk b1 (enc (TurnR.mk a0 s_a0_2 s_a0_3 s_a0_4)) 59) :: L) ⟨rfl, rfl, trivial⟩ rfl ?_
 replace H := HKo28
 refine Lst.r (Ev.assign rfl) ?_
 refine Lst.nil ?_
 refine At.then ?_
 rcases Bool.eq_false_or_eq_true y29 with hb37 | hb37
 ·replace H := ite_t hb37 H
  refine Cd.condT rfl hb37 ?_
  refine Cd.seq ?_
  refine Cd.region ?_
  refine Lst.r (Ev.assign rfl) ?_
  refine Lst.nil ?_
  refine At.then ?_
  obtain rfl := some_inj H
  refine Cd.ret ?_
  refine At.in_ret ?_
  refine At.then_ret ?_
  exact At.ret1 rfl (Res.tmp rfl) (FLe.trans (FLe.trans (FLe.trans hF15 hF20) hF27) hF36) (sc1 (.refl _)) ⟨rfl, rfl⟩
 replace H := ite_f hb37 H
 refine Cd.condF rfl hb37 ?_
 refine Cd.skip ?_
 refine At.in_normal ?_
 refine At.then ?_
 refine Cd.seq ?_
 refine Cd.seq ?_
 refine Cd.region ?_
 refine Lst.r (Ev.fieldAddr (off' := 2) rfl Try.runUnderlying59 rfl Try.sizeOf57 rfl rfl) ?_
 refine Lst.r (Ev.load (i := 0) rfl rfl Try.isAgg57 (v := Sl.v s_a0_2) ((TurnR.get_Want (Get.here _)).off (by rfl))) ?_
 refine Lst.r (Ev.lenM (map_len hm_a0_2) (Ev.lenS (α := LR Int) (xs := rs_a0_2) (by decide) rfl rfl Try.runUnderlying57 (hs_a0_2.mono (FLe.trans (FLe.trans (FLe.trans hF15 hF20) hF27) hF36) (sc1 hM)))) ?_
 refine Lst.r (Ev.move rfl) ?_
 refine Lst.nil ?_
 refine At.then ?_
 refine Cd.block ?_
 refine Cd.bound (Rd.le (α := LR Int) (xs := rs_a0_2) (by decide) (hs_a0_2.mono (FLe.trans (FLe.trans (FLe.trans hF15 hF20) hF27) hF36) (sc1 hM))) (fun hN71 => ?_)
 rw [map_len hm_a0_2] at hN71
 obtain ⟨ol39, H, HKl39⟩ := andThen_some H
 refine Cd.loop (σ := Nat × Nat × Unit) (fun (i39, k39, _u) => [(1, pv b1 0), (46, Sl.v s_a0_2), (47, iv (a0.Want.length : Int)), (48, iv (i39 : Int))]) (fun (i39, k39, _u) => (.blk b1 (enc (TurnR.mk a0 s_a0_2 s_a0_3 s_a0_4)) 59) :: L) (fun _ => (fun (i39, k39, _u) => rangeM (turn_Check_B1 a0) k39 i39 () = some ol39 ∧ i39 + k39 = a0.Want.length)) (fun (i39, k39, _u) => k39) (0, a0.Want.length, ()) ⟨rfl, rfl, rfl, rfl, trivial⟩ rfl ⟨H, by omega⟩ ?_
 rintro F40 ⟨i39, k39, _u⟩ hF41 ⟨H, hik39⟩
 refine Cd.as (e' := [(1, pv b1 0), (46, Sl.v s_a0_2), (47, iv (a0.Want.length : Int)), (48, iv (i39 : Int))]) (L' := (.blk b1 (enc (TurnR.mk a0 s_a0_2 s_a0_3 s_a0_4)) 59) :: L) ⟨rfl, rfl, rfl, rfl, trivial⟩ rfl ?_
 rcases k39 with _ | k39
 ·have hc39 : decide ((i39 : Int) < (a0.Want.length : Int)) = false := decide_eq_false (by omega)
  replace H := rangeM_end H
  refine Cd.seq ?_
  refine Cd.region ?_
  refine Lst.r (Ev.lss rfl rfl) ?_
  refine Lst.nil ?_
  refine At.then ?_
  refine Cd.seq ?_
  refine Cd.condF rfl hc39 ?_
  refine Cd.exit ?_
  refine At.then_exit ?_
  refine At.then_exit ?_
  refine At.in_exit ?_
  subst H
  replace H := HKl39
  refine At.then ?_
  refine Cd.seq ?_
  refine Cd.region ?_
  refine Lst.r (Ev.assign rfl) ?_
  refine Lst.nil ?_
  refine At.then ?_
  obtain rfl := some_inj H
  refine Cd.ret ?_
  exact At.ret1 rfl (Res.tmp rfl) (FLe.trans (FLe.trans (FLe.trans (FLe.trans hF15 hF20) hF27) hF36) hF41) (sc1 (.refl _)) ⟨rfl, rfl⟩
 have hc39 : decide ((i39 : Int) < (a0.Want.length : Int)) = true := decide_eq_true (by omega)
 obtain ⟨c39, H, hgo39, hbrk39, hret39⟩ := rangeM_go H
 unfold turn_Check_B1 at H
 try dsimp only at H
 refine Cd.seq ?_
 refine Cd.region ?_
 refine Lst.r (Ev.lss rfl rfl) ?_
 refine Lst.nil ?_
 refine At.then ?_
 refine Cd.seq ?_
 refine Cd.condT rfl hc39 ?_
 refine Cd.skip ?_
 refine At.then ?_
 refine Cd.seq ?_
 refine Cd.block ?_
 refine Cd.seq ?_
 refine Cd.region ?_
 refine Lst.r (Ev.move rfl) ?_
 obtain ⟨x42, h43, H⟩ := bind_some H
 have g44 := lat_some h43
 obtain ⟨⟨r45v, r45h⟩, r45g, r45e, r45m⟩ := map_get hm_a0_2 g44.2.2
 obtain rfl : x42 = r45v := r45e.symm
 have r45q : Rd w0 _ _ r45h x42 := ha_a0_2 _ r45m
 refine Lst.r (Ev.indexS (α := LR Int) (xs := rs_a0_2) rfl rfl Try.runUnderlying57 Try.sizeOf36 rfl (by decide) (hs_a0_2.mono (FLe.trans (FLe.trans (FLe.trans (FLe.trans hF15 hF20) hF27) hF36) hF41) (sc1 hM)) g44.1 (by have := map_len hm_a0_2; omega)) ?_
 refine Lst.r (Ev.loadS (α := LR Int) rfl (hs_a0_2.mono (FLe.trans (FLe.trans (FLe.trans (FLe.trans hF15 hF20) hF27) hF36) hF41) (sc1 hM)) Try.isAgg36 (v := Sl.v r45h) ((Get.elemN (s := 1) rfl r45g (Get.here _)).off (by omega))) ?_
 refine Lst.r (Ev.assign rfl) ?_
 refine Lst.r (Ev.assign rfl) ?_
 refine Lst.nil ?_
 refine At.then ?_
 refine Cd.seq ?_
 refine Cd.quiet (by kernel_rfl) (by kernel_rfl) ?_
 refine Qt.r (Ev.fieldAddr (off' := 4) rfl Try.runUnderlying59 rfl Try.sizeOf36 rfl rfl) ?_
 refine Qt.r (Ev.load (i := 0) rfl rfl Try.isAgg36 (v := Sl.v s_a0_4) ((TurnR.get_Told (Get.here _)).off (by rfl))) ?_
 refine Qt.r (Ev.move rfl) ?_
 obtain ⟨x46, h47, H⟩ := bind_some H
 have g48 := lat_some h47
 refine Qt.r (Ev.indexS (α := Int) (xs := a0.Told) rfl rfl Try.runUnderlying36 Try.sizeOf3 rfl (by decide) (hs_a0_4.mono (FLe.trans (FLe.trans (FLe.trans (FLe.trans hF15 hF20) hF27) hF36) hF41) (sc1 hM)) g48.1 g48.2.1) ?_
 refine Qt.r (Ev.loadS (α := Int) rfl (hs_a0_4.mono (FLe.trans (FLe.trans (FLe.trans (FLe.trans hF15 hF20) hF27) hF36) hF41) (sc1 hM)) Try.isAgg3 (v := iv x46) ((Get.elemN (s := 1) (x := x46) rfl g48.2.2 (Get.here _)).off (by omega))) ?_
 refine Qt.r (Ev.fieldAddr (off' := 3) rfl Try.runUnderlying59 rfl Try.sizeOf36 rfl rfl) ?_
 refine Qt.r (Ev.load (i := 0) rfl rfl Try.isAgg36 (v := Sl.v s_a0_3) ((TurnR.get_Log (Get.here _)).off (by rfl))) ?_
 refine Qt.r (Ev.lenS (α := Int) (xs := a0.Log) (by decide) rfl rfl Try.runUnderlying36 (hs_a0_3.mono (FLe.trans (FLe.trans (FLe.trans (FLe.trans hF15 hF20) hF27) hF36) hF41) (sc1 hM))) ?_
 obtain ⟨r49, h50, H⟩ := bind_some H
 refine Qt.call rfl rfl (by decide) (vs := [iv x46, iv (0 : Int), iv (a0.Log.length : Int)]) ⟨rfl, rfl, rfl, trivial⟩ Try.call121 (turn_in_sim h50 w0 _ M _ (sc1 hM)) ?_
 refine Qt.r (Ev.not rfl) ?_
 refine Qt.r (Ev.move rfl) ?_
 obtain ⟨o53, H, HKo53⟩ := bind_some H
 refine Qt.join (σ := Bool) 4 (fun y54 => [(1, pv b1 0), (4, Sl.v r45h), (46, Sl.v s_a0_2), (47, iv (a0.Want.length : Int)), (48, iv (i39 : Int)), (67, .bool y54)]) (fun y54 => y54 = o53) ?_ ?_
 ·rcases Bool.eq_false_or_eq_true (!r49) with hb55 | hb55
  ·replace H := ite_t hb55 H
   refine Qt.skip rfl rfl rfl hb55 rfl (by decide) ?_
   refine Qt.skip rfl rfl rfl hb55 rfl (by decide) ?_
   refine Qt.skip rfl rfl rfl hb55 rfl (by decide) ?_
   refine Qt.r (Ev.pickT rfl hb55 rfl) ?_
   exact Qt.meet true ⟨rfl, rfl, rfl, rfl, rfl, rfl, trivial⟩ (some_inj H)
  replace H := ite_f hb55 H
  refine Qt.rG hb55 (Ev.move rfl) ?_
  refine Qt.rG hb55 (Ev.lenS (α := Int) (xs := x42) (by decide) rfl rfl Try.runUnderlying36 (r45q.mono (FLe.trans (FLe.trans (FLe.trans (FLe.trans hF15 hF20) hF27) hF36) hF41) (sc1 hM))) ?_
  refine Qt.rG hb55 (Ev.gtr rfl rfl) ?_
  refine Qt.r (Ev.pickF rfl hb55 rfl) ?_
  exact Qt.meet (decide ((x42.length : Int) > (30 : Int))) ⟨rfl, rfl, rfl, rfl, rfl, rfl, trivial⟩ (some_inj H)
 rintro y54 hy
 subst hy
 refine Qt.as (e' := [(1, pv b1 0), (4, Sl.v r45h), (46, Sl.v s_a0_2), (47, iv (a0.Want.length : Int)), (48, iv (i39 : Int)), (67, .bool y54)]) ⟨rfl, rfl, rfl, rfl, rfl, rfl, trivial⟩ ?_
 replace H := HKo53
 refine Qt.r (Ev.move rfl) ?_
 obtain ⟨o56, H, HKo56⟩ := bind_some H
 refine Qt.join (σ := Bool) 3 (fun y57 => [(1, pv b1 0), (4, Sl.v r45h), (46, Sl.v s_a0_2), (47, iv (a0.Want.length : Int)), (48, iv (i39 : Int)), (71, .bool y57)]) (fun y57 => y57 = o56) ?_ ?_
 ·rcases Bool.eq_false_or_eq_true y54 with hb58 | hb58
  ·replace H := ite_t hb58 H
   refine Qt.skip rfl rfl rfl hb58 rfl (by decide) ?_
   refine Qt.skip rfl rfl rfl hb58 rfl (by decide) ?_
   refine Qt.r (Ev.pickT rfl hb58 rfl) ?_
   exact Qt.meet true ⟨rfl, rfl, rfl, rfl, rfl, rfl, trivial⟩ (some_inj H)
  replace H := ite_f hb58 H
  refine Qt.rG hb58 (Ev.move rfl) ?_
  obtain ⟨r59, h60, H⟩ := bind_some H
  refine Qt.callG rfl rfl rfl hb58 rfl (by decide) (vs := [Sl.v r45h]) ⟨rfl, trivial⟩ Try.call125 (turn_twice_sim h60 w0 _ M _ (sc1 hM) (r45q.mono (FLe.trans (FLe.trans (FLe.trans (FLe.trans hF15 hF20) hF27) hF36) hF41) (.refl _))) ?_
  refine Qt.r (Ev.pickF rfl hb58 rfl) ?_
  exact Qt.meet r59 ⟨rfl, rfl, rfl, rfl, rfl, rfl, trivial⟩ (some_inj H)
 rintro y57 hy
 subst hy
 refine Qt.as (e' := [(1, pv b1 0), (4, Sl.v r45h), (46, Sl.v s_a0_2), (47, iv (a0.Want.length : Int)), (48, iv (i39 : Int)), (71, .bool y57)]) ⟨rfl, rfl, rfl, rfl, rfl, rfl, trivial⟩ ?_
 replace H := HKo56
 refine Qt.r (Ev.move rfl) ?_
 obtain ⟨o63, H, HKo63⟩ := bind_some H
 refine Qt.join (σ := Bool) 4 (fun y64 => [(1, pv b1 0), (46, Sl.v s_a0_2), (47, iv (a0.Want.length : Int)), (48, iv (i39 : Int)), (76, .bool y64)]) (fun y64 => y64 = o63) ?_ ?_
 ·rcases Bool.eq_false_or_eq_true y57 with hb65 | hb65
  ·replace H := ite_t hb65 H
   refine Qt.skip rfl rfl rfl hb65 rfl (by decide) ?_
   refine Qt.skip rfl rfl rfl hb65 rfl (by decide) ?_
   refine Qt.skip rfl rfl rfl hb65 rfl (by decide) ?_
   refine Qt.r (Ev.pickT rfl hb65 rfl) ?_
   exact Qt.meet true ⟨rfl, rfl, rfl, rfl, rfl, trivial⟩ (some_inj H)
  replace H := ite_f hb65 H
  refine Qt.rG hb65 (Ev.move rfl) ?_
  refine Qt.rG hb65 (Ev.makeFunc (us := []) (vs := [pv b1 0]) trivial ⟨rfl, trivial⟩) ?_
  obtain ⟨r66, h67, H⟩ := bind_some H
  refine Qt.callG rfl rfl rfl hb65 rfl (by decide) (vs := [Sl.v r45h, .func (.func 126) #[] #[pv b1 0]]) ⟨rfl, rfl, trivial⟩ Try.call93 (slices_ContainsFunc_int_int_Check_1_sim h67 w0 _ M _ hM (r45q.mono (FLe.trans (FLe.trans (FLe.trans (FLe.trans hF15 hF20) hF27) hF36) hF41) (.refl _)) hm_a0_2 (hs_a0_2.mono (FLe.trans (FLe.trans (FLe.trans (FLe.trans hF15 hF20) hF27) hF36) hF41) (.refl _)) (All.monoLR ha_a0_2 (FLe.trans (FLe.trans (FLe.trans (FLe.trans hF15 hF20) hF27) hF36) hF41) (.refl _)) (hs_a0_3.mono (FLe.trans (FLe.trans (FLe.trans (FLe.trans hF15 hF20) hF27) hF36) hF41) (.refl _)) (hs_a0_4.mono (FLe.trans (FLe.trans (FLe.trans (FLe.trans hF15 hF20) hF27) hF36) hF41) (.refl _))) ?_
  refine Qt.r (Ev.pickF rfl hb65 rfl) ?_
  exact Qt.meet r66 ⟨rfl, rfl, rfl, rfl, rfl, trivial⟩ (some_inj H)
 rintro y64 hy
 subst hy
 refine Qt.as (e' := [(1, pv b1 0), (46, Sl.v s_a0_2), (47, iv (a0.Want.length : Int)), (48, iv (i39 : Int)), (76, .bool y64)]) ⟨rfl, rfl, rfl, rfl, rfl, trivial⟩ ?_
 replace H := HKo63
 refine Qt.done ?_
 refine At.then ?_
 rcases Bool.eq_false_or_eq_true y64 with hb70 | hb70
 ·replace H := ite_t hb70 H
  refine Cd.condT rfl hb70 ?_
  refine Cd.seq ?_
  refine Cd.region ?_
  refine Lst.r (Ev.assign rfl) ?_
  refine Lst.nil ?_
  refine At.then ?_
  have H := hret39 _ (some_inj H).symm
  subst H
  replace H := HKl39
  obtain rfl := some_inj H
  refine Cd.ret ?_
  refine At.in_ret ?_
  refine At.then_ret ?_
  refine At.then_ret ?_
  refine At.in_ret ?_
  refine At.then_ret ?_
  exact At.ret1 rfl (Res.tmp rfl) (FLe.trans (FLe.trans (FLe.trans (FLe.trans hF15 hF20) hF27) hF36) hF41) (sc1 (.refl _)) ⟨rfl, rfl⟩
 replace H := ite_f hb70 H
 refine Cd.condF rfl hb70 ?_
 refine Cd.skip ?_
 refine At.in_normal ?_
 refine At.then ?_
 refine Cd.region ?_
 refine Lst.r (Ev.incr (by omega) rfl rfl) ?_
 refine Lst.r (Ev.move rfl) ?_
 refine Lst.nil ?_
 exact At.meet (i39 + 1, k39, ()) hF41 ⟨rfl, rfl, rfl, rfl, trivial⟩ rfl ⟨⟨hgo39 _ (some_inj H).symm, by omega⟩, Nat.lt_succ_self _⟩
set_option maxRecDepth 20000 in
theorem slices_Clone_int_int_sim {a0 : List Int} {s_a0 : Sl} {r : (List Int)} (H : slices_Clone_int_int a0 = some r) (w0 : World) (F : Frz) (M L : List Item) (hM : M.Sublist L) (hs_a0 : Rd w0 F M s_a0 a0) : Ok Try.prog w0 129 [Sl.v s_a0] F (L) (fun _ L' v => ∃ (s1 : Sl), v = Sl.v s1 ∧ L' = (.own s1 3 1 (encs r)) :: L) := by
 unfold slices_Clone_int_int at H
 refine Ok.enter (m := 1) (n := 8) Try.func129 rfl rfl rfl (by decide) ?_
 refine Cd.env (e' := [(0, Sl.v s_a0)]) rfl ?_
 refine Cd.seq ?_
 refine Cd.region ?_
 refine Lst.addNil 3 1 ?_
 refine Lst.r (Ev.assign rfl) ?_
 refine Lst.nil ?_
 refine At.then ?_
 refine Cd.seq ?_
 refine Cd.seq ?_
 refine Cd.region ?_
 refine Lst.r (Ev.move rfl) ?_
 refine Lst.r (Ev.eqlNil rfl Try.runUnderlying36) ?_
 refine Lst.nil ?_
 refine At.then ?_
 rcases Bool.eq_false_or_eq_true ((Sl.a s_a0).isNone) with hb2 | hb2
 ·refine Cd.bound (Rd.isNil (α := Int) (by decide) (hs_a0.mono (FLe.refl _) (sc1 hM)) hb2) (fun hx9 => ?_)
  rw [clone_nil hx9] at H
  refine Cd.condT rfl hb2 ?_
  refine Cd.seq ?_
  refine Cd.region ?_
  refine Lst.addNil 3 1 ?_
  refine Lst.r (Ev.assign rfl) ?_
  refine Lst.nil ?_
  refine At.then ?_
  obtain rfl := some_inj H
  refine Cd.ret ?_
  refine At.then_ret ?_
  exact At.ret1 rfl (Res.tmp rfl) (FLe.refl _) (sk1 (sc1 (.refl _))) ⟨Sl.nil, rfl, rfl⟩
 refine Cd.condF rfl hb2 ?_
 refine Cd.skip ?_
 refine At.then ?_
 refine Cd.seq ?_
 refine Cd.region ?_
 refine Lst.buildSlice0 rfl rfl (by decide) Try.runUnderlying36 Try.sizeOf3 (fun s3 => ?_)
 refine Lst.its (L' := (.own s3 3 1 (encs ([] : List Int))) :: (.own Sl.nil 3 1 (encs ([] : List Int))) :: L) rfl ?_
 refine Lst.r (Ev.move rfl) ?_
 obtain ⟨u5, h6, H⟩ := bind_some H
 refine Lst.append (i := 0) (α := Int) (xs := ([] : List Int)) (ys := a0) rfl rfl (by decide) rfl rfl Try.runUnderlying36 Try.typeInfo3 rfl rfl rfl rfl rfl rfl (hs_a0.mono (FLe.refl _) (sc2 hM)) rfl (room_some h6) rfl (fun s7 => ?_)
 refine Lst.its (L' := (.own s7 3 1 (encs (([] : List Int) ++ a0))) :: (.own Sl.nil 3 1 (encs ([] : List Int))) :: L) rfl ?_
 refine Lst.r (Ev.assign rfl) ?_
 refine Lst.nil ?_
 refine At.then ?_
 obtain rfl := some_inj H
 refine Cd.ret ?_
 exact At.ret1 rfl (Res.tmp rfl) (FLe.refl _) (sk1 (sc1 (.refl _))) ⟨s7, rfl, rfl⟩
set_option maxRecDepth 20000 in
theorem turn_clone_sim {a0 : Turn} {s_a0_2 : Sl} {rs_a0_2 : List (LR Int)} {s_a0_3 : Sl} {s_a0_4 : Sl} {r : Turn} (H : turn_clone a0 = some r) (w0 : World) (F : Frz) (M L : List Item) (hM : M.Sublist L) (hm_a0_2 : rs_a0_2.map LR.v = a0.Want) (hs_a0_2 : Rd w0 F M s_a0_2 rs_a0_2) (ha_a0_2 : All LR.rel w0 F M rs_a0_2) (hs_a0_3 : Rd w0 F M s_a0_3 a0.Log) (hs_a0_4 : Rd w0 F M s_a0_4 a0.Told) : Ok Try.prog w0 123 [.agg (enc (TurnR.mk a0 s_a0_2 s_a0_3 s_a0_4)).toArray] F (L) (fun Fx L' v => ∃ (s1 : Sl) (rs2 : List (LR Int)) (s6 : Sl) (s8 : Sl), v = .agg (enc (TurnR.mk r s1 s6 s8)).toArray ∧ L' = (.rows (α := Int) 3 rs2) :: (.own s1 36 1 (encs rs2)) :: (.own s6 3 1 (encs r.Log)) :: (.own s8 3 1 (encs r.Told)) :: L ∧ rs2.map LR.v = r.Want) := by
 unfold turn_clone at H
 refine Ok.enter (m := 1) (n := 33) Try.func123 rfl rfl rfl (by decide) ?_
 refine Cd.env (e' := [(0, .agg (enc (TurnR.mk a0 s_a0_2 s_a0_3 s_a0_4)).toArray)]) rfl ?_
 refine Cd.seq ?_
 refine Cd.region ?_
 refine Lst.box rfl rfl (by decide) rfl (cs := enc (TurnR.mk a0 s_a0_2 s_a0_3 s_a0_4)) rfl (fun b1 => ?_)
 have ha4 : All LR.rel w0 F [] ([] : List (LR Int)) := All.nil
 have ha4m : List.map LR.v ([] : List (LR Int)) = ([] : List (List Int)) := rfl
 refine Lst.addNil 36 1 ?_
 refine Lst.addNil 3 1 ?_
 refine Lst.addNil 3 1 ?_
 refine Lst.alloc (cs := enc (TurnR.mk ({ Turn.zero with Want := ([] : List (List Int)), Log := ([] : List Int), Told := ([] : List Int) } : Turn) Sl.nil Sl.nil Sl.nil)) rfl rfl (by decide) Try.zeroValue59 rfl (fun b7 => ?_)
 refine Lst.nil ?_
 refine At.then ?_
 refine Cd.seq ?_
 obtain ⟨r9, h10, H⟩ := bind_some H
 obtain ⟨r15, h16, H⟩ := bind_some H
 obtain ⟨o42, h43, H⟩ := Let_some H
 refine Cd.headMeet (σ := Nat × Sl × (List Int) × Sl × (List Int) × Sl × (List (List Int)) × (List (LR Int)) × Sl × (List Int) × Sl × (List Int)) 12 (fun (b28, s29, l30, s31, l32, s33, l34, rs35, s38, l39, s40, l41) => [(1, pv b1 0), (2, pv b7 0), (3, pv b28 0), (16, .agg (enc (TurnR.mk ({ Turn.zero with N := a0.N, Has := a0.Has, Log := l41, Told := l39 } : Turn) Sl.nil s40 s38)).toArray)]) (fun (b28, s29, l30, s31, l32, s33, l34, rs35, s38, l39, s40, l41) => (.blk b28 (enc (TurnR.mk ({ Turn.zero with Want := l34, Log := l32, Told := l30 } : Turn) s33 s31 s29)) 59) :: (.own s29 3 1 (encs l30)) :: (.own s31 3 1 (encs l32)) :: (.own s33 36 1 (encs rs35)) :: (.own s38 3 1 (encs l39)) :: (.own s40 3 1 (encs l41)) :: (.blk b7 (enc (TurnR.mk ({ Turn.zero with Want := ([] : List (List Int)), Log := ([] : List Int), Told := ([] : List Int) } : Turn) Sl.nil Sl.nil Sl.nil)) 59) :: (.own Sl.nil 3 1 (encs ([] : List Int))) :: (.own Sl.nil 3 1 (encs ([] : List Int))) :: (.own Sl.nil 36 1 (encs ([] : List (LR Int)))) :: (.blk b1 (enc (TurnR.mk a0 s_a0_2 s_a0_3 s_a0_4)) 59) :: L) (fun Fx (b28, s29, l30, s31, l32, s33, l34, rs35, s38, l39, s40, l41) => (l30, l32, l34, l39, l41) = o42 ∧ rs35.map LR.v = l34 ∧ All LR.rel w0 Fx M rs35) (by kernel_rfl) (by kernel_rfl) (behind_sink (by kernel_rfl) (by kernel_rfl) (by kernel_rfl)) (by kernel_rfl) (fun hsel hlt => ?_) ?_
 ·refine HdJ.keep (fun w => St w0 F ((.blk b7 (enc (TurnR.mk ({ Turn.zero with Want := ([] : List (List Int)), Log := ([] : List Int), Told := ([] : List Int) } : Turn) Sl.nil Sl.nil Sl.nil)) 59) :: (.own Sl.nil 3 1 (encs ([] : List Int))) :: (.own Sl.nil 3 1 (encs ([] : List Int))) :: (.own Sl.nil 36 1 (encs ([] : List (LR Int)))) :: (.blk b1 (enc (TurnR.mk a0 s_a0_2 s_a0_3 s_a0_4)) 59) :: L) w) (fun w h => trivial) ?_
  refine HdJ.tk hsel hlt 0 (fun w h => h.sublist (sk1 (sk1 (sk1 (sk1 (sk1 (.refl _))))))) rfl (Ev.fieldAddr (off' := 0) rfl Try.runUnderlying59 rfl Try.sizeOf3 rfl rfl) ?_
  refine HdJ.tk hsel hlt 1 (fun w h => h.sublist (sk1 (sk1 (sk1 (sk1 (sk1 (.refl _))))))) rfl (Ev.load (i := 4) rfl rfl Try.isAgg3 (v := iv a0.N) ((TurnR.get_N (Get.here _)).off (by rfl))) ?_
  refine HdJ.tk hsel hlt 2 (fun w h => h.sublist (sk1 (sk1 (sk1 (sk1 (sk1 (.refl _))))))) rfl (Ev.fieldAddr (off' := 1) rfl Try.runUnderlying59 rfl Try.sizeOf3 rfl rfl) ?_
  refine HdJ.tk hsel hlt 3 (fun w h => h.sublist (sk1 (sk1 (sk1 (sk1 (sk1 (.refl _))))))) rfl (Ev.load (i := 4) rfl rfl Try.isAgg3 (v := iv a0.Has) ((TurnR.get_Has (Get.here _)).off (by rfl))) ?_
  refine HdJ.tk hsel hlt 4 (fun w h => h.sublist (sk1 (sk1 (sk1 (sk1 (sk1 (.refl _))))))) rfl (Ev.fieldAddr (off' := 3) rfl Try.runUnderlying59 rfl Try.sizeOf36 rfl rfl) ?_
  refine HdJ.tk hsel hlt 5 (fun w h => h.sublist (sk1 (sk1 (sk1 (sk1 (sk1 (.refl _))))))) rfl (Ev.load (i := 4) rfl rfl Try.isAgg36 (v := Sl.v s_a0_3) ((TurnR.get_Log (Get.here _)).off (by rfl))) ?_
  refine HdJ.tk hsel hlt 7 (fun w h => h.sublist (sk1 (sk1 (sk1 (sk1 (sk1 (.refl _))))))) rfl (Ev.fieldAddr (off' := 4) rfl Try.runUnderlying59 rfl Try.sizeOf36 rfl rfl) ?_
  refine HdJ.tk hsel hlt 8 (fun w h => h.sublist (sk1 (sk1 (sk1 (sk1 (sk1 (.refl _))))))) rfl (Ev.load (i := 4) rfl rfl Try.isAgg36 (v := Sl.v s_a0_4) ((TurnR.get_Told (Get.here _)).off (by rfl))) ?_
  refine HdJ.step [6, 11] (by kernel_rfl) rfl ?_
  refine HdStep.c (fun inv => ?_) ?_
  ·refine Lst.call rfl rfl (by decide) (vs := [Sl.v s_a0_3]) ⟨rfl, trivial⟩ Try.call129 (slices_Clone_int_int_sim h10 w0 _ M _ (sc4 (sc1 hM)) (hs_a0_3.mono (FLe.refl _) (.refl _))) (fun F45 L' v hF46 hv => ?_)
   obtain ⟨s44, rfl, rfl⟩ := hv
   refine Lst.nil ?_
   refine At.hd inv (fun w h => (h.weaken hF46).sublist (sc1 (sk1 (sk1 (sk1 (sk1 (sk1 (.refl _)))))))) ?_
   refine HdJ.step [9, 11] (by kernel_rfl) rfl ?_
   refine HdStep.c (fun inv => ?_) ?_
   ·refine Lst.call rfl rfl (by decide) (vs := [Sl.v s_a0_4]) ⟨rfl, trivial⟩ Try.call129 (slices_Clone_int_int_sim h16 w0 _ M _ (sc4 (sc2 hM)) (hs_a0_4.mono hF46 (.refl _))) (fun F48 L' v hF49 hv => ?_)
    obtain ⟨s47, rfl, rfl⟩ := hv
    refine Lst.nil ?_
    refine At.hd inv (fun w h => (h.weaken (FLe.trans hF46 hF49)).sublist (sc1 (sc1 (sk1 (sk1 (sk1 (sk1 (sk1 (.refl _))))))))) ?_
    refine HdJ.keep (fun w => St w0 F48 ((.own s47 3 1 (encs r15)) :: (.own s44 3 1 (encs r9)) :: (.blk b7 (enc (TurnR.mk ({ Turn.zero with Want := ([] : List (List Int)), Log := ([] : List Int), Told := ([] : List Int) } : Turn) Sl.nil Sl.nil Sl.nil)) 59) :: (.own Sl.nil 3 1 (encs ([] : List Int))) :: (.own Sl.nil 3 1 (encs ([] : List Int))) :: (.own Sl.nil 36 1 (encs ([] : List (LR Int)))) :: (.blk b1 (enc (TurnR.mk a0 s_a0_2 s_a0_3 s_a0_4)) 59) :: L) w) (fun w h => (h.weaken (FLe.trans hF46 hF49)).sublist (sc1 (sc1 (sk1 (sk1 (sk1 (sk1 (sk1 (.refl _))))))))) ?_
    refine HdJ.tk hsel hlt 10 (fun w h => h.sublist (sk1 (sk1 (sk1 (sk1 (sk1 (sk1 (sk1 (.refl _))))))))) rfl (Ev.build (v := .agg (enc (TurnR.mk ({ Turn.zero with N := a0.N, Has := a0.Has, Log := r9, Told := r15 } : Turn) Sl.nil s44 s47)).toArray) (pv := [(0, iv a0.N), (1, iv a0.Has), (3, Sl.v s44), (4, Sl.v s47)]) ⟨rfl, rfl, ⟨rfl, rfl, ⟨rfl, rfl, ⟨rfl, rfl, trivial⟩⟩⟩⟩ (run_buildStruct (places := #[(0, 1), (1, 1), (2, 1), (3, 1), (4, 1)]) Try.zeroValue59 (zs := enc (TurnR.mk Turn.zero Sl.nil Sl.nil Sl.nil)) rfl Try.runUnderlying59 (fun w => by kernel_rfl) (fill_cons (cs := enc (TurnR.mk Turn.zero Sl.nil Sl.nil Sl.nil)) (cs' := enc (TurnR.mk ({ Turn.zero with N := a0.N } : Turn) Sl.nil Sl.nil Sl.nil)) (vs := [iv a0.N]) rfl rfl rfl ((TurnR.put_N (p := (TurnR.mk Turn.zero Sl.nil Sl.nil Sl.nil)) (y := a0.N) (Put.here (vs := [iv a0.N]) rfl)).off rfl) (fill_cons (cs := enc (TurnR.mk ({ Turn.zero with N := a0.N } : Turn) Sl.nil Sl.nil Sl.nil)) (cs' := enc (TurnR.mk ({ Turn.zero with N := a0.N, Has := a0.Has } : Turn) Sl.nil Sl.nil Sl.nil)) (vs := [iv a0.Has]) rfl rfl rfl ((TurnR.put_Has (p := (TurnR.mk ({ Turn.zero with N := a0.N } : Turn) Sl.nil Sl.nil Sl.nil)) (y := a0.Has) (Put.here (vs := [iv a0.Has]) rfl)).off rfl) (fill_cons (cs := enc (TurnR.mk ({ Turn.zero with N := a0.N, Has := a0.Has } : Turn) Sl.nil Sl.nil Sl.nil)) (cs' := enc (TurnR.mk ({ Turn.zero with N := a0.N, Has := a0.Has, Log := r9 } : Turn) Sl.nil s44 Sl.nil)) (vs := [Sl.v s44]) rfl rfl rfl ((TurnR.put_Log (p := (TurnR.mk ({ Turn.zero with N := a0.N, Has := a0.Has } : Turn) Sl.nil Sl.nil Sl.nil)) (y := s44) (Put.here (vs := [Sl.v s44]) rfl)).off rfl) (fill_cons (cs := enc (TurnR.mk ({ Turn.zero with N := a0.N, Has := a0.Has, Log := r9 } : Turn) Sl.nil s44 Sl.nil)) (cs' := enc (TurnR.mk ({ Turn.zero with N := a0.N, Has := a0.Has, Log := r9, Told := r15 } : Turn) Sl.nil s44 s47)) (vs := [Sl.v s47]) rfl rfl rfl ((TurnR.put_Told (p := (TurnR.mk ({ Turn.zero with N := a0.N, Has := a0.Has, Log := r9 } : Turn) Sl.nil s44 Sl.nil)) (y := s47) (Put.here (vs := [Sl.v s47]) rfl)).off rfl) fill_nil)))))) ?_
    refine HdJ.step [11] (by kernel_rfl) rfl ?_
    refine HdStep.c (fun inv => ?_) ?_
    ·have ha50 : All LR.rel w0 F48 [] ([] : List (LR Int)) := All.nil
     have ha50m : List.map LR.v ([] : List (LR Int)) = ([] : List (List Int)) := rfl
     refine Lst.addNil 36 1 ?_
     refine Lst.addNil 3 1 ?_
     refine Lst.addNil 3 1 ?_
     refine Lst.alloc (cs := enc (TurnR.mk ({ Turn.zero with Want := ([] : List (List Int)), Log := ([] : List Int), Told := ([] : List Int) } : Turn) Sl.nil Sl.nil Sl.nil)) rfl rfl (by decide) Try.zeroValue59 rfl (fun b51 => ?_)
     refine Lst.nil ?_
     refine At.hd inv (fun w h => (h.weaken (FLe.refl _)).sublist (sc1 (sc1 (sc1 (sc1 (sk1 (sk1 (sk1 (sk1 (sk1 (sk1 (sk1 (.refl _))))))))))))) ?_
     refine HdJ.done (by kernel_rfl) ?_
     exact At.meetN (b51, Sl.nil, ([] : List Int), Sl.nil, ([] : List Int), Sl.nil, ([] : List (List Int)), ([] : List (LR Int)), s47, r15, s44, r9) (FLe.trans hF46 hF49) ⟨rfl, rfl, rfl, rfl, trivial⟩ rfl ⟨h43, ha50m, (All.monoLR ha50 (FLe.refl _) (List.nil_sublist _))⟩
    exact trivial
   refine HdStep.c (fun inv => ?_) ?_
   ·have ha52 : All LR.rel w0 F45 [] ([] : List (LR Int)) := All.nil
    have ha52m : List.map LR.v ([] : List (LR Int)) = ([] : List (List Int)) := rfl
    refine Lst.addNil 36 1 ?_
    refine Lst.addNil 3 1 ?_
    refine Lst.addNil 3 1 ?_
    refine Lst.alloc (cs := enc (TurnR.mk ({ Turn.zero with Want := ([] : List (List Int)), Log := ([] : List Int), Told := ([] : List Int) } : Turn) Sl.nil Sl.nil Sl.nil)) rfl rfl (by decide) Try.zeroValue59 rfl (fun b53 => ?_)
    refine Lst.nil ?_
    refine At.hd inv (fun w h => (h.weaken hF46).sublist (sc1 (sc1 (sc1 (sc1 (sc1 (sk1 (sk1 (sk1 (sk1 (sk1 (.refl _)))))))))))) ?_
    refine HdJ.step [9] (by kernel_rfl) rfl ?_
    refine HdStep.c (fun inv => ?_) ?_
    ·refine Lst.call rfl rfl (by decide) (vs := [Sl.v s_a0_4]) ⟨rfl, trivial⟩ Try.call129 (slices_Clone_int_int_sim h16 w0 _ M _ (sc8 (sc2 hM)) (hs_a0_4.mono hF46 (.refl _))) (fun F55 L' v hF56 hv => ?_)
     obtain ⟨s54, rfl, rfl⟩ := hv
     refine Lst.nil ?_
     refine At.hd inv (fun w h => (h.weaken (FLe.trans hF46 hF56)).sublist (sc1 (sc1 (sc1 (sc1 (sc1 (sc1 (sk1 (sk1 (sk1 (sk1 (sk1 (.refl _))))))))))))) ?_
     refine HdJ.keep (fun w => St w0 F55 ((.own s54 3 1 (encs r15)) :: (.blk b53 (enc (TurnR.mk ({ Turn.zero with Want := ([] : List (List Int)), Log := ([] : List Int), Told := ([] : List Int) } : Turn) Sl.nil Sl.nil Sl.nil)) 59) :: (.own Sl.nil 3 1 (encs ([] : List Int))) :: (.own Sl.nil 3 1 (encs ([] : List Int))) :: (.own Sl.nil 36 1 (encs ([] : List (LR Int)))) :: (.own s44 3 1 (encs r9)) :: (.blk b7 (enc (TurnR.mk ({ Turn.zero with Want := ([] : List (List Int)), Log := ([] : List Int), Told := ([] : List Int) } : Turn) Sl.nil Sl.nil Sl.nil)) 59) :: (.own Sl.nil 3 1 (encs ([] : List Int))) :: (.own Sl.nil 3 1 (encs ([] : List Int))) :: (.own Sl.nil 36 1 (encs ([] : List (LR Int)))) :: (.blk b1 (enc (TurnR.mk a0 s_a0_2 s_a0_3 s_a0_4)) 59) :: L) w) (fun w h => (h.weaken (FLe.trans hF46 hF56)).sublist (sc1 (sc1 (sc1 (sc1 (sc1 (sc1 (sk1 (sk1 (sk1 (sk1 (sk1 (.refl _))))))))))))) ?_
     refine HdJ.tk hsel hlt 10 (fun w h => h.sublist (sk1 (sk1 (sk1 (sk1 (sk1 (sk1 (sk1 (sk1 (sk1 (sk1 (sk1 (.refl _))))))))))))) rfl (Ev.build (v := .agg (enc (TurnR.mk ({ Turn.zero with N := a0.N, Has := a0.Has, Log := r9, Told := r15 } : Turn) Sl.nil s44 s54)).toArray) (pv := [(0, iv a0.N), (1, iv a0.Has), (3, Sl.v s44), (4, Sl.v s54)]) ⟨rfl, rfl, ⟨rfl, rfl, ⟨rfl, rfl, ⟨rfl, rfl, trivial⟩⟩⟩⟩ (run_buildStruct (places := #[(0, 1), (1, 1), (2, 1), (3, 1), (4, 1)]) Try.zeroValue59 (zs := enc (TurnR.mk Turn.zero Sl.nil Sl.nil Sl.nil)) rfl Try.runUnderlying59 (fun w => by kernel_rfl) (fill_cons (cs := enc (TurnR.mk Turn.zero Sl.nil Sl.nil Sl.nil)) (cs' := enc (TurnR.mk ({ Turn.zero with N := a0.N } : Turn) Sl.nil Sl.nil Sl.nil)) (vs := [iv a0.N]) rfl rfl rfl ((TurnR.put_N (p := (TurnR.mk Turn.zero Sl.nil Sl.nil Sl.nil)) (y := a0.N) (Put.here (vs := [iv a0.N]) rfl)).off rfl) (fill_cons (cs := enc (TurnR.mk ({ Turn.zero with N := a0.N } : Turn) Sl.nil Sl.nil Sl.nil)) (cs' := enc (TurnR.mk ({ Turn.zero with N := a0.N, Has := a0.Has } : Turn) Sl.nil Sl.nil Sl.nil)) (vs := [iv a0.Has]) rfl rfl rfl ((TurnR.put_Has (p := (TurnR.mk ({ Turn.zero with N := a0.N } : Turn) Sl.nil Sl.nil Sl.nil)) (y := a0.Has) (Put.here (vs := [iv a0.Has]) rfl)).off rfl) (fill_cons (cs := enc (TurnR.mk ({ Turn.zero with N := a0.N, Has := a0.Has } : Turn) Sl.nil Sl.nil Sl.nil)) (cs' := enc (TurnR.mk ({ Turn.zero with N := a0.N, Has := a0.Has, Log := r9 } : Turn) Sl.nil s44 Sl.nil)) (vs := [Sl.v s44]) rfl rfl rfl ((TurnR.put_Log (p := (TurnR.mk ({ Turn.zero with N := a0.N, Has := a0.Has } : Turn) Sl.nil Sl.nil Sl.nil)) (y := s44) (Put.here (vs := [Sl.v s44]) rfl)).off rfl) (fill_cons (cs := enc (TurnR.mk ({ Turn.zero with N := a0.N, Has := a0.Has, Log := r9 } : Turn) Sl.nil s44 Sl.nil)) (cs' := enc (TurnR.mk ({ Turn.zero with N := a0.N, Has := a0.Has, Log := r9, Told := r15 } : Turn) Sl.nil s44 s54)) (vs := [Sl.v s54]) rfl rfl rfl ((TurnR.put_Told (p := (TurnR.mk ({ Turn.zero with N := a0.N, Has := a0.Has, Log := r9 } : Turn) Sl.nil s44 Sl.nil)) (y := s54) (Put.here (vs := [Sl.v s54]) rfl)).off rfl) fill_nil)))))) ?_
     refine HdJ.done (by kernel_rfl) ?_
     refine At.front (i := 4) rfl rfl ?_
     refine At.front (i := 4) rfl rfl ?_
     refine At.front (i := 4) rfl (L' := (.own Sl.nil 3 1 (encs ([] : List Int))) :: (.own Sl.nil 3 1 (encs ([] : List Int))) :: (.own Sl.nil 36 1 (encs ([] : List (LR Int)))) :: (.own s54 3 1 (encs r15)) :: (.blk b53 (enc (TurnR.mk ({ Turn.zero with Want := ([] : List (List Int)), Log := ([] : List Int), Told := ([] : List Int) } : Turn) Sl.nil Sl.nil Sl.nil)) 59) :: (.own s44 3 1 (encs r9)) :: (.blk b7 (enc (TurnR.mk ({ Turn.zero with Want := ([] : List (List Int)), Log := ([] : List Int), Told := ([] : List Int) } : Turn) Sl.nil Sl.nil Sl.nil)) 59) :: (.own Sl.nil 3 1 (encs ([] : List Int))) :: (.own Sl.nil 3 1 (encs ([] : List Int))) :: (.own Sl.nil 36 1 (encs ([] : List (LR Int)))) :: (.blk b1 (enc (TurnR.mk a0 s_a0_2 s_a0_3 s_a0_4)) 59) :: L) rfl ?_
     refine At.front (i := 4) rfl (L' := (.blk b53 (enc (TurnR.mk ({ Turn.zero with Want := ([] : List (List Int)), Log := ([] : List Int), Told := ([] : List Int) } : Turn) Sl.nil Sl.nil Sl.nil)) 59) :: (.own Sl.nil 3 1 (encs ([] : List Int))) :: (.own Sl.nil 3 1 (encs ([] : List Int))) :: (.own Sl.nil 36 1 (encs ([] : List (LR Int)))) :: (.own s54 3 1 (encs r15)) :: (.own s44 3 1 (encs r9)) :: (.blk b7 (enc (TurnR.mk ({ Turn.zero with Want := ([] : List (List Int)), Log := ([] : List Int), Told := ([] : List Int) } : Turn) Sl.nil Sl.nil Sl.nil)) 59) :: (.own Sl.nil 3 1 (encs ([] : List Int))) :: (.own Sl.nil 3 1 (encs ([] : List Int))) :: (.own Sl.nil 36 1 (encs ([] : List (LR Int)))) :: (.blk b1 (enc (TurnR.mk a0 s_a0_2 s_a0_3 s_a0_4)) 59) :: L) rfl ?_
     exact At.meetN (b53, Sl.nil, ([] : List Int), Sl.nil, ([] : List Int), Sl.nil, ([] : List (List Int)), ([] : List (LR Int)), s54, r15, s44, r9) (FLe.trans hF46 hF56) ⟨rfl, rfl, rfl, rfl, trivial⟩ rfl ⟨h43, ha52m, (All.monoLR ha52 hF56 (List.nil_sublist _))⟩
    exact trivial
   exact trivial
  refine HdStep.c (fun inv => ?_) ?_
  ·have ha57 : All LR.rel w0 F [] ([] : List (LR Int)) := All.nil
   have ha57m : List.map LR.v ([] : List (LR Int)) = ([] : List (List Int)) := rfl
   refine Lst.addNil 36 1 ?_
   refine Lst.addNil 3 1 ?_
   refine Lst.addNil 3 1 ?_
   refine Lst.alloc (cs := enc (TurnR.mk ({ Turn.zero with Want := ([] : List (List Int)), Log := ([] : List Int), Told := ([] : List Int) } : Turn) Sl.nil Sl.nil Sl.nil)) rfl rfl (by decide) Try.zeroValue59 rfl (fun b58 => ?_)
   refine Lst.nil ?_
   refine At.hd inv (fun w h => (h.weaken (FLe.refl _)).sublist (sc1 (sc1 (sc1 (sc1 (sk1 (sk1 (sk1 (sk1 (sk1 (.refl _))))))))))) ?_
   refine HdJ.step [6] (by kernel_rfl) rfl ?_
   refine HdStep.c (fun inv => ?_) ?_
   ·refine Lst.call rfl rfl (by decide) (vs := [Sl.v s_a0_3]) ⟨rfl, trivial⟩ Try.call129 (slices_Clone_int_int_sim h10 w0 _ M _ (sc8 (sc1 hM)) (hs_a0_3.mono (FLe.refl _) (.refl _))) (fun F60 L' v hF61 hv => ?_)
    obtain ⟨s59, rfl, rfl⟩ := hv
    refine Lst.nil ?_
    refine At.hd inv (fun w h => (h.weaken hF61).sublist (sc1 (sc1 (sc1 (sc1 (sc1 (sk1 (sk1 (sk1 (sk1 (sk1 (.refl _)))))))))))) ?_
    refine HdJ.step [9] (by kernel_rfl) rfl ?_
    refine HdStep.c (fun inv => ?_) ?_
    ·refine Lst.call rfl rfl (by decide) (vs := [Sl.v s_a0_4]) ⟨rfl, trivial⟩ Try.call129 (slices_Clone_int_int_sim h16 w0 _ M _ (sc8 (sc2 hM)) (hs_a0_4.mono hF61 (.refl _))) (fun F63 L' v hF64 hv => ?_)
     obtain ⟨s62, rfl, rfl⟩ := hv
     refine Lst.nil ?_
     refine At.hd inv (fun w h => (h.weaken (FLe.trans hF61 hF64)).sublist (sc1 (sc1 (sc1 (sc1 (sc1 (sc1 (sk1 (sk1 (sk1 (sk1 (sk1 (.refl _))))))))))))) ?_
     refine HdJ.keep (fun w => St w0 F63 ((.own s62 3 1 (encs r15)) :: (.own s59 3 1 (encs r9)) :: (.blk b58 (enc (TurnR.mk ({ Turn.zero with Want := ([] : List (List Int)), Log := ([] : List Int), Told := ([] : List Int) } : Turn) Sl.nil Sl.nil Sl.nil)) 59) :: (.own Sl.nil 3 1 (encs ([] : List Int))) :: (.own Sl.nil 3 1 (encs ([] : List Int))) :: (.own Sl.nil 36 1 (encs ([] : List (LR Int)))) :: (.blk b7 (enc (TurnR.mk ({ Turn.zero with Want := ([] : List (List Int)), Log := ([] : List Int), Told := ([] : List Int) } : Turn) Sl.nil Sl.nil Sl.nil)) 59) :: (.own Sl.nil 3 1 (encs ([] : List Int))) :: (.own Sl.nil 3 1 (encs ([] : List Int))) :: (.own Sl.nil 36 1 (encs ([] : List (LR Int)))) :: (.blk b1 (enc (TurnR.mk a0 s_a0_2 s_a0_3 s_a0_4)) 59) :: L) w) (fun w h => (h.weaken (FLe.trans hF61 hF64)).sublist (sc1 (sc1 (sc1 (sc1 (sc1 (sc1 (sk1 (sk1 (sk1 (sk1 (sk1 (.refl _))))))))))))) ?_
     refine HdJ.tk hsel hlt 10 (fun w h => h.sublist (sk1 (sk1 (sk1 (sk1 (sk1 (sk1 (sk1 (sk1 (sk1 (sk1 (sk1 (.refl _))))))))))))) rfl (Ev.build (v := .agg (enc (TurnR.mk ({ Turn.zero with N := a0.N, Has := a0.Has, Log := r9, Told := r15 } : Turn) Sl.nil s59 s62)).toArray) (pv := [(0, iv a0.N), (1, iv a0.Has), (3, Sl.v s59), (4, Sl.v s62)]) ⟨rfl, rfl, ⟨rfl, rfl, ⟨rfl, rfl, ⟨rfl, rfl, trivial⟩⟩⟩⟩ (run_buildStruct (places := #[(0, 1), (1, 1), (2, 1), (3, 1), (4, 1)]) Try.zeroValue59 (zs := enc (TurnR.mk Turn.zero Sl.nil Sl.nil Sl.nil)) rfl Try.runUnderlying59 (fun w => by kernel_rfl) (fill_cons (cs := enc (TurnR.mk Turn.zero Sl.nil Sl.nil Sl.nil)) (cs' := enc (TurnR.mk ({ Turn.zero with N := a0.N } : Turn) Sl.nil Sl.nil Sl.nil)) (vs := [iv a0.N]) rfl rfl rfl ((TurnR.put_N (p := (TurnR.mk Turn.zero Sl.nil Sl.nil Sl.nil)) (y := a0.N) (Put.here (vs := [iv a0.N]) rfl)).off rfl) (fill_cons (cs := enc (TurnR.mk ({ Turn.zero with N := a0.N } : Turn) Sl.nil Sl.nil Sl.nil)) (cs' := enc (TurnR.mk ({ Turn.zero with N := a0.N, Has := a0.Has } : Turn) Sl.nil Sl.nil Sl.nil)) (vs := [iv a0.Has]) rfl rfl rfl ((TurnR.put_Has (p := (TurnR.mk ({ Turn.zero with N := a0.N } : Turn) Sl.nil Sl.nil Sl.nil)) (y := a0.Has) (Put.here (vs := [iv a0.Has]) rfl)).off rfl) (fill_cons (cs := enc (TurnR.mk ({ Turn.zero with N := a0.N, Has := a0.Has } : Turn) Sl.nil Sl.nil Sl.nil)) (cs' := enc (TurnR.mk ({ Turn.zero with N := a0.N, Has := a0.Has, Log := r9 } : Turn) Sl.nil s59 Sl.nil)) (vs := [Sl.v s59]) rfl rfl rfl ((TurnR.put_Log (p := (TurnR.mk ({ Turn.zero with N := a0.N, Has := a0.Has } : Turn) Sl.nil Sl.nil Sl.nil)) (y := s59) (Put.here (vs := [Sl.v s59]) rfl)).off rfl) (fill_cons (cs := enc (TurnR.mk ({ Turn.zero with N := a0.N, Has := a0.Has, Log := r9 } : Turn) Sl.nil s59 Sl.nil)) (cs' := enc (TurnR.mk ({ Turn.zero with N := a0.N, Has := a0.Has, Log := r9, Told := r15 } : Turn) Sl.nil s59 s62)) (vs := [Sl.v s62]) rfl rfl rfl ((TurnR.put_Told (p := (TurnR.mk ({ Turn.zero with N := a0.N, Has := a0.Has, Log := r9 } : Turn) Sl.nil s59 Sl.nil)) (y := s62) (Put.here (vs := [Sl.v s62]) rfl)).off rfl) fill_nil)))))) ?_
     refine HdJ.done (by kernel_rfl) ?_
     refine At.front (i := 5) rfl rfl ?_
     refine At.front (i := 5) rfl rfl ?_
     refine At.front (i := 5) rfl (L' := (.own Sl.nil 3 1 (encs ([] : List Int))) :: (.own Sl.nil 3 1 (encs ([] : List Int))) :: (.own Sl.nil 36 1 (encs ([] : List (LR Int)))) :: (.own s62 3 1 (encs r15)) :: (.own s59 3 1 (encs r9)) :: (.blk b58 (enc (TurnR.mk ({ Turn.zero with Want := ([] : List (List Int)), Log := ([] : List Int), Told := ([] : List Int) } : Turn) Sl.nil Sl.nil Sl.nil)) 59) :: (.blk b7 (enc (TurnR.mk ({ Turn.zero with Want := ([] : List (List Int)), Log := ([] : List Int), Told := ([] : List Int) } : Turn) Sl.nil Sl.nil Sl.nil)) 59) :: (.own Sl.nil 3 1 (encs ([] : List Int))) :: (.own Sl.nil 3 1 (encs ([] : List Int))) :: (.own Sl.nil 36 1 (encs ([] : List (LR Int)))) :: (.blk b1 (enc (TurnR.mk a0 s_a0_2 s_a0_3 s_a0_4)) 59) :: L) rfl ?_
     refine At.front (i := 5) rfl (L' := (.blk b58 (enc (TurnR.mk ({ Turn.zero with Want := ([] : List (List Int)), Log := ([] : List Int), Told := ([] : List Int) } : Turn) Sl.nil Sl.nil Sl.nil)) 59) :: (.own Sl.nil 3 1 (encs ([] : List Int))) :: (.own Sl.nil 3 1 (encs ([] : List Int))) :: (.own Sl.nil 36 1 (encs ([] : List (LR Int)))) :: (.own s62 3 1 (encs r15)) :: (.own s59 3 1 (encs r9)) :: (.blk b7 (enc (TurnR.mk ({ Turn.zero with Want := ([] : List (List Int)), Log := ([] : List Int), Told := ([] : List Int) } : Turn) Sl.nil Sl.nil Sl.nil)) 59) :: (.own Sl.nil 3 1 (encs ([] : List Int))) :: (.own Sl.nil 3 1 (encs ([] : List Int))) :: (.own Sl.nil 36 1 (encs ([] : List (LR Int)))) :: (.blk b1 (enc (TurnR.mk a0 s_a0_2 s_a0_3 s_a0_4)) 59) :: L) rfl ?_
     exact At.meetN (b58, Sl.nil, ([] : List Int), Sl.nil, ([] : List Int), Sl.nil, ([] : List (List Int)), ([] : List (LR Int)), s62, r15, s59, r9) (FLe.trans hF61 hF64) ⟨rfl, rfl, rfl, rfl, trivial⟩ rfl ⟨h43, ha57m, (All.monoLR ha57 (FLe.trans hF61 hF64) (List.nil_sublist _))⟩
    exact trivial
   exact trivial
  exact trivial
 rintro F65 ⟨b28, s29, l30, s31, l32, s33, l34, rs35, s38, l39, s40, l41⟩ hF66 ⟨hy, fm36, fa37⟩
 subst hy
 refine Lst.as (e' := [(1, pv b1 0), (2, pv b7 0), (3, pv b28 0), (16, .agg (enc (TurnR.mk ({ Turn.zero with N := a0.N, Has := a0.Has, Log := l41, Told := l39 } : Turn) Sl.nil s40 s38)).toArray)]) (L' := (.blk b28 (enc (TurnR.mk ({ Turn.zero with Want := l34, Log := l32, Told := l30 } : Turn) s33 s31 s29)) 59) :: (.own s29 3 1 (encs l30)) :: (.own s31 3 1 (encs l32)) :: (.own s33 36 1 (encs rs35)) :: (.own s38 3 1 (encs l39)) :: (.own s40 3 1 (encs l41)) :: (.blk b7 (enc (TurnR.mk ({ Turn.zero with Want := ([] : List (List Int)), Log := ([] : List Int), Told := ([] : List Int) } : Turn) Sl.nil Sl.nil Sl.nil)) 59) :: (.own Sl.nil 3 1 (encs ([] : List Int))) :: (.own Sl.nil 3 1 (encs ([] : List Int))) :: (.own Sl.nil 36 1 (encs ([] : List (LR Int)))) :: (.blk b1 (enc (TurnR.mk a0 s_a0_2 s_a0_3 s_a0_4)) 59) :: L) ⟨rfl, rfl, rfl, rfl, trivial⟩ rfl ?_
 refine Lst.store (i := 0) rfl rfl rfl rfl rfl Try.sizeOf59 (vs := enc (TurnR.mk ({ Turn.zero with N := a0.N, Has := a0.Has, Log := l41, Told := l39 } : Turn) Sl.nil s40 s38)) rfl (Enc.len _) (Enc.one _) (cs' := enc (TurnR.mk ({ Turn.zero with N := a0.N, Has := a0.Has, Log := l41, Told := l39 } : Turn) Sl.nil s40 s38)) (Put.here ((Enc.len _).trans (Enc.len _).symm)) (L' := (.blk b28 (enc (TurnR.mk ({ Turn.zero with N := a0.N, Has := a0.Has, Log := l41, Told := l39 } : Turn) Sl.nil s40 s38)) 59) :: (.own s29 3 1 (encs l30)) :: (.own s31 3 1 (encs l32)) :: (.own s33 36 1 (encs rs35)) :: (.own s38 3 1 (encs l39)) :: (.own s40 3 1 (encs l41)) :: (.blk b7 (enc (TurnR.mk ({ Turn.zero with Want := ([] : List (List Int)), Log := ([] : List Int), Told := ([] : List Int) } : Turn) Sl.nil Sl.nil Sl.nil)) 59) :: (.own Sl.nil 3 1 (encs ([] : List Int))) :: (.own Sl.nil 3 1 (encs ([] : List Int))) :: (.own Sl.nil 36 1 (encs ([] : List (LR Int)))) :: (.blk b1 (enc (TurnR.mk a0 s_a0_2 s_a0_3 s_a0_4)) 59) :: L) rfl ?_
 refine Lst.nil ?_
 refine At.then ?_
 refine Cd.seq ?_
 refine Cd.seq ?_
 refine Cd.region ?_
 refine Lst.r (Ev.fieldAddr (off' := 2) rfl Try.runUnderlying59 rfl Try.sizeOf57 rfl rfl) ?_
 refine Lst.r (Ev.load (i := 10) rfl rfl Try.isAgg57 (v := Sl.v s_a0_2) ((TurnR.get_Want (Get.here _)).off (by rfl))) ?_
 refine Lst.r (Ev.lenM (map_len hm_a0_2) (Ev.lenS (α := LR Int) (xs := rs_a0_2) (by decide) rfl rfl Try.runUnderlying57 (hs_a0_2.mono hF66 (sc8 (sc2 (sc1 hM)))))) ?_
 refine Lst.r (Ev.move rfl) ?_
 refine Lst.nil ?_
 refine At.then ?_
 refine Cd.block ?_
 have ha71m : List.map LR.v ([] : List (LR Int)) = ([] : List (List Int)) := rfl
 refine Cd.addNil 36 1 ?_
 refine Cd.rowsNil Int 3 0 ?_
 refine Cd.its (L' := (.rows (α := Int) 3 ([] : List (LR Int))) :: (.own Sl.nil 36 1 (encs ([] : List (LR Int)))) :: (.blk b28 (enc (TurnR.mk ({ Turn.zero with N := a0.N, Has := a0.Has, Log := l41, Told := l39 } : Turn) Sl.nil s40 s38)) 59) :: (.own s29 3 1 (encs l30)) :: (.own s31 3 1 (encs l32)) :: (.own s33 36 1 (encs rs35)) :: (.own s38 3 1 (encs l39)) :: (.own s40 3 1 (encs l41)) :: (.blk b7 (enc (TurnR.mk ({ Turn.zero with Want := ([] : List (List Int)), Log := ([] : List Int), Told := ([] : List Int) } : Turn) Sl.nil Sl.nil Sl.nil)) 59) :: (.own Sl.nil 3 1 (encs ([] : List Int))) :: (.own Sl.nil 3 1 (encs ([] : List Int))) :: (.own Sl.nil 36 1 (encs ([] : List (LR Int)))) :: (.blk b1 (enc (TurnR.mk a0 s_a0_2 s_a0_3 s_a0_4)) 59) :: L) rfl ?_
 refine Cd.bound (Rd.le (α := LR Int) (xs := rs_a0_2) (by decide) (hs_a0_2.mono hF66 (sc8 (sc4 (sc1 hM))))) (fun hN113 => ?_)
 rw [map_len hm_a0_2] at hN113
 obtain ⟨ol68, H, HKl68⟩ := bind_some H
 refine Cd.loop (σ := Nat × Nat × Turn × Sl × (List (LR Int))) (fun (i68, k68, y72, s73, rs74) => [(2, pv b7 0), (3, pv b28 0), (18, Sl.v s_a0_2), (19, iv (a0.Want.length : Int)), (20, iv (i68 : Int))]) (fun (i68, k68, y72, s73, rs74) => (.rows (α := Int) 3 rs74) :: (.own s73 36 1 (encs rs74)) :: (.blk b28 (enc (TurnR.mk ({ y72 with Log := l41, Told := l39 } : Turn) s73 s40 s38)) 59) :: (.own s29 3 1 (encs l30)) :: (.own s31 3 1 (encs l32)) :: (.own s33 36 1 (encs rs35)) :: (.own s38 3 1 (encs l39)) :: (.own s40 3 1 (encs l41)) :: (.blk b7 (enc (TurnR.mk ({ Turn.zero with Want := ([] : List (List Int)), Log := ([] : List Int), Told := ([] : List Int) } : Turn) Sl.nil Sl.nil Sl.nil)) 59) :: (.own Sl.nil 3 1 (encs ([] : List Int))) :: (.own Sl.nil 3 1 (encs ([] : List Int))) :: (.own Sl.nil 36 1 (encs ([] : List (LR Int)))) :: (.blk b1 (enc (TurnR.mk a0 s_a0_2 s_a0_3 s_a0_4)) 59) :: L) (fun Fx => (fun (i68, k68, y72, s73, rs74) => rangeF (turn_clone_B0 a0 l39 l41) k68 i68 y72 = some ol68 ∧ i68 + k68 = a0.Want.length ∧ rs74.map LR.v = y72.Want)) (fun (i68, k68, y72, s73, rs74) => k68) (0, a0.Want.length, ({ Turn.zero with N := a0.N, Has := a0.Has, Want := ([] : List (List Int)), Log := l41, Told := l39 } : Turn), Sl.nil, ([] : List (LR Int))) ⟨rfl, rfl, rfl, rfl, rfl, trivial⟩ rfl ⟨H, by omega, ha71m⟩ ?_
 rintro F78 ⟨i68, k68, y72, s73, rs74⟩ hF79 ⟨H, hik68, fm75⟩
 refine Cd.as (e' := [(2, pv b7 0), (3, pv b28 0), (18, Sl.v s_a0_2), (19, iv (a0.Want.length : Int)), (20, iv (i68 : Int))]) (L' := (.rows (α := Int) 3 rs74) :: (.own s73 36 1 (encs rs74)) :: (.blk b28 (enc (TurnR.mk ({ y72 with Log := l41, Told := l39 } : Turn) s73 s40 s38)) 59) :: (.own s29 3 1 (encs l30)) :: (.own s31 3 1 (encs l32)) :: (.own s33 36 1 (encs rs35)) :: (.own s38 3 1 (encs l39)) :: (.own s40 3 1 (encs l41)) :: (.blk b7 (enc (TurnR.mk ({ Turn.zero with Want := ([] : List (List Int)), Log := ([] : List Int), Told := ([] : List Int) } : Turn) Sl.nil Sl.nil Sl.nil)) 59) :: (.own Sl.nil 3 1 (encs ([] : List Int))) :: (.own Sl.nil 3 1 (encs ([] : List Int))) :: (.own Sl.nil 36 1 (encs ([] : List (LR Int)))) :: (.blk b1 (enc (TurnR.mk a0 s_a0_2 s_a0_3 s_a0_4)) 59) :: L) ⟨rfl, rfl, rfl, rfl, rfl, trivial⟩ rfl ?_
 rcases k68 with _ | k68
 ·have hc68 : decide ((i68 : Int) < (a0.Want.length : Int)) = false := decide_eq_false (by omega)
  replace H := rangeF_end H
  refine Cd.seq ?_
  refine Cd.region ?_
  refine Lst.r (Ev.lss rfl rfl) ?_
  refine Lst.nil ?_
  refine At.then ?_
  refine Cd.seq ?_
  refine Cd.condF rfl hc68 ?_
  refine Cd.exit ?_
  refine At.then_exit ?_
  refine At.then_exit ?_
  refine At.in_exit ?_
  subst H
  replace H := HKl68
  refine At.then ?_
  refine Cd.seq ?_
  refine Cd.region ?_
  refine Lst.r (Ev.loadA (i := 2) rfl rfl Try.isAgg59 Try.sizeOf59 (ch := enc (TurnR.mk ({ y72 with Log := l41, Told := l39 } : Turn) s73 s40 s38)) (Enc.len _) (Get.here _)) ?_
  refine Lst.store (i := 8) rfl rfl rfl rfl rfl Try.sizeOf59 (vs := enc (TurnR.mk ({ y72 with Log := l41, Told := l39 } : Turn) s73 s40 s38)) rfl (Enc.len _) (Enc.one _) (cs' := enc (TurnR.mk ({ y72 with Log := l41, Told := l39 } : Turn) s73 s40 s38)) (Put.here ((Enc.len _).trans (Enc.len _).symm)) (L' := (.rows (α := Int) 3 rs74) :: (.own s73 36 1 (encs rs74)) :: (.blk b28 (enc (TurnR.mk ({ y72 with Log := l41, Told := l39 } : Turn) s73 s40 s38)) 59) :: (.own s29 3 1 (encs l30)) :: (.own s31 3 1 (encs l32)) :: (.own s33 36 1 (encs rs35)) :: (.own s38 3 1 (encs l39)) :: (.own s40 3 1 (encs l41)) :: (.blk b7 (enc (TurnR.mk ({ y72 with Log := l41, Told := l39 } : Turn) s73 s40 s38)) 59) :: (.own Sl.nil 3 1 (encs ([] : List Int))) :: (.own Sl.nil 3 1 (encs ([] : List Int))) :: (.own Sl.nil 36 1 (encs ([] : List (LR Int)))) :: (.blk b1 (enc (TurnR.mk a0 s_a0_2 s_a0_3 s_a0_4)) 59) :: L) rfl ?_
  refine Lst.nil ?_
  refine At.then ?_
  obtain rfl := some_inj H
  refine Cd.ret ?_
  refine At.front (i := 7) rfl rfl ?_
  refine At.front (i := 2) rfl rfl ?_
  refine At.front (i := 2) rfl (L' := (.rows (α := Int) 3 rs74) :: (.own s73 36 1 (encs rs74)) :: (.own s40 3 1 (encs l41)) :: (.blk b28 (enc (TurnR.mk ({ y72 with Log := l41, Told := l39 } : Turn) s73 s40 s38)) 59) :: (.own s29 3 1 (encs l30)) :: (.own s31 3 1 (encs l32)) :: (.own s33 36 1 (encs rs35)) :: (.own s38 3 1 (encs l39)) :: (.blk b7 (enc (TurnR.mk ({ y72 with Log := l41, Told := l39 } : Turn) s73 s40 s38)) 59) :: (.own Sl.nil 3 1 (encs ([] : List Int))) :: (.own Sl.nil 3 1 (encs ([] : List Int))) :: (.own Sl.nil 36 1 (encs ([] : List (LR Int)))) :: (.blk b1 (enc (TurnR.mk a0 s_a0_2 s_a0_3 s_a0_4)) 59) :: L) rfl ?_
  exact At.ret1 rfl (Res.cellA (i := 8) rfl rfl Try.isAgg59 Try.sizeOf59 (Enc.len _)) (FLe.trans hF66 hF79) (sk1 (sk1 (sk1 (sc1 (sc1 (sc1 (sc1 (sk1 (sc1 (sc1 (sc1 (sc1 (sc1 (.refl _)))))))))))))) ⟨s73, rs74, s40, s38, rfl, rfl, fm75⟩
 have hc68 : decide ((i68 : Int) < (a0.Want.length : Int)) = true := decide_eq_true (by omega)
 obtain ⟨c68, H, hgo68⟩ := rangeF_go H
 unfold turn_clone_B0 at H
 try dsimp only at H
 refine Cd.seq ?_
 refine Cd.region ?_
 refine Lst.r (Ev.lss rfl rfl) ?_
 refine Lst.nil ?_
 refine At.then ?_
 refine Cd.seq ?_
 refine Cd.condT rfl hc68 ?_
 refine Cd.skip ?_
 refine At.then ?_
 refine Cd.seq ?_
 refine Cd.block ?_
 refine Cd.seq ?_
 refine Cd.region ?_
 obtain ⟨x80, h81, H⟩ := bind_some H
 have g82 := lat_some h81
 obtain ⟨⟨r83v, r83h⟩, r83g, r83e, r83m⟩ := map_get hm_a0_2 g82.2.2
 obtain rfl : x80 = r83v := r83e.symm
 have r83q : Rd w0 _ _ r83h x80 := ha_a0_2 _ r83m
 refine Lst.r (Ev.indexS (α := LR Int) (xs := rs_a0_2) rfl rfl Try.runUnderlying57 Try.sizeOf36 rfl (by decide) (hs_a0_2.mono (FLe.trans hF66 hF79) (sc8 (sc4 (sc1 hM)))) g82.1 (by have := map_len hm_a0_2; omega)) ?_
 refine Lst.r (Ev.loadS (α := LR Int) rfl (hs_a0_2.mono (FLe.trans hF66 hF79) (sc8 (sc4 (sc1 hM)))) Try.isAgg36 (v := Sl.v r83h) ((Get.elemN (s := 1) rfl r83g (Get.here _)).off (by omega))) ?_
 refine Lst.r (Ev.assign rfl) ?_
 refine Lst.nil ?_
 refine At.then ?_
 obtain ⟨r84, h85, H⟩ := bind_some H
 obtain ⟨o99, h100, H⟩ := Let_some H
 refine Cd.headMeet (σ := Sl × (List (List Int)) × (List (LR Int))) 5 (fun (s95, l96, rs97) => [(2, pv b7 0), (3, pv b28 0), (18, Sl.v s_a0_2), (19, iv (a0.Want.length : Int)), (20, iv (i68 : Int)), (25, Sl.v s73), (28, Sl.v s95)]) (fun (s95, l96, rs97) => (.rows (α := Int) 3 rs97) :: (.own s95 36 1 (encs rs97)) :: (.rows (α := Int) 3 rs74) :: (.own s73 36 1 (encs rs74)) :: (.blk b28 (enc (TurnR.mk ({ y72 with Log := l41, Told := l39 } : Turn) s73 s40 s38)) 59) :: (.own s29 3 1 (encs l30)) :: (.own s31 3 1 (encs l32)) :: (.own s33 36 1 (encs rs35)) :: (.own s38 3 1 (encs l39)) :: (.own s40 3 1 (encs l41)) :: (.blk b7 (enc (TurnR.mk ({ Turn.zero with Want := ([] : List (List Int)), Log := ([] : List Int), Told := ([] : List Int) } : Turn) Sl.nil Sl.nil Sl.nil)) 59) :: (.own Sl.nil 3 1 (encs ([] : List Int))) :: (.own Sl.nil 3 1 (encs ([] : List Int))) :: (.own Sl.nil 36 1 (encs ([] : List (LR Int)))) :: (.blk b1 (enc (TurnR.mk a0 s_a0_2 s_a0_3 s_a0_4)) 59) :: L) (fun Fx (s95, l96, rs97) => l96 = o99 ∧ rs97.map LR.v = l96) (by kernel_rfl) (by kernel_rfl) (behind_sink (by kernel_rfl) (by kernel_rfl) (by kernel_rfl)) (by kernel_rfl) (fun hsel hlt => ?_) ?_
 ·refine HdJ.keep (fun w => St w0 F78 ((.rows (α := Int) 3 rs74) :: (.own s73 36 1 (encs rs74)) :: (.blk b28 (enc (TurnR.mk ({ y72 with Log := l41, Told := l39 } : Turn) s73 s40 s38)) 59) :: (.own s29 3 1 (encs l30)) :: (.own s31 3 1 (encs l32)) :: (.own s33 36 1 (encs rs35)) :: (.own s38 3 1 (encs l39)) :: (.own s40 3 1 (encs l41)) :: (.blk b7 (enc (TurnR.mk ({ Turn.zero with Want := ([] : List (List Int)), Log := ([] : List Int), Told := ([] : List Int) } : Turn) Sl.nil Sl.nil Sl.nil)) 59) :: (.own Sl.nil 3 1 (encs ([] : List Int))) :: (.own Sl.nil 3 1 (encs ([] : List Int))) :: (.own Sl.nil 36 1 (encs ([] : List (LR Int)))) :: (.blk b1 (enc (TurnR.mk a0 s_a0_2 s_a0_3 s_a0_4)) 59) :: L) w) (fun w h => trivial) ?_
  refine HdJ.tk hsel hlt 0 (fun w h => h.sublist (sk1 (sk1 (sk1 (sk1 (sk1 (sk1 (sk1 (sk1 (sk1 (sk1 (sk1 (sk1 (sk1 (.refl _))))))))))))))) rfl (Ev.fieldAddr (off' := 2) rfl Try.runUnderlying59 rfl Try.sizeOf57 rfl rfl) ?_
  refine HdJ.tk hsel hlt 1 (fun w h => h.sublist (sk1 (sk1 (sk1 (sk1 (sk1 (sk1 (sk1 (sk1 (sk1 (sk1 (sk1 (sk1 (sk1 (.refl _))))))))))))))) rfl (Ev.load (i := 2) rfl rfl Try.isAgg57 (v := Sl.v s73) ((TurnR.get_Want (Get.here _)).off (by rfl))) ?_
  refine HdJ.tk hsel hlt 2 (fun w h => h.sublist (sk1 (sk1 (sk1 (sk1 (sk1 (sk1 (sk1 (sk1 (sk1 (sk1 (sk1 (sk1 (sk1 (.refl _))))))))))))))) rfl (Ev.move rfl) ?_
  refine HdJ.step [3] (by kernel_rfl) rfl ?_
  refine HdStep.c (fun inv => ?_) ?_
  ·refine Lst.call rfl rfl (by decide) (vs := [Sl.v r83h]) ⟨rfl, trivial⟩ Try.call129 (slices_Clone_int_int_sim h85 w0 _ M _ (sc8 (sc4 (sc1 hM))) (r83q.mono (FLe.trans hF66 hF79) (.refl _))) (fun F102 L' v hF103 hv => ?_)
   obtain ⟨s101, rfl, rfl⟩ := hv
   refine Lst.nil ?_
   refine At.hd inv (fun w h => (h.weaken hF103).sublist (sc1 (sk1 (sk1 (sk1 (sk1 (sk1 (sk1 (sk1 (sk1 (sk1 (sk1 (sk1 (sk1 (sk1 (.refl _)))))))))))))))) ?_
   refine HdJ.step [4] (by kernel_rfl) rfl ?_
   refine HdStep.c (fun inv => ?_) ?_
   ·have hm105 : ([(LR.mk r84 s101)] : List (LR Int)).map LR.v = ([r84] : List (List Int)) := rfl
    refine Lst.buildSlice (α := LR Int) (xs := ([(LR.mk r84 s101)] : List (LR Int))) (pv := [(0, Sl.v s101)]) rfl rfl (by decide) ⟨rfl, rfl, trivial⟩ (run_buildSlice (α := LR Int) (z0 := ((LR.mk [] Sl.nil) : LR Int)) (xs := ([(LR.mk r84 s101)] : List (LR Int))) Try.runUnderlying57 Try.sizeOf36 Try.zeroValue36 rfl rfl rfl (by decide) rfl (fill_cons (cs := encs (List.replicate 1 ((LR.mk [] Sl.nil) : LR Int))) (cs' := encs ((List.replicate 1 ((LR.mk [] Sl.nil) : LR Int)).set 0 (LR.mk r84 s101))) (vs := [Sl.v s101]) rfl rfl rfl ((Put.elemN (s := 1) (i := 0) (x := ((LR.mk [] Sl.nil) : LR Int)) (y := (LR.mk r84 s101)) rfl rfl (Put.here (vs := [Sl.v s101]) rfl)).off rfl) fill_nil)) rfl rfl (by decide) (fun s104 _ => ?_)
    refine Lst.rowsNil Int 3 0 ?_
    refine Lst.front (i := 2) rfl (L' := (.own s101 3 1 (encs r84)) :: (.rows (α := Int) 3 (List.replicate 0 (⟨[], Sl.nil⟩ : LR Int))) :: (.own s104 36 1 (encs ([(LR.mk r84 s101)] : List (LR Int)))) :: (.rows (α := Int) 3 rs74) :: (.own s73 36 1 (encs rs74)) :: (.blk b28 (enc (TurnR.mk ({ y72 with Log := l41, Told := l39 } : Turn) s73 s40 s38)) 59) :: (.own s29 3 1 (encs l30)) :: (.own s31 3 1 (encs l32)) :: (.own s33 36 1 (encs rs35)) :: (.own s38 3 1 (encs l39)) :: (.own s40 3 1 (encs l41)) :: (.blk b7 (enc (TurnR.mk ({ Turn.zero with Want := ([] : List (List Int)), Log := ([] : List Int), Told := ([] : List Int) } : Turn) Sl.nil Sl.nil Sl.nil)) 59) :: (.own Sl.nil 3 1 (encs ([] : List Int))) :: (.own Sl.nil 3 1 (encs ([] : List Int))) :: (.own Sl.nil 36 1 (encs ([] : List (LR Int)))) :: (.blk b1 (enc (TurnR.mk a0 s_a0_2 s_a0_3 s_a0_4)) 59) :: L) rfl ?_
    refine Lst.rowEnd (α := Int) (xs := r84) (s := s101) rfl ?_
    refine Lst.its (L' := (.rows (α := Int) 3 ([(LR.mk r84 s101)] : List (LR Int))) :: (.own s104 36 1 (encs ([(LR.mk r84 s101)] : List (LR Int)))) :: (.rows (α := Int) 3 rs74) :: (.own s73 36 1 (encs rs74)) :: (.blk b28 (enc (TurnR.mk ({ y72 with Log := l41, Told := l39 } : Turn) s73 s40 s38)) 59) :: (.own s29 3 1 (encs l30)) :: (.own s31 3 1 (encs l32)) :: (.own s33 36 1 (encs rs35)) :: (.own s38 3 1 (encs l39)) :: (.own s40 3 1 (encs l41)) :: (.blk b7 (enc (TurnR.mk ({ Turn.zero with Want := ([] : List (List Int)), Log := ([] : List Int), Told := ([] : List Int) } : Turn) Sl.nil Sl.nil Sl.nil)) 59) :: (.own Sl.nil 3 1 (encs ([] : List Int))) :: (.own Sl.nil 3 1 (encs ([] : List Int))) :: (.own Sl.nil 36 1 (encs ([] : List (LR Int)))) :: (.blk b1 (enc (TurnR.mk a0 s_a0_2 s_a0_3 s_a0_4)) 59) :: L) rfl ?_
    refine Lst.nil ?_
    refine At.hd inv (fun w h => (h.weaken hF103).sublist (sc1 (sc1 (sk1 (sk1 (sk1 (sk1 (sk1 (sk1 (sk1 (sk1 (sk1 (sk1 (sk1 (sk1 (sk1 (.refl _))))))))))))))))) ?_
    refine HdJ.done (by kernel_rfl) ?_
    exact At.meetN (s104, ([r84] : List (List Int)), ([(LR.mk r84 s101)] : List (LR Int))) hF103 ⟨rfl, rfl, rfl, rfl, rfl, rfl, rfl, trivial⟩ rfl ⟨h100, hm105⟩
   exact trivial
  exact trivial
 rintro F106 ⟨s95, l96, rs97⟩ hF107 ⟨hy, fm98⟩
 subst hy
 refine Lst.as (e' := [(2, pv b7 0), (3, pv b28 0), (18, Sl.v s_a0_2), (19, iv (a0.Want.length : Int)), (20, iv (i68 : Int)), (25, Sl.v s73), (28, Sl.v s95)]) (L' := (.rows (α := Int) 3 rs97) :: (.own s95 36 1 (encs rs97)) :: (.rows (α := Int) 3 rs74) :: (.own s73 36 1 (encs rs74)) :: (.blk b28 (enc (TurnR.mk ({ y72 with Log := l41, Told := l39 } : Turn) s73 s40 s38)) 59) :: (.own s29 3 1 (encs l30)) :: (.own s31 3 1 (encs l32)) :: (.own s33 36 1 (encs rs35)) :: (.own s38 3 1 (encs l39)) :: (.own s40 3 1 (encs l41)) :: (.blk b7 (enc (TurnR.mk ({ Turn.zero with Want := ([] : List (List Int)), Log := ([] : List Int), Told := ([] : List Int) } : Turn) Sl.nil Sl.nil Sl.nil)) 59) :: (.own Sl.nil 3 1 (encs ([] : List Int))) :: (.own Sl.nil 3 1 (encs ([] : List Int))) :: (.own Sl.nil 36 1 (encs ([] : List (LR Int)))) :: (.blk b1 (enc (TurnR.mk a0 s_a0_2 s_a0_3 s_a0_4)) 59) :: L) ⟨rfl, rfl, rfl, rfl, rfl, rfl, rfl, trivial⟩ rfl ?_
 obtain ⟨u108, h109, H⟩ := bind_some H
 have hm111 : (rs74 ++ rs97).map LR.v = y72.Want ++ l96 := map_app fm75 fm98
 refine Lst.append (i := 3) (α := LR Int) (xs := rs74) (ys := rs97) rfl rfl (by decide) rfl rfl Try.runUnderlying57 Try.typeInfo36 rfl rfl rfl rfl rfl rfl (Rd.own (i := 1) rfl rfl rfl) rfl (by have := room_some h109; have := map_len fm75; have := map_len fm98; omega) rfl (fun s110 => ?_)
 refine Lst.its (L' := (.rows (α := Int) 3 rs97) :: (.own s95 36 1 (encs rs97)) :: (.rows (α := Int) 3 rs74) :: (.own s110 36 1 (encs (rs74 ++ rs97))) :: (.blk b28 (enc (TurnR.mk ({ y72 with Log := l41, Told := l39 } : Turn) s73 s40 s38)) 59) :: (.own s29 3 1 (encs l30)) :: (.own s31 3 1 (encs l32)) :: (.own s33 36 1 (encs rs35)) :: (.own s38 3 1 (encs l39)) :: (.own s40 3 1 (encs l41)) :: (.blk b7 (enc (TurnR.mk ({ Turn.zero with Want := ([] : List (List Int)), Log := ([] : List Int), Told := ([] : List Int) } : Turn) Sl.nil Sl.nil Sl.nil)) 59) :: (.own Sl.nil 3 1 (encs ([] : List Int))) :: (.own Sl.nil 3 1 (encs ([] : List Int))) :: (.own Sl.nil 36 1 (encs ([] : List (LR Int)))) :: (.blk b1 (enc (TurnR.mk a0 s_a0_2 s_a0_3 s_a0_4)) 59) :: L) rfl ?_
 refine Lst.front (i := 2) rfl (L' := (.rows (α := Int) 3 rs74) :: (.rows (α := Int) 3 rs97) :: (.own s95 36 1 (encs rs97)) :: (.own s110 36 1 (encs (rs74 ++ rs97))) :: (.blk b28 (enc (TurnR.mk ({ y72 with Log := l41, Told := l39 } : Turn) s73 s40 s38)) 59) :: (.own s29 3 1 (encs l30)) :: (.own s31 3 1 (encs l32)) :: (.own s33 36 1 (encs rs35)) :: (.own s38 3 1 (encs l39)) :: (.own s40 3 1 (encs l41)) :: (.blk b7 (enc (TurnR.mk ({ Turn.zero with Want := ([] : List (List Int)), Log := ([] : List Int), Told := ([] : List Int) } : Turn) Sl.nil Sl.nil Sl.nil)) 59) :: (.own Sl.nil 3 1 (encs ([] : List Int))) :: (.own Sl.nil 3 1 (encs ([] : List Int))) :: (.own Sl.nil 36 1 (encs ([] : List (LR Int)))) :: (.blk b1 (enc (TurnR.mk a0 s_a0_2 s_a0_3 s_a0_4)) 59) :: L) rfl ?_
 refine Lst.rowsApp ?_
 refine Lst.less (L' := (.rows (α := Int) 3 (rs74 ++ rs97)) :: (.own s110 36 1 (encs (rs74 ++ rs97))) :: (.blk b28 (enc (TurnR.mk ({ y72 with Log := l41, Told := l39 } : Turn) s73 s40 s38)) 59) :: (.own s29 3 1 (encs l30)) :: (.own s31 3 1 (encs l32)) :: (.own s33 36 1 (encs rs35)) :: (.own s38 3 1 (encs l39)) :: (.own s40 3 1 (encs l41)) :: (.blk b7 (enc (TurnR.mk ({ Turn.zero with Want := ([] : List (List Int)), Log := ([] : List Int), Told := ([] : List Int) } : Turn) Sl.nil Sl.nil Sl.nil)) 59) :: (.own Sl.nil 3 1 (encs ([] : List Int))) :: (.own Sl.nil 3 1 (encs ([] : List Int))) :: (.own Sl.nil 36 1 (encs ([] : List (LR Int)))) :: (.blk b1 (enc (TurnR.mk a0 s_a0_2 s_a0_3 s_a0_4)) 59) :: L) (List.Sublist.cons_cons _ (List.Sublist.cons _ (List.Sublist.cons_cons _ (List.Sublist.cons_cons _ (List.Sublist.cons_cons _ (List.Sublist.cons_cons _ (List.Sublist.cons_cons _ (List.Sublist.cons_cons _ (List.Sublist.cons_cons _ (List.Sublist.cons_cons _ (List.Sublist.cons_cons _ (List.Sublist.cons_cons _ (List.Sublist.cons_cons _ (List.Sublist.cons_cons _ (.refl _))))))))))))))) ?_
 refine Lst.its (L' := (.rows (α := Int) 3 (rs74 ++ rs97)) :: (.own s110 36 1 (encs (rs74 ++ rs97))) :: (.blk b28 (enc (TurnR.mk ({ y72 with Log := l41, Told := l39 } : Turn) s73 s40 s38)) 59) :: (.own s29 3 1 (encs l30)) :: (.own s31 3 1 (encs l32)) :: (.own s33 36 1 (encs rs35)) :: (.own s38 3 1 (encs l39)) :: (.own s40 3 1 (encs l41)) :: (.blk b7 (enc (TurnR.mk ({ Turn.zero with Want := ([] : List (List Int)), Log := ([] : List Int), Told := ([] : List Int) } : Turn) Sl.nil Sl.nil Sl.nil)) 59) :: (.own Sl.nil 3 1 (encs ([] : List Int))) :: (.own Sl.nil 3 1 (encs ([] : List Int))) :: (.own Sl.nil 36 1 (encs ([] : List (LR Int)))) :: (.blk b1 (enc (TurnR.mk a0 s_a0_2 s_a0_3 s_a0_4)) 59) :: L) rfl ?_
 refine Lst.r (Ev.fieldAddr (off' := 2) rfl Try.runUnderlying59 rfl Try.sizeOf57 rfl rfl) ?_
 refine Lst.store (i := 2) rfl rfl rfl rfl rfl Try.sizeOf57 (vs := [Sl.v s110]) rfl rfl rfl (cs' := enc (TurnR.mk ({ y72 with Want := y72.Want ++ l96, Log := l41, Told := l39 } : Turn) s110 s40 s38)) ((TurnR.put_Want (Put.here (vs := [Sl.v s110]) rfl)).off (by rfl)) (L' := (.rows (α := Int) 3 (rs74 ++ rs97)) :: (.own s110 36 1 (encs (rs74 ++ rs97))) :: (.blk b28 (enc (TurnR.mk ({ y72 with Want := y72.Want ++ l96, Log := l41, Told := l39 } : Turn) s110 s40 s38)) 59) :: (.own s29 3 1 (encs l30)) :: (.own s31 3 1 (encs l32)) :: (.own s33 36 1 (encs rs35)) :: (.own s38 3 1 (encs l39)) :: (.own s40 3 1 (encs l41)) :: (.blk b7 (enc (TurnR.mk ({ Turn.zero with Want := ([] : List (List Int)), Log := ([] : List Int), Told := ([] : List Int) } : Turn) Sl.nil Sl.nil Sl.nil)) 59) :: (.own Sl.nil 3 1 (encs ([] : List Int))) :: (.own Sl.nil 3 1 (encs ([] : List Int))) :: (.own Sl.nil 36 1 (encs ([] : List (LR Int)))) :: (.blk b1 (enc (TurnR.mk a0 s_a0_2 s_a0_3 s_a0_4)) 59) :: L) rfl ?_
 refine Lst.nil ?_
 refine At.in_normal ?_
 refine At.then ?_
 refine Cd.region ?_
 refine Lst.r (Ev.incr (by omega) rfl rfl) ?_
 refine Lst.r (Ev.move rfl) ?_
 refine Lst.nil ?_
 exact At.meet (i68 + 1, k68, ({ y72 with Want := y72.Want ++ l96, Log := l41, Told := l39 } : Turn), s110, (rs74 ++ rs97)) (FLe.trans hF79 hF107) ⟨rfl, rfl, rfl, rfl, rfl, trivial⟩ rfl ⟨⟨hgo68 _ (some_inj H).symm, by omega, hm111⟩, Nat.lt_succ_self _⟩
set_option maxRecDepth 20000 in
theorem turn_pass_1_sim {a0 : Int} {a1_p : Turn} {b_a1 : Nat} {b_a1_p : Nat} {s_a1_p_2 : Sl} {rs_a1_p_2 : List (LR Int)} {s_a1_p_3 : Sl} {s_a1_p_4 : Sl} {r : Bool} (H : turn_pass_1 a0 a1_p = some r) (w0 : World) (F : Frz) (M L : List Item) (hM : M.Sublist L) (hm_a1_p_2 : rs_a1_p_2.map LR.v = a1_p.Want) (hs_a1_p_2 : Rd w0 F M s_a1_p_2 rs_a1_p_2) (ha_a1_p_2 : All LR.rel w0 F M rs_a1_p_2) (hs_a1_p_3 : Rd w0 F M s_a1_p_3 a1_p.Log) (hs_a1_p_4 : Rd w0 F M s_a1_p_4 a1_p.Told) : Ok Try.prog w0 177 [iv a0, pv b_a1 0] F ((.blk b_a1_p (enc (TurnR.mk a1_p s_a1_p_2 s_a1_p_3 s_a1_p_4)) 59) :: (.blk b_a1 [pv b_a1_p 0] 167) :: L) (Is (.bool r) ((.blk b_a1_p (enc (TurnR.mk a1_p s_a1_p_2 s_a1_p_3 s_a1_p_4)) 59) :: (.blk b_a1 [pv b_a1_p 0] 167) :: L)) := by
 unfold turn_pass_1 at H
 refine Ok.enter (m := 2) (n := 10) Try.func177 rfl rfl rfl (by decide) ?_
 refine Cd.env (e' := [(0, iv a0), (1, pv b_a1 0)]) rfl ?_
 refine Cd.seq ?_
 refine Cd.region ?_
 refine Lst.r (Ev.assign rfl) ?_
 refine Lst.nil ?_
 refine At.then ?_
 refine Cd.seq ?_
 refine Cd.region ?_
 refine Lst.r (Ev.load (i := 1) rfl rfl Try.isAgg167 (v := pv b_a1_p 0) (Get.here _)) ?_
 refine Lst.r (Ev.nilCheck rfl) ?_
 refine Lst.r (Ev.fieldAddr (off' := 3) rfl Try.runUnderlying59 rfl Try.sizeOf36 rfl rfl) ?_
 refine Lst.r (Ev.load (i := 0) rfl rfl Try.isAgg36 (v := Sl.v s_a1_p_3) ((TurnR.get_Log (Get.here _)).off (by rfl))) ?_
 refine Lst.r (Ev.move rfl) ?_
 obtain ⟨r3, h4, H⟩ := bind_some H
 refine Lst.call1 rfl rfl (by decide) (vs := [Sl.v s_a1_p_3, iv a0]) ⟨rfl, rfl, trivial⟩ Try.call50 (slices_Contains_int_int_sim h4 w0 _ M _ (sc2 hM) (hs_a1_p_3.mono (FLe.refl _) (.refl _))) ?_
 refine Lst.r (Ev.assign rfl) ?_
 refine Lst.nil ?_
 refine At.then ?_
 obtain rfl := some_inj H
 refine Cd.ret ?_
 exact At.ret1 rfl (Res.tmp rfl) (FLe.refl _) (sk1 (sk1 (.refl _))) ⟨rfl, rfl⟩
set_option maxRecDepth 20000 in
theorem slices_IndexFunc_int_int_pass_1_sim {a0 : List Int} {a1_c0_p : Turn} {s_a0 : Sl} {b_a1_c0 : Nat} {b_a1_c0_p : Nat} {s_a1_c0_p_2 : Sl} {rs_a1_c0_p_2 : List (LR Int)} {s_a1_c0_p_3 : Sl} {s_a1_c0_p_4 : Sl} {r : Int} (H : slices_IndexFunc_int_int_pass_1 a0 a1_c0_p = some r) (w0 : World) (F : Frz) (M L : List Item) (hM : M.Sublist L) (hs_a0 : Rd w0 F M s_a0 a0) (hm_a1_c0_p_2 : rs_a1_c0_p_2.map LR.v = a1_c0_p.Want) (hs_a1_c0_p_2 : Rd w0 F M s_a1_c0_p_2 rs_a1_c0_p_2) (ha_a1_c0_p_2 : All LR.rel w0 F M rs_a1_c0_p_2) (hs_a1_c0_p_3 : Rd w0 F M s_a1_c0_p_3 a1_c0_p.Log) (hs_a1_c0_p_4 : Rd w0 F M s_a1_c0_p_4 a1_c0_p.Told) : Ok Try.prog w0 174 [Sl.v s_a0, .func (.func 177) #[] #[pv b_a1_c0 0]] F ((.blk b_a1_c0_p (enc (TurnR.mk a1_c0_p s_a1_c0_p_2 s_a1_c0_p_3 s_a1_c0_p_4)) 59) :: (.blk b_a1_c0 [pv b_a1_c0_p 0] 167) :: L) (Is (iv r) ((.blk b_a1_c0_p (enc (TurnR.mk a1_c0_p s_a1_c0_p_2 s_a1_c0_p_3 s_a1_c0_p_4)) 59) :: (.blk b_a1_c0 [pv b_a1_c0_p 0] 167) :: L)) := by
 unfold slices_IndexFunc_int_int_pass_1 at H
 refine Ok.enter (m := 2) (n := 19) Try.func174 rfl rfl rfl (by decide) ?_
 refine Cd.env (e' := [(0, Sl.v s_a0), (1, .func (.func 177) #[] #[pv b_a1_c0 0])]) rfl ?_
 refine Cd.seq ?_
 refine Cd.region ?_
 refine Lst.r (Ev.assign rfl) ?_
 refine Lst.nil ?_
 refine At.then ?_
 refine Cd.seq ?_
 refine Cd.seq ?_
 refine Cd.region ?_
 refine Lst.r (Ev.move rfl) ?_
 refine Lst.r (Ev.lenS (α := Int) (xs := a0) (by decide) rfl rfl Try.runUnderlying36 (hs_a0.mono (FLe.refl _) (sc2 hM))) ?_
 refine Lst.r (Ev.move rfl) ?_
 refine Lst.nil ?_
 refine At.then ?_
 refine Cd.block ?_
 refine Cd.bound (Rd.le (α := Int) (xs := a0) (by decide) (hs_a0.mono (FLe.refl _) (sc2 hM))) (fun hN14 => ?_)
 obtain ⟨ol3, H, HKl3⟩ := andThen_some H
 refine Cd.loop (σ := Nat × Nat × Unit) (fun (i3, k3, _u) => [(0, Sl.v s_a0), (1, .func (.func 177) #[] #[pv b_a1_c0 0]), (7, iv (a0.length : Int)), (8, iv (i3 : Int))]) (fun (i3, k3, _u) => (.blk b_a1_c0_p (enc (TurnR.mk a1_c0_p s_a1_c0_p_2 s_a1_c0_p_3 s_a1_c0_p_4)) 59) :: (.blk b_a1_c0 [pv b_a1_c0_p 0] 167) :: L) (fun _ => (fun (i3, k3, _u) => rangeM (slices_IndexFunc_int_int_pass_1_B0 a0 a1_c0_p) k3 i3 () = some ol3 ∧ i3 + k3 = a0.length)) (fun (i3, k3, _u) => k3) (0, a0.length, ()) ⟨rfl, rfl, rfl, rfl, trivial⟩ rfl ⟨H, by omega⟩ ?_
 rintro F4 ⟨i3, k3, _u⟩ hF5 ⟨H, hik3⟩
 refine Cd.as (e' := [(0, Sl.v s_a0), (1, .func (.func 177) #[] #[pv b_a1_c0 0]), (7, iv (a0.length : Int)), (8, iv (i3 : Int))]) (L' := (.blk b_a1_c0_p (enc (TurnR.mk a1_c0_p s_a1_c0_p_2 s_a1_c0_p_3 s_a1_c0_p_4)) 59) :: (.blk b_a1_c0 [pv b_a1_c0_p 0] 167) :: L) ⟨rfl, rfl, rfl, rfl, trivial⟩ rfl ?_
 rcases k3 with _ | k3
 ·have hc3 : decide ((i3 : Int) < (a0.length : Int)) = false := decide_eq_false (by omega)
  replace H := rangeM_end H
  refine Cd.seq ?_
  refine Cd.region ?_
  refine Lst.r (Ev.lss rfl rfl) ?_
  refine Lst.nil ?_
  refine At.then ?_
  refine Cd.seq ?_
  refine Cd.condF rfl hc3 ?_
  refine Cd.exit ?_
  refine At.then_exit ?_
  refine At.then_exit ?_
  refine At.in_exit ?_
  subst H
  replace H := HKl3
  refine At.then ?_
  refine Cd.seq ?_
  refine Cd.region ?_
  refine Lst.r (Ev.assign rfl) ?_
  refine Lst.nil ?_
  refine At.then ?_
  obtain rfl := some_inj H
  refine Cd.ret ?_
  exact At.ret1 rfl (Res.tmp rfl) hF5 (sk1 (sk1 (.refl _))) ⟨rfl, rfl⟩
 have hc3 : decide ((i3 : Int) < (a0.length : Int)) = true := decide_eq_true (by omega)
 obtain ⟨c3, H, hgo3, hbrk3, hret3⟩ := rangeM_go H
 unfold slices_IndexFunc_int_int_pass_1_B0 at H
 try dsimp only at H
 refine Cd.seq ?_
 refine Cd.region ?_
 refine Lst.r (Ev.lss rfl rfl) ?_
 refine Lst.nil ?_
 refine At.then ?_
 refine Cd.seq ?_
 refine Cd.condT rfl hc3 ?_
 refine Cd.skip ?_
 refine At.then ?_
 refine Cd.seq ?_
 refine Cd.block ?_
 refine Cd.seq ?_
 refine Cd.region ?_
 refine Lst.r (Ev.move rfl) ?_
 refine Lst.r (Ev.assign rfl) ?_
 refine Lst.nil ?_
 refine At.then ?_
 refine Cd.seq ?_
 refine Cd.region ?_
 refine Lst.r (Ev.move rfl) ?_
 refine Lst.r (Ev.move rfl) ?_
 refine Lst.r (Ev.move rfl) ?_
 obtain ⟨x6, h7, H⟩ := bind_some H
 have g8 := lat_some h7
 refine Lst.r (Ev.indexS (α := Int) (xs := a0) rfl rfl Try.runUnderlying36 Try.sizeOf3 rfl (by decide) (hs_a0.mono hF5 (sc2 hM)) g8.1 g8.2.1) ?_
 refine Lst.r (Ev.loadS (α := Int) rfl (hs_a0.mono hF5 (sc2 hM)) Try.isAgg3 (v := iv x6) ((Get.elemN (s := 1) (x := x6) rfl g8.2.2 (Get.here _)).off (by omega))) ?_
 obtain ⟨r9, h10, H⟩ := bind_some H
 refine Lst.callV1 rfl rfl (by decide) (vs := [iv x6]) (cs := [pv b_a1_c0 0]) rfl ⟨rfl, trivial⟩ Try.call177 (turn_pass_1_sim h10 w0 _ M _ hM hm_a1_c0_p_2 (hs_a1_c0_p_2.mono hF5 (.refl _)) (All.monoLR ha_a1_c0_p_2 hF5 (.refl _)) (hs_a1_c0_p_3.mono hF5 (.refl _)) (hs_a1_c0_p_4.mono hF5 (.refl _))) ?_
 refine Lst.nil ?_
 refine At.then ?_
 rcases Bool.eq_false_or_eq_true r9 with hb13 | hb13
 ·replace H := ite_t hb13 H
  refine Cd.condT rfl hb13 ?_
  refine Cd.seq ?_
  refine Cd.region ?_
  refine Lst.r (Ev.move rfl) ?_
  refine Lst.r (Ev.assign rfl) ?_
  refine Lst.nil ?_
  refine At.then ?_
  have H := hret3 _ (some_inj H).symm
  subst H
  replace H := HKl3
  obtain rfl := some_inj H
  refine Cd.ret ?_
  refine At.in_ret ?_
  refine At.then_ret ?_
  refine At.then_ret ?_
  refine At.in_ret ?_
  refine At.then_ret ?_
  exact At.ret1 rfl (Res.tmp rfl) hF5 (sk1 (sk1 (.refl _))) ⟨rfl, rfl⟩
 replace H := ite_f hb13 H
 refine Cd.condF rfl hb13 ?_
 refine Cd.skip ?_
 refine At.in_normal ?_
 refine At.then ?_
 refine Cd.region ?_
 refine Lst.r (Ev.incr (by omega) rfl rfl) ?_
 refine Lst.r (Ev.move rfl) ?_
 refine Lst.nil ?_
 exact At.meet (i3 + 1, k3, ()) hF5 ⟨rfl, rfl, rfl, rfl, trivial⟩ rfl ⟨⟨hgo3 _ (some_inj H).symm, by omega⟩, Nat.lt_succ_self _⟩
set_option maxRecDepth 20000 in
theorem slices_DeleteFunc_int_int_pass_1_sim {fu : Nat} {a0 : List Int} {a1_c0_p : Turn} {s_a0 : Sl} {b_a1_c0 : Nat} {b_a1_c0_p : Nat} {s_a1_c0_p_2 : Sl} {rs_a1_c0_p_2 : List (LR Int)} {s_a1_c0_p_3 : Sl} {s_a1_c0_p_4 : Sl} {r : (List Int)} (H : slices_DeleteFunc_int_int_pass_1 fu a0 a1_c0_p = some r) (w0 : World) (F : Frz) (M L : List Item) (hM : M.Sublist L) (hm_a1_c0_p_2 : rs_a1_c0_p_2.map LR.v = a1_c0_p.Want) (hs_a1_c0_p_2 : Rd w0 F M s_a1_c0_p_2 rs_a1_c0_p_2) (ha_a1_c0_p_2 : All LR.rel w0 F M rs_a1_c0_p_2) (hs_a1_c0_p_3 : Rd w0 F M s_a1_c0_p_3 a1_c0_p.Log) (hs_a1_c0_p_4 : Rd w0 F M s_a1_c0_p_4 a1_c0_p.Told) : Ok Try.prog w0 189 [Sl.v s_a0, .func (.func 177) #[] #[pv b_a1_c0 0]] F ((.own s_a0 3 1 (encs a0)) :: (.blk b_a1_c0_p (enc (TurnR.mk a1_c0_p s_a1_c0_p_2 s_a1_c0_p_3 s_a1_c0_p_4)) 59) :: (.blk b_a1_c0 [pv b_a1_c0_p 0] 167) :: L) (fun _ L' v => ∃ (s4 : Sl), v = Sl.v s4 ∧ L' = (.own s4 3 1 (encs r)) :: (.blk b_a1_c0_p (enc (TurnR.mk a1_c0_p s_a1_c0_p_2 s_a1_c0_p_3 s_a1_c0_p_4)) 59) :: (.blk b_a1_c0 [pv b_a1_c0_p 0] 167) :: L) := by
 unfold slices_DeleteFunc_int_int_pass_1 at H
 refine Ok.enter (m := 2) (n := 42) Try.func189 rfl rfl rfl (by decide) ?_
 refine Cd.env (e' := [(0, Sl.v s_a0), (1, .func (.func 177) #[] #[pv b_a1_c0 0])]) rfl ?_
 refine Cd.seq ?_
 refine Cd.region ?_
 refine Lst.addNil 3 1 ?_
 refine Lst.r (Ev.assign rfl) ?_
 refine Lst.nil ?_
 refine At.then ?_
 refine Cd.seq ?_
 refine Cd.region ?_
 refine Lst.r (Ev.move rfl) ?_
 refine Lst.r (Ev.move rfl) ?_
 obtain ⟨r5, h6, H⟩ := bind_some H
 refine Lst.front (i := 3) rfl rfl ?_
 refine Lst.front (i := 3) rfl (L' := (.blk b_a1_c0_p (enc (TurnR.mk a1_c0_p s_a1_c0_p_2 s_a1_c0_p_3 s_a1_c0_p_4)) 59) :: (.blk b_a1_c0 [pv b_a1_c0_p 0] 167) :: (.own Sl.nil 3 1 (encs ([] : List Int))) :: (.own s_a0 3 1 (encs a0)) :: L) rfl ?_
 refine Lst.call1 rfl rfl (by decide) (vs := [Sl.v s_a0, .func (.func 177) #[] #[pv b_a1_c0 0]]) ⟨rfl, rfl, trivial⟩ Try.call174 (slices_IndexFunc_int_int_pass_1_sim h6 w0 _ _ _ (.refl _) (Rd.own (i := 1) rfl rfl rfl) hm_a1_c0_p_2 (hs_a1_c0_p_2.mono (FLe.refl _) (sc2 hM)) (All.monoLR ha_a1_c0_p_2 (FLe.refl _) (sc2 hM)) (hs_a1_c0_p_3.mono (FLe.refl _) (sc2 hM)) (hs_a1_c0_p_4.mono (FLe.refl _) (sc2 hM))) ?_
 refine Lst.r (Ev.assign rfl) ?_
 refine Lst.nil ?_
 refine At.then ?_
 refine Cd.seq ?_
 refine Cd.seq ?_
 refine Cd.region ?_
 refine Lst.r (Ev.move rfl) ?_
 refine Lst.r (Ev.eql rfl rfl) ?_
 refine Lst.nil ?_
 refine At.then ?_
 rcases Bool.eq_false_or_eq_true (r5 == (-1 : Int)) with hb9 | hb9
 ·replace H := ite_t hb9 H
  refine Cd.condT rfl hb9 ?_
  refine Cd.seq ?_
  refine Cd.region ?_
  refine Lst.r (Ev.move rfl) ?_
  refine Lst.r (Ev.assign rfl) ?_
  refine Lst.nil ?_
  refine At.then ?_
  obtain rfl := some_inj H
  refine Cd.ret ?_
  refine At.then_ret ?_
  refine At.front (i := 3) rfl (L' := (.own s_a0 3 1 (encs a0)) :: (.blk b_a1_c0_p (enc (TurnR.mk a1_c0_p s_a1_c0_p_2 s_a1_c0_p_3 s_a1_c0_p_4)) 59) :: (.blk b_a1_c0 [pv b_a1_c0_p 0] 167) :: (.own Sl.nil 3 1 (encs ([] : List Int))) :: L) rfl ?_
  exact At.ret1 rfl (Res.tmp rfl) (FLe.refl _) (sk1 (sk1 (sk1 (sc1 (.refl _))))) ⟨s_a0, rfl, rfl⟩
 replace H := ite_f hb9 H
 refine Cd.condF rfl hb9 ?_
 refine Cd.skip ?_
 refine At.then ?_
 refine Cd.seq ?_
 refine Cd.seq ?_
 refine Cd.region ?_
 refine Lst.r (Ev.move rfl) ?_
 refine Lst.r (Ev.add rfl rfl) ?_
 refine Lst.r (Ev.assign rfl) ?_
 refine Lst.nil ?_
 refine At.then ?_
 refine Cd.block ?_
 obtain ⟨ol10, H, HKl10⟩ := andThen_some H
 refine Cd.loop (σ := Nat × Int × Int × (List Int)) (fun (k10, y11, y12, l13) => [(0, Sl.v s_a0), (1, .func (.func 177) #[] #[pv b_a1_c0 0]), (5, iv y11), (6, iv y12)]) (fun (k10, y11, y12, l13) => (.blk b_a1_c0_p (enc (TurnR.mk a1_c0_p s_a1_c0_p_2 s_a1_c0_p_3 s_a1_c0_p_4)) 59) :: (.blk b_a1_c0 [pv b_a1_c0_p 0] 167) :: (.own Sl.nil 3 1 (encs ([] : List Int))) :: (.own s_a0 3 1 (encs l13)) :: L) (fun _ => (fun (k10, y11, y12, l13) => whileM (slices_DeleteFunc_int_int_pass_1_B0 a1_c0_p) k10 (y11, y12, l13) = some ol10)) (fun (k10, y11, y12, l13) => k10) (fu, r5, w64 (r5 + (1 : Int)), a0) ⟨rfl, rfl, rfl, rfl, trivial⟩ rfl H ?_
 rintro F14 ⟨k10, y11, y12, l13⟩ hF15 H
 refine Cd.as (e' := [(0, Sl.v s_a0), (1, .func (.func 177) #[] #[pv b_a1_c0 0]), (5, iv y11), (6, iv y12)]) (L' := (.blk b_a1_c0_p (enc (TurnR.mk a1_c0_p s_a1_c0_p_2 s_a1_c0_p_3 s_a1_c0_p_4)) 59) :: (.blk b_a1_c0 [pv b_a1_c0_p 0] 167) :: (.own Sl.nil 3 1 (encs ([] : List Int))) :: (.own s_a0 3 1 (encs l13)) :: L) ⟨rfl, rfl, rfl, rfl, trivial⟩ rfl ?_
 rcases k10 with _ | k10
 ·cases H
 obtain ⟨c10, H, hgo10, hbrk10, hret10⟩ := whileM_go H
 unfold slices_DeleteFunc_int_int_pass_1_B0 at H
 try dsimp only at H
 refine Cd.seq ?_
 refine Cd.seq ?_
 refine Cd.region ?_
 refine Lst.r (Ev.move rfl) ?_
 refine Lst.r (Ev.move rfl) ?_
 refine Lst.r (Ev.lenS (α := Int) (xs := l13) (by decide) rfl rfl Try.runUnderlying36 (Rd.own (i := 3) rfl rfl rfl)) ?_
 refine Lst.r (Ev.lss rfl rfl) ?_
 refine Lst.nil ?_
 refine At.then ?_
 rcases (Bool.eq_false_or_eq_true (decide (y12 < (l13.length : Int)))).symm with hb16 | hb16
 ·replace H := ite_f hb16 H
  refine Cd.condF rfl hb16 ?_
  refine Cd.exit ?_
  refine At.then_exit ?_
  refine At.then_exit ?_
  refine At.in_exit ?_
  have H := hbrk10 _ (some_inj H).symm
  subst H
  replace H := HKl10
  refine At.then ?_
  refine Cd.seq ?_
  refine Cd.region ?_
  refine Lst.r (Ev.move rfl) ?_
  refine Lst.r (Ev.move rfl) ?_
  obtain ⟨m17, h18, H⟩ := bind_some H
  obtain ⟨g19, gl20⟩ := cutL_some h18
  try dsimp only at g19
  refine Lst.r (Ev.cut (α := Int) (xs := l13) (i := y11) (j := (l13.length : Int)) rfl rfl rfl Try.runUnderlying36 Try.sizeOf3 rfl (by decide) (Rd.own (i := 3) rfl rfl rfl) g19.1 g19.2.1 g19.2.2) ?_
  refine Lst.clearView (α := Int) (i := 3) (lo := (y11 : Int).toNat) (hi := ((l13.length : Int) : Int).toNat) (xs := l13) rfl rfl rfl Try.runUnderlying36 Try.zeroValue3 (0 : Int) rfl rfl (by decide) rfl rfl (by omega) (by omega) ?_
  refine Lst.its (L' := (.blk b_a1_c0_p (enc (TurnR.mk a1_c0_p s_a1_c0_p_2 s_a1_c0_p_3 s_a1_c0_p_4)) 59) :: (.blk b_a1_c0 [pv b_a1_c0_p 0] 167) :: (.own Sl.nil 3 1 (encs ([] : List Int))) :: (.own s_a0 3 1 (encs (clearL l13 (y11 : Int).toNat ((l13.length : Int) : Int).toNat (0 : Int)))) :: L) rfl ?_
  refine Lst.nil ?_
  refine At.then ?_
  refine Cd.seq ?_
  refine Cd.region ?_
  refine Lst.r (Ev.move rfl) ?_
  refine Lst.r (Ev.move rfl) ?_
  obtain ⟨m21, h22, H⟩ := bind_some H
  obtain ⟨g23, gl24⟩ := cutL_some h22
  try dsimp only at g23
  refine Lst.r (Ev.cut (α := Int) (xs := (clearL l13 (y11 : Int).toNat ((l13.length : Int) : Int).toNat (0 : Int))) (i := 0) (j := y11) rfl rfl rfl Try.runUnderlying36 Try.sizeOf3 rfl (by decide) (Rd.own (i := 3) rfl rfl rfl) g23.1 g23.2.1 g23.2.2) ?_
  refine Lst.cutOwn (i := 3) (α := Int) (lo := (0 : Int).toNat) (hi := (y11 : Int).toNat) rfl rfl rfl (by decide) (by omega) (by omega) (L' := (.blk b_a1_c0_p (enc (TurnR.mk a1_c0_p s_a1_c0_p_2 s_a1_c0_p_3 s_a1_c0_p_4)) 59) :: (.blk b_a1_c0 [pv b_a1_c0_p 0] 167) :: (.own Sl.nil 3 1 (encs ([] : List Int))) :: (.own (s_a0.cut (0 : Int).toNat (y11 : Int).toNat 1) 3 1 (encs m21)) :: L) (by subst gl24; rfl) ?_
  refine Lst.r (Ev.assign rfl) ?_
  refine Lst.nil ?_
  refine At.then ?_
  obtain rfl := some_inj H
  refine Cd.ret ?_
  refine At.front (i := 3) rfl (L' := (.own (s_a0.cut (0 : Int).toNat (y11 : Int).toNat 1) 3 1 (encs m21)) :: (.blk b_a1_c0_p (enc (TurnR.mk a1_c0_p s_a1_c0_p_2 s_a1_c0_p_3 s_a1_c0_p_4)) 59) :: (.blk b_a1_c0 [pv b_a1_c0_p 0] 167) :: (.own Sl.nil 3 1 (encs ([] : List Int))) :: L) rfl ?_
  exact At.ret1 rfl (Res.tmp rfl) hF15 (sk1 (sk1 (sk1 (sc1 (.refl _))))) ⟨(s_a0.cut (0 : Int).toNat (y11 : Int).toNat 1), rfl, rfl⟩
 replace H := ite_t hb16 H
 refine Cd.condT rfl hb16 ?_
 refine Cd.skip ?_
 refine At.then ?_
 refine Cd.seq ?_
 refine Cd.block ?_
 refine Cd.seq ?_
 refine Cd.region ?_
 refine Lst.r (Ev.move rfl) ?_
 refine Lst.r (Ev.move rfl) ?_
 obtain ⟨x26, h27, H⟩ := bind_some H
 have g28 := lat_some h27
 refine Lst.r (Ev.indexS (α := Int) (xs := l13) rfl rfl Try.runUnderlying36 Try.sizeOf3 rfl (by decide) (Rd.own (i := 3) rfl rfl rfl) g28.1 g28.2.1) ?_
 refine Lst.r (Ev.loadS (α := Int) rfl (Rd.own (i := 3) rfl rfl rfl) Try.isAgg3 (v := iv x26) ((Get.elemN (s := 1) (x := x26) rfl g28.2.2 (Get.here _)).off (by omega))) ?_
 refine Lst.r (Ev.assign rfl) ?_
 refine Lst.nil ?_
 refine At.then ?_
 refine Cd.seq ?_
 refine Cd.region ?_
 refine Lst.r (Ev.move rfl) ?_
 refine Lst.r (Ev.move rfl) ?_
 obtain ⟨r29, h30, H⟩ := bind_some H
 refine Lst.callV1 rfl rfl (by decide) (vs := [iv x26]) (cs := [pv b_a1_c0 0]) rfl ⟨rfl, trivial⟩ Try.call177 (turn_pass_1_sim h30 w0 _ M _ (sc2 hM) hm_a1_c0_p_2 (hs_a1_c0_p_2.mono hF15 (.refl _)) (All.monoLR ha_a1_c0_p_2 hF15 (.refl _)) (hs_a1_c0_p_3.mono hF15 (.refl _)) (hs_a1_c0_p_4.mono hF15 (.refl _))) ?_
 refine Lst.r (Ev.not rfl) ?_
 refine Lst.nil ?_
 refine At.then ?_
 rcases (Bool.eq_false_or_eq_true (!r29)).symm with hb33 | hb33
 ·replace H := ite_f hb33 H
  refine Cd.condF rfl hb33 ?_
  refine Cd.skip ?_
  refine At.in_normal ?_
  refine At.then ?_
  refine Cd.region ?_
  refine Lst.r (Ev.move rfl) ?_
  refine Lst.r (Ev.add rfl rfl) ?_
  refine Lst.r (Ev.assign rfl) ?_
  refine Lst.nil ?_
  exact At.meet (k10, y11, w64 (y12 + (1 : Int)), l13) hF15 ⟨rfl, rfl, rfl, rfl, trivial⟩ rfl ⟨hgo10 _ (some_inj H).symm, Nat.lt_succ_self _⟩
 replace H := ite_t hb33 H
 refine Cd.condT rfl hb33 ?_
 refine Cd.seq ?_
 refine Cd.region ?_
 refine Lst.r (Ev.move rfl) ?_
 refine Lst.r (Ev.move rfl) ?_
 refine Lst.r (Ev.move rfl) ?_
 obtain ⟨x34, h35, H⟩ := bind_some H
 have g36 := lat_some h35
 refine Lst.r (Ev.indexS (α := Int) (xs := l13) rfl rfl Try.runUnderlying36 Try.sizeOf3 rfl (by decide) (Rd.own (i := 3) rfl rfl rfl) g36.1 g36.2.1) ?_
 obtain ⟨p37, h38, H⟩ := Let_some H
 refine Lst.storeS (i := 3) rfl rfl rfl rfl rfl Try.sizeOf3 (vs := [iv x26]) rfl rfl (by decide) rfl (xs' := encs p37) (by rw [← h38]; exact (Put.elemN (s := 1) (x := x34) rfl g36.2.2 (Put.here (vs := [iv x26]) rfl)).off (by omega)) (L' := (.blk b_a1_c0_p (enc (TurnR.mk a1_c0_p s_a1_c0_p_2 s_a1_c0_p_3 s_a1_c0_p_4)) 59) :: (.blk b_a1_c0 [pv b_a1_c0_p 0] 167) :: (.own Sl.nil 3 1 (encs ([] : List Int))) :: (.own s_a0 3 1 (encs p37)) :: L) rfl ?_
 refine Lst.nil ?_
 refine At.then ?_
 refine Cd.as (e' := [(0, Sl.v s_a0), (1, .func (.func 177) #[] #[pv b_a1_c0 0]), (5, iv y11), (6, iv y12)]) (L' := (.blk b_a1_c0_p (enc (TurnR.mk a1_c0_p s_a1_c0_p_2 s_a1_c0_p_3 s_a1_c0_p_4)) 59) :: (.blk b_a1_c0 [pv b_a1_c0_p 0] 167) :: (.own Sl.nil 3 1 (encs ([] : List Int))) :: (.own s_a0 3 1 (encs p37)) :: L) ⟨rfl, rfl, rfl, rfl, trivial⟩ rfl ?_
 refine Cd.region ?_
 refine Lst.r (Ev.move rfl) ?_
 refine Lst.r (Ev.add rfl rfl) ?_
 refine Lst.r (Ev.assign rfl) ?_
 refine Lst.nil ?_
 refine At.in_normal ?_
 refine At.then ?_
 refine Cd.region ?_
 refine Lst.r (Ev.move rfl) ?_
 refine Lst.r (Ev.add rfl rfl) ?_
 refine Lst.r (Ev.assign rfl) ?_
 refine Lst.nil ?_
 exact At.meet (k10, w64 (y11 + (1 : Int)), w64 (y12 + (1 : Int)), p37) hF15 ⟨rfl, rfl, rfl, rfl, trivial⟩ rfl ⟨hgo10 _ (some_inj H).symm, Nat.lt_succ_self _⟩
set_option maxRecDepth 20000 in
theorem turn_without_pass_1_sim {fu : Nat} {a0 : List (List Int)} {a1_c0_p : Turn} {s_a0 : Sl} {rs_a0 : List (LR Int)} {b_a1_c0 : Nat} {b_a1_c0_p : Nat} {s_a1_c0_p_2 : Sl} {rs_a1_c0_p_2 : List (LR Int)} {s_a1_c0_p_3 : Sl} {s_a1_c0_p_4 : Sl} {r : (List (List Int))} (H : turn_without_pass_1 fu a0 a1_c0_p = some r) (w0 : World) (F : Frz) (M L : List Item) (hM : M.Sublist L) (hm_a0 : rs_a0.map LR.v = a0) (hm_a1_c0_p_2 : rs_a1_c0_p_2.map LR.v = a1_c0_p.Want) (hs_a1_c0_p_2 : Rd w0 F M s_a1_c0_p_2 rs_a1_c0_p_2) (ha_a1_c0_p_2 : All LR.rel w0 F M rs_a1_c0_p_2) (hs_a1_c0_p_3 : Rd w0 F M s_a1_c0_p_3 a1_c0_p.Log) (hs_a1_c0_p_4 : Rd w0 F M s_a1_c0_p_4 a1_c0_p.Told) : Ok Try.prog w0 176 [Sl.v s_a0, .func (.func 177) #[] #[pv b_a1_c0 0]] F ((.rows (α := Int) 3 rs_a0) :: (.own s_a0 36 1 (encs rs_a0)) :: (.blk b_a1_c0_p (enc (TurnR.mk a1_c0_p s_a1_c0_p_2 s_a1_c0_p_3 s_a1_c0_p_4)) 59) :: (.blk b_a1_c0 [pv b_a1_c0_p 0] 167) :: L) (fun Fx L' v => ∃ (rs5 : List (LR Int)), v = .tuple #[] ∧ L' = (.rows (α := Int) 3 rs5) :: (.own s_a0 36 1 (encs rs5)) :: (.blk b_a1_c0_p (enc (TurnR.mk a1_c0_p s_a1_c0_p_2 s_a1_c0_p_3 s_a1_c0_p_4)) 59) :: (.blk b_a1_c0 [pv b_a1_c0_p 0] 167) :: L ∧ rs5.map LR.v = r) := by
 unfold turn_without_pass_1 at H
 refine Ok.enter (m := 2) (n := 20) Try.func176 rfl rfl rfl (by decide) ?_
 refine Cd.env (e' := [(0, Sl.v s_a0), (1, .func (.func 177) #[] #[pv b_a1_c0 0])]) rfl ?_
 refine Cd.seq ?_
 refine Cd.region ?_
 refine Lst.r (Ev.move rfl) ?_
 refine Lst.r (Ev.lenM (map_len hm_a0) (Ev.lenS (α := LR Int) (xs := rs_a0) (by decide) rfl rfl Try.runUnderlying57 (Rd.own (i := 1) rfl rfl rfl))) ?_
 refine Lst.r (Ev.move rfl) ?_
 refine Lst.nil ?_
 refine At.then ?_
 refine Cd.block ?_
 refine Cd.bound (Rd.le (α := LR Int) (xs := rs_a0) (by decide) (Rd.own (i := 1) rfl rfl rfl)) (fun hN32 => ?_)
 rw [map_len hm_a0] at hN32
 obtain ⟨ol6, H, HKl6⟩ := bind_some H
 refine Cd.loop (σ := Nat × Nat × (List (List Int)) × (List (LR Int))) (fun (i6, k6, l7, rs8) => [(0, Sl.v s_a0), (1, .func (.func 177) #[] #[pv b_a1_c0 0]), (6, Sl.v s_a0), (7, iv (a0.length : Int)), (8, iv (i6 : Int))]) (fun (i6, k6, l7, rs8) => (.rows (α := Int) 3 rs8) :: (.own s_a0 36 1 (encs rs8)) :: (.blk b_a1_c0_p (enc (TurnR.mk a1_c0_p s_a1_c0_p_2 s_a1_c0_p_3 s_a1_c0_p_4)) 59) :: (.blk b_a1_c0 [pv b_a1_c0_p 0] 167) :: L) (fun Fx => (fun (i6, k6, l7, rs8) => rangeF (turn_without_pass_1_B0 fu a1_c0_p) k6 i6 l7 = some ol6 ∧ i6 + k6 = a0.length ∧ rs8.map LR.v = l7)) (fun (i6, k6, l7, rs8) => k6) (0, a0.length, a0, rs_a0) ⟨rfl, rfl, rfl, rfl, rfl, trivial⟩ rfl ⟨H, by omega, hm_a0⟩ ?_
 rintro F10 ⟨i6, k6, l7, rs8⟩ hF11 ⟨H, hik6, fm9⟩
 refine Cd.as (e' := [(0, Sl.v s_a0), (1, .func (.func 177) #[] #[pv b_a1_c0 0]), (6, Sl.v s_a0), (7, iv (a0.length : Int)), (8, iv (i6 : Int))]) (L' := (.rows (α := Int) 3 rs8) :: (.own s_a0 36 1 (encs rs8)) :: (.blk b_a1_c0_p (enc (TurnR.mk a1_c0_p s_a1_c0_p_2 s_a1_c0_p_3 s_a1_c0_p_4)) 59) :: (.blk b_a1_c0 [pv b_a1_c0_p 0] 167) :: L) ⟨rfl, rfl, rfl, rfl, rfl, trivial⟩ rfl ?_
 rcases k6 with _ | k6
 ·have hc6 : decide ((i6 : Int) < (a0.length : Int)) = false := decide_eq_false (by omega)
  replace H := rangeF_end H
  refine Cd.seq ?_
  refine Cd.region ?_
  refine Lst.r (Ev.lss rfl rfl) ?_
  refine Lst.nil ?_
  refine At.then ?_
  refine Cd.seq ?_
  refine Cd.condF rfl hc6 ?_
  refine Cd.exit ?_
  refine At.then_exit ?_
  refine At.then_exit ?_
  refine At.in_exit ?_
  subst H
  replace H := HKl6
  obtain rfl := some_inj H
  exact At.ret0 (.inr rfl) rfl hF11 (sk1 (sk1 (sk1 (sk1 (.refl _))))) ⟨rs8, rfl, rfl, fm9⟩
 have hc6 : decide ((i6 : Int) < (a0.length : Int)) = true := decide_eq_true (by omega)
 obtain ⟨c6, H, hgo6⟩ := rangeF_go H
 unfold turn_without_pass_1_B0 at H
 try dsimp only at H
 refine Cd.seq ?_
 refine Cd.region ?_
 refine Lst.r (Ev.lss rfl rfl) ?_
 refine Lst.nil ?_
 refine At.then ?_
 refine Cd.seq ?_
 refine Cd.condT rfl hc6 ?_
 refine Cd.skip ?_
 refine At.then ?_
 refine Cd.seq ?_
 refine Cd.block ?_
 refine Cd.seq ?_
 refine Cd.region ?_
 refine Lst.r (Ev.move rfl) ?_
 obtain ⟨x12, h13, H⟩ := bind_some H
 have g14 := lat_some h13
 obtain ⟨⟨r15v, r15h⟩, r15g, r15e, r15m⟩ := map_get fm9 g14.2.2
 obtain rfl : x12 = r15v := r15e.symm
 have hh16 := row_h r15g
 refine Lst.r (Ev.indexS (α := LR Int) (xs := rs8) rfl rfl Try.runUnderlying57 Try.sizeOf36 rfl (by decide) (Rd.own (i := 1) rfl rfl rfl) g14.1 (by have := map_len fm9; omega)) ?_
 refine Lst.r (Ev.loadS (α := LR Int) rfl (Rd.own (i := 1) rfl rfl rfl) Try.isAgg36 (v := Sl.v r15h) ((Get.elemN (s := 1) rfl r15g (Get.here _)).off (by omega))) ?_
 refine Lst.r (Ev.assign rfl) ?_
 refine Lst.r (Ev.assign rfl) ?_
 refine Lst.nil ?_
 refine At.then ?_
 refine Cd.region ?_
 refine Lst.r (Ev.move rfl) ?_
 refine Lst.r (Ev.move rfl) ?_
 refine Lst.r (Ev.move rfl) ?_
 refine Lst.r (Ev.move rfl) ?_
 obtain ⟨r18, h19, H⟩ := bind_some H
 refine Lst.rowOut (k := (i6 : Int).toNat) r15g rfl ?_
 refine Lst.its (L' := (.own r15h 3 1 (encs x12)) :: (.rows (α := Int) 3 (rs8.set (i6 : Int).toNat ⟨[], Sl.nil⟩)) :: (.own s_a0 36 1 (encs rs8)) :: (.blk b_a1_c0_p (enc (TurnR.mk a1_c0_p s_a1_c0_p_2 s_a1_c0_p_3 s_a1_c0_p_4)) 59) :: (.blk b_a1_c0 [pv b_a1_c0_p 0] 167) :: L) rfl ?_
 refine Lst.front (i := 4) rfl rfl ?_
 refine Lst.front (i := 4) rfl rfl ?_
 refine Lst.front (i := 2) rfl (L' := (.own r15h 3 1 (encs x12)) :: (.blk b_a1_c0_p (enc (TurnR.mk a1_c0_p s_a1_c0_p_2 s_a1_c0_p_3 s_a1_c0_p_4)) 59) :: (.blk b_a1_c0 [pv b_a1_c0_p 0] 167) :: (.rows (α := Int) 3 (rs8.set (i6 : Int).toNat ⟨[], Sl.nil⟩)) :: (.own s_a0 36 1 (encs rs8)) :: L) rfl ?_
 refine Lst.call rfl rfl (by decide) (vs := [Sl.v r15h, .func (.func 177) #[] #[pv b_a1_c0 0]]) ⟨rfl, rfl, trivial⟩ Try.call189 (slices_DeleteFunc_int_int_pass_1_sim h19 w0 _ M _ (sc2 hM) hm_a1_c0_p_2 (hs_a1_c0_p_2.mono hF11 (.refl _)) (All.monoLR ha_a1_c0_p_2 hF11 (.refl _)) (hs_a1_c0_p_3.mono hF11 (.refl _)) (hs_a1_c0_p_4.mono hF11 (.refl _))) (fun F22 L' v hF23 hv => ?_)
 obtain ⟨s20, rfl, rfl⟩ := hv
 obtain ⟨x24, h25, H⟩ := bind_some H
 have g26 := lat_some h25
 obtain ⟨⟨r27v, r27h⟩, r27g, r27e, r27m⟩ := map_get fm9 g26.2.2
 obtain rfl : x24 = r27v := r27e.symm
 have hh28 := row_h r27g
 refine Lst.r (Ev.indexS (α := LR Int) (xs := rs8) rfl rfl Try.runUnderlying57 Try.sizeOf36 rfl (by decide) (Rd.own (i := 4) rfl rfl rfl) g26.1 (by have := map_len fm9; omega)) ?_
 obtain ⟨p29, h30, H⟩ := Let_some H
 have hm31 : (rs8.set (i6 : Int).toNat (LR.mk r18 s20)).map LR.v = p29 := (map_set fm9 _ _).trans h30
 refine Lst.storeS (i := 4) rfl rfl rfl rfl rfl Try.sizeOf36 (vs := [Sl.v s20]) rfl rfl (by decide) rfl (xs' := encs (rs8.set (i6 : Int).toNat (LR.mk r18 s20))) ((Put.elemN (s := 1) (y := (LR.mk r18 s20)) rfl r27g (Put.here (vs := [Sl.v s20]) rfl)).off (by omega)) (L' := (.own s20 3 1 (encs r18)) :: (.blk b_a1_c0_p (enc (TurnR.mk a1_c0_p s_a1_c0_p_2 s_a1_c0_p_3 s_a1_c0_p_4)) 59) :: (.blk b_a1_c0 [pv b_a1_c0_p 0] 167) :: (.rows (α := Int) 3 (rs8.set (i6 : Int).toNat ⟨[], Sl.nil⟩)) :: (.own s_a0 36 1 (encs (rs8.set (i6 : Int).toNat (LR.mk r18 s20)))) :: L) rfl ?_
 refine Lst.front (i := 3) rfl rfl ?_
 refine Lst.front (i := 1) rfl (L' := (.own s20 3 1 (encs r18)) :: (.rows (α := Int) 3 (rs8.set (i6 : Int).toNat ⟨[], Sl.nil⟩)) :: (.blk b_a1_c0_p (enc (TurnR.mk a1_c0_p s_a1_c0_p_2 s_a1_c0_p_3 s_a1_c0_p_4)) 59) :: (.blk b_a1_c0 [pv b_a1_c0_p 0] 167) :: (.own s_a0 36 1 (encs (rs8.set (i6 : Int).toNat (LR.mk r18 s20)))) :: L) rfl ?_
 refine Lst.rowIn (k := (i6 : Int).toNat) (by rw [List.getElem?_set_self (List.getElem?_eq_some_iff.1 r27g).1]) rfl ?_
 refine Lst.its (L' := (.rows (α := Int) 3 (rs8.set (i6 : Int).toNat (LR.mk r18 s20))) :: (.blk b_a1_c0_p (enc (TurnR.mk a1_c0_p s_a1_c0_p_2 s_a1_c0_p_3 s_a1_c0_p_4)) 59) :: (.blk b_a1_c0 [pv b_a1_c0_p 0] 167) :: (.own s_a0 36 1 (encs (rs8.set (i6 : Int).toNat (LR.mk r18 s20)))) :: L) (by rw [List.set_set]) ?_
 refine Lst.nil ?_
 refine At.in_normal ?_
 refine At.then ?_
 refine Cd.region ?_
 refine Lst.r (Ev.incr (by omega) rfl rfl) ?_
 refine Lst.r (Ev.move rfl) ?_
 refine Lst.nil ?_
 refine At.front (i := 3) rfl rfl ?_
 refine At.front (i := 1) rfl (L' := (.rows (α := Int) 3 (rs8.set (i6 : Int).toNat (LR.mk r18 s20))) :: (.own s_a0 36 1 (encs (rs8.set (i6 : Int).toNat (LR.mk r18 s20)))) :: (.blk b_a1_c0_p (enc (TurnR.mk a1_c0_p s_a1_c0_p_2 s_a1_c0_p_3 s_a1_c0_p_4)) 59) :: (.blk b_a1_c0 [pv b_a1_c0_p 0] 167) :: L) rfl ?_
 exact At.meet (i6 + 1, k6, p29, (rs8.set (i6 : Int).toNat (LR.mk r18 s20))) (FLe.trans hF11 hF23) ⟨rfl, rfl, rfl, rfl, rfl, trivial⟩ rfl ⟨⟨hgo6 _ (some_inj H).symm, by omega, hm31⟩, Nat.lt_succ_self _⟩
set_option maxRecDepth 20000 in
theorem turn_pass_1_v2_sim {a0 : Int} {a1_p : Turn} {b_a1 : Nat} {b_a1_p : Nat} {s_a1_p_2 : Sl} {s_a1_p_3 : Sl} {s_a1_p_4 : Sl} {r : Bool} (H : turn_pass_1_v2 a0 a1_p = some r) (w0 : World) (F : Frz) (M L : List Item) (hM : M.Sublist L) (hs_a1_p_3 : Rd w0 F M s_a1_p_3 a1_p.Log) (hs_a1_p_4 : Rd w0 F M s_a1_p_4 a1_p.Told) : Ok Try.prog w0 177 [iv a0, pv b_a1 0] F ((.blk b_a1_p (enc (TurnR.mk a1_p s_a1_p_2 s_a1_p_3 s_a1_p_4)) 59) :: (.blk b_a1 [pv b_a1_p 0] 167) :: L) (Is (.bool r) ((.blk b_a1_p (enc (TurnR.mk a1_p s_a1_p_2 s_a1_p_3 s_a1_p_4)) 59) :: (.blk b_a1 [pv b_a1_p 0] 167) :: L)) := by
 unfold turn_pass_1_v2 at H
 refine Ok.enter (m := 2) (n := 10) Try.func177 rfl rfl rfl (by decide) ?_
 refine Cd.env (e' := [(0, iv a0), (1, pv b_a1 0)]) rfl ?_
 refine Cd.seq ?_
 refine Cd.region ?_
 refine Lst.r (Ev.assign rfl) ?_
 refine Lst.nil ?_
 refine At.then ?_
 refine Cd.seq ?_
 refine Cd.region ?_
 refine Lst.r (Ev.load (i := 1) rfl rfl Try.isAgg167 (v := pv b_a1_p 0) (Get.here _)) ?_
 refine Lst.r (Ev.nilCheck rfl) ?_
 refine Lst.r (Ev.fieldAddr (off' := 3) rfl Try.runUnderlying59 rfl Try.sizeOf36 rfl rfl) ?_
 refine Lst.r (Ev.load (i := 0) rfl rfl Try.isAgg36 (v := Sl.v s_a1_p_3) ((TurnR.get_Log (Get.here _)).off (by rfl))) ?_
 refine Lst.r (Ev.move rfl) ?_
 obtain ⟨r3, h4, H⟩ := bind_some H
 refine Lst.call1 rfl rfl (by decide) (vs := [Sl.v s_a1_p_3, iv a0]) ⟨rfl, rfl, trivial⟩ Try.call50 (slices_Contains_int_int_sim h4 w0 _ M _ (sc2 hM) (hs_a1_p_3.mono (FLe.refl _) (.refl _))) ?_
 refine Lst.r (Ev.assign rfl) ?_
 refine Lst.nil ?_
 refine At.then ?_
 obtain rfl := some_inj H
 refine Cd.ret ?_
 exact At.ret1 rfl (Res.tmp rfl) (FLe.refl _) (sk1 (sk1 (.refl _))) ⟨rfl, rfl⟩
set_option maxRecDepth 20000 in
theorem slices_IndexFunc_int_int_pass_1_v2_sim {a0 : List Int} {a1_c0_p : Turn} {s_a0 : Sl} {b_a1_c0 : Nat} {b_a1_c0_p : Nat} {s_a1_c0_p_2 : Sl} {s_a1_c0_p_3 : Sl} {s_a1_c0_p_4 : Sl} {r : Int} (H : slices_IndexFunc_int_int_pass_1_v2 a0 a1_c0_p = some r) (w0 : World) (F : Frz) (M L : List Item) (hM : M.Sublist L) (hs_a0 : Rd w0 F M s_a0 a0) (hs_a1_c0_p_3 : Rd w0 F M s_a1_c0_p_3 a1_c0_p.Log) (hs_a1_c0_p_4 : Rd w0 F M s_a1_c0_p_4 a1_c0_p.Told) : Ok Try.prog w0 174 [Sl.v s_a0, .func (.func 177) #[] #[pv b_a1_c0 0]] F ((.blk b_a1_c0_p (enc (TurnR.mk a1_c0_p s_a1_c0_p_2 s_a1_c0_p_3 s_a1_c0_p_4)) 59) :: (.blk b_a1_c0 [pv b_a1_c0_p 0] 167) :: L) (Is (iv r) ((.blk b_a1_c0_p (enc (TurnR.mk a1_c0_p s_a1_c0_p_2 s_a1_c0_p_3 s_a1_c0_p_4)) 59) :: (.blk b_a1_c0 [pv b_a1_c0_p 0] 167) :: L)) := by
 unfold slices_IndexFunc_int_int_pass_1_v2 at H
 refine Ok.enter (m := 2) (n := 19) Try.func174 rfl rfl rfl (by decide) ?_
 refine Cd.env (e' := [(0, Sl.v s_a0), (1, .func (.func 177) #[] #[pv b_a1_c0 0])]) rfl ?_
 refine Cd.seq ?_
 refine Cd.region ?_
 refine Lst.r (Ev.assign rfl) ?_
 refine Lst.nil ?_
 refine At.then ?_
 refine Cd.seq ?_
 refine Cd.seq ?_
 refine Cd.region ?_
 refine Lst.r (Ev.move rfl) ?_
 refine Lst.r (Ev.lenS (α := Int) (xs := a0) (by decide) rfl rfl Try.runUnderlying36 (hs_a0.mono (FLe.refl _) (sc2 hM))) ?_
 refine Lst.r (Ev.move rfl) ?_
 refine Lst.nil ?_
 refine At.then ?_
 refine Cd.block ?_
 refine Cd.bound (Rd.le (α := Int) (xs := a0) (by decide) (hs_a0.mono (FLe.refl _) (sc2 hM))) (fun hN14 => ?_)
 obtain ⟨ol3, H, HKl3⟩ := andThen_some H
 refine Cd.loop (σ := Nat × Nat × Unit) (fun (i3, k3, _u) => [(0, Sl.v s_a0), (1, .func (.func 177) #[] #[pv b_a1_c0 0]), (7, iv (a0.length : Int)), (8, iv (i3 : Int))]) (fun (i3, k3, _u) => (.blk b_a1_c0_p (enc (TurnR.mk a1_c0_p s_a1_c0_p_2 s_a1_c0_p_3 s_a1_c0_p_4)) 59) :: (.blk b_a1_c0 [pv b_a1_c0_p 0] 167) :: L) (fun _ => (fun (i3, k3, _u) => rangeM (slices_IndexFunc_int_int_pass_1_v2_B0 a0 a1_c0_p) k3 i3 () = some ol3 ∧ i3 + k3 = a0.length)) (fun (i3, k3, _u) => k3) (0, a0.length, ()) ⟨rfl, rfl, rfl, rfl, trivial⟩ rfl ⟨H, by omega⟩ ?_
 rintro F4 ⟨i3, k3, _u⟩ hF5 ⟨H, hik3⟩
 refine Cd.as (e' := [(0, Sl.v s_a0), (1, .func (.func 177) #[] #[pv b_a1_c0 0]), (7, iv (a0.length : Int)), (8, iv (i3 : Int))]) (L' := (.blk b_a1_c0_p (enc (TurnR.mk a1_c0_p s_a1_c0_p_2 s_a1_c0_p_3 s_a1_c0_p_4)) 59) :: (.blk b_a1_c0 [pv b_a1_c0_p 0] 167) :: L) ⟨rfl, rfl, rfl, rfl, trivial⟩ rfl ?_
 rcases k3 with _ | k3
 ·have hc3 : decide ((i3 : Int) < (a0.length : Int)) = false := decide_eq_false (by omega)
  replace H := rangeM_end H
  refine Cd.seq ?_
  refine Cd.region ?_
  refine Lst.r (Ev.lss rfl rfl) ?_
  refine Lst.nil ?_
  refine At.then ?_
  refine Cd.seq ?_
  refine Cd.condF rfl hc3 ?_
  refine Cd.exit ?_
  refine At.then_exit ?_
  refine At.then_exit ?_
  refine At.in_exit ?_
  subst H
  replace H := HKl3
  refine At.then ?_
  refine Cd.seq ?_
  refine Cd.region ?_
  refine Lst.r (Ev.assign rfl) ?_
  refine Lst.nil ?_
  refine At.then ?_
  obtain rfl := some_inj H
  refine Cd.ret ?_
  exact At.ret1 rfl (Res.tmp rfl) hF5 (sk1 (sk1 (.refl _))) ⟨rfl, rfl⟩
 have hc3 : decide ((i3 : Int) < (a0.length : Int)) = true := decide_eq_true (by omega)
 obtain ⟨c3, H, hgo3, hbrk3, hret3⟩ := rangeM_go H
 unfold slices_IndexFunc_int_int_pass_1_v2_B0 at H
 try dsimp only at H
 refine Cd.seq ?_
 refine Cd.region ?_
 refine Lst.r (Ev.lss rfl rfl) ?_
 refine Lst.nil ?_
 refine At.then ?_
 refine Cd.seq ?_
 refine Cd.condT rfl hc3 ?_
 refine Cd.skip ?_
 refine At.then ?_
 refine Cd.seq ?_
 refine Cd.block ?_
 refine Cd.seq ?_
 refine Cd.region ?_
 refine Lst.r (Ev.move rfl) ?_
 refine Lst.r (Ev.assign rfl) ?_
 refine Lst.nil ?_
 refine At.then ?_
 refine Cd.seq ?_
 refine Cd.region ?_
 refine Lst.r (Ev.move rfl) ?_
 refine Lst.r (Ev.move rfl) ?_
 refine Lst.r (Ev.move rfl) ?_
 obtain ⟨x6, h7, H⟩ := bind_some H
 have g8 := lat_some h7
 refine Lst.r (Ev.indexS (α := Int) (xs := a0) rfl rfl Try.runUnderlying36 Try.sizeOf3 rfl (by decide) (hs_a0.mono hF5 (sc2 hM)) g8.1 g8.2.1) ?_
 refine Lst.r (Ev.loadS (α := Int) rfl (hs_a0.mono hF5 (sc2 hM)) Try.isAgg3 (v := iv x6) ((Get.elemN (s := 1) (x := x6) rfl g8.2.2 (Get.here _)).off (by omega))) ?_
 obtain ⟨r9, h10, H⟩ := bind_some H
 refine Lst.callV1 rfl rfl (by decide) (vs := [iv x6]) (cs := [pv b_a1_c0 0]) rfl ⟨rfl, trivial⟩ Try.call177 (turn_pass_1_v2_sim h10 w0 _ M _ hM (hs_a1_c0_p_3.mono hF5 (.refl _)) (hs_a1_c0_p_4.mono hF5 (.refl _))) ?_
 refine Lst.nil ?_
 refine At.then ?_
 rcases Bool.eq_false_or_eq_true r9 with hb13 | hb13
 ·replace H := ite_t hb13 H
  refine Cd.condT rfl hb13 ?_
  refine Cd.seq ?_
  refine Cd.region ?_
  refine Lst.r (Ev.move rfl) ?_
  refine Lst.r (Ev.assign rfl) ?_
  refine Lst.nil ?_
  refine At.then ?_
  have H := hret3 _ (some_inj H).symm
  subst H
  replace H := HKl3
  obtain rfl := some_inj H
  refine Cd.ret ?_
  refine At.in_ret ?_
  refine At.then_ret ?_
  refine At.then_ret ?_
  refine At.in_ret ?_
  refine At.then_ret ?_
  exact At.ret1 rfl (Res.tmp rfl) hF5 (sk1 (sk1 (.refl _))) ⟨rfl, rfl⟩
 replace H := ite_f hb13 H
 refine Cd.condF rfl hb13 ?_
 refine Cd.skip ?_
 refine At.in_normal ?_
 refine At.then ?_
 refine Cd.region ?_
 refine Lst.r (Ev.incr (by omega) rfl rfl) ?_
 refine Lst.r (Ev.move rfl) ?_
 refine Lst.nil ?_
 exact At.meet (i3 + 1, k3, ()) hF5 ⟨rfl, rfl, rfl, rfl, trivial⟩ rfl ⟨⟨hgo3 _ (some_inj H).symm, by omega⟩, Nat.lt_succ_self _⟩
set_option maxRecDepth 20000 in
theorem slices_DeleteFunc_int_int_pass_1_v2_sim {fu : Nat} {a0 : List Int} {a1_c0_p : Turn} {s_a0 : Sl} {b_a1_c0 : Nat} {b_a1_c0_p : Nat} {s_a1_c0_p_2 : Sl} {s_a1_c0_p_3 : Sl} {s_a1_c0_p_4 : Sl} {r : (List Int)} (H : slices_DeleteFunc_int_int_pass_1_v2 fu a0 a1_c0_p = some r) (w0 : World) (F : Frz) (M L : List Item) (hM : M.Sublist L) (hs_a1_c0_p_3 : Rd w0 F M s_a1_c0_p_3 a1_c0_p.Log) (hs_a1_c0_p_4 : Rd w0 F M s_a1_c0_p_4 a1_c0_p.Told) : Ok Try.prog w0 189 [Sl.v s_a0, .func (.func 177) #[] #[pv b_a1_c0 0]] F ((.own s_a0 3 1 (encs a0)) :: (.blk b_a1_c0_p (enc (TurnR.mk a1_c0_p s_a1_c0_p_2 s_a1_c0_p_3 s_a1_c0_p_4)) 59) :: (.blk b_a1_c0 [pv b_a1_c0_p 0] 167) :: L) (fun _ L' v => ∃ (s4 : Sl), v = Sl.v s4 ∧ L' = (.own s4 3 1 (encs r)) :: (.blk b_a1_c0_p (enc (TurnR.mk a1_c0_p s_a1_c0_p_2 s_a1_c0_p_3 s_a1_c0_p_4)) 59) :: (.blk b_a1_c0 [pv b_a1_c0_p 0] 167) :: L) := by
 unfold slices_DeleteFunc_int_int_pass_1_v2 at H
 refine Ok.enter (m := 2) (n := 42) Try.func189 rfl rfl rfl (by decide) ?_
 refine Cd.env (e' := [(0, Sl.v s_a0), (1, .func (.func 177) #[] #[pv b_a1_c0 0])]) rfl ?_
 refine Cd.seq ?_
 refine Cd.region ?_
 refine Lst.addNil 3 1 ?_
 refine Lst.r (Ev.assign rfl) ?_
 refine Lst.nil ?_
 refine At.then ?_
 refine Cd.seq ?_
 refine Cd.region ?_
 refine Lst.r (Ev.move rfl) ?_
 refine Lst.r (Ev.move rfl) ?_
 obtain ⟨r5, h6, H⟩ := bind_some H
 refine Lst.front (i := 3) rfl rfl ?_
 refine Lst.front (i := 3) rfl (L' := (.blk b_a1_c0_p (enc (TurnR.mk a1_c0_p s_a1_c0_p_2 s_a1_c0_p_3 s_a1_c0_p_4)) 59) :: (.blk b_a1_c0 [pv b_a1_c0_p 0] 167) :: (.own Sl.nil 3 1 (encs ([] : List Int))) :: (.own s_a0 3 1 (encs a0)) :: L) rfl ?_
 refine Lst.call1 rfl rfl (by decide) (vs := [Sl.v s_a0, .func (.func 177) #[] #[pv b_a1_c0 0]]) ⟨rfl, rfl, trivial⟩ Try.call174 (slices_IndexFunc_int_int_pass_1_v2_sim h6 w0 _ _ _ (.refl _) (Rd.own (i := 1) rfl rfl rfl) (hs_a1_c0_p_3.mono (FLe.refl _) (sc2 hM)) (hs_a1_c0_p_4.mono (FLe.refl _) (sc2 hM))) ?_
 refine Lst.r (Ev.assign rfl) ?_
 refine Lst.nil ?_
 refine At.then ?_
 refine Cd.seq ?_
 refine Cd.seq ?_
 refine Cd.region ?_
 refine Lst.r (Ev.move rfl) ?_
 refine Lst.r (Ev.eql rfl rfl) ?_
 refine Lst.nil ?_
 refine At.then ?_
 rcases Bool.eq_false_or_eq_true (r5 == (-1 : Int)) with hb9 | hb9
 ·replace H := ite_t hb9 H
  refine Cd.condT rfl hb9 ?_
  refine Cd.seq ?_
  refine Cd.region ?_
  refine Lst.r (Ev.move rfl) ?_
  refine Lst.r (Ev.assign rfl) ?_
  refine Lst.nil ?_
  refine At.then ?_
  obtain rfl := some_inj H
  refine Cd.ret ?_
  refine At.then_ret ?_
  refine At.front (i := 3) rfl (L' := (.own s_a0 3 1 (encs a0)) :: (.blk b_a1_c0_p (enc (TurnR.mk a1_c0_p s_a1_c0_p_2 s_a1_c0_p_3 s_a1_c0_p_4)) 59) :: (.blk b_a1_c0 [pv b_a1_c0_p 0] 167) :: (.own Sl.nil 3 1 (encs ([] : List Int))) :: L) rfl ?_
  exact At.ret1 rfl (Res.tmp rfl) (FLe.refl _) (sk1 (sk1 (sk1 (sc1 (.refl _))))) ⟨s_a0, rfl, rfl⟩
 replace H := ite_f hb9 H
 refine Cd.condF rfl hb9 ?_
 refine Cd.skip ?_
 refine At.then ?_
 refine Cd.seq ?_
 refine Cd.seq ?_
 refine Cd.region ?_
 refine Lst.r (Ev.move rfl) ?_
 refine Lst.r (Ev.add rfl rfl) ?_
 refine Lst.r (Ev.assign rfl) ?_
 refine Lst.nil ?_
 refine At.then ?_
 refine Cd.block ?_
 obtain ⟨ol10, H, HKl10⟩ := andThen_some H
 refine Cd.loop (σ := Nat × Int × Int × (List Int)) (fun (k10, y11, y12, l13) => [(0, Sl.v s_a0), (1, .func (.func 177) #[] #[pv b_a1_c0 0]), (5, iv y11), (6, iv y12)]) (fun (k10, y11, y12, l13) => (.blk b_a1_c0_p (enc (TurnR.mk a1_c0_p s_a1_c0_p_2 s_a1_c0_p_3 s_a1_c0_p_4)) 59) :: (.blk b_a1_c0 [pv b_a1_c0_p 0] 167) :: (.own Sl.nil 3 1 (encs ([] : List Int))) :: (.own s_a0 3 1 (encs l13)) :: L) (fun _ => (fun (k10, y11, y12, l13) => whileM (slices_DeleteFunc_int_int_pass_1_v2_B0 a1_c0_p) k10 (y11, y12, l13) = some ol10)) (fun (k10, y11, y12, l13) => k10) (fu, r5, w64 (r5 + (1 : Int)), a0) ⟨rfl, rfl, rfl, rfl, trivial⟩ rfl H ?_
 rintro F14 ⟨k10, y11, y12, l13⟩ hF15 H
 refine Cd.as (e' := [(0, Sl.v s_a0), (1, .func (.func 177) #[] #[pv b_a1_c0 0]), (5, iv y11), (6, iv y12)]) (L' := (.blk b_a1_c0_p (enc (TurnR.mk a1_c0_p s_a1_c0_p_2 s_a1_c0_p_3 s_a1_c0_p_4)) 59) :: (.blk b_a1_c0 [pv b_a1_c0_p 0] 167) :: (.own Sl.nil 3 1 (encs ([] : List Int))) :: (.own s_a0 3 1 (encs l13)) :: L) ⟨rfl, rfl, rfl, rfl, trivial⟩ rfl ?_
 rcases k10 with _ | k10
 ·cases H
 obtain ⟨c10, H, hgo10, hbrk10, hret10⟩ := whileM_go H
 unfold slices_DeleteFunc_int_int_pass_1_v2_B0 at H
 try dsimp only at H
 refine Cd.seq ?_
 refine Cd.seq ?_
 refine Cd.region ?_
 refine Lst.r (Ev.move rfl) ?_
 refine Lst.r (Ev.move rfl) ?_
 refine Lst.r (Ev.lenS (α := Int) (xs := l13) (by decide) rfl rfl Try.runUnderlying36 (Rd.own (i := 3) rfl rfl rfl)) ?_
 refine Lst.r (Ev.lss rfl rfl) ?_
 refine Lst.nil ?_
 refine At.then ?_
 rcases (Bool.eq_false_or_eq_true (decide (y12 < (l13.length : Int)))).symm with hb16 | hb16
 ·replace H := ite_f hb16 H
  refine Cd.condF rfl hb16 ?_
  refine Cd.exit ?_
  refine At.then_exit ?_
  refine At.then_exit ?_
  refine At.in_exit ?_
  have H := hbrk10 _ (some_inj H).symm
  subst H
  replace H := HKl10
  refine At.then ?_
  refine Cd.seq ?_
  refine Cd.region ?_
  refine Lst.r (Ev.move rfl) ?_
  refine Lst.r (Ev.move rfl) ?_
  obtain ⟨m17, h18, H⟩ := bind_some H
  obtain ⟨g19, gl20⟩ := cutL_some h18
  try dsimp only at g19
  refine Lst.r (Ev.cut (α := Int) (xs := l13) (i := y11) (j := (l13.length : Int)) rfl rfl rfl Try.runUnderlying36 Try.sizeOf3 rfl (by decide) (Rd.own (i := 3) rfl rfl rfl) g19.1 g19.2.1 g19.2.2) ?_
  refine Lst.clearView (α := Int) (i := 3) (lo := (y11 : Int).toNat) (hi := ((l13.length : Int) : Int).toNat) (xs := l13) rfl rfl rfl Try.runUnderlying36 Try.zeroValue3 (0 : Int) rfl rfl (by decide) rfl rfl (by omega) (by omega) ?_
  refine Lst.its (L' := (.blk b_a1_c0_p (enc (TurnR.mk a1_c0_p s_a1_c0_p_2 s_a1_c0_p_3 s_a1_c0_p_4)) 59) :: (.blk b_a1_c0 [pv b_a1_c0_p 0] 167) :: (.own Sl.nil 3 1 (encs ([] : List Int))) :: (.own s_a0 3 1 (encs (clearL l13 (y11 : Int).toNat ((l13.length : Int) : Int).toNat (0 : Int)))) :: L) rfl ?_
  refine Lst.nil ?_
  refine At.then ?_
  refine Cd.seq ?_
  refine Cd.region ?_
  refine Lst.r (Ev.move rfl) ?_
  refine Lst.r (Ev.move rfl) ?_
  obtain ⟨m21, h22, H⟩ := bind_some H
  obtain ⟨g23, gl24⟩ := cutL_some h22
  try dsimp only at g23
  refine Lst.r (Ev.cut (α := Int) (xs := (clearL l13 (y11 : Int).toNat ((l13.length : Int) : Int).toNat (0 : Int))) (i := 0) (j := y11) rfl rfl rfl Try.runUnderlying36 Try.sizeOf3 rfl (by decide) (Rd.own (i := 3) rfl rfl rfl) g23.1 g23.2.1 g23.2.2) ?_
  refine Lst.cutOwn (i := 3) (α := Int) (lo := (0 : Int).toNat) (hi := (y11 : Int).toNat) rfl rfl rfl (by decide) (by omega) (by omega) (L' := (.blk b_a1_c0_p (enc (TurnR.mk a1_c0_p s_a1_c0_p_2 s_a1_c0_p_3 s_a1_c0_p_4)) 59) :: (.blk b_a1_c0 [pv b_a1_c0_p 0] 167) :: (.own Sl.nil 3 1 (encs ([] : List Int))) :: (.own (s_a0.cut (0 : Int).toNat (y11 : Int).toNat 1) 3 1 (encs m21)) :: L) (by subst gl24; rfl) ?_
  refine Lst.r (Ev.assign rfl) ?_
  refine Lst.nil ?_
  refine At.then ?_
  obtain rfl := some_inj H
  refine Cd.ret ?_
  refine At.front (i := 3) rfl (L' := (.own (s_a0.cut (0 : Int).toNat (y11 : Int).toNat 1) 3 1 (encs m21)) :: (.blk b_a1_c0_p (enc (TurnR.mk a1_c0_p s_a1_c0_p_2 s_a1_c0_p_3 s_a1_c0_p_4)) 59) :: (.blk b_a1_c0 [pv b_a1_c0_p 0] 167) :: (.own Sl.nil 3 1 (encs ([] : List Int))) :: L) rfl ?_
  exact At.ret1 rfl (Res.tmp rfl) hF15 (sk1 (sk1 (sk1 (sc1 (.refl _))))) ⟨(s_a0.cut (0 : Int).toNat (y11 : Int).toNat 1), rfl, rfl⟩
 replace H := ite_t hb16 H
 refine Cd.condT rfl hb16 ?_
 refine Cd.skip ?_
 refine At.then ?_
 refine Cd.seq ?_
 refine Cd.block ?_
 refine Cd.seq ?_
 refine Cd.region ?_
 refine Lst.r (Ev.move rfl) ?_
 refine Lst.r (Ev.move rfl) ?_
 obtain ⟨x26, h27, H⟩ := bind_some H
 have g28 := lat_some h27
 refine Lst.r (Ev.indexS (α := Int) (xs := l13) rfl rfl Try.runUnderlying36 Try.sizeOf3 rfl (by decide) (Rd.own (i := 3) rfl rfl rfl) g28.1 g28.2.1) ?_
 refine Lst.r (Ev.loadS (α := Int) rfl (Rd.own (i := 3) rfl rfl rfl) Try.isAgg3 (v := iv x26) ((Get.elemN (s := 1) (x := x26) rfl g28.2.2 (Get.here _)).off (by omega))) ?_
 refine Lst.r (Ev.assign rfl) ?_
 refine Lst.nil ?_
 refine At.then ?_
 refine Cd.seq ?_
 refine Cd.region ?_
 refine Lst.r (Ev.move rfl) ?_
 refine Lst.r (Ev.move rfl) ?_
 obtain ⟨r29, h30, H⟩ := bind_some H
 refine Lst.callV1 rfl rfl (by decide) (vs := [iv x26]) (cs := [pv b_a1_c0 0]) rfl ⟨rfl, trivial⟩ Try.call177 (turn_pass_1_v2_sim h30 w0 _ M _ (sc2 hM) (hs_a1_c0_p_3.mono hF15 (.refl _)) (hs_a1_c0_p_4.mono hF15 (.refl _))) ?_
 refine Lst.r (Ev.not rfl) ?_
 refine Lst.nil ?_
 refine At.then ?_
 rcases (Bool.eq_false_or_eq_true (!r29)).symm with hb33 | hb33
 ·replace H := ite_f hb33 H
  refine Cd.condF rfl hb33 ?_
  refine Cd.skip ?_
  refine At.in_normal ?_
  refine At.then ?_
  refine Cd.region ?_
  refine Lst.r (Ev.move rfl) ?_
  refine Lst.r (Ev.add rfl rfl) ?_
  refine Lst.r (Ev.assign rfl) ?_
  refine Lst.nil ?_
  exact At.meet (k10, y11, w64 (y12 + (1 : Int)), l13) hF15 ⟨rfl, rfl, rfl, rfl, trivial⟩ rfl ⟨hgo10 _ (some_inj H).symm, Nat.lt_succ_self _⟩
 replace H := ite_t hb33 H
 refine Cd.condT rfl hb33 ?_
 refine Cd.seq ?_
 refine Cd.region ?_
 refine Lst.r (Ev.move rfl) ?_
 refine Lst.r (Ev.move rfl) ?_
 refine Lst.r (Ev.move rfl) ?_
 obtain ⟨x34, h35, H⟩ := bind_some H
 have g36 := lat_some h35
 refine Lst.r (Ev.indexS (α := Int) (xs := l13) rfl rfl Try.runUnderlying36 Try.sizeOf3 rfl (by decide) (Rd.own (i := 3) rfl rfl rfl) g36.1 g36.2.1) ?_
 obtain ⟨p37, h38, H⟩ := Let_some H
 refine Lst.storeS (i := 3) rfl rfl rfl rfl rfl Try.sizeOf3 (vs := [iv x26]) rfl rfl (by decide) rfl (xs' := encs p37) (by rw [← h38]; exact (Put.elemN (s := 1) (x := x34) rfl g36.2.2 (Put.here (vs := [iv x26]) rfl)).off (by omega)) (L' := (.blk b_a1_c0_p (enc (TurnR.mk a1_c0_p s_a1_c0_p_2 s_a1_c0_p_3 s_a1_c0_p_4)) 59) :: (.blk b_a1_c0 [pv b_a1_c0_p 0] 167) :: (.own Sl.nil 3 1 (encs ([] : List Int))) :: (.own s_a0 3 1 (encs p37)) :: L) rfl ?_
 refine Lst.nil ?_
 refine At.then ?_
 refine Cd.as (e' := [(0, Sl.v s_a0), (1, .func (.func 177) #[] #[pv b_a1_c0 0]), (5, iv y11), (6, iv y12)]) (L' := (.blk b_a1_c0_p (enc (TurnR.mk a1_c0_p s_a1_c0_p_2 s_a1_c0_p_3 s_a1_c0_p_4)) 59) :: (.blk b_a1_c0 [pv b_a1_c0_p 0] 167) :: (.own Sl.nil 3 1 (encs ([] : List Int))) :: (.own s_a0 3 1 (encs p37)) :: L) ⟨rfl, rfl, rfl, rfl, trivial⟩ rfl ?_
 refine Cd.region ?_
 refine Lst.r (Ev.move rfl) ?_
 refine Lst.r (Ev.add rfl rfl) ?_
 refine Lst.r (Ev.assign rfl) ?_
 refine Lst.nil ?_
 refine At.in_normal ?_
 refine At.then ?_
 refine Cd.region ?_
 refine Lst.r (Ev.move rfl) ?_
 refine Lst.r (Ev.add rfl rfl) ?_
 refine Lst.r (Ev.assign rfl) ?_
 refine Lst.nil ?_
 exact At.meet (k10, w64 (y11 + (1 : Int)), w64 (y12 + (1 : Int)), p37) hF15 ⟨rfl, rfl, rfl, rfl, trivial⟩ rfl ⟨hgo10 _ (some_inj H).symm, Nat.lt_succ_self _⟩
set_option maxRecDepth 20000 in
theorem turn_without_pass_1_v2_sim {fu : Nat} {a0 : List (List Int)} {a1_c0_p : Turn} {s_a0 : Sl} {rs_a0 : List (LR Int)} {b_a1_c0 : Nat} {b_a1_c0_p : Nat} {s_a1_c0_p_2 : Sl} {s_a1_c0_p_3 : Sl} {s_a1_c0_p_4 : Sl} {r : (List (List Int))} (H : turn_without_pass_1_v2 fu a0 a1_c0_p = some r) (w0 : World) (F : Frz) (M L : List Item) (hM : M.Sublist L) (hm_a0 : rs_a0.map LR.v = a0) (hs_a1_c0_p_3 : Rd w0 F M s_a1_c0_p_3 a1_c0_p.Log) (hs_a1_c0_p_4 : Rd w0 F M s_a1_c0_p_4 a1_c0_p.Told) : Ok Try.prog w0 176 [Sl.v s_a0, .func (.func 177) #[] #[pv b_a1_c0 0]] F ((.rows (α := Int) 3 rs_a0) :: (.own s_a0 36 1 (encs rs_a0)) :: (.blk b_a1_c0_p (enc (TurnR.mk a1_c0_p s_a1_c0_p_2 s_a1_c0_p_3 s_a1_c0_p_4)) 59) :: (.blk b_a1_c0 [pv b_a1_c0_p 0] 167) :: L) (fun Fx L' v => ∃ (rs5 : List (LR Int)), v = .tuple #[] ∧ L' = (.rows (α := Int) 3 rs5) :: (.own s_a0 36 1 (encs rs5)) :: (.blk b_a1_c0_p (enc (TurnR.mk a1_c0_p s_a1_c0_p_2 s_a1_c0_p_3 s_a1_c0_p_4)) 59) :: (.blk b_a1_c0 [pv b_a1_c0_p 0] 167) :: L ∧ rs5.map LR.v = r) := by
 unfold turn_without_pass_1_v2 at H
 refine Ok.enter (m := 2) (n := 20) Try.func176 rfl rfl rfl (by decide) ?_
 refine Cd.env (e' := [(0, Sl.v s_a0), (1, .func (.func 177) #[] #[pv b_a1_c0 0])]) rfl ?_
 refine Cd.seq ?_
 refine Cd.region ?_
 refine Lst.r (Ev.move rfl) ?_
 refine Lst.r (Ev.lenM (map_len hm_a0) (Ev.lenS (α := LR Int) (xs := rs_a0) (by decide) rfl rfl Try.runUnderlying57 (Rd.own (i := 1) rfl rfl rfl))) ?_
 refine Lst.r (Ev.move rfl) ?_
 refine Lst.nil ?_
 refine At.then ?_
 refine Cd.block ?_
 refine Cd.bound (Rd.le (α := LR Int) (xs := rs_a0) (by decide) (Rd.own (i := 1) rfl rfl rfl)) (fun hN33 => ?_)
 rw [map_len hm_a0] at hN33
 obtain ⟨ol6, H, HKl6⟩ := bind_some H
 refine Cd.loop (σ := Nat × Nat × (List (List Int)) × (List (LR Int))) (fun (i6, k6, l7, rs8) => [(0, Sl.v s_a0), (1, .func (.func 177) #[] #[pv b_a1_c0 0]), (6, Sl.v s_a0), (7, iv (a0.length : Int)), (8, iv (i6 : Int))]) (fun (i6, k6, l7, rs8) => (.rows (α := Int) 3 rs8) :: (.own s_a0 36 1 (encs rs8)) :: (.blk b_a1_c0_p (enc (TurnR.mk a1_c0_p s_a1_c0_p_2 s_a1_c0_p_3 s_a1_c0_p_4)) 59) :: (.blk b_a1_c0 [pv b_a1_c0_p 0] 167) :: L) (fun Fx => (fun (i6, k6, l7, rs8) => rangeF (turn_without_pass_1_v2_B0 fu a1_c0_p) k6 i6 l7 = some ol6 ∧ i6 + k6 = a0.length ∧ rs8.map LR.v = l7)) (fun (i6, k6, l7, rs8) => k6) (0, a0.length, a0, rs_a0) ⟨rfl, rfl, rfl, rfl, rfl, trivial⟩ rfl ⟨H, by omega, hm_a0⟩ ?_
 rintro F10 ⟨i6, k6, l7, rs8⟩ hF11 ⟨H, hik6, fm9⟩
 refine Cd.as (e' := [(0, Sl.v s_a0), (1, .func (.func 177) #[] #[pv b_a1_c0 0]), (6, Sl.v s_a0), (7, iv (a0.length : Int)), (8, iv (i6 : Int))]) (L' := (.rows (α := Int) 3 rs8) :: (.own s_a0 36 1 (encs rs8)) :: (.blk b_a1_c0_p (enc (TurnR.mk a1_c0_p s_a1_c0_p_2 s_a1_c0_p_3 s_a1_c0_p_4)) 59) :: (.blk b_a1_c0 [pv b_a1_c0_p 0] 167) :: L) ⟨rfl, rfl, rfl, rfl, rfl, trivial⟩ rfl ?_
 rcases k6 with _ | k6
 ·have hc6 : decide ((i6 : Int) < (a0.length : Int)) = false := decide_eq_false (by omega)
  replace H := rangeF_end H
  refine Cd.seq ?_
  refine Cd.region ?_
  refine Lst.r (Ev.lss rfl rfl) ?_
  refine Lst.nil ?_
  refine At.then ?_
  refine Cd.seq ?_
  refine Cd.condF rfl hc6 ?_
  refine Cd.exit ?_
  refine At.then_exit ?_
  refine At.then_exit ?_
  refine At.in_exit ?_
  subst H
  replace H := HKl6
  obtain rfl := some_inj H
  exact At.ret0 (.inr rfl) rfl hF11 (sk1 (sk1 (sk1 (sk1 (.refl _))))) ⟨rs8, rfl, rfl, fm9⟩
 have hc6 : decide ((i6 : Int) < (a0.length : Int)) = true := decide_eq_true (by omega)
 obtain ⟨c6, H, hgo6⟩ := rangeF_go H
 unfold turn_without_pass_1_v2_B0 at H
 try dsimp only at H
 refine Cd.seq ?_
 refine Cd.region ?_
 refine Lst.r (Ev.lss rfl rfl) ?_
 refine Lst.nil ?_
 refine At.then ?_
 refine Cd.seq ?_
 refine Cd.condT rfl hc6 ?_
 refine Cd.skip ?_
 refine At.then ?_
 refine Cd.seq ?_
 refine Cd.block ?_
 refine Cd.seq ?_
 refine Cd.region ?_
 refine Lst.r (Ev.move rfl) ?_
 obtain ⟨x12, h13, H⟩ := bind_some H
 have g14 := lat_some h13
 obtain ⟨⟨r15v, r15h⟩, r15g, r15e, r15m⟩ := map_get fm9 g14.2.2
 obtain rfl : x12 = r15v := r15e.symm
 have hh16 := row_h r15g
 refine Lst.r (Ev.indexS (α := LR Int) (xs := rs8) rfl rfl Try.runUnderlying57 Try.sizeOf36 rfl (by decide) (Rd.own (i := 1) rfl rfl rfl) g14.1 (by have := map_len fm9; omega)) ?_
 refine Lst.r (Ev.loadS (α := LR Int) rfl (Rd.own (i := 1) rfl rfl rfl) Try.isAgg36 (v := Sl.v r15h) ((Get.elemN (s := 1) rfl r15g (Get.here _)).off (by omega))) ?_
 refine Lst.r (Ev.assign rfl) ?_
 refine Lst.r (Ev.assign rfl) ?_
 refine Lst.nil ?_
 refine At.then ?_
 refine Cd.region ?_
 refine Lst.r (Ev.move rfl) ?_
 refine Lst.r (Ev.move rfl) ?_
 refine Lst.r (Ev.move rfl) ?_
 refine Lst.r (Ev.move rfl) ?_
 obtain ⟨r19, h20, H⟩ := bind_some H
 refine Lst.rowOut (k := (i6 : Int).toNat) r15g rfl ?_
 refine Lst.its (L' := (.own r15h 3 1 (encs x12)) :: (.rows (α := Int) 3 (rs8.set (i6 : Int).toNat ⟨[], Sl.nil⟩)) :: (.own s_a0 36 1 (encs rs8)) :: (.blk b_a1_c0_p (enc (TurnR.mk a1_c0_p s_a1_c0_p_2 s_a1_c0_p_3 s_a1_c0_p_4)) 59) :: (.blk b_a1_c0 [pv b_a1_c0_p 0] 167) :: L) rfl ?_
 refine Lst.front (i := 4) rfl rfl ?_
 refine Lst.front (i := 4) rfl rfl ?_
 refine Lst.front (i := 2) rfl (L' := (.own r15h 3 1 (encs x12)) :: (.blk b_a1_c0_p (enc (TurnR.mk a1_c0_p s_a1_c0_p_2 s_a1_c0_p_3 s_a1_c0_p_4)) 59) :: (.blk b_a1_c0 [pv b_a1_c0_p 0] 167) :: (.rows (α := Int) 3 (rs8.set (i6 : Int).toNat ⟨[], Sl.nil⟩)) :: (.own s_a0 36 1 (encs rs8)) :: L) rfl ?_
 refine Lst.call rfl rfl (by decide) (vs := [Sl.v r15h, .func (.func 177) #[] #[pv b_a1_c0 0]]) ⟨rfl, rfl, trivial⟩ Try.call189 (slices_DeleteFunc_int_int_pass_1_v2_sim h20 w0 _ M _ (sc2 hM) (hs_a1_c0_p_3.mono hF11 (.refl _)) (hs_a1_c0_p_4.mono hF11 (.refl _))) (fun F23 L' v hF24 hv => ?_)
 obtain ⟨s21, rfl, rfl⟩ := hv
 obtain ⟨x25, h26, H⟩ := bind_some H
 have g27 := lat_some h26
 obtain ⟨⟨r28v, r28h⟩, r28g, r28e, r28m⟩ := map_get fm9 g27.2.2
 obtain rfl : x25 = r28v := r28e.symm
 have hh29 := row_h r28g
 refine Lst.r (Ev.indexS (α := LR Int) (xs := rs8) rfl rfl Try.runUnderlying57 Try.sizeOf36 rfl (by decide) (Rd.own (i := 4) rfl rfl rfl) g27.1 (by have := map_len fm9; omega)) ?_
 obtain ⟨p30, h31, H⟩ := Let_some H
 have hm32 : (rs8.set (i6 : Int).toNat (LR.mk r19 s21)).map LR.v = p30 := (map_set fm9 _ _).trans h31
 refine Lst.storeS (i := 4) rfl rfl rfl rfl rfl Try.sizeOf36 (vs := [Sl.v s21]) rfl rfl (by decide) rfl (xs' := encs (rs8.set (i6 : Int).toNat (LR.mk r19 s21))) ((Put.elemN (s := 1) (y := (LR.mk r19 s21)) rfl r28g (Put.here (vs := [Sl.v s21]) rfl)).off (by omega)) (L' := (.own s21 3 1 (encs r19)) :: (.blk b_a1_c0_p (enc (TurnR.mk a1_c0_p s_a1_c0_p_2 s_a1_c0_p_3 s_a1_c0_p_4)) 59) :: (.blk b_a1_c0 [pv b_a1_c0_p 0] 167) :: (.rows (α := Int) 3 (rs8.set (i6 : Int).toNat ⟨[], Sl.nil⟩)) :: (.own s_a0 36 1 (encs (rs8.set (i6 : Int).toNat (LR.mk r19 s21)))) :: L) rfl ?_
 refine Lst.front (i := 3) rfl rfl ?_
 refine Lst.front (i := 1) rfl (L' := (.own s21 3 1 (encs r19)) :: (.rows (α := Int) 3 (rs8.set (i6 : Int).toNat ⟨[], Sl.nil⟩)) :: (.blk b_a1_c0_p (enc (TurnR.mk a1_c0_p s_a1_c0_p_2 s_a1_c0_p_3 s_a1_c0_p_4)) 59) :: (.blk b_a1_c0 [pv b_a1_c0_p 0] 167) :: (.own s_a0 36 1 (encs (rs8.set (i6 : Int).toNat (LR.mk r19 s21)))) :: L) rfl ?_
 refine Lst.rowIn (k := (i6 : Int).toNat) (by rw [List.getElem?_set_self (List.getElem?_eq_some_iff.1 r28g).1]) rfl ?_
 refine Lst.its (L' := (.rows (α := Int) 3 (rs8.set (i6 : Int).toNat (LR.mk r19 s21))) :: (.blk b_a1_c0_p (enc (TurnR.mk a1_c0_p s_a1_c0_p_2 s_a1_c0_p_3 s_a1_c0_p_4)) 59) :: (.blk b_a1_c0 [pv b_a1_c0_p 0] 167) :: (.own s_a0 36 1 (encs (rs8.set (i6 : Int).toNat (LR.mk r19 s21)))) :: L) (by rw [List.set_set]) ?_
 refine Lst.nil ?_
 refine At.in_normal ?_
 refine At.then ?_
 refine Cd.region ?_
 refine Lst.r (Ev.incr (by omega) rfl rfl) ?_
 refine Lst.r (Ev.move rfl) ?_
 refine Lst.nil ?_
 refine At.front (i := 3) rfl rfl ?_
 refine At.front (i := 1) rfl (L' := (.rows (α := Int) 3 (rs8.set (i6 : Int).toNat (LR.mk r19 s21))) :: (.own s_a0 36 1 (encs (rs8.set (i6 : Int).toNat (LR.mk r19 s21)))) :: (.blk b_a1_c0_p (enc (TurnR.mk a1_c0_p s_a1_c0_p_2 s_a1_c0_p_3 s_a1_c0_p_4)) 59) :: (.blk b_a1_c0 [pv b_a1_c0_p 0] 167) :: L) rfl ?_
 exact At.meet (i6 + 1, k6, p30, (rs8.set (i6 : Int).toNat (LR.mk r19 s21))) (FLe.trans hF11 hF24) ⟨rfl, rfl, rfl, rfl, rfl, trivial⟩ rfl ⟨⟨hgo6 _ (some_inj H).symm, by omega, hm32⟩, Nat.lt_succ_self _⟩
set_option maxRecDepth 20000 in
theorem turn_pass_sim {fu : Nat} {a0 : Turn} {b_a0 : Nat} {s_a0_2 : Sl} {rs_a0_2 : List (LR Int)} {s_a0_3 : Sl} {s_a0_4 : Sl} {r : (List (List Int)) × (List Int) × Turn} (H : turn_pass fu a0 = some r) (w0 : World) (F : Frz) (M L : List Item) (hM : M.Sublist L) (hm_a0_2 : rs_a0_2.map LR.v = a0.Want) (hs_a0_4 : Rd w0 F M s_a0_4 a0.Told) : Ok Try.prog w0 124 [pv b_a0 0] F ((.rows (α := Int) 3 rs_a0_2) :: (.own s_a0_2 36 1 (encs rs_a0_2)) :: (.own s_a0_3 3 1 (encs a0.Log)) :: (.blk b_a0 (enc (TurnR.mk a0 s_a0_2 s_a0_3 s_a0_4)) 59) :: L) (fun Fx L' v => ∃ (rs5 : List (LR Int)) (s7 : Sl), v = .tuple #[] ∧ L' = (.rows (α := Int) 3 rs5) :: (.own s_a0_2 36 1 (encs rs5)) :: (.own s7 3 1 (encs r.2.1)) :: (.blk b_a0 (enc (TurnR.mk ({ r.2.2 with Want := r.1, Log := r.2.1, Told := a0.Told } : Turn) s_a0_2 s7 s_a0_4)) 59) :: L ∧ rs5.map LR.v = r.1) := by
 unfold turn_pass at H
 refine Ok.enter (m := 1) (n := 55) Try.func124 rfl rfl rfl (by decide) ?_
 refine Cd.env (e' := [(0, pv b_a0 0)]) rfl ?_
 refine Cd.seq ?_
 refine Cd.region ?_
 refine Lst.box rfl rfl (by decide) rfl (cs := [pv b_a0 0]) rfl (fun b5 => ?_)
 refine Lst.nil ?_
 refine At.then ?_
 refine Cd.seq ?_
 refine Cd.seq ?_
 refine Cd.quiet (by kernel_rfl) (by kernel_rfl) ?_
 refine Qt.r (Ev.load (i := 0) rfl rfl Try.isAgg167 (v := pv b_a0 0) (Get.here _)) ?_
 refine Qt.r (Ev.nilCheck rfl) ?_
 refine Qt.r (Ev.fieldAddr (off' := 2) rfl Try.runUnderlying59 rfl Try.sizeOf57 rfl rfl) ?_
 refine Qt.r (Ev.load (i := 4) rfl rfl Try.isAgg57 (v := Sl.v s_a0_2) ((TurnR.get_Want (Get.here _)).off (by rfl))) ?_
 refine Qt.r (Ev.load (i := 0) rfl rfl Try.isAgg167 (v := pv b_a0 0) (Get.here _)) ?_
 refine Qt.r (Ev.nilCheck rfl) ?_
 refine Qt.r (Ev.fieldAddr (off' := 1) rfl Try.runUnderlying59 rfl Try.sizeOf3 rfl rfl) ?_
 refine Qt.r (Ev.load (i := 4) rfl rfl Try.isAgg3 (v := iv a0.Has) ((TurnR.get_Has (Get.here _)).off (by rfl))) ?_
 obtain ⟨x7, h8, H⟩ := bind_some H
 have g9 := lat_some h8
 obtain ⟨⟨r10v, r10h⟩, r10g, r10e, r10m⟩ := map_get hm_a0_2 g9.2.2
 obtain rfl : x7 = r10v := r10e.symm
 have hh11 := row_h r10g
 refine Qt.r (Ev.indexS (α := LR Int) (xs := rs_a0_2) rfl rfl Try.runUnderlying57 Try.sizeOf36 rfl (by decide) (Rd.own (i := 2) rfl rfl rfl) g9.1 (by have := map_len hm_a0_2; omega)) ?_
 refine Qt.r (Ev.loadS (α := LR Int) rfl (Rd.own (i := 2) rfl rfl rfl) Try.isAgg36 (v := Sl.v r10h) ((Get.elemN (s := 1) rfl r10g (Get.here _)).off (by omega))) ?_
 refine Qt.r (Ev.lenS (α := Int) (xs := x7) (by decide) rfl rfl Try.runUnderlying36 (Rd.row (j := 1) rfl r10g)) ?_
 refine Qt.r (Ev.move rfl) ?_
 refine Qt.done ?_
 refine At.then ?_
 refine Cd.block ?_
 refine Cd.bound (Rd.le (α := Int) (xs := x7) (by decide) (Rd.row (j := 1) rfl r10g)) (fun hN70 => ?_)
 obtain ⟨ol12, H, HKl12⟩ := bind_some H
 refine Cd.loop (σ := Nat × Nat × Turn × Sl × (List Int)) (fun (i12, k12, y13, s14, l15) => [(1, pv b5 0), (13, Sl.v r10h), (14, iv (x7.length : Int)), (15, iv (i12 : Int))]) (fun (i12, k12, y13, s14, l15) => (.blk b5 [pv b_a0 0] 167) :: (.rows (α := Int) 3 rs_a0_2) :: (.own s_a0_2 36 1 (encs rs_a0_2)) :: (.own s14 3 1 (encs l15)) :: (.blk b_a0 (enc (TurnR.mk ({ y13 with Want := a0.Want, Log := l15, Told := a0.Told } : Turn) s_a0_2 s14 s_a0_4)) 59) :: L) (fun _ => (fun (i12, k12, y13, s14, l15) => rangeF (turn_pass_B0 a0 x7) k12 i12 (y13, l15) = some ol12 ∧ i12 + k12 = x7.length)) (fun (i12, k12, y13, s14, l15) => k12) (0, x7.length, a0, s_a0_3, a0.Log) ⟨rfl, rfl, rfl, rfl, trivial⟩ rfl ⟨H, by omega⟩ ?_
 rintro F16 ⟨i12, k12, y13, s14, l15⟩ hF17 ⟨H, hik12⟩
 refine Cd.as (e' := [(1, pv b5 0), (13, Sl.v r10h), (14, iv (x7.length : Int)), (15, iv (i12 : Int))]) (L' := (.blk b5 [pv b_a0 0] 167) :: (.rows (α := Int) 3 rs_a0_2) :: (.own s_a0_2 36 1 (encs rs_a0_2)) :: (.own s14 3 1 (encs l15)) :: (.blk b_a0 (enc (TurnR.mk ({ y13 with Want := a0.Want, Log := l15, Told := a0.Told } : Turn) s_a0_2 s14 s_a0_4)) 59) :: L) ⟨rfl, rfl, rfl, rfl, trivial⟩ rfl ?_
 rcases k12 with _ | k12
 ·have hc12 : decide ((i12 : Int) < (x7.length : Int)) = false := decide_eq_false (by omega)
  replace H := rangeF_end H
  refine Cd.seq ?_
  refine Cd.region ?_
  refine Lst.r (Ev.lss rfl rfl) ?_
  refine Lst.nil ?_
  refine At.then ?_
  refine Cd.seq ?_
  refine Cd.condF rfl hc12 ?_
  refine Cd.exit ?_
  refine At.then_exit ?_
  refine At.then_exit ?_
  refine At.in_exit ?_
  subst H
  replace H := HKl12
  refine At.then ?_
  refine Cd.seq ?_
  refine Cd.region ?_
  refine Lst.r (Ev.load (i := 0) rfl rfl Try.isAgg167 (v := pv b_a0 0) (Get.here _)) ?_
  refine Lst.r (Ev.nilCheck rfl) ?_
  refine Lst.r (Ev.fieldAddr (off' := 2) rfl Try.runUnderlying59 rfl Try.sizeOf57 rfl rfl) ?_
  refine Lst.r (Ev.load (i := 4) rfl rfl Try.isAgg57 (v := Sl.v s_a0_2) ((TurnR.get_Want (Get.here _)).off (by rfl))) ?_
  refine Lst.r (Ev.makeFunc (us := []) (vs := [pv b5 0]) trivial ⟨rfl, trivial⟩) ?_
  obtain ⟨r60, h61, H⟩ := bind_some H
  refine Lst.front (i := 4) rfl rfl ?_
  refine Lst.front (i := 3) rfl rfl ?_
  refine Lst.front (i := 3) rfl (L' := (.rows (α := Int) 3 rs_a0_2) :: (.own s_a0_2 36 1 (encs rs_a0_2)) :: (.blk b_a0 (enc (TurnR.mk ({ y13 with Want := a0.Want, Log := l15, Told := a0.Told } : Turn) s_a0_2 s14 s_a0_4)) 59) :: (.blk b5 [pv b_a0 0] 167) :: (.own s14 3 1 (encs l15)) :: L) rfl ?_
  refine Lst.call rfl rfl (by decide) (vs := [Sl.v s_a0_2, .func (.func 177) #[] #[pv b5 0]]) ⟨rfl, rfl, trivial⟩ Try.call176 (turn_without_pass_1_v2_sim h61 w0 _ _ _ (.refl _) hm_a0_2 (Rd.own (i := 0) rfl rfl rfl) (hs_a0_4.mono hF17 (sc1 hM))) (fun F64 L' v hF65 hv => ?_)
  obtain ⟨rs62, rfl, rfl, fm63⟩ := hv
  refine Lst.nil ?_
  refine At.then ?_
  refine Cd.tail 13 (by kernel_rfl) (by kernel_rfl) ?_
  refine Qt.r (Ev.load (i := 3) rfl rfl Try.isAgg167 (v := pv b_a0 0) (Get.here _)) ?_
  refine Qt.r (Ev.load (i := 3) rfl rfl Try.isAgg167 (v := pv b_a0 0) (Get.here _)) ?_
  refine Qt.r (Ev.nilCheck rfl) ?_
  refine Qt.r (Ev.fieldAddr (off' := 1) rfl Try.runUnderlying59 rfl Try.sizeOf3 rfl rfl) ?_
  refine Qt.r (Ev.load (i := 2) rfl rfl Try.isAgg3 (v := iv y13.Has) ((TurnR.get_Has (Get.here _)).off (by rfl))) ?_
  refine Qt.r (Ev.add rfl rfl) ?_
  refine Qt.r (Ev.load (i := 3) rfl rfl Try.isAgg167 (v := pv b_a0 0) (Get.here _)) ?_
  refine Qt.r (Ev.nilCheck rfl) ?_
  refine Qt.r (Ev.fieldAddr (off' := 0) rfl Try.runUnderlying59 rfl Try.sizeOf3 rfl rfl) ?_
  refine Qt.r (Ev.load (i := 2) rfl rfl Try.isAgg3 (v := iv y13.N) ((TurnR.get_N (Get.here _)).off (by rfl))) ?_
  obtain ⟨u66, h67, H⟩ := bind_some H
  refine Qt.r (Ev.rem (i := w64 (y13.Has + (1 : Int))) (j := y13.N) rfl rfl (nz_some h67)) ?_
  refine Qt.r (Ev.nilCheck rfl) ?_
  refine Qt.r (Ev.fieldAddr (off' := 1) rfl Try.runUnderlying59 rfl Try.sizeOf3 rfl rfl) ?_
  refine Qt.tail ?_
  obtain ⟨p68, h69, H⟩ := Let_some H
  refine Lst.store (i := 2) rfl rfl rfl rfl rfl Try.sizeOf3 (vs := [iv ((w64 (y13.Has + (1 : Int))).tmod y13.N : Int)]) rfl rfl rfl (cs' := enc (TurnR.mk ({ y13 with Has := p68, Want := r60, Log := l15, Told := a0.Told } : Turn) s_a0_2 s14 s_a0_4)) (by rw [← h69]; exact (TurnR.put_Has (Put.here (vs := [iv ((w64 (y13.Has + (1 : Int))).tmod y13.N : Int)]) rfl)).off (by rfl)) (L' := (.rows (α := Int) 3 rs62) :: (.own s_a0_2 36 1 (encs rs62)) :: (.blk b_a0 (enc (TurnR.mk ({ y13 with Has := p68, Want := r60, Log := l15, Told := a0.Told } : Turn) s_a0_2 s14 s_a0_4)) 59) :: (.blk b5 [pv b_a0 0] 167) :: (.own s14 3 1 (encs l15)) :: L) rfl ?_
  refine Lst.nil ?_
  obtain rfl := some_inj H
  refine At.front (i := 4) rfl rfl ?_
  refine At.front (i := 2) rfl rfl ?_
  refine At.front (i := 2) rfl (L' := (.rows (α := Int) 3 rs62) :: (.own s_a0_2 36 1 (encs rs62)) :: (.own s14 3 1 (encs l15)) :: (.blk b_a0 (enc (TurnR.mk ({ y13 with Has := p68, Want := r60, Log := l15, Told := a0.Told } : Turn) s_a0_2 s14 s_a0_4)) 59) :: (.blk b5 [pv b_a0 0] 167) :: L) rfl ?_
  exact At.ret0 (.inr rfl) rfl (FLe.trans hF17 hF65) (sk1 (sk1 (sk1 (sk1 (sc1 (.refl _)))))) ⟨rs62, s14, rfl, rfl, fm63⟩
 have hc12 : decide ((i12 : Int) < (x7.length : Int)) = true := decide_eq_true (by omega)
 obtain ⟨c12, H, hgo12⟩ := rangeF_go H
 unfold turn_pass_B0 at H
 try dsimp only at H
 refine Cd.seq ?_
 refine Cd.region ?_
 refine Lst.r (Ev.lss rfl rfl) ?_
 refine Lst.nil ?_
 refine At.then ?_
 refine Cd.seq ?_
 refine Cd.condT rfl hc12 ?_
 refine Cd.skip ?_
 refine At.then ?_
 refine Cd.seq ?_
 refine Cd.block ?_
 refine Cd.seq ?_
 refine Cd.region ?_
 obtain ⟨x18, h19, H⟩ := bind_some H
 have g20 := lat_some h19
 refine Lst.r (Ev.indexS (α := Int) (xs := x7) rfl rfl Try.runUnderlying36 Try.sizeOf3 rfl (by decide) (Rd.row (j := 1) rfl r10g) g20.1 g20.2.1) ?_
 refine Lst.r (Ev.loadS (α := Int) rfl (Rd.row (j := 1) rfl r10g) Try.isAgg3 (v := iv x18) ((Get.elemN (s := 1) (x := x18) rfl g20.2.2 (Get.here _)).off (by omega))) ?_
 refine Lst.r (Ev.assign rfl) ?_
 refine Lst.nil ?_
 refine At.then ?_
 refine Cd.seq ?_
 refine Cd.region ?_
 refine Lst.r (Ev.load (i := 0) rfl rfl Try.isAgg167 (v := pv b_a0 0) (Get.here _)) ?_
 refine Lst.r (Ev.nilCheck rfl) ?_
 refine Lst.r (Ev.fieldAddr (off' := 3) rfl Try.runUnderlying59 rfl Try.sizeOf36 rfl rfl) ?_
 refine Lst.r (Ev.load (i := 4) rfl rfl Try.isAgg36 (v := Sl.v s14) ((TurnR.get_Log (Get.here _)).off (by rfl))) ?_
 refine Lst.r (Ev.lenS (α := Int) (xs := l15) (by decide) rfl rfl Try.runUnderlying36 (Rd.own (i := 3) rfl rfl rfl)) ?_
 refine Lst.r (Ev.lss rfl rfl) ?_
 refine Lst.nil ?_
 refine At.then ?_
 rcases (Bool.eq_false_or_eq_true (decide ((l15.length : Int) < (100 : Int)))).symm with hb21 | hb21
 ·replace H := ite_f hb21 H
  refine Cd.condF rfl hb21 ?_
  refine Cd.skip ?_
  refine At.in_normal ?_
  refine At.then ?_
  refine Cd.region ?_
  refine Lst.r (Ev.incr (by omega) rfl rfl) ?_
  refine Lst.r (Ev.move rfl) ?_
  refine Lst.nil ?_
  exact At.meet (i12 + 1, k12, ({ y13 with Want := a0.Want, Log := l15, Told := a0.Told } : Turn), s14, l15) hF17 ⟨rfl, rfl, rfl, rfl, trivial⟩ rfl ⟨⟨hgo12 _ (some_inj H).symm, by omega⟩, Nat.lt_succ_self _⟩
 replace H := ite_t hb21 H
 refine Cd.condT rfl hb21 ?_
 obtain ⟨u24, h25, H⟩ := bind_some H
 obtain ⟨o32, h33, H⟩ := Let_some H
 refine Cd.headMeet (σ := Sl × (List Int) × Turn × Sl) 8 (fun (s28, l29, y30, s31) => [(1, pv b5 0), (13, Sl.v r10h), (14, iv (x7.length : Int)), (15, iv (i12 : Int)), (25, pv b_a0 0), (32, Sl.v s28)]) (fun (s28, l29, y30, s31) => (.blk b5 [pv b_a0 0] 167) :: (.rows (α := Int) 3 rs_a0_2) :: (.own s_a0_2 36 1 (encs rs_a0_2)) :: (.own s28 3 1 (encs l29)) :: (.blk b_a0 (enc (TurnR.mk ({ y30 with Want := a0.Want, Told := a0.Told } : Turn) s_a0_2 s31 s_a0_4)) 59) :: L) (fun _ (s28, l29, y30, s31) => (l29, y30) = o32) (by kernel_rfl) (by kernel_rfl) (behind_sink (by kernel_rfl) (by kernel_rfl) (by kernel_rfl)) (by kernel_rfl) (fun hsel hlt => ?_) ?_
 ·refine HdJ.keep (fun w => St w0 F16 ((.blk b5 [pv b_a0 0] 167) :: (.rows (α := Int) 3 rs_a0_2) :: (.own s_a0_2 36 1 (encs rs_a0_2)) :: L) w) (fun w h => trivial) ?_
  refine HdJ.tk hsel hlt 5 (fun w h => h.sublist (sk1 (sk1 (sk1 (sc1 (sc1 (.refl _))))))) rfl (Ev.move rfl) ?_
  refine HdJ.step [0, 1, 6] (by kernel_rfl) rfl ?_
  refine HdStep.c (fun inv => ?_) ?_
  ·refine Lst.r (Ev.load (i := 0) rfl rfl Try.isAgg167 (v := pv b_a0 0) (Get.here _)) ?_
   refine Lst.nil ?_
   refine At.hd inv (fun w h => (h.weaken (FLe.refl _)).sublist (sk1 (sk1 (sk1 (sc1 (sc1 (.refl _))))))) ?_
   refine HdJ.step [1, 6] (by kernel_rfl) rfl ?_
   refine HdStep.c (fun inv => ?_) ?_
   ·refine Lst.r (Ev.load (i := 0) rfl rfl Try.isAgg167 (v := pv b_a0 0) (Get.here _)) ?_
    refine Lst.nil ?_
    refine At.hd inv (fun w h => (h.weaken (FLe.refl _)).sublist (sk1 (sk1 (sk1 (sc1 (sc1 (.refl _))))))) ?_
    refine HdJ.tk hsel hlt 2 (fun w h => h.sublist (sk1 (sk1 (sk1 (sc1 (sc1 (.refl _))))))) rfl (Ev.nilCheck rfl) ?_
    refine HdJ.tk hsel hlt 3 (fun w h => h.sublist (sk1 (sk1 (sk1 (sc1 (sc1 (.refl _))))))) rfl (Ev.fieldAddr (off' := 3) rfl Try.runUnderlying59 rfl Try.sizeOf36 rfl rfl) ?_
    refine HdJ.step [4, 6] (by kernel_rfl) rfl ?_
    refine HdStep.c (fun inv => ?_) ?_
    ·refine Lst.r (Ev.load (i := 4) rfl rfl Try.isAgg36 (v := Sl.v s14) ((TurnR.get_Log (Get.here _)).off (by rfl))) ?_
     refine Lst.nil ?_
     refine At.hd inv (fun w h => (h.weaken (FLe.refl _)).sublist (sk1 (sk1 (sk1 (sc1 (sc1 (.refl _))))))) ?_
     refine HdJ.step [6] (by kernel_rfl) rfl ?_
     refine HdStep.c (fun inv => ?_) ?_
     ·refine Lst.buildSlice (α := Int) (xs := ([x18] : List Int)) (pv := [(0, iv x18)]) rfl rfl (by decide) ⟨rfl, rfl, trivial⟩ (run_buildSlice (α := Int) (z0 := (0 : Int)) (xs := ([x18] : List Int)) Try.runUnderlying36 Try.sizeOf3 Try.zeroValue3 rfl rfl rfl (by decide) rfl (fill_cons (cs := encs (List.replicate 1 (0 : Int))) (cs' := encs ((List.replicate 1 (0 : Int)).set 0 x18)) (vs := [iv x18]) rfl rfl rfl ((Put.elemN (s := 1) (i := 0) (x := (0 : Int)) (y := x18) rfl rfl (Put.here (vs := [iv x18]) rfl)).off rfl) fill_nil)) rfl rfl (by decide) (fun s34 _ => ?_)
      refine Lst.nil ?_
      refine At.hd inv (fun w h => (h.weaken (FLe.refl _)).sublist (sc1 (sk1 (sk1 (sk1 (sc1 (sc1 (.refl _)))))))) ?_
      refine HdJ.step [7] (by kernel_rfl) rfl ?_
      refine HdStep.c (fun inv => ?_) ?_
      ·refine Lst.append (i := 4) (α := Int) (xs := l15) (ys := ([x18] : List Int)) rfl rfl (by decide) rfl rfl Try.runUnderlying36 Try.typeInfo3 rfl rfl rfl rfl rfl rfl (Rd.own (i := 0) rfl rfl rfl) rfl (room_some h25) rfl (fun s35 => ?_)
       refine Lst.its (L' := (.own s34 3 1 (encs ([x18] : List Int))) :: (.blk b5 [pv b_a0 0] 167) :: (.rows (α := Int) 3 rs_a0_2) :: (.own s_a0_2 36 1 (encs rs_a0_2)) :: (.own s35 3 1 (encs (l15 ++ ([x18] : List Int)))) :: (.blk b_a0 (enc (TurnR.mk ({ y13 with Want := a0.Want, Told := a0.Told } : Turn) s_a0_2 s14 s_a0_4)) 59) :: L) rfl ?_
       refine Lst.nil ?_
       refine At.hd inv (fun w h => (h.weaken (FLe.refl _)).sublist (sc1 (sk1 (sk1 (sk1 (sc1 (sc1 (.refl _)))))))) ?_
       refine HdJ.done (by kernel_rfl) ?_
       refine At.less (L' := (.blk b5 [pv b_a0 0] 167) :: (.rows (α := Int) 3 rs_a0_2) :: (.own s_a0_2 36 1 (encs rs_a0_2)) :: (.own s35 3 1 (encs (l15 ++ ([x18] : List Int)))) :: (.blk b_a0 (enc (TurnR.mk ({ y13 with Want := a0.Want, Told := a0.Told } : Turn) s_a0_2 s14 s_a0_4)) 59) :: L) (sc1 (sk1 (sk1 (sk1 (sk1 (sk1 (.refl _))))))) ?_
       exact At.meetN (s35, l15 ++ ([x18] : List Int), ({ y13 with Want := a0.Want, Told := a0.Told } : Turn), s14) (FLe.refl _) ⟨rfl, rfl, rfl, rfl, rfl, rfl, trivial⟩ rfl h33
      exact trivial
     exact trivial
    refine HdStep.c (fun inv => ?_) ?_
    ·refine Lst.buildSlice (α := Int) (xs := ([x18] : List Int)) (pv := [(0, iv x18)]) rfl rfl (by decide) ⟨rfl, rfl, trivial⟩ (run_buildSlice (α := Int) (z0 := (0 : Int)) (xs := ([x18] : List Int)) Try.runUnderlying36 Try.sizeOf3 Try.zeroValue3 rfl rfl rfl (by decide) rfl (fill_cons (cs := encs (List.replicate 1 (0 : Int))) (cs' := encs ((List.replicate 1 (0 : Int)).set 0 x18)) (vs := [iv x18]) rfl rfl rfl ((Put.elemN (s := 1) (i := 0) (x := (0 : Int)) (y := x18) rfl rfl (Put.here (vs := [iv x18]) rfl)).off rfl) fill_nil)) rfl rfl (by decide) (fun s36 _ => ?_)
     refine Lst.nil ?_
     refine At.hd inv (fun w h => (h.weaken (FLe.refl _)).sublist (sc1 (sk1 (sk1 (sk1 (sc1 (sc1 (.refl _)))))))) ?_
     refine HdJ.step [4] (by kernel_rfl) rfl ?_
     refine HdStep.c (fun inv => ?_) ?_
     ·refine Lst.r (Ev.load (i := 5) rfl rfl Try.isAgg36 (v := Sl.v s14) ((TurnR.get_Log (Get.here _)).off (by rfl))) ?_
      refine Lst.nil ?_
      refine At.hd inv (fun w h => (h.weaken (FLe.refl _)).sublist (sc1 (sk1 (sk1 (sk1 (sc1 (sc1 (.refl _)))))))) ?_
      refine HdJ.step [7] (by kernel_rfl) rfl ?_
      refine HdStep.c (fun inv => ?_) ?_
      ·refine Lst.append (i := 4) (α := Int) (xs := l15) (ys := ([x18] : List Int)) rfl rfl (by decide) rfl rfl Try.runUnderlying36 Try.typeInfo3 rfl rfl rfl rfl rfl rfl (Rd.own (i := 0) rfl rfl rfl) rfl (room_some h25) rfl (fun s37 => ?_)
       refine Lst.its (L' := (.own s36 3 1 (encs ([x18] : List Int))) :: (.blk b5 [pv b_a0 0] 167) :: (.rows (α := Int) 3 rs_a0_2) :: (.own s_a0_2 36 1 (encs rs_a0_2)) :: (.own s37 3 1 (encs (l15 ++ ([x18] : List Int)))) :: (.blk b_a0 (enc (TurnR.mk ({ y13 with Want := a0.Want, Told := a0.Told } : Turn) s_a0_2 s14 s_a0_4)) 59) :: L) rfl ?_
       refine Lst.nil ?_
       refine At.hd inv (fun w h => (h.weaken (FLe.refl _)).sublist (sc1 (sk1 (sk1 (sk1 (sc1 (sc1 (.refl _)))))))) ?_
       refine HdJ.done (by kernel_rfl) ?_
       refine At.less (L' := (.blk b5 [pv b_a0 0] 167) :: (.rows (α := Int) 3 rs_a0_2) :: (.own s_a0_2 36 1 (encs rs_a0_2)) :: (.own s37 3 1 (encs (l15 ++ ([x18] : List Int)))) :: (.blk b_a0 (enc (TurnR.mk ({ y13 with Want := a0.Want, Told := a0.Told } : Turn) s_a0_2 s14 s_a0_4)) 59) :: L) (sc1 (sk1 (sk1 (sk1 (sk1 (sk1 (.refl _))))))) ?_
       exact At.meetN (s37, l15 ++ ([x18] : List Int), ({ y13 with Want := a0.Want, Told := a0.Told } : Turn), s14) (FLe.refl _) ⟨rfl, rfl, rfl, rfl, rfl, rfl, trivial⟩ rfl h33
      exact trivial
     exact trivial
    exact trivial
   refine HdStep.c (fun inv => ?_) ?_
   ·refine Lst.buildSlice (α := Int) (xs := ([x18] : List Int)) (pv := [(0, iv x18)]) rfl rfl (by decide) ⟨rfl, rfl, trivial⟩ (run_buildSlice (α := Int) (z0 := (0 : Int)) (xs := ([x18] : List Int)) Try.runUnderlying36 Try.sizeOf3 Try.zeroValue3 rfl rfl rfl (by decide) rfl (fill_cons (cs := encs (List.replicate 1 (0 : Int))) (cs' := encs ((List.replicate 1 (0 : Int)).set 0 x18)) (vs := [iv x18]) rfl rfl rfl ((Put.elemN (s := 1) (i := 0) (x := (0 : Int)) (y := x18) rfl rfl (Put.here (vs := [iv x18]) rfl)).off rfl) fill_nil)) rfl rfl (by decide) (fun s38 _ => ?_)
    refine Lst.nil ?_
    refine At.hd inv (fun w h => (h.weaken (FLe.refl _)).sublist (sc1 (sk1 (sk1 (sk1 (sc1 (sc1 (.refl _)))))))) ?_
    refine HdJ.step [1] (by kernel_rfl) rfl ?_
    refine HdStep.c (fun inv => ?_) ?_
    ·refine Lst.r (Ev.load (i := 1) rfl rfl Try.isAgg167 (v := pv b_a0 0) (Get.here _)) ?_
     refine Lst.nil ?_
     refine At.hd inv (fun w h => (h.weaken (FLe.refl _)).sublist (sc1 (sk1 (sk1 (sk1 (sc1 (sc1 (.refl _)))))))) ?_
     refine HdJ.keep (fun w => St w0 F16 ((.own s38 3 1 (encs ([x18] : List Int))) :: (.blk b5 [pv b_a0 0] 167) :: (.rows (α := Int) 3 rs_a0_2) :: (.own s_a0_2 36 1 (encs rs_a0_2)) :: L) w) (fun w h => (h.weaken (FLe.refl _)).sublist (sc1 (sk1 (sk1 (sk1 (.refl _)))))) ?_
     refine HdJ.tk hsel hlt 2 (fun w h => h.sublist (sk1 (sk1 (sk1 (sk1 (sc1 (sc1 (.refl _)))))))) rfl (Ev.nilCheck rfl) ?_
     refine HdJ.tk hsel hlt 3 (fun w h => h.sublist (sk1 (sk1 (sk1 (sk1 (sc1 (sc1 (.refl _)))))))) rfl (Ev.fieldAddr (off' := 3) rfl Try.runUnderlying59 rfl Try.sizeOf36 rfl rfl) ?_
     refine HdJ.step [4] (by kernel_rfl) rfl ?_
     refine HdStep.c (fun inv => ?_) ?_
     ·refine Lst.r (Ev.load (i := 5) rfl rfl Try.isAgg36 (v := Sl.v s14) ((TurnR.get_Log (Get.here _)).off (by rfl))) ?_
      refine Lst.nil ?_
      refine At.hd inv (fun w h => (h.weaken (FLe.refl _)).sublist (sk1 (sk1 (sk1 (sk1 (sc1 (sc1 (.refl _)))))))) ?_
      refine HdJ.step [7] (by kernel_rfl) rfl ?_
      refine HdStep.c (fun inv => ?_) ?_
      ·refine Lst.append (i := 4) (α := Int) (xs := l15) (ys := ([x18] : List Int)) rfl rfl (by decide) rfl rfl Try.runUnderlying36 Try.typeInfo3 rfl rfl rfl rfl rfl rfl (Rd.own (i := 0) rfl rfl rfl) rfl (room_some h25) rfl (fun s39 => ?_)
       refine Lst.its (L' := (.own s38 3 1 (encs ([x18] : List Int))) :: (.blk b5 [pv b_a0 0] 167) :: (.rows (α := Int) 3 rs_a0_2) :: (.own s_a0_2 36 1 (encs rs_a0_2)) :: (.own s39 3 1 (encs (l15 ++ ([x18] : List Int)))) :: (.blk b_a0 (enc (TurnR.mk ({ y13 with Want := a0.Want, Told := a0.Told } : Turn) s_a0_2 s14 s_a0_4)) 59) :: L) rfl ?_
       refine Lst.nil ?_
       refine At.hd inv (fun w h => (h.weaken (FLe.refl _)).sublist (sk1 (sk1 (sk1 (sk1 (sc1 (sc1 (.refl _)))))))) ?_
       refine HdJ.done (by kernel_rfl) ?_
       refine At.less (L' := (.blk b5 [pv b_a0 0] 167) :: (.rows (α := Int) 3 rs_a0_2) :: (.own s_a0_2 36 1 (encs rs_a0_2)) :: (.own s39 3 1 (encs (l15 ++ ([x18] : List Int)))) :: (.blk b_a0 (enc (TurnR.mk ({ y13 with Want := a0.Want, Told := a0.Told } : Turn) s_a0_2 s14 s_a0_4)) 59) :: L) (sc1 (sk1 (sk1 (sk1 (sk1 (sk1 (.refl _))))))) ?_
       exact At.meetN (s39, l15 ++ ([x18] : List Int), ({ y13 with Want := a0.Want, Told := a0.Told } : Turn), s14) (FLe.refl _) ⟨rfl, rfl, rfl, rfl, rfl, rfl, trivial⟩ rfl h33
      exact trivial
     exact trivial
    exact trivial
   exact trivial
  refine HdStep.c (fun inv => ?_) ?_
  ·refine Lst.r (Ev.load (i := 0) rfl rfl Try.isAgg167 (v := pv b_a0 0) (Get.here _)) ?_
   refine Lst.nil ?_
   refine At.hd inv (fun w h => (h.weaken (FLe.refl _)).sublist (sk1 (sk1 (sk1 (sc1 (sc1 (.refl _))))))) ?_
   refine HdJ.tk hsel hlt 2 (fun w h => h.sublist (sk1 (sk1 (sk1 (sc1 (sc1 (.refl _))))))) rfl (Ev.nilCheck rfl) ?_
   refine HdJ.tk hsel hlt 3 (fun w h => h.sublist (sk1 (sk1 (sk1 (sc1 (sc1 (.refl _))))))) rfl (Ev.fieldAddr (off' := 3) rfl Try.runUnderlying59 rfl Try.sizeOf36 rfl rfl) ?_
   refine HdJ.step [0, 4, 6] (by kernel_rfl) rfl ?_
   refine HdStep.c (fun inv => ?_) ?_
   ·refine Lst.r (Ev.load (i := 0) rfl rfl Try.isAgg167 (v := pv b_a0 0) (Get.here _)) ?_
    refine Lst.nil ?_
    refine At.hd inv (fun w h => (h.weaken (FLe.refl _)).sublist (sk1 (sk1 (sk1 (sc1 (sc1 (.refl _))))))) ?_
    refine HdJ.step [4, 6] (by kernel_rfl) rfl ?_
    refine HdStep.c (fun inv => ?_) ?_
    ·refine Lst.r (Ev.load (i := 4) rfl rfl Try.isAgg36 (v := Sl.v s14) ((TurnR.get_Log (Get.here _)).off (by rfl))) ?_
     refine Lst.nil ?_
     refine At.hd inv (fun w h => (h.weaken (FLe.refl _)).sublist (sk1 (sk1 (sk1 (sc1 (sc1 (.refl _))))))) ?_
     refine HdJ.step [6] (by kernel_rfl) rfl ?_
     refine HdStep.c (fun inv => ?_) ?_
     ·refine Lst.buildSlice (α := Int) (xs := ([x18] : List Int)) (pv := [(0, iv x18)]) rfl rfl (by decide) ⟨rfl, rfl, trivial⟩ (run_buildSlice (α := Int) (z0 := (0 : Int)) (xs := ([x18] : List Int)) Try.runUnderlying36 Try.sizeOf3 Try.zeroValue3 rfl rfl rfl (by decide) rfl (fill_cons (cs := encs (List.replicate 1 (0 : Int))) (cs' := encs ((List.replicate 1 (0 : Int)).set 0 x18)) (vs := [iv x18]) rfl rfl rfl ((Put.elemN (s := 1) (i := 0) (x := (0 : Int)) (y := x18) rfl rfl (Put.here (vs := [iv x18]) rfl)).off rfl) fill_nil)) rfl rfl (by decide) (fun s40 _ => ?_)
      refine Lst.nil ?_
      refine At.hd inv (fun w h => (h.weaken (FLe.refl _)).sublist (sc1 (sk1 (sk1 (sk1 (sc1 (sc1 (.refl _)))))))) ?_
      refine HdJ.step [7] (by kernel_rfl) rfl ?_
      refine HdStep.c (fun inv => ?_) ?_
      ·refine Lst.append (i := 4) (α := Int) (xs := l15) (ys := ([x18] : List Int)) rfl rfl (by decide) rfl rfl Try.runUnderlying36 Try.typeInfo3 rfl rfl rfl rfl rfl rfl (Rd.own (i := 0) rfl rfl rfl) rfl (room_some h25) rfl (fun s41 => ?_)
       refine Lst.its (L' := (.own s40 3 1 (encs ([x18] : List Int))) :: (.blk b5 [pv b_a0 0] 167) :: (.rows (α := Int) 3 rs_a0_2) :: (.own s_a0_2 36 1 (encs rs_a0_2)) :: (.own s41 3 1 (encs (l15 ++ ([x18] : List Int)))) :: (.blk b_a0 (enc (TurnR.mk ({ y13 with Want := a0.Want, Told := a0.Told } : Turn) s_a0_2 s14 s_a0_4)) 59) :: L) rfl ?_
       refine Lst.nil ?_
       refine At.hd inv (fun w h => (h.weaken (FLe.refl _)).sublist (sc1 (sk1 (sk1 (sk1 (sc1 (sc1 (.refl _)))))))) ?_
       refine HdJ.done (by kernel_rfl) ?_
       refine At.less (L' := (.blk b5 [pv b_a0 0] 167) :: (.rows (α := Int) 3 rs_a0_2) :: (.own s_a0_2 36 1 (encs rs_a0_2)) :: (.own s41 3 1 (encs (l15 ++ ([x18] : List Int)))) :: (.blk b_a0 (enc (TurnR.mk ({ y13 with Want := a0.Want, Told := a0.Told } : Turn) s_a0_2 s14 s_a0_4)) 59) :: L) (sc1 (sk1 (sk1 (sk1 (sk1 (sk1 (.refl _))))))) ?_
       exact At.meetN (s41, l15 ++ ([x18] : List Int), ({ y13 with Want := a0.Want, Told := a0.Told } : Turn), s14) (FLe.refl _) ⟨rfl, rfl, rfl, rfl, rfl, rfl, trivial⟩ rfl h33
      exact trivial
     exact trivial
    refine HdStep.c (fun inv => ?_) ?_
    ·refine Lst.buildSlice (α := Int) (xs := ([x18] : List Int)) (pv := [(0, iv x18)]) rfl rfl (by decide) ⟨rfl, rfl, trivial⟩ (run_buildSlice (α := Int) (z0 := (0 : Int)) (xs := ([x18] : List Int)) Try.runUnderlying36 Try.sizeOf3 Try.zeroValue3 rfl rfl rfl (by decide) rfl (fill_cons (cs := encs (List.replicate 1 (0 : Int))) (cs' := encs ((List.replicate 1 (0 : Int)).set 0 x18)) (vs := [iv x18]) rfl rfl rfl ((Put.elemN (s := 1) (i := 0) (x := (0 : Int)) (y := x18) rfl rfl (Put.here (vs := [iv x18]) rfl)).off rfl) fill_nil)) rfl rfl (by decide) (fun s42 _ => ?_)
     refine Lst.nil ?_
     refine At.hd inv (fun w h => (h.weaken (FLe.refl _)).sublist (sc1 (sk1 (sk1 (sk1 (sc1 (sc1 (.refl _)))))))) ?_
     refine HdJ.step [4] (by kernel_rfl) rfl ?_
     refine HdStep.c (fun inv => ?_) ?_
     ·refine Lst.r (Ev.load (i := 5) rfl rfl Try.isAgg36 (v := Sl.v s14) ((TurnR.get_Log (Get.here _)).off (by rfl))) ?_
      refine Lst.nil ?_
      refine At.hd inv (fun w h => (h.weaken (FLe.refl _)).sublist (sc1 (sk1 (sk1 (sk1 (sc1 (sc1 (.refl _)))))))) ?_
      refine HdJ.step [7] (by kernel_rfl) rfl ?_
      refine HdStep.c (fun inv => ?_) ?_
      ·refine Lst.append (i := 4) (α := Int) (xs := l15) (ys := ([x18] : List Int)) rfl rfl (by decide) rfl rfl Try.runUnderlying36 Try.typeInfo3 rfl rfl rfl rfl rfl rfl (Rd.own (i := 0) rfl rfl rfl) rfl (room_some h25) rfl (fun s43 => ?_)
       refine Lst.its (L' := (.own s42 3 1 (encs ([x18] : List Int))) :: (.blk b5 [pv b_a0 0] 167) :: (.rows (α := Int) 3 rs_a0_2) :: (.own s_a0_2 36 1 (encs rs_a0_2)) :: (.own s43 3 1 (encs (l15 ++ ([x18] : List Int)))) :: (.blk b_a0 (enc (TurnR.mk ({ y13 with Want := a0.Want, Told := a0.Told } : Turn) s_a0_2 s14 s_a0_4)) 59) :: L) rfl ?_
       refine Lst.nil ?_
       refine At.hd inv (fun w h => (h.weaken (FLe.refl _)).sublist (sc1 (sk1 (sk1 (sk1 (sc1 (sc1 (.refl _)))))))) ?_
       refine HdJ.done (by kernel_rfl) ?_
       refine At.less (L' := (.blk b5 [pv b_a0 0] 167) :: (.rows (α := Int) 3 rs_a0_2) :: (.own s_a0_2 36 1 (encs rs_a0_2)) :: (.own s43 3 1 (encs (l15 ++ ([x18] : List Int)))) :: (.blk b_a0 (enc (TurnR.mk ({ y13 with Want := a0.Want, Told := a0.Told } : Turn) s_a0_2 s14 s_a0_4)) 59) :: L) (sc1 (sk1 (sk1 (sk1 (sk1 (sk1 (.refl _))))))) ?_
       exact At.meetN (s43, l15 ++ ([x18] : List Int), ({ y13 with Want := a0.Want, Told := a0.Told } : Turn), s14) (FLe.refl _) ⟨rfl, rfl, rfl, rfl, rfl, rfl, trivial⟩ rfl h33
      exact trivial
     exact trivial
    exact trivial
   refine HdStep.c (fun inv => ?_) ?_
   ·refine Lst.r (Ev.load (i := 4) rfl rfl Try.isAgg36 (v := Sl.v s14) ((TurnR.get_Log (Get.here _)).off (by rfl))) ?_
    refine Lst.nil ?_
    refine At.hd inv (fun w h => (h.weaken (FLe.refl _)).sublist (sk1 (sk1 (sk1 (sc1 (sc1 (.refl _))))))) ?_
    refine HdJ.step [0, 6] (by kernel_rfl) rfl ?_
    refine HdStep.c (fun inv => ?_) ?_
    ·refine Lst.r (Ev.load (i := 0) rfl rfl Try.isAgg167 (v := pv b_a0 0) (Get.here _)) ?_
     refine Lst.nil ?_
     refine At.hd inv (fun w h => (h.weaken (FLe.refl _)).sublist (sk1 (sk1 (sk1 (sc1 (sc1 (.refl _))))))) ?_
     refine HdJ.step [6] (by kernel_rfl) rfl ?_
     refine HdStep.c (fun inv => ?_) ?_
     ·refine Lst.buildSlice (α := Int) (xs := ([x18] : List Int)) (pv := [(0, iv x18)]) rfl rfl (by decide) ⟨rfl, rfl, trivial⟩ (run_buildSlice (α := Int) (z0 := (0 : Int)) (xs := ([x18] : List Int)) Try.runUnderlying36 Try.sizeOf3 Try.zeroValue3 rfl rfl rfl (by decide) rfl (fill_cons (cs := encs (List.replicate 1 (0 : Int))) (cs' := encs ((List.replicate 1 (0 : Int)).set 0 x18)) (vs := [iv x18]) rfl rfl rfl ((Put.elemN (s := 1) (i := 0) (x := (0 : Int)) (y := x18) rfl rfl (Put.here (vs := [iv x18]) rfl)).off rfl) fill_nil)) rfl rfl (by decide) (fun s44 _ => ?_)
      refine Lst.nil ?_
      refine At.hd inv (fun w h => (h.weaken (FLe.refl _)).sublist (sc1 (sk1 (sk1 (sk1 (sc1 (sc1 (.refl _)))))))) ?_
      refine HdJ.step [7] (by kernel_rfl) rfl ?_
      refine HdStep.c (fun inv => ?_) ?_
      ·refine Lst.append (i := 4) (α := Int) (xs := l15) (ys := ([x18] : List Int)) rfl rfl (by decide) rfl rfl Try.runUnderlying36 Try.typeInfo3 rfl rfl rfl rfl rfl rfl (Rd.own (i := 0) rfl rfl rfl) rfl (room_some h25) rfl (fun s45 => ?_)
       refine Lst.its (L' := (.own s44 3 1 (encs ([x18] : List Int))) :: (.blk b5 [pv b_a0 0] 167) :: (.rows (α := Int) 3 rs_a0_2) :: (.own s_a0_2 36 1 (encs rs_a0_2)) :: (.own s45 3 1 (encs (l15 ++ ([x18] : List Int)))) :: (.blk b_a0 (enc (TurnR.mk ({ y13 with Want := a0.Want, Told := a0.Told } : Turn) s_a0_2 s14 s_a0_4)) 59) :: L) rfl ?_
       refine Lst.nil ?_
       refine At.hd inv (fun w h => (h.weaken (FLe.refl _)).sublist (sc1 (sk1 (sk1 (sk1 (sc1 (sc1 (.refl _)))))))) ?_
       refine HdJ.done (by kernel_rfl) ?_
       refine At.less (L' := (.blk b5 [pv b_a0 0] 167) :: (.rows (α := Int) 3 rs_a0_2) :: (.own s_a0_2 36 1 (encs rs_a0_2)) :: (.own s45 3 1 (encs (l15 ++ ([x18] : List Int)))) :: (.blk b_a0 (enc (TurnR.mk ({ y13 with Want := a0.Want, Told := a0.Told } : Turn) s_a0_2 s14 s_a0_4)) 59) :: L) (sc1 (sk1 (sk1 (sk1 (sk1 (sk1 (.refl _))))))) ?_
       exact At.meetN (s45, l15 ++ ([x18] : List Int), ({ y13 with Want := a0.Want, Told := a0.Told } : Turn), s14) (FLe.refl _) ⟨rfl, rfl, rfl, rfl, rfl, rfl, trivial⟩ rfl h33
      exact trivial
     exact trivial
    refine HdStep.c (fun inv => ?_) ?_
    ·refine Lst.buildSlice (α := Int) (xs := ([x18] : List Int)) (pv := [(0, iv x18)]) rfl rfl (by decide) ⟨rfl, rfl, trivial⟩ (run_buildSlice (α := Int) (z0 := (0 : Int)) (xs := ([x18] : List Int)) Try.runUnderlying36 Try.sizeOf3 Try.zeroValue3 rfl rfl rfl (by decide) rfl (fill_cons (cs := encs (List.replicate 1 (0 : Int))) (cs' := encs ((List.replicate 1 (0 : Int)).set 0 x18)) (vs := [iv x18]) rfl rfl rfl ((Put.elemN (s := 1) (i := 0) (x := (0 : Int)) (y := x18) rfl rfl (Put.here (vs := [iv x18]) rfl)).off rfl) fill_nil)) rfl rfl (by decide) (fun s46 _ => ?_)
     refine Lst.nil ?_
     refine At.hd inv (fun w h => (h.weaken (FLe.refl _)).sublist (sc1 (sk1 (sk1 (sk1 (sc1 (sc1 (.refl _)))))))) ?_
     refine HdJ.step [0, 7] (by kernel_rfl) rfl ?_
     refine HdStep.c (fun inv => ?_) ?_
     ·refine Lst.r (Ev.load (i := 1) rfl rfl Try.isAgg167 (v := pv b_a0 0) (Get.here _)) ?_
      refine Lst.nil ?_
      refine At.hd inv (fun w h => (h.weaken (FLe.refl _)).sublist (sc1 (sk1 (sk1 (sk1 (sc1 (sc1 (.refl _)))))))) ?_
      refine HdJ.step [7] (by kernel_rfl) rfl ?_
      refine HdStep.c (fun inv => ?_) ?_
      ·refine Lst.append (i := 4) (α := Int) (xs := l15) (ys := ([x18] : List Int)) rfl rfl (by decide) rfl rfl Try.runUnderlying36 Try.typeInfo3 rfl rfl rfl rfl rfl rfl (Rd.own (i := 0) rfl rfl rfl) rfl (room_some h25) rfl (fun s47 => ?_)
       refine Lst.its (L' := (.own s46 3 1 (encs ([x18] : List Int))) :: (.blk b5 [pv b_a0 0] 167) :: (.rows (α := Int) 3 rs_a0_2) :: (.own s_a0_2 36 1 (encs rs_a0_2)) :: (.own s47 3 1 (encs (l15 ++ ([x18] : List Int)))) :: (.blk b_a0 (enc (TurnR.mk ({ y13 with Want := a0.Want, Told := a0.Told } : Turn) s_a0_2 s14 s_a0_4)) 59) :: L) rfl ?_
       refine Lst.nil ?_
       refine At.hd inv (fun w h => (h.weaken (FLe.refl _)).sublist (sc1 (sk1 (sk1 (sk1 (sc1 (sc1 (.refl _)))))))) ?_
       refine HdJ.done (by kernel_rfl) ?_
       refine At.less (L' := (.blk b5 [pv b_a0 0] 167) :: (.rows (α := Int) 3 rs_a0_2) :: (.own s_a0_2 36 1 (encs rs_a0_2)) :: (.own s47 3 1 (encs (l15 ++ ([x18] : List Int)))) :: (.blk b_a0 (enc (TurnR.mk ({ y13 with Want := a0.Want, Told := a0.Told } : Turn) s_a0_2 s14 s_a0_4)) 59) :: L) (sc1 (sk1 (sk1 (sk1 (sk1 (sk1 (.refl _))))))) ?_
       exact At.meetN (s47, l15 ++ ([x18] : List Int), ({ y13 with Want := a0.Want, Told := a0.Told } : Turn), s14) (FLe.refl _) ⟨rfl, rfl, rfl, rfl, rfl, rfl, trivial⟩ rfl h33
      exact trivial
     refine HdStep.c (fun inv => ?_) ?_
     ·refine Lst.append (i := 4) (α := Int) (xs := l15) (ys := ([x18] : List Int)) rfl rfl (by decide) rfl rfl Try.runUnderlying36 Try.typeInfo3 rfl rfl rfl rfl rfl rfl (Rd.own (i := 0) rfl rfl rfl) rfl (room_some h25) rfl (fun s48 => ?_)
      refine Lst.its (L' := (.own s46 3 1 (encs ([x18] : List Int))) :: (.blk b5 [pv b_a0 0] 167) :: (.rows (α := Int) 3 rs_a0_2) :: (.own s_a0_2 36 1 (encs rs_a0_2)) :: (.own s48 3 1 (encs (l15 ++ ([x18] : List Int)))) :: (.blk b_a0 (enc (TurnR.mk ({ y13 with Want := a0.Want, Told := a0.Told } : Turn) s_a0_2 s14 s_a0_4)) 59) :: L) rfl ?_
      refine Lst.nil ?_
      refine At.hd inv (fun w h => (h.weaken (FLe.refl _)).sublist (sc1 (sk1 (sk1 (sk1 (sc1 (sc1 (.refl _)))))))) ?_
      refine HdJ.keep (fun w => St w0 F16 ((.own s46 3 1 (encs ([x18] : List Int))) :: (.blk b5 [pv b_a0 0] 167) :: (.rows (α := Int) 3 rs_a0_2) :: (.own s_a0_2 36 1 (encs rs_a0_2)) :: (.own s48 3 1 (encs (l15 ++ ([x18] : List Int)))) :: (.blk b_a0 (enc (TurnR.mk ({ y13 with Want := a0.Want, Told := a0.Told } : Turn) s_a0_2 s14 s_a0_4)) 59) :: L) w) (fun w h => (h.weaken (FLe.refl _)).sublist (sc1 (sk1 (sk1 (sk1 (sc1 (sc1 (.refl _)))))))) ?_
      refine HdJ.tk hsel hlt 0 (fun w h => h.sublist (sk1 (sk1 (sk1 (sk1 (sk1 (sk1 (.refl _)))))))) rfl (Ev.load (i := 1) rfl rfl Try.isAgg167 (v := pv b_a0 0) (Get.here _)) ?_
      refine HdJ.done (by kernel_rfl) ?_
      refine At.less (L' := (.blk b5 [pv b_a0 0] 167) :: (.rows (α := Int) 3 rs_a0_2) :: (.own s_a0_2 36 1 (encs rs_a0_2)) :: (.own s48 3 1 (encs (l15 ++ ([x18] : List Int)))) :: (.blk b_a0 (enc (TurnR.mk ({ y13 with Want := a0.Want, Told := a0.Told } : Turn) s_a0_2 s14 s_a0_4)) 59) :: L) (sc1 (sk1 (sk1 (sk1 (sk1 (sk1 (.refl _))))))) ?_
      exact At.meetN (s48, l15 ++ ([x18] : List Int), ({ y13 with Want := a0.Want, Told := a0.Told } : Turn), s14) (FLe.refl _) ⟨rfl, rfl, rfl, rfl, rfl, rfl, trivial⟩ rfl h33
     exact trivial
    exact trivial
   refine HdStep.c (fun inv => ?_) ?_
   ·refine Lst.buildSlice (α := Int) (xs := ([x18] : List Int)) (pv := [(0, iv x18)]) rfl rfl (by decide) ⟨rfl, rfl, trivial⟩ (run_buildSlice (α := Int) (z0 := (0 : Int)) (xs := ([x18] : List Int)) Try.runUnderlying36 Try.sizeOf3 Try.zeroValue3 rfl rfl rfl (by decide) rfl (fill_cons (cs := encs (List.replicate 1 (0 : Int))) (cs' := encs ((List.replicate 1 (0 : Int)).set 0 x18)) (vs := [iv x18]) rfl rfl rfl ((Put.elemN (s := 1) (i := 0) (x := (0 : Int)) (y := x18) rfl rfl (Put.here (vs := [iv x18]) rfl)).off rfl) fill_nil)) rfl rfl (by decide) (fun s49 _ => ?_)
    refine Lst.nil ?_
    refine At.hd inv (fun w h => (h.weaken (FLe.refl _)).sublist (sc1 (sk1 (sk1 (sk1 (sc1 (sc1 (.refl _)))))))) ?_
    refine HdJ.step [0, 4] (by kernel_rfl) rfl ?_
    refine HdStep.c (fun inv => ?_) ?_
    ·refine Lst.r (Ev.load (i := 1) rfl rfl Try.isAgg167 (v := pv b_a0 0) (Get.here _)) ?_
     refine Lst.nil ?_
     refine At.hd inv (fun w h => (h.weaken (FLe.refl _)).sublist (sc1 (sk1 (sk1 (sk1 (sc1 (sc1 (.refl _)))))))) ?_
     refine HdJ.step [4] (by kernel_rfl) rfl ?_
     refine HdStep.c (fun inv => ?_) ?_
     ·refine Lst.r (Ev.load (i := 5) rfl rfl Try.isAgg36 (v := Sl.v s14) ((TurnR.get_Log (Get.here _)).off (by rfl))) ?_
      refine Lst.nil ?_
      refine At.hd inv (fun w h => (h.weaken (FLe.refl _)).sublist (sc1 (sk1 (sk1 (sk1 (sc1 (sc1 (.refl _)))))))) ?_
      refine HdJ.step [7] (by kernel_rfl) rfl ?_
      refine HdStep.c (fun inv => ?_) ?_
      ·refine Lst.append (i := 4) (α := Int) (xs := l15) (ys := ([x18] : List Int)) rfl rfl (by decide) rfl rfl Try.runUnderlying36 Try.typeInfo3 rfl rfl rfl rfl rfl rfl (Rd.own (i := 0) rfl rfl rfl) rfl (room_some h25) rfl (fun s50 => ?_)
       refine Lst.its (L' := (.own s49 3 1 (encs ([x18] : List Int))) :: (.blk b5 [pv b_a0 0] 167) :: (.rows (α := Int) 3 rs_a0_2) :: (.own s_a0_2 36 1 (encs rs_a0_2)) :: (.own s50 3 1 (encs (l15 ++ ([x18] : List Int)))) :: (.blk b_a0 (enc (TurnR.mk ({ y13 with Want := a0.Want, Told := a0.Told } : Turn) s_a0_2 s14 s_a0_4)) 59) :: L) rfl ?_
       refine Lst.nil ?_
       refine At.hd inv (fun w h => (h.weaken (FLe.refl _)).sublist (sc1 (sk1 (sk1 (sk1 (sc1 (sc1 (.refl _)))))))) ?_
       refine HdJ.done (by kernel_rfl) ?_
       refine At.less (L' := (.blk b5 [pv b_a0 0] 167) :: (.rows (α := Int) 3 rs_a0_2) :: (.own s_a0_2 36 1 (encs rs_a0_2)) :: (.own s50 3 1 (encs (l15 ++ ([x18] : List Int)))) :: (.blk b_a0 (enc (TurnR.mk ({ y13 with Want := a0.Want, Told := a0.Told } : Turn) s_a0_2 s14 s_a0_4)) 59) :: L) (sc1 (sk1 (sk1 (sk1 (sk1 (sk1 (.refl _))))))) ?_
       exact At.meetN (s50, l15 ++ ([x18] : List Int), ({ y13 with Want := a0.Want, Told := a0.Told } : Turn), s14) (FLe.refl _) ⟨rfl, rfl, rfl, rfl, rfl, rfl, trivial⟩ rfl h33
      exact trivial
     exact trivial
    refine HdStep.c (fun inv => ?_) ?_
    ·refine Lst.r (Ev.load (i := 5) rfl rfl Try.isAgg36 (v := Sl.v s14) ((TurnR.get_Log (Get.here _)).off (by rfl))) ?_
     refine Lst.nil ?_
     refine At.hd inv (fun w h => (h.weaken (FLe.refl _)).sublist (sc1 (sk1 (sk1 (sk1 (sc1 (sc1 (.refl _)))))))) ?_
     refine HdJ.step [0, 7] (by kernel_rfl) rfl ?_
     refine HdStep.c (fun inv => ?_) ?_
     ·refine Lst.r (Ev.load (i := 1) rfl rfl Try.isAgg167 (v := pv b_a0 0) (Get.here _)) ?_
      refine Lst.nil ?_
      refine At.hd inv (fun w h => (h.weaken (FLe.refl _)).sublist (sc1 (sk1 (sk1 (sk1 (sc1 (sc1 (.refl _)))))))) ?_
      refine HdJ.step [7] (by kernel_rfl) rfl ?_
      refine HdStep.c (fun inv => ?_) ?_
      ·refine Lst.append (i := 4) (α := Int) (xs := l15) (ys := ([x18] : List Int)) rfl rfl (by decide) rfl rfl Try.runUnderlying36 Try.typeInfo3 rfl rfl rfl rfl rfl rfl (Rd.own (i := 0) rfl rfl rfl) rfl (room_some h25) rfl (fun s51 => ?_)
       refine Lst.its (L' := (.own s49 3 1 (encs ([x18] : List Int))) :: (.blk b5 [pv b_a0 0] 167) :: (.rows (α := Int) 3 rs_a0_2) :: (.own s_a0_2 36 1 (encs rs_a0_2)) :: (.own s51 3 1 (encs (l15 ++ ([x18] : List Int)))) :: (.blk b_a0 (enc (TurnR.mk ({ y13 with Want := a0.Want, Told := a0.Told } : Turn) s_a0_2 s14 s_a0_4)) 59) :: L) rfl ?_
       refine Lst.nil ?_
       refine At.hd inv (fun w h => (h.weaken (FLe.refl _)).sublist (sc1 (sk1 (sk1 (sk1 (sc1 (sc1 (.refl _)))))))) ?_
       refine HdJ.done (by kernel_rfl) ?_
       refine At.less (L' := (.blk b5 [pv b_a0 0] 167) :: (.rows (α := Int) 3 rs_a0_2) :: (.own s_a0_2 36 1 (encs rs_a0_2)) :: (.own s51 3 1 (encs (l15 ++ ([x18] : List Int)))) :: (.blk b_a0 (enc (TurnR.mk ({ y13 with Want := a0.Want, Told := a0.Told } : Turn) s_a0_2 s14 s_a0_4)) 59) :: L) (sc1 (sk1 (sk1 (sk1 (sk1 (sk1 (.refl _))))))) ?_
       exact At.meetN (s51, l15 ++ ([x18] : List Int), ({ y13 with Want := a0.Want, Told := a0.Told } : Turn), s14) (FLe.refl _) ⟨rfl, rfl, rfl, rfl, rfl, rfl, trivial⟩ rfl h33
      exact trivial
     refine HdStep.c (fun inv => ?_) ?_
     ·refine Lst.append (i := 4) (α := Int) (xs := l15) (ys := ([x18] : List Int)) rfl rfl (by decide) rfl rfl Try.runUnderlying36 Try.typeInfo3 rfl rfl rfl rfl rfl rfl (Rd.own (i := 0) rfl rfl rfl) rfl (room_some h25) rfl (fun s52 => ?_)
      refine Lst.its (L' := (.own s49 3 1 (encs ([x18] : List Int))) :: (.blk b5 [pv b_a0 0] 167) :: (.rows (α := Int) 3 rs_a0_2) :: (.own s_a0_2 36 1 (encs rs_a0_2)) :: (.own s52 3 1 (encs (l15 ++ ([x18] : List Int)))) :: (.blk b_a0 (enc (TurnR.mk ({ y13 with Want := a0.Want, Told := a0.Told } : Turn) s_a0_2 s14 s_a0_4)) 59) :: L) rfl ?_
      refine Lst.nil ?_
      refine At.hd inv (fun w h => (h.weaken (FLe.refl _)).sublist (sc1 (sk1 (sk1 (sk1 (sc1 (sc1 (.refl _)))))))) ?_
      refine HdJ.keep (fun w => St w0 F16 ((.own s49 3 1 (encs ([x18] : List Int))) :: (.blk b5 [pv b_a0 0] 167) :: (.rows (α := Int) 3 rs_a0_2) :: (.own s_a0_2 36 1 (encs rs_a0_2)) :: (.own s52 3 1 (encs (l15 ++ ([x18] : List Int)))) :: (.blk b_a0 (enc (TurnR.mk ({ y13 with Want := a0.Want, Told := a0.Told } : Turn) s_a0_2 s14 s_a0_4)) 59) :: L) w) (fun w h => (h.weaken (FLe.refl _)).sublist (sc1 (sk1 (sk1 (sk1 (sc1 (sc1 (.refl _)))))))) ?_
      refine HdJ.tk hsel hlt 0 (fun w h => h.sublist (sk1 (sk1 (sk1 (sk1 (sk1 (sk1 (.refl _)))))))) rfl (Ev.load (i := 1) rfl rfl Try.isAgg167 (v := pv b_a0 0) (Get.here _)) ?_
      refine HdJ.done (by kernel_rfl) ?_
      refine At.less (L' := (.blk b5 [pv b_a0 0] 167) :: (.rows (α := Int) 3 rs_a0_2) :: (.own s_a0_2 36 1 (encs rs_a0_2)) :: (.own s52 3 1 (encs (l15 ++ ([x18] : List Int)))) :: (.blk b_a0 (enc (TurnR.mk ({ y13 with Want := a0.Want, Told := a0.Told } : Turn) s_a0_2 s14 s_a0_4)) 59) :: L) (sc1 (sk1 (sk1 (sk1 (sk1 (sk1 (.refl _))))))) ?_
      exact At.meetN (s52, l15 ++ ([x18] : List Int), ({ y13 with Want := a0.Want, Told := a0.Told } : Turn), s14) (FLe.refl _) ⟨rfl, rfl, rfl, rfl, rfl, rfl, trivial⟩ rfl h33
     exact trivial
    exact trivial
   exact trivial
  refine HdStep.c (fun inv => ?_) ?_
  ·refine Lst.buildSlice (α := Int) (xs := ([x18] : List Int)) (pv := [(0, iv x18)]) rfl rfl (by decide) ⟨rfl, rfl, trivial⟩ (run_buildSlice (α := Int) (z0 := (0 : Int)) (xs := ([x18] : List Int)) Try.runUnderlying36 Try.sizeOf3 Try.zeroValue3 rfl rfl rfl (by decide) rfl (fill_cons (cs := encs (List.replicate 1 (0 : Int))) (cs' := encs ((List.replicate 1 (0 : Int)).set 0 x18)) (vs := [iv x18]) rfl rfl rfl ((Put.elemN (s := 1) (i := 0) (x := (0 : Int)) (y := x18) rfl rfl (Put.here (vs := [iv x18]) rfl)).off rfl) fill_nil)) rfl rfl (by decide) (fun s53 _ => ?_)
   refine Lst.nil ?_
   refine At.hd inv (fun w h => (h.weaken (FLe.refl _)).sublist (sc1 (sk1 (sk1 (sk1 (sc1 (sc1 (.refl _)))))))) ?_
   refine HdJ.step [0, 1] (by kernel_rfl) rfl ?_
   refine HdStep.c (fun inv => ?_) ?_
   ·refine Lst.r (Ev.load (i := 1) rfl rfl Try.isAgg167 (v := pv b_a0 0) (Get.here _)) ?_
    refine Lst.nil ?_
    refine At.hd inv (fun w h => (h.weaken (FLe.refl _)).sublist (sc1 (sk1 (sk1 (sk1 (sc1 (sc1 (.refl _)))))))) ?_
    refine HdJ.step [1] (by kernel_rfl) rfl ?_
    refine HdStep.c (fun inv => ?_) ?_
    ·refine Lst.r (Ev.load (i := 1) rfl rfl Try.isAgg167 (v := pv b_a0 0) (Get.here _)) ?_
     refine Lst.nil ?_
     refine At.hd inv (fun w h => (h.weaken (FLe.refl _)).sublist (sc1 (sk1 (sk1 (sk1 (sc1 (sc1 (.refl _)))))))) ?_
     refine HdJ.keep (fun w => St w0 F16 ((.own s53 3 1 (encs ([x18] : List Int))) :: (.blk b5 [pv b_a0 0] 167) :: (.rows (α := Int) 3 rs_a0_2) :: (.own s_a0_2 36 1 (encs rs_a0_2)) :: L) w) (fun w h => (h.weaken (FLe.refl _)).sublist (sc1 (sk1 (sk1 (sk1 (.refl _)))))) ?_
     refine HdJ.tk hsel hlt 2 (fun w h => h.sublist (sk1 (sk1 (sk1 (sk1 (sc1 (sc1 (.refl _)))))))) rfl (Ev.nilCheck rfl) ?_
     refine HdJ.tk hsel hlt 3 (fun w h => h.sublist (sk1 (sk1 (sk1 (sk1 (sc1 (sc1 (.refl _)))))))) rfl (Ev.fieldAddr (off' := 3) rfl Try.runUnderlying59 rfl Try.sizeOf36 rfl rfl) ?_
     refine HdJ.step [4] (by kernel_rfl) rfl ?_
     refine HdStep.c (fun inv => ?_) ?_
     ·refine Lst.r (Ev.load (i := 5) rfl rfl Try.isAgg36 (v := Sl.v s14) ((TurnR.get_Log (Get.here _)).off (by rfl))) ?_
      refine Lst.nil ?_
      refine At.hd inv (fun w h => (h.weaken (FLe.refl _)).sublist (sk1 (sk1 (sk1 (sk1 (sc1 (sc1 (.refl _)))))))) ?_
      refine HdJ.step [7] (by kernel_rfl) rfl ?_
      refine HdStep.c (fun inv => ?_) ?_
      ·refine Lst.append (i := 4) (α := Int) (xs := l15) (ys := ([x18] : List Int)) rfl rfl (by decide) rfl rfl Try.runUnderlying36 Try.typeInfo3 rfl rfl rfl rfl rfl rfl (Rd.own (i := 0) rfl rfl rfl) rfl (room_some h25) rfl (fun s54 => ?_)
       refine Lst.its (L' := (.own s53 3 1 (encs ([x18] : List Int))) :: (.blk b5 [pv b_a0 0] 167) :: (.rows (α := Int) 3 rs_a0_2) :: (.own s_a0_2 36 1 (encs rs_a0_2)) :: (.own s54 3 1 (encs (l15 ++ ([x18] : List Int)))) :: (.blk b_a0 (enc (TurnR.mk ({ y13 with Want := a0.Want, Told := a0.Told } : Turn) s_a0_2 s14 s_a0_4)) 59) :: L) rfl ?_
       refine Lst.nil ?_
       refine At.hd inv (fun w h => (h.weaken (FLe.refl _)).sublist (sk1 (sk1 (sk1 (sk1 (sc1 (sc1 (.refl _)))))))) ?_
       refine HdJ.done (by kernel_rfl) ?_
       refine At.less (L' := (.blk b5 [pv b_a0 0] 167) :: (.rows (α := Int) 3 rs_a0_2) :: (.own s_a0_2 36 1 (encs rs_a0_2)) :: (.own s54 3 1 (encs (l15 ++ ([x18] : List Int)))) :: (.blk b_a0 (enc (TurnR.mk ({ y13 with Want := a0.Want, Told := a0.Told } : Turn) s_a0_2 s14 s_a0_4)) 59) :: L) (sc1 (sk1 (sk1 (sk1 (sk1 (sk1 (.refl _))))))) ?_
       exact At.meetN (s54, l15 ++ ([x18] : List Int), ({ y13 with Want := a0.Want, Told := a0.Told } : Turn), s14) (FLe.refl _) ⟨rfl, rfl, rfl, rfl, rfl, rfl, trivial⟩ rfl h33
      exact trivial
     exact trivial
    exact trivial
   refine HdStep.c (fun inv => ?_) ?_
   ·refine Lst.r (Ev.load (i := 1) rfl rfl Try.isAgg167 (v := pv b_a0 0) (Get.here _)) ?_
    refine Lst.nil ?_
    refine At.hd inv (fun w h => (h.weaken (FLe.refl _)).sublist (sc1 (sk1 (sk1 (sk1 (sc1 (sc1 (.refl _)))))))) ?_
    refine HdJ.keep (fun w => St w0 F16 ((.own s53 3 1 (encs ([x18] : List Int))) :: (.blk b5 [pv b_a0 0] 167) :: (.rows (α := Int) 3 rs_a0_2) :: (.own s_a0_2 36 1 (encs rs_a0_2)) :: L) w) (fun w h => (h.weaken (FLe.refl _)).sublist (sc1 (sk1 (sk1 (sk1 (.refl _)))))) ?_
    refine HdJ.tk hsel hlt 2 (fun w h => h.sublist (sk1 (sk1 (sk1 (sk1 (sc1 (sc1 (.refl _)))))))) rfl (Ev.nilCheck rfl) ?_
    refine HdJ.tk hsel hlt 3 (fun w h => h.sublist (sk1 (sk1 (sk1 (sk1 (sc1 (sc1 (.refl _)))))))) rfl (Ev.fieldAddr (off' := 3) rfl Try.runUnderlying59 rfl Try.sizeOf36 rfl rfl) ?_
    refine HdJ.step [0, 4] (by kernel_rfl) rfl ?_
    refine HdStep.c (fun inv => ?_) ?_
    ·refine Lst.r (Ev.load (i := 1) rfl rfl Try.isAgg167 (v := pv b_a0 0) (Get.here _)) ?_
     refine Lst.nil ?_
     refine At.hd inv (fun w h => (h.weaken (FLe.refl _)).sublist (sk1 (sk1 (sk1 (sk1 (sc1 (sc1 (.refl _)))))))) ?_
     refine HdJ.step [4] (by kernel_rfl) rfl ?_
     refine HdStep.c (fun inv => ?_) ?_
     ·refine Lst.r (Ev.load (i := 5) rfl rfl Try.isAgg36 (v := Sl.v s14) ((TurnR.get_Log (Get.here _)).off (by rfl))) ?_
      refine Lst.nil ?_
      refine At.hd inv (fun w h => (h.weaken (FLe.refl _)).sublist (sk1 (sk1 (sk1 (sk1 (sc1 (sc1 (.refl _)))))))) ?_
      refine HdJ.step [7] (by kernel_rfl) rfl ?_
      refine HdStep.c (fun inv => ?_) ?_
      ·refine Lst.append (i := 4) (α := Int) (xs := l15) (ys := ([x18] : List Int)) rfl rfl (by decide) rfl rfl Try.runUnderlying36 Try.typeInfo3 rfl rfl rfl rfl rfl rfl (Rd.own (i := 0) rfl rfl rfl) rfl (room_some h25) rfl (fun s55 => ?_)
       refine Lst.its (L' := (.own s53 3 1 (encs ([x18] : List Int))) :: (.blk b5 [pv b_a0 0] 167) :: (.rows (α := Int) 3 rs_a0_2) :: (.own s_a0_2 36 1 (encs rs_a0_2)) :: (.own s55 3 1 (encs (l15 ++ ([x18] : List Int)))) :: (.blk b_a0 (enc (TurnR.mk ({ y13 with Want := a0.Want, Told := a0.Told } : Turn) s_a0_2 s14 s_a0_4)) 59) :: L) rfl ?_
       refine Lst.nil ?_
       refine At.hd inv (fun w h => (h.weaken (FLe.refl _)).sublist (sk1 (sk1 (sk1 (sk1 (sc1 (sc1 (.refl _)))))))) ?_
       refine HdJ.done (by kernel_rfl) ?_
       refine At.less (L' := (.blk b5 [pv b_a0 0] 167) :: (.rows (α := Int) 3 rs_a0_2) :: (.own s_a0_2 36 1 (encs rs_a0_2)) :: (.own s55 3 1 (encs (l15 ++ ([x18] : List Int)))) :: (.blk b_a0 (enc (TurnR.mk ({ y13 with Want := a0.Want, Told := a0.Told } : Turn) s_a0_2 s14 s_a0_4)) 59) :: L) (sc1 (sk1 (sk1 (sk1 (sk1 (sk1 (.refl _))))))) ?_
       exact At.meetN (s55, l15 ++ ([x18] : List Int), ({ y13 with Want := a0.Want, Told := a0.Told } : Turn), s14) (FLe.refl _) ⟨rfl, rfl, rfl, rfl, rfl, rfl, trivial⟩ rfl h33
      exact trivial
     exact trivial
    refine HdStep.c (fun inv => ?_) ?_
    ·refine Lst.r (Ev.load (i := 5) rfl rfl Try.isAgg36 (v := Sl.v s14) ((TurnR.get_Log (Get.here _)).off (by rfl))) ?_
     refine Lst.nil ?_
     refine At.hd inv (fun w h => (h.weaken (FLe.refl _)).sublist (sk1 (sk1 (sk1 (sk1 (sc1 (sc1 (.refl _)))))))) ?_
     refine HdJ.step [0, 7] (by kernel_rfl) rfl ?_
     refine HdStep.c (fun inv => ?_) ?_
     ·refine Lst.r (Ev.load (i := 1) rfl rfl Try.isAgg167 (v := pv b_a0 0) (Get.here _)) ?_
      refine Lst.nil ?_
      refine At.hd inv (fun w h => (h.weaken (FLe.refl _)).sublist (sk1 (sk1 (sk1 (sk1 (sc1 (sc1 (.refl _)))))))) ?_
      refine HdJ.step [7] (by kernel_rfl) rfl ?_
      refine HdStep.c (fun inv => ?_) ?_
      ·refine Lst.append (i := 4) (α := Int) (xs := l15) (ys := ([x18] : List Int)) rfl rfl (by decide) rfl rfl Try.runUnderlying36 Try.typeInfo3 rfl rfl rfl rfl rfl rfl (Rd.own (i := 0) rfl rfl rfl) rfl (room_some h25) rfl (fun s56 => ?_)
       refine Lst.its (L' := (.own s53 3 1 (encs ([x18] : List Int))) :: (.blk b5 [pv b_a0 0] 167) :: (.rows (α := Int) 3 rs_a0_2) :: (.own s_a0_2 36 1 (encs rs_a0_2)) :: (.own s56 3 1 (encs (l15 ++ ([x18] : List Int)))) :: (.blk b_a0 (enc (TurnR.mk ({ y13 with Want := a0.Want, Told := a0.Told } : Turn) s_a0_2 s14 s_a0_4)) 59) :: L) rfl ?_
       refine Lst.nil ?_
       refine At.hd inv (fun w h => (h.weaken (FLe.refl _)).sublist (sk1 (sk1 (sk1 (sk1 (sc1 (sc1 (.refl _)))))))) ?_
       refine HdJ.done (by kernel_rfl) ?_
       refine At.less (L' := (.blk b5 [pv b_a0 0] 167) :: (.rows (α := Int) 3 rs_a0_2) :: (.own s_a0_2 36 1 (encs rs_a0_2)) :: (.own s56 3 1 (encs (l15 ++ ([x18] : List Int)))) :: (.blk b_a0 (enc (TurnR.mk ({ y13 with Want := a0.Want, Told := a0.Told } : Turn) s_a0_2 s14 s_a0_4)) 59) :: L) (sc1 (sk1 (sk1 (sk1 (sk1 (sk1 (.refl _))))))) ?_
       exact At.meetN (s56, l15 ++ ([x18] : List Int), ({ y13 with Want := a0.Want, Told := a0.Told } : Turn), s14) (FLe.refl _) ⟨rfl, rfl, rfl, rfl, rfl, rfl, trivial⟩ rfl h33
      exact trivial
     refine HdStep.c (fun inv => ?_) ?_
     ·refine Lst.append (i := 4) (α := Int) (xs := l15) (ys := ([x18] : List Int)) rfl rfl (by decide) rfl rfl Try.runUnderlying36 Try.typeInfo3 rfl rfl rfl rfl rfl rfl (Rd.own (i := 0) rfl rfl rfl) rfl (room_some h25) rfl (fun s57 => ?_)
      refine Lst.its (L' := (.own s53 3 1 (encs ([x18] : List Int))) :: (.blk b5 [pv b_a0 0] 167) :: (.rows (α := Int) 3 rs_a0_2) :: (.own s_a0_2 36 1 (encs rs_a0_2)) :: (.own s57 3 1 (encs (l15 ++ ([x18] : List Int)))) :: (.blk b_a0 (enc (TurnR.mk ({ y13 with Want := a0.Want, Told := a0.Told } : Turn) s_a0_2 s14 s_a0_4)) 59) :: L) rfl ?_
      refine Lst.nil ?_
      refine At.hd inv (fun w h => (h.weaken (FLe.refl _)).sublist (sk1 (sk1 (sk1 (sk1 (sc1 (sc1 (.refl _)))))))) ?_
      refine HdJ.keep (fun w => St w0 F16 ((.own s53 3 1 (encs ([x18] : List Int))) :: (.blk b5 [pv b_a0 0] 167) :: (.rows (α := Int) 3 rs_a0_2) :: (.own s_a0_2 36 1 (encs rs_a0_2)) :: (.own s57 3 1 (encs (l15 ++ ([x18] : List Int)))) :: (.blk b_a0 (enc (TurnR.mk ({ y13 with Want := a0.Want, Told := a0.Told } : Turn) s_a0_2 s14 s_a0_4)) 59) :: L) w) (fun w h => (h.weaken (FLe.refl _)).sublist (sk1 (sk1 (sk1 (sk1 (sc1 (sc1 (.refl _)))))))) ?_
      refine HdJ.tk hsel hlt 0 (fun w h => h.sublist (sk1 (sk1 (sk1 (sk1 (sk1 (sk1 (.refl _)))))))) rfl (Ev.load (i := 1) rfl rfl Try.isAgg167 (v := pv b_a0 0) (Get.here _)) ?_
      refine HdJ.done (by kernel_rfl) ?_
      refine At.less (L' := (.blk b5 [pv b_a0 0] 167) :: (.rows (α := Int) 3 rs_a0_2) :: (.own s_a0_2 36 1 (encs rs_a0_2)) :: (.own s57 3 1 (encs (l15 ++ ([x18] : List Int)))) :: (.blk b_a0 (enc (TurnR.mk ({ y13 with Want := a0.Want, Told := a0.Told } : Turn) s_a0_2 s14 s_a0_4)) 59) :: L) (sc1 (sk1 (sk1 (sk1 (sk1 (sk1 (.refl _))))))) ?_
      exact At.meetN (s57, l15 ++ ([x18] : List Int), ({ y13 with Want := a0.Want, Told := a0.Told } : Turn), s14) (FLe.refl _) ⟨rfl, rfl, rfl, rfl, rfl, rfl, trivial⟩ rfl h33
     exact trivial
    exact trivial
   exact trivial
  exact trivial
 rintro F58 ⟨s28, l29, y30, s31⟩ hF59 hy
 subst hy
 refine Lst.as (e' := [(1, pv b5 0), (13, Sl.v r10h), (14, iv (x7.length : Int)), (15, iv (i12 : Int)), (25, pv b_a0 0), (32, Sl.v s28)]) (L' := (.blk b5 [pv b_a0 0] 167) :: (.rows (α := Int) 3 rs_a0_2) :: (.own s_a0_2 36 1 (encs rs_a0_2)) :: (.own s28 3 1 (encs l29)) :: (.blk b_a0 (enc (TurnR.mk ({ y30 with Want := a0.Want, Told := a0.Told } : Turn) s_a0_2 s31 s_a0_4)) 59) :: L) ⟨rfl, rfl, rfl, rfl, rfl, rfl, trivial⟩ rfl ?_
 refine Lst.r (Ev.nilCheck rfl) ?_
 refine Lst.r (Ev.fieldAddr (off' := 3) rfl Try.runUnderlying59 rfl Try.sizeOf36 rfl rfl) ?_
 refine Lst.store (i := 4) rfl rfl rfl rfl rfl Try.sizeOf36 (vs := [Sl.v s28]) rfl rfl rfl (cs' := enc (TurnR.mk ({ y30 with Want := a0.Want, Log := l29, Told := a0.Told } : Turn) s_a0_2 s28 s_a0_4)) ((TurnR.put_Log (Put.here (vs := [Sl.v s28]) rfl)).off (by rfl)) (L' := (.blk b5 [pv b_a0 0] 167) :: (.rows (α := Int) 3 rs_a0_2) :: (.own s_a0_2 36 1 (encs rs_a0_2)) :: (.own s28 3 1 (encs l29)) :: (.blk b_a0 (enc (TurnR.mk ({ y30 with Want := a0.Want, Log := l29, Told := a0.Told } : Turn) s_a0_2 s28 s_a0_4)) 59) :: L) rfl ?_
 refine Lst.nil ?_
 refine At.in_normal ?_
 refine At.then ?_
 refine Cd.region ?_
 refine Lst.r (Ev.incr (by omega) rfl rfl) ?_
 refine Lst.r (Ev.move rfl) ?_
 refine Lst.nil ?_
 exact At.meet (i12 + 1, k12, ({ y30 with Want := a0.Want, Log := l29, Told := a0.Told } : Turn), s28, l29) (FLe.trans hF17 hF59) ⟨rfl, rfl, rfl, rfl, trivial⟩ rfl ⟨⟨hgo12 _ (some_inj H).symm, by omega⟩, Nat.lt_succ_self _⟩
end Go.Proofs.Ytobikknjaomalaa
