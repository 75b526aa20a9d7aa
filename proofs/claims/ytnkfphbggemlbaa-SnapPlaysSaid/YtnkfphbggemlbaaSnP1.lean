/-
  The functions compute their specs; printed by a program.
-/
import Derived.Test.YtnkfphbggemlbaaSnSp
import Derived.Test.YtnkfphbggemlbaaGoL
import Derived.Test.YtnkfphbggemlbaaGoK
import Derived.Test.YtnkfphbggemlbaaGoI
import Derived.Test.YtnkfphbggemlbaaGoU
import Derived.Test.YtnkfphbggemlbaaGoM
import Derived.Test.YtnkfphbggemlbaaGoAA
import Derived.Test.YtnkfphbggemlbaaProg
namespace Go.Proofs.Ytnkfphbggemlbaa
open Go.RowKit Enc
set_option linter.unusedVariables false
set_option linter.unusedSimpArgs false
structure PictureR where
  v : Picture
  h0 : Sl
  h1 : Sl
  h3 : Sl
instance : Enc PictureR := ⟨fun p => enc p.h0 ++ (enc p.h1 ++ (enc p.v.Whole ++ (enc p.h3 ++ (enc p.v.Under)))), 5, fun p => by simp only [List.length_append, Enc.len]; rfl, fun p => by simp only [List.all_append, Enc.one, Bool.and_self]⟩
theorem PictureR.get_Have {p : PictureR} {k : Nat} {ch : List Value} (h : Get (enc p.h0) k ch) : Get (enc p) (0 + k) ch := Get.off (Get.left h) (by omega)
theorem PictureR.put_Have {p : PictureR} {k : Nat} {vs : List Value} {y : Sl} {l : List Int} (h : Put (enc p.h0) k vs (enc y)) : Put (enc p) (0 + k) vs (enc ({ p with v := { p.v with Have := l }, h0 := y } : PictureR)) := Put.off (cs' := enc ({ p with v := { p.v with Have := l }, h0 := y } : PictureR)) (Put.left h) (by omega)
theorem PictureR.get_Lanes {p : PictureR} {k : Nat} {ch : List Value} (h : Get (enc p.h1) k ch) : Get (enc p) (1 + k) ch := Get.off (Get.right (m := 1) (Enc.len _) (Get.left h)) (by omega)
theorem PictureR.put_Lanes {p : PictureR} {k : Nat} {vs : List Value} {y : Sl} {l : List (List Int)} (h : Put (enc p.h1) k vs (enc y)) : Put (enc p) (1 + k) vs (enc ({ p with v := { p.v with Lanes := l }, h1 := y } : PictureR)) := Put.off (cs' := enc ({ p with v := { p.v with Lanes := l }, h1 := y } : PictureR)) (Put.right (m := 1) (Enc.len _) (Put.left h)) (by omega)
theorem PictureR.get_Whole {p : PictureR} {k : Nat} {ch : List Value} (h : Get (enc p.v.Whole) k ch) : Get (enc p) (2 + k) ch := Get.off (Get.right (m := 1) (Enc.len _) (Get.right (m := 1) (Enc.len _) (Get.left h))) (by omega)
theorem PictureR.put_Whole {p : PictureR} {k : Nat} {vs : List Value} {y : Bool} (h : Put (enc p.v.Whole) k vs (enc y)) : Put (enc p) (2 + k) vs (enc ({ p with v := { p.v with Whole := y } } : PictureR)) := Put.off (cs' := enc ({ p with v := { p.v with Whole := y } } : PictureR)) (Put.right (m := 1) (Enc.len _) (Put.right (m := 1) (Enc.len _) (Put.left h))) (by omega)
theorem PictureR.get_Now {p : PictureR} {k : Nat} {ch : List Value} (h : Get (enc p.h3) k ch) : Get (enc p) (3 + k) ch := Get.off (Get.right (m := 1) (Enc.len _) (Get.right (m := 1) (Enc.len _) (Get.right (m := 1) (Enc.len _) (Get.left h)))) (by omega)
theorem PictureR.put_Now {p : PictureR} {k : Nat} {vs : List Value} {y : Sl} {l : List Int} (h : Put (enc p.h3) k vs (enc y)) : Put (enc p) (3 + k) vs (enc ({ p with v := { p.v with Now := l }, h3 := y } : PictureR)) := Put.off (cs' := enc ({ p with v := { p.v with Now := l }, h3 := y } : PictureR)) (Put.right (m := 1) (Enc.len _) (Put.right (m := 1) (Enc.len _) (Put.right (m := 1) (Enc.len _) (Put.left h)))) (by omega)
theorem PictureR.get_Under {p : PictureR} {k : Nat} {ch : List Value} (h : Get (enc p.v.Under) k ch) : Get (enc p) (4 + k) ch := Get.off (Get.right (m := 1) (Enc.len _) (Get.right (m := 1) (Enc.len _) (Get.right (m := 1) (Enc.len _) (Get.right (m := 1) (Enc.len _) h)))) (by omega)
theorem PictureR.put_Under {p : PictureR} {k : Nat} {vs : List Value} {y : Int} (h : Put (enc p.v.Under) k vs (enc y)) : Put (enc p) (4 + k) vs (enc ({ p with v := { p.v with Under := y } } : PictureR)) := Put.off (cs' := enc ({ p with v := { p.v with Under := y } } : PictureR)) (Put.right (m := 1) (Enc.len _) (Put.right (m := 1) (Enc.len _) (Put.right (m := 1) (Enc.len _) (Put.right (m := 1) (Enc.len _) h)))) (by omega)
def PictureR.rel (w0 : World) (F : Frz) (L : List Item) (x : PictureR) : Prop := Rd w0 F L x.h0 x.v.Have ∧ (∃ rs : List (LR Int), rs.map LR.v = x.v.Lanes ∧ Rd w0 F L x.h1 rs ∧ All LR.rel w0 F L rs) ∧ Rd w0 F L x.h3 x.v.Now
theorem PictureR.mono {w0 : World} {F F' : Frz} {L L' : List Item} {x : PictureR} (h : PictureR.rel w0 F L x) (hF : FLe F F') (hL : L.Sublist L') : PictureR.rel w0 F' L' x :=
  let ⟨h0, h1, h3⟩ := h
  ⟨h0.mono hF hL, (let ⟨rs, a, b, c⟩ := h1; ⟨rs, a, b.mono hF hL, All.monoLR c hF hL⟩), h3.mono hF hL⟩
theorem All.monoPicture {w0 : World} {F F' : Frz} {L L' : List Item} {rs : List PictureR} (h : All PictureR.rel w0 F L rs) (hF : FLe F F') (hL : L.Sublist L') : All PictureR.rel w0 F' L' rs := fun x hx => PictureR.mono (h x hx) hF hL
structure LaneR where
  v : Lane
  h0 : Sl
instance : Enc LaneR := ⟨fun p => enc p.h0 ++ (enc p.v.closed ++ (enc p.v.total)), 3, fun p => by simp only [List.length_append, Enc.len]; rfl, fun p => by simp only [List.all_append, Enc.one, Bool.and_self]⟩
theorem LaneR.get_words {p : LaneR} {k : Nat} {ch : List Value} (h : Get (enc p.h0) k ch) : Get (enc p) (0 + k) ch := Get.off (Get.left h) (by omega)
theorem LaneR.put_words {p : LaneR} {k : Nat} {vs : List Value} {y : Sl} {l : List Int} (h : Put (enc p.h0) k vs (enc y)) : Put (enc p) (0 + k) vs (enc ({ p with v := { p.v with words := l }, h0 := y } : LaneR)) := Put.off (cs' := enc ({ p with v := { p.v with words := l }, h0 := y } : LaneR)) (Put.left h) (by omega)
theorem LaneR.get_closed {p : LaneR} {k : Nat} {ch : List Value} (h : Get (enc p.v.closed) k ch) : Get (enc p) (1 + k) ch := Get.off (Get.right (m := 1) (Enc.len _) (Get.left h)) (by omega)
theorem LaneR.put_closed {p : LaneR} {k : Nat} {vs : List Value} {y : Bool} (h : Put (enc p.v.closed) k vs (enc y)) : Put (enc p) (1 + k) vs (enc ({ p with v := { p.v with closed := y } } : LaneR)) := Put.off (cs' := enc ({ p with v := { p.v with closed := y } } : LaneR)) (Put.right (m := 1) (Enc.len _) (Put.left h)) (by omega)
theorem LaneR.get_total {p : LaneR} {k : Nat} {ch : List Value} (h : Get (enc p.v.total) k ch) : Get (enc p) (2 + k) ch := Get.off (Get.right (m := 1) (Enc.len _) (Get.right (m := 1) (Enc.len _) h)) (by omega)
theorem LaneR.put_total {p : LaneR} {k : Nat} {vs : List Value} {y : Int} (h : Put (enc p.v.total) k vs (enc y)) : Put (enc p) (2 + k) vs (enc ({ p with v := { p.v with total := y } } : LaneR)) := Put.off (cs' := enc ({ p with v := { p.v with total := y } } : LaneR)) (Put.right (m := 1) (Enc.len _) (Put.right (m := 1) (Enc.len _) h)) (by omega)
def LaneR.rel (w0 : World) (F : Frz) (L : List Item) (x : LaneR) : Prop := Rd w0 F L x.h0 x.v.words
theorem LaneR.mono {w0 : World} {F F' : Frz} {L L' : List Item} {x : LaneR} (h : LaneR.rel w0 F L x) (hF : FLe F F') (hL : L.Sublist L') : LaneR.rel w0 F' L' x :=
  let h0 := h
  h0.mono hF hL
def LaneR.row (x : LaneR) : LR Int := ⟨x.v.words, x.h0⟩
theorem LaneR.rowAll {w0 : World} {F : Frz} {L : List Item} {rs : List LaneR} (h : All LR.rel w0 F L (List.map LaneR.row rs)) : All LaneR.rel w0 F L rs := fun x hx => h (LaneR.row x) (List.mem_map_of_mem hx)
theorem All.monoLane {w0 : World} {F F' : Frz} {L L' : List Item} {rs : List LaneR} (h : All LaneR.rel w0 F L rs) (hF : FLe F F') (hL : L.Sublist L') : All LaneR.rel w0 F' L' rs := fun x hx => LaneR.mono (h x hx) hF hL
structure GameR where
  v : Game
  h0 : Sl
  h1 : Sl
  h2 : Sl
  h3 : Sl
instance : Enc GameR := ⟨fun p => enc p.h0 ++ (enc p.h1 ++ (enc p.h2 ++ (enc p.h3))), 4, fun p => by simp only [List.length_append, Enc.len]; rfl, fun p => by simp only [List.all_append, Enc.one, Bool.and_self]⟩
theorem GameR.get_now {p : GameR} {k : Nat} {ch : List Value} (h : Get (enc p.h0) k ch) : Get (enc p) (0 + k) ch := Get.off (Get.left h) (by omega)
theorem GameR.put_now {p : GameR} {k : Nat} {vs : List Value} {y : Sl} {l : List Int} (h : Put (enc p.h0) k vs (enc y)) : Put (enc p) (0 + k) vs (enc ({ p with v := { p.v with now := l }, h0 := y } : GameR)) := Put.off (cs' := enc ({ p with v := { p.v with now := l }, h0 := y } : GameR)) (Put.left h) (by omega)
theorem GameR.get_have_ {p : GameR} {k : Nat} {ch : List Value} (h : Get (enc p.h1) k ch) : Get (enc p) (1 + k) ch := Get.off (Get.right (m := 1) (Enc.len _) (Get.left h)) (by omega)
theorem GameR.put_have_ {p : GameR} {k : Nat} {vs : List Value} {y : Sl} {l : List Int} (h : Put (enc p.h1) k vs (enc y)) : Put (enc p) (1 + k) vs (enc ({ p with v := { p.v with have_ := l }, h1 := y } : GameR)) := Put.off (cs' := enc ({ p with v := { p.v with have_ := l }, h1 := y } : GameR)) (Put.right (m := 1) (Enc.len _) (Put.left h)) (by omega)
theorem GameR.get_recorded {p : GameR} {k : Nat} {ch : List Value} (h : Get (enc p.h2) k ch) : Get (enc p) (2 + k) ch := Get.off (Get.right (m := 1) (Enc.len _) (Get.right (m := 1) (Enc.len _) (Get.left h))) (by omega)
theorem GameR.put_recorded {p : GameR} {k : Nat} {vs : List Value} {y : Sl} {l : List Bool} (h : Put (enc p.h2) k vs (enc y)) : Put (enc p) (2 + k) vs (enc ({ p with v := { p.v with recorded := l }, h2 := y } : GameR)) := Put.off (cs' := enc ({ p with v := { p.v with recorded := l }, h2 := y } : GameR)) (Put.right (m := 1) (Enc.len _) (Put.right (m := 1) (Enc.len _) (Put.left h))) (by omega)
theorem GameR.get_lanes {p : GameR} {k : Nat} {ch : List Value} (h : Get (enc p.h3) k ch) : Get (enc p) (3 + k) ch := Get.off (Get.right (m := 1) (Enc.len _) (Get.right (m := 1) (Enc.len _) (Get.right (m := 1) (Enc.len _) h))) (by omega)
theorem GameR.put_lanes {p : GameR} {k : Nat} {vs : List Value} {y : Sl} {l : List (List Lane)} (h : Put (enc p.h3) k vs (enc y)) : Put (enc p) (3 + k) vs (enc ({ p with v := { p.v with lanes := l }, h3 := y } : GameR)) := Put.off (cs' := enc ({ p with v := { p.v with lanes := l }, h3 := y } : GameR)) (Put.right (m := 1) (Enc.len _) (Put.right (m := 1) (Enc.len _) (Put.right (m := 1) (Enc.len _) h))) (by omega)
def GameR.rel (w0 : World) (F : Frz) (L : List Item) (x : GameR) : Prop := Rd w0 F L x.h0 x.v.now ∧ Rd w0 F L x.h1 x.v.have_ ∧ Rd w0 F L x.h2 x.v.recorded ∧ True
theorem GameR.mono {w0 : World} {F F' : Frz} {L L' : List Item} {x : GameR} (h : GameR.rel w0 F L x) (hF : FLe F F') (hL : L.Sublist L') : GameR.rel w0 F' L' x :=
  let ⟨h0, h1, h2, h3⟩ := h
  ⟨h0.mono hF hL, h1.mono hF hL, h2.mono hF hL, trivial⟩
theorem All.monoGame {w0 : World} {F F' : Frz} {L L' : List Item} {rs : List GameR} (h : All GameR.rel w0 F L rs) (hF : FLe F F') (hL : L.Sublist L') : All GameR.rel w0 F' L' rs := fun x hx => GameR.mono (h x hx) hF hL
set_option maxRecDepth 20000 in
theorem eq59 (x y : Vector Int 2) : ∀ w, (Op.equal 59 (.agg (enc x).toArray) (.agg (enc y).toArray)).run Try.prog w = .ok (decide (x = y)) w :=
  EqT.top (d := 10000) Try.isAgg59 Try.sizeOf59 rfl rfl (EqT.array (inf := Try.t3) Try.isAgg59 Try.sizeOf59 rfl Try.runUnderlying59 rfl (by kernel_rfl) (EqT.int Try.isAgg3 Try.runUnderlying3)) x y
set_option maxRecDepth 20000 in
theorem partref_MovesErr_sim {a0 : List Int} {a1 : List Move} {s_a0 : Sl} {s_a1 : Sl} {r : Int} (H : partref_MovesErr a0 a1 = some r) (w0 : World) (F : Frz) (M L : List Item) (hM : M.Sublist L) (hs_a0 : Rd w0 F M s_a0 a0) (hs_a1 : Rd w0 F M s_a1 a1) : Ok Try.prog w0 4 [Sl.v s_a0, Sl.v s_a1] F (L) (Is (iv r) (L)) := by
 unfold partref_MovesErr at H
 refine Ok.enter (m := 2) (n := 83) Try.func4 rfl rfl rfl (by decide) ?_
 refine Cd.env (e' := [(0, Sl.v s_a0), (1, Sl.v s_a1)]) rfl ?_
 refine sr0 ?_
 refine Lst.r (Ev.assign rfl) ?_
 refine nsr ?_
 refine mv0 rfl ?_
 refine Lst.r (Ev.lenS (α := Int) (xs := a0) (by decide) rfl rfl Try.runUnderlying22 (hs_a0.mono fl hM)) ?_
 refine Lst.r (Ev.assign rfl) ?_
 refine nt0 ?_
 refine Cd.seq ?_
 refine sr0 ?_
 refine mv0 rfl ?_
 refine Lst.r (Ev.eql rfl rfl) ?_
 refine mv0 rfl ?_
 obtain ⟨o1, H, HKo1⟩ := bind_some H
 refine Lst.join (σ := Bool) 3 (fun y2 => [(0, Sl.v s_a0), (1, Sl.v s_a1), (5, iv (a0.length : Int)), (17, .bool y2)]) (fun y2 => L) (fun _ y2 => y2 = o1) ?_ ?_
 ·rcases Bool.eq_false_or_eq_true ((a0.length : Int) == (0 : Int)) with hb3 | hb3
  ·replace H := ite_t hb3 H
   refine Lst.skip rfl rfl rfl hb3 rfl (by decide) ?_
   refine Lst.skip rfl rfl rfl hb3 rfl (by decide) ?_
   refine Lst.r (Ev.pickT rfl hb3 rfl) ?_
   refine Lst.nil ?_
   exact At.meet true fl ⟨rfl, rfl, rfl, rfl, trivial⟩ rfl (some_inj H)
  replace H := ite_f hb3 H
  refine Lst.rG hb3 (Ev.move rfl) ?_
  refine Lst.rG hb3 (Ev.gtr rfl rfl) ?_
  refine Lst.r (Ev.pickF rfl hb3 rfl) ?_
  refine Lst.nil ?_
  exact At.meet (decide ((a0.length : Int) > (6 : Int))) fl ⟨rfl, rfl, rfl, rfl, trivial⟩ rfl (some_inj H)
 rintro F4 y2 hF5 hy
 subst hy
 refine Lst.as (e' := [(0, Sl.v s_a0), (1, Sl.v s_a1), (5, iv (a0.length : Int)), (17, .bool y2)]) (L' := L) ⟨rfl, rfl, rfl, rfl, trivial⟩ rfl ?_
 replace H := HKo1
 refine nt0 ?_
 rcases Bool.eq_false_or_eq_true y2 with hb6 | hb6
 ·replace H := ite_t hb6 H
  refine Cd.condT rfl hb6 ?_
  refine sr0 ?_
  refine Lst.r (Ev.assign rfl) ?_
  refine nt0 ?_
  obtain rfl := some_inj H
  refine Cd.ret ?_
  refine At.then_ret ?_
  exact At.ret1 rfl (Res.tmp rfl) hF5 (.refl _) ⟨rfl, rfl⟩
 replace H := ite_f hb6 H
 refine Cd.condF rfl hb6 ?_
 refine Cd.skip ?_
 refine At.then ?_
 refine Cd.seq ?_
 refine sr0 ?_
 refine mv0 rfl ?_
 refine Lst.r (Ev.lenS (α := Move) (xs := a1) (by decide) rfl rfl Try.runUnderlying23 (hs_a1.mono hF5 hM)) ?_
 refine Lst.r (Ev.gtr rfl rfl) ?_
 refine nt0 ?_
 rcases Bool.eq_false_or_eq_true (decide ((a1.length : Int) > (200 : Int))) with hb7 | hb7
 ·replace H := ite_t hb7 H
  refine Cd.condT rfl hb7 ?_
  refine sr0 ?_
  refine Lst.r (Ev.assign rfl) ?_
  refine nt0 ?_
  obtain rfl := some_inj H
  refine Cd.ret ?_
  refine At.then_ret ?_
  exact At.ret1 rfl (Res.tmp rfl) hF5 (.refl _) ⟨rfl, rfl⟩
 replace H := ite_f hb7 H
 refine Cd.condF rfl hb7 ?_
 refine Cd.skip ?_
 refine At.then ?_
 refine Cd.seq ?_
 refine sr0 ?_
 refine mv0 rfl ?_
 refine Lst.r (Ev.lenS (α := Int) (xs := a0) (by decide) rfl rfl Try.runUnderlying22 (hs_a0.mono hF5 hM)) ?_
 refine mv0 rfl ?_
 refine nt0 ?_
 refine Cd.block ?_
 refine Cd.bound (Rd.le (α := Int) (xs := a0) (by decide) (hs_a0.mono hF5 hM)) (fun hN56 => ?_)
 obtain ⟨ol8, H, HKl8⟩ := andThen_some H
 refine Cd.loop (σ := Nat × Nat × Unit) (fun (i8, k8, _u) => [(1, Sl.v s_a1), (5, iv (a0.length : Int)), (21, Sl.v s_a0), (22, iv (a0.length : Int)), (23, iv (i8 : Int))]) (fun (i8, k8, _u) => L) (fun _ => (fun (i8, k8, _u) => rangeM (partref_MovesErr_B0 a0) k8 i8 () = some ol8 ∧ i8 + k8 = a0.length)) (fun (i8, k8, _u) => k8) (0, a0.length, ()) ⟨rfl, rfl, rfl, rfl, rfl, trivial⟩ rfl ⟨H, by omega⟩ ?_
 rintro F9 ⟨i8, k8, _u⟩ hF10 ⟨H, hik8⟩
 refine Cd.as (e' := [(1, Sl.v s_a1), (5, iv (a0.length : Int)), (21, Sl.v s_a0), (22, iv (a0.length : Int)), (23, iv (i8 : Int))]) (L' := L) ⟨rfl, rfl, rfl, rfl, rfl, trivial⟩ rfl ?_
 rcases k8 with _ | k8
 ·have hc8 : decide ((i8 : Int) < (a0.length : Int)) = false := decide_eq_false (by omega)
  replace H := rangeM_end H
  refine sr0 ?_
  refine Lst.r (Ev.lss rfl rfl) ?_
  refine nt0 ?_
  refine Cd.seq ?_
  refine Cd.condF rfl hc8 ?_
  refine Cd.exit ?_
  refine At.then_exit ?_
  refine At.then_exit ?_
  refine At.in_exit ?_
  subst H
  replace H := HKl8
  refine At.then ?_
  refine Cd.seq ?_
  refine sr0 ?_
  refine mv0 rfl ?_
  refine Lst.r (Ev.lenS (α := Move) (xs := a1) (by decide) rfl rfl Try.runUnderlying23 (hs_a1.mono (FLe.trans hF5 hF10) hM)) ?_
  refine mv0 rfl ?_
  refine nt0 ?_
  refine Cd.block ?_
  refine Cd.bound (Rd.le (α := Move) (xs := a1) (by decide) (hs_a1.mono (FLe.trans hF5 hF10) hM)) (fun hN55 => ?_)
  obtain ⟨ol20, H, HKl20⟩ := andThen_some H
  refine Cd.loop (σ := Nat × Nat × Unit) (fun (i20, k20, _u) => [(5, iv (a0.length : Int)), (34, Sl.v s_a1), (35, iv (a1.length : Int)), (36, iv (i20 : Int))]) (fun (i20, k20, _u) => L) (fun _ => (fun (i20, k20, _u) => rangeM (partref_MovesErr_B2 a0 a1) k20 i20 () = some ol20 ∧ i20 + k20 = a1.length)) (fun (i20, k20, _u) => k20) (0, a1.length, ()) ⟨rfl, rfl, rfl, rfl, trivial⟩ rfl ⟨H, by omega⟩ ?_
  rintro F21 ⟨i20, k20, _u⟩ hF22 ⟨H, hik20⟩
  refine Cd.as (e' := [(5, iv (a0.length : Int)), (34, Sl.v s_a1), (35, iv (a1.length : Int)), (36, iv (i20 : Int))]) (L' := L) ⟨rfl, rfl, rfl, rfl, trivial⟩ rfl ?_
  rcases k20 with _ | k20
  ·have hc20 : decide ((i20 : Int) < (a1.length : Int)) = false := decide_eq_false (by omega)
   replace H := rangeM_end H
   refine sr0 ?_
   refine Lst.r (Ev.lss rfl rfl) ?_
   refine nt0 ?_
   refine Cd.seq ?_
   refine Cd.condF rfl hc20 ?_
   refine Cd.exit ?_
   refine At.then_exit ?_
   refine At.then_exit ?_
   refine At.in_exit ?_
   subst H
   replace H := HKl20
   refine At.then ?_
   refine sr0 ?_
   refine Lst.r (Ev.assign rfl) ?_
   refine nt0 ?_
   obtain rfl := some_inj H
   refine Cd.ret ?_
   exact At.ret1 rfl (Res.tmp rfl) (FLe.trans (FLe.trans hF5 hF10) hF22) (.refl _) ⟨rfl, rfl⟩
  have hc20 : decide ((i20 : Int) < (a1.length : Int)) = true := decide_eq_true (by omega)
  obtain ⟨c20, H, hgo20, hbrk20, hret20⟩ := rangeM_go H
  unfold partref_MovesErr_B2 at H
  try dsimp only at H
  refine sr0 ?_
  refine Lst.r (Ev.lss rfl rfl) ?_
  refine nt0 ?_
  refine Cd.seq ?_
  refine Cd.condT rfl hc20 ?_
  refine Cd.skip ?_
  refine At.then ?_
  refine Cd.seq ?_
  refine Cd.block ?_
  refine sr0 ?_
  obtain ⟨x23, h24, H⟩ := bind_some H
  have g25 := lat_some h24
  refine Lst.r (Ev.indexS (α := Move) (xs := a1) rfl rfl Try.runUnderlying23 Try.sizeOf35 rfl (by decide) (hs_a1.mono (FLe.trans (FLe.trans hF5 hF10) hF22) hM) g25.1 g25.2.1) ?_
  refine Lst.r (Ev.loadSA (α := Move) rfl (hs_a1.mono (FLe.trans (FLe.trans hF5 hF10) hF22) hM) Try.isAgg35 Try.sizeOf35 (ch := enc x23) (Enc.len _) (by decide) ((Get.elemN (s := 4) (x := x23) rfl g25.2.2 gh0).off (by omega))) ?_
  refine Lst.alloc (cs := enc Move.zero) rfl rfl (by decide) Try.zeroValue35 rfl (fun b26 => ?_)
  refine Lst.store (i := 0) rfl rfl rfl rfl rfl Try.sizeOf35 (vs := enc x23) rfl (Enc.len _) (Enc.one _) (cs' := enc x23) (Put.here ((Enc.len _).trans (Enc.len _).symm)) (L' := (.blk b26 (enc x23) 35) :: L) rfl ?_
  refine nt0 ?_
  refine Cd.seq ?_
  refine sr0 ?_
  refine Lst.r (Ev.fieldAddr (off' := 0) rfl Try.runUnderlying35 rfl Try.sizeOf3 rfl rfl) ?_
  refine Lst.r (Ev.load (i := 0) rfl rfl Try.isAgg3 (v := iv x23.Kind) ((Move.get_Kind gh0).off (by rfl))) ?_
  refine Lst.r (Ev.lss rfl rfl) ?_
  refine mv0 rfl ?_
  obtain ⟨o28, H, HKo28⟩ := bind_some H
  refine Lst.join (σ := Bool) 4 (fun y29 => [(5, iv (a0.length : Int)), (9, pv b26 0), (34, Sl.v s_a1), (35, iv (a1.length : Int)), (36, iv (i20 : Int)), (47, .bool y29)]) (fun y29 => (.blk b26 (enc x23) 35) :: L) (fun _ y29 => y29 = o28) ?_ ?_
  ·rcases Bool.eq_false_or_eq_true (decide (x23.Kind < (1 : Int))) with hb30 | hb30
   ·replace H := ite_t hb30 H
    refine Lst.skip rfl rfl rfl hb30 rfl (by decide) ?_
    refine Lst.skip rfl rfl rfl hb30 rfl (by decide) ?_
    refine Lst.skip rfl rfl rfl hb30 rfl (by decide) ?_
    refine Lst.r (Ev.pickT rfl hb30 rfl) ?_
    refine Lst.nil ?_
    exact At.meet true fl ⟨rfl, rfl, rfl, rfl, rfl, rfl, trivial⟩ rfl (some_inj H)
   replace H := ite_f hb30 H
   refine Lst.rG hb30 (Ev.fieldAddr (off' := 0) rfl Try.runUnderlying35 rfl Try.sizeOf3 rfl rfl) ?_
   refine Lst.rG hb30 (Ev.load (i := 0) rfl rfl Try.isAgg3 (v := iv x23.Kind) ((Move.get_Kind gh0).off (by rfl))) ?_
   refine Lst.rG hb30 (Ev.gtr rfl rfl) ?_
   refine Lst.r (Ev.pickF rfl hb30 rfl) ?_
   refine Lst.nil ?_
   exact At.meet (decide (x23.Kind > (3 : Int))) fl ⟨rfl, rfl, rfl, rfl, rfl, rfl, trivial⟩ rfl (some_inj H)
  rintro F31 y29 hF32 hy
  subst hy
  refine Lst.as (e' := [(5, iv (a0.length : Int)), (9, pv b26 0), (34, Sl.v s_a1), (35, iv (a1.length : Int)), (36, iv (i20 : Int)), (47, .bool y29)]) (L' := (.blk b26 (enc x23) 35) :: L) ⟨rfl, rfl, rfl, rfl, rfl, rfl, trivial⟩ rfl ?_
  replace H := HKo28
  refine mv0 rfl ?_
  obtain ⟨o33, H, HKo33⟩ := bind_some H
  refine Lst.join (σ := Bool) 9 (fun y34 => [(5, iv (a0.length : Int)), (9, pv b26 0), (34, Sl.v s_a1), (35, iv (a1.length : Int)), (36, iv (i20 : Int)), (57, .bool y34)]) (fun y34 => (.blk b26 (enc x23) 35) :: L) (fun _ y34 => y34 = o33) ?_ ?_
  ·rcases Bool.eq_false_or_eq_true y29 with hb35 | hb35
   ·replace H := ite_t hb35 H
    refine Lst.skip rfl rfl rfl hb35 rfl (by decide) ?_
    refine Lst.skip rfl rfl rfl hb35 rfl (by decide) ?_
    refine Lst.skip rfl rfl rfl hb35 rfl (by decide) ?_
    refine Lst.skip rfl rfl rfl hb35 rfl (by decide) ?_
    refine Lst.skip rfl rfl rfl hb35 rfl (by decide) ?_
    refine Lst.skip rfl rfl rfl hb35 rfl (by decide) ?_
    refine Lst.skip rfl rfl rfl hb35 rfl (by decide) ?_
    refine Lst.skip rfl rfl rfl hb35 rfl (by decide) ?_
    refine Lst.r (Ev.pickT rfl hb35 rfl) ?_
    refine Lst.nil ?_
    exact At.meet true fl ⟨rfl, rfl, rfl, rfl, rfl, rfl, trivial⟩ rfl (some_inj H)
   replace H := ite_f hb35 H
   refine Lst.rG hb35 (Ev.fieldAddr (off' := 1) rfl Try.runUnderlying35 rfl Try.sizeOf3 rfl rfl) ?_
   refine Lst.rG hb35 (Ev.load (i := 0) rfl rfl Try.isAgg3 (v := iv x23.From) ((Move.get_From gh0).off (by rfl))) ?_
   refine Lst.rG hb35 (Ev.fieldAddr (off' := 2) rfl Try.runUnderlying35 rfl Try.sizeOf3 rfl rfl) ?_
   refine Lst.rG hb35 (Ev.load (i := 0) rfl rfl Try.isAgg3 (v := iv x23.To) ((Move.get_To gh0).off (by rfl))) ?_
   refine Lst.rG hb35 (Ev.fieldAddr (off' := 3) rfl Try.runUnderlying35 rfl Try.sizeOf3 rfl rfl) ?_
   refine Lst.rG hb35 (Ev.load (i := 0) rfl rfl Try.isAgg3 (v := iv x23.N) ((Move.get_N gh0).off (by rfl))) ?_
   refine Lst.rG hb35 (Ev.min3 rfl rfl rfl) ?_
   refine Lst.rG hb35 (Ev.lss rfl rfl) ?_
   refine Lst.r (Ev.pickF rfl hb35 rfl) ?_
   refine Lst.nil ?_
   exact At.meet (decide ((min (min x23.From x23.To) x23.N) < (0 : Int))) fl ⟨rfl, rfl, rfl, rfl, rfl, rfl, trivial⟩ rfl (some_inj H)
  rintro F36 y34 hF37 hy
  subst hy
  refine Lst.as (e' := [(5, iv (a0.length : Int)), (9, pv b26 0), (34, Sl.v s_a1), (35, iv (a1.length : Int)), (36, iv (i20 : Int)), (57, .bool y34)]) (L' := (.blk b26 (enc x23) 35) :: L) ⟨rfl, rfl, rfl, rfl, rfl, rfl, trivial⟩ rfl ?_
  replace H := HKo33
  refine mv0 rfl ?_
  obtain ⟨o38, H, HKo38⟩ := bind_some H
  refine Lst.join (σ := Bool) 8 (fun y39 => [(5, iv (a0.length : Int)), (9, pv b26 0), (34, Sl.v s_a1), (35, iv (a1.length : Int)), (36, iv (i20 : Int)), (66, .bool y39)]) (fun y39 => (.blk b26 (enc x23) 35) :: L) (fun _ y39 => y39 = o38) ?_ ?_
  ·rcases Bool.eq_false_or_eq_true y34 with hb40 | hb40
   ·replace H := ite_t hb40 H
    refine Lst.skip rfl rfl rfl hb40 rfl (by decide) ?_
    refine Lst.skip rfl rfl rfl hb40 rfl (by decide) ?_
    refine Lst.skip rfl rfl rfl hb40 rfl (by decide) ?_
    refine Lst.skip rfl rfl rfl hb40 rfl (by decide) ?_
    refine Lst.skip rfl rfl rfl hb40 rfl (by decide) ?_
    refine Lst.skip rfl rfl rfl hb40 rfl (by decide) ?_
    refine Lst.skip rfl rfl rfl hb40 rfl (by decide) ?_
    refine Lst.r (Ev.pickT rfl hb40 rfl) ?_
    refine Lst.nil ?_
    exact At.meet true fl ⟨rfl, rfl, rfl, rfl, rfl, rfl, trivial⟩ rfl (some_inj H)
   replace H := ite_f hb40 H
   refine Lst.rG hb40 (Ev.fieldAddr (off' := 1) rfl Try.runUnderlying35 rfl Try.sizeOf3 rfl rfl) ?_
   refine Lst.rG hb40 (Ev.load (i := 0) rfl rfl Try.isAgg3 (v := iv x23.From) ((Move.get_From gh0).off (by rfl))) ?_
   refine Lst.rG hb40 (Ev.fieldAddr (off' := 2) rfl Try.runUnderlying35 rfl Try.sizeOf3 rfl rfl) ?_
   refine Lst.rG hb40 (Ev.load (i := 0) rfl rfl Try.isAgg3 (v := iv x23.To) ((Move.get_To gh0).off (by rfl))) ?_
   refine Lst.rG hb40 (Ev.max2 rfl rfl) ?_
   refine Lst.rG hb40 (Ev.move rfl) ?_
   refine Lst.rG hb40 (Ev.geq rfl rfl) ?_
   refine Lst.r (Ev.pickF rfl hb40 rfl) ?_
   refine Lst.nil ?_
   exact At.meet (decide ((max x23.From x23.To) ≥ (a0.length : Int))) fl ⟨rfl, rfl, rfl, rfl, rfl, rfl, trivial⟩ rfl (some_inj H)
  rintro F41 y39 hF42 hy
  subst hy
  refine Lst.as (e' := [(5, iv (a0.length : Int)), (9, pv b26 0), (34, Sl.v s_a1), (35, iv (a1.length : Int)), (36, iv (i20 : Int)), (66, .bool y39)]) (L' := (.blk b26 (enc x23) 35) :: L) ⟨rfl, rfl, rfl, rfl, rfl, rfl, trivial⟩ rfl ?_
  replace H := HKo38
  refine mv0 rfl ?_
  obtain ⟨o43, H, HKo43⟩ := bind_some H
  refine Lst.join (σ := Bool) 4 (fun y44 => [(5, iv (a0.length : Int)), (9, pv b26 0), (34, Sl.v s_a1), (35, iv (a1.length : Int)), (36, iv (i20 : Int)), (71, .bool y44)]) (fun y44 => (.blk b26 (enc x23) 35) :: L) (fun _ y44 => y44 = o43) ?_ ?_
  ·rcases Bool.eq_false_or_eq_true y39 with hb45 | hb45
   ·replace H := ite_t hb45 H
    refine Lst.skip rfl rfl rfl hb45 rfl (by decide) ?_
    refine Lst.skip rfl rfl rfl hb45 rfl (by decide) ?_
    refine Lst.skip rfl rfl rfl hb45 rfl (by decide) ?_
    refine Lst.r (Ev.pickT rfl hb45 rfl) ?_
    refine Lst.nil ?_
    exact At.meet true fl ⟨rfl, rfl, rfl, rfl, rfl, rfl, trivial⟩ rfl (some_inj H)
   replace H := ite_f hb45 H
   refine Lst.rG hb45 (Ev.fieldAddr (off' := 3) rfl Try.runUnderlying35 rfl Try.sizeOf3 rfl rfl) ?_
   refine Lst.rG hb45 (Ev.load (i := 0) rfl rfl Try.isAgg3 (v := iv x23.N) ((Move.get_N gh0).off (by rfl))) ?_
   refine Lst.rG hb45 (Ev.gtr rfl rfl) ?_
   refine Lst.r (Ev.pickF rfl hb45 rfl) ?_
   refine Lst.nil ?_
   exact At.meet (decide (x23.N > (1000000 : Int))) fl ⟨rfl, rfl, rfl, rfl, rfl, rfl, trivial⟩ rfl (some_inj H)
  rintro F46 y44 hF47 hy
  subst hy
  refine Lst.as (e' := [(5, iv (a0.length : Int)), (9, pv b26 0), (34, Sl.v s_a1), (35, iv (a1.length : Int)), (36, iv (i20 : Int)), (71, .bool y44)]) (L' := (.blk b26 (enc x23) 35) :: L) ⟨rfl, rfl, rfl, rfl, rfl, rfl, trivial⟩ rfl ?_
  replace H := HKo43
  refine nt0 ?_
  rcases Bool.eq_false_or_eq_true y44 with hb48 | hb48
  ·replace H := ite_t hb48 H
   refine Cd.condT rfl hb48 ?_
   refine sr0 ?_
   refine Lst.r (Ev.assign rfl) ?_
   refine nt0 ?_
   have H := hret20 _ (some_inj H).symm
   subst H
   replace H := HKl20
   obtain rfl := some_inj H
   refine Cd.ret ?_
   refine At.then_ret ?_
   refine At.in_ret ?_
   refine At.then_ret ?_
   refine At.then_ret ?_
   refine At.in_ret ?_
   refine At.then_ret ?_
   exact At.ret1 rfl (Res.tmp rfl) (FLe.trans (FLe.trans (FLe.trans (FLe.trans (FLe.trans (FLe.trans hF5 hF10) hF22) hF32) hF37) hF42) hF47) (sc1 (.refl _)) ⟨rfl, rfl⟩
  replace H := ite_f hb48 H
  refine Cd.condF rfl hb48 ?_
  refine Cd.skip ?_
  refine At.then ?_
  refine sr0 ?_
  refine Lst.r (Ev.fieldAddr (off' := 0) rfl Try.runUnderlying35 rfl Try.sizeOf3 rfl rfl) ?_
  refine Lst.r (Ev.load (i := 0) rfl rfl Try.isAgg3 (v := iv x23.Kind) ((Move.get_Kind gh0).off (by rfl))) ?_
  refine Lst.r (Ev.lss rfl rfl) ?_
  refine mv0 rfl ?_
  obtain ⟨o49, H, HKo49⟩ := bind_some H
  refine Lst.join (σ := Bool) 6 (fun y50 => [(5, iv (a0.length : Int)), (34, Sl.v s_a1), (35, iv (a1.length : Int)), (36, iv (i20 : Int)), (81, .bool y50)]) (fun y50 => (.blk b26 (enc x23) 35) :: L) (fun _ y50 => y50 = o49) ?_ ?_
  ·rcases (Bool.eq_false_or_eq_true (decide (x23.Kind < (3 : Int)))).symm with hb51 | hb51
   ·replace H := ite_f hb51 H
    refine Lst.skip rfl rfl rfl hb51 rfl (by decide) ?_
    refine Lst.skip rfl rfl rfl hb51 rfl (by decide) ?_
    refine Lst.skip rfl rfl rfl hb51 rfl (by decide) ?_
    refine Lst.skip rfl rfl rfl hb51 rfl (by decide) ?_
    refine Lst.skip rfl rfl rfl hb51 rfl (by decide) ?_
    refine Lst.r (Ev.pickF rfl hb51 rfl) ?_
    refine Lst.nil ?_
    exact At.meet false fl ⟨rfl, rfl, rfl, rfl, rfl, trivial⟩ rfl (some_inj H)
   replace H := ite_t hb51 H
   refine Lst.rG hb51 (Ev.fieldAddr (off' := 1) rfl Try.runUnderlying35 rfl Try.sizeOf3 rfl rfl) ?_
   refine Lst.rG hb51 (Ev.load (i := 0) rfl rfl Try.isAgg3 (v := iv x23.From) ((Move.get_From gh0).off (by rfl))) ?_
   refine Lst.rG hb51 (Ev.fieldAddr (off' := 2) rfl Try.runUnderlying35 rfl Try.sizeOf3 rfl rfl) ?_
   refine Lst.rG hb51 (Ev.load (i := 0) rfl rfl Try.isAgg3 (v := iv x23.To) ((Move.get_To gh0).off (by rfl))) ?_
   refine Lst.rG hb51 (Ev.eql rfl rfl) ?_
   refine Lst.r (Ev.pickT rfl hb51 rfl) ?_
   refine Lst.nil ?_
   exact At.meet (x23.From == x23.To) fl ⟨rfl, rfl, rfl, rfl, rfl, trivial⟩ rfl (some_inj H)
  rintro F52 y50 hF53 hy
  subst hy
  refine Lst.as (e' := [(5, iv (a0.length : Int)), (34, Sl.v s_a1), (35, iv (a1.length : Int)), (36, iv (i20 : Int)), (81, .bool y50)]) (L' := (.blk b26 (enc x23) 35) :: L) ⟨rfl, rfl, rfl, rfl, rfl, trivial⟩ rfl ?_
  replace H := HKo49
  refine nt0 ?_
  rcases Bool.eq_false_or_eq_true y50 with hb54 | hb54
  ·replace H := ite_t hb54 H
   refine Cd.condT rfl hb54 ?_
   refine sr0 ?_
   refine Lst.r (Ev.assign rfl) ?_
   refine nt0 ?_
   have H := hret20 _ (some_inj H).symm
   subst H
   replace H := HKl20
   obtain rfl := some_inj H
   refine Cd.ret ?_
   refine At.in_ret ?_
   refine At.then_ret ?_
   refine At.then_ret ?_
   refine At.in_ret ?_
   refine At.then_ret ?_
   exact At.ret1 rfl (Res.tmp rfl) (FLe.trans (FLe.trans (FLe.trans (FLe.trans (FLe.trans (FLe.trans (FLe.trans hF5 hF10) hF22) hF32) hF37) hF42) hF47) hF53) (sc1 (.refl _)) ⟨rfl, rfl⟩
  replace H := ite_f hb54 H
  refine Cd.condF rfl hb54 ?_
  refine Cd.skip ?_
  refine At.in_normal ?_
  refine At.then ?_
  refine Cd.region ?_
  refine Lst.r (Ev.incr (by omega) rfl rfl) ?_
  refine mv0 rfl ?_
  refine Lst.nil ?_
  refine At.less (L' := L) (sc1 (.refl _)) ?_
  exact At.meet (i20 + 1, k20, ()) (FLe.trans (FLe.trans (FLe.trans (FLe.trans (FLe.trans hF22 hF32) hF37) hF42) hF47) hF53) ⟨rfl, rfl, rfl, rfl, trivial⟩ rfl ⟨⟨hgo20 _ (some_inj H).symm, by omega⟩, Nat.lt_succ_self _⟩
 have hc8 : decide ((i8 : Int) < (a0.length : Int)) = true := decide_eq_true (by omega)
 obtain ⟨c8, H, hgo8, hbrk8, hret8⟩ := rangeM_go H
 unfold partref_MovesErr_B0 at H
 try dsimp only at H
 refine sr0 ?_
 refine Lst.r (Ev.lss rfl rfl) ?_
 refine nt0 ?_
 refine Cd.seq ?_
 refine Cd.condT rfl hc8 ?_
 refine Cd.skip ?_
 refine At.then ?_
 refine Cd.seq ?_
 refine Cd.block ?_
 refine sr0 ?_
 obtain ⟨x11, h12, H⟩ := bind_some H
 have g13 := lat_some h12
 refine Lst.r (Ev.indexS (α := Int) (xs := a0) rfl rfl Try.runUnderlying22 Try.sizeOf3 rfl (by decide) (hs_a0.mono (FLe.trans hF5 hF10) hM) g13.1 g13.2.1) ?_
 refine Lst.r (Ev.loadS (α := Int) rfl (hs_a0.mono (FLe.trans hF5 hF10) hM) Try.isAgg3 (v := iv x11) ((Get.elemN (s := 1) (x := x11) rfl g13.2.2 gh0).off (by omega))) ?_
 refine Lst.r (Ev.assign rfl) ?_
 refine nsr ?_
 refine mv0 rfl ?_
 refine Lst.r (Ev.lss rfl rfl) ?_
 refine mv0 rfl ?_
 obtain ⟨o14, H, HKo14⟩ := bind_some H
 refine Lst.join (σ := Bool) 3 (fun y15 => [(1, Sl.v s_a1), (5, iv (a0.length : Int)), (21, Sl.v s_a0), (22, iv (a0.length : Int)), (23, iv (i8 : Int)), (32, .bool y15)]) (fun y15 => L) (fun _ y15 => y15 = o14) ?_ ?_
 ·rcases Bool.eq_false_or_eq_true (decide (x11 < (0 : Int))) with hb16 | hb16
  ·replace H := ite_t hb16 H
   refine Lst.skip rfl rfl rfl hb16 rfl (by decide) ?_
   refine Lst.skip rfl rfl rfl hb16 rfl (by decide) ?_
   refine Lst.r (Ev.pickT rfl hb16 rfl) ?_
   refine Lst.nil ?_
   exact At.meet true fl ⟨rfl, rfl, rfl, rfl, rfl, rfl, trivial⟩ rfl (some_inj H)
  replace H := ite_f hb16 H
  refine Lst.rG hb16 (Ev.move rfl) ?_
  refine Lst.rG hb16 (Ev.gtr rfl rfl) ?_
  refine Lst.r (Ev.pickF rfl hb16 rfl) ?_
  refine Lst.nil ?_
  exact At.meet (decide (x11 > (1000000 : Int))) fl ⟨rfl, rfl, rfl, rfl, rfl, rfl, trivial⟩ rfl (some_inj H)
 rintro F17 y15 hF18 hy
 subst hy
 refine Lst.as (e' := [(1, Sl.v s_a1), (5, iv (a0.length : Int)), (21, Sl.v s_a0), (22, iv (a0.length : Int)), (23, iv (i8 : Int)), (32, .bool y15)]) (L' := L) ⟨rfl, rfl, rfl, rfl, rfl, rfl, trivial⟩ rfl ?_
 replace H := HKo14
 refine nt0 ?_
 rcases Bool.eq_false_or_eq_true y15 with hb19 | hb19
 ·replace H := ite_t hb19 H
  refine Cd.condT rfl hb19 ?_
  refine sr0 ?_
  refine Lst.r (Ev.assign rfl) ?_
  refine nt0 ?_
  have H := hret8 _ (some_inj H).symm
  subst H
  replace H := HKl8
  obtain rfl := some_inj H
  refine Cd.ret ?_
  refine At.in_ret ?_
  refine At.then_ret ?_
  refine At.then_ret ?_
  refine At.in_ret ?_
  refine At.then_ret ?_
  exact At.ret1 rfl (Res.tmp rfl) (FLe.trans (FLe.trans hF5 hF10) hF18) (.refl _) ⟨rfl, rfl⟩
 replace H := ite_f hb19 H
 refine Cd.condF rfl hb19 ?_
 refine Cd.skip ?_
 refine At.in_normal ?_
 refine At.then ?_
 refine Cd.region ?_
 refine Lst.r (Ev.incr (by omega) rfl rfl) ?_
 refine mv0 rfl ?_
 refine Lst.nil ?_
 exact At.meet (i8 + 1, k8, ()) (FLe.trans hF10 hF18) ⟨rfl, rfl, rfl, rfl, rfl, trivial⟩ rfl ⟨⟨hgo8 _ (some_inj H).symm, by omega⟩, Nat.lt_succ_self _⟩
set_option maxRecDepth 20000 in
theorem snap_in_sim {a0 : Int} {a1 : Int} {a2 : Int} {r : Bool} (H : snap_in a0 a1 a2 = some r) (w0 : World) (F : Frz) (M L : List Item) (hM : M.Sublist L) : Ok Try.prog w0 12 [iv a0, iv a1, iv a2] F (L) (Is (.bool r) (L)) := by
 unfold snap_in at H
 refine Ok.enter (m := 3) (n := 15) Try.func12 rfl rfl rfl (by decide) ?_
 refine Cd.env (e' := [(0, iv a0), (1, iv a1), (2, iv a2)]) rfl ?_
 refine sr0 ?_
 refine Lst.r (Ev.assign rfl) ?_
 refine nsr ?_
 refine mv0 rfl ?_
 refine mv0 rfl ?_
 refine Lst.r (Ev.geq rfl rfl) ?_
 refine mv0 rfl ?_
 obtain ⟨o1, H, HKo1⟩ := bind_some H
 refine Lst.join (σ := Bool) 4 (fun y2 => [(14, .bool y2)]) (fun y2 => L) (fun _ y2 => y2 = o1) ?_ ?_
 ·rcases (Bool.eq_false_or_eq_true (decide (a0 ≥ a1))).symm with hb3 | hb3
  ·replace H := ite_f hb3 H
   refine Lst.skip rfl rfl rfl hb3 rfl (by decide) ?_
   refine Lst.skip rfl rfl rfl hb3 rfl (by decide) ?_
   refine Lst.skip rfl rfl rfl hb3 rfl (by decide) ?_
   refine Lst.r (Ev.pickF rfl hb3 rfl) ?_
   refine Lst.nil ?_
   exact At.meet false fl ⟨rfl, trivial⟩ rfl (some_inj H)
  replace H := ite_t hb3 H
  refine Lst.rG hb3 (Ev.move rfl) ?_
  refine Lst.rG hb3 (Ev.move rfl) ?_
  refine Lst.rG hb3 (Ev.leq rfl rfl) ?_
  refine Lst.r (Ev.pickT rfl hb3 rfl) ?_
  refine Lst.nil ?_
  exact At.meet (decide (a0 ≤ a2)) fl ⟨rfl, trivial⟩ rfl (some_inj H)
 rintro F4 y2 hF5 hy
 subst hy
 refine Lst.as (e' := [(14, .bool y2)]) (L' := L) ⟨rfl, trivial⟩ rfl ?_
 replace H := HKo1
 refine Lst.r (Ev.assign rfl) ?_
 refine nt0 ?_
 obtain rfl := some_inj H
 refine Cd.ret ?_
 exact At.ret1 rfl (Res.tmp rfl) hF5 (.refl _) ⟨rfl, rfl⟩
set_option maxRecDepth 20000 in
theorem snap_Check_1_sim {a0 : Int} {r : Bool} (H : snap_Check_1 a0 = some r) (w0 : World) (F : Frz) (M L : List Item) (hM : M.Sublist L) : Ok Try.prog w0 14 [iv a0] F (L) (Is (.bool r) (L)) := by
 unfold snap_Check_1 at H
 refine Ok.enter (m := 1) (n := 6) Try.func14 rfl rfl rfl (by decide) ?_
 refine Cd.env (e' := [(0, iv a0)]) rfl ?_
 refine sr0 ?_
 refine Lst.r (Ev.assign rfl) ?_
 refine nsr ?_
 refine mv0 rfl ?_
 obtain ⟨r1, h2, H⟩ := bind_some H
 refine Lst.call1 rfl rfl (by decide) (vs := [iv a0, iv (0 : Int), iv (1000000 : Int)]) ⟨rfl, rfl, rfl, trivial⟩ Try.call12 (snap_in_sim h2 w0 _ M _ hM) ?_
 refine Lst.r (Ev.not rfl) ?_
 refine Lst.r (Ev.assign rfl) ?_
 refine nt0 ?_
 obtain rfl := some_inj H
 refine Cd.ret ?_
 exact At.ret1 rfl (Res.tmp rfl) fl (.refl _) ⟨rfl, rfl⟩
set_option maxRecDepth 20000 in
theorem slices_IndexFunc_int_int_Check_1_sim {a0 : List Int} {s_a0 : Sl} {r : Int} (H : slices_IndexFunc_int_int_Check_1 a0 = some r) (w0 : World) (F : Frz) (M L : List Item) (hM : M.Sublist L) (hs_a0 : Rd w0 F M s_a0 a0) : Ok Try.prog w0 26 [Sl.v s_a0, .func (.func 14) #[] #[]] F (L) (Is (iv r) (L)) := by
 unfold slices_IndexFunc_int_int_Check_1 at H
 refine Ok.enter (m := 2) (n := 19) Try.func26 rfl rfl rfl (by decide) ?_
 refine Cd.env (e' := [(0, Sl.v s_a0), (1, .func (.func 14) #[] #[])]) rfl ?_
 refine sr0 ?_
 refine Lst.r (Ev.assign rfl) ?_
 refine nt0 ?_
 refine Cd.seq ?_
 refine sr0 ?_
 refine mv0 rfl ?_
 refine Lst.r (Ev.lenS (α := Int) (xs := a0) (by decide) rfl rfl Try.runUnderlying22 (hs_a0.mono fl hM)) ?_
 refine mv0 rfl ?_
 refine nt0 ?_
 refine Cd.block ?_
 refine Cd.bound (Rd.le (α := Int) (xs := a0) (by decide) (hs_a0.mono fl hM)) (fun hN12 => ?_)
 obtain ⟨ol1, H, HKl1⟩ := andThen_some H
 refine Cd.loop (σ := Nat × Nat × Unit) (fun (i1, k1, _u) => [(0, Sl.v s_a0), (1, .func (.func 14) #[] #[]), (7, iv (a0.length : Int)), (8, iv (i1 : Int))]) (fun (i1, k1, _u) => L) (fun _ => (fun (i1, k1, _u) => rangeM (slices_IndexFunc_int_int_Check_1_B0 a0) k1 i1 () = some ol1 ∧ i1 + k1 = a0.length)) (fun (i1, k1, _u) => k1) (0, a0.length, ()) ⟨rfl, rfl, rfl, rfl, trivial⟩ rfl ⟨H, by omega⟩ ?_
 rintro F2 ⟨i1, k1, _u⟩ hF3 ⟨H, hik1⟩
 refine Cd.as (e' := [(0, Sl.v s_a0), (1, .func (.func 14) #[] #[]), (7, iv (a0.length : Int)), (8, iv (i1 : Int))]) (L' := L) ⟨rfl, rfl, rfl, rfl, trivial⟩ rfl ?_
 rcases k1 with _ | k1
 ·have hc1 : decide ((i1 : Int) < (a0.length : Int)) = false := decide_eq_false (by omega)
  replace H := rangeM_end H
  refine sr0 ?_
  refine Lst.r (Ev.lss rfl rfl) ?_
  refine nt0 ?_
  refine Cd.seq ?_
  refine Cd.condF rfl hc1 ?_
  refine Cd.exit ?_
  refine At.then_exit ?_
  refine At.then_exit ?_
  refine At.in_exit ?_
  subst H
  replace H := HKl1
  refine At.then ?_
  refine sr0 ?_
  refine Lst.r (Ev.assign rfl) ?_
  refine nt0 ?_
  obtain rfl := some_inj H
  refine Cd.ret ?_
  exact At.ret1 rfl (Res.tmp rfl) hF3 (.refl _) ⟨rfl, rfl⟩
 have hc1 : decide ((i1 : Int) < (a0.length : Int)) = true := decide_eq_true (by omega)
 obtain ⟨c1, H, hgo1, hbrk1, hret1⟩ := rangeM_go H
 unfold slices_IndexFunc_int_int_Check_1_B0 at H
 try dsimp only at H
 refine sr0 ?_
 refine Lst.r (Ev.lss rfl rfl) ?_
 refine nt0 ?_
 refine Cd.seq ?_
 refine Cd.condT rfl hc1 ?_
 refine Cd.skip ?_
 refine At.then ?_
 refine Cd.seq ?_
 refine Cd.block ?_
 refine sr0 ?_
 refine mv0 rfl ?_
 refine Lst.r (Ev.assign rfl) ?_
 refine nsr ?_
 refine mv0 rfl ?_
 refine mv0 rfl ?_
 refine mv0 rfl ?_
 obtain ⟨x4, h5, H⟩ := bind_some H
 have g6 := lat_some h5
 refine Lst.r (Ev.indexS (α := Int) (xs := a0) rfl rfl Try.runUnderlying22 Try.sizeOf3 rfl (by decide) (hs_a0.mono hF3 hM) g6.1 g6.2.1) ?_
 refine Lst.r (Ev.loadS (α := Int) rfl (hs_a0.mono hF3 hM) Try.isAgg3 (v := iv x4) ((Get.elemN (s := 1) (x := x4) rfl g6.2.2 gh0).off (by omega))) ?_
 obtain ⟨r7, h8, H⟩ := bind_some H
 refine Lst.callV1 rfl rfl (by decide) (vs := [iv x4]) (cs := []) rfl ⟨rfl, trivial⟩ Try.call14 (snap_Check_1_sim h8 w0 _ M _ hM) ?_
 refine nt0 ?_
 rcases Bool.eq_false_or_eq_true r7 with hb11 | hb11
 ·replace H := ite_t hb11 H
  refine Cd.condT rfl hb11 ?_
  refine sr0 ?_
  refine mv0 rfl ?_
  refine Lst.r (Ev.assign rfl) ?_
  refine nt0 ?_
  have H := hret1 _ (some_inj H).symm
  subst H
  replace H := HKl1
  obtain rfl := some_inj H
  refine Cd.ret ?_
  refine At.in_ret ?_
  refine At.then_ret ?_
  refine At.then_ret ?_
  refine At.in_ret ?_
  refine At.then_ret ?_
  exact At.ret1 rfl (Res.tmp rfl) hF3 (.refl _) ⟨rfl, rfl⟩
 replace H := ite_f hb11 H
 refine Cd.condF rfl hb11 ?_
 refine Cd.skip ?_
 refine At.in_normal ?_
 refine At.then ?_
 refine Cd.region ?_
 refine Lst.r (Ev.incr (by omega) rfl rfl) ?_
 refine mv0 rfl ?_
 refine Lst.nil ?_
 exact At.meet (i1 + 1, k1, ()) hF3 ⟨rfl, rfl, rfl, rfl, trivial⟩ rfl ⟨⟨hgo1 _ (some_inj H).symm, by omega⟩, Nat.lt_succ_self _⟩
set_option maxRecDepth 20000 in
theorem slices_ContainsFunc_int_int_Check_1_sim {a0 : List Int} {s_a0 : Sl} {r : Bool} (H : slices_ContainsFunc_int_int_Check_1 a0 = some r) (w0 : World) (F : Frz) (M L : List Item) (hM : M.Sublist L) (hs_a0 : Rd w0 F M s_a0 a0) : Ok Try.prog w0 13 [Sl.v s_a0, .func (.func 14) #[] #[]] F (L) (Is (.bool r) (L)) := by
 unfold slices_ContainsFunc_int_int_Check_1 at H
 refine Ok.enter (m := 2) (n := 9) Try.func13 rfl rfl rfl (by decide) ?_
 refine Cd.env (e' := [(0, Sl.v s_a0), (1, .func (.func 14) #[] #[])]) rfl ?_
 refine sr0 ?_
 refine Lst.r (Ev.assign rfl) ?_
 refine nsr ?_
 refine mv0 rfl ?_
 refine mv0 rfl ?_
 obtain ⟨r1, h2, H⟩ := bind_some H
 refine Lst.call1 rfl rfl (by decide) (vs := [Sl.v s_a0, .func (.func 14) #[] #[]]) ⟨rfl, rfl, trivial⟩ Try.call26 (slices_IndexFunc_int_int_Check_1_sim h2 w0 _ M _ hM (hs_a0.mono fl (.refl _))) ?_
 refine Lst.r (Ev.geq rfl rfl) ?_
 refine Lst.r (Ev.assign rfl) ?_
 refine nt0 ?_
 obtain rfl := some_inj H
 refine Cd.ret ?_
 exact At.ret1 rfl (Res.tmp rfl) fl (.refl _) ⟨rfl, rfl⟩
set_option maxRecDepth 20000 in
theorem snap_Check_sim {a0 : List Int} {a1 : List Move} {s_a0 : Sl} {s_a1 : Sl} {r : Int} (H : snap_Check a0 a1 = some r) (w0 : World) (F : Frz) (M L : List Item) (hM : M.Sublist L) (hs_a0 : Rd w0 F M s_a0 a0) (hs_a1 : Rd w0 F M s_a1 a1) : Ok Try.prog w0 6 [Sl.v s_a0, Sl.v s_a1] F (L) (Is (iv r) (L)) := by
 unfold snap_Check at H
 refine Ok.enter (m := 2) (n := 66) Try.func6 rfl rfl rfl (by decide) ?_
 refine Cd.env (e' := [(0, Sl.v s_a0), (1, Sl.v s_a1)]) rfl ?_
 refine sr0 ?_
 refine Lst.r (Ev.assign rfl) ?_
 refine nsr ?_
 refine mv0 rfl ?_
 refine Lst.r (Ev.lenS (α := Int) (xs := a0) (by decide) rfl rfl Try.runUnderlying22 (hs_a0.mono fl hM)) ?_
 refine Lst.r (Ev.assign rfl) ?_
 refine nt0 ?_
 refine Cd.seq ?_
 refine Cd.block ?_
 refine sr0 ?_
 refine mv0 rfl ?_
 obtain ⟨r1, h2, H⟩ := bind_some H
 refine Lst.call1 rfl rfl (by decide) (vs := [iv (a0.length : Int), iv (1 : Int), iv (6 : Int)]) ⟨rfl, rfl, rfl, trivial⟩ Try.call12 (snap_in_sim h2 w0 _ M _ hM) ?_
 refine Lst.r (Ev.not rfl) ?_
 refine Lst.r (Ev.assign rfl) ?_
 refine nt0 ?_
 rcases Bool.eq_false_or_eq_true (!r1) with hb5 | hb5
 ·replace H := ite_t hb5 H
  refine Cd.condT rfl hb5 ?_
  refine sr0 ?_
  refine Lst.r (Ev.assign rfl) ?_
  refine nt0 ?_
  obtain rfl := some_inj H
  refine Cd.ret ?_
  refine At.in_ret ?_
  refine At.then_ret ?_
  exact At.ret1 rfl (Res.tmp rfl) fl (.refl _) ⟨rfl, rfl⟩
 replace H := ite_f hb5 H
 refine Cd.condF rfl hb5 ?_
 refine sr0 ?_
 refine mv0 rfl ?_
 refine Lst.r (Ev.lenS (α := Move) (xs := a1) (by decide) rfl rfl Try.runUnderlying23 (hs_a1.mono fl hM)) ?_
 refine Lst.r (Ev.gtr rfl rfl) ?_
 refine Lst.r (Ev.assign rfl) ?_
 refine nt0 ?_
 rcases Bool.eq_false_or_eq_true (decide ((a1.length : Int) > (200 : Int))) with hb6 | hb6
 ·replace H := ite_t hb6 H
  refine Cd.condT rfl hb6 ?_
  refine sr0 ?_
  refine Lst.r (Ev.assign rfl) ?_
  refine nt0 ?_
  obtain rfl := some_inj H
  refine Cd.ret ?_
  refine At.in_ret ?_
  refine At.then_ret ?_
  exact At.ret1 rfl (Res.tmp rfl) fl (.refl _) ⟨rfl, rfl⟩
 replace H := ite_f hb6 H
 refine Cd.condF rfl hb6 ?_
 refine sr0 ?_
 refine mv0 rfl ?_
 obtain ⟨r7, h8, H⟩ := bind_some H
 refine Lst.call1 rfl rfl (by decide) (vs := [Sl.v s_a0, .func (.func 14) #[] #[]]) ⟨rfl, rfl, trivial⟩ Try.call13 (slices_ContainsFunc_int_int_Check_1_sim h8 w0 _ M _ hM (hs_a0.mono fl (.refl _))) ?_
 refine Lst.r (Ev.assign rfl) ?_
 refine nt0 ?_
 rcases Bool.eq_false_or_eq_true r7 with hb11 | hb11
 ·replace H := ite_t hb11 H
  refine Cd.condT rfl hb11 ?_
  refine Cd.seq ?_
  refine Cd.as (e' := []) (L' := L) trivial rfl ?_
  refine Cd.region ?_
  refine Lst.r (Ev.assign rfl) ?_
  refine nt0 ?_
  obtain rfl := some_inj H
  refine Cd.ret ?_
  refine At.in_ret ?_
  refine At.then_ret ?_
  exact At.ret1 rfl (Res.tmp rfl) fl (.refl _) ⟨rfl, rfl⟩
 replace H := ite_f hb11 H
 refine Cd.condF rfl hb11 ?_
 refine Cd.skip ?_
 refine At.in_normal ?_
 refine At.then ?_
 refine Cd.seq ?_
 refine Cd.seq ?_
 refine Cd.as (e' := [(1, Sl.v s_a1), (5, iv (a0.length : Int))]) (L' := L) ⟨rfl, rfl, trivial⟩ rfl ?_
 refine Cd.region ?_
 refine mv0 rfl ?_
 refine Lst.r (Ev.lenS (α := Move) (xs := a1) (by decide) rfl rfl Try.runUnderlying23 (hs_a1.mono fl hM)) ?_
 refine mv0 rfl ?_
 refine nt0 ?_
 refine Cd.block ?_
 refine Cd.bound (Rd.le (α := Move) (xs := a1) (by decide) (hs_a1.mono fl hM)) (fun hN58 => ?_)
 obtain ⟨ol12, H, HKl12⟩ := andThen_some H
 refine Cd.loop (σ := Nat × Nat × Unit) (fun (i12, k12, _u) => [(5, iv (a0.length : Int)), (21, Sl.v s_a1), (22, iv (a1.length : Int)), (23, iv (i12 : Int))]) (fun (i12, k12, _u) => L) (fun _ => (fun (i12, k12, _u) => rangeM (snap_Check_B1 a0 a1) k12 i12 () = some ol12 ∧ i12 + k12 = a1.length)) (fun (i12, k12, _u) => k12) (0, a1.length, ()) ⟨rfl, rfl, rfl, rfl, trivial⟩ rfl ⟨H, by omega⟩ ?_
 rintro F13 ⟨i12, k12, _u⟩ hF14 ⟨H, hik12⟩
 refine Cd.as (e' := [(5, iv (a0.length : Int)), (21, Sl.v s_a1), (22, iv (a1.length : Int)), (23, iv (i12 : Int))]) (L' := L) ⟨rfl, rfl, rfl, rfl, trivial⟩ rfl ?_
 rcases k12 with _ | k12
 ·have hc12 : decide ((i12 : Int) < (a1.length : Int)) = false := decide_eq_false (by omega)
  replace H := rangeM_end H
  refine sr0 ?_
  refine Lst.r (Ev.lss rfl rfl) ?_
  refine nt0 ?_
  refine Cd.seq ?_
  refine Cd.condF rfl hc12 ?_
  refine Cd.exit ?_
  refine At.then_exit ?_
  refine At.then_exit ?_
  refine At.in_exit ?_
  subst H
  replace H := HKl12
  refine At.then ?_
  refine sr0 ?_
  refine Lst.r (Ev.assign rfl) ?_
  refine nt0 ?_
  obtain rfl := some_inj H
  refine Cd.ret ?_
  exact At.ret1 rfl (Res.tmp rfl) hF14 (.refl _) ⟨rfl, rfl⟩
 have hc12 : decide ((i12 : Int) < (a1.length : Int)) = true := decide_eq_true (by omega)
 obtain ⟨c12, H, hgo12, hbrk12, hret12⟩ := rangeM_go H
 unfold snap_Check_B1 at H
 try dsimp only at H
 refine sr0 ?_
 refine Lst.r (Ev.lss rfl rfl) ?_
 refine nt0 ?_
 refine Cd.seq ?_
 refine Cd.condT rfl hc12 ?_
 refine Cd.skip ?_
 refine At.then ?_
 refine Cd.seq ?_
 refine Cd.block ?_
 refine sr0 ?_
 obtain ⟨x15, h16, H⟩ := bind_some H
 have g17 := lat_some h16
 refine Lst.r (Ev.indexS (α := Move) (xs := a1) rfl rfl Try.runUnderlying23 Try.sizeOf35 rfl (by decide) (hs_a1.mono hF14 hM) g17.1 g17.2.1) ?_
 refine Lst.r (Ev.loadSA (α := Move) rfl (hs_a1.mono hF14 hM) Try.isAgg35 Try.sizeOf35 (ch := enc x15) (Enc.len _) (by decide) ((Get.elemN (s := 4) (x := x15) rfl g17.2.2 gh0).off (by omega))) ?_
 refine Lst.alloc (cs := enc Move.zero) rfl rfl (by decide) Try.zeroValue35 rfl (fun b18 => ?_)
 refine Lst.store (i := 0) rfl rfl rfl rfl rfl Try.sizeOf35 (vs := enc x15) rfl (Enc.len _) (Enc.one _) (cs' := enc x15) (Put.here ((Enc.len _).trans (Enc.len _).symm)) (L' := (.blk b18 (enc x15) 35) :: L) rfl ?_
 refine nt0 ?_
 refine Cd.block ?_
 refine sr0 ?_
 refine Lst.r (Ev.fieldAddr (off' := 0) rfl Try.runUnderlying35 rfl Try.sizeOf3 rfl rfl) ?_
 refine Lst.r (Ev.load (i := 0) rfl rfl Try.isAgg3 (v := iv x15.Kind) ((Move.get_Kind gh0).off (by rfl))) ?_
 obtain ⟨r20, h21, H⟩ := bind_some H
 refine Lst.call1 rfl rfl (by decide) (vs := [iv x15.Kind, iv (1 : Int), iv (3 : Int)]) ⟨rfl, rfl, rfl, trivial⟩ Try.call12 (snap_in_sim h21 w0 _ M _ (sc1 hM)) ?_
 refine Lst.r (Ev.not rfl) ?_
 refine mv0 rfl ?_
 obtain ⟨o24, H, HKo24⟩ := bind_some H
 refine Lst.join (σ := Bool) 7 (fun y25 => [(5, iv (a0.length : Int)), (7, pv b18 0), (21, Sl.v s_a1), (22, iv (a1.length : Int)), (23, iv (i12 : Int)), (39, .bool y25)]) (fun y25 => (.blk b18 (enc x15) 35) :: L) (fun _ y25 => y25 = o24) ?_ ?_
 ·rcases Bool.eq_false_or_eq_true (!r20) with hb26 | hb26
  ·replace H := ite_t hb26 H
   refine Lst.skip rfl rfl rfl hb26 rfl (by decide) ?_
   refine Lst.skip rfl rfl rfl hb26 rfl (by decide) ?_
   refine Lst.skip rfl rfl rfl hb26 rfl (by decide) ?_
   refine Lst.skip rfl rfl rfl hb26 rfl (by decide) ?_
   refine Lst.skip rfl rfl rfl hb26 rfl (by decide) ?_
   refine Lst.skip rfl rfl rfl hb26 rfl (by decide) ?_
   refine Lst.r (Ev.pickT rfl hb26 rfl) ?_
   refine Lst.nil ?_
   exact At.meet true fl ⟨rfl, rfl, rfl, rfl, rfl, rfl, trivial⟩ rfl (some_inj H)
  replace H := ite_f hb26 H
  refine Lst.rG hb26 (Ev.fieldAddr (off' := 1) rfl Try.runUnderlying35 rfl Try.sizeOf3 rfl rfl) ?_
  refine Lst.rG hb26 (Ev.load (i := 0) rfl rfl Try.isAgg3 (v := iv x15.From) ((Move.get_From gh0).off (by rfl))) ?_
  refine Lst.rG hb26 (Ev.move rfl) ?_
  refine Lst.rG hb26 (Ev.sub rfl rfl) ?_
  obtain ⟨r27, h28, H⟩ := bind_some H
  refine Lst.call1G rfl rfl rfl hb26 rfl (by decide) (vs := [iv x15.From, iv (0 : Int), iv (w64 ((a0.length : Int) - (1 : Int)))]) ⟨rfl, rfl, rfl, trivial⟩ Try.call12 (snap_in_sim h28 w0 _ M _ (sc1 hM)) ?_
  refine Lst.rG hb26 (Ev.not rfl) ?_
  refine Lst.r (Ev.pickF rfl hb26 rfl) ?_
  refine Lst.nil ?_
  exact At.meet (!r27) fl ⟨rfl, rfl, rfl, rfl, rfl, rfl, trivial⟩ rfl (some_inj H)
 rintro F31 y25 hF32 hy
 subst hy
 refine Lst.as (e' := [(5, iv (a0.length : Int)), (7, pv b18 0), (21, Sl.v s_a1), (22, iv (a1.length : Int)), (23, iv (i12 : Int)), (39, .bool y25)]) (L' := (.blk b18 (enc x15) 35) :: L) ⟨rfl, rfl, rfl, rfl, rfl, rfl, trivial⟩ rfl ?_
 replace H := HKo24
 refine mv0 rfl ?_
 obtain ⟨o33, H, HKo33⟩ := bind_some H
 refine Lst.join (σ := Bool) 7 (fun y34 => [(5, iv (a0.length : Int)), (7, pv b18 0), (21, Sl.v s_a1), (22, iv (a1.length : Int)), (23, iv (i12 : Int)), (47, .bool y34)]) (fun y34 => (.blk b18 (enc x15) 35) :: L) (fun _ y34 => y34 = o33) ?_ ?_
 ·rcases Bool.eq_false_or_eq_true y25 with hb35 | hb35
  ·replace H := ite_t hb35 H
   refine Lst.skip rfl rfl rfl hb35 rfl (by decide) ?_
   refine Lst.skip rfl rfl rfl hb35 rfl (by decide) ?_
   refine Lst.skip rfl rfl rfl hb35 rfl (by decide) ?_
   refine Lst.skip rfl rfl rfl hb35 rfl (by decide) ?_
   refine Lst.skip rfl rfl rfl hb35 rfl (by decide) ?_
   refine Lst.skip rfl rfl rfl hb35 rfl (by decide) ?_
   refine Lst.r (Ev.pickT rfl hb35 rfl) ?_
   refine Lst.nil ?_
   exact At.meet true fl ⟨rfl, rfl, rfl, rfl, rfl, rfl, trivial⟩ rfl (some_inj H)
  replace H := ite_f hb35 H
  refine Lst.rG hb35 (Ev.fieldAddr (off' := 2) rfl Try.runUnderlying35 rfl Try.sizeOf3 rfl rfl) ?_
  refine Lst.rG hb35 (Ev.load (i := 0) rfl rfl Try.isAgg3 (v := iv x15.To) ((Move.get_To gh0).off (by rfl))) ?_
  refine Lst.rG hb35 (Ev.move rfl) ?_
  refine Lst.rG hb35 (Ev.sub rfl rfl) ?_
  obtain ⟨r36, h37, H⟩ := bind_some H
  refine Lst.call1G rfl rfl rfl hb35 rfl (by decide) (vs := [iv x15.To, iv (0 : Int), iv (w64 ((a0.length : Int) - (1 : Int)))]) ⟨rfl, rfl, rfl, trivial⟩ Try.call12 (snap_in_sim h37 w0 _ M _ (sc1 hM)) ?_
  refine Lst.rG hb35 (Ev.not rfl) ?_
  refine Lst.r (Ev.pickF rfl hb35 rfl) ?_
  refine Lst.nil ?_
  exact At.meet (!r36) fl ⟨rfl, rfl, rfl, rfl, rfl, rfl, trivial⟩ rfl (some_inj H)
 rintro F40 y34 hF41 hy
 subst hy
 refine Lst.as (e' := [(5, iv (a0.length : Int)), (7, pv b18 0), (21, Sl.v s_a1), (22, iv (a1.length : Int)), (23, iv (i12 : Int)), (47, .bool y34)]) (L' := (.blk b18 (enc x15) 35) :: L) ⟨rfl, rfl, rfl, rfl, rfl, rfl, trivial⟩ rfl ?_
 replace H := HKo33
 refine mv0 rfl ?_
 obtain ⟨o42, H, HKo42⟩ := bind_some H
 refine Lst.join (σ := Bool) 5 (fun y43 => [(5, iv (a0.length : Int)), (7, pv b18 0), (21, Sl.v s_a1), (22, iv (a1.length : Int)), (23, iv (i12 : Int)), (53, .bool y43)]) (fun y43 => (.blk b18 (enc x15) 35) :: L) (fun _ y43 => y43 = o42) ?_ ?_
 ·rcases Bool.eq_false_or_eq_true y34 with hb44 | hb44
  ·replace H := ite_t hb44 H
   refine Lst.skip rfl rfl rfl hb44 rfl (by decide) ?_
   refine Lst.skip rfl rfl rfl hb44 rfl (by decide) ?_
   refine Lst.skip rfl rfl rfl hb44 rfl (by decide) ?_
   refine Lst.skip rfl rfl rfl hb44 rfl (by decide) ?_
   refine Lst.r (Ev.pickT rfl hb44 rfl) ?_
   refine Lst.nil ?_
   exact At.meet true fl ⟨rfl, rfl, rfl, rfl, rfl, rfl, trivial⟩ rfl (some_inj H)
  replace H := ite_f hb44 H
  refine Lst.rG hb44 (Ev.fieldAddr (off' := 3) rfl Try.runUnderlying35 rfl Try.sizeOf3 rfl rfl) ?_
  refine Lst.rG hb44 (Ev.load (i := 0) rfl rfl Try.isAgg3 (v := iv x15.N) ((Move.get_N gh0).off (by rfl))) ?_
  obtain ⟨r45, h46, H⟩ := bind_some H
  refine Lst.call1G rfl rfl rfl hb44 rfl (by decide) (vs := [iv x15.N, iv (0 : Int), iv (1000000 : Int)]) ⟨rfl, rfl, rfl, trivial⟩ Try.call12 (snap_in_sim h46 w0 _ M _ (sc1 hM)) ?_
  refine Lst.rG hb44 (Ev.not rfl) ?_
  refine Lst.r (Ev.pickF rfl hb44 rfl) ?_
  refine Lst.nil ?_
  exact At.meet (!r45) fl ⟨rfl, rfl, rfl, rfl, rfl, rfl, trivial⟩ rfl (some_inj H)
 rintro F49 y43 hF50 hy
 subst hy
 refine Lst.as (e' := [(5, iv (a0.length : Int)), (7, pv b18 0), (21, Sl.v s_a1), (22, iv (a1.length : Int)), (23, iv (i12 : Int)), (53, .bool y43)]) (L' := (.blk b18 (enc x15) 35) :: L) ⟨rfl, rfl, rfl, rfl, rfl, rfl, trivial⟩ rfl ?_
 replace H := HKo42
 refine Lst.r (Ev.assign rfl) ?_
 refine nt0 ?_
 rcases Bool.eq_false_or_eq_true y43 with hb51 | hb51
 ·replace H := ite_t hb51 H
  refine Cd.condT rfl hb51 ?_
  refine sr0 ?_
  refine Lst.r (Ev.assign rfl) ?_
  refine nt0 ?_
  have H := hret12 _ (some_inj H).symm
  subst H
  replace H := HKl12
  obtain rfl := some_inj H
  refine Cd.ret ?_
  refine At.in_ret ?_
  refine At.in_ret ?_
  refine At.then_ret ?_
  refine At.then_ret ?_
  refine At.in_ret ?_
  refine At.then_ret ?_
  exact At.ret1 rfl (Res.tmp rfl) (FLe.trans (FLe.trans (FLe.trans hF14 hF32) hF41) hF50) (sc1 (.refl _)) ⟨rfl, rfl⟩
 replace H := ite_f hb51 H
 refine Cd.condF rfl hb51 ?_
 refine sr0 ?_
 refine Lst.r (Ev.fieldAddr (off' := 1) rfl Try.runUnderlying35 rfl Try.sizeOf3 rfl rfl) ?_
 refine Lst.r (Ev.load (i := 0) rfl rfl Try.isAgg3 (v := iv x15.From) ((Move.get_From gh0).off (by rfl))) ?_
 refine Lst.r (Ev.fieldAddr (off' := 2) rfl Try.runUnderlying35 rfl Try.sizeOf3 rfl rfl) ?_
 refine Lst.r (Ev.load (i := 0) rfl rfl Try.isAgg3 (v := iv x15.To) ((Move.get_To gh0).off (by rfl))) ?_
 refine Lst.r (Ev.eql rfl rfl) ?_
 refine mv0 rfl ?_
 obtain ⟨o52, H, HKo52⟩ := bind_some H
 refine Lst.join (σ := Bool) 4 (fun y53 => [(5, iv (a0.length : Int)), (21, Sl.v s_a1), (22, iv (a1.length : Int)), (23, iv (i12 : Int)), (64, .bool y53)]) (fun y53 => (.blk b18 (enc x15) 35) :: L) (fun _ y53 => y53 = o52) ?_ ?_
 ·rcases (Bool.eq_false_or_eq_true (x15.From == x15.To)).symm with hb54 | hb54
  ·replace H := ite_f hb54 H
   refine Lst.skip rfl rfl rfl hb54 rfl (by decide) ?_
   refine Lst.skip rfl rfl rfl hb54 rfl (by decide) ?_
   refine Lst.skip rfl rfl rfl hb54 rfl (by decide) ?_
   refine Lst.r (Ev.pickF rfl hb54 rfl) ?_
   refine Lst.nil ?_
   exact At.meet false fl ⟨rfl, rfl, rfl, rfl, rfl, trivial⟩ rfl (some_inj H)
  replace H := ite_t hb54 H
  refine Lst.rG hb54 (Ev.fieldAddr (off' := 0) rfl Try.runUnderlying35 rfl Try.sizeOf3 rfl rfl) ?_
  refine Lst.rG hb54 (Ev.load (i := 0) rfl rfl Try.isAgg3 (v := iv x15.Kind) ((Move.get_Kind gh0).off (by rfl))) ?_
  refine Lst.rG hb54 (Ev.neq rfl rfl) ?_
  refine Lst.r (Ev.pickT rfl hb54 rfl) ?_
  refine Lst.nil ?_
  exact At.meet (x15.Kind != (3 : Int)) fl ⟨rfl, rfl, rfl, rfl, rfl, trivial⟩ rfl (some_inj H)
 rintro F55 y53 hF56 hy
 subst hy
 refine Lst.as (e' := [(5, iv (a0.length : Int)), (21, Sl.v s_a1), (22, iv (a1.length : Int)), (23, iv (i12 : Int)), (64, .bool y53)]) (L' := (.blk b18 (enc x15) 35) :: L) ⟨rfl, rfl, rfl, rfl, rfl, trivial⟩ rfl ?_
 replace H := HKo52
 refine Lst.r (Ev.assign rfl) ?_
 refine nt0 ?_
 rcases Bool.eq_false_or_eq_true y53 with hb57 | hb57
 ·replace H := ite_t hb57 H
  refine Cd.condT rfl hb57 ?_
  refine sr0 ?_
  refine Lst.r (Ev.assign rfl) ?_
  refine nt0 ?_
  have H := hret12 _ (some_inj H).symm
  subst H
  replace H := HKl12
  obtain rfl := some_inj H
  refine Cd.ret ?_
  refine At.in_ret ?_
  refine At.in_ret ?_
  refine At.then_ret ?_
  refine At.then_ret ?_
  refine At.in_ret ?_
  refine At.then_ret ?_
  exact At.ret1 rfl (Res.tmp rfl) (FLe.trans (FLe.trans (FLe.trans (FLe.trans hF14 hF32) hF41) hF50) hF56) (sc1 (.refl _)) ⟨rfl, rfl⟩
 replace H := ite_f hb57 H
 refine Cd.condF rfl hb57 ?_
 refine Cd.skip ?_
 refine At.in_normal ?_
 refine At.in_normal ?_
 refine At.then ?_
 refine Cd.region ?_
 refine Lst.r (Ev.incr (by omega) rfl rfl) ?_
 refine mv0 rfl ?_
 refine Lst.nil ?_
 refine At.less (L' := L) (sc1 (.refl _)) ?_
 exact At.meet (i12 + 1, k12, ()) (FLe.trans (FLe.trans (FLe.trans (FLe.trans hF14 hF32) hF41) hF50) hF56) ⟨rfl, rfl, rfl, rfl, trivial⟩ rfl ⟨⟨hgo12 _ (some_inj H).symm, by omega⟩, Nat.lt_succ_self _⟩
set_option maxRecDepth 20000 in
theorem slices_Clone_int_int_sim {a0 : List Int} {s_a0 : Sl} {r : (List Int)} (H : slices_Clone_int_int a0 = some r) (w0 : World) (F : Frz) (M L : List Item) (hM : M.Sublist L) (hs_a0 : Rd w0 F M s_a0 a0) : Ok Try.prog w0 9 [Sl.v s_a0] F (L) (fun _ L' v => ∃ (s1 : Sl), v = Sl.v s1 ∧ L' = (.own s1 3 1 (encs r)) :: L) := by
 unfold slices_Clone_int_int at H
 refine Ok.enter (m := 1) (n := 8) Try.func9 rfl rfl rfl (by decide) ?_
 refine Cd.env (e' := [(0, Sl.v s_a0)]) rfl ?_
 refine sr0 ?_
 refine Lst.addNil 3 1 ?_
 refine Lst.r (Ev.assign rfl) ?_
 refine nt0 ?_
 refine Cd.seq ?_
 refine sr0 ?_
 refine mv0 rfl ?_
 refine Lst.r (Ev.eqlNil rfl Try.runUnderlying22) ?_
 refine nt0 ?_
 rcases Bool.eq_false_or_eq_true ((Sl.a s_a0).isNone) with hb2 | hb2
 ·refine Cd.bound (Rd.isNil (α := Int) (by decide) (hs_a0.mono fl (sc1 hM)) hb2) (fun hx9 => ?_)
  rw [clone_nil hx9] at H
  refine Cd.condT rfl hb2 ?_
  refine sr0 ?_
  refine Lst.addNil 3 1 ?_
  refine Lst.r (Ev.assign rfl) ?_
  refine nt0 ?_
  obtain rfl := some_inj H
  refine Cd.ret ?_
  refine At.then_ret ?_
  exact At.ret1 rfl (Res.tmp rfl) fl (sk1 (sc1 (.refl _))) ⟨Sl.nil, rfl, rfl⟩
 refine Cd.condF rfl hb2 ?_
 refine Cd.skip ?_
 refine At.then ?_
 refine sr0 ?_
 refine Lst.buildSlice0 rfl rfl (by decide) Try.runUnderlying22 Try.sizeOf3 (fun s3 => ?_)
 refine Lst.its (L' := (.own s3 3 1 (encs ([] : List Int))) :: (.own Sl.nil 3 1 (encs ([] : List Int))) :: L) rfl ?_
 refine mv0 rfl ?_
 obtain ⟨u5, h6, H⟩ := bind_some H
 refine Lst.append (i := 0) (α := Int) (xs := ([] : List Int)) (ys := a0) rfl rfl (by decide) rfl rfl Try.runUnderlying22 Try.typeInfo3 rfl rfl rfl rfl rfl rfl (hs_a0.mono fl (sc2 hM)) rfl (room_some h6) rfl (fun s7 => ?_)
 refine Lst.its (L' := (.own s7 3 1 (encs (([] : List Int) ++ a0))) :: (.own Sl.nil 3 1 (encs ([] : List Int))) :: L) rfl ?_
 refine Lst.r (Ev.assign rfl) ?_
 refine nt0 ?_
 obtain rfl := some_inj H
 refine Cd.ret ?_
 exact At.ret1 rfl (Res.tmp rfl) fl (sk1 (sc1 (.refl _))) ⟨s7, rfl, rfl⟩
set_option maxRecDepth 20000 in
theorem snap_game_record_sim {a0 : Game} {a1 : Int} {b_a0 : Nat} {s_a0_0 : Sl} {s_a0_1 : Sl} {s_a0_2 : Sl} {s_a0_3 : MH} {rs_a0_3 : List (List LaneR)} {r : (List Int) × (List Bool) × (List (List Lane)) × Game} (H : snap_game_record a0 a1 = some r) (w0 : World) (F : Frz) (M L : List Item) (hM : M.Sublist L) (hs_a0_0 : Rd w0 F M s_a0_0 a0.now) (hm_a0_3 : rs_a0_3.map (List.map LaneR.v) = a0.lanes) : Ok Try.prog w0 24 [pv b_a0 0, iv a1] F ((.own s_a0_1 3 1 (encs a0.have_)) :: (.own s_a0_2 4 1 (encs a0.recorded)) :: (.mat LaneR.row 42 63 3 s_a0_3 rs_a0_3 rs_a0_3) :: (.blk b_a0 (enc (GameR.mk a0 s_a0_0 s_a0_1 s_a0_2 s_a0_3.s)) 41) :: L) (fun Fx L' v => ∃ (rs5 : List (List LaneR)), v = .tuple #[] ∧ L' = (.own s_a0_1 3 1 (encs r.1)) :: (.own s_a0_2 4 1 (encs r.2.1)) :: (.mat LaneR.row 42 63 3 s_a0_3 rs5 rs5) :: (.blk b_a0 (enc (GameR.mk ({ r.2.2.2 with now := a0.now, have_ := r.1, recorded := r.2.1, lanes := r.2.2.1 } : Game) s_a0_0 s_a0_1 s_a0_2 s_a0_3.s)) 41) :: L ∧ rs5.map (List.map LaneR.v) = r.2.2.1) := by
 unfold snap_game_record at H
 refine Ok.enter (m := 2) (n := 66) Try.func24 rfl rfl rfl (by decide) ?_
 refine Cd.env (e' := [(0, pv b_a0 0), (1, iv a1)]) rfl ?_
 refine Cd.seq ?_
 refine sr0 ?_
 refine mv0 rfl ?_
 refine Lst.r (Ev.nilCheck rfl) ?_
 refine Lst.r (Ev.fieldAddr (off' := 2) rfl Try.runUnderlying41 rfl Try.sizeOf38 rfl rfl) ?_
 refine Lst.r (Ev.load (i := 3) rfl rfl Try.isAgg38 (v := Sl.v s_a0_2) ((GameR.get_recorded gh0).off (by rfl))) ?_
 refine mv0 rfl ?_
 obtain ⟨x5, h6, H⟩ := bind_some H
 have g7 := lat_some h6
 refine Lst.r (Ev.indexS (α := Bool) (xs := a0.recorded) rfl rfl Try.runUnderlying38 Try.sizeOf4 rfl (by decide) (rdo 1 rfl rfl rfl) g7.1 g7.2.1) ?_
 refine Lst.r (Ev.loadS (α := Bool) rfl (rdo 1 rfl rfl rfl) Try.isAgg4 (v := .bool x5) ((Get.elemN (s := 1) (x := x5) rfl g7.2.2 gh0).off (by omega))) ?_
 refine nt0 ?_
 rcases Bool.eq_false_or_eq_true x5 with hb8 | hb8
 ·replace H := ite_t hb8 H
  refine Cd.condT rfl hb8 ?_
  obtain rfl := some_inj H
  refine Cd.ret ?_
  refine At.then_ret ?_
  exact At.ret0 (.inl rfl) rfl fl (sk1 (sk1 (sk1 (sk1 (.refl _))))) ⟨rs_a0_3, rfl, rfl, hm_a0_3⟩
 replace H := ite_f hb8 H
 refine Cd.condF rfl hb8 ?_
 refine Cd.skip ?_
 refine At.then ?_
 refine sr0 ?_
 refine mv0 rfl ?_
 refine Lst.r (Ev.nilCheck rfl) ?_
 refine Lst.r (Ev.fieldAddr (off' := 2) rfl Try.runUnderlying41 rfl Try.sizeOf38 rfl rfl) ?_
 refine Lst.r (Ev.load (i := 3) rfl rfl Try.isAgg38 (v := Sl.v s_a0_2) ((GameR.get_recorded gh0).off (by rfl))) ?_
 refine mv0 rfl ?_
 obtain ⟨x9, h10, H⟩ := bind_some H
 have g11 := lat_some h10
 refine Lst.r (Ev.indexS (α := Bool) (xs := a0.recorded) rfl rfl Try.runUnderlying38 Try.sizeOf4 rfl (by decide) (rdo 1 rfl rfl rfl) g11.1 g11.2.1) ?_
 obtain ⟨p12, h13, H⟩ := Let_some H
 refine Lst.storeS (i := 1) rfl rfl rfl rfl rfl Try.sizeOf4 (vs := [.bool true]) rfl rfl (by decide) rfl (xs' := encs p12) (by rw [← h13]; exact (Put.elemN (s := 1) (x := x9) rfl g11.2.2 (Put.here (vs := [.bool true]) rfl)).off (by omega)) (L' := (.own s_a0_1 3 1 (encs a0.have_)) :: (.own s_a0_2 4 1 (encs p12)) :: (.mat LaneR.row 42 63 3 s_a0_3 rs_a0_3 rs_a0_3) :: (.blk b_a0 (enc (GameR.mk ({ a0 with recorded := p12 } : Game) s_a0_0 s_a0_1 s_a0_2 s_a0_3.s)) 41) :: L) rfl ?_
 refine nt0 ?_
 refine Cd.seq ?_
 refine Cd.tail 13 (by kernel_rfl) (by kernel_rfl) ?_
 refine Qt.r (Ev.move rfl) ?_
 refine Qt.r (Ev.nilCheck rfl) ?_
 refine Qt.r (Ev.fieldAddr (off' := 1) rfl Try.runUnderlying41 rfl Try.sizeOf22 rfl rfl) ?_
 refine Qt.r (Ev.load (i := 3) rfl rfl Try.isAgg22 (v := Sl.v s_a0_1) ((GameR.get_have_ gh0).off (by rfl))) ?_
 refine Qt.r (Ev.move rfl) ?_
 refine Qt.r (Ev.move rfl) ?_
 refine Qt.r (Ev.nilCheck rfl) ?_
 refine Qt.r (Ev.fieldAddr (off' := 0) rfl Try.runUnderlying41 rfl Try.sizeOf22 rfl rfl) ?_
 refine Qt.r (Ev.load (i := 3) rfl rfl Try.isAgg22 (v := Sl.v s_a0_0) ((GameR.get_now gh0).off (by rfl))) ?_
 refine Qt.r (Ev.move rfl) ?_
 obtain ⟨x14, h15, H⟩ := bind_some H
 have g16 := lat_some h15
 refine Qt.r (Ev.indexS (α := Int) (xs := a0.now) rfl rfl Try.runUnderlying22 Try.sizeOf3 rfl (by decide) (hs_a0_0.mono fl (sc4 hM)) g16.1 g16.2.1) ?_
 refine Qt.r (Ev.loadS (α := Int) rfl (hs_a0_0.mono fl (sc4 hM)) Try.isAgg3 (v := iv x14) ((Get.elemN (s := 1) (x := x14) rfl g16.2.2 gh0).off (by omega))) ?_
 obtain ⟨x17, h18, H⟩ := bind_some H
 have g19 := lat_some h18
 refine Qt.r (Ev.indexS (α := Int) (xs := a0.have_) rfl rfl Try.runUnderlying22 Try.sizeOf3 rfl (by decide) (rdo 0 rfl rfl rfl) g19.1 g19.2.1) ?_
 refine Qt.tail ?_
 obtain ⟨p20, h21, H⟩ := Let_some H
 refine Lst.storeS (i := 0) rfl rfl rfl rfl rfl Try.sizeOf3 (vs := [iv x14]) rfl rfl (by decide) rfl (xs' := encs p20) (by rw [← h21]; exact (Put.elemN (s := 1) (x := x17) rfl g19.2.2 (Put.here (vs := [iv x14]) rfl)).off (by omega)) (L' := (.own s_a0_1 3 1 (encs p20)) :: (.own s_a0_2 4 1 (encs p12)) :: (.mat LaneR.row 42 63 3 s_a0_3 rs_a0_3 rs_a0_3) :: (.blk b_a0 (enc (GameR.mk ({ a0 with have_ := p20, recorded := p12 } : Game) s_a0_0 s_a0_1 s_a0_2 s_a0_3.s)) 41) :: L) rfl ?_
 refine nt0 ?_
 refine Cd.seq ?_
 refine Cd.as (e' := [(0, pv b_a0 0), (1, iv a1)]) (L' := (.own s_a0_1 3 1 (encs p20)) :: (.own s_a0_2 4 1 (encs p12)) :: (.mat LaneR.row 42 63 3 s_a0_3 rs_a0_3 rs_a0_3) :: (.blk b_a0 (enc (GameR.mk ({ a0 with have_ := p20, recorded := p12 } : Game) s_a0_0 s_a0_1 s_a0_2 s_a0_3.s)) 41) :: L) ⟨rfl, rfl, trivial⟩ rfl ?_
 refine Cd.region ?_
 refine mv0 rfl ?_
 refine Lst.r (Ev.nilCheck rfl) ?_
 refine Lst.r (Ev.fieldAddr (off' := 0) rfl Try.runUnderlying41 rfl Try.sizeOf22 rfl rfl) ?_
 refine Lst.r (Ev.load (i := 3) rfl rfl Try.isAgg22 (v := Sl.v s_a0_0) ((GameR.get_now gh0).off (by rfl))) ?_
 refine Lst.r (Ev.lenS (α := Int) (xs := a0.now) (by decide) rfl rfl Try.runUnderlying22 (hs_a0_0.mono fl (sc4 hM))) ?_
 refine mv0 rfl ?_
 refine nt0 ?_
 refine Cd.block ?_
 refine Cd.bound (Rd.le (α := Int) (xs := a0.now) (by decide) (hs_a0_0.mono fl (sc4 hM))) (fun hN72 => ?_)
 obtain ⟨ol22, H, HKl22⟩ := bind_some H
 refine Cd.loop (σ := Nat × Nat × Game × (List (List Lane)) × (List (List LaneR))) (fun (i22, k22, y23, l24, rs25) => [(0, pv b_a0 0), (1, iv a1), (35, iv (a0.now.length : Int)), (36, iv (i22 : Int))]) (fun (i22, k22, y23, l24, rs25) => (.own s_a0_1 3 1 (encs p20)) :: (.own s_a0_2 4 1 (encs p12)) :: (.mat LaneR.row 42 63 3 s_a0_3 rs25 rs25) :: (.blk b_a0 (enc (GameR.mk ({ y23 with now := a0.now, have_ := p20, recorded := p12, lanes := l24 } : Game) s_a0_0 s_a0_1 s_a0_2 s_a0_3.s)) 41) :: L) (fun Fx => (fun (i22, k22, y23, l24, rs25) => rangeF (snap_game_record_B0 a0 a1 p12 p20) k22 i22 (y23, l24) = some ol22 ∧ i22 + k22 = a0.now.length ∧ rs25.map (List.map LaneR.v) = l24)) (fun (i22, k22, y23, l24, rs25) => k22) (0, a0.now.length, ({ a0 with have_ := p20, recorded := p12 } : Game), a0.lanes, rs_a0_3) ⟨rfl, rfl, rfl, rfl, trivial⟩ rfl ⟨H, by omega, hm_a0_3⟩ ?_
 rintro F27 ⟨i22, k22, y23, l24, rs25⟩ hF28 ⟨H, hik22, fm26⟩
 refine Cd.as (e' := [(0, pv b_a0 0), (1, iv a1), (35, iv (a0.now.length : Int)), (36, iv (i22 : Int))]) (L' := (.own s_a0_1 3 1 (encs p20)) :: (.own s_a0_2 4 1 (encs p12)) :: (.mat LaneR.row 42 63 3 s_a0_3 rs25 rs25) :: (.blk b_a0 (enc (GameR.mk ({ y23 with now := a0.now, have_ := p20, recorded := p12, lanes := l24 } : Game) s_a0_0 s_a0_1 s_a0_2 s_a0_3.s)) 41) :: L) ⟨rfl, rfl, rfl, rfl, trivial⟩ rfl ?_
 rcases k22 with _ | k22
 ·have hc22 : decide ((i22 : Int) < (a0.now.length : Int)) = false := decide_eq_false (by omega)
  replace H := rangeF_end H
  refine sr0 ?_
  refine Lst.r (Ev.lss rfl rfl) ?_
  refine nt0 ?_
  refine Cd.seq ?_
  refine Cd.condF rfl hc22 ?_
  refine Cd.exit ?_
  refine At.then_exit ?_
  refine At.then_exit ?_
  refine At.in_exit ?_
  subst H
  replace H := HKl22
  try dsimp only [Sum.elim_inl] at H
  obtain rfl := some_inj H
  exact At.ret0 (.inr rfl) rfl hF28 (sk1 (sk1 (sk1 (sk1 (.refl _))))) ⟨rs25, rfl, rfl, fm26⟩
 have hc22 : decide ((i22 : Int) < (a0.now.length : Int)) = true := decide_eq_true (by omega)
 obtain ⟨c22, H, hgo22⟩ := rangeF_go H
 unfold snap_game_record_B0 at H
 try dsimp only at H
 refine sr0 ?_
 refine Lst.r (Ev.lss rfl rfl) ?_
 refine nt0 ?_
 refine Cd.seq ?_
 refine Cd.condT rfl hc22 ?_
 refine Cd.skip ?_
 refine At.then ?_
 refine Cd.seq ?_
 refine Cd.block ?_
 refine sr0 ?_
 refine mv0 rfl ?_
 refine Lst.r (Ev.assign rfl) ?_
 refine nsr ?_
 refine mv0 rfl ?_
 refine mv0 rfl ?_
 refine Lst.r (Ev.neq rfl rfl) ?_
 refine nt0 ?_
 rcases (Bool.eq_false_or_eq_true ((i22 : Int) != a1)).symm with hb29 | hb29
 ·replace H := ite_f hb29 H
  refine Cd.condF rfl hb29 ?_
  refine Cd.skip ?_
  refine At.in_normal ?_
  refine At.then ?_
  refine Cd.region ?_
  refine Lst.r (Ev.incr (by omega) rfl rfl) ?_
  refine mv0 rfl ?_
  refine Lst.nil ?_
  exact At.meet (i22 + 1, k22, ({ y23 with now := a0.now, have_ := p20, recorded := p12, lanes := l24 } : Game), l24, rs25) hF28 ⟨rfl, rfl, rfl, rfl, trivial⟩ rfl ⟨⟨hgo22 _ (some_inj H).symm, by omega, fm26⟩, Nat.lt_succ_self _⟩
 replace H := ite_t hb29 H
 refine Cd.condT rfl hb29 ?_
 obtain ⟨x30, h31, H⟩ := bind_some H
 obtain ⟨x34, h35, H⟩ := bind_some H
 obtain ⟨x38, h39, H⟩ := bind_some H
 obtain ⟨u45, h46, H⟩ := bind_some H
 obtain ⟨o51, h52, H⟩ := Let_some H
 refine Cd.headMeet (σ := Sl × (List Int)) 21 (fun (s49, l50) => [(0, pv b_a0 0), (1, iv a1), (35, iv (a0.now.length : Int)), (36, iv (i22 : Int)), (48, Sl.v (MH.row s_a0_3 a1.toNat)), (49, iv (i22 : Int)), (62, Sl.v s49)]) (fun (s49, l50) => (.own s49 3 1 (encs l50)) :: (.own s_a0_1 3 1 (encs p20)) :: (.own s_a0_2 4 1 (encs p12)) :: (.mat LaneR.row 42 63 3 s_a0_3 rs25 (matHole rs25 a1.toNat (i22 : Int).toNat (LaneR.mk Lane.zero Sl.nil))) :: (.blk b_a0 (enc (GameR.mk ({ y23 with now := a0.now, have_ := p20, recorded := p12, lanes := l24 } : Game) s_a0_0 s_a0_1 s_a0_2 s_a0_3.s)) 41) :: L) (fun _ (s49, l50) => l50 = o51) (by kernel_rfl) (by kernel_rfl) (behind_sink (by kernel_rfl) (by kernel_rfl) (by kernel_rfl)) (by kernel_rfl) (fun hsel hlt => ?_) ?_
 ·refine HdJ.keep (fun w => St w0 F27 ((.own s_a0_1 3 1 (encs p20)) :: (.own s_a0_2 4 1 (encs p12)) :: (.matO 42 63 s_a0_3 rs25) :: (.blk b_a0 (enc (GameR.mk ({ y23 with now := a0.now, have_ := p20, recorded := p12, lanes := l24 } : Game) s_a0_0 s_a0_1 s_a0_2 s_a0_3.s)) 41) :: L) w) (fun w h => trivial) ?_
  refine HdJ.tw hsel hlt 0 (.keep (.keep (.mo (.refl _)))) rfl (Ev.move rfl) ?_
  refine HdJ.tw hsel hlt 1 (.keep (.keep (.mo (.refl _)))) rfl (Ev.nilCheck rfl) ?_
  refine HdJ.tw hsel hlt 2 (.keep (.keep (.mo (.refl _)))) rfl (Ev.fieldAddr (off' := 3) rfl Try.runUnderlying41 rfl Try.sizeOf39 rfl rfl) ?_
  refine HdJ.tw hsel hlt 3 (.keep (.keep (.mo (.refl _)))) rfl (Ev.load (i := 3) rfl rfl Try.isAgg39 (v := Sl.v s_a0_3.s) ((GameR.get_lanes gh0).off (by rfl))) ?_
  refine HdJ.tw hsel hlt 4 (.keep (.keep (.mo (.refl _)))) rfl (Ev.move rfl) ?_
  have g53 := lat_some h31
  obtain ⟨r54, r54g, r54e, r54m⟩ := map_get fm26 g53.2.2
  refine HdJ.tw hsel hlt 5 (.keep (.keep (.mo (.refl _)))) rfl (Ev.indexS (α := LR LaneR) (xs := (MH.rl s_a0_3 rs25)) rfl rfl Try.runUnderlying39 Try.sizeOf42 rfl (by decide) (Rd.matOuterO (j := 2) rfl) g53.1 (by have := map_len fm26; rw [MH.rl_len]; omega)) ?_
  refine HdJ.tw hsel hlt 6 (.keep (.keep (.mo (.refl _)))) rfl (Ev.loadS (α := LR LaneR) rfl (Rd.matOuterO (j := 2) rfl) Try.isAgg42 (v := Sl.v (MH.row s_a0_3 a1.toNat)) ((Get.elemN (s := 1) rfl (MH.rl_get r54g) gh0).off (by omega))) ?_
  refine HdJ.tw hsel hlt 7 (.keep (.keep (.mo (.refl _)))) rfl (Ev.move rfl) ?_
  refine HdJ.tw hsel hlt 8 (.keep (.keep (.mo (.refl _)))) rfl (Ev.move rfl) ?_
  refine HdJ.tw hsel hlt 9 (.keep (.keep (.mo (.refl _)))) rfl (Ev.nilCheck rfl) ?_
  refine HdJ.tw hsel hlt 10 (.keep (.keep (.mo (.refl _)))) rfl (Ev.fieldAddr (off' := 3) rfl Try.runUnderlying41 rfl Try.sizeOf39 rfl rfl) ?_
  refine HdJ.tw hsel hlt 11 (.keep (.keep (.mo (.refl _)))) rfl (Ev.load (i := 3) rfl rfl Try.isAgg39 (v := Sl.v s_a0_3.s) ((GameR.get_lanes gh0).off (by rfl))) ?_
  refine HdJ.tw hsel hlt 12 (.keep (.keep (.mo (.refl _)))) rfl (Ev.move rfl) ?_
  have g55 := lat_some h35
  obtain ⟨r56, r56g, r56e, r56m⟩ := map_get fm26 g55.2.2
  refine HdJ.tw hsel hlt 13 (.keep (.keep (.mo (.refl _)))) rfl (Ev.indexS (α := LR LaneR) (xs := (MH.rl s_a0_3 rs25)) rfl rfl Try.runUnderlying39 Try.sizeOf42 rfl (by decide) (Rd.matOuterO (j := 2) rfl) g55.1 (by have := map_len fm26; rw [MH.rl_len]; omega)) ?_
  refine HdJ.tw hsel hlt 14 (.keep (.keep (.mo (.refl _)))) rfl (Ev.loadS (α := LR LaneR) rfl (Rd.matOuterO (j := 2) rfl) Try.isAgg42 (v := Sl.v (MH.row s_a0_3 a1.toNat)) ((Get.elemN (s := 1) rfl (MH.rl_get r56g) gh0).off (by omega))) ?_
  refine HdJ.tw hsel hlt 15 (.keep (.keep (.mo (.refl _)))) rfl (Ev.move rfl) ?_
  have g57 := lat_some h39
  obtain ⟨⟨r58v, r58h0⟩, r58g, r58e, r58m⟩ := map_get r56e g57.2.2
  obtain rfl : x38 = r58v := r58e.symm
  refine HdJ.tw hsel hlt 16 (.keep (.keep (.mo (.refl _)))) rfl (Ev.indexS (α := LaneR) (xs := r56) rfl rfl Try.runUnderlying42 Try.sizeOf63 rfl (by decide) (Rd.matRowO (j := 2) (p := a1.toNat) rfl r56g) g57.1 (by have := map_len r56e; omega)) ?_
  refine HdJ.tw hsel hlt 17 (.keep (.keep (.mo (.refl _)))) rfl (Ev.fieldS (α := LaneR) (f' := (i22 : Int).toNat * 3 + 0) rfl (Rd.matRowO (j := 2) (p := a1.toNat) rfl r56g) ((Get.elemN (s := 3) rfl r58g gh0).off (by omega)) rfl Try.runUnderlying63 rfl Try.sizeOf22 rfl rfl rfl) ?_
  refine HdJ.tw hsel hlt 18 (.keep (.keep (.mo (.refl _)))) rfl (Ev.loadS (α := LaneR) rfl (Rd.matRowO (j := 2) (p := a1.toNat) rfl r56g) Try.isAgg22 (v := Sl.v r58h0) ((Get.elemN (s := 3) rfl r58g (LaneR.get_words gh0)).off (by omega))) ?_
  refine HdJ.o1 19 (fun inv => ?_)
  refine Lst.buildSlice (α := Int) (xs := ([(-1 : Int)] : List Int)) (pv := [(0, iv (-1 : Int))]) rfl rfl (by decide) ⟨rfl, rfl, trivial⟩ (run_buildSlice (α := Int) (z0 := (0 : Int)) (xs := ([(-1 : Int)] : List Int)) Try.runUnderlying22 Try.sizeOf3 Try.zeroValue3 rfl rfl rfl (by decide) rfl (fill_cons (cs := encs (List.replicate 1 (0 : Int))) (cs' := encs ((List.replicate 1 (0 : Int)).set 0 (-1 : Int))) (vs := [iv (-1 : Int)]) rfl rfl rfl ((Put.elemN (s := 1) (i := 0) (x := (0 : Int)) (y := (-1 : Int)) rfl rfl (Put.here (vs := [iv (-1 : Int)]) rfl)).off rfl) fill_nil)) rfl rfl (by decide) (fun s59 _ => ?_)
  refine hdw inv (.skip (.keep (.keep (.mo (.refl _))))) ?_
  refine HdJ.o1 20 (fun inv => ?_)
  refine Lst.front (i := 3) rfl (L' := (.mat LaneR.row 42 63 3 s_a0_3 rs25 rs25) :: (.own s59 3 1 (encs ([(-1 : Int)] : List Int))) :: (.own s_a0_1 3 1 (encs p20)) :: (.own s_a0_2 4 1 (encs p12)) :: (.blk b_a0 (enc (GameR.mk ({ y23 with now := a0.now, have_ := p20, recorded := p12, lanes := l24 } : Game) s_a0_0 s_a0_1 s_a0_2 s_a0_3.s)) 41) :: L) rfl ?_
  refine Lst.matOut (row := LaneR.row) (z0 := (LaneR.mk Lane.zero Sl.nil)) r56g r58g rfl rfl rfl ?_
  refine Lst.its (L' := (.own r58h0 3 1 (encs x38.words)) :: (.mat LaneR.row 42 63 3 s_a0_3 rs25 (matHole rs25 a1.toNat (i22 : Int).toNat (LaneR.mk Lane.zero Sl.nil))) :: (.own s59 3 1 (encs ([(-1 : Int)] : List Int))) :: (.own s_a0_1 3 1 (encs p20)) :: (.own s_a0_2 4 1 (encs p12)) :: (.blk b_a0 (enc (GameR.mk ({ y23 with now := a0.now, have_ := p20, recorded := p12, lanes := l24 } : Game) s_a0_0 s_a0_1 s_a0_2 s_a0_3.s)) 41) :: L) rfl ?_
  refine Lst.append (i := 0) (α := Int) (xs := x38.words) (ys := ([(-1 : Int)] : List Int)) rfl rfl (by decide) rfl rfl Try.runUnderlying22 Try.typeInfo3 rfl rfl rfl rfl rfl rfl (rdo 2 rfl rfl rfl) rfl (room_some h46) rfl (fun s60 => ?_)
  refine Lst.its (L' := (.own s60 3 1 (encs (x38.words ++ ([(-1 : Int)] : List Int)))) :: (.mat LaneR.row 42 63 3 s_a0_3 rs25 (matHole rs25 a1.toNat (i22 : Int).toNat (LaneR.mk Lane.zero Sl.nil))) :: (.own s59 3 1 (encs ([(-1 : Int)] : List Int))) :: (.own s_a0_1 3 1 (encs p20)) :: (.own s_a0_2 4 1 (encs p12)) :: (.blk b_a0 (enc (GameR.mk ({ y23 with now := a0.now, have_ := p20, recorded := p12, lanes := l24 } : Game) s_a0_0 s_a0_1 s_a0_2 s_a0_3.s)) 41) :: L) rfl ?_
  refine Lst.front (i := 5) rfl rfl ?_
  refine Lst.front (i := 2) rfl rfl ?_
  refine Lst.front (i := 5) rfl (L' := (.own s_a0_2 4 1 (encs p12)) :: (.mat LaneR.row 42 63 3 s_a0_3 rs25 (matHole rs25 a1.toNat (i22 : Int).toNat (LaneR.mk Lane.zero Sl.nil))) :: (.blk b_a0 (enc (GameR.mk ({ y23 with now := a0.now, have_ := p20, recorded := p12, lanes := l24 } : Game) s_a0_0 s_a0_1 s_a0_2 s_a0_3.s)) 41) :: (.own s60 3 1 (encs (x38.words ++ ([(-1 : Int)] : List Int)))) :: (.own s59 3 1 (encs ([(-1 : Int)] : List Int))) :: (.own s_a0_1 3 1 (encs p20)) :: L) rfl ?_
  refine Lst.front (i := 5) rfl rfl ?_
  refine Lst.front (i := 5) rfl rfl ?_
  refine Lst.front (i := 5) rfl (L' := (.own s60 3 1 (encs (x38.words ++ ([(-1 : Int)] : List Int)))) :: (.own s59 3 1 (encs ([(-1 : Int)] : List Int))) :: (.own s_a0_1 3 1 (encs p20)) :: (.own s_a0_2 4 1 (encs p12)) :: (.mat LaneR.row 42 63 3 s_a0_3 rs25 (matHole rs25 a1.toNat (i22 : Int).toNat (LaneR.mk Lane.zero Sl.nil))) :: (.blk b_a0 (enc (GameR.mk ({ y23 with now := a0.now, have_ := p20, recorded := p12, lanes := l24 } : Game) s_a0_0 s_a0_1 s_a0_2 s_a0_3.s)) 41) :: L) rfl ?_
  refine hdw inv (.skip (.skip (.keep (.keep (.mo (.refl _)))))) ?_
  refine HdJ.done (by kernel_rfl) ?_
  refine At.less (L' := (.own s60 3 1 (encs (x38.words ++ ([(-1 : Int)] : List Int)))) :: (.own s_a0_1 3 1 (encs p20)) :: (.own s_a0_2 4 1 (encs p12)) :: (.mat LaneR.row 42 63 3 s_a0_3 rs25 (matHole rs25 a1.toNat (i22 : Int).toNat (LaneR.mk Lane.zero Sl.nil))) :: (.blk b_a0 (enc (GameR.mk ({ y23 with now := a0.now, have_ := p20, recorded := p12, lanes := l24 } : Game) s_a0_0 s_a0_1 s_a0_2 s_a0_3.s)) 41) :: L) (sk1 (sc1 (sk1 (sk1 (sk1 (sk1 (.refl _))))))) ?_
  exact At.meetN (s60, x38.words ++ ([(-1 : Int)] : List Int)) fl ⟨rfl, rfl, rfl, rfl, rfl, rfl, rfl, trivial⟩ rfl h52
 rintro F61 ⟨s49, l50⟩ hF62 hy
 subst hy
 refine Lst.as (e' := [(0, pv b_a0 0), (1, iv a1), (35, iv (a0.now.length : Int)), (36, iv (i22 : Int)), (48, Sl.v (MH.row s_a0_3 a1.toNat)), (49, iv (i22 : Int)), (62, Sl.v s49)]) (L' := (.own s49 3 1 (encs l50)) :: (.own s_a0_1 3 1 (encs p20)) :: (.own s_a0_2 4 1 (encs p12)) :: (.mat LaneR.row 42 63 3 s_a0_3 rs25 (matHole rs25 a1.toNat (i22 : Int).toNat (LaneR.mk Lane.zero Sl.nil))) :: (.blk b_a0 (enc (GameR.mk ({ y23 with now := a0.now, have_ := p20, recorded := p12, lanes := l24 } : Game) s_a0_0 s_a0_1 s_a0_2 s_a0_3.s)) 41) :: L) ⟨rfl, rfl, rfl, rfl, rfl, rfl, rfl, trivial⟩ rfl ?_
 have g63 := lat_some h31
 obtain ⟨r64, r64g, r64e, r64m⟩ := map_get fm26 g63.2.2
 obtain ⟨x65, h66, H⟩ := bind_some H
 have g67 := lat_some h66
 obtain ⟨⟨r68v, r68h0⟩, r68g, r68e, r68m⟩ := map_get r64e g67.2.2
 obtain rfl : x65 = r68v := r68e.symm
 refine Lst.r (Ev.indexS (α := LaneR) (xs := r64) rfl rfl Try.runUnderlying42 Try.sizeOf63 rfl (by decide) (Rd.matRow (j := 3) (p := a1.toNat) rfl r64g) g67.1 (by have := map_len r64e; omega)) ?_
 refine Lst.r (Ev.fieldS (α := LaneR) (f' := (i22 : Int).toNat * 3 + 0) rfl (Rd.matRow (j := 3) (p := a1.toNat) rfl r64g) ((Get.elemN (s := 3) rfl r68g gh0).off (by omega)) rfl Try.runUnderlying63 rfl Try.sizeOf22 rfl rfl rfl) ?_
 obtain ⟨p69, h70, H⟩ := Let_some H
 have hm71 : (rs25.set a1.toNat (r64.set (i22 : Int).toNat (LaneR.mk ({ x65 with words := l50 } : Lane) s49))).map (List.map LaneR.v) = p69 := (mat_hm fm26 r64e a1.toNat (i22 : Int).toNat (LaneR.mk ({ x65 with words := l50 } : Lane) s49)).trans h70
 refine Lst.front (i := 3) rfl (L' := (.mat LaneR.row 42 63 3 s_a0_3 rs25 (matHole rs25 a1.toNat (i22 : Int).toNat (LaneR.mk Lane.zero Sl.nil))) :: (.own s49 3 1 (encs l50)) :: (.own s_a0_1 3 1 (encs p20)) :: (.own s_a0_2 4 1 (encs p12)) :: (.blk b_a0 (enc (GameR.mk ({ y23 with now := a0.now, have_ := p20, recorded := p12, lanes := l24 } : Game) s_a0_0 s_a0_1 s_a0_2 s_a0_3.s)) 41) :: L) rfl ?_
 refine Lst.matStore rfl rfl rfl rfl r64g Try.sizeOf22 (vs := [Sl.v s49]) rfl rfl (by decide) rfl (r' := (r64.set (i22 : Int).toNat (LaneR.mk ({ x65 with words := l50 } : Lane) s49))) ((Put.elemN (s := 3) (x := (LaneR.mk x65 r68h0)) (y := (LaneR.mk ({ x65 with words := l50 } : Lane) s49)) rfl r68g (LaneR.put_words (p := (LaneR.mk x65 r68h0)) (l := l50) (Put.here (vs := [Sl.v s49]) rfl))).off (by omega)) ?_
 refine Lst.its (L' := (.mat LaneR.row 42 63 3 s_a0_3 (rs25.set a1.toNat (r64.set (i22 : Int).toNat (LaneR.mk ({ x65 with words := l50 } : Lane) s49))) (matHole rs25 a1.toNat (i22 : Int).toNat (LaneR.mk Lane.zero Sl.nil))) :: (.own s49 3 1 (encs l50)) :: (.own s_a0_1 3 1 (encs p20)) :: (.own s_a0_2 4 1 (encs p12)) :: (.blk b_a0 (enc (GameR.mk ({ y23 with now := a0.now, have_ := p20, recorded := p12, lanes := p69 } : Game) s_a0_0 s_a0_1 s_a0_2 s_a0_3.s)) 41) :: L) rfl ?_
 refine Lst.front (i := 1) rfl (L' := (.own s49 3 1 (encs l50)) :: (.mat LaneR.row 42 63 3 s_a0_3 (rs25.set a1.toNat (r64.set (i22 : Int).toNat (LaneR.mk ({ x65 with words := l50 } : Lane) s49))) (matHole rs25 a1.toNat (i22 : Int).toNat (LaneR.mk Lane.zero Sl.nil))) :: (.own s_a0_1 3 1 (encs p20)) :: (.own s_a0_2 4 1 (encs p12)) :: (.blk b_a0 (enc (GameR.mk ({ y23 with now := a0.now, have_ := p20, recorded := p12, lanes := p69 } : Game) s_a0_0 s_a0_1 s_a0_2 s_a0_3.s)) 41) :: L) rfl ?_
 refine Lst.matIn (row := LaneR.row) (z0 := (LaneR.mk Lane.zero Sl.nil)) (z' := (LaneR.mk ({ x65 with words := l50 } : Lane) s49)) r64g r68g rfl rfl ?_
 refine Lst.its (L' := (.mat LaneR.row 42 63 3 s_a0_3 (rs25.set a1.toNat (r64.set (i22 : Int).toNat (LaneR.mk ({ x65 with words := l50 } : Lane) s49))) (rs25.set a1.toNat (r64.set (i22 : Int).toNat (LaneR.mk ({ x65 with words := l50 } : Lane) s49)))) :: (.own s_a0_1 3 1 (encs p20)) :: (.own s_a0_2 4 1 (encs p12)) :: (.blk b_a0 (enc (GameR.mk ({ y23 with now := a0.now, have_ := p20, recorded := p12, lanes := p69 } : Game) s_a0_0 s_a0_1 s_a0_2 s_a0_3.s)) 41) :: L) rfl ?_
 refine Lst.nil ?_
 refine At.in_normal ?_
 refine At.then ?_
 refine Cd.region ?_
 refine Lst.r (Ev.incr (by omega) rfl rfl) ?_
 refine mv0 rfl ?_
 refine Lst.nil ?_
 refine At.front (i := 2) rfl rfl ?_
 refine At.front (i := 2) rfl (L' := (.own s_a0_1 3 1 (encs p20)) :: (.own s_a0_2 4 1 (encs p12)) :: (.mat LaneR.row 42 63 3 s_a0_3 (rs25.set a1.toNat (r64.set (i22 : Int).toNat (LaneR.mk ({ x65 with words := l50 } : Lane) s49))) (rs25.set a1.toNat (r64.set (i22 : Int).toNat (LaneR.mk ({ x65 with words := l50 } : Lane) s49)))) :: (.blk b_a0 (enc (GameR.mk ({ y23 with now := a0.now, have_ := p20, recorded := p12, lanes := p69 } : Game) s_a0_0 s_a0_1 s_a0_2 s_a0_3.s)) 41) :: L) rfl ?_
 exact At.meet (i22 + 1, k22, ({ y23 with now := a0.now, have_ := p20, recorded := p12, lanes := p69 } : Game), p69, (rs25.set a1.toNat (r64.set (i22 : Int).toNat (LaneR.mk ({ x65 with words := l50 } : Lane) s49)))) (FLe.trans hF28 hF62) ⟨rfl, rfl, rfl, rfl, trivial⟩ rfl ⟨⟨hgo22 _ (some_inj H).symm, by omega, hm71⟩, Nat.lt_succ_self _⟩
set_option maxRecDepth 20000 in
theorem snap_game_take_sim {a0 : Game} {a1 : Int} {a2 : Int} {b_a0 : Nat} {s_a0_0 : Sl} {s_a0_1 : Sl} {s_a0_2 : Sl} {s_a0_3 : MH} {rs_a0_3 : List (List LaneR)} {r : (List Int) × (List Int) × (List Bool) × (List (List Lane)) × Game} (H : snap_game_take a0 a1 a2 = some r) (w0 : World) (F : Frz) (M L : List Item) (hM : M.Sublist L) (hm_a0_3 : rs_a0_3.map (List.map LaneR.v) = a0.lanes) : Ok Try.prog w0 23 [pv b_a0 0, iv a1, iv a2] F ((.own s_a0_0 3 1 (encs a0.now)) :: (.own s_a0_1 3 1 (encs a0.have_)) :: (.own s_a0_2 4 1 (encs a0.recorded)) :: (.mat LaneR.row 42 63 3 s_a0_3 rs_a0_3 rs_a0_3) :: (.blk b_a0 (enc (GameR.mk a0 s_a0_0 s_a0_1 s_a0_2 s_a0_3.s)) 41) :: L) (fun Fx L' v => ∃ (rs6 : List (List LaneR)), v = .tuple #[] ∧ L' = (.own s_a0_0 3 1 (encs r.1)) :: (.own s_a0_1 3 1 (encs r.2.1)) :: (.own s_a0_2 4 1 (encs r.2.2.1)) :: (.mat LaneR.row 42 63 3 s_a0_3 rs6 rs6) :: (.blk b_a0 (enc (GameR.mk ({ r.2.2.2.2 with now := r.1, have_ := r.2.1, recorded := r.2.2.1, lanes := r.2.2.2.1 } : Game) s_a0_0 s_a0_1 s_a0_2 s_a0_3.s)) 41) :: L ∧ rs6.map (List.map LaneR.v) = r.2.2.2.1) := by
 unfold snap_game_take at H
 refine Ok.enter (m := 3) (n := 77) Try.func23 rfl rfl rfl (by decide) ?_
 refine Cd.env (e' := [(0, pv b_a0 0), (1, iv a1), (2, iv a2)]) rfl ?_
 refine sr0 ?_
 refine mv0 rfl ?_
 refine Lst.r (Ev.nilCheck rfl) ?_
 refine Lst.r (Ev.fieldAddr (off' := 3) rfl Try.runUnderlying41 rfl Try.sizeOf39 rfl rfl) ?_
 refine Lst.r (Ev.load (i := 4) rfl rfl Try.isAgg39 (v := Sl.v s_a0_3.s) ((GameR.get_lanes gh0).off (by rfl))) ?_
 refine mv0 rfl ?_
 obtain ⟨x6, h7, H⟩ := bind_some H
 have g8 := lat_some h7
 obtain ⟨r9, r9g, r9e, r9m⟩ := map_get hm_a0_3 g8.2.2
 refine Lst.r (Ev.indexS (α := LR LaneR) (xs := (MH.rl s_a0_3 rs_a0_3)) rfl rfl Try.runUnderlying39 Try.sizeOf42 rfl (by decide) (Rd.matOuter (j := 3) rfl) g8.1 (by have := map_len hm_a0_3; rw [MH.rl_len]; omega)) ?_
 refine Lst.r (Ev.loadS (α := LR LaneR) rfl (Rd.matOuter (j := 3) rfl) Try.isAgg42 (v := Sl.v (MH.row s_a0_3 a1.toNat)) ((Get.elemN (s := 1) rfl (MH.rl_get r9g) gh0).off (by omega))) ?_
 refine mv0 rfl ?_
 obtain ⟨x10, h11, H⟩ := bind_some H
 have g12 := lat_some h11
 obtain ⟨⟨r13v, r13h0⟩, r13g, r13e, r13m⟩ := map_get r9e g12.2.2
 obtain rfl : x10 = r13v := r13e.symm
 refine Lst.r (Ev.indexS (α := LaneR) (xs := r9) rfl rfl Try.runUnderlying42 Try.sizeOf63 rfl (by decide) (Rd.matRow (j := 3) (p := a1.toNat) rfl r9g) g12.1 (by have := map_len r9e; omega)) ?_
 refine Lst.r (Ev.assign rfl) ?_
 refine nt0 ?_
 refine Cd.seq ?_
 refine sr0 ?_
 refine mv0 rfl ?_
 refine Lst.r (Ev.nilCheckS (α := LaneR) rfl (Rd.matRow (j := 3) (p := a1.toNat) rfl r9g) ((Get.elemN (s := 3) rfl r13g gh0).off (by omega)) rfl) ?_
 refine Lst.r (Ev.fieldS (α := LaneR) (f' := a2.toNat * 3 + 0) rfl (Rd.matRow (j := 3) (p := a1.toNat) rfl r9g) ((Get.elemN (s := 3) rfl r13g gh0).off (by omega)) rfl Try.runUnderlying63 rfl Try.sizeOf22 rfl rfl rfl) ?_
 refine Lst.r (Ev.loadS (α := LaneR) rfl (Rd.matRow (j := 3) (p := a1.toNat) rfl r9g) Try.isAgg22 (v := Sl.v r13h0) ((Get.elemN (s := 3) rfl r13g (LaneR.get_words gh0)).off (by omega))) ?_
 refine Lst.r (Ev.lenS (α := Int) (xs := x10.words) (by decide) rfl rfl Try.runUnderlying22 (Rd.matWord (row := LaneR.row) (z := ⟨x10, r13h0⟩) (j := 3) rfl r9g r13g)) ?_
 refine Lst.r (Ev.eql rfl rfl) ?_
 refine nt0 ?_
 rcases Bool.eq_false_or_eq_true ((x10.words.length : Int) == (0 : Int)) with hb14 | hb14
 ·replace H := ite_t hb14 H
  refine Cd.condT rfl hb14 ?_
  obtain rfl := some_inj H
  refine Cd.ret ?_
  refine At.then_ret ?_
  exact At.ret0 (.inl rfl) rfl fl (sk1 (sk1 (sk1 (sk1 (sk1 (.refl _)))))) ⟨rs_a0_3, rfl, rfl, hm_a0_3⟩
 replace H := ite_f hb14 H
 refine Cd.condF rfl hb14 ?_
 refine Cd.skip ?_
 refine At.then ?_
 refine Cd.seq ?_
 refine Cd.as (e' := [(0, pv b_a0 0), (2, iv a2), (6, Sl.at (MH.row s_a0_3 a1.toNat) (a2.toNat * 3))]) (L' := (.own s_a0_0 3 1 (encs a0.now)) :: (.own s_a0_1 3 1 (encs a0.have_)) :: (.own s_a0_2 4 1 (encs a0.recorded)) :: (.mat LaneR.row 42 63 3 s_a0_3 rs_a0_3 rs_a0_3) :: (.blk b_a0 (enc (GameR.mk a0 s_a0_0 s_a0_1 s_a0_2 s_a0_3.s)) 41) :: L) ⟨rfl, rfl, rfl, trivial⟩ rfl ?_
 refine Cd.region ?_
 refine mv0 rfl ?_
 refine Lst.r (Ev.nilCheckS (α := LaneR) rfl (Rd.matRow (j := 3) (p := a1.toNat) rfl r9g) ((Get.elemN (s := 3) rfl r13g gh0).off (by omega)) rfl) ?_
 refine Lst.r (Ev.fieldS (α := LaneR) (f' := a2.toNat * 3 + 0) rfl (Rd.matRow (j := 3) (p := a1.toNat) rfl r9g) ((Get.elemN (s := 3) rfl r13g gh0).off (by omega)) rfl Try.runUnderlying63 rfl Try.sizeOf22 rfl rfl rfl) ?_
 refine Lst.r (Ev.loadS (α := LaneR) rfl (Rd.matRow (j := 3) (p := a1.toNat) rfl r9g) Try.isAgg22 (v := Sl.v r13h0) ((Get.elemN (s := 3) rfl r13g (LaneR.get_words gh0)).off (by omega))) ?_
 obtain ⟨x15, h16, H⟩ := bind_some H
 have g17 := lat_some h16
 refine Lst.r (Ev.indexS (α := Int) (xs := x10.words) rfl rfl Try.runUnderlying22 Try.sizeOf3 rfl (by decide) (Rd.matWord (row := LaneR.row) (z := ⟨x10, r13h0⟩) (j := 3) rfl r9g r13g) g17.1 g17.2.1) ?_
 refine Lst.r (Ev.loadS (α := Int) rfl (Rd.matWord (row := LaneR.row) (z := ⟨x10, r13h0⟩) (j := 3) rfl r9g r13g) Try.isAgg3 (v := iv x15) ((Get.elemN (s := 1) (x := x15) rfl g17.2.2 gh0).off (by omega))) ?_
 refine Lst.r (Ev.assign rfl) ?_
 refine nsr ?_
 refine mv0 rfl ?_
 refine mv0 rfl ?_
 refine Lst.r (Ev.nilCheckS (α := LaneR) rfl (Rd.matRow (j := 3) (p := a1.toNat) rfl r9g) ((Get.elemN (s := 3) rfl r13g gh0).off (by omega)) rfl) ?_
 refine Lst.r (Ev.fieldS (α := LaneR) (f' := a2.toNat * 3 + 0) rfl (Rd.matRow (j := 3) (p := a1.toNat) rfl r9g) ((Get.elemN (s := 3) rfl r13g gh0).off (by omega)) rfl Try.runUnderlying63 rfl Try.sizeOf22 rfl rfl rfl) ?_
 refine Lst.r (Ev.loadS (α := LaneR) rfl (Rd.matRow (j := 3) (p := a1.toNat) rfl r9g) Try.isAgg22 (v := Sl.v r13h0) ((Get.elemN (s := 3) rfl r13g (LaneR.get_words gh0)).off (by omega))) ?_
 refine Lst.front (i := 3) rfl (L' := (.mat LaneR.row 42 63 3 s_a0_3 rs_a0_3 rs_a0_3) :: (.own s_a0_0 3 1 (encs a0.now)) :: (.own s_a0_1 3 1 (encs a0.have_)) :: (.own s_a0_2 4 1 (encs a0.recorded)) :: (.blk b_a0 (enc (GameR.mk a0 s_a0_0 s_a0_1 s_a0_2 s_a0_3.s)) 41) :: L) rfl ?_
 refine Lst.matOut (row := LaneR.row) (z0 := (LaneR.mk Lane.zero Sl.nil)) r9g r13g rfl rfl rfl ?_
 refine Lst.its (L' := (.own r13h0 3 1 (encs x10.words)) :: (.mat LaneR.row 42 63 3 s_a0_3 rs_a0_3 (matHole rs_a0_3 a1.toNat a2.toNat (LaneR.mk Lane.zero Sl.nil))) :: (.own s_a0_0 3 1 (encs a0.now)) :: (.own s_a0_1 3 1 (encs a0.have_)) :: (.own s_a0_2 4 1 (encs a0.recorded)) :: (.blk b_a0 (enc (GameR.mk a0 s_a0_0 s_a0_1 s_a0_2 s_a0_3.s)) 41) :: L) rfl ?_
 obtain ⟨m19, h20, H⟩ := bind_some H
 obtain ⟨g21, gl22⟩ := cutL_some h20
 try dsimp only at g21
 refine Lst.r (Ev.cut (α := Int) (xs := x10.words) (i := (1 : Int)) (j := (x10.words.length : Int)) rfl rfl rfl Try.runUnderlying22 Try.sizeOf3 rfl (by decide) (rdo 0 rfl rfl rfl) g21.1 g21.2.1 g21.2.2) ?_
 refine Lst.cutOwn (i := 0) (α := Int) (lo := ((1 : Int) : Int).toNat) (hi := ((x10.words.length : Int) : Int).toNat) rfl rfl rfl (by decide) (by omega) (by omega) (L' := (.own (r13h0.cut ((1 : Int) : Int).toNat ((x10.words.length : Int) : Int).toNat 1) 3 1 (encs m19)) :: (.mat LaneR.row 42 63 3 s_a0_3 rs_a0_3 (matHole rs_a0_3 a1.toNat a2.toNat (LaneR.mk Lane.zero Sl.nil))) :: (.own s_a0_0 3 1 (encs a0.now)) :: (.own s_a0_1 3 1 (encs a0.have_)) :: (.own s_a0_2 4 1 (encs a0.recorded)) :: (.blk b_a0 (enc (GameR.mk a0 s_a0_0 s_a0_1 s_a0_2 s_a0_3.s)) 41) :: L) (by subst gl22; rfl) ?_
 refine Lst.r (Ev.nilCheckS (α := LaneR) rfl (Rd.matRow (j := 1) (p := a1.toNat) rfl r9g) ((Get.elemN (s := 3) rfl r13g gh0).off (by omega)) rfl) ?_
 refine Lst.r (Ev.fieldS (α := LaneR) (f' := a2.toNat * 3 + 0) rfl (Rd.matRow (j := 1) (p := a1.toNat) rfl r9g) ((Get.elemN (s := 3) rfl r13g gh0).off (by omega)) rfl Try.runUnderlying63 rfl Try.sizeOf22 rfl rfl rfl) ?_
 obtain ⟨p24, h25, H⟩ := Let_some H
 have hm26 : (rs_a0_3.set a1.toNat (r9.set a2.toNat (LaneR.mk ({ x10 with words := m19 } : Lane) (r13h0.cut ((1 : Int) : Int).toNat ((x10.words.length : Int) : Int).toNat 1)))).map (List.map LaneR.v) = p24 := (mat_hm hm_a0_3 r9e a1.toNat a2.toNat (LaneR.mk ({ x10 with words := m19 } : Lane) (r13h0.cut ((1 : Int) : Int).toNat ((x10.words.length : Int) : Int).toNat 1))).trans h25
 refine Lst.front (i := 1) rfl (L' := (.mat LaneR.row 42 63 3 s_a0_3 rs_a0_3 (matHole rs_a0_3 a1.toNat a2.toNat (LaneR.mk Lane.zero Sl.nil))) :: (.own (r13h0.cut ((1 : Int) : Int).toNat ((x10.words.length : Int) : Int).toNat 1) 3 1 (encs m19)) :: (.own s_a0_0 3 1 (encs a0.now)) :: (.own s_a0_1 3 1 (encs a0.have_)) :: (.own s_a0_2 4 1 (encs a0.recorded)) :: (.blk b_a0 (enc (GameR.mk a0 s_a0_0 s_a0_1 s_a0_2 s_a0_3.s)) 41) :: L) rfl ?_
 refine Lst.matStore rfl rfl rfl rfl r9g Try.sizeOf22 (vs := [Sl.v (r13h0.cut ((1 : Int) : Int).toNat ((x10.words.length : Int) : Int).toNat 1)]) rfl rfl (by decide) rfl (r' := (r9.set a2.toNat (LaneR.mk ({ x10 with words := m19 } : Lane) (r13h0.cut ((1 : Int) : Int).toNat ((x10.words.length : Int) : Int).toNat 1)))) ((Put.elemN (s := 3) (x := (LaneR.mk x10 r13h0)) (y := (LaneR.mk ({ x10 with words := m19 } : Lane) (r13h0.cut ((1 : Int) : Int).toNat ((x10.words.length : Int) : Int).toNat 1))) rfl r13g (LaneR.put_words (p := (LaneR.mk x10 r13h0)) (l := m19) (Put.here (vs := [Sl.v (r13h0.cut ((1 : Int) : Int).toNat ((x10.words.length : Int) : Int).toNat 1)]) rfl))).off (by omega)) ?_
 refine Lst.its (L' := (.mat LaneR.row 42 63 3 s_a0_3 (rs_a0_3.set a1.toNat (r9.set a2.toNat (LaneR.mk ({ x10 with words := m19 } : Lane) (r13h0.cut ((1 : Int) : Int).toNat ((x10.words.length : Int) : Int).toNat 1)))) (matHole rs_a0_3 a1.toNat a2.toNat (LaneR.mk Lane.zero Sl.nil))) :: (.own (r13h0.cut ((1 : Int) : Int).toNat ((x10.words.length : Int) : Int).toNat 1) 3 1 (encs m19)) :: (.own s_a0_0 3 1 (encs a0.now)) :: (.own s_a0_1 3 1 (encs a0.have_)) :: (.own s_a0_2 4 1 (encs a0.recorded)) :: (.blk b_a0 (enc (GameR.mk ({ a0 with lanes := p24 } : Game) s_a0_0 s_a0_1 s_a0_2 s_a0_3.s)) 41) :: L) rfl ?_
 refine Lst.front (i := 1) rfl (L' := (.own (r13h0.cut ((1 : Int) : Int).toNat ((x10.words.length : Int) : Int).toNat 1) 3 1 (encs m19)) :: (.mat LaneR.row 42 63 3 s_a0_3 (rs_a0_3.set a1.toNat (r9.set a2.toNat (LaneR.mk ({ x10 with words := m19 } : Lane) (r13h0.cut ((1 : Int) : Int).toNat ((x10.words.length : Int) : Int).toNat 1)))) (matHole rs_a0_3 a1.toNat a2.toNat (LaneR.mk Lane.zero Sl.nil))) :: (.own s_a0_0 3 1 (encs a0.now)) :: (.own s_a0_1 3 1 (encs a0.have_)) :: (.own s_a0_2 4 1 (encs a0.recorded)) :: (.blk b_a0 (enc (GameR.mk ({ a0 with lanes := p24 } : Game) s_a0_0 s_a0_1 s_a0_2 s_a0_3.s)) 41) :: L) rfl ?_
 refine Lst.matIn (row := LaneR.row) (z0 := (LaneR.mk Lane.zero Sl.nil)) (z' := (LaneR.mk ({ x10 with words := m19 } : Lane) (r13h0.cut ((1 : Int) : Int).toNat ((x10.words.length : Int) : Int).toNat 1))) r9g r13g rfl rfl ?_
 refine Lst.its (L' := (.mat LaneR.row 42 63 3 s_a0_3 (rs_a0_3.set a1.toNat (r9.set a2.toNat (LaneR.mk ({ x10 with words := m19 } : Lane) (r13h0.cut ((1 : Int) : Int).toNat ((x10.words.length : Int) : Int).toNat 1)))) (rs_a0_3.set a1.toNat (r9.set a2.toNat (LaneR.mk ({ x10 with words := m19 } : Lane) (r13h0.cut ((1 : Int) : Int).toNat ((x10.words.length : Int) : Int).toNat 1))))) :: (.own s_a0_0 3 1 (encs a0.now)) :: (.own s_a0_1 3 1 (encs a0.have_)) :: (.own s_a0_2 4 1 (encs a0.recorded)) :: (.blk b_a0 (enc (GameR.mk ({ a0 with lanes := p24 } : Game) s_a0_0 s_a0_1 s_a0_2 s_a0_3.s)) 41) :: L) rfl ?_
 refine nt0 ?_
 refine Cd.seq ?_
 refine sr0 ?_
 refine mv0 rfl ?_
 refine Lst.r (Ev.eql rfl rfl) ?_
 refine nt0 ?_
 rcases Bool.eq_false_or_eq_true (x15 == (-1 : Int)) with hb27 | hb27
 ·replace H := ite_t hb27 H
  refine Cd.condT rfl hb27 ?_
  refine Cd.seq ?_
  refine Cd.as (e' := [(0, pv b_a0 0), (2, iv a2), (6, Sl.at (MH.row s_a0_3 a1.toNat) (a2.toNat * 3))]) (L' := (.mat LaneR.row 42 63 3 s_a0_3 (rs_a0_3.set a1.toNat (r9.set a2.toNat (LaneR.mk ({ x10 with words := m19 } : Lane) (r13h0.cut ((1 : Int) : Int).toNat ((x10.words.length : Int) : Int).toNat 1)))) (rs_a0_3.set a1.toNat (r9.set a2.toNat (LaneR.mk ({ x10 with words := m19 } : Lane) (r13h0.cut ((1 : Int) : Int).toNat ((x10.words.length : Int) : Int).toNat 1))))) :: (.own s_a0_0 3 1 (encs a0.now)) :: (.own s_a0_1 3 1 (encs a0.have_)) :: (.own s_a0_2 4 1 (encs a0.recorded)) :: (.blk b_a0 (enc (GameR.mk ({ a0 with lanes := p24 } : Game) s_a0_0 s_a0_1 s_a0_2 s_a0_3.s)) 41) :: L) ⟨rfl, rfl, rfl, trivial⟩ rfl ?_
  refine Cd.region ?_
  refine mv0 rfl ?_
  refine mv0 rfl ?_
  obtain ⟨r28, h29, H⟩ := bind_some H
  refine Lst.front (i := 4) rfl rfl ?_
  refine Lst.front (i := 1) rfl rfl ?_
  refine Lst.front (i := 4) rfl (L' := (.own s_a0_2 4 1 (encs a0.recorded)) :: (.mat LaneR.row 42 63 3 s_a0_3 (rs_a0_3.set a1.toNat (r9.set a2.toNat (LaneR.mk ({ x10 with words := m19 } : Lane) (r13h0.cut ((1 : Int) : Int).toNat ((x10.words.length : Int) : Int).toNat 1)))) (rs_a0_3.set a1.toNat (r9.set a2.toNat (LaneR.mk ({ x10 with words := m19 } : Lane) (r13h0.cut ((1 : Int) : Int).toNat ((x10.words.length : Int) : Int).toNat 1))))) :: (.blk b_a0 (enc (GameR.mk ({ a0 with lanes := p24 } : Game) s_a0_0 s_a0_1 s_a0_2 s_a0_3.s)) 41) :: (.own s_a0_0 3 1 (encs a0.now)) :: (.own s_a0_1 3 1 (encs a0.have_)) :: L) rfl ?_
  refine Lst.front (i := 4) rfl (L' := (.own s_a0_1 3 1 (encs a0.have_)) :: (.own s_a0_2 4 1 (encs a0.recorded)) :: (.mat LaneR.row 42 63 3 s_a0_3 (rs_a0_3.set a1.toNat (r9.set a2.toNat (LaneR.mk ({ x10 with words := m19 } : Lane) (r13h0.cut ((1 : Int) : Int).toNat ((x10.words.length : Int) : Int).toNat 1)))) (rs_a0_3.set a1.toNat (r9.set a2.toNat (LaneR.mk ({ x10 with words := m19 } : Lane) (r13h0.cut ((1 : Int) : Int).toNat ((x10.words.length : Int) : Int).toNat 1))))) :: (.blk b_a0 (enc (GameR.mk ({ a0 with lanes := p24 } : Game) s_a0_0 s_a0_1 s_a0_2 s_a0_3.s)) 41) :: (.own s_a0_0 3 1 (encs a0.now)) :: L) rfl ?_
  refine Lst.call rfl rfl (by decide) (vs := [pv b_a0 0, iv a2]) ⟨rfl, rfl, trivial⟩ Try.call24 (snap_game_record_sim h29 w0 _ _ _ (.refl _) (rdo 0 rfl rfl rfl) hm26) (fun F32 L' v hF33 hv => ?_)
  obtain ⟨rs30, rfl, rfl, fm31⟩ := hv
  refine nsr ?_
  refine mv0 rfl ?_
  obtain ⟨x34, h35, H⟩ := bind_some H
  have g36 := lat_some h35
  obtain ⟨r37, r37g, r37e, r37m⟩ := map_get fm31 g36.2.2
  obtain ⟨x38, h39, H⟩ := bind_some H
  have g40 := lat_some h39
  obtain ⟨⟨r41v, r41h0⟩, r41g, r41e, r41m⟩ := map_get r37e g40.2.2
  obtain rfl : x38 = r41v := r41e.symm
  refine Lst.r (Ev.nilCheckS (α := LaneR) rfl (Rd.matRow (j := 2) (p := a1.toNat) rfl r37g) ((Get.elemN (s := 3) rfl r41g gh0).off (by omega)) rfl) ?_
  refine Lst.r (Ev.fieldS (α := LaneR) (f' := a2.toNat * 3 + 1) rfl (Rd.matRow (j := 2) (p := a1.toNat) rfl r37g) ((Get.elemN (s := 3) rfl r41g gh0).off (by omega)) rfl Try.runUnderlying63 rfl Try.sizeOf4 rfl rfl rfl) ?_
  obtain ⟨p42, h43, H⟩ := Let_some H
  have hm44 : (rs30.set a1.toNat (r37.set a2.toNat (LaneR.mk ({ x38 with closed := true } : Lane) r41h0))).map (List.map LaneR.v) = p42 := (mat_hm fm31 r37e a1.toNat a2.toNat (LaneR.mk ({ x38 with closed := true } : Lane) r41h0)).trans h43
  refine Lst.front (i := 2) rfl (L' := (.mat LaneR.row 42 63 3 s_a0_3 rs30 rs30) :: (.own s_a0_1 3 1 (encs r28.1)) :: (.own s_a0_2 4 1 (encs r28.2.1)) :: (.blk b_a0 (enc (GameR.mk ({ r28.2.2.2 with now := a0.now, have_ := r28.1, recorded := r28.2.1, lanes := r28.2.2.1 } : Game) s_a0_0 s_a0_1 s_a0_2 s_a0_3.s)) 41) :: (.own s_a0_0 3 1 (encs a0.now)) :: L) rfl ?_
  refine Lst.matStore rfl rfl rfl rfl r37g Try.sizeOf4 (vs := [.bool true]) rfl rfl (by decide) rfl (r' := (r37.set a2.toNat (LaneR.mk ({ x38 with closed := true } : Lane) r41h0))) ((Put.elemN (s := 3) (x := (LaneR.mk x38 r41h0)) (y := (LaneR.mk ({ x38 with closed := true } : Lane) r41h0)) rfl r41g (LaneR.put_closed (p := (LaneR.mk x38 r41h0)) (Put.here (vs := [.bool true]) rfl))).off (by omega)) ?_
  refine Lst.its (L' := (.mat LaneR.row 42 63 3 s_a0_3 (rs30.set a1.toNat (r37.set a2.toNat (LaneR.mk ({ x38 with closed := true } : Lane) r41h0))) rs30) :: (.own s_a0_1 3 1 (encs r28.1)) :: (.own s_a0_2 4 1 (encs r28.2.1)) :: (.blk b_a0 (enc (GameR.mk ({ r28.2.2.2 with now := a0.now, have_ := r28.1, recorded := r28.2.1, lanes := p42 } : Game) s_a0_0 s_a0_1 s_a0_2 s_a0_3.s)) 41) :: (.own s_a0_0 3 1 (encs a0.now)) :: L) rfl ?_
  refine Lst.matSame (wsOf_same (row := LaneR.row) (z' := (LaneR.mk ({ x38 with closed := true } : Lane) r41h0)) r37g r41g rfl) ?_
  refine Lst.its (L' := (.mat LaneR.row 42 63 3 s_a0_3 (rs30.set a1.toNat (r37.set a2.toNat (LaneR.mk ({ x38 with closed := true } : Lane) r41h0))) (rs30.set a1.toNat (r37.set a2.toNat (LaneR.mk ({ x38 with closed := true } : Lane) r41h0)))) :: (.own s_a0_1 3 1 (encs r28.1)) :: (.own s_a0_2 4 1 (encs r28.2.1)) :: (.blk b_a0 (enc (GameR.mk ({ r28.2.2.2 with now := a0.now, have_ := r28.1, recorded := r28.2.1, lanes := p42 } : Game) s_a0_0 s_a0_1 s_a0_2 s_a0_3.s)) 41) :: (.own s_a0_0 3 1 (encs a0.now)) :: L) rfl ?_
  refine nt0 ?_
  obtain rfl := some_inj H
  refine Cd.ret ?_
  refine At.then_ret ?_
  refine At.front (i := 2) rfl rfl ?_
  refine At.front (i := 2) rfl rfl ?_
  refine At.front (i := 4) rfl (L' := (.own s_a0_0 3 1 (encs a0.now)) :: (.own s_a0_1 3 1 (encs r28.1)) :: (.own s_a0_2 4 1 (encs r28.2.1)) :: (.mat LaneR.row 42 63 3 s_a0_3 (rs30.set a1.toNat (r37.set a2.toNat (LaneR.mk ({ x38 with closed := true } : Lane) r41h0))) (rs30.set a1.toNat (r37.set a2.toNat (LaneR.mk ({ x38 with closed := true } : Lane) r41h0)))) :: (.blk b_a0 (enc (GameR.mk ({ r28.2.2.2 with now := a0.now, have_ := r28.1, recorded := r28.2.1, lanes := p42 } : Game) s_a0_0 s_a0_1 s_a0_2 s_a0_3.s)) 41) :: L) rfl ?_
  exact At.ret0 (.inl rfl) rfl hF33 (sk1 (sk1 (sk1 (sk1 (sk1 (.refl _)))))) ⟨(rs30.set a1.toNat (r37.set a2.toNat (LaneR.mk ({ x38 with closed := true } : Lane) r41h0))), rfl, rfl, hm44⟩
 replace H := ite_f hb27 H
 refine Cd.condF rfl hb27 ?_
 refine Cd.skip ?_
 refine At.then ?_
 refine Cd.seq ?_
 refine Cd.as (e' := [(0, pv b_a0 0), (2, iv a2), (6, Sl.at (MH.row s_a0_3 a1.toNat) (a2.toNat * 3)), (7, iv x15)]) (L' := (.mat LaneR.row 42 63 3 s_a0_3 (rs_a0_3.set a1.toNat (r9.set a2.toNat (LaneR.mk ({ x10 with words := m19 } : Lane) (r13h0.cut ((1 : Int) : Int).toNat ((x10.words.length : Int) : Int).toNat 1)))) (rs_a0_3.set a1.toNat (r9.set a2.toNat (LaneR.mk ({ x10 with words := m19 } : Lane) (r13h0.cut ((1 : Int) : Int).toNat ((x10.words.length : Int) : Int).toNat 1))))) :: (.own s_a0_0 3 1 (encs a0.now)) :: (.own s_a0_1 3 1 (encs a0.have_)) :: (.own s_a0_2 4 1 (encs a0.recorded)) :: (.blk b_a0 (enc (GameR.mk ({ a0 with lanes := p24 } : Game) s_a0_0 s_a0_1 s_a0_2 s_a0_3.s)) 41) :: L) ⟨rfl, rfl, rfl, rfl, trivial⟩ rfl ?_
 refine Cd.region ?_
 refine mv0 rfl ?_
 refine Lst.r (Ev.nilCheck rfl) ?_
 refine Lst.r (Ev.fieldAddr (off' := 0) rfl Try.runUnderlying41 rfl Try.sizeOf22 rfl rfl) ?_
 refine Lst.r (Ev.load (i := 4) rfl rfl Try.isAgg22 (v := Sl.v s_a0_0) ((GameR.get_now gh0).off (by rfl))) ?_
 refine mv0 rfl ?_
 obtain ⟨x45, h46, H⟩ := bind_some H
 have g47 := lat_some h46
 refine Lst.r (Ev.indexS (α := Int) (xs := a0.now) rfl rfl Try.runUnderlying22 Try.sizeOf3 rfl (by decide) (rdo 1 rfl rfl rfl) g47.1 g47.2.1) ?_
 refine Lst.r (Ev.loadS (α := Int) rfl (rdo 1 rfl rfl rfl) Try.isAgg3 (v := iv x45) ((Get.elemN (s := 1) (x := x45) rfl g47.2.2 gh0).off (by omega))) ?_
 refine mv0 rfl ?_
 refine Lst.r (Ev.add rfl rfl) ?_
 obtain ⟨x48, h49, H⟩ := bind_some H
 have g50 := lat_some h49
 refine Lst.r (Ev.indexS (α := Int) (xs := a0.now) rfl rfl Try.runUnderlying22 Try.sizeOf3 rfl (by decide) (rdo 1 rfl rfl rfl) g50.1 g50.2.1) ?_
 obtain ⟨p51, h52, H⟩ := Let_some H
 refine Lst.storeS (i := 1) rfl rfl rfl rfl rfl Try.sizeOf3 (vs := [iv (w64 (x45 + x15))]) rfl rfl (by decide) rfl (xs' := encs p51) (by rw [← h52]; exact (Put.elemN (s := 1) (x := x48) rfl g50.2.2 (Put.here (vs := [iv (w64 (x45 + x15))]) rfl)).off (by omega)) (L' := (.mat LaneR.row 42 63 3 s_a0_3 (rs_a0_3.set a1.toNat (r9.set a2.toNat (LaneR.mk ({ x10 with words := m19 } : Lane) (r13h0.cut ((1 : Int) : Int).toNat ((x10.words.length : Int) : Int).toNat 1)))) (rs_a0_3.set a1.toNat (r9.set a2.toNat (LaneR.mk ({ x10 with words := m19 } : Lane) (r13h0.cut ((1 : Int) : Int).toNat ((x10.words.length : Int) : Int).toNat 1))))) :: (.own s_a0_0 3 1 (encs p51)) :: (.own s_a0_1 3 1 (encs a0.have_)) :: (.own s_a0_2 4 1 (encs a0.recorded)) :: (.blk b_a0 (enc (GameR.mk ({ a0 with now := p51, lanes := p24 } : Game) s_a0_0 s_a0_1 s_a0_2 s_a0_3.s)) 41) :: L) rfl ?_
 refine nsr ?_
 refine mv0 rfl ?_
 refine Lst.r (Ev.nilCheck rfl) ?_
 refine Lst.r (Ev.fieldAddr (off' := 2) rfl Try.runUnderlying41 rfl Try.sizeOf38 rfl rfl) ?_
 refine Lst.r (Ev.load (i := 4) rfl rfl Try.isAgg38 (v := Sl.v s_a0_2) ((GameR.get_recorded gh0).off (by rfl))) ?_
 refine mv0 rfl ?_
 obtain ⟨x53, h54, H⟩ := bind_some H
 have g55 := lat_some h54
 refine Lst.r (Ev.indexS (α := Bool) (xs := a0.recorded) rfl rfl Try.runUnderlying38 Try.sizeOf4 rfl (by decide) (rdo 3 rfl rfl rfl) g55.1 g55.2.1) ?_
 refine Lst.r (Ev.loadS (α := Bool) rfl (rdo 3 rfl rfl rfl) Try.isAgg4 (v := .bool x53) ((Get.elemN (s := 1) (x := x53) rfl g55.2.2 gh0).off (by omega))) ?_
 refine mv0 rfl ?_
 obtain ⟨o56, H, HKo56⟩ := bind_some H
 refine Lst.join (σ := Bool) 6 (fun y57 => [(6, Sl.at (MH.row s_a0_3 a1.toNat) (a2.toNat * 3)), (7, iv x15), (68, .bool y57)]) (fun y57 => (.mat LaneR.row 42 63 3 s_a0_3 (rs_a0_3.set a1.toNat (r9.set a2.toNat (LaneR.mk ({ x10 with words := m19 } : Lane) (r13h0.cut ((1 : Int) : Int).toNat ((x10.words.length : Int) : Int).toNat 1)))) (rs_a0_3.set a1.toNat (r9.set a2.toNat (LaneR.mk ({ x10 with words := m19 } : Lane) (r13h0.cut ((1 : Int) : Int).toNat ((x10.words.length : Int) : Int).toNat 1))))) :: (.own s_a0_0 3 1 (encs p51)) :: (.own s_a0_1 3 1 (encs a0.have_)) :: (.own s_a0_2 4 1 (encs a0.recorded)) :: (.blk b_a0 (enc (GameR.mk ({ a0 with now := p51, lanes := p24 } : Game) s_a0_0 s_a0_1 s_a0_2 s_a0_3.s)) 41) :: L) (fun _ y57 => y57 = o56) ?_ ?_
 ·rcases (Bool.eq_false_or_eq_true x53).symm with hb58 | hb58
  ·replace H := ite_f hb58 H
   refine Lst.skip rfl rfl rfl hb58 rfl (by decide) ?_
   refine Lst.skip rfl rfl rfl hb58 rfl (by decide) ?_
   refine Lst.skip rfl rfl rfl hb58 rfl (by decide) ?_
   refine Lst.skip rfl rfl rfl hb58 rfl (by decide) ?_
   refine Lst.skip rfl rfl rfl hb58 rfl (by decide) ?_
   refine Lst.r (Ev.pickF rfl hb58 rfl) ?_
   refine Lst.nil ?_
   exact At.meet false fl ⟨rfl, rfl, rfl, trivial⟩ rfl (some_inj H)
  replace H := ite_t hb58 H
  refine Lst.rG hb58 (Ev.move rfl) ?_
  obtain ⟨x59, h60, H⟩ := bind_some H
  have g61 := lat_some h60
  obtain ⟨r62, r62g, r62e, r62m⟩ := map_get hm26 g61.2.2
  obtain ⟨x63, h64, H⟩ := bind_some H
  have g65 := lat_some h64
  obtain ⟨⟨r66v, r66h0⟩, r66g, r66e, r66m⟩ := map_get r62e g65.2.2
  obtain rfl : x63 = r66v := r66e.symm
  refine Lst.rG hb58 (Ev.nilCheckS (α := LaneR) rfl (Rd.matRow (j := 0) (p := a1.toNat) rfl r62g) ((Get.elemN (s := 3) rfl r66g gh0).off (by omega)) rfl) ?_
  refine Lst.rG hb58 (Ev.fieldS (α := LaneR) (f' := a2.toNat * 3 + 1) rfl (Rd.matRow (j := 0) (p := a1.toNat) rfl r62g) ((Get.elemN (s := 3) rfl r66g gh0).off (by omega)) rfl Try.runUnderlying63 rfl Try.sizeOf4 rfl rfl rfl) ?_
  refine Lst.rG hb58 (Ev.loadS (α := LaneR) rfl (Rd.matRow (j := 0) (p := a1.toNat) rfl r62g) Try.isAgg4 (v := .bool x63.closed) ((Get.elemN (s := 3) rfl r66g (LaneR.get_closed gh0)).off (by omega))) ?_
  refine Lst.rG hb58 (Ev.not rfl) ?_
  refine Lst.r (Ev.pickT rfl hb58 rfl) ?_
  refine Lst.nil ?_
  exact At.meet (!x63.closed) fl ⟨rfl, rfl, rfl, trivial⟩ rfl (some_inj H)
 rintro F67 y57 hF68 hy
 subst hy
 refine Lst.as (e' := [(6, Sl.at (MH.row s_a0_3 a1.toNat) (a2.toNat * 3)), (7, iv x15), (68, .bool y57)]) (L' := (.mat LaneR.row 42 63 3 s_a0_3 (rs_a0_3.set a1.toNat (r9.set a2.toNat (LaneR.mk ({ x10 with words := m19 } : Lane) (r13h0.cut ((1 : Int) : Int).toNat ((x10.words.length : Int) : Int).toNat 1)))) (rs_a0_3.set a1.toNat (r9.set a2.toNat (LaneR.mk ({ x10 with words := m19 } : Lane) (r13h0.cut ((1 : Int) : Int).toNat ((x10.words.length : Int) : Int).toNat 1))))) :: (.own s_a0_0 3 1 (encs p51)) :: (.own s_a0_1 3 1 (encs a0.have_)) :: (.own s_a0_2 4 1 (encs a0.recorded)) :: (.blk b_a0 (enc (GameR.mk ({ a0 with now := p51, lanes := p24 } : Game) s_a0_0 s_a0_1 s_a0_2 s_a0_3.s)) 41) :: L) ⟨rfl, rfl, rfl, trivial⟩ rfl ?_
 replace H := HKo56
 refine nt0 ?_
 rcases (Bool.eq_false_or_eq_true y57).symm with hb69 | hb69
 ·replace H := ite_f hb69 H
  refine Cd.condF rfl hb69 ?_
  refine Cd.skip ?_
  obtain rfl := some_inj H
  refine At.front (i := 3) rfl rfl ?_
  refine At.front (i := 3) rfl rfl ?_
  refine At.front (i := 3) rfl (L' := (.own s_a0_0 3 1 (encs p51)) :: (.own s_a0_1 3 1 (encs a0.have_)) :: (.own s_a0_2 4 1 (encs a0.recorded)) :: (.mat LaneR.row 42 63 3 s_a0_3 (rs_a0_3.set a1.toNat (r9.set a2.toNat (LaneR.mk ({ x10 with words := m19 } : Lane) (r13h0.cut ((1 : Int) : Int).toNat ((x10.words.length : Int) : Int).toNat 1)))) (rs_a0_3.set a1.toNat (r9.set a2.toNat (LaneR.mk ({ x10 with words := m19 } : Lane) (r13h0.cut ((1 : Int) : Int).toNat ((x10.words.length : Int) : Int).toNat 1))))) :: (.blk b_a0 (enc (GameR.mk ({ a0 with now := p51, lanes := p24 } : Game) s_a0_0 s_a0_1 s_a0_2 s_a0_3.s)) 41) :: L) rfl ?_
  exact At.ret0 (.inr rfl) rfl hF68 (sk1 (sk1 (sk1 (sk1 (sk1 (.refl _)))))) ⟨(rs_a0_3.set a1.toNat (r9.set a2.toNat (LaneR.mk ({ x10 with words := m19 } : Lane) (r13h0.cut ((1 : Int) : Int).toNat ((x10.words.length : Int) : Int).toNat 1)))), rfl, rfl, hm26⟩
 replace H := ite_t hb69 H
 refine Cd.condT rfl hb69 ?_
 refine Cd.region ?_
 refine mv0 rfl ?_
 obtain ⟨x70, h71, H⟩ := bind_some H
 have g72 := lat_some h71
 obtain ⟨r73, r73g, r73e, r73m⟩ := map_get hm26 g72.2.2
 obtain ⟨x74, h75, H⟩ := bind_some H
 have g76 := lat_some h75
 obtain ⟨⟨r77v, r77h0⟩, r77g, r77e, r77m⟩ := map_get r73e g76.2.2
 obtain rfl : x74 = r77v := r77e.symm
 refine Lst.r (Ev.nilCheckS (α := LaneR) rfl (Rd.matRow (j := 0) (p := a1.toNat) rfl r73g) ((Get.elemN (s := 3) rfl r77g gh0).off (by omega)) rfl) ?_
 refine Lst.r (Ev.fieldS (α := LaneR) (f' := a2.toNat * 3 + 2) rfl (Rd.matRow (j := 0) (p := a1.toNat) rfl r73g) ((Get.elemN (s := 3) rfl r77g gh0).off (by omega)) rfl Try.runUnderlying63 rfl Try.sizeOf3 rfl rfl rfl) ?_
 refine Lst.r (Ev.loadS (α := LaneR) rfl (Rd.matRow (j := 0) (p := a1.toNat) rfl r73g) Try.isAgg3 (v := iv x74.total) ((Get.elemN (s := 3) rfl r77g (LaneR.get_total gh0)).off (by omega))) ?_
 refine mv0 rfl ?_
 refine Lst.r (Ev.add rfl rfl) ?_
 refine Lst.r (Ev.nilCheckS (α := LaneR) rfl (Rd.matRow (j := 0) (p := a1.toNat) rfl r73g) ((Get.elemN (s := 3) rfl r77g gh0).off (by omega)) rfl) ?_
 refine Lst.r (Ev.fieldS (α := LaneR) (f' := a2.toNat * 3 + 2) rfl (Rd.matRow (j := 0) (p := a1.toNat) rfl r73g) ((Get.elemN (s := 3) rfl r77g gh0).off (by omega)) rfl Try.runUnderlying63 rfl Try.sizeOf3 rfl rfl rfl) ?_
 obtain ⟨p78, h79, H⟩ := Let_some H
 have hm80 : ((rs_a0_3.set a1.toNat (r9.set a2.toNat (LaneR.mk ({ x10 with words := m19 } : Lane) (r13h0.cut ((1 : Int) : Int).toNat ((x10.words.length : Int) : Int).toNat 1)))).set a1.toNat (r73.set a2.toNat (LaneR.mk ({ x74 with total := w64 (x74.total + x15) } : Lane) r77h0))).map (List.map LaneR.v) = p78 := (mat_hm hm26 r73e a1.toNat a2.toNat (LaneR.mk ({ x74 with total := w64 (x74.total + x15) } : Lane) r77h0)).trans h79
 refine Lst.matStore rfl rfl rfl rfl r73g Try.sizeOf3 (vs := [iv (w64 (x74.total + x15))]) rfl rfl (by decide) rfl (r' := (r73.set a2.toNat (LaneR.mk ({ x74 with total := w64 (x74.total + x15) } : Lane) r77h0))) ((Put.elemN (s := 3) (x := (LaneR.mk x74 r77h0)) (y := (LaneR.mk ({ x74 with total := w64 (x74.total + x15) } : Lane) r77h0)) rfl r77g (LaneR.put_total (p := (LaneR.mk x74 r77h0)) (Put.here (vs := [iv (w64 (x74.total + x15))]) rfl))).off (by omega)) ?_
 refine Lst.its (L' := (.mat LaneR.row 42 63 3 s_a0_3 ((rs_a0_3.set a1.toNat (r9.set a2.toNat (LaneR.mk ({ x10 with words := m19 } : Lane) (r13h0.cut ((1 : Int) : Int).toNat ((x10.words.length : Int) : Int).toNat 1)))).set a1.toNat (r73.set a2.toNat (LaneR.mk ({ x74 with total := w64 (x74.total + x15) } : Lane) r77h0))) (rs_a0_3.set a1.toNat (r9.set a2.toNat (LaneR.mk ({ x10 with words := m19 } : Lane) (r13h0.cut ((1 : Int) : Int).toNat ((x10.words.length : Int) : Int).toNat 1))))) :: (.own s_a0_0 3 1 (encs p51)) :: (.own s_a0_1 3 1 (encs a0.have_)) :: (.own s_a0_2 4 1 (encs a0.recorded)) :: (.blk b_a0 (enc (GameR.mk ({ a0 with now := p51, lanes := p78 } : Game) s_a0_0 s_a0_1 s_a0_2 s_a0_3.s)) 41) :: L) rfl ?_
 refine Lst.matSame (wsOf_same (row := LaneR.row) (z' := (LaneR.mk ({ x74 with total := w64 (x74.total + x15) } : Lane) r77h0)) r73g r77g rfl) ?_
 refine Lst.its (L' := (.mat LaneR.row 42 63 3 s_a0_3 ((rs_a0_3.set a1.toNat (r9.set a2.toNat (LaneR.mk ({ x10 with words := m19 } : Lane) (r13h0.cut ((1 : Int) : Int).toNat ((x10.words.length : Int) : Int).toNat 1)))).set a1.toNat (r73.set a2.toNat (LaneR.mk ({ x74 with total := w64 (x74.total + x15) } : Lane) r77h0))) ((rs_a0_3.set a1.toNat (r9.set a2.toNat (LaneR.mk ({ x10 with words := m19 } : Lane) (r13h0.cut ((1 : Int) : Int).toNat ((x10.words.length : Int) : Int).toNat 1)))).set a1.toNat (r73.set a2.toNat (LaneR.mk ({ x74 with total := w64 (x74.total + x15) } : Lane) r77h0)))) :: (.own s_a0_0 3 1 (encs p51)) :: (.own s_a0_1 3 1 (encs a0.have_)) :: (.own s_a0_2 4 1 (encs a0.recorded)) :: (.blk b_a0 (enc (GameR.mk ({ a0 with now := p51, lanes := p78 } : Game) s_a0_0 s_a0_1 s_a0_2 s_a0_3.s)) 41) :: L) rfl ?_
 refine Lst.nil ?_
 obtain rfl := some_inj H
 refine At.front (i := 3) rfl rfl ?_
 refine At.front (i := 3) rfl rfl ?_
 refine At.front (i := 3) rfl (L' := (.own s_a0_0 3 1 (encs p51)) :: (.own s_a0_1 3 1 (encs a0.have_)) :: (.own s_a0_2 4 1 (encs a0.recorded)) :: (.mat LaneR.row 42 63 3 s_a0_3 ((rs_a0_3.set a1.toNat (r9.set a2.toNat (LaneR.mk ({ x10 with words := m19 } : Lane) (r13h0.cut ((1 : Int) : Int).toNat ((x10.words.length : Int) : Int).toNat 1)))).set a1.toNat (r73.set a2.toNat (LaneR.mk ({ x74 with total := w64 (x74.total + x15) } : Lane) r77h0))) ((rs_a0_3.set a1.toNat (r9.set a2.toNat (LaneR.mk ({ x10 with words := m19 } : Lane) (r13h0.cut ((1 : Int) : Int).toNat ((x10.words.length : Int) : Int).toNat 1)))).set a1.toNat (r73.set a2.toNat (LaneR.mk ({ x74 with total := w64 (x74.total + x15) } : Lane) r77h0)))) :: (.blk b_a0 (enc (GameR.mk ({ a0 with now := p51, lanes := p78 } : Game) s_a0_0 s_a0_1 s_a0_2 s_a0_3.s)) 41) :: L) rfl ?_
 exact At.ret0 (.inr rfl) rfl hF68 (sk1 (sk1 (sk1 (sk1 (sk1 (.refl _)))))) ⟨((rs_a0_3.set a1.toNat (r9.set a2.toNat (LaneR.mk ({ x10 with words := m19 } : Lane) (r13h0.cut ((1 : Int) : Int).toNat ((x10.words.length : Int) : Int).toNat 1)))).set a1.toNat (r73.set a2.toNat (LaneR.mk ({ x74 with total := w64 (x74.total + x15) } : Lane) r77h0))), rfl, rfl, hm80⟩
set_option maxRecDepth 20000 in
theorem snap_game_move_sim {a0 : Game} {a1 : Move} {b_a0 : Nat} {s_a0_0 : Sl} {s_a0_1 : Sl} {s_a0_2 : Sl} {s_a0_3 : MH} {rs_a0_3 : List (List LaneR)} {r : (List Int) × (List Int) × (List Bool) × (List (List Lane)) × Game} (H : snap_game_move a0 a1 = some r) (w0 : World) (F : Frz) (M L : List Item) (hM : M.Sublist L) (hm_a0_3 : rs_a0_3.map (List.map LaneR.v) = a0.lanes) : Ok Try.prog w0 10 [pv b_a0 0, .agg (enc a1).toArray] F ((.own s_a0_0 3 1 (encs a0.now)) :: (.own s_a0_1 3 1 (encs a0.have_)) :: (.own s_a0_2 4 1 (encs a0.recorded)) :: (.mat LaneR.row 42 63 3 s_a0_3 rs_a0_3 rs_a0_3) :: (.blk b_a0 (enc (GameR.mk a0 s_a0_0 s_a0_1 s_a0_2 s_a0_3.s)) 41) :: L) (fun Fx L' v => ∃ (rs6 : List (List LaneR)), v = .tuple #[] ∧ L' = (.own s_a0_0 3 1 (encs r.1)) :: (.own s_a0_1 3 1 (encs r.2.1)) :: (.own s_a0_2 4 1 (encs r.2.2.1)) :: (.mat LaneR.row 42 63 3 s_a0_3 rs6 rs6) :: (.blk b_a0 (enc (GameR.mk ({ r.2.2.2.2 with now := r.1, have_ := r.2.1, recorded := r.2.2.1, lanes := r.2.2.2.1 } : Game) s_a0_0 s_a0_1 s_a0_2 s_a0_3.s)) 41) :: L ∧ rs6.map (List.map LaneR.v) = r.2.2.2.1) := by
 unfold snap_game_move at H
 refine Ok.enter (m := 2) (n := 66) Try.func10 rfl rfl rfl (by decide) ?_
 refine Cd.env (e' := [(0, pv b_a0 0), (1, .agg (enc a1).toArray)]) rfl ?_
 refine sr0 ?_
 refine Lst.box rfl rfl (by decide) rfl (cs := enc a1) rfl (fun b6 => ?_)
 refine nsr ?_
 refine Lst.r (Ev.fieldAddr (off' := 0) rfl Try.runUnderlying35 rfl Try.sizeOf3 rfl rfl) ?_
 refine Lst.r (Ev.load (i := 0) rfl rfl Try.isAgg3 (v := iv a1.Kind) ((Move.get_Kind gh0).off (by rfl))) ?_
 refine nt0 ?_
 refine Cd.block ?_
 refine sr0 ?_
 refine Lst.r (Ev.eql rfl rfl) ?_
 refine Lst.r (Ev.assign rfl) ?_
 refine nt0 ?_
 rcases (Bool.eq_false_or_eq_true (a1.Kind == (1 : Int))).symm with hb8 | hb8
 ·replace H := ite_f hb8 H
  refine Cd.condF rfl hb8 ?_
  refine sr0 ?_
  refine Lst.r (Ev.eql rfl rfl) ?_
  refine Lst.r (Ev.assign rfl) ?_
  refine nt0 ?_
  rcases (Bool.eq_false_or_eq_true (a1.Kind == (2 : Int))).symm with hb9 | hb9
  ·replace H := ite_f hb9 H
   refine Cd.condF rfl hb9 ?_
   refine Cd.region ?_
   refine mv0 rfl ?_
   refine Lst.r (Ev.fieldAddr (off' := 1) rfl Try.runUnderlying35 rfl Try.sizeOf3 rfl rfl) ?_
   refine Lst.r (Ev.load (i := 0) rfl rfl Try.isAgg3 (v := iv a1.From) ((Move.get_From gh0).off (by rfl))) ?_
   obtain ⟨r10, h11, H⟩ := bind_some H
   refine Lst.front (i := 5) rfl rfl ?_
   refine Lst.front (i := 5) rfl rfl ?_
   refine Lst.front (i := 5) rfl (L' := (.own s_a0_2 4 1 (encs a0.recorded)) :: (.mat LaneR.row 42 63 3 s_a0_3 rs_a0_3 rs_a0_3) :: (.blk b_a0 (enc (GameR.mk a0 s_a0_0 s_a0_1 s_a0_2 s_a0_3.s)) 41) :: (.blk b6 (enc a1) 35) :: (.own s_a0_0 3 1 (encs a0.now)) :: (.own s_a0_1 3 1 (encs a0.have_)) :: L) rfl ?_
   refine Lst.front (i := 5) rfl (L' := (.own s_a0_1 3 1 (encs a0.have_)) :: (.own s_a0_2 4 1 (encs a0.recorded)) :: (.mat LaneR.row 42 63 3 s_a0_3 rs_a0_3 rs_a0_3) :: (.blk b_a0 (enc (GameR.mk a0 s_a0_0 s_a0_1 s_a0_2 s_a0_3.s)) 41) :: (.blk b6 (enc a1) 35) :: (.own s_a0_0 3 1 (encs a0.now)) :: L) rfl ?_
   refine Lst.call rfl rfl (by decide) (vs := [pv b_a0 0, iv a1.From]) ⟨rfl, rfl, trivial⟩ Try.call24 (snap_game_record_sim h11 w0 _ _ _ (.refl _) (rdo 1 rfl rfl rfl) hm_a0_3) (fun F14 L' v hF15 hv => ?_)
   obtain ⟨rs12, rfl, rfl, fm13⟩ := hv
   refine Lst.nil ?_
   refine At.in_normal ?_
   obtain rfl := some_inj H
   refine At.front (i := 5) rfl (L' := (.own s_a0_0 3 1 (encs a0.now)) :: (.own s_a0_1 3 1 (encs r10.1)) :: (.own s_a0_2 4 1 (encs r10.2.1)) :: (.mat LaneR.row 42 63 3 s_a0_3 rs12 rs12) :: (.blk b_a0 (enc (GameR.mk ({ r10.2.2.2 with now := a0.now, have_ := r10.1, recorded := r10.2.1, lanes := r10.2.2.1 } : Game) s_a0_0 s_a0_1 s_a0_2 s_a0_3.s)) 41) :: (.blk b6 (enc a1) 35) :: L) rfl ?_
   exact At.ret0 (.inr rfl) rfl hF15 (sk1 (sk1 (sk1 (sk1 (sk1 (sc1 (.refl _))))))) ⟨rs12, rfl, rfl, fm13⟩
  replace H := ite_t hb9 H
  refine Cd.condT rfl hb9 ?_
  refine Cd.region ?_
  refine mv0 rfl ?_
  refine Lst.r (Ev.fieldAddr (off' := 1) rfl Try.runUnderlying35 rfl Try.sizeOf3 rfl rfl) ?_
  refine Lst.r (Ev.load (i := 0) rfl rfl Try.isAgg3 (v := iv a1.From) ((Move.get_From gh0).off (by rfl))) ?_
  refine Lst.r (Ev.fieldAddr (off' := 2) rfl Try.runUnderlying35 rfl Try.sizeOf3 rfl rfl) ?_
  refine Lst.r (Ev.load (i := 0) rfl rfl Try.isAgg3 (v := iv a1.To) ((Move.get_To gh0).off (by rfl))) ?_
  obtain ⟨r16, h17, H⟩ := bind_some H
  refine Lst.front (i := 5) rfl rfl ?_
  refine Lst.front (i := 5) rfl rfl ?_
  refine Lst.front (i := 5) rfl (L' := (.own s_a0_2 4 1 (encs a0.recorded)) :: (.mat LaneR.row 42 63 3 s_a0_3 rs_a0_3 rs_a0_3) :: (.blk b_a0 (enc (GameR.mk a0 s_a0_0 s_a0_1 s_a0_2 s_a0_3.s)) 41) :: (.blk b6 (enc a1) 35) :: (.own s_a0_0 3 1 (encs a0.now)) :: (.own s_a0_1 3 1 (encs a0.have_)) :: L) rfl ?_
  refine Lst.front (i := 5) rfl rfl ?_
  refine Lst.front (i := 5) rfl (L' := (.own s_a0_0 3 1 (encs a0.now)) :: (.own s_a0_1 3 1 (encs a0.have_)) :: (.own s_a0_2 4 1 (encs a0.recorded)) :: (.mat LaneR.row 42 63 3 s_a0_3 rs_a0_3 rs_a0_3) :: (.blk b_a0 (enc (GameR.mk a0 s_a0_0 s_a0_1 s_a0_2 s_a0_3.s)) 41) :: (.blk b6 (enc a1) 35) :: L) rfl ?_
  refine Lst.call rfl rfl (by decide) (vs := [pv b_a0 0, iv a1.From, iv a1.To]) ⟨rfl, rfl, rfl, trivial⟩ Try.call23 (snap_game_take_sim h17 w0 _ M _ (sc1 hM) hm_a0_3) (fun F20 L' v hF21 hv => ?_)
  obtain ⟨rs18, rfl, rfl, fm19⟩ := hv
  refine Lst.nil ?_
  refine At.in_normal ?_
  obtain rfl := some_inj H
  exact At.ret0 (.inr rfl) rfl hF21 (sk1 (sk1 (sk1 (sk1 (sk1 (sc1 (.refl _))))))) ⟨rs18, rfl, rfl, fm19⟩
 replace H := ite_t hb8 H
 refine Cd.condT rfl hb8 ?_
 refine Cd.seq ?_
 refine Cd.quiet (by kernel_rfl) (by kernel_rfl) ?_
 refine Qt.r (Ev.move rfl) ?_
 refine Qt.r (Ev.nilCheck rfl) ?_
 refine Qt.r (Ev.fieldAddr (off' := 0) rfl Try.runUnderlying41 rfl Try.sizeOf22 rfl rfl) ?_
 refine Qt.r (Ev.load (i := 5) rfl rfl Try.isAgg22 (v := Sl.v s_a0_0) ((GameR.get_now gh0).off (by rfl))) ?_
 refine Qt.r (Ev.fieldAddr (off' := 1) rfl Try.runUnderlying35 rfl Try.sizeOf3 rfl rfl) ?_
 refine Qt.r (Ev.load (i := 0) rfl rfl Try.isAgg3 (v := iv a1.From) ((Move.get_From gh0).off (by rfl))) ?_
 obtain ⟨x22, h23, H⟩ := bind_some H
 have g24 := lat_some h23
 refine Qt.r (Ev.indexS (α := Int) (xs := a0.now) rfl rfl Try.runUnderlying22 Try.sizeOf3 rfl (by decide) (rdo 1 rfl rfl rfl) g24.1 g24.2.1) ?_
 refine Qt.r (Ev.loadS (α := Int) rfl (rdo 1 rfl rfl rfl) Try.isAgg3 (v := iv x22) ((Get.elemN (s := 1) (x := x22) rfl g24.2.2 gh0).off (by omega))) ?_
 refine Qt.r (Ev.fieldAddr (off' := 3) rfl Try.runUnderlying35 rfl Try.sizeOf3 rfl rfl) ?_
 refine Qt.r (Ev.load (i := 0) rfl rfl Try.isAgg3 (v := iv a1.N) ((Move.get_N gh0).off (by rfl))) ?_
 refine Qt.r (Ev.geq rfl rfl) ?_
 refine Qt.done ?_
 refine At.then ?_
 rcases (Bool.eq_false_or_eq_true (decide (x22 ≥ a1.N))).symm with hb25 | hb25
 ·replace H := ite_f hb25 H
  refine Cd.condF rfl hb25 ?_
  refine Cd.skip ?_
  refine At.in_normal ?_
  obtain rfl := some_inj H
  exact At.ret0 (.inr rfl) rfl fl (sc1 (sk1 (sk1 (sk1 (sk1 (sk1 (.refl _))))))) ⟨rs_a0_3, rfl, rfl, hm_a0_3⟩
 replace H := ite_t hb25 H
 refine Cd.condT rfl hb25 ?_
 refine Cd.seq ?_
 refine Cd.as (e' := [(0, pv b_a0 0), (3, pv b6 0)]) (L' := (.blk b6 (enc a1) 35) :: (.own s_a0_0 3 1 (encs a0.now)) :: (.own s_a0_1 3 1 (encs a0.have_)) :: (.own s_a0_2 4 1 (encs a0.recorded)) :: (.mat LaneR.row 42 63 3 s_a0_3 rs_a0_3 rs_a0_3) :: (.blk b_a0 (enc (GameR.mk a0 s_a0_0 s_a0_1 s_a0_2 s_a0_3.s)) 41) :: L) ⟨rfl, rfl, trivial⟩ rfl ?_
 refine Cd.tail 12 (by kernel_rfl) (by kernel_rfl) ?_
 refine Qt.r (Ev.move rfl) ?_
 refine Qt.r (Ev.nilCheck rfl) ?_
 refine Qt.r (Ev.fieldAddr (off' := 0) rfl Try.runUnderlying41 rfl Try.sizeOf22 rfl rfl) ?_
 refine Qt.r (Ev.load (i := 5) rfl rfl Try.isAgg22 (v := Sl.v s_a0_0) ((GameR.get_now gh0).off (by rfl))) ?_
 refine Qt.r (Ev.fieldAddr (off' := 1) rfl Try.runUnderlying35 rfl Try.sizeOf3 rfl rfl) ?_
 refine Qt.r (Ev.load (i := 0) rfl rfl Try.isAgg3 (v := iv a1.From) ((Move.get_From gh0).off (by rfl))) ?_
 obtain ⟨x26, h27, H⟩ := bind_some H
 have g28 := lat_some h27
 refine Qt.r (Ev.indexS (α := Int) (xs := a0.now) rfl rfl Try.runUnderlying22 Try.sizeOf3 rfl (by decide) (rdo 1 rfl rfl rfl) g28.1 g28.2.1) ?_
 refine Qt.r (Ev.loadS (α := Int) rfl (rdo 1 rfl rfl rfl) Try.isAgg3 (v := iv x26) ((Get.elemN (s := 1) (x := x26) rfl g28.2.2 gh0).off (by omega))) ?_
 refine Qt.r (Ev.fieldAddr (off' := 3) rfl Try.runUnderlying35 rfl Try.sizeOf3 rfl rfl) ?_
 refine Qt.r (Ev.load (i := 0) rfl rfl Try.isAgg3 (v := iv a1.N) ((Move.get_N gh0).off (by rfl))) ?_
 refine Qt.r (Ev.sub rfl rfl) ?_
 obtain ⟨x29, h30, H⟩ := bind_some H
 have g31 := lat_some h30
 refine Qt.r (Ev.indexS (α := Int) (xs := a0.now) rfl rfl Try.runUnderlying22 Try.sizeOf3 rfl (by decide) (rdo 1 rfl rfl rfl) g31.1 g31.2.1) ?_
 refine Qt.tail ?_
 obtain ⟨p32, h33, H⟩ := Let_some H
 refine Lst.storeS (i := 1) rfl rfl rfl rfl rfl Try.sizeOf3 (vs := [iv (w64 (x26 - a1.N))]) rfl rfl (by decide) rfl (xs' := encs p32) (by rw [← h33]; exact (Put.elemN (s := 1) (x := x29) rfl g31.2.2 (Put.here (vs := [iv (w64 (x26 - a1.N))]) rfl)).off (by omega)) (L' := (.blk b6 (enc a1) 35) :: (.own s_a0_0 3 1 (encs p32)) :: (.own s_a0_1 3 1 (encs a0.have_)) :: (.own s_a0_2 4 1 (encs a0.recorded)) :: (.mat LaneR.row 42 63 3 s_a0_3 rs_a0_3 rs_a0_3) :: (.blk b_a0 (enc (GameR.mk ({ a0 with now := p32 } : Game) s_a0_0 s_a0_1 s_a0_2 s_a0_3.s)) 41) :: L) rfl ?_
 refine nt0 ?_
 refine Cd.seq ?_
 refine Cd.quiet (by kernel_rfl) (by kernel_rfl) ?_
 refine Qt.r (Ev.move rfl) ?_
 refine Qt.r (Ev.nilCheck rfl) ?_
 refine Qt.r (Ev.fieldAddr (off' := 3) rfl Try.runUnderlying41 rfl Try.sizeOf39 rfl rfl) ?_
 refine Qt.r (Ev.load (i := 5) rfl rfl Try.isAgg39 (v := Sl.v s_a0_3.s) ((GameR.get_lanes gh0).off (by rfl))) ?_
 refine Qt.r (Ev.fieldAddr (off' := 1) rfl Try.runUnderlying35 rfl Try.sizeOf3 rfl rfl) ?_
 refine Qt.r (Ev.load (i := 0) rfl rfl Try.isAgg3 (v := iv a1.From) ((Move.get_From gh0).off (by rfl))) ?_
 obtain ⟨x34, h35, H⟩ := bind_some H
 have g36 := lat_some h35
 obtain ⟨r37, r37g, r37e, r37m⟩ := map_get hm_a0_3 g36.2.2
 refine Qt.r (Ev.indexS (α := LR LaneR) (xs := (MH.rl s_a0_3 rs_a0_3)) rfl rfl Try.runUnderlying39 Try.sizeOf42 rfl (by decide) (Rd.matOuter (j := 4) rfl) g36.1 (by have := map_len hm_a0_3; rw [MH.rl_len]; omega)) ?_
 refine Qt.r (Ev.loadS (α := LR LaneR) rfl (Rd.matOuter (j := 4) rfl) Try.isAgg42 (v := Sl.v (MH.row s_a0_3 a1.From.toNat)) ((Get.elemN (s := 1) rfl (MH.rl_get r37g) gh0).off (by omega))) ?_
 refine Qt.r (Ev.fieldAddr (off' := 2) rfl Try.runUnderlying35 rfl Try.sizeOf3 rfl rfl) ?_
 refine Qt.r (Ev.load (i := 0) rfl rfl Try.isAgg3 (v := iv a1.To) ((Move.get_To gh0).off (by rfl))) ?_
 obtain ⟨x38, h39, H⟩ := bind_some H
 have g40 := lat_some h39
 obtain ⟨⟨r41v, r41h0⟩, r41g, r41e, r41m⟩ := map_get r37e g40.2.2
 obtain rfl : x38 = r41v := r41e.symm
 refine Qt.r (Ev.indexS (α := LaneR) (xs := r37) rfl rfl Try.runUnderlying42 Try.sizeOf63 rfl (by decide) (Rd.matRow (j := 4) (p := a1.From.toNat) rfl r37g) g40.1 (by have := map_len r37e; omega)) ?_
 refine Qt.r (Ev.assign rfl) ?_
 refine Qt.done ?_
 refine At.then ?_
 refine Cd.as (e' := [(3, pv b6 0), (4, Sl.at (MH.row s_a0_3 a1.From.toNat) (a1.To.toNat * 3))]) (L' := (.blk b6 (enc a1) 35) :: (.own s_a0_0 3 1 (encs p32)) :: (.own s_a0_1 3 1 (encs a0.have_)) :: (.own s_a0_2 4 1 (encs a0.recorded)) :: (.mat LaneR.row 42 63 3 s_a0_3 rs_a0_3 rs_a0_3) :: (.blk b_a0 (enc (GameR.mk ({ a0 with now := p32 } : Game) s_a0_0 s_a0_1 s_a0_2 s_a0_3.s)) 41) :: L) ⟨rfl, rfl, trivial⟩ rfl ?_
 obtain ⟨u45, h46, H⟩ := bind_some H
 obtain ⟨o51, h52, H⟩ := Let_some H
 refine Cd.headMeet (σ := Sl × (List Int)) 9 (fun (s49, l50) => [(47, Sl.at (MH.row s_a0_3 a1.From.toNat) (a1.To.toNat * 3)), (55, Sl.v s49)]) (fun (s49, l50) => (.own s49 3 1 (encs l50)) :: (.blk b6 (enc a1) 35) :: (.own s_a0_0 3 1 (encs p32)) :: (.own s_a0_1 3 1 (encs a0.have_)) :: (.own s_a0_2 4 1 (encs a0.recorded)) :: (.mat LaneR.row 42 63 3 s_a0_3 rs_a0_3 (matHole rs_a0_3 a1.From.toNat a1.To.toNat (LaneR.mk Lane.zero Sl.nil))) :: (.blk b_a0 (enc (GameR.mk ({ a0 with now := p32 } : Game) s_a0_0 s_a0_1 s_a0_2 s_a0_3.s)) 41) :: L) (fun _ (s49, l50) => l50 = o51) (by kernel_rfl) (by kernel_rfl) (behind_sink (by kernel_rfl) (by kernel_rfl) (by kernel_rfl)) (by kernel_rfl) (fun hsel hlt => ?_) ?_
 ·refine HdJ.keep (fun w => St w0 F ((.blk b6 (enc a1) 35) :: (.own s_a0_0 3 1 (encs p32)) :: (.own s_a0_1 3 1 (encs a0.have_)) :: (.own s_a0_2 4 1 (encs a0.recorded)) :: (.matO 42 63 s_a0_3 rs_a0_3) :: (.blk b_a0 (enc (GameR.mk ({ a0 with now := p32 } : Game) s_a0_0 s_a0_1 s_a0_2 s_a0_3.s)) 41) :: L) w) (fun w h => trivial) ?_
  refine HdJ.tw hsel hlt 0 (.keep (.keep (.keep (.keep (.mo (.refl _)))))) rfl (Ev.move rfl) ?_
  refine HdJ.tw hsel hlt 1 (.keep (.keep (.keep (.keep (.mo (.refl _)))))) rfl (Ev.move rfl) ?_
  refine HdJ.tw hsel hlt 2 (.keep (.keep (.keep (.keep (.mo (.refl _)))))) rfl (Ev.nilCheckS (α := LaneR) rfl (Rd.matRowO (j := 4) (p := a1.From.toNat) rfl r37g) ((Get.elemN (s := 3) rfl r41g gh0).off (by omega)) rfl) ?_
  refine HdJ.tw hsel hlt 3 (.keep (.keep (.keep (.keep (.mo (.refl _)))))) rfl (Ev.fieldS (α := LaneR) (f' := a1.To.toNat * 3 + 0) rfl (Rd.matRowO (j := 4) (p := a1.From.toNat) rfl r37g) ((Get.elemN (s := 3) rfl r41g gh0).off (by omega)) rfl Try.runUnderlying63 rfl Try.sizeOf22 rfl rfl rfl) ?_
  refine HdJ.tw hsel hlt 4 (.keep (.keep (.keep (.keep (.mo (.refl _)))))) rfl (Ev.loadS (α := LaneR) rfl (Rd.matRowO (j := 4) (p := a1.From.toNat) rfl r37g) Try.isAgg22 (v := Sl.v r41h0) ((Get.elemN (s := 3) rfl r41g (LaneR.get_words gh0)).off (by omega))) ?_
  refine HdJ.tw hsel hlt 5 (.keep (.keep (.keep (.keep (.mo (.refl _)))))) rfl (Ev.fieldAddr (off' := 3) rfl Try.runUnderlying35 rfl Try.sizeOf3 rfl rfl) ?_
  refine HdJ.tw hsel hlt 6 (.keep (.keep (.keep (.keep (.mo (.refl _)))))) rfl (Ev.load (i := 0) rfl rfl Try.isAgg3 (v := iv a1.N) ((Move.get_N gh0).off (by rfl))) ?_
  refine HdJ.o1 7 (fun inv => ?_)
  refine Lst.buildSlice (α := Int) (xs := ([a1.N] : List Int)) (pv := [(0, iv a1.N)]) rfl rfl (by decide) ⟨rfl, rfl, trivial⟩ (run_buildSlice (α := Int) (z0 := (0 : Int)) (xs := ([a1.N] : List Int)) Try.runUnderlying22 Try.sizeOf3 Try.zeroValue3 rfl rfl rfl (by decide) rfl (fill_cons (cs := encs (List.replicate 1 (0 : Int))) (cs' := encs ((List.replicate 1 (0 : Int)).set 0 a1.N)) (vs := [iv a1.N]) rfl rfl rfl ((Put.elemN (s := 1) (i := 0) (x := (0 : Int)) (y := a1.N) rfl rfl (Put.here (vs := [iv a1.N]) rfl)).off rfl) fill_nil)) rfl rfl (by decide) (fun s53 _ => ?_)
  refine hdw inv (.skip (.keep (.keep (.keep (.keep (.mo (.refl _))))))) ?_
  refine HdJ.o1 8 (fun inv => ?_)
  refine Lst.front (i := 5) rfl (L' := (.mat LaneR.row 42 63 3 s_a0_3 rs_a0_3 rs_a0_3) :: (.own s53 3 1 (encs ([a1.N] : List Int))) :: (.blk b6 (enc a1) 35) :: (.own s_a0_0 3 1 (encs p32)) :: (.own s_a0_1 3 1 (encs a0.have_)) :: (.own s_a0_2 4 1 (encs a0.recorded)) :: (.blk b_a0 (enc (GameR.mk ({ a0 with now := p32 } : Game) s_a0_0 s_a0_1 s_a0_2 s_a0_3.s)) 41) :: L) rfl ?_
  refine Lst.matOut (row := LaneR.row) (z0 := (LaneR.mk Lane.zero Sl.nil)) r37g r41g rfl rfl rfl ?_
  refine Lst.its (L' := (.own r41h0 3 1 (encs x38.words)) :: (.mat LaneR.row 42 63 3 s_a0_3 rs_a0_3 (matHole rs_a0_3 a1.From.toNat a1.To.toNat (LaneR.mk Lane.zero Sl.nil))) :: (.own s53 3 1 (encs ([a1.N] : List Int))) :: (.blk b6 (enc a1) 35) :: (.own s_a0_0 3 1 (encs p32)) :: (.own s_a0_1 3 1 (encs a0.have_)) :: (.own s_a0_2 4 1 (encs a0.recorded)) :: (.blk b_a0 (enc (GameR.mk ({ a0 with now := p32 } : Game) s_a0_0 s_a0_1 s_a0_2 s_a0_3.s)) 41) :: L) rfl ?_
  refine Lst.append (i := 0) (α := Int) (xs := x38.words) (ys := ([a1.N] : List Int)) rfl rfl (by decide) rfl rfl Try.runUnderlying22 Try.typeInfo3 rfl rfl rfl rfl rfl rfl (rdo 2 rfl rfl rfl) rfl (room_some h46) rfl (fun s54 => ?_)
  refine Lst.its (L' := (.own s54 3 1 (encs (x38.words ++ ([a1.N] : List Int)))) :: (.mat LaneR.row 42 63 3 s_a0_3 rs_a0_3 (matHole rs_a0_3 a1.From.toNat a1.To.toNat (LaneR.mk Lane.zero Sl.nil))) :: (.own s53 3 1 (encs ([a1.N] : List Int))) :: (.blk b6 (enc a1) 35) :: (.own s_a0_0 3 1 (encs p32)) :: (.own s_a0_1 3 1 (encs a0.have_)) :: (.own s_a0_2 4 1 (encs a0.recorded)) :: (.blk b_a0 (enc (GameR.mk ({ a0 with now := p32 } : Game) s_a0_0 s_a0_1 s_a0_2 s_a0_3.s)) 41) :: L) rfl ?_
  refine Lst.front (i := 7) rfl rfl ?_
  refine Lst.front (i := 2) rfl rfl ?_
  refine Lst.front (i := 7) rfl (L' := (.own s_a0_2 4 1 (encs a0.recorded)) :: (.mat LaneR.row 42 63 3 s_a0_3 rs_a0_3 (matHole rs_a0_3 a1.From.toNat a1.To.toNat (LaneR.mk Lane.zero Sl.nil))) :: (.blk b_a0 (enc (GameR.mk ({ a0 with now := p32 } : Game) s_a0_0 s_a0_1 s_a0_2 s_a0_3.s)) 41) :: (.own s54 3 1 (encs (x38.words ++ ([a1.N] : List Int)))) :: (.own s53 3 1 (encs ([a1.N] : List Int))) :: (.blk b6 (enc a1) 35) :: (.own s_a0_0 3 1 (encs p32)) :: (.own s_a0_1 3 1 (encs a0.have_)) :: L) rfl ?_
  refine Lst.front (i := 7) rfl rfl ?_
  refine Lst.front (i := 7) rfl rfl ?_
  refine Lst.front (i := 7) rfl (L' := (.blk b6 (enc a1) 35) :: (.own s_a0_0 3 1 (encs p32)) :: (.own s_a0_1 3 1 (encs a0.have_)) :: (.own s_a0_2 4 1 (encs a0.recorded)) :: (.mat LaneR.row 42 63 3 s_a0_3 rs_a0_3 (matHole rs_a0_3 a1.From.toNat a1.To.toNat (LaneR.mk Lane.zero Sl.nil))) :: (.blk b_a0 (enc (GameR.mk ({ a0 with now := p32 } : Game) s_a0_0 s_a0_1 s_a0_2 s_a0_3.s)) 41) :: (.own s54 3 1 (encs (x38.words ++ ([a1.N] : List Int)))) :: (.own s53 3 1 (encs ([a1.N] : List Int))) :: L) rfl ?_
  refine Lst.front (i := 7) rfl rfl ?_
  refine Lst.front (i := 7) rfl (L' := (.own s54 3 1 (encs (x38.words ++ ([a1.N] : List Int)))) :: (.own s53 3 1 (encs ([a1.N] : List Int))) :: (.blk b6 (enc a1) 35) :: (.own s_a0_0 3 1 (encs p32)) :: (.own s_a0_1 3 1 (encs a0.have_)) :: (.own s_a0_2 4 1 (encs a0.recorded)) :: (.mat LaneR.row 42 63 3 s_a0_3 rs_a0_3 (matHole rs_a0_3 a1.From.toNat a1.To.toNat (LaneR.mk Lane.zero Sl.nil))) :: (.blk b_a0 (enc (GameR.mk ({ a0 with now := p32 } : Game) s_a0_0 s_a0_1 s_a0_2 s_a0_3.s)) 41) :: L) rfl ?_
  refine hdw inv (.skip (.skip (.keep (.keep (.keep (.keep (.mo (.refl _)))))))) ?_
  refine HdJ.done (by kernel_rfl) ?_
  refine At.less (L' := (.own s54 3 1 (encs (x38.words ++ ([a1.N] : List Int)))) :: (.blk b6 (enc a1) 35) :: (.own s_a0_0 3 1 (encs p32)) :: (.own s_a0_1 3 1 (encs a0.have_)) :: (.own s_a0_2 4 1 (encs a0.recorded)) :: (.mat LaneR.row 42 63 3 s_a0_3 rs_a0_3 (matHole rs_a0_3 a1.From.toNat a1.To.toNat (LaneR.mk Lane.zero Sl.nil))) :: (.blk b_a0 (enc (GameR.mk ({ a0 with now := p32 } : Game) s_a0_0 s_a0_1 s_a0_2 s_a0_3.s)) 41) :: L) (sk1 (sc1 (sk1 (sk1 (sk1 (sk1 (sk1 (sk1 (.refl _))))))))) ?_
  exact At.meetN (s54, x38.words ++ ([a1.N] : List Int)) fl ⟨rfl, rfl, trivial⟩ rfl h52
 rintro F55 ⟨s49, l50⟩ hF56 hy
 subst hy
 refine Lst.as (e' := [(47, Sl.at (MH.row s_a0_3 a1.From.toNat) (a1.To.toNat * 3)), (55, Sl.v s49)]) (L' := (.own s49 3 1 (encs l50)) :: (.blk b6 (enc a1) 35) :: (.own s_a0_0 3 1 (encs p32)) :: (.own s_a0_1 3 1 (encs a0.have_)) :: (.own s_a0_2 4 1 (encs a0.recorded)) :: (.mat LaneR.row 42 63 3 s_a0_3 rs_a0_3 (matHole rs_a0_3 a1.From.toNat a1.To.toNat (LaneR.mk Lane.zero Sl.nil))) :: (.blk b_a0 (enc (GameR.mk ({ a0 with now := p32 } : Game) s_a0_0 s_a0_1 s_a0_2 s_a0_3.s)) 41) :: L) ⟨rfl, rfl, trivial⟩ rfl ?_
 refine Lst.r (Ev.nilCheckS (α := LaneR) rfl (Rd.matRow (j := 5) (p := a1.From.toNat) rfl r37g) ((Get.elemN (s := 3) rfl r41g gh0).off (by omega)) rfl) ?_
 refine Lst.r (Ev.fieldS (α := LaneR) (f' := a1.To.toNat * 3 + 0) rfl (Rd.matRow (j := 5) (p := a1.From.toNat) rfl r37g) ((Get.elemN (s := 3) rfl r41g gh0).off (by omega)) rfl Try.runUnderlying63 rfl Try.sizeOf22 rfl rfl rfl) ?_
 obtain ⟨p57, h58, H⟩ := Let_some H
 have hm59 : (rs_a0_3.set a1.From.toNat (r37.set a1.To.toNat (LaneR.mk ({ x38 with words := l50 } : Lane) s49))).map (List.map LaneR.v) = p57 := (mat_hm hm_a0_3 r37e a1.From.toNat a1.To.toNat (LaneR.mk ({ x38 with words := l50 } : Lane) s49)).trans h58
 refine Lst.front (i := 5) rfl (L' := (.mat LaneR.row 42 63 3 s_a0_3 rs_a0_3 (matHole rs_a0_3 a1.From.toNat a1.To.toNat (LaneR.mk Lane.zero Sl.nil))) :: (.own s49 3 1 (encs l50)) :: (.blk b6 (enc a1) 35) :: (.own s_a0_0 3 1 (encs p32)) :: (.own s_a0_1 3 1 (encs a0.have_)) :: (.own s_a0_2 4 1 (encs a0.recorded)) :: (.blk b_a0 (enc (GameR.mk ({ a0 with now := p32 } : Game) s_a0_0 s_a0_1 s_a0_2 s_a0_3.s)) 41) :: L) rfl ?_
 refine Lst.matStore rfl rfl rfl rfl r37g Try.sizeOf22 (vs := [Sl.v s49]) rfl rfl (by decide) rfl (r' := (r37.set a1.To.toNat (LaneR.mk ({ x38 with words := l50 } : Lane) s49))) ((Put.elemN (s := 3) (x := (LaneR.mk x38 r41h0)) (y := (LaneR.mk ({ x38 with words := l50 } : Lane) s49)) rfl r41g (LaneR.put_words (p := (LaneR.mk x38 r41h0)) (l := l50) (Put.here (vs := [Sl.v s49]) rfl))).off (by omega)) ?_
 refine Lst.its (L' := (.mat LaneR.row 42 63 3 s_a0_3 (rs_a0_3.set a1.From.toNat (r37.set a1.To.toNat (LaneR.mk ({ x38 with words := l50 } : Lane) s49))) (matHole rs_a0_3 a1.From.toNat a1.To.toNat (LaneR.mk Lane.zero Sl.nil))) :: (.own s49 3 1 (encs l50)) :: (.blk b6 (enc a1) 35) :: (.own s_a0_0 3 1 (encs p32)) :: (.own s_a0_1 3 1 (encs a0.have_)) :: (.own s_a0_2 4 1 (encs a0.recorded)) :: (.blk b_a0 (enc (GameR.mk ({ a0 with now := p32, lanes := p57 } : Game) s_a0_0 s_a0_1 s_a0_2 s_a0_3.s)) 41) :: L) rfl ?_
 refine Lst.front (i := 1) rfl (L' := (.own s49 3 1 (encs l50)) :: (.mat LaneR.row 42 63 3 s_a0_3 (rs_a0_3.set a1.From.toNat (r37.set a1.To.toNat (LaneR.mk ({ x38 with words := l50 } : Lane) s49))) (matHole rs_a0_3 a1.From.toNat a1.To.toNat (LaneR.mk Lane.zero Sl.nil))) :: (.blk b6 (enc a1) 35) :: (.own s_a0_0 3 1 (encs p32)) :: (.own s_a0_1 3 1 (encs a0.have_)) :: (.own s_a0_2 4 1 (encs a0.recorded)) :: (.blk b_a0 (enc (GameR.mk ({ a0 with now := p32, lanes := p57 } : Game) s_a0_0 s_a0_1 s_a0_2 s_a0_3.s)) 41) :: L) rfl ?_
 refine Lst.matIn (row := LaneR.row) (z0 := (LaneR.mk Lane.zero Sl.nil)) (z' := (LaneR.mk ({ x38 with words := l50 } : Lane) s49)) r37g r41g rfl rfl ?_
 refine Lst.its (L' := (.mat LaneR.row 42 63 3 s_a0_3 (rs_a0_3.set a1.From.toNat (r37.set a1.To.toNat (LaneR.mk ({ x38 with words := l50 } : Lane) s49))) (rs_a0_3.set a1.From.toNat (r37.set a1.To.toNat (LaneR.mk ({ x38 with words := l50 } : Lane) s49)))) :: (.blk b6 (enc a1) 35) :: (.own s_a0_0 3 1 (encs p32)) :: (.own s_a0_1 3 1 (encs a0.have_)) :: (.own s_a0_2 4 1 (encs a0.recorded)) :: (.blk b_a0 (enc (GameR.mk ({ a0 with now := p32, lanes := p57 } : Game) s_a0_0 s_a0_1 s_a0_2 s_a0_3.s)) 41) :: L) rfl ?_
 refine Lst.nil ?_
 refine At.in_normal ?_
 obtain rfl := some_inj H
 refine At.front (i := 4) rfl rfl ?_
 refine At.front (i := 4) rfl rfl ?_
 refine At.front (i := 4) rfl (L' := (.own s_a0_0 3 1 (encs p32)) :: (.own s_a0_1 3 1 (encs a0.have_)) :: (.own s_a0_2 4 1 (encs a0.recorded)) :: (.mat LaneR.row 42 63 3 s_a0_3 (rs_a0_3.set a1.From.toNat (r37.set a1.To.toNat (LaneR.mk ({ x38 with words := l50 } : Lane) s49))) (rs_a0_3.set a1.From.toNat (r37.set a1.To.toNat (LaneR.mk ({ x38 with words := l50 } : Lane) s49)))) :: (.blk b6 (enc a1) 35) :: (.blk b_a0 (enc (GameR.mk ({ a0 with now := p32, lanes := p57 } : Game) s_a0_0 s_a0_1 s_a0_2 s_a0_3.s)) 41) :: L) rfl ?_
 exact At.ret0 (.inr rfl) rfl hF56 (sk1 (sk1 (sk1 (sk1 (sc1 (sk1 (.refl _))))))) ⟨(rs_a0_3.set a1.From.toNat (r37.set a1.To.toNat (LaneR.mk ({ x38 with words := l50 } : Lane) s49))), rfl, rfl, hm59⟩
set_option maxRecDepth 20000 in
theorem slices_Index_bool_bool_sim {a0 : List Bool} {a1 : Bool} {s_a0 : Sl} {r : Int} (H : slices_Index_bool_bool a0 a1 = some r) (w0 : World) (F : Frz) (M L : List Item) (hM : M.Sublist L) (hs_a0 : Rd w0 F M s_a0 a0) : Ok Try.prog w0 29 [Sl.v s_a0, .bool a1] F (L) (Is (iv r) (L)) := by
 unfold slices_Index_bool_bool at H
 refine Ok.enter (m := 2) (n := 19) Try.func29 rfl rfl rfl (by decide) ?_
 refine Cd.env (e' := [(0, Sl.v s_a0), (1, .bool a1)]) rfl ?_
 refine sr0 ?_
 refine Lst.r (Ev.assign rfl) ?_
 refine nt0 ?_
 refine Cd.seq ?_
 refine sr0 ?_
 refine mv0 rfl ?_
 refine Lst.r (Ev.lenS (α := Bool) (xs := a0) (by decide) rfl rfl Try.runUnderlying38 (hs_a0.mono fl hM)) ?_
 refine mv0 rfl ?_
 refine nt0 ?_
 refine Cd.block ?_
 refine Cd.bound (Rd.le (α := Bool) (xs := a0) (by decide) (hs_a0.mono fl hM)) (fun hN8 => ?_)
 obtain ⟨ol1, H, HKl1⟩ := andThen_some H
 refine Cd.loop (σ := Nat × Nat × Unit) (fun (i1, k1, _u) => [(0, Sl.v s_a0), (1, .bool a1), (7, iv (a0.length : Int)), (8, iv (i1 : Int))]) (fun (i1, k1, _u) => L) (fun _ => (fun (i1, k1, _u) => rangeM (slices_Index_bool_bool_B0 a0 a1) k1 i1 () = some ol1 ∧ i1 + k1 = a0.length)) (fun (i1, k1, _u) => k1) (0, a0.length, ()) ⟨rfl, rfl, rfl, rfl, trivial⟩ rfl ⟨H, by omega⟩ ?_
 rintro F2 ⟨i1, k1, _u⟩ hF3 ⟨H, hik1⟩
 refine Cd.as (e' := [(0, Sl.v s_a0), (1, .bool a1), (7, iv (a0.length : Int)), (8, iv (i1 : Int))]) (L' := L) ⟨rfl, rfl, rfl, rfl, trivial⟩ rfl ?_
 rcases k1 with _ | k1
 ·have hc1 : decide ((i1 : Int) < (a0.length : Int)) = false := decide_eq_false (by omega)
  replace H := rangeM_end H
  refine sr0 ?_
  refine Lst.r (Ev.lss rfl rfl) ?_
  refine nt0 ?_
  refine Cd.seq ?_
  refine Cd.condF rfl hc1 ?_
  refine Cd.exit ?_
  refine At.then_exit ?_
  refine At.then_exit ?_
  refine At.in_exit ?_
  subst H
  replace H := HKl1
  refine At.then ?_
  refine sr0 ?_
  refine Lst.r (Ev.assign rfl) ?_
  refine nt0 ?_
  obtain rfl := some_inj H
  refine Cd.ret ?_
  exact At.ret1 rfl (Res.tmp rfl) hF3 (.refl _) ⟨rfl, rfl⟩
 have hc1 : decide ((i1 : Int) < (a0.length : Int)) = true := decide_eq_true (by omega)
 obtain ⟨c1, H, hgo1, hbrk1, hret1⟩ := rangeM_go H
 unfold slices_Index_bool_bool_B0 at H
 try dsimp only at H
 refine sr0 ?_
 refine Lst.r (Ev.lss rfl rfl) ?_
 refine nt0 ?_
 refine Cd.seq ?_
 refine Cd.condT rfl hc1 ?_
 refine Cd.skip ?_
 refine At.then ?_
 refine Cd.seq ?_
 refine Cd.block ?_
 refine sr0 ?_
 refine mv0 rfl ?_
 refine Lst.r (Ev.assign rfl) ?_
 refine nsr ?_
 refine mv0 rfl ?_
 refine mv0 rfl ?_
 refine mv0 rfl ?_
 obtain ⟨x4, h5, H⟩ := bind_some H
 have g6 := lat_some h5
 refine Lst.r (Ev.indexS (α := Bool) (xs := a0) rfl rfl Try.runUnderlying38 Try.sizeOf4 rfl (by decide) (hs_a0.mono hF3 hM) g6.1 g6.2.1) ?_
 refine Lst.r (Ev.loadS (α := Bool) rfl (hs_a0.mono hF3 hM) Try.isAgg4 (v := .bool x4) ((Get.elemN (s := 1) (x := x4) rfl g6.2.2 gh0).off (by omega))) ?_
 refine Lst.r (Ev.eqlB rfl rfl Try.runUnderlying4) ?_
 refine nt0 ?_
 rcases Bool.eq_false_or_eq_true (a1 == x4) with hb7 | hb7
 ·replace H := ite_t hb7 H
  refine Cd.condT rfl hb7 ?_
  refine sr0 ?_
  refine mv0 rfl ?_
  refine Lst.r (Ev.assign rfl) ?_
  refine nt0 ?_
  have H := hret1 _ (some_inj H).symm
  subst H
  replace H := HKl1
  obtain rfl := some_inj H
  refine Cd.ret ?_
  refine At.in_ret ?_
  refine At.then_ret ?_
  refine At.then_ret ?_
  refine At.in_ret ?_
  refine At.then_ret ?_
  exact At.ret1 rfl (Res.tmp rfl) hF3 (.refl _) ⟨rfl, rfl⟩
 replace H := ite_f hb7 H
 refine Cd.condF rfl hb7 ?_
 refine Cd.skip ?_
 refine At.in_normal ?_
 refine At.then ?_
 refine Cd.region ?_
 refine Lst.r (Ev.incr (by omega) rfl rfl) ?_
 refine mv0 rfl ?_
 refine Lst.nil ?_
 exact At.meet (i1 + 1, k1, ()) hF3 ⟨rfl, rfl, rfl, rfl, trivial⟩ rfl ⟨⟨hgo1 _ (some_inj H).symm, by omega⟩, Nat.lt_succ_self _⟩
set_option maxRecDepth 20000 in
theorem slices_Contains_bool_bool_sim {a0 : List Bool} {a1 : Bool} {s_a0 : Sl} {r : Bool} (H : slices_Contains_bool_bool a0 a1 = some r) (w0 : World) (F : Frz) (M L : List Item) (hM : M.Sublist L) (hs_a0 : Rd w0 F M s_a0 a0) : Ok Try.prog w0 25 [Sl.v s_a0, .bool a1] F (L) (Is (.bool r) (L)) := by
 unfold slices_Contains_bool_bool at H
 refine Ok.enter (m := 2) (n := 9) Try.func25 rfl rfl rfl (by decide) ?_
 refine Cd.env (e' := [(0, Sl.v s_a0), (1, .bool a1)]) rfl ?_
 refine sr0 ?_
 refine Lst.r (Ev.assign rfl) ?_
 refine nsr ?_
 refine mv0 rfl ?_
 refine mv0 rfl ?_
 obtain ⟨r1, h2, H⟩ := bind_some H
 refine Lst.call1 rfl rfl (by decide) (vs := [Sl.v s_a0, .bool a1]) ⟨rfl, rfl, trivial⟩ Try.call29 (slices_Index_bool_bool_sim h2 w0 _ M _ hM (hs_a0.mono fl (.refl _))) ?_
 refine Lst.r (Ev.geq rfl rfl) ?_
 refine Lst.r (Ev.assign rfl) ?_
 refine nt0 ?_
 obtain rfl := some_inj H
 refine Cd.ret ?_
 exact At.ret1 rfl (Res.tmp rfl) fl (.refl _) ⟨rfl, rfl⟩
set_option maxRecDepth 20000 in
theorem snap_game_picture_sim {a0 : Game} {b_a0 : Nat} {s_a0_0 : Sl} {s_a0_1 : Sl} {s_a0_2 : Sl} {s_a0_3 : MH} {rs_a0_3 : List (List LaneR)} {r : Picture} (H : snap_game_picture a0 = some r) (w0 : World) (F : Frz) (M L : List Item) (hM : M.Sublist L) (hs_a0_0 : Rd w0 F M s_a0_0 a0.now) (hs_a0_1 : Rd w0 F M s_a0_1 a0.have_) (hs_a0_2 : Rd w0 F M s_a0_2 a0.recorded) (hm_a0_3 : rs_a0_3.map (List.map LaneR.v) = a0.lanes) : Ok Try.prog w0 11 [pv b_a0 0] F ((.mat LaneR.row 42 63 3 s_a0_3 rs_a0_3 rs_a0_3) :: (.blk b_a0 (enc (GameR.mk a0 s_a0_0 s_a0_1 s_a0_2 s_a0_3.s)) 41) :: L) (fun Fx L' v => ∃ (s3 : Sl) (s5 : Sl) (rs6 : List (LR Int)) (s10 : Sl), v = .agg (enc (PictureR.mk r s3 s5 s10)).toArray ∧ L' = (.own s5 22 1 (encs rs6)) :: (.mat LaneR.row 42 63 3 s_a0_3 rs_a0_3 rs_a0_3) :: (.blk b_a0 (enc (GameR.mk a0 s_a0_0 s_a0_1 s_a0_2 s_a0_3.s)) 41) :: L ∧ Rd w0 Fx M s3 r.Have ∧ rs6.map LR.v = r.Lanes ∧ All LR.rel w0 Fx M rs6 ∧ Rd w0 Fx M s10 r.Now) := by
 unfold snap_game_picture at H
 refine Ok.enter (m := 1) (n := 83) Try.func11 rfl rfl rfl (by decide) ?_
 refine Cd.env (e' := [(0, pv b_a0 0)]) rfl ?_
 refine sr0 ?_
 refine Lst.addNil 3 1 ?_
 have ha5 : All LR.rel w0 F [] ([] : List (LR Int)) := All.nil
 have ha5m : List.map LR.v ([] : List (LR Int)) = ([] : List (List Int)) := rfl
 refine Lst.addNil 22 1 ?_
 refine Lst.addNil 3 1 ?_
 refine Lst.alloc (cs := enc (PictureR.mk ({ Picture.zero with Have := ([] : List Int), Lanes := ([] : List (List Int)), Now := ([] : List Int) } : Picture) Sl.nil Sl.nil Sl.nil)) rfl rfl (by decide) Try.zeroValue28 rfl (fun b7 => ?_)
 refine nt0 ?_
 refine Cd.seq ?_
 obtain ⟨r9, h10, H⟩ := bind_some H
 obtain ⟨o31, h32, H⟩ := Let_some H
 refine Cd.headMeet (σ := Picture × Nat × Sl × (List Int) × Sl × (List (List Int)) × (List (LR Int)) × Sl × (List Int)) 16 (fun (y20, b21, s22, l23, s24, l25, rs26, s29, l30) => [(0, pv b_a0 0), (2, pv b7 0), (3, pv b21 0), (25, .agg (enc (PictureR.mk ({ y20 with Have := a0.have_, Lanes := [], Now := a0.now } : Picture) s_a0_1 Sl.nil s_a0_0)).toArray)]) (fun (y20, b21, s22, l23, s24, l25, rs26, s29, l30) => (.blk b21 (enc (PictureR.mk ({ Picture.zero with Have := l30, Lanes := l25, Now := l23 } : Picture) s29 s24 s22)) 28) :: (.own s22 3 1 (encs l23)) :: (.own s24 22 1 (encs rs26)) :: (.own s29 3 1 (encs l30)) :: (.blk b7 (enc (PictureR.mk ({ Picture.zero with Have := ([] : List Int), Lanes := ([] : List (List Int)), Now := ([] : List Int) } : Picture) Sl.nil Sl.nil Sl.nil)) 28) :: (.own Sl.nil 3 1 (encs ([] : List Int))) :: (.own Sl.nil 22 1 (encs ([] : List (LR Int)))) :: (.own Sl.nil 3 1 (encs ([] : List Int))) :: (.mat LaneR.row 42 63 3 s_a0_3 rs_a0_3 rs_a0_3) :: (.blk b_a0 (enc (GameR.mk a0 s_a0_0 s_a0_1 s_a0_2 s_a0_3.s)) 41) :: L) (fun Fx (y20, b21, s22, l23, s24, l25, rs26, s29, l30) => (y20, l23, l25, l30) = o31 ∧ rs26.map LR.v = l25 ∧ All LR.rel w0 Fx M rs26) (by kernel_rfl) (by kernel_rfl) (behind_sink (by kernel_rfl) (by kernel_rfl) (by kernel_rfl)) (by kernel_rfl) (fun hsel hlt => ?_) ?_
 ·refine HdJ.keep (fun w => St w0 F ((.blk b7 (enc (PictureR.mk ({ Picture.zero with Have := ([] : List Int), Lanes := ([] : List (List Int)), Now := ([] : List Int) } : Picture) Sl.nil Sl.nil Sl.nil)) 28) :: (.own Sl.nil 3 1 (encs ([] : List Int))) :: (.own Sl.nil 22 1 (encs ([] : List (LR Int)))) :: (.own Sl.nil 3 1 (encs ([] : List Int))) :: (.mat LaneR.row 42 63 3 s_a0_3 rs_a0_3 rs_a0_3) :: (.blk b_a0 (enc (GameR.mk a0 s_a0_0 s_a0_1 s_a0_2 s_a0_3.s)) 41) :: L) w) (fun w h => trivial) ?_
  refine HdJ.ts hsel hlt 0 (sk1 (sk1 (sk1 (sk1 (sk1 (sk1 (.refl _))))))) rfl (Ev.move rfl) ?_
  refine HdJ.ts hsel hlt 1 (sk1 (sk1 (sk1 (sk1 (sk1 (sk1 (.refl _))))))) rfl (Ev.nilCheck rfl) ?_
  refine HdJ.ts hsel hlt 2 (sk1 (sk1 (sk1 (sk1 (sk1 (sk1 (.refl _))))))) rfl (Ev.fieldAddr (off' := 1) rfl Try.runUnderlying41 rfl Try.sizeOf22 rfl rfl) ?_
  refine HdJ.ts hsel hlt 3 (sk1 (sk1 (sk1 (sk1 (sk1 (sk1 (.refl _))))))) rfl (Ev.load (i := 5) rfl rfl Try.isAgg22 (v := Sl.v s_a0_1) ((GameR.get_have_ gh0).off (by rfl))) ?_
  refine HdJ.ts hsel hlt 4 (sk1 (sk1 (sk1 (sk1 (sk1 (sk1 (.refl _))))))) rfl (Ev.move rfl) ?_
  refine HdJ.ts hsel hlt 5 (sk1 (sk1 (sk1 (sk1 (sk1 (sk1 (.refl _))))))) rfl (Ev.nilCheck rfl) ?_
  refine HdJ.ts hsel hlt 6 (sk1 (sk1 (sk1 (sk1 (sk1 (sk1 (.refl _))))))) rfl (Ev.fieldAddr (off' := 0) rfl Try.runUnderlying41 rfl Try.sizeOf22 rfl rfl) ?_
  refine HdJ.ts hsel hlt 7 (sk1 (sk1 (sk1 (sk1 (sk1 (sk1 (.refl _))))))) rfl (Ev.load (i := 5) rfl rfl Try.isAgg22 (v := Sl.v s_a0_0) ((GameR.get_now gh0).off (by rfl))) ?_
  refine HdJ.ts hsel hlt 8 (sk1 (sk1 (sk1 (sk1 (sk1 (sk1 (.refl _))))))) rfl (Ev.move rfl) ?_
  refine HdJ.ts hsel hlt 9 (sk1 (sk1 (sk1 (sk1 (sk1 (sk1 (.refl _))))))) rfl (Ev.nilCheck rfl) ?_
  refine HdJ.ts hsel hlt 10 (sk1 (sk1 (sk1 (sk1 (sk1 (sk1 (.refl _))))))) rfl (Ev.fieldAddr (off' := 2) rfl Try.runUnderlying41 rfl Try.sizeOf38 rfl rfl) ?_
  refine HdJ.ts hsel hlt 11 (sk1 (sk1 (sk1 (sk1 (sk1 (sk1 (.refl _))))))) rfl (Ev.load (i := 5) rfl rfl Try.isAgg38 (v := Sl.v s_a0_2) ((GameR.get_recorded gh0).off (by rfl))) ?_
  refine HdJ.step [12, 15] (by kernel_rfl) rfl ?_
  refine HdStep.c (fun inv => ?_) ?_
  ·refine Lst.call1 rfl rfl (by decide) (vs := [Sl.v s_a0_2, .bool false]) ⟨rfl, rfl, trivial⟩ Try.call25 (slices_Contains_bool_bool_sim h10 w0 _ M _ (sc4 (sc2 hM)) (hs_a0_2.mono fl (.refl _))) ?_
   refine hds inv (sk1 (sk1 (sk1 (sk1 (sk1 (sk1 (.refl _))))))) ?_
   refine HdJ.ts hsel hlt 13 (sk1 (sk1 (sk1 (sk1 (sk1 (sk1 (.refl _))))))) rfl (Ev.not rfl) ?_
   refine HdJ.ts hsel hlt 14 (sk1 (sk1 (sk1 (sk1 (sk1 (sk1 (.refl _))))))) rfl (Ev.build (v := .agg (enc (PictureR.mk ({ Picture.zero with Have := a0.have_, Whole := !r9, Now := a0.now } : Picture) s_a0_1 Sl.nil s_a0_0)).toArray) (pv := [(0, Sl.v s_a0_1), (3, Sl.v s_a0_0), (2, .bool (!r9))]) ⟨rfl, rfl, ⟨rfl, rfl, ⟨rfl, rfl, trivial⟩⟩⟩ (run_buildStruct (places := #[(0, 1), (1, 1), (2, 1), (3, 1), (4, 1)]) Try.zeroValue28 (zs := enc (PictureR.mk Picture.zero Sl.nil Sl.nil Sl.nil)) rfl Try.runUnderlying28 (fun w => by kernel_rfl) (fill_cons (cs := enc (PictureR.mk Picture.zero Sl.nil Sl.nil Sl.nil)) (cs' := enc (PictureR.mk ({ Picture.zero with Have := a0.have_ } : Picture) s_a0_1 Sl.nil Sl.nil)) (vs := [Sl.v s_a0_1]) rfl rfl rfl ((PictureR.put_Have (p := (PictureR.mk Picture.zero Sl.nil Sl.nil Sl.nil)) (y := s_a0_1) (Put.here (vs := [Sl.v s_a0_1]) rfl)).off rfl) (fill_cons (cs := enc (PictureR.mk ({ Picture.zero with Have := a0.have_ } : Picture) s_a0_1 Sl.nil Sl.nil)) (cs' := enc (PictureR.mk ({ Picture.zero with Have := a0.have_, Now := a0.now } : Picture) s_a0_1 Sl.nil s_a0_0)) (vs := [Sl.v s_a0_0]) rfl rfl rfl ((PictureR.put_Now (p := (PictureR.mk ({ Picture.zero with Have := a0.have_ } : Picture) s_a0_1 Sl.nil Sl.nil)) (y := s_a0_0) (Put.here (vs := [Sl.v s_a0_0]) rfl)).off rfl) (fill_cons (cs := enc (PictureR.mk ({ Picture.zero with Have := a0.have_, Now := a0.now } : Picture) s_a0_1 Sl.nil s_a0_0)) (cs' := enc (PictureR.mk ({ Picture.zero with Have := a0.have_, Whole := !r9, Now := a0.now } : Picture) s_a0_1 Sl.nil s_a0_0)) (vs := [.bool (!r9)]) rfl rfl rfl ((PictureR.put_Whole (p := (PictureR.mk ({ Picture.zero with Have := a0.have_, Now := a0.now } : Picture) s_a0_1 Sl.nil s_a0_0)) (y := (!r9)) (Put.here (vs := [.bool (!r9)]) rfl)).off rfl) fill_nil))))) ?_
   refine HdJ.o1 15 (fun inv => ?_)
   refine Lst.addNil 3 1 ?_
   have ha35 : All LR.rel w0 F [] ([] : List (LR Int)) := All.nil
   have ha35m : List.map LR.v ([] : List (LR Int)) = ([] : List (List Int)) := rfl
   refine Lst.addNil 22 1 ?_
   refine Lst.addNil 3 1 ?_
   refine Lst.alloc (cs := enc (PictureR.mk ({ Picture.zero with Have := ([] : List Int), Lanes := ([] : List (List Int)), Now := ([] : List Int) } : Picture) Sl.nil Sl.nil Sl.nil)) rfl rfl (by decide) Try.zeroValue28 rfl (fun b36 => ?_)
   refine hds inv (sc1 (sc1 (sc1 (sc1 (sk1 (sk1 (sk1 (sk1 (sk1 (sk1 (.refl _))))))))))) ?_
   refine HdJ.done (by kernel_rfl) ?_
   exact At.meetN (({ Picture.zero with Have := a0.have_, Whole := !r9, Now := a0.now } : Picture), b36, Sl.nil, ([] : List Int), Sl.nil, ([] : List (List Int)), ([] : List (LR Int)), Sl.nil, ([] : List Int)) fl ⟨rfl, rfl, rfl, rfl, trivial⟩ rfl ⟨h32, ha35m, (All.monoLR ha35 fl (List.nil_sublist _))⟩
  refine HdStep.c (fun inv => ?_) trivial
  refine Lst.addNil 3 1 ?_
  have ha37 : All LR.rel w0 F [] ([] : List (LR Int)) := All.nil
  have ha37m : List.map LR.v ([] : List (LR Int)) = ([] : List (List Int)) := rfl
  refine Lst.addNil 22 1 ?_
  refine Lst.addNil 3 1 ?_
  refine Lst.alloc (cs := enc (PictureR.mk ({ Picture.zero with Have := ([] : List Int), Lanes := ([] : List (List Int)), Now := ([] : List Int) } : Picture) Sl.nil Sl.nil Sl.nil)) rfl rfl (by decide) Try.zeroValue28 rfl (fun b38 => ?_)
  refine hds inv (sc1 (sc1 (sc1 (sc1 (sk1 (sk1 (sk1 (sk1 (sk1 (sk1 (.refl _))))))))))) ?_
  refine HdJ.o1 12 (fun inv => ?_)
  refine Lst.call1 rfl rfl (by decide) (vs := [Sl.v s_a0_2, .bool false]) ⟨rfl, rfl, trivial⟩ Try.call25 (slices_Contains_bool_bool_sim h10 w0 _ M _ (sc8 (sc2 hM)) (hs_a0_2.mono fl (.refl _))) ?_
  refine hds inv (sc1 (sc1 (sc1 (sc1 (sk1 (sk1 (sk1 (sk1 (sk1 (sk1 (.refl _))))))))))) ?_
  refine HdJ.keep (fun w => St w0 F ((.blk b38 (enc (PictureR.mk ({ Picture.zero with Have := ([] : List Int), Lanes := ([] : List (List Int)), Now := ([] : List Int) } : Picture) Sl.nil Sl.nil Sl.nil)) 28) :: (.own Sl.nil 3 1 (encs ([] : List Int))) :: (.own Sl.nil 22 1 (encs ([] : List (LR Int)))) :: (.own Sl.nil 3 1 (encs ([] : List Int))) :: (.blk b7 (enc (PictureR.mk ({ Picture.zero with Have := ([] : List Int), Lanes := ([] : List (List Int)), Now := ([] : List Int) } : Picture) Sl.nil Sl.nil Sl.nil)) 28) :: (.own Sl.nil 3 1 (encs ([] : List Int))) :: (.own Sl.nil 22 1 (encs ([] : List (LR Int)))) :: (.own Sl.nil 3 1 (encs ([] : List Int))) :: (.mat LaneR.row 42 63 3 s_a0_3 rs_a0_3 rs_a0_3) :: (.blk b_a0 (enc (GameR.mk a0 s_a0_0 s_a0_1 s_a0_2 s_a0_3.s)) 41) :: L) w) (fun w h => (h.weaken fl).sublist (sc1 (sc1 (sc1 (sc1 (sk1 (sk1 (sk1 (sk1 (sk1 (sk1 (.refl _)))))))))))) ?_
  refine HdJ.ts hsel hlt 13 (sk1 (sk1 (sk1 (sk1 (sk1 (sk1 (sk1 (sk1 (sk1 (sk1 (.refl _))))))))))) rfl (Ev.not rfl) ?_
  refine HdJ.ts hsel hlt 14 (sk1 (sk1 (sk1 (sk1 (sk1 (sk1 (sk1 (sk1 (sk1 (sk1 (.refl _))))))))))) rfl (Ev.build (v := .agg (enc (PictureR.mk ({ Picture.zero with Have := a0.have_, Whole := !r9, Now := a0.now } : Picture) s_a0_1 Sl.nil s_a0_0)).toArray) (pv := [(0, Sl.v s_a0_1), (3, Sl.v s_a0_0), (2, .bool (!r9))]) ⟨rfl, rfl, ⟨rfl, rfl, ⟨rfl, rfl, trivial⟩⟩⟩ (run_buildStruct (places := #[(0, 1), (1, 1), (2, 1), (3, 1), (4, 1)]) Try.zeroValue28 (zs := enc (PictureR.mk Picture.zero Sl.nil Sl.nil Sl.nil)) rfl Try.runUnderlying28 (fun w => by kernel_rfl) (fill_cons (cs := enc (PictureR.mk Picture.zero Sl.nil Sl.nil Sl.nil)) (cs' := enc (PictureR.mk ({ Picture.zero with Have := a0.have_ } : Picture) s_a0_1 Sl.nil Sl.nil)) (vs := [Sl.v s_a0_1]) rfl rfl rfl ((PictureR.put_Have (p := (PictureR.mk Picture.zero Sl.nil Sl.nil Sl.nil)) (y := s_a0_1) (Put.here (vs := [Sl.v s_a0_1]) rfl)).off rfl) (fill_cons (cs := enc (PictureR.mk ({ Picture.zero with Have := a0.have_ } : Picture) s_a0_1 Sl.nil Sl.nil)) (cs' := enc (PictureR.mk ({ Picture.zero with Have := a0.have_, Now := a0.now } : Picture) s_a0_1 Sl.nil s_a0_0)) (vs := [Sl.v s_a0_0]) rfl rfl rfl ((PictureR.put_Now (p := (PictureR.mk ({ Picture.zero with Have := a0.have_ } : Picture) s_a0_1 Sl.nil Sl.nil)) (y := s_a0_0) (Put.here (vs := [Sl.v s_a0_0]) rfl)).off rfl) (fill_cons (cs := enc (PictureR.mk ({ Picture.zero with Have := a0.have_, Now := a0.now } : Picture) s_a0_1 Sl.nil s_a0_0)) (cs' := enc (PictureR.mk ({ Picture.zero with Have := a0.have_, Whole := !r9, Now := a0.now } : Picture) s_a0_1 Sl.nil s_a0_0)) (vs := [.bool (!r9)]) rfl rfl rfl ((PictureR.put_Whole (p := (PictureR.mk ({ Picture.zero with Have := a0.have_, Now := a0.now } : Picture) s_a0_1 Sl.nil s_a0_0)) (y := (!r9)) (Put.here (vs := [.bool (!r9)]) rfl)).off rfl) fill_nil))))) ?_
  refine HdJ.done (by kernel_rfl) ?_
  exact At.meetN (({ Picture.zero with Have := a0.have_, Whole := !r9, Now := a0.now } : Picture), b38, Sl.nil, ([] : List Int), Sl.nil, ([] : List (List Int)), ([] : List (LR Int)), Sl.nil, ([] : List Int)) fl ⟨rfl, rfl, rfl, rfl, trivial⟩ rfl ⟨h32, ha37m, (All.monoLR ha37 fl (List.nil_sublist _))⟩
 rintro F41 ⟨y20, b21, s22, l23, s24, l25, rs26, s29, l30⟩ hF42 ⟨hy, fm27, fa28⟩
 subst hy
 try dsimp only at H
 refine Lst.as (e' := [(0, pv b_a0 0), (2, pv b7 0), (3, pv b21 0), (25, .agg (enc (PictureR.mk ({ y20 with Have := a0.have_, Lanes := [], Now := a0.now } : Picture) s_a0_1 Sl.nil s_a0_0)).toArray)]) (L' := (.blk b21 (enc (PictureR.mk ({ Picture.zero with Have := l30, Lanes := l25, Now := l23 } : Picture) s29 s24 s22)) 28) :: (.own s22 3 1 (encs l23)) :: (.own s24 22 1 (encs rs26)) :: (.own s29 3 1 (encs l30)) :: (.blk b7 (enc (PictureR.mk ({ Picture.zero with Have := ([] : List Int), Lanes := ([] : List (List Int)), Now := ([] : List Int) } : Picture) Sl.nil Sl.nil Sl.nil)) 28) :: (.own Sl.nil 3 1 (encs ([] : List Int))) :: (.own Sl.nil 22 1 (encs ([] : List (LR Int)))) :: (.own Sl.nil 3 1 (encs ([] : List Int))) :: (.mat LaneR.row 42 63 3 s_a0_3 rs_a0_3 rs_a0_3) :: (.blk b_a0 (enc (GameR.mk a0 s_a0_0 s_a0_1 s_a0_2 s_a0_3.s)) 41) :: L) ⟨rfl, rfl, rfl, rfl, trivial⟩ rfl ?_
 refine Lst.store (i := 0) rfl rfl rfl rfl rfl Try.sizeOf28 (vs := enc (PictureR.mk ({ y20 with Have := a0.have_, Lanes := [], Now := a0.now } : Picture) s_a0_1 Sl.nil s_a0_0)) rfl (Enc.len _) (Enc.one _) (cs' := enc (PictureR.mk ({ y20 with Have := a0.have_, Lanes := [], Now := a0.now } : Picture) s_a0_1 Sl.nil s_a0_0)) (Put.here ((Enc.len _).trans (Enc.len _).symm)) (L' := (.blk b21 (enc (PictureR.mk ({ y20 with Have := a0.have_, Lanes := [], Now := a0.now } : Picture) s_a0_1 Sl.nil s_a0_0)) 28) :: (.own s22 3 1 (encs l23)) :: (.own s24 22 1 (encs rs26)) :: (.own s29 3 1 (encs l30)) :: (.blk b7 (enc (PictureR.mk ({ Picture.zero with Have := ([] : List Int), Lanes := ([] : List (List Int)), Now := ([] : List Int) } : Picture) Sl.nil Sl.nil Sl.nil)) 28) :: (.own Sl.nil 3 1 (encs ([] : List Int))) :: (.own Sl.nil 22 1 (encs ([] : List (LR Int)))) :: (.own Sl.nil 3 1 (encs ([] : List Int))) :: (.mat LaneR.row 42 63 3 s_a0_3 rs_a0_3 rs_a0_3) :: (.blk b_a0 (enc (GameR.mk a0 s_a0_0 s_a0_1 s_a0_2 s_a0_3.s)) 41) :: L) rfl ?_
 refine nt0 ?_
 refine Cd.seq ?_
 refine sr0 ?_
 refine mv0 rfl ?_
 refine Lst.r (Ev.nilCheck rfl) ?_
 refine Lst.r (Ev.fieldAddr (off' := 3) rfl Try.runUnderlying41 rfl Try.sizeOf39 rfl rfl) ?_
 refine Lst.r (Ev.load (i := 9) rfl rfl Try.isAgg39 (v := Sl.v s_a0_3.s) ((GameR.get_lanes gh0).off (by rfl))) ?_
 refine Lst.r (Ev.lenM (MH.rl_len.trans (map_len hm_a0_3)) (Ev.lenS (α := LR LaneR) (xs := MH.rl s_a0_3 rs_a0_3) (by decide) rfl rfl Try.runUnderlying39 (Rd.matOuter (j := 8) rfl))) ?_
 refine mv0 rfl ?_
 refine nt0 ?_
 refine Cd.block ?_
 have ha46 : All LR.rel w0 F41 [] ([] : List (LR Int)) := All.nil
 have ha46m : List.map LR.v ([] : List (LR Int)) = ([] : List (List Int)) := rfl
 refine Cd.addNil 22 1 ?_
 refine Cd.bound (Rd.le (α := LR LaneR) (xs := MH.rl s_a0_3 rs_a0_3) (by decide) (Rd.matOuter (j := 9) rfl)) (fun hN119 => ?_)
 rw [MH.rl_len, map_len hm_a0_3] at hN119
 obtain ⟨ol44, H, HKl44⟩ := bind_some H
 refine Cd.loop (σ := Nat × Nat × Picture × Sl × (List (LR Int))) (fun (i44, k44, y47, s48, rs49) => [(2, pv b7 0), (3, pv b21 0), (29, Sl.v s_a0_3.s), (30, iv (a0.lanes.length : Int)), (31, iv (i44 : Int))]) (fun (i44, k44, y47, s48, rs49) => (.own s48 22 1 (encs rs49)) :: (.blk b21 (enc (PictureR.mk ({ y47 with Have := a0.have_, Now := a0.now } : Picture) s_a0_1 s48 s_a0_0)) 28) :: (.own s22 3 1 (encs l23)) :: (.own s24 22 1 (encs rs26)) :: (.own s29 3 1 (encs l30)) :: (.blk b7 (enc (PictureR.mk ({ Picture.zero with Have := ([] : List Int), Lanes := ([] : List (List Int)), Now := ([] : List Int) } : Picture) Sl.nil Sl.nil Sl.nil)) 28) :: (.own Sl.nil 3 1 (encs ([] : List Int))) :: (.own Sl.nil 22 1 (encs ([] : List (LR Int)))) :: (.own Sl.nil 3 1 (encs ([] : List Int))) :: (.mat LaneR.row 42 63 3 s_a0_3 rs_a0_3 rs_a0_3) :: (.blk b_a0 (enc (GameR.mk a0 s_a0_0 s_a0_1 s_a0_2 s_a0_3.s)) 41) :: L) (fun Fx => (fun (i44, k44, y47, s48, rs49) => rangeF (snap_game_picture_B0 a0) k44 i44 y47 = some ol44 ∧ i44 + k44 = a0.lanes.length ∧ rs49.map LR.v = y47.Lanes ∧ All LR.rel w0 Fx M rs49)) (fun (i44, k44, y47, s48, rs49) => k44) (0, a0.lanes.length, ({ y20 with Have := a0.have_, Lanes := ([] : List (List Int)), Now := a0.now } : Picture), Sl.nil, ([] : List (LR Int))) ⟨rfl, rfl, rfl, rfl, rfl, trivial⟩ rfl ⟨H, by omega, ha46m, (All.monoLR ha46 fl (List.nil_sublist _))⟩ ?_
 rintro F53 ⟨i44, k44, y47, s48, rs49⟩ hF54 ⟨H, hik44, fm50, fa52⟩
 refine Cd.as (e' := [(2, pv b7 0), (3, pv b21 0), (29, Sl.v s_a0_3.s), (30, iv (a0.lanes.length : Int)), (31, iv (i44 : Int))]) (L' := (.own s48 22 1 (encs rs49)) :: (.blk b21 (enc (PictureR.mk ({ y47 with Have := a0.have_, Now := a0.now } : Picture) s_a0_1 s48 s_a0_0)) 28) :: (.own s22 3 1 (encs l23)) :: (.own s24 22 1 (encs rs26)) :: (.own s29 3 1 (encs l30)) :: (.blk b7 (enc (PictureR.mk ({ Picture.zero with Have := ([] : List Int), Lanes := ([] : List (List Int)), Now := ([] : List Int) } : Picture) Sl.nil Sl.nil Sl.nil)) 28) :: (.own Sl.nil 3 1 (encs ([] : List Int))) :: (.own Sl.nil 22 1 (encs ([] : List (LR Int)))) :: (.own Sl.nil 3 1 (encs ([] : List Int))) :: (.mat LaneR.row 42 63 3 s_a0_3 rs_a0_3 rs_a0_3) :: (.blk b_a0 (enc (GameR.mk a0 s_a0_0 s_a0_1 s_a0_2 s_a0_3.s)) 41) :: L) ⟨rfl, rfl, rfl, rfl, rfl, trivial⟩ rfl ?_
 rcases k44 with _ | k44
 ·have hc44 : decide ((i44 : Int) < (a0.lanes.length : Int)) = false := decide_eq_false (by omega)
  replace H := rangeF_end H
  refine sr0 ?_
  refine Lst.r (Ev.lss rfl rfl) ?_
  refine nt0 ?_
  refine Cd.seq ?_
  refine Cd.condF rfl hc44 ?_
  refine Cd.exit ?_
  refine At.then_exit ?_
  refine At.then_exit ?_
  refine At.in_exit ?_
  subst H
  replace H := HKl44
  refine At.then ?_
  refine sr0 ?_
  refine Lst.r (Ev.loadA (i := 1) rfl rfl Try.isAgg28 Try.sizeOf28 (ch := enc (PictureR.mk ({ y47 with Have := a0.have_, Now := a0.now } : Picture) s_a0_1 s48 s_a0_0)) (Enc.len _) gh0) ?_
  refine Lst.store (i := 5) rfl rfl rfl rfl rfl Try.sizeOf28 (vs := enc (PictureR.mk ({ y47 with Have := a0.have_, Now := a0.now } : Picture) s_a0_1 s48 s_a0_0)) rfl (Enc.len _) (Enc.one _) (cs' := enc (PictureR.mk ({ y47 with Have := a0.have_, Now := a0.now } : Picture) s_a0_1 s48 s_a0_0)) (Put.here ((Enc.len _).trans (Enc.len _).symm)) (L' := (.own s48 22 1 (encs rs49)) :: (.blk b21 (enc (PictureR.mk ({ y47 with Have := a0.have_, Now := a0.now } : Picture) s_a0_1 s48 s_a0_0)) 28) :: (.own s22 3 1 (encs l23)) :: (.own s24 22 1 (encs rs26)) :: (.own s29 3 1 (encs l30)) :: (.blk b7 (enc (PictureR.mk ({ y47 with Have := a0.have_, Now := a0.now } : Picture) s_a0_1 s48 s_a0_0)) 28) :: (.own Sl.nil 3 1 (encs ([] : List Int))) :: (.own Sl.nil 22 1 (encs ([] : List (LR Int)))) :: (.own Sl.nil 3 1 (encs ([] : List Int))) :: (.mat LaneR.row 42 63 3 s_a0_3 rs_a0_3 rs_a0_3) :: (.blk b_a0 (enc (GameR.mk a0 s_a0_0 s_a0_1 s_a0_2 s_a0_3.s)) 41) :: L) rfl ?_
  refine nt0 ?_
  obtain rfl := some_inj H
  refine Cd.ret ?_
  exact At.ret1 rfl (Res.cellA (i := 5) rfl rfl Try.isAgg28 Try.sizeOf28 (Enc.len _)) (FLe.trans hF42 hF54) (sk1 (sc1 (sc1 (sc1 (sc1 (sc1 (sc1 (sc1 (sc1 (sk1 (sk1 (.refl _)))))))))))) ⟨s_a0_1, s48, rs49, s_a0_0, rfl, rfl, (hs_a0_1.mono (FLe.trans hF42 hF54) (.refl _)), fm50, (All.monoLR fa52 fl (.refl _)), (hs_a0_0.mono (FLe.trans hF42 hF54) (.refl _))⟩
 have hc44 : decide ((i44 : Int) < (a0.lanes.length : Int)) = true := decide_eq_true (by omega)
 obtain ⟨c44, H, hgo44⟩ := rangeF_go H
 unfold snap_game_picture_B0 at H
 try dsimp only at H
 refine sr0 ?_
 refine Lst.r (Ev.lss rfl rfl) ?_
 refine nt0 ?_
 refine Cd.seq ?_
 refine Cd.condT rfl hc44 ?_
 refine Cd.skip ?_
 refine At.then ?_
 refine Cd.seq ?_
 refine Cd.block ?_
 refine sr0 ?_
 refine mv0 rfl ?_
 obtain ⟨x55, h56, H⟩ := bind_some H
 have g57 := lat_some h56
 obtain ⟨r58, r58g, r58e, r58m⟩ := map_get hm_a0_3 g57.2.2
 refine Lst.r (Ev.indexS (α := LR LaneR) (xs := (MH.rl s_a0_3 rs_a0_3)) rfl rfl Try.runUnderlying39 Try.sizeOf42 rfl (by decide) (Rd.matOuter (j := 9) rfl) g57.1 (by have := map_len hm_a0_3; rw [MH.rl_len]; omega)) ?_
 refine Lst.r (Ev.loadS (α := LR LaneR) rfl (Rd.matOuter (j := 9) rfl) Try.isAgg42 (v := Sl.v (MH.row s_a0_3 (i44 : Int).toNat)) ((Get.elemN (s := 1) rfl (MH.rl_get r58g) gh0).off (by omega))) ?_
 refine Lst.r (Ev.assign rfl) ?_
 refine Lst.r (Ev.assign rfl) ?_
 refine nsr ?_
 refine Lst.addNil 3 1 ?_
 refine Lst.r (Ev.assign rfl) ?_
 refine nt0 ?_
 refine Cd.seq ?_
 refine sr0 ?_
 refine mv0 rfl ?_
 refine Lst.r (Ev.lenM (map_len r58e) (Ev.lenS (α := LaneR) (xs := r58) (by decide) rfl rfl Try.runUnderlying42 (Rd.matRow (j := 10) (p := (i44 : Int).toNat) rfl r58g))) ?_
 refine mv0 rfl ?_
 refine nt0 ?_
 refine Cd.block ?_
 refine Cd.bound (Rd.le (α := LaneR) (xs := r58) (by decide) (Rd.matRow (j := 10) (p := (i44 : Int).toNat) rfl r58g)) (fun hN118 => ?_)
 rw [map_len r58e] at hN118
 obtain ⟨ol61, H, HKl61⟩ := bind_some H
 refine Cd.loop (σ := Nat × Nat × Picture × Sl × (List Int)) (fun (i61, k61, y62, s63, l64) => [(2, pv b7 0), (3, pv b21 0), (4, iv (i44 : Int)), (6, Sl.v s63), (29, Sl.v s_a0_3.s), (30, iv (a0.lanes.length : Int)), (31, iv (i44 : Int)), (36, Sl.v (MH.row s_a0_3 (i44 : Int).toNat)), (37, iv (x55.length : Int)), (38, iv (i61 : Int))]) (fun (i61, k61, y62, s63, l64) => (.own s63 3 1 (encs l64)) :: (.own s48 22 1 (encs rs49)) :: (.blk b21 (enc (PictureR.mk ({ y62 with Have := a0.have_, Lanes := y47.Lanes, Now := a0.now } : Picture) s_a0_1 s48 s_a0_0)) 28) :: (.own s22 3 1 (encs l23)) :: (.own s24 22 1 (encs rs26)) :: (.own s29 3 1 (encs l30)) :: (.blk b7 (enc (PictureR.mk ({ Picture.zero with Have := ([] : List Int), Lanes := ([] : List (List Int)), Now := ([] : List Int) } : Picture) Sl.nil Sl.nil Sl.nil)) 28) :: (.own Sl.nil 3 1 (encs ([] : List Int))) :: (.own Sl.nil 22 1 (encs ([] : List (LR Int)))) :: (.own Sl.nil 3 1 (encs ([] : List Int))) :: (.mat LaneR.row 42 63 3 s_a0_3 rs_a0_3 rs_a0_3) :: (.blk b_a0 (enc (GameR.mk a0 s_a0_0 s_a0_1 s_a0_2 s_a0_3.s)) 41) :: L) (fun _ => (fun (i61, k61, y62, s63, l64) => rangeF (snap_game_picture_B2 a0 y47 i44 x55) k61 i61 (y62, l64) = some ol61 ∧ i61 + k61 = x55.length)) (fun (i61, k61, y62, s63, l64) => k61) (0, x55.length, ({ y47 with Have := a0.have_, Now := a0.now } : Picture), Sl.nil, ([] : List Int)) ⟨rfl, rfl, rfl, rfl, rfl, rfl, rfl, rfl, rfl, rfl, trivial⟩ rfl ⟨H, by omega⟩ ?_
 rintro F65 ⟨i61, k61, y62, s63, l64⟩ hF66 ⟨H, hik61⟩
 refine Cd.as (e' := [(2, pv b7 0), (3, pv b21 0), (4, iv (i44 : Int)), (6, Sl.v s63), (29, Sl.v s_a0_3.s), (30, iv (a0.lanes.length : Int)), (31, iv (i44 : Int)), (36, Sl.v (MH.row s_a0_3 (i44 : Int).toNat)), (37, iv (x55.length : Int)), (38, iv (i61 : Int))]) (L' := (.own s63 3 1 (encs l64)) :: (.own s48 22 1 (encs rs49)) :: (.blk b21 (enc (PictureR.mk ({ y62 with Have := a0.have_, Lanes := y47.Lanes, Now := a0.now } : Picture) s_a0_1 s48 s_a0_0)) 28) :: (.own s22 3 1 (encs l23)) :: (.own s24 22 1 (encs rs26)) :: (.own s29 3 1 (encs l30)) :: (.blk b7 (enc (PictureR.mk ({ Picture.zero with Have := ([] : List Int), Lanes := ([] : List (List Int)), Now := ([] : List Int) } : Picture) Sl.nil Sl.nil Sl.nil)) 28) :: (.own Sl.nil 3 1 (encs ([] : List Int))) :: (.own Sl.nil 22 1 (encs ([] : List (LR Int)))) :: (.own Sl.nil 3 1 (encs ([] : List Int))) :: (.mat LaneR.row 42 63 3 s_a0_3 rs_a0_3 rs_a0_3) :: (.blk b_a0 (enc (GameR.mk a0 s_a0_0 s_a0_1 s_a0_2 s_a0_3.s)) 41) :: L) ⟨rfl, rfl, rfl, rfl, rfl, rfl, rfl, rfl, rfl, rfl, trivial⟩ rfl ?_
 rcases k61 with _ | k61
 ·have hc61 : decide ((i61 : Int) < (x55.length : Int)) = false := decide_eq_false (by omega)
  replace H := rangeF_end H
  refine sr0 ?_
  refine Lst.r (Ev.lss rfl rfl) ?_
  refine nt0 ?_
  refine Cd.seq ?_
  refine Cd.condF rfl hc61 ?_
  refine Cd.exit ?_
  refine At.then_exit ?_
  refine At.then_exit ?_
  refine At.in_exit ?_
  subst H
  replace H := HKl61
  try dsimp only [Sum.elim_inl] at H
  refine At.then ?_
  refine Cd.region ?_
  refine Lst.r (Ev.fieldAddr (off' := 1) rfl Try.runUnderlying28 rfl Try.sizeOf26 rfl rfl) ?_
  refine Lst.r (Ev.load (i := 2) rfl rfl Try.isAgg26 (v := Sl.v s48) ((PictureR.get_Lanes gh0).off (by rfl))) ?_
  refine mv0 rfl ?_
  refine Lst.freeze (i := 0) rfl (fun F105 hF106 hz107 => ?_)
  have hq108 : Rd w0 F105 [] s63 l64 := Rd.frozen hz107 rfl rfl
  refine Lst.its (L' := (.own s48 22 1 (encs rs49)) :: (.blk b21 (enc (PictureR.mk ({ y62 with Have := a0.have_, Lanes := y47.Lanes, Now := a0.now } : Picture) s_a0_1 s48 s_a0_0)) 28) :: (.own s22 3 1 (encs l23)) :: (.own s24 22 1 (encs rs26)) :: (.own s29 3 1 (encs l30)) :: (.blk b7 (enc (PictureR.mk ({ Picture.zero with Have := ([] : List Int), Lanes := ([] : List (List Int)), Now := ([] : List Int) } : Picture) Sl.nil Sl.nil Sl.nil)) 28) :: (.own Sl.nil 3 1 (encs ([] : List Int))) :: (.own Sl.nil 22 1 (encs ([] : List (LR Int)))) :: (.own Sl.nil 3 1 (encs ([] : List Int))) :: (.mat LaneR.row 42 63 3 s_a0_3 rs_a0_3 rs_a0_3) :: (.blk b_a0 (enc (GameR.mk a0 s_a0_0 s_a0_1 s_a0_2 s_a0_3.s)) 41) :: L) rfl ?_
  have hm111 : ([(LR.mk l64 s63)] : List (LR Int)).map LR.v = ([l64] : List (List Int)) := rfl
  have ha112 : All LR.rel w0 F105 [] ([(LR.mk l64 s63)] : List (LR Int)) := All.of1 (hq108.mono fl (List.nil_sublist _))
  refine Lst.buildSlice (α := LR Int) (xs := ([(LR.mk l64 s63)] : List (LR Int))) (pv := [(0, Sl.v s63)]) rfl rfl (by decide) ⟨rfl, rfl, trivial⟩ (run_buildSlice (α := LR Int) (z0 := ((LR.mk [] Sl.nil) : LR Int)) (xs := ([(LR.mk l64 s63)] : List (LR Int))) Try.runUnderlying26 Try.sizeOf22 Try.zeroValue22 rfl rfl rfl (by decide) rfl (fill_cons (cs := encs (List.replicate 1 ((LR.mk [] Sl.nil) : LR Int))) (cs' := encs ((List.replicate 1 ((LR.mk [] Sl.nil) : LR Int)).set 0 (LR.mk l64 s63))) (vs := [Sl.v s63]) rfl rfl rfl ((Put.elemN (s := 1) (i := 0) (x := ((LR.mk [] Sl.nil) : LR Int)) (y := (LR.mk l64 s63)) rfl rfl (Put.here (vs := [Sl.v s63]) rfl)).off rfl) fill_nil)) rfl rfl (by decide) (fun s109 _ => ?_)
  obtain ⟨u113, h114, H⟩ := bind_some H
  have hm116 : (rs49 ++ ([(LR.mk l64 s63)] : List (LR Int))).map LR.v = y47.Lanes ++ ([l64] : List (List Int)) := map_app fm50 hm111
  have ha117 : All LR.rel w0 F105 M (rs49 ++ ([(LR.mk l64 s63)] : List (LR Int))) := All.app (All.monoLR fa52 (FLe.trans hF66 hF106) (.refl _)) (All.monoLR ha112 fl (List.nil_sublist _))
  refine Lst.append (i := 1) (α := LR Int) (xs := rs49) (ys := ([(LR.mk l64 s63)] : List (LR Int))) rfl rfl (by decide) rfl rfl Try.runUnderlying26 Try.typeInfo22 rfl rfl rfl rfl rfl rfl (rdo 0 rfl rfl rfl) rfl (by have := room_some h114; have := map_len fm50; have := map_len hm111; omega) rfl (fun s115 => ?_)
  refine Lst.its (L' := (.own s109 22 1 (encs ([(LR.mk l64 s63)] : List (LR Int)))) :: (.own s115 22 1 (encs (rs49 ++ ([(LR.mk l64 s63)] : List (LR Int))))) :: (.blk b21 (enc (PictureR.mk ({ y62 with Have := a0.have_, Now := a0.now } : Picture) s_a0_1 s48 s_a0_0)) 28) :: (.own s22 3 1 (encs l23)) :: (.own s24 22 1 (encs rs26)) :: (.own s29 3 1 (encs l30)) :: (.blk b7 (enc (PictureR.mk ({ Picture.zero with Have := ([] : List Int), Lanes := ([] : List (List Int)), Now := ([] : List Int) } : Picture) Sl.nil Sl.nil Sl.nil)) 28) :: (.own Sl.nil 3 1 (encs ([] : List Int))) :: (.own Sl.nil 22 1 (encs ([] : List (LR Int)))) :: (.own Sl.nil 3 1 (encs ([] : List Int))) :: (.mat LaneR.row 42 63 3 s_a0_3 rs_a0_3 rs_a0_3) :: (.blk b_a0 (enc (GameR.mk a0 s_a0_0 s_a0_1 s_a0_2 s_a0_3.s)) 41) :: L) rfl ?_
  refine Lst.r (Ev.fieldAddr (off' := 1) rfl Try.runUnderlying28 rfl Try.sizeOf26 rfl rfl) ?_
  refine Lst.store (i := 2) rfl rfl rfl rfl rfl Try.sizeOf26 (vs := [Sl.v s115]) rfl rfl rfl (cs' := enc (PictureR.mk ({ y62 with Have := a0.have_, Lanes := y47.Lanes ++ ([l64] : List (List Int)), Now := a0.now } : Picture) s_a0_1 s115 s_a0_0)) ((PictureR.put_Lanes (Put.here (vs := [Sl.v s115]) rfl)).off (by rfl)) (L' := (.own s109 22 1 (encs ([(LR.mk l64 s63)] : List (LR Int)))) :: (.own s115 22 1 (encs (rs49 ++ ([(LR.mk l64 s63)] : List (LR Int))))) :: (.blk b21 (enc (PictureR.mk ({ y62 with Have := a0.have_, Lanes := y47.Lanes ++ ([l64] : List (List Int)), Now := a0.now } : Picture) s_a0_1 s115 s_a0_0)) 28) :: (.own s22 3 1 (encs l23)) :: (.own s24 22 1 (encs rs26)) :: (.own s29 3 1 (encs l30)) :: (.blk b7 (enc (PictureR.mk ({ Picture.zero with Have := ([] : List Int), Lanes := ([] : List (List Int)), Now := ([] : List Int) } : Picture) Sl.nil Sl.nil Sl.nil)) 28) :: (.own Sl.nil 3 1 (encs ([] : List Int))) :: (.own Sl.nil 22 1 (encs ([] : List (LR Int)))) :: (.own Sl.nil 3 1 (encs ([] : List Int))) :: (.mat LaneR.row 42 63 3 s_a0_3 rs_a0_3 rs_a0_3) :: (.blk b_a0 (enc (GameR.mk a0 s_a0_0 s_a0_1 s_a0_2 s_a0_3.s)) 41) :: L) rfl ?_
  refine Lst.nil ?_
  refine At.in_normal ?_
  refine At.then ?_
  refine Cd.region ?_
  refine Lst.r (Ev.incr (by omega) rfl rfl) ?_
  refine mv0 rfl ?_
  refine Lst.nil ?_
  refine At.less (L' := (.own s115 22 1 (encs (rs49 ++ ([(LR.mk l64 s63)] : List (LR Int))))) :: (.blk b21 (enc (PictureR.mk ({ y62 with Have := a0.have_, Lanes := y47.Lanes ++ ([l64] : List (List Int)), Now := a0.now } : Picture) s_a0_1 s115 s_a0_0)) 28) :: (.own s22 3 1 (encs l23)) :: (.own s24 22 1 (encs rs26)) :: (.own s29 3 1 (encs l30)) :: (.blk b7 (enc (PictureR.mk ({ Picture.zero with Have := ([] : List Int), Lanes := ([] : List (List Int)), Now := ([] : List Int) } : Picture) Sl.nil Sl.nil Sl.nil)) 28) :: (.own Sl.nil 3 1 (encs ([] : List Int))) :: (.own Sl.nil 22 1 (encs ([] : List (LR Int)))) :: (.own Sl.nil 3 1 (encs ([] : List Int))) :: (.mat LaneR.row 42 63 3 s_a0_3 rs_a0_3 rs_a0_3) :: (.blk b_a0 (enc (GameR.mk a0 s_a0_0 s_a0_1 s_a0_2 s_a0_3.s)) 41) :: L) (sc1 (sk1 (sk1 (sk1 (sk1 (sk1 (sk1 (sk1 (sk1 (sk1 (sk1 (sk1 (.refl _))))))))))))) ?_
  exact At.meet (i44 + 1, k44, ({ y62 with Have := a0.have_, Lanes := y47.Lanes ++ ([l64] : List (List Int)), Now := a0.now } : Picture), s115, (rs49 ++ ([(LR.mk l64 s63)] : List (LR Int)))) (FLe.trans (FLe.trans hF54 hF66) hF106) ⟨rfl, rfl, rfl, rfl, rfl, trivial⟩ rfl ⟨⟨hgo44 _ (some_inj H).symm, by omega, hm116, (All.monoLR ha117 fl (.refl _))⟩, Nat.lt_succ_self _⟩
 have hc61 : decide ((i61 : Int) < (x55.length : Int)) = true := decide_eq_true (by omega)
 obtain ⟨c61, H, hgo61⟩ := rangeF_go H
 unfold snap_game_picture_B2 at H
 try dsimp only at H
 refine sr0 ?_
 refine Lst.r (Ev.lss rfl rfl) ?_
 refine nt0 ?_
 refine Cd.seq ?_
 refine Cd.condT rfl hc61 ?_
 refine Cd.skip ?_
 refine At.then ?_
 refine Cd.seq ?_
 refine Cd.block ?_
 refine sr0 ?_
 refine mv0 rfl ?_
 obtain ⟨x67, h68, H⟩ := bind_some H
 have g69 := lat_some h68
 obtain ⟨⟨r70v, r70h0⟩, r70g, r70e, r70m⟩ := map_get r58e g69.2.2
 obtain rfl : x67 = r70v := r70e.symm
 refine Lst.r (Ev.indexS (α := LaneR) (xs := r58) rfl rfl Try.runUnderlying42 Try.sizeOf63 rfl (by decide) (Rd.matRow (j := 10) (p := (i44 : Int).toNat) rfl r58g) g69.1 (by have := map_len r58e; omega)) ?_
 refine Lst.r (Ev.loadSA (α := LaneR) rfl (Rd.matRow (j := 10) (p := (i44 : Int).toNat) rfl r58g) Try.isAgg63 Try.sizeOf63 (ch := enc (LaneR.mk x67 r70h0)) (Enc.len _) (by decide) ((Get.elemN (s := 3) rfl r70g gh0).off (by omega))) ?_
 refine Lst.addNil 3 1 ?_
 refine Lst.alloc (cs := enc (LaneR.mk ({ Lane.zero with words := ([] : List Int) } : Lane) Sl.nil)) rfl rfl (by decide) Try.zeroValue63 rfl (fun b72 => ?_)
 refine Lst.r (Ev.assign rfl) ?_
 refine Lst.store (i := 0) rfl rfl rfl rfl rfl Try.sizeOf63 (vs := enc (LaneR.mk x67 r70h0)) rfl (Enc.len _) (Enc.one _) (cs' := enc (LaneR.mk x67 r70h0)) (Put.here ((Enc.len _).trans (Enc.len _).symm)) (L' := (.blk b72 (enc (LaneR.mk x67 r70h0)) 63) :: (.own Sl.nil 3 1 (encs ([] : List Int))) :: (.own s63 3 1 (encs l64)) :: (.own s48 22 1 (encs rs49)) :: (.blk b21 (enc (PictureR.mk ({ y62 with Have := a0.have_, Lanes := y47.Lanes, Now := a0.now } : Picture) s_a0_1 s48 s_a0_0)) 28) :: (.own s22 3 1 (encs l23)) :: (.own s24 22 1 (encs rs26)) :: (.own s29 3 1 (encs l30)) :: (.blk b7 (enc (PictureR.mk ({ Picture.zero with Have := ([] : List Int), Lanes := ([] : List (List Int)), Now := ([] : List Int) } : Picture) Sl.nil Sl.nil Sl.nil)) 28) :: (.own Sl.nil 3 1 (encs ([] : List Int))) :: (.own Sl.nil 22 1 (encs ([] : List (LR Int)))) :: (.own Sl.nil 3 1 (encs ([] : List Int))) :: (.mat LaneR.row 42 63 3 s_a0_3 rs_a0_3 rs_a0_3) :: (.blk b_a0 (enc (GameR.mk a0 s_a0_0 s_a0_1 s_a0_2 s_a0_3.s)) 41) :: L) rfl ?_
 refine nsr ?_
 refine mv0 rfl ?_
 refine Lst.r (Ev.fieldAddr (off' := 2) rfl Try.runUnderlying63 rfl Try.sizeOf3 rfl rfl) ?_
 refine Lst.r (Ev.load (i := 0) rfl rfl Try.isAgg3 (v := iv x67.total) ((LaneR.get_total gh0).off (by rfl))) ?_
 refine Lst.buildSlice (α := Int) (xs := ([x67.total] : List Int)) (pv := [(0, iv x67.total)]) rfl rfl (by decide) ⟨rfl, rfl, trivial⟩ (run_buildSlice (α := Int) (z0 := (0 : Int)) (xs := ([x67.total] : List Int)) Try.runUnderlying22 Try.sizeOf3 Try.zeroValue3 rfl rfl rfl (by decide) rfl (fill_cons (cs := encs (List.replicate 1 (0 : Int))) (cs' := encs ((List.replicate 1 (0 : Int)).set 0 x67.total)) (vs := [iv x67.total]) rfl rfl rfl ((Put.elemN (s := 1) (i := 0) (x := (0 : Int)) (y := x67.total) rfl rfl (Put.here (vs := [iv x67.total]) rfl)).off rfl) fill_nil)) rfl rfl (by decide) (fun s74 _ => ?_)
 obtain ⟨u76, h77, H⟩ := bind_some H
 refine Lst.append (i := 3) (α := Int) (xs := l64) (ys := ([x67.total] : List Int)) rfl rfl (by decide) rfl rfl Try.runUnderlying22 Try.typeInfo3 rfl rfl rfl rfl rfl rfl (rdo 0 rfl rfl rfl) rfl (room_some h77) rfl (fun s78 => ?_)
 refine Lst.its (L' := (.own s74 3 1 (encs ([x67.total] : List Int))) :: (.blk b72 (enc (LaneR.mk x67 r70h0)) 63) :: (.own Sl.nil 3 1 (encs ([] : List Int))) :: (.own s78 3 1 (encs (l64 ++ ([x67.total] : List Int)))) :: (.own s48 22 1 (encs rs49)) :: (.blk b21 (enc (PictureR.mk ({ y62 with Have := a0.have_, Lanes := y47.Lanes, Now := a0.now } : Picture) s_a0_1 s48 s_a0_0)) 28) :: (.own s22 3 1 (encs l23)) :: (.own s24 22 1 (encs rs26)) :: (.own s29 3 1 (encs l30)) :: (.blk b7 (enc (PictureR.mk ({ Picture.zero with Have := ([] : List Int), Lanes := ([] : List (List Int)), Now := ([] : List Int) } : Picture) Sl.nil Sl.nil Sl.nil)) 28) :: (.own Sl.nil 3 1 (encs ([] : List Int))) :: (.own Sl.nil 22 1 (encs ([] : List (LR Int)))) :: (.own Sl.nil 3 1 (encs ([] : List Int))) :: (.mat LaneR.row 42 63 3 s_a0_3 rs_a0_3 rs_a0_3) :: (.blk b_a0 (enc (GameR.mk a0 s_a0_0 s_a0_1 s_a0_2 s_a0_3.s)) 41) :: L) rfl ?_
 refine Lst.r (Ev.assign rfl) ?_
 refine nsr ?_
 refine Lst.r (Ev.fieldAddr (off' := 2) rfl Try.runUnderlying28 rfl Try.sizeOf4 rfl rfl) ?_
 refine Lst.r (Ev.load (i := 5) rfl rfl Try.isAgg4 (v := .bool y62.Whole) ((PictureR.get_Whole gh0).off (by rfl))) ?_
 refine mv0 rfl ?_
 rcases (Bool.eq_false_or_eq_true y62.Whole).symm with hb79 | hb79
 ·replace H := ite_f hb79 H
  refine Lst.skip rfl rfl rfl hb79 rfl (by decide) ?_
  refine Lst.skip rfl rfl rfl hb79 rfl (by decide) ?_
  refine Lst.skip rfl rfl rfl hb79 rfl (by decide) ?_
  refine Lst.skip rfl rfl rfl hb79 rfl (by decide) ?_
  refine Lst.skipU rfl rfl rfl rfl (by decide) ?_
  refine Lst.skipU rfl rfl rfl rfl (by decide) ?_
  refine Lst.skip rfl rfl rfl hb79 rfl (by decide) ?_
  refine Lst.r (Ev.pickF rfl hb79 rfl) ?_
  refine Lst.r (Ev.fieldAddr (off' := 2) rfl Try.runUnderlying28 rfl Try.sizeOf4 rfl rfl) ?_
  refine Lst.store (i := 5) rfl rfl rfl rfl rfl Try.sizeOf4 (vs := [.bool false]) rfl rfl rfl (cs' := enc (PictureR.mk ({ y62 with Have := a0.have_, Lanes := y47.Lanes, Whole := false, Now := a0.now } : Picture) s_a0_1 s48 s_a0_0)) ((PictureR.put_Whole (Put.here (vs := [.bool false]) rfl)).off (by rfl)) (L' := (.own s74 3 1 (encs ([x67.total] : List Int))) :: (.blk b72 (enc (LaneR.mk x67 r70h0)) 63) :: (.own Sl.nil 3 1 (encs ([] : List Int))) :: (.own s78 3 1 (encs (l64 ++ ([x67.total] : List Int)))) :: (.own s48 22 1 (encs rs49)) :: (.blk b21 (enc (PictureR.mk ({ y62 with Have := a0.have_, Lanes := y47.Lanes, Whole := false, Now := a0.now } : Picture) s_a0_1 s48 s_a0_0)) 28) :: (.own s22 3 1 (encs l23)) :: (.own s24 22 1 (encs rs26)) :: (.own s29 3 1 (encs l30)) :: (.blk b7 (enc (PictureR.mk ({ Picture.zero with Have := ([] : List Int), Lanes := ([] : List (List Int)), Now := ([] : List Int) } : Picture) Sl.nil Sl.nil Sl.nil)) 28) :: (.own Sl.nil 3 1 (encs ([] : List Int))) :: (.own Sl.nil 22 1 (encs ([] : List (LR Int)))) :: (.own Sl.nil 3 1 (encs ([] : List Int))) :: (.mat LaneR.row 42 63 3 s_a0_3 rs_a0_3 rs_a0_3) :: (.blk b_a0 (enc (GameR.mk a0 s_a0_0 s_a0_1 s_a0_2 s_a0_3.s)) 41) :: L) rfl ?_
  refine nt0 ?_
  refine Cd.seq ?_
  refine Cd.as (e' := [(2, pv b7 0), (3, pv b21 0), (4, iv (i44 : Int)), (29, Sl.v s_a0_3.s), (30, iv (a0.lanes.length : Int)), (31, iv (i44 : Int)), (36, Sl.v (MH.row s_a0_3 (i44 : Int).toNat)), (37, iv (x55.length : Int)), (38, iv (i61 : Int)), (8, pv b72 0), (6, Sl.v s78)]) (L' := (.own s74 3 1 (encs ([x67.total] : List Int))) :: (.blk b72 (enc (LaneR.mk x67 r70h0)) 63) :: (.own Sl.nil 3 1 (encs ([] : List Int))) :: (.own s78 3 1 (encs (l64 ++ ([x67.total] : List Int)))) :: (.own s48 22 1 (encs rs49)) :: (.blk b21 (enc (PictureR.mk ({ y62 with Have := a0.have_, Lanes := y47.Lanes, Whole := false, Now := a0.now } : Picture) s_a0_1 s48 s_a0_0)) 28) :: (.own s22 3 1 (encs l23)) :: (.own s24 22 1 (encs rs26)) :: (.own s29 3 1 (encs l30)) :: (.blk b7 (enc (PictureR.mk ({ Picture.zero with Have := ([] : List Int), Lanes := ([] : List (List Int)), Now := ([] : List Int) } : Picture) Sl.nil Sl.nil Sl.nil)) 28) :: (.own Sl.nil 3 1 (encs ([] : List Int))) :: (.own Sl.nil 22 1 (encs ([] : List (LR Int)))) :: (.own Sl.nil 3 1 (encs ([] : List Int))) :: (.mat LaneR.row 42 63 3 s_a0_3 rs_a0_3 rs_a0_3) :: (.blk b_a0 (enc (GameR.mk a0 s_a0_0 s_a0_1 s_a0_2 s_a0_3.s)) 41) :: L) ⟨rfl, rfl, rfl, rfl, rfl, rfl, rfl, rfl, rfl, rfl, rfl, trivial⟩ rfl ?_
  refine Cd.region ?_
  refine Lst.r (Ev.fieldAddr (off' := 0) rfl Try.runUnderlying63 rfl Try.sizeOf22 rfl rfl) ?_
  refine Lst.r (Ev.load (i := 1) rfl rfl Try.isAgg22 (v := Sl.v r70h0) ((LaneR.get_words gh0).off (by rfl))) ?_
  refine Lst.r (Ev.lenS (α := Int) (xs := x67.words) (by decide) rfl rfl Try.runUnderlying22 (Rd.matWord (row := LaneR.row) (z := ⟨x67, r70h0⟩) (j := 13) rfl r58g r70g)) ?_
  refine mv0 rfl ?_
  refine nt0 ?_
  refine Cd.block ?_
  refine Cd.bound (Rd.le (α := Int) (xs := x67.words) (by decide) (Rd.matWord (row := LaneR.row) (z := ⟨x67, r70h0⟩) (j := 13) rfl r58g r70g)) (fun hN89 => ?_)
  obtain ⟨ol80, H, HKl80⟩ := bind_some H
  refine Cd.loop (σ := Nat × Nat × Picture) (fun (i80, k80, y81) => [(2, pv b7 0), (3, pv b21 0), (4, iv (i44 : Int)), (6, Sl.v s78), (29, Sl.v s_a0_3.s), (30, iv (a0.lanes.length : Int)), (31, iv (i44 : Int)), (36, Sl.v (MH.row s_a0_3 (i44 : Int).toNat)), (37, iv (x55.length : Int)), (38, iv (i61 : Int)), (61, Sl.v r70h0), (62, iv (x67.words.length : Int)), (63, iv (i80 : Int))]) (fun (i80, k80, y81) => (.own s74 3 1 (encs ([x67.total] : List Int))) :: (.blk b72 (enc (LaneR.mk x67 r70h0)) 63) :: (.own Sl.nil 3 1 (encs ([] : List Int))) :: (.own s78 3 1 (encs (l64 ++ ([x67.total] : List Int)))) :: (.own s48 22 1 (encs rs49)) :: (.blk b21 (enc (PictureR.mk ({ y81 with Have := a0.have_, Lanes := y47.Lanes, Now := a0.now } : Picture) s_a0_1 s48 s_a0_0)) 28) :: (.own s22 3 1 (encs l23)) :: (.own s24 22 1 (encs rs26)) :: (.own s29 3 1 (encs l30)) :: (.blk b7 (enc (PictureR.mk ({ Picture.zero with Have := ([] : List Int), Lanes := ([] : List (List Int)), Now := ([] : List Int) } : Picture) Sl.nil Sl.nil Sl.nil)) 28) :: (.own Sl.nil 3 1 (encs ([] : List Int))) :: (.own Sl.nil 22 1 (encs ([] : List (LR Int)))) :: (.own Sl.nil 3 1 (encs ([] : List Int))) :: (.mat LaneR.row 42 63 3 s_a0_3 rs_a0_3 rs_a0_3) :: (.blk b_a0 (enc (GameR.mk a0 s_a0_0 s_a0_1 s_a0_2 s_a0_3.s)) 41) :: L) (fun _ => (fun (i80, k80, y81) => rangeF (snap_game_picture_B4 a0 y47 x67) k80 i80 y81 = some ol80 ∧ i80 + k80 = x67.words.length)) (fun (i80, k80, y81) => k80) (0, x67.words.length, ({ y62 with Have := a0.have_, Lanes := y47.Lanes, Whole := false, Now := a0.now } : Picture)) ⟨rfl, rfl, rfl, rfl, rfl, rfl, rfl, rfl, rfl, rfl, rfl, rfl, rfl, trivial⟩ rfl ⟨H, by omega⟩ ?_
  rintro F82 ⟨i80, k80, y81⟩ hF83 ⟨H, hik80⟩
  refine Cd.as (e' := [(2, pv b7 0), (3, pv b21 0), (4, iv (i44 : Int)), (6, Sl.v s78), (29, Sl.v s_a0_3.s), (30, iv (a0.lanes.length : Int)), (31, iv (i44 : Int)), (36, Sl.v (MH.row s_a0_3 (i44 : Int).toNat)), (37, iv (x55.length : Int)), (38, iv (i61 : Int)), (61, Sl.v r70h0), (62, iv (x67.words.length : Int)), (63, iv (i80 : Int))]) (L' := (.own s74 3 1 (encs ([x67.total] : List Int))) :: (.blk b72 (enc (LaneR.mk x67 r70h0)) 63) :: (.own Sl.nil 3 1 (encs ([] : List Int))) :: (.own s78 3 1 (encs (l64 ++ ([x67.total] : List Int)))) :: (.own s48 22 1 (encs rs49)) :: (.blk b21 (enc (PictureR.mk ({ y81 with Have := a0.have_, Lanes := y47.Lanes, Now := a0.now } : Picture) s_a0_1 s48 s_a0_0)) 28) :: (.own s22 3 1 (encs l23)) :: (.own s24 22 1 (encs rs26)) :: (.own s29 3 1 (encs l30)) :: (.blk b7 (enc (PictureR.mk ({ Picture.zero with Have := ([] : List Int), Lanes := ([] : List (List Int)), Now := ([] : List Int) } : Picture) Sl.nil Sl.nil Sl.nil)) 28) :: (.own Sl.nil 3 1 (encs ([] : List Int))) :: (.own Sl.nil 22 1 (encs ([] : List (LR Int)))) :: (.own Sl.nil 3 1 (encs ([] : List Int))) :: (.mat LaneR.row 42 63 3 s_a0_3 rs_a0_3 rs_a0_3) :: (.blk b_a0 (enc (GameR.mk a0 s_a0_0 s_a0_1 s_a0_2 s_a0_3.s)) 41) :: L) ⟨rfl, rfl, rfl, rfl, rfl, rfl, rfl, rfl, rfl, rfl, rfl, rfl, rfl, trivial⟩ rfl ?_
  rcases k80 with _ | k80
  ·have hc80 : decide ((i80 : Int) < (x67.words.length : Int)) = false := decide_eq_false (by omega)
   replace H := rangeF_end H
   refine sr0 ?_
   refine Lst.r (Ev.lss rfl rfl) ?_
   refine nt0 ?_
   refine Cd.seq ?_
   refine Cd.condF rfl hc80 ?_
   refine Cd.exit ?_
   refine At.then_exit ?_
   refine At.then_exit ?_
   refine At.in_exit ?_
   subst H
   replace H := HKl80
   refine At.in_normal ?_
   refine At.then ?_
   refine Cd.region ?_
   refine Lst.r (Ev.incr (by omega) rfl rfl) ?_
   refine mv0 rfl ?_
   refine Lst.nil ?_
   refine At.less (L' := (.own s78 3 1 (encs (l64 ++ ([x67.total] : List Int)))) :: (.own s48 22 1 (encs rs49)) :: (.blk b21 (enc (PictureR.mk ({ y81 with Have := a0.have_, Lanes := y47.Lanes, Now := a0.now } : Picture) s_a0_1 s48 s_a0_0)) 28) :: (.own s22 3 1 (encs l23)) :: (.own s24 22 1 (encs rs26)) :: (.own s29 3 1 (encs l30)) :: (.blk b7 (enc (PictureR.mk ({ Picture.zero with Have := ([] : List Int), Lanes := ([] : List (List Int)), Now := ([] : List Int) } : Picture) Sl.nil Sl.nil Sl.nil)) 28) :: (.own Sl.nil 3 1 (encs ([] : List Int))) :: (.own Sl.nil 22 1 (encs ([] : List (LR Int)))) :: (.own Sl.nil 3 1 (encs ([] : List Int))) :: (.mat LaneR.row 42 63 3 s_a0_3 rs_a0_3 rs_a0_3) :: (.blk b_a0 (enc (GameR.mk a0 s_a0_0 s_a0_1 s_a0_2 s_a0_3.s)) 41) :: L) (sc1 (sc1 (sc1 (sk1 (sk1 (sk1 (sk1 (sk1 (sk1 (sk1 (sk1 (sk1 (sk1 (sk1 (sk1 (.refl _)))))))))))))))) ?_
   exact At.meet (i61 + 1, k61, ({ y81 with Have := a0.have_, Lanes := y47.Lanes, Now := a0.now } : Picture), s78, l64 ++ ([x67.total] : List Int)) (FLe.trans hF66 hF83) ⟨rfl, rfl, rfl, rfl, rfl, rfl, rfl, rfl, rfl, rfl, trivial⟩ rfl ⟨⟨hgo61 _ (some_inj H).symm, by omega⟩, Nat.lt_succ_self _⟩
  have hc80 : decide ((i80 : Int) < (x67.words.length : Int)) = true := decide_eq_true (by omega)
  obtain ⟨c80, H, hgo80⟩ := rangeF_go H
  unfold snap_game_picture_B4 at H
  try dsimp only at H
  refine sr0 ?_
  refine Lst.r (Ev.lss rfl rfl) ?_
  refine nt0 ?_
  refine Cd.seq ?_
  refine Cd.condT rfl hc80 ?_
  refine Cd.skip ?_
  refine At.then ?_
  refine Cd.seq ?_
  refine Cd.block ?_
  refine sr0 ?_
  obtain ⟨x84, h85, H⟩ := bind_some H
  have g86 := lat_some h85
  refine Lst.r (Ev.indexS (α := Int) (xs := x67.words) rfl rfl Try.runUnderlying22 Try.sizeOf3 rfl (by decide) (Rd.matWord (row := LaneR.row) (z := ⟨x67, r70h0⟩) (j := 13) rfl r58g r70g) g86.1 g86.2.1) ?_
  refine Lst.r (Ev.loadS (α := Int) rfl (Rd.matWord (row := LaneR.row) (z := ⟨x67, r70h0⟩) (j := 13) rfl r58g r70g) Try.isAgg3 (v := iv x84) ((Get.elemN (s := 1) (x := x84) rfl g86.2.2 gh0).off (by omega))) ?_
  refine Lst.r (Ev.assign rfl) ?_
  refine nt0 ?_
  refine Cd.region ?_
  refine Lst.r (Ev.fieldAddr (off' := 4) rfl Try.runUnderlying28 rfl Try.sizeOf3 rfl rfl) ?_
  refine Lst.r (Ev.load (i := 5) rfl rfl Try.isAgg3 (v := iv y81.Under) ((PictureR.get_Under gh0).off (by rfl))) ?_
  refine mv0 rfl ?_
  refine Lst.r (Ev.max2 rfl rfl) ?_
  refine Lst.r (Ev.add rfl rfl) ?_
  refine Lst.r (Ev.fieldAddr (off' := 4) rfl Try.runUnderlying28 rfl Try.sizeOf3 rfl rfl) ?_
  obtain ⟨p87, h88, H⟩ := Let_some H
  refine Lst.store (i := 5) rfl rfl rfl rfl rfl Try.sizeOf3 (vs := [iv (w64 (y81.Under + (max x84 (0 : Int))))]) rfl rfl rfl (cs' := enc (PictureR.mk ({ y81 with Have := a0.have_, Lanes := y47.Lanes, Now := a0.now, Under := p87 } : Picture) s_a0_1 s48 s_a0_0)) (by rw [← h88]; exact (PictureR.put_Under (Put.here (vs := [iv (w64 (y81.Under + (max x84 (0 : Int))))]) rfl)).off (by rfl)) (L' := (.own s74 3 1 (encs ([x67.total] : List Int))) :: (.blk b72 (enc (LaneR.mk x67 r70h0)) 63) :: (.own Sl.nil 3 1 (encs ([] : List Int))) :: (.own s78 3 1 (encs (l64 ++ ([x67.total] : List Int)))) :: (.own s48 22 1 (encs rs49)) :: (.blk b21 (enc (PictureR.mk ({ y81 with Have := a0.have_, Lanes := y47.Lanes, Now := a0.now, Under := p87 } : Picture) s_a0_1 s48 s_a0_0)) 28) :: (.own s22 3 1 (encs l23)) :: (.own s24 22 1 (encs rs26)) :: (.own s29 3 1 (encs l30)) :: (.blk b7 (enc (PictureR.mk ({ Picture.zero with Have := ([] : List Int), Lanes := ([] : List (List Int)), Now := ([] : List Int) } : Picture) Sl.nil Sl.nil Sl.nil)) 28) :: (.own Sl.nil 3 1 (encs ([] : List Int))) :: (.own Sl.nil 22 1 (encs ([] : List (LR Int)))) :: (.own Sl.nil 3 1 (encs ([] : List Int))) :: (.mat LaneR.row 42 63 3 s_a0_3 rs_a0_3 rs_a0_3) :: (.blk b_a0 (enc (GameR.mk a0 s_a0_0 s_a0_1 s_a0_2 s_a0_3.s)) 41) :: L) rfl ?_
  refine Lst.nil ?_
  refine At.in_normal ?_
  refine At.then ?_
  refine Cd.region ?_
  refine Lst.r (Ev.incr (by omega) rfl rfl) ?_
  refine mv0 rfl ?_
  refine Lst.nil ?_
  exact At.meet (i80 + 1, k80, ({ y81 with Have := a0.have_, Lanes := y47.Lanes, Now := a0.now, Under := p87 } : Picture)) hF83 ⟨rfl, rfl, rfl, rfl, rfl, rfl, rfl, rfl, rfl, rfl, rfl, rfl, rfl, trivial⟩ rfl ⟨⟨hgo80 _ (some_inj H).symm, by omega⟩, Nat.lt_succ_self _⟩
 replace H := ite_t hb79 H
 refine Lst.rG hb79 (Ev.move rfl) ?_
 refine Lst.rG hb79 (Ev.move rfl) ?_
 refine Lst.rG hb79 (Ev.eql rfl rfl) ?_
 refine Lst.rG hb79 (Ev.move rfl) ?_
 obtain ⟨o90, H, HKo90⟩ := bind_some H
 refine Lst.join (σ := Bool) 3 (fun y91 => [(2, pv b7 0), (3, pv b21 0), (4, iv (i44 : Int)), (6, Sl.v s78), (8, pv b72 0), (29, Sl.v s_a0_3.s), (30, iv (a0.lanes.length : Int)), (31, iv (i44 : Int)), (36, Sl.v (MH.row s_a0_3 (i44 : Int).toNat)), (37, iv (x55.length : Int)), (38, iv (i61 : Int)), (50, .bool y62.Whole), (57, .bool y91)]) (fun y91 => (.own s74 3 1 (encs ([x67.total] : List Int))) :: (.blk b72 (enc (LaneR.mk x67 r70h0)) 63) :: (.own Sl.nil 3 1 (encs ([] : List Int))) :: (.own s78 3 1 (encs (l64 ++ ([x67.total] : List Int)))) :: (.own s48 22 1 (encs rs49)) :: (.blk b21 (enc (PictureR.mk ({ y62 with Have := a0.have_, Lanes := y47.Lanes, Now := a0.now } : Picture) s_a0_1 s48 s_a0_0)) 28) :: (.own s22 3 1 (encs l23)) :: (.own s24 22 1 (encs rs26)) :: (.own s29 3 1 (encs l30)) :: (.blk b7 (enc (PictureR.mk ({ Picture.zero with Have := ([] : List Int), Lanes := ([] : List (List Int)), Now := ([] : List Int) } : Picture) Sl.nil Sl.nil Sl.nil)) 28) :: (.own Sl.nil 3 1 (encs ([] : List Int))) :: (.own Sl.nil 22 1 (encs ([] : List (LR Int)))) :: (.own Sl.nil 3 1 (encs ([] : List Int))) :: (.mat LaneR.row 42 63 3 s_a0_3 rs_a0_3 rs_a0_3) :: (.blk b_a0 (enc (GameR.mk a0 s_a0_0 s_a0_1 s_a0_2 s_a0_3.s)) 41) :: L) (fun _ y91 => y91 = o90) ?_ ?_
 ·rcases Bool.eq_false_or_eq_true ((i44 : Int) == (i61 : Int)) with hb92 | hb92
  ·replace H := ite_t hb92 H
   refine Lst.skip rfl rfl rfl hb92 rfl (by decide) ?_
   refine Lst.skip rfl rfl rfl hb92 rfl (by decide) ?_
   refine Lst.rG hb79 (Ev.pickT rfl hb92 rfl) ?_
   refine Lst.nil ?_
   exact At.meet true fl ⟨rfl, rfl, rfl, rfl, rfl, rfl, rfl, rfl, rfl, rfl, rfl, rfl, rfl, trivial⟩ rfl (some_inj H)
  replace H := ite_f hb92 H
  refine Lst.rG hb92 (Ev.fieldAddr (off' := 1) rfl Try.runUnderlying63 rfl Try.sizeOf4 rfl rfl) ?_
  refine Lst.rG hb92 (Ev.load (i := 1) rfl rfl Try.isAgg4 (v := .bool x67.closed) ((LaneR.get_closed gh0).off (by rfl))) ?_
  refine Lst.rG hb79 (Ev.pickF rfl hb92 rfl) ?_
  refine Lst.nil ?_
  exact At.meet x67.closed fl ⟨rfl, rfl, rfl, rfl, rfl, rfl, rfl, rfl, rfl, rfl, rfl, rfl, rfl, trivial⟩ rfl (some_inj H)
 rintro F93 y91 hF94 hy
 subst hy
 refine Lst.as (e' := [(2, pv b7 0), (3, pv b21 0), (4, iv (i44 : Int)), (6, Sl.v s78), (8, pv b72 0), (29, Sl.v s_a0_3.s), (30, iv (a0.lanes.length : Int)), (31, iv (i44 : Int)), (36, Sl.v (MH.row s_a0_3 (i44 : Int).toNat)), (37, iv (x55.length : Int)), (38, iv (i61 : Int)), (50, .bool y62.Whole), (57, .bool y91)]) (L' := (.own s74 3 1 (encs ([x67.total] : List Int))) :: (.blk b72 (enc (LaneR.mk x67 r70h0)) 63) :: (.own Sl.nil 3 1 (encs ([] : List Int))) :: (.own s78 3 1 (encs (l64 ++ ([x67.total] : List Int)))) :: (.own s48 22 1 (encs rs49)) :: (.blk b21 (enc (PictureR.mk ({ y62 with Have := a0.have_, Lanes := y47.Lanes, Now := a0.now } : Picture) s_a0_1 s48 s_a0_0)) 28) :: (.own s22 3 1 (encs l23)) :: (.own s24 22 1 (encs rs26)) :: (.own s29 3 1 (encs l30)) :: (.blk b7 (enc (PictureR.mk ({ Picture.zero with Have := ([] : List Int), Lanes := ([] : List (List Int)), Now := ([] : List Int) } : Picture) Sl.nil Sl.nil Sl.nil)) 28) :: (.own Sl.nil 3 1 (encs ([] : List Int))) :: (.own Sl.nil 22 1 (encs ([] : List (LR Int)))) :: (.own Sl.nil 3 1 (encs ([] : List Int))) :: (.mat LaneR.row 42 63 3 s_a0_3 rs_a0_3 rs_a0_3) :: (.blk b_a0 (enc (GameR.mk a0 s_a0_0 s_a0_1 s_a0_2 s_a0_3.s)) 41) :: L) ⟨rfl, rfl, rfl, rfl, rfl, rfl, rfl, rfl, rfl, rfl, rfl, rfl, rfl, trivial⟩ rfl ?_
 replace H := HKo90
 refine Lst.r (Ev.pickT rfl hb79 rfl) ?_
 refine Lst.r (Ev.fieldAddr (off' := 2) rfl Try.runUnderlying28 rfl Try.sizeOf4 rfl rfl) ?_
 refine Lst.store (i := 5) rfl rfl rfl rfl rfl Try.sizeOf4 (vs := [.bool y91]) rfl rfl rfl (cs' := enc (PictureR.mk ({ y62 with Have := a0.have_, Lanes := y47.Lanes, Whole := y91, Now := a0.now } : Picture) s_a0_1 s48 s_a0_0)) ((PictureR.put_Whole (Put.here (vs := [.bool y91]) rfl)).off (by rfl)) (L' := (.own s74 3 1 (encs ([x67.total] : List Int))) :: (.blk b72 (enc (LaneR.mk x67 r70h0)) 63) :: (.own Sl.nil 3 1 (encs ([] : List Int))) :: (.own s78 3 1 (encs (l64 ++ ([x67.total] : List Int)))) :: (.own s48 22 1 (encs rs49)) :: (.blk b21 (enc (PictureR.mk ({ y62 with Have := a0.have_, Lanes := y47.Lanes, Whole := y91, Now := a0.now } : Picture) s_a0_1 s48 s_a0_0)) 28) :: (.own s22 3 1 (encs l23)) :: (.own s24 22 1 (encs rs26)) :: (.own s29 3 1 (encs l30)) :: (.blk b7 (enc (PictureR.mk ({ Picture.zero with Have := ([] : List Int), Lanes := ([] : List (List Int)), Now := ([] : List Int) } : Picture) Sl.nil Sl.nil Sl.nil)) 28) :: (.own Sl.nil 3 1 (encs ([] : List Int))) :: (.own Sl.nil 22 1 (encs ([] : List (LR Int)))) :: (.own Sl.nil 3 1 (encs ([] : List Int))) :: (.mat LaneR.row 42 63 3 s_a0_3 rs_a0_3 rs_a0_3) :: (.blk b_a0 (enc (GameR.mk a0 s_a0_0 s_a0_1 s_a0_2 s_a0_3.s)) 41) :: L) rfl ?_
 refine nsr ?_
 refine Lst.r (Ev.fieldAddr (off' := 0) rfl Try.runUnderlying63 rfl Try.sizeOf22 rfl rfl) ?_
 refine Lst.r (Ev.load (i := 1) rfl rfl Try.isAgg22 (v := Sl.v r70h0) ((LaneR.get_words gh0).off (by rfl))) ?_
 refine Lst.r (Ev.lenS (α := Int) (xs := x67.words) (by decide) rfl rfl Try.runUnderlying22 (Rd.matWord (row := LaneR.row) (z := ⟨x67, r70h0⟩) (j := 13) rfl r58g r70g)) ?_
 refine mv0 rfl ?_
 refine nt0 ?_
 refine Cd.block ?_
 refine Cd.bound (Rd.le (α := Int) (xs := x67.words) (by decide) (Rd.matWord (row := LaneR.row) (z := ⟨x67, r70h0⟩) (j := 13) rfl r58g r70g)) (fun hN104 => ?_)
 obtain ⟨ol95, H, HKl95⟩ := bind_some H
 refine Cd.loop (σ := Nat × Nat × Picture) (fun (i95, k95, y96) => [(2, pv b7 0), (3, pv b21 0), (4, iv (i44 : Int)), (6, Sl.v s78), (29, Sl.v s_a0_3.s), (30, iv (a0.lanes.length : Int)), (31, iv (i44 : Int)), (36, Sl.v (MH.row s_a0_3 (i44 : Int).toNat)), (37, iv (x55.length : Int)), (38, iv (i61 : Int)), (61, Sl.v r70h0), (62, iv (x67.words.length : Int)), (63, iv (i95 : Int))]) (fun (i95, k95, y96) => (.own s74 3 1 (encs ([x67.total] : List Int))) :: (.blk b72 (enc (LaneR.mk x67 r70h0)) 63) :: (.own Sl.nil 3 1 (encs ([] : List Int))) :: (.own s78 3 1 (encs (l64 ++ ([x67.total] : List Int)))) :: (.own s48 22 1 (encs rs49)) :: (.blk b21 (enc (PictureR.mk ({ y96 with Have := a0.have_, Lanes := y47.Lanes, Now := a0.now } : Picture) s_a0_1 s48 s_a0_0)) 28) :: (.own s22 3 1 (encs l23)) :: (.own s24 22 1 (encs rs26)) :: (.own s29 3 1 (encs l30)) :: (.blk b7 (enc (PictureR.mk ({ Picture.zero with Have := ([] : List Int), Lanes := ([] : List (List Int)), Now := ([] : List Int) } : Picture) Sl.nil Sl.nil Sl.nil)) 28) :: (.own Sl.nil 3 1 (encs ([] : List Int))) :: (.own Sl.nil 22 1 (encs ([] : List (LR Int)))) :: (.own Sl.nil 3 1 (encs ([] : List Int))) :: (.mat LaneR.row 42 63 3 s_a0_3 rs_a0_3 rs_a0_3) :: (.blk b_a0 (enc (GameR.mk a0 s_a0_0 s_a0_1 s_a0_2 s_a0_3.s)) 41) :: L) (fun _ => (fun (i95, k95, y96) => rangeF (snap_game_picture_B4x a0 y47 x67) k95 i95 y96 = some ol95 ∧ i95 + k95 = x67.words.length)) (fun (i95, k95, y96) => k95) (0, x67.words.length, ({ y62 with Have := a0.have_, Lanes := y47.Lanes, Whole := y91, Now := a0.now } : Picture)) ⟨rfl, rfl, rfl, rfl, rfl, rfl, rfl, rfl, rfl, rfl, rfl, rfl, rfl, trivial⟩ rfl ⟨H, by omega⟩ ?_
 rintro F97 ⟨i95, k95, y96⟩ hF98 ⟨H, hik95⟩
 refine Cd.as (e' := [(2, pv b7 0), (3, pv b21 0), (4, iv (i44 : Int)), (6, Sl.v s78), (29, Sl.v s_a0_3.s), (30, iv (a0.lanes.length : Int)), (31, iv (i44 : Int)), (36, Sl.v (MH.row s_a0_3 (i44 : Int).toNat)), (37, iv (x55.length : Int)), (38, iv (i61 : Int)), (61, Sl.v r70h0), (62, iv (x67.words.length : Int)), (63, iv (i95 : Int))]) (L' := (.own s74 3 1 (encs ([x67.total] : List Int))) :: (.blk b72 (enc (LaneR.mk x67 r70h0)) 63) :: (.own Sl.nil 3 1 (encs ([] : List Int))) :: (.own s78 3 1 (encs (l64 ++ ([x67.total] : List Int)))) :: (.own s48 22 1 (encs rs49)) :: (.blk b21 (enc (PictureR.mk ({ y96 with Have := a0.have_, Lanes := y47.Lanes, Now := a0.now } : Picture) s_a0_1 s48 s_a0_0)) 28) :: (.own s22 3 1 (encs l23)) :: (.own s24 22 1 (encs rs26)) :: (.own s29 3 1 (encs l30)) :: (.blk b7 (enc (PictureR.mk ({ Picture.zero with Have := ([] : List Int), Lanes := ([] : List (List Int)), Now := ([] : List Int) } : Picture) Sl.nil Sl.nil Sl.nil)) 28) :: (.own Sl.nil 3 1 (encs ([] : List Int))) :: (.own Sl.nil 22 1 (encs ([] : List (LR Int)))) :: (.own Sl.nil 3 1 (encs ([] : List Int))) :: (.mat LaneR.row 42 63 3 s_a0_3 rs_a0_3 rs_a0_3) :: (.blk b_a0 (enc (GameR.mk a0 s_a0_0 s_a0_1 s_a0_2 s_a0_3.s)) 41) :: L) ⟨rfl, rfl, rfl, rfl, rfl, rfl, rfl, rfl, rfl, rfl, rfl, rfl, rfl, trivial⟩ rfl ?_
 rcases k95 with _ | k95
 ·have hc95 : decide ((i95 : Int) < (x67.words.length : Int)) = false := decide_eq_false (by omega)
  replace H := rangeF_end H
  refine sr0 ?_
  refine Lst.r (Ev.lss rfl rfl) ?_
  refine nt0 ?_
  refine Cd.seq ?_
  refine Cd.condF rfl hc95 ?_
  refine Cd.exit ?_
  refine At.then_exit ?_
  refine At.then_exit ?_
  refine At.in_exit ?_
  subst H
  replace H := HKl95
  refine At.in_normal ?_
  refine At.then ?_
  refine Cd.region ?_
  refine Lst.r (Ev.incr (by omega) rfl rfl) ?_
  refine mv0 rfl ?_
  refine Lst.nil ?_
  refine At.less (L' := (.own s78 3 1 (encs (l64 ++ ([x67.total] : List Int)))) :: (.own s48 22 1 (encs rs49)) :: (.blk b21 (enc (PictureR.mk ({ y96 with Have := a0.have_, Lanes := y47.Lanes, Now := a0.now } : Picture) s_a0_1 s48 s_a0_0)) 28) :: (.own s22 3 1 (encs l23)) :: (.own s24 22 1 (encs rs26)) :: (.own s29 3 1 (encs l30)) :: (.blk b7 (enc (PictureR.mk ({ Picture.zero with Have := ([] : List Int), Lanes := ([] : List (List Int)), Now := ([] : List Int) } : Picture) Sl.nil Sl.nil Sl.nil)) 28) :: (.own Sl.nil 3 1 (encs ([] : List Int))) :: (.own Sl.nil 22 1 (encs ([] : List (LR Int)))) :: (.own Sl.nil 3 1 (encs ([] : List Int))) :: (.mat LaneR.row 42 63 3 s_a0_3 rs_a0_3 rs_a0_3) :: (.blk b_a0 (enc (GameR.mk a0 s_a0_0 s_a0_1 s_a0_2 s_a0_3.s)) 41) :: L) (sc1 (sc1 (sc1 (sk1 (sk1 (sk1 (sk1 (sk1 (sk1 (sk1 (sk1 (sk1 (sk1 (sk1 (sk1 (.refl _)))))))))))))))) ?_
  exact At.meet (i61 + 1, k61, ({ y96 with Have := a0.have_, Lanes := y47.Lanes, Now := a0.now } : Picture), s78, l64 ++ ([x67.total] : List Int)) (FLe.trans (FLe.trans hF66 hF94) hF98) ⟨rfl, rfl, rfl, rfl, rfl, rfl, rfl, rfl, rfl, rfl, trivial⟩ rfl ⟨⟨hgo61 _ (some_inj H).symm, by omega⟩, Nat.lt_succ_self _⟩
 have hc95 : decide ((i95 : Int) < (x67.words.length : Int)) = true := decide_eq_true (by omega)
 obtain ⟨c95, H, hgo95⟩ := rangeF_go H
 unfold snap_game_picture_B4x at H
 try dsimp only at H
 refine sr0 ?_
 refine Lst.r (Ev.lss rfl rfl) ?_
 refine nt0 ?_
 refine Cd.seq ?_
 refine Cd.condT rfl hc95 ?_
 refine Cd.skip ?_
 refine At.then ?_
 refine Cd.seq ?_
 refine Cd.block ?_
 refine sr0 ?_
 obtain ⟨x99, h100, H⟩ := bind_some H
 have g101 := lat_some h100
 refine Lst.r (Ev.indexS (α := Int) (xs := x67.words) rfl rfl Try.runUnderlying22 Try.sizeOf3 rfl (by decide) (Rd.matWord (row := LaneR.row) (z := ⟨x67, r70h0⟩) (j := 13) rfl r58g r70g) g101.1 g101.2.1) ?_
 refine Lst.r (Ev.loadS (α := Int) rfl (Rd.matWord (row := LaneR.row) (z := ⟨x67, r70h0⟩) (j := 13) rfl r58g r70g) Try.isAgg3 (v := iv x99) ((Get.elemN (s := 1) (x := x99) rfl g101.2.2 gh0).off (by omega))) ?_
 refine Lst.r (Ev.assign rfl) ?_
 refine nt0 ?_
 refine Cd.region ?_
 refine Lst.r (Ev.fieldAddr (off' := 4) rfl Try.runUnderlying28 rfl Try.sizeOf3 rfl rfl) ?_
 refine Lst.r (Ev.load (i := 5) rfl rfl Try.isAgg3 (v := iv y96.Under) ((PictureR.get_Under gh0).off (by rfl))) ?_
 refine mv0 rfl ?_
 refine Lst.r (Ev.max2 rfl rfl) ?_
 refine Lst.r (Ev.add rfl rfl) ?_
 refine Lst.r (Ev.fieldAddr (off' := 4) rfl Try.runUnderlying28 rfl Try.sizeOf3 rfl rfl) ?_
 obtain ⟨p102, h103, H⟩ := Let_some H
 refine Lst.store (i := 5) rfl rfl rfl rfl rfl Try.sizeOf3 (vs := [iv (w64 (y96.Under + (max x99 (0 : Int))))]) rfl rfl rfl (cs' := enc (PictureR.mk ({ y96 with Have := a0.have_, Lanes := y47.Lanes, Now := a0.now, Under := p102 } : Picture) s_a0_1 s48 s_a0_0)) (by rw [← h103]; exact (PictureR.put_Under (Put.here (vs := [iv (w64 (y96.Under + (max x99 (0 : Int))))]) rfl)).off (by rfl)) (L' := (.own s74 3 1 (encs ([x67.total] : List Int))) :: (.blk b72 (enc (LaneR.mk x67 r70h0)) 63) :: (.own Sl.nil 3 1 (encs ([] : List Int))) :: (.own s78 3 1 (encs (l64 ++ ([x67.total] : List Int)))) :: (.own s48 22 1 (encs rs49)) :: (.blk b21 (enc (PictureR.mk ({ y96 with Have := a0.have_, Lanes := y47.Lanes, Now := a0.now, Under := p102 } : Picture) s_a0_1 s48 s_a0_0)) 28) :: (.own s22 3 1 (encs l23)) :: (.own s24 22 1 (encs rs26)) :: (.own s29 3 1 (encs l30)) :: (.blk b7 (enc (PictureR.mk ({ Picture.zero with Have := ([] : List Int), Lanes := ([] : List (List Int)), Now := ([] : List Int) } : Picture) Sl.nil Sl.nil Sl.nil)) 28) :: (.own Sl.nil 3 1 (encs ([] : List Int))) :: (.own Sl.nil 22 1 (encs ([] : List (LR Int)))) :: (.own Sl.nil 3 1 (encs ([] : List Int))) :: (.mat LaneR.row 42 63 3 s_a0_3 rs_a0_3 rs_a0_3) :: (.blk b_a0 (enc (GameR.mk a0 s_a0_0 s_a0_1 s_a0_2 s_a0_3.s)) 41) :: L) rfl ?_
 refine Lst.nil ?_
 refine At.in_normal ?_
 refine At.then ?_
 refine Cd.region ?_
 refine Lst.r (Ev.incr (by omega) rfl rfl) ?_
 refine mv0 rfl ?_
 refine Lst.nil ?_
 exact At.meet (i95 + 1, k95, ({ y96 with Have := a0.have_, Lanes := y47.Lanes, Now := a0.now, Under := p102 } : Picture)) hF98 ⟨rfl, rfl, rfl, rfl, rfl, rfl, rfl, rfl, rfl, rfl, rfl, rfl, rfl, trivial⟩ rfl ⟨⟨hgo95 _ (some_inj H).symm, by omega⟩, Nat.lt_succ_self _⟩
set_option maxRecDepth 20000 in
theorem snap_Play_sim {a0 : List Int} {a1 : List Move} {s_a0 : Sl} {s_a1 : Sl} {r : Picture × Int} (H : snap_Play a0 a1 = some r) (w0 : World) (F : Frz) (M L : List Item) (hM : M.Sublist L) (hs_a0 : Rd w0 F M s_a0 a0) (hs_a1 : Rd w0 F M s_a1 a1) : Ok Try.prog w0 5 [Sl.v s_a0, Sl.v s_a1] F (L) (fun Fx L' v => ∃ (s1 : Sl) (s3 : Sl) (rs4 : List (LR Int)) (s8 : Sl), v = .tuple #[.agg (enc (PictureR.mk r.1 s1 s3 s8)).toArray, iv r.2] ∧ L' = (.own s3 22 1 (encs rs4)) :: L ∧ Rd w0 Fx M s1 r.1.Have ∧ rs4.map LR.v = r.1.Lanes ∧ All LR.rel w0 Fx M rs4 ∧ Rd w0 Fx M s8 r.1.Now) := by
 unfold snap_Play at H
 refine Ok.enter (m := 2) (n := 55) Try.func5 rfl rfl rfl (by decide) ?_
 refine Cd.env (e' := [(0, Sl.v s_a0), (1, Sl.v s_a1)]) rfl ?_
 refine sr0 ?_
 refine Lst.addNil 3 1 ?_
 have ha3 : All LR.rel w0 F [] ([] : List (LR Int)) := All.nil
 have ha3m : List.map LR.v ([] : List (LR Int)) = ([] : List (List Int)) := rfl
 refine Lst.addNil 22 1 ?_
 refine Lst.addNil 3 1 ?_
 refine Lst.alloc (cs := enc (PictureR.mk ({ Picture.zero with Have := ([] : List Int), Lanes := ([] : List (List Int)), Now := ([] : List Int) } : Picture) Sl.nil Sl.nil Sl.nil)) rfl rfl (by decide) Try.zeroValue28 rfl (fun b5 => ?_)
 refine Lst.r (Ev.assign rfl) ?_
 refine nt0 ?_
 refine Cd.seq ?_
 refine sr0 ?_
 refine mv0 rfl ?_
 refine mv0 rfl ?_
 obtain ⟨r7, h8, H⟩ := bind_some H
 refine Lst.call1 rfl rfl (by decide) (vs := [Sl.v s_a0, Sl.v s_a1]) ⟨rfl, rfl, trivial⟩ Try.call6 (snap_Check_sim h8 w0 _ M _ (sc4 hM) (hs_a0.mono fl (.refl _)) (hs_a1.mono fl (.refl _))) ?_
 refine Lst.r (Ev.assign rfl) ?_
 refine nsr ?_
 refine mv0 rfl ?_
 refine Lst.r (Ev.neq rfl rfl) ?_
 refine nt0 ?_
 rcases Bool.eq_false_or_eq_true (r7 != (0 : Int)) with hb11 | hb11
 ·replace H := ite_t hb11 H
  refine Cd.condT rfl hb11 ?_
  refine sr0 ?_
  refine Lst.r (Ev.build (v := .agg (enc (PictureR.mk Picture.zero Sl.nil Sl.nil Sl.nil)).toArray) (pv := []) trivial (fun w => by kernel_rfl)) ?_
  refine mv0 rfl ?_
  refine Lst.store (i := 0) rfl rfl rfl rfl rfl Try.sizeOf28 (vs := enc (PictureR.mk Picture.zero Sl.nil Sl.nil Sl.nil)) rfl (Enc.len _) (Enc.one _) (cs' := enc (PictureR.mk Picture.zero Sl.nil Sl.nil Sl.nil)) (Put.here ((Enc.len _).trans (Enc.len _).symm)) (L' := (.blk b5 (enc (PictureR.mk Picture.zero Sl.nil Sl.nil Sl.nil)) 28) :: (.own Sl.nil 3 1 (encs ([] : List Int))) :: (.own Sl.nil 22 1 (encs ([] : List (LR Int)))) :: (.own Sl.nil 3 1 (encs ([] : List Int))) :: L) rfl ?_
  refine Lst.r (Ev.assign rfl) ?_
  refine nt0 ?_
  obtain rfl := some_inj H
  refine Cd.ret ?_
  refine At.then_ret ?_
  have ha13 : All LR.rel w0 F [] ([] : List (LR Int)) := All.nil
  have ha13m : List.map LR.v ([] : List (LR Int)) = ([] : List (List Int)) := rfl
  refine At.addNil 22 1 ?_
  exact At.ret2 rfl (Res.cellA (i := 1) rfl rfl Try.isAgg28 Try.sizeOf28 (Enc.len _)) (Res.tmp rfl) fl (sk1 (sc1 (sc1 (sc1 (sc1 (.refl _)))))) ⟨Sl.nil, Sl.nil, ([] : List (LR Int)), Sl.nil, rfl, rfl, Rd.nil, ha13m, (All.monoLR ha13 fl (List.nil_sublist _)), Rd.nil⟩
 replace H := ite_f hb11 H
 refine Cd.condF rfl hb11 ?_
 refine Cd.skip ?_
 refine At.then ?_
 refine sr0 ?_
 refine mv0 rfl ?_
 refine Lst.r (Ev.lenS (α := Int) (xs := a0) (by decide) rfl rfl Try.runUnderlying22 (hs_a0.mono fl (sc4 hM))) ?_
 refine Lst.r (Ev.assign rfl) ?_
 refine nt0 ?_
 refine Cd.seq ?_
 obtain ⟨r14, h15, H⟩ := bind_some H
 obtain ⟨n20, h21, H⟩ := bind_some H
 obtain ⟨n25, h26, H⟩ := bind_some H
 obtain ⟨o37, h38, H⟩ := Let_some H
 refine Cd.headMeet (σ := Sl × (List Bool) × Sl × (List Int) × Sl × (List Int)) 6 (fun (s31, l32, s33, l34, s35, l36) => [(1, Sl.v s_a1), (4, pv b5 0), (7, iv (a0.length : Int)), (21, Sl.v s35), (23, Sl.v s33), (25, Sl.v s31)]) (fun (s31, l32, s33, l34, s35, l36) => (.own s31 4 1 (encs l32)) :: (.own s33 3 1 (encs l34)) :: (.own s35 3 1 (encs l36)) :: (.blk b5 (enc (PictureR.mk ({ Picture.zero with Have := ([] : List Int), Lanes := ([] : List (List Int)), Now := ([] : List Int) } : Picture) Sl.nil Sl.nil Sl.nil)) 28) :: (.own Sl.nil 3 1 (encs ([] : List Int))) :: (.own Sl.nil 22 1 (encs ([] : List (LR Int)))) :: (.own Sl.nil 3 1 (encs ([] : List Int))) :: L) (fun _ (s31, l32, s33, l34, s35, l36) => (l32, l34, l36) = o37) (by kernel_rfl) (by kernel_rfl) (behind_sink (by kernel_rfl) (by kernel_rfl) (by kernel_rfl)) (by kernel_rfl) (fun hsel hlt => ?_) ?_
 ·refine HdJ.keep (fun w => St w0 F ((.blk b5 (enc (PictureR.mk ({ Picture.zero with Have := ([] : List Int), Lanes := ([] : List (List Int)), Now := ([] : List Int) } : Picture) Sl.nil Sl.nil Sl.nil)) 28) :: (.own Sl.nil 3 1 (encs ([] : List Int))) :: (.own Sl.nil 22 1 (encs ([] : List (LR Int)))) :: (.own Sl.nil 3 1 (encs ([] : List Int))) :: L) w) (fun w h => trivial) ?_
  refine HdJ.ts hsel hlt 0 (sk1 (sk1 (sk1 (sk1 (.refl _))))) rfl (Ev.move rfl) ?_
  refine HdJ.ts hsel hlt 2 (sk1 (sk1 (sk1 (sk1 (.refl _))))) rfl (Ev.move rfl) ?_
  refine HdJ.ts hsel hlt 4 (sk1 (sk1 (sk1 (sk1 (.refl _))))) rfl (Ev.move rfl) ?_
  refine HdJ.step [1, 3, 5] (by kernel_rfl) rfl ?_
  refine HdStep.c (fun inv => ?_) ?_
  ·refine Lst.call rfl rfl (by decide) (vs := [Sl.v s_a0]) ⟨rfl, trivial⟩ Try.call9 (slices_Clone_int_int_sim h15 w0 _ M _ (sc4 hM) (hs_a0.mono fl (.refl _))) (fun F40 L' v hF41 hv => ?_)
   obtain ⟨s39, rfl, rfl⟩ := hv
   refine Lst.nil ?_
   refine At.hd inv (fun w h => (h.weaken hF41).sublist (sc1 (sk1 (sk1 (sk1 (sk1 (.refl _))))))) ?_
   refine HdJ.step [3, 5] (by kernel_rfl) rfl ?_
   refine HdStep.c (fun inv => ?_) ?_
   ·have g42 := mkLen_some h21
    refine Lst.make (α := Int) (z0 := (0 : Int)) (k := n20) rfl rfl (by decide) (congrArg some (congrArg (Value.int .i64) g42.1)) (congrArg some (congrArg (Value.int .i64) g42.1)) Try.runUnderlying22 Try.typeInfo3 rfl rfl rfl rfl rfl g42.2 rfl (fun s43 => ?_)
    refine Lst.nil ?_
    refine At.hd inv (fun w h => (h.weaken hF41).sublist (sc1 (sc1 (sk1 (sk1 (sk1 (sk1 (.refl _)))))))) ?_
    refine HdJ.o1 5 (fun inv => ?_)
    have g44 := mkLen_some h26
    refine Lst.make (α := Bool) (z0 := false) (k := n25) rfl rfl (by decide) (congrArg some (congrArg (Value.int .i64) g44.1)) (congrArg some (congrArg (Value.int .i64) g44.1)) Try.runUnderlying38 Try.typeInfo4 rfl rfl rfl rfl rfl g44.2 rfl (fun s45 => ?_)
    refine Lst.nil ?_
    refine At.hd inv (fun w h => (h.weaken hF41).sublist (sc1 (sc1 (sc1 (sk1 (sk1 (sk1 (sk1 (.refl _))))))))) ?_
    refine HdJ.done (by kernel_rfl) ?_
    exact At.meetN (s45, (List.replicate n25 false), s43, (List.replicate n20 (0 : Int)), s39, r14) hF41 ⟨rfl, rfl, rfl, rfl, rfl, rfl, trivial⟩ rfl h38
   refine HdStep.c (fun inv => ?_) trivial
   have g46 := mkLen_some h26
   refine Lst.make (α := Bool) (z0 := false) (k := n25) rfl rfl (by decide) (congrArg some (congrArg (Value.int .i64) g46.1)) (congrArg some (congrArg (Value.int .i64) g46.1)) Try.runUnderlying38 Try.typeInfo4 rfl rfl rfl rfl rfl g46.2 rfl (fun s47 => ?_)
   refine Lst.nil ?_
   refine At.hd inv (fun w h => (h.weaken hF41).sublist (sc1 (sc1 (sk1 (sk1 (sk1 (sk1 (.refl _)))))))) ?_
   refine HdJ.o1 3 (fun inv => ?_)
   have g48 := mkLen_some h21
   refine Lst.make (α := Int) (z0 := (0 : Int)) (k := n20) rfl rfl (by decide) (congrArg some (congrArg (Value.int .i64) g48.1)) (congrArg some (congrArg (Value.int .i64) g48.1)) Try.runUnderlying22 Try.typeInfo3 rfl rfl rfl rfl rfl g48.2 rfl (fun s49 => ?_)
   refine Lst.nil ?_
   refine At.hd inv (fun w h => (h.weaken hF41).sublist (sc1 (sc1 (sc1 (sk1 (sk1 (sk1 (sk1 (.refl _))))))))) ?_
   refine HdJ.done (by kernel_rfl) ?_
   refine At.front (i := 1) rfl (L' := (.own s47 4 1 (encs (List.replicate n25 false))) :: (.own s49 3 1 (encs (List.replicate n20 (0 : Int)))) :: (.own s39 3 1 (encs r14)) :: (.blk b5 (enc (PictureR.mk ({ Picture.zero with Have := ([] : List Int), Lanes := ([] : List (List Int)), Now := ([] : List Int) } : Picture) Sl.nil Sl.nil Sl.nil)) 28) :: (.own Sl.nil 3 1 (encs ([] : List Int))) :: (.own Sl.nil 22 1 (encs ([] : List (LR Int)))) :: (.own Sl.nil 3 1 (encs ([] : List Int))) :: L) rfl ?_
   exact At.meetN (s47, (List.replicate n25 false), s49, (List.replicate n20 (0 : Int)), s39, r14) hF41 ⟨rfl, rfl, rfl, rfl, rfl, rfl, trivial⟩ rfl h38
  refine HdStep.c (fun inv => ?_) ?_
  ·have g50 := mkLen_some h21
   refine Lst.make (α := Int) (z0 := (0 : Int)) (k := n20) rfl rfl (by decide) (congrArg some (congrArg (Value.int .i64) g50.1)) (congrArg some (congrArg (Value.int .i64) g50.1)) Try.runUnderlying22 Try.typeInfo3 rfl rfl rfl rfl rfl g50.2 rfl (fun s51 => ?_)
   refine hds inv (sc1 (sk1 (sk1 (sk1 (sk1 (.refl _)))))) ?_
   refine HdJ.step [1, 5] (by kernel_rfl) rfl ?_
   refine HdStep.c (fun inv => ?_) ?_
   ·refine Lst.call rfl rfl (by decide) (vs := [Sl.v s_a0]) ⟨rfl, trivial⟩ Try.call9 (slices_Clone_int_int_sim h15 w0 _ M _ (sc4 (sc1 hM)) (hs_a0.mono fl (.refl _))) (fun F53 L' v hF54 hv => ?_)
    obtain ⟨s52, rfl, rfl⟩ := hv
    refine Lst.nil ?_
    refine At.hd inv (fun w h => (h.weaken hF54).sublist (sc1 (sc1 (sk1 (sk1 (sk1 (sk1 (.refl _)))))))) ?_
    refine HdJ.o1 5 (fun inv => ?_)
    have g55 := mkLen_some h26
    refine Lst.make (α := Bool) (z0 := false) (k := n25) rfl rfl (by decide) (congrArg some (congrArg (Value.int .i64) g55.1)) (congrArg some (congrArg (Value.int .i64) g55.1)) Try.runUnderlying38 Try.typeInfo4 rfl rfl rfl rfl rfl g55.2 rfl (fun s56 => ?_)
    refine Lst.nil ?_
    refine At.hd inv (fun w h => (h.weaken hF54).sublist (sc1 (sc1 (sc1 (sk1 (sk1 (sk1 (sk1 (.refl _))))))))) ?_
    refine HdJ.done (by kernel_rfl) ?_
    refine At.front (i := 2) rfl rfl ?_
    refine At.front (i := 1) rfl (L' := (.own s56 4 1 (encs (List.replicate n25 false))) :: (.own s51 3 1 (encs (List.replicate n20 (0 : Int)))) :: (.own s52 3 1 (encs r14)) :: (.blk b5 (enc (PictureR.mk ({ Picture.zero with Have := ([] : List Int), Lanes := ([] : List (List Int)), Now := ([] : List Int) } : Picture) Sl.nil Sl.nil Sl.nil)) 28) :: (.own Sl.nil 3 1 (encs ([] : List Int))) :: (.own Sl.nil 22 1 (encs ([] : List (LR Int)))) :: (.own Sl.nil 3 1 (encs ([] : List Int))) :: L) rfl ?_
    exact At.meetN (s56, (List.replicate n25 false), s51, (List.replicate n20 (0 : Int)), s52, r14) hF54 ⟨rfl, rfl, rfl, rfl, rfl, rfl, trivial⟩ rfl h38
   refine HdStep.c (fun inv => ?_) trivial
   have g57 := mkLen_some h26
   refine Lst.make (α := Bool) (z0 := false) (k := n25) rfl rfl (by decide) (congrArg some (congrArg (Value.int .i64) g57.1)) (congrArg some (congrArg (Value.int .i64) g57.1)) Try.runUnderlying38 Try.typeInfo4 rfl rfl rfl rfl rfl g57.2 rfl (fun s58 => ?_)
   refine hds inv (sc1 (sc1 (sk1 (sk1 (sk1 (sk1 (.refl _))))))) ?_
   refine HdJ.o1 1 (fun inv => ?_)
   refine Lst.call rfl rfl (by decide) (vs := [Sl.v s_a0]) ⟨rfl, trivial⟩ Try.call9 (slices_Clone_int_int_sim h15 w0 _ M _ (sc4 (sc2 hM)) (hs_a0.mono fl (.refl _))) (fun F60 L' v hF61 hv => ?_)
   obtain ⟨s59, rfl, rfl⟩ := hv
   refine Lst.nil ?_
   refine At.hd inv (fun w h => (h.weaken hF61).sublist (sc1 (sc1 (sc1 (sk1 (sk1 (sk1 (sk1 (.refl _))))))))) ?_
   refine HdJ.done (by kernel_rfl) ?_
   refine At.front (i := 2) rfl rfl ?_
   refine At.front (i := 2) rfl (L' := (.own s58 4 1 (encs (List.replicate n25 false))) :: (.own s51 3 1 (encs (List.replicate n20 (0 : Int)))) :: (.own s59 3 1 (encs r14)) :: (.blk b5 (enc (PictureR.mk ({ Picture.zero with Have := ([] : List Int), Lanes := ([] : List (List Int)), Now := ([] : List Int) } : Picture) Sl.nil Sl.nil Sl.nil)) 28) :: (.own Sl.nil 3 1 (encs ([] : List Int))) :: (.own Sl.nil 22 1 (encs ([] : List (LR Int)))) :: (.own Sl.nil 3 1 (encs ([] : List Int))) :: L) rfl ?_
   exact At.meetN (s58, (List.replicate n25 false), s51, (List.replicate n20 (0 : Int)), s59, r14) hF61 ⟨rfl, rfl, rfl, rfl, rfl, rfl, trivial⟩ rfl h38
  refine HdStep.c (fun inv => ?_) trivial
  have g62 := mkLen_some h26
  refine Lst.make (α := Bool) (z0 := false) (k := n25) rfl rfl (by decide) (congrArg some (congrArg (Value.int .i64) g62.1)) (congrArg some (congrArg (Value.int .i64) g62.1)) Try.runUnderlying38 Try.typeInfo4 rfl rfl rfl rfl rfl g62.2 rfl (fun s63 => ?_)
  refine hds inv (sc1 (sk1 (sk1 (sk1 (sk1 (.refl _)))))) ?_
  refine HdJ.step [1, 3] (by kernel_rfl) rfl ?_
  refine HdStep.c (fun inv => ?_) ?_
  ·refine Lst.call rfl rfl (by decide) (vs := [Sl.v s_a0]) ⟨rfl, trivial⟩ Try.call9 (slices_Clone_int_int_sim h15 w0 _ M _ (sc4 (sc1 hM)) (hs_a0.mono fl (.refl _))) (fun F65 L' v hF66 hv => ?_)
   obtain ⟨s64, rfl, rfl⟩ := hv
   refine Lst.nil ?_
   refine At.hd inv (fun w h => (h.weaken hF66).sublist (sc1 (sc1 (sk1 (sk1 (sk1 (sk1 (.refl _)))))))) ?_
   refine HdJ.o1 3 (fun inv => ?_)
   have g67 := mkLen_some h21
   refine Lst.make (α := Int) (z0 := (0 : Int)) (k := n20) rfl rfl (by decide) (congrArg some (congrArg (Value.int .i64) g67.1)) (congrArg some (congrArg (Value.int .i64) g67.1)) Try.runUnderlying22 Try.typeInfo3 rfl rfl rfl rfl rfl g67.2 rfl (fun s68 => ?_)
   refine Lst.nil ?_
   refine At.hd inv (fun w h => (h.weaken hF66).sublist (sc1 (sc1 (sc1 (sk1 (sk1 (sk1 (sk1 (.refl _))))))))) ?_
   refine HdJ.done (by kernel_rfl) ?_
   refine At.front (i := 2) rfl (L' := (.own s63 4 1 (encs (List.replicate n25 false))) :: (.own s68 3 1 (encs (List.replicate n20 (0 : Int)))) :: (.own s64 3 1 (encs r14)) :: (.blk b5 (enc (PictureR.mk ({ Picture.zero with Have := ([] : List Int), Lanes := ([] : List (List Int)), Now := ([] : List Int) } : Picture) Sl.nil Sl.nil Sl.nil)) 28) :: (.own Sl.nil 3 1 (encs ([] : List Int))) :: (.own Sl.nil 22 1 (encs ([] : List (LR Int)))) :: (.own Sl.nil 3 1 (encs ([] : List Int))) :: L) rfl ?_
   exact At.meetN (s63, (List.replicate n25 false), s68, (List.replicate n20 (0 : Int)), s64, r14) hF66 ⟨rfl, rfl, rfl, rfl, rfl, rfl, trivial⟩ rfl h38
  refine HdStep.c (fun inv => ?_) trivial
  have g69 := mkLen_some h21
  refine Lst.make (α := Int) (z0 := (0 : Int)) (k := n20) rfl rfl (by decide) (congrArg some (congrArg (Value.int .i64) g69.1)) (congrArg some (congrArg (Value.int .i64) g69.1)) Try.runUnderlying22 Try.typeInfo3 rfl rfl rfl rfl rfl g69.2 rfl (fun s70 => ?_)
  refine hds inv (sc1 (sc1 (sk1 (sk1 (sk1 (sk1 (.refl _))))))) ?_
  refine HdJ.o1 1 (fun inv => ?_)
  refine Lst.call rfl rfl (by decide) (vs := [Sl.v s_a0]) ⟨rfl, trivial⟩ Try.call9 (slices_Clone_int_int_sim h15 w0 _ M _ (sc4 (sc2 hM)) (hs_a0.mono fl (.refl _))) (fun F72 L' v hF73 hv => ?_)
  obtain ⟨s71, rfl, rfl⟩ := hv
  refine Lst.nil ?_
  refine At.hd inv (fun w h => (h.weaken hF73).sublist (sc1 (sc1 (sc1 (sk1 (sk1 (sk1 (sk1 (.refl _))))))))) ?_
  refine HdJ.done (by kernel_rfl) ?_
  refine At.front (i := 1) rfl rfl ?_
  refine At.front (i := 2) rfl (L' := (.own s63 4 1 (encs (List.replicate n25 false))) :: (.own s70 3 1 (encs (List.replicate n20 (0 : Int)))) :: (.own s71 3 1 (encs r14)) :: (.blk b5 (enc (PictureR.mk ({ Picture.zero with Have := ([] : List Int), Lanes := ([] : List (List Int)), Now := ([] : List Int) } : Picture) Sl.nil Sl.nil Sl.nil)) 28) :: (.own Sl.nil 3 1 (encs ([] : List Int))) :: (.own Sl.nil 22 1 (encs ([] : List (LR Int)))) :: (.own Sl.nil 3 1 (encs ([] : List Int))) :: L) rfl ?_
  exact At.meetN (s63, (List.replicate n25 false), s70, (List.replicate n20 (0 : Int)), s71, r14) hF73 ⟨rfl, rfl, rfl, rfl, rfl, rfl, trivial⟩ rfl h38
 rintro F74 ⟨s31, l32, s33, l34, s35, l36⟩ hF75 hy
 subst hy
 try dsimp only at H
 refine Lst.as (e' := [(1, Sl.v s_a1), (4, pv b5 0), (7, iv (a0.length : Int)), (21, Sl.v s35), (23, Sl.v s33), (25, Sl.v s31)]) (L' := (.own s31 4 1 (encs l32)) :: (.own s33 3 1 (encs l34)) :: (.own s35 3 1 (encs l36)) :: (.blk b5 (enc (PictureR.mk ({ Picture.zero with Have := ([] : List Int), Lanes := ([] : List (List Int)), Now := ([] : List Int) } : Picture) Sl.nil Sl.nil Sl.nil)) 28) :: (.own Sl.nil 3 1 (encs ([] : List Int))) :: (.own Sl.nil 22 1 (encs ([] : List (LR Int)))) :: (.own Sl.nil 3 1 (encs ([] : List Int))) :: L) ⟨rfl, rfl, rfl, rfl, rfl, rfl, trivial⟩ rfl ?_
 refine Lst.r (Ev.build (v := .agg (enc (GameR.mk ({ Game.zero with now := l36, have_ := l34, recorded := l32 } : Game) s35 s33 s31 Sl.nil)).toArray) (pv := [(0, Sl.v s35), (1, Sl.v s33), (2, Sl.v s31)]) ⟨rfl, rfl, ⟨rfl, rfl, ⟨rfl, rfl, trivial⟩⟩⟩ (run_buildStruct (places := #[(0, 1), (1, 1), (2, 1), (3, 1)]) Try.zeroValue41 (zs := enc (GameR.mk Game.zero Sl.nil Sl.nil Sl.nil Sl.nil)) rfl Try.runUnderlying41 (fun w => by kernel_rfl) (fill_cons (cs := enc (GameR.mk Game.zero Sl.nil Sl.nil Sl.nil Sl.nil)) (cs' := enc (GameR.mk ({ Game.zero with now := l36 } : Game) s35 Sl.nil Sl.nil Sl.nil)) (vs := [Sl.v s35]) rfl rfl rfl ((GameR.put_now (p := (GameR.mk Game.zero Sl.nil Sl.nil Sl.nil Sl.nil)) (y := s35) (Put.here (vs := [Sl.v s35]) rfl)).off rfl) (fill_cons (cs := enc (GameR.mk ({ Game.zero with now := l36 } : Game) s35 Sl.nil Sl.nil Sl.nil)) (cs' := enc (GameR.mk ({ Game.zero with now := l36, have_ := l34 } : Game) s35 s33 Sl.nil Sl.nil)) (vs := [Sl.v s33]) rfl rfl rfl ((GameR.put_have_ (p := (GameR.mk ({ Game.zero with now := l36 } : Game) s35 Sl.nil Sl.nil Sl.nil)) (y := s33) (Put.here (vs := [Sl.v s33]) rfl)).off rfl) (fill_cons (cs := enc (GameR.mk ({ Game.zero with now := l36, have_ := l34 } : Game) s35 s33 Sl.nil Sl.nil)) (cs' := enc (GameR.mk ({ Game.zero with now := l36, have_ := l34, recorded := l32 } : Game) s35 s33 s31 Sl.nil)) (vs := [Sl.v s31]) rfl rfl rfl ((GameR.put_recorded (p := (GameR.mk ({ Game.zero with now := l36, have_ := l34 } : Game) s35 s33 Sl.nil Sl.nil)) (y := s31) (Put.here (vs := [Sl.v s31]) rfl)).off rfl) fill_nil))))) ?_
 have hm77 : List.map (List.map LaneR.v) ([] : List (List LaneR)) = ([] : List (List Lane)) := rfl
 refine Lst.matNil (row := LaneR.row) 42 63 3 ?_
 refine Lst.its (L' := (.mat LaneR.row 42 63 3 MH.nil ([] : List (List LaneR)) ([] : List (List LaneR))) :: (.own s31 4 1 (encs l32)) :: (.own s33 3 1 (encs l34)) :: (.own s35 3 1 (encs l36)) :: (.blk b5 (enc (PictureR.mk ({ Picture.zero with Have := ([] : List Int), Lanes := ([] : List (List Int)), Now := ([] : List Int) } : Picture) Sl.nil Sl.nil Sl.nil)) 28) :: (.own Sl.nil 3 1 (encs ([] : List Int))) :: (.own Sl.nil 22 1 (encs ([] : List (LR Int)))) :: (.own Sl.nil 3 1 (encs ([] : List Int))) :: L) rfl ?_
 refine Lst.box rfl rfl (by decide) rfl (cs := enc (GameR.mk ({ Game.zero with now := l36, have_ := l34, recorded := l32, lanes := ([] : List (List Lane)) } : Game) s35 s33 s31 MH.nil.s)) rfl (fun b78 => ?_)
 refine Lst.r (Ev.assign rfl) ?_
 refine nt0 ?_
 refine Cd.seq ?_
 refine sr0 ?_
 refine mv0 rfl ?_
 refine mv0 rfl ?_
 refine nt0 ?_
 refine Cd.block ?_
 refine Cd.bound (Rd.le (α := Int) (xs := a0) (by decide) (hs_a0.mono hF75 (sc8 (sc1 hM)))) (fun hN177 => ?_)
 obtain ⟨ol80, H, HKl80⟩ := bind_some H
 refine Cd.loop (σ := Nat × Nat × Game × MH × (List (List Lane)) × (List (List LaneR))) (fun (i80, k80, y81, s82, l83, rs84) => [(1, Sl.v s_a1), (4, pv b5 0), (7, iv (a0.length : Int)), (8, pv b78 0), (28, iv (a0.length : Int)), (29, iv (i80 : Int))]) (fun (i80, k80, y81, s82, l83, rs84) => (.blk b78 (enc (GameR.mk ({ y81 with now := l36, have_ := l34, recorded := l32, lanes := l83 } : Game) s35 s33 s31 s82.s)) 41) :: (.mat LaneR.row 42 63 3 s82 rs84 rs84) :: (.own s31 4 1 (encs l32)) :: (.own s33 3 1 (encs l34)) :: (.own s35 3 1 (encs l36)) :: (.blk b5 (enc (PictureR.mk ({ Picture.zero with Have := ([] : List Int), Lanes := ([] : List (List Int)), Now := ([] : List Int) } : Picture) Sl.nil Sl.nil Sl.nil)) 28) :: (.own Sl.nil 3 1 (encs ([] : List Int))) :: (.own Sl.nil 22 1 (encs ([] : List (LR Int)))) :: (.own Sl.nil 3 1 (encs ([] : List Int))) :: L) (fun Fx => (fun (i80, k80, y81, s82, l83, rs84) => rangeF (snap_Play_B0 a0 l32 l34 l36) k80 i80 (y81, l83) = some ol80 ∧ i80 + k80 = a0.length ∧ rs84.map (List.map LaneR.v) = l83)) (fun (i80, k80, y81, s82, l83, rs84) => k80) (0, a0.length, ({ Game.zero with now := l36, have_ := l34, recorded := l32, lanes := ([] : List (List Lane)) } : Game), MH.nil, ([] : List (List Lane)), ([] : List (List LaneR))) ⟨rfl, rfl, rfl, rfl, rfl, rfl, trivial⟩ rfl ⟨H, by omega, hm77⟩ ?_
 rintro F86 ⟨i80, k80, y81, s82, l83, rs84⟩ hF87 ⟨H, hik80, fm85⟩
 refine Cd.as (e' := [(1, Sl.v s_a1), (4, pv b5 0), (7, iv (a0.length : Int)), (8, pv b78 0), (28, iv (a0.length : Int)), (29, iv (i80 : Int))]) (L' := (.blk b78 (enc (GameR.mk ({ y81 with now := l36, have_ := l34, recorded := l32, lanes := l83 } : Game) s35 s33 s31 s82.s)) 41) :: (.mat LaneR.row 42 63 3 s82 rs84 rs84) :: (.own s31 4 1 (encs l32)) :: (.own s33 3 1 (encs l34)) :: (.own s35 3 1 (encs l36)) :: (.blk b5 (enc (PictureR.mk ({ Picture.zero with Have := ([] : List Int), Lanes := ([] : List (List Int)), Now := ([] : List Int) } : Picture) Sl.nil Sl.nil Sl.nil)) 28) :: (.own Sl.nil 3 1 (encs ([] : List Int))) :: (.own Sl.nil 22 1 (encs ([] : List (LR Int)))) :: (.own Sl.nil 3 1 (encs ([] : List Int))) :: L) ⟨rfl, rfl, rfl, rfl, rfl, rfl, trivial⟩ rfl ?_
 rcases k80 with _ | k80
 ·have hc80 : decide ((i80 : Int) < (a0.length : Int)) = false := decide_eq_false (by omega)
  replace H := rangeF_end H
  refine sr0 ?_
  refine Lst.r (Ev.lss rfl rfl) ?_
  refine nt0 ?_
  refine Cd.seq ?_
  refine Cd.condF rfl hc80 ?_
  refine Cd.exit ?_
  refine At.then_exit ?_
  refine At.then_exit ?_
  refine At.in_exit ?_
  subst H
  replace H := HKl80
  try dsimp only [Sum.elim_inl] at H
  refine At.then ?_
  refine Cd.seq ?_
  refine sr0 ?_
  refine mv0 rfl ?_
  refine Lst.r (Ev.lenS (α := Move) (xs := a1) (by decide) rfl rfl Try.runUnderlying23 (hs_a1.mono (FLe.trans hF75 hF87) (sc8 (sc1 hM)))) ?_
  refine mv0 rfl ?_
  refine nt0 ?_
  refine Cd.block ?_
  refine Cd.bound (Rd.le (α := Move) (xs := a1) (by decide) (hs_a1.mono (FLe.trans hF75 hF87) (sc8 (sc1 hM)))) (fun hN176 => ?_)
  obtain ⟨ol130, H, HKl130⟩ := bind_some H
  refine Cd.loop (σ := Nat × Nat × Game × (List (List Lane)) × (List (List LaneR)) × (List Bool) × (List Int) × (List Int)) (fun (i130, k130, y131, l132, rs133, l135, l136, l137) => [(4, pv b5 0), (8, pv b78 0), (43, Sl.v s_a1), (44, iv (a1.length : Int)), (45, iv (i130 : Int))]) (fun (i130, k130, y131, l132, rs133, l135, l136, l137) => (.blk b78 (enc (GameR.mk ({ y131 with now := l137, have_ := l136, recorded := l135, lanes := l132 } : Game) s35 s33 s31 s82.s)) 41) :: (.mat LaneR.row 42 63 3 s82 rs133 rs133) :: (.own s31 4 1 (encs l135)) :: (.own s33 3 1 (encs l136)) :: (.own s35 3 1 (encs l137)) :: (.blk b5 (enc (PictureR.mk ({ Picture.zero with Have := ([] : List Int), Lanes := ([] : List (List Int)), Now := ([] : List Int) } : Picture) Sl.nil Sl.nil Sl.nil)) 28) :: (.own Sl.nil 3 1 (encs ([] : List Int))) :: (.own Sl.nil 22 1 (encs ([] : List (LR Int)))) :: (.own Sl.nil 3 1 (encs ([] : List Int))) :: L) (fun Fx => (fun (i130, k130, y131, l132, rs133, l135, l136, l137) => rangeF (snap_Play_B2 a1) k130 i130 (y131, l132, l135, l136, l137) = some ol130 ∧ i130 + k130 = a1.length ∧ rs133.map (List.map LaneR.v) = l132)) (fun (i130, k130, y131, l132, rs133, l135, l136, l137) => k130) (0, a1.length, ({ y81 with now := l36, have_ := l34, recorded := l32, lanes := l83 } : Game), l83, rs84, l32, l34, l36) ⟨rfl, rfl, rfl, rfl, rfl, trivial⟩ rfl ⟨H, by omega, fm85⟩ ?_
  rintro F138 ⟨i130, k130, y131, l132, rs133, l135, l136, l137⟩ hF139 ⟨H, hik130, fm134⟩
  refine Cd.as (e' := [(4, pv b5 0), (8, pv b78 0), (43, Sl.v s_a1), (44, iv (a1.length : Int)), (45, iv (i130 : Int))]) (L' := (.blk b78 (enc (GameR.mk ({ y131 with now := l137, have_ := l136, recorded := l135, lanes := l132 } : Game) s35 s33 s31 s82.s)) 41) :: (.mat LaneR.row 42 63 3 s82 rs133 rs133) :: (.own s31 4 1 (encs l135)) :: (.own s33 3 1 (encs l136)) :: (.own s35 3 1 (encs l137)) :: (.blk b5 (enc (PictureR.mk ({ Picture.zero with Have := ([] : List Int), Lanes := ([] : List (List Int)), Now := ([] : List Int) } : Picture) Sl.nil Sl.nil Sl.nil)) 28) :: (.own Sl.nil 3 1 (encs ([] : List Int))) :: (.own Sl.nil 22 1 (encs ([] : List (LR Int)))) :: (.own Sl.nil 3 1 (encs ([] : List Int))) :: L) ⟨rfl, rfl, rfl, rfl, rfl, trivial⟩ rfl ?_
  rcases k130 with _ | k130
  ·have hc130 : decide ((i130 : Int) < (a1.length : Int)) = false := decide_eq_false (by omega)
   replace H := rangeF_end H
   refine sr0 ?_
   refine Lst.r (Ev.lss rfl rfl) ?_
   refine nt0 ?_
   refine Cd.seq ?_
   refine Cd.condF rfl hc130 ?_
   refine Cd.exit ?_
   refine At.then_exit ?_
   refine At.then_exit ?_
   refine At.in_exit ?_
   subst H
   replace H := HKl130
   try dsimp only [Sum.elim_inl] at H
   refine At.then ?_
   refine sr0 ?_
   refine mv0 rfl ?_
   obtain ⟨r163, h164, H⟩ := bind_some H
   refine Lst.freeze (i := 4) rfl (fun F151 hF152 hz153 => ?_)
   have hq154 : Rd w0 F151 [] s35 l137 := Rd.frozen hz153 rfl rfl
   refine Lst.its (L' := (.blk b78 (enc (GameR.mk ({ y131 with now := l137, have_ := l136, recorded := l135, lanes := l132 } : Game) s35 s33 s31 s82.s)) 41) :: (.mat LaneR.row 42 63 3 s82 rs133 rs133) :: (.own s31 4 1 (encs l135)) :: (.own s33 3 1 (encs l136)) :: (.blk b5 (enc (PictureR.mk ({ Picture.zero with Have := ([] : List Int), Lanes := ([] : List (List Int)), Now := ([] : List Int) } : Picture) Sl.nil Sl.nil Sl.nil)) 28) :: (.own Sl.nil 3 1 (encs ([] : List Int))) :: (.own Sl.nil 22 1 (encs ([] : List (LR Int)))) :: (.own Sl.nil 3 1 (encs ([] : List Int))) :: L) rfl ?_
   refine Lst.freeze (i := 3) rfl (fun F155 hF156 hz157 => ?_)
   have hq158 : Rd w0 F155 [] s33 l136 := Rd.frozen hz157 rfl rfl
   refine Lst.its (L' := (.blk b78 (enc (GameR.mk ({ y131 with now := l137, have_ := l136, recorded := l135, lanes := l132 } : Game) s35 s33 s31 s82.s)) 41) :: (.mat LaneR.row 42 63 3 s82 rs133 rs133) :: (.own s31 4 1 (encs l135)) :: (.blk b5 (enc (PictureR.mk ({ Picture.zero with Have := ([] : List Int), Lanes := ([] : List (List Int)), Now := ([] : List Int) } : Picture) Sl.nil Sl.nil Sl.nil)) 28) :: (.own Sl.nil 3 1 (encs ([] : List Int))) :: (.own Sl.nil 22 1 (encs ([] : List (LR Int)))) :: (.own Sl.nil 3 1 (encs ([] : List Int))) :: L) rfl ?_
   refine Lst.freeze (i := 2) rfl (fun F159 hF160 hz161 => ?_)
   have hq162 : Rd w0 F159 [] s31 l135 := Rd.frozen hz161 rfl rfl
   refine Lst.its (L' := (.blk b78 (enc (GameR.mk ({ y131 with now := l137, have_ := l136, recorded := l135, lanes := l132 } : Game) s35 s33 s31 s82.s)) 41) :: (.mat LaneR.row 42 63 3 s82 rs133 rs133) :: (.blk b5 (enc (PictureR.mk ({ Picture.zero with Have := ([] : List Int), Lanes := ([] : List (List Int)), Now := ([] : List Int) } : Picture) Sl.nil Sl.nil Sl.nil)) 28) :: (.own Sl.nil 3 1 (encs ([] : List Int))) :: (.own Sl.nil 22 1 (encs ([] : List (LR Int)))) :: (.own Sl.nil 3 1 (encs ([] : List Int))) :: L) rfl ?_
   refine Lst.front (i := 1) rfl (L' := (.mat LaneR.row 42 63 3 s82 rs133 rs133) :: (.blk b78 (enc (GameR.mk ({ y131 with now := l137, have_ := l136, recorded := l135, lanes := l132 } : Game) s35 s33 s31 s82.s)) 41) :: (.blk b5 (enc (PictureR.mk ({ Picture.zero with Have := ([] : List Int), Lanes := ([] : List (List Int)), Now := ([] : List Int) } : Picture) Sl.nil Sl.nil Sl.nil)) 28) :: (.own Sl.nil 3 1 (encs ([] : List Int))) :: (.own Sl.nil 22 1 (encs ([] : List (LR Int)))) :: (.own Sl.nil 3 1 (encs ([] : List Int))) :: L) rfl ?_
   refine Lst.call rfl rfl (by decide) (vs := [pv b78 0]) ⟨rfl, trivial⟩ Try.call11 (snap_game_picture_sim h164 w0 _ M _ (sc4 hM) (hq154.mono (FLe.trans hF156 hF160) (List.nil_sublist _)) (hq158.mono hF160 (List.nil_sublist _)) (hq162.mono fl (List.nil_sublist _)) fm134) (fun F174 L' v hF175 hv => ?_)
   obtain ⟨s165, s167, rs168, s172, rfl, rfl, f166, fm169, fa171, f173⟩ := hv
   refine Lst.store (i := 3) rfl rfl rfl rfl rfl Try.sizeOf28 (vs := enc (PictureR.mk r163 s165 s167 s172)) rfl (Enc.len _) (Enc.one _) (cs' := enc (PictureR.mk r163 s165 s167 s172)) (Put.here ((Enc.len _).trans (Enc.len _).symm)) (L' := (.own s167 22 1 (encs rs168)) :: (.mat LaneR.row 42 63 3 s82 rs133 rs133) :: (.blk b78 (enc (GameR.mk ({ y131 with now := l137, have_ := l136, recorded := l135, lanes := l132 } : Game) s35 s33 s31 s82.s)) 41) :: (.blk b5 (enc (PictureR.mk r163 s165 s167 s172)) 28) :: (.own Sl.nil 3 1 (encs ([] : List Int))) :: (.own Sl.nil 22 1 (encs ([] : List (LR Int)))) :: (.own Sl.nil 3 1 (encs ([] : List Int))) :: L) rfl ?_
   refine Lst.r (Ev.assign rfl) ?_
   refine nt0 ?_
   obtain rfl := some_inj H
   refine Cd.ret ?_
   exact At.ret2 rfl (Res.cellA (i := 3) rfl rfl Try.isAgg28 Try.sizeOf28 (Enc.len _)) (Res.tmp rfl) (FLe.trans (FLe.trans (FLe.trans (FLe.trans (FLe.trans (FLe.trans hF75 hF87) hF139) hF152) hF156) hF160) hF175) (sk1 (sc1 (sc1 (sc1 (sc1 (sc1 (sc1 (.refl _)))))))) ⟨s165, s167, rs168, s172, rfl, rfl, (f166.mono fl (.refl _)), fm169, (All.monoLR fa171 fl (.refl _)), (f173.mono fl (.refl _))⟩
  have hc130 : decide ((i130 : Int) < (a1.length : Int)) = true := decide_eq_true (by omega)
  obtain ⟨c130, H, hgo130⟩ := rangeF_go H
  unfold snap_Play_B2 at H
  try dsimp only at H
  refine sr0 ?_
  refine Lst.r (Ev.lss rfl rfl) ?_
  refine nt0 ?_
  refine Cd.seq ?_
  refine Cd.condT rfl hc130 ?_
  refine Cd.skip ?_
  refine At.then ?_
  refine Cd.seq ?_
  refine Cd.block ?_
  refine sr0 ?_
  obtain ⟨x140, h141, H⟩ := bind_some H
  have g142 := lat_some h141
  refine Lst.r (Ev.indexS (α := Move) (xs := a1) rfl rfl Try.runUnderlying23 Try.sizeOf35 rfl (by decide) (hs_a1.mono (FLe.trans (FLe.trans hF75 hF87) hF139) (sc8 (sc1 hM))) g142.1 g142.2.1) ?_
  refine Lst.r (Ev.loadSA (α := Move) rfl (hs_a1.mono (FLe.trans (FLe.trans hF75 hF87) hF139) (sc8 (sc1 hM))) Try.isAgg35 Try.sizeOf35 (ch := enc x140) (Enc.len _) (by decide) ((Get.elemN (s := 4) (x := x140) rfl g142.2.2 gh0).off (by omega))) ?_
  refine Lst.alloc (cs := enc Move.zero) rfl rfl (by decide) Try.zeroValue35 rfl (fun b143 => ?_)
  refine Lst.store (i := 0) rfl rfl rfl rfl rfl Try.sizeOf35 (vs := enc x140) rfl (Enc.len _) (Enc.one _) (cs' := enc x140) (Put.here ((Enc.len _).trans (Enc.len _).symm)) (L' := (.blk b143 (enc x140) 35) :: (.blk b78 (enc (GameR.mk ({ y131 with now := l137, have_ := l136, recorded := l135, lanes := l132 } : Game) s35 s33 s31 s82.s)) 41) :: (.mat LaneR.row 42 63 3 s82 rs133 rs133) :: (.own s31 4 1 (encs l135)) :: (.own s33 3 1 (encs l136)) :: (.own s35 3 1 (encs l137)) :: (.blk b5 (enc (PictureR.mk ({ Picture.zero with Have := ([] : List Int), Lanes := ([] : List (List Int)), Now := ([] : List Int) } : Picture) Sl.nil Sl.nil Sl.nil)) 28) :: (.own Sl.nil 3 1 (encs ([] : List Int))) :: (.own Sl.nil 22 1 (encs ([] : List (LR Int)))) :: (.own Sl.nil 3 1 (encs ([] : List Int))) :: L) rfl ?_
  refine nt0 ?_
  refine Cd.region ?_
  refine mv0 rfl ?_
  refine Lst.r (Ev.loadA (i := 0) rfl rfl Try.isAgg35 Try.sizeOf35 (ch := enc x140) (Enc.len _) gh0) ?_
  obtain ⟨r145, h146, H⟩ := bind_some H
  refine Lst.front (i := 1) rfl rfl ?_
  refine Lst.front (i := 2) rfl rfl ?_
  refine Lst.front (i := 3) rfl (L' := (.own s31 4 1 (encs l135)) :: (.mat LaneR.row 42 63 3 s82 rs133 rs133) :: (.blk b78 (enc (GameR.mk ({ y131 with now := l137, have_ := l136, recorded := l135, lanes := l132 } : Game) s35 s33 s31 s82.s)) 41) :: (.blk b143 (enc x140) 35) :: (.own s33 3 1 (encs l136)) :: (.own s35 3 1 (encs l137)) :: (.blk b5 (enc (PictureR.mk ({ Picture.zero with Have := ([] : List Int), Lanes := ([] : List (List Int)), Now := ([] : List Int) } : Picture) Sl.nil Sl.nil Sl.nil)) 28) :: (.own Sl.nil 3 1 (encs ([] : List Int))) :: (.own Sl.nil 22 1 (encs ([] : List (LR Int)))) :: (.own Sl.nil 3 1 (encs ([] : List Int))) :: L) rfl ?_
  refine Lst.front (i := 4) rfl rfl ?_
  refine Lst.front (i := 5) rfl (L' := (.own s35 3 1 (encs l137)) :: (.own s33 3 1 (encs l136)) :: (.own s31 4 1 (encs l135)) :: (.mat LaneR.row 42 63 3 s82 rs133 rs133) :: (.blk b78 (enc (GameR.mk ({ y131 with now := l137, have_ := l136, recorded := l135, lanes := l132 } : Game) s35 s33 s31 s82.s)) 41) :: (.blk b143 (enc x140) 35) :: (.blk b5 (enc (PictureR.mk ({ Picture.zero with Have := ([] : List Int), Lanes := ([] : List (List Int)), Now := ([] : List Int) } : Picture) Sl.nil Sl.nil Sl.nil)) 28) :: (.own Sl.nil 3 1 (encs ([] : List Int))) :: (.own Sl.nil 22 1 (encs ([] : List (LR Int)))) :: (.own Sl.nil 3 1 (encs ([] : List Int))) :: L) rfl ?_
  refine Lst.call rfl rfl (by decide) (vs := [pv b78 0, .agg (enc x140).toArray]) ⟨rfl, rfl, trivial⟩ Try.call10 (snap_game_move_sim h146 w0 _ M _ (sc4 (sc1 hM)) fm134) (fun F149 L' v hF150 hv => ?_)
  obtain ⟨rs147, rfl, rfl, fm148⟩ := hv
  refine Lst.nil ?_
  refine At.in_normal ?_
  refine At.then ?_
  refine Cd.region ?_
  refine Lst.r (Ev.incr (by omega) rfl rfl) ?_
  refine mv0 rfl ?_
  refine Lst.nil ?_
  refine At.front (i := 1) rfl rfl ?_
  refine At.front (i := 2) rfl rfl ?_
  refine At.front (i := 3) rfl (L' := (.mat LaneR.row 42 63 3 s82 rs147 rs147) :: (.own s31 4 1 (encs r145.2.2.1)) :: (.own s33 3 1 (encs r145.2.1)) :: (.own s35 3 1 (encs r145.1)) :: (.blk b78 (enc (GameR.mk ({ r145.2.2.2.2 with now := r145.1, have_ := r145.2.1, recorded := r145.2.2.1, lanes := r145.2.2.2.1 } : Game) s35 s33 s31 s82.s)) 41) :: (.blk b143 (enc x140) 35) :: (.blk b5 (enc (PictureR.mk ({ Picture.zero with Have := ([] : List Int), Lanes := ([] : List (List Int)), Now := ([] : List Int) } : Picture) Sl.nil Sl.nil Sl.nil)) 28) :: (.own Sl.nil 3 1 (encs ([] : List Int))) :: (.own Sl.nil 22 1 (encs ([] : List (LR Int)))) :: (.own Sl.nil 3 1 (encs ([] : List Int))) :: L) rfl ?_
  refine At.front (i := 4) rfl (L' := (.blk b78 (enc (GameR.mk ({ r145.2.2.2.2 with now := r145.1, have_ := r145.2.1, recorded := r145.2.2.1, lanes := r145.2.2.2.1 } : Game) s35 s33 s31 s82.s)) 41) :: (.mat LaneR.row 42 63 3 s82 rs147 rs147) :: (.own s31 4 1 (encs r145.2.2.1)) :: (.own s33 3 1 (encs r145.2.1)) :: (.own s35 3 1 (encs r145.1)) :: (.blk b143 (enc x140) 35) :: (.blk b5 (enc (PictureR.mk ({ Picture.zero with Have := ([] : List Int), Lanes := ([] : List (List Int)), Now := ([] : List Int) } : Picture) Sl.nil Sl.nil Sl.nil)) 28) :: (.own Sl.nil 3 1 (encs ([] : List Int))) :: (.own Sl.nil 22 1 (encs ([] : List (LR Int)))) :: (.own Sl.nil 3 1 (encs ([] : List Int))) :: L) rfl ?_
  refine At.less (L' := (.blk b78 (enc (GameR.mk ({ r145.2.2.2.2 with now := r145.1, have_ := r145.2.1, recorded := r145.2.2.1, lanes := r145.2.2.2.1 } : Game) s35 s33 s31 s82.s)) 41) :: (.mat LaneR.row 42 63 3 s82 rs147 rs147) :: (.own s31 4 1 (encs r145.2.2.1)) :: (.own s33 3 1 (encs r145.2.1)) :: (.own s35 3 1 (encs r145.1)) :: (.blk b5 (enc (PictureR.mk ({ Picture.zero with Have := ([] : List Int), Lanes := ([] : List (List Int)), Now := ([] : List Int) } : Picture) Sl.nil Sl.nil Sl.nil)) 28) :: (.own Sl.nil 3 1 (encs ([] : List Int))) :: (.own Sl.nil 22 1 (encs ([] : List (LR Int)))) :: (.own Sl.nil 3 1 (encs ([] : List Int))) :: L) (sk1 (sk1 (sk1 (sk1 (sk1 (sc1 (sk1 (sk1 (sk1 (sk1 (.refl _))))))))))) ?_
  exact At.meet (i130 + 1, k130, ({ r145.2.2.2.2 with now := r145.1, have_ := r145.2.1, recorded := r145.2.2.1, lanes := r145.2.2.2.1 } : Game), r145.2.2.2.1, rs147, r145.2.2.1, r145.2.1, r145.1) (FLe.trans hF139 hF150) ⟨rfl, rfl, rfl, rfl, rfl, trivial⟩ rfl ⟨⟨hgo130 _ (some_inj H).symm, by omega, fm148⟩, Nat.lt_succ_self _⟩
 have hc80 : decide ((i80 : Int) < (a0.length : Int)) = true := decide_eq_true (by omega)
 obtain ⟨c80, H, hgo80⟩ := rangeF_go H
 unfold snap_Play_B0 at H
 try dsimp only at H
 refine sr0 ?_
 refine Lst.r (Ev.lss rfl rfl) ?_
 refine nt0 ?_
 refine Cd.seq ?_
 refine Cd.condT rfl hc80 ?_
 refine Cd.skip ?_
 refine At.then ?_
 refine Cd.seq ?_
 refine Cd.block ?_
 obtain ⟨n88, h89, H⟩ := bind_some H
 obtain ⟨u98, h99, H⟩ := bind_some H
 obtain ⟨o109, h110, H⟩ := Let_some H
 refine Cd.headMeet (σ := MH × (List (List Lane)) × (List (List LaneR)) × Game × Sl) 9 (fun (s103, l104, rs105, y107, s108) => [(1, Sl.v s_a1), (4, pv b5 0), (7, iv (a0.length : Int)), (8, pv b78 0), (28, iv (a0.length : Int)), (29, iv (i80 : Int)), (31, pv b78 0), (39, Sl.v s103.s)]) (fun (s103, l104, rs105, y107, s108) => (.mat LaneR.row 42 63 3 s103 rs105 rs105) :: (.blk b78 (enc (GameR.mk ({ y107 with now := l36, have_ := l34, recorded := l32 } : Game) s35 s33 s31 s108)) 41) :: (.own s31 4 1 (encs l32)) :: (.own s33 3 1 (encs l34)) :: (.own s35 3 1 (encs l36)) :: (.blk b5 (enc (PictureR.mk ({ Picture.zero with Have := ([] : List Int), Lanes := ([] : List (List Int)), Now := ([] : List Int) } : Picture) Sl.nil Sl.nil Sl.nil)) 28) :: (.own Sl.nil 3 1 (encs ([] : List Int))) :: (.own Sl.nil 22 1 (encs ([] : List (LR Int)))) :: (.own Sl.nil 3 1 (encs ([] : List Int))) :: L) (fun Fx (s103, l104, rs105, y107, s108) => (l104, y107) = o109 ∧ rs105.map (List.map LaneR.v) = l104) (by kernel_rfl) (by kernel_rfl) (behind_sink (by kernel_rfl) (by kernel_rfl) (by kernel_rfl)) (by kernel_rfl) (fun hsel hlt => ?_) ?_
 ·refine HdJ.keep (fun w => St w0 F86 ((.own s31 4 1 (encs l32)) :: (.own s33 3 1 (encs l34)) :: (.own s35 3 1 (encs l36)) :: (.blk b5 (enc (PictureR.mk ({ Picture.zero with Have := ([] : List Int), Lanes := ([] : List (List Int)), Now := ([] : List Int) } : Picture) Sl.nil Sl.nil Sl.nil)) 28) :: (.own Sl.nil 3 1 (encs ([] : List Int))) :: (.own Sl.nil 22 1 (encs ([] : List (LR Int)))) :: (.own Sl.nil 3 1 (encs ([] : List Int))) :: L) w) (fun w h => trivial) ?_
  refine HdJ.ts hsel hlt 0 (sc1 (sc1 (sk1 (sk1 (sk1 (sk1 (sk1 (sk1 (sk1 (.refl _)))))))))) rfl (Ev.move rfl) ?_
  refine HdJ.ts hsel hlt 1 (sc1 (sc1 (sk1 (sk1 (sk1 (sk1 (sk1 (sk1 (sk1 (.refl _)))))))))) rfl (Ev.move rfl) ?_
  refine HdJ.ts hsel hlt 2 (sc1 (sc1 (sk1 (sk1 (sk1 (sk1 (sk1 (sk1 (sk1 (.refl _)))))))))) rfl (Ev.nilCheck rfl) ?_
  refine HdJ.ts hsel hlt 3 (sc1 (sc1 (sk1 (sk1 (sk1 (sk1 (sk1 (sk1 (sk1 (.refl _)))))))))) rfl (Ev.fieldAddr (off' := 3) rfl Try.runUnderlying41 rfl Try.sizeOf39 rfl rfl) ?_
  refine HdJ.ts hsel hlt 5 (sc1 (sc1 (sk1 (sk1 (sk1 (sk1 (sk1 (sk1 (sk1 (.refl _)))))))))) rfl (Ev.move rfl) ?_
  refine HdJ.step [4, 6] (by kernel_rfl) rfl ?_
  refine HdStep.c (fun inv => ?_) ?_
  ·refine Lst.r (Ev.load (i := 0) rfl rfl Try.isAgg39 (v := Sl.v s82.s) ((GameR.get_lanes gh0).off (by rfl))) ?_
   refine hds inv (sc1 (sc1 (sk1 (sk1 (sk1 (sk1 (sk1 (sk1 (sk1 (.refl _)))))))))) ?_
   refine HdJ.o1 6 (fun inv => ?_)
   have g111 := mkLen_some h89
   have hm113 : (List.replicate n88 ((LaneR.mk Lane.zero Sl.nil) : LaneR)).map LaneR.v = (List.replicate n88 Lane.zero) := map_rep _ _
   refine Lst.make (α := LaneR) (z0 := ((LaneR.mk Lane.zero Sl.nil) : LaneR)) (k := n88) rfl rfl (by decide) (congrArg some (congrArg (Value.int .i64) g111.1)) (congrArg some (congrArg (Value.int .i64) g111.1)) Try.runUnderlying42 Try.typeInfo63 rfl rfl rfl rfl rfl g111.2 rfl (fun s112 => ?_)
   refine Lst.rowsNil Int 3 n88 ?_
   refine Lst.its (L' := (.rows (α := Int) 3 (List.map LaneR.row (List.replicate n88 ((LaneR.mk Lane.zero Sl.nil) : LaneR)))) :: (.own s112 63 3 (encs (List.replicate n88 ((LaneR.mk Lane.zero Sl.nil) : LaneR)))) :: (.blk b78 (enc (GameR.mk ({ y81 with now := l36, have_ := l34, recorded := l32, lanes := l83 } : Game) s35 s33 s31 s82.s)) 41) :: (.mat LaneR.row 42 63 3 s82 rs84 rs84) :: (.own s31 4 1 (encs l32)) :: (.own s33 3 1 (encs l34)) :: (.own s35 3 1 (encs l36)) :: (.blk b5 (enc (PictureR.mk ({ Picture.zero with Have := ([] : List Int), Lanes := ([] : List (List Int)), Now := ([] : List Int) } : Picture) Sl.nil Sl.nil Sl.nil)) 28) :: (.own Sl.nil 3 1 (encs ([] : List Int))) :: (.own Sl.nil 22 1 (encs ([] : List (LR Int)))) :: (.own Sl.nil 3 1 (encs ([] : List Int))) :: L) (by rw [List.map_replicate]; try rfl) ?_
   refine hds inv (sc1 (sc1 (sc1 (sc1 (sk1 (sk1 (sk1 (sk1 (sk1 (sk1 (sk1 (.refl _)))))))))))) ?_
   refine HdJ.o1 7 (fun inv => ?_)
   refine Lst.buildSlice (α := LR LaneR) (xs := [(⟨(List.replicate n88 ((LaneR.mk Lane.zero Sl.nil) : LaneR)), s112⟩ : LR LaneR)]) (pv := [(0, Sl.v s112)]) rfl rfl (by decide) ⟨rfl, rfl, trivial⟩ (run_buildSlice (α := LR LaneR) (z0 := (⟨[], Sl.nil⟩ : LR LaneR)) (xs := [(⟨(List.replicate n88 ((LaneR.mk Lane.zero Sl.nil) : LaneR)), s112⟩ : LR LaneR)]) Try.runUnderlying39 Try.sizeOf42 Try.zeroValue42 rfl rfl rfl (by decide) rfl (fill_cons (cs := encs (List.replicate 1 (⟨[], Sl.nil⟩ : LR LaneR))) (cs' := encs ((List.replicate 1 (⟨[], Sl.nil⟩ : LR LaneR)).set 0 (⟨(List.replicate n88 ((LaneR.mk Lane.zero Sl.nil) : LaneR)), s112⟩ : LR LaneR))) (vs := [Sl.v s112]) rfl rfl rfl ((Put.elemN (s := 1) (i := 0) (x := (⟨[], Sl.nil⟩ : LR LaneR)) (y := (⟨(List.replicate n88 ((LaneR.mk Lane.zero Sl.nil) : LaneR)), s112⟩ : LR LaneR)) rfl rfl (Put.here (vs := [Sl.v s112]) rfl)).off rfl) fill_nil)) rfl rfl (by decide) (fun s115 _ => ?_)
   refine Lst.its (L' := (.own s115 42 1 (encs [(⟨(List.replicate n88 ((LaneR.mk Lane.zero Sl.nil) : LaneR)), s112⟩ : LR LaneR)])) :: (.rows (α := Int) 3 (List.map LaneR.row (List.replicate n88 ((LaneR.mk Lane.zero Sl.nil) : LaneR)))) :: (.own s112 63 3 (encs (List.replicate n88 ((LaneR.mk Lane.zero Sl.nil) : LaneR)))) :: (.blk b78 (enc (GameR.mk ({ y81 with now := l36, have_ := l34, recorded := l32, lanes := l83 } : Game) s35 s33 s31 s82.s)) 41) :: (.mat LaneR.row 42 63 3 s82 rs84 rs84) :: (.own s31 4 1 (encs l32)) :: (.own s33 3 1 (encs l34)) :: (.own s35 3 1 (encs l36)) :: (.blk b5 (enc (PictureR.mk ({ Picture.zero with Have := ([] : List Int), Lanes := ([] : List (List Int)), Now := ([] : List Int) } : Picture) Sl.nil Sl.nil Sl.nil)) 28) :: (.own Sl.nil 3 1 (encs ([] : List Int))) :: (.own Sl.nil 22 1 (encs ([] : List (LR Int)))) :: (.own Sl.nil 3 1 (encs ([] : List Int))) :: L) rfl ?_
   refine hds inv (sc1 (sc1 (sc1 (sc1 (sc1 (sk1 (sk1 (sk1 (sk1 (sk1 (sk1 (sk1 (.refl _))))))))))))) ?_
   refine HdJ.o1 8 (fun inv => ?_)
   refine Lst.front (i := 1) rfl rfl ?_
   refine Lst.front (i := 2) rfl rfl ?_
   refine Lst.front (i := 4) rfl (L' := (.mat LaneR.row 42 63 3 s82 rs84 rs84) :: (.own s112 63 3 (encs (List.replicate n88 ((LaneR.mk Lane.zero Sl.nil) : LaneR)))) :: (.rows (α := Int) 3 (List.map LaneR.row (List.replicate n88 ((LaneR.mk Lane.zero Sl.nil) : LaneR)))) :: (.own s115 42 1 (encs [(⟨(List.replicate n88 ((LaneR.mk Lane.zero Sl.nil) : LaneR)), s112⟩ : LR LaneR)])) :: (.blk b78 (enc (GameR.mk ({ y81 with now := l36, have_ := l34, recorded := l32, lanes := l83 } : Game) s35 s33 s31 s82.s)) 41) :: (.own s31 4 1 (encs l32)) :: (.own s33 3 1 (encs l34)) :: (.own s35 3 1 (encs l36)) :: (.blk b5 (enc (PictureR.mk ({ Picture.zero with Have := ([] : List Int), Lanes := ([] : List (List Int)), Now := ([] : List Int) } : Picture) Sl.nil Sl.nil Sl.nil)) 28) :: (.own Sl.nil 3 1 (encs ([] : List Int))) :: (.own Sl.nil 22 1 (encs ([] : List (LR Int)))) :: (.own Sl.nil 3 1 (encs ([] : List Int))) :: L) rfl ?_
   have hm117 : List.map (List.map LaneR.v) (rs84 ++ [(List.replicate n88 ((LaneR.mk Lane.zero Sl.nil) : LaneR))]) = l83 ++ [(List.replicate n88 Lane.zero)] := map_app fm85 (congrArg (fun t => [t]) hm113)
   refine Lst.matAppend (row := LaneR.row) (s2 := s115) (h := s112) (r := (List.replicate n88 ((LaneR.mk Lane.zero Sl.nil) : LaneR))) rfl rfl (by decide) rfl rfl Try.runUnderlying39 Try.typeInfo42 rfl rfl rfl rfl (rdo 3 rfl rfl rfl) (by have := room_some h99; have := map_len fm85; simp only [List.length_cons, List.length_nil] at *; omega) rfl (fun s116 => ?_)
   refine Lst.less (L' := (.mat LaneR.row 42 63 3 (MH.push s82 (List.length rs84) s116 s112) (rs84 ++ [(List.replicate n88 ((LaneR.mk Lane.zero Sl.nil) : LaneR))]) (rs84 ++ [(List.replicate n88 ((LaneR.mk Lane.zero Sl.nil) : LaneR))])) :: (.blk b78 (enc (GameR.mk ({ y81 with now := l36, have_ := l34, recorded := l32 } : Game) s35 s33 s31 s82.s)) 41) :: (.own s31 4 1 (encs l32)) :: (.own s33 3 1 (encs l34)) :: (.own s35 3 1 (encs l36)) :: (.blk b5 (enc (PictureR.mk ({ Picture.zero with Have := ([] : List Int), Lanes := ([] : List (List Int)), Now := ([] : List Int) } : Picture) Sl.nil Sl.nil Sl.nil)) 28) :: (.own Sl.nil 3 1 (encs ([] : List Int))) :: (.own Sl.nil 22 1 (encs ([] : List (LR Int)))) :: (.own Sl.nil 3 1 (encs ([] : List Int))) :: L) (List.Sublist.cons_cons _ (List.Sublist.cons _ (List.Sublist.cons_cons _ (List.Sublist.cons_cons _ (List.Sublist.cons_cons _ (List.Sublist.cons_cons _ (List.Sublist.cons_cons _ (List.Sublist.cons_cons _ (List.Sublist.cons_cons _ (List.Sublist.cons_cons _ (.refl _))))))))))) ?_
   refine hds inv (sc1 (sc1 (sk1 (sk1 (sk1 (sk1 (sk1 (sk1 (sk1 (.refl _)))))))))) ?_
   refine HdJ.done (by kernel_rfl) ?_
   exact At.meetN ((MH.push s82 (List.length rs84) s116 s112), l83 ++ [(List.replicate n88 Lane.zero)], (rs84 ++ [(List.replicate n88 ((LaneR.mk Lane.zero Sl.nil) : LaneR))]), ({ y81 with now := l36, have_ := l34, recorded := l32 } : Game), s82.s) fl ⟨rfl, rfl, rfl, rfl, rfl, rfl, rfl, rfl, trivial⟩ rfl ⟨h110, hm117⟩
  refine HdStep.c (fun inv => ?_) trivial
  have g118 := mkLen_some h89
  have hm120 : (List.replicate n88 ((LaneR.mk Lane.zero Sl.nil) : LaneR)).map LaneR.v = (List.replicate n88 Lane.zero) := map_rep _ _
  refine Lst.make (α := LaneR) (z0 := ((LaneR.mk Lane.zero Sl.nil) : LaneR)) (k := n88) rfl rfl (by decide) (congrArg some (congrArg (Value.int .i64) g118.1)) (congrArg some (congrArg (Value.int .i64) g118.1)) Try.runUnderlying42 Try.typeInfo63 rfl rfl rfl rfl rfl g118.2 rfl (fun s119 => ?_)
  refine Lst.rowsNil Int 3 n88 ?_
  refine Lst.its (L' := (.rows (α := Int) 3 (List.map LaneR.row (List.replicate n88 ((LaneR.mk Lane.zero Sl.nil) : LaneR)))) :: (.own s119 63 3 (encs (List.replicate n88 ((LaneR.mk Lane.zero Sl.nil) : LaneR)))) :: (.blk b78 (enc (GameR.mk ({ y81 with now := l36, have_ := l34, recorded := l32, lanes := l83 } : Game) s35 s33 s31 s82.s)) 41) :: (.mat LaneR.row 42 63 3 s82 rs84 rs84) :: (.own s31 4 1 (encs l32)) :: (.own s33 3 1 (encs l34)) :: (.own s35 3 1 (encs l36)) :: (.blk b5 (enc (PictureR.mk ({ Picture.zero with Have := ([] : List Int), Lanes := ([] : List (List Int)), Now := ([] : List Int) } : Picture) Sl.nil Sl.nil Sl.nil)) 28) :: (.own Sl.nil 3 1 (encs ([] : List Int))) :: (.own Sl.nil 22 1 (encs ([] : List (LR Int)))) :: (.own Sl.nil 3 1 (encs ([] : List Int))) :: L) (by rw [List.map_replicate]; try rfl) ?_
  refine hds inv (sc1 (sc1 (sc1 (sc1 (sk1 (sk1 (sk1 (sk1 (sk1 (sk1 (sk1 (.refl _)))))))))))) ?_
  refine HdJ.step [4, 7] (by kernel_rfl) rfl ?_
  refine HdStep.c (fun inv => ?_) ?_
  ·refine Lst.r (Ev.load (i := 2) rfl rfl Try.isAgg39 (v := Sl.v s82.s) ((GameR.get_lanes gh0).off (by rfl))) ?_
   refine hds inv (sc1 (sc1 (sc1 (sc1 (sk1 (sk1 (sk1 (sk1 (sk1 (sk1 (sk1 (.refl _)))))))))))) ?_
   refine HdJ.o1 7 (fun inv => ?_)
   refine Lst.buildSlice (α := LR LaneR) (xs := [(⟨(List.replicate n88 ((LaneR.mk Lane.zero Sl.nil) : LaneR)), s119⟩ : LR LaneR)]) (pv := [(0, Sl.v s119)]) rfl rfl (by decide) ⟨rfl, rfl, trivial⟩ (run_buildSlice (α := LR LaneR) (z0 := (⟨[], Sl.nil⟩ : LR LaneR)) (xs := [(⟨(List.replicate n88 ((LaneR.mk Lane.zero Sl.nil) : LaneR)), s119⟩ : LR LaneR)]) Try.runUnderlying39 Try.sizeOf42 Try.zeroValue42 rfl rfl rfl (by decide) rfl (fill_cons (cs := encs (List.replicate 1 (⟨[], Sl.nil⟩ : LR LaneR))) (cs' := encs ((List.replicate 1 (⟨[], Sl.nil⟩ : LR LaneR)).set 0 (⟨(List.replicate n88 ((LaneR.mk Lane.zero Sl.nil) : LaneR)), s119⟩ : LR LaneR))) (vs := [Sl.v s119]) rfl rfl rfl ((Put.elemN (s := 1) (i := 0) (x := (⟨[], Sl.nil⟩ : LR LaneR)) (y := (⟨(List.replicate n88 ((LaneR.mk Lane.zero Sl.nil) : LaneR)), s119⟩ : LR LaneR)) rfl rfl (Put.here (vs := [Sl.v s119]) rfl)).off rfl) fill_nil)) rfl rfl (by decide) (fun s122 _ => ?_)
   refine Lst.its (L' := (.own s122 42 1 (encs [(⟨(List.replicate n88 ((LaneR.mk Lane.zero Sl.nil) : LaneR)), s119⟩ : LR LaneR)])) :: (.rows (α := Int) 3 (List.map LaneR.row (List.replicate n88 ((LaneR.mk Lane.zero Sl.nil) : LaneR)))) :: (.own s119 63 3 (encs (List.replicate n88 ((LaneR.mk Lane.zero Sl.nil) : LaneR)))) :: (.blk b78 (enc (GameR.mk ({ y81 with now := l36, have_ := l34, recorded := l32, lanes := l83 } : Game) s35 s33 s31 s82.s)) 41) :: (.mat LaneR.row 42 63 3 s82 rs84 rs84) :: (.own s31 4 1 (encs l32)) :: (.own s33 3 1 (encs l34)) :: (.own s35 3 1 (encs l36)) :: (.blk b5 (enc (PictureR.mk ({ Picture.zero with Have := ([] : List Int), Lanes := ([] : List (List Int)), Now := ([] : List Int) } : Picture) Sl.nil Sl.nil Sl.nil)) 28) :: (.own Sl.nil 3 1 (encs ([] : List Int))) :: (.own Sl.nil 22 1 (encs ([] : List (LR Int)))) :: (.own Sl.nil 3 1 (encs ([] : List Int))) :: L) rfl ?_
   refine hds inv (sc1 (sc1 (sc1 (sc1 (sc1 (sk1 (sk1 (sk1 (sk1 (sk1 (sk1 (sk1 (.refl _))))))))))))) ?_
   refine HdJ.o1 8 (fun inv => ?_)
   refine Lst.front (i := 1) rfl rfl ?_
   refine Lst.front (i := 2) rfl rfl ?_
   refine Lst.front (i := 4) rfl (L' := (.mat LaneR.row 42 63 3 s82 rs84 rs84) :: (.own s119 63 3 (encs (List.replicate n88 ((LaneR.mk Lane.zero Sl.nil) : LaneR)))) :: (.rows (α := Int) 3 (List.map LaneR.row (List.replicate n88 ((LaneR.mk Lane.zero Sl.nil) : LaneR)))) :: (.own s122 42 1 (encs [(⟨(List.replicate n88 ((LaneR.mk Lane.zero Sl.nil) : LaneR)), s119⟩ : LR LaneR)])) :: (.blk b78 (enc (GameR.mk ({ y81 with now := l36, have_ := l34, recorded := l32, lanes := l83 } : Game) s35 s33 s31 s82.s)) 41) :: (.own s31 4 1 (encs l32)) :: (.own s33 3 1 (encs l34)) :: (.own s35 3 1 (encs l36)) :: (.blk b5 (enc (PictureR.mk ({ Picture.zero with Have := ([] : List Int), Lanes := ([] : List (List Int)), Now := ([] : List Int) } : Picture) Sl.nil Sl.nil Sl.nil)) 28) :: (.own Sl.nil 3 1 (encs ([] : List Int))) :: (.own Sl.nil 22 1 (encs ([] : List (LR Int)))) :: (.own Sl.nil 3 1 (encs ([] : List Int))) :: L) rfl ?_
   have hm124 : List.map (List.map LaneR.v) (rs84 ++ [(List.replicate n88 ((LaneR.mk Lane.zero Sl.nil) : LaneR))]) = l83 ++ [(List.replicate n88 Lane.zero)] := map_app fm85 (congrArg (fun t => [t]) hm120)
   refine Lst.matAppend (row := LaneR.row) (s2 := s122) (h := s119) (r := (List.replicate n88 ((LaneR.mk Lane.zero Sl.nil) : LaneR))) rfl rfl (by decide) rfl rfl Try.runUnderlying39 Try.typeInfo42 rfl rfl rfl rfl (rdo 3 rfl rfl rfl) (by have := room_some h99; have := map_len fm85; simp only [List.length_cons, List.length_nil] at *; omega) rfl (fun s123 => ?_)
   refine Lst.less (L' := (.mat LaneR.row 42 63 3 (MH.push s82 (List.length rs84) s123 s119) (rs84 ++ [(List.replicate n88 ((LaneR.mk Lane.zero Sl.nil) : LaneR))]) (rs84 ++ [(List.replicate n88 ((LaneR.mk Lane.zero Sl.nil) : LaneR))])) :: (.blk b78 (enc (GameR.mk ({ y81 with now := l36, have_ := l34, recorded := l32 } : Game) s35 s33 s31 s82.s)) 41) :: (.own s31 4 1 (encs l32)) :: (.own s33 3 1 (encs l34)) :: (.own s35 3 1 (encs l36)) :: (.blk b5 (enc (PictureR.mk ({ Picture.zero with Have := ([] : List Int), Lanes := ([] : List (List Int)), Now := ([] : List Int) } : Picture) Sl.nil Sl.nil Sl.nil)) 28) :: (.own Sl.nil 3 1 (encs ([] : List Int))) :: (.own Sl.nil 22 1 (encs ([] : List (LR Int)))) :: (.own Sl.nil 3 1 (encs ([] : List Int))) :: L) (List.Sublist.cons_cons _ (List.Sublist.cons _ (List.Sublist.cons_cons _ (List.Sublist.cons_cons _ (List.Sublist.cons_cons _ (List.Sublist.cons_cons _ (List.Sublist.cons_cons _ (List.Sublist.cons_cons _ (List.Sublist.cons_cons _ (List.Sublist.cons_cons _ (.refl _))))))))))) ?_
   refine hds inv (sc1 (sc1 (sk1 (sk1 (sk1 (sk1 (sk1 (sk1 (sk1 (.refl _)))))))))) ?_
   refine HdJ.done (by kernel_rfl) ?_
   exact At.meetN ((MH.push s82 (List.length rs84) s123 s119), l83 ++ [(List.replicate n88 Lane.zero)], (rs84 ++ [(List.replicate n88 ((LaneR.mk Lane.zero Sl.nil) : LaneR))]), ({ y81 with now := l36, have_ := l34, recorded := l32 } : Game), s82.s) fl ⟨rfl, rfl, rfl, rfl, rfl, rfl, rfl, rfl, trivial⟩ rfl ⟨h110, hm124⟩
  refine HdStep.c (fun inv => ?_) trivial
  refine Lst.buildSlice (α := LR LaneR) (xs := [(⟨(List.replicate n88 ((LaneR.mk Lane.zero Sl.nil) : LaneR)), s119⟩ : LR LaneR)]) (pv := [(0, Sl.v s119)]) rfl rfl (by decide) ⟨rfl, rfl, trivial⟩ (run_buildSlice (α := LR LaneR) (z0 := (⟨[], Sl.nil⟩ : LR LaneR)) (xs := [(⟨(List.replicate n88 ((LaneR.mk Lane.zero Sl.nil) : LaneR)), s119⟩ : LR LaneR)]) Try.runUnderlying39 Try.sizeOf42 Try.zeroValue42 rfl rfl rfl (by decide) rfl (fill_cons (cs := encs (List.replicate 1 (⟨[], Sl.nil⟩ : LR LaneR))) (cs' := encs ((List.replicate 1 (⟨[], Sl.nil⟩ : LR LaneR)).set 0 (⟨(List.replicate n88 ((LaneR.mk Lane.zero Sl.nil) : LaneR)), s119⟩ : LR LaneR))) (vs := [Sl.v s119]) rfl rfl rfl ((Put.elemN (s := 1) (i := 0) (x := (⟨[], Sl.nil⟩ : LR LaneR)) (y := (⟨(List.replicate n88 ((LaneR.mk Lane.zero Sl.nil) : LaneR)), s119⟩ : LR LaneR)) rfl rfl (Put.here (vs := [Sl.v s119]) rfl)).off rfl) fill_nil)) rfl rfl (by decide) (fun s125 _ => ?_)
  refine Lst.its (L' := (.own s125 42 1 (encs [(⟨(List.replicate n88 ((LaneR.mk Lane.zero Sl.nil) : LaneR)), s119⟩ : LR LaneR)])) :: (.rows (α := Int) 3 (List.map LaneR.row (List.replicate n88 ((LaneR.mk Lane.zero Sl.nil) : LaneR)))) :: (.own s119 63 3 (encs (List.replicate n88 ((LaneR.mk Lane.zero Sl.nil) : LaneR)))) :: (.blk b78 (enc (GameR.mk ({ y81 with now := l36, have_ := l34, recorded := l32, lanes := l83 } : Game) s35 s33 s31 s82.s)) 41) :: (.mat LaneR.row 42 63 3 s82 rs84 rs84) :: (.own s31 4 1 (encs l32)) :: (.own s33 3 1 (encs l34)) :: (.own s35 3 1 (encs l36)) :: (.blk b5 (enc (PictureR.mk ({ Picture.zero with Have := ([] : List Int), Lanes := ([] : List (List Int)), Now := ([] : List Int) } : Picture) Sl.nil Sl.nil Sl.nil)) 28) :: (.own Sl.nil 3 1 (encs ([] : List Int))) :: (.own Sl.nil 22 1 (encs ([] : List (LR Int)))) :: (.own Sl.nil 3 1 (encs ([] : List Int))) :: L) rfl ?_
  refine hds inv (sc1 (sc1 (sc1 (sc1 (sc1 (sk1 (sk1 (sk1 (sk1 (sk1 (sk1 (sk1 (.refl _))))))))))))) ?_
  refine HdJ.o1 4 (fun inv => ?_)
  refine Lst.r (Ev.load (i := 3) rfl rfl Try.isAgg39 (v := Sl.v s82.s) ((GameR.get_lanes gh0).off (by rfl))) ?_
  refine hds inv (sc1 (sc1 (sc1 (sc1 (sc1 (sk1 (sk1 (sk1 (sk1 (sk1 (sk1 (sk1 (.refl _))))))))))))) ?_
  refine HdJ.o1 8 (fun inv => ?_)
  refine Lst.front (i := 1) rfl rfl ?_
  refine Lst.front (i := 2) rfl rfl ?_
  refine Lst.front (i := 4) rfl (L' := (.mat LaneR.row 42 63 3 s82 rs84 rs84) :: (.own s119 63 3 (encs (List.replicate n88 ((LaneR.mk Lane.zero Sl.nil) : LaneR)))) :: (.rows (α := Int) 3 (List.map LaneR.row (List.replicate n88 ((LaneR.mk Lane.zero Sl.nil) : LaneR)))) :: (.own s125 42 1 (encs [(⟨(List.replicate n88 ((LaneR.mk Lane.zero Sl.nil) : LaneR)), s119⟩ : LR LaneR)])) :: (.blk b78 (enc (GameR.mk ({ y81 with now := l36, have_ := l34, recorded := l32, lanes := l83 } : Game) s35 s33 s31 s82.s)) 41) :: (.own s31 4 1 (encs l32)) :: (.own s33 3 1 (encs l34)) :: (.own s35 3 1 (encs l36)) :: (.blk b5 (enc (PictureR.mk ({ Picture.zero with Have := ([] : List Int), Lanes := ([] : List (List Int)), Now := ([] : List Int) } : Picture) Sl.nil Sl.nil Sl.nil)) 28) :: (.own Sl.nil 3 1 (encs ([] : List Int))) :: (.own Sl.nil 22 1 (encs ([] : List (LR Int)))) :: (.own Sl.nil 3 1 (encs ([] : List Int))) :: L) rfl ?_
  have hm127 : List.map (List.map LaneR.v) (rs84 ++ [(List.replicate n88 ((LaneR.mk Lane.zero Sl.nil) : LaneR))]) = l83 ++ [(List.replicate n88 Lane.zero)] := map_app fm85 (congrArg (fun t => [t]) hm120)
  refine Lst.matAppend (row := LaneR.row) (s2 := s125) (h := s119) (r := (List.replicate n88 ((LaneR.mk Lane.zero Sl.nil) : LaneR))) rfl rfl (by decide) rfl rfl Try.runUnderlying39 Try.typeInfo42 rfl rfl rfl rfl (rdo 3 rfl rfl rfl) (by have := room_some h99; have := map_len fm85; simp only [List.length_cons, List.length_nil] at *; omega) rfl (fun s126 => ?_)
  refine Lst.less (L' := (.mat LaneR.row 42 63 3 (MH.push s82 (List.length rs84) s126 s119) (rs84 ++ [(List.replicate n88 ((LaneR.mk Lane.zero Sl.nil) : LaneR))]) (rs84 ++ [(List.replicate n88 ((LaneR.mk Lane.zero Sl.nil) : LaneR))])) :: (.blk b78 (enc (GameR.mk ({ y81 with now := l36, have_ := l34, recorded := l32 } : Game) s35 s33 s31 s82.s)) 41) :: (.own s31 4 1 (encs l32)) :: (.own s33 3 1 (encs l34)) :: (.own s35 3 1 (encs l36)) :: (.blk b5 (enc (PictureR.mk ({ Picture.zero with Have := ([] : List Int), Lanes := ([] : List (List Int)), Now := ([] : List Int) } : Picture) Sl.nil Sl.nil Sl.nil)) 28) :: (.own Sl.nil 3 1 (encs ([] : List Int))) :: (.own Sl.nil 22 1 (encs ([] : List (LR Int)))) :: (.own Sl.nil 3 1 (encs ([] : List Int))) :: L) (List.Sublist.cons_cons _ (List.Sublist.cons _ (List.Sublist.cons_cons _ (List.Sublist.cons_cons _ (List.Sublist.cons_cons _ (List.Sublist.cons_cons _ (List.Sublist.cons_cons _ (List.Sublist.cons_cons _ (List.Sublist.cons_cons _ (List.Sublist.cons_cons _ (.refl _))))))))))) ?_
  refine hds inv (sc1 (sc1 (sk1 (sk1 (sk1 (sk1 (sk1 (sk1 (sk1 (.refl _)))))))))) ?_
  refine HdJ.done (by kernel_rfl) ?_
  exact At.meetN ((MH.push s82 (List.length rs84) s126 s119), l83 ++ [(List.replicate n88 Lane.zero)], (rs84 ++ [(List.replicate n88 ((LaneR.mk Lane.zero Sl.nil) : LaneR))]), ({ y81 with now := l36, have_ := l34, recorded := l32 } : Game), s82.s) fl ⟨rfl, rfl, rfl, rfl, rfl, rfl, rfl, rfl, trivial⟩ rfl ⟨h110, hm127⟩
 rintro F128 ⟨s103, l104, rs105, y107, s108⟩ hF129 ⟨hy, fm106⟩
 subst hy
 try dsimp only at H
 refine Lst.as (e' := [(1, Sl.v s_a1), (4, pv b5 0), (7, iv (a0.length : Int)), (8, pv b78 0), (28, iv (a0.length : Int)), (29, iv (i80 : Int)), (31, pv b78 0), (39, Sl.v s103.s)]) (L' := (.mat LaneR.row 42 63 3 s103 rs105 rs105) :: (.blk b78 (enc (GameR.mk ({ y107 with now := l36, have_ := l34, recorded := l32 } : Game) s35 s33 s31 s108)) 41) :: (.own s31 4 1 (encs l32)) :: (.own s33 3 1 (encs l34)) :: (.own s35 3 1 (encs l36)) :: (.blk b5 (enc (PictureR.mk ({ Picture.zero with Have := ([] : List Int), Lanes := ([] : List (List Int)), Now := ([] : List Int) } : Picture) Sl.nil Sl.nil Sl.nil)) 28) :: (.own Sl.nil 3 1 (encs ([] : List Int))) :: (.own Sl.nil 22 1 (encs ([] : List (LR Int)))) :: (.own Sl.nil 3 1 (encs ([] : List Int))) :: L) ⟨rfl, rfl, rfl, rfl, rfl, rfl, rfl, rfl, trivial⟩ rfl ?_
 refine Lst.r (Ev.nilCheck rfl) ?_
 refine Lst.r (Ev.fieldAddr (off' := 3) rfl Try.runUnderlying41 rfl Try.sizeOf39 rfl rfl) ?_
 refine Lst.store (i := 1) rfl rfl rfl rfl rfl Try.sizeOf39 (vs := [Sl.v s103.s]) rfl rfl rfl (cs' := enc (GameR.mk ({ y107 with now := l36, have_ := l34, recorded := l32, lanes := l104 } : Game) s35 s33 s31 s103.s)) ((GameR.put_lanes (Put.here (vs := [Sl.v s103.s]) rfl)).off (by rfl)) (L' := (.mat LaneR.row 42 63 3 s103 rs105 rs105) :: (.blk b78 (enc (GameR.mk ({ y107 with now := l36, have_ := l34, recorded := l32, lanes := l104 } : Game) s35 s33 s31 s103.s)) 41) :: (.own s31 4 1 (encs l32)) :: (.own s33 3 1 (encs l34)) :: (.own s35 3 1 (encs l36)) :: (.blk b5 (enc (PictureR.mk ({ Picture.zero with Have := ([] : List Int), Lanes := ([] : List (List Int)), Now := ([] : List Int) } : Picture) Sl.nil Sl.nil Sl.nil)) 28) :: (.own Sl.nil 3 1 (encs ([] : List Int))) :: (.own Sl.nil 22 1 (encs ([] : List (LR Int)))) :: (.own Sl.nil 3 1 (encs ([] : List Int))) :: L) rfl ?_
 refine Lst.nil ?_
 refine At.in_normal ?_
 refine At.then ?_
 refine Cd.region ?_
 refine Lst.r (Ev.incr (by omega) rfl rfl) ?_
 refine mv0 rfl ?_
 refine Lst.nil ?_
 refine At.front (i := 1) rfl (L' := (.blk b78 (enc (GameR.mk ({ y107 with now := l36, have_ := l34, recorded := l32, lanes := l104 } : Game) s35 s33 s31 s103.s)) 41) :: (.mat LaneR.row 42 63 3 s103 rs105 rs105) :: (.own s31 4 1 (encs l32)) :: (.own s33 3 1 (encs l34)) :: (.own s35 3 1 (encs l36)) :: (.blk b5 (enc (PictureR.mk ({ Picture.zero with Have := ([] : List Int), Lanes := ([] : List (List Int)), Now := ([] : List Int) } : Picture) Sl.nil Sl.nil Sl.nil)) 28) :: (.own Sl.nil 3 1 (encs ([] : List Int))) :: (.own Sl.nil 22 1 (encs ([] : List (LR Int)))) :: (.own Sl.nil 3 1 (encs ([] : List Int))) :: L) rfl ?_
 exact At.meet (i80 + 1, k80, ({ y107 with now := l36, have_ := l34, recorded := l32, lanes := l104 } : Game), s103, l104, rs105) (FLe.trans hF87 hF129) ⟨rfl, rfl, rfl, rfl, rfl, rfl, trivial⟩ rfl ⟨⟨hgo80 _ (some_inj H).symm, by omega, fm106⟩, Nat.lt_succ_self _⟩
set_option maxRecDepth 20000 in
theorem slices_Equal_int_int_sim {a0 : List Int} {a1 : List Int} {s_a0 : Sl} {s_a1 : Sl} {r : Bool} (H : slices_Equal_int_int a0 a1 = some r) (w0 : World) (F : Frz) (M L : List Item) (hM : M.Sublist L) (hs_a0 : Rd w0 F M s_a0 a0) (hs_a1 : Rd w0 F M s_a1 a1) : Ok Try.prog w0 15 [Sl.v s_a0, Sl.v s_a1] F (L) (Is (.bool r) (L)) := by
 unfold slices_Equal_int_int at H
 refine Ok.enter (m := 2) (n := 26) Try.func15 rfl rfl rfl (by decide) ?_
 refine Cd.env (e' := [(0, Sl.v s_a0), (1, Sl.v s_a1)]) rfl ?_
 refine sr0 ?_
 refine Lst.r (Ev.assign rfl) ?_
 refine nt0 ?_
 refine Cd.seq ?_
 refine sr0 ?_
 refine mv0 rfl ?_
 refine Lst.r (Ev.lenS (α := Int) (xs := a0) (by decide) rfl rfl Try.runUnderlying22 (hs_a0.mono fl hM)) ?_
 refine mv0 rfl ?_
 refine Lst.r (Ev.lenS (α := Int) (xs := a1) (by decide) rfl rfl Try.runUnderlying22 (hs_a1.mono fl hM)) ?_
 refine Lst.r (Ev.neq rfl rfl) ?_
 refine nt0 ?_
 rcases Bool.eq_false_or_eq_true ((a0.length : Int) != (a1.length : Int)) with hb1 | hb1
 ·replace H := ite_t hb1 H
  refine Cd.condT rfl hb1 ?_
  refine sr0 ?_
  refine Lst.r (Ev.assign rfl) ?_
  refine nt0 ?_
  obtain rfl := some_inj H
  refine Cd.ret ?_
  refine At.then_ret ?_
  exact At.ret1 rfl (Res.tmp rfl) fl (.refl _) ⟨rfl, rfl⟩
 replace H := ite_f hb1 H
 refine Cd.condF rfl hb1 ?_
 refine Cd.skip ?_
 refine At.then ?_
 refine Cd.seq ?_
 refine sr0 ?_
 refine mv0 rfl ?_
 refine Lst.r (Ev.lenS (α := Int) (xs := a0) (by decide) rfl rfl Try.runUnderlying22 (hs_a0.mono fl hM)) ?_
 refine mv0 rfl ?_
 refine nt0 ?_
 refine Cd.block ?_
 refine Cd.bound (Rd.le (α := Int) (xs := a0) (by decide) (hs_a0.mono fl hM)) (fun hN12 => ?_)
 obtain ⟨ol2, H, HKl2⟩ := andThen_some H
 refine Cd.loop (σ := Nat × Nat × Unit) (fun (i2, k2, _u) => [(0, Sl.v s_a0), (1, Sl.v s_a1), (12, iv (a0.length : Int)), (13, iv (i2 : Int))]) (fun (i2, k2, _u) => L) (fun _ => (fun (i2, k2, _u) => rangeM (slices_Equal_int_int_B0 a0 a1) k2 i2 () = some ol2 ∧ i2 + k2 = a0.length)) (fun (i2, k2, _u) => k2) (0, a0.length, ()) ⟨rfl, rfl, rfl, rfl, trivial⟩ rfl ⟨H, by omega⟩ ?_
 rintro F3 ⟨i2, k2, _u⟩ hF4 ⟨H, hik2⟩
 refine Cd.as (e' := [(0, Sl.v s_a0), (1, Sl.v s_a1), (12, iv (a0.length : Int)), (13, iv (i2 : Int))]) (L' := L) ⟨rfl, rfl, rfl, rfl, trivial⟩ rfl ?_
 rcases k2 with _ | k2
 ·have hc2 : decide ((i2 : Int) < (a0.length : Int)) = false := decide_eq_false (by omega)
  replace H := rangeM_end H
  refine sr0 ?_
  refine Lst.r (Ev.lss rfl rfl) ?_
  refine nt0 ?_
  refine Cd.seq ?_
  refine Cd.condF rfl hc2 ?_
  refine Cd.exit ?_
  refine At.then_exit ?_
  refine At.then_exit ?_
  refine At.in_exit ?_
  subst H
  replace H := HKl2
  refine At.then ?_
  refine sr0 ?_
  refine Lst.r (Ev.assign rfl) ?_
  refine nt0 ?_
  obtain rfl := some_inj H
  refine Cd.ret ?_
  exact At.ret1 rfl (Res.tmp rfl) hF4 (.refl _) ⟨rfl, rfl⟩
 have hc2 : decide ((i2 : Int) < (a0.length : Int)) = true := decide_eq_true (by omega)
 obtain ⟨c2, H, hgo2, hbrk2, hret2⟩ := rangeM_go H
 unfold slices_Equal_int_int_B0 at H
 try dsimp only at H
 refine sr0 ?_
 refine Lst.r (Ev.lss rfl rfl) ?_
 refine nt0 ?_
 refine Cd.seq ?_
 refine Cd.condT rfl hc2 ?_
 refine Cd.skip ?_
 refine At.then ?_
 refine Cd.seq ?_
 refine Cd.block ?_
 refine sr0 ?_
 refine mv0 rfl ?_
 refine Lst.r (Ev.assign rfl) ?_
 refine nt0 ?_
 refine Cd.seq ?_
 refine Cd.quiet (by kernel_rfl) (by kernel_rfl) ?_
 refine Qt.r (Ev.move rfl) ?_
 refine Qt.r (Ev.move rfl) ?_
 obtain ⟨x5, h6, H⟩ := bind_some H
 have g7 := lat_some h6
 refine Qt.r (Ev.indexS (α := Int) (xs := a0) rfl rfl Try.runUnderlying22 Try.sizeOf3 rfl (by decide) (hs_a0.mono hF4 hM) g7.1 g7.2.1) ?_
 refine Qt.r (Ev.loadS (α := Int) rfl (hs_a0.mono hF4 hM) Try.isAgg3 (v := iv x5) ((Get.elemN (s := 1) (x := x5) rfl g7.2.2 gh0).off (by omega))) ?_
 refine Qt.r (Ev.move rfl) ?_
 refine Qt.r (Ev.move rfl) ?_
 obtain ⟨x8, h9, H⟩ := bind_some H
 have g10 := lat_some h9
 refine Qt.r (Ev.indexS (α := Int) (xs := a1) rfl rfl Try.runUnderlying22 Try.sizeOf3 rfl (by decide) (hs_a1.mono hF4 hM) g10.1 g10.2.1) ?_
 refine Qt.r (Ev.loadS (α := Int) rfl (hs_a1.mono hF4 hM) Try.isAgg3 (v := iv x8) ((Get.elemN (s := 1) (x := x8) rfl g10.2.2 gh0).off (by omega))) ?_
 refine Qt.r (Ev.neq rfl rfl) ?_
 refine Qt.done ?_
 refine At.then ?_
 rcases Bool.eq_false_or_eq_true (x5 != x8) with hb11 | hb11
 ·replace H := ite_t hb11 H
  refine Cd.condT rfl hb11 ?_
  refine Cd.seq ?_
  refine Cd.as (e' := []) (L' := L) trivial rfl ?_
  refine Cd.region ?_
  refine Lst.r (Ev.assign rfl) ?_
  refine nt0 ?_
  have H := hret2 _ (some_inj H).symm
  subst H
  replace H := HKl2
  obtain rfl := some_inj H
  refine Cd.ret ?_
  refine At.in_ret ?_
  refine At.then_ret ?_
  refine At.then_ret ?_
  refine At.in_ret ?_
  refine At.then_ret ?_
  exact At.ret1 rfl (Res.tmp rfl) hF4 (.refl _) ⟨rfl, rfl⟩
 replace H := ite_f hb11 H
 refine Cd.condF rfl hb11 ?_
 refine Cd.skip ?_
 refine At.in_normal ?_
 refine At.then ?_
 refine Cd.region ?_
 refine Lst.r (Ev.incr (by omega) rfl rfl) ?_
 refine mv0 rfl ?_
 refine Lst.nil ?_
 exact At.meet (i2 + 1, k2, ()) hF4 ⟨rfl, rfl, rfl, rfl, trivial⟩ rfl ⟨⟨hgo2 _ (some_inj H).symm, by omega⟩, Nat.lt_succ_self _⟩
end Go.Proofs.Ytnkfphbggemlbaa
