/-
  The functions compute their specs; printed by a program.
-/
import Derived.Test.YtobikknjaomalaaFlSp
import Derived.Test.YtobikknjaomalaaGoL
import Derived.Test.YtobikknjaomalaaGoK
import Derived.Test.YtobikknjaomalaaGoI
import Derived.Test.YtobikknjaomalaaGoU
import Derived.Test.YtobikknjaomalaaGoS
import Derived.Test.YtobikknjaomalaaGoR
import Derived.Test.YtobikknjaomalaaProg
namespace Go.Proofs.Ytobikknjaomalaa
open Go.RowKit Enc
set_option linter.unusedVariables false
set_option linter.unusedSimpArgs false
structure FlushR where
  v : Flush
  h2 : Vector (LR Int) 6
instance : Enc FlushR := ⟨fun p => enc p.v.View_ ++ (enc p.v.Gone ++ (enc p.h2)), 9, fun p => by simp only [List.length_append, Enc.len]; rfl, fun p => by simp only [List.all_append, Enc.one, Bool.and_self]⟩
theorem FlushR.get_View_ {p : FlushR} {k : Nat} {ch : List Value} (h : Get (enc p.v.View_) k ch) : Get (enc p) (0 + k) ch := Get.off (Get.left h) (by omega)
theorem FlushR.put_View_ {p : FlushR} {k : Nat} {vs : List Value} {y : View} (h : Put (enc p.v.View_) k vs (enc y)) : Put (enc p) (0 + k) vs (enc ({ p with v := { p.v with View_ := y } } : FlushR)) := Put.off (cs' := enc ({ p with v := { p.v with View_ := y } } : FlushR)) (Put.left h) (by omega)
theorem FlushR.get_Gone {p : FlushR} {k : Nat} {ch : List Value} (h : Get (enc p.v.Gone) k ch) : Get (enc p) (2 + k) ch := Get.off (Get.right (m := 2) (Enc.len _) (Get.left h)) (by omega)
theorem FlushR.put_Gone {p : FlushR} {k : Nat} {vs : List Value} {y : BitVec 8} (h : Put (enc p.v.Gone) k vs (enc y)) : Put (enc p) (2 + k) vs (enc ({ p with v := { p.v with Gone := y } } : FlushR)) := Put.off (cs' := enc ({ p with v := { p.v with Gone := y } } : FlushR)) (Put.right (m := 2) (Enc.len _) (Put.left h)) (by omega)
theorem FlushR.get_Told {p : FlushR} {k : Nat} {ch : List Value} (h : Get (enc p.h2) k ch) : Get (enc p) (3 + k) ch := Get.off (Get.right (m := 2) (Enc.len _) (Get.right (m := 1) (Enc.len _) h)) (by omega)
theorem FlushR.put_Told {p : FlushR} {k : Nat} {vs : List Value} {y : Vector (LR Int) 6} {l : Vector (List Int) 6} (h : Put (enc p.h2) k vs (enc y)) : Put (enc p) (3 + k) vs (enc ({ p with v := { p.v with Told := l }, h2 := y } : FlushR)) := Put.off (cs' := enc ({ p with v := { p.v with Told := l }, h2 := y } : FlushR)) (Put.right (m := 2) (Enc.len _) (Put.right (m := 1) (Enc.len _) h)) (by omega)
def FlushR.rel (w0 : World) (F : Frz) (L : List Item) (x : FlushR) : Prop := (x.h2.toList.map LR.v = x.v.Told.toList ∧ All LR.rel w0 F L x.h2.toList)
theorem FlushR.mono {w0 : World} {F F' : Frz} {L L' : List Item} {x : FlushR} (h : FlushR.rel w0 F L x) (hF : FLe F F') (hL : L.Sublist L') : FlushR.rel w0 F' L' x :=
  let h2 := h
  ⟨h2.1, All.monoLR h2.2 hF hL⟩
theorem All.monoFlush {w0 : World} {F F' : Frz} {L L' : List Item} {rs : List FlushR} (h : All FlushR.rel w0 F L rs) (hF : FLe F F') (hL : L.Sublist L') : All FlushR.rel w0 F' L' rs := fun x hx => FlushR.mono (h x hx) hF hL
set_option maxRecDepth 20000 in
theorem eq68 (x y : View) : ∀ w, (Op.equal 68 (.agg (enc x).toArray) (.agg (enc y).toArray)).run Try.prog w = .ok (decide (x = y)) w :=
  EqT.top (d := 10000) Try.isAgg68 Try.sizeOf68 rfl rfl (EqT.struct Try.isAgg68 Try.sizeOf68 rfl Try.runUnderlying68 (by kernel_rfl) (fun x y w => by
  refine Eq.trans (eqField (p := x.Num) (q := y.Num) rfl (EqT.int Try.isAgg3 Try.runUnderlying3) rfl ((View.get_Num (Get.here _)).off rfl) ((View.get_Num (Get.here _)).off rfl) (eqField (p := x.Members) (q := y.Members) rfl (EqT.u8 Try.isAgg5 Try.runUnderlying5) rfl ((View.get_Members (Get.here _)).off rfl) ((View.get_Members (Get.here _)).off rfl) (by rfl))) ?_
  congr 1
  rw [Bool.eq_iff_iff]; cases x; cases y; simp)) x y
set_option maxRecDepth 20000 in
theorem partref_ViewErr_sim {a0 : View} {r : Int} (H : partref_ViewErr a0 = some r) (w0 : World) (F : Frz) (M L : List Item) (hM : M.Sublist L) : Ok Try.prog w0 44 [.agg (enc a0).toArray] F (L) (Is (iv r) (L)) := by
 unfold partref_ViewErr at H
 refine Ok.enter (m := 1) (n := 21) Try.func44 rfl rfl rfl (by decide) ?_
 refine Cd.env (e' := [(0, .agg (enc a0).toArray)]) rfl ?_
 refine Cd.seq ?_
 refine Cd.region ?_
 refine Lst.box rfl rfl (by decide) rfl (cs := enc a0) rfl (fun b1 => ?_)
 refine Lst.r (Ev.assign rfl) ?_
 refine Lst.nil ?_
 refine At.then ?_
 refine Cd.seq ?_
 refine Cd.seq ?_
 refine Cd.region ?_
 refine Lst.r (Ev.fieldAddr (off' := 0) rfl Try.runUnderlying68 rfl Try.sizeOf3 rfl rfl) ?_
 refine Lst.r (Ev.load (i := 0) rfl rfl Try.isAgg3 (v := iv a0.Num) ((View.get_Num (Get.here _)).off (by rfl))) ?_
 refine Lst.r (Ev.lss rfl rfl) ?_
 refine Lst.r (Ev.move rfl) ?_
 obtain ⟨o3, H, HKo3⟩ := bind_some H
 refine Lst.join (σ := Bool) 4 (fun y4 => [(1, pv b1 0), (10, .bool y4)]) (fun y4 => (.blk b1 (enc a0) 68) :: L) (fun _ y4 => y4 = o3) ?_ ?_
 ·rcases Bool.eq_false_or_eq_true (decide (a0.Num < (0 : Int))) with hb5 | hb5
  ·replace H := ite_t hb5 H
   refine Lst.skip rfl rfl rfl hb5 rfl (by decide) ?_
   refine Lst.skip rfl rfl rfl hb5 rfl (by decide) ?_
   refine Lst.skip rfl rfl rfl hb5 rfl (by decide) ?_
   refine Lst.r (Ev.pickT rfl hb5 rfl) ?_
   refine Lst.nil ?_
   exact At.meet true (FLe.refl _) ⟨rfl, rfl, trivial⟩ rfl (some_inj H)
  replace H := ite_f hb5 H
  refine Lst.rG hb5 (Ev.fieldAddr (off' := 0) rfl Try.runUnderlying68 rfl Try.sizeOf3 rfl rfl) ?_
  refine Lst.rG hb5 (Ev.load (i := 0) rfl rfl Try.isAgg3 (v := iv a0.Num) ((View.get_Num (Get.here _)).off (by rfl))) ?_
  refine Lst.rG hb5 (Ev.gtr rfl rfl) ?_
  refine Lst.r (Ev.pickF rfl hb5 rfl) ?_
  refine Lst.nil ?_
  exact At.meet (decide (a0.Num > (16777215 : Int))) (FLe.refl _) ⟨rfl, rfl, trivial⟩ rfl (some_inj H)
 rintro F6 y4 hF7 hy
 subst hy
 refine Lst.as (e' := [(1, pv b1 0), (10, .bool y4)]) (L' := (.blk b1 (enc a0) 68) :: L) ⟨rfl, rfl, trivial⟩ rfl ?_
 replace H := HKo3
 refine Lst.r (Ev.move rfl) ?_
 obtain ⟨o8, H, HKo8⟩ := bind_some H
 refine Lst.join (σ := Bool) 4 (fun y9 => [(1, pv b1 0), (15, .bool y9)]) (fun y9 => (.blk b1 (enc a0) 68) :: L) (fun _ y9 => y9 = o8) ?_ ?_
 ·rcases Bool.eq_false_or_eq_true y4 with hb10 | hb10
  ·replace H := ite_t hb10 H
   refine Lst.skip rfl rfl rfl hb10 rfl (by decide) ?_
   refine Lst.skip rfl rfl rfl hb10 rfl (by decide) ?_
   refine Lst.skip rfl rfl rfl hb10 rfl (by decide) ?_
   refine Lst.r (Ev.pickT rfl hb10 rfl) ?_
   refine Lst.nil ?_
   exact At.meet true (FLe.refl _) ⟨rfl, rfl, trivial⟩ rfl (some_inj H)
  replace H := ite_f hb10 H
  refine Lst.rG hb10 (Ev.fieldAddr (off' := 1) rfl Try.runUnderlying68 rfl Try.sizeOf5 rfl rfl) ?_
  refine Lst.rG hb10 (Ev.load (i := 0) rfl rfl Try.isAgg5 (v := .int .u8 a0.Members.toNat) ((View.get_Members (Get.here _)).off (by rfl))) ?_
  refine Lst.rG hb10 (Ev.lss rfl rfl) ?_
  refine Lst.r (Ev.pickF rfl hb10 rfl) ?_
  refine Lst.nil ?_
  exact At.meet (decide ((a0.Members.toNat : Int) < ((1 : BitVec 8).toNat : Int))) (FLe.refl _) ⟨rfl, rfl, trivial⟩ rfl (some_inj H)
 rintro F11 y9 hF12 hy
 subst hy
 refine Lst.as (e' := [(1, pv b1 0), (15, .bool y9)]) (L' := (.blk b1 (enc a0) 68) :: L) ⟨rfl, rfl, trivial⟩ rfl ?_
 replace H := HKo8
 refine Lst.r (Ev.move rfl) ?_
 obtain ⟨o13, H, HKo13⟩ := bind_some H
 refine Lst.join (σ := Bool) 4 (fun y14 => [(20, .bool y14)]) (fun y14 => (.blk b1 (enc a0) 68) :: L) (fun _ y14 => y14 = o13) ?_ ?_
 ·rcases Bool.eq_false_or_eq_true y9 with hb15 | hb15
  ·replace H := ite_t hb15 H
   refine Lst.skip rfl rfl rfl hb15 rfl (by decide) ?_
   refine Lst.skip rfl rfl rfl hb15 rfl (by decide) ?_
   refine Lst.skip rfl rfl rfl hb15 rfl (by decide) ?_
   refine Lst.r (Ev.pickT rfl hb15 rfl) ?_
   refine Lst.nil ?_
   exact At.meet true (FLe.refl _) ⟨rfl, trivial⟩ rfl (some_inj H)
  replace H := ite_f hb15 H
  refine Lst.rG hb15 (Ev.fieldAddr (off' := 1) rfl Try.runUnderlying68 rfl Try.sizeOf5 rfl rfl) ?_
  refine Lst.rG hb15 (Ev.load (i := 0) rfl rfl Try.isAgg5 (v := .int .u8 a0.Members.toNat) ((View.get_Members (Get.here _)).off (by rfl))) ?_
  refine Lst.rG hb15 (Ev.gtr rfl rfl) ?_
  refine Lst.r (Ev.pickF rfl hb15 rfl) ?_
  refine Lst.nil ?_
  exact At.meet (decide ((a0.Members.toNat : Int) > ((63 : BitVec 8).toNat : Int))) (FLe.refl _) ⟨rfl, trivial⟩ rfl (some_inj H)
 rintro F16 y14 hF17 hy
 subst hy
 refine Lst.as (e' := [(20, .bool y14)]) (L' := (.blk b1 (enc a0) 68) :: L) ⟨rfl, trivial⟩ rfl ?_
 replace H := HKo13
 refine Lst.nil ?_
 refine At.then ?_
 rcases Bool.eq_false_or_eq_true y14 with hb18 | hb18
 ·replace H := ite_t hb18 H
  refine Cd.condT rfl hb18 ?_
  refine Cd.seq ?_
  refine Cd.region ?_
  refine Lst.r (Ev.assign rfl) ?_
  refine Lst.nil ?_
  refine At.then ?_
  obtain rfl := some_inj H
  refine Cd.ret ?_
  refine At.then_ret ?_
  exact At.ret1 rfl (Res.tmp rfl) (FLe.trans (FLe.trans hF7 hF12) hF17) (sc1 (.refl _)) ⟨rfl, rfl⟩
 replace H := ite_f hb18 H
 refine Cd.condF rfl hb18 ?_
 refine Cd.skip ?_
 refine At.then ?_
 refine Cd.seq ?_
 refine Cd.region ?_
 refine Lst.r (Ev.assign rfl) ?_
 refine Lst.nil ?_
 refine At.then ?_
 obtain rfl := some_inj H
 refine Cd.ret ?_
 exact At.ret1 rfl (Res.tmp rfl) (FLe.trans (FLe.trans hF7 hF12) hF17) (sc1 (.refl _)) ⟨rfl, rfl⟩
set_option maxRecDepth 20000 in
theorem slices_Index_int_int_sim {a0 : List Int} {a1 : Int} {s_a0 : Sl} {r : Int} (H : slices_Index_int_int a0 a1 = some r) (w0 : World) (F : Frz) (M L : List Item) (hM : M.Sublist L) (hs_a0 : Rd w0 F M s_a0 a0) : Ok Try.prog w0 95 [Sl.v s_a0, iv a1] F (L) (Is (iv r) (L)) := by
 unfold slices_Index_int_int at H
 refine Ok.enter (m := 2) (n := 19) Try.func95 rfl rfl rfl (by decide) ?_
 refine Cd.env (e' := [(0, Sl.v s_a0), (1, iv a1)]) rfl ?_
 refine Cd.seq ?_
 refine Cd.region ?_
 refine Lst.r (Ev.assign rfl) ?_
 refine Lst.nil ?_
 refine At.then ?_
 refine Cd.seq ?_
 refine Cd.seq ?_
 refine Cd.region ?_
 refine Lst.r (Ev.move rfl) ?_
 refine Lst.r (Ev.lenS (α := Int) (xs := a0) (by decide) rfl rfl Try.runUnderlying36 (hs_a0.mono (FLe.refl _) hM)) ?_
 refine Lst.r (Ev.move rfl) ?_
 refine Lst.nil ?_
 refine At.then ?_
 refine Cd.block ?_
 refine Cd.bound (Rd.le (α := Int) (xs := a0) (by decide) (hs_a0.mono (FLe.refl _) hM)) (fun hN8 => ?_)
 obtain ⟨ol1, H, HKl1⟩ := andThen_some H
 refine Cd.loop (σ := Nat × Nat × Unit) (fun (i1, k1, _u) => [(0, Sl.v s_a0), (1, iv a1), (7, iv (a0.length : Int)), (8, iv (i1 : Int))]) (fun (i1, k1, _u) => L) (fun _ => (fun (i1, k1, _u) => rangeM (slices_Index_int_int_B0 a0 a1) k1 i1 () = some ol1 ∧ i1 + k1 = a0.length)) (fun (i1, k1, _u) => k1) (0, a0.length, ()) ⟨rfl, rfl, rfl, rfl, trivial⟩ rfl ⟨H, by omega⟩ ?_
 rintro F2 ⟨i1, k1, _u⟩ hF3 ⟨H, hik1⟩
 refine Cd.as (e' := [(0, Sl.v s_a0), (1, iv a1), (7, iv (a0.length : Int)), (8, iv (i1 : Int))]) (L' := L) ⟨rfl, rfl, rfl, rfl, trivial⟩ rfl ?_
 rcases k1 with _ | k1
 ·have hc1 : decide ((i1 : Int) < (a0.length : Int)) = false := decide_eq_false (by omega)
  replace H := rangeM_end H
  refine Cd.seq ?_
  refine Cd.region ?_
  refine Lst.r (Ev.lss rfl rfl) ?_
  refine Lst.nil ?_
  refine At.then ?_
  refine Cd.seq ?_
  refine Cd.condF rfl hc1 ?_
  refine Cd.exit ?_
  refine At.then_exit ?_
  refine At.then_exit ?_
  refine At.in_exit ?_
  subst H
  replace H := HKl1
  refine At.then ?_
  refine Cd.seq ?_
  refine Cd.region ?_
  refine Lst.r (Ev.assign rfl) ?_
  refine Lst.nil ?_
  refine At.then ?_
  obtain rfl := some_inj H
  refine Cd.ret ?_
  exact At.ret1 rfl (Res.tmp rfl) hF3 (.refl _) ⟨rfl, rfl⟩
 have hc1 : decide ((i1 : Int) < (a0.length : Int)) = true := decide_eq_true (by omega)
 obtain ⟨c1, H, hgo1, hbrk1, hret1⟩ := rangeM_go H
 unfold slices_Index_int_int_B0 at H
 try dsimp only at H
 refine Cd.seq ?_
 refine Cd.region ?_
 refine Lst.r (Ev.lss rfl rfl) ?_
 refine Lst.nil ?_
 refine At.then ?_
 refine Cd.seq ?_
 refine Cd.condT rfl hc1 ?_
 refine Cd.skip ?_
 refine At.then ?_
 refine Cd.seq ?_
 refine Cd.block ?_
 refine Cd.seq ?_
 refine Cd.region ?_
 refine Lst.r (Ev.move rfl) ?_
 refine Lst.r (Ev.assign rfl) ?_
 refine Lst.nil ?_
 refine At.then ?_
 refine Cd.seq ?_
 refine Cd.region ?_
 refine Lst.r (Ev.move rfl) ?_
 refine Lst.r (Ev.move rfl) ?_
 refine Lst.r (Ev.move rfl) ?_
 obtain ⟨x4, h5, H⟩ := bind_some H
 have g6 := lat_some h5
 refine Lst.r (Ev.indexS (α := Int) (xs := a0) rfl rfl Try.runUnderlying36 Try.sizeOf3 rfl (by decide) (hs_a0.mono hF3 hM) g6.1 g6.2.1) ?_
 refine Lst.r (Ev.loadS (α := Int) rfl (hs_a0.mono hF3 hM) Try.isAgg3 (v := iv x4) ((Get.elemN (s := 1) (x := x4) rfl g6.2.2 (Get.here _)).off (by omega))) ?_
 refine Lst.r (Ev.eql rfl rfl) ?_
 refine Lst.nil ?_
 refine At.then ?_
 rcases Bool.eq_false_or_eq_true (a1 == x4) with hb7 | hb7
 ·replace H := ite_t hb7 H
  refine Cd.condT rfl hb7 ?_
  refine Cd.seq ?_
  refine Cd.region ?_
  refine Lst.r (Ev.move rfl) ?_
  refine Lst.r (Ev.assign rfl) ?_
  refine Lst.nil ?_
  refine At.then ?_
  have H := hret1 _ (some_inj H).symm
  subst H
  replace H := HKl1
  obtain rfl := some_inj H
  refine Cd.ret ?_
  refine At.in_ret ?_
  refine At.then_ret ?_
  refine At.then_ret ?_
  refine At.in_ret ?_
  refine At.then_ret ?_
  exact At.ret1 rfl (Res.tmp rfl) hF3 (.refl _) ⟨rfl, rfl⟩
 replace H := ite_f hb7 H
 refine Cd.condF rfl hb7 ?_
 refine Cd.skip ?_
 refine At.in_normal ?_
 refine At.then ?_
 refine Cd.region ?_
 refine Lst.r (Ev.incr (by omega) rfl rfl) ?_
 refine Lst.r (Ev.move rfl) ?_
 refine Lst.nil ?_
 exact At.meet (i1 + 1, k1, ()) hF3 ⟨rfl, rfl, rfl, rfl, trivial⟩ rfl ⟨⟨hgo1 _ (some_inj H).symm, by omega⟩, Nat.lt_succ_self _⟩
set_option maxRecDepth 20000 in
theorem partref_twice_sim {a0 : List Int} {s_a0 : Sl} {r : Bool} (H : partref_twice a0 = some r) (w0 : World) (F : Frz) (M L : List Item) (hM : M.Sublist L) (hs_a0 : Rd w0 F M s_a0 a0) : Ok Try.prog w0 120 [Sl.v s_a0] F (L) (Is (.bool r) (L)) := by
 unfold partref_twice at H
 refine Ok.enter (m := 1) (n := 26) Try.func120 rfl rfl rfl (by decide) ?_
 refine Cd.env (e' := [(0, Sl.v s_a0)]) rfl ?_
 refine Cd.seq ?_
 refine Cd.region ?_
 refine Lst.r (Ev.assign rfl) ?_
 refine Lst.nil ?_
 refine At.then ?_
 refine Cd.seq ?_
 refine Cd.seq ?_
 refine Cd.region ?_
 refine Lst.r (Ev.move rfl) ?_
 refine Lst.r (Ev.lenS (α := Int) (xs := a0) (by decide) rfl rfl Try.runUnderlying36 (hs_a0.mono (FLe.refl _) hM)) ?_
 refine Lst.r (Ev.move rfl) ?_
 refine Lst.nil ?_
 refine At.then ?_
 refine Cd.block ?_
 refine Cd.bound (Rd.le (α := Int) (xs := a0) (by decide) (hs_a0.mono (FLe.refl _) hM)) (fun hN22 => ?_)
 obtain ⟨ol1, H, HKl1⟩ := andThen_some H
 refine Cd.loop (σ := Nat × Nat × Unit) (fun (i1, k1, _u) => [(0, Sl.v s_a0), (5, Sl.v s_a0), (6, iv (a0.length : Int)), (7, iv (i1 : Int))]) (fun (i1, k1, _u) => L) (fun _ => (fun (i1, k1, _u) => rangeM (partref_twice_B0 a0) k1 i1 () = some ol1 ∧ i1 + k1 = a0.length)) (fun (i1, k1, _u) => k1) (0, a0.length, ()) ⟨rfl, rfl, rfl, rfl, trivial⟩ rfl ⟨H, by omega⟩ ?_
 rintro F2 ⟨i1, k1, _u⟩ hF3 ⟨H, hik1⟩
 refine Cd.as (e' := [(0, Sl.v s_a0), (5, Sl.v s_a0), (6, iv (a0.length : Int)), (7, iv (i1 : Int))]) (L' := L) ⟨rfl, rfl, rfl, rfl, trivial⟩ rfl ?_
 rcases k1 with _ | k1
 ·have hc1 : decide ((i1 : Int) < (a0.length : Int)) = false := decide_eq_false (by omega)
  replace H := rangeM_end H
  refine Cd.seq ?_
  refine Cd.region ?_
  refine Lst.r (Ev.lss rfl rfl) ?_
  refine Lst.nil ?_
  refine At.then ?_
  refine Cd.seq ?_
  refine Cd.condF rfl hc1 ?_
  refine Cd.exit ?_
  refine At.then_exit ?_
  refine At.then_exit ?_
  refine At.in_exit ?_
  subst H
  replace H := HKl1
  refine At.then ?_
  refine Cd.seq ?_
  refine Cd.region ?_
  refine Lst.r (Ev.assign rfl) ?_
  refine Lst.nil ?_
  refine At.then ?_
  obtain rfl := some_inj H
  refine Cd.ret ?_
  exact At.ret1 rfl (Res.tmp rfl) hF3 (.refl _) ⟨rfl, rfl⟩
 have hc1 : decide ((i1 : Int) < (a0.length : Int)) = true := decide_eq_true (by omega)
 obtain ⟨c1, H, hgo1, hbrk1, hret1⟩ := rangeM_go H
 unfold partref_twice_B0 at H
 try dsimp only at H
 refine Cd.seq ?_
 refine Cd.region ?_
 refine Lst.r (Ev.lss rfl rfl) ?_
 refine Lst.nil ?_
 refine At.then ?_
 refine Cd.seq ?_
 refine Cd.condT rfl hc1 ?_
 refine Cd.skip ?_
 refine At.then ?_
 refine Cd.seq ?_
 refine Cd.block ?_
 refine Cd.seq ?_
 refine Cd.region ?_
 refine Lst.r (Ev.move rfl) ?_
 obtain ⟨x4, h5, H⟩ := bind_some H
 have g6 := lat_some h5
 refine Lst.r (Ev.indexS (α := Int) (xs := a0) rfl rfl Try.runUnderlying36 Try.sizeOf3 rfl (by decide) (hs_a0.mono hF3 hM) g6.1 g6.2.1) ?_
 refine Lst.r (Ev.loadS (α := Int) rfl (hs_a0.mono hF3 hM) Try.isAgg3 (v := iv x4) ((Get.elemN (s := 1) (x := x4) rfl g6.2.2 (Get.here _)).off (by omega))) ?_
 refine Lst.r (Ev.assign rfl) ?_
 refine Lst.r (Ev.assign rfl) ?_
 refine Lst.nil ?_
 refine At.then ?_
 refine Cd.seq ?_
 refine Cd.region ?_
 refine Lst.r (Ev.move rfl) ?_
 refine Lst.r (Ev.lss rfl rfl) ?_
 refine Lst.r (Ev.move rfl) ?_
 obtain ⟨o7, H, HKo7⟩ := bind_some H
 refine Lst.join (σ := Bool) 3 (fun y8 => [(0, Sl.v s_a0), (3, iv (i1 : Int)), (4, iv x4), (5, Sl.v s_a0), (6, iv (a0.length : Int)), (7, iv (i1 : Int)), (17, .bool y8)]) (fun y8 => L) (fun _ y8 => y8 = o7) ?_ ?_
 ·rcases Bool.eq_false_or_eq_true (decide (x4 < (0 : Int))) with hb9 | hb9
  ·replace H := ite_t hb9 H
   refine Lst.skip rfl rfl rfl hb9 rfl (by decide) ?_
   refine Lst.skip rfl rfl rfl hb9 rfl (by decide) ?_
   refine Lst.r (Ev.pickT rfl hb9 rfl) ?_
   refine Lst.nil ?_
   exact At.meet true (FLe.refl _) ⟨rfl, rfl, rfl, rfl, rfl, rfl, rfl, trivial⟩ rfl (some_inj H)
  replace H := ite_f hb9 H
  refine Lst.rG hb9 (Ev.move rfl) ?_
  refine Lst.rG hb9 (Ev.gtr rfl rfl) ?_
  refine Lst.r (Ev.pickF rfl hb9 rfl) ?_
  refine Lst.nil ?_
  exact At.meet (decide (x4 > (29 : Int))) (FLe.refl _) ⟨rfl, rfl, rfl, rfl, rfl, rfl, rfl, trivial⟩ rfl (some_inj H)
 rintro F10 y8 hF11 hy
 subst hy
 refine Lst.as (e' := [(0, Sl.v s_a0), (3, iv (i1 : Int)), (4, iv x4), (5, Sl.v s_a0), (6, iv (a0.length : Int)), (7, iv (i1 : Int)), (17, .bool y8)]) (L' := L) ⟨rfl, rfl, rfl, rfl, rfl, rfl, rfl, trivial⟩ rfl ?_
 replace H := HKo7
 refine Lst.r (Ev.move rfl) ?_
 obtain ⟨o12, H, HKo12⟩ := bind_some H
 refine Lst.join (σ := Bool) 6 (fun y13 => [(0, Sl.v s_a0), (5, Sl.v s_a0), (6, iv (a0.length : Int)), (7, iv (i1 : Int)), (24, .bool y13)]) (fun y13 => L) (fun _ y13 => y13 = o12) ?_ ?_
 ·rcases Bool.eq_false_or_eq_true y8 with hb14 | hb14
  ·replace H := ite_t hb14 H
   refine Lst.skip rfl rfl rfl hb14 rfl (by decide) ?_
   refine Lst.skip rfl rfl rfl hb14 rfl (by decide) ?_
   refine Lst.skip rfl rfl rfl hb14 rfl (by decide) ?_
   refine Lst.skip rfl rfl rfl hb14 rfl (by decide) ?_
   refine Lst.skip rfl rfl rfl hb14 rfl (by decide) ?_
   refine Lst.r (Ev.pickT rfl hb14 rfl) ?_
   refine Lst.nil ?_
   exact At.meet true (FLe.refl _) ⟨rfl, rfl, rfl, rfl, rfl, trivial⟩ rfl (some_inj H)
  replace H := ite_f hb14 H
  refine Lst.rG hb14 (Ev.move rfl) ?_
  refine Lst.rG hb14 (Ev.move rfl) ?_
  obtain ⟨r15, h16, H⟩ := bind_some H
  refine Lst.call1G rfl rfl rfl hb14 rfl (by decide) (vs := [Sl.v s_a0, iv x4]) ⟨rfl, rfl, trivial⟩ Try.call95 (slices_Index_int_int_sim h16 w0 _ M _ hM (hs_a0.mono (FLe.trans hF3 hF11) (.refl _))) ?_
  refine Lst.rG hb14 (Ev.move rfl) ?_
  refine Lst.rG hb14 (Ev.neq rfl rfl) ?_
  refine Lst.r (Ev.pickF rfl hb14 rfl) ?_
  refine Lst.nil ?_
  exact At.meet (r15 != (i1 : Int)) (FLe.refl _) ⟨rfl, rfl, rfl, rfl, rfl, trivial⟩ rfl (some_inj H)
 rintro F19 y13 hF20 hy
 subst hy
 refine Lst.as (e' := [(0, Sl.v s_a0), (5, Sl.v s_a0), (6, iv (a0.length : Int)), (7, iv (i1 : Int)), (24, .bool y13)]) (L' := L) ⟨rfl, rfl, rfl, rfl, rfl, trivial⟩ rfl ?_
 replace H := HKo12
 refine Lst.nil ?_
 refine At.then ?_
 rcases Bool.eq_false_or_eq_true y13 with hb21 | hb21
 ·replace H := ite_t hb21 H
  refine Cd.condT rfl hb21 ?_
  refine Cd.seq ?_
  refine Cd.region ?_
  refine Lst.r (Ev.assign rfl) ?_
  refine Lst.nil ?_
  refine At.then ?_
  have H := hret1 _ (some_inj H).symm
  subst H
  replace H := HKl1
  obtain rfl := some_inj H
  refine Cd.ret ?_
  refine At.in_ret ?_
  refine At.then_ret ?_
  refine At.then_ret ?_
  refine At.in_ret ?_
  refine At.then_ret ?_
  exact At.ret1 rfl (Res.tmp rfl) (FLe.trans (FLe.trans hF3 hF11) hF20) (.refl _) ⟨rfl, rfl⟩
 replace H := ite_f hb21 H
 refine Cd.condF rfl hb21 ?_
 refine Cd.skip ?_
 refine At.in_normal ?_
 refine At.then ?_
 refine Cd.region ?_
 refine Lst.r (Ev.incr (by omega) rfl rfl) ?_
 refine Lst.r (Ev.move rfl) ?_
 refine Lst.nil ?_
 exact At.meet (i1 + 1, k1, ()) (FLe.trans (FLe.trans hF3 hF11) hF20) ⟨rfl, rfl, rfl, rfl, trivial⟩ rfl ⟨⟨hgo1 _ (some_inj H).symm, by omega⟩, Nat.lt_succ_self _⟩
set_option maxRecDepth 20000 in
theorem partref_FlushErr_sim {a0 : Flush} {rs_a0_2 : Vector (LR Int) 6} {r : Int} (H : partref_FlushErr a0 = some r) (w0 : World) (F : Frz) (M L : List Item) (hM : M.Sublist L) (hm_a0_2 : rs_a0_2.toList.map LR.v = a0.Told.toList) (ha_a0_2 : All LR.rel w0 F M rs_a0_2.toList) : Ok Try.prog w0 39 [.agg (enc (FlushR.mk a0 rs_a0_2)).toArray] F (L) (Is (iv r) (L)) := by
 unfold partref_FlushErr at H
 refine Ok.enter (m := 1) (n := 48) Try.func39 rfl rfl rfl (by decide) ?_
 refine Cd.env (e' := [(0, .agg (enc (FlushR.mk a0 rs_a0_2)).toArray)]) rfl ?_
 refine Cd.seq ?_
 refine Cd.region ?_
 refine Lst.box rfl rfl (by decide) rfl (cs := enc (FlushR.mk a0 rs_a0_2)) rfl (fun b1 => ?_)
 refine Lst.r (Ev.assign rfl) ?_
 refine Lst.nil ?_
 refine At.then ?_
 refine Cd.seq ?_
 refine Cd.seq ?_
 refine Cd.region ?_
 refine Lst.r (Ev.fieldAddr (off' := 0) rfl Try.runUnderlying71 rfl Try.sizeOf68 rfl rfl) ?_
 refine Lst.r (Ev.loadA (i := 0) rfl rfl Try.isAgg68 Try.sizeOf68 (ch := enc a0.View_) (Enc.len _) ((FlushR.get_View_ (Get.here _)).off (by rfl))) ?_
 obtain ⟨r3, h4, H⟩ := bind_some H
 refine Lst.call1 rfl rfl (by decide) (vs := [.agg (enc a0.View_).toArray]) ⟨rfl, trivial⟩ Try.call44 (partref_ViewErr_sim h4 w0 _ M _ (sc1 hM)) ?_
 refine Lst.r (Ev.assign rfl) ?_
 refine Lst.nil ?_
 refine At.then ?_
 refine Cd.seq ?_
 refine Cd.region ?_
 refine Lst.r (Ev.move rfl) ?_
 refine Lst.r (Ev.neq rfl rfl) ?_
 refine Lst.nil ?_
 refine At.then ?_
 rcases Bool.eq_false_or_eq_true (r3 != (0 : Int)) with hb7 | hb7
 ·replace H := ite_t hb7 H
  refine Cd.condT rfl hb7 ?_
  refine Cd.seq ?_
  refine Cd.region ?_
  refine Lst.r (Ev.move rfl) ?_
  refine Lst.r (Ev.assign rfl) ?_
  refine Lst.nil ?_
  refine At.then ?_
  obtain rfl := some_inj H
  refine Cd.ret ?_
  refine At.then_ret ?_
  exact At.ret1 rfl (Res.tmp rfl) (FLe.refl _) (sc1 (.refl _)) ⟨rfl, rfl⟩
 replace H := ite_f hb7 H
 refine Cd.condF rfl hb7 ?_
 refine Cd.skip ?_
 refine At.then ?_
 refine Cd.seq ?_
 refine Cd.seq ?_
 refine Cd.region ?_
 refine Lst.r (Ev.fieldAddr (off' := 2) rfl Try.runUnderlying71 rfl Try.sizeOf5 rfl rfl) ?_
 refine Lst.r (Ev.load (i := 0) rfl rfl Try.isAgg5 (v := .int .u8 a0.Gone.toNat) ((FlushR.get_Gone (Get.here _)).off (by rfl))) ?_
 refine Lst.r (Ev.fieldAddr (off' := 0) rfl Try.runUnderlying71 rfl Try.sizeOf68 rfl rfl) ?_
 refine Lst.r (Ev.fieldAddr (off' := 1) rfl Try.runUnderlying68 rfl Try.sizeOf5 rfl rfl) ?_
 refine Lst.r (Ev.load (i := 0) rfl rfl Try.isAgg5 (v := .int .u8 a0.View_.Members.toNat) ((FlushR.get_View_ (View.get_Members (Get.here _))).off (by rfl))) ?_
 refine Lst.r (Ev.orU8 (i := a0.Gone) (j := a0.View_.Members) rfl rfl) ?_
 refine Lst.r (Ev.fieldAddr (off' := 0) rfl Try.runUnderlying71 rfl Try.sizeOf68 rfl rfl) ?_
 refine Lst.r (Ev.fieldAddr (off' := 1) rfl Try.runUnderlying68 rfl Try.sizeOf5 rfl rfl) ?_
 refine Lst.r (Ev.load (i := 0) rfl rfl Try.isAgg5 (v := .int .u8 a0.View_.Members.toNat) ((FlushR.get_View_ (View.get_Members (Get.here _))).off (by rfl))) ?_
 refine Lst.r (Ev.neq rfl rfl) ?_
 refine Lst.nil ?_
 refine At.then ?_
 rcases Bool.eq_false_or_eq_true (((a0.Gone ||| a0.View_.Members).toNat : Int) != (a0.View_.Members.toNat : Int)) with hb8 | hb8
 ·replace H := ite_t hb8 H
  refine Cd.condT rfl hb8 ?_
  refine Cd.seq ?_
  refine Cd.as (e' := []) (L' := (.blk b1 (enc (FlushR.mk a0 rs_a0_2)) 71) :: L) trivial rfl ?_
  refine Cd.region ?_
  refine Lst.r (Ev.assign rfl) ?_
  refine Lst.nil ?_
  refine At.then ?_
  obtain rfl := some_inj H
  refine Cd.ret ?_
  refine At.then_ret ?_
  exact At.ret1 rfl (Res.tmp rfl) (FLe.refl _) (sc1 (.refl _)) ⟨rfl, rfl⟩
 replace H := ite_f hb8 H
 refine Cd.condF rfl hb8 ?_
 refine Cd.skip ?_
 refine At.then ?_
 refine Cd.seq ?_
 refine Cd.seq ?_
 refine Cd.as (e' := [(1, pv b1 0)]) (L' := (.blk b1 (enc (FlushR.mk a0 rs_a0_2)) 71) :: L) ⟨rfl, trivial⟩ rfl ?_
 refine Cd.region ?_
 refine Lst.r (Ev.fieldAddr (off' := 3) rfl Try.runUnderlying71 rfl Try.sizeOf69 rfl rfl) ?_
 refine Lst.r (Ev.loadA (i := 0) rfl rfl Try.isAgg69 Try.sizeOf69 (ch := enc rs_a0_2) (Enc.len _) ((FlushR.get_Told (Get.here _)).off (by rfl))) ?_
 refine Lst.r (Ev.move rfl) ?_
 refine Lst.nil ?_
 refine At.then ?_
 refine Cd.block ?_
 obtain ⟨ol9, H, HKl9⟩ := andThen_some H
 refine Cd.loop (σ := Nat × Nat × Unit) (fun (i9, k9, _u) => [(1, pv b1 0), (23, .agg (enc rs_a0_2).toArray), (24, iv (i9 : Int))]) (fun (i9, k9, _u) => (.blk b1 (enc (FlushR.mk a0 rs_a0_2)) 71) :: L) (fun _ => (fun (i9, k9, _u) => rangeM (partref_FlushErr_B0 a0) k9 i9 () = some ol9 ∧ i9 + k9 = 6)) (fun (i9, k9, _u) => k9) (0, 6, ()) ⟨rfl, rfl, rfl, trivial⟩ rfl ⟨H, by omega⟩ ?_
 rintro F10 ⟨i9, k9, _u⟩ hF11 ⟨H, hik9⟩
 refine Cd.as (e' := [(1, pv b1 0), (23, .agg (enc rs_a0_2).toArray), (24, iv (i9 : Int))]) (L' := (.blk b1 (enc (FlushR.mk a0 rs_a0_2)) 71) :: L) ⟨rfl, rfl, rfl, trivial⟩ rfl ?_
 rcases k9 with _ | k9
 ·have hc9 : decide ((i9 : Int) < (6 : Int)) = false := decide_eq_false (by omega)
  replace H := rangeM_end H
  refine Cd.seq ?_
  refine Cd.region ?_
  refine Lst.r (Ev.lss rfl rfl) ?_
  refine Lst.nil ?_
  refine At.then ?_
  refine Cd.seq ?_
  refine Cd.condF rfl hc9 ?_
  refine Cd.exit ?_
  refine At.then_exit ?_
  refine At.then_exit ?_
  refine At.in_exit ?_
  subst H
  replace H := HKl9
  refine At.then ?_
  refine Cd.seq ?_
  refine Cd.region ?_
  refine Lst.r (Ev.assign rfl) ?_
  refine Lst.nil ?_
  refine At.then ?_
  obtain rfl := some_inj H
  refine Cd.ret ?_
  exact At.ret1 rfl (Res.tmp rfl) hF11 (sc1 (.refl _)) ⟨rfl, rfl⟩
 have hc9 : decide ((i9 : Int) < (6 : Int)) = true := decide_eq_true (by omega)
 obtain ⟨c9, H, hgo9, hbrk9, hret9⟩ := rangeM_go H
 unfold partref_FlushErr_B0 at H
 try dsimp only at H
 refine Cd.seq ?_
 refine Cd.region ?_
 refine Lst.r (Ev.lss rfl rfl) ?_
 refine Lst.nil ?_
 refine At.then ?_
 refine Cd.seq ?_
 refine Cd.condT rfl hc9 ?_
 refine Cd.skip ?_
 refine At.then ?_
 refine Cd.seq ?_
 refine Cd.block ?_
 refine Cd.seq ?_
 refine Cd.region ?_
 refine Lst.r (Ev.move rfl) ?_
 obtain ⟨x12, h13, H⟩ := bind_some H
 have g14 := vat_some h13
 obtain ⟨⟨r15v, r15h⟩, r15g, r15e, r15m, r15l⟩ := vmap_get hm_a0_2 g14.2.2
 obtain rfl : x12 = r15v := r15e.symm
 have r15q : Rd w0 _ _ r15h x12 := ha_a0_2 _ r15m
 refine Lst.r (Ev.index1 rfl rfl Try.runUnderlying69 Try.isAgg36 Try.sizeOf36 g14.1 g14.2.1 rfl ((Get.vecN (s := 1) rfl r15g (Get.here _)).off (by omega))) ?_
 refine Lst.r (Ev.assign rfl) ?_
 refine Lst.r (Ev.assign rfl) ?_
 refine Lst.nil ?_
 refine At.then ?_
 refine Cd.seq ?_
 refine Cd.seq ?_
 refine Cd.region ?_
 refine Lst.r (Ev.move rfl) ?_
 refine Lst.r (Ev.lenS (α := Int) (xs := x12) (by decide) rfl rfl Try.runUnderlying36 (r15q.mono hF11 (sc1 hM))) ?_
 refine Lst.r (Ev.gtr rfl rfl) ?_
 refine Lst.nil ?_
 refine At.then ?_
 rcases Bool.eq_false_or_eq_true (decide ((x12.length : Int) > (30 : Int))) with hb16 | hb16
 ·replace H := ite_t hb16 H
  refine Cd.condT rfl hb16 ?_
  refine Cd.seq ?_
  refine Cd.region ?_
  refine Lst.r (Ev.assign rfl) ?_
  refine Lst.nil ?_
  refine At.then ?_
  have H := hret9 _ (some_inj H).symm
  subst H
  replace H := HKl9
  obtain rfl := some_inj H
  refine Cd.ret ?_
  refine At.then_ret ?_
  refine At.in_ret ?_
  refine At.then_ret ?_
  refine At.then_ret ?_
  refine At.in_ret ?_
  refine At.then_ret ?_
  exact At.ret1 rfl (Res.tmp rfl) hF11 (sc1 (.refl _)) ⟨rfl, rfl⟩
 replace H := ite_f hb16 H
 refine Cd.condF rfl hb16 ?_
 refine Cd.skip ?_
 refine At.then ?_
 refine Cd.seq ?_
 refine Cd.region ?_
 refine Lst.r (Ev.move rfl) ?_
 refine Lst.r (Ev.lenS (α := Int) (xs := x12) (by decide) rfl rfl Try.runUnderlying36 (r15q.mono hF11 (sc1 hM))) ?_
 refine Lst.r (Ev.gtr rfl rfl) ?_
 refine Lst.r (Ev.move rfl) ?_
 obtain ⟨o17, H, HKo17⟩ := bind_some H
 refine Lst.join (σ := Bool) 8 (fun y18 => [(1, pv b1 0), (5, Sl.v r15h), (23, .agg (enc rs_a0_2).toArray), (24, iv (i9 : Int)), (42, .bool y18)]) (fun y18 => (.blk b1 (enc (FlushR.mk a0 rs_a0_2)) 71) :: L) (fun _ y18 => y18 = o17) ?_ ?_
 ·rcases (Bool.eq_false_or_eq_true (decide ((x12.length : Int) > (0 : Int)))).symm with hb19 | hb19
  ·replace H := ite_f hb19 H
   refine Lst.skip rfl rfl rfl hb19 rfl (by decide) ?_
   refine Lst.skip rfl rfl rfl hb19 rfl (by decide) ?_
   refine Lst.skip rfl rfl rfl hb19 rfl (by decide) ?_
   refine Lst.skip rfl rfl rfl hb19 rfl (by decide) ?_
   refine Lst.skip rfl rfl rfl hb19 rfl (by decide) ?_
   refine Lst.skip rfl rfl rfl hb19 rfl (by decide) ?_
   refine Lst.skip rfl rfl rfl hb19 rfl (by decide) ?_
   refine Lst.r (Ev.pickF rfl hb19 rfl) ?_
   refine Lst.nil ?_
   exact At.meet false (FLe.refl _) ⟨rfl, rfl, rfl, rfl, rfl, trivial⟩ rfl (some_inj H)
  replace H := ite_t hb19 H
  refine Lst.rG hb19 (Ev.fieldAddr (off' := 0) rfl Try.runUnderlying71 rfl Try.sizeOf68 rfl rfl) ?_
  refine Lst.rG hb19 (Ev.fieldAddr (off' := 1) rfl Try.runUnderlying68 rfl Try.sizeOf5 rfl rfl) ?_
  refine Lst.rG hb19 (Ev.load (i := 0) rfl rfl Try.isAgg5 (v := .int .u8 a0.View_.Members.toNat) ((FlushR.get_View_ (View.get_Members (Get.here _))).off (by rfl))) ?_
  refine Lst.rG hb19 (Ev.move rfl) ?_
  obtain ⟨n20, h21, H⟩ := bind_some H
  refine Lst.rG hb19 (Ev.shrU8 (i := a0.View_.Members) (m := n20) rfl (congrArg some (congrArg (Value.int .i64) (cnt_some h21)))) ?_
  refine Lst.rG hb19 (Ev.remU8 (i := a0.View_.Members >>> n20) (j := (2 : BitVec 8)) rfl rfl (by decide)) ?_
  refine Lst.rG hb19 (Ev.eql rfl rfl) ?_
  refine Lst.r (Ev.pickT rfl hb19 rfl) ?_
  refine Lst.nil ?_
  exact At.meet ((((a0.View_.Members >>> n20) % (2 : BitVec 8)).toNat : Int) == ((0 : BitVec 8).toNat : Int)) (FLe.refl _) ⟨rfl, rfl, rfl, rfl, rfl, trivial⟩ rfl (some_inj H)
 rintro F23 y18 hF24 hy
 subst hy
 refine Lst.as (e' := [(1, pv b1 0), (5, Sl.v r15h), (23, .agg (enc rs_a0_2).toArray), (24, iv (i9 : Int)), (42, .bool y18)]) (L' := (.blk b1 (enc (FlushR.mk a0 rs_a0_2)) 71) :: L) ⟨rfl, rfl, rfl, rfl, rfl, trivial⟩ rfl ?_
 replace H := HKo17
 refine Lst.r (Ev.move rfl) ?_
 obtain ⟨o25, H, HKo25⟩ := bind_some H
 refine Lst.join (σ := Bool) 3 (fun y26 => [(1, pv b1 0), (23, .agg (enc rs_a0_2).toArray), (24, iv (i9 : Int)), (46, .bool y26)]) (fun y26 => (.blk b1 (enc (FlushR.mk a0 rs_a0_2)) 71) :: L) (fun _ y26 => y26 = o25) ?_ ?_
 ·rcases Bool.eq_false_or_eq_true y18 with hb27 | hb27
  ·replace H := ite_t hb27 H
   refine Lst.skip rfl rfl rfl hb27 rfl (by decide) ?_
   refine Lst.skip rfl rfl rfl hb27 rfl (by decide) ?_
   refine Lst.r (Ev.pickT rfl hb27 rfl) ?_
   refine Lst.nil ?_
   exact At.meet true (FLe.refl _) ⟨rfl, rfl, rfl, rfl, trivial⟩ rfl (some_inj H)
  replace H := ite_f hb27 H
  refine Lst.rG hb27 (Ev.move rfl) ?_
  obtain ⟨r28, h29, H⟩ := bind_some H
  refine Lst.call1G rfl rfl rfl hb27 rfl (by decide) (vs := [Sl.v r15h]) ⟨rfl, trivial⟩ Try.call120 (partref_twice_sim h29 w0 _ M _ (sc1 hM) (r15q.mono (FLe.trans hF11 hF24) (.refl _))) ?_
  refine Lst.r (Ev.pickF rfl hb27 rfl) ?_
  refine Lst.nil ?_
  exact At.meet r28 (FLe.refl _) ⟨rfl, rfl, rfl, rfl, trivial⟩ rfl (some_inj H)
 rintro F32 y26 hF33 hy
 subst hy
 refine Lst.as (e' := [(1, pv b1 0), (23, .agg (enc rs_a0_2).toArray), (24, iv (i9 : Int)), (46, .bool y26)]) (L' := (.blk b1 (enc (FlushR.mk a0 rs_a0_2)) 71) :: L) ⟨rfl, rfl, rfl, rfl, trivial⟩ rfl ?_
 replace H := HKo25
 refine Lst.nil ?_
 refine At.then ?_
 rcases Bool.eq_false_or_eq_true y26 with hb34 | hb34
 ·replace H := ite_t hb34 H
  refine Cd.condT rfl hb34 ?_
  refine Cd.seq ?_
  refine Cd.region ?_
  refine Lst.r (Ev.assign rfl) ?_
  refine Lst.nil ?_
  refine At.then ?_
  have H := hret9 _ (some_inj H).symm
  subst H
  replace H := HKl9
  obtain rfl := some_inj H
  refine Cd.ret ?_
  refine At.in_ret ?_
  refine At.then_ret ?_
  refine At.then_ret ?_
  refine At.in_ret ?_
  refine At.then_ret ?_
  exact At.ret1 rfl (Res.tmp rfl) (FLe.trans (FLe.trans hF11 hF24) hF33) (sc1 (.refl _)) ⟨rfl, rfl⟩
 replace H := ite_f hb34 H
 refine Cd.condF rfl hb34 ?_
 refine Cd.skip ?_
 refine At.in_normal ?_
 refine At.then ?_
 refine Cd.region ?_
 refine Lst.r (Ev.incr (by omega) rfl rfl) ?_
 refine Lst.r (Ev.move rfl) ?_
 refine Lst.nil ?_
 exact At.meet (i9 + 1, k9, ()) (FLe.trans (FLe.trans hF11 hF24) hF33) ⟨rfl, rfl, rfl, trivial⟩ rfl ⟨⟨hgo9 _ (some_inj H).symm, by omega⟩, Nat.lt_succ_self _⟩
set_option maxRecDepth 20000 in
theorem view_outside_sim {a0 : BitVec 8} {r : Bool} (H : view_outside a0 = some r) (w0 : World) (F : Frz) (M L : List Item) (hM : M.Sublist L) : Ok Try.prog w0 178 [.int .u8 a0.toNat] F (L) (Is (.bool r) (L)) := by
 unfold view_outside at H
 refine Ok.enter (m := 1) (n := 6) Try.func178 rfl rfl rfl (by decide) ?_
 refine Cd.env (e' := [(0, .int .u8 a0.toNat)]) rfl ?_
 refine Cd.seq ?_
 refine Cd.region ?_
 refine Lst.r (Ev.assign rfl) ?_
 refine Lst.nil ?_
 refine At.then ?_
 refine Cd.seq ?_
 refine Cd.region ?_
 refine Lst.r (Ev.move rfl) ?_
 refine Lst.r (Ev.shrU8 (i := a0) (m := 6) rfl rfl) ?_
 refine Lst.r (Ev.neq rfl rfl) ?_
 refine Lst.r (Ev.assign rfl) ?_
 refine Lst.nil ?_
 refine At.then ?_
 obtain rfl := some_inj H
 refine Cd.ret ?_
 exact At.ret1 rfl (Res.tmp rfl) (FLe.refl _) (.refl _) ⟨rfl, rfl⟩
set_option maxRecDepth 20000 in
theorem view_Check_sim {a0 : View} {r : Int} (H : view_Check a0 = some r) (w0 : World) (F : Frz) (M L : List Item) (hM : M.Sublist L) : Ok Try.prog w0 130 [.agg (enc a0).toArray] F (L) (Is (iv r) (L)) := by
 unfold view_Check at H
 refine Ok.enter (m := 1) (n := 21) Try.func130 rfl rfl rfl (by decide) ?_
 refine Cd.env (e' := [(0, .agg (enc a0).toArray)]) rfl ?_
 refine Cd.seq ?_
 refine Cd.region ?_
 refine Lst.box rfl rfl (by decide) rfl (cs := enc a0) rfl (fun b1 => ?_)
 refine Lst.r (Ev.assign rfl) ?_
 refine Lst.nil ?_
 refine At.then ?_
 refine Cd.seq ?_
 refine Cd.seq ?_
 refine Cd.region ?_
 refine Lst.r (Ev.fieldAddr (off' := 0) rfl Try.runUnderlying68 rfl Try.sizeOf3 rfl rfl) ?_
 refine Lst.r (Ev.load (i := 0) rfl rfl Try.isAgg3 (v := iv a0.Num) ((View.get_Num (Get.here _)).off (by rfl))) ?_
 refine Lst.r (Ev.lss rfl rfl) ?_
 refine Lst.r (Ev.move rfl) ?_
 obtain ⟨o3, H, HKo3⟩ := bind_some H
 refine Lst.join (σ := Bool) 4 (fun y4 => [(1, pv b1 0), (10, .bool y4)]) (fun y4 => (.blk b1 (enc a0) 68) :: L) (fun _ y4 => y4 = o3) ?_ ?_
 ·rcases Bool.eq_false_or_eq_true (decide (a0.Num < (0 : Int))) with hb5 | hb5
  ·replace H := ite_t hb5 H
   refine Lst.skip rfl rfl rfl hb5 rfl (by decide) ?_
   refine Lst.skip rfl rfl rfl hb5 rfl (by decide) ?_
   refine Lst.skip rfl rfl rfl hb5 rfl (by decide) ?_
   refine Lst.r (Ev.pickT rfl hb5 rfl) ?_
   refine Lst.nil ?_
   exact At.meet true (FLe.refl _) ⟨rfl, rfl, trivial⟩ rfl (some_inj H)
  replace H := ite_f hb5 H
  refine Lst.rG hb5 (Ev.fieldAddr (off' := 0) rfl Try.runUnderlying68 rfl Try.sizeOf3 rfl rfl) ?_
  refine Lst.rG hb5 (Ev.load (i := 0) rfl rfl Try.isAgg3 (v := iv a0.Num) ((View.get_Num (Get.here _)).off (by rfl))) ?_
  refine Lst.rG hb5 (Ev.gtr rfl rfl) ?_
  refine Lst.r (Ev.pickF rfl hb5 rfl) ?_
  refine Lst.nil ?_
  exact At.meet (decide (a0.Num > (16777215 : Int))) (FLe.refl _) ⟨rfl, rfl, trivial⟩ rfl (some_inj H)
 rintro F6 y4 hF7 hy
 subst hy
 refine Lst.as (e' := [(1, pv b1 0), (10, .bool y4)]) (L' := (.blk b1 (enc a0) 68) :: L) ⟨rfl, rfl, trivial⟩ rfl ?_
 replace H := HKo3
 refine Lst.r (Ev.move rfl) ?_
 obtain ⟨o8, H, HKo8⟩ := bind_some H
 refine Lst.join (σ := Bool) 4 (fun y9 => [(1, pv b1 0), (15, .bool y9)]) (fun y9 => (.blk b1 (enc a0) 68) :: L) (fun _ y9 => y9 = o8) ?_ ?_
 ·rcases Bool.eq_false_or_eq_true y4 with hb10 | hb10
  ·replace H := ite_t hb10 H
   refine Lst.skip rfl rfl rfl hb10 rfl (by decide) ?_
   refine Lst.skip rfl rfl rfl hb10 rfl (by decide) ?_
   refine Lst.skip rfl rfl rfl hb10 rfl (by decide) ?_
   refine Lst.r (Ev.pickT rfl hb10 rfl) ?_
   refine Lst.nil ?_
   exact At.meet true (FLe.refl _) ⟨rfl, rfl, trivial⟩ rfl (some_inj H)
  replace H := ite_f hb10 H
  refine Lst.rG hb10 (Ev.fieldAddr (off' := 1) rfl Try.runUnderlying68 rfl Try.sizeOf5 rfl rfl) ?_
  refine Lst.rG hb10 (Ev.load (i := 0) rfl rfl Try.isAgg5 (v := .int .u8 a0.Members.toNat) ((View.get_Members (Get.here _)).off (by rfl))) ?_
  refine Lst.rG hb10 (Ev.eql rfl rfl) ?_
  refine Lst.r (Ev.pickF rfl hb10 rfl) ?_
  refine Lst.nil ?_
  exact At.meet ((a0.Members.toNat : Int) == ((0 : BitVec 8).toNat : Int)) (FLe.refl _) ⟨rfl, rfl, trivial⟩ rfl (some_inj H)
 rintro F11 y9 hF12 hy
 subst hy
 refine Lst.as (e' := [(1, pv b1 0), (15, .bool y9)]) (L' := (.blk b1 (enc a0) 68) :: L) ⟨rfl, rfl, trivial⟩ rfl ?_
 replace H := HKo8
 refine Lst.r (Ev.move rfl) ?_
 obtain ⟨o13, H, HKo13⟩ := bind_some H
 refine Lst.join (σ := Bool) 4 (fun y14 => [(20, .bool y14)]) (fun y14 => (.blk b1 (enc a0) 68) :: L) (fun _ y14 => y14 = o13) ?_ ?_
 ·rcases Bool.eq_false_or_eq_true y9 with hb15 | hb15
  ·replace H := ite_t hb15 H
   refine Lst.skip rfl rfl rfl hb15 rfl (by decide) ?_
   refine Lst.skip rfl rfl rfl hb15 rfl (by decide) ?_
   refine Lst.skip rfl rfl rfl hb15 rfl (by decide) ?_
   refine Lst.r (Ev.pickT rfl hb15 rfl) ?_
   refine Lst.nil ?_
   exact At.meet true (FLe.refl _) ⟨rfl, trivial⟩ rfl (some_inj H)
  replace H := ite_f hb15 H
  refine Lst.rG hb15 (Ev.fieldAddr (off' := 1) rfl Try.runUnderlying68 rfl Try.sizeOf5 rfl rfl) ?_
  refine Lst.rG hb15 (Ev.load (i := 0) rfl rfl Try.isAgg5 (v := .int .u8 a0.Members.toNat) ((View.get_Members (Get.here _)).off (by rfl))) ?_
  obtain ⟨r16, h17, H⟩ := bind_some H
  refine Lst.call1G rfl rfl rfl hb15 rfl (by decide) (vs := [.int .u8 a0.Members.toNat]) ⟨rfl, trivial⟩ Try.call178 (view_outside_sim h17 w0 _ M _ (sc1 hM)) ?_
  refine Lst.r (Ev.pickF rfl hb15 rfl) ?_
  refine Lst.nil ?_
  exact At.meet r16 (FLe.refl _) ⟨rfl, trivial⟩ rfl (some_inj H)
 rintro F20 y14 hF21 hy
 subst hy
 refine Lst.as (e' := [(20, .bool y14)]) (L' := (.blk b1 (enc a0) 68) :: L) ⟨rfl, trivial⟩ rfl ?_
 replace H := HKo13
 refine Lst.nil ?_
 refine At.then ?_
 rcases Bool.eq_false_or_eq_true y14 with hb22 | hb22
 ·replace H := ite_t hb22 H
  refine Cd.condT rfl hb22 ?_
  refine Cd.seq ?_
  refine Cd.region ?_
  refine Lst.r (Ev.assign rfl) ?_
  refine Lst.nil ?_
  refine At.then ?_
  obtain rfl := some_inj H
  refine Cd.ret ?_
  refine At.then_ret ?_
  exact At.ret1 rfl (Res.tmp rfl) (FLe.trans (FLe.trans hF7 hF12) hF21) (sc1 (.refl _)) ⟨rfl, rfl⟩
 replace H := ite_f hb22 H
 refine Cd.condF rfl hb22 ?_
 refine Cd.skip ?_
 refine At.then ?_
 refine Cd.seq ?_
 refine Cd.region ?_
 refine Lst.r (Ev.assign rfl) ?_
 refine Lst.nil ?_
 refine At.then ?_
 obtain rfl := some_inj H
 refine Cd.ret ?_
 exact At.ret1 rfl (Res.tmp rfl) (FLe.trans (FLe.trans hF7 hF12) hF21) (sc1 (.refl _)) ⟨rfl, rfl⟩
set_option maxRecDepth 20000 in
theorem flush_New_sim {a0 : BitVec 8} {r : Flush × Int} (H : flush_New a0 = some r) (w0 : World) (F : Frz) (M L : List Item) (hM : M.Sublist L) : Ok Try.prog w0 40 [.int .u8 a0.toNat] F (L) (fun Fx L' v => ∃ (rs1 : Vector (LR Int) 6), v = .tuple #[.agg (enc (FlushR.mk r.1 rs1)).toArray, iv r.2] ∧ L' = L ∧ rs1.toList.map LR.v = r.1.Told.toList ∧ All LR.rel w0 Fx [] rs1.toList) := by
 unfold flush_New at H
 refine Ok.enter (m := 1) (n := 17) Try.func40 rfl rfl rfl (by decide) ?_
 refine Cd.env (e' := [(0, .int .u8 a0.toNat)]) rfl ?_
 refine Cd.seq ?_
 refine Cd.region ?_
 have hm1 : (Vector.replicate 6 ⟨[], Sl.nil⟩ : Vector (LR Int) 6).toList.map LR.v = (Vector.replicate 6 [] : Vector (List Int) 6).toList := vmap_rep _ _
 have ha2 : All LR.rel w0 F [] (Vector.replicate 6 ⟨[], Sl.nil⟩ : Vector (LR Int) 6).toList := vAll_rep Rd.nil
 refine Lst.alloc (cs := enc (FlushR.mk Flush.zero (Vector.replicate 6 ⟨[], Sl.nil⟩ : Vector (LR Int) 6))) rfl rfl (by decide) Try.zeroValue71 rfl (fun b3 => ?_)
 refine Lst.r (Ev.assign rfl) ?_
 refine Lst.nil ?_
 refine At.then ?_
 refine Cd.seq ?_
 refine Cd.region ?_
 refine Lst.r (Ev.move rfl) ?_
 refine Lst.r (Ev.build (v := .agg (enc ({ View.zero with Members := a0 } : View)).toArray) (pv := [(1, .int .u8 a0.toNat)]) ⟨rfl, rfl, trivial⟩ (fun w => by kernel_rfl)) ?_
 have hm5 : (Vector.replicate 6 ⟨[], Sl.nil⟩ : Vector (LR Int) 6).toList.map LR.v = (Vector.replicate 6 [] : Vector (List Int) 6).toList := vmap_rep _ _
 have ha6 : All LR.rel w0 F [] (Vector.replicate 6 ⟨[], Sl.nil⟩ : Vector (LR Int) 6).toList := vAll_rep Rd.nil
 refine Lst.r (Ev.build (v := .agg (enc (FlushR.mk ({ Flush.zero with View_ := ({ View.zero with Members := a0 } : View) } : Flush) (Vector.replicate 6 ⟨[], Sl.nil⟩ : Vector (LR Int) 6))).toArray) (pv := [(0, .agg (enc ({ View.zero with Members := a0 } : View)).toArray)]) ⟨rfl, rfl, trivial⟩ (run_buildStruct (places := #[(0, 2), (2, 1), (3, 6)]) Try.zeroValue71 (zs := enc (FlushR.mk Flush.zero (Vector.replicate 6 ⟨[], Sl.nil⟩ : Vector (LR Int) 6))) rfl Try.runUnderlying71 (fun w => by kernel_rfl) (fill_cons (cs := enc (FlushR.mk Flush.zero (Vector.replicate 6 ⟨[], Sl.nil⟩ : Vector (LR Int) 6))) (cs' := enc (FlushR.mk ({ Flush.zero with View_ := ({ View.zero with Members := a0 } : View) } : Flush) (Vector.replicate 6 ⟨[], Sl.nil⟩ : Vector (LR Int) 6))) (vs := enc ({ View.zero with Members := a0 } : View)) rfl rfl (Enc.len _) ((FlushR.put_View_ (p := (FlushR.mk Flush.zero (Vector.replicate 6 ⟨[], Sl.nil⟩ : Vector (LR Int) 6))) (y := ({ View.zero with Members := a0 } : View)) (Put.here ((Enc.len _).trans (Enc.len _).symm))).off rfl) fill_nil))) ?_
 have hm7 : (Vector.replicate 6 ⟨[], Sl.nil⟩ : Vector (LR Int) 6).toList.map LR.v = (Vector.replicate 6 [] : Vector (List Int) 6).toList := vmap_rep _ _
 have ha8 : All LR.rel w0 F [] (Vector.replicate 6 ⟨[], Sl.nil⟩ : Vector (LR Int) 6).toList := vAll_rep Rd.nil
 refine Lst.alloc (cs := enc (FlushR.mk Flush.zero (Vector.replicate 6 ⟨[], Sl.nil⟩ : Vector (LR Int) 6))) rfl rfl (by decide) Try.zeroValue71 rfl (fun b9 => ?_)
 refine Lst.store (i := 0) rfl rfl rfl rfl rfl Try.sizeOf71 (vs := enc (FlushR.mk ({ Flush.zero with View_ := ({ View.zero with Members := a0 } : View) } : Flush) (Vector.replicate 6 ⟨[], Sl.nil⟩ : Vector (LR Int) 6))) rfl (Enc.len _) (Enc.one _) (cs' := enc (FlushR.mk ({ Flush.zero with View_ := ({ View.zero with Members := a0 } : View) } : Flush) (Vector.replicate 6 ⟨[], Sl.nil⟩ : Vector (LR Int) 6))) (Put.here ((Enc.len _).trans (Enc.len _).symm)) (L' := (.blk b9 (enc (FlushR.mk ({ Flush.zero with View_ := ({ View.zero with Members := a0 } : View) } : Flush) (Vector.replicate 6 ⟨[], Sl.nil⟩ : Vector (LR Int) 6))) 71) :: (.blk b3 (enc (FlushR.mk Flush.zero (Vector.replicate 6 ⟨[], Sl.nil⟩ : Vector (LR Int) 6))) 71) :: L) rfl ?_
 refine Lst.nil ?_
 refine At.then ?_
 refine Cd.seq ?_
 refine Cd.seq ?_
 refine Cd.region ?_
 refine Lst.r (Ev.fieldAddr (off' := 0) rfl Try.runUnderlying71 rfl Try.sizeOf68 rfl rfl) ?_
 refine Lst.r (Ev.loadA (i := 0) rfl rfl Try.isAgg68 Try.sizeOf68 (ch := enc ({ View.zero with Members := a0 } : View)) (Enc.len _) ((FlushR.get_View_ (Get.here _)).off (by rfl))) ?_
 obtain ⟨r11, h12, H⟩ := bind_some H
 refine Lst.call1 rfl rfl (by decide) (vs := [.agg (enc ({ View.zero with Members := a0 } : View)).toArray]) ⟨rfl, trivial⟩ Try.call130 (view_Check_sim h12 w0 _ M _ (sc2 hM)) ?_
 refine Lst.r (Ev.assign rfl) ?_
 refine Lst.nil ?_
 refine At.then ?_
 refine Cd.seq ?_
 refine Cd.region ?_
 refine Lst.r (Ev.move rfl) ?_
 refine Lst.r (Ev.neq rfl rfl) ?_
 refine Lst.nil ?_
 refine At.then ?_
 rcases Bool.eq_false_or_eq_true (r11 != (0 : Int)) with hb15 | hb15
 ·replace H := ite_t hb15 H
  refine Cd.condT rfl hb15 ?_
  refine Cd.seq ?_
  refine Cd.region ?_
  have hm16 : (Vector.replicate 6 ⟨[], Sl.nil⟩ : Vector (LR Int) 6).toList.map LR.v = (Vector.replicate 6 [] : Vector (List Int) 6).toList := vmap_rep _ _
  have ha17 : All LR.rel w0 F [] (Vector.replicate 6 ⟨[], Sl.nil⟩ : Vector (LR Int) 6).toList := vAll_rep Rd.nil
  refine Lst.r (Ev.build (v := .agg (enc (FlushR.mk Flush.zero (Vector.replicate 6 ⟨[], Sl.nil⟩ : Vector (LR Int) 6))).toArray) (pv := []) trivial (fun w => by kernel_rfl)) ?_
  refine Lst.r (Ev.move rfl) ?_
  refine Lst.store (i := 1) rfl rfl rfl rfl rfl Try.sizeOf71 (vs := enc (FlushR.mk Flush.zero (Vector.replicate 6 ⟨[], Sl.nil⟩ : Vector (LR Int) 6))) rfl (Enc.len _) (Enc.one _) (cs' := enc (FlushR.mk Flush.zero (Vector.replicate 6 ⟨[], Sl.nil⟩ : Vector (LR Int) 6))) (Put.here ((Enc.len _).trans (Enc.len _).symm)) (L' := (.blk b9 (enc (FlushR.mk ({ Flush.zero with View_ := ({ View.zero with Members := a0 } : View) } : Flush) (Vector.replicate 6 ⟨[], Sl.nil⟩ : Vector (LR Int) 6))) 71) :: (.blk b3 (enc (FlushR.mk Flush.zero (Vector.replicate 6 ⟨[], Sl.nil⟩ : Vector (LR Int) 6))) 71) :: L) rfl ?_
  refine Lst.r (Ev.assign rfl) ?_
  refine Lst.nil ?_
  refine At.then ?_
  obtain rfl := some_inj H
  refine Cd.ret ?_
  refine At.then_ret ?_
  exact At.ret2 rfl (Res.cellA (i := 1) rfl rfl Try.isAgg71 Try.sizeOf71 (Enc.len _)) (Res.tmp rfl) (FLe.refl _) (sc1 (sc1 (.refl _))) ⟨(Vector.replicate 6 ⟨[], Sl.nil⟩ : Vector (LR Int) 6), rfl, rfl, hm16, (All.monoLR ha17 (FLe.refl _) (List.nil_sublist _))⟩
 replace H := ite_f hb15 H
 refine Cd.condF rfl hb15 ?_
 refine Cd.skip ?_
 refine At.then ?_
 refine Cd.seq ?_
 refine Cd.region ?_
 refine Lst.r (Ev.loadA (i := 0) rfl rfl Try.isAgg71 Try.sizeOf71 (ch := enc (FlushR.mk ({ Flush.zero with View_ := ({ View.zero with Members := a0 } : View) } : Flush) (Vector.replicate 6 ⟨[], Sl.nil⟩ : Vector (LR Int) 6))) (Enc.len _) (Get.here _)) ?_
 refine Lst.store (i := 1) rfl rfl rfl rfl rfl Try.sizeOf71 (vs := enc (FlushR.mk ({ Flush.zero with View_ := ({ View.zero with Members := a0 } : View) } : Flush) (Vector.replicate 6 ⟨[], Sl.nil⟩ : Vector (LR Int) 6))) rfl (Enc.len _) (Enc.one _) (cs' := enc (FlushR.mk ({ Flush.zero with View_ := ({ View.zero with Members := a0 } : View) } : Flush) (Vector.replicate 6 ⟨[], Sl.nil⟩ : Vector (LR Int) 6))) (Put.here ((Enc.len _).trans (Enc.len _).symm)) (L' := (.blk b9 (enc (FlushR.mk ({ Flush.zero with View_ := ({ View.zero with Members := a0 } : View) } : Flush) (Vector.replicate 6 ⟨[], Sl.nil⟩ : Vector (LR Int) 6))) 71) :: (.blk b3 (enc (FlushR.mk ({ Flush.zero with View_ := ({ View.zero with Members := a0 } : View) } : Flush) (Vector.replicate 6 ⟨[], Sl.nil⟩ : Vector (LR Int) 6))) 71) :: L) rfl ?_
 refine Lst.r (Ev.assign rfl) ?_
 refine Lst.nil ?_
 refine At.then ?_
 obtain rfl := some_inj H
 refine Cd.ret ?_
 exact At.ret2 rfl (Res.cellA (i := 1) rfl rfl Try.isAgg71 Try.sizeOf71 (Enc.len _)) (Res.tmp rfl) (FLe.refl _) (sc1 (sc1 (.refl _))) ⟨(Vector.replicate 6 ⟨[], Sl.nil⟩ : Vector (LR Int) 6), rfl, rfl, hm5, (All.monoLR ha6 (FLe.refl _) (List.nil_sublist _))⟩
set_option maxRecDepth 20000 in
theorem flush_in_sim {a0 : Int} {a1 : Int} {a2 : Int} {r : Bool} (H : flush_in a0 a1 a2 = some r) (w0 : World) (F : Frz) (M L : List Item) (hM : M.Sublist L) : Ok Try.prog w0 179 [iv a0, iv a1, iv a2] F (L) (Is (.bool r) (L)) := by
 unfold flush_in at H
 refine Ok.enter (m := 3) (n := 15) Try.func179 rfl rfl rfl (by decide) ?_
 refine Cd.env (e' := [(0, iv a0), (1, iv a1), (2, iv a2)]) rfl ?_
 refine Cd.seq ?_
 refine Cd.region ?_
 refine Lst.r (Ev.assign rfl) ?_
 refine Lst.nil ?_
 refine At.then ?_
 refine Cd.seq ?_
 refine Cd.region ?_
 refine Lst.r (Ev.move rfl) ?_
 refine Lst.r (Ev.move rfl) ?_
 refine Lst.r (Ev.geq rfl rfl) ?_
 refine Lst.r (Ev.move rfl) ?_
 obtain ⟨o1, H, HKo1⟩ := bind_some H
 refine Lst.join (σ := Bool) 4 (fun y2 => [(14, .bool y2)]) (fun y2 => L) (fun _ y2 => y2 = o1) ?_ ?_
 ·rcases (Bool.eq_false_or_eq_true (decide (a0 ≥ a1))).symm with hb3 | hb3
  ·replace H := ite_f hb3 H
   refine Lst.skip rfl rfl rfl hb3 rfl (by decide) ?_
   refine Lst.skip rfl rfl rfl hb3 rfl (by decide) ?_
   refine Lst.skip rfl rfl rfl hb3 rfl (by decide) ?_
   refine Lst.r (Ev.pickF rfl hb3 rfl) ?_
   refine Lst.nil ?_
   exact At.meet false (FLe.refl _) ⟨rfl, trivial⟩ rfl (some_inj H)
  replace H := ite_t hb3 H
  refine Lst.rG hb3 (Ev.move rfl) ?_
  refine Lst.rG hb3 (Ev.move rfl) ?_
  refine Lst.rG hb3 (Ev.leq rfl rfl) ?_
  refine Lst.r (Ev.pickT rfl hb3 rfl) ?_
  refine Lst.nil ?_
  exact At.meet (decide (a0 ≤ a2)) (FLe.refl _) ⟨rfl, trivial⟩ rfl (some_inj H)
 rintro F4 y2 hF5 hy
 subst hy
 refine Lst.as (e' := [(14, .bool y2)]) (L' := L) ⟨rfl, trivial⟩ rfl ?_
 replace H := HKo1
 refine Lst.r (Ev.assign rfl) ?_
 refine Lst.nil ?_
 refine At.then ?_
 obtain rfl := some_inj H
 refine Cd.ret ?_
 exact At.ret1 rfl (Res.tmp rfl) hF5 (.refl _) ⟨rfl, rfl⟩
set_option maxRecDepth 20000 in
theorem flush_message_sim {a0 : Int} {r : Bool} (H : flush_message a0 = some r) (w0 : World) (F : Frz) (M L : List Item) (hM : M.Sublist L) : Ok Try.prog w0 132 [iv a0] F (L) (Is (.bool r) (L)) := by
 unfold flush_message at H
 refine Ok.enter (m := 1) (n := 5) Try.func132 rfl rfl rfl (by decide) ?_
 refine Cd.env (e' := [(0, iv a0)]) rfl ?_
 refine Cd.seq ?_
 refine Cd.region ?_
 refine Lst.r (Ev.assign rfl) ?_
 refine Lst.nil ?_
 refine At.then ?_
 refine Cd.seq ?_
 refine Cd.region ?_
 refine Lst.r (Ev.move rfl) ?_
 obtain ⟨r1, h2, H⟩ := bind_some H
 refine Lst.call1 rfl rfl (by decide) (vs := [iv a0, iv (0 : Int), iv (29 : Int)]) ⟨rfl, rfl, rfl, trivial⟩ Try.call179 (flush_in_sim h2 w0 _ M _ hM) ?_
 refine Lst.r (Ev.assign rfl) ?_
 refine Lst.nil ?_
 refine At.then ?_
 obtain rfl := some_inj H
 refine Cd.ret ?_
 exact At.ret1 rfl (Res.tmp rfl) (FLe.refl _) (.refl _) ⟨rfl, rfl⟩
set_option maxRecDepth 20000 in
theorem slices_Contains_int_int_sim {a0 : List Int} {a1 : Int} {s_a0 : Sl} {r : Bool} (H : slices_Contains_int_int a0 a1 = some r) (w0 : World) (F : Frz) (M L : List Item) (hM : M.Sublist L) (hs_a0 : Rd w0 F M s_a0 a0) : Ok Try.prog w0 50 [Sl.v s_a0, iv a1] F (L) (Is (.bool r) (L)) := by
 unfold slices_Contains_int_int at H
 refine Ok.enter (m := 2) (n := 9) Try.func50 rfl rfl rfl (by decide) ?_
 refine Cd.env (e' := [(0, Sl.v s_a0), (1, iv a1)]) rfl ?_
 refine Cd.seq ?_
 refine Cd.region ?_
 refine Lst.r (Ev.assign rfl) ?_
 refine Lst.nil ?_
 refine At.then ?_
 refine Cd.seq ?_
 refine Cd.region ?_
 refine Lst.r (Ev.move rfl) ?_
 refine Lst.r (Ev.move rfl) ?_
 obtain ⟨r1, h2, H⟩ := bind_some H
 refine Lst.call1 rfl rfl (by decide) (vs := [Sl.v s_a0, iv a1]) ⟨rfl, rfl, trivial⟩ Try.call95 (slices_Index_int_int_sim h2 w0 _ M _ hM (hs_a0.mono (FLe.refl _) (.refl _))) ?_
 refine Lst.r (Ev.geq rfl rfl) ?_
 refine Lst.r (Ev.assign rfl) ?_
 refine Lst.nil ?_
 refine At.then ?_
 obtain rfl := some_inj H
 refine Cd.ret ?_
 exact At.ret1 rfl (Res.tmp rfl) (FLe.refl _) (.refl _) ⟨rfl, rfl⟩
set_option maxRecDepth 20000 in
theorem flush_Check_sim {a0 : Flush} {rs_a0_2 : Vector (LR Int) 6} {r : Int} (H : flush_Check a0 = some r) (w0 : World) (F : Frz) (M L : List Item) (hM : M.Sublist L) (hm_a0_2 : rs_a0_2.toList.map LR.v = a0.Told.toList) (ha_a0_2 : All LR.rel w0 F M rs_a0_2.toList) : Ok Try.prog w0 46 [.agg (enc (FlushR.mk a0 rs_a0_2)).toArray] F (L) (Is (iv r) (L)) := by
 unfold flush_Check at H
 refine Ok.enter (m := 1) (n := 63) Try.func46 rfl rfl rfl (by decide) ?_
 refine Cd.env (e' := [(0, .agg (enc (FlushR.mk a0 rs_a0_2)).toArray)]) rfl ?_
 refine Cd.seq ?_
 refine Cd.region ?_
 refine Lst.box rfl rfl (by decide) rfl (cs := enc (FlushR.mk a0 rs_a0_2)) rfl (fun b1 => ?_)
 refine Lst.r (Ev.assign rfl) ?_
 refine Lst.nil ?_
 refine At.then ?_
 refine Cd.seq ?_
 refine Cd.seq ?_
 refine Cd.region ?_
 refine Lst.r (Ev.fieldAddr (off' := 0) rfl Try.runUnderlying71 rfl Try.sizeOf68 rfl rfl) ?_
 refine Lst.r (Ev.loadA (i := 0) rfl rfl Try.isAgg68 Try.sizeOf68 (ch := enc a0.View_) (Enc.len _) ((FlushR.get_View_ (Get.here _)).off (by rfl))) ?_
 obtain ⟨r3, h4, H⟩ := bind_some H
 refine Lst.call1 rfl rfl (by decide) (vs := [.agg (enc a0.View_).toArray]) ⟨rfl, trivial⟩ Try.call130 (view_Check_sim h4 w0 _ M _ (sc1 hM)) ?_
 refine Lst.r (Ev.assign rfl) ?_
 refine Lst.nil ?_
 refine At.then ?_
 refine Cd.seq ?_
 refine Cd.region ?_
 refine Lst.r (Ev.move rfl) ?_
 refine Lst.r (Ev.neq rfl rfl) ?_
 refine Lst.nil ?_
 refine At.then ?_
 rcases Bool.eq_false_or_eq_true (r3 != (0 : Int)) with hb7 | hb7
 ·replace H := ite_t hb7 H
  refine Cd.condT rfl hb7 ?_
  refine Cd.seq ?_
  refine Cd.region ?_
  refine Lst.r (Ev.move rfl) ?_
  refine Lst.r (Ev.assign rfl) ?_
  refine Lst.nil ?_
  refine At.then ?_
  obtain rfl := some_inj H
  refine Cd.ret ?_
  refine At.then_ret ?_
  exact At.ret1 rfl (Res.tmp rfl) (FLe.refl _) (sc1 (.refl _)) ⟨rfl, rfl⟩
 replace H := ite_f hb7 H
 refine Cd.condF rfl hb7 ?_
 refine Cd.skip ?_
 refine At.then ?_
 refine Cd.seq ?_
 refine Cd.seq ?_
 refine Cd.region ?_
 refine Lst.r (Ev.fieldAddr (off' := 2) rfl Try.runUnderlying71 rfl Try.sizeOf5 rfl rfl) ?_
 refine Lst.r (Ev.load (i := 0) rfl rfl Try.isAgg5 (v := .int .u8 a0.Gone.toNat) ((FlushR.get_Gone (Get.here _)).off (by rfl))) ?_
 refine Lst.r (Ev.fieldAddr (off' := 0) rfl Try.runUnderlying71 rfl Try.sizeOf68 rfl rfl) ?_
 refine Lst.r (Ev.fieldAddr (off' := 1) rfl Try.runUnderlying68 rfl Try.sizeOf5 rfl rfl) ?_
 refine Lst.r (Ev.load (i := 0) rfl rfl Try.isAgg5 (v := .int .u8 a0.View_.Members.toNat) ((FlushR.get_View_ (View.get_Members (Get.here _))).off (by rfl))) ?_
 refine Lst.r (Ev.andNotU8 (i := a0.Gone) (j := a0.View_.Members) rfl rfl) ?_
 refine Lst.r (Ev.neq rfl rfl) ?_
 refine Lst.nil ?_
 refine At.then ?_
 rcases Bool.eq_false_or_eq_true (((a0.Gone &&& ~~~a0.View_.Members).toNat : Int) != ((0 : BitVec 8).toNat : Int)) with hb8 | hb8
 ·replace H := ite_t hb8 H
  refine Cd.condT rfl hb8 ?_
  refine Cd.seq ?_
  refine Cd.as (e' := []) (L' := (.blk b1 (enc (FlushR.mk a0 rs_a0_2)) 71) :: L) trivial rfl ?_
  refine Cd.region ?_
  refine Lst.r (Ev.assign rfl) ?_
  refine Lst.nil ?_
  refine At.then ?_
  obtain rfl := some_inj H
  refine Cd.ret ?_
  refine At.then_ret ?_
  exact At.ret1 rfl (Res.tmp rfl) (FLe.refl _) (sc1 (.refl _)) ⟨rfl, rfl⟩
 replace H := ite_f hb8 H
 refine Cd.condF rfl hb8 ?_
 refine Cd.skip ?_
 refine At.then ?_
 refine Cd.seq ?_
 refine Cd.seq ?_
 refine Cd.as (e' := [(1, pv b1 0)]) (L' := (.blk b1 (enc (FlushR.mk a0 rs_a0_2)) 71) :: L) ⟨rfl, trivial⟩ rfl ?_
 refine Cd.region ?_
 refine Lst.r (Ev.fieldAddr (off' := 3) rfl Try.runUnderlying71 rfl Try.sizeOf69 rfl rfl) ?_
 refine Lst.r (Ev.loadA (i := 0) rfl rfl Try.isAgg69 Try.sizeOf69 (ch := enc rs_a0_2) (Enc.len _) ((FlushR.get_Told (Get.here _)).off (by rfl))) ?_
 refine Lst.r (Ev.move rfl) ?_
 refine Lst.nil ?_
 refine At.then ?_
 refine Cd.block ?_
 obtain ⟨ol9, H, HKl9⟩ := andThen_some H
 refine Cd.loop (σ := Nat × Nat × Unit) (fun (i9, k9, _u) => [(1, pv b1 0), (22, .agg (enc rs_a0_2).toArray), (23, iv (i9 : Int))]) (fun (i9, k9, _u) => (.blk b1 (enc (FlushR.mk a0 rs_a0_2)) 71) :: L) (fun _ => (fun (i9, k9, _u) => rangeM (flush_Check_B0 a0) k9 i9 () = some ol9 ∧ i9 + k9 = 6)) (fun (i9, k9, _u) => k9) (0, 6, ()) ⟨rfl, rfl, rfl, trivial⟩ rfl ⟨H, by omega⟩ ?_
 rintro F10 ⟨i9, k9, _u⟩ hF11 ⟨H, hik9⟩
 refine Cd.as (e' := [(1, pv b1 0), (22, .agg (enc rs_a0_2).toArray), (23, iv (i9 : Int))]) (L' := (.blk b1 (enc (FlushR.mk a0 rs_a0_2)) 71) :: L) ⟨rfl, rfl, rfl, trivial⟩ rfl ?_
 rcases k9 with _ | k9
 ·have hc9 : decide ((i9 : Int) < (6 : Int)) = false := decide_eq_false (by omega)
  replace H := rangeM_end H
  refine Cd.seq ?_
  refine Cd.region ?_
  refine Lst.r (Ev.lss rfl rfl) ?_
  refine Lst.nil ?_
  refine At.then ?_
  refine Cd.seq ?_
  refine Cd.condF rfl hc9 ?_
  refine Cd.exit ?_
  refine At.then_exit ?_
  refine At.then_exit ?_
  refine At.in_exit ?_
  subst H
  replace H := HKl9
  refine At.then ?_
  refine Cd.seq ?_
  refine Cd.region ?_
  refine Lst.r (Ev.assign rfl) ?_
  refine Lst.nil ?_
  refine At.then ?_
  obtain rfl := some_inj H
  refine Cd.ret ?_
  exact At.ret1 rfl (Res.tmp rfl) hF11 (sc1 (.refl _)) ⟨rfl, rfl⟩
 have hc9 : decide ((i9 : Int) < (6 : Int)) = true := decide_eq_true (by omega)
 obtain ⟨c9, H, hgo9, hbrk9, hret9⟩ := rangeM_go H
 unfold flush_Check_B0 at H
 try dsimp only at H
 refine Cd.seq ?_
 refine Cd.region ?_
 refine Lst.r (Ev.lss rfl rfl) ?_
 refine Lst.nil ?_
 refine At.then ?_
 refine Cd.seq ?_
 refine Cd.condT rfl hc9 ?_
 refine Cd.skip ?_
 refine At.then ?_
 refine Cd.seq ?_
 refine Cd.block ?_
 refine Cd.seq ?_
 refine Cd.region ?_
 refine Lst.r (Ev.move rfl) ?_
 obtain ⟨x12, h13, H⟩ := bind_some H
 have g14 := vat_some h13
 obtain ⟨⟨r15v, r15h⟩, r15g, r15e, r15m, r15l⟩ := vmap_get hm_a0_2 g14.2.2
 obtain rfl : x12 = r15v := r15e.symm
 have r15q : Rd w0 _ _ r15h x12 := ha_a0_2 _ r15m
 refine Lst.r (Ev.index1 rfl rfl Try.runUnderlying69 Try.isAgg36 Try.sizeOf36 g14.1 g14.2.1 rfl ((Get.vecN (s := 1) rfl r15g (Get.here _)).off (by omega))) ?_
 refine Lst.r (Ev.assign rfl) ?_
 refine Lst.r (Ev.assign rfl) ?_
 refine Lst.nil ?_
 refine At.then ?_
 refine Cd.seq ?_
 refine Cd.block ?_
 refine Cd.seq ?_
 refine Cd.region ?_
 refine Lst.r (Ev.move rfl) ?_
 refine Lst.r (Ev.lenS (α := Int) (xs := x12) (by decide) rfl rfl Try.runUnderlying36 (r15q.mono hF11 (sc1 hM))) ?_
 refine Lst.r (Ev.gtr rfl rfl) ?_
 refine Lst.r (Ev.assign rfl) ?_
 refine Lst.nil ?_
 refine At.then ?_
 rcases Bool.eq_false_or_eq_true (decide ((x12.length : Int) > (30 : Int))) with hb16 | hb16
 ·replace H := ite_t hb16 H
  refine Cd.condT rfl hb16 ?_
  refine Cd.seq ?_
  refine Cd.region ?_
  refine Lst.r (Ev.assign rfl) ?_
  refine Lst.nil ?_
  refine At.then ?_
  have H := hret9 _ (some_inj H).symm
  subst H
  replace H := HKl9
  obtain rfl := some_inj H
  refine Cd.ret ?_
  refine At.in_ret ?_
  refine At.then_ret ?_
  refine At.in_ret ?_
  refine At.then_ret ?_
  refine At.then_ret ?_
  refine At.in_ret ?_
  refine At.then_ret ?_
  exact At.ret1 rfl (Res.tmp rfl) hF11 (sc1 (.refl _)) ⟨rfl, rfl⟩
 replace H := ite_f hb16 H
 refine Cd.condF rfl hb16 ?_
 refine Cd.seq ?_
 refine Cd.region ?_
 refine Lst.r (Ev.move rfl) ?_
 refine Lst.r (Ev.lenS (α := Int) (xs := x12) (by decide) rfl rfl Try.runUnderlying36 (r15q.mono hF11 (sc1 hM))) ?_
 refine Lst.r (Ev.gtr rfl rfl) ?_
 refine Lst.r (Ev.move rfl) ?_
 obtain ⟨o17, H, HKo17⟩ := bind_some H
 refine Lst.join (σ := Bool) 8 (fun y18 => [(1, pv b1 0), (5, Sl.v r15h), (22, .agg (enc rs_a0_2).toArray), (23, iv (i9 : Int)), (43, .bool y18)]) (fun y18 => (.blk b1 (enc (FlushR.mk a0 rs_a0_2)) 71) :: L) (fun _ y18 => y18 = o17) ?_ ?_
 ·rcases (Bool.eq_false_or_eq_true (decide ((x12.length : Int) > (0 : Int)))).symm with hb19 | hb19
  ·replace H := ite_f hb19 H
   refine Lst.skip rfl rfl rfl hb19 rfl (by decide) ?_
   refine Lst.skip rfl rfl rfl hb19 rfl (by decide) ?_
   refine Lst.skip rfl rfl rfl hb19 rfl (by decide) ?_
   refine Lst.skip rfl rfl rfl hb19 rfl (by decide) ?_
   refine Lst.skip rfl rfl rfl hb19 rfl (by decide) ?_
   refine Lst.skip rfl rfl rfl hb19 rfl (by decide) ?_
   refine Lst.skip rfl rfl rfl hb19 rfl (by decide) ?_
   refine Lst.r (Ev.pickF rfl hb19 rfl) ?_
   refine Lst.nil ?_
   exact At.meet false (FLe.refl _) ⟨rfl, rfl, rfl, rfl, rfl, trivial⟩ rfl (some_inj H)
  replace H := ite_t hb19 H
  refine Lst.rG hb19 (Ev.fieldAddr (off' := 0) rfl Try.runUnderlying71 rfl Try.sizeOf68 rfl rfl) ?_
  refine Lst.rG hb19 (Ev.fieldAddr (off' := 1) rfl Try.runUnderlying68 rfl Try.sizeOf5 rfl rfl) ?_
  refine Lst.rG hb19 (Ev.load (i := 0) rfl rfl Try.isAgg5 (v := .int .u8 a0.View_.Members.toNat) ((FlushR.get_View_ (View.get_Members (Get.here _))).off (by rfl))) ?_
  refine Lst.rG hb19 (Ev.move rfl) ?_
  obtain ⟨n20, h21, H⟩ := bind_some H
  refine Lst.rG hb19 (Ev.shrU8 (i := a0.View_.Members) (m := n20) rfl (congrArg some (congrArg (Value.int .i64) (cnt_some h21)))) ?_
  refine Lst.rG hb19 (Ev.andU8 (i := a0.View_.Members >>> n20) (j := (1 : BitVec 8)) rfl rfl) ?_
  refine Lst.rG hb19 (Ev.eql rfl rfl) ?_
  refine Lst.r (Ev.pickT rfl hb19 rfl) ?_
  refine Lst.nil ?_
  exact At.meet ((((a0.View_.Members >>> n20) &&& (1 : BitVec 8)).toNat : Int) == ((0 : BitVec 8).toNat : Int)) (FLe.refl _) ⟨rfl, rfl, rfl, rfl, rfl, trivial⟩ rfl (some_inj H)
 rintro F23 y18 hF24 hy
 subst hy
 refine Lst.as (e' := [(1, pv b1 0), (5, Sl.v r15h), (22, .agg (enc rs_a0_2).toArray), (23, iv (i9 : Int)), (43, .bool y18)]) (L' := (.blk b1 (enc (FlushR.mk a0 rs_a0_2)) 71) :: L) ⟨rfl, rfl, rfl, rfl, rfl, trivial⟩ rfl ?_
 replace H := HKo17
 refine Lst.r (Ev.assign rfl) ?_
 refine Lst.nil ?_
 refine At.then ?_
 rcases Bool.eq_false_or_eq_true y18 with hb25 | hb25
 ·replace H := ite_t hb25 H
  refine Cd.condT rfl hb25 ?_
  refine Cd.seq ?_
  refine Cd.region ?_
  refine Lst.r (Ev.assign rfl) ?_
  refine Lst.nil ?_
  refine At.then ?_
  have H := hret9 _ (some_inj H).symm
  subst H
  replace H := HKl9
  obtain rfl := some_inj H
  refine Cd.ret ?_
  refine At.in_ret ?_
  refine At.then_ret ?_
  refine At.in_ret ?_
  refine At.then_ret ?_
  refine At.then_ret ?_
  refine At.in_ret ?_
  refine At.then_ret ?_
  exact At.ret1 rfl (Res.tmp rfl) (FLe.trans hF11 hF24) (sc1 (.refl _)) ⟨rfl, rfl⟩
 replace H := ite_f hb25 H
 refine Cd.condF rfl hb25 ?_
 refine Cd.skip ?_
 refine At.in_normal ?_
 refine At.then ?_
 refine Cd.seq ?_
 refine Cd.region ?_
 refine Lst.r (Ev.move rfl) ?_
 refine Lst.r (Ev.lenS (α := Int) (xs := x12) (by decide) rfl rfl Try.runUnderlying36 (r15q.mono (FLe.trans hF11 hF24) (sc1 hM))) ?_
 refine Lst.r (Ev.move rfl) ?_
 refine Lst.nil ?_
 refine At.then ?_
 refine Cd.block ?_
 refine Cd.bound (Rd.le (α := Int) (xs := x12) (by decide) (r15q.mono (FLe.trans hF11 hF24) (sc1 hM))) (fun hN51 => ?_)
 obtain ⟨ol26, H, HKl26⟩ := andThen_some H
 refine Cd.loop (σ := Nat × Nat × Unit) (fun (i26, k26, _u) => [(1, pv b1 0), (5, Sl.v r15h), (22, .agg (enc rs_a0_2).toArray), (23, iv (i9 : Int)), (44, Sl.v r15h), (45, iv (x12.length : Int)), (46, iv (i26 : Int))]) (fun (i26, k26, _u) => (.blk b1 (enc (FlushR.mk a0 rs_a0_2)) 71) :: L) (fun _ => (fun (i26, k26, _u) => rangeM (flush_Check_B3 x12) k26 i26 () = some ol26 ∧ i26 + k26 = x12.length)) (fun (i26, k26, _u) => k26) (0, x12.length, ()) ⟨rfl, rfl, rfl, rfl, rfl, rfl, rfl, trivial⟩ rfl ⟨H, by omega⟩ ?_
 rintro F27 ⟨i26, k26, _u⟩ hF28 ⟨H, hik26⟩
 refine Cd.as (e' := [(1, pv b1 0), (5, Sl.v r15h), (22, .agg (enc rs_a0_2).toArray), (23, iv (i9 : Int)), (44, Sl.v r15h), (45, iv (x12.length : Int)), (46, iv (i26 : Int))]) (L' := (.blk b1 (enc (FlushR.mk a0 rs_a0_2)) 71) :: L) ⟨rfl, rfl, rfl, rfl, rfl, rfl, rfl, trivial⟩ rfl ?_
 rcases k26 with _ | k26
 ·have hc26 : decide ((i26 : Int) < (x12.length : Int)) = false := decide_eq_false (by omega)
  replace H := rangeM_end H
  refine Cd.seq ?_
  refine Cd.region ?_
  refine Lst.r (Ev.lss rfl rfl) ?_
  refine Lst.nil ?_
  refine At.then ?_
  refine Cd.seq ?_
  refine Cd.condF rfl hc26 ?_
  refine Cd.exit ?_
  refine At.then_exit ?_
  refine At.then_exit ?_
  refine At.in_exit ?_
  subst H
  replace H := HKl26
  refine At.in_normal ?_
  refine At.then ?_
  refine Cd.region ?_
  refine Lst.r (Ev.incr (by omega) rfl rfl) ?_
  refine Lst.r (Ev.move rfl) ?_
  refine Lst.nil ?_
  exact At.meet (i9 + 1, k9, ()) (FLe.trans (FLe.trans hF11 hF24) hF28) ⟨rfl, rfl, rfl, trivial⟩ rfl ⟨⟨hgo9 _ (some_inj H).symm, by omega⟩, Nat.lt_succ_self _⟩
 have hc26 : decide ((i26 : Int) < (x12.length : Int)) = true := decide_eq_true (by omega)
 obtain ⟨c26, H, hgo26, hbrk26, hret26⟩ := rangeM_go H
 unfold flush_Check_B3 at H
 try dsimp only at H
 refine Cd.seq ?_
 refine Cd.region ?_
 refine Lst.r (Ev.lss rfl rfl) ?_
 refine Lst.nil ?_
 refine At.then ?_
 refine Cd.seq ?_
 refine Cd.condT rfl hc26 ?_
 refine Cd.skip ?_
 refine At.then ?_
 refine Cd.seq ?_
 refine Cd.block ?_
 refine Cd.seq ?_
 refine Cd.region ?_
 refine Lst.r (Ev.move rfl) ?_
 obtain ⟨x29, h30, H⟩ := bind_some H
 have g31 := lat_some h30
 refine Lst.r (Ev.indexS (α := Int) (xs := x12) rfl rfl Try.runUnderlying36 Try.sizeOf3 rfl (by decide) (r15q.mono (FLe.trans (FLe.trans hF11 hF24) hF28) (sc1 hM)) g31.1 g31.2.1) ?_
 refine Lst.r (Ev.loadS (α := Int) rfl (r15q.mono (FLe.trans (FLe.trans hF11 hF24) hF28) (sc1 hM)) Try.isAgg3 (v := iv x29) ((Get.elemN (s := 1) (x := x29) rfl g31.2.2 (Get.here _)).off (by omega))) ?_
 refine Lst.r (Ev.assign rfl) ?_
 refine Lst.r (Ev.assign rfl) ?_
 refine Lst.nil ?_
 refine At.then ?_
 refine Cd.seq ?_
 refine Cd.region ?_
 refine Lst.r (Ev.move rfl) ?_
 obtain ⟨r32, h33, H⟩ := bind_some H
 refine Lst.call1 rfl rfl (by decide) (vs := [iv x29]) ⟨rfl, trivial⟩ Try.call132 (flush_message_sim h33 w0 _ M _ (sc1 hM)) ?_
 refine Lst.r (Ev.not rfl) ?_
 refine Lst.r (Ev.move rfl) ?_
 obtain ⟨o36, H, HKo36⟩ := bind_some H
 refine Lst.join (σ := Bool) 6 (fun y37 => [(1, pv b1 0), (5, Sl.v r15h), (22, .agg (enc rs_a0_2).toArray), (23, iv (i9 : Int)), (44, Sl.v r15h), (45, iv (x12.length : Int)), (46, iv (i26 : Int)), (60, .bool y37)]) (fun y37 => (.blk b1 (enc (FlushR.mk a0 rs_a0_2)) 71) :: L) (fun _ y37 => y37 = o36) ?_ ?_
 ·rcases Bool.eq_false_or_eq_true (!r32) with hb38 | hb38
  ·replace H := ite_t hb38 H
   refine Lst.skip rfl rfl rfl hb38 rfl (by decide) ?_
   refine Lst.skip rfl rfl rfl hb38 rfl (by decide) ?_
   refine Lst.skip rfl rfl rfl hb38 rfl (by decide) ?_
   refine Lst.skip rfl rfl rfl hb38 rfl (by decide) ?_
   refine Lst.skip rfl rfl rfl hb38 rfl (by decide) ?_
   refine Lst.r (Ev.pickT rfl hb38 rfl) ?_
   refine Lst.nil ?_
   exact At.meet true (FLe.refl _) ⟨rfl, rfl, rfl, rfl, rfl, rfl, rfl, rfl, trivial⟩ rfl (some_inj H)
  replace H := ite_f hb38 H
  refine Lst.rG hb38 (Ev.move rfl) ?_
  refine Lst.rG hb38 (Ev.move rfl) ?_
  obtain ⟨m39, h40, H⟩ := bind_some H
  obtain ⟨g41, gl42⟩ := cutL_some h40
  try dsimp only at g41
  have hq43 : Rd w0 F M (r15h.cut (0 : Int).toNat ((i26 : Int) : Int).toNat 1) m39 := by rw [← gl42]; exact Rd.cut (by decide) r15q (by omega) (by omega)
  refine Lst.rG hb38 (Ev.cut (α := Int) (xs := x12) (i := 0) (j := (i26 : Int)) rfl rfl rfl Try.runUnderlying36 Try.sizeOf3 rfl (by decide) (r15q.mono (FLe.trans (FLe.trans hF11 hF24) hF28) (sc1 hM)) g41.1 g41.2.1 g41.2.2) ?_
  refine Lst.rG hb38 (Ev.move rfl) ?_
  obtain ⟨r44, h45, H⟩ := bind_some H
  refine Lst.call1G rfl rfl rfl hb38 rfl (by decide) (vs := [Sl.v (r15h.cut (0 : Int).toNat ((i26 : Int) : Int).toNat 1), iv x29]) ⟨rfl, rfl, trivial⟩ Try.call50 (slices_Contains_int_int_sim h45 w0 _ M _ (sc1 hM) (hq43.mono (FLe.trans (FLe.trans hF11 hF24) hF28) (.refl _))) ?_
  refine Lst.r (Ev.pickF rfl hb38 rfl) ?_
  refine Lst.nil ?_
  exact At.meet r44 (FLe.refl _) ⟨rfl, rfl, rfl, rfl, rfl, rfl, rfl, rfl, trivial⟩ rfl (some_inj H)
 rintro F48 y37 hF49 hy
 subst hy
 refine Lst.as (e' := [(1, pv b1 0), (5, Sl.v r15h), (22, .agg (enc rs_a0_2).toArray), (23, iv (i9 : Int)), (44, Sl.v r15h), (45, iv (x12.length : Int)), (46, iv (i26 : Int)), (60, .bool y37)]) (L' := (.blk b1 (enc (FlushR.mk a0 rs_a0_2)) 71) :: L) ⟨rfl, rfl, rfl, rfl, rfl, rfl, rfl, rfl, trivial⟩ rfl ?_
 replace H := HKo36
 refine Lst.nil ?_
 refine At.then ?_
 rcases Bool.eq_false_or_eq_true y37 with hb50 | hb50
 ·replace H := ite_t hb50 H
  refine Cd.condT rfl hb50 ?_
  refine Cd.seq ?_
  refine Cd.region ?_
  refine Lst.r (Ev.assign rfl) ?_
  refine Lst.nil ?_
  refine At.then ?_
  have H := hret26 _ (some_inj H).symm
  subst H
  replace H := HKl26
  have H := hret9 _ (some_inj H).symm
  subst H
  replace H := HKl9
  obtain rfl := some_inj H
  refine Cd.ret ?_
  refine At.in_ret ?_
  refine At.then_ret ?_
  refine At.then_ret ?_
  refine At.in_ret ?_
  refine At.in_ret ?_
  refine At.then_ret ?_
  refine At.then_ret ?_
  refine At.in_ret ?_
  refine At.then_ret ?_
  exact At.ret1 rfl (Res.tmp rfl) (FLe.trans (FLe.trans (FLe.trans hF11 hF24) hF28) hF49) (sc1 (.refl _)) ⟨rfl, rfl⟩
 replace H := ite_f hb50 H
 refine Cd.condF rfl hb50 ?_
 refine Cd.skip ?_
 refine At.in_normal ?_
 refine At.then ?_
 refine Cd.region ?_
 refine Lst.r (Ev.incr (by omega) rfl rfl) ?_
 refine Lst.r (Ev.move rfl) ?_
 refine Lst.nil ?_
 exact At.meet (i26 + 1, k26, ()) (FLe.trans hF28 hF49) ⟨rfl, rfl, rfl, rfl, rfl, rfl, rfl, trivial⟩ rfl ⟨⟨hgo26 _ (some_inj H).symm, by omega⟩, Nat.lt_succ_self _⟩
set_option maxRecDepth 20000 in
theorem flush_process_sim {a0 : Int} {r : Bool} (H : flush_process a0 = some r) (w0 : World) (F : Frz) (M L : List Item) (hM : M.Sublist L) : Ok Try.prog w0 131 [iv a0] F (L) (Is (.bool r) (L)) := by
 unfold flush_process at H
 refine Ok.enter (m := 1) (n := 5) Try.func131 rfl rfl rfl (by decide) ?_
 refine Cd.env (e' := [(0, iv a0)]) rfl ?_
 refine Cd.seq ?_
 refine Cd.region ?_
 refine Lst.r (Ev.assign rfl) ?_
 refine Lst.nil ?_
 refine At.then ?_
 refine Cd.seq ?_
 refine Cd.region ?_
 refine Lst.r (Ev.move rfl) ?_
 obtain ⟨r1, h2, H⟩ := bind_some H
 refine Lst.call1 rfl rfl (by decide) (vs := [iv a0, iv (0 : Int), iv (5 : Int)]) ⟨rfl, rfl, rfl, trivial⟩ Try.call179 (flush_in_sim h2 w0 _ M _ hM) ?_
 refine Lst.r (Ev.assign rfl) ?_
 refine Lst.nil ?_
 refine At.then ?_
 obtain rfl := some_inj H
 refine Cd.ret ?_
 exact At.ret1 rfl (Res.tmp rfl) (FLe.refl _) (.refl _) ⟨rfl, rfl⟩
set_option maxRecDepth 20000 in
theorem slices_Clone_int_int_sim {a0 : List Int} {s_a0 : Sl} {r : (List Int)} (H : slices_Clone_int_int a0 = some r) (w0 : World) (F : Frz) (M L : List Item) (hM : M.Sublist L) (hs_a0 : Rd w0 F M s_a0 a0) : Ok Try.prog w0 129 [Sl.v s_a0] F (L) (fun _ L' v => ∃ (s1 : Sl), v = Sl.v s1 ∧ L' = (.own s1 3 1 (encs r)) :: L) := by
 unfold slices_Clone_int_int at H
 refine Ok.enter (m := 1) (n := 8) Try.func129 rfl rfl rfl (by decide) ?_
 refine Cd.env (e' := [(0, Sl.v s_a0)]) rfl ?_
 refine Cd.seq ?_
 refine Cd.region ?_
 refine Lst.addNil 3 1 ?_
 refine Lst.r (Ev.assign rfl) ?_
 refine Lst.nil ?_
 refine At.then ?_
 refine Cd.seq ?_
 refine Cd.seq ?_
 refine Cd.region ?_
 refine Lst.r (Ev.move rfl) ?_
 refine Lst.r (Ev.eqlNil rfl Try.runUnderlying36) ?_
 refine Lst.nil ?_
 refine At.then ?_
 rcases Bool.eq_false_or_eq_true ((Sl.a s_a0).isNone) with hb2 | hb2
 ·refine Cd.bound (Rd.isNil (α := Int) (by decide) (hs_a0.mono (FLe.refl _) (sc1 hM)) hb2) (fun hx9 => ?_)
  rw [clone_nil hx9] at H
  refine Cd.condT rfl hb2 ?_
  refine Cd.seq ?_
  refine Cd.region ?_
  refine Lst.addNil 3 1 ?_
  refine Lst.r (Ev.assign rfl) ?_
  refine Lst.nil ?_
  refine At.then ?_
  obtain rfl := some_inj H
  refine Cd.ret ?_
  refine At.then_ret ?_
  exact At.ret1 rfl (Res.tmp rfl) (FLe.refl _) (sk1 (sc1 (.refl _))) ⟨Sl.nil, rfl, rfl⟩
 refine Cd.condF rfl hb2 ?_
 refine Cd.skip ?_
 refine At.then ?_
 refine Cd.seq ?_
 refine Cd.region ?_
 refine Lst.buildSlice0 rfl rfl (by decide) Try.runUnderlying36 Try.sizeOf3 (fun s3 => ?_)
 refine Lst.its (L' := (.own s3 3 1 (encs ([] : List Int))) :: (.own Sl.nil 3 1 (encs ([] : List Int))) :: L) rfl ?_
 refine Lst.r (Ev.move rfl) ?_
 obtain ⟨u5, h6, H⟩ := bind_some H
 refine Lst.append (i := 0) (α := Int) (xs := ([] : List Int)) (ys := a0) rfl rfl (by decide) rfl rfl Try.runUnderlying36 Try.typeInfo3 rfl rfl rfl rfl rfl rfl (hs_a0.mono (FLe.refl _) (sc2 hM)) rfl (room_some h6) rfl (fun s7 => ?_)
 refine Lst.its (L' := (.own s7 3 1 (encs (([] : List Int) ++ a0))) :: (.own Sl.nil 3 1 (encs ([] : List Int))) :: L) rfl ?_
 refine Lst.r (Ev.assign rfl) ?_
 refine Lst.nil ?_
 refine At.then ?_
 obtain rfl := some_inj H
 refine Cd.ret ?_
 exact At.ret1 rfl (Res.tmp rfl) (FLe.refl _) (sk1 (sc1 (.refl _))) ⟨s7, rfl, rfl⟩
set_option maxRecDepth 20000 in
theorem flush_clone_sim {a0 : Flush} {rs_a0_2 : Vector (LR Int) 6} {r : Flush} (H : flush_clone a0 = some r) (w0 : World) (F : Frz) (M L : List Item) (hM : M.Sublist L) (hm_a0_2 : rs_a0_2.toList.map LR.v = a0.Told.toList) (ha_a0_2 : All LR.rel w0 F M rs_a0_2.toList) : Ok Try.prog w0 133 [.agg (enc (FlushR.mk a0 rs_a0_2)).toArray] F (L) (fun Fx L' v => ∃ (rs1 : Vector (LR Int) 6), v = .agg (enc (FlushR.mk r rs1)).toArray ∧ L' = (.rows (α := Int) 3 rs1.toList) :: L ∧ rs1.toList.map LR.v = r.Told.toList) := by
 unfold flush_clone at H
 refine Ok.enter (m := 1) (n := 18) Try.func133 rfl rfl rfl (by decide) ?_
 refine Cd.env (e' := [(0, .agg (enc (FlushR.mk a0 rs_a0_2)).toArray)]) rfl ?_
 refine Cd.seq ?_
 refine Cd.region ?_
 refine Lst.box rfl rfl (by decide) rfl (cs := enc (FlushR.mk a0 rs_a0_2)) rfl (fun b1 => ?_)
 have hm3 : (Vector.replicate 6 ⟨[], Sl.nil⟩ : Vector (LR Int) 6).toList.map LR.v = (Vector.replicate 6 [] : Vector (List Int) 6).toList := vmap_rep _ _
 have ha4 : All LR.rel w0 F [] (Vector.replicate 6 ⟨[], Sl.nil⟩ : Vector (LR Int) 6).toList := vAll_rep Rd.nil
 refine Lst.alloc (cs := enc (FlushR.mk Flush.zero (Vector.replicate 6 ⟨[], Sl.nil⟩ : Vector (LR Int) 6))) rfl rfl (by decide) Try.zeroValue71 rfl (fun b5 => ?_)
 refine Lst.nil ?_
 refine At.then ?_
 refine Cd.seq ?_
 refine Cd.seq ?_
 refine Cd.region ?_
 refine Lst.r (Ev.fieldAddr (off' := 3) rfl Try.runUnderlying71 rfl Try.sizeOf69 rfl rfl) ?_
 refine Lst.r (Ev.loadA (i := 1) rfl rfl Try.isAgg69 Try.sizeOf69 (ch := enc rs_a0_2) (Enc.len _) ((FlushR.get_Told (Get.here _)).off (by rfl))) ?_
 refine Lst.r (Ev.move rfl) ?_
 refine Lst.nil ?_
 refine At.then ?_
 refine Cd.block ?_
 refine Cd.rowsNil Int 3 6 ?_
 refine Cd.its (L' := (.rows (α := Int) 3 (vmask 0 rs_a0_2)) :: (.blk b5 (enc (FlushR.mk Flush.zero (Vector.replicate 6 ⟨[], Sl.nil⟩ : Vector (LR Int) 6))) 71) :: (.blk b1 (enc (FlushR.mk a0 rs_a0_2)) 71) :: L) (by rw [vmask_zero]) ?_
 obtain ⟨ol7, H, HKl7⟩ := bind_some H
 refine Cd.loop (σ := Nat × Nat × Flush × (Vector (LR Int) 6)) (fun (i7, k7, y9, rs10) => [(1, pv b1 0), (2, pv b5 0), (6, .agg (enc rs_a0_2).toArray), (7, iv (i7 : Int))]) (fun (i7, k7, y9, rs10) => (.rows (α := Int) 3 (vmask i7 rs10)) :: (.blk b5 (enc (FlushR.mk Flush.zero (Vector.replicate 6 ⟨[], Sl.nil⟩ : Vector (LR Int) 6))) 71) :: (.blk b1 (enc (FlushR.mk y9 rs10)) 71) :: L) (fun Fx => (fun (i7, k7, y9, rs10) => rangeF (flush_clone_B0 a0) k7 i7 y9 = some ol7 ∧ i7 + k7 = 6 ∧ rs10.toList.map LR.v = y9.Told.toList)) (fun (i7, k7, y9, rs10) => k7) (0, 6, a0, rs_a0_2) ⟨rfl, rfl, rfl, rfl, trivial⟩ rfl ⟨H, by omega, hm_a0_2⟩ ?_
 rintro F13 ⟨i7, k7, y9, rs10⟩ hF14 ⟨H, hik7, fm11⟩
 refine Cd.as (e' := [(1, pv b1 0), (2, pv b5 0), (6, .agg (enc rs_a0_2).toArray), (7, iv (i7 : Int))]) (L' := (.rows (α := Int) 3 (vmask i7 rs10)) :: (.blk b5 (enc (FlushR.mk Flush.zero (Vector.replicate 6 ⟨[], Sl.nil⟩ : Vector (LR Int) 6))) 71) :: (.blk b1 (enc (FlushR.mk y9 rs10)) 71) :: L) ⟨rfl, rfl, rfl, rfl, trivial⟩ rfl ?_
 rcases k7 with _ | k7
 ·have hc7 : decide ((i7 : Int) < (6 : Int)) = false := decide_eq_false (by omega)
  replace H := rangeF_end H
  refine Cd.seq ?_
  refine Cd.region ?_
  refine Lst.r (Ev.lss rfl rfl) ?_
  refine Lst.nil ?_
  refine At.then ?_
  refine Cd.seq ?_
  refine Cd.condF rfl hc7 ?_
  refine Cd.exit ?_
  refine At.then_exit ?_
  refine At.then_exit ?_
  refine At.in_exit ?_
  subst H
  refine At.its (L' := (.rows (α := Int) 3 rs10.toList) :: (.blk b5 (enc (FlushR.mk Flush.zero (Vector.replicate 6 ⟨[], Sl.nil⟩ : Vector (LR Int) 6))) 71) :: (.blk b1 (enc (FlushR.mk y9 rs10)) 71) :: L) (by rw [vmask_full (rs := rs10) (by have := of_decide_eq_false hc7; omega)]) ?_
  replace H := HKl7
  refine At.then ?_
  refine Cd.seq ?_
  refine Cd.region ?_
  refine Lst.r (Ev.loadA (i := 2) rfl rfl Try.isAgg71 Try.sizeOf71 (ch := enc (FlushR.mk y9 rs10)) (Enc.len _) (Get.here _)) ?_
  refine Lst.store (i := 1) rfl rfl rfl rfl rfl Try.sizeOf71 (vs := enc (FlushR.mk y9 rs10)) rfl (Enc.len _) (Enc.one _) (cs' := enc (FlushR.mk y9 rs10)) (Put.here ((Enc.len _).trans (Enc.len _).symm)) (L' := (.rows (α := Int) 3 rs10.toList) :: (.blk b5 (enc (FlushR.mk y9 rs10)) 71) :: (.blk b1 (enc (FlushR.mk y9 rs10)) 71) :: L) rfl ?_
  refine Lst.nil ?_
  refine At.then ?_
  obtain rfl := some_inj H
  refine Cd.ret ?_
  exact At.ret1 rfl (Res.cellA (i := 1) rfl rfl Try.isAgg71 Try.sizeOf71 (Enc.len _)) hF14 (sk1 (sc1 (sc1 (.refl _)))) ⟨rs10, rfl, rfl, fm11⟩
 have hc7 : decide ((i7 : Int) < (6 : Int)) = true := decide_eq_true (by omega)
 obtain ⟨c7, H, hgo7⟩ := rangeF_go H
 unfold flush_clone_B0 at H
 try dsimp only at H
 refine Cd.seq ?_
 refine Cd.region ?_
 refine Lst.r (Ev.lss rfl rfl) ?_
 refine Lst.nil ?_
 refine At.then ?_
 refine Cd.seq ?_
 refine Cd.condT rfl hc7 ?_
 refine Cd.skip ?_
 refine At.then ?_
 refine Cd.seq ?_
 refine Cd.block ?_
 refine Cd.seq ?_
 refine Cd.region ?_
 refine Lst.r (Ev.move rfl) ?_
 obtain ⟨x15, h16, H⟩ := bind_some H
 have g17 := vat_some h16
 obtain ⟨⟨r18v, r18h⟩, r18g, r18e, r18m, r18l⟩ := vmap_get hm_a0_2 g17.2.2
 obtain rfl : x15 = r18v := r18e.symm
 have r18q : Rd w0 _ _ r18h x15 := ha_a0_2 _ r18m
 refine Lst.r (Ev.index1 rfl rfl Try.runUnderlying69 Try.isAgg36 Try.sizeOf36 g17.1 g17.2.1 rfl ((Get.vecN (s := 1) rfl r18g (Get.here _)).off (by omega))) ?_
 refine Lst.r (Ev.assign rfl) ?_
 refine Lst.r (Ev.assign rfl) ?_
 refine Lst.nil ?_
 refine At.then ?_
 refine Cd.region ?_
 refine Lst.r (Ev.move rfl) ?_
 refine Lst.r (Ev.move rfl) ?_
 obtain ⟨r19, h20, H⟩ := bind_some H
 refine Lst.call rfl rfl (by decide) (vs := [Sl.v r18h]) ⟨rfl, trivial⟩ Try.call129 (slices_Clone_int_int_sim h20 w0 _ M _ (sc2 (sc1 hM)) (r18q.mono hF14 (.refl _))) (fun F23 L' v hF24 hv => ?_)
 obtain ⟨s21, rfl, rfl⟩ := hv
 refine Lst.r (Ev.fieldAddr (off' := 3) rfl Try.runUnderlying71 rfl Try.sizeOf69 rfl rfl) ?_
 obtain ⟨x25, h26, H⟩ := bind_some H
 have g27 := vat_some h26
 obtain ⟨⟨r28v, r28h⟩, r28g, r28e, r28m, r28l⟩ := vmap_get fm11 g27.2.2
 obtain rfl : x25 = r28v := r28e.symm
 refine Lst.r (Ev.indexAddr (off' := 3 + (i7 : Int).toNat * 1) rfl rfl Try.runUnderlying69 Try.sizeOf36 g27.1 g27.2.1 rfl) ?_
 obtain ⟨p29, h30, H⟩ := Let_some H
 have hm31 : (rs10.setIfInBounds (i7 : Int).toNat (LR.mk r19 s21)).toList.map LR.v = p29.toList := (vmap_set fm11 _ _).trans (congrArg Vector.toList h30)
 refine Lst.store (i := 3) rfl rfl rfl rfl rfl Try.sizeOf36 (vs := [Sl.v s21]) rfl rfl rfl (cs' := enc (FlushR.mk ({ y9 with Told := p29 } : Flush) (rs10.setIfInBounds (i7 : Int).toNat (LR.mk r19 s21)))) ((FlushR.put_Told (l := p29) (Put.vecN (s := 1) (y := (LR.mk r19 s21)) rfl r28g (Put.here (vs := [Sl.v s21]) rfl))).off (by omega)) (L' := (.own s21 3 1 (encs r19)) :: (.rows (α := Int) 3 (vmask i7 rs10)) :: (.blk b5 (enc (FlushR.mk Flush.zero (Vector.replicate 6 ⟨[], Sl.nil⟩ : Vector (LR Int) 6))) 71) :: (.blk b1 (enc (FlushR.mk ({ y9 with Told := p29 } : Flush) (rs10.setIfInBounds (i7 : Int).toNat (LR.mk r19 s21)))) 71) :: L) rfl ?_
 refine Lst.rowIn (k := (i7 : Int).toNat) (vmask_get (by omega)) rfl ?_
 refine Lst.its (L' := (.rows (α := Int) 3 (vmask (i7 + 1) (rs10.setIfInBounds (i7 : Int).toNat (LR.mk r19 s21)))) :: (.blk b5 (enc (FlushR.mk Flush.zero (Vector.replicate 6 ⟨[], Sl.nil⟩ : Vector (LR Int) 6))) 71) :: (.blk b1 (enc (FlushR.mk ({ y9 with Told := p29 } : Flush) (rs10.setIfInBounds (i7 : Int).toNat (LR.mk r19 s21)))) 71) :: L) (by rw [vmask_set (by omega)]) ?_
 refine Lst.nil ?_
 refine At.in_normal ?_
 refine At.then ?_
 refine Cd.region ?_
 refine Lst.r (Ev.incr (by omega) rfl rfl) ?_
 refine Lst.r (Ev.move rfl) ?_
 refine Lst.nil ?_
 exact At.meet (i7 + 1, k7, ({ y9 with Told := p29 } : Flush), (rs10.setIfInBounds (i7 : Int).toNat (LR.mk r19 s21))) (FLe.trans hF14 hF24) ⟨rfl, rfl, rfl, rfl, trivial⟩ rfl ⟨⟨hgo7 _ (some_inj H).symm, by omega, hm31⟩, Nat.lt_succ_self _⟩
set_option maxRecDepth 20000 in
theorem flush_Tell_sim {a0 : Flush} {a1 : Int} {a2 : Int} {rs_a0_2 : Vector (LR Int) 6} {r : Flush × Int} (H : flush_Tell a0 a1 a2 = some r) (w0 : World) (F : Frz) (M L : List Item) (hM : M.Sublist L) (hm_a0_2 : rs_a0_2.toList.map LR.v = a0.Told.toList) (ha_a0_2 : All LR.rel w0 F M rs_a0_2.toList) : Ok Try.prog w0 41 [.agg (enc (FlushR.mk a0 rs_a0_2)).toArray, iv a1, iv a2] F (L) (fun Fx L' v => ∃ (rs1 : Vector (LR Int) 6), v = .tuple #[.agg (enc (FlushR.mk r.1 rs1)).toArray, iv r.2] ∧ L' = L ∧ rs1.toList.map LR.v = r.1.Told.toList ∧ All LR.rel w0 Fx [] rs1.toList) := by
 unfold flush_Tell at H
 refine Ok.enter (m := 3) (n := 59) Try.func41 rfl rfl rfl (by decide) ?_
 refine Cd.env (e' := [(0, .agg (enc (FlushR.mk a0 rs_a0_2)).toArray), (1, iv a1), (2, iv a2)]) rfl ?_
 refine Cd.seq ?_
 refine Cd.region ?_
 refine Lst.box rfl rfl (by decide) rfl (cs := enc (FlushR.mk a0 rs_a0_2)) rfl (fun b1 => ?_)
 have hm3 : (Vector.replicate 6 ⟨[], Sl.nil⟩ : Vector (LR Int) 6).toList.map LR.v = (Vector.replicate 6 [] : Vector (List Int) 6).toList := vmap_rep _ _
 have ha4 : All LR.rel w0 F [] (Vector.replicate 6 ⟨[], Sl.nil⟩ : Vector (LR Int) 6).toList := vAll_rep Rd.nil
 refine Lst.alloc (cs := enc (FlushR.mk Flush.zero (Vector.replicate 6 ⟨[], Sl.nil⟩ : Vector (LR Int) 6))) rfl rfl (by decide) Try.zeroValue71 rfl (fun b5 => ?_)
 refine Lst.r (Ev.assign rfl) ?_
 refine Lst.nil ?_
 refine At.then ?_
 refine Cd.seq ?_
 refine Cd.seq ?_
 refine Cd.region ?_
 refine Lst.r (Ev.loadA (i := 1) rfl rfl Try.isAgg71 Try.sizeOf71 (ch := enc (FlushR.mk a0 rs_a0_2)) (Enc.len _) (Get.here _)) ?_
 obtain ⟨r7, h8, H⟩ := bind_some H
 refine Lst.call1 rfl rfl (by decide) (vs := [.agg (enc (FlushR.mk a0 rs_a0_2)).toArray]) ⟨rfl, trivial⟩ Try.call46 (flush_Check_sim h8 w0 _ M _ (sc2 hM) hm_a0_2 (All.monoLR ha_a0_2 (FLe.refl _) (.refl _))) ?_
 refine Lst.r (Ev.assign rfl) ?_
 refine Lst.nil ?_
 refine At.then ?_
 refine Cd.seq ?_
 refine Cd.region ?_
 refine Lst.r (Ev.move rfl) ?_
 refine Lst.r (Ev.neq rfl rfl) ?_
 refine Lst.nil ?_
 refine At.then ?_
 rcases Bool.eq_false_or_eq_true (r7 != (0 : Int)) with hb11 | hb11
 ·replace H := ite_t hb11 H
  refine Cd.condT rfl hb11 ?_
  refine Cd.seq ?_
  refine Cd.region ?_
  have hm12 : (Vector.replicate 6 ⟨[], Sl.nil⟩ : Vector (LR Int) 6).toList.map LR.v = (Vector.replicate 6 [] : Vector (List Int) 6).toList := vmap_rep _ _
  have ha13 : All LR.rel w0 F [] (Vector.replicate 6 ⟨[], Sl.nil⟩ : Vector (LR Int) 6).toList := vAll_rep Rd.nil
  refine Lst.r (Ev.build (v := .agg (enc (FlushR.mk Flush.zero (Vector.replicate 6 ⟨[], Sl.nil⟩ : Vector (LR Int) 6))).toArray) (pv := []) trivial (fun w => by kernel_rfl)) ?_
  refine Lst.r (Ev.move rfl) ?_
  refine Lst.store (i := 0) rfl rfl rfl rfl rfl Try.sizeOf71 (vs := enc (FlushR.mk Flush.zero (Vector.replicate 6 ⟨[], Sl.nil⟩ : Vector (LR Int) 6))) rfl (Enc.len _) (Enc.one _) (cs' := enc (FlushR.mk Flush.zero (Vector.replicate 6 ⟨[], Sl.nil⟩ : Vector (LR Int) 6))) (Put.here ((Enc.len _).trans (Enc.len _).symm)) (L' := (.blk b5 (enc (FlushR.mk Flush.zero (Vector.replicate 6 ⟨[], Sl.nil⟩ : Vector (LR Int) 6))) 71) :: (.blk b1 (enc (FlushR.mk a0 rs_a0_2)) 71) :: L) rfl ?_
  refine Lst.r (Ev.assign rfl) ?_
  refine Lst.nil ?_
  refine At.then ?_
  obtain rfl := some_inj H
  refine Cd.ret ?_
  refine At.then_ret ?_
  exact At.ret2 rfl (Res.cellA (i := 0) rfl rfl Try.isAgg71 Try.sizeOf71 (Enc.len _)) (Res.tmp rfl) (FLe.refl _) (sc1 (sc1 (.refl _))) ⟨(Vector.replicate 6 ⟨[], Sl.nil⟩ : Vector (LR Int) 6), rfl, rfl, hm12, (All.monoLR ha13 (FLe.refl _) (List.nil_sublist _))⟩
 replace H := ite_f hb11 H
 refine Cd.condF rfl hb11 ?_
 refine Cd.skip ?_
 refine At.then ?_
 refine Cd.seq ?_
 refine Cd.block ?_
 refine Cd.seq ?_
 refine Cd.region ?_
 refine Lst.r (Ev.move rfl) ?_
 obtain ⟨r14, h15, H⟩ := bind_some H
 refine Lst.call1 rfl rfl (by decide) (vs := [iv a1]) ⟨rfl, trivial⟩ Try.call131 (flush_process_sim h15 w0 _ M _ (sc2 hM)) ?_
 refine Lst.r (Ev.not rfl) ?_
 refine Lst.r (Ev.move rfl) ?_
 obtain ⟨o18, H, HKo18⟩ := bind_some H
 refine Lst.join (σ := Bool) 4 (fun y19 => [(1, iv a1), (2, iv a2), (3, pv b1 0), (6, pv b5 0), (24, .bool y19)]) (fun y19 => (.blk b5 (enc (FlushR.mk Flush.zero (Vector.replicate 6 ⟨[], Sl.nil⟩ : Vector (LR Int) 6))) 71) :: (.blk b1 (enc (FlushR.mk a0 rs_a0_2)) 71) :: L) (fun _ y19 => y19 = o18) ?_ ?_
 ·rcases Bool.eq_false_or_eq_true (!r14) with hb20 | hb20
  ·replace H := ite_t hb20 H
   refine Lst.skip rfl rfl rfl hb20 rfl (by decide) ?_
   refine Lst.skip rfl rfl rfl hb20 rfl (by decide) ?_
   refine Lst.skip rfl rfl rfl hb20 rfl (by decide) ?_
   refine Lst.r (Ev.pickT rfl hb20 rfl) ?_
   refine Lst.nil ?_
   exact At.meet true (FLe.refl _) ⟨rfl, rfl, rfl, rfl, rfl, trivial⟩ rfl (some_inj H)
  replace H := ite_f hb20 H
  refine Lst.rG hb20 (Ev.move rfl) ?_
  obtain ⟨r21, h22, H⟩ := bind_some H
  refine Lst.call1G rfl rfl rfl hb20 rfl (by decide) (vs := [iv a2]) ⟨rfl, trivial⟩ Try.call132 (flush_message_sim h22 w0 _ M _ (sc2 hM)) ?_
  refine Lst.rG hb20 (Ev.not rfl) ?_
  refine Lst.r (Ev.pickF rfl hb20 rfl) ?_
  refine Lst.nil ?_
  exact At.meet (!r21) (FLe.refl _) ⟨rfl, rfl, rfl, rfl, rfl, trivial⟩ rfl (some_inj H)
 rintro F25 y19 hF26 hy
 subst hy
 refine Lst.as (e' := [(1, iv a1), (2, iv a2), (3, pv b1 0), (6, pv b5 0), (24, .bool y19)]) (L' := (.blk b5 (enc (FlushR.mk Flush.zero (Vector.replicate 6 ⟨[], Sl.nil⟩ : Vector (LR Int) 6))) 71) :: (.blk b1 (enc (FlushR.mk a0 rs_a0_2)) 71) :: L) ⟨rfl, rfl, rfl, rfl, rfl, trivial⟩ rfl ?_
 replace H := HKo18
 refine Lst.r (Ev.assign rfl) ?_
 refine Lst.nil ?_
 refine At.then ?_
 rcases Bool.eq_false_or_eq_true y19 with hb27 | hb27
 ·replace H := ite_t hb27 H
  refine Cd.condT rfl hb27 ?_
  refine Cd.seq ?_
  refine Cd.region ?_
  have hm28 : (Vector.replicate 6 ⟨[], Sl.nil⟩ : Vector (LR Int) 6).toList.map LR.v = (Vector.replicate 6 [] : Vector (List Int) 6).toList := vmap_rep _ _
  have ha29 : All LR.rel w0 F25 [] (Vector.replicate 6 ⟨[], Sl.nil⟩ : Vector (LR Int) 6).toList := vAll_rep Rd.nil
  refine Lst.r (Ev.build (v := .agg (enc (FlushR.mk Flush.zero (Vector.replicate 6 ⟨[], Sl.nil⟩ : Vector (LR Int) 6))).toArray) (pv := []) trivial (fun w => by kernel_rfl)) ?_
  refine Lst.store (i := 0) rfl rfl rfl rfl rfl Try.sizeOf71 (vs := enc (FlushR.mk Flush.zero (Vector.replicate 6 ⟨[], Sl.nil⟩ : Vector (LR Int) 6))) rfl (Enc.len _) (Enc.one _) (cs' := enc (FlushR.mk Flush.zero (Vector.replicate 6 ⟨[], Sl.nil⟩ : Vector (LR Int) 6))) (Put.here ((Enc.len _).trans (Enc.len _).symm)) (L' := (.blk b5 (enc (FlushR.mk Flush.zero (Vector.replicate 6 ⟨[], Sl.nil⟩ : Vector (LR Int) 6))) 71) :: (.blk b1 (enc (FlushR.mk a0 rs_a0_2)) 71) :: L) rfl ?_
  refine Lst.r (Ev.assign rfl) ?_
  refine Lst.nil ?_
  refine At.then ?_
  obtain rfl := some_inj H
  refine Cd.ret ?_
  refine At.in_ret ?_
  refine At.then_ret ?_
  exact At.ret2 rfl (Res.cellA (i := 0) rfl rfl Try.isAgg71 Try.sizeOf71 (Enc.len _)) (Res.tmp rfl) hF26 (sc1 (sc1 (.refl _))) ⟨(Vector.replicate 6 ⟨[], Sl.nil⟩ : Vector (LR Int) 6), rfl, rfl, hm28, (All.monoLR ha29 (FLe.refl _) (List.nil_sublist _))⟩
 replace H := ite_f hb27 H
 refine Cd.condF rfl hb27 ?_
 refine Cd.seq ?_
 refine Cd.region ?_
 refine Lst.r (Ev.fieldAddr (off' := 0) rfl Try.runUnderlying71 rfl Try.sizeOf68 rfl rfl) ?_
 refine Lst.r (Ev.fieldAddr (off' := 1) rfl Try.runUnderlying68 rfl Try.sizeOf5 rfl rfl) ?_
 refine Lst.r (Ev.load (i := 1) rfl rfl Try.isAgg5 (v := .int .u8 a0.View_.Members.toNat) ((FlushR.get_View_ (View.get_Members (Get.here _))).off (by rfl))) ?_
 refine Lst.r (Ev.fieldAddr (off' := 2) rfl Try.runUnderlying71 rfl Try.sizeOf5 rfl rfl) ?_
 refine Lst.r (Ev.load (i := 1) rfl rfl Try.isAgg5 (v := .int .u8 a0.Gone.toNat) ((FlushR.get_Gone (Get.here _)).off (by rfl))) ?_
 refine Lst.r (Ev.andNotU8 (i := a0.View_.Members) (j := a0.Gone) rfl rfl) ?_
 refine Lst.r (Ev.move rfl) ?_
 obtain ⟨n30, h31, H⟩ := bind_some H
 refine Lst.r (Ev.shrU8 (i := a0.View_.Members &&& ~~~a0.Gone) (m := n30) rfl (congrArg some (congrArg (Value.int .i64) (cnt_some h31)))) ?_
 refine Lst.r (Ev.andU8 (i := (a0.View_.Members &&& ~~~a0.Gone) >>> n30) (j := (1 : BitVec 8)) rfl rfl) ?_
 refine Lst.r (Ev.eql rfl rfl) ?_
 refine Lst.r (Ev.assign rfl) ?_
 refine Lst.nil ?_
 refine At.then ?_
 rcases Bool.eq_false_or_eq_true (((((a0.View_.Members &&& ~~~a0.Gone) >>> n30) &&& (1 : BitVec 8)).toNat : Int) == ((0 : BitVec 8).toNat : Int)) with hb33 | hb33
 ·replace H := ite_t hb33 H
  refine Cd.condT rfl hb33 ?_
  refine Cd.seq ?_
  refine Cd.as (e' := [(6, pv b5 0)]) (L' := (.blk b5 (enc (FlushR.mk Flush.zero (Vector.replicate 6 ⟨[], Sl.nil⟩ : Vector (LR Int) 6))) 71) :: (.blk b1 (enc (FlushR.mk a0 rs_a0_2)) 71) :: L) ⟨rfl, trivial⟩ rfl ?_
  refine Cd.region ?_
  have hm34 : (Vector.replicate 6 ⟨[], Sl.nil⟩ : Vector (LR Int) 6).toList.map LR.v = (Vector.replicate 6 [] : Vector (List Int) 6).toList := vmap_rep _ _
  have ha35 : All LR.rel w0 F25 [] (Vector.replicate 6 ⟨[], Sl.nil⟩ : Vector (LR Int) 6).toList := vAll_rep Rd.nil
  refine Lst.r (Ev.build (v := .agg (enc (FlushR.mk Flush.zero (Vector.replicate 6 ⟨[], Sl.nil⟩ : Vector (LR Int) 6))).toArray) (pv := []) trivial (fun w => by kernel_rfl)) ?_
  refine Lst.store (i := 0) rfl rfl rfl rfl rfl Try.sizeOf71 (vs := enc (FlushR.mk Flush.zero (Vector.replicate 6 ⟨[], Sl.nil⟩ : Vector (LR Int) 6))) rfl (Enc.len _) (Enc.one _) (cs' := enc (FlushR.mk Flush.zero (Vector.replicate 6 ⟨[], Sl.nil⟩ : Vector (LR Int) 6))) (Put.here ((Enc.len _).trans (Enc.len _).symm)) (L' := (.blk b5 (enc (FlushR.mk Flush.zero (Vector.replicate 6 ⟨[], Sl.nil⟩ : Vector (LR Int) 6))) 71) :: (.blk b1 (enc (FlushR.mk a0 rs_a0_2)) 71) :: L) rfl ?_
  refine Lst.r (Ev.assign rfl) ?_
  refine Lst.nil ?_
  refine At.then ?_
  obtain rfl := some_inj H
  refine Cd.ret ?_
  refine At.in_ret ?_
  refine At.then_ret ?_
  exact At.ret2 rfl (Res.cellA (i := 0) rfl rfl Try.isAgg71 Try.sizeOf71 (Enc.len _)) (Res.tmp rfl) hF26 (sc1 (sc1 (.refl _))) ⟨(Vector.replicate 6 ⟨[], Sl.nil⟩ : Vector (LR Int) 6), rfl, rfl, hm34, (All.monoLR ha35 (FLe.refl _) (List.nil_sublist _))⟩
 replace H := ite_f hb33 H
 refine Cd.condF rfl hb33 ?_
 refine Cd.seq ?_
 refine Cd.region ?_
 refine Lst.r (Ev.move rfl) ?_
 refine Lst.r (Ev.fieldAddr (off' := 3) rfl Try.runUnderlying71 rfl Try.sizeOf69 rfl rfl) ?_
 obtain ⟨x36, h37, H⟩ := bind_some H
 have g38 := vat_some h37
 obtain ⟨⟨r39v, r39h⟩, r39g, r39e, r39m, r39l⟩ := vmap_get hm_a0_2 g38.2.2
 obtain rfl : x36 = r39v := r39e.symm
 have r39q : Rd w0 _ _ r39h x36 := ha_a0_2 _ r39m
 refine Lst.r (Ev.indexAddr (off' := 3 + a1.toNat * 1) rfl rfl Try.runUnderlying69 Try.sizeOf36 g38.1 g38.2.1 rfl) ?_
 refine Lst.r (Ev.load (i := 1) rfl rfl Try.isAgg36 (v := Sl.v r39h) ((FlushR.get_Told (p := (FlushR.mk a0 rs_a0_2)) (Get.vecN (s := 1) rfl r39g (Get.here _))).off (by omega))) ?_
 refine Lst.r (Ev.move rfl) ?_
 obtain ⟨r40, h41, H⟩ := bind_some H
 refine Lst.call1 rfl rfl (by decide) (vs := [Sl.v r39h, iv a2]) ⟨rfl, rfl, trivial⟩ Try.call50 (slices_Contains_int_int_sim h41 w0 _ M _ (sc2 hM) (r39q.mono hF26 (.refl _))) ?_
 refine Lst.r (Ev.assign rfl) ?_
 refine Lst.nil ?_
 refine At.then ?_
 rcases Bool.eq_false_or_eq_true r40 with hb44 | hb44
 ·replace H := ite_t hb44 H
  refine Cd.condT rfl hb44 ?_
  refine Cd.seq ?_
  refine Cd.as (e' := [(6, pv b5 0)]) (L' := (.blk b5 (enc (FlushR.mk Flush.zero (Vector.replicate 6 ⟨[], Sl.nil⟩ : Vector (LR Int) 6))) 71) :: (.blk b1 (enc (FlushR.mk a0 rs_a0_2)) 71) :: L) ⟨rfl, trivial⟩ rfl ?_
  refine Cd.region ?_
  have hm45 : (Vector.replicate 6 ⟨[], Sl.nil⟩ : Vector (LR Int) 6).toList.map LR.v = (Vector.replicate 6 [] : Vector (List Int) 6).toList := vmap_rep _ _
  have ha46 : All LR.rel w0 F25 [] (Vector.replicate 6 ⟨[], Sl.nil⟩ : Vector (LR Int) 6).toList := vAll_rep Rd.nil
  refine Lst.r (Ev.build (v := .agg (enc (FlushR.mk Flush.zero (Vector.replicate 6 ⟨[], Sl.nil⟩ : Vector (LR Int) 6))).toArray) (pv := []) trivial (fun w => by kernel_rfl)) ?_
  refine Lst.store (i := 0) rfl rfl rfl rfl rfl Try.sizeOf71 (vs := enc (FlushR.mk Flush.zero (Vector.replicate 6 ⟨[], Sl.nil⟩ : Vector (LR Int) 6))) rfl (Enc.len _) (Enc.one _) (cs' := enc (FlushR.mk Flush.zero (Vector.replicate 6 ⟨[], Sl.nil⟩ : Vector (LR Int) 6))) (Put.here ((Enc.len _).trans (Enc.len _).symm)) (L' := (.blk b5 (enc (FlushR.mk Flush.zero (Vector.replicate 6 ⟨[], Sl.nil⟩ : Vector (LR Int) 6))) 71) :: (.blk b1 (enc (FlushR.mk a0 rs_a0_2)) 71) :: L) rfl ?_
  refine Lst.r (Ev.assign rfl) ?_
  refine Lst.nil ?_
  refine At.then ?_
  obtain rfl := some_inj H
  refine Cd.ret ?_
  refine At.in_ret ?_
  refine At.then_ret ?_
  exact At.ret2 rfl (Res.cellA (i := 0) rfl rfl Try.isAgg71 Try.sizeOf71 (Enc.len _)) (Res.tmp rfl) hF26 (sc1 (sc1 (.refl _))) ⟨(Vector.replicate 6 ⟨[], Sl.nil⟩ : Vector (LR Int) 6), rfl, rfl, hm45, (All.monoLR ha46 (FLe.refl _) (List.nil_sublist _))⟩
 replace H := ite_f hb44 H
 refine Cd.condF rfl hb44 ?_
 refine Cd.skip ?_
 refine At.in_normal ?_
 refine At.then ?_
 refine Cd.seq ?_
 refine Cd.as (e' := [(1, iv a1), (2, iv a2), (3, pv b1 0), (6, pv b5 0)]) (L' := (.blk b5 (enc (FlushR.mk Flush.zero (Vector.replicate 6 ⟨[], Sl.nil⟩ : Vector (LR Int) 6))) 71) :: (.blk b1 (enc (FlushR.mk a0 rs_a0_2)) 71) :: L) ⟨rfl, rfl, rfl, rfl, trivial⟩ rfl ?_
 refine Cd.region ?_
 refine Lst.r (Ev.loadA (i := 1) rfl rfl Try.isAgg71 Try.sizeOf71 (ch := enc (FlushR.mk a0 rs_a0_2)) (Enc.len _) (Get.here _)) ?_
 obtain ⟨r47, h48, H⟩ := bind_some H
 refine Lst.call rfl rfl (by decide) (vs := [.agg (enc (FlushR.mk a0 rs_a0_2)).toArray]) ⟨rfl, trivial⟩ Try.call133 (flush_clone_sim h48 w0 _ M _ (sc2 hM) hm_a0_2 (All.monoLR ha_a0_2 hF26 (.refl _))) (fun F52 L' v hF53 hv => ?_)
 obtain ⟨rs49, rfl, rfl, fm50⟩ := hv
 have hm54 : (Vector.replicate 6 ⟨[], Sl.nil⟩ : Vector (LR Int) 6).toList.map LR.v = (Vector.replicate 6 [] : Vector (List Int) 6).toList := vmap_rep _ _
 have ha55 : All LR.rel w0 F52 [] (Vector.replicate 6 ⟨[], Sl.nil⟩ : Vector (LR Int) 6).toList := vAll_rep Rd.nil
 refine Lst.alloc (cs := enc (FlushR.mk Flush.zero (Vector.replicate 6 ⟨[], Sl.nil⟩ : Vector (LR Int) 6))) rfl rfl (by decide) Try.zeroValue71 rfl (fun b56 => ?_)
 refine Lst.store (i := 0) rfl rfl rfl rfl rfl Try.sizeOf71 (vs := enc (FlushR.mk r47 rs49)) rfl (Enc.len _) (Enc.one _) (cs' := enc (FlushR.mk r47 rs49)) (Put.here ((Enc.len _).trans (Enc.len _).symm)) (L' := (.blk b56 (enc (FlushR.mk r47 rs49)) 71) :: (.rows (α := Int) 3 rs49.toList) :: (.blk b5 (enc (FlushR.mk Flush.zero (Vector.replicate 6 ⟨[], Sl.nil⟩ : Vector (LR Int) 6))) 71) :: (.blk b1 (enc (FlushR.mk a0 rs_a0_2)) 71) :: L) rfl ?_
 refine Lst.nil ?_
 refine At.then ?_
 refine Cd.seq ?_
 refine Cd.region ?_
 refine Lst.r (Ev.move rfl) ?_
 refine Lst.r (Ev.move rfl) ?_
 refine Lst.r (Ev.fieldAddr (off' := 3) rfl Try.runUnderlying71 rfl Try.sizeOf69 rfl rfl) ?_
 obtain ⟨x58, h59, H⟩ := bind_some H
 have g60 := vat_some h59
 obtain ⟨⟨r61v, r61h⟩, r61g, r61e, r61m, r61l⟩ := vmap_get fm50 g60.2.2
 obtain rfl : x58 = r61v := r61e.symm
 refine Lst.r (Ev.indexAddr (off' := 3 + a1.toNat * 1) rfl rfl Try.runUnderlying69 Try.sizeOf36 g60.1 g60.2.1 rfl) ?_
 refine Lst.r (Ev.load (i := 0) rfl rfl Try.isAgg36 (v := Sl.v r61h) ((FlushR.get_Told (p := (FlushR.mk r47 rs49)) (Get.vecN (s := 1) rfl r61g (Get.here _))).off (by omega))) ?_
 refine Lst.r (Ev.move rfl) ?_
 refine Lst.buildSlice (α := Int) (xs := ([a2] : List Int)) (pv := [(0, iv a2)]) rfl rfl (by decide) ⟨rfl, rfl, trivial⟩ (run_buildSlice (α := Int) (z0 := (0 : Int)) (xs := ([a2] : List Int)) Try.runUnderlying36 Try.sizeOf3 Try.zeroValue3 rfl rfl rfl (by decide) rfl (fill_cons (cs := encs (List.replicate 1 (0 : Int))) (cs' := encs ((List.replicate 1 (0 : Int)).set 0 a2)) (vs := [iv a2]) rfl rfl rfl ((Put.elemN (s := 1) (i := 0) (x := (0 : Int)) (y := a2) rfl rfl (Put.here (vs := [iv a2]) rfl)).off rfl) fill_nil)) rfl rfl (by decide) (fun s62 _ => ?_)
 refine Lst.front (i := 2) rfl (L' := (.rows (α := Int) 3 rs49.toList) :: (.own s62 3 1 (encs ([a2] : List Int))) :: (.blk b56 (enc (FlushR.mk r47 rs49)) 71) :: (.blk b5 (enc (FlushR.mk Flush.zero (Vector.replicate 6 ⟨[], Sl.nil⟩ : Vector (LR Int) 6))) 71) :: (.blk b1 (enc (FlushR.mk a0 rs_a0_2)) 71) :: L) rfl ?_
 refine Lst.rowOut (k := a1.toNat) r61l rfl ?_
 refine Lst.its (L' := (.own r61h 3 1 (encs x58)) :: (.rows (α := Int) 3 (rs49.toList.set a1.toNat ⟨[], Sl.nil⟩)) :: (.own s62 3 1 (encs ([a2] : List Int))) :: (.blk b56 (enc (FlushR.mk r47 rs49)) 71) :: (.blk b5 (enc (FlushR.mk Flush.zero (Vector.replicate 6 ⟨[], Sl.nil⟩ : Vector (LR Int) 6))) 71) :: (.blk b1 (enc (FlushR.mk a0 rs_a0_2)) 71) :: L) rfl ?_
 obtain ⟨u65, h66, H⟩ := bind_some H
 refine Lst.append (i := 0) (α := Int) (xs := x58) (ys := ([a2] : List Int)) rfl rfl (by decide) rfl rfl Try.runUnderlying36 Try.typeInfo3 rfl rfl rfl rfl rfl rfl (Rd.own (i := 2) rfl rfl rfl) rfl (room_some h66) rfl (fun s67 => ?_)
 refine Lst.its (L' := (.own s67 3 1 (encs (x58 ++ ([a2] : List Int)))) :: (.rows (α := Int) 3 (rs49.toList.set a1.toNat ⟨[], Sl.nil⟩)) :: (.own s62 3 1 (encs ([a2] : List Int))) :: (.blk b56 (enc (FlushR.mk r47 rs49)) 71) :: (.blk b5 (enc (FlushR.mk Flush.zero (Vector.replicate 6 ⟨[], Sl.nil⟩ : Vector (LR Int) 6))) 71) :: (.blk b1 (enc (FlushR.mk a0 rs_a0_2)) 71) :: L) rfl ?_
 refine Lst.r (Ev.fieldAddr (off' := 3) rfl Try.runUnderlying71 rfl Try.sizeOf69 rfl rfl) ?_
 obtain ⟨x68, h69, H⟩ := bind_some H
 have g70 := vat_some h69
 obtain ⟨⟨r71v, r71h⟩, r71g, r71e, r71m, r71l⟩ := vmap_get fm50 g70.2.2
 obtain rfl : x68 = r71v := r71e.symm
 refine Lst.r (Ev.indexAddr (off' := 3 + a1.toNat * 1) rfl rfl Try.runUnderlying69 Try.sizeOf36 g70.1 g70.2.1 rfl) ?_
 obtain ⟨p72, h73, H⟩ := Let_some H
 have hm74 : (rs49.setIfInBounds a1.toNat (LR.mk (x58 ++ ([a2] : List Int)) s67)).toList.map LR.v = p72.toList := (vmap_set fm50 _ _).trans (congrArg Vector.toList h73)
 refine Lst.store (i := 3) rfl rfl rfl rfl rfl Try.sizeOf36 (vs := [Sl.v s67]) rfl rfl rfl (cs' := enc (FlushR.mk ({ r47 with Told := p72 } : Flush) (rs49.setIfInBounds a1.toNat (LR.mk (x58 ++ ([a2] : List Int)) s67)))) ((FlushR.put_Told (l := p72) (Put.vecN (s := 1) (y := (LR.mk (x58 ++ ([a2] : List Int)) s67)) rfl r71g (Put.here (vs := [Sl.v s67]) rfl))).off (by omega)) (L' := (.own s67 3 1 (encs (x58 ++ ([a2] : List Int)))) :: (.rows (α := Int) 3 (rs49.toList.set a1.toNat ⟨[], Sl.nil⟩)) :: (.own s62 3 1 (encs ([a2] : List Int))) :: (.blk b56 (enc (FlushR.mk ({ r47 with Told := p72 } : Flush) (rs49.setIfInBounds a1.toNat (LR.mk (x58 ++ ([a2] : List Int)) s67)))) 71) :: (.blk b5 (enc (FlushR.mk Flush.zero (Vector.replicate 6 ⟨[], Sl.nil⟩ : Vector (LR Int) 6))) 71) :: (.blk b1 (enc (FlushR.mk a0 rs_a0_2)) 71) :: L) rfl ?_
 refine Lst.rowIn (k := a1.toNat) (by rw [List.getElem?_set_self (List.getElem?_eq_some_iff.1 r71l).1]) rfl ?_
 refine Lst.its (L' := (.rows (α := Int) 3 ((rs49.setIfInBounds a1.toNat (LR.mk (x58 ++ ([a2] : List Int)) s67)).toList)) :: (.own s62 3 1 (encs ([a2] : List Int))) :: (.blk b56 (enc (FlushR.mk ({ r47 with Told := p72 } : Flush) (rs49.setIfInBounds a1.toNat (LR.mk (x58 ++ ([a2] : List Int)) s67)))) 71) :: (.blk b5 (enc (FlushR.mk Flush.zero (Vector.replicate 6 ⟨[], Sl.nil⟩ : Vector (LR Int) 6))) 71) :: (.blk b1 (enc (FlushR.mk a0 rs_a0_2)) 71) :: L) (by rw [List.set_set, Vector.toList_setIfInBounds]) ?_
 refine Lst.nil ?_
 refine At.then ?_
 refine Cd.seq ?_
 refine Cd.as (e' := [(6, pv b5 0), (9, pv b56 0)]) (L' := (.rows (α := Int) 3 ((rs49.setIfInBounds a1.toNat (LR.mk (x58 ++ ([a2] : List Int)) s67)).toList)) :: (.own s62 3 1 (encs ([a2] : List Int))) :: (.blk b56 (enc (FlushR.mk ({ r47 with Told := p72 } : Flush) (rs49.setIfInBounds a1.toNat (LR.mk (x58 ++ ([a2] : List Int)) s67)))) 71) :: (.blk b5 (enc (FlushR.mk Flush.zero (Vector.replicate 6 ⟨[], Sl.nil⟩ : Vector (LR Int) 6))) 71) :: (.blk b1 (enc (FlushR.mk a0 rs_a0_2)) 71) :: L) ⟨rfl, rfl, trivial⟩ rfl ?_
 refine Cd.region ?_
 refine Lst.r (Ev.loadA (i := 2) rfl rfl Try.isAgg71 Try.sizeOf71 (ch := enc (FlushR.mk ({ r47 with Told := p72 } : Flush) (rs49.setIfInBounds a1.toNat (LR.mk (x58 ++ ([a2] : List Int)) s67)))) (Enc.len _) (Get.here _)) ?_
 refine Lst.store (i := 3) rfl rfl rfl rfl rfl Try.sizeOf71 (vs := enc (FlushR.mk ({ r47 with Told := p72 } : Flush) (rs49.setIfInBounds a1.toNat (LR.mk (x58 ++ ([a2] : List Int)) s67)))) rfl (Enc.len _) (Enc.one _) (cs' := enc (FlushR.mk ({ r47 with Told := p72 } : Flush) (rs49.setIfInBounds a1.toNat (LR.mk (x58 ++ ([a2] : List Int)) s67)))) (Put.here ((Enc.len _).trans (Enc.len _).symm)) (L' := (.rows (α := Int) 3 ((rs49.setIfInBounds a1.toNat (LR.mk (x58 ++ ([a2] : List Int)) s67)).toList)) :: (.own s62 3 1 (encs ([a2] : List Int))) :: (.blk b56 (enc (FlushR.mk ({ r47 with Told := p72 } : Flush) (rs49.setIfInBounds a1.toNat (LR.mk (x58 ++ ([a2] : List Int)) s67)))) 71) :: (.blk b5 (enc (FlushR.mk ({ r47 with Told := p72 } : Flush) (rs49.setIfInBounds a1.toNat (LR.mk (x58 ++ ([a2] : List Int)) s67)))) 71) :: (.blk b1 (enc (FlushR.mk a0 rs_a0_2)) 71) :: L) rfl ?_
 refine Lst.r (Ev.assign rfl) ?_
 refine Lst.nil ?_
 refine At.then ?_
 obtain rfl := some_inj H
 refine Cd.ret ?_
 refine At.freeze (i := 0) rfl (fun F75 hF76 hz77 => ?_)
 have ha78 : All LR.rel w0 F75 [] (rs49.setIfInBounds a1.toNat (LR.mk (x58 ++ ([a2] : List Int)) s67)).toList := All.frozen hz77
 refine At.its (L' := (.own s62 3 1 (encs ([a2] : List Int))) :: (.blk b56 (enc (FlushR.mk ({ r47 with Told := p72 } : Flush) (rs49.setIfInBounds a1.toNat (LR.mk (x58 ++ ([a2] : List Int)) s67)))) 71) :: (.blk b5 (enc (FlushR.mk ({ r47 with Told := p72 } : Flush) (rs49.setIfInBounds a1.toNat (LR.mk (x58 ++ ([a2] : List Int)) s67)))) 71) :: (.blk b1 (enc (FlushR.mk a0 rs_a0_2)) 71) :: L) rfl ?_
 exact At.ret2 rfl (Res.cellA (i := 2) rfl rfl Try.isAgg71 Try.sizeOf71 (Enc.len _)) (Res.tmp rfl) (FLe.trans (FLe.trans hF26 hF53) hF76) (sc1 (sc1 (sc1 (sc1 (.refl _))))) ⟨(rs49.setIfInBounds a1.toNat (LR.mk (x58 ++ ([a2] : List Int)) s67)), rfl, rfl, hm74, (All.monoLR ha78 (FLe.refl _) (List.nil_sublist _))⟩
set_option maxRecDepth 20000 in
theorem flush_Fall_sim {a0 : Flush} {a1 : Int} {rs_a0_2 : Vector (LR Int) 6} {r : Flush × Int} (H : flush_Fall a0 a1 = some r) (w0 : World) (F : Frz) (M L : List Item) (hM : M.Sublist L) (hm_a0_2 : rs_a0_2.toList.map LR.v = a0.Told.toList) (ha_a0_2 : All LR.rel w0 F M rs_a0_2.toList) : Ok Try.prog w0 42 [.agg (enc (FlushR.mk a0 rs_a0_2)).toArray, iv a1] F (L) (fun Fx L' v => ∃ (rs1 : Vector (LR Int) 6), v = .tuple #[.agg (enc (FlushR.mk r.1 rs1)).toArray, iv r.2] ∧ L' = L ∧ rs1.toList.map LR.v = r.1.Told.toList ∧ All LR.rel w0 Fx [] rs1.toList) := by
 unfold flush_Fall at H
 refine Ok.enter (m := 2) (n := 31) Try.func42 rfl rfl rfl (by decide) ?_
 refine Cd.env (e' := [(0, .agg (enc (FlushR.mk a0 rs_a0_2)).toArray), (1, iv a1)]) rfl ?_
 refine Cd.seq ?_
 refine Cd.region ?_
 refine Lst.box rfl rfl (by decide) rfl (cs := enc (FlushR.mk a0 rs_a0_2)) rfl (fun b1 => ?_)
 have hm3 : (Vector.replicate 6 ⟨[], Sl.nil⟩ : Vector (LR Int) 6).toList.map LR.v = (Vector.replicate 6 [] : Vector (List Int) 6).toList := vmap_rep _ _
 have ha4 : All LR.rel w0 F [] (Vector.replicate 6 ⟨[], Sl.nil⟩ : Vector (LR Int) 6).toList := vAll_rep Rd.nil
 refine Lst.alloc (cs := enc (FlushR.mk Flush.zero (Vector.replicate 6 ⟨[], Sl.nil⟩ : Vector (LR Int) 6))) rfl rfl (by decide) Try.zeroValue71 rfl (fun b5 => ?_)
 refine Lst.r (Ev.assign rfl) ?_
 refine Lst.nil ?_
 refine At.then ?_
 refine Cd.seq ?_
 refine Cd.seq ?_
 refine Cd.region ?_
 refine Lst.r (Ev.loadA (i := 1) rfl rfl Try.isAgg71 Try.sizeOf71 (ch := enc (FlushR.mk a0 rs_a0_2)) (Enc.len _) (Get.here _)) ?_
 obtain ⟨r7, h8, H⟩ := bind_some H
 refine Lst.call1 rfl rfl (by decide) (vs := [.agg (enc (FlushR.mk a0 rs_a0_2)).toArray]) ⟨rfl, trivial⟩ Try.call46 (flush_Check_sim h8 w0 _ M _ (sc2 hM) hm_a0_2 (All.monoLR ha_a0_2 (FLe.refl _) (.refl _))) ?_
 refine Lst.r (Ev.assign rfl) ?_
 refine Lst.nil ?_
 refine At.then ?_
 refine Cd.seq ?_
 refine Cd.region ?_
 refine Lst.r (Ev.move rfl) ?_
 refine Lst.r (Ev.neq rfl rfl) ?_
 refine Lst.nil ?_
 refine At.then ?_
 rcases Bool.eq_false_or_eq_true (r7 != (0 : Int)) with hb11 | hb11
 ·replace H := ite_t hb11 H
  refine Cd.condT rfl hb11 ?_
  refine Cd.seq ?_
  refine Cd.region ?_
  have hm12 : (Vector.replicate 6 ⟨[], Sl.nil⟩ : Vector (LR Int) 6).toList.map LR.v = (Vector.replicate 6 [] : Vector (List Int) 6).toList := vmap_rep _ _
  have ha13 : All LR.rel w0 F [] (Vector.replicate 6 ⟨[], Sl.nil⟩ : Vector (LR Int) 6).toList := vAll_rep Rd.nil
  refine Lst.r (Ev.build (v := .agg (enc (FlushR.mk Flush.zero (Vector.replicate 6 ⟨[], Sl.nil⟩ : Vector (LR Int) 6))).toArray) (pv := []) trivial (fun w => by kernel_rfl)) ?_
  refine Lst.r (Ev.move rfl) ?_
  refine Lst.store (i := 0) rfl rfl rfl rfl rfl Try.sizeOf71 (vs := enc (FlushR.mk Flush.zero (Vector.replicate 6 ⟨[], Sl.nil⟩ : Vector (LR Int) 6))) rfl (Enc.len _) (Enc.one _) (cs' := enc (FlushR.mk Flush.zero (Vector.replicate 6 ⟨[], Sl.nil⟩ : Vector (LR Int) 6))) (Put.here ((Enc.len _).trans (Enc.len _).symm)) (L' := (.blk b5 (enc (FlushR.mk Flush.zero (Vector.replicate 6 ⟨[], Sl.nil⟩ : Vector (LR Int) 6))) 71) :: (.blk b1 (enc (FlushR.mk a0 rs_a0_2)) 71) :: L) rfl ?_
  refine Lst.r (Ev.assign rfl) ?_
  refine Lst.nil ?_
  refine At.then ?_
  obtain rfl := some_inj H
  refine Cd.ret ?_
  refine At.then_ret ?_
  exact At.ret2 rfl (Res.cellA (i := 0) rfl rfl Try.isAgg71 Try.sizeOf71 (Enc.len _)) (Res.tmp rfl) (FLe.refl _) (sc1 (sc1 (.refl _))) ⟨(Vector.replicate 6 ⟨[], Sl.nil⟩ : Vector (LR Int) 6), rfl, rfl, hm12, (All.monoLR ha13 (FLe.refl _) (List.nil_sublist _))⟩
 replace H := ite_f hb11 H
 refine Cd.condF rfl hb11 ?_
 refine Cd.skip ?_
 refine At.then ?_
 refine Cd.seq ?_
 refine Cd.seq ?_
 refine Cd.region ?_
 refine Lst.r (Ev.move rfl) ?_
 obtain ⟨r14, h15, H⟩ := bind_some H
 refine Lst.call1 rfl rfl (by decide) (vs := [iv a1]) ⟨rfl, trivial⟩ Try.call131 (flush_process_sim h15 w0 _ M _ (sc2 hM)) ?_
 refine Lst.r (Ev.not rfl) ?_
 refine Lst.nil ?_
 refine At.then ?_
 rcases Bool.eq_false_or_eq_true (!r14) with hb18 | hb18
 ·replace H := ite_t hb18 H
  refine Cd.condT rfl hb18 ?_
  refine Cd.seq ?_
  refine Cd.region ?_
  have hm19 : (Vector.replicate 6 ⟨[], Sl.nil⟩ : Vector (LR Int) 6).toList.map LR.v = (Vector.replicate 6 [] : Vector (List Int) 6).toList := vmap_rep _ _
  have ha20 : All LR.rel w0 F [] (Vector.replicate 6 ⟨[], Sl.nil⟩ : Vector (LR Int) 6).toList := vAll_rep Rd.nil
  refine Lst.r (Ev.build (v := .agg (enc (FlushR.mk Flush.zero (Vector.replicate 6 ⟨[], Sl.nil⟩ : Vector (LR Int) 6))).toArray) (pv := []) trivial (fun w => by kernel_rfl)) ?_
  refine Lst.store (i := 0) rfl rfl rfl rfl rfl Try.sizeOf71 (vs := enc (FlushR.mk Flush.zero (Vector.replicate 6 ⟨[], Sl.nil⟩ : Vector (LR Int) 6))) rfl (Enc.len _) (Enc.one _) (cs' := enc (FlushR.mk Flush.zero (Vector.replicate 6 ⟨[], Sl.nil⟩ : Vector (LR Int) 6))) (Put.here ((Enc.len _).trans (Enc.len _).symm)) (L' := (.blk b5 (enc (FlushR.mk Flush.zero (Vector.replicate 6 ⟨[], Sl.nil⟩ : Vector (LR Int) 6))) 71) :: (.blk b1 (enc (FlushR.mk a0 rs_a0_2)) 71) :: L) rfl ?_
  refine Lst.r (Ev.assign rfl) ?_
  refine Lst.nil ?_
  refine At.then ?_
  obtain rfl := some_inj H
  refine Cd.ret ?_
  refine At.then_ret ?_
  exact At.ret2 rfl (Res.cellA (i := 0) rfl rfl Try.isAgg71 Try.sizeOf71 (Enc.len _)) (Res.tmp rfl) (FLe.refl _) (sc1 (sc1 (.refl _))) ⟨(Vector.replicate 6 ⟨[], Sl.nil⟩ : Vector (LR Int) 6), rfl, rfl, hm19, (All.monoLR ha20 (FLe.refl _) (List.nil_sublist _))⟩
 replace H := ite_f hb18 H
 refine Cd.condF rfl hb18 ?_
 refine Cd.skip ?_
 refine At.then ?_
 refine Cd.seq ?_
 refine Cd.region ?_
 refine Lst.r (Ev.loadA (i := 1) rfl rfl Try.isAgg71 Try.sizeOf71 (ch := enc (FlushR.mk a0 rs_a0_2)) (Enc.len _) (Get.here _)) ?_
 obtain ⟨r21, h22, H⟩ := bind_some H
 refine Lst.call rfl rfl (by decide) (vs := [.agg (enc (FlushR.mk a0 rs_a0_2)).toArray]) ⟨rfl, trivial⟩ Try.call133 (flush_clone_sim h22 w0 _ M _ (sc2 hM) hm_a0_2 (All.monoLR ha_a0_2 (FLe.refl _) (.refl _))) (fun F26 L' v hF27 hv => ?_)
 obtain ⟨rs23, rfl, rfl, fm24⟩ := hv
 have hm28 : (Vector.replicate 6 ⟨[], Sl.nil⟩ : Vector (LR Int) 6).toList.map LR.v = (Vector.replicate 6 [] : Vector (List Int) 6).toList := vmap_rep _ _
 have ha29 : All LR.rel w0 F26 [] (Vector.replicate 6 ⟨[], Sl.nil⟩ : Vector (LR Int) 6).toList := vAll_rep Rd.nil
 refine Lst.alloc (cs := enc (FlushR.mk Flush.zero (Vector.replicate 6 ⟨[], Sl.nil⟩ : Vector (LR Int) 6))) rfl rfl (by decide) Try.zeroValue71 rfl (fun b30 => ?_)
 refine Lst.store (i := 0) rfl rfl rfl rfl rfl Try.sizeOf71 (vs := enc (FlushR.mk r21 rs23)) rfl (Enc.len _) (Enc.one _) (cs' := enc (FlushR.mk r21 rs23)) (Put.here ((Enc.len _).trans (Enc.len _).symm)) (L' := (.blk b30 (enc (FlushR.mk r21 rs23)) 71) :: (.rows (α := Int) 3 rs23.toList) :: (.blk b5 (enc (FlushR.mk Flush.zero (Vector.replicate 6 ⟨[], Sl.nil⟩ : Vector (LR Int) 6))) 71) :: (.blk b1 (enc (FlushR.mk a0 rs_a0_2)) 71) :: L) rfl ?_
 refine Lst.nil ?_
 refine At.then ?_
 refine Cd.seq ?_
 refine Cd.tail 10 (by kernel_rfl) (by kernel_rfl) ?_
 refine Qt.r (Ev.fieldAddr (off' := 2) rfl Try.runUnderlying71 rfl Try.sizeOf5 rfl rfl) ?_
 refine Qt.r (Ev.load (i := 0) rfl rfl Try.isAgg5 (v := .int .u8 r21.Gone.toNat) ((FlushR.get_Gone (Get.here _)).off (by rfl))) ?_
 refine Qt.r (Ev.fieldAddr (off' := 0) rfl Try.runUnderlying71 rfl Try.sizeOf68 rfl rfl) ?_
 refine Qt.r (Ev.fieldAddr (off' := 1) rfl Try.runUnderlying68 rfl Try.sizeOf5 rfl rfl) ?_
 refine Qt.r (Ev.load (i := 0) rfl rfl Try.isAgg5 (v := .int .u8 r21.View_.Members.toNat) ((FlushR.get_View_ (View.get_Members (Get.here _))).off (by rfl))) ?_
 refine Qt.r (Ev.move rfl) ?_
 obtain ⟨n32, h33, H⟩ := bind_some H
 refine Qt.r (Ev.shlU8 (i := (1 : BitVec 8)) (m := n32) rfl (congrArg some (congrArg (Value.int .i64) (cnt_some h33)))) ?_
 refine Qt.r (Ev.andU8 (i := r21.View_.Members) (j := (1 : BitVec 8) <<< n32) rfl rfl) ?_
 refine Qt.r (Ev.orU8 (i := r21.Gone) (j := r21.View_.Members &&& ((1 : BitVec 8) <<< n32)) rfl rfl) ?_
 refine Qt.r (Ev.fieldAddr (off' := 2) rfl Try.runUnderlying71 rfl Try.sizeOf5 rfl rfl) ?_
 refine Qt.tail ?_
 obtain ⟨p35, h36, H⟩ := Let_some H
 refine Lst.store (i := 0) rfl rfl rfl rfl rfl Try.sizeOf5 (vs := [.int .u8 (r21.Gone ||| (r21.View_.Members &&& ((1 : BitVec 8) <<< n32))).toNat]) rfl rfl rfl (cs' := enc (FlushR.mk ({ r21 with Gone := p35 } : Flush) rs23)) (by rw [← h36]; exact (FlushR.put_Gone (Put.here (vs := [.int .u8 (r21.Gone ||| (r21.View_.Members &&& ((1 : BitVec 8) <<< n32))).toNat]) rfl)).off (by rfl)) (L' := (.blk b30 (enc (FlushR.mk ({ r21 with Gone := p35 } : Flush) rs23)) 71) :: (.rows (α := Int) 3 rs23.toList) :: (.blk b5 (enc (FlushR.mk Flush.zero (Vector.replicate 6 ⟨[], Sl.nil⟩ : Vector (LR Int) 6))) 71) :: (.blk b1 (enc (FlushR.mk a0 rs_a0_2)) 71) :: L) rfl ?_
 refine Lst.nil ?_
 refine At.then ?_
 refine Cd.seq ?_
 refine Cd.as (e' := [(4, pv b5 0), (7, pv b30 0)]) (L' := (.blk b30 (enc (FlushR.mk ({ r21 with Gone := p35 } : Flush) rs23)) 71) :: (.rows (α := Int) 3 rs23.toList) :: (.blk b5 (enc (FlushR.mk Flush.zero (Vector.replicate 6 ⟨[], Sl.nil⟩ : Vector (LR Int) 6))) 71) :: (.blk b1 (enc (FlushR.mk a0 rs_a0_2)) 71) :: L) ⟨rfl, rfl, trivial⟩ rfl ?_
 refine Cd.region ?_
 refine Lst.r (Ev.loadA (i := 0) rfl rfl Try.isAgg71 Try.sizeOf71 (ch := enc (FlushR.mk ({ r21 with Gone := p35 } : Flush) rs23)) (Enc.len _) (Get.here _)) ?_
 refine Lst.store (i := 2) rfl rfl rfl rfl rfl Try.sizeOf71 (vs := enc (FlushR.mk ({ r21 with Gone := p35 } : Flush) rs23)) rfl (Enc.len _) (Enc.one _) (cs' := enc (FlushR.mk ({ r21 with Gone := p35 } : Flush) rs23)) (Put.here ((Enc.len _).trans (Enc.len _).symm)) (L' := (.blk b30 (enc (FlushR.mk ({ r21 with Gone := p35 } : Flush) rs23)) 71) :: (.rows (α := Int) 3 rs23.toList) :: (.blk b5 (enc (FlushR.mk ({ r21 with Gone := p35 } : Flush) rs23)) 71) :: (.blk b1 (enc (FlushR.mk a0 rs_a0_2)) 71) :: L) rfl ?_
 refine Lst.r (Ev.assign rfl) ?_
 refine Lst.nil ?_
 refine At.then ?_
 obtain rfl := some_inj H
 refine Cd.ret ?_
 refine At.freeze (i := 1) rfl (fun F37 hF38 hz39 => ?_)
 have ha40 : All LR.rel w0 F37 [] rs23.toList := All.frozen hz39
 refine At.its (L' := (.blk b30 (enc (FlushR.mk ({ r21 with Gone := p35 } : Flush) rs23)) 71) :: (.blk b5 (enc (FlushR.mk ({ r21 with Gone := p35 } : Flush) rs23)) 71) :: (.blk b1 (enc (FlushR.mk a0 rs_a0_2)) 71) :: L) rfl ?_
 exact At.ret2 rfl (Res.cellA (i := 1) rfl rfl Try.isAgg71 Try.sizeOf71 (Enc.len _)) (Res.tmp rfl) (FLe.trans hF27 hF38) (sc1 (sc1 (sc1 (.refl _)))) ⟨rs23, rfl, rfl, fm24, (All.monoLR ha40 (FLe.refl _) (List.nil_sublist _))⟩
set_option maxRecDepth 20000 in
theorem math_bits_OnesCount8_sim {a0 : BitVec 8} {r : Int} (H : math_bits_OnesCount8 a0 = some r) (w0 : World) (F : Frz) (M L : List Item) (hM : M.Sublist L) : Ok Try.prog w0 190 [.int .u8 a0.toNat] F (L) (Is (iv r) (L)) := by
 unfold math_bits_OnesCount8 at H
 refine Ok.enter (m := 1) (n := 6) Try.func190 rfl rfl rfl (by decide) ?_
 refine Cd.env (e' := [(0, .int .u8 a0.toNat)]) rfl ?_
 refine Cd.seq ?_
 refine Cd.region ?_
 refine Lst.r (Ev.assign rfl) ?_
 refine Lst.nil ?_
 refine At.then ?_
 refine Cd.seq ?_
 refine Cd.region ?_
 refine Lst.r (Ev.move rfl) ?_
 obtain ⟨x1, h2, H⟩ := bind_some H
 refine Lst.r (Ev.indexStr rfl rfl Try.runUnderlying9 h2) ?_
 refine Lst.r (Ev.convIS (j := (x1.toBitVec.toNat : Int)) rfl Try.runUnderlying5 Try.runUnderlying3 (w64_id (by omega) (by omega))) ?_
 refine Lst.r (Ev.assign rfl) ?_
 refine Lst.nil ?_
 refine At.then ?_
 obtain rfl := some_inj H
 refine Cd.ret ?_
 exact At.ret1 rfl (Res.tmp rfl) (FLe.refl _) (.refl _) ⟨rfl, rfl⟩
set_option maxRecDepth 20000 in
theorem view_half_sim {a0 : BitVec 8} {a1 : BitVec 8} {r : Bool} (H : view_half a0 a1 = some r) (w0 : World) (F : Frz) (M L : List Item) (hM : M.Sublist L) : Ok Try.prog w0 180 [.int .u8 a0.toNat, .int .u8 a1.toNat] F (L) (Is (.bool r) (L)) := by
 unfold view_half at H
 refine Ok.enter (m := 2) (n := 13) Try.func180 rfl rfl rfl (by decide) ?_
 refine Cd.env (e' := [(0, .int .u8 a0.toNat), (1, .int .u8 a1.toNat)]) rfl ?_
 refine Cd.seq ?_
 refine Cd.region ?_
 refine Lst.r (Ev.assign rfl) ?_
 refine Lst.nil ?_
 refine At.then ?_
 refine Cd.seq ?_
 refine Cd.region ?_
 refine Lst.r (Ev.move rfl) ?_
 refine Lst.r (Ev.move rfl) ?_
 refine Lst.r (Ev.andU8 (i := a0) (j := a1) rfl rfl) ?_
 obtain ⟨r1, h2, H⟩ := bind_some H
 refine Lst.call1 rfl rfl (by decide) (vs := [.int .u8 (a0 &&& a1).toNat]) ⟨rfl, trivial⟩ Try.call190 (math_bits_OnesCount8_sim h2 w0 _ M _ hM) ?_
 refine Lst.r (Ev.mul rfl rfl) ?_
 refine Lst.r (Ev.move rfl) ?_
 obtain ⟨r5, h6, H⟩ := bind_some H
 refine Lst.call1 rfl rfl (by decide) (vs := [.int .u8 a1.toNat]) ⟨rfl, trivial⟩ Try.call190 (math_bits_OnesCount8_sim h6 w0 _ M _ hM) ?_
 refine Lst.r (Ev.gtr rfl rfl) ?_
 refine Lst.r (Ev.assign rfl) ?_
 refine Lst.nil ?_
 refine At.then ?_
 obtain rfl := some_inj H
 refine Cd.ret ?_
 exact At.ret1 rfl (Res.tmp rfl) (FLe.refl _) (.refl _) ⟨rfl, rfl⟩
set_option maxRecDepth 20000 in
theorem view_Next_sim {a0 : View} {a1 : BitVec 8} {a2 : BitVec 8} {r : View × Int} (H : view_Next a0 a1 a2 = some r) (w0 : World) (F : Frz) (M L : List Item) (hM : M.Sublist L) : Ok Try.prog w0 134 [.agg (enc a0).toArray, .int .u8 a1.toNat, .int .u8 a2.toNat] F (L) (Is (.tuple #[.agg (enc r.1).toArray, iv r.2]) (L)) := by
 unfold view_Next at H
 refine Ok.enter (m := 3) (n := 52) Try.func134 rfl rfl rfl (by decide) ?_
 refine Cd.env (e' := [(0, .agg (enc a0).toArray), (1, .int .u8 a1.toNat), (2, .int .u8 a2.toNat)]) rfl ?_
 refine Cd.seq ?_
 refine Cd.region ?_
 refine Lst.box rfl rfl (by decide) rfl (cs := enc a0) rfl (fun b1 => ?_)
 refine Lst.alloc (cs := enc View.zero) rfl rfl (by decide) Try.zeroValue68 rfl (fun b3 => ?_)
 refine Lst.r (Ev.assign rfl) ?_
 refine Lst.nil ?_
 refine At.then ?_
 refine Cd.seq ?_
 refine Cd.seq ?_
 refine Cd.region ?_
 refine Lst.r (Ev.loadA (i := 1) rfl rfl Try.isAgg68 Try.sizeOf68 (ch := enc a0) (Enc.len _) (Get.here _)) ?_
 obtain ⟨r5, h6, H⟩ := bind_some H
 refine Lst.call1 rfl rfl (by decide) (vs := [.agg (enc a0).toArray]) ⟨rfl, trivial⟩ Try.call130 (view_Check_sim h6 w0 _ M _ (sc2 hM)) ?_
 refine Lst.r (Ev.assign rfl) ?_
 refine Lst.nil ?_
 refine At.then ?_
 refine Cd.seq ?_
 refine Cd.region ?_
 refine Lst.r (Ev.move rfl) ?_
 refine Lst.r (Ev.neq rfl rfl) ?_
 refine Lst.nil ?_
 refine At.then ?_
 rcases Bool.eq_false_or_eq_true (r5 != (0 : Int)) with hb9 | hb9
 ·replace H := ite_t hb9 H
  refine Cd.condT rfl hb9 ?_
  refine Cd.seq ?_
  refine Cd.region ?_
  refine Lst.r (Ev.build (v := .agg (enc View.zero).toArray) (pv := []) trivial (fun w => by kernel_rfl)) ?_
  refine Lst.r (Ev.move rfl) ?_
  refine Lst.store (i := 0) rfl rfl rfl rfl rfl Try.sizeOf68 (vs := enc View.zero) rfl (Enc.len _) (Enc.one _) (cs' := enc View.zero) (Put.here ((Enc.len _).trans (Enc.len _).symm)) (L' := (.blk b3 (enc View.zero) 68) :: (.blk b1 (enc a0) 68) :: L) rfl ?_
  refine Lst.r (Ev.assign rfl) ?_
  refine Lst.nil ?_
  refine At.then ?_
  obtain rfl := some_inj H
  refine Cd.ret ?_
  refine At.then_ret ?_
  exact At.ret2 rfl (Res.cellA (i := 0) rfl rfl Try.isAgg68 Try.sizeOf68 (Enc.len _)) (Res.tmp rfl) (FLe.refl _) (sc1 (sc1 (.refl _))) ⟨rfl, rfl⟩
 replace H := ite_f hb9 H
 refine Cd.condF rfl hb9 ?_
 refine Cd.skip ?_
 refine At.then ?_
 refine Cd.seq ?_
 refine Cd.block ?_
 refine Cd.seq ?_
 refine Cd.region ?_
 refine Lst.r (Ev.move rfl) ?_
 refine Lst.r (Ev.move rfl) ?_
 refine Lst.r (Ev.orU8 (i := a1) (j := a2) rfl rfl) ?_
 obtain ⟨r10, h11, H⟩ := bind_some H
 refine Lst.call1 rfl rfl (by decide) (vs := [.int .u8 (a1 ||| a2).toNat]) ⟨rfl, trivial⟩ Try.call178 (view_outside_sim h11 w0 _ M _ (sc2 hM)) ?_
 refine Lst.r (Ev.move rfl) ?_
 obtain ⟨o14, H, HKo14⟩ := bind_some H
 refine Lst.join (σ := Bool) 5 (fun y15 => [(1, .int .u8 a1.toNat), (2, .int .u8 a2.toNat), (3, pv b1 0), (6, pv b3 0), (25, .bool y15)]) (fun y15 => (.blk b3 (enc View.zero) 68) :: (.blk b1 (enc a0) 68) :: L) (fun _ y15 => y15 = o14) ?_ ?_
 ·rcases Bool.eq_false_or_eq_true r10 with hb16 | hb16
  ·replace H := ite_t hb16 H
   refine Lst.skip rfl rfl rfl hb16 rfl (by decide) ?_
   refine Lst.skip rfl rfl rfl hb16 rfl (by decide) ?_
   refine Lst.skip rfl rfl rfl hb16 rfl (by decide) ?_
   refine Lst.skip rfl rfl rfl hb16 rfl (by decide) ?_
   refine Lst.r (Ev.pickT rfl hb16 rfl) ?_
   refine Lst.nil ?_
   exact At.meet true (FLe.refl _) ⟨rfl, rfl, rfl, rfl, rfl, trivial⟩ rfl (some_inj H)
  replace H := ite_f hb16 H
  refine Lst.rG hb16 (Ev.move rfl) ?_
  refine Lst.rG hb16 (Ev.move rfl) ?_
  refine Lst.rG hb16 (Ev.andU8 (i := a1) (j := a2) rfl rfl) ?_
  refine Lst.rG hb16 (Ev.neq rfl rfl) ?_
  refine Lst.r (Ev.pickF rfl hb16 rfl) ?_
  refine Lst.nil ?_
  exact At.meet (((a1 &&& a2).toNat : Int) != ((0 : BitVec 8).toNat : Int)) (FLe.refl _) ⟨rfl, rfl, rfl, rfl, rfl, trivial⟩ rfl (some_inj H)
 rintro F17 y15 hF18 hy
 subst hy
 refine Lst.as (e' := [(1, .int .u8 a1.toNat), (2, .int .u8 a2.toNat), (3, pv b1 0), (6, pv b3 0), (25, .bool y15)]) (L' := (.blk b3 (enc View.zero) 68) :: (.blk b1 (enc a0) 68) :: L) ⟨rfl, rfl, rfl, rfl, rfl, trivial⟩ rfl ?_
 replace H := HKo14
 refine Lst.r (Ev.assign rfl) ?_
 refine Lst.nil ?_
 refine At.then ?_
 rcases Bool.eq_false_or_eq_true y15 with hb19 | hb19
 ·replace H := ite_t hb19 H
  refine Cd.condT rfl hb19 ?_
  refine Cd.seq ?_
  refine Cd.region ?_
  refine Lst.r (Ev.build (v := .agg (enc View.zero).toArray) (pv := []) trivial (fun w => by kernel_rfl)) ?_
  refine Lst.store (i := 0) rfl rfl rfl rfl rfl Try.sizeOf68 (vs := enc View.zero) rfl (Enc.len _) (Enc.one _) (cs' := enc View.zero) (Put.here ((Enc.len _).trans (Enc.len _).symm)) (L' := (.blk b3 (enc View.zero) 68) :: (.blk b1 (enc a0) 68) :: L) rfl ?_
  refine Lst.r (Ev.assign rfl) ?_
  refine Lst.nil ?_
  refine At.then ?_
  obtain rfl := some_inj H
  refine Cd.ret ?_
  refine At.in_ret ?_
  refine At.then_ret ?_
  exact At.ret2 rfl (Res.cellA (i := 0) rfl rfl Try.isAgg68 Try.sizeOf68 (Enc.len _)) (Res.tmp rfl) hF18 (sc1 (sc1 (.refl _))) ⟨rfl, rfl⟩
 replace H := ite_f hb19 H
 refine Cd.condF rfl hb19 ?_
 refine Cd.seq ?_
 refine Cd.region ?_
 refine Lst.r (Ev.fieldAddr (off' := 0) rfl Try.runUnderlying68 rfl Try.sizeOf3 rfl rfl) ?_
 refine Lst.r (Ev.load (i := 1) rfl rfl Try.isAgg3 (v := iv a0.Num) ((View.get_Num (Get.here _)).off (by rfl))) ?_
 refine Lst.r (Ev.eql rfl rfl) ?_
 refine Lst.r (Ev.assign rfl) ?_
 refine Lst.nil ?_
 refine At.then ?_
 rcases Bool.eq_false_or_eq_true (a0.Num == (16777215 : Int)) with hb20 | hb20
 ·replace H := ite_t hb20 H
  refine Cd.condT rfl hb20 ?_
  refine Cd.seq ?_
  refine Cd.region ?_
  refine Lst.r (Ev.build (v := .agg (enc View.zero).toArray) (pv := []) trivial (fun w => by kernel_rfl)) ?_
  refine Lst.store (i := 0) rfl rfl rfl rfl rfl Try.sizeOf68 (vs := enc View.zero) rfl (Enc.len _) (Enc.one _) (cs' := enc View.zero) (Put.here ((Enc.len _).trans (Enc.len _).symm)) (L' := (.blk b3 (enc View.zero) 68) :: (.blk b1 (enc a0) 68) :: L) rfl ?_
  refine Lst.r (Ev.assign rfl) ?_
  refine Lst.nil ?_
  refine At.then ?_
  obtain rfl := some_inj H
  refine Cd.ret ?_
  refine At.in_ret ?_
  refine At.then_ret ?_
  exact At.ret2 rfl (Res.cellA (i := 0) rfl rfl Try.isAgg68 Try.sizeOf68 (Enc.len _)) (Res.tmp rfl) hF18 (sc1 (sc1 (.refl _))) ⟨rfl, rfl⟩
 replace H := ite_f hb20 H
 refine Cd.condF rfl hb20 ?_
 refine Cd.seq ?_
 refine Cd.region ?_
 refine Lst.r (Ev.fieldAddr (off' := 1) rfl Try.runUnderlying68 rfl Try.sizeOf5 rfl rfl) ?_
 refine Lst.r (Ev.load (i := 1) rfl rfl Try.isAgg5 (v := .int .u8 a0.Members.toNat) ((View.get_Members (Get.here _)).off (by rfl))) ?_
 refine Lst.r (Ev.move rfl) ?_
 refine Lst.r (Ev.andNotU8 (i := a0.Members) (j := a1) rfl rfl) ?_
 refine Lst.r (Ev.fieldAddr (off' := 1) rfl Try.runUnderlying68 rfl Try.sizeOf5 rfl rfl) ?_
 refine Lst.r (Ev.load (i := 1) rfl rfl Try.isAgg5 (v := .int .u8 a0.Members.toNat) ((View.get_Members (Get.here _)).off (by rfl))) ?_
 obtain ⟨r21, h22, H⟩ := bind_some H
 refine Lst.call1 rfl rfl (by decide) (vs := [.int .u8 (a0.Members &&& ~~~a1).toNat, .int .u8 a0.Members.toNat]) ⟨rfl, rfl, trivial⟩ Try.call180 (view_half_sim h22 w0 _ M _ (sc2 hM)) ?_
 refine Lst.r (Ev.not rfl) ?_
 refine Lst.r (Ev.assign rfl) ?_
 refine Lst.nil ?_
 refine At.then ?_
 rcases Bool.eq_false_or_eq_true (!r21) with hb25 | hb25
 ·replace H := ite_t hb25 H
  refine Cd.condT rfl hb25 ?_
  refine Cd.seq ?_
  refine Cd.as (e' := [(6, pv b3 0)]) (L' := (.blk b3 (enc View.zero) 68) :: (.blk b1 (enc a0) 68) :: L) ⟨rfl, trivial⟩ rfl ?_
  refine Cd.region ?_
  refine Lst.r (Ev.build (v := .agg (enc View.zero).toArray) (pv := []) trivial (fun w => by kernel_rfl)) ?_
  refine Lst.store (i := 0) rfl rfl rfl rfl rfl Try.sizeOf68 (vs := enc View.zero) rfl (Enc.len _) (Enc.one _) (cs' := enc View.zero) (Put.here ((Enc.len _).trans (Enc.len _).symm)) (L' := (.blk b3 (enc View.zero) 68) :: (.blk b1 (enc a0) 68) :: L) rfl ?_
  refine Lst.r (Ev.assign rfl) ?_
  refine Lst.nil ?_
  refine At.then ?_
  obtain rfl := some_inj H
  refine Cd.ret ?_
  refine At.in_ret ?_
  refine At.then_ret ?_
  exact At.ret2 rfl (Res.cellA (i := 0) rfl rfl Try.isAgg68 Try.sizeOf68 (Enc.len _)) (Res.tmp rfl) hF18 (sc1 (sc1 (.refl _))) ⟨rfl, rfl⟩
 replace H := ite_f hb25 H
 refine Cd.condF rfl hb25 ?_
 refine Cd.skip ?_
 refine At.in_normal ?_
 refine At.then ?_
 refine Cd.seq ?_
 refine Cd.as (e' := [(1, .int .u8 a1.toNat), (2, .int .u8 a2.toNat), (3, pv b1 0), (6, pv b3 0)]) (L' := (.blk b3 (enc View.zero) 68) :: (.blk b1 (enc a0) 68) :: L) ⟨rfl, rfl, rfl, rfl, trivial⟩ rfl ?_
 refine Cd.region ?_
 refine Lst.r (Ev.fieldAddr (off' := 0) rfl Try.runUnderlying68 rfl Try.sizeOf3 rfl rfl) ?_
 refine Lst.r (Ev.load (i := 1) rfl rfl Try.isAgg3 (v := iv a0.Num) ((View.get_Num (Get.here _)).off (by rfl))) ?_
 refine Lst.r (Ev.add rfl rfl) ?_
 refine Lst.r (Ev.fieldAddr (off' := 1) rfl Try.runUnderlying68 rfl Try.sizeOf5 rfl rfl) ?_
 refine Lst.r (Ev.load (i := 1) rfl rfl Try.isAgg5 (v := .int .u8 a0.Members.toNat) ((View.get_Members (Get.here _)).off (by rfl))) ?_
 refine Lst.r (Ev.move rfl) ?_
 refine Lst.r (Ev.andNotU8 (i := a0.Members) (j := a1) rfl rfl) ?_
 refine Lst.r (Ev.move rfl) ?_
 refine Lst.r (Ev.orU8 (i := a0.Members &&& ~~~a1) (j := a2) rfl rfl) ?_
 refine Lst.r (Ev.build (v := .agg (enc ({ View.zero with Num := w64 (a0.Num + (1 : Int)), Members := (a0.Members &&& ~~~a1) ||| a2 } : View)).toArray) (pv := [(0, iv (w64 (a0.Num + (1 : Int)))), (1, .int .u8 ((a0.Members &&& ~~~a1) ||| a2).toNat)]) ⟨rfl, rfl, ⟨rfl, rfl, trivial⟩⟩ (fun w => by kernel_rfl)) ?_
 refine Lst.store (i := 0) rfl rfl rfl rfl rfl Try.sizeOf68 (vs := enc ({ View.zero with Num := w64 (a0.Num + (1 : Int)), Members := (a0.Members &&& ~~~a1) ||| a2 } : View)) rfl (Enc.len _) (Enc.one _) (cs' := enc ({ View.zero with Num := w64 (a0.Num + (1 : Int)), Members := (a0.Members &&& ~~~a1) ||| a2 } : View)) (Put.here ((Enc.len _).trans (Enc.len _).symm)) (L' := (.blk b3 (enc ({ View.zero with Num := w64 (a0.Num + (1 : Int)), Members := (a0.Members &&& ~~~a1) ||| a2 } : View)) 68) :: (.blk b1 (enc a0) 68) :: L) rfl ?_
 refine Lst.r (Ev.assign rfl) ?_
 refine Lst.nil ?_
 refine At.then ?_
 obtain rfl := some_inj H
 refine Cd.ret ?_
 exact At.ret2 rfl (Res.cellA (i := 0) rfl rfl Try.isAgg68 Try.sizeOf68 (Enc.len _)) (Res.tmp rfl) hF18 (sc1 (sc1 (.refl _))) ⟨rfl, rfl⟩
set_option maxRecDepth 20000 in
theorem flush_Change_sim {a0 : Flush} {a1 : BitVec 8} {rs_a0_2 : Vector (LR Int) 6} {r : Flush × (Vector (List Int) 6) × Int} (H : flush_Change a0 a1 = some r) (w0 : World) (F : Frz) (M L : List Item) (hM : M.Sublist L) (hm_a0_2 : rs_a0_2.toList.map LR.v = a0.Told.toList) (ha_a0_2 : All LR.rel w0 F M rs_a0_2.toList) : Ok Try.prog w0 43 [.agg (enc (FlushR.mk a0 rs_a0_2)).toArray, .int .u8 a1.toNat] F (L) (fun Fx L' v => ∃ (rs1 : Vector (LR Int) 6) (rs4 : Vector (LR Int) 6), v = .tuple #[.agg (enc (FlushR.mk r.1 rs1)).toArray, .agg (enc rs4).toArray, iv r.2.2] ∧ L' = L ∧ rs1.toList.map LR.v = r.1.Told.toList ∧ All LR.rel w0 Fx M rs1.toList ∧ rs4.toList.map LR.v = r.2.1.toList ∧ All LR.rel w0 Fx [] rs4.toList) := by
 unfold flush_Change at H
 refine Ok.enter (m := 2) (n := 111) Try.func43 rfl rfl rfl (by decide) ?_
 refine Cd.env (e' := [(0, .agg (enc (FlushR.mk a0 rs_a0_2)).toArray), (1, .int .u8 a1.toNat)]) rfl ?_
 refine Cd.seq ?_
 refine Cd.region ?_
 refine Lst.box rfl rfl (by decide) rfl (cs := enc (FlushR.mk a0 rs_a0_2)) rfl (fun b1 => ?_)
 have hm3 : (Vector.replicate 6 ⟨[], Sl.nil⟩ : Vector (LR Int) 6).toList.map LR.v = (Vector.replicate 6 [] : Vector (List Int) 6).toList := vmap_rep _ _
 have ha4 : All LR.rel w0 F [] (Vector.replicate 6 ⟨[], Sl.nil⟩ : Vector (LR Int) 6).toList := vAll_rep Rd.nil
 refine Lst.alloc (cs := enc (FlushR.mk Flush.zero (Vector.replicate 6 ⟨[], Sl.nil⟩ : Vector (LR Int) 6))) rfl rfl (by decide) Try.zeroValue71 rfl (fun b5 => ?_)
 have hm7 : (Vector.replicate 6 ⟨[], Sl.nil⟩ : Vector (LR Int) 6).toList.map LR.v = (Vector.replicate 6 [] : Vector (List Int) 6).toList := vmap_rep _ _
 refine Lst.rowsNilV Int 3 6 ?_
 refine Lst.alloc (cs := enc (Vector.replicate 6 ⟨[], Sl.nil⟩ : Vector (LR Int) 6)) rfl rfl (by decide) Try.zeroValue69 rfl (fun b9 => ?_)
 refine Lst.r (Ev.assign rfl) ?_
 refine Lst.nil ?_
 refine At.then ?_
 refine Cd.seq ?_
 refine Cd.seq ?_
 refine Cd.region ?_
 refine Lst.r (Ev.loadA (i := 3) rfl rfl Try.isAgg71 Try.sizeOf71 (ch := enc (FlushR.mk a0 rs_a0_2)) (Enc.len _) (Get.here _)) ?_
 obtain ⟨r11, h12, H⟩ := bind_some H
 refine Lst.call1 rfl rfl (by decide) (vs := [.agg (enc (FlushR.mk a0 rs_a0_2)).toArray]) ⟨rfl, trivial⟩ Try.call46 (flush_Check_sim h12 w0 _ M _ (sc4 hM) hm_a0_2 (All.monoLR ha_a0_2 (FLe.refl _) (.refl _))) ?_
 refine Lst.r (Ev.assign rfl) ?_
 refine Lst.nil ?_
 refine At.then ?_
 refine Cd.seq ?_
 refine Cd.region ?_
 refine Lst.r (Ev.move rfl) ?_
 refine Lst.r (Ev.neq rfl rfl) ?_
 refine Lst.nil ?_
 refine At.then ?_
 rcases Bool.eq_false_or_eq_true (r11 != (0 : Int)) with hb15 | hb15
 ·replace H := ite_t hb15 H
  refine Cd.condT rfl hb15 ?_
  refine Cd.seq ?_
  refine Cd.region ?_
  have hm16 : (Vector.replicate 6 ⟨[], Sl.nil⟩ : Vector (LR Int) 6).toList.map LR.v = (Vector.replicate 6 [] : Vector (List Int) 6).toList := vmap_rep _ _
  have ha17 : All LR.rel w0 F [] (Vector.replicate 6 ⟨[], Sl.nil⟩ : Vector (LR Int) 6).toList := vAll_rep Rd.nil
  refine Lst.r (Ev.build (v := .agg (enc (FlushR.mk Flush.zero (Vector.replicate 6 ⟨[], Sl.nil⟩ : Vector (LR Int) 6))).toArray) (pv := []) trivial (fun w => by kernel_rfl)) ?_
  have hm18 : (Vector.replicate 6 ⟨[], Sl.nil⟩ : Vector (LR Int) 6).toList.map LR.v = (Vector.replicate 6 [] : Vector (List Int) 6).toList := vmap_rep _ _
  have ha19 : All LR.rel w0 F [] (Vector.replicate 6 ⟨[], Sl.nil⟩ : Vector (LR Int) 6).toList := vAll_rep Rd.nil
  refine Lst.r (Ev.build (v := .agg (enc (Vector.replicate 6 ⟨[], Sl.nil⟩ : Vector (LR Int) 6)).toArray) (pv := []) trivial (fun w => by kernel_rfl)) ?_
  refine Lst.r (Ev.move rfl) ?_
  refine Lst.store (i := 2) rfl rfl rfl rfl rfl Try.sizeOf71 (vs := enc (FlushR.mk Flush.zero (Vector.replicate 6 ⟨[], Sl.nil⟩ : Vector (LR Int) 6))) rfl (Enc.len _) (Enc.one _) (cs' := enc (FlushR.mk Flush.zero (Vector.replicate 6 ⟨[], Sl.nil⟩ : Vector (LR Int) 6))) (Put.here ((Enc.len _).trans (Enc.len _).symm)) (L' := (.blk b9 (enc (Vector.replicate 6 ⟨[], Sl.nil⟩ : Vector (LR Int) 6)) 69) :: (.rows (α := Int) 3 ((Vector.replicate 6 ⟨[], Sl.nil⟩ : Vector (LR Int) 6).toList)) :: (.blk b5 (enc (FlushR.mk Flush.zero (Vector.replicate 6 ⟨[], Sl.nil⟩ : Vector (LR Int) 6))) 71) :: (.blk b1 (enc (FlushR.mk a0 rs_a0_2)) 71) :: L) rfl ?_
  refine Lst.store (i := 0) rfl rfl rfl rfl rfl Try.sizeOf69 (vs := enc (Vector.replicate 6 ⟨[], Sl.nil⟩ : Vector (LR Int) 6)) rfl (Enc.len _) (Enc.one _) (cs' := enc (Vector.replicate 6 ⟨[], Sl.nil⟩ : Vector (LR Int) 6)) (Put.here ((Enc.len _).trans (Enc.len _).symm)) (L' := (.blk b9 (enc (Vector.replicate 6 ⟨[], Sl.nil⟩ : Vector (LR Int) 6)) 69) :: (.rows (α := Int) 3 ((Vector.replicate 6 ⟨[], Sl.nil⟩ : Vector (LR Int) 6).toList)) :: (.blk b5 (enc (FlushR.mk Flush.zero (Vector.replicate 6 ⟨[], Sl.nil⟩ : Vector (LR Int) 6))) 71) :: (.blk b1 (enc (FlushR.mk a0 rs_a0_2)) 71) :: L) rfl ?_
  refine Lst.r (Ev.assign rfl) ?_
  refine Lst.nil ?_
  refine At.then ?_
  obtain rfl := some_inj H
  refine Cd.ret ?_
  refine At.then_ret ?_
  exact At.ret3 rfl (Res.cellA (i := 2) rfl rfl Try.isAgg71 Try.sizeOf71 (Enc.len _)) (Res.cellA (i := 0) rfl rfl Try.isAgg69 Try.sizeOf69 (Enc.len _)) (Res.tmp rfl) (FLe.refl _) (sc1 (sc1 (sc1 (sc1 (.refl _))))) ⟨(Vector.replicate 6 ⟨[], Sl.nil⟩ : Vector (LR Int) 6), (Vector.replicate 6 ⟨[], Sl.nil⟩ : Vector (LR Int) 6), rfl, rfl, hm16, (All.monoLR ha17 (FLe.refl _) (List.nil_sublist _)), hm18, (All.monoLR ha19 (FLe.refl _) (List.nil_sublist _))⟩
 replace H := ite_f hb15 H
 refine Cd.condF rfl hb15 ?_
 refine Cd.skip ?_
 refine At.then ?_
 refine Cd.seq ?_
 refine Cd.region ?_
 refine Lst.r (Ev.fieldAddr (off' := 0) rfl Try.runUnderlying71 rfl Try.sizeOf68 rfl rfl) ?_
 refine Lst.r (Ev.loadA (i := 3) rfl rfl Try.isAgg68 Try.sizeOf68 (ch := enc a0.View_) (Enc.len _) ((FlushR.get_View_ (Get.here _)).off (by rfl))) ?_
 refine Lst.r (Ev.fieldAddr (off' := 2) rfl Try.runUnderlying71 rfl Try.sizeOf5 rfl rfl) ?_
 refine Lst.r (Ev.load (i := 3) rfl rfl Try.isAgg5 (v := .int .u8 a0.Gone.toNat) ((FlushR.get_Gone (Get.here _)).off (by rfl))) ?_
 refine Lst.r (Ev.move rfl) ?_
 obtain ⟨r20, h21, H⟩ := bind_some H
 refine Lst.call1 rfl rfl (by decide) (vs := [.agg (enc a0.View_).toArray, .int .u8 a0.Gone.toNat, .int .u8 a1.toNat]) ⟨rfl, rfl, rfl, trivial⟩ Try.call134 (view_Next_sim h21 w0 _ M _ (sc4 hM)) ?_
 refine Lst.r (Ev.move rfl) ?_
 refine Lst.r (Ev.extract rfl rfl) ?_
 refine Lst.r (Ev.extract rfl rfl) ?_
 refine Lst.alloc (cs := enc View.zero) rfl rfl (by decide) Try.zeroValue68 rfl (fun b24 => ?_)
 refine Lst.store (i := 0) rfl rfl rfl rfl rfl Try.sizeOf68 (vs := enc r20.1) rfl (Enc.len _) (Enc.one _) (cs' := enc r20.1) (Put.here ((Enc.len _).trans (Enc.len _).symm)) (L' := (.blk b24 (enc r20.1) 68) :: (.blk b9 (enc (Vector.replicate 6 ⟨[], Sl.nil⟩ : Vector (LR Int) 6)) 69) :: (.rows (α := Int) 3 ((Vector.replicate 6 ⟨[], Sl.nil⟩ : Vector (LR Int) 6).toList)) :: (.blk b5 (enc (FlushR.mk Flush.zero (Vector.replicate 6 ⟨[], Sl.nil⟩ : Vector (LR Int) 6))) 71) :: (.blk b1 (enc (FlushR.mk a0 rs_a0_2)) 71) :: L) rfl ?_
 refine Lst.r (Ev.assign rfl) ?_
 refine Lst.nil ?_
 refine At.then ?_
 refine Cd.seq ?_
 refine Cd.seq ?_
 refine Cd.as (e' := [(2, pv b1 0), (4, pv b5 0), (5, pv b9 0), (8, pv b24 0), (9, iv r20.2)]) (L' := (.blk b24 (enc r20.1) 68) :: (.blk b9 (enc (Vector.replicate 6 ⟨[], Sl.nil⟩ : Vector (LR Int) 6)) 69) :: (.rows (α := Int) 3 ((Vector.replicate 6 ⟨[], Sl.nil⟩ : Vector (LR Int) 6).toList)) :: (.blk b5 (enc (FlushR.mk Flush.zero (Vector.replicate 6 ⟨[], Sl.nil⟩ : Vector (LR Int) 6))) 71) :: (.blk b1 (enc (FlushR.mk a0 rs_a0_2)) 71) :: L) ⟨rfl, rfl, rfl, rfl, rfl, trivial⟩ rfl ?_
 refine Cd.region ?_
 refine Lst.r (Ev.move rfl) ?_
 refine Lst.r (Ev.neq rfl rfl) ?_
 refine Lst.nil ?_
 refine At.then ?_
 rcases Bool.eq_false_or_eq_true (r20.2 != (0 : Int)) with hb26 | hb26
 ·replace H := ite_t hb26 H
  refine Cd.condT rfl hb26 ?_
  refine Cd.seq ?_
  refine Cd.region ?_
  have hm27 : (Vector.replicate 6 ⟨[], Sl.nil⟩ : Vector (LR Int) 6).toList.map LR.v = (Vector.replicate 6 [] : Vector (List Int) 6).toList := vmap_rep _ _
  have ha28 : All LR.rel w0 F [] (Vector.replicate 6 ⟨[], Sl.nil⟩ : Vector (LR Int) 6).toList := vAll_rep Rd.nil
  refine Lst.r (Ev.build (v := .agg (enc (FlushR.mk Flush.zero (Vector.replicate 6 ⟨[], Sl.nil⟩ : Vector (LR Int) 6))).toArray) (pv := []) trivial (fun w => by kernel_rfl)) ?_
  have hm29 : (Vector.replicate 6 ⟨[], Sl.nil⟩ : Vector (LR Int) 6).toList.map LR.v = (Vector.replicate 6 [] : Vector (List Int) 6).toList := vmap_rep _ _
  have ha30 : All LR.rel w0 F [] (Vector.replicate 6 ⟨[], Sl.nil⟩ : Vector (LR Int) 6).toList := vAll_rep Rd.nil
  refine Lst.r (Ev.build (v := .agg (enc (Vector.replicate 6 ⟨[], Sl.nil⟩ : Vector (LR Int) 6)).toArray) (pv := []) trivial (fun w => by kernel_rfl)) ?_
  refine Lst.r (Ev.move rfl) ?_
  refine Lst.store (i := 3) rfl rfl rfl rfl rfl Try.sizeOf71 (vs := enc (FlushR.mk Flush.zero (Vector.replicate 6 ⟨[], Sl.nil⟩ : Vector (LR Int) 6))) rfl (Enc.len _) (Enc.one _) (cs' := enc (FlushR.mk Flush.zero (Vector.replicate 6 ⟨[], Sl.nil⟩ : Vector (LR Int) 6))) (Put.here ((Enc.len _).trans (Enc.len _).symm)) (L' := (.blk b24 (enc r20.1) 68) :: (.blk b9 (enc (Vector.replicate 6 ⟨[], Sl.nil⟩ : Vector (LR Int) 6)) 69) :: (.rows (α := Int) 3 ((Vector.replicate 6 ⟨[], Sl.nil⟩ : Vector (LR Int) 6).toList)) :: (.blk b5 (enc (FlushR.mk Flush.zero (Vector.replicate 6 ⟨[], Sl.nil⟩ : Vector (LR Int) 6))) 71) :: (.blk b1 (enc (FlushR.mk a0 rs_a0_2)) 71) :: L) rfl ?_
  refine Lst.store (i := 1) rfl rfl rfl rfl rfl Try.sizeOf69 (vs := enc (Vector.replicate 6 ⟨[], Sl.nil⟩ : Vector (LR Int) 6)) rfl (Enc.len _) (Enc.one _) (cs' := enc (Vector.replicate 6 ⟨[], Sl.nil⟩ : Vector (LR Int) 6)) (Put.here ((Enc.len _).trans (Enc.len _).symm)) (L' := (.blk b24 (enc r20.1) 68) :: (.blk b9 (enc (Vector.replicate 6 ⟨[], Sl.nil⟩ : Vector (LR Int) 6)) 69) :: (.rows (α := Int) 3 ((Vector.replicate 6 ⟨[], Sl.nil⟩ : Vector (LR Int) 6).toList)) :: (.blk b5 (enc (FlushR.mk Flush.zero (Vector.replicate 6 ⟨[], Sl.nil⟩ : Vector (LR Int) 6))) 71) :: (.blk b1 (enc (FlushR.mk a0 rs_a0_2)) 71) :: L) rfl ?_
  refine Lst.r (Ev.assign rfl) ?_
  refine Lst.nil ?_
  refine At.then ?_
  obtain rfl := some_inj H
  refine Cd.ret ?_
  refine At.then_ret ?_
  exact At.ret3 rfl (Res.cellA (i := 3) rfl rfl Try.isAgg71 Try.sizeOf71 (Enc.len _)) (Res.cellA (i := 1) rfl rfl Try.isAgg69 Try.sizeOf69 (Enc.len _)) (Res.tmp rfl) (FLe.refl _) (sc1 (sc1 (sc1 (sc1 (sc1 (.refl _)))))) ⟨(Vector.replicate 6 ⟨[], Sl.nil⟩ : Vector (LR Int) 6), (Vector.replicate 6 ⟨[], Sl.nil⟩ : Vector (LR Int) 6), rfl, rfl, hm27, (All.monoLR ha28 (FLe.refl _) (List.nil_sublist _)), hm29, (All.monoLR ha30 (FLe.refl _) (List.nil_sublist _))⟩
 replace H := ite_f hb26 H
 refine Cd.condF rfl hb26 ?_
 refine Cd.skip ?_
 refine At.then ?_
 refine Cd.seq ?_
 refine Cd.region ?_
 refine Lst.r (Ev.fieldAddr (off' := 0) rfl Try.runUnderlying71 rfl Try.sizeOf68 rfl rfl) ?_
 refine Lst.r (Ev.fieldAddr (off' := 1) rfl Try.runUnderlying68 rfl Try.sizeOf5 rfl rfl) ?_
 refine Lst.r (Ev.load (i := 4) rfl rfl Try.isAgg5 (v := .int .u8 a0.View_.Members.toNat) ((FlushR.get_View_ (View.get_Members (Get.here _))).off (by rfl))) ?_
 refine Lst.r (Ev.fieldAddr (off' := 2) rfl Try.runUnderlying71 rfl Try.sizeOf5 rfl rfl) ?_
 refine Lst.r (Ev.load (i := 4) rfl rfl Try.isAgg5 (v := .int .u8 a0.Gone.toNat) ((FlushR.get_Gone (Get.here _)).off (by rfl))) ?_
 refine Lst.r (Ev.andNotU8 (i := a0.View_.Members) (j := a0.Gone) rfl rfl) ?_
 refine Lst.r (Ev.assign rfl) ?_
 refine Lst.nil ?_
 refine At.then ?_
 refine Cd.seq ?_
 refine Cd.region ?_
 refine Lst.alloc (cs := enc (Vector.replicate 30 false)) rfl rfl (by decide) Try.zeroValue173 rfl (fun b31 => ?_)
 refine Lst.nil ?_
 refine At.then ?_
 refine Cd.seq ?_
 refine Cd.seq ?_
 refine Cd.region ?_
 refine Lst.r (Ev.fieldAddr (off' := 3) rfl Try.runUnderlying71 rfl Try.sizeOf69 rfl rfl) ?_
 refine Lst.r (Ev.loadA (i := 5) rfl rfl Try.isAgg69 Try.sizeOf69 (ch := enc rs_a0_2) (Enc.len _) ((FlushR.get_Told (Get.here _)).off (by rfl))) ?_
 refine Lst.r (Ev.move rfl) ?_
 refine Lst.nil ?_
 refine At.then ?_
 refine Cd.block ?_
 obtain ⟨ol33, H, HKl33⟩ := bind_some H
 refine Cd.loop (σ := Nat × Nat × (Vector Bool 30)) (fun (i33, k33, y34) => [(2, pv b1 0), (4, pv b5 0), (5, pv b9 0), (8, pv b24 0), (10, .int .u8 (a0.View_.Members &&& ~~~a0.Gone).toNat), (11, pv b31 0), (48, .agg (enc rs_a0_2).toArray), (49, iv (i33 : Int))]) (fun (i33, k33, y34) => (.blk b31 (enc y34) 173) :: (.blk b24 (enc r20.1) 68) :: (.blk b9 (enc (Vector.replicate 6 ⟨[], Sl.nil⟩ : Vector (LR Int) 6)) 69) :: (.rows (α := Int) 3 ((Vector.replicate 6 ⟨[], Sl.nil⟩ : Vector (LR Int) 6).toList)) :: (.blk b5 (enc (FlushR.mk Flush.zero (Vector.replicate 6 ⟨[], Sl.nil⟩ : Vector (LR Int) 6))) 71) :: (.blk b1 (enc (FlushR.mk a0 rs_a0_2)) 71) :: L) (fun _ => (fun (i33, k33, y34) => rangeF (flush_Change_B0 a0) k33 i33 y34 = some ol33 ∧ i33 + k33 = 6)) (fun (i33, k33, y34) => k33) (0, 6, (Vector.replicate 30 false)) ⟨rfl, rfl, rfl, rfl, rfl, rfl, rfl, rfl, trivial⟩ rfl ⟨H, by omega⟩ ?_
 rintro F35 ⟨i33, k33, y34⟩ hF36 ⟨H, hik33⟩
 refine Cd.as (e' := [(2, pv b1 0), (4, pv b5 0), (5, pv b9 0), (8, pv b24 0), (10, .int .u8 (a0.View_.Members &&& ~~~a0.Gone).toNat), (11, pv b31 0), (48, .agg (enc rs_a0_2).toArray), (49, iv (i33 : Int))]) (L' := (.blk b31 (enc y34) 173) :: (.blk b24 (enc r20.1) 68) :: (.blk b9 (enc (Vector.replicate 6 ⟨[], Sl.nil⟩ : Vector (LR Int) 6)) 69) :: (.rows (α := Int) 3 ((Vector.replicate 6 ⟨[], Sl.nil⟩ : Vector (LR Int) 6).toList)) :: (.blk b5 (enc (FlushR.mk Flush.zero (Vector.replicate 6 ⟨[], Sl.nil⟩ : Vector (LR Int) 6))) 71) :: (.blk b1 (enc (FlushR.mk a0 rs_a0_2)) 71) :: L) ⟨rfl, rfl, rfl, rfl, rfl, rfl, rfl, rfl, trivial⟩ rfl ?_
 rcases k33 with _ | k33
 ·have hc33 : decide ((i33 : Int) < (6 : Int)) = false := decide_eq_false (by omega)
  replace H := rangeF_end H
  refine Cd.seq ?_
  refine Cd.region ?_
  refine Lst.r (Ev.lss rfl rfl) ?_
  refine Lst.nil ?_
  refine At.then ?_
  refine Cd.seq ?_
  refine Cd.condF rfl hc33 ?_
  refine Cd.exit ?_
  refine At.then_exit ?_
  refine At.then_exit ?_
  refine At.in_exit ?_
  subst H
  replace H := HKl33
  refine At.then ?_
  refine Cd.seq ?_
  refine Cd.region ?_
  have hm65 : (Vector.replicate 6 ⟨[], Sl.nil⟩ : Vector (LR Int) 6).toList.map LR.v = (Vector.replicate 6 [] : Vector (List Int) 6).toList := vmap_rep _ _
  refine Lst.rowsNilV Int 3 6 ?_
  refine Lst.alloc (cs := enc (Vector.replicate 6 ⟨[], Sl.nil⟩ : Vector (LR Int) 6)) rfl rfl (by decide) Try.zeroValue69 rfl (fun b67 => ?_)
  refine Lst.nil ?_
  refine At.then ?_
  refine Cd.seq ?_
  refine Cd.seq ?_
  refine Cd.region ?_
  refine Lst.r (Ev.move rfl) ?_
  refine Lst.nil ?_
  refine At.then ?_
  refine Cd.block ?_
  refine Cd.front (i := 1) rfl (L' := (.rows (α := Int) 3 ((Vector.replicate 6 ⟨[], Sl.nil⟩ : Vector (LR Int) 6).toList)) :: (.blk b67 (enc (Vector.replicate 6 ⟨[], Sl.nil⟩ : Vector (LR Int) 6)) 69) :: (.blk b31 (enc y34) 173) :: (.blk b24 (enc r20.1) 68) :: (.blk b9 (enc (Vector.replicate 6 ⟨[], Sl.nil⟩ : Vector (LR Int) 6)) 69) :: (.rows (α := Int) 3 ((Vector.replicate 6 ⟨[], Sl.nil⟩ : Vector (LR Int) 6).toList)) :: (.blk b5 (enc (FlushR.mk Flush.zero (Vector.replicate 6 ⟨[], Sl.nil⟩ : Vector (LR Int) 6))) 71) :: (.blk b1 (enc (FlushR.mk a0 rs_a0_2)) 71) :: L) rfl ?_
  obtain ⟨ol69, H, HKl69⟩ := bind_some H
  refine Cd.loop (σ := Nat × Nat × (Vector (LR Int) 6) × (Vector (List Int) 6)) (fun (i69, k69, rs70, l71) => [(2, pv b1 0), (4, pv b5 0), (5, pv b9 0), (8, pv b24 0), (10, .int .u8 (a0.View_.Members &&& ~~~a0.Gone).toNat), (11, pv b31 0), (16, pv b67 0), (73, iv (i69 : Int))]) (fun (i69, k69, rs70, l71) => (.rows (α := Int) 3 rs70.toList) :: (.blk b67 (enc rs70) 69) :: (.blk b31 (enc y34) 173) :: (.blk b24 (enc r20.1) 68) :: (.blk b9 (enc (Vector.replicate 6 ⟨[], Sl.nil⟩ : Vector (LR Int) 6)) 69) :: (.rows (α := Int) 3 ((Vector.replicate 6 ⟨[], Sl.nil⟩ : Vector (LR Int) 6).toList)) :: (.blk b5 (enc (FlushR.mk Flush.zero (Vector.replicate 6 ⟨[], Sl.nil⟩ : Vector (LR Int) 6))) 71) :: (.blk b1 (enc (FlushR.mk a0 rs_a0_2)) 71) :: L) (fun Fx => (fun (i69, k69, rs70, l71) => rangeF (flush_Change_B4 a0 y34) k69 i69 l71 = some ol69 ∧ i69 + k69 = 6 ∧ rs70.toList.map LR.v = l71.toList)) (fun (i69, k69, rs70, l71) => k69) (0, 6, (Vector.replicate 6 ⟨[], Sl.nil⟩ : Vector (LR Int) 6), (Vector.replicate 6 [] : Vector (List Int) 6)) ⟨rfl, rfl, rfl, rfl, rfl, rfl, rfl, rfl, trivial⟩ rfl ⟨H, by omega, hm65⟩ ?_
  rintro F74 ⟨i69, k69, rs70, l71⟩ hF75 ⟨H, hik69, fm72⟩
  refine Cd.as (e' := [(2, pv b1 0), (4, pv b5 0), (5, pv b9 0), (8, pv b24 0), (10, .int .u8 (a0.View_.Members &&& ~~~a0.Gone).toNat), (11, pv b31 0), (16, pv b67 0), (73, iv (i69 : Int))]) (L' := (.rows (α := Int) 3 rs70.toList) :: (.blk b67 (enc rs70) 69) :: (.blk b31 (enc y34) 173) :: (.blk b24 (enc r20.1) 68) :: (.blk b9 (enc (Vector.replicate 6 ⟨[], Sl.nil⟩ : Vector (LR Int) 6)) 69) :: (.rows (α := Int) 3 ((Vector.replicate 6 ⟨[], Sl.nil⟩ : Vector (LR Int) 6).toList)) :: (.blk b5 (enc (FlushR.mk Flush.zero (Vector.replicate 6 ⟨[], Sl.nil⟩ : Vector (LR Int) 6))) 71) :: (.blk b1 (enc (FlushR.mk a0 rs_a0_2)) 71) :: L) ⟨rfl, rfl, rfl, rfl, rfl, rfl, rfl, rfl, trivial⟩ rfl ?_
  rcases k69 with _ | k69
  ·have hc69 : decide ((i69 : Int) < (6 : Int)) = false := decide_eq_false (by omega)
   replace H := rangeF_end H
   refine Cd.seq ?_
   refine Cd.region ?_
   refine Lst.r (Ev.lss rfl rfl) ?_
   refine Lst.nil ?_
   refine At.then ?_
   refine Cd.seq ?_
   refine Cd.condF rfl hc69 ?_
   refine Cd.exit ?_
   refine At.then_exit ?_
   refine At.then_exit ?_
   refine At.in_exit ?_
   subst H
   replace H := HKl69
   refine At.then ?_
   refine Cd.seq ?_
   obtain ⟨o136, h137, H⟩ := Let_some H
   refine Cd.headMeet (σ := (Vector (LR Int) 6) × (Vector (List Int) 6) × Flush × (Vector (LR Int) 6)) 4 (fun (rs128, l129, y132, rs133) => [(4, pv b5 0), (5, pv b9 0), (110, .agg (enc rs128).toArray)]) (fun (rs128, l129, y132, rs133) => (.rows (α := Int) 3 rs128.toList) :: (.blk b67 (enc rs70) 69) :: (.blk b31 (enc y34) 173) :: (.blk b24 (enc r20.1) 68) :: (.blk b9 (enc (Vector.replicate 6 ⟨[], Sl.nil⟩ : Vector (LR Int) 6)) 69) :: (.rows (α := Int) 3 ((Vector.replicate 6 ⟨[], Sl.nil⟩ : Vector (LR Int) 6).toList)) :: (.blk b5 (enc (FlushR.mk y132 rs133)) 71) :: (.blk b1 (enc (FlushR.mk a0 rs_a0_2)) 71) :: L) (fun Fx (rs128, l129, y132, rs133) => (l129, y132) = o136 ∧ rs128.toList.map LR.v = l129.toList ∧ rs133.toList.map LR.v = y132.Told.toList ∧ All LR.rel w0 Fx M rs133.toList) (by kernel_rfl) (by kernel_rfl) (behind_sink (by kernel_rfl) (by kernel_rfl) (by kernel_rfl)) (by kernel_rfl) (fun hsel hlt => ?_) ?_
   ·refine HdJ.keep (fun w => St w0 F74 ((.rows (α := Int) 3 rs70.toList) :: (.blk b67 (enc rs70) 69) :: (.blk b31 (enc y34) 173) :: (.blk b24 (enc r20.1) 68) :: (.blk b9 (enc (Vector.replicate 6 ⟨[], Sl.nil⟩ : Vector (LR Int) 6)) 69) :: (.rows (α := Int) 3 ((Vector.replicate 6 ⟨[], Sl.nil⟩ : Vector (LR Int) 6).toList)) :: (.blk b1 (enc (FlushR.mk a0 rs_a0_2)) 71) :: L) w) (fun w h => trivial) ?_
    refine HdJ.tk hsel hlt 0 (fun w h => h.sublist (sk1 (sk1 (sk1 (sk1 (sk1 (sk1 (sc1 (sk1 (.refl _)))))))))) rfl (Ev.loadA (i := 3) rfl rfl Try.isAgg68 Try.sizeOf68 (ch := enc r20.1) (Enc.len _) (Get.here _)) ?_
    have hm138 : (Vector.replicate 6 ⟨[], Sl.nil⟩ : Vector (LR Int) 6).toList.map LR.v = (Vector.replicate 6 [] : Vector (List Int) 6).toList := vmap_rep _ _
    have ha139 : All LR.rel w0 F74 [] (Vector.replicate 6 ⟨[], Sl.nil⟩ : Vector (LR Int) 6).toList := vAll_rep Rd.nil
    refine HdJ.tk hsel hlt 1 (fun w h => h.sublist (sk1 (sk1 (sk1 (sk1 (sk1 (sk1 (sc1 (sk1 (.refl _)))))))))) rfl (Ev.build (v := .agg (enc (FlushR.mk ({ Flush.zero with View_ := r20.1 } : Flush) (Vector.replicate 6 ⟨[], Sl.nil⟩ : Vector (LR Int) 6))).toArray) (pv := [(0, .agg (enc r20.1).toArray)]) ⟨rfl, rfl, trivial⟩ (run_buildStruct (places := #[(0, 2), (2, 1), (3, 6)]) Try.zeroValue71 (zs := enc (FlushR.mk Flush.zero (Vector.replicate 6 ⟨[], Sl.nil⟩ : Vector (LR Int) 6))) rfl Try.runUnderlying71 (fun w => by kernel_rfl) (fill_cons (cs := enc (FlushR.mk Flush.zero (Vector.replicate 6 ⟨[], Sl.nil⟩ : Vector (LR Int) 6))) (cs' := enc (FlushR.mk ({ Flush.zero with View_ := r20.1 } : Flush) (Vector.replicate 6 ⟨[], Sl.nil⟩ : Vector (LR Int) 6))) (vs := enc r20.1) rfl rfl (Enc.len _) ((FlushR.put_View_ (p := (FlushR.mk Flush.zero (Vector.replicate 6 ⟨[], Sl.nil⟩ : Vector (LR Int) 6))) (y := r20.1) (Put.here ((Enc.len _).trans (Enc.len _).symm))).off rfl) fill_nil))) ?_
    refine HdJ.tk hsel hlt 2 (fun w h => h.sublist (sk1 (sk1 (sk1 (sk1 (sk1 (sk1 (sc1 (sk1 (.refl _)))))))))) rfl (Ev.loadA (i := 1) rfl rfl Try.isAgg69 Try.sizeOf69 (ch := enc rs70) (Enc.len _) (Get.here _)) ?_
    refine HdJ.step [3] (by kernel_rfl) rfl ?_
    refine HdStep.c (fun inv => ?_) ?_
    ·refine Lst.store (i := 6) rfl rfl rfl rfl rfl Try.sizeOf71 (vs := enc (FlushR.mk ({ Flush.zero with View_ := r20.1 } : Flush) (Vector.replicate 6 ⟨[], Sl.nil⟩ : Vector (LR Int) 6))) rfl (Enc.len _) (Enc.one _) (cs' := enc (FlushR.mk ({ Flush.zero with View_ := r20.1 } : Flush) (Vector.replicate 6 ⟨[], Sl.nil⟩ : Vector (LR Int) 6))) (Put.here ((Enc.len _).trans (Enc.len _).symm)) (L' := (.rows (α := Int) 3 rs70.toList) :: (.blk b67 (enc rs70) 69) :: (.blk b31 (enc y34) 173) :: (.blk b24 (enc r20.1) 68) :: (.blk b9 (enc (Vector.replicate 6 ⟨[], Sl.nil⟩ : Vector (LR Int) 6)) 69) :: (.rows (α := Int) 3 ((Vector.replicate 6 ⟨[], Sl.nil⟩ : Vector (LR Int) 6).toList)) :: (.blk b5 (enc (FlushR.mk ({ Flush.zero with View_ := r20.1 } : Flush) (Vector.replicate 6 ⟨[], Sl.nil⟩ : Vector (LR Int) 6))) 71) :: (.blk b1 (enc (FlushR.mk a0 rs_a0_2)) 71) :: L) rfl ?_
     refine Lst.nil ?_
     refine At.hd inv (fun w h => (h.weaken (FLe.refl _)).sublist (sk1 (sk1 (sk1 (sk1 (sk1 (sk1 (sc1 (sk1 (.refl _)))))))))) ?_
     refine HdJ.done (by kernel_rfl) ?_
     exact At.meetN (rs70, l71, ({ Flush.zero with View_ := r20.1 } : Flush), (Vector.replicate 6 ⟨[], Sl.nil⟩ : Vector (LR Int) 6)) (FLe.refl _) ⟨rfl, rfl, rfl, trivial⟩ rfl ⟨h137, fm72, hm138, (All.monoLR ha139 (FLe.refl _) (List.nil_sublist _))⟩
    exact trivial
   rintro F140 ⟨rs128, l129, y132, rs133⟩ hF141 ⟨hy, fm130, fm134, fa135⟩
   subst hy
   refine Lst.as (e' := [(4, pv b5 0), (5, pv b9 0), (110, .agg (enc rs128).toArray)]) (L' := (.rows (α := Int) 3 rs128.toList) :: (.blk b67 (enc rs70) 69) :: (.blk b31 (enc y34) 173) :: (.blk b24 (enc r20.1) 68) :: (.blk b9 (enc (Vector.replicate 6 ⟨[], Sl.nil⟩ : Vector (LR Int) 6)) 69) :: (.rows (α := Int) 3 ((Vector.replicate 6 ⟨[], Sl.nil⟩ : Vector (LR Int) 6).toList)) :: (.blk b5 (enc (FlushR.mk y132 rs133)) 71) :: (.blk b1 (enc (FlushR.mk a0 rs_a0_2)) 71) :: L) ⟨rfl, rfl, rfl, trivial⟩ rfl ?_
   refine Lst.store (i := 4) rfl rfl rfl rfl rfl Try.sizeOf69 (vs := enc rs128) rfl (Enc.len _) (Enc.one _) (cs' := enc rs128) (Put.here ((Enc.len _).trans (Enc.len _).symm)) (L' := (.rows (α := Int) 3 rs128.toList) :: (.blk b67 (enc rs70) 69) :: (.blk b31 (enc y34) 173) :: (.blk b24 (enc r20.1) 68) :: (.blk b9 (enc rs128) 69) :: (.rows (α := Int) 3 ((Vector.replicate 6 ⟨[], Sl.nil⟩ : Vector (LR Int) 6).toList)) :: (.blk b5 (enc (FlushR.mk y132 rs133)) 71) :: (.blk b1 (enc (FlushR.mk a0 rs_a0_2)) 71) :: L) rfl ?_
   refine Lst.r (Ev.assign rfl) ?_
   refine Lst.nil ?_
   refine At.then ?_
   obtain rfl := some_inj H
   refine Cd.ret ?_
   refine At.freeze (i := 0) rfl (fun F142 hF143 hz144 => ?_)
   have ha145 : All LR.rel w0 F142 [] rs128.toList := All.frozen hz144
   refine At.its (L' := (.blk b67 (enc rs70) 69) :: (.blk b31 (enc y34) 173) :: (.blk b24 (enc r20.1) 68) :: (.blk b9 (enc rs128) 69) :: (.rows (α := Int) 3 ((Vector.replicate 6 ⟨[], Sl.nil⟩ : Vector (LR Int) 6).toList)) :: (.blk b5 (enc (FlushR.mk y132 rs133)) 71) :: (.blk b1 (enc (FlushR.mk a0 rs_a0_2)) 71) :: L) rfl ?_
   exact At.ret3 rfl (Res.cellA (i := 5) rfl rfl Try.isAgg71 Try.sizeOf71 (Enc.len _)) (Res.cellA (i := 3) rfl rfl Try.isAgg69 Try.sizeOf69 (Enc.len _)) (Res.tmp rfl) (FLe.trans (FLe.trans (FLe.trans hF36 hF75) hF141) hF143) (sc1 (sc1 (sc1 (sc1 (sc1 (sc1 (sc1 (.refl _)))))))) ⟨rs133, rs128, rfl, rfl, fm134, (All.monoLR fa135 hF143 (.refl _)), fm130, (All.monoLR ha145 (FLe.refl _) (List.nil_sublist _))⟩
  have hc69 : decide ((i69 : Int) < (6 : Int)) = true := decide_eq_true (by omega)
  obtain ⟨c69, H, hgo69⟩ := rangeF_go H
  unfold flush_Change_B4 at H
  try dsimp only at H
  refine Cd.seq ?_
  refine Cd.region ?_
  refine Lst.r (Ev.lss rfl rfl) ?_
  refine Lst.nil ?_
  refine At.then ?_
  refine Cd.seq ?_
  refine Cd.condT rfl hc69 ?_
  refine Cd.skip ?_
  refine At.then ?_
  refine Cd.seq ?_
  refine Cd.block ?_
  refine Cd.seq ?_
  refine Cd.region ?_
  refine Lst.r (Ev.move rfl) ?_
  refine Lst.r (Ev.assign rfl) ?_
  refine Lst.nil ?_
  refine At.then ?_
  refine Cd.seq ?_
  refine Cd.region ?_
  refine Lst.r (Ev.loadA (i := 2) rfl rfl Try.isAgg173 Try.sizeOf173 (ch := enc y34) (Enc.len _) (Get.here _)) ?_
  refine Lst.r (Ev.move rfl) ?_
  refine Lst.nil ?_
  refine At.then ?_
  refine Cd.block ?_
  obtain ⟨ol76, H, HKl76⟩ := bind_some H
  refine Cd.loop (σ := Nat × Nat × (Vector (LR Int) 6) × (Vector (List Int) 6)) (fun (i76, k76, rs77, l78) => [(2, pv b1 0), (4, pv b5 0), (5, pv b9 0), (8, pv b24 0), (10, .int .u8 (a0.View_.Members &&& ~~~a0.Gone).toNat), (11, pv b31 0), (16, pv b67 0), (17, iv (i69 : Int)), (73, iv (i69 : Int)), (76, .agg (enc y34).toArray), (77, iv (i76 : Int))]) (fun (i76, k76, rs77, l78) => (.rows (α := Int) 3 rs77.toList) :: (.blk b67 (enc rs77) 69) :: (.blk b31 (enc y34) 173) :: (.blk b24 (enc r20.1) 68) :: (.blk b9 (enc (Vector.replicate 6 ⟨[], Sl.nil⟩ : Vector (LR Int) 6)) 69) :: (.rows (α := Int) 3 ((Vector.replicate 6 ⟨[], Sl.nil⟩ : Vector (LR Int) 6).toList)) :: (.blk b5 (enc (FlushR.mk Flush.zero (Vector.replicate 6 ⟨[], Sl.nil⟩ : Vector (LR Int) 6))) 71) :: (.blk b1 (enc (FlushR.mk a0 rs_a0_2)) 71) :: L) (fun Fx => (fun (i76, k76, rs77, l78) => rangeF (flush_Change_B6 a0 y34 i69) k76 i76 l78 = some ol76 ∧ i76 + k76 = 30 ∧ rs77.toList.map LR.v = l78.toList)) (fun (i76, k76, rs77, l78) => k76) (0, 30, rs70, l71) ⟨rfl, rfl, rfl, rfl, rfl, rfl, rfl, rfl, rfl, rfl, rfl, trivial⟩ rfl ⟨H, by omega, fm72⟩ ?_
  rintro F81 ⟨i76, k76, rs77, l78⟩ hF82 ⟨H, hik76, fm79⟩
  refine Cd.as (e' := [(2, pv b1 0), (4, pv b5 0), (5, pv b9 0), (8, pv b24 0), (10, .int .u8 (a0.View_.Members &&& ~~~a0.Gone).toNat), (11, pv b31 0), (16, pv b67 0), (17, iv (i69 : Int)), (73, iv (i69 : Int)), (76, .agg (enc y34).toArray), (77, iv (i76 : Int))]) (L' := (.rows (α := Int) 3 rs77.toList) :: (.blk b67 (enc rs77) 69) :: (.blk b31 (enc y34) 173) :: (.blk b24 (enc r20.1) 68) :: (.blk b9 (enc (Vector.replicate 6 ⟨[], Sl.nil⟩ : Vector (LR Int) 6)) 69) :: (.rows (α := Int) 3 ((Vector.replicate 6 ⟨[], Sl.nil⟩ : Vector (LR Int) 6).toList)) :: (.blk b5 (enc (FlushR.mk Flush.zero (Vector.replicate 6 ⟨[], Sl.nil⟩ : Vector (LR Int) 6))) 71) :: (.blk b1 (enc (FlushR.mk a0 rs_a0_2)) 71) :: L) ⟨rfl, rfl, rfl, rfl, rfl, rfl, rfl, rfl, rfl, rfl, rfl, trivial⟩ rfl ?_
  rcases k76 with _ | k76
  ·have hc76 : decide ((i76 : Int) < (30 : Int)) = false := decide_eq_false (by omega)
   replace H := rangeF_end H
   refine Cd.seq ?_
   refine Cd.region ?_
   refine Lst.r (Ev.lss rfl rfl) ?_
   refine Lst.nil ?_
   refine At.then ?_
   refine Cd.seq ?_
   refine Cd.condF rfl hc76 ?_
   refine Cd.exit ?_
   refine At.then_exit ?_
   refine At.then_exit ?_
   refine At.in_exit ?_
   subst H
   replace H := HKl76
   refine At.in_normal ?_
   refine At.then ?_
   refine Cd.region ?_
   refine Lst.r (Ev.incr (by omega) rfl rfl) ?_
   refine Lst.r (Ev.move rfl) ?_
   refine Lst.nil ?_
   exact At.meet (i69 + 1, k69, rs77, l78) (FLe.trans hF75 hF82) ⟨rfl, rfl, rfl, rfl, rfl, rfl, rfl, rfl, trivial⟩ rfl ⟨⟨hgo69 _ (some_inj H).symm, by omega, fm79⟩, Nat.lt_succ_self _⟩
  have hc76 : decide ((i76 : Int) < (30 : Int)) = true := decide_eq_true (by omega)
  obtain ⟨c76, H, hgo76⟩ := rangeF_go H
  unfold flush_Change_B6 at H
  try dsimp only at H
  refine Cd.seq ?_
  refine Cd.region ?_
  refine Lst.r (Ev.lss rfl rfl) ?_
  refine Lst.nil ?_
  refine At.then ?_
  refine Cd.seq ?_
  refine Cd.condT rfl hc76 ?_
  refine Cd.skip ?_
  refine At.then ?_
  refine Cd.seq ?_
  refine Cd.block ?_
  refine Cd.seq ?_
  refine Cd.region ?_
  refine Lst.r (Ev.move rfl) ?_
  obtain ⟨x83, h84, H⟩ := bind_some H
  have g85 := vat_some h84
  refine Lst.r (Ev.index1 rfl rfl Try.runUnderlying173 Try.isAgg4 Try.sizeOf4 g85.1 g85.2.1 rfl ((Get.vecN (s := 1) rfl g85.2.2 (Get.here _)).off (by omega))) ?_
  refine Lst.r (Ev.assign rfl) ?_
  refine Lst.r (Ev.assign rfl) ?_
  refine Lst.nil ?_
  refine At.then ?_
  refine Cd.seq ?_
  refine Cd.region ?_
  refine Lst.r (Ev.move rfl) ?_
  refine Lst.r (Ev.move rfl) ?_
  obtain ⟨o86, H, HKo86⟩ := bind_some H
  refine Lst.join (σ := Bool) 6 (fun y87 => [(2, pv b1 0), (4, pv b5 0), (5, pv b9 0), (8, pv b24 0), (10, .int .u8 (a0.View_.Members &&& ~~~a0.Gone).toNat), (11, pv b31 0), (16, pv b67 0), (17, iv (i69 : Int)), (18, iv (i76 : Int)), (73, iv (i69 : Int)), (76, .agg (enc y34).toArray), (77, iv (i76 : Int)), (88, .bool y87)]) (fun y87 => (.rows (α := Int) 3 rs77.toList) :: (.blk b67 (enc rs77) 69) :: (.blk b31 (enc y34) 173) :: (.blk b24 (enc r20.1) 68) :: (.blk b9 (enc (Vector.replicate 6 ⟨[], Sl.nil⟩ : Vector (LR Int) 6)) 69) :: (.rows (α := Int) 3 ((Vector.replicate 6 ⟨[], Sl.nil⟩ : Vector (LR Int) 6).toList)) :: (.blk b5 (enc (FlushR.mk Flush.zero (Vector.replicate 6 ⟨[], Sl.nil⟩ : Vector (LR Int) 6))) 71) :: (.blk b1 (enc (FlushR.mk a0 rs_a0_2)) 71) :: L) (fun _ y87 => y87 = o86) ?_ ?_
  ·rcases (Bool.eq_false_or_eq_true x83).symm with hb88 | hb88
   ·replace H := ite_f hb88 H
    refine Lst.skip rfl rfl rfl hb88 rfl (by decide) ?_
    refine Lst.skip rfl rfl rfl hb88 rfl (by decide) ?_
    refine Lst.skip rfl rfl rfl hb88 rfl (by decide) ?_
    refine Lst.skip rfl rfl rfl hb88 rfl (by decide) ?_
    refine Lst.skip rfl rfl rfl hb88 rfl (by decide) ?_
    refine Lst.r (Ev.pickF rfl hb88 rfl) ?_
    refine Lst.nil ?_
    exact At.meet false (FLe.refl _) ⟨rfl, rfl, rfl, rfl, rfl, rfl, rfl, rfl, rfl, rfl, rfl, rfl, rfl, trivial⟩ rfl (some_inj H)
   replace H := ite_t hb88 H
   refine Lst.rG hb88 (Ev.move rfl) ?_
   refine Lst.rG hb88 (Ev.move rfl) ?_
   obtain ⟨n89, h90, H⟩ := bind_some H
   refine Lst.rG hb88 (Ev.shrU8 (i := a0.View_.Members &&& ~~~a0.Gone) (m := n89) rfl (congrArg some (congrArg (Value.int .i64) (cnt_some h90)))) ?_
   refine Lst.rG hb88 (Ev.andU8 (i := (a0.View_.Members &&& ~~~a0.Gone) >>> n89) (j := (1 : BitVec 8)) rfl rfl) ?_
   refine Lst.rG hb88 (Ev.eql rfl rfl) ?_
   refine Lst.r (Ev.pickT rfl hb88 rfl) ?_
   refine Lst.nil ?_
   exact At.meet (((((a0.View_.Members &&& ~~~a0.Gone) >>> n89) &&& (1 : BitVec 8)).toNat : Int) == ((1 : BitVec 8).toNat : Int)) (FLe.refl _) ⟨rfl, rfl, rfl, rfl, rfl, rfl, rfl, rfl, rfl, rfl, rfl, rfl, rfl, trivial⟩ rfl (some_inj H)
  rintro F92 y87 hF93 hy
  subst hy
  refine Lst.as (e' := [(2, pv b1 0), (4, pv b5 0), (5, pv b9 0), (8, pv b24 0), (10, .int .u8 (a0.View_.Members &&& ~~~a0.Gone).toNat), (11, pv b31 0), (16, pv b67 0), (17, iv (i69 : Int)), (18, iv (i76 : Int)), (73, iv (i69 : Int)), (76, .agg (enc y34).toArray), (77, iv (i76 : Int)), (88, .bool y87)]) (L' := (.rows (α := Int) 3 rs77.toList) :: (.blk b67 (enc rs77) 69) :: (.blk b31 (enc y34) 173) :: (.blk b24 (enc r20.1) 68) :: (.blk b9 (enc (Vector.replicate 6 ⟨[], Sl.nil⟩ : Vector (LR Int) 6)) 69) :: (.rows (α := Int) 3 ((Vector.replicate 6 ⟨[], Sl.nil⟩ : Vector (LR Int) 6).toList)) :: (.blk b5 (enc (FlushR.mk Flush.zero (Vector.replicate 6 ⟨[], Sl.nil⟩ : Vector (LR Int) 6))) 71) :: (.blk b1 (enc (FlushR.mk a0 rs_a0_2)) 71) :: L) ⟨rfl, rfl, rfl, rfl, rfl, rfl, rfl, rfl, rfl, rfl, rfl, rfl, rfl, trivial⟩ rfl ?_
  replace H := HKo86
  refine Lst.r (Ev.move rfl) ?_
  obtain ⟨o94, H, HKo94⟩ := bind_some H
  refine Lst.join (σ := Bool) 8 (fun y95 => [(2, pv b1 0), (4, pv b5 0), (5, pv b9 0), (8, pv b24 0), (10, .int .u8 (a0.View_.Members &&& ~~~a0.Gone).toNat), (11, pv b31 0), (16, pv b67 0), (17, iv (i69 : Int)), (18, iv (i76 : Int)), (73, iv (i69 : Int)), (76, .agg (enc y34).toArray), (77, iv (i76 : Int)), (97, .bool y95)]) (fun y95 => (.rows (α := Int) 3 rs77.toList) :: (.blk b67 (enc rs77) 69) :: (.blk b31 (enc y34) 173) :: (.blk b24 (enc r20.1) 68) :: (.blk b9 (enc (Vector.replicate 6 ⟨[], Sl.nil⟩ : Vector (LR Int) 6)) 69) :: (.rows (α := Int) 3 ((Vector.replicate 6 ⟨[], Sl.nil⟩ : Vector (LR Int) 6).toList)) :: (.blk b5 (enc (FlushR.mk Flush.zero (Vector.replicate 6 ⟨[], Sl.nil⟩ : Vector (LR Int) 6))) 71) :: (.blk b1 (enc (FlushR.mk a0 rs_a0_2)) 71) :: L) (fun _ y95 => y95 = o94) ?_ ?_
  ·rcases (Bool.eq_false_or_eq_true y87).symm with hb96 | hb96
   ·replace H := ite_f hb96 H
    refine Lst.skip rfl rfl rfl hb96 rfl (by decide) ?_
    refine Lst.skip rfl rfl rfl hb96 rfl (by decide) ?_
    refine Lst.skip rfl rfl rfl hb96 rfl (by decide) ?_
    refine Lst.skip rfl rfl rfl hb96 rfl (by decide) ?_
    refine Lst.skip rfl rfl rfl hb96 rfl (by decide) ?_
    refine Lst.skip rfl rfl rfl hb96 rfl (by decide) ?_
    refine Lst.skip rfl rfl rfl hb96 rfl (by decide) ?_
    refine Lst.r (Ev.pickF rfl hb96 rfl) ?_
    refine Lst.nil ?_
    exact At.meet false (FLe.refl _) ⟨rfl, rfl, rfl, rfl, rfl, rfl, rfl, rfl, rfl, rfl, rfl, rfl, rfl, trivial⟩ rfl (some_inj H)
   replace H := ite_t hb96 H
   refine Lst.rG hb96 (Ev.move rfl) ?_
   refine Lst.rG hb96 (Ev.fieldAddr (off' := 3) rfl Try.runUnderlying71 rfl Try.sizeOf69 rfl rfl) ?_
   obtain ⟨x97, h98, H⟩ := bind_some H
   have g99 := vat_some h98
   obtain ⟨⟨r100v, r100h⟩, r100g, r100e, r100m, r100l⟩ := vmap_get hm_a0_2 g99.2.2
   obtain rfl : x97 = r100v := r100e.symm
   have r100q : Rd w0 _ _ r100h x97 := ha_a0_2 _ r100m
   refine Lst.rG hb96 (Ev.indexAddr (off' := 3 + (i69 : Int).toNat * 1) rfl rfl Try.runUnderlying69 Try.sizeOf36 g99.1 g99.2.1 rfl) ?_
   refine Lst.rG hb96 (Ev.load (i := 7) rfl rfl Try.isAgg36 (v := Sl.v r100h) ((FlushR.get_Told (p := (FlushR.mk a0 rs_a0_2)) (Get.vecN (s := 1) rfl r100g (Get.here _))).off (by omega))) ?_
   refine Lst.rG hb96 (Ev.move rfl) ?_
   obtain ⟨r101, h102, H⟩ := bind_some H
   refine Lst.call1G rfl rfl rfl hb96 rfl (by decide) (vs := [Sl.v r100h, iv (i76 : Int)]) ⟨rfl, rfl, trivial⟩ Try.call50 (slices_Contains_int_int_sim h102 w0 _ M _ (sc8 hM) (r100q.mono (FLe.trans (FLe.trans (FLe.trans hF36 hF75) hF82) hF93) (.refl _))) ?_
   refine Lst.rG hb96 (Ev.not rfl) ?_
   refine Lst.r (Ev.pickT rfl hb96 rfl) ?_
   refine Lst.nil ?_
   exact At.meet (!r101) (FLe.refl _) ⟨rfl, rfl, rfl, rfl, rfl, rfl, rfl, rfl, rfl, rfl, rfl, rfl, rfl, trivial⟩ rfl (some_inj H)
  rintro F105 y95 hF106 hy
  subst hy
  refine Lst.as (e' := [(2, pv b1 0), (4, pv b5 0), (5, pv b9 0), (8, pv b24 0), (10, .int .u8 (a0.View_.Members &&& ~~~a0.Gone).toNat), (11, pv b31 0), (16, pv b67 0), (17, iv (i69 : Int)), (18, iv (i76 : Int)), (73, iv (i69 : Int)), (76, .agg (enc y34).toArray), (77, iv (i76 : Int)), (97, .bool y95)]) (L' := (.rows (α := Int) 3 rs77.toList) :: (.blk b67 (enc rs77) 69) :: (.blk b31 (enc y34) 173) :: (.blk b24 (enc r20.1) 68) :: (.blk b9 (enc (Vector.replicate 6 ⟨[], Sl.nil⟩ : Vector (LR Int) 6)) 69) :: (.rows (α := Int) 3 ((Vector.replicate 6 ⟨[], Sl.nil⟩ : Vector (LR Int) 6).toList)) :: (.blk b5 (enc (FlushR.mk Flush.zero (Vector.replicate 6 ⟨[], Sl.nil⟩ : Vector (LR Int) 6))) 71) :: (.blk b1 (enc (FlushR.mk a0 rs_a0_2)) 71) :: L) ⟨rfl, rfl, rfl, rfl, rfl, rfl, rfl, rfl, rfl, rfl, rfl, rfl, rfl, trivial⟩ rfl ?_
  replace H := HKo94
  refine Lst.nil ?_
  refine At.then ?_
  rcases (Bool.eq_false_or_eq_true y95).symm with hb107 | hb107
  ·replace H := ite_f hb107 H
   refine Cd.condF rfl hb107 ?_
   refine Cd.skip ?_
   refine At.in_normal ?_
   refine At.then ?_
   refine Cd.region ?_
   refine Lst.r (Ev.incr (by omega) rfl rfl) ?_
   refine Lst.r (Ev.move rfl) ?_
   refine Lst.nil ?_
   exact At.meet (i76 + 1, k76, rs77, l78) (FLe.trans (FLe.trans hF82 hF93) hF106) ⟨rfl, rfl, rfl, rfl, rfl, rfl, rfl, rfl, rfl, rfl, rfl, trivial⟩ rfl ⟨⟨hgo76 _ (some_inj H).symm, by omega, fm79⟩, Nat.lt_succ_self _⟩
  replace H := ite_t hb107 H
  refine Cd.condT rfl hb107 ?_
  refine Cd.region ?_
  refine Lst.r (Ev.move rfl) ?_
  refine Lst.r (Ev.move rfl) ?_
  obtain ⟨x108, h109, H⟩ := bind_some H
  have g110 := vat_some h109
  obtain ⟨⟨r111v, r111h⟩, r111g, r111e, r111m, r111l⟩ := vmap_get fm79 g110.2.2
  obtain rfl : x108 = r111v := r111e.symm
  refine Lst.r (Ev.indexAddr (off' := 0 + (i69 : Int).toNat * 1) rfl rfl Try.runUnderlying69 Try.sizeOf36 g110.1 g110.2.1 rfl) ?_
  refine Lst.r (Ev.load (i := 1) rfl rfl Try.isAgg36 (v := Sl.v r111h) ((Get.vecN (s := 1) rfl r111g (Get.here _)).off (by omega))) ?_
  refine Lst.r (Ev.move rfl) ?_
  refine Lst.buildSlice (α := Int) (xs := ([(i76 : Int)] : List Int)) (pv := [(0, iv (i76 : Int))]) rfl rfl (by decide) ⟨rfl, rfl, trivial⟩ (run_buildSlice (α := Int) (z0 := (0 : Int)) (xs := ([(i76 : Int)] : List Int)) Try.runUnderlying36 Try.sizeOf3 Try.zeroValue3 rfl rfl rfl (by decide) rfl (fill_cons (cs := encs (List.replicate 1 (0 : Int))) (cs' := encs ((List.replicate 1 (0 : Int)).set 0 (i76 : Int))) (vs := [iv (i76 : Int)]) rfl rfl rfl ((Put.elemN (s := 1) (i := 0) (x := (0 : Int)) (y := (i76 : Int)) rfl rfl (Put.here (vs := [iv (i76 : Int)]) rfl)).off rfl) fill_nil)) rfl rfl (by decide) (fun s112 _ => ?_)
  refine Lst.front (i := 1) rfl (L' := (.rows (α := Int) 3 rs77.toList) :: (.own s112 3 1 (encs ([(i76 : Int)] : List Int))) :: (.blk b67 (enc rs77) 69) :: (.blk b31 (enc y34) 173) :: (.blk b24 (enc r20.1) 68) :: (.blk b9 (enc (Vector.replicate 6 ⟨[], Sl.nil⟩ : Vector (LR Int) 6)) 69) :: (.rows (α := Int) 3 ((Vector.replicate 6 ⟨[], Sl.nil⟩ : Vector (LR Int) 6).toList)) :: (.blk b5 (enc (FlushR.mk Flush.zero (Vector.replicate 6 ⟨[], Sl.nil⟩ : Vector (LR Int) 6))) 71) :: (.blk b1 (enc (FlushR.mk a0 rs_a0_2)) 71) :: L) rfl ?_
  refine Lst.rowOut (k := (i69 : Int).toNat) r111l rfl ?_
  refine Lst.its (L' := (.own r111h 3 1 (encs x108)) :: (.rows (α := Int) 3 (rs77.toList.set (i69 : Int).toNat ⟨[], Sl.nil⟩)) :: (.own s112 3 1 (encs ([(i76 : Int)] : List Int))) :: (.blk b67 (enc rs77) 69) :: (.blk b31 (enc y34) 173) :: (.blk b24 (enc r20.1) 68) :: (.blk b9 (enc (Vector.replicate 6 ⟨[], Sl.nil⟩ : Vector (LR Int) 6)) 69) :: (.rows (α := Int) 3 ((Vector.replicate 6 ⟨[], Sl.nil⟩ : Vector (LR Int) 6).toList)) :: (.blk b5 (enc (FlushR.mk Flush.zero (Vector.replicate 6 ⟨[], Sl.nil⟩ : Vector (LR Int) 6))) 71) :: (.blk b1 (enc (FlushR.mk a0 rs_a0_2)) 71) :: L) rfl ?_
  obtain ⟨u115, h116, H⟩ := bind_some H
  refine Lst.append (i := 0) (α := Int) (xs := x108) (ys := ([(i76 : Int)] : List Int)) rfl rfl (by decide) rfl rfl Try.runUnderlying36 Try.typeInfo3 rfl rfl rfl rfl rfl rfl (Rd.own (i := 2) rfl rfl rfl) rfl (room_some h116) rfl (fun s117 => ?_)
  refine Lst.its (L' := (.own s117 3 1 (encs (x108 ++ ([(i76 : Int)] : List Int)))) :: (.rows (α := Int) 3 (rs77.toList.set (i69 : Int).toNat ⟨[], Sl.nil⟩)) :: (.own s112 3 1 (encs ([(i76 : Int)] : List Int))) :: (.blk b67 (enc rs77) 69) :: (.blk b31 (enc y34) 173) :: (.blk b24 (enc r20.1) 68) :: (.blk b9 (enc (Vector.replicate 6 ⟨[], Sl.nil⟩ : Vector (LR Int) 6)) 69) :: (.rows (α := Int) 3 ((Vector.replicate 6 ⟨[], Sl.nil⟩ : Vector (LR Int) 6).toList)) :: (.blk b5 (enc (FlushR.mk Flush.zero (Vector.replicate 6 ⟨[], Sl.nil⟩ : Vector (LR Int) 6))) 71) :: (.blk b1 (enc (FlushR.mk a0 rs_a0_2)) 71) :: L) rfl ?_
  obtain ⟨x118, h119, H⟩ := bind_some H
  have g120 := vat_some h119
  obtain ⟨⟨r121v, r121h⟩, r121g, r121e, r121m, r121l⟩ := vmap_get fm79 g120.2.2
  obtain rfl : x118 = r121v := r121e.symm
  refine Lst.r (Ev.indexAddr (off' := 0 + (i69 : Int).toNat * 1) rfl rfl Try.runUnderlying69 Try.sizeOf36 g120.1 g120.2.1 rfl) ?_
  obtain ⟨p122, h123, H⟩ := Let_some H
  have hm124 : (rs77.setIfInBounds (i69 : Int).toNat (LR.mk (x108 ++ ([(i76 : Int)] : List Int)) s117)).toList.map LR.v = p122.toList := (vmap_set fm79 _ _).trans (congrArg Vector.toList h123)
  refine Lst.store (i := 3) rfl rfl rfl rfl rfl Try.sizeOf36 (vs := [Sl.v s117]) rfl rfl rfl (cs' := enc (rs77.setIfInBounds (i69 : Int).toNat (LR.mk (x108 ++ ([(i76 : Int)] : List Int)) s117))) ((Put.vecN (s := 1) (y := (LR.mk (x108 ++ ([(i76 : Int)] : List Int)) s117)) rfl r121g (Put.here (vs := [Sl.v s117]) rfl)).off (by omega)) (L' := (.own s117 3 1 (encs (x108 ++ ([(i76 : Int)] : List Int)))) :: (.rows (α := Int) 3 (rs77.toList.set (i69 : Int).toNat ⟨[], Sl.nil⟩)) :: (.own s112 3 1 (encs ([(i76 : Int)] : List Int))) :: (.blk b67 (enc (rs77.setIfInBounds (i69 : Int).toNat (LR.mk (x108 ++ ([(i76 : Int)] : List Int)) s117))) 69) :: (.blk b31 (enc y34) 173) :: (.blk b24 (enc r20.1) 68) :: (.blk b9 (enc (Vector.replicate 6 ⟨[], Sl.nil⟩ : Vector (LR Int) 6)) 69) :: (.rows (α := Int) 3 ((Vector.replicate 6 ⟨[], Sl.nil⟩ : Vector (LR Int) 6).toList)) :: (.blk b5 (enc (FlushR.mk Flush.zero (Vector.replicate 6 ⟨[], Sl.nil⟩ : Vector (LR Int) 6))) 71) :: (.blk b1 (enc (FlushR.mk a0 rs_a0_2)) 71) :: L) rfl ?_
  refine Lst.rowIn (k := (i69 : Int).toNat) (by rw [List.getElem?_set_self (List.getElem?_eq_some_iff.1 r121l).1]) rfl ?_
  refine Lst.its (L' := (.rows (α := Int) 3 ((rs77.setIfInBounds (i69 : Int).toNat (LR.mk (x108 ++ ([(i76 : Int)] : List Int)) s117)).toList)) :: (.own s112 3 1 (encs ([(i76 : Int)] : List Int))) :: (.blk b67 (enc (rs77.setIfInBounds (i69 : Int).toNat (LR.mk (x108 ++ ([(i76 : Int)] : List Int)) s117))) 69) :: (.blk b31 (enc y34) 173) :: (.blk b24 (enc r20.1) 68) :: (.blk b9 (enc (Vector.replicate 6 ⟨[], Sl.nil⟩ : Vector (LR Int) 6)) 69) :: (.rows (α := Int) 3 ((Vector.replicate 6 ⟨[], Sl.nil⟩ : Vector (LR Int) 6).toList)) :: (.blk b5 (enc (FlushR.mk Flush.zero (Vector.replicate 6 ⟨[], Sl.nil⟩ : Vector (LR Int) 6))) 71) :: (.blk b1 (enc (FlushR.mk a0 rs_a0_2)) 71) :: L) (by rw [List.set_set, Vector.toList_setIfInBounds]) ?_
  refine Lst.nil ?_
  refine At.in_normal ?_
  refine At.then ?_
  refine Cd.region ?_
  refine Lst.r (Ev.incr (by omega) rfl rfl) ?_
  refine Lst.r (Ev.move rfl) ?_
  refine Lst.nil ?_
  refine At.less (L' := (.rows (α := Int) 3 ((rs77.setIfInBounds (i69 : Int).toNat (LR.mk (x108 ++ ([(i76 : Int)] : List Int)) s117)).toList)) :: (.blk b67 (enc (rs77.setIfInBounds (i69 : Int).toNat (LR.mk (x108 ++ ([(i76 : Int)] : List Int)) s117))) 69) :: (.blk b31 (enc y34) 173) :: (.blk b24 (enc r20.1) 68) :: (.blk b9 (enc (Vector.replicate 6 ⟨[], Sl.nil⟩ : Vector (LR Int) 6)) 69) :: (.rows (α := Int) 3 ((Vector.replicate 6 ⟨[], Sl.nil⟩ : Vector (LR Int) 6).toList)) :: (.blk b5 (enc (FlushR.mk Flush.zero (Vector.replicate 6 ⟨[], Sl.nil⟩ : Vector (LR Int) 6))) 71) :: (.blk b1 (enc (FlushR.mk a0 rs_a0_2)) 71) :: L) (sk1 (sc1 (sk1 (sk1 (sk1 (sk1 (sk1 (sk1 (sk1 (.refl _)))))))))) ?_
  exact At.meet (i76 + 1, k76, (rs77.setIfInBounds (i69 : Int).toNat (LR.mk (x108 ++ ([(i76 : Int)] : List Int)) s117)), p122) (FLe.trans (FLe.trans hF82 hF93) hF106) ⟨rfl, rfl, rfl, rfl, rfl, rfl, rfl, rfl, rfl, rfl, rfl, trivial⟩ rfl ⟨⟨hgo76 _ (some_inj H).symm, by omega, hm124⟩, Nat.lt_succ_self _⟩
 have hc33 : decide ((i33 : Int) < (6 : Int)) = true := decide_eq_true (by omega)
 obtain ⟨c33, H, hgo33⟩ := rangeF_go H
 unfold flush_Change_B0 at H
 try dsimp only at H
 refine Cd.seq ?_
 refine Cd.region ?_
 refine Lst.r (Ev.lss rfl rfl) ?_
 refine Lst.nil ?_
 refine At.then ?_
 refine Cd.seq ?_
 refine Cd.condT rfl hc33 ?_
 refine Cd.skip ?_
 refine At.then ?_
 refine Cd.seq ?_
 refine Cd.block ?_
 refine Cd.seq ?_
 refine Cd.region ?_
 refine Lst.r (Ev.move rfl) ?_
 obtain ⟨x37, h38, H⟩ := bind_some H
 have g39 := vat_some h38
 obtain ⟨⟨r40v, r40h⟩, r40g, r40e, r40m, r40l⟩ := vmap_get hm_a0_2 g39.2.2
 obtain rfl : x37 = r40v := r40e.symm
 have r40q : Rd w0 _ _ r40h x37 := ha_a0_2 _ r40m
 refine Lst.r (Ev.index1 rfl rfl Try.runUnderlying69 Try.isAgg36 Try.sizeOf36 g39.1 g39.2.1 rfl ((Get.vecN (s := 1) rfl r40g (Get.here _)).off (by omega))) ?_
 refine Lst.r (Ev.assign rfl) ?_
 refine Lst.r (Ev.assign rfl) ?_
 refine Lst.nil ?_
 refine At.then ?_
 refine Cd.seq ?_
 refine Cd.region ?_
 refine Lst.r (Ev.move rfl) ?_
 refine Lst.r (Ev.lenS (α := Int) (xs := x37) (by decide) rfl rfl Try.runUnderlying36 (r40q.mono hF36 (sc4 (sc2 hM)))) ?_
 refine Lst.r (Ev.move rfl) ?_
 refine Lst.nil ?_
 refine At.then ?_
 refine Cd.block ?_
 refine Cd.bound (Rd.le (α := Int) (xs := x37) (by decide) (r40q.mono hF36 (sc4 (sc2 hM)))) (fun hN64 => ?_)
 obtain ⟨ol41, H, HKl41⟩ := bind_some H
 refine Cd.loop (σ := Nat × Nat × (Vector Bool 30)) (fun (i41, k41, y42) => [(2, pv b1 0), (4, pv b5 0), (5, pv b9 0), (8, pv b24 0), (10, .int .u8 (a0.View_.Members &&& ~~~a0.Gone).toNat), (11, pv b31 0), (12, iv (i33 : Int)), (48, .agg (enc rs_a0_2).toArray), (49, iv (i33 : Int)), (53, Sl.v r40h), (54, iv (x37.length : Int)), (55, iv (i41 : Int))]) (fun (i41, k41, y42) => (.blk b31 (enc y42) 173) :: (.blk b24 (enc r20.1) 68) :: (.blk b9 (enc (Vector.replicate 6 ⟨[], Sl.nil⟩ : Vector (LR Int) 6)) 69) :: (.rows (α := Int) 3 ((Vector.replicate 6 ⟨[], Sl.nil⟩ : Vector (LR Int) 6).toList)) :: (.blk b5 (enc (FlushR.mk Flush.zero (Vector.replicate 6 ⟨[], Sl.nil⟩ : Vector (LR Int) 6))) 71) :: (.blk b1 (enc (FlushR.mk a0 rs_a0_2)) 71) :: L) (fun _ => (fun (i41, k41, y42) => rangeF (flush_Change_B2 a0 i33 x37) k41 i41 y42 = some ol41 ∧ i41 + k41 = x37.length)) (fun (i41, k41, y42) => k41) (0, x37.length, y34) ⟨rfl, rfl, rfl, rfl, rfl, rfl, rfl, rfl, rfl, rfl, rfl, rfl, trivial⟩ rfl ⟨H, by omega⟩ ?_
 rintro F43 ⟨i41, k41, y42⟩ hF44 ⟨H, hik41⟩
 refine Cd.as (e' := [(2, pv b1 0), (4, pv b5 0), (5, pv b9 0), (8, pv b24 0), (10, .int .u8 (a0.View_.Members &&& ~~~a0.Gone).toNat), (11, pv b31 0), (12, iv (i33 : Int)), (48, .agg (enc rs_a0_2).toArray), (49, iv (i33 : Int)), (53, Sl.v r40h), (54, iv (x37.length : Int)), (55, iv (i41 : Int))]) (L' := (.blk b31 (enc y42) 173) :: (.blk b24 (enc r20.1) 68) :: (.blk b9 (enc (Vector.replicate 6 ⟨[], Sl.nil⟩ : Vector (LR Int) 6)) 69) :: (.rows (α := Int) 3 ((Vector.replicate 6 ⟨[], Sl.nil⟩ : Vector (LR Int) 6).toList)) :: (.blk b5 (enc (FlushR.mk Flush.zero (Vector.replicate 6 ⟨[], Sl.nil⟩ : Vector (LR Int) 6))) 71) :: (.blk b1 (enc (FlushR.mk a0 rs_a0_2)) 71) :: L) ⟨rfl, rfl, rfl, rfl, rfl, rfl, rfl, rfl, rfl, rfl, rfl, rfl, trivial⟩ rfl ?_
 rcases k41 with _ | k41
 ·have hc41 : decide ((i41 : Int) < (x37.length : Int)) = false := decide_eq_false (by omega)
  replace H := rangeF_end H
  refine Cd.seq ?_
  refine Cd.region ?_
  refine Lst.r (Ev.lss rfl rfl) ?_
  refine Lst.nil ?_
  refine At.then ?_
  refine Cd.seq ?_
  refine Cd.condF rfl hc41 ?_
  refine Cd.exit ?_
  refine At.then_exit ?_
  refine At.then_exit ?_
  refine At.in_exit ?_
  subst H
  replace H := HKl41
  refine At.in_normal ?_
  refine At.then ?_
  refine Cd.region ?_
  refine Lst.r (Ev.incr (by omega) rfl rfl) ?_
  refine Lst.r (Ev.move rfl) ?_
  refine Lst.nil ?_
  exact At.meet (i33 + 1, k33, y42) (FLe.trans hF36 hF44) ⟨rfl, rfl, rfl, rfl, rfl, rfl, rfl, rfl, trivial⟩ rfl ⟨⟨hgo33 _ (some_inj H).symm, by omega⟩, Nat.lt_succ_self _⟩
 have hc41 : decide ((i41 : Int) < (x37.length : Int)) = true := decide_eq_true (by omega)
 obtain ⟨c41, H, hgo41⟩ := rangeF_go H
 unfold flush_Change_B2 at H
 try dsimp only at H
 refine Cd.seq ?_
 refine Cd.region ?_
 refine Lst.r (Ev.lss rfl rfl) ?_
 refine Lst.nil ?_
 refine At.then ?_
 refine Cd.seq ?_
 refine Cd.condT rfl hc41 ?_
 refine Cd.skip ?_
 refine At.then ?_
 refine Cd.seq ?_
 refine Cd.block ?_
 refine Cd.seq ?_
 refine Cd.region ?_
 obtain ⟨x45, h46, H⟩ := bind_some H
 have g47 := lat_some h46
 refine Lst.r (Ev.indexS (α := Int) (xs := x37) rfl rfl Try.runUnderlying36 Try.sizeOf3 rfl (by decide) (r40q.mono (FLe.trans hF36 hF44) (sc4 (sc2 hM))) g47.1 g47.2.1) ?_
 refine Lst.r (Ev.loadS (α := Int) rfl (r40q.mono (FLe.trans hF36 hF44) (sc4 (sc2 hM))) Try.isAgg3 (v := iv x45) ((Get.elemN (s := 1) (x := x45) rfl g47.2.2 (Get.here _)).off (by omega))) ?_
 refine Lst.r (Ev.assign rfl) ?_
 refine Lst.nil ?_
 refine At.then ?_
 refine Cd.region ?_
 refine Lst.r (Ev.move rfl) ?_
 refine Lst.r (Ev.move rfl) ?_
 obtain ⟨x48, h49, H⟩ := bind_some H
 have g50 := vat_some h49
 refine Lst.r (Ev.indexAddr (off' := 0 + x45.toNat * 1) rfl rfl Try.runUnderlying173 Try.sizeOf4 g50.1 g50.2.1 rfl) ?_
 refine Lst.r (Ev.load (i := 0) rfl rfl Try.isAgg4 (v := .bool x48) ((Get.vecN (s := 1) (x := x48) rfl g50.2.2 (Get.here _)).off (by omega))) ?_
 refine Lst.r (Ev.move rfl) ?_
 obtain ⟨o51, H, HKo51⟩ := bind_some H
 refine Lst.join (σ := Bool) 6 (fun y52 => [(2, pv b1 0), (4, pv b5 0), (5, pv b9 0), (8, pv b24 0), (10, .int .u8 (a0.View_.Members &&& ~~~a0.Gone).toNat), (11, pv b31 0), (12, iv (i33 : Int)), (48, .agg (enc rs_a0_2).toArray), (49, iv (i33 : Int)), (53, Sl.v r40h), (54, iv (x37.length : Int)), (55, iv (i41 : Int)), (59, iv x45), (69, .bool y52)]) (fun y52 => (.blk b31 (enc y42) 173) :: (.blk b24 (enc r20.1) 68) :: (.blk b9 (enc (Vector.replicate 6 ⟨[], Sl.nil⟩ : Vector (LR Int) 6)) 69) :: (.rows (α := Int) 3 ((Vector.replicate 6 ⟨[], Sl.nil⟩ : Vector (LR Int) 6).toList)) :: (.blk b5 (enc (FlushR.mk Flush.zero (Vector.replicate 6 ⟨[], Sl.nil⟩ : Vector (LR Int) 6))) 71) :: (.blk b1 (enc (FlushR.mk a0 rs_a0_2)) 71) :: L) (fun _ y52 => y52 = o51) ?_ ?_
 ·rcases Bool.eq_false_or_eq_true x48 with hb53 | hb53
  ·replace H := ite_t hb53 H
   refine Lst.skip rfl rfl rfl hb53 rfl (by decide) ?_
   refine Lst.skip rfl rfl rfl hb53 rfl (by decide) ?_
   refine Lst.skip rfl rfl rfl hb53 rfl (by decide) ?_
   refine Lst.skip rfl rfl rfl hb53 rfl (by decide) ?_
   refine Lst.skip rfl rfl rfl hb53 rfl (by decide) ?_
   refine Lst.r (Ev.pickT rfl hb53 rfl) ?_
   refine Lst.nil ?_
   exact At.meet true (FLe.refl _) ⟨rfl, rfl, rfl, rfl, rfl, rfl, rfl, rfl, rfl, rfl, rfl, rfl, rfl, rfl, trivial⟩ rfl (some_inj H)
  replace H := ite_f hb53 H
  refine Lst.rG hb53 (Ev.move rfl) ?_
  refine Lst.rG hb53 (Ev.move rfl) ?_
  obtain ⟨n54, h55, H⟩ := bind_some H
  refine Lst.rG hb53 (Ev.shrU8 (i := a0.View_.Members &&& ~~~a0.Gone) (m := n54) rfl (congrArg some (congrArg (Value.int .i64) (cnt_some h55)))) ?_
  refine Lst.rG hb53 (Ev.andU8 (i := (a0.View_.Members &&& ~~~a0.Gone) >>> n54) (j := (1 : BitVec 8)) rfl rfl) ?_
  refine Lst.rG hb53 (Ev.eql rfl rfl) ?_
  refine Lst.r (Ev.pickF rfl hb53 rfl) ?_
  refine Lst.nil ?_
  exact At.meet (((((a0.View_.Members &&& ~~~a0.Gone) >>> n54) &&& (1 : BitVec 8)).toNat : Int) == ((1 : BitVec 8).toNat : Int)) (FLe.refl _) ⟨rfl, rfl, rfl, rfl, rfl, rfl, rfl, rfl, rfl, rfl, rfl, rfl, rfl, rfl, trivial⟩ rfl (some_inj H)
 rintro F57 y52 hF58 hy
 subst hy
 refine Lst.as (e' := [(2, pv b1 0), (4, pv b5 0), (5, pv b9 0), (8, pv b24 0), (10, .int .u8 (a0.View_.Members &&& ~~~a0.Gone).toNat), (11, pv b31 0), (12, iv (i33 : Int)), (48, .agg (enc rs_a0_2).toArray), (49, iv (i33 : Int)), (53, Sl.v r40h), (54, iv (x37.length : Int)), (55, iv (i41 : Int)), (59, iv x45), (69, .bool y52)]) (L' := (.blk b31 (enc y42) 173) :: (.blk b24 (enc r20.1) 68) :: (.blk b9 (enc (Vector.replicate 6 ⟨[], Sl.nil⟩ : Vector (LR Int) 6)) 69) :: (.rows (α := Int) 3 ((Vector.replicate 6 ⟨[], Sl.nil⟩ : Vector (LR Int) 6).toList)) :: (.blk b5 (enc (FlushR.mk Flush.zero (Vector.replicate 6 ⟨[], Sl.nil⟩ : Vector (LR Int) 6))) 71) :: (.blk b1 (enc (FlushR.mk a0 rs_a0_2)) 71) :: L) ⟨rfl, rfl, rfl, rfl, rfl, rfl, rfl, rfl, rfl, rfl, rfl, rfl, rfl, rfl, trivial⟩ rfl ?_
 replace H := HKo51
 obtain ⟨x59, h60, H⟩ := bind_some H
 have g61 := vat_some h60
 refine Lst.r (Ev.indexAddr (off' := 0 + x45.toNat * 1) rfl rfl Try.runUnderlying173 Try.sizeOf4 g61.1 g61.2.1 rfl) ?_
 obtain ⟨p62, h63, H⟩ := Let_some H
 refine Lst.store (i := 0) rfl rfl rfl rfl rfl Try.sizeOf4 (vs := [.bool y52]) rfl rfl rfl (cs' := enc p62) (by rw [← h63]; exact (Put.vecN (s := 1) (x := x59) rfl g61.2.2 (Put.here (vs := [.bool y52]) rfl)).off (by omega)) (L' := (.blk b31 (enc p62) 173) :: (.blk b24 (enc r20.1) 68) :: (.blk b9 (enc (Vector.replicate 6 ⟨[], Sl.nil⟩ : Vector (LR Int) 6)) 69) :: (.rows (α := Int) 3 ((Vector.replicate 6 ⟨[], Sl.nil⟩ : Vector (LR Int) 6).toList)) :: (.blk b5 (enc (FlushR.mk Flush.zero (Vector.replicate 6 ⟨[], Sl.nil⟩ : Vector (LR Int) 6))) 71) :: (.blk b1 (enc (FlushR.mk a0 rs_a0_2)) 71) :: L) rfl ?_
 refine Lst.nil ?_
 refine At.in_normal ?_
 refine At.then ?_
 refine Cd.region ?_
 refine Lst.r (Ev.incr (by omega) rfl rfl) ?_
 refine Lst.r (Ev.move rfl) ?_
 refine Lst.nil ?_
 exact At.meet (i41 + 1, k41, p62) (FLe.trans hF44 hF58) ⟨rfl, rfl, rfl, rfl, rfl, rfl, rfl, rfl, rfl, rfl, rfl, rfl, trivial⟩ rfl ⟨⟨hgo41 _ (some_inj H).symm, by omega⟩, Nat.lt_succ_self _⟩
set_option maxRecDepth 20000 in
theorem slices_Equal_int_int_sim {a0 : List Int} {a1 : List Int} {s_a0 : Sl} {s_a1 : Sl} {r : Bool} (H : slices_Equal_int_int a0 a1 = some r) (w0 : World) (F : Frz) (M L : List Item) (hM : M.Sublist L) (hs_a0 : Rd w0 F M s_a0 a0) (hs_a1 : Rd w0 F M s_a1 a1) : Ok Try.prog w0 128 [Sl.v s_a0, Sl.v s_a1] F (L) (Is (.bool r) (L)) := by
 unfold slices_Equal_int_int at H
 refine Ok.enter (m := 2) (n := 26) Try.func128 rfl rfl rfl (by decide) ?_
 refine Cd.env (e' := [(0, Sl.v s_a0), (1, Sl.v s_a1)]) rfl ?_
 refine Cd.seq ?_
 refine Cd.region ?_
 refine Lst.r (Ev.assign rfl) ?_
 refine Lst.nil ?_
 refine At.then ?_
 refine Cd.seq ?_
 refine Cd.seq ?_
 refine Cd.region ?_
 refine Lst.r (Ev.move rfl) ?_
 refine Lst.r (Ev.lenS (α := Int) (xs := a0) (by decide) rfl rfl Try.runUnderlying36 (hs_a0.mono (FLe.refl _) hM)) ?_
 refine Lst.r (Ev.move rfl) ?_
 refine Lst.r (Ev.lenS (α := Int) (xs := a1) (by decide) rfl rfl Try.runUnderlying36 (hs_a1.mono (FLe.refl _) hM)) ?_
 refine Lst.r (Ev.neq rfl rfl) ?_
 refine Lst.nil ?_
 refine At.then ?_
 rcases Bool.eq_false_or_eq_true ((a0.length : Int) != (a1.length : Int)) with hb1 | hb1
 ·replace H := ite_t hb1 H
  refine Cd.condT rfl hb1 ?_
  refine Cd.seq ?_
  refine Cd.region ?_
  refine Lst.r (Ev.assign rfl) ?_
  refine Lst.nil ?_
  refine At.then ?_
  obtain rfl := some_inj H
  refine Cd.ret ?_
  refine At.then_ret ?_
  exact At.ret1 rfl (Res.tmp rfl) (FLe.refl _) (.refl _) ⟨rfl, rfl⟩
 replace H := ite_f hb1 H
 refine Cd.condF rfl hb1 ?_
 refine Cd.skip ?_
 refine At.then ?_
 refine Cd.seq ?_
 refine Cd.seq ?_
 refine Cd.region ?_
 refine Lst.r (Ev.move rfl) ?_
 refine Lst.r (Ev.lenS (α := Int) (xs := a0) (by decide) rfl rfl Try.runUnderlying36 (hs_a0.mono (FLe.refl _) hM)) ?_
 refine Lst.r (Ev.move rfl) ?_
 refine Lst.nil ?_
 refine At.then ?_
 refine Cd.block ?_
 refine Cd.bound (Rd.le (α := Int) (xs := a0) (by decide) (hs_a0.mono (FLe.refl _) hM)) (fun hN12 => ?_)
 obtain ⟨ol2, H, HKl2⟩ := andThen_some H
 refine Cd.loop (σ := Nat × Nat × Unit) (fun (i2, k2, _u) => [(0, Sl.v s_a0), (1, Sl.v s_a1), (12, iv (a0.length : Int)), (13, iv (i2 : Int))]) (fun (i2, k2, _u) => L) (fun _ => (fun (i2, k2, _u) => rangeM (slices_Equal_int_int_B0 a0 a1) k2 i2 () = some ol2 ∧ i2 + k2 = a0.length)) (fun (i2, k2, _u) => k2) (0, a0.length, ()) ⟨rfl, rfl, rfl, rfl, trivial⟩ rfl ⟨H, by omega⟩ ?_
 rintro F3 ⟨i2, k2, _u⟩ hF4 ⟨H, hik2⟩
 refine Cd.as (e' := [(0, Sl.v s_a0), (1, Sl.v s_a1), (12, iv (a0.length : Int)), (13, iv (i2 : Int))]) (L' := L) ⟨rfl, rfl, rfl, rfl, trivial⟩ rfl ?_
 rcases k2 with _ | k2
 ·have hc2 : decide ((i2 : Int) < (a0.length : Int)) = false := decide_eq_false (by omega)
  replace H := rangeM_end H
  refine Cd.seq ?_
  refine Cd.region ?_
  refine Lst.r (Ev.lss rfl rfl) ?_
  refine Lst.nil ?_
  refine At.then ?_
  refine Cd.seq ?_
  refine Cd.condF rfl hc2 ?_
  refine Cd.exit ?_
  refine At.then_exit ?_
  refine At.then_exit ?_
  refine At.in_exit ?_
  subst H
  replace H := HKl2
  refine At.then ?_
  refine Cd.seq ?_
  refine Cd.region ?_
  refine Lst.r (Ev.assign rfl) ?_
  refine Lst.nil ?_
  refine At.then ?_
  obtain rfl := some_inj H
  refine Cd.ret ?_
  exact At.ret1 rfl (Res.tmp rfl) hF4 (.refl _) ⟨rfl, rfl⟩
 have hc2 : decide ((i2 : Int) < (a0.length : Int)) = true := decide_eq_true (by omega)
 obtain ⟨c2, H, hgo2, hbrk2, hret2⟩ := rangeM_go H
 unfold slices_Equal_int_int_B0 at H
 try dsimp only at H
 refine Cd.seq ?_
 refine Cd.region ?_
 refine Lst.r (Ev.lss rfl rfl) ?_
 refine Lst.nil ?_
 refine At.then ?_
 refine Cd.seq ?_
 refine Cd.condT rfl hc2 ?_
 refine Cd.skip ?_
 refine At.then ?_
 refine Cd.seq ?_
 refine Cd.block ?_
 refine Cd.seq ?_
 refine Cd.region ?_
 refine Lst.r (Ev.move rfl) ?_
 refine Lst.r (Ev.assign rfl) ?_
 refine Lst.nil ?_
 refine At.then ?_
 refine Cd.seq ?_
 refine Cd.quiet (by kernel_rfl) (by kernel_rfl) ?_
 refine Qt.r (Ev.move rfl) ?_
 refine Qt.r (Ev.move rfl) ?_
 obtain ⟨x5, h6, H⟩ := bind_some H
 have g7 := lat_some h6
 refine Qt.r (Ev.indexS (α := Int) (xs := a0) rfl rfl Try.runUnderlying36 Try.sizeOf3 rfl (by decide) (hs_a0.mono hF4 hM) g7.1 g7.2.1) ?_
 refine Qt.r (Ev.loadS (α := Int) rfl (hs_a0.mono hF4 hM) Try.isAgg3 (v := iv x5) ((Get.elemN (s := 1) (x := x5) rfl g7.2.2 (Get.here _)).off (by omega))) ?_
 refine Qt.r (Ev.move rfl) ?_
 refine Qt.r (Ev.move rfl) ?_
 obtain ⟨x8, h9, H⟩ := bind_some H
 have g10 := lat_some h9
 refine Qt.r (Ev.indexS (α := Int) (xs := a1) rfl rfl Try.runUnderlying36 Try.sizeOf3 rfl (by decide) (hs_a1.mono hF4 hM) g10.1 g10.2.1) ?_
 refine Qt.r (Ev.loadS (α := Int) rfl (hs_a1.mono hF4 hM) Try.isAgg3 (v := iv x8) ((Get.elemN (s := 1) (x := x8) rfl g10.2.2 (Get.here _)).off (by omega))) ?_
 refine Qt.r (Ev.neq rfl rfl) ?_
 refine Qt.done ?_
 refine At.then ?_
 rcases Bool.eq_false_or_eq_true (x5 != x8) with hb11 | hb11
 ·replace H := ite_t hb11 H
  refine Cd.condT rfl hb11 ?_
  refine Cd.seq ?_
  refine Cd.as (e' := []) (L' := L) trivial rfl ?_
  refine Cd.region ?_
  refine Lst.r (Ev.assign rfl) ?_
  refine Lst.nil ?_
  refine At.then ?_
  have H := hret2 _ (some_inj H).symm
  subst H
  replace H := HKl2
  obtain rfl := some_inj H
  refine Cd.ret ?_
  refine At.in_ret ?_
  refine At.then_ret ?_
  refine At.then_ret ?_
  refine At.in_ret ?_
  refine At.then_ret ?_
  exact At.ret1 rfl (Res.tmp rfl) hF4 (.refl _) ⟨rfl, rfl⟩
 replace H := ite_f hb11 H
 refine Cd.condF rfl hb11 ?_
 refine Cd.skip ?_
 refine At.in_normal ?_
 refine At.then ?_
 refine Cd.region ?_
 refine Lst.r (Ev.incr (by omega) rfl rfl) ?_
 refine Lst.r (Ev.move rfl) ?_
 refine Lst.nil ?_
 exact At.meet (i2 + 1, k2, ()) hF4 ⟨rfl, rfl, rfl, rfl, trivial⟩ rfl ⟨⟨hgo2 _ (some_inj H).symm, by omega⟩, Nat.lt_succ_self _⟩
set_option maxRecDepth 20000 in
theorem partref_SameFlush_sim {a0 : Flush} {a1 : Flush} {rs_a0_2 : Vector (LR Int) 6} {rs_a1_2 : Vector (LR Int) 6} {r : Bool} (H : partref_SameFlush a0 a1 = some r) (w0 : World) (F : Frz) (M L : List Item) (hM : M.Sublist L) (hm_a0_2 : rs_a0_2.toList.map LR.v = a0.Told.toList) (ha_a0_2 : All LR.rel w0 F M rs_a0_2.toList) (hm_a1_2 : rs_a1_2.toList.map LR.v = a1.Told.toList) (ha_a1_2 : All LR.rel w0 F M rs_a1_2.toList) : Ok Try.prog w0 45 [.agg (enc (FlushR.mk a0 rs_a0_2)).toArray, .agg (enc (FlushR.mk a1 rs_a1_2)).toArray] F (L) (Is (.bool r) (L)) := by
 unfold partref_SameFlush at H
 refine Ok.enter (m := 2) (n := 32) Try.func45 rfl rfl rfl (by decide) ?_
 refine Cd.env (e' := [(0, .agg (enc (FlushR.mk a0 rs_a0_2)).toArray), (1, .agg (enc (FlushR.mk a1 rs_a1_2)).toArray)]) rfl ?_
 refine Cd.seq ?_
 refine Cd.region ?_
 refine Lst.box rfl rfl (by decide) rfl (cs := enc (FlushR.mk a0 rs_a0_2)) rfl (fun b1 => ?_)
 refine Lst.box rfl rfl (by decide) rfl (cs := enc (FlushR.mk a1 rs_a1_2)) rfl (fun b3 => ?_)
 refine Lst.r (Ev.assign rfl) ?_
 refine Lst.nil ?_
 refine At.then ?_
 refine Cd.seq ?_
 refine Cd.seq ?_
 refine Cd.region ?_
 refine Lst.r (Ev.move rfl) ?_
 refine Lst.nil ?_
 refine At.then ?_
 refine Cd.block ?_
 obtain ⟨ol5, H, HKl5⟩ := andThen_some H
 refine Cd.loop (σ := Nat × Nat × Unit) (fun (i5, k5, _u) => [(2, pv b1 0), (3, pv b3 0), (6, iv (i5 : Int))]) (fun (i5, k5, _u) => (.blk b3 (enc (FlushR.mk a1 rs_a1_2)) 71) :: (.blk b1 (enc (FlushR.mk a0 rs_a0_2)) 71) :: L) (fun _ => (fun (i5, k5, _u) => rangeM (partref_SameFlush_B0 a0 a1) k5 i5 () = some ol5 ∧ i5 + k5 = 6)) (fun (i5, k5, _u) => k5) (0, 6, ()) ⟨rfl, rfl, rfl, trivial⟩ rfl ⟨H, by omega⟩ ?_
 rintro F6 ⟨i5, k5, _u⟩ hF7 ⟨H, hik5⟩
 refine Cd.as (e' := [(2, pv b1 0), (3, pv b3 0), (6, iv (i5 : Int))]) (L' := (.blk b3 (enc (FlushR.mk a1 rs_a1_2)) 71) :: (.blk b1 (enc (FlushR.mk a0 rs_a0_2)) 71) :: L) ⟨rfl, rfl, rfl, trivial⟩ rfl ?_
 rcases k5 with _ | k5
 ·have hc5 : decide ((i5 : Int) < (6 : Int)) = false := decide_eq_false (by omega)
  replace H := rangeM_end H
  refine Cd.seq ?_
  refine Cd.region ?_
  refine Lst.r (Ev.lss rfl rfl) ?_
  refine Lst.nil ?_
  refine At.then ?_
  refine Cd.seq ?_
  refine Cd.condF rfl hc5 ?_
  refine Cd.exit ?_
  refine At.then_exit ?_
  refine At.then_exit ?_
  refine At.in_exit ?_
  subst H
  replace H := HKl5
  refine At.then ?_
  refine Cd.seq ?_
  refine Cd.region ?_
  refine Lst.r (Ev.fieldAddr (off' := 0) rfl Try.runUnderlying71 rfl Try.sizeOf68 rfl rfl) ?_
  refine Lst.r (Ev.loadA (i := 1) rfl rfl Try.isAgg68 Try.sizeOf68 (ch := enc a0.View_) (Enc.len _) ((FlushR.get_View_ (Get.here _)).off (by rfl))) ?_
  refine Lst.r (Ev.fieldAddr (off' := 0) rfl Try.runUnderlying71 rfl Try.sizeOf68 rfl rfl) ?_
  refine Lst.r (Ev.loadA (i := 0) rfl rfl Try.isAgg68 Try.sizeOf68 (ch := enc a1.View_) (Enc.len _) ((FlushR.get_View_ (Get.here _)).off (by rfl))) ?_
  refine Lst.r (Ev.eqlA rfl rfl (by kernel_rfl) (eq68 _ _)) ?_
  refine Lst.r (Ev.move rfl) ?_
  obtain ⟨o21, H, HKo21⟩ := bind_some H
  refine Lst.join (σ := Bool) 6 (fun y22 => [(31, .bool y22)]) (fun y22 => (.blk b3 (enc (FlushR.mk a1 rs_a1_2)) 71) :: (.blk b1 (enc (FlushR.mk a0 rs_a0_2)) 71) :: L) (fun _ y22 => y22 = o21) ?_ ?_
  ·rcases (Bool.eq_false_or_eq_true (decide (a0.View_ = a1.View_))).symm with hb23 | hb23
   ·replace H := ite_f hb23 H
    refine Lst.skip rfl rfl rfl hb23 rfl (by decide) ?_
    refine Lst.skip rfl rfl rfl hb23 rfl (by decide) ?_
    refine Lst.skip rfl rfl rfl hb23 rfl (by decide) ?_
    refine Lst.skip rfl rfl rfl hb23 rfl (by decide) ?_
    refine Lst.skip rfl rfl rfl hb23 rfl (by decide) ?_
    refine Lst.r (Ev.pickF rfl hb23 rfl) ?_
    refine Lst.nil ?_
    exact At.meet false (FLe.refl _) ⟨rfl, trivial⟩ rfl (some_inj H)
   replace H := ite_t hb23 H
   refine Lst.rG hb23 (Ev.fieldAddr (off' := 2) rfl Try.runUnderlying71 rfl Try.sizeOf5 rfl rfl) ?_
   refine Lst.rG hb23 (Ev.load (i := 1) rfl rfl Try.isAgg5 (v := .int .u8 a0.Gone.toNat) ((FlushR.get_Gone (Get.here _)).off (by rfl))) ?_
   refine Lst.rG hb23 (Ev.fieldAddr (off' := 2) rfl Try.runUnderlying71 rfl Try.sizeOf5 rfl rfl) ?_
   refine Lst.rG hb23 (Ev.load (i := 0) rfl rfl Try.isAgg5 (v := .int .u8 a1.Gone.toNat) ((FlushR.get_Gone (Get.here _)).off (by rfl))) ?_
   refine Lst.rG hb23 (Ev.eql rfl rfl) ?_
   refine Lst.r (Ev.pickT rfl hb23 rfl) ?_
   refine Lst.nil ?_
   exact At.meet ((a0.Gone.toNat : Int) == (a1.Gone.toNat : Int)) (FLe.refl _) ⟨rfl, trivial⟩ rfl (some_inj H)
  rintro F24 y22 hF25 hy
  subst hy
  refine Lst.as (e' := [(31, .bool y22)]) (L' := (.blk b3 (enc (FlushR.mk a1 rs_a1_2)) 71) :: (.blk b1 (enc (FlushR.mk a0 rs_a0_2)) 71) :: L) ⟨rfl, trivial⟩ rfl ?_
  replace H := HKo21
  refine Lst.r (Ev.assign rfl) ?_
  refine Lst.nil ?_
  refine At.then ?_
  obtain rfl := some_inj H
  refine Cd.ret ?_
  exact At.ret1 rfl (Res.tmp rfl) (FLe.trans hF7 hF25) (sc1 (sc1 (.refl _))) ⟨rfl, rfl⟩
 have hc5 : decide ((i5 : Int) < (6 : Int)) = true := decide_eq_true (by omega)
 obtain ⟨c5, H, hgo5, hbrk5, hret5⟩ := rangeM_go H
 unfold partref_SameFlush_B0 at H
 try dsimp only at H
 refine Cd.seq ?_
 refine Cd.region ?_
 refine Lst.r (Ev.lss rfl rfl) ?_
 refine Lst.nil ?_
 refine At.then ?_
 refine Cd.seq ?_
 refine Cd.condT rfl hc5 ?_
 refine Cd.skip ?_
 refine At.then ?_
 refine Cd.seq ?_
 refine Cd.block ?_
 refine Cd.seq ?_
 refine Cd.region ?_
 refine Lst.r (Ev.move rfl) ?_
 refine Lst.r (Ev.assign rfl) ?_
 refine Lst.nil ?_
 refine At.then ?_
 refine Cd.seq ?_
 refine Cd.quiet (by kernel_rfl) (by kernel_rfl) ?_
 refine Qt.r (Ev.move rfl) ?_
 refine Qt.r (Ev.fieldAddr (off' := 3) rfl Try.runUnderlying71 rfl Try.sizeOf69 rfl rfl) ?_
 obtain ⟨x8, h9, H⟩ := bind_some H
 have g10 := vat_some h9
 obtain ⟨⟨r11v, r11h⟩, r11g, r11e, r11m, r11l⟩ := vmap_get hm_a0_2 g10.2.2
 obtain rfl : x8 = r11v := r11e.symm
 have r11q : Rd w0 _ _ r11h x8 := ha_a0_2 _ r11m
 refine Qt.r (Ev.indexAddr (off' := 3 + (i5 : Int).toNat * 1) rfl rfl Try.runUnderlying69 Try.sizeOf36 g10.1 g10.2.1 rfl) ?_
 refine Qt.r (Ev.load (i := 1) rfl rfl Try.isAgg36 (v := Sl.v r11h) ((FlushR.get_Told (p := (FlushR.mk a0 rs_a0_2)) (Get.vecN (s := 1) rfl r11g (Get.here _))).off (by omega))) ?_
 refine Qt.r (Ev.move rfl) ?_
 refine Qt.r (Ev.fieldAddr (off' := 3) rfl Try.runUnderlying71 rfl Try.sizeOf69 rfl rfl) ?_
 obtain ⟨x12, h13, H⟩ := bind_some H
 have g14 := vat_some h13
 obtain ⟨⟨r15v, r15h⟩, r15g, r15e, r15m, r15l⟩ := vmap_get hm_a1_2 g14.2.2
 obtain rfl : x12 = r15v := r15e.symm
 have r15q : Rd w0 _ _ r15h x12 := ha_a1_2 _ r15m
 refine Qt.r (Ev.indexAddr (off' := 3 + (i5 : Int).toNat * 1) rfl rfl Try.runUnderlying69 Try.sizeOf36 g14.1 g14.2.1 rfl) ?_
 refine Qt.r (Ev.load (i := 0) rfl rfl Try.isAgg36 (v := Sl.v r15h) ((FlushR.get_Told (p := (FlushR.mk a1 rs_a1_2)) (Get.vecN (s := 1) rfl r15g (Get.here _))).off (by omega))) ?_
 obtain ⟨r16, h17, H⟩ := bind_some H
 refine Qt.call rfl rfl (by decide) (vs := [Sl.v r11h, Sl.v r15h]) ⟨rfl, rfl, trivial⟩ Try.call128 (slices_Equal_int_int_sim h17 w0 _ M _ (sc2 hM) (r11q.mono hF7 (.refl _)) (r15q.mono hF7 (.refl _))) ?_
 refine Qt.r (Ev.not rfl) ?_
 refine Qt.done ?_
 refine At.then ?_
 rcases Bool.eq_false_or_eq_true (!r16) with hb20 | hb20
 ·replace H := ite_t hb20 H
  refine Cd.condT rfl hb20 ?_
  refine Cd.seq ?_
  refine Cd.as (e' := []) (L' := (.blk b3 (enc (FlushR.mk a1 rs_a1_2)) 71) :: (.blk b1 (enc (FlushR.mk a0 rs_a0_2)) 71) :: L) trivial rfl ?_
  refine Cd.region ?_
  refine Lst.r (Ev.assign rfl) ?_
  refine Lst.nil ?_
  refine At.then ?_
  have H := hret5 _ (some_inj H).symm
  subst H
  replace H := HKl5
  obtain rfl := some_inj H
  refine Cd.ret ?_
  refine At.in_ret ?_
  refine At.then_ret ?_
  refine At.then_ret ?_
  refine At.in_ret ?_
  refine At.then_ret ?_
  exact At.ret1 rfl (Res.tmp rfl) hF7 (sc1 (sc1 (.refl _))) ⟨rfl, rfl⟩
 replace H := ite_f hb20 H
 refine Cd.condF rfl hb20 ?_
 refine Cd.skip ?_
 refine At.in_normal ?_
 refine At.then ?_
 refine Cd.region ?_
 refine Lst.r (Ev.incr (by omega) rfl rfl) ?_
 refine Lst.r (Ev.move rfl) ?_
 refine Lst.nil ?_
 exact At.meet (i5 + 1, k5, ()) hF7 ⟨rfl, rfl, rfl, trivial⟩ rfl ⟨⟨hgo5 _ (some_inj H).symm, by omega⟩, Nat.lt_succ_self _⟩
set_option maxRecDepth 20000 in
theorem partlaw_sameLists_sim {a0 : Vector (List Int) 6} {a1 : Vector (List Int) 6} {rs_a0 : Vector (LR Int) 6} {rs_a1 : Vector (LR Int) 6} {r : Bool} (H : partlaw_sameLists a0 a1 = some r) (w0 : World) (F : Frz) (M L : List Item) (hM : M.Sublist L) (hm_a0 : rs_a0.toList.map LR.v = a0.toList) (ha_a0 : All LR.rel w0 F M rs_a0.toList) (hm_a1 : rs_a1.toList.map LR.v = a1.toList) (ha_a1 : All LR.rel w0 F M rs_a1.toList) : Ok Try.prog w0 47 [.agg (enc rs_a0).toArray, .agg (enc rs_a1).toArray] F (L) (Is (.bool r) (L)) := by
 unfold partlaw_sameLists at H
 refine Ok.enter (m := 2) (n := 18) Try.func47 rfl rfl rfl (by decide) ?_
 refine Cd.env (e' := [(0, .agg (enc rs_a0).toArray), (1, .agg (enc rs_a1).toArray)]) rfl ?_
 refine Cd.seq ?_
 refine Cd.region ?_
 refine Lst.box rfl rfl (by decide) rfl (cs := enc rs_a0) rfl (fun b1 => ?_)
 refine Lst.box rfl rfl (by decide) rfl (cs := enc rs_a1) rfl (fun b3 => ?_)
 refine Lst.r (Ev.assign rfl) ?_
 refine Lst.nil ?_
 refine At.then ?_
 refine Cd.seq ?_
 refine Cd.seq ?_
 refine Cd.region ?_
 refine Lst.r (Ev.move rfl) ?_
 refine Lst.nil ?_
 refine At.then ?_
 refine Cd.block ?_
 obtain ⟨ol5, H, HKl5⟩ := andThen_some H
 refine Cd.loop (σ := Nat × Nat × Unit) (fun (i5, k5, _u) => [(2, pv b1 0), (3, pv b3 0), (6, iv (i5 : Int))]) (fun (i5, k5, _u) => (.blk b3 (enc rs_a1) 69) :: (.blk b1 (enc rs_a0) 69) :: L) (fun _ => (fun (i5, k5, _u) => rangeM (partlaw_sameLists_B0 a0 a1) k5 i5 () = some ol5 ∧ i5 + k5 = 6)) (fun (i5, k5, _u) => k5) (0, 6, ()) ⟨rfl, rfl, rfl, trivial⟩ rfl ⟨H, by omega⟩ ?_
 rintro F6 ⟨i5, k5, _u⟩ hF7 ⟨H, hik5⟩
 refine Cd.as (e' := [(2, pv b1 0), (3, pv b3 0), (6, iv (i5 : Int))]) (L' := (.blk b3 (enc rs_a1) 69) :: (.blk b1 (enc rs_a0) 69) :: L) ⟨rfl, rfl, rfl, trivial⟩ rfl ?_
 rcases k5 with _ | k5
 ·have hc5 : decide ((i5 : Int) < (6 : Int)) = false := decide_eq_false (by omega)
  replace H := rangeM_end H
  refine Cd.seq ?_
  refine Cd.region ?_
  refine Lst.r (Ev.lss rfl rfl) ?_
  refine Lst.nil ?_
  refine At.then ?_
  refine Cd.seq ?_
  refine Cd.condF rfl hc5 ?_
  refine Cd.exit ?_
  refine At.then_exit ?_
  refine At.then_exit ?_
  refine At.in_exit ?_
  subst H
  replace H := HKl5
  refine At.then ?_
  refine Cd.seq ?_
  refine Cd.region ?_
  refine Lst.r (Ev.assign rfl) ?_
  refine Lst.nil ?_
  refine At.then ?_
  obtain rfl := some_inj H
  refine Cd.ret ?_
  exact At.ret1 rfl (Res.tmp rfl) hF7 (sc1 (sc1 (.refl _))) ⟨rfl, rfl⟩
 have hc5 : decide ((i5 : Int) < (6 : Int)) = true := decide_eq_true (by omega)
 obtain ⟨c5, H, hgo5, hbrk5, hret5⟩ := rangeM_go H
 unfold partlaw_sameLists_B0 at H
 try dsimp only at H
 refine Cd.seq ?_
 refine Cd.region ?_
 refine Lst.r (Ev.lss rfl rfl) ?_
 refine Lst.nil ?_
 refine At.then ?_
 refine Cd.seq ?_
 refine Cd.condT rfl hc5 ?_
 refine Cd.skip ?_
 refine At.then ?_
 refine Cd.seq ?_
 refine Cd.block ?_
 refine Cd.seq ?_
 refine Cd.region ?_
 refine Lst.r (Ev.move rfl) ?_
 refine Lst.r (Ev.assign rfl) ?_
 refine Lst.nil ?_
 refine At.then ?_
 refine Cd.seq ?_
 refine Cd.quiet (by kernel_rfl) (by kernel_rfl) ?_
 refine Qt.r (Ev.move rfl) ?_
 obtain ⟨x8, h9, H⟩ := bind_some H
 have g10 := vat_some h9
 obtain ⟨⟨r11v, r11h⟩, r11g, r11e, r11m, r11l⟩ := vmap_get hm_a0 g10.2.2
 obtain rfl : x8 = r11v := r11e.symm
 have r11q : Rd w0 _ _ r11h x8 := ha_a0 _ r11m
 refine Qt.r (Ev.indexAddr (off' := 0 + (i5 : Int).toNat * 1) rfl rfl Try.runUnderlying69 Try.sizeOf36 g10.1 g10.2.1 rfl) ?_
 refine Qt.r (Ev.load (i := 1) rfl rfl Try.isAgg36 (v := Sl.v r11h) ((Get.vecN (s := 1) rfl r11g (Get.here _)).off (by omega))) ?_
 refine Qt.r (Ev.move rfl) ?_
 obtain ⟨x12, h13, H⟩ := bind_some H
 have g14 := vat_some h13
 obtain ⟨⟨r15v, r15h⟩, r15g, r15e, r15m, r15l⟩ := vmap_get hm_a1 g14.2.2
 obtain rfl : x12 = r15v := r15e.symm
 have r15q : Rd w0 _ _ r15h x12 := ha_a1 _ r15m
 refine Qt.r (Ev.indexAddr (off' := 0 + (i5 : Int).toNat * 1) rfl rfl Try.runUnderlying69 Try.sizeOf36 g14.1 g14.2.1 rfl) ?_
 refine Qt.r (Ev.load (i := 0) rfl rfl Try.isAgg36 (v := Sl.v r15h) ((Get.vecN (s := 1) rfl r15g (Get.here _)).off (by omega))) ?_
 obtain ⟨r16, h17, H⟩ := bind_some H
 refine Qt.call rfl rfl (by decide) (vs := [Sl.v r11h, Sl.v r15h]) ⟨rfl, rfl, trivial⟩ Try.call128 (slices_Equal_int_int_sim h17 w0 _ M _ (sc2 hM) (r11q.mono hF7 (.refl _)) (r15q.mono hF7 (.refl _))) ?_
 refine Qt.r (Ev.not rfl) ?_
 refine Qt.done ?_
 refine At.then ?_
 rcases Bool.eq_false_or_eq_true (!r16) with hb20 | hb20
 ·replace H := ite_t hb20 H
  refine Cd.condT rfl hb20 ?_
  refine Cd.seq ?_
  refine Cd.region ?_
  refine Lst.r (Ev.assign rfl) ?_
  refine Lst.nil ?_
  refine At.then ?_
  have H := hret5 _ (some_inj H).symm
  subst H
  replace H := HKl5
  obtain rfl := some_inj H
  refine Cd.ret ?_
  refine At.in_ret ?_
  refine At.then_ret ?_
  refine At.then_ret ?_
  refine At.in_ret ?_
  refine At.then_ret ?_
  exact At.ret1 rfl (Res.tmp rfl) hF7 (sc1 (sc1 (.refl _))) ⟨rfl, rfl⟩
 replace H := ite_f hb20 H
 refine Cd.condF rfl hb20 ?_
 refine Cd.skip ?_
 refine At.in_normal ?_
 refine At.then ?_
 refine Cd.region ?_
 refine Lst.r (Ev.incr (by omega) rfl rfl) ?_
 refine Lst.r (Ev.move rfl) ?_
 refine Lst.nil ?_
 exact At.meet (i5 + 1, k5, ()) hF7 ⟨rfl, rfl, rfl, trivial⟩ rfl ⟨⟨hgo5 _ (some_inj H).symm, by omega⟩, Nat.lt_succ_self _⟩
set_option maxRecDepth 20000 in
theorem partref_size_sim {fu : Nat} {a0 : BitVec 16} {r : Int} (H : partref_size fu a0 = some r) (w0 : World) (F : Frz) (M L : List Item) (hM : M.Sublist L) : Ok Try.prog w0 135 [.int .u16 a0.toNat] F (L) (Is (iv r) (L)) := by
 unfold partref_size at H
 refine Ok.enter (m := 1) (n := 14) Try.func135 rfl rfl rfl (by decide) ?_
 refine Cd.env (e' := [(0, .int .u16 a0.toNat)]) rfl ?_
 refine Cd.seq ?_
 refine Cd.region ?_
 refine Lst.r (Ev.assign rfl) ?_
 refine Lst.nil ?_
 refine At.then ?_
 refine Cd.seq ?_
 refine Cd.region ?_
 refine Lst.r (Ev.assign rfl) ?_
 refine Lst.nil ?_
 refine At.then ?_
 refine Cd.seq ?_
 refine Cd.block ?_
 obtain ⟨ol1, H, HKl1⟩ := andThen_some H
 refine Cd.loop (σ := Nat × (BitVec 16) × Int) (fun (k1, y2, y3) => [(0, .int .u16 y2.toNat), (3, iv y3)]) (fun (k1, y2, y3) => L) (fun _ => (fun (k1, y2, y3) => whileM (partref_size_B0) k1 (y2, y3) = some ol1)) (fun (k1, y2, y3) => k1) (fu, a0, (0 : Int)) ⟨rfl, rfl, trivial⟩ rfl H ?_
 rintro F4 ⟨k1, y2, y3⟩ hF5 H
 refine Cd.as (e' := [(0, .int .u16 y2.toNat), (3, iv y3)]) (L' := L) ⟨rfl, rfl, trivial⟩ rfl ?_
 rcases k1 with _ | k1
 ·cases H
 obtain ⟨c1, H, hgo1, hbrk1, hret1⟩ := whileM_go H
 unfold partref_size_B0 at H
 try dsimp only at H
 refine Cd.seq ?_
 refine Cd.seq ?_
 refine Cd.region ?_
 refine Lst.r (Ev.move rfl) ?_
 refine Lst.r (Ev.gtr rfl rfl) ?_
 refine Lst.nil ?_
 refine At.then ?_
 rcases (Bool.eq_false_or_eq_true (decide ((y2.toNat : Int) > ((0 : BitVec 16).toNat : Int)))).symm with hb6 | hb6
 ·replace H := ite_f hb6 H
  refine Cd.condF rfl hb6 ?_
  refine Cd.exit ?_
  refine At.then_exit ?_
  refine At.then_exit ?_
  refine At.in_exit ?_
  have H := hbrk1 _ (some_inj H).symm
  subst H
  replace H := HKl1
  refine At.then ?_
  refine Cd.seq ?_
  refine Cd.region ?_
  refine Lst.r (Ev.move rfl) ?_
  refine Lst.r (Ev.assign rfl) ?_
  refine Lst.nil ?_
  refine At.then ?_
  obtain rfl := some_inj H
  refine Cd.ret ?_
  exact At.ret1 rfl (Res.tmp rfl) hF5 (.refl _) ⟨rfl, rfl⟩
 replace H := ite_t hb6 H
 refine Cd.condT rfl hb6 ?_
 refine Cd.skip ?_
 refine At.then ?_
 refine Cd.seq ?_
 refine Cd.block ?_
 refine Cd.region ?_
 refine Lst.r (Ev.move rfl) ?_
 refine Lst.r (Ev.move rfl) ?_
 refine Lst.r (Ev.remU16 (i := y2) (j := (2 : BitVec 16)) rfl rfl (by decide)) ?_
 refine Lst.r (Ev.convIS (j := ((y2 % (2 : BitVec 16)).toNat : Int)) rfl Try.runUnderlying175 Try.runUnderlying3 (w64_id (by omega) (by omega))) ?_
 refine Lst.r (Ev.add rfl rfl) ?_
 refine Lst.r (Ev.assign rfl) ?_
 refine Lst.nil ?_
 refine At.in_normal ?_
 refine At.then ?_
 refine Cd.region ?_
 refine Lst.r (Ev.move rfl) ?_
 refine Lst.r (Ev.quoU16 (i := y2) (j := (2 : BitVec 16)) rfl rfl (by decide)) ?_
 refine Lst.r (Ev.assign rfl) ?_
 refine Lst.nil ?_
 exact At.meet (k1, y2 / (2 : BitVec 16), w64 (y3 + ((y2 % (2 : BitVec 16)).toNat : Int))) hF5 ⟨rfl, rfl, trivial⟩ rfl ⟨hgo1 _ (some_inj H).symm, Nat.lt_succ_self _⟩
set_option maxRecDepth 20000 in
theorem partref_NextView_sim {fu : Nat} {a0 : View} {a1 : BitVec 8} {a2 : BitVec 8} {r : View × Int} (H : partref_NextView fu a0 a1 a2 = some r) (w0 : World) (F : Frz) (M L : List Item) (hM : M.Sublist L) : Ok Try.prog w0 48 [.agg (enc a0).toArray, .int .u8 a1.toNat, .int .u8 a2.toNat] F (L) (Is (.tuple #[.agg (enc r.1).toArray, iv r.2]) (L)) := by
 unfold partref_NextView at H
 refine Ok.enter (m := 3) (n := 57) Try.func48 rfl rfl rfl (by decide) ?_
 refine Cd.env (e' := [(0, .agg (enc a0).toArray), (1, .int .u8 a1.toNat), (2, .int .u8 a2.toNat)]) rfl ?_
 refine Cd.seq ?_
 refine Cd.region ?_
 refine Lst.box rfl rfl (by decide) rfl (cs := enc a0) rfl (fun b1 => ?_)
 refine Lst.alloc (cs := enc View.zero) rfl rfl (by decide) Try.zeroValue68 rfl (fun b3 => ?_)
 refine Lst.r (Ev.assign rfl) ?_
 refine Lst.nil ?_
 refine At.then ?_
 refine Cd.seq ?_
 refine Cd.seq ?_
 refine Cd.region ?_
 refine Lst.r (Ev.loadA (i := 1) rfl rfl Try.isAgg68 Try.sizeOf68 (ch := enc a0) (Enc.len _) (Get.here _)) ?_
 obtain ⟨r5, h6, H⟩ := bind_some H
 refine Lst.call1 rfl rfl (by decide) (vs := [.agg (enc a0).toArray]) ⟨rfl, trivial⟩ Try.call44 (partref_ViewErr_sim h6 w0 _ M _ (sc2 hM)) ?_
 refine Lst.r (Ev.assign rfl) ?_
 refine Lst.nil ?_
 refine At.then ?_
 refine Cd.seq ?_
 refine Cd.region ?_
 refine Lst.r (Ev.move rfl) ?_
 refine Lst.r (Ev.neq rfl rfl) ?_
 refine Lst.nil ?_
 refine At.then ?_
 rcases Bool.eq_false_or_eq_true (r5 != (0 : Int)) with hb9 | hb9
 ·replace H := ite_t hb9 H
  refine Cd.condT rfl hb9 ?_
  refine Cd.seq ?_
  refine Cd.region ?_
  refine Lst.r (Ev.build (v := .agg (enc View.zero).toArray) (pv := []) trivial (fun w => by kernel_rfl)) ?_
  refine Lst.r (Ev.move rfl) ?_
  refine Lst.store (i := 0) rfl rfl rfl rfl rfl Try.sizeOf68 (vs := enc View.zero) rfl (Enc.len _) (Enc.one _) (cs' := enc View.zero) (Put.here ((Enc.len _).trans (Enc.len _).symm)) (L' := (.blk b3 (enc View.zero) 68) :: (.blk b1 (enc a0) 68) :: L) rfl ?_
  refine Lst.r (Ev.assign rfl) ?_
  refine Lst.nil ?_
  refine At.then ?_
  obtain rfl := some_inj H
  refine Cd.ret ?_
  refine At.then_ret ?_
  exact At.ret2 rfl (Res.cellA (i := 0) rfl rfl Try.isAgg68 Try.sizeOf68 (Enc.len _)) (Res.tmp rfl) (FLe.refl _) (sc1 (sc1 (.refl _))) ⟨rfl, rfl⟩
 replace H := ite_f hb9 H
 refine Cd.condF rfl hb9 ?_
 refine Cd.skip ?_
 refine At.then ?_
 refine Cd.seq ?_
 refine Cd.seq ?_
 refine Cd.region ?_
 refine Lst.r (Ev.move rfl) ?_
 refine Lst.r (Ev.gtr rfl rfl) ?_
 refine Lst.r (Ev.move rfl) ?_
 obtain ⟨o10, H, HKo10⟩ := bind_some H
 refine Lst.join (σ := Bool) 3 (fun y11 => [(1, .int .u8 a1.toNat), (2, .int .u8 a2.toNat), (3, pv b1 0), (6, pv b3 0), (21, .bool y11)]) (fun y11 => (.blk b3 (enc View.zero) 68) :: (.blk b1 (enc a0) 68) :: L) (fun _ y11 => y11 = o10) ?_ ?_
 ·rcases Bool.eq_false_or_eq_true (decide ((a1.toNat : Int) > ((63 : BitVec 8).toNat : Int))) with hb12 | hb12
  ·replace H := ite_t hb12 H
   refine Lst.skip rfl rfl rfl hb12 rfl (by decide) ?_
   refine Lst.skip rfl rfl rfl hb12 rfl (by decide) ?_
   refine Lst.r (Ev.pickT rfl hb12 rfl) ?_
   refine Lst.nil ?_
   exact At.meet true (FLe.refl _) ⟨rfl, rfl, rfl, rfl, rfl, trivial⟩ rfl (some_inj H)
  replace H := ite_f hb12 H
  refine Lst.rG hb12 (Ev.move rfl) ?_
  refine Lst.rG hb12 (Ev.gtr rfl rfl) ?_
  refine Lst.r (Ev.pickF rfl hb12 rfl) ?_
  refine Lst.nil ?_
  exact At.meet (decide ((a2.toNat : Int) > ((63 : BitVec 8).toNat : Int))) (FLe.refl _) ⟨rfl, rfl, rfl, rfl, rfl, trivial⟩ rfl (some_inj H)
 rintro F13 y11 hF14 hy
 subst hy
 refine Lst.as (e' := [(1, .int .u8 a1.toNat), (2, .int .u8 a2.toNat), (3, pv b1 0), (6, pv b3 0), (21, .bool y11)]) (L' := (.blk b3 (enc View.zero) 68) :: (.blk b1 (enc a0) 68) :: L) ⟨rfl, rfl, rfl, rfl, rfl, trivial⟩ rfl ?_
 replace H := HKo10
 refine Lst.r (Ev.move rfl) ?_
 obtain ⟨o15, H, HKo15⟩ := bind_some H
 refine Lst.join (σ := Bool) 5 (fun y16 => [(1, .int .u8 a1.toNat), (2, .int .u8 a2.toNat), (3, pv b1 0), (6, pv b3 0), (27, .bool y16)]) (fun y16 => (.blk b3 (enc View.zero) 68) :: (.blk b1 (enc a0) 68) :: L) (fun _ y16 => y16 = o15) ?_ ?_
 ·rcases Bool.eq_false_or_eq_true y11 with hb17 | hb17
  ·replace H := ite_t hb17 H
   refine Lst.skip rfl rfl rfl hb17 rfl (by decide) ?_
   refine Lst.skip rfl rfl rfl hb17 rfl (by decide) ?_
   refine Lst.skip rfl rfl rfl hb17 rfl (by decide) ?_
   refine Lst.skip rfl rfl rfl hb17 rfl (by decide) ?_
   refine Lst.r (Ev.pickT rfl hb17 rfl) ?_
   refine Lst.nil ?_
   exact At.meet true (FLe.refl _) ⟨rfl, rfl, rfl, rfl, rfl, trivial⟩ rfl (some_inj H)
  replace H := ite_f hb17 H
  refine Lst.rG hb17 (Ev.move rfl) ?_
  refine Lst.rG hb17 (Ev.move rfl) ?_
  refine Lst.rG hb17 (Ev.andU8 (i := a1) (j := a2) rfl rfl) ?_
  refine Lst.rG hb17 (Ev.gtr rfl rfl) ?_
  refine Lst.r (Ev.pickF rfl hb17 rfl) ?_
  refine Lst.nil ?_
  exact At.meet (decide (((a1 &&& a2).toNat : Int) > ((0 : BitVec 8).toNat : Int))) (FLe.refl _) ⟨rfl, rfl, rfl, rfl, rfl, trivial⟩ rfl (some_inj H)
 rintro F18 y16 hF19 hy
 subst hy
 refine Lst.as (e' := [(1, .int .u8 a1.toNat), (2, .int .u8 a2.toNat), (3, pv b1 0), (6, pv b3 0), (27, .bool y16)]) (L' := (.blk b3 (enc View.zero) 68) :: (.blk b1 (enc a0) 68) :: L) ⟨rfl, rfl, rfl, rfl, rfl, trivial⟩ rfl ?_
 replace H := HKo15
 refine Lst.nil ?_
 refine At.then ?_
 rcases Bool.eq_false_or_eq_true y16 with hb20 | hb20
 ·replace H := ite_t hb20 H
  refine Cd.condT rfl hb20 ?_
  refine Cd.seq ?_
  refine Cd.region ?_
  refine Lst.r (Ev.build (v := .agg (enc View.zero).toArray) (pv := []) trivial (fun w => by kernel_rfl)) ?_
  refine Lst.store (i := 0) rfl rfl rfl rfl rfl Try.sizeOf68 (vs := enc View.zero) rfl (Enc.len _) (Enc.one _) (cs' := enc View.zero) (Put.here ((Enc.len _).trans (Enc.len _).symm)) (L' := (.blk b3 (enc View.zero) 68) :: (.blk b1 (enc a0) 68) :: L) rfl ?_
  refine Lst.r (Ev.assign rfl) ?_
  refine Lst.nil ?_
  refine At.then ?_
  obtain rfl := some_inj H
  refine Cd.ret ?_
  refine At.then_ret ?_
  exact At.ret2 rfl (Res.cellA (i := 0) rfl rfl Try.isAgg68 Try.sizeOf68 (Enc.len _)) (Res.tmp rfl) (FLe.trans hF14 hF19) (sc1 (sc1 (.refl _))) ⟨rfl, rfl⟩
 replace H := ite_f hb20 H
 refine Cd.condF rfl hb20 ?_
 refine Cd.skip ?_
 refine At.then ?_
 refine Cd.seq ?_
 refine Cd.seq ?_
 refine Cd.region ?_
 refine Lst.r (Ev.fieldAddr (off' := 0) rfl Try.runUnderlying68 rfl Try.sizeOf3 rfl rfl) ?_
 refine Lst.r (Ev.load (i := 1) rfl rfl Try.isAgg3 (v := iv a0.Num) ((View.get_Num (Get.here _)).off (by rfl))) ?_
 refine Lst.r (Ev.eql rfl rfl) ?_
 refine Lst.nil ?_
 refine At.then ?_
 rcases Bool.eq_false_or_eq_true (a0.Num == (16777215 : Int)) with hb21 | hb21
 ·replace H := ite_t hb21 H
  refine Cd.condT rfl hb21 ?_
  refine Cd.seq ?_
  refine Cd.region ?_
  refine Lst.r (Ev.build (v := .agg (enc View.zero).toArray) (pv := []) trivial (fun w => by kernel_rfl)) ?_
  refine Lst.store (i := 0) rfl rfl rfl rfl rfl Try.sizeOf68 (vs := enc View.zero) rfl (Enc.len _) (Enc.one _) (cs' := enc View.zero) (Put.here ((Enc.len _).trans (Enc.len _).symm)) (L' := (.blk b3 (enc View.zero) 68) :: (.blk b1 (enc a0) 68) :: L) rfl ?_
  refine Lst.r (Ev.assign rfl) ?_
  refine Lst.nil ?_
  refine At.then ?_
  obtain rfl := some_inj H
  refine Cd.ret ?_
  refine At.then_ret ?_
  exact At.ret2 rfl (Res.cellA (i := 0) rfl rfl Try.isAgg68 Try.sizeOf68 (Enc.len _)) (Res.tmp rfl) (FLe.trans hF14 hF19) (sc1 (sc1 (.refl _))) ⟨rfl, rfl⟩
 replace H := ite_f hb21 H
 refine Cd.condF rfl hb21 ?_
 refine Cd.skip ?_
 refine At.then ?_
 refine Cd.seq ?_
 refine Cd.seq ?_
 refine Cd.region ?_
 refine Lst.r (Ev.fieldAddr (off' := 1) rfl Try.runUnderlying68 rfl Try.sizeOf5 rfl rfl) ?_
 refine Lst.r (Ev.load (i := 1) rfl rfl Try.isAgg5 (v := .int .u8 a0.Members.toNat) ((View.get_Members (Get.here _)).off (by rfl))) ?_
 refine Lst.r (Ev.fieldAddr (off' := 1) rfl Try.runUnderlying68 rfl Try.sizeOf5 rfl rfl) ?_
 refine Lst.r (Ev.load (i := 1) rfl rfl Try.isAgg5 (v := .int .u8 a0.Members.toNat) ((View.get_Members (Get.here _)).off (by rfl))) ?_
 refine Lst.r (Ev.move rfl) ?_
 refine Lst.r (Ev.andU8 (i := a0.Members) (j := a1) rfl rfl) ?_
 refine Lst.r (Ev.subU8 (i := a0.Members) (j := a0.Members &&& a1) rfl rfl) ?_
 refine Lst.r (Ev.assign rfl) ?_
 refine Lst.nil ?_
 refine At.then ?_
 refine Cd.seq ?_
 refine Cd.quiet (by kernel_rfl) (by kernel_rfl) ?_
 refine Qt.r (Ev.move rfl) ?_
 refine Qt.r (Ev.convTo16 rfl Try.runUnderlying5 Try.runUnderlying175) ?_
 obtain ⟨r22, h23, H⟩ := bind_some H
 refine Qt.call rfl rfl (by decide) (vs := [.int .u16 (BitVec.ofInt 16 ((a0.Members - (a0.Members &&& a1)).toNat : Int)).toNat]) ⟨rfl, trivial⟩ Try.call135 (partref_size_sim h23 w0 _ M _ (sc2 hM)) ?_
 refine Qt.r (Ev.mul rfl rfl) ?_
 refine Qt.r (Ev.fieldAddr (off' := 1) rfl Try.runUnderlying68 rfl Try.sizeOf5 rfl rfl) ?_
 refine Qt.r (Ev.load (i := 1) rfl rfl Try.isAgg5 (v := .int .u8 a0.Members.toNat) ((View.get_Members (Get.here _)).off (by rfl))) ?_
 refine Qt.r (Ev.convTo16 rfl Try.runUnderlying5 Try.runUnderlying175) ?_
 obtain ⟨r26, h27, H⟩ := bind_some H
 refine Qt.call rfl rfl (by decide) (vs := [.int .u16 (BitVec.ofInt 16 (a0.Members.toNat : Int)).toNat]) ⟨rfl, trivial⟩ Try.call135 (partref_size_sim h27 w0 _ M _ (sc2 hM)) ?_
 refine Qt.r (Ev.gtr rfl rfl) ?_
 refine Qt.done ?_
 refine At.then ?_
 rcases Bool.eq_false_or_eq_true (decide ((w64 ((2 : Int) * r22)) > r26)) with hb30 | hb30
 ·replace H := ite_t hb30 H
  refine Cd.condT rfl hb30 ?_
  refine Cd.seq ?_
  refine Cd.as (e' := [(2, .int .u8 a2.toNat), (3, pv b1 0), (6, pv b3 0), (9, .int .u8 (a0.Members - (a0.Members &&& a1)).toNat)]) (L' := (.blk b3 (enc View.zero) 68) :: (.blk b1 (enc a0) 68) :: L) ⟨rfl, rfl, rfl, rfl, trivial⟩ rfl ?_
  refine Cd.region ?_
  refine Lst.r (Ev.fieldAddr (off' := 0) rfl Try.runUnderlying68 rfl Try.sizeOf3 rfl rfl) ?_
  refine Lst.r (Ev.load (i := 1) rfl rfl Try.isAgg3 (v := iv a0.Num) ((View.get_Num (Get.here _)).off (by rfl))) ?_
  refine Lst.r (Ev.add rfl rfl) ?_
  refine Lst.r (Ev.move rfl) ?_
  refine Lst.r (Ev.move rfl) ?_
  refine Lst.r (Ev.orU8 (i := a0.Members - (a0.Members &&& a1)) (j := a2) rfl rfl) ?_
  refine Lst.r (Ev.build (v := .agg (enc ({ View.zero with Num := w64 (a0.Num + (1 : Int)), Members := (a0.Members - (a0.Members &&& a1)) ||| a2 } : View)).toArray) (pv := [(0, iv (w64 (a0.Num + (1 : Int)))), (1, .int .u8 ((a0.Members - (a0.Members &&& a1)) ||| a2).toNat)]) ⟨rfl, rfl, ⟨rfl, rfl, trivial⟩⟩ (fun w => by kernel_rfl)) ?_
  refine Lst.store (i := 0) rfl rfl rfl rfl rfl Try.sizeOf68 (vs := enc ({ View.zero with Num := w64 (a0.Num + (1 : Int)), Members := (a0.Members - (a0.Members &&& a1)) ||| a2 } : View)) rfl (Enc.len _) (Enc.one _) (cs' := enc ({ View.zero with Num := w64 (a0.Num + (1 : Int)), Members := (a0.Members - (a0.Members &&& a1)) ||| a2 } : View)) (Put.here ((Enc.len _).trans (Enc.len _).symm)) (L' := (.blk b3 (enc ({ View.zero with Num := w64 (a0.Num + (1 : Int)), Members := (a0.Members - (a0.Members &&& a1)) ||| a2 } : View)) 68) :: (.blk b1 (enc a0) 68) :: L) rfl ?_
  refine Lst.r (Ev.assign rfl) ?_
  refine Lst.nil ?_
  refine At.then ?_
  obtain rfl := some_inj H
  refine Cd.ret ?_
  refine At.then_ret ?_
  exact At.ret2 rfl (Res.cellA (i := 0) rfl rfl Try.isAgg68 Try.sizeOf68 (Enc.len _)) (Res.tmp rfl) (FLe.trans hF14 hF19) (sc1 (sc1 (.refl _))) ⟨rfl, rfl⟩
 replace H := ite_f hb30 H
 refine Cd.condF rfl hb30 ?_
 refine Cd.skip ?_
 refine At.then ?_
 refine Cd.seq ?_
 refine Cd.as (e' := [(6, pv b3 0)]) (L' := (.blk b3 (enc View.zero) 68) :: (.blk b1 (enc a0) 68) :: L) ⟨rfl, trivial⟩ rfl ?_
 refine Cd.region ?_
 refine Lst.r (Ev.build (v := .agg (enc View.zero).toArray) (pv := []) trivial (fun w => by kernel_rfl)) ?_
 refine Lst.store (i := 0) rfl rfl rfl rfl rfl Try.sizeOf68 (vs := enc View.zero) rfl (Enc.len _) (Enc.one _) (cs' := enc View.zero) (Put.here ((Enc.len _).trans (Enc.len _).symm)) (L' := (.blk b3 (enc View.zero) 68) :: (.blk b1 (enc a0) 68) :: L) rfl ?_
 refine Lst.r (Ev.assign rfl) ?_
 refine Lst.nil ?_
 refine At.then ?_
 obtain rfl := some_inj H
 refine Cd.ret ?_
 exact At.ret2 rfl (Res.cellA (i := 0) rfl rfl Try.isAgg68 Try.sizeOf68 (Enc.len _)) (Res.tmp rfl) (FLe.trans hF14 hF19) (sc1 (sc1 (.refl _))) ⟨rfl, rfl⟩
set_option maxRecDepth 20000 in
theorem partref_Missing_1_sim {a0 : Int} {a1 : Flush} {b_a1 : Nat} {rs_a1_2 : Vector (LR Int) 6} {r : Bool} (H : partref_Missing_1 a0 a1 = some r) (w0 : World) (F : Frz) (M L : List Item) (hM : M.Sublist L) (hm_a1_2 : rs_a1_2.toList.map LR.v = a1.Told.toList) (ha_a1_2 : All LR.rel w0 F M rs_a1_2.toList) : Ok Try.prog w0 136 [iv a0, pv b_a1 0] F ((.blk b_a1 (enc (FlushR.mk a1 rs_a1_2)) 71) :: L) (Is (.bool r) ((.blk b_a1 (enc (FlushR.mk a1 rs_a1_2)) 71) :: L)) := by
 unfold partref_Missing_1 at H
 refine Ok.enter (m := 2) (n := 19) Try.func136 rfl rfl rfl (by decide) ?_
 refine Cd.env (e' := [(0, iv a0), (1, pv b_a1 0)]) rfl ?_
 refine Cd.seq ?_
 refine Cd.region ?_
 refine Lst.r (Ev.assign rfl) ?_
 refine Lst.nil ?_
 refine At.then ?_
 refine Cd.seq ?_
 refine Cd.region ?_
 refine Lst.r (Ev.fieldAddr (off' := 0) rfl Try.runUnderlying71 rfl Try.sizeOf68 rfl rfl) ?_
 refine Lst.r (Ev.fieldAddr (off' := 1) rfl Try.runUnderlying68 rfl Try.sizeOf5 rfl rfl) ?_
 refine Lst.r (Ev.load (i := 0) rfl rfl Try.isAgg5 (v := .int .u8 a1.View_.Members.toNat) ((FlushR.get_View_ (View.get_Members (Get.here _))).off (by rfl))) ?_
 refine Lst.r (Ev.move rfl) ?_
 obtain ⟨n2, h3, H⟩ := bind_some H
 refine Lst.r (Ev.shrU8 (i := a1.View_.Members) (m := n2) rfl (congrArg some (congrArg (Value.int .i64) (cnt_some h3)))) ?_
 refine Lst.r (Ev.remU8 (i := a1.View_.Members >>> n2) (j := (2 : BitVec 8)) rfl rfl (by decide)) ?_
 refine Lst.r (Ev.eql rfl rfl) ?_
 refine Lst.r (Ev.move rfl) ?_
 obtain ⟨o5, H, HKo5⟩ := bind_some H
 refine Lst.join (σ := Bool) 7 (fun y6 => [(18, .bool y6)]) (fun y6 => (.blk b_a1 (enc (FlushR.mk a1 rs_a1_2)) 71) :: L) (fun _ y6 => y6 = o5) ?_ ?_
 ·rcases (Bool.eq_false_or_eq_true ((((a1.View_.Members >>> n2) % (2 : BitVec 8)).toNat : Int) == ((1 : BitVec 8).toNat : Int))).symm with hb7 | hb7
  ·replace H := ite_f hb7 H
   refine Lst.skip rfl rfl rfl hb7 rfl (by decide) ?_
   refine Lst.skip rfl rfl rfl hb7 rfl (by decide) ?_
   refine Lst.skip rfl rfl rfl hb7 rfl (by decide) ?_
   refine Lst.skip rfl rfl rfl hb7 rfl (by decide) ?_
   refine Lst.skip rfl rfl rfl hb7 rfl (by decide) ?_
   refine Lst.skip rfl rfl rfl hb7 rfl (by decide) ?_
   refine Lst.r (Ev.pickF rfl hb7 rfl) ?_
   refine Lst.nil ?_
   exact At.meet false (FLe.refl _) ⟨rfl, trivial⟩ rfl (some_inj H)
  replace H := ite_t hb7 H
  refine Lst.rG hb7 (Ev.fieldAddr (off' := 2) rfl Try.runUnderlying71 rfl Try.sizeOf5 rfl rfl) ?_
  refine Lst.rG hb7 (Ev.load (i := 0) rfl rfl Try.isAgg5 (v := .int .u8 a1.Gone.toNat) ((FlushR.get_Gone (Get.here _)).off (by rfl))) ?_
  refine Lst.rG hb7 (Ev.move rfl) ?_
  obtain ⟨n8, h9, H⟩ := bind_some H
  refine Lst.rG hb7 (Ev.shrU8 (i := a1.Gone) (m := n8) rfl (congrArg some (congrArg (Value.int .i64) (cnt_some h9)))) ?_
  refine Lst.rG hb7 (Ev.remU8 (i := a1.Gone >>> n8) (j := (2 : BitVec 8)) rfl rfl (by decide)) ?_
  refine Lst.rG hb7 (Ev.eql rfl rfl) ?_
  refine Lst.r (Ev.pickT rfl hb7 rfl) ?_
  refine Lst.nil ?_
  exact At.meet ((((a1.Gone >>> n8) % (2 : BitVec 8)).toNat : Int) == ((0 : BitVec 8).toNat : Int)) (FLe.refl _) ⟨rfl, trivial⟩ rfl (some_inj H)
 rintro F11 y6 hF12 hy
 subst hy
 refine Lst.as (e' := [(18, .bool y6)]) (L' := (.blk b_a1 (enc (FlushR.mk a1 rs_a1_2)) 71) :: L) ⟨rfl, trivial⟩ rfl ?_
 replace H := HKo5
 refine Lst.r (Ev.assign rfl) ?_
 refine Lst.nil ?_
 refine At.then ?_
 obtain rfl := some_inj H
 refine Cd.ret ?_
 exact At.ret1 rfl (Res.tmp rfl) hF12 (sk1 (.refl _)) ⟨rfl, rfl⟩
set_option maxRecDepth 20000 in
theorem partref_Missing_sim {a0 : Flush} {rs_a0_2 : Vector (LR Int) 6} {r : (Vector (List Int) 6)} (H : partref_Missing a0 = some r) (w0 : World) (F : Frz) (M L : List Item) (hM : M.Sublist L) (hm_a0_2 : rs_a0_2.toList.map LR.v = a0.Told.toList) (ha_a0_2 : All LR.rel w0 F M rs_a0_2.toList) : Ok Try.prog w0 49 [.agg (enc (FlushR.mk a0 rs_a0_2)).toArray] F (L) (fun Fx L' v => ∃ (rs1 : Vector (LR Int) 6), v = .agg (enc rs1).toArray ∧ L' = (.rows (α := Int) 3 rs1.toList) :: L ∧ rs1.toList.map LR.v = r.toList) := by
 unfold partref_Missing at H
 refine Ok.enter (m := 1) (n := 61) Try.func49 rfl rfl rfl (by decide) ?_
 refine Cd.env (e' := [(0, .agg (enc (FlushR.mk a0 rs_a0_2)).toArray)]) rfl ?_
 refine Cd.seq ?_
 refine Cd.region ?_
 refine Lst.box rfl rfl (by decide) rfl (cs := enc (FlushR.mk a0 rs_a0_2)) rfl (fun b1 => ?_)
 have hm3 : (Vector.replicate 6 ⟨[], Sl.nil⟩ : Vector (LR Int) 6).toList.map LR.v = (Vector.replicate 6 [] : Vector (List Int) 6).toList := vmap_rep _ _
 refine Lst.rowsNilV Int 3 6 ?_
 refine Lst.alloc (cs := enc (Vector.replicate 6 ⟨[], Sl.nil⟩ : Vector (LR Int) 6)) rfl rfl (by decide) Try.zeroValue69 rfl (fun b5 => ?_)
 refine Lst.nil ?_
 refine At.then ?_
 refine Cd.seq ?_
 refine Cd.region ?_
 have hm7 : (Vector.replicate 6 ⟨[], Sl.nil⟩ : Vector (LR Int) 6).toList.map LR.v = (Vector.replicate 6 [] : Vector (List Int) 6).toList := vmap_rep _ _
 refine Lst.rowsNilV Int 3 6 ?_
 refine Lst.alloc (cs := enc (Vector.replicate 6 ⟨[], Sl.nil⟩ : Vector (LR Int) 6)) rfl rfl (by decide) Try.zeroValue69 rfl (fun b9 => ?_)
 refine Lst.nil ?_
 refine At.then ?_
 refine Cd.seq ?_
 refine Cd.region ?_
 refine Lst.r (Ev.makeFunc (us := []) (vs := [pv b1 0]) trivial ⟨rfl, trivial⟩) ?_
 refine Lst.r (Ev.assign rfl) ?_
 refine Lst.nil ?_
 refine At.then ?_
 refine Cd.seq ?_
 refine Cd.seq ?_
 refine Cd.region ?_
 refine Lst.r (Ev.move rfl) ?_
 refine Lst.nil ?_
 refine At.then ?_
 refine Cd.block ?_
 refine Cd.front (i := 1) rfl (L' := (.rows (α := Int) 3 ((Vector.replicate 6 ⟨[], Sl.nil⟩ : Vector (LR Int) 6).toList)) :: (.blk b9 (enc (Vector.replicate 6 ⟨[], Sl.nil⟩ : Vector (LR Int) 6)) 69) :: (.blk b5 (enc (Vector.replicate 6 ⟨[], Sl.nil⟩ : Vector (LR Int) 6)) 69) :: (.rows (α := Int) 3 ((Vector.replicate 6 ⟨[], Sl.nil⟩ : Vector (LR Int) 6).toList)) :: (.blk b1 (enc (FlushR.mk a0 rs_a0_2)) 71) :: L) rfl ?_
 obtain ⟨ol11, H, HKl11⟩ := bind_some H
 refine Cd.loop (σ := Nat × Nat × (Vector (LR Int) 6) × (Vector (List Int) 6)) (fun (i11, k11, rs12, l13) => [(1, pv b1 0), (2, pv b5 0), (3, pv b9 0), (4, .func (.func 136) #[] #[pv b1 0]), (11, iv (i11 : Int))]) (fun (i11, k11, rs12, l13) => (.rows (α := Int) 3 rs12.toList) :: (.blk b9 (enc rs12) 69) :: (.blk b5 (enc (Vector.replicate 6 ⟨[], Sl.nil⟩ : Vector (LR Int) 6)) 69) :: (.rows (α := Int) 3 ((Vector.replicate 6 ⟨[], Sl.nil⟩ : Vector (LR Int) 6).toList)) :: (.blk b1 (enc (FlushR.mk a0 rs_a0_2)) 71) :: L) (fun Fx => (fun (i11, k11, rs12, l13) => rangeF (partref_Missing_B0 a0) k11 i11 l13 = some ol11 ∧ i11 + k11 = 6 ∧ rs12.toList.map LR.v = l13.toList)) (fun (i11, k11, rs12, l13) => k11) (0, 6, (Vector.replicate 6 ⟨[], Sl.nil⟩ : Vector (LR Int) 6), (Vector.replicate 6 [] : Vector (List Int) 6)) ⟨rfl, rfl, rfl, rfl, rfl, trivial⟩ rfl ⟨H, by omega, hm7⟩ ?_
 rintro F16 ⟨i11, k11, rs12, l13⟩ hF17 ⟨H, hik11, fm14⟩
 refine Cd.as (e' := [(1, pv b1 0), (2, pv b5 0), (3, pv b9 0), (4, .func (.func 136) #[] #[pv b1 0]), (11, iv (i11 : Int))]) (L' := (.rows (α := Int) 3 rs12.toList) :: (.blk b9 (enc rs12) 69) :: (.blk b5 (enc (Vector.replicate 6 ⟨[], Sl.nil⟩ : Vector (LR Int) 6)) 69) :: (.rows (α := Int) 3 ((Vector.replicate 6 ⟨[], Sl.nil⟩ : Vector (LR Int) 6).toList)) :: (.blk b1 (enc (FlushR.mk a0 rs_a0_2)) 71) :: L) ⟨rfl, rfl, rfl, rfl, rfl, trivial⟩ rfl ?_
 rcases k11 with _ | k11
 ·have hc11 : decide ((i11 : Int) < (6 : Int)) = false := decide_eq_false (by omega)
  replace H := rangeF_end H
  refine Cd.seq ?_
  refine Cd.region ?_
  refine Lst.r (Ev.lss rfl rfl) ?_
  refine Lst.nil ?_
  refine At.then ?_
  refine Cd.seq ?_
  refine Cd.condF rfl hc11 ?_
  refine Cd.exit ?_
  refine At.then_exit ?_
  refine At.then_exit ?_
  refine At.in_exit ?_
  subst H
  replace H := HKl11
  refine At.then ?_
  refine Cd.seq ?_
  refine Cd.region ?_
  refine Lst.r (Ev.loadA (i := 1) rfl rfl Try.isAgg69 Try.sizeOf69 (ch := enc rs12) (Enc.len _) (Get.here _)) ?_
  refine Lst.store (i := 2) rfl rfl rfl rfl rfl Try.sizeOf69 (vs := enc rs12) rfl (Enc.len _) (Enc.one _) (cs' := enc rs12) (Put.here ((Enc.len _).trans (Enc.len _).symm)) (L' := (.rows (α := Int) 3 rs12.toList) :: (.blk b9 (enc rs12) 69) :: (.blk b5 (enc rs12) 69) :: (.rows (α := Int) 3 ((Vector.replicate 6 ⟨[], Sl.nil⟩ : Vector (LR Int) 6).toList)) :: (.blk b1 (enc (FlushR.mk a0 rs_a0_2)) 71) :: L) rfl ?_
  refine Lst.nil ?_
  refine At.then ?_
  obtain rfl := some_inj H
  refine Cd.ret ?_
  exact At.ret1 rfl (Res.cellA (i := 2) rfl rfl Try.isAgg69 Try.sizeOf69 (Enc.len _)) hF17 (sk1 (sc1 (sc1 (sc1 (sc1 (.refl _)))))) ⟨rs12, rfl, rfl, fm14⟩
 have hc11 : decide ((i11 : Int) < (6 : Int)) = true := decide_eq_true (by omega)
 obtain ⟨c11, H, hgo11⟩ := rangeF_go H
 unfold partref_Missing_B0 at H
 try dsimp only at H
 refine Cd.seq ?_
 refine Cd.region ?_
 refine Lst.r (Ev.lss rfl rfl) ?_
 refine Lst.nil ?_
 refine At.then ?_
 refine Cd.seq ?_
 refine Cd.condT rfl hc11 ?_
 refine Cd.skip ?_
 refine At.then ?_
 refine Cd.seq ?_
 refine Cd.block ?_
 refine Cd.seq ?_
 refine Cd.region ?_
 refine Lst.r (Ev.move rfl) ?_
 refine Lst.r (Ev.assign rfl) ?_
 refine Lst.nil ?_
 refine At.then ?_
 refine Cd.seq ?_
 refine Cd.region ?_
 refine Lst.r (Ev.move rfl) ?_
 refine Lst.nil ?_
 refine At.then ?_
 refine Cd.block ?_
 obtain ⟨ol18, H, HKl18⟩ := bind_some H
 refine Cd.loop (σ := Nat × Nat × (Vector (LR Int) 6) × (Vector (List Int) 6)) (fun (i18, k18, rs19, l20) => [(1, pv b1 0), (2, pv b5 0), (3, pv b9 0), (4, .func (.func 136) #[] #[pv b1 0]), (5, iv (i11 : Int)), (11, iv (i11 : Int)), (14, iv (i18 : Int))]) (fun (i18, k18, rs19, l20) => (.rows (α := Int) 3 rs19.toList) :: (.blk b9 (enc rs19) 69) :: (.blk b5 (enc (Vector.replicate 6 ⟨[], Sl.nil⟩ : Vector (LR Int) 6)) 69) :: (.rows (α := Int) 3 ((Vector.replicate 6 ⟨[], Sl.nil⟩ : Vector (LR Int) 6).toList)) :: (.blk b1 (enc (FlushR.mk a0 rs_a0_2)) 71) :: L) (fun Fx => (fun (i18, k18, rs19, l20) => rangeF (partref_Missing_B2 a0 i11) k18 i18 l20 = some ol18 ∧ i18 + k18 = 30 ∧ rs19.toList.map LR.v = l20.toList)) (fun (i18, k18, rs19, l20) => k18) (0, 30, rs12, l13) ⟨rfl, rfl, rfl, rfl, rfl, rfl, rfl, trivial⟩ rfl ⟨H, by omega, fm14⟩ ?_
 rintro F23 ⟨i18, k18, rs19, l20⟩ hF24 ⟨H, hik18, fm21⟩
 refine Cd.as (e' := [(1, pv b1 0), (2, pv b5 0), (3, pv b9 0), (4, .func (.func 136) #[] #[pv b1 0]), (5, iv (i11 : Int)), (11, iv (i11 : Int)), (14, iv (i18 : Int))]) (L' := (.rows (α := Int) 3 rs19.toList) :: (.blk b9 (enc rs19) 69) :: (.blk b5 (enc (Vector.replicate 6 ⟨[], Sl.nil⟩ : Vector (LR Int) 6)) 69) :: (.rows (α := Int) 3 ((Vector.replicate 6 ⟨[], Sl.nil⟩ : Vector (LR Int) 6).toList)) :: (.blk b1 (enc (FlushR.mk a0 rs_a0_2)) 71) :: L) ⟨rfl, rfl, rfl, rfl, rfl, rfl, rfl, trivial⟩ rfl ?_
 rcases k18 with _ | k18
 ·have hc18 : decide ((i18 : Int) < (30 : Int)) = false := decide_eq_false (by omega)
  replace H := rangeF_end H
  refine Cd.seq ?_
  refine Cd.region ?_
  refine Lst.r (Ev.lss rfl rfl) ?_
  refine Lst.nil ?_
  refine At.then ?_
  refine Cd.seq ?_
  refine Cd.condF rfl hc18 ?_
  refine Cd.exit ?_
  refine At.then_exit ?_
  refine At.then_exit ?_
  refine At.in_exit ?_
  subst H
  replace H := HKl18
  refine At.in_normal ?_
  refine At.then ?_
  refine Cd.region ?_
  refine Lst.r (Ev.incr (by omega) rfl rfl) ?_
  refine Lst.r (Ev.move rfl) ?_
  refine Lst.nil ?_
  exact At.meet (i11 + 1, k11, rs19, l20) (FLe.trans hF17 hF24) ⟨rfl, rfl, rfl, rfl, rfl, trivial⟩ rfl ⟨⟨hgo11 _ (some_inj H).symm, by omega, fm21⟩, Nat.lt_succ_self _⟩
 have hc18 : decide ((i18 : Int) < (30 : Int)) = true := decide_eq_true (by omega)
 obtain ⟨c18, H, hgo18⟩ := rangeF_go H
 unfold partref_Missing_B2 at H
 try dsimp only at H
 refine Cd.seq ?_
 refine Cd.region ?_
 refine Lst.r (Ev.lss rfl rfl) ?_
 refine Lst.nil ?_
 refine At.then ?_
 refine Cd.seq ?_
 refine Cd.condT rfl hc18 ?_
 refine Cd.skip ?_
 refine At.then ?_
 refine Cd.seq ?_
 refine Cd.block ?_
 refine Cd.seq ?_
 refine Cd.region ?_
 refine Lst.r (Ev.move rfl) ?_
 refine Lst.r (Ev.assign rfl) ?_
 refine Lst.nil ?_
 refine At.then ?_
 refine Cd.seq ?_
 refine Cd.region ?_
 refine Lst.r (Ev.assign rfl) ?_
 refine Lst.nil ?_
 refine At.then ?_
 refine Cd.seq ?_
 refine Cd.seq ?_
 refine Cd.region ?_
 refine Lst.r (Ev.fieldAddr (off' := 3) rfl Try.runUnderlying71 rfl Try.sizeOf69 rfl rfl) ?_
 refine Lst.r (Ev.loadA (i := 4) rfl rfl Try.isAgg69 Try.sizeOf69 (ch := enc rs_a0_2) (Enc.len _) ((FlushR.get_Told (Get.here _)).off (by rfl))) ?_
 refine Lst.r (Ev.move rfl) ?_
 refine Lst.nil ?_
 refine At.then ?_
 refine Cd.block ?_
 obtain ⟨ol25, H, HKl25⟩ := bind_some H
 refine Cd.loop (σ := Nat × Nat × Bool) (fun (i25, k25, y26) => [(1, pv b1 0), (2, pv b5 0), (3, pv b9 0), (4, .func (.func 136) #[] #[pv b1 0]), (5, iv (i11 : Int)), (6, iv (i18 : Int)), (7, .bool y26), (11, iv (i11 : Int)), (14, iv (i18 : Int)), (18, .agg (enc rs_a0_2).toArray), (19, iv (i25 : Int))]) (fun (i25, k25, y26) => (.rows (α := Int) 3 rs19.toList) :: (.blk b9 (enc rs19) 69) :: (.blk b5 (enc (Vector.replicate 6 ⟨[], Sl.nil⟩ : Vector (LR Int) 6)) 69) :: (.rows (α := Int) 3 ((Vector.replicate 6 ⟨[], Sl.nil⟩ : Vector (LR Int) 6).toList)) :: (.blk b1 (enc (FlushR.mk a0 rs_a0_2)) 71) :: L) (fun _ => (fun (i25, k25, y26) => rangeF (partref_Missing_B4 a0 i18) k25 i25 y26 = some ol25 ∧ i25 + k25 = 6)) (fun (i25, k25, y26) => k25) (0, 6, false) ⟨rfl, rfl, rfl, rfl, rfl, rfl, rfl, rfl, rfl, rfl, rfl, trivial⟩ rfl ⟨H, by omega⟩ ?_
 rintro F27 ⟨i25, k25, y26⟩ hF28 ⟨H, hik25⟩
 refine Cd.as (e' := [(1, pv b1 0), (2, pv b5 0), (3, pv b9 0), (4, .func (.func 136) #[] #[pv b1 0]), (5, iv (i11 : Int)), (6, iv (i18 : Int)), (7, .bool y26), (11, iv (i11 : Int)), (14, iv (i18 : Int)), (18, .agg (enc rs_a0_2).toArray), (19, iv (i25 : Int))]) (L' := (.rows (α := Int) 3 rs19.toList) :: (.blk b9 (enc rs19) 69) :: (.blk b5 (enc (Vector.replicate 6 ⟨[], Sl.nil⟩ : Vector (LR Int) 6)) 69) :: (.rows (α := Int) 3 ((Vector.replicate 6 ⟨[], Sl.nil⟩ : Vector (LR Int) 6).toList)) :: (.blk b1 (enc (FlushR.mk a0 rs_a0_2)) 71) :: L) ⟨rfl, rfl, rfl, rfl, rfl, rfl, rfl, rfl, rfl, rfl, rfl, trivial⟩ rfl ?_
 rcases k25 with _ | k25
 ·have hc25 : decide ((i25 : Int) < (6 : Int)) = false := decide_eq_false (by omega)
  replace H := rangeF_end H
  refine Cd.seq ?_
  refine Cd.region ?_
  refine Lst.r (Ev.lss rfl rfl) ?_
  refine Lst.nil ?_
  refine At.then ?_
  refine Cd.seq ?_
  refine Cd.condF rfl hc25 ?_
  refine Cd.exit ?_
  refine At.then_exit ?_
  refine At.then_exit ?_
  refine At.in_exit ?_
  subst H
  replace H := HKl25
  refine At.then ?_
  refine Cd.seq ?_
  refine Cd.region ?_
  refine Lst.r (Ev.move rfl) ?_
  refine Lst.r (Ev.move rfl) ?_
  rcases (Bool.eq_false_or_eq_true y26).symm with hb47 | hb47
  ·replace H := ite_f hb47 H
   refine Lst.skip rfl rfl rfl hb47 rfl (by decide) ?_
   refine Lst.skip rfl rfl rfl hb47 rfl (by decide) ?_
   refine Lst.skip rfl rfl rfl hb47 rfl (by decide) ?_
   refine Lst.r (Ev.pickF rfl hb47 rfl) ?_
   refine Lst.r (Ev.move rfl) ?_
   refine Lst.skip rfl rfl rfl rfl rfl (by decide) ?_
   refine Lst.skip rfl rfl rfl rfl rfl (by decide) ?_
   refine Lst.skip rfl rfl rfl rfl rfl (by decide) ?_
   refine Lst.skip rfl rfl rfl rfl rfl (by decide) ?_
   refine Lst.skip rfl rfl rfl rfl rfl (by decide) ?_
   refine Lst.skip rfl rfl rfl rfl rfl (by decide) ?_
   refine Lst.skip rfl rfl rfl rfl rfl (by decide) ?_
   refine Lst.r (Ev.pickF rfl rfl rfl) ?_
   refine Lst.nil ?_
   refine At.then ?_
   refine Cd.condF rfl rfl ?_
   refine Cd.skip ?_
   refine At.in_normal ?_
   refine At.then ?_
   refine Cd.as (e' := [(1, pv b1 0), (2, pv b5 0), (3, pv b9 0), (4, .func (.func 136) #[] #[pv b1 0]), (5, iv (i11 : Int)), (11, iv (i11 : Int)), (14, iv (i18 : Int))]) (L' := (.rows (α := Int) 3 rs19.toList) :: (.blk b9 (enc rs19) 69) :: (.blk b5 (enc (Vector.replicate 6 ⟨[], Sl.nil⟩ : Vector (LR Int) 6)) 69) :: (.rows (α := Int) 3 ((Vector.replicate 6 ⟨[], Sl.nil⟩ : Vector (LR Int) 6).toList)) :: (.blk b1 (enc (FlushR.mk a0 rs_a0_2)) 71) :: L) ⟨rfl, rfl, rfl, rfl, rfl, rfl, rfl, trivial⟩ rfl ?_
   refine Cd.region ?_
   refine Lst.r (Ev.incr (by omega) rfl rfl) ?_
   refine Lst.r (Ev.move rfl) ?_
   refine Lst.nil ?_
   exact At.meet (i18 + 1, k18, rs19, l20) (FLe.trans hF24 hF28) ⟨rfl, rfl, rfl, rfl, rfl, rfl, rfl, trivial⟩ rfl ⟨⟨hgo18 _ (some_inj H).symm, by omega, fm21⟩, Nat.lt_succ_self _⟩
  replace H := ite_t hb47 H
  refine Lst.rG hb47 (Ev.move rfl) ?_
  refine Lst.rG hb47 (Ev.move rfl) ?_
  obtain ⟨r48, h49, H⟩ := bind_some H
  refine Lst.front (i := 4) rfl (L' := (.blk b1 (enc (FlushR.mk a0 rs_a0_2)) 71) :: (.rows (α := Int) 3 rs19.toList) :: (.blk b9 (enc rs19) 69) :: (.blk b5 (enc (Vector.replicate 6 ⟨[], Sl.nil⟩ : Vector (LR Int) 6)) 69) :: (.rows (α := Int) 3 ((Vector.replicate 6 ⟨[], Sl.nil⟩ : Vector (LR Int) 6).toList)) :: L) rfl ?_
  refine Lst.callV1G rfl rfl rfl hb47 rfl (by decide) (vs := [iv (i11 : Int)]) (cs := [pv b1 0]) rfl ⟨rfl, trivial⟩ Try.call136 (partref_Missing_1_sim h49 w0 _ M _ (sc4 hM) hm_a0_2 (All.monoLR ha_a0_2 (FLe.trans (FLe.trans hF17 hF24) hF28) (.refl _))) ?_
  refine Lst.r (Ev.pickT rfl hb47 rfl) ?_
  refine Lst.r (Ev.move rfl) ?_
  obtain ⟨o52, H, HKo52⟩ := bind_some H
  refine Lst.join (σ := Bool) 8 (fun y53 => [(1, pv b1 0), (2, pv b5 0), (3, pv b9 0), (4, .func (.func 136) #[] #[pv b1 0]), (5, iv (i11 : Int)), (6, iv (i18 : Int)), (11, iv (i11 : Int)), (14, iv (i18 : Int)), (49, .bool y53)]) (fun y53 => (.blk b1 (enc (FlushR.mk a0 rs_a0_2)) 71) :: (.rows (α := Int) 3 rs19.toList) :: (.blk b9 (enc rs19) 69) :: (.blk b5 (enc (Vector.replicate 6 ⟨[], Sl.nil⟩ : Vector (LR Int) 6)) 69) :: (.rows (α := Int) 3 ((Vector.replicate 6 ⟨[], Sl.nil⟩ : Vector (LR Int) 6).toList)) :: L) (fun _ y53 => y53 = o52) ?_ ?_
  ·rcases (Bool.eq_false_or_eq_true r48).symm with hb54 | hb54
   ·replace H := ite_f hb54 H
    refine Lst.skip rfl rfl rfl hb54 rfl (by decide) ?_
    refine Lst.skip rfl rfl rfl hb54 rfl (by decide) ?_
    refine Lst.skip rfl rfl rfl hb54 rfl (by decide) ?_
    refine Lst.skip rfl rfl rfl hb54 rfl (by decide) ?_
    refine Lst.skip rfl rfl rfl hb54 rfl (by decide) ?_
    refine Lst.skip rfl rfl rfl hb54 rfl (by decide) ?_
    refine Lst.skip rfl rfl rfl hb54 rfl (by decide) ?_
    refine Lst.r (Ev.pickF rfl hb54 rfl) ?_
    refine Lst.nil ?_
    exact At.meet false (FLe.refl _) ⟨rfl, rfl, rfl, rfl, rfl, rfl, rfl, rfl, rfl, trivial⟩ rfl (some_inj H)
   replace H := ite_t hb54 H
   refine Lst.rG hb54 (Ev.move rfl) ?_
   refine Lst.rG hb54 (Ev.fieldAddr (off' := 3) rfl Try.runUnderlying71 rfl Try.sizeOf69 rfl rfl) ?_
   obtain ⟨x55, h56, H⟩ := bind_some H
   have g57 := vat_some h56
   obtain ⟨⟨r58v, r58h⟩, r58g, r58e, r58m, r58l⟩ := vmap_get hm_a0_2 g57.2.2
   obtain rfl : x55 = r58v := r58e.symm
   have r58q : Rd w0 _ _ r58h x55 := ha_a0_2 _ r58m
   refine Lst.rG hb54 (Ev.indexAddr (off' := 3 + (i11 : Int).toNat * 1) rfl rfl Try.runUnderlying69 Try.sizeOf36 g57.1 g57.2.1 rfl) ?_
   refine Lst.rG hb54 (Ev.load (i := 0) rfl rfl Try.isAgg36 (v := Sl.v r58h) ((FlushR.get_Told (p := (FlushR.mk a0 rs_a0_2)) (Get.vecN (s := 1) rfl r58g (Get.here _))).off (by omega))) ?_
   refine Lst.rG hb54 (Ev.move rfl) ?_
   obtain ⟨r59, h60, H⟩ := bind_some H
   refine Lst.call1G rfl rfl rfl hb54 rfl (by decide) (vs := [Sl.v r58h, iv (i18 : Int)]) ⟨rfl, rfl, trivial⟩ Try.call50 (slices_Contains_int_int_sim h60 w0 _ M _ (sc4 (sc1 hM)) (r58q.mono (FLe.trans (FLe.trans hF17 hF24) hF28) (.refl _))) ?_
   refine Lst.rG hb54 (Ev.not rfl) ?_
   refine Lst.r (Ev.pickT rfl hb54 rfl) ?_
   refine Lst.nil ?_
   exact At.meet (!r59) (FLe.refl _) ⟨rfl, rfl, rfl, rfl, rfl, rfl, rfl, rfl, rfl, trivial⟩ rfl (some_inj H)
  rintro F63 y53 hF64 hy
  subst hy
  refine Lst.as (e' := [(1, pv b1 0), (2, pv b5 0), (3, pv b9 0), (4, .func (.func 136) #[] #[pv b1 0]), (5, iv (i11 : Int)), (6, iv (i18 : Int)), (11, iv (i11 : Int)), (14, iv (i18 : Int)), (49, .bool y53)]) (L' := (.blk b1 (enc (FlushR.mk a0 rs_a0_2)) 71) :: (.rows (α := Int) 3 rs19.toList) :: (.blk b9 (enc rs19) 69) :: (.blk b5 (enc (Vector.replicate 6 ⟨[], Sl.nil⟩ : Vector (LR Int) 6)) 69) :: (.rows (α := Int) 3 ((Vector.replicate 6 ⟨[], Sl.nil⟩ : Vector (LR Int) 6).toList)) :: L) ⟨rfl, rfl, rfl, rfl, rfl, rfl, rfl, rfl, rfl, trivial⟩ rfl ?_
  replace H := HKo52
  refine Lst.nil ?_
  refine At.then ?_
  rcases (Bool.eq_false_or_eq_true y53).symm with hb65 | hb65
  ·replace H := ite_f hb65 H
   refine Cd.condF rfl hb65 ?_
   refine Cd.skip ?_
   refine At.in_normal ?_
   refine At.then ?_
   refine Cd.region ?_
   refine Lst.r (Ev.incr (by omega) rfl rfl) ?_
   refine Lst.r (Ev.move rfl) ?_
   refine Lst.nil ?_
   refine At.front (i := 4) rfl rfl ?_
   refine At.front (i := 4) rfl rfl ?_
   refine At.front (i := 4) rfl (L' := (.blk b9 (enc rs19) 69) :: (.blk b5 (enc (Vector.replicate 6 ⟨[], Sl.nil⟩ : Vector (LR Int) 6)) 69) :: (.rows (α := Int) 3 ((Vector.replicate 6 ⟨[], Sl.nil⟩ : Vector (LR Int) 6).toList)) :: (.blk b1 (enc (FlushR.mk a0 rs_a0_2)) 71) :: (.rows (α := Int) 3 rs19.toList) :: L) rfl ?_
   refine At.front (i := 4) rfl (L' := (.rows (α := Int) 3 rs19.toList) :: (.blk b9 (enc rs19) 69) :: (.blk b5 (enc (Vector.replicate 6 ⟨[], Sl.nil⟩ : Vector (LR Int) 6)) 69) :: (.rows (α := Int) 3 ((Vector.replicate 6 ⟨[], Sl.nil⟩ : Vector (LR Int) 6).toList)) :: (.blk b1 (enc (FlushR.mk a0 rs_a0_2)) 71) :: L) rfl ?_
   exact At.meet (i18 + 1, k18, rs19, l20) (FLe.trans (FLe.trans hF24 hF28) hF64) ⟨rfl, rfl, rfl, rfl, rfl, rfl, rfl, trivial⟩ rfl ⟨⟨hgo18 _ (some_inj H).symm, by omega, fm21⟩, Nat.lt_succ_self _⟩
  replace H := ite_t hb65 H
  refine Cd.condT rfl hb65 ?_
  refine Cd.region ?_
  refine Lst.r (Ev.move rfl) ?_
  refine Lst.r (Ev.move rfl) ?_
  obtain ⟨x66, h67, H⟩ := bind_some H
  have g68 := vat_some h67
  obtain ⟨⟨r69v, r69h⟩, r69g, r69e, r69m, r69l⟩ := vmap_get fm21 g68.2.2
  obtain rfl : x66 = r69v := r69e.symm
  refine Lst.r (Ev.indexAddr (off' := 0 + (i11 : Int).toNat * 1) rfl rfl Try.runUnderlying69 Try.sizeOf36 g68.1 g68.2.1 rfl) ?_
  refine Lst.r (Ev.load (i := 2) rfl rfl Try.isAgg36 (v := Sl.v r69h) ((Get.vecN (s := 1) rfl r69g (Get.here _)).off (by omega))) ?_
  refine Lst.r (Ev.move rfl) ?_
  refine Lst.buildSlice (α := Int) (xs := ([(i18 : Int)] : List Int)) (pv := [(0, iv (i18 : Int))]) rfl rfl (by decide) ⟨rfl, rfl, trivial⟩ (run_buildSlice (α := Int) (z0 := (0 : Int)) (xs := ([(i18 : Int)] : List Int)) Try.runUnderlying36 Try.sizeOf3 Try.zeroValue3 rfl rfl rfl (by decide) rfl (fill_cons (cs := encs (List.replicate 1 (0 : Int))) (cs' := encs ((List.replicate 1 (0 : Int)).set 0 (i18 : Int))) (vs := [iv (i18 : Int)]) rfl rfl rfl ((Put.elemN (s := 1) (i := 0) (x := (0 : Int)) (y := (i18 : Int)) rfl rfl (Put.here (vs := [iv (i18 : Int)]) rfl)).off rfl) fill_nil)) rfl rfl (by decide) (fun s70 _ => ?_)
  refine Lst.front (i := 2) rfl (L' := (.rows (α := Int) 3 rs19.toList) :: (.own s70 3 1 (encs ([(i18 : Int)] : List Int))) :: (.blk b1 (enc (FlushR.mk a0 rs_a0_2)) 71) :: (.blk b9 (enc rs19) 69) :: (.blk b5 (enc (Vector.replicate 6 ⟨[], Sl.nil⟩ : Vector (LR Int) 6)) 69) :: (.rows (α := Int) 3 ((Vector.replicate 6 ⟨[], Sl.nil⟩ : Vector (LR Int) 6).toList)) :: L) rfl ?_
  refine Lst.rowOut (k := (i11 : Int).toNat) r69l rfl ?_
  refine Lst.its (L' := (.own r69h 3 1 (encs x66)) :: (.rows (α := Int) 3 (rs19.toList.set (i11 : Int).toNat ⟨[], Sl.nil⟩)) :: (.own s70 3 1 (encs ([(i18 : Int)] : List Int))) :: (.blk b1 (enc (FlushR.mk a0 rs_a0_2)) 71) :: (.blk b9 (enc rs19) 69) :: (.blk b5 (enc (Vector.replicate 6 ⟨[], Sl.nil⟩ : Vector (LR Int) 6)) 69) :: (.rows (α := Int) 3 ((Vector.replicate 6 ⟨[], Sl.nil⟩ : Vector (LR Int) 6).toList)) :: L) rfl ?_
  obtain ⟨u73, h74, H⟩ := bind_some H
  refine Lst.append (i := 0) (α := Int) (xs := x66) (ys := ([(i18 : Int)] : List Int)) rfl rfl (by decide) rfl rfl Try.runUnderlying36 Try.typeInfo3 rfl rfl rfl rfl rfl rfl (Rd.own (i := 2) rfl rfl rfl) rfl (room_some h74) rfl (fun s75 => ?_)
  refine Lst.its (L' := (.own s75 3 1 (encs (x66 ++ ([(i18 : Int)] : List Int)))) :: (.rows (α := Int) 3 (rs19.toList.set (i11 : Int).toNat ⟨[], Sl.nil⟩)) :: (.own s70 3 1 (encs ([(i18 : Int)] : List Int))) :: (.blk b1 (enc (FlushR.mk a0 rs_a0_2)) 71) :: (.blk b9 (enc rs19) 69) :: (.blk b5 (enc (Vector.replicate 6 ⟨[], Sl.nil⟩ : Vector (LR Int) 6)) 69) :: (.rows (α := Int) 3 ((Vector.replicate 6 ⟨[], Sl.nil⟩ : Vector (LR Int) 6).toList)) :: L) rfl ?_
  obtain ⟨x76, h77, H⟩ := bind_some H
  have g78 := vat_some h77
  obtain ⟨⟨r79v, r79h⟩, r79g, r79e, r79m, r79l⟩ := vmap_get fm21 g78.2.2
  obtain rfl : x76 = r79v := r79e.symm
  refine Lst.r (Ev.indexAddr (off' := 0 + (i11 : Int).toNat * 1) rfl rfl Try.runUnderlying69 Try.sizeOf36 g78.1 g78.2.1 rfl) ?_
  obtain ⟨p80, h81, H⟩ := Let_some H
  have hm82 : (rs19.setIfInBounds (i11 : Int).toNat (LR.mk (x66 ++ ([(i18 : Int)] : List Int)) s75)).toList.map LR.v = p80.toList := (vmap_set fm21 _ _).trans (congrArg Vector.toList h81)
  refine Lst.store (i := 4) rfl rfl rfl rfl rfl Try.sizeOf36 (vs := [Sl.v s75]) rfl rfl rfl (cs' := enc (rs19.setIfInBounds (i11 : Int).toNat (LR.mk (x66 ++ ([(i18 : Int)] : List Int)) s75))) ((Put.vecN (s := 1) (y := (LR.mk (x66 ++ ([(i18 : Int)] : List Int)) s75)) rfl r79g (Put.here (vs := [Sl.v s75]) rfl)).off (by omega)) (L' := (.own s75 3 1 (encs (x66 ++ ([(i18 : Int)] : List Int)))) :: (.rows (α := Int) 3 (rs19.toList.set (i11 : Int).toNat ⟨[], Sl.nil⟩)) :: (.own s70 3 1 (encs ([(i18 : Int)] : List Int))) :: (.blk b1 (enc (FlushR.mk a0 rs_a0_2)) 71) :: (.blk b9 (enc (rs19.setIfInBounds (i11 : Int).toNat (LR.mk (x66 ++ ([(i18 : Int)] : List Int)) s75))) 69) :: (.blk b5 (enc (Vector.replicate 6 ⟨[], Sl.nil⟩ : Vector (LR Int) 6)) 69) :: (.rows (α := Int) 3 ((Vector.replicate 6 ⟨[], Sl.nil⟩ : Vector (LR Int) 6).toList)) :: L) rfl ?_
  refine Lst.rowIn (k := (i11 : Int).toNat) (by rw [List.getElem?_set_self (List.getElem?_eq_some_iff.1 r79l).1]) rfl ?_
  refine Lst.its (L' := (.rows (α := Int) 3 ((rs19.setIfInBounds (i11 : Int).toNat (LR.mk (x66 ++ ([(i18 : Int)] : List Int)) s75)).toList)) :: (.own s70 3 1 (encs ([(i18 : Int)] : List Int))) :: (.blk b1 (enc (FlushR.mk a0 rs_a0_2)) 71) :: (.blk b9 (enc (rs19.setIfInBounds (i11 : Int).toNat (LR.mk (x66 ++ ([(i18 : Int)] : List Int)) s75))) 69) :: (.blk b5 (enc (Vector.replicate 6 ⟨[], Sl.nil⟩ : Vector (LR Int) 6)) 69) :: (.rows (α := Int) 3 ((Vector.replicate 6 ⟨[], Sl.nil⟩ : Vector (LR Int) 6).toList)) :: L) (by rw [List.set_set, Vector.toList_setIfInBounds]) ?_
  refine Lst.nil ?_
  refine At.in_normal ?_
  refine At.then ?_
  refine Cd.region ?_
  refine Lst.r (Ev.incr (by omega) rfl rfl) ?_
  refine Lst.r (Ev.move rfl) ?_
  refine Lst.nil ?_
  refine At.front (i := 5) rfl rfl ?_
  refine At.front (i := 5) rfl rfl ?_
  refine At.front (i := 5) rfl (L' := (.blk b9 (enc (rs19.setIfInBounds (i11 : Int).toNat (LR.mk (x66 ++ ([(i18 : Int)] : List Int)) s75))) 69) :: (.blk b5 (enc (Vector.replicate 6 ⟨[], Sl.nil⟩ : Vector (LR Int) 6)) 69) :: (.rows (α := Int) 3 ((Vector.replicate 6 ⟨[], Sl.nil⟩ : Vector (LR Int) 6).toList)) :: (.rows (α := Int) 3 ((rs19.setIfInBounds (i11 : Int).toNat (LR.mk (x66 ++ ([(i18 : Int)] : List Int)) s75)).toList)) :: (.own s70 3 1 (encs ([(i18 : Int)] : List Int))) :: (.blk b1 (enc (FlushR.mk a0 rs_a0_2)) 71) :: L) rfl ?_
  refine At.front (i := 3) rfl (L' := (.rows (α := Int) 3 ((rs19.setIfInBounds (i11 : Int).toNat (LR.mk (x66 ++ ([(i18 : Int)] : List Int)) s75)).toList)) :: (.blk b9 (enc (rs19.setIfInBounds (i11 : Int).toNat (LR.mk (x66 ++ ([(i18 : Int)] : List Int)) s75))) 69) :: (.blk b5 (enc (Vector.replicate 6 ⟨[], Sl.nil⟩ : Vector (LR Int) 6)) 69) :: (.rows (α := Int) 3 ((Vector.replicate 6 ⟨[], Sl.nil⟩ : Vector (LR Int) 6).toList)) :: (.own s70 3 1 (encs ([(i18 : Int)] : List Int))) :: (.blk b1 (enc (FlushR.mk a0 rs_a0_2)) 71) :: L) rfl ?_
  refine At.less (L' := (.rows (α := Int) 3 ((rs19.setIfInBounds (i11 : Int).toNat (LR.mk (x66 ++ ([(i18 : Int)] : List Int)) s75)).toList)) :: (.blk b9 (enc (rs19.setIfInBounds (i11 : Int).toNat (LR.mk (x66 ++ ([(i18 : Int)] : List Int)) s75))) 69) :: (.blk b5 (enc (Vector.replicate 6 ⟨[], Sl.nil⟩ : Vector (LR Int) 6)) 69) :: (.rows (α := Int) 3 ((Vector.replicate 6 ⟨[], Sl.nil⟩ : Vector (LR Int) 6).toList)) :: (.blk b1 (enc (FlushR.mk a0 rs_a0_2)) 71) :: L) (sk1 (sk1 (sk1 (sk1 (sc1 (sk1 (.refl _))))))) ?_
  exact At.meet (i18 + 1, k18, (rs19.setIfInBounds (i11 : Int).toNat (LR.mk (x66 ++ ([(i18 : Int)] : List Int)) s75)), p80) (FLe.trans (FLe.trans hF24 hF28) hF64) ⟨rfl, rfl, rfl, rfl, rfl, rfl, rfl, trivial⟩ rfl ⟨⟨hgo18 _ (some_inj H).symm, by omega, hm82⟩, Nat.lt_succ_self _⟩
 have hc25 : decide ((i25 : Int) < (6 : Int)) = true := decide_eq_true (by omega)
 obtain ⟨c25, H, hgo25⟩ := rangeF_go H
 unfold partref_Missing_B4 at H
 try dsimp only at H
 refine Cd.seq ?_
 refine Cd.region ?_
 refine Lst.r (Ev.lss rfl rfl) ?_
 refine Lst.nil ?_
 refine At.then ?_
 refine Cd.seq ?_
 refine Cd.condT rfl hc25 ?_
 refine Cd.skip ?_
 refine At.then ?_
 refine Cd.seq ?_
 refine Cd.block ?_
 refine Cd.seq ?_
 refine Cd.region ?_
 refine Lst.r (Ev.move rfl) ?_
 obtain ⟨x29, h30, H⟩ := bind_some H
 have g31 := vat_some h30
 obtain ⟨⟨r32v, r32h⟩, r32g, r32e, r32m, r32l⟩ := vmap_get hm_a0_2 g31.2.2
 obtain rfl : x29 = r32v := r32e.symm
 have r32q : Rd w0 _ _ r32h x29 := ha_a0_2 _ r32m
 refine Lst.r (Ev.index1 rfl rfl Try.runUnderlying69 Try.isAgg36 Try.sizeOf36 g31.1 g31.2.1 rfl ((Get.vecN (s := 1) rfl r32g (Get.here _)).off (by omega))) ?_
 refine Lst.r (Ev.assign rfl) ?_
 refine Lst.r (Ev.assign rfl) ?_
 refine Lst.nil ?_
 refine At.then ?_
 refine Cd.region ?_
 refine Lst.r (Ev.move rfl) ?_
 refine Lst.r (Ev.move rfl) ?_
 rcases Bool.eq_false_or_eq_true y26 with hb33 | hb33
 ·replace H := ite_t hb33 H
  refine Lst.skip rfl rfl rfl hb33 rfl (by decide) ?_
  refine Lst.skip rfl rfl rfl hb33 rfl (by decide) ?_
  refine Lst.skip rfl rfl rfl hb33 rfl (by decide) ?_
  refine Lst.skip rfl rfl rfl hb33 rfl (by decide) ?_
  refine Lst.skipU rfl rfl rfl rfl (by decide) ?_
  refine Lst.skipU rfl rfl rfl rfl (by decide) ?_
  refine Lst.skipU rfl rfl rfl rfl (by decide) ?_
  refine Lst.skip rfl rfl rfl hb33 rfl (by decide) ?_
  refine Lst.r (Ev.pickT rfl hb33 rfl) ?_
  refine Lst.r (Ev.assign rfl) ?_
  refine Lst.nil ?_
  refine At.in_normal ?_
  refine At.then ?_
  refine Cd.as (e' := [(1, pv b1 0), (2, pv b5 0), (3, pv b9 0), (4, .func (.func 136) #[] #[pv b1 0]), (5, iv (i11 : Int)), (6, iv (i18 : Int)), (7, .bool true), (11, iv (i11 : Int)), (14, iv (i18 : Int)), (18, .agg (enc rs_a0_2).toArray), (19, iv (i25 : Int))]) (L' := (.rows (α := Int) 3 rs19.toList) :: (.blk b9 (enc rs19) 69) :: (.blk b5 (enc (Vector.replicate 6 ⟨[], Sl.nil⟩ : Vector (LR Int) 6)) 69) :: (.rows (α := Int) 3 ((Vector.replicate 6 ⟨[], Sl.nil⟩ : Vector (LR Int) 6).toList)) :: (.blk b1 (enc (FlushR.mk a0 rs_a0_2)) 71) :: L) ⟨rfl, rfl, rfl, rfl, rfl, rfl, rfl, rfl, rfl, rfl, rfl, trivial⟩ rfl ?_
  refine Cd.region ?_
  refine Lst.r (Ev.incr (by omega) rfl rfl) ?_
  refine Lst.r (Ev.move rfl) ?_
  refine Lst.nil ?_
  exact At.meet (i25 + 1, k25, true) hF28 ⟨rfl, rfl, rfl, rfl, rfl, rfl, rfl, rfl, rfl, rfl, rfl, trivial⟩ rfl ⟨⟨hgo25 _ (some_inj H).symm, by omega⟩, Nat.lt_succ_self _⟩
 replace H := ite_f hb33 H
 refine Lst.rG hb33 (Ev.move rfl) ?_
 refine Lst.rG hb33 (Ev.move rfl) ?_
 obtain ⟨r34, h35, H⟩ := bind_some H
 refine Lst.front (i := 4) rfl (L' := (.blk b1 (enc (FlushR.mk a0 rs_a0_2)) 71) :: (.rows (α := Int) 3 rs19.toList) :: (.blk b9 (enc rs19) 69) :: (.blk b5 (enc (Vector.replicate 6 ⟨[], Sl.nil⟩ : Vector (LR Int) 6)) 69) :: (.rows (α := Int) 3 ((Vector.replicate 6 ⟨[], Sl.nil⟩ : Vector (LR Int) 6).toList)) :: L) rfl ?_
 refine Lst.callV1G rfl rfl rfl hb33 rfl (by decide) (vs := [iv (i25 : Int)]) (cs := [pv b1 0]) rfl ⟨rfl, trivial⟩ Try.call136 (partref_Missing_1_sim h35 w0 _ M _ (sc4 hM) hm_a0_2 (All.monoLR ha_a0_2 (FLe.trans (FLe.trans hF17 hF24) hF28) (.refl _))) ?_
 refine Lst.rG hb33 (Ev.move rfl) ?_
 obtain ⟨o38, H, HKo38⟩ := bind_some H
 refine Lst.join (σ := Bool) 4 (fun y39 => [(1, pv b1 0), (2, pv b5 0), (3, pv b9 0), (4, .func (.func 136) #[] #[pv b1 0]), (5, iv (i11 : Int)), (6, iv (i18 : Int)), (7, .bool y26), (11, iv (i11 : Int)), (14, iv (i18 : Int)), (18, .agg (enc rs_a0_2).toArray), (19, iv (i25 : Int)), (24, .bool y26), (32, .bool y39)]) (fun y39 => (.blk b1 (enc (FlushR.mk a0 rs_a0_2)) 71) :: (.rows (α := Int) 3 rs19.toList) :: (.blk b9 (enc rs19) 69) :: (.blk b5 (enc (Vector.replicate 6 ⟨[], Sl.nil⟩ : Vector (LR Int) 6)) 69) :: (.rows (α := Int) 3 ((Vector.replicate 6 ⟨[], Sl.nil⟩ : Vector (LR Int) 6).toList)) :: L) (fun _ y39 => y39 = o38) ?_ ?_
 ·rcases (Bool.eq_false_or_eq_true r34).symm with hb40 | hb40
  ·replace H := ite_f hb40 H
   refine Lst.skip rfl rfl rfl hb40 rfl (by decide) ?_
   refine Lst.skip rfl rfl rfl hb40 rfl (by decide) ?_
   refine Lst.skip rfl rfl rfl hb40 rfl (by decide) ?_
   refine Lst.rG hb33 (Ev.pickF rfl hb40 rfl) ?_
   refine Lst.nil ?_
   exact At.meet false (FLe.refl _) ⟨rfl, rfl, rfl, rfl, rfl, rfl, rfl, rfl, rfl, rfl, rfl, rfl, rfl, trivial⟩ rfl (some_inj H)
  replace H := ite_t hb40 H
  refine Lst.rG hb40 (Ev.move rfl) ?_
  refine Lst.rG hb40 (Ev.move rfl) ?_
  obtain ⟨r41, h42, H⟩ := bind_some H
  refine Lst.call1G rfl rfl rfl hb40 rfl (by decide) (vs := [Sl.v r32h, iv (i18 : Int)]) ⟨rfl, rfl, trivial⟩ Try.call50 (slices_Contains_int_int_sim h42 w0 _ M _ (sc4 (sc1 hM)) (r32q.mono (FLe.trans (FLe.trans hF17 hF24) hF28) (.refl _))) ?_
  refine Lst.rG hb33 (Ev.pickT rfl hb40 rfl) ?_
  refine Lst.nil ?_
  exact At.meet r41 (FLe.refl _) ⟨rfl, rfl, rfl, rfl, rfl, rfl, rfl, rfl, rfl, rfl, rfl, rfl, rfl, trivial⟩ rfl (some_inj H)
 rintro F45 y39 hF46 hy
 subst hy
 refine Lst.as (e' := [(1, pv b1 0), (2, pv b5 0), (3, pv b9 0), (4, .func (.func 136) #[] #[pv b1 0]), (5, iv (i11 : Int)), (6, iv (i18 : Int)), (7, .bool y26), (11, iv (i11 : Int)), (14, iv (i18 : Int)), (18, .agg (enc rs_a0_2).toArray), (19, iv (i25 : Int)), (24, .bool y26), (32, .bool y39)]) (L' := (.blk b1 (enc (FlushR.mk a0 rs_a0_2)) 71) :: (.rows (α := Int) 3 rs19.toList) :: (.blk b9 (enc rs19) 69) :: (.blk b5 (enc (Vector.replicate 6 ⟨[], Sl.nil⟩ : Vector (LR Int) 6)) 69) :: (.rows (α := Int) 3 ((Vector.replicate 6 ⟨[], Sl.nil⟩ : Vector (LR Int) 6).toList)) :: L) ⟨rfl, rfl, rfl, rfl, rfl, rfl, rfl, rfl, rfl, rfl, rfl, rfl, rfl, trivial⟩ rfl ?_
 replace H := HKo38
 refine Lst.r (Ev.pickF rfl hb33 rfl) ?_
 refine Lst.r (Ev.assign rfl) ?_
 refine Lst.nil ?_
 refine At.in_normal ?_
 refine At.then ?_
 refine Cd.region ?_
 refine Lst.r (Ev.incr (by omega) rfl rfl) ?_
 refine Lst.r (Ev.move rfl) ?_
 refine Lst.nil ?_
 refine At.front (i := 4) rfl rfl ?_
 refine At.front (i := 4) rfl rfl ?_
 refine At.front (i := 4) rfl (L' := (.blk b9 (enc rs19) 69) :: (.blk b5 (enc (Vector.replicate 6 ⟨[], Sl.nil⟩ : Vector (LR Int) 6)) 69) :: (.rows (α := Int) 3 ((Vector.replicate 6 ⟨[], Sl.nil⟩ : Vector (LR Int) 6).toList)) :: (.blk b1 (enc (FlushR.mk a0 rs_a0_2)) 71) :: (.rows (α := Int) 3 rs19.toList) :: L) rfl ?_
 refine At.front (i := 4) rfl (L' := (.rows (α := Int) 3 rs19.toList) :: (.blk b9 (enc rs19) 69) :: (.blk b5 (enc (Vector.replicate 6 ⟨[], Sl.nil⟩ : Vector (LR Int) 6)) 69) :: (.rows (α := Int) 3 ((Vector.replicate 6 ⟨[], Sl.nil⟩ : Vector (LR Int) 6).toList)) :: (.blk b1 (enc (FlushR.mk a0 rs_a0_2)) 71) :: L) rfl ?_
 exact At.meet (i25 + 1, k25, y39) (FLe.trans hF28 hF46) ⟨rfl, rfl, rfl, rfl, rfl, rfl, rfl, rfl, rfl, rfl, rfl, trivial⟩ rfl ⟨⟨hgo25 _ (some_inj H).symm, by omega⟩, Nat.lt_succ_self _⟩
set_option maxRecDepth 20000 in
theorem slices_Grow_int_int_sim {a1 : Int} {r : (List Int)} (H : slices_Grow_int_int a1 = some r) (w0 : World) (F : Frz) (M L : List Item) (hM : M.Sublist L) : Ok Try.prog w0 137 [Sl.v Sl.nil, iv a1] F (L) (fun _ L' v => ∃ (s1 : Sl), v = Sl.v s1 ∧ L' = (.own s1 3 1 (encs r)) :: L) := by
 unfold slices_Grow_int_int at H
 refine Ok.enter (m := 2) (n := 27) Try.func137 rfl rfl rfl (by decide) ?_
 refine Cd.env (e' := [(0, Sl.v Sl.nil), (1, iv a1)]) rfl ?_
 refine Cd.seq ?_
 refine Cd.region ?_
 refine Lst.addNil 3 1 ?_
 refine Lst.r (Ev.assign rfl) ?_
 refine Lst.nil ?_
 refine At.then ?_
 refine Cd.seq ?_
 refine Cd.seq ?_
 refine Cd.region ?_
 refine Lst.r (Ev.move rfl) ?_
 refine Lst.r (Ev.lss rfl rfl) ?_
 refine Lst.nil ?_
 refine At.then ?_
 rcases Bool.eq_false_or_eq_true (decide (a1 < (0 : Int))) with hb2 | hb2
 ·replace H := ite_t hb2 H
  cases H
 replace H := ite_f hb2 H
 refine Cd.condF rfl hb2 ?_
 refine Cd.skip ?_
 refine At.then ?_
 obtain ⟨o6, H, HKo6⟩ := bind_some H
 refine Cd.join (σ := Sl × (List Int)) (fun (s3, l4) => [(0, Sl.v s3)]) (fun (s3, l4) => (.own s3 3 1 (encs l4)) :: (.own Sl.nil 3 1 (encs ([] : List Int))) :: L) (fun _ (s3, l4) => l4 = o6) ?_ ?_
 ·refine Cd.seq ?_
  refine Cd.region ?_
  refine Lst.r (Ev.move rfl) ?_
  refine Lst.r (Ev.move rfl) ?_
  refine Lst.r (Ev.capNil rfl rfl Try.runUnderlying36) ?_
  refine Lst.r (Ev.move rfl) ?_
  refine Lst.r (Ev.lenNil rfl rfl Try.runUnderlying36) ?_
  refine Lst.r (Ev.sub rfl rfl) ?_
  refine Lst.r (Ev.sub rfl rfl) ?_
  refine Lst.r (Ev.assign rfl) ?_
  refine Lst.nil ?_
  refine At.then ?_
  refine Cd.seq ?_
  refine Cd.region ?_
  refine Lst.r (Ev.move rfl) ?_
  refine Lst.r (Ev.gtr rfl rfl) ?_
  refine Lst.nil ?_
  refine At.then ?_
  rcases (Bool.eq_false_or_eq_true (decide ((w64 (a1 - (w64 ((0 : Int) - (0 : Int))))) > (0 : Int)))).symm with hb7 | hb7
  ·replace H := ite_f hb7 H
   refine Cd.condF rfl hb7 ?_
   refine Cd.skip ?_
   refine At.addNil 3 1 ?_
   exact At.meet (Sl.nil, ([] : List Int)) (FLe.refl _) ⟨rfl, trivial⟩ rfl (some_inj H)
  replace H := ite_t hb7 H
  refine Cd.condT rfl hb7 ?_
  refine Cd.region ?_
  refine Lst.r (Ev.move rfl) ?_
  refine Lst.r (Ev.move rfl) ?_
  refine Lst.r (Ev.capNil rfl rfl Try.runUnderlying36) ?_
  refine Lst.r (Ev.cutNil rfl rfl Try.runUnderlying36 Try.sizeOf3) ?_
  refine Lst.r (Ev.move rfl) ?_
  obtain ⟨n10, h11, H⟩ := bind_some H
  have g12 := mkLen_some h11
  refine Lst.addNil 3 1 ?_
  refine Lst.appendZeros (α := Int) (i := 0) (k := n10) (0 : Int) rfl rfl (by decide) rfl (congrArg some (congrArg (Value.int .i64) g12.1)) Try.runUnderlying36 Try.runUnderlying3 Try.typeInfo3 rfl rfl rfl rfl rfl g12.2 rfl rfl (fun s13 => ?_)
  refine Lst.its (L' := (.own s13 3 1 (encs (List.replicate n10 (0 : Int)))) :: (.own Sl.nil 3 1 (encs ([] : List Int))) :: L) rfl ?_
  refine Lst.r (Ev.move rfl) ?_
  refine Lst.r (Ev.lenNil rfl rfl Try.runUnderlying36) ?_
  obtain ⟨m14, h15, H⟩ := bind_some H
  obtain ⟨g16, gl17⟩ := cutL_some h15
  try dsimp only at g16
  refine Lst.r (Ev.cut (α := Int) (xs := (List.replicate n10 (0 : Int))) (i := 0) (j := (0 : Int)) rfl rfl rfl Try.runUnderlying36 Try.sizeOf3 rfl (by decide) (Rd.own (i := 0) rfl rfl rfl) g16.1 g16.2.1 g16.2.2) ?_
  refine Lst.cutOwn (i := 0) (α := Int) (lo := (0 : Int).toNat) (hi := ((0 : Int) : Int).toNat) rfl rfl rfl (by decide) (by omega) (by omega) (L' := (.own (s13.cut (0 : Int).toNat ((0 : Int) : Int).toNat 1) 3 1 (encs m14)) :: (.own Sl.nil 3 1 (encs ([] : List Int))) :: L) (by subst gl17; rfl) ?_
  refine Lst.r (Ev.assign rfl) ?_
  refine Lst.nil ?_
  exact At.meet ((s13.cut (0 : Int).toNat ((0 : Int) : Int).toNat 1), m14) (FLe.refl _) ⟨rfl, trivial⟩ rfl (some_inj H)
 rintro F19 ⟨s3, l4⟩ hF20 hy
 subst hy
 refine Cd.as (e' := [(0, Sl.v s3)]) (L' := (.own s3 3 1 (encs l4)) :: (.own Sl.nil 3 1 (encs ([] : List Int))) :: L) ⟨rfl, trivial⟩ rfl ?_
 replace H := HKo6
 refine Cd.seq ?_
 refine Cd.region ?_
 refine Lst.r (Ev.move rfl) ?_
 refine Lst.r (Ev.assign rfl) ?_
 refine Lst.nil ?_
 refine At.then ?_
 obtain rfl := some_inj H
 refine Cd.ret ?_
 exact At.ret1 rfl (Res.tmp rfl) hF20 (sk1 (sc1 (.refl _))) ⟨s3, rfl, rfl⟩
set_option maxRecDepth 20000 in
theorem slices_Concat_int_int_sim {a0 : List (List Int)} {s_a0 : Sl} {rs_a0 : List (LR Int)} {r : (List Int)} (H : slices_Concat_int_int a0 = some r) (w0 : World) (F : Frz) (M L : List Item) (hM : M.Sublist L) (hm_a0 : rs_a0.map LR.v = a0) (hs_a0 : Rd w0 F M s_a0 rs_a0) (ha_a0 : All LR.rel w0 F M rs_a0) : Ok Try.prog w0 51 [Sl.v s_a0] F (L) (fun _ L' v => ∃ (s1 : Sl), v = Sl.v s1 ∧ L' = (.own s1 3 1 (encs r)) :: L) := by
 unfold slices_Concat_int_int at H
 refine Ok.enter (m := 1) (n := 36) Try.func51 rfl rfl rfl (by decide) ?_
 refine Cd.env (e' := [(0, Sl.v s_a0)]) rfl ?_
 refine Cd.seq ?_
 refine Cd.region ?_
 refine Lst.addNil 3 1 ?_
 refine Lst.r (Ev.assign rfl) ?_
 refine Lst.nil ?_
 refine At.then ?_
 refine Cd.seq ?_
 refine Cd.region ?_
 refine Lst.r (Ev.assign rfl) ?_
 refine Lst.nil ?_
 refine At.then ?_
 refine Cd.seq ?_
 refine Cd.seq ?_
 refine Cd.region ?_
 refine Lst.r (Ev.move rfl) ?_
 refine Lst.r (Ev.lenM (map_len hm_a0) (Ev.lenS (α := LR Int) (xs := rs_a0) (by decide) rfl rfl Try.runUnderlying57 (hs_a0.mono (FLe.refl _) (sc1 hM)))) ?_
 refine Lst.r (Ev.move rfl) ?_
 refine Lst.nil ?_
 refine At.then ?_
 refine Cd.block ?_
 refine Cd.bound (Rd.le (α := LR Int) (xs := rs_a0) (by decide) (hs_a0.mono (FLe.refl _) (sc1 hM))) (fun hN32 => ?_)
 rw [map_len hm_a0] at hN32
 obtain ⟨ol3, H, HKl3⟩ := bind_some H
 refine Cd.loop (σ := Nat × Nat × Int) (fun (i3, k3, y4) => [(0, Sl.v s_a0), (3, iv y4), (9, Sl.v s_a0), (10, iv (a0.length : Int)), (11, iv (i3 : Int))]) (fun (i3, k3, y4) => (.own Sl.nil 3 1 (encs ([] : List Int))) :: L) (fun _ => (fun (i3, k3, y4) => rangeF (slices_Concat_int_int_B0 a0) k3 i3 y4 = some ol3 ∧ i3 + k3 = a0.length)) (fun (i3, k3, y4) => k3) (0, a0.length, (0 : Int)) ⟨rfl, rfl, rfl, rfl, rfl, trivial⟩ rfl ⟨H, by omega⟩ ?_
 rintro F5 ⟨i3, k3, y4⟩ hF6 ⟨H, hik3⟩
 refine Cd.as (e' := [(0, Sl.v s_a0), (3, iv y4), (9, Sl.v s_a0), (10, iv (a0.length : Int)), (11, iv (i3 : Int))]) (L' := (.own Sl.nil 3 1 (encs ([] : List Int))) :: L) ⟨rfl, rfl, rfl, rfl, rfl, trivial⟩ rfl ?_
 rcases k3 with _ | k3
 ·have hc3 : decide ((i3 : Int) < (a0.length : Int)) = false := decide_eq_false (by omega)
  replace H := rangeF_end H
  refine Cd.seq ?_
  refine Cd.region ?_
  refine Lst.r (Ev.lss rfl rfl) ?_
  refine Lst.nil ?_
  refine At.then ?_
  refine Cd.seq ?_
  refine Cd.condF rfl hc3 ?_
  refine Cd.exit ?_
  refine At.then_exit ?_
  refine At.then_exit ?_
  refine At.in_exit ?_
  subst H
  replace H := HKl3
  refine At.then ?_
  refine Cd.seq ?_
  refine Cd.region ?_
  refine Lst.r (Ev.move rfl) ?_
  obtain ⟨r12, h13, H⟩ := bind_some H
  refine Lst.call rfl rfl (by decide) (vs := [Sl.v Sl.nil, iv y4]) ⟨rfl, rfl, trivial⟩ Try.call137 (slices_Grow_int_int_sim h13 w0 _ M _ (sc1 hM)) (fun F16 L' v hF17 hv => ?_)
  obtain ⟨s14, rfl, rfl⟩ := hv
  refine Lst.r (Ev.assign rfl) ?_
  refine Lst.nil ?_
  refine At.then ?_
  refine Cd.seq ?_
  refine Cd.seq ?_
  refine Cd.region ?_
  refine Lst.r (Ev.move rfl) ?_
  refine Lst.r (Ev.lenM (map_len hm_a0) (Ev.lenS (α := LR Int) (xs := rs_a0) (by decide) rfl rfl Try.runUnderlying57 (hs_a0.mono (FLe.trans hF6 hF17) (sc2 hM)))) ?_
  refine Lst.r (Ev.move rfl) ?_
  refine Lst.nil ?_
  refine At.then ?_
  refine Cd.block ?_
  refine Cd.bound (Rd.le (α := LR Int) (xs := rs_a0) (by decide) (hs_a0.mono (FLe.trans hF6 hF17) (sc2 hM))) (fun hN31 => ?_)
  rw [map_len hm_a0] at hN31
  obtain ⟨ol19, H, HKl19⟩ := bind_some H
  refine Cd.loop (σ := Nat × Nat × Sl × (List Int)) (fun (i19, k19, s20, l21) => [(6, Sl.v s20), (25, Sl.v s_a0), (26, iv (a0.length : Int)), (27, iv (i19 : Int))]) (fun (i19, k19, s20, l21) => (.own s20 3 1 (encs l21)) :: (.own Sl.nil 3 1 (encs ([] : List Int))) :: L) (fun _ => (fun (i19, k19, s20, l21) => rangeF (slices_Concat_int_int_B2 a0) k19 i19 l21 = some ol19 ∧ i19 + k19 = a0.length)) (fun (i19, k19, s20, l21) => k19) (0, a0.length, s14, r12) ⟨rfl, rfl, rfl, rfl, trivial⟩ rfl ⟨H, by omega⟩ ?_
  rintro F22 ⟨i19, k19, s20, l21⟩ hF23 ⟨H, hik19⟩
  refine Cd.as (e' := [(6, Sl.v s20), (25, Sl.v s_a0), (26, iv (a0.length : Int)), (27, iv (i19 : Int))]) (L' := (.own s20 3 1 (encs l21)) :: (.own Sl.nil 3 1 (encs ([] : List Int))) :: L) ⟨rfl, rfl, rfl, rfl, trivial⟩ rfl ?_
  rcases k19 with _ | k19
  ·have hc19 : decide ((i19 : Int) < (a0.length : Int)) = false := decide_eq_false (by omega)
   replace H := rangeF_end H
   refine Cd.seq ?_
   refine Cd.region ?_
   refine Lst.r (Ev.lss rfl rfl) ?_
   refine Lst.nil ?_
   refine At.then ?_
   refine Cd.seq ?_
   refine Cd.condF rfl hc19 ?_
   refine Cd.exit ?_
   refine At.then_exit ?_
   refine At.then_exit ?_
   refine At.in_exit ?_
   subst H
   replace H := HKl19
   refine At.then ?_
   refine Cd.seq ?_
   refine Cd.region ?_
   refine Lst.r (Ev.move rfl) ?_
   refine Lst.r (Ev.assign rfl) ?_
   refine Lst.nil ?_
   refine At.then ?_
   obtain rfl := some_inj H
   refine Cd.ret ?_
   exact At.ret1 rfl (Res.tmp rfl) (FLe.trans (FLe.trans hF6 hF17) hF23) (sk1 (sc1 (.refl _))) ⟨s20, rfl, rfl⟩
  have hc19 : decide ((i19 : Int) < (a0.length : Int)) = true := decide_eq_true (by omega)
  obtain ⟨c19, H, hgo19⟩ := rangeF_go H
  unfold slices_Concat_int_int_B2 at H
  try dsimp only at H
  refine Cd.seq ?_
  refine Cd.region ?_
  refine Lst.r (Ev.lss rfl rfl) ?_
  refine Lst.nil ?_
  refine At.then ?_
  refine Cd.seq ?_
  refine Cd.condT rfl hc19 ?_
  refine Cd.skip ?_
  refine At.then ?_
  refine Cd.seq ?_
  refine Cd.block ?_
  refine Cd.seq ?_
  refine Cd.region ?_
  obtain ⟨x24, h25, H⟩ := bind_some H
  have g26 := lat_some h25
  obtain ⟨⟨r27v, r27h⟩, r27g, r27e, r27m⟩ := map_get hm_a0 g26.2.2
  obtain rfl : x24 = r27v := r27e.symm
  have r27q : Rd w0 _ _ r27h x24 := ha_a0 _ r27m
  refine Lst.r (Ev.indexS (α := LR Int) (xs := rs_a0) rfl rfl Try.runUnderlying57 Try.sizeOf36 rfl (by decide) (hs_a0.mono (FLe.trans (FLe.trans hF6 hF17) hF23) (sc2 hM)) g26.1 (by have := map_len hm_a0; omega)) ?_
  refine Lst.r (Ev.loadS (α := LR Int) rfl (hs_a0.mono (FLe.trans (FLe.trans hF6 hF17) hF23) (sc2 hM)) Try.isAgg36 (v := Sl.v r27h) ((Get.elemN (s := 1) rfl r27g (Get.here _)).off (by omega))) ?_
  refine Lst.r (Ev.assign rfl) ?_
  refine Lst.nil ?_
  refine At.then ?_
  refine Cd.region ?_
  refine Lst.r (Ev.move rfl) ?_
  refine Lst.r (Ev.move rfl) ?_
  obtain ⟨u28, h29, H⟩ := bind_some H
  refine Lst.append (i := 0) (α := Int) (xs := l21) (ys := x24) rfl rfl (by decide) rfl rfl Try.runUnderlying36 Try.typeInfo3 rfl rfl rfl rfl rfl rfl (r27q.mono (FLe.trans (FLe.trans hF6 hF17) hF23) (sc2 hM)) rfl (room_some h29) rfl (fun s30 => ?_)
  refine Lst.its (L' := (.own s30 3 1 (encs (l21 ++ x24))) :: (.own Sl.nil 3 1 (encs ([] : List Int))) :: L) rfl ?_
  refine Lst.r (Ev.assign rfl) ?_
  refine Lst.nil ?_
  refine At.in_normal ?_
  refine At.then ?_
  refine Cd.region ?_
  refine Lst.r (Ev.incr (by omega) rfl rfl) ?_
  refine Lst.r (Ev.move rfl) ?_
  refine Lst.nil ?_
  exact At.meet (i19 + 1, k19, s30, l21 ++ x24) hF23 ⟨rfl, rfl, rfl, rfl, trivial⟩ rfl ⟨⟨hgo19 _ (some_inj H).symm, by omega⟩, Nat.lt_succ_self _⟩
 have hc3 : decide ((i3 : Int) < (a0.length : Int)) = true := decide_eq_true (by omega)
 obtain ⟨c3, H, hgo3⟩ := rangeF_go H
 unfold slices_Concat_int_int_B0 at H
 try dsimp only at H
 refine Cd.seq ?_
 refine Cd.region ?_
 refine Lst.r (Ev.lss rfl rfl) ?_
 refine Lst.nil ?_
 refine At.then ?_
 refine Cd.seq ?_
 refine Cd.condT rfl hc3 ?_
 refine Cd.skip ?_
 refine At.then ?_
 refine Cd.seq ?_
 refine Cd.block ?_
 refine Cd.seq ?_
 refine Cd.region ?_
 obtain ⟨x7, h8, H⟩ := bind_some H
 have g9 := lat_some h8
 obtain ⟨⟨r10v, r10h⟩, r10g, r10e, r10m⟩ := map_get hm_a0 g9.2.2
 obtain rfl : x7 = r10v := r10e.symm
 have r10q : Rd w0 _ _ r10h x7 := ha_a0 _ r10m
 refine Lst.r (Ev.indexS (α := LR Int) (xs := rs_a0) rfl rfl Try.runUnderlying57 Try.sizeOf36 rfl (by decide) (hs_a0.mono hF6 (sc1 hM)) g9.1 (by have := map_len hm_a0; omega)) ?_
 refine Lst.r (Ev.loadS (α := LR Int) rfl (hs_a0.mono hF6 (sc1 hM)) Try.isAgg36 (v := Sl.v r10h) ((Get.elemN (s := 1) rfl r10g (Get.here _)).off (by omega))) ?_
 refine Lst.r (Ev.assign rfl) ?_
 refine Lst.nil ?_
 refine At.then ?_
 refine Cd.seq ?_
 refine Cd.region ?_
 refine Lst.r (Ev.move rfl) ?_
 refine Lst.r (Ev.move rfl) ?_
 refine Lst.r (Ev.lenS (α := Int) (xs := x7) (by decide) rfl rfl Try.runUnderlying36 (r10q.mono hF6 (sc1 hM))) ?_
 refine Lst.r (Ev.add rfl rfl) ?_
 refine Lst.r (Ev.assign rfl) ?_
 refine Lst.nil ?_
 refine At.then ?_
 refine Cd.seq ?_
 refine Cd.region ?_
 refine Lst.r (Ev.move rfl) ?_
 refine Lst.r (Ev.lss rfl rfl) ?_
 refine Lst.nil ?_
 refine At.then ?_
 rcases Bool.eq_false_or_eq_true (decide ((w64 (y4 + (x7.length : Int))) < (0 : Int))) with hb11 | hb11
 ·replace H := ite_t hb11 H
  cases H
 replace H := ite_f hb11 H
 refine Cd.condF rfl hb11 ?_
 refine Cd.skip ?_
 refine At.in_normal ?_
 refine At.then ?_
 refine Cd.region ?_
 refine Lst.r (Ev.incr (by omega) rfl rfl) ?_
 refine Lst.r (Ev.move rfl) ?_
 refine Lst.nil ?_
 exact At.meet (i3 + 1, k3, w64 (y4 + (x7.length : Int))) hF6 ⟨rfl, rfl, rfl, rfl, rfl, trivial⟩ rfl ⟨⟨hgo3 _ (some_inj H).symm, by omega⟩, Nat.lt_succ_self _⟩
end Go.Proofs.Ytobikknjaomalaa
