/-
  The functions compute their specs; printed by a program.
-/
import Derived.Test.YtobikknjaomalaaEnSp
import Derived.Test.YtobikknjaomalaaGoL
import Derived.Test.YtobikknjaomalaaGoK
import Derived.Test.YtobikknjaomalaaGoI
import Derived.Test.YtobikknjaomalaaGoU
import Derived.Test.YtobikknjaomalaaGoR
import Derived.Test.YtobikknjaomalaaProg
namespace Go.Proofs.Ytobikknjaomalaa
open Go.RowKit Enc
set_option linter.unusedVariables false
set_option linter.unusedSimpArgs false
structure DoorR where
  v : Door
  h4 : Sl
instance : Enc DoorR := ⟨fun p => enc p.v.Clock ++ (enc p.v.Wish ++ (enc p.v.Yes ++ (enc p.v.In ++ (enc p.h4)))), 5, fun p => by simp only [List.length_append, Enc.len]; rfl, fun p => by simp only [List.all_append, Enc.one, Bool.and_self]⟩
theorem DoorR.get_Clock {p : DoorR} {k : Nat} {ch : List Value} (h : Get (enc p.v.Clock) k ch) : Get (enc p) (0 + k) ch := Get.off (Get.left h) (by omega)
theorem DoorR.put_Clock {p : DoorR} {k : Nat} {vs : List Value} {y : Int} (h : Put (enc p.v.Clock) k vs (enc y)) : Put (enc p) (0 + k) vs (enc ({ p with v := { p.v with Clock := y } } : DoorR)) := Put.off (cs' := enc ({ p with v := { p.v with Clock := y } } : DoorR)) (Put.left h) (by omega)
theorem DoorR.get_Wish {p : DoorR} {k : Nat} {ch : List Value} (h : Get (enc p.v.Wish) k ch) : Get (enc p) (1 + k) ch := Get.off (Get.right (m := 1) (Enc.len _) (Get.left h)) (by omega)
theorem DoorR.put_Wish {p : DoorR} {k : Nat} {vs : List Value} {y : Int} (h : Put (enc p.v.Wish) k vs (enc y)) : Put (enc p) (1 + k) vs (enc ({ p with v := { p.v with Wish := y } } : DoorR)) := Put.off (cs' := enc ({ p with v := { p.v with Wish := y } } : DoorR)) (Put.right (m := 1) (Enc.len _) (Put.left h)) (by omega)
theorem DoorR.get_Yes {p : DoorR} {k : Nat} {ch : List Value} (h : Get (enc p.v.Yes) k ch) : Get (enc p) (2 + k) ch := Get.off (Get.right (m := 1) (Enc.len _) (Get.right (m := 1) (Enc.len _) (Get.left h))) (by omega)
theorem DoorR.put_Yes {p : DoorR} {k : Nat} {vs : List Value} {y : BitVec 8} (h : Put (enc p.v.Yes) k vs (enc y)) : Put (enc p) (2 + k) vs (enc ({ p with v := { p.v with Yes := y } } : DoorR)) := Put.off (cs' := enc ({ p with v := { p.v with Yes := y } } : DoorR)) (Put.right (m := 1) (Enc.len _) (Put.right (m := 1) (Enc.len _) (Put.left h))) (by omega)
theorem DoorR.get_In {p : DoorR} {k : Nat} {ch : List Value} (h : Get (enc p.v.In) k ch) : Get (enc p) (3 + k) ch := Get.off (Get.right (m := 1) (Enc.len _) (Get.right (m := 1) (Enc.len _) (Get.right (m := 1) (Enc.len _) (Get.left h)))) (by omega)
theorem DoorR.put_In {p : DoorR} {k : Nat} {vs : List Value} {y : Bool} (h : Put (enc p.v.In) k vs (enc y)) : Put (enc p) (3 + k) vs (enc ({ p with v := { p.v with In := y } } : DoorR)) := Put.off (cs' := enc ({ p with v := { p.v with In := y } } : DoorR)) (Put.right (m := 1) (Enc.len _) (Put.right (m := 1) (Enc.len _) (Put.right (m := 1) (Enc.len _) (Put.left h)))) (by omega)
theorem DoorR.get_Later {p : DoorR} {k : Nat} {ch : List Value} (h : Get (enc p.h4) k ch) : Get (enc p) (4 + k) ch := Get.off (Get.right (m := 1) (Enc.len _) (Get.right (m := 1) (Enc.len _) (Get.right (m := 1) (Enc.len _) (Get.right (m := 1) (Enc.len _) h)))) (by omega)
theorem DoorR.put_Later {p : DoorR} {k : Nat} {vs : List Value} {y : Sl} {l : List Int} (h : Put (enc p.h4) k vs (enc y)) : Put (enc p) (4 + k) vs (enc ({ p with v := { p.v with Later := l }, h4 := y } : DoorR)) := Put.off (cs' := enc ({ p with v := { p.v with Later := l }, h4 := y } : DoorR)) (Put.right (m := 1) (Enc.len _) (Put.right (m := 1) (Enc.len _) (Put.right (m := 1) (Enc.len _) (Put.right (m := 1) (Enc.len _) h)))) (by omega)
def DoorR.rel (w0 : World) (F : Frz) (L : List Item) (x : DoorR) : Prop := Rd w0 F L x.h4 x.v.Later
theorem DoorR.mono {w0 : World} {F F' : Frz} {L L' : List Item} {x : DoorR} (h : DoorR.rel w0 F L x) (hF : FLe F F') (hL : L.Sublist L') : DoorR.rel w0 F' L' x :=
  let h4 := h
  h4.mono hF hL
def DoorR.row (x : DoorR) : LR Int := ⟨x.v.Later, x.h4⟩
theorem DoorR.rowAll {w0 : World} {F : Frz} {L : List Item} {rs : List DoorR} (h : All LR.rel w0 F L (List.map DoorR.row rs)) : All DoorR.rel w0 F L rs := fun x hx => h (DoorR.row x) (List.mem_map_of_mem hx)
theorem All.monoDoor {w0 : World} {F F' : Frz} {L L' : List Item} {rs : List DoorR} (h : All DoorR.rel w0 F L rs) (hF : FLe F F') (hL : L.Sublist L') : All DoorR.rel w0 F' L' rs := fun x hx => DoorR.mono (h x hx) hF hL
structure EnterR where
  v : Enter
  h0 : Sl
  h1 : Sl
instance : Enc EnterR := ⟨fun p => enc p.h0 ++ (enc p.h1), 2, fun p => by simp only [List.length_append, Enc.len]; rfl, fun p => by simp only [List.all_append, Enc.one, Bool.and_self]⟩
theorem EnterR.get_Doors {p : EnterR} {k : Nat} {ch : List Value} (h : Get (enc p.h0) k ch) : Get (enc p) (0 + k) ch := Get.off (Get.left h) (by omega)
theorem EnterR.put_Doors {p : EnterR} {k : Nat} {vs : List Value} {y : Sl} {l : List Door} (h : Put (enc p.h0) k vs (enc y)) : Put (enc p) (0 + k) vs (enc ({ p with v := { p.v with Doors := l }, h0 := y } : EnterR)) := Put.off (cs' := enc ({ p with v := { p.v with Doors := l }, h0 := y } : EnterR)) (Put.left h) (by omega)
theorem EnterR.get_Way {p : EnterR} {k : Nat} {ch : List Value} (h : Get (enc p.h1) k ch) : Get (enc p) (1 + k) ch := Get.off (Get.right (m := 1) (Enc.len _) h) (by omega)
theorem EnterR.put_Way {p : EnterR} {k : Nat} {vs : List Value} {y : Sl} {l : List Word} (h : Put (enc p.h1) k vs (enc y)) : Put (enc p) (1 + k) vs (enc ({ p with v := { p.v with Way := l }, h1 := y } : EnterR)) := Put.off (cs' := enc ({ p with v := { p.v with Way := l }, h1 := y } : EnterR)) (Put.right (m := 1) (Enc.len _) h) (by omega)
def EnterR.rel (w0 : World) (F : Frz) (L : List Item) (x : EnterR) : Prop := (∃ rs : List DoorR, rs.map DoorR.v = x.v.Doors ∧ Rd w0 F L x.h0 rs ∧ All DoorR.rel w0 F L rs) ∧ Rd w0 F L x.h1 x.v.Way
theorem EnterR.mono {w0 : World} {F F' : Frz} {L L' : List Item} {x : EnterR} (h : EnterR.rel w0 F L x) (hF : FLe F F') (hL : L.Sublist L') : EnterR.rel w0 F' L' x :=
  let ⟨h0, h1⟩ := h
  ⟨(let ⟨rs, a, b, c⟩ := h0; ⟨rs, a, b.mono hF hL, All.monoDoor c hF hL⟩), h1.mono hF hL⟩
theorem All.monoEnter {w0 : World} {F F' : Frz} {L L' : List Item} {rs : List EnterR} (h : All EnterR.rel w0 F L rs) (hF : FLe F F') (hL : L.Sublist L') : All EnterR.rel w0 F' L' rs := fun x hx => EnterR.mono (h x hx) hF hL
set_option maxRecDepth 20000 in
theorem eq209 (x y : Word) : ∀ w, (Op.equal 209 (.agg (enc x).toArray) (.agg (enc y).toArray)).run Try.prog w = .ok (decide (x = y)) w :=
  EqT.top (d := 10000) Try.isAgg209 Try.sizeOf209 rfl rfl (EqT.struct Try.isAgg209 Try.sizeOf209 rfl Try.runUnderlying209 (by kernel_rfl) (fun x y w => by
  refine Eq.trans (eqField (p := x.From) (q := y.From) rfl (EqT.int Try.isAgg3 Try.runUnderlying3) rfl ((Word.get_From (Get.here _)).off rfl) ((Word.get_From (Get.here _)).off rfl) (eqField (p := x.To) (q := y.To) rfl (EqT.int Try.isAgg3 Try.runUnderlying3) rfl ((Word.get_To (Get.here _)).off rfl) ((Word.get_To (Get.here _)).off rfl) (eqField (p := x.At) (q := y.At) rfl (EqT.int Try.isAgg3 Try.runUnderlying3) rfl ((Word.get_At (Get.here _)).off rfl) ((Word.get_At (Get.here _)).off rfl) (by rfl)))) ?_
  congr 1
  rw [Bool.eq_iff_iff]; cases x; cases y; simp)) x y
set_option maxRecDepth 20000 in
theorem partref_size_sim {fu : Nat} {a0 : BitVec 16} {r : Int} (H : partref_size fu a0 = some r) (w0 : World) (F : Frz) (M L : List Item) (hM : M.Sublist L) : Ok Try.prog w0 135 [.int .u16 a0.toNat] F (L) (Is (iv r) (L)) := by
 unfold partref_size at H
 refine Ok.enter (m := 1) (n := 14) Try.func135 rfl rfl rfl (by decide) ?_
 refine Cd.env (e' := [(0, .int .u16 a0.toNat)]) rfl ?_
 refine Cd.seq ?_
 refine Cd.region ?_
 refine Lst.r (Ev.assign rfl) ?_
 refine Lst.nil ?_
 refine At.then ?_
 refine Cd.seq ?_
 refine Cd.region ?_
 refine Lst.r (Ev.assign rfl) ?_
 refine Lst.nil ?_
 refine At.then ?_
 refine Cd.seq ?_
 refine Cd.block ?_
 obtain ⟨ol1, H, HKl1⟩ := andThen_some H
 refine Cd.loop (σ := Nat × (BitVec 16) × Int) (fun (k1, y2, y3) => [(0, .int .u16 y2.toNat), (3, iv y3)]) (fun (k1, y2, y3) => L) (fun _ => (fun (k1, y2, y3) => whileM (partref_size_B0) k1 (y2, y3) = some ol1)) (fun (k1, y2, y3) => k1) (fu, a0, (0 : Int)) ⟨rfl, rfl, trivial⟩ rfl H ?_
 rintro F4 ⟨k1, y2, y3⟩ hF5 H
 refine Cd.as (e' := [(0, .int .u16 y2.toNat), (3, iv y3)]) (L' := L) ⟨rfl, rfl, trivial⟩ rfl ?_
 rcases k1 with _ | k1
 ·cases H
 obtain ⟨c1, H, hgo1, hbrk1, hret1⟩ := whileM_go H
 unfold partref_size_B0 at H
 try dsimp only at H
 refine Cd.seq ?_
 refine Cd.seq ?_
 refine Cd.region ?_
 refine Lst.r (Ev.move rfl) ?_
 refine Lst.r (Ev.gtr rfl rfl) ?_
 refine Lst.nil ?_
 refine At.then ?_
 rcases (Bool.eq_false_or_eq_true (decide ((y2.toNat : Int) > ((0 : BitVec 16).toNat : Int)))).symm with hb6 | hb6
 ·replace H := ite_f hb6 H
  refine Cd.condF rfl hb6 ?_
  refine Cd.exit ?_
  refine At.then_exit ?_
  refine At.then_exit ?_
  refine At.in_exit ?_
  have H := hbrk1 _ (some_inj H).symm
  subst H
  replace H := HKl1
  refine At.then ?_
  refine Cd.seq ?_
  refine Cd.region ?_
  refine Lst.r (Ev.move rfl) ?_
  refine Lst.r (Ev.assign rfl) ?_
  refine Lst.nil ?_
  refine At.then ?_
  obtain rfl := some_inj H
  refine Cd.ret ?_
  exact At.ret1 rfl (Res.tmp rfl) hF5 (.refl _) ⟨rfl, rfl⟩
 replace H := ite_t hb6 H
 refine Cd.condT rfl hb6 ?_
 refine Cd.skip ?_
 refine At.then ?_
 refine Cd.seq ?_
 refine Cd.block ?_
 refine Cd.region ?_
 refine Lst.r (Ev.move rfl) ?_
 refine Lst.r (Ev.move rfl) ?_
 refine Lst.r (Ev.remU16 (i := y2) (j := (2 : BitVec 16)) rfl rfl (by decide)) ?_
 refine Lst.r (Ev.convIS (j := ((y2 % (2 : BitVec 16)).toNat : Int)) rfl Try.runUnderlying175 Try.runUnderlying3 (w64_id (by omega) (by omega))) ?_
 refine Lst.r (Ev.add rfl rfl) ?_
 refine Lst.r (Ev.assign rfl) ?_
 refine Lst.nil ?_
 refine At.in_normal ?_
 refine At.then ?_
 refine Cd.region ?_
 refine Lst.r (Ev.move rfl) ?_
 refine Lst.r (Ev.quoU16 (i := y2) (j := (2 : BitVec 16)) rfl rfl (by decide)) ?_
 refine Lst.r (Ev.assign rfl) ?_
 refine Lst.nil ?_
 exact At.meet (k1, y2 / (2 : BitVec 16), w64 (y3 + ((y2 % (2 : BitVec 16)).toNat : Int))) hF5 ⟨rfl, rfl, trivial⟩ rfl ⟨hgo1 _ (some_inj H).symm, Nat.lt_succ_self _⟩
set_option maxRecDepth 20000 in
theorem slices_Index_int_int_sim {a0 : List Int} {a1 : Int} {s_a0 : Sl} {r : Int} (H : slices_Index_int_int a0 a1 = some r) (w0 : World) (F : Frz) (M L : List Item) (hM : M.Sublist L) (hs_a0 : Rd w0 F M s_a0 a0) : Ok Try.prog w0 95 [Sl.v s_a0, iv a1] F (L) (Is (iv r) (L)) := by
 unfold slices_Index_int_int at H
 refine Ok.enter (m := 2) (n := 19) Try.func95 rfl rfl rfl (by decide) ?_
 refine Cd.env (e' := [(0, Sl.v s_a0), (1, iv a1)]) rfl ?_
 refine Cd.seq ?_
 refine Cd.region ?_
 refine Lst.r (Ev.assign rfl) ?_
 refine Lst.nil ?_
 refine At.then ?_
 refine Cd.seq ?_
 refine Cd.seq ?_
 refine Cd.region ?_
 refine Lst.r (Ev.move rfl) ?_
 refine Lst.r (Ev.lenS (α := Int) (xs := a0) (by decide) rfl rfl Try.runUnderlying36 (hs_a0.mono (FLe.refl _) hM)) ?_
 refine Lst.r (Ev.move rfl) ?_
 refine Lst.nil ?_
 refine At.then ?_
 refine Cd.block ?_
 refine Cd.bound (Rd.le (α := Int) (xs := a0) (by decide) (hs_a0.mono (FLe.refl _) hM)) (fun hN8 => ?_)
 obtain ⟨ol1, H, HKl1⟩ := andThen_some H
 refine Cd.loop (σ := Nat × Nat × Unit) (fun (i1, k1, _u) => [(0, Sl.v s_a0), (1, iv a1), (7, iv (a0.length : Int)), (8, iv (i1 : Int))]) (fun (i1, k1, _u) => L) (fun _ => (fun (i1, k1, _u) => rangeM (slices_Index_int_int_B0 a0 a1) k1 i1 () = some ol1 ∧ i1 + k1 = a0.length)) (fun (i1, k1, _u) => k1) (0, a0.length, ()) ⟨rfl, rfl, rfl, rfl, trivial⟩ rfl ⟨H, by omega⟩ ?_
 rintro F2 ⟨i1, k1, _u⟩ hF3 ⟨H, hik1⟩
 refine Cd.as (e' := [(0, Sl.v s_a0), (1, iv a1), (7, iv (a0.length : Int)), (8, iv (i1 : Int))]) (L' := L) ⟨rfl, rfl, rfl, rfl, trivial⟩ rfl ?_
 rcases k1 with _ | k1
 ·have hc1 : decide ((i1 : Int) < (a0.length : Int)) = false := decide_eq_false (by omega)
  replace H := rangeM_end H
  refine Cd.seq ?_
  refine Cd.region ?_
  refine Lst.r (Ev.lss rfl rfl) ?_
  refine Lst.nil ?_
  refine At.then ?_
  refine Cd.seq ?_
  refine Cd.condF rfl hc1 ?_
  refine Cd.exit ?_
  refine At.then_exit ?_
  refine At.then_exit ?_
  refine At.in_exit ?_
  subst H
  replace H := HKl1
  refine At.then ?_
  refine Cd.seq ?_
  refine Cd.region ?_
  refine Lst.r (Ev.assign rfl) ?_
  refine Lst.nil ?_
  refine At.then ?_
  obtain rfl := some_inj H
  refine Cd.ret ?_
  exact At.ret1 rfl (Res.tmp rfl) hF3 (.refl _) ⟨rfl, rfl⟩
 have hc1 : decide ((i1 : Int) < (a0.length : Int)) = true := decide_eq_true (by omega)
 obtain ⟨c1, H, hgo1, hbrk1, hret1⟩ := rangeM_go H
 unfold slices_Index_int_int_B0 at H
 try dsimp only at H
 refine Cd.seq ?_
 refine Cd.region ?_
 refine Lst.r (Ev.lss rfl rfl) ?_
 refine Lst.nil ?_
 refine At.then ?_
 refine Cd.seq ?_
 refine Cd.condT rfl hc1 ?_
 refine Cd.skip ?_
 refine At.then ?_
 refine Cd.seq ?_
 refine Cd.block ?_
 refine Cd.seq ?_
 refine Cd.region ?_
 refine Lst.r (Ev.move rfl) ?_
 refine Lst.r (Ev.assign rfl) ?_
 refine Lst.nil ?_
 refine At.then ?_
 refine Cd.seq ?_
 refine Cd.region ?_
 refine Lst.r (Ev.move rfl) ?_
 refine Lst.r (Ev.move rfl) ?_
 refine Lst.r (Ev.move rfl) ?_
 obtain ⟨x4, h5, H⟩ := bind_some H
 have g6 := lat_some h5
 refine Lst.r (Ev.indexS (α := Int) (xs := a0) rfl rfl Try.runUnderlying36 Try.sizeOf3 rfl (by decide) (hs_a0.mono hF3 hM) g6.1 g6.2.1) ?_
 refine Lst.r (Ev.loadS (α := Int) rfl (hs_a0.mono hF3 hM) Try.isAgg3 (v := iv x4) ((Get.elemN (s := 1) (x := x4) rfl g6.2.2 (Get.here _)).off (by omega))) ?_
 refine Lst.r (Ev.eql rfl rfl) ?_
 refine Lst.nil ?_
 refine At.then ?_
 rcases Bool.eq_false_or_eq_true (a1 == x4) with hb7 | hb7
 ·replace H := ite_t hb7 H
  refine Cd.condT rfl hb7 ?_
  refine Cd.seq ?_
  refine Cd.region ?_
  refine Lst.r (Ev.move rfl) ?_
  refine Lst.r (Ev.assign rfl) ?_
  refine Lst.nil ?_
  refine At.then ?_
  have H := hret1 _ (some_inj H).symm
  subst H
  replace H := HKl1
  obtain rfl := some_inj H
  refine Cd.ret ?_
  refine At.in_ret ?_
  refine At.then_ret ?_
  refine At.then_ret ?_
  refine At.in_ret ?_
  refine At.then_ret ?_
  exact At.ret1 rfl (Res.tmp rfl) hF3 (.refl _) ⟨rfl, rfl⟩
 replace H := ite_f hb7 H
 refine Cd.condF rfl hb7 ?_
 refine Cd.skip ?_
 refine At.in_normal ?_
 refine At.then ?_
 refine Cd.region ?_
 refine Lst.r (Ev.incr (by omega) rfl rfl) ?_
 refine Lst.r (Ev.move rfl) ?_
 refine Lst.nil ?_
 exact At.meet (i1 + 1, k1, ()) hF3 ⟨rfl, rfl, rfl, rfl, trivial⟩ rfl ⟨⟨hgo1 _ (some_inj H).symm, by omega⟩, Nat.lt_succ_self _⟩
set_option maxRecDepth 20000 in
theorem partref_wordsErr_sim {a0 : Int} {a1 : List Word} {a2 : Int} {s_a1 : Sl} {r : Int} (H : partref_wordsErr a0 a1 a2 = some r) (w0 : World) (F : Frz) (M L : List Item) (hM : M.Sublist L) (hs_a1 : Rd w0 F M s_a1 a1) : Ok Try.prog w0 154 [iv a0, Sl.v s_a1, iv a2] F (L) (Is (iv r) (L)) := by
 unfold partref_wordsErr at H
 refine Ok.enter (m := 3) (n := 65) Try.func154 rfl rfl rfl (by decide) ?_
 refine Cd.env (e' := [(0, iv a0), (1, Sl.v s_a1), (2, iv a2)]) rfl ?_
 refine Cd.seq ?_
 refine Cd.region ?_
 refine Lst.r (Ev.assign rfl) ?_
 refine Lst.nil ?_
 refine At.then ?_
 refine Cd.seq ?_
 refine Cd.seq ?_
 refine Cd.region ?_
 refine Lst.r (Ev.move rfl) ?_
 refine Lst.r (Ev.lenS (α := Word) (xs := a1) (by decide) rfl rfl Try.runUnderlying112 (hs_a1.mono (FLe.refl _) hM)) ?_
 refine Lst.r (Ev.gtr rfl rfl) ?_
 refine Lst.nil ?_
 refine At.then ?_
 rcases Bool.eq_false_or_eq_true (decide ((a1.length : Int) > (100 : Int))) with hb1 | hb1
 ·replace H := ite_t hb1 H
  refine Cd.condT rfl hb1 ?_
  refine Cd.seq ?_
  refine Cd.region ?_
  refine Lst.r (Ev.assign rfl) ?_
  refine Lst.nil ?_
  refine At.then ?_
  obtain rfl := some_inj H
  refine Cd.ret ?_
  refine At.then_ret ?_
  exact At.ret1 rfl (Res.tmp rfl) (FLe.refl _) (.refl _) ⟨rfl, rfl⟩
 replace H := ite_f hb1 H
 refine Cd.condF rfl hb1 ?_
 refine Cd.skip ?_
 refine At.then ?_
 refine Cd.seq ?_
 refine Cd.seq ?_
 refine Cd.region ?_
 refine Lst.r (Ev.move rfl) ?_
 refine Lst.r (Ev.lenS (α := Word) (xs := a1) (by decide) rfl rfl Try.runUnderlying112 (hs_a1.mono (FLe.refl _) hM)) ?_
 refine Lst.r (Ev.move rfl) ?_
 refine Lst.nil ?_
 refine At.then ?_
 refine Cd.block ?_
 refine Cd.bound (Rd.le (α := Word) (xs := a1) (by decide) (hs_a1.mono (FLe.refl _) hM)) (fun hN45 => ?_)
 obtain ⟨ol2, H, HKl2⟩ := andThen_some H
 refine Cd.loop (σ := Nat × Nat × Unit) (fun (i2, k2, _u) => [(0, iv a0), (2, iv a2), (12, Sl.v s_a1), (13, iv (a1.length : Int)), (14, iv (i2 : Int))]) (fun (i2, k2, _u) => L) (fun _ => (fun (i2, k2, _u) => rangeM (partref_wordsErr_B0 a0 a1 a2) k2 i2 () = some ol2 ∧ i2 + k2 = a1.length)) (fun (i2, k2, _u) => k2) (0, a1.length, ()) ⟨rfl, rfl, rfl, rfl, rfl, trivial⟩ rfl ⟨H, by omega⟩ ?_
 rintro F3 ⟨i2, k2, _u⟩ hF4 ⟨H, hik2⟩
 refine Cd.as (e' := [(0, iv a0), (2, iv a2), (12, Sl.v s_a1), (13, iv (a1.length : Int)), (14, iv (i2 : Int))]) (L' := L) ⟨rfl, rfl, rfl, rfl, rfl, trivial⟩ rfl ?_
 rcases k2 with _ | k2
 ·have hc2 : decide ((i2 : Int) < (a1.length : Int)) = false := decide_eq_false (by omega)
  replace H := rangeM_end H
  refine Cd.seq ?_
  refine Cd.region ?_
  refine Lst.r (Ev.lss rfl rfl) ?_
  refine Lst.nil ?_
  refine At.then ?_
  refine Cd.seq ?_
  refine Cd.condF rfl hc2 ?_
  refine Cd.exit ?_
  refine At.then_exit ?_
  refine At.then_exit ?_
  refine At.in_exit ?_
  subst H
  replace H := HKl2
  refine At.then ?_
  refine Cd.seq ?_
  refine Cd.region ?_
  refine Lst.r (Ev.assign rfl) ?_
  refine Lst.nil ?_
  refine At.then ?_
  obtain rfl := some_inj H
  refine Cd.ret ?_
  exact At.ret1 rfl (Res.tmp rfl) hF4 (.refl _) ⟨rfl, rfl⟩
 have hc2 : decide ((i2 : Int) < (a1.length : Int)) = true := decide_eq_true (by omega)
 obtain ⟨c2, H, hgo2, hbrk2, hret2⟩ := rangeM_go H
 unfold partref_wordsErr_B0 at H
 try dsimp only at H
 refine Cd.seq ?_
 refine Cd.region ?_
 refine Lst.r (Ev.lss rfl rfl) ?_
 refine Lst.nil ?_
 refine At.then ?_
 refine Cd.seq ?_
 refine Cd.condT rfl hc2 ?_
 refine Cd.skip ?_
 refine At.then ?_
 refine Cd.seq ?_
 refine Cd.block ?_
 refine Cd.seq ?_
 refine Cd.region ?_
 obtain ⟨x5, h6, H⟩ := bind_some H
 have g7 := lat_some h6
 refine Lst.r (Ev.indexS (α := Word) (xs := a1) rfl rfl Try.runUnderlying112 Try.sizeOf209 rfl (by decide) (hs_a1.mono hF4 hM) g7.1 g7.2.1) ?_
 refine Lst.r (Ev.loadSA (α := Word) rfl (hs_a1.mono hF4 hM) Try.isAgg209 Try.sizeOf209 (ch := enc x5) (Enc.len _) (by decide) ((Get.elemN (s := 3) (x := x5) rfl g7.2.2 (Get.here _)).off (by omega))) ?_
 refine Lst.alloc (cs := enc Word.zero) rfl rfl (by decide) Try.zeroValue209 rfl (fun b8 => ?_)
 refine Lst.store (i := 0) rfl rfl rfl rfl rfl Try.sizeOf209 (vs := enc x5) rfl (Enc.len _) (Enc.one _) (cs' := enc x5) (Put.here ((Enc.len _).trans (Enc.len _).symm)) (L' := (.blk b8 (enc x5) 209) :: L) rfl ?_
 refine Lst.nil ?_
 refine At.then ?_
 refine Cd.seq ?_
 refine Cd.seq ?_
 refine Cd.region ?_
 refine Lst.r (Ev.fieldAddr (off' := 0) rfl Try.runUnderlying209 rfl Try.sizeOf3 rfl rfl) ?_
 refine Lst.r (Ev.load (i := 0) rfl rfl Try.isAgg3 (v := iv x5.From) ((Word.get_From (Get.here _)).off (by rfl))) ?_
 refine Lst.r (Ev.fieldAddr (off' := 1) rfl Try.runUnderlying209 rfl Try.sizeOf3 rfl rfl) ?_
 refine Lst.r (Ev.load (i := 0) rfl rfl Try.isAgg3 (v := iv x5.To) ((Word.get_To (Get.here _)).off (by rfl))) ?_
 refine Lst.r (Ev.min2 rfl rfl) ?_
 refine Lst.r (Ev.lss rfl rfl) ?_
 refine Lst.r (Ev.move rfl) ?_
 obtain ⟨o10, H, HKo10⟩ := bind_some H
 refine Lst.join (σ := Bool) 8 (fun y11 => [(0, iv a0), (2, iv a2), (8, pv b8 0), (12, Sl.v s_a1), (13, iv (a1.length : Int)), (14, iv (i2 : Int)), (32, .bool y11)]) (fun y11 => (.blk b8 (enc x5) 209) :: L) (fun _ y11 => y11 = o10) ?_ ?_
 ·rcases Bool.eq_false_or_eq_true (decide ((min x5.From x5.To) < (0 : Int))) with hb12 | hb12
  ·replace H := ite_t hb12 H
   refine Lst.skip rfl rfl rfl hb12 rfl (by decide) ?_
   refine Lst.skip rfl rfl rfl hb12 rfl (by decide) ?_
   refine Lst.skip rfl rfl rfl hb12 rfl (by decide) ?_
   refine Lst.skip rfl rfl rfl hb12 rfl (by decide) ?_
   refine Lst.skip rfl rfl rfl hb12 rfl (by decide) ?_
   refine Lst.skip rfl rfl rfl hb12 rfl (by decide) ?_
   refine Lst.skip rfl rfl rfl hb12 rfl (by decide) ?_
   refine Lst.r (Ev.pickT rfl hb12 rfl) ?_
   refine Lst.nil ?_
   exact At.meet true (FLe.refl _) ⟨rfl, rfl, rfl, rfl, rfl, rfl, rfl, trivial⟩ rfl (some_inj H)
  replace H := ite_f hb12 H
  refine Lst.rG hb12 (Ev.fieldAddr (off' := 0) rfl Try.runUnderlying209 rfl Try.sizeOf3 rfl rfl) ?_
  refine Lst.rG hb12 (Ev.load (i := 0) rfl rfl Try.isAgg3 (v := iv x5.From) ((Word.get_From (Get.here _)).off (by rfl))) ?_
  refine Lst.rG hb12 (Ev.fieldAddr (off' := 1) rfl Try.runUnderlying209 rfl Try.sizeOf3 rfl rfl) ?_
  refine Lst.rG hb12 (Ev.load (i := 0) rfl rfl Try.isAgg3 (v := iv x5.To) ((Word.get_To (Get.here _)).off (by rfl))) ?_
  refine Lst.rG hb12 (Ev.max2 rfl rfl) ?_
  refine Lst.rG hb12 (Ev.move rfl) ?_
  refine Lst.rG hb12 (Ev.geq rfl rfl) ?_
  refine Lst.r (Ev.pickF rfl hb12 rfl) ?_
  refine Lst.nil ?_
  exact At.meet (decide ((max x5.From x5.To) ≥ a0)) (FLe.refl _) ⟨rfl, rfl, rfl, rfl, rfl, rfl, rfl, trivial⟩ rfl (some_inj H)
 rintro F13 y11 hF14 hy
 subst hy
 refine Lst.as (e' := [(0, iv a0), (2, iv a2), (8, pv b8 0), (12, Sl.v s_a1), (13, iv (a1.length : Int)), (14, iv (i2 : Int)), (32, .bool y11)]) (L' := (.blk b8 (enc x5) 209) :: L) ⟨rfl, rfl, rfl, rfl, rfl, rfl, rfl, trivial⟩ rfl ?_
 replace H := HKo10
 refine Lst.r (Ev.move rfl) ?_
 rcases Bool.eq_false_or_eq_true y11 with hb15 | hb15
 ·replace H := ite_t hb15 H
  refine Lst.skip rfl rfl rfl hb15 rfl (by decide) ?_
  refine Lst.skip rfl rfl rfl hb15 rfl (by decide) ?_
  refine Lst.skip rfl rfl rfl hb15 rfl (by decide) ?_
  refine Lst.skipU rfl rfl rfl rfl (by decide) ?_
  refine Lst.skipU rfl rfl rfl rfl (by decide) ?_
  refine Lst.skipU rfl rfl rfl rfl (by decide) ?_
  refine Lst.skipU rfl rfl rfl rfl (by decide) ?_
  refine Lst.skipU rfl rfl rfl rfl (by decide) ?_
  refine Lst.skipU rfl rfl rfl rfl (by decide) ?_
  refine Lst.skipU rfl rfl rfl rfl (by decide) ?_
  refine Lst.skipU rfl rfl rfl rfl (by decide) ?_
  refine Lst.skipU rfl rfl rfl rfl (by decide) ?_
  refine Lst.skip rfl rfl rfl hb15 rfl (by decide) ?_
  refine Lst.r (Ev.pickT rfl hb15 rfl) ?_
  refine Lst.nil ?_
  refine At.then ?_
  refine Cd.condT rfl rfl ?_
  refine Cd.seq ?_
  refine Cd.as (e' := []) (L' := (.blk b8 (enc x5) 209) :: L) trivial rfl ?_
  refine Cd.region ?_
  refine Lst.r (Ev.assign rfl) ?_
  refine Lst.nil ?_
  refine At.then ?_
  have H := hret2 _ (some_inj H).symm
  subst H
  replace H := HKl2
  obtain rfl := some_inj H
  refine Cd.ret ?_
  refine At.then_ret ?_
  refine At.in_ret ?_
  refine At.then_ret ?_
  refine At.then_ret ?_
  refine At.in_ret ?_
  refine At.then_ret ?_
  exact At.ret1 rfl (Res.tmp rfl) (FLe.trans hF4 hF14) (sc1 (.refl _)) ⟨rfl, rfl⟩
 replace H := ite_f hb15 H
 refine Lst.rG hb15 (Ev.move rfl) ?_
 refine Lst.rG hb15 (Ev.gtr rfl rfl) ?_
 refine Lst.rG hb15 (Ev.move rfl) ?_
 rcases (Bool.eq_false_or_eq_true (decide (a2 > (1 : Int)))).symm with hb16 | hb16
 ·replace H := ite_f hb16 H
  refine Lst.skip rfl rfl rfl hb16 rfl (by decide) ?_
  refine Lst.skip rfl rfl rfl hb16 rfl (by decide) ?_
  refine Lst.skip rfl rfl rfl hb16 rfl (by decide) ?_
  refine Lst.skip rfl rfl rfl hb16 rfl (by decide) ?_
  refine Lst.skipU rfl rfl rfl rfl (by decide) ?_
  refine Lst.skipU rfl rfl rfl rfl (by decide) ?_
  refine Lst.skipU rfl rfl rfl rfl (by decide) ?_
  refine Lst.skipU rfl rfl rfl rfl (by decide) ?_
  refine Lst.skip rfl rfl rfl hb16 rfl (by decide) ?_
  refine Lst.rG hb15 (Ev.pickF rfl hb16 rfl) ?_
  refine Lst.r (Ev.pickF rfl hb15 rfl) ?_
  refine Lst.nil ?_
  refine At.then ?_
  refine Cd.condF rfl rfl ?_
  refine Cd.skip ?_
  refine At.then ?_
  refine Cd.seq ?_
  refine Cd.as (e' := [(0, iv a0), (2, iv a2), (8, pv b8 0), (12, Sl.v s_a1), (13, iv (a1.length : Int)), (14, iv (i2 : Int))]) (L' := (.blk b8 (enc x5) 209) :: L) ⟨rfl, rfl, rfl, rfl, rfl, rfl, trivial⟩ rfl ?_
  refine Cd.region ?_
  refine Lst.r (Ev.fieldAddr (off' := 0) rfl Try.runUnderlying209 rfl Try.sizeOf3 rfl rfl) ?_
  refine Lst.r (Ev.load (i := 0) rfl rfl Try.isAgg3 (v := iv x5.From) ((Word.get_From (Get.here _)).off (by rfl))) ?_
  refine Lst.r (Ev.fieldAddr (off' := 1) rfl Try.runUnderlying209 rfl Try.sizeOf3 rfl rfl) ?_
  refine Lst.r (Ev.load (i := 0) rfl rfl Try.isAgg3 (v := iv x5.To) ((Word.get_To (Get.here _)).off (by rfl))) ?_
  refine Lst.r (Ev.eql rfl rfl) ?_
  refine Lst.r (Ev.move rfl) ?_
  obtain ⟨o17, H, HKo17⟩ := bind_some H
  refine Lst.join (σ := Bool) 4 (fun y18 => [(0, iv a0), (2, iv a2), (8, pv b8 0), (12, Sl.v s_a1), (13, iv (a1.length : Int)), (14, iv (i2 : Int)), (57, .bool y18)]) (fun y18 => (.blk b8 (enc x5) 209) :: L) (fun _ y18 => y18 = o17) ?_ ?_
  ·rcases Bool.eq_false_or_eq_true (x5.From == x5.To) with hb19 | hb19
   ·replace H := ite_t hb19 H
    refine Lst.skip rfl rfl rfl hb19 rfl (by decide) ?_
    refine Lst.skip rfl rfl rfl hb19 rfl (by decide) ?_
    refine Lst.skip rfl rfl rfl hb19 rfl (by decide) ?_
    refine Lst.r (Ev.pickT rfl hb19 rfl) ?_
    refine Lst.nil ?_
    exact At.meet true (FLe.refl _) ⟨rfl, rfl, rfl, rfl, rfl, rfl, rfl, trivial⟩ rfl (some_inj H)
   replace H := ite_f hb19 H
   refine Lst.rG hb19 (Ev.fieldAddr (off' := 2) rfl Try.runUnderlying209 rfl Try.sizeOf3 rfl rfl) ?_
   refine Lst.rG hb19 (Ev.load (i := 0) rfl rfl Try.isAgg3 (v := iv x5.At) ((Word.get_At (Get.here _)).off (by rfl))) ?_
   refine Lst.rG hb19 (Ev.lss rfl rfl) ?_
   refine Lst.r (Ev.pickF rfl hb19 rfl) ?_
   refine Lst.nil ?_
   exact At.meet (decide (x5.At < (0 : Int))) (FLe.refl _) ⟨rfl, rfl, rfl, rfl, rfl, rfl, rfl, trivial⟩ rfl (some_inj H)
  rintro F20 y18 hF21 hy
  subst hy
  refine Lst.as (e' := [(0, iv a0), (2, iv a2), (8, pv b8 0), (12, Sl.v s_a1), (13, iv (a1.length : Int)), (14, iv (i2 : Int)), (57, .bool y18)]) (L' := (.blk b8 (enc x5) 209) :: L) ⟨rfl, rfl, rfl, rfl, rfl, rfl, rfl, trivial⟩ rfl ?_
  replace H := HKo17
  refine Lst.r (Ev.move rfl) ?_
  obtain ⟨o22, H, HKo22⟩ := bind_some H
  refine Lst.join (σ := Bool) 5 (fun y23 => [(0, iv a0), (2, iv a2), (12, Sl.v s_a1), (13, iv (a1.length : Int)), (14, iv (i2 : Int)), (63, .bool y23)]) (fun y23 => (.blk b8 (enc x5) 209) :: L) (fun _ y23 => y23 = o22) ?_ ?_
  ·rcases Bool.eq_false_or_eq_true y18 with hb24 | hb24
   ·replace H := ite_t hb24 H
    refine Lst.skip rfl rfl rfl hb24 rfl (by decide) ?_
    refine Lst.skip rfl rfl rfl hb24 rfl (by decide) ?_
    refine Lst.skip rfl rfl rfl hb24 rfl (by decide) ?_
    refine Lst.skip rfl rfl rfl hb24 rfl (by decide) ?_
    refine Lst.r (Ev.pickT rfl hb24 rfl) ?_
    refine Lst.nil ?_
    exact At.meet true (FLe.refl _) ⟨rfl, rfl, rfl, rfl, rfl, rfl, trivial⟩ rfl (some_inj H)
   replace H := ite_f hb24 H
   refine Lst.rG hb24 (Ev.fieldAddr (off' := 2) rfl Try.runUnderlying209 rfl Try.sizeOf3 rfl rfl) ?_
   refine Lst.rG hb24 (Ev.load (i := 0) rfl rfl Try.isAgg3 (v := iv x5.At) ((Word.get_At (Get.here _)).off (by rfl))) ?_
   refine Lst.rG hb24 (Ev.move rfl) ?_
   refine Lst.rG hb24 (Ev.gtr rfl rfl) ?_
   refine Lst.r (Ev.pickF rfl hb24 rfl) ?_
   refine Lst.nil ?_
   exact At.meet (decide (x5.At > a2)) (FLe.refl _) ⟨rfl, rfl, rfl, rfl, rfl, rfl, trivial⟩ rfl (some_inj H)
  rintro F25 y23 hF26 hy
  subst hy
  refine Lst.as (e' := [(0, iv a0), (2, iv a2), (12, Sl.v s_a1), (13, iv (a1.length : Int)), (14, iv (i2 : Int)), (63, .bool y23)]) (L' := (.blk b8 (enc x5) 209) :: L) ⟨rfl, rfl, rfl, rfl, rfl, rfl, trivial⟩ rfl ?_
  replace H := HKo22
  refine Lst.nil ?_
  refine At.then ?_
  rcases Bool.eq_false_or_eq_true y23 with hb27 | hb27
  ·replace H := ite_t hb27 H
   refine Cd.condT rfl hb27 ?_
   refine Cd.seq ?_
   refine Cd.region ?_
   refine Lst.r (Ev.assign rfl) ?_
   refine Lst.nil ?_
   refine At.then ?_
   have H := hret2 _ (some_inj H).symm
   subst H
   replace H := HKl2
   obtain rfl := some_inj H
   refine Cd.ret ?_
   refine At.in_ret ?_
   refine At.then_ret ?_
   refine At.then_ret ?_
   refine At.in_ret ?_
   refine At.then_ret ?_
   exact At.ret1 rfl (Res.tmp rfl) (FLe.trans (FLe.trans (FLe.trans hF4 hF14) hF21) hF26) (sc1 (.refl _)) ⟨rfl, rfl⟩
  replace H := ite_f hb27 H
  refine Cd.condF rfl hb27 ?_
  refine Cd.skip ?_
  refine At.in_normal ?_
  refine At.then ?_
  refine Cd.region ?_
  refine Lst.r (Ev.incr (by omega) rfl rfl) ?_
  refine Lst.r (Ev.move rfl) ?_
  refine Lst.nil ?_
  refine At.less (L' := L) (sc1 (.refl _)) ?_
  exact At.meet (i2 + 1, k2, ()) (FLe.trans (FLe.trans (FLe.trans hF4 hF14) hF21) hF26) ⟨rfl, rfl, rfl, rfl, rfl, trivial⟩ rfl ⟨⟨hgo2 _ (some_inj H).symm, by omega⟩, Nat.lt_succ_self _⟩
 replace H := ite_t hb16 H
 refine Lst.rG hb16 (Ev.fieldAddr (off' := 2) rfl Try.runUnderlying209 rfl Try.sizeOf3 rfl rfl) ?_
 refine Lst.rG hb16 (Ev.load (i := 0) rfl rfl Try.isAgg3 (v := iv x5.At) ((Word.get_At (Get.here _)).off (by rfl))) ?_
 refine Lst.rG hb16 (Ev.lss rfl rfl) ?_
 refine Lst.rG hb16 (Ev.move rfl) ?_
 obtain ⟨o28, H, HKo28⟩ := bind_some H
 refine Lst.join (σ := Bool) 5 (fun y29 => [(0, iv a0), (2, iv a2), (8, pv b8 0), (12, Sl.v s_a1), (13, iv (a1.length : Int)), (14, iv (i2 : Int)), (33, .bool y11), (36, .bool (decide (a2 > (1 : Int)))), (45, .bool y29)]) (fun y29 => (.blk b8 (enc x5) 209) :: L) (fun _ y29 => y29 = o28) ?_ ?_
 ·rcases Bool.eq_false_or_eq_true (decide (x5.At < (0 : Int))) with hb30 | hb30
  ·replace H := ite_t hb30 H
   refine Lst.skip rfl rfl rfl hb30 rfl (by decide) ?_
   refine Lst.skip rfl rfl rfl hb30 rfl (by decide) ?_
   refine Lst.skip rfl rfl rfl hb30 rfl (by decide) ?_
   refine Lst.skip rfl rfl rfl hb30 rfl (by decide) ?_
   refine Lst.rG hb16 (Ev.pickT rfl hb30 rfl) ?_
   refine Lst.nil ?_
   exact At.meet true (FLe.refl _) ⟨rfl, rfl, rfl, rfl, rfl, rfl, rfl, rfl, rfl, trivial⟩ rfl (some_inj H)
  replace H := ite_f hb30 H
  refine Lst.rG hb30 (Ev.fieldAddr (off' := 2) rfl Try.runUnderlying209 rfl Try.sizeOf3 rfl rfl) ?_
  refine Lst.rG hb30 (Ev.load (i := 0) rfl rfl Try.isAgg3 (v := iv x5.At) ((Word.get_At (Get.here _)).off (by rfl))) ?_
  refine Lst.rG hb30 (Ev.move rfl) ?_
  refine Lst.rG hb30 (Ev.gtr rfl rfl) ?_
  refine Lst.rG hb16 (Ev.pickF rfl hb30 rfl) ?_
  refine Lst.nil ?_
  exact At.meet (decide (x5.At > a2)) (FLe.refl _) ⟨rfl, rfl, rfl, rfl, rfl, rfl, rfl, rfl, rfl, trivial⟩ rfl (some_inj H)
 rintro F31 y29 hF32 hy
 subst hy
 refine Lst.as (e' := [(0, iv a0), (2, iv a2), (8, pv b8 0), (12, Sl.v s_a1), (13, iv (a1.length : Int)), (14, iv (i2 : Int)), (33, .bool y11), (36, .bool (decide (a2 > (1 : Int)))), (45, .bool y29)]) (L' := (.blk b8 (enc x5) 209) :: L) ⟨rfl, rfl, rfl, rfl, rfl, rfl, rfl, rfl, rfl, trivial⟩ rfl ?_
 replace H := HKo28
 refine Lst.rG hb15 (Ev.pickT rfl hb16 rfl) ?_
 refine Lst.r (Ev.pickF rfl hb15 rfl) ?_
 refine Lst.nil ?_
 refine At.then ?_
 rcases Bool.eq_false_or_eq_true y29 with hb33 | hb33
 ·replace H := ite_t hb33 H
  refine Cd.condT rfl hb33 ?_
  refine Cd.seq ?_
  refine Cd.region ?_
  refine Lst.r (Ev.assign rfl) ?_
  refine Lst.nil ?_
  refine At.then ?_
  have H := hret2 _ (some_inj H).symm
  subst H
  replace H := HKl2
  obtain rfl := some_inj H
  refine Cd.ret ?_
  refine At.then_ret ?_
  refine At.in_ret ?_
  refine At.then_ret ?_
  refine At.then_ret ?_
  refine At.in_ret ?_
  refine At.then_ret ?_
  exact At.ret1 rfl (Res.tmp rfl) (FLe.trans (FLe.trans hF4 hF14) hF32) (sc1 (.refl _)) ⟨rfl, rfl⟩
 replace H := ite_f hb33 H
 refine Cd.condF rfl hb33 ?_
 refine Cd.skip ?_
 refine At.then ?_
 refine Cd.seq ?_
 refine Cd.region ?_
 refine Lst.r (Ev.fieldAddr (off' := 0) rfl Try.runUnderlying209 rfl Try.sizeOf3 rfl rfl) ?_
 refine Lst.r (Ev.load (i := 0) rfl rfl Try.isAgg3 (v := iv x5.From) ((Word.get_From (Get.here _)).off (by rfl))) ?_
 refine Lst.r (Ev.fieldAddr (off' := 1) rfl Try.runUnderlying209 rfl Try.sizeOf3 rfl rfl) ?_
 refine Lst.r (Ev.load (i := 0) rfl rfl Try.isAgg3 (v := iv x5.To) ((Word.get_To (Get.here _)).off (by rfl))) ?_
 refine Lst.r (Ev.eql rfl rfl) ?_
 refine Lst.r (Ev.move rfl) ?_
 obtain ⟨o34, H, HKo34⟩ := bind_some H
 refine Lst.join (σ := Bool) 4 (fun y35 => [(0, iv a0), (2, iv a2), (8, pv b8 0), (12, Sl.v s_a1), (13, iv (a1.length : Int)), (14, iv (i2 : Int)), (57, .bool y35)]) (fun y35 => (.blk b8 (enc x5) 209) :: L) (fun _ y35 => y35 = o34) ?_ ?_
 ·rcases Bool.eq_false_or_eq_true (x5.From == x5.To) with hb36 | hb36
  ·replace H := ite_t hb36 H
   refine Lst.skip rfl rfl rfl hb36 rfl (by decide) ?_
   refine Lst.skip rfl rfl rfl hb36 rfl (by decide) ?_
   refine Lst.skip rfl rfl rfl hb36 rfl (by decide) ?_
   refine Lst.r (Ev.pickT rfl hb36 rfl) ?_
   refine Lst.nil ?_
   exact At.meet true (FLe.refl _) ⟨rfl, rfl, rfl, rfl, rfl, rfl, rfl, trivial⟩ rfl (some_inj H)
  replace H := ite_f hb36 H
  refine Lst.rG hb36 (Ev.fieldAddr (off' := 2) rfl Try.runUnderlying209 rfl Try.sizeOf3 rfl rfl) ?_
  refine Lst.rG hb36 (Ev.load (i := 0) rfl rfl Try.isAgg3 (v := iv x5.At) ((Word.get_At (Get.here _)).off (by rfl))) ?_
  refine Lst.rG hb36 (Ev.lss rfl rfl) ?_
  refine Lst.r (Ev.pickF rfl hb36 rfl) ?_
  refine Lst.nil ?_
  exact At.meet (decide (x5.At < (0 : Int))) (FLe.refl _) ⟨rfl, rfl, rfl, rfl, rfl, rfl, rfl, trivial⟩ rfl (some_inj H)
 rintro F37 y35 hF38 hy
 subst hy
 refine Lst.as (e' := [(0, iv a0), (2, iv a2), (8, pv b8 0), (12, Sl.v s_a1), (13, iv (a1.length : Int)), (14, iv (i2 : Int)), (57, .bool y35)]) (L' := (.blk b8 (enc x5) 209) :: L) ⟨rfl, rfl, rfl, rfl, rfl, rfl, rfl, trivial⟩ rfl ?_
 replace H := HKo34
 refine Lst.r (Ev.move rfl) ?_
 obtain ⟨o39, H, HKo39⟩ := bind_some H
 refine Lst.join (σ := Bool) 5 (fun y40 => [(0, iv a0), (2, iv a2), (12, Sl.v s_a1), (13, iv (a1.length : Int)), (14, iv (i2 : Int)), (63, .bool y40)]) (fun y40 => (.blk b8 (enc x5) 209) :: L) (fun _ y40 => y40 = o39) ?_ ?_
 ·rcases Bool.eq_false_or_eq_true y35 with hb41 | hb41
  ·replace H := ite_t hb41 H
   refine Lst.skip rfl rfl rfl hb41 rfl (by decide) ?_
   refine Lst.skip rfl rfl rfl hb41 rfl (by decide) ?_
   refine Lst.skip rfl rfl rfl hb41 rfl (by decide) ?_
   refine Lst.skip rfl rfl rfl hb41 rfl (by decide) ?_
   refine Lst.r (Ev.pickT rfl hb41 rfl) ?_
   refine Lst.nil ?_
   exact At.meet true (FLe.refl _) ⟨rfl, rfl, rfl, rfl, rfl, rfl, trivial⟩ rfl (some_inj H)
  replace H := ite_f hb41 H
  refine Lst.rG hb41 (Ev.fieldAddr (off' := 2) rfl Try.runUnderlying209 rfl Try.sizeOf3 rfl rfl) ?_
  refine Lst.rG hb41 (Ev.load (i := 0) rfl rfl Try.isAgg3 (v := iv x5.At) ((Word.get_At (Get.here _)).off (by rfl))) ?_
  refine Lst.rG hb41 (Ev.move rfl) ?_
  refine Lst.rG hb41 (Ev.gtr rfl rfl) ?_
  refine Lst.r (Ev.pickF rfl hb41 rfl) ?_
  refine Lst.nil ?_
  exact At.meet (decide (x5.At > a2)) (FLe.refl _) ⟨rfl, rfl, rfl, rfl, rfl, rfl, trivial⟩ rfl (some_inj H)
 rintro F42 y40 hF43 hy
 subst hy
 refine Lst.as (e' := [(0, iv a0), (2, iv a2), (12, Sl.v s_a1), (13, iv (a1.length : Int)), (14, iv (i2 : Int)), (63, .bool y40)]) (L' := (.blk b8 (enc x5) 209) :: L) ⟨rfl, rfl, rfl, rfl, rfl, rfl, trivial⟩ rfl ?_
 replace H := HKo39
 refine Lst.nil ?_
 refine At.then ?_
 rcases Bool.eq_false_or_eq_true y40 with hb44 | hb44
 ·replace H := ite_t hb44 H
  refine Cd.condT rfl hb44 ?_
  refine Cd.seq ?_
  refine Cd.region ?_
  refine Lst.r (Ev.assign rfl) ?_
  refine Lst.nil ?_
  refine At.then ?_
  have H := hret2 _ (some_inj H).symm
  subst H
  replace H := HKl2
  obtain rfl := some_inj H
  refine Cd.ret ?_
  refine At.in_ret ?_
  refine At.then_ret ?_
  refine At.then_ret ?_
  refine At.in_ret ?_
  refine At.then_ret ?_
  exact At.ret1 rfl (Res.tmp rfl) (FLe.trans (FLe.trans (FLe.trans (FLe.trans hF4 hF14) hF32) hF38) hF43) (sc1 (.refl _)) ⟨rfl, rfl⟩
 replace H := ite_f hb44 H
 refine Cd.condF rfl hb44 ?_
 refine Cd.skip ?_
 refine At.in_normal ?_
 refine At.then ?_
 refine Cd.region ?_
 refine Lst.r (Ev.incr (by omega) rfl rfl) ?_
 refine Lst.r (Ev.move rfl) ?_
 refine Lst.nil ?_
 refine At.less (L' := L) (sc1 (.refl _)) ?_
 exact At.meet (i2 + 1, k2, ()) (FLe.trans (FLe.trans (FLe.trans (FLe.trans hF4 hF14) hF32) hF38) hF43) ⟨rfl, rfl, rfl, rfl, rfl, trivial⟩ rfl ⟨⟨hgo2 _ (some_inj H).symm, by omega⟩, Nat.lt_succ_self _⟩
set_option maxRecDepth 20000 in
theorem partref_EnterErr_sim {fu : Nat} {a0 : Enter} {s_a0_0 : Sl} {rs_a0_0 : List DoorR} {s_a0_1 : Sl} {r : Int} (H : partref_EnterErr fu a0 = some r) (w0 : World) (F : Frz) (M L : List Item) (hM : M.Sublist L) (hm_a0_0 : rs_a0_0.map DoorR.v = a0.Doors) (hs_a0_0 : Rd w0 F M s_a0_0 rs_a0_0) (ha_a0_0 : All DoorR.rel w0 F M rs_a0_0) (hs_a0_1 : Rd w0 F M s_a0_1 a0.Way) : Ok Try.prog w0 63 [.agg (enc (EnterR.mk a0 s_a0_0 s_a0_1)).toArray] F (L) (Is (iv r) (L)) := by
 unfold partref_EnterErr at H
 refine Ok.enter (m := 1) (n := 132) Try.func63 rfl rfl rfl (by decide) ?_
 refine Cd.env (e' := [(0, .agg (enc (EnterR.mk a0 s_a0_0 s_a0_1)).toArray)]) rfl ?_
 refine Cd.seq ?_
 refine Cd.region ?_
 refine Lst.box rfl rfl (by decide) rfl (cs := enc (EnterR.mk a0 s_a0_0 s_a0_1)) rfl (fun b1 => ?_)
 refine Lst.r (Ev.assign rfl) ?_
 refine Lst.nil ?_
 refine At.then ?_
 refine Cd.seq ?_
 refine Cd.region ?_
 refine Lst.r (Ev.fieldAddr (off' := 0) rfl Try.runUnderlying114 rfl Try.sizeOf111 rfl rfl) ?_
 refine Lst.r (Ev.load (i := 0) rfl rfl Try.isAgg111 (v := Sl.v s_a0_0) ((EnterR.get_Doors (Get.here _)).off (by rfl))) ?_
 refine Lst.r (Ev.lenM (map_len hm_a0_0) (Ev.lenS (α := DoorR) (xs := rs_a0_0) (by decide) rfl rfl Try.runUnderlying111 (hs_a0_0.mono (FLe.refl _) (sc1 hM)))) ?_
 refine Lst.r (Ev.assign rfl) ?_
 refine Lst.nil ?_
 refine At.then ?_
 refine Cd.seq ?_
 refine Cd.seq ?_
 refine Cd.region ?_
 refine Lst.r (Ev.move rfl) ?_
 refine Lst.r (Ev.lss rfl rfl) ?_
 refine Lst.r (Ev.move rfl) ?_
 obtain ⟨o4, H, HKo4⟩ := bind_some H
 refine Lst.join (σ := Bool) 3 (fun y5 => [(1, pv b1 0), (3, iv (a0.Doors.length : Int)), (16, .bool y5)]) (fun y5 => (.blk b1 (enc (EnterR.mk a0 s_a0_0 s_a0_1)) 114) :: L) (fun _ y5 => y5 = o4) ?_ ?_
 ·rcases Bool.eq_false_or_eq_true (decide ((a0.Doors.length : Int) < (1 : Int))) with hb6 | hb6
  ·replace H := ite_t hb6 H
   refine Lst.skip rfl rfl rfl hb6 rfl (by decide) ?_
   refine Lst.skip rfl rfl rfl hb6 rfl (by decide) ?_
   refine Lst.r (Ev.pickT rfl hb6 rfl) ?_
   refine Lst.nil ?_
   exact At.meet true (FLe.refl _) ⟨rfl, rfl, rfl, trivial⟩ rfl (some_inj H)
  replace H := ite_f hb6 H
  refine Lst.rG hb6 (Ev.move rfl) ?_
  refine Lst.rG hb6 (Ev.gtr rfl rfl) ?_
  refine Lst.r (Ev.pickF rfl hb6 rfl) ?_
  refine Lst.nil ?_
  exact At.meet (decide ((a0.Doors.length : Int) > (6 : Int))) (FLe.refl _) ⟨rfl, rfl, rfl, trivial⟩ rfl (some_inj H)
 rintro F7 y5 hF8 hy
 subst hy
 refine Lst.as (e' := [(1, pv b1 0), (3, iv (a0.Doors.length : Int)), (16, .bool y5)]) (L' := (.blk b1 (enc (EnterR.mk a0 s_a0_0 s_a0_1)) 114) :: L) ⟨rfl, rfl, rfl, trivial⟩ rfl ?_
 replace H := HKo4
 refine Lst.nil ?_
 refine At.then ?_
 rcases Bool.eq_false_or_eq_true y5 with hb9 | hb9
 ·replace H := ite_t hb9 H
  refine Cd.condT rfl hb9 ?_
  refine Cd.seq ?_
  refine Cd.region ?_
  refine Lst.r (Ev.assign rfl) ?_
  refine Lst.nil ?_
  refine At.then ?_
  obtain rfl := some_inj H
  refine Cd.ret ?_
  refine At.then_ret ?_
  exact At.ret1 rfl (Res.tmp rfl) hF8 (sc1 (.refl _)) ⟨rfl, rfl⟩
 replace H := ite_f hb9 H
 refine Cd.condF rfl hb9 ?_
 refine Cd.skip ?_
 refine At.then ?_
 refine Cd.seq ?_
 refine Cd.seq ?_
 refine Cd.region ?_
 refine Lst.r (Ev.fieldAddr (off' := 0) rfl Try.runUnderlying114 rfl Try.sizeOf111 rfl rfl) ?_
 refine Lst.r (Ev.load (i := 0) rfl rfl Try.isAgg111 (v := Sl.v s_a0_0) ((EnterR.get_Doors (Get.here _)).off (by rfl))) ?_
 refine Lst.r (Ev.lenM (map_len hm_a0_0) (Ev.lenS (α := DoorR) (xs := rs_a0_0) (by decide) rfl rfl Try.runUnderlying111 (hs_a0_0.mono hF8 (sc1 hM)))) ?_
 refine Lst.r (Ev.move rfl) ?_
 refine Lst.nil ?_
 refine At.then ?_
 refine Cd.block ?_
 refine Cd.bound (Rd.le (α := DoorR) (xs := rs_a0_0) (by decide) (hs_a0_0.mono hF8 (sc1 hM))) (fun hN105 => ?_)
 rw [map_len hm_a0_0] at hN105
 obtain ⟨ol11, H, HKl11⟩ := andThen_some H
 refine Cd.loop (σ := Nat × Nat × Unit) (fun (i11, k11, _u) => [(1, pv b1 0), (3, iv (a0.Doors.length : Int)), (18, Sl.v s_a0_0), (19, iv (a0.Doors.length : Int)), (20, iv (i11 : Int))]) (fun (i11, k11, _u) => (.blk b1 (enc (EnterR.mk a0 s_a0_0 s_a0_1)) 114) :: L) (fun _ => (fun (i11, k11, _u) => rangeM (partref_EnterErr_B0 fu a0) k11 i11 () = some ol11 ∧ i11 + k11 = a0.Doors.length)) (fun (i11, k11, _u) => k11) (0, a0.Doors.length, ()) ⟨rfl, rfl, rfl, rfl, rfl, trivial⟩ rfl ⟨H, by omega⟩ ?_
 rintro F12 ⟨i11, k11, _u⟩ hF13 ⟨H, hik11⟩
 refine Cd.as (e' := [(1, pv b1 0), (3, iv (a0.Doors.length : Int)), (18, Sl.v s_a0_0), (19, iv (a0.Doors.length : Int)), (20, iv (i11 : Int))]) (L' := (.blk b1 (enc (EnterR.mk a0 s_a0_0 s_a0_1)) 114) :: L) ⟨rfl, rfl, rfl, rfl, rfl, trivial⟩ rfl ?_
 rcases k11 with _ | k11
 ·have hc11 : decide ((i11 : Int) < (a0.Doors.length : Int)) = false := decide_eq_false (by omega)
  replace H := rangeM_end H
  refine Cd.seq ?_
  refine Cd.region ?_
  refine Lst.r (Ev.lss rfl rfl) ?_
  refine Lst.nil ?_
  refine At.then ?_
  refine Cd.seq ?_
  refine Cd.condF rfl hc11 ?_
  refine Cd.exit ?_
  refine At.then_exit ?_
  refine At.then_exit ?_
  refine At.in_exit ?_
  subst H
  replace H := HKl11
  refine At.then ?_
  refine Cd.seq ?_
  refine Cd.region ?_
  refine Lst.r (Ev.move rfl) ?_
  refine Lst.r (Ev.fieldAddr (off' := 1) rfl Try.runUnderlying114 rfl Try.sizeOf112 rfl rfl) ?_
  refine Lst.r (Ev.load (i := 0) rfl rfl Try.isAgg112 (v := Sl.v s_a0_1) ((EnterR.get_Way (Get.here _)).off (by rfl))) ?_
  obtain ⟨r101, h102, H⟩ := bind_some H
  refine Lst.call1 rfl rfl (by decide) (vs := [iv (a0.Doors.length : Int), Sl.v s_a0_1, iv (16777215 : Int)]) ⟨rfl, rfl, rfl, trivial⟩ Try.call154 (partref_wordsErr_sim h102 w0 _ M _ (sc1 hM) (hs_a0_1.mono (FLe.trans hF8 hF13) (.refl _))) ?_
  refine Lst.r (Ev.assign rfl) ?_
  refine Lst.nil ?_
  refine At.then ?_
  obtain rfl := some_inj H
  refine Cd.ret ?_
  exact At.ret1 rfl (Res.tmp rfl) (FLe.trans hF8 hF13) (sc1 (.refl _)) ⟨rfl, rfl⟩
 have hc11 : decide ((i11 : Int) < (a0.Doors.length : Int)) = true := decide_eq_true (by omega)
 obtain ⟨c11, H, hgo11, hbrk11, hret11⟩ := rangeM_go H
 unfold partref_EnterErr_B0 at H
 try dsimp only at H
 refine Cd.seq ?_
 refine Cd.region ?_
 refine Lst.r (Ev.lss rfl rfl) ?_
 refine Lst.nil ?_
 refine At.then ?_
 refine Cd.seq ?_
 refine Cd.condT rfl hc11 ?_
 refine Cd.skip ?_
 refine At.then ?_
 refine Cd.seq ?_
 refine Cd.block ?_
 refine Cd.seq ?_
 refine Cd.region ?_
 refine Lst.r (Ev.move rfl) ?_
 obtain ⟨x14, h15, H⟩ := bind_some H
 have g16 := lat_some h15
 obtain ⟨⟨r17v, r17h4⟩, r17g, r17e, r17m⟩ := map_get hm_a0_0 g16.2.2
 obtain rfl : x14 = r17v := r17e.symm
 have r17q : DoorR.rel w0 _ _ (DoorR.mk x14 r17h4) := ha_a0_0 _ r17m
 have r17_f4 : Rd w0 _ _ _ _ := r17q
 refine Lst.r (Ev.indexS (α := DoorR) (xs := rs_a0_0) rfl rfl Try.runUnderlying111 Try.sizeOf204 rfl (by decide) (hs_a0_0.mono (FLe.trans hF8 hF13) (sc1 hM)) g16.1 (by have := map_len hm_a0_0; omega)) ?_
 refine Lst.r (Ev.loadSA (α := DoorR) rfl (hs_a0_0.mono (FLe.trans hF8 hF13) (sc1 hM)) Try.isAgg204 Try.sizeOf204 (ch := enc (DoorR.mk x14 r17h4)) (Enc.len _) (by decide) ((Get.elemN (s := 5) rfl r17g (Get.here _)).off (by omega))) ?_
 refine Lst.addNil 3 1 ?_
 refine Lst.alloc (cs := enc (DoorR.mk ({ Door.zero with Later := ([] : List Int) } : Door) Sl.nil)) rfl rfl (by decide) Try.zeroValue204 rfl (fun b19 => ?_)
 refine Lst.r (Ev.assign rfl) ?_
 refine Lst.store (i := 0) rfl rfl rfl rfl rfl Try.sizeOf204 (vs := enc (DoorR.mk x14 r17h4)) rfl (Enc.len _) (Enc.one _) (cs' := enc (DoorR.mk x14 r17h4)) (Put.here ((Enc.len _).trans (Enc.len _).symm)) (L' := (.blk b19 (enc (DoorR.mk x14 r17h4)) 204) :: (.own Sl.nil 3 1 (encs ([] : List Int))) :: (.blk b1 (enc (EnterR.mk a0 s_a0_0 s_a0_1)) 114) :: L) rfl ?_
 refine Lst.nil ?_
 refine At.then ?_
 refine Cd.seq ?_
 refine Cd.seq ?_
 refine Cd.region ?_
 refine Lst.r (Ev.fieldAddr (off' := 0) rfl Try.runUnderlying204 rfl Try.sizeOf3 rfl rfl) ?_
 refine Lst.r (Ev.load (i := 0) rfl rfl Try.isAgg3 (v := iv x14.Clock) ((DoorR.get_Clock (Get.here _)).off (by rfl))) ?_
 refine Lst.r (Ev.lss rfl rfl) ?_
 refine Lst.r (Ev.move rfl) ?_
 obtain ⟨o21, H, HKo21⟩ := bind_some H
 refine Lst.join (σ := Bool) 4 (fun y22 => [(1, pv b1 0), (3, iv (a0.Doors.length : Int)), (4, iv (i11 : Int)), (5, pv b19 0), (18, Sl.v s_a0_0), (19, iv (a0.Doors.length : Int)), (20, iv (i11 : Int)), (32, .bool y22)]) (fun y22 => (.blk b19 (enc (DoorR.mk x14 r17h4)) 204) :: (.own Sl.nil 3 1 (encs ([] : List Int))) :: (.blk b1 (enc (EnterR.mk a0 s_a0_0 s_a0_1)) 114) :: L) (fun _ y22 => y22 = o21) ?_ ?_
 ·rcases Bool.eq_false_or_eq_true (decide (x14.Clock < (0 : Int))) with hb23 | hb23
  ·replace H := ite_t hb23 H
   refine Lst.skip rfl rfl rfl hb23 rfl (by decide) ?_
   refine Lst.skip rfl rfl rfl hb23 rfl (by decide) ?_
   refine Lst.skip rfl rfl rfl hb23 rfl (by decide) ?_
   refine Lst.r (Ev.pickT rfl hb23 rfl) ?_
   refine Lst.nil ?_
   exact At.meet true (FLe.refl _) ⟨rfl, rfl, rfl, rfl, rfl, rfl, rfl, rfl, trivial⟩ rfl (some_inj H)
  replace H := ite_f hb23 H
  refine Lst.rG hb23 (Ev.fieldAddr (off' := 0) rfl Try.runUnderlying204 rfl Try.sizeOf3 rfl rfl) ?_
  refine Lst.rG hb23 (Ev.load (i := 0) rfl rfl Try.isAgg3 (v := iv x14.Clock) ((DoorR.get_Clock (Get.here _)).off (by rfl))) ?_
  refine Lst.rG hb23 (Ev.gtr rfl rfl) ?_
  refine Lst.r (Ev.pickF rfl hb23 rfl) ?_
  refine Lst.nil ?_
  exact At.meet (decide (x14.Clock > (16777215 : Int))) (FLe.refl _) ⟨rfl, rfl, rfl, rfl, rfl, rfl, rfl, rfl, trivial⟩ rfl (some_inj H)
 rintro F24 y22 hF25 hy
 subst hy
 refine Lst.as (e' := [(1, pv b1 0), (3, iv (a0.Doors.length : Int)), (4, iv (i11 : Int)), (5, pv b19 0), (18, Sl.v s_a0_0), (19, iv (a0.Doors.length : Int)), (20, iv (i11 : Int)), (32, .bool y22)]) (L' := (.blk b19 (enc (DoorR.mk x14 r17h4)) 204) :: (.own Sl.nil 3 1 (encs ([] : List Int))) :: (.blk b1 (enc (EnterR.mk a0 s_a0_0 s_a0_1)) 114) :: L) ⟨rfl, rfl, rfl, rfl, rfl, rfl, rfl, rfl, trivial⟩ rfl ?_
 replace H := HKo21
 refine Lst.r (Ev.move rfl) ?_
 obtain ⟨o26, H, HKo26⟩ := bind_some H
 refine Lst.join (σ := Bool) 4 (fun y27 => [(1, pv b1 0), (3, iv (a0.Doors.length : Int)), (4, iv (i11 : Int)), (5, pv b19 0), (18, Sl.v s_a0_0), (19, iv (a0.Doors.length : Int)), (20, iv (i11 : Int)), (37, .bool y27)]) (fun y27 => (.blk b19 (enc (DoorR.mk x14 r17h4)) 204) :: (.own Sl.nil 3 1 (encs ([] : List Int))) :: (.blk b1 (enc (EnterR.mk a0 s_a0_0 s_a0_1)) 114) :: L) (fun _ y27 => y27 = o26) ?_ ?_
 ·rcases Bool.eq_false_or_eq_true y22 with hb28 | hb28
  ·replace H := ite_t hb28 H
   refine Lst.skip rfl rfl rfl hb28 rfl (by decide) ?_
   refine Lst.skip rfl rfl rfl hb28 rfl (by decide) ?_
   refine Lst.skip rfl rfl rfl hb28 rfl (by decide) ?_
   refine Lst.r (Ev.pickT rfl hb28 rfl) ?_
   refine Lst.nil ?_
   exact At.meet true (FLe.refl _) ⟨rfl, rfl, rfl, rfl, rfl, rfl, rfl, rfl, trivial⟩ rfl (some_inj H)
  replace H := ite_f hb28 H
  refine Lst.rG hb28 (Ev.fieldAddr (off' := 1) rfl Try.runUnderlying204 rfl Try.sizeOf3 rfl rfl) ?_
  refine Lst.rG hb28 (Ev.load (i := 0) rfl rfl Try.isAgg3 (v := iv x14.Wish) ((DoorR.get_Wish (Get.here _)).off (by rfl))) ?_
  refine Lst.rG hb28 (Ev.lss rfl rfl) ?_
  refine Lst.r (Ev.pickF rfl hb28 rfl) ?_
  refine Lst.nil ?_
  exact At.meet (decide (x14.Wish < (0 : Int))) (FLe.refl _) ⟨rfl, rfl, rfl, rfl, rfl, rfl, rfl, rfl, trivial⟩ rfl (some_inj H)
 rintro F29 y27 hF30 hy
 subst hy
 refine Lst.as (e' := [(1, pv b1 0), (3, iv (a0.Doors.length : Int)), (4, iv (i11 : Int)), (5, pv b19 0), (18, Sl.v s_a0_0), (19, iv (a0.Doors.length : Int)), (20, iv (i11 : Int)), (37, .bool y27)]) (L' := (.blk b19 (enc (DoorR.mk x14 r17h4)) 204) :: (.own Sl.nil 3 1 (encs ([] : List Int))) :: (.blk b1 (enc (EnterR.mk a0 s_a0_0 s_a0_1)) 114) :: L) ⟨rfl, rfl, rfl, rfl, rfl, rfl, rfl, rfl, trivial⟩ rfl ?_
 replace H := HKo26
 refine Lst.r (Ev.move rfl) ?_
 obtain ⟨o31, H, HKo31⟩ := bind_some H
 refine Lst.join (σ := Bool) 6 (fun y32 => [(1, pv b1 0), (3, iv (a0.Doors.length : Int)), (4, iv (i11 : Int)), (5, pv b19 0), (18, Sl.v s_a0_0), (19, iv (a0.Doors.length : Int)), (20, iv (i11 : Int)), (44, .bool y32)]) (fun y32 => (.blk b19 (enc (DoorR.mk x14 r17h4)) 204) :: (.own Sl.nil 3 1 (encs ([] : List Int))) :: (.blk b1 (enc (EnterR.mk a0 s_a0_0 s_a0_1)) 114) :: L) (fun _ y32 => y32 = o31) ?_ ?_
 ·rcases Bool.eq_false_or_eq_true y27 with hb33 | hb33
  ·replace H := ite_t hb33 H
   refine Lst.skip rfl rfl rfl hb33 rfl (by decide) ?_
   refine Lst.skip rfl rfl rfl hb33 rfl (by decide) ?_
   refine Lst.skip rfl rfl rfl hb33 rfl (by decide) ?_
   refine Lst.skip rfl rfl rfl hb33 rfl (by decide) ?_
   refine Lst.skip rfl rfl rfl hb33 rfl (by decide) ?_
   refine Lst.r (Ev.pickT rfl hb33 rfl) ?_
   refine Lst.nil ?_
   exact At.meet true (FLe.refl _) ⟨rfl, rfl, rfl, rfl, rfl, rfl, rfl, rfl, trivial⟩ rfl (some_inj H)
  replace H := ite_f hb33 H
  refine Lst.rG hb33 (Ev.fieldAddr (off' := 1) rfl Try.runUnderlying204 rfl Try.sizeOf3 rfl rfl) ?_
  refine Lst.rG hb33 (Ev.load (i := 0) rfl rfl Try.isAgg3 (v := iv x14.Wish) ((DoorR.get_Wish (Get.here _)).off (by rfl))) ?_
  refine Lst.rG hb33 (Ev.fieldAddr (off' := 0) rfl Try.runUnderlying204 rfl Try.sizeOf3 rfl rfl) ?_
  refine Lst.rG hb33 (Ev.load (i := 0) rfl rfl Try.isAgg3 (v := iv x14.Clock) ((DoorR.get_Clock (Get.here _)).off (by rfl))) ?_
  refine Lst.rG hb33 (Ev.gtr rfl rfl) ?_
  refine Lst.r (Ev.pickF rfl hb33 rfl) ?_
  refine Lst.nil ?_
  exact At.meet (decide (x14.Wish > x14.Clock)) (FLe.refl _) ⟨rfl, rfl, rfl, rfl, rfl, rfl, rfl, rfl, trivial⟩ rfl (some_inj H)
 rintro F34 y32 hF35 hy
 subst hy
 refine Lst.as (e' := [(1, pv b1 0), (3, iv (a0.Doors.length : Int)), (4, iv (i11 : Int)), (5, pv b19 0), (18, Sl.v s_a0_0), (19, iv (a0.Doors.length : Int)), (20, iv (i11 : Int)), (44, .bool y32)]) (L' := (.blk b19 (enc (DoorR.mk x14 r17h4)) 204) :: (.own Sl.nil 3 1 (encs ([] : List Int))) :: (.blk b1 (enc (EnterR.mk a0 s_a0_0 s_a0_1)) 114) :: L) ⟨rfl, rfl, rfl, rfl, rfl, rfl, rfl, rfl, trivial⟩ rfl ?_
 replace H := HKo31
 refine Lst.r (Ev.move rfl) ?_
 obtain ⟨o36, H, HKo36⟩ := bind_some H
 refine Lst.join (σ := Bool) 5 (fun y37 => [(1, pv b1 0), (3, iv (a0.Doors.length : Int)), (4, iv (i11 : Int)), (5, pv b19 0), (18, Sl.v s_a0_0), (19, iv (a0.Doors.length : Int)), (20, iv (i11 : Int)), (50, .bool y37)]) (fun y37 => (.blk b19 (enc (DoorR.mk x14 r17h4)) 204) :: (.own Sl.nil 3 1 (encs ([] : List Int))) :: (.blk b1 (enc (EnterR.mk a0 s_a0_0 s_a0_1)) 114) :: L) (fun _ y37 => y37 = o36) ?_ ?_
 ·rcases Bool.eq_false_or_eq_true y32 with hb38 | hb38
  ·replace H := ite_t hb38 H
   refine Lst.skip rfl rfl rfl hb38 rfl (by decide) ?_
   refine Lst.skip rfl rfl rfl hb38 rfl (by decide) ?_
   refine Lst.skip rfl rfl rfl hb38 rfl (by decide) ?_
   refine Lst.skip rfl rfl rfl hb38 rfl (by decide) ?_
   refine Lst.r (Ev.pickT rfl hb38 rfl) ?_
   refine Lst.nil ?_
   exact At.meet true (FLe.refl _) ⟨rfl, rfl, rfl, rfl, rfl, rfl, rfl, rfl, trivial⟩ rfl (some_inj H)
  replace H := ite_f hb38 H
  refine Lst.rG hb38 (Ev.fieldAddr (off' := 4) rfl Try.runUnderlying204 rfl Try.sizeOf36 rfl rfl) ?_
  refine Lst.rG hb38 (Ev.load (i := 0) rfl rfl Try.isAgg36 (v := Sl.v r17h4) ((DoorR.get_Later (Get.here _)).off (by rfl))) ?_
  refine Lst.rG hb38 (Ev.lenS (α := Int) (xs := x14.Later) (by decide) rfl rfl Try.runUnderlying36 (r17_f4.mono (FLe.trans (FLe.trans (FLe.trans (FLe.trans hF8 hF13) hF25) hF30) hF35) (sc2 (sc1 hM)))) ?_
  refine Lst.rG hb38 (Ev.gtr rfl rfl) ?_
  refine Lst.r (Ev.pickF rfl hb38 rfl) ?_
  refine Lst.nil ?_
  exact At.meet (decide ((x14.Later.length : Int) > (6 : Int))) (FLe.refl _) ⟨rfl, rfl, rfl, rfl, rfl, rfl, rfl, rfl, trivial⟩ rfl (some_inj H)
 rintro F39 y37 hF40 hy
 subst hy
 refine Lst.as (e' := [(1, pv b1 0), (3, iv (a0.Doors.length : Int)), (4, iv (i11 : Int)), (5, pv b19 0), (18, Sl.v s_a0_0), (19, iv (a0.Doors.length : Int)), (20, iv (i11 : Int)), (50, .bool y37)]) (L' := (.blk b19 (enc (DoorR.mk x14 r17h4)) 204) :: (.own Sl.nil 3 1 (encs ([] : List Int))) :: (.blk b1 (enc (EnterR.mk a0 s_a0_0 s_a0_1)) 114) :: L) ⟨rfl, rfl, rfl, rfl, rfl, rfl, rfl, rfl, trivial⟩ rfl ?_
 replace H := HKo36
 refine Lst.nil ?_
 refine At.then ?_
 rcases Bool.eq_false_or_eq_true y37 with hb41 | hb41
 ·replace H := ite_t hb41 H
  refine Cd.condT rfl hb41 ?_
  refine Cd.seq ?_
  refine Cd.region ?_
  refine Lst.r (Ev.assign rfl) ?_
  refine Lst.nil ?_
  refine At.then ?_
  have H := hret11 _ (some_inj H).symm
  subst H
  replace H := HKl11
  obtain rfl := some_inj H
  refine Cd.ret ?_
  refine At.then_ret ?_
  refine At.in_ret ?_
  refine At.then_ret ?_
  refine At.then_ret ?_
  refine At.in_ret ?_
  refine At.then_ret ?_
  exact At.ret1 rfl (Res.tmp rfl) (FLe.trans (FLe.trans (FLe.trans (FLe.trans (FLe.trans hF8 hF13) hF25) hF30) hF35) hF40) (sc1 (sc1 (sc1 (.refl _)))) ⟨rfl, rfl⟩
 replace H := ite_f hb41 H
 refine Cd.condF rfl hb41 ?_
 refine Cd.skip ?_
 refine At.then ?_
 refine Cd.seq ?_
 refine Cd.seq ?_
 refine Cd.quiet (by kernel_rfl) (by kernel_rfl) ?_
 refine Qt.r (Ev.fieldAddr (off' := 2) rfl Try.runUnderlying204 rfl Try.sizeOf5 rfl rfl) ?_
 refine Qt.r (Ev.load (i := 0) rfl rfl Try.isAgg5 (v := .int .u8 x14.Yes.toNat) ((DoorR.get_Yes (Get.here _)).off (by rfl))) ?_
 refine Qt.r (Ev.convIS (j := (x14.Yes.toNat : Int)) rfl Try.runUnderlying5 Try.runUnderlying3 (w64_id (by omega) (by omega))) ?_
 refine Qt.r (Ev.move rfl) ?_
 obtain ⟨n42, h43, H⟩ := bind_some H
 refine Qt.r (Ev.shl64 (i := (1 : Int)) (m := n42) rfl (congrArg some (congrArg (Value.int .i64) (cnt_some h43)))) ?_
 refine Qt.r (Ev.geq rfl rfl) ?_
 refine Qt.r (Ev.move rfl) ?_
 obtain ⟨o45, H, HKo45⟩ := bind_some H
 refine Qt.join (σ := Bool) 7 (fun y46 => [(1, pv b1 0), (3, iv (a0.Doors.length : Int)), (4, iv (i11 : Int)), (5, pv b19 0), (18, Sl.v s_a0_0), (19, iv (a0.Doors.length : Int)), (20, iv (i11 : Int)), (64, .bool y46)]) (fun y46 => y46 = o45) ?_ ?_
 ·rcases Bool.eq_false_or_eq_true (decide ((x14.Yes.toNat : Int) ≥ (w64 ((1 : Int) * 2 ^ (min n42 64))))) with hb47 | hb47
  ·replace H := ite_t hb47 H
   refine Qt.skip rfl rfl rfl hb47 rfl (by decide) ?_
   refine Qt.skip rfl rfl rfl hb47 rfl (by decide) ?_
   refine Qt.skip rfl rfl rfl hb47 rfl (by decide) ?_
   refine Qt.skip rfl rfl rfl hb47 rfl (by decide) ?_
   refine Qt.skip rfl rfl rfl hb47 rfl (by decide) ?_
   refine Qt.skip rfl rfl rfl hb47 rfl (by decide) ?_
   refine Qt.r (Ev.pickT rfl hb47 rfl) ?_
   exact Qt.meet true ⟨rfl, rfl, rfl, rfl, rfl, rfl, rfl, rfl, trivial⟩ (some_inj H)
  replace H := ite_f hb47 H
  refine Qt.rG hb47 (Ev.fieldAddr (off' := 2) rfl Try.runUnderlying204 rfl Try.sizeOf5 rfl rfl) ?_
  refine Qt.rG hb47 (Ev.load (i := 0) rfl rfl Try.isAgg5 (v := .int .u8 x14.Yes.toNat) ((DoorR.get_Yes (Get.here _)).off (by rfl))) ?_
  refine Qt.rG hb47 (Ev.move rfl) ?_
  obtain ⟨n48, h49, H⟩ := bind_some H
  refine Qt.rG hb47 (Ev.shrU8 (i := x14.Yes) (m := n48) rfl (congrArg some (congrArg (Value.int .i64) (cnt_some h49)))) ?_
  refine Qt.rG hb47 (Ev.remU8 (i := x14.Yes >>> n48) (j := (2 : BitVec 8)) rfl rfl (by decide)) ?_
  refine Qt.rG hb47 (Ev.eql rfl rfl) ?_
  refine Qt.r (Ev.pickF rfl hb47 rfl) ?_
  exact Qt.meet ((((x14.Yes >>> n48) % (2 : BitVec 8)).toNat : Int) == ((1 : BitVec 8).toNat : Int)) ⟨rfl, rfl, rfl, rfl, rfl, rfl, rfl, rfl, trivial⟩ (some_inj H)
 rintro y46 hy
 subst hy
 refine Qt.as (e' := [(1, pv b1 0), (3, iv (a0.Doors.length : Int)), (4, iv (i11 : Int)), (5, pv b19 0), (18, Sl.v s_a0_0), (19, iv (a0.Doors.length : Int)), (20, iv (i11 : Int)), (64, .bool y46)]) ⟨rfl, rfl, rfl, rfl, rfl, rfl, rfl, rfl, trivial⟩ ?_
 replace H := HKo45
 refine Qt.r (Ev.move rfl) ?_
 obtain ⟨o51, H, HKo51⟩ := bind_some H
 refine Qt.join (σ := Bool) 19 (fun y52 => [(1, pv b1 0), (3, iv (a0.Doors.length : Int)), (4, iv (i11 : Int)), (5, pv b19 0), (18, Sl.v s_a0_0), (19, iv (a0.Doors.length : Int)), (20, iv (i11 : Int)), (84, .bool y52)]) (fun y52 => y52 = o51) ?_ ?_
 ·rcases Bool.eq_false_or_eq_true y46 with hb53 | hb53
  ·replace H := ite_t hb53 H
   refine Qt.skip rfl rfl rfl hb53 rfl (by decide) ?_
   refine Qt.skip rfl rfl rfl hb53 rfl (by decide) ?_
   refine Qt.skip rfl rfl rfl hb53 rfl (by decide) ?_
   refine Qt.skip rfl rfl rfl hb53 rfl (by decide) ?_
   refine Qt.skipU rfl rfl rfl rfl (by decide) ?_
   refine Qt.skipU rfl rfl rfl rfl (by decide) ?_
   refine Qt.skipU rfl rfl rfl rfl (by decide) ?_
   refine Qt.skipU rfl rfl rfl rfl (by decide) ?_
   refine Qt.skipU rfl rfl rfl rfl (by decide) ?_
   refine Qt.skipU rfl rfl rfl rfl (by decide) ?_
   refine Qt.skipU rfl rfl rfl rfl (by decide) ?_
   refine Qt.skipU rfl rfl rfl rfl (by decide) ?_
   refine Qt.skipU rfl rfl rfl rfl (by decide) ?_
   refine Qt.skipU rfl rfl rfl rfl (by decide) ?_
   refine Qt.skipU rfl rfl rfl rfl (by decide) ?_
   refine Qt.skipU rfl rfl rfl rfl (by decide) ?_
   refine Qt.skipU rfl rfl rfl rfl (by decide) ?_
   refine Qt.skip rfl rfl rfl hb53 rfl (by decide) ?_
   refine Qt.r (Ev.pickT rfl hb53 rfl) ?_
   exact Qt.meet true ⟨rfl, rfl, rfl, rfl, rfl, rfl, rfl, rfl, trivial⟩ (some_inj H)
  replace H := ite_f hb53 H
  refine Qt.rG hb53 (Ev.fieldAddr (off' := 1) rfl Try.runUnderlying204 rfl Try.sizeOf3 rfl rfl) ?_
  refine Qt.rG hb53 (Ev.load (i := 0) rfl rfl Try.isAgg3 (v := iv x14.Wish) ((DoorR.get_Wish (Get.here _)).off (by rfl))) ?_
  refine Qt.rG hb53 (Ev.eql rfl rfl) ?_
  refine Qt.rG hb53 (Ev.move rfl) ?_
  obtain ⟨o54, H, HKo54⟩ := bind_some H
  refine Qt.join (σ := Bool) 14 (fun y55 => [(1, pv b1 0), (3, iv (a0.Doors.length : Int)), (4, iv (i11 : Int)), (5, pv b19 0), (18, Sl.v s_a0_0), (19, iv (a0.Doors.length : Int)), (20, iv (i11 : Int)), (65, .bool y46), (83, .bool y55)]) (fun y55 => y55 = o54) ?_ ?_
  ·rcases (Bool.eq_false_or_eq_true (x14.Wish == (0 : Int))).symm with hb56 | hb56
   ·replace H := ite_f hb56 H
    refine Qt.skip rfl rfl rfl hb56 rfl (by decide) ?_
    refine Qt.skip rfl rfl rfl hb56 rfl (by decide) ?_
    refine Qt.skip rfl rfl rfl hb56 rfl (by decide) ?_
    refine Qt.skip rfl rfl rfl hb56 rfl (by decide) ?_
    refine Qt.skipU rfl rfl rfl rfl (by decide) ?_
    refine Qt.skipU rfl rfl rfl rfl (by decide) ?_
    refine Qt.skip rfl rfl rfl hb56 rfl (by decide) ?_
    refine Qt.skip rfl rfl rfl hb56 rfl (by decide) ?_
    refine Qt.skipU rfl rfl rfl rfl (by decide) ?_
    refine Qt.skipU rfl rfl rfl rfl (by decide) ?_
    refine Qt.skipU rfl rfl rfl rfl (by decide) ?_
    refine Qt.skipU rfl rfl rfl rfl (by decide) ?_
    refine Qt.skip rfl rfl rfl hb56 rfl (by decide) ?_
    refine Qt.rG hb53 (Ev.pickF rfl hb56 rfl) ?_
    exact Qt.meet false ⟨rfl, rfl, rfl, rfl, rfl, rfl, rfl, rfl, rfl, trivial⟩ (some_inj H)
   replace H := ite_t hb56 H
   refine Qt.rG hb56 (Ev.fieldAddr (off' := 2) rfl Try.runUnderlying204 rfl Try.sizeOf5 rfl rfl) ?_
   refine Qt.rG hb56 (Ev.load (i := 0) rfl rfl Try.isAgg5 (v := .int .u8 x14.Yes.toNat) ((DoorR.get_Yes (Get.here _)).off (by rfl))) ?_
   refine Qt.rG hb56 (Ev.gtr rfl rfl) ?_
   refine Qt.rG hb56 (Ev.move rfl) ?_
   obtain ⟨o57, H, HKo57⟩ := bind_some H
   refine Qt.join (σ := Bool) 3 (fun y58 => [(1, pv b1 0), (3, iv (a0.Doors.length : Int)), (4, iv (i11 : Int)), (5, pv b19 0), (18, Sl.v s_a0_0), (19, iv (a0.Doors.length : Int)), (20, iv (i11 : Int)), (65, .bool y46), (69, .bool (x14.Wish == (0 : Int))), (76, .bool y58)]) (fun y58 => y58 = o57) ?_ ?_
   ·rcases Bool.eq_false_or_eq_true (decide ((x14.Yes.toNat : Int) > ((0 : BitVec 8).toNat : Int))) with hb59 | hb59
    ·replace H := ite_t hb59 H
     refine Qt.skip rfl rfl rfl hb59 rfl (by decide) ?_
     refine Qt.skip rfl rfl rfl hb59 rfl (by decide) ?_
     refine Qt.rG hb56 (Ev.pickT rfl hb59 rfl) ?_
     exact Qt.meet true ⟨rfl, rfl, rfl, rfl, rfl, rfl, rfl, rfl, rfl, rfl, trivial⟩ (some_inj H)
    replace H := ite_f hb59 H
    refine Qt.rG hb59 (Ev.fieldAddr (off' := 3) rfl Try.runUnderlying204 rfl Try.sizeOf4 rfl rfl) ?_
    refine Qt.rG hb59 (Ev.load (i := 0) rfl rfl Try.isAgg4 (v := .bool x14.In) ((DoorR.get_In (Get.here _)).off (by rfl))) ?_
    refine Qt.rG hb56 (Ev.pickF rfl hb59 rfl) ?_
    exact Qt.meet x14.In ⟨rfl, rfl, rfl, rfl, rfl, rfl, rfl, rfl, rfl, rfl, trivial⟩ (some_inj H)
   rintro y58 hy
   subst hy
   refine Qt.as (e' := [(1, pv b1 0), (3, iv (a0.Doors.length : Int)), (4, iv (i11 : Int)), (5, pv b19 0), (18, Sl.v s_a0_0), (19, iv (a0.Doors.length : Int)), (20, iv (i11 : Int)), (65, .bool y46), (69, .bool (x14.Wish == (0 : Int))), (76, .bool y58)]) ⟨rfl, rfl, rfl, rfl, rfl, rfl, rfl, rfl, rfl, rfl, trivial⟩ ?_
   replace H := HKo57
   refine Qt.rG hb56 (Ev.move rfl) ?_
   obtain ⟨o60, H, HKo60⟩ := bind_some H
   refine Qt.join (σ := Bool) 5 (fun y61 => [(1, pv b1 0), (3, iv (a0.Doors.length : Int)), (4, iv (i11 : Int)), (5, pv b19 0), (18, Sl.v s_a0_0), (19, iv (a0.Doors.length : Int)), (20, iv (i11 : Int)), (65, .bool y46), (69, .bool (x14.Wish == (0 : Int))), (82, .bool y61)]) (fun y61 => y61 = o60) ?_ ?_
   ·rcases Bool.eq_false_or_eq_true y58 with hb62 | hb62
    ·replace H := ite_t hb62 H
     refine Qt.skip rfl rfl rfl hb62 rfl (by decide) ?_
     refine Qt.skip rfl rfl rfl hb62 rfl (by decide) ?_
     refine Qt.skip rfl rfl rfl hb62 rfl (by decide) ?_
     refine Qt.skip rfl rfl rfl hb62 rfl (by decide) ?_
     refine Qt.rG hb56 (Ev.pickT rfl hb62 rfl) ?_
     exact Qt.meet true ⟨rfl, rfl, rfl, rfl, rfl, rfl, rfl, rfl, rfl, rfl, trivial⟩ (some_inj H)
    replace H := ite_f hb62 H
    refine Qt.rG hb62 (Ev.fieldAddr (off' := 4) rfl Try.runUnderlying204 rfl Try.sizeOf36 rfl rfl) ?_
    refine Qt.rG hb62 (Ev.load (i := 0) rfl rfl Try.isAgg36 (v := Sl.v r17h4) ((DoorR.get_Later (Get.here _)).off (by rfl))) ?_
    refine Qt.rG hb62 (Ev.lenS (α := Int) (xs := x14.Later) (by decide) rfl rfl Try.runUnderlying36 (r17_f4.mono (FLe.trans (FLe.trans (FLe.trans (FLe.trans (FLe.trans hF8 hF13) hF25) hF30) hF35) hF40) (sc2 (sc1 hM)))) ?_
    refine Qt.rG hb62 (Ev.gtr rfl rfl) ?_
    refine Qt.rG hb56 (Ev.pickF rfl hb62 rfl) ?_
    exact Qt.meet (decide ((x14.Later.length : Int) > (0 : Int))) ⟨rfl, rfl, rfl, rfl, rfl, rfl, rfl, rfl, rfl, rfl, trivial⟩ (some_inj H)
   rintro y61 hy
   subst hy
   refine Qt.as (e' := [(1, pv b1 0), (3, iv (a0.Doors.length : Int)), (4, iv (i11 : Int)), (5, pv b19 0), (18, Sl.v s_a0_0), (19, iv (a0.Doors.length : Int)), (20, iv (i11 : Int)), (65, .bool y46), (69, .bool (x14.Wish == (0 : Int))), (82, .bool y61)]) ⟨rfl, rfl, rfl, rfl, rfl, rfl, rfl, rfl, rfl, rfl, trivial⟩ ?_
   replace H := HKo60
   refine Qt.rG hb53 (Ev.pickT rfl hb56 rfl) ?_
   exact Qt.meet y61 ⟨rfl, rfl, rfl, rfl, rfl, rfl, rfl, rfl, rfl, trivial⟩ (some_inj H)
  rintro y55 hy
  subst hy
  refine Qt.as (e' := [(1, pv b1 0), (3, iv (a0.Doors.length : Int)), (4, iv (i11 : Int)), (5, pv b19 0), (18, Sl.v s_a0_0), (19, iv (a0.Doors.length : Int)), (20, iv (i11 : Int)), (65, .bool y46), (83, .bool y55)]) ⟨rfl, rfl, rfl, rfl, rfl, rfl, rfl, rfl, rfl, trivial⟩ ?_
  replace H := HKo54
  refine Qt.r (Ev.pickF rfl hb53 rfl) ?_
  exact Qt.meet y55 ⟨rfl, rfl, rfl, rfl, rfl, rfl, rfl, rfl, trivial⟩ (some_inj H)
 rintro y52 hy
 subst hy
 refine Qt.as (e' := [(1, pv b1 0), (3, iv (a0.Doors.length : Int)), (4, iv (i11 : Int)), (5, pv b19 0), (18, Sl.v s_a0_0), (19, iv (a0.Doors.length : Int)), (20, iv (i11 : Int)), (84, .bool y52)]) ⟨rfl, rfl, rfl, rfl, rfl, rfl, rfl, rfl, trivial⟩ ?_
 replace H := HKo51
 refine Qt.r (Ev.move rfl) ?_
 obtain ⟨o63, H, HKo63⟩ := bind_some H
 refine Qt.join (σ := Bool) 12 (fun y64 => [(1, pv b1 0), (3, iv (a0.Doors.length : Int)), (4, iv (i11 : Int)), (5, pv b19 0), (18, Sl.v s_a0_0), (19, iv (a0.Doors.length : Int)), (20, iv (i11 : Int)), (97, .bool y64)]) (fun y64 => y64 = o63) ?_ ?_
 ·rcases Bool.eq_false_or_eq_true y52 with hb65 | hb65
  ·replace H := ite_t hb65 H
   refine Qt.skip rfl rfl rfl hb65 rfl (by decide) ?_
   refine Qt.skip rfl rfl rfl hb65 rfl (by decide) ?_
   refine Qt.skip rfl rfl rfl hb65 rfl (by decide) ?_
   refine Qt.skipU rfl rfl rfl rfl (by decide) ?_
   refine Qt.skipU rfl rfl rfl rfl (by decide) ?_
   refine Qt.skipU rfl rfl rfl rfl (by decide) ?_
   refine Qt.skipU rfl rfl rfl rfl (by decide) ?_
   refine Qt.skipU rfl rfl rfl rfl (by decide) ?_
   refine Qt.skipU rfl rfl rfl rfl (by decide) ?_
   refine Qt.skipU rfl rfl rfl rfl (by decide) ?_
   refine Qt.skip rfl rfl rfl hb65 rfl (by decide) ?_
   refine Qt.r (Ev.pickT rfl hb65 rfl) ?_
   exact Qt.meet true ⟨rfl, rfl, rfl, rfl, rfl, rfl, rfl, rfl, trivial⟩ (some_inj H)
  replace H := ite_f hb65 H
  refine Qt.rG hb65 (Ev.fieldAddr (off' := 3) rfl Try.runUnderlying204 rfl Try.sizeOf4 rfl rfl) ?_
  refine Qt.rG hb65 (Ev.load (i := 0) rfl rfl Try.isAgg4 (v := .bool x14.In) ((DoorR.get_In (Get.here _)).off (by rfl))) ?_
  refine Qt.rG hb65 (Ev.move rfl) ?_
  obtain ⟨o66, H, HKo66⟩ := bind_some H
  refine Qt.join (σ := Bool) 8 (fun y67 => [(1, pv b1 0), (3, iv (a0.Doors.length : Int)), (4, iv (i11 : Int)), (5, pv b19 0), (18, Sl.v s_a0_0), (19, iv (a0.Doors.length : Int)), (20, iv (i11 : Int)), (85, .bool y52), (96, .bool y67)]) (fun y67 => y67 = o66) ?_ ?_
  ·rcases (Bool.eq_false_or_eq_true x14.In).symm with hb68 | hb68
   ·replace H := ite_f hb68 H
    refine Qt.skip rfl rfl rfl hb68 rfl (by decide) ?_
    refine Qt.skip rfl rfl rfl hb68 rfl (by decide) ?_
    refine Qt.skip rfl rfl rfl hb68 rfl (by decide) ?_
    refine Qt.skip rfl rfl rfl hb68 rfl (by decide) ?_
    refine Qt.skip rfl rfl rfl hb68 rfl (by decide) ?_
    refine Qt.skip rfl rfl rfl hb68 rfl (by decide) ?_
    refine Qt.skip rfl rfl rfl hb68 rfl (by decide) ?_
    refine Qt.rG hb65 (Ev.pickF rfl hb68 rfl) ?_
    exact Qt.meet false ⟨rfl, rfl, rfl, rfl, rfl, rfl, rfl, rfl, rfl, trivial⟩ (some_inj H)
   replace H := ite_t hb68 H
   refine Qt.rG hb68 (Ev.fieldAddr (off' := 2) rfl Try.runUnderlying204 rfl Try.sizeOf5 rfl rfl) ?_
   refine Qt.rG hb68 (Ev.load (i := 0) rfl rfl Try.isAgg5 (v := .int .u8 x14.Yes.toNat) ((DoorR.get_Yes (Get.here _)).off (by rfl))) ?_
   refine Qt.rG hb68 (Ev.convTo16 rfl Try.runUnderlying5 Try.runUnderlying175) ?_
   obtain ⟨r69, h70, H⟩ := bind_some H
   refine Qt.callG rfl rfl rfl hb68 rfl (by decide) (vs := [.int .u16 (BitVec.ofInt 16 (x14.Yes.toNat : Int)).toNat]) ⟨rfl, trivial⟩ Try.call135 (partref_size_sim h70 w0 _ M _ (sc2 (sc1 hM))) ?_
   refine Qt.rG hb68 (Ev.move rfl) ?_
   refine Qt.rG hb68 (Ev.sub rfl rfl) ?_
   refine Qt.rG hb68 (Ev.neq rfl rfl) ?_
   refine Qt.rG hb65 (Ev.pickT rfl hb68 rfl) ?_
   exact Qt.meet (r69 != (w64 ((a0.Doors.length : Int) - (1 : Int)))) ⟨rfl, rfl, rfl, rfl, rfl, rfl, rfl, rfl, rfl, trivial⟩ (some_inj H)
  rintro y67 hy
  subst hy
  refine Qt.as (e' := [(1, pv b1 0), (3, iv (a0.Doors.length : Int)), (4, iv (i11 : Int)), (5, pv b19 0), (18, Sl.v s_a0_0), (19, iv (a0.Doors.length : Int)), (20, iv (i11 : Int)), (85, .bool y52), (96, .bool y67)]) ⟨rfl, rfl, rfl, rfl, rfl, rfl, rfl, rfl, rfl, trivial⟩ ?_
  replace H := HKo66
  refine Qt.r (Ev.pickF rfl hb65 rfl) ?_
  exact Qt.meet y67 ⟨rfl, rfl, rfl, rfl, rfl, rfl, rfl, rfl, trivial⟩ (some_inj H)
 rintro y64 hy
 subst hy
 refine Qt.as (e' := [(1, pv b1 0), (3, iv (a0.Doors.length : Int)), (4, iv (i11 : Int)), (5, pv b19 0), (18, Sl.v s_a0_0), (19, iv (a0.Doors.length : Int)), (20, iv (i11 : Int)), (97, .bool y64)]) ⟨rfl, rfl, rfl, rfl, rfl, rfl, rfl, rfl, trivial⟩ ?_
 replace H := HKo63
 refine Qt.done ?_
 refine At.then ?_
 rcases Bool.eq_false_or_eq_true y64 with hb73 | hb73
 ·replace H := ite_t hb73 H
  refine Cd.condT rfl hb73 ?_
  refine Cd.seq ?_
  refine Cd.region ?_
  refine Lst.r (Ev.assign rfl) ?_
  refine Lst.nil ?_
  refine At.then ?_
  have H := hret11 _ (some_inj H).symm
  subst H
  replace H := HKl11
  obtain rfl := some_inj H
  refine Cd.ret ?_
  refine At.then_ret ?_
  refine At.in_ret ?_
  refine At.then_ret ?_
  refine At.then_ret ?_
  refine At.in_ret ?_
  refine At.then_ret ?_
  exact At.ret1 rfl (Res.tmp rfl) (FLe.trans (FLe.trans (FLe.trans (FLe.trans (FLe.trans hF8 hF13) hF25) hF30) hF35) hF40) (sc1 (sc1 (sc1 (.refl _)))) ⟨rfl, rfl⟩
 replace H := ite_f hb73 H
 refine Cd.condF rfl hb73 ?_
 refine Cd.skip ?_
 refine At.then ?_
 refine Cd.seq ?_
 refine Cd.region ?_
 refine Lst.r (Ev.fieldAddr (off' := 4) rfl Try.runUnderlying204 rfl Try.sizeOf36 rfl rfl) ?_
 refine Lst.r (Ev.load (i := 0) rfl rfl Try.isAgg36 (v := Sl.v r17h4) ((DoorR.get_Later (Get.here _)).off (by rfl))) ?_
 refine Lst.r (Ev.lenS (α := Int) (xs := x14.Later) (by decide) rfl rfl Try.runUnderlying36 (r17_f4.mono (FLe.trans (FLe.trans (FLe.trans (FLe.trans (FLe.trans hF8 hF13) hF25) hF30) hF35) hF40) (sc2 (sc1 hM)))) ?_
 refine Lst.r (Ev.move rfl) ?_
 refine Lst.nil ?_
 refine At.then ?_
 refine Cd.block ?_
 refine Cd.bound (Rd.le (α := Int) (xs := x14.Later) (by decide) (r17_f4.mono (FLe.trans (FLe.trans (FLe.trans (FLe.trans (FLe.trans hF8 hF13) hF25) hF30) hF35) hF40) (sc2 (sc1 hM)))) (fun hN100 => ?_)
 obtain ⟨ol74, H, HKl74⟩ := andThen_some H
 refine Cd.loop (σ := Nat × Nat × Unit) (fun (i74, k74, _u) => [(1, pv b1 0), (3, iv (a0.Doors.length : Int)), (4, iv (i11 : Int)), (5, pv b19 0), (18, Sl.v s_a0_0), (19, iv (a0.Doors.length : Int)), (20, iv (i11 : Int)), (99, Sl.v r17h4), (100, iv (x14.Later.length : Int)), (101, iv (i74 : Int))]) (fun (i74, k74, _u) => (.blk b19 (enc (DoorR.mk x14 r17h4)) 204) :: (.own Sl.nil 3 1 (encs ([] : List Int))) :: (.blk b1 (enc (EnterR.mk a0 s_a0_0 s_a0_1)) 114) :: L) (fun _ => (fun (i74, k74, _u) => rangeM (partref_EnterErr_B2 a0 i11 x14) k74 i74 () = some ol74 ∧ i74 + k74 = x14.Later.length)) (fun (i74, k74, _u) => k74) (0, x14.Later.length, ()) ⟨rfl, rfl, rfl, rfl, rfl, rfl, rfl, rfl, rfl, rfl, trivial⟩ rfl ⟨H, by omega⟩ ?_
 rintro F75 ⟨i74, k74, _u⟩ hF76 ⟨H, hik74⟩
 refine Cd.as (e' := [(1, pv b1 0), (3, iv (a0.Doors.length : Int)), (4, iv (i11 : Int)), (5, pv b19 0), (18, Sl.v s_a0_0), (19, iv (a0.Doors.length : Int)), (20, iv (i11 : Int)), (99, Sl.v r17h4), (100, iv (x14.Later.length : Int)), (101, iv (i74 : Int))]) (L' := (.blk b19 (enc (DoorR.mk x14 r17h4)) 204) :: (.own Sl.nil 3 1 (encs ([] : List Int))) :: (.blk b1 (enc (EnterR.mk a0 s_a0_0 s_a0_1)) 114) :: L) ⟨rfl, rfl, rfl, rfl, rfl, rfl, rfl, rfl, rfl, rfl, trivial⟩ rfl ?_
 rcases k74 with _ | k74
 ·have hc74 : decide ((i74 : Int) < (x14.Later.length : Int)) = false := decide_eq_false (by omega)
  replace H := rangeM_end H
  refine Cd.seq ?_
  refine Cd.region ?_
  refine Lst.r (Ev.lss rfl rfl) ?_
  refine Lst.nil ?_
  refine At.then ?_
  refine Cd.seq ?_
  refine Cd.condF rfl hc74 ?_
  refine Cd.exit ?_
  refine At.then_exit ?_
  refine At.then_exit ?_
  refine At.in_exit ?_
  subst H
  replace H := HKl74
  refine At.in_normal ?_
  refine At.then ?_
  refine Cd.region ?_
  refine Lst.r (Ev.incr (by omega) rfl rfl) ?_
  refine Lst.r (Ev.move rfl) ?_
  refine Lst.nil ?_
  refine At.less (L' := (.blk b1 (enc (EnterR.mk a0 s_a0_0 s_a0_1)) 114) :: L) (sc1 (sc1 (sk1 (.refl _)))) ?_
  exact At.meet (i11 + 1, k11, ()) (FLe.trans (FLe.trans (FLe.trans (FLe.trans (FLe.trans hF13 hF25) hF30) hF35) hF40) hF76) ⟨rfl, rfl, rfl, rfl, rfl, trivial⟩ rfl ⟨⟨hgo11 _ (some_inj H).symm, by omega⟩, Nat.lt_succ_self _⟩
 have hc74 : decide ((i74 : Int) < (x14.Later.length : Int)) = true := decide_eq_true (by omega)
 obtain ⟨c74, H, hgo74, hbrk74, hret74⟩ := rangeM_go H
 unfold partref_EnterErr_B2 at H
 try dsimp only at H
 refine Cd.seq ?_
 refine Cd.region ?_
 refine Lst.r (Ev.lss rfl rfl) ?_
 refine Lst.nil ?_
 refine At.then ?_
 refine Cd.seq ?_
 refine Cd.condT rfl hc74 ?_
 refine Cd.skip ?_
 refine At.then ?_
 refine Cd.seq ?_
 refine Cd.block ?_
 refine Cd.seq ?_
 refine Cd.region ?_
 refine Lst.r (Ev.move rfl) ?_
 obtain ⟨x77, h78, H⟩ := bind_some H
 have g79 := lat_some h78
 refine Lst.r (Ev.indexS (α := Int) (xs := x14.Later) rfl rfl Try.runUnderlying36 Try.sizeOf3 rfl (by decide) (r17_f4.mono (FLe.trans (FLe.trans (FLe.trans (FLe.trans (FLe.trans (FLe.trans hF8 hF13) hF25) hF30) hF35) hF40) hF76) (sc2 (sc1 hM))) g79.1 g79.2.1) ?_
 refine Lst.r (Ev.loadS (α := Int) rfl (r17_f4.mono (FLe.trans (FLe.trans (FLe.trans (FLe.trans (FLe.trans (FLe.trans hF8 hF13) hF25) hF30) hF35) hF40) hF76) (sc2 (sc1 hM))) Try.isAgg3 (v := iv x77) ((Get.elemN (s := 1) (x := x77) rfl g79.2.2 (Get.here _)).off (by omega))) ?_
 refine Lst.r (Ev.assign rfl) ?_
 refine Lst.r (Ev.assign rfl) ?_
 refine Lst.nil ?_
 refine At.then ?_
 refine Cd.seq ?_
 refine Cd.region ?_
 refine Lst.r (Ev.move rfl) ?_
 refine Lst.r (Ev.lss rfl rfl) ?_
 refine Lst.r (Ev.move rfl) ?_
 obtain ⟨o80, H, HKo80⟩ := bind_some H
 refine Lst.join (σ := Bool) 4 (fun y81 => [(1, pv b1 0), (3, iv (a0.Doors.length : Int)), (4, iv (i11 : Int)), (5, pv b19 0), (6, iv (i74 : Int)), (7, iv x77), (18, Sl.v s_a0_0), (19, iv (a0.Doors.length : Int)), (20, iv (i11 : Int)), (99, Sl.v r17h4), (100, iv (x14.Later.length : Int)), (101, iv (i74 : Int)), (112, .bool y81)]) (fun y81 => (.blk b19 (enc (DoorR.mk x14 r17h4)) 204) :: (.own Sl.nil 3 1 (encs ([] : List Int))) :: (.blk b1 (enc (EnterR.mk a0 s_a0_0 s_a0_1)) 114) :: L) (fun _ y81 => y81 = o80) ?_ ?_
 ·rcases Bool.eq_false_or_eq_true (decide (x77 < (0 : Int))) with hb82 | hb82
  ·replace H := ite_t hb82 H
   refine Lst.skip rfl rfl rfl hb82 rfl (by decide) ?_
   refine Lst.skip rfl rfl rfl hb82 rfl (by decide) ?_
   refine Lst.skip rfl rfl rfl hb82 rfl (by decide) ?_
   refine Lst.r (Ev.pickT rfl hb82 rfl) ?_
   refine Lst.nil ?_
   exact At.meet true (FLe.refl _) ⟨rfl, rfl, rfl, rfl, rfl, rfl, rfl, rfl, rfl, rfl, rfl, rfl, rfl, trivial⟩ rfl (some_inj H)
  replace H := ite_f hb82 H
  refine Lst.rG hb82 (Ev.move rfl) ?_
  refine Lst.rG hb82 (Ev.move rfl) ?_
  refine Lst.rG hb82 (Ev.geq rfl rfl) ?_
  refine Lst.r (Ev.pickF rfl hb82 rfl) ?_
  refine Lst.nil ?_
  exact At.meet (decide (x77 ≥ (a0.Doors.length : Int))) (FLe.refl _) ⟨rfl, rfl, rfl, rfl, rfl, rfl, rfl, rfl, rfl, rfl, rfl, rfl, rfl, trivial⟩ rfl (some_inj H)
 rintro F83 y81 hF84 hy
 subst hy
 refine Lst.as (e' := [(1, pv b1 0), (3, iv (a0.Doors.length : Int)), (4, iv (i11 : Int)), (5, pv b19 0), (6, iv (i74 : Int)), (7, iv x77), (18, Sl.v s_a0_0), (19, iv (a0.Doors.length : Int)), (20, iv (i11 : Int)), (99, Sl.v r17h4), (100, iv (x14.Later.length : Int)), (101, iv (i74 : Int)), (112, .bool y81)]) (L' := (.blk b19 (enc (DoorR.mk x14 r17h4)) 204) :: (.own Sl.nil 3 1 (encs ([] : List Int))) :: (.blk b1 (enc (EnterR.mk a0 s_a0_0 s_a0_1)) 114) :: L) ⟨rfl, rfl, rfl, rfl, rfl, rfl, rfl, rfl, rfl, rfl, rfl, rfl, rfl, trivial⟩ rfl ?_
 replace H := HKo80
 refine Lst.r (Ev.move rfl) ?_
 obtain ⟨o85, H, HKo85⟩ := bind_some H
 refine Lst.join (σ := Bool) 4 (fun y86 => [(1, pv b1 0), (3, iv (a0.Doors.length : Int)), (4, iv (i11 : Int)), (5, pv b19 0), (6, iv (i74 : Int)), (7, iv x77), (18, Sl.v s_a0_0), (19, iv (a0.Doors.length : Int)), (20, iv (i11 : Int)), (99, Sl.v r17h4), (100, iv (x14.Later.length : Int)), (101, iv (i74 : Int)), (117, .bool y86)]) (fun y86 => (.blk b19 (enc (DoorR.mk x14 r17h4)) 204) :: (.own Sl.nil 3 1 (encs ([] : List Int))) :: (.blk b1 (enc (EnterR.mk a0 s_a0_0 s_a0_1)) 114) :: L) (fun _ y86 => y86 = o85) ?_ ?_
 ·rcases Bool.eq_false_or_eq_true y81 with hb87 | hb87
  ·replace H := ite_t hb87 H
   refine Lst.skip rfl rfl rfl hb87 rfl (by decide) ?_
   refine Lst.skip rfl rfl rfl hb87 rfl (by decide) ?_
   refine Lst.skip rfl rfl rfl hb87 rfl (by decide) ?_
   refine Lst.r (Ev.pickT rfl hb87 rfl) ?_
   refine Lst.nil ?_
   exact At.meet true (FLe.refl _) ⟨rfl, rfl, rfl, rfl, rfl, rfl, rfl, rfl, rfl, rfl, rfl, rfl, rfl, trivial⟩ rfl (some_inj H)
  replace H := ite_f hb87 H
  refine Lst.rG hb87 (Ev.move rfl) ?_
  refine Lst.rG hb87 (Ev.move rfl) ?_
  refine Lst.rG hb87 (Ev.eql rfl rfl) ?_
  refine Lst.r (Ev.pickF rfl hb87 rfl) ?_
  refine Lst.nil ?_
  exact At.meet (x77 == (i11 : Int)) (FLe.refl _) ⟨rfl, rfl, rfl, rfl, rfl, rfl, rfl, rfl, rfl, rfl, rfl, rfl, rfl, trivial⟩ rfl (some_inj H)
 rintro F88 y86 hF89 hy
 subst hy
 refine Lst.as (e' := [(1, pv b1 0), (3, iv (a0.Doors.length : Int)), (4, iv (i11 : Int)), (5, pv b19 0), (6, iv (i74 : Int)), (7, iv x77), (18, Sl.v s_a0_0), (19, iv (a0.Doors.length : Int)), (20, iv (i11 : Int)), (99, Sl.v r17h4), (100, iv (x14.Later.length : Int)), (101, iv (i74 : Int)), (117, .bool y86)]) (L' := (.blk b19 (enc (DoorR.mk x14 r17h4)) 204) :: (.own Sl.nil 3 1 (encs ([] : List Int))) :: (.blk b1 (enc (EnterR.mk a0 s_a0_0 s_a0_1)) 114) :: L) ⟨rfl, rfl, rfl, rfl, rfl, rfl, rfl, rfl, rfl, rfl, rfl, rfl, rfl, trivial⟩ rfl ?_
 replace H := HKo85
 refine Lst.r (Ev.move rfl) ?_
 obtain ⟨o90, H, HKo90⟩ := bind_some H
 refine Lst.join (σ := Bool) 7 (fun y91 => [(1, pv b1 0), (3, iv (a0.Doors.length : Int)), (4, iv (i11 : Int)), (5, pv b19 0), (18, Sl.v s_a0_0), (19, iv (a0.Doors.length : Int)), (20, iv (i11 : Int)), (99, Sl.v r17h4), (100, iv (x14.Later.length : Int)), (101, iv (i74 : Int)), (125, .bool y91)]) (fun y91 => (.blk b19 (enc (DoorR.mk x14 r17h4)) 204) :: (.own Sl.nil 3 1 (encs ([] : List Int))) :: (.blk b1 (enc (EnterR.mk a0 s_a0_0 s_a0_1)) 114) :: L) (fun _ y91 => y91 = o90) ?_ ?_
 ·rcases Bool.eq_false_or_eq_true y86 with hb92 | hb92
  ·replace H := ite_t hb92 H
   refine Lst.skip rfl rfl rfl hb92 rfl (by decide) ?_
   refine Lst.skip rfl rfl rfl hb92 rfl (by decide) ?_
   refine Lst.skip rfl rfl rfl hb92 rfl (by decide) ?_
   refine Lst.skip rfl rfl rfl hb92 rfl (by decide) ?_
   refine Lst.skip rfl rfl rfl hb92 rfl (by decide) ?_
   refine Lst.skip rfl rfl rfl hb92 rfl (by decide) ?_
   refine Lst.r (Ev.pickT rfl hb92 rfl) ?_
   refine Lst.nil ?_
   exact At.meet true (FLe.refl _) ⟨rfl, rfl, rfl, rfl, rfl, rfl, rfl, rfl, rfl, rfl, rfl, trivial⟩ rfl (some_inj H)
  replace H := ite_f hb92 H
  refine Lst.rG hb92 (Ev.fieldAddr (off' := 4) rfl Try.runUnderlying204 rfl Try.sizeOf36 rfl rfl) ?_
  refine Lst.rG hb92 (Ev.load (i := 0) rfl rfl Try.isAgg36 (v := Sl.v r17h4) ((DoorR.get_Later (Get.here _)).off (by rfl))) ?_
  refine Lst.rG hb92 (Ev.move rfl) ?_
  obtain ⟨r93, h94, H⟩ := bind_some H
  refine Lst.call1G rfl rfl rfl hb92 rfl (by decide) (vs := [Sl.v r17h4, iv x77]) ⟨rfl, rfl, trivial⟩ Try.call95 (slices_Index_int_int_sim h94 w0 _ M _ (sc2 (sc1 hM)) (r17_f4.mono (FLe.trans (FLe.trans (FLe.trans (FLe.trans (FLe.trans (FLe.trans (FLe.trans (FLe.trans hF8 hF13) hF25) hF30) hF35) hF40) hF76) hF84) hF89) (.refl _))) ?_
  refine Lst.rG hb92 (Ev.move rfl) ?_
  refine Lst.rG hb92 (Ev.neq rfl rfl) ?_
  refine Lst.r (Ev.pickF rfl hb92 rfl) ?_
  refine Lst.nil ?_
  exact At.meet (r93 != (i74 : Int)) (FLe.refl _) ⟨rfl, rfl, rfl, rfl, rfl, rfl, rfl, rfl, rfl, rfl, rfl, trivial⟩ rfl (some_inj H)
 rintro F97 y91 hF98 hy
 subst hy
 refine Lst.as (e' := [(1, pv b1 0), (3, iv (a0.Doors.length : Int)), (4, iv (i11 : Int)), (5, pv b19 0), (18, Sl.v s_a0_0), (19, iv (a0.Doors.length : Int)), (20, iv (i11 : Int)), (99, Sl.v r17h4), (100, iv (x14.Later.length : Int)), (101, iv (i74 : Int)), (125, .bool y91)]) (L' := (.blk b19 (enc (DoorR.mk x14 r17h4)) 204) :: (.own Sl.nil 3 1 (encs ([] : List Int))) :: (.blk b1 (enc (EnterR.mk a0 s_a0_0 s_a0_1)) 114) :: L) ⟨rfl, rfl, rfl, rfl, rfl, rfl, rfl, rfl, rfl, rfl, rfl, trivial⟩ rfl ?_
 replace H := HKo90
 refine Lst.nil ?_
 refine At.then ?_
 rcases Bool.eq_false_or_eq_true y91 with hb99 | hb99
 ·replace H := ite_t hb99 H
  refine Cd.condT rfl hb99 ?_
  refine Cd.seq ?_
  refine Cd.region ?_
  refine Lst.r (Ev.assign rfl) ?_
  refine Lst.nil ?_
  refine At.then ?_
  have H := hret74 _ (some_inj H).symm
  subst H
  replace H := HKl74
  have H := hret11 _ (some_inj H).symm
  subst H
  replace H := HKl11
  obtain rfl := some_inj H
  refine Cd.ret ?_
  refine At.in_ret ?_
  refine At.then_ret ?_
  refine At.then_ret ?_
  refine At.in_ret ?_
  refine At.in_ret ?_
  refine At.then_ret ?_
  refine At.then_ret ?_
  refine At.in_ret ?_
  refine At.then_ret ?_
  exact At.ret1 rfl (Res.tmp rfl) (FLe.trans (FLe.trans (FLe.trans (FLe.trans (FLe.trans (FLe.trans (FLe.trans (FLe.trans (FLe.trans hF8 hF13) hF25) hF30) hF35) hF40) hF76) hF84) hF89) hF98) (sc1 (sc1 (sc1 (.refl _)))) ⟨rfl, rfl⟩
 replace H := ite_f hb99 H
 refine Cd.condF rfl hb99 ?_
 refine Cd.skip ?_
 refine At.in_normal ?_
 refine At.then ?_
 refine Cd.region ?_
 refine Lst.r (Ev.incr (by omega) rfl rfl) ?_
 refine Lst.r (Ev.move rfl) ?_
 refine Lst.nil ?_
 exact At.meet (i74 + 1, k74, ()) (FLe.trans (FLe.trans (FLe.trans hF76 hF84) hF89) hF98) ⟨rfl, rfl, rfl, rfl, rfl, rfl, rfl, rfl, rfl, rfl, trivial⟩ rfl ⟨⟨hgo74 _ (some_inj H).symm, by omega⟩, Nat.lt_succ_self _⟩
set_option maxRecDepth 20000 in
theorem enter_in_sim {a0 : Int} {a1 : Int} {a2 : Int} {r : Bool} (H : enter_in a0 a1 a2 = some r) (w0 : World) (F : Frz) (M L : List Item) (hM : M.Sublist L) : Ok Try.prog w0 155 [iv a0, iv a1, iv a2] F (L) (Is (.bool r) (L)) := by
 unfold enter_in at H
 refine Ok.enter (m := 3) (n := 15) Try.func155 rfl rfl rfl (by decide) ?_
 refine Cd.env (e' := [(0, iv a0), (1, iv a1), (2, iv a2)]) rfl ?_
 refine Cd.seq ?_
 refine Cd.region ?_
 refine Lst.r (Ev.assign rfl) ?_
 refine Lst.nil ?_
 refine At.then ?_
 refine Cd.seq ?_
 refine Cd.region ?_
 refine Lst.r (Ev.move rfl) ?_
 refine Lst.r (Ev.move rfl) ?_
 refine Lst.r (Ev.geq rfl rfl) ?_
 refine Lst.r (Ev.move rfl) ?_
 obtain ⟨o1, H, HKo1⟩ := bind_some H
 refine Lst.join (σ := Bool) 4 (fun y2 => [(14, .bool y2)]) (fun y2 => L) (fun _ y2 => y2 = o1) ?_ ?_
 ·rcases (Bool.eq_false_or_eq_true (decide (a0 ≥ a1))).symm with hb3 | hb3
  ·replace H := ite_f hb3 H
   refine Lst.skip rfl rfl rfl hb3 rfl (by decide) ?_
   refine Lst.skip rfl rfl rfl hb3 rfl (by decide) ?_
   refine Lst.skip rfl rfl rfl hb3 rfl (by decide) ?_
   refine Lst.r (Ev.pickF rfl hb3 rfl) ?_
   refine Lst.nil ?_
   exact At.meet false (FLe.refl _) ⟨rfl, trivial⟩ rfl (some_inj H)
  replace H := ite_t hb3 H
  refine Lst.rG hb3 (Ev.move rfl) ?_
  refine Lst.rG hb3 (Ev.move rfl) ?_
  refine Lst.rG hb3 (Ev.leq rfl rfl) ?_
  refine Lst.r (Ev.pickT rfl hb3 rfl) ?_
  refine Lst.nil ?_
  exact At.meet (decide (a0 ≤ a2)) (FLe.refl _) ⟨rfl, trivial⟩ rfl (some_inj H)
 rintro F4 y2 hF5 hy
 subst hy
 refine Lst.as (e' := [(14, .bool y2)]) (L' := L) ⟨rfl, trivial⟩ rfl ?_
 replace H := HKo1
 refine Lst.r (Ev.assign rfl) ?_
 refine Lst.nil ?_
 refine At.then ?_
 obtain rfl := some_inj H
 refine Cd.ret ?_
 exact At.ret1 rfl (Res.tmp rfl) hF5 (.refl _) ⟨rfl, rfl⟩
set_option maxRecDepth 20000 in
theorem enter_New_sim {a0 : Int} {r : Enter × Int} (H : enter_New a0 = some r) (w0 : World) (F : Frz) (M L : List Item) (hM : M.Sublist L) : Ok Try.prog w0 64 [iv a0] F (L) (fun Fx L' v => ∃ (s1 : Sl) (rs2 : List DoorR) (s6 : Sl), v = .tuple #[.agg (enc (EnterR.mk r.1 s1 s6)).toArray, iv r.2] ∧ L' = (.rows (α := Int) 3 (List.map DoorR.row rs2)) :: (.own s1 204 5 (encs rs2)) :: L ∧ rs2.map DoorR.v = r.1.Doors ∧ Rd w0 Fx [] s6 r.1.Way) := by
 unfold enter_New at H
 refine Ok.enter (m := 1) (n := 11) Try.func64 rfl rfl rfl (by decide) ?_
 refine Cd.env (e' := [(0, iv a0)]) rfl ?_
 refine Cd.seq ?_
 refine Cd.region ?_
 have ha2 : All DoorR.rel w0 F [] ([] : List DoorR) := All.nil
 have ha2m : List.map DoorR.v ([] : List DoorR) = ([] : List Door) := rfl
 refine Lst.addNil 204 5 ?_
 refine Lst.addNil 209 3 ?_
 refine Lst.alloc (cs := enc (EnterR.mk ({ Enter.zero with Doors := ([] : List Door), Way := ([] : List Word) } : Enter) Sl.nil Sl.nil)) rfl rfl (by decide) Try.zeroValue114 rfl (fun b4 => ?_)
 refine Lst.r (Ev.assign rfl) ?_
 refine Lst.nil ?_
 refine At.then ?_
 refine Cd.seq ?_
 refine Cd.seq ?_
 refine Cd.region ?_
 refine Lst.r (Ev.move rfl) ?_
 obtain ⟨r6, h7, H⟩ := bind_some H
 refine Lst.call1 rfl rfl (by decide) (vs := [iv a0, iv (1 : Int), iv (6 : Int)]) ⟨rfl, rfl, rfl, trivial⟩ Try.call155 (enter_in_sim h7 w0 _ M _ (sc2 (sc1 hM))) ?_
 refine Lst.r (Ev.not rfl) ?_
 refine Lst.nil ?_
 refine At.then ?_
 rcases Bool.eq_false_or_eq_true (!r6) with hb10 | hb10
 ·replace H := ite_t hb10 H
  refine Cd.condT rfl hb10 ?_
  refine Cd.seq ?_
  refine Cd.region ?_
  refine Lst.r (Ev.build (v := .agg (enc (EnterR.mk Enter.zero Sl.nil Sl.nil)).toArray) (pv := []) trivial (fun w => by kernel_rfl)) ?_
  refine Lst.store (i := 0) rfl rfl rfl rfl rfl Try.sizeOf114 (vs := enc (EnterR.mk Enter.zero Sl.nil Sl.nil)) rfl (Enc.len _) (Enc.one _) (cs' := enc (EnterR.mk Enter.zero Sl.nil Sl.nil)) (Put.here ((Enc.len _).trans (Enc.len _).symm)) (L' := (.blk b4 (enc (EnterR.mk Enter.zero Sl.nil Sl.nil)) 114) :: (.own Sl.nil 209 3 (encs ([] : List Word))) :: (.own Sl.nil 204 5 (encs ([] : List DoorR))) :: L) rfl ?_
  refine Lst.r (Ev.assign rfl) ?_
  refine Lst.nil ?_
  refine At.then ?_
  obtain rfl := some_inj H
  refine Cd.ret ?_
  refine At.then_ret ?_
  have ha13m : List.map DoorR.v ([] : List DoorR) = ([] : List Door) := rfl
  refine At.addNil 204 5 ?_
  refine At.rowsNil Int 3 0 ?_
  refine At.its (L' := (.rows (α := Int) 3 (List.map DoorR.row ([] : List DoorR))) :: (.own Sl.nil 204 5 (encs ([] : List DoorR))) :: (.blk b4 (enc (EnterR.mk Enter.zero Sl.nil Sl.nil)) 114) :: (.own Sl.nil 209 3 (encs ([] : List Word))) :: (.own Sl.nil 204 5 (encs ([] : List DoorR))) :: L) rfl ?_
  exact At.ret2 rfl (Res.cellA (i := 2) rfl rfl Try.isAgg114 Try.sizeOf114 (Enc.len _)) (Res.tmp rfl) (FLe.refl _) (sk1 (sk1 (sc1 (sc1 (sc1 (.refl _)))))) ⟨Sl.nil, ([] : List DoorR), Sl.nil, rfl, rfl, ha13m, Rd.nil⟩
 replace H := ite_f hb10 H
 refine Cd.condF rfl hb10 ?_
 refine Cd.skip ?_
 refine At.then ?_
 refine Cd.seq ?_
 refine Cd.region ?_
 refine Lst.r (Ev.move rfl) ?_
 obtain ⟨n14, h15, H⟩ := bind_some H
 have g16 := mkLen_some h15
 have hm19 : (List.replicate n14 ((DoorR.mk Door.zero Sl.nil) : DoorR)).map DoorR.v = (List.replicate n14 Door.zero) := map_rep _ _
 refine Lst.make (α := DoorR) (z0 := ((DoorR.mk Door.zero Sl.nil) : DoorR)) (k := n14) rfl rfl (by decide) (congrArg some (congrArg (Value.int .i64) g16.1)) (congrArg some (congrArg (Value.int .i64) g16.1)) Try.runUnderlying111 Try.typeInfo204 rfl rfl rfl rfl rfl g16.2 rfl (fun s17 => ?_)
 refine Lst.rowsNil Int 3 n14 ?_
 refine Lst.its (L' := (.rows (α := Int) 3 (List.map DoorR.row (List.replicate n14 ((DoorR.mk Door.zero Sl.nil) : DoorR)))) :: (.own s17 204 5 (encs (List.replicate n14 ((DoorR.mk Door.zero Sl.nil) : DoorR)))) :: (.blk b4 (enc (EnterR.mk ({ Enter.zero with Doors := ([] : List Door), Way := ([] : List Word) } : Enter) Sl.nil Sl.nil)) 114) :: (.own Sl.nil 209 3 (encs ([] : List Word))) :: (.own Sl.nil 204 5 (encs ([] : List DoorR))) :: L) (by rw [List.map_replicate]; try rfl) ?_
 refine Lst.r (Ev.build (v := .agg (enc (EnterR.mk ({ Enter.zero with Doors := (List.replicate n14 Door.zero) } : Enter) s17 Sl.nil)).toArray) (pv := [(0, Sl.v s17)]) ⟨rfl, rfl, trivial⟩ (run_buildStruct (places := #[(0, 1), (1, 1)]) Try.zeroValue114 (zs := enc (EnterR.mk Enter.zero Sl.nil Sl.nil)) rfl Try.runUnderlying114 (fun w => by kernel_rfl) (fill_cons (cs := enc (EnterR.mk Enter.zero Sl.nil Sl.nil)) (cs' := enc (EnterR.mk ({ Enter.zero with Doors := (List.replicate n14 Door.zero) } : Enter) s17 Sl.nil)) (vs := [Sl.v s17]) rfl rfl rfl ((EnterR.put_Doors (p := (EnterR.mk Enter.zero Sl.nil Sl.nil)) (y := s17) (Put.here (vs := [Sl.v s17]) rfl)).off rfl) fill_nil))) ?_
 refine Lst.store (i := 2) rfl rfl rfl rfl rfl Try.sizeOf114 (vs := enc (EnterR.mk ({ Enter.zero with Doors := (List.replicate n14 Door.zero) } : Enter) s17 Sl.nil)) rfl (Enc.len _) (Enc.one _) (cs' := enc (EnterR.mk ({ Enter.zero with Doors := (List.replicate n14 Door.zero) } : Enter) s17 Sl.nil)) (Put.here ((Enc.len _).trans (Enc.len _).symm)) (L' := (.rows (α := Int) 3 (List.map DoorR.row (List.replicate n14 ((DoorR.mk Door.zero Sl.nil) : DoorR)))) :: (.own s17 204 5 (encs (List.replicate n14 ((DoorR.mk Door.zero Sl.nil) : DoorR)))) :: (.blk b4 (enc (EnterR.mk ({ Enter.zero with Doors := (List.replicate n14 Door.zero) } : Enter) s17 Sl.nil)) 114) :: (.own Sl.nil 209 3 (encs ([] : List Word))) :: (.own Sl.nil 204 5 (encs ([] : List DoorR))) :: L) rfl ?_
 refine Lst.r (Ev.assign rfl) ?_
 refine Lst.nil ?_
 refine At.then ?_
 obtain rfl := some_inj H
 refine Cd.ret ?_
 exact At.ret2 rfl (Res.cellA (i := 2) rfl rfl Try.isAgg114 Try.sizeOf114 (Enc.len _)) (Res.tmp rfl) (FLe.refl _) (sk1 (sk1 (sc1 (sc1 (sc1 (.refl _)))))) ⟨s17, (List.replicate n14 ((DoorR.mk Door.zero Sl.nil) : DoorR)), Sl.nil, rfl, rfl, hm19, Rd.nil⟩
set_option maxRecDepth 20000 in
theorem enter_others_sim {a0 : Int} {a1 : Int} {r : (BitVec 8)} (H : enter_others a0 a1 = some r) (w0 : World) (F : Frz) (M L : List Item) (hM : M.Sublist L) : Ok Try.prog w0 158 [iv a0, iv a1] F (L) (Is (.int .u8 r.toNat) (L)) := by
 unfold enter_others at H
 refine Ok.enter (m := 2) (n := 11) Try.func158 rfl rfl rfl (by decide) ?_
 refine Cd.env (e' := [(0, iv a0), (1, iv a1)]) rfl ?_
 refine Cd.seq ?_
 refine Cd.region ?_
 refine Lst.r (Ev.assign rfl) ?_
 refine Lst.nil ?_
 refine At.then ?_
 refine Cd.seq ?_
 refine Cd.quiet (by kernel_rfl) (by kernel_rfl) ?_
 refine Qt.r (Ev.move rfl) ?_
 obtain ⟨n1, h2, H⟩ := bind_some H
 refine Qt.r (Ev.shlU8 (i := (1 : BitVec 8)) (m := n1) rfl (congrArg some (congrArg (Value.int .i64) (cnt_some h2)))) ?_
 refine Qt.r (Ev.subU8 (i := (1 : BitVec 8) <<< n1) (j := (1 : BitVec 8)) rfl rfl) ?_
 refine Qt.r (Ev.move rfl) ?_
 obtain ⟨n4, h5, H⟩ := bind_some H
 refine Qt.r (Ev.shlU8 (i := (1 : BitVec 8)) (m := n4) rfl (congrArg some (congrArg (Value.int .i64) (cnt_some h5)))) ?_
 refine Qt.r (Ev.andNotU8 (i := ((1 : BitVec 8) <<< n1) - (1 : BitVec 8)) (j := (1 : BitVec 8) <<< n4) rfl rfl) ?_
 refine Qt.r (Ev.assign rfl) ?_
 refine Qt.done ?_
 refine At.then ?_
 obtain rfl := some_inj H
 refine Cd.ret ?_
 exact At.ret1 rfl (Res.tmp rfl) (FLe.refl _) (.refl _) ⟨rfl, rfl⟩
set_option maxRecDepth 20000 in
theorem slices_Contains_int_int_sim {a0 : List Int} {a1 : Int} {s_a0 : Sl} {r : Bool} (H : slices_Contains_int_int a0 a1 = some r) (w0 : World) (F : Frz) (M L : List Item) (hM : M.Sublist L) (hs_a0 : Rd w0 F M s_a0 a0) : Ok Try.prog w0 50 [Sl.v s_a0, iv a1] F (L) (Is (.bool r) (L)) := by
 unfold slices_Contains_int_int at H
 refine Ok.enter (m := 2) (n := 9) Try.func50 rfl rfl rfl (by decide) ?_
 refine Cd.env (e' := [(0, Sl.v s_a0), (1, iv a1)]) rfl ?_
 refine Cd.seq ?_
 refine Cd.region ?_
 refine Lst.r (Ev.assign rfl) ?_
 refine Lst.nil ?_
 refine At.then ?_
 refine Cd.seq ?_
 refine Cd.region ?_
 refine Lst.r (Ev.move rfl) ?_
 refine Lst.r (Ev.move rfl) ?_
 obtain ⟨r1, h2, H⟩ := bind_some H
 refine Lst.call1 rfl rfl (by decide) (vs := [Sl.v s_a0, iv a1]) ⟨rfl, rfl, trivial⟩ Try.call95 (slices_Index_int_int_sim h2 w0 _ M _ hM (hs_a0.mono (FLe.refl _) (.refl _))) ?_
 refine Lst.r (Ev.geq rfl rfl) ?_
 refine Lst.r (Ev.assign rfl) ?_
 refine Lst.nil ?_
 refine At.then ?_
 obtain rfl := some_inj H
 refine Cd.ret ?_
 exact At.ret1 rfl (Res.tmp rfl) (FLe.refl _) (.refl _) ⟨rfl, rfl⟩
set_option maxRecDepth 20000 in
theorem enter_door_sim {a0 : Door} {a1 : Int} {a2 : Int} {s_a0_4 : Sl} {r : Int} (H : enter_door a0 a1 a2 = some r) (w0 : World) (F : Frz) (M L : List Item) (hM : M.Sublist L) (hs_a0_4 : Rd w0 F M s_a0_4 a0.Later) : Ok Try.prog w0 162 [.agg (enc (DoorR.mk a0 s_a0_4)).toArray, iv a1, iv a2] F (L) (Is (iv r) (L)) := by
 unfold enter_door at H
 refine Ok.enter (m := 3) (n := 94) Try.func162 rfl rfl rfl (by decide) ?_
 refine Cd.env (e' := [(0, .agg (enc (DoorR.mk a0 s_a0_4)).toArray), (1, iv a1), (2, iv a2)]) rfl ?_
 refine Cd.seq ?_
 refine Cd.region ?_
 refine Lst.box rfl rfl (by decide) rfl (cs := enc (DoorR.mk a0 s_a0_4)) rfl (fun b1 => ?_)
 refine Lst.r (Ev.assign rfl) ?_
 refine Lst.nil ?_
 refine At.then ?_
 refine Cd.seq ?_
 refine Cd.block ?_
 refine Cd.seq ?_
 refine Cd.region ?_
 refine Lst.r (Ev.fieldAddr (off' := 0) rfl Try.runUnderlying204 rfl Try.sizeOf3 rfl rfl) ?_
 refine Lst.r (Ev.load (i := 0) rfl rfl Try.isAgg3 (v := iv a0.Clock) ((DoorR.get_Clock (Get.here _)).off (by rfl))) ?_
 obtain ⟨r3, h4, H⟩ := bind_some H
 refine Lst.call1 rfl rfl (by decide) (vs := [iv a0.Clock, iv (0 : Int), iv (16777215 : Int)]) ⟨rfl, rfl, rfl, trivial⟩ Try.call155 (enter_in_sim h4 w0 _ M _ (sc1 hM)) ?_
 refine Lst.r (Ev.not rfl) ?_
 refine Lst.r (Ev.move rfl) ?_
 obtain ⟨o7, H, HKo7⟩ := bind_some H
 refine Lst.join (σ := Bool) 7 (fun y8 => [(1, iv a1), (2, iv a2), (3, pv b1 0), (21, .bool y8)]) (fun y8 => (.blk b1 (enc (DoorR.mk a0 s_a0_4)) 204) :: L) (fun _ y8 => y8 = o7) ?_ ?_
 ·rcases Bool.eq_false_or_eq_true (!r3) with hb9 | hb9
  ·replace H := ite_t hb9 H
   refine Lst.skip rfl rfl rfl hb9 rfl (by decide) ?_
   refine Lst.skip rfl rfl rfl hb9 rfl (by decide) ?_
   refine Lst.skip rfl rfl rfl hb9 rfl (by decide) ?_
   refine Lst.skip rfl rfl rfl hb9 rfl (by decide) ?_
   refine Lst.skip rfl rfl rfl hb9 rfl (by decide) ?_
   refine Lst.skip rfl rfl rfl hb9 rfl (by decide) ?_
   refine Lst.r (Ev.pickT rfl hb9 rfl) ?_
   refine Lst.nil ?_
   exact At.meet true (FLe.refl _) ⟨rfl, rfl, rfl, rfl, trivial⟩ rfl (some_inj H)
  replace H := ite_f hb9 H
  refine Lst.rG hb9 (Ev.fieldAddr (off' := 1) rfl Try.runUnderlying204 rfl Try.sizeOf3 rfl rfl) ?_
  refine Lst.rG hb9 (Ev.load (i := 0) rfl rfl Try.isAgg3 (v := iv a0.Wish) ((DoorR.get_Wish (Get.here _)).off (by rfl))) ?_
  refine Lst.rG hb9 (Ev.fieldAddr (off' := 0) rfl Try.runUnderlying204 rfl Try.sizeOf3 rfl rfl) ?_
  refine Lst.rG hb9 (Ev.load (i := 0) rfl rfl Try.isAgg3 (v := iv a0.Clock) ((DoorR.get_Clock (Get.here _)).off (by rfl))) ?_
  obtain ⟨r10, h11, H⟩ := bind_some H
  refine Lst.call1G rfl rfl rfl hb9 rfl (by decide) (vs := [iv a0.Wish, iv (0 : Int), iv a0.Clock]) ⟨rfl, rfl, rfl, trivial⟩ Try.call155 (enter_in_sim h11 w0 _ M _ (sc1 hM)) ?_
  refine Lst.rG hb9 (Ev.not rfl) ?_
  refine Lst.r (Ev.pickF rfl hb9 rfl) ?_
  refine Lst.nil ?_
  exact At.meet (!r10) (FLe.refl _) ⟨rfl, rfl, rfl, rfl, trivial⟩ rfl (some_inj H)
 rintro F14 y8 hF15 hy
 subst hy
 refine Lst.as (e' := [(1, iv a1), (2, iv a2), (3, pv b1 0), (21, .bool y8)]) (L' := (.blk b1 (enc (DoorR.mk a0 s_a0_4)) 204) :: L) ⟨rfl, rfl, rfl, rfl, trivial⟩ rfl ?_
 replace H := HKo7
 refine Lst.r (Ev.move rfl) ?_
 obtain ⟨o16, H, HKo16⟩ := bind_some H
 refine Lst.join (σ := Bool) 5 (fun y17 => [(1, iv a1), (2, iv a2), (3, pv b1 0), (27, .bool y17)]) (fun y17 => (.blk b1 (enc (DoorR.mk a0 s_a0_4)) 204) :: L) (fun _ y17 => y17 = o16) ?_ ?_
 ·rcases Bool.eq_false_or_eq_true y8 with hb18 | hb18
  ·replace H := ite_t hb18 H
   refine Lst.skip rfl rfl rfl hb18 rfl (by decide) ?_
   refine Lst.skip rfl rfl rfl hb18 rfl (by decide) ?_
   refine Lst.skip rfl rfl rfl hb18 rfl (by decide) ?_
   refine Lst.skip rfl rfl rfl hb18 rfl (by decide) ?_
   refine Lst.r (Ev.pickT rfl hb18 rfl) ?_
   refine Lst.nil ?_
   exact At.meet true (FLe.refl _) ⟨rfl, rfl, rfl, rfl, trivial⟩ rfl (some_inj H)
  replace H := ite_f hb18 H
  refine Lst.rG hb18 (Ev.fieldAddr (off' := 4) rfl Try.runUnderlying204 rfl Try.sizeOf36 rfl rfl) ?_
  refine Lst.rG hb18 (Ev.load (i := 0) rfl rfl Try.isAgg36 (v := Sl.v s_a0_4) ((DoorR.get_Later (Get.here _)).off (by rfl))) ?_
  refine Lst.rG hb18 (Ev.lenS (α := Int) (xs := a0.Later) (by decide) rfl rfl Try.runUnderlying36 (hs_a0_4.mono hF15 (sc1 hM))) ?_
  refine Lst.rG hb18 (Ev.gtr rfl rfl) ?_
  refine Lst.r (Ev.pickF rfl hb18 rfl) ?_
  refine Lst.nil ?_
  exact At.meet (decide ((a0.Later.length : Int) > (6 : Int))) (FLe.refl _) ⟨rfl, rfl, rfl, rfl, trivial⟩ rfl (some_inj H)
 rintro F19 y17 hF20 hy
 subst hy
 refine Lst.as (e' := [(1, iv a1), (2, iv a2), (3, pv b1 0), (27, .bool y17)]) (L' := (.blk b1 (enc (DoorR.mk a0 s_a0_4)) 204) :: L) ⟨rfl, rfl, rfl, rfl, trivial⟩ rfl ?_
 replace H := HKo16
 refine Lst.r (Ev.assign rfl) ?_
 refine Lst.nil ?_
 refine At.then ?_
 rcases Bool.eq_false_or_eq_true y17 with hb21 | hb21
 ·replace H := ite_t hb21 H
  refine Cd.condT rfl hb21 ?_
  refine Cd.seq ?_
  refine Cd.region ?_
  refine Lst.r (Ev.assign rfl) ?_
  refine Lst.nil ?_
  refine At.then ?_
  obtain rfl := some_inj H
  refine Cd.ret ?_
  refine At.in_ret ?_
  refine At.then_ret ?_
  exact At.ret1 rfl (Res.tmp rfl) (FLe.trans hF15 hF20) (sc1 (.refl _)) ⟨rfl, rfl⟩
 replace H := ite_f hb21 H
 refine Cd.condF rfl hb21 ?_
 refine Cd.seq ?_
 refine Cd.quiet (by kernel_rfl) (by kernel_rfl) ?_
 refine Qt.r (Ev.fieldAddr (off' := 2) rfl Try.runUnderlying204 rfl Try.sizeOf5 rfl rfl) ?_
 refine Qt.r (Ev.load (i := 0) rfl rfl Try.isAgg5 (v := .int .u8 a0.Yes.toNat) ((DoorR.get_Yes (Get.here _)).off (by rfl))) ?_
 refine Qt.r (Ev.move rfl) ?_
 refine Qt.r (Ev.move rfl) ?_
 obtain ⟨r22, h23, H⟩ := bind_some H
 refine Qt.call rfl rfl (by decide) (vs := [iv a2, iv a1]) ⟨rfl, rfl, trivial⟩ Try.call158 (enter_others_sim h23 w0 _ M _ (sc1 hM)) ?_
 refine Qt.r (Ev.andNotU8 (i := a0.Yes) (j := r22) rfl rfl) ?_
 refine Qt.r (Ev.neq rfl rfl) ?_
 refine Qt.r (Ev.assign rfl) ?_
 refine Qt.done ?_
 refine At.then ?_
 rcases Bool.eq_false_or_eq_true (((a0.Yes &&& ~~~r22).toNat : Int) != ((0 : BitVec 8).toNat : Int)) with hb26 | hb26
 ·replace H := ite_t hb26 H
  refine Cd.condT rfl hb26 ?_
  refine Cd.seq ?_
  refine Cd.region ?_
  refine Lst.r (Ev.assign rfl) ?_
  refine Lst.nil ?_
  refine At.then ?_
  obtain rfl := some_inj H
  refine Cd.ret ?_
  refine At.in_ret ?_
  refine At.then_ret ?_
  exact At.ret1 rfl (Res.tmp rfl) (FLe.trans hF15 hF20) (sc1 (.refl _)) ⟨rfl, rfl⟩
 replace H := ite_f hb26 H
 refine Cd.condF rfl hb26 ?_
 refine Cd.seq ?_
 refine Cd.quiet (by kernel_rfl) (by kernel_rfl) ?_
 refine Qt.r (Ev.fieldAddr (off' := 1) rfl Try.runUnderlying204 rfl Try.sizeOf3 rfl rfl) ?_
 refine Qt.r (Ev.load (i := 0) rfl rfl Try.isAgg3 (v := iv a0.Wish) ((DoorR.get_Wish (Get.here _)).off (by rfl))) ?_
 refine Qt.r (Ev.eql rfl rfl) ?_
 refine Qt.r (Ev.move rfl) ?_
 obtain ⟨o27, H, HKo27⟩ := bind_some H
 refine Qt.join (σ := Bool) 14 (fun y28 => [(1, iv a1), (2, iv a2), (3, pv b1 0), (54, .bool y28)]) (fun y28 => y28 = o27) ?_ ?_
 ·rcases (Bool.eq_false_or_eq_true (a0.Wish == (0 : Int))).symm with hb29 | hb29
  ·replace H := ite_f hb29 H
   refine Qt.skip rfl rfl rfl hb29 rfl (by decide) ?_
   refine Qt.skip rfl rfl rfl hb29 rfl (by decide) ?_
   refine Qt.skip rfl rfl rfl hb29 rfl (by decide) ?_
   refine Qt.skip rfl rfl rfl hb29 rfl (by decide) ?_
   refine Qt.skipU rfl rfl rfl rfl (by decide) ?_
   refine Qt.skipU rfl rfl rfl rfl (by decide) ?_
   refine Qt.skip rfl rfl rfl hb29 rfl (by decide) ?_
   refine Qt.skip rfl rfl rfl hb29 rfl (by decide) ?_
   refine Qt.skipU rfl rfl rfl rfl (by decide) ?_
   refine Qt.skipU rfl rfl rfl rfl (by decide) ?_
   refine Qt.skipU rfl rfl rfl rfl (by decide) ?_
   refine Qt.skipU rfl rfl rfl rfl (by decide) ?_
   refine Qt.skip rfl rfl rfl hb29 rfl (by decide) ?_
   refine Qt.r (Ev.pickF rfl hb29 rfl) ?_
   exact Qt.meet false ⟨rfl, rfl, rfl, rfl, trivial⟩ (some_inj H)
  replace H := ite_t hb29 H
  refine Qt.rG hb29 (Ev.fieldAddr (off' := 2) rfl Try.runUnderlying204 rfl Try.sizeOf5 rfl rfl) ?_
  refine Qt.rG hb29 (Ev.load (i := 0) rfl rfl Try.isAgg5 (v := .int .u8 a0.Yes.toNat) ((DoorR.get_Yes (Get.here _)).off (by rfl))) ?_
  refine Qt.rG hb29 (Ev.neq rfl rfl) ?_
  refine Qt.rG hb29 (Ev.move rfl) ?_
  obtain ⟨o30, H, HKo30⟩ := bind_some H
  refine Qt.join (σ := Bool) 3 (fun y31 => [(1, iv a1), (2, iv a2), (3, pv b1 0), (40, .bool (a0.Wish == (0 : Int))), (47, .bool y31)]) (fun y31 => y31 = o30) ?_ ?_
  ·rcases Bool.eq_false_or_eq_true ((a0.Yes.toNat : Int) != ((0 : BitVec 8).toNat : Int)) with hb32 | hb32
   ·replace H := ite_t hb32 H
    refine Qt.skip rfl rfl rfl hb32 rfl (by decide) ?_
    refine Qt.skip rfl rfl rfl hb32 rfl (by decide) ?_
    refine Qt.rG hb29 (Ev.pickT rfl hb32 rfl) ?_
    exact Qt.meet true ⟨rfl, rfl, rfl, rfl, rfl, trivial⟩ (some_inj H)
   replace H := ite_f hb32 H
   refine Qt.rG hb32 (Ev.fieldAddr (off' := 3) rfl Try.runUnderlying204 rfl Try.sizeOf4 rfl rfl) ?_
   refine Qt.rG hb32 (Ev.load (i := 0) rfl rfl Try.isAgg4 (v := .bool a0.In) ((DoorR.get_In (Get.here _)).off (by rfl))) ?_
   refine Qt.rG hb29 (Ev.pickF rfl hb32 rfl) ?_
   exact Qt.meet a0.In ⟨rfl, rfl, rfl, rfl, rfl, trivial⟩ (some_inj H)
  rintro y31 hy
  subst hy
  refine Qt.as (e' := [(1, iv a1), (2, iv a2), (3, pv b1 0), (40, .bool (a0.Wish == (0 : Int))), (47, .bool y31)]) ⟨rfl, rfl, rfl, rfl, rfl, trivial⟩ ?_
  replace H := HKo30
  refine Qt.rG hb29 (Ev.move rfl) ?_
  obtain ⟨o33, H, HKo33⟩ := bind_some H
  refine Qt.join (σ := Bool) 5 (fun y34 => [(1, iv a1), (2, iv a2), (3, pv b1 0), (40, .bool (a0.Wish == (0 : Int))), (53, .bool y34)]) (fun y34 => y34 = o33) ?_ ?_
  ·rcases Bool.eq_false_or_eq_true y31 with hb35 | hb35
   ·replace H := ite_t hb35 H
    refine Qt.skip rfl rfl rfl hb35 rfl (by decide) ?_
    refine Qt.skip rfl rfl rfl hb35 rfl (by decide) ?_
    refine Qt.skip rfl rfl rfl hb35 rfl (by decide) ?_
    refine Qt.skip rfl rfl rfl hb35 rfl (by decide) ?_
    refine Qt.rG hb29 (Ev.pickT rfl hb35 rfl) ?_
    exact Qt.meet true ⟨rfl, rfl, rfl, rfl, rfl, trivial⟩ (some_inj H)
   replace H := ite_f hb35 H
   refine Qt.rG hb35 (Ev.fieldAddr (off' := 4) rfl Try.runUnderlying204 rfl Try.sizeOf36 rfl rfl) ?_
   refine Qt.rG hb35 (Ev.load (i := 0) rfl rfl Try.isAgg36 (v := Sl.v s_a0_4) ((DoorR.get_Later (Get.here _)).off (by rfl))) ?_
   refine Qt.rG hb35 (Ev.lenS (α := Int) (xs := a0.Later) (by decide) rfl rfl Try.runUnderlying36 (hs_a0_4.mono (FLe.trans hF15 hF20) (sc1 hM))) ?_
   refine Qt.rG hb35 (Ev.gtr rfl rfl) ?_
   refine Qt.rG hb29 (Ev.pickF rfl hb35 rfl) ?_
   exact Qt.meet (decide ((a0.Later.length : Int) > (0 : Int))) ⟨rfl, rfl, rfl, rfl, rfl, trivial⟩ (some_inj H)
  rintro y34 hy
  subst hy
  refine Qt.as (e' := [(1, iv a1), (2, iv a2), (3, pv b1 0), (40, .bool (a0.Wish == (0 : Int))), (53, .bool y34)]) ⟨rfl, rfl, rfl, rfl, rfl, trivial⟩ ?_
  replace H := HKo33
  refine Qt.r (Ev.pickT rfl hb29 rfl) ?_
  exact Qt.meet y34 ⟨rfl, rfl, rfl, rfl, trivial⟩ (some_inj H)
 rintro y28 hy
 subst hy
 refine Qt.as (e' := [(1, iv a1), (2, iv a2), (3, pv b1 0), (54, .bool y28)]) ⟨rfl, rfl, rfl, rfl, trivial⟩ ?_
 replace H := HKo27
 refine Qt.r (Ev.move rfl) ?_
 obtain ⟨o36, H, HKo36⟩ := bind_some H
 refine Qt.join (σ := Bool) 11 (fun y37 => [(1, iv a1), (2, iv a2), (3, pv b1 0), (66, .bool y37)]) (fun y37 => y37 = o36) ?_ ?_
 ·rcases Bool.eq_false_or_eq_true y28 with hb38 | hb38
  ·replace H := ite_t hb38 H
   refine Qt.skip rfl rfl rfl hb38 rfl (by decide) ?_
   refine Qt.skip rfl rfl rfl hb38 rfl (by decide) ?_
   refine Qt.skip rfl rfl rfl hb38 rfl (by decide) ?_
   refine Qt.skipU rfl rfl rfl rfl (by decide) ?_
   refine Qt.skipU rfl rfl rfl rfl (by decide) ?_
   refine Qt.skipU rfl rfl rfl rfl (by decide) ?_
   refine Qt.skipU rfl rfl rfl rfl (by decide) ?_
   refine Qt.skipU rfl rfl rfl rfl (by decide) ?_
   refine Qt.skipU rfl rfl rfl rfl (by decide) ?_
   refine Qt.skip rfl rfl rfl hb38 rfl (by decide) ?_
   refine Qt.r (Ev.pickT rfl hb38 rfl) ?_
   exact Qt.meet true ⟨rfl, rfl, rfl, rfl, trivial⟩ (some_inj H)
  replace H := ite_f hb38 H
  refine Qt.rG hb38 (Ev.fieldAddr (off' := 3) rfl Try.runUnderlying204 rfl Try.sizeOf4 rfl rfl) ?_
  refine Qt.rG hb38 (Ev.load (i := 0) rfl rfl Try.isAgg4 (v := .bool a0.In) ((DoorR.get_In (Get.here _)).off (by rfl))) ?_
  refine Qt.rG hb38 (Ev.move rfl) ?_
  obtain ⟨o39, H, HKo39⟩ := bind_some H
  refine Qt.join (σ := Bool) 7 (fun y40 => [(1, iv a1), (2, iv a2), (3, pv b1 0), (55, .bool y28), (65, .bool y40)]) (fun y40 => y40 = o39) ?_ ?_
  ·rcases (Bool.eq_false_or_eq_true a0.In).symm with hb41 | hb41
   ·replace H := ite_f hb41 H
    refine Qt.skip rfl rfl rfl hb41 rfl (by decide) ?_
    refine Qt.skip rfl rfl rfl hb41 rfl (by decide) ?_
    refine Qt.skip rfl rfl rfl hb41 rfl (by decide) ?_
    refine Qt.skip rfl rfl rfl hb41 rfl (by decide) ?_
    refine Qt.skip rfl rfl rfl hb41 rfl (by decide) ?_
    refine Qt.skip rfl rfl rfl hb41 rfl (by decide) ?_
    refine Qt.rG hb38 (Ev.pickF rfl hb41 rfl) ?_
    exact Qt.meet false ⟨rfl, rfl, rfl, rfl, rfl, trivial⟩ (some_inj H)
   replace H := ite_t hb41 H
   refine Qt.rG hb41 (Ev.fieldAddr (off' := 2) rfl Try.runUnderlying204 rfl Try.sizeOf5 rfl rfl) ?_
   refine Qt.rG hb41 (Ev.load (i := 0) rfl rfl Try.isAgg5 (v := .int .u8 a0.Yes.toNat) ((DoorR.get_Yes (Get.here _)).off (by rfl))) ?_
   refine Qt.rG hb41 (Ev.move rfl) ?_
   refine Qt.rG hb41 (Ev.move rfl) ?_
   obtain ⟨r42, h43, H⟩ := bind_some H
   refine Qt.callG rfl rfl rfl hb41 rfl (by decide) (vs := [iv a2, iv a1]) ⟨rfl, rfl, trivial⟩ Try.call158 (enter_others_sim h43 w0 _ M _ (sc1 hM)) ?_
   refine Qt.rG hb41 (Ev.neq rfl rfl) ?_
   refine Qt.rG hb38 (Ev.pickT rfl hb41 rfl) ?_
   exact Qt.meet ((a0.Yes.toNat : Int) != (r42.toNat : Int)) ⟨rfl, rfl, rfl, rfl, rfl, trivial⟩ (some_inj H)
  rintro y40 hy
  subst hy
  refine Qt.as (e' := [(1, iv a1), (2, iv a2), (3, pv b1 0), (55, .bool y28), (65, .bool y40)]) ⟨rfl, rfl, rfl, rfl, rfl, trivial⟩ ?_
  replace H := HKo39
  refine Qt.r (Ev.pickF rfl hb38 rfl) ?_
  exact Qt.meet y40 ⟨rfl, rfl, rfl, rfl, trivial⟩ (some_inj H)
 rintro y37 hy
 subst hy
 refine Qt.as (e' := [(1, iv a1), (2, iv a2), (3, pv b1 0), (66, .bool y37)]) ⟨rfl, rfl, rfl, rfl, trivial⟩ ?_
 replace H := HKo36
 refine Qt.r (Ev.assign rfl) ?_
 refine Qt.done ?_
 refine At.then ?_
 rcases Bool.eq_false_or_eq_true y37 with hb46 | hb46
 ·replace H := ite_t hb46 H
  refine Cd.condT rfl hb46 ?_
  refine Cd.seq ?_
  refine Cd.region ?_
  refine Lst.r (Ev.assign rfl) ?_
  refine Lst.nil ?_
  refine At.then ?_
  obtain rfl := some_inj H
  refine Cd.ret ?_
  refine At.in_ret ?_
  refine At.then_ret ?_
  exact At.ret1 rfl (Res.tmp rfl) (FLe.trans hF15 hF20) (sc1 (.refl _)) ⟨rfl, rfl⟩
 replace H := ite_f hb46 H
 refine Cd.condF rfl hb46 ?_
 refine Cd.skip ?_
 refine At.in_normal ?_
 refine At.then ?_
 refine Cd.seq ?_
 refine Cd.seq ?_
 refine Cd.region ?_
 refine Lst.r (Ev.fieldAddr (off' := 4) rfl Try.runUnderlying204 rfl Try.sizeOf36 rfl rfl) ?_
 refine Lst.r (Ev.load (i := 0) rfl rfl Try.isAgg36 (v := Sl.v s_a0_4) ((DoorR.get_Later (Get.here _)).off (by rfl))) ?_
 refine Lst.r (Ev.lenS (α := Int) (xs := a0.Later) (by decide) rfl rfl Try.runUnderlying36 (hs_a0_4.mono (FLe.trans hF15 hF20) (sc1 hM))) ?_
 refine Lst.r (Ev.move rfl) ?_
 refine Lst.nil ?_
 refine At.then ?_
 refine Cd.block ?_
 refine Cd.bound (Rd.le (α := Int) (xs := a0.Later) (by decide) (hs_a0_4.mono (FLe.trans hF15 hF20) (sc1 hM))) (fun hN77 => ?_)
 obtain ⟨ol47, H, HKl47⟩ := andThen_some H
 refine Cd.loop (σ := Nat × Nat × Unit) (fun (i47, k47, _u) => [(1, iv a1), (2, iv a2), (3, pv b1 0), (68, Sl.v s_a0_4), (69, iv (a0.Later.length : Int)), (70, iv (i47 : Int))]) (fun (i47, k47, _u) => (.blk b1 (enc (DoorR.mk a0 s_a0_4)) 204) :: L) (fun _ => (fun (i47, k47, _u) => rangeM (enter_door_B1 a0 a1 a2) k47 i47 () = some ol47 ∧ i47 + k47 = a0.Later.length)) (fun (i47, k47, _u) => k47) (0, a0.Later.length, ()) ⟨rfl, rfl, rfl, rfl, rfl, rfl, trivial⟩ rfl ⟨H, by omega⟩ ?_
 rintro F48 ⟨i47, k47, _u⟩ hF49 ⟨H, hik47⟩
 refine Cd.as (e' := [(1, iv a1), (2, iv a2), (3, pv b1 0), (68, Sl.v s_a0_4), (69, iv (a0.Later.length : Int)), (70, iv (i47 : Int))]) (L' := (.blk b1 (enc (DoorR.mk a0 s_a0_4)) 204) :: L) ⟨rfl, rfl, rfl, rfl, rfl, rfl, trivial⟩ rfl ?_
 rcases k47 with _ | k47
 ·have hc47 : decide ((i47 : Int) < (a0.Later.length : Int)) = false := decide_eq_false (by omega)
  replace H := rangeM_end H
  refine Cd.seq ?_
  refine Cd.region ?_
  refine Lst.r (Ev.lss rfl rfl) ?_
  refine Lst.nil ?_
  refine At.then ?_
  refine Cd.seq ?_
  refine Cd.condF rfl hc47 ?_
  refine Cd.exit ?_
  refine At.then_exit ?_
  refine At.then_exit ?_
  refine At.in_exit ?_
  subst H
  replace H := HKl47
  refine At.then ?_
  refine Cd.seq ?_
  refine Cd.region ?_
  refine Lst.r (Ev.assign rfl) ?_
  refine Lst.nil ?_
  refine At.then ?_
  obtain rfl := some_inj H
  refine Cd.ret ?_
  exact At.ret1 rfl (Res.tmp rfl) (FLe.trans (FLe.trans hF15 hF20) hF49) (sc1 (.refl _)) ⟨rfl, rfl⟩
 have hc47 : decide ((i47 : Int) < (a0.Later.length : Int)) = true := decide_eq_true (by omega)
 obtain ⟨c47, H, hgo47, hbrk47, hret47⟩ := rangeM_go H
 unfold enter_door_B1 at H
 try dsimp only at H
 refine Cd.seq ?_
 refine Cd.region ?_
 refine Lst.r (Ev.lss rfl rfl) ?_
 refine Lst.nil ?_
 refine At.then ?_
 refine Cd.seq ?_
 refine Cd.condT rfl hc47 ?_
 refine Cd.skip ?_
 refine At.then ?_
 refine Cd.seq ?_
 refine Cd.block ?_
 refine Cd.seq ?_
 refine Cd.region ?_
 refine Lst.r (Ev.move rfl) ?_
 obtain ⟨x50, h51, H⟩ := bind_some H
 have g52 := lat_some h51
 refine Lst.r (Ev.indexS (α := Int) (xs := a0.Later) rfl rfl Try.runUnderlying36 Try.sizeOf3 rfl (by decide) (hs_a0_4.mono (FLe.trans (FLe.trans hF15 hF20) hF49) (sc1 hM)) g52.1 g52.2.1) ?_
 refine Lst.r (Ev.loadS (α := Int) rfl (hs_a0_4.mono (FLe.trans (FLe.trans hF15 hF20) hF49) (sc1 hM)) Try.isAgg3 (v := iv x50) ((Get.elemN (s := 1) (x := x50) rfl g52.2.2 (Get.here _)).off (by omega))) ?_
 refine Lst.r (Ev.assign rfl) ?_
 refine Lst.r (Ev.assign rfl) ?_
 refine Lst.nil ?_
 refine At.then ?_
 refine Cd.seq ?_
 refine Cd.region ?_
 refine Lst.r (Ev.move rfl) ?_
 refine Lst.r (Ev.move rfl) ?_
 refine Lst.r (Ev.sub rfl rfl) ?_
 obtain ⟨r53, h54, H⟩ := bind_some H
 refine Lst.call1 rfl rfl (by decide) (vs := [iv x50, iv (0 : Int), iv (w64 (a2 - (1 : Int)))]) ⟨rfl, rfl, rfl, trivial⟩ Try.call155 (enter_in_sim h54 w0 _ M _ (sc1 hM)) ?_
 refine Lst.r (Ev.not rfl) ?_
 refine Lst.r (Ev.move rfl) ?_
 obtain ⟨o57, H, HKo57⟩ := bind_some H
 refine Lst.join (σ := Bool) 4 (fun y58 => [(1, iv a1), (2, iv a2), (3, pv b1 0), (7, iv (i47 : Int)), (8, iv x50), (68, Sl.v s_a0_4), (69, iv (a0.Later.length : Int)), (70, iv (i47 : Int)), (84, .bool y58)]) (fun y58 => (.blk b1 (enc (DoorR.mk a0 s_a0_4)) 204) :: L) (fun _ y58 => y58 = o57) ?_ ?_
 ·rcases Bool.eq_false_or_eq_true (!r53) with hb59 | hb59
  ·replace H := ite_t hb59 H
   refine Lst.skip rfl rfl rfl hb59 rfl (by decide) ?_
   refine Lst.skip rfl rfl rfl hb59 rfl (by decide) ?_
   refine Lst.skip rfl rfl rfl hb59 rfl (by decide) ?_
   refine Lst.r (Ev.pickT rfl hb59 rfl) ?_
   refine Lst.nil ?_
   exact At.meet true (FLe.refl _) ⟨rfl, rfl, rfl, rfl, rfl, rfl, rfl, rfl, rfl, trivial⟩ rfl (some_inj H)
  replace H := ite_f hb59 H
  refine Lst.rG hb59 (Ev.move rfl) ?_
  refine Lst.rG hb59 (Ev.move rfl) ?_
  refine Lst.rG hb59 (Ev.eql rfl rfl) ?_
  refine Lst.r (Ev.pickF rfl hb59 rfl) ?_
  refine Lst.nil ?_
  exact At.meet (x50 == a1) (FLe.refl _) ⟨rfl, rfl, rfl, rfl, rfl, rfl, rfl, rfl, rfl, trivial⟩ rfl (some_inj H)
 rintro F60 y58 hF61 hy
 subst hy
 refine Lst.as (e' := [(1, iv a1), (2, iv a2), (3, pv b1 0), (7, iv (i47 : Int)), (8, iv x50), (68, Sl.v s_a0_4), (69, iv (a0.Later.length : Int)), (70, iv (i47 : Int)), (84, .bool y58)]) (L' := (.blk b1 (enc (DoorR.mk a0 s_a0_4)) 204) :: L) ⟨rfl, rfl, rfl, rfl, rfl, rfl, rfl, rfl, rfl, trivial⟩ rfl ?_
 replace H := HKo57
 refine Lst.r (Ev.move rfl) ?_
 obtain ⟨o62, H, HKo62⟩ := bind_some H
 refine Lst.join (σ := Bool) 7 (fun y63 => [(1, iv a1), (2, iv a2), (3, pv b1 0), (68, Sl.v s_a0_4), (69, iv (a0.Later.length : Int)), (70, iv (i47 : Int)), (92, .bool y63)]) (fun y63 => (.blk b1 (enc (DoorR.mk a0 s_a0_4)) 204) :: L) (fun _ y63 => y63 = o62) ?_ ?_
 ·rcases Bool.eq_false_or_eq_true y58 with hb64 | hb64
  ·replace H := ite_t hb64 H
   refine Lst.skip rfl rfl rfl hb64 rfl (by decide) ?_
   refine Lst.skip rfl rfl rfl hb64 rfl (by decide) ?_
   refine Lst.skip rfl rfl rfl hb64 rfl (by decide) ?_
   refine Lst.skip rfl rfl rfl hb64 rfl (by decide) ?_
   refine Lst.skip rfl rfl rfl hb64 rfl (by decide) ?_
   refine Lst.skip rfl rfl rfl hb64 rfl (by decide) ?_
   refine Lst.r (Ev.pickT rfl hb64 rfl) ?_
   refine Lst.nil ?_
   exact At.meet true (FLe.refl _) ⟨rfl, rfl, rfl, rfl, rfl, rfl, rfl, trivial⟩ rfl (some_inj H)
  replace H := ite_f hb64 H
  refine Lst.rG hb64 (Ev.fieldAddr (off' := 4) rfl Try.runUnderlying204 rfl Try.sizeOf36 rfl rfl) ?_
  refine Lst.rG hb64 (Ev.load (i := 0) rfl rfl Try.isAgg36 (v := Sl.v s_a0_4) ((DoorR.get_Later (Get.here _)).off (by rfl))) ?_
  refine Lst.rG hb64 (Ev.move rfl) ?_
  obtain ⟨m65, h66, H⟩ := bind_some H
  obtain ⟨g67, gl68⟩ := cutL_some h66
  try dsimp only at g67
  have hq69 : Rd w0 F M (s_a0_4.cut (0 : Int).toNat ((i47 : Int) : Int).toNat 1) m65 := by rw [← gl68]; exact Rd.cut (by decide) hs_a0_4 (by omega) (by omega)
  refine Lst.rG hb64 (Ev.cut (α := Int) (xs := a0.Later) (i := 0) (j := (i47 : Int)) rfl rfl rfl Try.runUnderlying36 Try.sizeOf3 rfl (by decide) (hs_a0_4.mono (FLe.trans (FLe.trans (FLe.trans hF15 hF20) hF49) hF61) (sc1 hM)) g67.1 g67.2.1 g67.2.2) ?_
  refine Lst.rG hb64 (Ev.move rfl) ?_
  obtain ⟨r70, h71, H⟩ := bind_some H
  refine Lst.call1G rfl rfl rfl hb64 rfl (by decide) (vs := [Sl.v (s_a0_4.cut (0 : Int).toNat ((i47 : Int) : Int).toNat 1), iv x50]) ⟨rfl, rfl, trivial⟩ Try.call50 (slices_Contains_int_int_sim h71 w0 _ M _ (sc1 hM) (hq69.mono (FLe.trans (FLe.trans (FLe.trans hF15 hF20) hF49) hF61) (.refl _))) ?_
  refine Lst.r (Ev.pickF rfl hb64 rfl) ?_
  refine Lst.nil ?_
  exact At.meet r70 (FLe.refl _) ⟨rfl, rfl, rfl, rfl, rfl, rfl, rfl, trivial⟩ rfl (some_inj H)
 rintro F74 y63 hF75 hy
 subst hy
 refine Lst.as (e' := [(1, iv a1), (2, iv a2), (3, pv b1 0), (68, Sl.v s_a0_4), (69, iv (a0.Later.length : Int)), (70, iv (i47 : Int)), (92, .bool y63)]) (L' := (.blk b1 (enc (DoorR.mk a0 s_a0_4)) 204) :: L) ⟨rfl, rfl, rfl, rfl, rfl, rfl, rfl, trivial⟩ rfl ?_
 replace H := HKo62
 refine Lst.nil ?_
 refine At.then ?_
 rcases Bool.eq_false_or_eq_true y63 with hb76 | hb76
 ·replace H := ite_t hb76 H
  refine Cd.condT rfl hb76 ?_
  refine Cd.seq ?_
  refine Cd.region ?_
  refine Lst.r (Ev.assign rfl) ?_
  refine Lst.nil ?_
  refine At.then ?_
  have H := hret47 _ (some_inj H).symm
  subst H
  replace H := HKl47
  obtain rfl := some_inj H
  refine Cd.ret ?_
  refine At.in_ret ?_
  refine At.then_ret ?_
  refine At.then_ret ?_
  refine At.in_ret ?_
  refine At.then_ret ?_
  exact At.ret1 rfl (Res.tmp rfl) (FLe.trans (FLe.trans (FLe.trans (FLe.trans hF15 hF20) hF49) hF61) hF75) (sc1 (.refl _)) ⟨rfl, rfl⟩
 replace H := ite_f hb76 H
 refine Cd.condF rfl hb76 ?_
 refine Cd.skip ?_
 refine At.in_normal ?_
 refine At.then ?_
 refine Cd.region ?_
 refine Lst.r (Ev.incr (by omega) rfl rfl) ?_
 refine Lst.r (Ev.move rfl) ?_
 refine Lst.nil ?_
 exact At.meet (i47 + 1, k47, ()) (FLe.trans (FLe.trans hF49 hF61) hF75) ⟨rfl, rfl, rfl, rfl, rfl, rfl, trivial⟩ rfl ⟨⟨hgo47 _ (some_inj H).symm, by omega⟩, Nat.lt_succ_self _⟩
set_option maxRecDepth 20000 in
theorem enter_Check_sim {a0 : Enter} {s_a0_0 : Sl} {rs_a0_0 : List DoorR} {s_a0_1 : Sl} {r : Int} (H : enter_Check a0 = some r) (w0 : World) (F : Frz) (M L : List Item) (hM : M.Sublist L) (hm_a0_0 : rs_a0_0.map DoorR.v = a0.Doors) (hs_a0_0 : Rd w0 F M s_a0_0 rs_a0_0) (ha_a0_0 : All DoorR.rel w0 F M rs_a0_0) (hs_a0_1 : Rd w0 F M s_a0_1 a0.Way) : Ok Try.prog w0 69 [.agg (enc (EnterR.mk a0 s_a0_0 s_a0_1)).toArray] F (L) (Is (iv r) (L)) := by
 unfold enter_Check at H
 refine Ok.enter (m := 1) (n := 70) Try.func69 rfl rfl rfl (by decide) ?_
 refine Cd.env (e' := [(0, .agg (enc (EnterR.mk a0 s_a0_0 s_a0_1)).toArray)]) rfl ?_
 refine Cd.seq ?_
 refine Cd.region ?_
 refine Lst.box rfl rfl (by decide) rfl (cs := enc (EnterR.mk a0 s_a0_0 s_a0_1)) rfl (fun b1 => ?_)
 refine Lst.r (Ev.assign rfl) ?_
 refine Lst.nil ?_
 refine At.then ?_
 refine Cd.seq ?_
 refine Cd.region ?_
 refine Lst.r (Ev.fieldAddr (off' := 0) rfl Try.runUnderlying114 rfl Try.sizeOf111 rfl rfl) ?_
 refine Lst.r (Ev.load (i := 0) rfl rfl Try.isAgg111 (v := Sl.v s_a0_0) ((EnterR.get_Doors (Get.here _)).off (by rfl))) ?_
 refine Lst.r (Ev.lenM (map_len hm_a0_0) (Ev.lenS (α := DoorR) (xs := rs_a0_0) (by decide) rfl rfl Try.runUnderlying111 (hs_a0_0.mono (FLe.refl _) (sc1 hM)))) ?_
 refine Lst.r (Ev.assign rfl) ?_
 refine Lst.nil ?_
 refine At.then ?_
 refine Cd.seq ?_
 refine Cd.seq ?_
 refine Cd.region ?_
 refine Lst.r (Ev.move rfl) ?_
 obtain ⟨r4, h5, H⟩ := bind_some H
 refine Lst.call1 rfl rfl (by decide) (vs := [iv (a0.Doors.length : Int), iv (1 : Int), iv (6 : Int)]) ⟨rfl, rfl, rfl, trivial⟩ Try.call155 (enter_in_sim h5 w0 _ M _ (sc1 hM)) ?_
 refine Lst.r (Ev.not rfl) ?_
 refine Lst.nil ?_
 refine At.then ?_
 rcases Bool.eq_false_or_eq_true (!r4) with hb8 | hb8
 ·replace H := ite_t hb8 H
  refine Cd.condT rfl hb8 ?_
  refine Cd.seq ?_
  refine Cd.region ?_
  refine Lst.r (Ev.assign rfl) ?_
  refine Lst.nil ?_
  refine At.then ?_
  obtain rfl := some_inj H
  refine Cd.ret ?_
  refine At.then_ret ?_
  exact At.ret1 rfl (Res.tmp rfl) (FLe.refl _) (sc1 (.refl _)) ⟨rfl, rfl⟩
 replace H := ite_f hb8 H
 refine Cd.condF rfl hb8 ?_
 refine Cd.skip ?_
 refine At.then ?_
 refine Cd.seq ?_
 refine Cd.seq ?_
 refine Cd.region ?_
 refine Lst.r (Ev.fieldAddr (off' := 0) rfl Try.runUnderlying114 rfl Try.sizeOf111 rfl rfl) ?_
 refine Lst.r (Ev.load (i := 0) rfl rfl Try.isAgg111 (v := Sl.v s_a0_0) ((EnterR.get_Doors (Get.here _)).off (by rfl))) ?_
 refine Lst.r (Ev.lenM (map_len hm_a0_0) (Ev.lenS (α := DoorR) (xs := rs_a0_0) (by decide) rfl rfl Try.runUnderlying111 (hs_a0_0.mono (FLe.refl _) (sc1 hM)))) ?_
 refine Lst.r (Ev.move rfl) ?_
 refine Lst.nil ?_
 refine At.then ?_
 refine Cd.block ?_
 refine Cd.bound (Rd.le (α := DoorR) (xs := rs_a0_0) (by decide) (hs_a0_0.mono (FLe.refl _) (sc1 hM))) (fun hN59 => ?_)
 rw [map_len hm_a0_0] at hN59
 obtain ⟨ol10, H, HKl10⟩ := andThen_some H
 refine Cd.loop (σ := Nat × Nat × Unit) (fun (i10, k10, _u) => [(1, pv b1 0), (3, iv (a0.Doors.length : Int)), (16, Sl.v s_a0_0), (17, iv (a0.Doors.length : Int)), (18, iv (i10 : Int))]) (fun (i10, k10, _u) => (.blk b1 (enc (EnterR.mk a0 s_a0_0 s_a0_1)) 114) :: L) (fun _ => (fun (i10, k10, _u) => rangeM (enter_Check_B0 a0) k10 i10 () = some ol10 ∧ i10 + k10 = a0.Doors.length)) (fun (i10, k10, _u) => k10) (0, a0.Doors.length, ()) ⟨rfl, rfl, rfl, rfl, rfl, trivial⟩ rfl ⟨H, by omega⟩ ?_
 rintro F11 ⟨i10, k10, _u⟩ hF12 ⟨H, hik10⟩
 refine Cd.as (e' := [(1, pv b1 0), (3, iv (a0.Doors.length : Int)), (16, Sl.v s_a0_0), (17, iv (a0.Doors.length : Int)), (18, iv (i10 : Int))]) (L' := (.blk b1 (enc (EnterR.mk a0 s_a0_0 s_a0_1)) 114) :: L) ⟨rfl, rfl, rfl, rfl, rfl, trivial⟩ rfl ?_
 rcases k10 with _ | k10
 ·have hc10 : decide ((i10 : Int) < (a0.Doors.length : Int)) = false := decide_eq_false (by omega)
  replace H := rangeM_end H
  refine Cd.seq ?_
  refine Cd.region ?_
  refine Lst.r (Ev.lss rfl rfl) ?_
  refine Lst.nil ?_
  refine At.then ?_
  refine Cd.seq ?_
  refine Cd.condF rfl hc10 ?_
  refine Cd.exit ?_
  refine At.then_exit ?_
  refine At.then_exit ?_
  refine At.in_exit ?_
  subst H
  replace H := HKl10
  refine At.then ?_
  refine Cd.seq ?_
  refine Cd.seq ?_
  refine Cd.region ?_
  refine Lst.r (Ev.fieldAddr (off' := 1) rfl Try.runUnderlying114 rfl Try.sizeOf112 rfl rfl) ?_
  refine Lst.r (Ev.load (i := 0) rfl rfl Try.isAgg112 (v := Sl.v s_a0_1) ((EnterR.get_Way (Get.here _)).off (by rfl))) ?_
  refine Lst.r (Ev.lenS (α := Word) (xs := a0.Way) (by decide) rfl rfl Try.runUnderlying112 (hs_a0_1.mono hF12 (sc1 hM))) ?_
  refine Lst.r (Ev.gtr rfl rfl) ?_
  refine Lst.nil ?_
  refine At.then ?_
  rcases Bool.eq_false_or_eq_true (decide ((a0.Way.length : Int) > (100 : Int))) with hb25 | hb25
  ·replace H := ite_t hb25 H
   refine Cd.condT rfl hb25 ?_
   refine Cd.seq ?_
   refine Cd.region ?_
   refine Lst.r (Ev.assign rfl) ?_
   refine Lst.nil ?_
   refine At.then ?_
   obtain rfl := some_inj H
   refine Cd.ret ?_
   refine At.then_ret ?_
   exact At.ret1 rfl (Res.tmp rfl) hF12 (sc1 (.refl _)) ⟨rfl, rfl⟩
  replace H := ite_f hb25 H
  refine Cd.condF rfl hb25 ?_
  refine Cd.skip ?_
  refine At.then ?_
  refine Cd.seq ?_
  refine Cd.seq ?_
  refine Cd.region ?_
  refine Lst.r (Ev.fieldAddr (off' := 1) rfl Try.runUnderlying114 rfl Try.sizeOf112 rfl rfl) ?_
  refine Lst.r (Ev.load (i := 0) rfl rfl Try.isAgg112 (v := Sl.v s_a0_1) ((EnterR.get_Way (Get.here _)).off (by rfl))) ?_
  refine Lst.r (Ev.lenS (α := Word) (xs := a0.Way) (by decide) rfl rfl Try.runUnderlying112 (hs_a0_1.mono hF12 (sc1 hM))) ?_
  refine Lst.r (Ev.move rfl) ?_
  refine Lst.nil ?_
  refine At.then ?_
  refine Cd.block ?_
  refine Cd.bound (Rd.le (α := Word) (xs := a0.Way) (by decide) (hs_a0_1.mono hF12 (sc1 hM))) (fun hN58 => ?_)
  obtain ⟨ol26, H, HKl26⟩ := andThen_some H
  refine Cd.loop (σ := Nat × Nat × Unit) (fun (i26, k26, _u) => [(3, iv (a0.Doors.length : Int)), (36, Sl.v s_a0_1), (37, iv (a0.Way.length : Int)), (38, iv (i26 : Int))]) (fun (i26, k26, _u) => (.blk b1 (enc (EnterR.mk a0 s_a0_0 s_a0_1)) 114) :: L) (fun _ => (fun (i26, k26, _u) => rangeM (enter_Check_B2 a0) k26 i26 () = some ol26 ∧ i26 + k26 = a0.Way.length)) (fun (i26, k26, _u) => k26) (0, a0.Way.length, ()) ⟨rfl, rfl, rfl, rfl, trivial⟩ rfl ⟨H, by omega⟩ ?_
  rintro F27 ⟨i26, k26, _u⟩ hF28 ⟨H, hik26⟩
  refine Cd.as (e' := [(3, iv (a0.Doors.length : Int)), (36, Sl.v s_a0_1), (37, iv (a0.Way.length : Int)), (38, iv (i26 : Int))]) (L' := (.blk b1 (enc (EnterR.mk a0 s_a0_0 s_a0_1)) 114) :: L) ⟨rfl, rfl, rfl, rfl, trivial⟩ rfl ?_
  rcases k26 with _ | k26
  ·have hc26 : decide ((i26 : Int) < (a0.Way.length : Int)) = false := decide_eq_false (by omega)
   replace H := rangeM_end H
   refine Cd.seq ?_
   refine Cd.region ?_
   refine Lst.r (Ev.lss rfl rfl) ?_
   refine Lst.nil ?_
   refine At.then ?_
   refine Cd.seq ?_
   refine Cd.condF rfl hc26 ?_
   refine Cd.exit ?_
   refine At.then_exit ?_
   refine At.then_exit ?_
   refine At.in_exit ?_
   subst H
   replace H := HKl26
   refine At.then ?_
   refine Cd.seq ?_
   refine Cd.region ?_
   refine Lst.r (Ev.assign rfl) ?_
   refine Lst.nil ?_
   refine At.then ?_
   obtain rfl := some_inj H
   refine Cd.ret ?_
   exact At.ret1 rfl (Res.tmp rfl) (FLe.trans hF12 hF28) (sc1 (.refl _)) ⟨rfl, rfl⟩
  have hc26 : decide ((i26 : Int) < (a0.Way.length : Int)) = true := decide_eq_true (by omega)
  obtain ⟨c26, H, hgo26, hbrk26, hret26⟩ := rangeM_go H
  unfold enter_Check_B2 at H
  try dsimp only at H
  refine Cd.seq ?_
  refine Cd.region ?_
  refine Lst.r (Ev.lss rfl rfl) ?_
  refine Lst.nil ?_
  refine At.then ?_
  refine Cd.seq ?_
  refine Cd.condT rfl hc26 ?_
  refine Cd.skip ?_
  refine At.then ?_
  refine Cd.seq ?_
  refine Cd.block ?_
  refine Cd.seq ?_
  refine Cd.region ?_
  obtain ⟨x29, h30, H⟩ := bind_some H
  have g31 := lat_some h30
  refine Lst.r (Ev.indexS (α := Word) (xs := a0.Way) rfl rfl Try.runUnderlying112 Try.sizeOf209 rfl (by decide) (hs_a0_1.mono (FLe.trans hF12 hF28) (sc1 hM)) g31.1 g31.2.1) ?_
  refine Lst.r (Ev.loadSA (α := Word) rfl (hs_a0_1.mono (FLe.trans hF12 hF28) (sc1 hM)) Try.isAgg209 Try.sizeOf209 (ch := enc x29) (Enc.len _) (by decide) ((Get.elemN (s := 3) (x := x29) rfl g31.2.2 (Get.here _)).off (by omega))) ?_
  refine Lst.alloc (cs := enc Word.zero) rfl rfl (by decide) Try.zeroValue209 rfl (fun b32 => ?_)
  refine Lst.store (i := 0) rfl rfl rfl rfl rfl Try.sizeOf209 (vs := enc x29) rfl (Enc.len _) (Enc.one _) (cs' := enc x29) (Put.here ((Enc.len _).trans (Enc.len _).symm)) (L' := (.blk b32 (enc x29) 209) :: (.blk b1 (enc (EnterR.mk a0 s_a0_0 s_a0_1)) 114) :: L) rfl ?_
  refine Lst.nil ?_
  refine At.then ?_
  refine Cd.block ?_
  refine Cd.seq ?_
  refine Cd.region ?_
  refine Lst.r (Ev.fieldAddr (off' := 0) rfl Try.runUnderlying209 rfl Try.sizeOf3 rfl rfl) ?_
  refine Lst.r (Ev.load (i := 0) rfl rfl Try.isAgg3 (v := iv x29.From) ((Word.get_From (Get.here _)).off (by rfl))) ?_
  refine Lst.r (Ev.move rfl) ?_
  refine Lst.r (Ev.sub rfl rfl) ?_
  obtain ⟨r34, h35, H⟩ := bind_some H
  refine Lst.call1 rfl rfl (by decide) (vs := [iv x29.From, iv (0 : Int), iv (w64 ((a0.Doors.length : Int) - (1 : Int)))]) ⟨rfl, rfl, rfl, trivial⟩ Try.call155 (enter_in_sim h35 w0 _ M _ (sc2 hM)) ?_
  refine Lst.r (Ev.not rfl) ?_
  refine Lst.r (Ev.move rfl) ?_
  obtain ⟨o38, H, HKo38⟩ := bind_some H
  refine Lst.join (σ := Bool) 7 (fun y39 => [(3, iv (a0.Doors.length : Int)), (8, pv b32 0), (36, Sl.v s_a0_1), (37, iv (a0.Way.length : Int)), (38, iv (i26 : Int)), (56, .bool y39)]) (fun y39 => (.blk b32 (enc x29) 209) :: (.blk b1 (enc (EnterR.mk a0 s_a0_0 s_a0_1)) 114) :: L) (fun _ y39 => y39 = o38) ?_ ?_
  ·rcases Bool.eq_false_or_eq_true (!r34) with hb40 | hb40
   ·replace H := ite_t hb40 H
    refine Lst.skip rfl rfl rfl hb40 rfl (by decide) ?_
    refine Lst.skip rfl rfl rfl hb40 rfl (by decide) ?_
    refine Lst.skip rfl rfl rfl hb40 rfl (by decide) ?_
    refine Lst.skip rfl rfl rfl hb40 rfl (by decide) ?_
    refine Lst.skip rfl rfl rfl hb40 rfl (by decide) ?_
    refine Lst.skip rfl rfl rfl hb40 rfl (by decide) ?_
    refine Lst.r (Ev.pickT rfl hb40 rfl) ?_
    refine Lst.nil ?_
    exact At.meet true (FLe.refl _) ⟨rfl, rfl, rfl, rfl, rfl, rfl, trivial⟩ rfl (some_inj H)
   replace H := ite_f hb40 H
   refine Lst.rG hb40 (Ev.fieldAddr (off' := 1) rfl Try.runUnderlying209 rfl Try.sizeOf3 rfl rfl) ?_
   refine Lst.rG hb40 (Ev.load (i := 0) rfl rfl Try.isAgg3 (v := iv x29.To) ((Word.get_To (Get.here _)).off (by rfl))) ?_
   refine Lst.rG hb40 (Ev.move rfl) ?_
   refine Lst.rG hb40 (Ev.sub rfl rfl) ?_
   obtain ⟨r41, h42, H⟩ := bind_some H
   refine Lst.call1G rfl rfl rfl hb40 rfl (by decide) (vs := [iv x29.To, iv (0 : Int), iv (w64 ((a0.Doors.length : Int) - (1 : Int)))]) ⟨rfl, rfl, rfl, trivial⟩ Try.call155 (enter_in_sim h42 w0 _ M _ (sc2 hM)) ?_
   refine Lst.rG hb40 (Ev.not rfl) ?_
   refine Lst.r (Ev.pickF rfl hb40 rfl) ?_
   refine Lst.nil ?_
   exact At.meet (!r41) (FLe.refl _) ⟨rfl, rfl, rfl, rfl, rfl, rfl, trivial⟩ rfl (some_inj H)
  rintro F45 y39 hF46 hy
  subst hy
  refine Lst.as (e' := [(3, iv (a0.Doors.length : Int)), (8, pv b32 0), (36, Sl.v s_a0_1), (37, iv (a0.Way.length : Int)), (38, iv (i26 : Int)), (56, .bool y39)]) (L' := (.blk b32 (enc x29) 209) :: (.blk b1 (enc (EnterR.mk a0 s_a0_0 s_a0_1)) 114) :: L) ⟨rfl, rfl, rfl, rfl, rfl, rfl, trivial⟩ rfl ?_
  replace H := HKo38
  refine Lst.r (Ev.move rfl) ?_
  obtain ⟨o47, H, HKo47⟩ := bind_some H
  refine Lst.join (σ := Bool) 5 (fun y48 => [(3, iv (a0.Doors.length : Int)), (8, pv b32 0), (36, Sl.v s_a0_1), (37, iv (a0.Way.length : Int)), (38, iv (i26 : Int)), (62, .bool y48)]) (fun y48 => (.blk b32 (enc x29) 209) :: (.blk b1 (enc (EnterR.mk a0 s_a0_0 s_a0_1)) 114) :: L) (fun _ y48 => y48 = o47) ?_ ?_
  ·rcases Bool.eq_false_or_eq_true y39 with hb49 | hb49
   ·replace H := ite_t hb49 H
    refine Lst.skip rfl rfl rfl hb49 rfl (by decide) ?_
    refine Lst.skip rfl rfl rfl hb49 rfl (by decide) ?_
    refine Lst.skip rfl rfl rfl hb49 rfl (by decide) ?_
    refine Lst.skip rfl rfl rfl hb49 rfl (by decide) ?_
    refine Lst.r (Ev.pickT rfl hb49 rfl) ?_
    refine Lst.nil ?_
    exact At.meet true (FLe.refl _) ⟨rfl, rfl, rfl, rfl, rfl, rfl, trivial⟩ rfl (some_inj H)
   replace H := ite_f hb49 H
   refine Lst.rG hb49 (Ev.fieldAddr (off' := 2) rfl Try.runUnderlying209 rfl Try.sizeOf3 rfl rfl) ?_
   refine Lst.rG hb49 (Ev.load (i := 0) rfl rfl Try.isAgg3 (v := iv x29.At) ((Word.get_At (Get.here _)).off (by rfl))) ?_
   obtain ⟨r50, h51, H⟩ := bind_some H
   refine Lst.call1G rfl rfl rfl hb49 rfl (by decide) (vs := [iv x29.At, iv (0 : Int), iv (16777215 : Int)]) ⟨rfl, rfl, rfl, trivial⟩ Try.call155 (enter_in_sim h51 w0 _ M _ (sc2 hM)) ?_
   refine Lst.rG hb49 (Ev.not rfl) ?_
   refine Lst.r (Ev.pickF rfl hb49 rfl) ?_
   refine Lst.nil ?_
   exact At.meet (!r50) (FLe.refl _) ⟨rfl, rfl, rfl, rfl, rfl, rfl, trivial⟩ rfl (some_inj H)
  rintro F54 y48 hF55 hy
  subst hy
  refine Lst.as (e' := [(3, iv (a0.Doors.length : Int)), (8, pv b32 0), (36, Sl.v s_a0_1), (37, iv (a0.Way.length : Int)), (38, iv (i26 : Int)), (62, .bool y48)]) (L' := (.blk b32 (enc x29) 209) :: (.blk b1 (enc (EnterR.mk a0 s_a0_0 s_a0_1)) 114) :: L) ⟨rfl, rfl, rfl, rfl, rfl, rfl, trivial⟩ rfl ?_
  replace H := HKo47
  refine Lst.r (Ev.assign rfl) ?_
  refine Lst.nil ?_
  refine At.then ?_
  rcases Bool.eq_false_or_eq_true y48 with hb56 | hb56
  ·replace H := ite_t hb56 H
   refine Cd.condT rfl hb56 ?_
   refine Cd.seq ?_
   refine Cd.region ?_
   refine Lst.r (Ev.assign rfl) ?_
   refine Lst.nil ?_
   refine At.then ?_
   have H := hret26 _ (some_inj H).symm
   subst H
   replace H := HKl26
   obtain rfl := some_inj H
   refine Cd.ret ?_
   refine At.in_ret ?_
   refine At.in_ret ?_
   refine At.then_ret ?_
   refine At.then_ret ?_
   refine At.in_ret ?_
   refine At.then_ret ?_
   exact At.ret1 rfl (Res.tmp rfl) (FLe.trans (FLe.trans (FLe.trans hF12 hF28) hF46) hF55) (sc1 (sc1 (.refl _))) ⟨rfl, rfl⟩
  replace H := ite_f hb56 H
  refine Cd.condF rfl hb56 ?_
  refine Cd.seq ?_
  refine Cd.region ?_
  refine Lst.r (Ev.fieldAddr (off' := 0) rfl Try.runUnderlying209 rfl Try.sizeOf3 rfl rfl) ?_
  refine Lst.r (Ev.load (i := 0) rfl rfl Try.isAgg3 (v := iv x29.From) ((Word.get_From (Get.here _)).off (by rfl))) ?_
  refine Lst.r (Ev.fieldAddr (off' := 1) rfl Try.runUnderlying209 rfl Try.sizeOf3 rfl rfl) ?_
  refine Lst.r (Ev.load (i := 0) rfl rfl Try.isAgg3 (v := iv x29.To) ((Word.get_To (Get.here _)).off (by rfl))) ?_
  refine Lst.r (Ev.eql rfl rfl) ?_
  refine Lst.r (Ev.assign rfl) ?_
  refine Lst.nil ?_
  refine At.then ?_
  rcases Bool.eq_false_or_eq_true (x29.From == x29.To) with hb57 | hb57
  ·replace H := ite_t hb57 H
   refine Cd.condT rfl hb57 ?_
   refine Cd.seq ?_
   refine Cd.region ?_
   refine Lst.r (Ev.assign rfl) ?_
   refine Lst.nil ?_
   refine At.then ?_
   have H := hret26 _ (some_inj H).symm
   subst H
   replace H := HKl26
   obtain rfl := some_inj H
   refine Cd.ret ?_
   refine At.in_ret ?_
   refine At.in_ret ?_
   refine At.then_ret ?_
   refine At.then_ret ?_
   refine At.in_ret ?_
   refine At.then_ret ?_
   exact At.ret1 rfl (Res.tmp rfl) (FLe.trans (FLe.trans (FLe.trans hF12 hF28) hF46) hF55) (sc1 (sc1 (.refl _))) ⟨rfl, rfl⟩
  replace H := ite_f hb57 H
  refine Cd.condF rfl hb57 ?_
  refine Cd.skip ?_
  refine At.in_normal ?_
  refine At.in_normal ?_
  refine At.then ?_
  refine Cd.region ?_
  refine Lst.r (Ev.incr (by omega) rfl rfl) ?_
  refine Lst.r (Ev.move rfl) ?_
  refine Lst.nil ?_
  refine At.less (L' := (.blk b1 (enc (EnterR.mk a0 s_a0_0 s_a0_1)) 114) :: L) (sc1 (sk1 (.refl _))) ?_
  exact At.meet (i26 + 1, k26, ()) (FLe.trans (FLe.trans hF28 hF46) hF55) ⟨rfl, rfl, rfl, rfl, trivial⟩ rfl ⟨⟨hgo26 _ (some_inj H).symm, by omega⟩, Nat.lt_succ_self _⟩
 have hc10 : decide ((i10 : Int) < (a0.Doors.length : Int)) = true := decide_eq_true (by omega)
 obtain ⟨c10, H, hgo10, hbrk10, hret10⟩ := rangeM_go H
 unfold enter_Check_B0 at H
 try dsimp only at H
 refine Cd.seq ?_
 refine Cd.region ?_
 refine Lst.r (Ev.lss rfl rfl) ?_
 refine Lst.nil ?_
 refine At.then ?_
 refine Cd.seq ?_
 refine Cd.condT rfl hc10 ?_
 refine Cd.skip ?_
 refine At.then ?_
 refine Cd.seq ?_
 refine Cd.block ?_
 refine Cd.seq ?_
 refine Cd.region ?_
 refine Lst.r (Ev.move rfl) ?_
 obtain ⟨x13, h14, H⟩ := bind_some H
 have g15 := lat_some h14
 obtain ⟨⟨r16v, r16h4⟩, r16g, r16e, r16m⟩ := map_get hm_a0_0 g15.2.2
 obtain rfl : x13 = r16v := r16e.symm
 have r16q : DoorR.rel w0 _ _ (DoorR.mk x13 r16h4) := ha_a0_0 _ r16m
 have r16_f4 : Rd w0 _ _ _ _ := r16q
 refine Lst.r (Ev.indexS (α := DoorR) (xs := rs_a0_0) rfl rfl Try.runUnderlying111 Try.sizeOf204 rfl (by decide) (hs_a0_0.mono hF12 (sc1 hM)) g15.1 (by have := map_len hm_a0_0; omega)) ?_
 refine Lst.r (Ev.loadSA (α := DoorR) rfl (hs_a0_0.mono hF12 (sc1 hM)) Try.isAgg204 Try.sizeOf204 (ch := enc (DoorR.mk x13 r16h4)) (Enc.len _) (by decide) ((Get.elemN (s := 5) rfl r16g (Get.here _)).off (by omega))) ?_
 refine Lst.addNil 3 1 ?_
 refine Lst.alloc (cs := enc (DoorR.mk ({ Door.zero with Later := ([] : List Int) } : Door) Sl.nil)) rfl rfl (by decide) Try.zeroValue204 rfl (fun b18 => ?_)
 refine Lst.r (Ev.assign rfl) ?_
 refine Lst.store (i := 0) rfl rfl rfl rfl rfl Try.sizeOf204 (vs := enc (DoorR.mk x13 r16h4)) rfl (Enc.len _) (Enc.one _) (cs' := enc (DoorR.mk x13 r16h4)) (Put.here ((Enc.len _).trans (Enc.len _).symm)) (L' := (.blk b18 (enc (DoorR.mk x13 r16h4)) 204) :: (.own Sl.nil 3 1 (encs ([] : List Int))) :: (.blk b1 (enc (EnterR.mk a0 s_a0_0 s_a0_1)) 114) :: L) rfl ?_
 refine Lst.nil ?_
 refine At.then ?_
 refine Cd.seq ?_
 refine Cd.region ?_
 refine Lst.r (Ev.loadA (i := 0) rfl rfl Try.isAgg204 Try.sizeOf204 (ch := enc (DoorR.mk x13 r16h4)) (Enc.len _) (Get.here _)) ?_
 refine Lst.r (Ev.move rfl) ?_
 refine Lst.r (Ev.move rfl) ?_
 obtain ⟨r20, h21, H⟩ := bind_some H
 refine Lst.call1 rfl rfl (by decide) (vs := [.agg (enc (DoorR.mk x13 r16h4)).toArray, iv (i10 : Int), iv (a0.Doors.length : Int)]) ⟨rfl, rfl, rfl, trivial⟩ Try.call162 (enter_door_sim h21 w0 _ M _ (sc2 (sc1 hM)) (r16_f4.mono hF12 (.refl _))) ?_
 refine Lst.r (Ev.assign rfl) ?_
 refine Lst.nil ?_
 refine At.then ?_
 refine Cd.seq ?_
 refine Cd.region ?_
 refine Lst.r (Ev.move rfl) ?_
 refine Lst.r (Ev.neq rfl rfl) ?_
 refine Lst.nil ?_
 refine At.then ?_
 rcases Bool.eq_false_or_eq_true (r20 != (0 : Int)) with hb24 | hb24
 ·replace H := ite_t hb24 H
  refine Cd.condT rfl hb24 ?_
  refine Cd.seq ?_
  refine Cd.as (e' := [(6, iv r20)]) (L' := (.blk b18 (enc (DoorR.mk x13 r16h4)) 204) :: (.own Sl.nil 3 1 (encs ([] : List Int))) :: (.blk b1 (enc (EnterR.mk a0 s_a0_0 s_a0_1)) 114) :: L) ⟨rfl, trivial⟩ rfl ?_
  refine Cd.region ?_
  refine Lst.r (Ev.move rfl) ?_
  refine Lst.r (Ev.assign rfl) ?_
  refine Lst.nil ?_
  refine At.then ?_
  have H := hret10 _ (some_inj H).symm
  subst H
  replace H := HKl10
  obtain rfl := some_inj H
  refine Cd.ret ?_
  refine At.in_ret ?_
  refine At.then_ret ?_
  refine At.then_ret ?_
  refine At.in_ret ?_
  refine At.then_ret ?_
  exact At.ret1 rfl (Res.tmp rfl) hF12 (sc1 (sc1 (sc1 (.refl _)))) ⟨rfl, rfl⟩
 replace H := ite_f hb24 H
 refine Cd.condF rfl hb24 ?_
 refine Cd.skip ?_
 refine At.in_normal ?_
 refine At.then ?_
 refine Cd.region ?_
 refine Lst.r (Ev.incr (by omega) rfl rfl) ?_
 refine Lst.r (Ev.move rfl) ?_
 refine Lst.nil ?_
 refine At.less (L' := (.blk b1 (enc (EnterR.mk a0 s_a0_0 s_a0_1)) 114) :: L) (sc1 (sc1 (sk1 (.refl _)))) ?_
 exact At.meet (i10 + 1, k10, ()) hF12 ⟨rfl, rfl, rfl, rfl, rfl, trivial⟩ rfl ⟨⟨hgo10 _ (some_inj H).symm, by omega⟩, Nat.lt_succ_self _⟩
set_option maxRecDepth 20000 in
theorem slices_Clone_api_Word_api_Word_sim {a0 : List Word} {s_a0 : Sl} {r : (List Word)} (H : slices_Clone_api_Word_api_Word a0 = some r) (w0 : World) (F : Frz) (M L : List Item) (hM : M.Sublist L) (hs_a0 : Rd w0 F M s_a0 a0) : Ok Try.prog w0 173 [Sl.v s_a0] F (L) (fun _ L' v => ∃ (s1 : Sl), v = Sl.v s1 ∧ L' = (.own s1 209 3 (encs r)) :: L) := by
 unfold slices_Clone_api_Word_api_Word at H
 refine Ok.enter (m := 1) (n := 8) Try.func173 rfl rfl rfl (by decide) ?_
 refine Cd.env (e' := [(0, Sl.v s_a0)]) rfl ?_
 refine Cd.seq ?_
 refine Cd.region ?_
 refine Lst.addNil 209 3 ?_
 refine Lst.r (Ev.assign rfl) ?_
 refine Lst.nil ?_
 refine At.then ?_
 refine Cd.seq ?_
 refine Cd.seq ?_
 refine Cd.region ?_
 refine Lst.r (Ev.move rfl) ?_
 refine Lst.r (Ev.eqlNil rfl Try.runUnderlying112) ?_
 refine Lst.nil ?_
 refine At.then ?_
 rcases Bool.eq_false_or_eq_true ((Sl.a s_a0).isNone) with hb2 | hb2
 ·refine Cd.bound (Rd.isNil (α := Word) (by decide) (hs_a0.mono (FLe.refl _) (sc1 hM)) hb2) (fun hx9 => ?_)
  rw [clone_nil hx9] at H
  refine Cd.condT rfl hb2 ?_
  refine Cd.seq ?_
  refine Cd.region ?_
  refine Lst.addNil 209 3 ?_
  refine Lst.r (Ev.assign rfl) ?_
  refine Lst.nil ?_
  refine At.then ?_
  obtain rfl := some_inj H
  refine Cd.ret ?_
  refine At.then_ret ?_
  exact At.ret1 rfl (Res.tmp rfl) (FLe.refl _) (sk1 (sc1 (.refl _))) ⟨Sl.nil, rfl, rfl⟩
 refine Cd.condF rfl hb2 ?_
 refine Cd.skip ?_
 refine At.then ?_
 refine Cd.seq ?_
 refine Cd.region ?_
 refine Lst.buildSlice0 rfl rfl (by decide) Try.runUnderlying112 Try.sizeOf209 (fun s3 => ?_)
 refine Lst.its (L' := (.own s3 209 3 (encs ([] : List Word))) :: (.own Sl.nil 209 3 (encs ([] : List Word))) :: L) rfl ?_
 refine Lst.r (Ev.move rfl) ?_
 obtain ⟨u5, h6, H⟩ := bind_some H
 refine Lst.append (i := 0) (α := Word) (xs := ([] : List Word)) (ys := a0) rfl rfl (by decide) rfl rfl Try.runUnderlying112 Try.typeInfo209 rfl rfl rfl rfl rfl rfl (hs_a0.mono (FLe.refl _) (sc2 hM)) rfl (room_some h6) rfl (fun s7 => ?_)
 refine Lst.its (L' := (.own s7 209 3 (encs (([] : List Word) ++ a0))) :: (.own Sl.nil 209 3 (encs ([] : List Word))) :: L) rfl ?_
 refine Lst.r (Ev.assign rfl) ?_
 refine Lst.nil ?_
 refine At.then ?_
 obtain rfl := some_inj H
 refine Cd.ret ?_
 exact At.ret1 rfl (Res.tmp rfl) (FLe.refl _) (sk1 (sc1 (.refl _))) ⟨s7, rfl, rfl⟩
set_option maxRecDepth 20000 in
theorem slices_Clone_int_int_sim {a0 : List Int} {s_a0 : Sl} {r : (List Int)} (H : slices_Clone_int_int a0 = some r) (w0 : World) (F : Frz) (M L : List Item) (hM : M.Sublist L) (hs_a0 : Rd w0 F M s_a0 a0) : Ok Try.prog w0 129 [Sl.v s_a0] F (L) (fun _ L' v => ∃ (s1 : Sl), v = Sl.v s1 ∧ L' = (.own s1 3 1 (encs r)) :: L) := by
 unfold slices_Clone_int_int at H
 refine Ok.enter (m := 1) (n := 8) Try.func129 rfl rfl rfl (by decide) ?_
 refine Cd.env (e' := [(0, Sl.v s_a0)]) rfl ?_
 refine Cd.seq ?_
 refine Cd.region ?_
 refine Lst.addNil 3 1 ?_
 refine Lst.r (Ev.assign rfl) ?_
 refine Lst.nil ?_
 refine At.then ?_
 refine Cd.seq ?_
 refine Cd.seq ?_
 refine Cd.region ?_
 refine Lst.r (Ev.move rfl) ?_
 refine Lst.r (Ev.eqlNil rfl Try.runUnderlying36) ?_
 refine Lst.nil ?_
 refine At.then ?_
 rcases Bool.eq_false_or_eq_true ((Sl.a s_a0).isNone) with hb2 | hb2
 ·refine Cd.bound (Rd.isNil (α := Int) (by decide) (hs_a0.mono (FLe.refl _) (sc1 hM)) hb2) (fun hx9 => ?_)
  rw [clone_nil hx9] at H
  refine Cd.condT rfl hb2 ?_
  refine Cd.seq ?_
  refine Cd.region ?_
  refine Lst.addNil 3 1 ?_
  refine Lst.r (Ev.assign rfl) ?_
  refine Lst.nil ?_
  refine At.then ?_
  obtain rfl := some_inj H
  refine Cd.ret ?_
  refine At.then_ret ?_
  exact At.ret1 rfl (Res.tmp rfl) (FLe.refl _) (sk1 (sc1 (.refl _))) ⟨Sl.nil, rfl, rfl⟩
 refine Cd.condF rfl hb2 ?_
 refine Cd.skip ?_
 refine At.then ?_
 refine Cd.seq ?_
 refine Cd.region ?_
 refine Lst.buildSlice0 rfl rfl (by decide) Try.runUnderlying36 Try.sizeOf3 (fun s3 => ?_)
 refine Lst.its (L' := (.own s3 3 1 (encs ([] : List Int))) :: (.own Sl.nil 3 1 (encs ([] : List Int))) :: L) rfl ?_
 refine Lst.r (Ev.move rfl) ?_
 obtain ⟨u5, h6, H⟩ := bind_some H
 refine Lst.append (i := 0) (α := Int) (xs := ([] : List Int)) (ys := a0) rfl rfl (by decide) rfl rfl Try.runUnderlying36 Try.typeInfo3 rfl rfl rfl rfl rfl rfl (hs_a0.mono (FLe.refl _) (sc2 hM)) rfl (room_some h6) rfl (fun s7 => ?_)
 refine Lst.its (L' := (.own s7 3 1 (encs (([] : List Int) ++ a0))) :: (.own Sl.nil 3 1 (encs ([] : List Int))) :: L) rfl ?_
 refine Lst.r (Ev.assign rfl) ?_
 refine Lst.nil ?_
 refine At.then ?_
 obtain rfl := some_inj H
 refine Cd.ret ?_
 exact At.ret1 rfl (Res.tmp rfl) (FLe.refl _) (sk1 (sc1 (.refl _))) ⟨s7, rfl, rfl⟩
set_option maxRecDepth 20000 in
theorem enter_clone_sim {a0 : Enter} {s_a0_0 : Sl} {rs_a0_0 : List DoorR} {s_a0_1 : Sl} {r : Enter} (H : enter_clone a0 = some r) (w0 : World) (F : Frz) (M L : List Item) (hM : M.Sublist L) (hm_a0_0 : rs_a0_0.map DoorR.v = a0.Doors) (hs_a0_0 : Rd w0 F M s_a0_0 rs_a0_0) (ha_a0_0 : All DoorR.rel w0 F M rs_a0_0) (hs_a0_1 : Rd w0 F M s_a0_1 a0.Way) : Ok Try.prog w0 156 [.agg (enc (EnterR.mk a0 s_a0_0 s_a0_1)).toArray] F (L) (fun Fx L' v => ∃ (s1 : Sl) (rs2 : List DoorR) (s6 : Sl), v = .agg (enc (EnterR.mk r s1 s6)).toArray ∧ L' = (.rows (α := Int) 3 (List.map DoorR.row rs2)) :: (.own s1 204 5 (encs rs2)) :: (.own s6 209 3 (encs r.Way)) :: L ∧ rs2.map DoorR.v = r.Doors) := by
 unfold enter_clone at H
 refine Ok.enter (m := 1) (n := 29) Try.func156 rfl rfl rfl (by decide) ?_
 refine Cd.env (e' := [(0, .agg (enc (EnterR.mk a0 s_a0_0 s_a0_1)).toArray)]) rfl ?_
 refine Cd.seq ?_
 refine Cd.region ?_
 refine Lst.box rfl rfl (by decide) rfl (cs := enc (EnterR.mk a0 s_a0_0 s_a0_1)) rfl (fun b1 => ?_)
 have ha4 : All DoorR.rel w0 F [] ([] : List DoorR) := All.nil
 have ha4m : List.map DoorR.v ([] : List DoorR) = ([] : List Door) := rfl
 refine Lst.addNil 204 5 ?_
 refine Lst.addNil 209 3 ?_
 refine Lst.alloc (cs := enc (EnterR.mk ({ Enter.zero with Doors := ([] : List Door), Way := ([] : List Word) } : Enter) Sl.nil Sl.nil)) rfl rfl (by decide) Try.zeroValue114 rfl (fun b6 => ?_)
 refine Lst.nil ?_
 refine At.then ?_
 refine Cd.seq ?_
 refine Cd.region ?_
 refine Lst.r (Ev.fieldAddr (off' := 1) rfl Try.runUnderlying114 rfl Try.sizeOf112 rfl rfl) ?_
 refine Lst.r (Ev.load (i := 3) rfl rfl Try.isAgg112 (v := Sl.v s_a0_1) ((EnterR.get_Way (Get.here _)).off (by rfl))) ?_
 obtain ⟨r8, h9, H⟩ := bind_some H
 refine Lst.call rfl rfl (by decide) (vs := [Sl.v s_a0_1]) ⟨rfl, trivial⟩ Try.call173 (slices_Clone_api_Word_api_Word_sim h9 w0 _ M _ (sc4 hM) (hs_a0_1.mono (FLe.refl _) (.refl _))) (fun F12 L' v hF13 hv => ?_)
 obtain ⟨s10, rfl, rfl⟩ := hv
 refine Lst.r (Ev.build (v := .agg (enc (EnterR.mk ({ Enter.zero with Way := r8 } : Enter) Sl.nil s10)).toArray) (pv := [(1, Sl.v s10)]) ⟨rfl, rfl, trivial⟩ (run_buildStruct (places := #[(0, 1), (1, 1)]) Try.zeroValue114 (zs := enc (EnterR.mk Enter.zero Sl.nil Sl.nil)) rfl Try.runUnderlying114 (fun w => by kernel_rfl) (fill_cons (cs := enc (EnterR.mk Enter.zero Sl.nil Sl.nil)) (cs' := enc (EnterR.mk ({ Enter.zero with Way := r8 } : Enter) Sl.nil s10)) (vs := [Sl.v s10]) rfl rfl rfl ((EnterR.put_Way (p := (EnterR.mk Enter.zero Sl.nil Sl.nil)) (y := s10) (Put.here (vs := [Sl.v s10]) rfl)).off rfl) fill_nil))) ?_
 have ha15 : All DoorR.rel w0 F12 [] ([] : List DoorR) := All.nil
 have ha15m : List.map DoorR.v ([] : List DoorR) = ([] : List Door) := rfl
 refine Lst.addNil 204 5 ?_
 refine Lst.addNil 209 3 ?_
 refine Lst.alloc (cs := enc (EnterR.mk ({ Enter.zero with Doors := ([] : List Door), Way := ([] : List Word) } : Enter) Sl.nil Sl.nil)) rfl rfl (by decide) Try.zeroValue114 rfl (fun b17 => ?_)
 refine Lst.store (i := 0) rfl rfl rfl rfl rfl Try.sizeOf114 (vs := enc (EnterR.mk ({ Enter.zero with Way := r8 } : Enter) Sl.nil s10)) rfl (Enc.len _) (Enc.one _) (cs' := enc (EnterR.mk ({ Enter.zero with Way := r8 } : Enter) Sl.nil s10)) (Put.here ((Enc.len _).trans (Enc.len _).symm)) (L' := (.blk b17 (enc (EnterR.mk ({ Enter.zero with Way := r8 } : Enter) Sl.nil s10)) 114) :: (.own Sl.nil 209 3 (encs ([] : List Word))) :: (.own Sl.nil 204 5 (encs ([] : List DoorR))) :: (.own s10 209 3 (encs r8)) :: (.blk b6 (enc (EnterR.mk ({ Enter.zero with Doors := ([] : List Door), Way := ([] : List Word) } : Enter) Sl.nil Sl.nil)) 114) :: (.own Sl.nil 209 3 (encs ([] : List Word))) :: (.own Sl.nil 204 5 (encs ([] : List DoorR))) :: (.blk b1 (enc (EnterR.mk a0 s_a0_0 s_a0_1)) 114) :: L) rfl ?_
 refine Lst.nil ?_
 refine At.then ?_
 refine Cd.seq ?_
 refine Cd.seq ?_
 refine Cd.region ?_
 refine Lst.r (Ev.fieldAddr (off' := 0) rfl Try.runUnderlying114 rfl Try.sizeOf111 rfl rfl) ?_
 refine Lst.r (Ev.load (i := 7) rfl rfl Try.isAgg111 (v := Sl.v s_a0_0) ((EnterR.get_Doors (Get.here _)).off (by rfl))) ?_
 refine Lst.r (Ev.lenM (map_len hm_a0_0) (Ev.lenS (α := DoorR) (xs := rs_a0_0) (by decide) rfl rfl Try.runUnderlying111 (hs_a0_0.mono hF13 (sc8 hM)))) ?_
 refine Lst.r (Ev.move rfl) ?_
 refine Lst.nil ?_
 refine At.then ?_
 refine Cd.block ?_
 have ha23m : List.map DoorR.v ([] : List DoorR) = ([] : List Door) := rfl
 refine Cd.addNil 204 5 ?_
 refine Cd.rowsNil Int 3 0 ?_
 refine Cd.its (L' := (.rows (α := Int) 3 (List.map DoorR.row ([] : List DoorR))) :: (.own Sl.nil 204 5 (encs ([] : List DoorR))) :: (.blk b17 (enc (EnterR.mk ({ Enter.zero with Way := r8 } : Enter) Sl.nil s10)) 114) :: (.own Sl.nil 209 3 (encs ([] : List Word))) :: (.own Sl.nil 204 5 (encs ([] : List DoorR))) :: (.own s10 209 3 (encs r8)) :: (.blk b6 (enc (EnterR.mk ({ Enter.zero with Doors := ([] : List Door), Way := ([] : List Word) } : Enter) Sl.nil Sl.nil)) 114) :: (.own Sl.nil 209 3 (encs ([] : List Word))) :: (.own Sl.nil 204 5 (encs ([] : List DoorR))) :: (.blk b1 (enc (EnterR.mk a0 s_a0_0 s_a0_1)) 114) :: L) rfl ?_
 refine Cd.bound (Rd.le (α := DoorR) (xs := rs_a0_0) (by decide) (hs_a0_0.mono hF13 (sc8 (sc2 hM)))) (fun hN54 => ?_)
 rw [map_len hm_a0_0] at hN54
 obtain ⟨ol20, H, HKl20⟩ := bind_some H
 refine Cd.loop (σ := Nat × Nat × Enter × Sl × (List DoorR)) (fun (i20, k20, y24, s25, rs26) => [(2, pv b6 0), (3, pv b17 0), (11, Sl.v s_a0_0), (12, iv (a0.Doors.length : Int)), (13, iv (i20 : Int))]) (fun (i20, k20, y24, s25, rs26) => (.rows (α := Int) 3 (List.map DoorR.row rs26)) :: (.own s25 204 5 (encs rs26)) :: (.blk b17 (enc (EnterR.mk ({ y24 with Way := r8 } : Enter) s25 s10)) 114) :: (.own Sl.nil 209 3 (encs ([] : List Word))) :: (.own Sl.nil 204 5 (encs ([] : List DoorR))) :: (.own s10 209 3 (encs r8)) :: (.blk b6 (enc (EnterR.mk ({ Enter.zero with Doors := ([] : List Door), Way := ([] : List Word) } : Enter) Sl.nil Sl.nil)) 114) :: (.own Sl.nil 209 3 (encs ([] : List Word))) :: (.own Sl.nil 204 5 (encs ([] : List DoorR))) :: (.blk b1 (enc (EnterR.mk a0 s_a0_0 s_a0_1)) 114) :: L) (fun Fx => (fun (i20, k20, y24, s25, rs26) => rangeF (enter_clone_B0 a0 r8) k20 i20 y24 = some ol20 ∧ i20 + k20 = a0.Doors.length ∧ rs26.map DoorR.v = y24.Doors)) (fun (i20, k20, y24, s25, rs26) => k20) (0, a0.Doors.length, ({ Enter.zero with Doors := ([] : List Door), Way := r8 } : Enter), Sl.nil, ([] : List DoorR)) ⟨rfl, rfl, rfl, rfl, rfl, trivial⟩ rfl ⟨H, by omega, ha23m⟩ ?_
 rintro F30 ⟨i20, k20, y24, s25, rs26⟩ hF31 ⟨H, hik20, fm27⟩
 refine Cd.as (e' := [(2, pv b6 0), (3, pv b17 0), (11, Sl.v s_a0_0), (12, iv (a0.Doors.length : Int)), (13, iv (i20 : Int))]) (L' := (.rows (α := Int) 3 (List.map DoorR.row rs26)) :: (.own s25 204 5 (encs rs26)) :: (.blk b17 (enc (EnterR.mk ({ y24 with Way := r8 } : Enter) s25 s10)) 114) :: (.own Sl.nil 209 3 (encs ([] : List Word))) :: (.own Sl.nil 204 5 (encs ([] : List DoorR))) :: (.own s10 209 3 (encs r8)) :: (.blk b6 (enc (EnterR.mk ({ Enter.zero with Doors := ([] : List Door), Way := ([] : List Word) } : Enter) Sl.nil Sl.nil)) 114) :: (.own Sl.nil 209 3 (encs ([] : List Word))) :: (.own Sl.nil 204 5 (encs ([] : List DoorR))) :: (.blk b1 (enc (EnterR.mk a0 s_a0_0 s_a0_1)) 114) :: L) ⟨rfl, rfl, rfl, rfl, rfl, trivial⟩ rfl ?_
 rcases k20 with _ | k20
 ·have hc20 : decide ((i20 : Int) < (a0.Doors.length : Int)) = false := decide_eq_false (by omega)
  replace H := rangeF_end H
  refine Cd.seq ?_
  refine Cd.region ?_
  refine Lst.r (Ev.lss rfl rfl) ?_
  refine Lst.nil ?_
  refine At.then ?_
  refine Cd.seq ?_
  refine Cd.condF rfl hc20 ?_
  refine Cd.exit ?_
  refine At.then_exit ?_
  refine At.then_exit ?_
  refine At.in_exit ?_
  subst H
  replace H := HKl20
  refine At.then ?_
  refine Cd.seq ?_
  refine Cd.region ?_
  refine Lst.r (Ev.loadA (i := 2) rfl rfl Try.isAgg114 Try.sizeOf114 (ch := enc (EnterR.mk ({ y24 with Way := r8 } : Enter) s25 s10)) (Enc.len _) (Get.here _)) ?_
  refine Lst.store (i := 6) rfl rfl rfl rfl rfl Try.sizeOf114 (vs := enc (EnterR.mk ({ y24 with Way := r8 } : Enter) s25 s10)) rfl (Enc.len _) (Enc.one _) (cs' := enc (EnterR.mk ({ y24 with Way := r8 } : Enter) s25 s10)) (Put.here ((Enc.len _).trans (Enc.len _).symm)) (L' := (.rows (α := Int) 3 (List.map DoorR.row rs26)) :: (.own s25 204 5 (encs rs26)) :: (.blk b17 (enc (EnterR.mk ({ y24 with Way := r8 } : Enter) s25 s10)) 114) :: (.own Sl.nil 209 3 (encs ([] : List Word))) :: (.own Sl.nil 204 5 (encs ([] : List DoorR))) :: (.own s10 209 3 (encs r8)) :: (.blk b6 (enc (EnterR.mk ({ y24 with Way := r8 } : Enter) s25 s10)) 114) :: (.own Sl.nil 209 3 (encs ([] : List Word))) :: (.own Sl.nil 204 5 (encs ([] : List DoorR))) :: (.blk b1 (enc (EnterR.mk a0 s_a0_0 s_a0_1)) 114) :: L) rfl ?_
  refine Lst.nil ?_
  refine At.then ?_
  obtain rfl := some_inj H
  refine Cd.ret ?_
  exact At.ret1 rfl (Res.cellA (i := 6) rfl rfl Try.isAgg114 Try.sizeOf114 (Enc.len _)) (FLe.trans hF13 hF31) (sk1 (sk1 (sc1 (sc1 (sc1 (sk1 (sc1 (sc1 (sc1 (sc1 (.refl _))))))))))) ⟨s25, rs26, s10, rfl, rfl, fm27⟩
 have hc20 : decide ((i20 : Int) < (a0.Doors.length : Int)) = true := decide_eq_true (by omega)
 obtain ⟨c20, H, hgo20⟩ := rangeF_go H
 unfold enter_clone_B0 at H
 try dsimp only at H
 refine Cd.seq ?_
 refine Cd.region ?_
 refine Lst.r (Ev.lss rfl rfl) ?_
 refine Lst.nil ?_
 refine At.then ?_
 refine Cd.seq ?_
 refine Cd.condT rfl hc20 ?_
 refine Cd.skip ?_
 refine At.then ?_
 refine Cd.seq ?_
 refine Cd.block ?_
 refine Cd.seq ?_
 refine Cd.region ?_
 obtain ⟨x32, h33, H⟩ := bind_some H
 have g34 := lat_some h33
 obtain ⟨⟨r35v, r35h4⟩, r35g, r35e, r35m⟩ := map_get hm_a0_0 g34.2.2
 obtain rfl : x32 = r35v := r35e.symm
 have r35q : DoorR.rel w0 _ _ (DoorR.mk x32 r35h4) := ha_a0_0 _ r35m
 have r35_f4 : Rd w0 _ _ _ _ := r35q
 refine Lst.r (Ev.indexS (α := DoorR) (xs := rs_a0_0) rfl rfl Try.runUnderlying111 Try.sizeOf204 rfl (by decide) (hs_a0_0.mono (FLe.trans hF13 hF31) (sc8 (sc2 hM))) g34.1 (by have := map_len hm_a0_0; omega)) ?_
 refine Lst.r (Ev.loadSA (α := DoorR) rfl (hs_a0_0.mono (FLe.trans hF13 hF31) (sc8 (sc2 hM))) Try.isAgg204 Try.sizeOf204 (ch := enc (DoorR.mk x32 r35h4)) (Enc.len _) (by decide) ((Get.elemN (s := 5) rfl r35g (Get.here _)).off (by omega))) ?_
 refine Lst.addNil 3 1 ?_
 refine Lst.alloc (cs := enc (DoorR.mk ({ Door.zero with Later := ([] : List Int) } : Door) Sl.nil)) rfl rfl (by decide) Try.zeroValue204 rfl (fun b37 => ?_)
 refine Lst.store (i := 0) rfl rfl rfl rfl rfl Try.sizeOf204 (vs := enc (DoorR.mk x32 r35h4)) rfl (Enc.len _) (Enc.one _) (cs' := enc (DoorR.mk x32 r35h4)) (Put.here ((Enc.len _).trans (Enc.len _).symm)) (L' := (.blk b37 (enc (DoorR.mk x32 r35h4)) 204) :: (.own Sl.nil 3 1 (encs ([] : List Int))) :: (.rows (α := Int) 3 (List.map DoorR.row rs26)) :: (.own s25 204 5 (encs rs26)) :: (.blk b17 (enc (EnterR.mk ({ y24 with Way := r8 } : Enter) s25 s10)) 114) :: (.own Sl.nil 209 3 (encs ([] : List Word))) :: (.own Sl.nil 204 5 (encs ([] : List DoorR))) :: (.own s10 209 3 (encs r8)) :: (.blk b6 (enc (EnterR.mk ({ Enter.zero with Doors := ([] : List Door), Way := ([] : List Word) } : Enter) Sl.nil Sl.nil)) 114) :: (.own Sl.nil 209 3 (encs ([] : List Word))) :: (.own Sl.nil 204 5 (encs ([] : List DoorR))) :: (.blk b1 (enc (EnterR.mk a0 s_a0_0 s_a0_1)) 114) :: L) rfl ?_
 refine Lst.nil ?_
 refine At.then ?_
 refine Cd.seq ?_
 refine Cd.region ?_
 refine Lst.r (Ev.fieldAddr (off' := 4) rfl Try.runUnderlying204 rfl Try.sizeOf36 rfl rfl) ?_
 refine Lst.r (Ev.load (i := 0) rfl rfl Try.isAgg36 (v := Sl.v r35h4) ((DoorR.get_Later (Get.here _)).off (by rfl))) ?_
 obtain ⟨r39, h40, H⟩ := bind_some H
 refine Lst.call rfl rfl (by decide) (vs := [Sl.v r35h4]) ⟨rfl, trivial⟩ Try.call129 (slices_Clone_int_int_sim h40 w0 _ M _ (sc8 (sc4 hM)) (r35_f4.mono (FLe.trans hF13 hF31) (.refl _))) (fun F43 L' v hF44 hv => ?_)
 obtain ⟨s41, rfl, rfl⟩ := hv
 refine Lst.r (Ev.fieldAddr (off' := 4) rfl Try.runUnderlying204 rfl Try.sizeOf36 rfl rfl) ?_
 refine Lst.store (i := 1) rfl rfl rfl rfl rfl Try.sizeOf36 (vs := [Sl.v s41]) rfl rfl rfl (cs' := enc (DoorR.mk ({ x32 with Later := r39 } : Door) s41)) ((DoorR.put_Later (Put.here (vs := [Sl.v s41]) rfl)).off (by rfl)) (L' := (.own s41 3 1 (encs r39)) :: (.blk b37 (enc (DoorR.mk ({ x32 with Later := r39 } : Door) s41)) 204) :: (.own Sl.nil 3 1 (encs ([] : List Int))) :: (.rows (α := Int) 3 (List.map DoorR.row rs26)) :: (.own s25 204 5 (encs rs26)) :: (.blk b17 (enc (EnterR.mk ({ y24 with Way := r8 } : Enter) s25 s10)) 114) :: (.own Sl.nil 209 3 (encs ([] : List Word))) :: (.own Sl.nil 204 5 (encs ([] : List DoorR))) :: (.own s10 209 3 (encs r8)) :: (.blk b6 (enc (EnterR.mk ({ Enter.zero with Doors := ([] : List Door), Way := ([] : List Word) } : Enter) Sl.nil Sl.nil)) 114) :: (.own Sl.nil 209 3 (encs ([] : List Word))) :: (.own Sl.nil 204 5 (encs ([] : List DoorR))) :: (.blk b1 (enc (EnterR.mk a0 s_a0_0 s_a0_1)) 114) :: L) rfl ?_
 refine Lst.nil ?_
 refine At.then ?_
 refine Cd.region ?_
 refine Lst.r (Ev.fieldAddr (off' := 0) rfl Try.runUnderlying114 rfl Try.sizeOf111 rfl rfl) ?_
 refine Lst.r (Ev.load (i := 5) rfl rfl Try.isAgg111 (v := Sl.v s25) ((EnterR.get_Doors (Get.here _)).off (by rfl))) ?_
 refine Lst.r (Ev.loadA (i := 1) rfl rfl Try.isAgg204 Try.sizeOf204 (ch := enc (DoorR.mk ({ x32 with Later := r39 } : Door) s41)) (Enc.len _) (Get.here _)) ?_
 have hm47 : ([(DoorR.mk ({ x32 with Later := r39 } : Door) s41)] : List DoorR).map DoorR.v = ([({ x32 with Later := r39 } : Door)] : List Door) := rfl
 refine Lst.buildSlice (α := DoorR) (xs := ([(DoorR.mk ({ x32 with Later := r39 } : Door) s41)] : List DoorR)) (pv := [(0, .agg (enc (DoorR.mk ({ x32 with Later := r39 } : Door) s41)).toArray)]) rfl rfl (by decide) ⟨rfl, rfl, trivial⟩ (run_buildSlice (α := DoorR) (z0 := ((DoorR.mk Door.zero Sl.nil) : DoorR)) (xs := ([(DoorR.mk ({ x32 with Later := r39 } : Door) s41)] : List DoorR)) Try.runUnderlying111 Try.sizeOf204 Try.zeroValue204 rfl rfl rfl (by decide) rfl (fill_cons (cs := encs (List.replicate 1 ((DoorR.mk Door.zero Sl.nil) : DoorR))) (cs' := encs ((List.replicate 1 ((DoorR.mk Door.zero Sl.nil) : DoorR)).set 0 (DoorR.mk ({ x32 with Later := r39 } : Door) s41))) (vs := enc (DoorR.mk ({ x32 with Later := r39 } : Door) s41)) rfl rfl (Enc.len _) ((Put.elemN (s := 5) (i := 0) (x := ((DoorR.mk Door.zero Sl.nil) : DoorR)) (y := (DoorR.mk ({ x32 with Later := r39 } : Door) s41)) rfl rfl (Put.here ((Enc.len _).trans (Enc.len _).symm))).off rfl) fill_nil)) rfl rfl (by decide) (fun s45 _ => ?_)
 refine Lst.rowsNil Int 3 0 ?_
 refine Lst.front (i := 2) rfl (L' := (.own s41 3 1 (encs r39)) :: (.rows (α := Int) 3 (List.replicate 0 (⟨[], Sl.nil⟩ : LR Int))) :: (.own s45 204 5 (encs ([(DoorR.mk ({ x32 with Later := r39 } : Door) s41)] : List DoorR))) :: (.blk b37 (enc (DoorR.mk ({ x32 with Later := r39 } : Door) s41)) 204) :: (.own Sl.nil 3 1 (encs ([] : List Int))) :: (.rows (α := Int) 3 (List.map DoorR.row rs26)) :: (.own s25 204 5 (encs rs26)) :: (.blk b17 (enc (EnterR.mk ({ y24 with Way := r8 } : Enter) s25 s10)) 114) :: (.own Sl.nil 209 3 (encs ([] : List Word))) :: (.own Sl.nil 204 5 (encs ([] : List DoorR))) :: (.own s10 209 3 (encs r8)) :: (.blk b6 (enc (EnterR.mk ({ Enter.zero with Doors := ([] : List Door), Way := ([] : List Word) } : Enter) Sl.nil Sl.nil)) 114) :: (.own Sl.nil 209 3 (encs ([] : List Word))) :: (.own Sl.nil 204 5 (encs ([] : List DoorR))) :: (.blk b1 (enc (EnterR.mk a0 s_a0_0 s_a0_1)) 114) :: L) rfl ?_
 refine Lst.rowEnd (α := Int) (xs := r39) (s := s41) rfl ?_
 refine Lst.its (L' := (.rows (α := Int) 3 (List.map DoorR.row ([(DoorR.mk ({ x32 with Later := r39 } : Door) s41)] : List DoorR))) :: (.own s45 204 5 (encs ([(DoorR.mk ({ x32 with Later := r39 } : Door) s41)] : List DoorR))) :: (.blk b37 (enc (DoorR.mk ({ x32 with Later := r39 } : Door) s41)) 204) :: (.own Sl.nil 3 1 (encs ([] : List Int))) :: (.rows (α := Int) 3 (List.map DoorR.row rs26)) :: (.own s25 204 5 (encs rs26)) :: (.blk b17 (enc (EnterR.mk ({ y24 with Way := r8 } : Enter) s25 s10)) 114) :: (.own Sl.nil 209 3 (encs ([] : List Word))) :: (.own Sl.nil 204 5 (encs ([] : List DoorR))) :: (.own s10 209 3 (encs r8)) :: (.blk b6 (enc (EnterR.mk ({ Enter.zero with Doors := ([] : List Door), Way := ([] : List Word) } : Enter) Sl.nil Sl.nil)) 114) :: (.own Sl.nil 209 3 (encs ([] : List Word))) :: (.own Sl.nil 204 5 (encs ([] : List DoorR))) :: (.blk b1 (enc (EnterR.mk a0 s_a0_0 s_a0_1)) 114) :: L) rfl ?_
 obtain ⟨u49, h50, H⟩ := bind_some H
 have hm52 : (rs26 ++ ([(DoorR.mk ({ x32 with Later := r39 } : Door) s41)] : List DoorR)).map DoorR.v = y24.Doors ++ ([({ x32 with Later := r39 } : Door)] : List Door) := map_app fm27 hm47
 refine Lst.append (i := 5) (α := DoorR) (xs := rs26) (ys := ([(DoorR.mk ({ x32 with Later := r39 } : Door) s41)] : List DoorR)) rfl rfl (by decide) rfl rfl Try.runUnderlying111 Try.typeInfo204 rfl rfl rfl rfl rfl rfl (Rd.own (i := 1) rfl rfl rfl) rfl (by have := room_some h50; have := map_len fm27; have := map_len hm47; omega) rfl (fun s51 => ?_)
 refine Lst.its (L' := (.rows (α := Int) 3 (List.map DoorR.row ([(DoorR.mk ({ x32 with Later := r39 } : Door) s41)] : List DoorR))) :: (.own s45 204 5 (encs ([(DoorR.mk ({ x32 with Later := r39 } : Door) s41)] : List DoorR))) :: (.blk b37 (enc (DoorR.mk ({ x32 with Later := r39 } : Door) s41)) 204) :: (.own Sl.nil 3 1 (encs ([] : List Int))) :: (.rows (α := Int) 3 (List.map DoorR.row rs26)) :: (.own s51 204 5 (encs (rs26 ++ ([(DoorR.mk ({ x32 with Later := r39 } : Door) s41)] : List DoorR)))) :: (.blk b17 (enc (EnterR.mk ({ y24 with Way := r8 } : Enter) s25 s10)) 114) :: (.own Sl.nil 209 3 (encs ([] : List Word))) :: (.own Sl.nil 204 5 (encs ([] : List DoorR))) :: (.own s10 209 3 (encs r8)) :: (.blk b6 (enc (EnterR.mk ({ Enter.zero with Doors := ([] : List Door), Way := ([] : List Word) } : Enter) Sl.nil Sl.nil)) 114) :: (.own Sl.nil 209 3 (encs ([] : List Word))) :: (.own Sl.nil 204 5 (encs ([] : List DoorR))) :: (.blk b1 (enc (EnterR.mk a0 s_a0_0 s_a0_1)) 114) :: L) rfl ?_
 refine Lst.front (i := 4) rfl (L' := (.rows (α := Int) 3 (List.map DoorR.row rs26)) :: (.rows (α := Int) 3 (List.map DoorR.row ([(DoorR.mk ({ x32 with Later := r39 } : Door) s41)] : List DoorR))) :: (.own s45 204 5 (encs ([(DoorR.mk ({ x32 with Later := r39 } : Door) s41)] : List DoorR))) :: (.blk b37 (enc (DoorR.mk ({ x32 with Later := r39 } : Door) s41)) 204) :: (.own Sl.nil 3 1 (encs ([] : List Int))) :: (.own s51 204 5 (encs (rs26 ++ ([(DoorR.mk ({ x32 with Later := r39 } : Door) s41)] : List DoorR)))) :: (.blk b17 (enc (EnterR.mk ({ y24 with Way := r8 } : Enter) s25 s10)) 114) :: (.own Sl.nil 209 3 (encs ([] : List Word))) :: (.own Sl.nil 204 5 (encs ([] : List DoorR))) :: (.own s10 209 3 (encs r8)) :: (.blk b6 (enc (EnterR.mk ({ Enter.zero with Doors := ([] : List Door), Way := ([] : List Word) } : Enter) Sl.nil Sl.nil)) 114) :: (.own Sl.nil 209 3 (encs ([] : List Word))) :: (.own Sl.nil 204 5 (encs ([] : List DoorR))) :: (.blk b1 (enc (EnterR.mk a0 s_a0_0 s_a0_1)) 114) :: L) rfl ?_
 refine Lst.rowsApp ?_
 refine Lst.less (L' := (.rows (α := Int) 3 ((List.map DoorR.row rs26) ++ (List.map DoorR.row ([(DoorR.mk ({ x32 with Later := r39 } : Door) s41)] : List DoorR)))) :: (.blk b37 (enc (DoorR.mk ({ x32 with Later := r39 } : Door) s41)) 204) :: (.own Sl.nil 3 1 (encs ([] : List Int))) :: (.own s51 204 5 (encs (rs26 ++ ([(DoorR.mk ({ x32 with Later := r39 } : Door) s41)] : List DoorR)))) :: (.blk b17 (enc (EnterR.mk ({ y24 with Way := r8 } : Enter) s25 s10)) 114) :: (.own Sl.nil 209 3 (encs ([] : List Word))) :: (.own Sl.nil 204 5 (encs ([] : List DoorR))) :: (.own s10 209 3 (encs r8)) :: (.blk b6 (enc (EnterR.mk ({ Enter.zero with Doors := ([] : List Door), Way := ([] : List Word) } : Enter) Sl.nil Sl.nil)) 114) :: (.own Sl.nil 209 3 (encs ([] : List Word))) :: (.own Sl.nil 204 5 (encs ([] : List DoorR))) :: (.blk b1 (enc (EnterR.mk a0 s_a0_0 s_a0_1)) 114) :: L) (List.Sublist.cons_cons _ (List.Sublist.cons _ (List.Sublist.cons_cons _ (List.Sublist.cons_cons _ (List.Sublist.cons_cons _ (List.Sublist.cons_cons _ (List.Sublist.cons_cons _ (List.Sublist.cons_cons _ (List.Sublist.cons_cons _ (List.Sublist.cons_cons _ (List.Sublist.cons_cons _ (List.Sublist.cons_cons _ (List.Sublist.cons_cons _ (.refl _)))))))))))))) ?_
 refine Lst.its (L' := (.rows (α := Int) 3 (List.map DoorR.row (rs26 ++ ([(DoorR.mk ({ x32 with Later := r39 } : Door) s41)] : List DoorR)))) :: (.blk b37 (enc (DoorR.mk ({ x32 with Later := r39 } : Door) s41)) 204) :: (.own Sl.nil 3 1 (encs ([] : List Int))) :: (.own s51 204 5 (encs (rs26 ++ ([(DoorR.mk ({ x32 with Later := r39 } : Door) s41)] : List DoorR)))) :: (.blk b17 (enc (EnterR.mk ({ y24 with Way := r8 } : Enter) s25 s10)) 114) :: (.own Sl.nil 209 3 (encs ([] : List Word))) :: (.own Sl.nil 204 5 (encs ([] : List DoorR))) :: (.own s10 209 3 (encs r8)) :: (.blk b6 (enc (EnterR.mk ({ Enter.zero with Doors := ([] : List Door), Way := ([] : List Word) } : Enter) Sl.nil Sl.nil)) 114) :: (.own Sl.nil 209 3 (encs ([] : List Word))) :: (.own Sl.nil 204 5 (encs ([] : List DoorR))) :: (.blk b1 (enc (EnterR.mk a0 s_a0_0 s_a0_1)) 114) :: L) (by rw [List.map_append]) ?_
 refine Lst.r (Ev.fieldAddr (off' := 0) rfl Try.runUnderlying114 rfl Try.sizeOf111 rfl rfl) ?_
 refine Lst.store (i := 4) rfl rfl rfl rfl rfl Try.sizeOf111 (vs := [Sl.v s51]) rfl rfl rfl (cs' := enc (EnterR.mk ({ y24 with Doors := y24.Doors ++ ([({ x32 with Later := r39 } : Door)] : List Door), Way := r8 } : Enter) s51 s10)) ((EnterR.put_Doors (Put.here (vs := [Sl.v s51]) rfl)).off (by rfl)) (L' := (.rows (α := Int) 3 (List.map DoorR.row (rs26 ++ ([(DoorR.mk ({ x32 with Later := r39 } : Door) s41)] : List DoorR)))) :: (.blk b37 (enc (DoorR.mk ({ x32 with Later := r39 } : Door) s41)) 204) :: (.own Sl.nil 3 1 (encs ([] : List Int))) :: (.own s51 204 5 (encs (rs26 ++ ([(DoorR.mk ({ x32 with Later := r39 } : Door) s41)] : List DoorR)))) :: (.blk b17 (enc (EnterR.mk ({ y24 with Doors := y24.Doors ++ ([({ x32 with Later := r39 } : Door)] : List Door), Way := r8 } : Enter) s51 s10)) 114) :: (.own Sl.nil 209 3 (encs ([] : List Word))) :: (.own Sl.nil 204 5 (encs ([] : List DoorR))) :: (.own s10 209 3 (encs r8)) :: (.blk b6 (enc (EnterR.mk ({ Enter.zero with Doors := ([] : List Door), Way := ([] : List Word) } : Enter) Sl.nil Sl.nil)) 114) :: (.own Sl.nil 209 3 (encs ([] : List Word))) :: (.own Sl.nil 204 5 (encs ([] : List DoorR))) :: (.blk b1 (enc (EnterR.mk a0 s_a0_0 s_a0_1)) 114) :: L) rfl ?_
 refine Lst.nil ?_
 refine At.in_normal ?_
 refine At.then ?_
 refine Cd.region ?_
 refine Lst.r (Ev.incr (by omega) rfl rfl) ?_
 refine Lst.r (Ev.move rfl) ?_
 refine Lst.nil ?_
 refine At.less (L' := (.rows (α := Int) 3 (List.map DoorR.row (rs26 ++ ([(DoorR.mk ({ x32 with Later := r39 } : Door) s41)] : List DoorR)))) :: (.own s51 204 5 (encs (rs26 ++ ([(DoorR.mk ({ x32 with Later := r39 } : Door) s41)] : List DoorR)))) :: (.blk b17 (enc (EnterR.mk ({ y24 with Doors := y24.Doors ++ ([({ x32 with Later := r39 } : Door)] : List Door), Way := r8 } : Enter) s51 s10)) 114) :: (.own Sl.nil 209 3 (encs ([] : List Word))) :: (.own Sl.nil 204 5 (encs ([] : List DoorR))) :: (.own s10 209 3 (encs r8)) :: (.blk b6 (enc (EnterR.mk ({ Enter.zero with Doors := ([] : List Door), Way := ([] : List Word) } : Enter) Sl.nil Sl.nil)) 114) :: (.own Sl.nil 209 3 (encs ([] : List Word))) :: (.own Sl.nil 204 5 (encs ([] : List DoorR))) :: (.blk b1 (enc (EnterR.mk a0 s_a0_0 s_a0_1)) 114) :: L) (sk1 (sc1 (sc1 (sk1 (sk1 (sk1 (sk1 (sk1 (sk1 (sk1 (sk1 (sk1 (.refl _))))))))))))) ?_
 exact At.meet (i20 + 1, k20, ({ y24 with Doors := y24.Doors ++ ([({ x32 with Later := r39 } : Door)] : List Door), Way := r8 } : Enter), s51, (rs26 ++ ([(DoorR.mk ({ x32 with Later := r39 } : Door) s41)] : List DoorR))) (FLe.trans hF31 hF44) ⟨rfl, rfl, rfl, rfl, rfl, trivial⟩ rfl ⟨⟨hgo20 _ (some_inj H).symm, by omega, hm52⟩, Nat.lt_succ_self _⟩
set_option maxRecDepth 20000 in
theorem enter_Wish_sim {a0 : Enter} {a1 : Int} {s_a0_0 : Sl} {rs_a0_0 : List DoorR} {s_a0_1 : Sl} {r : Enter × Int} (H : enter_Wish a0 a1 = some r) (w0 : World) (F : Frz) (M L : List Item) (hM : M.Sublist L) (hm_a0_0 : rs_a0_0.map DoorR.v = a0.Doors) (hs_a0_0 : Rd w0 F M s_a0_0 rs_a0_0) (ha_a0_0 : All DoorR.rel w0 F M rs_a0_0) (hs_a0_1 : Rd w0 F M s_a0_1 a0.Way) : Ok Try.prog w0 65 [.agg (enc (EnterR.mk a0 s_a0_0 s_a0_1)).toArray, iv a1] F (L) (fun Fx L' v => ∃ (s1 : Sl) (rs2 : List DoorR) (s6 : Sl), v = .tuple #[.agg (enc (EnterR.mk r.1 s1 s6)).toArray, iv r.2] ∧ L' = (.rows (α := Int) 3 (List.map DoorR.row rs2)) :: (.own s1 204 5 (encs rs2)) :: (.own s6 209 3 (encs r.1.Way)) :: L ∧ rs2.map DoorR.v = r.1.Doors) := by
 unfold enter_Wish at H
 refine Ok.enter (m := 2) (n := 100) Try.func65 rfl rfl rfl (by decide) ?_
 refine Cd.env (e' := [(0, .agg (enc (EnterR.mk a0 s_a0_0 s_a0_1)).toArray), (1, iv a1)]) rfl ?_
 refine Cd.seq ?_
 refine Cd.region ?_
 refine Lst.box rfl rfl (by decide) rfl (cs := enc (EnterR.mk a0 s_a0_0 s_a0_1)) rfl (fun b1 => ?_)
 have ha4 : All DoorR.rel w0 F [] ([] : List DoorR) := All.nil
 have ha4m : List.map DoorR.v ([] : List DoorR) = ([] : List Door) := rfl
 refine Lst.addNil 204 5 ?_
 refine Lst.addNil 209 3 ?_
 refine Lst.alloc (cs := enc (EnterR.mk ({ Enter.zero with Doors := ([] : List Door), Way := ([] : List Word) } : Enter) Sl.nil Sl.nil)) rfl rfl (by decide) Try.zeroValue114 rfl (fun b6 => ?_)
 refine Lst.r (Ev.assign rfl) ?_
 refine Lst.nil ?_
 refine At.then ?_
 refine Cd.seq ?_
 refine Cd.seq ?_
 refine Cd.region ?_
 refine Lst.r (Ev.loadA (i := 3) rfl rfl Try.isAgg114 Try.sizeOf114 (ch := enc (EnterR.mk a0 s_a0_0 s_a0_1)) (Enc.len _) (Get.here _)) ?_
 obtain ⟨r8, h9, H⟩ := bind_some H
 refine Lst.call1 rfl rfl (by decide) (vs := [.agg (enc (EnterR.mk a0 s_a0_0 s_a0_1)).toArray]) ⟨rfl, trivial⟩ Try.call69 (enter_Check_sim h9 w0 _ M _ (sc4 hM) hm_a0_0 (hs_a0_0.mono (FLe.refl _) (.refl _)) (All.monoDoor ha_a0_0 (FLe.refl _) (.refl _)) (hs_a0_1.mono (FLe.refl _) (.refl _))) ?_
 refine Lst.r (Ev.assign rfl) ?_
 refine Lst.nil ?_
 refine At.then ?_
 refine Cd.seq ?_
 refine Cd.region ?_
 refine Lst.r (Ev.move rfl) ?_
 refine Lst.r (Ev.neq rfl rfl) ?_
 refine Lst.nil ?_
 refine At.then ?_
 rcases Bool.eq_false_or_eq_true (r8 != (0 : Int)) with hb12 | hb12
 ·replace H := ite_t hb12 H
  refine Cd.condT rfl hb12 ?_
  refine Cd.seq ?_
  refine Cd.region ?_
  refine Lst.r (Ev.build (v := .agg (enc (EnterR.mk Enter.zero Sl.nil Sl.nil)).toArray) (pv := []) trivial (fun w => by kernel_rfl)) ?_
  refine Lst.r (Ev.move rfl) ?_
  refine Lst.store (i := 0) rfl rfl rfl rfl rfl Try.sizeOf114 (vs := enc (EnterR.mk Enter.zero Sl.nil Sl.nil)) rfl (Enc.len _) (Enc.one _) (cs' := enc (EnterR.mk Enter.zero Sl.nil Sl.nil)) (Put.here ((Enc.len _).trans (Enc.len _).symm)) (L' := (.blk b6 (enc (EnterR.mk Enter.zero Sl.nil Sl.nil)) 114) :: (.own Sl.nil 209 3 (encs ([] : List Word))) :: (.own Sl.nil 204 5 (encs ([] : List DoorR))) :: (.blk b1 (enc (EnterR.mk a0 s_a0_0 s_a0_1)) 114) :: L) rfl ?_
  refine Lst.r (Ev.assign rfl) ?_
  refine Lst.nil ?_
  refine At.then ?_
  obtain rfl := some_inj H
  refine Cd.ret ?_
  refine At.then_ret ?_
  have ha15m : List.map DoorR.v ([] : List DoorR) = ([] : List Door) := rfl
  refine At.addNil 204 5 ?_
  refine At.rowsNil Int 3 0 ?_
  refine At.its (L' := (.rows (α := Int) 3 (List.map DoorR.row ([] : List DoorR))) :: (.own Sl.nil 204 5 (encs ([] : List DoorR))) :: (.blk b6 (enc (EnterR.mk Enter.zero Sl.nil Sl.nil)) 114) :: (.own Sl.nil 209 3 (encs ([] : List Word))) :: (.own Sl.nil 204 5 (encs ([] : List DoorR))) :: (.blk b1 (enc (EnterR.mk a0 s_a0_0 s_a0_1)) 114) :: L) rfl ?_
  refine At.addNil 209 3 ?_
  refine At.front (i := 2) rfl rfl ?_
  refine At.front (i := 2) rfl (L' := (.rows (α := Int) 3 (List.map DoorR.row ([] : List DoorR))) :: (.own Sl.nil 204 5 (encs ([] : List DoorR))) :: (.own Sl.nil 209 3 (encs ([] : List Word))) :: (.blk b6 (enc (EnterR.mk ({ Enter.zero with Doors := ([] : List Door), Way := ([] : List Word) } : Enter) Sl.nil Sl.nil)) 114) :: (.own Sl.nil 209 3 (encs ([] : List Word))) :: (.own Sl.nil 204 5 (encs ([] : List DoorR))) :: (.blk b1 (enc (EnterR.mk a0 s_a0_0 s_a0_1)) 114) :: L) rfl ?_
  exact At.ret2 rfl (Res.cellA (i := 3) rfl rfl Try.isAgg114 Try.sizeOf114 (Enc.len _)) (Res.tmp rfl) (FLe.refl _) (sk1 (sk1 (sk1 (sc1 (sc1 (sc1 (sc1 (.refl _)))))))) ⟨Sl.nil, ([] : List DoorR), Sl.nil, rfl, rfl, ha15m⟩
 replace H := ite_f hb12 H
 refine Cd.condF rfl hb12 ?_
 refine Cd.skip ?_
 refine At.then ?_
 refine Cd.seq ?_
 refine Cd.region ?_
 refine Lst.r (Ev.fieldAddr (off' := 0) rfl Try.runUnderlying114 rfl Try.sizeOf111 rfl rfl) ?_
 refine Lst.r (Ev.load (i := 3) rfl rfl Try.isAgg111 (v := Sl.v s_a0_0) ((EnterR.get_Doors (Get.here _)).off (by rfl))) ?_
 refine Lst.r (Ev.lenM (map_len hm_a0_0) (Ev.lenS (α := DoorR) (xs := rs_a0_0) (by decide) rfl rfl Try.runUnderlying111 (hs_a0_0.mono (FLe.refl _) (sc4 hM)))) ?_
 refine Lst.r (Ev.assign rfl) ?_
 refine Lst.nil ?_
 refine At.then ?_
 refine Cd.seq ?_
 refine Cd.block ?_
 refine Cd.seq ?_
 refine Cd.region ?_
 refine Lst.r (Ev.move rfl) ?_
 refine Lst.r (Ev.move rfl) ?_
 refine Lst.r (Ev.sub rfl rfl) ?_
 obtain ⟨r18, h19, H⟩ := bind_some H
 refine Lst.call1 rfl rfl (by decide) (vs := [iv a1, iv (0 : Int), iv (w64 ((a0.Doors.length : Int) - (1 : Int)))]) ⟨rfl, rfl, rfl, trivial⟩ Try.call155 (enter_in_sim h19 w0 _ M _ (sc4 hM)) ?_
 refine Lst.r (Ev.not rfl) ?_
 refine Lst.r (Ev.assign rfl) ?_
 refine Lst.nil ?_
 refine At.then ?_
 rcases Bool.eq_false_or_eq_true (!r18) with hb22 | hb22
 ·replace H := ite_t hb22 H
  refine Cd.condT rfl hb22 ?_
  refine Cd.seq ?_
  refine Cd.as (e' := [(4, pv b6 0)]) (L' := (.blk b6 (enc (EnterR.mk ({ Enter.zero with Doors := ([] : List Door), Way := ([] : List Word) } : Enter) Sl.nil Sl.nil)) 114) :: (.own Sl.nil 209 3 (encs ([] : List Word))) :: (.own Sl.nil 204 5 (encs ([] : List DoorR))) :: (.blk b1 (enc (EnterR.mk a0 s_a0_0 s_a0_1)) 114) :: L) ⟨rfl, trivial⟩ rfl ?_
  refine Cd.region ?_
  refine Lst.r (Ev.build (v := .agg (enc (EnterR.mk Enter.zero Sl.nil Sl.nil)).toArray) (pv := []) trivial (fun w => by kernel_rfl)) ?_
  refine Lst.store (i := 0) rfl rfl rfl rfl rfl Try.sizeOf114 (vs := enc (EnterR.mk Enter.zero Sl.nil Sl.nil)) rfl (Enc.len _) (Enc.one _) (cs' := enc (EnterR.mk Enter.zero Sl.nil Sl.nil)) (Put.here ((Enc.len _).trans (Enc.len _).symm)) (L' := (.blk b6 (enc (EnterR.mk Enter.zero Sl.nil Sl.nil)) 114) :: (.own Sl.nil 209 3 (encs ([] : List Word))) :: (.own Sl.nil 204 5 (encs ([] : List DoorR))) :: (.blk b1 (enc (EnterR.mk a0 s_a0_0 s_a0_1)) 114) :: L) rfl ?_
  refine Lst.r (Ev.assign rfl) ?_
  refine Lst.nil ?_
  refine At.then ?_
  obtain rfl := some_inj H
  refine Cd.ret ?_
  refine At.in_ret ?_
  refine At.then_ret ?_
  have ha25m : List.map DoorR.v ([] : List DoorR) = ([] : List Door) := rfl
  refine At.addNil 204 5 ?_
  refine At.rowsNil Int 3 0 ?_
  refine At.its (L' := (.rows (α := Int) 3 (List.map DoorR.row ([] : List DoorR))) :: (.own Sl.nil 204 5 (encs ([] : List DoorR))) :: (.blk b6 (enc (EnterR.mk Enter.zero Sl.nil Sl.nil)) 114) :: (.own Sl.nil 209 3 (encs ([] : List Word))) :: (.own Sl.nil 204 5 (encs ([] : List DoorR))) :: (.blk b1 (enc (EnterR.mk a0 s_a0_0 s_a0_1)) 114) :: L) rfl ?_
  refine At.addNil 209 3 ?_
  refine At.front (i := 2) rfl rfl ?_
  refine At.front (i := 2) rfl (L' := (.rows (α := Int) 3 (List.map DoorR.row ([] : List DoorR))) :: (.own Sl.nil 204 5 (encs ([] : List DoorR))) :: (.own Sl.nil 209 3 (encs ([] : List Word))) :: (.blk b6 (enc (EnterR.mk ({ Enter.zero with Doors := ([] : List Door), Way := ([] : List Word) } : Enter) Sl.nil Sl.nil)) 114) :: (.own Sl.nil 209 3 (encs ([] : List Word))) :: (.own Sl.nil 204 5 (encs ([] : List DoorR))) :: (.blk b1 (enc (EnterR.mk a0 s_a0_0 s_a0_1)) 114) :: L) rfl ?_
  exact At.ret2 rfl (Res.cellA (i := 3) rfl rfl Try.isAgg114 Try.sizeOf114 (Enc.len _)) (Res.tmp rfl) (FLe.refl _) (sk1 (sk1 (sk1 (sc1 (sc1 (sc1 (sc1 (.refl _)))))))) ⟨Sl.nil, ([] : List DoorR), Sl.nil, rfl, rfl, ha25m⟩
 replace H := ite_f hb22 H
 refine Cd.condF rfl hb22 ?_
 refine Cd.seq ?_
 refine Cd.as (e' := [(1, iv a1), (2, pv b1 0), (4, pv b6 0), (7, iv (a0.Doors.length : Int))]) (L' := (.blk b6 (enc (EnterR.mk ({ Enter.zero with Doors := ([] : List Door), Way := ([] : List Word) } : Enter) Sl.nil Sl.nil)) 114) :: (.own Sl.nil 209 3 (encs ([] : List Word))) :: (.own Sl.nil 204 5 (encs ([] : List DoorR))) :: (.blk b1 (enc (EnterR.mk a0 s_a0_0 s_a0_1)) 114) :: L) ⟨rfl, rfl, rfl, rfl, trivial⟩ rfl ?_
 refine Cd.region ?_
 refine Lst.r (Ev.fieldAddr (off' := 0) rfl Try.runUnderlying114 rfl Try.sizeOf111 rfl rfl) ?_
 refine Lst.r (Ev.load (i := 3) rfl rfl Try.isAgg111 (v := Sl.v s_a0_0) ((EnterR.get_Doors (Get.here _)).off (by rfl))) ?_
 refine Lst.r (Ev.move rfl) ?_
 obtain ⟨x27, h28, H⟩ := bind_some H
 have g29 := lat_some h28
 obtain ⟨⟨r30v, r30h4⟩, r30g, r30e, r30m⟩ := map_get hm_a0_0 g29.2.2
 obtain rfl : x27 = r30v := r30e.symm
 have r30q : DoorR.rel w0 _ _ (DoorR.mk x27 r30h4) := ha_a0_0 _ r30m
 have r30_f4 : Rd w0 _ _ _ _ := r30q
 refine Lst.r (Ev.indexS (α := DoorR) (xs := rs_a0_0) rfl rfl Try.runUnderlying111 Try.sizeOf204 rfl (by decide) (hs_a0_0.mono (FLe.refl _) (sc4 hM)) g29.1 (by have := map_len hm_a0_0; omega)) ?_
 refine Lst.r (Ev.fieldS (α := DoorR) (f' := a1.toNat * 5 + 1) rfl (hs_a0_0.mono (FLe.refl _) (sc4 hM)) ((Get.elemN (s := 5) rfl r30g (Get.here _)).off (by omega)) rfl Try.runUnderlying204 rfl Try.sizeOf3 rfl rfl rfl) ?_
 refine Lst.r (Ev.loadS (α := DoorR) rfl (hs_a0_0.mono (FLe.refl _) (sc4 hM)) Try.isAgg3 (v := iv x27.Wish) ((Get.elemN (s := 5) rfl r30g (DoorR.get_Wish (Get.here _))).off (by omega))) ?_
 refine Lst.r (Ev.gtr rfl rfl) ?_
 refine Lst.r (Ev.assign rfl) ?_
 refine Lst.nil ?_
 refine At.then ?_
 rcases Bool.eq_false_or_eq_true (decide (x27.Wish > (0 : Int))) with hb31 | hb31
 ·replace H := ite_t hb31 H
  refine Cd.condT rfl hb31 ?_
  refine Cd.seq ?_
  refine Cd.region ?_
  refine Lst.r (Ev.build (v := .agg (enc (EnterR.mk Enter.zero Sl.nil Sl.nil)).toArray) (pv := []) trivial (fun w => by kernel_rfl)) ?_
  refine Lst.store (i := 0) rfl rfl rfl rfl rfl Try.sizeOf114 (vs := enc (EnterR.mk Enter.zero Sl.nil Sl.nil)) rfl (Enc.len _) (Enc.one _) (cs' := enc (EnterR.mk Enter.zero Sl.nil Sl.nil)) (Put.here ((Enc.len _).trans (Enc.len _).symm)) (L' := (.blk b6 (enc (EnterR.mk Enter.zero Sl.nil Sl.nil)) 114) :: (.own Sl.nil 209 3 (encs ([] : List Word))) :: (.own Sl.nil 204 5 (encs ([] : List DoorR))) :: (.blk b1 (enc (EnterR.mk a0 s_a0_0 s_a0_1)) 114) :: L) rfl ?_
  refine Lst.r (Ev.assign rfl) ?_
  refine Lst.nil ?_
  refine At.then ?_
  obtain rfl := some_inj H
  refine Cd.ret ?_
  refine At.in_ret ?_
  refine At.then_ret ?_
  have ha34m : List.map DoorR.v ([] : List DoorR) = ([] : List Door) := rfl
  refine At.addNil 204 5 ?_
  refine At.rowsNil Int 3 0 ?_
  refine At.its (L' := (.rows (α := Int) 3 (List.map DoorR.row ([] : List DoorR))) :: (.own Sl.nil 204 5 (encs ([] : List DoorR))) :: (.blk b6 (enc (EnterR.mk Enter.zero Sl.nil Sl.nil)) 114) :: (.own Sl.nil 209 3 (encs ([] : List Word))) :: (.own Sl.nil 204 5 (encs ([] : List DoorR))) :: (.blk b1 (enc (EnterR.mk a0 s_a0_0 s_a0_1)) 114) :: L) rfl ?_
  refine At.addNil 209 3 ?_
  refine At.front (i := 2) rfl rfl ?_
  refine At.front (i := 2) rfl (L' := (.rows (α := Int) 3 (List.map DoorR.row ([] : List DoorR))) :: (.own Sl.nil 204 5 (encs ([] : List DoorR))) :: (.own Sl.nil 209 3 (encs ([] : List Word))) :: (.blk b6 (enc (EnterR.mk ({ Enter.zero with Doors := ([] : List Door), Way := ([] : List Word) } : Enter) Sl.nil Sl.nil)) 114) :: (.own Sl.nil 209 3 (encs ([] : List Word))) :: (.own Sl.nil 204 5 (encs ([] : List DoorR))) :: (.blk b1 (enc (EnterR.mk a0 s_a0_0 s_a0_1)) 114) :: L) rfl ?_
  exact At.ret2 rfl (Res.cellA (i := 3) rfl rfl Try.isAgg114 Try.sizeOf114 (Enc.len _)) (Res.tmp rfl) (FLe.refl _) (sk1 (sk1 (sk1 (sc1 (sc1 (sc1 (sc1 (.refl _)))))))) ⟨Sl.nil, ([] : List DoorR), Sl.nil, rfl, rfl, ha34m⟩
 replace H := ite_f hb31 H
 refine Cd.condF rfl hb31 ?_
 refine Cd.seq ?_
 refine Cd.region ?_
 refine Lst.r (Ev.fieldAddr (off' := 0) rfl Try.runUnderlying114 rfl Try.sizeOf111 rfl rfl) ?_
 refine Lst.r (Ev.load (i := 3) rfl rfl Try.isAgg111 (v := Sl.v s_a0_0) ((EnterR.get_Doors (Get.here _)).off (by rfl))) ?_
 refine Lst.r (Ev.move rfl) ?_
 obtain ⟨x36, h37, H⟩ := bind_some H
 have g38 := lat_some h37
 obtain ⟨⟨r39v, r39h4⟩, r39g, r39e, r39m⟩ := map_get hm_a0_0 g38.2.2
 obtain rfl : x36 = r39v := r39e.symm
 have r39q : DoorR.rel w0 _ _ (DoorR.mk x36 r39h4) := ha_a0_0 _ r39m
 have r39_f4 : Rd w0 _ _ _ _ := r39q
 refine Lst.r (Ev.indexS (α := DoorR) (xs := rs_a0_0) rfl rfl Try.runUnderlying111 Try.sizeOf204 rfl (by decide) (hs_a0_0.mono (FLe.refl _) (sc4 hM)) g38.1 (by have := map_len hm_a0_0; omega)) ?_
 refine Lst.r (Ev.fieldS (α := DoorR) (f' := a1.toNat * 5 + 0) rfl (hs_a0_0.mono (FLe.refl _) (sc4 hM)) ((Get.elemN (s := 5) rfl r39g (Get.here _)).off (by omega)) rfl Try.runUnderlying204 rfl Try.sizeOf3 rfl rfl rfl) ?_
 refine Lst.r (Ev.loadS (α := DoorR) rfl (hs_a0_0.mono (FLe.refl _) (sc4 hM)) Try.isAgg3 (v := iv x36.Clock) ((Get.elemN (s := 5) rfl r39g (DoorR.get_Clock (Get.here _))).off (by omega))) ?_
 refine Lst.r (Ev.eql rfl rfl) ?_
 refine Lst.r (Ev.move rfl) ?_
 obtain ⟨o40, H, HKo40⟩ := bind_some H
 refine Lst.join (σ := Bool) 8 (fun y41 => [(1, iv a1), (2, pv b1 0), (4, pv b6 0), (7, iv (a0.Doors.length : Int)), (52, .bool y41)]) (fun y41 => (.blk b6 (enc (EnterR.mk ({ Enter.zero with Doors := ([] : List Door), Way := ([] : List Word) } : Enter) Sl.nil Sl.nil)) 114) :: (.own Sl.nil 209 3 (encs ([] : List Word))) :: (.own Sl.nil 204 5 (encs ([] : List DoorR))) :: (.blk b1 (enc (EnterR.mk a0 s_a0_0 s_a0_1)) 114) :: L) (fun _ y41 => y41 = o40) ?_ ?_
 ·rcases Bool.eq_false_or_eq_true (x36.Clock == (16777215 : Int)) with hb42 | hb42
  ·replace H := ite_t hb42 H
   refine Lst.skip rfl rfl rfl hb42 rfl (by decide) ?_
   refine Lst.skip rfl rfl rfl hb42 rfl (by decide) ?_
   refine Lst.skip rfl rfl rfl hb42 rfl (by decide) ?_
   refine Lst.skip rfl rfl rfl hb42 rfl (by decide) ?_
   refine Lst.skip rfl rfl rfl hb42 rfl (by decide) ?_
   refine Lst.skip rfl rfl rfl hb42 rfl (by decide) ?_
   refine Lst.skip rfl rfl rfl hb42 rfl (by decide) ?_
   refine Lst.r (Ev.pickT rfl hb42 rfl) ?_
   refine Lst.nil ?_
   exact At.meet true (FLe.refl _) ⟨rfl, rfl, rfl, rfl, rfl, trivial⟩ rfl (some_inj H)
  replace H := ite_f hb42 H
  refine Lst.rG hb42 (Ev.fieldAddr (off' := 1) rfl Try.runUnderlying114 rfl Try.sizeOf112 rfl rfl) ?_
  refine Lst.rG hb42 (Ev.load (i := 3) rfl rfl Try.isAgg112 (v := Sl.v s_a0_1) ((EnterR.get_Way (Get.here _)).off (by rfl))) ?_
  refine Lst.rG hb42 (Ev.lenS (α := Word) (xs := a0.Way) (by decide) rfl rfl Try.runUnderlying112 (hs_a0_1.mono (FLe.refl _) (sc4 hM))) ?_
  refine Lst.rG hb42 (Ev.move rfl) ?_
  refine Lst.rG hb42 (Ev.add rfl rfl) ?_
  refine Lst.rG hb42 (Ev.sub rfl rfl) ?_
  refine Lst.rG hb42 (Ev.gtr rfl rfl) ?_
  refine Lst.r (Ev.pickF rfl hb42 rfl) ?_
  refine Lst.nil ?_
  exact At.meet (decide ((w64 ((w64 ((a0.Way.length : Int) + (a0.Doors.length : Int))) - (1 : Int))) > (100 : Int))) (FLe.refl _) ⟨rfl, rfl, rfl, rfl, rfl, trivial⟩ rfl (some_inj H)
 rintro F43 y41 hF44 hy
 subst hy
 refine Lst.as (e' := [(1, iv a1), (2, pv b1 0), (4, pv b6 0), (7, iv (a0.Doors.length : Int)), (52, .bool y41)]) (L' := (.blk b6 (enc (EnterR.mk ({ Enter.zero with Doors := ([] : List Door), Way := ([] : List Word) } : Enter) Sl.nil Sl.nil)) 114) :: (.own Sl.nil 209 3 (encs ([] : List Word))) :: (.own Sl.nil 204 5 (encs ([] : List DoorR))) :: (.blk b1 (enc (EnterR.mk a0 s_a0_0 s_a0_1)) 114) :: L) ⟨rfl, rfl, rfl, rfl, rfl, trivial⟩ rfl ?_
 replace H := HKo40
 refine Lst.r (Ev.assign rfl) ?_
 refine Lst.nil ?_
 refine At.then ?_
 rcases Bool.eq_false_or_eq_true y41 with hb45 | hb45
 ·replace H := ite_t hb45 H
  refine Cd.condT rfl hb45 ?_
  refine Cd.seq ?_
  refine Cd.region ?_
  refine Lst.r (Ev.build (v := .agg (enc (EnterR.mk Enter.zero Sl.nil Sl.nil)).toArray) (pv := []) trivial (fun w => by kernel_rfl)) ?_
  refine Lst.store (i := 0) rfl rfl rfl rfl rfl Try.sizeOf114 (vs := enc (EnterR.mk Enter.zero Sl.nil Sl.nil)) rfl (Enc.len _) (Enc.one _) (cs' := enc (EnterR.mk Enter.zero Sl.nil Sl.nil)) (Put.here ((Enc.len _).trans (Enc.len _).symm)) (L' := (.blk b6 (enc (EnterR.mk Enter.zero Sl.nil Sl.nil)) 114) :: (.own Sl.nil 209 3 (encs ([] : List Word))) :: (.own Sl.nil 204 5 (encs ([] : List DoorR))) :: (.blk b1 (enc (EnterR.mk a0 s_a0_0 s_a0_1)) 114) :: L) rfl ?_
  refine Lst.r (Ev.assign rfl) ?_
  refine Lst.nil ?_
  refine At.then ?_
  obtain rfl := some_inj H
  refine Cd.ret ?_
  refine At.in_ret ?_
  refine At.then_ret ?_
  have ha48m : List.map DoorR.v ([] : List DoorR) = ([] : List Door) := rfl
  refine At.addNil 204 5 ?_
  refine At.rowsNil Int 3 0 ?_
  refine At.its (L' := (.rows (α := Int) 3 (List.map DoorR.row ([] : List DoorR))) :: (.own Sl.nil 204 5 (encs ([] : List DoorR))) :: (.blk b6 (enc (EnterR.mk Enter.zero Sl.nil Sl.nil)) 114) :: (.own Sl.nil 209 3 (encs ([] : List Word))) :: (.own Sl.nil 204 5 (encs ([] : List DoorR))) :: (.blk b1 (enc (EnterR.mk a0 s_a0_0 s_a0_1)) 114) :: L) rfl ?_
  refine At.addNil 209 3 ?_
  refine At.front (i := 2) rfl rfl ?_
  refine At.front (i := 2) rfl (L' := (.rows (α := Int) 3 (List.map DoorR.row ([] : List DoorR))) :: (.own Sl.nil 204 5 (encs ([] : List DoorR))) :: (.own Sl.nil 209 3 (encs ([] : List Word))) :: (.blk b6 (enc (EnterR.mk ({ Enter.zero with Doors := ([] : List Door), Way := ([] : List Word) } : Enter) Sl.nil Sl.nil)) 114) :: (.own Sl.nil 209 3 (encs ([] : List Word))) :: (.own Sl.nil 204 5 (encs ([] : List DoorR))) :: (.blk b1 (enc (EnterR.mk a0 s_a0_0 s_a0_1)) 114) :: L) rfl ?_
  exact At.ret2 rfl (Res.cellA (i := 3) rfl rfl Try.isAgg114 Try.sizeOf114 (Enc.len _)) (Res.tmp rfl) hF44 (sk1 (sk1 (sk1 (sc1 (sc1 (sc1 (sc1 (.refl _)))))))) ⟨Sl.nil, ([] : List DoorR), Sl.nil, rfl, rfl, ha48m⟩
 replace H := ite_f hb45 H
 refine Cd.condF rfl hb45 ?_
 refine Cd.skip ?_
 refine At.in_normal ?_
 refine At.then ?_
 refine Cd.seq ?_
 refine Cd.region ?_
 refine Lst.r (Ev.loadA (i := 3) rfl rfl Try.isAgg114 Try.sizeOf114 (ch := enc (EnterR.mk a0 s_a0_0 s_a0_1)) (Enc.len _) (Get.here _)) ?_
 obtain ⟨r50, h51, H⟩ := bind_some H
 refine Lst.call rfl rfl (by decide) (vs := [.agg (enc (EnterR.mk a0 s_a0_0 s_a0_1)).toArray]) ⟨rfl, trivial⟩ Try.call156 (enter_clone_sim h51 w0 _ M _ (sc4 hM) hm_a0_0 (hs_a0_0.mono hF44 (.refl _)) (All.monoDoor ha_a0_0 hF44 (.refl _)) (hs_a0_1.mono hF44 (.refl _))) (fun F59 L' v hF60 hv => ?_)
 obtain ⟨s52, rs53, s57, rfl, rfl, fm54⟩ := hv
 have ha62 : All DoorR.rel w0 F59 [] ([] : List DoorR) := All.nil
 have ha62m : List.map DoorR.v ([] : List DoorR) = ([] : List Door) := rfl
 refine Lst.addNil 204 5 ?_
 refine Lst.addNil 209 3 ?_
 refine Lst.alloc (cs := enc (EnterR.mk ({ Enter.zero with Doors := ([] : List Door), Way := ([] : List Word) } : Enter) Sl.nil Sl.nil)) rfl rfl (by decide) Try.zeroValue114 rfl (fun b64 => ?_)
 refine Lst.store (i := 0) rfl rfl rfl rfl rfl Try.sizeOf114 (vs := enc (EnterR.mk r50 s52 s57)) rfl (Enc.len _) (Enc.one _) (cs' := enc (EnterR.mk r50 s52 s57)) (Put.here ((Enc.len _).trans (Enc.len _).symm)) (L' := (.blk b64 (enc (EnterR.mk r50 s52 s57)) 114) :: (.own Sl.nil 209 3 (encs ([] : List Word))) :: (.own Sl.nil 204 5 (encs ([] : List DoorR))) :: (.rows (α := Int) 3 (List.map DoorR.row rs53)) :: (.own s52 204 5 (encs rs53)) :: (.own s57 209 3 (encs r50.Way)) :: (.blk b6 (enc (EnterR.mk ({ Enter.zero with Doors := ([] : List Door), Way := ([] : List Word) } : Enter) Sl.nil Sl.nil)) 114) :: (.own Sl.nil 209 3 (encs ([] : List Word))) :: (.own Sl.nil 204 5 (encs ([] : List DoorR))) :: (.blk b1 (enc (EnterR.mk a0 s_a0_0 s_a0_1)) 114) :: L) rfl ?_
 refine Lst.nil ?_
 refine At.then ?_
 refine Cd.seq ?_
 refine Cd.region ?_
 refine Lst.r (Ev.fieldAddr (off' := 0) rfl Try.runUnderlying114 rfl Try.sizeOf111 rfl rfl) ?_
 refine Lst.r (Ev.load (i := 0) rfl rfl Try.isAgg111 (v := Sl.v s52) ((EnterR.get_Doors (Get.here _)).off (by rfl))) ?_
 refine Lst.r (Ev.move rfl) ?_
 obtain ⟨x66, h67, H⟩ := bind_some H
 have g68 := lat_some h67
 obtain ⟨⟨r69v, r69h4⟩, r69g, r69e, r69m⟩ := map_get fm54 g68.2.2
 obtain rfl : x66 = r69v := r69e.symm
 have r69wg := map_at DoorR.row r69g
 refine Lst.r (Ev.indexS (α := DoorR) (xs := rs53) rfl rfl Try.runUnderlying111 Try.sizeOf204 rfl (by decide) (Rd.own (i := 4) rfl rfl rfl) g68.1 (by have := map_len fm54; omega)) ?_
 refine Lst.r (Ev.assign rfl) ?_
 refine Lst.nil ?_
 refine At.then ?_
 refine Cd.seq ?_
 refine Cd.region ?_
 refine Lst.r (Ev.move rfl) ?_
 refine Lst.r (Ev.nilCheckS (α := DoorR) rfl (Rd.own (i := 4) rfl rfl rfl) ((Get.elemN (s := 5) rfl r69g (Get.here _)).off (by omega)) rfl) ?_
 refine Lst.r (Ev.fieldS (α := DoorR) (f' := a1.toNat * 5 + 0) rfl (Rd.own (i := 4) rfl rfl rfl) ((Get.elemN (s := 5) rfl r69g (Get.here _)).off (by omega)) rfl Try.runUnderlying204 rfl Try.sizeOf3 rfl rfl rfl) ?_
 refine Lst.r (Ev.loadS (α := DoorR) rfl (Rd.own (i := 4) rfl rfl rfl) Try.isAgg3 (v := iv x66.Clock) ((Get.elemN (s := 5) rfl r69g (DoorR.get_Clock (Get.here _))).off (by omega))) ?_
 refine Lst.r (Ev.add rfl rfl) ?_
 refine Lst.r (Ev.nilCheckS (α := DoorR) rfl (Rd.own (i := 4) rfl rfl rfl) ((Get.elemN (s := 5) rfl r69g (Get.here _)).off (by omega)) rfl) ?_
 refine Lst.r (Ev.fieldS (α := DoorR) (f' := a1.toNat * 5 + 0) rfl (Rd.own (i := 4) rfl rfl rfl) ((Get.elemN (s := 5) rfl r69g (Get.here _)).off (by omega)) rfl Try.runUnderlying204 rfl Try.sizeOf3 rfl rfl rfl) ?_
 obtain ⟨p70, h71, H⟩ := Let_some H
 have hm72 : (rs53.set a1.toNat (DoorR.mk ({ x66 with Clock := w64 (x66.Clock + (1 : Int)) } : Door) r69h4)).map DoorR.v = p70 := (map_set fm54 _ _).trans h71
 refine Lst.storeS (i := 4) rfl rfl rfl rfl rfl Try.sizeOf3 (vs := [iv (w64 (x66.Clock + (1 : Int)))]) rfl rfl (by decide) rfl (xs' := encs (rs53.set a1.toNat (DoorR.mk ({ x66 with Clock := w64 (x66.Clock + (1 : Int)) } : Door) r69h4))) ((Put.elemN (s := 5) (x := DoorR.mk x66 r69h4) (y := (DoorR.mk ({ x66 with Clock := w64 (x66.Clock + (1 : Int)) } : Door) r69h4)) rfl r69g (DoorR.put_Clock (p := DoorR.mk x66 r69h4) (Put.here (vs := [iv (w64 (x66.Clock + (1 : Int)))]) rfl))).off (by omega)) (L' := (.blk b64 (enc (EnterR.mk ({ r50 with Doors := p70 } : Enter) s52 s57)) 114) :: (.own Sl.nil 209 3 (encs ([] : List Word))) :: (.own Sl.nil 204 5 (encs ([] : List DoorR))) :: (.rows (α := Int) 3 (List.map DoorR.row rs53)) :: (.own s52 204 5 (encs (rs53.set a1.toNat (DoorR.mk ({ x66 with Clock := w64 (x66.Clock + (1 : Int)) } : Door) r69h4)))) :: (.own s57 209 3 (encs r50.Way)) :: (.blk b6 (enc (EnterR.mk ({ Enter.zero with Doors := ([] : List Door), Way := ([] : List Word) } : Enter) Sl.nil Sl.nil)) 114) :: (.own Sl.nil 209 3 (encs ([] : List Word))) :: (.own Sl.nil 204 5 (encs ([] : List DoorR))) :: (.blk b1 (enc (EnterR.mk a0 s_a0_0 s_a0_1)) 114) :: L) rfl ?_
 refine Lst.its (L' := (.blk b64 (enc (EnterR.mk ({ r50 with Doors := p70 } : Enter) s52 s57)) 114) :: (.own Sl.nil 209 3 (encs ([] : List Word))) :: (.own Sl.nil 204 5 (encs ([] : List DoorR))) :: (.rows (α := Int) 3 (List.map DoorR.row (rs53.set a1.toNat (DoorR.mk ({ x66 with Clock := w64 (x66.Clock + (1 : Int)) } : Door) r69h4)))) :: (.own s52 204 5 (encs (rs53.set a1.toNat (DoorR.mk ({ x66 with Clock := w64 (x66.Clock + (1 : Int)) } : Door) r69h4)))) :: (.own s57 209 3 (encs r50.Way)) :: (.blk b6 (enc (EnterR.mk ({ Enter.zero with Doors := ([] : List Door), Way := ([] : List Word) } : Enter) Sl.nil Sl.nil)) 114) :: (.own Sl.nil 209 3 (encs ([] : List Word))) :: (.own Sl.nil 204 5 (encs ([] : List DoorR))) :: (.blk b1 (enc (EnterR.mk a0 s_a0_0 s_a0_1)) 114) :: L) (by rw [map_set_same (y := (DoorR.mk ({ x66 with Clock := w64 (x66.Clock + (1 : Int)) } : Door) r69h4)) r69g rfl]) ?_
 refine Lst.nil ?_
 refine At.then ?_
 refine Cd.seq ?_
 refine Cd.as (e' := [(1, iv a1), (4, pv b6 0), (7, iv (a0.Doors.length : Int)), (8, pv b64 0), (9, Sl.at s52 (a1.toNat * 5))]) (L' := (.blk b64 (enc (EnterR.mk ({ r50 with Doors := p70 } : Enter) s52 s57)) 114) :: (.own Sl.nil 209 3 (encs ([] : List Word))) :: (.own Sl.nil 204 5 (encs ([] : List DoorR))) :: (.rows (α := Int) 3 (List.map DoorR.row (rs53.set a1.toNat (DoorR.mk ({ x66 with Clock := w64 (x66.Clock + (1 : Int)) } : Door) r69h4)))) :: (.own s52 204 5 (encs (rs53.set a1.toNat (DoorR.mk ({ x66 with Clock := w64 (x66.Clock + (1 : Int)) } : Door) r69h4)))) :: (.own s57 209 3 (encs r50.Way)) :: (.blk b6 (enc (EnterR.mk ({ Enter.zero with Doors := ([] : List Door), Way := ([] : List Word) } : Enter) Sl.nil Sl.nil)) 114) :: (.own Sl.nil 209 3 (encs ([] : List Word))) :: (.own Sl.nil 204 5 (encs ([] : List DoorR))) :: (.blk b1 (enc (EnterR.mk a0 s_a0_0 s_a0_1)) 114) :: L) ⟨rfl, rfl, rfl, rfl, rfl, trivial⟩ rfl ?_
 refine Cd.region ?_
 refine Lst.r (Ev.move rfl) ?_
 refine Lst.r (Ev.move rfl) ?_
 obtain ⟨x73, h74, H⟩ := bind_some H
 have g75 := lat_some h74
 obtain ⟨⟨r76v, r76h4⟩, r76g, r76e, r76m⟩ := map_get hm72 g75.2.2
 obtain rfl : x73 = r76v := r76e.symm
 have r76wg := map_at DoorR.row r76g
 refine Lst.r (Ev.nilCheckS (α := DoorR) rfl (Rd.own (i := 4) rfl rfl rfl) ((Get.elemN (s := 5) rfl r76g (Get.here _)).off (by omega)) rfl) ?_
 refine Lst.r (Ev.fieldS (α := DoorR) (f' := a1.toNat * 5 + 0) rfl (Rd.own (i := 4) rfl rfl rfl) ((Get.elemN (s := 5) rfl r76g (Get.here _)).off (by omega)) rfl Try.runUnderlying204 rfl Try.sizeOf3 rfl rfl rfl) ?_
 refine Lst.r (Ev.loadS (α := DoorR) rfl (Rd.own (i := 4) rfl rfl rfl) Try.isAgg3 (v := iv x73.Clock) ((Get.elemN (s := 5) rfl r76g (DoorR.get_Clock (Get.here _))).off (by omega))) ?_
 obtain ⟨x77, h78, H⟩ := bind_some H
 have g79 := lat_some h78
 obtain ⟨⟨r80v, r80h4⟩, r80g, r80e, r80m⟩ := map_get hm72 g79.2.2
 obtain rfl : x77 = r80v := r80e.symm
 have r80wg := map_at DoorR.row r80g
 refine Lst.r (Ev.nilCheckS (α := DoorR) rfl (Rd.own (i := 4) rfl rfl rfl) ((Get.elemN (s := 5) rfl r80g (Get.here _)).off (by omega)) rfl) ?_
 refine Lst.r (Ev.fieldS (α := DoorR) (f' := a1.toNat * 5 + 1) rfl (Rd.own (i := 4) rfl rfl rfl) ((Get.elemN (s := 5) rfl r80g (Get.here _)).off (by omega)) rfl Try.runUnderlying204 rfl Try.sizeOf3 rfl rfl rfl) ?_
 obtain ⟨p81, h82, H⟩ := Let_some H
 have hm83 : ((rs53.set a1.toNat (DoorR.mk ({ x66 with Clock := w64 (x66.Clock + (1 : Int)) } : Door) r69h4)).set a1.toNat (DoorR.mk ({ x77 with Wish := x73.Clock } : Door) r80h4)).map DoorR.v = p81 := (map_set hm72 _ _).trans h82
 refine Lst.storeS (i := 4) rfl rfl rfl rfl rfl Try.sizeOf3 (vs := [iv x73.Clock]) rfl rfl (by decide) rfl (xs' := encs ((rs53.set a1.toNat (DoorR.mk ({ x66 with Clock := w64 (x66.Clock + (1 : Int)) } : Door) r69h4)).set a1.toNat (DoorR.mk ({ x77 with Wish := x73.Clock } : Door) r80h4))) ((Put.elemN (s := 5) (x := DoorR.mk x77 r80h4) (y := (DoorR.mk ({ x77 with Wish := x73.Clock } : Door) r80h4)) rfl r80g (DoorR.put_Wish (p := DoorR.mk x77 r80h4) (Put.here (vs := [iv x73.Clock]) rfl))).off (by omega)) (L' := (.blk b64 (enc (EnterR.mk ({ r50 with Doors := p81 } : Enter) s52 s57)) 114) :: (.own Sl.nil 209 3 (encs ([] : List Word))) :: (.own Sl.nil 204 5 (encs ([] : List DoorR))) :: (.rows (α := Int) 3 (List.map DoorR.row (rs53.set a1.toNat (DoorR.mk ({ x66 with Clock := w64 (x66.Clock + (1 : Int)) } : Door) r69h4)))) :: (.own s52 204 5 (encs ((rs53.set a1.toNat (DoorR.mk ({ x66 with Clock := w64 (x66.Clock + (1 : Int)) } : Door) r69h4)).set a1.toNat (DoorR.mk ({ x77 with Wish := x73.Clock } : Door) r80h4)))) :: (.own s57 209 3 (encs r50.Way)) :: (.blk b6 (enc (EnterR.mk ({ Enter.zero with Doors := ([] : List Door), Way := ([] : List Word) } : Enter) Sl.nil Sl.nil)) 114) :: (.own Sl.nil 209 3 (encs ([] : List Word))) :: (.own Sl.nil 204 5 (encs ([] : List DoorR))) :: (.blk b1 (enc (EnterR.mk a0 s_a0_0 s_a0_1)) 114) :: L) rfl ?_
 refine Lst.its (L' := (.blk b64 (enc (EnterR.mk ({ r50 with Doors := p81 } : Enter) s52 s57)) 114) :: (.own Sl.nil 209 3 (encs ([] : List Word))) :: (.own Sl.nil 204 5 (encs ([] : List DoorR))) :: (.rows (α := Int) 3 (List.map DoorR.row ((rs53.set a1.toNat (DoorR.mk ({ x66 with Clock := w64 (x66.Clock + (1 : Int)) } : Door) r69h4)).set a1.toNat (DoorR.mk ({ x77 with Wish := x73.Clock } : Door) r80h4)))) :: (.own s52 204 5 (encs ((rs53.set a1.toNat (DoorR.mk ({ x66 with Clock := w64 (x66.Clock + (1 : Int)) } : Door) r69h4)).set a1.toNat (DoorR.mk ({ x77 with Wish := x73.Clock } : Door) r80h4)))) :: (.own s57 209 3 (encs r50.Way)) :: (.blk b6 (enc (EnterR.mk ({ Enter.zero with Doors := ([] : List Door), Way := ([] : List Word) } : Enter) Sl.nil Sl.nil)) 114) :: (.own Sl.nil 209 3 (encs ([] : List Word))) :: (.own Sl.nil 204 5 (encs ([] : List DoorR))) :: (.blk b1 (enc (EnterR.mk a0 s_a0_0 s_a0_1)) 114) :: L) (by rw [map_set_same (y := (DoorR.mk ({ x77 with Wish := x73.Clock } : Door) r80h4)) r80g rfl]) ?_
 refine Lst.nil ?_
 refine At.then ?_
 refine Cd.seq ?_
 refine Cd.region ?_
 refine Lst.r (Ev.move rfl) ?_
 refine Lst.r (Ev.move rfl) ?_
 refine Lst.r (Ev.eql rfl rfl) ?_
 obtain ⟨x84, h85, H⟩ := bind_some H
 have g86 := lat_some h85
 obtain ⟨⟨r87v, r87h4⟩, r87g, r87e, r87m⟩ := map_get hm83 g86.2.2
 obtain rfl : x84 = r87v := r87e.symm
 have r87wg := map_at DoorR.row r87g
 refine Lst.r (Ev.nilCheckS (α := DoorR) rfl (Rd.own (i := 4) rfl rfl rfl) ((Get.elemN (s := 5) rfl r87g (Get.here _)).off (by omega)) rfl) ?_
 refine Lst.r (Ev.fieldS (α := DoorR) (f' := a1.toNat * 5 + 3) rfl (Rd.own (i := 4) rfl rfl rfl) ((Get.elemN (s := 5) rfl r87g (Get.here _)).off (by omega)) rfl Try.runUnderlying204 rfl Try.sizeOf4 rfl rfl rfl) ?_
 obtain ⟨p88, h89, H⟩ := Let_some H
 have hm90 : (((rs53.set a1.toNat (DoorR.mk ({ x66 with Clock := w64 (x66.Clock + (1 : Int)) } : Door) r69h4)).set a1.toNat (DoorR.mk ({ x77 with Wish := x73.Clock } : Door) r80h4)).set a1.toNat (DoorR.mk ({ x84 with In := (a0.Doors.length : Int) == (1 : Int) } : Door) r87h4)).map DoorR.v = p88 := (map_set hm83 _ _).trans h89
 refine Lst.storeS (i := 4) rfl rfl rfl rfl rfl Try.sizeOf4 (vs := [.bool ((a0.Doors.length : Int) == (1 : Int))]) rfl rfl (by decide) rfl (xs' := encs (((rs53.set a1.toNat (DoorR.mk ({ x66 with Clock := w64 (x66.Clock + (1 : Int)) } : Door) r69h4)).set a1.toNat (DoorR.mk ({ x77 with Wish := x73.Clock } : Door) r80h4)).set a1.toNat (DoorR.mk ({ x84 with In := (a0.Doors.length : Int) == (1 : Int) } : Door) r87h4))) ((Put.elemN (s := 5) (x := DoorR.mk x84 r87h4) (y := (DoorR.mk ({ x84 with In := (a0.Doors.length : Int) == (1 : Int) } : Door) r87h4)) rfl r87g (DoorR.put_In (p := DoorR.mk x84 r87h4) (Put.here (vs := [.bool ((a0.Doors.length : Int) == (1 : Int))]) rfl))).off (by omega)) (L' := (.blk b64 (enc (EnterR.mk ({ r50 with Doors := p88 } : Enter) s52 s57)) 114) :: (.own Sl.nil 209 3 (encs ([] : List Word))) :: (.own Sl.nil 204 5 (encs ([] : List DoorR))) :: (.rows (α := Int) 3 (List.map DoorR.row ((rs53.set a1.toNat (DoorR.mk ({ x66 with Clock := w64 (x66.Clock + (1 : Int)) } : Door) r69h4)).set a1.toNat (DoorR.mk ({ x77 with Wish := x73.Clock } : Door) r80h4)))) :: (.own s52 204 5 (encs (((rs53.set a1.toNat (DoorR.mk ({ x66 with Clock := w64 (x66.Clock + (1 : Int)) } : Door) r69h4)).set a1.toNat (DoorR.mk ({ x77 with Wish := x73.Clock } : Door) r80h4)).set a1.toNat (DoorR.mk ({ x84 with In := (a0.Doors.length : Int) == (1 : Int) } : Door) r87h4)))) :: (.own s57 209 3 (encs r50.Way)) :: (.blk b6 (enc (EnterR.mk ({ Enter.zero with Doors := ([] : List Door), Way := ([] : List Word) } : Enter) Sl.nil Sl.nil)) 114) :: (.own Sl.nil 209 3 (encs ([] : List Word))) :: (.own Sl.nil 204 5 (encs ([] : List DoorR))) :: (.blk b1 (enc (EnterR.mk a0 s_a0_0 s_a0_1)) 114) :: L) rfl ?_
 refine Lst.its (L' := (.blk b64 (enc (EnterR.mk ({ r50 with Doors := p88 } : Enter) s52 s57)) 114) :: (.own Sl.nil 209 3 (encs ([] : List Word))) :: (.own Sl.nil 204 5 (encs ([] : List DoorR))) :: (.rows (α := Int) 3 (List.map DoorR.row (((rs53.set a1.toNat (DoorR.mk ({ x66 with Clock := w64 (x66.Clock + (1 : Int)) } : Door) r69h4)).set a1.toNat (DoorR.mk ({ x77 with Wish := x73.Clock } : Door) r80h4)).set a1.toNat (DoorR.mk ({ x84 with In := (a0.Doors.length : Int) == (1 : Int) } : Door) r87h4)))) :: (.own s52 204 5 (encs (((rs53.set a1.toNat (DoorR.mk ({ x66 with Clock := w64 (x66.Clock + (1 : Int)) } : Door) r69h4)).set a1.toNat (DoorR.mk ({ x77 with Wish := x73.Clock } : Door) r80h4)).set a1.toNat (DoorR.mk ({ x84 with In := (a0.Doors.length : Int) == (1 : Int) } : Door) r87h4)))) :: (.own s57 209 3 (encs r50.Way)) :: (.blk b6 (enc (EnterR.mk ({ Enter.zero with Doors := ([] : List Door), Way := ([] : List Word) } : Enter) Sl.nil Sl.nil)) 114) :: (.own Sl.nil 209 3 (encs ([] : List Word))) :: (.own Sl.nil 204 5 (encs ([] : List DoorR))) :: (.blk b1 (enc (EnterR.mk a0 s_a0_0 s_a0_1)) 114) :: L) (by rw [map_set_same (y := (DoorR.mk ({ x84 with In := (a0.Doors.length : Int) == (1 : Int) } : Door) r87h4)) r87g rfl]) ?_
 refine Lst.nil ?_
 refine At.then ?_
 refine Cd.seq ?_
 refine Cd.seq ?_
 refine Cd.region ?_
 refine Lst.r (Ev.move rfl) ?_
 refine Lst.r (Ev.move rfl) ?_
 refine Lst.nil ?_
 refine At.then ?_
 refine Cd.block ?_
 refine Cd.bound (Rd.le (α := DoorR) (xs := rs_a0_0) (by decide) (hs_a0_0.mono (FLe.trans hF44 hF60) (sc8 (sc2 hM)))) (fun hN117 => ?_)
 rw [map_len hm_a0_0] at hN117
 obtain ⟨ol91, H, HKl91⟩ := bind_some H
 refine Cd.loop (σ := Nat × Nat × Enter × Sl × (List Word)) (fun (i91, k91, y92, s93, l94) => [(1, iv a1), (4, pv b6 0), (8, pv b64 0), (9, Sl.at s52 (a1.toNat * 5)), (79, iv (a0.Doors.length : Int)), (80, iv (i91 : Int))]) (fun (i91, k91, y92, s93, l94) => (.blk b64 (enc (EnterR.mk ({ y92 with Doors := p88, Way := l94 } : Enter) s52 s93)) 114) :: (.own Sl.nil 209 3 (encs ([] : List Word))) :: (.own Sl.nil 204 5 (encs ([] : List DoorR))) :: (.rows (α := Int) 3 (List.map DoorR.row (((rs53.set a1.toNat (DoorR.mk ({ x66 with Clock := w64 (x66.Clock + (1 : Int)) } : Door) r69h4)).set a1.toNat (DoorR.mk ({ x77 with Wish := x73.Clock } : Door) r80h4)).set a1.toNat (DoorR.mk ({ x84 with In := (a0.Doors.length : Int) == (1 : Int) } : Door) r87h4)))) :: (.own s52 204 5 (encs (((rs53.set a1.toNat (DoorR.mk ({ x66 with Clock := w64 (x66.Clock + (1 : Int)) } : Door) r69h4)).set a1.toNat (DoorR.mk ({ x77 with Wish := x73.Clock } : Door) r80h4)).set a1.toNat (DoorR.mk ({ x84 with In := (a0.Doors.length : Int) == (1 : Int) } : Door) r87h4)))) :: (.own s93 209 3 (encs l94)) :: (.blk b6 (enc (EnterR.mk ({ Enter.zero with Doors := ([] : List Door), Way := ([] : List Word) } : Enter) Sl.nil Sl.nil)) 114) :: (.own Sl.nil 209 3 (encs ([] : List Word))) :: (.own Sl.nil 204 5 (encs ([] : List DoorR))) :: (.blk b1 (enc (EnterR.mk a0 s_a0_0 s_a0_1)) 114) :: L) (fun _ => (fun (i91, k91, y92, s93, l94) => rangeF (enter_Wish_B1 a1 p88) k91 i91 (y92, l94) = some ol91 ∧ i91 + k91 = a0.Doors.length)) (fun (i91, k91, y92, s93, l94) => k91) (0, a0.Doors.length, ({ r50 with Doors := p88 } : Enter), s57, r50.Way) ⟨rfl, rfl, rfl, rfl, rfl, rfl, trivial⟩ rfl ⟨H, by omega⟩ ?_
 rintro F95 ⟨i91, k91, y92, s93, l94⟩ hF96 ⟨H, hik91⟩
 refine Cd.as (e' := [(1, iv a1), (4, pv b6 0), (8, pv b64 0), (9, Sl.at s52 (a1.toNat * 5)), (79, iv (a0.Doors.length : Int)), (80, iv (i91 : Int))]) (L' := (.blk b64 (enc (EnterR.mk ({ y92 with Doors := p88, Way := l94 } : Enter) s52 s93)) 114) :: (.own Sl.nil 209 3 (encs ([] : List Word))) :: (.own Sl.nil 204 5 (encs ([] : List DoorR))) :: (.rows (α := Int) 3 (List.map DoorR.row (((rs53.set a1.toNat (DoorR.mk ({ x66 with Clock := w64 (x66.Clock + (1 : Int)) } : Door) r69h4)).set a1.toNat (DoorR.mk ({ x77 with Wish := x73.Clock } : Door) r80h4)).set a1.toNat (DoorR.mk ({ x84 with In := (a0.Doors.length : Int) == (1 : Int) } : Door) r87h4)))) :: (.own s52 204 5 (encs (((rs53.set a1.toNat (DoorR.mk ({ x66 with Clock := w64 (x66.Clock + (1 : Int)) } : Door) r69h4)).set a1.toNat (DoorR.mk ({ x77 with Wish := x73.Clock } : Door) r80h4)).set a1.toNat (DoorR.mk ({ x84 with In := (a0.Doors.length : Int) == (1 : Int) } : Door) r87h4)))) :: (.own s93 209 3 (encs l94)) :: (.blk b6 (enc (EnterR.mk ({ Enter.zero with Doors := ([] : List Door), Way := ([] : List Word) } : Enter) Sl.nil Sl.nil)) 114) :: (.own Sl.nil 209 3 (encs ([] : List Word))) :: (.own Sl.nil 204 5 (encs ([] : List DoorR))) :: (.blk b1 (enc (EnterR.mk a0 s_a0_0 s_a0_1)) 114) :: L) ⟨rfl, rfl, rfl, rfl, rfl, rfl, trivial⟩ rfl ?_
 rcases k91 with _ | k91
 ·have hc91 : decide ((i91 : Int) < (a0.Doors.length : Int)) = false := decide_eq_false (by omega)
  replace H := rangeF_end H
  refine Cd.seq ?_
  refine Cd.region ?_
  refine Lst.r (Ev.lss rfl rfl) ?_
  refine Lst.nil ?_
  refine At.then ?_
  refine Cd.seq ?_
  refine Cd.condF rfl hc91 ?_
  refine Cd.exit ?_
  refine At.then_exit ?_
  refine At.then_exit ?_
  refine At.in_exit ?_
  subst H
  replace H := HKl91
  refine At.then ?_
  refine Cd.seq ?_
  refine Cd.region ?_
  refine Lst.r (Ev.loadA (i := 0) rfl rfl Try.isAgg114 Try.sizeOf114 (ch := enc (EnterR.mk ({ y92 with Doors := p88, Way := l94 } : Enter) s52 s93)) (Enc.len _) (Get.here _)) ?_
  refine Lst.store (i := 6) rfl rfl rfl rfl rfl Try.sizeOf114 (vs := enc (EnterR.mk ({ y92 with Doors := p88, Way := l94 } : Enter) s52 s93)) rfl (Enc.len _) (Enc.one _) (cs' := enc (EnterR.mk ({ y92 with Doors := p88, Way := l94 } : Enter) s52 s93)) (Put.here ((Enc.len _).trans (Enc.len _).symm)) (L' := (.blk b64 (enc (EnterR.mk ({ y92 with Doors := p88, Way := l94 } : Enter) s52 s93)) 114) :: (.own Sl.nil 209 3 (encs ([] : List Word))) :: (.own Sl.nil 204 5 (encs ([] : List DoorR))) :: (.rows (α := Int) 3 (List.map DoorR.row (((rs53.set a1.toNat (DoorR.mk ({ x66 with Clock := w64 (x66.Clock + (1 : Int)) } : Door) r69h4)).set a1.toNat (DoorR.mk ({ x77 with Wish := x73.Clock } : Door) r80h4)).set a1.toNat (DoorR.mk ({ x84 with In := (a0.Doors.length : Int) == (1 : Int) } : Door) r87h4)))) :: (.own s52 204 5 (encs (((rs53.set a1.toNat (DoorR.mk ({ x66 with Clock := w64 (x66.Clock + (1 : Int)) } : Door) r69h4)).set a1.toNat (DoorR.mk ({ x77 with Wish := x73.Clock } : Door) r80h4)).set a1.toNat (DoorR.mk ({ x84 with In := (a0.Doors.length : Int) == (1 : Int) } : Door) r87h4)))) :: (.own s93 209 3 (encs l94)) :: (.blk b6 (enc (EnterR.mk ({ y92 with Doors := p88, Way := l94 } : Enter) s52 s93)) 114) :: (.own Sl.nil 209 3 (encs ([] : List Word))) :: (.own Sl.nil 204 5 (encs ([] : List DoorR))) :: (.blk b1 (enc (EnterR.mk a0 s_a0_0 s_a0_1)) 114) :: L) rfl ?_
  refine Lst.r (Ev.assign rfl) ?_
  refine Lst.nil ?_
  refine At.then ?_
  obtain rfl := some_inj H
  refine Cd.ret ?_
  exact At.ret2 rfl (Res.cellA (i := 6) rfl rfl Try.isAgg114 Try.sizeOf114 (Enc.len _)) (Res.tmp rfl) (FLe.trans (FLe.trans hF44 hF60) hF96) (sc1 (sc1 (sc1 (sk1 (sk1 (sk1 (sc1 (sc1 (sc1 (sc1 (.refl _))))))))))) ⟨s52, (((rs53.set a1.toNat (DoorR.mk ({ x66 with Clock := w64 (x66.Clock + (1 : Int)) } : Door) r69h4)).set a1.toNat (DoorR.mk ({ x77 with Wish := x73.Clock } : Door) r80h4)).set a1.toNat (DoorR.mk ({ x84 with In := (a0.Doors.length : Int) == (1 : Int) } : Door) r87h4)), s93, rfl, rfl, hm90⟩
 have hc91 : decide ((i91 : Int) < (a0.Doors.length : Int)) = true := decide_eq_true (by omega)
 obtain ⟨c91, H, hgo91⟩ := rangeF_go H
 unfold enter_Wish_B1 at H
 try dsimp only at H
 refine Cd.seq ?_
 refine Cd.region ?_
 refine Lst.r (Ev.lss rfl rfl) ?_
 refine Lst.nil ?_
 refine At.then ?_
 refine Cd.seq ?_
 refine Cd.condT rfl hc91 ?_
 refine Cd.skip ?_
 refine At.then ?_
 refine Cd.seq ?_
 refine Cd.block ?_
 refine Cd.seq ?_
 refine Cd.region ?_
 refine Lst.r (Ev.move rfl) ?_
 refine Lst.r (Ev.assign rfl) ?_
 refine Lst.nil ?_
 refine At.then ?_
 refine Cd.seq ?_
 refine Cd.region ?_
 refine Lst.r (Ev.move rfl) ?_
 refine Lst.r (Ev.move rfl) ?_
 refine Lst.r (Ev.neq rfl rfl) ?_
 refine Lst.nil ?_
 refine At.then ?_
 rcases (Bool.eq_false_or_eq_true ((i91 : Int) != a1)).symm with hb97 | hb97
 ·replace H := ite_f hb97 H
  refine Cd.condF rfl hb97 ?_
  refine Cd.skip ?_
  refine At.in_normal ?_
  refine At.then ?_
  refine Cd.region ?_
  refine Lst.r (Ev.incr (by omega) rfl rfl) ?_
  refine Lst.r (Ev.move rfl) ?_
  refine Lst.nil ?_
  exact At.meet (i91 + 1, k91, ({ y92 with Doors := p88, Way := l94 } : Enter), s93, l94) hF96 ⟨rfl, rfl, rfl, rfl, rfl, rfl, trivial⟩ rfl ⟨⟨hgo91 _ (some_inj H).symm, by omega⟩, Nat.lt_succ_self _⟩
 replace H := ite_t hb97 H
 refine Cd.condT rfl hb97 ?_
 obtain ⟨x98, h99, H⟩ := bind_some H
 obtain ⟨o107, h108, H⟩ := Let_some H
 refine Cd.headMeet (σ := Sl × (List Word)) 10 (fun (s105, l106) => [(1, iv a1), (4, pv b6 0), (8, pv b64 0), (9, Sl.at s52 (a1.toNat * 5)), (79, iv (a0.Doors.length : Int)), (80, iv (i91 : Int)), (87, Sl.v s93), (95, Sl.v s105)]) (fun (s105, l106) => (.own s105 209 3 (encs l106)) :: (.blk b64 (enc (EnterR.mk ({ y92 with Doors := p88, Way := l94 } : Enter) s52 s93)) 114) :: (.own Sl.nil 209 3 (encs ([] : List Word))) :: (.own Sl.nil 204 5 (encs ([] : List DoorR))) :: (.rows (α := Int) 3 (List.map DoorR.row (((rs53.set a1.toNat (DoorR.mk ({ x66 with Clock := w64 (x66.Clock + (1 : Int)) } : Door) r69h4)).set a1.toNat (DoorR.mk ({ x77 with Wish := x73.Clock } : Door) r80h4)).set a1.toNat (DoorR.mk ({ x84 with In := (a0.Doors.length : Int) == (1 : Int) } : Door) r87h4)))) :: (.own s52 204 5 (encs (((rs53.set a1.toNat (DoorR.mk ({ x66 with Clock := w64 (x66.Clock + (1 : Int)) } : Door) r69h4)).set a1.toNat (DoorR.mk ({ x77 with Wish := x73.Clock } : Door) r80h4)).set a1.toNat (DoorR.mk ({ x84 with In := (a0.Doors.length : Int) == (1 : Int) } : Door) r87h4)))) :: (.own s93 209 3 (encs l94)) :: (.blk b6 (enc (EnterR.mk ({ Enter.zero with Doors := ([] : List Door), Way := ([] : List Word) } : Enter) Sl.nil Sl.nil)) 114) :: (.own Sl.nil 209 3 (encs ([] : List Word))) :: (.own Sl.nil 204 5 (encs ([] : List DoorR))) :: (.blk b1 (enc (EnterR.mk a0 s_a0_0 s_a0_1)) 114) :: L) (fun _ (s105, l106) => l106 = o107) (by kernel_rfl) (by kernel_rfl) (behind_sink (by kernel_rfl) (by kernel_rfl) (by kernel_rfl)) (by kernel_rfl) (fun hsel hlt => ?_) ?_
 ·refine HdJ.keep (fun w => St w0 F95 ((.blk b64 (enc (EnterR.mk ({ y92 with Doors := p88, Way := l94 } : Enter) s52 s93)) 114) :: (.own Sl.nil 209 3 (encs ([] : List Word))) :: (.own Sl.nil 204 5 (encs ([] : List DoorR))) :: (.rows (α := Int) 3 (List.map DoorR.row (((rs53.set a1.toNat (DoorR.mk ({ x66 with Clock := w64 (x66.Clock + (1 : Int)) } : Door) r69h4)).set a1.toNat (DoorR.mk ({ x77 with Wish := x73.Clock } : Door) r80h4)).set a1.toNat (DoorR.mk ({ x84 with In := (a0.Doors.length : Int) == (1 : Int) } : Door) r87h4)))) :: (.own s52 204 5 (encs (((rs53.set a1.toNat (DoorR.mk ({ x66 with Clock := w64 (x66.Clock + (1 : Int)) } : Door) r69h4)).set a1.toNat (DoorR.mk ({ x77 with Wish := x73.Clock } : Door) r80h4)).set a1.toNat (DoorR.mk ({ x84 with In := (a0.Doors.length : Int) == (1 : Int) } : Door) r87h4)))) :: (.own s93 209 3 (encs l94)) :: (.blk b6 (enc (EnterR.mk ({ Enter.zero with Doors := ([] : List Door), Way := ([] : List Word) } : Enter) Sl.nil Sl.nil)) 114) :: (.own Sl.nil 209 3 (encs ([] : List Word))) :: (.own Sl.nil 204 5 (encs ([] : List DoorR))) :: (.blk b1 (enc (EnterR.mk a0 s_a0_0 s_a0_1)) 114) :: L) w) (fun w h => trivial) ?_
  refine HdJ.tk hsel hlt 0 (fun w h => h.sublist (sk1 (sk1 (sk1 (sk1 (sk1 (sk1 (sk1 (sk1 (sk1 (sk1 (.refl _)))))))))))) rfl (Ev.fieldAddr (off' := 1) rfl Try.runUnderlying114 rfl Try.sizeOf112 rfl rfl) ?_
  refine HdJ.tk hsel hlt 1 (fun w h => h.sublist (sk1 (sk1 (sk1 (sk1 (sk1 (sk1 (sk1 (sk1 (sk1 (sk1 (.refl _)))))))))))) rfl (Ev.load (i := 0) rfl rfl Try.isAgg112 (v := Sl.v s93) ((EnterR.get_Way (Get.here _)).off (by rfl))) ?_
  refine HdJ.tk hsel hlt 2 (fun w h => h.sublist (sk1 (sk1 (sk1 (sk1 (sk1 (sk1 (sk1 (sk1 (sk1 (sk1 (.refl _)))))))))))) rfl (Ev.move rfl) ?_
  refine HdJ.tk hsel hlt 3 (fun w h => h.sublist (sk1 (sk1 (sk1 (sk1 (sk1 (sk1 (sk1 (sk1 (sk1 (sk1 (.refl _)))))))))))) rfl (Ev.move rfl) ?_
  refine HdJ.tk hsel hlt 4 (fun w h => h.sublist (sk1 (sk1 (sk1 (sk1 (sk1 (sk1 (sk1 (sk1 (sk1 (sk1 (.refl _)))))))))))) rfl (Ev.move rfl) ?_
  have g109 := lat_some h99
  obtain ⟨⟨r110v, r110h4⟩, r110g, r110e, r110m⟩ := map_get hm90 g109.2.2
  obtain rfl : x98 = r110v := r110e.symm
  have r110wg := map_at DoorR.row r110g
  refine HdJ.tk hsel hlt 5 (fun w h => h.sublist (sk1 (sk1 (sk1 (sk1 (sk1 (sk1 (sk1 (sk1 (sk1 (sk1 (.refl _)))))))))))) rfl (Ev.nilCheckS (α := DoorR) rfl (Rd.own (i := 4) rfl rfl rfl) ((Get.elemN (s := 5) rfl r110g (Get.here _)).off (by omega)) rfl) ?_
  refine HdJ.tk hsel hlt 6 (fun w h => h.sublist (sk1 (sk1 (sk1 (sk1 (sk1 (sk1 (sk1 (sk1 (sk1 (sk1 (.refl _)))))))))))) rfl (Ev.fieldS (α := DoorR) (f' := a1.toNat * 5 + 1) rfl (Rd.own (i := 4) rfl rfl rfl) ((Get.elemN (s := 5) rfl r110g (Get.here _)).off (by omega)) rfl Try.runUnderlying204 rfl Try.sizeOf3 rfl rfl rfl) ?_
  refine HdJ.tk hsel hlt 7 (fun w h => h.sublist (sk1 (sk1 (sk1 (sk1 (sk1 (sk1 (sk1 (sk1 (sk1 (sk1 (.refl _)))))))))))) rfl (Ev.loadS (α := DoorR) rfl (Rd.own (i := 4) rfl rfl rfl) Try.isAgg3 (v := iv x98.Wish) ((Get.elemN (s := 5) rfl r110g (DoorR.get_Wish (Get.here _))).off (by omega))) ?_
  refine HdJ.tk hsel hlt 8 (fun w h => h.sublist (sk1 (sk1 (sk1 (sk1 (sk1 (sk1 (sk1 (sk1 (sk1 (sk1 (.refl _)))))))))))) rfl (Ev.build (v := .agg (enc ({ Word.zero with From := a1, To := (i91 : Int), At := x98.Wish } : Word)).toArray) (pv := [(0, iv a1), (1, iv (i91 : Int)), (2, iv x98.Wish)]) ⟨rfl, rfl, ⟨rfl, rfl, ⟨rfl, rfl, trivial⟩⟩⟩ (fun w => by kernel_rfl)) ?_
  refine HdJ.step [9] (by kernel_rfl) rfl ?_
  refine HdStep.c (fun inv => ?_) ?_
  ·refine Lst.buildSlice (α := Word) (xs := ([({ Word.zero with From := a1, To := (i91 : Int), At := x98.Wish } : Word)] : List Word)) (pv := [(0, .agg (enc ({ Word.zero with From := a1, To := (i91 : Int), At := x98.Wish } : Word)).toArray)]) rfl rfl (by decide) ⟨rfl, rfl, trivial⟩ (run_buildSlice (α := Word) (z0 := Word.zero) (xs := ([({ Word.zero with From := a1, To := (i91 : Int), At := x98.Wish } : Word)] : List Word)) Try.runUnderlying112 Try.sizeOf209 Try.zeroValue209 rfl rfl rfl (by decide) rfl (fill_cons (cs := encs (List.replicate 1 Word.zero)) (cs' := encs ((List.replicate 1 Word.zero).set 0 ({ Word.zero with From := a1, To := (i91 : Int), At := x98.Wish } : Word))) (vs := enc ({ Word.zero with From := a1, To := (i91 : Int), At := x98.Wish } : Word)) rfl rfl (Enc.len _) ((Put.elemN (s := 3) (i := 0) (x := Word.zero) (y := ({ Word.zero with From := a1, To := (i91 : Int), At := x98.Wish } : Word)) rfl rfl (Put.here ((Enc.len _).trans (Enc.len _).symm))).off rfl) fill_nil)) rfl rfl (by decide) (fun s111 _ => ?_)
   refine Lst.nil ?_
   refine At.hd inv (fun w h => (h.weaken (FLe.refl _)).sublist (sc1 (sk1 (sk1 (sk1 (sk1 (sk1 (sk1 (sk1 (sk1 (sk1 (sk1 (.refl _))))))))))))) ?_
   refine HdJ.done (by kernel_rfl) ?_
   exact At.meetN (s111, ([({ Word.zero with From := a1, To := (i91 : Int), At := x98.Wish } : Word)] : List Word)) (FLe.refl _) ⟨rfl, rfl, rfl, rfl, rfl, rfl, rfl, rfl, trivial⟩ rfl h108
  exact trivial
 rintro F112 ⟨s105, l106⟩ hF113 hy
 subst hy
 refine Lst.as (e' := [(1, iv a1), (4, pv b6 0), (8, pv b64 0), (9, Sl.at s52 (a1.toNat * 5)), (79, iv (a0.Doors.length : Int)), (80, iv (i91 : Int)), (87, Sl.v s93), (95, Sl.v s105)]) (L' := (.own s105 209 3 (encs l106)) :: (.blk b64 (enc (EnterR.mk ({ y92 with Doors := p88, Way := l94 } : Enter) s52 s93)) 114) :: (.own Sl.nil 209 3 (encs ([] : List Word))) :: (.own Sl.nil 204 5 (encs ([] : List DoorR))) :: (.rows (α := Int) 3 (List.map DoorR.row (((rs53.set a1.toNat (DoorR.mk ({ x66 with Clock := w64 (x66.Clock + (1 : Int)) } : Door) r69h4)).set a1.toNat (DoorR.mk ({ x77 with Wish := x73.Clock } : Door) r80h4)).set a1.toNat (DoorR.mk ({ x84 with In := (a0.Doors.length : Int) == (1 : Int) } : Door) r87h4)))) :: (.own s52 204 5 (encs (((rs53.set a1.toNat (DoorR.mk ({ x66 with Clock := w64 (x66.Clock + (1 : Int)) } : Door) r69h4)).set a1.toNat (DoorR.mk ({ x77 with Wish := x73.Clock } : Door) r80h4)).set a1.toNat (DoorR.mk ({ x84 with In := (a0.Doors.length : Int) == (1 : Int) } : Door) r87h4)))) :: (.own s93 209 3 (encs l94)) :: (.blk b6 (enc (EnterR.mk ({ Enter.zero with Doors := ([] : List Door), Way := ([] : List Word) } : Enter) Sl.nil Sl.nil)) 114) :: (.own Sl.nil 209 3 (encs ([] : List Word))) :: (.own Sl.nil 204 5 (encs ([] : List DoorR))) :: (.blk b1 (enc (EnterR.mk a0 s_a0_0 s_a0_1)) 114) :: L) ⟨rfl, rfl, rfl, rfl, rfl, rfl, rfl, rfl, trivial⟩ rfl ?_
 obtain ⟨u114, h115, H⟩ := bind_some H
 refine Lst.append (i := 6) (α := Word) (xs := l94) (ys := l106) rfl rfl (by decide) rfl rfl Try.runUnderlying112 Try.typeInfo209 rfl rfl rfl rfl rfl rfl (Rd.own (i := 0) rfl rfl rfl) rfl (room_some h115) rfl (fun s116 => ?_)
 refine Lst.its (L' := (.own s105 209 3 (encs l106)) :: (.blk b64 (enc (EnterR.mk ({ y92 with Doors := p88 } : Enter) s52 s93)) 114) :: (.own Sl.nil 209 3 (encs ([] : List Word))) :: (.own Sl.nil 204 5 (encs ([] : List DoorR))) :: (.rows (α := Int) 3 (List.map DoorR.row (((rs53.set a1.toNat (DoorR.mk ({ x66 with Clock := w64 (x66.Clock + (1 : Int)) } : Door) r69h4)).set a1.toNat (DoorR.mk ({ x77 with Wish := x73.Clock } : Door) r80h4)).set a1.toNat (DoorR.mk ({ x84 with In := (a0.Doors.length : Int) == (1 : Int) } : Door) r87h4)))) :: (.own s52 204 5 (encs (((rs53.set a1.toNat (DoorR.mk ({ x66 with Clock := w64 (x66.Clock + (1 : Int)) } : Door) r69h4)).set a1.toNat (DoorR.mk ({ x77 with Wish := x73.Clock } : Door) r80h4)).set a1.toNat (DoorR.mk ({ x84 with In := (a0.Doors.length : Int) == (1 : Int) } : Door) r87h4)))) :: (.own s116 209 3 (encs (l94 ++ l106))) :: (.blk b6 (enc (EnterR.mk ({ Enter.zero with Doors := ([] : List Door), Way := ([] : List Word) } : Enter) Sl.nil Sl.nil)) 114) :: (.own Sl.nil 209 3 (encs ([] : List Word))) :: (.own Sl.nil 204 5 (encs ([] : List DoorR))) :: (.blk b1 (enc (EnterR.mk a0 s_a0_0 s_a0_1)) 114) :: L) rfl ?_
 refine Lst.r (Ev.fieldAddr (off' := 1) rfl Try.runUnderlying114 rfl Try.sizeOf112 rfl rfl) ?_
 refine Lst.store (i := 1) rfl rfl rfl rfl rfl Try.sizeOf112 (vs := [Sl.v s116]) rfl rfl rfl (cs' := enc (EnterR.mk ({ y92 with Doors := p88, Way := l94 ++ l106 } : Enter) s52 s116)) ((EnterR.put_Way (Put.here (vs := [Sl.v s116]) rfl)).off (by rfl)) (L' := (.own s105 209 3 (encs l106)) :: (.blk b64 (enc (EnterR.mk ({ y92 with Doors := p88, Way := l94 ++ l106 } : Enter) s52 s116)) 114) :: (.own Sl.nil 209 3 (encs ([] : List Word))) :: (.own Sl.nil 204 5 (encs ([] : List DoorR))) :: (.rows (α := Int) 3 (List.map DoorR.row (((rs53.set a1.toNat (DoorR.mk ({ x66 with Clock := w64 (x66.Clock + (1 : Int)) } : Door) r69h4)).set a1.toNat (DoorR.mk ({ x77 with Wish := x73.Clock } : Door) r80h4)).set a1.toNat (DoorR.mk ({ x84 with In := (a0.Doors.length : Int) == (1 : Int) } : Door) r87h4)))) :: (.own s52 204 5 (encs (((rs53.set a1.toNat (DoorR.mk ({ x66 with Clock := w64 (x66.Clock + (1 : Int)) } : Door) r69h4)).set a1.toNat (DoorR.mk ({ x77 with Wish := x73.Clock } : Door) r80h4)).set a1.toNat (DoorR.mk ({ x84 with In := (a0.Doors.length : Int) == (1 : Int) } : Door) r87h4)))) :: (.own s116 209 3 (encs (l94 ++ l106))) :: (.blk b6 (enc (EnterR.mk ({ Enter.zero with Doors := ([] : List Door), Way := ([] : List Word) } : Enter) Sl.nil Sl.nil)) 114) :: (.own Sl.nil 209 3 (encs ([] : List Word))) :: (.own Sl.nil 204 5 (encs ([] : List DoorR))) :: (.blk b1 (enc (EnterR.mk a0 s_a0_0 s_a0_1)) 114) :: L) rfl ?_
 refine Lst.nil ?_
 refine At.in_normal ?_
 refine At.then ?_
 refine Cd.region ?_
 refine Lst.r (Ev.incr (by omega) rfl rfl) ?_
 refine Lst.r (Ev.move rfl) ?_
 refine Lst.nil ?_
 refine At.less (L' := (.blk b64 (enc (EnterR.mk ({ y92 with Doors := p88, Way := l94 ++ l106 } : Enter) s52 s116)) 114) :: (.own Sl.nil 209 3 (encs ([] : List Word))) :: (.own Sl.nil 204 5 (encs ([] : List DoorR))) :: (.rows (α := Int) 3 (List.map DoorR.row (((rs53.set a1.toNat (DoorR.mk ({ x66 with Clock := w64 (x66.Clock + (1 : Int)) } : Door) r69h4)).set a1.toNat (DoorR.mk ({ x77 with Wish := x73.Clock } : Door) r80h4)).set a1.toNat (DoorR.mk ({ x84 with In := (a0.Doors.length : Int) == (1 : Int) } : Door) r87h4)))) :: (.own s52 204 5 (encs (((rs53.set a1.toNat (DoorR.mk ({ x66 with Clock := w64 (x66.Clock + (1 : Int)) } : Door) r69h4)).set a1.toNat (DoorR.mk ({ x77 with Wish := x73.Clock } : Door) r80h4)).set a1.toNat (DoorR.mk ({ x84 with In := (a0.Doors.length : Int) == (1 : Int) } : Door) r87h4)))) :: (.own s116 209 3 (encs (l94 ++ l106))) :: (.blk b6 (enc (EnterR.mk ({ Enter.zero with Doors := ([] : List Door), Way := ([] : List Word) } : Enter) Sl.nil Sl.nil)) 114) :: (.own Sl.nil 209 3 (encs ([] : List Word))) :: (.own Sl.nil 204 5 (encs ([] : List DoorR))) :: (.blk b1 (enc (EnterR.mk a0 s_a0_0 s_a0_1)) 114) :: L) (sc1 (sk1 (sk1 (sk1 (sk1 (sk1 (sk1 (sk1 (sk1 (sk1 (sk1 (.refl _)))))))))))) ?_
 exact At.meet (i91 + 1, k91, ({ y92 with Doors := p88, Way := l94 ++ l106 } : Enter), s116, l94 ++ l106) (FLe.trans hF96 hF113) ⟨rfl, rfl, rfl, rfl, rfl, rfl, trivial⟩ rfl ⟨⟨hgo91 _ (some_inj H).symm, by omega⟩, Nat.lt_succ_self _⟩
set_option maxRecDepth 20000 in
theorem slices_Delete_api_Word_api_Word_sim {a0 : List Word} {a1 : Int} {a2 : Int} {s_a0 : Sl} {r : (List Word)} (H : slices_Delete_api_Word_api_Word a0 a1 a2 = some r) (w0 : World) (F : Frz) (M L : List Item) (hM : M.Sublist L) : Ok Try.prog w0 157 [Sl.v s_a0, iv a1, iv a2] F ((.own s_a0 209 3 (encs a0)) :: L) (fun _ L' v => ∃ (s2 : Sl), v = Sl.v s2 ∧ L' = (.own s2 209 3 (encs r)) :: L) := by
 unfold slices_Delete_api_Word_api_Word at H
 refine Ok.enter (m := 3) (n := 33) Try.func157 rfl rfl rfl (by decide) ?_
 refine Cd.env (e' := [(0, Sl.v s_a0), (1, iv a1), (2, iv a2)]) rfl ?_
 refine Cd.seq ?_
 refine Cd.region ?_
 refine Lst.addNil 209 3 ?_
 refine Lst.r (Ev.assign rfl) ?_
 refine Lst.nil ?_
 refine At.then ?_
 refine Cd.seq ?_
 refine Cd.region ?_
 refine Lst.r (Ev.move rfl) ?_
 refine Lst.r (Ev.move rfl) ?_
 refine Lst.r (Ev.move rfl) ?_
 refine Lst.r (Ev.move rfl) ?_
 refine Lst.r (Ev.lenS (α := Word) (xs := a0) (by decide) rfl rfl Try.runUnderlying112 (Rd.own (i := 1) rfl rfl rfl)) ?_
 obtain ⟨m3, h4, H⟩ := bind_some H
 have g5 := cutL_some h4
 refine Lst.capOwn (α := Word) (i := 1) (xs := a0) rfl rfl rfl (by decide) (fun hl6 hc7 => ?_)
 refine Lst.r (Ev.cut3 (i := a1) (j := a2) (k := (a0.length : Int)) rfl rfl rfl rfl Try.runUnderlying112 Try.sizeOf209 g5.1.1 g5.1.2.1 g5.1.2.2 (Int.ofNat_le.2 hc7)) ?_
 refine Lst.nil ?_
 refine At.then ?_
 refine Cd.seq ?_
 refine Cd.seq ?_
 refine Cd.region ?_
 refine Lst.r (Ev.move rfl) ?_
 refine Lst.r (Ev.move rfl) ?_
 refine Lst.r (Ev.eql rfl rfl) ?_
 refine Lst.nil ?_
 refine At.then ?_
 rcases Bool.eq_false_or_eq_true (a1 == a2) with hb8 | hb8
 ·replace H := ite_t hb8 H
  refine Cd.condT rfl hb8 ?_
  refine Cd.seq ?_
  refine Cd.region ?_
  refine Lst.r (Ev.move rfl) ?_
  refine Lst.r (Ev.assign rfl) ?_
  refine Lst.nil ?_
  refine At.then ?_
  obtain rfl := some_inj H
  refine Cd.ret ?_
  refine At.then_ret ?_
  exact At.ret1 rfl (Res.tmp rfl) (FLe.refl _) (sc1 (sk1 (.refl _))) ⟨s_a0, rfl, rfl⟩
 replace H := ite_f hb8 H
 refine Cd.condF rfl hb8 ?_
 refine Cd.skip ?_
 refine At.then ?_
 refine Cd.seq ?_
 refine Cd.region ?_
 refine Lst.r (Ev.move rfl) ?_
 refine Lst.r (Ev.lenS (α := Word) (xs := a0) (by decide) rfl rfl Try.runUnderlying112 (Rd.own (i := 1) rfl rfl rfl)) ?_
 refine Lst.r (Ev.assign rfl) ?_
 refine Lst.nil ?_
 refine At.then ?_
 refine Cd.seq ?_
 refine Cd.tail 6 (by kernel_rfl) (by kernel_rfl) ?_
 refine Qt.r (Ev.move rfl) ?_
 refine Qt.r (Ev.move rfl) ?_
 obtain ⟨m9, h10, H⟩ := bind_some H
 obtain ⟨g11, gl12⟩ := cutL_some h10
 try dsimp only at g11
 refine Qt.r (Ev.cut (α := Word) (xs := a0) (i := 0) (j := a1) rfl rfl rfl Try.runUnderlying112 Try.sizeOf209 rfl (by decide) (Rd.own (i := 1) rfl rfl rfl) g11.1 g11.2.1 g11.2.2) ?_
 refine Qt.r (Ev.move rfl) ?_
 refine Qt.r (Ev.move rfl) ?_
 obtain ⟨m13, h14, H⟩ := bind_some H
 obtain ⟨g15, gl16⟩ := cutL_some h14
 try dsimp only at g15
 refine Qt.r (Ev.cut (α := Word) (xs := a0) (i := a2) (j := (a0.length : Int)) rfl rfl rfl Try.runUnderlying112 Try.sizeOf209 rfl (by decide) (Rd.own (i := 1) rfl rfl rfl) g15.1 g15.2.1 g15.2.2) ?_
 refine Qt.tail ?_
 refine Lst.capOwn (α := Word) (i := 1) (xs := a0) rfl rfl rfl (by decide) (fun hl17 hc18 => ?_)
 refine Lst.shift (α := Word) (k := 1) (i := (a1 : Int).toNat) (j := (a2 : Int).toNat) (xs := a0) rfl rfl (by decide) rfl rfl Try.runUnderlying112 Try.typeInfo209 rfl rfl (by decide) rfl rfl (by omega) (by omega) ?_
 refine Lst.its (L' := (.own Sl.nil 209 3 (encs ([] : List Word))) :: (.own (Sl.mk (Sl.a s_a0) ((a1 : Int).toNat + (a0.length - (a2 : Int).toNat)) (Sl.cap s_a0)) 209 3 (encs (a0.take ((a1 : Int).toNat) ++ a0.drop ((a2 : Int).toNat)))) :: L) rfl ?_
 refine Lst.r (Ev.assign rfl) ?_
 refine Lst.nil ?_
 refine At.then ?_
 refine Cd.seq ?_
 refine Cd.as (e' := [(7, iv (a0.length : Int)), (0, Sl.v (Sl.mk (Sl.a s_a0) ((a1 : Int).toNat + (a0.length - (a2 : Int).toNat)) (Sl.cap s_a0)))]) (L' := (.own Sl.nil 209 3 (encs ([] : List Word))) :: (.own (Sl.mk (Sl.a s_a0) ((a1 : Int).toNat + (a0.length - (a2 : Int).toNat)) (Sl.cap s_a0)) 209 3 (encs (a0.take ((a1 : Int).toNat) ++ a0.drop ((a2 : Int).toNat)))) :: L) ⟨rfl, rfl, trivial⟩ rfl ?_
 refine Cd.region ?_
 refine Lst.r (Ev.move rfl) ?_
 refine Lst.r (Ev.move rfl) ?_
 refine Lst.r (Ev.lenS (α := Word) (xs := (a0.take ((a1 : Int).toNat) ++ a0.drop ((a2 : Int).toNat))) (by decide) rfl rfl Try.runUnderlying112 (Rd.own (i := 1) rfl rfl rfl)) ?_
 refine Lst.r (Ev.move rfl) ?_
 refine Lst.r (Ev.cutBeyond (i := ((a0.take ((a1 : Int).toNat) ++ a0.drop ((a2 : Int).toNat)).length : Int)) (j := (a0.length : Int)) rfl rfl rfl Try.runUnderlying112 Try.sizeOf209 (Int.natCast_nonneg _) (Int.ofNat_le.2 (shift_len (by omega) (by omega))) (Int.ofNat_le.2 hc18)) ?_
 refine Lst.clearBehind (α := Word) (k := 1) (xs := (a0.take ((a1 : Int).toNat) ++ a0.drop ((a2 : Int).toNat))) rfl rfl rfl Try.runUnderlying112 Try.zeroValue209 Word.zero rfl rfl (by decide) rfl rfl (Nat.le_refl _) hc18 ?_
 refine Lst.nil ?_
 refine At.then ?_
 refine Cd.seq ?_
 refine Cd.region ?_
 refine Lst.r (Ev.move rfl) ?_
 refine Lst.r (Ev.assign rfl) ?_
 refine Lst.nil ?_
 refine At.then ?_
 obtain rfl := some_inj H
 refine Cd.ret ?_
 exact At.ret1 rfl (Res.tmp rfl) (FLe.refl _) (sc1 (sk1 (.refl _))) ⟨(Sl.mk (Sl.a s_a0) ((a1 : Int).toNat + (a0.length - (a2 : Int).toNat)) (Sl.cap s_a0)), rfl, rfl⟩
end Go.Proofs.Ytobikknjaomalaa
